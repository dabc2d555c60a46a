/- Part VB P36 of the proof: contracts of functions of the program, and what follows from them. -/
import Derived.Test.YtdlkohenamlnaaaGreatSxV0
import Derived.Test.YtdlkohenamlnaaaGreatSxM2
set_option maxRecDepth 10000
namespace Go.Proofs.YtdlkohenamlnaaaGreat
open Go Go.Sx

/-! ### l35_PartialretroBack -/
def l35_PartialretroBack_an : Ann := .node none (.leaf) (.node (some [0, 3]) (.leaf) (.node none (.leaf) (.node (some [3, 5]) (.node none (.leaf) (.loop [3, 5, 25, 26] [(27, .int .i64)] (.node none (.leaf) (.node none (.leaf) (.node (some [3, 5, 25, 26, 27]) (.leaf) (.leaf)))))) (.node (some [3, 5, 8, 9, 10]) (.plan (.qu 0 (.qu 2 (.qu 4 (.wo 1 (.wo 3 (.wo 5 (.wo 6 (.wo 7 (.wo 8 (.wo 9 (.wo 10 (.wo 11 .fin .no) .no) .no) .no) (.wo 8 (.wo 7 (.wo 9 (.wo 10 (.wo 11 .fin .no) .no) .no) .no) .no)) (.wo 7 (.wo 6 (.wo 8 (.wo 9 (.wo 10 (.wo 11 .fin .no) .no) .no) .no) (.wo 8 (.wo 6 (.wo 9 (.wo 10 (.wo 11 .fin .no) .no) .no) .no) .no)) (.wo 8 (.wo 6 (.wo 7 (.wo 9 (.wo 10 (.wo 11 .fin .no) .no) .no) .no) (.wo 7 (.wo 6 (.wo 9 (.wo 10 (.wo 11 .fin .no) .no) .no) .no) .no)) .no))) (.wo 6 (.wo 5 (.wo 7 (.wo 8 (.wo 9 (.wo 10 (.wo 11 .fin .no) .no) .no) .no) (.wo 8 (.wo 7 (.wo 9 (.wo 10 (.wo 11 .fin .no) .no) .no) .no) .no)) (.wo 7 (.wo 5 (.wo 8 (.wo 9 (.wo 10 (.wo 11 .fin .no) .no) .no) .no) (.wo 8 (.wo 5 (.wo 9 (.wo 10 (.wo 11 .fin .no) .no) .no) .no) .no)) (.wo 8 (.wo 5 (.wo 7 (.wo 9 (.wo 10 (.wo 11 .fin .no) .no) .no) .no) (.wo 7 (.wo 5 (.wo 9 (.wo 10 (.wo 11 .fin .no) .no) .no) .no) .no)) .no))) (.wo 7 (.wo 5 (.wo 6 (.wo 8 (.wo 9 (.wo 10 (.wo 11 .fin .no) .no) .no) .no) (.wo 8 (.wo 6 (.wo 9 (.wo 10 (.wo 11 .fin .no) .no) .no) .no) .no)) (.wo 6 (.wo 5 (.wo 8 (.wo 9 (.wo 10 (.wo 11 .fin .no) .no) .no) .no) (.wo 8 (.wo 5 (.wo 9 (.wo 10 (.wo 11 .fin .no) .no) .no) .no) .no)) (.wo 8 (.wo 5 (.wo 6 (.wo 9 (.wo 10 (.wo 11 .fin .no) .no) .no) .no) (.wo 6 (.wo 5 (.wo 9 (.wo 10 (.wo 11 .fin .no) .no) .no) .no) .no)) .no))) (.wo 8 (.wo 5 (.wo 6 (.wo 7 (.wo 9 (.wo 10 (.wo 11 .fin .no) .no) .no) .no) (.wo 7 (.wo 6 (.wo 9 (.wo 10 (.wo 11 .fin .no) .no) .no) .no) .no)) (.wo 6 (.wo 5 (.wo 7 (.wo 9 (.wo 10 (.wo 11 .fin .no) .no) .no) .no) (.wo 7 (.wo 5 (.wo 9 (.wo 10 (.wo 11 .fin .no) .no) .no) .no) .no)) (.wo 7 (.wo 5 (.wo 6 (.wo 9 (.wo 10 (.wo 11 .fin .no) .no) .no) .no) (.wo 6 (.wo 5 (.wo 9 (.wo 10 (.wo 11 .fin .no) .no) .no) .no) .no)) .no))) .no)))) (.wo 6 (.wo 3 (.wo 5 (.wo 7 (.wo 8 (.wo 9 (.wo 10 (.wo 11 .fin .no) .no) .no) .no) (.wo 8 (.wo 7 (.wo 9 (.wo 10 (.wo 11 .fin .no) .no) .no) .no) .no)) (.wo 7 (.wo 5 (.wo 8 (.wo 9 (.wo 10 (.wo 11 .fin .no) .no) .no) .no) (.wo 8 (.wo 5 (.wo 9 (.wo 10 (.wo 11 .fin .no) .no) .no) .no) .no)) (.wo 8 (.wo 5 (.wo 7 (.wo 9 (.wo 10 (.wo 11 .fin .no) .no) .no) .no) (.wo 7 (.wo 5 (.wo 9 (.wo 10 (.wo 11 .fin .no) .no) .no) .no) .no)) .no))) (.wo 7 (.wo 3 (.wo 5 (.wo 8 (.wo 9 (.wo 10 (.wo 11 .fin .no) .no) .no) .no) (.wo 8 (.wo 5 (.wo 9 (.wo 10 (.wo 11 .fin .no) .no) .no) .no) .no)) (.wo 8 (.wo 3 (.wo 5 (.wo 9 (.wo 10 (.wo 11 .fin .no) .no) .no) .no) .no) .no)) (.wo 8 (.wo 3 (.wo 5 (.wo 7 (.wo 9 (.wo 10 (.wo 11 .fin .no) .no) .no) .no) (.wo 7 (.wo 5 (.wo 9 (.wo 10 (.wo 11 .fin .no) .no) .no) .no) .no)) (.wo 7 (.wo 3 (.wo 5 (.wo 9 (.wo 10 (.wo 11 .fin .no) .no) .no) .no) .no) .no)) .no))) (.wo 7 (.wo 3 (.wo 5 (.wo 6 (.wo 8 (.wo 9 (.wo 10 (.wo 11 .fin .no) .no) .no) .no) (.wo 8 (.wo 6 (.wo 9 (.wo 10 (.wo 11 .fin .no) .no) .no) .no) .no)) (.wo 6 (.wo 5 (.wo 8 (.wo 9 (.wo 10 (.wo 11 .fin .no) .no) .no) .no) (.wo 8 (.wo 5 (.wo 9 (.wo 10 (.wo 11 .fin .no) .no) .no) .no) .no)) (.wo 8 (.wo 5 (.wo 6 (.wo 9 (.wo 10 (.wo 11 .fin .no) .no) .no) .no) (.wo 6 (.wo 5 (.wo 9 (.wo 10 (.wo 11 .fin .no) .no) .no) .no) .no)) .no))) (.wo 6 (.wo 3 (.wo 5 (.wo 8 (.wo 9 (.wo 10 (.wo 11 .fin .no) .no) .no) .no) (.wo 8 (.wo 5 (.wo 9 (.wo 10 (.wo 11 .fin .no) .no) .no) .no) .no)) (.wo 8 (.wo 3 (.wo 5 (.wo 9 (.wo 10 (.wo 11 .fin .no) .no) .no) .no) .no) .no)) (.wo 8 (.wo 3 (.wo 5 (.wo 6 (.wo 9 (.wo 10 (.wo 11 .fin .no) .no) .no) .no) (.wo 6 (.wo 5 (.wo 9 (.wo 10 (.wo 11 .fin .no) .no) .no) .no) .no)) (.wo 6 (.wo 3 (.wo 5 (.wo 9 (.wo 10 (.wo 11 .fin .no) .no) .no) .no) .no) .no)) .no))) (.wo 8 (.wo 3 (.wo 5 (.wo 6 (.wo 7 (.wo 9 (.wo 10 (.wo 11 .fin .no) .no) .no) .no) (.wo 7 (.wo 6 (.wo 9 (.wo 10 (.wo 11 .fin .no) .no) .no) .no) .no)) (.wo 6 (.wo 5 (.wo 7 (.wo 9 (.wo 10 (.wo 11 .fin .no) .no) .no) .no) (.wo 7 (.wo 5 (.wo 9 (.wo 10 (.wo 11 .fin .no) .no) .no) .no) .no)) (.wo 7 (.wo 5 (.wo 6 (.wo 9 (.wo 10 (.wo 11 .fin .no) .no) .no) .no) (.wo 6 (.wo 5 (.wo 9 (.wo 10 (.wo 11 .fin .no) .no) .no) .no) .no)) .no))) (.wo 6 (.wo 3 (.wo 5 (.wo 7 (.wo 9 (.wo 10 (.wo 11 .fin .no) .no) .no) .no) (.wo 7 (.wo 5 (.wo 9 (.wo 10 (.wo 11 .fin .no) .no) .no) .no) .no)) (.wo 7 (.wo 3 (.wo 5 (.wo 9 (.wo 10 (.wo 11 .fin .no) .no) .no) .no) .no) .no)) (.wo 7 (.wo 3 (.wo 5 (.wo 6 (.wo 9 (.wo 10 (.wo 11 .fin .no) .no) .no) .no) (.wo 6 (.wo 5 (.wo 9 (.wo 10 (.wo 11 .fin .no) .no) .no) .no) .no)) (.wo 6 (.wo 3 (.wo 5 (.wo 9 (.wo 10 (.wo 11 .fin .no) .no) .no) .no) .no) .no)) .no))) .no)))) (.wo 6 (.wo 1 (.wo 3 (.wo 5 (.wo 7 (.wo 8 (.wo 9 (.wo 10 (.wo 11 .fin .no) .no) .no) .no) (.wo 8 (.wo 7 (.wo 9 (.wo 10 (.wo 11 .fin .no) .no) .no) .no) .no)) (.wo 7 (.wo 5 (.wo 8 (.wo 9 (.wo 10 (.wo 11 .fin .no) .no) .no) .no) (.wo 8 (.wo 5 (.wo 9 (.wo 10 (.wo 11 .fin .no) .no) .no) .no) .no)) (.wo 8 (.wo 5 (.wo 7 (.wo 9 (.wo 10 (.wo 11 .fin .no) .no) .no) .no) (.wo 7 (.wo 5 (.wo 9 (.wo 10 (.wo 11 .fin .no) .no) .no) .no) .no)) .no))) (.wo 7 (.wo 3 (.wo 5 (.wo 8 (.wo 9 (.wo 10 (.wo 11 .fin .no) .no) .no) .no) (.wo 8 (.wo 5 (.wo 9 (.wo 10 (.wo 11 .fin .no) .no) .no) .no) .no)) (.wo 8 (.wo 3 (.wo 5 (.wo 9 (.wo 10 (.wo 11 .fin .no) .no) .no) .no) .no) .no)) (.wo 8 (.wo 3 (.wo 5 (.wo 7 (.wo 9 (.wo 10 (.wo 11 .fin .no) .no) .no) .no) (.wo 7 (.wo 5 (.wo 9 (.wo 10 (.wo 11 .fin .no) .no) .no) .no) .no)) (.wo 7 (.wo 3 (.wo 5 (.wo 9 (.wo 10 (.wo 11 .fin .no) .no) .no) .no) .no) .no)) .no))) (.wo 7 (.wo 1 (.wo 3 (.wo 5 (.wo 8 (.wo 9 (.wo 10 (.wo 11 .fin .no) .no) .no) .no) (.wo 8 (.wo 5 (.wo 9 (.wo 10 (.wo 11 .fin .no) .no) .no) .no) .no)) (.wo 8 (.wo 3 (.wo 5 (.wo 9 (.wo 10 (.wo 11 .fin .no) .no) .no) .no) .no) .no)) (.wo 8 (.wo 1 (.wo 3 (.wo 5 (.wo 9 (.wo 10 (.wo 11 .fin .no) .no) .no) .no) .no) .no) .no)) (.wo 8 (.wo 1 (.wo 3 (.wo 5 (.wo 7 (.wo 9 (.wo 10 (.wo 11 .fin .no) .no) .no) .no) (.wo 7 (.wo 5 (.wo 9 (.wo 10 (.wo 11 .fin .no) .no) .no) .no) .no)) (.wo 7 (.wo 3 (.wo 5 (.wo 9 (.wo 10 (.wo 11 .fin .no) .no) .no) .no) .no) .no)) (.wo 7 (.wo 1 (.wo 3 (.wo 5 (.wo 9 (.wo 10 (.wo 11 .fin .no) .no) .no) .no) .no) .no) .no)) .no))) (.wo 7 (.wo 1 (.wo 3 (.wo 5 (.wo 6 (.wo 8 (.wo 9 (.wo 10 (.wo 11 .fin .no) .no) .no) .no) (.wo 8 (.wo 6 (.wo 9 (.wo 10 (.wo 11 .fin .no) .no) .no) .no) .no)) (.wo 6 (.wo 5 (.wo 8 (.wo 9 (.wo 10 (.wo 11 .fin .no) .no) .no) .no) (.wo 8 (.wo 5 (.wo 9 (.wo 10 (.wo 11 .fin .no) .no) .no) .no) .no)) (.wo 8 (.wo 5 (.wo 6 (.wo 9 (.wo 10 (.wo 11 .fin .no) .no) .no) .no) (.wo 6 (.wo 5 (.wo 9 (.wo 10 (.wo 11 .fin .no) .no) .no) .no) .no)) .no))) (.wo 6 (.wo 3 (.wo 5 (.wo 8 (.wo 9 (.wo 10 (.wo 11 .fin .no) .no) .no) .no) (.wo 8 (.wo 5 (.wo 9 (.wo 10 (.wo 11 .fin .no) .no) .no) .no) .no)) (.wo 8 (.wo 3 (.wo 5 (.wo 9 (.wo 10 (.wo 11 .fin .no) .no) .no) .no) .no) .no)) (.wo 8 (.wo 3 (.wo 5 (.wo 6 (.wo 9 (.wo 10 (.wo 11 .fin .no) .no) .no) .no) (.wo 6 (.wo 5 (.wo 9 (.wo 10 (.wo 11 .fin .no) .no) .no) .no) .no)) (.wo 6 (.wo 3 (.wo 5 (.wo 9 (.wo 10 (.wo 11 .fin .no) .no) .no) .no) .no) .no)) .no))) (.wo 6 (.wo 1 (.wo 3 (.wo 5 (.wo 8 (.wo 9 (.wo 10 (.wo 11 .fin .no) .no) .no) .no) (.wo 8 (.wo 5 (.wo 9 (.wo 10 (.wo 11 .fin .no) .no) .no) .no) .no)) (.wo 8 (.wo 3 (.wo 5 (.wo 9 (.wo 10 (.wo 11 .fin .no) .no) .no) .no) .no) .no)) (.wo 8 (.wo 1 (.wo 3 (.wo 5 (.wo 9 (.wo 10 (.wo 11 .fin .no) .no) .no) .no) .no) .no) .no)) (.wo 8 (.wo 1 (.wo 3 (.wo 5 (.wo 6 (.wo 9 (.wo 10 (.wo 11 .fin .no) .no) .no) .no) (.wo 6 (.wo 5 (.wo 9 (.wo 10 (.wo 11 .fin .no) .no) .no) .no) .no)) (.wo 6 (.wo 3 (.wo 5 (.wo 9 (.wo 10 (.wo 11 .fin .no) .no) .no) .no) .no) .no)) (.wo 6 (.wo 1 (.wo 3 (.wo 5 (.wo 9 (.wo 10 (.wo 11 .fin .no) .no) .no) .no) .no) .no) .no)) .no))) (.wo 8 (.wo 1 (.wo 3 (.wo 5 (.wo 6 (.wo 7 (.wo 9 (.wo 10 (.wo 11 .fin .no) .no) .no) .no) (.wo 7 (.wo 6 (.wo 9 (.wo 10 (.wo 11 .fin .no) .no) .no) .no) .no)) (.wo 6 (.wo 5 (.wo 7 (.wo 9 (.wo 10 (.wo 11 .fin .no) .no) .no) .no) (.wo 7 (.wo 5 (.wo 9 (.wo 10 (.wo 11 .fin .no) .no) .no) .no) .no)) (.wo 7 (.wo 5 (.wo 6 (.wo 9 (.wo 10 (.wo 11 .fin .no) .no) .no) .no) (.wo 6 (.wo 5 (.wo 9 (.wo 10 (.wo 11 .fin .no) .no) .no) .no) .no)) .no))) (.wo 6 (.wo 3 (.wo 5 (.wo 7 (.wo 9 (.wo 10 (.wo 11 .fin .no) .no) .no) .no) (.wo 7 (.wo 5 (.wo 9 (.wo 10 (.wo 11 .fin .no) .no) .no) .no) .no)) (.wo 7 (.wo 3 (.wo 5 (.wo 9 (.wo 10 (.wo 11 .fin .no) .no) .no) .no) .no) .no)) (.wo 7 (.wo 3 (.wo 5 (.wo 6 (.wo 9 (.wo 10 (.wo 11 .fin .no) .no) .no) .no) (.wo 6 (.wo 5 (.wo 9 (.wo 10 (.wo 11 .fin .no) .no) .no) .no) .no)) (.wo 6 (.wo 3 (.wo 5 (.wo 9 (.wo 10 (.wo 11 .fin .no) .no) .no) .no) .no) .no)) .no))) (.wo 6 (.wo 1 (.wo 3 (.wo 5 (.wo 7 (.wo 9 (.wo 10 (.wo 11 .fin .no) .no) .no) .no) (.wo 7 (.wo 5 (.wo 9 (.wo 10 (.wo 11 .fin .no) .no) .no) .no) .no)) (.wo 7 (.wo 3 (.wo 5 (.wo 9 (.wo 10 (.wo 11 .fin .no) .no) .no) .no) .no) .no)) (.wo 7 (.wo 1 (.wo 3 (.wo 5 (.wo 9 (.wo 10 (.wo 11 .fin .no) .no) .no) .no) .no) .no) .no)) (.wo 7 (.wo 1 (.wo 3 (.wo 5 (.wo 6 (.wo 9 (.wo 10 (.wo 11 .fin .no) .no) .no) .no) (.wo 6 (.wo 5 (.wo 9 (.wo 10 (.wo 11 .fin .no) .no) .no) .no) .no)) (.wo 6 (.wo 3 (.wo 5 (.wo 9 (.wo 10 (.wo 11 .fin .no) .no) .no) .no) .no) .no)) (.wo 6 (.wo 1 (.wo 3 (.wo 5 (.wo 9 (.wo 10 (.wo 11 .fin .no) .no) .no) .no) .no) .no) .no)) .no))) .no)))))))) (.node none (.leaf) (.node (some [3, 5, 8, 9, 10, 11]) (.leaf) (.node none (.leaf) (.node none (.leaf) (.node none (.plan (.qu 0 (.qu 2 (.wo 1 (.wo 3 (.wo 4 .fin .no) .no) .no)))) (.node (some [3, 5, 9, 12, 13, 14]) (.leaf) (.node none (.leaf) (.node (some [3, 5, 9, 12, 13, 14, 15]) (.loop [3, 5, 9, 12, 13, 14] [(15, .int .i64)] (.node (some [3, 5, 9, 12, 13, 14, 15]) (.leaf) (.leaf))) (.node (some [3, 5, 12]) (.node none (.plan (.qu 0 (.qu 1 (.qu 2 (.qu 3 (.qu 4 (.qu 5 (.qu 6 (.qu 7 (.qu 9 (.qu 10 (.qu 11 (.qu 13 (.wo 8 (.wo 12 (.wo 14 (.qu 15 (.qu 16 (.qu 17 (.qu 18 (.qu 21 (.qu 22 (.qu 23 (.wo 19 (.qu 20 (.qu 24 (.qu 25 .fin))) .no)))))))) .no) .no) .no)))))))))))))) (.leaf)) (.leaf))))))))))))))
def l35_PartialretroBack_K0  (K : Value → Hp → Prop) : Exit → Env → Hp → Prop := retK Tryz.prog Tryz.f4.results.toList K
def l35_PartialretroBack_K1  (K : Value → Hp → Prop) : Exit → Env → Hp → Prop := thenE (fun env h => sx_6 Tryz.prog F 125 (cp [1, 1, 1, 1] (bodyOf Tryz.f4)) (ap [1, 1, 1, 1] l35_PartialretroBack_an) (rs [3, 5] env) h (l35_PartialretroBack_K0  K)) (l35_PartialretroBack_K0  K)
def l35_PartialretroBack_K2  (K : Value → Hp → Prop) : Exit → Env → Hp → Prop := blockE 0 (l35_PartialretroBack_K1  K)
def l35_PartialretroBack_K3 (nx0 : Int × Unit → Hp → Prop) (K : Value → Hp → Prop) : Exit → Env → Hp → Prop := thenE (fun env h => getV [(27, .int .i64)] env fun s => nx0 s h) (l35_PartialretroBack_K2  K)
def l35_PartialretroBack_K4  (K : Value → Hp → Prop) : Exit → Env → Hp → Prop := thenE (fun env h => sx_2 Tryz.prog F 125 (cp [1, 1, 1, 1, 1, 1, 1, 1, 1, 1, 1, 1, 1] (bodyOf Tryz.f4)) (ap [1, 1, 1, 1, 1, 1, 1, 1, 1, 1, 1, 1, 1] l35_PartialretroBack_an) (rs [3, 5, 9, 12, 13, 14, 15] env) h (l35_PartialretroBack_K0  K)) (l35_PartialretroBack_K0  K)
def l35_PartialretroBack_K5  (K : Value → Hp → Prop) : Exit → Env → Hp → Prop := blockE 2 (l35_PartialretroBack_K4  K)
def l35_PartialretroBack_K6 (nx0 : Int × Unit → Hp → Prop) (K : Value → Hp → Prop) : Exit → Env → Hp → Prop := thenE (fun env h => getV [(15, .int .i64)] env fun s => nx0 s h) (l35_PartialretroBack_K5  K)
def l35_PartialretroBack_b0 (l : Option Addr) (lL : Nat) (lC : Nat) (x_0 : Int) (x_1 : Int) (x_2 : Int) (x_3 : Int) (x_4 : Option Addr) (x_4L : Nat) (x_4C : Nat) (h : Hp)  (K : Value → Hp → Prop) : Prop :=
  sx_8 Tryz.prog F 125 (cp [] (bodyOf Tryz.f4)) (ap [] l35_PartialretroBack_an) [(0, .slice l lL lC), (1, .agg #[.int .i64 x_0, .int .i64 x_1, .int .i64 x_2, .int .i64 x_3, .slice x_4 x_4L x_4C])] h (l35_PartialretroBack_K0  K)
def l35_PartialretroBack_b1 (l : Option Addr) (lL : Nat) (lC : Nat) (x : Option Addr) (h : Hp)  (K : Value → Hp → Prop) : Prop :=
  sx_7 Tryz.prog F 125 (cp [1, 1] (bodyOf Tryz.f4)) (ap [1, 1] l35_PartialretroBack_an) [(0, .slice l lL lC), (3, .pointer x)] h (l35_PartialretroBack_K0  K)
def l35_PartialretroBack_b2 (t27 : Int) (x : Option Addr) (q : Option Addr) (t25 : Option Addr) (t25L : Nat) (t25C : Nat) (t26 : Int) (h : Hp) (nx0 : Int × Unit → Hp → Prop) (K : Value → Hp → Prop) : Prop :=
  sx_6 Tryz.prog F 125 (cp [1, 1, 1, 0, 1, 2, 2] (bodyOf Tryz.f4)) (ap [1, 1, 1, 0, 1, 2] l35_PartialretroBack_an) [(27, .int .i64 t27), (3, .pointer x), (5, .pointer q), (25, .slice t25 t25L t25C), (26, .int .i64 t26)] h (l35_PartialretroBack_K3 nx0 K)
def l35_PartialretroBack_b3 (x : Option Addr) (q : Option Addr) (t25 : Option Addr) (t25L : Nat) (t25C : Nat) (t26 : Int) (t27 : Int) (h : Hp) (nx0 : Int × Unit → Hp → Prop) (K : Value → Hp → Prop) : Prop :=
  sx_5 Tryz.prog F 125 (cp [1, 1, 1, 0, 1, 2, 2, 1, 1, 1] (bodyOf Tryz.f4)) (ap [1, 1, 1, 0, 1, 2, 1, 1, 1] l35_PartialretroBack_an) [(3, .pointer x), (5, .pointer q), (25, .slice t25 t25L t25C), (26, .int .i64 t26), (27, .int .i64 t27)] h (l35_PartialretroBack_K3 nx0 K)
def l35_PartialretroBack_b4 (x : Option Addr) (q : Option Addr) (h : Hp)  (K : Value → Hp → Prop) : Prop :=
  sx_6 Tryz.prog F 125 (cp [1, 1, 1, 1] (bodyOf Tryz.f4)) (ap [1, 1, 1, 1] l35_PartialretroBack_an) [(3, .pointer x), (5, .pointer q)] h (l35_PartialretroBack_K0  K)
def l35_PartialretroBack_b5 (x : Option Addr) (q : Option Addr) (keys : Option Addr) (atv : Option Addr) (bridges : Option Addr) (h : Hp)  (K : Value → Hp → Prop) : Prop :=
  sx_5 Tryz.prog F 125 (cp [1, 1, 1, 1, 1] (bodyOf Tryz.f4)) (ap [1, 1, 1, 1, 1] l35_PartialretroBack_an) [(3, .pointer x), (5, .pointer q), (8, .pointer keys), (9, .pointer atv), (10, .pointer bridges)] h (l35_PartialretroBack_K0  K)
def l35_PartialretroBack_b6 (x : Option Addr) (q : Option Addr) (keys : Option Addr) (atv : Option Addr) (bridges : Option Addr) (e : Int) (h : Hp)  (K : Value → Hp → Prop) : Prop :=
  sx_4 Tryz.prog F 125 (cp [1, 1, 1, 1, 1, 1, 1] (bodyOf Tryz.f4)) (ap [1, 1, 1, 1, 1, 1, 1] l35_PartialretroBack_an) [(3, .pointer x), (5, .pointer q), (8, .pointer keys), (9, .pointer atv), (10, .pointer bridges), (11, .int .i64 e)] h (l35_PartialretroBack_K0  K)
def l35_PartialretroBack_b7 (x : Option Addr) (q : Option Addr) (atv : Option Addr) (same : Value) (more : Option Addr) (moreL : Nat) (moreC : Nat) (less : Option Addr) (lessL : Nat) (lessC : Nat) (h : Hp)  (K : Value → Hp → Prop) : Prop :=
  sx_3 Tryz.prog F 125 (cp [1, 1, 1, 1, 1, 1, 1, 1, 1, 1, 1] (bodyOf Tryz.f4)) (ap [1, 1, 1, 1, 1, 1, 1, 1, 1, 1, 1] l35_PartialretroBack_an) [(3, .pointer x), (5, .pointer q), (9, .pointer atv), (12, same), (13, .slice more moreL moreC), (14, .slice less lessL lessC)] h (l35_PartialretroBack_K0  K)
def l35_PartialretroBack_b8 (i : Int) (x : Option Addr) (q : Option Addr) (atv : Option Addr) (same : Value) (more : Option Addr) (moreL : Nat) (moreC : Nat) (less : Option Addr) (lessL : Nat) (lessC : Nat) (h : Hp) (nx0 : Int × Unit → Hp → Prop) (K : Value → Hp → Prop) : Prop :=
  sx_2 Tryz.prog F 125 (cp [1, 1, 1, 1, 1, 1, 1, 1, 1, 1, 1, 1, 0, 2, 2] (bodyOf Tryz.f4)) (ap [1, 1, 1, 1, 1, 1, 1, 1, 1, 1, 1, 1, 0, 2] l35_PartialretroBack_an) [(15, .int .i64 i), (3, .pointer x), (5, .pointer q), (9, .pointer atv), (12, same), (13, .slice more moreL moreC), (14, .slice less lessL lessC)] h (l35_PartialretroBack_K6 nx0 K)
def l35_PartialretroBack_b9 (x : Option Addr) (q : Option Addr) (atv : Option Addr) (same : Value) (more : Option Addr) (moreL : Nat) (moreC : Nat) (less : Option Addr) (lessL : Nat) (lessC : Nat) (i : Int) (h : Hp) (nx0 : Int × Unit → Hp → Prop) (K : Value → Hp → Prop) : Prop :=
  sx_1 Tryz.prog F 125 (cp [1, 1, 1, 1, 1, 1, 1, 1, 1, 1, 1, 1, 0, 2, 2, 1] (bodyOf Tryz.f4)) (ap [1, 1, 1, 1, 1, 1, 1, 1, 1, 1, 1, 1, 0, 2, 1] l35_PartialretroBack_an) [(3, .pointer x), (5, .pointer q), (9, .pointer atv), (12, same), (13, .slice more moreL moreC), (14, .slice less lessL lessC), (15, .int .i64 i)] h (l35_PartialretroBack_K6 nx0 K)
def l35_PartialretroBack_b10 (x : Option Addr) (q : Option Addr) (atv : Option Addr) (same : Value) (more : Option Addr) (moreL : Nat) (moreC : Nat) (less : Option Addr) (lessL : Nat) (lessC : Nat) (i : Int) (h : Hp)  (K : Value → Hp → Prop) : Prop :=
  sx_2 Tryz.prog F 125 (cp [1, 1, 1, 1, 1, 1, 1, 1, 1, 1, 1, 1, 1] (bodyOf Tryz.f4)) (ap [1, 1, 1, 1, 1, 1, 1, 1, 1, 1, 1, 1, 1] l35_PartialretroBack_an) [(3, .pointer x), (5, .pointer q), (9, .pointer atv), (12, same), (13, .slice more moreL moreC), (14, .slice less lessL lessC), (15, .int .i64 i)] h (l35_PartialretroBack_K0  K)
def l35_PartialretroBack_b11 (x : Option Addr) (q : Option Addr) (same : Value) (h : Hp)  (K : Value → Hp → Prop) : Prop :=
  sx_1 Tryz.prog F 125 (cp [1, 1, 1, 1, 1, 1, 1, 1, 1, 1, 1, 1, 1, 1] (bodyOf Tryz.f4)) (ap [1, 1, 1, 1, 1, 1, 1, 1, 1, 1, 1, 1, 1, 1] l35_PartialretroBack_an) [(3, .pointer x), (5, .pointer q), (12, same)] h (l35_PartialretroBack_K0  K)
theorem l35_PartialretroBack_b0_eq (l : Option Addr) (lL : Nat) (lC : Nat) (x_0 : Int) (x_1 : Int) (x_2 : Int) (x_3 : Int) (x_4 : Option Addr) (x_4L : Nat) (x_4C : Nat) (h : Hp)  (K : Value → Hp → Prop) : l35_PartialretroBack_b0 l lL lC x_0 x_1 x_2 x_3 x_4 x_4L x_4C h  K = (
  New h (.cells #[.int .i64 x_0, .int .i64 x_1, .int .i64 x_2, .int .i64 x_3, .slice x_4 x_4L x_4C] 27) fun b1 h1 =>
  HCalls Tryz.prog 9 #[] h1 fun v1 h2 => ∃ r1 : Bool, v1 = .bool r1 ∧
  cond (!r1)
  (HCalls Tryz.prog 9 #[] h2 fun v2 h3 => ∃ r2 : Bool, v2 = .bool r2 ∧
  K (.bool r2) h3)
  (HCalls Tryz.prog 10 #[.slice l lL lC] h2 fun v3 h4 => ∃ r3 : Bool, v3 = .bool r3 ∧
  cond (!r3)
  (HCalls Tryz.prog 9 #[] h4 fun v4 h5 => ∃ r4 : Bool, v4 = .bool r4 ∧
  K (.bool r4) h5)
  (l35_PartialretroBack_b1 l lL lC (some ⟨b1, 0, none⟩) h4  K))) := by kernel_rfl
theorem l35_PartialretroBack_b1_eq (l : Option Addr) (lL : Nat) (lC : Nat) (x : Option Addr) (h : Hp)  (K : Value → Hp → Prop) : l35_PartialretroBack_b1 l lL lC x h  K = (
  HCalls Tryz.prog 13 #[] h fun v5 h6 => ∃ r5 : Option Addr, v5 = .pointer r5 ∧
  New h6 (.cells #[.pointer none] 31) fun b2 h7 =>
  Wr h7 ⟨b2, 0, none⟩ (.pointer r5) fun h8 =>
  LoopVC ((0, ()) : Int × Unit) h8 (fun (nx0 : Int × Unit → Hp → Prop) (s1 : Int × Unit) h9 => l35_PartialretroBack_b2 s1.1 x (some ⟨b2, 0, none⟩) l lL lC (lL : Int) h9 nx0 K)) := by kernel_rfl
theorem l35_PartialretroBack_b2_eq (t27 : Int) (x : Option Addr) (q : Option Addr) (t25 : Option Addr) (t25L : Nat) (t25C : Nat) (t26 : Int) (h : Hp) (nx0 : Int × Unit → Hp → Prop) (K : Value → Hp → Prop) : l35_PartialretroBack_b2 t27 x q t25 t25L t25C t26 h nx0 K = (
  cond (decide (t27 < t26))
  ((0 ≤ t27 ∧ t27 < (t25L : Int)) ∧
  NN t25 fun a1 =>
  ∃ n1 : Int, ∃ n2 : Int, ∃ n3 : Int, ∃ n4 : Int, ∃ (a2 : Option Addr) (L1 C1 : Nat), cell h (a1.add (Int.toNat t27 * 5)) = some (.int .i64 n1) ∧
  cell h ((a1.add (Int.toNat t27 * 5)).add 1) = some (.int .i64 n2) ∧
  cell h ((a1.add (Int.toNat t27 * 5)).add 2) = some (.int .i64 n3) ∧
  cell h ((a1.add (Int.toNat t27 * 5)).add 3) = some (.int .i64 n4) ∧
  cell h ((a1.add (Int.toNat t27 * 5)).add 4) = some (.slice a2 L1 C1) ∧
  New h (.cells #[.int .i64 0, .int .i64 0, .int .i64 0, .int .i64 0, .slice none 0 0] 27) fun b3 h10 =>
  Wr h10 ⟨b3, 0, none⟩ (.int .i64 n1) fun h11 =>
  Wr h11 ((⟨b3, 0, none⟩ : Addr).add 1) (.int .i64 n2) fun h12 =>
  Wr h12 ((⟨b3, 0, none⟩ : Addr).add 2) (.int .i64 n3) fun h13 =>
  Wr h13 ((⟨b3, 0, none⟩ : Addr).add 3) (.int .i64 n4) fun h14 =>
  Wr h14 ((⟨b3, 0, none⟩ : Addr).add 4) (.slice a2 L1 C1) fun h15 =>
  NN q fun a3 =>
  ∃ p1 : Option Addr, cell h15 a3 = some (.pointer p1) ∧
  ∃ n5 : Int, ∃ n6 : Int, ∃ n7 : Int, ∃ n8 : Int, ∃ (a4 : Option Addr) (L2 C2 : Nat), cell h15 ⟨b3, 0, none⟩ = some (.int .i64 n5) ∧
  cell h15 ((⟨b3, 0, none⟩ : Addr).add 1) = some (.int .i64 n6) ∧
  cell h15 ((⟨b3, 0, none⟩ : Addr).add 2) = some (.int .i64 n7) ∧
  cell h15 ((⟨b3, 0, none⟩ : Addr).add 3) = some (.int .i64 n8) ∧
  cell h15 ((⟨b3, 0, none⟩ : Addr).add 4) = some (.slice a4 L2 C2) ∧
  HCalls Tryz.prog 14 #[.pointer p1, .slice none 0 0, .agg #[.int .i64 n5, .int .i64 n6, .int .i64 n7, .int .i64 n8, .slice a4 L2 C2]] h15 fun v6 h16 => ∃ (r6 : Option Addr) (rL1 rC1 : Nat), ∃ r7 : Bool, v6 = .tuple #[.slice r6 rL1 rC1, .bool r7] ∧
  l35_PartialretroBack_b3 x q t25 t25L t25C t26 t27 h16 nx0 K)
  (l35_PartialretroBack_b4 x q h  K)) := by kernel_rfl
theorem l35_PartialretroBack_b3_eq (x : Option Addr) (q : Option Addr) (t25 : Option Addr) (t25L : Nat) (t25C : Nat) (t26 : Int) (t27 : Int) (h : Hp) (nx0 : Int × Unit → Hp → Prop) (K : Value → Hp → Prop) : l35_PartialretroBack_b3 x q t25 t25L t25C t26 t27 h nx0 K = (
  InR (t27 + 1) ∧
  nx0 (t27 + 1, ()) h) := by kernel_rfl
theorem l35_PartialretroBack_b4_eq (x : Option Addr) (q : Option Addr) (h : Hp)  (K : Value → Hp → Prop) : l35_PartialretroBack_b4 x q h  K = (
  NN q fun a5 =>
  ∃ p2 : Option Addr, cell h a5 = some (.pointer p2) ∧
  NN q fun a6 =>
  ∃ p3 : Option Addr, cell h a6 = some (.pointer p3) ∧
  NN q fun a7 =>
  ∃ p4 : Option Addr, cell h a7 = some (.pointer p4) ∧
  (HCalls Tryz.prog 16 #[.pointer p2] h fun v7 h17 => ∃ (r8 : Option Addr) (rL2 rC2 : Nat), v7 = .slice r8 rL2 rC2 ∧
  (NN q fun a8 =>
  ∃ p5 : Option Addr, cell h17 a8 = some (.pointer p5) ∧
  (.pointer p5 : Value) = .pointer p4) ∧
  (NN q fun a9 =>
  ∃ p6 : Option Addr, cell h17 a9 = some (.pointer p6) ∧
  (.pointer p6 : Value) = .pointer p3) ∧
  (HCalls Tryz.prog 27 #[.pointer p3] h17 fun v8 h18 => ∃ (r9 : Option Addr) (rL3 rC3 : Nat), v8 = .slice r9 rL3 rC3 ∧
  (NN q fun a10 =>
  ∃ p7 : Option Addr, cell h18 a10 = some (.pointer p7) ∧
  (.pointer p7 : Value) = .pointer p4) ∧
  (HCalls Tryz.prog 17 #[.pointer p4] h18 fun v9 h19 => ∃ (r10 : Option Addr) (rL4 rC4 : Nat), v9 = .slice r10 rL4 rC4 ∧
  (New h19 (.cells #[.slice none 0 0] 23) fun b4 h20 =>
  (New h20 (.cells #[.slice none 0 0] 23) fun b5 h21 =>
  New h21 (.cells #[.slice none 0 0] 23) fun b6 h22 =>
  Wr h22 ⟨b4, 0, none⟩ (.slice r8 rL2 rC2) fun h23 =>
  Wr h23 ⟨b5, 0, none⟩ (.slice r9 rL3 rC3) fun h24 =>
  Wr h24 ⟨b6, 0, none⟩ (.slice r10 rL4 rC4) fun h25 =>
  l35_PartialretroBack_b5 x q (some ⟨b4, 0, none⟩) (some ⟨b5, 0, none⟩) (some ⟨b6, 0, none⟩) h25  K) ∧
  (New h20 (.cells #[.slice none 0 0] 23) fun b7 h26 =>
  New h26 (.cells #[.slice none 0 0] 23) fun b8 h27 =>
  Wr h27 ⟨b4, 0, none⟩ (.slice r8 rL2 rC2) fun h28 =>
  Wr h28 ⟨b8, 0, none⟩ (.slice r9 rL3 rC3) fun h29 =>
  Wr h29 ⟨b7, 0, none⟩ (.slice r10 rL4 rC4) fun h30 =>
  l35_PartialretroBack_b5 x q (some ⟨b4, 0, none⟩) (some ⟨b8, 0, none⟩) (some ⟨b7, 0, none⟩) h30  K)) ∧
  (New h19 (.cells #[.slice none 0 0] 23) fun b9 h31 =>
  (New h31 (.cells #[.slice none 0 0] 23) fun b10 h32 =>
  New h32 (.cells #[.slice none 0 0] 23) fun b11 h33 =>
  Wr h33 ⟨b10, 0, none⟩ (.slice r8 rL2 rC2) fun h34 =>
  Wr h34 ⟨b9, 0, none⟩ (.slice r9 rL3 rC3) fun h35 =>
  Wr h35 ⟨b11, 0, none⟩ (.slice r10 rL4 rC4) fun h36 =>
  l35_PartialretroBack_b5 x q (some ⟨b10, 0, none⟩) (some ⟨b9, 0, none⟩) (some ⟨b11, 0, none⟩) h36  K) ∧
  (New h31 (.cells #[.slice none 0 0] 23) fun b12 h37 =>
  New h37 (.cells #[.slice none 0 0] 23) fun b13 h38 =>
  Wr h38 ⟨b13, 0, none⟩ (.slice r8 rL2 rC2) fun h39 =>
  Wr h39 ⟨b9, 0, none⟩ (.slice r9 rL3 rC3) fun h40 =>
  Wr h40 ⟨b12, 0, none⟩ (.slice r10 rL4 rC4) fun h41 =>
  l35_PartialretroBack_b5 x q (some ⟨b13, 0, none⟩) (some ⟨b9, 0, none⟩) (some ⟨b12, 0, none⟩) h41  K)) ∧
  (New h19 (.cells #[.slice none 0 0] 23) fun b14 h42 =>
  (New h42 (.cells #[.slice none 0 0] 23) fun b15 h43 =>
  New h43 (.cells #[.slice none 0 0] 23) fun b16 h44 =>
  Wr h44 ⟨b15, 0, none⟩ (.slice r8 rL2 rC2) fun h45 =>
  Wr h45 ⟨b16, 0, none⟩ (.slice r9 rL3 rC3) fun h46 =>
  Wr h46 ⟨b14, 0, none⟩ (.slice r10 rL4 rC4) fun h47 =>
  l35_PartialretroBack_b5 x q (some ⟨b15, 0, none⟩) (some ⟨b16, 0, none⟩) (some ⟨b14, 0, none⟩) h47  K) ∧
  (New h42 (.cells #[.slice none 0 0] 23) fun b17 h48 =>
  New h48 (.cells #[.slice none 0 0] 23) fun b18 h49 =>
  Wr h49 ⟨b18, 0, none⟩ (.slice r8 rL2 rC2) fun h50 =>
  Wr h50 ⟨b17, 0, none⟩ (.slice r9 rL3 rC3) fun h51 =>
  Wr h51 ⟨b14, 0, none⟩ (.slice r10 rL4 rC4) fun h52 =>
  l35_PartialretroBack_b5 x q (some ⟨b18, 0, none⟩) (some ⟨b17, 0, none⟩) (some ⟨b14, 0, none⟩) h52  K))) ∧
  (New h18 (.cells #[.slice none 0 0] 23) fun b19 h53 =>
  (NN q fun a11 =>
  ∃ p8 : Option Addr, cell h53 a11 = some (.pointer p8) ∧
  (.pointer p8 : Value) = .pointer p4) ∧
  (HCalls Tryz.prog 17 #[.pointer p4] h53 fun v10 h54 => ∃ (r11 : Option Addr) (rL5 rC5 : Nat), v10 = .slice r11 rL5 rC5 ∧
  (New h54 (.cells #[.slice none 0 0] 23) fun b20 h55 =>
  New h55 (.cells #[.slice none 0 0] 23) fun b21 h56 =>
  Wr h56 ⟨b19, 0, none⟩ (.slice r8 rL2 rC2) fun h57 =>
  Wr h57 ⟨b20, 0, none⟩ (.slice r9 rL3 rC3) fun h58 =>
  Wr h58 ⟨b21, 0, none⟩ (.slice r11 rL5 rC5) fun h59 =>
  l35_PartialretroBack_b5 x q (some ⟨b19, 0, none⟩) (some ⟨b20, 0, none⟩) (some ⟨b21, 0, none⟩) h59  K) ∧
  (New h54 (.cells #[.slice none 0 0] 23) fun b22 h60 =>
  New h60 (.cells #[.slice none 0 0] 23) fun b23 h61 =>
  Wr h61 ⟨b19, 0, none⟩ (.slice r8 rL2 rC2) fun h62 =>
  Wr h62 ⟨b23, 0, none⟩ (.slice r9 rL3 rC3) fun h63 =>
  Wr h63 ⟨b22, 0, none⟩ (.slice r11 rL5 rC5) fun h64 =>
  l35_PartialretroBack_b5 x q (some ⟨b19, 0, none⟩) (some ⟨b23, 0, none⟩) (some ⟨b22, 0, none⟩) h64  K)) ∧
  (New h53 (.cells #[.slice none 0 0] 23) fun b24 h65 =>
  (NN q fun a12 =>
  ∃ p9 : Option Addr, cell h65 a12 = some (.pointer p9) ∧
  (.pointer p9 : Value) = .pointer p4) ∧
  (HCalls Tryz.prog 17 #[.pointer p4] h65 fun v11 h66 => ∃ (r12 : Option Addr) (rL6 rC6 : Nat), v11 = .slice r12 rL6 rC6 ∧
  New h66 (.cells #[.slice none 0 0] 23) fun b25 h67 =>
  Wr h67 ⟨b19, 0, none⟩ (.slice r8 rL2 rC2) fun h68 =>
  Wr h68 ⟨b24, 0, none⟩ (.slice r9 rL3 rC3) fun h69 =>
  Wr h69 ⟨b25, 0, none⟩ (.slice r12 rL6 rC6) fun h70 =>
  l35_PartialretroBack_b5 x q (some ⟨b19, 0, none⟩) (some ⟨b24, 0, none⟩) (some ⟨b25, 0, none⟩) h70  K) ∧
  (New h65 (.cells #[.slice none 0 0] 23) fun b26 h71 =>
  (NN q fun a13 =>
  ∃ p10 : Option Addr, cell h71 a13 = some (.pointer p10) ∧
  (.pointer p10 : Value) = .pointer p4) ∧
  HCalls Tryz.prog 17 #[.pointer p4] h71 fun v12 h72 => ∃ (r13 : Option Addr) (rL7 rC7 : Nat), v12 = .slice r13 rL7 rC7 ∧
  Wr h72 ⟨b19, 0, none⟩ (.slice r8 rL2 rC2) fun h73 =>
  Wr h73 ⟨b24, 0, none⟩ (.slice r9 rL3 rC3) fun h74 =>
  Wr h74 ⟨b26, 0, none⟩ (.slice r13 rL7 rC7) fun h75 =>
  l35_PartialretroBack_b5 x q (some ⟨b19, 0, none⟩) (some ⟨b24, 0, none⟩) (some ⟨b26, 0, none⟩) h75  K)) ∧
  (New h53 (.cells #[.slice none 0 0] 23) fun b27 h76 =>
  (NN q fun a14 =>
  ∃ p11 : Option Addr, cell h76 a14 = some (.pointer p11) ∧
  (.pointer p11 : Value) = .pointer p4) ∧
  (HCalls Tryz.prog 17 #[.pointer p4] h76 fun v13 h77 => ∃ (r14 : Option Addr) (rL8 rC8 : Nat), v13 = .slice r14 rL8 rC8 ∧
  New h77 (.cells #[.slice none 0 0] 23) fun b28 h78 =>
  Wr h78 ⟨b19, 0, none⟩ (.slice r8 rL2 rC2) fun h79 =>
  Wr h79 ⟨b28, 0, none⟩ (.slice r9 rL3 rC3) fun h80 =>
  Wr h80 ⟨b27, 0, none⟩ (.slice r14 rL8 rC8) fun h81 =>
  l35_PartialretroBack_b5 x q (some ⟨b19, 0, none⟩) (some ⟨b28, 0, none⟩) (some ⟨b27, 0, none⟩) h81  K) ∧
  (New h76 (.cells #[.slice none 0 0] 23) fun b29 h82 =>
  (NN q fun a15 =>
  ∃ p12 : Option Addr, cell h82 a15 = some (.pointer p12) ∧
  (.pointer p12 : Value) = .pointer p4) ∧
  HCalls Tryz.prog 17 #[.pointer p4] h82 fun v14 h83 => ∃ (r15 : Option Addr) (rL9 rC9 : Nat), v14 = .slice r15 rL9 rC9 ∧
  Wr h83 ⟨b19, 0, none⟩ (.slice r8 rL2 rC2) fun h84 =>
  Wr h84 ⟨b29, 0, none⟩ (.slice r9 rL3 rC3) fun h85 =>
  Wr h85 ⟨b27, 0, none⟩ (.slice r15 rL9 rC9) fun h86 =>
  l35_PartialretroBack_b5 x q (some ⟨b19, 0, none⟩) (some ⟨b29, 0, none⟩) (some ⟨b27, 0, none⟩) h86  K))) ∧
  (New h18 (.cells #[.slice none 0 0] 23) fun b30 h87 =>
  (NN q fun a16 =>
  ∃ p13 : Option Addr, cell h87 a16 = some (.pointer p13) ∧
  (.pointer p13 : Value) = .pointer p4) ∧
  (HCalls Tryz.prog 17 #[.pointer p4] h87 fun v15 h88 => ∃ (r16 : Option Addr) (rL10 rC10 : Nat), v15 = .slice r16 rL10 rC10 ∧
  (New h88 (.cells #[.slice none 0 0] 23) fun b31 h89 =>
  New h89 (.cells #[.slice none 0 0] 23) fun b32 h90 =>
  Wr h90 ⟨b31, 0, none⟩ (.slice r8 rL2 rC2) fun h91 =>
  Wr h91 ⟨b30, 0, none⟩ (.slice r9 rL3 rC3) fun h92 =>
  Wr h92 ⟨b32, 0, none⟩ (.slice r16 rL10 rC10) fun h93 =>
  l35_PartialretroBack_b5 x q (some ⟨b31, 0, none⟩) (some ⟨b30, 0, none⟩) (some ⟨b32, 0, none⟩) h93  K) ∧
  (New h88 (.cells #[.slice none 0 0] 23) fun b33 h94 =>
  New h94 (.cells #[.slice none 0 0] 23) fun b34 h95 =>
  Wr h95 ⟨b34, 0, none⟩ (.slice r8 rL2 rC2) fun h96 =>
  Wr h96 ⟨b30, 0, none⟩ (.slice r9 rL3 rC3) fun h97 =>
  Wr h97 ⟨b33, 0, none⟩ (.slice r16 rL10 rC10) fun h98 =>
  l35_PartialretroBack_b5 x q (some ⟨b34, 0, none⟩) (some ⟨b30, 0, none⟩) (some ⟨b33, 0, none⟩) h98  K)) ∧
  (New h87 (.cells #[.slice none 0 0] 23) fun b35 h99 =>
  (NN q fun a17 =>
  ∃ p14 : Option Addr, cell h99 a17 = some (.pointer p14) ∧
  (.pointer p14 : Value) = .pointer p4) ∧
  (HCalls Tryz.prog 17 #[.pointer p4] h99 fun v16 h100 => ∃ (r17 : Option Addr) (rL11 rC11 : Nat), v16 = .slice r17 rL11 rC11 ∧
  New h100 (.cells #[.slice none 0 0] 23) fun b36 h101 =>
  Wr h101 ⟨b35, 0, none⟩ (.slice r8 rL2 rC2) fun h102 =>
  Wr h102 ⟨b30, 0, none⟩ (.slice r9 rL3 rC3) fun h103 =>
  Wr h103 ⟨b36, 0, none⟩ (.slice r17 rL11 rC11) fun h104 =>
  l35_PartialretroBack_b5 x q (some ⟨b35, 0, none⟩) (some ⟨b30, 0, none⟩) (some ⟨b36, 0, none⟩) h104  K) ∧
  (New h99 (.cells #[.slice none 0 0] 23) fun b37 h105 =>
  (NN q fun a18 =>
  ∃ p15 : Option Addr, cell h105 a18 = some (.pointer p15) ∧
  (.pointer p15 : Value) = .pointer p4) ∧
  HCalls Tryz.prog 17 #[.pointer p4] h105 fun v17 h106 => ∃ (r18 : Option Addr) (rL12 rC12 : Nat), v17 = .slice r18 rL12 rC12 ∧
  Wr h106 ⟨b35, 0, none⟩ (.slice r8 rL2 rC2) fun h107 =>
  Wr h107 ⟨b30, 0, none⟩ (.slice r9 rL3 rC3) fun h108 =>
  Wr h108 ⟨b37, 0, none⟩ (.slice r18 rL12 rC12) fun h109 =>
  l35_PartialretroBack_b5 x q (some ⟨b35, 0, none⟩) (some ⟨b30, 0, none⟩) (some ⟨b37, 0, none⟩) h109  K)) ∧
  (New h87 (.cells #[.slice none 0 0] 23) fun b38 h110 =>
  (NN q fun a19 =>
  ∃ p16 : Option Addr, cell h110 a19 = some (.pointer p16) ∧
  (.pointer p16 : Value) = .pointer p4) ∧
  (HCalls Tryz.prog 17 #[.pointer p4] h110 fun v18 h111 => ∃ (r19 : Option Addr) (rL13 rC13 : Nat), v18 = .slice r19 rL13 rC13 ∧
  New h111 (.cells #[.slice none 0 0] 23) fun b39 h112 =>
  Wr h112 ⟨b39, 0, none⟩ (.slice r8 rL2 rC2) fun h113 =>
  Wr h113 ⟨b30, 0, none⟩ (.slice r9 rL3 rC3) fun h114 =>
  Wr h114 ⟨b38, 0, none⟩ (.slice r19 rL13 rC13) fun h115 =>
  l35_PartialretroBack_b5 x q (some ⟨b39, 0, none⟩) (some ⟨b30, 0, none⟩) (some ⟨b38, 0, none⟩) h115  K) ∧
  (New h110 (.cells #[.slice none 0 0] 23) fun b40 h116 =>
  (NN q fun a20 =>
  ∃ p17 : Option Addr, cell h116 a20 = some (.pointer p17) ∧
  (.pointer p17 : Value) = .pointer p4) ∧
  HCalls Tryz.prog 17 #[.pointer p4] h116 fun v19 h117 => ∃ (r20 : Option Addr) (rL14 rC14 : Nat), v19 = .slice r20 rL14 rC14 ∧
  Wr h117 ⟨b40, 0, none⟩ (.slice r8 rL2 rC2) fun h118 =>
  Wr h118 ⟨b30, 0, none⟩ (.slice r9 rL3 rC3) fun h119 =>
  Wr h119 ⟨b38, 0, none⟩ (.slice r20 rL14 rC14) fun h120 =>
  l35_PartialretroBack_b5 x q (some ⟨b40, 0, none⟩) (some ⟨b30, 0, none⟩) (some ⟨b38, 0, none⟩) h120  K))) ∧
  (New h18 (.cells #[.slice none 0 0] 23) fun b41 h121 =>
  (NN q fun a21 =>
  ∃ p18 : Option Addr, cell h121 a21 = some (.pointer p18) ∧
  (.pointer p18 : Value) = .pointer p4) ∧
  (HCalls Tryz.prog 17 #[.pointer p4] h121 fun v20 h122 => ∃ (r21 : Option Addr) (rL15 rC15 : Nat), v20 = .slice r21 rL15 rC15 ∧
  (New h122 (.cells #[.slice none 0 0] 23) fun b42 h123 =>
  New h123 (.cells #[.slice none 0 0] 23) fun b43 h124 =>
  Wr h124 ⟨b42, 0, none⟩ (.slice r8 rL2 rC2) fun h125 =>
  Wr h125 ⟨b43, 0, none⟩ (.slice r9 rL3 rC3) fun h126 =>
  Wr h126 ⟨b41, 0, none⟩ (.slice r21 rL15 rC15) fun h127 =>
  l35_PartialretroBack_b5 x q (some ⟨b42, 0, none⟩) (some ⟨b43, 0, none⟩) (some ⟨b41, 0, none⟩) h127  K) ∧
  (New h122 (.cells #[.slice none 0 0] 23) fun b44 h128 =>
  New h128 (.cells #[.slice none 0 0] 23) fun b45 h129 =>
  Wr h129 ⟨b45, 0, none⟩ (.slice r8 rL2 rC2) fun h130 =>
  Wr h130 ⟨b44, 0, none⟩ (.slice r9 rL3 rC3) fun h131 =>
  Wr h131 ⟨b41, 0, none⟩ (.slice r21 rL15 rC15) fun h132 =>
  l35_PartialretroBack_b5 x q (some ⟨b45, 0, none⟩) (some ⟨b44, 0, none⟩) (some ⟨b41, 0, none⟩) h132  K)) ∧
  (New h121 (.cells #[.slice none 0 0] 23) fun b46 h133 =>
  (NN q fun a22 =>
  ∃ p19 : Option Addr, cell h133 a22 = some (.pointer p19) ∧
  (.pointer p19 : Value) = .pointer p4) ∧
  (HCalls Tryz.prog 17 #[.pointer p4] h133 fun v21 h134 => ∃ (r22 : Option Addr) (rL16 rC16 : Nat), v21 = .slice r22 rL16 rC16 ∧
  New h134 (.cells #[.slice none 0 0] 23) fun b47 h135 =>
  Wr h135 ⟨b46, 0, none⟩ (.slice r8 rL2 rC2) fun h136 =>
  Wr h136 ⟨b47, 0, none⟩ (.slice r9 rL3 rC3) fun h137 =>
  Wr h137 ⟨b41, 0, none⟩ (.slice r22 rL16 rC16) fun h138 =>
  l35_PartialretroBack_b5 x q (some ⟨b46, 0, none⟩) (some ⟨b47, 0, none⟩) (some ⟨b41, 0, none⟩) h138  K) ∧
  (New h133 (.cells #[.slice none 0 0] 23) fun b48 h139 =>
  (NN q fun a23 =>
  ∃ p20 : Option Addr, cell h139 a23 = some (.pointer p20) ∧
  (.pointer p20 : Value) = .pointer p4) ∧
  HCalls Tryz.prog 17 #[.pointer p4] h139 fun v22 h140 => ∃ (r23 : Option Addr) (rL17 rC17 : Nat), v22 = .slice r23 rL17 rC17 ∧
  Wr h140 ⟨b46, 0, none⟩ (.slice r8 rL2 rC2) fun h141 =>
  Wr h141 ⟨b48, 0, none⟩ (.slice r9 rL3 rC3) fun h142 =>
  Wr h142 ⟨b41, 0, none⟩ (.slice r23 rL17 rC17) fun h143 =>
  l35_PartialretroBack_b5 x q (some ⟨b46, 0, none⟩) (some ⟨b48, 0, none⟩) (some ⟨b41, 0, none⟩) h143  K)) ∧
  (New h121 (.cells #[.slice none 0 0] 23) fun b49 h144 =>
  (NN q fun a24 =>
  ∃ p21 : Option Addr, cell h144 a24 = some (.pointer p21) ∧
  (.pointer p21 : Value) = .pointer p4) ∧
  (HCalls Tryz.prog 17 #[.pointer p4] h144 fun v23 h145 => ∃ (r24 : Option Addr) (rL18 rC18 : Nat), v23 = .slice r24 rL18 rC18 ∧
  New h145 (.cells #[.slice none 0 0] 23) fun b50 h146 =>
  Wr h146 ⟨b50, 0, none⟩ (.slice r8 rL2 rC2) fun h147 =>
  Wr h147 ⟨b49, 0, none⟩ (.slice r9 rL3 rC3) fun h148 =>
  Wr h148 ⟨b41, 0, none⟩ (.slice r24 rL18 rC18) fun h149 =>
  l35_PartialretroBack_b5 x q (some ⟨b50, 0, none⟩) (some ⟨b49, 0, none⟩) (some ⟨b41, 0, none⟩) h149  K) ∧
  (New h144 (.cells #[.slice none 0 0] 23) fun b51 h150 =>
  (NN q fun a25 =>
  ∃ p22 : Option Addr, cell h150 a25 = some (.pointer p22) ∧
  (.pointer p22 : Value) = .pointer p4) ∧
  HCalls Tryz.prog 17 #[.pointer p4] h150 fun v24 h151 => ∃ (r25 : Option Addr) (rL19 rC19 : Nat), v24 = .slice r25 rL19 rC19 ∧
  Wr h151 ⟨b51, 0, none⟩ (.slice r8 rL2 rC2) fun h152 =>
  Wr h152 ⟨b49, 0, none⟩ (.slice r9 rL3 rC3) fun h153 =>
  Wr h153 ⟨b41, 0, none⟩ (.slice r25 rL19 rC19) fun h154 =>
  l35_PartialretroBack_b5 x q (some ⟨b51, 0, none⟩) (some ⟨b49, 0, none⟩) (some ⟨b41, 0, none⟩) h154  K)))) ∧
  (New h17 (.cells #[.slice none 0 0] 23) fun b52 h155 =>
  (NN q fun a26 =>
  ∃ p23 : Option Addr, cell h155 a26 = some (.pointer p23) ∧
  (.pointer p23 : Value) = .pointer p4) ∧
  (NN q fun a27 =>
  ∃ p24 : Option Addr, cell h155 a27 = some (.pointer p24) ∧
  (.pointer p24 : Value) = .pointer p3) ∧
  (HCalls Tryz.prog 27 #[.pointer p3] h155 fun v25 h156 => ∃ (r26 : Option Addr) (rL20 rC20 : Nat), v25 = .slice r26 rL20 rC20 ∧
  (NN q fun a28 =>
  ∃ p25 : Option Addr, cell h156 a28 = some (.pointer p25) ∧
  (.pointer p25 : Value) = .pointer p4) ∧
  (HCalls Tryz.prog 17 #[.pointer p4] h156 fun v26 h157 => ∃ (r27 : Option Addr) (rL21 rC21 : Nat), v26 = .slice r27 rL21 rC21 ∧
  (New h157 (.cells #[.slice none 0 0] 23) fun b53 h158 =>
  New h158 (.cells #[.slice none 0 0] 23) fun b54 h159 =>
  Wr h159 ⟨b52, 0, none⟩ (.slice r8 rL2 rC2) fun h160 =>
  Wr h160 ⟨b53, 0, none⟩ (.slice r26 rL20 rC20) fun h161 =>
  Wr h161 ⟨b54, 0, none⟩ (.slice r27 rL21 rC21) fun h162 =>
  l35_PartialretroBack_b5 x q (some ⟨b52, 0, none⟩) (some ⟨b53, 0, none⟩) (some ⟨b54, 0, none⟩) h162  K) ∧
  (New h157 (.cells #[.slice none 0 0] 23) fun b55 h163 =>
  New h163 (.cells #[.slice none 0 0] 23) fun b56 h164 =>
  Wr h164 ⟨b52, 0, none⟩ (.slice r8 rL2 rC2) fun h165 =>
  Wr h165 ⟨b56, 0, none⟩ (.slice r26 rL20 rC20) fun h166 =>
  Wr h166 ⟨b55, 0, none⟩ (.slice r27 rL21 rC21) fun h167 =>
  l35_PartialretroBack_b5 x q (some ⟨b52, 0, none⟩) (some ⟨b56, 0, none⟩) (some ⟨b55, 0, none⟩) h167  K)) ∧
  (New h156 (.cells #[.slice none 0 0] 23) fun b57 h168 =>
  (NN q fun a29 =>
  ∃ p26 : Option Addr, cell h168 a29 = some (.pointer p26) ∧
  (.pointer p26 : Value) = .pointer p4) ∧
  (HCalls Tryz.prog 17 #[.pointer p4] h168 fun v27 h169 => ∃ (r28 : Option Addr) (rL22 rC22 : Nat), v27 = .slice r28 rL22 rC22 ∧
  New h169 (.cells #[.slice none 0 0] 23) fun b58 h170 =>
  Wr h170 ⟨b52, 0, none⟩ (.slice r8 rL2 rC2) fun h171 =>
  Wr h171 ⟨b57, 0, none⟩ (.slice r26 rL20 rC20) fun h172 =>
  Wr h172 ⟨b58, 0, none⟩ (.slice r28 rL22 rC22) fun h173 =>
  l35_PartialretroBack_b5 x q (some ⟨b52, 0, none⟩) (some ⟨b57, 0, none⟩) (some ⟨b58, 0, none⟩) h173  K) ∧
  (New h168 (.cells #[.slice none 0 0] 23) fun b59 h174 =>
  (NN q fun a30 =>
  ∃ p27 : Option Addr, cell h174 a30 = some (.pointer p27) ∧
  (.pointer p27 : Value) = .pointer p4) ∧
  HCalls Tryz.prog 17 #[.pointer p4] h174 fun v28 h175 => ∃ (r29 : Option Addr) (rL23 rC23 : Nat), v28 = .slice r29 rL23 rC23 ∧
  Wr h175 ⟨b52, 0, none⟩ (.slice r8 rL2 rC2) fun h176 =>
  Wr h176 ⟨b57, 0, none⟩ (.slice r26 rL20 rC20) fun h177 =>
  Wr h177 ⟨b59, 0, none⟩ (.slice r29 rL23 rC23) fun h178 =>
  l35_PartialretroBack_b5 x q (some ⟨b52, 0, none⟩) (some ⟨b57, 0, none⟩) (some ⟨b59, 0, none⟩) h178  K)) ∧
  (New h156 (.cells #[.slice none 0 0] 23) fun b60 h179 =>
  (NN q fun a31 =>
  ∃ p28 : Option Addr, cell h179 a31 = some (.pointer p28) ∧
  (.pointer p28 : Value) = .pointer p4) ∧
  (HCalls Tryz.prog 17 #[.pointer p4] h179 fun v29 h180 => ∃ (r30 : Option Addr) (rL24 rC24 : Nat), v29 = .slice r30 rL24 rC24 ∧
  New h180 (.cells #[.slice none 0 0] 23) fun b61 h181 =>
  Wr h181 ⟨b52, 0, none⟩ (.slice r8 rL2 rC2) fun h182 =>
  Wr h182 ⟨b61, 0, none⟩ (.slice r26 rL20 rC20) fun h183 =>
  Wr h183 ⟨b60, 0, none⟩ (.slice r30 rL24 rC24) fun h184 =>
  l35_PartialretroBack_b5 x q (some ⟨b52, 0, none⟩) (some ⟨b61, 0, none⟩) (some ⟨b60, 0, none⟩) h184  K) ∧
  (New h179 (.cells #[.slice none 0 0] 23) fun b62 h185 =>
  (NN q fun a32 =>
  ∃ p29 : Option Addr, cell h185 a32 = some (.pointer p29) ∧
  (.pointer p29 : Value) = .pointer p4) ∧
  HCalls Tryz.prog 17 #[.pointer p4] h185 fun v30 h186 => ∃ (r31 : Option Addr) (rL25 rC25 : Nat), v30 = .slice r31 rL25 rC25 ∧
  Wr h186 ⟨b52, 0, none⟩ (.slice r8 rL2 rC2) fun h187 =>
  Wr h187 ⟨b62, 0, none⟩ (.slice r26 rL20 rC20) fun h188 =>
  Wr h188 ⟨b60, 0, none⟩ (.slice r31 rL25 rC25) fun h189 =>
  l35_PartialretroBack_b5 x q (some ⟨b52, 0, none⟩) (some ⟨b62, 0, none⟩) (some ⟨b60, 0, none⟩) h189  K))) ∧
  (New h155 (.cells #[.slice none 0 0] 23) fun b63 h190 =>
  (NN q fun a33 =>
  ∃ p30 : Option Addr, cell h190 a33 = some (.pointer p30) ∧
  (.pointer p30 : Value) = .pointer p4) ∧
  (NN q fun a34 =>
  ∃ p31 : Option Addr, cell h190 a34 = some (.pointer p31) ∧
  (.pointer p31 : Value) = .pointer p3) ∧
  (HCalls Tryz.prog 27 #[.pointer p3] h190 fun v31 h191 => ∃ (r32 : Option Addr) (rL26 rC26 : Nat), v31 = .slice r32 rL26 rC26 ∧
  (NN q fun a35 =>
  ∃ p32 : Option Addr, cell h191 a35 = some (.pointer p32) ∧
  (.pointer p32 : Value) = .pointer p4) ∧
  (HCalls Tryz.prog 17 #[.pointer p4] h191 fun v32 h192 => ∃ (r33 : Option Addr) (rL27 rC27 : Nat), v32 = .slice r33 rL27 rC27 ∧
  New h192 (.cells #[.slice none 0 0] 23) fun b64 h193 =>
  Wr h193 ⟨b52, 0, none⟩ (.slice r8 rL2 rC2) fun h194 =>
  Wr h194 ⟨b63, 0, none⟩ (.slice r32 rL26 rC26) fun h195 =>
  Wr h195 ⟨b64, 0, none⟩ (.slice r33 rL27 rC27) fun h196 =>
  l35_PartialretroBack_b5 x q (some ⟨b52, 0, none⟩) (some ⟨b63, 0, none⟩) (some ⟨b64, 0, none⟩) h196  K) ∧
  (New h191 (.cells #[.slice none 0 0] 23) fun b65 h197 =>
  (NN q fun a36 =>
  ∃ p33 : Option Addr, cell h197 a36 = some (.pointer p33) ∧
  (.pointer p33 : Value) = .pointer p4) ∧
  HCalls Tryz.prog 17 #[.pointer p4] h197 fun v33 h198 => ∃ (r34 : Option Addr) (rL28 rC28 : Nat), v33 = .slice r34 rL28 rC28 ∧
  Wr h198 ⟨b52, 0, none⟩ (.slice r8 rL2 rC2) fun h199 =>
  Wr h199 ⟨b63, 0, none⟩ (.slice r32 rL26 rC26) fun h200 =>
  Wr h200 ⟨b65, 0, none⟩ (.slice r34 rL28 rC28) fun h201 =>
  l35_PartialretroBack_b5 x q (some ⟨b52, 0, none⟩) (some ⟨b63, 0, none⟩) (some ⟨b65, 0, none⟩) h201  K)) ∧
  (New h190 (.cells #[.slice none 0 0] 23) fun b66 h202 =>
  (NN q fun a37 =>
  ∃ p34 : Option Addr, cell h202 a37 = some (.pointer p34) ∧
  (.pointer p34 : Value) = .pointer p4) ∧
  (NN q fun a38 =>
  ∃ p35 : Option Addr, cell h202 a38 = some (.pointer p35) ∧
  (.pointer p35 : Value) = .pointer p3) ∧
  HCalls Tryz.prog 27 #[.pointer p3] h202 fun v34 h203 => ∃ (r35 : Option Addr) (rL29 rC29 : Nat), v34 = .slice r35 rL29 rC29 ∧
  (NN q fun a39 =>
  ∃ p36 : Option Addr, cell h203 a39 = some (.pointer p36) ∧
  (.pointer p36 : Value) = .pointer p4) ∧
  HCalls Tryz.prog 17 #[.pointer p4] h203 fun v35 h204 => ∃ (r36 : Option Addr) (rL30 rC30 : Nat), v35 = .slice r36 rL30 rC30 ∧
  Wr h204 ⟨b52, 0, none⟩ (.slice r8 rL2 rC2) fun h205 =>
  Wr h205 ⟨b63, 0, none⟩ (.slice r35 rL29 rC29) fun h206 =>
  Wr h206 ⟨b66, 0, none⟩ (.slice r36 rL30 rC30) fun h207 =>
  l35_PartialretroBack_b5 x q (some ⟨b52, 0, none⟩) (some ⟨b63, 0, none⟩) (some ⟨b66, 0, none⟩) h207  K)) ∧
  (New h155 (.cells #[.slice none 0 0] 23) fun b67 h208 =>
  (NN q fun a40 =>
  ∃ p37 : Option Addr, cell h208 a40 = some (.pointer p37) ∧
  (.pointer p37 : Value) = .pointer p4) ∧
  (NN q fun a41 =>
  ∃ p38 : Option Addr, cell h208 a41 = some (.pointer p38) ∧
  (.pointer p38 : Value) = .pointer p3) ∧
  (HCalls Tryz.prog 27 #[.pointer p3] h208 fun v36 h209 => ∃ (r37 : Option Addr) (rL31 rC31 : Nat), v36 = .slice r37 rL31 rC31 ∧
  (NN q fun a42 =>
  ∃ p39 : Option Addr, cell h209 a42 = some (.pointer p39) ∧
  (.pointer p39 : Value) = .pointer p4) ∧
  (HCalls Tryz.prog 17 #[.pointer p4] h209 fun v37 h210 => ∃ (r38 : Option Addr) (rL32 rC32 : Nat), v37 = .slice r38 rL32 rC32 ∧
  New h210 (.cells #[.slice none 0 0] 23) fun b68 h211 =>
  Wr h211 ⟨b52, 0, none⟩ (.slice r8 rL2 rC2) fun h212 =>
  Wr h212 ⟨b68, 0, none⟩ (.slice r37 rL31 rC31) fun h213 =>
  Wr h213 ⟨b67, 0, none⟩ (.slice r38 rL32 rC32) fun h214 =>
  l35_PartialretroBack_b5 x q (some ⟨b52, 0, none⟩) (some ⟨b68, 0, none⟩) (some ⟨b67, 0, none⟩) h214  K) ∧
  (New h209 (.cells #[.slice none 0 0] 23) fun b69 h215 =>
  (NN q fun a43 =>
  ∃ p40 : Option Addr, cell h215 a43 = some (.pointer p40) ∧
  (.pointer p40 : Value) = .pointer p4) ∧
  HCalls Tryz.prog 17 #[.pointer p4] h215 fun v38 h216 => ∃ (r39 : Option Addr) (rL33 rC33 : Nat), v38 = .slice r39 rL33 rC33 ∧
  Wr h216 ⟨b52, 0, none⟩ (.slice r8 rL2 rC2) fun h217 =>
  Wr h217 ⟨b69, 0, none⟩ (.slice r37 rL31 rC31) fun h218 =>
  Wr h218 ⟨b67, 0, none⟩ (.slice r39 rL33 rC33) fun h219 =>
  l35_PartialretroBack_b5 x q (some ⟨b52, 0, none⟩) (some ⟨b69, 0, none⟩) (some ⟨b67, 0, none⟩) h219  K)) ∧
  (New h208 (.cells #[.slice none 0 0] 23) fun b70 h220 =>
  (NN q fun a44 =>
  ∃ p41 : Option Addr, cell h220 a44 = some (.pointer p41) ∧
  (.pointer p41 : Value) = .pointer p4) ∧
  (NN q fun a45 =>
  ∃ p42 : Option Addr, cell h220 a45 = some (.pointer p42) ∧
  (.pointer p42 : Value) = .pointer p3) ∧
  HCalls Tryz.prog 27 #[.pointer p3] h220 fun v39 h221 => ∃ (r40 : Option Addr) (rL34 rC34 : Nat), v39 = .slice r40 rL34 rC34 ∧
  (NN q fun a46 =>
  ∃ p43 : Option Addr, cell h221 a46 = some (.pointer p43) ∧
  (.pointer p43 : Value) = .pointer p4) ∧
  HCalls Tryz.prog 17 #[.pointer p4] h221 fun v40 h222 => ∃ (r41 : Option Addr) (rL35 rC35 : Nat), v40 = .slice r41 rL35 rC35 ∧
  Wr h222 ⟨b52, 0, none⟩ (.slice r8 rL2 rC2) fun h223 =>
  Wr h223 ⟨b70, 0, none⟩ (.slice r40 rL34 rC34) fun h224 =>
  Wr h224 ⟨b67, 0, none⟩ (.slice r41 rL35 rC35) fun h225 =>
  l35_PartialretroBack_b5 x q (some ⟨b52, 0, none⟩) (some ⟨b70, 0, none⟩) (some ⟨b67, 0, none⟩) h225  K))) ∧
  (New h17 (.cells #[.slice none 0 0] 23) fun b71 h226 =>
  (NN q fun a47 =>
  ∃ p44 : Option Addr, cell h226 a47 = some (.pointer p44) ∧
  (.pointer p44 : Value) = .pointer p4) ∧
  (NN q fun a48 =>
  ∃ p45 : Option Addr, cell h226 a48 = some (.pointer p45) ∧
  (.pointer p45 : Value) = .pointer p3) ∧
  (HCalls Tryz.prog 27 #[.pointer p3] h226 fun v41 h227 => ∃ (r42 : Option Addr) (rL36 rC36 : Nat), v41 = .slice r42 rL36 rC36 ∧
  (NN q fun a49 =>
  ∃ p46 : Option Addr, cell h227 a49 = some (.pointer p46) ∧
  (.pointer p46 : Value) = .pointer p4) ∧
  (HCalls Tryz.prog 17 #[.pointer p4] h227 fun v42 h228 => ∃ (r43 : Option Addr) (rL37 rC37 : Nat), v42 = .slice r43 rL37 rC37 ∧
  (New h228 (.cells #[.slice none 0 0] 23) fun b72 h229 =>
  New h229 (.cells #[.slice none 0 0] 23) fun b73 h230 =>
  Wr h230 ⟨b72, 0, none⟩ (.slice r8 rL2 rC2) fun h231 =>
  Wr h231 ⟨b71, 0, none⟩ (.slice r42 rL36 rC36) fun h232 =>
  Wr h232 ⟨b73, 0, none⟩ (.slice r43 rL37 rC37) fun h233 =>
  l35_PartialretroBack_b5 x q (some ⟨b72, 0, none⟩) (some ⟨b71, 0, none⟩) (some ⟨b73, 0, none⟩) h233  K) ∧
  (New h228 (.cells #[.slice none 0 0] 23) fun b74 h234 =>
  New h234 (.cells #[.slice none 0 0] 23) fun b75 h235 =>
  Wr h235 ⟨b75, 0, none⟩ (.slice r8 rL2 rC2) fun h236 =>
  Wr h236 ⟨b71, 0, none⟩ (.slice r42 rL36 rC36) fun h237 =>
  Wr h237 ⟨b74, 0, none⟩ (.slice r43 rL37 rC37) fun h238 =>
  l35_PartialretroBack_b5 x q (some ⟨b75, 0, none⟩) (some ⟨b71, 0, none⟩) (some ⟨b74, 0, none⟩) h238  K)) ∧
  (New h227 (.cells #[.slice none 0 0] 23) fun b76 h239 =>
  (NN q fun a50 =>
  ∃ p47 : Option Addr, cell h239 a50 = some (.pointer p47) ∧
  (.pointer p47 : Value) = .pointer p4) ∧
  (HCalls Tryz.prog 17 #[.pointer p4] h239 fun v43 h240 => ∃ (r44 : Option Addr) (rL38 rC38 : Nat), v43 = .slice r44 rL38 rC38 ∧
  New h240 (.cells #[.slice none 0 0] 23) fun b77 h241 =>
  Wr h241 ⟨b76, 0, none⟩ (.slice r8 rL2 rC2) fun h242 =>
  Wr h242 ⟨b71, 0, none⟩ (.slice r42 rL36 rC36) fun h243 =>
  Wr h243 ⟨b77, 0, none⟩ (.slice r44 rL38 rC38) fun h244 =>
  l35_PartialretroBack_b5 x q (some ⟨b76, 0, none⟩) (some ⟨b71, 0, none⟩) (some ⟨b77, 0, none⟩) h244  K) ∧
  (New h239 (.cells #[.slice none 0 0] 23) fun b78 h245 =>
  (NN q fun a51 =>
  ∃ p48 : Option Addr, cell h245 a51 = some (.pointer p48) ∧
  (.pointer p48 : Value) = .pointer p4) ∧
  HCalls Tryz.prog 17 #[.pointer p4] h245 fun v44 h246 => ∃ (r45 : Option Addr) (rL39 rC39 : Nat), v44 = .slice r45 rL39 rC39 ∧
  Wr h246 ⟨b76, 0, none⟩ (.slice r8 rL2 rC2) fun h247 =>
  Wr h247 ⟨b71, 0, none⟩ (.slice r42 rL36 rC36) fun h248 =>
  Wr h248 ⟨b78, 0, none⟩ (.slice r45 rL39 rC39) fun h249 =>
  l35_PartialretroBack_b5 x q (some ⟨b76, 0, none⟩) (some ⟨b71, 0, none⟩) (some ⟨b78, 0, none⟩) h249  K)) ∧
  (New h227 (.cells #[.slice none 0 0] 23) fun b79 h250 =>
  (NN q fun a52 =>
  ∃ p49 : Option Addr, cell h250 a52 = some (.pointer p49) ∧
  (.pointer p49 : Value) = .pointer p4) ∧
  (HCalls Tryz.prog 17 #[.pointer p4] h250 fun v45 h251 => ∃ (r46 : Option Addr) (rL40 rC40 : Nat), v45 = .slice r46 rL40 rC40 ∧
  New h251 (.cells #[.slice none 0 0] 23) fun b80 h252 =>
  Wr h252 ⟨b80, 0, none⟩ (.slice r8 rL2 rC2) fun h253 =>
  Wr h253 ⟨b71, 0, none⟩ (.slice r42 rL36 rC36) fun h254 =>
  Wr h254 ⟨b79, 0, none⟩ (.slice r46 rL40 rC40) fun h255 =>
  l35_PartialretroBack_b5 x q (some ⟨b80, 0, none⟩) (some ⟨b71, 0, none⟩) (some ⟨b79, 0, none⟩) h255  K) ∧
  (New h250 (.cells #[.slice none 0 0] 23) fun b81 h256 =>
  (NN q fun a53 =>
  ∃ p50 : Option Addr, cell h256 a53 = some (.pointer p50) ∧
  (.pointer p50 : Value) = .pointer p4) ∧
  HCalls Tryz.prog 17 #[.pointer p4] h256 fun v46 h257 => ∃ (r47 : Option Addr) (rL41 rC41 : Nat), v46 = .slice r47 rL41 rC41 ∧
  Wr h257 ⟨b81, 0, none⟩ (.slice r8 rL2 rC2) fun h258 =>
  Wr h258 ⟨b71, 0, none⟩ (.slice r42 rL36 rC36) fun h259 =>
  Wr h259 ⟨b79, 0, none⟩ (.slice r47 rL41 rC41) fun h260 =>
  l35_PartialretroBack_b5 x q (some ⟨b81, 0, none⟩) (some ⟨b71, 0, none⟩) (some ⟨b79, 0, none⟩) h260  K))) ∧
  (New h226 (.cells #[.slice none 0 0] 23) fun b82 h261 =>
  (NN q fun a54 =>
  ∃ p51 : Option Addr, cell h261 a54 = some (.pointer p51) ∧
  (.pointer p51 : Value) = .pointer p4) ∧
  (NN q fun a55 =>
  ∃ p52 : Option Addr, cell h261 a55 = some (.pointer p52) ∧
  (.pointer p52 : Value) = .pointer p3) ∧
  (HCalls Tryz.prog 27 #[.pointer p3] h261 fun v47 h262 => ∃ (r48 : Option Addr) (rL42 rC42 : Nat), v47 = .slice r48 rL42 rC42 ∧
  (NN q fun a56 =>
  ∃ p53 : Option Addr, cell h262 a56 = some (.pointer p53) ∧
  (.pointer p53 : Value) = .pointer p4) ∧
  (HCalls Tryz.prog 17 #[.pointer p4] h262 fun v48 h263 => ∃ (r49 : Option Addr) (rL43 rC43 : Nat), v48 = .slice r49 rL43 rC43 ∧
  New h263 (.cells #[.slice none 0 0] 23) fun b83 h264 =>
  Wr h264 ⟨b82, 0, none⟩ (.slice r8 rL2 rC2) fun h265 =>
  Wr h265 ⟨b71, 0, none⟩ (.slice r48 rL42 rC42) fun h266 =>
  Wr h266 ⟨b83, 0, none⟩ (.slice r49 rL43 rC43) fun h267 =>
  l35_PartialretroBack_b5 x q (some ⟨b82, 0, none⟩) (some ⟨b71, 0, none⟩) (some ⟨b83, 0, none⟩) h267  K) ∧
  (New h262 (.cells #[.slice none 0 0] 23) fun b84 h268 =>
  (NN q fun a57 =>
  ∃ p54 : Option Addr, cell h268 a57 = some (.pointer p54) ∧
  (.pointer p54 : Value) = .pointer p4) ∧
  HCalls Tryz.prog 17 #[.pointer p4] h268 fun v49 h269 => ∃ (r50 : Option Addr) (rL44 rC44 : Nat), v49 = .slice r50 rL44 rC44 ∧
  Wr h269 ⟨b82, 0, none⟩ (.slice r8 rL2 rC2) fun h270 =>
  Wr h270 ⟨b71, 0, none⟩ (.slice r48 rL42 rC42) fun h271 =>
  Wr h271 ⟨b84, 0, none⟩ (.slice r50 rL44 rC44) fun h272 =>
  l35_PartialretroBack_b5 x q (some ⟨b82, 0, none⟩) (some ⟨b71, 0, none⟩) (some ⟨b84, 0, none⟩) h272  K)) ∧
  (New h261 (.cells #[.slice none 0 0] 23) fun b85 h273 =>
  (NN q fun a58 =>
  ∃ p55 : Option Addr, cell h273 a58 = some (.pointer p55) ∧
  (.pointer p55 : Value) = .pointer p4) ∧
  (NN q fun a59 =>
  ∃ p56 : Option Addr, cell h273 a59 = some (.pointer p56) ∧
  (.pointer p56 : Value) = .pointer p3) ∧
  HCalls Tryz.prog 27 #[.pointer p3] h273 fun v50 h274 => ∃ (r51 : Option Addr) (rL45 rC45 : Nat), v50 = .slice r51 rL45 rC45 ∧
  (NN q fun a60 =>
  ∃ p57 : Option Addr, cell h274 a60 = some (.pointer p57) ∧
  (.pointer p57 : Value) = .pointer p4) ∧
  HCalls Tryz.prog 17 #[.pointer p4] h274 fun v51 h275 => ∃ (r52 : Option Addr) (rL46 rC46 : Nat), v51 = .slice r52 rL46 rC46 ∧
  Wr h275 ⟨b82, 0, none⟩ (.slice r8 rL2 rC2) fun h276 =>
  Wr h276 ⟨b71, 0, none⟩ (.slice r51 rL45 rC45) fun h277 =>
  Wr h277 ⟨b85, 0, none⟩ (.slice r52 rL46 rC46) fun h278 =>
  l35_PartialretroBack_b5 x q (some ⟨b82, 0, none⟩) (some ⟨b71, 0, none⟩) (some ⟨b85, 0, none⟩) h278  K)) ∧
  (New h226 (.cells #[.slice none 0 0] 23) fun b86 h279 =>
  (NN q fun a61 =>
  ∃ p58 : Option Addr, cell h279 a61 = some (.pointer p58) ∧
  (.pointer p58 : Value) = .pointer p4) ∧
  (NN q fun a62 =>
  ∃ p59 : Option Addr, cell h279 a62 = some (.pointer p59) ∧
  (.pointer p59 : Value) = .pointer p3) ∧
  (HCalls Tryz.prog 27 #[.pointer p3] h279 fun v52 h280 => ∃ (r53 : Option Addr) (rL47 rC47 : Nat), v52 = .slice r53 rL47 rC47 ∧
  (NN q fun a63 =>
  ∃ p60 : Option Addr, cell h280 a63 = some (.pointer p60) ∧
  (.pointer p60 : Value) = .pointer p4) ∧
  (HCalls Tryz.prog 17 #[.pointer p4] h280 fun v53 h281 => ∃ (r54 : Option Addr) (rL48 rC48 : Nat), v53 = .slice r54 rL48 rC48 ∧
  New h281 (.cells #[.slice none 0 0] 23) fun b87 h282 =>
  Wr h282 ⟨b87, 0, none⟩ (.slice r8 rL2 rC2) fun h283 =>
  Wr h283 ⟨b71, 0, none⟩ (.slice r53 rL47 rC47) fun h284 =>
  Wr h284 ⟨b86, 0, none⟩ (.slice r54 rL48 rC48) fun h285 =>
  l35_PartialretroBack_b5 x q (some ⟨b87, 0, none⟩) (some ⟨b71, 0, none⟩) (some ⟨b86, 0, none⟩) h285  K) ∧
  (New h280 (.cells #[.slice none 0 0] 23) fun b88 h286 =>
  (NN q fun a64 =>
  ∃ p61 : Option Addr, cell h286 a64 = some (.pointer p61) ∧
  (.pointer p61 : Value) = .pointer p4) ∧
  HCalls Tryz.prog 17 #[.pointer p4] h286 fun v54 h287 => ∃ (r55 : Option Addr) (rL49 rC49 : Nat), v54 = .slice r55 rL49 rC49 ∧
  Wr h287 ⟨b88, 0, none⟩ (.slice r8 rL2 rC2) fun h288 =>
  Wr h288 ⟨b71, 0, none⟩ (.slice r53 rL47 rC47) fun h289 =>
  Wr h289 ⟨b86, 0, none⟩ (.slice r55 rL49 rC49) fun h290 =>
  l35_PartialretroBack_b5 x q (some ⟨b88, 0, none⟩) (some ⟨b71, 0, none⟩) (some ⟨b86, 0, none⟩) h290  K)) ∧
  (New h279 (.cells #[.slice none 0 0] 23) fun b89 h291 =>
  (NN q fun a65 =>
  ∃ p62 : Option Addr, cell h291 a65 = some (.pointer p62) ∧
  (.pointer p62 : Value) = .pointer p4) ∧
  (NN q fun a66 =>
  ∃ p63 : Option Addr, cell h291 a66 = some (.pointer p63) ∧
  (.pointer p63 : Value) = .pointer p3) ∧
  HCalls Tryz.prog 27 #[.pointer p3] h291 fun v55 h292 => ∃ (r56 : Option Addr) (rL50 rC50 : Nat), v55 = .slice r56 rL50 rC50 ∧
  (NN q fun a67 =>
  ∃ p64 : Option Addr, cell h292 a67 = some (.pointer p64) ∧
  (.pointer p64 : Value) = .pointer p4) ∧
  HCalls Tryz.prog 17 #[.pointer p4] h292 fun v56 h293 => ∃ (r57 : Option Addr) (rL51 rC51 : Nat), v56 = .slice r57 rL51 rC51 ∧
  Wr h293 ⟨b89, 0, none⟩ (.slice r8 rL2 rC2) fun h294 =>
  Wr h294 ⟨b71, 0, none⟩ (.slice r56 rL50 rC50) fun h295 =>
  Wr h295 ⟨b86, 0, none⟩ (.slice r57 rL51 rC51) fun h296 =>
  l35_PartialretroBack_b5 x q (some ⟨b89, 0, none⟩) (some ⟨b71, 0, none⟩) (some ⟨b86, 0, none⟩) h296  K))) ∧
  (New h17 (.cells #[.slice none 0 0] 23) fun b90 h297 =>
  (NN q fun a68 =>
  ∃ p65 : Option Addr, cell h297 a68 = some (.pointer p65) ∧
  (.pointer p65 : Value) = .pointer p4) ∧
  (NN q fun a69 =>
  ∃ p66 : Option Addr, cell h297 a69 = some (.pointer p66) ∧
  (.pointer p66 : Value) = .pointer p3) ∧
  (HCalls Tryz.prog 27 #[.pointer p3] h297 fun v57 h298 => ∃ (r58 : Option Addr) (rL52 rC52 : Nat), v57 = .slice r58 rL52 rC52 ∧
  (NN q fun a70 =>
  ∃ p67 : Option Addr, cell h298 a70 = some (.pointer p67) ∧
  (.pointer p67 : Value) = .pointer p4) ∧
  (HCalls Tryz.prog 17 #[.pointer p4] h298 fun v58 h299 => ∃ (r59 : Option Addr) (rL53 rC53 : Nat), v58 = .slice r59 rL53 rC53 ∧
  (New h299 (.cells #[.slice none 0 0] 23) fun b91 h300 =>
  New h300 (.cells #[.slice none 0 0] 23) fun b92 h301 =>
  Wr h301 ⟨b91, 0, none⟩ (.slice r8 rL2 rC2) fun h302 =>
  Wr h302 ⟨b92, 0, none⟩ (.slice r58 rL52 rC52) fun h303 =>
  Wr h303 ⟨b90, 0, none⟩ (.slice r59 rL53 rC53) fun h304 =>
  l35_PartialretroBack_b5 x q (some ⟨b91, 0, none⟩) (some ⟨b92, 0, none⟩) (some ⟨b90, 0, none⟩) h304  K) ∧
  (New h299 (.cells #[.slice none 0 0] 23) fun b93 h305 =>
  New h305 (.cells #[.slice none 0 0] 23) fun b94 h306 =>
  Wr h306 ⟨b94, 0, none⟩ (.slice r8 rL2 rC2) fun h307 =>
  Wr h307 ⟨b93, 0, none⟩ (.slice r58 rL52 rC52) fun h308 =>
  Wr h308 ⟨b90, 0, none⟩ (.slice r59 rL53 rC53) fun h309 =>
  l35_PartialretroBack_b5 x q (some ⟨b94, 0, none⟩) (some ⟨b93, 0, none⟩) (some ⟨b90, 0, none⟩) h309  K)) ∧
  (New h298 (.cells #[.slice none 0 0] 23) fun b95 h310 =>
  (NN q fun a71 =>
  ∃ p68 : Option Addr, cell h310 a71 = some (.pointer p68) ∧
  (.pointer p68 : Value) = .pointer p4) ∧
  (HCalls Tryz.prog 17 #[.pointer p4] h310 fun v59 h311 => ∃ (r60 : Option Addr) (rL54 rC54 : Nat), v59 = .slice r60 rL54 rC54 ∧
  New h311 (.cells #[.slice none 0 0] 23) fun b96 h312 =>
  Wr h312 ⟨b95, 0, none⟩ (.slice r8 rL2 rC2) fun h313 =>
  Wr h313 ⟨b96, 0, none⟩ (.slice r58 rL52 rC52) fun h314 =>
  Wr h314 ⟨b90, 0, none⟩ (.slice r60 rL54 rC54) fun h315 =>
  l35_PartialretroBack_b5 x q (some ⟨b95, 0, none⟩) (some ⟨b96, 0, none⟩) (some ⟨b90, 0, none⟩) h315  K) ∧
  (New h310 (.cells #[.slice none 0 0] 23) fun b97 h316 =>
  (NN q fun a72 =>
  ∃ p69 : Option Addr, cell h316 a72 = some (.pointer p69) ∧
  (.pointer p69 : Value) = .pointer p4) ∧
  HCalls Tryz.prog 17 #[.pointer p4] h316 fun v60 h317 => ∃ (r61 : Option Addr) (rL55 rC55 : Nat), v60 = .slice r61 rL55 rC55 ∧
  Wr h317 ⟨b95, 0, none⟩ (.slice r8 rL2 rC2) fun h318 =>
  Wr h318 ⟨b97, 0, none⟩ (.slice r58 rL52 rC52) fun h319 =>
  Wr h319 ⟨b90, 0, none⟩ (.slice r61 rL55 rC55) fun h320 =>
  l35_PartialretroBack_b5 x q (some ⟨b95, 0, none⟩) (some ⟨b97, 0, none⟩) (some ⟨b90, 0, none⟩) h320  K)) ∧
  (New h298 (.cells #[.slice none 0 0] 23) fun b98 h321 =>
  (NN q fun a73 =>
  ∃ p70 : Option Addr, cell h321 a73 = some (.pointer p70) ∧
  (.pointer p70 : Value) = .pointer p4) ∧
  (HCalls Tryz.prog 17 #[.pointer p4] h321 fun v61 h322 => ∃ (r62 : Option Addr) (rL56 rC56 : Nat), v61 = .slice r62 rL56 rC56 ∧
  New h322 (.cells #[.slice none 0 0] 23) fun b99 h323 =>
  Wr h323 ⟨b99, 0, none⟩ (.slice r8 rL2 rC2) fun h324 =>
  Wr h324 ⟨b98, 0, none⟩ (.slice r58 rL52 rC52) fun h325 =>
  Wr h325 ⟨b90, 0, none⟩ (.slice r62 rL56 rC56) fun h326 =>
  l35_PartialretroBack_b5 x q (some ⟨b99, 0, none⟩) (some ⟨b98, 0, none⟩) (some ⟨b90, 0, none⟩) h326  K) ∧
  (New h321 (.cells #[.slice none 0 0] 23) fun b100 h327 =>
  (NN q fun a74 =>
  ∃ p71 : Option Addr, cell h327 a74 = some (.pointer p71) ∧
  (.pointer p71 : Value) = .pointer p4) ∧
  HCalls Tryz.prog 17 #[.pointer p4] h327 fun v62 h328 => ∃ (r63 : Option Addr) (rL57 rC57 : Nat), v62 = .slice r63 rL57 rC57 ∧
  Wr h328 ⟨b100, 0, none⟩ (.slice r8 rL2 rC2) fun h329 =>
  Wr h329 ⟨b98, 0, none⟩ (.slice r58 rL52 rC52) fun h330 =>
  Wr h330 ⟨b90, 0, none⟩ (.slice r63 rL57 rC57) fun h331 =>
  l35_PartialretroBack_b5 x q (some ⟨b100, 0, none⟩) (some ⟨b98, 0, none⟩) (some ⟨b90, 0, none⟩) h331  K))) ∧
  (New h297 (.cells #[.slice none 0 0] 23) fun b101 h332 =>
  (NN q fun a75 =>
  ∃ p72 : Option Addr, cell h332 a75 = some (.pointer p72) ∧
  (.pointer p72 : Value) = .pointer p4) ∧
  (NN q fun a76 =>
  ∃ p73 : Option Addr, cell h332 a76 = some (.pointer p73) ∧
  (.pointer p73 : Value) = .pointer p3) ∧
  (HCalls Tryz.prog 27 #[.pointer p3] h332 fun v63 h333 => ∃ (r64 : Option Addr) (rL58 rC58 : Nat), v63 = .slice r64 rL58 rC58 ∧
  (NN q fun a77 =>
  ∃ p74 : Option Addr, cell h333 a77 = some (.pointer p74) ∧
  (.pointer p74 : Value) = .pointer p4) ∧
  (HCalls Tryz.prog 17 #[.pointer p4] h333 fun v64 h334 => ∃ (r65 : Option Addr) (rL59 rC59 : Nat), v64 = .slice r65 rL59 rC59 ∧
  New h334 (.cells #[.slice none 0 0] 23) fun b102 h335 =>
  Wr h335 ⟨b101, 0, none⟩ (.slice r8 rL2 rC2) fun h336 =>
  Wr h336 ⟨b102, 0, none⟩ (.slice r64 rL58 rC58) fun h337 =>
  Wr h337 ⟨b90, 0, none⟩ (.slice r65 rL59 rC59) fun h338 =>
  l35_PartialretroBack_b5 x q (some ⟨b101, 0, none⟩) (some ⟨b102, 0, none⟩) (some ⟨b90, 0, none⟩) h338  K) ∧
  (New h333 (.cells #[.slice none 0 0] 23) fun b103 h339 =>
  (NN q fun a78 =>
  ∃ p75 : Option Addr, cell h339 a78 = some (.pointer p75) ∧
  (.pointer p75 : Value) = .pointer p4) ∧
  HCalls Tryz.prog 17 #[.pointer p4] h339 fun v65 h340 => ∃ (r66 : Option Addr) (rL60 rC60 : Nat), v65 = .slice r66 rL60 rC60 ∧
  Wr h340 ⟨b101, 0, none⟩ (.slice r8 rL2 rC2) fun h341 =>
  Wr h341 ⟨b103, 0, none⟩ (.slice r64 rL58 rC58) fun h342 =>
  Wr h342 ⟨b90, 0, none⟩ (.slice r66 rL60 rC60) fun h343 =>
  l35_PartialretroBack_b5 x q (some ⟨b101, 0, none⟩) (some ⟨b103, 0, none⟩) (some ⟨b90, 0, none⟩) h343  K)) ∧
  (New h332 (.cells #[.slice none 0 0] 23) fun b104 h344 =>
  (NN q fun a79 =>
  ∃ p76 : Option Addr, cell h344 a79 = some (.pointer p76) ∧
  (.pointer p76 : Value) = .pointer p4) ∧
  (NN q fun a80 =>
  ∃ p77 : Option Addr, cell h344 a80 = some (.pointer p77) ∧
  (.pointer p77 : Value) = .pointer p3) ∧
  HCalls Tryz.prog 27 #[.pointer p3] h344 fun v66 h345 => ∃ (r67 : Option Addr) (rL61 rC61 : Nat), v66 = .slice r67 rL61 rC61 ∧
  (NN q fun a81 =>
  ∃ p78 : Option Addr, cell h345 a81 = some (.pointer p78) ∧
  (.pointer p78 : Value) = .pointer p4) ∧
  HCalls Tryz.prog 17 #[.pointer p4] h345 fun v67 h346 => ∃ (r68 : Option Addr) (rL62 rC62 : Nat), v67 = .slice r68 rL62 rC62 ∧
  Wr h346 ⟨b101, 0, none⟩ (.slice r8 rL2 rC2) fun h347 =>
  Wr h347 ⟨b104, 0, none⟩ (.slice r67 rL61 rC61) fun h348 =>
  Wr h348 ⟨b90, 0, none⟩ (.slice r68 rL62 rC62) fun h349 =>
  l35_PartialretroBack_b5 x q (some ⟨b101, 0, none⟩) (some ⟨b104, 0, none⟩) (some ⟨b90, 0, none⟩) h349  K)) ∧
  (New h297 (.cells #[.slice none 0 0] 23) fun b105 h350 =>
  (NN q fun a82 =>
  ∃ p79 : Option Addr, cell h350 a82 = some (.pointer p79) ∧
  (.pointer p79 : Value) = .pointer p4) ∧
  (NN q fun a83 =>
  ∃ p80 : Option Addr, cell h350 a83 = some (.pointer p80) ∧
  (.pointer p80 : Value) = .pointer p3) ∧
  (HCalls Tryz.prog 27 #[.pointer p3] h350 fun v68 h351 => ∃ (r69 : Option Addr) (rL63 rC63 : Nat), v68 = .slice r69 rL63 rC63 ∧
  (NN q fun a84 =>
  ∃ p81 : Option Addr, cell h351 a84 = some (.pointer p81) ∧
  (.pointer p81 : Value) = .pointer p4) ∧
  (HCalls Tryz.prog 17 #[.pointer p4] h351 fun v69 h352 => ∃ (r70 : Option Addr) (rL64 rC64 : Nat), v69 = .slice r70 rL64 rC64 ∧
  New h352 (.cells #[.slice none 0 0] 23) fun b106 h353 =>
  Wr h353 ⟨b106, 0, none⟩ (.slice r8 rL2 rC2) fun h354 =>
  Wr h354 ⟨b105, 0, none⟩ (.slice r69 rL63 rC63) fun h355 =>
  Wr h355 ⟨b90, 0, none⟩ (.slice r70 rL64 rC64) fun h356 =>
  l35_PartialretroBack_b5 x q (some ⟨b106, 0, none⟩) (some ⟨b105, 0, none⟩) (some ⟨b90, 0, none⟩) h356  K) ∧
  (New h351 (.cells #[.slice none 0 0] 23) fun b107 h357 =>
  (NN q fun a85 =>
  ∃ p82 : Option Addr, cell h357 a85 = some (.pointer p82) ∧
  (.pointer p82 : Value) = .pointer p4) ∧
  HCalls Tryz.prog 17 #[.pointer p4] h357 fun v70 h358 => ∃ (r71 : Option Addr) (rL65 rC65 : Nat), v70 = .slice r71 rL65 rC65 ∧
  Wr h358 ⟨b107, 0, none⟩ (.slice r8 rL2 rC2) fun h359 =>
  Wr h359 ⟨b105, 0, none⟩ (.slice r69 rL63 rC63) fun h360 =>
  Wr h360 ⟨b90, 0, none⟩ (.slice r71 rL65 rC65) fun h361 =>
  l35_PartialretroBack_b5 x q (some ⟨b107, 0, none⟩) (some ⟨b105, 0, none⟩) (some ⟨b90, 0, none⟩) h361  K)) ∧
  (New h350 (.cells #[.slice none 0 0] 23) fun b108 h362 =>
  (NN q fun a86 =>
  ∃ p83 : Option Addr, cell h362 a86 = some (.pointer p83) ∧
  (.pointer p83 : Value) = .pointer p4) ∧
  (NN q fun a87 =>
  ∃ p84 : Option Addr, cell h362 a87 = some (.pointer p84) ∧
  (.pointer p84 : Value) = .pointer p3) ∧
  HCalls Tryz.prog 27 #[.pointer p3] h362 fun v71 h363 => ∃ (r72 : Option Addr) (rL66 rC66 : Nat), v71 = .slice r72 rL66 rC66 ∧
  (NN q fun a88 =>
  ∃ p85 : Option Addr, cell h363 a88 = some (.pointer p85) ∧
  (.pointer p85 : Value) = .pointer p4) ∧
  HCalls Tryz.prog 17 #[.pointer p4] h363 fun v72 h364 => ∃ (r73 : Option Addr) (rL67 rC67 : Nat), v72 = .slice r73 rL67 rC67 ∧
  Wr h364 ⟨b108, 0, none⟩ (.slice r8 rL2 rC2) fun h365 =>
  Wr h365 ⟨b105, 0, none⟩ (.slice r72 rL66 rC66) fun h366 =>
  Wr h366 ⟨b90, 0, none⟩ (.slice r73 rL67 rC67) fun h367 =>
  l35_PartialretroBack_b5 x q (some ⟨b108, 0, none⟩) (some ⟨b105, 0, none⟩) (some ⟨b90, 0, none⟩) h367  K)))) ∧
  (New h (.cells #[.slice none 0 0] 23) fun b109 h368 =>
  (NN q fun a89 =>
  ∃ p86 : Option Addr, cell h368 a89 = some (.pointer p86) ∧
  (.pointer p86 : Value) = .pointer p4) ∧
  (NN q fun a90 =>
  ∃ p87 : Option Addr, cell h368 a90 = some (.pointer p87) ∧
  (.pointer p87 : Value) = .pointer p3) ∧
  (NN q fun a91 =>
  ∃ p88 : Option Addr, cell h368 a91 = some (.pointer p88) ∧
  (.pointer p88 : Value) = .pointer p2) ∧
  (HCalls Tryz.prog 16 #[.pointer p2] h368 fun v73 h369 => ∃ (r74 : Option Addr) (rL68 rC68 : Nat), v73 = .slice r74 rL68 rC68 ∧
  (NN q fun a92 =>
  ∃ p89 : Option Addr, cell h369 a92 = some (.pointer p89) ∧
  (.pointer p89 : Value) = .pointer p4) ∧
  (NN q fun a93 =>
  ∃ p90 : Option Addr, cell h369 a93 = some (.pointer p90) ∧
  (.pointer p90 : Value) = .pointer p3) ∧
  (HCalls Tryz.prog 27 #[.pointer p3] h369 fun v74 h370 => ∃ (r75 : Option Addr) (rL69 rC69 : Nat), v74 = .slice r75 rL69 rC69 ∧
  (NN q fun a94 =>
  ∃ p91 : Option Addr, cell h370 a94 = some (.pointer p91) ∧
  (.pointer p91 : Value) = .pointer p4) ∧
  (HCalls Tryz.prog 17 #[.pointer p4] h370 fun v75 h371 => ∃ (r76 : Option Addr) (rL70 rC70 : Nat), v75 = .slice r76 rL70 rC70 ∧
  (New h371 (.cells #[.slice none 0 0] 23) fun b110 h372 =>
  New h372 (.cells #[.slice none 0 0] 23) fun b111 h373 =>
  Wr h373 ⟨b109, 0, none⟩ (.slice r74 rL68 rC68) fun h374 =>
  Wr h374 ⟨b110, 0, none⟩ (.slice r75 rL69 rC69) fun h375 =>
  Wr h375 ⟨b111, 0, none⟩ (.slice r76 rL70 rC70) fun h376 =>
  l35_PartialretroBack_b5 x q (some ⟨b109, 0, none⟩) (some ⟨b110, 0, none⟩) (some ⟨b111, 0, none⟩) h376  K) ∧
  (New h371 (.cells #[.slice none 0 0] 23) fun b112 h377 =>
  New h377 (.cells #[.slice none 0 0] 23) fun b113 h378 =>
  Wr h378 ⟨b109, 0, none⟩ (.slice r74 rL68 rC68) fun h379 =>
  Wr h379 ⟨b113, 0, none⟩ (.slice r75 rL69 rC69) fun h380 =>
  Wr h380 ⟨b112, 0, none⟩ (.slice r76 rL70 rC70) fun h381 =>
  l35_PartialretroBack_b5 x q (some ⟨b109, 0, none⟩) (some ⟨b113, 0, none⟩) (some ⟨b112, 0, none⟩) h381  K)) ∧
  (New h370 (.cells #[.slice none 0 0] 23) fun b114 h382 =>
  (NN q fun a95 =>
  ∃ p92 : Option Addr, cell h382 a95 = some (.pointer p92) ∧
  (.pointer p92 : Value) = .pointer p4) ∧
  (HCalls Tryz.prog 17 #[.pointer p4] h382 fun v76 h383 => ∃ (r77 : Option Addr) (rL71 rC71 : Nat), v76 = .slice r77 rL71 rC71 ∧
  New h383 (.cells #[.slice none 0 0] 23) fun b115 h384 =>
  Wr h384 ⟨b109, 0, none⟩ (.slice r74 rL68 rC68) fun h385 =>
  Wr h385 ⟨b114, 0, none⟩ (.slice r75 rL69 rC69) fun h386 =>
  Wr h386 ⟨b115, 0, none⟩ (.slice r77 rL71 rC71) fun h387 =>
  l35_PartialretroBack_b5 x q (some ⟨b109, 0, none⟩) (some ⟨b114, 0, none⟩) (some ⟨b115, 0, none⟩) h387  K) ∧
  (New h382 (.cells #[.slice none 0 0] 23) fun b116 h388 =>
  (NN q fun a96 =>
  ∃ p93 : Option Addr, cell h388 a96 = some (.pointer p93) ∧
  (.pointer p93 : Value) = .pointer p4) ∧
  HCalls Tryz.prog 17 #[.pointer p4] h388 fun v77 h389 => ∃ (r78 : Option Addr) (rL72 rC72 : Nat), v77 = .slice r78 rL72 rC72 ∧
  Wr h389 ⟨b109, 0, none⟩ (.slice r74 rL68 rC68) fun h390 =>
  Wr h390 ⟨b114, 0, none⟩ (.slice r75 rL69 rC69) fun h391 =>
  Wr h391 ⟨b116, 0, none⟩ (.slice r78 rL72 rC72) fun h392 =>
  l35_PartialretroBack_b5 x q (some ⟨b109, 0, none⟩) (some ⟨b114, 0, none⟩) (some ⟨b116, 0, none⟩) h392  K)) ∧
  (New h370 (.cells #[.slice none 0 0] 23) fun b117 h393 =>
  (NN q fun a97 =>
  ∃ p94 : Option Addr, cell h393 a97 = some (.pointer p94) ∧
  (.pointer p94 : Value) = .pointer p4) ∧
  (HCalls Tryz.prog 17 #[.pointer p4] h393 fun v78 h394 => ∃ (r79 : Option Addr) (rL73 rC73 : Nat), v78 = .slice r79 rL73 rC73 ∧
  New h394 (.cells #[.slice none 0 0] 23) fun b118 h395 =>
  Wr h395 ⟨b109, 0, none⟩ (.slice r74 rL68 rC68) fun h396 =>
  Wr h396 ⟨b118, 0, none⟩ (.slice r75 rL69 rC69) fun h397 =>
  Wr h397 ⟨b117, 0, none⟩ (.slice r79 rL73 rC73) fun h398 =>
  l35_PartialretroBack_b5 x q (some ⟨b109, 0, none⟩) (some ⟨b118, 0, none⟩) (some ⟨b117, 0, none⟩) h398  K) ∧
  (New h393 (.cells #[.slice none 0 0] 23) fun b119 h399 =>
  (NN q fun a98 =>
  ∃ p95 : Option Addr, cell h399 a98 = some (.pointer p95) ∧
  (.pointer p95 : Value) = .pointer p4) ∧
  HCalls Tryz.prog 17 #[.pointer p4] h399 fun v79 h400 => ∃ (r80 : Option Addr) (rL74 rC74 : Nat), v79 = .slice r80 rL74 rC74 ∧
  Wr h400 ⟨b109, 0, none⟩ (.slice r74 rL68 rC68) fun h401 =>
  Wr h401 ⟨b119, 0, none⟩ (.slice r75 rL69 rC69) fun h402 =>
  Wr h402 ⟨b117, 0, none⟩ (.slice r80 rL74 rC74) fun h403 =>
  l35_PartialretroBack_b5 x q (some ⟨b109, 0, none⟩) (some ⟨b119, 0, none⟩) (some ⟨b117, 0, none⟩) h403  K))) ∧
  (New h369 (.cells #[.slice none 0 0] 23) fun b120 h404 =>
  (NN q fun a99 =>
  ∃ p96 : Option Addr, cell h404 a99 = some (.pointer p96) ∧
  (.pointer p96 : Value) = .pointer p4) ∧
  (NN q fun a100 =>
  ∃ p97 : Option Addr, cell h404 a100 = some (.pointer p97) ∧
  (.pointer p97 : Value) = .pointer p3) ∧
  (HCalls Tryz.prog 27 #[.pointer p3] h404 fun v80 h405 => ∃ (r81 : Option Addr) (rL75 rC75 : Nat), v80 = .slice r81 rL75 rC75 ∧
  (NN q fun a101 =>
  ∃ p98 : Option Addr, cell h405 a101 = some (.pointer p98) ∧
  (.pointer p98 : Value) = .pointer p4) ∧
  (HCalls Tryz.prog 17 #[.pointer p4] h405 fun v81 h406 => ∃ (r82 : Option Addr) (rL76 rC76 : Nat), v81 = .slice r82 rL76 rC76 ∧
  New h406 (.cells #[.slice none 0 0] 23) fun b121 h407 =>
  Wr h407 ⟨b109, 0, none⟩ (.slice r74 rL68 rC68) fun h408 =>
  Wr h408 ⟨b120, 0, none⟩ (.slice r81 rL75 rC75) fun h409 =>
  Wr h409 ⟨b121, 0, none⟩ (.slice r82 rL76 rC76) fun h410 =>
  l35_PartialretroBack_b5 x q (some ⟨b109, 0, none⟩) (some ⟨b120, 0, none⟩) (some ⟨b121, 0, none⟩) h410  K) ∧
  (New h405 (.cells #[.slice none 0 0] 23) fun b122 h411 =>
  (NN q fun a102 =>
  ∃ p99 : Option Addr, cell h411 a102 = some (.pointer p99) ∧
  (.pointer p99 : Value) = .pointer p4) ∧
  HCalls Tryz.prog 17 #[.pointer p4] h411 fun v82 h412 => ∃ (r83 : Option Addr) (rL77 rC77 : Nat), v82 = .slice r83 rL77 rC77 ∧
  Wr h412 ⟨b109, 0, none⟩ (.slice r74 rL68 rC68) fun h413 =>
  Wr h413 ⟨b120, 0, none⟩ (.slice r81 rL75 rC75) fun h414 =>
  Wr h414 ⟨b122, 0, none⟩ (.slice r83 rL77 rC77) fun h415 =>
  l35_PartialretroBack_b5 x q (some ⟨b109, 0, none⟩) (some ⟨b120, 0, none⟩) (some ⟨b122, 0, none⟩) h415  K)) ∧
  (New h404 (.cells #[.slice none 0 0] 23) fun b123 h416 =>
  (NN q fun a103 =>
  ∃ p100 : Option Addr, cell h416 a103 = some (.pointer p100) ∧
  (.pointer p100 : Value) = .pointer p4) ∧
  (NN q fun a104 =>
  ∃ p101 : Option Addr, cell h416 a104 = some (.pointer p101) ∧
  (.pointer p101 : Value) = .pointer p3) ∧
  HCalls Tryz.prog 27 #[.pointer p3] h416 fun v83 h417 => ∃ (r84 : Option Addr) (rL78 rC78 : Nat), v83 = .slice r84 rL78 rC78 ∧
  (NN q fun a105 =>
  ∃ p102 : Option Addr, cell h417 a105 = some (.pointer p102) ∧
  (.pointer p102 : Value) = .pointer p4) ∧
  HCalls Tryz.prog 17 #[.pointer p4] h417 fun v84 h418 => ∃ (r85 : Option Addr) (rL79 rC79 : Nat), v84 = .slice r85 rL79 rC79 ∧
  Wr h418 ⟨b109, 0, none⟩ (.slice r74 rL68 rC68) fun h419 =>
  Wr h419 ⟨b120, 0, none⟩ (.slice r84 rL78 rC78) fun h420 =>
  Wr h420 ⟨b123, 0, none⟩ (.slice r85 rL79 rC79) fun h421 =>
  l35_PartialretroBack_b5 x q (some ⟨b109, 0, none⟩) (some ⟨b120, 0, none⟩) (some ⟨b123, 0, none⟩) h421  K)) ∧
  (New h369 (.cells #[.slice none 0 0] 23) fun b124 h422 =>
  (NN q fun a106 =>
  ∃ p103 : Option Addr, cell h422 a106 = some (.pointer p103) ∧
  (.pointer p103 : Value) = .pointer p4) ∧
  (NN q fun a107 =>
  ∃ p104 : Option Addr, cell h422 a107 = some (.pointer p104) ∧
  (.pointer p104 : Value) = .pointer p3) ∧
  (HCalls Tryz.prog 27 #[.pointer p3] h422 fun v85 h423 => ∃ (r86 : Option Addr) (rL80 rC80 : Nat), v85 = .slice r86 rL80 rC80 ∧
  (NN q fun a108 =>
  ∃ p105 : Option Addr, cell h423 a108 = some (.pointer p105) ∧
  (.pointer p105 : Value) = .pointer p4) ∧
  (HCalls Tryz.prog 17 #[.pointer p4] h423 fun v86 h424 => ∃ (r87 : Option Addr) (rL81 rC81 : Nat), v86 = .slice r87 rL81 rC81 ∧
  New h424 (.cells #[.slice none 0 0] 23) fun b125 h425 =>
  Wr h425 ⟨b109, 0, none⟩ (.slice r74 rL68 rC68) fun h426 =>
  Wr h426 ⟨b125, 0, none⟩ (.slice r86 rL80 rC80) fun h427 =>
  Wr h427 ⟨b124, 0, none⟩ (.slice r87 rL81 rC81) fun h428 =>
  l35_PartialretroBack_b5 x q (some ⟨b109, 0, none⟩) (some ⟨b125, 0, none⟩) (some ⟨b124, 0, none⟩) h428  K) ∧
  (New h423 (.cells #[.slice none 0 0] 23) fun b126 h429 =>
  (NN q fun a109 =>
  ∃ p106 : Option Addr, cell h429 a109 = some (.pointer p106) ∧
  (.pointer p106 : Value) = .pointer p4) ∧
  HCalls Tryz.prog 17 #[.pointer p4] h429 fun v87 h430 => ∃ (r88 : Option Addr) (rL82 rC82 : Nat), v87 = .slice r88 rL82 rC82 ∧
  Wr h430 ⟨b109, 0, none⟩ (.slice r74 rL68 rC68) fun h431 =>
  Wr h431 ⟨b126, 0, none⟩ (.slice r86 rL80 rC80) fun h432 =>
  Wr h432 ⟨b124, 0, none⟩ (.slice r88 rL82 rC82) fun h433 =>
  l35_PartialretroBack_b5 x q (some ⟨b109, 0, none⟩) (some ⟨b126, 0, none⟩) (some ⟨b124, 0, none⟩) h433  K)) ∧
  (New h422 (.cells #[.slice none 0 0] 23) fun b127 h434 =>
  (NN q fun a110 =>
  ∃ p107 : Option Addr, cell h434 a110 = some (.pointer p107) ∧
  (.pointer p107 : Value) = .pointer p4) ∧
  (NN q fun a111 =>
  ∃ p108 : Option Addr, cell h434 a111 = some (.pointer p108) ∧
  (.pointer p108 : Value) = .pointer p3) ∧
  HCalls Tryz.prog 27 #[.pointer p3] h434 fun v88 h435 => ∃ (r89 : Option Addr) (rL83 rC83 : Nat), v88 = .slice r89 rL83 rC83 ∧
  (NN q fun a112 =>
  ∃ p109 : Option Addr, cell h435 a112 = some (.pointer p109) ∧
  (.pointer p109 : Value) = .pointer p4) ∧
  HCalls Tryz.prog 17 #[.pointer p4] h435 fun v89 h436 => ∃ (r90 : Option Addr) (rL84 rC84 : Nat), v89 = .slice r90 rL84 rC84 ∧
  Wr h436 ⟨b109, 0, none⟩ (.slice r74 rL68 rC68) fun h437 =>
  Wr h437 ⟨b127, 0, none⟩ (.slice r89 rL83 rC83) fun h438 =>
  Wr h438 ⟨b124, 0, none⟩ (.slice r90 rL84 rC84) fun h439 =>
  l35_PartialretroBack_b5 x q (some ⟨b109, 0, none⟩) (some ⟨b127, 0, none⟩) (some ⟨b124, 0, none⟩) h439  K))) ∧
  (New h368 (.cells #[.slice none 0 0] 23) fun b128 h440 =>
  (NN q fun a113 =>
  ∃ p110 : Option Addr, cell h440 a113 = some (.pointer p110) ∧
  (.pointer p110 : Value) = .pointer p4) ∧
  (NN q fun a114 =>
  ∃ p111 : Option Addr, cell h440 a114 = some (.pointer p111) ∧
  (.pointer p111 : Value) = .pointer p3) ∧
  (NN q fun a115 =>
  ∃ p112 : Option Addr, cell h440 a115 = some (.pointer p112) ∧
  (.pointer p112 : Value) = .pointer p2) ∧
  (HCalls Tryz.prog 16 #[.pointer p2] h440 fun v90 h441 => ∃ (r91 : Option Addr) (rL85 rC85 : Nat), v90 = .slice r91 rL85 rC85 ∧
  (NN q fun a116 =>
  ∃ p113 : Option Addr, cell h441 a116 = some (.pointer p113) ∧
  (.pointer p113 : Value) = .pointer p4) ∧
  (NN q fun a117 =>
  ∃ p114 : Option Addr, cell h441 a117 = some (.pointer p114) ∧
  (.pointer p114 : Value) = .pointer p3) ∧
  (HCalls Tryz.prog 27 #[.pointer p3] h441 fun v91 h442 => ∃ (r92 : Option Addr) (rL86 rC86 : Nat), v91 = .slice r92 rL86 rC86 ∧
  (NN q fun a118 =>
  ∃ p115 : Option Addr, cell h442 a118 = some (.pointer p115) ∧
  (.pointer p115 : Value) = .pointer p4) ∧
  (HCalls Tryz.prog 17 #[.pointer p4] h442 fun v92 h443 => ∃ (r93 : Option Addr) (rL87 rC87 : Nat), v92 = .slice r93 rL87 rC87 ∧
  New h443 (.cells #[.slice none 0 0] 23) fun b129 h444 =>
  Wr h444 ⟨b109, 0, none⟩ (.slice r91 rL85 rC85) fun h445 =>
  Wr h445 ⟨b128, 0, none⟩ (.slice r92 rL86 rC86) fun h446 =>
  Wr h446 ⟨b129, 0, none⟩ (.slice r93 rL87 rC87) fun h447 =>
  l35_PartialretroBack_b5 x q (some ⟨b109, 0, none⟩) (some ⟨b128, 0, none⟩) (some ⟨b129, 0, none⟩) h447  K) ∧
  (New h442 (.cells #[.slice none 0 0] 23) fun b130 h448 =>
  (NN q fun a119 =>
  ∃ p116 : Option Addr, cell h448 a119 = some (.pointer p116) ∧
  (.pointer p116 : Value) = .pointer p4) ∧
  HCalls Tryz.prog 17 #[.pointer p4] h448 fun v93 h449 => ∃ (r94 : Option Addr) (rL88 rC88 : Nat), v93 = .slice r94 rL88 rC88 ∧
  Wr h449 ⟨b109, 0, none⟩ (.slice r91 rL85 rC85) fun h450 =>
  Wr h450 ⟨b128, 0, none⟩ (.slice r92 rL86 rC86) fun h451 =>
  Wr h451 ⟨b130, 0, none⟩ (.slice r94 rL88 rC88) fun h452 =>
  l35_PartialretroBack_b5 x q (some ⟨b109, 0, none⟩) (some ⟨b128, 0, none⟩) (some ⟨b130, 0, none⟩) h452  K)) ∧
  (New h441 (.cells #[.slice none 0 0] 23) fun b131 h453 =>
  (NN q fun a120 =>
  ∃ p117 : Option Addr, cell h453 a120 = some (.pointer p117) ∧
  (.pointer p117 : Value) = .pointer p4) ∧
  (NN q fun a121 =>
  ∃ p118 : Option Addr, cell h453 a121 = some (.pointer p118) ∧
  (.pointer p118 : Value) = .pointer p3) ∧
  HCalls Tryz.prog 27 #[.pointer p3] h453 fun v94 h454 => ∃ (r95 : Option Addr) (rL89 rC89 : Nat), v94 = .slice r95 rL89 rC89 ∧
  (NN q fun a122 =>
  ∃ p119 : Option Addr, cell h454 a122 = some (.pointer p119) ∧
  (.pointer p119 : Value) = .pointer p4) ∧
  HCalls Tryz.prog 17 #[.pointer p4] h454 fun v95 h455 => ∃ (r96 : Option Addr) (rL90 rC90 : Nat), v95 = .slice r96 rL90 rC90 ∧
  Wr h455 ⟨b109, 0, none⟩ (.slice r91 rL85 rC85) fun h456 =>
  Wr h456 ⟨b128, 0, none⟩ (.slice r95 rL89 rC89) fun h457 =>
  Wr h457 ⟨b131, 0, none⟩ (.slice r96 rL90 rC90) fun h458 =>
  l35_PartialretroBack_b5 x q (some ⟨b109, 0, none⟩) (some ⟨b128, 0, none⟩) (some ⟨b131, 0, none⟩) h458  K)) ∧
  (New h440 (.cells #[.slice none 0 0] 23) fun b132 h459 =>
  (NN q fun a123 =>
  ∃ p120 : Option Addr, cell h459 a123 = some (.pointer p120) ∧
  (.pointer p120 : Value) = .pointer p4) ∧
  (NN q fun a124 =>
  ∃ p121 : Option Addr, cell h459 a124 = some (.pointer p121) ∧
  (.pointer p121 : Value) = .pointer p3) ∧
  (NN q fun a125 =>
  ∃ p122 : Option Addr, cell h459 a125 = some (.pointer p122) ∧
  (.pointer p122 : Value) = .pointer p2) ∧
  HCalls Tryz.prog 16 #[.pointer p2] h459 fun v96 h460 => ∃ (r97 : Option Addr) (rL91 rC91 : Nat), v96 = .slice r97 rL91 rC91 ∧
  (NN q fun a126 =>
  ∃ p123 : Option Addr, cell h460 a126 = some (.pointer p123) ∧
  (.pointer p123 : Value) = .pointer p4) ∧
  (NN q fun a127 =>
  ∃ p124 : Option Addr, cell h460 a127 = some (.pointer p124) ∧
  (.pointer p124 : Value) = .pointer p3) ∧
  HCalls Tryz.prog 27 #[.pointer p3] h460 fun v97 h461 => ∃ (r98 : Option Addr) (rL92 rC92 : Nat), v97 = .slice r98 rL92 rC92 ∧
  (NN q fun a128 =>
  ∃ p125 : Option Addr, cell h461 a128 = some (.pointer p125) ∧
  (.pointer p125 : Value) = .pointer p4) ∧
  HCalls Tryz.prog 17 #[.pointer p4] h461 fun v98 h462 => ∃ (r99 : Option Addr) (rL93 rC93 : Nat), v98 = .slice r99 rL93 rC93 ∧
  Wr h462 ⟨b109, 0, none⟩ (.slice r97 rL91 rC91) fun h463 =>
  Wr h463 ⟨b128, 0, none⟩ (.slice r98 rL92 rC92) fun h464 =>
  Wr h464 ⟨b132, 0, none⟩ (.slice r99 rL93 rC93) fun h465 =>
  l35_PartialretroBack_b5 x q (some ⟨b109, 0, none⟩) (some ⟨b128, 0, none⟩) (some ⟨b132, 0, none⟩) h465  K)) ∧
  (New h368 (.cells #[.slice none 0 0] 23) fun b133 h466 =>
  (NN q fun a129 =>
  ∃ p126 : Option Addr, cell h466 a129 = some (.pointer p126) ∧
  (.pointer p126 : Value) = .pointer p4) ∧
  (NN q fun a130 =>
  ∃ p127 : Option Addr, cell h466 a130 = some (.pointer p127) ∧
  (.pointer p127 : Value) = .pointer p3) ∧
  (NN q fun a131 =>
  ∃ p128 : Option Addr, cell h466 a131 = some (.pointer p128) ∧
  (.pointer p128 : Value) = .pointer p2) ∧
  (HCalls Tryz.prog 16 #[.pointer p2] h466 fun v99 h467 => ∃ (r100 : Option Addr) (rL94 rC94 : Nat), v99 = .slice r100 rL94 rC94 ∧
  (NN q fun a132 =>
  ∃ p129 : Option Addr, cell h467 a132 = some (.pointer p129) ∧
  (.pointer p129 : Value) = .pointer p4) ∧
  (NN q fun a133 =>
  ∃ p130 : Option Addr, cell h467 a133 = some (.pointer p130) ∧
  (.pointer p130 : Value) = .pointer p3) ∧
  (HCalls Tryz.prog 27 #[.pointer p3] h467 fun v100 h468 => ∃ (r101 : Option Addr) (rL95 rC95 : Nat), v100 = .slice r101 rL95 rC95 ∧
  (NN q fun a134 =>
  ∃ p131 : Option Addr, cell h468 a134 = some (.pointer p131) ∧
  (.pointer p131 : Value) = .pointer p4) ∧
  (HCalls Tryz.prog 17 #[.pointer p4] h468 fun v101 h469 => ∃ (r102 : Option Addr) (rL96 rC96 : Nat), v101 = .slice r102 rL96 rC96 ∧
  New h469 (.cells #[.slice none 0 0] 23) fun b134 h470 =>
  Wr h470 ⟨b109, 0, none⟩ (.slice r100 rL94 rC94) fun h471 =>
  Wr h471 ⟨b134, 0, none⟩ (.slice r101 rL95 rC95) fun h472 =>
  Wr h472 ⟨b133, 0, none⟩ (.slice r102 rL96 rC96) fun h473 =>
  l35_PartialretroBack_b5 x q (some ⟨b109, 0, none⟩) (some ⟨b134, 0, none⟩) (some ⟨b133, 0, none⟩) h473  K) ∧
  (New h468 (.cells #[.slice none 0 0] 23) fun b135 h474 =>
  (NN q fun a135 =>
  ∃ p132 : Option Addr, cell h474 a135 = some (.pointer p132) ∧
  (.pointer p132 : Value) = .pointer p4) ∧
  HCalls Tryz.prog 17 #[.pointer p4] h474 fun v102 h475 => ∃ (r103 : Option Addr) (rL97 rC97 : Nat), v102 = .slice r103 rL97 rC97 ∧
  Wr h475 ⟨b109, 0, none⟩ (.slice r100 rL94 rC94) fun h476 =>
  Wr h476 ⟨b135, 0, none⟩ (.slice r101 rL95 rC95) fun h477 =>
  Wr h477 ⟨b133, 0, none⟩ (.slice r103 rL97 rC97) fun h478 =>
  l35_PartialretroBack_b5 x q (some ⟨b109, 0, none⟩) (some ⟨b135, 0, none⟩) (some ⟨b133, 0, none⟩) h478  K)) ∧
  (New h467 (.cells #[.slice none 0 0] 23) fun b136 h479 =>
  (NN q fun a136 =>
  ∃ p133 : Option Addr, cell h479 a136 = some (.pointer p133) ∧
  (.pointer p133 : Value) = .pointer p4) ∧
  (NN q fun a137 =>
  ∃ p134 : Option Addr, cell h479 a137 = some (.pointer p134) ∧
  (.pointer p134 : Value) = .pointer p3) ∧
  HCalls Tryz.prog 27 #[.pointer p3] h479 fun v103 h480 => ∃ (r104 : Option Addr) (rL98 rC98 : Nat), v103 = .slice r104 rL98 rC98 ∧
  (NN q fun a138 =>
  ∃ p135 : Option Addr, cell h480 a138 = some (.pointer p135) ∧
  (.pointer p135 : Value) = .pointer p4) ∧
  HCalls Tryz.prog 17 #[.pointer p4] h480 fun v104 h481 => ∃ (r105 : Option Addr) (rL99 rC99 : Nat), v104 = .slice r105 rL99 rC99 ∧
  Wr h481 ⟨b109, 0, none⟩ (.slice r100 rL94 rC94) fun h482 =>
  Wr h482 ⟨b136, 0, none⟩ (.slice r104 rL98 rC98) fun h483 =>
  Wr h483 ⟨b133, 0, none⟩ (.slice r105 rL99 rC99) fun h484 =>
  l35_PartialretroBack_b5 x q (some ⟨b109, 0, none⟩) (some ⟨b136, 0, none⟩) (some ⟨b133, 0, none⟩) h484  K)) ∧
  (New h466 (.cells #[.slice none 0 0] 23) fun b137 h485 =>
  (NN q fun a139 =>
  ∃ p136 : Option Addr, cell h485 a139 = some (.pointer p136) ∧
  (.pointer p136 : Value) = .pointer p4) ∧
  (NN q fun a140 =>
  ∃ p137 : Option Addr, cell h485 a140 = some (.pointer p137) ∧
  (.pointer p137 : Value) = .pointer p3) ∧
  (NN q fun a141 =>
  ∃ p138 : Option Addr, cell h485 a141 = some (.pointer p138) ∧
  (.pointer p138 : Value) = .pointer p2) ∧
  HCalls Tryz.prog 16 #[.pointer p2] h485 fun v105 h486 => ∃ (r106 : Option Addr) (rL100 rC100 : Nat), v105 = .slice r106 rL100 rC100 ∧
  (NN q fun a142 =>
  ∃ p139 : Option Addr, cell h486 a142 = some (.pointer p139) ∧
  (.pointer p139 : Value) = .pointer p4) ∧
  (NN q fun a143 =>
  ∃ p140 : Option Addr, cell h486 a143 = some (.pointer p140) ∧
  (.pointer p140 : Value) = .pointer p3) ∧
  HCalls Tryz.prog 27 #[.pointer p3] h486 fun v106 h487 => ∃ (r107 : Option Addr) (rL101 rC101 : Nat), v106 = .slice r107 rL101 rC101 ∧
  (NN q fun a144 =>
  ∃ p141 : Option Addr, cell h487 a144 = some (.pointer p141) ∧
  (.pointer p141 : Value) = .pointer p4) ∧
  HCalls Tryz.prog 17 #[.pointer p4] h487 fun v107 h488 => ∃ (r108 : Option Addr) (rL102 rC102 : Nat), v107 = .slice r108 rL102 rC102 ∧
  Wr h488 ⟨b109, 0, none⟩ (.slice r106 rL100 rC100) fun h489 =>
  Wr h489 ⟨b137, 0, none⟩ (.slice r107 rL101 rC101) fun h490 =>
  Wr h490 ⟨b133, 0, none⟩ (.slice r108 rL102 rC102) fun h491 =>
  l35_PartialretroBack_b5 x q (some ⟨b109, 0, none⟩) (some ⟨b137, 0, none⟩) (some ⟨b133, 0, none⟩) h491  K))) ∧
  (New h (.cells #[.slice none 0 0] 23) fun b138 h492 =>
  (NN q fun a145 =>
  ∃ p142 : Option Addr, cell h492 a145 = some (.pointer p142) ∧
  (.pointer p142 : Value) = .pointer p4) ∧
  (NN q fun a146 =>
  ∃ p143 : Option Addr, cell h492 a146 = some (.pointer p143) ∧
  (.pointer p143 : Value) = .pointer p3) ∧
  (NN q fun a147 =>
  ∃ p144 : Option Addr, cell h492 a147 = some (.pointer p144) ∧
  (.pointer p144 : Value) = .pointer p2) ∧
  (HCalls Tryz.prog 16 #[.pointer p2] h492 fun v108 h493 => ∃ (r109 : Option Addr) (rL103 rC103 : Nat), v108 = .slice r109 rL103 rC103 ∧
  (NN q fun a148 =>
  ∃ p145 : Option Addr, cell h493 a148 = some (.pointer p145) ∧
  (.pointer p145 : Value) = .pointer p4) ∧
  (NN q fun a149 =>
  ∃ p146 : Option Addr, cell h493 a149 = some (.pointer p146) ∧
  (.pointer p146 : Value) = .pointer p3) ∧
  (HCalls Tryz.prog 27 #[.pointer p3] h493 fun v109 h494 => ∃ (r110 : Option Addr) (rL104 rC104 : Nat), v109 = .slice r110 rL104 rC104 ∧
  (NN q fun a150 =>
  ∃ p147 : Option Addr, cell h494 a150 = some (.pointer p147) ∧
  (.pointer p147 : Value) = .pointer p4) ∧
  (HCalls Tryz.prog 17 #[.pointer p4] h494 fun v110 h495 => ∃ (r111 : Option Addr) (rL105 rC105 : Nat), v110 = .slice r111 rL105 rC105 ∧
  (New h495 (.cells #[.slice none 0 0] 23) fun b139 h496 =>
  New h496 (.cells #[.slice none 0 0] 23) fun b140 h497 =>
  Wr h497 ⟨b139, 0, none⟩ (.slice r109 rL103 rC103) fun h498 =>
  Wr h498 ⟨b138, 0, none⟩ (.slice r110 rL104 rC104) fun h499 =>
  Wr h499 ⟨b140, 0, none⟩ (.slice r111 rL105 rC105) fun h500 =>
  l35_PartialretroBack_b5 x q (some ⟨b139, 0, none⟩) (some ⟨b138, 0, none⟩) (some ⟨b140, 0, none⟩) h500  K) ∧
  (New h495 (.cells #[.slice none 0 0] 23) fun b141 h501 =>
  New h501 (.cells #[.slice none 0 0] 23) fun b142 h502 =>
  Wr h502 ⟨b142, 0, none⟩ (.slice r109 rL103 rC103) fun h503 =>
  Wr h503 ⟨b138, 0, none⟩ (.slice r110 rL104 rC104) fun h504 =>
  Wr h504 ⟨b141, 0, none⟩ (.slice r111 rL105 rC105) fun h505 =>
  l35_PartialretroBack_b5 x q (some ⟨b142, 0, none⟩) (some ⟨b138, 0, none⟩) (some ⟨b141, 0, none⟩) h505  K)) ∧
  (New h494 (.cells #[.slice none 0 0] 23) fun b143 h506 =>
  (NN q fun a151 =>
  ∃ p148 : Option Addr, cell h506 a151 = some (.pointer p148) ∧
  (.pointer p148 : Value) = .pointer p4) ∧
  (HCalls Tryz.prog 17 #[.pointer p4] h506 fun v111 h507 => ∃ (r112 : Option Addr) (rL106 rC106 : Nat), v111 = .slice r112 rL106 rC106 ∧
  New h507 (.cells #[.slice none 0 0] 23) fun b144 h508 =>
  Wr h508 ⟨b143, 0, none⟩ (.slice r109 rL103 rC103) fun h509 =>
  Wr h509 ⟨b138, 0, none⟩ (.slice r110 rL104 rC104) fun h510 =>
  Wr h510 ⟨b144, 0, none⟩ (.slice r112 rL106 rC106) fun h511 =>
  l35_PartialretroBack_b5 x q (some ⟨b143, 0, none⟩) (some ⟨b138, 0, none⟩) (some ⟨b144, 0, none⟩) h511  K) ∧
  (New h506 (.cells #[.slice none 0 0] 23) fun b145 h512 =>
  (NN q fun a152 =>
  ∃ p149 : Option Addr, cell h512 a152 = some (.pointer p149) ∧
  (.pointer p149 : Value) = .pointer p4) ∧
  HCalls Tryz.prog 17 #[.pointer p4] h512 fun v112 h513 => ∃ (r113 : Option Addr) (rL107 rC107 : Nat), v112 = .slice r113 rL107 rC107 ∧
  Wr h513 ⟨b143, 0, none⟩ (.slice r109 rL103 rC103) fun h514 =>
  Wr h514 ⟨b138, 0, none⟩ (.slice r110 rL104 rC104) fun h515 =>
  Wr h515 ⟨b145, 0, none⟩ (.slice r113 rL107 rC107) fun h516 =>
  l35_PartialretroBack_b5 x q (some ⟨b143, 0, none⟩) (some ⟨b138, 0, none⟩) (some ⟨b145, 0, none⟩) h516  K)) ∧
  (New h494 (.cells #[.slice none 0 0] 23) fun b146 h517 =>
  (NN q fun a153 =>
  ∃ p150 : Option Addr, cell h517 a153 = some (.pointer p150) ∧
  (.pointer p150 : Value) = .pointer p4) ∧
  (HCalls Tryz.prog 17 #[.pointer p4] h517 fun v113 h518 => ∃ (r114 : Option Addr) (rL108 rC108 : Nat), v113 = .slice r114 rL108 rC108 ∧
  New h518 (.cells #[.slice none 0 0] 23) fun b147 h519 =>
  Wr h519 ⟨b147, 0, none⟩ (.slice r109 rL103 rC103) fun h520 =>
  Wr h520 ⟨b138, 0, none⟩ (.slice r110 rL104 rC104) fun h521 =>
  Wr h521 ⟨b146, 0, none⟩ (.slice r114 rL108 rC108) fun h522 =>
  l35_PartialretroBack_b5 x q (some ⟨b147, 0, none⟩) (some ⟨b138, 0, none⟩) (some ⟨b146, 0, none⟩) h522  K) ∧
  (New h517 (.cells #[.slice none 0 0] 23) fun b148 h523 =>
  (NN q fun a154 =>
  ∃ p151 : Option Addr, cell h523 a154 = some (.pointer p151) ∧
  (.pointer p151 : Value) = .pointer p4) ∧
  HCalls Tryz.prog 17 #[.pointer p4] h523 fun v114 h524 => ∃ (r115 : Option Addr) (rL109 rC109 : Nat), v114 = .slice r115 rL109 rC109 ∧
  Wr h524 ⟨b148, 0, none⟩ (.slice r109 rL103 rC103) fun h525 =>
  Wr h525 ⟨b138, 0, none⟩ (.slice r110 rL104 rC104) fun h526 =>
  Wr h526 ⟨b146, 0, none⟩ (.slice r115 rL109 rC109) fun h527 =>
  l35_PartialretroBack_b5 x q (some ⟨b148, 0, none⟩) (some ⟨b138, 0, none⟩) (some ⟨b146, 0, none⟩) h527  K))) ∧
  (New h493 (.cells #[.slice none 0 0] 23) fun b149 h528 =>
  (NN q fun a155 =>
  ∃ p152 : Option Addr, cell h528 a155 = some (.pointer p152) ∧
  (.pointer p152 : Value) = .pointer p4) ∧
  (NN q fun a156 =>
  ∃ p153 : Option Addr, cell h528 a156 = some (.pointer p153) ∧
  (.pointer p153 : Value) = .pointer p3) ∧
  (HCalls Tryz.prog 27 #[.pointer p3] h528 fun v115 h529 => ∃ (r116 : Option Addr) (rL110 rC110 : Nat), v115 = .slice r116 rL110 rC110 ∧
  (NN q fun a157 =>
  ∃ p154 : Option Addr, cell h529 a157 = some (.pointer p154) ∧
  (.pointer p154 : Value) = .pointer p4) ∧
  (HCalls Tryz.prog 17 #[.pointer p4] h529 fun v116 h530 => ∃ (r117 : Option Addr) (rL111 rC111 : Nat), v116 = .slice r117 rL111 rC111 ∧
  New h530 (.cells #[.slice none 0 0] 23) fun b150 h531 =>
  Wr h531 ⟨b149, 0, none⟩ (.slice r109 rL103 rC103) fun h532 =>
  Wr h532 ⟨b138, 0, none⟩ (.slice r116 rL110 rC110) fun h533 =>
  Wr h533 ⟨b150, 0, none⟩ (.slice r117 rL111 rC111) fun h534 =>
  l35_PartialretroBack_b5 x q (some ⟨b149, 0, none⟩) (some ⟨b138, 0, none⟩) (some ⟨b150, 0, none⟩) h534  K) ∧
  (New h529 (.cells #[.slice none 0 0] 23) fun b151 h535 =>
  (NN q fun a158 =>
  ∃ p155 : Option Addr, cell h535 a158 = some (.pointer p155) ∧
  (.pointer p155 : Value) = .pointer p4) ∧
  HCalls Tryz.prog 17 #[.pointer p4] h535 fun v117 h536 => ∃ (r118 : Option Addr) (rL112 rC112 : Nat), v117 = .slice r118 rL112 rC112 ∧
  Wr h536 ⟨b149, 0, none⟩ (.slice r109 rL103 rC103) fun h537 =>
  Wr h537 ⟨b138, 0, none⟩ (.slice r116 rL110 rC110) fun h538 =>
  Wr h538 ⟨b151, 0, none⟩ (.slice r118 rL112 rC112) fun h539 =>
  l35_PartialretroBack_b5 x q (some ⟨b149, 0, none⟩) (some ⟨b138, 0, none⟩) (some ⟨b151, 0, none⟩) h539  K)) ∧
  (New h528 (.cells #[.slice none 0 0] 23) fun b152 h540 =>
  (NN q fun a159 =>
  ∃ p156 : Option Addr, cell h540 a159 = some (.pointer p156) ∧
  (.pointer p156 : Value) = .pointer p4) ∧
  (NN q fun a160 =>
  ∃ p157 : Option Addr, cell h540 a160 = some (.pointer p157) ∧
  (.pointer p157 : Value) = .pointer p3) ∧
  HCalls Tryz.prog 27 #[.pointer p3] h540 fun v118 h541 => ∃ (r119 : Option Addr) (rL113 rC113 : Nat), v118 = .slice r119 rL113 rC113 ∧
  (NN q fun a161 =>
  ∃ p158 : Option Addr, cell h541 a161 = some (.pointer p158) ∧
  (.pointer p158 : Value) = .pointer p4) ∧
  HCalls Tryz.prog 17 #[.pointer p4] h541 fun v119 h542 => ∃ (r120 : Option Addr) (rL114 rC114 : Nat), v119 = .slice r120 rL114 rC114 ∧
  Wr h542 ⟨b149, 0, none⟩ (.slice r109 rL103 rC103) fun h543 =>
  Wr h543 ⟨b138, 0, none⟩ (.slice r119 rL113 rC113) fun h544 =>
  Wr h544 ⟨b152, 0, none⟩ (.slice r120 rL114 rC114) fun h545 =>
  l35_PartialretroBack_b5 x q (some ⟨b149, 0, none⟩) (some ⟨b138, 0, none⟩) (some ⟨b152, 0, none⟩) h545  K)) ∧
  (New h493 (.cells #[.slice none 0 0] 23) fun b153 h546 =>
  (NN q fun a162 =>
  ∃ p159 : Option Addr, cell h546 a162 = some (.pointer p159) ∧
  (.pointer p159 : Value) = .pointer p4) ∧
  (NN q fun a163 =>
  ∃ p160 : Option Addr, cell h546 a163 = some (.pointer p160) ∧
  (.pointer p160 : Value) = .pointer p3) ∧
  (HCalls Tryz.prog 27 #[.pointer p3] h546 fun v120 h547 => ∃ (r121 : Option Addr) (rL115 rC115 : Nat), v120 = .slice r121 rL115 rC115 ∧
  (NN q fun a164 =>
  ∃ p161 : Option Addr, cell h547 a164 = some (.pointer p161) ∧
  (.pointer p161 : Value) = .pointer p4) ∧
  (HCalls Tryz.prog 17 #[.pointer p4] h547 fun v121 h548 => ∃ (r122 : Option Addr) (rL116 rC116 : Nat), v121 = .slice r122 rL116 rC116 ∧
  New h548 (.cells #[.slice none 0 0] 23) fun b154 h549 =>
  Wr h549 ⟨b154, 0, none⟩ (.slice r109 rL103 rC103) fun h550 =>
  Wr h550 ⟨b138, 0, none⟩ (.slice r121 rL115 rC115) fun h551 =>
  Wr h551 ⟨b153, 0, none⟩ (.slice r122 rL116 rC116) fun h552 =>
  l35_PartialretroBack_b5 x q (some ⟨b154, 0, none⟩) (some ⟨b138, 0, none⟩) (some ⟨b153, 0, none⟩) h552  K) ∧
  (New h547 (.cells #[.slice none 0 0] 23) fun b155 h553 =>
  (NN q fun a165 =>
  ∃ p162 : Option Addr, cell h553 a165 = some (.pointer p162) ∧
  (.pointer p162 : Value) = .pointer p4) ∧
  HCalls Tryz.prog 17 #[.pointer p4] h553 fun v122 h554 => ∃ (r123 : Option Addr) (rL117 rC117 : Nat), v122 = .slice r123 rL117 rC117 ∧
  Wr h554 ⟨b155, 0, none⟩ (.slice r109 rL103 rC103) fun h555 =>
  Wr h555 ⟨b138, 0, none⟩ (.slice r121 rL115 rC115) fun h556 =>
  Wr h556 ⟨b153, 0, none⟩ (.slice r123 rL117 rC117) fun h557 =>
  l35_PartialretroBack_b5 x q (some ⟨b155, 0, none⟩) (some ⟨b138, 0, none⟩) (some ⟨b153, 0, none⟩) h557  K)) ∧
  (New h546 (.cells #[.slice none 0 0] 23) fun b156 h558 =>
  (NN q fun a166 =>
  ∃ p163 : Option Addr, cell h558 a166 = some (.pointer p163) ∧
  (.pointer p163 : Value) = .pointer p4) ∧
  (NN q fun a167 =>
  ∃ p164 : Option Addr, cell h558 a167 = some (.pointer p164) ∧
  (.pointer p164 : Value) = .pointer p3) ∧
  HCalls Tryz.prog 27 #[.pointer p3] h558 fun v123 h559 => ∃ (r124 : Option Addr) (rL118 rC118 : Nat), v123 = .slice r124 rL118 rC118 ∧
  (NN q fun a168 =>
  ∃ p165 : Option Addr, cell h559 a168 = some (.pointer p165) ∧
  (.pointer p165 : Value) = .pointer p4) ∧
  HCalls Tryz.prog 17 #[.pointer p4] h559 fun v124 h560 => ∃ (r125 : Option Addr) (rL119 rC119 : Nat), v124 = .slice r125 rL119 rC119 ∧
  Wr h560 ⟨b156, 0, none⟩ (.slice r109 rL103 rC103) fun h561 =>
  Wr h561 ⟨b138, 0, none⟩ (.slice r124 rL118 rC118) fun h562 =>
  Wr h562 ⟨b153, 0, none⟩ (.slice r125 rL119 rC119) fun h563 =>
  l35_PartialretroBack_b5 x q (some ⟨b156, 0, none⟩) (some ⟨b138, 0, none⟩) (some ⟨b153, 0, none⟩) h563  K))) ∧
  (New h492 (.cells #[.slice none 0 0] 23) fun b157 h564 =>
  (NN q fun a169 =>
  ∃ p166 : Option Addr, cell h564 a169 = some (.pointer p166) ∧
  (.pointer p166 : Value) = .pointer p4) ∧
  (NN q fun a170 =>
  ∃ p167 : Option Addr, cell h564 a170 = some (.pointer p167) ∧
  (.pointer p167 : Value) = .pointer p3) ∧
  (NN q fun a171 =>
  ∃ p168 : Option Addr, cell h564 a171 = some (.pointer p168) ∧
  (.pointer p168 : Value) = .pointer p2) ∧
  (HCalls Tryz.prog 16 #[.pointer p2] h564 fun v125 h565 => ∃ (r126 : Option Addr) (rL120 rC120 : Nat), v125 = .slice r126 rL120 rC120 ∧
  (NN q fun a172 =>
  ∃ p169 : Option Addr, cell h565 a172 = some (.pointer p169) ∧
  (.pointer p169 : Value) = .pointer p4) ∧
  (NN q fun a173 =>
  ∃ p170 : Option Addr, cell h565 a173 = some (.pointer p170) ∧
  (.pointer p170 : Value) = .pointer p3) ∧
  (HCalls Tryz.prog 27 #[.pointer p3] h565 fun v126 h566 => ∃ (r127 : Option Addr) (rL121 rC121 : Nat), v126 = .slice r127 rL121 rC121 ∧
  (NN q fun a174 =>
  ∃ p171 : Option Addr, cell h566 a174 = some (.pointer p171) ∧
  (.pointer p171 : Value) = .pointer p4) ∧
  (HCalls Tryz.prog 17 #[.pointer p4] h566 fun v127 h567 => ∃ (r128 : Option Addr) (rL122 rC122 : Nat), v127 = .slice r128 rL122 rC122 ∧
  New h567 (.cells #[.slice none 0 0] 23) fun b158 h568 =>
  Wr h568 ⟨b157, 0, none⟩ (.slice r126 rL120 rC120) fun h569 =>
  Wr h569 ⟨b138, 0, none⟩ (.slice r127 rL121 rC121) fun h570 =>
  Wr h570 ⟨b158, 0, none⟩ (.slice r128 rL122 rC122) fun h571 =>
  l35_PartialretroBack_b5 x q (some ⟨b157, 0, none⟩) (some ⟨b138, 0, none⟩) (some ⟨b158, 0, none⟩) h571  K) ∧
  (New h566 (.cells #[.slice none 0 0] 23) fun b159 h572 =>
  (NN q fun a175 =>
  ∃ p172 : Option Addr, cell h572 a175 = some (.pointer p172) ∧
  (.pointer p172 : Value) = .pointer p4) ∧
  HCalls Tryz.prog 17 #[.pointer p4] h572 fun v128 h573 => ∃ (r129 : Option Addr) (rL123 rC123 : Nat), v128 = .slice r129 rL123 rC123 ∧
  Wr h573 ⟨b157, 0, none⟩ (.slice r126 rL120 rC120) fun h574 =>
  Wr h574 ⟨b138, 0, none⟩ (.slice r127 rL121 rC121) fun h575 =>
  Wr h575 ⟨b159, 0, none⟩ (.slice r129 rL123 rC123) fun h576 =>
  l35_PartialretroBack_b5 x q (some ⟨b157, 0, none⟩) (some ⟨b138, 0, none⟩) (some ⟨b159, 0, none⟩) h576  K)) ∧
  (New h565 (.cells #[.slice none 0 0] 23) fun b160 h577 =>
  (NN q fun a176 =>
  ∃ p173 : Option Addr, cell h577 a176 = some (.pointer p173) ∧
  (.pointer p173 : Value) = .pointer p4) ∧
  (NN q fun a177 =>
  ∃ p174 : Option Addr, cell h577 a177 = some (.pointer p174) ∧
  (.pointer p174 : Value) = .pointer p3) ∧
  HCalls Tryz.prog 27 #[.pointer p3] h577 fun v129 h578 => ∃ (r130 : Option Addr) (rL124 rC124 : Nat), v129 = .slice r130 rL124 rC124 ∧
  (NN q fun a178 =>
  ∃ p175 : Option Addr, cell h578 a178 = some (.pointer p175) ∧
  (.pointer p175 : Value) = .pointer p4) ∧
  HCalls Tryz.prog 17 #[.pointer p4] h578 fun v130 h579 => ∃ (r131 : Option Addr) (rL125 rC125 : Nat), v130 = .slice r131 rL125 rC125 ∧
  Wr h579 ⟨b157, 0, none⟩ (.slice r126 rL120 rC120) fun h580 =>
  Wr h580 ⟨b138, 0, none⟩ (.slice r130 rL124 rC124) fun h581 =>
  Wr h581 ⟨b160, 0, none⟩ (.slice r131 rL125 rC125) fun h582 =>
  l35_PartialretroBack_b5 x q (some ⟨b157, 0, none⟩) (some ⟨b138, 0, none⟩) (some ⟨b160, 0, none⟩) h582  K)) ∧
  (New h564 (.cells #[.slice none 0 0] 23) fun b161 h583 =>
  (NN q fun a179 =>
  ∃ p176 : Option Addr, cell h583 a179 = some (.pointer p176) ∧
  (.pointer p176 : Value) = .pointer p4) ∧
  (NN q fun a180 =>
  ∃ p177 : Option Addr, cell h583 a180 = some (.pointer p177) ∧
  (.pointer p177 : Value) = .pointer p3) ∧
  (NN q fun a181 =>
  ∃ p178 : Option Addr, cell h583 a181 = some (.pointer p178) ∧
  (.pointer p178 : Value) = .pointer p2) ∧
  HCalls Tryz.prog 16 #[.pointer p2] h583 fun v131 h584 => ∃ (r132 : Option Addr) (rL126 rC126 : Nat), v131 = .slice r132 rL126 rC126 ∧
  (NN q fun a182 =>
  ∃ p179 : Option Addr, cell h584 a182 = some (.pointer p179) ∧
  (.pointer p179 : Value) = .pointer p4) ∧
  (NN q fun a183 =>
  ∃ p180 : Option Addr, cell h584 a183 = some (.pointer p180) ∧
  (.pointer p180 : Value) = .pointer p3) ∧
  HCalls Tryz.prog 27 #[.pointer p3] h584 fun v132 h585 => ∃ (r133 : Option Addr) (rL127 rC127 : Nat), v132 = .slice r133 rL127 rC127 ∧
  (NN q fun a184 =>
  ∃ p181 : Option Addr, cell h585 a184 = some (.pointer p181) ∧
  (.pointer p181 : Value) = .pointer p4) ∧
  HCalls Tryz.prog 17 #[.pointer p4] h585 fun v133 h586 => ∃ (r134 : Option Addr) (rL128 rC128 : Nat), v133 = .slice r134 rL128 rC128 ∧
  Wr h586 ⟨b157, 0, none⟩ (.slice r132 rL126 rC126) fun h587 =>
  Wr h587 ⟨b138, 0, none⟩ (.slice r133 rL127 rC127) fun h588 =>
  Wr h588 ⟨b161, 0, none⟩ (.slice r134 rL128 rC128) fun h589 =>
  l35_PartialretroBack_b5 x q (some ⟨b157, 0, none⟩) (some ⟨b138, 0, none⟩) (some ⟨b161, 0, none⟩) h589  K)) ∧
  (New h492 (.cells #[.slice none 0 0] 23) fun b162 h590 =>
  (NN q fun a185 =>
  ∃ p182 : Option Addr, cell h590 a185 = some (.pointer p182) ∧
  (.pointer p182 : Value) = .pointer p4) ∧
  (NN q fun a186 =>
  ∃ p183 : Option Addr, cell h590 a186 = some (.pointer p183) ∧
  (.pointer p183 : Value) = .pointer p3) ∧
  (NN q fun a187 =>
  ∃ p184 : Option Addr, cell h590 a187 = some (.pointer p184) ∧
  (.pointer p184 : Value) = .pointer p2) ∧
  (HCalls Tryz.prog 16 #[.pointer p2] h590 fun v134 h591 => ∃ (r135 : Option Addr) (rL129 rC129 : Nat), v134 = .slice r135 rL129 rC129 ∧
  (NN q fun a188 =>
  ∃ p185 : Option Addr, cell h591 a188 = some (.pointer p185) ∧
  (.pointer p185 : Value) = .pointer p4) ∧
  (NN q fun a189 =>
  ∃ p186 : Option Addr, cell h591 a189 = some (.pointer p186) ∧
  (.pointer p186 : Value) = .pointer p3) ∧
  (HCalls Tryz.prog 27 #[.pointer p3] h591 fun v135 h592 => ∃ (r136 : Option Addr) (rL130 rC130 : Nat), v135 = .slice r136 rL130 rC130 ∧
  (NN q fun a190 =>
  ∃ p187 : Option Addr, cell h592 a190 = some (.pointer p187) ∧
  (.pointer p187 : Value) = .pointer p4) ∧
  (HCalls Tryz.prog 17 #[.pointer p4] h592 fun v136 h593 => ∃ (r137 : Option Addr) (rL131 rC131 : Nat), v136 = .slice r137 rL131 rC131 ∧
  New h593 (.cells #[.slice none 0 0] 23) fun b163 h594 =>
  Wr h594 ⟨b163, 0, none⟩ (.slice r135 rL129 rC129) fun h595 =>
  Wr h595 ⟨b138, 0, none⟩ (.slice r136 rL130 rC130) fun h596 =>
  Wr h596 ⟨b162, 0, none⟩ (.slice r137 rL131 rC131) fun h597 =>
  l35_PartialretroBack_b5 x q (some ⟨b163, 0, none⟩) (some ⟨b138, 0, none⟩) (some ⟨b162, 0, none⟩) h597  K) ∧
  (New h592 (.cells #[.slice none 0 0] 23) fun b164 h598 =>
  (NN q fun a191 =>
  ∃ p188 : Option Addr, cell h598 a191 = some (.pointer p188) ∧
  (.pointer p188 : Value) = .pointer p4) ∧
  HCalls Tryz.prog 17 #[.pointer p4] h598 fun v137 h599 => ∃ (r138 : Option Addr) (rL132 rC132 : Nat), v137 = .slice r138 rL132 rC132 ∧
  Wr h599 ⟨b164, 0, none⟩ (.slice r135 rL129 rC129) fun h600 =>
  Wr h600 ⟨b138, 0, none⟩ (.slice r136 rL130 rC130) fun h601 =>
  Wr h601 ⟨b162, 0, none⟩ (.slice r138 rL132 rC132) fun h602 =>
  l35_PartialretroBack_b5 x q (some ⟨b164, 0, none⟩) (some ⟨b138, 0, none⟩) (some ⟨b162, 0, none⟩) h602  K)) ∧
  (New h591 (.cells #[.slice none 0 0] 23) fun b165 h603 =>
  (NN q fun a192 =>
  ∃ p189 : Option Addr, cell h603 a192 = some (.pointer p189) ∧
  (.pointer p189 : Value) = .pointer p4) ∧
  (NN q fun a193 =>
  ∃ p190 : Option Addr, cell h603 a193 = some (.pointer p190) ∧
  (.pointer p190 : Value) = .pointer p3) ∧
  HCalls Tryz.prog 27 #[.pointer p3] h603 fun v138 h604 => ∃ (r139 : Option Addr) (rL133 rC133 : Nat), v138 = .slice r139 rL133 rC133 ∧
  (NN q fun a194 =>
  ∃ p191 : Option Addr, cell h604 a194 = some (.pointer p191) ∧
  (.pointer p191 : Value) = .pointer p4) ∧
  HCalls Tryz.prog 17 #[.pointer p4] h604 fun v139 h605 => ∃ (r140 : Option Addr) (rL134 rC134 : Nat), v139 = .slice r140 rL134 rC134 ∧
  Wr h605 ⟨b165, 0, none⟩ (.slice r135 rL129 rC129) fun h606 =>
  Wr h606 ⟨b138, 0, none⟩ (.slice r139 rL133 rC133) fun h607 =>
  Wr h607 ⟨b162, 0, none⟩ (.slice r140 rL134 rC134) fun h608 =>
  l35_PartialretroBack_b5 x q (some ⟨b165, 0, none⟩) (some ⟨b138, 0, none⟩) (some ⟨b162, 0, none⟩) h608  K)) ∧
  (New h590 (.cells #[.slice none 0 0] 23) fun b166 h609 =>
  (NN q fun a195 =>
  ∃ p192 : Option Addr, cell h609 a195 = some (.pointer p192) ∧
  (.pointer p192 : Value) = .pointer p4) ∧
  (NN q fun a196 =>
  ∃ p193 : Option Addr, cell h609 a196 = some (.pointer p193) ∧
  (.pointer p193 : Value) = .pointer p3) ∧
  (NN q fun a197 =>
  ∃ p194 : Option Addr, cell h609 a197 = some (.pointer p194) ∧
  (.pointer p194 : Value) = .pointer p2) ∧
  HCalls Tryz.prog 16 #[.pointer p2] h609 fun v140 h610 => ∃ (r141 : Option Addr) (rL135 rC135 : Nat), v140 = .slice r141 rL135 rC135 ∧
  (NN q fun a198 =>
  ∃ p195 : Option Addr, cell h610 a198 = some (.pointer p195) ∧
  (.pointer p195 : Value) = .pointer p4) ∧
  (NN q fun a199 =>
  ∃ p196 : Option Addr, cell h610 a199 = some (.pointer p196) ∧
  (.pointer p196 : Value) = .pointer p3) ∧
  HCalls Tryz.prog 27 #[.pointer p3] h610 fun v141 h611 => ∃ (r142 : Option Addr) (rL136 rC136 : Nat), v141 = .slice r142 rL136 rC136 ∧
  (NN q fun a200 =>
  ∃ p197 : Option Addr, cell h611 a200 = some (.pointer p197) ∧
  (.pointer p197 : Value) = .pointer p4) ∧
  HCalls Tryz.prog 17 #[.pointer p4] h611 fun v142 h612 => ∃ (r143 : Option Addr) (rL137 rC137 : Nat), v142 = .slice r143 rL137 rC137 ∧
  Wr h612 ⟨b166, 0, none⟩ (.slice r141 rL135 rC135) fun h613 =>
  Wr h613 ⟨b138, 0, none⟩ (.slice r142 rL136 rC136) fun h614 =>
  Wr h614 ⟨b162, 0, none⟩ (.slice r143 rL137 rC137) fun h615 =>
  l35_PartialretroBack_b5 x q (some ⟨b166, 0, none⟩) (some ⟨b138, 0, none⟩) (some ⟨b162, 0, none⟩) h615  K))) ∧
  (New h (.cells #[.slice none 0 0] 23) fun b167 h616 =>
  (NN q fun a201 =>
  ∃ p198 : Option Addr, cell h616 a201 = some (.pointer p198) ∧
  (.pointer p198 : Value) = .pointer p4) ∧
  (NN q fun a202 =>
  ∃ p199 : Option Addr, cell h616 a202 = some (.pointer p199) ∧
  (.pointer p199 : Value) = .pointer p3) ∧
  (NN q fun a203 =>
  ∃ p200 : Option Addr, cell h616 a203 = some (.pointer p200) ∧
  (.pointer p200 : Value) = .pointer p2) ∧
  (HCalls Tryz.prog 16 #[.pointer p2] h616 fun v143 h617 => ∃ (r144 : Option Addr) (rL138 rC138 : Nat), v143 = .slice r144 rL138 rC138 ∧
  (NN q fun a204 =>
  ∃ p201 : Option Addr, cell h617 a204 = some (.pointer p201) ∧
  (.pointer p201 : Value) = .pointer p4) ∧
  (NN q fun a205 =>
  ∃ p202 : Option Addr, cell h617 a205 = some (.pointer p202) ∧
  (.pointer p202 : Value) = .pointer p3) ∧
  (HCalls Tryz.prog 27 #[.pointer p3] h617 fun v144 h618 => ∃ (r145 : Option Addr) (rL139 rC139 : Nat), v144 = .slice r145 rL139 rC139 ∧
  (NN q fun a206 =>
  ∃ p203 : Option Addr, cell h618 a206 = some (.pointer p203) ∧
  (.pointer p203 : Value) = .pointer p4) ∧
  (HCalls Tryz.prog 17 #[.pointer p4] h618 fun v145 h619 => ∃ (r146 : Option Addr) (rL140 rC140 : Nat), v145 = .slice r146 rL140 rC140 ∧
  (New h619 (.cells #[.slice none 0 0] 23) fun b168 h620 =>
  New h620 (.cells #[.slice none 0 0] 23) fun b169 h621 =>
  Wr h621 ⟨b168, 0, none⟩ (.slice r144 rL138 rC138) fun h622 =>
  Wr h622 ⟨b169, 0, none⟩ (.slice r145 rL139 rC139) fun h623 =>
  Wr h623 ⟨b167, 0, none⟩ (.slice r146 rL140 rC140) fun h624 =>
  l35_PartialretroBack_b5 x q (some ⟨b168, 0, none⟩) (some ⟨b169, 0, none⟩) (some ⟨b167, 0, none⟩) h624  K) ∧
  (New h619 (.cells #[.slice none 0 0] 23) fun b170 h625 =>
  New h625 (.cells #[.slice none 0 0] 23) fun b171 h626 =>
  Wr h626 ⟨b171, 0, none⟩ (.slice r144 rL138 rC138) fun h627 =>
  Wr h627 ⟨b170, 0, none⟩ (.slice r145 rL139 rC139) fun h628 =>
  Wr h628 ⟨b167, 0, none⟩ (.slice r146 rL140 rC140) fun h629 =>
  l35_PartialretroBack_b5 x q (some ⟨b171, 0, none⟩) (some ⟨b170, 0, none⟩) (some ⟨b167, 0, none⟩) h629  K)) ∧
  (New h618 (.cells #[.slice none 0 0] 23) fun b172 h630 =>
  (NN q fun a207 =>
  ∃ p204 : Option Addr, cell h630 a207 = some (.pointer p204) ∧
  (.pointer p204 : Value) = .pointer p4) ∧
  (HCalls Tryz.prog 17 #[.pointer p4] h630 fun v146 h631 => ∃ (r147 : Option Addr) (rL141 rC141 : Nat), v146 = .slice r147 rL141 rC141 ∧
  New h631 (.cells #[.slice none 0 0] 23) fun b173 h632 =>
  Wr h632 ⟨b172, 0, none⟩ (.slice r144 rL138 rC138) fun h633 =>
  Wr h633 ⟨b173, 0, none⟩ (.slice r145 rL139 rC139) fun h634 =>
  Wr h634 ⟨b167, 0, none⟩ (.slice r147 rL141 rC141) fun h635 =>
  l35_PartialretroBack_b5 x q (some ⟨b172, 0, none⟩) (some ⟨b173, 0, none⟩) (some ⟨b167, 0, none⟩) h635  K) ∧
  (New h630 (.cells #[.slice none 0 0] 23) fun b174 h636 =>
  (NN q fun a208 =>
  ∃ p205 : Option Addr, cell h636 a208 = some (.pointer p205) ∧
  (.pointer p205 : Value) = .pointer p4) ∧
  HCalls Tryz.prog 17 #[.pointer p4] h636 fun v147 h637 => ∃ (r148 : Option Addr) (rL142 rC142 : Nat), v147 = .slice r148 rL142 rC142 ∧
  Wr h637 ⟨b172, 0, none⟩ (.slice r144 rL138 rC138) fun h638 =>
  Wr h638 ⟨b174, 0, none⟩ (.slice r145 rL139 rC139) fun h639 =>
  Wr h639 ⟨b167, 0, none⟩ (.slice r148 rL142 rC142) fun h640 =>
  l35_PartialretroBack_b5 x q (some ⟨b172, 0, none⟩) (some ⟨b174, 0, none⟩) (some ⟨b167, 0, none⟩) h640  K)) ∧
  (New h618 (.cells #[.slice none 0 0] 23) fun b175 h641 =>
  (NN q fun a209 =>
  ∃ p206 : Option Addr, cell h641 a209 = some (.pointer p206) ∧
  (.pointer p206 : Value) = .pointer p4) ∧
  (HCalls Tryz.prog 17 #[.pointer p4] h641 fun v148 h642 => ∃ (r149 : Option Addr) (rL143 rC143 : Nat), v148 = .slice r149 rL143 rC143 ∧
  New h642 (.cells #[.slice none 0 0] 23) fun b176 h643 =>
  Wr h643 ⟨b176, 0, none⟩ (.slice r144 rL138 rC138) fun h644 =>
  Wr h644 ⟨b175, 0, none⟩ (.slice r145 rL139 rC139) fun h645 =>
  Wr h645 ⟨b167, 0, none⟩ (.slice r149 rL143 rC143) fun h646 =>
  l35_PartialretroBack_b5 x q (some ⟨b176, 0, none⟩) (some ⟨b175, 0, none⟩) (some ⟨b167, 0, none⟩) h646  K) ∧
  (New h641 (.cells #[.slice none 0 0] 23) fun b177 h647 =>
  (NN q fun a210 =>
  ∃ p207 : Option Addr, cell h647 a210 = some (.pointer p207) ∧
  (.pointer p207 : Value) = .pointer p4) ∧
  HCalls Tryz.prog 17 #[.pointer p4] h647 fun v149 h648 => ∃ (r150 : Option Addr) (rL144 rC144 : Nat), v149 = .slice r150 rL144 rC144 ∧
  Wr h648 ⟨b177, 0, none⟩ (.slice r144 rL138 rC138) fun h649 =>
  Wr h649 ⟨b175, 0, none⟩ (.slice r145 rL139 rC139) fun h650 =>
  Wr h650 ⟨b167, 0, none⟩ (.slice r150 rL144 rC144) fun h651 =>
  l35_PartialretroBack_b5 x q (some ⟨b177, 0, none⟩) (some ⟨b175, 0, none⟩) (some ⟨b167, 0, none⟩) h651  K))) ∧
  (New h617 (.cells #[.slice none 0 0] 23) fun b178 h652 =>
  (NN q fun a211 =>
  ∃ p208 : Option Addr, cell h652 a211 = some (.pointer p208) ∧
  (.pointer p208 : Value) = .pointer p4) ∧
  (NN q fun a212 =>
  ∃ p209 : Option Addr, cell h652 a212 = some (.pointer p209) ∧
  (.pointer p209 : Value) = .pointer p3) ∧
  (HCalls Tryz.prog 27 #[.pointer p3] h652 fun v150 h653 => ∃ (r151 : Option Addr) (rL145 rC145 : Nat), v150 = .slice r151 rL145 rC145 ∧
  (NN q fun a213 =>
  ∃ p210 : Option Addr, cell h653 a213 = some (.pointer p210) ∧
  (.pointer p210 : Value) = .pointer p4) ∧
  (HCalls Tryz.prog 17 #[.pointer p4] h653 fun v151 h654 => ∃ (r152 : Option Addr) (rL146 rC146 : Nat), v151 = .slice r152 rL146 rC146 ∧
  New h654 (.cells #[.slice none 0 0] 23) fun b179 h655 =>
  Wr h655 ⟨b178, 0, none⟩ (.slice r144 rL138 rC138) fun h656 =>
  Wr h656 ⟨b179, 0, none⟩ (.slice r151 rL145 rC145) fun h657 =>
  Wr h657 ⟨b167, 0, none⟩ (.slice r152 rL146 rC146) fun h658 =>
  l35_PartialretroBack_b5 x q (some ⟨b178, 0, none⟩) (some ⟨b179, 0, none⟩) (some ⟨b167, 0, none⟩) h658  K) ∧
  (New h653 (.cells #[.slice none 0 0] 23) fun b180 h659 =>
  (NN q fun a214 =>
  ∃ p211 : Option Addr, cell h659 a214 = some (.pointer p211) ∧
  (.pointer p211 : Value) = .pointer p4) ∧
  HCalls Tryz.prog 17 #[.pointer p4] h659 fun v152 h660 => ∃ (r153 : Option Addr) (rL147 rC147 : Nat), v152 = .slice r153 rL147 rC147 ∧
  Wr h660 ⟨b178, 0, none⟩ (.slice r144 rL138 rC138) fun h661 =>
  Wr h661 ⟨b180, 0, none⟩ (.slice r151 rL145 rC145) fun h662 =>
  Wr h662 ⟨b167, 0, none⟩ (.slice r153 rL147 rC147) fun h663 =>
  l35_PartialretroBack_b5 x q (some ⟨b178, 0, none⟩) (some ⟨b180, 0, none⟩) (some ⟨b167, 0, none⟩) h663  K)) ∧
  (New h652 (.cells #[.slice none 0 0] 23) fun b181 h664 =>
  (NN q fun a215 =>
  ∃ p212 : Option Addr, cell h664 a215 = some (.pointer p212) ∧
  (.pointer p212 : Value) = .pointer p4) ∧
  (NN q fun a216 =>
  ∃ p213 : Option Addr, cell h664 a216 = some (.pointer p213) ∧
  (.pointer p213 : Value) = .pointer p3) ∧
  HCalls Tryz.prog 27 #[.pointer p3] h664 fun v153 h665 => ∃ (r154 : Option Addr) (rL148 rC148 : Nat), v153 = .slice r154 rL148 rC148 ∧
  (NN q fun a217 =>
  ∃ p214 : Option Addr, cell h665 a217 = some (.pointer p214) ∧
  (.pointer p214 : Value) = .pointer p4) ∧
  HCalls Tryz.prog 17 #[.pointer p4] h665 fun v154 h666 => ∃ (r155 : Option Addr) (rL149 rC149 : Nat), v154 = .slice r155 rL149 rC149 ∧
  Wr h666 ⟨b178, 0, none⟩ (.slice r144 rL138 rC138) fun h667 =>
  Wr h667 ⟨b181, 0, none⟩ (.slice r154 rL148 rC148) fun h668 =>
  Wr h668 ⟨b167, 0, none⟩ (.slice r155 rL149 rC149) fun h669 =>
  l35_PartialretroBack_b5 x q (some ⟨b178, 0, none⟩) (some ⟨b181, 0, none⟩) (some ⟨b167, 0, none⟩) h669  K)) ∧
  (New h617 (.cells #[.slice none 0 0] 23) fun b182 h670 =>
  (NN q fun a218 =>
  ∃ p215 : Option Addr, cell h670 a218 = some (.pointer p215) ∧
  (.pointer p215 : Value) = .pointer p4) ∧
  (NN q fun a219 =>
  ∃ p216 : Option Addr, cell h670 a219 = some (.pointer p216) ∧
  (.pointer p216 : Value) = .pointer p3) ∧
  (HCalls Tryz.prog 27 #[.pointer p3] h670 fun v155 h671 => ∃ (r156 : Option Addr) (rL150 rC150 : Nat), v155 = .slice r156 rL150 rC150 ∧
  (NN q fun a220 =>
  ∃ p217 : Option Addr, cell h671 a220 = some (.pointer p217) ∧
  (.pointer p217 : Value) = .pointer p4) ∧
  (HCalls Tryz.prog 17 #[.pointer p4] h671 fun v156 h672 => ∃ (r157 : Option Addr) (rL151 rC151 : Nat), v156 = .slice r157 rL151 rC151 ∧
  New h672 (.cells #[.slice none 0 0] 23) fun b183 h673 =>
  Wr h673 ⟨b183, 0, none⟩ (.slice r144 rL138 rC138) fun h674 =>
  Wr h674 ⟨b182, 0, none⟩ (.slice r156 rL150 rC150) fun h675 =>
  Wr h675 ⟨b167, 0, none⟩ (.slice r157 rL151 rC151) fun h676 =>
  l35_PartialretroBack_b5 x q (some ⟨b183, 0, none⟩) (some ⟨b182, 0, none⟩) (some ⟨b167, 0, none⟩) h676  K) ∧
  (New h671 (.cells #[.slice none 0 0] 23) fun b184 h677 =>
  (NN q fun a221 =>
  ∃ p218 : Option Addr, cell h677 a221 = some (.pointer p218) ∧
  (.pointer p218 : Value) = .pointer p4) ∧
  HCalls Tryz.prog 17 #[.pointer p4] h677 fun v157 h678 => ∃ (r158 : Option Addr) (rL152 rC152 : Nat), v157 = .slice r158 rL152 rC152 ∧
  Wr h678 ⟨b184, 0, none⟩ (.slice r144 rL138 rC138) fun h679 =>
  Wr h679 ⟨b182, 0, none⟩ (.slice r156 rL150 rC150) fun h680 =>
  Wr h680 ⟨b167, 0, none⟩ (.slice r158 rL152 rC152) fun h681 =>
  l35_PartialretroBack_b5 x q (some ⟨b184, 0, none⟩) (some ⟨b182, 0, none⟩) (some ⟨b167, 0, none⟩) h681  K)) ∧
  (New h670 (.cells #[.slice none 0 0] 23) fun b185 h682 =>
  (NN q fun a222 =>
  ∃ p219 : Option Addr, cell h682 a222 = some (.pointer p219) ∧
  (.pointer p219 : Value) = .pointer p4) ∧
  (NN q fun a223 =>
  ∃ p220 : Option Addr, cell h682 a223 = some (.pointer p220) ∧
  (.pointer p220 : Value) = .pointer p3) ∧
  HCalls Tryz.prog 27 #[.pointer p3] h682 fun v158 h683 => ∃ (r159 : Option Addr) (rL153 rC153 : Nat), v158 = .slice r159 rL153 rC153 ∧
  (NN q fun a224 =>
  ∃ p221 : Option Addr, cell h683 a224 = some (.pointer p221) ∧
  (.pointer p221 : Value) = .pointer p4) ∧
  HCalls Tryz.prog 17 #[.pointer p4] h683 fun v159 h684 => ∃ (r160 : Option Addr) (rL154 rC154 : Nat), v159 = .slice r160 rL154 rC154 ∧
  Wr h684 ⟨b185, 0, none⟩ (.slice r144 rL138 rC138) fun h685 =>
  Wr h685 ⟨b182, 0, none⟩ (.slice r159 rL153 rC153) fun h686 =>
  Wr h686 ⟨b167, 0, none⟩ (.slice r160 rL154 rC154) fun h687 =>
  l35_PartialretroBack_b5 x q (some ⟨b185, 0, none⟩) (some ⟨b182, 0, none⟩) (some ⟨b167, 0, none⟩) h687  K))) ∧
  (New h616 (.cells #[.slice none 0 0] 23) fun b186 h688 =>
  (NN q fun a225 =>
  ∃ p222 : Option Addr, cell h688 a225 = some (.pointer p222) ∧
  (.pointer p222 : Value) = .pointer p4) ∧
  (NN q fun a226 =>
  ∃ p223 : Option Addr, cell h688 a226 = some (.pointer p223) ∧
  (.pointer p223 : Value) = .pointer p3) ∧
  (NN q fun a227 =>
  ∃ p224 : Option Addr, cell h688 a227 = some (.pointer p224) ∧
  (.pointer p224 : Value) = .pointer p2) ∧
  (HCalls Tryz.prog 16 #[.pointer p2] h688 fun v160 h689 => ∃ (r161 : Option Addr) (rL155 rC155 : Nat), v160 = .slice r161 rL155 rC155 ∧
  (NN q fun a228 =>
  ∃ p225 : Option Addr, cell h689 a228 = some (.pointer p225) ∧
  (.pointer p225 : Value) = .pointer p4) ∧
  (NN q fun a229 =>
  ∃ p226 : Option Addr, cell h689 a229 = some (.pointer p226) ∧
  (.pointer p226 : Value) = .pointer p3) ∧
  (HCalls Tryz.prog 27 #[.pointer p3] h689 fun v161 h690 => ∃ (r162 : Option Addr) (rL156 rC156 : Nat), v161 = .slice r162 rL156 rC156 ∧
  (NN q fun a230 =>
  ∃ p227 : Option Addr, cell h690 a230 = some (.pointer p227) ∧
  (.pointer p227 : Value) = .pointer p4) ∧
  (HCalls Tryz.prog 17 #[.pointer p4] h690 fun v162 h691 => ∃ (r163 : Option Addr) (rL157 rC157 : Nat), v162 = .slice r163 rL157 rC157 ∧
  New h691 (.cells #[.slice none 0 0] 23) fun b187 h692 =>
  Wr h692 ⟨b186, 0, none⟩ (.slice r161 rL155 rC155) fun h693 =>
  Wr h693 ⟨b187, 0, none⟩ (.slice r162 rL156 rC156) fun h694 =>
  Wr h694 ⟨b167, 0, none⟩ (.slice r163 rL157 rC157) fun h695 =>
  l35_PartialretroBack_b5 x q (some ⟨b186, 0, none⟩) (some ⟨b187, 0, none⟩) (some ⟨b167, 0, none⟩) h695  K) ∧
  (New h690 (.cells #[.slice none 0 0] 23) fun b188 h696 =>
  (NN q fun a231 =>
  ∃ p228 : Option Addr, cell h696 a231 = some (.pointer p228) ∧
  (.pointer p228 : Value) = .pointer p4) ∧
  HCalls Tryz.prog 17 #[.pointer p4] h696 fun v163 h697 => ∃ (r164 : Option Addr) (rL158 rC158 : Nat), v163 = .slice r164 rL158 rC158 ∧
  Wr h697 ⟨b186, 0, none⟩ (.slice r161 rL155 rC155) fun h698 =>
  Wr h698 ⟨b188, 0, none⟩ (.slice r162 rL156 rC156) fun h699 =>
  Wr h699 ⟨b167, 0, none⟩ (.slice r164 rL158 rC158) fun h700 =>
  l35_PartialretroBack_b5 x q (some ⟨b186, 0, none⟩) (some ⟨b188, 0, none⟩) (some ⟨b167, 0, none⟩) h700  K)) ∧
  (New h689 (.cells #[.slice none 0 0] 23) fun b189 h701 =>
  (NN q fun a232 =>
  ∃ p229 : Option Addr, cell h701 a232 = some (.pointer p229) ∧
  (.pointer p229 : Value) = .pointer p4) ∧
  (NN q fun a233 =>
  ∃ p230 : Option Addr, cell h701 a233 = some (.pointer p230) ∧
  (.pointer p230 : Value) = .pointer p3) ∧
  HCalls Tryz.prog 27 #[.pointer p3] h701 fun v164 h702 => ∃ (r165 : Option Addr) (rL159 rC159 : Nat), v164 = .slice r165 rL159 rC159 ∧
  (NN q fun a234 =>
  ∃ p231 : Option Addr, cell h702 a234 = some (.pointer p231) ∧
  (.pointer p231 : Value) = .pointer p4) ∧
  HCalls Tryz.prog 17 #[.pointer p4] h702 fun v165 h703 => ∃ (r166 : Option Addr) (rL160 rC160 : Nat), v165 = .slice r166 rL160 rC160 ∧
  Wr h703 ⟨b186, 0, none⟩ (.slice r161 rL155 rC155) fun h704 =>
  Wr h704 ⟨b189, 0, none⟩ (.slice r165 rL159 rC159) fun h705 =>
  Wr h705 ⟨b167, 0, none⟩ (.slice r166 rL160 rC160) fun h706 =>
  l35_PartialretroBack_b5 x q (some ⟨b186, 0, none⟩) (some ⟨b189, 0, none⟩) (some ⟨b167, 0, none⟩) h706  K)) ∧
  (New h688 (.cells #[.slice none 0 0] 23) fun b190 h707 =>
  (NN q fun a235 =>
  ∃ p232 : Option Addr, cell h707 a235 = some (.pointer p232) ∧
  (.pointer p232 : Value) = .pointer p4) ∧
  (NN q fun a236 =>
  ∃ p233 : Option Addr, cell h707 a236 = some (.pointer p233) ∧
  (.pointer p233 : Value) = .pointer p3) ∧
  (NN q fun a237 =>
  ∃ p234 : Option Addr, cell h707 a237 = some (.pointer p234) ∧
  (.pointer p234 : Value) = .pointer p2) ∧
  HCalls Tryz.prog 16 #[.pointer p2] h707 fun v166 h708 => ∃ (r167 : Option Addr) (rL161 rC161 : Nat), v166 = .slice r167 rL161 rC161 ∧
  (NN q fun a238 =>
  ∃ p235 : Option Addr, cell h708 a238 = some (.pointer p235) ∧
  (.pointer p235 : Value) = .pointer p4) ∧
  (NN q fun a239 =>
  ∃ p236 : Option Addr, cell h708 a239 = some (.pointer p236) ∧
  (.pointer p236 : Value) = .pointer p3) ∧
  HCalls Tryz.prog 27 #[.pointer p3] h708 fun v167 h709 => ∃ (r168 : Option Addr) (rL162 rC162 : Nat), v167 = .slice r168 rL162 rC162 ∧
  (NN q fun a240 =>
  ∃ p237 : Option Addr, cell h709 a240 = some (.pointer p237) ∧
  (.pointer p237 : Value) = .pointer p4) ∧
  HCalls Tryz.prog 17 #[.pointer p4] h709 fun v168 h710 => ∃ (r169 : Option Addr) (rL163 rC163 : Nat), v168 = .slice r169 rL163 rC163 ∧
  Wr h710 ⟨b186, 0, none⟩ (.slice r167 rL161 rC161) fun h711 =>
  Wr h711 ⟨b190, 0, none⟩ (.slice r168 rL162 rC162) fun h712 =>
  Wr h712 ⟨b167, 0, none⟩ (.slice r169 rL163 rC163) fun h713 =>
  l35_PartialretroBack_b5 x q (some ⟨b186, 0, none⟩) (some ⟨b190, 0, none⟩) (some ⟨b167, 0, none⟩) h713  K)) ∧
  (New h616 (.cells #[.slice none 0 0] 23) fun b191 h714 =>
  (NN q fun a241 =>
  ∃ p238 : Option Addr, cell h714 a241 = some (.pointer p238) ∧
  (.pointer p238 : Value) = .pointer p4) ∧
  (NN q fun a242 =>
  ∃ p239 : Option Addr, cell h714 a242 = some (.pointer p239) ∧
  (.pointer p239 : Value) = .pointer p3) ∧
  (NN q fun a243 =>
  ∃ p240 : Option Addr, cell h714 a243 = some (.pointer p240) ∧
  (.pointer p240 : Value) = .pointer p2) ∧
  (HCalls Tryz.prog 16 #[.pointer p2] h714 fun v169 h715 => ∃ (r170 : Option Addr) (rL164 rC164 : Nat), v169 = .slice r170 rL164 rC164 ∧
  (NN q fun a244 =>
  ∃ p241 : Option Addr, cell h715 a244 = some (.pointer p241) ∧
  (.pointer p241 : Value) = .pointer p4) ∧
  (NN q fun a245 =>
  ∃ p242 : Option Addr, cell h715 a245 = some (.pointer p242) ∧
  (.pointer p242 : Value) = .pointer p3) ∧
  (HCalls Tryz.prog 27 #[.pointer p3] h715 fun v170 h716 => ∃ (r171 : Option Addr) (rL165 rC165 : Nat), v170 = .slice r171 rL165 rC165 ∧
  (NN q fun a246 =>
  ∃ p243 : Option Addr, cell h716 a246 = some (.pointer p243) ∧
  (.pointer p243 : Value) = .pointer p4) ∧
  (HCalls Tryz.prog 17 #[.pointer p4] h716 fun v171 h717 => ∃ (r172 : Option Addr) (rL166 rC166 : Nat), v171 = .slice r172 rL166 rC166 ∧
  New h717 (.cells #[.slice none 0 0] 23) fun b192 h718 =>
  Wr h718 ⟨b192, 0, none⟩ (.slice r170 rL164 rC164) fun h719 =>
  Wr h719 ⟨b191, 0, none⟩ (.slice r171 rL165 rC165) fun h720 =>
  Wr h720 ⟨b167, 0, none⟩ (.slice r172 rL166 rC166) fun h721 =>
  l35_PartialretroBack_b5 x q (some ⟨b192, 0, none⟩) (some ⟨b191, 0, none⟩) (some ⟨b167, 0, none⟩) h721  K) ∧
  (New h716 (.cells #[.slice none 0 0] 23) fun b193 h722 =>
  (NN q fun a247 =>
  ∃ p244 : Option Addr, cell h722 a247 = some (.pointer p244) ∧
  (.pointer p244 : Value) = .pointer p4) ∧
  HCalls Tryz.prog 17 #[.pointer p4] h722 fun v172 h723 => ∃ (r173 : Option Addr) (rL167 rC167 : Nat), v172 = .slice r173 rL167 rC167 ∧
  Wr h723 ⟨b193, 0, none⟩ (.slice r170 rL164 rC164) fun h724 =>
  Wr h724 ⟨b191, 0, none⟩ (.slice r171 rL165 rC165) fun h725 =>
  Wr h725 ⟨b167, 0, none⟩ (.slice r173 rL167 rC167) fun h726 =>
  l35_PartialretroBack_b5 x q (some ⟨b193, 0, none⟩) (some ⟨b191, 0, none⟩) (some ⟨b167, 0, none⟩) h726  K)) ∧
  (New h715 (.cells #[.slice none 0 0] 23) fun b194 h727 =>
  (NN q fun a248 =>
  ∃ p245 : Option Addr, cell h727 a248 = some (.pointer p245) ∧
  (.pointer p245 : Value) = .pointer p4) ∧
  (NN q fun a249 =>
  ∃ p246 : Option Addr, cell h727 a249 = some (.pointer p246) ∧
  (.pointer p246 : Value) = .pointer p3) ∧
  HCalls Tryz.prog 27 #[.pointer p3] h727 fun v173 h728 => ∃ (r174 : Option Addr) (rL168 rC168 : Nat), v173 = .slice r174 rL168 rC168 ∧
  (NN q fun a250 =>
  ∃ p247 : Option Addr, cell h728 a250 = some (.pointer p247) ∧
  (.pointer p247 : Value) = .pointer p4) ∧
  HCalls Tryz.prog 17 #[.pointer p4] h728 fun v174 h729 => ∃ (r175 : Option Addr) (rL169 rC169 : Nat), v174 = .slice r175 rL169 rC169 ∧
  Wr h729 ⟨b194, 0, none⟩ (.slice r170 rL164 rC164) fun h730 =>
  Wr h730 ⟨b191, 0, none⟩ (.slice r174 rL168 rC168) fun h731 =>
  Wr h731 ⟨b167, 0, none⟩ (.slice r175 rL169 rC169) fun h732 =>
  l35_PartialretroBack_b5 x q (some ⟨b194, 0, none⟩) (some ⟨b191, 0, none⟩) (some ⟨b167, 0, none⟩) h732  K)) ∧
  (New h714 (.cells #[.slice none 0 0] 23) fun b195 h733 =>
  (NN q fun a251 =>
  ∃ p248 : Option Addr, cell h733 a251 = some (.pointer p248) ∧
  (.pointer p248 : Value) = .pointer p4) ∧
  (NN q fun a252 =>
  ∃ p249 : Option Addr, cell h733 a252 = some (.pointer p249) ∧
  (.pointer p249 : Value) = .pointer p3) ∧
  (NN q fun a253 =>
  ∃ p250 : Option Addr, cell h733 a253 = some (.pointer p250) ∧
  (.pointer p250 : Value) = .pointer p2) ∧
  HCalls Tryz.prog 16 #[.pointer p2] h733 fun v175 h734 => ∃ (r176 : Option Addr) (rL170 rC170 : Nat), v175 = .slice r176 rL170 rC170 ∧
  (NN q fun a254 =>
  ∃ p251 : Option Addr, cell h734 a254 = some (.pointer p251) ∧
  (.pointer p251 : Value) = .pointer p4) ∧
  (NN q fun a255 =>
  ∃ p252 : Option Addr, cell h734 a255 = some (.pointer p252) ∧
  (.pointer p252 : Value) = .pointer p3) ∧
  HCalls Tryz.prog 27 #[.pointer p3] h734 fun v176 h735 => ∃ (r177 : Option Addr) (rL171 rC171 : Nat), v176 = .slice r177 rL171 rC171 ∧
  (NN q fun a256 =>
  ∃ p253 : Option Addr, cell h735 a256 = some (.pointer p253) ∧
  (.pointer p253 : Value) = .pointer p4) ∧
  HCalls Tryz.prog 17 #[.pointer p4] h735 fun v177 h736 => ∃ (r178 : Option Addr) (rL172 rC172 : Nat), v177 = .slice r178 rL172 rC172 ∧
  Wr h736 ⟨b195, 0, none⟩ (.slice r176 rL170 rC170) fun h737 =>
  Wr h737 ⟨b191, 0, none⟩ (.slice r177 rL171 rC171) fun h738 =>
  Wr h738 ⟨b167, 0, none⟩ (.slice r178 rL172 rC172) fun h739 =>
  l35_PartialretroBack_b5 x q (some ⟨b195, 0, none⟩) (some ⟨b191, 0, none⟩) (some ⟨b167, 0, none⟩) h739  K)))) := by kernel_rfl
theorem l35_PartialretroBack_b5_eq (x : Option Addr) (q : Option Addr) (keys : Option Addr) (atv : Option Addr) (bridges : Option Addr) (h : Hp)  (K : Value → Hp → Prop) : l35_PartialretroBack_b5 x q keys atv bridges h  K = (
  NN x fun a257 =>
  ∃ n9 : Int, cell h a257 = some (.int .i64 n9) ∧
  cond (decide (n9 = 0))
  (NN q fun a258 =>
  ∃ p254 : Option Addr, cell h a258 = some (.pointer p254) ∧
  NN x fun a259 =>
  ∃ n10 : Int, cell h (a259.add 1) = some (.int .i64 n10) ∧
  NN x fun a260 =>
  ∃ n11 : Int, cell h (a260.add 2) = some (.int .i64 n11) ∧
  HCalls Tryz.prog 20 #[.pointer p254, .int .i64 n10, .int .i64 n11] h fun v178 h740 => ∃ r179 : Int, v178 = .int .i64 r179 ∧
  l35_PartialretroBack_b6 x q keys atv bridges r179 h740  K)
  (NN q fun a261 =>
  ∃ p255 : Option Addr, cell h a261 = some (.pointer p255) ∧
  NN x fun a262 =>
  ∃ n12 : Int, cell h (a262.add 1) = some (.int .i64 n12) ∧
  HCalls Tryz.prog 25 #[.pointer p255, .int .i64 n12] h fun v179 h741 => ∃ r180 : Int, v179 = .int .i64 r180 ∧
  l35_PartialretroBack_b6 x q keys atv bridges r180 h741  K)) := by kernel_rfl
theorem l35_PartialretroBack_b6_eq (x : Option Addr) (q : Option Addr) (keys : Option Addr) (atv : Option Addr) (bridges : Option Addr) (e : Int) (h : Hp)  (K : Value → Hp → Prop) : l35_PartialretroBack_b6 x q keys atv bridges e h  K = (
  cond (!decide (e = 0))
  (HCalls Tryz.prog 28 #[.pointer q, .pointer keys, .pointer atv, .pointer bridges] h fun v180 h742 => ∃ r181 : Bool, v180 = .bool r181 ∧
  K (.bool r181) h742)
  (NN q fun a263 =>
  ∃ p256 : Option Addr, cell h a263 = some (.pointer p256) ∧
  NN keys fun a264 =>
  ∃ (a265 : Option Addr) (L3 C3 : Nat), cell h a264 = some (.slice a265 L3 C3) ∧
  HCalls Tryz.prog 16 #[.pointer p256] h fun v181 h743 => ∃ (r182 : Option Addr) (rL173 rC173 : Nat), v181 = .slice r182 rL173 rC173 ∧
  (NN keys fun a266 =>
  ∃ (a267 : Option Addr) (L4 C4 : Nat), cell h743 a266 = some (.slice a267 L4 C4) ∧
  (.slice a267 L4 C4 : Value) = .slice a265 L3 C3) ∧
  (NN keys fun a268 =>
  ∃ (a269 : Option Addr) (L5 C5 : Nat), cell h743 a268 = some (.slice a269 L5 C5) ∧
  (.slice a269 L5 C5 : Value) = .slice a265 L3 C3) ∧
  NN x fun a270 =>
  ∃ n13 : Int, cell h743 a270 = some (.int .i64 n13) ∧
  cond (!decide (n13 = 0))
  (NN keys fun a271 =>
  ∃ (a272 : Option Addr) (L6 C6 : Nat), cell h743 a271 = some (.slice a272 L6 C6) ∧
  l35_PartialretroBack_b7 x q atv (.func (.func 28) #[] #[.pointer q, .pointer keys, .pointer atv, .pointer bridges]) a272 L6 C6 r182 rL173 rC173 h743  K)
  (l35_PartialretroBack_b7 x q atv (.func (.func 28) #[] #[.pointer q, .pointer keys, .pointer atv, .pointer bridges]) r182 rL173 rC173 a265 L3 C3 h743  K))) := by kernel_rfl
theorem l35_PartialretroBack_b7_eq (x : Option Addr) (q : Option Addr) (atv : Option Addr) (same : Value) (more : Option Addr) (moreL : Nat) (moreC : Nat) (less : Option Addr) (lessL : Nat) (lessC : Nat) (h : Hp)  (K : Value → Hp → Prop) : l35_PartialretroBack_b7 x q atv same more moreL moreC less lessL lessC h  K = (
  LoopVC ((0, ()) : Int × Unit) h (fun (nx0 : Int × Unit → Hp → Prop) (s2 : Int × Unit) h744 => l35_PartialretroBack_b8 s2.1 x q atv same more moreL moreC less lessL lessC h744 nx0 K)) := by kernel_rfl
theorem l35_PartialretroBack_b8_eq (i : Int) (x : Option Addr) (q : Option Addr) (atv : Option Addr) (same : Value) (more : Option Addr) (moreL : Nat) (moreC : Nat) (less : Option Addr) (lessL : Nat) (lessC : Nat) (h : Hp) (nx0 : Int × Unit → Hp → Prop) (K : Value → Hp → Prop) : l35_PartialretroBack_b8 i x q atv same more moreL moreC less lessL lessC h nx0 K = (
  cond (decide (i < (lessL : Int)))
  (cond (decide (i < (moreL : Int)))
  ((0 ≤ i ∧ i < (lessL : Int)) ∧
  NN less fun a273 =>
  ∃ n14 : Int, cell h (a273.add (Int.toNat i * 1)) = some (.int .i64 n14) ∧
  (0 ≤ i ∧ i < (moreL : Int)) ∧
  NN more fun a274 =>
  ∃ n15 : Int, cell h (a274.add (Int.toNat i * 1)) = some (.int .i64 n15) ∧
  cond (decide (n14 = n15))
  (l35_PartialretroBack_b9 x q atv same more moreL moreC less lessL lessC i h nx0 K)
  (l35_PartialretroBack_b10 x q atv same more moreL moreC less lessL lessC i h  K))
  (l35_PartialretroBack_b10 x q atv same more moreL moreC less lessL lessC i h  K))
  (l35_PartialretroBack_b10 x q atv same more moreL moreC less lessL lessC i h  K)) := by kernel_rfl
theorem l35_PartialretroBack_b9_eq (x : Option Addr) (q : Option Addr) (atv : Option Addr) (same : Value) (more : Option Addr) (moreL : Nat) (moreC : Nat) (less : Option Addr) (lessL : Nat) (lessC : Nat) (i : Int) (h : Hp) (nx0 : Int × Unit → Hp → Prop) (K : Value → Hp → Prop) : l35_PartialretroBack_b9 x q atv same more moreL moreC less lessL lessC i h nx0 K = (
  InR (i + 1) ∧
  nx0 (i + 1, ()) h) := by kernel_rfl
theorem l35_PartialretroBack_b10_eq (x : Option Addr) (q : Option Addr) (atv : Option Addr) (same : Value) (more : Option Addr) (moreL : Nat) (moreC : Nat) (less : Option Addr) (lessL : Nat) (lessC : Nat) (i : Int) (h : Hp)  (K : Value → Hp → Prop) : l35_PartialretroBack_b10 x q atv same more moreL moreC less lessL lessC i h  K = (
  InR ((lessL : Int) + 1) ∧
  cond (!decide ((moreL : Int) = ((lessL : Int) + 1)))
  (K (.bool false) h)
  (InR (i + 1) ∧
  HCalls Tryz.prog 24 #[.slice more moreL moreC] h fun v182 h745 => ∃ (r183 : Option Addr) (rL174 rC174 : Nat), v182 = .slice r183 rL174 rC174 ∧
  HCalls Tryz.prog 26 #[.slice r183 rL174 rC174, .int .i64 i, .int .i64 (i + 1)] h745 fun v183 h746 => ∃ (r184 : Option Addr) (rL175 rC175 : Nat), v183 = .slice r184 rL175 rC175 ∧
  HCalls Tryz.prog 22 #[.slice r184 rL175 rC175, .slice less lessL lessC] h746 fun v184 h747 => ∃ r185 : Bool, v184 = .bool r185 ∧
  cond (!r185)
  (K (.bool false) h747)
  (NN q fun a275 =>
  ∃ p257 : Option Addr, cell h747 a275 = some (.pointer p257) ∧
  NN atv fun a276 =>
  ∃ (a277 : Option Addr) (L7 C7 : Nat), cell h747 a276 = some (.slice a277 L7 C7) ∧
  InR ((L7 : Int) + 1) ∧
  HCalls Tryz.prog 27 #[.pointer p257] h747 fun v185 h748 => ∃ (r186 : Option Addr) (rL176 rC176 : Nat), v185 = .slice r186 rL176 rC176 ∧
  (NN atv fun a278 =>
  ∃ (a279 : Option Addr) (L8 C8 : Nat), cell h748 a278 = some (.slice a279 L8 C8) ∧
  (.slice a279 L8 C8 : Value) = .slice a277 L7 C7) ∧
  cond (!decide ((rL176 : Int) = ((L7 : Int) + 1)))
  (K (.bool false) h748)
  (l35_PartialretroBack_b11 x q same h748  K)))) := by kernel_rfl
theorem l35_PartialretroBack_b11_eq (x : Option Addr) (q : Option Addr) (same : Value) (h : Hp)  (K : Value → Hp → Prop) : l35_PartialretroBack_b11 x q same h  K = (
  NN q fun a280 =>
  ∃ p258 : Option Addr, cell h a280 = some (.pointer p258) ∧
  NN x fun a281 =>
  ∃ n16 : Int, cell h (a281.add 1) = some (.int .i64 n16) ∧
  HCalls Tryz.prog 29 #[.pointer p258, .int .i64 n16] h fun v186 h749 => ∃ r187 : Int, v186 = .int .i64 r187 ∧
  cond (decide (r187 = 0))
  (funV same fun fg1 fa1 fc1 => callX Tryz.prog F fg1 (fa1 ++ (([] : List Value) ++ fc1)).toArray h749 fun v187 h750 => ∃ r188 : Bool, v187 = .bool r188 ∧
  K (.bool r188) h750)
  (K (.bool false) h749)) := by kernel_rfl
theorem l35_PartialretroBack_call {l : Option Addr} {lL : Nat} {lC : Nat} {x_0 : Int} {x_1 : Int} {x_2 : Int} {x_3 : Int} {x_4 : Option Addr} {x_4L : Nat} {x_4C : Nat} {h : Hp} {K : Value → Hp → Prop} (hk : l35_PartialretroBack_b0 l lL lC x_0 x_1 x_2 x_3 x_4 x_4L x_4C h K) : HCalls Tryz.prog 4 #[.slice l lL lC, .agg #[.int .i64 x_0, .int .i64 x_1, .int .i64 x_2, .int .i64 x_3, .slice x_4 x_4L x_4C]] h K :=
  calls_of_snd l35_PartialretroBack_an Tryz.func4 (c := bodyOf Tryz.f4) rfl Tryz.ntmps4 (Nat.le_of_ble_eq_true rfl) (snd_8 F_ok F_mixed) hk

end Go.Proofs.YtdlkohenamlnaaaGreat

/- Plain lists: what one more operation changes. -/
namespace Go.Sx
/-- Equal operations at the front leave equal queues. -/
theorem nowAt_congr {l l' : List Ev} : ∀ {i : Nat}, (∀ j, j < i → l.getD j evD = l'.getD j evD) → nowAt l i = nowAt l' i
  | 0, _ => rfl
  | i + 1, h => by
    unfold nowAt
    rw [nowAt_congr (fun j hj => h j (by omega)), h i (by omega)]
theorem putT_get {x : Ev} {l : List Ev} {p : Nat} (hp : p ≤ l.length) : (∀ j, j < p → (l.take p ++ x :: l.drop p).getD j evD = l.getD j evD) ∧ (l.take p ++ x :: l.drop p).getD p evD = x ∧ ∀ j, p ≤ j → (l.take p ++ x :: l.drop p).getD (j + 1) evD = l.getD j evD := by
  have hl : (l.take p).length = p := by rw [List.length_take]; omega
  refine ⟨fun j hj => ?_, ?_, fun j hj => ?_⟩
  · rw [List.getD_eq_getElem?_getD, List.getElem?_append_left (by omega), List.getElem?_take_of_lt hj, ← List.getD_eq_getElem?_getD]
  · rw [List.getD_eq_getElem?_getD, List.getElem?_append_right (by omega), hl, Nat.sub_self]; rfl
  · rw [List.getD_eq_getElem?_getD, List.getElem?_append_right (by omega), hl, show j + 1 - p = (j - p) + 1 by omega, List.getElem?_cons_succ, List.getElem?_drop, show p + (j - p) = j by omega, ← List.getD_eq_getElem?_getD]
abbrev keysL (now : List El) : List Int := now.map Prod.fst
theorem keysL_srt {now : List El} (h : SrtE now) : (keysL now).Pairwise (· ≤ ·) := by
  rw [List.pairwise_map]
  exact h.imp fun {a b} (h : LtE a b) => by unfold LtE at h; omega
theorem keysL_ins {x : El} {now : List El} : (keysL (insE x now)).Perm (x.1 :: keysL now) := insE_perm.map Prod.fst
/-- The second has what the first has, and one more. -/
def Plus (A B : List Int) : Prop := ∃ z, B.Perm (z :: A)
theorem plus_ins {A B A' B' : List Int} {k : Int} (h : Plus A B) (ha : A'.Perm (k :: A)) (hb : B'.Perm (k :: B)) : Plus A' B' := by
  obtain ⟨z, hz⟩ := h
  exact ⟨z, hb.trans (((List.Perm.cons k hz).trans (.swap _ _ _)).trans (.cons z ha.symm))⟩
theorem plus_del {a b : Int} {A B : List Int} (hA : (a :: A).Pairwise (· ≤ ·)) (hB : (b :: B).Pairwise (· ≤ ·)) (h : Plus (a :: A) (b :: B)) : Plus A B := by
  obtain ⟨z, hz⟩ := h
  have ha := (List.pairwise_cons.1 hA).1
  have hb := (List.pairwise_cons.1 hB).1
  have hbm : b ∈ z :: a :: A := hz.mem_iff.1 List.mem_cons_self
  have hzb : b ≤ z := by
    rcases List.mem_cons.1 (hz.mem_iff.2 List.mem_cons_self) with h | h
    · omega
    · exact hb z h
  have hab : b ≤ a := by
    rcases List.mem_cons.1 (hz.mem_iff.2 (List.mem_cons_of_mem _ List.mem_cons_self)) with h | h
    · omega
    · exact hb a h
  by_cases hzl : z ≤ a
  · have hbz : b = z := by
      rcases List.mem_cons.1 hbm with h | h
      · exact h
      · rcases List.mem_cons.1 h with h | h
        · omega
        · have := ha b h; omega
    subst hbz
    exact ⟨a, hz.cons_inv⟩
  · have hba : b = a := by
      rcases List.mem_cons.1 hbm with h | h
      · omega
      · rcases List.mem_cons.1 h with h | h
        · exact h
        · have := ha b h; omega
    subst hba
    exact ⟨z, (hz.trans (.swap _ _ _)).cons_inv⟩
theorem stepN_ins {now : List El} {i : Nat} {a : Ev} (hd : a.2.2 = false) : stepN now i a = some (insE (a.2.1, (i : Int)) now) := by unfold stepN; rw [hd]; rfl
theorem stepN_del {now : List El} {i : Nat} {a : Ev} (hd : a.2.2 = true) : stepN now i a = match now with | [] => none | _ :: t => some t := by unfold stepN; rw [hd]; rfl
theorem nowAt_step {l : List Ev} {i : Nat} {now : List El} (h : nowAt l (i + 1) = some now) : ∃ prev, nowAt l i = some prev ∧ stepN prev i (l.getD i evD) = some now := by
  unfold nowAt at h
  cases h1 : nowAt l i with
  | none => rw [h1] at h; cases h
  | some prev => rw [h1] at h; exact ⟨prev, rfl, h⟩
/-- The same operation keeps a difference of one. -/
theorem plus_step {A B A' B' : List El} {i j : Nat} {a : Ev} (sA : SrtE A) (sB : SrtE B) (h : Plus (keysL A) (keysL B)) (hA : stepN A i a = some A') (hB : stepN B j a = some B') : Plus (keysL A') (keysL B') := by
  cases hd : a.2.2 with
  | false =>
    rw [stepN_ins hd] at hA hB
    cases hA; cases hB
    exact plus_ins h keysL_ins keysL_ins
  | true =>
    rw [stepN_del hd] at hA hB
    cases A with
    | nil => cases hA
    | cons x xs =>
      cases B with
      | nil => cases hB
      | cons y ys =>
        cases hA; cases hB
        exact plus_del (keysL_srt sA) (keysL_srt sB) h
/-- Of one more operation at its place. -/
theorem plus_at {x : Ev} {l : List Ev} {p : Nat} (hp : p ≤ l.length) : ∀ {j : Nat}, p ≤ j → ∀ {A B : List El}, nowAt l j = some A → nowAt (l.take p ++ x :: l.drop p) (j + 1) = some B → if x.2.2 = true then Plus (keysL B) (keysL A) else Plus (keysL A) (keysL B)
  | 0, hj, A, B, hA, hB => by
    obtain rfl : p = 0 := by omega
    obtain ⟨prev, h1, h2⟩ := nowAt_step hB
    rw [(putT_get hp).2.1] at h2
    cases h1; cases hA
    split
    · rename_i hd; rw [stepN_del hd] at h2; cases h2
    · rename_i hd
      have hd : x.2.2 = false := by simpa using hd
      rw [stepN_ins hd] at h2; cases h2
      exact ⟨x.2.1, keysL_ins⟩
  | j + 1, hj, A, B, hA, hB => by
    obtain ⟨prev, h1, h2⟩ := nowAt_step hB
    rcases Nat.lt_or_ge j p with hjp | hjp
    · obtain rfl : p = j + 1 := by omega
      have hc := nowAt_congr (l := l.take (j + 1) ++ x :: l.drop (j + 1)) (l' := l) (i := j + 1) (fun k hk => (putT_get hp).1 k hk)
      rw [hc, hA] at h1
      cases h1
      rw [(putT_get hp).2.1] at h2
      split
      · rename_i hd
        rw [stepN_del hd] at h2
        cases A with
        | nil => cases h2
        | cons e es => cases h2; exact ⟨e.1, .refl _⟩
      · rename_i hd
        have hd : x.2.2 = false := by simpa using hd
        rw [stepN_ins hd] at h2; cases h2
        exact ⟨x.2.1, keysL_ins⟩
    · obtain ⟨prevA, g1, g2⟩ := nowAt_step hA
      have ih := plus_at hp hjp g1 h1
      rw [(putT_get hp).2.2 j hjp] at h2
      have sA := (nowAt_inv g1).1
      have sB := (nowAt_inv h1).1
      split
      · rename_i hd
        rw [if_pos hd] at ih
        exact plus_step sB sA ih h2 g2
      · rename_i hd
        rw [if_neg hd] at ih
        exact plus_step sA sB ih g2 h2
/-- The first place at which two ascending lists differ is one of the further element. -/
theorem plus_cut {A B : List Int} {i : Nat} (sA : A.Pairwise (· ≤ ·)) (sB : B.Pairwise (· ≤ ·)) (h : Plus A B) (hi : i ≤ A.length) (heq : ∀ j, j < i → A.getD j 0 = B.getD j 0) (hne : i < A.length → A.getD i 0 ≠ B.getD i 0) : B.length = A.length + 1 ∧ B.take i ++ B.drop (i + 1) = A := by
  obtain ⟨z, hz⟩ := h
  have hlen : B.length = A.length + 1 := by have := hz.length_eq; simpa using this
  refine ⟨hlen, ?_⟩
  have hpre : B.take i = A.take i := by
    refine List.ext_getElem (by rw [List.length_take, List.length_take]; omega) fun j h1 h2 => ?_
    rw [List.length_take] at h1 h2
    rw [List.getElem_take, List.getElem_take, ← getD_get (d := 0), ← getD_get (d := 0)]
    exact (heq j (by omega)).symm
  have hB : B = A.take i ++ B.getD i 0 :: B.drop (i + 1) := by
    rw [← hpre, getD_get (by omega), ← List.drop_eq_getElem_cons (by omega), List.take_append_drop]
  have hz2 : (A.take i ++ B.getD i 0 :: B.drop (i + 1)).Perm (A.take i ++ z :: A.drop i) := by
    rw [← hB]
    refine hz.trans (List.Perm.trans ?_ List.perm_middle.symm)
    rw [List.take_append_drop]
  have hz3 := (List.perm_append_left_iff _).1 hz2
  have sD : (A.drop i).Pairwise (· ≤ ·) := sA.sublist (List.drop_sublist _ _)
  have sE : (B.drop (i + 1)).Pairwise (· ≤ ·) := sB.sublist (List.drop_sublist _ _)
  have key : (B.drop (i + 1)).Perm (A.drop i) := by
    rcases Nat.lt_or_ge i A.length with hlt | hge
    · have hne := hne hlt
      have sE' : (B.getD i 0 :: B.drop (i + 1)).Pairwise (· ≤ ·) := by
        rw [getD_get (by omega), ← List.drop_eq_getElem_cons (by omega)]
        exact sB.sublist (List.drop_sublist _ _)
      have hdA : A.drop i = A.getD i 0 :: A.drop (i + 1) := by rw [getD_get hlt, ← List.drop_eq_getElem_cons hlt]
      have hbz : B.getD i 0 = z := by
        rcases List.mem_cons.1 (hz3.mem_iff.1 List.mem_cons_self) with h | h
        · exact h
        · exfalso
          have h1 : A.getD i 0 ≤ B.getD i 0 := by
            rw [hdA] at h sD
            rcases List.mem_cons.1 h with h | h
            · omega
            · exact (List.pairwise_cons.1 sD).1 _ h
          have h2 : B.getD i 0 ≤ A.getD i 0 := by
            have : A.getD i 0 ∈ B.getD i 0 :: B.drop (i + 1) := hz3.mem_iff.2 (List.mem_cons_of_mem _ (by rw [hdA]; exact List.mem_cons_self))
            rcases List.mem_cons.1 this with h | h
            · omega
            · exact (List.pairwise_cons.1 sE').1 _ h
          omega
      rw [hbz] at hz3
      exact hz3.cons_inv
    · have h1 : A.drop i = [] := List.drop_of_length_le hge
      have h2 : B.drop (i + 1) = [] := List.drop_of_length_le (by omega)
      rw [h1, h2]
  have hEq : B.drop (i + 1) = A.drop i := List.Perm.eq_of_pairwise (fun a b _ _ h1 h2 => Int.le_antisymm h1 h2) sE sD key
  rw [hpre, hEq, List.take_append_drop]
/-- What was put is cut again. -/
theorem cut_put {x : Ev} {l : List Ev} (hs : TimesP l) (hx : hasT x.1 l = false) : hasT x.1 (putT x l) = true ∧ cutT x.1 (putT x l) = l := by
  have hs' := putT_times hs hx
  obtain ⟨p1, p2, p3⟩ := lowT_place (t := x.1) hs
  have hg := putT_get (x := x) p1
  have hl : (putT x l).length = l.length + 1 := putT_len
  have hpl := lowT_at hs' (i := lowT x.1 l) (by omega)
  rw [show (putT x l).getD (lowT x.1 l) evD = x from hg.2.1] at hpl
  refine ⟨hpl.1, ?_⟩
  unfold cutT
  rw [hpl.2]
  have hl2 : (l.take (lowT x.1 l)).length = lowT x.1 l := by rw [List.length_take]; omega
  have e1 : (putT x l).take (lowT x.1 l) = l.take (lowT x.1 l) := by
    unfold putT
    rw [List.take_append_of_le_length (by omega), List.take_of_length_le (by omega)]
  have e2 : (putT x l).drop (lowT x.1 l + 1) = l.drop (lowT x.1 l) := by
    unfold putT
    rw [List.drop_append, List.drop_of_length_le (by omega), List.nil_append, hl2, Nat.add_sub_cancel_left]
    rfl
  rw [e1, e2, List.take_append_drop]
/-- A success of adding. -/
theorem addP_ok {l : List Ev} {x : Ev} (h : (addP l x).2 = 0) : timeP x.1 ∧ hasT x.1 l = false ∧ l.length < 2000 ∧ (nowAt (putT x l) (putT x l).length).isSome = true ∧ addP l x = (putT x l, 0) := by
  unfold addP at h ⊢
  split at h
  · rename_i h1
    split at h
    · cases h
    · rename_i h2
      split at h
      · cases h
      · rename_i h3
        rw [if_pos h1, if_neg h2, if_neg h3]
        unfold chgP at h ⊢
        split at h
        · rename_i h4
          exact ⟨h1, by simpa using h2, by omega, h4, by rw [if_pos h4]⟩
        · cases h
  · cases h
theorem addP_keep {l : List Ev} {x : Ev} (h : (addP l x).2 ≠ 0) : (addP l x).1 = l := by
  unfold addP at h ⊢
  split
  · rename_i h1
    split
    · rfl
    · rename_i h2
      split
      · rfl
      · rename_i h3
        rw [if_pos h1, if_neg h2, if_neg h3] at h
        unfold chgP at h ⊢
        split
        · rename_i h4; rw [if_pos h4] at h; exact absurd rfl h
        · rfl
  · rfl
/-- A revocation of what was added. -/
theorem rev_put {l : List Ev} {x : Ev} (g : GoodQ l) (h : (addP l x).2 = 0) : revP (putT x l) x.1 = (l, 0) := by
  obtain ⟨h1, h2, _, _, _⟩ := addP_ok h
  obtain ⟨c1, c2⟩ := cut_put g.times h2
  rw [revP, if_pos h1, if_pos c1, c2, chgP, g.ok]
  rfl
end Go.Sx
