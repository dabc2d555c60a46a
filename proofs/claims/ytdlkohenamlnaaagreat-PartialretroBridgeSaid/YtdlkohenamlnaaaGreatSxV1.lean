/- Plain statements of what each block of code of this seat asks; printed by a program, checked by Lean. -/
import Derived.Test.YtdlkohenamlnaaaGreatSxV0
set_option maxRecDepth 10000
namespace Go.Proofs.YtdlkohenamlnaaaGreat
open Go Go.Sx

/-! ### l35_PartialretroBridge -/
def l35_PartialretroBridge_an : Ann := .node none (.leaf) (.node (some [0, 3]) (.leaf) (.node none (.leaf) (.node none (.leaf) (.node (some [3, 5, 6]) (.node none (.leaf) (.loop [3, 5, 55, 56] [(6, .slice), (57, .int .i64)] (.node none (.leaf) (.node none (.leaf) (.node (some [3, 5, 6, 55, 56, 57]) (.leaf) (.leaf)))))) (.node (some [3, 5, 6]) (.leaf) (.node none (.leaf) (.node none (.leaf) (.node none (.leaf) (.node none (.node none (.leaf) (.node none (.node none (.leaf) (.node (some [3, 5, 6, 9, 11, 13]) (.node none (.leaf) (.loop [3, 5, 6, 9, 11, 93, 94] [(13, .int .i64), (95, .int .i64)] (.node none (.leaf) (.node none (.leaf) (.node (some [3, 5, 6, 9, 11, 13, 93, 94, 95]) (.leaf) (.leaf)))))) (.node none (.leaf) (.node (some [3, 5, 9, 16]) (.node none (.leaf) (.loop [3, 5, 9, 11, 13, 107, 108] [(16, .int .i64), (109, .int .i64)] (.node none (.leaf) (.node none (.leaf) (.node (some [3, 5, 9, 11, 13, 16, 107, 108, 109]) (.leaf) (.leaf)))))) (.leaf))))) (.leaf))) (.node none (.leaf) (.node (some [3, 5, 6, 9, 10, 21]) (.node none (.leaf) (.loop [3, 5, 6, 9, 10, 157, 158] [(21, .slice), (159, .int .i64)] (.node none (.leaf) (.node none (.leaf) (.node (some [3, 5, 6, 9, 10, 21, 157, 158, 159]) (.leaf) (.leaf)))))) (.node none (.leaf) (.node none (.leaf) (.node (some [3, 5, 6, 9, 10, 21, 25]) (.node none (.leaf) (.loop [3, 5, 6, 9, 10, 21, 189, 190] [(25, .int .i64), (191, .int .i64)] (.node none (.leaf) (.node none (.leaf) (.node (some [3, 5, 6, 9, 10, 21, 25, 189, 190, 191]) (.leaf) (.leaf)))))) (.node none (.leaf) (.node (some [3, 5, 6, 9, 21]) (.leaf) (.node none (.leaf) (.node none (.leaf) (.node none (.leaf) (.node none (.leaf) (.node (some [5, 9, 29]) (.node none (.leaf) (.loop [5, 6, 9, 235, 236] [(29, .int .i64), (237, .int .i64)] (.node none (.leaf) (.node none (.leaf) (.node (some [5, 6, 9, 29, 235, 236, 237]) (.leaf) (.leaf)))))) (.leaf))))))))))))))))))))))
def l35_PartialretroBridge_K0  (K : Value → Hp → Prop) : Exit → Env → Hp → Prop := retK Tryz.prog Tryz.f3.results.toList K
def l35_PartialretroBridge_K1  (K : Value → Hp → Prop) : Exit → Env → Hp → Prop := thenE (fun env h => sx_7 Tryz.prog F 269 (cp [1, 1, 1, 1, 1] (bodyOf Tryz.f3)) (ap [1, 1, 1, 1, 1] l35_PartialretroBridge_an) (rs [3, 5, 6] env) h (l35_PartialretroBridge_K0  K)) (l35_PartialretroBridge_K0  K)
def l35_PartialretroBridge_K2  (K : Value → Hp → Prop) : Exit → Env → Hp → Prop := blockE 0 (l35_PartialretroBridge_K1  K)
def l35_PartialretroBridge_K3 (nx0 : (Option Addr × Nat × Nat) × Int × Unit → Hp → Prop) (K : Value → Hp → Prop) : Exit → Env → Hp → Prop := thenE (fun env h => getV [(6, .slice), (57, .int .i64)] env fun s => nx0 s h) (l35_PartialretroBridge_K2  K)
def l35_PartialretroBridge_K4  (K : Value → Hp → Prop) : Exit → Env → Hp → Prop := thenE (fun env h => sx0 Tryz.prog F 269 (sx_5 Tryz.prog F 269) (cp [1, 1, 1, 1, 1, 1, 1, 1, 1, 1] (bodyOf Tryz.f3)) (ap [1, 1, 1, 1, 1, 1, 1, 1, 1, 1] l35_PartialretroBridge_an) env h (l35_PartialretroBridge_K0  K)) (l35_PartialretroBridge_K0  K)
def l35_PartialretroBridge_K5  (K : Value → Hp → Prop) : Exit → Env → Hp → Prop := thenE (fun env h => sx_5 Tryz.prog F 269 (cp [1, 1, 1, 1, 1, 1, 1, 1, 1, 0, 1, 0, 1, 1] (bodyOf Tryz.f3)) (ap [1, 1, 1, 1, 1, 1, 1, 1, 1, 0, 1, 0, 1, 1] l35_PartialretroBridge_an) (rs [3, 5, 6, 9, 11, 13] env) h (l35_PartialretroBridge_K4  K)) (l35_PartialretroBridge_K4  K)
def l35_PartialretroBridge_K6  (K : Value → Hp → Prop) : Exit → Env → Hp → Prop := blockE 2 (l35_PartialretroBridge_K5  K)
def l35_PartialretroBridge_K7 (nx0 : Int × Int × Unit → Hp → Prop) (K : Value → Hp → Prop) : Exit → Env → Hp → Prop := thenE (fun env h => getV [(13, .int .i64), (95, .int .i64)] env fun s => nx0 s h) (l35_PartialretroBridge_K6  K)
def l35_PartialretroBridge_K8  (K : Value → Hp → Prop) : Exit → Env → Hp → Prop := thenE (fun env h => sx_5 Tryz.prog F 269 (cp [1, 1, 1, 1, 1, 1, 1, 1, 1, 1, 1, 1] (bodyOf Tryz.f3)) (ap [1, 1, 1, 1, 1, 1, 1, 1, 1, 1, 1, 1] l35_PartialretroBridge_an) (rs [3, 5, 6, 9, 10, 21] env) h (l35_PartialretroBridge_K0  K)) (l35_PartialretroBridge_K0  K)
def l35_PartialretroBridge_K9  (K : Value → Hp → Prop) : Exit → Env → Hp → Prop := blockE 6 (l35_PartialretroBridge_K8  K)
def l35_PartialretroBridge_K10 (nx0 : (Option Addr × Nat × Nat) × Int × Unit → Hp → Prop) (K : Value → Hp → Prop) : Exit → Env → Hp → Prop := thenE (fun env h => getV [(21, .slice), (159, .int .i64)] env fun s => nx0 s h) (l35_PartialretroBridge_K9  K)
def l35_PartialretroBridge_K11  (K : Value → Hp → Prop) : Exit → Env → Hp → Prop := thenE (fun env h => sx_4 Tryz.prog F 269 (cp [1, 1, 1, 1, 1, 1, 1, 1, 1, 0, 1, 0, 1, 1, 1, 1] (bodyOf Tryz.f3)) (ap [1, 1, 1, 1, 1, 1, 1, 1, 1, 0, 1, 0, 1, 1, 1, 1] l35_PartialretroBridge_an) (rs [3, 5, 9, 16] env) h (l35_PartialretroBridge_K4  K)) (l35_PartialretroBridge_K4  K)
def l35_PartialretroBridge_K12  (K : Value → Hp → Prop) : Exit → Env → Hp → Prop := blockE 4 (l35_PartialretroBridge_K11  K)
def l35_PartialretroBridge_K13 (nx0 : Int × Int × Unit → Hp → Prop) (K : Value → Hp → Prop) : Exit → Env → Hp → Prop := thenE (fun env h => getV [(16, .int .i64), (109, .int .i64)] env fun s => nx0 s h) (l35_PartialretroBridge_K12  K)
def l35_PartialretroBridge_K14  (K : Value → Hp → Prop) : Exit → Env → Hp → Prop := thenE (fun env h => sx_4 Tryz.prog F 269 (cp [1, 1, 1, 1, 1, 1, 1, 1, 1, 1, 1, 1, 1, 1, 1] (bodyOf Tryz.f3)) (ap [1, 1, 1, 1, 1, 1, 1, 1, 1, 1, 1, 1, 1, 1, 1] l35_PartialretroBridge_an) (rs [3, 5, 6, 9, 10, 21, 25] env) h (l35_PartialretroBridge_K0  K)) (l35_PartialretroBridge_K0  K)
def l35_PartialretroBridge_K15  (K : Value → Hp → Prop) : Exit → Env → Hp → Prop := blockE 8 (l35_PartialretroBridge_K14  K)
def l35_PartialretroBridge_K16 (nx0 : Int × Int × Unit → Hp → Prop) (K : Value → Hp → Prop) : Exit → Env → Hp → Prop := thenE (fun env h => getV [(25, .int .i64), (191, .int .i64)] env fun s => nx0 s h) (l35_PartialretroBridge_K15  K)
def l35_PartialretroBridge_K17  (K : Value → Hp → Prop) : Exit → Env → Hp → Prop := thenE (fun env h => sx_2 Tryz.prog F 269 (cp [1, 1, 1, 1, 1, 1, 1, 1, 1, 1, 1, 1, 1, 1, 1, 1, 1, 1, 1, 1, 1, 1] (bodyOf Tryz.f3)) (ap [1, 1, 1, 1, 1, 1, 1, 1, 1, 1, 1, 1, 1, 1, 1, 1, 1, 1, 1, 1, 1, 1] l35_PartialretroBridge_an) (rs [5, 9, 29] env) h (l35_PartialretroBridge_K0  K)) (l35_PartialretroBridge_K0  K)
def l35_PartialretroBridge_K18  (K : Value → Hp → Prop) : Exit → Env → Hp → Prop := blockE 10 (l35_PartialretroBridge_K17  K)
def l35_PartialretroBridge_K19 (nx0 : Int × Int × Unit → Hp → Prop) (K : Value → Hp → Prop) : Exit → Env → Hp → Prop := thenE (fun env h => getV [(29, .int .i64), (237, .int .i64)] env fun s => nx0 s h) (l35_PartialretroBridge_K18  K)
def l35_PartialretroBridge_b0 (l : Option Addr) (lL : Nat) (lC : Nat) (x_0 : Int) (x_1 : Int) (x_2 : Int) (x_3 : Int) (x_4 : Option Addr) (x_4L : Nat) (x_4C : Nat) (h : Hp)  (K : Value → Hp → Prop) : Prop :=
  sx_9 Tryz.prog F 269 (cp [] (bodyOf Tryz.f3)) (ap [] l35_PartialretroBridge_an) [(0, .slice l lL lC), (1, .agg #[.int .i64 x_0, .int .i64 x_1, .int .i64 x_2, .int .i64 x_3, .slice x_4 x_4L x_4C])] h (l35_PartialretroBridge_K0  K)
def l35_PartialretroBridge_b1 (l : Option Addr) (lL : Nat) (lC : Nat) (x : Option Addr) (h : Hp)  (K : Value → Hp → Prop) : Prop :=
  sx_8 Tryz.prog F 269 (cp [1, 1] (bodyOf Tryz.f3)) (ap [1, 1] l35_PartialretroBridge_an) [(0, .slice l lL lC), (3, .pointer x)] h (l35_PartialretroBridge_K0  K)
def l35_PartialretroBridge_b2 (m : Option Addr) (mL : Nat) (mC : Nat) (t57 : Int) (x : Option Addr) (q : Option Addr) (t55 : Option Addr) (t55L : Nat) (t55C : Nat) (t56 : Int) (h : Hp) (nx0 : (Option Addr × Nat × Nat) × Int × Unit → Hp → Prop) (K : Value → Hp → Prop) : Prop :=
  sx_7 Tryz.prog F 269 (cp [1, 1, 1, 1, 0, 1, 2, 2] (bodyOf Tryz.f3)) (ap [1, 1, 1, 1, 0, 1, 2] l35_PartialretroBridge_an) [(6, .slice m mL mC), (57, .int .i64 t57), (3, .pointer x), (5, .pointer q), (55, .slice t55 t55L t55C), (56, .int .i64 t56)] h (l35_PartialretroBridge_K3 nx0 K)
def l35_PartialretroBridge_b3 (x : Option Addr) (q : Option Addr) (m : Option Addr) (mL : Nat) (mC : Nat) (t55 : Option Addr) (t55L : Nat) (t55C : Nat) (t56 : Int) (t57 : Int) (h : Hp) (nx0 : (Option Addr × Nat × Nat) × Int × Unit → Hp → Prop) (K : Value → Hp → Prop) : Prop :=
  sx_6 Tryz.prog F 269 (cp [1, 1, 1, 1, 0, 1, 2, 2, 1, 1, 1] (bodyOf Tryz.f3)) (ap [1, 1, 1, 1, 0, 1, 2, 1, 1, 1] l35_PartialretroBridge_an) [(3, .pointer x), (5, .pointer q), (6, .slice m mL mC), (55, .slice t55 t55L t55C), (56, .int .i64 t56), (57, .int .i64 t57)] h (l35_PartialretroBridge_K3 nx0 K)
def l35_PartialretroBridge_b4 (x : Option Addr) (q : Option Addr) (m : Option Addr) (mL : Nat) (mC : Nat) (h : Hp)  (K : Value → Hp → Prop) : Prop :=
  sx_7 Tryz.prog F 269 (cp [1, 1, 1, 1, 1] (bodyOf Tryz.f3)) (ap [1, 1, 1, 1, 1] l35_PartialretroBridge_an) [(3, .pointer x), (5, .pointer q), (6, .slice m mL mC)] h (l35_PartialretroBridge_K0  K)
def l35_PartialretroBridge_b5 (x : Option Addr) (q : Option Addr) (m : Option Addr) (mL : Nat) (mC : Nat) (h : Hp)  (K : Value → Hp → Prop) : Prop :=
  sx_6 Tryz.prog F 269 (cp [1, 1, 1, 1, 1, 1] (bodyOf Tryz.f3)) (ap [1, 1, 1, 1, 1, 1] l35_PartialretroBridge_an) [(3, .pointer x), (5, .pointer q), (6, .slice m mL mC)] h (l35_PartialretroBridge_K0  K)
def l35_PartialretroBridge_b6 (last : Int) (t95 : Int) (x : Option Addr) (q : Option Addr) (m : Option Addr) (mL : Nat) (mC : Nat) (keys : Option Addr) (keysL : Nat) (keysC : Nat) (now : Option Addr) (nowL : Nat) (nowC : Nat) (t93 : Option Addr) (t93L : Nat) (t93C : Nat) (t94 : Int) (h : Hp) (nx0 : Int × Int × Unit → Hp → Prop) (K : Value → Hp → Prop) : Prop :=
  sx_5 Tryz.prog F 269 (cp [1, 1, 1, 1, 1, 1, 1, 1, 1, 0, 1, 0, 1, 0, 1, 2, 2] (bodyOf Tryz.f3)) (ap [1, 1, 1, 1, 1, 1, 1, 1, 1, 0, 1, 0, 1, 0, 1, 2] l35_PartialretroBridge_an) [(13, .int .i64 last), (95, .int .i64 t95), (3, .pointer x), (5, .pointer q), (6, .slice m mL mC), (9, .slice keys keysL keysC), (11, .slice now nowL nowC), (93, .slice t93 t93L t93C), (94, .int .i64 t94)] h (l35_PartialretroBridge_K7 nx0 K)
def l35_PartialretroBridge_b7 (inv : Option Addr) (invL : Nat) (invC : Nat) (t159 : Int) (x : Option Addr) (q : Option Addr) (m : Option Addr) (mL : Nat) (mC : Nat) (keys : Option Addr) (keysL : Nat) (keysC : Nat) (bridges : Option Addr) (bridgesL : Nat) (bridgesC : Nat) (t157 : Option Addr) (t157L : Nat) (t157C : Nat) (t158 : Int) (h : Hp) (nx0 : (Option Addr × Nat × Nat) × Int × Unit → Hp → Prop) (K : Value → Hp → Prop) : Prop :=
  sx_5 Tryz.prog F 269 (cp [1, 1, 1, 1, 1, 1, 1, 1, 1, 1, 1, 0, 1, 2, 2] (bodyOf Tryz.f3)) (ap [1, 1, 1, 1, 1, 1, 1, 1, 1, 1, 1, 0, 1, 2] l35_PartialretroBridge_an) [(21, .slice inv invL invC), (159, .int .i64 t159), (3, .pointer x), (5, .pointer q), (6, .slice m mL mC), (9, .slice keys keysL keysC), (10, .slice bridges bridgesL bridgesC), (157, .slice t157 t157L t157C), (158, .int .i64 t158)] h (l35_PartialretroBridge_K10 nx0 K)
def l35_PartialretroBridge_b8 (x : Option Addr) (q : Option Addr) (m : Option Addr) (mL : Nat) (mC : Nat) (keys : Option Addr) (keysL : Nat) (keysC : Nat) (now : Option Addr) (nowL : Nat) (nowC : Nat) (last : Int) (t93 : Option Addr) (t93L : Nat) (t93C : Nat) (t94 : Int) (t95 : Int) (h : Hp) (nx0 : Int × Int × Unit → Hp → Prop) (K : Value → Hp → Prop) : Prop :=
  sx_4 Tryz.prog F 269 (cp [1, 1, 1, 1, 1, 1, 1, 1, 1, 0, 1, 0, 1, 0, 1, 2, 2, 1, 1, 1] (bodyOf Tryz.f3)) (ap [1, 1, 1, 1, 1, 1, 1, 1, 1, 0, 1, 0, 1, 0, 1, 2, 1, 1, 1] l35_PartialretroBridge_an) [(3, .pointer x), (5, .pointer q), (6, .slice m mL mC), (9, .slice keys keysL keysC), (11, .slice now nowL nowC), (13, .int .i64 last), (93, .slice t93 t93L t93C), (94, .int .i64 t94), (95, .int .i64 t95)] h (l35_PartialretroBridge_K7 nx0 K)
def l35_PartialretroBridge_b9 (x : Option Addr) (q : Option Addr) (m : Option Addr) (mL : Nat) (mC : Nat) (keys : Option Addr) (keysL : Nat) (keysC : Nat) (now : Option Addr) (nowL : Nat) (nowC : Nat) (last : Int) (h : Hp)  (K : Value → Hp → Prop) : Prop :=
  sx_5 Tryz.prog F 269 (cp [1, 1, 1, 1, 1, 1, 1, 1, 1, 0, 1, 0, 1, 1] (bodyOf Tryz.f3)) (ap [1, 1, 1, 1, 1, 1, 1, 1, 1, 0, 1, 0, 1, 1] l35_PartialretroBridge_an) [(3, .pointer x), (5, .pointer q), (6, .slice m mL mC), (9, .slice keys keysL keysC), (11, .slice now nowL nowC), (13, .int .i64 last)] h (l35_PartialretroBridge_K4  K)
def l35_PartialretroBridge_b10 (x : Option Addr) (q : Option Addr) (m : Option Addr) (mL : Nat) (mC : Nat) (keys : Option Addr) (keysL : Nat) (keysC : Nat) (bridges : Option Addr) (bridgesL : Nat) (bridgesC : Nat) (inv : Option Addr) (invL : Nat) (invC : Nat) (h : Hp)  (K : Value → Hp → Prop) : Prop :=
  sx_5 Tryz.prog F 269 (cp [1, 1, 1, 1, 1, 1, 1, 1, 1, 1, 1, 1] (bodyOf Tryz.f3)) (ap [1, 1, 1, 1, 1, 1, 1, 1, 1, 1, 1, 1] l35_PartialretroBridge_an) [(3, .pointer x), (5, .pointer q), (6, .slice m mL mC), (9, .slice keys keysL keysC), (10, .slice bridges bridgesL bridgesC), (21, .slice inv invL invC)] h (l35_PartialretroBridge_K0  K)
def l35_PartialretroBridge_b11 (x : Option Addr) (q : Option Addr) (m : Option Addr) (mL : Nat) (mC : Nat) (keys : Option Addr) (keysL : Nat) (keysC : Nat) (bridges : Option Addr) (bridgesL : Nat) (bridgesC : Nat) (inv : Option Addr) (invL : Nat) (invC : Nat) (t157 : Option Addr) (t157L : Nat) (t157C : Nat) (t158 : Int) (t159 : Int) (h : Hp) (nx0 : (Option Addr × Nat × Nat) × Int × Unit → Hp → Prop) (K : Value → Hp → Prop) : Prop :=
  sx_4 Tryz.prog F 269 (cp [1, 1, 1, 1, 1, 1, 1, 1, 1, 1, 1, 0, 1, 2, 2, 1, 1, 1] (bodyOf Tryz.f3)) (ap [1, 1, 1, 1, 1, 1, 1, 1, 1, 1, 1, 0, 1, 2, 1, 1, 1] l35_PartialretroBridge_an) [(3, .pointer x), (5, .pointer q), (6, .slice m mL mC), (9, .slice keys keysL keysC), (10, .slice bridges bridgesL bridgesC), (21, .slice inv invL invC), (157, .slice t157 t157L t157C), (158, .int .i64 t158), (159, .int .i64 t159)] h (l35_PartialretroBridge_K10 nx0 K)
def l35_PartialretroBridge_b12 (best : Int) (t109 : Int) (x : Option Addr) (q : Option Addr) (keys : Option Addr) (keysL : Nat) (keysC : Nat) (now : Option Addr) (nowL : Nat) (nowC : Nat) (last : Int) (t107 : Option Addr) (t107L : Nat) (t107C : Nat) (t108 : Int) (h : Hp) (nx0 : Int × Int × Unit → Hp → Prop) (K : Value → Hp → Prop) : Prop :=
  sx_4 Tryz.prog F 269 (cp [1, 1, 1, 1, 1, 1, 1, 1, 1, 0, 1, 0, 1, 1, 1, 0, 1, 2, 2] (bodyOf Tryz.f3)) (ap [1, 1, 1, 1, 1, 1, 1, 1, 1, 0, 1, 0, 1, 1, 1, 0, 1, 2] l35_PartialretroBridge_an) [(16, .int .i64 best), (109, .int .i64 t109), (3, .pointer x), (5, .pointer q), (9, .slice keys keysL keysC), (11, .slice now nowL nowC), (13, .int .i64 last), (107, .slice t107 t107L t107C), (108, .int .i64 t108)] h (l35_PartialretroBridge_K13 nx0 K)
def l35_PartialretroBridge_b13 (before : Int) (t191 : Int) (x : Option Addr) (q : Option Addr) (m : Option Addr) (mL : Nat) (mC : Nat) (keys : Option Addr) (keysL : Nat) (keysC : Nat) (bridges : Option Addr) (bridgesL : Nat) (bridgesC : Nat) (inv : Option Addr) (invL : Nat) (invC : Nat) (t189 : Option Addr) (t189L : Nat) (t189C : Nat) (t190 : Int) (h : Hp) (nx0 : Int × Int × Unit → Hp → Prop) (K : Value → Hp → Prop) : Prop :=
  sx_4 Tryz.prog F 269 (cp [1, 1, 1, 1, 1, 1, 1, 1, 1, 1, 1, 1, 1, 1, 0, 1, 2, 2] (bodyOf Tryz.f3)) (ap [1, 1, 1, 1, 1, 1, 1, 1, 1, 1, 1, 1, 1, 1, 0, 1, 2] l35_PartialretroBridge_an) [(25, .int .i64 before), (191, .int .i64 t191), (3, .pointer x), (5, .pointer q), (6, .slice m mL mC), (9, .slice keys keysL keysC), (10, .slice bridges bridgesL bridgesC), (21, .slice inv invL invC), (189, .slice t189 t189L t189C), (190, .int .i64 t190)] h (l35_PartialretroBridge_K16 nx0 K)
def l35_PartialretroBridge_b14 (x : Option Addr) (q : Option Addr) (keys : Option Addr) (keysL : Nat) (keysC : Nat) (now : Option Addr) (nowL : Nat) (nowC : Nat) (last : Int) (best : Int) (t107 : Option Addr) (t107L : Nat) (t107C : Nat) (t108 : Int) (t109 : Int) (h : Hp) (nx0 : Int × Int × Unit → Hp → Prop) (K : Value → Hp → Prop) : Prop :=
  sx_3 Tryz.prog F 269 (cp [1, 1, 1, 1, 1, 1, 1, 1, 1, 0, 1, 0, 1, 1, 1, 0, 1, 2, 2, 1, 1, 1] (bodyOf Tryz.f3)) (ap [1, 1, 1, 1, 1, 1, 1, 1, 1, 0, 1, 0, 1, 1, 1, 0, 1, 2, 1, 1, 1] l35_PartialretroBridge_an) [(3, .pointer x), (5, .pointer q), (9, .slice keys keysL keysC), (11, .slice now nowL nowC), (13, .int .i64 last), (16, .int .i64 best), (107, .slice t107 t107L t107C), (108, .int .i64 t108), (109, .int .i64 t109)] h (l35_PartialretroBridge_K13 nx0 K)
def l35_PartialretroBridge_b15 (x : Option Addr) (q : Option Addr) (keys : Option Addr) (keysL : Nat) (keysC : Nat) (best : Int) (h : Hp)  (K : Value → Hp → Prop) : Prop :=
  sx_4 Tryz.prog F 269 (cp [1, 1, 1, 1, 1, 1, 1, 1, 1, 0, 1, 0, 1, 1, 1, 1] (bodyOf Tryz.f3)) (ap [1, 1, 1, 1, 1, 1, 1, 1, 1, 0, 1, 0, 1, 1, 1, 1] l35_PartialretroBridge_an) [(3, .pointer x), (5, .pointer q), (9, .slice keys keysL keysC), (16, .int .i64 best)] h (l35_PartialretroBridge_K4  K)
def l35_PartialretroBridge_b16 (x : Option Addr) (q : Option Addr) (m : Option Addr) (mL : Nat) (mC : Nat) (keys : Option Addr) (keysL : Nat) (keysC : Nat) (bridges : Option Addr) (bridgesL : Nat) (bridgesC : Nat) (inv : Option Addr) (invL : Nat) (invC : Nat) (before : Int) (t189 : Option Addr) (t189L : Nat) (t189C : Nat) (t190 : Int) (t191 : Int) (h : Hp) (nx0 : Int × Int × Unit → Hp → Prop) (K : Value → Hp → Prop) : Prop :=
  sx_3 Tryz.prog F 269 (cp [1, 1, 1, 1, 1, 1, 1, 1, 1, 1, 1, 1, 1, 1, 0, 1, 2, 2, 1, 1, 1] (bodyOf Tryz.f3)) (ap [1, 1, 1, 1, 1, 1, 1, 1, 1, 1, 1, 1, 1, 1, 0, 1, 2, 1, 1, 1] l35_PartialretroBridge_an) [(3, .pointer x), (5, .pointer q), (6, .slice m mL mC), (9, .slice keys keysL keysC), (10, .slice bridges bridgesL bridgesC), (21, .slice inv invL invC), (25, .int .i64 before), (189, .slice t189 t189L t189C), (190, .int .i64 t190), (191, .int .i64 t191)] h (l35_PartialretroBridge_K16 nx0 K)
def l35_PartialretroBridge_b17 (x : Option Addr) (q : Option Addr) (m : Option Addr) (mL : Nat) (mC : Nat) (keys : Option Addr) (keysL : Nat) (keysC : Nat) (bridges : Option Addr) (bridgesL : Nat) (bridgesC : Nat) (inv : Option Addr) (invL : Nat) (invC : Nat) (before : Int) (h : Hp)  (K : Value → Hp → Prop) : Prop :=
  sx_4 Tryz.prog F 269 (cp [1, 1, 1, 1, 1, 1, 1, 1, 1, 1, 1, 1, 1, 1, 1] (bodyOf Tryz.f3)) (ap [1, 1, 1, 1, 1, 1, 1, 1, 1, 1, 1, 1, 1, 1, 1] l35_PartialretroBridge_an) [(3, .pointer x), (5, .pointer q), (6, .slice m mL mC), (9, .slice keys keysL keysC), (10, .slice bridges bridgesL bridgesC), (21, .slice inv invL invC), (25, .int .i64 before)] h (l35_PartialretroBridge_K0  K)
def l35_PartialretroBridge_b18 (x : Option Addr) (q : Option Addr) (m : Option Addr) (mL : Nat) (mC : Nat) (keys : Option Addr) (keysL : Nat) (keysC : Nat) (inv : Option Addr) (invL : Nat) (invC : Nat) (h : Hp)  (K : Value → Hp → Prop) : Prop :=
  sx_3 Tryz.prog F 269 (cp [1, 1, 1, 1, 1, 1, 1, 1, 1, 1, 1, 1, 1, 1, 1, 1, 1] (bodyOf Tryz.f3)) (ap [1, 1, 1, 1, 1, 1, 1, 1, 1, 1, 1, 1, 1, 1, 1, 1, 1] l35_PartialretroBridge_an) [(3, .pointer x), (5, .pointer q), (6, .slice m mL mC), (9, .slice keys keysL keysC), (21, .slice inv invL invC)] h (l35_PartialretroBridge_K0  K)
def l35_PartialretroBridge_b19 (least : Int) (t237 : Int) (q : Option Addr) (m : Option Addr) (mL : Nat) (mC : Nat) (keys : Option Addr) (keysL : Nat) (keysC : Nat) (t235 : Option Addr) (t235L : Nat) (t235C : Nat) (t236 : Int) (h : Hp) (nx0 : Int × Int × Unit → Hp → Prop) (K : Value → Hp → Prop) : Prop :=
  sx_2 Tryz.prog F 269 (cp [1, 1, 1, 1, 1, 1, 1, 1, 1, 1, 1, 1, 1, 1, 1, 1, 1, 1, 1, 1, 1, 0, 1, 2, 2] (bodyOf Tryz.f3)) (ap [1, 1, 1, 1, 1, 1, 1, 1, 1, 1, 1, 1, 1, 1, 1, 1, 1, 1, 1, 1, 1, 0, 1, 2] l35_PartialretroBridge_an) [(29, .int .i64 least), (237, .int .i64 t237), (5, .pointer q), (6, .slice m mL mC), (9, .slice keys keysL keysC), (235, .slice t235 t235L t235C), (236, .int .i64 t236)] h (l35_PartialretroBridge_K19 nx0 K)
def l35_PartialretroBridge_b20 (q : Option Addr) (m : Option Addr) (mL : Nat) (mC : Nat) (keys : Option Addr) (keysL : Nat) (keysC : Nat) (least : Int) (t235 : Option Addr) (t235L : Nat) (t235C : Nat) (t236 : Int) (t237 : Int) (h : Hp) (nx0 : Int × Int × Unit → Hp → Prop) (K : Value → Hp → Prop) : Prop :=
  sx_1 Tryz.prog F 269 (cp [1, 1, 1, 1, 1, 1, 1, 1, 1, 1, 1, 1, 1, 1, 1, 1, 1, 1, 1, 1, 1, 0, 1, 2, 2, 1, 1, 1] (bodyOf Tryz.f3)) (ap [1, 1, 1, 1, 1, 1, 1, 1, 1, 1, 1, 1, 1, 1, 1, 1, 1, 1, 1, 1, 1, 0, 1, 2, 1, 1, 1] l35_PartialretroBridge_an) [(5, .pointer q), (6, .slice m mL mC), (9, .slice keys keysL keysC), (29, .int .i64 least), (235, .slice t235 t235L t235C), (236, .int .i64 t236), (237, .int .i64 t237)] h (l35_PartialretroBridge_K19 nx0 K)
def l35_PartialretroBridge_b21 (q : Option Addr) (keys : Option Addr) (keysL : Nat) (keysC : Nat) (least : Int) (h : Hp)  (K : Value → Hp → Prop) : Prop :=
  sx_2 Tryz.prog F 269 (cp [1, 1, 1, 1, 1, 1, 1, 1, 1, 1, 1, 1, 1, 1, 1, 1, 1, 1, 1, 1, 1, 1] (bodyOf Tryz.f3)) (ap [1, 1, 1, 1, 1, 1, 1, 1, 1, 1, 1, 1, 1, 1, 1, 1, 1, 1, 1, 1, 1, 1] l35_PartialretroBridge_an) [(5, .pointer q), (9, .slice keys keysL keysC), (29, .int .i64 least)] h (l35_PartialretroBridge_K0  K)
theorem l35_PartialretroBridge_b0_eq (l : Option Addr) (lL : Nat) (lC : Nat) (x_0 : Int) (x_1 : Int) (x_2 : Int) (x_3 : Int) (x_4 : Option Addr) (x_4L : Nat) (x_4C : Nat) (h : Hp)  (K : Value → Hp → Prop) : l35_PartialretroBridge_b0 l lL lC x_0 x_1 x_2 x_3 x_4 x_4L x_4C h  K = (
  New h (.cells #[.int .i64 x_0, .int .i64 x_1, .int .i64 x_2, .int .i64 x_3, .slice x_4 x_4L x_4C] 27) fun b1 h1 =>
  HCalls Tryz.prog 9 #[] h1 fun v1 h2 => ∃ r1 : Bool, v1 = .bool r1 ∧
  cond (!r1)
  (HCalls Tryz.prog 9 #[] h2 fun v2 h3 => ∃ r2 : Bool, v2 = .bool r2 ∧
  K (.bool r2) h3)
  (HCalls Tryz.prog 10 #[.slice l lL lC] h2 fun v3 h4 => ∃ r3 : Bool, v3 = .bool r3 ∧
  cond (!r3)
  (HCalls Tryz.prog 9 #[] h4 fun v4 h5 => ∃ r4 : Bool, v4 = .bool r4 ∧
  K (.bool r4) h5)
  (∃ n1 : Int, cell h4 ((⟨b1, 0, none⟩ : Addr).add 1) = some (.int .i64 n1) ∧
  HCalls Tryz.prog 11 #[.int .i64 n1] h4 fun v5 h6 => ∃ r5 : Bool, v5 = .bool r5 ∧
  cond (!r5)
  (HCalls Tryz.prog 9 #[] h6 fun v6 h7 => ∃ r6 : Bool, v6 = .bool r6 ∧
  K (.bool r6) h7)
  (∃ n2 : Int, cell h6 ((⟨b1, 0, none⟩ : Addr).add 2) = some (.int .i64 n2) ∧
  HCalls Tryz.prog 12 #[.int .i64 n2] h6 fun v7 h8 => ∃ r7 : Bool, v7 = .bool r7 ∧
  cond (!r7)
  (HCalls Tryz.prog 9 #[] h8 fun v8 h9 => ∃ r8 : Bool, v8 = .bool r8 ∧
  K (.bool r8) h9)
  (l35_PartialretroBridge_b1 l lL lC (some ⟨b1, 0, none⟩) h8  K))))) := by kernel_rfl
theorem l35_PartialretroBridge_b1_eq (l : Option Addr) (lL : Nat) (lC : Nat) (x : Option Addr) (h : Hp)  (K : Value → Hp → Prop) : l35_PartialretroBridge_b1 l lL lC x h  K = (
  HCalls Tryz.prog 13 #[] h fun v9 h10 => ∃ r9 : Option Addr, v9 = .pointer r9 ∧
  LoopVC (((none, 0, 0), 0, ()) : (Option Addr × Nat × Nat) × Int × Unit) h10 (fun (nx0 : (Option Addr × Nat × Nat) × Int × Unit → Hp → Prop) (s1 : (Option Addr × Nat × Nat) × Int × Unit) h11 => l35_PartialretroBridge_b2 s1.1.1 s1.1.2.1 s1.1.2.2 s1.2.1 x r9 l lL lC (lL : Int) h11 nx0 K)) := by kernel_rfl
theorem l35_PartialretroBridge_b2_eq (m : Option Addr) (mL : Nat) (mC : Nat) (t57 : Int) (x : Option Addr) (q : Option Addr) (t55 : Option Addr) (t55L : Nat) (t55C : Nat) (t56 : Int) (h : Hp) (nx0 : (Option Addr × Nat × Nat) × Int × Unit → Hp → Prop) (K : Value → Hp → Prop) : l35_PartialretroBridge_b2 m mL mC t57 x q t55 t55L t55C t56 h nx0 K = (
  cond (decide (t57 < t56))
  ((0 ≤ t57 ∧ t57 < (t55L : Int)) ∧
  NN t55 fun a1 =>
  ∃ n3 : Int, ∃ n4 : Int, ∃ n5 : Int, ∃ n6 : Int, ∃ (a2 : Option Addr) (L1 C1 : Nat), cell h (a1.add (Int.toNat t57 * 5)) = some (.int .i64 n3) ∧
  cell h ((a1.add (Int.toNat t57 * 5)).add 1) = some (.int .i64 n4) ∧
  cell h ((a1.add (Int.toNat t57 * 5)).add 2) = some (.int .i64 n5) ∧
  cell h ((a1.add (Int.toNat t57 * 5)).add 3) = some (.int .i64 n6) ∧
  cell h ((a1.add (Int.toNat t57 * 5)).add 4) = some (.slice a2 L1 C1) ∧
  New h (.cells #[.int .i64 0, .int .i64 0, .int .i64 0, .int .i64 0, .slice none 0 0] 27) fun b2 h12 =>
  Wr h12 ⟨b2, 0, none⟩ (.int .i64 n3) fun h13 =>
  Wr h13 ((⟨b2, 0, none⟩ : Addr).add 1) (.int .i64 n4) fun h14 =>
  Wr h14 ((⟨b2, 0, none⟩ : Addr).add 2) (.int .i64 n5) fun h15 =>
  Wr h15 ((⟨b2, 0, none⟩ : Addr).add 3) (.int .i64 n6) fun h16 =>
  Wr h16 ((⟨b2, 0, none⟩ : Addr).add 4) (.slice a2 L1 C1) fun h17 =>
  ∃ n7 : Int, ∃ n8 : Int, ∃ n9 : Int, ∃ n10 : Int, ∃ (a3 : Option Addr) (L2 C2 : Nat), cell h17 ⟨b2, 0, none⟩ = some (.int .i64 n7) ∧
  cell h17 ((⟨b2, 0, none⟩ : Addr).add 1) = some (.int .i64 n8) ∧
  cell h17 ((⟨b2, 0, none⟩ : Addr).add 2) = some (.int .i64 n9) ∧
  cell h17 ((⟨b2, 0, none⟩ : Addr).add 3) = some (.int .i64 n10) ∧
  cell h17 ((⟨b2, 0, none⟩ : Addr).add 4) = some (.slice a3 L2 C2) ∧
  HCalls Tryz.prog 14 #[.pointer q, .slice m mL mC, .agg #[.int .i64 n7, .int .i64 n8, .int .i64 n9, .int .i64 n10, .slice a3 L2 C2]] h17 fun v10 h18 => ∃ (r10 : Option Addr) (rL1 rC1 : Nat), ∃ r11 : Bool, v10 = .tuple #[.slice r10 rL1 rC1, .bool r11] ∧
  l35_PartialretroBridge_b3 x q r10 rL1 rC1 t55 t55L t55C t56 t57 h18 nx0 K)
  (l35_PartialretroBridge_b4 x q m mL mC h  K)) := by kernel_rfl
theorem l35_PartialretroBridge_b3_eq (x : Option Addr) (q : Option Addr) (m : Option Addr) (mL : Nat) (mC : Nat) (t55 : Option Addr) (t55L : Nat) (t55C : Nat) (t56 : Int) (t57 : Int) (h : Hp) (nx0 : (Option Addr × Nat × Nat) × Int × Unit → Hp → Prop) (K : Value → Hp → Prop) : l35_PartialretroBridge_b3 x q m mL mC t55 t55L t55C t56 t57 h nx0 K = (
  InR (t57 + 1) ∧
  nx0 ((m, mL, mC), t57 + 1, ()) h) := by kernel_rfl
theorem l35_PartialretroBridge_b4_eq (x : Option Addr) (q : Option Addr) (m : Option Addr) (mL : Nat) (mC : Nat) (h : Hp)  (K : Value → Hp → Prop) : l35_PartialretroBridge_b4 x q m mL mC h  K = (
  NN x fun a4 =>
  ∃ n11 : Int, cell h (a4.add 1) = some (.int .i64 n11) ∧
  HCalls Tryz.prog 15 #[.slice m mL mC, .int .i64 n11] h fun v11 h19 => ∃ r12 : Int, v11 = .int .i64 r12 ∧
  cond (decide ((0 : Int) ≤ r12))
  (K (.bool true) h19)
  (cond (decide ((mL : Int) = 2000))
  (K (.bool true) h19)
  (l35_PartialretroBridge_b5 x q m mL mC h19  K))) := by kernel_rfl
theorem l35_PartialretroBridge_b5_eq (x : Option Addr) (q : Option Addr) (m : Option Addr) (mL : Nat) (mC : Nat) (h : Hp)  (K : Value → Hp → Prop) : l35_PartialretroBridge_b5 x q m mL mC h  K = (
  HCalls Tryz.prog 16 #[.pointer q] h fun v12 h20 => ∃ (r13 : Option Addr) (rL2 rC2 : Nat), v12 = .slice r13 rL2 rC2 ∧
  HCalls Tryz.prog 17 #[.pointer q] h20 fun v13 h21 => ∃ (r14 : Option Addr) (rL3 rC3 : Nat), v13 = .slice r14 rL3 rC3 ∧
  HCalls Tryz.prog 18 #[.slice m mL mC, .int .i64 (mL : Int)] h21 fun v14 h22 => ∃ (r15 : Option Addr) (rL4 rC4 : Nat), ∃ r16 : Bool, v14 = .tuple #[.slice r15 rL4 rC4, .bool r16] ∧
  NN x fun a5 =>
  ∃ n12 : Int, cell h22 a5 = some (.int .i64 n12) ∧
  cond (decide (n12 = 0))
  (LoopVC (((-1), 0, ()) : Int × Int × Unit) h22 (fun (nx0 : Int × Int × Unit → Hp → Prop) (s2 : Int × Int × Unit) h23 => l35_PartialretroBridge_b6 s2.1 s2.2.1 x q m mL mC r13 rL2 rC2 r15 rL4 rC4 r14 rL3 rC3 (rL3 : Int) h23 nx0 K))
  (LoopVC (((r15, rL4, rC4), 0, ()) : (Option Addr × Nat × Nat) × Int × Unit) h22 (fun (nx0 : (Option Addr × Nat × Nat) × Int × Unit → Hp → Prop) (s3 : (Option Addr × Nat × Nat) × Int × Unit) h24 => l35_PartialretroBridge_b7 s3.1.1 s3.1.2.1 s3.1.2.2 s3.2.1 x q m mL mC r13 rL2 rC2 r14 rL3 rC3 m mL mC (mL : Int) h24 nx0 K))) := by kernel_rfl
theorem l35_PartialretroBridge_b6_eq (last : Int) (t95 : Int) (x : Option Addr) (q : Option Addr) (m : Option Addr) (mL : Nat) (mC : Nat) (keys : Option Addr) (keysL : Nat) (keysC : Nat) (now : Option Addr) (nowL : Nat) (nowC : Nat) (t93 : Option Addr) (t93L : Nat) (t93C : Nat) (t94 : Int) (h : Hp) (nx0 : Int × Int × Unit → Hp → Prop) (K : Value → Hp → Prop) : l35_PartialretroBridge_b6 last t95 x q m mL mC keys keysL keysC now nowL nowC t93 t93L t93C t94 h nx0 K = (
  cond (decide (t95 < t94))
  ((0 ≤ t95 ∧ t95 < (t93L : Int)) ∧
  NN t93 fun a6 =>
  ∃ n13 : Int, cell h (a6.add (Int.toNat t95 * 1)) = some (.int .i64 n13) ∧
  NN x fun a7 =>
  ∃ n14 : Int, cell h (a7.add 1) = some (.int .i64 n14) ∧
  cond (decide (n13 < n14))
  (l35_PartialretroBridge_b8 x q m mL mC keys keysL keysC now nowL nowC n13 t93 t93L t93C t94 t95 h nx0 K)
  (l35_PartialretroBridge_b8 x q m mL mC keys keysL keysC now nowL nowC last t93 t93L t93C t94 t95 h nx0 K))
  (l35_PartialretroBridge_b9 x q m mL mC keys keysL keysC now nowL nowC last h  K)) := by kernel_rfl
theorem l35_PartialretroBridge_b7_eq (inv : Option Addr) (invL : Nat) (invC : Nat) (t159 : Int) (x : Option Addr) (q : Option Addr) (m : Option Addr) (mL : Nat) (mC : Nat) (keys : Option Addr) (keysL : Nat) (keysC : Nat) (bridges : Option Addr) (bridgesL : Nat) (bridgesC : Nat) (t157 : Option Addr) (t157L : Nat) (t157C : Nat) (t158 : Int) (h : Hp) (nx0 : (Option Addr × Nat × Nat) × Int × Unit → Hp → Prop) (K : Value → Hp → Prop) : l35_PartialretroBridge_b7 inv invL invC t159 x q m mL mC keys keysL keysC bridges bridgesL bridgesC t157 t157L t157C t158 h nx0 K = (
  cond (decide (t159 < t158))
  ((0 ≤ t159 ∧ t159 < (t157L : Int)) ∧
  NN t157 fun a8 =>
  ∃ n15 : Int, ∃ n16 : Int, ∃ b3 : Bool, cell h (a8.add (Int.toNat t159 * 3)) = some (.int .i64 n15) ∧
  cell h ((a8.add (Int.toNat t159 * 3)).add 1) = some (.int .i64 n16) ∧
  cell h ((a8.add (Int.toNat t159 * 3)).add 2) = some (.bool b3) ∧
  New h (.cells #[.int .i64 0, .int .i64 0, .bool false] 41) fun b4 h25 =>
  Wr h25 ⟨b4, 0, none⟩ (.int .i64 n15) fun h26 =>
  Wr h26 ((⟨b4, 0, none⟩ : Addr).add 1) (.int .i64 n16) fun h27 =>
  Wr h27 ((⟨b4, 0, none⟩ : Addr).add 2) (.bool b3) fun h28 =>
  ∃ n17 : Int, cell h28 ⟨b4, 0, none⟩ = some (.int .i64 n17) ∧
  NN x fun a9 =>
  ∃ n18 : Int, cell h28 (a9.add 1) = some (.int .i64 n18) ∧
  cond (decide (n18 < n17))
  (∃ n19 : Int, cell h28 ⟨b4, 0, none⟩ = some (.int .i64 n19) ∧
  HCalls Tryz.prog 19 #[.slice bridges bridgesL bridgesC, .int .i64 n19] h28 fun v15 h29 => ∃ r17 : Bool, v15 = .bool r17 ∧
  cond r17
  (InR (t159 + 1) ∧
  HCalls Tryz.prog 18 #[.slice m mL mC, .int .i64 (t159 + 1)] h29 fun v16 h30 => ∃ (r18 : Option Addr) (rL5 rC5 : Nat), ∃ r19 : Bool, v16 = .tuple #[.slice r18 rL5 rC5, .bool r19] ∧
  l35_PartialretroBridge_b10 x q m mL mC keys keysL keysC bridges bridgesL bridgesC r18 rL5 rC5 h30  K)
  (l35_PartialretroBridge_b11 x q m mL mC keys keysL keysC bridges bridgesL bridgesC inv invL invC t157 t157L t157C t158 t159 h29 nx0 K))
  (l35_PartialretroBridge_b11 x q m mL mC keys keysL keysC bridges bridgesL bridgesC inv invL invC t157 t157L t157C t158 t159 h28 nx0 K))
  (l35_PartialretroBridge_b10 x q m mL mC keys keysL keysC bridges bridgesL bridgesC inv invL invC h  K)) := by kernel_rfl
theorem l35_PartialretroBridge_b8_eq (x : Option Addr) (q : Option Addr) (m : Option Addr) (mL : Nat) (mC : Nat) (keys : Option Addr) (keysL : Nat) (keysC : Nat) (now : Option Addr) (nowL : Nat) (nowC : Nat) (last : Int) (t93 : Option Addr) (t93L : Nat) (t93C : Nat) (t94 : Int) (t95 : Int) (h : Hp) (nx0 : Int × Int × Unit → Hp → Prop) (K : Value → Hp → Prop) : l35_PartialretroBridge_b8 x q m mL mC keys keysL keysC now nowL nowC last t93 t93L t93C t94 t95 h nx0 K = (
  InR (t95 + 1) ∧
  nx0 (last, t95 + 1, ()) h) := by kernel_rfl
theorem l35_PartialretroBridge_b9_eq (x : Option Addr) (q : Option Addr) (m : Option Addr) (mL : Nat) (mC : Nat) (keys : Option Addr) (keysL : Nat) (keysC : Nat) (now : Option Addr) (nowL : Nat) (nowC : Nat) (last : Int) (h : Hp)  (K : Value → Hp → Prop) : l35_PartialretroBridge_b9 x q m mL mC keys keysL keysC now nowL nowC last h  K = (
  NN x fun a10 =>
  ∃ n20 : Int, cell h (a10.add 2) = some (.int .i64 n20) ∧
  LoopVC ((n20, 0, ()) : Int × Int × Unit) h (fun (nx0 : Int × Int × Unit → Hp → Prop) (s4 : Int × Int × Unit) h31 => l35_PartialretroBridge_b12 s4.1 s4.2.1 x q keys keysL keysC now nowL nowC last m mL mC (mL : Int) h31 nx0 K)) := by kernel_rfl
theorem l35_PartialretroBridge_b10_eq (x : Option Addr) (q : Option Addr) (m : Option Addr) (mL : Nat) (mC : Nat) (keys : Option Addr) (keysL : Nat) (keysC : Nat) (bridges : Option Addr) (bridgesL : Nat) (bridgesC : Nat) (inv : Option Addr) (invL : Nat) (invC : Nat) (h : Hp)  (K : Value → Hp → Prop) : l35_PartialretroBridge_b10 x q m mL mC keys keysL keysC bridges bridgesL bridgesC inv invL invC h  K = (
  NN x fun a11 =>
  ∃ n21 : Int, cell h (a11.add 1) = some (.int .i64 n21) ∧
  HCalls Tryz.prog 15 #[.slice m mL mC, .int .i64 n21] h fun v17 h32 => ∃ r20 : Int, v17 = .int .i64 r20 ∧
  cond (decide ((0 : Int) ≤ r20))
  (K (.bool true) h32)
  (LoopVC (((-1), 0, ()) : Int × Int × Unit) h32 (fun (nx0 : Int × Int × Unit → Hp → Prop) (s5 : Int × Int × Unit) h33 => l35_PartialretroBridge_b13 s5.1 s5.2.1 x q m mL mC keys keysL keysC bridges bridgesL bridgesC inv invL invC m mL mC (mL : Int) h33 nx0 K))) := by kernel_rfl
theorem l35_PartialretroBridge_b11_eq (x : Option Addr) (q : Option Addr) (m : Option Addr) (mL : Nat) (mC : Nat) (keys : Option Addr) (keysL : Nat) (keysC : Nat) (bridges : Option Addr) (bridgesL : Nat) (bridgesC : Nat) (inv : Option Addr) (invL : Nat) (invC : Nat) (t157 : Option Addr) (t157L : Nat) (t157C : Nat) (t158 : Int) (t159 : Int) (h : Hp) (nx0 : (Option Addr × Nat × Nat) × Int × Unit → Hp → Prop) (K : Value → Hp → Prop) : l35_PartialretroBridge_b11 x q m mL mC keys keysL keysC bridges bridgesL bridgesC inv invL invC t157 t157L t157C t158 t159 h nx0 K = (
  InR (t159 + 1) ∧
  nx0 ((inv, invL, invC), t159 + 1, ()) h) := by kernel_rfl
theorem l35_PartialretroBridge_b12_eq (best : Int) (t109 : Int) (x : Option Addr) (q : Option Addr) (keys : Option Addr) (keysL : Nat) (keysC : Nat) (now : Option Addr) (nowL : Nat) (nowC : Nat) (last : Int) (t107 : Option Addr) (t107L : Nat) (t107C : Nat) (t108 : Int) (h : Hp) (nx0 : Int × Int × Unit → Hp → Prop) (K : Value → Hp → Prop) : l35_PartialretroBridge_b12 best t109 x q keys keysL keysC now nowL nowC last t107 t107L t107C t108 h nx0 K = (
  cond (decide (t109 < t108))
  ((0 ≤ t109 ∧ t109 < (t107L : Int)) ∧
  NN t107 fun a12 =>
  ∃ n22 : Int, ∃ n23 : Int, ∃ b5 : Bool, cell h (a12.add (Int.toNat t109 * 3)) = some (.int .i64 n22) ∧
  cell h ((a12.add (Int.toNat t109 * 3)).add 1) = some (.int .i64 n23) ∧
  cell h ((a12.add (Int.toNat t109 * 3)).add 2) = some (.bool b5) ∧
  New h (.cells #[.int .i64 0, .int .i64 0, .bool false] 41) fun b6 h34 =>
  Wr h34 ⟨b6, 0, none⟩ (.int .i64 n22) fun h35 =>
  Wr h35 ((⟨b6, 0, none⟩ : Addr).add 1) (.int .i64 n23) fun h36 =>
  Wr h36 ((⟨b6, 0, none⟩ : Addr).add 2) (.bool b5) fun h37 =>
  ∃ b7 : Bool, cell h37 ((⟨b6, 0, none⟩ : Addr).add 2) = some (.bool b7) ∧
  cond (!b7)
  (∃ n24 : Int, cell h37 ⟨b6, 0, none⟩ = some (.int .i64 n24) ∧
  cond (decide (last < n24))
  (∃ n25 : Int, cell h37 ⟨b6, 0, none⟩ = some (.int .i64 n25) ∧
  HCalls Tryz.prog 19 #[.slice now nowL nowC, .int .i64 n25] h37 fun v18 h38 => ∃ r21 : Bool, v18 = .bool r21 ∧
  cond (!r21)
  (∃ n26 : Int, cell h38 ((⟨b6, 0, none⟩ : Addr).add 1) = some (.int .i64 n26) ∧
  l35_PartialretroBridge_b14 x q keys keysL keysC now nowL nowC last (if best < n26 then n26 else best) t107 t107L t107C t108 t109 h38 nx0 K)
  (l35_PartialretroBridge_b14 x q keys keysL keysC now nowL nowC last best t107 t107L t107C t108 t109 h38 nx0 K))
  (l35_PartialretroBridge_b14 x q keys keysL keysC now nowL nowC last best t107 t107L t107C t108 t109 h37 nx0 K))
  (l35_PartialretroBridge_b14 x q keys keysL keysC now nowL nowC last best t107 t107L t107C t108 t109 h37 nx0 K))
  (l35_PartialretroBridge_b15 x q keys keysL keysC best h  K)) := by kernel_rfl
theorem l35_PartialretroBridge_b13_eq (before : Int) (t191 : Int) (x : Option Addr) (q : Option Addr) (m : Option Addr) (mL : Nat) (mC : Nat) (keys : Option Addr) (keysL : Nat) (keysC : Nat) (bridges : Option Addr) (bridgesL : Nat) (bridgesC : Nat) (inv : Option Addr) (invL : Nat) (invC : Nat) (t189 : Option Addr) (t189L : Nat) (t189C : Nat) (t190 : Int) (h : Hp) (nx0 : Int × Int × Unit → Hp → Prop) (K : Value → Hp → Prop) : l35_PartialretroBridge_b13 before t191 x q m mL mC keys keysL keysC bridges bridgesL bridgesC inv invL invC t189 t189L t189C t190 h nx0 K = (
  cond (decide (t191 < t190))
  ((0 ≤ t191 ∧ t191 < (t189L : Int)) ∧
  NN t189 fun a13 =>
  ∃ n27 : Int, ∃ n28 : Int, ∃ b8 : Bool, cell h (a13.add (Int.toNat t191 * 3)) = some (.int .i64 n27) ∧
  cell h ((a13.add (Int.toNat t191 * 3)).add 1) = some (.int .i64 n28) ∧
  cell h ((a13.add (Int.toNat t191 * 3)).add 2) = some (.bool b8) ∧
  New h (.cells #[.int .i64 0, .int .i64 0, .bool false] 41) fun b9 h39 =>
  Wr h39 ⟨b9, 0, none⟩ (.int .i64 n27) fun h40 =>
  Wr h40 ((⟨b9, 0, none⟩ : Addr).add 1) (.int .i64 n28) fun h41 =>
  Wr h41 ((⟨b9, 0, none⟩ : Addr).add 2) (.bool b8) fun h42 =>
  ∃ n29 : Int, cell h42 ⟨b9, 0, none⟩ = some (.int .i64 n29) ∧
  NN x fun a14 =>
  ∃ n30 : Int, cell h42 (a14.add 1) = some (.int .i64 n30) ∧
  cond (decide (n29 < n30))
  (l35_PartialretroBridge_b16 x q m mL mC keys keysL keysC bridges bridgesL bridgesC inv invL invC t191 t189 t189L t189C t190 t191 h42 nx0 K)
  (l35_PartialretroBridge_b16 x q m mL mC keys keysL keysC bridges bridgesL bridgesC inv invL invC before t189 t189L t189C t190 t191 h42 nx0 K))
  (l35_PartialretroBridge_b17 x q m mL mC keys keysL keysC bridges bridgesL bridgesC inv invL invC before h  K)) := by kernel_rfl
theorem l35_PartialretroBridge_b14_eq (x : Option Addr) (q : Option Addr) (keys : Option Addr) (keysL : Nat) (keysC : Nat) (now : Option Addr) (nowL : Nat) (nowC : Nat) (last : Int) (best : Int) (t107 : Option Addr) (t107L : Nat) (t107C : Nat) (t108 : Int) (t109 : Int) (h : Hp) (nx0 : Int × Int × Unit → Hp → Prop) (K : Value → Hp → Prop) : l35_PartialretroBridge_b14 x q keys keysL keysC now nowL nowC last best t107 t107L t107C t108 t109 h nx0 K = (
  InR (t109 + 1) ∧
  nx0 (best, t109 + 1, ()) h) := by kernel_rfl
theorem l35_PartialretroBridge_b15_eq (x : Option Addr) (q : Option Addr) (keys : Option Addr) (keysL : Nat) (keysC : Nat) (best : Int) (h : Hp)  (K : Value → Hp → Prop) : l35_PartialretroBridge_b15 x q keys keysL keysC best h  K = (
  NN x fun a15 =>
  ∃ n31 : Int, cell h (a15.add 1) = some (.int .i64 n31) ∧
  NN x fun a16 =>
  ∃ n32 : Int, cell h (a16.add 2) = some (.int .i64 n32) ∧
  HCalls Tryz.prog 20 #[.pointer q, .int .i64 n31, .int .i64 n32] h fun v19 h43 => ∃ r22 : Int, v19 = .int .i64 r22 ∧
  cond (!decide (r22 = 0))
  (K (.bool false) h43)
  (HCalls Tryz.prog 21 #[.slice keys keysL keysC, .int .i64 best] h43 fun v20 h44 => ∃ r23 : Int, ∃ r24 : Bool, v20 = .tuple #[.int .i64 r23, .bool r24] ∧
  HCalls Tryz.prog 16 #[.pointer q] h44 fun v21 h45 => ∃ (r25 : Option Addr) (rL6 rC6 : Nat), v21 = .slice r25 rL6 rC6 ∧
  HCalls Tryz.prog 24 #[.slice keys keysL keysC] h45 fun v22 h46 => ∃ (r26 : Option Addr) (rL7 rC7 : Nat), v22 = .slice r26 rL7 rC7 ∧
  New h46 (.cells #[.int .i64 best] 3) fun b10 h47 =>
  HCalls Tryz.prog 23 #[.slice r26 rL7 rC7, .int .i64 r23, .slice (some ⟨b10, 0, none⟩) 1 1] h47 fun v23 h48 => ∃ (r27 : Option Addr) (rL8 rC8 : Nat), v23 = .slice r27 rL8 rC8 ∧
  HCalls Tryz.prog 22 #[.slice r25 rL6 rC6, .slice r27 rL8 rC8] h48 fun v24 h49 => ∃ r28 : Bool, v24 = .bool r28 ∧
  K (.bool r28) h49)) := by kernel_rfl
theorem l35_PartialretroBridge_b16_eq (x : Option Addr) (q : Option Addr) (m : Option Addr) (mL : Nat) (mC : Nat) (keys : Option Addr) (keysL : Nat) (keysC : Nat) (bridges : Option Addr) (bridgesL : Nat) (bridgesC : Nat) (inv : Option Addr) (invL : Nat) (invC : Nat) (before : Int) (t189 : Option Addr) (t189L : Nat) (t189C : Nat) (t190 : Int) (t191 : Int) (h : Hp) (nx0 : Int × Int × Unit → Hp → Prop) (K : Value → Hp → Prop) : l35_PartialretroBridge_b16 x q m mL mC keys keysL keysC bridges bridgesL bridgesC inv invL invC before t189 t189L t189C t190 t191 h nx0 K = (
  InR (t191 + 1) ∧
  nx0 (before, t191 + 1, ()) h) := by kernel_rfl
theorem l35_PartialretroBridge_b17_eq (x : Option Addr) (q : Option Addr) (m : Option Addr) (mL : Nat) (mC : Nat) (keys : Option Addr) (keysL : Nat) (keysC : Nat) (bridges : Option Addr) (bridgesL : Nat) (bridgesC : Nat) (inv : Option Addr) (invL : Nat) (invC : Nat) (before : Int) (h : Hp)  (K : Value → Hp → Prop) : l35_PartialretroBridge_b17 x q m mL mC keys keysL keysC bridges bridgesL bridgesC inv invL invC before h  K = (
  cond (decide (before < 0))
  (NN x fun a17 =>
  ∃ n33 : Int, cell h (a17.add 1) = some (.int .i64 n33) ∧
  HCalls Tryz.prog 25 #[.pointer q, .int .i64 n33] h fun v25 h50 => ∃ r29 : Int, v25 = .int .i64 r29 ∧
  K (.bool (decide (r29 = 14))) h50)
  ((0 ≤ before ∧ before < (mL : Int)) ∧
  NN m fun a18 =>
  ∃ n34 : Int, cell h (a18.add (Int.toNat before * 3)) = some (.int .i64 n34) ∧
  HCalls Tryz.prog 19 #[.slice bridges bridgesL bridgesC, .int .i64 n34] h fun v26 h51 => ∃ r30 : Bool, v26 = .bool r30 ∧
  cond r30
  (InR (before + 1) ∧
  HCalls Tryz.prog 18 #[.slice m mL mC, .int .i64 (before + 1)] h51 fun v27 h52 => ∃ (r31 : Option Addr) (rL9 rC9 : Nat), ∃ r32 : Bool, v27 = .tuple #[.slice r31 rL9 rC9, .bool r32] ∧
  l35_PartialretroBridge_b18 x q m mL mC keys keysL keysC r31 rL9 rC9 h52  K)
  (l35_PartialretroBridge_b18 x q m mL mC keys keysL keysC inv invL invC h51  K))) := by kernel_rfl
theorem l35_PartialretroBridge_b18_eq (x : Option Addr) (q : Option Addr) (m : Option Addr) (mL : Nat) (mC : Nat) (keys : Option Addr) (keysL : Nat) (keysC : Nat) (inv : Option Addr) (invL : Nat) (invC : Nat) (h : Hp)  (K : Value → Hp → Prop) : l35_PartialretroBridge_b18 x q m mL mC keys keysL keysC inv invL invC h  K = (
  NN x fun a19 =>
  ∃ n35 : Int, cell h (a19.add 1) = some (.int .i64 n35) ∧
  HCalls Tryz.prog 25 #[.pointer q, .int .i64 n35] h fun v28 h53 => ∃ r33 : Int, v28 = .int .i64 r33 ∧
  cond (decide ((invL : Int) = 0))
  (K (.bool (decide (r33 = 14))) h53)
  (cond (!decide (r33 = 0))
  (K (.bool false) h53)
  (LoopVC ((1048577, 0, ()) : Int × Int × Unit) h53 (fun (nx0 : Int × Int × Unit → Hp → Prop) (s6 : Int × Int × Unit) h54 => l35_PartialretroBridge_b19 s6.1 s6.2.1 q m mL mC keys keysL keysC inv invL invC (invL : Int) h54 nx0 K)))) := by kernel_rfl
theorem l35_PartialretroBridge_b19_eq (least : Int) (t237 : Int) (q : Option Addr) (m : Option Addr) (mL : Nat) (mC : Nat) (keys : Option Addr) (keysL : Nat) (keysC : Nat) (t235 : Option Addr) (t235L : Nat) (t235C : Nat) (t236 : Int) (h : Hp) (nx0 : Int × Int × Unit → Hp → Prop) (K : Value → Hp → Prop) : l35_PartialretroBridge_b19 least t237 q m mL mC keys keysL keysC t235 t235L t235C t236 h nx0 K = (
  cond (decide (t237 < t236))
  ((0 ≤ t237 ∧ t237 < (t235L : Int)) ∧
  NN t235 fun a20 =>
  ∃ n36 : Int, cell h (a20.add (Int.toNat t237 * 1)) = some (.int .i64 n36) ∧
  HCalls Tryz.prog 15 #[.slice m mL mC, .int .i64 n36] h fun v29 h55 => ∃ r34 : Int, v29 = .int .i64 r34 ∧
  (0 ≤ r34 ∧ r34 < (mL : Int)) ∧
  NN m fun a21 =>
  ∃ n37 : Int, cell h55 ((a21.add (Int.toNat r34 * 3)).add 1) = some (.int .i64 n37) ∧
  l35_PartialretroBridge_b20 q m mL mC keys keysL keysC (if n37 < least then n37 else least) t235 t235L t235C t236 t237 h55 nx0 K)
  (l35_PartialretroBridge_b21 q keys keysL keysC least h  K)) := by kernel_rfl
theorem l35_PartialretroBridge_b20_eq (q : Option Addr) (m : Option Addr) (mL : Nat) (mC : Nat) (keys : Option Addr) (keysL : Nat) (keysC : Nat) (least : Int) (t235 : Option Addr) (t235L : Nat) (t235C : Nat) (t236 : Int) (t237 : Int) (h : Hp) (nx0 : Int × Int × Unit → Hp → Prop) (K : Value → Hp → Prop) : l35_PartialretroBridge_b20 q m mL mC keys keysL keysC least t235 t235L t235C t236 t237 h nx0 K = (
  InR (t237 + 1) ∧
  nx0 (least, t237 + 1, ()) h) := by kernel_rfl
theorem l35_PartialretroBridge_b21_eq (q : Option Addr) (keys : Option Addr) (keysL : Nat) (keysC : Nat) (least : Int) (h : Hp)  (K : Value → Hp → Prop) : l35_PartialretroBridge_b21 q keys keysL keysC least h  K = (
  HCalls Tryz.prog 21 #[.slice keys keysL keysC, .int .i64 least] h fun v30 h56 => ∃ r35 : Int, ∃ r36 : Bool, v30 = .tuple #[.int .i64 r35, .bool r36] ∧
  cond r36
  (HCalls Tryz.prog 16 #[.pointer q] h56 fun v31 h57 => ∃ (r37 : Option Addr) (rL10 rC10 : Nat), v31 = .slice r37 rL10 rC10 ∧
  HCalls Tryz.prog 24 #[.slice keys keysL keysC] h57 fun v32 h58 => ∃ (r38 : Option Addr) (rL11 rC11 : Nat), v32 = .slice r38 rL11 rC11 ∧
  InR (r35 + 1) ∧
  HCalls Tryz.prog 26 #[.slice r38 rL11 rC11, .int .i64 r35, .int .i64 (r35 + 1)] h58 fun v33 h59 => ∃ (r39 : Option Addr) (rL12 rC12 : Nat), v33 = .slice r39 rL12 rC12 ∧
  HCalls Tryz.prog 22 #[.slice r37 rL10 rC10, .slice r39 rL12 rC12] h59 fun v34 h60 => ∃ r40 : Bool, v34 = .bool r40 ∧
  K (.bool r40) h60)
  (K (.bool false) h56)) := by kernel_rfl
theorem l35_PartialretroBridge_call {l : Option Addr} {lL : Nat} {lC : Nat} {x_0 : Int} {x_1 : Int} {x_2 : Int} {x_3 : Int} {x_4 : Option Addr} {x_4L : Nat} {x_4C : Nat} {h : Hp} {K : Value → Hp → Prop} (hk : l35_PartialretroBridge_b0 l lL lC x_0 x_1 x_2 x_3 x_4 x_4L x_4C h K) : HCalls Tryz.prog 3 #[.slice l lL lC, .agg #[.int .i64 x_0, .int .i64 x_1, .int .i64 x_2, .int .i64 x_3, .slice x_4 x_4L x_4C]] h K :=
  calls_of_snd l35_PartialretroBridge_an Tryz.func3 (c := bodyOf Tryz.f3) rfl Tryz.ntmps3 (Nat.le_of_ble_eq_true rfl) (snd_9 F_ok F_mixed) hk


/-! ### l35_PartialretroQueue -/
def l35_PartialretroQueue_an : Ann := .node none (.leaf) (.node (some [0]) (.leaf) (.node none (.leaf) (.node none (.leaf) (.node (some []) (.node none (.leaf) (.loop [3, 20, 21] [(4, .slice), (22, .int .i64)] (.node none (.leaf) (.node none (.leaf) (.node (some [3, 4, 20, 21, 22]) (.node none (.leaf) (.node none (.leaf) (.node none (.leaf) (.node none (.leaf) (.node none (.leaf) (.node (some [3, 4, 8, 9, 10, 20, 21, 22]) (.leaf) (.leaf))))))) (.leaf)))))) (.leaf)))))
def l35_PartialretroQueue_K0  (K : Value → Hp → Prop) : Exit → Env → Hp → Prop := retK Tryz.prog Tryz.f5.results.toList K
def l35_PartialretroQueue_K1  (K : Value → Hp → Prop) : Exit → Env → Hp → Prop := thenE (fun env h => sx_2 Tryz.prog F 82 (cp [1, 1, 1, 1, 1] (bodyOf Tryz.f5)) (ap [1, 1, 1, 1, 1] l35_PartialretroQueue_an) (rs [] env) h (l35_PartialretroQueue_K0  K)) (l35_PartialretroQueue_K0  K)
def l35_PartialretroQueue_K2  (K : Value → Hp → Prop) : Exit → Env → Hp → Prop := blockE 0 (l35_PartialretroQueue_K1  K)
def l35_PartialretroQueue_K3 (nx0 : (Option Addr × Nat × Nat) × Int × Unit → Hp → Prop) (K : Value → Hp → Prop) : Exit → Env → Hp → Prop := thenE (fun env h => getV [(4, .slice), (22, .int .i64)] env fun s => nx0 s h) (l35_PartialretroQueue_K2  K)
def l35_PartialretroQueue_K4 (nx0 : (Option Addr × Nat × Nat) × Int × Unit → Hp → Prop) (K : Value → Hp → Prop) : Exit → Env → Hp → Prop := thenE (fun env h => sx_1 Tryz.prog F 82 (cp [1, 1, 1, 1, 0, 1, 2, 2, 1, 1, 1] (bodyOf Tryz.f5)) (ap [1, 1, 1, 1, 0, 1, 2, 1, 1, 1] l35_PartialretroQueue_an) (rs [3, 4, 20, 21, 22] env) h (l35_PartialretroQueue_K3 nx0 K)) (l35_PartialretroQueue_K3 nx0 K)
def l35_PartialretroQueue_K5 (nx0 : (Option Addr × Nat × Nat) × Int × Unit → Hp → Prop) (K : Value → Hp → Prop) : Exit → Env → Hp → Prop := blockE 1 (l35_PartialretroQueue_K4 nx0 K)
def l35_PartialretroQueue_b0 (l : Option Addr) (lL : Nat) (lC : Nat) (h : Hp)  (K : Value → Hp → Prop) : Prop :=
  sx_4 Tryz.prog F 82 (cp [] (bodyOf Tryz.f5)) (ap [] l35_PartialretroQueue_an) [(0, .slice l lL lC)] h (l35_PartialretroQueue_K0  K)
def l35_PartialretroQueue_b1 (l : Option Addr) (lL : Nat) (lC : Nat) (h : Hp)  (K : Value → Hp → Prop) : Prop :=
  sx_3 Tryz.prog F 82 (cp [1, 1] (bodyOf Tryz.f5)) (ap [1, 1] l35_PartialretroQueue_an) [(0, .slice l lL lC)] h (l35_PartialretroQueue_K0  K)
def l35_PartialretroQueue_b2 (m : Option Addr) (mL : Nat) (mC : Nat) (t22 : Int) (q : Option Addr) (t20 : Option Addr) (t20L : Nat) (t20C : Nat) (t21 : Int) (h : Hp) (nx0 : (Option Addr × Nat × Nat) × Int × Unit → Hp → Prop) (K : Value → Hp → Prop) : Prop :=
  sx_2 Tryz.prog F 82 (cp [1, 1, 1, 1, 0, 1, 2, 2] (bodyOf Tryz.f5)) (ap [1, 1, 1, 1, 0, 1, 2] l35_PartialretroQueue_an) [(4, .slice m mL mC), (22, .int .i64 t22), (3, .pointer q), (20, .slice t20 t20L t20C), (21, .int .i64 t21)] h (l35_PartialretroQueue_K3 nx0 K)
def l35_PartialretroQueue_b3 (q : Option Addr) (m : Option Addr) (mL : Nat) (mC : Nat) (keys : Option Addr) (keysL : Nat) (keysC : Nat) (least : Int) (e : Int) (t20 : Option Addr) (t20L : Nat) (t20C : Nat) (t21 : Int) (t22 : Int) (h : Hp) (nx0 : (Option Addr × Nat × Nat) × Int × Unit → Hp → Prop) (K : Value → Hp → Prop) : Prop :=
  sx_1 Tryz.prog F 82 (cp [1, 1, 1, 1, 0, 1, 2, 2, 1, 1, 0, 2, 1, 1, 1, 1, 1, 1] (bodyOf Tryz.f5)) (ap [1, 1, 1, 1, 0, 1, 2, 1, 1, 0, 1, 1, 1, 1, 1, 1] l35_PartialretroQueue_an) [(3, .pointer q), (4, .slice m mL mC), (8, .slice keys keysL keysC), (9, .int .i64 least), (10, .int .i64 e), (20, .slice t20 t20L t20C), (21, .int .i64 t21), (22, .int .i64 t22)] h (l35_PartialretroQueue_K5 nx0 K)
def l35_PartialretroQueue_b4  (h : Hp)  (K : Value → Hp → Prop) : Prop :=
  sx_2 Tryz.prog F 82 (cp [1, 1, 1, 1, 1] (bodyOf Tryz.f5)) (ap [1, 1, 1, 1, 1] l35_PartialretroQueue_an) [] h (l35_PartialretroQueue_K0  K)
def l35_PartialretroQueue_b5 (q : Option Addr) (m : Option Addr) (mL : Nat) (mC : Nat) (t20 : Option Addr) (t20L : Nat) (t20C : Nat) (t21 : Int) (t22 : Int) (h : Hp) (nx0 : (Option Addr × Nat × Nat) × Int × Unit → Hp → Prop) (K : Value → Hp → Prop) : Prop :=
  sx_1 Tryz.prog F 82 (cp [1, 1, 1, 1, 0, 1, 2, 2, 1, 1, 1] (bodyOf Tryz.f5)) (ap [1, 1, 1, 1, 0, 1, 2, 1, 1, 1] l35_PartialretroQueue_an) [(3, .pointer q), (4, .slice m mL mC), (20, .slice t20 t20L t20C), (21, .int .i64 t21), (22, .int .i64 t22)] h (l35_PartialretroQueue_K3 nx0 K)
theorem l35_PartialretroQueue_b0_eq (l : Option Addr) (lL : Nat) (lC : Nat) (h : Hp)  (K : Value → Hp → Prop) : l35_PartialretroQueue_b0 l lL lC h  K = (
  HCalls Tryz.prog 9 #[] h fun v1 h1 => ∃ r1 : Bool, v1 = .bool r1 ∧
  cond (!r1)
  (HCalls Tryz.prog 9 #[] h1 fun v2 h2 => ∃ r2 : Bool, v2 = .bool r2 ∧
  K (.bool r2) h2)
  (HCalls Tryz.prog 10 #[.slice l lL lC] h1 fun v3 h3 => ∃ r3 : Bool, v3 = .bool r3 ∧
  cond (!r3)
  (HCalls Tryz.prog 9 #[] h3 fun v4 h4 => ∃ r4 : Bool, v4 = .bool r4 ∧
  K (.bool r4) h4)
  (l35_PartialretroQueue_b1 l lL lC h3  K))) := by kernel_rfl
theorem l35_PartialretroQueue_b1_eq (l : Option Addr) (lL : Nat) (lC : Nat) (h : Hp)  (K : Value → Hp → Prop) : l35_PartialretroQueue_b1 l lL lC h  K = (
  HCalls Tryz.prog 13 #[] h fun v5 h5 => ∃ r5 : Option Addr, v5 = .pointer r5 ∧
  LoopVC (((none, 0, 0), 0, ()) : (Option Addr × Nat × Nat) × Int × Unit) h5 (fun (nx0 : (Option Addr × Nat × Nat) × Int × Unit → Hp → Prop) (s1 : (Option Addr × Nat × Nat) × Int × Unit) h6 => l35_PartialretroQueue_b2 s1.1.1 s1.1.2.1 s1.1.2.2 s1.2.1 r5 l lL lC (lL : Int) h6 nx0 K)) := by kernel_rfl
theorem l35_PartialretroQueue_b2_eq (m : Option Addr) (mL : Nat) (mC : Nat) (t22 : Int) (q : Option Addr) (t20 : Option Addr) (t20L : Nat) (t20C : Nat) (t21 : Int) (h : Hp) (nx0 : (Option Addr × Nat × Nat) × Int × Unit → Hp → Prop) (K : Value → Hp → Prop) : l35_PartialretroQueue_b2 m mL mC t22 q t20 t20L t20C t21 h nx0 K = (
  cond (decide (t22 < t21))
  ((0 ≤ t22 ∧ t22 < (t20L : Int)) ∧
  NN t20 fun a1 =>
  ∃ n1 : Int, ∃ n2 : Int, ∃ n3 : Int, ∃ n4 : Int, ∃ (a2 : Option Addr) (L1 C1 : Nat), cell h (a1.add (Int.toNat t22 * 5)) = some (.int .i64 n1) ∧
  cell h ((a1.add (Int.toNat t22 * 5)).add 1) = some (.int .i64 n2) ∧
  cell h ((a1.add (Int.toNat t22 * 5)).add 2) = some (.int .i64 n3) ∧
  cell h ((a1.add (Int.toNat t22 * 5)).add 3) = some (.int .i64 n4) ∧
  cell h ((a1.add (Int.toNat t22 * 5)).add 4) = some (.slice a2 L1 C1) ∧
  New h (.cells #[.int .i64 0, .int .i64 0, .int .i64 0, .int .i64 0, .slice none 0 0] 27) fun b1 h7 =>
  Wr h7 ⟨b1, 0, none⟩ (.int .i64 n1) fun h8 =>
  Wr h8 ((⟨b1, 0, none⟩ : Addr).add 1) (.int .i64 n2) fun h9 =>
  Wr h9 ((⟨b1, 0, none⟩ : Addr).add 2) (.int .i64 n3) fun h10 =>
  Wr h10 ((⟨b1, 0, none⟩ : Addr).add 3) (.int .i64 n4) fun h11 =>
  Wr h11 ((⟨b1, 0, none⟩ : Addr).add 4) (.slice a2 L1 C1) fun h12 =>
  ∃ n5 : Int, ∃ n6 : Int, ∃ n7 : Int, ∃ n8 : Int, ∃ (a3 : Option Addr) (L2 C2 : Nat), cell h12 ⟨b1, 0, none⟩ = some (.int .i64 n5) ∧
  cell h12 ((⟨b1, 0, none⟩ : Addr).add 1) = some (.int .i64 n6) ∧
  cell h12 ((⟨b1, 0, none⟩ : Addr).add 2) = some (.int .i64 n7) ∧
  cell h12 ((⟨b1, 0, none⟩ : Addr).add 3) = some (.int .i64 n8) ∧
  cell h12 ((⟨b1, 0, none⟩ : Addr).add 4) = some (.slice a3 L2 C2) ∧
  HCalls Tryz.prog 14 #[.pointer q, .slice m mL mC, .agg #[.int .i64 n5, .int .i64 n6, .int .i64 n7, .int .i64 n8, .slice a3 L2 C2]] h12 fun v6 h13 => ∃ (r6 : Option Addr) (rL1 rC1 : Nat), ∃ r7 : Bool, v6 = .tuple #[.slice r6 rL1 rC1, .bool r7] ∧
  cond (!r7)
  (K (.bool false) h13)
  (HCalls Tryz.prog 30 #[.slice r6 rL1 rC1] h13 fun v7 h14 => ∃ (r8 : Option Addr) (rL2 rC2 : Nat), v7 = .slice r8 rL2 rC2 ∧
  HCalls Tryz.prog 31 #[.pointer q] h14 fun v8 h15 => ∃ r9 : Int, ∃ r10 : Int, v8 = .tuple #[.int .i64 r9, .int .i64 r10] ∧
  HCalls Tryz.prog 16 #[.pointer q] h15 fun v9 h16 => ∃ (r11 : Option Addr) (rL3 rC3 : Nat), v9 = .slice r11 rL3 rC3 ∧
  HCalls Tryz.prog 22 #[.slice r11 rL3 rC3, .slice r8 rL2 rC2] h16 fun v10 h17 => ∃ r12 : Bool, v10 = .bool r12 ∧
  cond (!r12)
  (K (.bool false) h17)
  (HCalls Tryz.prog 27 #[.pointer q] h17 fun v11 h18 => ∃ (r13 : Option Addr) (rL4 rC4 : Nat), v11 = .slice r13 rL4 rC4 ∧
  HCalls Tryz.prog 32 #[.slice r6 rL1 rC1] h18 fun v12 h19 => ∃ (r14 : Option Addr) (rL5 rC5 : Nat), v12 = .slice r14 rL5 rC5 ∧
  HCalls Tryz.prog 22 #[.slice r13 rL4 rC4, .slice r14 rL5 rC5] h19 fun v13 h20 => ∃ r15 : Bool, v13 = .bool r15 ∧
  cond (!r15)
  (K (.bool false) h20)
  (HCalls Tryz.prog 17 #[.pointer q] h20 fun v14 h21 => ∃ (r16 : Option Addr) (rL6 rC6 : Nat), v14 = .slice r16 rL6 rC6 ∧
  HCalls Tryz.prog 33 #[.slice r6 rL1 rC1] h21 fun v15 h22 => ∃ (r17 : Option Addr) (rL7 rC7 : Nat), v15 = .slice r17 rL7 rC7 ∧
  HCalls Tryz.prog 22 #[.slice r16 rL6 rC6, .slice r17 rL7 rC7] h22 fun v16 h23 => ∃ r18 : Bool, v16 = .bool r18 ∧
  cond (!r18)
  (K (.bool false) h23)
  (l35_PartialretroQueue_b3 q r6 rL1 rC1 r8 rL2 rC2 r9 r10 t20 t20L t20C t21 t22 h23 nx0 K)))))
  (l35_PartialretroQueue_b4  h  K)) := by kernel_rfl
theorem l35_PartialretroQueue_b3_eq (q : Option Addr) (m : Option Addr) (mL : Nat) (mC : Nat) (keys : Option Addr) (keysL : Nat) (keysC : Nat) (least : Int) (e : Int) (t20 : Option Addr) (t20L : Nat) (t20C : Nat) (t21 : Int) (t22 : Int) (h : Hp) (nx0 : (Option Addr × Nat × Nat) × Int × Unit → Hp → Prop) (K : Value → Hp → Prop) : l35_PartialretroQueue_b3 q m mL mC keys keysL keysC least e t20 t20L t20C t21 t22 h nx0 K = (
  cond (decide ((keysL : Int) = 0))
  (cond (!decide (least = 0))
  (K (.bool false) h)
  (cond (!decide (e = 14))
  (K (.bool false) h)
  (l35_PartialretroQueue_b5 q m mL mC t20 t20L t20C t21 t22 h nx0 K)))
  ((0 ≤ (0 : Int) ∧ (0 : Int) < (keysL : Int)) ∧
  NN keys fun a4 =>
  ∃ n9 : Int, cell h (a4.add (Int.toNat (0 : Int) * 1)) = some (.int .i64 n9) ∧
  cond (!decide (least = n9))
  (K (.bool false) h)
  (cond (!decide (e = 0))
  (K (.bool false) h)
  (l35_PartialretroQueue_b5 q m mL mC t20 t20L t20C t21 t22 h nx0 K)))) := by kernel_rfl
theorem l35_PartialretroQueue_b4_eq  (h : Hp)  (K : Value → Hp → Prop) : l35_PartialretroQueue_b4  h  K = (
  K (.bool true) h) := by kernel_rfl
theorem l35_PartialretroQueue_b5_eq (q : Option Addr) (m : Option Addr) (mL : Nat) (mC : Nat) (t20 : Option Addr) (t20L : Nat) (t20C : Nat) (t21 : Int) (t22 : Int) (h : Hp) (nx0 : (Option Addr × Nat × Nat) × Int × Unit → Hp → Prop) (K : Value → Hp → Prop) : l35_PartialretroQueue_b5 q m mL mC t20 t20L t20C t21 t22 h nx0 K = (
  InR (t22 + 1) ∧
  nx0 ((m, mL, mC), t22 + 1, ()) h) := by kernel_rfl
theorem l35_PartialretroQueue_call {l : Option Addr} {lL : Nat} {lC : Nat} {h : Hp} {K : Value → Hp → Prop} (hk : l35_PartialretroQueue_b0 l lL lC h K) : HCalls Tryz.prog 5 #[.slice l lL lC] h K :=
  calls_of_snd l35_PartialretroQueue_an Tryz.func5 (c := bodyOf Tryz.f5) rfl Tryz.ntmps5 (Nat.le_of_ble_eq_true rfl) (snd_4 F_ok F_mixed) hk

/-! ### l35_PartialretroNil -/
def l35_PartialretroNil_an : Ann := .node none (.leaf) (.node (some [0, 1, 5]) (.leaf) (.leaf))
def l35_PartialretroNil_K0  (K : Value → Hp → Prop) : Exit → Env → Hp → Prop := retK Tryz.prog Tryz.f7.results.toList K
def l35_PartialretroNil_b0 (time : Int) (key : Int) (o_0 : Int) (o_1 : Option Addr) (o_1L : Nat) (o_1C : Nat) (h : Hp)  (K : Value → Hp → Prop) : Prop :=
  sx_2 Tryz.prog F 119 (cp [] (bodyOf Tryz.f7)) (ap [] l35_PartialretroNil_an) [(0, .int .i64 time), (1, .int .i64 key), (2, .agg #[.int .i64 o_0, .slice o_1 o_1L o_1C])] h (l35_PartialretroNil_K0  K)
def l35_PartialretroNil_b1 (time : Int) (key : Int) (o : Option Addr) (h : Hp)  (K : Value → Hp → Prop) : Prop :=
  sx_1 Tryz.prog F 119 (cp [1, 1] (bodyOf Tryz.f7)) (ap [1, 1] l35_PartialretroNil_an) [(0, .int .i64 time), (1, .int .i64 key), (5, .pointer o)] h (l35_PartialretroNil_K0  K)
theorem l35_PartialretroNil_b0_eq (time : Int) (key : Int) (o_0 : Int) (o_1 : Option Addr) (o_1L : Nat) (o_1C : Nat) (h : Hp)  (K : Value → Hp → Prop) : l35_PartialretroNil_b0 time key o_0 o_1 o_1L o_1C h  K = (
  New h (.cells #[.int .i64 o_0, .slice o_1 o_1L o_1C] 25) fun b1 h1 =>
  HCalls Tryz.prog 9 #[] h1 fun v1 h2 => ∃ r1 : Bool, v1 = .bool r1 ∧
  cond (!r1)
  (HCalls Tryz.prog 9 #[] h2 fun v2 h3 => ∃ r2 : Bool, v2 = .bool r2 ∧
  K (.bool r2) h3)
  (∃ (a1 : Option Addr) (L1 C1 : Nat), cell h2 ((⟨b1, 0, none⟩ : Addr).add 1) = some (.slice a1 L1 C1) ∧
  cond (decide ((70 : Int) < (L1 : Int)))
  (HCalls Tryz.prog 9 #[] h2 fun v3 h4 => ∃ r3 : Bool, v3 = .bool r3 ∧
  K (.bool r3) h4)
  (l35_PartialretroNil_b1 time key (some ⟨b1, 0, none⟩) h2  K))) := by kernel_rfl
theorem l35_PartialretroNil_b1_eq (time : Int) (key : Int) (o : Option Addr) (h : Hp)  (K : Value → Hp → Prop) : l35_PartialretroNil_b1 time key o h  K = (
  HCalls Tryz.prog 31 #[.pointer none] h fun v4 h5 => ∃ r4 : Int, ∃ r5 : Int, v4 = .tuple #[.int .i64 r4, .int .i64 r5] ∧
  NN o fun a2 =>
  ∃ n1 : Int, ∃ (a3 : Option Addr) (L2 C2 : Nat), cell h5 a2 = some (.int .i64 n1) ∧
  cell h5 (a2.add 1) = some (.slice a3 L2 C2) ∧
  HCalls Tryz.prog 35 #[.pointer none, .agg #[.int .i64 n1, .slice a3 L2 C2]] h5 fun v5 h6 => ∃ r6 : Int, ∃ r7 : Int, ∃ (r8 : Option Addr) (rL1 rC1 : Nat), ∃ r9 : Int, v5 = .tuple #[.agg #[.int .i64 r6, .int .i64 r7, .slice r8 rL1 rC1], .int .i64 r9] ∧
  New h6 (.cells #[.int .i64 0, .int .i64 0, .slice none 0 0] 61) fun b2 h7 =>
  Wr h7 ⟨b2, 0, none⟩ (.int .i64 r6) fun h8 =>
  Wr h8 ((⟨b2, 0, none⟩ : Addr).add 1) (.int .i64 r7) fun h9 =>
  Wr h9 ((⟨b2, 0, none⟩ : Addr).add 2) (.slice r8 rL1 rC1) fun h10 =>
  HCalls Tryz.prog 47 #[.pointer none] h10 fun v6 h11 => ∃ r10 : Int, ∃ r11 : Int, v6 = .tuple #[.int .i64 r10, .int .i64 r11] ∧
  HCalls Tryz.prog 20 #[.pointer none, .int .i64 time, .int .i64 key] h11 fun v7 h12 => ∃ r12 : Int, v7 = .int .i64 r12 ∧
  cond (decide (r12 = 1))
  (HCalls Tryz.prog 25 #[.pointer none, .int .i64 time] h12 fun v8 h13 => ∃ r13 : Int, v8 = .int .i64 r13 ∧
  cond (decide (r13 = 1))
  (HCalls Tryz.prog 29 #[.pointer none, .int .i64 time] h13 fun v9 h14 => ∃ r14 : Int, v9 = .int .i64 r14 ∧
  cond (decide (r14 = 1))
  (cond (decide (r4 = 0))
  (cond (decide (r5 = 1))
  (HCalls Tryz.prog 16 #[.pointer none] h14 fun v10 h15 => ∃ (r15 : Option Addr) (rL2 rC2 : Nat), v10 = .slice r15 rL2 rC2 ∧
  cond (decide ((rL2 : Int) = 0))
  (HCalls Tryz.prog 27 #[.pointer none] h15 fun v11 h16 => ∃ (r16 : Option Addr) (rL3 rC3 : Nat), v11 = .slice r16 rL3 rC3 ∧
  cond (decide ((rL3 : Int) = 0))
  (HCalls Tryz.prog 17 #[.pointer none] h16 fun v12 h17 => ∃ (r17 : Option Addr) (rL4 rC4 : Nat), v12 = .slice r17 rL4 rC4 ∧
  cond (decide ((rL4 : Int) = 0))
  (NN o fun a4 =>
  ∃ n2 : Int, ∃ (a5 : Option Addr) (L3 C3 : Nat), cell h17 a4 = some (.int .i64 n2) ∧
  cell h17 (a4.add 1) = some (.slice a5 L3 C3) ∧
  HCalls Tryz.prog 41 #[.pointer none, .int .i64 time, .agg #[.int .i64 n2, .slice a5 L3 C3]] h17 fun v13 h18 => ∃ r18 : Int, v13 = .int .i64 r18 ∧
  cond (decide (r18 = 1))
  (HCalls Tryz.prog 44 #[.pointer none, .int .i64 time] h18 fun v14 h19 => ∃ r19 : Int, v14 = .int .i64 r19 ∧
  cond (decide (r19 = 1))
  (∃ n3 : Int, ∃ n4 : Int, ∃ (a6 : Option Addr) (L4 C4 : Nat), cell h19 ⟨b2, 0, none⟩ = some (.int .i64 n3) ∧
  cell h19 ((⟨b2, 0, none⟩ : Addr).add 1) = some (.int .i64 n4) ∧
  cell h19 ((⟨b2, 0, none⟩ : Addr).add 2) = some (.slice a6 L4 C4) ∧
  HCalls Tryz.prog 40 #[.agg #[.int .i64 n3, .int .i64 n4, .slice a6 L4 C4], .agg #[.int .i64 0, .int .i64 0, .slice none 0 0]] h19 fun v15 h20 => ∃ r20 : Bool, v15 = .bool r20 ∧
  cond r20
  (cond (decide (r9 = 1))
  (HCalls Tryz.prog 49 #[.pointer none] h20 fun v16 h21 => ∃ r21 : Int, ∃ (r22 : Option Addr) (rL5 rC5 : Nat), v16 = .agg #[.int .i64 r21, .slice r22 rL5 rC5] ∧
  HCalls Tryz.prog 48 #[.agg #[.int .i64 r21, .slice r22 rL5 rC5], .agg #[.int .i64 0, .slice none 0 0]] h21 fun v17 h22 => ∃ r23 : Bool, v17 = .bool r23 ∧
  cond r23
  (cond (decide (r10 = 0))
  (K (.bool (decide (r11 = 1))) h22)
  (K (.bool false) h22))
  (K (.bool false) h22))
  (K (.bool false) h20))
  (K (.bool false) h20))
  (K (.bool false) h19))
  (K (.bool false) h18))
  (K (.bool false) h17))
  (K (.bool false) h16))
  (K (.bool false) h15))
  (K (.bool false) h14))
  (K (.bool false) h14))
  (K (.bool false) h14))
  (K (.bool false) h13))
  (K (.bool false) h12)) := by kernel_rfl
theorem l35_PartialretroNil_call {time : Int} {key : Int} {o_0 : Int} {o_1 : Option Addr} {o_1L : Nat} {o_1C : Nat} {h : Hp} {K : Value → Hp → Prop} (hk : l35_PartialretroNil_b0 time key o_0 o_1 o_1L o_1C h K) : HCalls Tryz.prog 7 #[.int .i64 time, .int .i64 key, .agg #[.int .i64 o_0, .slice o_1 o_1L o_1C]] h K :=
  calls_of_snd l35_PartialretroNil_an Tryz.func7 (c := bodyOf Tryz.f7) rfl Tryz.ntmps7 (Nat.le_of_ble_eq_true rfl) (snd_2 F_ok F_mixed) hk

/-! ### l35_awake -/
def l35_awake_an : Ann := .node none (.leaf) (.node none (.leaf) (.node (some [1]) (.leaf) (.node (some [1]) (.leaf) (.leaf))))
def l35_awake_K0  (K : Value → Hp → Prop) : Exit → Env → Hp → Prop := retK Tryz.prog Tryz.f9.results.toList K
def l35_awake_b0  (h : Hp)  (K : Value → Hp → Prop) : Prop :=
  sx_3 Tryz.prog F 79 (cp [] (bodyOf Tryz.f9)) (ap [] l35_awake_an) [] h (l35_awake_K0  K)
def l35_awake_b1 (q : Option Addr) (h : Hp)  (K : Value → Hp → Prop) : Prop :=
  sx_2 Tryz.prog F 79 (cp [1, 1, 1] (bodyOf Tryz.f9)) (ap [1, 1, 1] l35_awake_an) [(1, .pointer q)] h (l35_awake_K0  K)
def l35_awake_b2 (q : Option Addr) (h : Hp)  (K : Value → Hp → Prop) : Prop :=
  sx_1 Tryz.prog F 79 (cp [1, 1, 1, 1] (bodyOf Tryz.f9)) (ap [1, 1, 1, 1] l35_awake_an) [(1, .pointer q)] h (l35_awake_K0  K)
theorem l35_awake_b0_eq  (h : Hp)  (K : Value → Hp → Prop) : l35_awake_b0  h  K = (
  HCalls Tryz.prog 13 #[] h fun v1 h1 => ∃ r1 : Option Addr, v1 = .pointer r1 ∧
  cond r1.isNone
  (K (.bool false) h1)
  (HCalls Tryz.prog 20 #[.pointer r1, .int .i64 1, .int .i64 5] h1 fun v2 h2 => ∃ r2 : Int, v2 = .int .i64 r2 ∧
  cond (!decide (r2 = 0))
  (K (.bool false) h2)
  (HCalls Tryz.prog 20 #[.pointer r1, .int .i64 2, .int .i64 3] h2 fun v3 h3 => ∃ r3 : Int, v3 = .int .i64 r3 ∧
  cond (!decide (r3 = 0))
  (K (.bool false) h3)
  (HCalls Tryz.prog 20 #[.pointer r1, .int .i64 4, .int .i64 8] h3 fun v4 h4 => ∃ r4 : Int, v4 = .int .i64 r4 ∧
  cond (!decide (r4 = 0))
  (K (.bool false) h4)
  (HCalls Tryz.prog 25 #[.pointer r1, .int .i64 3] h4 fun v5 h5 => ∃ r5 : Int, v5 = .int .i64 r5 ∧
  cond (!decide (r5 = 0))
  (K (.bool false) h5)
  (HCalls Tryz.prog 25 #[.pointer r1, .int .i64 6] h5 fun v6 h6 => ∃ r6 : Int, v6 = .int .i64 r6 ∧
  cond (!decide (r6 = 0))
  (K (.bool false) h6)
  (l35_awake_b1 r1 h6  K))))))) := by kernel_rfl
theorem l35_awake_b1_eq (q : Option Addr) (h : Hp)  (K : Value → Hp → Prop) : l35_awake_b1 q h  K = (
  HCalls Tryz.prog 16 #[.pointer q] h fun v7 h7 => ∃ (r7 : Option Addr) (rL1 rC1 : Nat), v7 = .slice r7 rL1 rC1 ∧
  New h7 (.cells #[.int .i64 8] 3) fun b1 h8 =>
  HCalls Tryz.prog 22 #[.slice r7 rL1 rC1, .slice (some ⟨b1, 0, none⟩) 1 1] h8 fun v8 h9 => ∃ r8 : Bool, v8 = .bool r8 ∧
  cond (!r8)
  (K (.bool false) h9)
  (HCalls Tryz.prog 17 #[.pointer q] h9 fun v9 h10 => ∃ (r9 : Option Addr) (rL2 rC2 : Nat), v9 = .slice r9 rL2 rC2 ∧
  New h10 (.cells #[.int .i64 6] 3) fun b2 h11 =>
  HCalls Tryz.prog 22 #[.slice r9 rL2 rC2, .slice (some ⟨b2, 0, none⟩) 1 1] h11 fun v10 h12 => ∃ r10 : Bool, v10 = .bool r10 ∧
  cond (!r10)
  (K (.bool false) h12)
  (HCalls Tryz.prog 20 #[.pointer q, .int .i64 5, .int .i64 4] h12 fun v11 h13 => ∃ r11 : Int, v11 = .int .i64 r11 ∧
  cond (!decide (r11 = 0))
  (K (.bool false) h13)
  (l35_awake_b2 q h13  K)))) := by kernel_rfl
theorem l35_awake_b2_eq (q : Option Addr) (h : Hp)  (K : Value → Hp → Prop) : l35_awake_b2 q h  K = (
  HCalls Tryz.prog 34 #[.int .i64 1] h fun v12 h14 => ∃ r12 : Option Addr, ∃ r13 : Int, v12 = .tuple #[.pointer r12, .int .i64 r13] ∧
  HCalls Tryz.prog 16 #[.pointer q] h14 fun v13 h15 => ∃ (r14 : Option Addr) (rL3 rC3 : Nat), v13 = .slice r14 rL3 rC3 ∧
  New h15 (.cells #[.int .i64 5, .int .i64 8] 3) fun b3 h16 =>
  HCalls Tryz.prog 22 #[.slice r14 rL3 rC3, .slice (some ⟨b3, 0, none⟩) 2 2] h16 fun v14 h17 => ∃ r15 : Bool, v14 = .bool r15 ∧
  cond r15
  (cond (decide (r13 = 0))
  (cond (!r12.isNone)
  (New h17 (.cells #[.int .i64 1, .int .i64 2] 3) fun b4 h18 =>
  HCalls Tryz.prog 41 #[.pointer r12, .int .i64 3, .agg #[.int .i64 1, .slice (some ⟨b4, 0, none⟩) 2 2]] h18 fun v15 h19 => ∃ r16 : Int, v15 = .int .i64 r16 ∧
  cond (decide (r16 = 0))
  (New h19 (.cells #[.int .i64 1] 3) fun b5 h20 =>
  HCalls Tryz.prog 41 #[.pointer r12, .int .i64 2, .agg #[.int .i64 3, .slice (some ⟨b5, 0, none⟩) 1 1]] h20 fun v16 h21 => ∃ r17 : Int, v16 = .int .i64 r17 ∧
  K (.bool (decide (r17 = 13))) h21)
  (K (.bool false) h19))
  (K (.bool false) h17))
  (K (.bool false) h17))
  (K (.bool false) h17)) := by kernel_rfl
theorem l35_awake_call  {h : Hp} {K : Value → Hp → Prop} (hk : l35_awake_b0  h K) : HCalls Tryz.prog 9 #[] h K :=
  calls_of_snd l35_awake_an Tryz.func9 (c := bodyOf Tryz.f9) rfl Tryz.ntmps9 (Nat.le_of_ble_eq_true rfl) (snd_3 F_ok F_mixed) hk

/-! ### l35_few -/
def l35_few_an : Ann := .leaf
def l35_few_K0  (K : Value → Hp → Prop) : Exit → Env → Hp → Prop := retK Tryz.prog Tryz.f10.results.toList K
def l35_few_b0 (l : Option Addr) (lL : Nat) (lC : Nat) (h : Hp)  (K : Value → Hp → Prop) : Prop :=
  sx_1 Tryz.prog F 11 (cp [] (bodyOf Tryz.f10)) (ap [] l35_few_an) [(0, .slice l lL lC)] h (l35_few_K0  K)
theorem l35_few_b0_eq (l : Option Addr) (lL : Nat) (lC : Nat) (h : Hp)  (K : Value → Hp → Prop) : l35_few_b0 l lL lC h  K = (
  cond (decide ((lL : Int) ≤ 30))
  (HCalls Tryz.prog 54 #[.slice l lL lC, .func (.func 55) #[] #[]] h fun v1 h1 => ∃ r1 : Bool, v1 = .bool r1 ∧
  K (.bool (!r1)) h1)
  (K (.bool false) h)) := by kernel_rfl
theorem l35_few_call {l : Option Addr} {lL : Nat} {lC : Nat} {h : Hp} {K : Value → Hp → Prop} (hk : l35_few_b0 l lL lC h K) : HCalls Tryz.prog 10 #[.slice l lL lC] h K :=
  calls_of_snd l35_few_an Tryz.func10 (c := bodyOf Tryz.f10) rfl Tryz.ntmps10 (Nat.le_of_ble_eq_true rfl) (snd_1 F_ok F_mixed) hk

end Go.Proofs.YtdlkohenamlnaaaGreat
