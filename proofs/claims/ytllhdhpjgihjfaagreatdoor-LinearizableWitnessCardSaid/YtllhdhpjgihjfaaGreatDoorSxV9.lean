/- Plain statements of what each block of code of this seat asks; printed by a program, checked by Lean. -/
import Derived.Test.YtllhdhpjgihjfaaGreatDoorSxV0
set_option maxRecDepth 10000
namespace Go.Proofs.YtllhdhpjgihjfaaGreatDoor
open Go Go.Sx
def zcw_an : Ann := N0 .leaf (.node (some []) (N0 .leaf (.loop [0, 1, 2] [(7, .int .i64)] (N0 .leaf (.node (some [0, 1, 2, 7]) .leaf .leaf)))) .leaf)
def zcw_b2 (l : OA) (lL lC : Nat) (atv : Int) (p : OA) (pL pC : Nat) (i : Int) (h : Hp) (nx0 : Int × Unit → Hp → Prop) (K : VK) : Prop :=
 InR (i + 1) ∧ nx0 (i + 1, ()) h
def zcw_b3 (h : Hp) (K : VK) : Prop :=
 K (.bool true) h
def zcw_b1 (i : Int) (l : OA) (lL lC : Nat) (atv : Int) (p : OA) (pL pC : Nat) (h : Hp) (nx0 : Int × Unit → Hp → Prop) (K : VK) : Prop :=
 cond (decide (i < (pL : Int))) (InR (atv + i) ∧ cond (decide ((lL : Int) ≤ (atv + i))) (K (.bool false) h) (InR (atv + i) ∧ (0 ≤ atv + i ∧ atv + i < (lL : Int)) ∧ NN l fun a1 => ∃ n1, cell h (a1.add (Int.toNat (atv + i) * 1)) = some (.int .i64 n1) ∧ (0 ≤ i ∧ i < (pL : Int)) ∧ NN p fun a2 => ∃ n2, cell h (a2.add (Int.toNat i * 1)) = some (.int .i64 n2) ∧ cond (!decide (n1 = n2)) (K (.bool false) h) (zcw_b2 l lL lC atv p pL pC i h nx0 K))) (zcw_b3  h K)
def zcw_b0 (l : OA) (lL lC : Nat) (atv : Int) (p : OA) (pL pC : Nat) (h : Hp) (K : VK) : Prop :=
 yaaq ((0, ()) : Int × Unit) h (fun (nx0 : Int × Unit → Hp → Prop) (s1 : Int × Unit) h1 => zcw_b1 s1.1 l lL lC atv p pL pC h1 nx0 K)
theorem zcw_sx (l lL lC atv p pL pC h K) : zcw_b0 l lL lC atv p pL pC h K = sx_3 Tryz.prog F 33 (cp [] (yaab Tryz.f111)) (ap [] zcw_an) [(0, .slice l lL lC), (1, .int .i64 atv), (2, .slice p pL pC)] h (retK Tryz.prog Tryz.f111.results.toList K) := by kernel_rfl
theorem zcw_call {l lL lC atv p pL pC h K} (hk : zcw_b0 l lL lC atv p pL pC h K) : HC 111 #[.slice l lL lC, .int .i64 atv, .slice p pL pC] h K :=
 yaaa zcw_an Tryz.func111 (c := yaab Tryz.f111) rfl Tryz.ntmps111 (lb rfl) (snd_3 F_ok yaad) (Eq.mp (zcw_sx l lL lC atv p pL pC h K) hk)