/- Plain statements of what each block of code of this seat asks; printed by a program, checked by Lean. -/
import Derived.Test.YtllhdhpjgihjfaaGreatDoorSxHR
import Derived.Test.YtllhdhpjgihjfaaGreatDoorProg
import Derived.KernelRfl
namespace Go.Proofs.YtllhdhpjgihjfaaGreatDoor
open Go Go.Sx
abbrev OA := Option Addr
abbrev VK := Value → Hp → Prop
abbrev EK := Exit → Env → Hp → Prop
abbrev N0 := Ann.node none
theorem lb {n m : Nat} (h : Nat.ble n m = true) : n ≤ m := Nat.le_of_ble_eq_true h
abbrev moB (g : Nat) (ag : Array Value) (h : Hp) (u : OA) (w : Value) (K : VK) : Prop := yaah Tryz.prog g ag h fun v h1 => ∃ (r3 r4 : Int) (r5 : OA) (L2 C2 : Nat), v = .agg #[.int .i64 r3, .int .i64 r4, .slice r5 L2 C2] ∧ NN u fun b => Wr h1 b (.int .i64 r3) fun h4 => Wr h4 (b.add 1) (.int .i64 r4) fun h5 => Wr h5 (b.add 2) (.slice r5 L2 C2) fun h6 => NN u fun b => ∃ (r8 r9 : Int) (r10 : OA) (L4 C4 : Nat), cell h6 b = some (.int .i64 r8) ∧ cell h6 (b.add 1) = some (.int .i64 r9) ∧ cell h6 (b.add 2) = some (.slice r10 L4 C4) ∧ K (.tuple #[w, .agg #[.int .i64 r8, .int .i64 r9, .slice r10 L4 C4]]) h6
abbrev HC := yaah Tryz.prog
def F (g : Nat) : Bool := memL g [3,4,5,6,7,8,9,10,11,12,13,14,15,16,17,18,19,20,21,22,23,24,25,26,27,28,29,30,31,32,33,34,35,36,37,38,39,40,41,42,43,44,45,46,47,48,49,50,51,52,53,54,55,56,57,58,59,60,61,62,63,64,65,66,67,68,69,70,71,72,73,74,75,76,77,78,79,80,81,82,83,84,85,86,87,88,89,90,91,92,93,94,95,96,97,98,99,100,101,102,103,104,105,106,107,108,109,110,111,112,113,114,115,116,117,118,119,120,121,122,123,124,125,126,127,128,129,130,131,132,133,135,136,137,138,139,140,141,142,143,144,145,147,148,149,151,152,153,154,155,156,157,158,159,160,161,162,163,168,169,170,174,175,176,177]
theorem F_all : allL (yaiy Tryz.prog) [3,4,5,6,7,8,9,10,11,12,13,14,15,16,17,18,19,20,21,22,23,24,25,26,27,28,29,30,31,32,33,34,35,36,37,38,39,40,41,42,43,44,45,46,47,48,49,50,51,52,53,54,55,56,57,58,59,60,61,62,63,64,65,66,67,68,69,70,71,72,73,74,75,76,77,78,79,80,81,82,83,84,85,86,87,88,89,90,91,92,93,94,95,96,97,98,99,100,101,102,103,104,105,106,107,108,109,110,111,112,113,114,115,116,117,118,119,120,121,122,123,124,125,126,127,128,129,130,131,132,133,135,136,137,138,139,140,141,142,143,144,145,147,148,149,151,152,153,154,155,156,157,158,159,160,161,162,163,168,169,170,174,175,176,177] = true := by kernel_rfl
theorem F_ok : ∀ g, F g = true → yabb Tryz.prog g := fun g hg => yaie (yabd F_all g (yamn hg))
theorem yaad : Tryz.prog.follows .mixedOrders = true := by kernel_rfl
end Go.Proofs.YtllhdhpjgihjfaaGreatDoor
