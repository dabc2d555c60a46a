/- Part CK CI CJ CL of the proof: contracts of functions of the program, and what follows from them. -/
import Derived.Test.YtbhofnaipkkbeaaGreatDoorSxCH
import Derived.Laws.Strings
namespace Go.Sx
open Go
noncomputable section
inductive RO where
  | ok (v : Value)
  | er (e : List Nat)
abbrev Stk := List Value
abbrev KF := En → AH → CallC → RC
abbrev RF := Stk → En → AH → CallC → RC
abbrev VF := Stk → En → Value
abbrev PF := Stk → En → RO
abbrev OF := Stk → En → AH → CallC → RV
def toRO : RV → RO | .ok v _ => .ok v | .er l => .er l
def H00 : AH := ⟨0, eT Bk 6⟩
def arR : Int → RO := fun n => @Int.rec (fun _ => RO) (fun a => @Bool.rec (fun _ => Nat → RO) (fun _ => .er [40]) (fun a => .ok (.int .i64 (.ofNat a))) (Nat.ble a 9223372036854775807) a) (fun a => @Bool.rec (fun _ => Nat → RO) (fun _ => .er [40]) (fun a => .ok (.int .i64 (.negSucc a))) (Nat.ble a 9223372036854775807) a) n
def subN : Nat → Nat → Int := fun m n => @Nat.rec (fun _ => Nat → Nat → Int) (fun m n => .ofNat (Nat.sub m n)) (fun k _ _ _ => .negSucc k) (Nat.sub n m) m n
def iadd : Int → Int → Int := fun a b => @Int.rec (fun _ => Int → Int) (fun m b => @Int.rec (fun _ => Nat → Int) (fun n m => .ofNat (Nat.add m n)) (fun n m => subN m (Nat.succ n)) b m) (fun m b => @Int.rec (fun _ => Nat → Int) (fun n m => subN n (Nat.succ m)) (fun n m => .negSucc (Nat.succ (Nat.add m n))) b m) a b
def ineg : Int → Int := fun a => @Int.rec (fun _ => Int) (fun m => @Nat.rec (fun _ => Int) (.ofNat 0) (fun k _ => .negSucc k) m) (fun m => .ofNat (Nat.succ m)) a
def ilt : Int → Int → Bool := fun a b => @Int.rec (fun _ => Int → Bool) (fun m b => @Int.rec (fun _ => Nat → Bool) (fun n m => Nat.ble (Nat.succ m) n) (fun _ _ => false) b m) (fun m b => @Int.rec (fun _ => Nat → Bool) (fun _ _ => true) (fun n m => Nat.ble (Nat.succ n) m) b m) a b
def ieq : Int → Int → Bool := fun a b => @Int.rec (fun _ => Int → Bool) (fun m b => @Int.rec (fun _ => Nat → Bool) (fun n m => Nat.beq m n) (fun _ _ => false) b m) (fun m b => @Int.rec (fun _ => Nat → Bool) (fun _ _ => false) (fun n m => Nat.beq m n) b m) a b
def boolO : Bool → RO := fun b => .ok (.bool b)
def notO : Bool → RO := fun b => @Bool.rec (fun _ => RO) (.ok (.bool true)) (.ok (.bool false)) b
def addO : Value → Value → RO := fun x y => @Value.rec (fun _ => Value → RO) (fun _ => PUnit) (fun _ => PUnit) (fun _ => fun _ => .er [51]) (fun k a y => @Value.rec (fun _ => IntKind → Int → RO) (fun _ => PUnit) (fun _ => PUnit) (fun _ => fun _ _ => .er [51]) (fun k' b k a => @IntKind.rec (fun _ => IntKind → Int → Int → RO) (fun k' a b => toRO (intC .add .i8 k' a b H00)) (fun k' a b => toRO (intC .add .i16 k' a b H00)) (fun k' a b => toRO (intC .add .i32 k' a b H00)) (fun k' a b => @IntKind.rec (fun _ => Int → Int → RO) (fun _ _ => .er [45]) (fun _ _ => .er [45]) (fun _ _ => .er [45]) (fun a b => arR (iadd a b)) (fun _ _ => .er [45]) (fun _ _ => .er [45]) (fun _ _ => .er [45]) (fun _ _ => .er [45]) k' a b) (fun k' a b => toRO (intC .add .u8 k' a b H00)) (fun k' a b => toRO (intC .add .u16 k' a b H00)) (fun k' a b => toRO (intC .add .u32 k' a b H00)) (fun k' a b => toRO (intC .add .u64 k' a b H00)) k k' a b) (fun _ _ => fun _ _ => .er [51]) (fun _ _ _ => fun _ _ => .er [51]) (fun _ => fun _ _ => .er [51]) (fun _ => fun _ _ => .er [51]) (fun _ _ _ => fun _ _ => .er [51]) (fun _ => fun _ _ => .er [51]) (fun _ => fun _ _ => .er [51]) (fun _ _ _ _ _ => fun _ _ => .er [51]) (fun _ _ => .er [51]) (fun _ _ _ => fun _ _ => .er [51]) (fun _ _ => .er [51]) (fun _ _ => fun _ _ => .er [51]) (fun _ _ => fun _ _ => .er [51]) (fun _ _ => ⟨⟩) ⟨⟩ (fun _ _ _ _ => ⟨⟩) y k a) (fun _ _ => fun _ => .er [51]) (fun _ _ _ => fun _ => .er [51]) (fun _ => fun _ => .er [51]) (fun _ => fun _ => .er [51]) (fun _ _ _ => fun _ => .er [51]) (fun _ => fun _ => .er [51]) (fun _ => fun _ => .er [51]) (fun _ _ _ _ _ => fun _ => .er [51]) (fun _ => .er [51]) (fun _ _ _ => fun _ => .er [51]) (fun _ => .er [51]) (fun _ _ => fun _ => .er [51]) (fun _ _ => fun _ => .er [51]) (fun _ _ => ⟨⟩) ⟨⟩ (fun _ _ _ _ => ⟨⟩) x y
def subO : Value → Value → RO := fun x y => @Value.rec (fun _ => Value → RO) (fun _ => PUnit) (fun _ => PUnit) (fun _ => fun _ => .er [51]) (fun k a y => @Value.rec (fun _ => IntKind → Int → RO) (fun _ => PUnit) (fun _ => PUnit) (fun _ => fun _ _ => .er [51]) (fun k' b k a => @IntKind.rec (fun _ => IntKind → Int → Int → RO) (fun k' a b => toRO (intC .sub .i8 k' a b H00)) (fun k' a b => toRO (intC .sub .i16 k' a b H00)) (fun k' a b => toRO (intC .sub .i32 k' a b H00)) (fun k' a b => @IntKind.rec (fun _ => Int → Int → RO) (fun _ _ => .er [45]) (fun _ _ => .er [45]) (fun _ _ => .er [45]) (fun a b => arR (iadd a (ineg b))) (fun _ _ => .er [45]) (fun _ _ => .er [45]) (fun _ _ => .er [45]) (fun _ _ => .er [45]) k' a b) (fun k' a b => toRO (intC .sub .u8 k' a b H00)) (fun k' a b => toRO (intC .sub .u16 k' a b H00)) (fun k' a b => toRO (intC .sub .u32 k' a b H00)) (fun k' a b => toRO (intC .sub .u64 k' a b H00)) k k' a b) (fun _ _ => fun _ _ => .er [51]) (fun _ _ _ => fun _ _ => .er [51]) (fun _ => fun _ _ => .er [51]) (fun _ => fun _ _ => .er [51]) (fun _ _ _ => fun _ _ => .er [51]) (fun _ => fun _ _ => .er [51]) (fun _ => fun _ _ => .er [51]) (fun _ _ _ _ _ => fun _ _ => .er [51]) (fun _ _ => .er [51]) (fun _ _ _ => fun _ _ => .er [51]) (fun _ _ => .er [51]) (fun _ _ => fun _ _ => .er [51]) (fun _ _ => fun _ _ => .er [51]) (fun _ _ => ⟨⟩) ⟨⟩ (fun _ _ _ _ => ⟨⟩) y k a) (fun _ _ => fun _ => .er [51]) (fun _ _ _ => fun _ => .er [51]) (fun _ => fun _ => .er [51]) (fun _ => fun _ => .er [51]) (fun _ _ _ => fun _ => .er [51]) (fun _ => fun _ => .er [51]) (fun _ => fun _ => .er [51]) (fun _ _ _ _ _ => fun _ => .er [51]) (fun _ => .er [51]) (fun _ _ _ => fun _ => .er [51]) (fun _ => .er [51]) (fun _ _ => fun _ => .er [51]) (fun _ _ => fun _ => .er [51]) (fun _ _ => ⟨⟩) ⟨⟩ (fun _ _ _ _ => ⟨⟩) x y
def ltO : Value → Value → RO := fun x y => @Value.rec (fun _ => Value → RO) (fun _ => PUnit) (fun _ => PUnit) (fun _ => fun _ => .er [51]) (fun k a y => @Value.rec (fun _ => IntKind → Int → RO) (fun _ => PUnit) (fun _ => PUnit) (fun _ => fun _ _ => .er [51]) (fun k' b k a => @IntKind.rec (fun _ => IntKind → Int → Int → RO) (fun k' a b => toRO (intC .lss .i8 k' a b H00)) (fun k' a b => toRO (intC .lss .i16 k' a b H00)) (fun k' a b => @IntKind.rec (fun _ => Int → Int → RO) (fun _ _ => .er [45]) (fun _ _ => .er [45]) (fun a b => boolO (ilt a b)) (fun _ _ => .er [45]) (fun _ _ => .er [45]) (fun _ _ => .er [45]) (fun _ _ => .er [45]) (fun _ _ => .er [45]) k' a b) (fun k' a b => @IntKind.rec (fun _ => Int → Int → RO) (fun _ _ => .er [45]) (fun _ _ => .er [45]) (fun _ _ => .er [45]) (fun a b => boolO (ilt a b)) (fun _ _ => .er [45]) (fun _ _ => .er [45]) (fun _ _ => .er [45]) (fun _ _ => .er [45]) k' a b) (fun k' a b => @IntKind.rec (fun _ => Int → Int → RO) (fun _ _ => .er [45]) (fun _ _ => .er [45]) (fun _ _ => .er [45]) (fun _ _ => .er [45]) (fun a b => boolO (ilt a b)) (fun _ _ => .er [45]) (fun _ _ => .er [45]) (fun _ _ => .er [45]) k' a b) (fun k' a b => toRO (intC .lss .u16 k' a b H00)) (fun k' a b => toRO (intC .lss .u32 k' a b H00)) (fun k' a b => toRO (intC .lss .u64 k' a b H00)) k k' a b) (fun _ _ => fun _ _ => .er [51]) (fun _ _ _ => fun _ _ => .er [51]) (fun _ => fun _ _ => .er [51]) (fun _ => fun _ _ => .er [51]) (fun _ _ _ => fun _ _ => .er [51]) (fun _ => fun _ _ => .er [51]) (fun _ => fun _ _ => .er [51]) (fun _ _ _ _ _ => fun _ _ => .er [51]) (fun _ _ => .er [51]) (fun _ _ _ => fun _ _ => .er [51]) (fun _ _ => .er [51]) (fun _ _ => fun _ _ => .er [51]) (fun _ _ => fun _ _ => .er [51]) (fun _ _ => ⟨⟩) ⟨⟩ (fun _ _ _ _ => ⟨⟩) y k a) (fun _ _ => fun _ => .er [51]) (fun _ _ _ => fun _ => .er [51]) (fun _ => fun _ => .er [51]) (fun _ => fun _ => .er [51]) (fun _ _ _ => fun _ => .er [51]) (fun _ => fun _ => .er [51]) (fun _ => fun _ => .er [51]) (fun _ _ _ _ _ => fun _ => .er [51]) (fun _ => .er [51]) (fun _ _ _ => fun _ => .er [51]) (fun _ => .er [51]) (fun _ _ => fun _ => .er [51]) (fun _ _ => fun _ => .er [51]) (fun _ _ => ⟨⟩) ⟨⟩ (fun _ _ _ _ => ⟨⟩) x y
def leO : Value → Value → RO := fun x y => @Value.rec (fun _ => Value → RO) (fun _ => PUnit) (fun _ => PUnit) (fun _ => fun _ => .er [51]) (fun k a y => @Value.rec (fun _ => IntKind → Int → RO) (fun _ => PUnit) (fun _ => PUnit) (fun _ => fun _ _ => .er [51]) (fun k' b k a => @IntKind.rec (fun _ => IntKind → Int → Int → RO) (fun k' a b => toRO (intC .leq .i8 k' a b H00)) (fun k' a b => toRO (intC .leq .i16 k' a b H00)) (fun k' a b => @IntKind.rec (fun _ => Int → Int → RO) (fun _ _ => .er [45]) (fun _ _ => .er [45]) (fun a b => notO (ilt b a)) (fun _ _ => .er [45]) (fun _ _ => .er [45]) (fun _ _ => .er [45]) (fun _ _ => .er [45]) (fun _ _ => .er [45]) k' a b) (fun k' a b => @IntKind.rec (fun _ => Int → Int → RO) (fun _ _ => .er [45]) (fun _ _ => .er [45]) (fun _ _ => .er [45]) (fun a b => notO (ilt b a)) (fun _ _ => .er [45]) (fun _ _ => .er [45]) (fun _ _ => .er [45]) (fun _ _ => .er [45]) k' a b) (fun k' a b => @IntKind.rec (fun _ => Int → Int → RO) (fun _ _ => .er [45]) (fun _ _ => .er [45]) (fun _ _ => .er [45]) (fun _ _ => .er [45]) (fun a b => notO (ilt b a)) (fun _ _ => .er [45]) (fun _ _ => .er [45]) (fun _ _ => .er [45]) k' a b) (fun k' a b => toRO (intC .leq .u16 k' a b H00)) (fun k' a b => toRO (intC .leq .u32 k' a b H00)) (fun k' a b => toRO (intC .leq .u64 k' a b H00)) k k' a b) (fun _ _ => fun _ _ => .er [51]) (fun _ _ _ => fun _ _ => .er [51]) (fun _ => fun _ _ => .er [51]) (fun _ => fun _ _ => .er [51]) (fun _ _ _ => fun _ _ => .er [51]) (fun _ => fun _ _ => .er [51]) (fun _ => fun _ _ => .er [51]) (fun _ _ _ _ _ => fun _ _ => .er [51]) (fun _ _ => .er [51]) (fun _ _ _ => fun _ _ => .er [51]) (fun _ _ => .er [51]) (fun _ _ => fun _ _ => .er [51]) (fun _ _ => fun _ _ => .er [51]) (fun _ _ => ⟨⟩) ⟨⟩ (fun _ _ _ _ => ⟨⟩) y k a) (fun _ _ => fun _ => .er [51]) (fun _ _ _ => fun _ => .er [51]) (fun _ => fun _ => .er [51]) (fun _ => fun _ => .er [51]) (fun _ _ _ => fun _ => .er [51]) (fun _ => fun _ => .er [51]) (fun _ => fun _ => .er [51]) (fun _ _ _ _ _ => fun _ => .er [51]) (fun _ => .er [51]) (fun _ _ _ => fun _ => .er [51]) (fun _ => .er [51]) (fun _ _ => fun _ => .er [51]) (fun _ _ => fun _ => .er [51]) (fun _ _ => ⟨⟩) ⟨⟩ (fun _ _ _ _ => ⟨⟩) x y
def gtO : Value → Value → RO := fun x y => @Value.rec (fun _ => Value → RO) (fun _ => PUnit) (fun _ => PUnit) (fun _ => fun _ => .er [51]) (fun k a y => @Value.rec (fun _ => IntKind → Int → RO) (fun _ => PUnit) (fun _ => PUnit) (fun _ => fun _ _ => .er [51]) (fun k' b k a => @IntKind.rec (fun _ => IntKind → Int → Int → RO) (fun k' a b => toRO (intC .gtr .i8 k' a b H00)) (fun k' a b => toRO (intC .gtr .i16 k' a b H00)) (fun k' a b => @IntKind.rec (fun _ => Int → Int → RO) (fun _ _ => .er [45]) (fun _ _ => .er [45]) (fun a b => boolO (ilt b a)) (fun _ _ => .er [45]) (fun _ _ => .er [45]) (fun _ _ => .er [45]) (fun _ _ => .er [45]) (fun _ _ => .er [45]) k' a b) (fun k' a b => @IntKind.rec (fun _ => Int → Int → RO) (fun _ _ => .er [45]) (fun _ _ => .er [45]) (fun _ _ => .er [45]) (fun a b => boolO (ilt b a)) (fun _ _ => .er [45]) (fun _ _ => .er [45]) (fun _ _ => .er [45]) (fun _ _ => .er [45]) k' a b) (fun k' a b => @IntKind.rec (fun _ => Int → Int → RO) (fun _ _ => .er [45]) (fun _ _ => .er [45]) (fun _ _ => .er [45]) (fun _ _ => .er [45]) (fun a b => boolO (ilt b a)) (fun _ _ => .er [45]) (fun _ _ => .er [45]) (fun _ _ => .er [45]) k' a b) (fun k' a b => toRO (intC .gtr .u16 k' a b H00)) (fun k' a b => toRO (intC .gtr .u32 k' a b H00)) (fun k' a b => toRO (intC .gtr .u64 k' a b H00)) k k' a b) (fun _ _ => fun _ _ => .er [51]) (fun _ _ _ => fun _ _ => .er [51]) (fun _ => fun _ _ => .er [51]) (fun _ => fun _ _ => .er [51]) (fun _ _ _ => fun _ _ => .er [51]) (fun _ => fun _ _ => .er [51]) (fun _ => fun _ _ => .er [51]) (fun _ _ _ _ _ => fun _ _ => .er [51]) (fun _ _ => .er [51]) (fun _ _ _ => fun _ _ => .er [51]) (fun _ _ => .er [51]) (fun _ _ => fun _ _ => .er [51]) (fun _ _ => fun _ _ => .er [51]) (fun _ _ => ⟨⟩) ⟨⟩ (fun _ _ _ _ => ⟨⟩) y k a) (fun _ _ => fun _ => .er [51]) (fun _ _ _ => fun _ => .er [51]) (fun _ => fun _ => .er [51]) (fun _ => fun _ => .er [51]) (fun _ _ _ => fun _ => .er [51]) (fun _ => fun _ => .er [51]) (fun _ => fun _ => .er [51]) (fun _ _ _ _ _ => fun _ => .er [51]) (fun _ => .er [51]) (fun _ _ _ => fun _ => .er [51]) (fun _ => .er [51]) (fun _ _ => fun _ => .er [51]) (fun _ _ => fun _ => .er [51]) (fun _ _ => ⟨⟩) ⟨⟩ (fun _ _ _ _ => ⟨⟩) x y
def geO : Value → Value → RO := fun x y => @Value.rec (fun _ => Value → RO) (fun _ => PUnit) (fun _ => PUnit) (fun _ => fun _ => .er [51]) (fun k a y => @Value.rec (fun _ => IntKind → Int → RO) (fun _ => PUnit) (fun _ => PUnit) (fun _ => fun _ _ => .er [51]) (fun k' b k a => @IntKind.rec (fun _ => IntKind → Int → Int → RO) (fun k' a b => toRO (intC .geq .i8 k' a b H00)) (fun k' a b => toRO (intC .geq .i16 k' a b H00)) (fun k' a b => @IntKind.rec (fun _ => Int → Int → RO) (fun _ _ => .er [45]) (fun _ _ => .er [45]) (fun a b => notO (ilt a b)) (fun _ _ => .er [45]) (fun _ _ => .er [45]) (fun _ _ => .er [45]) (fun _ _ => .er [45]) (fun _ _ => .er [45]) k' a b) (fun k' a b => @IntKind.rec (fun _ => Int → Int → RO) (fun _ _ => .er [45]) (fun _ _ => .er [45]) (fun _ _ => .er [45]) (fun a b => notO (ilt a b)) (fun _ _ => .er [45]) (fun _ _ => .er [45]) (fun _ _ => .er [45]) (fun _ _ => .er [45]) k' a b) (fun k' a b => @IntKind.rec (fun _ => Int → Int → RO) (fun _ _ => .er [45]) (fun _ _ => .er [45]) (fun _ _ => .er [45]) (fun _ _ => .er [45]) (fun a b => notO (ilt a b)) (fun _ _ => .er [45]) (fun _ _ => .er [45]) (fun _ _ => .er [45]) k' a b) (fun k' a b => toRO (intC .geq .u16 k' a b H00)) (fun k' a b => toRO (intC .geq .u32 k' a b H00)) (fun k' a b => toRO (intC .geq .u64 k' a b H00)) k k' a b) (fun _ _ => fun _ _ => .er [51]) (fun _ _ _ => fun _ _ => .er [51]) (fun _ => fun _ _ => .er [51]) (fun _ => fun _ _ => .er [51]) (fun _ _ _ => fun _ _ => .er [51]) (fun _ => fun _ _ => .er [51]) (fun _ => fun _ _ => .er [51]) (fun _ _ _ _ _ => fun _ _ => .er [51]) (fun _ _ => .er [51]) (fun _ _ _ => fun _ _ => .er [51]) (fun _ _ => .er [51]) (fun _ _ => fun _ _ => .er [51]) (fun _ _ => fun _ _ => .er [51]) (fun _ _ => ⟨⟩) ⟨⟩ (fun _ _ _ _ => ⟨⟩) y k a) (fun _ _ => fun _ => .er [51]) (fun _ _ _ => fun _ => .er [51]) (fun _ => fun _ => .er [51]) (fun _ => fun _ => .er [51]) (fun _ _ _ => fun _ => .er [51]) (fun _ => fun _ => .er [51]) (fun _ => fun _ => .er [51]) (fun _ _ _ _ _ => fun _ => .er [51]) (fun _ => .er [51]) (fun _ _ _ => fun _ => .er [51]) (fun _ => .er [51]) (fun _ _ => fun _ => .er [51]) (fun _ _ => fun _ => .er [51]) (fun _ _ => ⟨⟩) ⟨⟩ (fun _ _ _ _ => ⟨⟩) x y
def eqS : List UInt8 → List UInt8 → Bool := fun a => @List.rec UInt8 (fun _ => List UInt8 → Bool) (fun b => @List.rec UInt8 (fun _ => Bool) true (fun _ _ _ => false) b)
  (fun x _ ih b => @List.rec UInt8 (fun _ => UInt8 → (List UInt8 → Bool) → Bool) (fun _ _ => false) (fun y r _ x ih => @Bool.rec (fun _ => List UInt8 → (List UInt8 → Bool) → Bool) (fun _ _ => false) (fun r ih => ih r) (Nat.beq (u8n x) (u8n y)) r ih) b x ih) a
def eqO : Value → Value → RO := fun x y => @Value.rec (fun _ => Value → RO) (fun _ => PUnit) (fun _ => PUnit) (fun _ => fun _ => .er [51]) (fun k a y => @Value.rec (fun _ => IntKind → Int → RO) (fun _ => PUnit) (fun _ => PUnit) (fun _ => fun _ _ => .er [51]) (fun k' b k a => @IntKind.rec (fun _ => IntKind → Int → Int → RO) (fun k' a b => @IntKind.rec (fun _ => Int → Int → RO) (fun a b => boolO (ieq a b)) (fun _ _ => .er [45]) (fun _ _ => .er [45]) (fun _ _ => .er [45]) (fun _ _ => .er [45]) (fun _ _ => .er [45]) (fun _ _ => .er [45]) (fun _ _ => .er [45]) k' a b) (fun k' a b => @IntKind.rec (fun _ => Int → Int → RO) (fun _ _ => .er [45]) (fun a b => boolO (ieq a b)) (fun _ _ => .er [45]) (fun _ _ => .er [45]) (fun _ _ => .er [45]) (fun _ _ => .er [45]) (fun _ _ => .er [45]) (fun _ _ => .er [45]) k' a b) (fun k' a b => @IntKind.rec (fun _ => Int → Int → RO) (fun _ _ => .er [45]) (fun _ _ => .er [45]) (fun a b => boolO (ieq a b)) (fun _ _ => .er [45]) (fun _ _ => .er [45]) (fun _ _ => .er [45]) (fun _ _ => .er [45]) (fun _ _ => .er [45]) k' a b) (fun k' a b => @IntKind.rec (fun _ => Int → Int → RO) (fun _ _ => .er [45]) (fun _ _ => .er [45]) (fun _ _ => .er [45]) (fun a b => boolO (ieq a b)) (fun _ _ => .er [45]) (fun _ _ => .er [45]) (fun _ _ => .er [45]) (fun _ _ => .er [45]) k' a b) (fun k' a b => @IntKind.rec (fun _ => Int → Int → RO) (fun _ _ => .er [45]) (fun _ _ => .er [45]) (fun _ _ => .er [45]) (fun _ _ => .er [45]) (fun a b => boolO (ieq a b)) (fun _ _ => .er [45]) (fun _ _ => .er [45]) (fun _ _ => .er [45]) k' a b) (fun k' a b => @IntKind.rec (fun _ => Int → Int → RO) (fun _ _ => .er [45]) (fun _ _ => .er [45]) (fun _ _ => .er [45]) (fun _ _ => .er [45]) (fun _ _ => .er [45]) (fun a b => boolO (ieq a b)) (fun _ _ => .er [45]) (fun _ _ => .er [45]) k' a b) (fun k' a b => @IntKind.rec (fun _ => Int → Int → RO) (fun _ _ => .er [45]) (fun _ _ => .er [45]) (fun _ _ => .er [45]) (fun _ _ => .er [45]) (fun _ _ => .er [45]) (fun _ _ => .er [45]) (fun a b => boolO (ieq a b)) (fun _ _ => .er [45]) k' a b) (fun k' a b => @IntKind.rec (fun _ => Int → Int → RO) (fun _ _ => .er [45]) (fun _ _ => .er [45]) (fun _ _ => .er [45]) (fun _ _ => .er [45]) (fun _ _ => .er [45]) (fun _ _ => .er [45]) (fun _ _ => .er [45]) (fun a b => boolO (ieq a b)) k' a b) k k' a b) (fun _ _ => fun _ _ => .er [51]) (fun _ _ _ => fun _ _ => .er [51]) (fun _ => fun _ _ => .er [51]) (fun _ => fun _ _ => .er [51]) (fun _ _ _ => fun _ _ => .er [51]) (fun _ => fun _ _ => .er [51]) (fun _ => fun _ _ => .er [51]) (fun _ _ _ _ _ => fun _ _ => .er [51]) (fun _ _ => .er [51]) (fun _ _ _ => fun _ _ => .er [51]) (fun _ _ => .er [51]) (fun _ _ => fun _ _ => .er [51]) (fun _ _ => fun _ _ => .er [51]) (fun _ _ => ⟨⟩) ⟨⟩ (fun _ _ _ _ => ⟨⟩) y k a) (fun _ _ => fun _ => .er [51]) (fun _ _ _ => fun _ => .er [51]) (fun a y => @Value.rec (fun _ => ByteArray → RO) (fun _ => PUnit) (fun _ => PUnit) (fun _ => fun _ => .er [51]) (fun _ _ => fun _ => .er [51]) (fun _ _ => fun _ => .er [51]) (fun _ _ _ => fun _ => .er [51]) (fun b a => boolO (eqS (bl a) (bl b))) (fun _ => fun _ => .er [51]) (fun _ _ _ => fun _ => .er [51]) (fun _ => fun _ => .er [51]) (fun _ => fun _ => .er [51]) (fun _ _ _ _ _ => fun _ => .er [51]) (fun _ => .er [51]) (fun _ _ _ => fun _ => .er [51]) (fun _ => .er [51]) (fun _ _ => fun _ => .er [51]) (fun _ _ => fun _ => .er [51]) (fun _ _ => ⟨⟩) ⟨⟩ (fun _ _ _ _ => ⟨⟩) y a) (fun _ => fun _ => .er [51]) (fun _ _ _ => fun _ => .er [51]) (fun _ => fun _ => .er [51]) (fun _ => fun _ => .er [51]) (fun _ _ _ _ _ => fun _ => .er [51]) (fun _ => .er [51]) (fun _ _ _ => fun _ => .er [51]) (fun _ => .er [51]) (fun _ _ => fun _ => .er [51]) (fun _ _ => fun _ => .er [51]) (fun _ _ => ⟨⟩) ⟨⟩ (fun _ _ _ _ => ⟨⟩) x y
def neO : Value → Value → RO := fun x y => @Value.rec (fun _ => Value → RO) (fun _ => PUnit) (fun _ => PUnit) (fun _ => fun _ => .er [51]) (fun k a y => @Value.rec (fun _ => IntKind → Int → RO) (fun _ => PUnit) (fun _ => PUnit) (fun _ => fun _ _ => .er [51]) (fun k' b k a => @IntKind.rec (fun _ => IntKind → Int → Int → RO) (fun k' a b => @IntKind.rec (fun _ => Int → Int → RO) (fun a b => notO (ieq a b)) (fun _ _ => .er [45]) (fun _ _ => .er [45]) (fun _ _ => .er [45]) (fun _ _ => .er [45]) (fun _ _ => .er [45]) (fun _ _ => .er [45]) (fun _ _ => .er [45]) k' a b) (fun k' a b => @IntKind.rec (fun _ => Int → Int → RO) (fun _ _ => .er [45]) (fun a b => notO (ieq a b)) (fun _ _ => .er [45]) (fun _ _ => .er [45]) (fun _ _ => .er [45]) (fun _ _ => .er [45]) (fun _ _ => .er [45]) (fun _ _ => .er [45]) k' a b) (fun k' a b => @IntKind.rec (fun _ => Int → Int → RO) (fun _ _ => .er [45]) (fun _ _ => .er [45]) (fun a b => notO (ieq a b)) (fun _ _ => .er [45]) (fun _ _ => .er [45]) (fun _ _ => .er [45]) (fun _ _ => .er [45]) (fun _ _ => .er [45]) k' a b) (fun k' a b => @IntKind.rec (fun _ => Int → Int → RO) (fun _ _ => .er [45]) (fun _ _ => .er [45]) (fun _ _ => .er [45]) (fun a b => notO (ieq a b)) (fun _ _ => .er [45]) (fun _ _ => .er [45]) (fun _ _ => .er [45]) (fun _ _ => .er [45]) k' a b) (fun k' a b => @IntKind.rec (fun _ => Int → Int → RO) (fun _ _ => .er [45]) (fun _ _ => .er [45]) (fun _ _ => .er [45]) (fun _ _ => .er [45]) (fun a b => notO (ieq a b)) (fun _ _ => .er [45]) (fun _ _ => .er [45]) (fun _ _ => .er [45]) k' a b) (fun k' a b => @IntKind.rec (fun _ => Int → Int → RO) (fun _ _ => .er [45]) (fun _ _ => .er [45]) (fun _ _ => .er [45]) (fun _ _ => .er [45]) (fun _ _ => .er [45]) (fun a b => notO (ieq a b)) (fun _ _ => .er [45]) (fun _ _ => .er [45]) k' a b) (fun k' a b => @IntKind.rec (fun _ => Int → Int → RO) (fun _ _ => .er [45]) (fun _ _ => .er [45]) (fun _ _ => .er [45]) (fun _ _ => .er [45]) (fun _ _ => .er [45]) (fun _ _ => .er [45]) (fun a b => notO (ieq a b)) (fun _ _ => .er [45]) k' a b) (fun k' a b => @IntKind.rec (fun _ => Int → Int → RO) (fun _ _ => .er [45]) (fun _ _ => .er [45]) (fun _ _ => .er [45]) (fun _ _ => .er [45]) (fun _ _ => .er [45]) (fun _ _ => .er [45]) (fun _ _ => .er [45]) (fun a b => notO (ieq a b)) k' a b) k k' a b) (fun _ _ => fun _ _ => .er [51]) (fun _ _ _ => fun _ _ => .er [51]) (fun _ => fun _ _ => .er [51]) (fun _ => fun _ _ => .er [51]) (fun _ _ _ => fun _ _ => .er [51]) (fun _ => fun _ _ => .er [51]) (fun _ => fun _ _ => .er [51]) (fun _ _ _ _ _ => fun _ _ => .er [51]) (fun _ _ => .er [51]) (fun _ _ _ => fun _ _ => .er [51]) (fun _ _ => .er [51]) (fun _ _ => fun _ _ => .er [51]) (fun _ _ => fun _ _ => .er [51]) (fun _ _ => ⟨⟩) ⟨⟩ (fun _ _ _ _ => ⟨⟩) y k a) (fun _ _ => fun _ => .er [51]) (fun _ _ _ => fun _ => .er [51]) (fun a y => @Value.rec (fun _ => ByteArray → RO) (fun _ => PUnit) (fun _ => PUnit) (fun _ => fun _ => .er [51]) (fun _ _ => fun _ => .er [51]) (fun _ _ => fun _ => .er [51]) (fun _ _ _ => fun _ => .er [51]) (fun b a => notO (eqS (bl a) (bl b))) (fun _ => fun _ => .er [51]) (fun _ _ _ => fun _ => .er [51]) (fun _ => fun _ => .er [51]) (fun _ => fun _ => .er [51]) (fun _ _ _ _ _ => fun _ => .er [51]) (fun _ => .er [51]) (fun _ _ _ => fun _ => .er [51]) (fun _ => .er [51]) (fun _ _ => fun _ => .er [51]) (fun _ _ => fun _ => .er [51]) (fun _ _ => ⟨⟩) ⟨⟩ (fun _ _ _ _ => ⟨⟩) y a) (fun _ => fun _ => .er [51]) (fun _ _ _ => fun _ => .er [51]) (fun _ => fun _ => .er [51]) (fun _ => fun _ => .er [51]) (fun _ _ _ _ _ => fun _ => .er [51]) (fun _ => .er [51]) (fun _ _ _ => fun _ => .er [51]) (fun _ => .er [51]) (fun _ _ => fun _ => .er [51]) (fun _ _ => fun _ => .er [51]) (fun _ _ => ⟨⟩) ⟨⟩ (fun _ _ _ _ => ⟨⟩) x y
def isIS (P : Program) (t : TypeId) : Bool := match P.underlying t with | some (.int _) => true | some .string => true | _ => false
def isI (P : Program) (t : TypeId) : Bool := match P.underlying t with | some (.int _) => true | _ => false
def binO (P : Program) (op : BinOp) (t : TypeId) : Bx (Value → Value → RO) :=
  match op with
  | .add => (match isI P t with | true => .mk addO | false => .mk fun x y => toRO (binC P .add t x y H00))
  | .sub => .mk subO
  | .lss => (match isI P t with | true => .mk ltO | false => .mk fun x y => toRO (binC P .lss t x y H00))
  | .leq => (match isI P t with | true => .mk leO | false => .mk fun x y => toRO (binC P .leq t x y H00))
  | .gtr => (match isI P t with | true => .mk gtO | false => .mk fun x y => toRO (binC P .gtr t x y H00))
  | .geq => (match isI P t with | true => .mk geO | false => .mk fun x y => toRO (binC P .geq t x y H00))
  | .eql => (match isIS P t with | true => .mk eqO | false => .mk fun x y => toRO (binC P .eql t x y H00))
  | .neq => (match isIS P t with | true => .mk neO | false => .mk fun x y => toRO (binC P .neq t x y H00))
  | op => .mk fun x y => toRO (binC P op t x y H00)
def nifE : Value → RO := fun x => @Value.rec (fun _ => RO) (fun _ => PUnit) (fun _ => PUnit) (fun _ => .er [52]) (fun _ _ => .er [52]) (fun _ _ => .er [52]) (fun _ _ _ => .er [52]) (fun _ => .er [52]) (fun _ => .er [52]) (fun _ _ _ => .er [52]) (fun _ => .er [52]) (fun _ => .er [52]) (fun _ _ _ _ _ => .er [52]) (.er [52]) (fun a0 a1 _ => (fun _ _ => boolO false) a0 a1) (boolO true) (fun _ _ => .er [52]) (fun _ _ => .er [52]) (fun _ _ => ⟨⟩) ⟨⟩ (fun _ _ _ _ => ⟨⟩) x
def nifN : Value → RO := fun x => @Value.rec (fun _ => RO) (fun _ => PUnit) (fun _ => PUnit) (fun _ => .er [52]) (fun _ _ => .er [52]) (fun _ _ => .er [52]) (fun _ _ _ => .er [52]) (fun _ => .er [52]) (fun _ => .er [52]) (fun _ _ _ => .er [52]) (fun _ => .er [52]) (fun _ => .er [52]) (fun _ _ _ _ _ => .er [52]) (.er [52]) (fun a0 a1 _ => (fun _ _ => boolO true) a0 a1) (boolO false) (fun _ _ => .er [52]) (fun _ _ => .er [52]) (fun _ _ => ⟨⟩) ⟨⟩ (fun _ _ _ _ => ⟨⟩) x
def isIfT (P : Program) (t : TypeId) : Bool := match P.underlying t with | some (.interface _) => true | _ => false
def notF : Value → RO := fun x => @Value.rec (fun _ => RO) (fun _ => PUnit) (fun _ => PUnit) (notO) (fun _ _ => .er [52]) (fun _ _ => .er [52]) (fun _ _ _ => .er [52]) (fun _ => .er [52]) (fun _ => .er [52]) (fun _ _ _ => .er [52]) (fun _ => .er [52]) (fun _ => .er [52]) (fun _ _ _ _ _ => .er [52]) (.er [52]) (fun _ _ _ => .er [52]) (.er [52]) (fun _ _ => .er [52]) (fun _ _ => .er [52]) (fun _ _ => ⟨⟩) ⟨⟩ (fun _ _ _ _ => ⟨⟩) x
def nilF : Value → RO := fun x => @Value.rec (fun _ => RO) (fun _ => PUnit) (fun _ => PUnit) (fun _ => .er [112]) (fun _ _ => .er [112]) (fun _ _ => .er [112]) (fun _ _ _ => .er [112]) (fun _ => .er [112]) (fun p => @Option.rec Addr (fun _ => RO) (.er [111]) (fun a => .ok (.pointer (some a))) p) (fun _ _ _ => .er [112]) (fun _ => .er [112]) (fun _ => .er [112]) (fun a0 a1 a2 _ _ => (fun fn a b => @Fn.rec (fun _ => Array Value → Array Value → RO) (fun f a b => .ok (.func (.func f) a b)) (fun _ _ _ => .er [112]) (fun _ _ _ _ => .er [112]) (fun _ _ _ _ _ _ => .er [112]) (fun _ _ _ => .er [112]) fn a b) a0 a1 a2) (.er [112]) (fun _ _ _ => .er [112]) (.er [112]) (fun _ _ => .er [112]) (fun _ _ => .er [112]) (fun _ _ => ⟨⟩) ⟨⟩ (fun _ _ _ _ => ⟨⟩) x
def fldF : Value → Nat → RO := fun x => @Value.rec (fun _ => Nat → RO) (fun _ => PUnit) (fun _ => PUnit) (fun _ => fun _ => .er [116]) (fun _ _ => fun _ => .er [116]) (fun _ _ => fun _ => .er [116]) (fun _ _ _ => fun _ => .er [116]) (fun _ => fun _ => .er [116]) (fun p => @Option.rec Addr (fun _ => Nat → RO) (fun _ => .er [116]) (fun a n => .ok (.pointer (some (addA a n)))) p) (fun _ _ _ => fun _ => .er [116]) (fun _ => fun _ => .er [116]) (fun _ => fun _ => .er [116]) (fun _ _ _ _ _ => fun _ => .er [116]) (fun _ => .er [116]) (fun _ _ _ => fun _ => .er [116]) (fun _ => .er [116]) (fun _ _ => fun _ => .er [116]) (fun _ _ => fun _ => .er [116]) (fun _ _ => ⟨⟩) ⟨⟩ (fun _ _ _ _ => ⟨⟩) x
def ixS : Value → Value → Nat → RO := fun x i => @Value.rec (fun _ => Value → Nat → RO) (fun _ => PUnit) (fun _ => PUnit) (fun _ => fun _ _ => .er [62]) (fun _ _ => fun _ _ => .er [62]) (fun _ _ => fun _ _ => .er [62]) (fun _ _ _ => fun _ _ => .er [62]) (fun _ => fun _ _ => .er [62]) (fun _ => fun _ _ => .er [62]) (fun p n _ i sz => @Option.rec Addr (fun _ => Nat → Value → Nat → RO) (fun _ _ _ => .er [62]) (fun a n i sz => @Value.rec (fun _ => Addr → Nat → Nat → RO) (fun _ => PUnit) (fun _ => PUnit) (fun _ => fun _ _ _ => .er [63]) (fun _ m a n sz => @Int.rec (fun _ => Addr → Nat → Nat → RO) (fun m a n sz => @Bool.rec (fun _ => Nat → Addr → Nat → RO) (fun _ _ _ => .er [58]) (fun m a sz => .ok (.pointer (some (addA a (Nat.mul m sz))))) (Nat.ble (Nat.succ m) n) m a sz) (fun _ _ _ _ => .er [57]) m a n sz) (fun _ _ => fun _ _ _ => .er [63]) (fun _ _ _ => fun _ _ _ => .er [63]) (fun _ => fun _ _ _ => .er [63]) (fun _ => fun _ _ _ => .er [63]) (fun _ _ _ => fun _ _ _ => .er [63]) (fun _ => fun _ _ _ => .er [63]) (fun _ => fun _ _ _ => .er [63]) (fun _ _ _ _ _ => fun _ _ _ => .er [63]) (fun _ _ _ => .er [63]) (fun _ _ _ => fun _ _ _ => .er [63]) (fun _ _ _ => .er [63]) (fun _ _ => fun _ _ _ => .er [63]) (fun _ _ => fun _ _ _ => .er [63]) (fun _ _ => ⟨⟩) ⟨⟩ (fun _ _ _ _ => ⟨⟩) i a n sz) p n i sz) (fun _ => fun _ _ => .er [62]) (fun _ => fun _ _ => .er [62]) (fun _ _ _ _ _ => fun _ _ => .er [62]) (fun _ _ => .er [62]) (fun _ _ _ => fun _ _ => .er [62]) (fun _ _ => .er [62]) (fun _ _ => fun _ _ => .er [62]) (fun _ _ => fun _ _ => .er [62]) (fun _ _ => ⟨⟩) ⟨⟩ (fun _ _ _ _ => ⟨⟩) x i
def lenL : List UInt8 → Nat := fun l => @List.rec UInt8 (fun _ => Nat) 0 (fun _ _ ih => Nat.succ ih) l
def lenS : Value → RO := fun x => @Value.rec (fun _ => RO) (fun _ => PUnit) (fun _ => PUnit) (fun _ => .er [81]) (fun _ _ => .er [81]) (fun _ _ => .er [81]) (fun _ _ _ => .er [81]) (fun s => .ok (.int .i64 (.ofNat (lenL (bl s))))) (fun _ => .er [81]) (fun _ _ _ => .er [81]) (fun _ => .er [81]) (fun _ => .er [81]) (fun _ _ _ _ _ => .er [81]) (.er [81]) (fun _ _ _ => .er [81]) (.er [81]) (fun _ _ => .er [81]) (fun _ _ => .er [81]) (fun _ _ => ⟨⟩) ⟨⟩ (fun _ _ _ _ => ⟨⟩) x
def lenV' : Value → RO := fun x => @Value.rec (fun _ => RO) (fun _ => PUnit) (fun _ => PUnit) (fun _ => .er [82]) (fun _ _ => .er [82]) (fun _ _ => .er [82]) (fun _ _ _ => .er [82]) (fun _ => .er [82]) (fun _ => .er [82]) (fun _ n _ => .ok (.int .i64 (.ofNat n))) (fun _ => .er [82]) (fun _ => .er [82]) (fun _ _ _ _ _ => .er [82]) (.er [82]) (fun _ _ _ => .er [82]) (.er [82]) (fun _ _ => .er [82]) (fun _ _ => .er [82]) (fun _ _ => ⟨⟩) ⟨⟩ (fun _ _ _ _ => ⟨⟩) x
def strW : List UInt8 → Nat → TT UInt8 4 → TT UInt8 4
  | [], _, t => t
  | b :: r, i, t => strW r (i + 1) (TT.set t i (some b))
def strT (s : ByteArray) : TT UInt8 4 := strW (bl s) 0 (eT UInt8 4)
def nthB (l : List UInt8) : Nat → Option UInt8 := @List.rec UInt8 (fun _ => Nat → Option UInt8) (fun _ => none) (fun v _ ih i => @Nat.rec (fun _ => UInt8 → (Nat → Option UInt8) → Option UInt8) (fun v _ => some v) (fun i _ _ ih => ih i) i v ih) l
def byteO (o : Option UInt8) : RO := @Option.rec UInt8 (fun _ => RO) (.er [65]) (fun b => .ok (.int .u8 (.ofNat (u8n b)))) o
def ixStr : Value → Value → RO := fun x i => @Value.rec (fun _ => Value → RO) (fun _ => PUnit) (fun _ => PUnit) (fun _ => fun _ => .er [69]) (fun _ _ => fun _ => .er [69]) (fun _ _ => fun _ => .er [69]) (fun _ _ _ => fun _ => .er [69]) (fun s i => @Value.rec (fun _ => ByteArray → RO) (fun _ => PUnit) (fun _ => PUnit) (fun _ => fun _ => .er [70]) (fun _ m s => @Int.rec (fun _ => ByteArray → RO) (fun m s => @Bool.rec (fun _ => ByteArray → Nat → RO) (fun s m => byteO (TT.get (strT s) m)) (fun s m => byteO (nthB (bl s) m)) (Nat.ble m 12) s m) (fun _ _ => .er [64]) m s) (fun _ _ => fun _ => .er [70]) (fun _ _ _ => fun _ => .er [70]) (fun _ => fun _ => .er [70]) (fun _ => fun _ => .er [70]) (fun _ _ _ => fun _ => .er [70]) (fun _ => fun _ => .er [70]) (fun _ => fun _ => .er [70]) (fun _ _ _ _ _ => fun _ => .er [70]) (fun _ => .er [70]) (fun _ _ _ => fun _ => .er [70]) (fun _ => .er [70]) (fun _ _ => fun _ => .er [70]) (fun _ _ => fun _ => .er [70]) (fun _ _ => ⟨⟩) ⟨⟩ (fun _ _ _ _ => ⟨⟩) i s) (fun _ => fun _ => .er [69]) (fun _ _ _ => fun _ => .er [69]) (fun _ => fun _ => .er [69]) (fun _ => fun _ => .er [69]) (fun _ _ _ _ _ => fun _ => .er [69]) (fun _ => .er [69]) (fun _ _ _ => fun _ => .er [69]) (fun _ => .er [69]) (fun _ _ => fun _ => .er [69]) (fun _ _ => fun _ => .er [69]) (fun _ _ => ⟨⟩) ⟨⟩ (fun _ _ _ _ => ⟨⟩) x i
def fldV : Nat → Value → RO := fun o x => @Value.rec (fun _ => Nat → RO) (fun _ => PUnit) (fun _ => PUnit) (fun _ => fun _ => .er [118]) (fun _ _ => fun _ => .er [118]) (fun _ _ => fun _ => .er [118]) (fun _ _ _ => fun _ => .er [118]) (fun _ => fun _ => .er [118]) (fun _ => fun _ => .er [118]) (fun _ _ _ => fun _ => .er [118]) (fun _ => fun _ => .er [118]) (fun _ => fun _ => .er [118]) (fun _ _ _ _ _ => fun _ => .er [118]) (fun _ => .er [118]) (fun _ _ _ => fun _ => .er [118]) (fun _ => .er [118]) (fun a0 _ => (fun cs o => @Option.rec Value (fun _ => RO) (.er [55]) (fun v => .ok v) (nthR cs.toList o)) a0) (fun _ _ => fun _ => .er [118]) (fun _ _ => ⟨⟩) ⟨⟩ (fun _ _ _ _ => ⟨⟩) x o
def fldL : Nat → Nat → Value → RO := fun o n x => @Value.rec (fun _ => Nat → Nat → RO) (fun _ => PUnit) (fun _ => PUnit) (fun _ => fun _ _ => .er [118]) (fun _ _ => fun _ _ => .er [118]) (fun _ _ => fun _ _ => .er [118]) (fun _ _ _ => fun _ _ => .er [118]) (fun _ => fun _ _ => .er [118]) (fun _ => fun _ _ => .er [118]) (fun _ _ _ => fun _ _ => .er [118]) (fun _ => fun _ _ => .er [118]) (fun _ => fun _ _ => .er [118]) (fun _ _ _ _ _ => fun _ _ => .er [118]) (fun _ _ => .er [118]) (fun _ _ _ => fun _ _ => .er [118]) (fun _ _ => .er [118]) (fun a0 _ => (fun cs o n => @Option.rec (List Value) (fun _ => RO) (.er [55]) (fun v => .ok (.agg ⟨v⟩)) (tkR n (drpR cs.toList o))) a0) (fun _ _ => fun _ _ => .er [118]) (fun _ _ => ⟨⟩) ⟨⟩ (fun _ _ _ _ => ⟨⟩) x o n
def ixA1 : Nat → Nat → Value → Value → RO := fun n sz x i => @Value.rec (fun _ => Value → Nat → Nat → RO) (fun _ => PUnit) (fun _ => PUnit) (fun _ => fun _ _ _ => .er [69]) (fun _ _ => fun _ _ _ => .er [69]) (fun _ _ => fun _ _ _ => .er [69]) (fun _ _ _ => fun _ _ _ => .er [69]) (fun _ => fun _ _ _ => .er [69]) (fun _ => fun _ _ _ => .er [69]) (fun _ _ _ => fun _ _ _ => .er [69]) (fun _ => fun _ _ _ => .er [69]) (fun _ => fun _ _ _ => .er [69]) (fun _ _ _ _ _ => fun _ _ _ => .er [69]) (fun _ _ _ => .er [69]) (fun _ _ _ => fun _ _ _ => .er [69]) (fun _ _ _ => .er [69]) (fun a0 _ => (fun cs i n sz => @Value.rec (fun _ => Array Value → Nat → Nat → RO) (fun _ => PUnit) (fun _ => PUnit) (fun _ => fun _ _ _ => .er [70]) (fun _ m cs n sz => @Int.rec (fun _ => Array Value → Nat → Nat → RO) (fun m cs n sz => @Bool.rec (fun _ => Nat → Array Value → Nat → RO) (fun _ _ _ => .er [67]) (fun m cs sz => @Option.rec Value (fun _ => RO) (.er [55]) (fun v => .ok v) (nthR cs.toList (Nat.mul m sz))) (Nat.ble (Nat.succ m) n) m cs sz) (fun _ _ _ _ => .er [64]) m cs n sz) (fun _ _ => fun _ _ _ => .er [70]) (fun _ _ _ => fun _ _ _ => .er [70]) (fun _ => fun _ _ _ => .er [70]) (fun _ => fun _ _ _ => .er [70]) (fun _ _ _ => fun _ _ _ => .er [70]) (fun _ => fun _ _ _ => .er [70]) (fun _ => fun _ _ _ => .er [70]) (fun _ _ _ _ _ => fun _ _ _ => .er [70]) (fun _ _ _ => .er [70]) (fun _ _ _ => fun _ _ _ => .er [70]) (fun _ _ _ => .er [70]) (fun _ _ => fun _ _ _ => .er [70]) (fun _ _ => fun _ _ _ => .er [70]) (fun _ _ => ⟨⟩) ⟨⟩ (fun _ _ _ _ => ⟨⟩) i cs n sz) a0) (fun _ _ => fun _ _ _ => .er [69]) (fun _ _ => ⟨⟩) ⟨⟩ (fun _ _ _ _ => ⟨⟩) x i n sz
def ixAL : Nat → Nat → Value → Value → RO := fun n sz x i => @Value.rec (fun _ => Value → Nat → Nat → RO) (fun _ => PUnit) (fun _ => PUnit) (fun _ => fun _ _ _ => .er [69]) (fun _ _ => fun _ _ _ => .er [69]) (fun _ _ => fun _ _ _ => .er [69]) (fun _ _ _ => fun _ _ _ => .er [69]) (fun _ => fun _ _ _ => .er [69]) (fun _ => fun _ _ _ => .er [69]) (fun _ _ _ => fun _ _ _ => .er [69]) (fun _ => fun _ _ _ => .er [69]) (fun _ => fun _ _ _ => .er [69]) (fun _ _ _ _ _ => fun _ _ _ => .er [69]) (fun _ _ _ => .er [69]) (fun _ _ _ => fun _ _ _ => .er [69]) (fun _ _ _ => .er [69]) (fun a0 _ => (fun cs i n sz => @Value.rec (fun _ => Array Value → Nat → Nat → RO) (fun _ => PUnit) (fun _ => PUnit) (fun _ => fun _ _ _ => .er [70]) (fun _ m cs n sz => @Int.rec (fun _ => Array Value → Nat → Nat → RO) (fun m cs n sz => @Bool.rec (fun _ => Nat → Array Value → Nat → RO) (fun _ _ _ => .er [67]) (fun m cs sz => @Option.rec (List Value) (fun _ => RO) (.er [55]) (fun v => .ok (.agg ⟨v⟩)) (tkR sz (drpR cs.toList (Nat.mul m sz)))) (Nat.ble (Nat.succ m) n) m cs sz) (fun _ _ _ _ => .er [64]) m cs n sz) (fun _ _ => fun _ _ _ => .er [70]) (fun _ _ _ => fun _ _ _ => .er [70]) (fun _ => fun _ _ _ => .er [70]) (fun _ => fun _ _ _ => .er [70]) (fun _ _ _ => fun _ _ _ => .er [70]) (fun _ => fun _ _ _ => .er [70]) (fun _ => fun _ _ _ => .er [70]) (fun _ _ _ _ _ => fun _ _ _ => .er [70]) (fun _ _ _ => .er [70]) (fun _ _ _ => fun _ _ _ => .er [70]) (fun _ _ _ => .er [70]) (fun _ _ => fun _ _ _ => .er [70]) (fun _ _ => fun _ _ _ => .er [70]) (fun _ _ => ⟨⟩) ⟨⟩ (fun _ _ _ _ => ⟨⟩) i cs n sz) a0) (fun _ _ => fun _ _ _ => .er [69]) (fun _ _ => ⟨⟩) ⟨⟩ (fun _ _ _ _ => ⟨⟩) x i n sz
def extF : Value → Nat → RO := fun x i => @Value.rec (fun _ => Nat → RO) (fun _ => PUnit) (fun _ => PUnit) (fun _ => fun _ => .er [121]) (fun _ _ => fun _ => .er [121]) (fun _ _ => fun _ => .er [121]) (fun _ _ _ => fun _ => .er [121]) (fun _ => fun _ => .er [121]) (fun _ => fun _ => .er [121]) (fun _ _ _ => fun _ => .er [121]) (fun _ => fun _ => .er [121]) (fun _ => fun _ => .er [121]) (fun _ _ _ _ _ => fun _ => .er [121]) (fun _ => .er [121]) (fun _ _ _ => fun _ => .er [121]) (fun _ => .er [121]) (fun _ _ => fun _ => .er [121]) (fun a0 _ => (fun vs i => @Option.rec Value (fun _ => RO) (.er [120]) (fun v => .ok v) (nthR vs.toList i)) a0) (fun _ _ => ⟨⟩) ⟨⟩ (fun _ _ _ _ => ⟨⟩) x i
def pickF : Value → Value → Value → RO := fun c a b => @Value.rec (fun _ => Value → Value → RO) (fun _ => PUnit) (fun _ => PUnit) (fun t => @Bool.rec (fun _ => Value → Value → RO) (fun _ b => .ok b) (fun a _ => .ok a) t) (fun _ _ => fun _ _ => .er [110]) (fun _ _ => fun _ _ => .er [110]) (fun _ _ _ => fun _ _ => .er [110]) (fun _ => fun _ _ => .er [110]) (fun _ => fun _ _ => .er [110]) (fun _ _ _ => fun _ _ => .er [110]) (fun _ => fun _ _ => .er [110]) (fun _ => fun _ _ => .er [110]) (fun _ _ _ _ _ => fun _ _ => .er [110]) (fun _ _ => .er [110]) (fun _ _ _ => fun _ _ => .er [110]) (fun _ _ => .er [110]) (fun _ _ => fun _ _ => .er [110]) (fun _ _ => fun _ _ => .er [110]) (fun _ _ => ⟨⟩) ⟨⟩ (fun _ _ _ _ => ⟨⟩) c a b
def cvtI : IntKind → Value → RO := fun k x => @Value.rec (fun _ => IntKind → RO) (fun _ => PUnit) (fun _ => PUnit) (fun _ => fun _ => .er [54]) (fun _ n k => @IntKind.rec (fun _ => Int → RO) (fun n => .ok (.int .i8 (IntKind.wrap .i8 n))) (fun n => .ok (.int .i16 (IntKind.wrap .i16 n))) (fun n => .ok (.int .i32 (IntKind.wrap .i32 n))) (arR) (fun n => .ok (.int .u8 (IntKind.wrap .u8 n))) (fun n => .ok (.int .u16 (IntKind.wrap .u16 n))) (fun n => .ok (.int .u32 (IntKind.wrap .u32 n))) (fun n => .ok (.int .u64 (IntKind.wrap .u64 n))) k n) (fun _ _ => fun _ => .er [54]) (fun _ _ _ => fun _ => .er [54]) (fun _ => fun _ => .er [54]) (fun _ => fun _ => .er [54]) (fun _ _ _ => fun _ => .er [54]) (fun _ => fun _ => .er [54]) (fun _ => fun _ => .er [54]) (fun _ _ _ _ _ => fun _ => .er [54]) (fun _ => .er [54]) (fun _ _ _ => fun _ => .er [54]) (fun _ => .er [54]) (fun _ _ => fun _ => .er [54]) (fun _ _ => fun _ => .er [54]) (fun _ _ => ⟨⟩) ⟨⟩ (fun _ _ _ _ => ⟨⟩) x k
def byV (l : List UInt8) : List Value := @List.rec UInt8 (fun _ => List Value) [] (fun b _ ih => .int .u8 (.ofNat (u8n b)) :: ih) l
def drpB (l : List UInt8) (i : Nat) : List UInt8 := @Nat.rec (fun _ => List UInt8 → List UInt8) (fun l => l) (fun _ ih l => @List.rec UInt8 (fun _ => (List UInt8 → List UInt8) → List UInt8) (fun _ => []) (fun _ r _ ih => ih r) l ih) i l
def chkB (l : List UInt8) : Nat → List UInt8 := @Nat.rec (fun _ => List UInt8) l (fun _ ih => drpB ih 16)
def drpF (l : List UInt8) (i : Nat) : List UInt8 := drpB (frc _ (chkB l) (Nat.div i 16)) (Nat.mod i 16)
def tkB (n : Nat) (l : List UInt8) : List UInt8 := @Nat.rec (fun _ => List UInt8 → List UInt8) (fun _ => []) (fun _ ih l => @List.rec UInt8 (fun _ => (List UInt8 → List UInt8) → List UInt8) (fun _ => []) (fun v r _ ih => v :: ih r) l ih) n l
def nOpt (o : Option Value) (d : Nat) (k : Nat → RV) : RV := @Option.rec Value (fun _ => Nat → (Nat → RV) → RV) (fun d k => k d) (fun v _ k => @Value.rec (fun _ => (Nat → RV) → RV) (fun _ => PUnit) (fun _ => PUnit) (fun _ => fun _ => .er [71]) (fun _ m k => @Int.rec (fun _ => (Nat → RV) → RV) (fun m k => k m) (fun _ _ => .er [72]) m k) (fun _ _ => fun _ => .er [71]) (fun _ _ _ => fun _ => .er [71]) (fun _ => fun _ => .er [71]) (fun _ => fun _ => .er [71]) (fun _ _ _ => fun _ => .er [71]) (fun _ => fun _ => .er [71]) (fun _ => fun _ => .er [71]) (fun _ _ _ _ _ => fun _ => .er [71]) (fun _ => .er [71]) (fun _ _ _ => fun _ => .er [71]) (fun _ => .er [71]) (fun _ _ => fun _ => .er [71]) (fun _ _ => fun _ => .er [71]) (fun _ _ => ⟨⟩) ⟨⟩ (fun _ _ _ _ => ⟨⟩) v k) o d k
def slcS (x : Value) (lo hi : Option Value) (H : AH) : RV := @Value.rec (fun _ => Option Value → Option Value → AH → RV) (fun _ => PUnit) (fun _ => PUnit) (fun _ => fun _ _ _ => .er [73]) (fun _ _ => fun _ _ _ => .er [73]) (fun _ _ => fun _ _ _ => .er [73]) (fun _ _ _ => fun _ _ _ => .er [73]) (fun s lo hi H => @Option.rec Value (fun _ => ByteArray → Option Value → AH → RV) (fun s lo H => nOpt lo 0 fun a => @Bool.rec (fun _ => RV) (.er [74]) (.ok (.string ⟨⟨drpF (bl s) a⟩⟩) H) (Nat.ble a (lenL (bl s)))) (fun hi s lo H => nOpt (some hi) 0 fun b => nOpt lo 0 fun a => @Bool.rec (fun _ => RV) (.er [74]) (.ok (.string ⟨⟨tkB (Nat.sub b a) (drpF (bl s) a)⟩⟩) H) (andR (Nat.ble a b) (Nat.ble b (lenL (bl s))))) hi s lo H) (fun _ => fun _ _ _ => .er [73]) (fun _ _ _ => fun _ _ _ => .er [73]) (fun _ => fun _ _ _ => .er [73]) (fun _ => fun _ _ _ => .er [73]) (fun _ _ _ _ _ => fun _ _ _ => .er [73]) (fun _ _ _ => .er [73]) (fun _ _ _ => fun _ _ _ => .er [73]) (fun _ _ _ => .er [73]) (fun _ _ => fun _ _ _ => .er [73]) (fun _ _ => fun _ _ _ => .er [73]) (fun _ _ => ⟨⟩) ⟨⟩ (fun _ _ _ _ => ⟨⟩) x lo hi H
def bldO (o : Option (List Value)) : RO := @Option.rec (List Value) (fun _ => RO) (.er [90]) (fun cs => .ok (.agg ⟨cs⟩)) o
def bldS (len sz : Nat) (e : TypeId) (o : Option (List Value)) (H : AH) : RV := @Option.rec (List Value) (fun _ => Nat → Nat → TypeId → AH → RV) (fun _ _ _ _ => .er [91]) (fun cs len sz e H => newC sz e cs H (slX len (capX len))) o len sz e H
inductive Loc where
  | st (i : Nat)
  | en (x : Nat)
  | no
structure Lay where
  h : Nat
  l : List (Nat × Loc)
def posL : List (Nat × Loc) → Nat → Option Loc
  | [], _ => none
  | (j, p) :: r, i => (match Nat.beq j i with | true => some p | false => posL r i)
def gS : Nat → Bx (Stk → Value)
  | 0 => .mk fun st => @List.rec Value (fun _ => Value) undef (fun v _ _ => v) st
  | k + 1 => (match gS k with | .mk q => .mk fun st => @List.rec Value (fun _ => Value) undef (fun _ r _ => q r) st)
def gV (t : Nat) : Bx VF := match gT Value 3 t with | .mk q => .mk fun _ e => @Option.rec Value (fun _ => Value) undef (fun v => v) (q e)
def gE (L : Lay) : Operand → Bx VF
  | .tmp t => (match posL L.l t with
    | some (.st i) => (match gS (Nat.sub L.h (Nat.succ i)) with | .mk q => .mk fun st _ => q st)
    | some (.en x) => gV x
    | some .no => .mk fun _ _ => undef
    | none => gV t)
  | .const v => .mk fun _ _ => v
  | .global g => .mk fun _ _ => .pointer (some ⟨g, 0, none⟩)
  | .func f => .mk fun _ _ => .func (.func f) #[] #[]
def Lay.push (L : Lay) (t : Nat) : Lay := ⟨Nat.succ L.h, (t, .st L.h) :: L.l⟩
def noEn (x : Nat) : List (Nat × Loc) → List (Nat × Loc)
  | [] => []
  | (j, .en y) :: r => (match Nat.beq x y with | true => (j, .no) :: noEn x r | false => (j, .en y) :: noEn x r)
  | (j, .st i) :: r => (j, .st i) :: noEn x r
  | (j, .no) :: r => (j, .no) :: noEn x r
def Lay.kill (L : Lay) (x : Nat) : Lay := ⟨L.h, noEn x L.l⟩
def later (x : Nat) : List Oper → Bool
  | [] => false
  | o :: r => (match o.dst with | some d => (match Nat.beq d x with | true => true | false => later x r) | none => later x r)
def moveL (lc : Nat) (L : Lay) (o : Oper) (r : List Oper) : Option Lay :=
  match o.op, o.guard, o.dst with
  | .move (.tmp x), none, some d => (match Nat.testBit lc d, posL L.l x with
    | true, some p => some ⟨L.h, (d, p) :: L.l⟩
    | true, none => (match later x r || Nat.testBit lc x with | true => none | false => some ⟨L.h, (d, .en x) :: L.l⟩)
    | false, _ => none)
  | _, _, _ => none
def gL (L : Lay) : List Operand → Bx (Stk → En → List Value)
  | [] => .mk fun _ _ => []
  | x :: r => (match gE L x, gL L r with | .mk f, .mk g => .mk fun st e => f st e :: g st e)
def gO (L : Lay) : Option Operand → Bx (Stk → En → Option Value)
  | none => .mk fun _ _ => none
  | some x => (match gE L x with | .mk f => .mk fun st e => some (f st e))
def pOp (P : Program) (L : Lay) (op : Op) : Option (Bx PF) :=
  match op with
  | .move x | .assign x => (match gE L x with | .mk x => some (.mk fun st e => .ok (x st e)))
  | .pick c a b => (match gE L c, gE L a, gE L b with | .mk c, .mk a, .mk b => some (.mk fun st e => pickF (c st e) (a st e) (b st e)))
  | .nilCheck x => (match gE L x with | .mk x => some (.mk fun st e => nilF (x st e)))
  | .binOp op t x (.const .nilIface) _ => (match gE L x, isIfT P t, op with
    | .mk x, true, .eql => some (.mk fun st e => nifE (x st e))
    | .mk x, true, .neq => some (.mk fun st e => nifN (x st e))
    | _, _, _ => none)
  | .binOp op t x y _ => (match gE L x, gE L y, binO P op t with | .mk x, .mk y, .mk f => some (.mk fun st e => f (x st e) (y st e)))
  | .unOp op _ x => (match op, gE L x with | .not, .mk x => some (.mk fun st e => notF (x st e)) | op, .mk x => some (.mk fun st e => toRO (unC op (x st e) H00)))
  | .convert s d x => (match gE L x, yabu P s, yabu P d with
    | .mk x, some _, some k => some (.mk fun st e => cvtI k (x st e))
    | .mk x, _, _ => (match yaap P s && yaap P d with | true => some (.mk fun st e => toRO (convC P s d (x st e) H00)) | false => none))
  | .fieldAddr s x f => (match yaed P s f, gE L x with
    | some fd, .mk x => (match yaan P fd.type, fd.offset with | 0, _ => none | _, n => some (.mk fun st e => fldF (x st e) n))
    | none, _ => none)
  | .field s x f => (match yaed P s f, gE L x with
    | some fd, .mk x => (match yacx P fd.type, fd.offset, yaan P fd.type with
      | some false, o, _ => some (.mk fun st e => fldV o (x st e))
      | some true, o, n => some (.mk fun st e => fldL o n (x st e))
      | none, _, _ => none)
    | none, _ => none)
  | .indexAddr t x i => (match gE L x, gE L i, elemT P t with
    | .mk x, .mk i, some (_, sz) => some (.mk fun st e => ixS (x st e) (i st e) sz)
    | .mk x, .mk i, none => some (.mk fun st e => toRO (yahs P t (x st e) (i st e) H00)))
  | .index t x i => (match gE L x, gE L i, yaap P t with
    | .mk x, .mk i, true => some (.mk fun st e => ixStr (x st e) (i st e))
    | .mk x, .mk i, false => (match arrT P t with
      | some (n, e, sz) => (match yacx P e with
        | some false => some (.mk fun st e => ixA1 n sz (x st e) (i st e))
        | some true => some (.mk fun st e => ixAL n sz (x st e) (i st e))
        | none => none)
      | none => none))
  | .extract x i => (match gE L x with | .mk x => some (.mk fun st e => extF (x st e) i))
  | .makeFunc fn first cap => (match gL L first.toList, gL L cap.toList with | .mk f, .mk c => some (.mk fun st e => .ok (.func fn (f st e).toArray (c st e).toArray)))
  | .build t parts => (match plcT P t parts.toList, gL L (parts.toList.map (·.2)), yach (yadx P t) with
    | some ps, .mk f, zs => (match okP (lenV0 zs) ps, okZ P t with
      | true, true => some (.mk fun st e => bldO (bldR ps (f st e) zs))
      | _, _ => none)
    | none, _, _ => none)
  | .call { callee := .builtin .len, args, argTypes } => (match gL L args.toList, argTypes.toList, args.toList with
    | _, t :: _, [x] => (match gE L x, yaap P t, yacp P t with
      | .mk x, true, _ => some (.mk fun st e => lenS (x st e))
      | .mk x, _, true => some (.mk fun st e => lenV' (x st e))
      | _, _, _ => none)
    | _, _, _ => none)
  | _ => none
def onPtr : Value → AH → (Addr → AH → RV) → RV := fun v => @Value.rec (fun _ => AH → (Addr → AH → RV) → RV) (fun _ => PUnit) (fun _ => PUnit) (fun _ => fun _ _ => .er [201]) (fun _ _ => fun _ _ => .er [201]) (fun _ _ => fun _ _ => .er [201]) (fun _ _ _ => fun _ _ => .er [201]) (fun _ => fun _ _ => .er [201]) (fun p => @Option.rec Addr (fun _ => AH → (Addr → AH → RV) → RV) (fun _ _ => .er [201]) (fun a H k => k a H) p) (fun _ _ _ => fun _ _ => .er [201]) (fun _ => fun _ _ => .er [201]) (fun _ => fun _ _ => .er [201]) (fun _ _ _ _ _ => fun _ _ => .er [201]) (fun _ _ => .er [201]) (fun _ _ _ => fun _ _ => .er [201]) (fun _ _ => .er [201]) (fun _ _ => fun _ _ => .er [201]) (fun _ _ => fun _ _ => .er [201]) (fun _ _ => ⟨⟩) ⟨⟩ (fun _ _ _ _ => ⟨⟩) v
def yavj : Value → Value → AH → (Addr → Value → AH → RV) → RV := fun p => @Value.rec (fun _ => Value → AH → (Addr → Value → AH → RV) → RV) (fun _ => PUnit) (fun _ => PUnit) (fun _ => fun _ _ _ => .er [201]) (fun _ _ => fun _ _ _ => .er [201]) (fun _ _ => fun _ _ _ => .er [201]) (fun _ _ _ => fun _ _ _ => .er [201]) (fun _ => fun _ _ _ => .er [201]) (fun p => @Option.rec Addr (fun _ => Value → AH → (Addr → Value → AH → RV) → RV) (fun _ _ _ => .er [201]) (fun a v H k => k a v H) p) (fun _ _ _ => fun _ _ _ => .er [201]) (fun _ => fun _ _ _ => .er [201]) (fun _ => fun _ _ _ => .er [201]) (fun _ _ _ _ _ => fun _ _ _ => .er [201]) (fun _ _ _ => .er [201]) (fun _ _ _ => fun _ _ _ => .er [201]) (fun _ _ _ => .er [201]) (fun _ _ => fun _ _ _ => .er [201]) (fun _ _ => fun _ _ _ => .er [201]) (fun _ _ => ⟨⟩) ⟨⟩ (fun _ _ _ _ => ⟨⟩) p
def s2b (el : TypeId) (x : Value) (H : AH) : RV := @Value.rec (fun _ => TypeId → AH → RV) (fun _ => PUnit) (fun _ => PUnit) (fun _ => fun _ _ => .er [54]) (fun _ _ => fun _ _ => .er [54]) (fun _ _ => fun _ _ => .er [54]) (fun _ _ _ => fun _ _ => .er [54]) (fun s el H => newC 1 el (byV (bl s)) H (slX (lenL (bl s)) (Nat.mul 2 (lenL (bl s))))) (fun _ => fun _ _ => .er [54]) (fun _ _ _ => fun _ _ => .er [54]) (fun _ => fun _ _ => .er [54]) (fun _ => fun _ _ => .er [54]) (fun _ _ _ _ _ => fun _ _ => .er [54]) (fun _ _ => .er [54]) (fun _ _ _ => fun _ _ => .er [54]) (fun _ _ => .er [54]) (fun _ _ => fun _ _ => .er [54]) (fun _ _ => fun _ _ => .er [54]) (fun _ _ => ⟨⟩) ⟨⟩ (fun _ _ _ _ => ⟨⟩) x el H
def ld1 : Addr → AH → RV := fun a H => @Addr.rec (fun _ => AH → RV) (fun b o sp H => @Option.rec Nat (fun _ => Nat → Nat → AH → RV) (fun b o H => @Option.rec Value (fun _ => AH → RV) (fun _ => .er [3]) (fun v H => .ok v H) (Cs.get (csO (TT.get H.m b)) o) H) (fun _ _ _ _ => .er [5]) sp b o H) a H
def ldA (n : Nat) : Addr → AH → RV := fun a H => @Addr.rec (fun _ => AH → RV) (fun b o sp H => @Option.rec Nat (fun _ => Nat → Nat → AH → RV) (fun b o H => @Option.rec (List Value) (fun _ => AH → RV) (fun _ => .er [2]) (fun vs H => .ok (.agg vs.toArray) H) (rds (csO (TT.get H.m b)) n o) H) (fun _ _ _ _ => .er [5]) sp b o H) a H
def isU8 (P : Program) (t : TypeId) : Bool := match P.underlying t with | some (.int .u8) => true | _ => false
def cOp (P : Program) (L : Lay) (op : Op) : Bx OF :=
  match op with
  | .load t a => (match gE L a, yacx P t, yaan P t with
    | .mk a, some false, _ => .mk fun st e H _ => onPtr (a st e) H ld1
    | .mk a, some true, n => .mk fun st e H _ => onPtr (a st e) H (ldA n)
    | _, none, _ => .mk fun _ _ _ _ => .er [4])
  | .convert s d x => (match gE L x, yaap P s, elemT P d with
    | .mk x, true, some (el, 1) => (match isU8 P el with | true => .mk fun st e H _ => s2b el (x st e) H | false => .mk fun _ _ _ _ => .er [53])
    | .mk x, false, none => .mk fun st e H _ => cvUP P s d (x st e) H
    | _, _, _ => .mk fun _ _ _ _ => .er [53])
  | .store t a v => (match gE L a, gE L v, yacx P t, yaan P t with
    | .mk a, .mk v, some false, 1 => .mk fun st e H _ => yavj (a st e) (v st e) H sto1
    | .mk a, .mk v, some true, n => .mk fun st e H _ => yavj (a st e) (v st e) H (stoA n)
    | _, _, _, _ => .mk fun _ _ _ _ => .er [9])
  | .slice t x lo hi none => (match gE L x, gO L lo, gO L hi, yaap P t with
    | .mk x, .mk lo, .mk hi, true => .mk fun st e H _ => slcS (x st e) (lo st e) (hi st e) H
    | .mk x, .mk lo, .mk hi, false => .mk fun st e H _ => yazn P t (x st e) (lo st e) (hi st e) H)
  | .buildSlice t n parts => (match elemT P t, gL L (parts.toList.map (·.2)) with
    | some (el, sz), .mk f => (match zerL P el, plcA sz parts.toList with
      | some zs, ps => (match Nat.beq (lenV0 zs) sz && okP (Nat.mul n sz) ps && Nat.ble (Nat.mul n sz) 100000, repC zs n with
        | true, z => .mk fun st e H _ => bldS n sz el (bldR ps (f st e) z) H
        | false, _ => .mk fun _ _ _ _ => .er [17])
      | none, _ => .mk fun _ _ _ _ => .er [18])
    | none, _ => .mk fun _ _ _ _ => .er [19])
  | .makeSlice t l c => (match gE L l, gE L c with | .mk l, .mk c => .mk fun st e H _ => yahz P t (l st e) (c st e) H)
  | .alloc t => (match zerL P t with | some zs => .mk fun _ _ H _ => boxN t zs H | none => .mk fun _ _ _ _ => .er [12])
  | .box t x => (match gE L x with | .mk x => .mk fun st e H _ => boxC t (x st e) H)
  | .makeMap _ none => .mk fun _ _ H _ => .ok (.map (some H.nx)) ⟨H.nx + 1, TT.set H.m H.nx (some (.map [] 0))⟩
  | .lookup t m i ok => (match gE L m, gE L i with | .mk m, .mk i => .mk fun st e H _ => yark P t (m st e) (i st e) ok H)
  | .mapUpdate t m i v => (match gE L m, gE L i, gE L v with | .mk m, .mk i, .mk v => .mk fun st e H _ => yahp P t (m st e) (i st e) (v st e) H)
  | .call { callee := .value f, args, .. } => (match f, gE L f, gL L args.toList with
    | .func g, _, .mk a => .mk fun st e H call => call g (a st e) H
    | _, .mk f, .mk a => .mk fun st e H call => (match f st e with | .func (.func g) first cap => call g (first.toList ++ (a st e ++ cap.toList)) H | _ => .er [122]))
  | .call { callee := .builtin b, args, argTypes } => (match gL L args.toList with | .mk a => .mk fun st e H _ => yaik P b argTypes.toList (a st e) H)
  | _ => .mk fun _ _ _ _ => .er [123]
def grd (L : Lay) (all : List Oper) (g : Option (Nat × Bool)) : Option (Bx VF × Bool) :=
  match g with
  | none => none
  | some (j, want) => (match nth all j with
    | some o => (match o.dst with
      | some d => (match gE L (.tmp d) with | .mk f => some (.mk f, want))
      | none => some (.mk fun _ _ => .tuple #[], want))
    | none => some (.mk fun _ _ => .tuple #[], want))
def gdv : Value → Bool → Gd := fun v => @Value.rec (fun _ => Bool → Gd) (fun _ => PUnit) (fun _ => PUnit) (fun b => @Bool.rec (fun _ => Bool → Gd) (fun w => @Bool.rec (fun _ => Gd) .yes .no w) (fun w => @Bool.rec (fun _ => Gd) .no .yes w) b) (fun _ _ => fun _ => .bad) (fun _ _ => fun _ => .bad) (fun _ _ _ => fun _ => .bad) (fun _ => fun _ => .bad) (fun _ => fun _ => .bad) (fun _ _ _ => fun _ => .bad) (fun _ => fun _ => .bad) (fun _ => fun _ => .bad) (fun _ _ _ _ _ => fun _ => .bad) (fun _ => .bad) (fun _ _ _ => fun _ => .bad) (fun _ => .bad) (fun _ _ => fun _ => .bad) (fun a0 _ => (fun _ _ => .no) a0) (fun _ _ => ⟨⟩) ⟨⟩ (fun _ _ _ _ => ⟨⟩) v
def okX (gl : List Nat) (lc : Nat) (L : Lay) : Operand → Bool
  | .tmp t => (match posL L.l t with | some (.st _) => true | some (.en _) => true | some .no => false | none => (match Nat.testBit lc t with | true => false | false => true))
  | .const v => okV v
  | .global g => memN g gl
  | .func _ => true
def okG (gl : List Nat) (lc : Nat) (L : Lay) (all : List Oper) (g : Option (Nat × Bool)) : Bool :=
  match g with
  | none => true
  | some (j, _) => (match nth all j with
    | some o => (match o.dst with | some d => okX gl lc L (.tmp d) | none => true)
    | none => true)
def okS (gl : List Nat) (n lc : Nat) (L : Lay) (all : List Oper) (o : Oper) : Bool :=
  allL (okX gl lc L) (opds o.op) && okG gl lc L all o.guard && (match o.dst with | some d => Nat.ble (Nat.succ d) n && Nat.ble d 511 | none => true)
def cOps (P : Program) (gl : List Nat) (n lc : Nat) (all : List Oper) : List Oper → Lay → (Lay → Bx RF) → Bx RF
  | [], L, k => k L
  | o :: r, L, k => (match okS gl n lc L all o, moveL lc L o r with
    | false, _ => .mk fun _ _ _ _ => .er [141]
    | true, some L' => cOps P gl n lc all r L' k
    | true, none => (match o.dst with
      | none => (match cOps P gl n lc all r L k, pOp P L o.op, cOp P L o.op, grd L all o.guard with
        | .mk g, none, .mk f, none => .mk fun st e H call => @RV.rec (fun _ => RF) (fun _ H st e _ call => g st e H call) (fun l _ _ _ _ => .er l) (f st e H call) st e H call
        | _, _, _, _ => .mk fun _ _ _ _ => .er [140])
      | some d => (match Nat.testBit lc d with
        | true => (match cOps P gl n lc all r (L.push d) k, pOp P L o.op, grd L all o.guard with
          | .mk g, some (.mk f), none => .mk fun st e H call => @RO.rec (fun _ => RF) (fun v st e H call => g (v :: st) e H call) (fun l _ _ _ _ => .er l) (f st e) st e H call
          | .mk g, none, none => (match cOp P L o.op with | .mk f => .mk fun st e H call => @RV.rec (fun _ => RF) (fun v H st e _ call => g (v :: st) e H call) (fun l _ _ _ _ => .er l) (f st e H call) st e H call)
          | .mk g, some (.mk f), some (.mk q, want) => .mk fun st e H call => @Gd.rec (fun _ => RF) (fun st e H call => @RO.rec (fun _ => RF) (fun v st e H call => g (v :: st) e H call) (fun l _ _ _ _ => .er l) (f st e) st e H call) (fun st e H call => g (undef :: st) e H call) (fun _ _ _ _ => .er [125]) (gdv (q st e) want) st e H call
          | .mk g, none, some (.mk q, want) => (match cOp P L o.op with | .mk f => .mk fun st e H call => @Gd.rec (fun _ => RF) (fun st e H call => @RV.rec (fun _ => RF) (fun v H st e _ call => g (v :: st) e H call) (fun l _ _ _ _ => .er l) (f st e H call) st e H call) (fun st e H call => g (undef :: st) e H call) (fun _ _ _ _ => .er [125]) (gdv (q st e) want) st e H call))
        | false => (match cOps P gl n lc all r (L.kill d) k, pOp P L o.op, grd L all o.guard, sT Value 3 d with
          | .mk g, some (.mk f), none, .mk s => .mk fun st e H call => @RO.rec (fun _ => RF) (fun v st e H call => g st (s e (some v)) H call) (fun l _ _ _ _ => .er l) (f st e) st e H call
          | .mk g, none, none, .mk s => (match cOp P L o.op with | .mk f => .mk fun st e H call => @RV.rec (fun _ => RF) (fun v H st e _ call => g st (s e (some v)) H call) (fun l _ _ _ _ => .er l) (f st e H call) st e H call)
          | .mk g, some (.mk f), some (.mk q, want), .mk s => .mk fun st e H call => @Gd.rec (fun _ => RF) (fun st e H call => @RO.rec (fun _ => RF) (fun v st e H call => g st (s e (some v)) H call) (fun l _ _ _ _ => .er l) (f st e) st e H call) (fun st e H call => g st (s e (some undef)) H call) (fun _ _ _ _ => .er [125]) (gdv (q st e) want) st e H call
          | .mk g, none, some (.mk q, want), .mk s => (match cOp P L o.op with | .mk f => .mk fun st e H call => @Gd.rec (fun _ => RF) (fun st e H call => @RV.rec (fun _ => RF) (fun v H st e _ call => g st (s e (some v)) H call) (fun l _ _ _ _ => .er l) (f st e H call) st e H call) (fun st e H call => g st (s e (some undef)) H call) (fun _ _ _ _ => .er [125]) (gdv (q st e) want) st e H call)))))
def findK : List (Nat × Bx KF) → Nat → Bx KF
  | [], i => .mk fun e H _ => .ok (.exit i) e H
  | (j, k) :: r, i => (match Nat.beq j i with | true => k | false => findK r i)
def loopK (B : KF) (ks : Nat → Bx KF) : Nat → KF :=
  @Nat.rec (fun _ => KF) (fun _ _ _ => .er [128]) fun _ ih e H call => @RC.rec (fun _ => KF → CallC → RC) (fun x e H ih call => @Exit.rec (fun _ => En → AH → KF → CallC → RC) (fun e H ih call => ih e H call) (fun i e H _ call => (ks i).run e H call) (fun l e H _ _ => .ok (.goto l) e H) (fun e H _ _ => .ok .ret e H) (fun l e H _ _ => .ok (.panic l) e H) (fun e H _ _ => .ok .outgrown e H) x e H ih call) (fun l _ _ => .er l) (B e H call) ih call
def nrm : Bx KF := .mk fun e H _ => .ok .normal e H
def tailK (k : Bx KF) : Bx RF := match k with | .mk g => .mk fun _ e H call => g e H call
def andR2 (a b : Bool) : Bool := @Bool.rec (fun _ => Bool → Bool) (fun _ => false) (fun b => b) a b
def eqBB (a b : Bool) : Bool := @Bool.rec (fun _ => Bool → Bool) (fun b => @Bool.rec (fun _ => Bool) true false b) (fun b => b) a b
def eqK (a b : IntKind) : Bool := Nat.beq (@IntKind.rec (fun _ => Nat) (0) (1) (2) (3) (4) (5) (6) (7) a) (@IntKind.rec (fun _ => Nat) (0) (1) (2) (3) (4) (5) (6) (7) b)
def eqI (a b : Int) : Bool := @Int.rec (fun _ => Int → Bool) (fun m b => @Int.rec (fun _ => Nat → Bool) (fun n m => Nat.beq m n) (fun _ _ => false) b m) (fun m b => @Int.rec (fun _ => Nat → Bool) (fun _ _ => false) (fun n m => Nat.beq m n) b m) a b
def eqON (a b : Option Nat) : Bool := @Option.rec Nat (fun _ => Option Nat → Bool) (fun b => @Option.rec Nat (fun _ => Bool) true (fun _ => false) b) (fun m b => @Option.rec Nat (fun _ => Nat → Bool) (fun _ => false) (fun n m => Nat.beq m n) b m) a b
def eqA (a b : Addr) : Bool := @Addr.rec (fun _ => Addr → Bool) (fun x o s b => @Addr.rec (fun _ => Nat → Nat → Option Nat → Bool) (fun x' o' s' x o s => andR2 (Nat.beq x x') (andR2 (Nat.beq o o') (eqON s s'))) b x o s) a b
def eqOA (a b : Option Addr) : Bool := @Option.rec Addr (fun _ => Option Addr → Bool) (fun b => @Option.rec Addr (fun _ => Bool) true (fun _ => false) b) (fun m b => @Option.rec Addr (fun _ => Addr → Bool) (fun _ => false) (fun n m => eqA m n) b m) a b
def frS (a : Option Addr) (c : Nat) : Bool := @Option.rec Addr (fun _ => Nat → Bool) (fun _ => true) (fun a c => @Addr.rec (fun _ => Nat → Bool) (fun _ _ s c => @Option.rec Nat (fun _ => Nat → Bool) (fun _ => true) (fun _ _ => false) s c) a c) a c
def eq0 : Value → Value → Bool := fun a => @Value.rec (fun _ => Value → Bool) (fun _ => PUnit) (fun _ => PUnit) (fun x0 b => @Value.rec (fun _ => Bool → Bool) (fun _ => PUnit) (fun _ => PUnit) (fun y0 x0 => (eqBB) x0 y0) (fun _ _ => fun _ => false) (fun _ _ => fun _ => false) (fun _ _ _ => fun _ => false) (fun _ => fun _ => false) (fun _ => fun _ => false) (fun _ _ _ => fun _ => false) (fun _ => fun _ => false) (fun _ => fun _ => false) (fun _ _ _ _ _ => fun _ => false) (fun _ => false) (fun _ _ _ => fun _ => false) (fun _ => false) (fun _ _ => fun _ => false) (fun _ _ => fun _ => false) (fun _ _ => ⟨⟩) ⟨⟩ (fun _ _ _ _ => ⟨⟩) b x0) (fun x0 x1 b => @Value.rec (fun _ => IntKind → Int → Bool) (fun _ => PUnit) (fun _ => PUnit) (fun _ => fun _ _ => false) (fun y0 y1 x0 x1 => (fun k n k2 n2 => andR2 (eqK k k2) (eqI n n2)) x0 x1 y0 y1) (fun _ _ => fun _ _ => false) (fun _ _ _ => fun _ _ => false) (fun _ => fun _ _ => false) (fun _ => fun _ _ => false) (fun _ _ _ => fun _ _ => false) (fun _ => fun _ _ => false) (fun _ => fun _ _ => false) (fun _ _ _ _ _ => fun _ _ => false) (fun _ _ => false) (fun _ _ _ => fun _ _ => false) (fun _ _ => false) (fun _ _ => fun _ _ => false) (fun _ _ => fun _ _ => false) (fun _ _ => ⟨⟩) ⟨⟩ (fun _ _ _ _ => ⟨⟩) b x0 x1) (fun _ _ => fun _ => false) (fun _ _ _ => fun _ => false) (fun x0 b => @Value.rec (fun _ => ByteArray → Bool) (fun _ => PUnit) (fun _ => PUnit) (fun _ => fun _ => false) (fun _ _ => fun _ => false) (fun _ _ => fun _ => false) (fun _ _ _ => fun _ => false) (fun y0 x0 => (fun s t => eqS (bl s) (bl t)) x0 y0) (fun _ => fun _ => false) (fun _ _ _ => fun _ => false) (fun _ => fun _ => false) (fun _ => fun _ => false) (fun _ _ _ _ _ => fun _ => false) (fun _ => false) (fun _ _ _ => fun _ => false) (fun _ => false) (fun _ _ => fun _ => false) (fun _ _ => fun _ => false) (fun _ _ => ⟨⟩) ⟨⟩ (fun _ _ _ _ => ⟨⟩) b x0) (fun x0 b => @Value.rec (fun _ => Option Addr → Bool) (fun _ => PUnit) (fun _ => PUnit) (fun _ => fun _ => false) (fun _ _ => fun _ => false) (fun _ _ => fun _ => false) (fun _ _ _ => fun _ => false) (fun _ => fun _ => false) (fun y0 x0 => (eqOA) x0 y0) (fun _ _ _ => fun _ => false) (fun _ => fun _ => false) (fun _ => fun _ => false) (fun _ _ _ _ _ => fun _ => false) (fun _ => false) (fun _ _ _ => fun _ => false) (fun _ => false) (fun _ _ => fun _ => false) (fun _ _ => fun _ => false) (fun _ _ => ⟨⟩) ⟨⟩ (fun _ _ _ _ => ⟨⟩) b x0) (fun x0 x1 x2 b => @Value.rec (fun _ => Option Addr → Nat → Nat → Bool) (fun _ => PUnit) (fun _ => PUnit) (fun _ => fun _ _ _ => false) (fun _ _ => fun _ _ _ => false) (fun _ _ => fun _ _ _ => false) (fun _ _ _ => fun _ _ _ => false) (fun _ => fun _ _ _ => false) (fun _ => fun _ _ _ => false) (fun y0 y1 y2 x0 x1 x2 => (fun p n c p2 n2 c2 => andR2 (andR2 (eqOA p p2) (frS p c)) (andR2 (Nat.beq n n2) (Nat.beq c c2))) x0 x1 x2 y0 y1 y2) (fun _ => fun _ _ _ => false) (fun _ => fun _ _ _ => false) (fun _ _ _ _ _ => fun _ _ _ => false) (fun _ _ _ => false) (fun _ _ _ => fun _ _ _ => false) (fun _ _ _ => false) (fun _ _ => fun _ _ _ => false) (fun _ _ => fun _ _ _ => false) (fun _ _ => ⟨⟩) ⟨⟩ (fun _ _ _ _ => ⟨⟩) b x0 x1 x2) (fun x0 b => @Value.rec (fun _ => Option Nat → Bool) (fun _ => PUnit) (fun _ => PUnit) (fun _ => fun _ => false) (fun _ _ => fun _ => false) (fun _ _ => fun _ => false) (fun _ _ _ => fun _ => false) (fun _ => fun _ => false) (fun _ => fun _ => false) (fun _ _ _ => fun _ => false) (fun y0 x0 => (eqON) x0 y0) (fun _ => fun _ => false) (fun _ _ _ _ _ => fun _ => false) (fun _ => false) (fun _ _ _ => fun _ => false) (fun _ => false) (fun _ _ => fun _ => false) (fun _ _ => fun _ => false) (fun _ _ => ⟨⟩) ⟨⟩ (fun _ _ _ _ => ⟨⟩) b x0) (fun _ => fun _ => false) (fun _ _ _ _ _ => fun _ => false) (fun b => @Value.rec (fun _ => Bool) (fun _ => PUnit) (fun _ => PUnit) (fun _ => false) (fun _ _ => false) (fun _ _ => false) (fun _ _ _ => false) (fun _ => false) (fun _ => false) (fun _ _ _ => false) (fun _ => false) (fun _ => false) (fun _ _ _ _ _ => false) (true) (fun _ _ _ => false) (false) (fun _ _ => false) (fun _ _ => false) (fun _ _ => ⟨⟩) ⟨⟩ (fun _ _ _ _ => ⟨⟩) b) (fun _ _ _ => fun _ => false) (fun b => @Value.rec (fun _ => Bool) (fun _ => PUnit) (fun _ => PUnit) (fun _ => false) (fun _ _ => false) (fun _ _ => false) (fun _ _ _ => false) (fun _ => false) (fun _ => false) (fun _ _ _ => false) (fun _ => false) (fun _ => false) (fun _ _ _ _ _ => false) (false) (fun _ _ _ => false) (true) (fun _ _ => false) (fun _ _ => false) (fun _ _ => ⟨⟩) ⟨⟩ (fun _ _ _ _ => ⟨⟩) b) (fun _ _ => fun _ => false) (fun _ _ => fun _ => false) (fun _ _ => ⟨⟩) ⟨⟩ (fun _ _ _ _ => ⟨⟩) a
def eqL0 : List Value → List Value → Bool := fun a => @List.rec Value (fun _ => List Value → Bool) (fun b => @List.rec Value (fun _ => Bool) true (fun _ _ _ => false) b) (fun v _ ih b => @List.rec Value (fun _ => Value → (List Value → Bool) → Bool) (fun _ _ => false) (fun u r _ v ih => andR2 (eq0 v u) (ih r)) b v ih) a
def eqFn (a b : Fn) : Bool := @Fn.rec (fun _ => Fn → Bool) (fun f b => @Fn.rec (fun _ => Nat → Bool) (fun g f => Nat.beq f g) (fun _ _ => false) (fun _ _ _ => false) (fun _ _ _ _ _ => false) (fun _ _ => false) b f) (fun _ _ => false) (fun _ _ _ => false) (fun _ _ _ _ _ => false) (fun _ _ => false) a b
def eq1 : Value → Value → Bool := fun a => @Value.rec (fun _ => Value → Bool) (fun _ => PUnit) (fun _ => PUnit) (fun x0 b => @Value.rec (fun _ => Bool → Bool) (fun _ => PUnit) (fun _ => PUnit) (fun y0 x0 => (eqBB) x0 y0) (fun _ _ => fun _ => false) (fun _ _ => fun _ => false) (fun _ _ _ => fun _ => false) (fun _ => fun _ => false) (fun _ => fun _ => false) (fun _ _ _ => fun _ => false) (fun _ => fun _ => false) (fun _ => fun _ => false) (fun _ _ _ _ _ => fun _ => false) (fun _ => false) (fun _ _ _ => fun _ => false) (fun _ => false) (fun _ _ => fun _ => false) (fun _ _ => fun _ => false) (fun _ _ => ⟨⟩) ⟨⟩ (fun _ _ _ _ => ⟨⟩) b x0) (fun x0 x1 b => @Value.rec (fun _ => IntKind → Int → Bool) (fun _ => PUnit) (fun _ => PUnit) (fun _ => fun _ _ => false) (fun y0 y1 x0 x1 => (fun k n k2 n2 => andR2 (eqK k k2) (eqI n n2)) x0 x1 y0 y1) (fun _ _ => fun _ _ => false) (fun _ _ _ => fun _ _ => false) (fun _ => fun _ _ => false) (fun _ => fun _ _ => false) (fun _ _ _ => fun _ _ => false) (fun _ => fun _ _ => false) (fun _ => fun _ _ => false) (fun _ _ _ _ _ => fun _ _ => false) (fun _ _ => false) (fun _ _ _ => fun _ _ => false) (fun _ _ => false) (fun _ _ => fun _ _ => false) (fun _ _ => fun _ _ => false) (fun _ _ => ⟨⟩) ⟨⟩ (fun _ _ _ _ => ⟨⟩) b x0 x1) (fun _ _ => fun _ => false) (fun _ _ _ => fun _ => false) (fun x0 b => @Value.rec (fun _ => ByteArray → Bool) (fun _ => PUnit) (fun _ => PUnit) (fun _ => fun _ => false) (fun _ _ => fun _ => false) (fun _ _ => fun _ => false) (fun _ _ _ => fun _ => false) (fun y0 x0 => (fun s t => eqS (bl s) (bl t)) x0 y0) (fun _ => fun _ => false) (fun _ _ _ => fun _ => false) (fun _ => fun _ => false) (fun _ => fun _ => false) (fun _ _ _ _ _ => fun _ => false) (fun _ => false) (fun _ _ _ => fun _ => false) (fun _ => false) (fun _ _ => fun _ => false) (fun _ _ => fun _ => false) (fun _ _ => ⟨⟩) ⟨⟩ (fun _ _ _ _ => ⟨⟩) b x0) (fun x0 b => @Value.rec (fun _ => Option Addr → Bool) (fun _ => PUnit) (fun _ => PUnit) (fun _ => fun _ => false) (fun _ _ => fun _ => false) (fun _ _ => fun _ => false) (fun _ _ _ => fun _ => false) (fun _ => fun _ => false) (fun y0 x0 => (eqOA) x0 y0) (fun _ _ _ => fun _ => false) (fun _ => fun _ => false) (fun _ => fun _ => false) (fun _ _ _ _ _ => fun _ => false) (fun _ => false) (fun _ _ _ => fun _ => false) (fun _ => false) (fun _ _ => fun _ => false) (fun _ _ => fun _ => false) (fun _ _ => ⟨⟩) ⟨⟩ (fun _ _ _ _ => ⟨⟩) b x0) (fun x0 x1 x2 b => @Value.rec (fun _ => Option Addr → Nat → Nat → Bool) (fun _ => PUnit) (fun _ => PUnit) (fun _ => fun _ _ _ => false) (fun _ _ => fun _ _ _ => false) (fun _ _ => fun _ _ _ => false) (fun _ _ _ => fun _ _ _ => false) (fun _ => fun _ _ _ => false) (fun _ => fun _ _ _ => false) (fun y0 y1 y2 x0 x1 x2 => (fun p n c p2 n2 c2 => andR2 (andR2 (eqOA p p2) (frS p c)) (andR2 (Nat.beq n n2) (Nat.beq c c2))) x0 x1 x2 y0 y1 y2) (fun _ => fun _ _ _ => false) (fun _ => fun _ _ _ => false) (fun _ _ _ _ _ => fun _ _ _ => false) (fun _ _ _ => false) (fun _ _ _ => fun _ _ _ => false) (fun _ _ _ => false) (fun _ _ => fun _ _ _ => false) (fun _ _ => fun _ _ _ => false) (fun _ _ => ⟨⟩) ⟨⟩ (fun _ _ _ _ => ⟨⟩) b x0 x1 x2) (fun x0 b => @Value.rec (fun _ => Option Nat → Bool) (fun _ => PUnit) (fun _ => PUnit) (fun _ => fun _ => false) (fun _ _ => fun _ => false) (fun _ _ => fun _ => false) (fun _ _ _ => fun _ => false) (fun _ => fun _ => false) (fun _ => fun _ => false) (fun _ _ _ => fun _ => false) (fun y0 x0 => (eqON) x0 y0) (fun _ => fun _ => false) (fun _ _ _ _ _ => fun _ => false) (fun _ => false) (fun _ _ _ => fun _ => false) (fun _ => false) (fun _ _ => fun _ => false) (fun _ _ => fun _ => false) (fun _ _ => ⟨⟩) ⟨⟩ (fun _ _ _ _ => ⟨⟩) b x0) (fun _ => fun _ => false) (fun a0 a1 a2 _ _ => (fun x0 x1 x2 b => @Value.rec (fun _ => Fn → Array Value → Array Value → Bool) (fun _ => PUnit) (fun _ => PUnit) (fun _ => fun _ _ _ => false) (fun _ _ => fun _ _ _ => false) (fun _ _ => fun _ _ _ => false) (fun _ _ _ => fun _ _ _ => false) (fun _ => fun _ _ _ => false) (fun _ => fun _ _ _ => false) (fun _ _ _ => fun _ _ _ => false) (fun _ => fun _ _ _ => false) (fun _ => fun _ _ _ => false) (fun a0 a1 a2 _ _ => (fun y0 y1 y2 x0 x1 x2 => (fun f x y f2 x2 y2 => andR2 (eqFn f f2) (andR2 (eqL0 x.toList x2.toList) (eqL0 y.toList y2.toList))) x0 x1 x2 y0 y1 y2) a0 a1 a2) (fun _ _ _ => false) (fun _ _ _ => fun _ _ _ => false) (fun _ _ _ => false) (fun _ _ => fun _ _ _ => false) (fun _ _ => fun _ _ _ => false) (fun _ _ => ⟨⟩) ⟨⟩ (fun _ _ _ _ => ⟨⟩) b x0 x1 x2) a0 a1 a2) (fun b => @Value.rec (fun _ => Bool) (fun _ => PUnit) (fun _ => PUnit) (fun _ => false) (fun _ _ => false) (fun _ _ => false) (fun _ _ _ => false) (fun _ => false) (fun _ => false) (fun _ _ _ => false) (fun _ => false) (fun _ => false) (fun _ _ _ _ _ => false) (true) (fun _ _ _ => false) (false) (fun _ _ => false) (fun _ _ => false) (fun _ _ => ⟨⟩) ⟨⟩ (fun _ _ _ _ => ⟨⟩) b) (fun a0 a1 _ => (fun x0 x1 b => @Value.rec (fun _ => TypeId → Value → Bool) (fun _ => PUnit) (fun _ => PUnit) (fun _ => fun _ _ => false) (fun _ _ => fun _ _ => false) (fun _ _ => fun _ _ => false) (fun _ _ _ => fun _ _ => false) (fun _ => fun _ _ => false) (fun _ => fun _ _ => false) (fun _ _ _ => fun _ _ => false) (fun _ => fun _ _ => false) (fun _ => fun _ _ => false) (fun _ _ _ _ _ => fun _ _ => false) (fun _ _ => false) (fun a0 a1 _ => (fun y0 y1 x0 x1 => (fun t v t2 v2 => andR2 (Nat.beq t t2) (eq0 v v2)) x0 x1 y0 y1) a0 a1) (fun _ _ => false) (fun _ _ => fun _ _ => false) (fun _ _ => fun _ _ => false) (fun _ _ => ⟨⟩) ⟨⟩ (fun _ _ _ _ => ⟨⟩) b x0 x1) a0 a1) (fun b => @Value.rec (fun _ => Bool) (fun _ => PUnit) (fun _ => PUnit) (fun _ => false) (fun _ _ => false) (fun _ _ => false) (fun _ _ _ => false) (fun _ => false) (fun _ => false) (fun _ _ _ => false) (fun _ => false) (fun _ => false) (fun _ _ _ _ _ => false) (false) (fun _ _ _ => false) (true) (fun _ _ => false) (fun _ _ => false) (fun _ _ => ⟨⟩) ⟨⟩ (fun _ _ _ _ => ⟨⟩) b) (fun a0 _ => (fun x0 b => @Value.rec (fun _ => Array Value → Bool) (fun _ => PUnit) (fun _ => PUnit) (fun _ => fun _ => false) (fun _ _ => fun _ => false) (fun _ _ => fun _ => false) (fun _ _ _ => fun _ => false) (fun _ => fun _ => false) (fun _ => fun _ => false) (fun _ _ _ => fun _ => false) (fun _ => fun _ => false) (fun _ => fun _ => false) (fun _ _ _ _ _ => fun _ => false) (fun _ => false) (fun _ _ _ => fun _ => false) (fun _ => false) (fun a0 _ => (fun y0 x0 => (fun x y => eqL0 x.toList y.toList) x0 y0) a0) (fun _ _ => fun _ => false) (fun _ _ => ⟨⟩) ⟨⟩ (fun _ _ _ _ => ⟨⟩) b x0) a0) (fun a0 _ => (fun x0 b => @Value.rec (fun _ => Array Value → Bool) (fun _ => PUnit) (fun _ => PUnit) (fun _ => fun _ => false) (fun _ _ => fun _ => false) (fun _ _ => fun _ => false) (fun _ _ _ => fun _ => false) (fun _ => fun _ => false) (fun _ => fun _ => false) (fun _ _ _ => fun _ => false) (fun _ => fun _ => false) (fun _ => fun _ => false) (fun _ _ _ _ _ => fun _ => false) (fun _ => false) (fun _ _ _ => fun _ => false) (fun _ => false) (fun _ _ => fun _ => false) (fun a0 _ => (fun y0 x0 => (fun x y => eqL0 x.toList y.toList) x0 y0) a0) (fun _ _ => ⟨⟩) ⟨⟩ (fun _ _ _ _ => ⟨⟩) b x0) a0) (fun _ _ => ⟨⟩) ⟨⟩ (fun _ _ _ _ => ⟨⟩) a
def eqL1 : List Value → List Value → Bool := fun a => @List.rec Value (fun _ => List Value → Bool) (fun b => @List.rec Value (fun _ => Bool) true (fun _ _ _ => false) b) (fun v _ ih b => @List.rec Value (fun _ => Value → (List Value → Bool) → Bool) (fun _ _ => false) (fun u r _ v ih => andR2 (eq1 v u) (ih r)) b v ih) a
def eqV : Value → Value → Bool := fun a => @Value.rec (fun _ => Value → Bool) (fun _ => PUnit) (fun _ => PUnit) (fun x0 b => @Value.rec (fun _ => Bool → Bool) (fun _ => PUnit) (fun _ => PUnit) (fun y0 x0 => (eqBB) x0 y0) (fun _ _ => fun _ => false) (fun _ _ => fun _ => false) (fun _ _ _ => fun _ => false) (fun _ => fun _ => false) (fun _ => fun _ => false) (fun _ _ _ => fun _ => false) (fun _ => fun _ => false) (fun _ => fun _ => false) (fun _ _ _ _ _ => fun _ => false) (fun _ => false) (fun _ _ _ => fun _ => false) (fun _ => false) (fun _ _ => fun _ => false) (fun _ _ => fun _ => false) (fun _ _ => ⟨⟩) ⟨⟩ (fun _ _ _ _ => ⟨⟩) b x0) (fun x0 x1 b => @Value.rec (fun _ => IntKind → Int → Bool) (fun _ => PUnit) (fun _ => PUnit) (fun _ => fun _ _ => false) (fun y0 y1 x0 x1 => (fun k n k2 n2 => andR2 (eqK k k2) (eqI n n2)) x0 x1 y0 y1) (fun _ _ => fun _ _ => false) (fun _ _ _ => fun _ _ => false) (fun _ => fun _ _ => false) (fun _ => fun _ _ => false) (fun _ _ _ => fun _ _ => false) (fun _ => fun _ _ => false) (fun _ => fun _ _ => false) (fun _ _ _ _ _ => fun _ _ => false) (fun _ _ => false) (fun _ _ _ => fun _ _ => false) (fun _ _ => false) (fun _ _ => fun _ _ => false) (fun _ _ => fun _ _ => false) (fun _ _ => ⟨⟩) ⟨⟩ (fun _ _ _ _ => ⟨⟩) b x0 x1) (fun _ _ => fun _ => false) (fun _ _ _ => fun _ => false) (fun x0 b => @Value.rec (fun _ => ByteArray → Bool) (fun _ => PUnit) (fun _ => PUnit) (fun _ => fun _ => false) (fun _ _ => fun _ => false) (fun _ _ => fun _ => false) (fun _ _ _ => fun _ => false) (fun y0 x0 => (fun s t => eqS (bl s) (bl t)) x0 y0) (fun _ => fun _ => false) (fun _ _ _ => fun _ => false) (fun _ => fun _ => false) (fun _ => fun _ => false) (fun _ _ _ _ _ => fun _ => false) (fun _ => false) (fun _ _ _ => fun _ => false) (fun _ => false) (fun _ _ => fun _ => false) (fun _ _ => fun _ => false) (fun _ _ => ⟨⟩) ⟨⟩ (fun _ _ _ _ => ⟨⟩) b x0) (fun x0 b => @Value.rec (fun _ => Option Addr → Bool) (fun _ => PUnit) (fun _ => PUnit) (fun _ => fun _ => false) (fun _ _ => fun _ => false) (fun _ _ => fun _ => false) (fun _ _ _ => fun _ => false) (fun _ => fun _ => false) (fun y0 x0 => (eqOA) x0 y0) (fun _ _ _ => fun _ => false) (fun _ => fun _ => false) (fun _ => fun _ => false) (fun _ _ _ _ _ => fun _ => false) (fun _ => false) (fun _ _ _ => fun _ => false) (fun _ => false) (fun _ _ => fun _ => false) (fun _ _ => fun _ => false) (fun _ _ => ⟨⟩) ⟨⟩ (fun _ _ _ _ => ⟨⟩) b x0) (fun x0 x1 x2 b => @Value.rec (fun _ => Option Addr → Nat → Nat → Bool) (fun _ => PUnit) (fun _ => PUnit) (fun _ => fun _ _ _ => false) (fun _ _ => fun _ _ _ => false) (fun _ _ => fun _ _ _ => false) (fun _ _ _ => fun _ _ _ => false) (fun _ => fun _ _ _ => false) (fun _ => fun _ _ _ => false) (fun y0 y1 y2 x0 x1 x2 => (fun p n c p2 n2 c2 => andR2 (andR2 (eqOA p p2) (frS p c)) (andR2 (Nat.beq n n2) (Nat.beq c c2))) x0 x1 x2 y0 y1 y2) (fun _ => fun _ _ _ => false) (fun _ => fun _ _ _ => false) (fun _ _ _ _ _ => fun _ _ _ => false) (fun _ _ _ => false) (fun _ _ _ => fun _ _ _ => false) (fun _ _ _ => false) (fun _ _ => fun _ _ _ => false) (fun _ _ => fun _ _ _ => false) (fun _ _ => ⟨⟩) ⟨⟩ (fun _ _ _ _ => ⟨⟩) b x0 x1 x2) (fun x0 b => @Value.rec (fun _ => Option Nat → Bool) (fun _ => PUnit) (fun _ => PUnit) (fun _ => fun _ => false) (fun _ _ => fun _ => false) (fun _ _ => fun _ => false) (fun _ _ _ => fun _ => false) (fun _ => fun _ => false) (fun _ => fun _ => false) (fun _ _ _ => fun _ => false) (fun y0 x0 => (eqON) x0 y0) (fun _ => fun _ => false) (fun _ _ _ _ _ => fun _ => false) (fun _ => false) (fun _ _ _ => fun _ => false) (fun _ => false) (fun _ _ => fun _ => false) (fun _ _ => fun _ => false) (fun _ _ => ⟨⟩) ⟨⟩ (fun _ _ _ _ => ⟨⟩) b x0) (fun _ => fun _ => false) (fun a0 a1 a2 _ _ => (fun x0 x1 x2 b => @Value.rec (fun _ => Fn → Array Value → Array Value → Bool) (fun _ => PUnit) (fun _ => PUnit) (fun _ => fun _ _ _ => false) (fun _ _ => fun _ _ _ => false) (fun _ _ => fun _ _ _ => false) (fun _ _ _ => fun _ _ _ => false) (fun _ => fun _ _ _ => false) (fun _ => fun _ _ _ => false) (fun _ _ _ => fun _ _ _ => false) (fun _ => fun _ _ _ => false) (fun _ => fun _ _ _ => false) (fun a0 a1 a2 _ _ => (fun y0 y1 y2 x0 x1 x2 => (fun f x y f2 x2 y2 => andR2 (eqFn f f2) (andR2 (eqL0 x.toList x2.toList) (eqL0 y.toList y2.toList))) x0 x1 x2 y0 y1 y2) a0 a1 a2) (fun _ _ _ => false) (fun _ _ _ => fun _ _ _ => false) (fun _ _ _ => false) (fun _ _ => fun _ _ _ => false) (fun _ _ => fun _ _ _ => false) (fun _ _ => ⟨⟩) ⟨⟩ (fun _ _ _ _ => ⟨⟩) b x0 x1 x2) a0 a1 a2) (fun b => @Value.rec (fun _ => Bool) (fun _ => PUnit) (fun _ => PUnit) (fun _ => false) (fun _ _ => false) (fun _ _ => false) (fun _ _ _ => false) (fun _ => false) (fun _ => false) (fun _ _ _ => false) (fun _ => false) (fun _ => false) (fun _ _ _ _ _ => false) (true) (fun _ _ _ => false) (false) (fun _ _ => false) (fun _ _ => false) (fun _ _ => ⟨⟩) ⟨⟩ (fun _ _ _ _ => ⟨⟩) b) (fun a0 a1 _ => (fun x0 x1 b => @Value.rec (fun _ => TypeId → Value → Bool) (fun _ => PUnit) (fun _ => PUnit) (fun _ => fun _ _ => false) (fun _ _ => fun _ _ => false) (fun _ _ => fun _ _ => false) (fun _ _ _ => fun _ _ => false) (fun _ => fun _ _ => false) (fun _ => fun _ _ => false) (fun _ _ _ => fun _ _ => false) (fun _ => fun _ _ => false) (fun _ => fun _ _ => false) (fun _ _ _ _ _ => fun _ _ => false) (fun _ _ => false) (fun a0 a1 _ => (fun y0 y1 x0 x1 => (fun t v t2 v2 => andR2 (Nat.beq t t2) (eq1 v v2)) x0 x1 y0 y1) a0 a1) (fun _ _ => false) (fun _ _ => fun _ _ => false) (fun _ _ => fun _ _ => false) (fun _ _ => ⟨⟩) ⟨⟩ (fun _ _ _ _ => ⟨⟩) b x0 x1) a0 a1) (fun b => @Value.rec (fun _ => Bool) (fun _ => PUnit) (fun _ => PUnit) (fun _ => false) (fun _ _ => false) (fun _ _ => false) (fun _ _ _ => false) (fun _ => false) (fun _ => false) (fun _ _ _ => false) (fun _ => false) (fun _ => false) (fun _ _ _ _ _ => false) (false) (fun _ _ _ => false) (true) (fun _ _ => false) (fun _ _ => false) (fun _ _ => ⟨⟩) ⟨⟩ (fun _ _ _ _ => ⟨⟩) b) (fun a0 _ => (fun x0 b => @Value.rec (fun _ => Array Value → Bool) (fun _ => PUnit) (fun _ => PUnit) (fun _ => fun _ => false) (fun _ _ => fun _ => false) (fun _ _ => fun _ => false) (fun _ _ _ => fun _ => false) (fun _ => fun _ => false) (fun _ => fun _ => false) (fun _ _ _ => fun _ => false) (fun _ => fun _ => false) (fun _ => fun _ => false) (fun _ _ _ _ _ => fun _ => false) (fun _ => false) (fun _ _ _ => fun _ => false) (fun _ => false) (fun a0 _ => (fun y0 x0 => (fun x y => eqL1 x.toList y.toList) x0 y0) a0) (fun _ _ => fun _ => false) (fun _ _ => ⟨⟩) ⟨⟩ (fun _ _ _ _ => ⟨⟩) b x0) a0) (fun a0 _ => (fun x0 b => @Value.rec (fun _ => Array Value → Bool) (fun _ => PUnit) (fun _ => PUnit) (fun _ => fun _ => false) (fun _ _ => fun _ => false) (fun _ _ => fun _ => false) (fun _ _ _ => fun _ => false) (fun _ => fun _ => false) (fun _ => fun _ => false) (fun _ _ _ => fun _ => false) (fun _ => fun _ => false) (fun _ => fun _ => false) (fun _ _ _ _ _ => fun _ => false) (fun _ => false) (fun _ _ _ => fun _ => false) (fun _ => false) (fun _ _ => fun _ => false) (fun a0 _ => (fun y0 x0 => (fun x y => eqL1 x.toList y.toList) x0 y0) a0) (fun _ _ => ⟨⟩) ⟨⟩ (fun _ _ _ _ => ⟨⟩) b x0) a0) (fun _ _ => ⟨⟩) ⟨⟩ (fun _ _ _ _ => ⟨⟩) a
def ifF : Value → (RF) → (RF) → RF := fun c => @Value.rec (fun _ => RF → RF → RF) (fun _ => PUnit) (fun _ => PUnit) (fun b => @Bool.rec (fun _ => RF → RF → RF) (fun _ g => g) (fun f _ => f) b) (fun _ _ => fun _ _ _ _ _ _ => .er [126]) (fun _ _ => fun _ _ _ _ _ _ => .er [126]) (fun _ _ _ => fun _ _ _ _ _ _ => .er [126]) (fun _ => fun _ _ _ _ _ _ => .er [126]) (fun _ => fun _ _ _ _ _ _ => .er [126]) (fun _ _ _ => fun _ _ _ _ _ _ => .er [126]) (fun _ => fun _ _ _ _ _ _ => .er [126]) (fun _ => fun _ _ _ _ _ _ => .er [126]) (fun _ _ _ _ _ => fun _ _ _ _ _ _ => .er [126]) (fun _ _ _ _ _ _ => .er [126]) (fun _ _ _ => fun _ _ _ _ _ _ => .er [126]) (fun _ _ _ _ _ _ => .er [126]) (fun _ _ => fun _ _ _ _ _ _ => .er [126]) (fun _ _ => fun _ _ _ _ _ _ => .er [126]) (fun _ _ => ⟨⟩) ⟨⟩ (fun _ _ _ _ => ⟨⟩) c
def condK (gl : List Nat) (lc : Nat) (L : Lay) (c : Operand) (f g : Bx KF) : Bx RF := match okX gl lc L c, gE L c, tailK f, tailK g with | true, .mk c, .mk f, .mk g => .mk fun st e H call => ifF (c st e) f g st e H call | false, _, _, _ => .mk fun _ _ _ _ => .er [142]
def noSt (f : Bx RF) : Bx KF := match f with | .mk f => .mk fun e H call => f [] e H call
def kO (P : Program) : Op → Nat
  | .load .. => 1
  | .alloc .. => 2
  | .box .. => 2
  | .buildSlice .. => 2
  | .convert _ d _ => (match elemT P d with | some _ => 3 | none => 0)
  | .assign .. => 3 | .move .. => 0 | .pick .. => 0 | .nilCheck .. => 0 | .binOp .. => 0 | .unOp .. => 0
  | .fieldAddr .. => 0 | .field .. => 0 | .indexAddr .. => 0 | .index .. => 0 | .slice .. => 0 | .extract .. => 0 | .makeFunc .. => 0 | .build .. => 0 | .makeInterface .. => 0
  | .call { callee := .builtin b, .. } => (match b with | .len => 0 | .cap => 0 | .max => 0 | .min => 0 | _ => 3)
  | _ => 3
structure Pl where
  j : Nat
  m : Nat
  k : Nat
  o : Oper
def pls (P : Program) : Nat → List Nat → List Oper → List Pl
  | j, m :: ms, o :: r => ⟨j, m, kO P o.op, o⟩ :: pls P (j + 1) ms r
  | _, _, _ => []
def yarp (all : List Oper) (ms : List Nat) (s t : Pl) : Bool :=
  pairB all ms s.j t.j && (match Nat.testBit t.m s.j with
    | true => true
    | false => (match Nat.beq t.k 2 with | true => pairB all ms t.j s.j | false => Nat.ble s.k 1))
def pick0 (done : Nat) : List Pl → Option Pl
  | [] => none
  | p :: r => (match Nat.ble p.k 1 && Nat.beq (Nat.land p.m done) p.m with | true => some p | false => pick0 done r)
def rmv (j : Nat) : List Pl → List Pl
  | [] => []
  | p :: r => (match Nat.beq p.j j with | true => r | false => p :: rmv j r)
def ordO : Nat → Nat → List Pl → List Pl
  | 0, _, _ => []
  | _ + 1, _, [] => []
  | f + 1, done, p0 :: rest => (match (match pick0 done (p0 :: rest) with | some p => p | none => p0) with
    | p => p :: ordO f (Nat.lor done (Nat.pow 2 p.j)) (rmv p.j (p0 :: rest)))
def lenO : List Oper → Nat
  | [] => 0
  | _ :: r => lenO r + 1
def someB (o : Option Nat) : Bool := match o with | some _ => true | none => false
def ybah (done : Nat) (p f : Pl) : Bool := match Nat.beq f.k 2 && !Nat.testBit f.m p.j with | true => Nat.beq (Nat.land f.m done) f.m | false => true
def chkO (all : List Oper) (ms : List Nat) : Nat → List Pl → List Pl → Bool
  | done, _, [] => Nat.beq done (Nat.sub (Nat.pow 2 (lenO all)) 1)
  | done, pre, p :: r => allL (fun s => yarp all ms s p) pre && (yagr all p.j && (Nat.beq (Nat.land p.m done) p.m && (!Nat.testBit done p.j && ((match Nat.ble p.k 2 with | true => someB p.o.dst | false => true) && ((match Nat.ble p.k 1 with | true => true | false => allL (fun f => ybah done p f) r) && chkO all ms (Nat.lor done (Nat.pow 2 p.j)) (p :: pre) r)))))
inductive It where
  | op (p : Pl)
  | prb (o : Oper)
  | chk (d : Nat) (o : Oper)
def lates (t : Pl) : List Pl → List Pl
  | [] => []
  | s :: r => (match Nat.ble s.k 1 && !Nat.testBit t.m s.j with | true => s :: lates t r | false => lates t r)
def prbs (t : Pl) : List Pl → List Pl
  | [] => []
  | f :: r => (match Nat.beq f.k 2 && !Nat.testBit f.m t.j with | true => f :: prbs t r | false => prbs t r)
def anyF (s : Pl) : List Pl → Bool
  | [] => false
  | f :: r => (match Nat.testBit f.m s.j with | true => anyF s r | false => true)
def firms (fs : List Pl) : List Pl → List Pl
  | [] => []
  | s :: r => (match Nat.ble s.k 1 && anyF s fs with | true => s :: firms fs r | false => firms fs r)
def chks : List Pl → List It → List It
  | [], is => is
  | s :: r, is => (match s.o.dst with | some d => .chk d s.o :: chks r is | none => chks r is)
def prbI : List Pl → List It → List It
  | [], is => is
  | f :: r, is => .prb f.o :: prbI r is
def itsO : List Pl → List Pl → List It
  | _, [] => []
  | pre, p :: r => (match Nat.ble p.k 1 with
    | true => .op p :: itsO (p :: pre) r
    | false => chks (firms (prbs p r) pre) (prbI (prbs p r) (.op p :: chks (lates p pre) (itsO (p :: pre) r))))
def evO (P : Program) (L : Lay) (op : Op) : Bx OF := match pOp P L op with
  | some (.mk f) => .mk fun st e H _ => @RO.rec (fun _ => AH → RV) (fun v H => .ok v H) (fun l _ => .er l) (f st e) H
  | none => cOp P L op
def restO : List It → List Oper
  | [] => []
  | .op p :: r => p.o :: restO r
  | _ :: r => restO r
def copyO (o : Oper) (r : List It) : Oper := match o.op with
  | .move (.tmp x) => (match later x (restO r) with | true => { o with op := .assign (.tmp x) } | false => o)
  | _ => o
def cIt (P : Program) (gl : List Nat) (n lc : Nat) (all : List Oper) : List It → Lay → (Lay → Bx RF) → Bx RF
  | [], L, k => k L
  | .op p :: r, L, k => cOps P gl n lc all [copyO p.o r] L fun L' => cIt P gl n lc all r L' k
  | .prb o :: r, L, k => (match okS gl n lc L all o, o.guard, cOp P L o.op, cIt P gl n lc all r L k with
    | true, none, .mk f, .mk g => .mk fun st e H call => @RV.rec (fun _ => RF) (fun _ _ st e H call => g st e H call) (fun l _ _ _ _ => .er l) (f st e H call) st e H call
    | _, _, _, _ => .mk fun _ _ _ _ => .er [144])
  | .chk d o :: r, L, k => (match okX gl lc L (.tmp d) && okS gl n lc L all o, gE L (.tmp d), cIt P gl n lc all r L k, evO P L o.op, grd L all o.guard with
    | true, .mk x, .mk g, .mk f, none => .mk fun st e H call => @RV.rec (fun _ => RF) (fun v _ st e H call => @Bool.rec (fun _ => RF) (fun _ _ _ _ => .er [145]) (fun st e H call => g st e H call) (eqV v (x st e)) st e H call) (fun l _ _ _ _ => .er l) (f st e H call) st e H call
    | true, .mk x, .mk g, .mk f, some (.mk q, want) => .mk fun st e H call => @Gd.rec (fun _ => RF) (fun st e H call => @RV.rec (fun _ => RF) (fun v _ st e H call => @Bool.rec (fun _ => RF) (fun _ _ _ _ => .er [145]) (fun st e H call => g st e H call) (eqV v (x st e)) st e H call) (fun l _ _ _ _ => .er l) (f st e H call) st e H call) (fun st e H call => g st e H call) (fun _ _ _ _ => .er [125]) (gdv (q st e) want) st e H call
    | _, _, _, _, _ => .mk fun _ _ _ _ => .er [147])
def rIt (P : Program) (gl : List Nat) (n lc : Nat) (ops : List Oper) (ms : List Nat) (k : Lay → Bx RF) : Bx RF :=
  match ordO (lenO ops) 0 (pls P 0 ms ops) with
  | os => (match chkO ops ms 0 [] os with
    | true => cIt P gl n lc ops (itsO [] os) ⟨0, []⟩ k
    | false => .mk fun _ _ _ _ => .er [143])
def rOps (P : Program) (gl : List Nat) (n lc : Nat) (dr : Bool) (ops : List Oper) (k : Lay → Bx RF) : Bx RF :=
  match dr with
  | false => cOps P gl n lc ops ops ⟨0, []⟩ k
  | true => rIt P gl n lc ops (masks ops []) k
def cK (P : Program) (gl : List Nat) (n lc : Nat) : Code → List (Nat × Bx KF) → Bx KF → Bx KF
  | .skip, _, k => k
  | .region _ ops dr, _, k => noSt (rOps P gl n lc dr ops.toList fun _ => tailK k)
  | .seq (.region _ ops dr) (.cond c a b), ks, k => noSt (rOps P gl n lc dr ops.toList fun L => condK gl lc L c (cK P gl n lc a ks k) (cK P gl n lc b ks k))
  | .seq a b, ks, k => cK P gl n lc a ks (cK P gl n lc b ks k)
  | .cond c a b, ks, k => noSt (condK gl lc ⟨0, []⟩ c (cK P gl n lc a ks k) (cK P gl n lc b ks k))
  | .block id a, ks, k => cK P gl n lc a ((id, k) :: ks) k
  | .loop a, ks, _ => (match cK P gl n lc a [] nrm with | .mk f => .mk fun e H call => loopK f (findK ks) 100000 e H call)
  | .exit id, ks, _ => findK ks id
  | .ret, _, _ => .mk fun e H _ => .ok .ret e H
  | _, _, _ => .mk fun _ _ _ => .er [127]
inductive CFn where
  | code (n : Nat) (f : KF) (res : En → AH → Option (List Value))
  | nat (f : List Value → AH → RV)
  | no
structure Tab where
  nat : Nat → Option (List Value → AH → RV)
  lc : Nat → Nat
  gl : List Nat
def resR (r : RV) (o : Option (List Value)) : Option (List Value) := @RV.rec (fun _ => Option (List Value) → Option (List Value)) (fun v _ o => @Option.rec (List Value) (fun _ => Value → Option (List Value)) (fun _ => none) (fun vs v => some (v :: vs)) o v) (fun _ _ => none) r o
def rK (P : Program) : List ResultVar → Bx (En → AH → Option (List Value))
  | [] => .mk fun _ _ => some []
  | .tmp t :: r => (match gV t, rK P r with | .mk f, .mk g => .mk fun e H => @Option.rec (List Value) (fun _ => Value → Option (List Value)) (fun _ => none) (fun vs v => some (v :: vs)) (g e H) (f [] e))
  | .cell t ty :: r => (match gV t, yacx P ty, yaan P ty, rK P r with
    | .mk f, some false, _, .mk g => .mk fun e H => resR (onPtr (f [] e) H ld1) (g e H)
    | .mk f, some true, n, .mk g => .mk fun e H => resR (onPtr (f [] e) H (ldA n)) (g e H)
    | _, none, _, _ => .mk fun _ _ => none)
def okR (lc : Nat) : List ResultVar → Bool
  | [] => true
  | .tmp t :: r => (match Nat.testBit lc t with | true => false | false => okR lc r)
  | .cell t _ :: r => (match Nat.testBit lc t with | true => false | false => okR lc r)
def capN (n : Nat) : Nat := match Nat.ble n 511 with | true => n | false => 511
def cFn (P : Program) (T : Tab) (g : Nat) : CFn :=
  match T.nat g with
  | some f => .nat f
  | none => (match P.funcs[g]?, yafd P g with
    | some fn, true => (match fn.body, okR (T.lc g) fn.results.toList with
      | some c, true => (match cK P T.gl fn.ntmps (T.lc g) c [] nrm, rK P fn.results.toList, capN fn.ntmps with | .mk f, .mk r, n => .code n f r)
      | _, _ => .no)
    | _, _ => .no)
def oneV : List Value → Value := fun vs => @List.rec Value (fun _ => Value) (.tuple #[]) (fun v r _ => @List.rec Value (fun _ => Value → Value) (fun v => v) (fun u r _ v => .tuple ⟨v :: u :: r⟩) r v) vs
def rtK (o : Option (List Value)) (H : AH) : RV := @Option.rec (List Value) (fun _ => AH → RV) (fun _ => .er [129]) (fun vs H => .ok (oneV vs) H) o H
def initR (vs : List Value) : Nat → En → En := @List.rec Value (fun _ => Nat → En → En) (fun _ e => e) (fun v _ ih i e => ih (Nat.succ i) (TT.set e i (some v))) vs
def runK (n : Nat) (f : KF) (args : List Value) (H : AH) (call : CallC) : RC := @Bool.rec (fun _ => KF → List Value → AH → CallC → RC) (fun _ _ _ _ => .er [134]) (fun f args H call => f (initR args 0 (eT Value 3)) H call) (Nat.ble (lenV0 args) n) f args H call
def callK (P : Program) (T : Tab) : Nat → CallC :=
  @Nat.rec (fun _ => CallC) (fun _ _ _ => .er [131]) fun _ ih g args H => @CFn.rec (fun _ => Nat → List Value → AH → CallC → RV)
    (fun n f rs g args H ih => @RC.rec (fun _ => (En → AH → Option (List Value)) → Nat → RV) (fun x e H rs _ => @Exit.rec (fun _ => En → AH → (En → AH → Option (List Value)) → RV) (fun e H rs => rtK (rs e H) H) (fun _ _ _ _ => .er [130]) (fun _ _ _ _ => .er [130]) (fun e H rs => rtK (rs e H) H) (fun _ _ _ _ => .er [130]) (fun _ _ _ => .er [130]) x e H rs) (fun l _ g => .er (g :: 1000000 :: l)) (runK n f args H ih) rs g)
    (fun f _ args H _ => f args H) (fun g _ _ _ => .er [132, g]) (cFn P T g) g args H ih
end
open Go
section
variable {P : Program} {φ : Phi} {h0 : Hp} {H : AH} {h : Hp}
theorem yaax {v v' : Value} {H H' : AH} (e : RV.ok v H = .ok v' H') : v' = v ∧ H' = H := by cases e; exact ⟨rfl, rfl⟩
theorem yaln {c : Array Value} {ty : TypeId} {f : Nat × Nat} {r o : Nat} (hc : h[r]? = some (.cells c ty f)) : cell h ⟨r, o, none⟩ = c[o]? := by
  unfold cell
  simp only [hc]
  rfl
theorem addMk (r o j : Nat) : (⟨r, o, none⟩ : Addr).add j = ⟨r, o + j, none⟩ := by
  unfold Addr.add
  split
  · rename_i e; subst e; rfl
  · rfl
theorem yaxr (b o : Nat) (n : Nat) : addA ⟨b, o, none⟩ n = ⟨b, o + n, none⟩ := by
  cases n <;> rfl
theorem yazj {o : Option Bk} {i : Nat} {v : Value} (e : Cs.get (csO o) i = some v) : ∃ k cs, o = some k ∧ (k = .ro cs ∨ ∃ n z ty, k = .row n z ty cs) ∧ Cs.get cs i = some v := by
  cases o with
  | none => cases e
  | some k =>
    cases k with
    | row n z ty cs => exact ⟨_, cs, rfl, .inr ⟨n, z, ty, rfl⟩, e⟩
    | map es cl => cases e
    | ro cs => exact ⟨_, cs, rfl, .inl rfl, e⟩
theorem HR.cell (hr : HR φ h0 H h) {b i : Nat} {m : Ph} (hm : φ b = some m) {v : Value} (e : Cs.get (csO (TT.get H.m b)) i = some v) : ∃ u, Sx.cell h ⟨m.r, i, none⟩ = some u ∧ VR φ v u := by
  obtain ⟨k, cs, hg, hk, e⟩ := yazj e
  obtain ⟨m', hm', _, _, hb⟩ := hr.blk b k hg
  rw [hm] at hm'
  obtain rfl := Option.some.inj hm'
  rcases hk with rfl | ⟨n, z, ty, rfl⟩
  · exact hb i v e
  · obtain ⟨c, f, h1, _, _, _, _, h5⟩ := hb
    obtain ⟨_, u, hu, hvr⟩ := h5 i v e
    exact ⟨u, by rw [yaln h1]; exact hu, hvr⟩
theorem HR.cells (hr : HR φ h0 H h) {b : Nat} {m : Ph} (hm : φ b = some m) : ∀ {n i : Nat} {vs : List Value} (_ : vs.length = n) (_ : ∀ j, j < n → Cs.get (csO (TT.get H.m b)) (i + j) = vs[j]?), ∃ us, VRL φ vs us ∧ ∀ j, j < us.length → Sx.cell h ⟨m.r, i + j, none⟩ = us[j]?
  | 0, i, vs, hl, _ => by
    have : vs = [] := List.eq_nil_of_length_eq_zero hl
    subst this
    exact ⟨[], .nil, fun j hj => by cases hj⟩
  | n + 1, i, [], hl, _ => by cases hl
  | n + 1, i, v :: vs, hl, hc => by
    obtain ⟨u, hu, hv⟩ := hr.cell hm (show Cs.get (csO (TT.get H.m b)) i = some v by simpa using hc 0 (by omega))
    obtain ⟨us, hus, hcs⟩ := HR.cells hr hm (n := n) (i := i + 1) (vs := vs) (by simpa using hl) (fun j hj => by
      have := hc (j + 1) (by omega)
      rw [show i + 1 + j = i + (j + 1) by omega]
      simpa using this)
    refine ⟨u :: us, .cons hv hus, fun j hj => ?_⟩
    cases j with
    | zero => exact hu
    | succ j =>
      have := hcs j (by simpa using hj)
      rw [show i + (j + 1) = i + 1 + j by omega]
      simpa using this
theorem HR.rds (hr : HR φ h0 H h) {b n i : Nat} {m : Ph} (hm : φ b = some m) {vs : List Value} (e : Sx.rds (csO (TT.get H.m b)) n i = some vs) : vs.length = n ∧ ∃ us, VRL φ vs us ∧ ∀ j, j < us.length → Sx.cell h ⟨m.r, i + j, none⟩ = us[j]? := by
  obtain ⟨h1, h2⟩ := Cs.rds_spec e
  exact ⟨h1, hr.cells hm h1 h2⟩
theorem yaju {r o : Nat} {us : List Value} (hc : ∀ j, j < us.length → cell h ⟨r, o + j, none⟩ = us[j]?) : readsL h (some ⟨r, o, none⟩) us := fun i hi => by rw [addMk]; exact hc i hi
theorem ybap {b o : Nat} {sp : Option Nat} {v : Value} {H' : AH} {m : Ph} {t : TypeId} (hr : HR φ h0 H h) (hm : φ b = some m) (ha : yacx P t = some false) (e : ld1 ⟨b, o, sp⟩ H = .ok v H') :
    H' = H ∧ hq P (loadVar t ⟨m.r, o, sp⟩) h (VR φ v) := by
  cases sp with
  | some s => cases e
  | none =>
    have e : @Option.rec Value (fun _ => AH → RV) (fun _ => .er [3]) (fun v H => .ok v H) (Cs.get (csO (TT.get H.m b)) o) H = .ok v H' := e
    cases hc : Cs.get (csO (TT.get H.m b)) o with
    | none => rw [hc] at e; cases e
    | some x =>
      rw [hc] at e
      obtain ⟨rfl, rfl⟩ := yaax e
      obtain ⟨u, hu, hv⟩ := hr.cell hm hc
      refine ⟨rfl, ?_⟩
      unfold loadVar
      rw [yaab, yaij, ha]
      exact ⟨u, hu, hv⟩
theorem ybae {b o n : Nat} {sp : Option Nat} {v : Value} {H' : AH} {m : Ph} {t : TypeId} (hr : HR φ h0 H h) (hm : φ b = some m) (ha : yacx P t = some true) (hn : yaan P t = n) (e : ldA n ⟨b, o, sp⟩ H = .ok v H') :
    H' = H ∧ hq P (loadVar t ⟨m.r, o, sp⟩) h (VR φ v) := by
  cases sp with
  | some s => cases e
  | none =>
    have e : @Option.rec (List Value) (fun _ => AH → RV) (fun _ => .er [2]) (fun vs H => .ok (.agg vs.toArray) H) (rds (csO (TT.get H.m b)) n o) H = .ok v H' := e
    cases hc : rds (csO (TT.get H.m b)) n o with
    | none => rw [hc] at e; cases e
    | some vs =>
      rw [hc] at e
      obtain ⟨rfl, rfl⟩ := yaax e
      obtain ⟨hl, us, hus, hcs⟩ := hr.rds hm hc
      refine ⟨rfl, ?_⟩
      rw [hus.len] at hl
      obtain ⟨i, hi⟩ := yada ha
      unfold loadVar
      rw [yaab, yaij, ha]
      simp only [if_true]
      rw [yaab, yabp, hi]
      simp only [yaan, hi] at hn
      simp only []
      rw [yaab]
      unfold loadCells
      rw [hn, ← hl]
      refine yaet _ h _ us 0 #[] (yaic us 0 (fun j hj => ?_) ?_)
      · rw [addMk, Nat.zero_add]; exact hcs j hj
      · simp only [Array.empty_append]; exact VR.agg hus
theorem yaxc {a : Addr} {v : Value} {c : Array Value} {ty : TypeId} {f : Nat × Nat} (hs : a.spot = none) (hc : h[a.block]? = some (.cells c ty f)) :
    (setH h a v)[a.block]? = some (.cells (c.setIfInBounds a.off v) ty f) := by
  unfold setH
  rw [Array.getElem?_modify, if_pos rfl, hc]
  simp [hs]
theorem yawp {a : Addr} {v : Value} {r : Nat} (hne : r ≠ a.block) : (setH h a v)[r]? = h[r]? := by
  unfold setH
  rw [Array.getElem?_modify, if_neg (Ne.symm hne)]
theorem yatz (a : Addr) (v : Value) : (setH h a v).size = h.size := by unfold setH; simp
def setsA (c : Array Value) : Nat → List Value → Array Value
  | _, [] => c
  | i, u :: us => setsA (c.setIfInBounds i u) (i + 1) us
theorem yafk (us : List Value) : ∀ (c : Array Value) (i : Nat), (setsA c i us).size = c.size := by
  induction us with
  | nil => intro c i; rfl
  | cons u us ih => intro c i; simp only [setsA, ih]; simp
theorem yakh (us : List Value) : ∀ (c : Array Value) (i j : Nat), i + us.length ≤ c.size → (setsA c i us)[j]? = if i ≤ j ∧ j < i + us.length then us[j - i]? else c[j]? := by
  induction us with
  | nil => intro c i j _; simp only [setsA, List.length_nil]; rw [if_neg (by omega)]
  | cons u us ih =>
    intro c i j hl
    simp only [setsA, List.length_cons] at hl ⊢
    rw [ih _ _ _ (by simp; omega)]
    by_cases h1 : i + 1 ≤ j ∧ j < i + 1 + us.length
    · rw [if_pos h1, if_pos (by omega)]
      have : j - i = (j - (i + 1)) + 1 := by omega
      rw [this]; simp
    · rw [if_neg h1]
      by_cases h2 : j = i
      · subst h2
        rw [if_pos (by omega), Array.getElem?_setIfInBounds_self, if_pos (by omega)]
        simp
      · rw [if_neg (by omega), Array.getElem?_setIfInBounds_ne (Ne.symm h2)]
theorem yaib {r o : Nat} {ty : TypeId} {f : Nat × Nat} {k : Hp → Prop} : ∀ {us : List Value} {c : Array Value} {h : Hp} {i : Nat} (_ : h[r]? = some (.cells c ty f)) (_ : ∀ i, i < c.size → ¬ (f.1 ≤ i ∧ i < f.2)) (_ : o + i + us.length ≤ c.size) (_ : allSc us = true)
    (_ : ∀ h', h'.size = h.size → (∀ r', r' ≠ r → h'[r']? = h[r']?) → h'[r]? = some (.cells (setsA c (o + i) us) ty f) → k h'), storesV ⟨r, o, none⟩ k us i h
  | [], c, h, i, hc, hf, hl, hs, hk => hk h rfl (fun _ _ => rfl) hc
  | u :: us, c, h, i, hc, hf, hl, hs, hk => by
    simp only [List.length_cons] at hl
    rw [yall, Bool.and_eq_true] at hs
    simp only [storesV, hs.1, addMk]
    have hlt : o + i < c.size := by omega
    refine ⟨⟨?_, ?_⟩, ?_⟩
    · rw [yaln hc, Array.getElem?_eq_getElem hlt]; rfl
    · unfold yadq; simp only [hc]
      have := hf _ hlt
      rw [Bool.eq_false_iff]
      intro hx
      simp only [Bool.and_eq_true, decide_eq_true_eq] at hx
      exact this hx
    · refine yaib (c := c.setIfInBounds (o + i) u) (yaxc rfl hc) (by simpa using hf) (by simp; omega) hs.2 fun h' e1 e2 e3 => hk h' (by rw [e1, yatz]) (fun r' hne => by rw [e2 r' hne, yawp hne]) ?_
      rw [e3]; rfl
theorem yako : ∀ {vs us : List Value}, VRL φ vs us → allSc vs = true → allSc us = true
  | [], us, h, _ => by cases h; rfl
  | v :: vs, us, h, hs => by
    cases h with
    | cons h k =>
      rw [yall, Bool.and_eq_true] at hs ⊢
      rw [← h.scalar]
      exact ⟨hs.1, yako k hs.2⟩
theorem HR.wrs (hr : HR φ h0 H h) {b n z : Nat} {ty : TypeId} {cs : Cs} {m : Ph} (hg : TT.get H.m b = some (.row n z ty cs)) (hm : φ b = some m) {vs us : List Value} {o : Nat} (hn : o + vs.length ≤ n) (hs : allSc vs = true) (hv : VRL φ vs us) {k : Hp → Prop}
    (hk : ∀ h', Step φ φ h0 H ⟨H.nx, TT.set H.m b (some (.row n z ty (Sx.wrs vs o cs)))⟩ h h' → k h') : storesV ⟨m.r, o, none⟩ k us 0 h := by
  obtain ⟨m', hm', _, _, hb⟩ := hr.blk b _ hg
  rw [hm] at hm'
  obtain rfl := Option.some.inj hm'
  obtain ⟨c, f, h1, hf, h2, h3, ⟨h4, h40⟩, h5⟩ := hb
  have hl := hv.len
  refine yaib h1 hf (by omega) (yako hv hs) fun h' e1 e2 e3 => hk h' (hr.chg hg trivial (k' := .row n z ty (Sx.wrs vs o cs)) trivial hm e1 e2 ⟨_, f, e3, by rw [yafk]; exact hf, by rw [yafk]; exact h2, h3, ⟨h4, h40⟩, fun i w hw => ?_⟩)
  rw [yakh _ _ _ _ (by omega)]
  rcases ybdu hw with ⟨a1, a2, a3⟩ | ⟨a1, a2⟩
  · rw [if_pos (by omega)]
    obtain ⟨u, hu, hur⟩ := hv.get a3
    exact ⟨by omega, u, by simpa using hu, hur⟩
  · rw [if_neg (by omega)]
    exact h5 i w a2
theorem HR.wr (hr : HR φ h0 H h) {b n z : Nat} {ty : TypeId} {cs : Cs} {m : Ph} (hg : TT.get H.m b = some (.row n z ty cs)) (hm : φ b = some m) {o : Nat} (ho : o < n) {v u : Value} (hv : VR φ v u) :
    yajx h ⟨m.r, o, none⟩ ∧ Step φ φ h0 H ⟨H.nx, TT.set H.m b (some (.row n z ty (Cs.set cs o v)))⟩ h (setH h ⟨m.r, o, none⟩ u) := by
  obtain ⟨m', hm', _, _, hb⟩ := hr.blk b _ hg
  rw [hm] at hm'
  obtain rfl := Option.some.inj hm'
  obtain ⟨c, f, h1, hf, h2, h3, ⟨h4, h40⟩, h5⟩ := hb
  have hoc : o < c.size := by omega
  refine ⟨⟨?_, ?_⟩, ?_⟩
  · rw [yaln h1, Array.getElem?_eq_getElem hoc]; rfl
  · unfold yadq
    simp only [h1]
    have := hf _ hoc
    rw [Bool.eq_false_iff]
    intro hx
    simp only [Bool.and_eq_true, decide_eq_true_eq] at hx
    exact this hx
  · refine hr.chg hg trivial (k' := .row n z ty (Cs.set cs o v)) trivial hm (yatz _ _) (fun r hne => yawp hne) ⟨_, f, yaxc rfl h1, by simpa using hf, by simp [h2], h3, ⟨h4, h40⟩, fun i w hw => ?_⟩
    rcases Cs.set_get hw with ⟨rfl, rfl⟩ | ⟨hne, hw⟩
    · exact ⟨ho, u, by rw [Array.getElem?_setIfInBounds_self, if_pos hoc], hv⟩
    · obtain ⟨hi, x, hx, hxr⟩ := h5 i w hw
      exact ⟨hi, x, by rw [Array.getElem?_setIfInBounds_ne (Ne.symm hne)]; exact hx, hxr⟩
theorem yaur {b o : Nat} {sp : Option Nat} {v x : Value} {H' : AH} (e : sto1 ⟨b, o, sp⟩ v H = .ok x H') : sp = none ∧ x = undef ∧ ∃ n z ty cs, TT.get H.m b = some (.row n z ty cs) ∧ o < n ∧ scalar v = true ∧ H' = ⟨H.nx, TT.set H.m b (some (.row n z ty (Cs.set cs o v)))⟩ := by
  cases sp with
  | some s => cases e
  | none =>
    unfold sto1 at e
    simp only [] at e
    cases hg : TT.get H.m b with
    | none => rw [hg] at e; cases e
    | some k =>
      rw [hg] at e
      cases k with
      | map es c => cases e
      | ro cs => cases e
      | row n z ty cs =>
        simp only [] at e
        cases hc : andR (Nat.ble (Nat.succ o) n) (scR v) with
        | false => rw [hc] at e; cases e
        | true =>
          rw [hc] at e
          rw [yaov, ybde, Bool.and_eq_true] at hc
          obtain ⟨rfl, rfl⟩ := yaax e
          exact ⟨rfl, rfl, n, z, ty, cs, rfl, Nat.le_of_ble_eq_true hc.1, hc.2, rfl⟩
theorem yavz {b o : Nat} {sp : Option Nat} {vs : List Value} {x : Value} {H' : AH} (e : stoL ⟨b, o, sp⟩ vs H = .ok x H') : sp = none ∧ x = undef ∧ ∃ n z ty cs, TT.get H.m b = some (.row n z ty cs) ∧ o + vs.length ≤ n ∧ allSc vs = true ∧ H' = ⟨H.nx, TT.set H.m b (some (.row n z ty (Sx.wrs vs o cs)))⟩ := by
  cases sp with
  | some s => cases e
  | none =>
    unfold stoL at e
    simp only [] at e
    cases hg : TT.get H.m b with
    | none => rw [hg] at e; cases e
    | some k =>
      rw [hg] at e
      cases k with
      | map es c => cases e
      | ro cs => cases e
      | row n z ty cs =>
        simp only [] at e
        cases hc : andR (Nat.ble (Nat.add o (lenV0 vs)) n) (allSc vs) with
        | false => rw [hc] at e; cases e
        | true =>
          rw [hc] at e
          rw [yaov, yabe, Bool.and_eq_true] at hc
          obtain ⟨rfl, rfl⟩ := yaax e
          exact ⟨rfl, rfl, n, z, ty, cs, rfl, Nat.le_of_ble_eq_true hc.1, hc.2, rfl⟩
theorem ybcr {b o : Nat} {sp : Option Nat} {v u x : Value} {H' : AH} {m : Ph} {t : TypeId} (hr : HR φ h0 H h) (hm : φ b = some m) (hv : VR φ v u) (ha : yacx P t = some false) (hn : yaan P t = 1) (e : sto1 ⟨b, o, sp⟩ v H = .ok x H') :
    x = undef ∧ hw P (storeVar t ⟨m.r, o, sp⟩ u) h (fun _ h' => Step φ φ h0 H H' h h') := by
  obtain ⟨rfl, rfl, n, z, ty, cs, hg, ho, hs, rfl⟩ := yaur e
  refine ⟨rfl, yajb ?_⟩
  rw [hv.scalar] at hs
  unfold yavb
  rw [ha]
  simp only [hn, hs]
  exact hr.wr hg hm ho hv
theorem ybdt {b o n : Nat} {sp : Option Nat} {v u x : Value} {H' : AH} {m : Ph} {t : TypeId} (hr : HR φ h0 H h) (hm : φ b = some m) (hv : VR φ v u) (ha : yacx P t = some true) (hn : yaan P t = n) (e : stoA n ⟨b, o, sp⟩ v H = .ok x H') :
    x = undef ∧ hw P (storeVar t ⟨m.r, o, sp⟩ u) h (fun _ h' => Step φ φ h0 H H' h h') := by
  cases hv with
  | @agg vs us hvs =>
    have e : @Bool.rec (fun _ => Addr → List Value → AH → RV) (fun _ _ _ => .er [12]) stoL (Nat.beq (lenV0 vs) n) ⟨b, o, sp⟩ vs H = .ok x H' := e
    cases hb : Nat.beq (lenV0 vs) n with
    | false => rw [hb] at e; cases e
    | true =>
      rw [hb] at e
      have hl := Nat.eq_of_beq_eq_true hb
      rw [yabe] at hl
      obtain ⟨rfl, rfl, n', z, ty, cs, hg, ho, hs, rfl⟩ := yavz e
      refine ⟨rfl, ?_⟩
      obtain ⟨i, hi⟩ := yada ha
      have hsz : us.length = i.size := by simp only [yaan, hi] at hn; rw [← hvs.len, hl, hn]
      unfold storeVar
      simp only [yaac, yacj, hi]
      rw [if_neg (by simp [Value.cells, hsz])]
      exact yabh _ us 0 h _ (hr.wrs hg hm ho hs hvs fun h' hr' => hr')
  | _ => cases e
theorem HR.row (hr : HR φ h0 H h) {cs : List Value} {us : List Value} (hv : VRL φ cs us) (z : Nat) (ty : TypeId) (ex : List Value) (s : Nat) (hs : s = us.length + ex.length) (hz : z = 0 → ex = []) :
    ∃ ψ, ψ H.nx = some ⟨h.size, s, z⟩ ∧ Step φ ψ h0 H ⟨H.nx + 1, TT.set H.m H.nx (some (.row (lenV0 cs) z ty (mkT cs)))⟩ h (h.push (.cells (us ++ ex).toArray ty)) := by
  refine hr.new trivial fun ψ hsub => ⟨_, (0, 0), Array.getElem?_push_size, fun i _ hx => by simp at hx, by simp [hs], rfl, ⟨by simp only [hs, yabe, hv.len]; omega, fun h0 => by simp only [hs, hz h0, yabe, hv.len, List.length_nil]; omega⟩, fun i v hi => ?_⟩
  have a3 := yamb hi
  obtain ⟨u, hu, hur⟩ := hv.get a3
  have hlt : i < us.length := (List.getElem?_eq_some_iff.1 hu).1
  refine ⟨by rw [yabe, hv.len]; exact hlt, u, ?_, hur.mono hsub⟩
  rw [List.getElem?_toArray, List.getElem?_append_left hlt]
  exact hu
end
open Go
theorem zlt_eq : ∀ a b : Int, zlt a b = decide (a < b)
  | .ofNat a, .ofNat b => by simp only [zlt, Int.ofNat_eq_natCast]; rw [Bool.eq_iff_iff, Nat.ble_eq, decide_eq_true_iff]; omega
  | .ofNat a, .negSucc b => by simp only [zlt, Int.ofNat_eq_natCast]; rw [Bool.eq_iff_iff, decide_eq_true_iff]; constructor <;> intro h <;> first | cases h | omega
  | .negSucc a, .ofNat b => by simp only [zlt, Int.ofNat_eq_natCast]; rw [Bool.eq_iff_iff, decide_eq_true_iff]; exact ⟨fun _ => by omega, fun _ => rfl⟩
  | .negSucc a, .negSucc b => by simp only [zlt, Int.ofNat_eq_natCast]; rw [Bool.eq_iff_iff, Nat.ble_eq, decide_eq_true_iff]; omega
theorem zeq_eq : ∀ a b : Int, zeq a b = decide (a = b)
  | .ofNat a, .ofNat b => by simp only [zeq, Int.ofNat_eq_natCast]; rw [Bool.eq_iff_iff, Nat.beq_eq, decide_eq_true_iff]; omega
  | .ofNat a, .negSucc b => by simp only [zeq, Int.ofNat_eq_natCast]; rw [Bool.eq_iff_iff, decide_eq_true_iff]; constructor <;> intro h <;> first | cases h | omega
  | .negSucc a, .ofNat b => by simp only [zeq, Int.ofNat_eq_natCast]; rw [Bool.eq_iff_iff, decide_eq_true_iff]; constructor <;> intro h <;> first | cases h | omega
  | .negSucc a, .negSucc b => by simp only [zeq, Int.ofNat_eq_natCast]; rw [Bool.eq_iff_iff, Nat.beq_eq, decide_eq_true_iff]; omega
theorem yanf : ∀ {n : Int}, inR n = true → InR n
  | .ofNat a, h => by have := Nat.le_of_ble_eq_true h; show -9223372036854775808 ≤ (a : Int) ∧ (a : Int) ≤ 9223372036854775807; omega
  | .negSucc a, h => by have := Nat.le_of_ble_eq_true h; unfold InR; omega
theorem yady : ∀ {n : Int} {k : Nat}, natI n = some k → n = k
  | .ofNat a, k, h => by obtain rfl := Option.some.inj h; rfl
  | .negSucc a, k, h => by cases h
theorem yasc (b : Bool) : ngB b = !b := by cases b <;> rfl
theorem ybfm (a b : Bool) : eqB a b = (a == b) := by cases a <;> cases b <;> rfl
theorem ybdv {α : Type} (o : Option α) : isN o = o.isNone := by cases o <;> rfl
theorem yawm {a b : UInt8} (h : u8n a = u8n b) : a = b := UInt8.toNat_inj.1 h
theorem ybda : ∀ a b : List UInt8, eqU a b = decide (a = b)
  | [], [] => rfl
  | [], _ :: _ => rfl
  | _ :: _, [] => rfl
  | a :: r, b :: s => by
    simp only [eqU]
    cases hb : Nat.beq (u8n a) (u8n b) with
    | true =>
      have := yawm (Nat.eq_of_beq_eq_true hb)
      subst this
      simp [ybda r s]
    | false =>
      have : a ≠ b := fun e => by subst e; simp at hb
      simp [this]
theorem ybbu : ∀ a b : List UInt8, ltU a b = Op.bytesLess a b
  | [], [] => rfl
  | [], _ :: _ => rfl
  | _ :: _, [] => rfl
  | a :: r, b :: s => by
    simp only [ltU, Op.bytesLess]
    cases hb : Nat.beq (u8n a) (u8n b) with
    | true =>
      have := yawm (Nat.eq_of_beq_eq_true hb)
      subst this
      have : ¬ a < a := by rw [UInt8.lt_iff_toNat_lt]; omega
      simp [ybbu r s, this]
    | false =>
      have h1 : a ≠ b := fun e => by subst e; simp at hb
      have h2 : u8n a ≠ u8n b := fun e => h1 (yawm e)
      have h3 : (a == b) = false := by simpa using h1
      rw [h3, Bool.false_and, Bool.or_false, Bool.eq_iff_iff, Nat.ble_eq, decide_eq_true_iff, UInt8.lt_iff_toNat_lt]
      unfold u8n at h2 ⊢
      omega
section
variable {P : Program} {φ : Phi} {h0 : Hp} {H : AH} {h : Hp}
theorem yazy {k : IntKind} {n : Int} {v : Value} {H' : AH} (e : arC k n H = .ok v H') : H' = H ∧ ∀ K : Value → Prop, K v → arith k n K := by
  cases k <;> simp only [arC] at e <;> first
    | (obtain ⟨rfl, rfl⟩ := yaax e; exact ⟨rfl, fun K h => h⟩)
    | skip
  split at e
  · rename_i hi
    obtain ⟨rfl, rfl⟩ := yaax e
    exact ⟨rfl, fun K h => ⟨yanf hi, h⟩⟩
  · cases e
theorem bb_ok {b : Bool} {v : Value} {H' : AH} (e : bb b H = .ok v H') : H' = H ∧ v = .bool b := by obtain ⟨rfl, rfl⟩ := yaax e; exact ⟨rfl, rfl⟩
theorem yayg {op : BinOp} {k k' : IntKind} {a b : Int} {v : Value} {H' : AH} (e : intC op k k' a b H = .ok v H') : H' = H ∧ (∀ ψ : Phi, VR ψ v v) ∧ ∀ K : Value → Prop, K v → intV op k k' a b K := by
  have ar : ∀ {n : Int}, arC k n H = .ok v H' → ∀ ψ : Phi, VR ψ v v := fun {n} e ψ => by
    cases k <;> simp only [arC] at e <;> first
      | (obtain ⟨rfl, rfl⟩ := yaax e; exact .int _ _)
      | skip
    split at e
    · obtain ⟨rfl, rfl⟩ := yaax e; exact .int _ _
    · cases e
  unfold intC at e
  split at e
  · split at e
    · rename_i n hn
      obtain ⟨rfl, rfl⟩ := yaax e
      have := yady hn
      subst this
      exact ⟨rfl, fun ψ => .int _ _, fun K hk => ⟨_, ⟨Int.natCast_nonneg _, rfl⟩, hk⟩⟩
    · cases e
  · split at e
    · rename_i n hn
      obtain ⟨rfl, rfl⟩ := yaax e
      have := yady hn
      subst this
      exact ⟨rfl, fun ψ => .int _ _, fun K hk => ⟨_, ⟨Int.natCast_nonneg _, rfl⟩, hk⟩⟩
    · cases e
  · rename_i h1 h2
    split at e
    · rename_i hk
      have nz : ∀ {r : Value}, (match zeq b 0 with | false => RV.ok r H | true => .er [43]) = .ok v H' → b ≠ 0 ∧ v = r ∧ H' = H := fun {r} e => by
        split at e
        · rename_i hz
          obtain ⟨rfl, rfl⟩ := yaax e
          rw [zeq_eq] at hz
          exact ⟨by simpa using hz, rfl, rfl⟩
        · cases e
      cases op <;> simp only [intV, hk] <;> simp only [] at e <;> first
        | exact absurd rfl h1
        | exact absurd rfl h2
        | exact ⟨(yazy e).1, ar e, (yazy e).2⟩
        | (obtain ⟨hb, rfl, rfl⟩ := nz e; exact ⟨rfl, fun ψ => .int _ _, fun K hK => ⟨_, ⟨hb, rfl⟩, hK⟩⟩)
        | (obtain ⟨rfl, rfl⟩ := yaax e; exact ⟨rfl, fun ψ => .int _ _, fun K hK => ⟨_, rfl, hK⟩⟩)
        | (obtain ⟨rfl, rfl⟩ := bb_ok e; exact ⟨rfl, fun ψ => .bool _, fun K hK => by simpa only [zeq_eq, zlt_eq, yasc, Bool.not_eq_true', decide_not, Int.not_lt, ← decide_not] using hK⟩)
        | cases e
    · cases e
theorem yaia (s : ByteArray) : (bl s).length = s.size := by unfold bl; rw [Array.length_toList]; rfl
theorem yatn (a b : ByteArray) : strEq a b = eqU (bl a) (bl b) := by
  unfold strEq
  rw [ByteArray.toList_eq, ByteArray.toList_eq, ybda, Bool.eq_iff_iff, beq_iff_eq, decide_eq_true_iff]
  rfl
theorem ybbp (a b : ByteArray) : strLt a b = ltU (bl a) (bl b) := by
  unfold strLt
  rw [ByteArray.toList_eq, ByteArray.toList_eq, ybbu]
  rfl
theorem yayq (a b : List UInt8) : (ltU a b || eqU a b) = ngB (ltU b a) := by
  induction a generalizing b with
  | nil => cases b <;> rfl
  | cons x r ih =>
    cases b with
    | nil => rfl
    | cons y s =>
      simp only [ltU, eqU]
      cases hb : Nat.beq (u8n x) (u8n y) with
      | true =>
        have : Nat.beq (u8n y) (u8n x) = true := by rw [Nat.eq_of_beq_eq_true hb]; simp
        rw [this]
        exact ih s
      | false =>
        have hne : u8n x ≠ u8n y := fun e => by rw [e] at hb; simp at hb
        have : Nat.beq (u8n y) (u8n x) = false := by cases hb' : Nat.beq (u8n y) (u8n x) with | false => rfl | true => exact absurd (Nat.eq_of_beq_eq_true hb').symm hne
        rw [this]
        simp only [Bool.or_false, yasc]
        rw [Bool.eq_iff_iff, Nat.ble_eq, Bool.not_eq_true']
        rw [← Bool.not_eq_true, Nat.ble_eq]
        omega
theorem ybgu (a b : ByteArray) : (⟨⟨bl a ++ bl b⟩⟩ : ByteArray) = a ++ b := by
  apply ByteArray.ext
  apply Array.ext'
  rw [ByteArray.data_append, Array.toList_append]
  rfl
theorem ybbv {op : BinOp} {a b : ByteArray} {v : Value} {H' : AH} (e : strC op a b H = .ok v H') : H' = H ∧ (∀ ψ : Phi, VR ψ v v) ∧ ∀ K : Value → Prop, K v → strV op a b K := by
  cases op <;> simp only [strC] at e <;> first
    | (obtain ⟨rfl, rfl⟩ := bb_ok e; exact ⟨rfl, fun ψ => .bool _, fun K hK => by simp only [strV, yatn, ybbp, yayq, ← yasc] at hK ⊢; first | exact hK | (cases hx : ltU (bl b) (bl a) <;> rw [hx] at hK <;> exact hK)⟩)
    | skip
  · split at e
    · rename_i hl
      obtain ⟨rfl, rfl⟩ := yaax e
      have hl := Nat.le_of_ble_eq_true hl
      rw [yaia, yaia] at hl
      refine ⟨rfl, fun ψ => .str _, fun K hK => ⟨?_, ?_⟩⟩
      · constructor <;> omega
      · rw [ybgu] at hK; exact hK
    · cases e
  all_goals cases e
theorem yaon {op : BinOp} {b : Bool} {v : Value} {H' : AH} (e : eqlC op b H = .ok v H') : H' = H ∧ (∀ ψ : Phi, VR ψ v v) ∧ ∀ K : Value → Prop, K v → eqlV op b K := by
  cases op <;> simp only [eqlC] at e <;> first
    | (obtain ⟨rfl, rfl⟩ := bb_ok e; exact ⟨rfl, fun ψ => .bool _, fun K hK => by simpa only [eqlV, yasc] using hK⟩)
    | cases e
theorem ybcg {op : BinOp} {t : TypeId} {xo yo : Operand} {x y x' y' v : Value} {H' : AH} (hx : VR φ x x') (hy : VR φ y y') (e : binC P op t x y H = .ok v H') :
    H' = H ∧ hq P (do eqGuard op t xo yo x' y'; binOp op t x' y') h (VR φ v) := by
  unfold binC at e
  split at e
  · obtain rfl := hx.int_inv
    obtain rfl := hy.int_inv
    obtain ⟨h1, h2, h3⟩ := yayg e
    exact ⟨h1, yakk (h3 _ (h2 φ))⟩
  · obtain rfl := hx.str_inv
    obtain rfl := hy.str_inv
    obtain ⟨h1, h2, h3⟩ := ybbv e
    exact ⟨h1, yagx (h3 _ (h2 φ))⟩
  · obtain rfl := hx.bool_inv
    obtain rfl := hy.bool_inv
    split at e
    · rename_i ht
      obtain ⟨h1, h2, h3⟩ := yaon e
      refine ⟨h1, yahb ?_⟩
      simp only [binV, ht]
      rw [← ybfm]
      exact h3 _ (h2 φ)
    · cases e
  · obtain rfl := hy.ptr0_inv
    split at e
    · rename_i p _ ht
      obtain ⟨h1, h2, h3⟩ := yaon e
      have : ∃ q, x' = .pointer q ∧ q.isNone = p.isNone := by
        cases p with
        | none => exact ⟨none, hx.ptr0_inv, rfl⟩
        | some a => obtain ⟨m, _, e⟩ := hx.ptr_inv; exact ⟨_, e, rfl⟩
      obtain ⟨q, rfl, hq⟩ := this
      refine ⟨h1, yahb ?_⟩
      simp only [binV, ht, hq]
      rw [← ybdv]
      exact h3 _ (h2 φ)
    · cases e
  · obtain ⟨_, rfl⟩ := hy.sl0_inv
    split at e
    · rename_i p _ _ _ _ _ _ ht
      obtain ⟨h1, h2, h3⟩ := yaon e
      have : ∃ q n c, x' = .slice q n c ∧ q.isNone = p.isNone := by
        cases hx with
        | sl0 => exact ⟨_, _, _, rfl, rfl⟩
        | sl => exact ⟨_, _, _, rfl, rfl⟩
        | sle => exact ⟨_, _, _, rfl, rfl⟩
      obtain ⟨q, n, c, rfl, hq⟩ := this
      refine ⟨h1, yahb ?_⟩
      simp only [binV, ht, hq]
      rw [← ybdv]
      exact h3 _ (h2 φ)
    · cases e
  · rename_i b1 o1 b2 o2
    obtain ⟨m1, hm1, rfl⟩ := hx.ptr_inv
    obtain ⟨m2, hm2, rfl⟩ := hy.ptr_inv
    simp only [] at hm1 hm2
    split at e
    · rename_i el hu
      split at e
      · rename_i hc
        simp only [Bool.and_eq_true] at hc
        obtain ⟨⟨c1, c2⟩, c3⟩ := hc
        have c1 := Nat.le_of_ble_eq_true c1
        obtain ⟨inf, hinf⟩ := Option.isSome_iff_exists.1 c2
        simp only [yaan, hinf] at c1
        have c3 := Nat.eq_of_beq_eq_true c3
        subst c3
        rw [hm1] at hm2
        obtain rfl := Option.some.inj hm2
        obtain ⟨h1, h2, h3⟩ := yaon e
        refine ⟨h1, yawf (b := Nat.beq o1 o2) (by unfold eqGuard; split <;> rfl) (fun op ho => by rcases ho with rfl | rfl <;> rfl) (fun K hK => ?_) (h3 _ (h2 φ))⟩
        unfold Op.equal Op.maxDepth Op.equalIn
        rw [yaab, yaaf, hu]
        simp only [yaab, sizeOf, yabf, hinf, yaah]
        rw [if_pos (by omega)]
        unfold sameAddr
        simp only [beq_self_eq_true, if_true, yaah]
        have : ((⟨m1.r, o1, none⟩ : Addr) == ⟨m1.r, o2, none⟩) = Nat.beq o1 o2 := by
          rw [Bool.eq_iff_iff, beq_iff_eq, Nat.beq_eq]
          simp
        rw [this]
        exact hK
      · cases e
    · cases e
  · cases e
theorem yaxv (m n : Nat) : subN m n = (m : Int) - n := by
  unfold subN
  cases h : Nat.sub n m with
  | zero => show (Int.ofNat (m - n)) = _; have : n - m = 0 := h; rw [Int.ofNat_eq_natCast]; omega
  | succ k => show (Int.negSucc k) = _; have : n - m = k + 1 := h; omega
theorem yaye : ∀ a b : Int, iadd a b = a + b
  | .ofNat m, .ofNat n => rfl
  | .ofNat m, .negSucc n => by show subN m (n + 1) = _; rw [yaxv, Int.ofNat_eq_natCast]; omega
  | .negSucc m, .ofNat n => by show subN n (m + 1) = _; rw [yaxv, Int.ofNat_eq_natCast]; omega
  | .negSucc m, .negSucc n => rfl
theorem ybbl : ∀ a : Int, ineg a = -a
  | .ofNat 0 => rfl
  | .ofNat (m + 1) => rfl
  | .negSucc m => rfl
theorem yauu : ∀ a b : Int, ilt a b = zlt a b
  | .ofNat _, .ofNat _ => rfl
  | .ofNat _, .negSucc _ => rfl
  | .negSucc _, .ofNat _ => rfl
  | .negSucc _, .negSucc _ => rfl
theorem ybbk : ∀ a b : Int, ieq a b = zeq a b
  | .ofNat _, .ofNat _ => rfl
  | .ofNat _, .negSucc _ => rfl
  | .negSucc _, .ofNat _ => rfl
  | .negSucc _, .negSucc _ => rfl
theorem yamc (b : Bool) : notO b = .ok (.bool (!b)) := by cases b <;> rfl
theorem yaze : ∀ {n : Int} {v : Value}, arR n = .ok v → InR n ∧ v = .int .i64 n
  | .ofNat a, v, e => by
    have e : @Bool.rec (fun _ => Nat → RO) (fun _ => .er [40]) (fun a => .ok (.int .i64 (.ofNat a))) (Nat.ble a 9223372036854775807) a = .ok v := e
    cases hb : Nat.ble a 9223372036854775807 with
    | false => rw [hb] at e; cases e
    | true => rw [hb] at e; cases e; exact ⟨yanf (n := .ofNat a) hb, rfl⟩
  | .negSucc a, v, e => by
    have e : @Bool.rec (fun _ => Nat → RO) (fun _ => .er [40]) (fun a => .ok (.int .i64 (.negSucc a))) (Nat.ble a 9223372036854775807) a = .ok v := e
    cases hb : Nat.ble a 9223372036854775807 with
    | false => rw [hb] at e; cases e
    | true => rw [hb] at e; cases e; exact ⟨yanf (n := .negSucc a) hb, rfl⟩
theorem yalw {r : RV} {v : Value} (e : toRO r = .ok v) : ∃ H', r = .ok v H' := by
  cases r with
  | ok u H => cases e; exact ⟨H, rfl⟩
  | er l => cases e
theorem yasy {v v' : Value} (e : RO.ok v = .ok v') : v' = v := by cases e; rfl
def IntR (op : BinOp) (x y v : Value) : Prop := ∃ k a k' b, x = .int k a ∧ y = .int k' b ∧ (∀ ψ : Phi, VR ψ v v) ∧ ∀ K : Value → Prop, K v → intV op k k' a b K
theorem IntR.of {op : BinOp} {k k' : IntKind} {a b : Int} {v : Value} (e : toRO (intC op k k' a b H00) = .ok v) : IntR op (.int k a) (.int k' b) v := by
  obtain ⟨H', e⟩ := yalw e
  obtain ⟨_, h1, h2⟩ := yayg e
  exact ⟨k, a, k', b, rfl, rfl, h1, h2⟩
theorem ybcp {x y v : Value} (e : addO x y = .ok v) : IntR .add x y v := by
  cases x <;> first | (cases e; done) | skip
  cases y <;> first | (cases e; done) | skip
  rename_i k a k' b
  cases k <;> first | exact IntR.of e | skip
  cases k' <;> first | (cases e; done) | skip
  obtain ⟨h1, rfl⟩ := yaze (show arR (iadd a b) = .ok v from e)
  rw [yaye] at h1 ⊢
  exact ⟨_, _, _, _, rfl, rfl, fun ψ => .int _ _, fun K hK => ⟨h1, hK⟩⟩
theorem ybaz {x y v : Value} (e : subO x y = .ok v) : IntR .sub x y v := by
  cases x <;> first | (cases e; done) | skip
  cases y <;> first | (cases e; done) | skip
  rename_i k a k' b
  cases k <;> first | exact IntR.of e | skip
  cases k' <;> first | (cases e; done) | skip
  obtain ⟨h1, rfl⟩ := yaze (show arR (iadd a (ineg b)) = .ok v from e)
  have e2 : a + -b = a - b := by omega
  rw [yaye, ybbl, e2] at h1 ⊢
  exact ⟨_, _, _, _, rfl, rfl, fun ψ => .int _ _, fun K hK => ⟨h1, hK⟩⟩
theorem ybhy {x y v : Value} (e : ltO x y = .ok v) : IntR .lss x y v := by
  cases x <;> first | (cases e; done) | skip
  cases y <;> first | (cases e; done) | skip
  rename_i k a k' b
  have fin : ∀ {k : IntKind}, RO.ok (.bool (ilt a b)) = .ok v → IntR .lss (.int k a) (.int k b) v := fun {k} e => by
    cases e
    refine ⟨_, _, _, _, rfl, rfl, fun ψ => .bool _, fun K hK => ?_⟩
    rw [yauu, zlt_eq] at hK
    have hk : Nat.beq (kNum k) (kNum k) = true := by simp
    simp only [intV, hk]
    exact hK
  cases k <;> first | exact IntR.of e | (cases k' <;> first | exact fin e | (cases e; done))
theorem ybfj {x y v : Value} (e : leO x y = .ok v) : IntR .leq x y v := by
  cases x <;> first | (cases e; done) | skip
  cases y <;> first | (cases e; done) | skip
  rename_i k a k' b
  have fin : ∀ {k : IntKind}, notO (ilt b a) = .ok v → IntR .leq (.int k a) (.int k b) v := fun {k} e => by
    rw [yamc] at e
    cases e
    refine ⟨_, _, _, _, rfl, rfl, fun ψ => .bool _, fun K hK => ?_⟩
    rw [yauu, zlt_eq] at hK
    have hk : Nat.beq (kNum k) (kNum k) = true := by simp
    simp only [intV, hk]
    simpa only [← decide_not, Int.not_lt] using hK
  cases k <;> first | exact IntR.of e | (cases k' <;> first | exact fin e | (cases e; done))
theorem yber {x y v : Value} (e : gtO x y = .ok v) : IntR .gtr x y v := by
  cases x <;> first | (cases e; done) | skip
  cases y <;> first | (cases e; done) | skip
  rename_i k a k' b
  have fin : ∀ {k : IntKind}, RO.ok (.bool (ilt b a)) = .ok v → IntR .gtr (.int k a) (.int k b) v := fun {k} e => by
    cases e
    refine ⟨_, _, _, _, rfl, rfl, fun ψ => .bool _, fun K hK => ?_⟩
    rw [yauu, zlt_eq] at hK
    have hk : Nat.beq (kNum k) (kNum k) = true := by simp
    simp only [intV, hk]
    exact hK
  cases k <;> first | exact IntR.of e | (cases k' <;> first | exact fin e | (cases e; done))
theorem ybhf {x y v : Value} (e : geO x y = .ok v) : IntR .geq x y v := by
  cases x <;> first | (cases e; done) | skip
  cases y <;> first | (cases e; done) | skip
  rename_i k a k' b
  have fin : ∀ {k : IntKind}, notO (ilt a b) = .ok v → IntR .geq (.int k a) (.int k b) v := fun {k} e => by
    rw [yamc] at e
    cases e
    refine ⟨_, _, _, _, rfl, rfl, fun ψ => .bool _, fun K hK => ?_⟩
    rw [yauu, zlt_eq] at hK
    have hk : Nat.beq (kNum k) (kNum k) = true := by simp
    simp only [intV, hk]
    simpa only [← decide_not, Int.not_lt] using hK
  cases k <;> first | exact IntR.of e | (cases k' <;> first | exact fin e | (cases e; done))
theorem yavy : ∀ a b : List UInt8, eqS a b = eqU a b
  | [], [] => rfl
  | [], _ :: _ => rfl
  | _ :: _, [] => rfl
  | a :: r, b :: s => by
    have e : eqS (a :: r) (b :: s) = @Bool.rec (fun _ => List UInt8 → (List UInt8 → Bool) → Bool) (fun _ _ => false) (fun r ih => ih r) (Nat.beq (u8n a) (u8n b)) s (eqS r) := rfl
    rw [e]
    unfold eqU
    cases Nat.beq (u8n a) (u8n b) with
    | true => exact yavy r s
    | false => rfl
theorem ybfu {x y v : Value} (e : eqO x y = .ok v) : IntR .eql x y v ∨ ∃ a b, x = .string a ∧ y = .string b ∧ v = .bool (strEq a b) := by
  cases x <;> first | (cases e; done) | skip
  · cases y <;> first | (cases e; done) | skip
    rename_i k a k' b
    have fin : ∀ {k : IntKind}, RO.ok (.bool (ieq a b)) = .ok v → IntR .eql (.int k a) (.int k b) v := fun {k} e => by
      cases e
      refine ⟨_, _, _, _, rfl, rfl, fun ψ => .bool _, fun K hK => ?_⟩
      rw [ybbk, zeq_eq] at hK
      have hk : Nat.beq (kNum k) (kNum k) = true := by simp
      simp only [intV, hk]
      exact hK
    cases k <;> (cases k' <;> first | exact .inl (fin e) | (cases e; done))
  · cases y <;> first | (cases e; done) | skip
    rename_i a b
    refine .inr ⟨a, b, rfl, rfl, ?_⟩
    rw [yatn, ← yavy]
    exact yasy (show RO.ok (.bool (eqS (bl a) (bl b))) = .ok v from e)
theorem ybga {x y v : Value} (e : neO x y = .ok v) : IntR .neq x y v ∨ ∃ a b, x = .string a ∧ y = .string b ∧ v = .bool (!strEq a b) := by
  cases x <;> first | (cases e; done) | skip
  · cases y <;> first | (cases e; done) | skip
    rename_i k a k' b
    have fin : ∀ {k : IntKind}, notO (ieq a b) = .ok v → IntR .neq (.int k a) (.int k b) v := fun {k} e => by
      rw [yamc] at e
      cases e
      refine ⟨_, _, _, _, rfl, rfl, fun ψ => .bool _, fun K hK => ?_⟩
      rw [ybbk, zeq_eq] at hK
      have hk : Nat.beq (kNum k) (kNum k) = true := by simp
      simp only [intV, hk]
      exact hK
    cases k <;> (cases k' <;> first | exact .inl (fin e) | (cases e; done))
  · cases y <;> first | (cases e; done) | skip
    rename_i a b
    refine .inr ⟨a, b, rfl, rfl, ?_⟩
    have e : notO (eqS (bl a) (bl b)) = .ok v := e
    rw [yamc] at e
    rw [yatn, ← yavy]
    exact yasy e
theorem IntR.hq {op : BinOp} {x y x' y' v : Value} {t : TypeId} {xo yo : Operand} (r : IntR op x y v) (hx : VR φ x x') (hy : VR φ y y') : Sx.hq P (do eqGuard op t xo yo x' y'; binOp op t x' y') h (VR φ v) := by
  obtain ⟨k, a, k', b, rfl, rfl, h1, h2⟩ := r
  obtain rfl := hx.int_inv
  obtain rfl := hy.int_inv
  exact yakk (h2 _ (h1 φ))
theorem ybcc {op : BinOp} {t : TypeId} {xo yo : Operand} {x y x' y' v : Value} (hx : VR φ x x') (hy : VR φ y y') (e : (binO P op t).run x y = .ok v) :
    Sx.hq P (do eqGuard op t xo yo x' y'; binOp op t x' y') h (VR φ v) := by
  have back : ∀ {op : BinOp}, toRO (binC P op t x y H00) = .ok v → Sx.hq P (do eqGuard op t xo yo x' y'; binOp op t x' y') h (VR φ v) := fun {op} e => by
    obtain ⟨H', e⟩ := yalw e
    exact (ybcg hx hy e).2
  unfold binO at e
  cases op <;> simp only [] at e <;> first | exact back e | skip
  · split at e
    · exact (ybcp e).hq hx hy
    · exact back e
  · exact (ybaz e).hq hx hy
  · split at e
    · rcases ybfu e with r | ⟨a, b, rfl, rfl, rfl⟩
      · exact r.hq hx hy
      · obtain rfl := hx.str_inv
        obtain rfl := hy.str_inv
        exact yagx (VR.bool _)
    · exact back e
  · split at e
    · rcases ybga e with r | ⟨a, b, rfl, rfl, rfl⟩
      · exact r.hq hx hy
      · obtain rfl := hx.str_inv
        obtain rfl := hy.str_inv
        exact yagx (VR.bool _)
    · exact back e
  · split at e
    · exact (ybhy e).hq hx hy
    · exact back e
  · split at e
    · exact (ybfj e).hq hx hy
    · exact back e
  · split at e
    · exact (yber e).hq hx hy
    · exact back e
  · split at e
    · exact (ybhf e).hq hx hy
    · exact back e
theorem ybfn {op : BinOp} {t : TypeId} {xo : Operand} {yv x x' v : Value} (hx : VR φ x x') (ht : isIfT P t = true) (e : (op = .eql ∧ nifE x = .ok v) ∨ (op = .neq ∧ nifN x = .ok v)) :
    Sx.hq P (do eqGuard op t xo (.const yv) x' .nilIface; binOp op t x' .nilIface) h (VR φ v) := by
  have hu : ∃ ms, P.underlying t = some (.interface ms) := by
    unfold isIfT at ht
    split at ht
    · exact ⟨_, ‹_›⟩
    · cases ht
  obtain ⟨ms, hu⟩ := hu
  have eq0 : ∀ K : Bool → Prop, K true → Sx.hq P (Op.equal t .nilIface .nilIface) h K := fun K hK => by
    unfold Op.equal Op.maxDepth Op.equalIn
    rw [yaab, yaaf, hu]
    exact hK
  have eq1 : ∀ (d : TypeId) (w : Value) (K : Bool → Prop), K false → Sx.hq P (Op.equal t (.iface d w) .nilIface) h K := fun d w K hK => by
    unfold Op.equal Op.maxDepth Op.equalIn
    rw [yaab, yaaf, hu]
    exact hK
  have g0 : ∀ op, eqGuard op t xo (.const yv) .nilIface .nilIface = pure () := fun op => by
    unfold eqGuard
    cases op <;> simp
  have g1 : ∀ op d w, eqGuard op t xo (.const yv) (.iface d w) .nilIface = pure () := fun op d w => by
    unfold eqGuard
    cases op <;> simp
  rcases e with ⟨rfl, e⟩ | ⟨rfl, e⟩
  · cases hx <;> first | (cases e; done) | skip
    · cases e
      rw [yaab, g0]
      show Sx.hq P (do pure (Value.bool (← Op.equal t .nilIface .nilIface)) : Sem Value) h _
      rw [yaab]
      exact eq0 _ (VR.bool _)
    · cases e
      rw [yaab, g1]
      show Sx.hq P (do pure (Value.bool (← Op.equal t (.iface _ _) .nilIface)) : Sem Value) h _
      rw [yaab]
      exact eq1 _ _ _ (VR.bool _)
  · cases hx <;> first | (cases e; done) | skip
    · cases e
      rw [yaab, g0]
      show Sx.hq P (do pure (Value.bool (!(← Op.equal t .nilIface .nilIface))) : Sem Value) h _
      rw [yaab]
      exact eq0 _ (VR.bool _)
    · cases e
      rw [yaab, g1]
      show Sx.hq P (do pure (Value.bool (!(← Op.equal t (.iface _ _) .nilIface))) : Sem Value) h _
      rw [yaab]
      exact eq1 _ _ _ (VR.bool _)
end
open Go
section
variable {P : Program} {φ : Phi} {h : Hp}
theorem yaym {c a b v : Value} (e : pickF c a b = .ok v) : ∃ t, c = .bool t ∧ v = if t then a else b := by
  cases c <;> first | (cases e; done) | skip
  rename_i t
  cases t <;> (cases e; exact ⟨_, rfl, rfl⟩)
theorem ybcy {x v : Value} (e : nilF x = .ok v) : v = x ∧ ((∃ a, x = .pointer (some a)) ∨ ∃ f a b, x = .func (.func f) a b) := by
  cases x <;> first | (cases e; done) | skip
  · rename_i p
    cases p with
    | none => cases e
    | some a => cases e; exact ⟨rfl, .inl ⟨a, rfl⟩⟩
  · rename_i fn a b
    cases fn <;> first | (cases e; done) | skip
    cases e; exact ⟨rfl, .inr ⟨_, _, _, rfl⟩⟩
theorem ybcm {x v : Value} {n : Nat} (e : fldF x n = .ok v) : ∃ a, x = .pointer (some a) ∧ v = .pointer (some (addA a n)) := by
  cases x <;> first | (cases e; done) | skip
  rename_i p
  cases p with
  | none => cases e
  | some a => cases e; exact ⟨a, rfl, rfl⟩
theorem ybeu {x i v : Value} {sz : Nat} (e : ixS x i sz = .ok v) : ∃ a n c k m, x = .slice (some a) n c ∧ i = .int k (.ofNat m) ∧ m < n ∧ v = .pointer (some (addA a (m * sz))) := by
  cases x <;> first | (cases e; done) | skip
  rename_i p n c
  cases p with
  | none => cases e
  | some a =>
    cases i <;> first | (cases e; done) | skip
    rename_i k m
    cases m with
    | negSucc m => cases e
    | ofNat m =>
      have e : @Bool.rec (fun _ => Nat → Addr → Nat → RO) (fun _ _ _ => .er [58]) (fun m a sz => .ok (.pointer (some (addA a (Nat.mul m sz))))) (Nat.ble (Nat.succ m) n) m a sz = .ok v := e
      cases hb : Nat.ble (Nat.succ m) n with
      | false => rw [hb] at e; cases e
      | true => rw [hb] at e; cases e; exact ⟨a, n, c, k, m, rfl, rfl, Nat.le_of_ble_eq_true hb, rfl⟩
theorem yaor : ∀ l : List UInt8, lenL l = l.length
  | [] => rfl
  | _ :: r => by rw [List.length_cons, ← yaor r]; rfl
theorem ybbg {x v : Value} (e : lenS x = .ok v) : ∃ s, x = .string s ∧ v = .int .i64 s.size := by
  cases x <;> first | (cases e; done) | skip
  cases e
  exact ⟨_, rfl, by rw [yaor, yaia]; rfl⟩
theorem ybcq {x v : Value} (e : lenV' x = .ok v) : ∃ p n c, x = .slice p n c ∧ v = .int .i64 n := by
  cases x <;> first | (cases e; done) | skip
  cases e
  exact ⟨_, _, _, rfl, rfl⟩
theorem yayh : ∀ (l : List UInt8) (i : Nat), nthB l i = l[i]?
  | [], _ => rfl
  | _ :: _, 0 => rfl
  | _ :: r, i + 1 => by rw [List.getElem?_cons_succ, ← yayh r i]; rfl
theorem yarr : ∀ {l : List UInt8} {i : Nat} {t : TT UInt8 4} {j : Nat} {b : UInt8}, TT.get (strW l i t) j = some b → (i ≤ j ∧ l[j - i]? = some b) ∨ TT.get t j = some b
  | [], i, t, j, b, h => .inr h
  | x :: r, i, t, j, b, h => by
    have h : TT.get (strW r (i + 1) (TT.set t i (some x))) j = some b := h
    rcases yarr h with ⟨h1, h2⟩ | h2
    · refine .inl ⟨by omega, ?_⟩
      have : j - i = (j - (i + 1)) + 1 := by omega
      rw [this]; simpa using h2
    · rcases (TT.set_get t i j (some x)).2 _ h2 with ⟨rfl, he⟩ | ⟨_, h2⟩
      · exact .inl ⟨Nat.le_refl _, by simpa using he⟩
      · exact .inr h2
theorem yasa {o : Option UInt8} {v : Value} (e : byteO o = .ok v) : ∃ b, o = some b ∧ v = .int .u8 b.toNat := by
  cases o with
  | none => cases e
  | some b => cases e; exact ⟨b, rfl, rfl⟩
theorem ybaj {x i v : Value} (e : ixStr x i = .ok v) : ∃ s k m b, x = .string s ∧ i = .int k (.ofNat m) ∧ (bl s)[m]? = some b ∧ v = .int .u8 b.toNat := by
  cases x <;> first | (cases e; done) | skip
  rename_i s
  cases i <;> first | (cases e; done) | skip
  rename_i k m
  cases m with
  | negSucc m => cases e
  | ofNat m =>
    have e : @Bool.rec (fun _ => ByteArray → Nat → RO) (fun s m => byteO (TT.get (strT s) m)) (fun s m => byteO (nthB (bl s) m)) (Nat.ble m 12) s m = .ok v := e
    cases hb : Nat.ble m 12 with
    | true =>
      rw [hb] at e
      obtain ⟨b, h1, h2⟩ := yasa (show byteO (nthB (bl s) m) = .ok v from e)
      rw [yayh] at h1
      exact ⟨s, k, m, b, rfl, rfl, h1, h2⟩
    | false =>
      rw [hb] at e
      obtain ⟨b, h1, h2⟩ := yasa (show byteO (TT.get (strT s) m) = .ok v from e)
      rcases yarr h1 with ⟨_, h1⟩ | h1
      · exact ⟨s, k, m, b, rfl, rfl, by simpa using h1, h2⟩
      · rw [yamj] at h1; cases h1
theorem ybcs {x v : Value} {i : Nat} (e : extF x i = .ok v) : ∃ vs, x = .tuple vs ∧ vs.toList[i]? = some v := by
  cases x <;> first | (cases e; done) | skip
  rename_i vs
  have e : @Option.rec Value (fun _ => RO) (.er [120]) (fun v => .ok v) (nthR vs.toList i) = .ok v := e
  cases hn : nthR vs.toList i with
  | none => rw [hn] at e; cases e
  | some u => rw [hn] at e; cases e; rw [yaef] at hn; exact ⟨vs, rfl, hn⟩
theorem ybca {x v : Value} {o : Nat} (e : fldV o x = .ok v) : ∃ cs, x = .agg cs ∧ cs.toList[o]? = some v := by
  cases x <;> first | (cases e; done) | skip
  rename_i vs
  have e : @Option.rec Value (fun _ => RO) (.er [55]) (fun v => .ok v) (nthR vs.toList o) = .ok v := e
  cases hn : nthR vs.toList o with
  | none => rw [hn] at e; cases e
  | some u => rw [hn] at e; cases e; rw [yaef] at hn; exact ⟨vs, rfl, hn⟩
theorem ybdy {x v : Value} {o n : Nat} (e : fldL o n x = .ok v) : ∃ cs, x = .agg cs ∧ v = .agg ⟨(cs.toList.drop o).take n⟩ := by
  cases x <;> first | (cases e; done) | skip
  rename_i vs
  have e : @Option.rec (List Value) (fun _ => RO) (.er [55]) (fun v => .ok (.agg ⟨v⟩)) (tkR n (drpR vs.toList o)) = .ok v := e
  cases hn : tkR n (drpR vs.toList o) with
  | none => rw [hn] at e; cases e
  | some u =>
    rw [hn] at e; cases e
    obtain ⟨h1, _⟩ := yakg hn
    rw [yanu] at h1
    exact ⟨vs, rfl, by rw [h1]⟩
theorem yben {x i v : Value} {n sz : Nat} (e : ixA1 n sz x i = .ok v) : ∃ cs k m, x = .agg cs ∧ i = .int k (.ofNat m) ∧ m < n ∧ cs.toList[m * sz]? = some v := by
  cases x <;> first | (cases e; done) | skip
  rename_i vs
  cases i <;> first | (cases e; done) | skip
  rename_i k m
  cases m with
  | negSucc m => cases e
  | ofNat m =>
    have e : @Bool.rec (fun _ => Nat → Array Value → Nat → RO) (fun _ _ _ => .er [67]) (fun m cs sz => @Option.rec Value (fun _ => RO) (.er [55]) (fun v => .ok v) (nthR cs.toList (Nat.mul m sz))) (Nat.ble (Nat.succ m) n) m vs sz = .ok v := e
    cases hb : Nat.ble (Nat.succ m) n with
    | false => rw [hb] at e; cases e
    | true =>
      rw [hb] at e
      have e : @Option.rec Value (fun _ => RO) (.er [55]) (fun v => .ok v) (nthR vs.toList (m * sz)) = .ok v := e
      cases hn : nthR vs.toList (m * sz) with
      | none => rw [hn] at e; cases e
      | some u => rw [hn] at e; cases e; rw [yaef] at hn; exact ⟨vs, k, m, rfl, rfl, Nat.le_of_ble_eq_true hb, hn⟩
theorem ybef {x i v : Value} {n sz : Nat} (e : ixAL n sz x i = .ok v) : ∃ cs k m, x = .agg cs ∧ i = .int k (.ofNat m) ∧ m < n ∧ v = .agg ⟨(cs.toList.drop (m * sz)).take sz⟩ := by
  cases x <;> first | (cases e; done) | skip
  rename_i vs
  cases i <;> first | (cases e; done) | skip
  rename_i k m
  cases m with
  | negSucc m => cases e
  | ofNat m =>
    have e : @Bool.rec (fun _ => Nat → Array Value → Nat → RO) (fun _ _ _ => .er [67]) (fun m cs sz => @Option.rec (List Value) (fun _ => RO) (.er [55]) (fun v => .ok (.agg ⟨v⟩)) (tkR sz (drpR cs.toList (Nat.mul m sz)))) (Nat.ble (Nat.succ m) n) m vs sz = .ok v := e
    cases hb : Nat.ble (Nat.succ m) n with
    | false => rw [hb] at e; cases e
    | true =>
      rw [hb] at e
      have e : @Option.rec (List Value) (fun _ => RO) (.er [55]) (fun v => .ok (.agg ⟨v⟩)) (tkR sz (drpR vs.toList (m * sz))) = .ok v := e
      cases hn : tkR sz (drpR vs.toList (m * sz)) with
      | none => rw [hn] at e; cases e
      | some u =>
        rw [hn] at e; cases e
        obtain ⟨h1, _⟩ := yakg hn
        rw [yanu] at h1
        exact ⟨vs, k, m, rfl, rfl, Nat.le_of_ble_eq_true hb, by rw [h1]⟩
theorem ybbi {x v : Value} {k : IntKind} (e : cvtI k x = .ok v) : ∃ k0 n, x = .int k0 n ∧ (∀ ψ : Phi, VR ψ v v) ∧ ∀ K : Value → Prop, K v → arith k n K := by
  cases x <;> first | (cases e; done) | skip
  rename_i k0 n
  cases k <;> first | (cases e; exact ⟨_, _, rfl, fun _ => .int _ _, fun K hK => hK⟩) | skip
  obtain ⟨h1, rfl⟩ := yaze (show arR n = .ok v from e)
  exact ⟨_, _, rfl, fun _ => .int _ _, fun K hK => ⟨h1, hK⟩⟩
theorem ybdq {x v : Value} (e : notF x = .ok v) : ∃ b, x = .bool b ∧ v = .bool (!b) := by
  cases x <;> first | (cases e; done) | skip
  rename_i b
  have e : notO b = .ok v := e
  rw [yamc] at e
  cases e
  exact ⟨b, rfl, rfl⟩
end
end Go.Sx
