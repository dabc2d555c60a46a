/- What each operation asks, written out: the quiet ones. -/
import Derived.Test.YtaemnjblcpknpaaSxA
namespace Go.Sx
open Go

/-! ### typed existence, after a type's zero value -/
abbrev Ex0 (z : Value) (B : Value → Prop) : Prop :=
  match z with
  | .int k _ => ∃ n : Int, B (.int k n)
  | .bool _ => ∃ b : Bool, B (.bool b)
  | .string _ => ∃ s : ByteArray, B (.string s)
  | .pointer _ => ∃ p : Option Addr, B (.pointer p)
  | .slice _ _ _ => ∃ (a : Option Addr) (l c : Nat), B (.slice a l c)
  | _ => ∃ v, B v
abbrev ExL : List Value → (List Value → Prop) → Prop
  | [], B => B []
  | z :: zs, B => Ex0 z fun v => ExL zs fun vs => B (v :: vs)
abbrev Ex1 (z : Value) (B : Value → Prop) : Prop :=
  match z with
  | .agg zs => ExL zs.toList fun vs => B (.agg vs.toArray)
  | z => Ex0 z B
abbrev Ex1L : List Value → (List Value → Prop) → Prop
  | [], B => B []
  | z :: zs, B => Ex1 z fun v => Ex1L zs fun vs => B (v :: vs)
abbrev Ex2 (z : Value) (B : Value → Prop) : Prop :=
  match z with
  | .tuple zs => Ex1L zs.toList fun vs => B (.tuple vs.toArray)
  | z => Ex1 z B
abbrev zeroOf (P : Program) (t : TypeId) : Value := match P.info? t with | some i => (match i.zero with | some z => z | none => .nilFunc) | none => .nilFunc
abbrev sizeOfT (P : Program) (t : TypeId) : Nat := match P.info? t with | some i => i.size | none => 0
abbrev ExT (P : Program) (t : TypeId) (B : Value → Prop) : Prop := Ex2 (zeroOf P t) B

theorem Ex0.out {z : Value} {B : Value → Prop} (h : Ex0 z B) : ∃ v, B v := by
  cases z <;> simp only [Ex0] at h <;> first | (obtain ⟨n, h⟩ := h; exact ⟨_, h⟩) | (obtain ⟨a, l, c, h⟩ := h; exact ⟨_, h⟩)
theorem ExL.out : ∀ {zs : List Value} {B : List Value → Prop}, ExL zs B → ∃ vs, vs.length = zs.length ∧ B vs
  | [], _, h => ⟨[], rfl, h⟩
  | z :: zs, B, h => by
    obtain ⟨v, h⟩ := Ex0.out h
    obtain ⟨vs, hl, h⟩ := ExL.out h
    exact ⟨v :: vs, by simp [hl], h⟩
theorem Ex1.out {z : Value} {B : Value → Prop} (h : Ex1 z B) : ∃ v, B v := by
  cases z <;> simp only [Ex1] at h <;> first | exact Ex0.out h | (obtain ⟨vs, _, h⟩ := ExL.out h; exact ⟨_, h⟩)
theorem Ex1L.out : ∀ {zs : List Value} {B : List Value → Prop}, Ex1L zs B → ∃ vs, B vs
  | [], _, h => ⟨[], h⟩
  | z :: zs, B, h => by
    obtain ⟨v, h⟩ := Ex1.out h
    obtain ⟨vs, h⟩ := Ex1L.out h
    exact ⟨v :: vs, h⟩
theorem Ex2.out {z : Value} {B : Value → Prop} (h : Ex2 z B) : ∃ v, B v := by
  cases z <;> simp only [Ex2] at h <;> first | exact Ex1.out h | (obtain ⟨vs, h⟩ := Ex1L.out h; exact ⟨_, h⟩)

/-! ### arithmetic -/
abbrev InR (n : Int) : Prop := -9223372036854775808 ≤ n ∧ n ≤ 9223372036854775807
/-- A check that the kernel decides. -/
abbrev chk (b : Bool) (X : Prop) : Prop := match b with | true => X | false => False
abbrev arith (k : IntKind) (n : Int) (K : Value → Prop) : Prop :=
  match k with
  | .i64 => InR n ∧ K (.int .i64 n)
  | k => K (.int k (k.wrap n))
def Quo (k : IntKind) (a b q : Int) : Prop := b ≠ 0 ∧ q = k.wrap (a.tdiv b)
def Rem (a b q : Int) : Prop := b ≠ 0 ∧ q = a.tmod b
def Shl (k : IntKind) (a b r : Int) : Prop := 0 ≤ b ∧ r = k.wrap (a * 2 ^ (min b.toNat k.bits))
def Shr (k : IntKind) (a b r : Int) : Prop := 0 ≤ b ∧ r = a.fdiv (2 ^ (min b.toNat k.bits))
def And (k : IntKind) (a b r : Int) : Prop := r = k.wrap ((BitVec.ofInt k.bits a) &&& (BitVec.ofInt k.bits b)).toNat
def Or (k : IntKind) (a b r : Int) : Prop := r = k.wrap ((BitVec.ofInt k.bits a) ||| (BitVec.ofInt k.bits b)).toNat
def Xor (k : IntKind) (a b r : Int) : Prop := r = k.wrap ((BitVec.ofInt k.bits a) ^^^ (BitVec.ofInt k.bits b)).toNat
def AndNot (k : IntKind) (a b r : Int) : Prop := r = k.wrap ((BitVec.ofInt k.bits a) &&& ~~~(BitVec.ofInt k.bits b)).toNat

def kNum : IntKind → Nat
  | .i8 => 0 | .i16 => 1 | .i32 => 2 | .i64 => 3 | .u8 => 4 | .u16 => 5 | .u32 => 6 | .u64 => 7
theorem kNum_inj {a b : IntKind} (h : Nat.beq (kNum a) (kNum b) = true) : a = b := by cases a <;> cases b <;> first | rfl | (exact absurd h (by decide))

abbrev intV (op : BinOp) (k k' : IntKind) (a b : Int) (K : Value → Prop) : Prop :=
  match op with
  | .shl => ∃ r, Shl k a b r ∧ K (.int k r)
  | .shr => ∃ r, Shr k a b r ∧ K (.int k r)
  | op => chk (Nat.beq (kNum k) (kNum k')) (match op with
    | .add => arith k (a + b) K
    | .sub => arith k (a - b) K
    | .mul => arith k (a * b) K
    | .quo => ∃ r, Quo k a b r ∧ K (.int k r)
    | .rem => ∃ r, Rem a b r ∧ K (.int k r)
    | .and => ∃ r, And k a b r ∧ K (.int k r)
    | .or => ∃ r, Or k a b r ∧ K (.int k r)
    | .xor => ∃ r, Xor k a b r ∧ K (.int k r)
    | .andNot => ∃ r, AndNot k a b r ∧ K (.int k r)
    | .eql => K (.bool (decide (a = b)))
    | .neq => K (.bool (!decide (a = b)))
    | .lss => K (.bool (decide (a < b)))
    | .leq => K (.bool (decide (a ≤ b)))
    | .gtr => K (.bool (decide (b < a)))
    | .geq => K (.bool (decide (b ≤ a)))
    | _ => False)
def strEq (a b : ByteArray) : Bool := a.toList == b.toList
def strLt (a b : ByteArray) : Bool := Op.bytesLess a.toList b.toList
abbrev strV (op : BinOp) (a b : ByteArray) (K : Value → Prop) : Prop :=
  match op with
  | .add => InR (a.size + b.size) ∧ K (.string (a ++ b))
  | .eql => K (.bool (strEq a b))
  | .neq => K (.bool (!strEq a b))
  | .lss => K (.bool (strLt a b))
  | .leq => K (.bool (strLt a b || strEq a b))
  | .gtr => K (.bool (!(strLt a b || strEq a b)))
  | .geq => K (.bool (!strLt a b))
  | _ => False
abbrev eqlV (op : BinOp) (b : Bool) (K : Value → Prop) : Prop :=
  match op with
  | .eql => K (.bool b)
  | .neq => K (.bool (!b))
  | _ => False
abbrev isBoolT (P : Program) (t : TypeId) : Bool := match P.underlying t with | some .bool => true | _ => false
abbrev isPtrT (P : Program) (t : TypeId) : Bool := match P.underlying t with | some (.pointer _) => true | _ => false
abbrev isSliceT (P : Program) (t : TypeId) : Bool := match P.underlying t with | some (.slice _) => true | _ => false
abbrev isStringT (P : Program) (t : TypeId) : Bool := match P.underlying t with | some .string => true | _ => false
/-- Two values of a struct or an array are equal, or not. -/
def eqC (P : Program) (op : BinOp) (t : TypeId) (xo yo : Operand) (x y : Value) (h : Hp) (b : Bool) : Prop := hq P (do eqGuard op t xo yo x y; binOp op t x y) h fun v => v = .bool b
/-- A full slice. -/
def slC (P : Program) (t : TypeId) (x : Value) (lo hi : Option Value) (m : Value) (h : Hp) (a : Option Addr) (l c : Nat) : Prop := hq P (Instr.sliceAt t x lo hi (some m)) h fun v => v = .slice a l c
abbrev binV (P : Program) (op : BinOp) (t : TypeId) (xo yo : Operand) (x y : Value) (h : Hp) (K : Value → Prop) : Prop :=
  match x, y with
  | .int k a, .int k' b => intV op k k' a b K
  | .string a, .string b => strV op a b K
  | .bool a, .bool b => chk (isBoolT P t) (eqlV op (a == b) K)
  | .pointer p, .pointer none => chk (isPtrT P t) (eqlV op p.isNone K)
  | .slice a _ _, .slice none _ _ => chk (isSliceT P t) (eqlV op a.isNone K)
  | .agg xs, .agg ys => ∃ b : Bool, eqC P op t xo yo (.agg xs) (.agg ys) h b ∧ K (.bool b)
  | x, y => hq P (do eqGuard op t xo yo x y; binOp op t x y) h K

abbrev pickV (c a b : Value) (K : Value → Prop) : Prop :=
  match c with
  | .bool t => (match a, b with
    | .bool x, .bool y => K (.bool (cond t x y))
    | a, b => (match t with | true => K a | false => K b))
  | _ => False
abbrev NN (p : Option Addr) (k : Addr → Prop) : Prop := match p with | some a => k a | none => False
abbrev nilV (v : Value) (K : Value → Prop) : Prop :=
  match v with
  | .pointer p => NN p fun a => K (.pointer (some a))
  | .func (.func f) x c => K (.func (.func f) x c)
  | _ => False
abbrev addrV (v : Value) (k : Addr → Prop) : Prop := match v with | .pointer p => NN p k | _ => False
abbrev unV (op : UnOp) (v : Value) (K : Value → Prop) : Prop :=
  match op, v with
  | .neg, .int k n => arith k (0 - n) K
  | .not, .bool b => K (.bool (!b))
  | .xor, .int k n => ∃ r, Xor k (if k.signed then -1 else k.max) n r ∧ K (.int k r)
  | _, _ => False
abbrev intKindT (P : Program) (t : TypeId) : Option IntKind := match P.underlying t with | some (.int k) => some k | _ => none
abbrev convV (P : Program) (src dst : TypeId) (v : Value) (K : Value → Prop) : Prop :=
  match intKindT P src, intKindT P dst, v with
  | some _, some k, .int _ n => arith k n K
  | none, none, .string s => chk (isStringT P src && isStringT P dst) (K (.string s))
  | _, _, _ => False
abbrev isAggT (P : Program) (t : TypeId) : Option Bool :=
  match P.underlying t with
  | some (.struct _) | some (.array _ _) => some true
  | some _ => some false
  | none => none
abbrev cellsAt (h : Hp) (a : Addr) : Nat → List Value → Prop → Prop
  | _, [], K => K
  | i, v :: vs, K => cell h (a.add i) = some v ∧ cellsAt h a (i + 1) vs K
abbrev aggCells : Value → List Value | .agg zs => zs.toList | _ => []
abbrev loadV (P : Program) (t : TypeId) (a : Addr) (h : Hp) (K : Value → Prop) : Prop :=
  match isAggT P t with
  | some true => chk (Nat.beq (aggCells (zeroOf P t)).length (sizeOfT P t)) (ExL (aggCells (zeroOf P t)) fun vs => cellsAt h a 0 vs (K (.agg vs.toArray)))
  | some false => Ex0 (zeroOf P t) fun v => cell h a = some v ∧ K v
  | none => False
abbrev nth {α : Type} : List α → Nat → Option α
  | [], _ => none
  | x :: _, 0 => some x
  | _ :: r, n + 1 => nth r n
abbrev fieldOf (P : Program) (s : TypeId) (f : Nat) : Option Field := match P.underlying s with | some (.struct fs) => nth fs.toList f | _ => none
abbrev partV (P : Program) (t : TypeId) (cs : List Value) (off : Nat) (K : Value → Prop) : Prop :=
  match isAggT P t with
  | some true => K (.agg ((cs.drop off).take (sizeOfT P t)).toArray)
  | some false => (match nth cs off with | some v => K v | none => False)
  | none => False
abbrev withSize (P : Program) (e : TypeId) : Option (TypeId × Nat) := match P.info? e with | some i => some (e, i.size) | none => none
/-- A slice type's element type and its size; an array's length beside. -/
abbrev elemT (P : Program) (t : TypeId) : Option (TypeId × Nat) := match P.underlying t with | some (.slice e) => withSize P e | _ => none
abbrev arrT (P : Program) (t : TypeId) : Option (Nat × TypeId × Nat) := match P.underlying t with | some (.array n e) => (match withSize P e with | some r => some (n, r) | none => none) | _ => none
abbrev indexAddrV (P : Program) (t : TypeId) (x i : Value) (K : Value → Prop) : Prop :=
  match i with
  | .int _ i => (match x with
    | .slice p len _ => (match elemT P t with
      | some (_, sz) => (0 ≤ i ∧ i < len) ∧ NN p fun a => K (.pointer (some (a.add (i.toNat * sz))))
      | none => False)
    | .pointer p => (match arrT P t with
      | some (n, _, sz) => (0 ≤ i ∧ i < n) ∧ NN p fun a => K (.pointer (some (a.add (i.toNat * sz))))
      | none => False)
    | _ => False)
  | _ => False
abbrev indexV (P : Program) (t : TypeId) (x i : Value) (K : Value → Prop) : Prop :=
  match i with
  | .int _ i => (match x with
    | .string s => chk (isStringT P t) ((0 ≤ i ∧ i < s.size) ∧ K (.int .u8 (s.data.toList.getD i.toNat 0).toNat))
    | .agg cs => (match arrT P t with
      | some (n, e, sz) => (0 ≤ i ∧ i < n) ∧ partV P e cs.toList (i.toNat * sz) K
      | none => False)
    | _ => False)
  | _ => False
/-- Where a part of a slice that begins at element a lies. -/
def subAddr (p : Option Addr) (cap a sz : Nat) : Option Addr := if cap = a then p else p.map (·.add (a * sz))
abbrev optInt (v : Option Value) (d : Int) (k : Int → Prop) : Prop := match v with | none => k d | some (.int _ n) => k n | _ => False
abbrev sliceV (P : Program) (t : TypeId) (x : Value) (lo hi : Option Value) (K : Value → Prop) : Prop :=
  match x with
  | .string s => chk (isStringT P t) (optInt hi s.size fun b => optInt lo 0 fun a => (0 ≤ a ∧ a ≤ b ∧ b ≤ s.size) ∧ K (.string (s.extract a.toNat b.toNat)))
  | .slice p len cap => (match elemT P t with
    | some (_, sz) => optInt hi len fun b => optInt lo 0 fun a => (0 ≤ a ∧ a ≤ b ∧ b ≤ cap) ∧
        K (.slice (subAddr p cap a.toNat sz) (b.toNat - a.toNat) (cap - a.toNat))
    | none => False)
  | .pointer p => (match arrT P t with
    | some (n, _, sz) => NN p fun ad => optInt hi n fun b => optInt lo 0 fun a => (0 ≤ a ∧ a ≤ b ∧ b ≤ n) ∧
        K (.slice (subAddr (some ad) n a.toNat sz) (b.toNat - a.toNat) (n - a.toNat))
    | none => False)
  | _ => False
abbrev lenV (P : Program) (t : TypeId) (x : Value) (K : Value → Prop) : Prop :=
  match x with
  | .string s => chk (isStringT P t) (K (.int .i64 s.size))
  | .slice _ n _ => chk (isSliceT P t) (K (.int .i64 n))
  | .agg _ => (match arrT P t with | some (n, _, _) => K (.int .i64 n) | none => False)
  | _ => False
abbrev capV (P : Program) (t : TypeId) (x : Value) (K : Value → Prop) : Prop :=
  match x with
  | .slice _ _ n => chk (isSliceT P t) (K (.int .i64 n))
  | _ => False
abbrev max2V (a b : Value) (K : Value → Prop) : Prop := match a, b with | .int k x, .int _ y => K (.int k (if x < y then y else x)) | _, _ => False
abbrev min2V (a b : Value) (K : Value → Prop) : Prop := match a, b with | .int k x, .int _ y => K (.int k (if y < x then y else x)) | _, _ => False

abbrev quietBuiltin (P : Program) (b : Builtin) (tys : List TypeId) (args : List Value) (K : Value → Prop) : Prop :=
  match b, tys, args with
  | .len, t :: _, x :: _ => lenV P t x K
  | .cap, t :: _, x :: _ => capV P t x K
  | .max, _, [x, y] => max2V x y K
  | .min, _, [x, y] => min2V x y K
  | _, _, _ => False

abbrev setL (cells : List Value) (off : Nat) : List Value → List Value
  | [] => cells
  | v :: vs => setL (cells.set off v) (off + 1) vs
/-- Of a value: its cells. -/
abbrev cellsV (v : Value) (k : List Value → Prop) : Prop := match scalar v with | true => k [v] | false => (match v with | .agg cs => k cs.toList | _ => False)
abbrev fillV (place : Nat → Option (Nat × Nat)) (cells : List Value) (K : List Value → Prop) : List (Nat × Value) → Prop
  | [] => K cells
  | (i, v) :: rest =>
    match place i with
    | none => False
    | some (off, size) => cellsV v fun vs => chk (Nat.beq vs.length size && Nat.ble (off + vs.length) cells.length) (fillV place (setL cells off vs) K rest)
abbrev hasZero (P : Program) (t : TypeId) : Bool := match P.info? t with | some i => (match i.zero with | some (.agg _) => true | _ => false) | none => false
abbrev buildV (P : Program) (t : TypeId) (parts : List (Nat × Value)) (K : Value → Prop) : Prop :=
  match P.underlying t with
  | some (.struct fs) => chk (fs.toList.all (fun f => (P.info? f.type).isSome) && hasZero P t)
      (fillV (fun i => match nth fs.toList i with | some f => some (f.offset, sizeOfT P f.type) | none => none) (aggCells (zeroOf P t)) (fun cs => K (.agg cs.toArray)) parts)
  | some (.array _ e) => chk ((P.info? e).isSome && hasZero P t) (fillV (fun i => some (i * sizeOfT P e, sizeOfT P e)) (aggCells (zeroOf P t)) (fun cs => K (.agg cs.toArray)) parts)
  | _ => False

/-- The quiet operations. -/
abbrev oq (P : Program) (op : Op) (ρ : Operand → Value) (h : Hp) (K : Value → Prop) : Prop :=
  match op with
  | .move x | .assign x => K (ρ x)
  | .pick c a b => pickV (ρ c) (ρ a) (ρ b) K
  | .nilCheck x => nilV (ρ x) K
  | .binOp op t x y _ => binV P op t x y (ρ x) (ρ y) h K
  | .unOp op _ x => unV op (ρ x) K
  | .convert s d x => convV P s d (ρ x) K
  | .load t a => addrV (ρ a) fun a => loadV P t a h K
  | .fieldAddr s x f => (match fieldOf P s f with | some fd => chk (!Nat.beq (sizeOfT P fd.type) 0) (addrV (ρ x) fun a => K (.pointer (some (a.add fd.offset)))) | none => False)
  | .field s x f => (match fieldOf P s f with | some fd => (match ρ x with | .agg cs => partV P fd.type cs.toList fd.offset K | _ => False) | none => False)
  | .indexAddr t x i => indexAddrV P t (ρ x) (ρ i) K
  | .index t x i => indexV P t (ρ x) (ρ i) K
  | .slice t x lo hi none => sliceV P t (ρ x) (lo.map ρ) (hi.map ρ) K
  | .slice t x lo hi (some m) => ∃ (a : Option Addr) (l c : Nat), slC P t (ρ x) (lo.map ρ) (hi.map ρ) (ρ m) h a l c ∧ K (.slice a l c)
  | .extract x i => (match ρ x with | .tuple vs => (match nth vs.toList i with | some v => K v | none => False) | _ => False)
  | .makeFunc fn first cap => K (.func fn (first.toList.map ρ).toArray (cap.toList.map ρ).toArray)
  | .build t parts => buildV P t (parts.toList.map fun p => (p.1, ρ p.2)) K
  | .call { callee := .builtin b, args, argTypes } => quietBuiltin P b argTypes.toList (args.toList.map ρ) K
  | _ => False

def isQuiet : Op → Bool
  | .move _ | .assign _ | .pick .. | .nilCheck _ | .binOp .. | .unOp .. | .load .. | .fieldAddr .. | .field .. | .indexAddr .. | .index .. | .extract .. | .makeFunc .. | .build .. => true
  | .slice .. => true
  | .call { callee := .builtin b, .. } => (match b with | .len | .cap | .max | .min => true | _ => false)
  | _ => false
end Go.Sx
