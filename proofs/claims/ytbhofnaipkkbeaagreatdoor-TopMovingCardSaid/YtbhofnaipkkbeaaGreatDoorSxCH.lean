/- Part N8 CE CF CG CH of the proof: contracts of functions of the program, and what follows from them. -/
import Derived.Test.YtbhofnaipkkbeaaGreatDoorSxOS
import Derived.Test.YtbhofnaipkkbeaaGreatDoorSxI3
set_option maxRecDepth 100000
namespace Go.Proofs.YtbhofnaipkkbeaaGreatDoor
open Go Go.Sx
abbrev tB : Ty Bool := ⟨4, 1, fun b => [.bool b], false, fun _ => rfl, by decide, fun _ v hv => by simp at hv; subst hv; rfl⟩
theorem yaya : ElOk TI Tryz.prog 37 := yaeh (by kernel_rfl)
theorem ybic : ElOk tV Tryz.prog 104 := yaeh (by kernel_rfl)
theorem yarq (zs : List Bool) : tB.cells zs = zs.map Value.bool := by
  induction zs with
  | nil => rfl
  | cons z r ih => rw [Ty.cells_cons, ih]; rfl
theorem ybaq {h : Hp} {p : OA} {n : Nat} {zs : List Bool} (r : RdT tB h p n zs) : Rd h p n (zs.map Value.bool) := by
  have := r.rd
  rw [yarq] at this
  rwa [show n * tB.sz = n from Nat.mul_one n] at this
theorem yatk {h : Hp} {p : OA} {n c : Nat} {xs : List Int} (r : RdT TI h p n xs) (hn : n < 1000000) :
    yaak Tryz.prog 32 #[.slice p n c] h (fun v h' => ∃ q d A, v = .slice q n d ∧ Sl TI q n d xs A ∧ St h h' A) := by
  refine zch_call ?_
  rw [zch_b0]
  have s := St.start h
  refine yaar (fun h1 => ?_) (fun h1 => ?_)
  · have hp : p = none := by simpa using h1
    subst hp
    have hn0 : n = 0 := by
      rcases r.2 with h0 | ⟨a, ha, _⟩
      · exact h0
      · cases ha
    subst hn0
    have : xs = [] := List.eq_nil_of_length_eq_zero r.len
    subst this
    exact ⟨none, 0, 0, rfl, Sl.nil, s⟩
  · refine s.new (cs := []) fun b h2 x2 s => ?_
    have o : Sl TI (some ⟨b, 0, none⟩) 0 0 [] (cA b [] 3) := ⟨rfl, .inr ⟨b, [], rfl, Nat.le_refl _, by simp, rfl⟩⟩
    refine yadi yaya s o (r.ext x2) (by omega) fun p' c' h3 A' o' s' => ?_
    rw [Nat.zero_add, List.nil_append] at o'
    exact ⟨p', c', A', by rw [Nat.zero_add], o', s'.to⟩
theorem yaht (x k : Nat) : up k (x : Int) = ((x >>> k : Nat) : Int) := by
  unfold up
  rw [Nat.shiftRight_eq_div_pow, Int.natCast_ediv, Int.natCast_pow]; rfl
theorem yaxb (x : Int) (h : Hp) : yaak Tryz.prog 78 #[.int .i64 x] h (fun v h' => h' = h ∧ v = .bool false) := by
  refine zar_call ?_
  rw [zar_b0]
  exact ⟨rfl, by simp⟩
def cmpI (x y : Int) : Int := if x < y then -1 else if y < x then 1 else 0
theorem yafz {x y : Int} : cmpI x y < 0 ↔ x < y := by unfold cmpI; split <;> (try split) <;> omega
theorem yadg (x y : Int) (h : Hp) : yaak Tryz.prog 46 #[.int .i64 x, .int .i64 y] h (fun v h' => v = .int .i64 (cmpI x y) ∧ h' = h) := by
  refine zao_call ?_
  rw [zao_b0]
  refine (yaxb x h).mono fun v h1 ⟨hh, hv⟩ => ⟨_, hv, ?_⟩
  subst hh
  refine (yaxb y _).mono fun v h2 ⟨hh, hv⟩ => ⟨_, hv, ?_⟩
  subst hh
  refine yabb rfl (yabb rfl (condP (fun h1 => ⟨?_, rfl⟩) (fun h1 => condP (fun h2 => ⟨?_, rfl⟩) (fun h2 => ⟨?_, rfl⟩))))
  · unfold cmpI; rw [if_pos h1]
  · unfold cmpI; rw [if_neg h1, if_pos h2]
  · unfold cmpI; rw [if_neg h1, if_neg h2]
def cfU (k : Nat) (x y : Int) : Int := cmpI (up k x) (up k y)
theorem ordU (k : Nat) : OrdP (fun x y : Int => cfU k x y < 0) := by
  constructor
  · intro x y h1 h2
    have := yafz.1 h1
    have := yafz.1 h2
    omega
  · intro x y z h1 h2 h3
    unfold cfU at h1 h2 h3
    rw [yafz] at h1 h2 h3
    omega
theorem ybcl {h0 : Hp} {G : Bag} {sb k : Nat} {D : Bag} [x : Bag.Has sb G [.int .i64 (k : Int)] 3 D] (hk : k ≤ 64) : CmpCI h0 G (.func (.func 45) #[] #[ptr sb]) (cfU k) (fun x => 0 ≤ x) := by
  intro u v h B K s hu hv hK
  obtain ⟨u, rfl⟩ := Int.eq_ofNat_of_zero_le hu
  obtain ⟨v, rfl⟩ := Int.eq_ofNat_of_zero_le hv
  have c : cell h ⟨sb, 0, none⟩ = some (.int .i64 (k : Int)) := by
    have s' : St h0 h (cA sb [.int .i64 (k : Int)] 3 + (D + B)) := by
      rw [x.eq] at s
      exact s.to
    exact s'.cell 0
  refine yafg (by kernel_rfl) (zcy_call ?_)
  rw [zcy_b0]
  refine ⟨_, c, yacz (x := u) (s := k) rfl rfl hk ⟨_, c, yacz (x := v) (s := k) rfl rfl hk ⟨_, yadg _ _ _, ?_⟩⟩⟩
  have := hK h (.refl _)
  unfold cfU at this
  rwa [yaht, yaht] at this
theorem yasi {h : Hp} {p : OA} {n c sb : Nat} {l : List Int} {sg : Int} (r : RdT TI h p n l) (hn : n < 1000000) (cs : cell h ⟨sb, 0, none⟩ = some (.int .i64 sg)) :
    yaak Tryz.prog 41 #[.slice p n c, .func (.func 42) #[] #[ptr sb]] h (fun v h' => h' = h ∧ v = .bool (decide (∃ x ∈ l, x < 0 ∨ sg ≤ x))) := by
  have hl := r.len
  refine zck_call ?_
  rw [zck_b0]
  refine yaak.mono (K := fun v h' => h' = h ∧ ∃ z : Int, v = .int .i64 z ∧ (0 ≤ z ↔ ∃ x ∈ l, x < 0 ∨ sg ≤ x)) ?_ fun v h1 ⟨hh, z, hv, hz⟩ => ⟨z, hv, hh, by rw [decide_eq_decide.2 hz]⟩
  refine zcm_call ?_
  rw [zcm_b0]
  refine ⟨fun i h1 => h1 = h ∧ ∃ i' : Nat, i.1 = i' ∧ i' ≤ n ∧ ∀ k, k < i' → ¬ (l.getD k 0 < 0 ∨ sg ≤ l.getD k 0), fun i _ => (n - i.1).toNat, ⟨rfl, 0, rfl, by omega, fun k hk => by omega⟩, ?_⟩
  rintro ⟨_, _⟩ h1 ⟨rfl, i, rfl, hi, hall⟩
  dsimp only
  rw [zcm_b1]
  refine condP (fun hlt => ?_) (fun hge => ?_)
  · refine r.int (by omega) (by omega) ?_
    rw [Int.toNat_natCast]
    have hil : i < l.length := by omega
    have hmem : l.getD i 0 ∈ l := by simp [List.getD, hil]
    generalize hx : l.getD i 0 = x at *
    refine yafg (by kernel_rfl) (zcx_call ?_)
    rw [zcx_b0]
    refine condP (fun h2 => ⟨_, rfl, yacv rfl ⟨rfl, i, rfl, ?_⟩⟩) (fun h2 => ⟨_, cs, _, rfl, condP (fun h3 => ⟨rfl, i, rfl, ?_⟩) (fun h3 => ?_)⟩)
    · exact ⟨fun _ => ⟨x, hmem, .inl h2⟩, fun _ => by omega⟩
    · exact ⟨fun _ => ⟨x, hmem, .inr h3⟩, fun _ => by omega⟩
    · rw [zcm_b2]
      refine ⟨⟨by omega, by omega⟩, ⟨rfl, i + 1, by push_cast; rfl, by omega, fun k hk => ?_⟩, by dsimp only; omega⟩
      rcases Nat.lt_or_ge k i with h4 | h4
      · exact hall k h4
      · rw [show k = i by omega, hx]; omega
  · rw [zcm_b3]
    refine ⟨rfl, -1, rfl, fun h => by omega, ?_⟩
    rintro ⟨x, hx, hbad⟩
    obtain ⟨k, hk, rfl⟩ := List.getElem_of_mem hx
    have := hall k (by omega)
    simp [List.getD, hk] at this
    omega
end Go.Proofs.YtbhofnaipkkbeaaGreatDoor
namespace Go.Sx
open Go
noncomputable section
structure Bx (α : Type) where
  mk ::
  run : α
def frc (β : Type) (f : Nat → β) (n : Nat) : β := @Nat.rec (fun _ => (Nat → β) → β) (fun f => f 0) (fun m _ f => f (Nat.succ m)) n f
inductive N8 (β : Type) where
  | mk (c0 c1 c2 c3 c4 c5 c6 c7 : β)
abbrev TT (α : Type) : Nat → Type
  | 0 => Option α
  | k + 1 => N8 (TT α k)
def eT (α : Type) : (k : Nat) → TT α k
  | 0 => (none : Option α)
  | k + 1 => (.mk (eT α k) (eT α k) (eT α k) (eT α k) (eT α k) (eT α k) (eT α k) (eT α k) : N8 (TT α k))
def gD (α : Type) (k : Nat) : Nat → (TT α k → Option α) → Bx (TT α (k + 1) → Option α) := fun n q => @Nat.rec (fun _ => (TT α k → Option α) → Bx (TT α (k + 1) → Option α)) (fun q => .mk fun t => @N8.rec (TT α k) (fun _ => Option α) (fun c0 _ _ _ _ _ _ _ => q c0) t) (fun n _ q => (fun n q => @Nat.rec (fun _ => (TT α k → Option α) → Bx (TT α (k + 1) → Option α)) (fun q => .mk fun t => @N8.rec (TT α k) (fun _ => Option α) (fun _ c1 _ _ _ _ _ _ => q c1) t) (fun n _ q => (fun n q => @Nat.rec (fun _ => (TT α k → Option α) → Bx (TT α (k + 1) → Option α)) (fun q => .mk fun t => @N8.rec (TT α k) (fun _ => Option α) (fun _ _ c2 _ _ _ _ _ => q c2) t) (fun n _ q => (fun n q => @Nat.rec (fun _ => (TT α k → Option α) → Bx (TT α (k + 1) → Option α)) (fun q => .mk fun t => @N8.rec (TT α k) (fun _ => Option α) (fun _ _ _ c3 _ _ _ _ => q c3) t) (fun n _ q => (fun n q => @Nat.rec (fun _ => (TT α k → Option α) → Bx (TT α (k + 1) → Option α)) (fun q => .mk fun t => @N8.rec (TT α k) (fun _ => Option α) (fun _ _ _ _ c4 _ _ _ => q c4) t) (fun n _ q => (fun n q => @Nat.rec (fun _ => (TT α k → Option α) → Bx (TT α (k + 1) → Option α)) (fun q => .mk fun t => @N8.rec (TT α k) (fun _ => Option α) (fun _ _ _ _ _ c5 _ _ => q c5) t) (fun n _ q => (fun n q => @Nat.rec (fun _ => (TT α k → Option α) → Bx (TT α (k + 1) → Option α)) (fun q => .mk fun t => @N8.rec (TT α k) (fun _ => Option α) (fun _ _ _ _ _ _ c6 _ => q c6) t) (fun n _ q => (fun _ q => .mk fun t => @N8.rec (TT α k) (fun _ => Option α) (fun _ _ _ _ _ _ _ c7 => q c7) t) n q) n q) n q) n q) n q) n q) n q) n q) n q) n q) n q) n q) n q) n q
def sD (α : Type) (k : Nat) : Nat → (TT α k → Option α → TT α k) → Bx (TT α (k + 1) → Option α → TT α (k + 1)) := fun n q => @Nat.rec (fun _ => (TT α k → Option α → TT α k) → Bx (TT α (k + 1) → Option α → TT α (k + 1))) (fun q => .mk fun t x => @N8.rec (TT α k) (fun _ => Option α → N8 (TT α k)) (fun c0 c1 c2 c3 c4 c5 c6 c7 x => .mk (q c0 x) c1 c2 c3 c4 c5 c6 c7) t x) (fun n _ q => (fun n q => @Nat.rec (fun _ => (TT α k → Option α → TT α k) → Bx (TT α (k + 1) → Option α → TT α (k + 1))) (fun q => .mk fun t x => @N8.rec (TT α k) (fun _ => Option α → N8 (TT α k)) (fun c0 c1 c2 c3 c4 c5 c6 c7 x => .mk c0 (q c1 x) c2 c3 c4 c5 c6 c7) t x) (fun n _ q => (fun n q => @Nat.rec (fun _ => (TT α k → Option α → TT α k) → Bx (TT α (k + 1) → Option α → TT α (k + 1))) (fun q => .mk fun t x => @N8.rec (TT α k) (fun _ => Option α → N8 (TT α k)) (fun c0 c1 c2 c3 c4 c5 c6 c7 x => .mk c0 c1 (q c2 x) c3 c4 c5 c6 c7) t x) (fun n _ q => (fun n q => @Nat.rec (fun _ => (TT α k → Option α → TT α k) → Bx (TT α (k + 1) → Option α → TT α (k + 1))) (fun q => .mk fun t x => @N8.rec (TT α k) (fun _ => Option α → N8 (TT α k)) (fun c0 c1 c2 c3 c4 c5 c6 c7 x => .mk c0 c1 c2 (q c3 x) c4 c5 c6 c7) t x) (fun n _ q => (fun n q => @Nat.rec (fun _ => (TT α k → Option α → TT α k) → Bx (TT α (k + 1) → Option α → TT α (k + 1))) (fun q => .mk fun t x => @N8.rec (TT α k) (fun _ => Option α → N8 (TT α k)) (fun c0 c1 c2 c3 c4 c5 c6 c7 x => .mk c0 c1 c2 c3 (q c4 x) c5 c6 c7) t x) (fun n _ q => (fun n q => @Nat.rec (fun _ => (TT α k → Option α → TT α k) → Bx (TT α (k + 1) → Option α → TT α (k + 1))) (fun q => .mk fun t x => @N8.rec (TT α k) (fun _ => Option α → N8 (TT α k)) (fun c0 c1 c2 c3 c4 c5 c6 c7 x => .mk c0 c1 c2 c3 c4 (q c5 x) c6 c7) t x) (fun n _ q => (fun n q => @Nat.rec (fun _ => (TT α k → Option α → TT α k) → Bx (TT α (k + 1) → Option α → TT α (k + 1))) (fun q => .mk fun t x => @N8.rec (TT α k) (fun _ => Option α → N8 (TT α k)) (fun c0 c1 c2 c3 c4 c5 c6 c7 x => .mk c0 c1 c2 c3 c4 c5 (q c6 x) c7) t x) (fun n _ q => (fun _ q => .mk fun t x => @N8.rec (TT α k) (fun _ => Option α → N8 (TT α k)) (fun c0 c1 c2 c3 c4 c5 c6 c7 x => .mk c0 c1 c2 c3 c4 c5 c6 (q c7 x)) t x) n q) n q) n q) n q) n q) n q) n q) n q) n q) n q) n q) n q) n q) n q
def gT (α : Type) (k : Nat) : Nat → Bx (TT α k → Option α) :=
  @Nat.rec (fun k => Nat → Bx (TT α k → Option α)) (fun n => @Nat.rec (fun _ => Bx (TT α 0 → Option α)) (.mk fun t => t) (fun _ _ => .mk fun _ => none) n)
    (fun k ih n => @Bx.rec (TT α k → Option α) (fun _ => Nat → Bx (TT α (k + 1) → Option α)) (fun q n => gD α k (Nat.mod n 8) q) (frc _ ih (Nat.div n 8)) n) k
def sT (α : Type) (k : Nat) : Nat → Bx (TT α k → Option α → TT α k) :=
  @Nat.rec (fun k => Nat → Bx (TT α k → Option α → TT α k)) (fun n => @Nat.rec (fun _ => Bx (TT α 0 → Option α → TT α 0)) (.mk fun _ x => x) (fun _ _ => .mk fun t _ => t) n)
    (fun k ih n => @Bx.rec (TT α k → Option α → TT α k) (fun _ => Nat → Bx (TT α (k + 1) → Option α → TT α (k + 1))) (fun q n => sD α k (Nat.mod n 8) q) (frc _ ih (Nat.div n 8)) n) k
def TT.get {α : Type} {k : Nat} (t : TT α k) (n : Nat) : Option α := (frc _ (gT α k) n).run t
def TT.set {α : Type} {k : Nat} (t : TT α k) (n : Nat) (x : Option α) : TT α k := (frc _ (sT α k) n).run t x
abbrev En := TT Value 3
inductive Cs where
  | sm (l : List Value)
  | bg (t : TT Value 5)
def nthR (l : List Value) : Nat → Option Value := @List.rec Value (fun _ => Nat → Option Value) (fun _ => none) (fun v _ ih i => @Nat.rec (fun _ => Value → (Nat → Option Value) → Option Value) (fun v _ => some v) (fun i _ _ ih => ih i) i v ih) l
def setR (l : List Value) : Nat → Value → List Value := @List.rec Value (fun _ => Nat → Value → List Value) (fun _ _ => []) (fun v r ih i x => @Nat.rec (fun _ => Value → List Value → (Nat → Value → List Value) → Value → List Value) (fun _ r _ x => x :: r) (fun i _ v _ ih x => v :: ih i x) i v r ih x) l
def drpR (l : List Value) (i : Nat) : List Value := @Nat.rec (fun _ => List Value → List Value) (fun l => l) (fun _ ih l => @List.rec Value (fun _ => (List Value → List Value) → List Value) (fun _ => []) (fun _ r _ ih => ih r) l ih) i l
def tkR (n : Nat) : List Value → Option (List Value) := @Nat.rec (fun _ => List Value → Option (List Value)) (fun _ => some []) (fun _ ih l => @List.rec Value (fun _ => (List Value → Option (List Value)) → Option (List Value)) (fun _ => none) (fun v r _ ih => @Option.rec (List Value) (fun _ => Value → Option (List Value)) (fun _ => none) (fun r v => some (v :: r)) (ih r) v) l ih) n
def rdT (t : TT Value 5) (n : Nat) : Nat → Option (List Value) := @Nat.rec (fun _ => Nat → Option (List Value)) (fun _ => some []) (fun _ ih i => @Option.rec Value (fun _ => (Nat → Option (List Value)) → Nat → Option (List Value)) (fun _ _ => none) (fun v ih i => @Option.rec (List Value) (fun _ => Value → Option (List Value)) (fun _ => none) (fun r v => some (v :: r)) (ih (Nat.succ i)) v) (TT.get t i) ih i) n
def wrT (vs : List Value) : Nat → TT Value 5 → TT Value 5 := @List.rec Value (fun _ => Nat → TT Value 5 → TT Value 5) (fun _ t => t) (fun v _ ih i t => ih (Nat.succ i) (TT.set t i (some v))) vs
def wrL (vs : List Value) : Nat → List Value → List Value := @List.rec Value (fun _ => Nat → List Value → List Value) (fun _ l => l) (fun v _ ih i l => ih (Nat.succ i) (setR l i v)) vs
def Cs.get (c : Cs) (i : Nat) : Option Value := @Cs.rec (fun _ => Nat → Option Value) (fun l i => nthR l i) (fun t i => TT.get t i) c i
def Cs.set (c : Cs) (i : Nat) (v : Value) : Cs := @Cs.rec (fun _ => Nat → Value → Cs) (fun l i v => .sm (setR l i v)) (fun t i v => .bg (TT.set t i (some v))) c i v
def rds (c : Cs) (n i : Nat) : Option (List Value) := @Cs.rec (fun _ => Nat → Nat → Option (List Value)) (fun l n i => tkR n (drpR l i)) (fun t n i => rdT t n i) c n i
def wrs (vs : List Value) (i : Nat) (c : Cs) : Cs := @Cs.rec (fun _ => List Value → Nat → Cs) (fun l vs i => .sm (wrL vs i l)) (fun t vs i => .bg (wrT vs i t)) c vs i
def lenV0 (l : List Value) : Nat := @List.rec Value (fun _ => Nat) 0 (fun _ _ ih => Nat.succ ih) l
def mkT (vs : List Value) : Cs := @Bool.rec (fun _ => List Value → Cs) (fun vs => .bg (wrT vs 0 (eT Value 5))) (fun vs => .sm vs) (Nat.ble (lenV0 vs) 24) vs
def appR (a b : List Value) : List Value := @List.rec Value (fun _ => List Value) b (fun v _ ih => v :: ih) a
def grow (c : Cs) (n : Nat) (vs : List Value) : Cs := @Cs.rec (fun _ => Nat → List Value → Cs) (fun l n vs => @Bool.rec (fun _ => List Value → List Value → Cs) (fun _ _ => .sm []) (fun l vs => mkT (appR l vs)) (Nat.beq (lenV0 l) n) l vs) (fun t n vs => .bg (wrT vs n t)) c n vs
inductive Bk where
  | row (n z : Nat) (ty : TypeId) (cs : Cs)
  | map (es : List MapEntry) (clock : Nat)
  | ro (cs : Cs)
structure AH where
  nx : Nat
  m : TT Bk 6
inductive RV where
  | ok (v : Value) (H : AH)
  | er (e : List Nat)
inductive RC where
  | ok (x : Exit) (e : En) (H : AH)
  | er (e : List Nat)
def scR : Value → Bool := fun v => @Value.rec (fun _ => Bool) (fun _ => PUnit) (fun _ => PUnit) (fun _ => true) (fun _ _ => true) (fun _ _ => true) (fun _ _ _ => true) (fun _ => true) (fun _ => true) (fun _ _ _ => true) (fun _ => true) (fun _ => true) (fun _ _ _ _ _ => true) (true) (fun _ _ _ => true) (true) (fun a0 _ => (fun _ => false) a0) (fun a0 _ => (fun _ => false) a0) (fun _ _ => ⟨⟩) ⟨⟩ (fun _ _ _ _ => ⟨⟩) v
def andR (a b : Bool) : Bool := @Bool.rec (fun _ => Bool → Bool) (fun _ => false) (fun b => b) a b
def allSc (l : List Value) : Bool := @List.rec Value (fun _ => Bool) true (fun v _ ih => andR (scR v) ih) l
def updR (H : AH) (b : Nat) (k : Bk) : AH := ⟨H.nx, TT.set H.m b (some k)⟩
def sto1 (a : Addr) (v : Value) (H : AH) : RV := @Addr.rec (fun _ => Value → AH → RV) (fun b o sp v H => @Option.rec Nat (fun _ => Nat → Nat → Value → AH → RV) (fun b o v H => @Option.rec Bk (fun _ => Nat → Nat → Value → AH → RV) (fun _ _ _ _ => .er [6])
  (fun k b o v H => @Bk.rec (fun _ => Nat → Nat → Value → AH → RV) (fun n z ty cs b o v H => @Bool.rec (fun _ => Nat → Nat → TypeId → Cs → Nat → Nat → Value → AH → RV) (fun _ _ _ _ _ _ _ _ => .er [7]) (fun n z ty cs b o v H => .ok undef (updR H b (.row n z ty (Cs.set cs o v)))) (andR (Nat.ble (Nat.succ o) n) (scR v)) n z ty cs b o v H)
    (fun _ _ _ _ _ _ => .er [8]) (fun _ _ _ _ _ => .er [9]) k b o v H) (TT.get H.m b) b o v H) (fun _ _ _ _ _ => .er [10]) sp b o v H) a v H
def stoL (a : Addr) (vs : List Value) (H : AH) : RV := @Addr.rec (fun _ => List Value → AH → RV) (fun b o sp v H => @Option.rec Nat (fun _ => Nat → Nat → List Value → AH → RV) (fun b o v H => @Option.rec Bk (fun _ => Nat → Nat → List Value → AH → RV) (fun _ _ _ _ => .er [6])
  (fun k b o v H => @Bk.rec (fun _ => Nat → Nat → List Value → AH → RV) (fun n z ty cs b o v H => @Bool.rec (fun _ => Nat → Nat → TypeId → Cs → Nat → Nat → List Value → AH → RV) (fun _ _ _ _ _ _ _ _ => .er [7]) (fun n z ty cs b o v H => .ok undef (updR H b (.row n z ty (wrs v o cs)))) (andR (Nat.ble (Nat.add o (lenV0 v)) n) (allSc v)) n z ty cs b o v H)
    (fun _ _ _ _ _ _ => .er [8]) (fun _ _ _ _ _ => .er [9]) k b o v H) (TT.get H.m b) b o v H) (fun _ _ _ _ _ => .er [10]) sp b o v H) a vs H
def stoA (n : Nat) (a : Addr) (v : Value) (H : AH) : RV := @Value.rec (fun _ => Nat → Addr → AH → RV) (fun _ => PUnit) (fun _ => PUnit) (fun _ => fun _ _ _ => .er [11]) (fun _ _ => fun _ _ _ => .er [11]) (fun _ _ => fun _ _ _ => .er [11]) (fun _ _ _ => fun _ _ _ => .er [11]) (fun _ => fun _ _ _ => .er [11]) (fun _ => fun _ _ _ => .er [11]) (fun _ _ _ => fun _ _ _ => .er [11]) (fun _ => fun _ _ _ => .er [11]) (fun _ => fun _ _ _ => .er [11]) (fun _ _ _ _ _ => fun _ _ _ => .er [11]) (fun _ _ _ => .er [11]) (fun _ _ _ => fun _ _ _ => .er [11]) (fun _ _ _ => .er [11]) (fun a0 _ => (fun vs n a H => @Bool.rec (fun _ => Addr → List Value → AH → RV) (fun _ _ _ => .er [12]) stoL (Nat.beq (lenV0 vs.toList) n) a vs.toList H) a0) (fun _ _ => fun _ _ _ => .er [11]) (fun _ _ => ⟨⟩) ⟨⟩ (fun _ _ _ _ => ⟨⟩) v n a H
def newC (z : Nat) (ty : TypeId) (vs : List Value) (H : AH) (k : Nat → Value) : RV :=
  .ok (k H.nx) ⟨Nat.succ H.nx, TT.set H.m H.nx (some (.row (lenV0 vs) z ty (mkT vs)))⟩
def ptrC (b : Nat) : Value := .pointer (some ⟨b, 0, none⟩)
def boxN (e : TypeId) (cs : List Value) (H : AH) : RV := newC 0 e cs H ptrC
def boxC (e : TypeId) (v : Value) (H : AH) : RV := @Value.rec (fun _ => TypeId → AH → RV) (fun _ => PUnit) (fun _ => PUnit) (fun a0 e H => boxN e [.bool a0] H) (fun a0 a1 e H => boxN e [.int a0 a1] H) (fun a0 a1 e H => boxN e [.float a0 a1] H) (fun a0 a1 a2 e H => boxN e [.complex a0 a1 a2] H) (fun a0 e H => boxN e [.string a0] H) (fun a0 e H => boxN e [.pointer a0] H) (fun a0 a1 a2 e H => boxN e [.slice a0 a1 a2] H) (fun a0 e H => boxN e [.map a0] H) (fun a0 e H => boxN e [.chan a0] H) (fun a0 a1 a2 _ _ => (fun a0 a1 a2 e H => boxN e [.func a0 a1 a2] H) a0 a1 a2) (fun e H => boxN e [.nilFunc] H) (fun a0 a1 _ => (fun a0 a1 e H => boxN e [.iface a0 a1] H) a0 a1) (fun e H => boxN e [.nilIface] H) (fun a0 _ => (fun vs e H => boxN e vs.toList H) a0) (fun a0 _ => (fun _ _ _ => .er [13]) a0) (fun _ _ => ⟨⟩) ⟨⟩ (fun _ _ _ _ => ⟨⟩) v e H
def repC (zs : List Value) : Nat → List Value
  | 0 => []
  | n + 1 => appR zs (repC zs n)
def capX (n : Nat) : Nat := Nat.succ (Nat.mul 2 n)
def slX (n : Nat) (c : Nat) (b : Nat) : Value := .slice (some ⟨b, 0, none⟩) n c
def putP : Value → Nat → Nat → List Value → Option (List Value) := fun v => @Value.rec (fun _ => Nat → Nat → List Value → Option (List Value)) (fun _ => PUnit) (fun _ => PUnit) (fun a0 off sz cells => @Bool.rec (fun _ => Nat → Value → List Value → Option (List Value)) (fun _ _ _ => none) (fun off v cells => some (setR cells off v)) (Nat.beq sz 1) off (.bool a0) cells) (fun a0 a1 off sz cells => @Bool.rec (fun _ => Nat → Value → List Value → Option (List Value)) (fun _ _ _ => none) (fun off v cells => some (setR cells off v)) (Nat.beq sz 1) off (.int a0 a1) cells) (fun a0 a1 off sz cells => @Bool.rec (fun _ => Nat → Value → List Value → Option (List Value)) (fun _ _ _ => none) (fun off v cells => some (setR cells off v)) (Nat.beq sz 1) off (.float a0 a1) cells) (fun a0 a1 a2 off sz cells => @Bool.rec (fun _ => Nat → Value → List Value → Option (List Value)) (fun _ _ _ => none) (fun off v cells => some (setR cells off v)) (Nat.beq sz 1) off (.complex a0 a1 a2) cells) (fun a0 off sz cells => @Bool.rec (fun _ => Nat → Value → List Value → Option (List Value)) (fun _ _ _ => none) (fun off v cells => some (setR cells off v)) (Nat.beq sz 1) off (.string a0) cells) (fun a0 off sz cells => @Bool.rec (fun _ => Nat → Value → List Value → Option (List Value)) (fun _ _ _ => none) (fun off v cells => some (setR cells off v)) (Nat.beq sz 1) off (.pointer a0) cells) (fun a0 a1 a2 off sz cells => @Bool.rec (fun _ => Nat → Value → List Value → Option (List Value)) (fun _ _ _ => none) (fun off v cells => some (setR cells off v)) (Nat.beq sz 1) off (.slice a0 a1 a2) cells) (fun a0 off sz cells => @Bool.rec (fun _ => Nat → Value → List Value → Option (List Value)) (fun _ _ _ => none) (fun off v cells => some (setR cells off v)) (Nat.beq sz 1) off (.map a0) cells) (fun a0 off sz cells => @Bool.rec (fun _ => Nat → Value → List Value → Option (List Value)) (fun _ _ _ => none) (fun off v cells => some (setR cells off v)) (Nat.beq sz 1) off (.chan a0) cells) (fun a0 a1 a2 _ _ => (fun a0 a1 a2 off sz cells => @Bool.rec (fun _ => Nat → Value → List Value → Option (List Value)) (fun _ _ _ => none) (fun off v cells => some (setR cells off v)) (Nat.beq sz 1) off (.func a0 a1 a2) cells) a0 a1 a2) (fun off sz cells => @Bool.rec (fun _ => Nat → Value → List Value → Option (List Value)) (fun _ _ _ => none) (fun off v cells => some (setR cells off v)) (Nat.beq sz 1) off .nilFunc cells) (fun a0 a1 _ => (fun a0 a1 off sz cells => @Bool.rec (fun _ => Nat → Value → List Value → Option (List Value)) (fun _ _ _ => none) (fun off v cells => some (setR cells off v)) (Nat.beq sz 1) off (.iface a0 a1) cells) a0 a1) (fun off sz cells => @Bool.rec (fun _ => Nat → Value → List Value → Option (List Value)) (fun _ _ _ => none) (fun off v cells => some (setR cells off v)) (Nat.beq sz 1) off .nilIface cells) (fun a0 _ => (fun vs off sz cells => @Bool.rec (fun _ => Nat → List Value → List Value → Option (List Value)) (fun _ _ _ => none) (fun off v cells => some (wrL v off cells)) (Nat.beq (lenV0 vs.toList) sz) off vs.toList cells) a0) (fun a0 _ => (fun _ _ _ _ => none) a0) (fun _ _ => ⟨⟩) ⟨⟩ (fun _ _ _ _ => ⟨⟩) v
def bldR (ps : List (Nat × Nat)) : List Value → List Value → Option (List Value) := @List.rec (Nat × Nat) (fun _ => List Value → List Value → Option (List Value)) (fun _ cells => some cells)
  (fun p _ ih vs cells => @List.rec Value (fun _ => Nat → Nat → List Value → (List Value → List Value → Option (List Value)) → Option (List Value)) (fun _ _ _ _ => none)
    (fun v r _ off sz cells ih => @Option.rec (List Value) (fun _ => List Value → (List Value → List Value → Option (List Value)) → Option (List Value)) (fun _ _ => none) (fun cells r ih => ih r cells) (putP v off sz cells) r ih) vs p.1 p.2 cells ih) ps
def okP (n : Nat) : List (Nat × Nat) → Bool
  | [] => true
  | (o, s) :: r => (match Nat.ble (Nat.add o s) n with | true => okP n r | false => false)
def plain : Value → Bool
  | .bool _ | .int _ _ | .string _ | .pointer none | .slice none 0 0 | .map none | .nilFunc | .nilIface => true
  | _ => false
def plains : List Value → Bool
  | [] => true
  | v :: r => plain v && plains r
def okV (v : Value) : Bool := plain v || (match v with | .agg cs => plains cs.toList | .tuple cs => plains cs.toList | _ => false)
def zerL (P : Program) (t : TypeId) : Option (List Value) := match P.info? t with | some i => (match i.zero with | some (.agg cs) => (match plains cs.toList with | true => some cs.toList | false => none) | some z => (match plain z with | true => some [z] | false => none) | none => none) | none => none
def okZ (P : Program) (t : TypeId) : Bool := yajk P t && plains (yach (yadx P t)) && (match P.underlying t with | some (.struct fs) => fs.toList.all (fun f => (P.info? f.type).isSome) | some (.array _ e) => (P.info? e).isSome | _ => false)
def natI : Int → Option Nat | .ofNat n => some n | .negSucc _ => none
def yahz (P : Program) (t : TypeId) (l c : Value) (H : AH) : RV :=
  match elemT P t, l, c with
  | some (e, sz), .int _ l, .int _ c => (match natI l, natI c, zerL P e with
    | some l, some c, some zs => (match Nat.ble l c && Nat.ble c 10000 && Nat.ble (Nat.mul c (yacs P e)) 281474976710656 && Nat.beq (lenV0 zs) sz with
      | true => newC sz e (repC zs c) H (slX l (capX c))
      | false => .er [20])
    | _, _, _ => .er [21])
  | _, _, _ => .er [22]
def csB : Bk → Cs := fun x => @Bk.rec (fun _ => Cs) (fun _ _ _ cs => cs) (fun _ _ => .sm []) (fun cs => cs) x
def csO : Option Bk → Cs := fun o => @Option.rec Bk (fun _ => Cs) (.sm []) csB o
def rdS (s : Value) (sz : Nat) (H : AH) (k : List Value → RV) : RV :=
  match s with
  | .slice (some ⟨b, o, none⟩) n _ => (match rds (csO (TT.get H.m b)) (Nat.mul n sz) o with | some vs => k vs | none => .er [23])
  | _ => .er [26]
def appN (sz : Nat) (el : TypeId) (os xs : List Value) (n : Nat) (H : AH) : RV := newC sz el (appR os xs) H (slX n (Nat.mul 2 n))
def appX (sz : Nat) (el : TypeId) (s : Value) (xs : List Value) (m : Nat) (H : AH) : RV :=
  (match s with
    | .slice none _ _ => appN sz el [] xs m H
    | .slice (some ⟨b, o, none⟩) n c => (match Nat.ble (Nat.add n m) (Nat.div c 2) with
      | true => (match TT.get H.m b with
        | some (.row kn z ty cs) => (match Nat.ble (Nat.add o (Nat.mul (Nat.add n m) sz)) kn && allSc xs with
          | true => .ok (.slice (some ⟨b, o, none⟩) (Nat.add n m) c) ⟨H.nx, TT.set H.m b (some (.row kn z ty (wrs xs (Nat.add o (Nat.mul n sz)) cs)))⟩
          | false => .er [31])
        | _ => .er [32])
      | false => (match Nat.mod c 2 with
        | 0 => (match TT.get H.m b with
          | some (.row kn z ty cs) => (match Nat.beq o 0 && Nat.beq kn (Nat.mul n sz) && Nat.beq z sz && Nat.beq ty el && allSc xs with
            | true => .ok (slX (Nat.add n m) (Nat.mul 2 (Nat.add n m)) H.nx) ⟨Nat.succ H.nx, TT.set (TT.set H.m b none) H.nx (some (.row (Nat.mul (Nat.add n m) sz) sz el (grow cs (Nat.mul n sz) xs)))⟩
            | false => .er [33, n, o, kn, z, sz])
          | _ => .er [34])
        | _ => (match rds (csO (TT.get H.m b)) (Nat.mul n sz) o with
          | some os => appN sz el os xs (Nat.add n m) H
          | none => .er [35])))
    | _ => .er [36])
def appS (sz : Nat) (el : TypeId) (s x : Value) (m : Nat) (H : AH) : RV := rdS x sz H fun xs => appX sz el s xs m H
def slLen : Value → Option Nat | .slice _ n _ => some n | _ => none
def yasb (P : Program) (t t2 : TypeId) (s x : Value) (H : AH) : RV :=
  match elemT P t, slLen s, slLen x with
  | some (e, sz), some n, some m => (match zerL P e with
    | some zs => (match yadk P t2 && Nat.ble 1 sz && Nat.beq (lenV0 zs) sz && Nat.ble (Nat.add n m) 100000 && Nat.ble (Nat.mul (Nat.mul 2 (Nat.add n m)) (yacs P e)) 281474976710656 with
      | true => (match m with
        | 0 => .ok s H
        | _ => appS sz e s x m H)
      | false => .er [28])
    | none => .er [29])
  | _, _, _ => .er [27]
def u8n (b : UInt8) : Nat := b.toNat
def bl (s : ByteArray) : List UInt8 := s.data.toList
def byteL (b : ByteArray) : List Value := (bl b).map fun x => .int .u8 (.ofNat (u8n x))
def ybab (P : Program) (t t2 : TypeId) (s : Value) (b : ByteArray) (H : AH) : RV :=
  match elemT P t, slLen s with
  | some (e, sz), some n => (match zerL P e with
    | some zs => (match yadk P t2 && Nat.beq sz 1 && Nat.beq (lenV0 zs) sz && Nat.ble (Nat.add n (bl b).length) 100000 && Nat.ble (Nat.mul (Nat.mul 2 (Nat.add n (bl b).length)) (yacs P e)) 281474976710656 && Nat.ble 1 (bl b).length with
      | true => appX sz e s (byteL b) (bl b).length H
      | false => .er [28])
    | none => .er [29])
  | _, _ => .er [27]
def unbyL : List Value → Option (List UInt8)
  | [] => some []
  | .int .u8 (.ofNat n) :: r => (match Nat.ble n 255, unbyL r with | true, some l => some (UInt8.ofNat n :: l) | _, _ => none)
  | _ :: _ => none
def usStr (P : Program) (pt : TypeId) (p l : Value) (H : AH) : RV :=
  match P.underlying pt, p, l with
  | some (.pointer e), .pointer (some ⟨b, 0, none⟩), .int .i64 (.ofNat n) => (match TT.get H.m b with
    | some (.row kn _ ty cs) => (match Nat.ble 1 n && Nat.ble n kn && Nat.ble n 100000 && Nat.beq ty e && Nat.beq (P.cellsOf e) 1, rds cs n 0 with
      | true, some vs => (match unbyL vs with | some l => .ok (.string ⟨⟨l⟩⟩) ⟨H.nx, TT.set H.m b none⟩ | none => .er [150])
      | _, _ => .er [151])
    | _ => .er [152])
  | _, _, _ => .er [153]
def cvUP (P : Program) (s d : TypeId) (x : Value) (H : AH) : RV :=
  match P.underlying s, P.underlying d, x with
  | some (.pointer t), some .unsafePointer, .pointer (some ⟨b, o, none⟩) => (match TT.get H.m b with
    | some (.row n _ _ _) => (match Nat.ble (Nat.succ o) n && Nat.ble 1 (yaan P t) && (P.info? t).isSome with | true => .ok x H | false => .er [154])
    | _ => .er [155])
  | some .unsafePointer, some (.pointer u), .pointer (some ⟨b, o, none⟩) => (match TT.get H.m b with
    | some (.row n 0 ty _) => (match Nat.ble 1 (yaan P u) && (P.info? u).isSome && liesAt P P.depth ty (n / P.cellsOf ty) o u 1 with | true => .ok x H | false => .er [156])
    | _ => .er [157])
  | _, _, _ => .er [158]
def zlt : Int → Int → Bool
  | .ofNat a, .ofNat b => Nat.ble (Nat.succ a) b
  | .ofNat _, .negSucc _ => false
  | .negSucc _, .ofNat _ => true
  | .negSucc a, .negSucc b => Nat.ble (Nat.succ b) a
def zeq : Int → Int → Bool
  | .ofNat a, .ofNat b => Nat.beq a b
  | .negSucc a, .negSucc b => Nat.beq a b
  | _, _ => false
def inR : Int → Bool
  | .ofNat a => Nat.ble a 9223372036854775807
  | .negSucc a => Nat.ble a 9223372036854775807
def arC (k : IntKind) (n : Int) (H : AH) : RV :=
  match k with
  | .i64 => (match inR n with | true => .ok (.int .i64 n) H | false => .er [40])
  | k => .ok (.int k (k.wrap n)) H
def bb (b : Bool) (H : AH) : RV := .ok (.bool b) H
def ngB (b : Bool) : Bool := match b with | true => false | false => true
def intC (op : BinOp) (k k' : IntKind) (a b : Int) (H : AH) : RV :=
  match op with
  | .shl => (match natI b with | some n => .ok (.int k (k.wrap (a * 2 ^ (min n k.bits)))) H | none => .er [41])
  | .shr => (match natI b with | some n => .ok (.int k (a.fdiv (2 ^ (min n k.bits)))) H | none => .er [42])
  | op => (match Nat.beq (kNum k) (kNum k') with
    | true => (match op with
      | .add => arC k (a + b) H
      | .sub => arC k (a - b) H
      | .mul => arC k (a * b) H
      | .quo => (match zeq b 0 with | false => .ok (.int k (k.wrap (Int.tdiv a b))) H | true => .er [43])
      | .rem => (match zeq b 0 with | false => .ok (.int k (Int.tmod a b)) H | true => .er [43])
      | .and => .ok (.int k (k.wrap ((BitVec.ofInt k.bits a) &&& (BitVec.ofInt k.bits b)).toNat)) H
      | .or => .ok (.int k (k.wrap ((BitVec.ofInt k.bits a) ||| (BitVec.ofInt k.bits b)).toNat)) H
      | .xor => .ok (.int k (k.wrap ((BitVec.ofInt k.bits a) ^^^ (BitVec.ofInt k.bits b)).toNat)) H
      | .eql => bb (zeq a b) H
      | .neq => bb (ngB (zeq a b)) H
      | .lss => bb (zlt a b) H
      | .leq => bb (ngB (zlt b a)) H
      | .gtr => bb (zlt b a) H
      | .geq => bb (ngB (zlt a b)) H
      | _ => .er [44])
    | false => .er [45])
def eqU : List UInt8 → List UInt8 → Bool
  | [], [] => true
  | a :: r, b :: s => (match Nat.beq (u8n a) (u8n b) with | true => eqU r s | false => false)
  | _, _ => false
def ltU : List UInt8 → List UInt8 → Bool
  | [], [] => false
  | [], _ :: _ => true
  | _ :: _, [] => false
  | a :: r, b :: s => (match Nat.beq (u8n a) (u8n b) with | true => ltU r s | false => Nat.ble (u8n a) (u8n b))
def strC (op : BinOp) (a b : ByteArray) (H : AH) : RV :=
  match op with
  | .add => (match Nat.ble ((bl a).length + (bl b).length) 100000 with | true => .ok (.string ⟨⟨bl a ++ bl b⟩⟩) H | false => .er [39])
  | .eql => bb (eqU (bl a) (bl b)) H
  | .neq => bb (ngB (eqU (bl a) (bl b))) H
  | .lss => bb (ltU (bl a) (bl b)) H
  | .leq => bb (ngB (ltU (bl b) (bl a))) H
  | .gtr => bb (ltU (bl b) (bl a)) H
  | .geq => bb (ngB (ltU (bl a) (bl b))) H
  | _ => .er [46]
def eqlC (op : BinOp) (b : Bool) (H : AH) : RV := match op with | .eql => bb b H | .neq => bb (ngB b) H | _ => .er [47]
def eqB (a b : Bool) : Bool := match a with | true => b | false => ngB b
def isN {α : Type} (o : Option α) : Bool := match o with | none => true | some _ => false
def binC (P : Program) (op : BinOp) (t : TypeId) (x y : Value) (H : AH) : RV :=
  match x, y with
  | .int k a, .int k' b => intC op k k' a b H
  | .string a, .string b => strC op a b H
  | .bool a, .bool b => (match yaih P t with | true => eqlC op (eqB a b) H | false => .er [48])
  | .pointer p, .pointer none => (match yank P t with | true => eqlC op (isN p) H | false => .er [49])
  | .slice a _ _, .slice none _ _ => (match yacp P t with | true => eqlC op (isN a) H | false => .er [50])
  | .pointer (some ⟨b1, o1, none⟩), .pointer (some ⟨b2, o2, none⟩) => (match P.underlying t with
    | some (.pointer e) => (match Nat.ble 1 (yaan P e) && (P.info? e).isSome && Nat.beq b1 b2 with | true => eqlC op (Nat.beq o1 o2) H | false => .er [56])
    | _ => .er [49])
  | _, _ => .er [51]
def unC (op : UnOp) (v : Value) (H : AH) : RV :=
  match op, v with
  | .neg, .int k n => arC k (0 - n) H
  | .not, .bool b => bb (ngB b) H
  | .xor, .int k n => .ok (.int k (k.wrap ((BitVec.ofInt k.bits (if k.signed then -1 else k.max)) ^^^ (BitVec.ofInt k.bits n)).toNat)) H
  | _, _ => .er [52]
def convC (P : Program) (src dst : TypeId) (v : Value) (H : AH) : RV :=
  match yabu P src, yabu P dst, v with
  | some _, some k, .int _ n => arC k n H
  | none, none, .string s => (match yaap P src && yaap P dst with | true => .ok v H | false => .er [53])
  | _, _, _ => .er [54]
def addA (a : Addr) (n : Nat) : Addr := match n with | 0 => a | _ => ⟨a.block, Nat.add a.off n, none⟩
def yahs (P : Program) (t : TypeId) (x i : Value) (H : AH) : RV :=
  match i with
  | .int _ i => (match natI i with
    | none => .er [57]
    | some i => (match x with
      | .slice (some a) len _ => (match elemT P t with
        | some (_, sz) => (match Nat.ble (Nat.succ i) len with | true => .ok (.pointer (some (addA a (Nat.mul i sz)))) H | false => .er [58])
        | none => .er [59])
      | .pointer (some a) => (match arrT P t with
        | some (n, _, sz) => (match Nat.ble (Nat.succ i) n with | true => .ok (.pointer (some (addA a (Nat.mul i sz)))) H | false => .er [60])
        | none => .er [61])
      | _ => .er [62]))
  | _ => .er [63]
def optN (v : Option Value) (d : Nat) (k : Nat → RV) : RV := match v with | none => k d | some (.int _ n) => (match natI n with | some n => k n | none => .er [71]) | _ => .er [72]
def yazn (P : Program) (t : TypeId) (x : Value) (lo hi : Option Value) (H : AH) : RV :=
  match x, elemT P t with
  | .slice p len cap, some (_, sz) => optN hi len fun b => optN lo 0 fun a => (match Nat.ble a b && Nat.ble b (Nat.div cap 2), p with
    | true, none => (match b with | 0 => .ok (.slice none 0 0) H | _ => .er [76])
    | true, some ⟨bl, o, none⟩ => (match a with
      | 0 => .ok (.slice (some ⟨bl, o, none⟩) b cap) H
      | _ => (match Nat.ble (Nat.succ a) (Nat.div cap 2), TT.get H.m bl with
        | true, some (.row _ z _ _) => (match Nat.beq z sz with | true => .ok (.slice (some ⟨bl, Nat.add o (Nat.mul a sz), none⟩) (Nat.sub b a) (Nat.sub cap (Nat.mul 2 a))) H | false => .er [73])
        | true, _ => .er [74]
        | false, _ => .ok (.slice (some ⟨bl, 0, some 0⟩) 0 0) H))
    | _, _ => .er [75])
  | _, _ => .er [77]
def lenM (P : Program) (t : TypeId) (x : Value) (H : AH) : RV :=
  match P.underlying t, x with
  | some (.map _ _), .map (some r) => (match TT.get H.m r with | some (.map es _) => .ok (.int .i64 (.ofNat es.length)) H | _ => .er [84])
  | _, _ => .er [85]
def maxL (k : IntKind) : List Value → Int → Option Int
  | [], m => some m
  | .int k' y :: r, m => (match Nat.beq (kNum k) (kNum k') with | true => maxL k r (match zlt m y with | true => y | false => m) | false => none)
  | _, _ => none
def minL (k : IntKind) : List Value → Int → Option Int
  | [], m => some m
  | .int k' y :: r, m => (match Nat.beq (kNum k) (kNum k') with | true => minL k r (match zlt y m with | true => y | false => m) | false => none)
  | _, _ => none
def yaik (P : Program) (b : Builtin) (tys : List TypeId) (args : List Value) (H : AH) : RV :=
  match b, tys, args with
  | .append, [t, t2], [s, .string b] => ybab P t t2 s b H
  | .append, [t, t2], [s, x] => yasb P t t2 s x H
  | .unsafeSliceData, _, [.slice (some ⟨b, o, none⟩) (n + 1) _] => .ok (.pointer (some ⟨b, o, none⟩)) H
  | .unsafeString, [pt, _], [p, l] => usStr P pt p l H
  | .len, [t], [x] => lenM P t x H
  | .max, _, .int k x :: r => (match maxL k r x with | some m => .ok (.int k m) H | none => .er [89])
  | .min, _, .int k x :: r => (match minL k r x with | some m => .ok (.int k m) H | none => .er [89])
  | _, _, _ => .er [89]
def plcS (P : Program) (fs : List Field) : List (Nat × Operand) → Option (List (Nat × Nat))
  | [] => some []
  | (i, _) :: r => (match nth fs i, plcS P fs r with | some f, some ps => some ((f.offset, yaan P f.type) :: ps) | _, _ => none)
def plcA (sz : Nat) : List (Nat × Operand) → List (Nat × Nat)
  | [] => []
  | (i, _) :: r => (Nat.mul i sz, sz) :: plcA sz r
def plcT (P : Program) (t : TypeId) (parts : List (Nat × Operand)) : Option (List (Nat × Nat)) :=
  match P.underlying t with
  | some (.struct fs) => plcS P fs.toList parts
  | some (.array _ e) => some (plcA (yaan P e) parts)
  | _ => none
def findC (k : IntKind) (n : Int) : List MapEntry → Option (Option Value)
  | [] => some none
  | e :: es => match e.key with
    | .int k' n' => (match Nat.beq (kNum k) (kNum k') with
      | true => (match zeq n n' with | true => some (some e.val) | false => findC k n es)
      | false => none)
    | _ => none
def mapT (P : Program) (t : TypeId) : Option TypeId := match P.underlying t with | some (.map k e) => (match P.underlying k with | some (.int _) => some e | _ => none) | _ => none
def zer1 (P : Program) (t : TypeId) : Option Value := match P.info? t with | some i => (match i.zero with | some z => (match plain z with | true => some z | false => none) | none => none) | none => none
def yark (P : Program) (t : TypeId) (m i : Value) (ok : Bool) (H : AH) : RV :=
  match mapT P t, m, i with
  | some e, .map (some r), .int k n => (match TT.get H.m r with
    | some (.map es _) => (match findC k n es, zer1 P e with
      | some (some v), _ => .ok (match ok with | true => .tuple #[v, .bool true] | false => v) H
      | some none, some z => .ok (match ok with | true => .tuple #[z, .bool false] | false => z) H
      | _, _ => .er [102])
    | _ => .er [101])
  | _, _, _ => .er [100]
def yahp (P : Program) (t : TypeId) (m i v : Value) (H : AH) : RV :=
  match mapT P t, m, i with
  | some _, .map (some r), .int k n => (match TT.get H.m r with
    | some (.map es clock) => (match findC k n es with
      | some none => .ok undef ⟨H.nx, TT.set H.m r (some (.map (es ++ [{ key := i, val := v, born := clock }]) (Nat.succ clock)))⟩
      | _ => .er [103])
    | _ => .er [104])
  | _, _, _ => .er [105]
abbrev CallC := Nat → List Value → AH → RV
inductive Gd | yes | no | bad
end
open Go
theorem yaqs {β : Type} (f : Nat → β) (n : Nat) : frc β f n = f n := by cases n <;> rfl
section
variable {α : Type}
def selC {β : Type} (d : Nat) (c0 c1 c2 c3 c4 c5 c6 c7 : β) : β := match d with | 0 => c0 | 1 => c1 | 2 => c2 | 3 => c3 | 4 => c4 | 5 => c5 | 6 => c6 | _ => c7
theorem gT_S (k n : Nat) (c0 c1 c2 c3 c4 c5 c6 c7 : TT α k) : (gT α (k + 1) n).run (.mk c0 c1 c2 c3 c4 c5 c6 c7) = (gT α k (n / 8)).run (selC (n % 8) c0 c1 c2 c3 c4 c5 c6 c7) := by
  have h8 : n % 8 < 8 := Nat.mod_lt _ (by omega)
  have e : gT α (k + 1) n = gD α k (n % 8) (gT α k (n / 8)).run := by
    have e0 : gT α (k + 1) n = @Bx.rec (TT α k → Option α) (fun _ => Nat → Bx (TT α (k + 1) → Option α)) (fun q n => gD α k (Nat.mod n 8) q) (frc _ (gT α k) (Nat.div n 8)) n := rfl
    rw [e0, yaqs]
    show _ = gD α k (n % 8) (gT α k (Nat.div n 8)).run
    cases gT α k (Nat.div n 8); rfl
  rw [e]
  generalize n % 8 = d at h8
  match d, h8 with
  | 0, _ | 1, _ | 2, _ | 3, _ | 4, _ | 5, _ | 6, _ | 7, _ => rfl
  | d + 8, h => omega
def updC {β : Type} (d : Nat) (f : β → β) : N8 β → N8 β
  | .mk c0 c1 c2 c3 c4 c5 c6 c7 => match d with
    | 0 => .mk (f c0) c1 c2 c3 c4 c5 c6 c7 | 1 => .mk c0 (f c1) c2 c3 c4 c5 c6 c7 | 2 => .mk c0 c1 (f c2) c3 c4 c5 c6 c7 | 3 => .mk c0 c1 c2 (f c3) c4 c5 c6 c7
    | 4 => .mk c0 c1 c2 c3 (f c4) c5 c6 c7 | 5 => .mk c0 c1 c2 c3 c4 (f c5) c6 c7 | 6 => .mk c0 c1 c2 c3 c4 c5 (f c6) c7 | _ => .mk c0 c1 c2 c3 c4 c5 c6 (f c7)
theorem sT_S (k n : Nat) (t : TT α (k + 1)) (x : Option α) : (sT α (k + 1) n).run t x = updC (n % 8) (fun c => (sT α k (n / 8)).run c x) t := by
  have h8 : n % 8 < 8 := Nat.mod_lt _ (by omega)
  have e : sT α (k + 1) n = sD α k (n % 8) (sT α k (n / 8)).run := by
    have e0 : sT α (k + 1) n = @Bx.rec (TT α k → Option α → TT α k) (fun _ => Nat → Bx (TT α (k + 1) → Option α → TT α (k + 1))) (fun q n => sD α k (Nat.mod n 8) q) (frc _ (sT α k) (Nat.div n 8)) n := rfl
    rw [e0, yaqs]
    show _ = sD α k (n % 8) (sT α k (Nat.div n 8)).run
    cases sT α k (Nat.div n 8); rfl
  rw [e]
  cases t with | mk c0 c1 c2 c3 c4 c5 c6 c7 =>
  generalize n % 8 = d at h8
  match d, h8 with
  | 0, _ | 1, _ | 2, _ | 3, _ | 4, _ | 5, _ | 6, _ | 7, _ => rfl
  | d + 8, h => omega
theorem ybgp (k i d : Nat) (hd : d < 8) (f : TT α k → TT α k) (t : TT α (k + 1)) :
    (gT α (k + 1) i).run (updC d f t) = if i % 8 = d then (match t with | .mk c0 c1 c2 c3 c4 c5 c6 c7 => (gT α k (i / 8)).run (f (selC d c0 c1 c2 c3 c4 c5 c6 c7))) else (gT α (k + 1) i).run t := by
  have h8 : i % 8 < 8 := Nat.mod_lt _ (by omega)
  cases t with | mk c0 c1 c2 c3 c4 c5 c6 c7 =>
  rw [gT_S]
  match d, hd with
  | 0, _ | 1, _ | 2, _ | 3, _ | 4, _ | 5, _ | 6, _ | 7, _ =>
    simp only [updC]
    rw [gT_S]
    generalize i % 8 = e at h8
    match e, h8 with
    | 0, _ | 1, _ | 2, _ | 3, _ | 4, _ | 5, _ | 6, _ | 7, _ => rfl
    | e + 8, h => omega
  | d + 8, h => omega
theorem TT.get_eq {k : Nat} (t : TT α k) (n : Nat) : TT.get t n = (gT α k n).run t := by unfold TT.get; rw [yaqs]
theorem TT.set_eq {k : Nat} (t : TT α k) (n : Nat) (x : Option α) : TT.set t n x = (sT α k n).run t x := by unfold TT.set; rw [yaqs]
theorem TT.set_get : ∀ {k : Nat} (t : TT α k) (n i : Nat) (x : Option α), (n < 8 ^ k → TT.get (TT.set t n x) i = if i = n then x else TT.get t i) ∧ (∀ v, TT.get (TT.set t n x) i = some v → (i = n ∧ x = some v) ∨ (i ≠ n ∧ TT.get t i = some v))
  | 0, t, n, i, x => by
    rw [TT.get_eq, TT.set_eq, TT.get_eq]
    cases n with
    | zero =>
      cases i with
      | zero => exact ⟨fun _ => rfl, fun v h => .inl ⟨rfl, h⟩⟩
      | succ i => exact ⟨fun _ => rfl, fun v h => .inr ⟨by omega, h⟩⟩
    | succ n =>
      cases i with
      | zero => exact ⟨fun h => by simp at h, fun v h => .inr ⟨by omega, h⟩⟩
      | succ i => exact ⟨fun h => by simp at h, fun v h => by cases h⟩
  | k + 1, t, n, i, x => by
    rw [TT.get_eq, TT.set_eq, TT.get_eq, sT_S, ybgp k i (n % 8) (Nat.mod_lt _ (by omega))]
    cases t with | mk c0 c1 c2 c3 c4 c5 c6 c7 =>
    by_cases hd : i % 8 = n % 8
    · rw [if_pos hd]
      simp only []
      have ih := TT.set_get (selC (n % 8) c0 c1 c2 c3 c4 c5 c6 c7) (n / 8) (i / 8) x
      rw [TT.get_eq, TT.set_eq, TT.get_eq] at ih
      rw [gT_S, hd]
      refine ⟨fun h => ?_, fun v h => ?_⟩
      · rw [ih.1 (by rw [Nat.pow_succ] at h; omega)]
        by_cases he : i / 8 = n / 8
        · rw [if_pos he, if_pos (by omega)]
        · rw [if_neg he, if_neg (by omega)]
      · rcases ih.2 v h with ⟨h1, h2⟩ | ⟨h1, h2⟩
        · exact .inl ⟨by omega, h2⟩
        · exact .inr ⟨by omega, h2⟩
    · rw [if_neg hd]
      exact ⟨fun _ => by rw [if_neg (fun e => hd (by rw [e]))], fun v h => .inr ⟨fun e => hd (by rw [e]), h⟩⟩
theorem yamj : ∀ (k i : Nat), TT.get (eT α k) i = none
  | 0, i => by rw [TT.get_eq]; cases i <;> rfl
  | k + 1, i => by
    rw [TT.get_eq]
    show (gT α (k + 1) i).run (.mk (eT α k) (eT α k) (eT α k) (eT α k) (eT α k) (eT α k) (eT α k) (eT α k)) = none
    rw [gT_S]
    have : selC (i % 8) (eT α k) (eT α k) (eT α k) (eT α k) (eT α k) (eT α k) (eT α k) (eT α k) = eT α k := by unfold selC; split <;> rfl
    rw [this, ← TT.get_eq]
    exact yamj k _
end
theorem yaef : ∀ (l : List Value) (i : Nat), nthR l i = l[i]?
  | [], _ => rfl
  | _ :: _, 0 => rfl
  | _ :: r, i + 1 => by rw [List.getElem?_cons_succ, ← yaef r i]; rfl
theorem yaow : ∀ (l : List Value) (i : Nat) (v : Value), setR l i v = l.set i v
  | [], _, _ => rfl
  | _ :: _, 0, _ => rfl
  | x :: r, i + 1, v => by rw [List.set_cons_succ, ← yaow r i v]; rfl
theorem yanu : ∀ (l : List Value) (i : Nat), drpR l i = l.drop i
  | _, 0 => rfl
  | [], _ + 1 => rfl
  | _ :: r, i + 1 => by rw [List.drop_succ_cons, ← yanu r i]; rfl
theorem tkR_S (n : Nat) (v : Value) (r : List Value) : tkR (n + 1) (v :: r) = (match tkR n r with | some r => some (v :: r) | none => none) := by
  have e : tkR (n + 1) (v :: r) = @Option.rec (List Value) (fun _ => Value → Option (List Value)) (fun _ => none) (fun r v => some (v :: r)) (tkR n r) v := rfl
  rw [e]
  cases tkR n r <;> rfl
theorem yakg : ∀ {n : Nat} {l vs : List Value}, tkR n l = some vs → vs = l.take n ∧ n ≤ l.length
  | 0, l, vs, h => by obtain rfl := Option.some.inj h; simp
  | n + 1, [], vs, h => by cases h
  | n + 1, v :: r, vs, h => by
    rw [tkR_S] at h
    split at h
    · rename_i r' hr
      obtain rfl := Option.some.inj h
      obtain ⟨h1, h2⟩ := yakg hr
      exact ⟨by rw [h1]; rfl, by simp; omega⟩
    · cases h
theorem yahq : ∀ (a b : List Value), appR a b = a ++ b
  | [], _ => rfl
  | v :: r, b => by rw [List.cons_append, ← yahq r b]; rfl
theorem yabe : ∀ l : List Value, lenV0 l = l.length
  | [] => rfl
  | _ :: r => by rw [List.length_cons, ← yabe r]; rfl
theorem yaov (a b : Bool) : andR a b = (a && b) := by cases a <;> rfl
theorem ybde (v : Value) : scR v = scalar v := by cases v <;> rfl
theorem yall (v : Value) (r : List Value) : allSc (v :: r) = (scalar v && allSc r) := by
  show andR (scR v) (allSc r) = _
  rw [yaov, ybde]
theorem rdT_S (t : TT Value 5) (n i : Nat) : rdT t (n + 1) i = (match TT.get t i with | some v => (match rdT t n (i + 1) with | some r => some (v :: r) | none => none) | none => none) := by
  have e : rdT t (n + 1) i = @Option.rec Value (fun _ => (Nat → Option (List Value)) → Nat → Option (List Value)) (fun _ _ => none) (fun v ih i => @Option.rec (List Value) (fun _ => Value → Option (List Value)) (fun _ => none) (fun r v => some (v :: r)) (ih (Nat.succ i)) v) (TT.get t i) (rdT t n) i := rfl
  rw [e]
  cases TT.get t i with
  | none => rfl
  | some v =>
    have e2 : ∀ o : Option (List Value), @Option.rec (List Value) (fun _ => Value → Option (List Value)) (fun _ => none) (fun r v => some (v :: r)) o v = (match o with | some r => some (v :: r) | none => none) := fun o => by cases o <;> rfl
    exact e2 (rdT t n (i + 1))
theorem yase {t : TT Value 5} : ∀ {n i : Nat} {vs : List Value}, rdT t n i = some vs → vs.length = n ∧ ∀ j, j < n → TT.get t (i + j) = vs[j]?
  | 0, i, vs, h => by obtain rfl := Option.some.inj h; exact ⟨rfl, fun j hj => by omega⟩
  | n + 1, i, vs, h => by
    rw [rdT_S] at h
    split at h
    · rename_i v hv
      split at h
      · rename_i r hr
        obtain rfl := Option.some.inj h
        obtain ⟨h1, h2⟩ := yase hr
        refine ⟨by simp [h1], fun j hj => ?_⟩
        cases j with
        | zero => exact hv
        | succ j => rw [show i + (j + 1) = i + 1 + j by omega, h2 j (by omega)]; simp
      · cases h
    · cases h
theorem Cs.rds_spec {c : Cs} {n i : Nat} {vs : List Value} (h : rds c n i = some vs) : vs.length = n ∧ ∀ j, j < n → Cs.get c (i + j) = vs[j]? := by
  cases c with
  | sm l =>
    obtain ⟨h1, h2⟩ := yakg (show tkR n (drpR l i) = some vs from h)
    rw [yanu] at h1 h2
    refine ⟨by rw [h1, List.length_take]; omega, fun j hj => ?_⟩
    show nthR l (i + j) = _
    rw [yaef, h1, List.getElem?_take_of_lt hj, List.getElem?_drop]
  | bg t => exact yase h
theorem Cs.set_get {c : Cs} {i j : Nat} {v x : Value} (h : Cs.get (Cs.set c i x) j = some v) : (j = i ∧ v = x) ∨ (j ≠ i ∧ Cs.get c j = some v) := by
  cases c with
  | sm l =>
    have h : nthR (setR l i x) j = some v := h
    rw [yaef, yaow] at h
    by_cases he : i = j
    · subst he
      rw [List.getElem?_set_self'] at h
      refine .inl ⟨rfl, ?_⟩
      cases hl : l[i]? with
      | none => rw [hl] at h; cases h
      | some y => rw [hl] at h; exact (Option.some.inj h).symm
    · rw [List.getElem?_set_ne he] at h
      refine .inr ⟨fun e => he e.symm, ?_⟩
      show nthR l j = some v
      rw [yaef]; exact h
  | bg t =>
    rcases (TT.set_get t i j (some x)).2 v h with ⟨h1, h2⟩ | h1
    · exact .inl ⟨h1, (Option.some.inj h2).symm⟩
    · exact .inr h1
theorem yapp : ∀ {vs : List Value} {i : Nat} {t : TT Value 5} {j : Nat} {v : Value}, TT.get (wrT vs i t) j = some v → (i ≤ j ∧ j < i + vs.length ∧ vs[j - i]? = some v) ∨ ((j < i ∨ i + vs.length ≤ j) ∧ TT.get t j = some v)
  | [], i, t, j, v, h => .inr ⟨by simp; omega, h⟩
  | x :: vs, i, t, j, v, h => by
    have h : TT.get (wrT vs (i + 1) (TT.set t i (some x))) j = some v := h
    rcases yapp h with ⟨h1, h2, h3⟩ | ⟨h1, h2⟩
    · refine .inl ⟨by omega, by simp; omega, ?_⟩
      have : j - i = (j - (i + 1)) + 1 := by omega
      rw [this]; simpa using h3
    · rcases (TT.set_get t i j (some x)).2 _ h2 with ⟨rfl, he⟩ | ⟨hne, h2⟩
      · exact .inl ⟨Nat.le_refl _, by simp, by simpa using he⟩
      · exact .inr ⟨by simp only [List.length_cons]; omega, h2⟩
theorem yaxd : ∀ {vs : List Value} {i : Nat} {l : List Value} {j : Nat} {v : Value}, (wrL vs i l)[j]? = some v → (i ≤ j ∧ j < i + vs.length ∧ vs[j - i]? = some v) ∨ ((j < i ∨ i + vs.length ≤ j) ∧ l[j]? = some v)
  | [], i, l, j, v, h => .inr ⟨by simp; omega, h⟩
  | x :: vs, i, l, j, v, h => by
    have h : (wrL vs (i + 1) (setR l i x))[j]? = some v := h
    rw [yaow] at h
    rcases yaxd h with ⟨h1, h2, h3⟩ | ⟨h1, h2⟩
    · refine .inl ⟨by omega, by simp; omega, ?_⟩
      have : j - i = (j - (i + 1)) + 1 := by omega
      rw [this]; simpa using h3
    · by_cases he : i = j
      · subst he
        rw [List.getElem?_set_self'] at h2
        refine .inl ⟨Nat.le_refl _, by simp, ?_⟩
        cases hl : l[i]? with
        | none => rw [hl] at h2; cases h2
        | some y => rw [hl] at h2; simpa using h2
      · rw [List.getElem?_set_ne he] at h2
        exact .inr ⟨by simp only [List.length_cons]; omega, h2⟩
theorem ybdu {vs : List Value} {i : Nat} {c : Cs} {j : Nat} {v : Value} (h : Cs.get (wrs vs i c) j = some v) : (i ≤ j ∧ j < i + vs.length ∧ vs[j - i]? = some v) ∨ ((j < i ∨ i + vs.length ≤ j) ∧ Cs.get c j = some v) := by
  cases c with
  | sm l =>
    have h : nthR (wrL vs i l) j = some v := h
    rw [yaef] at h
    rcases yaxd h with h1 | ⟨h1, h2⟩
    · exact .inl h1
    · exact .inr ⟨h1, by show nthR l j = some v; rw [yaef]; exact h2⟩
  | bg t => exact yapp h
theorem yamb {vs : List Value} {j : Nat} {v : Value} (h : Cs.get (mkT vs) j = some v) : vs[j]? = some v := by
  unfold mkT at h
  cases hb : Nat.ble (lenV0 vs) 24 with
  | true => rw [hb] at h; have h : nthR vs j = some v := h; rwa [yaef] at h
  | false =>
    rw [hb] at h
    rcases yapp (show TT.get (wrT vs 0 (eT Value 5)) j = some v from h) with ⟨_, _, h3⟩ | ⟨_, h2⟩
    · simpa using h3
    · rw [yamj] at h2; cases h2
theorem yatt {c : Cs} {n j : Nat} {vs : List Value} {v : Value} (hc : ∀ i x, Cs.get c i = some x → i < n) (h : Cs.get (grow c n vs) j = some v) : (j < n ∧ Cs.get c j = some v) ∨ (n ≤ j ∧ vs[j - n]? = some v) := by
  cases c with
  | sm l =>
    have h : Cs.get (@Bool.rec (fun _ => List Value → List Value → Cs) (fun _ _ => .sm []) (fun l vs => mkT (appR l vs)) (Nat.beq (lenV0 l) n) l vs) j = some v := h
    cases hb : Nat.beq (lenV0 l) n with
    | true =>
      rw [hb] at h
      have hl := Nat.eq_of_beq_eq_true hb
      rw [yabe] at hl
      have h := yamb (show Cs.get (mkT (appR l vs)) j = some v from h)
      rw [yahq] at h
      by_cases hj : j < n
      · rw [List.getElem?_append_left (by omega)] at h
        exact .inl ⟨hj, by show nthR l j = some v; rw [yaef]; exact h⟩
      · rw [List.getElem?_append_right (by omega), hl] at h
        exact .inr ⟨by omega, h⟩
    | false => rw [hb] at h; cases h
  | bg t =>
    rcases yapp (show TT.get (wrT vs n t) j = some v from h) with ⟨h1, _, h3⟩ | ⟨h1, h2⟩
    · exact .inr ⟨h1, h3⟩
    · exact .inl ⟨hc j v h2, h2⟩
open Go
structure Ph where
  r : Nat
  s : Nat
  z : Nat
abbrev Phi := Nat → Option Ph
mutual
inductive VR (φ : Phi) : Value → Value → Prop
  | bool (b : Bool) : VR φ (.bool b) (.bool b)
  | int (k : IntKind) (n : Int) : VR φ (.int k n) (.int k n)
  | str (s : ByteArray) : VR φ (.string s) (.string s)
  | ptr0 : VR φ (.pointer none) (.pointer none)
  | ptr {b : Nat} {m : Ph} (o : Nat) (sp : Option Nat) : φ b = some m → VR φ (.pointer (some ⟨b, o, sp⟩)) (.pointer (some ⟨m.r, o, sp⟩))
  | sl0 (c : Nat) : VR φ (.slice none 0 c) (.slice none 0 0)
  | sl {b : Nat} {m : Ph} {o n c c' : Nat} : φ b = some m → (c % 2 = 1 → c' = c / 2) → (c % 2 = 0 → 0 < m.z ∧ o + c' * m.z = m.s) → c / 2 ≤ c' → n ≤ c' → VR φ (.slice (some ⟨b, o, none⟩) n c) (.slice (some ⟨m.r, o, none⟩) n c')
  | sle (b o s c c' : Nat) (a : Addr) : VR φ (.slice (some ⟨b, o, some s⟩) 0 c) (.slice (some a) 0 c')
  | map0 : VR φ (.map none) (.map none)
  | map {b : Nat} {m : Ph} : φ b = some m → VR φ (.map (some b)) (.map (some m.r))
  | func (fn : Fn) {xs ys xs' ys' : List Value} : VRL φ xs ys → VRL φ xs' ys' → VR φ (.func fn ⟨xs⟩ ⟨xs'⟩) (.func fn ⟨ys⟩ ⟨ys'⟩)
  | nilFunc : VR φ .nilFunc .nilFunc
  | nilIface : VR φ .nilIface .nilIface
  | iface (t : TypeId) {v u : Value} : VR φ v u → VR φ (.iface t v) (.iface t u)
  | agg {xs ys : List Value} : VRL φ xs ys → VR φ (.agg ⟨xs⟩) (.agg ⟨ys⟩)
  | tup {xs ys : List Value} : VRL φ xs ys → VR φ (.tuple ⟨xs⟩) (.tuple ⟨ys⟩)
inductive VRL (φ : Phi) : List Value → List Value → Prop
  | nil : VRL φ [] []
  | cons {x y : Value} {xs ys : List Value} : VR φ x y → VRL φ xs ys → VRL φ (x :: xs) (y :: ys)
end
def Sub (φ ψ : Phi) : Prop := ∀ b m, φ b = some m → ψ b = some m
theorem Sub.refl (φ : Phi) : Sub φ φ := fun _ _ h => h
theorem Sub.trans {φ ψ χ : Phi} (h : Sub φ ψ) (k : Sub ψ χ) : Sub φ χ := fun b m e => k b m (h b m e)
mutual
theorem VR.mono {φ ψ : Phi} (hs : Sub φ ψ) {v u : Value} : VR φ v u → VR ψ v u
  | .bool b => .bool b
  | .int k n => .int k n
  | .str s => .str s
  | .ptr0 => .ptr0
  | .ptr o sp h => .ptr o sp (hs _ _ h)
  | .sl0 c => .sl0 c
  | .sl h a b c d => .sl (hs _ _ h) a b c d
  | .sle b o s c c' a => .sle b o s c c' a
  | .map0 => .map0
  | .map h => .map (hs _ _ h)
  | .func fn h k => .func fn (VRL.mono hs h) (VRL.mono hs k)
  | .nilFunc => .nilFunc
  | .nilIface => .nilIface
  | .iface t h => .iface t (VR.mono hs h)
  | .agg h => .agg (VRL.mono hs h)
  | .tup h => .tup (VRL.mono hs h)
theorem VRL.mono {φ ψ : Phi} (hs : Sub φ ψ) {vs us : List Value} : VRL φ vs us → VRL ψ vs us
  | .nil => .nil
  | .cons h k => .cons (VR.mono hs h) (VRL.mono hs k)
end
section
variable {φ : Phi}
theorem VRL.len {vs us : List Value} (h : VRL φ vs us) : vs.length = us.length := by
  induction vs generalizing us with
  | nil => cases h; rfl
  | cons v vs ih => cases h with | cons h k => simp [ih k]
theorem VRL.get {vs us : List Value} (h : VRL φ vs us) {i : Nat} {v : Value} (e : vs[i]? = some v) : ∃ u, us[i]? = some u ∧ VR φ v u := by
  induction vs generalizing us i with
  | nil => cases e
  | cons x vs ih =>
    cases h with
    | cons h k =>
      cases i with
      | zero => obtain rfl := Option.some.inj e; exact ⟨_, rfl, h⟩
      | succ i => exact ih k (by simpa using e)
theorem VRL.app {vs us vs' us' : List Value} (h : VRL φ vs us) (k : VRL φ vs' us') : VRL φ (vs ++ vs') (us ++ us') := by
  induction vs generalizing us with
  | nil => cases h; exact k
  | cons x vs ih => cases h with | cons h h' => exact .cons h (ih h')
theorem VRL.drop {vs us : List Value} (h : VRL φ vs us) (n : Nat) : VRL φ (vs.drop n) (us.drop n) := by
  induction n generalizing vs us with
  | zero => simpa using h
  | succ n ih => cases h with | nil => exact .nil | cons h k => exact ih k
theorem VRL.take {vs us : List Value} (h : VRL φ vs us) (n : Nat) : VRL φ (vs.take n) (us.take n) := by
  induction n generalizing vs us with
  | zero => exact .nil
  | succ n ih => cases h with | nil => exact .nil | cons h k => exact .cons h (ih k)
theorem VRL.set {vs us : List Value} (h : VRL φ vs us) {v u : Value} (hv : VR φ v u) (n : Nat) : VRL φ (vs.set n v) (us.set n u) := by
  induction vs generalizing us n with
  | nil => cases h; exact .nil
  | cons x vs ih =>
    cases h with
    | cons h k => cases n with | zero => exact .cons hv k | succ n => exact .cons h (ih k n)
theorem VRL.map {ι : Type} {f g : ι → Value} (h : ∀ x, VR φ (f x) (g x)) : ∀ l : List ι, VRL φ (l.map f) (l.map g)
  | [] => .nil
  | x :: r => .cons (h x) (VRL.map h r)
theorem VR.scalar {v u : Value} (h : VR φ v u) : Sx.scalar v = Sx.scalar u := by cases h <;> rfl
theorem VRL.rep {zs ws : List Value} (h : VRL φ zs ws) : ∀ n, VRL φ (repC zs n) (repC ws n)
  | 0 => .nil
  | n + 1 => by rw [repC, repC, yahq, yahq]; exact h.app (VRL.rep h n)
theorem VR.agg_inv {xs : Array Value} {u : Value} (h : VR φ (.agg xs) u) : ∃ ys, u = .agg ⟨ys⟩ ∧ VRL φ xs.toList ys := by cases h with | agg h => exact ⟨_, rfl, h⟩
theorem VR.tup_inv {xs : Array Value} {u : Value} (h : VR φ (.tuple xs) u) : ∃ ys, u = .tuple ⟨ys⟩ ∧ VRL φ xs.toList ys := by cases h with | tup h => exact ⟨_, rfl, h⟩
theorem VR.int_inv {k : IntKind} {n : Int} {u : Value} (h : VR φ (.int k n) u) : u = .int k n := by cases h; rfl
theorem VR.bool_inv {b : Bool} {u : Value} (h : VR φ (.bool b) u) : u = .bool b := by cases h; rfl
theorem VR.str_inv {b : ByteArray} {u : Value} (h : VR φ (.string b) u) : u = .string b := by cases h; rfl
theorem VR.ptr0_inv {u : Value} (h : VR φ (.pointer none) u) : u = .pointer none := by cases h; rfl
theorem VR.ptr_inv {a : Addr} {u : Value} (h : VR φ (.pointer (some a)) u) : ∃ m, φ a.block = some m ∧ u = .pointer (some ⟨m.r, a.off, a.spot⟩) := by cases h with | ptr o sp h => exact ⟨_, h, rfl⟩
theorem VR.func_inv {fn : Fn} {xs ys : Array Value} {u : Value} (h : VR φ (.func fn xs ys) u) : ∃ xs' ys', u = .func fn ⟨xs'⟩ ⟨ys'⟩ ∧ VRL φ xs.toList xs' ∧ VRL φ ys.toList ys' := by cases h with | func fn h k => exact ⟨_, _, rfl, h, k⟩
theorem VR.sl0_inv {n c : Nat} {u : Value} (h : VR φ (.slice none n c) u) : n = 0 ∧ u = .slice none 0 0 := by cases h; exact ⟨rfl, rfl⟩
theorem VR.sl_inv {b o n c : Nat} {u : Value} (h : VR φ (.slice (some ⟨b, o, none⟩) n c) u) : ∃ m c', φ b = some m ∧ u = .slice (some ⟨m.r, o, none⟩) n c' ∧ (c % 2 = 1 → c' = c / 2) ∧ (c % 2 = 0 → 0 < m.z ∧ o + c' * m.z = m.s) ∧ c / 2 ≤ c' ∧ n ≤ c' := by
  cases h with | sl h1 h2 h3 h4 h5 => exact ⟨_, _, h1, rfl, h2, h3, h4, h5⟩
theorem VR.sle_inv {b o n c s : Nat} {u : Value} (h : VR φ (.slice (some ⟨b, o, some s⟩) n c) u) : ∃ a c', n = 0 ∧ u = .slice (some a) 0 c' := by
  cases h with | sle => exact ⟨_, _, rfl, rfl⟩
theorem VR.map_inv {r : Nat} {u : Value} (h : VR φ (.map (some r)) u) : ∃ m, φ r = some m ∧ u = .map (some m.r) := by cases h with | map h => exact ⟨_, h, rfl⟩
theorem VR.map0_inv {u : Value} (h : VR φ (.map none) u) : u = .map none := by cases h; rfl
theorem VR.plain {v : Value} (h : Sx.plain v = true) : VR φ v v := by
  unfold Sx.plain at h
  split at h <;> first | constructor | cases h
theorem VRL.plains : ∀ {vs : List Value}, Sx.plains vs = true → VRL φ vs vs
  | [], _ => .nil
  | v :: r, h => by
    simp only [Sx.plains, Bool.and_eq_true] at h
    exact .cons (VR.plain h.1) (VRL.plains h.2)
end
open Go
def ERel (φ : Phi) : List MapEntry → List MapEntry → Prop
  | [], [] => True
  | e :: es, f :: fs => VR φ e.key f.key ∧ VR φ e.val f.val ∧ e.born = f.born ∧ ERel φ es fs
  | _, _ => False
def OwnB : Bk → Prop | .ro _ => False | _ => True
def BR (φ : Phi) (m : Ph) (h : Hp) : Bk → Prop
  | .row n z ty cs => ∃ c f, h[m.r]? = some (.cells c ty f) ∧ (∀ i, i < c.size → ¬ (f.1 ≤ i ∧ i < f.2)) ∧ c.size = m.s ∧ m.z = z ∧ (n ≤ m.s ∧ (z = 0 → n = m.s)) ∧ ∀ i v, Cs.get cs i = some v → i < n ∧ ∃ u, c[i]? = some u ∧ VR φ v u
  | .map es clock => ∃ fs, h[m.r]? = some (.map fs clock) ∧ ERel φ es fs.toList
  | .ro cs => ∀ i v, Cs.get cs i = some v → ∃ u, cell h ⟨m.r, i, none⟩ = some u ∧ VR φ v u
structure HR (φ : Phi) (h0 : Hp) (H : AH) (h : Hp) : Prop where
  fresh : ∀ b, H.nx ≤ b → φ b = none
  size : h0.size ≤ h.size
  old : ∀ r, r < h0.size → h[r]? = h0[r]?
  blk : ∀ b k, TT.get H.m b = some k → ∃ m, φ b = some m ∧ (OwnB k → h0.size ≤ m.r) ∧ (¬ OwnB k → m.r < h0.size) ∧ BR φ m h k
  inj : ∀ b b' k k' m, TT.get H.m b = some k → TT.get H.m b' = some k' → OwnB k → OwnB k' → φ b = some m → (∃ m', φ b' = some m' ∧ m.r = m'.r) → b = b'
structure Step (φ ψ : Phi) (h0 : Hp) (H H' : AH) (h h' : Hp) : Prop where
  sub : Sub φ ψ
  new : ∀ b m, ψ b = some m → φ b = some m ∨ (H.nx ≤ b ∧ (h.size ≤ m.r ∨ ∃ b0 k0 m0, TT.get H.m b0 = some k0 ∧ OwnB k0 ∧ φ b0 = some m0 ∧ m0.r = m.r))
  hr : HR ψ h0 H' h'
  nx : H.nx ≤ H'.nx
  size : h.size ≤ h'.size
  frm : ∀ r, r < h.size → (∀ b k m, TT.get H.m b = some k → OwnB k → φ b = some m → m.r ≠ r) → h'[r]? = h[r]?
  live : ∀ b k, TT.get H'.m b = some k → OwnB k → b < H.nx → ∃ k0, TT.get H.m b = some k0 ∧ OwnB k0
def Out (φ : Phi) (h0 : Hp) (H : AH) (h : Hp) (v : Value) (H' : AH) : Value → Hp → Prop := fun u h' => ∃ ψ, Step φ ψ h0 H H' h h' ∧ VR ψ v u
theorem ERel.mono {φ ψ : Phi} (hs : Sub φ ψ) : ∀ {es fs : List MapEntry}, ERel φ es fs → ERel ψ es fs
  | [], [], _ => trivial
  | _ :: _, _ :: _, h => ⟨h.1.mono hs, h.2.1.mono hs, h.2.2.1, h.2.2.2.mono hs⟩
  | [], _ :: _, h => h.elim
  | _ :: _, [], h => h.elim
theorem BR.mono {φ ψ : Phi} (hs : Sub φ ψ) {m : Ph} {h : Hp} {k : Bk} (b : BR φ m h k) : BR ψ m h k := by
  cases k with
  | row n z ty cs =>
    obtain ⟨c, f, h1, hf, h2, h3, h4, h5⟩ := b
    refine ⟨c, f, h1, hf, h2, h3, h4, fun i v hv => ?_⟩
    obtain ⟨hi, u, hu, hr⟩ := h5 i v hv
    exact ⟨hi, u, hu, hr.mono hs⟩
  | map es clock =>
    obtain ⟨fs, h1, h2⟩ := b
    exact ⟨fs, h1, h2.mono hs⟩
  | ro cs =>
    intro i v hv
    obtain ⟨u, hu, hr⟩ := b i v hv
    exact ⟨u, hu, hr.mono hs⟩
theorem yass {h h' : Hp} {r : Nat} (he : h'[r]? = h[r]?) (o : Nat) : cell h' ⟨r, o, none⟩ = cell h ⟨r, o, none⟩ := by
  unfold cell
  simp only [he]
theorem BR.heap {φ : Phi} {m : Ph} {h h' : Hp} {k : Bk} (b : BR φ m h k) (he : h'[m.r]? = h[m.r]?) : BR φ m h' k := by
  cases k with
  | row n z ty cs =>
    obtain ⟨c, f, h1, h2⟩ := b
    exact ⟨c, f, by rw [he]; exact h1, h2⟩
  | map es clock =>
    obtain ⟨fs, h1, h2⟩ := b
    exact ⟨fs, by rw [he]; exact h1, h2⟩
  | ro cs =>
    intro i v hv
    rw [yass he]
    exact b i v hv
theorem BR.lt {φ : Phi} {m : Ph} {h : Hp} {k : Bk} (ho : OwnB k) (b : BR φ m h k) : m.r < h.size := by
  have : ∃ o, h[m.r]? = some o := by
    cases k with
    | row n z ty cs => obtain ⟨c, f, h1, _⟩ := b; exact ⟨_, h1⟩
    | map es clock => obtain ⟨fs, h1, _⟩ := b; exact ⟨_, h1⟩
    | ro cs => exact ho.elim
  obtain ⟨o, ho⟩ := this
  exact (Array.getElem?_eq_some_iff.1 ho).1
theorem OwnB.em (k : Bk) : OwnB k ∨ ¬ OwnB k := by cases k <;> first | exact .inl trivial | exact .inr id
def upd (φ : Phi) (b : Nat) (m : Ph) : Phi := fun i => if i = b then some m else φ i
theorem yaol {φ : Phi} {b : Nat} (h : φ b = none) (m : Ph) : Sub φ (upd φ b m) := fun i x hx => by
  unfold upd
  split
  · rename_i e; subst e; rw [h] at hx; cases hx
  · exact hx
theorem yabs (φ : Phi) (b : Nat) (m : Ph) : upd φ b m b = some m := by unfold upd; rw [if_pos rfl]
theorem yaeb {φ : Phi} {b c : Nat} {m : Ph} (h : c ≠ b) : upd φ b m c = φ c := by unfold upd; rw [if_neg h]
section
variable {φ : Phi} {h0 : Hp} {H : AH} {h : Hp}
theorem HR.dom (hr : HR φ h0 H h) {b : Nat} {m : Ph} (e : φ b = some m) : b < H.nx := by
  rcases Nat.lt_or_ge b H.nx with hlt | hge
  · exact hlt
  · rw [hr.fresh b hge] at e; cases e
theorem HR.lt (hr : HR φ h0 H h) {b : Nat} {k : Bk} {m : Ph} (g : TT.get H.m b = some k) (e : φ b = some m) : m.r < h.size := by
  obtain ⟨m', hm', h1, h2, hb⟩ := hr.blk b k g
  rw [e] at hm'
  obtain rfl := Option.some.inj hm'
  rcases OwnB.em k with ho | ho
  · exact hb.lt ho
  · have := h2 ho; have := hr.size; omega
theorem Step.refl (hr : HR φ h0 H h) : Step φ φ h0 H H h h := ⟨Sub.refl φ, fun _ _ e => .inl e, hr, Nat.le_refl _, Nat.le_refl _, fun _ _ _ => rfl, fun _ k g ho _ => ⟨k, g, ho⟩⟩
theorem Step.trans {ψ χ : Phi} {H' H'' : AH} {h' h'' : Hp} (hr : HR φ h0 H h) (s : Step φ ψ h0 H H' h h') (t : Step ψ χ h0 H' H'' h' h'') : Step φ χ h0 H H'' h h'' where
  sub := s.sub.trans t.sub
  new := fun b m e => by
    rcases t.new b m e with e | ⟨h1, h2⟩
    · exact s.new b m e
    · refine .inr ⟨Nat.le_trans s.nx h1, ?_⟩
      rcases h2 with h2 | ⟨b0, k0, m0, g0, o0, e0, h2⟩
      · exact .inl (Nat.le_trans s.size h2)
      · rcases s.new b0 m0 e0 with e0 | ⟨_, h3 | ⟨b1, k1, m1, g1, o1, e1, h3⟩⟩
        · obtain ⟨k1, g1, o1⟩ := s.live b0 k0 g0 o0 (hr.dom e0)
          exact .inr ⟨b0, k1, m0, g1, o1, e0, h2⟩
        · exact .inl (by omega)
        · exact .inr ⟨b1, k1, m1, g1, o1, e1, h3.trans h2⟩
  hr := t.hr
  nx := Nat.le_trans s.nx t.nx
  size := Nat.le_trans s.size t.size
  frm := fun r hlt hn => by
    rw [t.frm r (Nat.lt_of_lt_of_le hlt s.size) ?_, s.frm r hlt hn]
    intro b k m g ho e he
    rcases s.new b m e with e' | ⟨_, h2 | ⟨b1, k1, m1, g1, o1, e1, h3⟩⟩
    · obtain ⟨k0, g0, o0⟩ := s.live b k g ho (hr.dom e')
      exact hn b k0 m g0 o0 e' he
    · omega
    · exact hn b1 k1 m1 g1 o1 e1 (h3.trans he)
  live := fun b k g ho hlt => by
    obtain ⟨k1, g1, o1⟩ := t.live b k g ho (Nat.lt_of_lt_of_le hlt s.nx)
    exact s.live b k1 g1 o1 hlt
theorem Out.of {v u : Value} (hv : VR φ v u) (hr : HR φ h0 H h) : Out φ h0 H h v H u h := ⟨φ, Step.refl hr, hv⟩
theorem HR.new (hr : HR φ h0 H h) {o : Obj} {k : Bk} {s z : Nat} (ho : OwnB k) (hb : ∀ ψ, Sub φ ψ → BR ψ ⟨h.size, s, z⟩ (h.push o) k) :
    ∃ ψ, ψ H.nx = some ⟨h.size, s, z⟩ ∧ Step φ ψ h0 H ⟨H.nx + 1, TT.set H.m H.nx (some k)⟩ h (h.push o) := by
  have hn := hr.fresh H.nx (Nat.le_refl _)
  have hsub := yaol hn ⟨h.size, s, z⟩
  have keep : ∀ r, r < h.size → (h.push o)[r]? = h[r]? := fun r hlt => by
    rw [Array.getElem?_push, if_neg (by omega)]
  have gg : ∀ b k', TT.get (TT.set H.m H.nx (some k)) b = some k' → (b = H.nx ∧ k' = k) ∨ (b ≠ H.nx ∧ TT.get H.m b = some k') := fun b k' g => by
    rcases (TT.set_get _ _ _ _).2 _ g with ⟨e, he⟩ | h
    · exact .inl ⟨e, (Option.some.inj he).symm⟩
    · exact .inr h
  refine ⟨_, yabs _ _ _, hsub, ?_, ⟨?_, ?_, ?_, ?_, ?_⟩, Nat.le_succ _, ?_, ?_, ?_⟩
  · intro b m e
    by_cases hb : b = H.nx
    · subst hb
      rw [yabs] at e
      obtain rfl := Option.some.inj e
      exact .inr ⟨Nat.le_refl _, .inl (Nat.le_refl _)⟩
    · rw [yaeb hb] at e; exact .inl e
  · intro b hle
    simp only [] at hle
    rw [yaeb (by omega)]
    exact hr.fresh b (by omega)
  · simp only [Array.size_push]; have := hr.size; omega
  · intro r hlt; rw [keep r (by have := hr.size; omega)]; exact hr.old r hlt
  · intro b k' hk
    rcases gg b k' hk with ⟨rfl, rfl⟩ | ⟨hne, hk⟩
    · exact ⟨_, yabs _ _ _, fun _ => hr.size, fun hno => absurd ho hno, hb _ hsub⟩
    · obtain ⟨m, hm, h1, h2, hbr⟩ := hr.blk b k' hk
      exact ⟨m, hsub _ _ hm, h1, h2, (hbr.mono hsub).heap (keep _ (hr.lt hk hm))⟩
  · intro b b' k1 k2 m g1 g2 o1 o2 e1 ⟨m', e2, he⟩
    rcases gg _ _ g1 with ⟨rfl, _⟩ | ⟨n1, g1⟩ <;> rcases gg _ _ g2 with ⟨e', _⟩ | ⟨n2, g2⟩
    · exact e'.symm
    · rw [yabs] at e1
      obtain rfl := Option.some.inj e1
      rw [yaeb n2] at e2
      have := hr.lt g2 e2
      simp only [] at he
      omega
    · subst e'
      rw [yabs] at e2
      obtain rfl := Option.some.inj e2
      rw [yaeb n1] at e1
      have := hr.lt g1 e1
      simp only [] at he
      omega
    · rw [yaeb n1] at e1
      rw [yaeb n2] at e2
      exact hr.inj b b' _ _ m g1 g2 o1 o2 e1 ⟨m', e2, he⟩
  · simp
  · intro r hlt _; exact keep r hlt
  · intro b k' g _ hlt
    rcases gg b k' g with ⟨rfl, _⟩ | ⟨_, g⟩
    · omega
    · exact ⟨k', g, by assumption⟩
theorem HR.chg (hr : HR φ h0 H h) {b : Nat} {k k' : Bk} {m : Ph} (hk : TT.get H.m b = some k) (ho : OwnB k) (ho' : OwnB k') (hm : φ b = some m) {h' : Hp} (hsz : h'.size = h.size) (hot : ∀ r, r ≠ m.r → h'[r]? = h[r]?) (hb : BR φ m h' k') :
    Step φ φ h0 H ⟨H.nx, TT.set H.m b (some k')⟩ h h' := by
  obtain ⟨m0, hm0, hge, _, hbr⟩ := hr.blk b k hk
  rw [hm] at hm0
  obtain rfl := Option.some.inj hm0
  have hge := hge ho
  have gg : ∀ c kc, TT.get (TT.set H.m b (some k')) c = some kc → (c = b ∧ kc = k') ∨ (c ≠ b ∧ TT.get H.m c = some kc) := fun c kc g => by
    rcases (TT.set_get _ _ _ _).2 _ g with ⟨e, he⟩ | h
    · exact .inl ⟨e, (Option.some.inj he).symm⟩
    · exact .inr h
  refine ⟨Sub.refl φ, fun _ _ e => .inl e, ⟨hr.fresh, by rw [hsz]; exact hr.size, fun r hlt => by rw [hot r (by omega)]; exact hr.old r hlt, ?_, ?_⟩, Nat.le_refl _, by omega, ?_, ?_⟩
  · intro c kc hc
    rcases gg c kc hc with ⟨rfl, rfl⟩ | ⟨hne, hc⟩
    · exact ⟨_, hm, fun _ => hge, fun hno => absurd ho' hno, hb⟩
    · obtain ⟨mc, hmc, h1, h2, hbrc⟩ := hr.blk c kc hc
      refine ⟨mc, hmc, h1, h2, hbrc.heap (hot _ fun e => ?_)⟩
      rcases OwnB.em kc with oc | oc
      · exact hne (hr.inj c b _ _ mc hc hk oc ho hmc ⟨m, hm, e⟩)
      · have := h2 oc; omega
  · intro c c' k1 k2 m1 g1 g2 o1 o2 e1 e2
    have old : ∀ d kd, TT.get (TT.set H.m b (some k')) d = some kd → OwnB kd → ∃ kd', TT.get H.m d = some kd' ∧ OwnB kd' := by
      intro d kd g o
      rcases gg d kd g with ⟨rfl, _⟩ | ⟨_, g⟩
      · exact ⟨_, hk, ho⟩
      · exact ⟨_, g, o⟩
    obtain ⟨_, g1, o1⟩ := old _ _ g1 o1
    obtain ⟨_, g2, o2⟩ := old _ _ g2 o2
    exact hr.inj c c' _ _ m1 g1 g2 o1 o2 e1 e2
  · intro r _ hn
    exact hot r fun e => hn b k m hk ho hm e.symm
  · intro c kc g o _
    rcases gg c kc g with ⟨rfl, _⟩ | ⟨_, g⟩
    · exact ⟨k, hk, ho⟩
    · exact ⟨kc, g, o⟩
theorem HR.drop (hr : HR φ h0 H h) (b : Nat) : Step φ φ h0 H ⟨H.nx, TT.set H.m b none⟩ h h := by
  have old : ∀ d kd, TT.get (TT.set H.m b none) d = some kd → TT.get H.m d = some kd := by
    intro d kd g
    rcases (TT.set_get _ _ _ _).2 _ g with ⟨_, e⟩ | ⟨_, g⟩
    · cases e
    · exact g
  exact ⟨Sub.refl φ, fun _ _ e => .inl e, ⟨hr.fresh, hr.size, hr.old, fun c kc hc => hr.blk c kc (old _ _ hc), fun c c' k1 k2 m1 g1 g2 => hr.inj c c' k1 k2 m1 (old _ _ g1) (old _ _ g2)⟩, Nat.le_refl _, Nat.le_refl _, fun _ _ _ => rfl, fun c kc g o _ => ⟨kc, old _ _ g, o⟩⟩
end
end Go.Sx
