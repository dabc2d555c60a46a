/- Part EF EG EH EI EJ EK EL EM EN EO EP EQ ER R1 FBL ES ET EU EV EW of the proof: contracts of functions of the program, and what follows from them. -/
import Derived.Test.YtllhdhpjgihjfaaGreatDoorSxEE
import Derived.Test.YtllhdhpjgihjfaaGreatDoorSxV0
import Derived.Shelf.Lay
import Derived.Shelf.Strconv.AppendIntPublic10
import Derived.Shelf.LaysM
import Derived.Test.YtllhdhpjgihjfaaGreatDoorSxY1
import Derived.Deep.Slices
import Derived.OpenShut
import Derived.Test.YtllhdhpjgihjfaaGreatDoorCards
import Derived.Test.YtllhdhpjgihjfaaGreatDoorTie
import Derived.WalkKit
import Derived.ProofKit
import Derived.ShutString
import Derived.ChangeOld
import Derived.Below
import Derived.ChangeMaps5
import Derived.Deep.Grids
import Derived.LaidMore
import Derived.Stop.LaidErr
import Derived.Stop.Joined
import Derived.Lib.LaidTab
import Derived.MakeChecks
import Derived.SevenTiedAt
set_option maxRecDepth 100000
namespace Go.Proofs.YtllhdhpjgihjfaaGreatDoor
open Go Go.Sx
abbrev evC (x : EvT) : List Value := [.int .i64 x.th, .int .i64 x.co, .slice x.ar.1 x.ar.2.1 x.ar.2.2, .int .i64 x.er, .int .i64 x.nu, .slice x.li.1 x.li.2.1 x.li.2.2, .int .i64 x.bg, .int .i64 x.en]
theorem ldEvB {h : Hp} {b : Nat} {x : EvT} {e : TypeId} {Q : Int → Int → OA → Nat → Nat → Int → Int → OA → Nat → Nat → Int → Int → Prop} (k : Blk h b (evC x) e) (hq : Q x.th x.co x.ar.1 x.ar.2.1 x.ar.2.2 x.er x.nu x.li.1 x.li.2.1 x.li.2.2 x.bg x.en) :
    ∃ x0 : Int, ∃ x1 : Int, ∃ (x2 : OA) (x2L x2C : Nat), ∃ x3 : Int, ∃ x4 : Int, ∃ (x5 : OA) (x5L x5C : Nat), ∃ x6 : Int, ∃ x7, cell h (⟨b, 0, none⟩ : Addr) = some (.int .i64 x0) ∧ cell h ((⟨b, 0, none⟩ : Addr).add 1) = some (.int .i64 x1) ∧ cell h ((⟨b, 0, none⟩ : Addr).add 2) = some (.slice x2 x2L x2C) ∧ cell h ((⟨b, 0, none⟩ : Addr).add 3) = some (.int .i64 x3) ∧ cell h ((⟨b, 0, none⟩ : Addr).add 4) = some (.int .i64 x4) ∧ cell h ((⟨b, 0, none⟩ : Addr).add 5) = some (.slice x5 x5L x5C) ∧ cell h ((⟨b, 0, none⟩ : Addr).add 6) = some (.int .i64 x6) ∧ cell h ((⟨b, 0, none⟩ : Addr).add 7) = some (.int .i64 x7) ∧ Q x0 x1 x2 x2L x2C x3 x4 x5 x5L x5C x6 x7 :=
  ⟨_, _, _, _, _, _, _, _, _, _, _, _, k.cell 0, k.cell 1, k.cell 2, k.cell 3, k.cell 4, k.cell 5, k.cell 6, k.cell 7, hq⟩
theorem cpEv {h0 h : Hp} {A : Bag} {p : OA} {n : Nat} {l : List EvT} {i : Int} {i' : Nat} {Q : Nat → Hp → Prop} (s : St h0 h A) (r : RdT tEv h p n l) (ei : i = (i' : Int)) (hi : i' < n)
    (hq : ∀ b h', Ext h h' → St h0 h' (cA b (evC (l.getD i' tEv.d)) 60 + A) → Q b h') :
    (0 ≤ i ∧ i < (n : Int)) ∧ NN p fun a => ∃ x0 : Int, ∃ x1 : Int, ∃ (x2 : OA) (x2L x2C : Nat), ∃ x3 : Int, ∃ x4 : Int, ∃ (x5 : OA) (x5L x5C : Nat), ∃ x6 : Int, ∃ x7, cell h (a.add (Int.toNat i * 8)) = some (.int .i64 x0) ∧ cell h ((a.add (Int.toNat i * 8)).add 1) = some (.int .i64 x1) ∧ cell h ((a.add (Int.toNat i * 8)).add 2) = some (.slice x2 x2L x2C) ∧ cell h ((a.add (Int.toNat i * 8)).add 3) = some (.int .i64 x3) ∧ cell h ((a.add (Int.toNat i * 8)).add 4) = some (.int .i64 x4) ∧ cell h ((a.add (Int.toNat i * 8)).add 5) = some (.slice x5 x5L x5C) ∧ cell h ((a.add (Int.toNat i * 8)).add 6) = some (.int .i64 x6) ∧ cell h ((a.add (Int.toNat i * 8)).add 7) = some (.int .i64 x7) ∧ New h (.cells #[.int .i64 0, .int .i64 0, .slice none 0 0, .int .i64 0, .int .i64 0, .slice none 0 0, .int .i64 0, .int .i64 0] 60) fun b g0 => Wr g0 (⟨b, 0, none⟩ : Addr) (.int .i64 x0) fun g1 => Wr g1 ((⟨b, 0, none⟩ : Addr).add 1) (.int .i64 x1) fun g2 => Wr g2 ((⟨b, 0, none⟩ : Addr).add 2) (.slice x2 x2L x2C) fun g3 => Wr g3 ((⟨b, 0, none⟩ : Addr).add 3) (.int .i64 x3) fun g4 => Wr g4 ((⟨b, 0, none⟩ : Addr).add 4) (.int .i64 x4) fun g5 => Wr g5 ((⟨b, 0, none⟩ : Addr).add 5) (.slice x5 x5L x5C) fun g6 => Wr g6 ((⟨b, 0, none⟩ : Addr).add 6) (.int .i64 x6) fun g7 => Wr g7 ((⟨b, 0, none⟩ : Addr).add 7) (.int .i64 x7) fun g8 => Q b g8 := by
  refine ldEV r ei hi ?_
  refine (St.start h).new (cs := [.int .i64 0, .int .i64 0, .slice none 0 0, .int .i64 0, .int .i64 0, .slice none 0 0, .int .i64 0, .int .i64 0]) fun b h1 _ s1 => s1.wr0 fun _ u => u.wrB fun _ u => u.wrB fun _ u => u.wrB fun _ u => u.wrB fun _ u => u.wrB fun _ u => u.wrB fun _ u => u.wrB fun h9 t => ?_
  have t : St h h9 (cA b (evC (l.getD i' tEv.d)) 60 + 0) := t
  rw [Bag.add_zero] at t
  exact hq b h9 t.ext (s.join t)
def EvM (h : Hp) (e : Ev) : Prop := (RdT TI h e.t.ar.1 e.t.ar.2.1 e.zs ∧ e.t.ar.2.1 ≤ e.t.ar.2.2) ∧ RdT TI h e.t.li.1 e.t.li.2.1 e.ls ∧ e.t.li.2.1 ≤ e.t.li.2.2
def EvsR (h : Hp) (p : OA) (n : Nat) (l : List Ev) : Prop := RdT tEv h p n (l.map Ev.t) ∧ ∀ e ∈ l, EvM h e
abbrev Sm (l : List Ev) : Prop := ∀ e ∈ l, e.zs.length ≤ 70 ∧ e.ls.length ≤ 20
theorem EvM.ext {h h' : Hp} {e : Ev} (m : EvM h e) (x : Ext h h') : EvM h' e := ⟨⟨m.1.1.ext x, m.1.2⟩, m.2.1.ext x, m.2.2⟩
theorem EvsR.ext {h h' : Hp} {p : OA} {n : Nat} {l : List Ev} (r : EvsR h p n l) (x : Ext h h') : EvsR h' p n l := ⟨r.1.ext x, fun e he => (r.2 e he).ext x⟩
theorem EvsR.len {h : Hp} {p : OA} {n : Nat} {l : List Ev} (r : EvsR h p n l) : l.length = n := by have := r.1.len; rwa [List.length_map] at this
theorem yahq {l : List Ev} {i : Nat} (hi : i < l.length) : (l.map Ev.t).getD i tEv.d = (l.getD i dEv).t := by simp [List.getD, hi]
theorem EvsR.cp {h0 h : Hp} {A : Bag} {p : OA} {n : Nat} {l : List Ev} {i : Int} {i' : Nat} {Q : Nat → Hp → Prop} (r : EvsR h p n l) (s : St h0 h A) (ei : i = (i' : Int)) (hi : i' < n)
    (hq : ∀ b h', Ext h h' → St h0 h' (cA b (evC (l.getD i' dEv).t) 60 + A) → Q b h') :
    (0 ≤ i ∧ i < (n : Int)) ∧ NN p fun a => ∃ x0 : Int, ∃ x1 : Int, ∃ (x2 : OA) (x2L x2C : Nat), ∃ x3 : Int, ∃ x4 : Int, ∃ (x5 : OA) (x5L x5C : Nat), ∃ x6 : Int, ∃ x7, cell h (a.add (Int.toNat i * 8)) = some (.int .i64 x0) ∧ cell h ((a.add (Int.toNat i * 8)).add 1) = some (.int .i64 x1) ∧ cell h ((a.add (Int.toNat i * 8)).add 2) = some (.slice x2 x2L x2C) ∧ cell h ((a.add (Int.toNat i * 8)).add 3) = some (.int .i64 x3) ∧ cell h ((a.add (Int.toNat i * 8)).add 4) = some (.int .i64 x4) ∧ cell h ((a.add (Int.toNat i * 8)).add 5) = some (.slice x5 x5L x5C) ∧ cell h ((a.add (Int.toNat i * 8)).add 6) = some (.int .i64 x6) ∧ cell h ((a.add (Int.toNat i * 8)).add 7) = some (.int .i64 x7) ∧ New h (.cells #[.int .i64 0, .int .i64 0, .slice none 0 0, .int .i64 0, .int .i64 0, .slice none 0 0, .int .i64 0, .int .i64 0] 60) fun b g0 => Wr g0 (⟨b, 0, none⟩ : Addr) (.int .i64 x0) fun g1 => Wr g1 ((⟨b, 0, none⟩ : Addr).add 1) (.int .i64 x1) fun g2 => Wr g2 ((⟨b, 0, none⟩ : Addr).add 2) (.slice x2 x2L x2C) fun g3 => Wr g3 ((⟨b, 0, none⟩ : Addr).add 3) (.int .i64 x3) fun g4 => Wr g4 ((⟨b, 0, none⟩ : Addr).add 4) (.int .i64 x4) fun g5 => Wr g5 ((⟨b, 0, none⟩ : Addr).add 5) (.slice x5 x5L x5C) fun g6 => Wr g6 ((⟨b, 0, none⟩ : Addr).add 6) (.int .i64 x6) fun g7 => Wr g7 ((⟨b, 0, none⟩ : Addr).add 7) (.int .i64 x7) fun g8 => Q b g8 :=
  cpEv s r.1 ei hi (by rw [yahq (by rw [r.len]; exact hi)]; exact hq)
theorem EvsR.ld {h : Hp} {p : OA} {n : Nat} {l : List Ev} {i : Int} {i' : Nat} {Q : Int → Int → OA → Nat → Nat → Int → Int → OA → Nat → Nat → Int → Int → Prop} (r : EvsR h p n l) (ei : i = (i' : Int)) (hi : i' < n) (hq : Q (l.getD i' dEv).t.th (l.getD i' dEv).t.co (l.getD i' dEv).t.ar.1 (l.getD i' dEv).t.ar.2.1 (l.getD i' dEv).t.ar.2.2 (l.getD i' dEv).t.er (l.getD i' dEv).t.nu (l.getD i' dEv).t.li.1 (l.getD i' dEv).t.li.2.1 (l.getD i' dEv).t.li.2.2 (l.getD i' dEv).t.bg (l.getD i' dEv).t.en) :
    (0 ≤ i ∧ i < (n : Int)) ∧ NN p fun a => ∃ x0 : Int, ∃ x1 : Int, ∃ (x2 : OA) (x2L x2C : Nat), ∃ x3 : Int, ∃ x4 : Int, ∃ (x5 : OA) (x5L x5C : Nat), ∃ x6 : Int, ∃ x7, cell h (a.add (Int.toNat i * 8)) = some (.int .i64 x0) ∧ cell h ((a.add (Int.toNat i * 8)).add 1) = some (.int .i64 x1) ∧ cell h ((a.add (Int.toNat i * 8)).add 2) = some (.slice x2 x2L x2C) ∧ cell h ((a.add (Int.toNat i * 8)).add 3) = some (.int .i64 x3) ∧ cell h ((a.add (Int.toNat i * 8)).add 4) = some (.int .i64 x4) ∧ cell h ((a.add (Int.toNat i * 8)).add 5) = some (.slice x5 x5L x5C) ∧ cell h ((a.add (Int.toNat i * 8)).add 6) = some (.int .i64 x6) ∧ cell h ((a.add (Int.toNat i * 8)).add 7) = some (.int .i64 x7) ∧ Q x0 x1 x2 x2L x2C x3 x4 x5 x5L x5C x6 x7 :=
  ldEV r.1 ei hi (by rw [yahq (by rw [r.len]; exact hi)]; exact hq)
theorem EvsR.ldTh {h : Hp} {p : OA} {n : Nat} {l : List Ev} {i : Int} {i' : Nat} {Q : Int → Prop} (r : EvsR h p n l) (ei : i = (i' : Int)) (hi : i' < n) (hq : Q (l.getD i' dEv).t.th) :
    (0 ≤ i ∧ i < (n : Int)) ∧ NN p fun a => ∃ x, cell h (a.add (Int.toNat i * 8)) = some (.int .i64 x) ∧ Q x := by
  subst ei
  rw [← yahq (by rw [r.len]; exact hi)] at hq
  refine r.1.idx (by omega) (by omega) fun a _ hc => ?_
  rw [Int.toNat_natCast] at hc ⊢
  exact ⟨_, hc 0 (by decide), hq⟩
theorem EvsR.ldEn {h : Hp} {p : OA} {n : Nat} {l : List Ev} {i : Int} {i' : Nat} {Q : Int → Prop} (r : EvsR h p n l) (ei : i = (i' : Int)) (hi : i' < n) (hq : Q (l.getD i' dEv).t.en) :
    (0 ≤ i ∧ i < (n : Int)) ∧ NN p fun a => ∃ x, cell h ((a.add (Int.toNat i * 8)).add 7) = some (.int .i64 x) ∧ Q x := by
  subst ei
  rw [← yahq (by rw [r.len]; exact hi)] at hq
  refine r.1.idx (by omega) (by omega) fun a _ hc => ?_
  rw [Int.toNat_natCast] at hc ⊢
  exact ⟨_, hc 7 (by decide), hq⟩
theorem EvsR.at_ {h : Hp} {p : OA} {n : Nat} {l : List Ev} {i : Nat} (r : EvsR h p n l) (hi : i < n) : EvM h (l.getD i dEv) := r.2 _ (yaal (by rw [r.len]; exact hi))
theorem yacv (x : EvT) (h : Hp) : yaae Tryz.prog 47 #[encEv x] h (fun v h' => v = .bool (decide (0 ≤ x.en)) ∧ Ext h h') := by
  refine zap_call ?_
  rw [zap_b0]
  exact (St.start h).new (cs := evC x) fun b h1 x1 s => ⟨_, s.blk.cell 7, rfl, x1⟩
theorem yaez (x y : EvT) (h : Hp) : yaae Tryz.prog 45 #[encEv x, encEv y] h (fun v h' => v = .bool (decide (precT x y)) ∧ Ext h h') := by
  refine zaw_call ?_
  rw [zaw_b0]
  refine (St.start h).new (cs := evC x) fun b1 h1 _ s => s.new (cs := evC y) fun b2 h2 _ s => ldEvB s.atomBlk ((yacv _ _).mono fun v h3 ⟨hv, x3⟩ => ⟨_, hv, ?_⟩)
  have s := s.grow x3
  refine condP (fun hc => ?_) (fun hc => ⟨?_, s.ext⟩)
  · exact ⟨_, s.atomBlk.cell 7, _, s.blk.cell 6, by rw [show decide (precT x y) = decide (x.en < y.bg) from decide_eq_decide.2 ⟨fun h => h.2, fun h => ⟨hc, h⟩⟩], s.ext⟩
  · rw [decide_eq_false fun h => hc h.1]
theorem yalg {a b c d : Int} {p q : OA} {n m k l : Nat} {xs ys : List Int} {h : Hp} (r1 : RdT TI h p n xs) (r2 : RdT TI h q m ys) (hn : n ≤ 1000000) :
    yaae Tryz.prog 48 #[.agg #[.int .i64 a, .int .i64 b, .slice p n k], .agg #[.int .i64 c, .int .i64 d, .slice q m l]] h (fun v h' => v = .bool (decide (a = c ∧ b = d ∧ xs = ys)) ∧ Ext h h') := by
  refine zax_call ?_
  rw [zax_b0]
  refine (St.start h).new (cs := [.int .i64 a, .int .i64 b, .slice p n k]) fun b1 h1 _ s => s.new (cs := [.int .i64 c, .int .i64 d, .slice q m l]) fun b2 h2 _ s => ?_
  refine ⟨_, s.atomBlk.cell 0, _, s.blk.cell 0, condP (fun h1 => ?_) (fun h1 => ⟨by rw [decide_eq_false fun h => h1 h.1], s.ext⟩)⟩
  refine ⟨_, s.atomBlk.cell 1, _, s.blk.cell 1, condP (fun h2 => ?_) (fun h2 => ⟨by rw [decide_eq_false fun h => h2 h.2.1], s.ext⟩)⟩
  refine ⟨_, _, _, s.atomBlk.cell 2, _, _, _, s.blk.cell 2, (yasy (r1.ext s.ext) (r2.ext s.ext) (by omega)).mono fun v h3 ⟨hh, hv⟩ => ⟨_, hv, ?_, hh ▸ s.ext⟩⟩
  rw [decide_eq_decide.2 (⟨fun h => ⟨h1, h2, h⟩, fun h => h.2.2⟩ : xs = ys ↔ a = c ∧ b = d ∧ xs = ys)]
theorem yafz {h : Hp} {p : OA} {n c : Nat} {l : List Ev} {f : Value} {g : Ev → Bool} (r : EvsR h p n l) (hn : n ≤ 1000000)
    (hf : ∀ e ∈ l, ∀ (h1 : Hp) (K : VK), Ext h h1 → (∀ h', Ext h1 h' → K (.bool (g e)) h') → funV f fun fg fa fc => callX Tryz.prog F fg (fa ++ (([encEv e.t] : List Value) ++ fc)).toArray h1 K) :
    yaae Tryz.prog 30 #[.slice p n c, f] h (fun v h' => v = .bool (l.any g) ∧ Ext h h') := by
  have hl := r.len
  refine zdo_call ?_
  rw [zdo_b0]
  refine zdu_call ?_
  rw [zdu_b0]
  refine ⟨fun s h' => Ext h h' ∧ ∃ i : Nat, s.1 = i ∧ i ≤ n ∧ (l.take i).any g = false, fun s _ => n - s.1.toNat, ⟨Ext.refl h, 0, rfl, by omega, rfl⟩, ?_⟩
  rintro ⟨_, _⟩ h1 ⟨x1, i, rfl, hin, hno⟩
  dsimp only
  rw [zdu_b1]
  refine condP (fun hlt => ?_) (fun hge => ?_)
  · have hi : i < l.length := by omega
    refine (r.ext x1).ld rfl (by omega) (hf _ (yaal hi) h1 _ x1 fun h2 x2 => ⟨_, rfl, yaar (fun hy => ?_) (fun hy => ?_)⟩)
    · refine ⟨_, rfl, ?_, x1.trans x2⟩
      rw [List.any_eq_true.2 ⟨_, yaal hi, hy⟩, decide_eq_true (by omega)]
    · rw [zdu_b2]
      refine ⟨⟨by omega, by omega⟩, ⟨x1.trans x2, i + 1, by simp only; omega, by omega, ?_⟩, by simp only; omega⟩
      rw [yaac hi] at hy
      rw [List.take_succ_eq_append_getElem hi, List.any_append, hno]
      simp [hy]
  · rw [zdu_b3]
    rw [List.take_of_length_le (by omega)] at hno
    exact ⟨_, rfl, by rw [hno]; rfl, x1⟩
instance (k : Int) (l : List Ev) : Decidable (KindP k l) := inferInstanceAs (Decidable (∀ e ∈ l, _))
theorem of_ok {h : Hp} {p : OA} {n c : Nat} {l : List Ev} {k : Int} (r : EvsR h p n l) (hn : n ≤ 1000000) :
    yaae Tryz.prog 52 #[.int .i64 k, .slice p n c] h (fun v h' => v = .bool (decide (KindP k l)) ∧ Ext h h') := by
  refine zau_call ?_
  rw [zau_b0]
  refine (St.start h).new (cs := [.int .i64 k]) fun b1 h1 x1 s => ?_
  refine (yafz (g := fun e => !decide (OpV k e.t.co e.zs)) (r.ext x1) hn fun e he h2 K x2 hK => ?_).mono fun v h2 ⟨hv, x2⟩ => ⟨_, hv, ?_, x1.trans x2⟩
  · refine yagl (args' := #[encEv e.t, .pointer (some ⟨b1, 0, none⟩)]) (by kernel_rfl) ?_ rfl
    refine zav_call ?_
    rw [zav_b0]
    refine (St.start h2).new (cs := evC e.t) fun b2 h3 x3 t => ?_
    have k1 := (s.blk.ext x2).ext x3
    refine yaap rfl ⟨_, k1.cell 0, _, _, _, _, t.blk.cell 1, t.blk.cell 2, (yavh (((r.2 e he).1.1.ext x1).ext (x2.trans x3))).mono fun v h4 ⟨hv, x4⟩ => ⟨_, hv, hK h4 (x3.trans x4)⟩⟩
  · congr 1
    by_cases hk : KindP k l
    · rw [decide_eq_true hk, Bool.not_eq_true', List.any_eq_false]
      exact fun e he => by rw [decide_eq_true (hk e he)]; decide
    · rw [decide_eq_false hk, Bool.not_eq_false', List.any_eq_true]
      refine Decidable.byContradiction fun hn => hk fun e he => Decidable.byContradiction fun h2 => hn ⟨e, he, ?_⟩
      rw [decide_eq_false h2]; rfl
abbrev TB : Ty Bool := ⟨4, 1, fun b => [.bool b], false, fun _ => rfl, by decide, fun _ v hv => by simp at hv; rw [hv]; rfl⟩
theorem ldBo {h : Hp} {p : OA} {n : Nat} {l : List Bool} {i : Int} {i' : Nat} {Q : Bool → Prop} (r : RdT TB h p n l) (ei : i = (i' : Int)) (h1 : i' < n) (hq : Q (l.getD i' false)) :
    (0 ≤ i ∧ i < (n : Int)) ∧ NN p fun a => ∃ x : Bool, cell h (a.add (Int.toNat i * 1)) = some (.bool x) ∧ Q x := by
  subst ei
  refine r.idx (by omega) (by omega) fun a _ hc => ?_
  rw [Int.toNat_natCast] at hc ⊢
  exact ⟨_, hc 0 (by decide), hq⟩
theorem ybbb {α : Type} {R : α → α → Prop} {d : α} {l : List α} {i : Nat} (hi : i < l.length) (h : (l.take i).Pairwise R) (h1 : ∀ j, j < i → R (l.getD j d) (l.getD i d)) : (l.take (i + 1)).Pairwise R := by
  rw [List.take_succ_eq_append_getElem hi, List.pairwise_append]
  refine ⟨h, List.pairwise_singleton _ _, fun a ha b hb => ?_⟩
  rw [List.mem_singleton.1 hb]
  obtain ⟨j, hj, rfl⟩ := List.mem_iff_getElem.1 ha
  rw [List.length_take] at hj
  have := h1 j (by omega)
  rw [yaac (by omega), yaac hi] at this
  rwa [List.getElem_take]
theorem ybaj {α : Type} {R : α → α → Prop} {d : α} {l : List α} {i j : Nat} (h : l.Pairwise R) (hij : i < j) (hj : j < l.length) : R (l.getD i d) (l.getD j d) := by
  rw [yaac (by omega), yaac hj]
  exact List.pairwise_iff_getElem.1 h i j _ hj hij
theorem yaov (x y : EvT) (h : Hp) : yaae Tryz.prog 34 #[encEv x, encEv y] h (fun v h' => v = .bool (decide (precT x y)) ∧ Ext h h') := by
  refine zdf_call ?_
  rw [zdf_b0]
  refine (St.start h).new (cs := evC x) fun b1 h1 _ s => s.new (cs := evC y) fun b2 h2 _ s => ⟨_, s.atomBlk.cell 7, condP (fun hc => ?_) (fun hc => ⟨?_, s.ext⟩)⟩
  · exact ⟨_, s.atomBlk.cell 7, _, s.blk.cell 6, by rw [show decide (precT x y) = decide (x.en < y.bg) from decide_eq_decide.2 ⟨fun h => h.2, fun h => ⟨hc, h⟩⟩], s.ext⟩
  · rw [decide_eq_false fun h => hc h.1]
section
variable {h : Hp} {p : OA} {n c : Nat} {l : List Ev} {k : Int}
theorem ybbl {e : Ev} (m : EvM h e) (hs : e.ls.length ≤ 20) : yaae Tryz.prog 71 #[encEv e.t, .int .i64 k] h (VP (One e ∧ OpV k e.t.co e.zs) h) := by
  have hll := m.2.1.len
  refine zdk_call ?_
  rw [zdk_b0]
  refine (St.start h).new (cs := evC e.t) fun b h1 _ s => ?_
  have kb := s.blk
  refine ⟨_, kb.cell 0, condP (fun hc => VP.no (fun o => absurd o.1.1.1 (by omega)) s.ext) (fun c1 => ⟨_, kb.cell 0, condP (fun hc => VP.no (fun o => absurd o.1.1.2 (by omega)) s.ext) (fun c2 => ⟨_, kb.cell 6, condP (fun hc => VP.no (fun o => absurd o.1.2.1.1 (by omega)) s.ext) (fun c3 => ⟨_, kb.cell 6, condP (fun hc => VP.no (fun o => absurd o.1.2.1.2 (by omega)) s.ext) (fun c4 => ⟨_, kb.cell 7, condP (fun hc => VP.no (fun o => by have := o.1.2.2.1; omega) s.ext) (fun c5 => ?_)⟩)⟩)⟩)⟩)⟩
  have b2 : ∀ h2, Ext h1 h2 → (e.t.en = -1 ∨ e.t.bg ≤ e.t.en ∧ e.t.en ≤ 65536) → (e.t.en = -1 → e.t.er = 0 ∧ e.t.nu = 0 ∧ e.ls = []) → zdk_b2 k (some ⟨b, 0, none⟩) h2 (VP (One e ∧ OpV k e.t.co e.zs) h) := fun h2 x2 d1 d2 => by
    rw [zdk_b2]
    have k2 := kb.ext x2
    refine yaap rfl ⟨_, _, _, _, k2.cell 1, k2.cell 2, (yazo (m.1.1.ext (s.ext.trans x2))).mono fun v h3 ⟨hv, x3⟩ => ⟨_, hv, ⟨_, rfl, ?_⟩, (s.ext.trans x2).trans x3⟩⟩
    rw [decide_eq_true_iff]
    exact ⟨fun o => ⟨⟨⟨by omega, by omega⟩, ⟨by omega, by omega⟩, d1, d2⟩, o⟩, fun o => o.2⟩
  have b3 : e.t.en = -1 → yaae Tryz.prog 42 #[.agg #[.int .i64 e.t.er, .int .i64 e.t.nu, .slice e.t.li.1 e.t.li.2.1 e.t.li.2.2], .agg #[.int .i64 0, .int .i64 0, .slice none 0 0]] h1 (fun v1 h2 => ∃ r1 : Bool, v1 = .bool r1 ∧ cond (!r1) (VP (One e ∧ OpV k e.t.co e.zs) h (.bool false) h2) (zdk_b2 k (some ⟨b, 0, none⟩) h2 (VP (One e ∧ OpV k e.t.co e.zs) h))) := fun hen => by
    refine (yauu (m.2.1.ext s.ext) (RdT.nil h1 none) (by omega)).mono fun v h2 ⟨x2, hv⟩ => ⟨_, hv, condN (fun hno => VP.no (fun o => hno ?_) (s.ext.trans x2)) (fun hyes => b2 h2 x2 (.inl hen) fun _ => ?_)⟩
    · obtain ⟨q1, q2, q3⟩ := o.1.2.2.2 hen
      rw [q1, q2, q3]
    · simp only [Prod.mk.injEq] at hyes
      exact hyes
  rw [zdk_b1]
  refine yaap rfl ⟨_, kb.cell 7, yaap rfl ⟨_, kb.cell 6, condP (fun hc => yaap rfl ⟨_, kb.cell 7, condN (fun hno => VP.no (fun o => by have := o.1.2.2.1; omega) s.ext) (fun hen => yaap rfl ⟨_, kb.cell 7, condP (fun _ => yaap rfl ⟨_, _, _, _, _, kb.cell 3, kb.cell 4, kb.cell 5, b3 hen⟩) (fun h => absurd hen h)⟩)⟩) (fun hc => yaap rfl ⟨_, kb.cell 7, condP (fun hen => yaap rfl ⟨_, _, _, _, _, kb.cell 3, kb.cell 4, kb.cell 5, b3 hen⟩) (fun hne => b2 h1 (Ext.refl _) (.inr ⟨by omega, by omega⟩) fun h => absurd h hne)⟩)⟩⟩
theorem yaok (r : EvsR h p n l) (sm : Sm l) : yaae Tryz.prog 38 #[.int .i64 k, .slice p n c] h (VP (HistK k l) h) := by
  have hl := r.len
  refine zdg_call ?_
  rw [zdg_b0]
  refine condP (fun hc => VP.no (fun o => by have := o.1; omega) (Ext.refl _)) (fun hn => ?_)
  refine ⟨fun x h' => ∃ i : Nat, x.1 = (i : Int) ∧ i ≤ n ∧ Ext h h' ∧ (∀ e ∈ l.take i, One e ∧ OpV k e.t.co e.zs) ∧ (l.take i).Pairwise ThrP, fun x _ => n - x.1.toNat, ⟨0, rfl, by omega, Ext.refl _, fun e he => by simp at he, by simp⟩, ?_⟩
  rintro ⟨_, _⟩ h1 ⟨i, rfl, hin, x1, i1, i2⟩
  dsimp only
  rw [zdg_b1]
  refine condP (fun hlt => ?_) (fun hge => ?_)
  · have hi : i < l.length := by omega
    have hm : l.getD i dEv ∈ l := yaal hi
    refine (r.ext x1).ld rfl (by omega) ((ybbl (k := k) ((r.ext x1).2 _ hm) (sm _ hm).2).mono fun v h2 ⟨⟨bb, hv, hbb⟩, x2⟩ => ⟨_, hv, ?_⟩)
    have x2 := x1.trans x2
    refine yaar (fun hno => VP.no (fun o => ?_) x2) (fun hyes => ?_)
    · have := hbb.2 ⟨o.2.1 _ hm, o.2.2.2 _ hm⟩
      rw [this] at hno; cases hno
    · have hone := hbb.1 (by simpa using hyes)
      refine ⟨fun x h' => ∃ j : Nat, x.1 = (j : Int) ∧ j ≤ i ∧ Ext h h' ∧ ∀ t, t < j → ThrP (l.getD t dEv) (l.getD i dEv), fun x _ => i - x.1.toNat, ⟨0, rfl, by omega, x2, fun t ht => absurd ht (by omega)⟩, ?_⟩
      rintro ⟨_, _⟩ h3 ⟨j, rfl, hji, x3, i3⟩
      dsimp only
      rw [zdg_b2]
      refine condP (fun hlj => ?_) (fun hgj => ?_)
      · have b4 : ∀ h4, Ext h h4 → ThrP (l.getD j dEv) (l.getD i dEv) → zdg_b4 k p n c (i : Int) (j : Int) h4 (fun s' h' => (∃ i : Nat, s'.1 = (i : Int) ∧ i ≤ n ∧ Ext h h' ∧ (∀ e ∈ l.take i, One e ∧ OpV k e.t.co e.zs) ∧ (l.take i).Pairwise ThrP) ∧ n - s'.1.toNat < n - ((i : Nat) : Int).toNat) (fun s' h' => (∃ j : Nat, s'.1 = (j : Int) ∧ j ≤ i ∧ Ext h h' ∧ ∀ t, t < j → ThrP (l.getD t dEv) (l.getD i dEv)) ∧ i - s'.1.toNat < i - ((j : Nat) : Int).toNat) (VP (HistK k l) h) := fun h4 x4 ht => by
          rw [zdg_b4]
          refine ⟨⟨by omega, by omega⟩, ⟨j + 1, by push_cast; rfl, by omega, x4, fun t hlt => ?_⟩, by simp only; omega⟩
          rcases Nat.lt_or_ge t j with h | h
          · exact i3 t h
          · obtain rfl : t = j := by omega
            exact ht
        refine (r.ext x3).ldTh rfl (by omega) ((r.ext x3).ldTh rfl (by omega) (condP (fun hth => ?_) (fun hth => b4 h3 x3 fun h => absurd h hth)))
        refine (r.ext x3).ld rfl (by omega) ((r.ext x3).ld rfl (by omega) ((yaov _ _ _).mono fun v h4 ⟨hv, x4⟩ => ⟨_, hv, condN (fun hno => VP.no (fun o => hno ?_) (x3.trans x4)) (fun hyes => b4 h4 (x3.trans x4) fun _ => hyes)⟩))
        exact ybaj o.2.2.1 (by omega) hi hth
      · rw [zdg_b5]
        refine ⟨⟨by omega, by omega⟩, ⟨i + 1, by push_cast; rfl, by omega, x3, fun e he => ?_, ybbb (d := dEv) hi i2 fun t ht => i3 t (by omega)⟩, by simp only; omega⟩
        rw [List.take_succ_eq_append_getElem hi] at he
        rcases List.mem_append.1 he with he | he
        · exact i1 e he
        · rw [List.mem_singleton.1 he, ← yaac (d := dEv) hi]
          exact hone
  · rw [zdg_b3]
    rw [List.take_of_length_le (by omega)] at i1 i2
    exact VP.yes ⟨by omega, fun e he => (i1 e he).1, i2, fun e he => (i1 e he).2⟩ x1
theorem ybaz {q : OA} {cc : Nat} {ds : List Bool} {i : Nat} (r : EvsR h p n l) (o1 : ∀ e ∈ l, One e) (rd : RdT TB h q n ds) (hi : i < n) (hn : n ≤ 1000) :
    yaae Tryz.prog 40 #[.slice p n c, .slice q n cc, .int .i64 (i : Int)] h (VP (Nxt l (fun j => ds.getD j false) i) h) := by
  have hl := r.len
  refine zdj_call ?_
  rw [zdj_b0]
  refine ldBo rd rfl hi (yaar (fun hd => VP.no (fun o => ?_) (Ext.refl _)) (fun hd => ?_))
  · have := o.1
    simp only at this
    rw [this] at hd; cases hd
  refine ⟨fun x h' => ∃ j : Nat, x.1 = (j : Int) ∧ j ≤ n ∧ Ext h h' ∧ ∀ t, t < j → ds.getD t false = false → ¬ prec (l.getD t dEv) (l.getD i dEv), fun x _ => n - x.1.toNat, ⟨0, rfl, by omega, Ext.refl _, fun t ht => absurd ht (by omega)⟩, ?_⟩
  rintro ⟨_, _⟩ h1 ⟨j, rfl, hj, x1, i1⟩
  dsimp only
  rw [zdj_b1]
  have b2 : ∀ h2, Ext h h2 → j < n → (ds.getD j false = false → ¬ prec (l.getD j dEv) (l.getD i dEv)) → zdj_b2 p n c q n cc (i : Int) (j : Int) h2 (fun s' h' => (∃ j : Nat, s'.1 = (j : Int) ∧ j ≤ n ∧ Ext h h' ∧ ∀ t, t < j → ds.getD t false = false → ¬ prec (l.getD t dEv) (l.getD i dEv)) ∧ n - s'.1.toNat < n - ((j : Nat) : Int).toNat) (VP (Nxt l (fun j => ds.getD j false) i) h) := fun h2 x2 hlt hp => by
    rw [zdj_b2]
    refine ⟨⟨by omega, by omega⟩, ⟨j + 1, by push_cast; rfl, by omega, x2, fun t ht => ?_⟩, by simp only; omega⟩
    rcases Nat.lt_or_ge t j with h | h
    · exact i1 t h
    · obtain rfl : t = j := by omega
      exact hp
  refine condP (fun hlt => ?_) (fun hge => ?_)
  · refine ldBo (rd.ext x1) rfl (by omega) (yaar (fun hf => condN (fun hne => ?_) (fun he => ?_)) (fun ht => b2 h1 x1 (by omega) fun h => ?_))
    · refine (r.ext x1).ld rfl (by omega) ((r.ext x1).ld rfl (by omega) ((yaov _ _ _).mono fun v h2 ⟨hv, x2⟩ => ⟨_, hv, condP (fun hy => VP.no (fun o => o.2 j (by omega) (by simpa using hf) hy) (x1.trans x2)) (fun hno => b2 h2 (x1.trans x2) (by omega) fun _ => hno)⟩))
    · obtain rfl : j = i := by omega
      exact b2 h1 x1 hi fun _ => yask (o1 _ (yaal (by omega)))
    · rw [h] at ht; cases ht
  · rw [zdj_b3]
    exact VP.yes ⟨hd, fun t ht => i1 t (by omega)⟩ x1
theorem yakv {q : OA} {cc : Nat} {ds : List Bool} (r : EvsR h p n l) (rd : RdT TB h q n ds) (hn : n ≤ 1000) :
    yaae Tryz.prog 39 #[.slice p n c, .slice q n cc] h (VP (Cpl l (fun j => ds.getD j false)) h) := by
  have hl := r.len
  refine zdi_call ?_
  rw [zdi_b0]
  refine ⟨fun x h' => ∃ j : Nat, x.1 = (j : Int) ∧ j ≤ n ∧ h' = h ∧ ∀ t, t < j → 0 ≤ (l.getD t dEv).t.en → ds.getD t false = true, fun x _ => n - x.1.toNat, ⟨0, rfl, by omega, rfl, fun t ht => absurd ht (by omega)⟩, ?_⟩
  rintro ⟨_, _⟩ h1 ⟨j, rfl, hj, rfl, i1⟩
  dsimp only
  rw [zdi_b1]
  have b2 : j < n → (0 ≤ (l.getD j dEv).t.en → ds.getD j false = true) → zdi_b2 p n c q n cc (j : Int) h1 (fun s' h' => (∃ j : Nat, s'.1 = (j : Int) ∧ j ≤ n ∧ h' = h1 ∧ ∀ t, t < j → 0 ≤ (l.getD t dEv).t.en → ds.getD t false = true) ∧ n - s'.1.toNat < n - ((j : Nat) : Int).toNat) (VP (Cpl l (fun j => ds.getD j false)) h1) := fun hlt hp => by
    rw [zdi_b2]
    refine ⟨⟨by omega, by omega⟩, ⟨j + 1, by push_cast; rfl, by omega, rfl, fun t ht => ?_⟩, by simp only; omega⟩
    rcases Nat.lt_or_ge t j with h | h
    · exact i1 t h
    · obtain rfl : t = j := by omega
      exact hp
  refine condP (fun hlt => ?_) (fun hge => ?_)
  · refine ldBo rd rfl (by omega) (yaar (fun hf => ?_) (fun ht => b2 (by omega) fun _ => by simpa using ht))
    refine r.ldEn rfl (by omega) (condP (fun hc => VP.no (fun o => ?_) (Ext.refl _)) (fun hc => b2 (by omega) fun h => absurd h hc))
    have := o j (by omega) hc
    simp only at this
    rw [this] at hf; cases hf
  · rw [zdi_b3]
    exact VP.yes (fun t ht => i1 t (by omega)) (Ext.refl _)
end
def yafa (l : List Ev) : Prop := ∃ k, (1 ≤ k ∧ k ≤ 6) ∧ HistK k l
def LastP (l : List Ev) (la : List Int) (i : Nat) : Prop := la.length = 8 ∧ ∀ t : Nat, t < 8 →
  (la.getD t 0 = -1 ∧ ∀ j, j < i → (l.getD j dEv).t.th ≠ (t : Int)) ∨
  ∃ k, k < i ∧ la.getD t 0 = (k : Int) ∧ (l.getD k dEv).t.th = (t : Int) ∧ ∀ j, k < j → j < i → (l.getD j dEv).t.th ≠ (t : Int)
theorem LastP.set {l : List Ev} {la : List Int} {i t : Nat} (h : LastP l la i) (ht : (l.getD i dEv).t.th = (t : Int)) (h8 : t < 8) : LastP l (la.set t (i : Int)) (i + 1) := by
  obtain ⟨hl, h⟩ := h
  refine ⟨by rw [List.length_set]; exact hl, fun u hu => ?_⟩
  rw [yadu (by omega)]
  by_cases e : u = t
  · subst e
    rw [if_pos rfl]
    exact .inr ⟨i, by omega, rfl, ht, fun j h1 h2 => by omega⟩
  · rw [if_neg e]
    rcases h u hu with ⟨h1, h2⟩ | ⟨k, h1, h2, h3, h4⟩
    · refine .inl ⟨h1, fun j hj => ?_⟩
      rcases Nat.lt_or_ge j i with h5 | h5
      · exact h2 j h5
      · obtain rfl : j = i := by omega
        rw [ht]; omega
    · refine .inr ⟨k, by omega, h2, h3, fun j h5 h6 => ?_⟩
      rcases Nat.lt_or_ge j i with h7 | h7
      · exact h4 j h5 h7
      · obtain rfl : j = i := by omega
        rw [ht]; omega
abbrev arrI (la : List Int) : List Value := la.map (Value.int .i64)
section
variable {h : Hp} {p : OA} {n c : Nat} {l : List Ev}
theorem ldArr {h0 h : Hp} {b m : Nat} {la : List Int} {F : Bag} {e : TypeId} {x : Int} {t : Nat} {Q : Int → Prop} (s : St h0 h (cA b (arrI la) e + F)) (hm : la.length = m) (hx : x = (t : Int)) (ht : t < m) (hq : Q (la.getD t 0)) :
    (0 ≤ x ∧ x < ((m : Nat) : Int)) ∧ NN (some ⟨b, 0, none⟩) fun a => ∃ z, cell h (a.add (Int.toNat x * 1)) = some (.int .i64 z) ∧ Q z := by
  subst hx
  refine ⟨⟨by omega, by omega⟩, yaap rfl ⟨_, ?_, hq⟩⟩
  rw [Int.toNat_natCast, Nat.mul_one, Blk.cellA s.blk t, List.getElem?_map, List.getElem?_eq_getElem (by omega), yaac (by omega)]
  rfl
theorem wrArr {h0 h : Hp} {b m : Nat} {la : List Int} {F : Bag} {e : TypeId} {x v : Int} {t : Nat} {k : Hp → Prop} (s : St h0 h (cA b (arrI la) e + F)) (hm : la.length = m) (hx : x = (t : Int)) (ht : t < m) (hk : ∀ h', St h0 h' (cA b (arrI (la.set t v)) e + F) → k h') :
    (0 ≤ x ∧ x < ((m : Nat) : Int)) ∧ NN (some ⟨b, 0, none⟩) fun a => Wr h (a.add (Int.toNat x * 1)) (.int .i64 v) k := by
  subst hx
  refine ⟨⟨by omega, by omega⟩, yaap rfl ?_⟩
  refine s.wr (o := t) (by rw [Int.toNat_natCast, Nat.mul_one, yabd, Nat.zero_add]) (by rw [List.length_map]; omega) fun h' s' => hk h' ?_
  rwa [← List.map_set] at s'
theorem yayl {h2 : Hp} {b1 b2 i : Nat} {la : List Int} {nx0 : Int × Unit → Hp → Prop} (r : EvsR h p n l) (hn : n ≤ 1000) (hi : i < n) (o1 : ∀ j, j ≤ i → One (l.getD j dEv)) (i2 : ∀ b, b < i → ∀ a, a < b → ThrP (l.getD a dEv) (l.getD b dEv))
    (s : St h h2 (cA b2 (evC (l.getD i dEv).t) 60 + (cA b1 (arrI la) 93 + 0))) (hla : LastP l la i)
    (hnx : ∀ h3 la', St h h3 (cA b1 (arrI la') 93 + 0) → LastP l la' (i + 1) → (∀ a, a < i → ThrP (l.getD a dEv) (l.getD i dEv)) → nx0 ((i : Int) + 1, ()) h3) :
    zan_b5 p n c (some ⟨b1, 0, none⟩) (i : Int) (some ⟨b2, 0, none⟩) p n c (n : Int) (i : Int) h2 nx0 (VP (yafa l) h) := by
  have hl := r.len
  obtain ⟨t, ht⟩ : ∃ t : Nat, (l.getD i dEv).t.th = (t : Int) := ⟨_, (Int.toNat_of_nonneg (o1 i (Nat.le_refl _)).1.1).symm⟩
  have h8 : t < 8 := by have := (o1 i (Nat.le_refl _)).1.2; omega
  have b7 : ∀ h3, Ext h2 h3 → (∀ a, a < i → ThrP (l.getD a dEv) (l.getD i dEv)) → zan_b7 p n c (some ⟨b1, 0, none⟩) (i : Int) (some ⟨b2, 0, none⟩) p n c (n : Int) (i : Int) h3 nx0 (VP (yafa l) h) := fun h3 x3 ha => by
    have s3 := s.grow x3
    rw [zan_b7]
    refine yaap rfl ⟨_, s3.blk.cell 0, ?_⟩
    refine wrArr (t := t) (s3.to (B := cA b1 (arrI la) 93 + (cA b2 (evC (l.getD i dEv).t) 60 + 0))) hla.1 ht h8 fun h4 s4 => ?_
    rw [zan_b9]
    exact ⟨⟨by omega, by omega⟩, hnx h4 _ (s4.to (B := cA b2 (evC (l.getD i dEv).t) 60 + (cA b1 (arrI (la.set t (i : Int))) 93 + 0))).drop (hla.set ht h8) ha⟩
  rw [zan_b5]
  refine yaap rfl ⟨_, s.blk.cell 0, ?_⟩
  refine ldArr (t := t) (s.to (B := cA b1 (arrI la) 93 + (cA b2 (evC (l.getD i dEv).t) 60 + 0))) hla.1 ht h8 ?_
  rcases hla.2 t h8 with ⟨h1, hno⟩ | ⟨k, hk, h1, h3, hno⟩
  · rw [h1]
    refine yaat rfl (b7 h2 (Ext.refl _) fun a ha e => absurd (e.trans ht) (hno a ha))
  · rw [h1]
    refine yaaw (decide_eq_true (by omega)) ((r.ext s.ext).ld rfl (by omega) (yaap rfl (ldEvB s.blk ((yaez _ _ _).mono fun v h4 ⟨hv, x4⟩ => ⟨_, hv, condN (fun hnp => VP.no (fun o => ?_) (s.ext.trans x4)) (fun hy => b7 h4 x4 fun a ha e => ?_)⟩))))
    · obtain ⟨_, _, o⟩ := o
      exact hnp (ybaj o.2.2.1 hk (by omega) (h3.trans ht.symm))
    · rcases Nat.lt_trichotomy a k with h5 | h5 | h5
      · exact yarx (o1 k (by omega)) (i2 k hk a h5 ((e.trans ht).trans h3.symm)) hy
      · subst h5; exact hy
      · exact absurd (e.trans ht) (hno a h5 ha)
theorem yaxu (r : EvsR h p n l) (sm : Sm l) : yaae Tryz.prog 18 #[.slice p n c] h (VP (yafa l) h) := by
  have hl := r.len
  refine zan_call ?_
  rw [zan_b0]
  refine condP (fun hc => VP.no (fun ⟨_, _, o⟩ => by have := o.1; omega) (Ext.refl _)) (fun hn => ?_)
  have hn : n ≤ 1000 := by omega
  refine (St.start h).new (cs := arrI [0, 0, 0, 0, 0, 0, 0, 0]) fun b1 h1 _ s => s.wr0 fun _ u => u.wrB fun _ u => u.wrB fun _ u => u.wrB fun _ u => u.wrB fun _ u => u.wrB fun _ u => u.wrB fun _ u => u.wrB fun h9 s9 => ?_
  have s9 : St h h9 (cA b1 (arrI [0, 0, 0, 0, 0, 0, 0, 0]) 93 + 0) := s9
  refine ⟨fun x h' => ∃ (t : Nat) (la : List Int), x.1 = (t : Int) ∧ t ≤ 8 ∧ la.length = 8 ∧ (∀ j, j < t → la.getD j 0 = -1) ∧ St h h' (cA b1 (arrI la) 93 + 0), fun x _ => 8 - x.1.toNat, ⟨0, _, rfl, by omega, rfl, fun j hj => absurd hj (by omega), s9⟩, ?_⟩
  rintro ⟨_, _⟩ h10 ⟨t, la, rfl, ht, hl8, h1, s10⟩
  dsimp only
  rw [zan_b1]
  refine condP (fun hlt => ?_) (fun hge => ?_)
  · refine wrArr (t := t) s10 hl8 rfl (by omega) fun h11 s11 => ?_
    rw [zan_b2]
    refine ⟨⟨by omega, by omega⟩, ⟨t + 1, _, by push_cast; rfl, by omega, by rw [List.length_set]; exact hl8, fun j hj => ?_, s11⟩, by simp only; omega⟩
    rw [yadu (by omega)]
    by_cases e : j = t
    · rw [if_pos e]
    · rw [if_neg e]; exact h1 j (by omega)
  rw [zan_b3]
  have hla : LastP l la 0 := ⟨hl8, fun t ht => .inl ⟨h1 t (by omega), fun j hj => absurd hj (by omega)⟩⟩
  refine ⟨fun x h' => ∃ (i : Nat) (la : List Int), x.1 = (i : Int) ∧ i ≤ n ∧ LastP l la i ∧ (∀ j, j < i → One (l.getD j dEv)) ∧ (∀ b, b < i → ∀ a, a < b → ThrP (l.getD a dEv) (l.getD b dEv)) ∧ St h h' (cA b1 (arrI la) 93 + 0), fun x _ => n - x.1.toNat, ⟨0, la, rfl, by omega, hla, fun j hj => absurd hj (by omega), fun b hb => absurd hb (by omega), s10⟩, ?_⟩
  rintro ⟨_, _⟩ h12 ⟨i, la, rfl, hin, hla, i1, i2, s12⟩
  dsimp only
  rw [zan_b4]
  refine condP (fun hlt => ?_) (fun hge => ?_)
  · have hi : i < n := by omega
    have hm : l.getD i dEv ∈ l := yaal (by omega)
    refine (r.ext s12.ext).cp s12 rfl hi fun b2 h13 _ s13 => ?_
    have em : EvM h13 (l.getD i dEv) := (r.2 _ hm).ext s13.ext
    have hsl := (sm _ hm).2
    have hll := em.2.1.len
    have kb := s13.blk
    obtain ⟨nx, hnx⟩ : ∃ nx : Int × Unit → Hp → Prop, nx = fun s' h' => (∃ (i : Nat) (la : List Int), s'.1 = (i : Int) ∧ i ≤ n ∧ LastP l la i ∧ (∀ j, j < i → One (l.getD j dEv)) ∧ (∀ b, b < i → ∀ a, a < b → ThrP (l.getD a dEv) (l.getD b dEv)) ∧ St h h' (cA b1 (arrI la) 93 + 0)) ∧ n - s'.1.toNat < n - ((i : Nat) : Int).toNat := ⟨_, rfl⟩
    rw [← hnx]
    have b5 : ∀ h14, Ext h13 h14 → One (l.getD i dEv) → zan_b5 p n c (some ⟨b1, 0, none⟩) (i : Int) (some ⟨b2, 0, none⟩) p n c (n : Int) (i : Int) h14 nx (VP (yafa l) h) := fun h14 x14 ho => by
      refine yayl r hn hi (fun j hj => ?_) i2 (s13.grow x14) hla fun h15 la' s15 hla' hth => ?_
      · rcases Nat.lt_or_ge j i with h | h
        · exact i1 j h
        · obtain rfl : j = i := by omega
          exact ho
      · rw [hnx]
        refine ⟨⟨i + 1, la', by push_cast; rfl, by omega, hla', fun j hj => ?_, fun b hb a ha => ?_, s15⟩, by simp only; omega⟩
        · rcases Nat.lt_or_ge j i with h | h
          · exact i1 j h
          · obtain rfl : j = i := by omega
            exact ho
        · rcases Nat.lt_or_ge b i with h | h
          · exact i2 b h a ha
          · obtain rfl : b = i := by omega
            exact hth a ha
    have no : ∀ h14, Ext h13 h14 → ¬ One (l.getD i dEv) → VP (yafa l) h (.bool false) h14 := fun h14 x14 ho => VP.no (fun ⟨_, _, o⟩ => ho (o.2.1 _ hm)) (s13.ext.trans x14)
    have b3 : (0 ≤ (l.getD i dEv).t.th ∧ (l.getD i dEv).t.th < 8) → (0 ≤ (l.getD i dEv).t.bg ∧ (l.getD i dEv).t.bg ≤ 65536) → (l.getD i dEv).t.en = -1 → yaae Tryz.prog 48 #[.agg #[.int .i64 (l.getD i dEv).t.er, .int .i64 (l.getD i dEv).t.nu, .slice (l.getD i dEv).t.li.1 (l.getD i dEv).t.li.2.1 (l.getD i dEv).t.li.2.2], .agg #[.int .i64 0, .int .i64 0, .slice none 0 0]] h13 (fun v1 h22 => ∃ r1 : Bool, v1 = .bool r1 ∧ cond (!r1) (VP (yafa l) h (.bool false) h22) (zan_b5 p n c (some ⟨b1, 0, none⟩) (i : Int) (some ⟨b2, 0, none⟩) p n c (n : Int) (i : Int) h22 nx (VP (yafa l) h))) := fun o1 o2 hen => by
      refine (yalg em.2.1 (RdT.nil h13 none) (by omega)).mono fun v h22 ⟨hv, x22⟩ => ⟨_, hv, condN (fun hno => no h22 x22 fun o => hno (o.2.2.2 hen)) (fun hy => b5 h22 x22 ⟨o1, o2, .inl hen, fun _ => hy⟩)⟩
    refine ⟨_, kb.cell 0, condP (fun hc => no _ (Ext.refl _) fun o => absurd o.1.1 (by omega)) (fun c1 => ⟨_, kb.cell 0, condP (fun hc => no _ (Ext.refl _) fun o => absurd o.1.2 (by omega)) (fun c2 => ⟨_, kb.cell 6, condP (fun hc => no _ (Ext.refl _) fun o => absurd o.2.1.1 (by omega)) (fun c3 => ⟨_, kb.cell 6, condP (fun hc => no _ (Ext.refl _) fun o => absurd o.2.1.2 (by omega)) (fun c4 => ⟨_, kb.cell 7, ?_⟩)⟩)⟩)⟩)⟩
    refine condN (fun hne => ⟨_, kb.cell 7, _, kb.cell 6, condP (fun hc => no _ (Ext.refl _) fun o => by have := o.2.2.1; omega) (fun c5 => ⟨_, kb.cell 7, condP (fun hc => no _ (Ext.refl _) fun o => by have := o.2.2.1; omega) (fun c6 => ⟨_, kb.cell 7, condP (fun h => absurd h hne) (fun _ => b5 _ (Ext.refl _) ⟨⟨by omega, by omega⟩, ⟨by omega, by omega⟩, .inr ⟨by omega, by omega⟩, fun h => absurd h hne⟩)⟩)⟩)⟩) (fun hen => ⟨_, kb.cell 7, condP (fun _ => ⟨_, _, _, _, _, kb.cell 3, kb.cell 4, kb.cell 5, b3 ⟨by omega, by omega⟩ ⟨by omega, by omega⟩ hen⟩) (fun h => absurd hen h)⟩)
  · obtain rfl : i = n := by omega
    have hone : ∀ e ∈ l, One e := fun e he => by
      obtain ⟨j, hj, rfl⟩ := List.mem_iff_getElem.1 he
      have := i1 j (by omega)
      rwa [yaac hj] at this
    have hpw : l.Pairwise ThrP := List.pairwise_iff_getElem.2 fun a b ha hb hab => by
      have := i2 b (by omega) a hab
      rwa [yaac ha, yaac hb] at this
    rw [zan_b6]
    refine condP (fun h0 => VP.yes ⟨1, by decide, by omega, hone, hpw, fun e he => ?_⟩ s12.ext) (fun h0 => ?_)
    · have : l = [] := List.length_eq_zero_iff.1 (by omega)
      rw [this] at he; cases he
    refine ⟨fun x h' => (1 ≤ x.1 ∧ x.1 ≤ 7) ∧ Ext h h' ∧ ∀ k, 1 ≤ k → k < x.1 → ¬ KindP k l, fun x _ => (7 - x.1).toNat, ⟨by decide, s12.ext, fun k h1 h2 => by dsimp only at h2; omega⟩, ?_⟩
    rintro ⟨k, _⟩ h14 ⟨hk, x14, i3⟩
    dsimp only at hk i3 ⊢
    rw [zan_b8]
    refine condP (fun hlt => ?_) (fun hge => ?_)
    · refine (of_ok (r.ext x14) (by omega)).mono fun v h15 ⟨hv, x15⟩ => ⟨_, hv, condP (fun hy => VP.yes ⟨k, ⟨hk.1, hlt⟩, by omega, hone, hpw, hy⟩ (x14.trans x15)) (fun hno => ?_)⟩
      rw [zan_b10]
      refine ⟨⟨by omega, by omega⟩, ⟨by simp only; omega, x14.trans x15, fun k' h3 h4 => ?_⟩, by simp only; omega⟩
      dsimp only at h4
      rcases Int.lt_or_le k' k with h5 | h5
      · exact i3 k' h3 h5
      · obtain rfl : k' = k := by omega
        exact hno
    · rw [zan_b11]
      exact VP.no (fun ⟨k', h2, h3⟩ => i3 k' h2.1 (by omega) h3.2.2.2) x14
end
section
variable {h : Hp} {p : OA} {n c : Nat} {l : List Ev}
end
theorem ok_ev : ElOk tEv Tryz.prog 25 := yagi (by kernel_rfl)
section
variable {h : Hp} {p : OA} {n c : Nat} {l : List Ev}
def FewP (l : List Ev) (rows : List (List Int)) : Prop := (l.length ≤ 12 ∨ 1000 < l.length ∧ l.length < 1005) ∧ Sm l ∧ rows.length ≤ 20 ∧ ∀ w ∈ rows, w.length ≤ 40
theorem yazf {sp : OA} {sn sc : Nat} {rows : List (List Int)} (r : RowsR h sp sn rows) (hn : sn ≤ 20) :
    yaae Tryz.prog 32 #[.slice sp sn sc, .func (.func 33) #[] #[]] h (fun v h' => v = .bool (rows.any fun w => decide (40 < w.length)) ∧ h' = h) := by
  have hl := r.len
  refine zdp_call ?_
  rw [zdp_b0]
  refine zdv_call ?_
  rw [zdv_b0]
  refine ⟨fun s h' => h' = h ∧ ∃ i : Nat, s.1 = i ∧ i ≤ sn ∧ (rows.take i).any (fun w => decide (40 < w.length)) = false, fun s _ => sn - s.1.toNat, ⟨rfl, 0, rfl, by omega, rfl⟩, ?_⟩
  rintro ⟨_, _⟩ h1 ⟨rfl, i, rfl, hin, hno⟩
  dsimp only
  rw [zdv_b1]
  refine condP (fun hlt => ?_) (fun hge => ?_)
  · have hi : i < rows.length := by omega
    refine r.hdr rfl (by omega) fun q d rr _ => yagl (args' := #[.slice q (rows.getD i []).length d]) (by kernel_rfl) (zai_call ?_) rfl
    rw [zai_b0]
    refine ⟨_, rfl, condP (fun hy => ?_) (fun hy => ?_)⟩
    · refine ⟨_, rfl, ?_, rfl⟩
      rw [List.any_eq_true.2 ⟨_, yaal (d := []) hi, decide_eq_true (by omega)⟩, decide_eq_true (by omega)]
    · rw [zdv_b2]
      refine ⟨⟨by omega, by omega⟩, ⟨rfl, i + 1, by simp only; omega, by omega, ?_⟩, by simp only; omega⟩
      rw [yaac hi] at hy
      rw [List.take_succ_eq_append_getElem hi, List.any_append, hno]
      simp
      omega
  · rw [zdv_b3]
    rw [List.take_of_length_le (by omega)] at hno
    exact ⟨_, rfl, by rw [hno]; rfl, rfl⟩
theorem ybbx {sp : OA} {sn sc : Nat} {rows : List (List Int)} {k : Int} (r : EvsR h p n l) (rr : RowsR h sp sn rows) :
    yaae Tryz.prog 8 #[.agg #[.int .i64 k, .slice sp sn sc], .slice p n c] h (VP (FewP l rows) h) := by
  have hl := r.len
  have hrl := rr.len
  refine zag_call ?_
  rw [zag_b0]
  refine (St.start h).new (cs := [.int .i64 k, .slice sp sn sc]) fun b1 h1 x1 s => ?_
  have rest : n ≤ 1000000 → (l.length ≤ 12 ∨ 1000 < l.length ∧ l.length < 1005) → yaae Tryz.prog 30 #[.slice p n c, .func (.func 31) #[] #[]] h1 (fun v1 h2 => ∃ r1 : Bool, v1 = .bool r1 ∧
      cond (!r1) (∃ a1 L1 C1, cell h2 ((⟨b1, 0, none⟩ : Addr).add 1) = some (.slice a1 L1 C1) ∧
        cond (decide ((L1 : Int) ≤ 20)) (∃ a2 L2 C2, cell h2 ((⟨b1, 0, none⟩ : Addr).add 1) = some (.slice a2 L2 C2) ∧
          yaae Tryz.prog 32 #[.slice a2 L2 C2, .func (.func 33) #[] #[]] h2 fun v2 h3 => ∃ r2 : Bool, v2 = .bool r2 ∧ VP (FewP l rows) h (.bool (!r2)) h3)
          (VP (FewP l rows) h (.bool false) h2)) (VP (FewP l rows) h (.bool false) h2)) := fun hn hlen => by
    refine (yafz (g := fun e => decide (70 < e.zs.length) || decide (20 < e.ls.length)) (r.ext x1) hn fun e he h2 K x2 hK => ?_).mono fun v h2 ⟨hv, x2⟩ => ⟨_, hv, ?_⟩
    · have em := r.2 e he
      have e1 := em.1.1.len
      have e2 := em.2.1.len
      refine yagl (args' := #[encEv e.t]) (by kernel_rfl) (zah_call ?_) rfl
      rw [zah_b0]
      refine (St.start h2).new (cs := evC e.t) fun b2 h3 x3 t => ⟨_, _, _, t.blk.cell 2, condP (fun h => ?_) (fun h => ⟨_, _, _, t.blk.cell 5, ?_⟩)⟩
      · have := hK h3 x3
        rwa [decide_eq_true (by omega), Bool.true_or] at this
      · have := hK h3 x3
        rw [decide_eq_false (by omega), Bool.false_or] at this
        rw [show decide ((20 : Int) < (e.t.li.2.1 : Int)) = decide (20 < e.ls.length) from decide_eq_decide.2 ⟨fun h => by omega, fun h => by omega⟩]
        exact this
    · have s2 := s.grow x2
      refine yaar (fun hb => ?_) (fun hb => VP.no (fun o => ?_) s2.ext)
      · have sm : Sm l := fun e he => by
          have := List.any_eq_false.1 (show (l.any fun e => decide (70 < e.zs.length) || decide (20 < e.ls.length)) = false by simpa using hb) e he
          simp at this
          omega
        refine ⟨_, _, _, s2.ldB, condP (fun h20 => ⟨_, _, _, s2.ldB, (yazf (rr.ext s2.ext) (by omega)).mono fun v h3 ⟨hv, hh⟩ => ⟨_, hv, ?_⟩⟩) (fun h20 => VP.no (fun o => by have := o.2.2.1; omega) s2.ext)⟩
        subst hh
        refine ⟨⟨_, rfl, ?_⟩, s2.ext⟩
        rw [Bool.not_eq_true', List.any_eq_false]
        constructor
        · exact fun h => ⟨hlen, sm, by omega, fun w hw => by have := h w hw; simpa using this⟩
        · exact fun o w hw => by have := o.2.2.2 w hw; simpa using this
      · have : (l.any fun e => decide (70 < e.zs.length) || decide (20 < e.ls.length)) = true := by simpa using hb
        obtain ⟨e, he, h⟩ := List.any_eq_true.1 this
        have := o.2.1 e he
        simp at h
        omega
  refine condP (fun h12 => rest (by omega) (.inl (by omega))) (fun h12 => condP (fun h1000 => condP (fun h1005 => rest (by omega) (.inr ⟨by omega, by omega⟩)) (fun h => VP.no (fun o => by have := o.1; omega) s.ext)) (fun h => VP.no (fun o => by have := o.1; omega) s.ext))
end
abbrev yazg (h0 : Hp) : Prop := ∀ h : Hp, Ext h0 h → yaae Tryz.prog 7 #[] h (fun v h' => v = .bool true ∧ Ext h h')
abbrev TrueP (h : Hp) : VK := fun v h' => v = .bool true ∧ Ext h h'
theorem yato (h : Hp) : RowsR h none 0 [] := ⟨rfl, [], RdT.nil h none, fun i hi => absurd hi (by omega)⟩
end Go.Proofs.YtllhdhpjgihjfaaGreatDoor
namespace Go.Proofs
open Go.Shelf
shelf_lay LaysM.n176 Nm 176 at Tryz as Tryz.laysM176
open Go.RowKit Go.Lib in
theorem Tryz.strconv_AppendInt (B n : Nat) (i : Int) (h0 : -9223372036854775808 ≤ i) (h1 : i ≤ 9223372036854775807) (sv : Value) (xs : List Value) (w : World) (hown : w.ownsRow B 5 1 sv n xs) (hBw : B ≤ w.heap.size) (hlim : n + 21 ≤ 140737488355328)
    (htab : Lib.TabBelow Tryz.prog B w "internal/strconv.uint64pow10" .u64 Lib.pow10Tab) :
    Calls Tryz.prog 99 #[sv, .int .i64 i, .int .i64 10] w fun e w' => ∃ v', e = .returned v' ∧ w'.ownsRow B 5 1 v' (n + (Lib.itoa i).length) (xs ++ Lib.byteCells (Lib.itoa i)) ∧ Below B w w' ∧ Lib.OthersKept 5 none w w' :=
  Any.strconv_AppendInt_10 Tryz.laysM176 B n i h0 h1 sv xs w hown hBw hlim htab
end Go.Proofs
namespace Go.Proofs.YtllhdhpjgihjfaaGreatDoor
open Go Go.Sx Go.Lib
abbrev tU8 : Ty UInt8 := ⟨5, 1, fun b => [byteV b], 0, fun _ => rfl, by decide, fun _ v hv => by simp at hv; rw [hv]; rfl⟩
theorem ok_u8 : ElOk tU8 Tryz.prog 124 := yagi (by kernel_rfl)
theorem yanj (xs : List UInt8) : tU8.cells xs = xs.map byteV := by
  induction xs with
  | nil => rfl
  | cons a xs ih => rw [Ty.cells_cons, ih]; rfl
def Tab10 (h : Hp) : Prop := ∃ (g : Nat) (e : TypeId) (fz : Nat × Nat), Tryz.prog.globalNamed "internal/strconv.uint64pow10" = some g ∧ h[g]? = some (.cells (Lib.pow10Tab.map fun z => Value.int .u64 z).toArray e fz)
theorem Tab10.ext {h h' : Hp} (t : Tab10 h) (x : Ext h h') : Tab10 h' := let ⟨g, e, fz, h1, h2⟩ := t; ⟨g, e, fz, h1, x.get h2⟩
theorem yago {h0 h : Hp} {p : OA} {n c b1 : Nat} {xs : List UInt8} {A : Bag} {cs : List Value} {e : TypeId} {i : Int} (tab : Tab10 h0) (he : e ≠ 5) (hi : -9223372036854775808 ≤ i ∧ i ≤ 9223372036854775807) (hn : n ≤ 1000000000) (hc : c ≤ 9223372036854775807)
    (a : Sl tU8 p n c xs A) (s : St h0 h (A + cA b1 cs e)) :
    yaae Tryz.prog 99 #[.slice p n c, .int .i64 i, .int .i64 10] h (fun v h' => ∃ q d A', v = .slice q (n + (itoa i).length) d ∧ d ≤ 9223372036854775807 ∧ Sl tU8 q (n + (itoa i).length) d (xs ++ itoa i) A' ∧ St h0 h' (A' + cA b1 cs e)) := by
  intro w hw
  subst hw
  have hs := s.ext
  obtain ⟨kb1, kb2⟩ := (s.to (B := cA b1 cs e + A)).head
  have hown : w.ownsRow h0.size 5 1 (.slice p n c) n (xs.map byteV) := by
    rcases a with ⟨hl, ⟨rfl, rfl, rfl, rfl⟩ | ⟨b, rest, rfl, hnc, hr, rfl⟩⟩
    · exact ⟨by rw [List.length_map, hl], .inl ⟨rfl, rfl⟩⟩
    · obtain ⟨h1, h2⟩ := s.head
      have hr : rest.length = (c - n) * 1 := hr
      refine ⟨by rw [List.length_map, hl, Nat.mul_one], .inr ⟨b, c, _, rfl, h1, h2, hnc, by unfold maxLen; omega, ?_, ?_⟩⟩
      · rw [List.size_toArray, List.length_append, yanj, List.length_map, hl]; omega
      · rw [yanj, Nat.mul_one]
        show List.take n (xs.map byteV ++ rest) = _
        exact List.take_left' (by rw [List.length_map, hl])
  have htab : Lib.TabBelow Tryz.prog h0.size w "internal/strconv.uint64pow10" .u64 Lib.pow10Tab := fun w' hb => by
    obtain ⟨g, e, fz, h1, h2⟩ := tab
    have hg : g < h0.size := by
      rcases Nat.lt_or_ge g h0.size with h | h
      · exact h
      · rw [Array.getElem?_eq_none h] at h2; cases h2
    have h3 : w'.heap[g]? = some (.cells (Lib.pow10Tab.map fun z => Value.int .u64 z).toArray e fz) := by rw [hb.block g hg, hs.same g hg]; exact h2
    unfold Lib.TabIs World.var?
    rw [h1, Option.bind_some, h3]
  refine (Tryz.strconv_AppendInt h0.size n i hi.1 hi.2 _ _ w hown hs.size (by omega) htab).mono fun e' w' ⟨v', he', hown', hb, hk⟩ => ⟨v', he', ⟨hb.os, hb.tape, hb.output⟩, ?_⟩
  have hx : Ext h0 w'.heap := ⟨Nat.le_trans hs.size hb.size, fun j hj => by rw [hb.block j hj, hs.same j hj]⟩
  have k2 : w'.heap[b1]? = some (.cells cs.toArray e (0, 0)) := hk b1 _ kb2 (by simp) fun c fz h => by cases h; exact he rfl
  have hxs : xs.map byteV ++ Lib.byteCells (itoa i) = (xs ++ itoa i).map byteV := by rw [List.map_append]; rfl
  rw [hxs] at hown'
  obtain ⟨hl', hv'⟩ := hown'
  rw [List.length_map, Nat.mul_one] at hl'
  rcases hv' with ⟨rfl, hz⟩ | ⟨g, cap, cur, rfl, hg0, hgh, hle, hcm, hsz, htk⟩
  · have : xs ++ itoa i = [] := List.eq_nil_of_length_eq_zero (by omega)
    rw [this, hz]
    refine ⟨none, 0, 0, rfl, Nat.zero_le _, Sl.nil, ?_⟩
    rw [Bag.zero_add]
    exact St.mk' (l := [(b1, .cells cs.toArray e (0, 0))]) hx (by simp) fun a ha => by rw [List.mem_singleton.1 ha]; exact ⟨kb1, k2⟩
  · rw [Nat.mul_one] at htk hsz
    have hcur : (tU8.cells (xs ++ itoa i) ++ cur.toList.drop (n + (itoa i).length)).toArray = cur := by
      rw [yanj, ← htk, List.take_append_drop]
    refine ⟨some ⟨g, 0, none⟩, cap, cA g (tU8.cells (xs ++ itoa i) ++ cur.toList.drop (n + (itoa i).length)) 5, rfl, by unfold maxLen at hcm; omega, ⟨hl', .inr ⟨g, _, rfl, hle, ?_, rfl⟩⟩, ?_⟩
    · rw [List.length_drop, Array.length_toList, hsz]
      show _ = _ * 1
      omega
    · unfold cA
      rw [hcur]
      refine St.mk' (l := [(g, .cells cur 5 (0, 0)), (b1, .cells cs.toArray e (0, 0))]) hx ?_ fun a ha => ?_
      · simp only [List.map_cons, List.map_nil, List.nodup_cons, List.mem_singleton, List.not_mem_nil, not_false_eq_true, List.nodup_nil, and_true]
        rintro rfl
        rw [hgh] at k2
        cases k2
        exact he rfl
      · rcases List.mem_cons.1 ha with rfl | ha
        · exact ⟨hg0, hgh⟩
        · rw [List.mem_singleton.1 ha]; exact ⟨kb1, k2⟩
theorem yasv : ∀ (k u : Nat), u < 10 ^ (k + 1) → (decDigits u).length ≤ k + 1
  | 0, u, h => by
    rw [decDigits, dif_pos (by simpa using h)]
    simp
  | k + 1, u, h => by
    rw [decDigits]
    split
    · simp
    · have := yasv k (u / 10) (by rw [Nat.pow_succ] at h; omega)
      rw [List.length_append, List.length_singleton]
      omega
theorem yapk {z : Int} (h : -10000000 < z ∧ z < 10000000) : (itoa z).length ≤ 8 := by
  unfold itoa
  split
  · have := yasv 6 z.natAbs (by omega)
    rw [List.length_cons]; omega
  · have := yasv 6 z.toNat (by omega)
    omega
abbrev InK (z : Int) : Prop := -10000000 < z ∧ z < 10000000
theorem yali : ∀ {r : List Int}, (∀ z ∈ r, InK z) → (rowK r).length ≤ 9 * r.length
  | [], _ => Nat.le_refl _
  | a :: r, h => by
    have ih := yali (r := r) fun z hz => h z (List.mem_cons_of_mem _ hz)
    have := yapk (h a List.mem_cons_self)
    show (44 :: itoa a ++ rowK r).length ≤ _
    rw [List.length_append, List.length_cons, List.length_cons]
    omega
theorem yame : ∀ {r : Rows}, (∀ w ∈ r, w.length ≤ 500 ∧ ∀ z ∈ w, InK z) → (rowsK r).length ≤ 4501 * r.length
  | [], _ => Nat.le_refl _
  | a :: r, h => by
    have ih := yame (r := r) fun z hz => h z (List.mem_cons_of_mem _ hz)
    obtain ⟨h1, h2⟩ := h a List.mem_cons_self
    have := yali h2
    show (59 :: rowK a ++ rowsK r).length ≤ _
    rw [List.length_append, List.length_cons, List.length_cons]
    omega
theorem yatz {r : List Int} {i : Nat} (hi : i < r.length) : rowK (r.take (i + 1)) = rowK (r.take i) ++ 44 :: itoa (r.getD i 0) := by
  rw [List.take_succ_eq_append_getElem hi, yaac hi]
  unfold rowK
  rw [List.flatMap_append]
  simp
theorem yark {r : Rows} {i : Nat} (hi : i < r.length) : rowsK (r.take (i + 1)) = rowsK (r.take i) ++ 59 :: rowK (r.getD i []) := by
  rw [List.take_succ_eq_append_getElem hi, yaac hi]
  unfold rowsK
  rw [List.flatMap_append]
  simp
theorem RowsR.hdrX {h h' : Hp} {p : OA} {n : Nat} {rows : Rows} {i : Int} {i' : Nat} {Q : OA → Nat → Nat → Prop} (r : RowsR h p n rows) (x : Ext h h') (ei : i = (i' : Int)) (hi : i' < n)
    (hq : ∀ q d, RdT TI h q (rows.getD i' []).length (rows.getD i' []) → (rows.getD i' []).length ≤ d → Q q (rows.getD i' []).length d) : (0 ≤ i ∧ i < (n : Int)) ∧ NN p fun a => ∃ q l d, cell h' (a.add (i.toNat * 1)) = some (.slice q l d) ∧ Q q l d := by
  subst ei
  refine ⟨⟨by omega, by omega⟩, ?_⟩
  obtain ⟨_, hs, r1, r2⟩ := r
  obtain ⟨ad, hp, hc⟩ := (r1.ext x).at_ (i := i') hi
  obtain ⟨r3, r4⟩ := r2 i' hi
  have hl := r3.len
  refine yaap hp ⟨(hs.getD i' TR.d).1, (hs.getD i' TR.d).2.1, (hs.getD i' TR.d).2.2, by simpa [yach] using hc 0 (by decide), ?_⟩
  rw [← hl] at r3 r4 ⊢
  exact hq _ _ r3 r4
theorem ybbf {h : Hp} {p : OA} {n c : Nat} {rows : Rows} {k : Int} {mask : Nat} (tab : Tab10 h) (r : RowsR h p n rows) (hn : n ≤ 500) (hr : ∀ w ∈ rows, w.length ≤ 500 ∧ ∀ z ∈ w, InK z) (hm : InK mask) :
    yaae Tryz.prog 67 #[.int .i64 mask, .agg #[.int .i64 k, .slice p n c]] h (fun v h' => v = .string (kyS mask rows) ∧ Ext h h') := by
  have hl := r.len
  refine zat_call ?_
  rw [zat_b0]
  refine (St.start h).new (cs := [.int .i64 k, .slice p n c]) fun b1 h1 _ s1 => ?_
  have ne : 24 ≠ 5 := by decide
  have s1 : St h h1 (0 + cA b1 [.int .i64 k, .slice p n c] 24) := s1.to
  refine (yago tab ne (i := (mask : Int)) ⟨by omega, by omega⟩ (Nat.zero_le _) (Nat.zero_le _) Sl.nil s1).mono fun v h2 ⟨q, d, A, hv, hd, o2, s2⟩ => ⟨_, _, _, hv, ?_⟩
  rw [List.nil_append] at o2
  refine ⟨_, _, _, s2.ldB, ?_⟩
  have hml := yapk hm
  refine ⟨fun x h' => ∃ (i : Nat) (A : Bag), x.2.1 = (i : Int) ∧ i ≤ n ∧ x.1.2.2 ≤ 9223372036854775807 ∧ Sl tU8 x.1.1 x.1.2.1 x.1.2.2 (itoa mask ++ rowsK (rows.take i)) A ∧ St h h' (A + cA b1 [.int .i64 k, .slice p n c] 24), fun x _ => n - x.2.1.toNat, ⟨0, A, rfl, by omega, hd, by rw [Nat.zero_add] at o2; rw [show rowsK (rows.take 0) = [] from rfl, List.append_nil, Nat.zero_add]; exact o2, s2⟩, ?_⟩
  rintro ⟨⟨q, m, d⟩, _, _⟩ h3 ⟨i, A, rfl, hin, hd, o3, s3⟩
  dsimp only at hd o3 ⊢
  have hlen1 : (rowsK (rows.take i)).length ≤ 4501 * 500 := Nat.le_trans (yame fun w hw => hr w (List.mem_of_mem_take hw)) (Nat.mul_le_mul_left _ (by rw [List.length_take]; omega))
  have hm3 := o3.len
  rw [List.length_append] at hm3
  rw [zat_b1]
  refine condP (fun hlt => ?_) (fun hge => ?_)
  · have hi : i < rows.length := by omega
    obtain ⟨hw1, hw2⟩ := hr _ (yaal (d := []) hi)
    refine r.hdrX s3.ext rfl (by omega) fun a3 C2 rr _ => ?_
    refine yaox ok_u8 (cs := [.int .u8 59]) s3 o3 (x := 59) rfl rfl (by omega) hd fun q4 d4 h5 A4 hd4 o4 s4 => ?_
    refine ⟨fun x h' => ∃ (j : Nat) (A : Bag), x.2.1 = (j : Int) ∧ j ≤ (rows.getD i []).length ∧ x.1.2.2 ≤ 9223372036854775807 ∧ Sl tU8 x.1.1 x.1.2.1 x.1.2.2 (itoa mask ++ rowsK (rows.take i) ++ 59 :: rowK ((rows.getD i []).take j)) A ∧ St h h' (A + cA b1 [.int .i64 k, .slice p n c] 24), fun x _ => (rows.getD i []).length - x.2.1.toNat, ⟨0, A4, rfl, by omega, hd4, o4, s4⟩, ?_⟩
    rintro ⟨⟨q, m2, d⟩, _, _⟩ h6 ⟨j, A, rfl, hj, hd6, o6, s6⟩
    dsimp only at hd6 o6 ⊢
    have hlen2 : (rowK ((rows.getD i []).take j)).length ≤ 9 * 500 := Nat.le_trans (yali fun z hz => hw2 z (List.mem_of_mem_take hz)) (Nat.mul_le_mul_left _ (by rw [List.length_take]; omega))
    have hm6 := o6.len
    rw [List.length_append, List.length_append, List.length_cons] at hm6
    rw [zat_b2]
    refine condP (fun hlj => ?_) (fun hgj => ?_)
    · have hj' : j < (rows.getD i []).length := by omega
      have hz := hw2 _ (yaal (d := 0) hj')
      refine ldI (rr.ext s6.ext) rfl hj' ?_
      refine yaox ok_u8 (cs := [.int .u8 44]) s6 o6 (x := 44) rfl rfl (by omega) hd6 fun q7 d7 h8 A7 hd7 o7 s7 => ?_
      refine (yago tab ne ⟨by omega, by omega⟩ (by omega) hd7 o7 s7).mono fun v h9 ⟨q9, d9, A9, hv9, hd9, o9, s9⟩ => ⟨_, _, _, hv9, ?_⟩
      rw [zat_b4]
      refine ⟨⟨by omega, by omega⟩, ⟨j + 1, A9, by push_cast; rfl, by omega, hd9, ?_, s9⟩, by simp only; omega⟩
      rw [yatz hj']
      simpa using o9
    · obtain rfl : j = (rows.getD i []).length := by omega
      rw [zat_b5]
      refine ⟨⟨by omega, by omega⟩, ⟨i + 1, A, by push_cast; rfl, by omega, hd6, ?_, s6⟩, by simp only; omega⟩
      rw [List.take_length] at o6
      rw [yark hi, ← List.append_assoc]
      exact o6
  · obtain rfl : i = n := by omega
    rw [zat_b3]
    rw [List.take_of_length_le (by omega)] at o3
    refine yahc (e := 5) (by kernel_rfl) (by kernel_rfl) (by kernel_rfl) (bs := keyK mask rows) ?_ ⟨rfl, s3.ext⟩
    have := (o3.rd s3).rd
    rw [yanj, Nat.mul_one] at this
    exact this
structure KindOk (k : Int) : Prop where
  va : ∀ {h : Hp} {rows : Rows} {p : OA} {n c : Nat}, RowsR h p n rows → (∀ r ∈ rows, r.length ≤ 1000) → yaae Tryz.prog 55 #[.agg #[.int .i64 k, .slice p n c]] h (VP (OkR k rows) h)
  ap : ∀ {h : Hp} {rows : Rows} {p q : OA} {n c m cc : Nat} {code : Int} {zs : List Int}, OkR k rows → OpV k code zs → RowsR h p n rows → RdT TI h q m zs → m ≤ cc → m ≤ 100 →
    yaae Tryz.prog 46 #[.agg #[.int .i64 k, .slice p n c], .agg #[.int .i64 code, .slice q m cc]] h (yanl h 0 k (stepR k rows code zs).1 (stepR k rows code zs).2.1 (stepR k rows code zs).2.2)
  st : ∀ {rows : Rows} {code : Int} {zs : List Int}, OkR k rows → OpV k code zs → OkR k (stepR k rows code zs).1
  sm : ∀ {rows : Rows}, OkR k rows → rows.length ≤ 500 ∧ ∀ w ∈ rows, w.length ≤ 500 ∧ ∀ z ∈ w, InK z
theorem yayc {k : Int} {rows : Rows} (h : OkR k rows) : ∀ w ∈ rows, ∀ z ∈ w, InK z := by
  have ky : ∀ z, KeyP z → InK z := fun z h => by unfold KeyP at h; unfold InK; omega
  rcases h with ⟨rfl, l, rfl, h1, h2, h3⟩ | ⟨rfl, l, rfl, h1, h2, h3⟩ | ⟨rfl, l, rfl, h2, h3⟩ | ⟨rfl, h⟩ | ⟨rfl, l, rfl, h1, h2, h3⟩ | ⟨rfl, l, rfl, h2, h3⟩
  · intro w hw z hz
    obtain ⟨x, hx, rfl⟩ := List.mem_map.1 hw
    have := h2 x hx
    rcases List.mem_cons.1 hz with rfl | hz
    · exact ky _ this.1
    · rw [List.mem_singleton.1 hz]; exact ky _ this.2
  · intro w hw z hz
    obtain ⟨x, hx, rfl⟩ := List.mem_map.1 hw
    rw [List.mem_singleton.1 hz]; exact ky _ (h2 x hx)
  · intro w hw z hz
    obtain ⟨x, hx, rfl⟩ := List.mem_map.1 hw
    rw [List.mem_singleton.1 hz]; exact ky _ (h2 x hx)
  · intro w hw z hz
    have h1 : z ∈ rows.flatten := List.mem_flatten.2 ⟨w, hw, hz⟩
    have h2 := h.2.2.1.mem_iff.1 h1
    obtain ⟨i, hi, rfl⟩ := List.mem_map.1 h2
    have := List.mem_range.1 hi
    have h3 := h.2.2.2
    unfold InK
    simp only [Int.ofNat_eq_natCast]
    omega
  · intro w hw z hz
    obtain ⟨x, hx, rfl⟩ := List.mem_map.1 hw
    have := h2 x hx
    rcases List.mem_cons.1 hz with rfl | hz
    · exact ky _ this.1
    rcases List.mem_cons.1 hz with rfl | hz
    · exact ky _ this.2.1
    · rw [List.mem_singleton.1 hz]; exact ky _ this.2.2
  · intro w hw z hz
    unfold textR at hw
    split at hw
    · cases hw
    · rw [List.mem_singleton.1 hw] at hz
      have := h2 z hz
      unfold ChP at this
      unfold InK
      omega
theorem ybbw {k : Int} {rows : Rows} (h : OkR k rows) : rows.length ≤ 500 ∧ ∀ w ∈ rows, w.length ≤ 500 ∧ ∀ z ∈ w, InK z :=
  ⟨(yadv h).1, fun w hw => ⟨(yadv h).2 w hw, yayc h w hw⟩⟩
theorem maskB {m i : Nat} {Q : Int → Prop} (hm : m < 9223372036854775808) (hi : i ≤ 64) (hq : Q ((m >>> i &&& 1 : Nat) : Int)) : ∃ sr : Int, Sx.Shr .i64 (m : Int) (i : Int) sr ∧ ∃ an : Int, Sx.And .i64 sr 1 an ∧ Q an :=
  yafq rfl rfl hi (yauo rfl rfl (Nat.lt_of_le_of_lt (by rw [Nat.shiftRight_eq_div_pow]; exact Nat.div_le_self _ _) hm) (y := 1) (by decide) hq)
theorem maskS {m i : Nat} {Q : Int → Prop} (hm : m < 2 ^ 20) (hi : i < 20) (hq : Q ((m ||| 2 ^ i : Nat) : Int)) : ∃ sl : Int, Sx.Shl .i64 1 (i : Int) sl ∧ ∃ r : Int, Sx.Or .i64 (m : Int) sl r ∧ Q r := by
  have h2 : 2 ^ i < 2 ^ 20 := Nat.pow_lt_pow_right (by decide) hi
  refine yaml (x := 1) rfl rfl (show i ≤ 64 by omega) ?_ (ybbq rfl (y := 2 ^ i) (by rw [Nat.one_mul]) (by omega) (by omega) hq)
  rw [Nat.one_mul]
  generalize 2 ^ i = w at *
  exact yabs _ ⟨by omega, by omega⟩
theorem yaur {m i : Nat} : (((m >>> i &&& 1 : Nat) : Int) = 1) ↔ m.testBit i = true := by
  rw [← yaux]
  omega
theorem yary {m i : Nat} : (((m >>> i &&& 1 : Nat) : Int) = 0) ↔ m.testBit i = false := by
  have h1 := @yaux m i
  have h2 : m >>> i &&& 1 < 2 := by rw [Nat.and_one_is_mod]; omega
  constructor
  · intro h
    cases hb : m.testBit i with
    | false => rfl
    | true => have := h1.2 hb; omega
  · intro h
    have : ¬ m >>> i &&& 1 = 1 := fun e => by rw [h1.1 e] at h; cases h
    omega
section
variable {h : Hp} {p : OA} {n c : Nat} {l : List Ev} {k : Int}
theorem yaxd {m : Nat} {e : EvT} (r : EvsR h p n l) (hn : n ≤ 20) (hm : m < 2 ^ 20) :
    yaae Tryz.prog 68 #[.slice p n c, .int .i64 (m : Int), encEv e] h (VP (∀ j, j < n → m.testBit j = false → ¬ precT (l.getD j dEv).t e) h) := by
  have hl := r.len
  refine zaq_call ?_
  rw [zaq_b0]
  refine (St.start h).new (cs := evC e) fun b1 h1 x1 s1 => ?_
  refine ⟨fun x h' => ∃ j : Nat, x.1 = (j : Int) ∧ j ≤ n ∧ (∀ t, t < j → m.testBit t = false → ¬ precT (l.getD t dEv).t e) ∧ St h h' (cA b1 (evC e) 60 + 0), fun x _ => n - x.1.toNat, ⟨0, rfl, by omega, fun t ht => absurd ht (by omega), s1⟩, ?_⟩
  rintro ⟨_, _⟩ h2 ⟨j, rfl, hj, i1, s2⟩
  dsimp only
  rw [zaq_b1]
  refine condP (fun hlt => ?_) (fun hge => ?_)
  · refine (r.ext s2.ext).cp s2 rfl (by omega) fun b2 h3 _ s3 => maskB (by omega) (by omega) ?_
    refine condP (fun hb => ?_) (fun hb => ?_)
    · refine ldEvB s3.blk (yaap rfl (ldEvB s3.atomBlk ((yaez _ _ _).mono fun v h4 ⟨hv, x4⟩ => ⟨_, hv, condP (fun hp => VP.no (fun o => o j (by omega) (yary.1 hb) hp) (s3.grow x4).ext) (fun hp => ?_)⟩)))
      rw [zaq_b2]
      refine ⟨⟨by omega, by omega⟩, ⟨j + 1, by push_cast; rfl, by omega, fun t ht hf => ?_, (s3.grow x4).drop⟩, by simp only; omega⟩
      rcases Nat.lt_or_ge t j with h | h
      · exact i1 t h hf
      · obtain rfl : t = j := by omega
        exact hp
    · rw [zaq_b2]
      refine ⟨⟨by omega, by omega⟩, ⟨j + 1, by push_cast; rfl, by omega, fun t ht hf => ?_, s3.drop⟩, by simp only; omega⟩
      rcases Nat.lt_or_ge t j with h | h
      · exact i1 t h hf
      · obtain rfl : t = j := by omega
        exact absurd (yary.2 hf) hb
  · rw [zaq_b3]
    exact VP.yes (fun t ht => i1 t (by omega)) s2.ext
theorem yavr {sp : OA} {sn sc : Nat} {rows : Rows} (va : ∀ {h : Hp} {rows : Rows} {p : OA} {n c : Nat}, RowsR h p n rows → (∀ r ∈ rows, r.length ≤ 1000) → yaae Tryz.prog 55 #[.agg #[.int .i64 k, .slice p n c]] h (VP (OkR k rows) h))
    (r : EvsR h p n l) (sm : Sm l) (rr : RowsR h sp sn rows) (hr : ∀ r ∈ rows, r.length ≤ 1000) :
    yaae Tryz.prog 44 #[.agg #[.int .i64 k, .slice sp sn sc], .slice p n c] h (VP (OkR k rows ∧ yafa l ∧ KindP k l) h) := by
  refine zar_call ?_
  rw [zar_b0]
  refine (St.start h).new (cs := [.int .i64 k, .slice sp sn sc]) fun b1 h1 _ s => ⟨_, _, _, _, s.ld0, s.ldB, ?_⟩
  refine (va (rr.ext s.ext) hr).mono fun v h2 ⟨⟨b2, hv2, hb2⟩, x2⟩ => ⟨_, hv2, ?_⟩
  have s2 := s.grow x2
  refine yaar (fun h2t => ?_) (fun h2f => VP.no (fun o => by rw [hb2.2 o.1] at h2f; cases h2f) s2.ext)
  refine (yaxu (r.ext s2.ext) sm).mono fun v h3 ⟨⟨b3, hv3, hb3⟩, x3⟩ => ⟨_, hv3, ?_⟩
  have s3 := s2.grow x3
  refine yaar (fun h3t => ⟨_, s3.ld0, ?_⟩) (fun h3f => VP.no (fun o => by rw [hb3.2 o.2.1] at h3f; cases h3f) s3.ext)
  have hn : n ≤ 1000 := by
    obtain ⟨_, _, o⟩ := hb3.1 h3t
    have := o.1
    have := r.len
    omega
  refine (of_ok (r.ext s3.ext) (by omega)).mono fun v h4 ⟨hv4, x4⟩ => ⟨_, hv4, ⟨_, rfl, ?_⟩, (s3.grow x4).ext⟩
  rw [decide_eq_true_iff]
  exact ⟨fun o => ⟨hb2.1 h2t, hb3.1 h3t, o⟩, fun o => o.2.2⟩
def givE (l : List Ev) (rows : Rows) (k most e : Int) : Prop :=
  (¬ (OkR k rows ∧ yafa l ∧ KindP k l) ∧ e = 1) ∨ ((OkR k rows ∧ yafa l ∧ KindP k l) ∧
    (((most < 1 ∨ 14 < most) ∧ e = 2) ∨ ((1 ≤ most ∧ most ≤ 14) ∧ ((most < (l.length : Int) ∧ e = 6) ∨ ((l.length : Int) ≤ most ∧ e = 0)))))
theorem yard {sp : OA} {sn sc : Nat} {rows : Rows} {most : Int} (va : ∀ {h : Hp} {rows : Rows} {p : OA} {n c : Nat}, RowsR h p n rows → (∀ r ∈ rows, r.length ≤ 1000) → yaae Tryz.prog 55 #[.agg #[.int .i64 k, .slice p n c]] h (VP (OkR k rows) h))
    (r : EvsR h p n l) (sm : Sm l) (rr : RowsR h sp sn rows) (hr : ∀ r ∈ rows, r.length ≤ 1000) :
    yaae Tryz.prog 35 #[.agg #[.int .i64 k, .slice sp sn sc], .slice p n c, .int .i64 most] h (fun v h' => ∃ e, v = .int .i64 e ∧ givE l rows k most e ∧ Ext h h') := by
  have hl := r.len
  refine zas_call ?_
  rw [zas_b0]
  refine (St.start h).new (cs := [.int .i64 k, .slice sp sn sc]) fun b1 h1 _ s => ⟨_, _, _, _, s.ld0, s.ldB, ?_⟩
  refine (yavr va (r.ext s.ext) sm (rr.ext s.ext) hr).mono fun v h2 ⟨⟨b2, hv2, hb2⟩, x2⟩ => ⟨_, hv2, ?_⟩
  have x := (s.grow x2).ext
  refine yaar (fun hno => ⟨_, rfl, .inl ⟨fun o => (by rw [hb2.2 o] at hno; cases hno), rfl⟩, x⟩) (fun hyes => ?_)
  have hf := hb2.1 (by simpa using hyes)
  refine condP (fun h1 => ⟨_, rfl, .inr ⟨hf, .inl ⟨.inl h1, rfl⟩⟩, x⟩) (fun h1 => condP (fun h14 => ⟨_, rfl, .inr ⟨hf, .inl ⟨.inr h14, rfl⟩⟩, x⟩) (fun h14 => condP (fun hlt => ⟨_, rfl, .inr ⟨hf, .inr ⟨⟨by omega, by omega⟩, .inl ⟨by omega, rfl⟩⟩⟩, x⟩) (fun hge => ?_)))
  rw [zas_b1]
  exact ⟨_, rfl, .inr ⟨hf, .inr ⟨⟨by omega, by omega⟩, .inr ⟨by omega, rfl⟩⟩⟩, x⟩
end
abbrev MS : MTy ByteArray Bool := ⟨fun k => .string k, fun b => .bool b, .bool false⟩
theorem yasg : MapOk MS Tryz.prog 107 := yauh (kt := 9) (et := 4) (fun _ => rfl) (by kernel_rfl) (by kernel_rfl) (by kernel_rfl)
abbrev natI (o : List Nat) : List Int := o.map fun x => ((x : Nat) : Int)
def SrA (ab mb lb ob fb mm a : Nat) (p : OA) (n c : Nat) (o : List Nat) (ps : List (ByteArray × Bool)) (A : Bag) : Prop :=
  ∃ (q : OA) (d : Nat) (Ao Am : Bag), A = cA ab [.int .i64 (a : Int)] 3 + (cA mb [.map (some mm)] 107 + (cA lb [.slice p n c] 25 + (cA ob [.slice q o.length d] 29 +
    (cA fb [.func (.func 66) #[] #[ptr ab, ptr mb, ptr lb, ptr ob, ptr fb]] 108 + (Ao + Am))))) ∧ Sl TI q o.length d (natI o) Ao ∧ MapA MS mm ps Am
section
variable {h0 : Hp} {p : OA} {n c : Nat} {l : List Ev} {k : Int} {ab mb lb ob fb mm a : Nat}
def RowsS (h0 : Hp) (F : Bag) (p : OA) (n : Nat) (rows : Rows) : Prop := ∀ h' B, St h0 h' (B + F) → RowsR h' p n rows
theorem RowsS.add {F G : Bag} {sp : OA} {sn : Nat} {rows : Rows} (r : RowsS h0 F sp sn rows) : RowsS h0 (G + F) sp sn rows := fun h' B s => r h' (B + G) (s.to (B := B + G + F))
theorem RowsS.u1 {F A : Bag} {h : Hp} {sp : OA} {sn : Nat} {rows : Rows} (r : RowsS h0 F sp sn rows) (s : St h0 h (A + F)) : RowsR h sp sn rows := r h A s
theorem RowsS.u2 {F A B : Bag} {h : Hp} {sp : OA} {sn : Nat} {rows : Rows} (r : RowsS h0 F sp sn rows) (s : St h0 h (A + (B + F))) : RowsR h sp sn rows := r h (A + B) s.to
theorem RowsS.u3 {F A B C : Bag} {h : Hp} {sp : OA} {sn : Nat} {rows : Rows} (r : RowsS h0 F sp sn rows) (s : St h0 h (A + (B + (C + F)))) : RowsR h sp sn rows := r h (A + (B + C)) s.to
theorem RowsS.of {q : OA} {m d : Nat} {rows : Rows} {B G : Bag} (na : RowsA (q, m, d) rows B) : RowsS h0 (B + G) q m rows := fun _ B' s => yakx na (s.to (B := B + (B' + G)))
theorem stMid {h0 h : Hp} {A B C : Bag} (s : St h0 h (A + (B + C))) : St h0 h (A + C) := St.drop (A := B) s.to
theorem yakp (o : List Nat) (i : Nat) : natI (o ++ [i]) = natI o ++ [(i : Int)] := by simp [natI]
def FromP (h0 : Hp) (k : Int) (l : List Ev) (ab mb lb ob fb mm a : Nat) (p : OA) (n c m : Nat) (rows : Rows) (cur : List Nat) (ps : List (ByteArray × Bool)) (F : Bag) (v : Value) (h' : Hp) : Prop :=
  ∃ (bb : Bool) (A' : Bag) (cur' : List Nat) (ps' : List (ByteArray × Bool)), v = .bool bb ∧ SrA ab mb lb ob fb mm a p n c cur' ps' A' ∧ St h0 h' (A' + F) ∧
    (bb = true → ∃ o, cur' = cur ++ o ∧ Lin k l o m.testBit rows) ∧ (bb = false → cur' = cur ∧ Grew k l ps ps' ∧ Fails k l m rows)
theorem yazh (ko : KindOk k) (tab : Tab10 h0) (r : EvsR h0 p n l) (hn : n ≤ 14) (sm : Sm l) (hk : KindP k l) (hall : AllM l l.length a) :
    ∀ (N m : Nat) (rows : Rows) (cur : List Nat) (ps : List (ByteArray × Bool)) (h : Hp) (A F : Bag) (sp : OA) (sn sc : Nat), lft n m.testBit < N → m < 2 ^ n → OkR k rows → RowsS h0 F sp sn rows → cur.length + lft n m.testBit ≤ n → Memo k l (lft n m.testBit) ps →
    SrA ab mb lb ob fb mm a p n c cur ps A → St h0 h (A + F) →
    yaae Tryz.prog 66 #[.int .i64 (m : Int), .agg #[.int .i64 k, .slice sp sn sc], ptr ab, ptr mb, ptr lb, ptr ob, ptr fb] h (FromP h0 k l ab mb lb ob fb mm a p n c m rows cur ps F) := by
  have hl := r.len
  have h2n : 2 ^ n ≤ 2 ^ 14 := Nat.pow_le_pow_right (by decide) hn
  have ha := yaut hall
  rw [hl] at ha
  intro N
  induction N with
  | zero => intro m rows cur ps h A F sp sn sc hlt; omega
  | succ N ih =>
    intro m rows cur ps h A F sp sn sc hlt hm ok rs hcl hmemo sa s
    obtain ⟨q, d, Ao, Am, rfl, oo, ma⟩ := sa
    refine zaz_call ?_
    rw [zaz_b0]
    refine s.new (cs := [.int .i64 k, .slice sp sn sc]) fun b1 h1 _ s1 => ?_
    refine yaap rfl ⟨_, s1.ld0, yauo rfl rfl (by omega) (by omega) (yaap rfl ⟨_, s1.ld0, ?_⟩)⟩
    refine condP (fun hall' => ?_) (fun hnall => ?_)
    · refine ⟨true, _, cur, ps, rfl, ⟨q, d, Ao, Am, rfl, oo, ma⟩, s1.drop, fun _ => ⟨[], by simp, ?_⟩, fun h => (by cases h)⟩
      rw [← hl] at hlt
      exact (yavm hall).1 (by omega)
    have hnc : ¬ Cpl l m.testBit := fun hc => hnall (by rw [(yavm hall).2 hc])
    have hsm := ko.sm ok
    refine ⟨_, _, _, _, s1.ld0, s1.ldB, ?_⟩
    have rr := rs.u2 s1
    refine (ybbf (tab.ext s1.ext) rr (by have := rr.len; omega) hsm.2 ⟨by omega, by omega⟩).mono fun v1 h2 ⟨hv1, x2⟩ => ⟨_, hv1, ?_⟩
    have s2 := s1.grow x2
    refine yaap rfl ⟨_, s2.ld0, ?_⟩
    have s2m : St h0 h2 (Am + (cA b1 [.int .i64 k, .slice sp sn sc] 24 + (cA ab [.int .i64 (a : Int)] 3 + (cA mb [.map (some mm)] 107 + (cA lb [.slice p n c] 25 + (cA ob [.slice q cur.length d] 29 +
      (cA fb [.func (.func 66) #[] #[ptr ab, ptr mb, ptr lb, ptr ob, ptr fb]] 108 + (Ao + F)))))))) := s2.to
    refine ma.look yasg s2m fun v b hvb => ?_
    rcases hvb with ⟨hno, rfl, rfl⟩ | ⟨x, hyes, rfl, rfl⟩
    rotate_left
    · obtain ⟨hx, hf⟩ := yawn hmemo (by rw [hl]) ((yawo ma.kd).1 hyes)
      subst hx
      refine ⟨_, rfl, yaaw rfl ?_⟩
      exact ⟨false, _, cur, ps, rfl, ⟨q, d, Ao, Am, rfl, oo, ma⟩, s2.drop, fun h => (by cases h), fun _ => ⟨rfl, Grew.refl hmemo, hf⟩⟩
    refine ⟨_, rfl, yaat rfl (yaap rfl ⟨_, s2.ld0, ?_⟩)⟩
    refine ma.set yasg s2m rfl fun h3 Am3 ma3 s3m => ?_
    have s3 : St h0 h3 ((cA ab [.int .i64 (a : Int)] 3 + (cA mb [.map (some mm)] 107 + (cA lb [.slice p n c] 25 + (cA ob [.slice q cur.length d] 29 +
      (cA fb [.func (.func 66) #[] #[ptr ab, ptr mb, ptr lb, ptr ob, ptr fb]] 108 + (Ao + Am3)))))) + (cA b1 [.int .i64 k, .slice sp sn sc] 24 + F)) := s3m.to
    refine yaap rfl ⟨_, _, _, s3.ld0, ?_⟩
    clear s3m s2m s2 s1 s
    refine ⟨fun x h' => ∃ (i : Nat) (A : Bag) (ps' : List (ByteArray × Bool)), x.1 = (i : Int) ∧ i ≤ n ∧ SrA ab mb lb ob fb mm a p n c cur ps' A ∧ St h0 h' (A + (cA b1 [.int .i64 k, .slice sp sn sc] 24 + F)) ∧ Grew k l (setk ps (kyS m rows) true) ps' ∧ ∀ j, j < i → ∀ o, ¬ Lin k l (j :: o) m.testBit rows,
      fun x _ => n - x.1.toNat, ⟨0, _, _, rfl, by omega, ⟨q, d, Ao, Am3, rfl, oo, ma3⟩, s3, fun e he => ⟨?_, .inl he⟩, fun j hj => absurd hj (by omega)⟩, ?_⟩
    · rcases yaiw he with rfl | he
      · rfl
      · exact (hmemo e he).1
    rintro ⟨_, _⟩ h4 ⟨i, A4, ps4, rfl, hin, ⟨q, d, Ao, Am, rfl, oo, ma⟩, s4, g4, i4⟩
    dsimp only
    rw [zaz_b1]
    refine condP (fun hlt' => ?_) (fun hge => ?_)
    rotate_left
    · obtain rfl : i = n := by omega
      rw [zaz_b4]
      have hf : Fails k l m rows := fun ⟨o, ho⟩ => by
        cases o with
        | nil => exact hnc ho
        | cons j o => exact i4 j (by have := ho.1; omega) o ho
      exact ⟨false, _, cur, ps4, rfl, ⟨q, d, Ao, Am, rfl, oo, ma⟩, (St.drop (A := cA b1 [.int .i64 k, .slice sp sn sc] 24) s4.to), fun h => (by cases h), fun _ => ⟨rfl, yaxo g4 hf, hf⟩⟩
    have hi : i < n := by omega
    have hmem : l.getD i dEv ∈ l := yaal (by omega)
    have hov : OpV k (l.getD i dEv).t.co (l.getD i dEv).zs := hk _ hmem
    -- the next event
    have skip : ∀ {h5 : Hp} {A5 : Bag} {ps5 : List (ByteArray × Bool)}, SrA ab mb lb ob fb mm a p n c cur ps5 A5 → St h0 h5 (A5 + (cA b1 [.int .i64 k, .slice sp sn sc] 24 + F)) → Grew k l (setk ps (kyS m rows) true) ps5 → (∀ o, ¬ Lin k l (i :: o) m.testBit rows) →
        zaz_b2 (m : Int) (some ⟨lb, 0, none⟩) (some ⟨ob, 0, none⟩) (some ⟨fb, 0, none⟩) (some ⟨b1, 0, none⟩) p n c (n : Int) (i : Int) h5 (fun s' h' => (∃ (i : Nat) (A : Bag) (ps' : List (ByteArray × Bool)), s'.1 = (i : Int) ∧ i ≤ n ∧ SrA ab mb lb ob fb mm a p n c cur ps' A ∧ St h0 h' (A + (cA b1 [.int .i64 k, .slice sp sn sc] 24 + F)) ∧ Grew k l (setk ps (kyS m rows) true) ps' ∧ ∀ j, j < i → ∀ o, ¬ Lin k l (j :: o) m.testBit rows) ∧ n - s'.1.toNat < n - ((i : Nat) : Int).toNat) (FromP h0 k l ab mb lb ob fb mm a p n c m rows cur ps F) := fun sa5 s5 g5 hno5 => by
      rw [zaz_b2]
      refine ⟨⟨by omega, by omega⟩, ⟨i + 1, _, _, by push_cast; rfl, by omega, sa5, s5, g5, fun j hj o => ?_⟩, by simp only; omega⟩
      rcases Nat.lt_or_ge j i with h | h
      · exact i4 j h o
      · obtain rfl : j = i := by omega
        exact hno5 o
    generalize hnx : (fun (s' : Int × Unit) (h' : Hp) => (∃ (i : Nat) (A : Bag) (ps' : List (ByteArray × Bool)), s'.1 = (i : Int) ∧ i ≤ n ∧ SrA ab mb lb ob fb mm a p n c cur ps' A ∧ St h0 h' (A + (cA b1 [.int .i64 k, .slice sp sn sc] 24 + F)) ∧ Grew k l (setk ps (kyS m rows) true) ps' ∧ ∀ j, j < i → ∀ o, ¬ Lin k l (j :: o) m.testBit rows) ∧ n - s'.1.toNat < n - ((i : Nat) : Int).toNat) = nx at skip ⊢
    clear hnx
    refine (r.ext s4.ext).cp s4 rfl hi fun b2 h5 _ s5 => maskB (by omega) (by omega) ?_
    refine condP (fun hb => skip ⟨q, d, Ao, Am, rfl, oo, ma⟩ s5.drop g4 fun o ho => ?_) (fun hb => ?_)
    · have := ho.2.1.1
      rw [yaur.1 hb] at this; cases this
    have hb0 : m.testBit i = false := by
      cases hc : m.testBit i with
      | false => rfl
      | true => exact absurd (yaur.2 hc) hb
    refine yaap rfl ⟨_, _, _, s5.ld0, ldEvB s5.blk ?_⟩
    refine (yaxd (r.ext s5.ext) (by omega) (by omega)).mono fun v5 h6 ⟨⟨bf, hv5, hbf⟩, x6⟩ => ⟨_, hv5, ?_⟩
    have s6 := s5.grow x6
    refine yaar (fun hf => skip ⟨q, d, Ao, Am, rfl, oo, ma⟩ s6.drop g4 fun o ho => ?_) (fun hf => ?_)
    · have := hbf.2 fun j hj hd => ho.2.1.2 j (by omega) hd
      rw [this] at hf; cases hf
    have hnxt : Nxt l m.testBit i := ⟨hb0, fun j hj hd => hbf.1 (by simpa using hf) j (by omega) hd⟩
    rw [zaz_b3]
    refine yaap rfl ⟨_, _, _, _, s6.ld0, s6.ldB, yaap rfl ⟨_, _, _, _, s6.blk.cell 1, s6.blk.cell 2, ?_⟩⟩
    have em := r.at_ hi
    have hz := (sm _ hmem).1
    have hzl := em.1.1.len
    have rr6 := rs.u3 s6
    refine (ko.ap ok hov rr6 (em.1.1.ext s6.ext) em.1.2 (by omega)).mono fun v6 h7 ⟨q7, m7, d7, B7, hv6, na7, t7⟩ => ⟨_, _, _, _, _, _, _, _, _, _, hv6, ?_⟩
    have s7 := s6.join t7
    rw [Bag.add_zero] at s7
    refine s7.new (cs := [.int .i64 0, .slice none 0 0]) fun b3 h8 _ s8 => s8.new (cs := [.int .i64 0, .int .i64 0, .slice none 0 0]) fun b4 h9 _ s9 => ?_
    refine s9.wr0 fun h10 s10 => s10.wrB fun h11 s11 => s11.wr0 fun h12 s12 => s12.wrB fun h13 s13 => s13.wrB fun h14 s14 => yaat rfl ?_
    have s14 : St h0 h14 (cA b4 [.int .i64 (stepR k rows (l.getD i dEv).t.co (l.getD i dEv).zs).2.1, .int .i64 (stepR k rows (l.getD i dEv).t.co (l.getD i dEv).zs).2.2, .slice none 0 0] 58 + (cA b3 [.int .i64 k, .slice q7 m7 d7] 24 + (B7 + (cA b2 (evC (l.getD i dEv).t) 60 + ((cA ab [.int .i64 (a : Int)] 3 + (cA mb [.map (some mm)] 107 + (cA lb [.slice p n c] 25 + (cA ob [.slice q cur.length d] 29 +
      (cA fb [.func (.func 66) #[] #[ptr ab, ptr mb, ptr lb, ptr ob, ptr fb]] 108 + (Ao + Am)))))) + (cA b1 [.int .i64 k, .slice sp sn sc] 24 + F)))))) := s14.to
    have fin : ∀ h', Ext h14 h' → stepE k rows (l.getD i dEv) = some (stepR k rows (l.getD i dEv).t.co (l.getD i dEv).zs).1 →
        zaz_b5 (m : Int) (some ⟨lb, 0, none⟩) (some ⟨ob, 0, none⟩) (some ⟨fb, 0, none⟩) (some ⟨b1, 0, none⟩) (i : Int) (some ⟨b3, 0, none⟩) p n c (n : Int) (i : Int) h' nx (FromP h0 k l ab mb lb ob fb mm a p n c m rows cur ps F) := fun h' x' hst => by
      have t := s14.grow x'
      rw [zaz_b5]
      refine yaap rfl ⟨_, _, _, t.ld0, ?_⟩
      have t1 : St h0 h' (Ao + (cA b4 [.int .i64 (stepR k rows (l.getD i dEv).t.co (l.getD i dEv).zs).2.1, .int .i64 (stepR k rows (l.getD i dEv).t.co (l.getD i dEv).zs).2.2, .slice none 0 0] 58 + (cA b3 [.int .i64 k, .slice q7 m7 d7] 24 + (B7 + (cA b2 (evC (l.getD i dEv).t) 60 + ((cA ab [.int .i64 (a : Int)] 3 + (cA mb [.map (some mm)] 107 + (cA lb [.slice p n c] 25 + (cA ob [.slice q cur.length d] 29 +
        (cA fb [.func (.func 66) #[] #[ptr ab, ptr mb, ptr lb, ptr ob, ptr fb]] 108 + Am))))) + (cA b1 [.int .i64 k, .slice sp sn sc] 24 + F))))))) := t.to
      refine yajz yagz t1 oo (x := (i : Int)) rfl rfl (by omega) fun q' d' h8 Ao' oo' t8 => yaap rfl (t8.wr0 fun h9 t9 => yaap rfl ⟨_, t9.ld0, ?_⟩)
      refine maskS (by omega) (by omega) (yaap rfl ⟨_, _, _, _, t9.ld0, t9.ldB, ?_⟩)
      have e1 : (cur ++ [i]).length = cur.length + 1 := by simp
      have t9 : St h0 h9 ((cA ab [.int .i64 (a : Int)] 3 + (cA mb [.map (some mm)] 107 + (cA lb [.slice p n c] 25 + (cA ob [.slice q' (cur.length + 1) d'] 29 +
        (cA fb [.func (.func 66) #[] #[ptr ab, ptr mb, ptr lb, ptr ob, ptr fb]] 108 + (Ao' + Am)))))) +
        ((cA b4 [.int .i64 (stepR k rows (l.getD i dEv).t.co (l.getD i dEv).zs).2.1, .int .i64 (stepR k rows (l.getD i dEv).t.co (l.getD i dEv).zs).2.2, .slice none 0 0] 58 + (cA b3 [.int .i64 k, .slice q7 m7 d7] 24 + (B7 + cA b2 (evC (l.getD i dEv).t) 60))) + (cA b1 [.int .i64 k, .slice sp sn sc] 24 + F))) := t9.to
      have sa9 : SrA ab mb lb ob fb mm a p n c (cur ++ [i]) ps4 (cA ab [.int .i64 (a : Int)] 3 + (cA mb [.map (some mm)] 107 + (cA lb [.slice p n c] 25 + (cA ob [.slice q' (cur.length + 1) d'] 29 +
        (cA fb [.func (.func 66) #[] #[ptr ab, ptr mb, ptr lb, ptr ob, ptr fb]] 108 + (Ao' + Am)))))) := ⟨q', d', Ao', Am, by rw [e1], by rw [e1, yakp]; exact oo', ma⟩
      have hlf := yaxv hi hb0
      rw [← yahu] at hlf
      have rs9 : RowsS h0 ((cA b4 [.int .i64 (stepR k rows (l.getD i dEv).t.co (l.getD i dEv).zs).2.1, .int .i64 (stepR k rows (l.getD i dEv).t.co (l.getD i dEv).zs).2.2, .slice none 0 0] 58 + (cA b3 [.int .i64 k, .slice q7 m7 d7] 24 + (B7 + cA b2 (evC (l.getD i dEv).t) 60))) + (cA b1 [.int .i64 k, .slice sp sn sc] 24 + F)) q7 m7 (stepR k rows (l.getD i dEv).t.co (l.getD i dEv).zs).1 := fun h2 B2 s2 => yakx (G := B2 + ((cA b4 [.int .i64 (stepR k rows (l.getD i dEv).t.co (l.getD i dEv).zs).2.1, .int .i64 (stepR k rows (l.getD i dEv).t.co (l.getD i dEv).zs).2.2, .slice none 0 0] 58 + (cA b3 [.int .i64 k, .slice q7 m7 d7] 24 + cA b2 (evC (l.getD i dEv).t) 60)) + (cA b1 [.int .i64 k, .slice sp sn sc] 24 + F))) na7 s2.to
      have hm9 : m ||| 2 ^ i < 2 ^ n := ybao hm hi
      refine yagl (args' := #[.int .i64 ((m ||| 2 ^ i : Nat) : Int), .agg #[.int .i64 k, .slice q7 m7 d7], ptr ab, ptr mb, ptr lb, ptr ob, ptr fb]) (by kernel_rfl) ((ih (m ||| 2 ^ i) _ (cur ++ [i]) ps4 h9 _ _ q7 m7 d7 (by omega) hm9 (ko.st ok hov) rs9 (by rw [e1]; omega) (g4.memo (yaxb hmemo (by rw [hl]) (by omega))) sa9 t9).mono ?_) rfl
      rintro v10 h28 ⟨bb, A10, cur10, ps10, hv10, sa10, t10, ht10, hf10⟩
      refine ⟨_, hv10, yaar (fun hb => ?_) (fun hb => ?_)⟩
      · obtain ⟨o, ho1, ho2⟩ := ht10 hb
        refine ⟨true, A10, cur10, ps10, rfl, sa10, stMid (stMid t10), fun _ => ⟨i :: o, by rw [ho1, List.append_assoc]; rfl, by omega, hnxt, _, hst, ?_⟩, fun h => (by cases h)⟩
        rw [← yahu]
        exact ho2
      · obtain ⟨rfl, hg10, hfl⟩ := hf10 hb
        obtain ⟨q11, d11, Ao11, Am11, rfl, oo11, ma11⟩ := sa10
        rw [e1] at t10 oo11
        refine yaap rfl ⟨_, _, _, t10.ld0, yaap rfl ⟨_, _, _, t10.ld0, ⟨by omega, by omega⟩, ⟨Int.le_refl _, by omega, by have := oo11.cap; omega⟩, yaap rfl ?_⟩⟩
        rw [show Int.toNat (0 : Int) = 0 from rfl, yaeg, Nat.sub_zero, Nat.sub_zero, show Int.toNat (((cur.length + 1 : Nat) : Int) - 1) = cur.length by omega]
        refine t10.wr0 fun h29 t29 => ?_
        have oo29 := oo11.take (i := cur.length) (by omega)
        rw [yakp, List.take_left' (by simp)] at oo29
        have t29 : St h0 h29 ((cA ab [.int .i64 (a : Int)] 3 + (cA mb [.map (some mm)] 107 + (cA lb [.slice p n c] 25 + (cA ob [.slice q11 cur.length d11] 29 +
          (cA fb [.func (.func 66) #[] #[ptr ab, ptr mb, ptr lb, ptr ob, ptr fb]] 108 + (Ao11 + Am11)))))) + ((cA b4 [.int .i64 (stepR k rows (l.getD i dEv).t.co (l.getD i dEv).zs).2.1, .int .i64 (stepR k rows (l.getD i dEv).t.co (l.getD i dEv).zs).2.2, .slice none 0 0] 58 + (cA b3 [.int .i64 k, .slice q7 m7 d7] 24 + (B7 + cA b2 (evC (l.getD i dEv).t) 60))) + (cA b1 [.int .i64 k, .slice sp sn sc] 24 + F))) := t29.to
        refine skip ⟨q11, d11, Ao11, Am11, rfl, oo29, ma11⟩ (stMid t29) (g4.trans hg10) fun o ho => hfl ⟨o, ?_⟩
        obtain ⟨_, _, r', h1, h2⟩ := ho
        rw [hst] at h1
        cases h1
        rw [yahu]
        exact h2
    have no : ∀ h', Ext h14 h' → stepE k rows (l.getD i dEv) = none → zaz_b2 (m : Int) (some ⟨lb, 0, none⟩) (some ⟨ob, 0, none⟩) (some ⟨fb, 0, none⟩) (some ⟨b1, 0, none⟩) p n c (n : Int) (i : Int) h' nx (FromP h0 k l ab mb lb ob fb mm a p n c m rows cur ps F) := fun h' x' hst =>
      skip ⟨q, d, Ao, Am, rfl, oo, ma⟩ (s14.grow x').drop.drop.drop.drop g4 fun o ho => by
        obtain ⟨_, _, r', h1, _⟩ := ho
        rw [hst] at h1; cases h1
    have k2 : Blk h14 b2 (evC (l.getD i dEv).t) 60 := (s14.find b2).blk
    refine yaap rfl (ldEvB k2 ((yacv _ _).mono fun v7 h23 ⟨hv7, x23⟩ => ⟨_, hv7, ?_⟩))
    have s23 := s14.grow x23
    refine condP (fun hc => ⟨_, _, _, _, _, s23.ld0, s23.ldB, s23.ldB, yaap rfl ⟨_, _, _, _, _, (k2.ext x23).cell 3, (k2.ext x23).cell 4, (k2.ext x23).cell 5, ?_⟩⟩) (fun hc => fin h23 x23 (if_neg fun h => hc h.1))
    refine (yalg (RdT.nil _ none) (em.2.1.ext s23.ext) (Nat.zero_le _)).mono fun v8 h24 ⟨hv8, x24⟩ => ⟨_, hv8, condN (fun hne => no h24 (x23.trans x24) (if_pos ⟨hc, fun h => hne ⟨h.1, h.2.1, h.2.2.symm⟩⟩)) (fun heq => fin h24 (x23.trans x24) (if_neg fun h => h.2 ⟨heq.1, heq.2.1, heq.2.2.symm⟩))⟩
end
abbrev D0 : Nat → Bool := fun _ => false
theorem tb0 : Nat.testBit 0 = D0 := by funext i; exact Nat.zero_testBit i
section
variable {h : Hp} {p : OA} {n c : Nat} {l : List Ev} {k : Int} {sp : OA} {sn sc : Nat} {rows : Rows}
def SrP (k : Int) (l : List Ev) (rows : Rows) (h : Hp) (bb : Bool) (q : OA) (m d : Nat) (h' : Hp) : Prop :=
  (bb = true ∧ ∃ A o, m = o.length ∧ Sl TI q m d (natI o) A ∧ St h h' A ∧ Lin k l o D0 rows) ∨ (bb = false ∧ q = none ∧ m = 0 ∧ d = 0 ∧ Ext h h' ∧ ∀ o, ¬ Lin k l o D0 rows)
theorem yait (ko : KindOk k) (tab : Tab10 h) (r : EvsR h p n l) (hn : n ≤ 14) (sm : Sm l) (hk : KindP k l) (ok : OkR k rows) (rr : RowsR h sp sn rows) :
    yaae Tryz.prog 36 #[.agg #[.int .i64 k, .slice sp sn sc], .slice p n c] h (fun v h' => ∃ bb q m d, v = .tuple #[.bool bb, .slice q m d] ∧ SrP k l rows h bb q m d h') := by
  have hl := r.len
  refine zay_call ?_
  rw [zay_b0]
  refine (St.start h).new (cs := [.int .i64 k, .slice sp sn sc]) fun b1 h1 _ s => s.new (cs := [.slice p n c]) fun b2 h2 _ s => s.new (cs := [.int .i64 0]) fun b3 h3 _ s => s.wr0 fun h4 s => ?_
  refine ⟨_, _, _, s.ld0, ?_⟩
  have s4 : St h h4 (cA b3 [.int .i64 ((0 : Nat) : Int)] 3 + (cA b2 [.slice p n c] 25 + (cA b1 [.int .i64 k, .slice sp sn sc] 24 + 0))) := s
  refine ⟨fun x h' => ∃ i a : Nat, x.1 = (i : Int) ∧ i ≤ n ∧ AllM l i a ∧ St h h' (cA b3 [.int .i64 (a : Int)] 3 + (cA b2 [.slice p n c] 25 + (cA b1 [.int .i64 k, .slice sp sn sc] 24 + 0))), fun x _ => n - x.1.toNat, ⟨0, 0, rfl, by omega, yatx, s4⟩, ?_⟩
  rintro ⟨_, _⟩ h5 ⟨i, a, rfl, hin, hall, s5⟩
  dsimp only
  rw [zay_b1]
  refine condP (fun hlt => ?_) (fun hge => ?_)
  · have h2i : 2 ^ i ≤ 2 ^ 14 := Nat.pow_le_pow_right (by decide) (by omega)
    have ha := yaut hall
    refine (r.ext s5.ext).cp s5 rfl (by omega) fun b4 h6 _ s6 => ldEvB s6.blk ((yacv _ _).mono fun v h7 ⟨hv, x7⟩ => ⟨_, hv, ?_⟩)
    have s7 := (s6.grow x7).drop
    refine condP (fun hc => ?_) (fun hc => ?_)
    · refine yaap rfl ⟨_, s7.ld0, maskS (by omega) (by omega) (yaap rfl (s7.wr0 fun h8 s8 => ?_))⟩
      rw [zay_b2]
      exact ⟨⟨by omega, by omega⟩, ⟨i + 1, _, by push_cast; rfl, by omega, yaxm hall hc, s8⟩, by simp only; omega⟩
    · rw [zay_b2]
      exact ⟨⟨by omega, by omega⟩, ⟨i + 1, a, by push_cast; rfl, by omega, ybax hall hc, s7⟩, by simp only; omega⟩
  · obtain rfl : i = n := by omega
    rw [← hl] at hall
    rw [zay_b3]
    refine s5.newMap MS fun mm h6 Am _ ma s6 => s6.new (cs := [.map none]) fun mb h7 _ s7 => s7.wr0 fun h8 s8 => s8.new (cs := [.slice none 0 0]) fun ob h9 _ s9 => s9.new (cs := [.nilFunc]) fun fb h10 _ s10 => s10.wr0 fun h11 s11 => ?_
    refine ⟨_, s11.ld0, yaap rfl ⟨_, _, _, _, s11.ld0, s11.ldB, ?_⟩⟩
    have s11 : St h h11 ((cA b3 [.int .i64 (a : Int)] 3 + (cA mb [.map (some mm)] 107 + (cA b2 [.slice p i c] 25 + (cA ob [.slice none ([] : List Nat).length 0] 29 +
      (cA fb [.func (.func 66) #[] #[ptr b3, ptr mb, ptr b2, ptr ob, ptr fb]] 108 + (0 + Am)))))) + (cA b1 [.int .i64 k, .slice sp sn sc] 24 + 0)) := s11.to (by simp only [Bag.zero_add, List.length_nil]; ac_rfl)
    have hz : lft i (Nat.testBit 0) = i := yawh
    refine yagl (args' := #[.int .i64 ((0 : Nat) : Int), .agg #[.int .i64 k, .slice sp sn sc], ptr b3, ptr mb, ptr b2, ptr ob, ptr fb]) (by kernel_rfl) ((yazh ko tab r hn sm hk hall (i + 1) 0 rows [] [] h11 _ _ sp sn sc (by omega) (Nat.two_pow_pos _) ok (fun h' B s => rr.ext s.ext) (by rw [hz]; simp) (fun e he => nomatch he) ⟨none, 0, 0, Am, rfl, Sl.nil, ma⟩ s11).mono ?_) rfl
    rintro v h12 ⟨bb, A, cur, ps, hv, sa, s12, ht, hf⟩
    refine ⟨_, hv, ?_⟩
    rw [tb0] at ht
    cases bb with
    | true =>
      obtain ⟨o, ho1, ho2⟩ := ht rfl
      rw [List.nil_append] at ho1
      subst ho1
      obtain ⟨q, d, Ao, Am', rfl, oo, _⟩ := sa
      refine yaat rfl ⟨_, _, _, s12.ld0, true, q, cur.length, d, rfl, .inl ⟨rfl, Ao, cur, rfl, oo, ?_, ho2⟩⟩
      have := (s12.to (B := (cA b3 [.int .i64 (a : Int)] 3 + (cA mb [.map (some mm)] 107 + (cA b2 [.slice p i c] 25 + (cA ob [.slice q cur.length d] 29 +
        (cA fb [.func (.func 66) #[] #[ptr b3, ptr mb, ptr b2, ptr ob, ptr fb]] 108 + (Am' + (cA b1 [.int .i64 k, .slice sp sn sc] 24 + 0))))))) + Ao)).drop
      exact this
    | false =>
      obtain ⟨_, _, hfl⟩ := hf rfl
      refine yaaw rfl ⟨false, none, 0, 0, rfl, .inr ⟨rfl, rfl, rfl, rfl, s12.ext, fun o ho => hfl ⟨o, ?_⟩⟩⟩
      rw [tb0]
      exact ho
def ChkP (k : Int) (l : List Ev) (rows : Rows) (most : Int) (h : Hp) (v : Value) (h' : Hp) : Prop :=
  ∃ bb q m d e, v = .tuple #[.bool bb, .slice q m d, .int .i64 e] ∧ givE l rows k most e ∧ ((e ≠ 0 ∧ bb = false ∧ m = 0 ∧ Ext h h') ∨ (e = 0 ∧ SrP k l rows h bb q m d h'))
theorem SrP.base {h h1 h' : Hp} {bb : Bool} {q : OA} {m d : Nat} (s : SrP k l rows h1 bb q m d h') (x : Ext h h1) : SrP k l rows h bb q m d h' := by
  rcases s with ⟨h1, A, o, h2, h3, h4, h5⟩ | ⟨h1, h2, h3, h4, h5, h6⟩
  · exact .inl ⟨h1, A, o, h2, h3, h4.base x, h5⟩
  · exact .inr ⟨h1, h2, h3, h4, x.trans h5, h6⟩
theorem SrP.ext {h h' : Hp} {bb : Bool} {q : OA} {m d : Nat} (s : SrP k l rows h bb q m d h') : Ext h h' := by
  rcases s with ⟨_, _, _, _, _, s, _⟩ | ⟨_, _, _, _, x, _⟩
  · exact s.ext
  · exact x
theorem yaqk {most : Int} (ko : KindOk k) (tab : Tab10 h) (r : EvsR h p n l) (sm : Sm l) (rr : RowsR h sp sn rows) (hr : ∀ r ∈ rows, r.length ≤ 1000) :
    yaae Tryz.prog 10 #[.agg #[.int .i64 k, .slice sp sn sc], .slice p n c, .int .i64 most] h (ChkP k l rows most h) := by
  have hl := r.len
  refine zak_call ?_
  rw [zak_b0]
  refine (St.start h).new (cs := [.int .i64 k, .slice sp sn sc]) fun b1 h1 _ s => ⟨_, _, _, _, s.ld0, s.ldB, ?_⟩
  refine (yard ko.va (r.ext s.ext) sm (rr.ext s.ext) hr).mono fun v h2 ⟨e, hv, hg, x2⟩ => ⟨_, hv, ?_⟩
  have s2 := s.grow x2
  refine condN (fun hne => ⟨false, none, 0, 0, e, rfl, hg, .inl ⟨hne, rfl, rfl, s2.ext⟩⟩) (fun he => ⟨_, _, _, _, s2.ld0, s2.ldB, ?_⟩)
  subst he
  have hg' := hg
  rcases hg' with ⟨_, h0⟩ | ⟨⟨ok, hv, hk⟩, ⟨_, h0⟩ | ⟨hm, ⟨_, h0⟩ | ⟨hlen, _⟩⟩⟩
  · cases h0
  · cases h0
  · cases h0
  refine (yait ko (tab.ext s2.ext) (r.ext s2.ext) (by omega) sm hk ok (rr.ext s2.ext)).mono fun v h3 ⟨bb, q, m, d, hv3, hs⟩ => ⟨_, _, _, _, hv3, bb, q, m, d, 0, rfl, hg, .inr ⟨rfl, hs.base s2.ext⟩⟩
end
abbrev del (iv : Int) (xs : List Int) : List Int := xs.filter fun z => decide (z ≠ iv)
abbrev isV (ib : Nat) : Value := .func (.func 63) #[] #[ptr ib]
theorem yayz {ib : Nat} {iv z : Int} {h : Hp} (hc : cell h ⟨ib, 0, none⟩ = some (.int .i64 iv)) : yaae Tryz.prog 63 #[.int .i64 z, ptr ib] h (fun v h' => v = .bool (decide (z = iv)) ∧ h' = h) := by
  refine zam_call ?_
  rw [zam_b0]
  exact yaap rfl ⟨_, hc, rfl, rfl⟩
theorem ybbd {ib : Nat} {iv : Int} {h : Hp} {p : OA} {n c : Nat} {xs : List Int} (hc : cell h ⟨ib, 0, none⟩ = some (.int .i64 iv)) (r : RdT TI h p n xs) (hn : n ≤ 1000000) :
    yaae Tryz.prog 98 #[.slice p n c, isV ib] h (fun v h' => h' = h ∧ ∃ x : Int, v = .int .i64 x ∧ ((x = -1 ∧ ∀ z ∈ xs, z ≠ iv) ∨ ∃ i : Nat, i < n ∧ x = (i : Int) ∧ xs.getD i 0 = iv ∧ ∀ z ∈ xs.take i, z ≠ iv)) := by
  have hl := r.len
  refine zdw_call ?_
  rw [zdw_b0]
  refine ⟨fun s h' => h' = h ∧ ∃ i : Nat, s.1 = i ∧ i ≤ n ∧ ∀ z ∈ xs.take i, z ≠ iv, fun s _ => n - s.1.toNat, ⟨rfl, 0, rfl, by omega, fun z hz => by simp at hz⟩, ?_⟩
  rintro ⟨_, _⟩ h1 ⟨rfl, i, rfl, hin, hno⟩
  dsimp only
  rw [zdw_b1]
  refine condP (fun hlt => ?_) (fun hge => ?_)
  · have hi : i < xs.length := by omega
    refine ldI r rfl (by omega) (yagl (args' := #[.int .i64 (xs.getD i 0), ptr ib]) (by kernel_rfl) ((yayz (iv := iv) hc).mono fun v h2 ⟨hv, hh⟩ => ⟨_, hv, ?_⟩) rfl)
    subst hh
    refine condP (fun hy => ⟨rfl, _, rfl, .inr ⟨i, by omega, rfl, hy, hno⟩⟩) (fun hy => ?_)
    rw [zdw_b2]
    refine ⟨⟨by omega, by omega⟩, ⟨rfl, i + 1, by simp only; omega, by omega, fun z hz => ?_⟩, by simp only; omega⟩
    rw [List.take_succ_eq_append_getElem hi] at hz
    rcases List.mem_append.1 hz with hz | hz
    · exact hno z hz
    · rw [List.mem_singleton.1 hz, ← yaac (d := 0) hi]; exact hy
  · rw [zdw_b3]
    rw [List.take_of_length_le (by omega)] at hno
    exact ⟨rfl, _, rfl, .inl ⟨rfl, hno⟩⟩
theorem yapr {h0 h : Hp} {ib : Nat} {iv : Int} {p : OA} {n c : Nat} {xs : List Int} {A G : Bag} {e : TypeId} (s : St h0 h (A + (cA ib [.int .i64 iv] e + G))) (a : Sl TI p n c xs A) (hn : n ≤ 1000000) :
    yaae Tryz.prog 61 #[.slice p n c, isV ib] h (fun v h' => ∃ m A', v = .slice p m c ∧ Sl TI p m c (del iv xs) A' ∧ St h0 h' (A' + (cA ib [.int .i64 iv] e + G))) := by
  have hl := a.len
  have hcap := a.cap
  refine zds_call ?_
  rw [zds_b0]
  refine (ybbd (iv := iv) s.ld0 (a.rd s) hn).mono fun v h1 ⟨hh, x, hv, hx⟩ => ⟨_, hv, ?_⟩
  subst hh
  rcases hx with ⟨rfl, hno⟩ | ⟨i, hi, rfl, hiv, hno⟩
  · refine yaaw rfl ⟨n, A, rfl, ?_, s⟩
    rw [show del iv xs = xs from List.filter_eq_self.2 fun z hz => decide_eq_true (hno z hz)]
    exact a
  refine yaat (decide_eq_false (by omega)) ⟨⟨by omega, by omega⟩, ?_⟩
  refine ⟨fun x h' => ∃ (i j : Nat) (ys : List Int) (A : Bag), x.1 = (i : Int) ∧ x.2.1 = (j : Int) ∧ i < j ∧ j ≤ n ∧ ys.take i = del iv (xs.take j) ∧ ys.drop j = xs.drop j ∧ Sl TI p n c ys A ∧ St h0 h' (A + (cA ib [.int .i64 iv] e + G)), fun x _ => n - x.2.1.toNat,
    ⟨i, i + 1, xs, A, rfl, by push_cast; rfl, by omega, by omega, ?_, rfl, a, s⟩, ?_⟩
  · rw [List.take_succ_eq_append_getElem (by omega)]
    unfold del
    rw [List.filter_append, List.filter_eq_self.2 fun z hz => decide_eq_true (hno z hz)]
    rw [yaac (by omega)] at hiv
    simp [hiv]
  rintro ⟨_, _, _⟩ h2 ⟨i, j, ys, A, rfl, rfl, hij, hj, hy1, hy2, a, s⟩
  dsimp only
  have hyl := a.len
  rw [zds_b1]
  refine condP (fun hlt => ?_) (fun hge => ?_)
  · have hj' : j < n := by omega
    have hz : ys.getD j 0 = xs.getD j 0 := by
      have : (ys.drop j).getD 0 0 = (xs.drop j).getD 0 0 := by rw [hy2]
      simpa [List.getD] using this
    have hd : ys.drop (j + 1) = xs.drop (j + 1) := by
      have : (ys.drop j).drop 1 = (xs.drop j).drop 1 := by rw [hy2]
      simpa using this
    refine ldI (a.rd s) rfl hj' (yagl (args' := #[.int .i64 (ys.getD j 0), ptr ib]) (by kernel_rfl) ((yayz (iv := iv) s.ld0).mono fun v h3 ⟨hv, hh⟩ => ⟨_, hv, ?_⟩) rfl)
    subst hh
    rw [hz]
    refine condN (fun hne => ?_) (fun heq => ?_)
    · refine Sl.wrI a s (by omega) (by omega) rfl (x := xs.getD j 0) rfl fun h4 A4 a4 s4 => ⟨⟨by omega, by omega⟩, ?_⟩
      rw [zds_b2]
      refine ⟨⟨by omega, by omega⟩, ⟨i + 1, j + 1, _, A4, by push_cast; rfl, by push_cast; rfl, by omega, by omega, ?_, ?_, a4, s4⟩, by simp only; omega⟩
      · rw [Int.toNat_natCast, List.set_eq_take_append_cons_drop, if_pos (by omega), show ys.take i ++ xs.getD j 0 :: ys.drop (i + 1) = (ys.take i ++ [xs.getD j 0]) ++ ys.drop (i + 1) by simp, List.take_left' (by rw [List.length_append, List.length_take, List.length_singleton]; omega),
          show xs.take (j + 1) = xs.take j ++ [xs.getD j 0] by rw [yaac (by omega)]; exact List.take_succ_eq_append_getElem (by omega)]
        unfold del at hy1 ⊢
        rw [List.filter_append, ← hy1]
        congr 1
        have : decide (xs.getD j 0 ≠ iv) = true := decide_eq_true hne
        unfold List.filter
        simp only [this, List.filter_nil]
      · rw [Int.toNat_natCast, List.drop_set_of_lt (by omega), hd]
    · rw [zds_b2]
      refine ⟨⟨by omega, by omega⟩, ⟨i, j + 1, ys, A, rfl, by push_cast; rfl, by omega, by omega, ?_, hd, a, s⟩, by simp only; omega⟩
      rw [hy1, List.take_succ_eq_append_getElem (by omega)]
      unfold del
      rw [List.filter_append]
      rw [yaac (by omega)] at heq
      simp [heq]
  · obtain rfl : j = n := by omega
    rw [zds_b3]
    refine ⟨⟨by omega, by omega, by omega⟩, ?_⟩
    rw [Int.toNat_natCast, Int.toNat_natCast]
    refine yaru yagz a s (by omega) fun h3 A3 a3 s3 => ⟨⟨by omega, by omega, by omega⟩, ?_⟩
    rw [show Int.toNat (0 : Int) = 0 from rfl, yaeg, Nat.sub_zero, Nat.sub_zero]
    rw [hy1, List.take_of_length_le (by omega)] at a3
    exact ⟨i, A3, rfl, a3, s3⟩
def mval (h : Hp) (p : OA) : Nat := match p with
  | some a => match cell h a with | some (.int _ z) => (z + 1).toNat | _ => 0
  | none => 0
theorem yaus {h : Hp} {a : Addr} {z : Int} (hc : cell h a = some (.int .i64 z)) : mval h (some a) = (z + 1).toNat := by unfold mval; simp only; rw [hc]
theorem yaom {h : Hp} {p : OA} {c : Nat} {e0 e1 : Ev} {k : Int} {sp : OA} {sn sc : Nat} {rows : Rows} (ko : KindOk k) (tab : Tab10 h) (r : EvsR h p 2 [e0, e1]) (sm : Sm [e0, e1]) (ok : OkR k rows) (hv : yafa [e0, e1]) (hk : KindP k [e0, e1]) (rr : RowsR h sp sn rows) (hr : ∀ r ∈ rows, r.length ≤ 1000)
    (hno : ∀ o, ¬ Lin k [e0, e1] o D0 rows) (h0 : ∃ o, Lin k [e0] o D0 rows) (h1 : ∃ o, Lin k [e1] o D0 rows) :
    yaae Tryz.prog 28 #[.agg #[.int .i64 k, .slice sp sn sc], .slice p 2 c, .int .i64 5] h (fun v h' => ∃ q d A, v = .tuple #[.slice q 2 d, .int .i64 0] ∧ Sl TI q 2 d [0, 1] A ∧ St h h' A) := by
  refine zal_call ?_
  rw [zal_b0]
  refine (St.start h).new (cs := [.int .i64 k, .slice sp sn sc]) fun b1 g1 _ s => ⟨_, _, _, _, s.ld0, s.ldB, ?_⟩
  refine (yard ko.va (r.ext s.ext) sm (rr.ext s.ext) hr).mono fun v g2 ⟨e, hv2, hg, x2⟩ => ⟨_, hv2, ?_⟩
  have he : e = 0 := by
    rcases hg with ⟨hn, _⟩ | ⟨_, ⟨hm, _⟩ | ⟨_, ⟨hm, _⟩ | ⟨_, he⟩⟩⟩
    · exact absurd ⟨ok, hv, hk⟩ hn
    · omega
    · simp at hm
    · exact he
  subst he
  have s2 := s.grow x2
  refine yaat rfl ⟨_, _, _, _, s2.ld0, s2.ldB, ?_⟩
  refine (yait ko (tab.ext s2.ext) (r.ext s2.ext) (by decide) sm hk ok (rr.ext s2.ext)).mono fun v g3 ⟨bb, q3, m3, d3, hv3, hs⟩ => ⟨_, _, _, _, hv3, ?_⟩
  have s3 := s2.grow hs.ext
  rcases hs with ⟨_, _, o, _, _, _, ho⟩ | ⟨rfl, _⟩
  · exact absurd ho (hno o)
  refine yaat rfl ?_
  clear s s2
  refine ⟨fun x h' => ∃ (i : Nat) (A : Bag), x.2.1 = (i : Int) ∧ i ≤ 2 ∧ Sl TI x.1.1 x.1.2.1 x.1.2.2 (natI (List.range i)) A ∧ St h h' (A + (cA b1 [.int .i64 k, .slice sp sn sc] 24 + 0)), fun x _ => 2 - x.2.1.toNat, ⟨0, 0, rfl, by omega, Sl.nil, by rw [Bag.zero_add]; exact s3⟩, ?_⟩
  rintro ⟨⟨q, m, d⟩, _, _⟩ g4 ⟨i, A, rfl, hi, o4, s4⟩
  dsimp only at o4 ⊢
  have hm4 := o4.len
  rw [List.length_map, List.length_range] at hm4
  rw [zal_b1]
  refine condP (fun hlt => ?_) (fun hge => ?_)
  · refine yajz yagz s4 o4 (x := (i : Int)) rfl rfl (by omega) fun q5 d5 g5 A5 o5 s5 => ?_
    rw [zal_b2]
    exact ⟨⟨by omega, by omega⟩, ⟨i + 1, A5, by push_cast; rfl, by omega, by rw [List.range_succ, yakp]; exact o5, s5⟩, by simp only; omega⟩
  obtain rfl : i = 2 := by omega
  subst hm4
  rw [zal_b3]
  refine ⟨⟨by decide, by decide⟩, ?_⟩
  have o4 : Sl TI q 2 d [0, 1] A := o4
  clear hge
  refine ⟨fun x h' => ∃ A : Bag, (x.2.1 = 3 ∨ x.2.1 = 2) ∧ x.1.2.1 = 2 ∧ Sl TI x.1.1 2 x.1.2.2 [0, 1] A ∧ St h h' (A + (cA b1 [.int .i64 k, .slice sp sn sc] 24 + 0)), fun x _ => x.2.1.toNat, ⟨A, .inl rfl, rfl, o4, s4⟩, ?_⟩
  clear o4 s4
  rintro ⟨⟨q, m, d⟩, nv, _⟩ g5 ⟨A, hnv, rfl, o5, s5⟩
  dsimp only at hnv o5 ⊢
  rw [zal_b4]
  refine condP (fun hlt => ⟨⟨by decide, by decide⟩, ?_⟩) (fun hge => ?_)
  rotate_left
  · rw [zal_b6]
    exact ⟨q, d, A, rfl, o5, (s5.to (B := (cA b1 [.int .i64 k, .slice sp sn sc] 24) + A) (by rw [Bag.add_zero]; ac_rfl)).drop⟩
  obtain rfl : nv = 3 := by omega
  refine s5.new (cs := [.int .i64 0]) fun ib g6 _ s6 => s6.wr0 fun g7 s7 => ?_
  have s7 : St h g7 (cA ib [.int .i64 1] 3 + (A + (cA b1 [.int .i64 k, .slice sp sn sc] 24 + 0))) := s7
  refine ⟨fun x h' => ∃ (ib : Nat) (iv : Int) (A : Bag), x.2.1 = some ⟨ib, 0, none⟩ ∧ (iv = -1 ∨ iv = 0 ∨ iv = 1) ∧ x.1.2.1 = 2 ∧ Sl TI x.1.1 2 x.1.2.2 [0, 1] A ∧ St h h' (cA ib [.int .i64 iv] 3 + (A + (cA b1 [.int .i64 k, .slice sp sn sc] 24 + 0))), fun x h' => mval h' x.2.1, ⟨ib, 1, A, rfl, .inr (.inr rfl), rfl, o5, s7⟩, ?_⟩
  clear s7 s5 o5
  rintro ⟨⟨q, m, d⟩, _, _⟩ g8 ⟨ib, iv, A, rfl, hiv, rfl, o8, s8⟩
  dsimp only at o8 ⊢
  rw [zal_b5, yaus s8.ld0]
  refine yaap rfl ⟨_, s8.ld0, condP (fun hpos => ?_) (fun hneg => ?_)⟩
  rotate_left
  · exact ⟨⟨A, .inr rfl, rfl, o8, s8.drop⟩, by simp⟩
  have hiv : iv = 0 ∨ iv = 1 := by omega
  have s8' : St h g8 (A + (cA ib [.int .i64 iv] 3 + (cA b1 [.int .i64 k, .slice sp sn sc] 24 + 0))) := s8.to
  refine (yaeu (o8.rd s8') (by decide)).mono fun v g9 ⟨q9, d9, A9, hv9, o9, t9⟩ => ⟨_, _, _, hv9, ?_⟩
  have s9 := s8'.join t9
  have s9 : St h g9 (A9 + (cA ib [.int .i64 iv] 3 + (A + (cA b1 [.int .i64 k, .slice sp sn sc] 24 + 0)))) := s9.to
  refine (yapr s9 o9 (by decide)).mono fun v g10 ⟨m10, A10, hv10, o10, s10⟩ => ⟨_, _, _, hv10, ?_⟩
  have hdl : del iv [0, 1] = [1 - iv] := by rcases hiv with rfl | rfl <;> rfl
  rw [hdl] at o10
  obtain rfl : 1 = m10 := o10.len
  refine yaat rfl ?_
  obtain ⟨ev, hev, hevm⟩ : ∃ ev, ev = ([e0, e1] : List Ev).getD (1 - iv).toNat dEv ∧ ∃ o, Lin k [ev] o D0 rows := ⟨_, rfl, by rcases hiv with rfl | rfl <;> assumption⟩
  have hmem : ev ∈ [e0, e1] := by rw [hev]; exact yaal (by rcases hiv with rfl | rfl <;> simp)
  refine ⟨fun x h' => ∃ (t : Nat) (E : Bag), x.2.1 = (t : Int) ∧ t ≤ 1 ∧ Sl tEv x.1.1 x.1.2.1 x.1.2.2 (([ev] : List Ev).take t |>.map Ev.t) E ∧ St h h' (E + (A10 + (cA ib [.int .i64 iv] 3 + (A + (cA b1 [.int .i64 k, .slice sp sn sc] 24 + 0))))), fun x _ => 1 - x.2.1.toNat, ⟨0, 0, rfl, by omega, Sl.nil, by rw [Bag.zero_add]; exact s10⟩, ?_⟩
  rintro ⟨⟨q11, m11, d11⟩, _, _⟩ g11 ⟨t, E, rfl, ht, o11, s11⟩
  dsimp only at o11 ⊢
  rw [zal_b8]
  refine condP (fun hlt => ?_) (fun hge => ?_)
  · obtain rfl : t = 0 := by omega
    have hm11 := o11.len
    refine ldI (o10.rd (s11.to (B := A10 + (E + (cA ib [.int .i64 iv] 3 + (A + (cA b1 [.int .i64 k, .slice sp sn sc] 24 + 0))))))) (i' := 0) rfl (by decide) ?_
    refine (r.ext s11.ext).ld (i' := (1 - iv).toNat) (by show (1 - iv : Int) = _; omega) (by omega) ?_
    rw [← hev]
    refine yajz (cs := evC ev.t) ok_ev s11 o11 (x := ev.t) rfl rfl (by simp at hm11; omega) fun q12 d12 g12 E12 o12 s12 => ?_
    rw [zal_b9]
    exact ⟨⟨by decide, by decide⟩, ⟨1, E12, rfl, by omega, o12, s12⟩, by simp⟩
  obtain rfl : t = 1 := by omega
  rw [zal_b10]
  have o11 : Sl tEv q11 m11 d11 [ev.t] E := o11
  obtain rfl : 1 = m11 := o11.len
  refine yaap rfl ⟨_, _, _, _, s11.ld0, s11.ldB, ?_⟩
  have re : EvsR g11 q11 1 [ev] := ⟨o11.rd s11, fun e he => by rw [List.mem_singleton.1 he]; exact (r.2 _ hmem).ext s11.ext⟩
  refine (yait ko (tab.ext s11.ext) re (by decide) (fun e he => by rw [List.mem_singleton.1 he]; exact sm _ hmem) (fun e he => by rw [List.mem_singleton.1 he]; exact hk _ hmem) ok (rr.ext s11.ext)).mono fun v g13 ⟨bb, q13, m13, d13, hv13, hs⟩ => ⟨_, _, _, _, hv13, ?_⟩
  have s13 := (s11.grow hs.ext).drop.drop
  rcases hs with ⟨rfl, _⟩ | ⟨_, _, _, _, _, hn13⟩
  rotate_left
  · obtain ⟨o, ho⟩ := hevm
    exact absurd ho (hn13 o)
  refine yaat rfl ?_
  rw [zal_b7]
  refine yaap rfl ⟨_, s13.ld0, s13.new (cs := [.int .i64 0]) fun b4 g14 _ s14 => s14.wr0 fun g15 s15 => ⟨_, s15.ld0, ⟨by omega, by omega⟩, s15.wr0 fun g16 s16 => ?_⟩⟩
  have s16 : St h g16 (cA b4 [.int .i64 (iv - 1)] 3 + (cA ib [.int .i64 iv] 3 + (A + (cA b1 [.int .i64 k, .slice sp sn sc] 24 + 0)))) := s16
  refine ⟨⟨b4, iv - 1, A, rfl, by omega, rfl, o8, stMid s16⟩, ?_⟩
  rw [yaus s16.ld0]
  omega
theorem yawz (k : Int) : KindOk k := ⟨yafy, yarr, yarm, ybbw⟩
abbrev ev0 (a : SH) : Ev := ⟨⟨0, 1, a, 0, 0, (none, 0, 0), 0, 3⟩, [1, 5], []⟩
abbrev ev1 (a : SH) (g : Int) : Ev := ⟨⟨1, 2, a, 12, 0, (none, 0, 0), g, 4⟩, [1], []⟩
theorem yavw {a b : SH} {g : Int} (hg : g = 2 ∨ g = 4) : HistK 1 [ev0 a, ev1 b g] := by
  refine ⟨by simp, fun e he => ?_, ?_, fun e he => ?_⟩
  · rcases List.mem_cons.1 he with rfl | he
    · refine ⟨?_, ?_, .inr ?_, fun h => absurd h ?_⟩
      · show 0 ≤ (0 : Int) ∧ (0 : Int) < 8; decide
      · show 0 ≤ (0 : Int) ∧ (0 : Int) ≤ 65536; decide
      · show (0 : Int) ≤ 3 ∧ (3 : Int) ≤ 65536; decide
      · show ¬ (3 : Int) = -1; decide
    · rw [List.mem_singleton.1 he]
      refine ⟨?_, ?_, .inr ?_, fun h => absurd h ?_⟩
      · show 0 ≤ (1 : Int) ∧ (1 : Int) < 8; decide
      · show 0 ≤ g ∧ g ≤ 65536
        omega
      · show g ≤ 4 ∧ (4 : Int) ≤ 65536
        omega
      · show ¬ (4 : Int) = -1; decide
  · refine List.pairwise_cons.2 ⟨fun e he => ?_, List.pairwise_singleton _ _⟩
    rw [List.mem_singleton.1 he]
    exact fun h => absurd h (show ¬ (0 : Int) = 1 by decide)
  · rcases List.mem_cons.1 he with rfl | he
    · show OpV 1 1 [1, 5]
      decide
    · rw [List.mem_singleton.1 he]
      show OpV 1 2 [1]
      decide
theorem yawj {a : SH} : stepE 1 [] (ev0 a) = some [[1, 5]] := by
  unfold stepE
  rw [show stepR 1 [] (ev0 a).t.co (ev0 a).zs = ([[1, 5]], 0, 0) from by show stepR 1 [] 1 [1, 5] = _; decide]
  exact if_neg fun h => h.2 ⟨rfl, rfl, rfl⟩
theorem ybal {a : SH} {g : Int} : stepE 1 [] (ev1 a g) = some [] := by
  unfold stepE
  rw [show stepR 1 [] (ev1 a g).t.co (ev1 a g).zs = ([], 12, 0) from by show stepR 1 [] 2 [1] = _; decide]
  exact if_neg fun h => h.2 ⟨rfl, rfl, rfl⟩
theorem ybbu {a : SH} {g : Int} : stepE 1 [[1, 5]] (ev1 a g) = none := by
  unfold stepE
  rw [show stepR 1 [[1, 5]] (ev1 a g).t.co (ev1 a g).zs = ([[1, 5]], 0, 5) from by show stepR 1 [[1, 5]] 2 [1] = _; decide]
  exact if_pos ⟨by show (0 : Int) ≤ 4; decide, fun h => absurd h.1 (by show ¬ (0 : Int) = 12; decide)⟩
theorem ybaf {a b : SH} {g : Int} {o : List Nat} (h : Lin 1 [ev0 a, ev1 b g] o D0 []) : o = [1, 0] := by
  have cpl : ∀ {D : Nat → Bool} {j : Nat}, j < 2 → D j = false → ¬ Cpl [ev0 a, ev1 b g] D := fun {D j} hj hd hc => by
    have := hc j hj (by
      obtain rfl | rfl : j = 0 ∨ j = 1 := by omega
      · show (0 : Int) ≤ 3; decide
      · show (0 : Int) ≤ 4; decide)
    rw [hd] at this; cases this
  cases o with
  | nil => exact absurd h (cpl (j := 0) (by decide) rfl)
  | cons i o =>
    obtain ⟨hi, hn, r, hr, hl⟩ := h
    obtain rfl | rfl : i = 0 ∨ i = 1 := by simp at hi; omega
    · rw [show stepE 1 [] (([ev0 a, ev1 b g] : List Ev).getD 0 dEv) = some [[1, 5]] from yawj] at hr
      cases hr
      cases o with
      | nil => exact absurd hl (cpl (j := 1) (by decide) rfl)
      | cons i o =>
        obtain ⟨hi, hn, r, hr, hl⟩ := hl
        obtain rfl | rfl : i = 0 ∨ i = 1 := by simp at hi; omega
        · have := hn.1
          rw [yahr] at this; cases this
        · rw [show stepE 1 [[1, 5]] (([ev0 a, ev1 b g] : List Ev).getD 1 dEv) = none from ybbu] at hr
          cases hr
    · cases o with
      | nil => exact absurd hl (cpl (j := 0) (by decide) rfl)
      | cons i o =>
        obtain ⟨hi, hn, r, hr, hl⟩ := hl
        obtain rfl | rfl : i = 0 ∨ i = 1 := by simp at hi; omega
        · cases o with
          | nil => rfl
          | cons i o =>
            obtain ⟨hi, hn, _⟩ := hl
            have := hn.1
            obtain rfl | rfl : i = 0 ∨ i = 1 := by simp at hi; omega
            · cases this
            · cases this
        · have := hn.1
          rw [yahr] at this; cases this
theorem ybbo {a b : SH} : Lin 1 [ev0 a, ev1 b 2] [1, 0] D0 [] := by
  have np : ∀ {x y : EvT}, x.en < 0 ∨ y.bg ≤ x.en → ¬ precT x y := fun h hp => by unfold precT at hp; omega
  refine ⟨show 1 < 2 by decide, ⟨rfl, fun j hj _ => ?_⟩, [], ybal, show 0 < 2 by decide, ⟨rfl, fun j hj hd => ?_⟩, [[1, 5]], yawj, fun j hj _ => ?_⟩
  · obtain rfl | rfl : j = 0 ∨ j = 1 := by simp at hj; omega
    · exact np (.inr (show (2 : Int) ≤ 3 by decide))
    · exact np (.inr (show (2 : Int) ≤ 4 by decide))
  · obtain rfl | rfl : j = 0 ∨ j = 1 := by simp at hj; omega
    · exact np (.inr (show (0 : Int) ≤ 3 by decide))
    · cases hd
  · obtain rfl | rfl : j = 0 ∨ j = 1 := by simp at hj; omega
    · rfl
    · rfl
theorem ybaw {a b : SH} {o : List Nat} (h : Lin 1 [ev0 a, ev1 b 4] o D0 []) : False := by
  have := ybaf h
  subst this
  obtain ⟨_, hn, _⟩ := h
  exact hn.2 0 (show 0 < 2 by decide) rfl ⟨show (0 : Int) ≤ 3 by decide, show (3 : Int) < 4 by decide⟩
theorem yauw {e : Ev} {r : Rows} (h1 : One e) (h : stepE 1 [] e = some r) : Lin 1 [e] [0] D0 [] := by
  refine ⟨show 0 < 1 by decide, ⟨rfl, fun j hj _ => ?_⟩, r, h, fun j hj _ => ?_⟩
  · obtain rfl : j = 0 := by simpa using hj
    exact yask h1
  · obtain rfl : j = 0 := by simpa using hj
    rfl
theorem yaxs {h0 : Hp} (tab : Tab10 h0) : yazg h0 := fun h x => by
  have tab := tab.ext x
  refine zaf_call ?_
  rw [zaf_b0]
  refine (St.start h).new (cs := [.int .i64 0, .slice none 0 0]) fun b1 h1 _ s => s.wr0 fun h2 s => s.wrB fun h3 s => s.new (cs := [.int .i64 1, .int .i64 5]) fun b2 h4 _ s => s.new (cs := [.int .i64 1]) fun b3 h5 _ s => ?_
  obtain ⟨x0, hx0⟩ : ∃ x0 : SH, x0 = (some ⟨b2, 0, none⟩, 2, 2) := ⟨_, rfl⟩
  obtain ⟨x1, hx1⟩ : ∃ x1 : SH, x1 = (some ⟨b3, 0, none⟩, 1, 1) := ⟨_, rfl⟩
  have e1 : ∀ g : Int, tEv.cells [(ev0 x0).t, (ev1 x1 g).t] = [.int .i64 0, .int .i64 1, .slice (some ⟨b2, 0, none⟩) 2 2, .int .i64 0, .int .i64 0, .slice none 0 0, .int .i64 0, .int .i64 3, .int .i64 1, .int .i64 2, .slice (some ⟨b3, 0, none⟩) 1 1, .int .i64 12, .int .i64 0, .slice none 0 0, .int .i64 g, .int .i64 4] := fun g => by subst hx0 hx1; rfl
  refine s.new (cs := [.int .i64 0, .int .i64 1, .slice (some ⟨b2, 0, none⟩) 2 2, .int .i64 0, .int .i64 0, .slice none 0 0, .int .i64 0, .int .i64 3, .int .i64 1, .int .i64 2, .slice (some ⟨b3, 0, none⟩) 1 1, .int .i64 12, .int .i64 0, .slice none 0 0, .int .i64 2, .int .i64 4]) fun b4 h6 _ s => ?_
  have hk : ∀ g : Int, (g = 2 ∨ g = 4) → yafa [ev0 x0, ev1 x1 g] := fun g hg => ⟨1, by decide, yavw hg⟩
  have sm : ∀ g : Int, Sm [ev0 x0, ev1 x1 g] := fun g e he => by
    rcases List.mem_cons.1 he with rfl | he
    · exact ⟨by show (2 : Nat) ≤ 70; decide, by show (0 : Nat) ≤ 20; decide⟩
    · rw [List.mem_singleton.1 he]; exact ⟨by show (1 : Nat) ≤ 70; decide, by show (0 : Nat) ≤ 20; decide⟩
  -- the events in memory
  have evs : ∀ {h' : Hp} {g : Int} {D : Bag}, St h h' (cA b4 (tEv.cells [(ev0 x0).t, (ev1 x1 g).t]) 60 + (cA b3 [.int .i64 1] 3 + (cA b2 [.int .i64 1, .int .i64 5] 3 + D))) → EvsR h' (some ⟨b4, 0, none⟩) 2 [ev0 x0, ev1 x1 g] := fun {h' g D} s => by
    have o4 : Sl tEv (some ⟨b4, 0, none⟩) 2 2 [(ev0 x0).t, (ev1 x1 g).t] (cA b4 (tEv.cells [(ev0 x0).t, (ev1 x1 g).t]) 60) := Sl.of_blk (T := tEv) (xs := [(ev0 x0).t, (ev1 x1 g).t]) rfl rfl
    have o3 : Sl TI (some ⟨b3, 0, none⟩) 1 1 [1] (cA b3 [.int .i64 1] 3) := Sl.of_blk (T := TI) (xs := [1]) rfl rfl
    have o2 : Sl TI (some ⟨b2, 0, none⟩) 2 2 [1, 5] (cA b2 [.int .i64 1, .int .i64 5] 3) := Sl.of_blk (T := TI) (xs := [1, 5]) rfl rfl
    have r4 := o4.rd s
    have r3 := o3.rd s.drop
    have r2 := o2.rd s.drop.drop
    refine ⟨r4, fun e he => ?_⟩
    rcases List.mem_cons.1 he with rfl | he
    · subst hx0
      exact ⟨⟨r2, by show (2 : Nat) ≤ 2; decide⟩, RdT.nil _ _, by show (0 : Nat) ≤ 0; decide⟩
    · rw [List.mem_singleton.1 he]
      subst hx1
      exact ⟨⟨r3, by show (1 : Nat) ≤ 1; decide⟩, RdT.nil _ _, by show (0 : Nat) ≤ 0; decide⟩
  have kb : ∀ {g most e : Int}, (g = 2 ∨ g = 4) → most = 5 → givE [ev0 x0, ev1 x1 g] [] 1 most e → e = 0 := fun {g most e} hg hm he => by
    subst hm
    rcases he with ⟨hn, _⟩ | ⟨_, ⟨hm, _⟩ | ⟨_, ⟨hm, _⟩ | ⟨_, he⟩⟩⟩
    · exact absurd ⟨yavb (by decide), hk g hg, (yavw hg).2.2.2⟩ hn
    · omega
    · simp at hm
    · exact he
  have s : St h h6 (cA b4 [.int .i64 0, .int .i64 1, .slice (some ⟨b2, 0, none⟩) 2 2, .int .i64 0, .int .i64 0, .slice none 0 0, .int .i64 0, .int .i64 3, .int .i64 1, .int .i64 2, .slice (some ⟨b3, 0, none⟩) 1 1, .int .i64 12, .int .i64 0, .slice none 0 0, .int .i64 2, .int .i64 4] 60 + (cA b3 [.int .i64 1] 3 + (cA b2 [.int .i64 1, .int .i64 5] 3 + (cA b1 [.int .i64 1, .slice none 0 0] 24 + 0)))) := s
  have rr := yato
  have hr0 : ∀ r ∈ ([] : Rows), r.length ≤ 1000 := fun r hr => nomatch hr
  refine ⟨_, _, _, _, s.ld0, s.ldB, ?_⟩
  refine (yaqk (yawz 1) (tab.ext s.ext) (evs (g := 2) (by rw [e1]; exact s)) (sm 2) (rr h6) hr0).mono fun v h7 ⟨bb, q, m, d, e, hv, hg, hs⟩ => ⟨_, _, _, _, _, hv, ?_⟩
  obtain rfl := kb (.inl rfl) rfl hg
  obtain ⟨A, rfl, rfl, oA, tA⟩ : ∃ A, bb = true ∧ m = 2 ∧ Sl TI q m d [1, 0] A ∧ St h6 h7 A := by
    rcases hs with ⟨hn, _⟩ | ⟨_, ⟨hb, A, o, hm, oA, tA, hl⟩ | ⟨_, _, _, _, _, hn⟩⟩
    · exact absurd rfl hn
    · have := ybaf hl
      subst this
      exact ⟨A, hb, hm, oA, tA⟩
    · exact absurd ybbo (hn _)
  have s := s.join tA
  have s : St h h7 (cA b4 [.int .i64 0, .int .i64 1, .slice (some ⟨b2, 0, none⟩) 2 2, .int .i64 0, .int .i64 0, .slice none 0 0, .int .i64 0, .int .i64 3, .int .i64 1, .int .i64 2, .slice (some ⟨b3, 0, none⟩) 1 1, .int .i64 12, .int .i64 0, .slice none 0 0, .int .i64 2, .int .i64 4] 60 + (cA b3 [.int .i64 1] 3 + (cA b2 [.int .i64 1, .int .i64 5] 3 + (cA b1 [.int .i64 1, .slice none 0 0] 24 + (A + 0))))) := s.to
  refine ⟨⟨by decide, by decide⟩, s.wr (o := 14) rfl (by simp) fun h8 s => ?_⟩
  have s : St h h8 (cA b4 [.int .i64 0, .int .i64 1, .slice (some ⟨b2, 0, none⟩) 2 2, .int .i64 0, .int .i64 0, .slice none 0 0, .int .i64 0, .int .i64 3, .int .i64 1, .int .i64 2, .slice (some ⟨b3, 0, none⟩) 1 1, .int .i64 12, .int .i64 0, .slice none 0 0, .int .i64 4, .int .i64 4] 60 + (cA b3 [.int .i64 1] 3 + (cA b2 [.int .i64 1, .int .i64 5] 3 + (cA b1 [.int .i64 1, .slice none 0 0] 24 + (A + 0))))) := s
  refine ⟨_, _, _, _, s.ld0, s.ldB, ?_⟩
  refine (yaqk (yawz 1) (tab.ext s.ext) (evs (g := 4) (by rw [e1]; exact s)) (sm 4) (rr h8) hr0).mono fun v h9 ⟨bb, q9, m9, d9, e, hv, hg, hs⟩ => ⟨_, _, _, _, _, hv, ?_⟩
  obtain rfl := kb (.inr rfl) rfl hg
  obtain ⟨rfl, x9⟩ : bb = false ∧ Ext h8 h9 := by
    rcases hs with ⟨hn, _⟩ | ⟨_, ⟨_, _, _, _, _, _, hl⟩ | ⟨hb, _, _, _, x, _⟩⟩
    · exact absurd rfl hn
    · exact (ybaw hl).elim
    · exact ⟨hb, x⟩
  have s := s.grow x9
  refine ⟨_, _, _, _, s.ld0, s.ldB, ?_⟩
  have h4 := yavw (a := x0) (b := x1) (g := 4) (.inr rfl)
  refine (yaom (yawz 1) (tab.ext s.ext) (evs (g := 4) (by rw [e1]; exact s)) (sm 4) (yavb (by decide)) (hk 4 (.inr rfl)) h4.2.2.2 (rr h9) hr0 (fun o ho => ybaw ho) ⟨_, yauw (h4.2.1 _ (by simp)) yawj⟩ ⟨_, yauw (h4.2.1 _ (by simp)) ybal⟩).mono fun v h10 ⟨q10, d10, A10, hv, o10, t10⟩ => ⟨_, _, _, _, hv, ?_⟩
  have s := s.join t10
  refine yaaw rfl (s.new (cs := [.int .i64 1, .int .i64 0]) fun b5 h11 _ s => ?_)
  have k5 : Sl TI (some ⟨b5, 0, none⟩) 2 2 [1, 0] (cA b5 [.int .i64 1, .int .i64 0] 3) := Sl.of_blk (T := TI) (xs := [1, 0]) rfl rfl
  refine (yasy (oA.rd (s.to (B := A + (cA b5 [.int .i64 1, .int .i64 0] 3 + (A10 + (cA b4 [.int .i64 0, .int .i64 1, .slice (some ⟨b2, 0, none⟩) 2 2, .int .i64 0, .int .i64 0, .slice none 0 0, .int .i64 0, .int .i64 3, .int .i64 1, .int .i64 2, .slice (some ⟨b3, 0, none⟩) 1 1, .int .i64 12, .int .i64 0, .slice none 0 0, .int .i64 4, .int .i64 4] 60 + (cA b3 [.int .i64 1] 3 + (cA b2 [.int .i64 1, .int .i64 5] 3 + (cA b1 [.int .i64 1, .slice none 0 0] 24 + 0))))))))) (k5.rd s) (by decide)).mono fun v h12 ⟨hh, hv⟩ => ⟨_, hv, yaaw (by decide) (yaaw rfl (yaaw rfl (yaaw rfl ?_)))⟩
  subst hh
  refine s.new (cs := [.int .i64 0, .int .i64 1]) fun b6 h13 _ s => ?_
  have k6 : Sl TI (some ⟨b6, 0, none⟩) 2 2 [0, 1] (cA b6 [.int .i64 0, .int .i64 1] 3) := Sl.of_blk (T := TI) (xs := [0, 1]) rfl rfl
  refine (yasy (o10.rd (s.to (B := A10 + (cA b6 [.int .i64 0, .int .i64 1] 3 + (cA b5 [.int .i64 1, .int .i64 0] 3 + (cA b4 [.int .i64 0, .int .i64 1, .slice (some ⟨b2, 0, none⟩) 2 2, .int .i64 0, .int .i64 0, .slice none 0 0, .int .i64 0, .int .i64 3, .int .i64 1, .int .i64 2, .slice (some ⟨b3, 0, none⟩) 1 1, .int .i64 12, .int .i64 0, .slice none 0 0, .int .i64 4, .int .i64 4] 60 + (cA b3 [.int .i64 1] 3 + (cA b2 [.int .i64 1, .int .i64 5] 3 + (cA b1 [.int .i64 1, .slice none 0 0] 24 + (A + 0)))))))))) (k6.rd s) (by decide)).mono fun v h14 ⟨hh, hv⟩ => ⟨_, hv, yaaw (by decide) ⟨rfl, ?_⟩⟩
  subst hh
  exact s.ext
end Go.Proofs.YtllhdhpjgihjfaaGreatDoor
namespace Go.Sx
open Go Go.ChangeShapes Go.WideShapes Go.Deep
section
variable {H : Type} {enc : TypeId × Value → H} {P : Program} {w : World} {base : Nat} {sp : Nat → Bool} {held : Bool} {α : Type}
theorem yapt {t : TypeId} (T : Ty α) {W : α → Prop} {a : Option Addr} {len cap : Nat} {d : DataW H} {ps : List MemPlace} (ht : P.underlying t = some (.slice T.e)) (hc : P.cellsOf T.e = T.sz)
    (dec : ∀ n cs x, DataW.trod enc P w base sp held n T.e cs = some x → ∃ a, cs = T.enc a ∧ W a) (h : DataW.Trod enc P w base sp held t (.slice a len cap) d ps) :
    ∃ xs : List α, RdT T w.heap a len xs ∧ len ≤ cap ∧ ∀ x ∈ xs, W x := by
  obtain ⟨fuel, hf⟩ := h
  have e0 : (Value.slice a len cap).cells.toList = [.slice a len cap] := rfl
  rw [e0] at hf
  rcases open_slice ht hf with ⟨hcs, _⟩ | ⟨x, l, c, m, n, D, Pl, hcs, _, hl, _, hm, _, hx⟩
  · injection hcs with h1 _
    injection h1 with h1 h2 h3
    subst h1 h2 h3
    exact ⟨[], RdT.nil _ _, Nat.le_refl _, fun _ h => nomatch h⟩
  · injection hcs with h1 _
    injection h1 with h1 h2 h3
    subst h1 h2 h3
    have hlm : len ≤ m := by rw [hm]; split <;> omega
    haveI : Inhabited α := ⟨T.d⟩
    obtain ⟨f, hf⟩ := choose_lt (α := α) (n := len) (p := fun i z => w.cells? base (x.add (i * T.sz)) T.sz = some (T.enc z) ∧ W z) (fun i hi => by
      obtain ⟨cs, h1, h2⟩ := hx i (by omega)
      obtain ⟨z, hz, hw⟩ := dec n cs _ h2
      rw [hc] at h1
      exact ⟨z, by rw [h1, hz], hw⟩)
    refine ⟨(List.range len).map f, ⟨by simp, .inr ⟨x, rfl, fun i hi => ?_⟩⟩, hl, fun z hz => ?_⟩
    · have hp := T.pos
      have hdm : T.sz * (i / T.sz) + i % T.sz = i := Nat.div_add_mod i T.sz
      have hq : i / T.sz < len := (Nat.div_lt_iff_lt_mul hp).2 hi
      have hr : i % T.sz < T.sz := Nat.mod_lt _ hp
      obtain ⟨_, _, h3⟩ := World.cells?_some (hf _ hq).1
      have h4 := h3 _ hr
      have e1 : i / T.sz * T.sz + i % T.sz = i := by rw [Nat.mul_comm]; exact hdm
      rw [yach, e1] at h4
      show cell w.heap (x.add i) = _
      rw [← yalr, h4]
      have := T.cells_get ((List.range len).map f) (i := i / T.sz) (j := i % T.sz) (by simpa using hq) hr
      rw [e1] at this
      rw [this]
      simp [List.getD, hq]
    · obtain ⟨i, hi, rfl⟩ := List.mem_map.1 hz
      exact (hf i (List.mem_range.1 hi)).2
theorem yafi {e : TypeId} {k : IntKind} (he : P.underlying e = some (.int k)) (n : Nat) (cs : List Value) (x : DataW H × List MemPlace) (h : DataW.trod enc P w base sp held n e cs = some x) : ∃ z, cs = [.int k z] ∧ (Lit.int k z).wf = true := by
  obtain ⟨z, h1, _, h2⟩ := DataW.trod_int he h
  exact ⟨z, h1, h2⟩
end
end Go.Sx
namespace Go.Proofs.YtllhdhpjgihjfaaGreatDoor
open Go Go.Sx Go.ChangeShapes Go.WideShapes Go.ChangeAt Go.RowKit Go.Deep
theorem own : ownKnob Tryz.prog.godebug = none := by kernel_rfl
theorem yapx : laidOutB Tryz.prog = true := by kernel_rfl
abbrev laid3 : List (String × DataW Unit) := [("math/bits.deBruijn32tab", Rows.laid_math_bits_deBruijn32tab), ("math/bits.deBruijn64tab", Rows.laid_math_bits_deBruijn64tab), ("internal/strconv.uint64pow10", Rows.laid_internal_strconv_uint64pow10)]
theorem yaxh (os : Os) (args : Array Value) : laidMetH Tryz.prog laid3 ((World.doorLaid Tryz.prog 24 os).forCall (fun _ _ => 0) ⟨#[], args, []⟩).memory := by
  rw [MakeChecks.laidMetH_plain _ _ _ (by kernel_rfl)]
  exact laidMet_of_run' 8 (by kernel_rfl) (by kernel_rfl)
theorem ybbk {W : World} (hL : laidMetH Tryz.prog laid3 W) : Tab10 W.heap := by
  rw [MakeChecks.laidMetH_plain _ _ _ (by kernel_rfl)] at hL
  have h := Lib.tabIs_of_head (k := .u64) (zs := Lib.pow10Tab) Tryz.laysM176.m17 (t := 191) (e := 146) (n := 20) (by kernel_rfl) (by kernel_rfl) (by kernel_rfl) (by kernel_rfl) (by kernel_rfl)
    (show laidMet Tryz.prog (("internal/strconv.uint64pow10", Lib.tabData .u64 Lib.pow10Tab) :: []) W from hL.tail.tail)
  unfold Lib.TabIs World.var? at h
  rw [Tryz.laysM176.m17, Option.bind_some] at h
  split at h
  · rename_i cs e fz hg
    cases h
    exact ⟨_, e, fz, Tryz.laysM176.m17, hg⟩
  · cases h
theorem yawe {P : Program} {f : FuncId} {args : Array Value} {w : World} (hc : yaae P f args w.heap (fun v h' => v = .bool true ∧ Ext w.heap h')) :
    Calls P f args w fun e w' => e = .returned (.bool true) ∧ Below w.heap.size w w' :=
  (hc w rfl).mono fun e w' ⟨v, he, hs, hv, hx⟩ => ⟨by rw [he, hv], ⟨hs.os, hs.tape, hs.output, hx.size, hx.same⟩⟩
section
variable {H : Type} {enc : TypeId × Value → H} {w : World} {base : Nat} {held : Bool} {a : OA} {len cap : Nat} {d : DataW H} {ps : List MemPlace}
theorem yarc (h : DataW.Trod enc Tryz.prog w base (fun _ => true) held 29 (.slice a len cap) d ps) : ∃ l : List Int, RdT TI w.heap a len l ∧ len ≤ cap ∧ ∀ x ∈ l, InR x :=
  yapt (W := InR) TI Tryz.underlying29 (by kernel_rfl) (fun n cs x h => by
    obtain ⟨z, h1, h2⟩ := yafi (k := .i64) (by kernel_rfl) n cs x h
    exact ⟨z, h1, bounds_i64 h2⟩) h
theorem yazr {t : TypeId} {e : TypeId} (ht : Tryz.prog.underlying t = some (.slice e)) {n : Nat} {c : Value} {y : DataW H × List MemPlace} (h : DataW.trod enc Tryz.prog w base (fun _ => true) held n t [c] = some y) : ∃ a l q, c = .slice a l q := by
  rcases open_slice ht h with ⟨hcs, _⟩ | ⟨_, _, _, _, _, _, _, hcs, _⟩
  · exact ⟨_, _, _, (List.cons.inj hcs).1⟩
  · exact ⟨_, _, _, (List.cons.inj hcs).1⟩
theorem yalc {n : Nat} {c : Value} {y : DataW H × List MemPlace} (h : DataW.trod enc Tryz.prog w base (fun _ => true) held n 29 [c] = some y) : ∃ a l q zs, c = .slice a l q ∧ l ≤ q ∧ RdT TI w.heap a l zs := by
  obtain ⟨a, l, q, rfl⟩ := yazr Tryz.underlying29 h
  obtain ⟨zs, hr, hle, _⟩ := yarc (d := y.1) (ps := y.2) ⟨n, h⟩
  exact ⟨a, l, q, zs, rfl, hle, hr⟩
theorem ybby (n : Nat) (c0 c1 : Value) (y : DataW H × List MemPlace) (h : DataW.trod enc Tryz.prog w base (fun _ => true) held n 50 [c0, c1] = some y) : ∃ z a l q zs, c0 = .int .i64 z ∧ c1 = .slice a l q ∧ l ≤ q ∧ RdT TI w.heap a l zs := by
  obtain ⟨xs, m, _, _, hl, hxl, hx⟩ := DataW.trod_struct Tryz.underlying50 h
  match xs, hxl with
  | [y0, y1], _ =>
    obtain ⟨z0, e0, _⟩ := yafi (k := .i64) (by kernel_rfl) _ _ _ (hx 0 _ rfl)
    have f0 : c0 = .int .i64 z0 := (List.cons.inj (show [c0] = [Value.int .i64 z0] from e0)).1
    obtain ⟨a, l, q, zs, e1, hle, hr⟩ := yalc (show DataW.trod enc Tryz.prog w base (fun _ => true) held m 29 [c1] = some y1 from hx 1 _ rfl)
    exact ⟨z0, a, l, q, zs, f0, e1, hle, hr⟩
theorem yazk (n : Nat) (c0 c1 c2 : Value) (y : DataW H × List MemPlace) (h : DataW.trod enc Tryz.prog w base (fun _ => true) held n 58 [c0, c1, c2] = some y) : ∃ z0 z1 a l q zs, c0 = .int .i64 z0 ∧ c1 = .int .i64 z1 ∧ c2 = .slice a l q ∧ l ≤ q ∧ RdT TI w.heap a l zs := by
  obtain ⟨xs, m, _, _, hl, hxl, hx⟩ := DataW.trod_struct Tryz.underlying58 h
  match xs, hxl with
  | [y0, y1, y2], _ =>
    obtain ⟨z0, e0, _⟩ := yafi (k := .i64) (by kernel_rfl) _ _ _ (hx 0 _ rfl)
    obtain ⟨z1, e1, _⟩ := yafi (k := .i64) (by kernel_rfl) _ _ _ (hx 1 _ rfl)
    have f0 : c0 = .int .i64 z0 := (List.cons.inj (show [c0] = [Value.int .i64 z0] from e0)).1
    have f1 : c1 = .int .i64 z1 := (List.cons.inj (show [c1] = [Value.int .i64 z1] from e1)).1
    obtain ⟨a, l, q, zs, e2, hle, hr⟩ := yalc (show DataW.trod enc Tryz.prog w base (fun _ => true) held m 29 [c2] = some y2 from hx 2 _ rfl)
    exact ⟨z0, z1, a, l, q, zs, f0, f1, e2, hle, hr⟩
theorem yatd (h : DataW.Trod enc Tryz.prog w base (fun _ => true) held 25 (.slice a len cap) d ps) : ∃ l, EvsR w.heap a len l := by
  obtain ⟨l, r, _, hz⟩ := yapt (W := fun x : EvT => ∃ zs ls, EvM w.heap ⟨x, zs, ls⟩) tEv Tryz.underlying25 (by kernel_rfl) (fun n cs x h => by
    obtain ⟨xs, m, _, _, hl, hxl, hx⟩ := DataW.trod_struct Tryz.underlying60 h
    rw [show Tryz.prog.cellsOf 60 = 8 by kernel_rfl] at hl
    match cs, xs, hl, hxl with
    | [c0, c1, c2, c3, c4, c5, c6, c7], [y0, y1, y2, y3, y4], _, _ =>
      obtain ⟨z0, e0, _⟩ := yafi (k := .i64) (by kernel_rfl) _ _ _ (hx 0 _ rfl)
      obtain ⟨z6, e6, _⟩ := yafi (k := .i64) (by kernel_rfl) _ _ _ (hx 3 _ rfl)
      obtain ⟨z7, e7, _⟩ := yafi (k := .i64) (by kernel_rfl) _ _ _ (hx 4 _ rfl)
      have f0 : c0 = .int .i64 z0 := (List.cons.inj (show [c0] = [Value.int .i64 z0] from e0)).1
      have f6 : c6 = .int .i64 z6 := (List.cons.inj (show [c6] = [Value.int .i64 z6] from e6)).1
      have f7 : c7 = .int .i64 z7 := (List.cons.inj (show [c7] = [Value.int .i64 z7] from e7)).1
      obtain ⟨z1, a2, l2, q2, zs, f1, f2, h2, r2⟩ := ybby _ _ _ _ (show DataW.trod enc Tryz.prog w base (fun _ => true) held m 50 [c1, c2] = some y1 from hx 1 _ rfl)
      obtain ⟨z3, z4, a5, l5, q5, ls, f3, f4, f5, h5, r5⟩ := yazk _ _ _ _ _ (show DataW.trod enc Tryz.prog w base (fun _ => true) held m 58 [c3, c4, c5] = some y2 from hx 2 _ rfl)
      exact ⟨⟨z0, z1, (a2, l2, q2), z3, z4, (a5, l5, q5), z6, z7⟩, by rw [f0, f1, f2, f3, f4, f5, f6, f7], zs, ls, ⟨r2, h2⟩, r5, h5⟩) h
  have : ∃ es : List Ev, es.map Ev.t = l ∧ ∀ e ∈ es, EvM w.heap e := by
    clear r
    induction l with
    | nil => exact ⟨[], rfl, fun e he => nomatch he⟩
    | cons x l ih =>
      obtain ⟨es, h1, h2⟩ := ih fun y hy => hz y (List.mem_cons_of_mem _ hy)
      obtain ⟨zs, ls, hm⟩ := hz x List.mem_cons_self
      exact ⟨⟨x, zs, ls⟩ :: es, by rw [List.map_cons, h1], fun e he => (List.mem_cons.1 he).elim (fun h => h ▸ hm) (h2 e)⟩
  obtain ⟨es, h1, h2⟩ := this
  exact ⟨es, by rw [h1]; exact r, h2⟩
theorem yayw {n : Nat} {c : Value} {y : DataW H × List MemPlace} (h : DataW.trod enc Tryz.prog w base (fun _ => true) held n 22 [c] = some y) : ∃ a l q rows, c = .slice a l q ∧ RowsR w.heap a l rows := by
  obtain ⟨a, l, q, rfl⟩ := yazr Tryz.underlying22 h
  obtain ⟨hs, r, _, hz⟩ := yapt (W := fun x : SH => x.2.1 ≤ x.2.2 ∧ ∃ zs, RdT TI w.heap x.1 x.2.1 zs) TR Tryz.underlying22 (by kernel_rfl) (fun n cs x h => by
    have hc : ∃ c, cs = [c] := by
      rcases open_slice Tryz.underlying29 h with ⟨hcs, _⟩ | ⟨_, _, _, _, _, _, _, hcs, _⟩
      · exact ⟨_, hcs⟩
      · exact ⟨_, hcs⟩
    obtain ⟨c, rfl⟩ := hc
    obtain ⟨a, l, q, zs, rfl, hle, hr⟩ := yalc h
    exact ⟨(a, l, q), rfl, hle, zs, hr⟩) (d := y.1) (ps := y.2) ⟨n, h⟩
  have : ∃ rows : Rows, rows.length = hs.length ∧ ∀ i, i < hs.length → RdT TI w.heap (hs.getD i TR.d).1 (hs.getD i TR.d).2.1 (rows.getD i []) ∧ (hs.getD i TR.d).2.1 ≤ (hs.getD i TR.d).2.2 := by
    clear r
    induction hs with
    | nil => exact ⟨[], rfl, fun i hi => by simp at hi⟩
    | cons x l ih =>
      obtain ⟨rows, e, hk⟩ := ih fun y hy => hz y (List.mem_cons_of_mem _ hy)
      obtain ⟨hc, zs, rz⟩ := hz x List.mem_cons_self
      refine ⟨zs :: rows, by simp [e], fun i hi => ?_⟩
      cases i with
      | zero => exact ⟨rz, hc⟩
      | succ i => simpa using hk i (by simpa using hi)
  obtain ⟨rows, e, hk⟩ := this
  have hl := r.len
  exact ⟨a, l, q, rows, rfl, by omega, hs, r, fun i hi => hk i (by omega)⟩
theorem yawr {cs : Array Value} (h : DataW.Trod enc Tryz.prog w base (fun _ => true) held 24 (.agg cs) d ps) : ∃ k a l q rows, cs = #[.int .i64 k, .slice a l q] ∧ RowsR w.heap a l rows := by
  obtain ⟨m, h⟩ := h
  obtain ⟨xs, m, _, _, hl, hxl, hx⟩ := DataW.trod_struct Tryz.underlying24 h
  rw [show Tryz.prog.cellsOf 24 = 2 by kernel_rfl] at hl
  have hcl : cs.toList.length = 2 := hl
  obtain ⟨cl⟩ := cs
  change cl.length = 2 at hcl
  match cl, xs, hcl, hxl with
  | [c0, c1], [y0, y1], _, _ =>
    obtain ⟨z0, e0, _⟩ := yafi (k := .i64) (by kernel_rfl) _ _ _ (hx 0 _ rfl)
    have f0 : c0 = .int .i64 z0 := (List.cons.inj (show [c0] = [Value.int .i64 z0] from e0)).1
    obtain ⟨a, l, q, rows, f1, hr⟩ := yayw (show DataW.trod enc Tryz.prog w base (fun _ => true) held m 22 [c1] = some y1 from hx 1 _ rfl)
    exact ⟨z0, a, l, q, rows, by rw [f0, f1], hr⟩
end
section
variable {h : Hp} {p : OA} {n c : Nat}
end
abbrev Sn := SH × Int × SH
abbrev tSn : Ty Sn := ⟨80, 3, fun x => [.slice x.1.1 x.1.2.1 x.1.2.2, .int .i64 x.2.1, .slice x.2.2.1 x.2.2.2.1 x.2.2.2.2], ((none, 0, 0), 0, (none, 0, 0)), fun _ => rfl, by decide, fun _ v hv => by simp at hv; rcases hv with rfl | rfl | rfl <;> rfl⟩
def SnR (h : Hp) (k : Int) (x : Sn) (c : Cf) : Prop := x.2.1 = k ∧ RdT TB h x.1.1 x.1.2.1 c.1 ∧ RowsR h x.2.2.1 x.2.2.2.1 c.2
def RowsX (h0 : Hp) (x : SH) (rows : Rows) (A : Bag) : Prop := RowsA x rows A ∨ (A = 0 ∧ RowsR h0 x.1 x.2.1 rows)
def SnP (h0 : Hp) (k : Int) (x : Sn) (c : Cf) (A : Bag) : Prop := x.2.1 = k ∧ ∃ A1 A2, A = A1 + A2 ∧ Sl TB x.1.1 x.1.2.1 x.1.2.2 c.1 A1 ∧ RowsX h0 x.2.2 c.2 A2
theorem RowsX.r {h0 h : Hp} {x : SH} {rows : Rows} {A F : Bag} (a : RowsX h0 x rows A) (s : St h0 h (A + F)) : RowsR h x.1 x.2.1 rows := by
  rcases a with a | ⟨rfl, r⟩
  · exact yakx (c := x.2.2) a s
  · exact r.ext s.ext
theorem SnP.r {h0 h : Hp} {k : Int} {x : Sn} {c : Cf} {A F : Bag} (a : SnP h0 k x c A) (s : St h0 h (A + F)) : SnR h k x c := by
  obtain ⟨e, A1, A2, rfl, o, rx⟩ := a
  exact ⟨e, o.rd (s.to (B := A1 + (A2 + F))), rx.r (s.to (B := A2 + (A1 + F)))⟩
theorem SnP.all {h0 h : Hp} {k : Int} {hs : List Sn} {cs : List Cf} {A F : Bag} (a : AllH (SnP h0 k) hs cs A) (s : St h0 h (A + F)) : cs.length = hs.length ∧ ∀ i, i < hs.length → SnR h k (hs.getD i tSn.d) (cs.getD i ([], [])) := by
  refine ⟨a.len.symm, fun i hi => ?_⟩
  obtain ⟨Ai, B, rfl, hp⟩ := a.pick (d := ([], [])) (d' := tSn.d) hi
  exact hp.r (s.to (B := Ai + (B + F)))
theorem ybai (n : Nat) : TB.cells (List.replicate n false) = List.replicate n (.bool false) := by
  induction n with
  | zero => rfl
  | succ n ih => rw [List.replicate_succ, Ty.cells_cons, ih]; rfl
section
variable {h : Hp} {p : OA} {n c : Nat} {l : List Ev} {k : Int} {sp : OA} {sn sc : Nat} {rows : Rows}
end
section
variable {h : Hp} {p : OA} {n c : Nat} {l : List Ev} {k : Int} {sp : OA} {sn sc : Nat} {rows : Rows}
end
theorem yama {k : Int} {l : List Ev} {os : List Int} {rows : Rows} (h : ∃ o ∈ os, o < 0 ∨ (l.length : Int) ≤ o) : witR k l os rows = (false, 0, 2) := if_pos h
theorem yani {k : Int} {l : List Ev} {os : List Int} {rows : Rows} (h : ∀ o ∈ os, 0 ≤ o ∧ o < (l.length : Int)) (h2 : ¬ os.Nodup) : witR k l os rows = (false, 0, 10) := by
  unfold witR
  rw [if_neg (fun ⟨o, ho, hc⟩ => by have := h o ho; omega), if_pos h2]
theorem yavc {k : Int} {l : List Ev} {os : List Int} {rows : Rows} (h : ∀ o ∈ os, 0 ≤ o ∧ o < (l.length : Int)) (h2 : os.Nodup) : witR k l os rows = ((wit k l os D0 rows 0).1, (wit k l os D0 rows 0).2, 0) := by
  unfold witR
  rw [if_neg (fun ⟨o, ho, hc⟩ => by have := h o ho; omega), if_neg (fun h => h h2)]
theorem yano {os : List Int} {i : Nat} (h : i < os.length) : os.drop i = os.getD i 0 :: os.drop (i + 1) := by rw [yaac h]; exact List.drop_eq_getElem_cons h
theorem yadt {os : List Int} {i : Nat} (h : i < os.length) : os.take (i + 1) = os.take i ++ [os.getD i 0] := by rw [yaac h]; exact List.take_succ_eq_append_getElem h
theorem yakf {os : List Int} {i : Nat} (h : i < os.length) (hn : (os.take i).Nodup) (hm : os.getD i 0 ∉ os.take i) : (os.take (i + 1)).Nodup := by
  rw [yadt h]
  exact List.nodup_append.2 ⟨hn, by simp, fun a ha b hb e => hm (by rw [List.mem_singleton.1 hb] at e; exact e ▸ ha)⟩
theorem yann {os : List Int} {i : Nat} (h : i < os.length) (hm : os.getD i 0 ∈ os.take i) : ¬ os.Nodup := fun hn => by
  have h2 : (os.take (i + 1)).Nodup := hn.sublist (List.take_sublist _ _)
  rw [yadt h] at h2
  exact (List.nodup_append.1 h2).2.2 _ hm _ (List.mem_singleton.2 rfl) rfl
theorem ybar {k : Int} {l : List Ev} {x : Nat} {os : List Int} {D : Nat → Bool} {rows : Rows} {i : Int} (h : ¬ Nxt l D x) : wit k l ((x : Int) :: os) D rows i = (false, i) := by
  show (if Nxt l D (x : Int).toNat then _ else _) = _
  rw [Int.toNat_natCast, if_neg h]
theorem yaoz {k : Int} {l : List Ev} {x : Nat} {os : List Int} {D : Nat → Bool} {rows : Rows} {i : Int} (h : Nxt l D x) (h2 : stepE k rows (l.getD x dEv) = none) : wit k l ((x : Int) :: os) D rows i = (false, i) := by
  show (if Nxt l D (x : Int).toNat then _ else _) = _
  rw [Int.toNat_natCast, if_pos h, h2]
theorem yapc {k : Int} {l : List Ev} {x : Nat} {os : List Int} {D : Nat → Bool} {rows r : Rows} {i : Int} (h : Nxt l D x) (h2 : stepE k rows (l.getD x dEv) = some r) : wit k l ((x : Int) :: os) D rows i = wit k l os (setD D x) r (i + 1) := by
  show (if Nxt l D (x : Int).toNat then _ else _) = _
  rw [Int.toNat_natCast, if_pos h, h2]
def WitP (W : Bool × Int × Int) (h : Hp) (v : Value) (h' : Hp) : Prop := v = .tuple #[.bool W.1, .int .i64 W.2.1, .int .i64 W.2.2] ∧ Ext h h'
theorem WitP.of {W : Bool × Int × Int} {a : Bool} {b c : Int} {h h' : Hp} (e : W = (a, b, c)) (x : Ext h h') : WitP W h (.tuple #[.bool a, .int .i64 b, .int .i64 c]) h' := ⟨by rw [e], x⟩
theorem yane {ds : List Bool} {x : Nat} (hx : x < ds.length) : (fun j => (ds.set x true).getD j false) = setD (fun j => ds.getD j false) x := by
  funext j
  unfold setD
  by_cases h : j = x
  · subst h
    simp [List.getD, hx]
  · simp [List.getD, Ne.symm h, h]
section
variable {h : Hp} {p : OA} {n c : Nat} {l : List Ev} {k : Int} {sp : OA} {sn sc : Nat} {rows : Rows}
theorem yayq {q : OA} {m d : Nat} {os : List Int} (r : EvsR h p n l) (o1 : ∀ e ∈ l, One e) (hn : n ≤ 1000) (sm : Sm l) (hk : KindP k l) (ok : OkR k rows) (rr : RowsR h sp sn rows) (ro : RdT TI h q m os) (hm : m ≤ 1000) :
    yaae Tryz.prog 13 #[.agg #[.int .i64 k, .slice sp sn sc], .slice p n c, .slice q m d] h (WitP (witR k l os rows) h) := by
  have hl := r.len
  have hol := ro.len
  refine zdh_call ?_
  rw [zdh_b0, Int.toNat_natCast, Nat.mul_one, yain]
  refine (St.start h).new (cs := [.int .i64 k, .slice sp sn sc]) fun b1 h1 x1 s1 => ⟨⟨by omega, by omega, by omega, by omega⟩, ?_⟩
  rw [← ybai]
  refine s1.new fun b2 h2 _ s2 => ?_
  have oD : Sl TB (some ⟨b2, 0, none⟩) n n (List.replicate n false) (cA b2 (TB.cells (List.replicate n false)) 4) := Sl.of_blk (by simp) rfl
  refine ⟨fun x h' => ∃ i : Nat, x.1 = (i : Int) ∧ i ≤ m ∧ h' = h2 ∧ ∀ o ∈ os.take i, 0 ≤ o ∧ o < (l.length : Int), fun x _ => m - x.1.toNat, ⟨0, rfl, by omega, rfl, by simp⟩, ?_⟩
  rintro ⟨_, _⟩ _ ⟨i, rfl, hi, rfl, i1⟩
  dsimp only
  rw [zdh_b1]
  refine condP (fun hlt => ?_) (fun hge => ?_)
  · have hmem : os.getD i 0 ∈ os := yaal (by omega)
    refine ldI (ro.ext s2.ext) rfl (by omega) (condP (fun hneg => WitP.of (yama ⟨_, hmem, .inl hneg⟩) s2.ext) (fun hnn => ldI (ro.ext s2.ext) rfl (by omega) (condP (fun hbig => WitP.of (yama ⟨_, hmem, .inr (by omega)⟩) s2.ext) (fun hok => ?_))))
    rw [zdh_b2]
    refine ⟨⟨by omega, by omega⟩, ⟨i + 1, by push_cast; rfl, by omega, rfl, fun o ho => ?_⟩, by simp only; omega⟩
    rw [yadt (by omega)] at ho
    rcases List.mem_append.1 ho with ho | ho
    · exact i1 o ho
    · rw [List.mem_singleton.1 ho]; omega
  obtain rfl : i = m := by omega
  rw [List.take_of_length_le (by omega)] at i1
  clear hge hi
  rw [zdh_b3]
  refine ⟨fun x h' => ∃ (t : Nat) (ds : List Bool) (D : Bag), x.1 = (t : Int) ∧ t ≤ i ∧ Sl TB (some ⟨b2, 0, none⟩) n n ds D ∧ St h h' (D + (cA b1 [.int .i64 k, .slice sp sn sc] 24 + 0)) ∧ (os.take t).Nodup ∧ ∀ j : Nat, j < n → (ds.getD j false = true ↔ (j : Int) ∈ os.take t), fun x _ => i - x.1.toNat, ⟨0, _, _, rfl, by omega, oD, s2, by simp, fun j hj => by simp [List.getD, hj]⟩, ?_⟩
  clear s2 oD
  rintro ⟨_, _⟩ h3 ⟨t, ds, D, rfl, ht, oD, s3, hnd, hds⟩
  dsimp only
  rw [zdh_b4]
  refine condP (fun hlt => ?_) (fun hge => ?_)
  · have hmem : os.getD t 0 ∈ os := yaal (by omega)
    have hin := i1 _ hmem
    have hdt := hds (os.getD t 0).toNat (by omega)
    rw [show (((os.getD t 0).toNat : Nat) : Int) = os.getD t 0 by omega] at hdt
    refine ldI (ro.ext s3.ext) rfl (by omega) (ldBo (oD.rd s3) (i' := (os.getD t 0).toNat) (by omega) (by omega) (yaar (fun hy => WitP.of (yani i1 (yann (by omega) (hdt.1 hy))) s3.ext) (fun hno => ?_)))
    refine ldI (ro.ext s3.ext) rfl (by omega) (Sl.wrI oD s3 (by omega) (by omega) rfl (x := true) rfl fun h4 D4 o4 s4 => ?_)
    rw [zdh_b5]
    refine ⟨⟨by omega, by omega⟩, ⟨t + 1, _, D4, by push_cast; rfl, by omega, o4, s4, yakf (by omega) hnd fun hc => (by rw [hdt.2 hc] at hno; cases hno), fun j hj => ?_⟩, by simp only; omega⟩
    rw [yadt (by omega), List.mem_append, List.mem_singleton, ← hds j hj]
    have hdl := oD.len
    have e := congrFun (yane (ds := ds) (x := (os.getD t 0).toNat) (by omega)) j
    rw [e]
    unfold setD
    rw [Bool.or_eq_true, decide_eq_true_iff]
    exact ⟨fun h => h.elim (fun h => .inr (by omega)) .inl, fun h => h.elim .inr fun h => .inl (by omega)⟩
  obtain rfl : t = i := by omega
  rw [List.take_of_length_le (by omega)] at hnd
  clear hge ht hds
  have s3 := s3.drop
  rw [zdh_b6, yavc i1 hnd, Int.toNat_natCast, Nat.mul_one, yain, ← ybai]
  refine ⟨⟨by omega, by omega, by omega, by omega⟩, s3.new fun b4 h4 _ s4 => ?_⟩
  have oD4 : Sl TB (some ⟨b4, 0, none⟩) n n (List.replicate n false) (cA b4 (TB.cells (List.replicate n false)) 4) := Sl.of_blk (by simp) rfl
  have e0 : (fun j => (List.replicate n false).getD j false) = D0 := by
    funext j
    show (List.replicate n false).getD j false = false
    by_cases hj : j < n
    · simp [List.getD, hj]
    · simp [List.getD, hj]
  obtain ⟨W, hW⟩ : ∃ W, wit k l os D0 rows 0 = W := ⟨_, rfl⟩
  rw [hW]
  refine ⟨fun x h' => ∃ (i : Nat) (ds : List Bool) (D B : Bag) (sp : OA) (sn sc : Nat) (rs : Rows), x.1 = (i : Int) ∧ i ≤ t ∧ Sl TB (some ⟨b4, 0, none⟩) n n ds D ∧ RowsX h (sp, sn, sc) rs B ∧ OkR k rs ∧ St h h' (D + (B + (cA b1 [.int .i64 k, .slice sp sn sc] 24 + 0))) ∧ wit k l (os.drop i) (fun j => ds.getD j false) rs (i : Int) = W, fun x _ => t - x.1.toNat,
    ⟨0, _, _, 0, sp, sn, sc, rows, rfl, by omega, oD4, .inr ⟨rfl, rr⟩, ok, by rw [Bag.zero_add]; exact s4, by rw [e0]; exact hW⟩, ?_⟩
  clear s4 oD4 s3 oD rr ok e0 hW
  rintro ⟨_, _⟩ h5 ⟨i, ds, D, B, sp, sn, sc, rs, rfl, hi, oD, rx, ok, s5, hW⟩
  dsimp only
  have hdl := oD.len
  rw [zdh_b7]
  refine condP (fun hlt => ?_) (fun hge => ?_)
  rotate_left
  · obtain rfl : i = t := by omega
    rw [List.drop_of_length_le (by omega)] at hW
    rw [zdh_b9]
    refine (yakv (r.ext s5.ext) (oD.rd s5) hn).mono fun v h6 ⟨⟨b6, hv, hb⟩, x6⟩ => ⟨_, hv, yaqb (fun hf => ?_) (fun hy => ?_)⟩
    · have : W = (false, (i : Int)) := by
        rw [← hW]
        exact if_neg fun h => by rw [hb.2 h] at hf; cases hf
      exact WitP.of (by rw [this]) (s5.grow x6).ext
    · have : W = (true, -1) := by
        rw [← hW]
        exact if_pos (hb.1 hy)
      exact WitP.of (by rw [this]) (s5.grow x6).ext
  have hin := i1 _ (yaal (l := os) (i := i) (d := 0) (by omega))
  obtain ⟨y, hy⟩ : ∃ y : Nat, os.getD i 0 = (y : Int) := ⟨(os.getD i 0).toNat, by omega⟩
  rw [yano (by omega), hy] at hW
  refine ldI (ro.ext s5.ext) rfl (by omega) ?_
  rw [hy]
  refine (ybaz (r.ext s5.ext) o1 (oD.rd s5) (i := y) (by omega) hn).mono fun v h6 ⟨⟨bn, hv, hbn⟩, x6⟩ => ⟨_, hv, yaqb (fun hf => ?_) (fun hyes => ?_)⟩
  · rw [ybar (fun h => by rw [hbn.2 h] at hf; cases hf)] at hW
    exact WitP.of (by rw [← hW]) (s5.grow x6).ext
  have hnxt := hbn.1 hyes
  have hyn : y < n := by omega
  have s6 := s5.grow x6
  obtain ⟨ad, hp, hcell⟩ := (r.ext s6.ext).1.at_ (i := y) hyn
  rw [yahq (by omega)] at hcell
  have em := (r.ext s6.ext).at_ hyn
  have hov : OpV k (l.getD y dEv).t.co (l.getD y dEv).zs := hk _ (yaal (by omega))
  have hsz := sm _ (yaal (l := l) (i := y) (d := dEv) (by omega))
  have cX1 : cell h6 (⟨b1, 0, none⟩ : Addr) = some (.int .i64 k) := s6.ld0
  have cX2 : cell h6 ((⟨b1, 0, none⟩ : Addr).add 1) = some (.slice sp sn sc) := s6.ldB
  have cO1 : cell h6 ((ad.add (Int.toNat (y : Int) * 8)).add 1) = some (.int .i64 (l.getD y dEv).t.co) := hcell 1 (by decide)
  have cO2 : cell h6 (((ad.add (Int.toNat (y : Int) * 8)).add 1).add 1) = some (.slice (l.getD y dEv).t.ar.1 (l.getD y dEv).t.ar.2.1 (l.getD y dEv).t.ar.2.2) := by have := hcell 2 (by decide); simpa [yach] using this
  have cR3 : cell h6 ((ad.add (Int.toNat (y : Int) * 8)).add 3) = some (.int .i64 (l.getD y dEv).t.er) := hcell 3 (by decide)
  have cR4 : cell h6 (((ad.add (Int.toNat (y : Int) * 8)).add 3).add 1) = some (.int .i64 (l.getD y dEv).t.nu) := by have := hcell 4 (by decide); simpa [yach] using this
  have cR5 : cell h6 (((ad.add (Int.toNat (y : Int) * 8)).add 3).add 2) = some (.slice (l.getD y dEv).t.li.1 (l.getD y dEv).t.li.2.1 (l.getD y dEv).t.li.2.2) := by have := hcell 5 (by decide); simpa [yach] using this
  clear hcell
  obtain ⟨R, hR⟩ : ∃ R, stepR k rs (l.getD y dEv).t.co (l.getD y dEv).zs = R := ⟨_, rfl⟩
  have hzl := em.1.1.len
  have k3 : RowsR h6 sp sn rs := rx.r (s6.to (B := B + (D + (cA b1 [.int .i64 k, .slice sp sn sc] 24 + 0))))
  have stp : ∀ {h' : Hp}, Ext h6 h' → yaae Tryz.prog 41 #[.agg #[.int .i64 k, .slice sp sn sc], .agg #[.int .i64 (l.getD y dEv).t.co, .slice (l.getD y dEv).t.ar.1 (l.getD y dEv).t.ar.2.1 (l.getD y dEv).t.ar.2.2]] h' (StepP h' 0 k R.1 R.2.1 R.2.2) := fun x => by
    have := ybaq (cc := (l.getD y dEv).t.ar.2.2) (c := sc) ok hov (k3.ext x) (em.1.1.ext x) (by omega)
    rwa [RunP, hR] at this
  generalize hnx : (fun (s' : Int × Unit) (h' : Hp) => (∃ (i : Nat) (ds : List Bool) (D B : Bag) (sp : OA) (sn sc : Nat) (rs : Rows), s'.1 = (i : Int) ∧ i ≤ t ∧ Sl TB (some ⟨b4, 0, none⟩) n n ds D ∧ RowsX h (sp, sn, sc) rs B ∧ OkR k rs ∧ St h h' (D + (B + (cA b1 [.int .i64 k, .slice sp sn sc] 24 + 0))) ∧ wit k l (os.drop i) (fun j => ds.getD j false) rs (i : Int) = W) ∧ t - s'.1.toNat < t - ((i : Nat) : Int).toNat) = nx
  have fin10 : ∀ {h' : Hp} {bt br : Nat} {q2 : OA} {m2 d2 : Nat} {B' : Bag}, RowsA (q2, m2, d2) R.1 B' → St h6 h' (cA bt [.int .i64 k, .slice q2 m2 d2] 24 + (cA br [.int .i64 R.2.1, .int .i64 R.2.2, .slice none 0 0] 58 + B')) → stepE k rs (l.getD y dEv) = some R.1 →
      zdh_b10 p n c q t d (some ⟨b1, 0, none⟩) (some ⟨b4, 0, none⟩) n n (i : Int) (y : Int) (some ⟨bt, 0, none⟩) h' nx (WitP (W.1, W.2, 0) h) := fun {h' bt br q2 m2 d2 B'} na s' hst => by
    have s7 := (s6.join s').to (B := cA bt [.int .i64 k, .slice q2 m2 d2] 24 + (cA br [.int .i64 R.2.1, .int .i64 R.2.2, .slice none 0 0] 58 + (B' + (B + D)) + (cA b1 [.int .i64 k, .slice sp sn sc] 24 + 0)))
    rw [zdh_b10]
    refine yaap rfl ⟨_, _, _, _, s7.ld0, s7.ldB, yaap rfl (s7.wr0 fun h8 s8 => s8.wrB fun h9 s9 => ?_)⟩
    have s9 : St h h9 (D + (B' + (cA b1 [.int .i64 k, .slice q2 m2 d2] 24 + 0) + (cA bt [.int .i64 k, .slice q2 m2 d2] 24 + (cA br [.int .i64 R.2.1, .int .i64 R.2.2, .slice none 0 0] 58 + B)))) := s9.to
    refine Sl.wrI oD s9 (by omega) (by omega) rfl (x := true) rfl fun h10 D10 o10 s10 => ?_
    rw [Int.toNat_natCast] at o10
    rw [zdh_b11, ← hnx]
    refine ⟨⟨by omega, by omega⟩, ⟨i + 1, _, D10, B', q2, m2, d2, R.1, by push_cast; rfl, by omega, o10, .inl na, yanh ok hov hst, ?_, ?_⟩, by simp only; omega⟩
    · exact (s10.to (B := (cA bt [.int .i64 k, .slice q2 m2 d2] 24 + (cA br [.int .i64 R.2.1, .int .i64 R.2.2, .slice none 0 0] 58 + B)) + (D10 + (B' + (cA b1 [.int .i64 k, .slice q2 m2 d2] 24 + 0))))).drop
    · rw [yane (by omega), ← hW, yapc hnxt hst]
      push_cast
      rfl
  have fin8 : ∀ {h' : Hp} {bt br : Nat} {q2 : OA} {m2 d2 : Nat} {B' : Bag}, RowsA (q2, m2, d2) R.1 B' → St h6 h' (cA bt [.int .i64 k, .slice q2 m2 d2] 24 + (cA br [.int .i64 R.2.1, .int .i64 R.2.2, .slice none 0 0] 58 + B')) →
      zdh_b8 p n c q t d (some ⟨b1, 0, none⟩) (some ⟨b4, 0, none⟩) n n (i : Int) (y : Int) (some ⟨bt, 0, none⟩) (some ⟨br, 0, none⟩) h' nx (WitP (W.1, W.2, 0) h) := fun {h' bt br q2 m2 d2 B'} na s' => by
    rw [zdh_b8]
    have x := s6.ext.trans s'.ext
    refine (r.ext x).ldEn rfl hyn (condP (fun he => ?_) (fun he => fin10 na s' (by unfold stepE; rw [if_neg (fun h => he h.1), hR])))
    refine yaap rfl ⟨_, _, _, _, _, s'.ld0, s'.ldB, s'.ldB, ⟨by omega, by omega⟩, yaap hp ⟨_, _, _, _, _, s'.ext.cell cR3, s'.ext.cell cR4, s'.ext.cell cR5, ?_⟩⟩
    refine (yauu (RdT.nil _ none) (em.2.1.ext s'.ext) (Nat.zero_le _)).mono fun v h6 ⟨x6, hv⟩ => ⟨_, hv, condN (fun hne => ?_) (fun heq => fin10 na (s'.grow x6) ?_)⟩
    · rw [yaoz hnxt (by
        unfold stepE
        rw [hR]
        exact if_pos ⟨he, fun h => hne (by rw [h.1, h.2.1, h.2.2])⟩)] at hW
      exact WitP.of (by rw [← hW]) (x.trans x6)
    · unfold stepE
      rw [hR]
      injection heq with g1 g2
      injection g2 with g2 g3
      exact if_neg fun h => h.2 ⟨g1, g2, g3.symm⟩
  have fin : ∀ {h' : Hp} {bt br : Nat} {q2 : OA} {m2 d2 : Nat} {B' : Bag}, RowsA (q2, m2, d2) R.1 B' → St h6 h' (cA bt [.int .i64 0, .slice none 0 0] 24 + (cA br [.int .i64 0, .int .i64 0, .slice none 0 0] 58 + B')) →
      Wr h' ⟨bt, 0, none⟩ (.int .i64 k) fun h1 => Wr h1 ((⟨bt, 0, none⟩ : Addr).add 1) (.slice q2 m2 d2) fun h2 => Wr h2 ⟨br, 0, none⟩ (.int .i64 R.2.1) fun h3 => Wr h3 ((⟨br, 0, none⟩ : Addr).add 1) (.int .i64 R.2.2) fun h4 => Wr h4 ((⟨br, 0, none⟩ : Addr).add 2) (.slice none 0 0) fun h5 =>
        zdh_b8 p n c q t d (some ⟨b1, 0, none⟩) (some ⟨b4, 0, none⟩) n n (i : Int) (y : Int) (some ⟨bt, 0, none⟩) (some ⟨br, 0, none⟩) h5 nx (WitP (W.1, W.2, 0) h) := fun {h' bt br q2 m2 d2 B'} na s' =>
    s'.wr0 fun g1 t1 => t1.wrB fun g2 t2 => t2.wr0 fun g3 t3 => t3.wrB fun g4 t4 => t4.wrB fun g5 t5 => fin8 na t5.to
  refine yaap rfl ⟨_, _, _, _, cX1, cX2, ⟨by omega, by omega⟩, yaap hp ⟨_, _, _, _, cO1, cO2, ?_⟩⟩
  clear s5 s6
  have s := St.start h6
  repeat' first
    | (with_reducible refine fin na2 ?_); exact s.to
    | (with_reducible refine St.new s (cs := [.int .i64 0, .int .i64 0, .slice none 0 0]) ?_); intro _ _ _ s
    | (with_reducible refine St.new s (cs := [.int .i64 0, .slice none 0 0]) ?_); intro _ _ _ s
    | (with_reducible refine yaae.mono (stp s.ext) ?_); rintro _ _ ⟨q2, m2, d2, B2, hv2, na2, tt⟩; refine ⟨_, _, _, _, _, _, _, _, _, hv2, ?_⟩; have s := s.join tt; clear tt
    | with_reducible refine ⟨⟨_, _, _, _, s.ext.cell cO1, s.ext.cell cO2, rfl⟩, ?_⟩
    | with_reducible refine ⟨yaap rfl ⟨_, _, _, _, s.ext.cell cX1, s.ext.cell cX2, rfl⟩, ?_⟩
    | with_reducible refine ⟨?_, ?_⟩
end
end Go.Proofs.YtllhdhpjgihjfaaGreatDoor
