/- Part EJ EK EL EM EN EO EP EQ ER R1 FBL of the proof: contracts of functions of the program, and what follows from them. -/
import Derived.Test.YtllhdhpjgihjfaaGreatDoorSxEI
import Derived.Test.YtllhdhpjgihjfaaGreatDoorSxV0
import Derived.Shelf.Lay
import Derived.Shelf.Strconv.AppendIntPublic10
import Derived.Shelf.LaysM
import Derived.Test.YtllhdhpjgihjfaaGreatDoorSxX5
import Derived.Deep.Slices
import Derived.OpenShut
import Derived.Test.YtllhdhpjgihjfaaGreatDoorCards
import Derived.Test.YtllhdhpjgihjfaaGreatDoorTie
import Derived.WalkKit
import Derived.ProofKit
import Derived.ShutString
import Derived.ChangeOld
import Derived.Below
import Derived.ChangeMaps5
import Derived.Deep.Grids
import Derived.LaidMore
import Derived.Stop.LaidErr
import Derived.Stop.Joined
import Derived.Lib.LaidTab
import Derived.MakeChecks
import Derived.SevenTiedAt
set_option maxRecDepth 100000
namespace Go.Proofs.YtllhdhpjgihjfaaGreatDoor
open Go Go.Sx
theorem ok_ev : ElOk tEv Tryz.prog 25 := yaex (by kernel_rfl)
theorem yari {h : Hp} {p : OA} {n c : Nat} {xs : List EvT} (r : RdT tEv h p n xs) (hn : n < 1000000) :
    yaag Tryz.prog 49 #[.slice p n c] h (fun v h' => ∃ q d A, v = .slice q n d ∧ Sl tEv q n d xs A ∧ St h h' A) := by
  refine zcs_call ?_
  rw [zcs_b0]
  refine yaap (fun h1 => ?_) (fun h1 => ?_)
  · have hp : p = none := by cases p with | none => rfl | some a => cases h1
    subst hp
    obtain rfl : n = 0 := by
      rcases r.2 with h2 | ⟨a, h2, _⟩
      · exact h2
      · cases h2
    have : xs = [] := List.eq_nil_of_length_eq_zero r.1
    subst this
    exact ⟨_, _, 0, rfl, Sl.nil, St.start h⟩
  · refine (St.start h).new (cs := []) fun b h1 x s1 => ?_
    have o : Sl tEv (some ⟨b, 0, none⟩) 0 0 [] (cA b [] tEv.e) := Sl.of_blk rfl rfl
    refine yacn ok_ev s1 o (r.ext x) (by omega) fun p' c' h' A' a' s' => ?_
    rw [List.nil_append, Nat.zero_add] at a'
    rw [Nat.zero_add]
    exact ⟨_, _, A', rfl, a', s'.to⟩
abbrev cfBg (x y : EvT) : Int := x.bg - y.bg
theorem ordBg : OrdP (fun x y : EvT => cfBg x y < 0) := ⟨fun x y h1 h2 => by unfold cfBg at *; omega, fun x y z h1 h2 => by unfold cfBg at *; omega⟩
theorem cmpBg (h0 : Hp) : CmpEV h0 (.func (.func 51) #[] #[]) cfBg (fun x => 0 ≤ x.bg ∧ x.bg ≤ 65536) := fun x y h K _ hx hy hK => by
  refine yafg (args' := #[encEv x, encEv y]) (by kernel_rfl) ?_ rfl
  refine zao_call ?_
  rw [zao_b0]
  exact (St.start h).new (cs := evC x) fun b1 h1 _ s => s.new (cs := evC y) fun b2 h2 _ s => ⟨_, s.atomBlk.cell 6, _, s.blk.cell 6, ⟨by omega, by omega⟩, hK _ s.ext⟩
section
variable {h : Hp} {p : OA} {n c : Nat} {l : List Ev}
theorem yaxu (r : EvsR h p n l) (sm : Sm l) : yaag Tryz.prog 17 #[.slice p n c] h (fun v h' => Ext h h' ∧
    ((¬ yact l ∧ v = .tuple #[.bool false, .int .i64 1]) ∨ (yact l ∧ ∃ bb, v = .tuple #[.bool bb, .int .i64 0] ∧ (bb = true ↔ SeqT (l.map Ev.t))))) := by
  have hl := r.len
  refine zan_call ?_
  rw [zan_b0]
  refine (yagb r sm).mono fun v h1 ⟨⟨bb, hv, hbb⟩, x1⟩ => ⟨_, hv, yaap (fun hno => ⟨x1, .inl ⟨fun o => (by rw [hbb.2 o] at hno; cases hno), rfl⟩⟩) (fun hyes => ?_)⟩
  have hv : yact l := hbb.1 (by simpa using hyes)
  have hv' := hv
  obtain ⟨_, _, hn, hone, _⟩ := hv'
  refine (yari (r.1.ext x1) (by omega)).mono fun v h2 ⟨q, d, A, hv2, o2, s2⟩ => ⟨_, _, _, hv2, ?_⟩
  refine (yazr (F := 0) (cmpBg h1) ordBg (by rw [Bag.add_zero]; exact s2) o2 (fun k hk => ?_) (by omega)).mono fun v h3 ⟨hv3, ys, A', o3, s3, hp, hs⟩ => ⟨hv3, ?_⟩
  · rw [yamc (by omega)]
    exact (hone _ (yaar (by omega))).2.1
  have key := yapx hp (fun e he => by obtain ⟨x, hx, rfl⟩ := List.mem_map.1 he; exact (hone x hx).one) (hs.imp fun h => by unfold cfBg at h; omega)
  rw [o3.len] at key
  refine ⟨fun x h' => ∃ i : Nat, x.1 = (i : Int) ∧ 1 ≤ i ∧ (∀ j, j + 1 < i → precT (ys.getD j tEv.d) (ys.getD (j + 1) tEv.d)) ∧ St h1 h' (A' + 0), fun x _ => n - x.1.toNat, ⟨1, rfl, Nat.le_refl _, fun j hj => absurd hj (by omega), s3⟩, ?_⟩
  rintro ⟨_, _⟩ h4 ⟨i, rfl, hi, i1, s4⟩
  dsimp only
  rw [zan_b1]
  refine condP (fun hlt => ?_) (fun hge => ?_)
  · refine ⟨⟨by omega, by omega⟩, ldEV (o3.rd s4) (i' := i - 1) (by omega) (by omega) (ldEV (o3.rd s4) rfl (by omega) ((yacx _ _ _).mono fun v h5 ⟨hv5, x5⟩ => ⟨_, hv5, condN (fun hno => ?_) (fun hy => ?_)⟩))⟩
    · refine ⟨x1.trans (s4.grow x5).ext, .inr ⟨hv, false, rfl, fun h => (by cases h), fun h => ?_⟩⟩
      have := key.2 h (i - 1) (by omega)
      rw [show i - 1 + 1 = i by omega] at this
      exact absurd this hno
    · rw [zan_b2]
      refine ⟨⟨by omega, by omega⟩, ⟨i + 1, by push_cast; rfl, by omega, fun j hj => ?_, s4.grow x5⟩, by simp only; omega⟩
      rcases Nat.lt_or_ge (j + 1) i with h | h
      · exact i1 j h
      · obtain rfl : j = i - 1 := by omega
        rw [show i - 1 + 1 = i by omega]
        exact hy
  · rw [zan_b3]
    exact ⟨x1.trans s4.ext, .inr ⟨hv, true, rfl, fun _ => key.1 fun j hj => i1 j (by omega), fun _ => rfl⟩⟩
def FewP (l : List Ev) (rows : List (List Int)) : Prop := (l.length ≤ 12 ∨ 1000 < l.length ∧ l.length < 1005) ∧ Sm l ∧ rows.length ≤ 20 ∧ ∀ w ∈ rows, w.length ≤ 40
theorem yaxm {sp : OA} {sn sc : Nat} {rows : List (List Int)} (r : RowsR h sp sn rows) (hn : sn ≤ 20) :
    yaag Tryz.prog 32 #[.slice sp sn sc, .func (.func 33) #[] #[]] h (fun v h' => v = .bool (rows.any fun w => decide (40 < w.length)) ∧ h' = h) := by
  have hl := r.len
  refine zcw_call ?_
  rw [zcw_b0]
  refine zdd_call ?_
  rw [zdd_b0]
  refine ⟨fun s h' => h' = h ∧ ∃ i : Nat, s.1 = i ∧ i ≤ sn ∧ (rows.take i).any (fun w => decide (40 < w.length)) = false, fun s _ => sn - s.1.toNat, ⟨rfl, 0, rfl, by omega, rfl⟩, ?_⟩
  rintro ⟨_, _⟩ h1 ⟨rfl, i, rfl, hin, hno⟩
  dsimp only
  rw [zdd_b1]
  refine condP (fun hlt => ?_) (fun hge => ?_)
  · have hi : i < rows.length := by omega
    refine r.hdr rfl (by omega) fun q d rr _ => yafg (args' := #[.slice q (rows.getD i []).length d]) (by kernel_rfl) (zai_call ?_) rfl
    rw [zai_b0]
    refine ⟨_, rfl, condP (fun hy => ?_) (fun hy => ?_)⟩
    · refine ⟨_, rfl, ?_, rfl⟩
      rw [List.any_eq_true.2 ⟨_, yaar (d := []) hi, decide_eq_true (by omega)⟩, decide_eq_true (by omega)]
    · rw [zdd_b2]
      refine ⟨⟨by omega, by omega⟩, ⟨rfl, i + 1, by simp only; omega, by omega, ?_⟩, by simp only; omega⟩
      rw [yaah hi] at hy
      rw [List.take_succ_eq_append_getElem hi, List.any_append, hno]
      simp
      omega
  · rw [zdd_b3]
    rw [List.take_of_length_le (by omega)] at hno
    exact ⟨_, rfl, by rw [hno]; rfl, rfl⟩
theorem ybaq {sp : OA} {sn sc : Nat} {rows : List (List Int)} {k : Int} (r : EvsR h p n l) (rr : RowsR h sp sn rows) :
    yaag Tryz.prog 8 #[.agg #[.int .i64 k, .slice sp sn sc], .slice p n c] h (VP (FewP l rows) h) := by
  have hl := r.len
  have hrl := rr.len
  refine zag_call ?_
  rw [zag_b0]
  refine (St.start h).new (cs := [.int .i64 k, .slice sp sn sc]) fun b1 h1 x1 s => ?_
  have rest : n ≤ 1000000 → (l.length ≤ 12 ∨ 1000 < l.length ∧ l.length < 1005) → yaag Tryz.prog 30 #[.slice p n c, .func (.func 31) #[] #[]] h1 (fun v1 h2 => ∃ r1 : Bool, v1 = .bool r1 ∧
      cond (!r1) (∃ a1 L1 C1, cell h2 ((⟨b1, 0, none⟩ : Addr).add 1) = some (.slice a1 L1 C1) ∧
        cond (decide ((L1 : Int) ≤ 20)) (∃ a2 L2 C2, cell h2 ((⟨b1, 0, none⟩ : Addr).add 1) = some (.slice a2 L2 C2) ∧
          yaag Tryz.prog 32 #[.slice a2 L2 C2, .func (.func 33) #[] #[]] h2 fun v2 h3 => ∃ r2 : Bool, v2 = .bool r2 ∧ VP (FewP l rows) h (.bool (!r2)) h3)
          (VP (FewP l rows) h (.bool false) h2)) (VP (FewP l rows) h (.bool false) h2)) := fun hn hlen => by
    refine (yagn (g := fun e => decide (70 < e.zs.length) || decide (20 < e.ls.length)) (r.ext x1) hn fun e he h2 K x2 hK => ?_).mono fun v h2 ⟨hv, x2⟩ => ⟨_, hv, ?_⟩
    · have em := r.2 e he
      have e1 := em.1.1.len
      have e2 := em.2.1.len
      refine yafg (args' := #[encEv e.t]) (by kernel_rfl) (zah_call ?_) rfl
      rw [zah_b0]
      refine (St.start h2).new (cs := evC e.t) fun b2 h3 x3 t => ⟨_, _, _, t.blk.cell 2, condP (fun h => ?_) (fun h => ⟨_, _, _, t.blk.cell 5, ?_⟩)⟩
      · have := hK h3 x3
        rwa [decide_eq_true (by omega), Bool.true_or] at this
      · have := hK h3 x3
        rw [decide_eq_false (by omega), Bool.false_or] at this
        rw [show decide ((20 : Int) < (e.t.li.2.1 : Int)) = decide (20 < e.ls.length) from decide_eq_decide.2 ⟨fun h => by omega, fun h => by omega⟩]
        exact this
    · have s2 := s.grow x2
      refine yaap (fun hb => ?_) (fun hb => VP.no (fun o => ?_) s2.ext)
      · have sm : Sm l := fun e he => by
          have := List.any_eq_false.1 (show (l.any fun e => decide (70 < e.zs.length) || decide (20 < e.ls.length)) = false by simpa using hb) e he
          simp at this
          omega
        refine ⟨_, _, _, s2.ldB, condP (fun h20 => ⟨_, _, _, s2.ldB, (yaxm (rr.ext s2.ext) (by omega)).mono fun v h3 ⟨hv, hh⟩ => ⟨_, hv, ?_⟩⟩) (fun h20 => VP.no (fun o => by have := o.2.2.1; omega) s2.ext)⟩
        subst hh
        refine ⟨⟨_, rfl, ?_⟩, s2.ext⟩
        rw [Bool.not_eq_true', List.any_eq_false]
        constructor
        · exact fun h => ⟨hlen, sm, by omega, fun w hw => by have := h w hw; simpa using this⟩
        · exact fun o w hw => by have := o.2.2.2 w hw; simpa using this
      · have : (l.any fun e => decide (70 < e.zs.length) || decide (20 < e.ls.length)) = true := by simpa using hb
        obtain ⟨e, he, h⟩ := List.any_eq_true.1 this
        have := o.2.1 e he
        simp at h
        omega
  refine condP (fun h12 => rest (by omega) (.inl (by omega))) (fun h12 => condP (fun h1000 => condP (fun h1005 => rest (by omega) (.inr ⟨by omega, by omega⟩)) (fun h => VP.no (fun o => by have := o.1; omega) s.ext)) (fun h => VP.no (fun o => by have := o.1; omega) s.ext))
end
abbrev yaye (h0 : Hp) : Prop := ∀ h : Hp, Ext h0 h → yaag Tryz.prog 7 #[] h (fun v h' => v = .bool true ∧ Ext h h')
abbrev TrueP (h : Hp) : VK := fun v h' => v = .bool true ∧ Ext h h'
theorem yamr (h : Hp) : RowsR h none 0 [] := ⟨rfl, [], RdT.nil h none, fun i hi => absurd hi (by omega)⟩
theorem yapc {h : Hp} (aw : yaye h) {p : OA} {n c : Nat} {l : List Ev} (r : EvsR h p n l) : yaag Tryz.prog 5 #[.slice p n c] h (TrueP h) := by
  have hl := r.len
  refine zae_call ?_
  rw [zae_b0]
  refine (aw h (Ext.refl h)).mono fun v h1 ⟨hv, x1⟩ => ⟨_, hv, yaba rfl ?_⟩
  refine (ybaq (r.ext x1) (yamr h1)).mono fun v h2 ⟨⟨bf, hv, hbf⟩, x2⟩ => ⟨_, hv, ?_⟩
  have x2 := x1.trans x2
  refine yaap (fun _ => (aw h2 x2).mono fun v h3 ⟨hv, x3⟩ => ⟨_, hv, rfl, x2.trans x3⟩) (fun hf => ?_)
  have sm : Sm l := (hbf.1 (by simpa using hf)).2.1
  rw [zae_b1]
  refine (yasd (r.ext x2) sm).mono fun v h3 ⟨⟨b5, hv, hb5⟩, x3⟩ => ⟨_, hv, ?_⟩
  have x3 := x2.trans x3
  have tail : ∀ {h4 : Hp} {q : OA} {m d : Nat} {e1 : Int}, Ext h h4 → (¬ yact l ∧ m = 0 ∧ e1 = 1 ∨ yact l ∧ e1 = 0 ∧ RdT tP2 h4 q m (yaes l n)) →
      yaag Tryz.prog 17 #[.slice p n c] h4 fun v7 h7 => ∃ r8 : Bool, ∃ r9 : Int, v7 = .tuple #[.bool r8, .int .i64 r9] ∧
      yaag Tryz.prog 18 #[.slice p n c] h7 fun v8 h8 => ∃ r10 : Bool, v8 = .bool r10 ∧
      cond (!(r10 == b5)) (TrueP h (.bool false) h8)
      (cond (!b5) (cond (decide ((m : Int) = 0)) (cond (decide (e1 = 1)) (cond (!r8) (TrueP h (.bool (decide (r9 = 1))) h8) (TrueP h (.bool false) h8)) (TrueP h (.bool false) h8)) (TrueP h (.bool false) h8))
      (yaag Tryz.prog 20 #[.slice p n c] h8 fun v9 h9 => ∃ (r11 : OA) (rL2 rC2 : Nat), v9 = .slice r11 rL2 rC2 ∧
      yaag Tryz.prog 19 #[.slice q m d, .slice r11 rL2 rC2] h9 fun v10 h10 => ∃ r12 : Bool, v10 = .bool r12 ∧
      cond r12 (cond (decide (e1 = 0)) (yaag Tryz.prog 21 #[.slice p n c] h10 fun v11 h11 => ∃ r13 : Bool, v11 = .bool r13 ∧
      cond (r8 == r13) (TrueP h (.bool (decide (r9 = 0))) h11) (TrueP h (.bool false) h11)) (TrueP h (.bool false) h10)) (TrueP h (.bool false) h10))) := fun {h4 q m d e1} x4 hp => by
    refine (yaxu (r.ext x4) sm).mono fun v h5 ⟨x5, hs⟩ => ?_
    have x5' := x4.trans x5
    rcases hp with ⟨hno, hm, he⟩ | ⟨hyes, he, rp⟩
    · rcases hs with ⟨_, hv⟩ | ⟨hy, _⟩
      · refine ⟨_, _, hv, (yagb (r.ext x5') sm).mono fun v h6 ⟨⟨b6, hv6, hb6⟩, x6⟩ => ⟨_, hv6, ?_⟩⟩
        have e5 : b5 = false := by cases b5 with | false => rfl | true => exact absurd (hb5.1 rfl) hno
        have e6 : b6 = false := by cases b6 with | false => rfl | true => exact absurd (hb6.1 rfl) hno
        subst e5 e6 hm he
        exact yaba rfl (yaaz rfl (yaaz rfl (yaaz rfl (yaaz rfl ⟨rfl, x5'.trans x6⟩))))
      · exact absurd hy hno
    · rcases hs with ⟨hno, _⟩ | ⟨_, bb, hv, hbb⟩
      · exact absurd hyes hno
      · refine ⟨_, _, hv, (yagb (r.ext x5') sm).mono fun v h6 ⟨⟨b6, hv6, hb6⟩, x6⟩ => ⟨_, hv6, ?_⟩⟩
        obtain ⟨_, _, hn, _⟩ := id hyes
        have e5 : b5 = true := hb5.2 hyes
        have e6 : b6 = true := hb6.2 hyes
        subst e5 e6 he
        refine yaba rfl (yaba rfl ?_)
        have x6' := x5'.trans x6
        refine (yast (r.ext x6') (by omega)).mono fun v h7 ⟨q2, m2, d2, A2, hv7, o7, s7⟩ => ⟨_, _, _, hv7, ?_⟩
        have hm := rp.len
        have hsz := yajw (l := l) (i := n)
        have hle : n * l.length ≤ 1000 * 1000 := Nat.mul_le_mul (by omega) hn
        have o7' := o7.rd (s7.to (B := A2 + 0) (by rw [Bag.add_zero]))
        refine (yayd (rp.ext ((x5.trans x6).trans s7.ext)) o7' (by omega)).mono fun v h8 ⟨hh, hv8⟩ => ⟨_, hv8, yaaz (decide_eq_true rfl) (yaaz rfl ?_)⟩
        subst hh
        have x8 := x6'.trans s7.ext
        refine (yaxn (r.ext x8) (by omega)).mono fun v h9 ⟨⟨b9, hv9, hb9⟩, x9⟩ => ⟨_, hv9, yaaz ?_ ⟨rfl, x8.trans x9⟩⟩
        rw [beq_iff_eq, Bool.eq_iff_iff]
        exact hbb.trans hb9.symm
  refine (yatd (r.ext x3) sm).mono fun v h4 hp => ?_
  rcases hp with ⟨hno, hv, x4⟩ | ⟨hy, q, m, d, A, hv, o4, s4⟩
  · exact ⟨_, _, _, _, hv, tail (x3.trans x4) (.inl ⟨hno, rfl, rfl⟩)⟩
  · exact ⟨_, _, _, _, hv, tail (x3.trans s4.ext) (.inr ⟨hy, rfl, o4.rd (s4.to (B := A + 0) (by rw [Bag.add_zero]))⟩)⟩
end Go.Proofs.YtllhdhpjgihjfaaGreatDoor
namespace Go.Proofs
open Go.Shelf
shelf_lay LaysM.n176 Nm 176 at Tryz as Tryz.laysM176
open Go.RowKit Go.Lib in
theorem Tryz.strconv_AppendInt (B n : Nat) (i : Int) (h0 : -9223372036854775808 ≤ i) (h1 : i ≤ 9223372036854775807) (sv : Value) (xs : List Value) (w : World) (hown : w.ownsRow B 5 1 sv n xs) (hBw : B ≤ w.heap.size) (hlim : n + 21 ≤ 140737488355328)
    (htab : Lib.TabBelow Tryz.prog B w "internal/strconv.uint64pow10" .u64 Lib.pow10Tab) :
    Calls Tryz.prog 99 #[sv, .int .i64 i, .int .i64 10] w fun e w' => ∃ v', e = .returned v' ∧ w'.ownsRow B 5 1 v' (n + (Lib.itoa i).length) (xs ++ Lib.byteCells (Lib.itoa i)) ∧ Below B w w' ∧ Lib.OthersKept 5 none w w' :=
  Any.strconv_AppendInt_10 Tryz.laysM176 B n i h0 h1 sv xs w hown hBw hlim htab
end Go.Proofs
namespace Go.Proofs.YtllhdhpjgihjfaaGreatDoor
open Go Go.Sx Go.Lib
abbrev tU8 : Ty UInt8 := ⟨5, 1, fun b => [byteV b], 0, fun _ => rfl, by decide, fun _ v hv => by simp at hv; rw [hv]; rfl⟩
theorem ok_u8 : ElOk tU8 Tryz.prog 124 := yaex (by kernel_rfl)
theorem yanc (xs : List UInt8) : tU8.cells xs = xs.map byteV := by
  induction xs with
  | nil => rfl
  | cons a xs ih => rw [Ty.cells_cons, ih]; rfl
def Tab10 (h : Hp) : Prop := ∃ (g : Nat) (e : TypeId) (fz : Nat × Nat), Tryz.prog.globalNamed "internal/strconv.uint64pow10" = some g ∧ h[g]? = some (.cells (Lib.pow10Tab.map fun z => Value.int .u64 z).toArray e fz)
theorem Tab10.ext {h h' : Hp} (t : Tab10 h) (x : Ext h h') : Tab10 h' := let ⟨g, e, fz, h1, h2⟩ := t; ⟨g, e, fz, h1, x.get h2⟩
theorem yagk {h0 h : Hp} {p : OA} {n c b1 : Nat} {xs : List UInt8} {A : Bag} {cs : List Value} {e : TypeId} {i : Int} (tab : Tab10 h0) (he : e ≠ 5) (hi : -9223372036854775808 ≤ i ∧ i ≤ 9223372036854775807) (hn : n ≤ 1000000000) (hc : c ≤ 9223372036854775807)
    (a : Sl tU8 p n c xs A) (s : St h0 h (A + cA b1 cs e)) :
    yaag Tryz.prog 99 #[.slice p n c, .int .i64 i, .int .i64 10] h (fun v h' => ∃ q d A', v = .slice q (n + (itoa i).length) d ∧ d ≤ 9223372036854775807 ∧ Sl tU8 q (n + (itoa i).length) d (xs ++ itoa i) A' ∧ St h0 h' (A' + cA b1 cs e)) := by
  intro w hw
  subst hw
  have hs := s.ext
  obtain ⟨kb1, kb2⟩ := (s.to (B := cA b1 cs e + A)).head
  have hown : w.ownsRow h0.size 5 1 (.slice p n c) n (xs.map byteV) := by
    rcases a with ⟨hl, ⟨rfl, rfl, rfl, rfl⟩ | ⟨b, rest, rfl, hnc, hr, rfl⟩⟩
    · exact ⟨by rw [List.length_map, hl], .inl ⟨rfl, rfl⟩⟩
    · obtain ⟨h1, h2⟩ := s.head
      have hr : rest.length = (c - n) * 1 := hr
      refine ⟨by rw [List.length_map, hl, Nat.mul_one], .inr ⟨b, c, _, rfl, h1, h2, hnc, by unfold maxLen; omega, ?_, ?_⟩⟩
      · rw [List.size_toArray, List.length_append, yanc, List.length_map, hl]; omega
      · rw [yanc, Nat.mul_one]
        show List.take n (xs.map byteV ++ rest) = _
        exact List.take_left' (by rw [List.length_map, hl])
  have htab : Lib.TabBelow Tryz.prog h0.size w "internal/strconv.uint64pow10" .u64 Lib.pow10Tab := fun w' hb => by
    obtain ⟨g, e, fz, h1, h2⟩ := tab
    have hg : g < h0.size := by
      rcases Nat.lt_or_ge g h0.size with h | h
      · exact h
      · rw [Array.getElem?_eq_none h] at h2; cases h2
    have h3 : w'.heap[g]? = some (.cells (Lib.pow10Tab.map fun z => Value.int .u64 z).toArray e fz) := by rw [hb.block g hg, hs.same g hg]; exact h2
    unfold Lib.TabIs World.var?
    rw [h1, Option.bind_some, h3]
  refine (Tryz.strconv_AppendInt h0.size n i hi.1 hi.2 _ _ w hown hs.size (by omega) htab).mono fun e' w' ⟨v', he', hown', hb, hk⟩ => ⟨v', he', ⟨hb.os, hb.tape, hb.output⟩, ?_⟩
  have hx : Ext h0 w'.heap := ⟨Nat.le_trans hs.size hb.size, fun j hj => by rw [hb.block j hj, hs.same j hj]⟩
  have k2 : w'.heap[b1]? = some (.cells cs.toArray e (0, 0)) := hk b1 _ kb2 (by simp) fun c fz h => by cases h; exact he rfl
  have hxs : xs.map byteV ++ Lib.byteCells (itoa i) = (xs ++ itoa i).map byteV := by rw [List.map_append]; rfl
  rw [hxs] at hown'
  obtain ⟨hl', hv'⟩ := hown'
  rw [List.length_map, Nat.mul_one] at hl'
  rcases hv' with ⟨rfl, hz⟩ | ⟨g, cap, cur, rfl, hg0, hgh, hle, hcm, hsz, htk⟩
  · have : xs ++ itoa i = [] := List.eq_nil_of_length_eq_zero (by omega)
    rw [this, hz]
    refine ⟨none, 0, 0, rfl, Nat.zero_le _, Sl.nil, ?_⟩
    rw [Bag.zero_add]
    exact St.mk' (l := [(b1, .cells cs.toArray e (0, 0))]) hx (by simp) fun a ha => by rw [List.mem_singleton.1 ha]; exact ⟨kb1, k2⟩
  · rw [Nat.mul_one] at htk hsz
    have hcur : (tU8.cells (xs ++ itoa i) ++ cur.toList.drop (n + (itoa i).length)).toArray = cur := by
      rw [yanc, ← htk, List.take_append_drop]
    refine ⟨some ⟨g, 0, none⟩, cap, cA g (tU8.cells (xs ++ itoa i) ++ cur.toList.drop (n + (itoa i).length)) 5, rfl, by unfold maxLen at hcm; omega, ⟨hl', .inr ⟨g, _, rfl, hle, ?_, rfl⟩⟩, ?_⟩
    · rw [List.length_drop, Array.length_toList, hsz]
      show _ = _ * 1
      omega
    · unfold cA
      rw [hcur]
      refine St.mk' (l := [(g, .cells cur 5 (0, 0)), (b1, .cells cs.toArray e (0, 0))]) hx ?_ fun a ha => ?_
      · simp only [List.map_cons, List.map_nil, List.nodup_cons, List.mem_singleton, List.not_mem_nil, not_false_eq_true, List.nodup_nil, and_true]
        rintro rfl
        rw [hgh] at k2
        cases k2
        exact he rfl
      · rcases List.mem_cons.1 ha with rfl | ha
        · exact ⟨hg0, hgh⟩
        · rw [List.mem_singleton.1 ha]; exact ⟨kb1, k2⟩
theorem yapd : ∀ (k u : Nat), u < 10 ^ (k + 1) → (decDigits u).length ≤ k + 1
  | 0, u, h => by
    rw [decDigits, dif_pos (by simpa using h)]
    simp
  | k + 1, u, h => by
    rw [decDigits]
    split
    · simp
    · have := yapd k (u / 10) (by rw [Nat.pow_succ] at h; omega)
      rw [List.length_append, List.length_singleton]
      omega
theorem yarf {z : Int} (h : -10000000 < z ∧ z < 10000000) : (itoa z).length ≤ 8 := by
  unfold itoa
  split
  · have := yapd 6 z.natAbs (by omega)
    rw [List.length_cons]; omega
  · have := yapd 6 z.toNat (by omega)
    omega
abbrev InK (z : Int) : Prop := -10000000 < z ∧ z < 10000000
theorem yalb : ∀ {r : List Int}, (∀ z ∈ r, InK z) → (rowK r).length ≤ 9 * r.length
  | [], _ => Nat.le_refl _
  | a :: r, h => by
    have ih := yalb (r := r) fun z hz => h z (List.mem_cons_of_mem _ hz)
    have := yarf (h a List.mem_cons_self)
    show (44 :: itoa a ++ rowK r).length ≤ _
    rw [List.length_append, List.length_cons, List.length_cons]
    omega
theorem yamh : ∀ {r : Rows}, (∀ w ∈ r, w.length ≤ 500 ∧ ∀ z ∈ w, InK z) → (rowsK r).length ≤ 4501 * r.length
  | [], _ => Nat.le_refl _
  | a :: r, h => by
    have ih := yamh (r := r) fun z hz => h z (List.mem_cons_of_mem _ hz)
    obtain ⟨h1, h2⟩ := h a List.mem_cons_self
    have := yalb h2
    show (59 :: rowK a ++ rowsK r).length ≤ _
    rw [List.length_append, List.length_cons, List.length_cons]
    omega
theorem yatg {r : List Int} {i : Nat} (hi : i < r.length) : rowK (r.take (i + 1)) = rowK (r.take i) ++ 44 :: itoa (r.getD i 0) := by
  rw [List.take_succ_eq_append_getElem hi, yaah hi]
  unfold rowK
  rw [List.flatMap_append]
  simp
theorem yaoy {r : Rows} {i : Nat} (hi : i < r.length) : rowsK (r.take (i + 1)) = rowsK (r.take i) ++ 59 :: rowK (r.getD i []) := by
  rw [List.take_succ_eq_append_getElem hi, yaah hi]
  unfold rowsK
  rw [List.flatMap_append]
  simp
theorem RowsR.hdrX {h h' : Hp} {p : OA} {n : Nat} {rows : Rows} {i : Int} {i' : Nat} {Q : OA → Nat → Nat → Prop} (r : RowsR h p n rows) (x : Ext h h') (ei : i = (i' : Int)) (hi : i' < n)
    (hq : ∀ q d, RdT TI h q (rows.getD i' []).length (rows.getD i' []) → (rows.getD i' []).length ≤ d → Q q (rows.getD i' []).length d) : (0 ≤ i ∧ i < (n : Int)) ∧ NN p fun a => ∃ q l d, cell h' (a.add (i.toNat * 1)) = some (.slice q l d) ∧ Q q l d := by
  subst ei
  refine ⟨⟨by omega, by omega⟩, ?_⟩
  obtain ⟨_, hs, r1, r2⟩ := r
  obtain ⟨ad, hp, hc⟩ := (r1.ext x).at_ (i := i') hi
  obtain ⟨r3, r4⟩ := r2 i' hi
  have hl := r3.len
  refine yaat hp ⟨(hs.getD i' TR.d).1, (hs.getD i' TR.d).2.1, (hs.getD i' TR.d).2.2, by simpa [yafh] using hc 0 (by decide), ?_⟩
  rw [← hl] at r3 r4 ⊢
  exact hq _ _ r3 r4
theorem ybag {h : Hp} {p : OA} {n c : Nat} {rows : Rows} {k : Int} {mask : Nat} (tab : Tab10 h) (r : RowsR h p n rows) (hn : n ≤ 500) (hr : ∀ w ∈ rows, w.length ≤ 500 ∧ ∀ z ∈ w, InK z) (hm : InK mask) :
    yaag Tryz.prog 67 #[.int .i64 mask, .agg #[.int .i64 k, .slice p n c]] h (fun v h' => v = .string (kyS mask rows) ∧ Ext h h') := by
  have hl := r.len
  refine zau_call ?_
  rw [zau_b0]
  refine (St.start h).new (cs := [.int .i64 k, .slice p n c]) fun b1 h1 _ s1 => ?_
  have ne : 24 ≠ 5 := by decide
  have s1 : St h h1 (0 + cA b1 [.int .i64 k, .slice p n c] 24) := s1.to
  refine (yagk tab ne (i := (mask : Int)) ⟨by omega, by omega⟩ (Nat.zero_le _) (Nat.zero_le _) Sl.nil s1).mono fun v h2 ⟨q, d, A, hv, hd, o2, s2⟩ => ⟨_, _, _, hv, ?_⟩
  rw [List.nil_append] at o2
  refine ⟨_, _, _, s2.ldB, ?_⟩
  have hml := yarf hm
  refine ⟨fun x h' => ∃ (i : Nat) (A : Bag), x.2.1 = (i : Int) ∧ i ≤ n ∧ x.1.2.2 ≤ 9223372036854775807 ∧ Sl tU8 x.1.1 x.1.2.1 x.1.2.2 (itoa mask ++ rowsK (rows.take i)) A ∧ St h h' (A + cA b1 [.int .i64 k, .slice p n c] 24), fun x _ => n - x.2.1.toNat, ⟨0, A, rfl, by omega, hd, by rw [Nat.zero_add] at o2; rw [show rowsK (rows.take 0) = [] from rfl, List.append_nil, Nat.zero_add]; exact o2, s2⟩, ?_⟩
  rintro ⟨⟨q, m, d⟩, _, _⟩ h3 ⟨i, A, rfl, hin, hd, o3, s3⟩
  dsimp only at hd o3 ⊢
  have hlen1 : (rowsK (rows.take i)).length ≤ 4501 * 500 := Nat.le_trans (yamh fun w hw => hr w (List.mem_of_mem_take hw)) (Nat.mul_le_mul_left _ (by rw [List.length_take]; omega))
  have hm3 := o3.len
  rw [List.length_append] at hm3
  rw [zau_b1]
  refine condP (fun hlt => ?_) (fun hge => ?_)
  · have hi : i < rows.length := by omega
    obtain ⟨hw1, hw2⟩ := hr _ (yaar (d := []) hi)
    refine r.hdrX s3.ext rfl (by omega) fun a3 C2 rr _ => ?_
    refine yaqa ok_u8 (cs := [.int .u8 59]) s3 o3 (x := 59) rfl rfl (by omega) hd fun q4 d4 h5 A4 hd4 o4 s4 => ?_
    refine ⟨fun x h' => ∃ (j : Nat) (A : Bag), x.2.1 = (j : Int) ∧ j ≤ (rows.getD i []).length ∧ x.1.2.2 ≤ 9223372036854775807 ∧ Sl tU8 x.1.1 x.1.2.1 x.1.2.2 (itoa mask ++ rowsK (rows.take i) ++ 59 :: rowK ((rows.getD i []).take j)) A ∧ St h h' (A + cA b1 [.int .i64 k, .slice p n c] 24), fun x _ => (rows.getD i []).length - x.2.1.toNat, ⟨0, A4, rfl, by omega, hd4, o4, s4⟩, ?_⟩
    rintro ⟨⟨q, m2, d⟩, _, _⟩ h6 ⟨j, A, rfl, hj, hd6, o6, s6⟩
    dsimp only at hd6 o6 ⊢
    have hlen2 : (rowK ((rows.getD i []).take j)).length ≤ 9 * 500 := Nat.le_trans (yalb fun z hz => hw2 z (List.mem_of_mem_take hz)) (Nat.mul_le_mul_left _ (by rw [List.length_take]; omega))
    have hm6 := o6.len
    rw [List.length_append, List.length_append, List.length_cons] at hm6
    rw [zau_b2]
    refine condP (fun hlj => ?_) (fun hgj => ?_)
    · have hj' : j < (rows.getD i []).length := by omega
      have hz := hw2 _ (yaar (d := 0) hj')
      refine ldI (rr.ext s6.ext) rfl hj' ?_
      refine yaqa ok_u8 (cs := [.int .u8 44]) s6 o6 (x := 44) rfl rfl (by omega) hd6 fun q7 d7 h8 A7 hd7 o7 s7 => ?_
      refine (yagk tab ne ⟨by omega, by omega⟩ (by omega) hd7 o7 s7).mono fun v h9 ⟨q9, d9, A9, hv9, hd9, o9, s9⟩ => ⟨_, _, _, hv9, ?_⟩
      rw [zau_b4]
      refine ⟨⟨by omega, by omega⟩, ⟨j + 1, A9, by push_cast; rfl, by omega, hd9, ?_, s9⟩, by simp only; omega⟩
      rw [yatg hj']
      simpa using o9
    · obtain rfl : j = (rows.getD i []).length := by omega
      rw [zau_b5]
      refine ⟨⟨by omega, by omega⟩, ⟨i + 1, A, by push_cast; rfl, by omega, hd6, ?_, s6⟩, by simp only; omega⟩
      rw [List.take_length] at o6
      rw [yaoy hi, ← List.append_assoc]
      exact o6
  · obtain rfl : i = n := by omega
    rw [zau_b3]
    rw [List.take_of_length_le (by omega)] at o3
    refine yahc (e := 5) (by kernel_rfl) (by kernel_rfl) (by kernel_rfl) (bs := keyK mask rows) ?_ ⟨rfl, s3.ext⟩
    have := (o3.rd s3).rd
    rw [yanc, Nat.mul_one] at this
    exact this
structure KindOk (k : Int) : Prop where
  va : ∀ {h : Hp} {rows : Rows} {p : OA} {n c : Nat}, RowsR h p n rows → (∀ r ∈ rows, r.length ≤ 1000) → yaag Tryz.prog 55 #[.agg #[.int .i64 k, .slice p n c]] h (VP (OkR k rows) h)
  ap : ∀ {h : Hp} {rows : Rows} {p q : OA} {n c m cc : Nat} {code : Int} {zs : List Int}, OkR k rows → OpV k code zs → RowsR h p n rows → RdT TI h q m zs → m ≤ cc → m ≤ 100 →
    yaag Tryz.prog 46 #[.agg #[.int .i64 k, .slice p n c], .agg #[.int .i64 code, .slice q m cc]] h (yapm h 0 k (stepR k rows code zs).1 (stepR k rows code zs).2.1 (stepR k rows code zs).2.2)
  st : ∀ {rows : Rows} {code : Int} {zs : List Int}, OkR k rows → OpV k code zs → OkR k (stepR k rows code zs).1
  sm : ∀ {rows : Rows}, OkR k rows → rows.length ≤ 500 ∧ ∀ w ∈ rows, w.length ≤ 500 ∧ ∀ z ∈ w, InK z
theorem yavw {k : Int} {rows : Rows} (h : OkR k rows) : ∀ w ∈ rows, ∀ z ∈ w, InK z := by
  have ky : ∀ z, KeyP z → InK z := fun z h => by unfold KeyP at h; unfold InK; omega
  rcases h with ⟨rfl, l, rfl, h1, h2, h3⟩ | ⟨rfl, l, rfl, h1, h2, h3⟩ | ⟨rfl, l, rfl, h2, h3⟩ | ⟨rfl, h⟩ | ⟨rfl, l, rfl, h1, h2, h3⟩ | ⟨rfl, l, rfl, h2, h3⟩
  · intro w hw z hz
    obtain ⟨x, hx, rfl⟩ := List.mem_map.1 hw
    have := h2 x hx
    rcases List.mem_cons.1 hz with rfl | hz
    · exact ky _ this.1
    · rw [List.mem_singleton.1 hz]; exact ky _ this.2
  · intro w hw z hz
    obtain ⟨x, hx, rfl⟩ := List.mem_map.1 hw
    rw [List.mem_singleton.1 hz]; exact ky _ (h2 x hx)
  · intro w hw z hz
    obtain ⟨x, hx, rfl⟩ := List.mem_map.1 hw
    rw [List.mem_singleton.1 hz]; exact ky _ (h2 x hx)
  · intro w hw z hz
    have h1 : z ∈ rows.flatten := List.mem_flatten.2 ⟨w, hw, hz⟩
    have h2 := h.2.2.1.mem_iff.1 h1
    obtain ⟨i, hi, rfl⟩ := List.mem_map.1 h2
    have := List.mem_range.1 hi
    have h3 := h.2.2.2
    unfold InK
    simp only [Int.ofNat_eq_natCast]
    omega
  · intro w hw z hz
    obtain ⟨x, hx, rfl⟩ := List.mem_map.1 hw
    have := h2 x hx
    rcases List.mem_cons.1 hz with rfl | hz
    · exact ky _ this.1
    rcases List.mem_cons.1 hz with rfl | hz
    · exact ky _ this.2.1
    · rw [List.mem_singleton.1 hz]; exact ky _ this.2.2
  · intro w hw z hz
    unfold textR at hw
    split at hw
    · cases hw
    · rw [List.mem_singleton.1 hw] at hz
      have := h2 z hz
      unfold ChP at this
      unfold InK
      omega
theorem ybah {k : Int} {rows : Rows} (h : OkR k rows) : rows.length ≤ 500 ∧ ∀ w ∈ rows, w.length ≤ 500 ∧ ∀ z ∈ w, InK z :=
  ⟨(yafq h).1, fun w hw => ⟨(yafq h).2 w hw, yavw h w hw⟩⟩
theorem maskB {m i : Nat} {Q : Int → Prop} (hm : m < 9223372036854775808) (hi : i ≤ 64) (hq : Q ((m >>> i &&& 1 : Nat) : Int)) : ∃ sr : Int, Sx.Shr .i64 (m : Int) (i : Int) sr ∧ ∃ an : Int, Sx.And .i64 sr 1 an ∧ Q an :=
  yafz rfl rfl hi (yati rfl rfl (Nat.lt_of_le_of_lt (by rw [Nat.shiftRight_eq_div_pow]; exact Nat.div_le_self _ _) hm) (y := 1) (by decide) hq)
theorem maskS {m i : Nat} {Q : Int → Prop} (hm : m < 2 ^ 20) (hi : i < 20) (hq : Q ((m ||| 2 ^ i : Nat) : Int)) : ∃ sl : Int, Sx.Shl .i64 1 (i : Int) sl ∧ ∃ r : Int, Sx.Or .i64 (m : Int) sl r ∧ Q r := by
  have h2 : 2 ^ i < 2 ^ 20 := Nat.pow_lt_pow_right (by decide) hi
  refine yamq (x := 1) rfl rfl (show i ≤ 64 by omega) ?_ (ybaw rfl (y := 2 ^ i) (by rw [Nat.one_mul]) (by omega) (by omega) hq)
  rw [Nat.one_mul]
  generalize 2 ^ i = w at *
  exact yabu _ ⟨by omega, by omega⟩
theorem yaue {m i : Nat} : (((m >>> i &&& 1 : Nat) : Int) = 1) ↔ m.testBit i = true := by
  rw [← yaud]
  omega
theorem yarr {m i : Nat} : (((m >>> i &&& 1 : Nat) : Int) = 0) ↔ m.testBit i = false := by
  have h1 := @yaud m i
  have h2 : m >>> i &&& 1 < 2 := by rw [Nat.and_one_is_mod]; omega
  constructor
  · intro h
    cases hb : m.testBit i with
    | false => rfl
    | true => have := h1.2 hb; omega
  · intro h
    have : ¬ m >>> i &&& 1 = 1 := fun e => by rw [h1.1 e] at h; cases h
    omega
section
variable {h : Hp} {p : OA} {n c : Nat} {l : List Ev} {k : Int}
theorem yava {m : Nat} {e : EvT} (r : EvsR h p n l) (hn : n ≤ 20) (hm : m < 2 ^ 20) :
    yaag Tryz.prog 68 #[.slice p n c, .int .i64 (m : Int), encEv e] h (VP (∀ j, j < n → m.testBit j = false → ¬ precT (l.getD j dEv).t e) h) := by
  have hl := r.len
  refine zar_call ?_
  rw [zar_b0]
  refine (St.start h).new (cs := evC e) fun b1 h1 x1 s1 => ?_
  refine ⟨fun x h' => ∃ j : Nat, x.1 = (j : Int) ∧ j ≤ n ∧ (∀ t, t < j → m.testBit t = false → ¬ precT (l.getD t dEv).t e) ∧ St h h' (cA b1 (evC e) 60 + 0), fun x _ => n - x.1.toNat, ⟨0, rfl, by omega, fun t ht => absurd ht (by omega), s1⟩, ?_⟩
  rintro ⟨_, _⟩ h2 ⟨j, rfl, hj, i1, s2⟩
  dsimp only
  rw [zar_b1]
  refine condP (fun hlt => ?_) (fun hge => ?_)
  · refine (r.ext s2.ext).cp s2 rfl (by omega) fun b2 h3 _ s3 => maskB (by omega) (by omega) ?_
    refine condP (fun hb => ?_) (fun hb => ?_)
    · refine ldEvB s3.blk (yaat rfl (ldEvB s3.atomBlk ((yacx _ _ _).mono fun v h4 ⟨hv, x4⟩ => ⟨_, hv, condP (fun hp => VP.no (fun o => o j (by omega) (yarr.1 hb) hp) (s3.grow x4).ext) (fun hp => ?_)⟩)))
      rw [zar_b2]
      refine ⟨⟨by omega, by omega⟩, ⟨j + 1, by push_cast; rfl, by omega, fun t ht hf => ?_, (s3.grow x4).drop⟩, by simp only; omega⟩
      rcases Nat.lt_or_ge t j with h | h
      · exact i1 t h hf
      · obtain rfl : t = j := by omega
        exact hp
    · rw [zar_b2]
      refine ⟨⟨by omega, by omega⟩, ⟨j + 1, by push_cast; rfl, by omega, fun t ht hf => ?_, s3.drop⟩, by simp only; omega⟩
      rcases Nat.lt_or_ge t j with h | h
      · exact i1 t h hf
      · obtain rfl : t = j := by omega
        exact absurd (yarr.2 hf) hb
  · rw [zar_b3]
    exact VP.yes (fun t ht => i1 t (by omega)) s2.ext
theorem yayk {sp : OA} {sn sc : Nat} {rows : Rows} (va : ∀ {h : Hp} {rows : Rows} {p : OA} {n c : Nat}, RowsR h p n rows → (∀ r ∈ rows, r.length ≤ 1000) → yaag Tryz.prog 55 #[.agg #[.int .i64 k, .slice p n c]] h (VP (OkR k rows) h))
    (r : EvsR h p n l) (sm : Sm l) (rr : RowsR h sp sn rows) (hr : ∀ r ∈ rows, r.length ≤ 1000) :
    yaag Tryz.prog 44 #[.agg #[.int .i64 k, .slice sp sn sc], .slice p n c] h (VP (OkR k rows ∧ yact l ∧ KindP k l) h) := by
  refine zas_call ?_
  rw [zas_b0]
  refine (St.start h).new (cs := [.int .i64 k, .slice sp sn sc]) fun b1 h1 _ s => ⟨_, _, _, _, s.ld0, s.ldB, ?_⟩
  refine (va (rr.ext s.ext) hr).mono fun v h2 ⟨⟨b2, hv2, hb2⟩, x2⟩ => ⟨_, hv2, ?_⟩
  have s2 := s.grow x2
  refine yaap (fun h2t => ?_) (fun h2f => VP.no (fun o => by rw [hb2.2 o.1] at h2f; cases h2f) s2.ext)
  refine (yagb (r.ext s2.ext) sm).mono fun v h3 ⟨⟨b3, hv3, hb3⟩, x3⟩ => ⟨_, hv3, ?_⟩
  have s3 := s2.grow x3
  refine yaap (fun h3t => ⟨_, s3.ld0, ?_⟩) (fun h3f => VP.no (fun o => by rw [hb3.2 o.2.1] at h3f; cases h3f) s3.ext)
  have hn : n ≤ 1000 := by
    obtain ⟨_, _, o⟩ := hb3.1 h3t
    have := o.1
    have := r.len
    omega
  refine (of_ok (r.ext s3.ext) (by omega)).mono fun v h4 ⟨hv4, x4⟩ => ⟨_, hv4, ⟨_, rfl, ?_⟩, (s3.grow x4).ext⟩
  rw [decide_eq_true_iff]
  exact ⟨fun o => ⟨hb2.1 h2t, hb3.1 h3t, o⟩, fun o => o.2.2⟩
def givE (l : List Ev) (rows : Rows) (k most e : Int) : Prop :=
  (¬ (OkR k rows ∧ yact l ∧ KindP k l) ∧ e = 1) ∨ ((OkR k rows ∧ yact l ∧ KindP k l) ∧
    (((most < 1 ∨ 14 < most) ∧ e = 2) ∨ ((1 ≤ most ∧ most ≤ 14) ∧ ((most < (l.length : Int) ∧ e = 6) ∨ ((l.length : Int) ≤ most ∧ e = 0)))))
theorem yaqc {sp : OA} {sn sc : Nat} {rows : Rows} {most : Int} (va : ∀ {h : Hp} {rows : Rows} {p : OA} {n c : Nat}, RowsR h p n rows → (∀ r ∈ rows, r.length ≤ 1000) → yaag Tryz.prog 55 #[.agg #[.int .i64 k, .slice p n c]] h (VP (OkR k rows) h))
    (r : EvsR h p n l) (sm : Sm l) (rr : RowsR h sp sn rows) (hr : ∀ r ∈ rows, r.length ≤ 1000) :
    yaag Tryz.prog 35 #[.agg #[.int .i64 k, .slice sp sn sc], .slice p n c, .int .i64 most] h (fun v h' => ∃ e, v = .int .i64 e ∧ givE l rows k most e ∧ Ext h h') := by
  have hl := r.len
  refine zat_call ?_
  rw [zat_b0]
  refine (St.start h).new (cs := [.int .i64 k, .slice sp sn sc]) fun b1 h1 _ s => ⟨_, _, _, _, s.ld0, s.ldB, ?_⟩
  refine (yayk va (r.ext s.ext) sm (rr.ext s.ext) hr).mono fun v h2 ⟨⟨b2, hv2, hb2⟩, x2⟩ => ⟨_, hv2, ?_⟩
  have x := (s.grow x2).ext
  refine yaap (fun hno => ⟨_, rfl, .inl ⟨fun o => (by rw [hb2.2 o] at hno; cases hno), rfl⟩, x⟩) (fun hyes => ?_)
  have hf := hb2.1 (by simpa using hyes)
  refine condP (fun h1 => ⟨_, rfl, .inr ⟨hf, .inl ⟨.inl h1, rfl⟩⟩, x⟩) (fun h1 => condP (fun h14 => ⟨_, rfl, .inr ⟨hf, .inl ⟨.inr h14, rfl⟩⟩, x⟩) (fun h14 => condP (fun hlt => ⟨_, rfl, .inr ⟨hf, .inr ⟨⟨by omega, by omega⟩, .inl ⟨by omega, rfl⟩⟩⟩, x⟩) (fun hge => ?_)))
  rw [zat_b1]
  exact ⟨_, rfl, .inr ⟨hf, .inr ⟨⟨by omega, by omega⟩, .inr ⟨by omega, rfl⟩⟩⟩, x⟩
end
abbrev MS : MTy ByteArray Bool := ⟨fun k => .string k, fun b => .bool b, .bool false⟩
theorem yapk : MapOk MS Tryz.prog 107 := yatb (kt := 9) (et := 4) (fun _ => rfl) (by kernel_rfl) (by kernel_rfl) (by kernel_rfl)
abbrev natI (o : List Nat) : List Int := o.map fun x => ((x : Nat) : Int)
def SrA (ab mb lb ob fb mm a : Nat) (p : OA) (n c : Nat) (o : List Nat) (ps : List (ByteArray × Bool)) (A : Bag) : Prop :=
  ∃ (q : OA) (d : Nat) (Ao Am : Bag), A = cA ab [.int .i64 (a : Int)] 3 + (cA mb [.map (some mm)] 107 + (cA lb [.slice p n c] 25 + (cA ob [.slice q o.length d] 29 +
    (cA fb [.func (.func 66) #[] #[ptr ab, ptr mb, ptr lb, ptr ob, ptr fb]] 108 + (Ao + Am))))) ∧ Sl TI q o.length d (natI o) Ao ∧ MapA MS mm ps Am
section
variable {h0 : Hp} {p : OA} {n c : Nat} {l : List Ev} {k : Int} {ab mb lb ob fb mm a : Nat}
def RowsS (h0 : Hp) (F : Bag) (p : OA) (n : Nat) (rows : Rows) : Prop := ∀ h' B, St h0 h' (B + F) → RowsR h' p n rows
theorem RowsS.add {F G : Bag} {sp : OA} {sn : Nat} {rows : Rows} (r : RowsS h0 F sp sn rows) : RowsS h0 (G + F) sp sn rows := fun h' B s => r h' (B + G) (s.to (B := B + G + F))
theorem RowsS.u1 {F A : Bag} {h : Hp} {sp : OA} {sn : Nat} {rows : Rows} (r : RowsS h0 F sp sn rows) (s : St h0 h (A + F)) : RowsR h sp sn rows := r h A s
theorem RowsS.u2 {F A B : Bag} {h : Hp} {sp : OA} {sn : Nat} {rows : Rows} (r : RowsS h0 F sp sn rows) (s : St h0 h (A + (B + F))) : RowsR h sp sn rows := r h (A + B) s.to
theorem RowsS.u3 {F A B C : Bag} {h : Hp} {sp : OA} {sn : Nat} {rows : Rows} (r : RowsS h0 F sp sn rows) (s : St h0 h (A + (B + (C + F)))) : RowsR h sp sn rows := r h (A + (B + C)) s.to
theorem RowsS.of {q : OA} {m d : Nat} {rows : Rows} {B G : Bag} (na : RowsA (q, m, d) rows B) : RowsS h0 (B + G) q m rows := fun _ B' s => yapb na (s.to (B := B + (B' + G)))
theorem stMid {h0 h : Hp} {A B C : Bag} (s : St h0 h (A + (B + C))) : St h0 h (A + C) := St.drop (A := B) s.to
theorem yalf (o : List Nat) (i : Nat) : natI (o ++ [i]) = natI o ++ [(i : Int)] := by simp [natI]
def FromP (h0 : Hp) (k : Int) (l : List Ev) (ab mb lb ob fb mm a : Nat) (p : OA) (n c m : Nat) (rows : Rows) (cur : List Nat) (ps : List (ByteArray × Bool)) (F : Bag) (v : Value) (h' : Hp) : Prop :=
  ∃ (bb : Bool) (A' : Bag) (cur' : List Nat) (ps' : List (ByteArray × Bool)), v = .bool bb ∧ SrA ab mb lb ob fb mm a p n c cur' ps' A' ∧ St h0 h' (A' + F) ∧
    (bb = true → ∃ o, cur' = cur ++ o ∧ Lin k l o m.testBit rows) ∧ (bb = false → cur' = cur ∧ Grew k l ps ps' ∧ Fails k l m rows)
theorem yaxt (ko : KindOk k) (tab : Tab10 h0) (r : EvsR h0 p n l) (hn : n ≤ 14) (sm : Sm l) (hk : KindP k l) (hall : AllM l l.length a) :
    ∀ (N m : Nat) (rows : Rows) (cur : List Nat) (ps : List (ByteArray × Bool)) (h : Hp) (A F : Bag) (sp : OA) (sn sc : Nat), lft n m.testBit < N → m < 2 ^ n → OkR k rows → RowsS h0 F sp sn rows → cur.length + lft n m.testBit ≤ n → Memo k l (lft n m.testBit) ps →
    SrA ab mb lb ob fb mm a p n c cur ps A → St h0 h (A + F) →
    yaag Tryz.prog 66 #[.int .i64 (m : Int), .agg #[.int .i64 k, .slice sp sn sc], ptr ab, ptr mb, ptr lb, ptr ob, ptr fb] h (FromP h0 k l ab mb lb ob fb mm a p n c m rows cur ps F) := by
  have hl := r.len
  have h2n : 2 ^ n ≤ 2 ^ 14 := Nat.pow_le_pow_right (by decide) hn
  have ha := yauj hall
  rw [hl] at ha
  intro N
  induction N with
  | zero => intro m rows cur ps h A F sp sn sc hlt; omega
  | succ N ih =>
    intro m rows cur ps h A F sp sn sc hlt hm ok rs hcl hmemo sa s
    obtain ⟨q, d, Ao, Am, rfl, oo, ma⟩ := sa
    refine zba_call ?_
    rw [zba_b0]
    refine s.new (cs := [.int .i64 k, .slice sp sn sc]) fun b1 h1 _ s1 => ?_
    refine yaat rfl ⟨_, s1.ld0, yati rfl rfl (by omega) (by omega) (yaat rfl ⟨_, s1.ld0, ?_⟩)⟩
    refine condP (fun hall' => ?_) (fun hnall => ?_)
    · refine ⟨true, _, cur, ps, rfl, ⟨q, d, Ao, Am, rfl, oo, ma⟩, s1.drop, fun _ => ⟨[], by simp, ?_⟩, fun h => (by cases h)⟩
      rw [← hl] at hlt
      exact (yatt hall).1 (by omega)
    have hnc : ¬ Cpl l m.testBit := fun hc => hnall (by rw [(yatt hall).2 hc])
    have hsm := ko.sm ok
    refine ⟨_, _, _, _, s1.ld0, s1.ldB, ?_⟩
    have rr := rs.u2 s1
    refine (ybag (tab.ext s1.ext) rr (by have := rr.len; omega) hsm.2 ⟨by omega, by omega⟩).mono fun v1 h2 ⟨hv1, x2⟩ => ⟨_, hv1, ?_⟩
    have s2 := s1.grow x2
    refine yaat rfl ⟨_, s2.ld0, ?_⟩
    have s2m : St h0 h2 (Am + (cA b1 [.int .i64 k, .slice sp sn sc] 24 + (cA ab [.int .i64 (a : Int)] 3 + (cA mb [.map (some mm)] 107 + (cA lb [.slice p n c] 25 + (cA ob [.slice q cur.length d] 29 +
      (cA fb [.func (.func 66) #[] #[ptr ab, ptr mb, ptr lb, ptr ob, ptr fb]] 108 + (Ao + F)))))))) := s2.to
    refine ma.look yapk s2m fun v b hvb => ?_
    rcases hvb with ⟨hno, rfl, rfl⟩ | ⟨x, hyes, rfl, rfl⟩
    rotate_left
    · obtain ⟨hx, hf⟩ := yavi hmemo (by rw [hl]) ((yaun ma.kd).1 hyes)
      subst hx
      refine ⟨_, rfl, yaaz rfl ?_⟩
      exact ⟨false, _, cur, ps, rfl, ⟨q, d, Ao, Am, rfl, oo, ma⟩, s2.drop, fun h => (by cases h), fun _ => ⟨rfl, Grew.refl hmemo, hf⟩⟩
    refine ⟨_, rfl, yaba rfl (yaat rfl ⟨_, s2.ld0, ?_⟩)⟩
    refine ma.set yapk s2m rfl fun h3 Am3 ma3 s3m => ?_
    have s3 : St h0 h3 ((cA ab [.int .i64 (a : Int)] 3 + (cA mb [.map (some mm)] 107 + (cA lb [.slice p n c] 25 + (cA ob [.slice q cur.length d] 29 +
      (cA fb [.func (.func 66) #[] #[ptr ab, ptr mb, ptr lb, ptr ob, ptr fb]] 108 + (Ao + Am3)))))) + (cA b1 [.int .i64 k, .slice sp sn sc] 24 + F)) := s3m.to
    refine yaat rfl ⟨_, _, _, s3.ld0, ?_⟩
    clear s3m s2m s2 s1 s
    refine ⟨fun x h' => ∃ (i : Nat) (A : Bag) (ps' : List (ByteArray × Bool)), x.1 = (i : Int) ∧ i ≤ n ∧ SrA ab mb lb ob fb mm a p n c cur ps' A ∧ St h0 h' (A + (cA b1 [.int .i64 k, .slice sp sn sc] 24 + F)) ∧ Grew k l (setk ps (kyS m rows) true) ps' ∧ ∀ j, j < i → ∀ o, ¬ Lin k l (j :: o) m.testBit rows,
      fun x _ => n - x.1.toNat, ⟨0, _, _, rfl, by omega, ⟨q, d, Ao, Am3, rfl, oo, ma3⟩, s3, fun e he => ⟨?_, .inl he⟩, fun j hj => absurd hj (by omega)⟩, ?_⟩
    · rcases yaif he with rfl | he
      · rfl
      · exact (hmemo e he).1
    rintro ⟨_, _⟩ h4 ⟨i, A4, ps4, rfl, hin, ⟨q, d, Ao, Am, rfl, oo, ma⟩, s4, g4, i4⟩
    dsimp only
    rw [zba_b1]
    refine condP (fun hlt' => ?_) (fun hge => ?_)
    rotate_left
    · obtain rfl : i = n := by omega
      rw [zba_b4]
      have hf : Fails k l m rows := fun ⟨o, ho⟩ => by
        cases o with
        | nil => exact hnc ho
        | cons j o => exact i4 j (by have := ho.1; omega) o ho
      exact ⟨false, _, cur, ps4, rfl, ⟨q, d, Ao, Am, rfl, oo, ma⟩, (St.drop (A := cA b1 [.int .i64 k, .slice sp sn sc] 24) s4.to), fun h => (by cases h), fun _ => ⟨rfl, yawx g4 hf, hf⟩⟩
    have hi : i < n := by omega
    have hmem : l.getD i dEv ∈ l := yaar (by omega)
    have hov : OpV k (l.getD i dEv).t.co (l.getD i dEv).zs := hk _ hmem
    -- the next event
    have skip : ∀ {h5 : Hp} {A5 : Bag} {ps5 : List (ByteArray × Bool)}, SrA ab mb lb ob fb mm a p n c cur ps5 A5 → St h0 h5 (A5 + (cA b1 [.int .i64 k, .slice sp sn sc] 24 + F)) → Grew k l (setk ps (kyS m rows) true) ps5 → (∀ o, ¬ Lin k l (i :: o) m.testBit rows) →
        zba_b2 (m : Int) (some ⟨lb, 0, none⟩) (some ⟨ob, 0, none⟩) (some ⟨fb, 0, none⟩) (some ⟨b1, 0, none⟩) p n c (n : Int) (i : Int) h5 (fun s' h' => (∃ (i : Nat) (A : Bag) (ps' : List (ByteArray × Bool)), s'.1 = (i : Int) ∧ i ≤ n ∧ SrA ab mb lb ob fb mm a p n c cur ps' A ∧ St h0 h' (A + (cA b1 [.int .i64 k, .slice sp sn sc] 24 + F)) ∧ Grew k l (setk ps (kyS m rows) true) ps' ∧ ∀ j, j < i → ∀ o, ¬ Lin k l (j :: o) m.testBit rows) ∧ n - s'.1.toNat < n - ((i : Nat) : Int).toNat) (FromP h0 k l ab mb lb ob fb mm a p n c m rows cur ps F) := fun sa5 s5 g5 hno5 => by
      rw [zba_b2]
      refine ⟨⟨by omega, by omega⟩, ⟨i + 1, _, _, by push_cast; rfl, by omega, sa5, s5, g5, fun j hj o => ?_⟩, by simp only; omega⟩
      rcases Nat.lt_or_ge j i with h | h
      · exact i4 j h o
      · obtain rfl : j = i := by omega
        exact hno5 o
    generalize hnx : (fun (s' : Int × Unit) (h' : Hp) => (∃ (i : Nat) (A : Bag) (ps' : List (ByteArray × Bool)), s'.1 = (i : Int) ∧ i ≤ n ∧ SrA ab mb lb ob fb mm a p n c cur ps' A ∧ St h0 h' (A + (cA b1 [.int .i64 k, .slice sp sn sc] 24 + F)) ∧ Grew k l (setk ps (kyS m rows) true) ps' ∧ ∀ j, j < i → ∀ o, ¬ Lin k l (j :: o) m.testBit rows) ∧ n - s'.1.toNat < n - ((i : Nat) : Int).toNat) = nx at skip ⊢
    clear hnx
    refine (r.ext s4.ext).cp s4 rfl hi fun b2 h5 _ s5 => maskB (by omega) (by omega) ?_
    refine condP (fun hb => skip ⟨q, d, Ao, Am, rfl, oo, ma⟩ s5.drop g4 fun o ho => ?_) (fun hb => ?_)
    · have := ho.2.1.1
      rw [yaue.1 hb] at this; cases this
    have hb0 : m.testBit i = false := by
      cases hc : m.testBit i with
      | false => rfl
      | true => exact absurd (yaue.2 hc) hb
    refine yaat rfl ⟨_, _, _, s5.ld0, ldEvB s5.blk ?_⟩
    refine (yava (r.ext s5.ext) (by omega) (by omega)).mono fun v5 h6 ⟨⟨bf, hv5, hbf⟩, x6⟩ => ⟨_, hv5, ?_⟩
    have s6 := s5.grow x6
    refine yaap (fun hf => skip ⟨q, d, Ao, Am, rfl, oo, ma⟩ s6.drop g4 fun o ho => ?_) (fun hf => ?_)
    · have := hbf.2 fun j hj hd => ho.2.1.2 j (by omega) hd
      rw [this] at hf; cases hf
    have hnxt : Nxt l m.testBit i := ⟨hb0, fun j hj hd => hbf.1 (by simpa using hf) j (by omega) hd⟩
    rw [zba_b3]
    refine yaat rfl ⟨_, _, _, _, s6.ld0, s6.ldB, yaat rfl ⟨_, _, _, _, s6.blk.cell 1, s6.blk.cell 2, ?_⟩⟩
    have em := r.at_ hi
    have hz := (sm _ hmem).1
    have hzl := em.1.1.len
    have rr6 := rs.u3 s6
    refine (ko.ap ok hov rr6 (em.1.1.ext s6.ext) em.1.2 (by omega)).mono fun v6 h7 ⟨q7, m7, d7, B7, hv6, na7, t7⟩ => ⟨_, _, _, _, _, _, _, _, _, _, hv6, ?_⟩
    have s7 := s6.join t7
    rw [Bag.add_zero] at s7
    refine s7.new (cs := [.int .i64 0, .slice none 0 0]) fun b3 h8 _ s8 => s8.new (cs := [.int .i64 0, .int .i64 0, .slice none 0 0]) fun b4 h9 _ s9 => ?_
    refine s9.wr0 fun h10 s10 => s10.wrB fun h11 s11 => s11.wr0 fun h12 s12 => s12.wrB fun h13 s13 => s13.wrB fun h14 s14 => yaba rfl ?_
    have s14 : St h0 h14 (cA b4 [.int .i64 (stepR k rows (l.getD i dEv).t.co (l.getD i dEv).zs).2.1, .int .i64 (stepR k rows (l.getD i dEv).t.co (l.getD i dEv).zs).2.2, .slice none 0 0] 58 + (cA b3 [.int .i64 k, .slice q7 m7 d7] 24 + (B7 + (cA b2 (evC (l.getD i dEv).t) 60 + ((cA ab [.int .i64 (a : Int)] 3 + (cA mb [.map (some mm)] 107 + (cA lb [.slice p n c] 25 + (cA ob [.slice q cur.length d] 29 +
      (cA fb [.func (.func 66) #[] #[ptr ab, ptr mb, ptr lb, ptr ob, ptr fb]] 108 + (Ao + Am)))))) + (cA b1 [.int .i64 k, .slice sp sn sc] 24 + F)))))) := s14.to
    have fin : ∀ h', Ext h14 h' → stepE k rows (l.getD i dEv) = some (stepR k rows (l.getD i dEv).t.co (l.getD i dEv).zs).1 →
        zba_b5 (m : Int) (some ⟨lb, 0, none⟩) (some ⟨ob, 0, none⟩) (some ⟨fb, 0, none⟩) (some ⟨b1, 0, none⟩) (i : Int) (some ⟨b3, 0, none⟩) p n c (n : Int) (i : Int) h' nx (FromP h0 k l ab mb lb ob fb mm a p n c m rows cur ps F) := fun h' x' hst => by
      have t := s14.grow x'
      rw [zba_b5]
      refine yaat rfl ⟨_, _, _, t.ld0, ?_⟩
      have t1 : St h0 h' (Ao + (cA b4 [.int .i64 (stepR k rows (l.getD i dEv).t.co (l.getD i dEv).zs).2.1, .int .i64 (stepR k rows (l.getD i dEv).t.co (l.getD i dEv).zs).2.2, .slice none 0 0] 58 + (cA b3 [.int .i64 k, .slice q7 m7 d7] 24 + (B7 + (cA b2 (evC (l.getD i dEv).t) 60 + ((cA ab [.int .i64 (a : Int)] 3 + (cA mb [.map (some mm)] 107 + (cA lb [.slice p n c] 25 + (cA ob [.slice q cur.length d] 29 +
        (cA fb [.func (.func 66) #[] #[ptr ab, ptr mb, ptr lb, ptr ob, ptr fb]] 108 + Am))))) + (cA b1 [.int .i64 k, .slice sp sn sc] 24 + F))))))) := t.to
      refine yajc yaks t1 oo (x := (i : Int)) rfl rfl (by omega) fun q' d' h8 Ao' oo' t8 => yaat rfl (t8.wr0 fun h9 t9 => yaat rfl ⟨_, t9.ld0, ?_⟩)
      refine maskS (by omega) (by omega) (yaat rfl ⟨_, _, _, _, t9.ld0, t9.ldB, ?_⟩)
      have e1 : (cur ++ [i]).length = cur.length + 1 := by simp
      have t9 : St h0 h9 ((cA ab [.int .i64 (a : Int)] 3 + (cA mb [.map (some mm)] 107 + (cA lb [.slice p n c] 25 + (cA ob [.slice q' (cur.length + 1) d'] 29 +
        (cA fb [.func (.func 66) #[] #[ptr ab, ptr mb, ptr lb, ptr ob, ptr fb]] 108 + (Ao' + Am)))))) +
        ((cA b4 [.int .i64 (stepR k rows (l.getD i dEv).t.co (l.getD i dEv).zs).2.1, .int .i64 (stepR k rows (l.getD i dEv).t.co (l.getD i dEv).zs).2.2, .slice none 0 0] 58 + (cA b3 [.int .i64 k, .slice q7 m7 d7] 24 + (B7 + cA b2 (evC (l.getD i dEv).t) 60))) + (cA b1 [.int .i64 k, .slice sp sn sc] 24 + F))) := t9.to
      have sa9 : SrA ab mb lb ob fb mm a p n c (cur ++ [i]) ps4 (cA ab [.int .i64 (a : Int)] 3 + (cA mb [.map (some mm)] 107 + (cA lb [.slice p n c] 25 + (cA ob [.slice q' (cur.length + 1) d'] 29 +
        (cA fb [.func (.func 66) #[] #[ptr ab, ptr mb, ptr lb, ptr ob, ptr fb]] 108 + (Ao' + Am)))))) := ⟨q', d', Ao', Am, by rw [e1], by rw [e1, yalf]; exact oo', ma⟩
      have hlf := yaxg hi hb0
      rw [← yaim] at hlf
      have rs9 : RowsS h0 ((cA b4 [.int .i64 (stepR k rows (l.getD i dEv).t.co (l.getD i dEv).zs).2.1, .int .i64 (stepR k rows (l.getD i dEv).t.co (l.getD i dEv).zs).2.2, .slice none 0 0] 58 + (cA b3 [.int .i64 k, .slice q7 m7 d7] 24 + (B7 + cA b2 (evC (l.getD i dEv).t) 60))) + (cA b1 [.int .i64 k, .slice sp sn sc] 24 + F)) q7 m7 (stepR k rows (l.getD i dEv).t.co (l.getD i dEv).zs).1 := fun h2 B2 s2 => yapb (G := B2 + ((cA b4 [.int .i64 (stepR k rows (l.getD i dEv).t.co (l.getD i dEv).zs).2.1, .int .i64 (stepR k rows (l.getD i dEv).t.co (l.getD i dEv).zs).2.2, .slice none 0 0] 58 + (cA b3 [.int .i64 k, .slice q7 m7 d7] 24 + cA b2 (evC (l.getD i dEv).t) 60)) + (cA b1 [.int .i64 k, .slice sp sn sc] 24 + F))) na7 s2.to
      have hm9 : m ||| 2 ^ i < 2 ^ n := yazm hm hi
      refine yafg (args' := #[.int .i64 ((m ||| 2 ^ i : Nat) : Int), .agg #[.int .i64 k, .slice q7 m7 d7], ptr ab, ptr mb, ptr lb, ptr ob, ptr fb]) (by kernel_rfl) ((ih (m ||| 2 ^ i) _ (cur ++ [i]) ps4 h9 _ _ q7 m7 d7 (by omega) hm9 (ko.st ok hov) rs9 (by rw [e1]; omega) (g4.memo (yawp hmemo (by rw [hl]) (by omega))) sa9 t9).mono ?_) rfl
      rintro v10 h28 ⟨bb, A10, cur10, ps10, hv10, sa10, t10, ht10, hf10⟩
      refine ⟨_, hv10, yaap (fun hb => ?_) (fun hb => ?_)⟩
      · obtain ⟨o, ho1, ho2⟩ := ht10 hb
        refine ⟨true, A10, cur10, ps10, rfl, sa10, stMid (stMid t10), fun _ => ⟨i :: o, by rw [ho1, List.append_assoc]; rfl, by omega, hnxt, _, hst, ?_⟩, fun h => (by cases h)⟩
        rw [← yaim]
        exact ho2
      · obtain ⟨rfl, hg10, hfl⟩ := hf10 hb
        obtain ⟨q11, d11, Ao11, Am11, rfl, oo11, ma11⟩ := sa10
        rw [e1] at t10 oo11
        refine yaat rfl ⟨_, _, _, t10.ld0, yaat rfl ⟨_, _, _, t10.ld0, ⟨by omega, by omega⟩, ⟨Int.le_refl _, by omega, by have := oo11.cap; omega⟩, yaat rfl ?_⟩⟩
        rw [show Int.toNat (0 : Int) = 0 from rfl, yaei, Nat.sub_zero, Nat.sub_zero, show Int.toNat (((cur.length + 1 : Nat) : Int) - 1) = cur.length by omega]
        refine t10.wr0 fun h29 t29 => ?_
        have oo29 := oo11.take (i := cur.length) (by omega)
        rw [yalf, List.take_left' (by simp)] at oo29
        have t29 : St h0 h29 ((cA ab [.int .i64 (a : Int)] 3 + (cA mb [.map (some mm)] 107 + (cA lb [.slice p n c] 25 + (cA ob [.slice q11 cur.length d11] 29 +
          (cA fb [.func (.func 66) #[] #[ptr ab, ptr mb, ptr lb, ptr ob, ptr fb]] 108 + (Ao11 + Am11)))))) + ((cA b4 [.int .i64 (stepR k rows (l.getD i dEv).t.co (l.getD i dEv).zs).2.1, .int .i64 (stepR k rows (l.getD i dEv).t.co (l.getD i dEv).zs).2.2, .slice none 0 0] 58 + (cA b3 [.int .i64 k, .slice q7 m7 d7] 24 + (B7 + cA b2 (evC (l.getD i dEv).t) 60))) + (cA b1 [.int .i64 k, .slice sp sn sc] 24 + F))) := t29.to
        refine skip ⟨q11, d11, Ao11, Am11, rfl, oo29, ma11⟩ (stMid t29) (g4.trans hg10) fun o ho => hfl ⟨o, ?_⟩
        obtain ⟨_, _, r', h1, h2⟩ := ho
        rw [hst] at h1
        cases h1
        rw [yaim]
        exact h2
    have no : ∀ h', Ext h14 h' → stepE k rows (l.getD i dEv) = none → zba_b2 (m : Int) (some ⟨lb, 0, none⟩) (some ⟨ob, 0, none⟩) (some ⟨fb, 0, none⟩) (some ⟨b1, 0, none⟩) p n c (n : Int) (i : Int) h' nx (FromP h0 k l ab mb lb ob fb mm a p n c m rows cur ps F) := fun h' x' hst =>
      skip ⟨q, d, Ao, Am, rfl, oo, ma⟩ (s14.grow x').drop.drop.drop.drop g4 fun o ho => by
        obtain ⟨_, _, r', h1, _⟩ := ho
        rw [hst] at h1; cases h1
    have k2 : Blk h14 b2 (evC (l.getD i dEv).t) 60 := (s14.find b2).blk
    refine yaat rfl (ldEvB k2 ((yadw _ _).mono fun v7 h23 ⟨hv7, x23⟩ => ⟨_, hv7, ?_⟩))
    have s23 := s14.grow x23
    refine condP (fun hc => ⟨_, _, _, _, _, s23.ld0, s23.ldB, s23.ldB, yaat rfl ⟨_, _, _, _, _, (k2.ext x23).cell 3, (k2.ext x23).cell 4, (k2.ext x23).cell 5, ?_⟩⟩) (fun hc => fin h23 x23 (if_neg fun h => hc h.1))
    refine (yard (RdT.nil _ none) (em.2.1.ext s23.ext) (Nat.zero_le _)).mono fun v8 h24 ⟨hv8, x24⟩ => ⟨_, hv8, condN (fun hne => no h24 (x23.trans x24) (if_pos ⟨hc, fun h => hne ⟨h.1, h.2.1, h.2.2.symm⟩⟩)) (fun heq => fin h24 (x23.trans x24) (if_neg fun h => h.2 ⟨heq.1, heq.2.1, heq.2.2.symm⟩))⟩
end
abbrev D0 : Nat → Bool := fun _ => false
theorem tb0 : Nat.testBit 0 = D0 := by funext i; exact Nat.zero_testBit i
section
variable {h : Hp} {p : OA} {n c : Nat} {l : List Ev} {k : Int} {sp : OA} {sn sc : Nat} {rows : Rows}
def SrP (k : Int) (l : List Ev) (rows : Rows) (h : Hp) (bb : Bool) (q : OA) (m d : Nat) (h' : Hp) : Prop :=
  (bb = true ∧ ∃ A o, m = o.length ∧ Sl TI q m d (natI o) A ∧ St h h' A ∧ Lin k l o D0 rows) ∨ (bb = false ∧ q = none ∧ m = 0 ∧ d = 0 ∧ Ext h h' ∧ ∀ o, ¬ Lin k l o D0 rows)
theorem yaiv (ko : KindOk k) (tab : Tab10 h) (r : EvsR h p n l) (hn : n ≤ 14) (sm : Sm l) (hk : KindP k l) (ok : OkR k rows) (rr : RowsR h sp sn rows) :
    yaag Tryz.prog 36 #[.agg #[.int .i64 k, .slice sp sn sc], .slice p n c] h (fun v h' => ∃ bb q m d, v = .tuple #[.bool bb, .slice q m d] ∧ SrP k l rows h bb q m d h') := by
  have hl := r.len
  refine zaz_call ?_
  rw [zaz_b0]
  refine (St.start h).new (cs := [.int .i64 k, .slice sp sn sc]) fun b1 h1 _ s => s.new (cs := [.slice p n c]) fun b2 h2 _ s => s.new (cs := [.int .i64 0]) fun b3 h3 _ s => s.wr0 fun h4 s => ?_
  refine ⟨_, _, _, s.ld0, ?_⟩
  have s4 : St h h4 (cA b3 [.int .i64 ((0 : Nat) : Int)] 3 + (cA b2 [.slice p n c] 25 + (cA b1 [.int .i64 k, .slice sp sn sc] 24 + 0))) := s
  refine ⟨fun x h' => ∃ i a : Nat, x.1 = (i : Int) ∧ i ≤ n ∧ AllM l i a ∧ St h h' (cA b3 [.int .i64 (a : Int)] 3 + (cA b2 [.slice p n c] 25 + (cA b1 [.int .i64 k, .slice sp sn sc] 24 + 0))), fun x _ => n - x.1.toNat, ⟨0, 0, rfl, by omega, yata, s4⟩, ?_⟩
  rintro ⟨_, _⟩ h5 ⟨i, a, rfl, hin, hall, s5⟩
  dsimp only
  rw [zaz_b1]
  refine condP (fun hlt => ?_) (fun hge => ?_)
  · have h2i : 2 ^ i ≤ 2 ^ 14 := Nat.pow_le_pow_right (by decide) (by omega)
    have ha := yauj hall
    refine (r.ext s5.ext).cp s5 rfl (by omega) fun b4 h6 _ s6 => ldEvB s6.blk ((yadw _ _).mono fun v h7 ⟨hv, x7⟩ => ⟨_, hv, ?_⟩)
    have s7 := (s6.grow x7).drop
    refine condP (fun hc => ?_) (fun hc => ?_)
    · refine yaat rfl ⟨_, s7.ld0, maskS (by omega) (by omega) (yaat rfl (s7.wr0 fun h8 s8 => ?_))⟩
      rw [zaz_b2]
      exact ⟨⟨by omega, by omega⟩, ⟨i + 1, _, by push_cast; rfl, by omega, yauq hall hc, s8⟩, by simp only; omega⟩
    · rw [zaz_b2]
      exact ⟨⟨by omega, by omega⟩, ⟨i + 1, a, by push_cast; rfl, by omega, yazc hall hc, s7⟩, by simp only; omega⟩
  · obtain rfl : i = n := by omega
    rw [← hl] at hall
    rw [zaz_b3]
    refine s5.newMap MS fun mm h6 Am _ ma s6 => s6.new (cs := [.map none]) fun mb h7 _ s7 => s7.wr0 fun h8 s8 => s8.new (cs := [.slice none 0 0]) fun ob h9 _ s9 => s9.new (cs := [.nilFunc]) fun fb h10 _ s10 => s10.wr0 fun h11 s11 => ?_
    refine ⟨_, s11.ld0, yaat rfl ⟨_, _, _, _, s11.ld0, s11.ldB, ?_⟩⟩
    have s11 : St h h11 ((cA b3 [.int .i64 (a : Int)] 3 + (cA mb [.map (some mm)] 107 + (cA b2 [.slice p i c] 25 + (cA ob [.slice none ([] : List Nat).length 0] 29 +
      (cA fb [.func (.func 66) #[] #[ptr b3, ptr mb, ptr b2, ptr ob, ptr fb]] 108 + (0 + Am)))))) + (cA b1 [.int .i64 k, .slice sp sn sc] 24 + 0)) := s11.to (by simp only [Bag.zero_add, List.length_nil]; ac_rfl)
    have hz : lft i (Nat.testBit 0) = i := yawq
    refine yafg (args' := #[.int .i64 ((0 : Nat) : Int), .agg #[.int .i64 k, .slice sp sn sc], ptr b3, ptr mb, ptr b2, ptr ob, ptr fb]) (by kernel_rfl) ((yaxt ko tab r hn sm hk hall (i + 1) 0 rows [] [] h11 _ _ sp sn sc (by omega) (Nat.two_pow_pos _) ok (fun h' B s => rr.ext s.ext) (by rw [hz]; simp) (fun e he => nomatch he) ⟨none, 0, 0, Am, rfl, Sl.nil, ma⟩ s11).mono ?_) rfl
    rintro v h12 ⟨bb, A, cur, ps, hv, sa, s12, ht, hf⟩
    refine ⟨_, hv, ?_⟩
    rw [tb0] at ht
    cases bb with
    | true =>
      obtain ⟨o, ho1, ho2⟩ := ht rfl
      rw [List.nil_append] at ho1
      subst ho1
      obtain ⟨q, d, Ao, Am', rfl, oo, _⟩ := sa
      refine yaba rfl ⟨_, _, _, s12.ld0, true, q, cur.length, d, rfl, .inl ⟨rfl, Ao, cur, rfl, oo, ?_, ho2⟩⟩
      have := (s12.to (B := (cA b3 [.int .i64 (a : Int)] 3 + (cA mb [.map (some mm)] 107 + (cA b2 [.slice p i c] 25 + (cA ob [.slice q cur.length d] 29 +
        (cA fb [.func (.func 66) #[] #[ptr b3, ptr mb, ptr b2, ptr ob, ptr fb]] 108 + (Am' + (cA b1 [.int .i64 k, .slice sp sn sc] 24 + 0))))))) + Ao)).drop
      exact this
    | false =>
      obtain ⟨_, _, hfl⟩ := hf rfl
      refine yaaz rfl ⟨false, none, 0, 0, rfl, .inr ⟨rfl, rfl, rfl, rfl, s12.ext, fun o ho => hfl ⟨o, ?_⟩⟩⟩
      rw [tb0]
      exact ho
def ChkP (k : Int) (l : List Ev) (rows : Rows) (most : Int) (h : Hp) (v : Value) (h' : Hp) : Prop :=
  ∃ bb q m d e, v = .tuple #[.bool bb, .slice q m d, .int .i64 e] ∧ givE l rows k most e ∧ ((e ≠ 0 ∧ bb = false ∧ m = 0 ∧ Ext h h') ∨ (e = 0 ∧ SrP k l rows h bb q m d h'))
theorem SrP.base {h h1 h' : Hp} {bb : Bool} {q : OA} {m d : Nat} (s : SrP k l rows h1 bb q m d h') (x : Ext h h1) : SrP k l rows h bb q m d h' := by
  rcases s with ⟨h1, A, o, h2, h3, h4, h5⟩ | ⟨h1, h2, h3, h4, h5, h6⟩
  · exact .inl ⟨h1, A, o, h2, h3, h4.base x, h5⟩
  · exact .inr ⟨h1, h2, h3, h4, x.trans h5, h6⟩
theorem SrP.ext {h h' : Hp} {bb : Bool} {q : OA} {m d : Nat} (s : SrP k l rows h bb q m d h') : Ext h h' := by
  rcases s with ⟨_, _, _, _, _, s, _⟩ | ⟨_, _, _, _, x, _⟩
  · exact s.ext
  · exact x
theorem yapz {most : Int} (ko : KindOk k) (tab : Tab10 h) (r : EvsR h p n l) (sm : Sm l) (rr : RowsR h sp sn rows) (hr : ∀ r ∈ rows, r.length ≤ 1000) :
    yaag Tryz.prog 10 #[.agg #[.int .i64 k, .slice sp sn sc], .slice p n c, .int .i64 most] h (ChkP k l rows most h) := by
  have hl := r.len
  refine zaj_call ?_
  rw [zaj_b0]
  refine (St.start h).new (cs := [.int .i64 k, .slice sp sn sc]) fun b1 h1 _ s => ⟨_, _, _, _, s.ld0, s.ldB, ?_⟩
  refine (yaqc ko.va (r.ext s.ext) sm (rr.ext s.ext) hr).mono fun v h2 ⟨e, hv, hg, x2⟩ => ⟨_, hv, ?_⟩
  have s2 := s.grow x2
  refine condN (fun hne => ⟨false, none, 0, 0, e, rfl, hg, .inl ⟨hne, rfl, rfl, s2.ext⟩⟩) (fun he => ⟨_, _, _, _, s2.ld0, s2.ldB, ?_⟩)
  subst he
  have hg' := hg
  rcases hg' with ⟨_, h0⟩ | ⟨⟨ok, hv, hk⟩, ⟨_, h0⟩ | ⟨hm, ⟨_, h0⟩ | ⟨hlen, _⟩⟩⟩
  · cases h0
  · cases h0
  · cases h0
  refine (yaiv ko (tab.ext s2.ext) (r.ext s2.ext) (by omega) sm hk ok (rr.ext s2.ext)).mono fun v h3 ⟨bb, q, m, d, hv3, hs⟩ => ⟨_, _, _, _, hv3, bb, q, m, d, 0, rfl, hg, .inr ⟨rfl, hs.base s2.ext⟩⟩
end
abbrev del (iv : Int) (xs : List Int) : List Int := xs.filter fun z => decide (z ≠ iv)
abbrev isV (ib : Nat) : Value := .func (.func 63) #[] #[ptr ib]
theorem yazb {ib : Nat} {iv z : Int} {h : Hp} (hc : cell h ⟨ib, 0, none⟩ = some (.int .i64 iv)) : yaag Tryz.prog 63 #[.int .i64 z, ptr ib] h (fun v h' => v = .bool (decide (z = iv)) ∧ h' = h) := by
  refine zal_call ?_
  rw [zal_b0]
  exact yaat rfl ⟨_, hc, rfl, rfl⟩
theorem yayg {ib : Nat} {iv : Int} {h : Hp} {p : OA} {n c : Nat} {xs : List Int} (hc : cell h ⟨ib, 0, none⟩ = some (.int .i64 iv)) (r : RdT TI h p n xs) (hn : n ≤ 1000000) :
    yaag Tryz.prog 98 #[.slice p n c, isV ib] h (fun v h' => h' = h ∧ ∃ x : Int, v = .int .i64 x ∧ ((x = -1 ∧ ∀ z ∈ xs, z ≠ iv) ∨ ∃ i : Nat, i < n ∧ x = (i : Int) ∧ xs.getD i 0 = iv ∧ ∀ z ∈ xs.take i, z ≠ iv)) := by
  have hl := r.len
  refine zde_call ?_
  rw [zde_b0]
  refine ⟨fun s h' => h' = h ∧ ∃ i : Nat, s.1 = i ∧ i ≤ n ∧ ∀ z ∈ xs.take i, z ≠ iv, fun s _ => n - s.1.toNat, ⟨rfl, 0, rfl, by omega, fun z hz => by simp at hz⟩, ?_⟩
  rintro ⟨_, _⟩ h1 ⟨rfl, i, rfl, hin, hno⟩
  dsimp only
  rw [zde_b1]
  refine condP (fun hlt => ?_) (fun hge => ?_)
  · have hi : i < xs.length := by omega
    refine ldI r rfl (by omega) (yafg (args' := #[.int .i64 (xs.getD i 0), ptr ib]) (by kernel_rfl) ((yazb (iv := iv) hc).mono fun v h2 ⟨hv, hh⟩ => ⟨_, hv, ?_⟩) rfl)
    subst hh
    refine condP (fun hy => ⟨rfl, _, rfl, .inr ⟨i, by omega, rfl, hy, hno⟩⟩) (fun hy => ?_)
    rw [zde_b2]
    refine ⟨⟨by omega, by omega⟩, ⟨rfl, i + 1, by simp only; omega, by omega, fun z hz => ?_⟩, by simp only; omega⟩
    rw [List.take_succ_eq_append_getElem hi] at hz
    rcases List.mem_append.1 hz with hz | hz
    · exact hno z hz
    · rw [List.mem_singleton.1 hz, ← yaah (d := 0) hi]; exact hy
  · rw [zde_b3]
    rw [List.take_of_length_le (by omega)] at hno
    exact ⟨rfl, _, rfl, .inl ⟨rfl, hno⟩⟩
theorem yaqd {h0 h : Hp} {ib : Nat} {iv : Int} {p : OA} {n c : Nat} {xs : List Int} {A G : Bag} {e : TypeId} (s : St h0 h (A + (cA ib [.int .i64 iv] e + G))) (a : Sl TI p n c xs A) (hn : n ≤ 1000000) :
    yaag Tryz.prog 61 #[.slice p n c, isV ib] h (fun v h' => ∃ m A', v = .slice p m c ∧ Sl TI p m c (del iv xs) A' ∧ St h0 h' (A' + (cA ib [.int .i64 iv] e + G))) := by
  have hl := a.len
  have hcap := a.cap
  refine zcz_call ?_
  rw [zcz_b0]
  refine (yayg (iv := iv) s.ld0 (a.rd s) hn).mono fun v h1 ⟨hh, x, hv, hx⟩ => ⟨_, hv, ?_⟩
  subst hh
  rcases hx with ⟨rfl, hno⟩ | ⟨i, hi, rfl, hiv, hno⟩
  · refine yaaz rfl ⟨n, A, rfl, ?_, s⟩
    rw [show del iv xs = xs from List.filter_eq_self.2 fun z hz => decide_eq_true (hno z hz)]
    exact a
  refine yaba (decide_eq_false (by omega)) ⟨⟨by omega, by omega⟩, ?_⟩
  refine ⟨fun x h' => ∃ (i j : Nat) (ys : List Int) (A : Bag), x.1 = (i : Int) ∧ x.2.1 = (j : Int) ∧ i < j ∧ j ≤ n ∧ ys.take i = del iv (xs.take j) ∧ ys.drop j = xs.drop j ∧ Sl TI p n c ys A ∧ St h0 h' (A + (cA ib [.int .i64 iv] e + G)), fun x _ => n - x.2.1.toNat,
    ⟨i, i + 1, xs, A, rfl, by push_cast; rfl, by omega, by omega, ?_, rfl, a, s⟩, ?_⟩
  · rw [List.take_succ_eq_append_getElem (by omega)]
    unfold del
    rw [List.filter_append, List.filter_eq_self.2 fun z hz => decide_eq_true (hno z hz)]
    rw [yaah (by omega)] at hiv
    simp [hiv]
  rintro ⟨_, _, _⟩ h2 ⟨i, j, ys, A, rfl, rfl, hij, hj, hy1, hy2, a, s⟩
  dsimp only
  have hyl := a.len
  rw [zcz_b1]
  refine condP (fun hlt => ?_) (fun hge => ?_)
  · have hj' : j < n := by omega
    have hz : ys.getD j 0 = xs.getD j 0 := by
      have : (ys.drop j).getD 0 0 = (xs.drop j).getD 0 0 := by rw [hy2]
      simpa [List.getD] using this
    have hd : ys.drop (j + 1) = xs.drop (j + 1) := by
      have : (ys.drop j).drop 1 = (xs.drop j).drop 1 := by rw [hy2]
      simpa using this
    refine ldI (a.rd s) rfl hj' (yafg (args' := #[.int .i64 (ys.getD j 0), ptr ib]) (by kernel_rfl) ((yazb (iv := iv) s.ld0).mono fun v h3 ⟨hv, hh⟩ => ⟨_, hv, ?_⟩) rfl)
    subst hh
    rw [hz]
    refine condN (fun hne => ?_) (fun heq => ?_)
    · refine Sl.wrI a s (by omega) (by omega) rfl (x := xs.getD j 0) rfl fun h4 A4 a4 s4 => ⟨⟨by omega, by omega⟩, ?_⟩
      rw [zcz_b2]
      refine ⟨⟨by omega, by omega⟩, ⟨i + 1, j + 1, _, A4, by push_cast; rfl, by push_cast; rfl, by omega, by omega, ?_, ?_, a4, s4⟩, by simp only; omega⟩
      · rw [Int.toNat_natCast, List.set_eq_take_append_cons_drop, if_pos (by omega), show ys.take i ++ xs.getD j 0 :: ys.drop (i + 1) = (ys.take i ++ [xs.getD j 0]) ++ ys.drop (i + 1) by simp, List.take_left' (by rw [List.length_append, List.length_take, List.length_singleton]; omega),
          show xs.take (j + 1) = xs.take j ++ [xs.getD j 0] by rw [yaah (by omega)]; exact List.take_succ_eq_append_getElem (by omega)]
        unfold del at hy1 ⊢
        rw [List.filter_append, ← hy1]
        congr 1
        have : decide (xs.getD j 0 ≠ iv) = true := decide_eq_true hne
        unfold List.filter
        simp only [this, List.filter_nil]
      · rw [Int.toNat_natCast, List.drop_set_of_lt (by omega), hd]
    · rw [zcz_b2]
      refine ⟨⟨by omega, by omega⟩, ⟨i, j + 1, ys, A, rfl, by push_cast; rfl, by omega, by omega, ?_, hd, a, s⟩, by simp only; omega⟩
      rw [hy1, List.take_succ_eq_append_getElem (by omega)]
      unfold del
      rw [List.filter_append]
      rw [yaah (by omega)] at heq
      simp [heq]
  · obtain rfl : j = n := by omega
    rw [zcz_b3]
    refine ⟨⟨by omega, by omega, by omega⟩, ?_⟩
    rw [Int.toNat_natCast, Int.toNat_natCast]
    refine yapi yaks a s (by omega) fun h3 A3 a3 s3 => ⟨⟨by omega, by omega, by omega⟩, ?_⟩
    rw [show Int.toNat (0 : Int) = 0 from rfl, yaei, Nat.sub_zero, Nat.sub_zero]
    rw [hy1, List.take_of_length_le (by omega)] at a3
    exact ⟨i, A3, rfl, a3, s3⟩
def mval (h : Hp) (p : OA) : Nat := match p with
  | some a => match cell h a with | some (.int _ z) => (z + 1).toNat | _ => 0
  | none => 0
theorem yaul {h : Hp} {a : Addr} {z : Int} (hc : cell h a = some (.int .i64 z)) : mval h (some a) = (z + 1).toNat := by unfold mval; simp only; rw [hc]
theorem yanp {h : Hp} {p : OA} {c : Nat} {e0 e1 : Ev} {k : Int} {sp : OA} {sn sc : Nat} {rows : Rows} (ko : KindOk k) (tab : Tab10 h) (r : EvsR h p 2 [e0, e1]) (sm : Sm [e0, e1]) (ok : OkR k rows) (hv : yact [e0, e1]) (hk : KindP k [e0, e1]) (rr : RowsR h sp sn rows) (hr : ∀ r ∈ rows, r.length ≤ 1000)
    (hno : ∀ o, ¬ Lin k [e0, e1] o D0 rows) (h0 : ∃ o, Lin k [e0] o D0 rows) (h1 : ∃ o, Lin k [e1] o D0 rows) :
    yaag Tryz.prog 28 #[.agg #[.int .i64 k, .slice sp sn sc], .slice p 2 c, .int .i64 5] h (fun v h' => ∃ q d A, v = .tuple #[.slice q 2 d, .int .i64 0] ∧ Sl TI q 2 d [0, 1] A ∧ St h h' A) := by
  refine zak_call ?_
  rw [zak_b0]
  refine (St.start h).new (cs := [.int .i64 k, .slice sp sn sc]) fun b1 g1 _ s => ⟨_, _, _, _, s.ld0, s.ldB, ?_⟩
  refine (yaqc ko.va (r.ext s.ext) sm (rr.ext s.ext) hr).mono fun v g2 ⟨e, hv2, hg, x2⟩ => ⟨_, hv2, ?_⟩
  have he : e = 0 := by
    rcases hg with ⟨hn, _⟩ | ⟨_, ⟨hm, _⟩ | ⟨_, ⟨hm, _⟩ | ⟨_, he⟩⟩⟩
    · exact absurd ⟨ok, hv, hk⟩ hn
    · omega
    · simp at hm
    · exact he
  subst he
  have s2 := s.grow x2
  refine yaba rfl ⟨_, _, _, _, s2.ld0, s2.ldB, ?_⟩
  refine (yaiv ko (tab.ext s2.ext) (r.ext s2.ext) (by decide) sm hk ok (rr.ext s2.ext)).mono fun v g3 ⟨bb, q3, m3, d3, hv3, hs⟩ => ⟨_, _, _, _, hv3, ?_⟩
  have s3 := s2.grow hs.ext
  rcases hs with ⟨_, _, o, _, _, _, ho⟩ | ⟨rfl, _⟩
  · exact absurd ho (hno o)
  refine yaba rfl ?_
  clear s s2
  refine ⟨fun x h' => ∃ (i : Nat) (A : Bag), x.2.1 = (i : Int) ∧ i ≤ 2 ∧ Sl TI x.1.1 x.1.2.1 x.1.2.2 (natI (List.range i)) A ∧ St h h' (A + (cA b1 [.int .i64 k, .slice sp sn sc] 24 + 0)), fun x _ => 2 - x.2.1.toNat, ⟨0, 0, rfl, by omega, Sl.nil, by rw [Bag.zero_add]; exact s3⟩, ?_⟩
  rintro ⟨⟨q, m, d⟩, _, _⟩ g4 ⟨i, A, rfl, hi, o4, s4⟩
  dsimp only at o4 ⊢
  have hm4 := o4.len
  rw [List.length_map, List.length_range] at hm4
  rw [zak_b1]
  refine condP (fun hlt => ?_) (fun hge => ?_)
  · refine yajc yaks s4 o4 (x := (i : Int)) rfl rfl (by omega) fun q5 d5 g5 A5 o5 s5 => ?_
    rw [zak_b2]
    exact ⟨⟨by omega, by omega⟩, ⟨i + 1, A5, by push_cast; rfl, by omega, by rw [List.range_succ, yalf]; exact o5, s5⟩, by simp only; omega⟩
  obtain rfl : i = 2 := by omega
  subst hm4
  rw [zak_b3]
  refine ⟨⟨by decide, by decide⟩, ?_⟩
  have o4 : Sl TI q 2 d [0, 1] A := o4
  clear hge
  refine ⟨fun x h' => ∃ A : Bag, (x.2.1 = 3 ∨ x.2.1 = 2) ∧ x.1.2.1 = 2 ∧ Sl TI x.1.1 2 x.1.2.2 [0, 1] A ∧ St h h' (A + (cA b1 [.int .i64 k, .slice sp sn sc] 24 + 0)), fun x _ => x.2.1.toNat, ⟨A, .inl rfl, rfl, o4, s4⟩, ?_⟩
  clear o4 s4
  rintro ⟨⟨q, m, d⟩, nv, _⟩ g5 ⟨A, hnv, rfl, o5, s5⟩
  dsimp only at hnv o5 ⊢
  rw [zak_b4]
  refine condP (fun hlt => ⟨⟨by decide, by decide⟩, ?_⟩) (fun hge => ?_)
  rotate_left
  · rw [zak_b6]
    exact ⟨q, d, A, rfl, o5, (s5.to (B := (cA b1 [.int .i64 k, .slice sp sn sc] 24) + A) (by rw [Bag.add_zero]; ac_rfl)).drop⟩
  obtain rfl : nv = 3 := by omega
  refine s5.new (cs := [.int .i64 0]) fun ib g6 _ s6 => s6.wr0 fun g7 s7 => ?_
  have s7 : St h g7 (cA ib [.int .i64 1] 3 + (A + (cA b1 [.int .i64 k, .slice sp sn sc] 24 + 0))) := s7
  refine ⟨fun x h' => ∃ (ib : Nat) (iv : Int) (A : Bag), x.2.1 = some ⟨ib, 0, none⟩ ∧ (iv = -1 ∨ iv = 0 ∨ iv = 1) ∧ x.1.2.1 = 2 ∧ Sl TI x.1.1 2 x.1.2.2 [0, 1] A ∧ St h h' (cA ib [.int .i64 iv] 3 + (A + (cA b1 [.int .i64 k, .slice sp sn sc] 24 + 0))), fun x h' => mval h' x.2.1, ⟨ib, 1, A, rfl, .inr (.inr rfl), rfl, o5, s7⟩, ?_⟩
  clear s7 s5 o5
  rintro ⟨⟨q, m, d⟩, _, _⟩ g8 ⟨ib, iv, A, rfl, hiv, rfl, o8, s8⟩
  dsimp only at o8 ⊢
  rw [zak_b5, yaul s8.ld0]
  refine yaat rfl ⟨_, s8.ld0, condP (fun hpos => ?_) (fun hneg => ?_)⟩
  rotate_left
  · exact ⟨⟨A, .inr rfl, rfl, o8, s8.drop⟩, by simp⟩
  have hiv : iv = 0 ∨ iv = 1 := by omega
  have s8' : St h g8 (A + (cA ib [.int .i64 iv] 3 + (cA b1 [.int .i64 k, .slice sp sn sc] 24 + 0))) := s8.to
  refine (yaeq (o8.rd s8') (by decide)).mono fun v g9 ⟨q9, d9, A9, hv9, o9, t9⟩ => ⟨_, _, _, hv9, ?_⟩
  have s9 := s8'.join t9
  have s9 : St h g9 (A9 + (cA ib [.int .i64 iv] 3 + (A + (cA b1 [.int .i64 k, .slice sp sn sc] 24 + 0)))) := s9.to
  refine (yaqd s9 o9 (by decide)).mono fun v g10 ⟨m10, A10, hv10, o10, s10⟩ => ⟨_, _, _, hv10, ?_⟩
  have hdl : del iv [0, 1] = [1 - iv] := by rcases hiv with rfl | rfl <;> rfl
  rw [hdl] at o10
  obtain rfl : 1 = m10 := o10.len
  refine yaba rfl ?_
  obtain ⟨ev, hev, hevm⟩ : ∃ ev, ev = ([e0, e1] : List Ev).getD (1 - iv).toNat dEv ∧ ∃ o, Lin k [ev] o D0 rows := ⟨_, rfl, by rcases hiv with rfl | rfl <;> assumption⟩
  have hmem : ev ∈ [e0, e1] := by rw [hev]; exact yaar (by rcases hiv with rfl | rfl <;> simp)
  refine ⟨fun x h' => ∃ (t : Nat) (E : Bag), x.2.1 = (t : Int) ∧ t ≤ 1 ∧ Sl tEv x.1.1 x.1.2.1 x.1.2.2 (([ev] : List Ev).take t |>.map Ev.t) E ∧ St h h' (E + (A10 + (cA ib [.int .i64 iv] 3 + (A + (cA b1 [.int .i64 k, .slice sp sn sc] 24 + 0))))), fun x _ => 1 - x.2.1.toNat, ⟨0, 0, rfl, by omega, Sl.nil, by rw [Bag.zero_add]; exact s10⟩, ?_⟩
  rintro ⟨⟨q11, m11, d11⟩, _, _⟩ g11 ⟨t, E, rfl, ht, o11, s11⟩
  dsimp only at o11 ⊢
  rw [zak_b8]
  refine condP (fun hlt => ?_) (fun hge => ?_)
  · obtain rfl : t = 0 := by omega
    have hm11 := o11.len
    refine ldI (o10.rd (s11.to (B := A10 + (E + (cA ib [.int .i64 iv] 3 + (A + (cA b1 [.int .i64 k, .slice sp sn sc] 24 + 0))))))) (i' := 0) rfl (by decide) ?_
    refine (r.ext s11.ext).ld (i' := (1 - iv).toNat) (by show (1 - iv : Int) = _; omega) (by omega) ?_
    rw [← hev]
    refine yajc (cs := evC ev.t) ok_ev s11 o11 (x := ev.t) rfl rfl (by simp at hm11; omega) fun q12 d12 g12 E12 o12 s12 => ?_
    rw [zak_b9]
    exact ⟨⟨by decide, by decide⟩, ⟨1, E12, rfl, by omega, o12, s12⟩, by simp⟩
  obtain rfl : t = 1 := by omega
  rw [zak_b10]
  have o11 : Sl tEv q11 m11 d11 [ev.t] E := o11
  obtain rfl : 1 = m11 := o11.len
  refine yaat rfl ⟨_, _, _, _, s11.ld0, s11.ldB, ?_⟩
  have re : EvsR g11 q11 1 [ev] := ⟨o11.rd s11, fun e he => by rw [List.mem_singleton.1 he]; exact (r.2 _ hmem).ext s11.ext⟩
  refine (yaiv ko (tab.ext s11.ext) re (by decide) (fun e he => by rw [List.mem_singleton.1 he]; exact sm _ hmem) (fun e he => by rw [List.mem_singleton.1 he]; exact hk _ hmem) ok (rr.ext s11.ext)).mono fun v g13 ⟨bb, q13, m13, d13, hv13, hs⟩ => ⟨_, _, _, _, hv13, ?_⟩
  have s13 := (s11.grow hs.ext).drop.drop
  rcases hs with ⟨rfl, _⟩ | ⟨_, _, _, _, _, hn13⟩
  rotate_left
  · obtain ⟨o, ho⟩ := hevm
    exact absurd ho (hn13 o)
  refine yaba rfl ?_
  rw [zak_b7]
  refine yaat rfl ⟨_, s13.ld0, s13.new (cs := [.int .i64 0]) fun b4 g14 _ s14 => s14.wr0 fun g15 s15 => ⟨_, s15.ld0, ⟨by omega, by omega⟩, s15.wr0 fun g16 s16 => ?_⟩⟩
  have s16 : St h g16 (cA b4 [.int .i64 (iv - 1)] 3 + (cA ib [.int .i64 iv] 3 + (A + (cA b1 [.int .i64 k, .slice sp sn sc] 24 + 0)))) := s16
  refine ⟨⟨b4, iv - 1, A, rfl, by omega, rfl, o8, stMid s16⟩, ?_⟩
  rw [yaul s16.ld0]
  omega
theorem yavm (k : Int) : KindOk k := ⟨yakk, yavh, yavl, ybah⟩
abbrev ev0 (a : SH) : Ev := ⟨⟨0, 1, a, 0, 0, (none, 0, 0), 0, 3⟩, [1, 5], []⟩
abbrev ev1 (a : SH) (g : Int) : Ev := ⟨⟨1, 2, a, 12, 0, (none, 0, 0), g, 4⟩, [1], []⟩
theorem yaum {a b : SH} {g : Int} (hg : g = 2 ∨ g = 4) : HistK 1 [ev0 a, ev1 b g] := by
  refine ⟨by simp, fun e he => ?_, ?_, fun e he => ?_⟩
  · rcases List.mem_cons.1 he with rfl | he
    · refine ⟨?_, ?_, .inr ?_, fun h => absurd h ?_⟩
      · show 0 ≤ (0 : Int) ∧ (0 : Int) < 8; decide
      · show 0 ≤ (0 : Int) ∧ (0 : Int) ≤ 65536; decide
      · show (0 : Int) ≤ 3 ∧ (3 : Int) ≤ 65536; decide
      · show ¬ (3 : Int) = -1; decide
    · rw [List.mem_singleton.1 he]
      refine ⟨?_, ?_, .inr ?_, fun h => absurd h ?_⟩
      · show 0 ≤ (1 : Int) ∧ (1 : Int) < 8; decide
      · show 0 ≤ g ∧ g ≤ 65536
        omega
      · show g ≤ 4 ∧ (4 : Int) ≤ 65536
        omega
      · show ¬ (4 : Int) = -1; decide
  · refine List.pairwise_cons.2 ⟨fun e he => ?_, List.pairwise_singleton _ _⟩
    rw [List.mem_singleton.1 he]
    exact fun h => absurd h (show ¬ (0 : Int) = 1 by decide)
  · rcases List.mem_cons.1 he with rfl | he
    · show OpV 1 1 [1, 5]
      decide
    · rw [List.mem_singleton.1 he]
      show OpV 1 2 [1]
      decide
theorem yawe {a : SH} : stepE 1 [] (ev0 a) = some [[1, 5]] := by
  unfold stepE
  rw [show stepR 1 [] (ev0 a).t.co (ev0 a).zs = ([[1, 5]], 0, 0) from by show stepR 1 [] 1 [1, 5] = _; decide]
  exact if_neg fun h => h.2 ⟨rfl, rfl, rfl⟩
theorem yazk {a : SH} {g : Int} : stepE 1 [] (ev1 a g) = some [] := by
  unfold stepE
  rw [show stepR 1 [] (ev1 a g).t.co (ev1 a g).zs = ([], 12, 0) from by show stepR 1 [] 2 [1] = _; decide]
  exact if_neg fun h => h.2 ⟨rfl, rfl, rfl⟩
theorem yazo {a : SH} {g : Int} : stepE 1 [[1, 5]] (ev1 a g) = none := by
  unfold stepE
  rw [show stepR 1 [[1, 5]] (ev1 a g).t.co (ev1 a g).zs = ([[1, 5]], 0, 5) from by show stepR 1 [[1, 5]] 2 [1] = _; decide]
  exact if_pos ⟨by show (0 : Int) ≤ 4; decide, fun h => absurd h.1 (by show ¬ (0 : Int) = 12; decide)⟩
theorem yazi {a b : SH} {g : Int} {o : List Nat} (h : Lin 1 [ev0 a, ev1 b g] o D0 []) : o = [1, 0] := by
  have cpl : ∀ {D : Nat → Bool} {j : Nat}, j < 2 → D j = false → ¬ Cpl [ev0 a, ev1 b g] D := fun {D j} hj hd hc => by
    have := hc j hj (by
      obtain rfl | rfl : j = 0 ∨ j = 1 := by omega
      · show (0 : Int) ≤ 3; decide
      · show (0 : Int) ≤ 4; decide)
    rw [hd] at this; cases this
  cases o with
  | nil => exact absurd h (cpl (j := 0) (by decide) rfl)
  | cons i o =>
    obtain ⟨hi, hn, r, hr, hl⟩ := h
    obtain rfl | rfl : i = 0 ∨ i = 1 := by simp at hi; omega
    · rw [show stepE 1 [] (([ev0 a, ev1 b g] : List Ev).getD 0 dEv) = some [[1, 5]] from yawe] at hr
      cases hr
      cases o with
      | nil => exact absurd hl (cpl (j := 1) (by decide) rfl)
      | cons i o =>
        obtain ⟨hi, hn, r, hr, hl⟩ := hl
        obtain rfl | rfl : i = 0 ∨ i = 1 := by simp at hi; omega
        · have := hn.1
          rw [yaii] at this; cases this
        · rw [show stepE 1 [[1, 5]] (([ev0 a, ev1 b g] : List Ev).getD 1 dEv) = none from yazo] at hr
          cases hr
    · cases o with
      | nil => exact absurd hl (cpl (j := 0) (by decide) rfl)
      | cons i o =>
        obtain ⟨hi, hn, r, hr, hl⟩ := hl
        obtain rfl | rfl : i = 0 ∨ i = 1 := by simp at hi; omega
        · cases o with
          | nil => rfl
          | cons i o =>
            obtain ⟨hi, hn, _⟩ := hl
            have := hn.1
            obtain rfl | rfl : i = 0 ∨ i = 1 := by simp at hi; omega
            · cases this
            · cases this
        · have := hn.1
          rw [yaii] at this; cases this
theorem ybak {a b : SH} : Lin 1 [ev0 a, ev1 b 2] [1, 0] D0 [] := by
  have np : ∀ {x y : EvT}, x.en < 0 ∨ y.bg ≤ x.en → ¬ precT x y := fun h hp => by unfold precT at hp; omega
  refine ⟨show 1 < 2 by decide, ⟨rfl, fun j hj _ => ?_⟩, [], yazk, show 0 < 2 by decide, ⟨rfl, fun j hj hd => ?_⟩, [[1, 5]], yawe, fun j hj _ => ?_⟩
  · obtain rfl | rfl : j = 0 ∨ j = 1 := by simp at hj; omega
    · exact np (.inr (show (2 : Int) ≤ 3 by decide))
    · exact np (.inr (show (2 : Int) ≤ 4 by decide))
  · obtain rfl | rfl : j = 0 ∨ j = 1 := by simp at hj; omega
    · exact np (.inr (show (0 : Int) ≤ 3 by decide))
    · cases hd
  · obtain rfl | rfl : j = 0 ∨ j = 1 := by simp at hj; omega
    · rfl
    · rfl
theorem yaxo {a b : SH} {o : List Nat} (h : Lin 1 [ev0 a, ev1 b 4] o D0 []) : False := by
  have := yazi h
  subst this
  obtain ⟨_, hn, _⟩ := h
  exact hn.2 0 (show 0 < 2 by decide) rfl ⟨show (0 : Int) ≤ 3 by decide, show (3 : Int) < 4 by decide⟩
theorem yaua {e : Ev} {r : Rows} (h1 : One e) (h : stepE 1 [] e = some r) : Lin 1 [e] [0] D0 [] := by
  refine ⟨show 0 < 1 by decide, ⟨rfl, fun j hj _ => ?_⟩, r, h, fun j hj _ => ?_⟩
  · obtain rfl : j = 0 := by simpa using hj
    exact yavy h1
  · obtain rfl : j = 0 := by simpa using hj
    rfl
theorem yaus {h0 : Hp} (tab : Tab10 h0) : yaye h0 := fun h x => by
  have tab := tab.ext x
  refine zaf_call ?_
  rw [zaf_b0]
  refine (St.start h).new (cs := [.int .i64 0, .slice none 0 0]) fun b1 h1 _ s => s.wr0 fun h2 s => s.wrB fun h3 s => s.new (cs := [.int .i64 1, .int .i64 5]) fun b2 h4 _ s => s.new (cs := [.int .i64 1]) fun b3 h5 _ s => ?_
  obtain ⟨x0, hx0⟩ : ∃ x0 : SH, x0 = (some ⟨b2, 0, none⟩, 2, 2) := ⟨_, rfl⟩
  obtain ⟨x1, hx1⟩ : ∃ x1 : SH, x1 = (some ⟨b3, 0, none⟩, 1, 1) := ⟨_, rfl⟩
  have e1 : ∀ g : Int, tEv.cells [(ev0 x0).t, (ev1 x1 g).t] = [.int .i64 0, .int .i64 1, .slice (some ⟨b2, 0, none⟩) 2 2, .int .i64 0, .int .i64 0, .slice none 0 0, .int .i64 0, .int .i64 3, .int .i64 1, .int .i64 2, .slice (some ⟨b3, 0, none⟩) 1 1, .int .i64 12, .int .i64 0, .slice none 0 0, .int .i64 g, .int .i64 4] := fun g => by subst hx0 hx1; rfl
  refine s.new (cs := [.int .i64 0, .int .i64 1, .slice (some ⟨b2, 0, none⟩) 2 2, .int .i64 0, .int .i64 0, .slice none 0 0, .int .i64 0, .int .i64 3, .int .i64 1, .int .i64 2, .slice (some ⟨b3, 0, none⟩) 1 1, .int .i64 12, .int .i64 0, .slice none 0 0, .int .i64 2, .int .i64 4]) fun b4 h6 _ s => ?_
  have hk : ∀ g : Int, (g = 2 ∨ g = 4) → yact [ev0 x0, ev1 x1 g] := fun g hg => ⟨1, by decide, yaum hg⟩
  have sm : ∀ g : Int, Sm [ev0 x0, ev1 x1 g] := fun g e he => by
    rcases List.mem_cons.1 he with rfl | he
    · exact ⟨by show (2 : Nat) ≤ 70; decide, by show (0 : Nat) ≤ 20; decide⟩
    · rw [List.mem_singleton.1 he]; exact ⟨by show (1 : Nat) ≤ 70; decide, by show (0 : Nat) ≤ 20; decide⟩
  -- the events in memory
  have evs : ∀ {h' : Hp} {g : Int} {D : Bag}, St h h' (cA b4 (tEv.cells [(ev0 x0).t, (ev1 x1 g).t]) 60 + (cA b3 [.int .i64 1] 3 + (cA b2 [.int .i64 1, .int .i64 5] 3 + D))) → EvsR h' (some ⟨b4, 0, none⟩) 2 [ev0 x0, ev1 x1 g] := fun {h' g D} s => by
    have o4 : Sl tEv (some ⟨b4, 0, none⟩) 2 2 [(ev0 x0).t, (ev1 x1 g).t] (cA b4 (tEv.cells [(ev0 x0).t, (ev1 x1 g).t]) 60) := Sl.of_blk (T := tEv) (xs := [(ev0 x0).t, (ev1 x1 g).t]) rfl rfl
    have o3 : Sl TI (some ⟨b3, 0, none⟩) 1 1 [1] (cA b3 [.int .i64 1] 3) := Sl.of_blk (T := TI) (xs := [1]) rfl rfl
    have o2 : Sl TI (some ⟨b2, 0, none⟩) 2 2 [1, 5] (cA b2 [.int .i64 1, .int .i64 5] 3) := Sl.of_blk (T := TI) (xs := [1, 5]) rfl rfl
    have r4 := o4.rd s
    have r3 := o3.rd s.drop
    have r2 := o2.rd s.drop.drop
    refine ⟨r4, fun e he => ?_⟩
    rcases List.mem_cons.1 he with rfl | he
    · subst hx0
      exact ⟨⟨r2, by show (2 : Nat) ≤ 2; decide⟩, RdT.nil _ _, by show (0 : Nat) ≤ 0; decide⟩
    · rw [List.mem_singleton.1 he]
      subst hx1
      exact ⟨⟨r3, by show (1 : Nat) ≤ 1; decide⟩, RdT.nil _ _, by show (0 : Nat) ≤ 0; decide⟩
  have kb : ∀ {g most e : Int}, (g = 2 ∨ g = 4) → most = 5 → givE [ev0 x0, ev1 x1 g] [] 1 most e → e = 0 := fun {g most e} hg hm he => by
    subst hm
    rcases he with ⟨hn, _⟩ | ⟨_, ⟨hm, _⟩ | ⟨_, ⟨hm, _⟩ | ⟨_, he⟩⟩⟩
    · exact absurd ⟨yats (by decide), hk g hg, (yaum hg).2.2.2⟩ hn
    · omega
    · simp at hm
    · exact he
  have s : St h h6 (cA b4 [.int .i64 0, .int .i64 1, .slice (some ⟨b2, 0, none⟩) 2 2, .int .i64 0, .int .i64 0, .slice none 0 0, .int .i64 0, .int .i64 3, .int .i64 1, .int .i64 2, .slice (some ⟨b3, 0, none⟩) 1 1, .int .i64 12, .int .i64 0, .slice none 0 0, .int .i64 2, .int .i64 4] 60 + (cA b3 [.int .i64 1] 3 + (cA b2 [.int .i64 1, .int .i64 5] 3 + (cA b1 [.int .i64 1, .slice none 0 0] 24 + 0)))) := s
  have rr := yamr
  have hr0 : ∀ r ∈ ([] : Rows), r.length ≤ 1000 := fun r hr => nomatch hr
  refine ⟨_, _, _, _, s.ld0, s.ldB, ?_⟩
  refine (yapz (yavm 1) (tab.ext s.ext) (evs (g := 2) (by rw [e1]; exact s)) (sm 2) (rr h6) hr0).mono fun v h7 ⟨bb, q, m, d, e, hv, hg, hs⟩ => ⟨_, _, _, _, _, hv, ?_⟩
  obtain rfl := kb (.inl rfl) rfl hg
  obtain ⟨A, rfl, rfl, oA, tA⟩ : ∃ A, bb = true ∧ m = 2 ∧ Sl TI q m d [1, 0] A ∧ St h6 h7 A := by
    rcases hs with ⟨hn, _⟩ | ⟨_, ⟨hb, A, o, hm, oA, tA, hl⟩ | ⟨_, _, _, _, _, hn⟩⟩
    · exact absurd rfl hn
    · have := yazi hl
      subst this
      exact ⟨A, hb, hm, oA, tA⟩
    · exact absurd ybak (hn _)
  have s := s.join tA
  have s : St h h7 (cA b4 [.int .i64 0, .int .i64 1, .slice (some ⟨b2, 0, none⟩) 2 2, .int .i64 0, .int .i64 0, .slice none 0 0, .int .i64 0, .int .i64 3, .int .i64 1, .int .i64 2, .slice (some ⟨b3, 0, none⟩) 1 1, .int .i64 12, .int .i64 0, .slice none 0 0, .int .i64 2, .int .i64 4] 60 + (cA b3 [.int .i64 1] 3 + (cA b2 [.int .i64 1, .int .i64 5] 3 + (cA b1 [.int .i64 1, .slice none 0 0] 24 + (A + 0))))) := s.to
  refine ⟨⟨by decide, by decide⟩, s.wr (o := 14) rfl (by simp) fun h8 s => ?_⟩
  have s : St h h8 (cA b4 [.int .i64 0, .int .i64 1, .slice (some ⟨b2, 0, none⟩) 2 2, .int .i64 0, .int .i64 0, .slice none 0 0, .int .i64 0, .int .i64 3, .int .i64 1, .int .i64 2, .slice (some ⟨b3, 0, none⟩) 1 1, .int .i64 12, .int .i64 0, .slice none 0 0, .int .i64 4, .int .i64 4] 60 + (cA b3 [.int .i64 1] 3 + (cA b2 [.int .i64 1, .int .i64 5] 3 + (cA b1 [.int .i64 1, .slice none 0 0] 24 + (A + 0))))) := s
  refine ⟨_, _, _, _, s.ld0, s.ldB, ?_⟩
  refine (yapz (yavm 1) (tab.ext s.ext) (evs (g := 4) (by rw [e1]; exact s)) (sm 4) (rr h8) hr0).mono fun v h9 ⟨bb, q9, m9, d9, e, hv, hg, hs⟩ => ⟨_, _, _, _, _, hv, ?_⟩
  obtain rfl := kb (.inr rfl) rfl hg
  obtain ⟨rfl, x9⟩ : bb = false ∧ Ext h8 h9 := by
    rcases hs with ⟨hn, _⟩ | ⟨_, ⟨_, _, _, _, _, _, hl⟩ | ⟨hb, _, _, _, x, _⟩⟩
    · exact absurd rfl hn
    · exact (yaxo hl).elim
    · exact ⟨hb, x⟩
  have s := s.grow x9
  refine ⟨_, _, _, _, s.ld0, s.ldB, ?_⟩
  have h4 := yaum (a := x0) (b := x1) (g := 4) (.inr rfl)
  refine (yanp (yavm 1) (tab.ext s.ext) (evs (g := 4) (by rw [e1]; exact s)) (sm 4) (yats (by decide)) (hk 4 (.inr rfl)) h4.2.2.2 (rr h9) hr0 (fun o ho => yaxo ho) ⟨_, yaua (h4.2.1 _ (by simp)) yawe⟩ ⟨_, yaua (h4.2.1 _ (by simp)) yazk⟩).mono fun v h10 ⟨q10, d10, A10, hv, o10, t10⟩ => ⟨_, _, _, _, hv, ?_⟩
  have s := s.join t10
  refine yaaz rfl (s.new (cs := [.int .i64 1, .int .i64 0]) fun b5 h11 _ s => ?_)
  have k5 : Sl TI (some ⟨b5, 0, none⟩) 2 2 [1, 0] (cA b5 [.int .i64 1, .int .i64 0] 3) := Sl.of_blk (T := TI) (xs := [1, 0]) rfl rfl
  refine (yasb (oA.rd (s.to (B := A + (cA b5 [.int .i64 1, .int .i64 0] 3 + (A10 + (cA b4 [.int .i64 0, .int .i64 1, .slice (some ⟨b2, 0, none⟩) 2 2, .int .i64 0, .int .i64 0, .slice none 0 0, .int .i64 0, .int .i64 3, .int .i64 1, .int .i64 2, .slice (some ⟨b3, 0, none⟩) 1 1, .int .i64 12, .int .i64 0, .slice none 0 0, .int .i64 4, .int .i64 4] 60 + (cA b3 [.int .i64 1] 3 + (cA b2 [.int .i64 1, .int .i64 5] 3 + (cA b1 [.int .i64 1, .slice none 0 0] 24 + 0))))))))) (k5.rd s) (by decide)).mono fun v h12 ⟨hh, hv⟩ => ⟨_, hv, yaaz (by decide) (yaaz rfl (yaaz rfl (yaaz rfl ?_)))⟩
  subst hh
  refine s.new (cs := [.int .i64 0, .int .i64 1]) fun b6 h13 _ s => ?_
  have k6 : Sl TI (some ⟨b6, 0, none⟩) 2 2 [0, 1] (cA b6 [.int .i64 0, .int .i64 1] 3) := Sl.of_blk (T := TI) (xs := [0, 1]) rfl rfl
  refine (yasb (o10.rd (s.to (B := A10 + (cA b6 [.int .i64 0, .int .i64 1] 3 + (cA b5 [.int .i64 1, .int .i64 0] 3 + (cA b4 [.int .i64 0, .int .i64 1, .slice (some ⟨b2, 0, none⟩) 2 2, .int .i64 0, .int .i64 0, .slice none 0 0, .int .i64 0, .int .i64 3, .int .i64 1, .int .i64 2, .slice (some ⟨b3, 0, none⟩) 1 1, .int .i64 12, .int .i64 0, .slice none 0 0, .int .i64 4, .int .i64 4] 60 + (cA b3 [.int .i64 1] 3 + (cA b2 [.int .i64 1, .int .i64 5] 3 + (cA b1 [.int .i64 1, .slice none 0 0] 24 + (A + 0)))))))))) (k6.rd s) (by decide)).mono fun v h14 ⟨hh, hv⟩ => ⟨_, hv, yaaz (by decide) ⟨rfl, ?_⟩⟩
  subst hh
  exact s.ext
end Go.Proofs.YtllhdhpjgihjfaaGreatDoor
namespace Go.Sx
open Go Go.ChangeShapes Go.WideShapes Go.Deep
section
variable {H : Type} {enc : TypeId × Value → H} {P : Program} {w : World} {base : Nat} {sp : Nat → Bool} {held : Bool} {α : Type}
theorem yauh {t : TypeId} (T : Ty α) {W : α → Prop} {a : Option Addr} {len cap : Nat} {d : DataW H} {ps : List MemPlace} (ht : P.underlying t = some (.slice T.e)) (hc : P.cellsOf T.e = T.sz)
    (dec : ∀ n cs x, DataW.trod enc P w base sp held n T.e cs = some x → ∃ a, cs = T.enc a ∧ W a) (h : DataW.Trod enc P w base sp held t (.slice a len cap) d ps) :
    ∃ xs : List α, RdT T w.heap a len xs ∧ len ≤ cap ∧ ∀ x ∈ xs, W x := by
  obtain ⟨fuel, hf⟩ := h
  have e0 : (Value.slice a len cap).cells.toList = [.slice a len cap] := rfl
  rw [e0] at hf
  rcases open_slice ht hf with ⟨hcs, _⟩ | ⟨x, l, c, m, n, D, Pl, hcs, _, hl, _, hm, _, hx⟩
  · injection hcs with h1 _
    injection h1 with h1 h2 h3
    subst h1 h2 h3
    exact ⟨[], RdT.nil _ _, Nat.le_refl _, fun _ h => nomatch h⟩
  · injection hcs with h1 _
    injection h1 with h1 h2 h3
    subst h1 h2 h3
    have hlm : len ≤ m := by rw [hm]; split <;> omega
    haveI : Inhabited α := ⟨T.d⟩
    obtain ⟨f, hf⟩ := choose_lt (α := α) (n := len) (p := fun i z => w.cells? base (x.add (i * T.sz)) T.sz = some (T.enc z) ∧ W z) (fun i hi => by
      obtain ⟨cs, h1, h2⟩ := hx i (by omega)
      obtain ⟨z, hz, hw⟩ := dec n cs _ h2
      rw [hc] at h1
      exact ⟨z, by rw [h1, hz], hw⟩)
    refine ⟨(List.range len).map f, ⟨by simp, .inr ⟨x, rfl, fun i hi => ?_⟩⟩, hl, fun z hz => ?_⟩
    · have hp := T.pos
      have hdm : T.sz * (i / T.sz) + i % T.sz = i := Nat.div_add_mod i T.sz
      have hq : i / T.sz < len := (Nat.div_lt_iff_lt_mul hp).2 hi
      have hr : i % T.sz < T.sz := Nat.mod_lt _ hp
      obtain ⟨_, _, h3⟩ := World.cells?_some (hf _ hq).1
      have h4 := h3 _ hr
      have e1 : i / T.sz * T.sz + i % T.sz = i := by rw [Nat.mul_comm]; exact hdm
      rw [yafh, e1] at h4
      show cell w.heap (x.add i) = _
      rw [← yamv, h4]
      have := T.cells_get ((List.range len).map f) (i := i / T.sz) (j := i % T.sz) (by simpa using hq) hr
      rw [e1] at this
      rw [this]
      simp [List.getD, hq]
    · obtain ⟨i, hi, rfl⟩ := List.mem_map.1 hz
      exact (hf i (List.mem_range.1 hi)).2
theorem yaha {e : TypeId} {k : IntKind} (he : P.underlying e = some (.int k)) (n : Nat) (cs : List Value) (x : DataW H × List MemPlace) (h : DataW.trod enc P w base sp held n e cs = some x) : ∃ z, cs = [.int k z] ∧ (Lit.int k z).wf = true := by
  obtain ⟨z, h1, _, h2⟩ := DataW.trod_int he h
  exact ⟨z, h1, h2⟩
end
end Go.Sx
namespace Go.Proofs.YtllhdhpjgihjfaaGreatDoor
open Go Go.Sx Go.ChangeShapes Go.WideShapes Go.ChangeAt Go.RowKit Go.Deep
theorem own : ownKnob Tryz.prog.godebug = none := by kernel_rfl
theorem yaxs : laidOutB Tryz.prog = true := by kernel_rfl
abbrev laid3 : List (String × DataW Unit) := [("math/bits.deBruijn32tab", Rows.laid_math_bits_deBruijn32tab), ("math/bits.deBruijn64tab", Rows.laid_math_bits_deBruijn64tab), ("internal/strconv.uint64pow10", Rows.laid_internal_strconv_uint64pow10)]
theorem yauz (os : Os) (args : Array Value) : laidMetH Tryz.prog laid3 ((World.doorLaid Tryz.prog 24 os).forCall (fun _ _ => 0) ⟨#[], args, []⟩).memory := by
  rw [MakeChecks.laidMetH_plain _ _ _ (by kernel_rfl)]
  exact laidMet_of_run' 8 (by kernel_rfl) (by kernel_rfl)
theorem yazu {W : World} (hL : laidMetH Tryz.prog laid3 W) : Tab10 W.heap := by
  rw [MakeChecks.laidMetH_plain _ _ _ (by kernel_rfl)] at hL
  have h := Lib.tabIs_of_head (k := .u64) (zs := Lib.pow10Tab) Tryz.laysM176.m17 (t := 191) (e := 146) (n := 20) (by kernel_rfl) (by kernel_rfl) (by kernel_rfl) (by kernel_rfl) (by kernel_rfl)
    (show laidMet Tryz.prog (("internal/strconv.uint64pow10", Lib.tabData .u64 Lib.pow10Tab) :: []) W from hL.tail.tail)
  unfold Lib.TabIs World.var? at h
  rw [Tryz.laysM176.m17, Option.bind_some] at h
  split at h
  · rename_i cs e fz hg
    cases h
    exact ⟨_, e, fz, Tryz.laysM176.m17, hg⟩
  · cases h
theorem yaxe {P : Program} {f : FuncId} {args : Array Value} {w : World} (hc : yaag P f args w.heap (fun v h' => v = .bool true ∧ Ext w.heap h')) :
    Calls P f args w fun e w' => e = .returned (.bool true) ∧ Below w.heap.size w w' :=
  (hc w rfl).mono fun e w' ⟨v, he, hs, hv, hx⟩ => ⟨by rw [he, hv], ⟨hs.os, hs.tape, hs.output, hx.size, hx.same⟩⟩
section
variable {H : Type} {enc : TypeId × Value → H} {w : World} {base : Nat} {held : Bool} {a : OA} {len cap : Nat} {d : DataW H} {ps : List MemPlace}
theorem yaux (h : DataW.Trod enc Tryz.prog w base (fun _ => true) held 29 (.slice a len cap) d ps) : ∃ l : List Int, RdT TI w.heap a len l ∧ len ≤ cap ∧ ∀ x ∈ l, InR x :=
  yauh (W := InR) TI Tryz.underlying29 (by kernel_rfl) (fun n cs x h => by
    obtain ⟨z, h1, h2⟩ := yaha (k := .i64) (by kernel_rfl) n cs x h
    exact ⟨z, h1, bounds_i64 h2⟩) h
theorem ybav {t : TypeId} {e : TypeId} (ht : Tryz.prog.underlying t = some (.slice e)) {n : Nat} {c : Value} {y : DataW H × List MemPlace} (h : DataW.trod enc Tryz.prog w base (fun _ => true) held n t [c] = some y) : ∃ a l q, c = .slice a l q := by
  rcases open_slice ht h with ⟨hcs, _⟩ | ⟨_, _, _, _, _, _, _, hcs, _⟩
  · exact ⟨_, _, _, (List.cons.inj hcs).1⟩
  · exact ⟨_, _, _, (List.cons.inj hcs).1⟩
theorem yars {n : Nat} {c : Value} {y : DataW H × List MemPlace} (h : DataW.trod enc Tryz.prog w base (fun _ => true) held n 29 [c] = some y) : ∃ a l q zs, c = .slice a l q ∧ l ≤ q ∧ RdT TI w.heap a l zs := by
  obtain ⟨a, l, q, rfl⟩ := ybav Tryz.underlying29 h
  obtain ⟨zs, hr, hle, _⟩ := yaux (d := y.1) (ps := y.2) ⟨n, h⟩
  exact ⟨a, l, q, zs, rfl, hle, hr⟩
theorem yazt (n : Nat) (c0 c1 : Value) (y : DataW H × List MemPlace) (h : DataW.trod enc Tryz.prog w base (fun _ => true) held n 50 [c0, c1] = some y) : ∃ z a l q zs, c0 = .int .i64 z ∧ c1 = .slice a l q ∧ l ≤ q ∧ RdT TI w.heap a l zs := by
  obtain ⟨xs, m, _, _, hl, hxl, hx⟩ := DataW.trod_struct Tryz.underlying50 h
  match xs, hxl with
  | [y0, y1], _ =>
    obtain ⟨z0, e0, _⟩ := yaha (k := .i64) (by kernel_rfl) _ _ _ (hx 0 _ rfl)
    have f0 : c0 = .int .i64 z0 := (List.cons.inj (show [c0] = [Value.int .i64 z0] from e0)).1
    obtain ⟨a, l, q, zs, e1, hle, hr⟩ := yars (show DataW.trod enc Tryz.prog w base (fun _ => true) held m 29 [c1] = some y1 from hx 1 _ rfl)
    exact ⟨z0, a, l, q, zs, f0, e1, hle, hr⟩
theorem yaze (n : Nat) (c0 c1 c2 : Value) (y : DataW H × List MemPlace) (h : DataW.trod enc Tryz.prog w base (fun _ => true) held n 58 [c0, c1, c2] = some y) : ∃ z0 z1 a l q zs, c0 = .int .i64 z0 ∧ c1 = .int .i64 z1 ∧ c2 = .slice a l q ∧ l ≤ q ∧ RdT TI w.heap a l zs := by
  obtain ⟨xs, m, _, _, hl, hxl, hx⟩ := DataW.trod_struct Tryz.underlying58 h
  match xs, hxl with
  | [y0, y1, y2], _ =>
    obtain ⟨z0, e0, _⟩ := yaha (k := .i64) (by kernel_rfl) _ _ _ (hx 0 _ rfl)
    obtain ⟨z1, e1, _⟩ := yaha (k := .i64) (by kernel_rfl) _ _ _ (hx 1 _ rfl)
    have f0 : c0 = .int .i64 z0 := (List.cons.inj (show [c0] = [Value.int .i64 z0] from e0)).1
    have f1 : c1 = .int .i64 z1 := (List.cons.inj (show [c1] = [Value.int .i64 z1] from e1)).1
    obtain ⟨a, l, q, zs, e2, hle, hr⟩ := yars (show DataW.trod enc Tryz.prog w base (fun _ => true) held m 29 [c2] = some y2 from hx 2 _ rfl)
    exact ⟨z0, z1, a, l, q, zs, f0, f1, e2, hle, hr⟩
theorem yaru (h : DataW.Trod enc Tryz.prog w base (fun _ => true) held 25 (.slice a len cap) d ps) : ∃ l, EvsR w.heap a len l := by
  obtain ⟨l, r, _, hz⟩ := yauh (W := fun x : EvT => ∃ zs ls, EvM w.heap ⟨x, zs, ls⟩) tEv Tryz.underlying25 (by kernel_rfl) (fun n cs x h => by
    obtain ⟨xs, m, _, _, hl, hxl, hx⟩ := DataW.trod_struct Tryz.underlying60 h
    rw [show Tryz.prog.cellsOf 60 = 8 by kernel_rfl] at hl
    match cs, xs, hl, hxl with
    | [c0, c1, c2, c3, c4, c5, c6, c7], [y0, y1, y2, y3, y4], _, _ =>
      obtain ⟨z0, e0, _⟩ := yaha (k := .i64) (by kernel_rfl) _ _ _ (hx 0 _ rfl)
      obtain ⟨z6, e6, _⟩ := yaha (k := .i64) (by kernel_rfl) _ _ _ (hx 3 _ rfl)
      obtain ⟨z7, e7, _⟩ := yaha (k := .i64) (by kernel_rfl) _ _ _ (hx 4 _ rfl)
      have f0 : c0 = .int .i64 z0 := (List.cons.inj (show [c0] = [Value.int .i64 z0] from e0)).1
      have f6 : c6 = .int .i64 z6 := (List.cons.inj (show [c6] = [Value.int .i64 z6] from e6)).1
      have f7 : c7 = .int .i64 z7 := (List.cons.inj (show [c7] = [Value.int .i64 z7] from e7)).1
      obtain ⟨z1, a2, l2, q2, zs, f1, f2, h2, r2⟩ := yazt _ _ _ _ (show DataW.trod enc Tryz.prog w base (fun _ => true) held m 50 [c1, c2] = some y1 from hx 1 _ rfl)
      obtain ⟨z3, z4, a5, l5, q5, ls, f3, f4, f5, h5, r5⟩ := yaze _ _ _ _ _ (show DataW.trod enc Tryz.prog w base (fun _ => true) held m 58 [c3, c4, c5] = some y2 from hx 2 _ rfl)
      exact ⟨⟨z0, z1, (a2, l2, q2), z3, z4, (a5, l5, q5), z6, z7⟩, by rw [f0, f1, f2, f3, f4, f5, f6, f7], zs, ls, ⟨r2, h2⟩, r5, h5⟩) h
  have : ∃ es : List Ev, es.map Ev.t = l ∧ ∀ e ∈ es, EvM w.heap e := by
    clear r
    induction l with
    | nil => exact ⟨[], rfl, fun e he => nomatch he⟩
    | cons x l ih =>
      obtain ⟨es, h1, h2⟩ := ih fun y hy => hz y (List.mem_cons_of_mem _ hy)
      obtain ⟨zs, ls, hm⟩ := hz x List.mem_cons_self
      exact ⟨⟨x, zs, ls⟩ :: es, by rw [List.map_cons, h1], fun e he => (List.mem_cons.1 he).elim (fun h => h ▸ hm) (h2 e)⟩
  obtain ⟨es, h1, h2⟩ := this
  exact ⟨es, by rw [h1]; exact r, h2⟩
end
end Go.Proofs.YtllhdhpjgihjfaaGreatDoor
