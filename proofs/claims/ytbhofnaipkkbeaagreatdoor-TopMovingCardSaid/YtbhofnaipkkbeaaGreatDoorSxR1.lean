/- Part KD Q14 Q15 Q16 R1 of the proof: contracts of functions of the program, and what follows from them. -/
import Derived.Test.YtbhofnaipkkbeaaGreatDoorSxKC1
import Derived.Test.YtbhofnaipkkbeaaGreatDoorSxKC2
import Derived.Test.YtbhofnaipkkbeaaGreatDoorSxKC0
import Derived.Test.YtbhofnaipkkbeaaGreatDoorSxOS
import Derived.Deep.Slices
import Derived.OpenShut
set_option maxRecDepth 1000000
namespace Go.Proofs.YtbhofnaipkkbeaaGreatDoor
open Go Go.Sx
noncomputable def ckN (args : List Value) (H : AH) : RV := match eqL1 args args1 && Nat.ble H.nx 1007 && eqBk (TT.get H.m 1004) 5 0 128 rowT1 && eqBk (TT.get H.m 1005) 2 1 3 rowA1 with
  | true => .ok (.int .i64 (.ofNat 0)) ⟨60000, H.m⟩
  | false => (match eqL1 args args2 && Nat.ble H.nx 60033 && eqBk (TT.get H.m 1004) 5 0 128 rowT2 && eqBk (TT.get H.m 60030) 1 1 3 rowA2 with
    | true => .ok (.int .i64 (.ofNat 0)) ⟨120000, H.m⟩
    | false => .er [320])
noncomputable def natC (g : Nat) : Option (List Value → AH → RV) := match Nat.beq g 56 with | true => some ckN | false => natB g
noncomputable def TC : Tab := ⟨natC, lcF, [2]⟩
theorem ybdm {r : RV} {X a n z ty b m : Nat} {l l2 : List Value} (h : isOK r X a n z ty l b m l2 = true) :
    ∃ H, r = .ok (.int .i64 (.ofNat 0)) H ∧ H.nx ≤ X ∧ TT.get H.m a = some (.row n z ty (.sm l)) ∧ TT.get H.m b = some (.row m 1 3 (.sm l2)) := by
  unfold isOK at h
  split at h
  · simp only [Bool.and_eq_true] at h
    exact ⟨_, rfl, Nat.le_of_ble_eq_true h.1.1, yaen h.1.2, yaen h.2⟩
  · cases h
section
variable {h0 h : Hp} {φ : Phi} {H : AH}
theorem ybbz (ht : T0 h0) (hg : yacl φ [2]) (hr : HR φ h0 H h) {X nx a n z ty b m : Nat} {l l2 args us : List Value} (hn : H.nx ≤ nx) (ga : TT.get H.m a = some (.row n z ty (.sm l))) (gb : TT.get H.m b = some (.row m 1 3 (.sm l2))) (hv : VRL φ args us)
    (hc : isOK (callK PP TB 200 56 args ⟨nx, TT.set (TT.set (HB 0).m a (some (.row n z ty (.sm l)))) b (some (.row m 1 3 (.sm l2)))⟩) X a n z ty l b m l2 = true) : yaiu PP 56 us h (Out φ h0 H h (.int .i64 (.ofNat 0)) ⟨X, H.m⟩) := by
  obtain ⟨H1, e, hX, g1, g2⟩ := ybdm hc
  have get : ∀ c k, TT.get (TT.set (TT.set (HB 0).m a (some (.row n z ty (.sm l)))) b (some (.row m 1 3 (.sm l2)))) c = some k → (c = b ∧ k = .row m 1 3 (.sm l2)) ∨ (c = a ∧ k = .row n z ty (.sm l)) ∨ (c = 2 ∧ k = .ro roB) := fun c k g => by
    rcases (TT.set_get _ _ _ _).2 _ g with ⟨e1, e2⟩ | ⟨_, g⟩
    · exact .inl ⟨e1, (Option.some.inj e2).symm⟩
    · rcases (TT.set_get _ _ _ _).2 _ g with ⟨e1, e2⟩ | ⟨_, g⟩
      · exact .inr (.inl ⟨e1, (Option.some.inj e2).symm⟩)
      · exact .inr (.inr (yaqq g))
  have hpart : HR φ h0 ⟨nx, TT.set (TT.set (HB 0).m a (some (.row n z ty (.sm l)))) b (some (.row m 1 3 (.sm l2)))⟩ h := by
    refine hr.part hn fun c k g => ?_
    rcases get c k g with ⟨rfl, rfl⟩ | ⟨rfl, rfl⟩ | ⟨rfl, rfl⟩
    · exact .inl ⟨trivial, gb⟩
    · exact .inl ⟨trivial, ga⟩
    · obtain ⟨m, h1, h2⟩ := hg 2 List.mem_cons_self
      obtain ⟨h3, h4⟩ := ht.br hr h2
      exact .inr ⟨id, m, h1, h3, h4⟩
  have hcall := yaho (T := TB) (by kernel_rfl) (fun g f hf => yayc ht g f hf) 200 φ hg 56 args _ _ H1 h us hpart hv e
  refine hcall.mono fun u h' ⟨ψ, hs, hu⟩ => ⟨ψ, Step.part hr hn (fun c k g ho => ?_) (fun c k g ho => ?_) hX hs, hu⟩
  · rcases get c k g with ⟨rfl, rfl⟩ | ⟨rfl, rfl⟩ | ⟨rfl, rfl⟩
    · exact gb
    · exact ga
    · exact ho.elim
  · rcases get c k g with ⟨rfl, rfl⟩ | ⟨rfl, rfl⟩ | ⟨rfl, rfl⟩
    · exact g2
    · exact g1
    · exact ho.elim
theorem ybbe (ht : T0 h0) : ∀ g f, TC.nat g = some f → NatOk PP h0 [2] g f := by
  intro g f hf
  have hf : natC g = some f := hf
  unfold natC at hf
  split at hf
  · rename_i hb
    cases hf
    obtain rfl := Nat.eq_of_beq_eq_true hb
    intro φ hg args H v H' h us hr hv he
    unfold ckN at he
    split at he
    · rename_i hc
      simp only [Bool.and_eq_true] at hc
      obtain ⟨rfl, rfl⟩ := yaax he
      obtain ⟨⟨⟨c1, c2⟩, c3⟩, c4⟩ := hc
      obtain ⟨rfl, _⟩ := yafc (φ := φ) c1
      exact ybbz ht hg hr (Nat.le_of_ble_eq_true c2) (yaen c3) (yaen c4) hv ybgf
    · split at he
      · rename_i hc
        simp only [Bool.and_eq_true] at hc
        obtain ⟨rfl, rfl⟩ := yaax he
        obtain ⟨⟨⟨c1, c2⟩, c3⟩, c4⟩ := hc
        obtain ⟨rfl, _⟩ := yafc (φ := φ) c1
        exact ybbz ht hg hr (Nat.le_of_ble_eq_true c2) (yaen c3) (yaen c4) hv ybgi
      · cases he
  · exact yayc ht g f hf
end
theorem awake : isB (callK PP TC 200 4 [] (HB 1000)) true = true := by kernel_rfl
theorem yayp {h : Hp} (ht : T0 h) : yaak PP 4 #[] h fun v h' => v = .bool true ∧ h.size ≤ h'.size ∧ ∀ r, r < h.size → h'[r]? = h[r]? := by
  obtain ⟨H1, e⟩ := ybdi awake
  let φ : Phi := fun b => if b = 2 then some ⟨2, 0, 0⟩ else none
  have hg : yacl φ [2] := fun g hg => by
    have hg : g = 2 := by simpa using hg
    subst hg
    exact ⟨_, if_pos rfl, rfl⟩
  have hr : HR φ h (HB 1000) h := by
    refine ⟨fun b hb => if_neg fun e => ?_, Nat.le_refl _, fun _ _ => rfl, fun b k g => ?_, fun b b' k k' m g _ o _ _ _ => ?_⟩
    · subst e; exact absurd hb (by decide)
    · obtain ⟨rfl, rfl⟩ := yaqq g
      refine ⟨_, if_pos rfl, fun ho => ho.elim, fun _ => ht.1, fun i v hv => ?_⟩
      obtain ⟨h1, h2⟩ := ht.2 i v hv
      exact ⟨v, h1, VR.plain h2⟩
    · obtain ⟨_, rfl⟩ := yaqq g; exact o.elim
  have hc := yaho (T := TC) (by kernel_rfl) (fun g f hf => ybbe ht g f hf) 200 φ hg 4 [] (HB 1000) _ H1 h [] hr .nil e
  rcases hc with ⟨_, hc⟩ | ⟨_, ⟨fn, h1, _, h2, _⟩, _⟩
  · refine hc.mono fun v h' ⟨ψ, hs, hv⟩ => ⟨hv.bool_inv, hs.size, hs.hr.old⟩
  · have h3 : PP.funcs[4]? = some Tryz.f4 := Tryz.func4
    rw [h3] at h1
    cases h1
    have h4 : Tryz.f4.body.isNone = false := by kernel_rfl
    rw [h4] at h2; cases h2
abbrev TrueQ (h0 : Hp) : VK := fun v h' => v = .bool true ∧ Ext h0 h'
theorem ybhw {h0 h : Hp} {p qa : OA} {n c ca tb : Nat} {l : List (Int × Int)} {t : Int × Int} {os : List Nat} {xs : List E} {vis : Int} {A Aa F : Bag} (hl : l.length = n) (hn : n ≤ 12) (ta : TreeA 3 xs tb vis A) (s : St h0 h (A + (Aa + F))) (oa : Sl (tI 3) qa n ca (os.map nI) Aa) (o : IsOrd l t os) (so : Srt xs) (he : Ents l t n xs) (hk : ∀ e ∈ xs, -1048576 ≤ e.1 ∧ e.1 < 1048576) :
    zcv_b18 p n c (some ⟨tb, 0, none⟩) qa n ca h (TrueQ h0) := by
  subst hl
  have hxl : xs.length = l.length := by rw [he.length_eq]; simp
  rw [zcv_b18]
  refine (ybco (fr := -1048576) (to := 1048576) (by decide) (by decide) so ta s).mono fun v h1 ⟨ps, m, cs, B, hv, os', s⟩ => ⟨_, _, _, _, hv, ?_⟩
  have hf : xs.filter (yagv (-1048576) 1048576) = xs := List.filter_eq_self.2 fun e he => decide_eq_true (hk e he)
  have hsc : scanS xs (-1048576) 1048576 = (xs, 0) := by
    unfold scanS
    rw [if_pos ⟨by decide, by decide⟩, hf, if_neg (by omega)]
  rw [hsc] at os' ⊢
  have hm := os'.len
  dsimp only at hm os' ⊢
  refine condN (fun h => absurd (by trivial) h) (fun _ => condN (fun h => absurd (by omega) h) (fun _ => ?_))
  rw [zcv_b20]
  refine ⟨fun z h' => ∃ i : Nat, z.1 = (i : Int) ∧ i ≤ l.length ∧ St h0 h' (A + (B + (Aa + F))), fun z _ => (l.length - z.1).toNat, ⟨0, rfl, by omega, s⟩, ?_⟩
  clear s
  rintro ⟨_, _⟩ h2 ⟨i, rfl, hi, s⟩
  dsimp only
  rw [zcv_b21]
  refine condP (fun c1 => ?_) (fun c1 => ?_)
  · refine yagq (os'.rd (s.at B)) (by omega) (by omega) fun a _ _ _ => ?_
    rw [Int.toNat_natCast]
    refine s.new (cs := [_, _]) fun b6 h3 _ s => s.wr0 fun _ s => s.wrB fun h5 s => ?_
    refine (oa.rd (s.at Aa)).int (by omega) (by omega) ⟨⟨by decide, by decide⟩, _, s.ldB (b := b6) (k := 1), ?_⟩
    rw [Int.toNat_natCast, ← yast o he so]
    have e : (xs.map Prod.snd).getD i 0 = (xs.getD i (0, 0)).2 := by
      simp only [List.getD_eq_getElem?_getD, List.getElem?_map]
      cases xs[i]? <;> rfl
    rw [e]
    refine condN (fun h => absurd (by trivial) h) (fun _ => ?_)
    rw [zcv_b22]
    exact ⟨⟨by omega, by omega⟩, ⟨i + 1, by push_cast; rfl, by omega, s.drop⟩, by dsimp only; omega⟩
  · rw [zcv_b23]
    exact ⟨rfl, s.ext⟩
theorem ybfd {h0 h : Hp} {p qa : OA} {n c ca tb fb : Nat} {l : List (Int × Int)} {z : Int} {os : List Nat} {A Aa F : Bag} (r : RdT TM h0 p n l) (hn : n ≤ 12) (hm : ∀ m ∈ l, IsM m) (hz : 0 ≤ z ∧ z ≤ 255) (ta : TreeA 3 [] tb 0 A) (s : St h0 h (A + (cA fb [.int .i64 z, .int .i64 1] 26 + (Aa + F)))) (oa : Sl (tI 3) qa n ca (os.map nI) Aa) (o : IsOrd l (z, 1) os) :
    yabr ((0, ()) : Int × Unit) h (fun (nx0 : Int × Unit → Hp → Prop) (s4 : Int × Unit) h22 => zcv_b16 s4.1 p n c z (some ⟨fb, 0, none⟩) (some ⟨tb, 0, none⟩) qa n ca p n c (n : Int) h22 nx0 (TrueQ h0)) := by
  have hl := r.len
  subst hl
  refine ⟨fun y h' => ∃ (i : Nat) (xs : List E) (vis : Int) (A : Bag), y.1 = (i : Int) ∧ i ≤ l.length ∧ TreeA 3 xs tb vis A ∧ 0 ≤ vis ∧ vis ≤ 1000 * i ∧ Srt xs ∧ Ents l (z, 1) i xs ∧ (∀ e ∈ xs, -1048576 ≤ e.1 ∧ e.1 < 1048576) ∧ St h0 h' (A + (cA fb [.int .i64 z, .int .i64 1] 26 + (Aa + F))), fun y _ => (l.length - y.1).toNat, ⟨0, [], 0, A, rfl, by omega, ta, by omega, by omega, List.Pairwise.nil, List.Perm.refl _, by simp, s⟩, ?_⟩
  clear s ta A
  rintro ⟨_, _⟩ h1 ⟨i, xs, vis, A, rfl, hi, ta, hv0, hv1, so, he, hk, s⟩
  dsimp only
  rw [zcv_b16]
  refine condP (fun c1 => ?_) (fun c1 => ?_)
  rotate_left
  · obtain rfl : i = l.length := by omega
    exact ybhw rfl hn ta (s.to (B := A + (Aa + (cA fb _ _ + F)))) oa o so he hk
  have mi := getM hm (i := i) (by omega)
  obtain ⟨m1, m2, m3, m4⟩ := mi
  have mi := getM hm (i := i) (by omega)
  have hxl : xs.length = i := by rw [he.length_eq]; simp
  refine yagq (r.ext s.ext) (by omega) (by omega) fun a _ _ _ => ?_
  rw [Int.toNat_natCast]
  have esc : sc (l.getD i (0, 0)) (z, 1) = (l.getD i (0, 0)).1 + (l.getD i (0, 0)).2 * z := by unfold sc; dsimp only; rw [Int.mul_one]
  have hen := he.put
  rw [esc] at hen
  generalize hM : l.getD i (0, 0) = M at *
  have b1 := mulR (x := M.2) (y := z) (a := 1000) (b := 255) (by omega) (by omega) (by omega) (by omega)
  refine s.new (cs := [_, _]) fun b4 h23 _ s => s.wr0 fun _ s => s.wrB fun h25 s => ?_
  refine ⟨_, s.ld0, _, s.ldB, ⟨by omega, by omega⟩, ⟨by omega, by omega⟩, ⟨by omega, by omega⟩, condP (fun _ => ⟨rfl, s.ext⟩) (fun c2 => condP (fun _ => ⟨rfl, s.ext⟩) (fun c3 => ?_))⟩
  rw [zcv_b17]
  refine (ybew (F := cA b4 [.int .i64 M.1, .int .i64 M.2] 49 + (cA fb [.int .i64 z, .int .i64 1] 26 + (Aa + F))) (by decide) (by decide) so (by omega) ⟨hv0, by omega⟩ ta s.to).mono fun v h26 ⟨A', vis', ⟨⟨hw1, hw2⟩, _⟩, hv, ta', s⟩ => ⟨_, _, _, hv, ?_⟩
  have hkp : KeyP (M.1 + M.2 * z) ∧ KeyP ((i : Nat) : Int) := ⟨⟨by omega, by omega⟩, by omega, by omega⟩
  unfold putS at ta' ⊢
  simp only [if_pos hkp] at ta' ⊢
  by_cases hh : yaez (upS xs (M.1 + M.2 * z)) (M.1 + M.2 * z) = true
  · simp only [if_pos hh] at ta' ⊢
    exact condN (fun h => absurd (by trivial) h) (fun _ => yacv rfl ⟨rfl, s.ext⟩)
  simp only [if_neg hh, if_neg (show ¬ 2000 ≤ xs.length by omega)] at ta' ⊢
  refine condN (fun h => absurd (by trivial) h) (fun _ => yabb rfl ?_)
  refine ⟨_, _, s.ld0, s.ldB, _, _, s.ld0, s.ldB, ?_⟩
  refine (At_q mi hz.1 hz.2 _).mono fun v h27 ⟨x27, y, hv, vy, ey⟩ => ⟨_, _, _, hv, ?_⟩
  have s := s.grow x27
  refine s.new (cs := [_, _]) fun b5 h28 _ s => s.wr0 fun _ s => s.wrB fun h30 s => ?_
  refine condN (fun h => absurd (by trivial) h) (fun _ => ⟨_, _, s.ld0, s.ldB, ?_⟩)
  refine (rOf_q _ _).mono fun v h31 ⟨hv, x31⟩ => ⟨_, _, hv, ?_⟩
  have s := s.grow x31
  refine ⟨⟨_, _, s.ld0, s.ldB, rfl⟩, ?_⟩
  refine (ybgs vy ey _).mono fun v h32 ⟨hv, x32⟩ => ⟨_, hv, ?_⟩
  have s := s.grow x32
  refine condN (fun h => absurd (by trivial) h) (fun _ => ?_)
  rw [zcv_b19]
  refine ⟨⟨by omega, by omega⟩, ⟨i + 1, _, vis', A', by push_cast; rfl, by omega, ta', by omega, by omega, ybcb so hh, hen, fun e hem => ?_, ?_⟩, by dsimp only; omega⟩
  · have hu : xs = lowS xs (M.1 + M.2 * z) ++ upS xs (M.1 + M.2 * z) := yarl
    rcases List.mem_append.1 hem with h | h
    · exact hk e (by rw [hu]; exact List.mem_append_left _ h)
    · rcases List.mem_cons.1 h with rfl | h
      · exact ⟨by dsimp only; omega, by dsimp only; omega⟩
      · exact hk e (by rw [hu]; exact List.mem_append_right _ h)
  · exact (s.to (B := cA b5 [.int .i64 y.1, .int .i64 y.2] 26 + (cA b4 [.int .i64 M.1, .int .i64 M.2] 49 + (A' + (cA fb [.int .i64 z, .int .i64 1] 26 + (Aa + F)))))).drop.drop
theorem ybgg {h0 h : Hp} {p qs qa qn : OA} {n c m cs ca cn tb fb wb H : Nat} {l : List (Int × Int)} {z sg : Int} {os : List Nat} {ys : List Int} {A Aa An F : Bag} (r : RdT TM h0 p n l) (hn : n ≤ 12) (hm : ∀ m ∈ l, IsM m) (hz : 0 ≤ z ∧ z ≤ 255) (ta : TreeA 3 [] tb 0 A) (s : St h0 h (A + (cA fb [.int .i64 z, .int .i64 1] 26 + (Aa + (An + F))))) (oa : Sl (tI 3) qa n ca (os.map nI) Aa) (on : Sl (tI 3) qn n cn ys An) (o : IsOrd l (z, 1) os) (wt : WT h wb ys sg H) (hsg : sg ≤ 12) (he : invs ys = m) :
    zcv_b12 p n c z (some ⟨fb, 0, none⟩) (some ⟨tb, 0, none⟩) qs m cs qa n ca qn n cn (some ⟨wb, 0, none⟩) h (TrueQ h0) := by
  have hy := on.len
  have hv := wt.val
  rw [zcv_b12]
  refine ⟨fun y h' => ∃ i w : Nat, y.1 = (w : Int) ∧ y.2.1 = (i : Int) ∧ i ≤ n ∧ w + invs (ys.drop i) = invs ys ∧ WT h' wb ys sg H ∧ St h0 h' (A + (cA fb [.int .i64 z, .int .i64 1] 26 + (Aa + (An + F)))), fun y _ => (n - y.2.1).toNat, ⟨0, 0, rfl, rfl, by omega, by simp, wt, s⟩, ?_⟩
  clear s wt
  rintro ⟨_, _, _⟩ h1 ⟨i, w, rfl, rfl, hi, hw, wt, s⟩
  dsimp only
  have h144 : invs ys ≤ 144 := Nat.le_trans (yash ys) (by rw [hy]; exact Nat.mul_le_mul hn hn)
  rw [zcv_b13]
  refine condP (fun c1 => ?_) (fun c1 => ?_)
  · refine (on.rd (s.at An)).int (by omega) (by omega) ?_
    rw [Int.toNat_natCast]
    have hmem : ys.getD i 0 ∈ ys := by simp [List.getD, show i < ys.length by omega]
    have hvi := hv _ hmem
    refine ⟨⟨by omega, by omega⟩, (ybdc wt _ _ _ _).mono fun v h2 ⟨x2, hr⟩ => ?_⟩
    rw [if_pos ⟨by omega, by omega, by omega⟩, Int.toNat_natCast, Int.toNat_natCast, ← hy, ybaf ys i (by omega) fun y hy => (hv y hy).1] at hr
    have hd := yapa (l := ys) (i := i) (by omega)
    refine ⟨_, _, hr, condN (fun h => absurd (by trivial) h) (fun _ => ⟨⟨by omega, by omega⟩, ?_⟩)⟩
    rw [zcv_b14]
    exact ⟨⟨by omega, by omega⟩, ⟨i + 1, w + (ys.drop (i + 1)).countP (fun z => decide (z < ys.getD i 0)), by push_cast; rfl, by push_cast; rfl, by omega, by omega, wt.ext x2, s.grow x2⟩, by dsimp only; omega⟩
  · obtain rfl : i = n := by omega
    have hd : ys.drop i = [] := List.drop_eq_nil_of_le (by omega)
    rw [hd] at hw
    rw [zcv_b15]
    have hw' : w = m := by rw [← he]; exact hw
    subst hw'
    exact condN (fun h => absurd (by trivial) h) (fun _ => ybfd r hn hm hz ta s oa o)
theorem ybfh {h0 h : Hp} {p qs qa qn : OA} {n c m cs ca cn tb fb : Nat} {l : List (Int × Int)} {z : Int} {os : List Nat} {ys : List Int} {A Aa An F : Bag} (r : RdT TM h0 p n l) (hn : n ≤ 12) (h1n : 0 < n) (hm : ∀ m ∈ l, IsM m) (hz : 0 ≤ z ∧ z ≤ 255) (ta : TreeA 3 [] tb 0 A) (s : St h0 h (A + (cA fb [.int .i64 z, .int .i64 1] 26 + (Aa + (An + F))))) (oa : Sl (tI 3) qa n ca (os.map nI) Aa) (on : Sl (tI 3) qn n cn ys An) (o : IsOrd l (z, 1) os) (hv : ∀ y ∈ ys, 0 ≤ y ∧ y < (n : Int)) (he : invs ys = m) :
    zcv_b10 p n c z (some ⟨fb, 0, none⟩) (some ⟨tb, 0, none⟩) qs m cs qa n ca qn n cn h (TrueQ h0) := by
  rw [zcv_b10]
  refine (ybgo (on.rd (s.at An)) hn (n : Int)).mono fun v h1 ⟨x1, hr⟩ => ?_
  have hno : ¬ ((n : Int) < 1 ∨ 1024 < (n : Int) ∨ ∃ x ∈ ys, x < 0 ∨ (n : Int) ≤ x) := by
    rintro (h | h | ⟨x, hx, hb⟩)
    · omega
    · omega
    · have := hv x hx; omega
  rw [if_neg hno, if_neg (by omega)] at hr
  obtain ⟨wb, H, hv1, _, wt, _⟩ := hr
  refine ⟨_, _, hv1, condN (fun h => absurd (by trivial) h) (fun _ => yabb rfl ?_)⟩
  exact ybgg r hn hm hz ta (s.grow x1) oa on o wt (by omega) he
theorem part3 {h0 h : Hp} {p qs qa qb : OA} {n c m cs ca cb tb fb : Nat} {l : List (Int × Int)} {z : Int} {os os' : List Nat} {pl : List Int} {A Aa Ab F : Bag} (r : RdT TM h0 p n l) (hn : n ≤ 12) (h1n : 0 < n) (hm : ∀ m ∈ l, IsM m) (hz : 0 ≤ z ∧ z ≤ 255) (ta : TreeA 3 [] tb 0 A) (s : St h0 h (A + (cA fb [.int .i64 z, .int .i64 1] 26 + (Aa + (Ab + F))))) (oa : Sl (tI 3) qa n ca (os'.map nI) Aa) (ob : Sl (tI 3) qb n cb (os.map nI) Ab) (o : IsOrd l (0, 1) os) (o' : IsOrd l (z, 1) os') (hP : yaku pl os') (he : invs (os.map fun x => pl.getD x 0) = m) :
    zcv_b3 p n c z (some ⟨fb, 0, none⟩) (some ⟨tb, 0, none⟩) qb n cb qs m cs qa n ca h (TrueQ h0) := by
  have hl := r.len
  subst hl
  have hol := o.len
  have hol' := o'.len
  rw [zcv_b3]
  refine ⟨⟨by omega, by omega, by omega, by omega⟩, ?_⟩
  simp only [Int.toNat_natCast, Nat.mul_one, yakr]
  refine s.new (cs := List.replicate l.length (.int .i64 0)) fun pb h5 _ s => ?_
  have op : Sl (tI 3) (some ⟨pb, 0, none⟩) l.length l.length (List.replicate l.length 0) (cA pb (List.replicate l.length (.int .i64 0)) 3) := Sl.of_blk (by simp) (by rw [yamr]; simp)
  refine ⟨fun y h' => ∃ (i : Nat) (nu : List Int) (Ap : Bag), y.1 = (i : Int) ∧ i ≤ l.length ∧ Sl (tI 3) (some ⟨pb, 0, none⟩) l.length l.length nu Ap ∧ (∀ k, k < i → nu.getD (os.getD k 0) 0 = (k : Int)) ∧ St h0 h' (Ap + (A + (cA fb [.int .i64 z, .int .i64 1] 26 + (Aa + (Ab + F))))), fun y _ => (l.length - y.1).toNat, ⟨0, _, _, rfl, by omega, op, fun k hk => by omega, s⟩, ?_⟩
  clear s op
  rintro ⟨_, _⟩ h6 ⟨i, nu, Ap, rfl, hi, op, hnu, s⟩
  dsimp only
  have hnl := op.len
  rw [zcv_b4]
  refine condP (fun c1 => ?_) (fun c1 => ?_)
  · refine (ob.rd (s.at Ab)).int (by omega) (by omega) ?_
    rw [Int.toNat_natCast, yaif]
    have hlt := o.lt (i := i) (by omega)
    refine condP (fun c => by omega) (fun _ => condP (fun c => by omega) (fun _ => ?_))
    rw [zcv_b5]
    refine op.wrI (x := (i : Int)) s (by omega) (by omega) rfl rfl fun h7 Ap' op' s' => ?_
    rw [zcv_b7]
    rw [Int.toNat_natCast] at op'
    exact ⟨⟨by omega, by omega⟩, ⟨i + 1, _, Ap', by push_cast; rfl, by omega, op', yaqm o.nodup (by omega) (by omega) hnu, s'⟩, by dsimp only; omega⟩
  obtain rfl : i = l.length := by omega
  have hN : yaku nu os := ⟨by omega, fun k hk => hnu k (by omega)⟩
  let f : Nat → Int := fun x => nu.getD x 0
  rw [zcv_b6]
  refine ⟨fun y h' => ∃ (i : Nat) (An : Bag), y.2.1 = (i : Int) ∧ i ≤ l.length ∧ y.1.2.1 = i ∧ Sl (tI 3) y.1.1 i y.1.2.2 ((os'.take i).map f) An ∧ St h0 h' (An + (Ap + (A + (cA fb [.int .i64 z, .int .i64 1] 26 + (Aa + (Ab + F)))))), fun y _ => (l.length - y.2.1).toNat, ⟨0, 0, rfl, by omega, rfl, Sl.nil, s.to⟩, ?_⟩
  clear s
  rintro ⟨⟨qn, i', cn⟩, _, _⟩ h8 ⟨i, An, rfl, hi, hii, on, s⟩
  dsimp only at hii on ⊢
  obtain rfl : i = i' := hii.symm
  rw [zcv_b8]
  refine condP (fun c2 => ?_) (fun c2 => ?_)
  · refine (oa.rd (s.at Aa)).int (by omega) (by omega) ?_
    rw [Int.toNat_natCast, yaif]
    have hlt := o'.lt (i := i) (by omega)
    refine condP (fun c => by omega) (fun _ => condP (fun c => by omega) (fun _ => ?_))
    rw [zcv_b9]
    refine (op.rd (s.at Ap)).int (by omega) (by omega) ?_
    rw [Int.toNat_natCast]
    refine yahv yaiv s on (x := f (os'.getD i 0)) rfl rfl (by omega) fun p' c' h9 An' on' s => ?_
    rw [zcv_b11]
    refine ⟨⟨by omega, by omega⟩, ⟨i + 1, An', by push_cast; rfl, by omega, rfl, ?_, s⟩, by dsimp only; omega⟩
    have e : (os'.take (i + 1)).map f = (os'.take i).map f ++ [f (os'.getD i 0)] := by
      rw [List.take_succ_eq_append_getElem (by omega), List.map_append]
      simp [List.getD, show i < os'.length by omega]
    rw [e]
    exact on'
  · obtain rfl : i = l.length := by omega
    rw [List.take_of_length_le (by omega)] at on
    refine ybfh r hn h1n hm hz ta (F := Ap + (Ab + F)) (s.to) oa on o' (fun y hy => ?_) ?_
    · obtain ⟨x, hx, rfl⟩ := List.mem_map.1 hy
      exact yavf o hN (List.mem_range.1 (o'.perm.mem_iff.1 hx))
    · rw [← he]
      exact (yaqe o o' hN hP).symm
theorem yatu {h : Hp} {p : OA} {n c : Nat} {l : List (Int × Int)} {z : Int} (tab : T0 h) (r : RdT TM h p n l) (hz : 0 ≤ z ∧ z ≤ 255) :
    yaak Tryz.prog 3 #[.slice p n c, .int .u8 z] h (TrueQ h) := by
  have hl := r.len
  subst hl
  refine zcv_call ?_
  rw [zcv_b0]
  refine (yayp tab).mono fun v h1 ⟨hv, hs, ho⟩ => ⟨_, hv, yabb rfl ?_⟩
  have x1 : Ext h h1 := ⟨hs, ho⟩
  refine condP (fun _ => ⟨rfl, x1⟩) (fun c1 => condP (fun _ => ⟨rfl, x1⟩) (fun c2 => ?_))
  refine (yavq (r.ext x1) (by omega)).mono fun v h2 ⟨b, hv, hb, x2⟩ => ⟨_, hv, ?_⟩
  have x2 := x1.trans x2
  refine yaar (fun _ => ⟨rfl, x2⟩) (fun c3 => ?_)
  have hm := hb (by simpa using c3)
  have hn : l.length ≤ 12 := by omega
  have h0 : 0 < l.length := by omega
  have ht : IsT (z, 1) := ⟨⟨by dsimp only; omega, by dsimp only; omega, by dsimp only; omega, by dsimp only; omega, by simp⟩, hz.1⟩
  have hle : (0, 1).1 * (z, 1).2 ≤ (z, 1).1 * (0, 1).2 := by dsimp only; omega
  rw [zcv_b1]
  have s := (St.start h).grow x2
  refine ⟨⟨by omega, by omega⟩, s.new (cs := [_, _]) fun fb h3 _ s => s.wr0 fun _ s => s.wrB fun h5 s => ?_⟩
  refine (yavm (r.ext s.ext) hn hm).mono fun v h6 ⟨kb, os, A1, hv, k1, s6⟩ => ⟨_, _, hv, ?_⟩
  have s := s.join s6
  refine (yaiw (r.ext s.ext) hn h0 hm).mono fun v h7 ⟨wb, os2, A2, hv, o2, k2, s7⟩ => ⟨_, _, hv, ?_⟩
  have s := s.join s7
  refine ybhs.mono fun v h8 hr => ?_
  rw [if_neg (by decide)] at hr
  obtain ⟨tb, A3, hv, ta, s8⟩ := hr
  have s := s.join s8
  refine ⟨_, _, hv, condN (fun h => absurd (by trivial) h) (fun _ => condN (fun h => absurd (by trivial) h) (fun _ => condN (fun h => absurd (by trivial) h) (fun _ => yabb rfl (yabb rfl (yabb rfl ?_)))))⟩
  have ho : IsOrd l (0, 1) os := by
    obtain ⟨_, _, _, _, _, _, _, _, _, _, ho⟩ := k1
    exact ho
  rw [zcv_b2]
  have s := s.to (B := A1 + (A2 + (A3 + cA fb [.int .i64 z, .int .i64 1] 26)))
  refine (yajg k1 s hn).mono fun v h9 ⟨qb, cb, Ab, hv, ob, s9⟩ => ⟨_, _, _, hv, ?_⟩
  have s := s.join s9
  have s := s.to (B := A1 + (A2 + (A3 + (cA fb [.int .i64 z, .int .i64 1] 26 + Ab))))
  refine ⟨_, _, s.ld0, s.ldB, ?_⟩
  refine (yatf k1 s hn hm isT0 ht hle).mono fun v h10 ⟨qs, cs, os', pl, A1', hv, hP, k1', s⟩ => ⟨_, _, _, _, hv, ?_⟩
  have ho' : IsOrd l (z, 1) os' := by
    obtain ⟨_, _, _, _, _, _, _, _, _, _, ho⟩ := k1'
    exact ho
  have s := s.to (B := A2 + (A1' + (A3 + (cA fb [.int .i64 z, .int .i64 1] 26 + Ab))))
  refine ⟨_, _, s.ld0, s.ldB, ?_⟩
  refine (yati k2 s hn hm isT0 ht hle (o2.lt (by omega)) (o2.last h0)).mono fun v h11 ⟨w', ev, A2', hv, hw', hL, _, s⟩ => ⟨_, _, hv, ?_⟩
  have s := s.to (B := A1' + (A2' + (A3 + (cA fb [.int .i64 z, .int .i64 1] 26 + Ab))))
  refine (yajg k1' s hn).mono fun v h12 ⟨qa, ca, Aa, hv, oa, s12⟩ => ⟨_, _, _, hv, ?_⟩
  have s := s.join s12
  refine condN (fun h => absurd (by trivial) h) (fun _ => condN (fun h => absurd (by trivial) h) (fun _ => condN (fun h => absurd (by trivial) h) (fun _ => condN (fun h => absurd (by trivial) h) (fun _ => ⟨⟨by omega, by omega⟩, ?_⟩))))
  refine (oa.rd (s.at Aa)).int (by omega) (by omega) ?_
  have e : Int.toNat ((l.length : Int) - 1) = l.length - 1 := by omega
  rw [e, yaif]
  have hw : os'.getD (l.length - 1) 0 = w' := yawe (ho'.lt (by omega)) hw' (ho'.last h0) hL
  rw [hw]
  refine condN (fun h => absurd (by trivial) h) (fun _ => ?_)
  exact part3 r hn h0 hm hz ta (F := A1' + A2') (s.to) oa ob ho ho' hP rfl
end Go.Proofs.YtbhofnaipkkbeaaGreatDoor
namespace Go.Sx
open Go Go.ChangeShapes Go.WideShapes Go.Deep
section
variable {H : Type} {enc : TypeId × Value → H} {P : Program} {w : World} {base : Nat} {sp : Nat → Bool} {held : Bool} {α : Type}
theorem ybbf {t : TypeId} (T : Ty α) {W : α → Prop} {a : Option Addr} {len cap : Nat} {d : DataW H} {ps : List MemPlace} (ht : P.underlying t = some (.slice T.e)) (hc : P.cellsOf T.e = T.sz)
    (dec : ∀ n cs x, DataW.trod enc P w base sp held n T.e cs = some x → ∃ a, cs = T.enc a ∧ W a) (h : DataW.Trod enc P w base sp held t (.slice a len cap) d ps) :
    ∃ xs : List α, RdT T w.heap a len xs ∧ len ≤ cap ∧ ∀ x ∈ xs, W x := by
  obtain ⟨fuel, hf⟩ := h
  have e0 : (Value.slice a len cap).cells.toList = [.slice a len cap] := rfl
  rw [e0] at hf
  rcases open_slice ht hf with ⟨hcs, _⟩ | ⟨x, l, c, m, n, D, Pl, hcs, _, hl, _, hm, _, hx⟩
  · injection hcs with h1 _
    injection h1 with h1 h2 h3
    subst h1 h2 h3
    exact ⟨[], RdT.nil _ _, Nat.le_refl _, fun _ h => nomatch h⟩
  · injection hcs with h1 _
    injection h1 with h1 h2 h3
    subst h1 h2 h3
    have hlm : len ≤ m := by rw [hm]; split <;> omega
    haveI : Inhabited α := ⟨T.d⟩
    obtain ⟨f, hf⟩ := choose_lt (α := α) (n := len) (p := fun i z => w.cells? base (x.add (i * T.sz)) T.sz = some (T.enc z) ∧ W z) (fun i hi => by
      obtain ⟨cs, h1, h2⟩ := hx i (by omega)
      obtain ⟨z, hz, hw⟩ := dec n cs _ h2
      rw [hc] at h1
      exact ⟨z, by rw [h1, hz], hw⟩)
    refine ⟨(List.range len).map f, ⟨by simp, .inr ⟨x, rfl, fun i hi => ?_⟩⟩, hl, fun z hz => ?_⟩
    · have hp := T.pos
      have hdm : T.sz * (i / T.sz) + i % T.sz = i := Nat.div_add_mod i T.sz
      have hq : i / T.sz < len := (Nat.div_lt_iff_lt_mul hp).2 hi
      have hr : i % T.sz < T.sz := Nat.mod_lt _ hp
      obtain ⟨_, _, h3⟩ := World.cells?_some (hf _ hq).1
      have h4 := h3 _ hr
      have e1 : i / T.sz * T.sz + i % T.sz = i := by rw [Nat.mul_comm]; exact hdm
      rw [yapc, e1] at h4
      show cell w.heap (x.add i) = _
      rw [← yaom, h4]
      have := T.cells_get ((List.range len).map f) (i := i / T.sz) (j := i % T.sz) (by simpa using hq) hr
      rw [e1] at this
      rw [this]
      simp [List.getD, hq]
    · obtain ⟨i, hi, rfl⟩ := List.mem_map.1 hz
      exact (hf i (List.mem_range.1 hi)).2
theorem yaxs {e : TypeId} {k : IntKind} (he : P.underlying e = some (.int k)) (n : Nat) (cs : List Value) (x : DataW H × List MemPlace) (h : DataW.trod enc P w base sp held n e cs = some x) : ∃ z, cs = [.int k z] ∧ (Lit.int k z).wf = true := by
  obtain ⟨z, h1, _, h2⟩ := DataW.trod_int he h
  exact ⟨z, h1, h2⟩
end
end Go.Sx
