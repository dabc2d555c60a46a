/- Part K3 K4 K5 K6 K7 K8 K9 K10 K11 K14 K15 R1 FBG FBH of the proof: contracts of functions of the program, and what follows from them. -/
import Derived.Test.YtbfejfejahoblaaSxK2
import Derived.Test.YtbfejfejahoblaaSxSI
import Derived.Deep.Slices
import Derived.OpenShut
import Derived.Test.YtbfejfejahoblaaRows
import Derived.WalkKit
import Derived.ProofKit
import Derived.ShutString
import Derived.ChangeOld
import Derived.Below
import Derived.ChangeMaps5
import Derived.Deep.Grids
/- Asking layers and parts. -/
set_option maxRecDepth 100000
namespace Go.Proofs.Ytbfejfejahoblaa
open Go Go.Sx
theorem cut_ex {α : Type} (p : α → Bool) (l : List α) (hp : l.Pairwise (fun a b => p b = true → p a = true)) : ∃ t, t ≤ l.length ∧ ∀ i, (h : i < l.length) → (p l[i] = true ↔ i < t) := by
  induction l with
  | nil => exact ⟨0, Nat.le_refl _, fun i h => absurd h (Nat.not_lt_zero _)⟩
  | cons x l ih =>
    rw [List.pairwise_cons] at hp
    obtain ⟨t, ht, h⟩ := ih hp.2
    by_cases hx : p x = true
    · refine ⟨t + 1, by rw [List.length_cons]; omega, fun i hi => ?_⟩
      cases i with
      | zero => exact ⟨fun _ => Nat.succ_pos _, fun _ => hx⟩
      | succ i =>
        have h2 := h i (Nat.lt_of_succ_lt_succ hi)
        exact ⟨fun a => Nat.succ_lt_succ (h2.1 a), fun a => h2.2 (Nat.lt_of_succ_lt_succ a)⟩
    · refine ⟨0, Nat.zero_le _, fun i hi => ⟨fun hc => ?_, fun hc => absurd hc (Nat.not_lt_zero _)⟩⟩
      cases i with
      | zero => exact absurd hc hx
      | succ i => exact absurd (hp.1 _ (List.getElem_mem (Nat.lt_of_succ_lt_succ hi)) hc) hx
theorem layA_len {l : List Pt} {b : Nat} {A : Bag} (a : LayA l b A) : ∃ (own : List Pt) (yp sp : Option Addr) (yc sc : Nat) (A1 A2 G : Bag) (v1 v2 : Value), own.Perm l ∧ own.Pairwise (fun p q => p.2.1 ≤ q.2.1) ∧ Sl TI yp l.length yc (own.map yOf) A1 ∧ Sl TI sp (l.length + 1) sc (psum own) A2 ∧
    A = cA b [.slice yp l.length yc, .slice sp (l.length + 1) sc, v1, v2] 126 + (A1 + (A2 + G)) := by
  cases a with
  | one h1 h2 h3 h4 h5 => exact ⟨_, _, _, _, _, _, _, 0, _, _, h2, h3, h4, h5, by rw [Bag.add_zero]⟩
  | two h1 h2 h3 h4 h5 _ _ => exact ⟨_, _, _, _, _, _, _, _, _, _, h2, h3, h4, h5, rfl⟩
theorem cntY_bound (y1 y2 : Int) (l : List Pt) : 0 ≤ cntY y1 y2 l ∧ cntY y1 y2 l ≤ l.length := by
  unfold cntY
  have := List.length_filter_le (yIn y1 y2) l
  omega
theorem sumY_bound {y1 y2 : Int} {l : List Pt} (hw : WOk l) : -(1048576 * (l.length : Int)) ≤ sumY y1 y2 l ∧ sumY y1 y2 l ≤ 1048576 * (l.length : Int) := by
  unfold sumY
  have h1 := wSum_bound (l := l.filter (yIn y1 y2)) fun x hx => hw x (List.mem_filter.1 hx).1
  have := List.length_filter_le (yIn y1 y2) l
  omega
theorem rngI_sub {l : List Pt} {a b : Int} {x : Pt} (h : x ∈ rngI l a b) : x ∈ l := rng_mem h
theorem rngI_len (l : List Pt) (a b : Int) : (rngI l a b).length ≤ l.length := by
  unfold rngI rng
  rw [List.length_drop, List.length_take]; omega
/-- All points of a layer. -/
theorem askAll_ok {h0 h : Hp} {l : List Pt} {b : Nat} {A F : Bag} {to fr y1 y2 : Int} (a : LayA l b A) (s : St h0 h (A + F)) (hl : l.length ≤ 5000) (hw : WOk l) (h1 : fr ≤ 0) (h2 : (l.length : Int) ≤ to) (h3 : fr < to) :
    HCalls Try.prog 78 #[ptr b, .int .i64 (l.length : Int), .int .i64 fr, .int .i64 to, .int .i64 y1, .int .i64 y2] h (fun v h' => Ext h h' ∧ v = .tuple #[.int .i64 (cntY y1 y2 (rngI l fr to)), .int .i64 (sumY y1 y2 (rngI l fr to))]) := by
  rw [ask_full h1 h2]
  obtain ⟨own, yp, sp, yc, sc, A1, A2, G, v1, v2, hp, hpw, o1, o2, rfl⟩ := layA_len a
  have hol := hp.length_eq
  refine rangetree_layer_ask_call ?_
  rw [rangetree_layer_ask_b0_eq]
  refine condNo (decide_eq_false (by omega)) (condYes (decide_eq_true h1) (condYes (decide_eq_true h2) ?_))
  obtain ⟨ca, hca, ha⟩ := cut_ex (fun p : Pt => decide (p.2.1 < y1)) own (hpw.imp fun {p q} h hq => by rw [decide_eq_true_eq] at *; omega)
  obtain ⟨cb, hcb, hb⟩ := cut_ex (fun p : Pt => decide (p.2.1 ≤ y2)) own (hpw.imp fun {p q} h hq => by rw [decide_eq_true_eq] at *; omega)
  have hA := layer_ask (y1 := y1) (y2 := y2) (own := own) (a := ca) (b := cb) hcb hca (fun i hi => by have := ha i hi; rwa [decide_eq_true_eq] at this) (fun i hi => by have := hb i hi; rwa [decide_eq_true_eq] at this)
  rw [cntY_perm hp, sumY_perm hp] at hA
  have yg : ∀ i, (hi : i < own.length) → (own.map yOf).getD i 0 = own[i].2.1 := fun i hi => by
    rw [getD_get (by simpa using hi), List.getElem_map]; rfl
  have s := s.to (B := cA b [.slice yp l.length yc, .slice sp (l.length + 1) sc, v1, v2] 126 + (A1 + (A2 + (G + F))))
  have ry := o1.rd (s.at A1)
  have rs := o2.rd (s.at A2)
  refine ⟨_, _, _, s.ld0, ?_⟩
  refine (searchI_ok (t := ca) ry (by omega) (by omega) (fun j hj => ?_) (fun j hj hj2 => ?_)).mono fun v h5 ⟨hh, bb, hv⟩ => ⟨_, _, hv, ?_⟩
  · rw [yg j (by omega)]
    have := (ha j (by omega)).2 hj
    rwa [decide_eq_true_eq] at this
  · rw [yg j (by omega)]
    have := mt (ha j (by omega)).1 (by omega)
    rw [decide_eq_true_eq] at this; omega
  subst hh
  refine ⟨_, _, _, s.ld0, ?_⟩
  refine (searchC_ok (t := cb) ry (by omega) (by omega) (fun j hj => ?_) (fun j hj hj2 => ?_)).mono fun v h5 ⟨hh, bb, hv⟩ => ⟨_, _, hv, ?_⟩
  · rw [yg j (by omega)]
    have := (hb j (by omega)).2 hj
    rwa [decide_eq_true_eq] at this
  · rw [yg j (by omega)]
    have := mt (hb j (by omega)).1 (by omega)
    rw [decide_eq_true_eq] at this; omega
  subst hh
  refine condP (fun hc => ⟨.refl _, ?_⟩) (fun hc => ⟨⟨by omega, by omega⟩, ?_⟩)
  · rw [hA.1, hA.2, if_pos (by omega), if_pos (by omega)]
  · have b1 := wSum_bound (l := own.take cb) fun x hx => hw x (hp.mem_iff.1 (List.mem_of_mem_take hx))
    have b2 := wSum_bound (l := own.take ca) fun x hx => hw x (hp.mem_iff.1 (List.mem_of_mem_take hx))
    rw [List.length_take] at b1 b2
    refine ⟨_, _, _, s.ldB, ldI (i' := cb) rs rfl (by omega) ⟨_, _, _, s.ldB, ldI (i' := ca) rs rfl (by omega) ?_⟩⟩
    rw [psum_get hcb, psum_get hca]
    refine ⟨⟨by omega, by omega⟩, .refl _, ?_⟩
    rw [hA.1, hA.2, if_neg (by omega), if_neg (by omega), show ((cb - ca : Nat) : Int) = (cb : Int) - ca by omega]
theorem ask_ok {l : List Pt} {b : Nat} {A : Bag} (a : LayA l b A) : ∀ {h0 h : Hp} {F : Bag} {fr to y1 y2 : Int}, St h0 h (A + F) → l.length ≤ 5000 → WOk l → 0 ≤ fr → fr ≤ 10000 → -10000 ≤ to → to ≤ l.length →
    HCalls Try.prog 78 #[ptr b, .int .i64 (l.length : Int), .int .i64 fr, .int .i64 to, .int .i64 y1, .int .i64 y2] h (fun v h' => Ext h h' ∧ v = .tuple #[.int .i64 (cntY y1 y2 (rngI l fr to)), .int .i64 (sumY y1 y2 (rngI l fr to))]) := by
  induction a with
  | @one l own b yp sp yc sc A1 A2 h1 h2 h3 h4 h5 =>
    intro h0 h F fr to y1 y2 s hl hw hf1 hf2 ht1 ht2
    by_cases hc : to ≤ fr
    · rw [ask_none hc]
      refine rangetree_layer_ask_call ?_
      rw [rangetree_layer_ask_b0_eq]
      exact condYes (decide_eq_true hc) ⟨.refl _, rfl⟩
    · exact askAll_ok (LayA.one h1 h2 h3 h4 h5) s hl hw (by omega) (by omega) (by omega)
  | @two l own b bl br yp sp yc sc A1 A2 L R h1 h2 h3 h4 h5 l1 l2 ih1 ih2 =>
    intro h0 h F fr to y1 y2 s hl hw hf1 hf2 ht1 ht2
    by_cases hc : to ≤ fr
    · rw [ask_none hc]
      refine rangetree_layer_ask_call ?_
      rw [rangetree_layer_ask_b0_eq]
      exact condYes (decide_eq_true hc) ⟨.refl _, rfl⟩
    by_cases hd : fr ≤ 0 ∧ (l.length : Int) ≤ to
    · exact askAll_ok (LayA.two h1 h2 h3 h4 h5 l1 l2) s hl hw hd.1 hd.2 (by omega)
    refine rangetree_layer_ask_call ?_
    rw [rangetree_layer_ask_b0_eq]
    suffices main : rangetree_layer_ask_b1 (some ⟨b, 0, none⟩) (l.length : Int) fr to y1 y2 h (fun v h' => Ext h h' ∧ v = .tuple #[.int .i64 (cntY y1 y2 (rngI l fr to)), .int .i64 (sumY y1 y2 (rngI l fr to))]) from
      condNo (decide_eq_false hc) (condP (fun g1 => condNo (decide_eq_false fun g2 => hd ⟨g1, g2⟩) main) (fun _ => main))
    rw [rangetree_layer_ask_b1_eq]
    refine quo_intro (by omega) (by omega) (by omega) ?_
    obtain ⟨m, hm⟩ : ∃ m, m = l.length / 2 := ⟨_, rfl⟩
    rw [← hm] at l1 l2 ih1 ih2
    have eq : (l.length : Int) / 2 = (m : Int) := by omega
    rw [eq]
    have hsplit := ask_split (l := l) (m := m) (by omega) fr to
    have lt : (l.take m).length = m := by rw [List.length_take]; omega
    have ld : (l.drop m).length = l.length - m := by rw [List.length_drop]
    have e1 : (if (m : Int) < to then (m : Int) else to) = (if to < m then to else (m : Int)) := by split <;> split <;> omega
    rw [e1]
    have w1 : WOk (l.take m) := fun x hx => hw x (List.mem_of_mem_take hx)
    have w2 : WOk (l.drop m) := fun x hx => hw x (List.mem_of_mem_drop hx)
    have c1 := ih1 (fr := fr) (to := if to < m then to else (m : Int)) (y1 := y1) (y2 := y2) (F := cA b [.slice yp l.length yc, .slice sp (l.length + 1) sc, ptr bl, ptr br] 126 + (A1 + (A2 + (R + F)))) s.to (by omega) w1 hf1 hf2 (by split <;> omega) (by rw [lt]; split <;> omega)
    rw [lt] at c1
    have bl1 := cntY_bound y1 y2 (rngI (l.take m) fr (if to < m then to else (m : Int)))
    have bl2 := sumY_bound (y1 := y1) (y2 := y2) (l := rngI (l.take m) fr (if to < m then to else (m : Int))) fun x hx => w1 x (rngI_sub hx)
    have bl3 := rngI_len (l.take m) fr (if to < m then to else (m : Int))
    have br1 := cntY_bound y1 y2 (rngI (l.drop m) (if (0 : Int) < fr - m then fr - m else 0) (to - m))
    have br2 := sumY_bound (y1 := y1) (y2 := y2) (l := rngI (l.drop m) (if (0 : Int) < fr - m then fr - m else 0) (to - m)) fun x hx => w2 x (rngI_sub hx)
    have br3 := rngI_len (l.drop m) (if (0 : Int) < fr - m then fr - m else 0) (to - m)
    refine ⟨_, (s.find b).ldB, c1.mono fun v h3 ⟨x3, hv⟩ => ⟨_, _, hv, _, ((s.grow x3).find b).ldB, ⟨by omega, by omega⟩, ⟨by omega, by omega⟩, ⟨by omega, by omega⟩, ?_⟩⟩
    have c2 := ih2 (fr := if (0 : Int) < fr - m then fr - m else 0) (to := to - m) (y1 := y1) (y2 := y2) (F := cA b [.slice yp l.length yc, .slice sp (l.length + 1) sc, ptr bl, ptr br] 126 + (A1 + (A2 + (L + F)))) (s.grow x3).to (by omega) w2 (by split <;> omega) (by split <;> omega) (by omega) (by omega)
    rw [ld, show ((l.length - m : Nat) : Int) = (l.length : Int) - m by omega] at c2
    refine c2.mono fun v h4 ⟨x4, hv⟩ => ⟨_, _, hv, ⟨by omega, by omega⟩, ⟨by omega, by omega⟩, x3.trans x4, ?_⟩
    rw [hsplit, cntY_app, sumY_app]
/-- A static part. -/
def PartA (own : List Pt) (b : Nat) (A : Bag) : Prop := ∃ (p : Option Addr) (c rb : Nat) (A0 L : Bag), Sl tPt p own.length c own A0 ∧ LayA own rb L ∧ A = cA b [.slice p own.length c, ptr rb] 74 + (A0 + L) ∧ own.Pairwise (fun p q => p.1 ≤ q.1)
theorem newPart_ok {h : Hp} {p : Option Addr} {n c : Nat} {l : List Pt} (r : RdT tPt h p n l) (hn : n ≤ 5000) (hw : WOk l) :
    HCalls Try.prog 45 #[.slice p n c] h (fun v h' => ∃ b A own, v = ptr b ∧ PartA own b A ∧ own.Perm l ∧ St h h' A) := by
  refine rangetree_newPart_call ?_
  rw [rangetree_newPart_b0_eq]
  refine (clonePt r (by omega)).mono fun v h1 ⟨q, d, A0, hv, o, st⟩ => ⟨_, _, _, hv, ?_⟩
  refine (sortStablePT (P := fun _ => True) (cmpOrder h) ordO (st.to (B := A0 + 0)) o (fun _ _ => trivial) (by omega)).mono fun v h2 ⟨hv, ys, A0, o, st, hpw, hst⟩ => ⟨hv, ?_⟩
  have hp := hst.1
  have hyl := o.len
  refine (build_ok n (by omega) o.cap (o.rd st) fun x hx => hw x (hp.mem_iff.1 hx)).mono fun v h3 ⟨rb, L, hv, lay, st2⟩ => ⟨_, hv, ?_⟩
  have st := st.join st2
  refine st.new (cs := [_, _]) fun b h4 _ st => ?_
  subst hyl
  exact ⟨b, _, ys, rfl, ⟨_, _, _, _, _, o, lay, rfl, hpw.imp fun {a b} h => by have := mt cfO_neg.2 h; unfold ptLt at this; omega⟩, hp, st.to⟩
theorem rectangle_ok {h0 h : Hp} {own : List Pt} {b : Nat} {A F : Bag} (a : PartA own b A) (s : St h0 h (A + F)) (hl : own.length ≤ 5000) (hw : WOk own) (x1 x2 y1 y2 : Int) :
    HCalls Try.prog 49 #[ptr b, .int .i64 x1, .int .i64 x2, .int .i64 y1, .int .i64 y2] h (fun v h' => Ext h h' ∧ v = .tuple #[.int .i64 (cntB x1 x2 y1 y2 own), .int .i64 (sumB x1 x2 y1 y2 own)]) := by
  obtain ⟨p, c, rb, A0, L, o, lay, rfl, hpw⟩ := a
  refine rangetree_part_rectangle_call ?_
  rw [rangetree_part_rectangle_b0_eq]
  have s := s.to (B := cA b [.slice p own.length c, ptr rb] 74 + (A0 + (L + F)))
  obtain ⟨ca, hca, ha⟩ := cut_ex (fun p : Pt => decide (p.1 < x1)) own (hpw.imp fun {p q} h hq => by rw [decide_eq_true_eq] at *; omega)
  obtain ⟨cb, hcb, hb⟩ := cut_ex (fun p : Pt => decide (p.1 ≤ x2)) own (hpw.imp fun {p q} h hq => by rw [decide_eq_true_eq] at *; omega)
  have hA := part_ask (y1 := y1) (y2 := y2) (l := own) (x1 := x1) (x2 := x2) (a := ca) (b := cb) hcb (fun i hi => by have := ha i hi; rwa [decide_eq_true_eq] at this) (fun i hi => by have := hb i hi; rwa [decide_eq_true_eq] at this)
  refine ⟨_, _, _, s.ld0, ?_⟩
  refine (searchP_ok (t := ca) (fun p : Pt => decide (p.1 < x1)) (by kernel_rfl) (fun x h => rect_c1 x x1 h) (o.rd (s.at A0)) (by omega) hca (fun j hj => ?_) (fun j hj hj2 => ?_)).mono fun v h1 ⟨e1, bb, hv⟩ => ⟨_, _, hv, ?_⟩
  · rw [getD_get (show j < own.length by omega)]; exact (ha j (by omega)).2 hj
  · rw [getD_get hj2]; exact Bool.eq_false_iff.2 (mt (ha j hj2).1 (by omega))
  have s := s.grow e1
  refine ⟨_, _, _, s.ld0, ?_⟩
  refine (searchP_ok (t := cb) (fun p : Pt => decide (p.1 ≤ x2)) (by kernel_rfl) (fun x h => rect_c2 x x2 h) (o.rd (s.at A0)) (by omega) hcb (fun j hj => ?_) (fun j hj hj2 => ?_)).mono fun v h2 ⟨e2, bb, hv⟩ => ⟨_, _, hv, ?_⟩
  · rw [getD_get (show j < own.length by omega)]; exact (hb j (by omega)).2 hj
  · rw [getD_get hj2]; exact Bool.eq_false_iff.2 (mt (hb j hj2).1 (by omega))
  have s := s.grow e2
  refine ⟨_, s.ldB, _, _, _, s.ld0, ?_⟩
  refine (ask_ok lay (s.at L) hl hw (by omega) (by omega) (by omega) (by omega)).mono fun v h3 ⟨e3, hv⟩ => ⟨_, _, hv, (e1.trans e2).trans e3, ?_⟩
  rw [hA.1, hA.2]
  rfl
end Go.Proofs.Ytbfejfejahoblaa

/- The tree in memory: List, put, renew. -/
set_option maxRecDepth 100000
namespace Go.Proofs.Ytbfejfejahoblaa
open Go Go.Sx
abbrev tPart : Ty Nat := tP 75
theorem ok_part : ElOk tPart Try.prog 66 := elB_spec (by kernel_rfl)
abbrev PS := List ((Int × Int) × Int)
def ptOf (e : (Int × Int) × Int) : Pt := (e.1.1, e.1.2, e.2)
def ptsOf (ps : PS) : List Pt := ps.map ptOf
def kvOf (p : Pt) : (Int × Int) × Int := ((p.1, p.2.1), p.2.2)
theorem ptsOf_len (ps : PS) : (ptsOf ps).length = ps.length := by simp [ptsOf]
theorem ptsOf_kv (l : List Pt) : ptsOf (l.map kvOf) = l := by
  unfold ptsOf
  rw [List.map_map]
  exact List.map_id' l
theorem ptsOf_place (ps : PS) : (ptsOf ps).map place = ps.map Prod.fst := by
  unfold ptsOf
  rw [List.map_map]
  rfl
def storedOf (parts : List (List Pt)) : Nat := (parts.map List.length).sum
theorem storedOf_app (P Q : List (List Pt)) : storedOf (P ++ Q) = storedOf P + storedOf Q := by simp [storedOf]
theorem storedOf_flat (P : List (List Pt)) : P.flatten.length = storedOf P := by simp [storedOf, List.length_flatten]
def TreeA (tb : Nat) (ps : PS) (parts : List (List Pt)) (rem : List Pt) (built : Int) (A : Bag) : Prop :=
  ∃ (m : Nat) (pp rp : Option Addr) (pc rc : Nat) (bs : List Nat) (Am Ap L Ar : Bag), MapA MPl m ps Am ∧ Sl tPart pp parts.length pc bs Ap ∧ AllH (fun b own A => PartA own b A) bs parts L ∧ Sl tPt rp rem.length rc rem Ar ∧
    A = cA tb [.map (some m), .slice pp parts.length pc, .slice rp rem.length rc, .int .i64 (storedOf parts : Nat), .int .i64 built] 68 + (Am + (Ap + (L + Ar)))
theorem TreeA.kd {tb : Nat} {ps : PS} {parts : List (List Pt)} {rem : List Pt} {built : Int} {A : Bag} (a : TreeA tb ps parts rem built A) : KD ps := by
  obtain ⟨m, pp, rp, pc, rc, bs, Am, Ap, L, Ar, hm, _⟩ := a
  exact hm.kd
/-- Sorted points of a map are in strict order. -/
theorem ptsS_of {ps : PS} {l : List Pt} (hd : KD ps) (hp : l.Perm (ptsOf ps)) (hw : l.Pairwise fun p q => ¬ cfO q p < 0) : PtsS l := by
  have hn : (l.map place).Nodup := by
    have := (hp.map place).nodup_iff.2 (by rw [ptsOf_place]; exact hd)
    exact this
  rw [List.nodup_iff_pairwise_ne, List.pairwise_map] at hn
  unfold PtsS
  refine (hw.and hn).imp fun {p q} ⟨h1, h2⟩ => ?_
  have h1 := mt cfO_neg.2 h1
  unfold ptLt at *
  unfold place at h2
  simp only [ne_eq, Prod.mk.injEq] at h2
  omega
section
variable {h0 h : Hp} {tb : Nat} {ps : PS} {parts : List (List Pt)} {rem : List Pt} {built : Int} {A F : Bag}
theorem List_ok (a : TreeA tb ps parts rem built A) (s : St h0 h (A + F)) (hn : ps.length ≤ 5000) :
    HCalls Try.prog 15 #[ptr tb] h (fun v h' => ∃ q d A' l, v = .slice q ps.length d ∧ Sl tPt q ps.length d l A' ∧ St h0 h' (A' + (A + F)) ∧ l.Perm (ptsOf ps) ∧ PtsS l) := by
  obtain ⟨m, pp, rp, pc, rc, bs, Am, Ap, L, Ar, hm, o1, hL, o2, rfl⟩ := a
  have hd := hm.kd
  generalize hT : cA tb [.map (some m), .slice pp parts.length pc, .slice rp rem.length rc, .int .i64 (storedOf parts : Nat), .int .i64 built] 68 = T at *
  have s := s.to (B := Am + (T + (Ap + (L + (Ar + F)))))
  refine rangetree_Tree_List_call ?_
  rw [rangetree_Tree_List_b0_eq]
  have ct : cell h ⟨tb, 0, none⟩ = some (.map (some m)) := by
    have s2 := s.at T
    rw [← hT] at s2
    exact s2.ld0
  refine condNo rfl ⟨_, ct, ?_⟩
  refine s.rangeM mapOk_pl hm fun it h1 I x1 itI s => ?_
  refine ⟨fun q h' => ∃ (done left : PS) (out : List Pt) (B I : Bag), q.1.2.1 = done.length ∧ Sl tPt q.1.1 q.1.2.1 q.1.2.2 out B ∧ out = ptsOf done ∧ IterA MPl it m ps Am done left I ∧ St h0 h' (Am + (I + (B + (T + (Ap + (L + (Ar + F))))))), fun q _ => ps.length - q.1.2.1, ⟨[], ps, [], 0, I, rfl, Sl.nil, rfl, itI, s.to⟩, ?_⟩
  clear s itI
  rintro ⟨⟨q, n, d⟩, _⟩ h2 ⟨done, left, out, B, I, rfl, o, rfl, itI, s⟩
  dsimp only at *
  have hlen : done.length + left.length = ps.length := by
    obtain ⟨l, c, sn, _, _, _, _, _, _, hp, _⟩ := itI
    have := hp.length_eq
    rw [List.length_append] at this
    omega
  rw [rangetree_Tree_List_b1_eq]
  refine s.nextM itI (fun hl => ?_) (fun e pre post h3 I' hl itI s => ?_)
  · rw [rangetree_Tree_List_b2_eq]
    subst hl
    have hp : done.Perm ps := by
      obtain ⟨l, c, sn, _, _, _, _, _, _, hp, _⟩ := itI
      rwa [List.append_nil] at hp
    refine (sortPT (P := fun _ => True) (cmpOrder h0) ordO (s.to (B := B + (I + (Am + (T + (Ap + (L + (Ar + F)))))))) o (fun _ _ => trivial) (by rw [List.length_nil] at hlen; omega)).mono fun v h4 ⟨hv, ys, B', o', s', hq, hw⟩ => ⟨hv, ?_⟩
    have hdl := hp.length_eq
    have hys := hq.trans (hp.map ptOf)
    rw [hdl] at o' ⊢
    exact ⟨q, d, B', ys, rfl, o', (s'.to (B := I + (B' + (T + (Am + (Ap + (L + Ar))) + F)))).drop, hys, ptsS_of hd hys hw⟩
  · have hdl : done.length < ps.length := by rw [← hlen, hl, List.length_append, List.length_cons]; omega
    refine itI.entry s ⟨_, _, _, rfl, ?_⟩
    refine s.new (cs := [_, _]) fun b1 h4 _ s => s.wr2c fun h5 s => ⟨_, s.ld0, _, s.ldB, ?_⟩
    refine push_sl (s := (s.at B)) ok_pts (cs := [_, _, _]) o (x := ptOf e) rfl rfl (by omega) fun p' c' h6 B' o' s => ?_
    refine ⟨⟨done ++ [e], pre ++ post, _, B', I', by simp, o', by simp [ptsOf], itI, ?_⟩, by dsimp only; omega⟩
    exact (s.to (B := cA b1 [.int .i64 e.1.1, .int .i64 e.1.2] 70 + (Am + (I' + (B' + (T + (Ap + (L + (Ar + F))))))))).drop
theorem put_ok (a : TreeA tb ps parts rem built A) (s : St h0 h (A + F)) {p : Option Addr} {n c : Nat} {l : List Pt} (r : RdT tPt h p n l) (hn : n ≤ 5000) (hw : WOk l) (hs : storedOf parts ≤ 10000) (hpl : parts.length ≤ 10000) (hb : 0 ≤ built ∧ built ≤ 1000000000) :
    HCalls Try.prog 30 #[ptr tb, .slice p n c] h (fun v h' => v = .tuple #[] ∧ ∃ own A', own.Perm l ∧ TreeA tb ps (parts ++ [own]) rem (built + n) A' ∧ St h0 h' (A' + F)) := by
  obtain ⟨m, pp, rp, pc, rc, bs, Am, Ap, L, Ar, hm, o1, hL, o2, rfl⟩ := a
  have hll := r.len
  refine rangetree_Tree_put_call ?_
  rw [rangetree_Tree_put_b0_eq]
  have s := s.to (B := cA tb [.map (some m), .slice pp parts.length pc, .slice rp rem.length rc, .int .i64 (storedOf parts : Nat), .int .i64 built] 68 + (Am + (Ap + (L + (Ar + F)))))
  refine ⟨_, _, _, s.ldB, ?_⟩
  refine (newPart_ok r hn hw).mono fun v h1 ⟨b, B, own, hv, pa, hp, st⟩ => ⟨_, hv, ?_⟩
  have s := s.join st
  refine ⟨⟨_, _, _, s.ldB, rfl⟩, ?_⟩
  refine s.new (cs := [_]) fun b1 h2 _ s => ⟨⟨_, _, _, s.ldB, rfl⟩, ?_⟩
  refine append_sl ok_part (s.at Ap) o1 ((Sl.one (T := tPart) (x := b) rfl).rd (s.find b1)) (by omega) fun p' c' h3 Ap' o1' s => ?_
  refine s.wrB fun h4 s => ⟨_, s.ldB, ⟨by omega, by omega⟩, s.wrB fun h5 s => ⟨_, s.ldB, ⟨by omega, by omega⟩, s.wrB fun h6 s => ⟨rfl, own, _, hp, ⟨m, p', rp, c', rc, bs ++ [b], Am, Ap', L + B, Ar, hm, ?_, hL.append (AllH.one pa), o2, rfl⟩, ?_⟩⟩⟩
  · rw [List.length_append]; exact o1'
  · have hpe := hp.length_eq
    have e1 : (.int .i64 ((storedOf parts : Nat) + (n : Int)) : Value) = .int .i64 ((storedOf (parts ++ [own]) : Nat) : Int) := by
      rw [storedOf_app]
      simp [storedOf]
      omega
    rw [List.length_append, List.length_singleton, ← e1]
    exact (s.to (B := cA b1 [.pointer (some ⟨b, 0, none⟩)] 75 + (cA tb [.map (some m), .slice p' (parts.length + 1) c', .slice rp rem.length rc, .int .i64 ((storedOf parts : Nat) + (n : Int)), .int .i64 (built + n)] 68 + (Am + (Ap' + (L + B + Ar))) + F))).drop
/-- All is built anew. -/
theorem renew_ok (a : TreeA tb ps parts rem built A) (s : St h0 h (A + F)) (hn : ps.length ≤ 5000) (hw : WOk (ptsOf ps)) (hb : 0 ≤ built ∧ built ≤ 1000000000) :
    HCalls Try.prog 29 #[ptr tb] h (fun v h' => v = .tuple #[] ∧ ∃ own A', own.Perm (ptsOf ps) ∧ TreeA tb ps (if ps.length = 0 then [] else [own]) [] (built + ps.length) A' ∧ St h0 h' (A' + F)) := by
  obtain ⟨m, pp, rp, pc, rc, bs, Am, Ap, L, Ar, hm, o1, hL, o2, rfl⟩ := a
  refine rangetree_Tree_renew_call ?_
  rw [rangetree_Tree_renew_b0_eq]
  have s := s.to (B := cA tb [.map (some m), .slice pp parts.length pc, .slice rp rem.length rc, .int .i64 (storedOf parts : Nat), .int .i64 built] 68 + (Ap + (L + (Ar + (Am + F)))))
  refine s.wrB fun h1 s => s.wrB fun h2 s => s.wrB fun h3 s => ?_
  have a' : TreeA tb ps [] [] built (cA tb [.map (some m), .slice none 0 0, .slice none 0 0, .int .i64 0, .int .i64 built] 68 + (Am + (0 + (0 + 0)))) := ⟨m, none, none, 0, 0, [], Am, 0, 0, 0, hm, Sl.nil, rfl, Sl.nil, rfl⟩
  have s := (s.to (B := (Ap + (L + Ar)) + (cA tb [.map (some m), .slice none 0 0, .slice none 0 0, .int .i64 0, .int .i64 built] 68 + (Am + (0 + (0 + 0))) + F))).drop
  generalize cA tb [.map (some m), .slice none 0 0, .slice none 0 0, .int .i64 0, .int .i64 built] 68 + (Am + (0 + (0 + 0))) = A at *
  refine (List_ok a' s hn).mono fun v h4 ⟨q, d, B, l, hv, o, s, hp, _⟩ => ⟨_, _, _, hv, condP (fun hpos => ?_) (fun hneg => ?_)⟩
  · refine (put_ok a' (s.to (B := A + (B + F))) (o.rd s) hn (fun x hx => hw x (hp.mem_iff.1 hx)) (by simp [storedOf]) (by simp) hb).mono fun v h5 ⟨hv, own, A', hq, ta, s⟩ => ⟨hv, rfl, own, A', hq.trans hp, ?_, (s.to (B := B + (A' + F))).drop⟩
    rw [if_neg (by omega)]
    exact ta
  · have hz : ps.length = 0 := by omega
    refine ⟨rfl, [], A, ?_, ?_, s.drop⟩
    · rw [List.eq_nil_of_length_eq_zero hz]; exact List.Perm.refl _
    · rw [if_pos hz, hz]
      simpa using a'
end
end Go.Proofs.Ytbfejfejahoblaa

/- Points: equality, predicates by closures, leaving out. -/
set_option maxRecDepth 100000
namespace Go.Proofs.Ytbfejfejahoblaa
open Go Go.Sx
theorem eq_pt {a b : Pt} : (decide (a.1 = b.1) && (decide (a.2.1 = b.2.1) && (decide (a.2.2 = b.2.2) && true))) = decide (a = b) := by
  rw [Bool.eq_iff_iff]
  simp only [Bool.and_true, Bool.and_eq_true, decide_eq_true_eq]
  constructor
  · rintro ⟨h1, h2, h3⟩; exact Prod.ext h1 (Prod.ext h2 h3)
  · rintro rfl; exact ⟨rfl, rfl, rfl⟩
theorem neq_pt {xo yo : Operand} (a b : Pt) {h : Hp} : eqC Try.prog .neq 33 xo yo (encPt a) (encPt b) h (!decide (a = b)) := by
  rw [← eq_pt]
  exact (eqC_struct (xs := [.int .i64 a.1, .int .i64 a.2.1, .int .i64 a.2.2]) (ys := [.int .i64 b.1, .int .i64 b.2.1, .int .i64 b.2.2]) (fs := structFs Try.prog 33) (by kernel_rfl) (by kernel_rfl) (by kernel_rfl) (by kernel_rfl)).2 rfl
theorem eql_pt {xo yo : Operand} (a b : Pt) {h : Hp} : eqC Try.prog .eql 33 xo yo (encPt a) (encPt b) h (decide (a = b)) := by
  rw [← eq_pt]
  exact (eqC_struct (xs := [.int .i64 a.1, .int .i64 a.2.1, .int .i64 a.2.2]) (ys := [.int .i64 b.1, .int .i64 b.2.1, .int .i64 b.2.2]) (fs := structFs Try.prog 33) (by kernel_rfl) (by kernel_rfl) (by kernel_rfl) (by kernel_rfl)).1 rfl
theorem EqualPt {h : Hp} {p q : Option Addr} {n m c d : Nat} {xs ys : List Pt} (r1 : RdT tPt h p n xs) (r2 : RdT tPt h q m ys) (hn : n ≤ 1000000000) :
    HCalls Try.prog 18 #[.slice p n c, .slice q m d] h (fun v h' => h' = h ∧ v = .bool (decide (xs = ys))) := by
  have l1 := r1.len
  have l2 := r2.len
  refine slices_Equal_Sapi_Point_api_Point_call ?_
  rw [slices_Equal_Sapi_Point_api_Point_b0_eq]
  refine condN (fun hne => ⟨rfl, by rw [decide_eq_false fun h => by subst h; omega]⟩) (fun heq => ?_)
  obtain rfl : n = m := by omega
  refine ⟨fun q h' => h' = h ∧ ∃ i : Nat, q.1 = i ∧ i ≤ n ∧ ∀ j, j < i → xs.getD j tPt.d = ys.getD j tPt.d, fun q _ => (n - q.1).toNat, ⟨rfl, 0, rfl, Nat.zero_le _, fun j hj => by omega⟩, ?_⟩
  rintro ⟨_, _⟩ h1 ⟨hh, i, rfl, hi, hall⟩
  subst hh
  dsimp only
  rw [slices_Equal_Sapi_Point_api_Point_b1_eq]
  refine condP (fun hlt => ?_) (fun hge => ?_)
  · refine ldPT (i' := i) r1 rfl (by omega) (ldPT (i' := i) r2 rfl (by omega) ⟨_, neq_pt (xs.getD i tPt.d) (ys.getD i tPt.d), condN (fun hne => ⟨rfl, ?_⟩) (fun he => ?_)⟩)
    · rw [decide_eq_false fun h => hne (by rw [h])]
    · rw [slices_Equal_Sapi_Point_api_Point_b2_eq]
      refine ⟨⟨by omega, by omega⟩, ⟨rfl, i + 1, by push_cast; rfl, by omega, fun j hj => ?_⟩, by dsimp only; omega⟩
      rcases Nat.lt_or_ge j i with h | h
      · exact hall j h
      · rw [show j = i by omega]; exact he
  · rw [slices_Equal_Sapi_Point_api_Point_b3_eq]
    exact ⟨rfl, by rw [decide_eq_true (list_eq_of (d := tPt.d) (by omega) fun j hj => hall j (by omega))]⟩
/-- What a closure says of points, in a state. -/
def PredP (h0 : Hp) (G : Bag) (f : Value) (cf : Pt → Bool) : Prop := ∀ (x : Pt) (h : Hp) (B : Bag) (K : Value → Hp → Prop), St h0 h (G + B) → (∀ h', Ext h h' → K (.bool (cf x)) h') → funV f fun fg fa fc => callX Try.prog F fg (fa ++ (([encPt x] : List Value) ++ fc)).toArray h K
theorem IndexF {h0 h : Hp} {G B : Bag} {f : Value} {cf : Pt → Bool} {p : Option Addr} {n c : Nat} {l : List Pt} (hf : PredP h0 G f cf) (s : St h0 h (G + B)) (r : RdT tPt h p n l) (hn : n ≤ 1000000) :
    HCalls Try.prog 44 #[.slice p n c, f] h (fun v h' => Ext h h' ∧ ((v = .int .i64 (-1) ∧ ∀ x ∈ l, cf x = false) ∨ ∃ i : Nat, v = .int .i64 (i : Int) ∧ i < n ∧ cf (l.getD i tPt.d) = true ∧ ∀ x ∈ l.take i, cf x = false)) := by
  have hll := r.len
  refine slices_IndexFunc_Sapi_Point_api_Point_call ?_
  rw [slices_IndexFunc_Sapi_Point_api_Point_b0_eq]
  refine ⟨fun q h' => Ext h h' ∧ ∃ i : Nat, q.1 = i ∧ i ≤ n ∧ ∀ x ∈ l.take i, cf x = false, fun q _ => (n - q.1).toNat, ⟨.refl _, 0, rfl, Nat.zero_le _, fun x hx => by rw [List.take_zero] at hx; cases hx⟩, ?_⟩
  rintro ⟨_, _⟩ h1 ⟨x1, i, rfl, hi, hall⟩
  dsimp only
  rw [slices_IndexFunc_Sapi_Point_api_Point_b1_eq]
  refine condP (fun hlt => ?_) (fun hge => ?_)
  · refine ldPT (i' := i) (r.ext x1) rfl (by omega) ?_
    refine hf (l.getD i tPt.d) _ B _ (s.grow x1) fun h2 x2 => ⟨_, rfl, cond_intro (fun hc => ⟨x1.trans x2, .inr ⟨i, rfl, by omega, hc, hall⟩⟩) (fun hc => ?_)⟩
    rw [slices_IndexFunc_Sapi_Point_api_Point_b2_eq]
    refine ⟨⟨by omega, by omega⟩, ⟨x1.trans x2, i + 1, by push_cast; rfl, by omega, fun x hx => ?_⟩, by dsimp only; omega⟩
    rw [take_succ_d (by omega)] at hx
    rcases List.mem_append.1 hx with hx | hx
    · exact hall x hx
    · rw [List.mem_singleton.1 hx]; exact hc
  · rw [slices_IndexFunc_Sapi_Point_api_Point_b3_eq]
    rw [List.take_of_length_le (by omega)] at hall
    exact ⟨x1, .inl ⟨rfl, hall⟩⟩
theorem ContainsF {h0 h : Hp} {G B : Bag} {f : Value} {cf : Pt → Bool} {p : Option Addr} {n c : Nat} {l : List Pt} (hf : PredP h0 G f cf) (s : St h0 h (G + B)) (r : RdT tPt h p n l) (hn : n ≤ 1000000) :
    HCalls Try.prog 26 #[.slice p n c, f] h (fun v h' => Ext h h' ∧ v = .bool (l.any cf)) := by
  have hll := r.len
  refine slices_ContainsFunc_Sapi_Point_api_Point_call ?_
  rw [slices_ContainsFunc_Sapi_Point_api_Point_b0_eq]
  refine (IndexF hf s r hn).mono fun v h1 ⟨x1, hv⟩ => ?_
  rcases hv with ⟨hv, hall⟩ | ⟨i, hv, hi, hc, _⟩
  · refine ⟨_, hv, x1, ?_⟩
    have : l.any cf = false := List.any_eq_false.2 fun x hx => by rw [hall x hx]; simp
    rw [this]; rfl
  · refine ⟨_, hv, x1, ?_⟩
    have hil : i < l.length := by omega
    rw [getD_get (d := tPt.d) hil] at hc
    have : l.any cf = true := List.any_eq_true.2 ⟨_, List.getElem_mem hil, hc⟩
    rw [this, decide_eq_true (by omega)]
/-- Points for which a closure says yes are left out. -/
theorem DeleteF {h0 h : Hp} {G B A : Bag} {f : Value} {cf : Pt → Bool} {p : Option Addr} {n c : Nat} {l : List Pt} (hf : PredP h0 G f cf) (s : St h0 h (A + (G + B))) (o : Sl tPt p n c l A) (hn : n ≤ 1000000) :
    HCalls Try.prog 34 #[.slice p n c, f] h (fun v h' => ∃ m A', v = .slice p m c ∧ Sl tPt p m c (l.filter fun x => !cf x) A' ∧ St h0 h' (A' + (G + B))) := by
  have hll := o.len
  have hcap := o.cap
  refine slices_DeleteFunc_Sapi_Point_api_Point_call ?_
  rw [slices_DeleteFunc_Sapi_Point_api_Point_b0_eq]
  refine (IndexF hf (s.to (B := G + (A + B))) (o.rd s) hn).mono fun v h1 ⟨x1, hv⟩ => ?_
  have s := s.grow x1
  rcases hv with ⟨hv, hall⟩ | ⟨i0, hv, hi0, hc0, hall⟩
  · refine ⟨_, hv, condYes rfl ⟨n, A, rfl, ?_, s⟩⟩
    rw [List.filter_eq_self.2 fun x hx => by rw [hall x hx]; rfl]
    exact o
  refine ⟨_, hv, condNo (decide_eq_false (by omega)) ⟨⟨by omega, by omega⟩, ?_⟩⟩
  refine ⟨fun q h' => ∃ (i j : Nat) (ys : List Pt) (A : Bag), q.1 = i ∧ q.2.1 = j ∧ i ≤ j ∧ j ≤ n ∧ Sl tPt p n c ys A ∧ ys.take i = (l.take j).filter (fun x => !cf x) ∧ (∀ k, j ≤ k → ys.getD k tPt.d = l.getD k tPt.d) ∧ St h0 h' (A + (G + B)), fun q _ => (n - q.2.1).toNat, ⟨i0, i0 + 1, l, A, rfl, by push_cast; rfl, by omega, by omega, o, ?_, fun _ _ => rfl, s⟩, ?_⟩
  · rw [take_succ_d (by omega), List.filter_append, List.filter_eq_self.2 fun x hx => by rw [hall x hx]; rfl, List.filter_cons, hc0]
    simp
  clear s o hall
  rintro ⟨_, _, _⟩ h2 ⟨i, j, ys, A, rfl, rfl, hij, hjn, o, htk, hrest, s⟩
  dsimp only
  have hyl := o.len
  have hil := congrArg List.length htk
  rw [List.length_take] at hil
  rw [slices_DeleteFunc_Sapi_Point_api_Point_b1_eq]
  refine condP (fun hlt => ?_) (fun hge => ?_)
  · refine ldPT (i' := j) (o.rd s) rfl (by omega) ?_
    rw [hrest j (Nat.le_refl _)]
    generalize hx : l.getD j tPt.d = x at *
    refine s.new (cs := [_, _, _]) fun b h3 _ s => s.wr3 fun h6 s => ⟨_, _, _, s.ld0, s.ldB, s.ldB, ?_⟩
    refine hf x _ (cA b [.int .i64 x.1, .int .i64 x.2.1, .int .i64 x.2.2] 33 + (A + B)) _ s.to fun h7 x7 => ⟨_, rfl, ?_⟩
    have s := s.grow x7
    have hfl : (l.take (j + 1)).filter (fun x => !cf x) = (l.take j).filter (fun x => !cf x) ++ (if cf x then [] else [x]) := by
      rw [take_succ_d (by omega), hx, List.filter_append, List.filter_cons]
      cases cf x <;> simp
    have keep := fun (h8 : Hp) (s8 : St h0 h8 (A + (G + B))) (hc : cf x = true) => (⟨i, j + 1, ys, A, rfl, by push_cast; rfl, by omega, by omega, o, by rw [htk, hfl, if_pos hc, List.append_nil], fun k hk => hrest k (by omega), s8⟩ : ∃ (i' j' : Nat) (ys : List Pt) (A : Bag), (i : Int) = i' ∧ (j : Int) + 1 = j' ∧ i' ≤ j' ∧ j' ≤ n ∧ Sl tPt p n c ys A ∧ ys.take i' = (l.take j').filter (fun x => !cf x) ∧ (∀ k, j' ≤ k → ys.getD k tPt.d = l.getD k tPt.d) ∧ St h0 h8 (A + (G + B)))
    refine cond_intro (fun hc => ?_) (fun hc => ?_)
    · have hc : cf x = false := by simpa using hc
      refine ⟨_, _, _, s.ld0, s.ldB, s.ldB, ⟨by omega, by omega⟩, ?_⟩
      obtain ⟨ad, hpa, _⟩ := (o.rd (s.at A)).at_ (i := i) (by omega)
      subst hpa
      rw [Int.toNat_natCast]
      refine wrPT (x := x) o (s.at A) (by omega) fun h8 A8 o8 s8 => ⟨⟨by omega, by omega⟩, ?_⟩
      rw [slices_DeleteFunc_Sapi_Point_api_Point_b2_eq]
      refine ⟨⟨by omega, by omega⟩, ⟨i + 1, j + 1, _, A8, by push_cast; rfl, by push_cast; rfl, by omega, by omega, o8, ?_, fun k hk => ?_, (s8.to (B := cA b [.int .i64 x.1, .int .i64 x.2.1, .int .i64 x.2.2] 33 + (A8 + (G + B)))).drop⟩, by dsimp only; omega⟩
      · rw [hfl, hc, ← htk, take_succ_d (by rw [List.length_set]; omega), List.take_set_of_le (Nat.le_refl _), getD_set_selfPt (by omega)]
        rfl
      · rw [getD_setS (by omega), if_neg (by omega)]
        exact hrest k (by omega)
    · have hc : cf x = true := by simpa using hc
      rw [slices_DeleteFunc_Sapi_Point_api_Point_b2_eq]
      refine ⟨⟨by omega, by omega⟩, keep h7 (s.to (B := cA b [.int .i64 x.1, .int .i64 x.2.1, .int .i64 x.2.2] 33 + (A + (G + B)))).drop hc, by dsimp only; omega⟩
  · obtain rfl : j = n := by omega
    rw [List.take_of_length_le (l := l) (by omega)] at htk
    rw [slices_DeleteFunc_Sapi_Point_api_Point_b3_eq]
    have e1 : Int.toNat (i : Int) = i := Int.toNat_natCast i
    have e2 : Int.toNat (j : Int) = j := Int.toNat_natCast j
    have e0 : Int.toNat (0 : Int) = 0 := rfl
    rw [e1, e2, e0, subAddr_z, Nat.sub_zero, Nat.sub_zero]
    refine ⟨⟨by omega, by omega, by omega⟩, clear_tail ok_pts o s hij fun h3 A3 o3 s3 => ⟨⟨by omega, by omega, by omega⟩, ?_⟩⟩
    rw [htk] at o3
    exact ⟨i, A3, rfl, o3, s3⟩
end Go.Proofs.Ytbfejfejahoblaa

/- The tree: valid points, Make, asking. -/
set_option maxRecDepth 100000
namespace Go.Proofs.Ytbfejfejahoblaa
open Go Go.Sx
def vPt (p : Pt) : Bool := decide ((-1048576 ≤ p.1 ∧ p.1 ≤ 1048576) ∧ (-1048576 ≤ p.2.1 ∧ p.2.1 ≤ 1048576) ∧ (-1048576 ≤ p.2.2 ∧ p.2.2 ≤ 1048576))
theorem vPt_iff {p : Pt} : vPt p = true ↔ (-1048576 ≤ p.1 ∧ p.1 ≤ 1048576) ∧ (-1048576 ≤ p.2.1 ∧ p.2.1 ≤ 1048576) ∧ (-1048576 ≤ p.2.2 ∧ p.2.2 ≤ 1048576) := by unfold vPt; rw [decide_eq_true_eq]
theorem valid_ok (x : Pt) (h : Hp) : HCalls Try.prog 28 #[encPt x] h (fun v h' => Ext h h' ∧ v = .bool (vPt x)) := by
  refine rangetree_valid_call ?_
  rw [rangetree_valid_b0_eq]
  refine (St.start h).new (cs := [_, _, _]) fun b1 h1 _ s => ⟨_, s.ld0, _, s.ldB, _, s.ldB, condP (fun hc => ⟨_, s.ld0, _, s.ldB, _, s.ldB, s.ext, ?_⟩) (fun hc => ⟨s.ext, ?_⟩)⟩
  · unfold vPt
    congr 1
    refine decide_eq_decide.2 ?_
    revert hc
    repeat' split
    all_goals omega
  · unfold vPt
    congr 1
    refine (decide_eq_false ?_).symm
    revert hc
    repeat' split
    all_goals omega
theorem validN (h0 : Hp) : PredP h0 0 (.func (.func 27) #[] #[]) (fun x => !vPt x) := fun x h B K _ hK => by
  refine funX_of (by kernel_rfl) (rangetree_Make_c1_call ?_)
  rw [rangetree_Make_c1_b0_eq]
  refine (St.start h).new (cs := [_, _, _]) fun b1 h1 _ s => ⟨_, _, _, s.ld0, s.ldB, s.ldB, (valid_ok x _).mono fun v h2 ⟨x2, hv⟩ => ⟨_, hv, hK _ (s.ext.trans x2)⟩⟩
/-! ### plain -/
theorem setk_len {ps : PS} {k : Int × Int} {w : Int} : (setk ps k w).length = ps.length + if lkp ps k = none then 1 else 0 := by
  induction ps with
  | nil => rfl
  | cons e l ih =>
    obtain ⟨a, v⟩ := e
    unfold setk lkp
    by_cases h : a = k
    · rw [if_pos h, if_pos h, if_neg (by simp)]; rfl
    · rw [if_neg h, if_neg h, List.length_cons, ih, List.length_cons]; omega
/-- A map after some points were put in. -/
def MI (l : List Pt) (ps : PS) : Prop := ((l.map place).Nodup ∧ ps = l.map kvOf) ∨ (¬ (l.map place).Nodup ∧ ps.length < l.length)
theorem MI_step {l : List Pt} {ps : PS} (h : MI l ps) (p : Pt) : MI (l ++ [p]) (setk ps (place p) p.2.2) := by
  rcases h with ⟨hn, rfl⟩ | ⟨hn, hl⟩
  · have hk : (l.map kvOf).map Prod.fst = l.map place := by rw [List.map_map]; rfl
    cases hc : lkp (l.map kvOf) (place p) with
    | none =>
      refine .inl ⟨?_, by rw [setk_new hc, List.map_append]; rfl⟩
      rw [List.map_append, List.nodup_append]
      refine ⟨hn, by simp, fun x hx y hy e => ?_⟩
      rw [List.map_singleton, List.mem_singleton] at hy
      subst hy; subst e
      rw [lkp_none, hk] at hc
      exact hc hx
    | some w =>
      refine .inr ⟨fun hn2 => ?_, by rw [setk_len, if_neg (by rw [hc]; simp)]; simp⟩
      rw [List.map_append, List.nodup_append] at hn2
      have : ¬ lkp (l.map kvOf) (place p) = none := by rw [hc]; simp
      rw [lkp_none, hk, Classical.not_not] at this
      exact hn2.2.2 _ this _ (by simp) rfl
  · refine .inr ⟨fun hn2 => hn ?_, ?_⟩
    · rw [List.map_append, List.nodup_append] at hn2; exact hn2.1
    · rw [setk_len, List.length_append, List.length_singleton]; split <;> omega
structure RI (ps : PS) (parts : List (List Pt)) (rem : List Pt) : Prop where
  perm : parts.flatten.Perm (ptsOf ps ++ rem)
  val : ∀ x ∈ parts.flatten, vPt x = true
  ne : ∀ P ∈ parts, P ≠ []
  small : 2 * rem.length < storedOf parts ∨ parts = []
  len : ps.length ≤ 1000
section
variable {ps : PS} {parts : List (List Pt)} {rem : List Pt}
theorem RI.stored (r : RI ps parts rem) : storedOf parts = ps.length + rem.length := by
  have := r.perm.length_eq
  rw [storedOf_flat, List.length_append, ptsOf_len] at this
  exact this
theorem RI.bound (r : RI ps parts rem) : storedOf parts ≤ 2000 ∧ rem.length ≤ 1000 := by
  have h1 := r.stored
  have h2 := r.len
  rcases r.small with h | h
  · omega
  · subst h
    have : storedOf [] = 0 := rfl
    omega
theorem parts_len : ∀ {parts : List (List Pt)}, (∀ P ∈ parts, P ≠ []) → parts.length ≤ storedOf parts
  | [], _ => Nat.le_refl _
  | P :: R, h => by
    have ih := parts_len (parts := R) fun Q hQ => h Q (List.mem_cons_of_mem _ hQ)
    have hp := List.length_pos_iff.2 (h P List.mem_cons_self)
    have e : storedOf (P :: R) = P.length + storedOf R := by simp [storedOf]
    rw [List.length_cons, e]; omega
theorem RI.wok (r : RI ps parts rem) : WOk parts.flatten := fun x hx => (vPt_iff.1 (r.val x hx)).2.2
theorem RI.wps (r : RI ps parts rem) : WOk (ptsOf ps) := fun x hx => r.wok x (r.perm.mem_iff.2 (List.mem_append.2 (.inl hx)))
theorem RI.wrem (r : RI ps parts rem) : WOk rem := fun x hx => r.wok x (r.perm.mem_iff.2 (List.mem_append.2 (.inr hx)))
end
theorem cntB_bound (x1 x2 y1 y2 : Int) (l : List Pt) : 0 ≤ cntB x1 x2 y1 y2 l ∧ cntB x1 x2 y1 y2 l ≤ l.length := by
  unfold cntB
  have := List.length_filter_le (inB x1 x2 y1 y2) l
  omega
theorem sumB_bound {x1 x2 y1 y2 : Int} {l : List Pt} (hw : WOk l) : -(1048576 * (l.length : Int)) ≤ sumB x1 x2 y1 y2 l ∧ sumB x1 x2 y1 y2 l ≤ 1048576 * (l.length : Int) := by
  unfold sumB
  have h1 := wSum_bound (l := l.filter (inB x1 x2 y1 y2)) fun x hx => hw x (List.mem_filter.1 hx).1
  have := List.length_filter_le (inB x1 x2 y1 y2) l
  omega
section
variable {h0 h : Hp} {tb : Nat} {ps : PS} {parts : List (List Pt)} {rem : List Pt} {built : Int} {A F : Bag}
theorem cntB_nil (x1 x2 y1 y2 : Int) : cntB x1 x2 y1 y2 [] = 0 := rfl
theorem sumB_nil (x1 x2 y1 y2 : Int) : sumB x1 x2 y1 y2 [] = 0 := rfl
theorem take_flat {parts : List (List Pt)} {i : Nat} (h : i < parts.length) : (parts.take (i + 1)).flatten = (parts.take i).flatten ++ parts.getD i [] := by
  rw [List.take_succ_eq_append_getElem h, List.flatten_append, getD_get h]
  simp
theorem flat_take_le (parts : List (List Pt)) (i : Nat) : (parts.take i).flatten.length ≤ storedOf parts := by
  conv => rhs; rw [← List.take_append_drop i parts, storedOf_app]
  rw [storedOf_flat]; omega
theorem treeAsk_ok (a : TreeA tb ps parts rem built A) (s : St h0 h (A + F)) (ri : RI ps parts rem) (x1 x2 y1 y2 : Int) :
    HCalls Try.prog 33 #[ptr tb, .int .i64 x1, .int .i64 x2, .int .i64 y1, .int .i64 y2] h (fun v h' => Ext h h' ∧ v = .tuple #[.int .i64 (cntB x1 x2 y1 y2 (ptsOf ps)), .int .i64 (sumB x1 x2 y1 y2 (ptsOf ps))]) := by
  obtain ⟨m, pp, rp, pc, rc, bs, Am, Ap, L, Ar, hm, o1, hL, o2, rfl⟩ := a
  obtain ⟨hb1, hb2⟩ := ri.bound
  have hpl := parts_len ri.ne
  have hbl := hL.len
  have hwf := ri.wok
  have hwr := ri.wrem
  have s := s.to (B := cA tb [.map (some m), .slice pp parts.length pc, .slice rp rem.length rc, .int .i64 (storedOf parts : Nat), .int .i64 built] 68 + (Am + (Ap + (L + (Ar + F)))))
  refine rangetree_Tree_ask_call ?_
  rw [rangetree_Tree_ask_b0_eq]
  refine ⟨_, _, _, s.ldB, ?_⟩
  refine ⟨fun q h' => ∃ i : Nat, q.2.2.1 = i ∧ i ≤ parts.length ∧ q.1 = cntB x1 x2 y1 y2 (parts.take i).flatten ∧ q.2.1 = sumB x1 x2 y1 y2 (parts.take i).flatten ∧ Ext h h', fun q _ => (parts.length - q.2.2.1).toNat, ⟨0, rfl, Nat.zero_le _, rfl, rfl, .refl _⟩, ?_⟩
  rintro ⟨_, _, _, _⟩ h1 ⟨i, rfl, hi, rfl, rfl, e1⟩
  dsimp only
  have s := s.grow e1
  have wi : WOk (parts.take i).flatten := fun x hx => hwf x (by rw [List.mem_flatten] at hx ⊢; obtain ⟨P, hP, hx⟩ := hx; exact ⟨P, List.mem_of_mem_take hP, hx⟩)
  have c1 := cntB_bound x1 x2 y1 y2 (parts.take i).flatten
  have c2 := sumB_bound (x1 := x1) (x2 := x2) (y1 := y1) (y2 := y2) wi
  have c3 := flat_take_le parts i
  rw [rangetree_Tree_ask_b1_eq]
  refine condP (fun hlt => ?_) (fun hge => ?_)
  · have hin : i < parts.length := by omega
    refine (o1.rd (s.at Ap)).ptr (by omega) (by omega) ?_
    obtain ⟨Li, Lr, rfl, pa⟩ := hL.pick (d := []) (d' := 0) (i := i) (by omega)
    have hP : parts.getD i [] ∈ parts := by rw [getD_get hin]; exact List.getElem_mem _
    have wP : WOk (parts.getD i []) := fun x hx => hwf x (List.mem_flatten.2 ⟨_, hP, hx⟩)
    have lP : (parts.getD i []).length ≤ storedOf parts := by
      have := flat_take_le parts (i + 1)
      rw [take_flat hin, List.length_append] at this; omega
    rw [Int.toNat_natCast]
    refine (rectangle_ok pa (s.to (B := Li + (cA tb [.map (some m), .slice pp parts.length pc, .slice rp rem.length rc, .int .i64 (storedOf parts : Nat), .int .i64 built] 68 + (Am + (Ap + (Lr + (Ar + F))))))) (by omega) wP x1 x2 y1 y2).mono fun v h2 ⟨e2, hv⟩ => ⟨_, _, hv, ?_⟩
    have d1 := cntB_bound x1 x2 y1 y2 (parts.getD i [])
    have d2 := sumB_bound (x1 := x1) (x2 := x2) (y1 := y1) (y2 := y2) wP
    refine ⟨⟨by omega, by omega⟩, ⟨by omega, by omega⟩, ?_⟩
    rw [rangetree_Tree_ask_b2_eq]
    refine ⟨⟨by omega, by omega⟩, ⟨i + 1, by push_cast; rfl, by omega, ?_, ?_, e1.trans e2⟩, by dsimp only; omega⟩
    · rw [take_flat hin, cntB_app]
    · rw [take_flat hin, sumB_app]
  obtain rfl : i = parts.length := by omega
  rw [List.take_length] at *
  rw [rangetree_Tree_ask_b3_eq]
  refine ⟨_, _, _, s.ldB, ?_⟩
  refine ⟨fun q h' => ∃ i : Nat, q.2.2.1 = i ∧ i ≤ rem.length ∧ q.1 = cntB x1 x2 y1 y2 parts.flatten - cntB x1 x2 y1 y2 (rem.take i) ∧ q.2.1 = sumB x1 x2 y1 y2 parts.flatten - sumB x1 x2 y1 y2 (rem.take i) ∧ Ext h1 h', fun q _ => (rem.length - q.2.2.1).toNat, ⟨0, rfl, Nat.zero_le _, by rw [List.take_zero, cntB_nil]; omega, by dsimp only; rw [List.take_zero, sumB_nil]; omega, .refl _⟩, ?_⟩
  rintro ⟨_, _, _, _⟩ h2 ⟨i, rfl, hi, rfl, rfl, e2⟩
  dsimp only
  have s := s.grow e2
  have wi : WOk (rem.take i) := fun x hx => hwr x (List.mem_of_mem_take hx)
  have d1 := cntB_bound x1 x2 y1 y2 (rem.take i)
  have d2 := sumB_bound (x1 := x1) (x2 := x2) (y1 := y1) (y2 := y2) wi
  rw [List.length_take] at d1 d2
  rw [rangetree_Tree_ask_b4_eq]
  refine condP (fun hlt => ?_) (fun hge => ?_)
  · have hin : i < rem.length := by omega
    refine ldPT (i' := i) (o2.rd (s.at Ar)) rfl hin ?_
    have hwx := hwr (rem.getD i tPt.d) (by rw [getD_get hin]; exact List.getElem_mem _)
    have htk := take_succ_d hin
    generalize rem.getD i tPt.d = x at *
    have cs1 : cntB x1 x2 y1 y2 (rem.take (i + 1)) = cntB x1 x2 y1 y2 (rem.take i) + (if x1 ≤ x.1 ∧ x.1 ≤ x2 ∧ y1 ≤ x.2.1 ∧ x.2.1 ≤ y2 then 1 else 0) := by
      rw [htk, cntB_app]
      unfold cntB inB
      rw [List.filter_cons]
      split <;> rename_i hh <;> rw [decide_eq_true_eq] at hh
      · rw [if_pos hh]; rfl
      · rw [if_neg hh]; rfl
    have cs2 : sumB x1 x2 y1 y2 (rem.take (i + 1)) = sumB x1 x2 y1 y2 (rem.take i) + (if x1 ≤ x.1 ∧ x.1 ≤ x2 ∧ y1 ≤ x.2.1 ∧ x.2.1 ≤ y2 then x.2.2 else 0) := by
      rw [htk, sumB_app]
      unfold sumB inB
      rw [List.filter_cons]
      split <;> rename_i hh <;> rw [decide_eq_true_eq] at hh
      · rw [if_pos hh, List.filter_nil, wSum_cons, wSum_nil]; omega
      · rw [if_neg hh]; rfl
    refine (St.start h2).new (cs := [_, _, _]) fun b h3 x3 t => t.wr3 fun h7 t => ⟨_, t.ld0, ?_⟩
    have e7 := e2.trans t.ext
    have fin : ∀ c z : Int, c = cntB x1 x2 y1 y2 parts.flatten - cntB x1 x2 y1 y2 (rem.take (i + 1)) → z = sumB x1 x2 y1 y2 parts.flatten - sumB x1 x2 y1 y2 (rem.take (i + 1)) → ∀ {nx K}, (∀ q : Int × Int × Int × Unit, q.1 = c → q.2.1 = z → q.2.2.1 = (i : Int) + 1 → nx q h7) → rangetree_Tree_ask_b5 x1 x2 y1 y2 c z rp rem.length rc (rem.length : Int) (i : Int) h7 nx K := fun c z _ _ nx K hn => by
      rw [rangetree_Tree_ask_b5_eq]
      exact ⟨⟨by omega, by omega⟩, hn _ rfl rfl rfl⟩
    have no : ¬ (x1 ≤ x.1 ∧ x.1 ≤ x2 ∧ y1 ≤ x.2.1 ∧ x.2.1 ≤ y2) → rangetree_Tree_ask_b5 x1 x2 y1 y2 (cntB x1 x2 y1 y2 parts.flatten - cntB x1 x2 y1 y2 (rem.take i)) (sumB x1 x2 y1 y2 parts.flatten - sumB x1 x2 y1 y2 (rem.take i)) rp rem.length rc (rem.length : Int) (i : Int) h7 (fun q h' => (∃ i : Nat, q.2.2.1 = i ∧ i ≤ rem.length ∧ q.1 = cntB x1 x2 y1 y2 parts.flatten - cntB x1 x2 y1 y2 (rem.take i) ∧ q.2.1 = sumB x1 x2 y1 y2 parts.flatten - sumB x1 x2 y1 y2 (rem.take i) ∧ Ext h1 h') ∧ ((rem.length : Int) - q.2.2.1).toNat < ((rem.length : Int) - (i : Int)).toNat) (fun v h' => Ext h h' ∧ v = .tuple #[.int .i64 (cntB x1 x2 y1 y2 (ptsOf ps)), .int .i64 (sumB x1 x2 y1 y2 (ptsOf ps))]) := fun hno => by
      rw [if_neg hno] at cs1 cs2
      exact fin _ _ (by omega) (by omega) fun q q1 q2 q3 => ⟨⟨i + 1, by rw [q3]; push_cast; rfl, by omega, by rw [q1]; omega, by rw [q2]; omega, e7⟩, by omega⟩
    refine condP (fun g1 => ⟨_, t.ld0, condP (fun g2 => ⟨_, t.ldB, condP (fun g3 => ⟨_, t.ldB, condP (fun g4 => ?_) (fun g => no (by omega))⟩) (fun g => no (by omega))⟩) (fun g => no (by omega))⟩) (fun g => no (by omega))
    rw [if_pos ⟨g1, g2, g3, g4⟩] at cs1 cs2
    refine ⟨⟨by omega, by omega⟩, _, t.ldB, ⟨by omega, by omega⟩, ?_⟩
    exact fin _ _ (by omega) (by omega) fun q q1 q2 q3 => ⟨⟨i + 1, by rw [q3]; push_cast; rfl, by omega, by rw [q1]; omega, by rw [q2]; omega, e7⟩, by omega⟩
  · obtain rfl : i = rem.length := by omega
    rw [rangetree_Tree_ask_b6_eq]
    refine ⟨e1.trans e2, ?_⟩
    rw [List.take_length, cntB_perm ri.perm, sumB_perm ri.perm, cntB_app, sumB_app]
    congr 3
    · congr 1; omega
    · congr 2; omega
theorem Count_ok (a : TreeA tb ps parts rem built A) (s : St h0 h (A + F)) (ri : RI ps parts rem) (x1 x2 y1 y2 : Int) :
    HCalls Try.prog 16 #[ptr tb, .int .i64 x1, .int .i64 x2, .int .i64 y1, .int .i64 y2] h (fun v h' => Ext h h' ∧ v = .tuple #[.int .i64 (cntB x1 x2 y1 y2 (ptsOf ps)), .int .i64 0]) := by
  refine rangetree_Tree_Count_call ?_
  rw [rangetree_Tree_Count_b0_eq]
  exact condNo rfl ((treeAsk_ok a s ri x1 x2 y1 y2).mono fun v h1 ⟨x1, hv⟩ => ⟨_, _, hv, x1, rfl⟩)
theorem Sum_ok (a : TreeA tb ps parts rem built A) (s : St h0 h (A + F)) (ri : RI ps parts rem) (x1 x2 y1 y2 : Int) :
    HCalls Try.prog 20 #[ptr tb, .int .i64 x1, .int .i64 x2, .int .i64 y1, .int .i64 y2] h (fun v h' => Ext h h' ∧ v = .tuple #[.int .i64 (sumB x1 x2 y1 y2 (ptsOf ps)), .int .i64 0]) := by
  refine rangetree_Tree_Sum_call ?_
  rw [rangetree_Tree_Sum_b0_eq]
  exact condNo rfl ((treeAsk_ok a s ri x1 x2 y1 y2).mono fun v h1 ⟨x1, hv⟩ => ⟨_, _, hv, x1, rfl⟩)
theorem Len_ok (a : TreeA tb ps parts rem built A) (s : St h0 h (A + F)) : HCalls Try.prog 17 #[ptr tb] h (fun v h' => h' = h ∧ v = .int .i64 (ps.length : Nat)) := by
  obtain ⟨m, pp, rp, pc, rc, bs, Am, Ap, L, Ar, hm, o1, hL, o2, rfl⟩ := a
  refine rangetree_Tree_Len_call ?_
  rw [rangetree_Tree_Len_b0_eq]
  exact condNo rfl ⟨_, s.ld0, hm.len (s.to (B := Am + (cA tb [.map (some m), .slice pp parts.length pc, .slice rp rem.length rc, .int .i64 (storedOf parts : Nat), .int .i64 built] 68 + (Ap + (L + Ar) + F)))) ⟨rfl, rfl⟩⟩
/-- The points of a rectangle. -/
theorem Report_ok (a : TreeA tb ps parts rem built A) (s : St h0 h (A + F)) (hn : ps.length ≤ 5000) (x1 x2 y1 y2 : Int) :
    HCalls Try.prog 19 #[ptr tb, .int .i64 x1, .int .i64 x2, .int .i64 y1, .int .i64 y2] h (fun v h' => ∃ q n d A' l, v = .tuple #[.slice q n d, .int .i64 0] ∧ l.Perm (ptsOf ps) ∧ PtsS l ∧ Sl tPt q n d (l.filter (inB x1 x2 y1 y2)) A' ∧ St h0 h' (A' + (A + F))) := by
  refine rangetree_Tree_Report_call ?_
  rw [rangetree_Tree_Report_b0_eq]
  refine s.new (cs := [_]) fun b1 g1 _ s => s.new (cs := [_]) fun b2 g2 _ s => s.new (cs := [_]) fun b3 g3 _ s => s.new (cs := [_]) fun b4 g4 _ s => condNo rfl ?_
  have s := s.to (B := A + ((cA b1 [.int .i64 x1] 3 + (cA b2 [.int .i64 x2] 3 + (cA b3 [.int .i64 y1] 3 + cA b4 [.int .i64 y2] 3))) + F))
  refine (List_ok a s hn).mono fun v h5 ⟨q, d, A', l, hv, o, s, hp, hs⟩ => ⟨_, _, _, hv, ?_⟩
  have hf : PredP h0 (cA b1 [.int .i64 x1] 3 + (cA b2 [.int .i64 x2] 3 + (cA b3 [.int .i64 y1] 3 + cA b4 [.int .i64 y2] 3))) (.func (.func 35) #[] #[ptr b1, ptr b2, ptr b3, ptr b4]) (fun x => !inB x1 x2 y1 y2 x) := fun x h B K s hK => by
    refine funX_of (by kernel_rfl) (rangetree_Tree_Report_c1_call ?_)
    rw [rangetree_Tree_Report_c1_b0_eq]
    refine (St.start h).new (cs := [_, _, _]) fun c h1 _ t => ⟨_, t.ld0, ?_⟩
    have s := s.grow t.ext
    have yes : ∀ z : Bool, z = (!inB x1 x2 y1 y2 x) → K (.bool z) h1 := fun z hz => by rw [hz]; exact hK h1 t.ext
    refine ⟨_, s.ld0, condP (fun g => yes _ ?_) (fun g => ⟨_, t.ld0, _, s.ld0, condP (fun g' => yes _ ?_) (fun g' => ⟨_, t.ldB, _, s.ld0, condP (fun g2 => yes _ ?_) (fun g2 => ⟨_, t.ldB, _, s.ld0, yes _ ?_⟩)⟩)⟩)⟩
    · unfold inB; rw [decide_eq_false (by omega)]; rfl
    · unfold inB; rw [decide_eq_false (by omega)]; rfl
    · unfold inB; rw [decide_eq_false (by omega)]; rfl
    · unfold inB
      by_cases g3 : x.2.1 ≤ y2
      · rw [decide_eq_false (by omega), decide_eq_true (by omega)]; rfl
      · rw [decide_eq_true (by omega), decide_eq_false (by omega)]; rfl
  refine (DeleteF hf (s.to (B := A' + ((cA b1 [.int .i64 x1] 3 + (cA b2 [.int .i64 x2] 3 + (cA b3 [.int .i64 y1] 3 + cA b4 [.int .i64 y2] 3))) + (A + F)))) o (by omega)).mono fun v h6 ⟨n, A2, hv, o2, s2⟩ => ⟨_, _, _, hv, q, n, d, A2, l, rfl, hp, hs, ?_, (s2.to (B := (cA b1 [.int .i64 x1] 3 + (cA b2 [.int .i64 x2] 3 + (cA b3 [.int .i64 y1] 3 + cA b4 [.int .i64 y2] 3))) + (A2 + (A + F)))).drop⟩
  have e : (l.filter fun x => !!inB x1 x2 y1 y2 x) = l.filter (inB x1 x2 y1 y2) := List.filter_congr fun x _ => by simp
  rw [e] at o2
  exact o2
theorem find_take {α : Type} {p : α → Bool} {l : List α} {i : Nat} (hi : i < l.length) (h1 : ∀ x ∈ l.take i, p x = false) (h2 : p l[i] = true) : l.find? p = some l[i] := by
  have e := split_at hi
  generalize l[i] = x at *
  rw [e, List.find?_append, List.find?_eq_none.2 (fun y hy => by rw [h1 y hy]; simp), List.find?_cons, h2]
  rfl
theorem Leftmost_ok (a : TreeA tb ps parts rem built A) (s : St h0 h (A + F)) (hn : ps.length ≤ 5000) (x1 y1 y2 : Int) :
    HCalls Try.prog 22 #[ptr tb, .int .i64 x1, .int .i64 y1, .int .i64 y2] h (fun v h' => St h0 h' (A + F) ∧ ∃ l, l.Perm (ptsOf ps) ∧ PtsS l ∧ v = match l.find? (fun p => decide (x1 ≤ p.1 ∧ y1 ≤ p.2.1 ∧ p.2.1 ≤ y2)) with | some p => .tuple #[encPt p, .int .i64 0] | none => .tuple #[encPt (0, 0, 0), .int .i64 12]) := by
  refine rangetree_Tree_Leftmost_call ?_
  rw [rangetree_Tree_Leftmost_b0_eq]
  refine s.new (cs := [_, _, _]) fun b1 g1 _ s => condNo rfl ?_
  refine (List_ok a (s.to (B := A + (cA b1 [.int .i64 0, .int .i64 0, .int .i64 0] 33 + F))) hn).mono fun v h5 ⟨q, d, A', l, hv, o, s, hp, hs⟩ => ⟨_, _, _, hv, ?_⟩
  have hl := o.len
  have s := s.to (B := A' + (cA b1 [.int .i64 0, .int .i64 0, .int .i64 0] 33 + (A + F)))
  refine ⟨fun z h' => ∃ i : Nat, z.1 = i ∧ i ≤ ps.length ∧ (∀ x ∈ l.take i, decide (x1 ≤ x.1 ∧ y1 ≤ x.2.1 ∧ x.2.1 ≤ y2) = false) ∧ St h0 h' (A' + (cA b1 [.int .i64 0, .int .i64 0, .int .i64 0] 33 + (A + F))), fun z _ => (ps.length - z.1).toNat, ⟨0, rfl, Nat.zero_le _, fun x hx => (by rw [List.take_zero] at hx; cases hx), s⟩, ?_⟩
  clear s
  rintro ⟨_, _⟩ h6 ⟨i, rfl, hi, hall, s⟩
  dsimp only
  rw [rangetree_Tree_Leftmost_b1_eq]
  refine condP (fun hlt => ?_) (fun hge => ?_)
  · have hin : i < l.length := by omega
    refine ldPT (i' := i) (o.rd s) rfl (by omega) ?_
    have hx : l.getD i tPt.d = l[i] := getD_get hin
    have htk := take_succ_d hin
    rw [hx] at htk ⊢
    have hfd := find_take (p := fun x : Pt => decide (x1 ≤ x.1 ∧ y1 ≤ x.2.1 ∧ x.2.1 ≤ y2)) hin hall
    generalize l[i] = x at *
    refine s.new (cs := [_, _, _]) fun b h7 _ s => s.wr3 fun h10 s => ⟨_, s.ld0, ?_⟩
    have no : ¬ (x1 ≤ x.1 ∧ y1 ≤ x.2.1 ∧ x.2.1 ≤ y2) → rangetree_Tree_Leftmost_b2 x1 y1 y2 (some ⟨b1, 0, none⟩) q ps.length d (ps.length : Int) (i : Int) h10 (fun z h' => (∃ i : Nat, z.1 = i ∧ i ≤ ps.length ∧ (∀ x ∈ l.take i, decide (x1 ≤ x.1 ∧ y1 ≤ x.2.1 ∧ x.2.1 ≤ y2) = false) ∧ St h0 h' (A' + (cA b1 [.int .i64 0, .int .i64 0, .int .i64 0] 33 + (A + F)))) ∧ ((ps.length : Int) - z.1).toNat < ((ps.length : Int) - (i : Int)).toNat) (fun v h' => St h0 h' (A + F) ∧ ∃ l, l.Perm (ptsOf ps) ∧ PtsS l ∧ v = match l.find? (fun p => decide (x1 ≤ p.1 ∧ y1 ≤ p.2.1 ∧ p.2.1 ≤ y2)) with | some p => .tuple #[encPt p, .int .i64 0] | none => .tuple #[encPt (0, 0, 0), .int .i64 12]) := fun hno => by
      rw [rangetree_Tree_Leftmost_b2_eq]
      refine ⟨⟨by omega, by omega⟩, ⟨i + 1, by push_cast; rfl, by omega, fun y hy => ?_, s.drop⟩, by dsimp only; omega⟩
      rw [htk] at hy
      rcases List.mem_append.1 hy with hy | hy
      · exact hall y hy
      · rw [List.mem_singleton.1 hy]; exact decide_eq_false hno
    refine condP (fun g1 => ⟨_, s.ldB, condP (fun g2 => ⟨_, s.ldB, condP (fun g3 => ?_) (fun g => no (by omega))⟩) (fun g => no (by omega))⟩) (fun g => no (by omega))
    refine ⟨_, _, _, s.ld0, s.ldB, s.ldB, (s.find b1).wr3 fun h13 s => ⟨_, _, _, s.ld0, s.ldB, s.ldB, ?_⟩⟩
    refine ⟨(s.to (B := (cA b1 [.int .i64 x.1, .int .i64 x.2.1, .int .i64 x.2.2] 33 + (cA b [.int .i64 x.1, .int .i64 x.2.1, .int .i64 x.2.2] 33 + A')) + (A + F))).drop, l, hp, hs, ?_⟩
    rw [hfd (decide_eq_true ⟨g1, g2, g3⟩)]
  · obtain rfl : i = ps.length := by omega
    rw [List.take_of_length_le (by omega)] at hall
    rw [rangetree_Tree_Leftmost_b3_eq]
    refine (s.find b1).wr3 fun h13 s => ⟨_, _, _, s.ld0, s.ldB, s.ldB, ?_⟩
    refine ⟨(s.to (B := (cA b1 [.int .i64 0, .int .i64 0, .int .i64 0] 33 + A') + (A + F))).drop, l, hp, hs, ?_⟩
    rw [List.find?_eq_none.2 fun x hx => by rw [hall x hx]; simp]
end
end Go.Proofs.Ytbfejfejahoblaa

/- The tree: Make, Add, Remove. -/
set_option maxRecDepth 100000
namespace Go.Proofs.Ytbfejfejahoblaa
open Go Go.Sx
theorem Make_ok {h : Hp} {p : Option Addr} {n c : Nat} {l : List Pt} (r : RdT tPt h p n l) (hn : n ≤ 4000) :
    HCalls Try.prog 10 #[.slice p n c] h (fun v h' => if l.any (fun x => !vPt x) = true then v = .tuple #[.pointer none, .int .i64 1] ∧ Ext h h' else
      if ¬ (l.map place).Nodup then v = .tuple #[.pointer none, .int .i64 10] ∧ Ext h h' else if 1000 < n then v = .tuple #[.pointer none, .int .i64 4] ∧ Ext h h' else
      ∃ tb A own, v = .tuple #[ptr tb, .int .i64 0] ∧ TreeA tb (l.map kvOf) (if n = 0 then [] else [own]) [] n A ∧ own.Perm l ∧ St h h' A) := by
  have hll := r.len
  refine rangetree_Make_call ?_
  rw [rangetree_Make_b0_eq]
  refine (ContainsF (validN h) (St.start h).to r (by omega)).mono fun v h1 ⟨x1, hv⟩ => ⟨_, hv, cond_intro (fun hc => ?_) (fun hc => ?_)⟩
  · rw [if_pos hc]; exact ⟨rfl, x1⟩
  simp only [if_neg (show ¬ l.any (fun x => !vPt x) = true by rw [hc]; simp)]
  have s := (St.start h).grow x1
  refine s.newMap MPl fun m h2 Am _ hm s => s.new (cs := [_, _, _, _, _]) fun tb h3 _ s => ?_
  refine ⟨fun q h' => ∃ (i : Nat) (ps : PS) (Am : Bag), q.1 = i ∧ i ≤ n ∧ MI (l.take i) ps ∧ MapA MPl m ps Am ∧ St h h' (Am + (cA tb [.map (some m), .slice none 0 0, .slice none 0 0, .int .i64 0, .int .i64 0] 68 + 0)), fun q _ => (n - q.1).toNat, ⟨0, [], Am, rfl, Nat.zero_le _, .inl ⟨by simp, rfl⟩, hm, s.to⟩, ?_⟩
  clear s hm
  rintro ⟨_, _⟩ h4 ⟨i, ps, Am, rfl, hi, mi, hm, s⟩
  dsimp only
  rw [rangetree_Make_b1_eq]
  refine condP (fun hlt => ?_) (fun hge => ?_)
  · have hin : i < l.length := by omega
    refine ldPT (i' := i) (r.ext s.ext) rfl (by omega) ?_
    have htk := take_succ_d hin
    generalize l.getD i tPt.d = x at *
    refine s.new (cs := [_, _, _]) fun b h5 _ s => s.wr3 fun h8 s => ⟨_, s.ld0, _, s.ld0, _, s.ldB, _, s.ldB, ?_⟩
    refine hm.set mapOk_pl (k := place x) (v := x.2.2) (s.at Am) rfl fun h9 A9 m9 s => ?_
    rw [rangetree_Make_b2_eq]
    refine ⟨⟨by omega, by omega⟩, ⟨i + 1, _, A9, by push_cast; rfl, by omega, by rw [htk]; exact MI_step mi x, m9, (s.to (B := cA b [.int .i64 x.1, .int .i64 x.2.1, .int .i64 x.2.2] 33 + (A9 + (cA tb [.map (some m), .slice none 0 0, .slice none 0 0, .int .i64 0, .int .i64 0] 68 + 0)))).drop⟩, by dsimp only; omega⟩
  obtain rfl : i = n := by omega
  rw [List.take_of_length_le (by omega)] at mi
  rw [rangetree_Make_b3_eq]
  refine ⟨_, s.ld0, hm.len s ?_⟩
  rcases mi with ⟨hnd, rfl⟩ | ⟨hnd, hlen⟩
  · simp only [if_neg (show ¬ ¬ (l.map place).Nodup from fun h => h hnd)]
    rw [List.length_map]
    refine condP (fun h => by omega) (fun _ => condP (fun hb => ?_) (fun hb => ?_))
    · rw [if_pos (by omega)]; exact ⟨by trivial, s.ext⟩
    simp only [if_neg (show ¬ 1000 < i by omega)]
    rw [rangetree_Make_b4_eq]
    have a' : TreeA tb (l.map kvOf) [] [] 0 (cA tb [.map (some m), .slice none 0 0, .slice none 0 0, .int .i64 0, .int .i64 0] 68 + (Am + (0 + (0 + 0)))) := ⟨m, none, none, 0, 0, [], Am, 0, 0, 0, hm, Sl.nil, rfl, Sl.nil, rfl⟩
    have hw : WOk (ptsOf (l.map kvOf)) := fun x hx => by
      rw [ptsOf_kv] at hx
      have := List.any_eq_false.1 hc x hx
      have h2 : vPt x = true := by simpa using this
      exact (vPt_iff.1 h2).2.2
    refine (renew_ok a' (s.to (B := cA tb [.map (some m), .slice none 0 0, .slice none 0 0, .int .i64 0, .int .i64 0] 68 + (Am + (0 + (0 + 0))) + 0)) (by rw [List.length_map]; omega) hw ⟨by omega, by omega⟩).mono fun v h9 ⟨hv, own, A', hp, ta, s⟩ => ⟨hv, tb, A', own, rfl, ?_, by rw [ptsOf_kv] at hp; exact hp, s.to⟩
    rw [List.length_map, hll, Int.zero_add] at ta
    exact ta
  · simp only [if_pos hnd]
    exact condYes (decide_eq_true (by omega)) ⟨by trivial, s.ext⟩
/-! ### merging -/
def mrgP : List (List Pt) → List Pt → List (List Pt) × List Pt
  | [], l => ([], l)
  | P :: R, l => if P.length ≤ l.length then mrgP R (l ++ P) else (P :: R, l)
theorem mrgP_perm : ∀ (R : List (List Pt)) (l : List Pt), ((mrgP R l).1.reverse.flatten ++ (mrgP R l).2).Perm (R.reverse.flatten ++ l)
  | [], l => .refl _
  | P :: R, l => by
    unfold mrgP
    by_cases h : P.length ≤ l.length
    · rw [if_pos h]
      refine (mrgP_perm R (l ++ P)).trans ?_
      rw [List.reverse_cons, List.flatten_append, List.append_assoc]
      refine List.Perm.append_left _ ?_
      simpa using List.perm_append_comm
    · rw [if_neg h]
theorem mrgP_ne : ∀ (R : List (List Pt)) (l : List Pt), (∀ P ∈ R, P ≠ []) → l ≠ [] → (∀ P ∈ (mrgP R l).1, P ≠ []) ∧ (mrgP R l).2 ≠ []
  | [], l, _, hl => ⟨fun P hP => (by cases hP), hl⟩
  | P :: R, l, h, hl => by
    unfold mrgP
    by_cases hc : P.length ≤ l.length
    · rw [if_pos hc]
      exact mrgP_ne R (l ++ P) (fun Q hQ => h Q (List.mem_cons_of_mem _ hQ)) (by simp [hl])
    · rw [if_neg hc]; exact ⟨h, hl⟩
theorem mrgP_size : ∀ (R : List (List Pt)) (l : List Pt), (mrgP R l).2.length :: (mrgP R l).1.map List.length = mrgR (R.map List.length) l.length
  | [], l => rfl
  | P :: R, l => by
    unfold mrgP
    rw [List.map_cons]
    unfold mrgR
    by_cases h : P.length ≤ l.length
    · rw [if_pos h, if_pos h, mrgP_size R (l ++ P), List.length_append]
    · rw [if_neg h, if_neg h]; rfl
theorem allH_snoc {α : Type} {Q : Nat → α → Bag → Prop} {bs : List Nat} {ts : List α} {t : α} {A : Bag} (h : AllH Q bs (ts ++ [t]) A) : ∃ bs0 b A1 A2, bs = bs0 ++ [b] ∧ A = A1 + A2 ∧ AllH Q bs0 ts A1 ∧ Q b t A2 := by
  have hl := h.len
  rw [List.length_append, List.length_singleton] at hl
  have e : bs = bs.take ts.length ++ [bs.getD ts.length 0] := by
    rw [getD_get (show ts.length < bs.length by omega)]
    have := List.take_succ_eq_append_getElem (show ts.length < bs.length by omega)
    rw [List.take_of_length_le (by omega)] at this
    exact this
  rw [e] at h
  obtain ⟨A1, A2, hA, h1, h2⟩ := h.split _ _ (by rw [List.length_take]; omega)
  obtain ⟨B1, B2, hB, h3, h4⟩ := h2
  have h4 : B2 = 0 := h4
  subst h4
  exact ⟨_, _, A1, B1, e, by rw [hA, hB, Bag.add_zero], h1, h3⟩
section
variable {h0 h : Hp} {tb : Nat} {ps : PS} {parts : List (List Pt)} {rem : List Pt} {built : Int} {A F : Bag}
theorem Add_ok (a : TreeA tb ps parts rem built A) (s : St h0 h (A + F)) (ri : RI ps parts rem) (hb : 0 ≤ built ∧ built ≤ 100000000) (x : Pt) :
    HCalls Try.prog 14 #[ptr tb, encPt x] h (fun v h' => if vPt x = false then v = .int .i64 1 ∧ St h0 h' (A + F) else if lkp ps (place x) ≠ none then v = .int .i64 15 ∧ St h0 h' (A + F) else if 1000 ≤ ps.length then v = .int .i64 4 ∧ St h0 h' (A + F) else
      v = .int .i64 0 ∧ ∃ own A', TreeA tb (ps ++ [kvOf x]) ((mrgP parts.reverse [x]).1.reverse ++ [own]) rem (built + ((mrgP parts.reverse [x]).2.length : Nat)) A' ∧ own.Perm (mrgP parts.reverse [x]).2 ∧ St h0 h' (A' + F)) := by
  obtain ⟨hb1, hb2⟩ := ri.bound
  have hst := ri.stored
  refine rangetree_Tree_Add_call ?_
  rw [rangetree_Tree_Add_b0_eq]
  refine s.new (cs := [_, _, _]) fun b1 h1 _ s => condNo rfl ⟨_, _, _, s.ld0, s.ldB, s.ldB, ?_⟩
  refine (valid_ok x h1).mono fun v h2 ⟨x2, hv⟩ => ⟨_, hv, cond_intro (fun hc => ?_) (fun hc => ?_)⟩
  · have hc : vPt x = false := by simpa using hc
    rw [if_pos hc]
    exact ⟨rfl, (s.grow x2).drop⟩
  have hc : vPt x = true := by simpa using hc
  simp only [if_neg (show ¬ vPt x = false by rw [hc]; simp)]
  have s := s.grow x2
  obtain ⟨m, pp, rp, pc, rc, bs, Am, Ap, L, Ar, hm, o1, hL, o2, rfl⟩ := a
  have s := s.to (B := cA b1 [.int .i64 x.1, .int .i64 x.2.1, .int .i64 x.2.2] 33 + (cA tb [.map (some m), .slice pp parts.length pc, .slice rp rem.length rc, .int .i64 (storedOf parts : Nat), .int .i64 built] 68 + (Am + (Ap + (L + (Ar + F))))))
  rw [rangetree_Tree_Add_b1_eq]
  refine ⟨_, s.ld0, _, s.ldB, s.new (cs := [_, _]) fun b2 h3 _ s => s.wr2c fun h5 s => ⟨_, s.ld0, _, _, s.ld0, s.ldB, ?_⟩⟩
  refine hm.look mapOk_pl (k := place x) (s.at Am) fun v b hvb => ?_
  rcases hvb with ⟨hk, rfl, rfl⟩ | ⟨w, hk, rfl, rfl⟩
  rotate_left
  · simp only [if_pos (show lkp ps (place x) ≠ none by rw [hk]; simp)]
    refine ⟨w, true, rfl, condYes rfl ⟨by trivial, ?_⟩⟩
    exact (s.to (B := (cA b2 [.int .i64 x.1, .int .i64 x.2.1] 70 + cA b1 [.int .i64 x.1, .int .i64 x.2.1, .int .i64 x.2.2] 33) + (cA tb [.map (some m), .slice pp parts.length pc, .slice rp rem.length rc, .int .i64 (storedOf parts : Nat), .int .i64 built] 68 + (Am + (Ap + (L + Ar))) + F))).drop
  simp only [if_neg (show ¬ lkp ps (place x) ≠ none from fun h => h hk)]
  refine ⟨0, false, rfl, condNo rfl ⟨_, (s.find tb).ld0, hm.len (s.at Am) (condP (fun hfull => ?_) (fun hroom => ?_))⟩⟩
  · simp only [if_pos (show 1000 ≤ ps.length by omega)]
    exact ⟨by trivial, (s.to (B := (cA b2 [.int .i64 x.1, .int .i64 x.2.1] 70 + cA b1 [.int .i64 x.1, .int .i64 x.2.1, .int .i64 x.2.2] 33) + (cA tb [.map (some m), .slice pp parts.length pc, .slice rp rem.length rc, .int .i64 (storedOf parts : Nat), .int .i64 built] 68 + (Am + (Ap + (L + Ar))) + F))).drop⟩
  simp only [if_neg (show ¬ 1000 ≤ ps.length by omega)]
  refine ⟨_, (s.find tb).ld0, _, _, s.ld0, s.ldB, _, (s.find b1).ldB, ?_⟩
  refine hm.set mapOk_pl (k := place x) (v := x.2.2) (s.at Am) rfl fun h6 Am hm s => ?_
  rw [setk_new hk] at hm
  refine ⟨_, _, _, (s.find b1).ld0, (s.find b1).ldB, (s.find b1).ldB, s.new (cs := [_, _, _]) fun b3 h7 _ s => ⟨_, _, _, (s.find tb).ldB, ?_⟩⟩
  have o3 : Sl tPt (some ⟨b3, 0, none⟩) 1 1 [x] (cA b3 [.int .i64 x.1, .int .i64 x.2.1, .int .i64 x.2.2] 33) := Sl.one rfl
  have s := (s.to (B := (cA b2 [.int .i64 x.1, .int .i64 x.2.1] 70 + cA b1 [.int .i64 x.1, .int .i64 x.2.1, .int .i64 x.2.2] 33) + (cA b3 [.int .i64 x.1, .int .i64 x.2.1, .int .i64 x.2.2] 33 + (cA tb [.map (some m), .slice pp parts.length pc, .slice rp rem.length rc, .int .i64 (storedOf parts : Nat), .int .i64 built] 68 + (Am + (Ap + (L + Ar))) + F)))).drop
  have a' : TreeA tb (ps ++ [(place x, x.2.2)]) parts rem built (cA tb [.map (some m), .slice pp parts.length pc, .slice rp rem.length rc, .int .i64 (storedOf parts : Nat), .int .i64 built] 68 + (Am + (Ap + (L + Ar)))) := ⟨m, pp, rp, pc, rc, bs, Am, Ap, L, Ar, hm, o1, hL, o2, rfl⟩
  generalize cA tb [.map (some m), .slice pp parts.length pc, .slice rp rem.length rc, .int .i64 (storedOf parts : Nat), .int .i64 built] 68 + (Am + (Ap + (L + Ar))) = A at *
  generalize cA b3 [.int .i64 x.1, .int .i64 x.2.1, .int .i64 x.2.2] 33 = B3 at *
  clear hm o1 hL o2
  refine ⟨fun q h' => ∃ (Q : List (List Pt)) (lst : List Pt) (Al A : Bag), q.2.1 = (Q.length : Nat) ∧ Sl tPt q.1.1 q.1.2.1 q.1.2.2 lst Al ∧ TreeA tb (ps ++ [(place x, x.2.2)]) Q rem built A ∧ mrgP Q.reverse lst = mrgP parts.reverse [x] ∧ (Q.flatten ++ lst).Perm (parts.flatten ++ [x]) ∧ (∀ P ∈ Q, P ≠ []) ∧ St h0 h' (Al + (A + F)), fun q _ => q.2.1.toNat, ⟨parts, [x], B3, A, rfl, o3, a', rfl, .refl _, ri.ne, s⟩, ?_⟩
  clear s o3 a'
  rintro ⟨⟨q, lL, lC⟩, _, _⟩ h8 ⟨Q, lst, Al, A, rfl, ol, a, hmr, hpm, hne, s⟩
  dsimp only at *
  have hll := ol.len
  have hql := parts_len hne
  have hsum : storedOf Q + lst.length = storedOf parts + 1 := by
    have := hpm.length_eq
    rw [List.length_append, List.length_append, storedOf_flat, storedOf_flat] at this
    exact this
  have hval : ∀ y ∈ Q.flatten ++ lst, vPt y = true := fun y hy => by
    rcases List.mem_append.1 (hpm.mem_iff.1 hy) with h | h
    · exact ri.val y h
    · rw [List.mem_singleton.1 h]; exact hc
  have fin : mrgP Q.reverse lst = (Q.reverse, lst) → ∀ {nx}, rangetree_Tree_Add_b4 (some ⟨tb, 0, none⟩) q lL lC h8 nx = rangetree_Tree_Add_b4 (some ⟨tb, 0, none⟩) q lL lC h8 nx := fun _ _ => rfl
  have done : mrgP Q.reverse lst = (Q.reverse, lst) → rangetree_Tree_Add_b4 (some ⟨tb, 0, none⟩) q lL lC h8 (fun v h' => v = .int .i64 0 ∧ ∃ own A', TreeA tb (ps ++ [kvOf x]) ((mrgP parts.reverse [x]).1.reverse ++ [own]) rem (built + ((mrgP parts.reverse [x]).2.length : Nat)) A' ∧ own.Perm (mrgP parts.reverse [x]).2 ∧ St h0 h' (A' + F)) := fun hm => by
    rw [rangetree_Tree_Add_b4_eq]
    refine (put_ok a (s.to (B := A + (Al + F))) (ol.rd s) (by omega) (fun y hy => (vPt_iff.1 (hval y (List.mem_append.2 (.inr hy)))).2.2) (by omega) (by omega) ⟨by omega, by omega⟩).mono fun v h9 ⟨hv, own, A', hp, ta, s⟩ => ⟨hv, rfl, own, A', ?_, ?_, (s.to (B := Al + (A' + F))).drop⟩
    · rw [← hmr, hm, List.reverse_reverse, hll]; exact ta
    · rw [← hmr, hm]; exact hp
  rw [rangetree_Tree_Add_b2_eq]
  refine condP (fun hpos => ?_) (fun hz => ?_)
  rotate_left
  · have : Q = [] := List.eq_nil_of_length_eq_zero (by omega)
    subst this
    exact done rfl
  obtain ⟨T0, P, rfl⟩ : ∃ T0 P, Q = T0 ++ [P] := by
    rcases List.eq_nil_or_concat Q with h | ⟨T, P, h⟩
    · subst h; simp at hpos
    · exact ⟨T, P, by rw [h]; simp⟩
  have hlen : (T0 ++ [P]).length = T0.length + 1 := by simp
  obtain ⟨m, pp, rp, pc, rc, bs, Am, Ap, L, Ar, hm, o1, hL, o2, rfl⟩ := a
  obtain ⟨bs0, b, L1, L2, rfl, rfl, hL1, pa⟩ := allH_snoc hL
  have hb0 := hL1.len
  have gb : (bs0 ++ [b]).getD T0.length 0 = b := by rw [← hb0]; simp [List.getD]
  obtain ⟨kp, kc, rb, K0, KL, ok, lay, rfl, hpw⟩ := pa
  have s := s.to (B := cA tb [.map (some m), .slice pp (T0 ++ [P]).length pc, .slice rp rem.length rc, .int .i64 (storedOf (T0 ++ [P]) : Nat), .int .i64 built] 68 + (Ap + (cA b [.slice kp P.length kc, ptr rb] 74 + (K0 + (Al + (KL + (Am + (L1 + (Ar + F)))))))))
  have en : Int.toNat (((T0 ++ [P]).length : Nat) - 1 : Int) = T0.length := by omega
  have gb2 : (bs0 ++ [b]).getD (Int.toNat (((T0 ++ [P]).length : Nat) - 1 : Int)) 0 = b := by rw [en]; exact gb
  have est : storedOf (T0 ++ [P]) = storedOf T0 + P.length := by rw [storedOf_app]; simp [storedOf]
  refine ⟨_, _, _, s.ldB, ⟨by omega, by omega⟩, (o1.rd (s.at Ap)).ptr (by omega) (by omega) ?_⟩
  rw [gb2]
  refine ⟨_, _, _, (s.find b).ld0, condP (fun hle => ?_) (fun hgt => done ?_)⟩
  · rw [rangetree_Tree_Add_b3_eq]
    refine ⟨_, _, _, s.ldB, ⟨by omega, by omega⟩, (o1.rd (s.at Ap)).ptr (by omega) (by omega) ?_⟩
    rw [gb2]
    refine ⟨_, _, _, (s.find b).ld0, ?_⟩
    refine append_sl ok_pts (s.at Al) ol (ok.rd (s.at K0)) (by omega) fun p' c' h9 Al' ol' s => ?_
    refine ⟨_, s.ldB, ?_⟩
    refine ⟨_, _, _, s.ldB, ⟨by omega, by omega⟩, ?_⟩
    refine (o1.rd (s.at Ap)).ptr (by omega) (by omega) ?_
    rw [gb2]
    refine ⟨_, _, _, (s.find b).ld0, ⟨by omega, by omega⟩, s.wrB fun h10 s => ⟨_, _, _, s.ldB, ⟨by omega, by omega⟩, ⟨by omega, by omega, by have := o1.cap; omega⟩, s.wrB fun h11 s => ?_⟩⟩
    rw [rangetree_Tree_Add_b5_eq]
    refine ⟨⟨by omega, by omega⟩, ⟨T0, lst ++ P, Al', cA tb [.map (some m), .slice pp T0.length pc, .slice rp rem.length rc, .int .i64 (storedOf T0 : Nat), .int .i64 built] 68 + (Am + (Ap + (L1 + Ar))), by dsimp only; omega, ol', ⟨m, pp, rp, pc, rc, bs0, Am, Ap, L1, Ar, hm, ?_, hL1, o2, rfl⟩, ?_, ?_, fun P hP => hne P (by simp [hP]), ?_⟩, by dsimp only; omega⟩
    · have := o1.take (i := T0.length) (by omega)
      rw [← hb0, List.take_left] at this
      rw [← hb0]; exact this
    · rw [← hmr, List.reverse_append]
      show _ = mrgP (P :: T0.reverse) lst
      rw [mrgP, if_pos (by omega)]
    · refine List.Perm.trans ?_ hpm
      rw [List.flatten_append, List.append_assoc]
      refine List.Perm.append_left _ ?_
      simpa using List.perm_append_comm
    · have e1 : (.int .i64 (((storedOf (T0 ++ [P]) : Nat) : Int) - (P.length : Int)) : Value) = .int .i64 ((storedOf T0 : Nat) : Int) := by rw [est]; congr 1; omega
      have e2 : (.slice (subAddr pp pc (Int.toNat (0 : Int)) 1) (Int.toNat (((T0 ++ [P]).length : Nat) - 1 : Int) - Int.toNat (0 : Int)) (pc - Int.toNat (0 : Int)) : Value) = .slice pp T0.length pc := by
        rw [en, show Int.toNat (0 : Int) = 0 from rfl, subAddr_z, Nat.sub_zero, Nat.sub_zero]
      have s := s.to (B := (cA b [.slice kp P.length kc, ptr rb] 74 + (K0 + KL)) + (Al' + (cA tb [.map (some m), .slice (subAddr pp pc (Int.toNat (0 : Int)) 1) (Int.toNat (((T0 ++ [P]).length : Nat) - 1 : Int) - Int.toNat (0 : Int)) (pc - Int.toNat (0 : Int)), .slice rp rem.length rc, .int .i64 (((storedOf (T0 ++ [P]) : Nat) : Int) - (P.length : Int)), .int .i64 built] 68 + (Am + (Ap + (L1 + Ar))) + F)))
      rw [e1, e2] at s
      exact s.drop
  · rw [List.reverse_append]
    show mrgP (P :: T0.reverse) lst = _
    rw [mrgP, if_neg (by omega)]
    rfl
theorem Remove_ok (a : TreeA tb ps parts rem built A) (s : St h0 h (A + F)) (ri : RI ps parts rem) (hb : 0 ≤ built ∧ built ≤ 100000000) (x y : Int) :
    HCalls Try.prog 13 #[ptr tb, .int .i64 x, .int .i64 y] h (fun v h' => (lkp ps (x, y) = none ∧ v = .int .i64 12 ∧ h' = h) ∨ ∃ w A', lkp ps (x, y) = some w ∧ v = .int .i64 0 ∧ St h0 h' (A' + F) ∧
      ((2 * (rem.length + 1) < storedOf parts ∧ TreeA tb (delk ps (x, y)) parts (rem ++ [(x, y, w)]) built A') ∨ (storedOf parts ≤ 2 * (rem.length + 1) ∧ ∃ own, own.Perm (ptsOf (delk ps (x, y))) ∧ TreeA tb (delk ps (x, y)) (if (delk ps (x, y)).length = 0 then [] else [own]) [] (built + (delk ps (x, y)).length) A'))) := by
  obtain ⟨hb1, hb2⟩ := ri.bound
  have hst := ri.stored
  have hwp := ri.wps
  obtain ⟨m, pp, rp, pc, rc, bs, Am, Ap, L, Ar, hm, o1, hL, o2, rfl⟩ := a
  have s := s.to (B := cA tb [.map (some m), .slice pp parts.length pc, .slice rp rem.length rc, .int .i64 (storedOf parts : Nat), .int .i64 built] 68 + (Am + (Ap + (L + (Ar + F)))))
  refine rangetree_Tree_Remove_call ?_
  rw [rangetree_Tree_Remove_b0_eq]
  refine condNo rfl ⟨_, s.ld0, hm.look mapOk_pl (k := (x, y)) (s.at Am) fun v b hvb => ?_⟩
  rcases hvb with ⟨hk, rfl, rfl⟩ | ⟨w, hk, rfl, rfl⟩
  · exact ⟨0, false, rfl, condYes rfl (.inl ⟨hk, rfl, rfl⟩)⟩
  refine ⟨w, true, rfl, condNo rfl ⟨_, s.ld0, hm.del mapOk_pl (k := (x, y)) (s.at Am) fun h1 Am hm s => ⟨_, _, _, s.ldB, ?_⟩⟩⟩
  have hdl := delk_len hk
  refine push_sl (cs := [_, _, _]) ok_pts (s.at Ar) o2 (x := (x, y, w)) rfl rfl (by omega) fun p' c' h3 Ar o2 s => ?_
  refine s.wrB fun h4 s => ⟨_, _, _, s.ldB, ⟨by omega, by omega⟩, _, s.ldB, ?_⟩
  have hl1 : (rem ++ [(x, y, w)]).length = rem.length + 1 := by simp
  have a' : TreeA tb (delk ps (x, y)) parts (rem ++ [(x, y, w)]) built (cA tb [.map (some m), .slice pp parts.length pc, .slice p' (rem ++ [(x, y, w)]).length c', .int .i64 (storedOf parts : Nat), .int .i64 built] 68 + (Am + (Ap + (L + Ar)))) := ⟨m, pp, p', pc, c', bs, Am, Ap, L, Ar, hm, o1, hL, by rw [hl1]; exact o2, rfl⟩
  have s : St h0 h4 (cA tb [.map (some m), .slice pp parts.length pc, .slice p' (rem ++ [(x, y, w)]).length c', .int .i64 (storedOf parts : Nat), .int .i64 built] 68 + (Am + (Ap + (L + Ar))) + F) := by
    rw [hl1]; exact s.to
  refine condP (fun hle => ?_) (fun hgt => ?_)
  · refine (renew_ok a' s (by omega) (fun z hz => hwp z ?_) ⟨by omega, by omega⟩).mono fun v h5 ⟨hv, own, A', hp, ta, s⟩ => ⟨hv, ?_⟩
    · unfold ptsOf at hz ⊢
      obtain ⟨e, he, rfl⟩ := List.mem_map.1 hz
      exact List.mem_map.2 ⟨e, delk_sub.subset he, rfl⟩
    · rw [rangetree_Tree_Remove_b1_eq]
      exact .inr ⟨w, A', hk, rfl, s, .inr ⟨by omega, own, hp, ta⟩⟩
  · rw [rangetree_Tree_Remove_b1_eq]
    exact .inr ⟨w, _, hk, rfl, s, .inl ⟨by omega, a'⟩⟩
end
end Go.Proofs.Ytbfejfejahoblaa

/- The tree as a set of points. -/
set_option maxRecDepth 100000
namespace Go.Proofs.Ytbfejfejahoblaa
open Go Go.Sx
/-! ### plain -/
def insPt (p : Pt) (l : List Pt) : List Pt := l.takeWhile (fun q => decide (ptLt q p)) ++ p :: l.dropWhile (fun q => decide (ptLt q p))
theorem insPt_perm (p : Pt) (l : List Pt) : (insPt p l).Perm (p :: l) := by
  unfold insPt
  refine List.perm_middle.trans ?_
  rw [List.takeWhile_append_dropWhile]
theorem mem_place {l : List Pt} {k : Int × Int} : k ∈ l.map place ↔ ∃ p ∈ l, place p = k := List.mem_map
theorem insPt_S {p : Pt} {l : List Pt} (hs : PtsS l) (hp : place p ∉ l.map place) : PtsS (insPt p l) := by
  unfold insPt PtsS
  have e := List.takeWhile_append_dropWhile (p := fun q => decide (ptLt q p)) (l := l)
  have hs' := hs
  unfold PtsS at hs
  rw [← e, List.pairwise_append] at hs
  have h1 : ∀ q ∈ l.takeWhile (fun q => decide (ptLt q p)), ptLt q p := fun q hq => by
    have := List.all_eq_true.1 (List.all_takeWhile (p := fun q => decide (ptLt q p)) (l := l)) q hq
    simpa using this
  have h2 : ∀ q ∈ l.dropWhile (fun q => decide (ptLt q p)), ptLt p q := by
    cases hd : l.dropWhile (fun q => decide (ptLt q p)) with
    | nil => intro q hq; cases hq
    | cons z t =>
      have hz : ¬ ptLt z p := by
        have := List.head_dropWhile_not (p := fun q => decide (ptLt q p)) (l := l) (by rw [hd]; simp)
        simp only [hd, List.head_cons] at this
        simpa using this
      have hzl : z ∈ l := by rw [← e, hd]; simp
      have hne : place z ≠ place p := fun h => hp (mem_place.2 ⟨z, hzl, h⟩)
      have hpz : ptLt p z := by
        unfold place at hne
        simp only [ne_eq, Prod.mk.injEq] at hne
        unfold ptLt at *
        omega
      intro q hq
      rcases List.mem_cons.1 hq with rfl | hq
      · exact hpz
      · have := hs.2.1
        rw [hd, List.pairwise_cons] at this
        exact ptLt_trans hpz (this.1 q hq)
  rw [List.pairwise_append, List.pairwise_cons]
  refine ⟨hs.1, ⟨h2, hs.2.1⟩, fun a ha b hb => ?_⟩
  rcases List.mem_cons.1 hb with rfl | hb
  · exact h1 a ha
  · exact hs.2.2 a ha b hb
def madeL (l : List Pt) : List Pt := l.foldl (fun a p => insPt p a) []
theorem madeL_snoc (l : List Pt) (p : Pt) : madeL (l ++ [p]) = insPt p (madeL l) := by unfold madeL; rw [List.foldl_append]; rfl
theorem list_rev_ind {α : Type} {P : List α → Prop} (h0 : P []) (h1 : ∀ l a, P l → P (l ++ [a])) (l : List α) : P l := by
  rw [← List.reverse_reverse l]
  induction l.reverse with
  | nil => exact h0
  | cons a t ih => rw [List.reverse_cons]; exact h1 _ _ ih
theorem madeL_perm (l : List Pt) : (madeL l).Perm l := by
  induction l using list_rev_ind with
  | h0 => exact .refl _
  | h1 l p ih =>
    rw [madeL_snoc]
    refine (insPt_perm p _).trans ?_
    refine (List.Perm.cons p ih).trans ?_
    simpa using (List.perm_append_comm (l₁ := [p]) (l₂ := l))
theorem madeL_S {l : List Pt} (h : (l.map place).Nodup) : PtsS (madeL l) := by
  induction l using list_rev_ind with
  | h0 => exact List.Pairwise.nil
  | h1 l p ih =>
    rw [madeL_snoc]
    rw [List.map_append, List.nodup_append] at h
    refine insPt_S (ih h.1) fun hc => ?_
    have := ((madeL_perm l).map place).mem_iff.1 hc
    exact h.2.2 _ this _ (by simp) rfl
/-! ### the tree -/
def TreeS (tb : Nat) (l : List Pt) (n u built : Nat) (A : Bag) : Prop := ∃ (ps : PS) (parts : List (List Pt)) (rem : List Pt), TreeA tb ps parts rem (built : Int) A ∧ RI ps parts rem ∧ l.Perm (ptsOf ps) ∧ PtsS l ∧ EffI n u rem.length built (parts.reverse.map List.length)
section
variable {h0 h : Hp} {tb n u built : Nat} {l : List Pt} {A F : Bag}
theorem TreeS.sorted (a : TreeS tb l n u built A) : PtsS l := by obtain ⟨_, _, _, _, _, _, hs, _⟩ := a; exact hs
theorem TreeS.len (a : TreeS tb l n u built A) : l.length ≤ 1000 := by
  obtain ⟨ps, _, _, _, ri, hp, _⟩ := a
  rw [hp.length_eq, ptsOf_len]; exact ri.len
theorem TreeS.val (a : TreeS tb l n u built A) : ∀ x ∈ l, vPt x = true := by
  obtain ⟨ps, parts, rem, _, ri, hp, _⟩ := a
  exact fun x hx => ri.val x (ri.perm.mem_iff.2 (List.mem_append.2 (.inl (hp.mem_iff.1 hx))))
theorem TreeS.small (a : TreeS tb l n u built A) (hn : n ≤ 2000) (hu : u ≤ 2000) : (0 : Int) ≤ built ∧ (built : Int) ≤ 100000000 := by
  obtain ⟨_, _, _, _, _, _, _, he⟩ := a
  have := eff_bound he (L := 11) (by omega)
  omega
theorem TreeS.more {u' : Nat} (a : TreeS tb l n u built A) (hu : u ≤ u') : TreeS tb l n u' built A := by
  obtain ⟨ps, parts, rem, h1, h2, h3, h4, he⟩ := a
  exact ⟨ps, parts, rem, h1, h2, h3, h4, eff_keep he hu⟩
theorem Make_s {h : Hp} {p : Option Addr} {n c : Nat} {l : List Pt} (r : RdT tPt h p n l) (hn : n ≤ 4000) :
    HCalls Try.prog 10 #[.slice p n c] h (fun v h' => if l.any (fun x => !vPt x) = true then v = .tuple #[.pointer none, .int .i64 1] ∧ Ext h h' else
      if ¬ (l.map place).Nodup then v = .tuple #[.pointer none, .int .i64 10] ∧ Ext h h' else if 1000 < n then v = .tuple #[.pointer none, .int .i64 4] ∧ Ext h h' else
      ∃ tb A, v = .tuple #[ptr tb, .int .i64 0] ∧ TreeS tb (madeL l) n 0 n A ∧ St h h' A) := by
  have hll := r.len
  refine (Make_ok r hn).mono fun v h' hv => ?_
  by_cases h1 : l.any (fun x => !vPt x) = true
  · rw [if_pos h1] at hv ⊢; exact hv
  rw [if_neg h1] at hv ⊢
  by_cases h2 : ¬ (l.map place).Nodup
  · rw [if_pos h2] at hv ⊢; exact hv
  rw [if_neg h2] at hv ⊢
  by_cases h3 : 1000 < n
  · rw [if_pos h3] at hv ⊢; exact hv
  rw [if_neg h3] at hv ⊢
  obtain ⟨tb, A, own, hv, ta, hp, st⟩ := hv
  have hnd : (l.map place).Nodup := Classical.not_not.1 h2
  have hpe := hp.length_eq
  refine ⟨tb, A, hv, ⟨l.map kvOf, _, [], ta, ?_, by rw [ptsOf_kv]; exact madeL_perm l, madeL_S hnd, ?_⟩, st⟩
  · by_cases hz : n = 0
    · rw [if_pos hz]
      have : l = [] := List.eq_nil_of_length_eq_zero (by omega)
      subst this
      exact ⟨.refl _, fun x hx => (by cases hx), fun P hP => (by cases hP), .inr rfl, by simp⟩
    · rw [if_neg hz]
      refine ⟨?_, fun x hx => ?_, fun P hP => ?_, .inl ?_, by rw [List.length_map]; omega⟩
      · rw [ptsOf_kv]; simpa using hp
      · have hx : x ∈ own := by simpa using hx
        have := List.any_eq_false.1 (Bool.not_eq_true _ ▸ h1) x (hp.mem_iff.1 hx)
        simpa using this
      · rw [List.mem_singleton.1 hP]
        intro e
        rw [e] at hpe
        simp at hpe
        omega
      · show 2 * 0 < _
        have : storedOf [own] = own.length := by simp [storedOf]
        omega
  · have := eff_make n
    by_cases hz : n = 0
    · rw [if_pos hz] at this ⊢; exact this
    · rw [if_neg hz] at this ⊢
      have e : [own].reverse.map List.length = [n] := by simp; omega
      rw [e]; exact this
theorem lkp_place {ps : PS} {l : List Pt} (hp : l.Perm (ptsOf ps)) (k : Int × Int) : lkp ps k = none ↔ k ∉ l.map place := by
  rw [lkp_none, (hp.map place).mem_iff, ptsOf_place]
theorem Add_s (a : TreeS tb l n u built A) (s : St h0 h (A + F)) (hn : n ≤ 2000) (hu : u ≤ 2000) (x : Pt) :
    HCalls Try.prog 14 #[ptr tb, encPt x] h (fun v h' => if vPt x = false then v = .int .i64 1 ∧ St h0 h' (A + F) else if place x ∈ l.map place then v = .int .i64 15 ∧ St h0 h' (A + F) else if 1000 ≤ l.length then v = .int .i64 4 ∧ St h0 h' (A + F) else
      v = .int .i64 0 ∧ ∃ b' A', built ≤ b' ∧ TreeS tb (insPt x l) n (u + 1) b' A' ∧ St h0 h' (A' + F)) := by
  have hsm := a.small hn hu
  obtain ⟨ps, parts, rem, ta, ri, hp, hs, he⟩ := a
  have hpl := hp.length_eq
  rw [ptsOf_len] at hpl
  refine (Add_ok ta s ri hsm x).mono fun v h' hv => ?_
  by_cases h1 : vPt x = false
  · rw [if_pos h1] at hv ⊢; exact hv
  rw [if_neg h1] at hv ⊢
  by_cases h2 : place x ∈ l.map place
  · rw [if_pos h2]
    rw [if_pos (fun hc => (lkp_place hp _).1 hc h2)] at hv
    exact hv
  rw [if_neg h2]
  have hk := (lkp_place hp (place x)).2 h2
  rw [if_neg (fun hc => hc hk)] at hv
  by_cases h3 : 1000 ≤ l.length
  · rw [if_pos h3]
    rw [if_pos (by omega)] at hv; exact hv
  rw [if_neg h3]
  rw [if_neg (by omega)] at hv
  obtain ⟨hv, own, A', ta', hpo, st⟩ := hv
  have hvx : vPt x = true := by simpa using h1
  have hpol := hpo.length_eq
  obtain ⟨n1, n2⟩ := mrgP_ne parts.reverse [x] (fun P hP => ri.ne P (List.mem_reverse.1 hP)) (by simp)
  have hmp := mrgP_perm parts.reverse [x]
  rw [List.reverse_reverse] at hmp
  have hfl : (((mrgP parts.reverse [x]).1.reverse ++ [own]).flatten).Perm (parts.flatten ++ [x]) := by
    rw [List.flatten_append]
    refine List.Perm.trans ?_ hmp
    refine List.Perm.append_left _ ?_
    simpa using hpo
  refine ⟨hv, built + (mrgP parts.reverse [x]).2.length, A', by omega, ⟨ps ++ [kvOf x], (mrgP parts.reverse [x]).1.reverse ++ [own], rem, ?_, ?_, ?_, insPt_S hs h2, ?_⟩, st⟩
  · push_cast; exact ta'
  · refine ⟨?_, fun y hy => ?_, fun P hP => ?_, ?_, by rw [List.length_append, List.length_singleton]; omega⟩
    · refine hfl.trans ?_
      unfold ptsOf
      rw [List.map_append, List.append_assoc]
      refine (List.Perm.append_right _ ri.perm).trans ?_
      rw [List.append_assoc]
      exact List.Perm.append_left _ List.perm_append_comm
    · rcases List.mem_append.1 (hfl.mem_iff.1 hy) with h | h
      · exact ri.val y h
      · rw [List.mem_singleton.1 h]; exact hvx
    · rcases List.mem_append.1 hP with h | h
      · exact n1 P (List.mem_reverse.1 h)
      · rw [List.mem_singleton.1 h]
        intro e
        rw [e] at hpol
        exact n2 (List.eq_nil_of_length_eq_zero hpol.symm)
    · refine .inl ?_
      have e := hfl.length_eq
      rw [storedOf_flat, List.length_append, storedOf_flat, List.length_singleton] at e
      have := ri.stored
      rcases ri.small with h | h
      · omega
      · have e0 : storedOf parts = 0 := by rw [h]; rfl
        omega
  · unfold ptsOf
    rw [List.map_append]
    refine (insPt_perm x l).trans ((List.Perm.cons x hp).trans ?_)
    exact (List.perm_append_comm (l₁ := [x]) (l₂ := ptsOf ps))
  · have e2 := mrgP_size parts.reverse [x]
    rw [List.length_singleton] at e2
    have e1 : ((mrgP parts.reverse [x]).1.reverse ++ [own]).reverse.map List.length = mrgR (parts.reverse.map List.length) 1 := by
      rw [← e2, List.reverse_append, List.reverse_reverse, List.map_append]
      simp [hpol]
    have h := eff_add he
    rw [← e2] at h
    rw [e1, ← e2]
    exact h
theorem ptsOf_delk {ps : PS} (hd : KD ps) (k : Int × Int) : ptsOf (delk ps k) = (ptsOf ps).filter fun p => decide (place p ≠ k) := by
  unfold ptsOf
  rw [delk_eq hd, List.filter_map]
  rfl
theorem pull_pt {ps : PS} {k : Int × Int} {w : Int} (h : lkp ps k = some w) : (ptsOf ps).Perm ((k.1, k.2, w) :: ptsOf (delk ps k)) := by
  induction ps with
  | nil => cases h
  | cons e r ih =>
    obtain ⟨a, v⟩ := e
    unfold lkp at h
    unfold delk
    by_cases hc : a = k
    · rw [if_pos hc] at h ⊢
      cases h
      subst hc
      exact .refl _
    · rw [if_neg hc] at h ⊢
      have := ih h
      show (ptOf (a, v) :: ptsOf r).Perm _
      refine (List.Perm.cons _ this).trans ?_
      exact List.Perm.swap _ _ _
theorem Remove_s (a : TreeS tb l n u built A) (s : St h0 h (A + F)) (hn : n ≤ 2000) (hu : u ≤ 2000) (x y : Int) :
    HCalls Try.prog 13 #[ptr tb, .int .i64 x, .int .i64 y] h (fun v h' => if (x, y) ∈ l.map place then v = .int .i64 0 ∧ ∃ b' A', built ≤ b' ∧ TreeS tb (l.filter fun p => decide (place p ≠ (x, y))) n (u + 1) b' A' ∧ St h0 h' (A' + F) else v = .int .i64 12 ∧ h' = h) := by
  have hsm := a.small hn hu
  obtain ⟨ps, parts, rem, ta, ri, hp, hs, he⟩ := a
  have hd := ta.kd
  refine (Remove_ok ta s ri hsm x y).mono fun v h' hv => ?_
  rcases hv with ⟨hk, hv, hh⟩ | ⟨w, A', hk, hv, st, hc⟩
  · rw [if_neg ((lkp_place hp _).1 hk)]
    exact ⟨hv, hh⟩
  rw [if_pos (Classical.byContradiction fun hc => by rw [(lkp_place hp (x, y)).2 hc] at hk; cases hk)]
  have hpd : (l.filter fun p => decide (place p ≠ (x, y))).Perm (ptsOf (delk ps (x, y))) := by
    rw [ptsOf_delk hd]
    exact hp.filter _
  have hsd : PtsS (l.filter fun p => decide (place p ≠ (x, y))) := List.Pairwise.filter _ hs
  have hdl := delk_len hk
  have hpull := pull_pt hk
  have hst := ri.stored
  have hlen := ri.len
  refine ⟨hv, ?_⟩
  rcases hc with ⟨hlt, ta'⟩ | ⟨hge, own, hpo, ta'⟩
  · refine ⟨built, A', Nat.le_refl _, ⟨_, _, _, ta', ⟨?_, ri.val, ri.ne, .inl ?_, by omega⟩, hpd, hsd, ?_⟩, st⟩
    · refine ri.perm.trans ((List.Perm.append_right _ hpull).trans ?_)
      rw [List.cons_append]
      refine List.Perm.trans ?_ (List.perm_append_comm (l₁ := [(x, y, w)]) (l₂ := ptsOf (delk ps (x, y)) ++ rem) |>.trans (by rw [List.append_assoc]))
      exact .refl _
    · rw [List.length_append, List.length_singleton]; exact hlt
    · rw [List.length_append, List.length_singleton]
      exact eff_remove he
  · have hpol := hpo.length_eq
    rw [ptsOf_len] at hpol
    refine ⟨built + (delk ps (x, y)).length, A', by omega, ⟨delk ps (x, y), if (delk ps (x, y)).length = 0 then [] else [own], [], by push_cast; exact ta', ?_, hpd, hsd, ?_⟩, st⟩
    · by_cases hz : (delk ps (x, y)).length = 0
      · rw [if_pos hz, List.eq_nil_of_length_eq_zero hz]
        exact ⟨.refl _, fun x hx => (by cases hx), fun P hP => (by cases hP), .inr rfl, by simp⟩
      · rw [if_neg hz]
        refine ⟨by simpa using hpo, fun z hz2 => ?_, fun P hP => ?_, .inl ?_, by omega⟩
        · have hz2 : z ∈ own := by simpa using hz2
          refine ri.val z (ri.perm.mem_iff.2 (List.mem_append.2 (.inl (hpull.mem_iff.2 (List.mem_cons_of_mem _ (hpo.mem_iff.1 hz2))))))
        · rw [List.mem_singleton.1 hP]
          intro e
          rw [e] at hpol
          simp at hpol
          omega
        · show 2 * 0 < _
          have : storedOf [own] = own.length := by simp [storedOf]
          omega
    · have h := eff_renew (eff_remove he) (L := (delk ps (x, y)).length) (by omega)
      by_cases hz : (delk ps (x, y)).length = 0
      · rw [if_pos hz] at h ⊢; exact h
      · rw [if_neg hz] at h ⊢
        have e : [own].reverse.map List.length = [(delk ps (x, y)).length] := by simp [hpol]
        rw [e]; exact h
theorem Count_s (a : TreeS tb l n u built A) (s : St h0 h (A + F)) (x1 x2 y1 y2 : Int) :
    HCalls Try.prog 16 #[ptr tb, .int .i64 x1, .int .i64 x2, .int .i64 y1, .int .i64 y2] h (fun v h' => Ext h h' ∧ v = .tuple #[.int .i64 (cntB x1 x2 y1 y2 l), .int .i64 0]) := by
  obtain ⟨ps, parts, rem, ta, ri, hp, hs, he⟩ := a
  rw [cntB_perm hp]
  exact Count_ok ta s ri x1 x2 y1 y2
theorem Sum_s (a : TreeS tb l n u built A) (s : St h0 h (A + F)) (x1 x2 y1 y2 : Int) :
    HCalls Try.prog 20 #[ptr tb, .int .i64 x1, .int .i64 x2, .int .i64 y1, .int .i64 y2] h (fun v h' => Ext h h' ∧ v = .tuple #[.int .i64 (sumB x1 x2 y1 y2 l), .int .i64 0]) := by
  obtain ⟨ps, parts, rem, ta, ri, hp, hs, he⟩ := a
  rw [sumB_perm hp]
  exact Sum_ok ta s ri x1 x2 y1 y2
theorem Len_s (a : TreeS tb l n u built A) (s : St h0 h (A + F)) : HCalls Try.prog 17 #[ptr tb] h (fun v h' => h' = h ∧ v = .int .i64 (l.length : Nat)) := by
  obtain ⟨ps, parts, rem, ta, ri, hp, hs, he⟩ := a
  rw [hp.length_eq, ptsOf_len]
  exact Len_ok ta s
theorem List_s (a : TreeS tb l n u built A) (s : St h0 h (A + F)) : HCalls Try.prog 15 #[ptr tb] h (fun v h' => ∃ q d A', v = .slice q l.length d ∧ Sl tPt q l.length d l A' ∧ St h0 h' (A' + (A + F))) := by
  obtain ⟨ps, parts, rem, ta, ri, hp, hs, he⟩ := a
  have hl := ri.len
  refine (List_ok ta s (by omega)).mono fun v h' ⟨q, d, A', m, hv, o, st, hm, hms⟩ => ?_
  obtain rfl := ptsS_ext hs hms fun p => by rw [hp.mem_iff, hm.mem_iff]
  have hpl := hp.length_eq
  rw [ptsOf_len] at hpl
  rw [hpl]
  exact ⟨q, d, A', hv, o, st⟩
theorem Report_s (a : TreeS tb l n u built A) (s : St h0 h (A + F)) (x1 x2 y1 y2 : Int) :
    HCalls Try.prog 19 #[ptr tb, .int .i64 x1, .int .i64 x2, .int .i64 y1, .int .i64 y2] h (fun v h' => ∃ q m d A', v = .tuple #[.slice q m d, .int .i64 0] ∧ Sl tPt q m d (l.filter (inB x1 x2 y1 y2)) A' ∧ St h0 h' (A' + (A + F))) := by
  obtain ⟨ps, parts, rem, ta, ri, hp, hs, he⟩ := a
  have hl := ri.len
  refine (Report_ok ta s (by omega) x1 x2 y1 y2).mono fun v h' ⟨q, m, d, A', l', hv, hm, hms, o, st⟩ => ?_
  obtain rfl := ptsS_ext hs hms fun p => by rw [hp.mem_iff, hm.mem_iff]
  exact ⟨q, m, d, A', hv, o, st⟩
theorem Leftmost_s (a : TreeS tb l n u built A) (s : St h0 h (A + F)) (x1 y1 y2 : Int) :
    HCalls Try.prog 22 #[ptr tb, .int .i64 x1, .int .i64 y1, .int .i64 y2] h (fun v h' => St h0 h' (A + F) ∧ v = match l.find? (fun p => decide (x1 ≤ p.1 ∧ y1 ≤ p.2.1 ∧ p.2.1 ≤ y2)) with | some p => .tuple #[encPt p, .int .i64 0] | none => .tuple #[encPt (0, 0, 0), .int .i64 12]) := by
  obtain ⟨ps, parts, rem, ta, ri, hp, hs, he⟩ := a
  have hl := ri.len
  refine (Leftmost_ok ta s (by omega) x1 y1 y2).mono fun v h' ⟨st, l', hm, hms, hv⟩ => ?_
  obtain rfl := ptsS_ext hs hms fun p => by rw [hp.mem_iff, hm.mem_iff]
  exact ⟨st, hv⟩
end
end Go.Proofs.Ytbfejfejahoblaa

/- The reference: points in their order. -/
set_option maxRecDepth 100000
namespace Go.Proofs.Ytbfejfejahoblaa
open Go Go.Sx
theorem Key_r (x : Int) (h : Hp) : HCalls Try.prog 50 #[.int .i64 x] h (fun v h' => h' = h ∧ v = .bool (decide (-1048576 ≤ x ∧ x ≤ 1048576))) := by
  refine r31_Key_call ?_
  rw [r31_Key_b0_eq]
  refine condP (fun h1 => ⟨rfl, ?_⟩) (fun h1 => ⟨rfl, by rw [decide_eq_false (by omega)]⟩)
  congr 1
  exact decide_eq_decide.2 ⟨fun h => ⟨h1, h⟩, fun h => h.2⟩
theorem Valid_r (x : Pt) (h : Hp) : HCalls Try.prog 36 #[encPt x] h (fun v h' => Ext h h' ∧ v = .bool (vPt x)) := by
  refine r31_Valid_call ?_
  rw [r31_Valid_b0_eq]
  refine (St.start h).new (cs := [_, _, _]) fun b1 h1 _ s => ⟨_, s.ld0, ?_⟩
  refine (Key_r x.1 _).mono fun v h2 ⟨hh, hv⟩ => ⟨_, hv, ?_⟩
  subst hh
  refine condP (fun c1 => ⟨_, s.ldB, (Key_r x.2.1 _).mono fun v h3 ⟨hh, hv⟩ => ⟨_, hv, ?_⟩⟩) (fun c1 => ⟨s.ext, by unfold vPt; rw [decide_eq_false fun h => c1 h.1]⟩)
  subst hh
  refine condP (fun c2 => ⟨_, s.ldB, (Key_r x.2.2 _).mono fun v h4 ⟨hh, hv⟩ => ⟨_, hv, ?_⟩⟩) (fun c2 => ⟨s.ext, by unfold vPt; rw [decide_eq_false fun h => c2 h.2.1]⟩)
  subst hh
  refine ⟨s.ext, ?_⟩
  unfold vPt
  congr 1
  exact decide_eq_decide.2 ⟨fun h => ⟨c1, c2, h⟩, fun h => h.2.2⟩
theorem before_r (x y : Pt) (h : Hp) : HCalls Try.prog 51 #[encPt x, encPt y] h (fun v h' => Ext h h' ∧ v = .bool (decide (ptLt x y))) := by
  refine r31_before_call ?_
  rw [r31_before_b0_eq]
  refine (St.start h).new (cs := [_, _, _]) fun b1 h1 _ s => s.new (cs := [_, _, _]) fun b2 h2 _ s => ⟨_, (s.find b1).ld0, _, s.ld0, condP (fun c => ⟨s.ext, ?_⟩) (fun c => ⟨_, (s.find b1).ld0, _, s.ld0, condP (fun c2 => ⟨_, (s.find b1).ldB, _, s.ldB, s.ext, ?_⟩) (fun c2 => ⟨s.ext, ?_⟩)⟩)⟩
  · rw [decide_eq_true (.inl c)]
  · congr 1
    exact decide_eq_decide.2 ⟨fun h => .inr ⟨c2, h⟩, fun h => by unfold ptLt at h; omega⟩
  · rw [decide_eq_false (by unfold ptLt; omega)]
theorem At_r {h : Hp} {p : Option Addr} {n c : Nat} {l : List Pt} (r : RdT tPt h p n l) (hn : n ≤ 1000000) (x y : Int) :
    HCalls Try.prog 37 #[.slice p n c, .int .i64 x, .int .i64 y] h (fun v h' => h' = h ∧ ((v = .int .i64 (-1) ∧ (x, y) ∉ l.map place) ∨ ∃ i : Nat, v = .int .i64 (i : Int) ∧ i < n ∧ place (l.getD i tPt.d) = (x, y) ∧ (x, y) ∉ (l.take i).map place)) := by
  have hll := r.len
  refine r31_At_call ?_
  rw [r31_At_b0_eq]
  refine ⟨fun q h' => h' = h ∧ ∃ i : Nat, q.1 = i ∧ i ≤ n ∧ (x, y) ∉ (l.take i).map place, fun q _ => (n - q.1).toNat, ⟨rfl, 0, rfl, Nat.zero_le _, by simp⟩, ?_⟩
  rintro ⟨_, _⟩ h1 ⟨hh, i, rfl, hi, hall⟩
  subst hh
  dsimp only
  rw [r31_At_b1_eq]
  refine condP (fun hlt => ?_) (fun hge => ?_)
  · have hin : i < l.length := by omega
    have htk := take_succ_d hin
    have no : place (l.getD i tPt.d) ≠ (x, y) → r31_At_b2 p n c x y (i : Int) h1 (fun q h' => (h' = h1 ∧ ∃ i : Nat, q.1 = i ∧ i ≤ n ∧ (x, y) ∉ (l.take i).map place) ∧ ((n : Int) - q.1).toNat < ((n : Int) - (i : Int)).toNat) (fun v h' => h' = h1 ∧ ((v = .int .i64 (-1) ∧ (x, y) ∉ l.map place) ∨ ∃ i : Nat, v = .int .i64 (i : Int) ∧ i < n ∧ place (l.getD i tPt.d) = (x, y) ∧ (x, y) ∉ (l.take i).map place)) := fun hne => by
      rw [r31_At_b2_eq]
      refine ⟨⟨by omega, by omega⟩, ⟨rfl, i + 1, by push_cast; rfl, by omega, ?_⟩, by dsimp only; omega⟩
      rw [htk, List.map_append, List.mem_append]
      rintro (h | h)
      · exact hall h
      · simp only [List.map_cons, List.map_nil, List.mem_singleton] at h
        exact hne h.symm
    refine r.idx (i := (i : Int)) (by omega) (by omega) fun a ha hc => ⟨_, hc 0 (by decide), ?_⟩
    have e : Int.toNat (i : Int) = i := Int.toNat_natCast i
    rw [e] at hc
    rw [e]
    refine condP (fun c1 => ?_) (fun c1 => no fun h => c1 (congrArg Prod.fst h))
    refine ⟨⟨by omega, by omega⟩, ?_⟩
    subst ha
    refine ⟨_, hc 1 (by decide), condP (fun c2 => ⟨rfl, .inr ⟨i, rfl, by omega, Prod.ext c1 c2, hall⟩⟩) (fun c2 => no fun h => c2 (congrArg Prod.snd h))⟩
  · rw [List.take_of_length_le (by omega)] at hall
    rw [r31_At_b3_eq]
    exact ⟨rfl, .inl ⟨rfl, hall⟩⟩
def atI : List Pt → Int × Int → Int
  | [], _ => -1
  | p :: l, k => if place p = k then 0 else if atI l k < 0 then -1 else atI l k + 1
theorem atI_no : ∀ {l : List Pt} {k : Int × Int}, k ∉ l.map place → atI l k = -1
  | [], _, _ => rfl
  | p :: l, k, h => by
    rw [List.map_cons, List.mem_cons] at h
    have ih := atI_no (l := l) (k := k) fun hc => h (.inr hc)
    rw [atI, if_neg (fun e => h (.inl e.symm)), ih]
    rfl
theorem atI_at : ∀ {l : List Pt} {k : Int × Int} {i : Nat}, i < l.length → place (l.getD i tPt.d) = k → k ∉ (l.take i).map place → atI l k = (i : Int)
  | [], _, _, h, _, _ => by simp at h
  | p :: l, k, 0, _, h, _ => by
    rw [atI, if_pos (by simpa using h)]; rfl
  | p :: l, k, i + 1, hi, h, hn => by
    rw [List.take_succ_cons, List.map_cons, List.mem_cons] at hn
    have ih := atI_at (l := l) (k := k) (i := i) (by simpa using hi) (by simpa using h) fun hc => hn (.inr hc)
    rw [atI, if_neg (fun e => hn (.inl e.symm)), ih, if_neg (by omega)]
    push_cast; rfl
theorem atI_mem {l : List Pt} {k : Int × Int} (h : k ∈ l.map place) : ∃ i : Nat, i < l.length ∧ atI l k = (i : Int) ∧ place (l.getD i tPt.d) = k ∧ k ∉ (l.take i).map place := by
  induction l with
  | nil => cases h
  | cons p l ih =>
    by_cases hp : place p = k
    · exact ⟨0, by simp, by rw [atI, if_pos hp]; rfl, by simpa using hp, by simp⟩
    · rw [List.map_cons, List.mem_cons] at h
      rcases h with h | h
      · exact absurd h.symm hp
      · obtain ⟨i, h1, h2, h3, h4⟩ := ih h
        refine ⟨i + 1, by simp; omega, by rw [atI, if_neg hp, h2, if_neg (by omega)]; push_cast; rfl, by simpa using h3, ?_⟩
        rw [List.take_succ_cons, List.map_cons, List.mem_cons]
        rintro (h | h)
        · exact hp h.symm
        · exact h4 h
theorem At_f {h : Hp} {p : Option Addr} {n c : Nat} {l : List Pt} (r : RdT tPt h p n l) (hn : n ≤ 1000000) (x y : Int) :
    HCalls Try.prog 37 #[.slice p n c, .int .i64 x, .int .i64 y] h (fun v h' => v = .int .i64 (atI l (x, y)) ∧ h' = h) := by
  have hll := r.len
  refine (At_r r hn x y).mono fun v h' ⟨hh, hv⟩ => ?_
  rcases hv with ⟨hv, hm⟩ | ⟨i, hv, hi, hp, hm⟩
  · exact ⟨by rw [hv, atI_no hm], hh⟩
  · exact ⟨by rw [hv, atI_at (by omega) hp hm], hh⟩
theorem takeWhile_at {α : Type} {p : α → Bool} {l : List α} {i : Nat} (hi : i ≤ l.length) (h1 : ∀ x ∈ l.take i, p x = true) (h2 : ∀ h : i < l.length, p l[i] = false) : l.takeWhile p = l.take i ∧ l.dropWhile p = l.drop i := by
  induction l generalizing i with
  | nil => simp
  | cons x l ih =>
    cases i with
    | zero =>
      have := h2 (by simp)
      rw [List.getElem_cons_zero] at this
      simp [this]
    | succ i =>
      have hx := h1 x (by simp)
      have ih := ih (i := i) (by simpa using hi) (fun y hy => h1 y (by simp [hy])) (fun h => by
        have := h2 (by simpa using h)
        simpa using this)
      rw [List.takeWhile_cons, List.dropWhile_cons, hx]
      simp [ih.1, ih.2]
theorem Put_r {h : Hp} {p : Option Addr} {n c : Nat} {l : List Pt} (r : RdT tPt h p n l) (hn : n ≤ 100000) (hc : n ≤ c) (x : Pt) :
    HCalls Try.prog 38 #[.slice p n c, encPt x] h (fun v h' => ∃ q d A, v = .slice q (n + 1) d ∧ Sl tPt q (n + 1) d (insPt x l) A ∧ St h h' A) := by
  have hll := r.len
  refine r31_Put_call ?_
  rw [r31_Put_b0_eq]
  refine (St.start h).new (cs := [_, _, _]) fun pb h1 _ s => ?_
  refine ⟨fun q h' => ∃ i : Nat, q.1 = i ∧ i ≤ n ∧ (∀ y ∈ l.take i, decide (ptLt y x) = true) ∧ St h h' (cA pb [.int .i64 x.1, .int .i64 x.2.1, .int .i64 x.2.2] 33 + 0), fun q _ => (n - q.1).toNat, ⟨0, rfl, Nat.zero_le _, fun y hy => (by rw [List.take_zero] at hy; cases hy), s⟩, ?_⟩
  clear s
  rintro ⟨_, _⟩ h2 ⟨i, rfl, hi, hall, s⟩
  dsimp only
  have fin : ∀ h3, St h h3 (cA pb [.int .i64 x.1, .int .i64 x.2.1, .int .i64 x.2.2] 33 + 0) → (∀ hh : i < l.length, decide (ptLt l[i] x) = false) → r31_Put_b3 p n c (some ⟨pb, 0, none⟩) (i : Int) h3 (fun v h' => ∃ q d A, v = .slice q (n + 1) d ∧ Sl tPt q (n + 1) d (insPt x l) A ∧ St h h' A) := fun h3 s hstop => by
    obtain ⟨e1, e2⟩ := takeWhile_at (p := fun q => decide (ptLt q x)) (by omega) hall hstop
    have eI : insPt x l = l.take i ++ x :: l.drop i := by unfold insPt; rw [e1, e2]
    rw [r31_Put_b3_eq]
    have ei : Int.toNat (i : Int) = i := Int.toNat_natCast i
    have en : Int.toNat (n : Int) = n := Int.toNat_natCast n
    have e0 : Int.toNat (0 : Int) = 0 := rfl
    rw [ei, en, e0]
    have b1 : (0 : Int) ≤ 0 ∧ (0 : Int) ≤ (i : Int) ∧ (i : Int) ≤ (c : Int) := ⟨by omega, by omega, by omega⟩
    have b2 : 0 ≤ (i : Int) ∧ (i : Int) ≤ (n : Int) ∧ (n : Int) ≤ (c : Int) := ⟨by omega, by omega, by omega⟩
    have rl : ∀ h', Ext h h' → RdT tPt h' (subAddr p c 0 3) (i - 0) (l.take i) := fun h' x' => by
      have := ((r.ext x').sub (c := c) (i := 0) (m := n) (by omega) hc rfl).take (i := i) hi
      rw [List.drop_zero] at this
      exact this
    have rr : ∀ h', Ext h h' → RdT tPt h' (subAddr p c i 3) (n - i) (l.drop i) := fun h' x' => (r.ext x').sub (c := c) hi hc rfl
    have last : ∀ {h4 a m d} {xs : List Pt} {A G : Bag}, St h h4 (A + G) → Sl tPt a m d xs A → m = i + 1 → xs = l.take i ++ [x] → appendV Try.prog 22 22 (.slice a m d) (.slice (subAddr p c i 3) (n - i) (c - i)) h4 (slK fun a8 l3 c3 h8 => ∃ q d A, (.slice a8 l3 c3 : Value) = .slice q (n + 1) d ∧ Sl tPt q (n + 1) d (insPt x l) A ∧ St h h8 A) := fun {h4 a m d xs A G} s o hm hx => by
      refine append_sl ok_pts s o (rr h4 s.ext) (by omega) fun p' c' h5 A' o' s' => ?_
      have em : m + (n - i) = n + 1 := by omega
      rw [em] at o' ⊢
      rw [hx, List.append_assoc] at o'
      exact ⟨p', c', A', rfl, by rw [eI]; exact o', s'.left⟩
    refine ⟨b1, _, _, _, s.ld0, s.ldB, s.ldB, b2, ⟨s.new (cs := []) fun be h4 _ s => ⟨⟨b2, rfl⟩, ⟨_, _, _, s.ld0, s.ldB, s.ldB, rfl⟩, ⟨b1, rfl⟩, ?_, ?_⟩, ?_⟩⟩
    · have oe : Sl tPt (some ⟨be, 0, none⟩) 0 0 [] (cA be [] 33) := ⟨rfl, .inr ⟨be, [], rfl, Nat.le_refl _, by simp, rfl⟩⟩
      refine append_sl ok_pts s oe (rl _ s.ext) (by omega) fun p' c' h5 A' o' s => ?_
      refine ⟨⟨b2, rfl⟩, ⟨_, _, _, (s.find pb).ld0, (s.find pb).ldB, (s.find pb).ldB, rfl⟩, s.new (cs := [_, _, _]) fun b3 h6 _ s => ⟨⟨b2, rfl⟩, ?_⟩⟩
      refine append_sl ok_pts (s.at A') o' ((Sl.one (T := tPt) (x := x) rfl).rd (s.find b3)) (by omega) fun p2 c2 h7 A2 o2 s => ⟨⟨b2, rfl⟩, last s o2 (by omega) (by simp)⟩
    · have oe : Sl tPt (some ⟨be, 0, none⟩) 0 0 [] (cA be [] 33) := ⟨rfl, .inr ⟨be, [], rfl, Nat.le_refl _, by simp, rfl⟩⟩
      refine s.new (cs := [_, _, _]) fun b4 h9 _ s => ⟨⟨b2, rfl⟩, ⟨b1, rfl⟩, ?_⟩
      refine append_sl ok_pts (s.at (cA be [] 33)) oe (rl _ s.ext) (by omega) fun p' c' h5 A' o' s => ⟨⟨b2, rfl⟩, ?_⟩
      refine append_sl ok_pts (s.at A') o' ((Sl.one (T := tPt) (x := x) rfl).rd (s.find b4)) (by omega) fun p2 c2 h7 A2 o2 s => ⟨⟨b2, rfl⟩, last s o2 (by omega) (by simp)⟩
    · refine s.new (cs := [_, _, _]) fun b5 h9 _ s => ⟨⟨b2, rfl⟩, ⟨b1, rfl⟩, s.new (cs := []) fun be h10 _ s => ⟨⟨b2, rfl⟩, ⟨b1, rfl⟩, ?_⟩⟩
      have oe : Sl tPt (some ⟨be, 0, none⟩) 0 0 [] (cA be [] 33) := ⟨rfl, .inr ⟨be, [], rfl, Nat.le_refl _, by simp, rfl⟩⟩
      refine append_sl ok_pts (s.at (cA be [] 33)) oe (rl _ s.ext) (by omega) fun p' c' h5 A' o' s => ⟨⟨b2, rfl⟩, ?_⟩
      refine append_sl ok_pts (s.at A') o' ((Sl.one (T := tPt) (x := x) rfl).rd (s.find b5)) (by omega) fun p2 c2 h7 A2 o2 s => ⟨⟨b2, rfl⟩, last s o2 (by omega) (by simp)⟩
  rw [r31_Put_b1_eq]
  refine condP (fun hlt => ?_) (fun hge => fin h2 s fun hh => by omega)
  have hin : i < l.length := by omega
  refine ldPT (i' := i) (r.ext s.ext) rfl (by omega) ⟨_, _, _, s.ld0, s.ldB, s.ldB, ?_⟩
  have htk := take_succ_d hin
  refine (before_r (l.getD i tPt.d) x h2).mono fun v h3 ⟨x3, hv⟩ => ⟨_, hv, condP (fun hc => ?_) (fun hc => fin h3 (s.grow x3) fun hh => ?_)⟩
  · rw [r31_Put_b2_eq]
    refine ⟨⟨by omega, by omega⟩, ⟨i + 1, by push_cast; rfl, by omega, fun y hy => ?_, s.grow x3⟩, by dsimp only; omega⟩
    rw [htk] at hy
    rcases List.mem_append.1 hy with hy | hy
    · exact hall y hy
    · rw [List.mem_singleton.1 hy]; exact decide_eq_true hc
  · rw [getD_get hin] at hc
    exact decide_eq_false hc
/-- The reference's points, made. -/
theorem Made_r {h : Hp} {p : Option Addr} {n c : Nat} {l : List Pt} (r : RdT tPt h p n l) (hn : n ≤ 4000) :
    HCalls Try.prog 23 #[.slice p n c] h (fun v h' => if l.any (fun x => !vPt x) = true then v = .tuple #[.slice none 0 0, .int .i64 1] ∧ Ext h h' else
      if ¬ (l.map place).Nodup then v = .tuple #[.slice none 0 0, .int .i64 10] ∧ Ext h h' else if 1000 < n then v = .tuple #[.slice none 0 0, .int .i64 4] ∧ Ext h h' else
      ∃ q d A, v = .tuple #[.slice q n d, .int .i64 0] ∧ Sl tPt q n d (madeL l) A ∧ St h h' A) := by
  have hll := r.len
  refine r31_Made_call ?_
  rw [r31_Made_b0_eq]
  refine ⟨fun q h' => ∃ i : Nat, q.1 = i ∧ i ≤ n ∧ (∀ x ∈ l.take i, vPt x = true) ∧ Ext h h', fun q _ => (n - q.1).toNat, ⟨0, rfl, Nat.zero_le _, fun x hx => (by rw [List.take_zero] at hx; cases hx), .refl _⟩, ?_⟩
  rintro ⟨_, _⟩ h1 ⟨i, rfl, hi, hall, x1⟩
  dsimp only
  rw [r31_Made_b1_eq]
  refine condP (fun hlt => ?_) (fun hge => ?_)
  · have hin : i < l.length := by omega
    refine ldPT (i' := i) (r.ext x1) rfl (by omega) ?_
    have htk := take_succ_d hin
    refine (Valid_r (l.getD i tPt.d) h1).mono fun v h2 ⟨x2, hv⟩ => ⟨_, hv, cond_intro (fun hc => ?_) (fun hc => ?_)⟩
    · have hc : vPt (l.getD i tPt.d) = false := by simpa using hc
      rw [if_pos (List.any_eq_true.2 ⟨l.getD i tPt.d, by rw [getD_get hin]; exact List.getElem_mem _, by rw [hc]; rfl⟩)]
      exact ⟨rfl, x1.trans x2⟩
    · have hc : vPt (l.getD i tPt.d) = true := by simpa using hc
      rw [r31_Made_b2_eq]
      refine ⟨⟨by omega, by omega⟩, ⟨i + 1, by push_cast; rfl, by omega, fun x hx => ?_, x1.trans x2⟩, by dsimp only; omega⟩
      rw [htk] at hx
      rcases List.mem_append.1 hx with hx | hx
      · exact hall x hx
      · rw [List.mem_singleton.1 hx]; exact hc
  obtain rfl : i = n := by omega
  rw [List.take_of_length_le (by omega)] at hall
  have hany : ¬ l.any (fun x => !vPt x) = true := by
    rw [List.any_eq_true]
    rintro ⟨x, hx, hv⟩
    rw [hall x hx] at hv
    cases hv
  simp only [if_neg hany]
  rw [r31_Made_b3_eq]
  refine ⟨fun q h' => ∃ (k : Nat) (A : Bag), q.2.1 = k ∧ k ≤ i ∧ q.1.2.1 = k ∧ ((l.take k).map place).Nodup ∧ Sl tPt q.1.1 q.1.2.1 q.1.2.2 (madeL (l.take k)) A ∧ St h h' (A + 0), fun q _ => (i - q.2.1).toNat, ⟨0, 0, rfl, Nat.zero_le _, rfl, by simp, Sl.nil, ((St.start h).grow x1).to⟩, ?_⟩
  clear x1 hall
  rintro ⟨⟨q, m, d⟩, z, _⟩ h2 ⟨k, A, hz, hk, hm, hnd, o, s⟩
  dsimp only at hz hm o ⊢
  subst hz
  subst hm
  rw [r31_Made_b4_eq]
  refine condP (fun hlt => ?_) (fun hge => ?_)
  · have hin : m < l.length := by omega
    have htk := take_succ_d hin
    have rl := r.ext s.ext
    refine rl.idx (i := (m : Int)) (by omega) (by omega) fun a ha hc => ⟨_, hc 0 (by decide), ⟨by omega, by omega⟩, ?_⟩
    have hc1 := hc 1 (by decide)
    have e : Int.toNat (m : Int) = m := Int.toNat_natCast m
    rw [e] at hc hc1 ⊢
    subst ha
    refine ⟨_, hc1, ?_⟩
    have hpm : ∀ z, z ∈ (madeL (l.take m)).map place ↔ z ∈ (l.take m).map place := fun z => ((madeL_perm _).map place).mem_iff
    refine ⟨_, At_f (c := d) (o.rd s) (by omega) (l.getD m tPt.d).1 (l.getD m tPt.d).2.1, ?_⟩
    show cond (decide ((0 : Int) ≤ atI (madeL (l.take m)) (place (l.getD m tPt.d)))) _ _
    refine condP (fun hz => ?_) (fun hz => ?_)
    · have hmem : place (l.getD m tPt.d) ∈ (l.take m).map place := Classical.byContradiction fun hc => by
        rw [← hpm] at hc
        rw [atI_no hc] at hz
        omega
      have hno : ¬ (l.map place).Nodup := fun hn2 => by
        have e2 : l.map place = (l.take m).map place ++ (l.drop m).map place := by rw [← List.map_append, List.take_append_drop]
        rw [e2, List.nodup_append] at hn2
        refine hn2.2.2 _ hmem (place (l.getD m tPt.d)) ?_ rfl
        refine List.mem_map.2 ⟨l.getD m tPt.d, ?_, rfl⟩
        rw [List.drop_eq_getElem_cons hin, getD_get hin]
        exact List.mem_cons_self ..
      simp only [if_pos hno]
      exact ⟨by trivial, s.ext⟩
    · have hmem : place (l.getD m tPt.d) ∉ (l.take m).map place := fun hc => by
        rw [← hpm] at hc
        obtain ⟨i, _, h2, _⟩ := atI_mem hc
        omega
      refine ⟨⟨by omega, by omega⟩, _, _, _, hc 0 (by decide), hc1, hc 2 (by decide), ?_⟩
      refine (Put_r (o.rd s) (by omega) o.cap (l.getD m tPt.d)).mono fun v h5 ⟨q2, d2, A2, hv, o2, st2⟩ => ⟨_, _, _, hv, ?_⟩
      rw [r31_Made_b5_eq]
      refine ⟨⟨by omega, by omega⟩, ⟨m + 1, A2, by push_cast; rfl, by omega, rfl, ?_, ?_, ?_⟩, by dsimp only; omega⟩
      · rw [htk, List.map_append, List.nodup_append]
        refine ⟨hnd, by simp, fun z hz w hw e => ?_⟩
        simp only [List.map_cons, List.map_nil, List.mem_singleton] at hw
        subst hw; subst e
        exact hmem hz
      · rw [htk, madeL_snoc]; exact o2
      · exact ((s.join st2).to (B := A + (A2 + 0))).drop
  · obtain rfl : m = i := by omega
    rw [List.take_of_length_le (by omega)] at o hnd
    rw [r31_Made_b6_eq]
    simp only [if_neg (show ¬ ¬ (l.map place).Nodup from fun h => h hnd)]
    refine condP (fun hb => ?_) (fun hb => ?_)
    · rw [if_pos (by omega)]; exact ⟨by trivial, s.ext⟩
    · rw [if_neg (by omega)]; exact ⟨q, d, A, rfl, o, s.to⟩
/-- A point is added to the reference's. -/
theorem Add_r {h0 h : Hp} {p : Option Addr} {n c : Nat} {l : List Pt} {M F : Bag} (o : Sl tPt p n c l M) (s : St h0 h (M + F)) (hn : n ≤ 1000) (x : Pt) :
    HCalls Try.prog 40 #[.slice p n c, encPt x] h (fun v h' => ∃ q m d l' e M', v = .tuple #[.slice q m d, .int .i64 e] ∧ Sl tPt q m d l' M' ∧ St h0 h' (M' + F) ∧ ((vPt x = false ∧ e = 1 ∧ l' = l) ∨ (vPt x = true ∧ place x ∈ l.map place ∧ e = 15 ∧ l' = l) ∨ (vPt x = true ∧ place x ∉ l.map place ∧ 1000 ≤ n ∧ e = 4 ∧ l' = l) ∨ (vPt x = true ∧ place x ∉ l.map place ∧ n < 1000 ∧ e = 0 ∧ l' = insPt x l))) := by
  refine r31_Add_call ?_
  rw [r31_Add_b0_eq]
  refine s.new (cs := [_, _, _]) fun b h1 _ s => ⟨_, _, _, s.ld0, s.ldB, s.ldB, ?_⟩
  refine (Valid_r x h1).mono fun v h2 ⟨x2, hv⟩ => ⟨_, hv, cond_intro (fun hc => ?_) (fun hc => ?_)⟩
  · exact ⟨p, n, c, l, 1, M, rfl, o, (s.grow x2).drop, .inl ⟨by simpa using hc, rfl, rfl⟩⟩
  have hc : vPt x = true := by simpa using hc
  have s := s.grow x2
  refine ⟨_, s.ld0, _, s.ldB, (At_f (o.rd (s.at M)) (by omega) x.1 x.2.1).mono fun v h3 ⟨hv, hh⟩ => ⟨_, hv, ?_⟩⟩
  subst hh
  show cond (decide ((0 : Int) ≤ atI l (place x))) _ _
  refine condP (fun hz => ?_) (fun hz => condP (fun hf => ?_) (fun hf => ?_))
  · have hmem : place x ∈ l.map place := Classical.byContradiction fun hc => by
      rw [atI_no hc] at hz
      omega
    exact ⟨p, n, c, l, 15, M, rfl, o, s.drop, .inr (.inl ⟨hc, hmem, rfl, rfl⟩)⟩
  · have hmem : place x ∉ l.map place := fun hc => by
      obtain ⟨i, _, h2, _⟩ := atI_mem hc
      omega
    exact ⟨p, n, c, l, 4, M, rfl, o, s.drop, .inr (.inr (.inl ⟨hc, hmem, by omega, rfl, rfl⟩))⟩
  · have hmem : place x ∉ l.map place := fun hc => by
      obtain ⟨i, _, h2, _⟩ := atI_mem hc
      omega
    refine ⟨_, _, _, s.ld0, s.ldB, s.ldB, (Put_r (o.rd (s.at M)) (by omega) o.cap x).mono fun v h5 ⟨q2, d2, A2, hv, o2, st2⟩ => ⟨_, _, _, hv, ?_⟩⟩
    exact ⟨q2, n + 1, d2, _, 0, A2, rfl, o2, ((s.join st2).to (B := (cA b [.int .i64 x.1, .int .i64 x.2.1, .int .i64 x.2.2] 33 + M) + (A2 + F))).drop, .inr (.inr (.inr ⟨hc, hmem, by omega, rfl, rfl⟩))⟩
theorem filter_place {l : List Pt} (hs : PtsS l) {i : Nat} {k : Int × Int} (hi : i < l.length) (hp : place (l.getD i tPt.d) = k) : l.filter (fun p => decide (place p ≠ k)) = l.take i ++ l.drop (i + 1) := by
  have hn := ptsS_place hs
  have e := split_at hi
  rw [getD_get hi] at hp
  generalize l[i] = z at *
  rw [e, List.map_append, List.map_cons, List.nodup_append, List.nodup_cons] at hn
  have h1 : (l.take i).filter (fun p => decide (place p ≠ k)) = l.take i := List.filter_eq_self.2 fun p hpm => by
    rw [decide_eq_true_eq]
    intro hc
    exact hn.2.2 _ (List.mem_map.2 ⟨p, hpm, rfl⟩) _ List.mem_cons_self (by rw [hc, hp])
  have h2 : (l.drop (i + 1)).filter (fun p => decide (place p ≠ k)) = l.drop (i + 1) := List.filter_eq_self.2 fun p hpm => by
    rw [decide_eq_true_eq]
    intro hc
    exact hn.2.1.1 (by rw [hp, ← hc]; exact List.mem_map.2 ⟨p, hpm, rfl⟩)
  conv => lhs; rw [e]
  rw [List.filter_append, List.filter_cons, h1, h2, if_neg (by simp [hp])]
theorem Remove_r {h0 h : Hp} {p : Option Addr} {n c : Nat} {l : List Pt} {M F : Bag} (o : Sl tPt p n c l M) (s : St h0 h (M + F)) (hn : n ≤ 1000) (hs : PtsS l) (x y : Int) :
    HCalls Try.prog 41 #[.slice p n c, .int .i64 x, .int .i64 y] h (fun v h' => ∃ q m d l' e M', v = .tuple #[.slice q m d, .int .i64 e] ∧ Sl tPt q m d l' M' ∧ St h0 h' (M' + F) ∧ (((x, y) ∉ l.map place ∧ e = 12 ∧ l' = l) ∨ ((x, y) ∈ l.map place ∧ e = 0 ∧ l' = l.filter fun p => decide (place p ≠ (x, y))))) := by
  have hll := o.len
  have hcap := o.cap
  refine r31_Remove_call ?_
  rw [r31_Remove_b0_eq]
  refine (At_f (o.rd s) (by omega) x y).mono fun v h1 ⟨hv, hh⟩ => ⟨_, hv, ?_⟩
  subst hh
  by_cases hmem : (x, y) ∈ l.map place
  · obtain ⟨i, hi, hat, hp, _⟩ := atI_mem hmem
    have hfp := filter_place hs hi hp
    rw [hat]
    have e1 : Int.toNat (i : Int) = i := Int.toNat_natCast i
    have e2 : Int.toNat (n : Int) = n := Int.toNat_natCast n
    have e3 : Int.toNat ((i : Int) + 1) = i + 1 := by omega
    have e0 : Int.toNat (0 : Int) = 0 := rfl
    rw [e1, e2, e3, e0]
    refine condNo (decide_eq_false (by omega)) ⟨⟨by omega, by omega, by omega⟩, ⟨by omega, by omega⟩, ⟨by omega, by omega, by omega⟩, ?_⟩
    refine s.new (cs := []) fun be h2 _ s => ⟨⟨⟨by omega, by omega, by omega⟩, rfl⟩, ⟨⟨by omega, by omega, by omega⟩, rfl⟩, ?_⟩
    have oe : Sl tPt (some ⟨be, 0, none⟩) 0 0 [] (cA be [] 33) := ⟨rfl, .inr ⟨be, [], rfl, Nat.le_refl _, by simp, rfl⟩⟩
    have rl : RdT tPt h2 (subAddr p c 0 3) (i - 0) (l.take i) := by
      have := ((o.rd (s.at M)).sub (c := c) (i := 0) (m := n) (by omega) hcap rfl).take (i := i) (by omega)
      rw [List.drop_zero] at this
      exact this
    refine append_sl ok_pts s oe rl (by omega) fun p' c' h5 A' o' s => ⟨⟨⟨by omega, by omega, by omega⟩, rfl⟩, ?_⟩
    have rr : RdT tPt h5 (subAddr p c (i + 1) 3) (n - (i + 1)) (l.drop (i + 1)) := (o.rd (s.at M)).sub (c := c) (by omega) hcap rfl
    refine append_sl ok_pts s o' rr (by omega) fun p2 c2 h6 A2 o2 s => ?_
    rw [List.nil_append, ← hfp] at o2
    exact ⟨p2, _, c2, _, 0, A2, rfl, o2, (s.to (B := M + (A2 + F))).drop, .inr ⟨hmem, rfl, rfl⟩⟩
  · rw [atI_no hmem]
    exact condYes rfl ⟨p, n, c, l, 12, M, rfl, o, s, .inl ⟨hmem, rfl, rfl⟩⟩
theorem Report_r {h : Hp} {p : Option Addr} {n c : Nat} {l : List Pt} (r : RdT tPt h p n l) (hn : n ≤ 100000) (x1 x2 y1 y2 : Int) :
    HCalls Try.prog 39 #[.slice p n c, .int .i64 x1, .int .i64 x2, .int .i64 y1, .int .i64 y2] h (fun v h' => ∃ q m d A, v = .slice q m d ∧ Sl tPt q m d (l.filter (inB x1 x2 y1 y2)) A ∧ St h h' A) := by
  have hll := r.len
  refine r31_Report_call ?_
  rw [r31_Report_b0_eq]
  refine ⟨fun q h' => ∃ (k : Nat) (A : Bag), q.2.1 = k ∧ k ≤ n ∧ q.1.2.1 ≤ k ∧ Sl tPt q.1.1 q.1.2.1 q.1.2.2 ((l.take k).filter (inB x1 x2 y1 y2)) A ∧ St h h' (A + 0), fun q _ => (n - q.2.1).toNat, ⟨0, 0, rfl, Nat.zero_le _, Nat.le_refl _, Sl.nil, (St.start h).to⟩, ?_⟩
  rintro ⟨⟨q, m, d⟩, z, _⟩ h2 ⟨k, A, hz, hk, hm, o, s⟩
  dsimp only at hz hm o ⊢
  subst hz
  rw [r31_Report_b1_eq]
  refine condP (fun hlt => ?_) (fun hge => ?_)
  · have hin : k < l.length := by omega
    have htk := take_succ_d hin
    have rl := r.ext s.ext
    have hx := hin
    have no : ¬ (x1 ≤ (l.getD k tPt.d).1 ∧ (l.getD k tPt.d).1 ≤ x2 ∧ y1 ≤ (l.getD k tPt.d).2.1 ∧ (l.getD k tPt.d).2.1 ≤ y2) → r31_Report_b2 p n c x1 x2 y1 y2 q m d (k : Int) h2 (fun q h' => (∃ (k : Nat) (A : Bag), q.2.1 = k ∧ k ≤ n ∧ q.1.2.1 ≤ k ∧ Sl tPt q.1.1 q.1.2.1 q.1.2.2 ((l.take k).filter (inB x1 x2 y1 y2)) A ∧ St h h' (A + 0)) ∧ ((n : Int) - q.2.1).toNat < ((n : Int) - (k : Int)).toNat) (fun v h' => ∃ q m d A, v = .slice q m d ∧ Sl tPt q m d (l.filter (inB x1 x2 y1 y2)) A ∧ St h h' A) := fun hno => by
      rw [r31_Report_b2_eq]
      refine ⟨⟨by omega, by omega⟩, ⟨k + 1, A, by push_cast; rfl, by omega, by dsimp only; omega, ?_, s⟩, by dsimp only; omega⟩
      rw [htk, List.filter_append, List.filter_cons, if_neg (by unfold inB; rw [decide_eq_true_eq]; exact hno), List.filter_nil, List.append_nil]
      exact o
    refine rl.idx (i := (k : Int)) (by omega) (by omega) fun a ha hc => ?_
    have hc0 := hc 0 (by decide)
    have hc1 := hc 1 (by decide)
    have hc2 := hc 2 (by decide)
    have e : Int.toNat (k : Int) = k := Int.toNat_natCast k
    rw [e] at hc0 hc1 hc2 ⊢
    subst ha
    refine ⟨_, hc0, condP (fun g1 => ⟨⟨by omega, by omega⟩, _, hc0, condP (fun g2 => ⟨⟨by omega, by omega⟩, _, hc1, condP (fun g3 => ⟨⟨by omega, by omega⟩, _, hc1, condP (fun g4 => ⟨⟨by omega, by omega⟩, _, _, _, hc0, hc1, hc2, ?_⟩) (fun g => no fun h => g h.2.2.2)⟩) (fun g => no fun h => g h.2.2.1)⟩) (fun g => no fun h => g h.2.1)⟩) (fun g => no fun h => g h.1)⟩
    refine push_sl (cs := [_, _, _]) ok_pts s o (x := l.getD k tPt.d) rfl rfl (by omega) fun p' c' h6 A' o' s => ?_
    rw [r31_Report_b2_eq]
    refine ⟨⟨by omega, by omega⟩, ⟨k + 1, A', by push_cast; rfl, by omega, by dsimp only; omega, ?_, s⟩, by dsimp only; omega⟩
    rw [htk, List.filter_append, List.filter_cons, if_pos (by unfold inB; rw [decide_eq_true_eq]; exact ⟨g1, g2, g3, g4⟩), List.filter_nil]
    exact o'
  · obtain rfl : k = n := by omega
    rw [List.take_of_length_le (by omega)] at o
    rw [r31_Report_b3_eq]
    exact ⟨q, m, d, A, rfl, o, s.to⟩
theorem Sum_r {h : Hp} {p : Option Addr} {n c : Nat} {l : List Pt} (r : RdT tPt h p n l) (hn : n ≤ 100000) (hw : WOk l) :
    HCalls Try.prog 21 #[.slice p n c] h (fun v h' => h' = h ∧ v = .int .i64 (wSum l)) := by
  have hll := r.len
  refine r31_Sum_call ?_
  rw [r31_Sum_b0_eq]
  refine ⟨fun q h' => h' = h ∧ ∃ k : Nat, q.2.1 = k ∧ k ≤ n ∧ q.1 = wSum (l.take k), fun q _ => (n - q.2.1).toNat, ⟨rfl, 0, rfl, Nat.zero_le _, rfl⟩, ?_⟩
  rintro ⟨_, _, _⟩ h2 ⟨hh, k, rfl, hk, rfl⟩
  subst hh
  dsimp only
  rw [r31_Sum_b1_eq]
  have hwb := wSum_bound (l := l.take k) fun x hx => hw x (List.mem_of_mem_take hx)
  rw [List.length_take] at hwb
  refine condP (fun hlt => ?_) (fun hge => ?_)
  · have hin : k < l.length := by omega
    have htk := take_succ_d hin
    have hwx := hw (l.getD k tPt.d) (by rw [getD_get hin]; exact List.getElem_mem _)
    refine r.idx (i := (k : Int)) (by omega) (by omega) fun a ha hc => ⟨_, hc 2 (by decide), ⟨?_, ?_⟩⟩
    · rw [Int.toNat_natCast]; exact ⟨by omega, by omega⟩
    · rw [Int.toNat_natCast, r31_Sum_b2_eq]
      refine ⟨⟨by omega, by omega⟩, ⟨rfl, k + 1, by push_cast; rfl, by omega, ?_⟩, by dsimp only; omega⟩
      rw [htk, wSum_app, wSum_cons, wSum_nil]
      dsimp only; omega
  · obtain rfl : k = n := by omega
    rw [List.take_of_length_le (by omega)]
    rw [r31_Sum_b3_eq]
    exact ⟨rfl, rfl⟩
end Go.Proofs.Ytbfejfejahoblaa

/- The laws' example; effort. -/
set_option maxRecDepth 100000
namespace Go.Proofs.Ytbfejfejahoblaa
open Go Go.Sx
theorem add_two (b i j : Nat) : ((⟨b, 0, none⟩ : Addr).add i).add j = (⟨b, 0, none⟩ : Addr).add (i + j) := by rw [add_mk, add_mk, add_mk]; congr 1; omega
theorem St.ldC {h0 h : Hp} {B C : Bag} {b i j : Nat} {cs : List Value} {e : TypeId} {v : Value} (s : St h0 h B) [x : Bag.Has b B cs e C] (hv : cs[i + j]? = some v := by with_unfolding_all exact rfl) : Sx.cell h (((⟨b, 0, none⟩ : Addr).add i).add j) = some v := by
  rw [add_two]; exact s.ldB hv
abbrev exP : List Pt := [(3, 7, -1), (1, 5, 2), (3, 1, 4)]
theorem Awake_r (h : Hp) : HCalls Try.prog 9 #[] h (fun v h' => Ext h h' ∧ v = .bool true) := by
  refine l31_awake_call ?_
  rw [l31_awake_b0_eq]
  refine (St.start h).new (cs := [_, _, _, _, _, _, _, _, _]) fun b h1 x1 s => ?_
  have o : Sl tPt (some ⟨b, 0, none⟩) 3 3 exP (cA b [.int .i64 3, .int .i64 7, .int .i64 (-1), .int .i64 1, .int .i64 5, .int .i64 2, .int .i64 3, .int .i64 1, .int .i64 4] 33) := Sl.of_blk (T := tPt) (n := 3) (xs := exP) rfl (cs := [.int .i64 3, .int .i64 7, .int .i64 (-1), .int .i64 1, .int .i64 5, .int .i64 2, .int .i64 3, .int .i64 1, .int .i64 4]) rfl
  refine (Make_s (o.rd s) (by decide)).mono fun v h2 hv => ?_
  rw [if_neg (by decide), if_neg (by decide), if_neg (by decide)] at hv
  obtain ⟨tb, A, rfl, a, st⟩ := hv
  have e : madeL exP = [(1, 5, 2), (3, 1, 4), (3, 7, -1)] := by decide
  rw [e] at a
  refine ⟨_, _, rfl, condNo rfl (condNo rfl ?_)⟩
  rw [l31_awake_b1_eq]
  have s := s.join st
  refine (Count_s a s 1 3 1 5).mono fun v h3 ⟨x3, hv⟩ => ⟨_, _, hv, ?_⟩
  have s := s.grow x3
  refine (Sum_s a s 0 9 0 9).mono fun v h4 ⟨x4, hv⟩ => ⟨_, _, hv, ?_⟩
  have s := s.grow x4
  refine (Leftmost_s a s 2 2 9).mono fun v h5 ⟨s, hv⟩ => ?_
  have ef : [(1, 5, 2), (3, 1, 4), ((3, 7, -1) : Pt)].find? (fun p => decide (2 ≤ p.1 ∧ 2 ≤ p.2.1 ∧ p.2.1 ≤ 9)) = some (3, 7, -1) := by decide
  rw [ef] at hv
  refine ⟨_, _, _, _, hv, s.new (cs := [_, _, _]) fun b2 h6 x6 s => ?_⟩
  refine s.wr3 fun h7 s => ?_
  refine (Len_s (F := cA b2 _ _ + _) a (s.at A)).mono fun v h8 ⟨hh, hv⟩ => ⟨_, hv, ?_⟩
  subst hh
  refine condYes rfl (condYes (by decide) (condYes rfl (condYes (by decide) (condYes rfl ⟨_, _, _, s.ld0, s.ldB, s.ldB, _, eql_pt (3, 7, -1) (3, 7, -1), condYes (by decide) ⟨s.ext, rfl⟩⟩))))
end Go.Proofs.Ytbfejfejahoblaa

/- The law: back. -/
set_option maxRecDepth 100000
namespace Go.Proofs.Ytbfejfejahoblaa
open Go Go.Sx
/-! ### plain -/
/-! ### the law -/
end Go.Proofs.Ytbfejfejahoblaa

/- The law: sums. -/
set_option maxRecDepth 100000
namespace Go.Proofs.Ytbfejfejahoblaa
open Go Go.Sx
/-! ### plain -/
theorem TreeS.w {tb n u built : Nat} {l : List Pt} {A : Bag} (a : TreeS tb l n u built A) : WOk l := fun x hx => (vPt_iff.1 (a.val x hx)).2.2
theorem find_left {l : List Pt} {x1 x2 y1 y2 : Int} (hx : ∀ p ∈ l, p.1 ≤ x2) : l.find? (fun p => decide (x1 ≤ p.1 ∧ y1 ≤ p.2.1 ∧ p.2.1 ≤ y2)) = (l.filter (inB x1 x2 y1 y2)).head? := by
  rw [List.head?_filter]
  induction l with
  | nil => rfl
  | cons p l ih =>
    have h1 := hx p (List.mem_cons_self ..)
    have e : decide (x1 ≤ p.1 ∧ y1 ≤ p.2.1 ∧ p.2.1 ≤ y2) = inB x1 x2 y1 y2 p := by
      unfold inB
      rw [decide_eq_decide]; omega
    rw [List.find?_cons, List.find?_cons, e, ih fun q hq => hx q (List.mem_cons_of_mem _ hq)]
/-! ### the law -/
end Go.Proofs.Ytbfejfejahoblaa

/- The law: plays. -/
set_option maxRecDepth 100000
namespace Go.Proofs.Ytbfejfejahoblaa
open Go Go.Sx
abbrev T8 := Int × Int × Int × Int × Int × Int × Int × Int
abbrev tS8 : Ty T8 := ⟨54, 8, fun z => [.int .i64 z.1, .int .i64 z.2.1, .int .i64 z.2.2.1, .int .i64 z.2.2.2.1, .int .i64 z.2.2.2.2.1, .int .i64 z.2.2.2.2.2.1, .int .i64 z.2.2.2.2.2.2.1, .int .i64 z.2.2.2.2.2.2.2], (0, 0, 0, 0, 0, 0, 0, 0), fun _ => rfl, by decide, fun _ v hv => by simp at hv; rcases hv with rfl | rfl | rfl | rfl | rfl | rfl | rfl | rfl <;> rfl⟩
theorem ldC {h0 h : Hp} {B C : Bag} {b i j : Nat} {cs : List Value} {e : TypeId} {v : Value} (s : St h0 h B) [x : Bag.Has b B cs e C] (hv : cs[i + j]? = some v := by with_unfolding_all exact rfl) : Sx.cell h (((⟨b, 0, none⟩ : Addr).add i).add j) = some v := by
  rw [add_two]; exact s.ldB hv
theorem at2 {h0 h : Hp} {B C D : Bag} (s : St h0 h B) (A M : Bag) [x : Bag.Sub A B C] [y : Bag.Sub M C D] : St h0 h (A + (M + D)) := by
  have h1 := x.eq
  have h2 := y.eq
  rw [h1, h2] at s
  exact s
theorem wr4 {h0 h : Hp} {B C : Bag} {b : Nat} {e : TypeId} {c0 c1 c2 c3 v0 v1 v2 v3 : Value} {K : Hp → Prop} (s : St h0 h B) [x : Bag.Has b B [c0, c1, c2, c3] e C] (hK : ∀ h', St h0 h' (cA b [v0, v1, v2, v3] e + C) → K h') :
    Wr h ⟨b, 0, none⟩ v0 fun h1 => Wr h1 ((⟨b, 0, none⟩ : Addr).add 1) v1 fun h2 => Wr h2 ((⟨b, 0, none⟩ : Addr).add 2) v2 fun h3 => Wr h3 ((⟨b, 0, none⟩ : Addr).add 3) v3 K :=
  s.wr0 fun _ s => s.wrB fun _ s => s.wrB fun _ s => s.wrB fun _ s => hK _ s
/-- What holds after a step. -/
def DoneQ (h0 : Hp) (tb n u : Nat) (v : Value) (h' : Hp) : Prop := ∃ (q : Option Addr) (m d : Nat) (l' : List Pt) (M A : Bag) (b'' : Nat) (X : Bag), v = .tuple #[.slice q m d, .bool true] ∧ Sl tPt q m d l' M ∧ TreeS tb l' n u b'' A ∧ St h0 h' (A + (M + X))
theorem do_ok {h0 h : Hp} {tb n u b' : Nat} {p : Option Addr} {m c : Nat} {l : List Pt} {A M G : Bag} (a : TreeS tb l n u b' A) (hn : n ≤ 2000) (hu : u ≤ 1000) (o : Sl tPt p m c l M) (s : St h0 h (A + (M + G))) (x : T8) :
    HCalls Try.prog 24 #[ptr tb, .slice p m c, .agg #[.int .i64 x.1, .int .i64 x.2.1, .int .i64 x.2.2.1, .int .i64 x.2.2.2.1, .int .i64 x.2.2.2.2.1, .int .i64 x.2.2.2.2.2.1, .int .i64 x.2.2.2.2.2.2.1, .int .i64 x.2.2.2.2.2.2.2]] h (DoneQ h0 tb n (u + 1)) := by
  obtain ⟨k, px, py, pw, x1, x2, y1, y2⟩ := x
  have hm := o.len
  have hL := a.len
  have hw := a.w
  have a0 := a.more (Nat.le_succ u)
  refine l31_do_call ?_
  rw [l31_do_b0_eq]
  refine s.new (cs := [_, _, _, _, _, _, _, _]) fun b1 h1 _ s => ⟨_, _, _, _, s.ldB, (ldC s), (ldC s), (ldC s), ?_⟩
  refine s.new (cs := [_, _, _, _]) fun b2 h2 _ s => wr4 s fun h3 s => ?_
  refine ⟨by decide, _, s.ldB, by decide, _, s.ldB, by decide, _, s.ldB, by decide, _, s.ldB, ?_⟩
  refine (Report_r (o.rd (s.at M)) (by omega) x1 x2 y1 y2).mono fun v h4 ⟨q1, m1, d1, R, hv, oR, st⟩ => ⟨_, _, _, hv, ?_⟩
  have s := s.join st
  have hmR := oR.len
  refine ⟨_, s.ld0, condP (fun hk => ?_) (fun hk => condP (fun hk1 => ?_) (fun hk1 => condP (fun hk2 => ?_) (fun hk2 => condP (fun hk3 => ?_) (fun hk3 => condP (fun hk4 => ?_) (fun hk4 => condP (fun hk5 => ?_) (fun hk5 => ?_))))))⟩
  · refine ⟨_, _, _, s.ldB, (ldC s), (ldC s), (Add_r o (s.at M) (by omega) (px, py, pw)).mono fun v h5 ⟨q, m', d, l', e, M', hv, o', s, hc⟩ => ⟨_, _, _, _, hv, ?_⟩⟩
    refine ⟨_, _, _, s.ldB, (ldC s), (ldC s), (Add_s a (s.at A) hn (by omega) (px, py, pw)).mono fun v6 h6 hv6 => ?_⟩
    clear hv
    rcases hc with ⟨c1, rfl, rfl⟩ | ⟨c1, c2, rfl, rfl⟩ | ⟨c1, c2, c3, rfl, rfl⟩ | ⟨c1, c2, c3, rfl, rfl⟩
    · rw [if_pos c1] at hv6
      obtain ⟨hv, s⟩ := hv6
      exact ⟨_, hv, q, m', d, _, M', A, b', _, rfl, o', a0, at2 s A M'⟩
    · rw [if_neg (by rw [c1]; decide), if_pos c2] at hv6
      obtain ⟨hv, s⟩ := hv6
      exact ⟨_, hv, q, m', d, _, M', A, b', _, rfl, o', a0, at2 s A M'⟩
    · rw [if_neg (by rw [c1]; decide), if_neg c2, if_pos (by omega)] at hv6
      obtain ⟨hv, s⟩ := hv6
      exact ⟨_, hv, q, m', d, _, M', A, b', _, rfl, o', a0, at2 s A M'⟩
    · rw [if_neg (by rw [c1]; decide), if_neg c2, if_neg (by omega)] at hv6
      obtain ⟨hv, b'', A', _, a', s⟩ := hv6
      exact ⟨_, hv, q, m', d, _, M', A', b'', _, rfl, o', a', at2 s A' M'⟩
  · refine ⟨_, s.ldB, _, (ldC s), (Remove_r o (s.at M) (by omega) a.sorted px py).mono fun v h5 ⟨q, m', d, l', e, M', hv, o', s, hc⟩ => ⟨_, _, _, _, hv, ?_⟩⟩
    refine ⟨_, s.ldB, _, (ldC s), (Remove_s a (s.at A) hn (by omega) px py).mono fun v6 h6 hv6 => ?_⟩
    clear hv
    rcases hc with ⟨c1, rfl, rfl⟩ | ⟨c1, rfl, rfl⟩
    · rw [if_neg c1] at hv6
      obtain ⟨hv, rfl⟩ := hv6
      exact ⟨_, hv, q, m', d, _, M', A, b', _, rfl, o', a0, at2 s A M'⟩
    · rw [if_pos c1] at hv6
      obtain ⟨hv, b'', A', _, a', s⟩ := hv6
      exact ⟨_, hv, q, m', d, _, M', A', b'', _, rfl, o', a', at2 s A' M'⟩
  · refine ⟨by decide, _, s.ldB, by decide, _, s.ldB, by decide, _, s.ldB, by decide, _, s.ldB, (Count_s a (s.at A) x1 x2 y1 y2).mono fun v h5 ⟨e5, hv⟩ => ⟨_, _, hv, ?_⟩⟩
    have s := s.grow e5
    refine condYes (decide_eq_true (by unfold cntB; rw [hmR])) ⟨p, m, c, l, M, A, b', _, rfl, o, a0, at2 s A M⟩
  · refine ⟨by decide, _, s.ldB, by decide, _, s.ldB, by decide, _, s.ldB, by decide, _, s.ldB, (Sum_s a (s.at A) x1 x2 y1 y2).mono fun v h5 ⟨e5, hv⟩ => ⟨_, _, hv, ?_⟩⟩
    have s := s.grow e5
    have := List.length_filter_le (inB x1 x2 y1 y2) l
    refine (Sum_r (oR.rd (s.at R)) (by omega) (fun x hx => hw x (List.mem_filter.1 hx).1)).mono fun v h6 ⟨hh, hv⟩ => ⟨_, hv, ?_⟩
    subst hh
    exact condYes (decide_eq_true rfl) ⟨p, m, c, l, M, A, b', _, rfl, o, a0, at2 s A M⟩
  · refine ⟨by decide, _, s.ldB, by decide, _, s.ldB, by decide, _, s.ldB, by decide, _, s.ldB, (Report_s a (s.at A) x1 x2 y1 y2).mono fun v h5 ⟨q2, m2, d2, R2, hv, o2, s⟩ => ⟨_, _, _, _, hv, ?_⟩⟩
    have := o2.len
    have := List.length_filter_le (inB x1 x2 y1 y2) l
    refine (EqualPt (o2.rd s) (oR.rd (s.at R)) (by omega)).mono fun v h6 ⟨hh, hv⟩ => ⟨_, hv, ?_⟩
    subst hh
    exact condYes (decide_eq_true rfl) ⟨p, m, c, l, M, A, b', _, rfl, o, a0, at2 s A M⟩
  · refine ⟨by decide, _, s.ldB, by decide, _, s.ldB, by decide, _, s.ldB, (Report_r (o.rd (s.at M)) (by omega) x1 4611686018427387904 y1 y2).mono fun v h5 ⟨q2, m2, d2, R2, hv, o2, st⟩ => ⟨_, _, _, hv, ?_⟩⟩
    have s := s.join st
    refine ⟨by decide, _, s.ldB, by decide, _, s.ldB, by decide, _, s.ldB, (Leftmost_s a (s.at A) x1 y1 y2).mono fun v h6 ⟨s, hv⟩ => ?_⟩
    rw [find_left (x2 := 4611686018427387904) fun z hz => by have := (vPt_iff.1 (a.val z hz)).1; omega] at hv
    have hm2 := o2.len
    cases hR : l.filter (inB x1 4611686018427387904 y1 y2) with
    | nil =>
      rw [hR] at hv hm2
      refine ⟨_, _, _, _, hv, s.new (cs := [_, _, _]) fun b h3 _ s => s.wr3 fun h4 s => condYes (decide_eq_true (by rw [← hm2]; rfl)) ⟨_, _, _, s.ld0, s.ldB, s.ldB, _, eql_pt (0, 0, 0) (0, 0, 0), condYes (by decide) ⟨p, m, c, l, M, A, b', _, rfl, o, a0, at2 s A M⟩⟩⟩
    | cons z t =>
      rw [hR] at hv hm2 o2
      rw [List.length_cons] at hm2
      refine ⟨_, _, _, _, hv, s.new (cs := [_, _, _]) fun b h3 _ s => s.wr3 fun h4 s => condNo (decide_eq_false (by omega)) ⟨_, _, _, s.ld0, s.ldB, s.ldB, ?_⟩⟩
      refine ldPT (i' := 0) (o2.rd (s.at R2)) rfl (by omega) ⟨_, eql_pt z z, condYes (by rw [decide_eq_true rfl]) ⟨p, m, c, l, M, A, b', _, rfl, o, a0, at2 s A M⟩⟩
  · rw [l31_do_b1_eq]
    refine (Len_s a (s.at A)).mono fun v h5 ⟨hh, hv⟩ => ⟨_, hv, ?_⟩
    subst hh
    rw [hm, decide_eq_true rfl]
    exact ⟨p, m, c, l, M, A, b', _, rfl, o, a0, at2 s A M⟩
theorem plays5 {h0 h : Hp} {tb n u b' : Nat} {p : Option Addr} {m c : Nat} {l : List Pt} {A M X : Bag} (a : TreeS tb l n u b' A) (o : Sl tPt p m c l M) (s : St h0 h (A + (M + X))) :
    l31_RangetreePlays_b5 (some ⟨tb, 0, none⟩) p m c h (fun v h' => v = .bool true ∧ Ext h0 h') := by
  have hm := o.len
  have hL := a.len
  rw [l31_RangetreePlays_b5_eq]
  refine (Len_s a s).mono fun v h1 ⟨hh, hv⟩ => ⟨_, hv, condYes (decide_eq_true (by rw [hm])) ?_⟩
  subst hh
  refine (List_s a s).mono fun v h2 ⟨q2, d2, B2, hv, o2, s⟩ => ⟨_, _, _, hv, ?_⟩
  refine (EqualPt (o2.rd s) (o.rd (s.at M)) (by omega)).mono fun v h3 ⟨hh, hv⟩ => ⟨_, hv, ?_⟩
  subst hh
  exact ⟨by rw [decide_eq_true rfl], s.ext⟩
theorem plays2 {h0 h : Hp} {tb n b' : Nat} {p sp : Option Addr} {m c sn sc : Nat} {l : List Pt} {ss : List T8} {A M X : Bag} (a : TreeS tb l n 0 b' A) (hn : n ≤ 2000) (o : Sl tPt p m c l M) (s : St h0 h (A + (M + X))) (rs : RdT tS8 h0 sp sn ss) (hsn : sn ≤ 50) :
    l31_RangetreePlays_b2 sp sn sc (some ⟨tb, 0, none⟩) p m c h (fun v h' => v = .bool true ∧ Ext h0 h') := by
  have hsl := rs.len
  rw [l31_RangetreePlays_b2_eq]
  refine ⟨fun q h' => ∃ (i b' : Nat) (l : List Pt) (A M X : Bag), q.2.1 = i ∧ i ≤ sn ∧ TreeS tb l n i b' A ∧ Sl tPt q.1.1 q.1.2.1 q.1.2.2 l M ∧ St h0 h' (A + (M + X)), fun q _ => (sn - q.2.1).toNat, ⟨0, b', l, A, M, X, rfl, Nat.zero_le _, a, o, s⟩, ?_⟩
  clear a o s
  rintro ⟨⟨p, m, c⟩, z, _⟩ h2 ⟨i, b', l, A, M, X, hz, hi, a, o, s⟩
  dsimp only at hz o ⊢
  subst hz
  rw [l31_RangetreePlays_b3_eq]
  refine condP (fun hlt => ?_) (fun hge => ?_)
  · refine (rs.ext s.ext).idx (i := (i : Int)) (by omega) (by omega) fun ad _ hc => ?_
    have e : Int.toNat (i : Int) = i := Int.toNat_natCast i
    rw [e] at hc ⊢
    generalize ss.getD i tS8.d = x at hc
    refine ⟨_, _, _, _, _, _, _, _, by simpa [add_add] using hc 0 (by decide), hc 1 (by decide), hc 2 (by decide), hc 3 (by decide), hc 4 (by decide), hc 5 (by decide), hc 6 (by decide), hc 7 (by decide), ?_⟩
    refine s.new (cs := [_, _, _, _, _, _, _, _]) fun b h3 _ s => ?_
    refine s.wr0 fun _ s => s.wrB fun _ s => s.wrB fun _ s => s.wrB fun _ s => s.wrB fun _ s => s.wrB fun _ s => s.wrB fun _ s => s.wrB fun _ s => ?_
    refine ⟨_, _, _, _, _, _, _, _, s.ld0, s.ldB, s.ldB, s.ldB, s.ldB, s.ldB, s.ldB, s.ldB, ?_⟩
    refine (do_ok a hn (by omega) o (at2 s A M) x).mono fun v h4 ⟨q, m', d, l', M', A', b'', X', hv, o', a', s⟩ => ⟨_, _, _, _, hv, condNo rfl ?_⟩
    rw [l31_RangetreePlays_b4_eq]
    exact ⟨⟨by omega, by omega⟩, ⟨i + 1, b'', l', A', M', X', by push_cast; rfl, by omega, a', o', s⟩, by dsimp only; omega⟩
  · exact plays5 a o s
theorem plays1 {h0 h : Hp} {p sp : Option Addr} {n c sn sc : Nat} {l : List Pt} {ss : List T8} (x0 : Ext h0 h) (r : RdT tPt h0 p n l) (hn : n ≤ 1002) (rs : RdT tS8 h0 sp sn ss) (hsn : sn ≤ 50) :
    l31_RangetreePlays_b1 p n c sp sn sc h (fun v h' => v = .bool true ∧ Ext h0 h') := by
  have hll := r.len
  rw [l31_RangetreePlays_b1_eq]
  refine (Make_s (r.ext x0) (by omega)).mono fun v h1 hv => ?_
  by_cases c1 : l.any (fun x => !vPt x) = true
  · rw [if_pos c1] at hv
    obtain ⟨hv, x1⟩ := hv
    refine ⟨_, _, hv, (Made_r (r.ext (x0.trans x1)) (by omega)).mono fun v h2 hv => ?_⟩
    rw [if_pos c1] at hv
    exact ⟨_, _, _, _, hv.1, condYes rfl (condYes rfl ⟨rfl, x0.trans (x1.trans hv.2)⟩)⟩
  rw [if_neg c1] at hv
  by_cases c2 : ¬ (l.map place).Nodup
  · rw [if_pos c2] at hv
    obtain ⟨hv, x1⟩ := hv
    refine ⟨_, _, hv, (Made_r (r.ext (x0.trans x1)) (by omega)).mono fun v h2 hv => ?_⟩
    rw [if_neg c1, if_pos c2] at hv
    exact ⟨_, _, _, _, hv.1, condYes rfl (condYes rfl ⟨rfl, x0.trans (x1.trans hv.2)⟩)⟩
  rw [if_neg c2] at hv
  by_cases c3 : 1000 < n
  · rw [if_pos c3] at hv
    obtain ⟨hv, x1⟩ := hv
    refine ⟨_, _, hv, (Made_r (r.ext (x0.trans x1)) (by omega)).mono fun v h2 hv => ?_⟩
    rw [if_neg c1, if_neg c2, if_pos c3] at hv
    exact ⟨_, _, _, _, hv.1, condYes rfl (condYes rfl ⟨rfl, x0.trans (x1.trans hv.2)⟩)⟩
  rw [if_neg c3] at hv
  obtain ⟨tb, A, rfl, a, st⟩ := hv
  have s := ((St.start h0).grow x0).join st
  refine ⟨_, _, rfl, (Made_r (r.ext s.ext) (by omega)).mono fun v h2 hv => ?_⟩
  rw [if_neg c1, if_neg c2, if_neg c3] at hv
  obtain ⟨q, d, M, rfl, o, st⟩ := hv
  have s := s.join st
  refine ⟨_, _, _, _, rfl, condNo rfl (condNo rfl (condNo rfl ?_))⟩
  have hL := a.len
  refine (List_s a (s.at A)).mono fun v h3 ⟨q2, d2, B2, hv, o2, s⟩ => ⟨_, _, _, hv, ?_⟩
  refine (EqualPt (o2.rd s) (o.rd (s.at M)) (by omega)).mono fun v h4 ⟨hh, hv⟩ => ⟨_, hv, condNo (by rw [decide_eq_true rfl]; rfl) ?_⟩
  subst hh
  exact plays2 a (by omega) o (at2 s A M) rs hsn
theorem plays_law {h : Hp} {p sp : Option Addr} {n c sn sc : Nat} {l : List Pt} {ss : List T8} (r : RdT tPt h p n l) (rs : RdT tS8 h sp sn ss) :
    HCalls Try.prog 7 #[.slice p n c, .slice sp sn sc] h (fun v h' => v = .bool true ∧ Ext h h') := by
  refine l31_RangetreePlays_call ?_
  rw [l31_RangetreePlays_b0_eq]
  have hend : ∀ h1, Ext h h1 → HCalls Try.prog 9 #[] h1 (fun v2 h3 => ∃ r2 : Bool, v2 = .bool r2 ∧ (Value.bool r2 = .bool true ∧ Ext h h3)) := fun h1 x1 => (Awake_r h1).mono fun v h2 ⟨x2, hv⟩ => ⟨_, hv, rfl, x1.trans x2⟩
  refine (Awake_r h).mono fun v h1 ⟨x1, hv⟩ => ⟨_, hv, condNo rfl (condP (fun _ => condP (fun _ => hend h1 x1) (fun _ => condP (fun _ => hend h1 x1) (fun _ => condP (fun _ => hend h1 x1) (fun _ => ?_)))) (fun hn => condP (fun _ => hend h1 x1) (fun _ => condP (fun _ => hend h1 x1) (fun hm => ?_))))⟩
  · exact plays1 x1 r (by omega) rs (by omega)
  · exact plays1 x1 r (by omega) rs (by omega)
end Go.Proofs.Ytbfejfejahoblaa

/- How a slice that is handed in is read: elements of any number of cells. -/
namespace Go.Sx
open Go Go.ChangeShapes Go.WideShapes Go.Deep
section
variable {H : Type} {enc : TypeId × Value → H} {P : Program} {w : World} {base : Nat} {sp : Nat → Bool} {held : Bool} {α : Type}
theorem rd_flat {t : TypeId} (T : Ty α) {W : α → Prop} {a : Option Addr} {len cap : Nat} {d : DataW H} {ps : List MemPlace} (ht : P.underlying t = some (.slice T.e)) (hc : P.cellsOf T.e = T.sz)
    (dec : ∀ n cs x, DataW.trod enc P w base sp held n T.e cs = some x → ∃ a, cs = T.enc a ∧ W a) (h : DataW.Trod enc P w base sp held t (.slice a len cap) d ps) :
    ∃ xs : List α, RdT T w.heap a len xs ∧ len ≤ cap ∧ ∀ x ∈ xs, W x := by
  obtain ⟨fuel, hf⟩ := h
  have e0 : (Value.slice a len cap).cells.toList = [.slice a len cap] := rfl
  rw [e0] at hf
  rcases open_slice ht hf with ⟨hcs, _⟩ | ⟨x, l, c, m, n, D, Pl, hcs, _, hl, _, hm, _, hx⟩
  · injection hcs with h1 _
    injection h1 with h1 h2 h3
    subst h1 h2 h3
    exact ⟨[], RdT.nil _ _, Nat.le_refl _, fun _ h => nomatch h⟩
  · injection hcs with h1 _
    injection h1 with h1 h2 h3
    subst h1 h2 h3
    have hlm : len ≤ m := by rw [hm]; split <;> omega
    haveI : Inhabited α := ⟨T.d⟩
    obtain ⟨f, hf⟩ := choose_lt (α := α) (n := len) (p := fun i z => w.cells? base (x.add (i * T.sz)) T.sz = some (T.enc z) ∧ W z) (fun i hi => by
      obtain ⟨cs, h1, h2⟩ := hx i (by omega)
      obtain ⟨z, hz, hw⟩ := dec n cs _ h2
      rw [hc] at h1
      exact ⟨z, by rw [h1, hz], hw⟩)
    refine ⟨(List.range len).map f, ⟨by simp, .inr ⟨x, rfl, fun i hi => ?_⟩⟩, hl, fun z hz => ?_⟩
    · have hp := T.pos
      have hdm : T.sz * (i / T.sz) + i % T.sz = i := Nat.div_add_mod i T.sz
      have hq : i / T.sz < len := (Nat.div_lt_iff_lt_mul hp).2 hi
      have hr : i % T.sz < T.sz := Nat.mod_lt _ hp
      obtain ⟨_, _, h3⟩ := World.cells?_some (hf _ hq).1
      have h4 := h3 _ hr
      have e1 : i / T.sz * T.sz + i % T.sz = i := by rw [Nat.mul_comm]; exact hdm
      rw [add_add, e1] at h4
      show cell w.heap (x.add i) = _
      rw [← cell_eq, h4]
      have := T.cells_get ((List.range len).map f) (i := i / T.sz) (j := i % T.sz) (by simpa using hq) hr
      rw [e1] at this
      rw [this]
      simp [List.getD, hq]
    · obtain ⟨i, hi, rfl⟩ := List.mem_map.1 hz
      exact (hf i (List.mem_range.1 hi)).2
theorem dec_int {e : TypeId} {k : IntKind} (he : P.underlying e = some (.int k)) (n : Nat) (cs : List Value) (x : DataW H × List MemPlace) (h : DataW.trod enc P w base sp held n e cs = some x) : ∃ z, cs = [.int k z] ∧ (Lit.int k z).wf = true := by
  obtain ⟨z, h1, _, h2⟩ := DataW.trod_int he h
  exact ⟨z, h1, h2⟩
end
end Go.Sx

/- How the law's arguments are read. -/
set_option maxRecDepth 10000
namespace Go.Proofs.Ytbfejfejahoblaa
open Go Go.Sx Go.ChangeShapes Go.WideShapes Go.ChangeAt Go.RowKit Go.Deep

theorem own : ownKnob Try.prog.godebug = none := by kernel_rfl
theorem laidOut : laidOutB Try.prog = true := by kernel_rfl
theorem below_of {P : Program} {f : FuncId} {args : Array Value} {w : World} (hc : HCalls P f args w.heap (fun v h' => v = .bool true ∧ Ext w.heap h')) :
    Calls P f args w fun e w' => e = .returned (.bool true) ∧ Below w.heap.size w w' :=
  (hc w rfl).mono fun e w' ⟨v, he, hs, hv, hx⟩ => ⟨by rw [he, hv], ⟨hs.os, hs.tape, hs.output, hx.size, hx.same⟩⟩
section
variable {H : Type} {enc : TypeId × Value → H} {w : World} {base : Nat} {held : Bool} {a : Option Addr} {len cap : Nat} {d : DataW H} {ps : List MemPlace}
theorem dec_pt (n : Nat) (cs : List Value) (x : DataW H × List MemPlace) (h : DataW.trod enc Try.prog w base (fun _ => true) held n 33 cs = some x) : ∃ p : Pt, cs = [.int .i64 p.1, .int .i64 p.2.1, .int .i64 p.2.2] ∧ (InR p.1 ∧ InR p.2.1 ∧ InR p.2.2) := by
  obtain ⟨xs, m, _, _, hl, hxl, hx⟩ := DataW.trod_struct Try.underlying33 h
  rw [show Try.prog.cellsOf 33 = 3 by kernel_rfl] at hl
  match cs, xs, hl, hxl with
  | [c0, c1, c2], [y0, y1, y2], _, _ =>
    obtain ⟨z0, e0, w0⟩ := dec_int (k := .i64) (by kernel_rfl) _ _ _ (hx 0 _ rfl)
    obtain ⟨z1, e1, w1⟩ := dec_int (k := .i64) (by kernel_rfl) _ _ _ (hx 1 _ rfl)
    obtain ⟨z2, e2, w2⟩ := dec_int (k := .i64) (by kernel_rfl) _ _ _ (hx 2 _ rfl)
    have f0 : c0 = .int .i64 z0 := (List.cons.inj (show [c0] = [Value.int .i64 z0] from e0)).1
    have f1 : c1 = .int .i64 z1 := (List.cons.inj (show [c1] = [Value.int .i64 z1] from e1)).1
    have f2 : c2 = .int .i64 z2 := (List.cons.inj (show [c2] = [Value.int .i64 z2] from e2)).1
    exact ⟨(z0, z1, z2), by rw [f0, f1, f2], bounds_i64 w0, bounds_i64 w1, bounds_i64 w2⟩
theorem rd_points (h : DataW.Trod enc Try.prog w base (fun _ => true) held 22 (.slice a len cap) d ps) : ∃ l : List Pt, RdT tPt w.heap a len l ∧ len ≤ cap ∧ ∀ x ∈ l, InR x.1 ∧ InR x.2.1 ∧ InR x.2.2 :=
  rd_flat tPt Try.underlying22 (by kernel_rfl) dec_pt h
theorem dec_arr4 (n : Nat) (cs : List Value) (x : DataW H × List MemPlace) (h : DataW.trod enc Try.prog w base (fun _ => true) held n 42 cs = some x) :
    ∃ a b c d : Int, cs = [.int .i64 a, .int .i64 b, .int .i64 c, .int .i64 d] ∧ (InR a ∧ InR b ∧ InR c ∧ InR d) := by
  obtain ⟨xs, m, _, _, hl, hxl, hx⟩ := DataW.trod_array Try.underlying42 h
  rw [show Try.prog.cellsOf 42 = 4 by kernel_rfl] at hl
  match cs, hl with
  | [c0, c1, c2, c3], _ =>
    have h0 := hx 0 (by omega)
    have h1 := hx 1 (by omega)
    have h2 := hx 2 (by omega)
    have h3 := hx 3 (by omega)
    rw [show Try.prog.cellsOf 3 = 1 by kernel_rfl] at h0 h1 h2 h3
    rw [List.getElem?_eq_getElem (by omega)] at h0 h1 h2 h3
    obtain ⟨z0, e0, _, w0⟩ := DataW.trod_int Try.underlying3 h0
    obtain ⟨z1, e1, _, w1⟩ := DataW.trod_int Try.underlying3 h1
    obtain ⟨z2, e2, _, w2⟩ := DataW.trod_int Try.underlying3 h2
    obtain ⟨z3, e3, _, w3⟩ := DataW.trod_int Try.underlying3 h3
    simp at e0 e1 e2 e3
    subst e0 e1 e2 e3
    exact ⟨z0, z1, z2, z3, rfl, bounds_i64 w0, bounds_i64 w1, bounds_i64 w2, bounds_i64 w3⟩
end
end Go.Proofs.Ytbfejfejahoblaa

/- How the law's arguments are read: steps. -/
set_option maxRecDepth 10000
namespace Go.Proofs.Ytbfejfejahoblaa
open Go Go.Sx Go.ChangeShapes Go.WideShapes Go.ChangeAt Go.RowKit Go.Deep
section
variable {H : Type} {enc : TypeId × Value → H} {w : World} {base : Nat} {held : Bool} {a : Option Addr} {len cap : Nat} {d : DataW H} {ps : List MemPlace}
theorem rd_steps (h : DataW.Trod enc Try.prog w base (fun _ => true) held 50 (.slice a len cap) d ps) : ∃ l : List T8, RdT tS8 w.heap a len l ∧ len ≤ cap ∧ ∀ x ∈ l, True :=
  rd_flat (W := fun _ => True) tS8 Try.underlying50 (by kernel_rfl) (fun n cs x h => by
    obtain ⟨xs, m, _, _, hl, hxl, hx⟩ := DataW.trod_struct Try.underlying54 h
    rw [show Try.prog.cellsOf 54 = 8 by kernel_rfl] at hl
    match cs, xs, hl, hxl with
    | [c0, c1, c2, c3, c4, c5, c6, c7], [y0, y1, y2], _, _ =>
      obtain ⟨z0, e0, w0⟩ := dec_int (k := .i64) (by kernel_rfl) _ _ _ (hx 0 _ rfl)
      have f0 : c0 = .int .i64 z0 := (List.cons.inj (show [c0] = [Value.int .i64 z0] from e0)).1
      have h1 : DataW.trod enc Try.prog w base (fun _ => true) held m 33 [c1, c2, c3] = some y1 := hx 1 _ rfl
      have h2 : DataW.trod enc Try.prog w base (fun _ => true) held m 42 [c4, c5, c6, c7] = some y2 := hx 2 _ rfl
      obtain ⟨p, hp, _⟩ := dec_pt _ _ _ h1
      obtain ⟨q0, q1, q2, q3, hq, _⟩ := dec_arr4 _ _ _ h2
      simp only [List.cons.injEq, and_true] at hp hq
      obtain ⟨rfl, rfl, rfl⟩ := hp
      obtain ⟨rfl, rfl, rfl, rfl⟩ := hq
      subst f0
      exact ⟨(z0, p.1, p.2.1, p.2.2, q0, q1, q2, q3), rfl, trivial⟩) h
end
end Go.Proofs.Ytbfejfejahoblaa
