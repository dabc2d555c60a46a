/- Part L5 of the proof: contracts of functions of the program, and what follows from them. -/
import Derived.Test.YtmlfoefadmlhpaaSxT9
import Derived.Test.YtmlfoefadmlhpaaSxL2
set_option maxRecDepth 10000
namespace Go.Proofs.Ytmlfoefadmlhpaa
open Go Go.Sx

theorem LRanges_ok {h : Hp} {p : Option Addr} {n c : Nat} {l : List Int} (r : Rd h p n (ints l)) (hnc : n ≤ c) (v w : Int) :
    HCalls Try.prog 9 #[.slice p n c, .int .i64 v, .int .i64 w] h (fun v h' => v = .bool true ∧ Ext h h') := by
  have hzl : l.length = n := by have := r.len; simpa using this
  refine l48_SuccinctRanges_call ?_
  rw [l48_SuccinctRanges_b0_eq]
  refine (awake_ok h).mono fun v1 h1 ⟨hv1, x1⟩ => ?_
  refine ⟨_, hv1, condNo rfl ?_⟩
  refine (many_ok h1).mono fun v2 h2 ⟨hv2, hh⟩ => ?_
  subst hh
  refine ⟨_, hv2, condP (fun _ => ⟨rfl, x1⟩) fun hm => ?_⟩
  refine (lmade_ok (r.ext x1) (by omega) hnc).mono fun v3 h3 ⟨x3, hv3⟩ => ?_
  have x13 := x1.trans x3
  rcases hv3 with ⟨ok, hn1, a, rfl, lt⟩ | ⟨rfl, _⟩
  rotate_left
  · exact ⟨_, _, _, rfl, condNo rfl (condYes rfl ⟨rfl, x13⟩)⟩
  refine ⟨_, _, _, rfl, condNo rfl (condNo rfl ?_)⟩
  refine condP (fun _ => ⟨rfl, x13⟩) fun hv0 => condP (fun _ => ⟨rfl, x13⟩) fun hw0 => condP (fun _ => ⟨rfl, x13⟩) fun hvn => condP (fun _ => ⟨rfl, x13⟩) fun hwn => ?_
  have t := lt.self
  have B := txt_bal0 ok
  have tl := txt_len ok
  generalize txt l 0 = b at t B tl
  have hs := t.small
  obtain ⟨v, rfl⟩ := Int.eq_ofNat_of_zero_le (show 0 ≤ v by omega)
  obtain ⟨w, rfl⟩ := Int.eq_ofNat_of_zero_le (show 0 ≤ w by omega)
  have hbn : b.length / 2 = n := by omega
  have hvb : v < b.length / 2 := by omega
  have hwb : w < b.length / 2 := by omega
  have notN : ∀ {u : Nat} {X : Prop}, u < b.length / 2 → ¬ isN b (u : Int) → X := fun hu h => absurd ⟨by omega, by omega⟩ h
  rw [l48_SuccinctRanges_b1_eq]
  refine (Size_ok t B (v : Int)).mono fun v4 h4 ⟨x4, c4⟩ => ?_
  rcases c4 with ⟨q, o, j, e4, _, d, rfl⟩ | ⟨hno, _⟩
  rotate_left
  · exact notN hvb hno
  obtain rfl : v = q := by omega
  refine ⟨_, _, rfl, ?_⟩
  have t4 := t.ext x4
  refine (Depth_ok t4 B (v : Int)).mono fun v5 h5 ⟨x5, c5⟩ => ?_
  rcases c5 with ⟨q, o5, e5, _, s5, rfl⟩ | ⟨hno, _⟩
  rotate_left
  · exact notN hvb hno
  obtain rfl : v = q := by omega
  obtain rfl := sel_unique d.sel s5
  have t5 := t4.ext x5
  have x15 := (x13.trans x4).trans x5
  have hds := d.size
  have hoj := d.close.1
  have hjl := d.close.2.1
  have hall := cnt_all B
  have hcj := cntB_mono b true (show j + 1 ≤ b.length by omega)
  generalize hnv : (j - o + 1) / 2 = nv at hds ⊢
  refine ⟨_, _, rfl, condN (fun hne => absurd rfl hne) fun _ => condN (fun hne => absurd rfl hne) fun _ => condP (fun hc => by omega) fun _ => ⟨⟨by omega, by omega⟩, condP (fun hc => by omega) fun _ => ?_⟩⟩
  obtain ⟨ow, jw, dw⟩ := nd_ex B hwb
  have hiff := anc_iff d dw
  rw [hnv] at hiff
  -- the end
  have b8 : ∀ (up : Int) h6, Ext h5 h6 → (up = (v : Int) ↔ Anc b v w) → l48_SuccinctRanges_b8 (v : Int) (w : Int) (some a) (nv : Int) up h6 (fun v h' => v = .bool true ∧ Ext h h') := by
    intro up h6 x6 hup
    rw [l48_SuccinctRanges_b8_eq]
    refine (Common_ok (t5.ext x6) B (v : Int) (w : Int)).mono fun v10 h10 ⟨x10, c10⟩ => ?_
    have xx := (x15.trans x6).trans x10
    rcases c10 with ⟨v', w', z, e1, e2, _, _, hl, rfl⟩ | ⟨hno, _⟩
    rotate_left
    · exact absurd ⟨⟨by omega, by omega⟩, ⟨by omega, by omega⟩⟩ hno
    obtain rfl : v = v' := by omega
    obtain rfl : w = w' := by omega
    have hz : z = v ↔ Anc b v w := by
      obtain ⟨⟨oz, jz, dz⟩, hl⟩ := hl
      constructor
      · rintro rfl; exact ((hl z).2 (Anc.refl dz)).2
      · intro ha
        have h1 := ((hl v).1 ⟨Anc.refl d, ha⟩).le
        have h2 := (((hl z).2 (Anc.refl dz)).1).le
        omega
    refine ⟨_, _, rfl, ?_⟩
    have fin : ((decide ((z : Int) = (v : Int))) == (decide (up = (v : Int)))) = true := by
      rw [beq_iff_eq, decide_eq_decide, hup, ← hz]
      omega
    refine condP (fun hle => ?_) (fun hgt => ?_)
    · refine ⟨⟨by omega, by omega⟩, condYes ?_ (condYes (decide_eq_true rfl) ⟨by rw [fin], xx⟩)⟩
      rw [beq_iff_eq, decide_eq_decide, hup, hiff]
      omega
    · refine condYes ?_ (condYes (decide_eq_true rfl) ⟨by rw [fin], xx⟩)
      rw [beq_iff_eq, decide_eq_false_iff_not, hup, hiff]
      omega
  -- the way up
  have b4 : ∀ (next : Int) h6, Ext h5 h6 → next = (v : Int) + nv → l48_SuccinctRanges_b4 p n c (v : Int) (w : Int) (some a) (nv : Int) next h6 (fun v h' => v = .bool true ∧ Ext h h') := by
    intro next h6 x6 hnx
    rw [l48_SuccinctRanges_b4_eq]
    refine ⟨⟨by omega, by omega⟩, condN (fun hne => absurd hnx hne) fun _ => ?_⟩
    refine ⟨fun s h' => Ext h5 h' ∧ ∃ k : Nat, s.2.1 = k ∧ ((∃ u : Nat, s.1 = u ∧ u + k ≤ w ∧ Anc b u w ∧ (Anc b v w → Anc b v u)) ∨ (s.1 = -1 ∧ ¬ Anc b v w ∧ k ≤ n)), fun s _ => (n + 1 - s.2.1).toNat,
      ⟨x6, 0, rfl, .inl ⟨w, rfl, by omega, Anc.refl dw, fun h => h⟩⟩, ?_⟩
    rintro ⟨su, sk, _⟩ h7 ⟨x7, k, hk, hor⟩
    simp only at hk hor
    subst hk
    dsimp only
    rw [l48_SuccinctRanges_b6_eq]
    rcases hor with ⟨u, rfl, huk, hau, hvu⟩ | ⟨rfl, hno, hkn⟩
    · refine condP (fun hlt => ?_) (fun hge => by omega)
      refine condP (fun heq => b8 _ h7 x7 ⟨fun _ => by rw [show v = u by omega]; exact hau, fun _ => heq⟩) fun hne => ?_
      refine condP (fun hc => by omega) fun _ => condP (fun hc => by omega) fun _ => ?_
      rw [l48_SuccinctRanges_b9_eq]
      have hub : u < b.length / 2 := by omega
      refine (Parent_ok (t5.ext x7) B (u : Int)).mono fun v11 h11 ⟨x11, c11⟩ => ?_
      rcases c11 with ⟨u', e11, _, q, rfl, hq⟩ | ⟨hno, _⟩
      rotate_left
      · exact notN hub hno
      obtain rfl : u = u' := by omega
      refine ⟨_, _, rfl, condN (fun hne => absurd rfl hne) fun _ => ?_⟩
      rw [l48_SuccinctRanges_b10_eq]
      refine ⟨⟨by omega, by omega⟩, ⟨x7.trans x11, k + 1, by simp only; omega, ?_⟩, by simp only; omega⟩
      have hvu' : Anc b v w → v ≠ u := fun _ e => hne (by omega)
      rcases hq with ⟨h0, rfl⟩ | ⟨pp, hp, rfl⟩
      · refine .inr ⟨rfl, fun ha => ?_, by omega⟩
        have h8 := (hvu ha).le
        exact hvu' ha (by omega)
      · have hpl := hp.lt
        exact .inl ⟨pp, rfl, by omega, (hp.anc B).trans hau, fun ha => (hvu ha).par B (hvu' ha) hp⟩
    · have hb8 := b8 (-1) h7 x7 ⟨fun h => by omega, fun h => absurd h hno⟩
      refine condP (fun hlt => ?_) (fun hge => hb8)
      exact condP (fun heq => by omega) fun _ => condP (fun _ => hb8) fun hc => by omega
  rw [l48_SuccinctRanges_b2_eq]
  refine ⟨⟨by omega, by omega⟩, ?_⟩
  refine ⟨fun s h' => Ext h5 h' ∧ ∃ k i : Nat, s.2.1 = k ∧ Sib b (o + 1) k i ∧ s.1 = (cntB b true i : Nat) ∧ v + 1 + k ≤ cntB b true i, fun s _ => (nv - s.2.1).toNat, ⟨Ext.refl _, 0, o + 1, rfl, .zero, ?_, ?_⟩, ?_⟩
  · have hcs := cntB_succ b true o (by omega)
    rw [if_pos d.sel.2.1] at hcs
    have := d.sel.2.2
    simp only; omega
  · have hcs := cntB_succ b true o (by omega)
    rw [if_pos d.sel.2.1] at hcs
    have := d.sel.2.2
    omega
  rintro ⟨sx, sk, _⟩ h6 ⟨x6, k, i, hk, hsib, hx, hki⟩
  simp only at hk hx
  subst hk hx
  dsimp only
  have bt := sib_btw d.close hsib
  have hij := bt.2.1
  have hcm := cntB_mono b true hij
  rw [l48_SuccinctRanges_b3_eq]
  refine condP (fun hlt => ?_) (fun hge => by omega)
  refine (Child_ok (t5.ext x6) B (v : Int) (k : Int) (by omega)).mono fun v7 h7 ⟨x7, c7⟩ => ?_
  rcases c7 with ⟨q, o7, j7, e7, _, d7, c7⟩ | ⟨hno, _⟩
  rotate_left
  · exact notN hvb hno
  obtain rfl : v = q := by omega
  obtain ⟨rfl, rfl⟩ := d.uniq d7
  have x67 := x6.trans x7
  rcases c7 with ⟨m, x, hm', hsx, hbx, rfl⟩ | ⟨hor, rfl⟩
  · obtain rfl : k = m := by omega
    obtain rfl := hsib.unique hsx
    have hij' : i < j := by
      rcases Nat.lt_or_ge i j with h5 | h5
      · exact h5
      · have : i = j := by omega
        subst this
        rw [d.close.last] at hbx; cases hbx
    obtain ⟨cc, dc⟩ := nd_at B (show i < b.length by omega) hbx
    have hcb := dc.lt B
    have hcsz := dc.size
    have hnx := btw_next d.close bt dc.close
    have hmono := cntB_mono b true hnx.2
    refine ⟨_, _, rfl, condN (fun hne => absurd rfl hne) fun _ => ?_⟩
    refine (Parent_ok (t5.ext x67) B ((cntB b true i : Nat) : Int)).mono fun v8 h8 ⟨x8, c8⟩ => ?_
    rcases c8 with ⟨q8, e8, _, pq, rfl, hpq⟩ | ⟨hno, _⟩
    rotate_left
    · exact notN hcb hno
    obtain rfl : cntB b true i = q8 := by omega
    refine ⟨_, _, rfl, ?_⟩
    have x68 := x67.trans x8
    refine (Size_ok (t5.ext x68) B ((cntB b true i : Nat) : Int)).mono fun v9 h9 ⟨x9, c9⟩ => ?_
    rcases c9 with ⟨q9, o9, j9, e9, _, d9, rfl⟩ | ⟨hno, _⟩
    rotate_left
    · exact notN hcb hno
    obtain rfl : cntB b true i = q9 := by omega
    obtain ⟨rfl, rfl⟩ := dc.uniq d9
    refine ⟨_, _, rfl, ?_⟩
    have x69 := x68.trans x9
    refine (Depth_ok (t5.ext x69) B ((cntB b true i : Nat) : Int)).mono fun v10 h10 ⟨x10, c10⟩ => ?_
    rcases c10 with ⟨q10, o10, e10, _, s10, rfl⟩ | ⟨hno, _⟩
    rotate_left
    · exact notN hcb hno
    obtain rfl : cntB b true i = q10 := by omega
    obtain rfl := sel_unique dc.sel s10
    refine ⟨_, _, rfl, ?_⟩
    have hpar : ParV b (cntB b true i) (v : Int) := by
      refine .inr ⟨v, ⟨i, o, dc.sel, d.sel, bt.1, d.sel.2.1, ?_, fun t h1 h2 => d.close.2.2.2.2 t h1 (by omega)⟩, rfl⟩
      have := bt.2.2; omega
    have hno := B.nonneg (t := o) (by omega)
    have hole := Ex_le b o
    refine condN (fun hne => absurd rfl hne) fun _ => condN (fun hne => absurd rfl hne) fun _ => condN (fun hne => absurd (hpq.unique hpar) hne) fun _ => condN (fun hne => absurd rfl hne) fun _ => ?_
    refine condP (fun hc => by omega) fun _ => condP (fun hc => by omega) fun _ => condN (fun hne => absurd rfl hne) fun _ => ⟨⟨by omega, by omega⟩, condN (fun hne => absurd bt.2.2 hne) fun _ => ?_⟩
    rw [l48_SuccinctRanges_b5_eq]
    refine ⟨⟨by omega, by omega⟩, ?_⟩
    rw [l48_SuccinctRanges_b7_eq]
    exact ⟨⟨by omega, by omega⟩, ⟨x69.trans x10, k + 1, cc + 1, by simp only; omega, hsib.succ dc.close, by simp only; omega, by omega⟩, by simp only; omega⟩
  · refine ⟨_, _, rfl, condN (fun _ => condN (fun hne => absurd rfl hne) fun _ => ⟨⟨by omega, by omega⟩, ?_⟩) fun he => absurd he (by decide)⟩
    have hie : i = j := by
      rcases hor with h8 | ⟨m, x, hm', hsx, hbx⟩
      · omega
      · have hmk : m = k := by
          rcases Nat.lt_or_ge m k with h9 | h9
          · obtain ⟨y, hy1, hy2⟩ := hsib.before h9
            have := hy1.unique hsx
            subst this
            rw [hy2] at hbx; cases hbx
          · omega
        subst hmk
        obtain rfl := hsib.unique hsx
        exact btw_end d.close bt hbx
    have hnext : ((cntB b true i : Nat) : Int) = (v : Int) + nv := by rw [hie]; omega
    exact condN (fun hne => absurd hnext hne) fun _ => b4 _ h7 x67 hnext
end Go.Proofs.Ytmlfoefadmlhpaa
