/- Part L6 of the proof: contracts of functions of the program, and what follows from them. -/
import Derived.Test.YtmlfoefadmlhpaaSxT9
import Derived.Test.YtmlfoefadmlhpaaSxL2
set_option maxRecDepth 10000
namespace Go.Proofs.Ytmlfoefadmlhpaa
open Go Go.Sx

/-! ### a tree out of its parents -/
def seg (b : List Bool) (i k : Nat) : List Bool := (b.drop i).take (k - i)
theorem seg_app (b : List Bool) {i k m : Nat} (h1 : i ≤ k) (h2 : k ≤ m) : seg b i k ++ seg b k m = seg b i m := by
  unfold seg
  have e : m - i = (k - i) + (m - k) := by omega
  rw [e, List.take_add, List.drop_drop, show i + (k - i) = k by omega]
theorem seg_one (b : List Bool) {k : Nat} (h : k < b.length) : seg b k (k + 1) = [b.getD k false] := by
  unfold seg
  rw [show k + 1 - k = 1 by omega, List.drop_eq_getElem_cons h, List.take_succ_cons, List.take_zero]
  simp [List.getD, h]
theorem seg_nil (b : List Bool) (i : Nat) : seg b i i = [] := by simp [seg]
theorem kidsTo_skip {l : List Int} {v i : Nat} : ∀ {k : Nat}, (∀ u, i ≤ u → u < i + k → at_ l u ≠ (v : Int)) → kidsTo l v (i + k) = kidsTo l v i
  | 0, _ => rfl
  | k + 1, h => by
    rw [show i + (k + 1) = (i + k) + 1 by omega, kidsTo_succ, if_neg (h (i + k) (by omega) (by omega)), List.append_nil]
    exact kidsTo_skip fun u h1 h2 => h u h1 (by omega)

theorem recon {b : List Bool} (B : Bal1 b) {pl : List Int} (hl : pl.length = b.length / 2) (hp : ∀ v, v < b.length / 2 → ParV b v (at_ pl v)) : okP pl ∧ txt pl 0 = b := by
  have hall := cnt_all B
  have hB := B.1
  have ok : okP pl := by
    refine ⟨by omega, ?_, fun v h0 hv => ?_⟩
    · rcases hp 0 (by omega) with ⟨_, h⟩ | ⟨p, h, _⟩
      · exact h
      · have := h.lt; omega
    · rcases hp v (by omega) with ⟨h, _⟩ | ⟨p, h, h1⟩
      · omega
      · have := h.lt; omega
  have main : ∀ m v o j, pl.length - v = m → Nd b v o j → txt pl v = seg b o (j + 1) := by
    intro m
    induction m using Nat.strongRecOn with
    | _ m ih =>
      intro v o j hm d
      have hv := d.lt B
      have hds := d.size
      have hoj := d.close.1
      have hjl := d.close.2.1
      have hc1 : cntB b true (o + 1) = v + 1 := by
        have hcs := cntB_succ b true o (by omega)
        rw [if_pos d.sel.2.1] at hcs
        have := d.sel.2.2
        omega
      -- the children before a place
      have part : ∀ {m x : Nat}, Sib b (o + 1) m x → ((kidsTo pl v (cntB b true x)).map (txt pl)).flatten = seg b (o + 1) x := by
        intro m x hs
        induction hs with
        | zero =>
          rw [hc1, kidsTo_small ok (Nat.le_refl _) (by omega), seg_nil]; rfl
        | succ hs hc ihs =>
          rename_i m x c
          have bt := sib_btw d.close hs
          have hx : x < b.length := by have := bt.2.1; omega
          obtain ⟨c', dc⟩ := nd_at B hx hc.2.2.1
          obtain rfl := dc.close.unique hc
          have hcs := dc.size
          have hkb := dc.lt B
          have hvk : v < cntB b true x := by
            have := sel_lt d.sel bt.1; omega
          have hpar : at_ pl (cntB b true x) = (v : Int) := by
            refine (hp _ hkb).unique (.inr ⟨v, ⟨x, o, dc.sel, d.sel, bt.1, d.sel.2.1, ?_, fun t h1 h2 => d.close.2.2.2.2 t h1 (by have := bt.2.1; omega)⟩, rfl⟩)
            have := bt.2.2; omega
          have e1 : cntB b true (c' + 1) = (cntB b true x + 1) + ((c' - x + 1) / 2 - 1) := by omega
          rw [e1, kidsTo_skip, kidsTo_succ, if_pos hpar, List.map_append, List.flatten_append, ihs]
          · have := ih (pl.length - cntB b true x) (by omega) _ _ _ rfl dc
            simp only [List.map_cons, List.map_nil, List.flatten_cons, List.flatten_nil, List.append_nil]
            rw [this]
            exact seg_app b (by have := bt.1; omega) (by have := dc.close.1; omega)
          · intro u h1 h2 hu
            have hub : u < b.length / 2 := by
              have := cntB_mono b true (show c' + 1 ≤ b.length by have := dc.close.2.1; omega)
              omega
            obtain ⟨ou, ju, du⟩ := nd_ex B hub
            have hanc : Anc b (cntB b true x) u := (anc_iff dc du).2 ⟨by omega, by omega⟩
            rcases hp u hub with ⟨h3, _⟩ | ⟨p, h3, h4⟩
            · omega
            · have h5 := (hanc.par B (by omega) h3).le
              omega
      -- to the end
      have fin : ∀ k x m, x + k = j → Sib b (o + 1) m x → ∃ m', Sib b (o + 1) m' j := by
        intro k
        induction k using Nat.strongRecOn with
        | _ k ihk =>
          intro x m hx hs
          have bt := sib_btw d.close hs
          cases hb : b.getD x false with
          | false =>
            have := btw_end d.close bt hb
            subst this
            exact ⟨m, hs⟩
          | true =>
            obtain ⟨c, hc⟩ := close_ex' B (show x < b.length by omega) hb
            have hnx := btw_next d.close bt hc
            have := hc.1
            exact ihk (j - (c + 1)) (by omega) (c + 1) (m + 1) (by omega) (hs.succ hc)
      obtain ⟨m', hs⟩ := fin (j - (o + 1)) (o + 1) 0 (by omega) .zero
      have hkids : kids pl v = kidsTo pl v (cntB b true j) := by
        have h1 : kids pl v = kidsTo pl v pl.length := rfl
        have h2 := cntB_mono b true (show j ≤ b.length by omega)
        rw [h1, show pl.length = cntB b true j + (pl.length - cntB b true j) by omega]
        refine kidsTo_skip fun u h3 h4 hu => ?_
        have hub : u < b.length / 2 := by omega
        rcases hp u hub with ⟨h5, h6⟩ | ⟨p, h5, h6⟩
        · omega
        · have hpv : p = v := by omega
          subst hpv
          obtain ⟨ou, ju, du⟩ := nd_ex B hub
          have := (anc_iff d du).1 (h5.anc B)
          omega
      rw [txt_eq ok (by omega), hkids, part hs]
      have e1 : true = b.getD o false := d.sel.2.1.symm
      have e2 : false = b.getD j false := d.close.last.symm
      have s1 := seg_one b (k := o) (by omega)
      have s2 := seg_one b (k := j) hjl
      rw [← e1] at s1
      rw [← e2] at s2
      have : true :: (seg b (o + 1) j ++ [false]) = [true] ++ (seg b (o + 1) j ++ [false]) := rfl
      rw [this, ← s1, ← s2, seg_app b (by omega) (by omega), seg_app b (by omega) (by omega)]
  refine ⟨ok, ?_⟩
  obtain ⟨j, d⟩ := Nd.root B
  have hj : j + 1 = b.length := by
    have h1 := d.close.2.2.2.1
    rw [Ex_zero] at h1
    rcases Nat.lt_or_ge (j + 1) b.length with h2 | h2
    · have := B.zero h2 h1; omega
    · have := d.close.2.1; omega
  rw [main _ 0 0 j rfl d, hj]
  simp [seg]

theorem okS_par {b : List Bool} (B : Bal1 b) : okS (parS b) ∧ decB (parS b).data.toList = b := by
  have e : (parS b).data.toList = parB b := by simp [parS]
  have hd : decB (parS b).data.toList = b := by
    rw [e]
    unfold decB parB
    rw [List.map_map]
    refine (List.map_congr_left (g := id) fun x _ => ?_).trans (List.map_id _)
    cases x <;> rfl
  refine ⟨⟨fun i hi => ?_, by rw [hd]; exact B⟩, hd⟩
  rw [e] at hi ⊢
  have hl : (parB b).length = b.length := by simp [parB]
  have : (parB b).getD i 0 = if b[i]'(by omega) then 40 else 41 := by
    unfold parB
    simp [List.getD, show i < b.length by omega]
  rw [this]
  cases b[i]'(by omega)
  · exact .inr rfl
  · exact .inl rfl

theorem LBack_ok {h : Hp} {p : Option Addr} {n c : Nat} {l : List Int} (r : Rd h p n (ints l)) (hnc : n ≤ c) :
    HCalls Try.prog 7 #[.slice p n c] h (fun v h' => v = .bool true ∧ Ext h h') := by
  have hzl : l.length = n := by have := r.len; simpa using this
  refine l48_SuccinctBack_call ?_
  rw [l48_SuccinctBack_b0_eq]
  refine (awake_ok h).mono fun v1 h1 ⟨hv1, x1⟩ => ?_
  refine ⟨_, hv1, condNo rfl ?_⟩
  refine (many_ok h1).mono fun v2 h2 ⟨hv2, hh⟩ => ?_
  subst hh
  refine ⟨_, hv2, condP (fun _ => ⟨rfl, x1⟩) fun hm => ?_⟩
  refine (lmade_ok (r.ext x1) (by omega) hnc).mono fun v3 h3 ⟨x3, hv3⟩ => ?_
  have x13 := x1.trans x3
  rcases hv3 with ⟨ok, hn1, a, rfl, lt⟩ | ⟨rfl, _⟩
  rotate_left
  · exact ⟨_, _, _, rfl, condNo rfl (condYes rfl ⟨rfl, x13⟩)⟩
  refine ⟨_, _, _, rfl, condNo rfl (condNo rfl ?_)⟩
  have t := lt.self
  have B := txt_bal0 ok
  have tl := txt_len ok
  generalize txt l 0 = b at t B tl
  have hs := t.small
  have hbn : b.length / 2 = n := by omega
  rw [l48_SuccinctBack_b1_eq]
  refine (Text_ok t).mono fun v4 h4 ⟨hv4, x4⟩ => ?_
  refine ⟨_, hv4, ?_⟩
  obtain ⟨okp, hdec⟩ := okS_par B
  refine (ParseTree_ok h4).mono fun v5 h5 ⟨x5, c5⟩ => ?_
  rw [parS_size] at c5
  rcases c5 with ⟨h6, _⟩ | ⟨_, _, u, rfl, tu⟩ | ⟨_, hno, _⟩
  · omega
  rotate_left
  · exact absurd okp hno
  rw [hdec] at tu
  refine ⟨_, _, rfl, condN (fun hne => absurd rfl hne) fun _ => condNo rfl ?_⟩
  have t5 := (t.ext x4).ext x5
  have x15 := (x13.trans x4).trans x5
  refine (TLen_ok tu).mono fun v6 h6 ⟨hv6, hh⟩ => ?_
  subst hh
  refine ⟨_, hv6, ?_⟩
  refine (TLen_ok t5).mono fun v7 h7 ⟨hv7, hh⟩ => ?_
  subst hh
  refine ⟨_, hv7, condN (fun hne => absurd rfl hne) fun _ => ?_⟩
  refine (TLen_ok t5).mono fun v8 h8 ⟨hv8, hh⟩ => ?_
  subst hh
  refine ⟨_, hv8, condN (fun hne => absurd (by omega) hne) fun _ => ?_⟩
  rw [l48_SuccinctBack_b2_eq]
  refine ⟨fun s h' => ∃ (i : Nat) (pl : List Int), s.2.1 = i ∧ i ≤ n ∧ pl.length = i ∧ s.1.2.1 = i ∧ (∀ v, v < i → ParV b v (at_ pl v)) ∧ Ext h8 h' ∧ Own h' h8.size 3 s.1.1 s.1.2.1 s.1.2.2 (ints pl), fun s _ => (n - s.2.1).toNat,
    ⟨0, [], rfl, by omega, rfl, rfl, by omega, Ext.refl _, .inl ⟨rfl, rfl, rfl, rfl⟩⟩, ?_⟩
  rintro ⟨⟨sp, sn, sc⟩, si, _⟩ h9 ⟨i, pl, hi, hin, hpl, hsn, hpar, x9, o⟩
  simp only at hi hsn o
  subst hi hsn
  dsimp only
  rw [l48_SuccinctBack_b3_eq]
  refine condP (fun hlt => ?_) (fun hge => ?_)
  · have hib : sn < b.length / 2 := by omega
    refine (Parent_ok (t5.ext x9) B (sn : Int)).mono fun v10 h10 ⟨x10, c10⟩ => ?_
    rcases c10 with ⟨k, e10, _, q, rfl, hq⟩ | ⟨hno, _⟩
    rotate_left
    · exact absurd ⟨by omega, by omega⟩ hno
    obtain rfl : sn = k := by omega
    refine ⟨_, _, rfl, ?_⟩
    refine (Parent_ok ((tu.ext x9).ext x10) B (sn : Int)).mono fun v11 h11 ⟨x11, c11⟩ => ?_
    rcases c11 with ⟨k, e11, _, q', rfl, hq'⟩ | ⟨hno, _⟩
    rotate_left
    · exact absurd ⟨by omega, by omega⟩ hno
    obtain rfl : sn = k := by omega
    have x911 := (x9.trans x10).trans x11
    refine ⟨_, _, rfl, condN (fun hne => absurd rfl hne) fun _ => condN (fun hne => absurd rfl hne) fun _ => condN (fun hne => absurd (hq.unique hq') hne) fun _ => ?_⟩
    have hqlt : q < (sn : Int) := by
      rcases hq with ⟨_, rfl⟩ | ⟨p, hp, rfl⟩
      · omega
      · have := hp.lt; omega
    refine condP (fun hc => by omega) fun _ => ?_
    rw [l48_SuccinctBack_b4_eq]
    have o11 := (o.ext x10).ext x11
    refine push_own el_int o11 x911.size rfl (by omega) fun p' c' h12 o12 g12 => ?_
    rw [l48_SuccinctBack_b6_eq]
    refine ⟨⟨by omega, by omega⟩, ⟨sn + 1, pl ++ [q], by simp only; omega, by omega, by simp; omega, rfl, fun v hv => ?_, ext_grow x911 o11 g12, ?_⟩, by simp only; omega⟩
    · rcases Nat.lt_or_ge v sn with h13 | h13
      · have : at_ (pl ++ [q]) v = at_ pl v := by
          unfold at_
          rw [List.getD_eq_getElem?_getD, List.getD_eq_getElem?_getD, List.getElem?_append_left (by omega)]
        rw [this]; exact hpar v h13
      · have hvs : v = sn := by omega
        subst hvs
        have : at_ (pl ++ [q]) v = q := by
          unfold at_
          rw [List.getD_eq_getElem?_getD, List.getElem?_append_right (by omega), show v - pl.length = 0 by omega]
          rfl
        rw [this]; exact hq
    · have : ints (pl ++ [q]) = ints pl ++ [.int .i64 q] := by simp [ints]
      rw [this]; exact o12
  · have hin' : sn = n := by omega
    rw [l48_SuccinctBack_b5_eq]
    obtain ⟨okpl, htx⟩ := recon B (pl := pl) (by omega) (fun v hv => hpar v (by omega))
    have hcap := o.cap
    refine (MakeTree_ok o.rd (by omega) hcap).mono fun v12 h12 ⟨x12, c12⟩ => ?_
    rcases c12 with ⟨_, _, w, rfl, lw⟩ | ⟨_, hbad, _⟩ | ⟨hno, _⟩
    rotate_left
    · omega
    · exact absurd okpl hno
    rw [htx] at lw
    refine ⟨_, _, rfl, condYes (decide_eq_true rfl) (condYes rfl ?_)⟩
    refine (Text_ok lw.self).mono fun v13 h13 ⟨hv13, x13'⟩ => ?_
    refine ⟨_, hv13, ?_⟩
    refine (Text_ok (((t5.ext x9).ext x12).ext x13')).mono fun v14 h14 ⟨hv14, x14⟩ => ?_
    exact ⟨_, hv14, by rw [parS_eq]; simp, ((x15.trans x9).trans x12).trans (x13'.trans x14)⟩
end Go.Proofs.Ytmlfoefadmlhpaa
