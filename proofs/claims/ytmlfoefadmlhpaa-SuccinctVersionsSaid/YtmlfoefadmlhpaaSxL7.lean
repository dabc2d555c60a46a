/- Part L7 of the proof: contracts of functions of the program, and what follows from them. -/
import Derived.Test.YtmlfoefadmlhpaaSxT13
set_option maxRecDepth 10000
namespace Go.Proofs.Ytmlfoefadmlhpaa
open Go Go.Sx

theorem seen_iff {l : List Int} {u i : Nat} (hi : i ≤ (ltx l 0).length) : (u, true) ∈ (ltx l 0).take i ↔ ∃ k, Ent l u k ∧ k < i := by
  constructor
  · intro h
    obtain ⟨k, hk, he⟩ := List.getElem_of_mem h
    have hk' : k < i := by simp at hk; omega
    have e2 : (ltx l 0)[k]'(by omega) = (u, true) := by rw [← he]; simp
    refine ⟨k, ⟨(ltx l 0).take k, (ltx l 0).drop (k + 1), ?_, by simp; omega⟩, hk'⟩
    rw [← e2, ← List.drop_eq_getElem_cons (by omega), List.take_append_drop]
  · rintro ⟨k, ⟨P, Q, h1, h2⟩, hk⟩
    have e2 : (ltx l 0)[k]? = some (u, true) := by rw [h1, ← h2]; simp
    refine List.mem_of_getElem? (i := k) ?_
    rw [List.getElem?_take, if_pos hk, e2]

theorem DepL.le {l : List Int} (ok : okP l) {u e : Nat} (h : DepL l u e) : u < l.length → e ≤ u := by
  induction h with
  | zero => intro _; exact Nat.le_refl _
  | @succ u p d h1 h2 h3 ih =>
    intro hu
    have hu0 : 0 < u := by
      rcases Nat.eq_zero_or_pos u with h4 | h4
      · subst h4; have := ok.2.1; rw [h2] at this; omega
      · exact h4
    have h4 := (ok.2.2 u hu0 hu).2
    rw [h2] at h4
    have := ih (by omega)
    omega

theorem LVersions_ok {h : Hp} {p : Option Addr} {n c : Nat} {l : List Int} (r : Rd h p n (ints l)) (hnc : n ≤ c) (a b : Int) :
    HCalls Try.prog 6 #[.slice p n c, .int .i64 a, .int .i64 b] h (fun v h' => v = .bool true ∧ Ext h h') := by
  have hzl : l.length = n := by have := r.len; simpa using this
  refine l48_SuccinctVersions_call ?_
  rw [l48_SuccinctVersions_b0_eq]
  refine (awake_ok h).mono fun v1 h1 ⟨hv1, x1⟩ => ?_
  refine ⟨_, hv1, condNo rfl ?_⟩
  refine New_intro (cs := [.slice none 0 0]) fun bT h2 hbT x2 k2 z2 => ?_
  refine Wr_intro rfl k2 (by simp) fun h3 hz3 hs3 k3 => ?_
  have k3 : Blk h3 bT [.slice p n c] _ := k3
  have s1 := x1.size
  have hkT := k2.lt
  have x13 : Ext h h3 := ⟨by omega, fun k hk => by rw [hs3 k (by omega), x2.same k (by omega)]; exact x1.same k hk⟩
  have r3 := r.ext x13
  refine (many_ok h3).mono fun v2 h4 ⟨hv2, hh⟩ => ?_
  subst hh
  refine ⟨_, hv2, condP (fun _ => ⟨rfl, x13⟩) fun hm => ?_⟩
  refine ⟨_, _, _, k3.cell 0, ?_⟩
  refine (vValid_ok r3 (by omega)).mono fun v5 h5 ⟨x5, hv5⟩ => ?_
  have x15 := x13.trans x5
  rcases hv5 with ⟨ok, hn, rfl⟩ | ⟨_, rfl⟩
  rotate_left
  · exact ⟨_, rfl, condYes rfl ⟨rfl, x15⟩⟩
  have k5 := k3.ext x5
  refine ⟨_, rfl, condNo rfl ⟨_, _, _, k5.cell 0, ?_⟩⟩
  refine (vIs_ok (p := p) (n := n) (c := c) (h := h5) a).mono fun v6 h6 ⟨x6, hv6⟩ => ?_
  have x16 := x15.trans x6
  refine ⟨_, hv6, ?_⟩
  by_cases ha : 0 ≤ a ∧ a < (n : Int)
  rotate_left
  · exact condYes (by rw [decide_eq_false ha]; rfl) ⟨rfl, x16⟩
  refine condNo (by rw [decide_eq_true ha]; rfl) ?_
  have k6 := k5.ext x6
  refine ⟨_, _, _, k6.cell 0, ?_⟩
  refine (vIs_ok (p := p) (n := n) (c := c) (h := h6) b).mono fun v7 h7 ⟨x7, hv7⟩ => ?_
  have x17 := x16.trans x7
  refine ⟨_, hv7, ?_⟩
  by_cases hb : 0 ≤ b ∧ b < (n : Int)
  rotate_left
  · exact condYes (by rw [decide_eq_false hb]; rfl) ⟨rfl, x17⟩
  refine condNo (by rw [decide_eq_true hb]; rfl) ?_
  obtain ⟨a, rfl⟩ := Int.eq_ofNat_of_zero_le ha.1
  obtain ⟨b, rfl⟩ := Int.eq_ofNat_of_zero_le hb.1
  have han : a < n := by omega
  have hbn : b < n := by omega
  have k7 := k6.ext x7
  have r7 := r.ext x17
  rw [l48_SuccinctVersions_b1_eq]
  refine (MakeTree_ok r7 (by omega) hnc).mono fun v8 h8 ⟨x8, hv8⟩ => ?_
  rcases hv8 with ⟨_, _, t, rfl, lt⟩ | ⟨_, hbad, _⟩ | ⟨hno, _⟩
  rotate_left
  · omega
  · exact absurd ok hno
  refine ⟨_, _, rfl, condN (fun hne => absurd rfl hne) fun _ => condNo rfl ?_⟩
  have x18 := x17.trans x8
  have k8 := k7.ext x8
  have tt := lt.self
  have B := txt_bal0 ok
  have tl := txt_len ok
  have tsm := tt.small
  rw [l48_SuccinctVersions_b2_eq]
  refine ⟨⟨by omega, by omega, by omega, by omega⟩, ?_⟩
  rw [show Int.toNat (n : Int) = n by simp, Nat.mul_one, repL_one, repL_one]
  refine New_intro fun b2 h9 hb2 x9 k9 z9 => ?_
  refine ⟨⟨by omega, by omega, by omega, by omega⟩, ?_⟩
  refine New_intro fun b3 h10 hb3 x10 k10 z10 => ?_
  have x110 := (x18.trans x9).trans x10
  have kT10 := (k8.ext x9).ext x10
  refine ⟨_, _, _, kT10.cell 0, ?_⟩
  refine (vEuler_ok (r.ext x110) ok hn).mono fun v11 h11 ⟨x11, q, m, d, hv11, oq⟩ => ?_
  have rq := oq.rd
  have hlab : ((ltx l 0).map Prod.fst).length = m := by have := rq.len; simpa using this
  have hS : (ltx l 0).length = 2 * n := by
    have h1 := tl
    rw [← snd0 ok, List.length_map] at h1; omega
  have hm2 : m = 2 * n := by rw [← hlab, List.length_map, hS]
  refine ⟨_, _, _, hv11, ?_⟩
  have x111 := x110.trans x11
  have kT := kT10.ext x11
  have t11 := (((tt.ext x9).ext x10).ext x11)
  have hk9l := k9.lt
  have hk10l := k10.lt
  have hx11 := x11.size
  have hx10 := x10.size
  have kb2 : Blk h11 b2 (ints (List.replicate n 0)) 3 := by
    have := (k9.ext x10).ext x11
    simpa [ints] using this
  have kb3 : Blk h11 b3 ((List.replicate n false).map Value.bool) 4 := by
    have := k10.ext x11
    simpa using this
  -- the numbers are given
  refine ⟨fun s h' => ∃ (i : Nat) (nums : List Int) (sn : List Bool), s.2.1 = i ∧ i ≤ m ∧ s.1 = (cntB (txt l 0) true i : Nat) ∧ nums.length = n ∧ sn.length = n ∧ h'.size = h11.size ∧ (∀ k, k ≠ b2 → k ≠ b3 → h'[k]? = h11[k]?) ∧
      Blk h' b2 (ints nums) 3 ∧ Blk h' b3 (sn.map Value.bool) 4 ∧ (∀ v, v < n → (sn.getD v false = true ↔ ∃ k, Ent l v k ∧ k < i)) ∧ (∀ v k, Ent l v k → k < i → at_ nums v = (cntB (txt l 0) true k : Nat)), fun s _ => (m - s.2.1).toNat,
    ⟨0, List.replicate n 0, List.replicate n false, rfl, by omega, by simp [cntB], by simp, by simp, rfl, fun _ _ _ => rfl, kb2, kb3, fun v hv => ?_, fun v k _ hk => by omega⟩, ?_⟩
  · constructor
    · intro h12; simp [List.getD, hv] at h12
    · rintro ⟨k, _, hk⟩; omega
  rintro ⟨sv, si, _⟩ h12 ⟨i, nums, sn, hi, him, hnv, hnl, hsl, hsz, hsame, g2, g3, hseen, hnum⟩
  simp only at hi hnv
  subst hi hnv
  dsimp only
  have rq12 : Rd h12 q m (natV ((ltx l 0).map Prod.fst)) := (oq.same fun aa haa => hsame _ (by have := (oq.lt aa haa).1; omega) (by have := (oq.lt aa haa).1; omega)).rd
  have e : ((i : Nat) : Int).toNat = i := by simp
  rw [l48_SuccinctVersions_b3_eq]
  refine condP (fun hlt => ?_) (fun hge => ?_)
  · have hil : i < (ltx l 0).length := by omega
    obtain ⟨⟨u, x⟩, hux⟩ : ∃ y, (ltx l 0)[i] = y := ⟨_, rfl⟩
    have hmem : (u, x) ∈ ltx l 0 := by rw [← hux]; exact List.getElem_mem hil
    have hun : u < n := by have := (lab_anc ok _ 0 rfl ok.1 u x hmem).2; omega
    have hsplit : ltx l 0 = (ltx l 0).take i ++ (u, x) :: (ltx l 0).drop (i + 1) := by rw [← hux, ← List.drop_eq_getElem_cons hil, List.take_append_drop]
    have hgood := good0 ok _ u x _ hsplit
    have hsi := seen_iff (l := l) (u := u) (i := i) (by omega)
    have hbit : (txt l 0).getD i false = x := by
      rw [← snd0 ok]
      simp [List.getD, hil, hux]
    have hcs := cntB_succ (txt l 0) true i (by omega)
    have hcl : cntB (txt l 0) true i ≤ i := by unfold cntB; exact Nat.le_trans (List.length_filter_le _ _) (by simp; omega)
    refine idx_int rq12 (by omega) (by omega) ?_
    rw [e]
    have hg : (((ltx l 0).map Prod.fst).map (fun k : Nat => (k : Int))).getD i 0 = (u : Int) := by simp [List.getD, hil, hux]
    rw [hg]
    have eu : ((u : Nat) : Int).toNat = u := by simp
    have rs3 : Rd h12 (some ⟨b3, 0, none⟩) n (sn.map Value.bool) := by
      have := Rd.of_blk g3 (n := n) (by simp; omega)
      rwa [List.take_of_length_le (by simp; omega)] at this
    refine idx_bool rs3 (by omega) (by omega) ?_
    rw [eu]
    have next : ∀ {K : Value → Hp → Prop} (nv' : Int) h14 (nums' : List Int) (sn' : List Bool), nv' = (cntB (txt l 0) true (i + 1) : Nat) → nums'.length = n → sn'.length = n → h14.size = h11.size → (∀ k, k ≠ b2 → k ≠ b3 → h14[k]? = h11[k]?) →
        Blk h14 b2 (ints nums') 3 → Blk h14 b3 (sn'.map Value.bool) 4 → (∀ v, v < n → (sn'.getD v false = true ↔ ∃ k, Ent l v k ∧ k < i + 1)) → (∀ v k, Ent l v k → k < i + 1 → at_ nums' v = (cntB (txt l 0) true k : Nat)) →
        l48_SuccinctVersions_b4 p n c (a : Int) (b : Int) (some ⟨bT, 0, none⟩) (some t) (some ⟨b2, 0, none⟩) n n (some ⟨b3, 0, none⟩) n n nv' q m d (m : Int) (i : Int) h14 (fun s h' => (∃ (i : Nat) (nums : List Int) (sn : List Bool), s.2.1 = i ∧ i ≤ m ∧ s.1 = (cntB (txt l 0) true i : Nat) ∧ nums.length = n ∧ sn.length = n ∧ h'.size = h11.size ∧ (∀ k, k ≠ b2 → k ≠ b3 → h'[k]? = h11[k]?) ∧
      Blk h' b2 (ints nums) 3 ∧ Blk h' b3 (sn.map Value.bool) 4 ∧ (∀ v, v < n → (sn.getD v false = true ↔ ∃ k, Ent l v k ∧ k < i)) ∧ (∀ v k, Ent l v k → k < i → at_ nums v = (cntB (txt l 0) true k : Nat))) ∧ (m - s.2.1).toNat < (m - (i : Int)).toNat) K := by
      intro K nv' h14 nums' sn' q1 q2 q3 q4 q5 q6 q7 q8 q9
      rw [l48_SuccinctVersions_b4_eq]
      exact ⟨⟨by omega, by omega⟩, ⟨i + 1, nums', sn', by simp only; omega, by omega, q1, q2, q3, q4, q5, q6, q7, q8, q9⟩, by simp only; omega⟩
    refine cond_intro (fun hns => ?_) (fun hs => ?_)
    · have hns' : sn.getD u false = false := by simpa using hns
      have hnot : ¬ (u, true) ∈ (ltx l 0).take i := fun h13 => by
        have := (hseen u hun).2 (hsi.1 h13)
        rw [hns'] at this; cases this
      have hx : x = true := by
        cases x with
        | true => rfl
        | false => exact absurd (hgood.2 rfl) hnot
      subst hx
      rw [if_pos hbit] at hcs
      have hent : Ent l u i := ⟨_, _, hsplit, by simp; omega⟩
      refine ⟨⟨by omega, by omega⟩, ?_⟩
      show Wr _ _ _ _
      refine Wr_intro (o := u) (by rw [add_mk]; simp) g3 (by simp; omega) fun h13 hz13 hs13 g3' => ?_
      have g2' := g2.same (hs13 b2 (by omega))
      refine ⟨⟨by omega, by omega⟩, ?_⟩
      show Wr _ _ _ _
      refine Wr_intro (o := u) (by rw [add_mk]; simp) g2' (by simp; omega) fun h14 hz14 hs14 g2'' => ?_
      have g3'' := g3'.same (hs14 b3 (by omega))
      refine ⟨⟨by omega, by omega⟩, next _ h14 (nums.set u (cntB (txt l 0) true i : Nat)) (sn.set u true) (by omega) (by simpa using hnl) (by simpa using hsl) (by omega) (fun k h15 h16 => by rw [hs14 k h15, hs13 k h16]; exact hsame k h15 h16) ?_ ?_ (fun v hv => ?_) (fun v k hv hk => ?_)⟩
      · have : ints (nums.set u (cntB (txt l 0) true i : Nat)) = (ints nums).set u (.int .i64 (cntB (txt l 0) true i : Nat)) := by simp [ints, List.map_set]
        rw [this]; exact g2''
      · have : (sn.set u true).map Value.bool = (sn.map Value.bool).set u (.bool true) := by simp [List.map_set]
        rw [this]; exact g3''
      · by_cases hvu : v = u
        · subst hvu
          have : (sn.set v true).getD v false = true := by
            rw [List.getD_eq_getElem?_getD, List.getElem?_set_self (by omega)]; rfl
          rw [this]
          exact ⟨fun _ => ⟨i, hent, by omega⟩, fun _ => rfl⟩
        · have : (sn.set u true).getD v false = sn.getD v false := by
            rw [List.getD_eq_getElem?_getD, List.getElem?_set_ne (Ne.symm hvu), ← List.getD_eq_getElem?_getD]
          rw [this, hseen v hv]
          constructor
          · rintro ⟨k, h17, h18⟩; exact ⟨k, h17, by omega⟩
          · rintro ⟨k, h17, h18⟩
            refine ⟨k, h17, ?_⟩
            rcases Nat.lt_or_ge k i with h19 | h19
            · exact h19
            · have : k = i := by omega
              subst this
              exact absurd (h17.inj ok hent) hvu
      · by_cases hvu : v = u
        · subst hvu
          obtain rfl := hv.unique ok hent
          unfold at_
          rw [List.getD_eq_getElem?_getD, List.getElem?_set_self (by omega)]; rfl
        · have hki : k < i := by
            rcases Nat.lt_or_ge k i with h19 | h19
            · exact h19
            · have : k = i := by omega
              subst this
              exact absurd (hv.inj ok hent) hvu
          have := hnum v k hv hki
          unfold at_ at this ⊢
          rw [List.getD_eq_getElem?_getD, List.getElem?_set_ne (Ne.symm hvu), ← List.getD_eq_getElem?_getD]
          exact this
    · have hs' : sn.getD u false = true := by simpa using hs
      have hin := hsi.2 ((hseen u hun).1 hs')
      have hx : x = false := by
        cases x with
        | false => rfl
        | true => exact absurd hin (hgood.1 rfl)
      subst hx
      rw [if_neg (by rw [hbit]; simp)] at hcs
      have noent : ∀ {v k : Nat}, Ent l v k → k < i + 1 → k < i := by
        intro v k h17 h18
        rcases Nat.lt_or_ge k i with h19 | h19
        · exact h19
        · have : k = i := by omega
          subst this
          have := (h17.bit ok).2
          rw [hbit] at this; cases this
      refine next _ h12 nums sn (by omega) hnl hsl hsz hsame g2 g3 (fun v hv => (hseen v hv).trans ⟨fun ⟨k, h17, h18⟩ => ⟨k, h17, by omega⟩, fun ⟨k, h17, h18⟩ => ⟨k, h17, noent h17 h18⟩⟩) (fun v k hv hk => hnum v k hv (noent hv hk))
  -- the questions
  have him' : i = m := by omega
  subst him'
  have hall : ∀ {v k : Nat}, Ent l v k → at_ nums v = (cntB (txt l 0) true k : Nat) := fun {v k} hv => hnum v k hv (by have := (hv.bit ok).1; omega)
  have xh12 : Ext h h12 := ⟨by have := x111.size; omega, fun k hk => by
    have hh10 := x18.size
    rw [hsame k (by omega) (by omega)]; exact x111.same k hk⟩
  have t12 : TreeH h12 t (txt l 0) := by
    refine (lt.step (h1 := h12) (by omega) fun k h17 h18 => ?_).self
    rw [hsame k (by omega) (by omega), x11.same k (by omega), x10.same k (by omega), x9.same k h18]
  have nN : ∀ {v k : Nat}, NumR l v k → ((k : Nat) : Int) = k ∧ k < (txt l 0).length / 2 ∧ isN (txt l 0) (k : Int) := fun hk => ⟨rfl, hk.lt ok, by constructor <;> have := hk.lt ok <;> omega⟩
  have rN12 : Rd h12 (some ⟨b2, 0, none⟩) n (ints nums) := by
    have := Rd.of_blk g2 (n := n) (by simp [ints]; omega)
    rwa [List.take_of_length_le (by simp [ints]; omega)] at this
  have hNum : ∀ {v : Nat}, v < n → ∃ k, NumR l v k ∧ nums.getD v 0 = (k : Int) := fun {v} hv => by
    obtain ⟨k, hk⟩ := ent_ex ok (v := v) (by omega)
    exact ⟨_, .def' hk, hall hk⟩
  obtain ⟨ma, hma, ea⟩ := hNum han
  obtain ⟨mb, hmb, eb⟩ := hNum hbn
  have hbT8 : bT < h8.size := by have := x5.size; have := x6.size; have := x7.size; have := x8.size; omega
  have kT12 : Blk h12 bT _ _ := kT.same (hsame bT (by omega) (by omega))
  rw [l48_SuccinctVersions_b5_eq]
  have ta : ((a : Nat) : Int).toNat = a := by simp
  have tb : ((b : Nat) : Int).toNat = b := by simp
  refine idx_int rN12 (by omega) (by omega) ?_
  rw [ta, ea]
  refine (Depth_ok t12 B _).mono fun v15 h15 ⟨x15', hv15⟩ => ?_
  rcases hv15 with ⟨k, o, hk, hkl, hsel, rfl⟩ | ⟨hno, _⟩
  rotate_left
  · exact absurd (nN hma).2.2 hno
  obtain rfl : ma = k := by omega
  refine ⟨_, _, rfl, ?_⟩
  have rN15 := rN12.ext x15'
  refine idx_int rN15 (by omega) (by omega) ?_
  rw [ta, ea]
  refine idx_int rN15 (by omega) (by omega) ?_
  rw [tb, eb]
  refine (Common_ok (t12.ext x15') B _ _).mono fun v16 h16 ⟨x16', hv16⟩ => ?_
  rcases hv16 with ⟨n1, n2, q16, hn1, hn2, _, _, hlca, rfl⟩ | ⟨hno, _⟩
  rotate_left
  · exact absurd ⟨(nN hma).2.2, (nN hmb).2.2⟩ hno
  obtain rfl : ma = n1 := by omega
  obtain rfl : mb = n2 := by omega
  refine ⟨_, _, rfl, ?_⟩
  have x1216 := x15'.trans x16'
  have rN16 := rN12.ext x1216
  refine idx_int rN16 (by omega) (by omega) ?_
  rw [ta, ea]
  refine (Parent_ok (t12.ext x1216) B _).mono fun v17 h17 ⟨x17', hv17⟩ => ?_
  rcases hv17 with ⟨k17, hk17, _, q17, rfl, hpar⟩ | ⟨hno, _⟩
  rotate_left
  · exact absurd (nN hma).2.2 hno
  obtain rfl : ma = k17 := by omega
  refine ⟨_, _, rfl, condNo rfl ?_⟩
  have x1217 := x1216.trans x17'
  refine ⟨_, _, _, (kT12.ext x1217).cell 0, ?_⟩
  have r12 := r.ext xh12
  refine (vPath_ok (r12.ext x1217) ok hn han).mono fun v18 h18 ⟨x18', q18, d18, k18, hv18, hdep⟩ => ?_
  have hdl := hdep.le ok (by omega)
  refine ⟨_, _, _, hv18, ⟨by omega, by omega⟩, condNo ?_ (condNo rfl ?_)⟩
  · obtain ⟨ka, hka, hma'⟩ := hma
    have := dep_ex ok hdep hka
    have h20 := hka.sel ok
    rw [← hma'] at h20
    obtain rfl : o = ka := by have := sel_mono hsel h20; have := sel_mono h20 hsel; omega
    simp
    omega
  have x1218 := x1217.trans x18'
  refine ⟨_, _, _, (kT12.ext x1218).cell 0, ?_⟩
  refine (vCommon_ok (r12.ext x1218) ok hn han hbn).mono fun v19 h19 ⟨x19, k19, hk19, hv19, c1, c2, c3⟩ => ?_
  obtain ⟨mk, hmk, ek⟩ := hNum hk19
  have x1219 := x1218.trans x19
  have rN19 := rN12.ext x1219
  refine ⟨_, hv19, ?_⟩
  refine idx_int rN19 (by omega) (by omega) ?_
  rw [show ((k19 : Nat) : Int).toNat = k19 by simp, ek]
  have hq : q16 = mk := hlca.unique (num_lca ok (by omega) (by omega) hma hmb hmk c1 c2 c3)
  refine condNo (by rw [hq]; simp) (condNo rfl ?_)
  rw [l48_SuccinctVersions_b6_eq]
  have xh19 := xh12.trans x1219
  refine idx_int (r.ext xh19) (by omega) (by omega) ?_
  rw [ta]
  have hok := ok.2.2 a
  refine condP (fun hneg => ?_) (fun hnn => ?_)
  · have ha0 : a = 0 := by
      rcases Nat.eq_zero_or_pos a with h20 | h20
      · exact h20
      · have := (hok h20 (by omega)).1; unfold at_ at this; omega
    subst ha0
    have := num_zero ok hma
    have := hpar.unique (.inl ⟨this, rfl⟩)
    exact ⟨by rw [this]; rfl, xh19⟩
  · have ha0 : 0 < a := by
      rcases Nat.eq_zero_or_pos a with h20 | h20
      · subst h20; have := ok.2.1; unfold at_ at this; omega
      · exact h20
    have h21 := hok ha0 (by omega)
    obtain ⟨pa, hpa⟩ := Int.eq_ofNat_of_zero_le h21.1
    have hpn : pa < n := by omega
    obtain ⟨mp, hmp, ep⟩ := hNum hpn
    refine idx_int (r.ext xh19) (by omega) (by omega) ?_
    rw [ta, show l.getD a 0 = (pa : Int) from hpa]
    refine idx_int rN19 (by omega) (by omega) ?_
    rw [show ((pa : Nat) : Int).toNat = pa by simp, ep]
    have := hpar.unique (.inr ⟨mp, num_par ok (by omega) hpa hma hmp, rfl⟩)
    exact ⟨by rw [this]; simp, xh19⟩
end Go.Proofs.Ytmlfoefadmlhpaa
