/- Part T11 of the proof: contracts of functions of the program, and what follows from them. -/
import Derived.Test.YtmlfoefadmlhpaaSxT10
set_option maxRecDepth 10000
namespace Go.Proofs.Ytmlfoefadmlhpaa
open Go Go.Sx

/-- Where a node is entered. -/
def Ent (l : List Int) (v k : Nat) : Prop := ∃ P Q, ltx l 0 = P ++ (v, true) :: Q ∧ P.length = k
section
variable {l : List Int}
theorem good0 (ok : okP l) : Good (ltx l 0) := ltx_good ok _ 0 rfl ok.1
theorem snd0 (ok : okP l) : (ltx l 0).map Prod.snd = txt l 0 := ltx_snd ok _ 0 rfl ok.1
theorem Ent.unique (ok : okP l) {v k k' : Nat} (h : Ent l v k) (g : Ent l v k') : k = k' := by
  obtain ⟨P, Q, h1, h2⟩ := h
  obtain ⟨P', Q', g1, g2⟩ := g
  have key : ∀ {P Q P' Q' : List (Nat × Bool)}, ltx l 0 = P ++ (v, true) :: Q → ltx l 0 = P' ++ (v, true) :: Q' → P.length < P'.length → False := by
    intro P Q P' Q' h1 g1 hlt
    have hn := (good0 ok P' v true Q' g1).1 rfl
    refine hn ?_
    have e : P' = (ltx l 0).take P'.length := by rw [g1]; simp
    have e2 : (ltx l 0)[P.length]? = some (v, true) := by rw [h1]; simp
    have e3 : P'[P.length]? = some (v, true) := by rw [e, List.getElem?_take, if_pos hlt, e2]
    exact List.mem_of_getElem? e3
  rcases Nat.lt_trichotomy P.length P'.length with h3 | h3 | h3
  · exact (key h1 g1 h3).elim
  · omega
  · exact (key g1 h1 h3).elim
theorem Ent.inj (_ok : okP l) {v w k : Nat} (h : Ent l v k) (g : Ent l w k) : v = w := by
  obtain ⟨P, Q, h1, h2⟩ := h
  obtain ⟨P', Q', g1, g2⟩ := g
  have e1 : (ltx l 0)[k]? = some (v, true) := by rw [h1, ← h2]; simp
  have e2 : (ltx l 0)[k]? = some (w, true) := by rw [g1, ← g2]; simp
  rw [e1] at e2
  cases e2; rfl
theorem Ent.bit (ok : okP l) {v k : Nat} (h : Ent l v k) : k < (txt l 0).length ∧ (txt l 0).getD k false = true := by
  obtain ⟨P, Q, h1, h2⟩ := h
  have e := snd0 ok
  rw [← e, h1, ← h2]
  simp
theorem Ent.sel (ok : okP l) {v k : Nat} (h : Ent l v k) : IsSel (txt l 0) true (cntB (txt l 0) true k) k := ⟨(h.bit ok).1, (h.bit ok).2, rfl⟩
theorem Ent.of_bit (ok : okP l) {k : Nat} (hk : k < (txt l 0).length) (hb : (txt l 0).getD k false = true) : ∃ v, v < l.length ∧ Ent l v k := by
  have e := snd0 ok
  have hl : (ltx l 0).length = (txt l 0).length := by rw [← e]; simp
  have hk' : k < (ltx l 0).length := by omega
  have h1 : ((ltx l 0)[k]).2 = true := by
    rw [← hb, ← e]
    simp [List.getD, hk']
  have h2 : ltx l 0 = (ltx l 0).take k ++ (ltx l 0)[k] :: (ltx l 0).drop (k + 1) := by rw [← List.drop_eq_getElem_cons hk', List.take_append_drop]
  have h3 : (ltx l 0)[k] = (((ltx l 0)[k]).1, true) := by rw [← h1]
  rw [h3] at h2
  refine ⟨_, ?_, _, _, h2, by simp; omega⟩
  have hm : (((ltx l 0)[k]).1, true) ∈ ltx l 0 := by rw [← h3]; exact List.getElem_mem hk'
  exact (lab_anc ok _ 0 rfl ok.1 _ _ hm).2
theorem ent_zero (ok : okP l) : Ent l 0 0 := ⟨[], _, by rw [ltx_eq ok ok.1]; rfl, rfl⟩

/-- A node's parentheses lie within those of the whole. -/
theorem occ (ok : okP l) : ∀ v, v < l.length → ∃ P Q, ltx l 0 = P ++ (ltx l v ++ Q) ∧ (∀ p : Nat, at_ l v = (p : Int) → ∃ Pp F, Ent l p Pp ∧ BalM F ∧ P.map Prod.snd = ((ltx l 0).map Prod.snd).take Pp ++ true :: F) := by
  intro v
  induction v using Nat.strongRecOn with
  | _ v ih =>
    intro hv
    rcases Nat.eq_zero_or_pos v with h0 | h0
    · subst h0
      exact ⟨[], [], by simp, fun p hp => by rw [ok.2.1] at hp; omega⟩
    · have hpv := ok.2.2 v h0 hv
      obtain ⟨p, hp⟩ := Int.eq_ofNat_of_zero_le hpv.1
      obtain ⟨P, Q, hS, _⟩ := ih p (by omega) (by omega)
      have hk : v ∈ kids l p := mem_kids.2 ⟨hv, hp⟩
      obtain ⟨K1, K2, hK⟩ := List.append_of_mem hk
      rw [ltx_eq ok (show p < l.length by omega), hK] at hS
      simp only [List.map_append, List.map_cons, List.flatten_append, List.flatten_cons] at hS
      have hent : Ent l p P.length := ⟨P, _, hS, rfl⟩
      refine ⟨P ++ (p, true) :: (K1.map (ltx l)).flatten, (K2.map (ltx l)).flatten ++ ([(p, false)] ++ Q), ?_, fun p' hp' => ?_⟩
      · rw [hS]; simp
      · rw [hp] at hp'
        obtain rfl := Int.ofNat.inj hp'
        refine ⟨P.length, ((K1.map (ltx l)).flatten).map Prod.snd, hent, ?_, ?_⟩
        · rw [flat_map, List.map_map]
          refine BalM.flat fun s hs => ?_
          obtain ⟨c, hc, rfl⟩ := List.mem_map.1 hs
          have hcg := kid_gt ok (show c ∈ kids l p by rw [hK]; simp [hc])
          show BalM ((ltx l c).map Prod.snd)
          rw [ltx_snd ok _ c rfl hcg.2]
          exact (txt_bal ok _ c rfl hcg.2).toM
        · have : ((ltx l 0).map Prod.snd).take P.length = P.map Prod.snd := by
            rw [hS, List.map_append, List.take_append_of_le_length (by simp), List.take_of_length_le (by simp)]
          rw [this, List.map_append]; rfl
theorem ent_ex (ok : okP l) {v : Nat} (hv : v < l.length) : ∃ k, Ent l v k := by
  obtain ⟨P, Q, h1, _⟩ := occ ok v hv
  rw [ltx_eq ok hv] at h1
  exact ⟨P.length, P, _, h1, rfl⟩
theorem ent_par (ok : okP l) {u p ku kp : Nat} (hu : u < l.length) (hp : at_ l u = (p : Int)) (eu : Ent l u ku) (ep : Ent l p kp) : IsPar (txt l 0) ku kp := by
  obtain ⟨P, Q, h1, h2⟩ := occ ok u hu
  obtain ⟨Pp, F, h3, hF, h4⟩ := h2 p hp
  obtain rfl := h3.unique ok ep
  have h1' := h1
  rw [ltx_eq ok hu] at h1'
  obtain rfl := eu.unique ok ⟨P, _, h1', rfl⟩
  have e := snd0 ok
  have hb := h3.bit ok
  rw [e] at h4
  have hlen : P.length = Pp + 1 + F.length := by
    have := congrArg List.length h4
    simp only [List.length_map, List.length_append, List.length_take, List.length_cons] at this
    omega
  have hpre : txt l 0 = (txt l 0).take Pp ++ (true :: F ++ ((ltx l u ++ Q).map Prod.snd)) := by
    have h6 : txt l 0 = P.map Prod.snd ++ (ltx l u ++ Q).map Prod.snd := by rw [← e, h1, List.map_append]
    rw [h4] at h6
    exact h6.trans (List.append_assoc _ _ _)
  have hEx : ∀ s, s ≤ F.length → Ex (txt l 0) (Pp + (s + 1)) = Ex (txt l 0) Pp + 1 + Ex F s := by
    intro s hs
    have hl : ((txt l 0).take Pp).length = Pp := by simp; omega
    have h7 : Ex (txt l 0) (Pp + (s + 1)) = Ex ((txt l 0).take Pp) Pp + Ex (true :: F ++ ((ltx l u ++ Q).map Prod.snd)) (s + 1) := by
      have := Ex_app ((txt l 0).take Pp) (true :: F ++ ((ltx l u ++ Q).map Prod.snd)) (s + 1)
      rw [← hpre, hl] at this
      exact this
    have h8 : Ex ((txt l 0).take Pp) Pp = Ex (txt l 0) Pp := by
      have := Ex_app_le ((txt l 0).take Pp) (true :: F ++ ((ltx l u ++ Q).map Prod.snd)) (t := Pp) (by omega)
      rw [← hpre] at this
      exact this.symm
    rw [h7, h8, Ex_app_le _ _ (by simp; omega), Ex_cons]
    simp only [if_true]; omega
  refine ⟨by omega, hb.2, ?_, fun t h5 h6 => ?_⟩
  · have := hEx F.length (Nat.le_refl _)
    rw [hF.1, show Pp + (F.length + 1) = P.length by omega] at this
    omega
  · obtain ⟨s, rfl⟩ : ∃ s, t = Pp + (s + 1) := ⟨t - Pp - 1, by omega⟩
    have h7 := hEx s (by omega)
    have := hF.2 s (by omega)
    omega

/-- A version's number. -/
def NumR (l : List Int) (v m : Nat) : Prop := ∃ k, Ent l v k ∧ m = cntB (txt l 0) true k
theorem NumR.def' {v k : Nat} (h : Ent l v k) : NumR l v (cntB (txt l 0) true k) := ⟨k, h, rfl⟩
theorem NumR.unique (ok : okP l) {v m m' : Nat} (h : NumR l v m) (g : NumR l v m') : m = m' := by
  obtain ⟨k, h1, rfl⟩ := h
  obtain ⟨k', g1, rfl⟩ := g
  rw [h1.unique ok g1]
theorem NumR.inj (ok : okP l) {v w m : Nat} (h : NumR l v m) (g : NumR l w m) : v = w := by
  obtain ⟨k, h1, h2⟩ := h
  obtain ⟨k', g1, g2⟩ := g
  have s1 := h1.sel ok
  have s2 := g1.sel ok
  rw [← h2] at s1
  rw [← g2] at s2
  have := sel_unique s1 s2
  subst this
  exact h1.inj ok g1
theorem NumR.lt (ok : okP l) {v m : Nat} (h : NumR l v m) : m < (txt l 0).length / 2 := by
  obtain ⟨k, h1, rfl⟩ := h
  obtain ⟨j, d⟩ := nd_at (txt_bal0 ok) (h1.bit ok).1 (h1.bit ok).2
  exact d.lt (txt_bal0 ok)
theorem num_ex (ok : okP l) {v : Nat} (hv : v < l.length) : ∃ m, NumR l v m := by
  obtain ⟨k, hk⟩ := ent_ex ok hv
  exact ⟨_, k, hk, rfl⟩
theorem num_sur (ok : okP l) {m : Nat} (hm : m < (txt l 0).length / 2) : ∃ v, v < l.length ∧ NumR l v m := by
  obtain ⟨o, j, d⟩ := nd_ex (txt_bal0 ok) hm
  obtain ⟨v, hv, he⟩ := Ent.of_bit ok d.sel.1 d.sel.2.1
  exact ⟨v, hv, o, he, d.sel.2.2.symm⟩
theorem num_par (ok : okP l) {u p m q : Nat} (hu : u < l.length) (hp : at_ l u = (p : Int)) (h : NumR l u m) (g : NumR l p q) : ParN (txt l 0) m q := by
  obtain ⟨k, h1, rfl⟩ := h
  obtain ⟨k', g1, rfl⟩ := g
  exact ⟨k, k', h1.sel ok, g1.sel ok, ent_par ok hu hp h1 g1⟩
theorem num_zero (ok : okP l) {m : Nat} (h : NumR l 0 m) : m = 0 := by
  obtain ⟨k, h1, rfl⟩ := h
  obtain rfl := h1.unique ok (ent_zero ok)
  simp [cntB]
theorem num_refl (ok : okP l) {u m : Nat} (h : NumR l u m) : Anc (txt l 0) m m := by
  obtain ⟨o, j, d⟩ := nd_ex (txt_bal0 ok) (h.lt ok)
  exact Anc.refl d
theorem num_anc (ok : okP l) {x y mx my : Nat} (hx : NumR l x mx) (hy : NumR l y my) (h : AncL l x y) : Anc (txt l 0) mx my := by
  induction h generalizing my with
  | refl => rw [hx.unique ok hy]; exact num_refl ok hy
  | step h1 h2 h3 ih =>
    rename_i u p
    have hpl := kid_gt ok (mem_kids.2 ⟨h1, h2⟩)
    obtain ⟨mp, hmp⟩ := num_ex ok (show p < l.length by omega)
    exact (ih hmp).trans ((num_par ok h1 h2 hy hmp).anc (txt_bal0 ok))
theorem anc_num (ok : okP l) : ∀ (y x mx my : Nat), y < l.length → NumR l x mx → NumR l y my → Anc (txt l 0) mx my → AncL l x y := by
  intro y
  induction y using Nat.strongRecOn with
  | _ y ih =>
    intro x mx my hyl hx hy h
    by_cases he : mx = my
    · subst he
      rw [hx.inj ok hy]; exact .refl
    · rcases Nat.eq_zero_or_pos y with h0 | h0
      · subst h0
        have h1 := num_zero ok hy
        have := h.le; omega
      · have hpv := ok.2.2 y h0 hyl
        obtain ⟨p, hp⟩ := Int.eq_ofNat_of_zero_le hpv.1
        obtain ⟨mp, hmp⟩ := num_ex ok (show p < l.length by omega)
        exact .step hyl hp (ih p (by omega) x mx mp (by omega) hx hmp (h.par (txt_bal0 ok) he (num_par ok hyl hp hy hmp)))
theorem num_lca (ok : okP l) {a b k ma mb mk : Nat} (hal : a < l.length) (hbl : b < l.length) (ha : NumR l a ma) (hb : NumR l b mb) (hk : NumR l k mk) (h1 : AncL l k a) (h2 : AncL l k b) (h3 : ∀ c, AncL l c a → AncL l c b → AncL l c k) :
    LcaR (txt l 0) ma mb mk := by
  refine ⟨?_, fun c => ⟨fun ⟨h4, h5⟩ => ?_, fun h4 => ⟨h4.trans (num_anc ok hk ha h1), h4.trans (num_anc ok hk hb h2)⟩⟩⟩
  · obtain ⟨o, j, d⟩ := nd_ex (txt_bal0 ok) (hk.lt ok)
    exact ⟨o, j, d⟩
  · have hc : c < (txt l 0).length / 2 := by
      obtain ⟨_, _, _, _, d, _⟩ := h4
      exact d.lt (txt_bal0 ok)
    obtain ⟨x, hx, hxc⟩ := num_sur ok hc
    exact num_anc ok hxc hk (h3 x (anc_num ok a x c ma hal hxc ha h4) (anc_num ok b x c mb hbl hxc hb h5))
/-- Depths. -/
inductive DepL (l : List Int) : Nat → Nat → Prop
  | zero : DepL l 0 0
  | succ {u p d : Nat} : u < l.length → at_ l u = (p : Int) → DepL l p d → DepL l u (d + 1)
theorem dep_ex (ok : okP l) {u d ku : Nat} (h : DepL l u d) (e : Ent l u ku) : Ex (txt l 0) ku = d := by
  induction h generalizing ku with
  | zero => rw [e.unique ok (ent_zero ok)]; simp [Ex, cntB]
  | succ h1 h2 h3 ih =>
    rename_i u p d
    have hpl := kid_gt ok (mem_kids.2 ⟨h1, h2⟩)
    obtain ⟨kp, hkp⟩ := ent_ex ok (show p < l.length by omega)
    have := (ent_par ok h1 h2 e hkp).2.2.1
    rw [ih hkp] at this
    omega
end
end Go.Proofs.Ytmlfoefadmlhpaa
