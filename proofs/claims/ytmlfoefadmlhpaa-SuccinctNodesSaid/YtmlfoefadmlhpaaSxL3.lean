/- Part L3 of the proof: contracts of functions of the program, and what follows from them. -/
import Derived.Test.YtmlfoefadmlhpaaSxR1
import Derived.Test.YtmlfoefadmlhpaaSxL2
set_option maxRecDepth 10000
namespace Go.Proofs.Ytmlfoefadmlhpaa
open Go Go.Sx

theorem CloseR.shape {b : List Bool} {i : Int} {v : Value} (h : CloseR b i v) : ∃ x y : Int, v = .tuple #[.int .i64 x, .int .i64 y] := by
  rcases h with ⟨_, h⟩ | ⟨_, _, _, _, h⟩ | ⟨_, _, _, _, h⟩ <;> exact ⟨_, _, h⟩
theorem ChildR.shape {b : List Bool} {o : Nat} {k : Int} {v : Value} (h : ChildR b o k v) : ∃ x y : Int, v = .tuple #[.int .i64 x, .int .i64 y] := by
  rcases h with ⟨_, _, _, _, _, h⟩ | ⟨_, h⟩ <;> exact ⟨_, _, h⟩

theorem LNodes_ok {h : Hp} {p : Option Addr} {n c : Nat} {l : List Int} (r : Rd h p n (ints l)) (hnc : n ≤ c) (i v w k : Int) (hk : k ≤ 9223372036854775807) :
    HCalls Try.prog 8 #[.slice p n c, .int .i64 i, .int .i64 v, .int .i64 w, .int .i64 k] h (fun v h' => v = .bool true ∧ Ext h h') := by
  have hzl : l.length = n := by have := r.len; simpa using this
  refine l48_SuccinctNodes_call ?_
  rw [l48_SuccinctNodes_b0_eq]
  refine (awake_ok h).mono fun v1 h1 ⟨hv1, x1⟩ => ?_
  refine ⟨_, hv1, condNo rfl ?_⟩
  refine (many_ok h1).mono fun v2 h2 ⟨hv2, hh⟩ => ?_
  subst hh
  refine ⟨_, hv2, condP (fun _ => ⟨rfl, x1⟩) fun hm => ?_⟩
  refine (lmade_ok (r.ext x1) (by omega) hnc).mono fun v3 h3 ⟨x3, hv3⟩ => ?_
  have x13 := x1.trans x3
  rcases hv3 with ⟨ok, hn1, a, rfl, lt⟩ | ⟨rfl, _⟩
  rotate_left
  · exact ⟨_, _, _, rfl, condNo rfl (condYes rfl ⟨rfl, x13⟩)⟩
  refine ⟨_, _, _, rfl, condNo rfl (condNo rfl ?_)⟩
  have t := lt.self
  have B := txt_bal0 ok
  have tl := txt_len ok
  generalize txt l 0 = b at t B tl
  have hs := t.small
  rw [l48_SuccinctNodes_b1_eq]
  refine (Close_ok t B i).mono fun v4 h4 ⟨hh, c4⟩ => ?_
  subst hh
  obtain ⟨cx, cy, hv4⟩ := c4.shape
  refine ⟨_, _, hv4, ?_⟩
  refine (rClose_ok B hs i).mono fun v5 h5 ⟨hh, c5⟩ => ?_
  subst hh
  have e45 := c4.unique c5
  subst e45
  refine ⟨_, _, hv4, ?_⟩
  refine (Child_ok t B v k hk).mono fun v6 h6 ⟨x6, c6⟩ => ?_
  have t6 := t.ext x6
  have hc6 : ∃ x y : Int, v6 = .tuple #[.int .i64 x, .int .i64 y] := by
    rcases c6 with ⟨_, _, _, _, _, _, c6⟩ | ⟨_, c6⟩
    · exact c6.shape
    · exact ⟨_, _, c6⟩
  obtain ⟨dx, dy, hv6⟩ := hc6
  refine ⟨_, _, hv6, ?_⟩
  refine (rChild_ok B hs v k).mono fun v7 h7 ⟨hh, c7⟩ => ?_
  subst hh
  have e67 : v6 = v7 := by
    rcases c6 with ⟨q, o, j, rfl, hq, d, c6⟩ | ⟨hn, c6⟩ <;> rcases c7 with ⟨q', o', j', hq1, hq', d', c7⟩ | ⟨hn', c7⟩
    · have : q = q' := by omega
      subst this
      obtain ⟨rfl, rfl⟩ := d.uniq d'
      exact c6.unique c7
    · exact absurd ⟨by omega, by omega⟩ hn'
    · exact absurd ⟨by omega, by omega⟩ hn
    · rw [c6, c7]
  subst e67
  refine ⟨_, _, hv6, ?_⟩
  refine condN (fun hne => absurd rfl hne) fun _ => condN (fun hne => absurd rfl hne) fun _ => condN (fun hne => absurd rfl hne) fun _ => condN (fun hne => absurd rfl hne) fun _ => ?_
  rw [l48_SuccinctNodes_b2_eq]
  have x16 := x13.trans x6
  by_cases hv : isN b v
  · obtain ⟨q, rfl, hq⟩ := isN_nat hv
    have notN : ∀ {X : Prop}, ¬ isN b (q : Int) → X := fun h => absurd hv h
    refine (Parent_ok t6 B (q : Int)).mono fun v8 h8 ⟨x8, c8⟩ => ?_
    rcases c8 with ⟨q8, e8, _, pq, rfl, hpq⟩ | ⟨hno, _⟩
    rotate_left
    · exact notN hno
    obtain rfl : q = q8 := by omega
    refine ⟨_, _, rfl, ?_⟩
    have t8 := t6.ext x8
    refine (Depth_ok t8 B (q : Int)).mono fun v9 h9 ⟨x9, c9⟩ => ?_
    rcases c9 with ⟨q9, o9, e9, _, s9, rfl⟩ | ⟨hno, _⟩
    rotate_left
    · exact notN hno
    obtain rfl : q = q9 := by omega
    refine ⟨_, _, rfl, ?_⟩
    have t9 := t8.ext x9
    refine (Size_ok t9 B (q : Int)).mono fun v10 h10 ⟨x10, c10⟩ => ?_
    rcases c10 with ⟨q10, o10, j10, e10, _, d10, rfl⟩ | ⟨hno, _⟩
    rotate_left
    · exact notN hno
    obtain rfl : q = q10 := by omega
    refine ⟨_, _, rfl, ?_⟩
    have t10 := t9.ext x10
    refine (Common_ok t10 B (q : Int) w).mono fun v11 h11 ⟨x11, c11⟩ => ?_
    have xx := ((x16.trans x8).trans x9).trans (x10.trans x11)
    have hc11 : ∃ x y : Int, v11 = .tuple #[.int .i64 x, .int .i64 y] ∧ ((¬ isN b w ∧ x = 0 ∧ y = 2) ∨ (y = 0 ∧ ∃ m z : Nat, w = m ∧ m < b.length / 2 ∧ LcaR b q m z ∧ x = z)) := by
      rcases c11 with ⟨q11, m, z, e11, hw, _, hm, hl, rfl⟩ | ⟨hno, rfl⟩
      · obtain rfl : q = q11 := by omega
        exact ⟨_, _, rfl, .inr ⟨rfl, m, z, hw, hm, hl, rfl⟩⟩
      · exact ⟨_, _, rfl, .inl ⟨fun h => hno ⟨hv, h⟩, rfl, rfl⟩⟩
    obtain ⟨lx, ly, hv11, hlca⟩ := hc11
    refine ⟨_, _, hv11, ?_⟩
    refine (rIs_ok hs (q : Int)).mono fun v12 h12 ⟨hh, c12⟩ => ?_
    subst hh
    rcases c12 with ⟨_, rfl⟩ | ⟨hno, _⟩
    rotate_left
    · exact notN hno
    refine ⟨_, rfl, condNo rfl (condN (fun hne => absurd rfl hne) fun _ => ?_)⟩
    refine (rParent_ok B hs hq).mono fun v13 h13 ⟨hh, pq', hv13, hpq'⟩ => ?_
    subst hh
    refine ⟨_, hv13, condN (fun hne => absurd (hpq.unique hpq') hne) fun _ => condN (fun hne => absurd rfl hne) fun _ => ?_⟩
    refine (rDepth_ok B hs hq s9).mono fun v14 h14 ⟨hv14, hh⟩ => ?_
    subst hh
    refine ⟨_, hv14, condN (fun hne => absurd rfl hne) fun _ => condN (fun hne => absurd rfl hne) fun _ => ?_⟩
    refine (rSize_ok hs d10).mono fun v15 h15 ⟨hv15, hh⟩ => ?_
    subst hh
    refine ⟨_, hv15, condN (fun hne => absurd rfl hne) fun _ => ?_⟩
    rw [l48_SuccinctNodes_b3_eq]
    refine (rIs_ok hs w).mono fun v16 h16 ⟨hh, c16⟩ => ?_
    subst hh
    rcases c16 with ⟨hw, rfl⟩ | ⟨hw, rfl⟩
    · rcases hlca with ⟨hno, _⟩ | ⟨rfl, m, z, rfl, hm, hl, rfl⟩
      · exact absurd hw hno
      refine ⟨_, rfl, condNo rfl (condYes (decide_eq_true rfl) ?_)⟩
      refine (rCommon_ok B hs hq hm).mono fun v17 h17 ⟨hh, z', hl', hv17⟩ => ?_
      subst hh
      have := hl.unique hl'
      subst this
      exact ⟨_, hv17, by rw [decide_eq_true rfl], xx⟩
    · rcases hlca with ⟨_, rfl, rfl⟩ | ⟨_, m, z, rfl, hm, _⟩
      · exact ⟨_, rfl, condYes rfl (condYes (decide_eq_true rfl) ⟨rfl, xx⟩)⟩
      · exact absurd ⟨by omega, by omega⟩ hw
  · refine (Parent_ok t6 B v).mono fun v8 h8 ⟨x8, c8⟩ => ?_
    rcases c8 with ⟨q, rfl, hq, _⟩ | ⟨_, rfl⟩
    · exact absurd ⟨by omega, by omega⟩ hv
    refine ⟨_, _, rfl, ?_⟩
    have t8 := t6.ext x8
    refine (Depth_ok t8 B v).mono fun v9 h9 ⟨x9, c9⟩ => ?_
    rcases c9 with ⟨q, _, rfl, hq, _⟩ | ⟨_, rfl⟩
    · exact absurd ⟨by omega, by omega⟩ hv
    refine ⟨_, _, rfl, ?_⟩
    have t9 := t8.ext x9
    refine (Size_ok t9 B v).mono fun v10 h10 ⟨x10, c10⟩ => ?_
    rcases c10 with ⟨q, _, _, rfl, hq, _⟩ | ⟨_, rfl⟩
    · exact absurd ⟨by omega, by omega⟩ hv
    refine ⟨_, _, rfl, ?_⟩
    have t10 := t9.ext x10
    refine (Common_ok t10 B v w).mono fun v11 h11 ⟨x11, c11⟩ => ?_
    have xx := ((x16.trans x8).trans x9).trans (x10.trans x11)
    rcases c11 with ⟨q, _, _, rfl, _, hq, _⟩ | ⟨_, rfl⟩
    · exact absurd ⟨by omega, by omega⟩ hv
    refine ⟨_, _, rfl, ?_⟩
    refine (rIs_ok hs v).mono fun v12 h12 ⟨hh, c12⟩ => ?_
    subst hh
    rcases c12 with ⟨hno, _⟩ | ⟨_, rfl⟩
    · exact absurd hno hv
    refine ⟨_, rfl, condYes rfl ?_⟩
    exact condYes (decide_eq_true rfl) (condYes (decide_eq_true rfl) (condYes (decide_eq_true rfl) (condYes (decide_eq_true rfl) (condYes (decide_eq_true rfl) (condYes (decide_eq_true rfl) (condYes (decide_eq_true rfl) ⟨rfl, xx⟩))))))
end Go.Proofs.Ytmlfoefadmlhpaa
