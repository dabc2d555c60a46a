/- Part L2 of the proof: contracts of functions of the program, and what follows from them. -/
import Derived.Test.YtmlfoefadmlhpaaSxT6
set_option maxRecDepth 10000
namespace Go.Proofs.Ytmlfoefadmlhpaa
open Go Go.Sx

theorem lmade_ok {h : Hp} {p : Option Addr} {n c : Nat} {l : List Int} (r : Rd h p n (ints l)) (hn : n ≤ 4611686018427387904) (hnc : n ≤ c) :
    HCalls Try.prog 21 #[.slice p n c] h (fun v h' => Ext h h' ∧ ((okP l ∧ n ≤ 1000 ∧ ∃ a, v = .tuple #[.pointer (some a), .string (parS (txt l 0)), .bool true] ∧ LocH h.size h' (fun g => TreeH g a (txt l 0))) ∨
      (v = .tuple #[.pointer none, .string (parS []), .bool true] ∧ ¬ (okP l ∧ n ≤ 1000)))) := by
  refine l48_made_call ?_
  rw [l48_made_b0_eq]
  refine (MakeTree_ok r hn hnc).mono fun v h1 ⟨x1, hv⟩ => ?_
  have ref := rMakeTree_ok (c := c) (r.ext x1) hn
  rcases hv with ⟨ok, hn1, a, rfl, lt⟩ | ⟨ok, hn1, rfl⟩ | ⟨nok, rfl⟩
  · refine ⟨_, _, rfl, ?_⟩
    refine ref.mono fun v2 h2 ⟨hh, hv2⟩ => ?_
    subst hh
    rcases hv2 with ⟨_, _, rfl⟩ | ⟨_, h3, _⟩ | ⟨nok, _⟩
    rotate_left
    · omega
    · exact absurd ok nok
    exact ⟨_, _, rfl, condYes (decide_eq_true rfl) ⟨x1, .inl ⟨ok, hn1, a, rfl, lt⟩⟩⟩
  · refine ⟨_, _, rfl, ?_⟩
    refine ref.mono fun v2 h2 ⟨hh, hv2⟩ => ?_
    subst hh
    rcases hv2 with ⟨_, h3, _⟩ | ⟨_, _, rfl⟩ | ⟨nok, _⟩
    · omega
    rotate_left
    · exact absurd ok nok
    exact ⟨_, _, rfl, condYes (decide_eq_true rfl) ⟨x1, .inr ⟨rfl, fun h4 => by omega⟩⟩⟩
  · refine ⟨_, _, rfl, ?_⟩
    refine ref.mono fun v2 h2 ⟨hh, hv2⟩ => ?_
    subst hh
    rcases hv2 with ⟨ok, _⟩ | ⟨ok, _⟩ | ⟨_, rfl⟩
    · exact absurd ok nok
    · exact absurd ok nok
    exact ⟨_, _, rfl, condYes (decide_eq_true rfl) ⟨x1, .inr ⟨rfl, fun h4 => nok h4.1⟩⟩⟩

theorem LMakes_ok {h : Hp} {p : Option Addr} {n c : Nat} {l : List Int} (r : Rd h p n (ints l)) (hnc : n ≤ c) (s : ByteArray) :
    HCalls Try.prog 5 #[.slice p n c, .string s] h (fun v h' => v = .bool true ∧ Ext h h') := by
  have hzl : l.length = n := by have := r.len; simpa using this
  refine l48_SuccinctMakes_call ?_
  rw [l48_SuccinctMakes_b0_eq]
  refine (awake_ok h).mono fun v1 h1 ⟨hv1, x1⟩ => ?_
  refine ⟨_, hv1, condNo rfl ?_⟩
  refine (many_ok h1).mono fun v2 h2 ⟨hv2, hh⟩ => ?_
  subst hh
  refine ⟨_, hv2, condP (fun _ => ⟨rfl, x1⟩) fun hm => ?_⟩
  have hn : n ≤ 1100 := by omega
  have b2 : s.size ≤ 2100 → ∀ h3, Ext h h3 → l48_SuccinctMakes_b2 s h3 (fun v h' => v = .bool true ∧ Ext h h') := by
    intro hs h3 x3
    rw [l48_SuccinctMakes_b2_eq]
    refine (ParseTree_ok h3).mono fun v7 h7 ⟨x7, hv7⟩ => ?_
    have ref := rParse_ok (s := s) h7 (by omega)
    have x37 := x3.trans x7
    rcases hv7 with ⟨hb, rfl⟩ | ⟨hb, ok, a, rfl, t⟩ | ⟨hb, nok, rfl⟩
    · refine ⟨_, _, rfl, ref.mono fun v8 h8 ⟨hh, hv8⟩ => ?_⟩
      subst hh
      rcases hv8 with ⟨_, rfl⟩ | ⟨h9, _⟩ | ⟨h9, _⟩
      · refine ⟨_, rfl, condN (fun hne => absurd rfl hne) fun _ => condNo rfl ?_⟩
        rw [l48_SuccinctMakes_b3_eq]
        exact condYes rfl ⟨rfl, x37⟩
      · omega
      · omega
    · refine ⟨_, _, rfl, ref.mono fun v8 h8 ⟨hh, hv8⟩ => ?_⟩
      subst hh
      rcases hv8 with ⟨h9, _⟩ | ⟨_, _, rfl⟩ | ⟨_, nok, _⟩
      · omega
      · refine ⟨_, rfl, condN (fun hne => absurd rfl hne) fun _ => condNo rfl ?_⟩
        rw [l48_SuccinctMakes_b3_eq]
        refine condNo rfl ?_
        refine (Text_ok t).mono fun v9 h9 ⟨hv9, x9⟩ => ?_
        rw [parS_decB ok.1] at hv9
        refine ⟨_, hv9, condYes (by simp [strEq]) ?_⟩
        refine (TLen_ok (t.ext x9)).mono fun v10 h10 ⟨hv10, hh⟩ => ?_
        subst hh
        refine ⟨_, hv10, ?_⟩
        refine r48_Len_call ?_
        rw [r48_Len_b0_eq]
        refine quo_intro (by omega) (by omega) (by omega) ⟨_, rfl, ?_, x37.trans x9⟩
        have e : (((decB s.data.toList).length / 2 : Nat) : Int) = (s.size : Int) / 2 := by
          rw [decB_len, ← size_len]; omega
        rw [decide_eq_true e]
      · exact absurd ok nok
    · refine ⟨_, _, rfl, ref.mono fun v8 h8 ⟨hh, hv8⟩ => ?_⟩
      subst hh
      rcases hv8 with ⟨h9, _⟩ | ⟨_, ok, _⟩ | ⟨_, _, rfl⟩
      · omega
      · exact absurd ok nok
      · refine ⟨_, rfl, condN (fun hne => absurd rfl hne) fun _ => condNo rfl ?_⟩
        rw [l48_SuccinctMakes_b3_eq]
        exact condYes rfl ⟨rfl, x37⟩
  have b1 : s.size ≤ 2100 → l48_SuccinctMakes_b1 p n c s h2 (fun v h' => v = .bool true ∧ Ext h h') := by
    intro hs
    rw [l48_SuccinctMakes_b1_eq]
    refine (lmade_ok (r.ext x1) (by omega) hnc).mono fun v3 h3 ⟨x3, hv3⟩ => ?_
    have x13 := x1.trans x3
    rcases hv3 with ⟨ok, hn1, a, rfl, lt⟩ | ⟨rfl, _⟩
    · refine ⟨_, _, _, rfl, condNo rfl (condYes rfl ?_)⟩
      have t := lt.self
      have tl := txt_len ok
      refine (Text_ok t).mono fun v4 h4 ⟨hv4, x4⟩ => ?_
      refine ⟨_, hv4, condNo (by simp [strEq]) ?_⟩
      refine (TLen_ok (t.ext x4)).mono fun v5 h5 ⟨hv5, hh⟩ => ?_
      subst hh
      refine ⟨_, hv5, condN (fun hne => absurd (by omega) hne) fun _ => ?_⟩
      refine (TSpace_ok (t.ext x4)).mono fun v6 h6 ⟨hv6, hh⟩ => ?_
      subst hh
      refine ⟨_, hv6, ⟨by omega, by omega⟩, condN (fun hne => absurd (by omega) hne) fun _ => b2 hs _ (x13.trans x4)⟩
    · exact ⟨_, _, _, rfl, condNo rfl (condNo rfl (b2 hs _ x13))⟩
  refine condP (fun h200 => ?_) (fun h200 => ?_)
  · refine condP (fun _ => ⟨rfl, x1⟩) (fun _ => ?_)
    exact condP (fun _ => ⟨rfl, x1⟩) (fun hs => b1 (by omega))
  · exact condP (fun _ => ⟨rfl, x1⟩) (fun hs => b1 (by omega))
end Go.Proofs.Ytmlfoefadmlhpaa
