/- Part L1 of the proof: contracts of functions of the program, and what follows from them. -/
import Derived.Test.YtmlfoefadmlhpaaSxT5
set_option maxRecDepth 10000
namespace Go.Proofs.Ytmlfoefadmlhpaa
open Go Go.Sx

theorem LLists_ok {h : Hp} {p : Option Addr} {n c : Nat} {zs : List Int} (r : Rd h p n (ints zs)) (i x : Int) :
    HCalls Try.prog 3 #[.slice p n c, .int .i64 i, .int .i64 x] h (fun v h' => v = .bool true ∧ Ext h h') := by
  have hzl : zs.length = n := by have := r.len; simpa using this
  refine l48_SuccinctLists_call ?_
  rw [l48_SuccinctLists_b0_eq]
  refine (awake_ok h).mono fun v1 h1 ⟨hv1, x1⟩ => ?_
  refine ⟨_, hv1, condNo rfl ?_⟩
  refine (many_ok h1).mono fun v2 h2 ⟨hv2, hh⟩ => ?_
  subst hh
  refine ⟨_, hv2, condP (fun _ => ⟨rfl, x1⟩) fun hm => ?_⟩
  have hn : n ≤ 1100 := by omega
  refine (MakeMono_ok (r.ext x1) (by omega)).mono fun v3 h3 ⟨x3, hv3⟩ => ?_
  have x13 := x1.trans x3
  have list := rList_ok (c := c) (r.ext x13) (by omega)
  rcases hv3 with ⟨ok, hn1, a, rfl, lm⟩ | ⟨ok, hn1, rfl⟩ | ⟨nok, rfl⟩
  · refine ⟨_, _, rfl, ?_⟩
    refine list.mono fun v4 h4 ⟨hh, hv4⟩ => ?_
    subst hh
    rcases hv4 with ⟨_, _, rfl⟩ | ⟨_, h5, _⟩ | ⟨nok, _⟩
    rotate_left
    · omega
    · exact absurd ok nok
    refine ⟨_, rfl, condN (fun hne => absurd rfl hne) fun _ => condNo rfl ?_⟩
    rw [l48_SuccinctLists_b1_eq]
    refine condNo rfl ?_
    have m := lm.self
    refine (MGet_ok m i).mono fun v5 h5 ⟨hv5, x5⟩ => ?_
    have hget : ∃ gn ge : Int, v5 = .tuple #[.int .i64 gn, .int .i64 ge] ∧ (if 0 ≤ i ∧ i < zs.length then gn = at_ zs i.toNat ∧ ge = 0 else gn = 0 ∧ ge = 2) := by
      rw [hv5]; unfold getV_
      split
      · exact ⟨_, _, rfl, rfl, rfl⟩
      · exact ⟨_, _, rfl, rfl, rfl⟩
    obtain ⟨gn, ge, hv5', hge⟩ := hget
    refine ⟨_, _, hv5', ?_⟩
    refine (MNext_ok (m.ext x5) x).mono fun v6 h6 ⟨x6, k, hk, hv6⟩ => ?_
    have hnx : ∃ nk nv ne : Int, nextV zs k = .tuple #[.int .i64 nk, .int .i64 nv, .int .i64 ne] := by
      unfold nextV
      split
      · exact ⟨_, _, _, rfl⟩
      · exact ⟨_, _, _, rfl⟩
    obtain ⟨nk, nv, ne, hnx⟩ := hnx
    rw [hnx] at hv6
    refine ⟨_, _, _, hv6, ?_⟩
    have r6 := ((r.ext x13).ext x5).ext x6
    refine (rNext_ok (c := c) r6 x (by omega)).mono fun v7 h7 ⟨hh, k2, hk2, hv7⟩ => ?_
    subst hh
    have := hk.unique hk2
    subst this
    rw [hnx] at hv7
    refine ⟨_, _, _, hv7, ?_⟩
    have m6 := (m.ext x5).ext x6
    refine (MLen_ok m6).mono fun v8 h8 ⟨hv8, hh⟩ => ?_
    subst hh
    refine ⟨_, hv8, condN (fun hne => absurd (by omega) hne) fun _ => ?_⟩
    refine (MSpace_ok m6).mono fun v9 h9 ⟨hv9, hh⟩ => ?_
    subst hh
    refine ⟨_, hv9, ?_⟩
    refine (rSpace_ok (c := c) r6 ok hn1).mono fun v10 h10 ⟨hv10, hh⟩ => ?_
    subst hh
    refine ⟨_, hv10, ?_⟩
    refine condN (fun hne => absurd rfl hne) fun _ => condN (fun hne => absurd rfl hne) fun _ => condN (fun hne => absurd rfl hne) fun _ => condN (fun hne => absurd rfl hne) fun _ => ?_
    have xx := (x13.trans x5).trans x6
    rw [l48_SuccinctLists_b2_eq]
    refine condP (fun hi => ?_) (fun hi => ?_)
    · rw [if_neg (by omega)] at hge
      obtain ⟨rfl, rfl⟩ := hge
      exact condYes (decide_eq_true rfl) ⟨rfl, xx⟩
    refine condP (fun hi2 => ?_) (fun hi2 => ?_)
    · rw [if_neg (by omega)] at hge
      obtain ⟨rfl, rfl⟩ := hge
      exact condYes (decide_eq_true rfl) ⟨rfl, xx⟩
    rw [if_pos (by omega)] at hge
    obtain ⟨rfl, rfl⟩ := hge
    rw [l48_SuccinctLists_b3_eq]
    refine condYes (decide_eq_true rfl) ?_
    refine idx_int r6 (by omega) (by omega) ⟨?_, xx⟩
    rw [decide_eq_true rfl]
  · refine ⟨_, _, rfl, ?_⟩
    refine list.mono fun v4 h4 ⟨hh, hv4⟩ => ?_
    subst hh
    rcases hv4 with ⟨_, h5, _⟩ | ⟨_, _, rfl⟩ | ⟨nok, _⟩
    · omega
    rotate_left
    · exact absurd ok nok
    refine ⟨_, rfl, condN (fun hne => absurd rfl hne) fun _ => condNo rfl ?_⟩
    rw [l48_SuccinctLists_b1_eq]
    exact condYes rfl ⟨rfl, x13⟩
  · refine ⟨_, _, rfl, ?_⟩
    refine list.mono fun v4 h4 ⟨hh, hv4⟩ => ?_
    subst hh
    rcases hv4 with ⟨ok, _⟩ | ⟨ok, _⟩ | ⟨_, rfl⟩
    · exact absurd ok nok
    · exact absurd ok nok
    refine ⟨_, rfl, condN (fun hne => absurd rfl hne) fun _ => condNo rfl ?_⟩
    rw [l48_SuccinctLists_b1_eq]
    exact condYes rfl ⟨rfl, x13⟩

/-- What Next and Get say of a found number. -/
theorem next_found {zs : List Int} {x : Int} {i : Nat} (_f : FirstG zs x i) (h : i ≠ zs.length) : nextV zs i = .tuple #[.int .i64 (i : Int), .int .i64 (at_ zs i), .int .i64 0] := by unfold nextV; rw [if_neg h]
theorem next_none {zs : List Int} {i : Nat} (h : i = zs.length) : nextV zs i = .tuple #[.int .i64 0, .int .i64 0, .int .i64 12] := by unfold nextV; rw [if_pos h]
theorem get_at {zs : List Int} {i : Nat} (h : i < zs.length) : getV_ zs (i : Int) = .tuple #[.int .i64 (at_ zs i), .int .i64 0] := by unfold getV_; rw [if_pos (by omega)]; simp

theorem LFinds_ok {h : Hp} {p : Option Addr} {n c : Nat} {zs : List Int} (r : Rd h p n (ints zs)) (x : Int) :
    HCalls Try.prog 4 #[.slice p n c, .int .i64 x] h (fun v h' => v = .bool true ∧ Ext h h') := by
  have hzl : zs.length = n := by have := r.len; simpa using this
  refine l48_SuccinctFinds_call ?_
  rw [l48_SuccinctFinds_b0_eq]
  refine (awake_ok h).mono fun v1 h1 ⟨hv1, x1⟩ => ?_
  refine ⟨_, hv1, condNo rfl ?_⟩
  refine (many_ok h1).mono fun v2 h2 ⟨hv2, hh⟩ => ?_
  subst hh
  refine ⟨_, hv2, condP (fun _ => ⟨rfl, x1⟩) fun hm => ?_⟩
  have hn : n ≤ 1100 := by omega
  refine (MakeMono_ok (r.ext x1) (by omega)).mono fun v3 h3 ⟨x3, hv3⟩ => ?_
  have x13 := x1.trans x3
  rcases hv3 with ⟨ok, hn1, a, rfl, lm⟩ | ⟨ok, hn1, rfl⟩ | ⟨nok, rfl⟩
  rotate_left
  · exact ⟨_, _, rfl, condN (fun _ => ⟨rfl, x13⟩) fun he => absurd he (by decide)⟩
  · exact ⟨_, _, rfl, condN (fun _ => ⟨rfl, x13⟩) fun he => absurd he (by decide)⟩
  refine ⟨_, _, rfl, condN (fun hne => absurd rfl hne) fun _ => condNo rfl ?_⟩
  have m := lm.self
  refine (MLen_ok m).mono fun v4 h4 ⟨hv4, hh⟩ => ?_
  subst hh
  refine ⟨_, hv4, condN (fun hne => absurd (by omega) hne) fun _ => ?_⟩
  rw [l48_SuccinctFinds_b1_eq]
  have b3 : ∀ h5, Ext h4 h5 → l48_SuccinctFinds_b3 p n c (some a) h5 (fun v h' => v = .bool true ∧ Ext h h') := by
    intro h5 x5
    rw [l48_SuccinctFinds_b3_eq]
    refine ⟨fun s h' => Ext h4 h' ∧ ∃ k : Nat, s.1 = k ∧ k ≤ n, fun s _ => (n - s.1).toNat, ⟨x5, 0, rfl, by omega⟩, ?_⟩
    rintro ⟨sk, _⟩ h6 ⟨x6, k, hk, hkn⟩
    simp only at hk
    subst hk
    dsimp only
    rw [l48_SuccinctFinds_b4_eq]
    refine condP (fun hlt => ?_) (fun hge => ?_)
    · have hkl : k < zs.length := by omega
      have m6 := m.ext x6
      refine (MGet_ok m6 (k : Int)).mono fun v7 h7 ⟨hv7, x7⟩ => ?_
      rw [get_at hkl] at hv7
      refine ⟨_, _, hv7, ?_⟩
      refine (MNext_ok (m6.ext x7) (at_ zs k)).mono fun v8 h8 ⟨x8, j, hj, hv8⟩ => ?_
      have hjk : j ≤ k := by
        rcases Nat.lt_or_ge k j with h9 | h9
        · have := hj.2.1 k h9; omega
        · exact h9
      have hjv : at_ zs j = at_ zs k := by
        have h9 := ok.mono hjk hkl
        rcases hj.2.2 with h10 | h10
        · omega
        · omega
      rw [next_found hj (by omega)] at hv8
      refine ⟨_, _, _, hv8, ?_⟩
      refine condN (fun hne => absurd rfl hne) fun _ => condN (fun hne => absurd rfl hne) fun _ => condN (fun hne => absurd hjv hne) fun _ => ?_
      refine condP (fun hc => by omega) fun _ => condP (fun hc => by omega) fun _ => ?_
      have x68 := (x6.trans x7).trans x8
      have r8 := (r.ext x13).ext x68
      have fin : l48_SuccinctFinds_b5 p n c (some a) (n : Int) (k : Int) h8 (fun s' h'' => (Ext h4 h'' ∧ ∃ k : Nat, s'.1 = k ∧ k ≤ n) ∧ (n - s'.1).toNat < (n - (k : Int)).toNat) (fun v h' => v = .bool true ∧ Ext h h') := by
        rw [l48_SuccinctFinds_b5_eq]
        exact ⟨⟨by omega, by omega⟩, ⟨x68, k + 1, by simp only; omega, by omega⟩, by simp only; omega⟩
      refine idx_int r8 (by omega) (by omega) ?_
      rw [show ((j : Nat) : Int).toNat = j by simp]
      refine condN (fun hne => absurd hjv hne) fun _ => ?_
      refine condP (fun h0 => ?_) fun _ => fin
      refine ⟨⟨by omega, by omega⟩, ?_⟩
      refine idx_int r8 (by omega) (by omega) ?_
      rw [show ((j : Int) - 1).toNat = j - 1 by omega]
      have h9 := hj.2.1 (j - 1) (by omega)
      exact condP (fun hc => absurd hc (by show ¬ at_ zs k ≤ at_ zs (j - 1); omega)) fun _ => fin
    · rw [l48_SuccinctFinds_b6_eq]
      exact ⟨rfl, x13.trans x6⟩
  have b2 : ∀ (i : Nat) h5, Ext h4 h5 → i ≤ zs.length → (∀ t, t < i → at_ zs t < x) → l48_SuccinctFinds_b2 p n c x (some a) (i : Int) h5 (fun v h' => v = .bool true ∧ Ext h h') := by
    intro i h5 x5 hin hall
    rw [l48_SuccinctFinds_b2_eq]
    refine condP (fun h0 => ?_) fun _ => b3 h5 x5
    refine ⟨⟨by omega, by omega⟩, ?_⟩
    refine (MGet_ok (m.ext x5) ((i : Int) - 1)).mono fun v7 h7 ⟨hv7, x7⟩ => ?_
    have hi1 : ((i : Int) - 1) = ((i - 1 : Nat) : Int) := by omega
    rw [hi1, get_at (show i - 1 < zs.length by omega)] at hv7
    refine ⟨_, _, hv7, condN (fun hne => absurd rfl hne) fun _ => ?_⟩
    have := hall (i - 1) (by omega)
    exact condP (fun hc => by omega) fun _ => b3 h7 (x5.trans x7)
  refine (MNext_ok m x).mono fun v5 h5 ⟨x5, i, hi, hv5⟩ => ?_
  by_cases hie : i = zs.length
  · rw [next_none hie] at hv5
    refine ⟨_, _, _, hv5, ?_⟩
    refine condP (fun hc => absurd hc (by decide)) fun _ => ?_
    refine condN (fun hne => absurd rfl hne) fun _ => condN (fun hne => absurd rfl hne) fun _ => condN (fun hne => absurd rfl hne) fun _ => ?_
    have := b2 zs.length h5 x5 (Nat.le_refl _) (by rw [← hie]; exact hi.2.1)
    rwa [hzl] at this
  · rw [next_found hi hie] at hv5
    refine ⟨_, _, _, hv5, condYes (decide_eq_true rfl) ?_⟩
    have hil : i < zs.length := by have := hi.1; omega
    have hxi : x ≤ at_ zs i := by rcases hi.2.2 with h6 | h6; exact absurd h6 hie; exact h6
    refine (MGet_ok (m.ext x5) (i : Int)).mono fun v6 h6 ⟨hv6, x6⟩ => ?_
    rw [get_at hil] at hv6
    refine ⟨_, _, hv6, condN (fun hne => absurd rfl hne) fun _ => condN (fun hne => absurd rfl hne) fun _ => ?_⟩
    exact condP (fun hc => by omega) fun _ => b2 i h6 (x5.trans x6) (by omega) hi.2.1
end Go.Proofs.Ytmlfoefadmlhpaa
