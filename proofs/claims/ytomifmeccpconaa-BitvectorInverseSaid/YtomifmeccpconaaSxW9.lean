/- Part W9 of the proof: contracts of functions of the program, and what follows from them. -/
import Derived.Test.YtomifmeccpconaaSxW8
set_option maxRecDepth 10000
namespace Go.Proofs.Ytomifmeccpconaa
open Go Go.Sx

theorem sel_lt {bits : List Bool} {b : Bool} {k i j : Nat} (h : IsSel bits b k i) (hij : i < j) : k < cntB bits b j := by
  obtain ⟨h1, h2, h3⟩ := h
  have := cntB_succ bits b i h1
  rw [if_pos h2] at this
  have hm := cntB_mono bits b (i := i + 1) (j := j) (by omega)
  omega
theorem sel_unique {bits : List Bool} {b : Bool} {k i j : Nat} (h : IsSel bits b k i) (g : IsSel bits b k j) : i = j := by
  rcases Nat.lt_trichotomy i j with hl | hl | hl
  · have := sel_lt h hl; have := g.2.2; omega
  · exact hl
  · have := sel_lt g hl; have := h.2.2; omega
theorem sel_cnt {bits : List Bool} {b : Bool} {k i : Nat} (h : IsSel bits b k i) : k < cntB bits b bits.length := sel_lt h h.1

def exBits : List Bool := [false, true, true, false, true]
theorem ex_runs : runsB exBits = [1, 2, 1, 1] := by decide
theorem ex_code : codeB exBits = [0, 0, 0, 5, 104] := by decide
theorem awake_ok (h : Hp) : HCalls Try.prog 9 #[] h (fun v h' => v = .bool true ∧ Ext h h') := by
  refine awake_call ?_
  rw [awake_b0_eq]
  refine New_intro (cs := [_, _, _, _, _]) fun b1 h1 hb1 x1 k1 z1 => ?_
  have r1 : Rd h1 (some ⟨b1, 0, none⟩) 5 (exBits.map Value.bool) := Rd.of_blk k1 (by decide)
  refine (Make_ok r1 (by omega)).mono fun v1 h2 ⟨x2, a, hv1, va⟩ => ?_
  refine ⟨_, _, hv1, ?_⟩
  refine condNo rfl (condNo rfl ?_)
  rw [awake_b1_eq]
  refine (Rank_ok va true 3).mono fun v2 h3 ⟨hv2, hh⟩ => ?_
  subst hh
  rw [if_pos (by decide)] at hv2
  refine ⟨_, _, hv2, ?_⟩
  refine (Select_ok va true 2).mono fun v3 h4 ⟨x4, hv3⟩ => ?_
  have hsel : v3 = .tuple #[.int .i64 4, .int .i64 0] := by
    rcases hv3 with ⟨h0, _⟩ | ⟨_, h0, _⟩ | ⟨_, i, hi, hv3⟩
    · omega
    · exact absurd h0 (by decide)
    · have : i = 4 := sel_unique (k := 2) hi ⟨by decide, by decide, by decide⟩
      subst this; exact hv3
  refine ⟨_, _, hsel, ?_⟩
  refine condYes (decide_eq_true rfl) (condYes (decide_eq_true (by decide)) (condYes (decide_eq_true rfl) (condYes (decide_eq_true rfl) ?_)))
  refine (Runs_ok (va.ext x4)).mono fun v4 h5 ⟨x5, p, c, hv4, r5⟩ => ?_
  refine ⟨_, _, _, hv4, ?_⟩
  refine New_intro (cs := [_, _, _, _]) fun b2 h6 hb2 x6 k6 z6 => ?_
  have r6 : Rd h6 (some ⟨b2, 0, none⟩) 4 (([1, 2, 1, 1] : List Int).map (Value.int .i64)) := Rd.of_blk k6 (by decide)
  refine (EqI_ok (r5.ext x6) r6 (by rw [ex_runs]; decide)).mono fun v5 h7 ⟨hv5, hh⟩ => ?_
  subst hh
  refine ⟨_, hv5, ?_⟩
  refine condYes (decide_eq_true ex_runs) ?_
  refine (Encode_ok (((va.ext x4).ext x5).ext x6)).mono fun v6 h8 ⟨x8, p8, c8, hv6, r8, _⟩ => ?_
  refine ⟨_, _, _, hv6, ?_⟩
  refine New_intro (cs := [_, _, _, _, _]) fun b3 h9 hb3 x9 k9 z9 => ?_
  have r9 : Rd h9 (some ⟨b3, 0, none⟩) 5 (bytesV [0, 0, 0, 5, 104]) := Rd.of_blk k9 (by decide)
  refine (EqBy_ok (r8.ext x9) r9 (codeB_lt _) (by decide)).mono fun v7 h10 ⟨hv7, hh⟩ => ?_
  subst hh
  refine ⟨_, hv7, ?_, ?_⟩
  · rw [decide_eq_true (show codeB exBits = [0, 0, 0, 5, 104] from ex_code)]
  · exact ((((x1.trans x2).trans x4).trans x5).trans x6).trans (x8.trans x9)

theorem LRanks_ok {h : Hp} {p : Option Addr} {n c : Nat} {bits : List Bool} (r : Rd h p n (bits.map Value.bool)) (b : Bool) (i : Int) :
    HCalls Try.prog 3 #[.slice p n c, .bool b, .int .i64 i] h (fun v h' => v = .bool true ∧ Ext h h') := by
  have hbl : bits.length = n := by have := r.len; simpa using this
  refine LRanks_call ?_
  rw [LRanks_b0_eq]
  refine (awake_ok h).mono fun v1 h1 ⟨hv1, x1⟩ => ?_
  refine ⟨_, hv1, condNo rfl ?_⟩
  refine condP (fun _ => ⟨rfl, x1⟩) (fun hn => ?_)
  refine (Make_ok (r.ext x1) (by omega)).mono fun v2 h2 ⟨x2, a, hv2, va⟩ => ?_
  refine ⟨_, _, hv2, condNo rfl ?_⟩
  refine (Rank_ok va b i).mono fun v3 h3 ⟨hv3, hh⟩ => ?_
  subst hh
  have x02 := x1.trans x2
  by_cases hi : 0 ≤ i ∧ i ≤ bits.length
  · rw [if_pos hi] at hv3
    refine ⟨_, _, hv3, ?_⟩
    refine (Select_ok va b i).mono fun v4 h4 ⟨x4, hv4⟩ => ?_
    obtain ⟨k, rfl⟩ := Int.eq_ofNat_of_zero_le hi.1
    have ek : ((k : Nat) : Int).toNat = k := Int.toNat_natCast k
    have x04 := x02.trans x4
    have hfin : ∀ r6 r7 : Int, ((cntB bits b bits.length ≤ k ∧ r6 = 0 ∧ r7 = 12) ∨ ∃ i : Nat, IsSel bits b k i ∧ r6 = i ∧ r7 = 0) → v4 = .tuple #[.int .i64 r6, .int .i64 r7] →
        ∃ r6 r7 : Int, v4 = .tuple #[.int .i64 r6, .int .i64 r7] ∧ ((cntB bits b bits.length ≤ k ∧ r6 = 0 ∧ r7 = 12) ∨ ∃ i : Nat, IsSel bits b k i ∧ r6 = i ∧ r7 = 0) := fun r6 r7 h1 h2 => ⟨r6, r7, h2, h1⟩
    have hv4' : ∃ r6 r7 : Int, v4 = .tuple #[.int .i64 r6, .int .i64 r7] ∧ ((cntB bits b bits.length ≤ k ∧ r6 = 0 ∧ r7 = 12) ∨ ∃ i : Nat, IsSel bits b k i ∧ r6 = i ∧ r7 = 0) := by
      rcases hv4 with ⟨h0, _⟩ | ⟨_, h0, hv4⟩ | ⟨_, i, hi, hv4⟩
      · omega
      · exact ⟨_, _, hv4, .inl ⟨by omega, rfl, rfl⟩⟩
      · rw [ek] at hi; exact ⟨_, _, hv4, .inr ⟨i, hi, rfl, rfl⟩⟩
    obtain ⟨r6, r7, hv4, hc⟩ := hv4'
    refine ⟨_, _, hv4, ?_⟩
    refine condP (fun h0 => by omega) (fun _ => ?_)
    refine condP (fun h0 => by omega) (fun _ => ?_)
    refine (rRank_ok ((r.ext x02).ext x4) b k (by omega) (by omega)).mono fun v5 h5 ⟨hv5, hh⟩ => ?_
    subst hh
    refine ⟨_, hv5, ?_⟩
    rw [ek]
    refine condYes (decide_eq_true rfl) (condYes (decide_eq_true rfl) ?_)
    refine (rSelect_ok ((r.ext x02).ext x4) b k (by omega) (by omega)).mono fun v6 h6 ⟨hh, hv6⟩ => ?_
    subst hh
    rw [← hbl] at hv6
    rcases hv6 with ⟨hle, hv6⟩ | ⟨j, hj, hv6⟩
    · refine ⟨_, hv6, ?_⟩
      refine (number_ok _ _ _ _ _).mono fun v7 h7 ⟨hh, hv7⟩ => ?_
      subst hh
      refine ⟨_, hv7, ?_, x04⟩
      rw [decide_eq_true]
      rcases hc with ⟨_, h6, h7⟩ | ⟨i, hi, _⟩
      · exact .inl ⟨by omega, h6, h7⟩
      · have := sel_cnt hi; omega
    · refine ⟨_, hv6, ?_⟩
      refine (number_ok _ _ _ _ _).mono fun v7 h7 ⟨hh, hv7⟩ => ?_
      subst hh
      refine ⟨_, hv7, ?_, x04⟩
      rw [decide_eq_true]
      rcases hc with ⟨h0, _⟩ | ⟨i, hi, h6, h7⟩
      · have := sel_cnt hj; omega
      · have := sel_unique hi hj
        exact .inr ⟨by omega, by omega, h7⟩
  · rw [if_neg hi] at hv3
    refine ⟨_, _, hv3, ?_⟩
    refine (Select_ok va b i).mono fun v4 h4 ⟨x4, hv4⟩ => ?_
    have x04 := x02.trans x4
    rcases hv4 with ⟨h0, hv4⟩ | ⟨h00, h0, hv4⟩ | ⟨h00, j, hj, hv4⟩
    · refine ⟨_, _, hv4, ?_⟩
      refine condYes (decide_eq_true h0) ?_
      exact ⟨rfl, x04⟩
    · refine ⟨_, _, hv4, ?_⟩
      refine condNo (decide_eq_false (by omega)) (condYes (decide_eq_true (by omega)) ?_)
      exact ⟨rfl, x04⟩
    · have := sel_cnt hj
      have := cntB_le bits b bits.length
      omega

theorem LSteps_ok {h : Hp} {p : Option Addr} {n c : Nat} {bits : List Bool} (r : Rd h p n (bits.map Value.bool)) (b : Bool) (i : Int) :
    HCalls Try.prog 4 #[.slice p n c, .bool b, .int .i64 i] h (fun v h' => v = .bool true ∧ Ext h h') := by
  have hbl : bits.length = n := by have := r.len; simpa using this
  refine LSteps_call ?_
  rw [LSteps_b0_eq]
  refine (awake_ok h).mono fun v1 h1 ⟨hv1, x1⟩ => ?_
  refine ⟨_, hv1, condNo rfl ?_⟩
  refine condP (fun _ => ⟨rfl, x1⟩) (fun hn => ?_)
  refine (Make_ok (r.ext x1) (by omega)).mono fun v2 h2 ⟨x2, a, hv2, va⟩ => ?_
  refine ⟨_, _, hv2, condNo rfl ?_⟩
  have x02 := x1.trans x2
  refine (Next_ok va b i).mono fun v3 h3 ⟨x3, hv3⟩ => ?_
  have hv3' : ∃ r4 r5 : Int, v3 = .tuple #[.int .i64 r4, .int .i64 r5] ∧ ((¬ (0 ≤ i ∧ i ≤ bits.length) ∧ r4 = 0 ∧ r5 = 2) ∨ ((0 ≤ i ∧ i ≤ bits.length) ∧ cntB bits b i.toNat = cntB bits b bits.length ∧ r4 = 0 ∧ r5 = 12) ∨
      ((0 ≤ i ∧ i ≤ bits.length) ∧ ∃ j : Nat, IsSel bits b (cntB bits b i.toNat) j ∧ r4 = j ∧ r5 = 0)) := by
    rcases hv3 with ⟨h0, e⟩ | ⟨h0, h1, e⟩ | ⟨h0, j, hj, e⟩
    · exact ⟨_, _, e, .inl ⟨h0, rfl, rfl⟩⟩
    · exact ⟨_, _, e, .inr (.inl ⟨h0, h1, rfl, rfl⟩)⟩
    · exact ⟨_, _, e, .inr (.inr ⟨h0, j, hj, rfl, rfl⟩)⟩
  obtain ⟨r4, r5, hv3, hc⟩ := hv3'
  refine ⟨_, _, hv3, ?_⟩
  refine (Prev_ok (va.ext x3) b i).mono fun v4 h4 ⟨x4, hv4⟩ => ?_
  have hv4' : ∃ r6 r7 : Int, v4 = .tuple #[.int .i64 r6, .int .i64 r7] ∧ ((¬ (0 ≤ i ∧ i ≤ bits.length) ∧ r6 = 0 ∧ r7 = 2) ∨ ((0 ≤ i ∧ i ≤ bits.length) ∧ cntB bits b i.toNat = 0 ∧ r6 = 0 ∧ r7 = 12) ∨
      ((0 ≤ i ∧ i ≤ bits.length) ∧ 0 < cntB bits b i.toNat ∧ ∃ j : Nat, IsSel bits b (cntB bits b i.toNat - 1) j ∧ r6 = j ∧ r7 = 0)) := by
    rcases hv4 with ⟨h0, e⟩ | ⟨h0, h1, e⟩ | ⟨h0, h1, j, hj, e⟩
    · exact ⟨_, _, e, .inl ⟨h0, rfl, rfl⟩⟩
    · exact ⟨_, _, e, .inr (.inl ⟨h0, h1, rfl, rfl⟩)⟩
    · exact ⟨_, _, e, .inr (.inr ⟨h0, h1, j, hj, rfl, rfl⟩)⟩
  obtain ⟨r6, r7, hv4, hd⟩ := hv4'
  refine ⟨_, _, hv4, ?_⟩
  have x04 := (x02.trans x3).trans x4
  by_cases hi : 0 ≤ i ∧ i ≤ bits.length
  · refine condP (fun h0 => by omega) (fun _ => ?_)
    refine condP (fun h0 => by omega) (fun _ => ?_)
    rw [LSteps_b1_eq]
    obtain ⟨k, rfl⟩ := Int.eq_ofNat_of_zero_le hi.1
    have ek : ((k : Nat) : Int).toNat = k := Int.toNat_natCast k
    rw [ek] at hc hd
    have r4' := r.ext x04
    refine (rNext_ok r4' b k (by omega) (by omega)).mono fun v5 h5 ⟨hh, hv5⟩ => ?_
    subst hh
    rw [← hbl] at hv5
    have hv5' : ∃ w : Int, v5 = .int .i64 w ∧ ((w < 0 ∧ r4 = 0 ∧ r5 = 12) ∨ (0 ≤ w ∧ r4 = w ∧ r5 = 0)) := by
      rcases hv5 with ⟨h0, e⟩ | ⟨j, hj, e⟩
      · refine ⟨_, e, .inl ⟨by omega, ?_⟩⟩
        rcases hc with ⟨h1, _⟩ | ⟨_, _, h6, h7⟩ | ⟨_, j, hj, _⟩
        · exact absurd hi h1
        · exact ⟨h6, h7⟩
        · have := sel_cnt hj; omega
      · refine ⟨_, e, .inr ⟨by omega, ?_⟩⟩
        rcases hc with ⟨h1, _⟩ | ⟨_, h1, _⟩ | ⟨_, j', hj', h6, h7⟩
        · exact absurd hi h1
        · have := sel_cnt hj; omega
        · have := sel_unique hj hj'; exact ⟨by omega, h7⟩
    obtain ⟨w, hv5, hw⟩ := hv5'
    refine ⟨_, hv5, ?_⟩
    refine (number_ok _ _ _ _ _).mono fun v6 h6 ⟨hh, hv6⟩ => ?_
    subst hh
    refine ⟨_, hv6, ?_⟩
    refine condYes (decide_eq_true hw) ?_
    refine (rPrev_ok r4' b k (by omega) (by omega)).mono fun v7 h7 ⟨hh, hv7⟩ => ?_
    subst hh
    have hv7' : ∃ w : Int, v7 = .int .i64 w ∧ ((w < 0 ∧ r6 = 0 ∧ r7 = 12) ∨ (0 ≤ w ∧ r6 = w ∧ r7 = 0)) := by
      rcases hv7 with ⟨h0, e⟩ | ⟨j, hj0, hj, e⟩
      · refine ⟨_, e, .inl ⟨by omega, ?_⟩⟩
        rcases hd with ⟨h1, _⟩ | ⟨_, _, h6, h7⟩ | ⟨_, h1, _⟩
        · exact absurd hi h1
        · exact ⟨h6, h7⟩
        · omega
      · refine ⟨_, e, .inr ⟨by omega, ?_⟩⟩
        rcases hd with ⟨h1, _⟩ | ⟨_, h1, _⟩ | ⟨_, _, j', hj', h6, h7⟩
        · exact absurd hi h1
        · omega
        · have := sel_unique hj hj'; exact ⟨by omega, h7⟩
    obtain ⟨w', hv7, hw'⟩ := hv7'
    refine ⟨_, hv7, ?_⟩
    refine (number_ok _ _ _ _ _).mono fun v8 h8 ⟨hh, hv8⟩ => ?_
    subst hh
    refine ⟨_, hv8, ?_, x04⟩
    rw [decide_eq_true hw']
  · have e4 : r4 = 0 ∧ r5 = 2 := by
      rcases hc with ⟨_, h⟩ | ⟨h, _⟩ | ⟨h, _⟩
      · exact h
      · exact absurd h hi
      · exact absurd h hi
    have e6 : r6 = 0 ∧ r7 = 2 := by
      rcases hd with ⟨_, h⟩ | ⟨h, _⟩ | ⟨h, _⟩
      · exact h
      · exact absurd h hi
      · exact absurd h hi
    obtain ⟨rfl, rfl⟩ := e4
    obtain ⟨rfl, rfl⟩ := e6
    refine condP (fun h0 => ?_) (fun h0 => ?_)
    · exact ⟨rfl, x04⟩
    · refine condYes (decide_eq_true (by omega)) ?_
      exact ⟨rfl, x04⟩

theorem LNil_ok (h : Hp) (b : Bool) (i : Int) :
    HCalls Try.prog 6 #[.bool b, .int .i64 i] h (fun v h' => v = .bool true ∧ Ext h h') := by
  refine LNil_call ?_
  rw [LNil_b0_eq]
  refine (awake_ok h).mono fun v1 h1 ⟨hv1, x1⟩ => ?_
  refine ⟨_, hv1, condNo rfl ?_⟩
  refine (Get_nil i h1).mono fun v2 h2 ⟨e2, hh⟩ => ?_
  subst hh
  refine ⟨_, _, e2, ?_⟩
  refine (Rank_nil b i _).mono fun v3 h3 ⟨e3, hh⟩ => ?_
  subst hh
  refine ⟨_, _, e3, ?_⟩
  refine (Select_nil b i _).mono fun v4 h4 ⟨e4, x4⟩ => ?_
  refine ⟨_, _, e4, ?_⟩
  refine (Next_nil b i _).mono fun v5 h5 ⟨e5, hh⟩ => ?_
  subst hh
  refine ⟨_, _, e5, ?_⟩
  refine (Prev_nil b i _).mono fun v6 h6 ⟨e6, hh⟩ => ?_
  subst hh
  refine ⟨_, _, e6, ?_⟩
  refine condYes rfl (condYes rfl (condYes rfl (condYes rfl (condYes rfl (condYes rfl (condYes rfl (condYes rfl (condYes rfl (condYes rfl ?_)))))))))
  refine (Len_nil _).mono fun v7 h7 ⟨e7, hh⟩ => ?_
  subst hh
  refine ⟨_, e7, condYes rfl ?_⟩
  refine (Ones_nil _).mono fun v8 h8 ⟨e8, hh⟩ => ?_
  subst hh
  refine ⟨_, e8, condYes rfl ?_⟩
  refine (Bits_nil _).mono fun v9 h9 ⟨e9, hh⟩ => ?_
  subst hh
  refine ⟨_, _, _, e9, condYes rfl ?_⟩
  refine (Runs_nil _).mono fun v10 h10 ⟨e10, hh⟩ => ?_
  subst hh
  refine ⟨_, _, _, e10, condYes rfl ?_⟩
  refine (Encode_nil _).mono fun v11 h11 ⟨e11, hh⟩ => ?_
  subst hh
  refine ⟨_, _, _, e11, rfl, x1.trans x4⟩

theorem LMakes_ok {h : Hp} {p : Option Addr} {n c : Nat} {bits : List Bool} (r : Rd h p n (bits.map Value.bool)) (i : Int) :
    HCalls Try.prog 5 #[.slice p n c, .int .i64 i] h (fun v h' => v = .bool true ∧ Ext h h') := by
  have hbl : bits.length = n := by have := r.len; simpa using this
  refine LMakes_call ?_
  rw [LMakes_b0_eq]
  refine (awake_ok h).mono fun v1 h1 ⟨hv1, x1⟩ => ?_
  refine ⟨_, hv1, condNo rfl ?_⟩
  have hbig : 65536 < n → LMakes_b1 p n c i h1 (fun v h' => v = .bool true ∧ Ext h h') := by
    intro hn
    rw [LMakes_b1_eq]
    refine (Make_full hn).mono fun v2 h2 ⟨e2, hh⟩ => ?_
    subst hh
    refine ⟨_, _, e2, ?_⟩
    refine condYes (decide_eq_true (by omega)) (condYes rfl ?_)
    exact ⟨rfl, x1⟩
  have hsmall : n ≤ 2000 → LMakes_b1 p n c i h1 (fun v h' => v = .bool true ∧ Ext h h') := by
    intro hn
    rw [LMakes_b1_eq]
    refine (Make_ok (r.ext x1) (by omega)).mono fun v2 h2 ⟨x2, a, hv2, va⟩ => ?_
    refine ⟨_, _, hv2, ?_⟩
    refine condNo (decide_eq_false (by omega)) (condNo rfl (condNo rfl ?_))
    have x02 := x1.trans x2
    refine (Len_ok va).mono fun v3 h3 ⟨e3, hh⟩ => ?_
    subst hh
    refine ⟨_, e3, ?_⟩
    refine condNo (by rw [decide_eq_true (by omega)]; rfl) ?_
    refine (Ones_ok va).mono fun v4 h4 ⟨e4, hh⟩ => ?_
    subst hh
    refine ⟨_, e4, ?_⟩
    refine (rRank_ok (r.ext x02) true n (by omega) (by omega)).mono fun v5 h5 ⟨e5, hh⟩ => ?_
    subst hh
    refine ⟨_, e5, ?_⟩
    refine condNo (by rw [hbl, decide_eq_true rfl]; rfl) ?_
    refine (Bits_ok va).mono fun v6 h6 ⟨x6, p6, c6, e6, r6⟩ => ?_
    refine ⟨_, _, _, e6, ?_⟩
    refine (EqB_ok r6 ((r.ext x02).ext x6) (by omega)).mono fun v7 h7 ⟨e7, hh⟩ => ?_
    subst hh
    refine ⟨_, e7, ?_⟩
    refine condNo (by rw [decide_eq_true rfl]; rfl) ?_
    refine (Runs_ok (va.ext x6)).mono fun v8 h8 ⟨x8, p8, c8, e8, r8⟩ => ?_
    refine ⟨_, _, _, e8, ?_⟩
    refine (rRuns_ok (((r.ext x02).ext x6).ext x8) (by omega)).mono fun v9 h9 ⟨x9, p9, c9, e9, r9⟩ => ?_
    refine ⟨_, _, _, e9, ?_⟩
    have hrl : (runsB bits).length ≤ n + 1 := by
      have := runS_len bits bits.length
      unfold runsB
      split
      · simp only [List.length_append, List.length_cons, List.length_nil]; omega
      · simp only [List.append_nil]; omega
    refine (EqI_ok (r8.ext x9) r9 (by omega)).mono fun v10 h10 ⟨e10, hh⟩ => ?_
    subst hh
    refine ⟨_, e10, ?_⟩
    refine condNo (by rw [decide_eq_true rfl]; rfl) ?_
    have x09 := (x02.trans x6).trans (x8.trans x9)
    rw [LMakes_b2_eq]
    refine (Get_ok (((va.ext x6).ext x8).ext x9) i).mono fun v11 h11 ⟨e11, hh⟩ => ?_
    subst hh
    by_cases hi : 0 ≤ i ∧ i < bits.length
    · rw [if_pos hi] at e11
      refine ⟨_, _, e11, ?_⟩
      refine condNo (decide_eq_false (by omega)) (condNo (decide_eq_false (by omega)) ?_)
      rw [LMakes_b3_eq]
      refine idx_bool (r.ext x09) (by omega) (by omega) ?_
      refine condYes (by simp) ?_
      exact ⟨rfl, x09⟩
    · rw [if_neg hi] at e11
      refine ⟨_, _, e11, ?_⟩
      refine condP (fun h0 => ?_) (fun h0 => ?_)
      · exact ⟨rfl, x09⟩
      · refine condYes (decide_eq_true (by omega)) ?_
        exact ⟨rfl, x09⟩
  refine condP (fun h2 => ?_) (fun h2 => ?_)
  · refine condP (fun h3 => ⟨rfl, x1⟩) (fun h3 => ?_)
    refine condP (fun h4 => ⟨rfl, x1⟩) (fun h4 => ?_)
    exact hbig (by omega)
  · refine condP (fun h4 => ⟨rfl, x1⟩) (fun h4 => ?_)
    exact hsmall (by omega)
end Go.Proofs.Ytomifmeccpconaa
