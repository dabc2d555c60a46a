/- The law on inverses: a code is decoded to its bits; select, rank, next and prev agree. -/
import Derived.Test.YtomifmeccpconaaSxW11
set_option maxRecDepth 10000
namespace Go.Proofs.Ytomifmeccpconaa
open Go Go.Sx

theorem acc_bit (l : List Bool) (j : Nat) : ∀ k t, t < k → (acc l j k).testBit (k - 1 - t) = l.getD (8 * j + t) false
  | 0, _, h => by omega
  | k + 1, t, h => by
    simp only [acc]
    by_cases ht : t = k
    · subst ht
      rw [show t + 1 - 1 - t = 0 by omega, Nat.testBit_zero]
      cases l.getD (8 * j + t) false
      · simp
      · simp
    · have ih := acc_bit l j k t (by omega)
      rw [show k + 1 - 1 - t = (k - 1 - t) + 1 by omega, Nat.testBit_succ]
      have : (2 * acc l j k + if l.getD (8 * j + k) false then 1 else 0) / 2 = acc l j k := by split <;> omega
      rw [this]; exact ih
theorem codeB_nOf {l : List Bool} (hl : l.length ≤ 65536) : nOf (codeB l) = l.length := by
  unfold nOf codeB hdr
  simp only [List.cons_append, List.getD_cons_zero, List.getD_cons_succ]
  omega
theorem codeB_len (l : List Bool) : (codeB l).length = 4 + (l.length + 7) / 8 := by simp [codeB, hdr, packTo_len]; omega
theorem codeB_bit {l : List Bool} {i : Nat} (hi : i < 8 * ((l.length + 7) / 8)) : bitAt (codeB l) i = l.getD i false := by
  unfold bitAt
  have : (codeB l).getD (4 + i / 8) 0 = acc l (i / 8) 8 := by
    unfold codeB packTo
    rw [List.take_of_length_le (Nat.le_refl _)]
    simp only [List.getD]
    rw [List.getElem?_append_right (by simp [hdr])]
    have : 4 + i / 8 - (hdr l.length).length = i / 8 := by simp [hdr]
    rw [this]
    have : i / 8 < (l.length + 7) / 8 := by omega
    simp [this]
  rw [this]
  have := acc_bit l (i / 8) 8 (i % 8) (by omega)
  rw [show 8 - 1 - i % 8 = 7 - i % 8 by omega, show 8 * (i / 8) + i % 8 = i by omega] at this
  exact this
theorem codeB_dec {l : List Bool} (hl : l.length ≤ 65536) : DecR (codeB l) 0 := by
  refine .inr (.inr (.inr (.inr (.inr ⟨by rw [codeB_len]; omega, by rw [codeB_nOf hl]; exact hl, by rw [codeB_nOf hl, codeB_len]; omega, ?_, rfl⟩))))
  rintro ⟨i, h1, h2, e⟩
  rw [codeB_nOf hl] at h1 h2
  rw [codeB_bit h2] at e
  have : l.getD i false = false := by simp [List.getD, h1]
  rw [this] at e; cases e
theorem codeB_decL {l : List Bool} (hl : l.length ≤ 65536) : decL (codeB l) = l := by
  unfold decL
  rw [codeB_nOf hl]
  apply List.ext_getElem (by simp)
  intro i h1 h2
  simp only [List.getElem_map, List.getElem_range]
  rw [codeB_bit (by omega)]
  simp [List.getD, h2]

theorem LInverse_ok {h : Hp} {p : Option Addr} {n c : Nat} {bits : List Bool} (r : Rd h p n (bits.map Value.bool)) (b : Bool) :
    HCalls Try.prog 8 #[.slice p n c, .bool b] h (fun v h' => v = .bool true ∧ Ext h h') := by
  have hbl : bits.length = n := by have := r.len; simpa using this
  refine LInverse_call ?_
  rw [LInverse_b0_eq]
  refine (awake_ok h).mono fun v1 h1 ⟨hv1, x1⟩ => ?_
  refine ⟨_, hv1, condNo rfl ?_⟩
  refine condP (fun _ => ⟨rfl, x1⟩) (fun hn => ?_)
  refine (Make_ok (r.ext x1) (by omega)).mono fun v2 h2 ⟨x2, a, hv2, va⟩ => ?_
  refine ⟨_, _, hv2, condNo rfl ?_⟩
  have x02 := x1.trans x2
  refine (Len_ok va).mono fun v3 h3 ⟨hv3, hh⟩ => ?_
  subst hh
  refine ⟨_, hv3, condNo (by rw [hbl, decide_eq_true rfl]; rfl) ?_⟩
  rw [LInverse_b1_eq]
  refine (Rank_ok va b n).mono fun v4 h4 ⟨hv4, hh⟩ => ?_
  subst hh
  rw [if_pos (by omega), Int.toNat_natCast] at hv4
  refine ⟨_, _, hv4, condNo rfl ?_⟩
  have hcn := cntB_le bits b n
  refine condNo (decide_eq_false (by omega)) (condNo (decide_eq_false (by omega)) ?_)
  rw [LInverse_b2_eq]
  -- what follows the first loop
  have hdone : ∀ h5, Ext h h5 → Vec h5 a bits → LInverse_b5 p n c (some a) h5 (fun v h' => v = .bool true ∧ Ext h h') := by
    intro h5 x5 v5
    rw [LInverse_b5_eq]
    refine ⟨⟨by omega, by omega⟩, ?_⟩
    refine ⟨fun s h' => h' = h5 ∧ ∃ i : Nat, i ≤ n + 1 ∧ s.1 = i, fun s _ => (n + 1 - s.1).toNat, ⟨rfl, 0, by omega, rfl⟩, ?_⟩
    rintro ⟨si, _⟩ h6 ⟨rfl, i, hi, hsi⟩
    simp only at hsi
    subst hsi
    dsimp only
    rw [LInverse_b7_eq]
    refine condP (fun hlt => ?_) (fun hge => ?_)
    · refine (Rank_ok v5 true i).mono fun v9 h7 ⟨hv9, hh⟩ => ?_
      subst hh
      rw [if_pos (by omega), Int.toNat_natCast] at hv9
      refine ⟨_, _, hv9, ?_⟩
      refine (Rank_ok v5 false i).mono fun v10 h8 ⟨hv10, hh⟩ => ?_
      subst hh
      rw [if_pos (by omega), Int.toNat_natCast] at hv10
      refine ⟨_, _, hv10, condNo rfl (condNo rfl ?_)⟩
      have hboth := cntB_both bits i (by omega)
      refine ⟨⟨by omega, by omega⟩, ?_⟩
      refine condNo (by rw [decide_eq_true (by omega)]; rfl) ?_
      rw [LInverse_b9_eq]
      exact ⟨⟨by omega, by omega⟩, ⟨rfl, i + 1, by omega, by simp only; omega⟩, by simp only; omega⟩
    · rw [LInverse_b10_eq]
      refine (Runs_ok v5).mono fun v11 h7 ⟨x7, p7, c7, hv11, r7⟩ => ?_
      refine ⟨_, _, _, hv11, ?_⟩
      have x07 := x5.trans x7
      have v7 := v5.ext x7
      have hrl : (runsB bits).length ≤ n + 1 := by
        have := runS_len bits bits.length
        unfold runsB
        split
        · simp only [List.length_append, List.length_cons, List.length_nil]; omega
        · simp only [List.append_nil]; omega
      have hsum := runsB_sum bits
      have hpart : ∀ j, j ≤ (runsB bits).length → 0 ≤ ((runsB bits).take j).sum ∧ ((runsB bits).take j).sum ≤ n := by
        intro j hj
        have hall := runsB_ge bits
        have hsplit : (runsB bits).sum = ((runsB bits).take j).sum + ((runsB bits).drop j).sum := by
          rw [← List.sum_append, List.take_append_drop]
        have hnn : ∀ l : List Int, (∀ x ∈ l, 0 ≤ x) → 0 ≤ l.sum := by
          intro l
          induction l with
          | nil => intro _; simp
          | cons y l ih =>
            intro hy
            have h1 := hy y (by simp)
            have h2 := ih (fun x hx => hy x (by simp [hx]))
            rw [List.sum_cons]; omega
        have h1 := hnn ((runsB bits).take j) (fun x hx => hall x (List.mem_of_mem_take hx))
        have h2 := hnn ((runsB bits).drop j) (fun x hx => hall x (List.mem_of_mem_drop hx))
        omega
      refine ⟨fun s h' => h' = h7 ∧ ∃ j : Nat, j ≤ (runsB bits).length ∧ s.2.1 = j ∧ s.1 = ((runsB bits).take j).sum, fun s _ => ((runsB bits).length - s.2.1).toNat, ⟨rfl, 0, by omega, rfl, by simp⟩, ?_⟩
      rintro ⟨st, sj, _⟩ h8 ⟨rfl, j, hj, hsj, hst⟩
      simp only at hsj hst
      subst hsj hst
      dsimp only
      have hp := hpart j hj
      rw [LInverse_b11_eq]
      refine condP (fun hlt => ?_) (fun hge2 => ?_)
      · refine idx_int r7 (by omega) (by omega) ?_
        rw [Int.toNat_natCast]
        have hs1 : ((runsB bits).take (j + 1)).sum = ((runsB bits).take j).sum + (runsB bits).getD j 0 := by
          rw [List.take_succ_eq_append_getElem (by omega), List.sum_append]
          have : (runsB bits).getD j 0 = (runsB bits)[j]'(by omega) := by simp [List.getD, show j < (runsB bits).length by omega]
          rw [this]; simp
        have hp1 := hpart (j + 1) (by omega)
        refine ⟨⟨by omega, by omega⟩, ?_⟩
        rw [LInverse_b12_eq]
        exact ⟨⟨by omega, by omega⟩, ⟨rfl, j + 1, by omega, by simp only; omega, by simp only; omega⟩, by simp only; omega⟩
      · have hjl : j = (runsB bits).length := by omega
        rw [LInverse_b13_eq]
        refine (Encode_ok v7).mono fun v12 h9 ⟨x9, p9, c9, hv12, r9, hc9⟩ => ?_
        refine ⟨_, _, _, hv12, ?_⟩
        have hcl := codeB_len bits
        refine (Decode_ok r9 (codeB_lt _) hc9 (by omega)).mono fun v13 h10 ⟨x10, e, he, hv13⟩ => ?_
        have he0 : e = 0 := decR_unique he (codeB_dec (by omega))
        subst he0
        rcases hv13 with ⟨h0, _⟩ | ⟨_, a10, hv13, va10⟩
        · exact absurd rfl h0
        · refine ⟨_, _, hv13, ?_⟩
          rw [codeB_decL (by omega)] at va10
          have ht : ((runsB bits).take j).sum = (n : Int) := by
            rw [hjl, List.take_of_length_le (Nat.le_refl _), hsum, hbl]
          refine condYes (decide_eq_true ht) (condYes rfl (condYes rfl ?_))
          refine (Bits_ok va10).mono fun v14 h11 ⟨x11, p11, c11, hv14, r11⟩ => ?_
          refine ⟨_, _, _, hv14, ?_⟩
          have x011 := ((x07.trans x9).trans x10).trans x11
          refine (EqB_ok r11 (r.ext x011) (by omega)).mono fun v15 h12 ⟨hv15, hh⟩ => ?_
          subst hh
          exact ⟨_, hv15, by rw [decide_eq_true rfl], x011⟩
  refine ⟨fun s h' => Ext h h' ∧ Vec h' a bits ∧ ∃ L k : Nat, s.1 = (L : Int) - 1 ∧ s.2.1 = k ∧ L ≤ n ∧ k ≤ cntB bits b n ∧ cntB bits b L = k, fun s _ => (cntB bits b n - s.2.1).toNat, ⟨x02, va, 0, 0, rfl, rfl, by omega, by omega, by simp [cntB]⟩, ?_⟩
  rintro ⟨sl, sk, _⟩ h5 ⟨x5, v5, L, k, hsl, hsk, hL, hk, hLk⟩
  simp only at hsl hsk
  subst hsl hsk
  dsimp only
  rw [LInverse_b3_eq]
  refine condP (fun hlt => ?_) (fun hge => ?_)
  · refine (Select_ok v5 b k).mono fun v6 h6 ⟨x6, hv6⟩ => ?_
    have v6' := v5.ext x6
    have x06 := x5.trans x6
    rcases hv6 with ⟨h0, _⟩ | ⟨_, h0, _⟩ | ⟨_, i, hi, hv6⟩
    · omega
    · rw [hbl] at h0; omega
    · rw [Int.toNat_natCast] at hi
      have hiL : L ≤ i := by
        rcases Nat.lt_or_ge i L with h1 | h1
        · have := sel_lt hi h1; omega
        · exact h1
      have hin : i < n := by have := hi.1; omega
      have hci := hi.2.2
      have hc1 : cntB bits b (i + 1) = k + 1 := by
        have := cntB_succ bits b i hi.1
        rw [if_pos hi.2.1] at this; omega
      refine ⟨_, _, hv6, condNo rfl (condNo (decide_eq_false (by omega)) (condNo (decide_eq_false (by omega)) ?_))⟩
      refine idx_bool (r.ext x06) (by omega) (by omega) ?_
      rw [Int.toNat_natCast]
      refine condNo (by rw [hi.2.1]; simp) ?_
      rw [LInverse_b4_eq]
      refine (Rank_ok v6' b i).mono fun v7 h7 ⟨hv7, hh⟩ => ?_
      subst hh
      rw [if_pos (by omega), Int.toNat_natCast] at hv7
      refine ⟨_, _, hv7, ⟨by omega, by omega⟩, ?_⟩
      rw [show (L : Int) - 1 + 1 = (L : Int) by omega]
      refine (Next_ok v6' b L).mono fun v8 h8 ⟨x8, hv8⟩ => ?_
      have hv8' : v8 = .tuple #[.int .i64 (i : Int), .int .i64 0] := by
        rw [Int.toNat_natCast] at hv8
        rcases hv8 with ⟨h0, _⟩ | ⟨_, h0, _⟩ | ⟨_, j, hj, e⟩
        · omega
        · rw [hbl] at h0; omega
        · rw [hLk] at hj
          obtain rfl := sel_unique hi hj
          exact e
      refine ⟨_, _, hv8', ⟨by omega, by omega⟩, ?_⟩
      refine (Prev_ok (v6'.ext x8) b ((i : Int) + 1)).mono fun v9 h9 ⟨x9, hv9⟩ => ?_
      have hv9' : v9 = .tuple #[.int .i64 (i : Int), .int .i64 0] := by
        rw [show ((i : Int) + 1).toNat = i + 1 by omega] at hv9
        rcases hv9 with ⟨h0, _⟩ | ⟨_, h0, _⟩ | ⟨_, _, j, hj, e⟩
        · omega
        · omega
        · rw [hc1] at hj
          obtain rfl := sel_unique hi hj
          exact e
      refine ⟨_, _, hv9', ?_⟩
      refine condNo rfl (condNo (by rw [decide_eq_true (by omega)]; rfl) (condNo rfl (condNo (by rw [decide_eq_true rfl]; rfl) (condNo rfl (condNo (by rw [decide_eq_true rfl]; rfl) ?_)))))
      rw [LInverse_b6_eq, LInverse_b8_eq]
      exact ⟨⟨by omega, by omega⟩, ⟨(x06.trans x8).trans x9, (v6'.ext x8).ext x9, i + 1, k + 1, by simp only; omega, by simp only; omega, by omega, by omega, hc1⟩, by simp only; omega⟩
  · exact hdone h5 x5 v5
end Go.Proofs.Ytomifmeccpconaa
