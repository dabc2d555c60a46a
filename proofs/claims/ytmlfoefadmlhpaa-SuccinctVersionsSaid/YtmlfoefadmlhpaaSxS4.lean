/- Part S4 of the proof: contracts of functions of the program, and what follows from them. -/
import Derived.Test.YtmlfoefadmlhpaaSxS3
set_option maxRecDepth 10000
namespace Go.Proofs.Ytmlfoefadmlhpaa
open Go Go.Sx

/-- MakeMonotone: the list, or the error. -/
theorem MakeMono_ok {h : Hp} {p : Option Addr} {n c : Nat} {zs : List Int} (r : Rd h p n (ints zs)) (hn : n ≤ 4611686018427387904) :
    HCalls Try.prog 13 #[.slice p n c] h (fun v h' => Ext h h' ∧ ((okL zs ∧ n ≤ 1000 ∧ ∃ a, v = .tuple #[.pointer (some a), .int .i64 0] ∧ LocH h.size h' (fun g => Mono g a zs)) ∨
      (okL zs ∧ 1000 < n ∧ v = .tuple #[.pointer none, .int .i64 4]) ∨ (¬ okL zs ∧ v = .tuple #[.pointer none, .int .i64 1]))) := by
  have hzl : zs.length = n := by have := r.len; simpa using this
  refine succinct_MakeMonotone_call ?_
  rw [succinct_MakeMonotone_b0_eq]
  refine ⟨fun s h' => h' = h ∧ ∃ i : Nat, s.1 = i ∧ i ≤ n ∧ ∀ t, t < i → ¬ badAt zs t, fun s _ => (n - s.1).toNat, ⟨rfl, 0, rfl, by omega, by omega⟩, ?_⟩
  rintro ⟨si, _⟩ h' ⟨rfl, i, hi, hin, hall⟩
  simp only at hi
  subst hi
  dsimp only
  rw [succinct_MakeMonotone_b1_eq]
  have e : ((i : Nat) : Int).toNat = i := by simp
  refine condP (fun hlt => ?_) (fun hge => ?_)
  · have bad : badAt zs i → ¬ okL zs := fun hb ho => ho i (by omega) hb
    have good : ∀ {K : Value → Hp → Prop}, ¬ badAt zs i → succinct_MakeMonotone_b2 p n c p n c (n : Int) (i : Int) h' (fun s' h'' => (h'' = h' ∧ ∃ i : Nat, s'.1 = i ∧ i ≤ n ∧ ∀ t, t < i → ¬ badAt zs t) ∧ (n - s'.1).toNat < (n - (i : Int)).toNat) K := by
      intro K hg
      rw [succinct_MakeMonotone_b2_eq]
      refine ⟨⟨by omega, by omega⟩, ⟨rfl, i + 1, by simp only; omega, by omega, fun t ht => ?_⟩, by simp only; omega⟩
      rcases Nat.lt_or_ge t i with h1 | h1
      · exact hall t h1
      · obtain rfl : t = i := by omega
        exact hg
    refine idx_int r (by omega) (by omega) ?_
    rw [e]
    refine condP (fun h1 => ⟨Ext.refl _, .inr (.inr ⟨bad (.inl h1), rfl⟩)⟩) (fun h1 => ?_)
    refine condP (fun h2 => ⟨Ext.refl _, .inr (.inr ⟨bad (.inr (.inl h2)), rfl⟩)⟩) (fun h2 => ?_)
    refine condP (fun h3 => ?_) (fun h3 => good ?_)
    · refine ⟨⟨by omega, by omega⟩, ?_⟩
      refine idx_int r (by omega) (by omega) ?_
      rw [show ((i : Int) - 1).toNat = i - 1 by omega]
      refine condP (fun h4 => ⟨Ext.refl _, .inr (.inr ⟨bad (.inr (.inr ⟨by omega, h4⟩)), rfl⟩)⟩) (fun h4 => good ?_)
      rintro (hb | hb | hb)
      · exact h1 hb
      · exact h2 hb
      · exact h4 hb.2
    · rintro (hb | hb | hb)
      · exact h1 hb
      · exact h2 hb
      · omega
  · have hin' : i = n := by omega
    subst hin'
    have ok : okL zs := fun t ht => hall t (by omega)
    rw [succinct_MakeMonotone_b3_eq]
    refine condP (fun h1 => ⟨Ext.refl _, .inr (.inl ⟨ok, by omega, rfl⟩)⟩) (fun h1 => ?_)
    refine New_intro (cs := [.pointer none, .slice none 0 0, .int .i64 0, .int .i64 0]) fun b1 h2 hb1 x2 k2 z2 => ?_
    have hK : ∀ (v : Value) (h'' : Hp), Ext h' h'' → (∃ a, v = .tuple #[.pointer (some a), .int .i64 0] ∧ LocH h'.size h'' (fun g => Mono g a zs)) → Ext h' h'' ∧ ((okL zs ∧ i ≤ 1000 ∧ ∃ a, v = .tuple #[.pointer (some a), .int .i64 0] ∧ LocH h'.size h'' (fun g => Mono g a zs)) ∨
      (okL zs ∧ 1000 < i ∧ v = .tuple #[.pointer none, .int .i64 4]) ∨ (¬ okL zs ∧ v = .tuple #[.pointer none, .int .i64 1])) := fun v h'' x y => ⟨x, .inl ⟨ok, by omega, y⟩⟩
    have hb1l := k2.lt
    refine condP (fun hpos => ?_) (fun hz => ?_)
    · -- not empty
      have hu := ok.le (i := zs.length - 1) (by omega)
      have hs40 := shift_le ok
      have hhi := high_le (zs := zs) (by omega)
      have b4 : ∀ h3, Ext h' h3 → Blk h3 b1 [.pointer none, .slice none 0 0, .int .i64 (shiftOf zs : Nat), .int .i64 0] 68 →
          succinct_MakeMonotone_b4 p i c (i : Int) (some ⟨b1, 0, none⟩) (at_ zs (zs.length - 1)) h3 (fun v h'' => Ext h' h'' ∧ ((okL zs ∧ i ≤ 1000 ∧ ∃ a, v = .tuple #[.pointer (some a), .int .i64 0] ∧ LocH h'.size h'' (fun g => Mono g a zs)) ∨
      (okL zs ∧ 1000 < i ∧ v = .tuple #[.pointer none, .int .i64 4]) ∨ (¬ okL zs ∧ v = .tuple #[.pointer none, .int .i64 1]))) := by
        intro h3 x3 k3
        rw [succinct_MakeMonotone_b4_eq]
        obtain ⟨u, hue⟩ := Int.eq_ofNat_of_zero_le hu.1
        rw [hue] at hhi ⊢
        rw [show ((u : Int)).toNat = u by simp] at hhi
        refine ⟨⟨by omega, by omega⟩, ?_⟩
        refine ⟨_, (by rw [add_mk]; exact k3.cell 2), ?_⟩
        refine shr_intro (x := u) (s := shiftOf zs) rfl rfl (by simp [IntKind.bits]; omega) ?_
        rw [Nat.shiftRight_eq_div_pow]
        generalize hhe : u / 2 ^ shiftOf zs = hh at hhi ⊢
        refine ⟨⟨by omega, by omega⟩, ⟨by omega, by omega, by omega, by omega⟩, ?_⟩
        have em : (((i : Int) + 1) + (hh : Int)).toNat = i + 1 + hh := by omega
        rw [em, Nat.mul_one, repL_one]
        refine New_intro fun b2 h4 hb2 x4 k4 z4 => ?_
        have k3' := k3.ext x4
        refine ⟨_, (by rw [add_mk]; exact k3'.cell 2), ?_⟩
        have hm40 : i * shiftOf zs ≤ 1000 * 40 := Nat.mul_le_mul (by omega) hs40
        have hmm : ((i : Int) * ((shiftOf zs : Nat) : Int)) = ((i * shiftOf zs : Nat) : Int) := by simp
        rw [hmm]
        refine ⟨⟨by omega, by omega⟩, ⟨by omega, by omega⟩, ?_⟩
        refine Wr_intro (add_mk _ _ _) k3' (by simp) fun h5 hz5 hs5 k5 => ?_
        have hx3 := x3.size
        have hx4 := x4.size
        have hk3l := k3.lt
        have x5 : Ext h' h5 := ⟨by omega, fun k hk => by rw [hs5 k (by omega), x4.same k (by omega)]; exact x3.same k hk⟩
        refine MakeMono_b5 r ok (by omega) x5 (by omega) (.inr ⟨b2, by omega, rfl, ?_, ?_⟩) ?_ hK
        · rw [show i - 1 = zs.length - 1 by omega, hue, show ((u : Int)).toNat = u by simp, hhe]
        · have := k4.same (hs5 b2 (by omega))
          simpa using this
        · have e5 : ((i * shiftOf zs : Nat) : Int) + ((i + 1 + hh : Nat) : Int) = (spaceOf zs : Nat) := by
            unfold spaceOf
            rw [if_neg (by omega), hue, show ((u : Int)).toNat = u by simp, hhe, hzl]
            omega
          rw [e5] at k5
          exact k5
      refine ⟨⟨by omega, by omega⟩, ?_⟩
      refine idx_int (r.ext x2) (by omega) (by omega) ?_
      rw [show ((i : Int) - 1).toNat = zs.length - 1 by omega]
      refine condP (fun hc => ?_) (fun hc => ?_)
      · obtain ⟨u, hue⟩ := Int.eq_ofNat_of_zero_le hu.1
        have hue' : zs.getD (zs.length - 1) 0 = (u : Int) := hue
        rw [hue'] at hc ⊢
        refine quo_intro (by omega) (by omega) (by omega) ?_
        rw [show ((u : Int) / (i : Int)) = ((u / i : Nat) : Int) by simp]
        have hq := Nat.div_le_self u i
        have hq1 := Nat.div_pos (show i ≤ u by omega) (by omega)
        refine (FloorLog_ok (u / i) (by omega) (by omega) h2).mono fun v h3 ⟨hv, hh⟩ => ?_
        subst hh
        refine ⟨_, _, hv, ?_⟩
        refine Wr_intro (add_mk _ _ _) k2 (by simp) fun h4 hz4 hs4 k4 => ?_
        have hx2 := x2.size
        rw [← hue]
        refine b4 h4 ⟨by omega, fun k hk => by rw [hs4 k (by omega)]; exact x2.same k hk⟩ ?_
        have es : (u / i).log2 = shiftOf zs := by
          unfold shiftOf
          rw [hue, show ((u : Int)).toNat = u by simp, if_pos (by omega), hzl]
        rw [es] at k4
        exact k4
      · refine b4 h2 x2 ?_
        have es : shiftOf zs = 0 := by
          unfold shiftOf
          rw [if_neg]
          intro hle
          have : (i : Int) ≤ at_ zs (zs.length - 1) := by omega
          exact hc this
        rw [es]; exact k2
    · have hi0 : i = 0 := by omega
      have es : spaceOf zs = 0 := by unfold spaceOf; rw [if_pos (by omega)]
      have es2 : shiftOf zs = 0 := by
        unfold shiftOf
        rw [hzl, hi0]
        split
        · rw [Nat.div_zero]; decide
        · rfl
      refine MakeMono_b5 r ok (by omega) x2 (by omega) (.inl ⟨hi0, rfl⟩) ?_ hK
      rw [es, es2]; exact k2

theorem at_ok {h : Hp} {a : Addr} {zs : List Int} (m : Mono h a zs) (i : Nat) (hi : i < zs.length) :
    HCalls Try.prog 49 #[.pointer (some a), .int .i64 (i : Int)] h (fun r h' => r = .int .i64 (at_ zs i) ∧ Ext h h') := by
  refine succinct_Monotone_at_call ?_
  rw [succinct_Monotone_at_b0_eq]
  obtain ⟨v, bits, h1, h2, h3⟩ := m.vec
  have hz := m.ok.le hi
  have hs40 := shift_le m.ok
  refine ⟨_, h1, ?_⟩
  refine (Select_at h2 (h3 i hi)).mono fun r h' ⟨x, hr⟩ => ?_
  have m' := m.ext x
  obtain ⟨p, c, h4, h5⟩ := m'.lows
  refine ⟨_, _, hr, ?_⟩
  obtain ⟨z, hze⟩ := Int.eq_ofNat_of_zero_le hz.1
  have hposj : posOf zs i = i + z / 2 ^ shiftOf zs := by unfold posOf; rw [hze]; simp
  have hp0 : 0 < 2 ^ shiftOf zs := Nat.two_pow_pos _
  have hdm := Nat.div_add_mod z (2 ^ shiftOf zs)
  have hml := Nat.mod_lt z hp0
  have hq : z / 2 ^ shiftOf zs ≤ z := Nat.div_le_self _ _
  have hsm : m.small = m.small := rfl
  have hsmall := m.small
  refine ⟨⟨by omega, by omega⟩, ?_⟩
  refine ⟨_, m'.shift, ?_⟩
  have hmul : z / 2 ^ shiftOf zs * 2 ^ shiftOf zs ≤ z := Nat.div_mul_le_self _ _
  refine shl_intro (x := z / 2 ^ shiftOf zs) (s := shiftOf zs) (by rw [hposj]; omega) rfl (by simp [IntKind.bits]; omega) (by rw [wrap_i64_in]; exact ⟨by omega, by omega⟩) ?_
  refine ⟨_, _, _, h4, ?_⟩
  refine idx_int h5 (by omega) (by omega) ?_
  have hg : (lowsOf zs).getD ((i : Nat) : Int).toNat 0 = ((z % 2 ^ shiftOf zs : Nat) : Int) := by
    have hzi : zs[i] = (z : Int) := by simpa [at_, List.getD, hi] using hze
    simp [lowsOf, List.getD, hi, hzi]
  rw [hg]
  refine or_i64 (x := z / 2 ^ shiftOf zs * 2 ^ shiftOf zs) (y := z % 2 ^ shiftOf zs) rfl rfl (by omega) (by omega) ⟨?_, x⟩
  rw [Nat.mul_comm, ← Nat.two_pow_add_eq_or_of_lt hml, hze, hdm]

abbrev getV_ (zs : List Int) (i : Int) : Value := if 0 ≤ i ∧ i < zs.length then .tuple #[.int .i64 (at_ zs i.toNat), .int .i64 0] else .tuple #[.int .i64 0, .int .i64 2]
theorem MGet_ok {h : Hp} {a : Addr} {zs : List Int} (m : Mono h a zs) (i : Int) :
    HCalls Try.prog 15 #[.pointer (some a), .int .i64 i] h (fun r h' => r = getV_ zs i ∧ Ext h h') := by
  refine succinct_Monotone_Get_call ?_
  rw [succinct_Monotone_Get_b0_eq]
  obtain ⟨p, c, h4, h5⟩ := m.lows
  refine condNo rfl ?_
  refine condP (fun hc => ⟨by unfold getV_; rw [if_neg (by omega)], Ext.refl _⟩) (fun hc => ?_)
  refine ⟨_, _, _, h4, ?_⟩
  refine condP (fun hc => ⟨by unfold getV_; rw [if_neg (by omega)], Ext.refl _⟩) (fun hc2 => ?_)
  rw [succinct_Monotone_Get_b1_eq]
  obtain ⟨k, rfl⟩ := Int.eq_ofNat_of_zero_le (show 0 ≤ i by omega)
  refine (at_ok m k (by omega)).mono fun r h' ⟨hr, x⟩ => ?_
  refine ⟨_, hr, ?_, x⟩
  unfold getV_
  rw [if_pos (by omega)]
  simp
theorem MGet_nil (i : Int) (h : Hp) : HCalls Try.prog 15 #[.pointer none, .int .i64 i] h (fun r h' => r = .tuple #[.int .i64 0, .int .i64 1] ∧ h' = h) := by
  refine succinct_Monotone_Get_call ?_
  rw [succinct_Monotone_Get_b0_eq]
  exact condYes rfl ⟨rfl, rfl⟩
theorem MLen_ok {h : Hp} {a : Addr} {zs : List Int} (m : Mono h a zs) : HCalls Try.prog 18 #[.pointer (some a)] h (fun r h' => r = .int .i64 (zs.length : Int) ∧ h' = h) := by
  refine succinct_Monotone_Len_call ?_
  rw [succinct_Monotone_Len_b0_eq]
  obtain ⟨p, c, h4, h5⟩ := m.lows
  exact condNo rfl ⟨_, _, _, h4, rfl, rfl⟩
theorem MLen_nil (h : Hp) : HCalls Try.prog 18 #[.pointer none] h (fun r h' => r = .int .i64 0 ∧ h' = h) := by
  refine succinct_Monotone_Len_call ?_
  rw [succinct_Monotone_Len_b0_eq]
  exact condYes rfl ⟨rfl, rfl⟩
theorem MSpace_ok {h : Hp} {a : Addr} {zs : List Int} (m : Mono h a zs) : HCalls Try.prog 19 #[.pointer (some a)] h (fun r h' => r = .int .i64 (spaceOf zs : Nat) ∧ h' = h) := by
  refine succinct_Monotone_Space_call ?_
  rw [succinct_Monotone_Space_b0_eq]
  exact condNo rfl ⟨_, m.space, rfl, rfl⟩
theorem MSpace_nil (h : Hp) : HCalls Try.prog 19 #[.pointer none] h (fun r h' => r = .int .i64 0 ∧ h' = h) := by
  refine succinct_Monotone_Space_call ?_
  rw [succinct_Monotone_Space_b0_eq]
  exact condYes rfl ⟨rfl, rfl⟩
theorem MNext_nil (x : Int) (h : Hp) : HCalls Try.prog 16 #[.pointer none, .int .i64 x] h (fun r h' => r = .tuple #[.int .i64 0, .int .i64 0, .int .i64 1] ∧ Ext h h') := by
  refine succinct_Monotone_Next_call ?_
  rw [succinct_Monotone_Next_b0_eq]
  refine New_intro (cs := [.pointer none]) fun b1 h1 hb1 x1 k1 z1 => ?_
  refine New_intro (cs := [.int .i64 x]) fun b2 h2 hb2 x2 k2 z2 => ?_
  exact ⟨_, (k1.ext x2).cell 0, condYes rfl ⟨rfl, x1.trans x2⟩⟩
theorem MNext_ok {h : Hp} {a : Addr} {zs : List Int} (m : Mono h a zs) (x : Int) :
    HCalls Try.prog 16 #[.pointer (some a), .int .i64 x] h (fun r h' => Ext h h' ∧ ∃ i, FirstG zs x i ∧ r = nextV zs i) := by
  refine succinct_Monotone_Next_call ?_
  rw [succinct_Monotone_Next_b0_eq]
  have hsmall := m.small
  refine New_intro (cs := [.pointer (some a)]) fun b1 h1 hb1 x1 k1 z1 => ?_
  refine New_intro (cs := [.int .i64 x]) fun b2 h2 hb2 x2 k2 z2 => ?_
  have xx := x1.trans x2
  have m2 := m.ext xx
  have c1 : cell h2 ⟨b1, 0, none⟩ = some (.pointer (some a)) := (k1.ext x2).cell 0
  have c2 : cell h2 ⟨b2, 0, none⟩ = some (.int .i64 x) := k2.cell 0
  obtain ⟨p, c, h4, h5⟩ := m2.lows
  refine ⟨_, c1, condNo rfl ⟨_, c1, ?_⟩⟩
  refine ⟨_, _, _, h4, ?_⟩
  have hsearch := Search_ext (n := zs.length) (g := 51) (first := #[]) (cap := #[.pointer (some ⟨b1, 0, none⟩), .pointer (some ⟨b2, 0, none⟩)]) (h := h2)
    (fun i => decide (x ≤ at_ zs i)) (by omega) rfl (fun i h3 hi x3 => by
      refine succinct_Monotone_Next_c1_call ?_
      rw [succinct_Monotone_Next_c1_b0_eq]
      refine ⟨_, x3.cell c1, _, x3.cell c2, ?_⟩
      refine (at_ok (m2.ext x3) i hi).mono fun r h6 ⟨hr, x6⟩ => ?_
      exact ⟨_, hr, ⟨_, x6.cell (x3.cell c2), rfl⟩, rfl, x6⟩)
  refine hsearch.mono fun r h6 ⟨x6, i, hin, hr, hlo, hhi⟩ => ?_
  have m6 := m2.ext x6
  obtain ⟨p6, c6, h46, h56⟩ := m6.lows
  refine ⟨_, hr, _, x6.cell c1, ?_⟩
  refine ⟨_, _, _, h46, ?_⟩
  have first : FirstG zs x i := by
    refine ⟨hin, fun t ht => ?_, ?_⟩
    · rcases hlo with h0 | h0
      · omega
      · have h7 := of_decide_eq_false h0
        have h8 := m.ok.mono (i := t) (j := i - 1) (by omega) (by omega)
        omega
    · rcases hhi with h0 | h0
      · exact .inl h0
      · exact .inr (of_decide_eq_true h0)
  refine condP (fun hc => ⟨xx.trans x6, i, first, ?_⟩) (fun hc => ?_)
  · unfold nextV; rw [if_pos (by omega)]
  · refine ⟨_, x6.cell c1, ?_⟩
    refine (at_ok m6 i (by omega)).mono fun r7 h7 ⟨hr7, x7⟩ => ?_
    refine ⟨_, hr7, (xx.trans x6).trans x7, i, first, ?_⟩
    unfold nextV; rw [if_neg (by omega)]
end Go.Proofs.Ytmlfoefadmlhpaa
