/- Part S3 of the proof: contracts of functions of the program, and what follows from them. -/
import Derived.Test.YtmlfoefadmlhpaaSxS2
set_option maxRecDepth 10000
namespace Go.Proofs.Ytmlfoefadmlhpaa
open Go Go.Sx

/-! ### ones at ascending places -/
theorem sel_of_pos {bits : List Bool} {n : Nat} {pos : Nat → Nat} (hb : ∀ t, t < bits.length → (bits.getD t false = true ↔ ∃ i, i < n ∧ pos i = t)) (hp : ∀ i, i + 1 < n → pos i < pos (i + 1)) (hl : ∀ i, i < n → pos i < bits.length) :
    ∀ i, i < n → IsSel bits true i (pos i) := by
  have mono : ∀ i j, i < j → j < n → pos i < pos j := by
    intro i j
    induction j with
    | zero => intro h; omega
    | succ j ih =>
      intro h hj
      have := hp j hj
      rcases Nat.lt_or_ge i j with h1 | h1
      · have := ih h1 (by omega); omega
      · have : i = j := by omega
        subst this; omega
  have key : ∀ t, t ≤ bits.length → ∃ k, k ≤ n ∧ cntB bits true t = k ∧ (∀ i, i < k → pos i < t) ∧ (∀ i, k ≤ i → i < n → t ≤ pos i) := by
    intro t
    induction t with
    | zero => intro _; exact ⟨0, by omega, by simp [cntB], by omega, by omega⟩
    | succ t ih =>
      intro ht
      obtain ⟨k, hk, hc, h1, h2⟩ := ih (by omega)
      have hs := cntB_succ bits true t (by omega)
      by_cases hbt : bits.getD t false = true
      · obtain ⟨i, hi, hpi⟩ := (hb t (by omega)).1 hbt
        have hki : k ≤ i := by
          rcases Nat.lt_or_ge i k with h | h
          · have := h1 i h; omega
          · exact h
        have hik : i = k := by
          rcases Nat.lt_or_ge k i with h | h
          · have := mono k i h hi; have := h2 k (Nat.le_refl _) (by omega); omega
          · omega
        subst hik
        rw [if_pos hbt] at hs
        refine ⟨i + 1, by omega, by omega, fun j hj => ?_, fun j hj hjn => ?_⟩
        · rcases Nat.lt_or_ge j i with h | h
          · have := h1 j h; omega
          · have : j = i := by omega
            subst this; omega
        · have := mono i j (by omega) hjn; omega
      · rw [if_neg hbt] at hs
        refine ⟨k, hk, by omega, fun j hj => by have := h1 j hj; omega, fun j hj hjn => ?_⟩
        have := h2 j hj hjn
        have hne : pos j ≠ t := fun e => hbt ((hb t (by omega)).2 ⟨j, hjn, e⟩)
        omega
  intro i hi
  have hlt := hl i hi
  refine ⟨hlt, (hb _ hlt).2 ⟨i, hi, rfl⟩, ?_⟩
  obtain ⟨k, hk, hc, h1, h2⟩ := key (pos i) (by omega)
  rcases Nat.lt_trichotomy i k with h | h | h
  · have := h1 i h; omega
  · omega
  · have := h2 k (Nat.le_refl _) (by omega); have := mono k i h hi; omega

/-- A monotone list in the heap. -/
def posOf (zs : List Int) (i : Nat) : Nat := i + (at_ zs i).toNat / 2 ^ shiftOf zs
def lowsOf (zs : List Int) : List Int := zs.map fun z => ((z.toNat % 2 ^ shiftOf zs : Nat) : Int)
structure Mono (h : Hp) (a : Addr) (zs : List Int) : Prop where
  ok : okL zs
  small : zs.length ≤ 1000
  vec : ∃ v bits, cell h a = some (.pointer (some v)) ∧ Vec h v bits ∧ ∀ i, i < zs.length → IsSel bits true i (posOf zs i)
  lows : ∃ p c, cell h (a.add 1) = some (.slice p zs.length c) ∧ Rd h p zs.length (ints (lowsOf zs))
  shift : cell h (a.add 2) = some (.int .i64 (shiftOf zs : Nat))
  space : cell h (a.add 3) = some (.int .i64 (spaceOf zs : Nat))
theorem Mono.ext {h h' : Hp} {a : Addr} {zs : List Int} (m : Mono h a zs) (x : Ext h h') : Mono h' a zs := by
  obtain ⟨v, bits, h1, h2, h3⟩ := m.vec
  obtain ⟨p, c, h4, h5⟩ := m.lows
  exact ⟨m.ok, m.small, ⟨v, bits, x.cell h1, h2.ext x, h3⟩, ⟨p, c, x.cell h4, h5.ext x⟩, x.cell m.shift, x.cell m.space⟩

theorem pos_lt {zs : List Int} (ok : okL zs) {i : Nat} (hi : i + 1 < zs.length) : posOf zs i < posOf zs (i + 1) := by
  have h1 := ok.mono (i := i) (j := i + 1) (by omega) hi
  have h2 := ok.le (i := i) (by omega)
  unfold posOf
  have := Nat.div_le_div_right (c := 2 ^ shiftOf zs) (show (at_ zs i).toNat ≤ (at_ zs (i + 1)).toNat by omega)
  omega
theorem pos_le {zs : List Int} (ok : okL zs) {i : Nat} (hi : i < zs.length) : posOf zs i ≤ zs.length - 1 + (at_ zs (zs.length - 1)).toNat / 2 ^ shiftOf zs := by
  have h1 := ok.mono (i := i) (j := zs.length - 1) (by omega) (by omega)
  unfold posOf
  have := Nat.div_le_div_right (c := 2 ^ shiftOf zs) (show (at_ zs i).toNat ≤ (at_ zs (zs.length - 1)).toNat by omega)
  omega

theorem MakeMono_b8 {K : Value → Hp → Prop} {h0 h : Hp} {b1 : Nat} {zs : List Int} {q : Option Addr} {m d : Nat} {bits : List Bool} {lp : Option Addr} {lc : Nat} (ok : okL zs) (hn : zs.length ≤ 1000)
    (x : Ext h0 h) (hb1 : h0.size ≤ b1) (hm : Blk h b1 [.pointer none, .slice lp zs.length lc, .int .i64 (shiftOf zs : Nat), .int .i64 (spaceOf zs : Nat)] 68)
    (rb : Rd h q m (bits.map Value.bool)) (hbl : bits.length ≤ 65536) (hsel : ∀ i, i < zs.length → IsSel bits true i (posOf zs i)) (ol : Own h (b1 + 1) 3 lp zs.length lc (ints (lowsOf zs)))
    (hK : ∀ v h', Ext h0 h' → (∃ a, v = .tuple #[.pointer (some a), .int .i64 0] ∧ LocH h0.size h' (fun g => Mono g a zs)) → K v h') :
    succinct_MakeMonotone_b8 (some ⟨b1, 0, none⟩) q m d h K := by
  have hml : bits.length = m := by have := rb.len; simpa using this
  rw [succinct_MakeMonotone_b8_eq]
  refine (Make_loc rb (by omega)).mono fun v h2 ⟨x2, a, hv, va⟩ => ?_
  refine ⟨_, _, hv, condN (fun hne => absurd rfl hne) fun _ => ?_⟩
  have hm2 := hm.ext x2
  have hlt := hm.lt
  refine Wr_intro rfl hm2 (by simp) fun h3 hz3 hs3 hm3 => ?_
  have hx := x.size
  have hx2 := x2.size
  refine hK _ _ ⟨by omega, fun k hk => ?_⟩ ⟨_, rfl, ?_⟩
  · rw [hs3 k (by omega), x2.same k (by omega)]; exact x.same k hk
  · have v3 : LocH h0.size h3 (fun g => Vec g a bits) := (va.step (by omega) fun k hk _ => hs3 k (by omega)).base (by omega)
    have m3 : LocH h0.size h3 (fun g => Blk g b1 _ _) := LocH.blk hm3 hb1
    have o3 := (ol.ext x2).same (h' := h3) fun a ha => hs3 _ (by have := (ol.lt a ha).1; omega)
    have l3 : LocH h0.size h3 _ := LocH.own o3 (by omega)
    refine ((v3.and m3).and l3).mono fun g ⟨⟨g1, g2⟩, g3⟩ => ?_
    refine ⟨ok, hn, ⟨a, bits, g2.cell 0, g1, hsel⟩, ⟨lp, lc, ?_, g3.rd⟩, ?_, ?_⟩
    · rw [add_mk]; exact g2.cell 1
    · rw [add_mk]; exact g2.cell 2
    · rw [add_mk]; exact g2.cell 3

theorem MakeMono_b5 {K : Value → Hp → Prop} {h0 h : Hp} {b1 n c : Nat} {p : Option Addr} {zs : List Int} (r : Rd h0 p n (ints zs)) (ok : okL zs) (hn : n ≤ 1000) (x : Ext h0 h) (hb1 : h0.size ≤ b1)
    {q : Option Addr} {m d : Nat} (hq : (n = 0 ∧ m = 0) ∨ ∃ b2, b1 < b2 ∧ q = some ⟨b2, 0, none⟩ ∧ m = n + 1 + (at_ zs (n - 1)).toNat / 2 ^ shiftOf zs ∧ Blk h b2 ((List.replicate m false).map Value.bool) 4)
    (hm : Blk h b1 [.pointer none, .slice none 0 0, .int .i64 (shiftOf zs : Nat), .int .i64 (spaceOf zs : Nat)] 68)
    (hK : ∀ v h', Ext h0 h' → (∃ a, v = .tuple #[.pointer (some a), .int .i64 0] ∧ LocH h0.size h' (fun g => Mono g a zs)) → K v h') :
    succinct_MakeMonotone_b5 p n c (some ⟨b1, 0, none⟩) q m d h K := by
  have hzl : zs.length = n := by have := r.len; simpa using this
  have hs40 := shift_le ok
  rw [succinct_MakeMonotone_b5_eq]
  have hxs := x.size
  have hb1l := hm.lt
  refine ⟨fun s h' => ∃ j : Nat, s.1 = j ∧ j ≤ n ∧ Ext h0 h' ∧ h.size ≤ h'.size ∧ ∃ (lp : Option Addr) (lc : Nat) (bs : List Bool), Blk h' b1 [.pointer none, .slice lp j lc, .int .i64 (shiftOf zs : Nat), .int .i64 (spaceOf zs : Nat)] 68 ∧
      Own h' h.size 3 lp j lc (ints ((lowsOf zs).take j)) ∧ bs.length = m ∧ (∀ t, t < m → (bs.getD t false = true ↔ ∃ i, i < j ∧ posOf zs i = t)) ∧
      ((n = 0 ∧ m = 0) ∨ ∃ b2, b1 < b2 ∧ b2 < h.size ∧ q = some ⟨b2, 0, none⟩ ∧ m = n + 1 + (at_ zs (n - 1)).toNat / 2 ^ shiftOf zs ∧ Blk h' b2 (bs.map Value.bool) 4),
    fun s _ => (n - s.1).toNat, ⟨0, rfl, by omega, x, Nat.le_refl _, none, 0, List.replicate m false, hm, .inl ⟨rfl, rfl, rfl, rfl⟩, by simp, fun t ht => ?_, ?_⟩, ?_⟩
  · simp [List.getD, ht]
  · rcases hq with h0' | ⟨b2, h1, h2, h3, h4⟩
    · exact .inl h0'
    · exact .inr ⟨b2, h1, h4.lt, h2, h3, h4⟩
  rintro ⟨sj, _⟩ h1 ⟨j, hj, hjn, x1, hsz, lp, lc, bs, hblk, hown, hbl, hbits, hq1⟩
  simp only at hj
  subst hj
  dsimp only
  rw [succinct_MakeMonotone_b6_eq]
  have e : ((j : Nat) : Int).toNat = j := by simp
  refine condP (fun hlt => ?_) (fun hge => ?_)
  · have hjl : j < zs.length := by omega
    have hz := ok.le hjl
    rcases hq1 with ⟨h0', _⟩ | ⟨b2, hb12, hb2l, hqe, hmn, hb2⟩
    · omega
    subst hqe
    have hpos := pos_le ok hjl
    rw [hzl] at hpos
    refine idx_int (r.ext x1) (by omega) (by omega) ?_
    rw [e]
    obtain ⟨z, hze⟩ := Int.eq_ofNat_of_zero_le hz.1
    have hzg : zs.getD j 0 = (z : Int) := hze
    rw [hzg]
    have hposj : posOf zs j = j + z / 2 ^ shiftOf zs := by unfold posOf; rw [hze]; simp
    refine ⟨_, (by rw [add_mk]; exact hblk.cell 2), ?_⟩
    refine shr_intro (x := z) (s := shiftOf zs) rfl rfl (by simp [IntKind.bits]; omega) ?_
    rw [Nat.shiftRight_eq_div_pow]
    have hzd : z / 2 ^ shiftOf zs ≤ z := Nat.div_le_self _ _
    have hq1 : ((j : Int) + ((z / 2 ^ shiftOf zs : Nat) : Int)) = ((posOf zs j : Nat) : Int) := by rw [hposj]; simp
    rw [hq1]
    have hpm : posOf zs j < m := by omega
    refine ⟨⟨by omega, by omega⟩, ⟨by omega, by omega⟩, ?_⟩
    show Wr _ _ _ _
    refine Wr_intro (o := posOf zs j) (by rw [add_mk]; simp) hb2 (by simp; omega) fun h2 hz2 hs2 hb2' => ?_
    have hblk2 := hblk.same (hs2 b1 (by omega))
    have hown2 := hown.same (h' := h2) fun a ha => hs2 _ (by have := (hown.lt a ha).1; omega)
    refine ⟨_, _, _, (by rw [add_mk]; exact hblk2.cell 1), ?_⟩
    refine ⟨_, (by rw [add_mk]; exact hblk2.cell 2), ?_⟩
    have hp40 : 2 ^ shiftOf zs ≤ 2 ^ 40 := Nat.pow_le_pow_right (by decide) hs40
    have hp0 : 0 < 2 ^ shiftOf zs := Nat.two_pow_pos _
    refine shl_intro (x := 1) (s := shiftOf zs) rfl rfl (by simp [IntKind.bits]; omega) (by rw [Nat.one_mul, wrap_i64_in]; exact ⟨by omega, by omega⟩) ?_
    rw [Nat.one_mul]
    refine ⟨⟨by omega, by omega⟩, ?_⟩
    refine and_i64 (x := z) (y := 2 ^ shiftOf zs - 1) rfl (by omega) (by omega) (by omega) ?_
    rw [Nat.and_two_pow_sub_one_eq_mod]
    refine push_own2 el_int hown2 (by omega) rfl (by omega) (fun h3 x3 => ?_) fun p' c' h4 hown4 hg4 => ?_
    · exact ⟨_, _, _, x3.cell (by rw [add_mk]; exact hblk2.cell 1), rfl⟩
    have hblk4 := hblk2.same (hg4.same b1 hblk2.lt fun a ha => by have := (hown2.lt a ha).1; omega)
    refine Wr_intro (add_mk _ _ _) hblk4 (by simp) fun h5 hz5 hs5 hblk5 => ?_
    rw [succinct_MakeMonotone_b7_eq]
    have hg4s := hg4.size
    refine ⟨⟨by omega, by omega⟩, ⟨j + 1, by simp only; omega, by omega, ?_, by omega, p', c', bs.set (posOf zs j) true, hblk5, ?_, by simpa using hbl, ?_, .inr ⟨b2, hb12, hb2l, rfl, hmn, ?_⟩⟩, by simp only; omega⟩
    · have := x1.size
      refine ⟨by omega, fun k hk => ?_⟩
      rw [hs5 k (by omega), hg4.same k (by omega) fun a ha => by have := (hown2.lt a ha).1; omega, hs2 k (by omega)]
      exact x1.same k hk
    · have el : ints ((lowsOf zs).take (j + 1)) = ints ((lowsOf zs).take j) ++ [.int .i64 ((z % 2 ^ shiftOf zs : Nat) : Int)] := by
        have hll : j < (lowsOf zs).length := by simpa [lowsOf] using hjl
        have hzj : zs[j] = (z : Int) := by simpa [List.getD, hjl] using hzg
        rw [List.take_succ_eq_append_getElem hll]
        simp [ints, lowsOf, hzj]
      rw [el]
      exact hown4.same fun a ha => hs5 _ (by have := (hown4.lt a ha).1; omega)
    · intro t ht
      by_cases htp : t = posOf zs j
      · subst htp
        simp only [List.getD, List.getElem?_set_self (show posOf zs j < bs.length by omega), Option.getD_some, true_iff]
        exact ⟨j, by omega, rfl⟩
      · have : (bs.set (posOf zs j) true).getD t false = bs.getD t false := by simp [List.getD, List.getElem?_set_ne (Ne.symm htp)]
        rw [this, hbits t ht]
        constructor
        · rintro ⟨i, hi, hp⟩; exact ⟨i, by omega, hp⟩
        · rintro ⟨i, hi, hp⟩
          refine ⟨i, ?_, hp⟩
          rcases Nat.lt_or_ge i j with h6 | h6
          · exact h6
          · have : i = j := by omega
            subst this; exact absurd hp.symm htp
    · have hb4 := hb2'.same (hg4.same b2 (by omega) fun a ha => by have := (hown2.lt a ha).1; omega)
      have hb5 := hb4.same (hs5 b2 (by omega))
      have es : (bs.set (posOf zs j) true).map Value.bool = (bs.map Value.bool).set (posOf zs j) (.bool true) := by rw [List.map_set]
      rw [es]; exact hb5
  · have hjn' : j = n := by omega
    subst hjn'
    have htk : (lowsOf zs).take j = lowsOf zs := List.take_of_length_le (by simp [lowsOf]; omega)
    rw [htk] at hown
    rw [← hzl] at hblk hown
    have hown' : Own h1 (b1 + 1) 3 lp zs.length lc (ints (lowsOf zs)) := by
      rcases hown with h5 | ⟨b, rest, h5, h6⟩
      · exact .inl h5
      · exact .inr ⟨b, rest, by omega, h6⟩
    have hml : m ≤ 65536 := by
      rcases hq1 with ⟨_, h5⟩ | ⟨_, _, _, _, h5, _⟩
      · omega
      · rcases Nat.eq_zero_or_pos zs.length with h6 | h6
        · rw [h5]
          have : at_ zs (j - 1) = 0 := by simp [at_, List.getD, List.getElem?_eq_none (show zs.length ≤ j - 1 by omega)]
          rw [this]; simp; omega
        · have := high_le h6
          rw [hzl] at this; omega
    refine MakeMono_b8 ok (by omega) x1 hb1 hblk (bits := bs) ?_ (by omega) ?_ hown' hK
    · rcases hq1 with ⟨_, h5⟩ | ⟨b2, _, _, hqe, _, hb2⟩
      · subst h5
        have : bs = [] := List.eq_nil_of_length_eq_zero hbl
        subst this
        exact Rd.nil _ _
      · subst hqe
        have := Rd.of_blk hb2 (n := m) (by simp; omega)
        rwa [List.take_of_length_le (by simp; omega)] at this
    · intro i hi
      refine sel_of_pos (n := zs.length) (pos := posOf zs) (fun t ht => ?_) (fun i hi => pos_lt ok hi) (fun i hi => ?_) i hi
      · rw [hbits t (by omega), hzl]
      · have := pos_le ok hi
        rw [hzl] at this
        rcases hq1 with ⟨h5, _⟩ | ⟨_, _, _, _, h5, _⟩ <;> omega
end Go.Proofs.Ytmlfoefadmlhpaa
