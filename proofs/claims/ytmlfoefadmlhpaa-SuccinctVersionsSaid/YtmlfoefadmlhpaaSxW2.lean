/- Part W2 of the proof: contracts of functions of the program, and what follows from them. -/
import Derived.Test.YtmlfoefadmlhpaaSxW
set_option maxRecDepth 10000
namespace Go.Proofs.Ytmlfoefadmlhpaa
open Go Go.Sx

theorem cntB_both (l : List Bool) : ∀ k, k ≤ l.length → cntB l true k + cntB l false k = k
  | 0, _ => by simp [cntB]
  | k + 1, hk => by
    have ih := cntB_both l k (by omega)
    rw [cntB_succ l true k (by omega), cntB_succ l false k (by omega)]
    cases l.getD k false <;> simp <;> omega
theorem cntB_mono (l : List Bool) (b : Bool) {i j : Nat} (hij : i ≤ j) : cntB l b i ≤ cntB l b j := by
  unfold cntB
  have : l.take i = (l.take j).take i := by rw [List.take_take, Nat.min_eq_left hij]
  rw [this]
  exact (List.Sublist.filter _ (List.take_sublist _ _)).length_le

theorem rank_ok {h : Hp} {a : Addr} {bits : List Bool} (v : Vec h a bits) (b : Bool) (i : Nat) (hi : i ≤ bits.length) :
    HCalls Try.prog 80 #[.pointer (some a), .bool b, .int .i64 (i : Int)] h (fun r h' => r = .int .i64 (cntB bits b i : Nat) ∧ h' = h) := by
  obtain ⟨ws, v⟩ := v
  have hs := v.small
  have hb := cntB_both bits i hi
  refine rank_call ?_
  rw [rank_b0_eq]
  refine (ones_ok v i hi).mono fun r h' ⟨hr, hh⟩ => ?_
  subst hh
  refine ⟨_, hr, ?_⟩
  cases b with
  | true => exact ⟨rfl, rfl⟩
  | false =>
    refine ⟨⟨by omega, by omega⟩, ?_, rfl⟩
    congr 1; omega

theorem get_ok {h : Hp} {a : Addr} {bits : List Bool} (v : Vec h a bits) (i : Nat) (hi : i < bits.length) :
    HCalls Try.prog 75 #[.pointer (some a), .int .i64 (i : Int)] h (fun r h' => r = .bool (bits.getD i false) ∧ h' = h) := by
  obtain ⟨ws, v⟩ := v
  have hs := v.small
  have hwl := v.wlen
  obtain ⟨pw, cw, hw1, hw2⟩ := v.words
  refine get_call ?_
  rw [get_b0_eq]
  refine ⟨_, _, _, hw1, ?_⟩
  refine quo_intro (by omega) (by omega) (by omega) ?_
  have e1 : ((i : Int) / 64).toNat = i / 64 := by omega
  have hj : i / 64 < ws.length := by omega
  refine idx_int hw2 (by omega) (by omega) ?_
  rw [e1]
  have hwd : (List.map (fun w : Nat => (w : Int)) ws).getD (i / 64) 0 = (ws.getD (i / 64) 0 : Nat) := by simp [List.getD, hj]
  rw [hwd]
  have hwlt : ws.getD (i / 64) 0 < 18446744073709551616 := by
    have : ws.getD (i / 64) 0 = ws[i / 64] := by simp [List.getD, hj]
    rw [this]; exact v.wlt _ (List.getElem_mem hj)
  refine rem_intro (by omega) (by omega) ?_
  refine shr_intro (x := ws.getD (i / 64) 0) (s := i % 64) rfl (by omega) (by simp [IntKind.bits]; omega) ?_
  have hsl := shr_le (ws.getD (i / 64) 0) (i % 64)
  refine and_u64 (x := ws.getD (i / 64) 0 >>> (i % 64)) (y := 1) rfl rfl (by omega) (by decide) ?_
  refine ⟨?_, rfl⟩
  have hbit := v.wbit i (by omega)
  unfold wbit at hbit
  rw [← hbit, Nat.testBit, Nat.and_comm]
  congr 1
  have : (1 &&& ws.getD (i / 64) 0 >>> (i % 64)) = (ws.getD (i / 64) 0 >>> (i % 64)) % 2 := by rw [Nat.and_comm, Nat.and_one_is_mod]
  rw [this]
  rcases Nat.mod_two_eq_zero_or_one (ws.getD (i / 64) 0 >>> (i % 64)) with h0 | h1
  · rw [h0]; rfl
  · rw [h1]; rfl

theorem Len_ok {h : Hp} {a : Addr} {bits : List Bool} (v : Vec h a bits) : HCalls Try.prog 74 #[.pointer (some a)] h (fun r h' => r = .int .i64 (bits.length : Int) ∧ h' = h) := by
  obtain ⟨ws, v⟩ := v
  refine Len_call ?_
  rw [Len_b0_eq]
  exact ⟨_, v.n, rfl, rfl⟩
theorem Len_nil (h : Hp) : HCalls Try.prog 74 #[.pointer none] h (fun r h' => r = .int .i64 0 ∧ h' = h) := by
  refine Len_call ?_
  rw [Len_b0_eq]
  exact ⟨rfl, rfl⟩
/-- Get: the bit, or an error. -/
theorem Get_ok {h : Hp} {a : Addr} {bits : List Bool} (v : Vec h a bits) (i : Int) :
    HCalls Try.prog 64 #[.pointer (some a), .int .i64 i] h (fun r h' => r = (if 0 ≤ i ∧ i < bits.length then .tuple #[.bool (bits.getD i.toNat false), .int .i64 0] else .tuple #[.bool false, .int .i64 2]) ∧ h' = h) := by
  refine Get_call ?_
  rw [Get_b0_eq]
  refine condP (fun hi => ⟨?_, rfl⟩) (fun hi => ?_)
  · rw [if_neg (by omega)]
  have hn : cell h a = some (.int .i64 (bits.length : Int)) := by obtain ⟨ws, v⟩ := v; exact v.n
  refine ⟨_, hn, ?_⟩
  refine condP (fun hl => ⟨?_, rfl⟩) (fun hl => ?_)
  · rw [if_neg (by omega)]
  rw [Get_b1_eq]
  obtain ⟨k, rfl⟩ := Int.eq_ofNat_of_zero_le (show 0 ≤ i by omega)
  refine (get_ok v k (by omega)).mono fun r h' ⟨hr, hh⟩ => ?_
  subst hh
  refine ⟨_, hr, ?_, rfl⟩
  rw [if_pos (by omega)]
  rfl
theorem Get_nil (i : Int) (h : Hp) : HCalls Try.prog 64 #[.pointer none, .int .i64 i] h (fun r h' => r = .tuple #[.bool false, .int .i64 1] ∧ h' = h) := by
  refine Get_call ?_
  rw [Get_b0_eq]
  exact ⟨rfl, rfl⟩
theorem Rank_ok {h : Hp} {a : Addr} {bits : List Bool} (v : Vec h a bits) (b : Bool) (i : Int) :
    HCalls Try.prog 76 #[.pointer (some a), .bool b, .int .i64 i] h (fun r h' => r = (if 0 ≤ i ∧ i ≤ bits.length then .tuple #[.int .i64 (cntB bits b i.toNat : Nat), .int .i64 0] else .tuple #[.int .i64 0, .int .i64 2]) ∧ h' = h) := by
  refine Rank_call ?_
  rw [Rank_b0_eq]
  refine condP (fun hi => ⟨?_, rfl⟩) (fun hi => ?_)
  · rw [if_neg (by omega)]
  have hn : cell h a = some (.int .i64 (bits.length : Int)) := by obtain ⟨ws, v⟩ := v; exact v.n
  refine ⟨_, hn, ?_⟩
  refine condP (fun hl => ⟨?_, rfl⟩) (fun hl => ?_)
  · rw [if_neg (by omega)]
  rw [Rank_b1_eq]
  obtain ⟨k, rfl⟩ := Int.eq_ofNat_of_zero_le (show 0 ≤ i by omega)
  refine (rank_ok v b k (by omega)).mono fun r h' ⟨hr, hh⟩ => ?_
  subst hh
  refine ⟨_, hr, ?_, rfl⟩
  rw [if_pos (by omega)]
  rfl
theorem Rank_nil (b : Bool) (i : Int) (h : Hp) : HCalls Try.prog 76 #[.pointer none, .bool b, .int .i64 i] h (fun r h' => r = .tuple #[.int .i64 0, .int .i64 1] ∧ h' = h) := by
  refine Rank_call ?_
  rw [Rank_b0_eq]
  exact ⟨rfl, rfl⟩

/-! ### binary search -/
theorem Search_ok {n g : Nat} {first cap : Array Value} {h : Hp} (f : Nat → Bool) (hn : n < 4611686018427387904) (hg : F g = true)
    (hc : ∀ i, i < n → HCalls Try.prog g (first.toList ++ (([.int .i64 (i : Int)] : List Value) ++ cap.toList)).toArray h (fun v h' => v = .bool (f i) ∧ h' = h)) :
    HCalls Try.prog 50 #[.int .i64 (n : Int), .func (.func g) first cap] h (fun v h' => h' = h ∧ ∃ i : Nat, i ≤ n ∧ v = .int .i64 (i : Int) ∧ (i = 0 ∨ f (i - 1) = false) ∧ (i = n ∨ f i = true)) := by
  refine Search_call ?_
  rw [Search_b0_eq]
  refine ⟨fun s h' => h' = h ∧ ∃ i j : Nat, s.1 = i ∧ s.2.1 = j ∧ i ≤ j ∧ j ≤ n ∧ (i = 0 ∨ f (i - 1) = false) ∧ (j = n ∨ f j = true), fun s _ => (s.2.1 - s.1).toNat,
    ⟨rfl, 0, n, rfl, rfl, by omega, by omega, .inl rfl, .inl rfl⟩, ?_⟩
  rintro ⟨si, sj, _⟩ h' ⟨rfl, i, j, hi, hj, hij, hjn, hfi, hfj⟩
  simp only at hi hj
  subst hi hj
  dsimp only
  rw [Search_b1_eq]
  refine condP (fun hlt => ?_) (fun hge => ?_)
  · refine ⟨⟨by omega, by omega⟩, ?_⟩
    refine shr_intro (x := i + j) (s := 1) (by rw [wrap_u64_in _ (by omega) (by omega)]; omega) rfl (by decide) ?_
    have e : (i + j) >>> 1 = (i + j) / 2 := by rw [Nat.shiftRight_eq_div_pow]
    rw [e]
    refine ⟨⟨by omega, by omega⟩, ?_⟩
    show chk (F g) _
    rw [hg]
    refine (hc ((i + j) / 2) (by omega)).mono fun v h2 ⟨hv, hh⟩ => ?_
    subst hh
    refine ⟨_, hv, ?_⟩
    cases hf : f ((i + j) / 2) with
    | false =>
      refine ⟨⟨by omega, by omega⟩, ⟨rfl, (i + j) / 2 + 1, j, by simp only; omega, rfl, by omega, hjn, .inr ?_, hfj⟩, by simp only; omega⟩
      rw [Nat.add_sub_cancel]; exact hf
    | true => exact ⟨⟨rfl, i, (i + j) / 2, rfl, rfl, by omega, by omega, hfi, .inr hf⟩, by simp only; omega⟩
  · rw [Search_b2_eq]
    have : i = j := by omega
    subst this
    exact ⟨rfl, i, hjn, rfl, hfi, hfj⟩

/-- The index of the k-th b. -/
def IsSel (bits : List Bool) (b : Bool) (k i : Nat) : Prop := i < bits.length ∧ bits.getD i false = b ∧ cntB bits b i = k

theorem Select_ok {h : Hp} {a : Addr} {bits : List Bool} (v : Vec h a bits) (b : Bool) (k : Int) :
    HCalls Try.prog 71 #[.pointer (some a), .bool b, .int .i64 k] h (fun r h' => Ext h h' ∧
      ((k < 0 ∧ r = .tuple #[.int .i64 0, .int .i64 2]) ∨ (0 ≤ k ∧ (cntB bits b bits.length : Int) ≤ k ∧ r = .tuple #[.int .i64 0, .int .i64 12]) ∨
       (0 ≤ k ∧ ∃ i : Nat, IsSel bits b k.toNat i ∧ r = .tuple #[.int .i64 (i : Int), .int .i64 0]))) := by
  have hs : bits.length ≤ 65536 := by obtain ⟨ws, v⟩ := v; exact v.small
  refine Select_call ?_
  rw [Select_b0_eq]
  refine New_intro (cs := [.pointer (some a)]) fun b1 h1 hb1 x1 k1 z1 => ?_
  refine New_intro (cs := [.bool b]) fun b2 h2 hb2 x2 k2 z2 => ?_
  refine New_intro (cs := [.int .i64 k]) fun b3 h3 hb3 x3 k3 z3 => ?_
  have x : Ext h h3 := (x1.trans x2).trans x3
  have v3 := v.ext x
  have c1 : cell h3 ⟨b1, 0, none⟩ = some (.pointer (some a)) := ((k1.ext x2).ext x3).cell 0
  have c2 : cell h3 ⟨b2, 0, none⟩ = some (.bool b) := (k2.ext x3).cell 0
  have c3 : cell h3 ⟨b3, 0, none⟩ = some (.int .i64 k) := k3.cell 0
  have hn : cell h3 a = some (.int .i64 (bits.length : Int)) := by obtain ⟨ws, v⟩ := v3; exact v.n
  refine ⟨_, c1, ?_⟩
  refine condNo rfl ?_
  refine ⟨_, c3, ?_⟩
  refine condP (fun hk => ⟨x, .inl ⟨hk, rfl⟩⟩) (fun hk => ?_)
  refine ⟨_, c3, _, c1, _, c2, _, c1, _, hn, _, rank_ok v3 b bits.length (Nat.le_refl _), ?_⟩
  refine condP (fun hr => ⟨x, .inr (.inl ⟨by omega, hr, rfl⟩)⟩) (fun hr => ?_)
  rw [Select_b1_eq]
  refine ⟨_, c1, _, hn, ?_⟩
  obtain ⟨kn, rfl⟩ := Int.eq_ofNat_of_zero_le (show 0 ≤ k by omega)
  have hsearch := Search_ok (n := bits.length) (g := 81) (first := #[]) (cap := #[.pointer (some ⟨b1, 0, none⟩), .pointer (some ⟨b2, 0, none⟩), .pointer (some ⟨b3, 0, none⟩)]) (h := h3)
    (fun i => decide (kn < cntB bits b (i + 1))) (by omega) rfl (fun i hi => by
      refine Sel1_call ?_
      rw [Sel1_b0_eq]
      refine ⟨_, c1, _, c2, ⟨by omega, by omega⟩, ?_⟩
      refine ⟨_, rank_ok v3 b (i + 1) (by omega), _, c3, ?_, rfl⟩
      congr 1
      simp)
  refine hsearch.mono fun r h5 ⟨hh, i, hin, hr5, h0, h1'⟩ => ?_
  subst hh
  refine ⟨_, hr5, x, .inr (.inr ⟨by omega, i, ?_, rfl⟩)⟩
  have hlt : kn < cntB bits b bits.length := by omega
  have hi : i < bits.length := by
    rcases Nat.lt_or_ge i bits.length with h | h
    · exact h
    · have : i = bits.length := by omega
      subst this
      rcases h0 with h0 | h0
      · rw [h0] at hlt; simp [cntB] at hlt
      · have := of_decide_eq_false h0
        rcases Nat.eq_zero_or_pos bits.length with hz | hz
        · rw [hz] at hlt; simp [cntB] at hlt
        · rw [Nat.sub_add_cancel hz] at this; omega
  have hgt : kn < cntB bits b (i + 1) := by
    rcases h1' with h | h
    · omega
    · exact of_decide_eq_true h
  have hle : cntB bits b i ≤ kn := by
    rcases h0 with h | h
    · rw [h]; simp [cntB]
    · have := of_decide_eq_false h
      rcases Nat.eq_zero_or_pos i with hz | hz
      · rw [hz]; simp [cntB]
      · rw [Nat.sub_add_cancel hz] at this; omega
  have hsu := cntB_succ bits b i hi
  show IsSel bits b (kn : Int).toNat i
  rw [show (kn : Int).toNat = kn by simp]
  refine ⟨hi, ?_, ?_⟩
  · by_cases hb : bits.getD i false = b
    · exact hb
    · rw [if_neg hb] at hsu; omega
  · split at hsu <;> omega
theorem Select_nil (b : Bool) (k : Int) (h : Hp) : HCalls Try.prog 71 #[.pointer none, .bool b, .int .i64 k] h (fun r h' => r = .tuple #[.int .i64 0, .int .i64 1] ∧ Ext h h') := by
  refine Select_call ?_
  rw [Select_b0_eq]
  refine New_intro (cs := [.pointer none]) fun b1 h1 hb1 x1 k1 z1 => ?_
  refine New_intro (cs := [.bool b]) fun b2 h2 hb2 x2 k2 z2 => ?_
  refine New_intro (cs := [.int .i64 k]) fun b3 h3 hb3 x3 k3 z3 => ?_
  have c1 : cell h3 ⟨b1, 0, none⟩ = some (.pointer none) := ((k1.ext x2).ext x3).cell 0
  refine ⟨_, c1, ?_⟩
  exact condYes rfl ⟨rfl, (x1.trans x2).trans x3⟩
end Go.Proofs.Ytmlfoefadmlhpaa
