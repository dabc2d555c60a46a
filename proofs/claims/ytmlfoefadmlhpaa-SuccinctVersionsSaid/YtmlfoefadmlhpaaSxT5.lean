/- Part T5 of the proof: contracts of functions of the program, and what follows from them. -/
import Derived.Test.YtmlfoefadmlhpaaSxT4
import Derived.Test.YtmlfoefadmlhpaaSxS4
set_option maxRecDepth 10000
namespace Go.Proofs.Ytmlfoefadmlhpaa
open Go Go.Sx

theorem el_u8 : ElemOk Try.prog 76 5 := elemB_spec (by kernel_rfl)

theorem Text_ok {h : Hp} {a : Addr} {b : List Bool} (t : TreeH h a b) : HCalls Try.prog 22 #[.pointer (some a)] h (fun r h' => r = .string (parS b) ∧ Ext h h') := by
  obtain ⟨v, h1, h2⟩ := t.vec
  have hs : b.length ≤ 65536 := by obtain ⟨ws, v⟩ := h2; exact v.small
  refine succinct_Tree_Text_call ?_
  rw [succinct_Tree_Text_b0_eq]
  refine condNo rfl ⟨_, h1, ?_⟩
  refine (Bits_ok h2).mono fun r h3 ⟨x3, p, c, hr, rb⟩ => ?_
  refine ⟨_, _, _, hr, ?_⟩
  refine ⟨fun s h' => ∃ i : Nat, s.2.1 = i ∧ i ≤ b.length ∧ Ext h h' ∧ Ext h3 h' ∧ Own h' h3.size 5 s.1.1 s.1.2.1 s.1.2.2 ((parB (b.take i)).map byteV), fun s _ => (b.length - s.2.1).toNat,
    ⟨0, rfl, by omega, x3, Ext.refl _, .inl ⟨rfl, rfl, rfl, rfl⟩⟩, ?_⟩
  rintro ⟨⟨sp, sn, sc⟩, si, _⟩ h4 ⟨i, hi, hin, x4, x34, o⟩
  simp only at hi o
  subst hi
  dsimp only
  rw [succinct_Tree_Text_b1_eq]
  have e : ((i : Nat) : Int).toNat = i := by simp
  have hol : (parB (b.take i)).length = sn := by have := o.len; simpa using this
  have hol2 : sn = i := by rw [← hol]; simp [parB]; omega
  refine condP (fun hlt => ?_) (fun hge => ?_)
  · refine idx_bool (rb.ext x34) (by omega) (by omega) ?_
    rw [e]
    have hil : i < b.length := by omega
    have hg : b.getD i false = b[i] := by simp [List.getD, hil]
    have next : ∀ (x : UInt8), (if b[i] then (40 : UInt8) else 41) = x → ∀ p' c' h', Own h' h3.size 5 p' (sn + 1) c' ((parB (b.take i)).map byteV ++ [byteV x]) → Grow h4 h' sp →
        succinct_Tree_Text_b2 p' (sn + 1) c' p b.length c (b.length : Int) (i : Int) h' (fun s' h'' => (∃ i : Nat, s'.2.1 = i ∧ i ≤ b.length ∧ Ext h h'' ∧ Ext h3 h'' ∧ Own h'' h3.size 5 s'.1.1 s'.1.2.1 s'.1.2.2 ((parB (b.take i)).map byteV)) ∧ (b.length - s'.2.1).toNat < (b.length - (i : Int)).toNat)
          (fun r h' => r = .string (parS b) ∧ Ext h h') := by
      intro x hx p' c' h' o' g
      have x3' := ext_grow x34 o g
      rw [succinct_Tree_Text_b2_eq]
      refine ⟨⟨by omega, by omega⟩, ⟨i + 1, by simp only; omega, by omega, x3.trans x3', x3', ?_⟩, by simp only; omega⟩
      have : (parB (b.take (i + 1))).map byteV = (parB (b.take i)).map byteV ++ [byteV x] := by
        rw [List.take_succ_eq_append_getElem hil]
        unfold parB
        rw [List.map_append, List.map_append, ← hx]
        rfl
      rw [this]; exact o'
    refine cond_intro (fun hb => ?_) (fun hb => ?_)
    · rw [hg] at hb
      exact push_own el_u8 o x34.size rfl (by omega) (next 40 (by rw [hb]; rfl))
    · rw [hg] at hb
      exact push_own el_u8 o x34.size rfl (by omega) (next 41 (by rw [hb]; rfl))
  · rw [succinct_Tree_Text_b3_eq]
    have : i = b.length := by omega
    subst this
    rw [List.take_of_length_le (Nat.le_refl _)] at o
    exact hw_bytes_string (e := 5) (by kernel_rfl) (by kernel_rfl) (by kernel_rfl) o.rd ⟨rfl, x4⟩
theorem Text_nil (h : Hp) : HCalls Try.prog 22 #[.pointer none] h (fun r h' => r = .string (parS []) ∧ h' = h) := by
  refine succinct_Tree_Text_call ?_
  rw [succinct_Tree_Text_b0_eq]
  exact condYes rfl ⟨rfl, rfl⟩
theorem TLen_ok {h : Hp} {a : Addr} {b : List Bool} (t : TreeH h a b) : HCalls Try.prog 23 #[.pointer (some a)] h (fun r h' => r = .int .i64 ((b.length / 2 : Nat) : Int) ∧ h' = h) := by
  refine succinct_Tree_Len_call ?_
  rw [succinct_Tree_Len_b0_eq]
  exact condNo rfl ⟨_, t.n, rfl, rfl⟩
theorem TLen_nil (h : Hp) : HCalls Try.prog 23 #[.pointer none] h (fun r h' => r = .int .i64 0 ∧ h' = h) := by
  refine succinct_Tree_Len_call ?_
  rw [succinct_Tree_Len_b0_eq]
  exact condYes rfl ⟨rfl, rfl⟩
theorem TSpace_ok {h : Hp} {a : Addr} {b : List Bool} (t : TreeH h a b) : HCalls Try.prog 24 #[.pointer (some a)] h (fun r h' => r = .int .i64 (2 * ((b.length / 2 : Nat) : Int)) ∧ h' = h) := by
  have hs : b.length ≤ 65536 := by obtain ⟨v, _, h2⟩ := t.vec; obtain ⟨ws, v⟩ := h2; exact v.small
  refine succinct_Tree_Space_call ?_
  rw [succinct_Tree_Space_b0_eq]
  refine (TLen_ok t).mono fun r h1 ⟨hr, hh⟩ => ?_
  subst hh
  exact ⟨_, hr, ⟨by omega, by omega⟩, rfl, rfl⟩
theorem TSpace_nil (h : Hp) : HCalls Try.prog 24 #[.pointer none] h (fun r h' => r = .int .i64 0 ∧ h' = h) := by
  refine succinct_Tree_Space_call ?_
  rw [succinct_Tree_Space_b0_eq]
  refine (TLen_nil h).mono fun r h1 ⟨hr, hh⟩ => ?_
  subst hh
  exact ⟨_, hr, ⟨by omega, by omega⟩, rfl, rfl⟩

/-! ### the excess of parentheses -/
def Ex (b : List Bool) (t : Nat) : Int := 2 * (cntB b true t : Nat) - t
theorem Ex_succ (b : List Bool) {t : Nat} (ht : t < b.length) : Ex b (t + 1) = Ex b t + if b.getD t false then 1 else -1 := by
  unfold Ex
  have := cntB_succ b true t ht
  cases hb : b.getD t false
  · rw [if_neg (by rw [hb]; simp)] at this
    simp only [Bool.false_eq_true, if_false]; omega
  · rw [if_pos hb] at this
    simp only [if_true]; omega
/-- The parenthesis at j closes what is opened at i. -/
def IsClose (b : List Bool) (i j : Nat) : Prop := i < j ∧ j < b.length ∧ b.getD i false = true ∧ Ex b (j + 1) = Ex b i ∧ ∀ t, i < t → t ≤ j → Ex b i < Ex b t
theorem IsClose.unique {b : List Bool} {i j k : Nat} (h : IsClose b i j) (g : IsClose b i k) : j = k := by
  rcases Nat.lt_trichotomy j k with hl | hl | hl
  · have := g.2.2.2.2 (j + 1) (by have := h.1; omega) (by omega); have := h.2.2.2.1; omega
  · exact hl
  · have := h.2.2.2.2 (k + 1) (by have := g.1; omega) (by omega); have := g.2.2.2.1; omega
theorem Ex_le (b : List Bool) (t : Nat) : Ex b t ≤ t := by
  unfold Ex
  have : cntB b true t ≤ t := by unfold cntB; exact Nat.le_trans (List.length_filter_le _ _) (by simp; omega)
  omega
theorem closed_ok {h : Hp} {a : Addr} {b : List Bool} (t : TreeH h a b) {i j : Nat} (hc : IsClose b i j) : HCalls Try.prog 65 #[.pointer (some a), .int .i64 (i : Int)] h (fun r h' => r = .int .i64 (j : Int) ∧ h' = h) := by
  obtain ⟨v, h1, h2⟩ := t.vec
  have hs : b.length ≤ 65536 := by obtain ⟨ws, v⟩ := h2; exact v.small
  obtain ⟨hij, hjb, hbi, hE, hin⟩ := hc
  refine succinct_Tree_closed_call ?_
  rw [succinct_Tree_closed_b0_eq]
  refine ⟨fun s h' => h' = h ∧ ∃ k : Nat, s.1 = k ∧ i ≤ k ∧ k ≤ j ∧ s.2.1 = Ex b k - Ex b i, fun s _ => (b.length - s.1).toNat, ⟨rfl, i, rfl, Nat.le_refl _, by omega, by simp only; omega⟩, ?_⟩
  rintro ⟨si, sd, _⟩ h' ⟨rfl, k, hk, hik, hkj, hd⟩
  simp only at hk hd
  subst hk hd
  dsimp only
  rw [succinct_Tree_closed_b1_eq]
  refine ⟨_, h1, ?_⟩
  refine (Get_ok h2 (k : Int)).mono fun r h3 ⟨hr, hh⟩ => ?_
  subst hh
  rw [if_pos (by omega), show ((k : Nat) : Int).toNat = k by simp] at hr
  refine ⟨_, _, hr, ?_⟩
  have hes := Ex_succ b (t := k) (by omega)
  have hu := Ex_le b k
  have hl : 0 ≤ Ex b k - Ex b i := by
    rcases Nat.lt_or_ge i k with h4 | h4
    · have := hin k h4 hkj; omega
    · have : k = i := by omega
      subst this; omega
  have hei : -65536 ≤ Ex b i := by unfold Ex; omega
  refine cond_intro (fun hb => ?_) (fun hb => ?_)
  · rw [hb] at hes
    simp only [if_true] at hes
    refine ⟨⟨by omega, by omega⟩, ?_⟩
    rw [succinct_Tree_closed_b2_eq]
    have hne : k ≠ j := by intro e; subst e; omega
    exact ⟨⟨by omega, by omega⟩, ⟨rfl, k + 1, by simp only; omega, by omega, by omega, by simp only; omega⟩, by simp only; omega⟩
  · rw [hb] at hes
    simp only [Bool.false_eq_true, if_false] at hes
    refine ⟨⟨by omega, by omega⟩, ?_⟩
    refine condP (fun h0 => ?_) (fun h0 => ?_)
    · refine ⟨?_, rfl⟩
      have : k = j := by
        rcases Nat.lt_or_ge k j with h4 | h4
        · have := hin (k + 1) (by omega) (by omega); omega
        · omega
      rw [this]
    · rw [succinct_Tree_closed_b2_eq]
      have hne : k ≠ j := by intro e; subst e; omega
      exact ⟨⟨by omega, by omega⟩, ⟨rfl, k + 1, by simp only; omega, by omega, by omega, by simp only; omega⟩, by simp only; omega⟩
theorem Close_at {h : Hp} {a : Addr} {b : List Bool} (t : TreeH h a b) {i j : Nat} (hc : IsClose b i j) : HCalls Try.prog 37 #[.pointer (some a), .int .i64 (i : Int)] h (fun r h' => r = .tuple #[.int .i64 (j : Int), .int .i64 0] ∧ h' = h) := by
  obtain ⟨v, h1, h2⟩ := t.vec
  have hc' := hc
  obtain ⟨hij, hjb, hbi, hE, hin⟩ := hc'
  refine succinct_Tree_Close_call ?_
  rw [succinct_Tree_Close_b0_eq]
  refine condNo rfl ⟨_, h1, ?_⟩
  refine (Get_ok h2 (i : Int)).mono fun r h3 ⟨hr, hh⟩ => ?_
  subst hh
  rw [if_pos (by omega), show ((i : Nat) : Int).toNat = i by simp] at hr
  refine ⟨_, _, hr, condN (fun hne => absurd rfl hne) fun _ => ?_⟩
  refine condNo (by rw [hbi]; rfl) ?_
  rw [succinct_Tree_Close_b1_eq]
  refine (closed_ok t hc).mono fun r h4 ⟨hr4, hh⟩ => ?_
  subst hh
  exact ⟨_, hr4, rfl, rfl⟩

/-! ### the example -/
def exP : List Int := [-1, 0, 1, 0]
def exL : List Int := [2, 3, 5, 7, 11, 13, 24]
theorem okP_ex : okP exP := by
  refine ⟨by decide, by decide, fun i h0 hi => ?_⟩
  have : i = 1 ∨ i = 2 ∨ i = 3 := by simp [exP] at hi; omega
  rcases this with rfl | rfl | rfl <;> decide
theorem txt_ex : txt exP 0 = [true, true, true, false, false, true, false, false] := by decide
theorem okL_ex : okL exL := by
  intro i hi
  have : i = 0 ∨ i = 1 ∨ i = 2 ∨ i = 3 ∨ i = 4 ∨ i = 5 ∨ i = 6 := by simp [exL] at hi; omega
  unfold badAt
  rcases this with rfl | rfl | rfl | rfl | rfl | rfl | rfl <;> decide
theorem close_ex : IsClose (txt exP 0) 1 4 := by
  rw [txt_ex]
  refine ⟨by decide, by decide, by decide, by decide, fun t h1 h2 => ?_⟩
  have : t = 2 ∨ t = 3 ∨ t = 4 := by omega
  rcases this with rfl | rfl | rfl <;> decide
theorem first_ex : FirstG exL 6 3 := by
  refine ⟨by decide, fun t ht => ?_, .inr (by decide)⟩
  have : t = 0 ∨ t = 1 ∨ t = 2 := by omega
  rcases this with rfl | rfl | rfl <;> decide
theorem awake_ok (h : Hp) : HCalls Try.prog 11 #[] h (fun v h' => v = .bool true ∧ Ext h h') := by
  refine l48_awake_call ?_
  rw [l48_awake_b0_eq]
  refine New_intro (cs := [_, _, _, _]) fun b1 h1 hb1 x1 k1 z1 => ?_
  have r1 : Rd h1 (some ⟨b1, 0, none⟩) 4 (ints exP) := Rd.of_blk k1 (by decide)
  refine (MakeTree_ok r1 (by omega) (by omega)).mono fun v2 h2 ⟨x2, hv2⟩ => ?_
  rcases hv2 with ⟨_, _, t, rfl, lt⟩ | ⟨_, hbad, _⟩ | ⟨hbad, _⟩
  rotate_left
  · omega
  · exact absurd okP_ex hbad
  refine ⟨_, _, rfl, ?_⟩
  refine New_intro (cs := [_, _, _, _, _, _, _]) fun b2 h3 hb2 x3 k3 z3 => ?_
  have r3 : Rd h3 (some ⟨b2, 0, none⟩) 7 (ints exL) := Rd.of_blk k3 (by decide)
  refine (MakeMono_ok r3 (by omega)).mono fun v4 h4 ⟨x4, hv4⟩ => ?_
  rcases hv4 with ⟨_, _, m, rfl, lm⟩ | ⟨_, hbad, _⟩ | ⟨hbad, _⟩
  rotate_left
  · omega
  · exact absurd okL_ex hbad
  refine ⟨_, _, rfl, ?_⟩
  refine condN (fun hne => absurd rfl hne) fun _ => condNo rfl (condN (fun hne => absurd rfl hne) fun _ => condNo rfl ?_)
  have tt := (lt.self.ext x3).ext x4
  have mm := lm.self
  rw [l48_awake_b1_eq]
  refine (Close_at tt (i := 1) (j := 4) close_ex).mono fun v5 h5 ⟨hv5, hh⟩ => ?_
  subst hh
  refine ⟨_, _, hv5, ?_⟩
  refine (MNext_ok mm 6).mono fun v6 h6 ⟨x6, i, hi, hv6⟩ => ?_
  have hi3 : i = 3 := hi.unique first_ex
  subst hi3
  have hv6' : v6 = .tuple #[.int .i64 3, .int .i64 7, .int .i64 0] := by rw [hv6]; unfold nextV; rw [if_neg (by decide)]; rfl
  refine ⟨_, _, _, hv6', ?_⟩
  refine (Text_ok (tt.ext x6)).mono fun v7 h7 ⟨hv7, x7⟩ => ?_
  refine ⟨_, hv7, ?_⟩
  have hstr : (⟨#[40, 40, 40, 41, 41, 40, 41, 41]⟩ : ByteArray) = parS (txt exP 0) := by rw [txt_ex]; rfl
  rw [hstr]
  refine condYes (by rw [parS_eq]; simp) ?_
  refine condYes (decide_eq_true rfl) (condYes (decide_eq_true rfl) ?_)
  refine (MSpace_ok ((mm.ext x6).ext x7)).mono fun v8 h8 ⟨hv8, hh⟩ => ?_
  subst hh
  refine ⟨_, hv8, ?_⟩
  have hsp : spaceOf exL = 27 := by decide
  refine condYes (decide_eq_true (by rw [hsp]; rfl)) (condYes (decide_eq_true rfl) (condYes (decide_eq_true rfl) ⟨?_, ?_⟩))
  · rw [decide_eq_true rfl]
  · exact ((((x1.trans x2).trans x3).trans x4).trans x6).trans x7
end Go.Proofs.Ytmlfoefadmlhpaa
