/- Part W5 of the proof: contracts of functions of the program, and what follows from them. -/
import Derived.Test.YtomifmeccpconaaSxW4
set_option maxRecDepth 10000
namespace Go.Proofs.Ytomifmeccpconaa
open Go Go.Sx

/-! ### the references -/
theorem rRank_ok {h : Hp} {p : Option Addr} {n c : Nat} {bits : List Bool} (r : Rd h p n (bits.map Value.bool)) (b : Bool) (i : Nat) (hi : i ≤ n) (hn : n ≤ 1000000) :
    HCalls Try.prog 13 #[.slice p n c, .bool b, .int .i64 (i : Int)] h (fun v h' => v = .int .i64 (cntB bits b i : Nat) ∧ h' = h) := by
  have hbl : bits.length = n := by have := r.len; simpa using this
  refine rRank_call ?_
  rw [rRank_b0_eq]
  refine ⟨fun s h' => h' = h ∧ ∃ k : Nat, k ≤ i ∧ s.2.1 = k ∧ s.1 = (cntB bits b k : Nat), fun s _ => (i - s.2.1).toNat, ⟨rfl, 0, by omega, rfl, by simp [cntB]⟩, ?_⟩
  rintro ⟨sn, sk, _⟩ h' ⟨rfl, k, hk, hsk, hsn⟩
  simp only at hsk hsn
  subst hsk hsn
  dsimp only
  have hcl := cntB_le bits b k
  rw [rRank_b1_eq]
  refine condP (fun hlt => ?_) (fun hge => ?_)
  · refine idx_bool r (by omega) (by omega) ?_
    rw [show ((k : Nat) : Int).toNat = k by simp]
    have hs := cntB_succ bits b k (by omega)
    refine cond_intro (fun hb => ?_) (fun hb => ?_)
    · rw [if_pos (by simpa using hb)] at hs
      refine ⟨⟨by omega, by omega⟩, ?_⟩
      rw [rRank_b2_eq]
      exact ⟨⟨by omega, by omega⟩, ⟨rfl, k + 1, by omega, by simp only; omega, by simp only; omega⟩, by simp only; omega⟩
    · rw [if_neg (by simpa using hb)] at hs
      rw [rRank_b2_eq]
      exact ⟨⟨by omega, by omega⟩, ⟨rfl, k + 1, by omega, by simp only; omega, by simp only; omega⟩, by simp only; omega⟩
  · rw [rRank_b3_eq]
    have : k = i := by omega
    subst this
    exact ⟨rfl, rfl⟩

/-- What the reference's Select returns. -/
theorem rSelect_ok {h : Hp} {p : Option Addr} {n c : Nat} {bits : List Bool} (r : Rd h p n (bits.map Value.bool)) (b : Bool) (k : Nat) (hk : k < 4611686018427387904) (hn : n ≤ 1000000) :
    HCalls Try.prog 15 #[.slice p n c, .bool b, .int .i64 (k : Int)] h (fun v h' => h' = h ∧ ((cntB bits b n ≤ k ∧ v = .int .i64 (-1)) ∨ ∃ i, IsSel bits b k i ∧ v = .int .i64 (i : Nat))) := by
  have hbl : bits.length = n := by have := r.len; simpa using this
  refine rSelect_call ?_
  rw [rSelect_b0_eq]
  refine ⟨fun s h' => h' = h ∧ ∃ i : Nat, i ≤ n ∧ s.2.1 = i ∧ cntB bits b i ≤ k ∧ s.1 = ((k - cntB bits b i : Nat) : Int), fun s _ => (n - s.2.1).toNat, ⟨rfl, 0, by omega, rfl, by simp [cntB], by simp [cntB]⟩, ?_⟩
  rintro ⟨sk, si, _⟩ h' ⟨rfl, i, hi, hsi, hle, hsk⟩
  simp only at hsi hsk
  subst hsi hsk
  dsimp only
  rw [rSelect_b1_eq]
  refine condP (fun hlt => ?_) (fun hge => ?_)
  · refine idx_bool r (by omega) (by omega) ?_
    rw [show ((i : Nat) : Int).toNat = i by simp]
    have hs := cntB_succ bits b i (by omega)
    refine cond_intro (fun hb => ?_) (fun hb => ?_)
    · have hb' : bits.getD i false = b := by simpa using hb
      rw [if_pos hb'] at hs
      refine condP (fun h0 => ?_) (fun h0 => ?_)
      · exact ⟨rfl, .inr ⟨i, ⟨by omega, hb', by omega⟩, rfl⟩⟩
      · refine ⟨⟨by omega, by omega⟩, ?_⟩
        rw [rSelect_b2_eq]
        exact ⟨⟨by omega, by omega⟩, ⟨rfl, i + 1, by omega, by simp only; omega, by omega, by simp only; omega⟩, by simp only; omega⟩
    · rw [if_neg (by simpa using hb)] at hs
      rw [rSelect_b2_eq]
      exact ⟨⟨by omega, by omega⟩, ⟨rfl, i + 1, by omega, by simp only; omega, by omega, by simp only; omega⟩, by simp only; omega⟩
  · rw [rSelect_b3_eq]
    have : i = n := by omega
    subst this
    exact ⟨rfl, .inl ⟨hle, rfl⟩⟩

theorem rNext_ok {h : Hp} {p : Option Addr} {n c : Nat} {bits : List Bool} (r : Rd h p n (bits.map Value.bool)) (b : Bool) (i : Nat) (hi : i ≤ n) (hn : n ≤ 1000000) :
    HCalls Try.prog 18 #[.slice p n c, .bool b, .int .i64 (i : Int)] h (fun v h' => h' = h ∧ ((cntB bits b i = cntB bits b n ∧ v = .int .i64 (-1)) ∨ ∃ j, IsSel bits b (cntB bits b i) j ∧ v = .int .i64 (j : Nat))) := by
  have hbl : bits.length = n := by have := r.len; simpa using this
  refine rNext_call ?_
  rw [rNext_b0_eq]
  refine ⟨fun s h' => h' = h ∧ ∃ j : Nat, i ≤ j ∧ j ≤ n ∧ s.1 = j ∧ cntB bits b j = cntB bits b i, fun s _ => (n - s.1).toNat, ⟨rfl, i, by omega, hi, rfl, rfl⟩, ?_⟩
  rintro ⟨sj, _⟩ h' ⟨rfl, j, hij, hj, hsj, hc⟩
  simp only at hsj
  subst hsj
  dsimp only
  rw [rNext_b1_eq]
  refine condP (fun hlt => ?_) (fun hge => ?_)
  · refine idx_bool r (by omega) (by omega) ?_
    rw [show ((j : Nat) : Int).toNat = j by simp]
    have hs := cntB_succ bits b j (by omega)
    refine cond_intro (fun hb => ?_) (fun hb => ?_)
    · exact ⟨rfl, .inr ⟨j, ⟨by omega, by simpa using hb, hc⟩, rfl⟩⟩
    · rw [if_neg (by simpa using hb)] at hs
      exact ⟨⟨by omega, by omega⟩, ⟨rfl, j + 1, by omega, by omega, by simp only; omega, by omega⟩, by simp only; omega⟩
  · rw [rNext_b2_eq]
    have : j = n := by omega
    subst this
    exact ⟨rfl, .inl ⟨hc.symm, rfl⟩⟩

theorem rPrev_ok {h : Hp} {p : Option Addr} {n c : Nat} {bits : List Bool} (r : Rd h p n (bits.map Value.bool)) (b : Bool) (i : Nat) (hi : i ≤ n) (hn : n ≤ 1000000) :
    HCalls Try.prog 19 #[.slice p n c, .bool b, .int .i64 (i : Int)] h (fun v h' => h' = h ∧ ((cntB bits b i = 0 ∧ v = .int .i64 (-1)) ∨ ∃ j, 0 < cntB bits b i ∧ IsSel bits b (cntB bits b i - 1) j ∧ v = .int .i64 (j : Nat))) := by
  have hbl : bits.length = n := by have := r.len; simpa using this
  refine rPrev_call ?_
  rw [rPrev_b0_eq]
  refine ⟨fun s h' => h' = h ∧ ∃ j : Nat, j ≤ i ∧ s.1 = j ∧ cntB bits b j = cntB bits b i, fun s _ => s.1.toNat, ⟨rfl, i, by omega, rfl, rfl⟩, ?_⟩
  rintro ⟨sj, _⟩ h' ⟨rfl, j, hij, hsj, hc⟩
  simp only at hsj
  subst hsj
  dsimp only
  rw [rPrev_b1_eq]
  refine condP (fun hlt => ?_) (fun hge => ?_)
  · refine ⟨⟨by omega, by omega⟩, ?_⟩
    refine idx_bool r (by omega) (by omega) ?_
    have ej : ((j : Nat) : Int) - 1 = ((j - 1 : Nat) : Int) := by omega
    rw [ej, show ((j - 1 : Nat) : Int).toNat = j - 1 by simp]
    have hs := cntB_succ bits b (j - 1) (by omega)
    rw [show j - 1 + 1 = j by omega] at hs
    refine cond_intro (fun hb => ?_) (fun hb => ?_)
    · have hb' : bits.getD (j - 1) false = b := by simpa using hb
      rw [if_pos hb'] at hs
      exact ⟨rfl, .inr ⟨j - 1, by omega, ⟨by omega, hb', by omega⟩, rfl⟩⟩
    · rw [if_neg (by simpa using hb)] at hs
      exact ⟨⟨rfl, j - 1, by omega, rfl, by omega⟩, by first | omega | (simp only; omega)⟩
  · rw [rPrev_b2_eq]
    have : j = 0 := by omega
    subst this
    refine ⟨rfl, .inl ⟨?_, rfl⟩⟩
    rw [← hc]; simp [cntB]

/-! ### Next, Prev -/
theorem Next_ok {h : Hp} {a : Addr} {bits : List Bool} (v : Vec h a bits) (b : Bool) (i : Int) :
    HCalls Try.prog 16 #[.pointer (some a), .bool b, .int .i64 i] h (fun r h' => Ext h h' ∧
      ((¬ (0 ≤ i ∧ i ≤ bits.length) ∧ r = .tuple #[.int .i64 0, .int .i64 2]) ∨ ((0 ≤ i ∧ i ≤ bits.length) ∧ cntB bits b i.toNat = cntB bits b bits.length ∧ r = .tuple #[.int .i64 0, .int .i64 12]) ∨
       ((0 ≤ i ∧ i ≤ bits.length) ∧ ∃ j : Nat, IsSel bits b (cntB bits b i.toNat) j ∧ r = .tuple #[.int .i64 (j : Int), .int .i64 0]))) := by
  refine Next_call ?_
  rw [Next_b0_eq]
  refine (Rank_ok v b i).mono fun r h1 ⟨hr, hh⟩ => ?_
  subst hh
  by_cases hi : 0 ≤ i ∧ i ≤ bits.length
  · rw [if_pos hi] at hr
    refine ⟨_, _, hr, ?_⟩
    refine condN (fun hx => absurd rfl hx) (fun _ => ?_)
    refine (Select_ok v b (cntB bits b i.toNat : Nat)).mono fun r2 h2 ⟨x, hr2⟩ => ?_
    have hm := cntB_mono bits b (i := i.toNat) (j := bits.length) (by omega)
    rcases hr2 with ⟨h0, _⟩ | ⟨_, h1, rfl⟩ | ⟨_, j, hj, rfl⟩
    · omega
    · exact ⟨_, _, rfl, x, .inr (.inl ⟨hi, by omega, rfl⟩)⟩
    · exact ⟨_, _, rfl, x, .inr (.inr ⟨hi, j, by simpa using hj, rfl⟩)⟩
  · rw [if_neg hi] at hr
    refine ⟨_, _, hr, ?_⟩
    refine condN (fun _ => ⟨Ext.refl _, .inl ⟨hi, rfl⟩⟩) (fun hx => by omega)
theorem Next_nil (b : Bool) (i : Int) (h : Hp) : HCalls Try.prog 16 #[.pointer none, .bool b, .int .i64 i] h (fun r h' => r = .tuple #[.int .i64 0, .int .i64 1] ∧ h' = h) := by
  refine Next_call ?_
  rw [Next_b0_eq]
  refine (Rank_nil b i h).mono fun r h1 ⟨hr, hh⟩ => ?_
  subst hh
  refine ⟨_, _, hr, ?_⟩
  exact condN (fun _ => ⟨rfl, rfl⟩) (fun hx => by omega)
theorem Prev_ok {h : Hp} {a : Addr} {bits : List Bool} (v : Vec h a bits) (b : Bool) (i : Int) :
    HCalls Try.prog 17 #[.pointer (some a), .bool b, .int .i64 i] h (fun r h' => Ext h h' ∧
      ((¬ (0 ≤ i ∧ i ≤ bits.length) ∧ r = .tuple #[.int .i64 0, .int .i64 2]) ∨ ((0 ≤ i ∧ i ≤ bits.length) ∧ cntB bits b i.toNat = 0 ∧ r = .tuple #[.int .i64 0, .int .i64 12]) ∨
       ((0 ≤ i ∧ i ≤ bits.length) ∧ 0 < cntB bits b i.toNat ∧ ∃ j : Nat, IsSel bits b (cntB bits b i.toNat - 1) j ∧ r = .tuple #[.int .i64 (j : Int), .int .i64 0]))) := by
  have hs : bits.length ≤ 65536 := by obtain ⟨ws, v⟩ := v; exact v.small
  refine Prev_call ?_
  rw [Prev_b0_eq]
  refine (Rank_ok v b i).mono fun r h1 ⟨hr, hh⟩ => ?_
  subst hh
  by_cases hi : 0 ≤ i ∧ i ≤ bits.length
  · rw [if_pos hi] at hr
    refine ⟨_, _, hr, ?_⟩
    refine condN (fun hx => absurd rfl hx) (fun _ => ?_)
    have hcl := cntB_le bits b i.toNat
    refine condP (fun h0 => ⟨Ext.refl _, .inr (.inl ⟨hi, by omega, rfl⟩)⟩) (fun h0 => ?_)
    rw [Prev_b1_eq]
    refine ⟨⟨by omega, by omega⟩, ?_⟩
    have e : ((cntB bits b i.toNat : Nat) : Int) - 1 = ((cntB bits b i.toNat - 1 : Nat) : Int) := by omega
    rw [e]
    refine (Select_ok v b (cntB bits b i.toNat - 1 : Nat)).mono fun r2 h2 ⟨x, hr2⟩ => ?_
    have hm := cntB_mono bits b (i := i.toNat) (j := bits.length) (by omega)
    rcases hr2 with ⟨h0, _⟩ | ⟨_, h1, rfl⟩ | ⟨_, j, hj, rfl⟩
    · omega
    · omega
    · exact ⟨_, _, rfl, x, .inr (.inr ⟨hi, by omega, j, by simpa using hj, rfl⟩)⟩
  · rw [if_neg hi] at hr
    refine ⟨_, _, hr, ?_⟩
    refine condN (fun _ => ⟨Ext.refl _, .inl ⟨hi, rfl⟩⟩) (fun hx => by omega)
theorem Prev_nil (b : Bool) (i : Int) (h : Hp) : HCalls Try.prog 17 #[.pointer none, .bool b, .int .i64 i] h (fun r h' => r = .tuple #[.int .i64 0, .int .i64 1] ∧ h' = h) := by
  refine Prev_call ?_
  rw [Prev_b0_eq]
  refine (Rank_nil b i h).mono fun r h1 ⟨hr, hh⟩ => ?_
  subst hh
  refine ⟨_, _, hr, ?_⟩
  exact condN (fun _ => ⟨rfl, rfl⟩) (fun hx => by omega)
end Go.Proofs.Ytomifmeccpconaa
