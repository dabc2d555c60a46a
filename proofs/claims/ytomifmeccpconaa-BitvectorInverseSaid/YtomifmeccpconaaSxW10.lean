/- Decoding: what Decode and its reference return. -/
import Derived.Test.YtomifmeccpconaaSxW9
set_option maxRecDepth 10000
namespace Go.Sx
open Go
theorem Rd.sub {h : Hp} {p : Option Addr} {n c k : Nat} {xs : List Value} (r : Rd h p n xs) (hk : k ≤ n) (hc : n ≤ c) : Rd h (subAddr p c k 1) (n - k) (xs.drop k) := by
  refine ⟨by rw [List.length_drop, r.1], ?_⟩
  rcases r.2 with h0 | ⟨a, ha, hcell⟩
  · exact .inl (by omega)
  · by_cases hck : c = k
    · exact .inl (by omega)
    · refine .inr ⟨a.add (k * 1), by unfold subAddr; rw [if_neg hck, ha]; rfl, fun i hi => ?_⟩
      rw [add_add, hcell _ (by omega), List.getElem?_drop, Nat.mul_one]
theorem Rd.pre {h : Hp} {p : Option Addr} {n c k : Nat} {xs : List Value} (r : Rd h p n xs) (hk : k ≤ n) : Rd h (subAddr p c 0 1) k (xs.take k) := by
  refine ⟨by rw [List.length_take, r.1]; omega, ?_⟩
  rcases r.2 with h0 | ⟨a, ha, hcell⟩
  · exact .inl (by omega)
  · refine .inr ⟨a, ?_, fun i hi => ?_⟩
    · unfold subAddr
      split
      · exact ha
      · rw [ha]; simp [Addr.add]
    · rw [hcell _ (by omega), List.getElem?_take, if_pos hi]
end Go.Sx
namespace Go.Proofs.Ytomifmeccpconaa
open Go Go.Sx

def nOf (b : List Nat) : Nat := ((b.getD 0 0 * 256 + b.getD 1 0) * 256 + b.getD 2 0) * 256 + b.getD 3 0
def bitAt (b : List Nat) (i : Nat) : Bool := (b.getD (4 + i / 8) 0).testBit (7 - i % 8)
def decBad (b : List Nat) : Prop := ∃ i, nOf b ≤ i ∧ i < 8 * ((nOf b + 7) / 8) ∧ bitAt b i = true
def decL (b : List Nat) : List Bool := (List.range (nOf b)).map (bitAt b)
def DecR (b : List Nat) (e : Int) : Prop :=
  (b.length < 4 ∧ e = 8) ∨ (4 ≤ b.length ∧ 65536 < nOf b ∧ e = 4) ∨ (4 ≤ b.length ∧ nOf b ≤ 65536 ∧ b.length - 4 < (nOf b + 7) / 8 ∧ e = 8) ∨
  (4 ≤ b.length ∧ nOf b ≤ 65536 ∧ (nOf b + 7) / 8 < b.length - 4 ∧ e = 7) ∨ (4 ≤ b.length ∧ nOf b ≤ 65536 ∧ b.length - 4 = (nOf b + 7) / 8 ∧ decBad b ∧ e = 7) ∨
  (4 ≤ b.length ∧ nOf b ≤ 65536 ∧ b.length - 4 = (nOf b + 7) / 8 ∧ ¬ decBad b ∧ e = 0)
theorem decR_unique {b : List Nat} {e f : Int} (h : DecR b e) (g : DecR b f) : e = f := by
  unfold DecR at h g
  by_cases hb : decBad b
  · simp only [hb, not_true_eq_false, true_and, false_and, and_false, or_false] at h g
    omega
  · simp only [hb, not_false_eq_true, true_and, false_and, and_false, false_or] at h g
    omega
theorem getD_lt {b : List Nat} (hb : ∀ x ∈ b, x < 256) (i : Nat) : b.getD i 0 < 256 := by
  rcases Nat.lt_or_ge i b.length with h | h
  · have : b.getD i 0 = b[i] := by simp [List.getD, h]
    rw [this]; exact hb _ (List.getElem_mem h)
  · have : b.getD i 0 = 0 := by simp [List.getD, h]
    rw [this]; decide
theorem or_add (x y s : Nat) (hy : y < 2 ^ s) : x * 2 ^ s ||| y = x * 2 ^ s + y := by
  rw [Nat.mul_comm, ← Nat.two_pow_add_eq_or_of_lt hy]
theorem or_four {a b c d : Nat} (hb : b < 256) (hc : c < 256) (hd : d < 256) : ((a * 2 ^ 24 ||| b * 2 ^ 16) ||| c * 2 ^ 8) ||| d = ((a * 256 + b) * 256 + c) * 256 + d := by
  rw [or_add a (b * 2 ^ 16) 24 (by omega)]
  rw [show a * 2 ^ 24 + b * 2 ^ 16 = (a * 256 + b) * 2 ^ 16 by omega, or_add _ (c * 2 ^ 8) 16 (by omega)]
  rw [show (a * 256 + b) * 2 ^ 16 + c * 2 ^ 8 = ((a * 256 + b) * 256 + c) * 2 ^ 8 by omega, or_add _ d 8 (by omega)]
theorem bit_and_one (x s : Nat) : (decide (((x >>> s &&& 1 : Nat) : Int) = 1)) = x.testBit s := by
  rw [Nat.and_one_is_mod, Nat.testBit, Nat.and_comm, Nat.and_one_is_mod]
  rcases Nat.mod_two_eq_zero_or_one (x >>> s) with h | h
  · rw [h]; rfl
  · rw [h]; rfl

theorem Decode_ok {h : Hp} {p : Option Addr} {n c : Nat} {b : List Nat} (r : Rd h p n (bytesV b)) (hb : ∀ x ∈ b, x < 256) (hnc : n ≤ c) (hn : n ≤ 1000000000) :
    HCalls Try.prog 31 #[.slice p n c] h (fun v h' => Ext h h' ∧ ∃ e : Int, DecR b e ∧ ((e ≠ 0 ∧ v = .tuple #[.pointer none, .int .i64 e]) ∨ (e = 0 ∧ ∃ a, v = .tuple #[.pointer (some a), .int .i64 0] ∧ Vec h' a (decL b)))) := by
  have hbl : b.length = n := by have := r.len; simpa [bytesV] using this
  have g0 := getD_lt hb 0
  have g1 := getD_lt hb 1
  have g2 := getD_lt hb 2
  have g3 := getD_lt hb 3
  refine Decode_call ?_
  rw [Decode_b0_eq]
  refine condP (fun hlt => ⟨Ext.refl _, 8, .inl ⟨by omega, rfl⟩, .inl ⟨by decide, rfl⟩⟩) (fun hge => ?_)
  refine idx_int r (by omega) (by omega) ?_
  rw [show (0 : Int).toNat = 0 from rfl, getD_ints]
  refine ⟨⟨by omega, by omega⟩, ?_⟩
  refine shl_intro (x := b.getD 0 0) (s := 24) rfl rfl (by decide) (by rw [wrap_i64_in]; exact ⟨by omega, by omega⟩) ?_
  refine idx_int r (by omega) (by omega) ?_
  rw [show (1 : Int).toNat = 1 from rfl, getD_ints]
  refine ⟨⟨by omega, by omega⟩, ?_⟩
  refine shl_intro (x := b.getD 1 0) (s := 16) rfl rfl (by decide) (by rw [wrap_i64_in]; exact ⟨by omega, by omega⟩) ?_
  refine or_i64 (x := b.getD 0 0 * 2 ^ 24) (y := b.getD 1 0 * 2 ^ 16) rfl rfl (by omega) (by omega) ?_
  have o1 : b.getD 0 0 * 2 ^ 24 ||| b.getD 1 0 * 2 ^ 16 < 2 ^ 32 := Nat.or_lt_two_pow (by omega) (by omega)
  refine idx_int r (by omega) (by omega) ?_
  rw [show (2 : Int).toNat = 2 from rfl, getD_ints]
  refine ⟨⟨by omega, by omega⟩, ?_⟩
  refine shl_intro (x := b.getD 2 0) (s := 8) rfl rfl (by decide) (by rw [wrap_i64_in]; exact ⟨by omega, by omega⟩) ?_
  refine or_i64 (x := b.getD 0 0 * 2 ^ 24 ||| b.getD 1 0 * 2 ^ 16) (y := b.getD 2 0 * 2 ^ 8) rfl rfl (by omega) (by omega) ?_
  have o2 : b.getD 0 0 * 2 ^ 24 ||| b.getD 1 0 * 2 ^ 16 ||| b.getD 2 0 * 2 ^ 8 < 2 ^ 32 := Nat.or_lt_two_pow o1 (by omega)
  refine idx_int r (by omega) (by omega) ?_
  rw [show (3 : Int).toNat = 3 from rfl, getD_ints]
  refine ⟨⟨by omega, by omega⟩, ?_⟩
  refine or_i64 (x := b.getD 0 0 * 2 ^ 24 ||| b.getD 1 0 * 2 ^ 16 ||| b.getD 2 0 * 2 ^ 8) (y := b.getD 3 0) rfl rfl (by omega) (by omega) ?_
  rw [or_four g1 g2 g3]
  change cond (decide (65536 < ((nOf b : Nat) : Int))) _ _
  have hN : ((b.getD 0 0 * 256 + b.getD 1 0) * 256 + b.getD 2 0) * 256 + b.getD 3 0 = nOf b := rfl
  rw [hN]
  have hNlt : nOf b < 4294967296 := by unfold nOf; omega
  generalize hNd : nOf b = N at *
  refine condP (fun hlt => ⟨Ext.refl _, 4, .inr (.inl ⟨by omega, by omega, rfl⟩), .inl ⟨by decide, rfl⟩⟩) (fun hge2 => ?_)
  refine ⟨⟨by omega, by omega, by omega⟩, ⟨by omega, by omega⟩, ?_⟩
  refine quo_intro (by omega) (by omega) (by omega) ?_
  have hq : ((N : Int) + 7) / 8 = (((N + 7) / 8 : Nat) : Int) := by omega
  rw [hq]
  have e4 : ((n : Int).toNat - (4 : Int).toNat : Nat) = n - 4 := by omega
  rw [e4]
  refine condP (fun hlt => ⟨Ext.refl _, 8, .inr (.inr (.inl ⟨by omega, by omega, by omega, rfl⟩)), .inl ⟨by decide, rfl⟩⟩) (fun hge3 => ?_)
  refine condP (fun hlt => ⟨Ext.refl _, 7, .inr (.inr (.inr (.inl ⟨by omega, by omega, by omega, rfl⟩))), .inl ⟨by decide, rfl⟩⟩) (fun hge4 => ?_)
  generalize hS : (N + 7) / 8 = S at *
  have hSn : n - 4 = S := by omega
  have hSb : b.length - 4 = S := by omega
  have h4b : 4 ≤ b.length := by omega
  have hN6 : N ≤ 65536 := by omega
  rw [show (4 : Int).toNat = 4 from rfl]
  have rb : Rd h (subAddr p c 4 1) (n - 4) ((b.drop 4 |>.map (fun w : Nat => (w : Int))).map (Value.int .u8)) := by
    have := r.sub (k := 4) (by omega) hnc
    simpa [bytesV, List.map_drop] using this
  rw [Decode_b1_eq]
  have e8 : (8 * (S : Int)).toNat = 8 * S := by omega
  refine ⟨⟨by omega, by omega⟩, ⟨by omega, by omega, by omega, by omega⟩, ?_⟩
  rw [e8, Nat.mul_one, repL_one]
  refine New_intro fun bl h1 hbl1 x1 k1 z1 => ?_
  have o0 : Own h1 h.size 4 (some ⟨bl, 0, none⟩) (8 * S) (8 * S) ((List.range (8 * S)).map (fun t => Value.bool (decide (t < 0) && bitAt b t))) := by
    refine own_of_blk ?_ (by omega) (by simp)
    have : (List.range (8 * S)).map (fun t => Value.bool (decide (t < 0) && bitAt b t)) = List.replicate (8 * S) (Value.bool false) := by
      apply List.ext_getElem (by simp)
      intro i h1 h2
      simp
    rw [this]; exact k1
  refine ⟨fun s h' => ∃ i : Nat, i ≤ 8 * S ∧ s.1 = i ∧ Ext h h' ∧ Own h' h.size 4 (some ⟨bl, 0, none⟩) (8 * S) (8 * S) ((List.range (8 * S)).map (fun t => Value.bool (decide (t < i) && bitAt b t))), fun s _ => (8 * S - s.1).toNat,
    ⟨0, by omega, rfl, x1, o0⟩, ?_⟩
  rintro ⟨si, _⟩ h2 ⟨i, hi, hsi, x, o⟩
  simp only at hsi
  subst hsi
  dsimp only
  rw [Decode_b2_eq]
  refine condP (fun hlt => ?_) (fun hge5 => ?_)
  · refine quo_intro (by omega) (by omega) (by omega) ?_
    have ei : (i : Int) / 8 = ((i / 8 : Nat) : Int) := by omega
    rw [ei]
    refine idx_int (rb.ext x) (by omega) (by omega) ?_
    rw [show ((i / 8 : Nat) : Int).toNat = i / 8 from Int.toNat_natCast _, getD_ints]
    have hgd : (b.drop 4).getD (i / 8) 0 = b.getD (4 + i / 8) 0 := by simp [List.getD]
    rw [hgd]
    have hg := getD_lt hb (4 + i / 8)
    refine rem_intro (by omega) (by omega) ?_
    refine ⟨⟨by omega, by omega⟩, ?_⟩
    refine shr_intro (x := b.getD (4 + i / 8) 0) (s := 7 - i % 8) rfl (by omega) (by simp [IntKind.bits]; omega) ?_
    have hsl := shr_le (b.getD (4 + i / 8) 0) (7 - i % 8)
    refine and_u8 (x := b.getD (4 + i / 8) 0 >>> (7 - i % 8)) (y := 1) rfl rfl (by omega) (by decide) ?_
    rw [bit_and_one]
    refine wr_own o (by omega) (by omega) fun h3 hz o3 g => ?_
    rw [Decode_b3_eq]
    refine ⟨⟨by omega, by omega⟩, ⟨i + 1, by omega, by simp only; omega, ext_grow x o g, ?_⟩, by simp only; omega⟩
    have : ((List.range (8 * S)).map (fun t => Value.bool (decide (t < i) && bitAt b t))).set (i : Int).toNat (.bool ((b.getD (4 + i / 8) 0).testBit (7 - i % 8))) = (List.range (8 * S)).map (fun t => Value.bool (decide (t < i + 1) && bitAt b t)) := by
      rw [Int.toNat_natCast]
      apply List.ext_getElem (by simp)
      intro t h1 h2
      rw [List.getElem_set]
      simp only [List.getElem_map, List.getElem_range]
      by_cases hit : i = t
      · rw [if_pos hit]; subst hit; simp [bitAt]
      · rw [if_neg hit]
        have : decide (t < i + 1) = decide (t < i) := by rw [decide_eq_decide]; omega
        rw [this]
    rw [← this]; exact o3
  · have : i = 8 * S := by omega
    subst this
    have ro : Rd h2 (some ⟨bl, 0, none⟩) (8 * S) (((List.range (8 * S)).map (bitAt b)).map Value.bool) := by
      have := o.rd
      have e : (List.range (8 * S)).map (fun t => Value.bool (decide (t < 8 * S) && bitAt b t)) = ((List.range (8 * S)).map (bitAt b)).map Value.bool := by
        rw [List.map_map]
        refine List.map_congr_left fun t ht => ?_
        have := List.mem_range.1 ht
        simp [this]
      rw [e] at this; exact this
    rw [Decode_b4_eq]
    refine ⟨⟨by omega, by omega, by omega⟩, ?_⟩
    have eN : (N : Int).toNat = N := Int.toNat_natCast N
    have e8' : ((8 * S : Nat) : Int).toNat = 8 * S := Int.toNat_natCast _
    rw [eN, e8']
    have rs := ro.sub (k := N) (c := 8 * S) (by omega) (Nat.le_refl _)
    rw [← List.map_drop] at rs
    refine (ContB_ok rs true (by omega)).mono fun v1 h3 ⟨hh, bb, hv1, hbb⟩ => ?_
    subst hh
    refine ⟨_, hv1, ?_⟩
    have hbad : bb = true ↔ decBad b := by
      rw [hbb]
      unfold decBad
      rw [hNd, hS]
      constructor
      · rintro ⟨t, ht, e⟩
        refine ⟨N + t, by omega, by omega, ?_⟩
        simpa [List.getD, show N + t < 8 * S by omega] using e
      · rintro ⟨i, h1, h2, e⟩
        refine ⟨i - N, by omega, ?_⟩
        simpa [List.getD, show N + (i - N) = i by omega, h2] using e
    refine cond_intro (fun h1 => ?_) (fun h0 => ?_)
    · exact ⟨x, 7, .inr (.inr (.inr (.inr (.inl ⟨h4b, by rw [hNd]; exact hN6, by rw [hNd, hS]; exact hSb, hbad.1 h1, rfl⟩)))), .inl ⟨by decide, rfl⟩⟩
    · refine ⟨⟨by omega, by omega, by omega⟩, ?_⟩
      have rp := ro.pre (k := N) (c := 8 * S) (by omega)
      rw [← List.map_take] at rp
      have et : ((List.range (8 * S)).map (bitAt b)).take N = decL b := by
        unfold decL
        rw [hNd, ← List.map_take, List.take_range, Nat.min_eq_left (by omega)]
      rw [et] at rp
      rw [show (0 : Int).toNat = 0 from rfl, Nat.sub_zero]
      refine (Make_ok rp (by omega)).mono fun v2 h4 ⟨x4, a, hv2, va⟩ => ?_
      refine ⟨_, _, hv2, x.trans x4, 0, .inr (.inr (.inr (.inr (.inr ⟨h4b, by rw [hNd]; exact hN6, by rw [hNd, hS]; exact hSb, fun hx => ?_, rfl⟩)))), .inr ⟨rfl, a, rfl, va⟩⟩
      rw [hbad.2 hx] at h0; cases h0
end Go.Proofs.Ytomifmeccpconaa
