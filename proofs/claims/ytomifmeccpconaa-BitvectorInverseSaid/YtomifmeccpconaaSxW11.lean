/- Decoding by the reference, and the law on codes. -/
import Derived.Test.YtomifmeccpconaaSxW10
set_option maxRecDepth 10000
namespace Go.Proofs.Ytomifmeccpconaa
open Go Go.Sx

theorem top_bit : ∀ y, y < 256 → ∀ k, k < 8 → (decide (128 ≤ y * 2 ^ k % 256)) = y.testBit (7 - k) := by decide +kernel
theorem dbl_step (y k : Nat) : y * 2 ^ k % 256 * 2 % 256 = y * 2 ^ (k + 1) % 256 := by
  rw [Nat.pow_succ, ← Nat.mul_assoc]; omega

theorem rDecode_ok {h : Hp} {p : Option Addr} {n c : Nat} {b : List Nat} (r : Rd h p n (bytesV b)) (hb : ∀ x ∈ b, x < 256) (hn : n ≤ 1000000000) :
    HCalls Try.prog 32 #[.slice p n c] h (fun v h' => Ext h h' ∧ ∃ e : Int, DecR b e ∧ ∃ p' n' c', v = .tuple #[.slice p' n' c', .int .i64 e] ∧ (e = 0 → n' = nOf b ∧ Rd h' p' n' ((decL b).map Value.bool))) := by
  have hbl : b.length = n := by have := r.len; simpa [bytesV] using this
  have g0 := getD_lt hb 0
  have g1 := getD_lt hb 1
  have g2 := getD_lt hb 2
  have g3 := getD_lt hb 3
  refine rDecode_call ?_
  rw [rDecode_b0_eq]
  refine condP (fun hlt => ⟨Ext.refl _, 8, .inl ⟨by omega, rfl⟩, _, _, _, rfl, fun hx => absurd hx (by decide)⟩) (fun hge => ?_)
  refine idx_int r (by omega) (by omega) ?_
  rw [show (0 : Int).toNat = 0 from rfl, getD_ints]
  refine ⟨⟨by omega, by omega⟩, ⟨by omega, by omega⟩, ?_⟩
  refine idx_int r (by omega) (by omega) ?_
  rw [show (1 : Int).toNat = 1 from rfl, getD_ints]
  refine ⟨⟨by omega, by omega⟩, ⟨by omega, by omega⟩, ⟨by omega, by omega⟩, ?_⟩
  refine idx_int r (by omega) (by omega) ?_
  rw [show (2 : Int).toNat = 2 from rfl, getD_ints]
  refine ⟨⟨by omega, by omega⟩, ⟨by omega, by omega⟩, ⟨by omega, by omega⟩, ?_⟩
  refine idx_int r (by omega) (by omega) ?_
  rw [show (3 : Int).toNat = 3 from rfl, getD_ints]
  refine ⟨⟨by omega, by omega⟩, ⟨by omega, by omega⟩, ?_⟩
  have hN : ((((b.getD 0 0 : Nat) : Int) * 256 + (b.getD 1 0 : Nat)) * 256 + (b.getD 2 0 : Nat)) * 256 + (b.getD 3 0 : Nat) = ((nOf b : Nat) : Int) := by unfold nOf; omega
  rw [hN]
  have hNlt : nOf b < 4294967296 := by unfold nOf; omega
  have hDR : ∀ e, DecR b e ↔ DecR b e := fun e => Iff.rfl
  generalize hNd : nOf b = N at *
  have h4b : 4 ≤ b.length := by omega
  refine condP (fun hlt => ⟨Ext.refl _, 4, .inr (.inl ⟨by omega, by omega, rfl⟩), _, _, _, rfl, fun hx => absurd hx (by decide)⟩) (fun hge2 => ?_)
  have hN6 : N ≤ 65536 := by omega
  refine ⟨⟨by omega, by omega⟩, ⟨by omega, by omega⟩, ?_⟩
  refine quo_intro (by omega) (by omega) (by omega) ?_
  refine condP (fun hlt => ⟨Ext.refl _, 8, .inr (.inr (.inl ⟨by omega, by omega, by omega, rfl⟩)), _, _, _, rfl, fun hx => absurd hx (by decide)⟩) (fun hge3 => ?_)
  refine ⟨⟨by omega, by omega⟩, ⟨by omega, by omega⟩, ?_⟩
  refine quo_intro (by omega) (by omega) (by omega) ?_
  refine condP (fun hlt => ⟨Ext.refl _, 7, .inr (.inr (.inr (.inl ⟨by omega, by omega, by omega, rfl⟩))), _, _, _, rfl, fun hx => absurd hx (by decide)⟩) (fun hge4 => ?_)
  have hSb : b.length - 4 = (N + 7) / 8 := by omega
  refine ⟨fun s h' => ∃ i : Nat, 4 ≤ i ∧ i ≤ n ∧ s.2.1 = i ∧ min N (8 * (i - 4)) = s.1.2.1 ∧ Ext h h' ∧ Own h' h.size 4 s.1.1 s.1.2.1 s.1.2.2 (((List.range (min N (8 * (i - 4)))).map (bitAt b)).map Value.bool) ∧ ∀ t, N ≤ t → t < 8 * (i - 4) → bitAt b t = false,
    fun s _ => (n - s.2.1).toNat, ⟨4, by omega, by omega, rfl, by simp, Ext.refl _, ?_, by omega⟩, ?_⟩
  · simp only [Nat.sub_self, Nat.mul_zero, Nat.min_zero]
    exact .inl ⟨rfl, rfl, rfl, rfl⟩
  rintro ⟨⟨sp, sn, sc⟩, si, _⟩ h2 ⟨i, hi4, hi, hsi, hsn, x, o, hz⟩
  simp only at hsi hsn o
  subst hsi hsn
  dsimp only
  rw [rDecode_b1_eq]
  refine condP (fun hlt => ?_) (fun hge5 => ?_)
  · refine idx_int (r.ext x) (by omega) (by omega) ?_
    rw [Int.toNat_natCast, getD_ints]
    have hg := getD_lt hb i
    refine ⟨⟨by omega, by omega⟩, ?_⟩
    generalize hq : i - 4 = q at *
    have hiq : i = 4 + q := by omega
    have hbit : ∀ k, k < 8 → bitAt b (8 * q + k) = (b.getD i 0).testBit (7 - k) := by
      intro k hk
      unfold bitAt
      rw [show 4 + (8 * q + k) / 8 = i by omega, show (8 * q + k) % 8 = k by omega]
    refine ⟨fun s h' => ∃ k : Nat, k ≤ 8 ∧ s.2.2.1 = k ∧ s.2.1 = ((b.getD i 0 * 2 ^ k % 256 : Nat) : Int) ∧ min N (8 * q + k) = s.1.2.1 ∧ Ext h h' ∧ Own h' h.size 4 s.1.1 s.1.2.1 s.1.2.2 (((List.range (min N (8 * q + k))).map (bitAt b)).map Value.bool) ∧ ∀ t, N ≤ t → t < 8 * q + k → bitAt b t = false,
      fun s _ => (8 - s.2.2.1).toNat, ⟨0, by omega, rfl, by simp only; omega, rfl, x, o, hz⟩, ?_⟩
    rintro ⟨⟨sp, sn, sc⟩, sb, sk, _⟩ h3 ⟨k, hk, hsk, hsb, hsn, x3, o3, hz3⟩
    simp only at hsk hsb hsn o3
    subst hsk hsb hsn
    dsimp only
    rw [rDecode_b2_eq]
    refine condP (fun hk8 => ?_) (fun hk8 => ?_)
    · have hk8' : k < 8 := by omega
      refine ⟨⟨by omega, by omega⟩, ?_⟩
      refine rem_intro (by omega) (by omega) ?_
      have e1 : ((b.getD i 0 * 2 ^ k % 256 : Nat) : Int) * 2 % 256 = ((b.getD i 0 * 2 ^ (k + 1) % 256 : Nat) : Int) := by
        rw [← dbl_step]; omega
      rw [e1]
      have e2 : (decide ((128 : Int) ≤ ((b.getD i 0 * 2 ^ k % 256 : Nat) : Int))) = bitAt b (8 * q + k) := by
        rw [hbit k hk8', ← top_bit _ hg k hk8', decide_eq_decide]; omega
      rw [e2]
      refine condP (fun hin => ?_) (fun hout => ?_)
      · have hm : min N (8 * q + k) = 8 * q + k := by omega
        refine push_own el_bool o3 x3.size rfl (by omega) fun p' c' h4 o4 g => ?_
        rw [rDecode_b4_eq]
        have hm1 : min N (8 * q + (k + 1)) = min N (8 * q + k) + 1 := by omega
        refine ⟨⟨by omega, by omega⟩, ⟨k + 1, by omega, by simp only; omega, rfl, hm1, ext_grow x3 o3 g, ?_, by omega⟩, by simp only; omega⟩
        simp only
        have e3 : ((List.range (min N (8 * q + (k + 1)))).map (bitAt b)).map Value.bool = ((List.range (min N (8 * q + k))).map (bitAt b)).map Value.bool ++ [.bool (bitAt b (8 * q + k))] := by
          rw [hm1, List.range_succ, List.map_append, List.map_append, hm]; rfl
        rw [e3]; exact o4
      · refine cond_intro (fun hbd => ?_) (fun hbd => ?_)
        · refine ⟨x3, 7, .inr (.inr (.inr (.inr (.inl ⟨h4b, by rw [hNd]; exact hN6, by rw [hNd]; exact hSb, ⟨8 * q + k, by rw [hNd]; omega, by rw [hNd]; omega, hbd⟩, rfl⟩)))), _, _, _, rfl, fun hx => absurd hx (by decide)⟩
        · rw [rDecode_b4_eq]
          have hm1 : min N (8 * q + (k + 1)) = min N (8 * q + k) := by omega
          refine ⟨⟨by omega, by omega⟩, ⟨k + 1, by omega, by simp only; omega, rfl, hm1, x3, ?_, ?_⟩, by simp only; omega⟩
          · simp only; rw [hm1]; exact o3
          · intro t h1 h2
            rcases Nat.lt_or_ge t (8 * q + k) with h5 | h5
            · exact hz3 t h1 h5
            · obtain rfl : t = 8 * q + k := by omega
              exact hbd
    · have : k = 8 := by omega
      subst this
      rw [rDecode_b5_eq]
      refine ⟨⟨by omega, by omega⟩, ⟨i + 1, by omega, by omega, by simp only; omega, ?_, x3, ?_, ?_⟩, by simp only; omega⟩
      · rw [show 8 * (i + 1 - 4) = 8 * q + 8 by omega]
      · simp only; rw [show 8 * (i + 1 - 4) = 8 * q + 8 by omega]; exact o3
      · rw [show 8 * (i + 1 - 4) = 8 * q + 8 by omega]; exact hz3
  · rw [rDecode_b3_eq]
    have hi' : i = n := by omega
    subst hi'
    have hmN : min N (8 * (i - 4)) = N := by omega
    refine ⟨x, 0, .inr (.inr (.inr (.inr (.inr ⟨h4b, by rw [hNd]; exact hN6, by rw [hNd]; exact hSb, ?_, rfl⟩)))), _, _, _, rfl, fun _ => ⟨hmN, ?_⟩⟩
    · rintro ⟨t, h1, h2, e⟩
      rw [hNd] at h1 h2
      rw [hz t h1 (by omega)] at e; cases e
    · have := o.rd
      unfold decL
      rw [hNd]
      rw [hmN] at this ⊢
      exact this

theorem LCodes_ok {h : Hp} {p q : Option Addr} {n c m d : Nat} {bits : List Bool} {b : List Nat} (r : Rd h p n (bits.map Value.bool)) (s : Rd h q m (bytesV b)) (hb : ∀ x ∈ b, x < 256) (hmd : m ≤ d) :
    HCalls Try.prog 7 #[.slice p n c, .slice q m d] h (fun v h' => v = .bool true ∧ Ext h h') := by
  have hbl : bits.length = n := by have := r.len; simpa using this
  refine LCodes_call ?_
  rw [LCodes_b0_eq]
  refine (awake_ok h).mono fun v1 h1 ⟨hv1, x1⟩ => ?_
  refine ⟨_, hv1, condNo rfl ?_⟩
  refine condP (fun _ => ⟨rfl, x1⟩) (fun hn => ?_)
  refine condP (fun _ => ⟨rfl, x1⟩) (fun hm => ?_)
  rw [LCodes_b1_eq]
  refine (Make_ok (r.ext x1) (by omega)).mono fun v2 h2 ⟨x2, a, hv2, va⟩ => ?_
  refine ⟨_, _, hv2, condNo rfl ?_⟩
  have x02 := x1.trans x2
  refine (Encode_ok va).mono fun v3 h3 ⟨x3, p3, c3, hv3, r3, _⟩ => ?_
  refine ⟨_, _, _, hv3, ?_⟩
  have x03 := x02.trans x3
  refine (rEncode_ok (r.ext x03) (by omega)).mono fun v4 h4 ⟨x4, p4, c4, hv4, r4⟩ => ?_
  refine ⟨_, _, _, hv4, ?_⟩
  refine (EqBy_ok (r3.ext x4) r4 (codeB_lt _) (codeB_lt _)).mono fun v5 h5 ⟨hv5, hh⟩ => ?_
  subst hh
  refine ⟨_, hv5, condNo (by rw [decide_eq_true rfl]; rfl) ?_⟩
  have x04 := x03.trans x4
  rw [LCodes_b2_eq]
  refine (Decode_ok (s.ext x04) hb hmd (by omega)).mono fun v6 h6 ⟨x6, e, he, hv6⟩ => ?_
  have x06 := x04.trans x6
  rcases hv6 with ⟨hne, hv6⟩ | ⟨rfl, a6, hv6, va6⟩
  · refine ⟨_, _, hv6, ?_⟩
    refine (rDecode_ok (s.ext x06) hb (by omega)).mono fun v7 h7 ⟨x7, e', he', p7, n7, c7, hv7, _⟩ => ?_
    obtain rfl := decR_unique he he'
    refine ⟨_, _, _, _, hv7, ?_⟩
    refine condNo (by rw [decide_eq_true rfl]; rfl) ?_
    refine condYes (by rw [decide_eq_false hne]; rfl) (condYes rfl ?_)
    exact ⟨rfl, x06.trans x7⟩
  · refine ⟨_, _, hv6, ?_⟩
    refine (rDecode_ok (s.ext x06) hb (by omega)).mono fun v7 h7 ⟨x7, e', he', p7, n7, c7, hv7, hz⟩ => ?_
    obtain rfl := decR_unique he he'
    obtain ⟨hn7, r7⟩ := hz rfl
    refine ⟨_, _, _, _, hv7, ?_⟩
    refine condNo rfl (condNo rfl (condYes rfl (condYes rfl ?_)))
    refine (Bits_ok (va6.ext x7)).mono fun v8 h8 ⟨x8, p8, c8, hv8, r8⟩ => ?_
    refine ⟨_, _, _, hv8, ?_⟩
    have hl8 : (decL b).length ≤ 65536 := by obtain ⟨ws, v⟩ := va6; exact v.small
    refine (EqB_ok r8 (r7.ext x8) (by omega)).mono fun v9 h9 ⟨hv9, hh⟩ => ?_
    subst hh
    refine ⟨_, hv9, ?_, (x06.trans x7).trans x8⟩
    rw [decide_eq_true rfl]
end Go.Proofs.Ytomifmeccpconaa
