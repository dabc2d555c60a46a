/- Part W8 of the proof: contracts of functions of the program, and what follows from them. -/
import Derived.Test.YtomifmeccpconaaSxW7
set_option maxRecDepth 10000
namespace Go.Proofs.Ytomifmeccpconaa
open Go Go.Sx

theorem hdr_vals (n : Nat) : [Value.int .u8 (IntKind.u8.wrap ((n / 16777216 : Nat) : Int)), .int .u8 (IntKind.u8.wrap ((n / 65536 : Nat) : Int)), .int .u8 (IntKind.u8.wrap ((n / 256 : Nat) : Int)), .int .u8 (IntKind.u8.wrap (n : Int))] = bytesV (hdr n) := by
  simp only [bytesV, hdr, List.map_cons, List.map_nil, IntKind.wrap_u8]
  rfl
theorem packTo_len (l : List Bool) (m q : Nat) : (packTo l m q).length = q := by simp [packTo]
theorem getD_ints (xs : List Nat) (i : Nat) : (xs.map (fun w : Nat => (w : Int))).getD i 0 = (xs.getD i 0 : Nat) := by
  simp only [List.getD, List.getElem?_map]
  cases xs[i]? <;> rfl

theorem Encode_ok {h : Hp} {a : Addr} {bits : List Bool} (v : Vec h a bits) :
    HCalls Try.prog 28 #[.pointer (some a)] h (fun r h' => Ext h h' ∧ ∃ p c, r = .slice p (codeB bits).length c ∧ Rd h' p (codeB bits).length (bytesV (codeB bits)) ∧ (codeB bits).length ≤ c) := by
  have hs : bits.length ≤ 65536 := by obtain ⟨ws, v⟩ := v; exact v.small
  have hn : cell h a = some (.int .i64 (bits.length : Int)) := by obtain ⟨ws, v⟩ := v; exact v.n
  refine Encode_call ?_
  rw [Encode_b0_eq]
  refine condNo rfl ?_
  refine ⟨_, hn, shr_intro (x := bits.length) (s := 24) rfl rfl (by decide) ?_⟩
  refine ⟨_, hn, shr_intro (x := bits.length) (s := 16) rfl rfl (by decide) ?_⟩
  refine ⟨_, hn, shr_intro (x := bits.length) (s := 8) rfl rfl (by decide) ?_⟩
  refine ⟨_, hn, ?_⟩
  simp only [Nat.shiftRight_eq_div_pow, Nat.reducePow]
  refine New_intro (cs := [_, _, _, _]) fun bo h1 hbo x1 k1 z1 => ?_
  rw [hdr_vals] at k1
  refine ⟨_, x1.cell hn, ?_⟩
  refine ⟨fun s h' => ∃ i : Nat, i ≤ bits.length ∧ s.2.1 = i ∧ 4 + (i + 7) / 8 = s.1.2.1 ∧ Ext h h' ∧ Own h' h.size 5 s.1.1 s.1.2.1 s.1.2.2 (bytesV (hdr bits.length) ++ bytesV (packTo bits i ((i + 7) / 8))), fun s _ => (bits.length - s.2.1).toNat,
    ⟨0, by omega, rfl, rfl, x1, own_of_blk (by simpa [packTo, bytesV] using k1) (by omega) (by simp [bytesV, hdr, packTo])⟩, ?_⟩
  rintro ⟨⟨sp, sn, sc⟩, si, _⟩ h2 ⟨i, hi, hsi, hsn, x, o⟩
  simp only at hsi hsn o
  subst hsi hsn
  dsimp only
  rw [Encode_b1_eq]
  refine condP (fun hlt => ?_) (fun hge => ?_)
  · refine rem_intro (by omega) (by omega) ?_
    have hb2 : ∀ (sp : Option Addr) (sc : Nat) (h2 : Hp), Ext h h2 → Own h2 h.size 5 sp (4 + (i / 8 + 1)) sc (bytesV (hdr bits.length) ++ bytesV (packTo bits i (i / 8 + 1))) →
        ∀ (nx : (Option Addr × Nat × Nat) × Int × Unit → Hp → Prop) (K : Value → Hp → Prop), (∀ (sp : Option Addr) (sc : Nat) (h3 : Hp), Ext h h3 → Own h3 h.size 5 sp (4 + (i / 8 + 1)) sc (bytesV (hdr bits.length) ++ bytesV (packTo bits (i + 1) (i / 8 + 1))) → nx ((sp, 4 + (i / 8 + 1), sc), (i : Int) + 1, ()) h3) →
        Encode_b2 (some a) sp (4 + (i / 8 + 1)) sc i (bits.length : Int) i h2 nx K := by
      intro sp sc h2 x o nx K hnx
      rw [Encode_b2_eq]
      refine (get_ok (v.ext x) i (by omega)).mono fun r2 h3 ⟨hr2, hh⟩ => ?_
      subst hh
      refine ⟨_, hr2, ?_⟩
      have hst := pack_step bits i
      refine cond_intro (fun hb => ?_) (fun hb => ?_)
      · rw [if_pos hb] at hst
        refine ⟨⟨by omega, by omega⟩, ?_⟩
        have e4 : ((4 + (i / 8 + 1) : Nat) : Int) - 1 = ((4 + i / 8 : Nat) : Int) := by omega
        rw [e4]
        have hrd := o.rd
        rw [← bytesV_app] at hrd
        refine idx_int hrd (by omega) (by omega) ?_
        rw [show ((4 + i / 8 : Nat) : Int).toNat = 4 + i / 8 from Int.toNat_natCast _, getD_ints]
        have hgd : (hdr bits.length ++ packTo bits i (i / 8 + 1)).getD (4 + i / 8) 0 = (packTo bits i (i / 8 + 1)).getD (i / 8) 0 := by
          simp only [List.getD]
          rw [List.getElem?_append_right (by simp [hdr])]
          have : 4 + i / 8 - (hdr bits.length).length = i / 8 := by simp [hdr]
          rw [this]
        rw [hgd]
        have hlt8 : (packTo bits i (i / 8 + 1)).getD (i / 8) 0 < 256 := by
          have : (packTo bits i (i / 8 + 1)).getD (i / 8) 0 = acc (bits.take i) (i / 8) 8 := by simp [packTo, List.getD]
          rw [this]; exact acc_lt _ _ 8
        refine rem_intro (by omega) (by omega) ?_
        refine shr_intro (x := 128) (s := i % 8) rfl (by omega) (by simp [IntKind.bits]; omega) ?_
        have hsl := shr_le 128 (i % 8)
        refine or_u8 (x := (packTo bits i (i / 8 + 1)).getD (i / 8) 0) (y := 128 >>> (i % 8)) rfl rfl hlt8 (by omega) ?_
        refine wr_own (i := ((4 + i / 8 : Nat) : Int)) o (by omega) (by omega) fun h4 hz o4 g => ?_
        rw [Encode_b4_eq]
        refine ⟨⟨by omega, by omega⟩, hnx sp sc h4 (ext_grow x o g) ?_⟩
        rw [hst]
        have e5 : (bytesV (hdr bits.length) ++ bytesV (packTo bits i (i / 8 + 1))).set ((4 + i / 8 : Nat) : Int).toNat (.int .u8 (((packTo bits i (i / 8 + 1)).getD (i / 8) 0 ||| 128 >>> (i % 8) : Nat) : Int)) =
            bytesV (hdr bits.length) ++ bytesV ((packTo bits i (i / 8 + 1)).set (i / 8) ((packTo bits i (i / 8 + 1)).getD (i / 8) 0 ||| 128 >>> (i % 8))) := by
          rw [show ((4 + i / 8 : Nat) : Int).toNat = 4 + i / 8 from Int.toNat_natCast _, List.set_append_right _ _ (by simp [bytesV, hdr])]
          congr 1
          have : 4 + i / 8 - (bytesV (hdr bits.length)).length = i / 8 := by simp [bytesV, hdr]
          rw [this]
          simp only [bytesV, List.map_set]
        rw [← e5]; exact o4
      · rw [if_neg (by rw [hb]; decide)] at hst
        rw [Encode_b4_eq]
        refine ⟨⟨by omega, by omega⟩, hnx sp sc h3 x ?_⟩
        rw [hst]; exact o
    have hnx : ∀ (sp : Option Addr) (sc : Nat) (h3 : Hp), Ext h h3 → Own h3 h.size 5 sp (4 + (i / 8 + 1)) sc (bytesV (hdr bits.length) ++ bytesV (packTo bits (i + 1) (i / 8 + 1))) →
        ∃ i' : Nat, i' ≤ bits.length ∧ (i : Int) + 1 = i' ∧ 4 + (i' + 7) / 8 = 4 + (i / 8 + 1) ∧ Ext h h3 ∧ Own h3 h.size 5 sp (4 + (i / 8 + 1)) sc (bytesV (hdr bits.length) ++ bytesV (packTo bits i' ((i' + 7) / 8))) := by
      intro sp sc h3 x o
      refine ⟨i + 1, by omega, by omega, by omega, x, ?_⟩
      rw [show (i + 1 + 7) / 8 = i / 8 + 1 by omega]; exact o
    refine condP (fun h0 => ?_) (fun h0 => ?_)
    · have hi8 : (i + 7) / 8 = i / 8 := by omega
      refine push_own el_u8 o (by have := x.size; omega) rfl (by omega) fun p' c' h4 o4 g => ?_
      have x4 := ext_grow x o g
      have hz := pack_zero bits i (by omega)
      have o5 : Own h4 h.size 5 p' (4 + (i / 8 + 1)) c' (bytesV (hdr bits.length) ++ bytesV (packTo bits i (i / 8 + 1))) := by
        rw [hz, bytesV_app, ← List.append_assoc, show 4 + (i / 8 + 1) = 4 + (i + 7) / 8 + 1 by omega]; exact o4
      rw [show 4 + (i + 7) / 8 + 1 = 4 + (i / 8 + 1) by omega]
      exact hb2 p' c' h4 x4 o5 _ _ fun sp sc h3 x o => ⟨hnx sp sc h3 x o, by simp only; omega⟩
    · have hi8 : (i + 7) / 8 = i / 8 + 1 := by omega
      rw [hi8] at o ⊢
      exact hb2 sp sc h2 x o _ _ fun sp sc h3 x o => ⟨hnx sp sc h3 x o, by simp only; omega⟩
  · rw [Encode_b3_eq]
    have : i = bits.length := by omega
    subst this
    have e : (codeB bits).length = 4 + (bits.length + 7) / 8 := by simp [codeB, hdr, packTo_len]; omega
    refine ⟨x, sp, sc, by rw [e], ?_, by have := o.cap; omega⟩
    have := o.rd
    rw [← bytesV_app] at this
    rw [e]; exact this
theorem Encode_nil (h : Hp) : HCalls Try.prog 28 #[.pointer none] h (fun r h' => r = .slice none 0 0 ∧ h' = h) := by
  refine Encode_call ?_
  rw [Encode_b0_eq]
  exact ⟨rfl, rfl⟩

theorem rEncode_ok {h : Hp} {p : Option Addr} {n c : Nat} {bits : List Bool} (r : Rd h p n (bits.map Value.bool)) (hn : n ≤ 65536) :
    HCalls Try.prog 30 #[.slice p n c] h (fun r h' => Ext h h' ∧ ∃ p c, r = .slice p (codeB bits).length c ∧ Rd h' p (codeB bits).length (bytesV (codeB bits))) := by
  have hbl : bits.length = n := by have := r.len; simpa using this
  refine rEncode_call ?_
  rw [rEncode_b0_eq]
  refine quo_intro (by omega) (by omega) (by omega) ?_
  refine quo_intro (by omega) (by omega) (by omega) ?_
  refine quo_intro (by omega) (by omega) (by omega) ?_
  rw [show (n : Int) / 16777216 = ((n / 16777216 : Nat) : Int) by omega, show (n : Int) / 65536 = ((n / 65536 : Nat) : Int) by omega, show (n : Int) / 256 = ((n / 256 : Nat) : Int) by omega]
  refine New_intro (cs := [_, _, _, _]) fun bo h1 hbo x1 k1 z1 => ?_
  rw [hdr_vals] at k1
  refine ⟨fun s h' => ∃ q : Nat, 8 * q < n + 8 ∧ s.2.1 = ((8 * q : Nat) : Int) ∧ 4 + q = s.1.2.1 ∧ Ext h h' ∧ Own h' h.size 5 s.1.1 s.1.2.1 s.1.2.2 (bytesV (hdr n) ++ bytesV ((List.range q).map fun j => acc bits j 8)), fun s _ => (n + 8 - s.2.1).toNat,
    ⟨0, by omega, rfl, rfl, x1, own_of_blk (by simpa [bytesV] using k1) (by omega) (by simp [bytesV, hdr])⟩, ?_⟩
  rintro ⟨⟨sp, sn, sc⟩, si, _⟩ h2 ⟨q, hq, hsi, hsn, x, o⟩
  simp only at hsi hsn o
  subst hsi hsn
  dsimp only
  rw [rEncode_b1_eq]
  refine condP (fun hlt => ?_) (fun hge => ?_)
  · refine ⟨fun s h' => h' = h2 ∧ ∃ k : Nat, k ≤ 8 ∧ s.2.1 = k ∧ s.1 = (acc bits q k : Nat), fun s _ => (8 - s.2.1).toNat, ⟨rfl, 0, by omega, rfl, rfl⟩, ?_⟩
    rintro ⟨sb, sk, _⟩ h3 ⟨rfl, k, hk, hsk, hsb⟩
    simp only at hsk hsb
    subst hsk hsb
    dsimp only
    have hal := acc_lt bits q k
    have hp : 2 ^ k ≤ 2 ^ 8 := Nat.pow_le_pow_right (by decide) hk
    rw [rEncode_b2_eq]
    refine condP (fun hk8 => ?_) (fun hk8 => ?_)
    · have hacc : acc bits q (k + 1) = 2 * acc bits q k + if bits.getD (8 * q + k) false then 1 else 0 := rfl
      refine ⟨⟨by omega, by omega⟩, ⟨by omega, by omega⟩, ?_⟩
      refine condP (fun hin => ?_) (fun hout => ?_)
      · refine ⟨⟨by omega, by omega⟩, ?_⟩
        refine idx_bool (r.ext x) (by omega) (by omega) ?_
        rw [show (((8 * q : Nat) : Int) + (k : Int)).toNat = 8 * q + k by omega]
        refine cond_intro (fun hb => ?_) (fun hb => ?_)
        · rw [hb, if_pos rfl] at hacc
          refine ⟨⟨by omega, by omega⟩, ?_⟩
          rw [rEncode_b4_eq]
          exact ⟨⟨by omega, by omega⟩, ⟨rfl, k + 1, by omega, by simp only; omega, by simp only; omega⟩, by simp only; omega⟩
        · rw [hb, if_neg (by decide)] at hacc
          rw [rEncode_b4_eq]
          exact ⟨⟨by omega, by omega⟩, ⟨rfl, k + 1, by omega, by simp only; omega, by simp only; omega⟩, by simp only; omega⟩
      · have : bits.getD (8 * q + k) false = false := by simp [List.getD, List.getElem?_eq_none (show bits.length ≤ 8 * q + k by omega)]
        rw [this, if_neg (by decide)] at hacc
        rw [rEncode_b4_eq]
        exact ⟨⟨by omega, by omega⟩, ⟨rfl, k + 1, by omega, by simp only; omega, by simp only; omega⟩, by simp only; omega⟩
    · have : k = 8 := by omega
      subst this
      rw [rEncode_b5_eq, wrap_u8_in _ (by omega) (by omega)]
      refine push_own el_u8 o (by have := x.size; omega) rfl (by omega) fun p' c' h4 o4 g => ?_
      rw [rEncode_b6_eq]
      refine ⟨⟨by omega, by omega⟩, ⟨q + 1, by omega, by simp only; omega, by simp only; omega, ext_grow x o g, ?_⟩, by simp only; omega⟩
      rw [List.range_succ, List.map_append, bytesV_app, ← List.append_assoc]
      exact o4
  · rw [rEncode_b3_eq]
    have hqe : q = (n + 7) / 8 := by omega
    have e : codeB bits = hdr n ++ (List.range q).map fun j => acc bits j 8 := by
      unfold codeB packTo
      rw [List.take_of_length_le (Nat.le_refl _), hbl, hqe]
    have el : (codeB bits).length = 4 + q := by rw [e]; simp [hdr]; omega
    refine ⟨x, sp, sc, by rw [el], ?_⟩
    have := o.rd
    rw [← bytesV_app, ← e] at this
    rw [el]; exact this
end Go.Proofs.Ytomifmeccpconaa
