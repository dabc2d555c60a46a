/- Part WB of the proof: contracts of functions of the program, and what follows from them. -/
import Derived.Test.YtmlfoefadmlhpaaSxW4
set_option maxRecDepth 10000
namespace Go.Proofs.Ytmlfoefadmlhpaa
open Go Go.Sx

theorem Bits_ok {h : Hp} {a : Addr} {bits : List Bool} (v : Vec h a bits) :
    HCalls Try.prog 54 #[.pointer (some a)] h (fun r h' => Ext h h' ∧ ∃ p c, r = .slice p bits.length c ∧ Rd h' p bits.length (bits.map Value.bool)) := by
  have hs : bits.length ≤ 65536 := by obtain ⟨ws, v⟩ := v; exact v.small
  refine Bits_call ?_
  rw [Bits_b0_eq]
  refine (Len_ok v).mono fun r h1 ⟨hr, hh⟩ => ?_
  subst hh
  refine ⟨_, hr, ?_⟩
  refine ⟨fun s h' => ∃ i : Nat, i ≤ bits.length ∧ s.2.1 = i ∧ i = s.1.2.1 ∧ Ext h1 h' ∧ Own h' h1.size 4 s.1.1 s.1.2.1 s.1.2.2 ((bits.take i).map Value.bool), fun s _ => (bits.length - s.2.1).toNat,
    ⟨0, by omega, rfl, rfl, Ext.refl _, .inl ⟨rfl, rfl, rfl, rfl⟩⟩, ?_⟩
  rintro ⟨⟨sp, sn, sc⟩, si, _⟩ h2 ⟨i, hi, hsi, hsn, x, o⟩
  simp only at hsi hsn o
  subst hsi hsn
  dsimp only
  rw [Bits_b1_eq]
  refine condP (fun hlt => ?_) (fun hge => ?_)
  · refine (get_ok (v.ext x) i (by omega)).mono fun r2 h3 ⟨hr2, hh⟩ => ?_
    subst hh
    refine ⟨_, hr2, ?_⟩
    refine push_own el_bool o x.size rfl (by omega) fun p' c' h4 o4 g => ?_
    rw [Bits_b2_eq]
    refine ⟨⟨by omega, by omega⟩, ⟨i + 1, by omega, by simp only; omega, rfl, ext_grow x o g, ?_⟩, by simp only; omega⟩
    have e : (bits.take (i + 1)).map Value.bool = (bits.take i).map Value.bool ++ [.bool (bits.getD i false)] := by
      rw [List.take_succ_eq_append_getElem (by omega)]
      have : bits.getD i false = bits[i]'(by omega) := by simp [List.getD, show i < bits.length by omega]
      rw [this, List.map_append]; rfl
    rw [e]; exact o4
  · rw [Bits_b3_eq]
    have : i = bits.length := by omega
    subst this
    refine ⟨x, sp, sc, rfl, ?_⟩
    have := o.rd
    rwa [List.take_of_length_le (Nat.le_refl _)] at this
end Go.Proofs.Ytmlfoefadmlhpaa
