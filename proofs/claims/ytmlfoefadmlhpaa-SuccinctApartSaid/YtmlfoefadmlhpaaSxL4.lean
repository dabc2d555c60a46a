/- Part L4 of the proof: contracts of functions of the program, and what follows from them. -/
import Derived.Test.YtmlfoefadmlhpaaSxT9
import Derived.Test.YtmlfoefadmlhpaaSxL2
set_option maxRecDepth 10000
namespace Go.Proofs.Ytmlfoefadmlhpaa
open Go Go.Sx

theorem ints_scalar (l : List Int) : ∀ v ∈ ints l, scalar v = true := by
  intro v hv
  obtain ⟨z, _, rfl⟩ := List.mem_map.1 hv
  rfl
theorem LApart_ok {h : Hp} {p q : Option Addr} {n c m d : Nat} {l zs : List Int} (r : Rd h p n (ints l)) (rz : Rd h q m (ints zs)) :
    HCalls Try.prog 10 #[.slice p n c, .slice q m d] h (fun v h' => v = .bool true ∧ Ext h h') := by
  have hzl : l.length = n := by have := r.len; simpa using this
  have hzm : zs.length = m := by have := rz.len; simpa using this
  refine l48_SuccinctApart_call ?_
  rw [l48_SuccinctApart_b0_eq]
  refine (awake_ok h).mono fun v1 h1 ⟨hv1, x1⟩ => ?_
  refine ⟨_, hv1, condNo rfl ?_⟩
  refine (Close_nil 0).mono fun v2 h2 ⟨hv2, x2⟩ => ⟨_, _, hv2, ?_⟩
  refine (Parent_nil 0).mono fun v3 h3 ⟨hv3, x3⟩ => ⟨_, _, hv3, ?_⟩
  refine (Child_nil 0 0).mono fun v4 h4 ⟨hv4, x4⟩ => ⟨_, _, hv4, ?_⟩
  refine (Depth_nil 0).mono fun v5 h5 ⟨hv5, x5⟩ => ⟨_, _, hv5, ?_⟩
  refine (Size_nil 0).mono fun v6 h6 ⟨hv6, x6⟩ => ⟨_, _, hv6, ?_⟩
  refine (Common_nil 0 0).mono fun v7 h7 ⟨hv7, x7⟩ => ⟨_, _, hv7, ?_⟩
  refine (MGet_nil 0 h7).mono fun v8 h8 ⟨hv8, hh⟩ => ?_
  subst hh
  refine ⟨_, _, hv8, ?_⟩
  refine (MNext_nil 0 h8).mono fun v9 h9 ⟨hv9, x9⟩ => ⟨_, _, _, hv9, ?_⟩
  refine New_intro (cs := [_, _, _, _, _, _, _, _]) fun b1 h10 hb1 x10 k10 z10 => ?_
  have x110 : Ext h h10 := (((x1.trans x2).trans (x3.trans x4)).trans ((x5.trans x6).trans (x7.trans x9))).trans x10
  have r8 : Rd h10 (some ⟨b1, 0, none⟩) 8 (ints (List.replicate 8 1)) := Rd.of_blk k10 (by simp)
  refine ⟨fun s h' => h' = h10 ∧ ∃ i : Nat, s.1 = i ∧ i ≤ 8, fun s _ => (8 - s.1).toNat, ⟨rfl, 0, rfl, by omega⟩, ?_⟩
  rintro ⟨si, _⟩ h11 ⟨rfl, i, hi, hi8⟩
  simp only at hi
  subst hi
  dsimp only
  rw [l48_SuccinctApart_b1_eq]
  refine condP (fun hlt => ?_) (fun hge => ?_)
  · refine idx_int r8 (by omega) (by omega) ?_
    have : (List.replicate 8 (1 : Int)).getD ((i : Nat) : Int).toNat 0 = 1 := by
      have hi8' : i < 8 := by omega
      rw [show ((i : Nat) : Int).toNat = i by simp, List.getD_eq_getElem?_getD, List.getElem?_replicate, if_pos hi8']
      rfl
    rw [this]
    refine condN (fun hne => absurd rfl hne) fun _ => ?_
    rw [l48_SuccinctApart_b2_eq]
    exact ⟨⟨by omega, by omega⟩, ⟨rfl, i + 1, by simp only; omega, by omega⟩, by simp only; omega⟩
  rw [l48_SuccinctApart_b3_eq]
  refine (TLen_nil h11).mono fun v10 h12 ⟨hv10, hh⟩ => ?_
  subst hh
  refine ⟨_, hv10, condN (fun hne => absurd rfl hne) fun _ => ?_⟩
  refine (Text_nil h12).mono fun v11 h13 ⟨hv11, hh⟩ => ?_
  subst hh
  refine ⟨_, hv11, condNo (by rw [show (⟨#[]⟩ : ByteArray) = parS [] from rfl, parS_eq]; rfl) ?_⟩
  refine (TSpace_nil h13).mono fun v12 h14 ⟨hv12, hh⟩ => ?_
  subst hh
  refine ⟨_, hv12, condN (fun hne => absurd rfl hne) fun _ => ?_⟩
  refine (MLen_nil h14).mono fun v13 h15 ⟨hv13, hh⟩ => ?_
  subst hh
  refine ⟨_, hv13, condN (fun hne => absurd rfl hne) fun _ => ?_⟩
  refine (MSpace_nil h15).mono fun v14 h16 ⟨hv14, hh⟩ => ?_
  subst hh
  refine ⟨_, hv14, condN (fun hne => absurd rfl hne) fun _ => ?_⟩
  rw [l48_SuccinctApart_b4_eq]
  refine (many_ok h16).mono fun v15 h17 ⟨hv15, hh⟩ => ?_
  subst hh
  refine ⟨_, hv15, condP (fun _ => ⟨rfl, x110⟩) fun hm1 => ?_⟩
  refine (many_ok h17).mono fun v16 h18 ⟨hv16, hh⟩ => ?_
  subst hh
  refine ⟨_, hv16, condP (fun _ => ⟨rfl, x110⟩) fun hm2 => ?_⟩
  rw [l48_SuccinctApart_b5_eq]
  refine New_intro (cs := []) fun b2 h19 hb2 x19 k19 z19 => ?_
  have o19 : Own h19 h18.size 3 (some ⟨b2, 0, none⟩) 0 0 [] := own_of_blk k19 (by omega) rfl
  refine append_all el_int o19 (by omega) ((r.ext x110).ext x19) (ints_scalar l) (by omega) fun p2 c2 h20 o20 g20 _ => ?_
  rw [Nat.zero_add, List.nil_append] at o20
  rw [Nat.zero_add]
  have x20 := ext_grow x19 o19 g20
  refine New_intro (cs := []) fun b3 h21 hb3 x21 k21 z21 => ?_
  have o21 : Own h21 h20.size 3 (some ⟨b3, 0, none⟩) 0 0 [] := own_of_blk k21 (by omega) rfl
  refine append_all el_int o21 (by omega) (((rz.ext x110).ext x20).ext x21) (ints_scalar zs) (by omega) fun p3 c3 h22 o22 g22 _ => ?_
  rw [Nat.zero_add, List.nil_append] at o22
  rw [Nat.zero_add]
  have x22 := ext_grow x21 o21 g22
  have o20' := o20.ext x22
  have hcap := o20.cap
  refine (lmade_ok o20'.rd (by omega) hcap).mono fun v17 h23 ⟨x23, c17⟩ => ?_
  have hsp : ∃ (tp : Option Addr) (ts : List Bool), v17 = .tuple #[.pointer tp, .string (parS ts), .bool true] ∧ (tp = none ∨ ∃ a, tp = some a ∧ LocH h22.size h23 (fun g => TreeH g a ts)) := by
    rcases c17 with ⟨_, _, a, rfl, lt⟩ | ⟨rfl, _⟩
    · exact ⟨_, _, rfl, .inr ⟨a, rfl, lt⟩⟩
    · exact ⟨_, _, rfl, .inl rfl⟩
  obtain ⟨tp, ts, hv17, htp⟩ := hsp
  refine ⟨_, _, _, hv17, ?_⟩
  have o22' := o22.ext x23
  refine (MakeMono_ok o22'.rd (by omega)).mono fun v18 h24 ⟨x24, c18⟩ => ?_
  have hmp : ∃ (mp : Option Addr) (me : Int), v18 = .tuple #[.pointer mp, .int .i64 me] ∧ (mp = none ∨ ∃ a, mp = some a ∧ LocH h23.size h24 (fun g => Mono g a zs)) := by
    rcases c18 with ⟨_, _, a, rfl, lm⟩ | ⟨_, _, rfl⟩ | ⟨_, rfl⟩
    · exact ⟨_, _, rfl, .inr ⟨a, rfl, lm⟩⟩
    · exact ⟨_, _, rfl, .inl rfl⟩
    · exact ⟨_, _, rfl, .inl rfl⟩
  obtain ⟨mp, me, hv18, hmp⟩ := hmp
  refine ⟨_, _, hv18, ?_⟩
  have s20 := x20.size
  have s22 := x22.size
  have s23 := x23.size
  have s24 := x24.size
  refine clear_own el_int ((o20'.ext x23).ext x24) fun h25 hz25 hs25 => ?_
  have o25 : Own h25 h20.size 3 p3 m c3 (ints zs) := by
    refine (o22'.ext x24).same fun a ha => hs25 _ fun a' ha' => ?_
    have h1 := (o20.lt a' ha').2
    have h2 := (o22.lt a ha).1
    omega
  refine clear_own el_int o25 fun h26 hz26 hs26 => ?_
  -- what lies outside the two copies is as it was
  have keep : ∀ k, (k < h18.size ∨ (h22.size ≤ k ∧ k < h24.size)) → h26[k]? = h24[k]? := by
    intro k hk
    rw [hs26 k fun a ha => ?_, hs25 k fun a ha => ?_]
    · have h1 := o20.lt a ha; omega
    · have h1 := o22.lt a ha; omega
  have x1826 : Ext h18 h26 := ⟨by omega, fun k hk => by rw [keep k (.inl hk), x24.same k (by omega), x23.same k (by omega), x22.same k (by omega)]; exact x20.same k hk⟩
  have xx := x110.trans x1826
  refine condNo rfl ?_
  have b6 : ∀ h27, Ext h26 h27 → l48_SuccinctApart_b6 q m d mp h27 (fun v h' => v = .bool true ∧ Ext h h') := by
    intro h27 x27
    rw [l48_SuccinctApart_b6_eq]
    rcases hmp with rfl | ⟨ma, rfl, lm⟩
    · exact condYes rfl ⟨rfl, xx.trans x27⟩
    refine condNo rfl (condP (fun _ => ⟨rfl, xx.trans x27⟩) fun hm0 => ?_)
    have mm : Mono h27 ma zs := ((lm.step (h1 := h26) (by omega) fun k h1 h2 => keep k (.inr ⟨by omega, h2⟩)).ext x27).self
    rw [l48_SuccinctApart_b7_eq]
    refine ⟨⟨by omega, by omega⟩, ?_⟩
    refine (MGet_ok mm ((m : Int) - 1)).mono fun v20 h28 ⟨hv20, x28⟩ => ?_
    have hi1 : ((m : Int) - 1) = ((m - 1 : Nat) : Int) := by omega
    rw [hi1, show getV_ zs ((m - 1 : Nat) : Int) = .tuple #[.int .i64 (at_ zs (m - 1)), .int .i64 0] by unfold getV_; rw [if_pos (by omega)]; simp] at hv20
    refine ⟨_, _, hv20, condYes (decide_eq_true rfl) ⟨⟨by omega, by omega⟩, ?_⟩⟩
    have xf := (xx.trans x27).trans x28
    refine idx_int (rz.ext xf) (by omega) (by omega) ⟨?_, xf⟩
    rw [show ((m : Int) - 1).toNat = m - 1 by omega, decide_eq_true rfl]
  rcases htp with rfl | ⟨ta, rfl, lt⟩
  · exact condNo rfl (b6 h26 (Ext.refl _))
  · refine condYes rfl ?_
    have tt : TreeH h26 ta ts := ((lt.ext x24).step (h1 := h26) (by omega) fun k h1 h2 => keep k (.inr ⟨h1, h2⟩)).self
    refine (Text_ok tt).mono fun v19 h27 ⟨hv19, x27⟩ => ?_
    exact ⟨_, hv19, condNo (by rw [parS_eq]; simp) (b6 h27 x27)⟩
end Go.Proofs.Ytmlfoefadmlhpaa
