/- Part T13 of the proof: contracts of functions of the program, and what follows from them. -/
import Derived.Test.YtmlfoefadmlhpaaSxT12
set_option maxRecDepth 10000
namespace Go.Proofs.Ytmlfoefadmlhpaa
open Go Go.Sx

/-- What a thing on the stack still brings. -/
def item (l : List Int) (z : Int) : List Nat := if z < 0 then [((-1) - z).toNat] else (ltx l z.toNat).map Prod.fst
def remS (l : List Int) (st : List Int) : List Nat := (st.reverse.map (item l)).flatten
def okI (l : List Int) (z : Int) : Prop := z < (l.length : Int) ∧ -(l.length : Int) ≤ z
theorem remS_snoc (l : List Int) (st : List Int) (z : Int) : remS l (st ++ [z]) = item l z ++ remS l st := by simp [remS]
theorem item_pos {l : List Int} (ok : okP l) {z : Int} (hz : okI l z) : 1 ≤ (item l z).length := by
  unfold item
  split
  · simp
  · rw [ltx_eq ok (by have := hz.1; omega)]; simp
theorem remS_len {l : List Int} (ok : okP l) (st : List Int) (h : ∀ z ∈ st, okI l z) : st.length ≤ (remS l st).length := by
  have key : ∀ k (st : List Int), st.length = k → (∀ z ∈ st, okI l z) → st.length ≤ (remS l st).length := by
    intro k
    induction k with
    | zero => intro st hl _; omega
    | succ k ih =>
      intro st hl h
      rcases List.eq_nil_or_concat st with h4 | ⟨L, z, h4⟩
      · subst h4; simp at hl
      · have h4 : st = L ++ [z] := by simpa using h4
        subst h4
        rw [remS_snoc]
        have h1 := ih L (by simp at hl; omega) fun x hx => h x (by simp [hx])
        have h2 := item_pos ok (h z (by simp))
        simp only [List.length_append, List.length_cons, List.length_nil]
        omega
  exact key _ st rfl h
theorem item_enter {l : List Int} (ok : okP l) {v : Nat} (hv : v < l.length) (st : List Int) : remS l (st ++ [(v : Int)]) = v :: remS l (st ++ [(-1) - (v : Int)] ++ ((kids l v).map (fun k : Nat => (k : Int))).reverse) := by
  have h1 : remS l (st ++ [(-1) - (v : Int)] ++ ((kids l v).map (fun k : Nat => (k : Int))).reverse) = ((kids l v).map (fun k => (ltx l k).map Prod.fst)).flatten ++ ([v] ++ remS l st) := by
    unfold remS
    rw [List.reverse_append, List.reverse_reverse, List.map_append, List.flatten_append]
    congr 1
    · rw [List.map_map]
      refine congrArg List.flatten (List.map_congr_left fun k _ => ?_)
      show item l (k : Int) = _
      unfold item
      rw [if_neg (by omega), show ((k : Int)).toNat = k by simp]
    · rw [List.reverse_append, List.map_append, List.flatten_append]
      congr 1
      simp only [List.reverse_cons, List.reverse_nil, List.nil_append, List.map_cons, List.map_nil, List.flatten_cons, List.flatten_nil, List.append_nil]
      unfold item
      rw [if_pos (by omega), show ((-1) - ((-1) - (v : Int))).toNat = v by omega]
  rw [h1, remS_snoc]
  unfold item
  rw [if_neg (by omega), show ((v : Int)).toNat = v by simp, ltx_eq ok hv]
  simp only [List.map_cons, List.map_append, List.map_nil]
  rw [flat_map, List.map_map]
  have e : (List.map Prod.fst ∘ ltx l) = fun k => (ltx l k).map Prod.fst := rfl
  rw [e]
  simp

section
variable {h : Hp} {p : Option Addr} {n c : Nat} {l : List Int}
theorem vEuler_ok (r : Rd h p n (ints l)) (ok : okP l) (hn : n ≤ 1000) : HCalls Try.prog 31 #[.agg #[.slice p n c]] h (fun x h' => Ext h h' ∧ ∃ q m d, x = .slice q m d ∧ Own h' h.size 3 q m d (natV ((ltx l 0).map Prod.fst))) := by
  have hzl : l.length = n := by have := r.len; simpa using this
  have hn0 : 0 < n := by have := ok.1; omega
  have hlab : ((ltx l 0).map Prod.fst).length = 2 * n := by
    have h1 := txt_len ok
    rw [← snd0 ok, List.length_map] at h1
    rw [List.length_map]; omega
  refine r32_Euler_call ?_
  rw [r32_Euler_b0_eq]
  refine New_intro (cs := [.slice p n c]) fun b1 h1 hb1 x1 k1 z1 => ?_
  refine New_intro (cs := [.int .i64 0]) fun b2 h2 hb2 x2 k2 z2 => ?_
  refine ⟨fun s h' => Ext h1 h' ∧ ∃ (st : List Int) (out : List Nat), Own h' h1.size 3 s.1.1 s.1.2.1 s.1.2.2 (ints st) ∧ Own h' h1.size 3 s.2.1.1 s.2.1.2.1 s.2.1.2.2 (natV out) ∧ Apart s.1.1 s.2.1.1 ∧
      (∀ z ∈ st, okI l z) ∧ out ++ remS l st = (ltx l 0).map Prod.fst, fun s _ => 2 * n - s.2.1.2.1,
    ⟨x2, [0], [], own_of_blk k2 (by omega) rfl, .inl ⟨rfl, rfl, rfl, rfl⟩, (fun a b _ hb => by cases hb), ?_, ?_⟩, ?_⟩
  · intro z hz
    have : z = 0 := by simpa using hz
    subst this
    exact ⟨by omega, by omega⟩
  · simp [remS, item]
  rintro ⟨⟨sp, sn, sc⟩, ⟨tp, tn, tc⟩, _⟩ h3 ⟨x3, st, out, o1, o2, hap, hst, hrem⟩
  simp only at o1 o2 hap
  dsimp only
  have hsl : st.length = sn := by have := o1.len; simpa using this
  have hol : out.length = tn := by have := o2.len; simpa using this
  have hlen := congrArg List.length hrem
  rw [List.length_append, hlab] at hlen
  have hstl := remS_len ok st hst
  rw [r32_Euler_b1_eq]
  refine condP (fun hpos => ?_) (fun hneg => ?_)
  rotate_left
  · rw [r32_Euler_b3_eq]
    have : st = [] := List.eq_nil_of_length_eq_zero (by omega)
    subst this
    have hr : out = (ltx l 0).map Prod.fst := by rw [← hrem]; simp [remS]
    rw [← hr]
    refine ⟨x1.trans x3, _, _, _, rfl, ?_⟩
    have hx1 := x1.size
    rcases o2 with h5 | ⟨b, rest, h5, h6⟩
    · exact .inl h5
    · exact .inr ⟨b, rest, by omega, h6⟩
  obtain ⟨m, rfl⟩ : ∃ m, sn = m + 1 := ⟨sn - 1, by omega⟩
  obtain ⟨st', z, rfl⟩ : ∃ st' z, st = st' ++ [z] := by
    rcases List.eq_nil_or_concat st with h4 | ⟨L, z, h4⟩
    · subst h4; simp at hsl
    · exact ⟨L, z, by simpa using h4⟩
  have hst'l : st'.length = m := by simp at hsl; omega
  have hz := hst z (by simp)
  have e0 : Int.toNat (0 : Int) = 0 := rfl
  have e1 : (((m + 1 : Nat) : Int) - 1).toNat = m := by omega
  rw [e0, e1, Nat.sub_zero, Nat.sub_zero, subAddr_zero]
  refine ⟨⟨by omega, by omega⟩, ?_⟩
  have hcap := o1.cap
  have hget : (st' ++ [z]).getD (((m + 1 : Nat) : Int) - 1).toNat 0 = z := by
    rw [e1, List.getD_eq_getElem?_getD, List.getElem?_append_right (by omega), hst'l, Nat.sub_self]; rfl
  have hidx : ∀ {Q : Int → Prop}, Q z → (0 ≤ ((m + 1 : Nat) : Int) - 1 ∧ ((m + 1 : Nat) : Int) - 1 < ((m + 1 : Nat) : Int)) ∧ NN sp fun a1 => ∃ n1 : Int, cell h3 (a1.add (m * 1)) = some (.int .i64 n1) ∧ Q n1 := by
    intro Q hq
    have := idx_int (Q := Q) o1.rd (i := ((m + 1 : Nat) : Int) - 1) (by omega) (by omega) (by rw [hget]; exact hq)
    rwa [e1] at this
  refine hidx ?_
  refine ⟨⟨by omega, by omega⟩, ⟨by omega, by omega, by omega⟩, ?_⟩
  have hst' : ∀ z ∈ st', okI l z := fun y hy => hst y (by simp [hy])
  have oP : Own h3 h1.size 3 sp m sc (ints st') := by
    have hi : ints (st' ++ [z]) = ints st' ++ [.int .i64 z] := by simp [ints]
    rw [hi] at o1
    have := o1.pop
    rwa [subAddr_zero] at this
  rw [remS_snoc] at hrem
  have hzl1 := hz.1
  have hzl2 := hz.2
  refine condP (fun hzn => ?_) (fun hzp => ?_)
  · refine ⟨⟨by omega, by omega⟩, ?_⟩
    refine push_pre el_int o2 x3.size rfl (by omega) (fun b h4 x4 ha => ha) fun p' c' h5 o5 g5 fr5 => ?_
    have oP5 := oP.keep g5 hap
    refine ⟨⟨ext_grow x3 o2 g5, st', out ++ [((-1) - z).toNat], oP5, ?_, (hap.symm.fresh fr5 fun b hb => (oP.lt b hb).2).symm, hst', ?_⟩, by simp only; omega⟩
    · have : natV (out ++ [((-1) - z).toNat]) = natV out ++ [.int .i64 ((-1) - z)] := by
        have e5 : ((((-1) - z).toNat : Nat) : Int) = (-1) - z := by omega
        simp [natV, e5]
      rw [this]; exact o5
    · rw [List.append_assoc, ← hrem]
      unfold item
      rw [if_pos hzn]
  · obtain ⟨v, rfl⟩ := Int.eq_ofNat_of_zero_le (show 0 ≤ z by omega)
    have hv : v < l.length := by omega
    have hent := item_enter ok hv st'
    rw [remS_snoc] at hent
    have hokst : ∀ y ∈ st' ++ [(-1) - (v : Int)] ++ ((kids l v).map (fun k : Nat => (k : Int))).reverse, okI l y := by
      intro y hy
      simp only [List.mem_append, List.mem_reverse, List.mem_map] at hy
      rcases hy with (hy | hy) | ⟨k, hk, rfl⟩
      · exact hst' y hy
      · have : y = (-1) - (v : Int) := by simpa using hy
        subst this; exact ⟨by omega, by omega⟩
      · have := kid_gt ok hk; exact ⟨by omega, by omega⟩
    have hlen2 := remS_len ok _ hokst
    rw [hent] at hrem
    have hlen3 := congrArg List.length hrem
    rw [hlab] at hlen3
    simp only [List.length_append, List.length_cons, List.length_nil, List.length_reverse, List.length_map] at hlen2 hlen3
    refine push_pre el_int o2 x3.size rfl (by omega) (fun b h4 x4 ha => ha) fun p' c' h5 o5 g5 fr5 => ?_
    have x5 := ext_grow x3 o2 g5
    have oP5 := oP.keep g5 hap
    have hap5 : Apart sp p' := (hap.symm.fresh fr5 fun b hb => (oP.lt b hb).2).symm
    refine ⟨⟨by omega, by omega⟩, ?_⟩
    refine push_pre el_int oP5 x5.size rfl (by omega) (fun b h4 x4 ha => ha) fun p6 c6 h6 o6 g6 fr6 => ?_
    have x6 := ext_grow x5 oP5 g6
    have o5' := o5.keep g6 hap5.symm
    have hap6 : Apart p6 p' := hap5.fresh fr6 fun b hb => (o5.lt b hb).2
    refine ⟨_, _, _, (k1.ext x6).cell 0, ?_⟩
    refine (vChildren_ok ((r.ext x1).ext x6) ok hn (show v < n by omega)).mono fun v7 h7 ⟨x7, q, km, kd, hv7, ok7⟩ => ?_
    have hkl : (kids l v).length = km := by have := ok7.len; simpa using this
    refine ⟨_, _, _, hv7, ⟨by omega, by omega⟩, ?_⟩
    have x17 := x6.trans x7
    have hs7 := x7.size
    refine ⟨fun s h' => Ext h1 h' ∧ ∃ i : Nat, s.2.1 = (i : Int) - 1 ∧ i ≤ km ∧ Own h' h1.size 3 s.1.1 s.1.2.1 s.1.2.2 (ints (st' ++ [(-1) - (v : Int)] ++ (((kids l v).drop i).map (fun k : Nat => (k : Int))).reverse)) ∧ Own h' h1.size 3 p' (tn + 1) c' (natV (out ++ [v])) ∧
        Own h' h6.size 3 q km kd (natV (kids l v)) ∧ Apart s.1.1 p' ∧ Apart s.1.1 q, fun s _ => (s.2.1 + 1).toNat,
      ⟨x17, km, rfl, Nat.le_refl _, ?_, ?_, ok7, hap6, ?_⟩, ?_⟩
    · have : (kids l v).drop km = [] := List.drop_eq_nil_of_le (by omega)
      rw [this]
      have hi : ints (st' ++ [(-1) - (v : Int)] ++ (([] : List Nat).map (fun k : Nat => (k : Int))).reverse) = ints st' ++ [.int .i64 ((-1) - (v : Int))] := by simp [ints]
      rw [hi]
      exact o6.ext x7
    · have : natV (out ++ [v]) = natV out ++ [.int .i64 (v : Int)] := by simp [natV]
      rw [this]
      exact o5'.ext x7
    · intro a b ha hb e
      have h8 := (o6.lt a ha).2
      have h9 := (ok7.lt b hb).1
      omega
    rintro ⟨⟨up, un, uc⟩, si, _⟩ h8 ⟨x8, i, hi, hik, o8, o9, o10, hap8, hap9⟩
    simp only at hi o8 hap8 hap9
    subst hi
    dsimp only
    have hun : un = m + 1 + (km - i) := by
      have := o8.len
      simp only [List.length_map, List.length_append, List.length_cons, List.length_nil, List.length_reverse, List.length_drop] at this
      omega
    rw [r32_Euler_b2_eq]
    refine condP (fun hpos2 => ?_) (fun hneg2 => ?_)
    · obtain ⟨i', rfl⟩ : ∃ i', i = i' + 1 := ⟨i - 1, by omega⟩
      have hi' : ((i' + 1 : Nat) : Int) - 1 = (i' : Int) := by omega
      rw [hi']
      refine idx_int o10.rd (by omega) (by omega) ?_
      have hg : ((kids l v).map (fun k : Nat => (k : Int))).getD ((i' : Nat) : Int).toNat 0 = (((kids l v)[i']'(by omega) : Nat) : Int) := by simp [List.getD, show i' < (kids l v).length by omega]
      rw [hg]
      refine push_pre el_int o8 x8.size rfl (by omega) (fun b h4 x4 ha => ha) fun p11 c11 h11 o11 g11 fr11 => ?_
      rw [r32_Euler_b4_eq]
      refine ⟨⟨by omega, by omega⟩, ⟨ext_grow x8 o8 g11, i', rfl, by omega, ?_, o9.keep g11 hap8.symm, o10.keep g11 hap9.symm, hap8.fresh fr11 fun b hb => (o9.lt b hb).2, hap9.fresh fr11 fun b hb => (o10.lt b hb).2⟩, by simp only; omega⟩
      have hd : (kids l v).drop i' = (kids l v)[i']'(by omega) :: (kids l v).drop (i' + 1) := List.drop_eq_getElem_cons (by omega)
      have hi2 : ints (st' ++ [(-1) - (v : Int)] ++ (((kids l v).drop i').map (fun k : Nat => (k : Int))).reverse) = ints (st' ++ [(-1) - (v : Int)] ++ (((kids l v).drop (i' + 1)).map (fun k : Nat => (k : Int))).reverse) ++ [.int .i64 (((kids l v)[i']'(by omega) : Nat) : Int)] := by
        rw [hd]
        simp only [List.map_cons, List.reverse_cons, ints, List.map_append, List.append_assoc, List.map_nil]
      rw [hi2]; exact o11
    · have hi0 : i = 0 := by omega
      subst hi0
      rw [List.drop_zero] at o8
      refine ⟨⟨x8, _, out ++ [v], o8, o9, hap8, hokst, ?_⟩, by simp only; omega⟩
      rw [← hrem]; simp
end
end Go.Proofs.Ytmlfoefadmlhpaa
