/- Part T3 of the proof: contracts of functions of the program, and what follows from them. -/
import Derived.Test.YtmlfoefadmlhpaaSxT2
set_option maxRecDepth 10000
namespace Go.Proofs.Ytmlfoefadmlhpaa
open Go Go.Sx

/-- A tree in the heap. -/
structure TreeH (h : Hp) (a : Addr) (b : List Bool) : Prop where
  vec : ∃ v, cell h a = some (.pointer (some v)) ∧ Vec h v b
  n : cell h (a.add 1) = some (.int .i64 ((b.length / 2 : Nat) : Int))
theorem TreeH.ext {h h' : Hp} {a : Addr} {b : List Bool} (t : TreeH h a b) (x : Ext h h') : TreeH h' a b := by
  obtain ⟨v, h1, h2⟩ := t.vec
  exact ⟨⟨v, x.cell h1, h2.ext x⟩, x.cell t.n⟩

theorem made_ok {h : Hp} {p : Option Addr} {n c : Nat} {b : List Bool} (r : Rd h p n (b.map Value.bool)) (hn : n ≤ 65536) :
    HCalls Try.prog 55 #[.slice p n c] h (fun v h' => Ext h h' ∧ ∃ a, v = .tuple #[.pointer (some a), .int .i64 0] ∧ LocH h.size h' (fun g => TreeH g a b)) := by
  have hbl : b.length = n := by have := r.len; simpa using this
  refine succinct_made_call ?_
  rw [succinct_made_b0_eq]
  refine (Make_loc r hn).mono fun v h1 ⟨x, a, hv, la⟩ => ?_
  refine ⟨_, _, hv, condN (fun hne => absurd rfl hne) fun _ => ?_⟩
  refine quo_intro (by omega) (by omega) (by omega) ?_
  have hx := x.size
  refine New_intro (cs := [.pointer (some a), .int .i64 ((n : Int) / 2)]) fun b1 h2 hb1 x2 k2 z2 => ?_
  refine ⟨x.trans x2, _, rfl, ?_⟩
  have l1 := (la.ext x2).and (LocH.blk k2 (base := h.size) (by omega))
  refine l1.mono fun g ⟨g1, g2⟩ => ⟨⟨a, g2.cell 0, g1⟩, ?_⟩
  rw [add_mk, hbl, show ((n / 2 : Nat) : Int) = (n : Int) / 2 by omega]
  exact g2.cell 1

abbrev natV (ks : List Nat) : List Value := (ks.map (fun k : Nat => (k : Int))).map (Value.int .i64)

/-! ### the walk -/
/-- The heap hr, with bits appended. -/
structure WalkS (hr : Hp) (bB : Nat) (h : Hp) (b : List Bool) : Prop where
  size : hr.size ≤ h.size
  same : ∀ k, k < hr.size → k ≠ bB → h[k]? = hr[k]?
  own : ∃ q m c, Blk h bB [.slice q m c] 52 ∧ Own h hr.size 4 q m c (b.map Value.bool)
theorem pushBit {hr : Hp} {bB : Nat} {h : Hp} {b : List Bool} {x : Bool} {k : Hp → Prop} (w : WalkS hr bB h b) (hB : bB < hr.size) (hl : b.length < 1099511627776) (hk : ∀ h', WalkS hr bB h' (b ++ [x]) → k h') :
    ∃ (q : Option Addr) (m c : Nat), cell h ⟨bB, 0, none⟩ = some (.slice q m c) ∧ New h (.cells #[.bool x] 4) fun b1 h1 => appendV Try.prog 52 52 (.slice q m c) (.slice (some ⟨b1, 0, none⟩) 1 1) h1 (slK fun a3 l1 c1 h2 => Wr h2 ⟨bB, 0, none⟩ (.slice a3 l1 c1) k) := by
  obtain ⟨q, m, c, hb, ho⟩ := w.own
  have hm := ho.len
  have hsz := w.size
  refine ⟨q, m, c, hb.cell 0, ?_⟩
  refine push_own el_bool ho w.size rfl (by simp at hm; omega) fun p' c' h2 ho2 hg => ?_
  have hb2 := hb.same (hg.same bB hb.lt fun a ha => by have := (ho.lt a ha).1; omega)
  have hgs := hg.size
  refine Wr_intro rfl hb2 (by simp) fun h3 hz3 hs3 hb3 => hk h3 ⟨by omega, fun k hk hne => ?_, p', m + 1, c', hb3, ?_⟩
  · rw [hs3 k hne, hg.same k (by omega) fun a ha => by have := (ho.lt a ha).1; omega]
    exact w.same k hk hne
  · rw [List.map_append]
    exact ho2.same fun a ha => hs3 _ (by have := (ho2.lt a ha).1; omega)

/-- What the walk reads. -/
structure WalkR (hr : Hp) (bB b2 b5 b1 : Nat) (l : List Int) (bs : Nat → Option Addr × Nat × Nat) : Prop where
  lt : bB < hr.size
  below : cell hr ⟨b2, 0, none⟩ = some (.slice (some ⟨b1, 0, none⟩) l.length l.length)
  arr : ∀ v, v < l.length → cell hr ⟨b1, v, none⟩ = some (.slice (bs v).1 (bs v).2.1 (bs v).2.2)
  kids : ∀ v, v < l.length → Rd hr (bs v).1 (bs v).2.1 (natV (kids l v))
  walk : cell hr ⟨b5, 0, none⟩ = some (.func (.func 57) #[] #[.pointer (some ⟨bB, 0, none⟩), .pointer (some ⟨b2, 0, none⟩), .pointer (some ⟨b5, 0, none⟩)])
  n2 : b2 ≠ bB
  n5 : b5 ≠ bB
  n1 : b1 ≠ bB
  nk : ∀ v, v < l.length → ∀ a, (bs v).1 = some a → a.block ≠ bB

theorem flat_take {α : Type} (f : α → List Bool) (ks : List α) {j : Nat} (hj : j < ks.length) : (((ks.take j).map f).flatten).length + (f ks[j]).length ≤ ((ks.map f).flatten).length := by
  have e : ks = ks.take j ++ ks[j] :: ks.drop (j + 1) := by rw [← List.drop_eq_getElem_cons hj, List.take_append_drop]
  have : ((ks.map f).flatten).length = (((ks.take j ++ ks[j] :: ks.drop (j + 1)).map f).flatten).length := by rw [← e]
  rw [this]
  simp only [List.map_append, List.flatten_append, List.length_append, List.map_cons, List.flatten_cons]
  omega

theorem walk_ok {hr : Hp} {bB b2 b5 b1 : Nat} {l : List Int} {bs : Nat → Option Addr × Nat × Nat} (R : WalkR hr bB b2 b5 b1 l bs) (ok : okP l) (hn : l.length ≤ 1000) : ∀ (m v : Nat) (h : Hp) (b : List Bool), l.length - v = m → v < l.length → WalkS hr bB h b →
    b.length + (txt l v).length ≤ 100000 → HCalls Try.prog 57 #[.int .i64 (v : Int), .pointer (some ⟨bB, 0, none⟩), .pointer (some ⟨b2, 0, none⟩), .pointer (some ⟨b5, 0, none⟩)] h (fun r h' => r = .tuple #[] ∧ WalkS hr bB h' (b ++ txt l v)) := by
  intro m
  induction m using Nat.strongRecOn with
  | _ m ihm =>
    intro v h b hm hv w hlen
    have te := txt_eq ok hv
    have tl : (txt l v).length = (((kids l v).map (txt l)).flatten).length + 2 := by rw [te]; simp
    refine succinct_MakeTree_c1_call ?_
    rw [succinct_MakeTree_c1_b0_eq]
    refine pushBit w R.lt (by omega) fun h3 w3 => ?_
    have rd : ∀ {h : Hp} {b : List Bool} {a : Addr} {x : Value}, WalkS hr bB h b → a.block ≠ bB → cell hr a = some x → cell h a = some x := by
      intro h b a x w hne hc
      rw [cell_same (w.same _ (cell_lt hc) hne)]; exact hc
    refine ⟨_, _, _, rd w3 R.n2 R.below, ⟨by omega, by omega⟩, ?_⟩
    refine ⟨_, _, _, rd w3 (by rw [add_mk]; exact R.n1) (by rw [add_mk, show 0 + ((v : Int).toNat) * 1 = v by omega]; exact R.arr v hv), ?_⟩
    have hkn : (kids l v).length ≤ l.length := by unfold kids; exact Nat.le_trans (List.length_filter_le _ _) (by simp)
    have hkl : (kids l v).length = (bs v).2.1 := by have := (R.kids v hv).len; simpa using this
    refine ⟨fun s h' => ∃ j : Nat, s.1 = j ∧ j ≤ (kids l v).length ∧ WalkS hr bB h' (b ++ [true] ++ (((kids l v).take j).map (txt l)).flatten), fun s _ => ((kids l v).length - s.1).toNat, ⟨0, rfl, by omega, by simpa using w3⟩, ?_⟩
    rintro ⟨sj, _⟩ h4 ⟨j, hj, hjk, w4⟩
    simp only at hj
    subst hj
    dsimp only
    rw [succinct_MakeTree_c1_b1_eq]
    refine condP (fun hlt => ?_) (fun hge => ?_)
    · have hjl : j < (kids l v).length := by omega
      have hc := kid_gt ok (List.getElem_mem hjl)
      have rk : Rd h4 (bs v).1 (bs v).2.1 (natV (kids l v)) := by
        by_cases h0 : (bs v).2.1 = 0
        · exact ⟨(R.kids v hv).1, .inl h0⟩
        · rcases (R.kids v hv).2 with h1 | ⟨a, ha, hcell⟩
          · exact absurd h1 h0
          · refine ⟨(R.kids v hv).1, .inr ⟨a, ha, fun i hi => ?_⟩⟩
            have h2 := hcell i hi
            have hil : i < (natV (kids l v)).length := by simpa [natV, hkl] using hi
            rw [List.getElem?_eq_getElem hil] at h2 ⊢
            exact rd w4 (by rw [add_block]; exact R.nk v hv a ha) h2
      refine idx_int rk (by omega) (by omega) ?_
      have hg : ((kids l v).map (fun k : Nat => (k : Int))).getD ((j : Int)).toNat 0 = (((kids l v)[j] : Nat) : Int) := by simp [List.getD, hjl]
      rw [hg]
      refine ⟨_, rd w4 R.n5 R.walk, ?_⟩
      have ft := flat_take (txt l) (kids l v) hjl
      refine (ihm (l.length - (kids l v)[j]) (by omega) (kids l v)[j] h4 _ rfl hc.2 w4 (by simp only [List.length_append, List.length_cons, List.length_nil]; omega)).mono fun r h5 ⟨hr5, w5⟩ => ?_
      refine ⟨hr5, ?_⟩
      rw [succinct_MakeTree_c1_b2_eq]
      refine ⟨⟨by omega, by omega⟩, ⟨j + 1, by simp only; omega, by omega, ?_⟩, by simp only; omega⟩
      have : (((kids l v).take (j + 1)).map (txt l)).flatten = (((kids l v).take j).map (txt l)).flatten ++ txt l (kids l v)[j] := by
        rw [List.take_succ_eq_append_getElem hjl, List.map_append, List.flatten_append]; simp
      rw [this, ← List.append_assoc]
      exact w5
    · rw [succinct_MakeTree_c1_b3_eq]
      have hjk' : j = (kids l v).length := by omega
      subst hjk'
      rw [List.take_of_length_le (Nat.le_refl _)] at w4
      refine pushBit w4 R.lt (by simp only [List.length_append, List.length_cons, List.length_nil]; omega) fun h8 w8 => ⟨rfl, ?_⟩
      have : b ++ txt l v = b ++ [true] ++ ((kids l v).map (txt l)).flatten ++ [false] := by rw [te]; simp
      rw [this]; exact w8
end Go.Proofs.Ytmlfoefadmlhpaa
