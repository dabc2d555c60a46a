/- B-trees: the way down to a key. -/
import Derived.Test.YtaemnjblcpknpaaSxB2
set_option maxRecDepth 100000
namespace Go.Proofs.Ytaemnjblcpknpaa
open Go Go.Sx
abbrev Srt (l : List E) : Prop := l.Pairwise fun a b => a.1 < b.1
theorem Srt.app {a b : List E} : Srt (a ++ b) ↔ Srt a ∧ Srt b ∧ ∀ x ∈ a, ∀ y ∈ b, x.1 < y.1 := List.pairwise_append
theorem Srt.con {a : E} {b : List E} : Srt (a :: b) ↔ (∀ y ∈ b, a.1 < y.1) ∧ Srt b := List.pairwise_cons
def hasKey : List E → Int → Bool
  | [], _ => false
  | e :: _, key => decide (e.1 = key)
theorem wR_sub : ∀ (es : List E) (ks : List (List E)), ks.length = es.length → es.Sublist (wR es ks)
  | [], [], _ => List.Sublist.refl _
  | [], _ :: _, h => by simp at h
  | _ :: _, [], h => by simp at h
  | e :: es, k :: ks, h => (List.Sublist.trans (wR_sub es ks (by simpa using h)) (List.sublist_append_right k _)).cons_cons e
theorem weave_sub (ks : List (List E)) (es : List E) (h : ks.length = es.length + 1) : es.Sublist (weave ks es) := by
  cases ks with
  | nil => simp at h
  | cons k ks => exact (wR_sub es ks (by simpa using h)).trans (List.sublist_append_right k _)
theorem Hold.len {n b : Nat} {t : BT} {A : Bag} (h : Hold (n + 1) b t A) : t.ts.length = t.es.length + 1 := by
  obtain ⟨ks, A1, A2, rfl, h1, hl, h2⟩ := h
  rw [← h2.len, hl]
theorem Hold.sub {n b : Nat} {t : BT} {A : Bag} (h : Hold n b t A) : t.es.Sublist (flat n t) := by
  cases n with
  | zero => exact List.Sublist.refl _
  | succ n => exact weave_sub _ _ (by rw [List.length_map, h.len])
theorem Hold.node {n b : Nat} {t : BT} {A : Bag} (h : Hold n b t A) : ∃ ks A1 A2, A = A1 + A2 ∧ NodeA b t.es ks A1 ∧ (ks.length = 0 ↔ n = 0) ∧ (n ≠ 0 → ks.length = t.es.length + 1) := by
  cases n with
  | zero => exact ⟨[], A, 0, (Bag.add_zero A).symm, h.2, by simp, fun h => absurd rfl h⟩
  | succ n =>
    obtain ⟨ks, A1, A2, e, h1, hl, h2⟩ := h
    exact ⟨ks, A1, A2, e, h1, by simp; intro hk; subst hk; simp at hl, fun _ => hl⟩
theorem wL_lt {key : Int} : ∀ (ks : List (List E)) (es : List E), Srt (wL ks es) → (∀ e ∈ es, e.1 < key) → ∀ x ∈ wL ks es, x.1 < key
  | [], _, _, _, x, hx => by simp [wL] at hx
  | _ :: _, [], _, _, x, hx => by simp [wL] at hx
  | k :: ks, e :: es, hs, he, x, hx => by
    simp only [wL] at hs hx
    rw [Srt.app] at hs
    obtain ⟨_, h2, h3⟩ := hs
    rw [Srt.con] at h2
    rcases List.mem_append.1 hx with h | h
    · exact Int.lt_trans (h3 x h e (by simp)) (he e (by simp))
    · rcases List.mem_cons.1 h with rfl | h
      · exact he _ (by simp)
      · exact wL_lt ks es h2.2 (fun e h => he e (by simp [h])) x h
theorem wR_gt {key : Int} : ∀ (es : List E) (ks : List (List E)), Srt (wR es ks) → (∀ e ∈ es, key < e.1) → ∀ x ∈ wR es ks, key < x.1
  | [], _, _, _, x, hx => by simp [wR] at hx
  | _ :: _, [], _, _, x, hx => by simp [wR] at hx
  | e :: es, k :: ks, hs, he, x, hx => by
    simp only [wR] at hs hx
    rw [Srt.con] at hs
    rcases List.mem_cons.1 hx with rfl | h
    · exact he _ (by simp)
    · exact Int.lt_trans (he e (by simp)) (hs.1 x h)
theorem key_gt {es : List E} {key : Int} (hs : Srt es) (hk : ∀ e ∈ es, key ≤ e.1) (hn : hasKey es key = false) : ∀ e ∈ es, key < e.1 := by
  cases es with
  | nil => simp
  | cons e es =>
    rw [Srt.con] at hs
    have h1 : e.1 ≠ key := by simpa [hasKey] using hn
    have h2 := hk e (by simp)
    intro x hx
    rcases List.mem_cons.1 hx with rfl | h
    · omega
    · have := hs.1 x h; omega
theorem at_fst (es : List E) (i : Nat) : at_ (es.map Prod.fst) i = (es.getD i (0, 0)).1 := by simp [at_, List.getD, List.getElem?_map]; cases es[i]? <;> rfl
theorem search_ok {h : Hp} {p : Option Addr} {n c : Nat} {es : List E} {key : Int} (r : RdT TI h p n (es.map Prod.fst)) (hn : n ≤ 1000000) (hs : Srt es) :
    HCalls Try.prog 67 #[.slice p n c, .int .i64 key] h (fun v h' => h' = h ∧ ∃ eL eR, es = eL ++ eR ∧ (∀ e ∈ eL, e.1 < key) ∧ (∀ e ∈ eR, key ≤ e.1) ∧ v = .tuple #[.int .i64 (eL.length : Int), .bool (hasKey eR key)]) := by
  have hl : es.length = n := by have := r.len; simpa using this
  have inc : Inc (es.map Prod.fst) := by
    intro i j hij hj
    rw [List.length_map] at hj
    rw [at_get (by rw [List.length_map]; omega), at_get (by rw [List.length_map]; omega), List.getElem_map, List.getElem_map]
    exact List.pairwise_iff_getElem.1 hs i j (by omega) hj hij
  refine (Search_ok r.ints hn inc).mono fun v h' ⟨hh, i, ⟨hi, lo, hi2⟩, hv⟩ => ⟨hh, es.take i, es.drop i, (List.take_append_drop i es).symm, ?_, ?_, ?_⟩
  · intro e he
    obtain ⟨j, hj, rfl⟩ := List.getElem_of_mem he
    rw [List.length_take] at hj
    have := lo j (by omega)
    rw [at_get (by rw [List.length_map]; omega), List.getElem_map] at this
    rw [List.getElem_take]; exact this
  · intro e he
    obtain ⟨j, hj, rfl⟩ := List.getElem_of_mem he
    rw [List.length_drop] at hj
    have := hi2 (i + j) (by omega) (by rw [List.length_map]; omega)
    rw [at_get (by rw [List.length_map]; omega), List.getElem_map] at this
    rw [List.getElem_drop]; exact this
  · rw [List.length_map] at hi
    rw [hv, List.length_take, Nat.min_eq_left hi]
    congr 4
    rcases Nat.lt_or_ge i es.length with h1 | h1
    · rw [List.drop_eq_getElem_cons h1]
      show Value.bool (decide (i < n ∧ at_ (es.map Prod.fst) i = key)) = Value.bool (decide (es[i].1 = key))
      have e : at_ (es.map Prod.fst) i = es[i].1 := by rw [at_get (by rw [List.length_map]; omega), List.getElem_map]
      rw [e]
      by_cases h2 : es[i].1 = key
      · rw [decide_eq_true h2, decide_eq_true ⟨by omega, h2⟩]
      · rw [decide_eq_false h2, decide_eq_false (fun h => h2 h.2)]
    · rw [List.drop_of_length_le h1, decide_eq_false (by omega)]; rfl
/-- A way down to a key. -/
structure Way (key : Int) (lo hi root n : Nat) (t : BT) (A : Bag) (m : Nat) (fs : List Fr) (k : Nat) (u : BT) (Ac Au : Bag) : Prop where
  bag : A = Ac + Au
  ctx : HoldC root m fs k Ac
  sub : Hold m k u Au
  plug : plug fs u = t
  hgt : m + fs.length = n
  szc : SzC lo hi m fs
  szb : SzB lo hi m fs u
  lt : ∀ x ∈ Lb m fs, x.1 < key
  gt : ∀ x ∈ Rb m fs, key < x.1
  srt : Srt (flat m u)
abbrev blks (fs : List Fr) : List Nat := (fs.map Fr.b).reverse
abbrev idxs (fs : List Fr) : List Int := (fs.map fun f => (f.eL.length : Int)).reverse
theorem Way.step {key : Int} {lo hi root n m k : Nat} {t u : BT} {A Ac Au : Bag} {fs : List Fr} {eL eR : List E} (w : Way key lo hi root n t A (m + 1) fs k u Ac Au) (he : u.es = eL ++ eR) (hl : ∀ e ∈ eL, e.1 < key) (hr : ∀ e ∈ eR, key ≤ e.1) (hn : hasKey eR key = false) :
    ∃ f k' u' Ac' Au', f.b = k ∧ f.eL = eL ∧ f.eR = eR ∧ fill f u' = u ∧ f.kL.length = eL.length ∧ Way key lo hi root n t A m (f :: fs) k' u' Ac' Au' := by
  have hes : Srt u.es := w.srt.sublist w.sub.sub
  obtain ⟨f, k', u', A1, A2, hb, hfL, hfR, hf, rfl, h1, h2, hkl⟩ := w.sub.down he rfl
  refine ⟨f, k', u', A1 + Ac, A2, hb, hfL, hfR, hf, hkl, ?_⟩
  have hsrt := w.srt
  rw [← hf, flat_fill u' h1.1, Srt.app, Srt.app] at hsrt
  rw [he, Srt.app] at hes
  refine ⟨by rw [w.bag]; ac_rfl, ⟨A1, Ac, rfl, h1, by rw [hb]; exact w.ctx⟩, h2, by show Go.Proofs.Ytaemnjblcpknpaa.plug fs (fill f u') = t; rw [hf]; exact w.plug, by have := w.hgt; simp; omega, (w.szb.down hf w.szc).1, (w.szb.down hf w.szc).2.b, ?_, ?_, hsrt.2.1.1⟩
  · intro x hx
    simp only [Lb, List.mem_append] at hx
    rcases hx with h | h
    · exact w.lt x h
    · exact wL_lt _ _ hsrt.1 (by rw [hfL]; exact hl) x h
  · intro x hx
    simp only [Rb, List.mem_append] at hx
    rcases hx with h | h
    · exact wR_gt _ _ hsrt.2.1.2.1 (by rw [hfR]; exact key_gt hes.2.1 hr hn) x h
    · exact w.gt x h
theorem Way.start {key : Int} {lo hi root n : Nat} {t : BT} {A : Bag} (x : Hold n root t A) (so : Srt (flat n t)) (sz : SzR lo hi n t) : Way key lo hi root n t A n [] root t 0 A :=
  ⟨(Bag.zero_add A).symm, ⟨rfl, rfl⟩, x, rfl, rfl, trivial, sz.b, fun _ h => (nomatch h), fun _ h => (nomatch h), so⟩
theorem HoldF.kid {h0 h : Hp} {n k : Nat} {f : Fr} {A F : Bag} (hf : HoldF n f k A) (s : St h0 h (A + F)) : ∃ p L c, cell h ((⟨f.b, 0, none⟩ : Addr).add 2) = some (.slice p L c) ∧ RdT TP h p L (f.kL ++ k :: f.kR) ∧ L = (f.kL ++ k :: f.kR).length := by
  obtain ⟨_, _, A1, A2, A3, rfl, h1, h2, h3⟩ := hf
  obtain ⟨p1, p2, p3, c1, c2, c3, C1, C2, C3, rfl, ns⟩ := h1
  exact ⟨_, _, _, (s.at (nodeC f.b (f.eL ++ f.eR).length (f.kL ++ k :: f.kR).length p1 p2 p3 c1 c2 c3)).cellA 2, ns.s3.rd (s.at C3), rfl⟩
theorem path_ok {h0 h : Hp} {ta : Addr} {n root lo hi : Nat} {t : BT} {key : Int} {A F : Bag} (ht : cell h (ta.add 2) = some (ptr root)) (x : Hold n root t A) (s : St h0 h (A + F)) (so : Srt (flat n t)) (sz : SzR lo hi n t) (hhi : hi ≤ 1000) (hn : n ≤ 1000) :
    HCalls Try.prog 41 #[.pointer (some ta), .int .i64 key] h (fun v h' => ∃ m fs k u Ac Au eL eR q1 q2 d1 d2 B1 B2, v = .tuple #[.slice q1 (fs.length + 1) d1, .slice q2 (fs.length + 1) d2, .bool (hasKey eR key)] ∧
      St h h' (B1 + B2) ∧ Sl TP q1 (fs.length + 1) d1 (blks fs ++ [k]) B1 ∧ Sl TI q2 (fs.length + 1) d2 (idxs fs ++ [(eL.length : Int)]) B2 ∧
      Way key lo hi root n t A m fs k u Ac Au ∧ u.es = eL ++ eR ∧ (∀ e ∈ eL, e.1 < key) ∧ (∀ e ∈ eR, key ≤ e.1) ∧ (hasKey eR key = true ∨ m = 0)) := by
  refine btree_Tree_path_call ?_
  rw [btree_Tree_path_b0_eq]
  refine ⟨_, ht, ?_⟩
  refine ⟨fun st h' => ∃ m fs k u Ac Au B1 B2, st.2.2.1 = some ⟨k, 0, none⟩ ∧ St h h' (B1 + B2) ∧ Sl TP st.1.1 fs.length st.1.2.2 (blks fs) B1 ∧ Sl TI st.2.1.1 fs.length st.2.1.2.2 (idxs fs) B2 ∧ st.1.2.1 = fs.length ∧ st.2.1.2.1 = fs.length ∧
      Way key lo hi root n t A m fs k u Ac Au, fun st _ => n + 1 - st.1.2.1, ?_, ?_⟩
  · exact ⟨n, [], root, t, 0, A, 0, 0, rfl, (St.start h).to, Sl.nil, Sl.nil, rfl, rfl, Way.start x so sz⟩
  rintro ⟨⟨q1, n1, c1⟩, ⟨q2, n2, c2⟩, pv, _⟩ h1 ⟨m, fs, k, u, Ac, Au, B1, B2, hpv, s1, o1, o2, hn1, hn2, w⟩
  simp only at hpv o1 o2 hn1 hn2
  subst hpv hn1 hn2
  dsimp only
  have hfn := w.hgt
  obtain ⟨ks, A1, A2, hA, hna, hk0, hkl⟩ := w.sub.node
  have hna0 := hna
  obtain ⟨p1, p2, p3, e1, e2, e3, C1, C2, C3, rfl, ns⟩ := hna
  have bagA : A + F = nodeC k u.es.length ks.length p1 p2 p3 e1 e2 e3 + (C1 + (C2 + C3)) + (A2 + (Ac + F)) := by rw [w.bag, hA]; ac_rfl
  have sA : St h0 h (nodeC k u.es.length ks.length p1 p2 p3 e1 e2 e3 + (C1 + (C2 + C3)) + (A2 + (Ac + F))) := bagA ▸ s
  have kb : Blk h k [.slice p1 u.es.length e1, .slice p2 u.es.length e2, .slice p3 ks.length e3] 89 := (sA.at (nodeC k u.es.length ks.length p1 p2 p3 e1 e2 e3)).blk
  have hule := w.szb.1.2
  have rk : RdT TI h p1 u.es.length (u.es.map Prod.fst) := ns.s1.rd (sA.at C1)
  rw [btree_Tree_path_b1_eq]
  refine condYes rfl ⟨_, _, _, (kb.ext s1.ext).cell 0, ?_⟩
  refine (search_ok (key := key) (rk.ext s1.ext) (by omega) (w.srt.sublist w.sub.sub)).mono fun v2 h2 ⟨hh, eL, eR, he, hl, hr, hv2⟩ => ?_
  subst hh
  refine ⟨_, _, hv2, ?_⟩
  refine push_sl ok_node s1 o1 (x := k) rfl rfl (by omega) fun q3 c3 h4 B3 o3 s3 => ?_
  have s3 := s3.to (B := B2 + B3)
  refine push_sl ok_int s3 o2 (x := (eL.length : Int)) rfl rfl (by omega) fun q4 c4 h6 B4 o4 s4 => ?_
  have s4 := s4.to (B := B3 + B4)
  refine cond_intro (fun hf => ?_) (fun hf => ?_)
  · exact ⟨m, fs, k, u, Ac, Au, eL, eR, _, _, _, _, _, _, rfl, s4, o3, o4, w, he, hl, hr, .inl hf⟩
  refine (leaf_ok (sA.grow s4.ext) hna0).mono fun v7 h7 ⟨hh, hv7⟩ => ?_
  subst hh
  refine ⟨_, hv7, condP (fun hz => ?_) (fun hz => ?_)⟩
  · exact ⟨m, fs, k, u, Ac, Au, eL, eR, _, _, _, _, _, _, rfl, s4, o3, o4, w, he, hl, hr, .inr (hk0.1 hz)⟩
  obtain ⟨m', rfl⟩ : ∃ m', m = m' + 1 := ⟨m - 1, by have : m ≠ 0 := fun h => hz (hk0.2 h); omega⟩
  rw [btree_Tree_path_b2_eq]
  obtain ⟨f, k', u', Ac', Au', hb, hfL, hfR, hfill, hkL, w'⟩ := w.step he hl hr hf
  have w0 := w'
  obtain ⟨D1, D2, rfl, hF, _⟩ := w'.ctx
  have sF : St h0 h (D1 + (D2 + (Au' + F))) := (w0.bag ▸ s : St h0 h (D1 + D2 + Au' + F)).to
  have rr := hF.kid sF
  obtain ⟨q, L, C, hc, rp, hlen⟩ := rr
  rw [hb] at hc
  have hgl : (f.kL ++ k' :: f.kR).getD eL.length 0 = k' := by simp [List.getD, ← hkL]
  refine ⟨_, _, C, ?_, (rp.ext s4.ext).ptr (by omega) (by rw [hlen, List.length_append, List.length_cons]; omega) ?_⟩
  · have := s4.ext.cell hc; exact this
  rw [Int.toNat_natCast, hgl]
  refine ⟨⟨m', f :: fs, k', u', _, Au', B3, B4, rfl, s4, ?_, ?_, rfl, rfl, w0⟩, ?_⟩
  · simp only [blks, List.map_cons, List.reverse_cons, hb, List.length_cons]; exact o3
  · simp only [idxs, List.map_cons, List.reverse_cons, hfL]; exact o4
  · simp only [List.length_cons]; omega
end Go.Proofs.Ytaemnjblcpknpaa
