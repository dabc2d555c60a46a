/- Part T4 of the proof: contracts of functions of the program, and what follows from them. -/
import Derived.Test.YtmlfoefadmlhpaaSxT3
set_option maxRecDepth 10000
namespace Go.Proofs.Ytmlfoefadmlhpaa
open Go Go.Sx

theorem el_ints : (repL 1 [Value.slice none 0 0]).length = 1 := by simp [repL]

theorem MakeTree_ok {h : Hp} {p : Option Addr} {n c : Nat} {l : List Int} (r : Rd h p n (ints l)) (hn : n ≤ 4611686018427387904) (hnc : n ≤ c) :
    HCalls Try.prog 30 #[.slice p n c] h (fun v h' => Ext h h' ∧ ((okP l ∧ n ≤ 1000 ∧ ∃ a, v = .tuple #[.pointer (some a), .int .i64 0] ∧ LocH h.size h' (fun g => TreeH g a (txt l 0))) ∨
      (okP l ∧ 1000 < n ∧ v = .tuple #[.pointer none, .int .i64 4]) ∨ (¬ okP l ∧ v = .tuple #[.pointer none, .int .i64 1]))) := by
  have hzl : l.length = n := by have := r.len; simpa using this
  refine succinct_MakeTree_call ?_
  rw [succinct_MakeTree_b0_eq]
  refine condP (fun h0 => ⟨Ext.refl _, .inr (.inr ⟨fun ok => by have := ok.1; omega, rfl⟩)⟩) (fun h0 => ?_)
  refine idx_int r (by omega) (by omega) ?_
  rw [show ((0 : Int)).toNat = 0 by rfl]
  refine condN (fun hne => ⟨Ext.refl _, .inr (.inr ⟨fun ok => hne ok.2.1, rfl⟩)⟩) (fun h1 => ?_)
  rw [succinct_MakeTree_b1_eq]
  refine ⟨⟨by omega, by omega, by omega⟩, ?_⟩
  have rs : Rd h (subAddr p c (Int.toNat (1 : Int)) 1) (Int.toNat (n : Int) - Int.toNat (1 : Int)) ((ints l).drop 1) := r.sub (i := 1) (by omega) hnc (by simp)
  have rs' : Rd h (subAddr p c (Int.toNat (1 : Int)) 1) (Int.toNat (n : Int) - Int.toNat (1 : Int)) (ints (l.drop 1)) := by rw [← List.map_drop] at rs; exact rs
  refine ⟨fun s h' => h' = h ∧ ∃ i : Nat, s.1 = i ∧ i + 1 ≤ n ∧ ∀ t, 0 < t → t < i + 1 → 0 ≤ at_ l t ∧ at_ l t < (t : Int), fun s _ => (n - s.1).toNat, ⟨rfl, 0, rfl, by omega, by omega⟩, ?_⟩
  rintro ⟨si, _⟩ h' ⟨rfl, i, hi, hin, hall⟩
  simp only at hi
  subst hi
  dsimp only
  rw [succinct_MakeTree_b2_eq]
  have e : ((i : Nat) : Int).toNat = i := by simp
  refine condP (fun hlt => ?_) (fun hge => ?_)
  · refine idx_int rs' (by omega) (by omega) ?_
    have hd : (l.drop 1).getD ((i : Int)).toNat 0 = at_ l (i + 1) := by simp [at_, List.getD]
    rw [hd]
    refine condP (fun h2 => ⟨Ext.refl _, .inr (.inr ⟨fun ok => ?_, rfl⟩)⟩) (fun h2 => ?_)
    · have := (ok.2.2 (i + 1) (by omega) (by omega)).1; omega
    refine condP (fun h3 => ⟨Ext.refl _, .inr (.inr ⟨fun ok => ?_, rfl⟩)⟩) (fun h3 => ?_)
    · have := (ok.2.2 (i + 1) (by omega) (by omega)).2; omega
    rw [succinct_MakeTree_b3_eq]
    refine ⟨⟨by omega, by omega⟩, ⟨rfl, i + 1, by simp only; omega, by omega, fun t ht0 ht => ?_⟩, by simp only; omega⟩
    rcases Nat.lt_or_ge t (i + 1) with h4 | h4
    · exact hall t ht0 h4
    · obtain rfl : t = i + 1 := by omega
      exact ⟨by omega, by omega⟩
  · have ok : okP l := ⟨by omega, h1, fun t ht0 ht => hall t ht0 (by omega)⟩
    clear rs rs' hall hge hin e i
    rw [succinct_MakeTree_b4_eq]
    refine condP (fun hbig => ⟨Ext.refl _, .inr (.inl ⟨ok, by omega, rfl⟩)⟩) (fun hbig => ?_)
    refine ⟨⟨by omega, by omega, by omega, by omega⟩, ?_⟩
    rw [show Int.toNat (n : Int) = n by simp, Nat.mul_one, repL_one]
    refine New_intro fun b1 h2 hb1 x2 k2 z2 => ?_
    refine New_intro (cs := [.slice none 0 0]) fun b2 h3 hb2 x3 k3 z3 => ?_
    refine Wr_intro rfl k3 (by simp) fun h4 hz4 hs4 k4 => ?_
    have k4 : Blk h4 b2 [.slice (some ⟨b1, 0, none⟩) n n] 82 := k4
    have hb1l := k2.lt
    have x4 : Ext h' h4 := ⟨by omega, fun k hk => by rw [hs4 k (by omega), x3.same k (by omega)]; exact x2.same k hk⟩
    have k4a : Blk h4 b1 ((List.range n).map fun _ => Value.slice none 0 0) 22 := by
      have := (k2.ext x3).same (hs4 b1 (by omega))
      have e : List.replicate n (Value.slice none 0 0) = (List.range n).map fun _ => Value.slice none 0 0 := by
        apply List.ext_getElem <;> simp
      rwa [e] at this
    refine ⟨fun s h' => ∃ i : Nat, s.1 = i ∧ i ≤ n ∧ h4.size ≤ h'.size ∧ (∀ k, k < h4.size → k ≠ b1 → h'[k]? = h4[k]?) ∧ ∃ bs : Nat → Option Addr × Nat × Nat, Blk h' b1 ((List.range n).map fun v => .slice (bs v).1 (bs v).2.1 (bs v).2.2) 22 ∧
        (∀ v, v < n → Own h' h4.size 3 (bs v).1 (bs v).2.1 (bs v).2.2 (natV (kidsTo l v i))) ∧ (∀ v w, v < n → w < n → v ≠ w → ∀ a b, (bs v).1 = some a → (bs w).1 = some b → a.block ≠ b.block),
      fun s _ => (n - s.1).toNat, ⟨0, rfl, by omega, Nat.le_refl _, fun _ _ _ => rfl, fun _ => (none, 0, 0), k4a, fun v _ => .inl ⟨rfl, rfl, rfl, rfl⟩, fun _ _ _ _ _ _ _ ha => by cases ha⟩, ?_⟩
    rintro ⟨si, _⟩ h5 ⟨i, hi, hin, hsz, hsame, bs, harr, hown, hdis⟩
    simp only at hi
    subst hi
    dsimp only
    rw [succinct_MakeTree_b5_eq]
    have e : ((i : Nat) : Int).toNat = i := by simp
    have k5 : Blk h5 b2 [.slice (some ⟨b1, 0, none⟩) n n] 82 := k4.same (hsame b2 k4.lt (by omega))
    have x5 : Ext h' h5 := ⟨by have := x4.size; omega, fun k hk => by rw [hsame k (by have := x4.size; omega) (by omega)]; exact x4.same k hk⟩
    refine condP (fun hlt => ?_) (fun hge => ?_)
    · refine idx_int (r.ext x5) (by omega) (by omega) ?_
      rw [e]
      have hnext : ∀ {K : Value → Hp → Prop} (h6 : Hp) (bs' : Nat → Option Addr × Nat × Nat), h4.size ≤ h6.size → (∀ k, k < h4.size → k ≠ b1 → h6[k]? = h4[k]?) → Blk h6 b1 ((List.range n).map fun v => .slice (bs' v).1 (bs' v).2.1 (bs' v).2.2) 22 →
          (∀ v, v < n → Own h6 h4.size 3 (bs' v).1 (bs' v).2.1 (bs' v).2.2 (natV (kidsTo l v (i + 1)))) → (∀ v w, v < n → w < n → v ≠ w → ∀ a b, (bs' v).1 = some a → (bs' w).1 = some b → a.block ≠ b.block) →
          succinct_MakeTree_b6 (some ⟨b2, 0, none⟩) p n c (n : Int) (i : Int) h6 (fun s' h'' => (∃ i : Nat, s'.1 = i ∧ i ≤ n ∧ h4.size ≤ h''.size ∧ (∀ k, k < h4.size → k ≠ b1 → h''[k]? = h4[k]?) ∧ ∃ bs : Nat → Option Addr × Nat × Nat, Blk h'' b1 ((List.range n).map fun v => .slice (bs v).1 (bs v).2.1 (bs v).2.2) 22 ∧
        (∀ v, v < n → Own h'' h4.size 3 (bs v).1 (bs v).2.1 (bs v).2.2 (natV (kidsTo l v i))) ∧ (∀ v w, v < n → w < n → v ≠ w → ∀ a b, (bs v).1 = some a → (bs w).1 = some b → a.block ≠ b.block)) ∧ (n - s'.1).toNat < (n - (i : Int)).toNat) K := by
        intro K h6 bs' g1 g2 g3 g4 g5
        rw [succinct_MakeTree_b6_eq]
        exact ⟨⟨by omega, by omega⟩, ⟨i + 1, by simp only; omega, by omega, g1, g2, bs', g3, g4, g5⟩, by simp only; omega⟩
      refine condP (fun hpos => ?_) (fun hneg => ?_)
      · -- a node with a parent
        obtain ⟨v, hv⟩ := Int.eq_ofNat_of_zero_le hpos
        have hv' : at_ l i = (v : Int) := hv
        rw [hv]
        have hi0 : 0 < i := by
          rcases Nat.eq_zero_or_pos i with h0 | h0
          · subst h0; rw [ok.2.1] at hv'; omega
          · exact h0
        have hvi := (ok.2.2 i hi0 (by omega)).2
        have hvn : v < n := by omega
        refine ⟨_, _, _, k5.cell 0, ?_⟩
        refine ⟨_, _, _, k5.cell 0, ⟨by omega, by omega⟩, ?_⟩
        have hcv : cell h5 ⟨b1, v, none⟩ = some (.slice (bs v).1 (bs v).2.1 (bs v).2.2) := by rw [harr.cell]; simp [hvn]
        have hadd : (⟨b1, 0, none⟩ : Addr).add (Int.toNat (v : Int) * 1) = ⟨b1, v, none⟩ := by rw [add_mk]; simp
        have hcv' : cell h5 ((⟨b1, 0, none⟩ : Addr).add (Int.toNat (v : Int) * 1)) = some (.slice (bs v).1 (bs v).2.1 (bs v).2.2) := by rw [hadd]; exact hcv
        refine ⟨_, _, _, hcv', ?_⟩
        have ho := hown v hvn
        have hkl : (kidsTo l v i).length = (bs v).2.1 := by have := ho.len; simpa using this
        have hkn : (kidsTo l v i).length ≤ i := by unfold kidsTo; exact Nat.le_trans (List.length_filter_le _ _) (by simp)
        refine push_pre el_int ho hsz rfl (by omega) (fun b h6 x6 ha => ⟨⟨_, _, _, x6.cell hcv', rfl⟩, ⟨_, _, _, (k5.ext x6).cell 0, rfl⟩, ⟨_, _, _, (k5.ext x6).cell 0, rfl⟩, ha⟩) fun p' c' h7 ho7 hg7 hf7 => ?_
        have k7 := k5.same (hg7.same b2 k5.lt fun a ha => by have := (ho.lt a ha).1; have := k4.lt; omega)
        refine ⟨⟨_, _, _, k7.cell 0, rfl⟩, ⟨by omega, by omega⟩, ?_⟩
        show Wr _ _ _ _
        have harr7 := harr.same (hg7.same b1 harr.lt fun a ha => by have := (ho.lt a ha).1; have := x3.size; omega)
        refine Wr_intro hadd harr7 (by simpa using hvn) fun h8 hz8 hs8 harr8 => ?_
        rw [range_map_set] at harr8
        have hg7s := hg7.size
        have hks := kidsTo_succ l v i
        rw [if_pos hv'] at hks
        refine hnext h8 (fun w => if w = v then (p', (bs v).2.1 + 1, c') else bs w) (by omega) (fun k hk hne => ?_) ?_ ?_ ?_
        · rw [hs8 k hne, hg7.same k (by omega) fun a ha => by have := (ho.lt a ha).1; omega]
          exact hsame k hk hne
        · have : ((List.range n).map fun w => if w = v then Value.slice p' ((bs v).2.1 + 1) c' else .slice (bs w).1 (bs w).2.1 (bs w).2.2) = (List.range n).map fun w => .slice (if w = v then (p', (bs v).2.1 + 1, c') else bs w).1 (if w = v then (p', (bs v).2.1 + 1, c') else bs w).2.1 (if w = v then (p', (bs v).2.1 + 1, c') else bs w).2.2 := by
            refine List.map_congr_left fun w _ => ?_
            split <;> rfl
          rw [← this]; exact harr8
        · intro w hw
          by_cases hwv : w = v
          · subst hwv
            simp only [if_pos]
            have : natV (kidsTo l w (i + 1)) = natV (kidsTo l w i) ++ [.int .i64 (i : Int)] := by rw [hks]; simp [natV]
            rw [this]
            exact ho7.same fun a ha => hs8 _ (by have := (ho7.lt a ha).1; have := x3.size; omega)
          · rw [if_neg hwv]
            have hkw := kidsTo_succ l w i
            rw [if_neg (by rw [hv']; intro e2; exact hwv (by omega)), List.append_nil] at hkw
            rw [hkw]
            refine (hown w hw).same fun a ha => ?_
            have hal := (hown w hw).lt a ha
            rw [hs8 _ (by have := x3.size; omega), hg7.same _ hal.2 fun a' ha' => hdis w v hw hvn hwv a a' ha ha']
        · intro w1 w2 hw1 hw2 hne a b ha hb
          by_cases h1v : w1 = v
          · subst h1v
            have h2v : ¬ w2 = w1 := Ne.symm hne
            rw [if_pos rfl] at ha
            rw [if_neg h2v] at hb
            have hbl := (hown w2 hw2).lt b hb
            rcases hf7 a ha with h9 | h9
            · exact hdis w1 w2 hw1 hw2 hne a b h9 hb
            · omega
          · rw [if_neg h1v] at ha
            have hal := (hown w1 hw1).lt a ha
            by_cases h2v : w2 = v
            · subst h2v
              rw [if_pos rfl] at hb
              rcases hf7 b hb with h9 | h9
              · exact hdis w1 w2 hw1 hw2 hne a b ha h9
              · omega
            · rw [if_neg h2v] at hb
              exact hdis w1 w2 hw1 hw2 hne a b ha hb
      · refine hnext h5 bs hsz hsame harr (fun v hv => ?_) hdis
        have hkw := kidsTo_succ l v i
        rw [if_neg (by intro e2; have e3 : l.getD i 0 = (v : Int) := e2; omega), List.append_nil] at hkw
        rw [hkw]; exact hown v hv
    · have hin' : i = n := by omega
      subst hin'
      rw [succinct_MakeTree_b7_eq]
      refine New_intro (cs := [.slice none 0 0]) fun b4 h9 hb4 x9 k9 z9 => ?_
      refine New_intro (cs := [.nilFunc]) fun b5 h10 hb5 x10 k10 z10 => ?_
      refine Wr_intro rfl k10 (by simp) fun h11 hz11 hs11 k11 => ?_
      have k11 : Blk h11 b5 [.func (.func 57) #[] #[.pointer (some ⟨b4, 0, none⟩), .pointer (some ⟨b2, 0, none⟩), .pointer (some ⟨b5, 0, none⟩)]] _ := k11
      have hx9 := x9.size
      have hx10 := x10.size
      have hx3 := x3.size
      have hk4l := k4.lt
      have hk9l := k9.lt
      have hharr := harr.lt
      have e59 : ∀ k, k < h5.size → h11[k]? = h5[k]? := fun k hk => by rw [hs11 k (by omega), x10.same k (by omega)]; exact x9.same k hk
      have k9' : Blk h11 b4 [.slice none 0 0] 52 := (k9.ext x10).same (hs11 b4 (by omega))
      have R : WalkR h11 b4 b2 b5 b1 l bs := by
        refine ⟨by omega, ?_, fun v hv => ?_, fun v hv => ?_, k11.cell 0, by omega, by omega, by omega, fun v hv a ha => ?_⟩
        · rw [hzl]; exact (k5.same (e59 b2 (by omega))).cell 0
        · have hv' : v < i := by omega
          rw [(harr.same (e59 b1 (by omega))).cell]; simp [hv']
        · have hk : kidsTo l v i = kids l v := by unfold kids kidsTo; rw [hzl]
          have ho := hown v (by omega)
          rw [hk] at ho
          exact (ho.same fun a ha => e59 _ (ho.lt a ha).2).rd
        · have := ((hown v (by omega)).lt a ha).2; omega
      have w0 : WalkS h11 b4 h11 [] := ⟨Nat.le_refl _, fun _ _ _ => rfl, none, 0, 0, k9', .inl ⟨rfl, rfl, rfl, rfl⟩⟩
      have tl := txt_len ok
      refine ⟨_, k11.cell 0, ?_⟩
      refine (walk_ok R ok (by omega) l.length 0 h11 [] (by omega) (by omega) w0 (by simp only [List.length_nil]; omega)).mono fun v h12 ⟨hv, w12⟩ => ?_
      refine ⟨hv, ?_⟩
      obtain ⟨q, m, d, hb12, ho12⟩ := w12.own
      rw [List.nil_append] at ho12
      have hm : (txt l 0).length = m := by have := ho12.len; simpa using this
      refine ⟨_, _, _, hb12.cell 0, ?_⟩
      refine (made_ok ho12.rd (by omega)).mono fun v h13 ⟨x13, a, hv13, l13⟩ => ?_
      have hw := w12.size
      have x12 : Ext h' h12 := ⟨by have := x5.size; omega, fun k hk => by rw [w12.same k (by have := x5.size; omega) (by have := x5.size; omega), e59 k (by have := x5.size; omega)]; exact x5.same k hk⟩
      exact ⟨_, _, hv13, x12.trans x13, .inl ⟨ok, by omega, a, rfl, l13.base x12.size⟩⟩
end Go.Proofs.Ytmlfoefadmlhpaa
