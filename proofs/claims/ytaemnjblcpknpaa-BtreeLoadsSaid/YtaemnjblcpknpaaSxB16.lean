/- B-trees: the example of the chapter, and the law Loads. -/
import Derived.Test.YtaemnjblcpknpaaSxB15
set_option maxRecDepth 100000
namespace Go.Proofs.Ytaemnjblcpknpaa
open Go Go.Sx
theorem Blocks_ok {h0 h : Hp} {order tb : Nat} {xs : List E} {vis : Int} {A G : Bag} (ta : TreeA order xs tb vis A) (s : St h0 h (A + G)) : HCalls Try.prog 32 #[ptr tb] h (fun v h' => h' = h ∧ v = .int .i64 vis) := by
  refine btree_Tree_Blocks_call ?_
  rw [btree_Tree_Blocks_b0_eq]
  obtain ⟨root, A1, rfl, _⟩ := ta.vis
  exact condNo rfl ⟨_, (s.at (treeC tb order xs.length root vis)).cellA 3, rfl, rfl⟩
theorem awake_ok (h : Hp) : HCalls Try.prog 8 #[] h (fun v h' => v = .bool true ∧ Ext h h') := by
  refine l43_awake_call ?_
  rw [l43_awake_b0_eq]
  refine New_ok.mono fun v1 h1 hv => ?_
  rw [if_neg (by omega)] at hv
  obtain ⟨tb, A, hv1, ta, s1⟩ := hv
  have ta : TreeA 3 [] tb 0 A := ta
  refine ⟨_, _, hv1, condNo rfl (condNo rfl ?_)⟩
  rw [l43_awake_b1_eq]
  refine ⟨fun x h' => ∃ (i : Nat) (A' : Bag) (vis : Int), i ≤ 3 ∧ x.1 = (i : Int) + 1 ∧ (0 ≤ vis ∧ vis ≤ 1000 * i ∧ (0 < i → 0 < vis)) ∧ TreeA 3 (([(1, 10), (2, 20), (3, 30)] : List E).take i) tb vis A' ∧ St h h' A', fun x _ => (4 - x.1).toNat, ⟨0, A, 0, by omega, rfl, ⟨by omega, by omega, by omega⟩, ta, s1⟩, ?_⟩
  rintro ⟨_, _⟩ h2 ⟨i, A', vis, hi, rfl, hvis, ta', s2⟩
  dsimp only
  rw [l43_awake_b2_eq]
  have hsrt : Srt (([(1, 10), (2, 20), (3, 30)] : List E).take i) := List.Pairwise.sublist (List.take_sublist _ _) (by decide)
  have hlen : (([(1, 10), (2, 20), (3, 30)] : List E).take i).length ≤ 3 := by rw [List.length_take]; exact Nat.min_le_right _ _
  refine condP (fun hle => ?_) (fun hgt => ?_)
  · refine ⟨⟨by omega, by omega⟩, ?_⟩
    refine (Put_ok (key := (i : Int) + 1) (value := 10 * ((i : Int) + 1)) (F := 0) (by omega) (by omega) hsrt (by omega) ⟨by omega, by omega⟩ ta' s2.to).mono fun v2 h3 ⟨A2, vis2, hvis2, hv2, ta2, s3⟩ => ?_
    have hp : putS (([(1, 10), (2, 20), (3, 30)] : List E).take i) ((i : Int) + 1) (10 * ((i : Int) + 1)) = (([(1, 10), (2, 20), (3, 30)] : List E).take (i + 1), 0, false, 0) := by
      have : i = 0 ∨ i = 1 ∨ i = 2 := by omega
      rcases this with rfl | rfl | rfl <;> decide
    rw [hp] at hv2 ta2 hvis2
    refine ⟨_, _, _, hv2, condNo rfl (condNo rfl ?_)⟩
    rw [l43_awake_b3_eq]
    have hlt := hvis2.2 rfl
    exact ⟨⟨by omega, by omega⟩, ⟨i + 1, A2, vis2, by omega, by simp only; omega, ⟨by omega, by omega, by omega⟩, ta2, s3.to⟩, by simp only; omega⟩
  · obtain rfl : i = 3 := by omega
    have hvp := hvis.2.2 (by omega)
    have ta3 : TreeA 3 [(1, 10), (2, 20), (3, 30)] tb vis A' := ta'
    rw [l43_awake_b4_eq]
    refine (Get_ok (key := 2) (F := 0) (by omega) (by omega) (by decide) (by decide) ⟨by omega, by omega⟩ ta3 s2.to).mono fun v3 h4 ⟨A4, vis4, hvis4, hv4, ta4, s4⟩ => ?_
    have hg : getS [(1, 10), (2, 20), (3, 30)] 2 = (20, 0) := by decide
    rw [hg] at hv4
    refine ⟨_, _, hv4, (Len_ok ta4 s4).mono fun v5 h5 ⟨hh5, hv5⟩ => ⟨_, hv5, condYes rfl ?_⟩⟩
    subst hh5
    refine (Height_ok (by omega) (by omega) (by decide) ta4 s4).mono fun v6 h6 ⟨ls, hv6, hls, s6⟩ => ⟨_, hv6, ?_⟩
    have hht : ls.length = 2 := by
      rcases hls with ⟨h, _⟩ | ⟨N, t, b, D, rfl, hh, hfl, hsz⟩
      · cases h
      · have h1 := hsz.low hh (by decide)
        rw [hfl] at h1
        have h2 : N ≤ 1 := by
          rcases Nat.lt_or_ge 1 N with h | h
          · have : 2 ^ (2 + 1) ≤ 2 ^ (N + 1) := Nat.pow_le_pow_right (by decide) (by omega)
            simp at h1; omega
          · exact h
        have h3 : N ≠ 0 := by
          rintro rfl
          have h4 : 1 ≤ t.es.length ∧ t.es.length ≤ 2 := hsz
          have h5 : t.es.length = 3 := congrArg List.length hfl
          omega
        rw [levels_len]; omega
    rw [hht]
    refine condYes rfl (condYes rfl (condYes rfl ?_))
    refine (Levels_ok (by omega) (by omega) (by decide) ta4 s6).mono fun v7 h7 ⟨p, n, c, ls7, B7, hv7, ho7, hl7, s7⟩ => ⟨_, _, _, hv7, ?_⟩
    refine s7.new (cs := [.int .i64 1, .int .i64 2, .int .i64 3]) fun b8 h8 _ s8 => ?_
    have hk8 : Sl TI (some ⟨b8, 0, none⟩) 3 3 [1, 2, 3] (cA b8 [.int .i64 1, .int .i64 2, .int .i64 3] 3) := Sl.of_blk (xs := [1, 2, 3]) rfl rfl
    have s8' : St h h8 (B7 + (cA b8 [.int .i64 1, .int .i64 2, .int .i64 3] 3 + A4)) := s8.to
    refine (Shaped_ok (order := 3) (by omega) (by omega) hl7 (by decide) ho7 (RdS.own hk8) rfl s8').mono fun v9 h9 ⟨hv9, s9⟩ => ⟨_, hv9, condYes rfl ?_⟩
    have s10 : St h h9 (A4 + (B7 + cA b8 [.int .i64 1, .int .i64 2, .int .i64 3] 3)) := s9.to
    refine (Blocks_ok ta4 s10).mono fun v11 h11 ⟨hh11, hv11⟩ => ⟨_, hv11, ?_, ?_⟩
    · rw [decide_eq_true (by omega)]
    · subst hh11; exact s10.ext
/-- A scan of all but the greatest key. -/
theorem span_all {l : List E} (hok : OkL l) : (0 < l.length → (l.getD (l.length - 1) (0, 0)).1 = 1048576 → l.filter (inSpan (-1048576) 1048576) = l.take (l.length - 1)) ∧
    (l = [] ∨ (l.getD (l.length - 1) (0, 0)).1 ≠ 1048576 → l.filter (inSpan (-1048576) 1048576) = l) := by
  have key : ∀ x ∈ l, KeyP x.1 := fun x hx => (hok.1 x hx).1
  rcases List.eq_nil_or_concat l with rfl | ⟨l', e, rfl⟩
  · exact ⟨fun h => by simp at h, fun _ => rfl⟩
  · have hs := hok.2
    simp only [List.concat_eq_append] at hs key ⊢
    rw [Srt.app] at hs
    have hl' : ∀ x ∈ l', inSpan (-1048576) 1048576 x = true := by
      intro x hx
      have h1 := key x (by simp [hx])
      have h2 := key e (by simp)
      have h3 := hs.2.2 x hx e (by simp)
      exact decide_eq_true ⟨h1.1, by omega⟩
    have hf : l'.filter (inSpan (-1048576) 1048576) = l' := List.filter_eq_self.2 hl'
    have hg : (l' ++ [e]).getD ((l' ++ [e]).length - 1) (0, 0) = e := by simp [List.getD]
    rw [hg, List.filter_append, hf]
    refine ⟨fun _ h => ?_, fun h => ?_⟩
    · have : inSpan (-1048576) 1048576 e = false := decide_eq_false (by omega)
      simp [this]
    · have h1 := key e (by simp)
      have : inSpan (-1048576) 1048576 e = true := decide_eq_true ⟨h1.1, by rcases h with h | h; simp at h; omega⟩
      simp [this]
theorem loads_law {h : Hp} {order : Int} {p : Option Addr} {n c : Nat} {l : List E} {filled : Bool} (h0 : 0 ≤ order ∧ order ≤ 255) (r : RdT TE h p n l) (hnc : n ≤ c) (hk : ∀ x ∈ l, InR x.1 ∧ InR x.2) :
    HCalls Try.prog 3 #[.int .u8 order, .slice p n c, .bool filled] h (fun v h' => v = .bool true ∧ Ext h h') := by
  have hlen := r.len
  refine l43_BtreeLoads_call ?_
  rw [l43_BtreeLoads_b0_eq]
  refine (awake_ok h).mono fun v1 h1 ⟨hv1, x1⟩ => ⟨_, hv1, condNo rfl ?_⟩
  have again : ∀ {K : Value → Hp → Prop}, (∀ h', Ext h h' → K (.bool true) h') → HCalls Try.prog 8 #[] h1 fun v2 h2 => ∃ r2 : Bool, v2 = .bool r2 ∧ K (.bool r2) h2 := fun hK =>
    (awake_ok h1).mono fun v2 h2 ⟨hv2, x2⟩ => ⟨_, hv2, hK _ (x1.trans x2)⟩
  have main : (n : Int) ≤ 2005 → (n ≤ 150 ∨ 2000 < n) → l43_BtreeLoads_b1 order p n c filled h1 fun v h' => v = .bool true ∧ Ext h h' := by
    intro hn hn2
    rw [l43_BtreeLoads_b1_eq]
    refine ⟨⟨by omega, by omega⟩, rem_intro (by omega) (by omega) ⟨⟨by omega, by omega⟩, ?_⟩⟩
    obtain ⟨m, hm, hm1⟩ : ∃ m : Nat, 3 + order % 10 = (m : Int) ∧ (3 ≤ m ∧ m ≤ 12) := ⟨(3 + order % 10).toNat, by omega, by omega⟩
    rw [hm]
    refine New_ok.mono fun v6 h6 hv => ?_
    rw [if_neg (by omega)] at hv
    obtain ⟨tb, A, hv6, ta, s6⟩ := hv
    have ta : TreeA m [] tb 0 A := ta
    refine ⟨_, _, hv6, condNo rfl (condNo rfl ?_)⟩
    have s6 : St h h6 A := s6.base x1
    -- the rest, whatever is in the tree
    have rest : ∀ (xs : List E) (vis : Int) (h' : Hp) (A : Bag), (0 ≤ vis ∧ vis ≤ 10000) → xs = (if filled then [(5, 5)] else []) → TreeA m xs tb vis A → St h h' A → l43_BtreeLoads_b3 p n c filled (m : Int) (some ⟨tb, 0, none⟩) h' fun v h' => v = .bool true ∧ Ext h h' := by
      intro xs vis h7 A hvis hxs ta s7
      rw [l43_BtreeLoads_b3_eq]
      have hsx : Srt xs ∧ xs.length ≤ 1 := by subst hxs; cases filled <;> simp
      refine (Load_ok (by omega) (by omega) ta (RdS.old r) (by omega) (G := 0) s7.to).mono fun v8 h8 ⟨A8, hv8, ta8, s8⟩ => ⟨_, hv8, ?_⟩
      have r8 := r.ext s8.ext
      refine (Loaded_ok r8 (by omega)).mono fun v9 h9 ⟨hh9, hv9⟩ => ⟨_, hv9, ?_⟩
      subst hh9
      -- what is wanted
      have b5 : ∀ (e : Int), (loadS xs l).2 = e → e ≠ 0 → l43_BtreeLoads_b4 p n c filled (m : Int) (some ⟨tb, 0, none⟩) (loadS xs l).2 e h9 fun v h' => v = .bool true ∧ Ext h h' := by
        intro e he hne
        rw [l43_BtreeLoads_b4_eq]
        refine condYes (by rw [decide_eq_false hne]; rfl) ?_
        have hx8 : (loadS xs l).1 = xs := by
          unfold loadS at he ⊢
          by_cases h1 : OkL l
          · rw [if_pos h1] at he ⊢
            by_cases h2 : 2000 < l.length
            · rw [if_pos h2]
            · rw [if_neg h2] at he ⊢
              by_cases h3 : xs ≠ []
              · rw [if_pos h3]
              · rw [if_neg h3] at he; exact absurd he.symm hne
          · rw [if_neg h1]
        rw [hx8] at ta8
        have fin : ∀ left : Int, left = xs.length → l43_BtreeLoads_b5 (some ⟨tb, 0, none⟩) (loadS xs l).2 e left h9 fun v h' => v = .bool true ∧ Ext h h' := by
          intro left hleft
          rw [l43_BtreeLoads_b5_eq]
          refine condYes (decide_eq_true he) ((Len_ok ta8 s8).mono fun v15 h15 ⟨hh15, hv15⟩ => ⟨_, hv15, ?_, ?_⟩)
          · rw [hleft, decide_eq_true rfl]
          · subst hh15; exact s8.ext
        refine cond_intro (fun hfl => fin 1 ?_) (fun hfl => fin 0 ?_)
        · rw [hxs, hfl]; rfl
        · rw [hxs, hfl]; rfl
      by_cases hok : OkL l
      · by_cases hmany : 2000 < l.length
        · rw [if_pos hok, if_pos hmany]
          refine condNo rfl (b5 4 ?_ (by decide))
          rw [loadS, if_pos hok, if_pos hmany]
        · rw [if_pos hok, if_neg hmany]
          refine condYes rfl (cond_intro (fun hfl => ?_) (fun hfl => ?_))
          · refine b5 13 ?_ (by decide)
            have : xs ≠ [] := by rw [hxs, hfl]; simp
            rw [loadS, if_pos hok, if_neg hmany, if_pos this]
          · have hx0 : xs = [] := by rw [hxs, hfl]; rfl
            have hld : loadS xs l = (l, 0) := by rw [loadS, if_pos hok, if_neg hmany, if_neg (by rw [hx0]; simp)]
            rw [hld] at ta8 ⊢
            have ta8 : TreeA m l tb vis A8 := ta8
            rw [l43_BtreeLoads_b4_eq]
            refine condNo rfl ?_
            refine (Scan_ok (by omega) (by omega) hok.2 ta8 s8).mono fun v10 h10 ⟨p10, n10, c10, B10, hv10, o10, s10⟩ => ⟨_, _, _, _, hv10, condNo rfl ?_⟩
            have s10 := s10.to (B := A8 + B10)
            have hlt := span_all hok
            have hfl2 : (l.filter (inSpan (-1048576) 1048576)).length ≤ 1000 := Nat.le_trans (List.length_filter_le _ _) (by omega)
            have hs : scanS l (-1048576) 1048576 = (l.filter (inSpan (-1048576) 1048576), 0) := by rw [scanS, if_pos (by decide), if_neg (by omega)]
            rw [hs] at o10 ⊢
            have o10 : Sl TE p10 n10 c10 (l.filter (inSpan (-1048576) 1048576)) B10 := o10
            have hn10 := o10.len
            refine condNo rfl ((Len_ok ta8 (s10.to (B := A8 + (B10 + 0)))).mono fun v11 h11 ⟨hh11, hv11⟩ => ⟨_, hv11, condNo (by rw [decide_eq_true (by omega)]; rfl) ?_⟩)
            subst hh11
            refine (Levels_ok (by omega) (by omega) (by omega) ta8 s10).mono fun v12 h12 ⟨p12, n12, c12, ls, B12, hv12, o12, hls, s12⟩ => ⟨_, _, _, hv12, ?_⟩
            refine (keys_ok (r.ext s12.ext) (by omega)).mono fun v13 h13 ⟨q13, d13, B13, hv13, o13, t13⟩ => ⟨_, _, _, hv13, ?_⟩
            have s13 := (s12.join t13).to (B := B12 + (B13 + (A8 + B10)))
            refine (Shaped_ok (by omega) (by omega) hls (by omega) o12 (RdS.own o13) rfl s13).mono fun v14 h14 ⟨hv14, s14⟩ => ⟨_, hv14, condNo rfl ?_⟩
            have r14 := r.ext s14.ext
            have rx := o10.rd (s14.at B10)
            have b7 : l.filter (inSpan (-1048576) 1048576) = l → l43_BtreeLoads_b7 p n c p10 n10 c10 h14 fun v h' => v = .bool true ∧ Ext h h' := by
              intro he
              rw [l43_BtreeLoads_b7_eq]
              refine (EqualP_ok rx r14 (by omega)).mono fun v17 h17 ⟨hh17, hv17⟩ => ⟨_, hv17, ?_, ?_⟩
              · rw [decide_eq_true he]
              · subst hh17; exact s14.ext
            rw [l43_BtreeLoads_b6_eq]
            refine condP (fun hpos => ?_) (fun hpos => ?_)
            · refine ⟨⟨by omega, by omega⟩, pair_at r14 (by omega) (by omega) ?_⟩
              have ei : ((n : Int) - 1).toNat = n - 1 := by omega
              have e0 : Int.toNat (0 : Int) = 0 := rfl
              rw [ei]
              refine condP (fun hmx => ?_) (fun hmx => ?_)
              · refine ⟨⟨by omega, by omega⟩, ⟨by omega, by omega, by omega⟩, ?_⟩
                rw [e0, subAddr_z, Nat.sub_zero, Nat.sub_zero]
                refine (EqualP_ok rx (r14.take (i := n - 1) (by omega)) (by omega)).mono fun v16 h16 ⟨hh16, hv16⟩ => ⟨_, hv16, ?_, ?_⟩
                · rw [decide_eq_true (hlt.1 (by omega) (by rw [hlen]; exact hmx) |>.trans (by rw [hlen]))]
                · subst hh16; exact s14.ext
              · exact b7 (hlt.2 (.inr (by rw [hlen]; exact hmx)))
            · exact b7 (hlt.2 (.inl (List.eq_nil_of_length_eq_zero (by omega))))
      · rw [if_neg hok]
        refine condNo rfl (b5 1 ?_ (by decide))
        rw [loadS, if_neg hok]
    rw [l43_BtreeLoads_b2_eq]
    refine cond_intro (fun hfl => ?_) (fun hfl => ?_)
    · refine (Put_ok (key := 5) (value := 5) (F := 0) (by omega) (by omega) (by simp) (by simp) ⟨by omega, by omega⟩ ta s6.to).mono fun v7 h7 ⟨A7, vis7, hvis7, hv7, ta7, s7⟩ => ?_
      have hp : putS [] 5 5 = ([(5, 5)], 0, false, 0) := by decide
      rw [hp] at hv7 ta7
      refine ⟨_, _, _, hv7, condNo rfl ?_⟩
      exact rest [(5, 5)] vis7 h7 A7 ⟨by omega, by omega⟩ (by rw [hfl]; rfl) ta7 s7.to
    · exact rest [] 0 h6 A ⟨by omega, by omega⟩ (by rw [hfl]; rfl) ta s6
  refine condP (fun h2 => condP (fun h3 => ?_) (fun h3 => condP (fun h4 => ?_) (fun h4 => ?_))) (fun h2 => condP (fun h4 => ?_) (fun h4 => ?_))
  · exact again (K := fun v h' => v = .bool true ∧ Ext h h') fun h' x' => ⟨rfl, x'⟩
  · exact again (K := fun v h' => v = .bool true ∧ Ext h h') fun h' x' => ⟨rfl, x'⟩
  · exact main (by omega) (by omega)
  · omega
  · exact main (by omega) (by omega)
end Go.Proofs.Ytaemnjblcpknpaa
