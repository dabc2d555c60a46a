/- B-trees: Levels and Height. -/
import Derived.Test.YtaemnjblcpknpaaSxB11
set_option maxRecDepth 100000
namespace Go.Proofs.Ytaemnjblcpknpaa
open Go Go.Sx
abbrev LevP (s : SH) (l : List Int) (A : Bag) : Prop := Sl TI s.1 s.2.1 s.2.2 l A
abbrev LevA : SH → List (List Int) → Bag → Prop := Nest 38 LevP
abbrev OutA : SH → List (List (List Int)) → Bag → Prop := Nest 82 LevA
theorem ok_lev : ElOk (tS 38) Try.prog 82 := elB_spec (by kernel_rfl)
theorem ok_out : ElOk (tS 82) Try.prog 36 := elB_spec (by kernel_rfl)
/-- The keys of the nodes at a depth. -/
def lv : Nat → Nat → BT → List (List Int)
  | _, 0, t => [t.es.map Prod.fst]
  | n + 1, j + 1, t => t.ts.flatMap (lv n j)
  | 0, _ + 1, _ => []
def levels (n : Nat) (t : BT) : List (List (List Int)) := (List.range (n + 1)).map fun j => lv n j t
theorem weave_ge (ks : List (List E)) (es : List E) (h : ks.length = es.length + 1) : (ks.flatMap id).length ≤ (weave ks es).length := by
  have aux : ∀ (es : List E) (ks : List (List E)), ks.length = es.length → (ks.flatMap id).length ≤ (wR es ks).length := by
    intro es
    induction es with
    | nil => intro ks h; cases ks with | nil => simp | cons _ _ => simp at h
    | cons e es ih =>
      intro ks h
      cases ks with
      | nil => simp at h
      | cons k ks =>
        have := ih ks (by simpa using h)
        simp only [wR, List.flatMap_cons, List.length_append, List.length_cons, id]
        omega
  cases ks with
  | nil => simp at h
  | cons k ks =>
    have := aux es ks (by simpa using h)
    simp only [weave, List.flatMap_cons, List.length_append, id]
    omega
/-- A row of nodes, and the row below it. -/
theorem row {n : Nat} : ∀ {bs : List Nat} {ts : List BT} {A : Bag}, AllH (Hold n) bs ts A → ∃ (xs : List (List E × List Nat)) (A1 A2 : Bag), A = A1 + A2 ∧ AllH (fun b (x : List E × List Nat) B => NodeA b x.1 x.2 B) bs xs A1 ∧ xs.map Prod.fst = ts.map BT.es ∧ (n = 0 → xs.flatMap Prod.snd = []) ∧ ∀ m, n = m + 1 → AllH (Hold m) (xs.flatMap Prod.snd) (ts.flatMap BT.ts) A2
  | [], [], A, h => ⟨[], 0, 0, by rw [h]; exact (Bag.add_zero 0).symm, rfl, rfl, fun _ => rfl, fun _ _ => rfl⟩
  | [], _ :: _, _, h => h.elim
  | _ :: _, [], _, h => h.elim
  | b :: bs, t :: ts, A, ⟨A1, A2, e, h1, h2⟩ => by
    obtain ⟨xs, B1, B2, e2, g1, g2, g3, g4⟩ := row h2
    cases n with
    | zero =>
      refine ⟨(t.es, []) :: xs, A1 + B1, B2, by rw [e, e2]; ac_rfl, ⟨A1, B1, rfl, h1.2, g1⟩, by simp [g2], fun _ => by simpa using g3 rfl, fun m hm => by omega⟩
    | succ n =>
      obtain ⟨ks, C1, C2, e3, k1, k2, k3⟩ := h1
      refine ⟨(t.es, ks) :: xs, C1 + B1, C2 + B2, by rw [e, e2, e3]; ac_rfl, ⟨C1, B1, rfl, k1, g1⟩, by simp [g2], fun h => by omega, fun m hm => ?_⟩
      obtain rfl : n = m := by omega
      simp only [List.flatMap_cons]
      exact k3.append (g4 n rfl)
def tot (n : Nat) (ts : List BT) : Nat := (ts.flatMap (flat n)).length
theorem tot_ge {n hi : Nat} : ∀ {bs : List Nat} {ts : List BT} {A : Bag}, AllH (Hold n) bs ts A → (∀ t ∈ ts, Sz 1 hi n t) → ts.length ≤ tot n ts
  | [], [], _, _, _ => by simp
  | [], _ :: _, _, h, _ => h.elim
  | _ :: _, [], _, h, _ => h.elim
  | _ :: bs, t :: ts, _, ⟨_, _, _, h1, h2⟩, hz => by
    have := tot_ge h2 (fun t h => hz t (by simp [h]))
    have h3 := (Sz.count h1 (hz t (by simp))).1
    have h4 : 2 ≤ (1 + 1) ^ (n + 1) := by
      rw [Nat.pow_succ]
      have : 1 ≤ (1 + 1) ^ n := Nat.one_le_pow _ _ (by decide)
      omega
    simp only [tot, List.flatMap_cons, List.length_append, List.length_cons] at this ⊢
    omega
theorem tot_next {n : Nat} : ∀ {bs : List Nat} {ts : List BT} {A : Bag}, AllH (Hold (n + 1)) bs ts A → tot n (ts.flatMap BT.ts) ≤ tot (n + 1) ts
  | [], [], _, _ => by simp [tot]
  | [], _ :: _, _, h => h.elim
  | _ :: _, [], _, h => h.elim
  | _ :: bs, t :: ts, _, ⟨_, _, _, h1, h2⟩ => by
    have := tot_next h2
    have h3 := weave_ge (t.ts.map (flat n)) t.es (by rw [List.length_map]; exact h1.len)
    have h4 : ((t.ts.map (flat n)).flatMap id) = t.ts.flatMap (flat n) := by simp [List.flatMap_map]
    rw [h4] at h3
    simp only [tot, List.flatMap_cons, List.flatMap_append, List.length_append] at this ⊢
    have h5 : (flat (n + 1) t).length = (weave (t.ts.map (flat n)) t.es).length := rfl
    omega
section
variable {h0 : Hp} {G : Bag}
/-- One row is read. -/
theorem levels_b2_ok {h : Hp} {bs : List Nat} {xs : List (List E × List Nat)} {A1 : Bag} {p q : Option Addr} {n c m d : Nat} {out : List (List (List Int))} {Bo Bl : Bag} {nx0 : SH × SH × Unit → Hp → Prop} {K : Value → Hp → Prop}
    (ha : AllH (fun b (x : List E × List Nat) B => NodeA b x.1 x.2 B) bs xs A1) (ho : OutA (p, n, c) out Bo) (hl : Sl TP q m d bs Bl) (hne : 0 < m) (hm : m ≤ 100000) (hn : n ≤ 100000) (hks : (xs.flatMap Prod.snd).length ≤ 100000) (hes : ∀ x ∈ xs, x.1.length ≤ 1000)
    (s : St h0 h (A1 + (Bo + (Bl + G))))
    (hk : ∀ h' p' c' q' d' Bo' Bl', OutA (p', n + 1, c') (out ++ [xs.map fun x => x.1.map Prod.fst]) Bo' → Sl TP q' (xs.flatMap Prod.snd).length d' (xs.flatMap Prod.snd) Bl' → St h0 h' (A1 + (Bo' + (Bl' + G))) → nx0 ((p', n + 1, c'), (q', (xs.flatMap Prod.snd).length, d'), ()) h') :
    btree_Tree_Levels_b2 p n c q m d h nx0 K := by
  have hbl := hl.len
  have hxl := ha.len
  rw [btree_Tree_Levels_b2_eq]
  refine condYes (decide_eq_true (by omega)) ?_
  refine ⟨fun x h' => ∃ (i : Nat) (Bv Bx : Bag), x.2.2.1 = i ∧ i ≤ m ∧ LevA x.1 ((xs.take i).map fun x => x.1.map Prod.fst) Bv ∧ Sl TP x.2.1.1 x.2.1.2.1 x.2.1.2.2 ((xs.take i).flatMap Prod.snd) Bx ∧ St h0 h' (A1 + (Bo + (Bl + (Bv + (Bx + G))))), fun x _ => m - x.2.2.1.toNat, ⟨0, 0, 0, rfl, by omega, Nest.nil, Sl.nil, s.to⟩, ?_⟩
  rintro ⟨⟨p1, n1, c1⟩, ⟨p2, n2, c2⟩, _, _⟩ h1 ⟨i, Bv, Bx, rfl, him, hv, hx, s1⟩
  dsimp only at hv hx ⊢
  have hvl := hv.len
  have hxx := hx.len
  have hvl' : n1 = i := by
    have : (xs.take i).length = i := by rw [List.length_take]; omega
    rw [List.length_map, this] at hvl; exact hvl.symm
  rw [btree_Tree_Levels_b3_eq]
  refine condP (fun hlt => ?_) (fun hge => ?_)
  · have hi : i < bs.length := by omega
    obtain ⟨Ai, Ar, hA, hnode⟩ := ha.pick (d := ([], [])) (d' := 0) hi
    have hxe : xs.getD i ([], []) ∈ xs := by
      have : xs.getD i ([], []) = xs[i] := by simp [List.getD, (show i < xs.length by omega)]
      rw [this]; exact List.getElem_mem _
    have hte : xs.take (i + 1) = xs.take i ++ [xs.getD i ([], [])] := by
      rw [List.take_succ_eq_append_getElem (by omega)]; simp [List.getD, (show i < xs.length by omega)]
    generalize xs.getD i ([], []) = x at hnode hxe hte
    obtain ⟨r1, r2, r3, e1, e2, e3, C1, C2, C3, rfl, ns⟩ := hnode
    subst hA
    refine (hl.rd (s1.at Bl)).ptr (by omega) (by omega) ?_
    rw [Int.toNat_natCast]
    have hb := (s1.at (nodeC (bs.getD i 0) x.1.length x.2.length r1 r2 r3 e1 e2 e3)).blk
    refine ⟨_, _, _, hb.cell 0, ?_⟩
    have hxs := hes x hxe
    refine (cloneI_st (ns.s1.rd (s1.at C1)) (by omega)).mono fun v1 h4 ⟨q1, d1, D1, hv1, o1, t1⟩ => ?_
    refine ⟨_, _, _, hv1, ?_⟩
    have s2 := (s1.join t1).to (B := Bv + (D1 + (nodeC (bs.getD i 0) x.1.length x.2.length r1 r2 r3 e1 e2 e3 + (C1 + (C2 + C3)) + Ar + (Bo + (Bl + (Bx + G))))))
    refine push_nest ok_lev s2 hv (q := q1) (m := x.1.length) (d := d1) (x := x.1.map Prod.fst) o1 rfl (by omega) fun p4 c4 h6 Bv' hv' s3 => ?_
    refine ⟨_, _, _, (s3.at (nodeC (bs.getD i 0) x.1.length x.2.length r1 r2 r3 e1 e2 e3)).cellA 2, ?_⟩
    have s4 := s3.to (B := Bx + (Bv' + (nodeC (bs.getD i 0) x.1.length x.2.length r1 r2 r3 e1 e2 e3 + (C1 + (C2 + C3)) + Ar + (Bo + (Bl + G)))))
    have hsum : (List.flatMap Prod.snd (xs.take i)).length + x.2.length ≤ (xs.flatMap Prod.snd).length := by
      have h9 : xs.flatMap Prod.snd = (xs.take (i + 1)).flatMap Prod.snd ++ (xs.drop (i + 1)).flatMap Prod.snd := by rw [← List.flatMap_append, List.take_append_drop]
      rw [h9, hte, List.length_append, List.flatMap_append, List.length_append]
      simp
    refine append_sl ok_node s4 hx (ns.s3.rd (s4.at C3)) (by omega) fun p5 c5 h7 Bx' hx' s5 => ?_
    rw [btree_Tree_Levels_b5_eq]
    refine ⟨⟨by omega, by omega⟩, ⟨i + 1, Bv', Bx', by simp only; omega, by omega, ?_, ?_, s5.to⟩, by simp only; omega⟩
    · rw [hte, List.map_append]; exact hv'
    · rw [hte, List.flatMap_append]; simpa using hx'
  · obtain rfl : m = i := by omega
    rw [List.take_of_length_le (by omega)] at hv hx hxx
    subst hvl'
    rw [btree_Tree_Levels_b6_eq]
    have s2 := s1.to (B := Bo + (Bv + (A1 + (Bl + (Bx + G)))))
    refine push_nest ok_out s2 ho (q := p1) (m := n1) (d := c1) (x := xs.map fun x => x.1.map Prod.fst) hv rfl (by omega) fun p' c' h' Bo' ho' s3 => ?_
    subst hxx
    exact hk h' p' c' p2 c2 Bo' Bx ho' hx (s3.to (B := Bl + (A1 + (Bo' + (Bx + G))))).drop
end
theorem tot_one {n : Nat} {t : BT} : tot n [t] = (flat n t).length := by simp [tot]
theorem lv_next {n : Nat} {ts : List BT} {j : Nat} : ts.flatMap (lv (n + 1) (j + 1)) = (ts.flatMap BT.ts).flatMap (lv n j) := by
  rw [List.flatMap_assoc]; rfl
theorem lv_here {n : Nat} {ts : List BT} : ts.flatMap (lv n 0) = ts.map fun t => t.es.map Prod.fst := by
  induction ts with
  | nil => rfl
  | cons t ts ih => rw [List.flatMap_cons, ih]; cases n <;> rfl
def levelsT (order : Nat) (xs : List E) (ls : List (List (List Int))) : Prop := (xs = [] ∧ ls = []) ∨ ∃ n t b A, ls = levels n t ∧ Hold n b t A ∧ flat n t = xs ∧ SzR ((order + 1) / 2 - 1) (order - 1) n t
theorem Levels_ok {h0 h : Hp} {order tb : Nat} {xs : List E} {vis : Int} {A G : Bag} (hor : 3 ≤ order) (h64 : order ≤ 64) (hmost : xs.length ≤ 2000) (ta : TreeA order xs tb vis A) (s : St h0 h (A + G)) :
    HCalls Try.prog 16 #[ptr tb] h (fun v h' => ∃ p n c ls B, v = .slice p n c ∧ OutA (p, n, c) ls B ∧ levelsT order xs ls ∧ St h0 h' (A + (B + G))) := by
  refine btree_Tree_Levels_call ?_
  rw [btree_Tree_Levels_b0_eq]
  refine condNo rfl ?_
  rcases ta with ⟨rfl, rfl⟩ | ⟨n, root, t, A1, rfl, hh, hfl, hsz⟩
  · exact ⟨_, s.cellA 2, condYes rfl ⟨none, 0, 0, [], 0, rfl, Nest.nil, .inl ⟨rfl, rfl⟩, s.to⟩⟩
  · have s1 := s.to (B := treeC tb order xs.length (some ⟨root, 0, none⟩) vis + (A1 + G))
    refine ⟨_, s1.cellA 2, condNo rfl ?_⟩
    rw [btree_Tree_Levels_b1_eq]
    refine ⟨_, s1.cellA 2, ?_⟩
    refine s1.new (cs := [.pointer (some ⟨root, 0, none⟩)]) fun b1 h1 _ s2 => ?_
    have hz1 : Sz 1 (order - 1) n t := hsz.one (by omega)
    refine ⟨fun x h' => ∃ (k : Nat) (Bo Bl : Bag), k ≤ n + 1 ∧ OutA x.1 ((List.range k).map fun j => lv n j t) Bo ∧ St h0 h' (A1 + (Bo + (Bl + (treeC tb order xs.length (some ⟨root, 0, none⟩) vis + G)))) ∧
      ((k = n + 1 ∧ Sl TP x.2.1.1 x.2.1.2.1 x.2.1.2.2 [] Bl) ∨ ∃ (m : Nat) (bs : List Nat) (ts : List BT) (Ac Ar : Bag), k + m = n ∧ Sl TP x.2.1.1 x.2.1.2.1 x.2.1.2.2 bs Bl ∧ A1 = Ac + Ar ∧ AllH (Hold m) bs ts Ac ∧ (∀ u ∈ ts, Sz 1 (order - 1) m u) ∧ tot m ts ≤ 2000 ∧ 0 < bs.length ∧ (∀ j, ts.flatMap (lv m j) = lv n (k + j) t)),
      fun x _ => if x.2.1.2.1 = 0 then 0 else n + 2 - x.1.2.1, ?_, ?_⟩
    · refine ⟨0, 0, cA b1 [.pointer (some ⟨root, 0, none⟩)] 73, by omega, Nest.nil, s2.to, .inr ⟨n, [root], [t], A1, 0, by omega, (show Sl TP (some ⟨b1, 0, none⟩) 1 1 [root] (cA b1 [.pointer (some ⟨root, 0, none⟩)] (TP).e) from Sl.one rfl), (Bag.add_zero _).symm, AllH.one hh, ?_, ?_, by simp, ?_⟩⟩
      · intro u hu; simp at hu; subst hu; exact hz1
      · rw [tot_one, hfl]; exact hmost
      · intro j; simp
    rintro ⟨⟨p, m0, c⟩, ⟨q, l0, d⟩, _⟩ h2 ⟨k, Bo, Bl, hk, ho, s3, hrow⟩
    dsimp only at ho hrow ⊢
    have hol := ho.len
    rw [List.length_map, List.length_range] at hol
    dsimp only at hol
    subst hol
    rcases hrow with ⟨rfl, hl⟩ | ⟨m, bs, ts, Ac, Ar, hkm, hl, hA, hall, hzs, htot, hpos, hlv⟩
    · obtain rfl : 0 = l0 := hl.len
      rw [btree_Tree_Levels_b2_eq]
      refine condNo (by decide) ?_
      rw [btree_Tree_Levels_b4_eq]
      refine ⟨p, n + 1, c, _, Bo, rfl, ho, .inr ⟨n, t, root, A1, rfl, hh, hfl, hsz⟩, (s3.to (B := Bl + (treeC tb order xs.length (some ⟨root, 0, none⟩) vis + A1 + (Bo + G)))).drop⟩
    · obtain ⟨ys, B1, B2, hAc, g1, g2, g3, g4⟩ := row hall
      have hll := hl.len
      have hcnt := tot_ge hall hzs
      have hbt := hall.len
      have hylen := g1.len
      have hn := pow_bound (n := n) (m := xs.length) (by rw [← hfl]; exact hsz.low hh (by omega)) (by omega)
      have hfm : (ys.flatMap Prod.snd).length ≤ 2000 ∧ (∀ m', m = m' + 1 → tot m' (ts.flatMap BT.ts) ≤ 2000 ∧ ∀ u ∈ ts.flatMap BT.ts, Sz 1 (order - 1) m' u) := by
        cases m with
        | zero => rw [g3 rfl]; exact ⟨by simp, fun m' hm => by omega⟩
        | succ m =>
          have h5 := tot_next hall
          have h7 : ∀ u ∈ ts.flatMap BT.ts, Sz 1 (order - 1) m u := by
            intro u hu
            obtain ⟨w, hw, huw⟩ := List.mem_flatMap.1 hu
            exact (hzs w hw).2 u huw
          have h6 := tot_ge (g4 m rfl) h7
          have h8 := (g4 m rfl).len
          refine ⟨by omega, fun m' hm => ?_⟩
          obtain rfl : m = m' := by omega
          exact ⟨by omega, h7⟩
      have hes : ∀ x ∈ ys, x.1.length ≤ 1000 := by
        intro x hx
        have : x.1 ∈ ys.map Prod.fst := List.mem_map.2 ⟨x, hx, rfl⟩
        rw [g2] at this
        obtain ⟨u, hu, he⟩ := List.mem_map.1 this
        have := (hzs u hu).here
        rw [← he]; omega
      have hrow : ys.map (fun x => x.1.map Prod.fst) = lv n k t := by
        have h5 := hlv 0
        rw [lv_here, Nat.add_zero] at h5
        rw [← h5]
        have : ys.map (fun x => x.1.map Prod.fst) = (ys.map Prod.fst).map (fun es => es.map Prod.fst) := by simp
        rw [this, g2]; simp
      have s4 : St h0 h2 (B1 + (Bo + (Bl + (B2 + (Ar + (treeC tb order xs.length (some ⟨root, 0, none⟩) vis + G)))))) := by rw [hA, hAc] at s3; exact s3.to
      refine levels_b2_ok g1 ho hl (by omega) (by omega) (by omega) (by omega) hes s4 fun h' p' c' q' d' Bo' Bl' ho' hl' s5 => ?_
      rw [hrow] at ho'
      have hout : OutA (p', k + 1, c') ((List.range (k + 1)).map fun j => lv n j t) Bo' := by rw [List.range_succ, List.map_append]; exact ho'
      have s6 : St h0 h' (A1 + (Bo' + (Bl' + (treeC tb order xs.length (some ⟨root, 0, none⟩) vis + G)))) := by rw [hA, hAc]; exact s5.to
      refine ⟨⟨k + 1, Bo', Bl', by omega, hout, s6, ?_⟩, ?_⟩
      · cases m with
        | zero =>
          refine .inl ⟨by omega, ?_⟩
          have := hl'
          rw [g3 rfl] at this
          dsimp only
          rw [g3 rfl]
          exact this
        | succ m =>
          refine .inr ⟨m, ys.flatMap Prod.snd, ts.flatMap BT.ts, B2, B1 + Ar, by omega, hl', by rw [hA, hAc]; ac_rfl, g4 m rfl, (hfm.2 m rfl).2, (hfm.2 m rfl).1, ?_, ?_⟩
          · have h8 := (g4 m rfl).len
            obtain ⟨u, us, hts⟩ : ∃ u us, ts = u :: us := by
              cases ts with
              | nil => exact absurd (show bs.length = 0 from hbt) (by omega)
              | cons u us => exact ⟨u, us, rfl⟩
            have hu : u.ts.length = u.es.length + 1 := by
              subst hts
              cases bs with
              | nil => simp at hpos
              | cons b bs =>
                obtain ⟨_, _, _, k1, _⟩ := hall
                exact k1.len
            rw [h8, hts, List.flatMap_cons, List.length_append]
            omega
          · intro j
            rw [← lv_next, hlv (j + 1)]
            congr 1
            omega
      · have hl0 : l0 ≠ 0 := by omega
        simp only
        rw [if_neg hl0]
        split
        · omega
        · omega
theorem Height_ok {h0 h : Hp} {order tb : Nat} {xs : List E} {vis : Int} {A G : Bag} (hor : 3 ≤ order) (h64 : order ≤ 64) (hmost : xs.length ≤ 2000) (ta : TreeA order xs tb vis A) (s : St h0 h (A + G)) :
    HCalls Try.prog 20 #[ptr tb] h (fun v h' => ∃ ls, v = .int .i64 (ls.length : Int) ∧ levelsT order xs ls ∧ St h0 h' (A + G)) := by
  refine btree_Tree_Height_call ?_
  rw [btree_Tree_Height_b0_eq]
  refine (Levels_ok hor h64 hmost ta s).mono fun v h' ⟨p, n, c, ls, B, hv, ho, hl, s'⟩ => ?_
  refine ⟨_, _, _, hv, ls, ?_, hl, (s'.to (B := B + (A + G))).drop⟩
  have := ho.len
  dsimp only at this
  rw [this]
end Go.Proofs.Ytaemnjblcpknpaa
