/- B-trees: floor, ceiling, and what is built on them. -/
import Derived.Test.YtaemnjblcpknpaaSxB7
set_option maxRecDepth 100000
namespace Go.Proofs.Ytaemnjblcpknpaa
open Go Go.Sx
theorem Hold.read {h0 h : Hp} {n b : Nat} {u : BT} {A F : Bag} (hh : Hold n b u A) (s : St h0 h (A + F)) : ∃ p1 p2 p3 c1 c2 c3 m3, Blk h b [.slice p1 u.es.length c1, .slice p2 u.es.length c2, .slice p3 m3 c3] 89 ∧ RdT TI h p1 u.es.length (u.es.map Prod.fst) ∧ RdT TI h p2 u.es.length (u.es.map Prod.snd) ∧
    HCalls Try.prog 42 #[ptr b] h (fun v h' => h' = h ∧ v = .bool (decide (n = 0))) := by
  obtain ⟨ks, A1, A2, rfl, hna, hk0, _⟩ := hh.node
  have hna0 := hna
  obtain ⟨p1, p2, p3, c1, c2, c3, C1, C2, C3, rfl, ns⟩ := hna
  have s1 := s.to (B := nodeC b u.es.length ks.length p1 p2 p3 c1 c2 c3 + (C1 + (C2 + C3)) + (A2 + F))
  refine ⟨p1, p2, p3, c1, c2, c3, ks.length, (s.at (nodeC b u.es.length ks.length p1 p2 p3 c1 c2 c3)).blk, ns.s1.rd (s.at C1), ns.s2.rd (s.at C2), ?_⟩
  refine (leaf_ok s1 hna0).mono fun v h' ⟨hh, hv⟩ => ⟨hh, ?_⟩
  rw [hv]
  congr 1
  exact decide_eq_decide.2 hk0
/-- The child on the way. -/
theorem Way.kid {h0 h : Hp} {key : Int} {lo hi root n m k : Nat} {t u : BT} {A Ac Au F : Bag} {f : Fr} {fs : List Fr} {Q : Option Addr → Prop} (w : Way key lo hi root n t A m (f :: fs) k u Ac Au) (s : St h0 h (A + F)) (hl : f.kL.length = f.eL.length) (hq : Q (some ⟨k, 0, none⟩)) :
    NN (some (⟨f.b, 0, none⟩ : Addr)) fun a => ∃ (a16 : Option Addr) (L5 C5 : Nat), cell h (a.add 2) = some (.slice a16 L5 C5) ∧ (0 ≤ (f.eL.length : Int) ∧ (f.eL.length : Int) < (L5 : Int)) ∧ NN a16 fun a17 => ∃ p2 : Option Addr, cell h (a17.add (Int.toNat (f.eL.length : Int) * 1)) = some (.pointer p2) ∧ Q p2 := by
  have hb := w.bag
  obtain ⟨D1, D2, rfl, hF, _⟩ := w.ctx
  have sF : St h0 h (D1 + (D2 + (Au + F))) := (hb ▸ s : St h0 h (D1 + D2 + Au + F)).to
  obtain ⟨q, L, C, hc, rp, hlen⟩ := hF.kid sF
  have hgl : (f.kL ++ k :: f.kR).getD f.eL.length 0 = k := by simp [List.getD, ← hl]
  refine ⟨_, _, C, hc, rp.ptr (by omega) (by rw [hlen, List.length_append, List.length_cons]; omega) ?_⟩
  rw [Int.toNat_natCast, hgl]
  exact hq
def accV (a : Int × Int × Bool) : Value := .tuple #[.int .i64 a.1, .int .i64 a.2.1, .bool a.2.2]
theorem upS_found {xs X Y : List E} {key old : Int} (h : xs = X ++ (key, old) :: Y) (hx : ∀ x ∈ X, x.1 < key) (hy : ∀ y ∈ Y, key ≤ y.1) : upS xs key = (key, old) :: Y := by
  refine ((cut_eq h hx (fun y hy' => ?_)).2).symm
  rcases List.mem_cons.1 hy' with rfl | h
  · exact Int.le_refl _
  · exact hy y h
def visOf (tb : Nat) (h : Hp) : Int := match cell h ((⟨tb, 0, none⟩ : Addr).add 3) with | some (.int _ v) => v | _ => 0
theorem visOf_eq {h0 h : Hp} {tb order len : Nat} {root : Option Addr} {vis : Int} {F : Bag} (s : St h0 h (treeC tb order len root vis + F)) : visOf tb h = vis := by
  unfold visOf
  rw [s.cellA 3]
  rfl
theorem floor_ok {h0 h : Hp} {order tb : Nat} {xs : List E} {vis key : Int} {A F : Bag} (hor : 3 ≤ order) (h64 : order ≤ 64) (so : Srt xs) (hmost : xs.length ≤ 2000) (hvis : 0 ≤ vis ∧ vis ≤ 1000000000000) (ta : TreeA order xs tb vis A) (s : St h0 h (A + F)) :
    HCalls Try.prog 59 #[ptr tb, .int .i64 key] h (fun v h' => ∃ A' vis', (vis ≤ vis' ∧ vis' ≤ vis + 1000) ∧ v = accV (floorS xs key) ∧ TreeA order xs tb vis' A' ∧ St h0 h' (A' + F)) := by
  refine btree_Tree_floor_call ?_
  rw [btree_Tree_floor_b0_eq]
  rcases ta with ⟨rfl, rfl⟩ | ⟨n, root, t, A1, rfl, hh, hfl, hsz⟩
  · refine ⟨_, s.cellA 2, fun st h' => h' = h ∧ st = (0, 0, false, none, ()), fun _ _ => 0, ⟨rfl, rfl⟩, ?_⟩
    rintro _ h1 ⟨rfl, rfl⟩
    rw [btree_Tree_floor_b1_eq]
    refine condNo rfl ?_
    rw [btree_Tree_floor_b3_eq]
    exact ⟨_, vis, ⟨by omega, by omega⟩, rfl, .inl ⟨rfl, rfl⟩, s⟩
  · have hxl : 2 ^ (n + 1) ≤ xs.length + 1 := by rw [← hfl]; exact hsz.low hh (by omega)
    have hn := pow_bound hxl (by omega)
    have so' : Srt (flat n t) := by rw [hfl]; exact so
    have s := s.to (B := treeC tb order xs.length (some ⟨root, 0, none⟩) vis + (A1 + F))
    refine ⟨_, s.cellA 2, ?_⟩
    refine ⟨fun st h' => ∃ m fs k u Ac Au vis', St h0 h' (treeC tb order xs.length (some ⟨root, 0, none⟩) vis' + (A1 + F)) ∧ vis' = vis + fs.length ∧ Way key ((order + 1) / 2 - 1) (order - 1) root n t A1 m fs k u Ac Au ∧
      st = ((lastOf (Lb m fs)).1, (lastOf (Lb m fs)).2.1, (lastOf (Lb m fs)).2.2, some ⟨k, 0, none⟩, ()), fun _ h' => (vis + n + 2 - visOf tb h').toNat, ⟨n, [], root, t, 0, A1, vis, s, by simp, Way.start hh so' hsz, rfl⟩, ?_⟩
    rintro _ h1 ⟨m, fs, k, u, Ac, Au, vis', s1, rfl, w, rfl⟩
    have hfs := w.hgt
    dsimp only
    rw [btree_Tree_floor_b1_eq]
    refine condYes rfl ⟨_, s1.cellA 3, ⟨by omega, by omega⟩, ?_⟩
    have hvo := visOf_eq s1
    refine s1.wr (o := 3) (add_mk _ _ _) (by simp) fun h2 s2 => ?_
    have s2 : St h0 h2 (treeC tb order xs.length (some ⟨root, 0, none⟩) (vis + fs.length + 1) + (A1 + F)) := s2
    have sA : St h0 h2 (A1 + (treeC tb order xs.length (some ⟨root, 0, none⟩) (vis + fs.length + 1) + F)) := s2.to
    have sU : St h0 h2 (Au + (Ac + (treeC tb order xs.length (some ⟨root, 0, none⟩) (vis + fs.length + 1) + F))) := (w.bag ▸ sA : St h0 h2 (Ac + Au + _)).to
    obtain ⟨p1, p2, p3, c1, c2, c3, m3, kb, r1, r2, hleaf⟩ := w.sub.read sU
    have hule := w.szb.1.2
    refine ⟨_, _, _, kb.cell 0, ?_⟩
    refine (search_ok (key := key) r1 (by omega) (w.srt.sublist w.sub.sub)).mono fun v3 h3 ⟨hh3, eL, eR, he, hl, hr, hv3⟩ => ?_
    subst hh3
    have hlen : u.es.length = eL.length + eR.length := by rw [he, List.length_append]
    have fin : ∀ Y : Int × Int × Bool, Y = floorS xs key → ∃ A' vis', (vis ≤ vis' ∧ vis' ≤ vis + 1000) ∧ Value.tuple #[.int .i64 Y.1, .int .i64 Y.2.1, .bool Y.2.2] = accV (floorS xs key) ∧ TreeA order xs tb vis' A' ∧ St h0 h3 (A' + F) := by
      rintro _ rfl
      exact ⟨_, vis + fs.length + 1, ⟨by omega, by omega⟩, rfl, .inr ⟨n, root, t, A1, rfl, hh, hfl, hsz⟩, s2.to⟩
    refine ⟨_, _, hv3, cond_intro (fun hf => ?_) (fun hf => ?_)⟩
    · obtain ⟨old, eR', rfl⟩ : ∃ old eR', eR = (key, old) :: eR' := by
        cases eR with
        | nil => cases hf
        | cons e eR' =>
          have : e.1 = key := of_decide_eq_true hf
          exact ⟨e.2, eR', by rw [← this]⟩
      obtain ⟨X, Y, hxy, hX, hY⟩ := w.found he
      rw [hfl] at hxy
      have hg : (u.es.map Prod.snd).getD eL.length 0 = old := by rw [he]; simp [List.getD]
      rw [List.length_cons] at hlen
      refine ⟨_, _, _, Blk.cellA kb 1, r2.int (by omega) (by omega) ?_⟩
      rw [Int.toNat_natCast, hg]
      refine fin (key, old, true) ?_
      have hup := upS_found hxy hX hY
      rw [floorS, hup]
      simp [hasKey, valOf]
    · have hcutL : ∀ f' : Int × Int × Bool, f' = lastOf (Lb m fs ++ eL) → btree_Tree_floor_b2 (some ⟨tb, 0, none⟩) key f'.1 f'.2.1 f'.2.2 (some ⟨k, 0, none⟩) (eL.length : Int) h3 (fun s' h' => (∃ m fs k u Ac Au vis', St h0 h' (treeC tb order xs.length (some ⟨root, 0, none⟩) vis' + (A1 + F)) ∧ vis' = vis + fs.length ∧ Way key ((order + 1) / 2 - 1) (order - 1) root n t A1 m fs k u Ac Au ∧
          s' = ((lastOf (Lb m fs)).1, (lastOf (Lb m fs)).2.1, (lastOf (Lb m fs)).2.2, some ⟨k, 0, none⟩, ())) ∧ (vis + n + 2 - visOf tb h').toNat < (vis + n + 2 - visOf tb h1).toNat) (fun v h' => ∃ A' vis', (vis ≤ vis' ∧ vis' ≤ vis + 1000) ∧ v = accV (floorS xs key) ∧ TreeA order xs tb vis' A' ∧ St h0 h' (A' + F)) := by
        rintro _ rfl
        rw [btree_Tree_floor_b2_eq]
        refine hleaf.mono fun v4 h4 ⟨hh4, hv4⟩ => ?_
        subst hh4
        refine ⟨_, hv4, condP (fun hm0 => ?_) (fun hm0 => ?_)⟩
        · rw [btree_Tree_floor_b3_eq]
          obtain ⟨hcut, hX, hY⟩ := w.cut he hl hr hm0
          rw [hfl] at hcut
          obtain ⟨eX, eY⟩ := cut_eq hcut hX hY
          refine fin _ ?_
          have hkey : hasKey (eR ++ Rb m fs) key = false := by rw [hasKey_app w.gt]; exact hf
          rw [floorS, ← eX, ← eY, hkey]; simp
        · obtain ⟨m', rfl⟩ : ∃ m', m = m' + 1 := ⟨m - 1, by omega⟩
          obtain ⟨f, k', u', Ac', Au', hb, hfL, hfR, hfill, hkL, w'⟩ := w.step he hl hr hf
          have hok := w'.ctx.ok
          subst hfL hfR
          rw [← hb]
          refine w'.kid sA hkL ?_
          refine ⟨⟨m', f :: fs, k', u', Ac', Au', vis + fs.length + 1, s2, by simp; omega, w', ?_⟩, ?_⟩
          · show _ = ((lastOf (Lb (m' + 1) fs ++ before m' f)).1, (lastOf (Lb (m' + 1) fs ++ before m' f)).2.1, (lastOf (Lb (m' + 1) fs ++ before m' f)).2.2, _, ())
            have hbl : (f.tL.map (flat m')).length = f.eL.length := by rw [List.length_map]; exact hok.1
            have : lastOf (Lb (m' + 1) fs ++ before m' f) = lastOf (Lb (m' + 1) fs ++ f.eL) := by
              rw [lastOf_app, lastOf_app]
              by_cases he0 : f.eL = []
              · rw [if_pos he0, if_pos (show before m' f = [] from (wL_nil hbl).2 he0)]
              · rw [if_neg he0, if_neg (fun h : before m' f = [] => he0 ((wL_nil hbl).1 h))]; exact lastOf_wL hbl
            rw [this]
          · rw [hvo, visOf_eq s2]; omega
      refine condP (fun hpos => ?_) (fun hpos => ?_)
      · have hpos' : 0 < eL.length := by omega
        have e1 : ((eL.length : Int) - 1) = ((eL.length - 1 : Nat) : Int) := by omega
        obtain ⟨g1, g2, g3⟩ := last_split hpos'
        have l1 : (u.es.map Prod.fst).getD (eL.length - 1) 0 = (eL.map Prod.fst).getD (eL.length - 1) 0 := by rw [he, List.map_append]; simp [List.getD, List.getElem?_append, Nat.sub_lt hpos']
        have l2 : (u.es.map Prod.snd).getD (eL.length - 1) 0 = (eL.map Prod.snd).getD (eL.length - 1) 0 := by rw [he, List.map_append]; simp [List.getD, List.getElem?_append, Nat.sub_lt hpos']
        refine ⟨_, _, _, kb.cell 0, ⟨by omega, by omega⟩, ?_⟩
        rw [e1]
        refine r1.int (by omega) (by omega) ⟨_, _, _, Blk.cellA kb 1, ⟨by omega, by omega⟩, r2.int (by omega) (by omega) ?_⟩
        rw [Int.toNat_natCast, l1, l2, g1, g2, ← g3]
        have hne : eL ≠ [] := fun h => by rw [h] at hpos'; cases hpos'
        refine hcutL (lastOf eL) ?_
        rw [lastOf_app, if_neg hne]
      · have h0' : eL = [] := List.eq_nil_of_length_eq_zero (by omega)
        refine hcutL (lastOf (Lb m fs)) ?_
        rw [h0', List.append_nil]
theorem ceiling_ok {h0 h : Hp} {order tb : Nat} {xs : List E} {vis key : Int} {A F : Bag} (hor : 3 ≤ order) (h64 : order ≤ 64) (so : Srt xs) (hmost : xs.length ≤ 2000) (hvis : 0 ≤ vis ∧ vis ≤ 1000000000000) (ta : TreeA order xs tb vis A) (s : St h0 h (A + F)) :
    HCalls Try.prog 60 #[ptr tb, .int .i64 key] h (fun v h' => ∃ A' vis', (vis ≤ vis' ∧ vis' ≤ vis + 1000) ∧ v = accV (ceilS xs key) ∧ TreeA order xs tb vis' A' ∧ St h0 h' (A' + F)) := by
  refine btree_Tree_ceiling_call ?_
  rw [btree_Tree_ceiling_b0_eq]
  rcases ta with ⟨rfl, rfl⟩ | ⟨n, root, t, A1, rfl, hh, hfl, hsz⟩
  · refine ⟨_, s.cellA 2, fun st h' => h' = h ∧ st = (0, 0, false, none, ()), fun _ _ => 0, ⟨rfl, rfl⟩, ?_⟩
    rintro _ h1 ⟨rfl, rfl⟩
    rw [btree_Tree_ceiling_b1_eq]
    refine condNo rfl ?_
    rw [btree_Tree_ceiling_b3_eq]
    exact ⟨_, vis, ⟨by omega, by omega⟩, rfl, .inl ⟨rfl, rfl⟩, s⟩
  · have hxl : 2 ^ (n + 1) ≤ xs.length + 1 := by rw [← hfl]; exact hsz.low hh (by omega)
    have hn := pow_bound hxl (by omega)
    have so' : Srt (flat n t) := by rw [hfl]; exact so
    have s := s.to (B := treeC tb order xs.length (some ⟨root, 0, none⟩) vis + (A1 + F))
    refine ⟨_, s.cellA 2, ?_⟩
    refine ⟨fun st h' => ∃ m fs k u Ac Au vis', St h0 h' (treeC tb order xs.length (some ⟨root, 0, none⟩) vis' + (A1 + F)) ∧ vis' = vis + fs.length ∧ Way key ((order + 1) / 2 - 1) (order - 1) root n t A1 m fs k u Ac Au ∧
      st = ((headOf (Rb m fs)).1, (headOf (Rb m fs)).2.1, (headOf (Rb m fs)).2.2, some ⟨k, 0, none⟩, ()), fun _ h' => (vis + n + 2 - visOf tb h').toNat, ⟨n, [], root, t, 0, A1, vis, s, by simp, Way.start hh so' hsz, rfl⟩, ?_⟩
    rintro _ h1 ⟨m, fs, k, u, Ac, Au, vis', s1, rfl, w, rfl⟩
    have hfs := w.hgt
    dsimp only
    rw [btree_Tree_ceiling_b1_eq]
    refine condYes rfl ⟨_, s1.cellA 3, ⟨by omega, by omega⟩, ?_⟩
    have hvo := visOf_eq s1
    refine s1.wr (o := 3) (add_mk _ _ _) (by simp) fun h2 s2 => ?_
    have s2 : St h0 h2 (treeC tb order xs.length (some ⟨root, 0, none⟩) (vis + fs.length + 1) + (A1 + F)) := s2
    have sA : St h0 h2 (A1 + (treeC tb order xs.length (some ⟨root, 0, none⟩) (vis + fs.length + 1) + F)) := s2.to
    have sU : St h0 h2 (Au + (Ac + (treeC tb order xs.length (some ⟨root, 0, none⟩) (vis + fs.length + 1) + F))) := (w.bag ▸ sA : St h0 h2 (Ac + Au + _)).to
    obtain ⟨p1, p2, p3, c1, c2, c3, m3, kb, r1, r2, hleaf⟩ := w.sub.read sU
    have hule := w.szb.1.2
    refine ⟨_, _, _, kb.cell 0, ?_⟩
    refine (search_ok (key := key) r1 (by omega) (w.srt.sublist w.sub.sub)).mono fun v3 h3 ⟨hh3, eL, eR, he, hl, hr, hv3⟩ => ?_
    subst hh3
    have hlen : u.es.length = eL.length + eR.length := by rw [he, List.length_append]
    have fin : ∀ Y : Int × Int × Bool, Y = ceilS xs key → ∃ A' vis', (vis ≤ vis' ∧ vis' ≤ vis + 1000) ∧ Value.tuple #[.int .i64 Y.1, .int .i64 Y.2.1, .bool Y.2.2] = accV (ceilS xs key) ∧ TreeA order xs tb vis' A' ∧ St h0 h3 (A' + F) := by
      rintro _ rfl
      exact ⟨_, vis + fs.length + 1, ⟨by omega, by omega⟩, rfl, .inr ⟨n, root, t, A1, rfl, hh, hfl, hsz⟩, s2.to⟩
    refine ⟨_, _, hv3, cond_intro (fun hf => ?_) (fun hf => ?_)⟩
    · obtain ⟨old, eR', rfl⟩ : ∃ old eR', eR = (key, old) :: eR' := by
        cases eR with
        | nil => cases hf
        | cons e eR' =>
          have : e.1 = key := of_decide_eq_true hf
          exact ⟨e.2, eR', by rw [← this]⟩
      obtain ⟨X, Y, hxy, hX, hY⟩ := w.found he
      rw [hfl] at hxy
      have hg : (u.es.map Prod.snd).getD eL.length 0 = old := by rw [he]; simp [List.getD]
      rw [List.length_cons] at hlen
      refine ⟨_, _, _, Blk.cellA kb 1, r2.int (by omega) (by omega) ?_⟩
      rw [Int.toNat_natCast, hg]
      refine fin (key, old, true) ?_
      have hup := upS_found hxy hX hY
      rw [ceilS, hup]; rfl
    · have hcutL : ∀ f' : Int × Int × Bool, f' = headOf (eR ++ Rb m fs) → btree_Tree_ceiling_b2 (some ⟨tb, 0, none⟩) key f'.1 f'.2.1 f'.2.2 (some ⟨k, 0, none⟩) (eL.length : Int) h3 (fun s' h' => (∃ m fs k u Ac Au vis', St h0 h' (treeC tb order xs.length (some ⟨root, 0, none⟩) vis' + (A1 + F)) ∧ vis' = vis + fs.length ∧ Way key ((order + 1) / 2 - 1) (order - 1) root n t A1 m fs k u Ac Au ∧
          s' = ((headOf (Rb m fs)).1, (headOf (Rb m fs)).2.1, (headOf (Rb m fs)).2.2, some ⟨k, 0, none⟩, ())) ∧ (vis + n + 2 - visOf tb h').toNat < (vis + n + 2 - visOf tb h1).toNat) (fun v h' => ∃ A' vis', (vis ≤ vis' ∧ vis' ≤ vis + 1000) ∧ v = accV (ceilS xs key) ∧ TreeA order xs tb vis' A' ∧ St h0 h' (A' + F)) := by
        rintro _ rfl
        rw [btree_Tree_ceiling_b2_eq]
        refine hleaf.mono fun v4 h4 ⟨hh4, hv4⟩ => ?_
        subst hh4
        refine ⟨_, hv4, condP (fun hm0 => ?_) (fun hm0 => ?_)⟩
        · rw [btree_Tree_ceiling_b3_eq]
          obtain ⟨hcut, hX, hY⟩ := w.cut he hl hr hm0
          rw [hfl] at hcut
          obtain ⟨eX, eY⟩ := cut_eq hcut hX hY
          refine fin _ ?_
          have hkey : hasKey (eR ++ Rb m fs) key = false := by rw [hasKey_app w.gt]; exact hf
          rw [ceilS, ← eY]
        · obtain ⟨m', rfl⟩ : ∃ m', m = m' + 1 := ⟨m - 1, by omega⟩
          obtain ⟨f, k', u', Ac', Au', hb, hfL, hfR, hfill, hkL, w'⟩ := w.step he hl hr hf
          have hok := w'.ctx.ok
          subst hfL hfR
          rw [← hb]
          refine w'.kid sA hkL ?_
          refine ⟨⟨m', f :: fs, k', u', Ac', Au', vis + fs.length + 1, s2, by simp; omega, w', ?_⟩, ?_⟩
          · show _ = ((headOf (behind m' f ++ Rb (m' + 1) fs)).1, (headOf (behind m' f ++ Rb (m' + 1) fs)).2.1, (headOf (behind m' f ++ Rb (m' + 1) fs)).2.2, _, ())
            have hbl : (f.tR.map (flat m')).length = f.eR.length := by rw [List.length_map]; exact hok.2.1
            have : headOf (behind m' f ++ Rb (m' + 1) fs) = headOf (f.eR ++ Rb (m' + 1) fs) := by
              rw [headOf_app, headOf_app]
              by_cases he0 : f.eR = []
              · rw [if_pos he0, if_pos (show behind m' f = [] from (headOf_wR hbl).2.2 he0)]
              · rw [if_neg he0, if_neg (fun h : behind m' f = [] => he0 ((headOf_wR hbl).2.1 h))]; exact (headOf_wR hbl).1
            rw [this]
          · rw [hvo, visOf_eq s2]; omega
      refine ⟨_, _, _, kb.cell 0, condP (fun hpos => ?_) (fun hpos => ?_)⟩
      · obtain ⟨e, eR', rfl⟩ : ∃ e eR', eR = e :: eR' := by
          cases eR with
          | nil => simp at hlen; omega
          | cons e eR' => exact ⟨e, eR', rfl⟩
        have l1 : (u.es.map Prod.fst).getD eL.length 0 = e.1 := by rw [he]; simp [List.getD]
        have l2 : (u.es.map Prod.snd).getD eL.length 0 = e.2 := by rw [he]; simp [List.getD]
        rw [List.length_cons] at hlen
        refine ⟨_, _, _, kb.cell 0, r1.int (by omega) (by omega) ⟨_, _, _, Blk.cellA kb 1, r2.int (by omega) (by omega) ?_⟩⟩
        rw [Int.toNat_natCast, l1, l2]
        exact hcutL (e.1, e.2, true) rfl
      · have h0' : eR = [] := List.eq_nil_of_length_eq_zero (by omega)
        refine hcutL (headOf (Rb m fs)) ?_
        rw [h0', List.nil_append]
/-! ### the methods -/
def getS (xs : List E) (key : Int) : Int × Int := if KeyP key then (if hasKey (upS xs key) key = true then (valOf (upS xs key), 0) else (0, 12)) else (0, 1)
def FloorS (xs : List E) (key : Int) : Int × Int × Int := if KeyP key then (if (floorS xs key).2.2 = true then ((floorS xs key).1, (floorS xs key).2.1, 0) else (0, 0, 12)) else (0, 0, 1)
def CeilS (xs : List E) (key : Int) : Int × Int × Int := if KeyP key then (if (ceilS xs key).2.2 = true then ((ceilS xs key).1, (ceilS xs key).2.1, 0) else (0, 0, 12)) else (0, 0, 1)
theorem low_lt {xs : List E} {key : Int} : ∀ e ∈ lowS xs key, e.1 < key := fun e he => of_decide_eq_true (List.all_eq_true.1 List.all_takeWhile e he)
section
variable {h0 h : Hp} {order tb : Nat} {xs : List E} {vis key : Int} {A F : Bag} (hor : 3 ≤ order) (h64 : order ≤ 64) (so : Srt xs) (hmost : xs.length ≤ 2000) (hvis : 0 ≤ vis ∧ vis ≤ 1000000000000) (ta : TreeA order xs tb vis A) (s : St h0 h (A + F))
include hor h64 so hmost hvis ta s
theorem Get_ok : HCalls Try.prog 29 #[ptr tb, .int .i64 key] h (fun v h' => ∃ A' vis', (vis ≤ vis' ∧ vis' ≤ vis + 1000) ∧ v = .tuple #[.int .i64 (getS xs key).1, .int .i64 (getS xs key).2] ∧ TreeA order xs tb vis' A' ∧ St h0 h' (A' + F)) := by
  refine btree_Tree_Get_call ?_
  rw [btree_Tree_Get_b0_eq]
  refine condNo rfl ?_
  refine s.new (cs := [.int .i64 key]) fun b h1 _ s1 => ?_
  refine (number1 s1.blk).mono fun v1 h2 ⟨hh, hv⟩ => ?_
  subst hh
  refine ⟨_, hv, condN (fun hk => ?_) (fun hk => ?_)⟩
  · rw [getS, if_neg hk]
    exact ⟨A, vis, ⟨by omega, by omega⟩, rfl, ta, s1.drop⟩
  · rw [btree_Tree_Get_b1_eq]
    refine (floor_ok (key := key) hor h64 so hmost hvis ta s1.drop).mono fun v2 h3 ⟨A', vis', hw, hv2, ta', s3⟩ => ?_
    refine ⟨_, _, _, hv2, ?_⟩
    rw [getS, if_pos hk]
    by_cases hkey : hasKey (upS xs key) key = true
    · have e : floorS xs key = (key, valOf (upS xs key), true) := if_pos hkey
      rw [e, if_pos hkey]
      refine condNo rfl (condNo (by simp) ?_)
      rw [btree_Tree_Get_b2_eq]
      exact ⟨A', vis', hw, rfl, ta', s3⟩
    · have e : floorS xs key = lastOf (lowS xs key) := if_neg hkey
      rw [e, if_neg hkey]
      refine cond_intro (fun h4 => ?_) (fun h4 => ?_)
      · exact ⟨A', vis', hw, rfl, ta', s3⟩
      · have hlt : (lastOf (lowS xs key)).1 ≠ key := by
          rw [lastOf] at h4 ⊢
          cases hg : (lowS xs key).getLast? with
          | none => rw [hg] at h4; cases h4
          | some e =>
            have := low_lt (xs := xs) (key := key) e (List.mem_of_getLast? hg)
            show e.1 ≠ key
            omega
        refine condYes (by rw [decide_eq_false hlt]; rfl) ?_
        exact ⟨A', vis', hw, rfl, ta', s3⟩
theorem Floor_ok : HCalls Try.prog 30 #[ptr tb, .int .i64 key] h (fun v h' => ∃ A' vis', (vis ≤ vis' ∧ vis' ≤ vis + 1000) ∧ v = .tuple #[.int .i64 (FloorS xs key).1, .int .i64 (FloorS xs key).2.1, .int .i64 (FloorS xs key).2.2] ∧ TreeA order xs tb vis' A' ∧ St h0 h' (A' + F)) := by
  refine btree_Tree_Floor_call ?_
  rw [btree_Tree_Floor_b0_eq]
  refine condNo rfl ?_
  refine s.new (cs := [.int .i64 key]) fun b h1 _ s1 => ?_
  refine (number1 s1.blk).mono fun v1 h2 ⟨hh, hv⟩ => ?_
  subst hh
  refine ⟨_, hv, condN (fun hk => ?_) (fun hk => ?_)⟩
  · rw [FloorS, if_neg hk]
    exact ⟨A, vis, ⟨by omega, by omega⟩, rfl, ta, s1.drop⟩
  · rw [btree_Tree_Floor_b1_eq]
    refine (floor_ok (key := key) hor h64 so hmost hvis ta s1.drop).mono fun v2 h3 ⟨A', vis', hw, hv2, ta', s3⟩ => ?_
    refine ⟨_, _, _, hv2, ?_⟩
    rw [FloorS, if_pos hk]
    refine cond_intro (fun h4 => ?_) (fun h4 => ?_)
    · rw [if_neg (by simpa using h4)]; exact ⟨A', vis', hw, rfl, ta', s3⟩
    · rw [if_pos (by simpa using h4)]; exact ⟨A', vis', hw, rfl, ta', s3⟩
theorem Ceil_ok : HCalls Try.prog 31 #[ptr tb, .int .i64 key] h (fun v h' => ∃ A' vis', (vis ≤ vis' ∧ vis' ≤ vis + 1000) ∧ v = .tuple #[.int .i64 (CeilS xs key).1, .int .i64 (CeilS xs key).2.1, .int .i64 (CeilS xs key).2.2] ∧ TreeA order xs tb vis' A' ∧ St h0 h' (A' + F)) := by
  refine btree_Tree_Ceiling_call ?_
  rw [btree_Tree_Ceiling_b0_eq]
  refine condNo rfl ?_
  refine s.new (cs := [.int .i64 key]) fun b h1 _ s1 => ?_
  refine (number1 s1.blk).mono fun v1 h2 ⟨hh, hv⟩ => ?_
  subst hh
  refine ⟨_, hv, condN (fun hk => ?_) (fun hk => ?_)⟩
  · rw [CeilS, if_neg hk]
    exact ⟨A, vis, ⟨by omega, by omega⟩, rfl, ta, s1.drop⟩
  · rw [btree_Tree_Ceiling_b1_eq]
    refine (ceiling_ok (key := key) hor h64 so hmost hvis ta s1.drop).mono fun v2 h3 ⟨A', vis', hw, hv2, ta', s3⟩ => ?_
    refine ⟨_, _, _, hv2, ?_⟩
    rw [CeilS, if_pos hk]
    refine cond_intro (fun h4 => ?_) (fun h4 => ?_)
    · rw [if_neg (by simpa using h4)]; exact ⟨A', vis', hw, rfl, ta', s3⟩
    · rw [if_pos (by simpa using h4)]; exact ⟨A', vis', hw, rfl, ta', s3⟩
omit hor h64 so hmost hvis in
theorem Len_ok : HCalls Try.prog 13 #[ptr tb] h (fun v h' => h' = h ∧ v = .int .i64 (xs.length : Int)) := by
  refine btree_Tree_Len_call ?_
  rw [btree_Tree_Len_b0_eq]
  obtain ⟨root, A1, rfl, _⟩ := ta.vis
  exact condNo rfl ⟨_, (s.at (treeC tb order xs.length root vis)).cellA 1, rfl, rfl⟩
end
theorem New_ok {order : Int} {h : Hp} : HCalls Try.prog 9 #[.int .i64 order] h (fun v h' => if order < 3 ∨ 64 < order then h' = h ∧ v = .tuple #[.pointer none, .int .i64 2] else ∃ tb A, v = .tuple #[ptr tb, .int .i64 0] ∧ TreeA order.toNat [] tb 0 A ∧ St h h' A) := by
  refine btree_New_call ?_
  rw [btree_New_b0_eq]
  refine condP (fun h1 => ?_) (fun h1 => condP (fun h2 => ?_) (fun h2 => ?_))
  · rw [if_pos (.inl h1)]; exact ⟨rfl, rfl⟩
  · rw [if_pos (.inr h2)]; exact ⟨rfl, rfl⟩
  · rw [btree_New_b1_eq]
    have e : order = (order.toNat : Int) := by omega
    refine (St.start h).new (cs := [.int .i64 order, .int .i64 0, .pointer none, .int .i64 0]) fun b h' _ s' => ?_
    show ite _ _ _
    rw [if_neg (by omega)]
    refine ⟨b, _, rfl, .inl ⟨rfl, rfl⟩, ?_⟩
    rw [treeC, ← e]
    exact s'.to
end Go.Proofs.Ytaemnjblcpknpaa
