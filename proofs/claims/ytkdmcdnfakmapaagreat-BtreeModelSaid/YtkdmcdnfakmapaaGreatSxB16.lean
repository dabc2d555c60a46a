/- Part B6 B7 B8 B9 B10 B11 B12 B13 I8 B14 B15 B16 of the proof: contracts of functions of the program, and what follows from them. -/
import Derived.Test.YtkdmcdnfakmapaaGreatSxB5
/- B-trees: put. -/
set_option maxRecDepth 100000
namespace Go.Proofs.YtkdmcdnfakmapaaGreat
open Go Go.Sx
section
variable {h0 : Hp} {order lo hi n len root tb : Nat} {vis : Int} {target : List E} {N : List Nat} {I : List Int} {B F : Bag}
/-- An entry is to come into the node at the end of a way. -/
def PutS (h0 : Hp) (order lo hi n len root tb : Nat) (vis : Int) (target : List E) (N : List Nat) (I : List Int) (B F : Bag) (e : E) (right : Option Addr) (d : Int) (h : Hp) : Prop :=
  (∃ m fs k eL eR U Ac Au N' I', d = (fs.length : Int) ∧ N = blks fs ++ k :: N' ∧ I = idxs fs ++ (eL.length : Int) :: I' ∧ HoldC root m fs k Ac ∧ Pend m k right eL eR e U Au ∧
    St h0 h (treeC tb order len (some ⟨root, 0, none⟩) vis + (Ac + (Au + (B + F)))) ∧ Lb m fs ++ (flat m U ++ Rb m fs) = target ∧ SzC lo hi m fs ∧ (lo' lo fs ≤ (eL ++ eR).length ∧ (eL ++ eR).length ≤ hi) ∧ (∀ m', m = m' + 1 → ∀ c ∈ U.ts, Sz lo hi m' c) ∧ m + fs.length = n) ∨
  (d = -1 ∧ ∃ r tl tr A1 A2, right = some ⟨r, 0, none⟩ ∧ Hold n root tl A1 ∧ Hold n r tr A2 ∧ St h0 h (treeC tb order len (some ⟨root, 0, none⟩) vis + (A1 + (A2 + (B + F)))) ∧ flat n tl ++ e :: flat n tr = target ∧ Sz lo hi n tl ∧ Sz lo hi n tr)

theorem put_b4_ok {h : Hp} {m k : Nat} {U : BT} {fs : List Fr} {Ac Au : Bag} {N' : List Nat} {I' : List Int} {i : Int} {visits : Int} {nodes atv : Option Addr} {nL nC aL aC : Nat} {nx0 : Int × Int × Int × Option Addr × Int × Unit → Hp → Prop} {K : Value → Hp → Prop}
    (hlo : lo = (order + 1) / 2 - 1) (hhi : hi = order - 1) (h3 : 3 ≤ order) (h64 : order ≤ 64) (hv : 0 ≤ visits ∧ visits ≤ 1000) (hfl : fs.length ≤ 1000)
    (hN : N = blks fs ++ k :: N') (hI : I = idxs fs ++ i :: I') (hc : HoldC root m fs k Ac) (hu : Hold m k U Au) (s : St h0 h (treeC tb order len (some ⟨root, 0, none⟩) vis + (Ac + (Au + (B + F)))))
    (hf : Lb m fs ++ (flat m U ++ Rb m fs) = target) (hlen : target.length = len) (sc : SzC lo hi m fs) (hU : lo' lo fs + 1 ≤ U.es.length ∧ U.es.length ≤ hi + 1) (hk : ∀ m', m = m' + 1 → ∀ c ∈ U.ts, Sz lo hi m' c) (hn : m + fs.length = n)
    (hK : ∀ h' A, TreeA order target tb vis A → St h0 h' (A + F) → K (.tuple #[.int .i64 0, .bool false, .int .i64 visits, .int .i64 0]) h')
    (hnx : ∀ e right h', PutS h0 order lo hi n len root tb vis target N I B F e right ((fs.length : Int) - 1) h' → nx0 (e.1, e.2, visits + 1, right, (fs.length : Int) - 1, ()) h') :
    btree_Tree_put_b4 (some ⟨tb, 0, none⟩) visits nodes nL nC atv aL aC (fs.length : Int) (some ⟨k, 0, none⟩) h nx0 K := by
  rw [btree_Tree_put_b4_eq]
  have hu0 := hu
  obtain ⟨ks, A1, A2, hA, hna, hk0, hkl⟩ := hu.node
  obtain ⟨p1, p2, p3, e1, e2, e3, C1, C2, C3, rfl, ns⟩ := hna
  subst hA
  have kb := (s.at (nodeC k U.es.length ks.length p1 p2 p3 e1 e2 e3)).blk
  refine ⟨_, _, _, kb.cell 0, _, s.cell 0, condP (fun hlt => ?_) (fun hge => ?_)⟩
  · refine hK h _ (.inr ⟨n, root, plug fs U, Ac + (nodeC k U.es.length ks.length p1 p2 p3 e1 e2 e3 + (C1 + (C2 + C3)) + A2), ?_, ?_, ?_, ?_⟩) ((s.to (B := B + (treeC tb order len (some ⟨root, 0, none⟩) vis + (Ac + (nodeC k U.es.length ks.length p1 p2 p3 e1 e2 e3 + (C1 + (C2 + C3)) + A2)) + F))).drop)
    · rw [hlen]
    · rw [← hn]; exact hc.plug hu0
    · rw [← hn, flat_plug U hc.ok]; exact hf
    · rw [← hn, ← hlo, ← hhi]
      exact sc.plug ⟨⟨by omega, by omega⟩, hk⟩
  · have hlo1 : 1 ≤ lo' lo fs := by cases fs with | nil => exact Nat.le_refl _ | cons f fs => show 1 ≤ lo; omega
    have hUe : U.es.length = order := by omega
    have s1 : St h0 h (nodeC k U.es.length ks.length p1 p2 p3 e1 e2 e3 + (C1 + (C2 + C3)) + A2 + (treeC tb order len (some ⟨root, 0, none⟩) vis + (Ac + (B + F)))) := s.to
    refine (hold_split hu0 s1 (by omega) (by omega)).mono fun v h' ⟨r, D1, D2, hv9, g1, g2, s2⟩ => ?_
    refine ⟨_, _, _, hv9, ⟨by omega, by omega⟩, ?_⟩
    rw [btree_Tree_put_b5_eq]
    refine ⟨⟨by omega, by omega⟩, hnx (mid U) _ h' ?_⟩
    have z1 : Sz lo hi m (tl U) := Sz.tl (by omega) (by omega) (by omega) hk
    have z2 : Sz lo hi m (tr U) := Sz.tr (by omega) (by omega) hk
    rw [flat_split hu0 (by omega)] at hf
    cases fs with
    | nil =>
      obtain ⟨rfl, rfl⟩ := hc
      refine .inr ⟨by simp, r, tl U, tr U, D1, D2, rfl, ?_, ?_, s2.to, ?_, ?_, ?_⟩
      · rw [← hn]; exact g1
      · rw [← hn]; exact g2
      · rw [← hn]; simpa [Lb, Rb] using hf
      · rw [← hn]; exact z1
      · rw [← hn]; exact z2
    | cons f fs =>
      obtain ⟨E1, E2, rfl, hF, hc'⟩ := hc
      obtain ⟨l1, l2, G1, G2, G3, rfl, hnf, aL', aR'⟩ := hF
      have q1 := aL'.len
      have q2 := aR'.len
      refine .inl ⟨m + 1, fs, f.b, f.eL, f.eR, .nd (f.eL ++ mid U :: f.eR) (f.tL ++ tl U :: tr U :: f.tR), E2, G1 + (G2 + (D1 + (D2 + G3))), k :: N', i :: I', by simp, ?_, ?_, hc', ?_, ?_, ?_, sc.2.2.2, ?_, ?_, ?_⟩
      · rw [hN]; simp [blks]
      · rw [hI]; simp [idxs]
      · refine ⟨rfl, .inr ⟨m, r, f.kL ++ [k], f.kR, G1, G2 + (D1 + (D2 + G3)), rfl, rfl, rfl, by simpa using hnf, by simp; omega, by omega, ?_⟩⟩
        show AllH (Hold m) (f.kL ++ [k] ++ r :: f.kR) (f.tL ++ tl U :: tr U :: f.tR) _
        rw [List.append_assoc]
        exact aL'.append ⟨D1, D2 + G3, rfl, g1, D2, G3, rfl, g2, aR'⟩
      · exact s2.to
      · show _ ++ (weave ((f.tL ++ tl U :: tr U :: f.tR).map (flat m)) (f.eL ++ mid U :: f.eR) ++ _) = target
        rw [List.map_append, List.map_cons, weave_at _ _ _ _ _ (by simpa using l1), ← hf]
        simp [Lb, Rb, before, behind, wR]
      · have := sc.1
        cases fs <;> exact this
      · intro m' hm' c hc1
        obtain rfl : m = m' := by omega
        simp only [BT.ts, List.mem_append, List.mem_cons] at hc1
        rcases hc1 with h5 | rfl | rfl | h5
        · exact sc.2.1 c h5
        · exact z1
        · exact z2
        · exact sc.2.2.1 c h5
      · simp only [List.length_cons] at hn; omega
theorem blks_get (fs : List Fr) (k : Nat) (N' : List Nat) : (blks fs ++ k :: N').getD fs.length 0 = k := by simp [List.getD, blks]
theorem idxs_get (fs : List Fr) (i : Int) (I' : List Int) : (idxs fs ++ i :: I').getD fs.length 0 = i := by simp [List.getD, idxs]
end
end Go.Proofs.YtkdmcdnfakmapaaGreat
namespace Go.Proofs.YtkdmcdnfakmapaaGreat
open Go Go.Sx
/-- What put leaves, and what it returns. -/
def PutR (order : Nat) (xs : List E) (tb : Nat) (vis : Int) (key value : Int) (F : Bag) (h0 : Hp) (v : Value) (h' : Hp) : Prop :=
  ∃ A' X Y, xs = X ++ Y ∧ (∀ x ∈ X, x.1 < key) ∧ (∀ y ∈ Y, key ≤ y.1) ∧ St h0 h' (A' + F) ∧
    ((∃ old Y' w, Y = (key, old) :: Y' ∧ (1 ≤ w ∧ w ≤ 1000) ∧ v = .tuple #[.int .i64 old, .bool true, .int .i64 w, .int .i64 0] ∧ TreeA order (X ++ (key, value) :: Y') tb vis A') ∨
      (hasKey Y key = false ∧ 2000 ≤ xs.length ∧ v = .tuple #[.int .i64 0, .bool false, .int .i64 0, .int .i64 4] ∧ TreeA order xs tb vis A') ∨
      (hasKey Y key = false ∧ xs.length < 2000 ∧ ∃ w, (1 ≤ w ∧ w ≤ 1000) ∧ v = .tuple #[.int .i64 0, .bool false, .int .i64 w, .int .i64 0] ∧ TreeA order (X ++ (key, value) :: Y) tb vis A'))
theorem path_nil {h : Hp} {ta : Addr} {key : Int} (ht : cell h (ta.add 2) = some (.pointer none)) :
    HCalls Tryz.prog 59 #[.pointer (some ta), .int .i64 key] h (fun v h' => h' = h ∧ v = .tuple #[.slice none 0 0, .slice none 0 0, .bool false]) := by
  refine btree_Tree_path_call ?_
  rw [btree_Tree_path_b0_eq]
  refine ⟨_, ht, fun st h' => h' = h ∧ st = ((none, 0, 0), (none, 0, 0), none, ()), fun _ _ => 0, ⟨rfl, rfl⟩, ?_⟩
  rintro _ h1 ⟨rfl, rfl⟩
  rw [btree_Tree_path_b1_eq]
  refine condNo rfl ?_
  rw [btree_Tree_path_b3_eq]
  exact ⟨rfl, rfl⟩
theorem hasKey_app {key : Int} {a b : List E} (hb : ∀ x ∈ b, key < x.1) : hasKey (a ++ b) key = hasKey a key := by
  cases a with
  | cons e a => rfl
  | nil =>
    cases b with
    | nil => rfl
    | cons e b =>
      have := hb e (by simp)
      show decide (e.1 = key) = false
      exact decide_eq_false (by omega)
/-- An entry of a node among all entries of its subtree. -/
theorem node_cut {n b : Nat} {u : BT} {A : Bag} {eL eR : List E} {e : E} (hh : Hold n b u A) (he : u.es = eL ++ e :: eR) : ∃ WL WR, ∀ e', flat n (.nd (eL ++ e' :: eR) u.ts) = WL ++ e' :: WR := by
  cases n with
  | zero => exact ⟨eL, eR, fun e' => rfl⟩
  | succ n =>
    have hl := hh.len
    rw [he] at hl
    simp only [List.length_append, List.length_cons] at hl
    refine ⟨weave ((u.ts.take (eL.length + 1)).map (flat n)) eL, weave ((u.ts.drop (eL.length + 1)).map (flat n)) eR, fun e' => ?_⟩
    show weave (u.ts.map (flat n)) (eL ++ e' :: eR) = _
    rw [← weave_cut]
    · rw [← List.map_append, List.take_append_drop]
    · rw [List.length_map, List.length_take]; omega
    · rw [List.length_map, List.length_drop]; omega
theorem bt_eta (u : BT) : u = .nd u.es u.ts := by cases u; rfl
theorem map_set_snd (eL : List E) (key old value : Int) (eR : List E) : ((eL ++ (key, old) :: eR).map Prod.snd).set eL.length value = (eL ++ (key, value) :: eR).map Prod.snd := by
  rw [List.map_append, List.map_append, List.set_append_right _ _ (by simp)]
  simp
/-- A value is replaced in a node. -/
theorem Hold.setVal {h0 h : Hp} {n b : Nat} {u : BT} {A F : Bag} {eL eR : List E} {key old value : Int} {Q : Int → Hp → Prop} (hh : Hold n b u A) (he : u.es = eL ++ (key, old) :: eR) (s : St h0 h (A + F))
    (hk : ∀ h' A', Hold n b (.nd (eL ++ (key, value) :: eR) u.ts) A' → St h0 h' (A' + F) → Q old h') :
    NN (some (⟨b, 0, none⟩ : Addr)) fun a3 => ∃ (a4 : Option Addr) (L1 C1 : Nat), cell h (a3.add 1) = some (.slice a4 L1 C1) ∧ NN (some (⟨b, 0, none⟩ : Addr)) fun a5 => ∃ (a6 : Option Addr) (L2 C2 : Nat), cell h (a5.add 1) = some (.slice a6 L2 C2) ∧
      (0 ≤ (eL.length : Int) ∧ (eL.length : Int) < (L2 : Int)) ∧ NN a6 fun a7 => ∃ n2 : Int, cell h (a7.add (Int.toNat (eL.length : Int) * 1)) = some (.int .i64 n2) ∧ (0 ≤ (eL.length : Int) ∧ (eL.length : Int) < (L1 : Int)) ∧ NN a4 fun a8 => Wr h (a8.add (Int.toNat (eL.length : Int) * 1)) (.int .i64 value) fun h2 => Q n2 h2 := by
  obtain ⟨ks, A1, A2, rfl, hna, hrest⟩ : ∃ ks A1 A2, A = A1 + A2 ∧ NodeA b u.es ks A1 ∧ ∀ es B, es.length = u.es.length → NodeA b es ks B → Hold n b (.nd es u.ts) (B + A2) := by
    cases n with
    | zero => exact ⟨[], A, 0, (Bag.add_zero A).symm, hh.2, fun es B _ hB => ⟨hh.1, by rw [Bag.add_zero]; exact hB⟩⟩
    | succ n =>
      obtain ⟨ks, A1, A2, e, h1, hl, h2⟩ := hh
      exact ⟨ks, A1, A2, e, h1, fun es B hes hB => ⟨ks, B, A2, rfl, hB, by rw [hl]; show _ = es.length + 1; rw [hes], h2⟩⟩
  obtain ⟨p1, p2, p3, c1, c2, c3, C1, C2, C3, rfl, ns⟩ := hna
  have kb := (s.at (nodeC b u.es.length ks.length p1 p2 p3 c1 c2 c3)).blk
  have hlt : eL.length < u.es.length := by rw [he]; simp
  have s2 : St h0 h (C2 + (nodeC b u.es.length ks.length p1 p2 p3 c1 c2 c3 + (C1 + (C3 + (A2 + F))))) := s.to
  have hg : (u.es.map Prod.snd).getD eL.length 0 = old := by rw [he]; simp [List.getD]
  refine ⟨_, _, _, Blk.cellA kb 1, _, _, _, Blk.cellA kb 1, (ns.s2.rd s2).int (by omega) (by omega) ?_⟩
  rw [Int.toNat_natCast, hg]
  refine ns.s2.wrI s2 (x := value) (by omega) (by omega) rfl rfl fun h2 C2' o2 s3 => ?_
  rw [Int.toNat_natCast, he, map_set_snd, ← he] at o2
  have hel : (eL ++ (key, value) :: eR).length = u.es.length := by rw [he]; simp
  have hef : (eL ++ (key, value) :: eR).map Prod.fst = u.es.map Prod.fst := by rw [he]; simp
  refine hk h2 _ (hrest _ (nodeC b u.es.length ks.length p1 p2 p3 c1 c2 c3 + (C1 + (C2' + C3))) hel ⟨p1, p2, p3, c1, c2, c3, C1, C2', C3, by rw [hel], ⟨by rw [hel, hef]; exact ns.s1, by rw [hel]; exact o2, ns.s3⟩⟩) s3.to
/-- The place of a key in all entries, from its place in a node. -/
theorem Way.cut {key : Int} {lo hi root n m k : Nat} {t u : BT} {A Ac Au : Bag} {fs : List Fr} {eL eR : List E} (w : Way key lo hi root n t A m fs k u Ac Au) (he : u.es = eL ++ eR) (hl : ∀ e ∈ eL, e.1 < key) (hr : ∀ e ∈ eR, key ≤ e.1) (hm : m = 0) :
    flat n t = (Lb m fs ++ eL) ++ (eR ++ Rb m fs) ∧ (∀ x ∈ Lb m fs ++ eL, x.1 < key) ∧ (∀ y ∈ eR ++ Rb m fs, key ≤ y.1) := by
  subst hm
  refine ⟨?_, ?_, ?_⟩
  · rw [← w.plug, ← w.hgt, flat_plug u w.ctx.ok]
    show _ ++ (u.es ++ _) = _
    rw [he]; simp
  · intro x hx
    rcases List.mem_append.1 hx with h | h
    · exact w.lt x h
    · exact hl x h
  · intro x hx
    rcases List.mem_append.1 hx with h | h
    · exact hr x h
    · exact Int.le_of_lt (w.gt x h)
theorem put_ok {h0 h : Hp} {order tb : Nat} {xs : List E} {vis key value : Int} {A F : Bag} (hor : 3 ≤ order) (h64 : order ≤ 64) (so : Srt xs) (hmost : xs.length ≤ 2000) (ta : TreeA order xs tb vis A) (s : St h0 h (A + F)) :
    HCalls Tryz.prog 37 #[ptr tb, .int .i64 key, .int .i64 value] h (PutR order xs tb vis key value F h0) := by
  refine btree_Tree_put_call ?_
  rw [btree_Tree_put_b0_eq]
  rcases ta with ⟨rfl, rfl⟩ | ⟨n, root, t, A1, rfl, hh, hfl, hsz⟩
  · -- no entries
    refine (path_nil (s.cellA 2)).mono fun v1 h1 ⟨hh, hv⟩ => ?_
    subst hh
    refine ⟨_, _, _, _, _, _, _, hv, condNo rfl ⟨_, s.cellA 1, condNo rfl ⟨_, s.cellA 1, ⟨by omega, by omega⟩, ?_⟩⟩⟩
    refine s.wr (o := 1) (add_mk _ _ _) (by simp) fun h3 s3 => condYes rfl ?_
    refine s3.new (cs := [.int .i64 key]) fun b1 h4 _ s4 => ?_
    refine s4.new (cs := [.int .i64 value]) fun b2 h5 _ s5 => ?_
    refine s5.new (cs := [.slice (some ⟨b1, 0, none⟩) 1 1, .slice (some ⟨b2, 0, none⟩) 1 1, .slice none 0 0]) fun b3 h6 _ s6 => ?_
    have s6 : St h0 h6 (nodeC b3 1 0 (some ⟨b1, 0, none⟩) (some ⟨b2, 0, none⟩) none 1 1 0 + (cA b2 [.int .i64 value] (TI).e + (cA b1 [.int .i64 key] (TI).e + (treeC tb order 1 none vis + F)))) := s6
    have s7 := s6.to (B := treeC tb order 1 none vis + (nodeC b3 1 0 (some ⟨b1, 0, none⟩) (some ⟨b2, 0, none⟩) none 1 1 0 + (cA b1 [.int .i64 key] (TI).e + (cA b2 [.int .i64 value] (TI).e + F))))
    refine s7.wr (o := 2) (add_mk _ _ _) (by simp) fun h7 s8 => ?_
    have s8 : St h0 h7 (treeC tb order 1 (some ⟨b3, 0, none⟩) vis + (nodeC b3 1 0 (some ⟨b1, 0, none⟩) (some ⟨b2, 0, none⟩) none 1 1 0 + (cA b1 [.int .i64 key] (TI).e + (cA b2 [.int .i64 value] (TI).e + F)))) := s8
    refine ⟨_, [], [], rfl, (fun _ h => nomatch h), (fun _ h => nomatch h), s8.to (B := treeC tb order 1 (some ⟨b3, 0, none⟩) vis + (nodeC b3 1 0 (some ⟨b1, 0, none⟩) (some ⟨b2, 0, none⟩) none 1 1 0 + (cA b1 [.int .i64 key] (TI).e + (cA b2 [.int .i64 value] (TI).e + 0))) + F), .inr (.inr ⟨rfl, by simp, 1, ⟨by omega, by omega⟩, rfl, ?_⟩)⟩
    refine .inr ⟨0, b3, .nd [(key, value)] [], _, rfl, ⟨rfl, _, _, _, _, _, _, _, _, _, rfl, ⟨Sl.one rfl, Sl.one rfl, Sl.nil⟩⟩, rfl, ?_⟩
    show 1 ≤ 1 ∧ 1 ≤ order - 1
    omega
  · have hxl : 2 ^ (n + 1) ≤ xs.length + 1 := by rw [← hfl]; exact hsz.low hh (by omega)
    have hn := pow_bound hxl (by omega)
    have s1 : St h0 h (treeC tb order xs.length (some ⟨root, 0, none⟩) vis + (A1 + F)) := s.to
    have so' : Srt (flat n t) := by rw [hfl]; exact so
    refine (path_ok (key := key) (s1.cellA 2) hh (s1.at A1) so' hsz (by omega) (by omega)).mono fun v1 h1 ⟨m, fs, k, u, Ac, Au, eL, eR, q1, q2, d1, d2, B1, B2, hv, sB, o1, o2, w, he, hl, hr, hend⟩ => ?_
    refine ⟨_, _, _, _, _, _, _, hv, ?_⟩
    have hfs := w.hgt
    have s2 : St h0 h1 (B1 + (B2 + (treeC tb order xs.length (some ⟨root, 0, none⟩) vis + (Ac + (Au + F))))) := by have := s1.join sB; rw [w.bag] at this; exact this.to
    have rN := o1.rd s2
    have rI := o2.rd (s2.at B2)
    have gN : (blks fs ++ [k]).getD fs.length 0 = k := blks_get fs k []
    have gI : (idxs fs ++ [(eL.length : Int)]).getD fs.length 0 = (eL.length : Int) := idxs_get fs _ []
    refine cond_intro (fun hf => ?_) (fun hf => ?_)
    · obtain ⟨old, eR', rfl⟩ : ∃ old eR', eR = (key, old) :: eR' := by
        cases eR with
        | nil => cases hf
        | cons e eR' =>
          have : e.1 = key := of_decide_eq_true hf
          exact ⟨e.2, eR', by rw [← this]⟩
      obtain ⟨WL, WR, hW⟩ := node_cut w.sub he
      have hfu : flat m u = WL ++ (key, old) :: WR := by rw [bt_eta u, he]; exact hW _
      have hsrt := w.srt
      rw [hfu, Srt.app, Srt.con] at hsrt
      have el : ((fs.length + 1 : Nat) : Int) - 1 = (fs.length : Int) := by omega
      refine ⟨⟨by omega, by omega⟩, rN.ptr (by omega) (by omega) ?_⟩
      rw [el, Int.toNat_natCast, gN]
      refine ⟨⟨by omega, by omega⟩, rI.int (by omega) (by omega) ?_⟩
      rw [Int.toNat_natCast, gI]
      refine Hold.setVal w.sub he (s2.to (B := Au + (B1 + (B2 + (treeC tb order xs.length (some ⟨root, 0, none⟩) vis + (Ac + F)))))) fun h2 Au' hu' s3 => ?_
      have hpl : flat n t = Lb m fs ++ ((WL ++ (key, old) :: WR) ++ Rb m fs) := by rw [← w.plug, ← w.hgt, flat_plug u w.ctx.ok, hfu]
      have hpl2 : flat n (plug fs (.nd (eL ++ (key, value) :: eR') u.ts)) = (Lb m fs ++ WL) ++ (key, value) :: (WR ++ Rb m fs) := by rw [← w.hgt, flat_plug _ w.ctx.ok, hW]; simp
      refine ⟨treeC tb order xs.length (some ⟨root, 0, none⟩) vis + (Ac + Au'), Lb m fs ++ WL, (key, old) :: (WR ++ Rb m fs), ?_, ?_, ?_, ?_, .inl ⟨old, WR ++ Rb m fs, _, rfl, ⟨?_, ?_⟩, rfl, .inr ⟨n, root, plug fs (.nd (eL ++ (key, value) :: eR') u.ts), Ac + Au', ?_, ?_, hpl2, ?_⟩⟩⟩
      · rw [← hfl, hpl]; simp
      · intro x hx
        rcases List.mem_append.1 hx with h | h
        · exact w.lt x h
        · exact hsrt.2.2 x h (key, old) (by simp)
      · intro x hx
        rcases List.mem_cons.1 hx with rfl | hx
        · exact Int.le_refl _
        · rcases List.mem_append.1 hx with h | h
          · exact Int.le_of_lt (hsrt.2.1.1 x h)
          · exact Int.le_of_lt (w.gt x h)
      · exact (s3.to (B := B1 + B2 + (treeC tb order xs.length (some ⟨root, 0, none⟩) vis + (Ac + Au') + F))).drop
      · omega
      · omega
      · congr 2
        rw [← hfl, hpl]; simp
      · rw [← w.hgt]; exact w.ctx.plug hu'
      · rw [← w.hgt]
        refine w.szc.plug ⟨?_, w.szb.2⟩
        have := w.szb.1
        rw [he] at this
        show _ ≤ (eL ++ (key, value) :: eR').length ∧ (eL ++ (key, value) :: eR').length ≤ _
        simpa using this
    · have hm0 : m = 0 := by rcases hend with h | h; rw [hf] at h; cases h; exact h
      obtain ⟨hcut, hX, hY⟩ := w.cut he hl hr hm0
      have hkey : hasKey (eR ++ Rb m fs) key = false := by rw [hasKey_app w.gt]; exact hf
      have hcut' : xs = (Lb m fs ++ eL) ++ (eR ++ Rb m fs) := by rw [← hfl]; exact hcut
      refine ⟨_, (s2.at (treeC tb order xs.length (some ⟨root, 0, none⟩) vis)).cellA 1, condP (fun h5 => ?_) (fun h5 => ?_)⟩
      · refine ⟨treeC tb order xs.length (some ⟨root, 0, none⟩) vis + A1, _, _, hcut', hX, hY, ?_, .inr (.inl ⟨hkey, by omega, rfl, .inr ⟨n, root, t, A1, rfl, hh, hfl, hsz⟩⟩)⟩
        rw [w.bag]
        exact (s2.to (B := B1 + B2 + (treeC tb order xs.length (some ⟨root, 0, none⟩) vis + (Ac + Au) + F))).drop
      refine ⟨_, (s2.at (treeC tb order xs.length (some ⟨root, 0, none⟩) vis)).cellA 1, ⟨by omega, by omega⟩, ?_⟩
      have s3 := s2.to (B := treeC tb order xs.length (some ⟨root, 0, none⟩) vis + (Ac + (Au + ((B1 + B2) + F))))
      refine s3.wr (o := 1) (add_mk _ _ _) (by simp) fun h3 s4 => ?_
      have s4 : St h0 h3 (treeC tb order (xs.length + 1) (some ⟨root, 0, none⟩) vis + (Ac + (Au + ((B1 + B2) + F)))) := s4
      refine condNo (decide_eq_false (by omega)) ⟨⟨by omega, by omega⟩, ?_⟩
      have hes : (eL ++ eR).length ≤ order - 1 := by rw [← he]; exact w.szb.1.2
      refine ⟨fun st h' => PutS h0 order ((order + 1) / 2 - 1) (order - 1) n (xs.length + 1) root tb vis (Lb m fs ++ eL ++ (key, value) :: (eR ++ Rb m fs)) (blks fs ++ [k]) (idxs fs ++ [(eL.length : Int)]) (B1 + B2) F (st.1, st.2.1) st.2.2.2.1 st.2.2.2.2.1 h' ∧ st.2.2.1 + st.2.2.2.2.1 = 2 * (fs.length : Int) + 1 ∧ -1 ≤ st.2.2.2.2.1 ∧ st.2.2.2.2.1 ≤ fs.length, fun st _ => (st.2.2.2.2.1 + 1).toNat, ?_, ?_⟩
      · refine ⟨.inl ⟨m, fs, k, eL, eR, .nd (eL ++ (key, value) :: eR) [], Ac, Au, [], [], ?_, rfl, rfl, w.ctx, ⟨rfl, .inl ⟨rfl, hm0, rfl, ?_⟩⟩, s4, ?_, w.szc, ?_, fun m' hm' => by omega, w.hgt⟩, ?_, ?_, ?_⟩
        · show ((fs.length + 1 : Nat) : Int) - 1 = _; omega
        · have := w.sub
          rw [hm0] at this
          rw [← he]; exact this.2
        · rw [hm0]; show _ ++ ((eL ++ (key, value) :: eR) ++ _) = _; simp
        · rw [← he]; exact w.szb.1
        · show ((fs.length + 1 : Nat) : Int) + (((fs.length + 1 : Nat) : Int) - 1) = _; omega
        · show -1 ≤ ((fs.length + 1 : Nat) : Int) - 1; omega
        · show ((fs.length + 1 : Nat) : Int) - 1 ≤ _; omega
      rintro ⟨key', value', visits, right, d, _⟩ h6 ⟨ps, hvd, hd1, hd2⟩
      simp only at ps hvd hd1 hd2
      dsimp only
      rcases ps with ⟨m6, fs6, k6, eL6, eR6, U6, Ac6, Au6, N6, I6, rfl, hN6, hI6, hc6, hp6, s6, hf6, sc6, hes6, hk6, hh6⟩ | ⟨rfl, r, t1, t2, E1, E2, rfl, g1, g2, s6, hf6, z1, z2⟩
      · have rN6 := o1.rd (s6.at B1)
        have rI6 := o2.rd (s6.at B2)
        refine put_b1_ok rN6 rI6 (by omega) (by omega) (by rw [hN6]; exact blks_get _ _ _) (by rw [hI6]; exact idxs_get _ _ _) (by omega) hp6 (s6.to (B := Au6 + (treeC tb order (xs.length + 1) (some ⟨root, 0, none⟩) vis + (Ac6 + ((B1 + B2) + F))))) fun h7 Au7 hu7 s7 => ?_
        have hel : U6.es.length = (eL6 ++ eR6).length + 1 := by rw [hp6.1]; simp; omega
        refine put_b4_ok (B := B1 + B2) (F := F) (len := xs.length + 1) (vis := vis) rfl rfl hor h64 ⟨by omega, by omega⟩ (by omega) hN6 hI6 hc6 hu7 (s7.to (B := treeC tb order (xs.length + 1) (some ⟨root, 0, none⟩) vis + (Ac6 + (Au7 + ((B1 + B2) + F))))) hf6 (by rw [hcut']; simp; omega) sc6 ⟨by omega, by omega⟩ hk6 hh6 ?_ ?_
        · intro h' A' hA' s'
          exact ⟨A', _, _, hcut', hX, hY, s', .inr (.inr ⟨hkey, by omega, visits, ⟨by omega, by omega⟩, rfl, hA'⟩)⟩
        · intro e right' h' hps
          refine ⟨⟨hps, ?_, ?_, ?_⟩, ?_⟩ <;> simp only <;> omega
      · rw [btree_Tree_put_b1_eq]
        refine condNo (by decide) ?_
        rw [btree_Tree_put_b3_eq]
        refine s6.new (cs := [.int .i64 key']) fun b10 h29 _ s7 => ?_
        refine s7.new (cs := [.int .i64 value']) fun b11 h30 _ s8 => ?_
        refine ⟨_, (s8.at (treeC tb order (xs.length + 1) (some ⟨root, 0, none⟩) vis)).cellA 2, ?_⟩
        refine s8.new (cs := [.pointer (some ⟨root, 0, none⟩), .pointer (some ⟨r, 0, none⟩)]) fun b12 h31 _ s9 => ?_
        refine s9.new (cs := [.slice (some ⟨b10, 0, none⟩) 1 1, .slice (some ⟨b11, 0, none⟩) 1 1, .slice (some ⟨b12, 0, none⟩) 2 2]) fun b13 h32 _ s10 => ?_
        have s10 : St h0 h32 (nodeC b13 1 2 (some ⟨b10, 0, none⟩) (some ⟨b11, 0, none⟩) (some ⟨b12, 0, none⟩) 1 1 2 + (cA b12 [.pointer (some ⟨root, 0, none⟩), .pointer (some ⟨r, 0, none⟩)] (TP).e + (cA b11 [.int .i64 value'] (TI).e + (cA b10 [.int .i64 key'] (TI).e + (treeC tb order (xs.length + 1) (some ⟨root, 0, none⟩) vis + (E1 + (E2 + (B1 + B2 + F)))))))) := s10
        have s11 := s10.to (B := treeC tb order (xs.length + 1) (some ⟨root, 0, none⟩) vis + ((B1 + B2) + (nodeC b13 1 2 (some ⟨b10, 0, none⟩) (some ⟨b11, 0, none⟩) (some ⟨b12, 0, none⟩) 1 1 2 + (cA b10 [.int .i64 key'] (TI).e + (cA b11 [.int .i64 value'] (TI).e + cA b12 [.pointer (some ⟨root, 0, none⟩), .pointer (some ⟨r, 0, none⟩)] (TP).e)) + (E1 + E2)) + F))
        refine s11.wr (o := 2) (add_mk _ _ _) (by simp) fun h33 s12 => ?_
        have s12 : St h0 h33 (treeC tb order (xs.length + 1) (some ⟨b13, 0, none⟩) vis + ((B1 + B2) + (nodeC b13 1 2 (some ⟨b10, 0, none⟩) (some ⟨b11, 0, none⟩) (some ⟨b12, 0, none⟩) 1 1 2 + (cA b10 [.int .i64 key'] (TI).e + (cA b11 [.int .i64 value'] (TI).e + cA b12 [.pointer (some ⟨root, 0, none⟩), .pointer (some ⟨r, 0, none⟩)] (TP).e)) + (E1 + E2)) + F)) := s12
        have hvd' : visits = 2 * (fs.length : Int) + 2 := by omega
        have hlen2 : (Lb m fs ++ eL ++ (key, value) :: (eR ++ Rb m fs)).length = xs.length + 1 := by rw [hcut']; simp; omega
        refine ⟨⟨by omega, by omega⟩, _, _, _, hcut', hX, hY, (s12.to (B := (B1 + B2) + (treeC tb order (xs.length + 1) (some ⟨b13, 0, none⟩) vis + (nodeC b13 1 2 (some ⟨b10, 0, none⟩) (some ⟨b11, 0, none⟩) (some ⟨b12, 0, none⟩) 1 1 2 + (cA b10 [.int .i64 key'] (TI).e + (cA b11 [.int .i64 value'] (TI).e + cA b12 [.pointer (some ⟨root, 0, none⟩), .pointer (some ⟨r, 0, none⟩)] (TP).e)) + (E1 + E2)) + F))).drop, .inr (.inr ⟨hkey, by omega, visits + 1, ⟨by omega, by omega⟩, rfl, ?_⟩)⟩
        have hH : Hold (n + 1) b13 (.nd [(key', value')] [t1, t2]) (nodeC b13 1 2 (some ⟨b10, 0, none⟩) (some ⟨b11, 0, none⟩) (some ⟨b12, 0, none⟩) 1 1 2 + (cA b10 [.int .i64 key'] (TI).e + (cA b11 [.int .i64 value'] (TI).e + cA b12 [.pointer (some ⟨root, 0, none⟩), .pointer (some ⟨r, 0, none⟩)] (TP).e)) + (E1 + E2)) :=
          ⟨[root, r], _, E1 + E2, rfl, ⟨_, _, _, _, _, _, _, _, _, rfl, ⟨Sl.one rfl, Sl.one rfl, Sl.of_blk rfl rfl⟩⟩, rfl, ⟨E1, E2, rfl, g1, E2, 0, (Bag.add_zero _).symm, g2, rfl⟩⟩
        refine .inr ⟨n + 1, b13, .nd [(key', value')] [t1, t2], _, by rw [hlen2], hH, ?_, ?_⟩
        · rw [← hf6]; simp [flat, weave, wR, BT.es, BT.ts]
        · refine ⟨?_, ?_⟩
          · show 1 ≤ 1 ∧ 1 ≤ order - 1
            omega
          · intro c hc
            simp only [BT.ts, List.mem_cons, List.not_mem_nil, or_false] at hc
            rcases hc with rfl | rfl
            · exact z1
            · exact z2
end Go.Proofs.YtkdmcdnfakmapaaGreat

/- B-trees: Put, floor and ceiling. -/
set_option maxRecDepth 100000
namespace Go.Proofs.YtkdmcdnfakmapaaGreat
open Go Go.Sx
def lowS (xs : List E) (key : Int) : List E := xs.takeWhile fun e => decide (e.1 < key)
def upS (xs : List E) (key : Int) : List E := xs.dropWhile fun e => decide (e.1 < key)
theorem cut_uniq {X Y : List E} {key : Int} (hx : ∀ x ∈ X, x.1 < key) (hy : ∀ y ∈ Y, key ≤ y.1) : lowS (X ++ Y) key = X ∧ upS (X ++ Y) key = Y := by
  have h1 : ∀ x ∈ X, decide (x.1 < key) = true := fun x h => decide_eq_true (hx x h)
  have h2 : Y.takeWhile (fun e => decide (e.1 < key)) = [] ∧ Y.dropWhile (fun e => decide (e.1 < key)) = Y := by
    cases Y with
    | nil => exact ⟨rfl, rfl⟩
    | cons y Y =>
      have : ¬ y.1 < key := by have := hy y (by simp); omega
      simp [this]
  constructor
  · rw [lowS, List.takeWhile_append_of_pos h1, h2.1, List.append_nil]
  · rw [upS, List.dropWhile_append_of_pos h1, h2.2]
def valOf : List E → Int | [] => 0 | e :: _ => e.2
theorem cut_eq {X Y : List E} {key : Int} {xs : List E} (h : xs = X ++ Y) (hx : ∀ x ∈ X, x.1 < key) (hy : ∀ y ∈ Y, key ≤ y.1) : X = lowS xs key ∧ Y = upS xs key := by
  subst h
  exact ⟨(cut_uniq hx hy).1.symm, (cut_uniq hx hy).2.symm⟩
/-- What Put does, in plain lists. -/
def putS (xs : List E) (key value : Int) : List E × Int × Bool × Int :=
  if KeyP key ∧ KeyP value then
    (if hasKey (upS xs key) key = true then (lowS xs key ++ (key, value) :: (upS xs key).tail, valOf (upS xs key), true, 0)
     else if 2000 ≤ xs.length then (xs, 0, false, 4) else (lowS xs key ++ (key, value) :: upS xs key, 0, false, 0))
  else (xs, 0, false, 1)
theorem TreeA.vis {order tb : Nat} {xs : List E} {vis : Int} {A : Bag} (ta : TreeA order xs tb vis A) : ∃ root A1, A = treeC tb order xs.length root vis + A1 ∧ ∀ vis', TreeA order xs tb vis' (treeC tb order xs.length root vis' + A1) := by
  rcases ta with ⟨rfl, rfl⟩ | ⟨n, root, t, A1, rfl, hh, hf, hs⟩
  · exact ⟨none, 0, (Bag.add_zero _).symm, fun vis' => .inl ⟨rfl, Bag.add_zero _⟩⟩
  · exact ⟨_, A1, rfl, fun vis' => .inr ⟨n, root, t, A1, rfl, hh, hf, hs⟩⟩
theorem upS_len {xs : List E} {key : Int} : xs = lowS xs key ++ upS xs key := (List.takeWhile_append_dropWhile).symm
theorem Put_ok {h0 h : Hp} {order tb : Nat} {xs : List E} {vis key value : Int} {A F : Bag} (hor : 3 ≤ order) (h64 : order ≤ 64) (so : Srt xs) (hmost : xs.length ≤ 2000) (hvis : 0 ≤ vis ∧ vis ≤ 1000000000000) (ta : TreeA order xs tb vis A) (s : St h0 h (A + F)) :
    HCalls Tryz.prog 12 #[ptr tb, .int .i64 key, .int .i64 value] h (fun v h' => ∃ A' vis', ((vis ≤ vis' ∧ vis' ≤ vis + 1000) ∧ ((putS xs key value).2.2.2 = 0 → vis < vis')) ∧
      v = .tuple #[.int .i64 (putS xs key value).2.1, .bool (putS xs key value).2.2.1, .int .i64 (putS xs key value).2.2.2] ∧ TreeA order (putS xs key value).1 tb vis' A' ∧ St h0 h' (A' + F)) := by
  refine btree_Tree_Put_call ?_
  rw [btree_Tree_Put_b0_eq]
  refine condNo rfl ?_
  refine s.new (cs := [.int .i64 key, .int .i64 value]) fun b h1 _ s1 => ?_
  refine (number2 s1.blk).mono fun v1 h2 ⟨hh, hv⟩ => ?_
  subst hh
  refine ⟨_, hv, condN (fun hk => ?_) (fun hk => ?_)⟩
  · rw [putS, if_neg hk]
    exact ⟨A, vis, ⟨⟨by omega, by omega⟩, fun h => by cases h⟩, rfl, ta, s1.drop⟩
  · rw [btree_Tree_Put_b1_eq]
    refine (put_ok (key := key) (value := value) hor h64 so hmost ta s1.drop).mono fun v2 h3 ⟨A', X, Y, hxy, hX, hY, s3, hr⟩ => ?_
    obtain ⟨eX, eY⟩ := cut_eq hxy hX hY
    rw [putS, if_pos hk]
    rcases hr with ⟨old, Y', w, rfl, hw, hv2, ta'⟩ | ⟨hf, hle, hv2, ta'⟩ | ⟨hf, hlt, w, hw, hv2, ta'⟩
    · obtain ⟨root, A1, rfl, hvs⟩ := ta'.vis
      have s4 := s3.to (B := treeC tb order (X ++ (key, value) :: Y').length root vis + (A1 + F))
      refine ⟨_, _, _, _, hv2, _, s4.cellA 3, ⟨by omega, by omega⟩, ?_⟩
      refine s4.wr (o := 3) (add_mk _ _ _) (by simp) fun h4 s5 => ?_
      have hk' : hasKey (upS xs key) key = true := by rw [← eY]; exact decide_eq_true rfl
      rw [if_pos hk', ← eX, ← eY]
      exact ⟨_, vis + w, ⟨⟨by omega, by omega⟩, fun _ => by omega⟩, rfl, hvs _, s5.to⟩
    · obtain ⟨root, A1, rfl, hvs⟩ := ta'.vis
      have s4 := s3.to (B := treeC tb order xs.length root vis + (A1 + F))
      refine ⟨_, _, _, _, hv2, _, s4.cellA 3, ⟨by omega, by omega⟩, ?_⟩
      refine s4.wr (o := 3) (add_mk _ _ _) (by simp) fun h4 s5 => ?_
      rw [if_neg (by rw [← eY, hf]; simp), if_pos hle]
      exact ⟨_, vis + 0, ⟨⟨by omega, by omega⟩, fun h => by cases h⟩, rfl, hvs _, s5.to⟩
    · obtain ⟨root, A1, rfl, hvs⟩ := ta'.vis
      have s4 := s3.to (B := treeC tb order (X ++ (key, value) :: Y).length root vis + (A1 + F))
      refine ⟨_, _, _, _, hv2, _, s4.cellA 3, ⟨by omega, by omega⟩, ?_⟩
      refine s4.wr (o := 3) (add_mk _ _ _) (by simp) fun h4 s5 => ?_
      rw [if_neg (by rw [← eY, hf]; simp), if_neg (by omega), ← eX, ← eY]
      exact ⟨_, vis + w, ⟨⟨by omega, by omega⟩, fun _ => by omega⟩, rfl, hvs _, s5.to⟩
/-! ### the neighbours -/
def lastOf (l : List E) : Int × Int × Bool := match l.getLast? with | none => (0, 0, false) | some e => (e.1, e.2, true)
def headOf (l : List E) : Int × Int × Bool := match l with | [] => (0, 0, false) | e :: _ => (e.1, e.2, true)
theorem lastOf_app (a b : List E) : lastOf (a ++ b) = if b = [] then lastOf a else lastOf b := by
  by_cases h : b = []
  · rw [if_pos h, h, List.append_nil]
  · rw [if_neg h]
    rcases List.eq_nil_or_concat b with h1 | ⟨b', x, rfl⟩
    · exact absurd h1 h
    · simp [lastOf, ← List.append_assoc]
theorem wL_nil {ks : List (List E)} {es : List E} (h : ks.length = es.length) : wL ks es = [] ↔ es = [] := by
  cases ks with
  | nil => cases es with | nil => simp [wL] | cons _ _ => simp at h
  | cons k ks => cases es with | nil => simp at h | cons e es => simp [wL]
theorem lastOf_wL : ∀ {ks : List (List E)} {es : List E}, ks.length = es.length → lastOf (wL ks es) = lastOf es
  | [], [], _ => rfl
  | [], _ :: _, h => by simp at h
  | _ :: _, [], h => by simp at h
  | k :: ks, e :: es, h => by
    have hl : ks.length = es.length := by simpa using h
    have ih := lastOf_wL hl
    show lastOf (k ++ ([e] ++ wL ks es)) = lastOf ([e] ++ es)
    rw [lastOf_app, if_neg (by simp), lastOf_app, lastOf_app, ih]
    by_cases he : es = []
    · rw [if_pos he, if_pos ((wL_nil hl).2 he)]
    · rw [if_neg he, if_neg (fun h => he ((wL_nil hl).1 h))]
theorem headOf_app (a b : List E) : headOf (a ++ b) = if a = [] then headOf b else headOf a := by
  cases a with
  | nil => simp
  | cons e a => simp [headOf]
theorem headOf_wR {ks : List (List E)} {es : List E} (h : ks.length = es.length) : headOf (wR es ks) = headOf es ∧ (wR es ks = [] ↔ es = []) := by
  cases ks with
  | nil => cases es with | nil => simp [wR] | cons _ _ => simp at h
  | cons k ks => cases es with | nil => simp at h | cons e es => simp [wR, headOf]
theorem Way.found {key : Int} {lo hi root n m k : Nat} {t u : BT} {A Ac Au : Bag} {fs : List Fr} {eL eR : List E} {old : Int} (w : Way key lo hi root n t A m fs k u Ac Au) (he : u.es = eL ++ (key, old) :: eR) :
    ∃ X Y, flat n t = X ++ (key, old) :: Y ∧ (∀ x ∈ X, x.1 < key) ∧ (∀ y ∈ Y, key ≤ y.1) := by
  obtain ⟨WL, WR, hW⟩ := node_cut w.sub he
  have hfu : flat m u = WL ++ (key, old) :: WR := by rw [bt_eta u, he]; exact hW _
  have hsrt := w.srt
  rw [hfu, Srt.app, Srt.con] at hsrt
  refine ⟨Lb m fs ++ WL, WR ++ Rb m fs, ?_, ?_, ?_⟩
  · rw [← w.plug, ← w.hgt, flat_plug u w.ctx.ok, hfu]; simp
  · intro x hx
    rcases List.mem_append.1 hx with h | h
    · exact w.lt x h
    · exact hsrt.2.2 x h (key, old) (by simp)
  · intro x hx
    rcases List.mem_append.1 hx with h | h
    · exact Int.le_of_lt (hsrt.2.1.1 x h)
    · exact Int.le_of_lt (w.gt x h)
def floorS (xs : List E) (key : Int) : Int × Int × Bool := if hasKey (upS xs key) key = true then (key, valOf (upS xs key), true) else lastOf (lowS xs key)
def ceilS (xs : List E) (key : Int) : Int × Int × Bool := headOf (upS xs key)
theorem last_split {eL : List E} (h : 0 < eL.length) : (eL.map Prod.fst).getD (eL.length - 1) 0 = (lastOf eL).1 ∧ (eL.map Prod.snd).getD (eL.length - 1) 0 = (lastOf eL).2.1 ∧ (lastOf eL).2.2 = true := by
  have hl : eL.getLast? = some (eL[eL.length - 1]'(by omega)) := by rw [List.getLast?_eq_getElem?, List.getElem?_eq_getElem (by omega)]
  have h2 : eL.length - 1 < eL.length := by omega
  refine ⟨?_, ?_, ?_⟩ <;> simp [lastOf, hl, List.getD, h2]
end Go.Proofs.YtkdmcdnfakmapaaGreat

/- B-trees: floor, ceiling, and what is built on them. -/
set_option maxRecDepth 100000
namespace Go.Proofs.YtkdmcdnfakmapaaGreat
open Go Go.Sx
theorem Hold.read {h0 h : Hp} {n b : Nat} {u : BT} {A F : Bag} (hh : Hold n b u A) (s : St h0 h (A + F)) : ∃ p1 p2 p3 c1 c2 c3 m3, Blk h b [.slice p1 u.es.length c1, .slice p2 u.es.length c2, .slice p3 m3 c3] 86 ∧ RdT TI h p1 u.es.length (u.es.map Prod.fst) ∧ RdT TI h p2 u.es.length (u.es.map Prod.snd) ∧
    HCalls Tryz.prog 60 #[ptr b] h (fun v h' => h' = h ∧ v = .bool (decide (n = 0))) := by
  obtain ⟨ks, A1, A2, rfl, hna, hk0, _⟩ := hh.node
  have hna0 := hna
  obtain ⟨p1, p2, p3, c1, c2, c3, C1, C2, C3, rfl, ns⟩ := hna
  have s1 := s.to (B := nodeC b u.es.length ks.length p1 p2 p3 c1 c2 c3 + (C1 + (C2 + C3)) + (A2 + F))
  refine ⟨p1, p2, p3, c1, c2, c3, ks.length, (s.at (nodeC b u.es.length ks.length p1 p2 p3 c1 c2 c3)).blk, ns.s1.rd (s.at C1), ns.s2.rd (s.at C2), ?_⟩
  refine (leaf_ok s1 hna0).mono fun v h' ⟨hh, hv⟩ => ⟨hh, ?_⟩
  rw [hv]
  congr 1
  exact decide_eq_decide.2 hk0
/-- The child on the way. -/
theorem Way.kid {h0 h : Hp} {key : Int} {lo hi root n m k : Nat} {t u : BT} {A Ac Au F : Bag} {f : Fr} {fs : List Fr} {Q : Option Addr → Prop} (w : Way key lo hi root n t A m (f :: fs) k u Ac Au) (s : St h0 h (A + F)) (hl : f.kL.length = f.eL.length) (hq : Q (some ⟨k, 0, none⟩)) :
    NN (some (⟨f.b, 0, none⟩ : Addr)) fun a => ∃ (a16 : Option Addr) (L5 C5 : Nat), cell h (a.add 2) = some (.slice a16 L5 C5) ∧ (0 ≤ (f.eL.length : Int) ∧ (f.eL.length : Int) < (L5 : Int)) ∧ NN a16 fun a17 => ∃ p2 : Option Addr, cell h (a17.add (Int.toNat (f.eL.length : Int) * 1)) = some (.pointer p2) ∧ Q p2 := by
  have hb := w.bag
  obtain ⟨D1, D2, rfl, hF, _⟩ := w.ctx
  have sF : St h0 h (D1 + (D2 + (Au + F))) := (hb ▸ s : St h0 h (D1 + D2 + Au + F)).to
  obtain ⟨q, L, C, hc, rp, hlen⟩ := hF.kid sF
  have hgl : (f.kL ++ k :: f.kR).getD f.eL.length 0 = k := by simp [List.getD, ← hl]
  refine ⟨_, _, C, hc, rp.ptr (by omega) (by rw [hlen, List.length_append, List.length_cons]; omega) ?_⟩
  rw [Int.toNat_natCast, hgl]
  exact hq
def accV (a : Int × Int × Bool) : Value := .tuple #[.int .i64 a.1, .int .i64 a.2.1, .bool a.2.2]
theorem upS_found {xs X Y : List E} {key old : Int} (h : xs = X ++ (key, old) :: Y) (hx : ∀ x ∈ X, x.1 < key) (hy : ∀ y ∈ Y, key ≤ y.1) : upS xs key = (key, old) :: Y := by
  refine ((cut_eq h hx (fun y hy' => ?_)).2).symm
  rcases List.mem_cons.1 hy' with rfl | h
  · exact Int.le_refl _
  · exact hy y h
def visOf (tb : Nat) (h : Hp) : Int := match cell h ((⟨tb, 0, none⟩ : Addr).add 3) with | some (.int _ v) => v | _ => 0
theorem visOf_eq {h0 h : Hp} {tb order len : Nat} {root : Option Addr} {vis : Int} {F : Bag} (s : St h0 h (treeC tb order len root vis + F)) : visOf tb h = vis := by
  unfold visOf
  rw [s.cellA 3]
  rfl
theorem floor_ok {h0 h : Hp} {order tb : Nat} {xs : List E} {vis key : Int} {A F : Bag} (hor : 3 ≤ order) (h64 : order ≤ 64) (so : Srt xs) (hmost : xs.length ≤ 2000) (hvis : 0 ≤ vis ∧ vis ≤ 1000000000000) (ta : TreeA order xs tb vis A) (s : St h0 h (A + F)) :
    HCalls Tryz.prog 38 #[ptr tb, .int .i64 key] h (fun v h' => ∃ A' vis', (vis ≤ vis' ∧ vis' ≤ vis + 1000) ∧ v = accV (floorS xs key) ∧ TreeA order xs tb vis' A' ∧ St h0 h' (A' + F)) := by
  refine btree_Tree_floor_call ?_
  rw [btree_Tree_floor_b0_eq]
  rcases ta with ⟨rfl, rfl⟩ | ⟨n, root, t, A1, rfl, hh, hfl, hsz⟩
  · refine ⟨_, s.cellA 2, fun st h' => h' = h ∧ st = (0, 0, false, none, ()), fun _ _ => 0, ⟨rfl, rfl⟩, ?_⟩
    rintro _ h1 ⟨rfl, rfl⟩
    rw [btree_Tree_floor_b1_eq]
    refine condNo rfl ?_
    rw [btree_Tree_floor_b3_eq]
    exact ⟨_, vis, ⟨by omega, by omega⟩, rfl, .inl ⟨rfl, rfl⟩, s⟩
  · have hxl : 2 ^ (n + 1) ≤ xs.length + 1 := by rw [← hfl]; exact hsz.low hh (by omega)
    have hn := pow_bound hxl (by omega)
    have so' : Srt (flat n t) := by rw [hfl]; exact so
    have s := s.to (B := treeC tb order xs.length (some ⟨root, 0, none⟩) vis + (A1 + F))
    refine ⟨_, s.cellA 2, ?_⟩
    refine ⟨fun st h' => ∃ m fs k u Ac Au vis', St h0 h' (treeC tb order xs.length (some ⟨root, 0, none⟩) vis' + (A1 + F)) ∧ vis' = vis + fs.length ∧ Way key ((order + 1) / 2 - 1) (order - 1) root n t A1 m fs k u Ac Au ∧
      st = ((lastOf (Lb m fs)).1, (lastOf (Lb m fs)).2.1, (lastOf (Lb m fs)).2.2, some ⟨k, 0, none⟩, ()), fun _ h' => (vis + n + 2 - visOf tb h').toNat, ⟨n, [], root, t, 0, A1, vis, s, by simp, Way.start hh so' hsz, rfl⟩, ?_⟩
    rintro _ h1 ⟨m, fs, k, u, Ac, Au, vis', s1, rfl, w, rfl⟩
    have hfs := w.hgt
    dsimp only
    rw [btree_Tree_floor_b1_eq]
    refine condYes rfl ⟨_, s1.cellA 3, ⟨by omega, by omega⟩, ?_⟩
    have hvo := visOf_eq s1
    refine s1.wr (o := 3) (add_mk _ _ _) (by simp) fun h2 s2 => ?_
    have s2 : St h0 h2 (treeC tb order xs.length (some ⟨root, 0, none⟩) (vis + fs.length + 1) + (A1 + F)) := s2
    have sA : St h0 h2 (A1 + (treeC tb order xs.length (some ⟨root, 0, none⟩) (vis + fs.length + 1) + F)) := s2.to
    have sU : St h0 h2 (Au + (Ac + (treeC tb order xs.length (some ⟨root, 0, none⟩) (vis + fs.length + 1) + F))) := (w.bag ▸ sA : St h0 h2 (Ac + Au + _)).to
    obtain ⟨p1, p2, p3, c1, c2, c3, m3, kb, r1, r2, hleaf⟩ := w.sub.read sU
    have hule := w.szb.1.2
    refine ⟨_, _, _, kb.cell 0, ?_⟩
    refine (search_ok (key := key) r1 (by omega) (w.srt.sublist w.sub.sub)).mono fun v3 h3 ⟨hh3, eL, eR, he, hl, hr, hv3⟩ => ?_
    subst hh3
    have hlen : u.es.length = eL.length + eR.length := by rw [he, List.length_append]
    have fin : ∀ Y : Int × Int × Bool, Y = floorS xs key → ∃ A' vis', (vis ≤ vis' ∧ vis' ≤ vis + 1000) ∧ Value.tuple #[.int .i64 Y.1, .int .i64 Y.2.1, .bool Y.2.2] = accV (floorS xs key) ∧ TreeA order xs tb vis' A' ∧ St h0 h3 (A' + F) := by
      rintro _ rfl
      exact ⟨_, vis + fs.length + 1, ⟨by omega, by omega⟩, rfl, .inr ⟨n, root, t, A1, rfl, hh, hfl, hsz⟩, s2.to⟩
    refine ⟨_, _, hv3, cond_intro (fun hf => ?_) (fun hf => ?_)⟩
    · obtain ⟨old, eR', rfl⟩ : ∃ old eR', eR = (key, old) :: eR' := by
        cases eR with
        | nil => cases hf
        | cons e eR' =>
          have : e.1 = key := of_decide_eq_true hf
          exact ⟨e.2, eR', by rw [← this]⟩
      obtain ⟨X, Y, hxy, hX, hY⟩ := w.found he
      rw [hfl] at hxy
      have hg : (u.es.map Prod.snd).getD eL.length 0 = old := by rw [he]; simp [List.getD]
      rw [List.length_cons] at hlen
      refine ⟨_, _, _, Blk.cellA kb 1, r2.int (by omega) (by omega) ?_⟩
      rw [Int.toNat_natCast, hg]
      refine fin (key, old, true) ?_
      have hup := upS_found hxy hX hY
      rw [floorS, hup]
      simp [hasKey, valOf]
    · have hcutL : ∀ f' : Int × Int × Bool, f' = lastOf (Lb m fs ++ eL) → btree_Tree_floor_b2 (some ⟨tb, 0, none⟩) key f'.1 f'.2.1 f'.2.2 (some ⟨k, 0, none⟩) (eL.length : Int) h3 (fun s' h' => (∃ m fs k u Ac Au vis', St h0 h' (treeC tb order xs.length (some ⟨root, 0, none⟩) vis' + (A1 + F)) ∧ vis' = vis + fs.length ∧ Way key ((order + 1) / 2 - 1) (order - 1) root n t A1 m fs k u Ac Au ∧
          s' = ((lastOf (Lb m fs)).1, (lastOf (Lb m fs)).2.1, (lastOf (Lb m fs)).2.2, some ⟨k, 0, none⟩, ())) ∧ (vis + n + 2 - visOf tb h').toNat < (vis + n + 2 - visOf tb h1).toNat) (fun v h' => ∃ A' vis', (vis ≤ vis' ∧ vis' ≤ vis + 1000) ∧ v = accV (floorS xs key) ∧ TreeA order xs tb vis' A' ∧ St h0 h' (A' + F)) := by
        rintro _ rfl
        rw [btree_Tree_floor_b2_eq]
        refine hleaf.mono fun v4 h4 ⟨hh4, hv4⟩ => ?_
        subst hh4
        refine ⟨_, hv4, condP (fun hm0 => ?_) (fun hm0 => ?_)⟩
        · rw [btree_Tree_floor_b3_eq]
          obtain ⟨hcut, hX, hY⟩ := w.cut he hl hr hm0
          rw [hfl] at hcut
          obtain ⟨eX, eY⟩ := cut_eq hcut hX hY
          refine fin _ ?_
          have hkey : hasKey (eR ++ Rb m fs) key = false := by rw [hasKey_app w.gt]; exact hf
          rw [floorS, ← eX, ← eY, hkey]; simp
        · obtain ⟨m', rfl⟩ : ∃ m', m = m' + 1 := ⟨m - 1, by omega⟩
          obtain ⟨f, k', u', Ac', Au', hb, hfL, hfR, hfill, hkL, w'⟩ := w.step he hl hr hf
          have hok := w'.ctx.ok
          subst hfL hfR
          rw [← hb]
          refine w'.kid sA hkL ?_
          refine ⟨⟨m', f :: fs, k', u', Ac', Au', vis + fs.length + 1, s2, by simp; omega, w', ?_⟩, ?_⟩
          · show _ = ((lastOf (Lb (m' + 1) fs ++ before m' f)).1, (lastOf (Lb (m' + 1) fs ++ before m' f)).2.1, (lastOf (Lb (m' + 1) fs ++ before m' f)).2.2, _, ())
            have hbl : (f.tL.map (flat m')).length = f.eL.length := by rw [List.length_map]; exact hok.1
            have : lastOf (Lb (m' + 1) fs ++ before m' f) = lastOf (Lb (m' + 1) fs ++ f.eL) := by
              rw [lastOf_app, lastOf_app]
              by_cases he0 : f.eL = []
              · rw [if_pos he0, if_pos (show before m' f = [] from (wL_nil hbl).2 he0)]
              · rw [if_neg he0, if_neg (fun h : before m' f = [] => he0 ((wL_nil hbl).1 h))]; exact lastOf_wL hbl
            rw [this]
          · rw [hvo, visOf_eq s2]; omega
      refine condP (fun hpos => ?_) (fun hpos => ?_)
      · have hpos' : 0 < eL.length := by omega
        have e1 : ((eL.length : Int) - 1) = ((eL.length - 1 : Nat) : Int) := by omega
        obtain ⟨g1, g2, g3⟩ := last_split hpos'
        have l1 : (u.es.map Prod.fst).getD (eL.length - 1) 0 = (eL.map Prod.fst).getD (eL.length - 1) 0 := by rw [he, List.map_append]; simp [List.getD, List.getElem?_append, Nat.sub_lt hpos']
        have l2 : (u.es.map Prod.snd).getD (eL.length - 1) 0 = (eL.map Prod.snd).getD (eL.length - 1) 0 := by rw [he, List.map_append]; simp [List.getD, List.getElem?_append, Nat.sub_lt hpos']
        refine ⟨_, _, _, kb.cell 0, ⟨by omega, by omega⟩, ?_⟩
        rw [e1]
        refine r1.int (by omega) (by omega) ⟨_, _, _, Blk.cellA kb 1, ⟨by omega, by omega⟩, r2.int (by omega) (by omega) ?_⟩
        rw [Int.toNat_natCast, l1, l2, g1, g2, ← g3]
        have hne : eL ≠ [] := fun h => by rw [h] at hpos'; cases hpos'
        refine hcutL (lastOf eL) ?_
        rw [lastOf_app, if_neg hne]
      · have h0' : eL = [] := List.eq_nil_of_length_eq_zero (by omega)
        refine hcutL (lastOf (Lb m fs)) ?_
        rw [h0', List.append_nil]
theorem ceiling_ok {h0 h : Hp} {order tb : Nat} {xs : List E} {vis key : Int} {A F : Bag} (hor : 3 ≤ order) (h64 : order ≤ 64) (so : Srt xs) (hmost : xs.length ≤ 2000) (hvis : 0 ≤ vis ∧ vis ≤ 1000000000000) (ta : TreeA order xs tb vis A) (s : St h0 h (A + F)) :
    HCalls Tryz.prog 62 #[ptr tb, .int .i64 key] h (fun v h' => ∃ A' vis', (vis ≤ vis' ∧ vis' ≤ vis + 1000) ∧ v = accV (ceilS xs key) ∧ TreeA order xs tb vis' A' ∧ St h0 h' (A' + F)) := by
  refine btree_Tree_ceiling_call ?_
  rw [btree_Tree_ceiling_b0_eq]
  rcases ta with ⟨rfl, rfl⟩ | ⟨n, root, t, A1, rfl, hh, hfl, hsz⟩
  · refine ⟨_, s.cellA 2, fun st h' => h' = h ∧ st = (0, 0, false, none, ()), fun _ _ => 0, ⟨rfl, rfl⟩, ?_⟩
    rintro _ h1 ⟨rfl, rfl⟩
    rw [btree_Tree_ceiling_b1_eq]
    refine condNo rfl ?_
    rw [btree_Tree_ceiling_b3_eq]
    exact ⟨_, vis, ⟨by omega, by omega⟩, rfl, .inl ⟨rfl, rfl⟩, s⟩
  · have hxl : 2 ^ (n + 1) ≤ xs.length + 1 := by rw [← hfl]; exact hsz.low hh (by omega)
    have hn := pow_bound hxl (by omega)
    have so' : Srt (flat n t) := by rw [hfl]; exact so
    have s := s.to (B := treeC tb order xs.length (some ⟨root, 0, none⟩) vis + (A1 + F))
    refine ⟨_, s.cellA 2, ?_⟩
    refine ⟨fun st h' => ∃ m fs k u Ac Au vis', St h0 h' (treeC tb order xs.length (some ⟨root, 0, none⟩) vis' + (A1 + F)) ∧ vis' = vis + fs.length ∧ Way key ((order + 1) / 2 - 1) (order - 1) root n t A1 m fs k u Ac Au ∧
      st = ((headOf (Rb m fs)).1, (headOf (Rb m fs)).2.1, (headOf (Rb m fs)).2.2, some ⟨k, 0, none⟩, ()), fun _ h' => (vis + n + 2 - visOf tb h').toNat, ⟨n, [], root, t, 0, A1, vis, s, by simp, Way.start hh so' hsz, rfl⟩, ?_⟩
    rintro _ h1 ⟨m, fs, k, u, Ac, Au, vis', s1, rfl, w, rfl⟩
    have hfs := w.hgt
    dsimp only
    rw [btree_Tree_ceiling_b1_eq]
    refine condYes rfl ⟨_, s1.cellA 3, ⟨by omega, by omega⟩, ?_⟩
    have hvo := visOf_eq s1
    refine s1.wr (o := 3) (add_mk _ _ _) (by simp) fun h2 s2 => ?_
    have s2 : St h0 h2 (treeC tb order xs.length (some ⟨root, 0, none⟩) (vis + fs.length + 1) + (A1 + F)) := s2
    have sA : St h0 h2 (A1 + (treeC tb order xs.length (some ⟨root, 0, none⟩) (vis + fs.length + 1) + F)) := s2.to
    have sU : St h0 h2 (Au + (Ac + (treeC tb order xs.length (some ⟨root, 0, none⟩) (vis + fs.length + 1) + F))) := (w.bag ▸ sA : St h0 h2 (Ac + Au + _)).to
    obtain ⟨p1, p2, p3, c1, c2, c3, m3, kb, r1, r2, hleaf⟩ := w.sub.read sU
    have hule := w.szb.1.2
    refine ⟨_, _, _, kb.cell 0, ?_⟩
    refine (search_ok (key := key) r1 (by omega) (w.srt.sublist w.sub.sub)).mono fun v3 h3 ⟨hh3, eL, eR, he, hl, hr, hv3⟩ => ?_
    subst hh3
    have hlen : u.es.length = eL.length + eR.length := by rw [he, List.length_append]
    have fin : ∀ Y : Int × Int × Bool, Y = ceilS xs key → ∃ A' vis', (vis ≤ vis' ∧ vis' ≤ vis + 1000) ∧ Value.tuple #[.int .i64 Y.1, .int .i64 Y.2.1, .bool Y.2.2] = accV (ceilS xs key) ∧ TreeA order xs tb vis' A' ∧ St h0 h3 (A' + F) := by
      rintro _ rfl
      exact ⟨_, vis + fs.length + 1, ⟨by omega, by omega⟩, rfl, .inr ⟨n, root, t, A1, rfl, hh, hfl, hsz⟩, s2.to⟩
    refine ⟨_, _, hv3, cond_intro (fun hf => ?_) (fun hf => ?_)⟩
    · obtain ⟨old, eR', rfl⟩ : ∃ old eR', eR = (key, old) :: eR' := by
        cases eR with
        | nil => cases hf
        | cons e eR' =>
          have : e.1 = key := of_decide_eq_true hf
          exact ⟨e.2, eR', by rw [← this]⟩
      obtain ⟨X, Y, hxy, hX, hY⟩ := w.found he
      rw [hfl] at hxy
      have hg : (u.es.map Prod.snd).getD eL.length 0 = old := by rw [he]; simp [List.getD]
      rw [List.length_cons] at hlen
      refine ⟨_, _, _, Blk.cellA kb 1, r2.int (by omega) (by omega) ?_⟩
      rw [Int.toNat_natCast, hg]
      refine fin (key, old, true) ?_
      have hup := upS_found hxy hX hY
      rw [ceilS, hup]; rfl
    · have hcutL : ∀ f' : Int × Int × Bool, f' = headOf (eR ++ Rb m fs) → btree_Tree_ceiling_b2 (some ⟨tb, 0, none⟩) key f'.1 f'.2.1 f'.2.2 (some ⟨k, 0, none⟩) (eL.length : Int) h3 (fun s' h' => (∃ m fs k u Ac Au vis', St h0 h' (treeC tb order xs.length (some ⟨root, 0, none⟩) vis' + (A1 + F)) ∧ vis' = vis + fs.length ∧ Way key ((order + 1) / 2 - 1) (order - 1) root n t A1 m fs k u Ac Au ∧
          s' = ((headOf (Rb m fs)).1, (headOf (Rb m fs)).2.1, (headOf (Rb m fs)).2.2, some ⟨k, 0, none⟩, ())) ∧ (vis + n + 2 - visOf tb h').toNat < (vis + n + 2 - visOf tb h1).toNat) (fun v h' => ∃ A' vis', (vis ≤ vis' ∧ vis' ≤ vis + 1000) ∧ v = accV (ceilS xs key) ∧ TreeA order xs tb vis' A' ∧ St h0 h' (A' + F)) := by
        rintro _ rfl
        rw [btree_Tree_ceiling_b2_eq]
        refine hleaf.mono fun v4 h4 ⟨hh4, hv4⟩ => ?_
        subst hh4
        refine ⟨_, hv4, condP (fun hm0 => ?_) (fun hm0 => ?_)⟩
        · rw [btree_Tree_ceiling_b3_eq]
          obtain ⟨hcut, hX, hY⟩ := w.cut he hl hr hm0
          rw [hfl] at hcut
          obtain ⟨eX, eY⟩ := cut_eq hcut hX hY
          refine fin _ ?_
          have hkey : hasKey (eR ++ Rb m fs) key = false := by rw [hasKey_app w.gt]; exact hf
          rw [ceilS, ← eY]
        · obtain ⟨m', rfl⟩ : ∃ m', m = m' + 1 := ⟨m - 1, by omega⟩
          obtain ⟨f, k', u', Ac', Au', hb, hfL, hfR, hfill, hkL, w'⟩ := w.step he hl hr hf
          have hok := w'.ctx.ok
          subst hfL hfR
          rw [← hb]
          refine w'.kid sA hkL ?_
          refine ⟨⟨m', f :: fs, k', u', Ac', Au', vis + fs.length + 1, s2, by simp; omega, w', ?_⟩, ?_⟩
          · show _ = ((headOf (behind m' f ++ Rb (m' + 1) fs)).1, (headOf (behind m' f ++ Rb (m' + 1) fs)).2.1, (headOf (behind m' f ++ Rb (m' + 1) fs)).2.2, _, ())
            have hbl : (f.tR.map (flat m')).length = f.eR.length := by rw [List.length_map]; exact hok.2.1
            have : headOf (behind m' f ++ Rb (m' + 1) fs) = headOf (f.eR ++ Rb (m' + 1) fs) := by
              rw [headOf_app, headOf_app]
              by_cases he0 : f.eR = []
              · rw [if_pos he0, if_pos (show behind m' f = [] from (headOf_wR hbl).2.2 he0)]
              · rw [if_neg he0, if_neg (fun h : behind m' f = [] => he0 ((headOf_wR hbl).2.1 h))]; exact (headOf_wR hbl).1
            rw [this]
          · rw [hvo, visOf_eq s2]; omega
      refine ⟨_, _, _, kb.cell 0, condP (fun hpos => ?_) (fun hpos => ?_)⟩
      · obtain ⟨e, eR', rfl⟩ : ∃ e eR', eR = e :: eR' := by
          cases eR with
          | nil => simp at hlen; omega
          | cons e eR' => exact ⟨e, eR', rfl⟩
        have l1 : (u.es.map Prod.fst).getD eL.length 0 = e.1 := by rw [he]; simp [List.getD]
        have l2 : (u.es.map Prod.snd).getD eL.length 0 = e.2 := by rw [he]; simp [List.getD]
        rw [List.length_cons] at hlen
        refine ⟨_, _, _, kb.cell 0, r1.int (by omega) (by omega) ⟨_, _, _, Blk.cellA kb 1, r2.int (by omega) (by omega) ?_⟩⟩
        rw [Int.toNat_natCast, l1, l2]
        exact hcutL (e.1, e.2, true) rfl
      · have h0' : eR = [] := List.eq_nil_of_length_eq_zero (by omega)
        refine hcutL (headOf (Rb m fs)) ?_
        rw [h0', List.nil_append]
/-! ### the methods -/
def getS (xs : List E) (key : Int) : Int × Int := if KeyP key then (if hasKey (upS xs key) key = true then (valOf (upS xs key), 0) else (0, 12)) else (0, 1)
def FloorS (xs : List E) (key : Int) : Int × Int × Int := if KeyP key then (if (floorS xs key).2.2 = true then ((floorS xs key).1, (floorS xs key).2.1, 0) else (0, 0, 12)) else (0, 0, 1)
def CeilS (xs : List E) (key : Int) : Int × Int × Int := if KeyP key then (if (ceilS xs key).2.2 = true then ((ceilS xs key).1, (ceilS xs key).2.1, 0) else (0, 0, 12)) else (0, 0, 1)
theorem low_lt {xs : List E} {key : Int} : ∀ e ∈ lowS xs key, e.1 < key := fun e he => of_decide_eq_true (List.all_eq_true.1 List.all_takeWhile e he)
section
variable {h0 h : Hp} {order tb : Nat} {xs : List E} {vis key : Int} {A F : Bag} (hor : 3 ≤ order) (h64 : order ≤ 64) (so : Srt xs) (hmost : xs.length ≤ 2000) (hvis : 0 ≤ vis ∧ vis ≤ 1000000000000) (ta : TreeA order xs tb vis A) (s : St h0 h (A + F))
include hor h64 so hmost hvis ta s
theorem Get_ok : HCalls Tryz.prog 15 #[ptr tb, .int .i64 key] h (fun v h' => ∃ A' vis', (vis ≤ vis' ∧ vis' ≤ vis + 1000) ∧ v = .tuple #[.int .i64 (getS xs key).1, .int .i64 (getS xs key).2] ∧ TreeA order xs tb vis' A' ∧ St h0 h' (A' + F)) := by
  refine btree_Tree_Get_call ?_
  rw [btree_Tree_Get_b0_eq]
  refine condNo rfl ?_
  refine s.new (cs := [.int .i64 key]) fun b h1 _ s1 => ?_
  refine (number1 s1.blk).mono fun v1 h2 ⟨hh, hv⟩ => ?_
  subst hh
  refine ⟨_, hv, condN (fun hk => ?_) (fun hk => ?_)⟩
  · rw [getS, if_neg hk]
    exact ⟨A, vis, ⟨by omega, by omega⟩, rfl, ta, s1.drop⟩
  · rw [btree_Tree_Get_b1_eq]
    refine (floor_ok (key := key) hor h64 so hmost hvis ta s1.drop).mono fun v2 h3 ⟨A', vis', hw, hv2, ta', s3⟩ => ?_
    refine ⟨_, _, _, hv2, ?_⟩
    rw [getS, if_pos hk]
    by_cases hkey : hasKey (upS xs key) key = true
    · have e : floorS xs key = (key, valOf (upS xs key), true) := if_pos hkey
      rw [e, if_pos hkey]
      refine condNo rfl (condNo (by simp) ?_)
      rw [btree_Tree_Get_b2_eq]
      exact ⟨A', vis', hw, rfl, ta', s3⟩
    · have e : floorS xs key = lastOf (lowS xs key) := if_neg hkey
      rw [e, if_neg hkey]
      refine cond_intro (fun h4 => ?_) (fun h4 => ?_)
      · exact ⟨A', vis', hw, rfl, ta', s3⟩
      · have hlt : (lastOf (lowS xs key)).1 ≠ key := by
          rw [lastOf] at h4 ⊢
          cases hg : (lowS xs key).getLast? with
          | none => rw [hg] at h4; cases h4
          | some e =>
            have := low_lt (xs := xs) (key := key) e (List.mem_of_getLast? hg)
            show e.1 ≠ key
            omega
        refine condYes (by rw [decide_eq_false hlt]; rfl) ?_
        exact ⟨A', vis', hw, rfl, ta', s3⟩
theorem Floor_ok : HCalls Tryz.prog 29 #[ptr tb, .int .i64 key] h (fun v h' => ∃ A' vis', (vis ≤ vis' ∧ vis' ≤ vis + 1000) ∧ v = .tuple #[.int .i64 (FloorS xs key).1, .int .i64 (FloorS xs key).2.1, .int .i64 (FloorS xs key).2.2] ∧ TreeA order xs tb vis' A' ∧ St h0 h' (A' + F)) := by
  refine btree_Tree_Floor_call ?_
  rw [btree_Tree_Floor_b0_eq]
  refine condNo rfl ?_
  refine s.new (cs := [.int .i64 key]) fun b h1 _ s1 => ?_
  refine (number1 s1.blk).mono fun v1 h2 ⟨hh, hv⟩ => ?_
  subst hh
  refine ⟨_, hv, condN (fun hk => ?_) (fun hk => ?_)⟩
  · rw [FloorS, if_neg hk]
    exact ⟨A, vis, ⟨by omega, by omega⟩, rfl, ta, s1.drop⟩
  · rw [btree_Tree_Floor_b1_eq]
    refine (floor_ok (key := key) hor h64 so hmost hvis ta s1.drop).mono fun v2 h3 ⟨A', vis', hw, hv2, ta', s3⟩ => ?_
    refine ⟨_, _, _, hv2, ?_⟩
    rw [FloorS, if_pos hk]
    refine cond_intro (fun h4 => ?_) (fun h4 => ?_)
    · rw [if_neg (by simpa using h4)]; exact ⟨A', vis', hw, rfl, ta', s3⟩
    · rw [if_pos (by simpa using h4)]; exact ⟨A', vis', hw, rfl, ta', s3⟩
theorem Ceil_ok : HCalls Tryz.prog 30 #[ptr tb, .int .i64 key] h (fun v h' => ∃ A' vis', (vis ≤ vis' ∧ vis' ≤ vis + 1000) ∧ v = .tuple #[.int .i64 (CeilS xs key).1, .int .i64 (CeilS xs key).2.1, .int .i64 (CeilS xs key).2.2] ∧ TreeA order xs tb vis' A' ∧ St h0 h' (A' + F)) := by
  refine btree_Tree_Ceiling_call ?_
  rw [btree_Tree_Ceiling_b0_eq]
  refine condNo rfl ?_
  refine s.new (cs := [.int .i64 key]) fun b h1 _ s1 => ?_
  refine (number1 s1.blk).mono fun v1 h2 ⟨hh, hv⟩ => ?_
  subst hh
  refine ⟨_, hv, condN (fun hk => ?_) (fun hk => ?_)⟩
  · rw [CeilS, if_neg hk]
    exact ⟨A, vis, ⟨by omega, by omega⟩, rfl, ta, s1.drop⟩
  · rw [btree_Tree_Ceiling_b1_eq]
    refine (ceiling_ok (key := key) hor h64 so hmost hvis ta s1.drop).mono fun v2 h3 ⟨A', vis', hw, hv2, ta', s3⟩ => ?_
    refine ⟨_, _, _, hv2, ?_⟩
    rw [CeilS, if_pos hk]
    refine cond_intro (fun h4 => ?_) (fun h4 => ?_)
    · rw [if_neg (by simpa using h4)]; exact ⟨A', vis', hw, rfl, ta', s3⟩
    · rw [if_pos (by simpa using h4)]; exact ⟨A', vis', hw, rfl, ta', s3⟩
omit hor h64 so hmost hvis in
theorem Len_ok : HCalls Tryz.prog 14 #[ptr tb] h (fun v h' => h' = h ∧ v = .int .i64 (xs.length : Int)) := by
  refine btree_Tree_Len_call ?_
  rw [btree_Tree_Len_b0_eq]
  obtain ⟨root, A1, rfl, _⟩ := ta.vis
  exact condNo rfl ⟨_, (s.at (treeC tb order xs.length root vis)).cellA 1, rfl, rfl⟩
end
theorem New_ok {order : Int} {h : Hp} : HCalls Tryz.prog 6 #[.int .i64 order] h (fun v h' => if order < 3 ∨ 64 < order then h' = h ∧ v = .tuple #[.pointer none, .int .i64 2] else ∃ tb A, v = .tuple #[ptr tb, .int .i64 0] ∧ TreeA order.toNat [] tb 0 A ∧ St h h' A) := by
  refine btree_New_call ?_
  rw [btree_New_b0_eq]
  refine condP (fun h1 => ?_) (fun h1 => condP (fun h2 => ?_) (fun h2 => ?_))
  · rw [if_pos (.inl h1)]; exact ⟨rfl, rfl⟩
  · rw [if_pos (.inr h2)]; exact ⟨rfl, rfl⟩
  · rw [btree_New_b1_eq]
    have e : order = (order.toNat : Int) := by omega
    refine (St.start h).new (cs := [.int .i64 order, .int .i64 0, .pointer none, .int .i64 0]) fun b h' _ s' => ?_
    show ite _ _ _
    rw [if_neg (by omega)]
    refine ⟨b, _, rfl, .inl ⟨rfl, rfl⟩, ?_⟩
    rw [treeC, ← e]
    exact s'.to
end Go.Proofs.YtkdmcdnfakmapaaGreat

/- B-trees: a function is called for all entries. -/
set_option maxRecDepth 100000
namespace Go.Proofs.YtkdmcdnfakmapaaGreat
open Go Go.Sx
section
variable {σ : Type}
/-- A function is called for entries, as long as it says so. -/
def runW (st : σ → E → σ × Bool) : σ → List E → σ × Bool
  | s, [] => (s, true)
  | s, e :: es => match st s e with
    | (s', true) => runW st s' es
    | (s', false) => (s', false)
theorem runW_app (st : σ → E → σ × Bool) : ∀ (a b : List E) (s : σ), runW st s (a ++ b) = match runW st s a with | (s', true) => runW st s' b | (s', false) => (s', false)
  | [], b, s => rfl
  | e :: a, b, s => by
    simp only [List.cons_append, runW]
    rcases st s e with ⟨s', _ | _⟩
    · rfl
    · exact runW_app st a b s'
theorem runW_true {st : σ → E → σ × Bool} {a b : List E} {s s' : σ} (h : runW st s a = (s', true)) : runW st s (a ++ b) = runW st s' b := by rw [runW_app, h]
theorem runW_false {st : σ → E → σ × Bool} {a b : List E} {s s' : σ} (h : runW st s a = (s', false)) : runW st s (a ++ b) = (s', false) := by rw [runW_app, h]
def pre : Nat → BT → Nat → List E
  | 0, t, i => t.es.take i
  | n + 1, t, i => wL ((t.ts.take i).map (flat n)) (t.es.take i)
abbrev nilT : BT := .nd [] []
theorem pre_succ {n : Nat} {t : BT} {i : Nat} (hl : t.ts.length = t.es.length + 1) (hi : i < t.es.length) : pre (n + 1) t (i + 1) = pre (n + 1) t i ++ (flat n (t.ts.getD i nilT) ++ [t.es.getD i (0, 0)]) := by
  have h1 : i < t.ts.length := by omega
  have e1 : t.ts.take (i + 1) = t.ts.take i ++ [t.ts.getD i nilT] := by
    rw [List.take_succ_eq_append_getElem h1]; simp [List.getD, h1]
  have e2 : t.es.take (i + 1) = t.es.take i ++ [t.es.getD i (0, 0)] := by
    rw [List.take_succ_eq_append_getElem hi]; simp [List.getD, hi]
  simp only [pre]
  rw [e1, e2, List.map_append, wL_append _ _ _ _ (by rw [List.length_map, List.length_take, List.length_take]; omega)]
  simp [wL]
theorem pre_last {n : Nat} {t : BT} (hl : t.ts.length = t.es.length + 1) : flat (n + 1) t = pre (n + 1) t t.es.length ++ flat n (t.ts.getD t.es.length nilT) := by
  have h1 : t.es.length < t.ts.length := by omega
  have e1 : t.ts = t.ts.take t.es.length ++ [t.ts.getD t.es.length nilT] := by
    have : t.ts.getD t.es.length nilT = t.ts[t.es.length] := by simp [List.getD, h1]
    rw [this, ← List.take_succ_eq_append_getElem h1, List.take_of_length_le (by omega)]
  show weave (t.ts.map (flat n)) t.es = wL _ (t.es.take t.es.length) ++ _
  conv => lhs; rw [e1]
  rw [List.map_append, List.take_of_length_le (Nat.le_refl _)]
  have := weave_at ((t.ts.take t.es.length).map (flat n)) t.es (flat n (t.ts.getD t.es.length nilT)) [] [] (by rw [List.length_map, List.length_take]; omega)
  rw [List.append_nil] at this
  rw [show List.map (flat n) [t.ts.getD t.es.length nilT] = [flat n (t.ts.getD t.es.length nilT)] from rfl, this]
  simp [wR]
theorem pre_mid {n : Nat} {t : BT} {i : Nat} (hl : t.ts.length = t.es.length + 1) (hi : i < t.es.length) : ∃ rest, flat (n + 1) t = pre (n + 1) t i ++ (flat n (t.ts.getD i nilT) ++ (t.es.getD i (0, 0) :: rest)) := by
  have h1 : i < t.ts.length := by omega
  have e1 : t.ts = t.ts.take i ++ t.ts.getD i nilT :: t.ts.drop (i + 1) := by
    have : t.ts.getD i nilT = t.ts[i] := by simp [List.getD, h1]
    rw [this, ← List.drop_eq_getElem_cons h1, List.take_append_drop]
  have e2 : t.es = t.es.take i ++ t.es.getD i (0, 0) :: t.es.drop (i + 1) := by
    have : t.es.getD i (0, 0) = t.es[i] := by simp [List.getD, hi]
    rw [this, ← List.drop_eq_getElem_cons hi, List.take_append_drop]
  obtain ⟨k, kR, hk⟩ : ∃ k kR, t.ts.drop (i + 1) = k :: kR := by
    cases h : t.ts.drop (i + 1) with
    | nil => have := congrArg List.length h; rw [List.length_drop] at this; simp at this; omega
    | cons k kR => exact ⟨k, kR, rfl⟩
  rw [hk] at e1
  have := weave_at ((t.ts.take i).map (flat n)) (t.es.take i) (flat n (t.ts.getD i nilT)) ((k :: kR).map (flat n)) (t.es.getD i (0, 0) :: t.es.drop (i + 1)) (by rw [List.length_map, List.length_take, List.length_take]; omega)
  refine ⟨flat n k ++ wR (t.es.drop (i + 1)) (kR.map (flat n)), ?_⟩
  show weave (t.ts.map (flat n)) t.es = _
  conv => lhs; rw [e1, e2]
  rw [List.map_append, List.map_cons, this]
  rfl
/-- What is called for each entry. -/
def Fun1 (h0 : Hp) (g : Nat) (cap : Array Value) (st : σ → E → σ × Bool) (Inv : σ → Bag → Prop) (Ok : σ → Prop) : Prop :=
  ∀ (s : σ) (C : Bag) (h : Hp) (e : E) (G : Bag), Ok s → Inv s C → St h0 h (C + G) → HCalls Tryz.prog g (([.int .i64 e.1, .int .i64 e.2] : List Value) ++ cap.toList).toArray h (fun v h' => ∃ C', v = .bool (st s e).2 ∧ Inv (st s e).1 C' ∧ St h0 h' (C' + G))
theorem runW_ok {st : σ → E → σ × Bool} {Ok : σ → Prop} (hok : ∀ s e, Ok s → (st s e).2 = true → Ok (st s e).1) : ∀ (l : List E) (s s' : σ), Ok s → runW st s l = (s', true) → Ok s'
  | [], s, s', h, hr => by cases hr; exact h
  | e :: l, s, s', h, hr => by
    simp only [runW] at hr
    have := hok s e h
    rcases hst : st s e with ⟨s2, _ | _⟩
    · rw [hst] at hr; cases hr
    · rw [hst] at hr this; exact runW_ok hok l s2 s' (this rfl) hr
theorem walk_ok {h0 : Hp} {g : Nat} {cap : Array Value} {st : σ → E → σ × Bool} {Inv : σ → Bag → Prop} {Ok : σ → Prop} (hok : ∀ s e, Ok s → (st s e).2 = true → Ok (st s e).1) (hg : F g = true) (hf : Fun1 h0 g cap st Inv Ok) {lo hi : Nat} (hhi : hi ≤ 1000) :
    ∀ (n : Nat) {b : Nat} {t : BT} {A : Bag} {s : σ} {C : Bag} {h : Hp} {G : Bag}, Hold n b t A → Sz lo hi n t → Ok s → Inv s C → St h0 h (A + (C + G)) →
      HCalls Tryz.prog 31 #[ptr b, .func (.func g) #[] cap] h (fun v h' => ∃ C', v = .bool (runW st s (flat n t)).2 ∧ Inv (runW st s (flat n t)).1 C' ∧ St h0 h' (A + (C' + G))) := by
  intro n
  induction n with
  | zero =>
    intro b t A s C h G hh hz hos hi0 hs
    obtain ⟨ht, hna⟩ := hh
    have hna0 := hna
    obtain ⟨p1, p2, p3, c1, c2, c3, C1, C2, C3, rfl, ns⟩ := hna
    have hze := hz.here
    refine btree_node_walk_call ?_
    rw [btree_node_walk_b0_eq]
    refine condNo rfl ⟨_, _, _, (hs.at (nodeC b t.es.length ([] : List Nat).length p1 p2 p3 c1 c2 c3)).cell 0, ?_⟩
    refine ⟨fun x h' => ∃ (i : Nat) (s' : σ) (C' : Bag), x.1 = i ∧ i ≤ t.es.length ∧ runW st s (t.es.take i) = (s', true) ∧ Inv s' C' ∧ St h0 h' (nodeC b t.es.length ([] : List Nat).length p1 p2 p3 c1 c2 c3 + (C1 + (C2 + C3)) + (C' + G)), fun x _ => t.es.length - x.1.toNat, ⟨0, s, C, rfl, by omega, rfl, hi0, hs⟩, ?_⟩
    rintro ⟨_, _⟩ h1 ⟨i, s1, D, rfl, hil, hrun, hi1, hs1⟩
    dsimp only
    rw [btree_node_walk_b1_eq]
    have k1 := (hs1.at (nodeC b t.es.length ([] : List Nat).length p1 p2 p3 c1 c2 c3))
    refine condP (fun hlt => ?_) (fun hge => ?_)
    · have hlt' : i < t.es.length := by omega
      refine (ns.s1.rd (hs1.at C1)).int (by omega) (by omega) ?_
      rw [Int.toNat_natCast]
      refine (leaf_ok hs1 hna0).mono fun v1 h2 ⟨hh2, hv1⟩ => ?_
      subst hh2
      refine ⟨_, hv1, condNo rfl ⟨_, _, _, k1.cellA 1, (ns.s2.rd (hs1.at C2)).int (by omega) (by omega) ?_⟩⟩
      rw [Int.toNat_natCast]
      show callX Tryz.prog F g _ _ _
      refine callX_of hg ?_
      have hg1 : (t.es.map Prod.fst).getD i 0 = (t.es.getD i (0, 0)).1 := by simp [List.getD, hlt']
      have hg2 : (t.es.map Prod.snd).getD i 0 = (t.es.getD i (0, 0)).2 := by simp [List.getD, hlt']
      rw [hg1, hg2]
      have e2 : t.es.take (i + 1) = t.es.take i ++ [t.es.getD i (0, 0)] := by
        rw [List.take_succ_eq_append_getElem hlt']; simp [List.getD, hlt']
      have e3 : t.es = t.es.take i ++ ([t.es.getD i (0, 0)] ++ t.es.drop (i + 1)) := by rw [← List.append_assoc, ← e2, List.take_append_drop]
      refine (hf s1 D h2 (t.es.getD i (0, 0)) (nodeC b t.es.length ([] : List Nat).length p1 p2 p3 c1 c2 c3 + (C1 + (C2 + C3)) + G) (runW_ok hok _ _ _ hos hrun) hi1 (hs1.to (B := D + (nodeC b t.es.length ([] : List Nat).length p1 p2 p3 c1 c2 c3 + (C1 + (C2 + C3)) + G)))).mono fun v3 h3 ⟨D', hv3, hi3, hs3⟩ => ?_
      have hs3 := hs3.to (B := nodeC b t.es.length ([] : List Nat).length p1 p2 p3 c1 c2 c3 + (C1 + (C2 + C3)) + (D' + G))
      refine ⟨_, hv3, cond_intro (fun hb => ?_) (fun hb => ?_)⟩
      · have hb' : (st s1 (t.es.getD i (0, 0))).2 = false := by simpa using hb
        have hr : runW st s (flat 0 t) = ((st s1 (t.es.getD i (0, 0))).1, false) := by
          show runW st s t.es = _
          conv => lhs; rw [e3]
          rw [runW_true hrun]
          refine runW_false ?_
          simp only [runW]
          rcases hst : st s1 (t.es.getD i (0, 0)) with ⟨s2, _ | _⟩
          · rfl
          · rw [hst] at hb'; cases hb'
        rw [hr]
        exact ⟨D', rfl, hi3, hs3⟩
      · have hb' : (st s1 (t.es.getD i (0, 0))).2 = true := by simpa using hb
        rw [btree_node_walk_b2_eq]
        refine ⟨⟨by omega, by omega⟩, ⟨i + 1, _, D', by simp only; omega, by omega, ?_, hi3, hs3⟩, by simp only; omega⟩
        rw [e2, runW_true hrun]
        simp only [runW]
        rcases hst : st s1 (t.es.getD i (0, 0)) with ⟨s2, _ | _⟩
        · rw [hst] at hb'; cases hb'
        · rfl
    · have : i = t.es.length := by omega
      subst this
      rw [List.take_of_length_le (Nat.le_refl _)] at hrun
      have hrun' : runW st s (flat 0 t) = (s1, true) := hrun
      rw [btree_node_walk_b3_eq]
      refine ⟨true, (leaf_ok hs1 hna0).mono fun v5 h6 ⟨hh6, hv5⟩ => ⟨hv5, hh6⟩, condYes rfl ?_⟩
      rw [hrun']
      exact ⟨D, rfl, hi1, hs1⟩
  | succ n ih =>
    intro b t A s C h G hh hz hos hi0 hs
    have hlen := hh.len
    obtain ⟨ks, A1, A2, rfl, hna, hkl, hall⟩ := hh
    have hna0 := hna
    obtain ⟨p1, p2, p3, c1, c2, c3, C1, C2, C3, rfl, ns⟩ := hna
    have hze := hz.here
    refine btree_node_walk_call ?_
    rw [btree_node_walk_b0_eq]
    refine condNo rfl ⟨_, _, _, (hs.at (nodeC b t.es.length ks.length p1 p2 p3 c1 c2 c3)).cell 0, ?_⟩
    have kid : ∀ (i : Nat), i < ks.length → ∀ (s1 : σ) (D : Bag) (h1 : Hp), Ok s1 → Inv s1 D → St h0 h1 (nodeC b t.es.length ks.length p1 p2 p3 c1 c2 c3 + (C1 + (C2 + C3)) + A2 + (D + G)) →
        HCalls Tryz.prog 31 #[ptr (ks.getD i 0), .func (.func g) #[] cap] h1 (fun v h' => ∃ C', v = .bool (runW st s1 (flat n (t.ts.getD i nilT))).2 ∧ Inv (runW st s1 (flat n (t.ts.getD i nilT))).1 C' ∧ St h0 h' (nodeC b t.es.length ks.length p1 p2 p3 c1 c2 c3 + (C1 + (C2 + C3)) + A2 + (C' + G))) := by
      intro i hi' s1 D h1 ho1 hi1 hs1
      obtain ⟨Ai, B2, hA2, hk⟩ := hall.pick (d := nilT) (d' := 0) hi'
      have hzk : Sz lo hi n (t.ts.getD i nilT) := by
        have h2 : i < t.ts.length := by omega
        have : t.ts.getD i nilT = t.ts[i] := by simp [List.getD, h2]
        rw [this]; exact hz.2 _ (List.getElem_mem h2)
      have hs2 : St h0 h1 (Ai + (D + (nodeC b t.es.length ks.length p1 p2 p3 c1 c2 c3 + (C1 + (C2 + C3)) + (B2 + G)))) := by rw [hA2] at hs1; exact hs1.to
      refine (ih hk hzk ho1 hi1 hs2).mono fun v h' ⟨C', hv, hi2, hs3⟩ => ⟨C', hv, hi2, ?_⟩
      rw [hA2]; exact hs3.to
    refine ⟨fun x h' => ∃ (i : Nat) (s' : σ) (C' : Bag), x.1 = i ∧ i ≤ t.es.length ∧ runW st s (pre (n + 1) t i) = (s', true) ∧ Inv s' C' ∧ St h0 h' (nodeC b t.es.length ks.length p1 p2 p3 c1 c2 c3 + (C1 + (C2 + C3)) + A2 + (C' + G)), fun x _ => t.es.length - x.1.toNat, ⟨0, s, C, rfl, by omega, rfl, hi0, hs⟩, ?_⟩
    rintro ⟨_, _⟩ h1 ⟨i, s1, D, rfl, hil, hrun, hi1, hs1⟩
    dsimp only
    rw [btree_node_walk_b1_eq]
    have lf : ∀ {h2 : Hp} {D : Bag}, St h0 h2 (nodeC b t.es.length ks.length p1 p2 p3 c1 c2 c3 + (C1 + (C2 + C3)) + A2 + (D + G)) → HCalls Tryz.prog 60 #[ptr b] h2 (fun v h' => h' = h2 ∧ v = .bool false) := fun {h2 D} hs2 =>
      (leaf_ok (hs2.to (B := nodeC b t.es.length ks.length p1 p2 p3 c1 c2 c3 + (C1 + (C2 + C3)) + (A2 + (D + G)))) hna0).mono fun v h' ⟨hh, hv⟩ => ⟨hh, by rw [hv, decide_eq_false (by omega)]⟩
    refine condP (fun hlt => ?_) (fun hge => ?_)
    · have hlt' : i < t.es.length := by omega
      refine (ns.s1.rd (hs1.at C1)).int (by omega) (by omega) ?_
      rw [Int.toNat_natCast]
      refine (lf hs1).mono fun v1 h2 ⟨hh2, hv1⟩ => ?_
      subst hh2
      refine ⟨_, hv1, condYes rfl ⟨_, _, _, (hs1.at (nodeC b t.es.length ks.length p1 p2 p3 c1 c2 c3)).cellA 2, (ns.s3.rd (hs1.at C3)).ptr (by omega) (by omega) ?_⟩⟩
      rw [Int.toNat_natCast]
      have hrp := pre_succ (n := n) hlen hlt'
      refine (kid i (by omega) s1 D h2 (runW_ok hok _ _ _ hos hrun) hi1 hs1).mono fun v2 h3 ⟨D2, hv2, hi2, hs2⟩ => ?_
      refine ⟨_, hv2, cond_intro (fun hb => ?_) (fun hb => ?_)⟩
      · -- it ends in the child
        have hb' : (runW st s1 (flat n (t.ts.getD i nilT))).2 = false := by simpa using hb
        have hr : runW st s (flat (n + 1) t) = ((runW st s1 (flat n (t.ts.getD i nilT))).1, false) := by
          obtain ⟨rest, hrest⟩ : ∃ rest, flat (n + 1) t = pre (n + 1) t i ++ (flat n (t.ts.getD i nilT) ++ rest) := ⟨_, (pre_mid hlen hlt').choose_spec⟩
          rw [hrest, runW_true hrun]
          refine runW_false ?_
          rcases hst : runW st s1 (flat n (t.ts.getD i nilT)) with ⟨s2, _ | _⟩
          · rfl
          · rw [hst] at hb'; cases hb'
        rw [hr]
        exact ⟨D2, rfl, hi2, hs2⟩
      have hb' : (runW st s1 (flat n (t.ts.getD i nilT))).2 = true := by simpa using hb
      have hrk : runW st s (pre (n + 1) t i ++ flat n (t.ts.getD i nilT)) = ((runW st s1 (flat n (t.ts.getD i nilT))).1, true) := by
        rw [runW_true hrun]
        rcases hst : runW st s1 (flat n (t.ts.getD i nilT)) with ⟨s2, _ | _⟩
        · rw [hst] at hb'; cases hb'
        · rfl
      refine ⟨_, _, _, (hs2.at (nodeC b t.es.length ks.length p1 p2 p3 c1 c2 c3)).cellA 1, (ns.s2.rd (hs2.at C2)).int (by omega) (by omega) ?_⟩
      rw [Int.toNat_natCast]
      show callX Tryz.prog F g _ _ _
      refine callX_of hg ?_
      have hg1 : (t.es.map Prod.fst).getD i 0 = (t.es.getD i (0, 0)).1 := by simp [List.getD, hlt']
      have hg2 : (t.es.map Prod.snd).getD i 0 = (t.es.getD i (0, 0)).2 := by simp [List.getD, hlt']
      rw [hg1, hg2]
      generalize hs' : (runW st s1 (flat n (t.ts.getD i nilT))).1 = s2 at hi2 hrk
      refine (hf s2 D2 h3 (t.es.getD i (0, 0)) (nodeC b t.es.length ks.length p1 p2 p3 c1 c2 c3 + (C1 + (C2 + C3)) + A2 + G) (runW_ok hok _ _ _ hos hrk) hi2 (hs2.to (B := D2 + (nodeC b t.es.length ks.length p1 p2 p3 c1 c2 c3 + (C1 + (C2 + C3)) + A2 + G)))).mono fun v3 h4 ⟨D', hv3, hi3, hs3⟩ => ?_
      have hs3 := hs3.to (B := nodeC b t.es.length ks.length p1 p2 p3 c1 c2 c3 + (C1 + (C2 + C3)) + A2 + (D' + G))
      refine ⟨_, hv3, cond_intro (fun hb => ?_) (fun hb => ?_)⟩
      · have hb' : (st s2 (t.es.getD i (0, 0))).2 = false := by simpa using hb
        have hr : runW st s (flat (n + 1) t) = ((st s2 (t.es.getD i (0, 0))).1, false) := by
          obtain ⟨rest, hrest⟩ : ∃ rest, flat (n + 1) t = pre (n + 1) t i ++ flat n (t.ts.getD i nilT) ++ ([t.es.getD i (0, 0)] ++ rest) := by
            obtain ⟨rest, h⟩ := pre_mid (n := n) hlen hlt'
            exact ⟨rest, by rw [h]; simp⟩
          rw [hrest, runW_true hrk]
          refine runW_false ?_
          simp only [runW]
          rcases hst : st s2 (t.es.getD i (0, 0)) with ⟨s3, _ | _⟩
          · rfl
          · rw [hst] at hb'; cases hb'
        rw [hr]
        exact ⟨D', rfl, hi3, hs3⟩
      · have hb' : (st s2 (t.es.getD i (0, 0))).2 = true := by simpa using hb
        rw [btree_node_walk_b2_eq]
        refine ⟨⟨by omega, by omega⟩, ⟨i + 1, _, D', by simp only; omega, by omega, ?_, hi3, hs3⟩, by simp only; omega⟩
        rw [hrp, ← List.append_assoc, runW_true hrk]
        simp only [runW]
        rcases hst : st s2 (t.es.getD i (0, 0)) with ⟨s3, _ | _⟩
        · rw [hst] at hb'; cases hb'
        · rfl
    · have : i = t.es.length := by omega
      subst this
      rw [btree_node_walk_b3_eq]
      refine ⟨false, (lf hs1).mono fun v5 h6 ⟨hh6, hv5⟩ => ⟨hv5, hh6⟩, condNo rfl ?_⟩
      have k1 := (hs1.at (nodeC b t.es.length ks.length p1 p2 p3 c1 c2 c3))
      refine ⟨_, _, _, k1.cellA 2, _, _, _, k1.cell 0, (ns.s3.rd (hs1.at C3)).ptr (by omega) (by omega) ?_⟩
      rw [Int.toNat_natCast]
      refine (kid t.es.length (by omega) s1 D h1 (runW_ok hok _ _ _ hos hrun) hi1 hs1).mono fun v2 h3 ⟨D2, hv2, hi2, hs2⟩ => ?_
      refine ⟨_, hv2, ?_⟩
      have hr : runW st s (flat (n + 1) t) = runW st s1 (flat n (t.ts.getD t.es.length nilT)) := by rw [pre_last hlen, runW_true hrun]
      rw [hr]
      exact ⟨D2, rfl, hi2, hs2⟩
end
end Go.Proofs.YtkdmcdnfakmapaaGreat

/- B-trees: Scan and Load. -/
set_option maxRecDepth 100000
namespace Go.Proofs.YtkdmcdnfakmapaaGreat
open Go Go.Sx
abbrev TE : Ty E := tPP 51
theorem ok_pair : ElOk TE Tryz.prog 45 := elB_spec (by kernel_rfl)
def inSpan (fr to : Int) (e : E) : Bool := decide (fr ≤ e.1 ∧ e.1 < to)
def scanSt (fr to : Int) (out : List E) (e : E) : List E × Bool :=
  let o := if fr ≤ e.1 ∧ e.1 < to then out ++ [e] else out
  (o, decide (e.1 < to ∧ o.length ≤ 1000))
def scanS (xs : List E) (fr to : Int) : List E × Int := if KeyP fr ∧ KeyP to then (if 1000 < (xs.filter (inSpan fr to)).length then ([], 4) else (xs.filter (inSpan fr to), 0)) else ([], 1)
theorem scan_run {fr to : Int} : ∀ (xs out : List E), Srt xs → out.length ≤ 1000 →
    if (out ++ xs.filter (inSpan fr to)).length ≤ 1000 then (runW (scanSt fr to) out xs).1 = out ++ xs.filter (inSpan fr to) else 1000 < (runW (scanSt fr to) out xs).1.length
  | [], out, _, hl => by simp [runW, hl]
  | e :: xs, out, hs, hl => by
    have hs := Srt.con.1 hs
    by_cases hto : e.1 < to
    · by_cases hfr : fr ≤ e.1
      · have hin : inSpan fr to e = true := decide_eq_true ⟨hfr, hto⟩
        have hst : scanSt fr to out e = (out ++ [e], decide (e.1 < to ∧ (out ++ [e]).length ≤ 1000)) := by simp only [scanSt]; rw [if_pos ⟨hfr, hto⟩]
        rw [List.filter_cons_of_pos hin]
        by_cases hle : (out ++ [e]).length ≤ 1000
        · have ih := scan_run (fr := fr) (to := to) xs (out ++ [e]) hs.2 hle
          have hr : runW (scanSt fr to) out (e :: xs) = runW (scanSt fr to) (out ++ [e]) xs := by
            simp only [runW, hst]
            rw [decide_eq_true ⟨hto, hle⟩]
          rw [hr]
          simpa using ih
        · have hr : runW (scanSt fr to) out (e :: xs) = (out ++ [e], false) := by
            simp only [runW, hst]
            rw [decide_eq_false (fun h => hle h.2)]
          rw [if_neg (by simp at hle ⊢; omega), hr]
          simp at hle ⊢; omega
      · have hin : ¬ inSpan fr to e = true := fun h => hfr (of_decide_eq_true h).1
        have hst : scanSt fr to out e = (out, decide (e.1 < to ∧ out.length ≤ 1000)) := by simp only [scanSt]; rw [if_neg (fun h => hfr h.1)]
        rw [List.filter_cons_of_neg hin]
        have ih := scan_run (fr := fr) (to := to) xs out hs.2 hl
        have hr : runW (scanSt fr to) out (e :: xs) = runW (scanSt fr to) out xs := by
          simp only [runW, hst]
          rw [decide_eq_true ⟨hto, hl⟩]
        rw [hr]; exact ih
    · have hin : ¬ inSpan fr to e = true := fun h => hto (of_decide_eq_true h).2
      have hnil : xs.filter (inSpan fr to) = [] := by
        rw [List.filter_eq_nil_iff]
        intro x hx h
        have := hs.1 x hx
        have := (of_decide_eq_true h).2
        omega
      have hst : scanSt fr to out e = (out, false) := by
        simp only [scanSt]
        rw [if_neg (fun h => hto h.2), decide_eq_false (fun h => hto h.1)]
      have hr : runW (scanSt fr to) out (e :: xs) = (out, false) := by simp only [runW, hst]
      rw [List.filter_cons_of_neg hin, hnil, List.append_nil, if_pos hl, hr]
/-- What Scan's function keeps. -/
def ScanI (bf bt bo : Nat) (fr to : Int) (out : List E) (C : Bag) : Prop := ∃ p n c B, C = cA bo [.slice p n c] 45 + (B + (cA bf [.int .i64 fr] 3 + cA bt [.int .i64 to] 3)) ∧ Sl TE p n c out B
theorem scan_c1_ok {h0 : Hp} {bf bt bo : Nat} {fr to : Int} : Fun1 h0 36 #[ptr bf, ptr bt, ptr bo] (scanSt fr to) (ScanI bf bt bo fr to) (fun out => out.length ≤ 1000) := by
  rintro out C h ⟨k, v⟩ G hok ⟨p, n, c, B, rfl, hsl⟩ s
  show HCalls Tryz.prog 36 #[.int .i64 k, .int .i64 v, ptr bf, ptr bt, ptr bo] h _
  have hn := hsl.len
  have fin : ∀ (h' : Hp) (p : Option Addr) (n c : Nat) (B : Bag) (out' : List E), out' = (scanSt fr to out (k, v)).1 → Sl TE p n c out' B → St h0 h' (cA bo [.slice p n c] 45 + (B + (cA bf [.int .i64 fr] 3 + cA bt [.int .i64 to] 3)) + G) →
      btree_Tree_Scan_c1_b1 k (some ⟨bt, 0, none⟩) (some ⟨bo, 0, none⟩) h' (fun v' h' => ∃ C', v' = .bool (scanSt fr to out (k, v)).2 ∧ ScanI bf bt bo fr to (scanSt fr to out (k, v)).1 C' ∧ St h0 h' (C' + G)) := by
    intro h' p n c B out' ho hsl s
    rw [btree_Tree_Scan_c1_b1_eq]
    have hn := hsl.len
    have e2 : (scanSt fr to out (k, v)).2 = decide (k < to ∧ (scanSt fr to out (k, v)).1.length ≤ 1000) := rfl
    refine ⟨_, (s.at (cA bt [.int .i64 to] 3)).cell 0, condP (fun h1 => ?_) (fun h1 => ?_)⟩
    · refine ⟨_, _, _, (s.at (cA bo [.slice p n c] 45)).cell 0, _, ?_, ⟨p, n, c, B, rfl, ho ▸ hsl⟩, s⟩
      rw [e2, ← ho]
      congr 1
      exact decide_eq_decide.2 ⟨fun h => ⟨h1, by omega⟩, fun h => by omega⟩
    · refine ⟨_, ?_, ⟨p, n, c, B, rfl, ho ▸ hsl⟩, s⟩
      rw [e2, decide_eq_false (fun h => h1 h.1)]
  refine btree_Tree_Scan_c1_call ?_
  rw [btree_Tree_Scan_c1_b0_eq]
  refine ⟨_, (s.at (cA bf [.int .i64 fr] 3)).cell 0, condP (fun h1 => ?_) (fun h1 => ?_)⟩
  · refine ⟨_, (s.at (cA bt [.int .i64 to] 3)).cell 0, condP (fun h2 => ?_) (fun h2 => ?_)⟩
    · refine ⟨_, _, _, (s.at (cA bo [.slice p n c] 45)).cell 0, ?_⟩
      have s1 : St h0 h (B + (cA bo [.slice p n c] 45 + (cA bf [.int .i64 fr] 3 + (cA bt [.int .i64 to] 3 + G)))) := s.to
      refine push_sl ok_pair s1 hsl (x := (k, v)) rfl rfl (by omega) fun p' c' h2' B' o2 s2 => ?_
      have s3 := s2.to (B := cA bo [.slice p n c] 45 + (B' + (cA bf [.int .i64 fr] 3 + cA bt [.int .i64 to] 3) + G))
      refine s3.wr rfl (by simp) fun h3 s4 => ?_
      have s4 : St h0 h3 (cA bo [.slice p' (n + 1) c'] 45 + (B' + (cA bf [.int .i64 fr] 3 + cA bt [.int .i64 to] 3) + G)) := s4
      refine fin h3 p' (n + 1) c' B' (out ++ [(k, v)]) ?_ o2 s4.to
      simp only [scanSt]
      rw [if_pos ⟨h1, h2⟩]
    · refine fin h p n c B out ?_ hsl s
      simp only [scanSt]
      rw [if_neg (fun h => h2 h.2)]
  · refine fin h p n c B out ?_ hsl s
    simp only [scanSt]
    rw [if_neg (fun h => h1 h.1)]
theorem walk_nil {h : Hp} {g : Nat} {cap : Array Value} : HCalls Tryz.prog 31 #[.pointer none, .func (.func g) #[] cap] h (fun v h' => h' = h ∧ v = .bool true) := by
  refine btree_node_walk_call ?_
  rw [btree_node_walk_b0_eq]
  exact condYes rfl ⟨rfl, rfl⟩
/-- The root's pointer is read, and a function called for all entries. -/
theorem walkT {σ : Type} {h0 : Hp} {g : Nat} {cap : Array Value} {st : σ → E → σ × Bool} {Inv : σ → Bag → Prop} {Ok : σ → Prop} (hok : ∀ s e, Ok s → (st s e).2 = true → Ok (st s e).1) (hg : F g = true) (hf : Fun1 h0 g cap st Inv Ok)
    {order tb : Nat} {xs : List E} {vis : Int} {A C G : Bag} {h : Hp} {s : σ} (hor : 3 ≤ order) (h64 : order ≤ 64) (ta : TreeA order xs tb vis A) (ho : Ok s) (hi : Inv s C) (hs : St h0 h (A + (C + G))) :
    ∃ p1 : Option Addr, cell h ((⟨tb, 0, none⟩ : Addr).add 2) = some (.pointer p1) ∧ HCalls Tryz.prog 31 #[.pointer p1, .func (.func g) #[] cap] h (fun v h' => ∃ C', v = .bool (runW st s xs).2 ∧ Inv (runW st s xs).1 C' ∧ St h0 h' (A + (C' + G))) := by
  rcases ta with ⟨rfl, rfl⟩ | ⟨n, root, t, A1, rfl, hh, hfl, hsz⟩
  · refine ⟨_, hs.cellA 2, walk_nil.mono fun v h' ⟨hh, hv⟩ => ?_⟩
    subst hh
    exact ⟨C, hv, hi, hs⟩
  · have s1 := hs.to (B := treeC tb order xs.length (some ⟨root, 0, none⟩) vis + (A1 + (C + G)))
    refine ⟨_, s1.cellA 2, ?_⟩
    have s2 := hs.to (B := A1 + (C + (treeC tb order xs.length (some ⟨root, 0, none⟩) vis + G)))
    refine (walk_ok hok hg hf (lo := 1) (hi := order - 1) (by omega) n hh (hsz.one (by omega)) ho hi s2).mono fun v h' ⟨C', hv, hi', s3⟩ => ?_
    rw [hfl] at hv hi'
    exact ⟨C', hv, hi', s3.to⟩
theorem Scan_ok {h0 h : Hp} {order tb : Nat} {xs : List E} {vis fr to : Int} {A G : Bag} (hor : 3 ≤ order) (h64 : order ≤ 64) (so : Srt xs) (ta : TreeA order xs tb vis A) (s : St h0 h (A + G)) :
    HCalls Tryz.prog 11 #[ptr tb, .int .i64 fr, .int .i64 to] h (fun v h' => ∃ p n c B, v = .tuple #[.slice p n c, .int .i64 (scanS xs fr to).2] ∧ Sl TE p n c (scanS xs fr to).1 B ∧ St h0 h' (A + (B + G))) := by
  refine btree_Tree_Scan_call ?_
  rw [btree_Tree_Scan_b0_eq]
  refine s.new (cs := [.int .i64 fr]) fun b1 h1 _ s1 => ?_
  refine s1.new (cs := [.int .i64 to]) fun b2 h2 _ s2 => ?_
  refine condNo rfl ⟨_, s2.atomBlk.cell 0, _, s2.cell 0, ?_⟩
  refine s2.new (cs := [.int .i64 fr, .int .i64 to]) fun b3 h3 _ s3 => ?_
  refine (number2 s3.blk).mono fun v1 h4 ⟨hh, hv⟩ => ?_
  subst hh
  refine ⟨_, hv, condN (fun hk => ?_) (fun hk => ?_)⟩
  · rw [scanS, if_neg hk]
    exact ⟨none, 0, 0, 0, rfl, Sl.nil, ((s3.to (B := cA b3 [.int .i64 fr, .int .i64 to] 3 + (cA b2 [.int .i64 to] 3 + cA b1 [.int .i64 fr] 3) + (A + G))).drop).to⟩
  · rw [btree_Tree_Scan_b1_eq]
    refine s3.drop.new (cs := [.slice none 0 0]) fun b4 h5 _ s5 => ?_
    have s6 : St h0 h5 (A + (cA b4 [.slice none 0 0] 45 + (0 + (cA b1 [.int .i64 fr] 3 + cA b2 [.int .i64 to] 3)) + G)) := s5.to
    obtain ⟨p1, hc, hw⟩ := walkT (Ok := fun out : List E => out.length ≤ 1000) (by
      intro out e _ h
      have : (scanSt fr to out e).2 = decide (e.1 < to ∧ (scanSt fr to out e).1.length ≤ 1000) := rfl
      rw [this] at h
      exact (of_decide_eq_true h).2) (by kernel_rfl) (scan_c1_ok (bf := b1) (bt := b2) (bo := b4) (fr := fr) (to := to)) hor h64 ta (s := []) (by simp) ⟨none, 0, 0, 0, rfl, Sl.nil⟩ s6
    refine ⟨_, hc, hw.mono fun v2 h6 ⟨C', hv2, hI, s7⟩ => ⟨_, hv2, ?_⟩⟩
    obtain ⟨p, n, c, B, rfl, hsl⟩ := hI
    have hrun := scan_run (fr := fr) (to := to) xs [] so (by simp)
    rw [List.nil_append] at hrun
    have hb := (s7.at (cA b4 [.slice p n c] 45)).blk
    have hn := hsl.len
    have s8 : St h0 h6 (cA b4 [.slice p n c] 45 + (cA b1 [.int .i64 fr] 3 + cA b2 [.int .i64 to] 3) + (A + (B + G))) := s7.to
    refine ⟨_, _, _, hb.cell 0, condP (fun hl => ?_) (fun hl => ?_)⟩
    · have : 1000 < (xs.filter (inSpan fr to)).length := by
        rcases Nat.lt_or_ge 1000 (xs.filter (inSpan fr to)).length with h | h
        · exact h
        · rw [if_pos h] at hrun; rw [hrun] at hn; omega
      rw [scanS, if_pos hk, if_pos this]
      exact ⟨none, 0, 0, 0, rfl, Sl.nil, (s8.drop.to (B := B + (A + G))).drop.to⟩
    · have : ¬ 1000 < (xs.filter (inSpan fr to)).length := fun h => by
        rw [if_neg (by omega)] at hrun; omega
      rw [if_pos (by omega)] at hrun
      rw [scanS, if_pos hk, if_neg this]
      refine ⟨_, _, _, hb.cell 0, p, n, c, B, rfl, ?_, s8.drop⟩
      rw [← hrun]; exact hsl
end Go.Proofs.YtkdmcdnfakmapaaGreat

/- B-trees: Load. -/
set_option maxRecDepth 100000
namespace Go.Proofs.YtkdmcdnfakmapaaGreat
open Go Go.Sx
/-- A slice that stays as it is while these blocks are there. -/
def RdS {α : Type} (h0 : Hp) (G : Bag) (T : Ty α) (p : Option Addr) (n : Nat) (xs : List α) : Prop := ∀ h' B, St h0 h' (B + G) → RdT T h' p n xs
theorem RdS.old {α : Type} {h0 : Hp} {G : Bag} {T : Ty α} {p : Option Addr} {n : Nat} {xs : List α} (r : RdT T h0 p n xs) : RdS h0 G T p n xs := fun _ _ s => r.ext s.ext
theorem RdS.own {α : Type} {h0 : Hp} {A G : Bag} {T : Ty α} {p : Option Addr} {n c : Nat} {xs : List α} (a : Sl T p n c xs A) : RdS h0 (A + G) T p n xs := fun _ B s => a.rd (s.to (B := A + (B + G)))
abbrev OkL (l : List E) : Prop := (∀ x ∈ l, KeyP x.1 ∧ KeyP x.2) ∧ Srt l
def loadS (xs l : List E) : List E × Int := if OkL l then (if 2000 < l.length then (xs, 4) else if xs ≠ [] then (xs, 13) else (l, 0)) else (xs, 1)
theorem pair_at {h : Hp} {p : Option Addr} {n : Nat} {l : List E} {i : Int} {Q : Int → Prop} (r : RdT TE h p n l) (h0 : 0 ≤ i) (h1 : i < n) (hq : Q (l.getD i.toNat (0, 0)).1) :
    (0 ≤ i ∧ i < (n : Int)) ∧ NN p fun a => (0 ≤ (0 : Int) ∧ (0 : Int) < ((2 : Nat) : Int)) ∧ ∃ x : Int, cell h ((a.add (Int.toNat i * 2)).add (Int.toNat (0 : Int) * 1)) = some (.int .i64 x) ∧ Q x :=
  r.idx h0 h1 fun _ _ hc => ⟨⟨by omega, by omega⟩, _, hc 0 (show 0 < 2 by decide), hq⟩
theorem pair_at1 {h : Hp} {p : Option Addr} {n : Nat} {l : List E} {i : Int} {Q : Int → Prop} (r : RdT TE h p n l) (h0 : 0 ≤ i) (h1 : i < n) (hq : Q (l.getD i.toNat (0, 0)).2) :
    (0 ≤ i ∧ i < (n : Int)) ∧ NN p fun a => (0 ≤ (1 : Int) ∧ (1 : Int) < ((2 : Nat) : Int)) ∧ ∃ x : Int, cell h ((a.add (Int.toNat i * 2)).add (Int.toNat (1 : Int) * 1)) = some (.int .i64 x) ∧ Q x :=
  r.idx h0 h1 fun _ _ hc => ⟨⟨by omega, by omega⟩, _, hc 1 (show 1 < 2 by decide), hq⟩
theorem pair_load {h : Hp} {p : Option Addr} {n : Nat} {l : List E} {i : Int} {Q : Int → Int → Prop} (r : RdT TE h p n l) (h0 : 0 ≤ i) (h1 : i < n) (hq : Q (l.getD i.toNat (0, 0)).1 (l.getD i.toNat (0, 0)).2) :
    (0 ≤ i ∧ i < (n : Int)) ∧ NN p fun a => ∃ x : Int, ∃ y : Int, cell h (a.add (Int.toNat i * 2)) = some (.int .i64 x) ∧ cell h ((a.add (Int.toNat i * 2)).add 1) = some (.int .i64 y) ∧ Q x y :=
  r.idx h0 h1 fun _ _ hc => ⟨_, _, hc 0 (show 0 < 2 by decide), hc 1 (show 1 < 2 by decide), hq⟩
theorem take_one {l : List E} {i : Nat} (h : i < l.length) : l.take (i + 1) = l.take i ++ [l.getD i (0, 0)] := by
  rw [List.take_succ_eq_append_getElem h]; simp [List.getD, h]
theorem mem_getD {l : List E} {i : Nat} (h : i < l.length) : l.getD i (0, 0) ∈ l := by
  have : l.getD i (0, 0) = l[i] := by simp [List.getD, h]
  rw [this]; exact List.getElem_mem h
theorem srt_get {l : List E} (hs : Srt l) {i j : Nat} (hij : i < j) (hj : j < l.length) : (l.getD i (0, 0)).1 < (l.getD j (0, 0)).1 := by
  have e1 : l.getD i (0, 0) = l[i] := by simp [List.getD, (show i < l.length by omega)]
  have e2 : l.getD j (0, 0) = l[j] := by simp [List.getD, hj]
  rw [e1, e2]
  exact List.pairwise_iff_getElem.1 hs i j (by omega) hj hij
theorem srt_take_one {l : List E} {i : Nat} (h : i < l.length) (hs : Srt (l.take i)) (hl : 0 < i → (l.getD (i - 1) (0, 0)).1 < (l.getD i (0, 0)).1) : Srt (l.take (i + 1)) := by
  rw [take_one h, Srt.app]
  refine ⟨hs, by simp, fun x hx y hy => ?_⟩
  simp at hy
  subst hy
  obtain ⟨j, hj, rfl⟩ := List.getElem_of_mem hx
  rw [List.length_take] at hj
  have h1 := hl (by omega)
  have e1 : (l.take i)[j]'(by rw [List.length_take]; omega) = l.getD j (0, 0) := by
    rw [List.getElem_take]; simp [List.getD, (show j < l.length by omega)]
  rw [e1]
  rcases Nat.lt_or_ge j (i - 1) with h2 | h2
  · have h3 := srt_get hs (i := j) (j := i - 1) h2 (by rw [List.length_take]; omega)
    have g : ∀ k, k < i → (l.take i).getD k (0, 0) = l.getD k (0, 0) := fun k hk => by simp [List.getD, hk]
    rw [g _ (by omega), g _ (by omega)] at h3
    exact Int.lt_trans h3 h1
  · have : j = i - 1 := by omega
    subst this; exact h1
end Go.Proofs.YtkdmcdnfakmapaaGreat

/- B-trees: Levels and Height. -/
set_option maxRecDepth 100000
namespace Go.Proofs.YtkdmcdnfakmapaaGreat
open Go Go.Sx
abbrev LevP (s : SH) (l : List Int) (A : Bag) : Prop := Sl TI s.1 s.2.1 s.2.2 l A
abbrev LevA : SH → List (List Int) → Bag → Prop := Nest 37 LevP
abbrev OutA : SH → List (List (List Int)) → Bag → Prop := Nest 29 LevA
theorem ok_lev : ElOk (tS 37) Tryz.prog 29 := elB_spec (by kernel_rfl)
theorem ok_out : ElOk (tS 29) Tryz.prog 57 := elB_spec (by kernel_rfl)
/-- The keys of the nodes at a depth. -/
def lv : Nat → Nat → BT → List (List Int)
  | _, 0, t => [t.es.map Prod.fst]
  | n + 1, j + 1, t => t.ts.flatMap (lv n j)
  | 0, _ + 1, _ => []
def levels (n : Nat) (t : BT) : List (List (List Int)) := (List.range (n + 1)).map fun j => lv n j t
theorem weave_ge (ks : List (List E)) (es : List E) (h : ks.length = es.length + 1) : (ks.flatMap id).length ≤ (weave ks es).length := by
  have aux : ∀ (es : List E) (ks : List (List E)), ks.length = es.length → (ks.flatMap id).length ≤ (wR es ks).length := by
    intro es
    induction es with
    | nil => intro ks h; cases ks with | nil => simp | cons _ _ => simp at h
    | cons e es ih =>
      intro ks h
      cases ks with
      | nil => simp at h
      | cons k ks =>
        have := ih ks (by simpa using h)
        simp only [wR, List.flatMap_cons, List.length_append, List.length_cons, id]
        omega
  cases ks with
  | nil => simp at h
  | cons k ks =>
    have := aux es ks (by simpa using h)
    simp only [weave, List.flatMap_cons, List.length_append, id]
    omega
/-- A row of nodes, and the row below it. -/
theorem row {n : Nat} : ∀ {bs : List Nat} {ts : List BT} {A : Bag}, AllH (Hold n) bs ts A → ∃ (xs : List (List E × List Nat)) (A1 A2 : Bag), A = A1 + A2 ∧ AllH (fun b (x : List E × List Nat) B => NodeA b x.1 x.2 B) bs xs A1 ∧ xs.map Prod.fst = ts.map BT.es ∧ (n = 0 → xs.flatMap Prod.snd = []) ∧ ∀ m, n = m + 1 → AllH (Hold m) (xs.flatMap Prod.snd) (ts.flatMap BT.ts) A2
  | [], [], A, h => ⟨[], 0, 0, by rw [h]; exact (Bag.add_zero 0).symm, rfl, rfl, fun _ => rfl, fun _ _ => rfl⟩
  | [], _ :: _, _, h => h.elim
  | _ :: _, [], _, h => h.elim
  | b :: bs, t :: ts, A, ⟨A1, A2, e, h1, h2⟩ => by
    obtain ⟨xs, B1, B2, e2, g1, g2, g3, g4⟩ := row h2
    cases n with
    | zero =>
      refine ⟨(t.es, []) :: xs, A1 + B1, B2, by rw [e, e2]; ac_rfl, ⟨A1, B1, rfl, h1.2, g1⟩, by simp [g2], fun _ => by simpa using g3 rfl, fun m hm => by omega⟩
    | succ n =>
      obtain ⟨ks, C1, C2, e3, k1, k2, k3⟩ := h1
      refine ⟨(t.es, ks) :: xs, C1 + B1, C2 + B2, by rw [e, e2, e3]; ac_rfl, ⟨C1, B1, rfl, k1, g1⟩, by simp [g2], fun h => by omega, fun m hm => ?_⟩
      obtain rfl : n = m := by omega
      simp only [List.flatMap_cons]
      exact k3.append (g4 n rfl)
def tot (n : Nat) (ts : List BT) : Nat := (ts.flatMap (flat n)).length
theorem tot_ge {n hi : Nat} : ∀ {bs : List Nat} {ts : List BT} {A : Bag}, AllH (Hold n) bs ts A → (∀ t ∈ ts, Sz 1 hi n t) → ts.length ≤ tot n ts
  | [], [], _, _, _ => by simp
  | [], _ :: _, _, h, _ => h.elim
  | _ :: _, [], _, h, _ => h.elim
  | _ :: bs, t :: ts, _, ⟨_, _, _, h1, h2⟩, hz => by
    have := tot_ge h2 (fun t h => hz t (by simp [h]))
    have h3 := (Sz.count h1 (hz t (by simp))).1
    have h4 : 2 ≤ (1 + 1) ^ (n + 1) := by
      rw [Nat.pow_succ]
      have : 1 ≤ (1 + 1) ^ n := Nat.one_le_pow _ _ (by decide)
      omega
    simp only [tot, List.flatMap_cons, List.length_append, List.length_cons] at this ⊢
    omega
theorem tot_next {n : Nat} : ∀ {bs : List Nat} {ts : List BT} {A : Bag}, AllH (Hold (n + 1)) bs ts A → tot n (ts.flatMap BT.ts) ≤ tot (n + 1) ts
  | [], [], _, _ => by simp [tot]
  | [], _ :: _, _, h => h.elim
  | _ :: _, [], _, h => h.elim
  | _ :: bs, t :: ts, _, ⟨_, _, _, h1, h2⟩ => by
    have := tot_next h2
    have h3 := weave_ge (t.ts.map (flat n)) t.es (by rw [List.length_map]; exact h1.len)
    have h4 : ((t.ts.map (flat n)).flatMap id) = t.ts.flatMap (flat n) := by simp [List.flatMap_map]
    rw [h4] at h3
    simp only [tot, List.flatMap_cons, List.flatMap_append, List.length_append] at this ⊢
    have h5 : (flat (n + 1) t).length = (weave (t.ts.map (flat n)) t.es).length := rfl
    omega
section
variable {h0 : Hp} {G : Bag}
/-- One row is read. -/
theorem levels_b2_ok {h : Hp} {bs : List Nat} {xs : List (List E × List Nat)} {A1 : Bag} {p q : Option Addr} {n c m d : Nat} {out : List (List (List Int))} {Bo Bl : Bag} {nx0 : SH × SH × Unit → Hp → Prop} {K : Value → Hp → Prop}
    (ha : AllH (fun b (x : List E × List Nat) B => NodeA b x.1 x.2 B) bs xs A1) (ho : OutA (p, n, c) out Bo) (hl : Sl TP q m d bs Bl) (hne : 0 < m) (hm : m ≤ 100000) (hn : n ≤ 100000) (hks : (xs.flatMap Prod.snd).length ≤ 100000) (hes : ∀ x ∈ xs, x.1.length ≤ 1000)
    (s : St h0 h (A1 + (Bo + (Bl + G))))
    (hk : ∀ h' p' c' q' d' Bo' Bl', OutA (p', n + 1, c') (out ++ [xs.map fun x => x.1.map Prod.fst]) Bo' → Sl TP q' (xs.flatMap Prod.snd).length d' (xs.flatMap Prod.snd) Bl' → St h0 h' (A1 + (Bo' + (Bl' + G))) → nx0 ((p', n + 1, c'), (q', (xs.flatMap Prod.snd).length, d'), ()) h') :
    btree_Tree_Levels_b2 p n c q m d h nx0 K := by
  have hbl := hl.len
  have hxl := ha.len
  rw [btree_Tree_Levels_b2_eq]
  refine condYes (decide_eq_true (by omega)) ?_
  refine ⟨fun x h' => ∃ (i : Nat) (Bv Bx : Bag), x.2.2.1 = i ∧ i ≤ m ∧ LevA x.1 ((xs.take i).map fun x => x.1.map Prod.fst) Bv ∧ Sl TP x.2.1.1 x.2.1.2.1 x.2.1.2.2 ((xs.take i).flatMap Prod.snd) Bx ∧ St h0 h' (A1 + (Bo + (Bl + (Bv + (Bx + G))))), fun x _ => m - x.2.2.1.toNat, ⟨0, 0, 0, rfl, by omega, Nest.nil, Sl.nil, s.to⟩, ?_⟩
  rintro ⟨⟨p1, n1, c1⟩, ⟨p2, n2, c2⟩, _, _⟩ h1 ⟨i, Bv, Bx, rfl, him, hv, hx, s1⟩
  dsimp only at hv hx ⊢
  have hvl := hv.len
  have hxx := hx.len
  have hvl' : n1 = i := by
    have : (xs.take i).length = i := by rw [List.length_take]; omega
    rw [List.length_map, this] at hvl; exact hvl.symm
  rw [btree_Tree_Levels_b3_eq]
  refine condP (fun hlt => ?_) (fun hge => ?_)
  · have hi : i < bs.length := by omega
    obtain ⟨Ai, Ar, hA, hnode⟩ := ha.pick (d := ([], [])) (d' := 0) hi
    have hxe : xs.getD i ([], []) ∈ xs := by
      have : xs.getD i ([], []) = xs[i] := by simp [List.getD, (show i < xs.length by omega)]
      rw [this]; exact List.getElem_mem _
    have hte : xs.take (i + 1) = xs.take i ++ [xs.getD i ([], [])] := by
      rw [List.take_succ_eq_append_getElem (by omega)]; simp [List.getD, (show i < xs.length by omega)]
    generalize xs.getD i ([], []) = x at hnode hxe hte
    obtain ⟨r1, r2, r3, e1, e2, e3, C1, C2, C3, rfl, ns⟩ := hnode
    subst hA
    refine (hl.rd (s1.at Bl)).ptr (by omega) (by omega) ?_
    rw [Int.toNat_natCast]
    have hb := (s1.at (nodeC (bs.getD i 0) x.1.length x.2.length r1 r2 r3 e1 e2 e3)).blk
    refine ⟨_, _, _, hb.cell 0, ?_⟩
    have hxs := hes x hxe
    refine (cloneI_st (ns.s1.rd (s1.at C1)) (by omega)).mono fun v1 h4 ⟨q1, d1, D1, hv1, o1, t1⟩ => ?_
    refine ⟨_, _, _, hv1, ?_⟩
    have s2 := (s1.join t1).to (B := Bv + (D1 + (nodeC (bs.getD i 0) x.1.length x.2.length r1 r2 r3 e1 e2 e3 + (C1 + (C2 + C3)) + Ar + (Bo + (Bl + (Bx + G))))))
    refine push_nest ok_lev s2 hv (q := q1) (m := x.1.length) (d := d1) (x := x.1.map Prod.fst) o1 rfl (by omega) fun p4 c4 h6 Bv' hv' s3 => ?_
    refine ⟨_, _, _, (s3.at (nodeC (bs.getD i 0) x.1.length x.2.length r1 r2 r3 e1 e2 e3)).cellA 2, ?_⟩
    have s4 := s3.to (B := Bx + (Bv' + (nodeC (bs.getD i 0) x.1.length x.2.length r1 r2 r3 e1 e2 e3 + (C1 + (C2 + C3)) + Ar + (Bo + (Bl + G)))))
    have hsum : (List.flatMap Prod.snd (xs.take i)).length + x.2.length ≤ (xs.flatMap Prod.snd).length := by
      have h9 : xs.flatMap Prod.snd = (xs.take (i + 1)).flatMap Prod.snd ++ (xs.drop (i + 1)).flatMap Prod.snd := by rw [← List.flatMap_append, List.take_append_drop]
      rw [h9, hte, List.length_append, List.flatMap_append, List.length_append]
      simp
    refine append_sl ok_node s4 hx (ns.s3.rd (s4.at C3)) (by omega) fun p5 c5 h7 Bx' hx' s5 => ?_
    rw [btree_Tree_Levels_b5_eq]
    refine ⟨⟨by omega, by omega⟩, ⟨i + 1, Bv', Bx', by simp only; omega, by omega, ?_, ?_, s5.to⟩, by simp only; omega⟩
    · rw [hte, List.map_append]; exact hv'
    · rw [hte, List.flatMap_append]; simpa using hx'
  · obtain rfl : m = i := by omega
    rw [List.take_of_length_le (by omega)] at hv hx hxx
    subst hvl'
    rw [btree_Tree_Levels_b6_eq]
    have s2 := s1.to (B := Bo + (Bv + (A1 + (Bl + (Bx + G)))))
    refine push_nest ok_out s2 ho (q := p1) (m := n1) (d := c1) (x := xs.map fun x => x.1.map Prod.fst) hv rfl (by omega) fun p' c' h' Bo' ho' s3 => ?_
    subst hxx
    exact hk h' p' c' p2 c2 Bo' Bx ho' hx (s3.to (B := Bl + (A1 + (Bo' + (Bx + G))))).drop
end
theorem tot_one {n : Nat} {t : BT} : tot n [t] = (flat n t).length := by simp [tot]
theorem lv_next {n : Nat} {ts : List BT} {j : Nat} : ts.flatMap (lv (n + 1) (j + 1)) = (ts.flatMap BT.ts).flatMap (lv n j) := by
  rw [List.flatMap_assoc]; rfl
theorem lv_here {n : Nat} {ts : List BT} : ts.flatMap (lv n 0) = ts.map fun t => t.es.map Prod.fst := by
  induction ts with
  | nil => rfl
  | cons t ts ih => rw [List.flatMap_cons, ih]; cases n <;> rfl
def levelsT (order : Nat) (xs : List E) (ls : List (List (List Int))) : Prop := (xs = [] ∧ ls = []) ∨ ∃ n t b A, ls = levels n t ∧ Hold n b t A ∧ flat n t = xs ∧ SzR ((order + 1) / 2 - 1) (order - 1) n t
theorem Levels_ok {h0 h : Hp} {order tb : Nat} {xs : List E} {vis : Int} {A G : Bag} (hor : 3 ≤ order) (h64 : order ≤ 64) (hmost : xs.length ≤ 2000) (ta : TreeA order xs tb vis A) (s : St h0 h (A + G)) :
    HCalls Tryz.prog 18 #[ptr tb] h (fun v h' => ∃ p n c ls B, v = .slice p n c ∧ OutA (p, n, c) ls B ∧ levelsT order xs ls ∧ St h0 h' (A + (B + G))) := by
  refine btree_Tree_Levels_call ?_
  rw [btree_Tree_Levels_b0_eq]
  refine condNo rfl ?_
  rcases ta with ⟨rfl, rfl⟩ | ⟨n, root, t, A1, rfl, hh, hfl, hsz⟩
  · exact ⟨_, s.cellA 2, condYes rfl ⟨none, 0, 0, [], 0, rfl, Nest.nil, .inl ⟨rfl, rfl⟩, s.to⟩⟩
  · have s1 := s.to (B := treeC tb order xs.length (some ⟨root, 0, none⟩) vis + (A1 + G))
    refine ⟨_, s1.cellA 2, condNo rfl ?_⟩
    rw [btree_Tree_Levels_b1_eq]
    refine ⟨_, s1.cellA 2, ?_⟩
    refine s1.new (cs := [.pointer (some ⟨root, 0, none⟩)]) fun b1 h1 _ s2 => ?_
    have hz1 : Sz 1 (order - 1) n t := hsz.one (by omega)
    refine ⟨fun x h' => ∃ (k : Nat) (Bo Bl : Bag), k ≤ n + 1 ∧ OutA x.1 ((List.range k).map fun j => lv n j t) Bo ∧ St h0 h' (A1 + (Bo + (Bl + (treeC tb order xs.length (some ⟨root, 0, none⟩) vis + G)))) ∧
      ((k = n + 1 ∧ Sl TP x.2.1.1 x.2.1.2.1 x.2.1.2.2 [] Bl) ∨ ∃ (m : Nat) (bs : List Nat) (ts : List BT) (Ac Ar : Bag), k + m = n ∧ Sl TP x.2.1.1 x.2.1.2.1 x.2.1.2.2 bs Bl ∧ A1 = Ac + Ar ∧ AllH (Hold m) bs ts Ac ∧ (∀ u ∈ ts, Sz 1 (order - 1) m u) ∧ tot m ts ≤ 2000 ∧ 0 < bs.length ∧ (∀ j, ts.flatMap (lv m j) = lv n (k + j) t)),
      fun x _ => if x.2.1.2.1 = 0 then 0 else n + 2 - x.1.2.1, ?_, ?_⟩
    · refine ⟨0, 0, cA b1 [.pointer (some ⟨root, 0, none⟩)] 60, by omega, Nest.nil, s2.to, .inr ⟨n, [root], [t], A1, 0, by omega, (show Sl TP (some ⟨b1, 0, none⟩) 1 1 [root] (cA b1 [.pointer (some ⟨root, 0, none⟩)] (TP).e) from Sl.one rfl), (Bag.add_zero _).symm, AllH.one hh, ?_, ?_, by simp, ?_⟩⟩
      · intro u hu; simp at hu; subst hu; exact hz1
      · rw [tot_one, hfl]; exact hmost
      · intro j; simp
    rintro ⟨⟨p, m0, c⟩, ⟨q, l0, d⟩, _⟩ h2 ⟨k, Bo, Bl, hk, ho, s3, hrow⟩
    dsimp only at ho hrow ⊢
    have hol := ho.len
    rw [List.length_map, List.length_range] at hol
    dsimp only at hol
    subst hol
    rcases hrow with ⟨rfl, hl⟩ | ⟨m, bs, ts, Ac, Ar, hkm, hl, hA, hall, hzs, htot, hpos, hlv⟩
    · obtain rfl : 0 = l0 := hl.len
      rw [btree_Tree_Levels_b2_eq]
      refine condNo (by decide) ?_
      rw [btree_Tree_Levels_b4_eq]
      refine ⟨p, n + 1, c, _, Bo, rfl, ho, .inr ⟨n, t, root, A1, rfl, hh, hfl, hsz⟩, (s3.to (B := Bl + (treeC tb order xs.length (some ⟨root, 0, none⟩) vis + A1 + (Bo + G)))).drop⟩
    · obtain ⟨ys, B1, B2, hAc, g1, g2, g3, g4⟩ := row hall
      have hll := hl.len
      have hcnt := tot_ge hall hzs
      have hbt := hall.len
      have hylen := g1.len
      have hn := pow_bound (n := n) (m := xs.length) (by rw [← hfl]; exact hsz.low hh (by omega)) (by omega)
      have hfm : (ys.flatMap Prod.snd).length ≤ 2000 ∧ (∀ m', m = m' + 1 → tot m' (ts.flatMap BT.ts) ≤ 2000 ∧ ∀ u ∈ ts.flatMap BT.ts, Sz 1 (order - 1) m' u) := by
        cases m with
        | zero => rw [g3 rfl]; exact ⟨by simp, fun m' hm => by omega⟩
        | succ m =>
          have h5 := tot_next hall
          have h7 : ∀ u ∈ ts.flatMap BT.ts, Sz 1 (order - 1) m u := by
            intro u hu
            obtain ⟨w, hw, huw⟩ := List.mem_flatMap.1 hu
            exact (hzs w hw).2 u huw
          have h6 := tot_ge (g4 m rfl) h7
          have h8 := (g4 m rfl).len
          refine ⟨by omega, fun m' hm => ?_⟩
          obtain rfl : m = m' := by omega
          exact ⟨by omega, h7⟩
      have hes : ∀ x ∈ ys, x.1.length ≤ 1000 := by
        intro x hx
        have : x.1 ∈ ys.map Prod.fst := List.mem_map.2 ⟨x, hx, rfl⟩
        rw [g2] at this
        obtain ⟨u, hu, he⟩ := List.mem_map.1 this
        have := (hzs u hu).here
        rw [← he]; omega
      have hrow : ys.map (fun x => x.1.map Prod.fst) = lv n k t := by
        have h5 := hlv 0
        rw [lv_here, Nat.add_zero] at h5
        rw [← h5]
        have : ys.map (fun x => x.1.map Prod.fst) = (ys.map Prod.fst).map (fun es => es.map Prod.fst) := by simp
        rw [this, g2]; simp
      have s4 : St h0 h2 (B1 + (Bo + (Bl + (B2 + (Ar + (treeC tb order xs.length (some ⟨root, 0, none⟩) vis + G)))))) := by rw [hA, hAc] at s3; exact s3.to
      refine levels_b2_ok g1 ho hl (by omega) (by omega) (by omega) (by omega) hes s4 fun h' p' c' q' d' Bo' Bl' ho' hl' s5 => ?_
      rw [hrow] at ho'
      have hout : OutA (p', k + 1, c') ((List.range (k + 1)).map fun j => lv n j t) Bo' := by rw [List.range_succ, List.map_append]; exact ho'
      have s6 : St h0 h' (A1 + (Bo' + (Bl' + (treeC tb order xs.length (some ⟨root, 0, none⟩) vis + G)))) := by rw [hA, hAc]; exact s5.to
      refine ⟨⟨k + 1, Bo', Bl', by omega, hout, s6, ?_⟩, ?_⟩
      · cases m with
        | zero =>
          refine .inl ⟨by omega, ?_⟩
          have := hl'
          rw [g3 rfl] at this
          dsimp only
          rw [g3 rfl]
          exact this
        | succ m =>
          refine .inr ⟨m, ys.flatMap Prod.snd, ts.flatMap BT.ts, B2, B1 + Ar, by omega, hl', by rw [hA, hAc]; ac_rfl, g4 m rfl, (hfm.2 m rfl).2, (hfm.2 m rfl).1, ?_, ?_⟩
          · have h8 := (g4 m rfl).len
            obtain ⟨u, us, hts⟩ : ∃ u us, ts = u :: us := by
              cases ts with
              | nil => exact absurd (show bs.length = 0 from hbt) (by omega)
              | cons u us => exact ⟨u, us, rfl⟩
            have hu : u.ts.length = u.es.length + 1 := by
              subst hts
              cases bs with
              | nil => simp at hpos
              | cons b bs =>
                obtain ⟨_, _, _, k1, _⟩ := hall
                exact k1.len
            rw [h8, hts, List.flatMap_cons, List.length_append]
            omega
          · intro j
            rw [← lv_next, hlv (j + 1)]
            congr 1
            omega
      · have hl0 : l0 ≠ 0 := by omega
        simp only
        rw [if_neg hl0]
        split
        · omega
        · omega
theorem Height_ok {h0 h : Hp} {order tb : Nat} {xs : List E} {vis : Int} {A G : Bag} (hor : 3 ≤ order) (h64 : order ≤ 64) (hmost : xs.length ≤ 2000) (ta : TreeA order xs tb vis A) (s : St h0 h (A + G)) :
    HCalls Tryz.prog 16 #[ptr tb] h (fun v h' => ∃ ls, v = .int .i64 (ls.length : Int) ∧ levelsT order xs ls ∧ St h0 h' (A + G)) := by
  refine btree_Tree_Height_call ?_
  rw [btree_Tree_Height_b0_eq]
  refine (Levels_ok hor h64 hmost ta s).mono fun v h' ⟨p, n, c, ls, B, hv, ho, hl, s'⟩ => ?_
  refine ⟨_, _, _, hv, ls, ?_, hl, (s'.to (B := B + (A + G))).drop⟩
  have := ho.len
  dsimp only at this
  rw [this]
end Go.Proofs.YtkdmcdnfakmapaaGreat

/- B-trees: the reference: lists, and the right shape. -/
set_option maxRecDepth 100000
namespace Go.Proofs.YtkdmcdnfakmapaaGreat
open Go Go.Sx
theorem SameList_ok {h : Hp} {p q : Option Addr} {n m c d : Nat} {xs ys : List Int} (r1 : RdT TI h p n xs) (r2 : RdT TI h q m ys) (hn : n ≤ 1000000000) :
    HCalls Tryz.prog 34 #[.slice p n c, .slice q m d] h (fun v h' => h' = h ∧ v = .bool (decide (xs = ys))) := by
  have l1 := r1.len
  have l2 := r2.len
  refine r03_SameList_call ?_
  rw [r03_SameList_b0_eq]
  refine condN (fun hl => ?_) (fun hl => ?_)
  · exact ⟨rfl, by rw [decide_eq_false (fun h => hl (by subst h; omega))]⟩
  refine ⟨fun x h' => h' = h ∧ ∃ i : Nat, x.1 = i ∧ i ≤ n ∧ ∀ j, j < i → xs.getD j 0 = ys.getD j 0, fun x _ => n - x.1.toNat, ⟨rfl, 0, rfl, by omega, fun j hj => by omega⟩, ?_⟩
  rintro ⟨_, _⟩ h1 ⟨rfl, i, rfl, hin, heq⟩
  dsimp only
  rw [r03_SameList_b1_eq]
  refine condP (fun hlt => ?_) (fun hge => ?_)
  · refine r1.int (by omega) (by omega) (r2.int (by omega) (by omega) ?_)
    rw [Int.toNat_natCast]
    refine condN (fun hne => ?_) (fun he => ?_)
    · exact ⟨rfl, by rw [decide_eq_false (fun h => hne (by rw [h]))]⟩
    · rw [r03_SameList_b2_eq]
      refine ⟨⟨by omega, by omega⟩, ⟨rfl, i + 1, by simp only; omega, by omega, fun j hj => ?_⟩, by simp only; omega⟩
      rcases Nat.lt_or_ge j i with h1 | h1
      · exact heq j h1
      · obtain rfl : j = i := by omega
        exact he
  · rw [r03_SameList_b3_eq]
    exact ⟨rfl, by rw [decide_eq_true (list_eq_of (d := 0) (by omega) (fun t ht => heq t (by omega)))]⟩
theorem node_ok {h : Hp} {order : Nat} {p : Option Addr} {n c : Nat} {root : Bool} (hor : 3 ≤ order) (h64 : order ≤ 64) (h1 : root = true → 1 ≤ n) (h2 : root = false → (order + 1) / 2 - 1 ≤ n) (h3 : n ≤ order - 1) :
    HCalls Tryz.prog 69 #[.int .i64 (order : Int), .slice p n c, .bool root] h (fun v h' => h' = h ∧ v = .bool true) := by
  have least : HCalls Tryz.prog 95 #[.int .i64 (order : Int)] h (fun v h' => h' = h ∧ v = .int .i64 (((order + 1) / 2 - 1 : Nat) : Int)) := by
    refine r43_Least_call ?_
    rw [r43_Least_b0_eq]
    refine ⟨⟨by omega, by omega⟩, quo_intro (by omega) (by omega) (by omega) ⟨⟨by omega, by omega⟩, rfl, ?_⟩⟩
    congr 1; omega
  refine r43_node_call ?_
  rw [r43_node_b0_eq]
  refine ⟨⟨by omega, by omega⟩, condNo (decide_eq_false (by omega)) ?_⟩
  have tail : cond (decide ((n : Int) < (((order + 1) / 2 - 1 : Nat) : Int))) (cond (!root) (h = h ∧ Value.bool false = Value.bool true) (r43_node_b1 h fun v h' => h' = h ∧ v = .bool true)) (r43_node_b1 h fun v h' => h' = h ∧ v = .bool true) := by
    have e : r43_node_b1 h fun v h' => h' = h ∧ v = .bool true := by rw [r43_node_b1_eq]; exact ⟨rfl, rfl⟩
    refine condP (fun h4 => ?_) (fun _ => e)
    cases root with
    | true => exact condNo rfl e
    | false => have := h2 rfl; omega
  refine condP (fun h5 => ?_) (fun h5 => ?_)
  · cases root with
    | true => have := h1 rfl; omega
    | false =>
      refine condNo rfl (least.mono fun v1 h' ⟨hh, hv⟩ => ⟨_, hv, ?_⟩)
      subst hh
      exact tail
  · refine least.mono fun v1 h' ⟨hh, hv⟩ => ⟨_, hv, ?_⟩
    subst hh
    exact tail
end Go.Proofs.YtkdmcdnfakmapaaGreat

/- Equality of structs and arrays whose parts are numbers, bools or strings. -/
namespace Go.Sx
open Go
section
variable {P : Program}
abbrev scalEq (P : Program) (t : TypeId) (x y : Value) : Option Bool :=
  match P.underlying t, x, y with
  | some (.int _), .int k a, .int k' b => (match Nat.beq (kNum k) (kNum k') with | true => some (decide (a = b)) | false => none)
  | some .bool, .bool a, .bool b => some (a == b)
  | some .string, .string a, .string b => some (a == b)
  | _, _, _ => none
theorem scalEq_spec {t : TypeId} {x y : Value} {b : Bool} {d : Nat} {h : Hp} {K : Bool → Prop} (hs : scalEq P t x y = some b) (hk : K b) : hq P (Op.equalIn (d + 1) t x y) h K := by
  unfold Op.equalIn
  rw [hq_bind', hq_underlying]
  unfold scalEq at hs
  split at hs
  · rename_i u k a k' b' hu
    rw [hu]
    split at hs
    · rename_i hkk
      cases hs
      have := kNum_inj hkk
      subst this
      simp only [if_true, hq_pure']
      have e : (a == b') = decide (a = b') := by
        by_cases h : a = b'
        · subst h; simp
        · simp [h]
      rw [e]; exact hk
    · cases hs
  · rename_i a b' hu
    rw [hu]
    cases hs
    exact hk
  · rename_i a b' hu
    rw [hu]
    cases hs
    exact hk
  · cases hs
theorem hq_isAggF {t : TypeId} {h : Hp} {K : Bool → Prop} (ha : isAggT P t = some false) (hk : K false) : hq P (isAgg t) h K := by
  unfold isAgg
  rw [hq_bind', hq_underlying]
  unfold isAggT at ha
  cases hu : P.underlying t with
  | none => rw [hu] at ha; cases ha
  | some d => rw [hu] at ha; cases d <;> first | exact hk | cases ha
theorem scal_notAgg {t : TypeId} {x y : Value} {b : Bool} (hs : scalEq P t x y = some b) : isAggT P t = some false := by
  unfold scalEq at hs
  unfold isAggT
  split at hs
  · rename_i hu; rw [hu]
  · rename_i hu; rw [hu]
  · rename_i hu; rw [hu]
  · cases hs
abbrev fieldsEq (P : Program) (xs ys : List Value) : List Field → Option Bool
  | [] => some true
  | f :: fs => match f.name == "_" with
    | true => fieldsEq P xs ys fs
    | false => match nth xs f.offset, nth ys f.offset with
      | some x, some y => (match scalEq P f.type x y, fieldsEq P xs ys fs with | some a, some b => some (a && b) | _, _ => none)
      | _, _ => none
theorem hq_part {t : TypeId} {cs : Array Value} {off : Nat} {v : Value} {h : Hp} {K : Value → Prop} (ha : isAggT P t = some false) (hv : nth cs.toList off = some v) (hk : K v) : hq P (part t cs off) h K := by
  unfold part
  rw [hq_bind']
  refine hq_isAggF ha ?_
  simp only [Bool.false_eq_true, if_false]
  rw [nth_eq, Array.getElem?_toList] at hv
  rw [hv]
  exact hk
theorem loop_eq {α : Type} {h : Hp} {body : α → Option Bool × Unit → Sem (ForInStep (Option Bool × Unit))} {val : α → Option Bool}
    (hb : ∀ f a s (K : ForInStep (Option Bool × Unit) → Prop), val f = some a → (a = true → K (.yield (none, ()))) → (a = false → K (.done (some false, ()))) → hq P (body f s) h K) :
    ∀ (l : List α) (b : Bool) (K : Option Bool × Unit → Prop), (l.mapM val).map (fun l => l.all id) = some b → (b = true → K (none, ())) → (b = false → K (some false, ())) → hq P (forIn l (none, ()) body) h K
  | [], b, K, hv, h1, _ => by
    have : b = true := by simpa using hv.symm
    exact h1 this
  | f :: l, b, K, hv, h1, h2 => by
    simp only [List.forIn_cons, hq_bind']
    cases hf : val f with
    | none => simp [List.mapM_cons, hf] at hv
    | some a =>
      cases hl : l.mapM val with
      | none => simp [List.mapM_cons, hf, hl] at hv
      | some bs =>
        simp [List.mapM_cons, hf, hl] at hv
        refine hb f a _ _ hf (fun ha => ?_) (fun ha => ?_)
        · subst ha
          refine loop_eq hb l (bs.all id) K (by rw [hl]; rfl) (fun h => h1 (by rw [← hv]; simpa using h)) (fun h => h2 ?_)
          rw [← hv]
          simpa using h
        · subst ha
          exact h2 (by simpa using hv.symm)
abbrev fieldVal (P : Program) (xs ys : List Value) (f : Field) : Option Bool :=
  match f.name == "_" with
  | true => some true
  | false => match nth xs f.offset, nth ys f.offset with
    | some x, some y => scalEq P f.type x y
    | _, _ => none
theorem equal_struct {t : TypeId} {fs : Array Field} {xs ys : List Value} {b : Bool} {d : Nat} {h : Hp} {K : Bool → Prop} (hu : P.underlying t = some (.struct fs)) (hst : P.stoodInHeld t = false) (he : (fs.toList.mapM (fieldVal P xs ys)).map (fun l => l.all id) = some b) (hk : K b) :
    hq P (Op.equalIn (d + 2) t (.agg xs.toArray) (.agg ys.toArray)) h K := by
  unfold Op.equalIn
  rw [hq_bind', hq_underlying, hu]
  simp only [program, hq_bind', hq, hst, Bool.false_eq_true, if_false]
  have e : ∀ (b : Option Bool × Unit) (f : Field → Option Bool × Unit → Sem (ForInStep (Option Bool × Unit))), forIn fs b f = forIn fs.toList b f := fun b f => by simp
  rw [e]
  refine loop_eq (val := fieldVal P xs ys) (fun f a s K' hv h1 h2 => ?_) _ b _ he (fun hb => ?_) (fun hb => ?_)
  · unfold fieldVal at hv
    split at hv
    · rename_i hn
      have hn' : f.name = "_" := by simpa using hn
      cases hv
      rw [if_neg (by simpa using hn')]
      exact h1 rfl
    · rename_i hn
      have hn' : f.name ≠ "_" := by simpa using hn
      split at hv
      · rename_i x y hx hy
        rw [if_pos hn']
        have hag := scal_notAgg hv
        simp only [hq_bind']
        refine hq_part hag hx (hq_part hag hy (scalEq_spec hv ?_))
        cases a with
        | true => exact h1 rfl
        | false => exact h2 rfl
      · cases hv
  · subst hb; exact hk
  · subst hb; exact hk
abbrev elemVal (P : Program) (e : TypeId) (xs ys : List Value) (i : Nat) : Option Bool :=
  match nth xs i, nth ys i with
  | some x, some y => scalEq P e x y
  | _, _ => none
theorem equal_array {t e : TypeId} {n : Nat} {xs ys : List Value} {b : Bool} {d : Nat} {h : Hp} {K : Bool → Prop} (hu : P.underlying t = some (.array n e)) (hsz : sizeOfT P e = 1) (he : ((List.range n).mapM (elemVal P e xs ys)).map (fun l => l.all id) = some b) (hk : K b) :
    hq P (Op.equalIn (d + 2) t (.agg xs.toArray) (.agg ys.toArray)) h K := by
  unfold Op.equalIn
  rw [hq_bind', hq_underlying, hu]
  obtain ⟨inf, hinf, hs1⟩ : ∃ inf, P.info? e = some inf ∧ inf.size = 1 := by
    unfold sizeOfT at hsz
    split at hsz
    · rename_i i hi; exact ⟨i, hi, hsz⟩
    · cases hsz
  simp only [sizeOf_hq, hq_bind', hinf, hs1, Nat.mul_one]
  rw [Std.Legacy.Range.forIn_eq_forIn_range']
  have e1 : List.range' 0 (Std.Legacy.Range.size [:n]) 1 = List.range n := by simp [Std.Legacy.Range.size, List.range_eq_range']
  rw [show List.range' ([:n] : Std.Legacy.Range).start ([:n] : Std.Legacy.Range).size ([:n] : Std.Legacy.Range).step = List.range n from e1]
  refine loop_eq (val := elemVal P e xs ys) (fun i a s K' hv h1 h2 => ?_) _ b _ he (fun hb => ?_) (fun hb => ?_)
  · unfold elemVal at hv
    split at hv
    · rename_i x y hx hy
      have hag := scal_notAgg hv
      simp only [hq_bind']
      refine hq_part hag hx (hq_part hag hy (scalEq_spec hv ?_))
      cases a with
      | true => exact h1 rfl
      | false => exact h2 rfl
    · cases hv
  · subst hb; exact hk
  · subst hb; exact hk
theorem eqC_of {op : BinOp} {t : TypeId} {xo yo : Operand} {xs ys : List Value} {h : Hp} {b : Bool} (hg : P.eqGuardType P.depth t = false) (he : ∀ K : Bool → Prop, K b → hq P (Op.equal t (.agg xs.toArray) (.agg ys.toArray)) h K) :
    (op = .eql → eqC P op t xo yo (.agg xs.toArray) (.agg ys.toArray) h b) ∧ (op = .neq → eqC P op t xo yo (.agg xs.toArray) (.agg ys.toArray) h (!b)) := by
  have hgu : (op = .eql ∨ op = .neq) → ∀ K : Unit → Prop, K () → hq P (eqGuard op t xo yo (.agg xs.toArray) (.agg ys.toArray)) h K := by
    intro ho K hK
    unfold eqGuard
    rcases ho with rfl | rfl
    all_goals
      simp only [Bool.not_true, Bool.false_eq_true, if_false, program, hq_bind', hq, hg, Bool.not_false, if_true]
      exact hK
  constructor
  · rintro rfl
    unfold eqC
    rw [hq_bind']
    refine hgu (.inl rfl) _ ?_
    show hq P (do pure (Value.bool (← Op.equal t _ _)) : Sem Value) h _
    rw [hq_bind']
    exact he _ rfl
  · rintro rfl
    unfold eqC
    rw [hq_bind']
    refine hgu (.inr rfl) _ ?_
    show hq P (do pure (Value.bool (!(← Op.equal t _ _))) : Sem Value) h _
    rw [hq_bind']
    exact he _ rfl
theorem eqC_array {op : BinOp} {t e : TypeId} {n : Nat} {xo yo : Operand} {xs ys : List Value} {h : Hp} {b : Bool} (hg : P.eqGuardType P.depth t = false) (hu : P.underlying t = some (.array n e)) (hsz : sizeOfT P e = 1) (he : ((List.range n).mapM (elemVal P e xs ys)).map (fun l => l.all id) = some b) :
    (op = .eql → eqC P op t xo yo (.agg xs.toArray) (.agg ys.toArray) h b) ∧ (op = .neq → eqC P op t xo yo (.agg xs.toArray) (.agg ys.toArray) h (!b)) :=
  eqC_of hg fun _ hK => equal_array (d := 9998) hu hsz he hK
theorem eqC_struct {op : BinOp} {t : TypeId} {fs : Array Field} {xo yo : Operand} {xs ys : List Value} {h : Hp} {b : Bool} (hg : P.eqGuardType P.depth t = false) (hu : P.underlying t = some (.struct fs)) (hst : P.stoodInHeld t = false) (he : (fs.toList.mapM (fieldVal P xs ys)).map (fun l => l.all id) = some b) :
    (op = .eql → eqC P op t xo yo (.agg xs.toArray) (.agg ys.toArray) h b) ∧ (op = .neq → eqC P op t xo yo (.agg xs.toArray) (.agg ys.toArray) h (!b)) :=
  eqC_of hg fun _ hK => equal_struct (d := 9998) hu hst he hK
end
end Go.Sx

/- B-trees: the reference's Keys and Shaped; equality of pairs. -/
set_option maxRecDepth 100000
namespace Go.Proofs.YtkdmcdnfakmapaaGreat
open Go Go.Sx
theorem neq_pair {xo yo : Operand} {a b c d : Int} {h : Hp} : eqC Tryz.prog .neq 51 xo yo (.agg #[.int .i64 a, .int .i64 b]) (.agg #[.int .i64 c, .int .i64 d]) h (!decide ((a, b) = (c, d))) := by
  have e : (!decide ((a, b) = (c, d))) = !(decide (a = c) && (decide (b = d) && true)) := by simp
  rw [e]
  exact (eqC_array (xs := [.int .i64 a, .int .i64 b]) (ys := [.int .i64 c, .int .i64 d]) (n := 2) (e := 3) (by kernel_rfl) (by kernel_rfl) (by kernel_rfl) (by kernel_rfl)).2 rfl
theorem eql_pair {xo yo : Operand} {a b c d : Int} {h : Hp} : eqC Tryz.prog .eql 51 xo yo (.agg #[.int .i64 a, .int .i64 b]) (.agg #[.int .i64 c, .int .i64 d]) h (decide ((a, b) = (c, d))) := by
  have e : (decide ((a, b) = (c, d))) = (decide (a = c) && (decide (b = d) && true)) := by simp
  rw [e]
  exact (eqC_array (xs := [.int .i64 a, .int .i64 b]) (ys := [.int .i64 c, .int .i64 d]) (n := 2) (e := 3) (by kernel_rfl) (by kernel_rfl) (by kernel_rfl) (by kernel_rfl)).1 rfl
theorem EqualP_ok {h : Hp} {p q : Option Addr} {n m c d : Nat} {xs ys : List E} (r1 : RdT TE h p n xs) (r2 : RdT TE h q m ys) (hn : n ≤ 1000000000) :
    HCalls Tryz.prog 13 #[.slice p n c, .slice q m d] h (fun v h' => h' = h ∧ v = .bool (decide (xs = ys))) := by
  have l1 := r1.len
  have l2 := r2.len
  refine slices_Equal_2_int_2_int_call ?_
  rw [slices_Equal_2_int_2_int_b0_eq]
  refine condN (fun hl => ?_) (fun hl => ?_)
  · exact ⟨rfl, by rw [decide_eq_false (fun h => hl (by subst h; omega))]⟩
  refine ⟨fun x h' => h' = h ∧ ∃ i : Nat, x.1 = i ∧ i ≤ n ∧ ∀ j, j < i → xs.getD j (0, 0) = ys.getD j (0, 0), fun x _ => n - x.1.toNat, ⟨rfl, 0, rfl, by omega, fun j hj => by omega⟩, ?_⟩
  rintro ⟨_, _⟩ h1 ⟨rfl, i, rfl, hin, heq⟩
  dsimp only
  rw [slices_Equal_2_int_2_int_b1_eq]
  refine condP (fun hlt => ?_) (fun hge => ?_)
  · refine pair_load r1 (by omega) (by omega) (pair_load r2 (by omega) (by omega) ?_)
    rw [Int.toNat_natCast]
    refine ⟨_, neq_pair, condN (fun hne => ?_) (fun he => ?_)⟩
    · exact ⟨rfl, by rw [decide_eq_false (fun h => hne (by rw [h]))]⟩
    · rw [slices_Equal_2_int_2_int_b2_eq]
      refine ⟨⟨by omega, by omega⟩, ⟨rfl, i + 1, by simp only; omega, by omega, fun j hj => ?_⟩, by simp only; omega⟩
      rcases Nat.lt_or_ge j i with h1 | h1
      · exact heq j h1
      · obtain rfl : j = i := by omega
        exact he
  · rw [slices_Equal_2_int_2_int_b3_eq]
    exact ⟨rfl, by rw [decide_eq_true (list_eq_of (d := (0, 0)) (by omega) (fun t ht => heq t (by omega)))]⟩
end Go.Proofs.YtkdmcdnfakmapaaGreat

/- B-trees: the reference's Keys and Shaped. -/
set_option maxRecDepth 100000
namespace Go.Proofs.YtkdmcdnfakmapaaGreat
open Go Go.Sx
def Wf : Nat → BT → Prop
  | 0, t => t.ts = []
  | n + 1, t => t.ts.length = t.es.length + 1 ∧ ∀ c ∈ t.ts, Wf n c
theorem AllH.each {α β : Type} {P : β → α → Bag → Prop} : ∀ {bs : List β} {ts : List α} {A : Bag}, AllH P bs ts A → ∀ t ∈ ts, ∃ b B, P b t B
  | [], [], _, _, t, ht => nomatch ht
  | [], _ :: _, _, h, _, _ => h.elim
  | _ :: _, [], _, h, _, _ => h.elim
  | _ :: _, _ :: _, _, ⟨_, _, _, h1, h2⟩, t, ht => by
    rcases List.mem_cons.1 ht with rfl | ht
    · exact ⟨_, _, h1⟩
    · exact AllH.each h2 t ht
theorem Hold.wf : ∀ {n b : Nat} {t : BT} {A : Bag}, Hold n b t A → Wf n t
  | 0, _, _, _, h => h.1
  | n + 1, _, t, _, h => by
    refine ⟨h.len, ?_⟩
    obtain ⟨ks, A1, A2, _, _, _, h2⟩ := h
    intro c hc
    obtain ⟨b, B, hb⟩ := AllH.each h2 c hc
    exact hb.wf
theorem getD_set {α : Type} {l : List α} {i j : Nat} {x d : α} : (l.set i x).getD j d = if i = j ∧ j < l.length then x else l.getD j d := by
  simp only [List.getD, List.getElem?_set]
  by_cases h : i = j
  · subst h
    by_cases h2 : i < l.length
    · simp [h2]
    · simp [h2]
  · simp [h]
/-- What is left of a level. -/
def Rm (LL : List (List (List Int))) (nx : List Nat) (j : Nat) : List (List Int) := (LL.getD j []).drop (nx.getD j 0)
abbrev nums (nx : List Nat) : List Int := nx.map fun (x : Nat) => (x : Int)
theorem Rm_here {LL : List (List (List Int))} {nx : List Nat} {j : Nat} {l : List Int} {R : List (List Int)} (h : Rm LL nx j = l :: R) : nx.getD j 0 < (LL.getD j []).length ∧ (LL.getD j []).getD (nx.getD j 0) [] = l ∧ (j < nx.length → Rm LL (nx.set j (nx.getD j 0 + 1)) j = R) := by
  unfold Rm at h ⊢
  generalize nx.getD j 0 = a at h
  have hl : a < (LL.getD j []).length := by
    rcases Nat.lt_or_ge a (LL.getD j []).length with h1 | h1
    · exact h1
    · rw [List.drop_of_length_le h1] at h; cases h
  rw [List.drop_eq_getElem_cons hl] at h
  injection h with h1 h2
  refine ⟨hl, ?_, fun hj => ?_⟩
  · have e : (LL.getD j []).getD a [] = (LL.getD j [])[a] := by
      generalize LL.getD j [] = L at hl
      simp [List.getD, hl]
    rw [e]; exact h1
  · rw [getD_set, if_pos ⟨rfl, hj⟩]; exact h2
theorem Rm_other {LL : List (List (List Int))} {nx : List Nat} {i j v : Nat} (h : i ≠ j) : Rm LL (nx.set i v) j = Rm LL nx j := by
  unfold Rm
  rw [getD_set, if_neg (fun h1 => h h1.1)]
theorem nums_set (nx : List Nat) (i v : Nat) : (nums nx).set i (v : Int) = nums (nx.set i v) := by simp [nums, List.map_set]
theorem nums_get (nx : List Nat) (i : Nat) : (nums nx).getD i 0 = ((nx.getD i 0 : Nat) : Int) := by simp [nums, List.getD, List.getElem?_map]; cases nx[i]? <;> rfl
def KeysS (h0 : Hp) (order N : Nat) (LL : List (List (List Int))) (p : Option Addr) (c : Nat) (B : Bag) (m : Nat) : Prop :=
  ∀ (d : Nat) {t : BT} {h : Hp} {nx : List Nat} {q : Option Addr} {e : Nat} {A G : Bag} {R : Nat → List (List Int)}, d + m = N → Wf m t → (d = 0 → 1 ≤ t.es.length) → (d ≠ 0 → (order + 1) / 2 - 1 ≤ t.es.length) → t.es.length ≤ order - 1 →
      (∀ m', m = m' + 1 → ∀ u ∈ t.ts, Sz ((order + 1) / 2 - 1) (order - 1) m' u) → (flat m t).length ≤ 2000 →
      Sl TI q (N + 1) e (nums nx) A → St h0 h (A + (B + G)) → (∀ j, j ≤ m → Rm LL nx (d + j) = lv m j t ++ R j) → (∀ j, nx.getD j 0 ≤ 100000) →
      HCalls Tryz.prog 39 #[.int .i64 (order : Int), .slice p (N + 1) c, .int .i64 (d : Int), .slice q (N + 1) e] h (fun v h' => ∃ r k cc nx' A' D, v = .tuple #[.slice r k cc, .bool true] ∧ Sl TI r k cc ((flat m t).map Prod.fst) D ∧
        Sl TI q (N + 1) e (nums nx') A' ∧ St h0 h' (D + (A' + (B + G))) ∧ (∀ j, j ≤ m → Rm LL nx' (d + j) = R j) ∧ (∀ i, i < d → nx'.getD i 0 = nx.getD i 0) ∧ (∀ i, (nx.getD i 0 ≤ (LL.getD i []).length → nx'.getD i 0 ≤ (LL.getD i []).length)) ∧ (∀ j, nx'.getD j 0 ≤ 100000))
theorem lv_zero {n : Nat} {t : BT} : lv n 0 t = [t.es.map Prod.fst] := by cases n <;> rfl
theorem pre_len {n : Nat} {t : BT} {i : Nat} (hl : t.ts.length = t.es.length + 1) (hi : i ≤ t.es.length) : (pre (n + 1) t i).length ≤ (flat (n + 1) t).length := by
  rcases Nat.lt_or_ge i t.es.length with h | h
  · obtain ⟨r, hr⟩ := pre_mid (n := n) hl h
    rw [hr, List.length_append]; omega
  · obtain rfl : i = t.es.length := by omega
    rw [pre_last hl, List.length_append]; omega
theorem Keys_main {h0 : Hp} {order N : Nat} {LL : List (List (List Int))} {p : Option Addr} {c : Nat} {B : Bag} (hor : 3 ≤ order) (h64 : order ≤ 64) (hN : N ≤ 1000) (ho : OutA (p, N + 1, c) LL B) (hLb : ∀ j, (LL.getD j []).length ≤ 100000)
    (m : Nat) (ih : ∀ m', m = m' + 1 → KeysS h0 order N LL p c B m') : KeysS h0 order N LL p c B m := by
  intro d t h nx q e A G R hd hwf hz0 hz1 hz2 hzk hfl hnx s hR hb
  have hnl : nx.length = N + 1 := by have := hnx.len; simpa using this
  have hR0 := hR 0 (by omega)
  rw [Nat.add_zero, lv_zero, List.singleton_append] at hR0
  obtain ⟨g1, g2, g3⟩ := Rm_here hR0
  have g3 := g3 (by omega)
  have hbd := hb d
  refine r43_Keys_call ?_
  rw [r43_Keys_b0_eq]
  have sB : St h0 h (B + (A + G)) := s.to
  refine (hnx.rd s).int (by omega) (by omega) ?_
  rw [Int.toNat_natCast, nums_get]
  refine ho.at_ sB (d := []) (by omega) (by show (d : Int) < ((N + 1 : Nat) : Int); omega) fun a3 L1 C1 B1 Br1 hlev hB1 => ?_
  rw [Int.toNat_natCast] at hlev
  have hL1 := hlev.len
  dsimp only at hL1
  refine condNo (decide_eq_false (by omega)) ?_
  refine ho.at_ sB (d := []) (by omega) (by show (d : Int) < ((N + 1 : Nat) : Int); omega) fun a5 L2 C2 B2 Br2 hlev2 hB2 => ?_
  rw [Int.toNat_natCast] at hlev2
  have hL2 := hlev2.len
  dsimp only at hL2
  refine (hnx.rd s).int (by omega) (by omega) ?_
  rw [Int.toNat_natCast, nums_get]
  have sB2 : St h0 h (B2 + (Br2 + (A + G))) := by rw [hB2] at sB; exact sB.to
  refine hlev2.at_ sB2 (d := []) (by omega) (by show _ < (L2 : Int); omega) fun a8 L3 C3 B3 Br3 hl3 hB3 => ?_
  rw [Int.toNat_natCast, g2] at hl3
  have hL3 := hl3.len
  dsimp only at hL3
  rw [List.length_map] at hL3
  refine (hnx.rd s).int (by omega) (by omega) ?_
  rw [Int.toNat_natCast, nums_get]
  refine ⟨⟨by omega, by omega⟩, ?_⟩
  refine hnx.wrI s (x := ((nx.getD d 0 + 1 : Nat) : Int)) (by omega) (by omega) rfl (by show [_] = [_]; congr 2) fun h1 A1 hnx1 s1 => ?_
  rw [Int.toNat_natCast, nums_set] at hnx1
  have hroot : (decide ((d : Int) = 0)) = decide (d = 0) := decide_eq_decide.2 (by omega)
  rw [hroot]
  refine (node_ok hor h64 (root := decide (d = 0)) (n := L3) (fun h => by rw [← hL3]; exact hz0 (of_decide_eq_true h)) (fun h => by rw [← hL3]; exact hz1 (of_decide_eq_false h)) (by omega)).mono fun v1 h2 ⟨hh, hv1⟩ => ?_
  subst hh
  refine ⟨_, hv1, condNo rfl ⟨⟨by omega, by omega⟩, condP (fun hlast => ?_) (fun hnl' => ?_)⟩⟩
  · obtain rfl : m = 0 := by omega
    refine s1.new (cs := []) fun b1 h3 _ s3 => ?_
    have sl : St h0 h3 (cA b1 [] 3 + (B3 + (Br3 + (Br2 + (A1 + G))))) := by rw [hB2, hB3] at s3; exact s3.to
    refine append_sl ok_int sl (Sl.of_blk (T := TI) (xs := []) rfl rfl) (hl3.rd (sl.at B3)) (by omega) fun p' c' h' A' a' s' => ?_
    rw [Nat.zero_add, List.nil_append] at a'
    have s'' : St h0 h' (A' + (A1 + (B + G))) := by rw [hB2, hB3]; exact s'.to
    rw [Nat.zero_add]
    refine ⟨p', L3, c', nx.set d (nx.getD d 0 + 1), A1, A', rfl, a', hnx1, s'', ?_, ?_, ?_, ?_⟩
    · intro j hj
      obtain rfl : j = 0 := by omega
      exact g3
    · intro i hi; rw [getD_set, if_neg (by omega)]
    · intro i hi
      rw [getD_set]
      split
      · rename_i h5; rw [← h5.1]; omega
      · exact hi
    · intro j
      rw [getD_set]
      split
      · have := hLb d; omega
      · exact hb j
  · obtain ⟨m', rfl⟩ : ∃ m', m = m' + 1 := ⟨m - 1, by omega⟩
    have hlen := hwf.1
    refine ⟨fun x h' => ∃ (i : Nat) (nx' : List Nat) (out : List E) (D A' : Bag), x.2.1 = i ∧ i ≤ t.es.length + 1 ∧ ((i ≤ t.es.length ∧ out = pre (m' + 1) t i) ∨ (i = t.es.length + 1 ∧ out = flat (m' + 1) t)) ∧ Sl TI x.1.1 x.1.2.1 x.1.2.2 (out.map Prod.fst) D ∧ Sl TI q (N + 1) e (nums nx') A' ∧ St h0 h' (D + (A' + (B + G))) ∧
      Rm LL nx' d = R 0 ∧ (∀ j, j ≤ m' → Rm LL nx' (d + 1 + j) = (t.ts.drop i).flatMap (lv m' j) ++ R (j + 1)) ∧ (∀ i, i < d → nx'.getD i 0 = nx.getD i 0) ∧ (∀ i, (nx.getD i 0 ≤ (LL.getD i []).length → nx'.getD i 0 ≤ (LL.getD i []).length)) ∧ (∀ j, nx'.getD j 0 ≤ 100000), fun x _ => t.es.length + 2 - x.2.1.toNat, ?_, ?_⟩
    · refine ⟨0, nx.set d (nx.getD d 0 + 1), [], 0, A1, rfl, by omega, .inl ⟨by omega, ?_⟩, Sl.nil, hnx1, s1.to, g3, ?_, ?_, ?_, ?_⟩
      · simp [pre, wL]
      · intro j hj
        rw [Rm_other (by omega), show d + 1 + j = d + (j + 1) by omega, hR (j + 1) (by omega)]
        rfl
      · intro i hi; rw [getD_set, if_neg (by omega)]
      · intro i hi
        rw [getD_set]
        split
        · rename_i h5; rw [← h5.1]; omega
        · exact hi
      · intro j
        rw [getD_set]
        split
        · have := hLb d; omega
        · exact hb j
    rintro ⟨⟨pr, kr, cr⟩, _, _⟩ h4 ⟨i, nx', out, D, A', rfl, hi, hout, ho1, hnx', s4, k1, k2, k3, k4, k5⟩
    dsimp only at ho1 ⊢
    rw [r43_Keys_b1_eq]
    have hkr := ho1.len
    rw [List.length_map] at hkr
    have hnl4 : nx'.length = N + 1 := by have := hnx'.len; simpa using this
    refine condP (fun hle => ?_) (fun hgt => ?_)
    · have hie : i ≤ t.es.length := by omega
      obtain ⟨_, rfl⟩ : i ≤ t.es.length ∧ out = pre (m' + 1) t i := by rcases hout with h | h; exact h; omega
      have hpl := pre_len (n := m') hlen hie
      refine ⟨⟨by omega, by omega⟩, ?_⟩
      have e1 : ((d : Int) + 1) = ((d + 1 : Nat) : Int) := by omega
      rw [e1]
      have hit : i < t.ts.length := by omega
      have hge : t.ts.getD i nilT = t.ts[i] := by simp [List.getD, hit]
      have hu : t.ts.getD i nilT ∈ t.ts := by rw [hge]; exact List.getElem_mem hit
      have hdrop : t.ts.drop i = t.ts.getD i nilT :: t.ts.drop (i + 1) := by rw [hge]; exact List.drop_eq_getElem_cons hit
      have hsz := hzk m' rfl _ hu
      have hszh := hsz.here
      have s5 := s4.to (B := A' + (B + (D + G)))
      have hkl : (flat m' (t.ts.getD i nilT)).length ≤ (flat (m' + 1) t).length - (pre (m' + 1) t i).length := by
        rcases Nat.lt_or_ge i t.es.length with h | h
        · obtain ⟨r, hr⟩ := pre_mid (n := m') hlen h
          rw [hr, List.length_append, List.length_append]; omega
        · obtain rfl : i = t.es.length := by omega
          rw [pre_last hlen, List.length_append]; omega
      refine (ih m' rfl (d + 1) (t := t.ts.getD i nilT) (nx := nx') (G := D + G) (R := fun j => (t.ts.drop (i + 1)).flatMap (lv m' j) ++ R (j + 1)) (by omega) (hwf.2 _ hu) (fun h => by omega) (fun _ => hszh.1) hszh.2 (fun m'' hm u hu' => ?_) (by omega) hnx' s5 (fun j hj => ?_) k5).mono fun v2 h6 ⟨r2, k2', c2, nx2, A2, D2, hv2, hs2, hnx2, s6, w1, w2, w3, w4⟩ => ?_
      · subst hm; exact hsz.2 u hu'
      · rw [k2 j hj, hdrop, List.flatMap_cons, List.append_assoc]
      refine ⟨_, _, _, _, hv2, condNo rfl ?_⟩
      have hl2 := hs2.len
      rw [List.length_map] at hl2
      have s7 := s6.to (B := D + (D2 + (A2 + (B + G))))
      refine append_sl ok_int s7 ho1 (hs2.rd (s7.at D2)) (by omega) fun p8 c8 h8 D8 o8 s8 => ?_
      rw [← List.map_append] at o8
      have s8 := (s8.to (B := D2 + (D8 + (A2 + (B + G))))).drop
      have kd : Rm LL nx2 d = R 0 := by
        have := w2 d (by omega)
        unfold Rm at k1 ⊢
        rw [this]; exact k1
      have kr2 : ∀ j, j ≤ m' → Rm LL nx2 (d + 1 + j) = (t.ts.drop (i + 1)).flatMap (lv m' j) ++ R (j + 1) := fun j hj => w1 j hj
      refine condP (fun hlt => ?_) (fun hge' => ?_)
      · have hlt' : i < t.es.length := by omega
        have s9 : St h0 h8 (B3 + (Br3 + (Br2 + (D8 + (A2 + G))))) := by rw [hB2, hB3] at s8; exact s8.to
        refine (hl3.rd s9).int (by omega) (by show (i : Int) < (L3 : Int); omega) ?_
        rw [Int.toNat_natCast]
        have hg1 : (t.es.map Prod.fst).getD i 0 = (t.es.getD i (0, 0)).1 := by simp [List.getD, hlt']
        rw [hg1]
        have hpl2 := pre_len (n := m') (i := i + 1) hlen (by omega)
        rw [pre_succ hlen hlt', List.length_append, List.length_append] at hpl2
        simp at hpl2
        refine push_sl ok_int s8 o8 (x := (t.es.getD i (0, 0)).1) rfl rfl (by omega) fun p9 c9 h9 D9 o9 s10 => ?_
        rw [r43_Keys_b2_eq]
        refine ⟨⟨by omega, by omega⟩, ⟨i + 1, nx2, pre (m' + 1) t (i + 1), D9, A2, by simp only; omega, by omega, .inl ⟨by omega, rfl⟩, ?_, hnx2, s10, kd, kr2, fun j hj => (w2 j (by omega)).trans (k3 j hj), fun j hj => w3 j (k4 j hj), w4⟩, by simp only; omega⟩
        rw [pre_succ hlen hlt']
        simpa using o9
      · obtain rfl : i = t.es.length := by omega
        rw [r43_Keys_b2_eq]
        refine ⟨⟨by omega, by omega⟩, ⟨t.es.length + 1, nx2, flat (m' + 1) t, D8, A2, by simp only; omega, by omega, .inr ⟨rfl, rfl⟩, ?_, hnx2, s8, kd, kr2, fun j hj => (w2 j (by omega)).trans (k3 j hj), fun j hj => w3 j (k4 j hj), w4⟩, by simp only; omega⟩
        rw [pre_last hlen]; exact o8
    · obtain ⟨rfl, rfl⟩ : i = t.es.length + 1 ∧ out = flat (m' + 1) t := by rcases hout with h | h; omega; exact h
      rw [r43_Keys_b3_eq]
      have hdn : t.ts.drop (t.es.length + 1) = [] := List.drop_of_length_le (by omega)
      refine ⟨pr, kr, cr, nx', A', D, rfl, ho1, hnx', s4, ?_, k3, k4, k5⟩
      intro j hj
      cases j with
      | zero => exact k1
      | succ j =>
        have := k2 j (by omega)
        rw [hdn] at this
        rw [show d + (j + 1) = d + 1 + j by omega, this]
        rfl
theorem Keys_ok {h0 : Hp} {order N : Nat} {LL : List (List (List Int))} {p : Option Addr} {c : Nat} {B : Bag} (hor : 3 ≤ order) (h64 : order ≤ 64) (hN : N ≤ 1000) (ho : OutA (p, N + 1, c) LL B) (hLb : ∀ j, (LL.getD j []).length ≤ 100000) :
    ∀ m, KeysS h0 order N LL p c B m
  | 0 => Keys_main hor h64 hN ho hLb 0 fun m' h => by omega
  | m + 1 => Keys_main hor h64 hN ho hLb (m + 1) fun m' h => by
    obtain rfl : m = m' := by omega
    exact Keys_ok hor h64 hN ho hLb m
theorem nums_zero (n : Nat) : nums (List.replicate n 0) = List.replicate n (0 : Int) := by simp [nums]
theorem lv_one {n : Nat} {t : BT} : (lv n 0 t).length = 1 := by cases n <;> rfl
theorem levels_get {n : Nat} {t : BT} {j : Nat} (h : j ≤ n) : (levels n t).getD j [] = lv n j t := by simp [levels, List.getD, (show j < n + 1 by omega)]
theorem levels_len {n : Nat} {t : BT} : (levels n t).length = n + 1 := by simp [levels]
theorem row_len {n : Nat} {ts : List BT} {j hi : Nat} (hj : j ≤ n) (hw : ∀ t ∈ ts, Wf n t) (hz : ∀ t ∈ ts, Sz 1 hi n t) : (ts.flatMap (lv n j)).length ≤ tot n ts := by
  induction n generalizing ts j with
  | zero =>
    obtain rfl : j = 0 := by omega
    rw [lv_here, List.length_map]
    clear hw
    induction ts with
    | nil => simp
    | cons t ts ih =>
      have := ih (fun t h => hz t (by simp [h]))
      have h1 : 1 ≤ t.es.length ∧ t.es.length ≤ hi := hz t (by simp)
      simp only [tot, List.flatMap_cons, List.length_append, List.length_cons, flat] at this ⊢
      omega
  | succ n ih =>
    have hnext : tot n (ts.flatMap BT.ts) ≤ tot (n + 1) ts := by
      clear ih hz
      induction ts with
      | nil => simp [tot]
      | cons t ts ih2 =>
        have := ih2 (fun t h => hw t (by simp [h]))
        have h3 := weave_ge (t.ts.map (flat n)) t.es (by rw [List.length_map]; exact (hw t (by simp)).1)
        have h4 : ((t.ts.map (flat n)).flatMap id) = t.ts.flatMap (flat n) := by simp [List.flatMap_map]
        rw [h4] at h3
        simp only [tot, List.flatMap_cons, List.flatMap_append, List.length_append] at this ⊢
        have h5 : (flat (n + 1) t).length = (weave (t.ts.map (flat n)) t.es).length := rfl
        omega
    have hw' : ∀ t ∈ ts.flatMap BT.ts, Wf n t := by
      intro t ht
      obtain ⟨u, hu, htu⟩ := List.mem_flatMap.1 ht
      exact (hw u hu).2 t htu
    have hz' : ∀ t ∈ ts.flatMap BT.ts, Sz 1 hi n t := by
      intro t ht
      obtain ⟨u, hu, htu⟩ := List.mem_flatMap.1 ht
      exact (hz u hu).2 t htu
    cases j with
    | succ j =>
      rw [lv_next]
      exact Nat.le_trans (ih (by omega) hw' hz') hnext
    | zero =>
      have h1 := ih (j := 0) (by omega) hw' hz'
      rw [lv_here, List.length_map] at h1 ⊢
      have h2 : ts.length ≤ (ts.flatMap BT.ts).length := by
        clear h1 hz' hw' hnext ih hz
        induction ts with
        | nil => simp
        | cons t ts ih2 =>
          have := ih2 (fun t h => hw t (by simp [h]))
          have h3 := (hw t (by simp)).1
          simp only [List.flatMap_cons, List.length_append, List.length_cons]
          omega
      omega
theorem Shaped_ok {h0 h : Hp} {order : Nat} {xs : List E} {ls : List (List (List Int))} {p q : Option Addr} {n c m d : Nat} {B G : Bag} {ks : List Int} (hor : 3 ≤ order) (h64 : order ≤ 64) (hl : levelsT order xs ls) (hmost : xs.length ≤ 2000) (ho : OutA (p, n, c) ls B) (rk : RdS h0 G TI q m ks) (hk : ks = xs.map Prod.fst) (s : St h0 h (B + G)) :
    HCalls Tryz.prog 17 #[.int .i64 (order : Int), .slice p n c, .slice q m d] h (fun v h' => v = .bool true ∧ St h0 h' (B + G)) := by
  subst hk
  have hn := ho.len
  dsimp only at hn
  have hm := (rk h B s).len
  rw [List.length_map] at hm
  refine r43_Shaped_call ?_
  rw [r43_Shaped_b0_eq]
  rcases hl with ⟨rfl, rfl⟩ | ⟨N, t, b, A, rfl, hh, rfl, hsz⟩
  · subst hm hn
    exact condYes rfl (condYes rfl ⟨rfl, s⟩)
  · rw [levels_len] at hn
    subst hn
    have hlow := hsz.low hh (by omega)
    have hN := pow_bound (n := N) (m := (flat N t).length) hlow (by omega)
    have h2 : 2 ≤ 2 ^ (N + 1) := by
      rw [Nat.pow_succ]
      have : 1 ≤ 2 ^ N := Nat.one_le_pow _ _ (by decide)
      omega
    refine condNo (decide_eq_false (by omega)) (condNo (decide_eq_false (by omega)) ?_)
    rw [r43_Shaped_b1_eq]
    refine condNo (decide_eq_false (by omega)) ?_
    refine ho.at_ s (d := []) (by omega) (by show (0 : Int) < ((N + 1 : Nat) : Int); omega) fun a3 L1 C1 B1 Br1 hlev hB1 => ?_
    have hL1 := hlev.len
    dsimp only at hL1
    rw [show Int.toNat 0 = 0 from rfl, levels_get (by omega), lv_one] at hL1
    subst hL1
    refine condNo rfl ?_
    rw [r43_Shaped_b2_eq]
    refine ⟨⟨by omega, by omega, by omega, by omega⟩, ?_⟩
    rw [Int.toNat_natCast]
    refine s.new (cs := repL ((N + 1) * 1) [.int .i64 0]) fun b1 h1 _ s1 => ?_
    rw [Nat.mul_one, repL_one] at s1
    have hsl : Sl TI (some ⟨b1, 0, none⟩) (N + 1) (N + 1) (nums (List.replicate (N + 1) 0)) (cA b1 (List.replicate (N + 1) (Value.int .i64 0)) 3) := by
      refine Sl.of_blk (by simp) ?_
      rw [nums_zero, tI_cells, List.map_replicate]
    have hw := hh.wf
    have hz1 := hsz.one (by omega)
    have hLb : ∀ j, ((levels N t).getD j []).length ≤ 100000 := by
      intro j
      rcases Nat.lt_or_ge N j with h | h
      · have : (levels N t).getD j [] = [] := by simp [levels, List.getD, (show ¬ j < N + 1 by omega)]
        rw [this]; simp
      · rw [levels_get h]
        have := row_len (n := N) (ts := [t]) (j := j) (hi := order - 1) h (by simpa using hw) (by simpa using hz1)
        simp [tot] at this
        omega
    have hhere : 1 ≤ t.es.length ∧ t.es.length ≤ order - 1 := by
      cases N with
      | zero => exact hsz
      | succ N => exact hsz.1
    have hnx0 : ∀ j, (List.replicate (N + 1) 0).getD j 0 = 0 := by
      intro j
      simp only [List.getD, List.getElem?_replicate]
      split <;> rfl
    refine (Keys_ok hor h64 (by omega) ho hLb N 0 (t := t) (R := fun _ => []) (by omega) hw (fun _ => hhere.1) (fun h => absurd rfl h) hhere.2 (fun m' hm' u hu => ?_) hmost hsl s1 (fun j hj => ?_) (fun j => by rw [hnx0 j]; omega)).mono fun v1 h2 ⟨r, k, cc, nx', A', D, hv1, hs1, hnx, s2, w1, _, w3, _⟩ => ?_
    · subst hm'; exact hsz.2 u hu
    · unfold Rm
      rw [hnx0, Nat.zero_add, levels_get hj]
      simp
    refine ⟨_, _, _, _, hv1, condNo rfl ?_⟩
    have s3 := s2.to (B := D + (A' + B) + G)
    have hk1 := hs1.len
    rw [List.length_map] at hk1
    refine (SameList_ok (hs1.rd s2) (rk h2 _ s3) (by omega)).mono fun v2 h3 ⟨hh3, hv2⟩ => ?_
    subst hh3
    refine ⟨_, hv2, condNo (by simp) ?_⟩
    rw [r43_Shaped_b3_eq]
    have sB := s2.to (B := B + (A' + (D + G)))
    have hnxl : nx'.length = N + 1 := by have := hnx.len; simpa using this
    refine ⟨fun x h' => h' = h3 ∧ ∃ i : Nat, x.1 = i ∧ i ≤ N + 1, fun x _ => N + 1 - x.1.toNat, ⟨rfl, 0, rfl, by omega⟩, ?_⟩
    rintro ⟨_, _⟩ h4 ⟨rfl, i, rfl, hi⟩
    dsimp only
    rw [r43_Shaped_b4_eq]
    refine condP (fun hlt => ?_) (fun hge => ?_)
    · refine (hnx.rd (s2.at A')).int (by omega) (by omega) ?_
      rw [Int.toNat_natCast, nums_get]
      refine ho.at_ sB (d := []) (by omega) (by show (i : Int) < ((N + 1 : Nat) : Int); omega) fun a5 L2 C2 B2 Br2 hlev2 hB2 => ?_
      rw [Int.toNat_natCast] at hlev2
      have hL2 := hlev2.len
      dsimp only at hL2
      have hrm := w1 i (by omega)
      have hle := w3 i (by rw [hnx0]; omega)
      unfold Rm at hrm
      rw [Nat.zero_add] at hrm
      have hge := congrArg List.length hrm
      rw [List.length_drop] at hge
      simp only [List.length_nil] at hge
      refine condNo ?_ ?_
      · rw [decide_eq_true (by omega)]; rfl
      · rw [r43_Shaped_b5_eq]
        exact ⟨⟨by omega, by omega⟩, ⟨rfl, i + 1, by simp only; omega, by omega⟩, by simp only; omega⟩
    · rw [r43_Shaped_b6_eq]
      exact ⟨rfl, (s2.to (B := (D + A') + (B + G))).drop⟩
end Go.Proofs.YtkdmcdnfakmapaaGreat

/- B-trees: the example of the chapter, and the law Loads. -/
set_option maxRecDepth 100000
namespace Go.Proofs.YtkdmcdnfakmapaaGreat
open Go Go.Sx
theorem Blocks_ok {h0 h : Hp} {order tb : Nat} {xs : List E} {vis : Int} {A G : Bag} (ta : TreeA order xs tb vis A) (s : St h0 h (A + G)) : HCalls Tryz.prog 19 #[ptr tb] h (fun v h' => h' = h ∧ v = .int .i64 vis) := by
  refine btree_Tree_Blocks_call ?_
  rw [btree_Tree_Blocks_b0_eq]
  obtain ⟨root, A1, rfl, _⟩ := ta.vis
  exact condNo rfl ⟨_, (s.at (treeC tb order xs.length root vis)).cellA 3, rfl, rfl⟩
theorem awake_ok (h : Hp) : HCalls Tryz.prog 4 #[] h (fun v h' => v = .bool true ∧ Ext h h') := by
  refine l43_awake_call ?_
  rw [l43_awake_b0_eq]
  refine New_ok.mono fun v1 h1 hv => ?_
  rw [if_neg (by omega)] at hv
  obtain ⟨tb, A, hv1, ta, s1⟩ := hv
  have ta : TreeA 3 [] tb 0 A := ta
  refine ⟨_, _, hv1, condNo rfl (condNo rfl ?_)⟩
  rw [l43_awake_b1_eq]
  refine ⟨fun x h' => ∃ (i : Nat) (A' : Bag) (vis : Int), i ≤ 3 ∧ x.1 = (i : Int) + 1 ∧ (0 ≤ vis ∧ vis ≤ 1000 * i ∧ (0 < i → 0 < vis)) ∧ TreeA 3 (([(1, 10), (2, 20), (3, 30)] : List E).take i) tb vis A' ∧ St h h' A', fun x _ => (4 - x.1).toNat, ⟨0, A, 0, by omega, rfl, ⟨by omega, by omega, by omega⟩, ta, s1⟩, ?_⟩
  rintro ⟨_, _⟩ h2 ⟨i, A', vis, hi, rfl, hvis, ta', s2⟩
  dsimp only
  rw [l43_awake_b2_eq]
  have hsrt : Srt (([(1, 10), (2, 20), (3, 30)] : List E).take i) := List.Pairwise.sublist (List.take_sublist _ _) (by decide)
  have hlen : (([(1, 10), (2, 20), (3, 30)] : List E).take i).length ≤ 3 := by rw [List.length_take]; exact Nat.min_le_right _ _
  refine condP (fun hle => ?_) (fun hgt => ?_)
  · refine ⟨⟨by omega, by omega⟩, ?_⟩
    refine (Put_ok (key := (i : Int) + 1) (value := 10 * ((i : Int) + 1)) (F := 0) (by omega) (by omega) hsrt (by omega) ⟨by omega, by omega⟩ ta' s2.to).mono fun v2 h3 ⟨A2, vis2, hvis2, hv2, ta2, s3⟩ => ?_
    have hp : putS (([(1, 10), (2, 20), (3, 30)] : List E).take i) ((i : Int) + 1) (10 * ((i : Int) + 1)) = (([(1, 10), (2, 20), (3, 30)] : List E).take (i + 1), 0, false, 0) := by
      have : i = 0 ∨ i = 1 ∨ i = 2 := by omega
      rcases this with rfl | rfl | rfl <;> decide
    rw [hp] at hv2 ta2 hvis2
    refine ⟨_, _, _, hv2, condNo rfl (condNo rfl ?_)⟩
    rw [l43_awake_b3_eq]
    have hlt := hvis2.2 rfl
    exact ⟨⟨by omega, by omega⟩, ⟨i + 1, A2, vis2, by omega, by simp only; omega, ⟨by omega, by omega, by omega⟩, ta2, s3.to⟩, by simp only; omega⟩
  · obtain rfl : i = 3 := by omega
    have hvp := hvis.2.2 (by omega)
    have ta3 : TreeA 3 [(1, 10), (2, 20), (3, 30)] tb vis A' := ta'
    rw [l43_awake_b4_eq]
    refine (Get_ok (key := 2) (F := 0) (by omega) (by omega) (by decide) (by decide) ⟨by omega, by omega⟩ ta3 s2.to).mono fun v3 h4 ⟨A4, vis4, hvis4, hv4, ta4, s4⟩ => ?_
    have hg : getS [(1, 10), (2, 20), (3, 30)] 2 = (20, 0) := by decide
    rw [hg] at hv4
    refine ⟨_, _, hv4, (Len_ok ta4 s4).mono fun v5 h5 ⟨hh5, hv5⟩ => ⟨_, hv5, condYes rfl ?_⟩⟩
    subst hh5
    refine (Height_ok (by omega) (by omega) (by decide) ta4 s4).mono fun v6 h6 ⟨ls, hv6, hls, s6⟩ => ⟨_, hv6, ?_⟩
    have hht : ls.length = 2 := by
      rcases hls with ⟨h, _⟩ | ⟨N, t, b, D, rfl, hh, hfl, hsz⟩
      · cases h
      · have h1 := hsz.low hh (by decide)
        rw [hfl] at h1
        have h2 : N ≤ 1 := by
          rcases Nat.lt_or_ge 1 N with h | h
          · have : 2 ^ (2 + 1) ≤ 2 ^ (N + 1) := Nat.pow_le_pow_right (by decide) (by omega)
            simp at h1; omega
          · exact h
        have h3 : N ≠ 0 := by
          rintro rfl
          have h4 : 1 ≤ t.es.length ∧ t.es.length ≤ 2 := hsz
          have h5 : t.es.length = 3 := congrArg List.length hfl
          omega
        rw [levels_len]; omega
    rw [hht]
    refine condYes rfl (condYes rfl (condYes rfl ?_))
    refine (Levels_ok (by omega) (by omega) (by decide) ta4 s6).mono fun v7 h7 ⟨p, n, c, ls7, B7, hv7, ho7, hl7, s7⟩ => ⟨_, _, _, hv7, ?_⟩
    refine s7.new (cs := [.int .i64 1, .int .i64 2, .int .i64 3]) fun b8 h8 _ s8 => ?_
    have hk8 : Sl TI (some ⟨b8, 0, none⟩) 3 3 [1, 2, 3] (cA b8 [.int .i64 1, .int .i64 2, .int .i64 3] 3) := Sl.of_blk (xs := [1, 2, 3]) rfl rfl
    have s8' : St h h8 (B7 + (cA b8 [.int .i64 1, .int .i64 2, .int .i64 3] 3 + A4)) := s8.to
    refine (Shaped_ok (order := 3) (by omega) (by omega) hl7 (by decide) ho7 (RdS.own hk8) rfl s8').mono fun v9 h9 ⟨hv9, s9⟩ => ⟨_, hv9, condYes rfl ?_⟩
    have s10 : St h h9 (A4 + (B7 + cA b8 [.int .i64 1, .int .i64 2, .int .i64 3] 3)) := s9.to
    refine (Blocks_ok ta4 s10).mono fun v11 h11 ⟨hh11, hv11⟩ => ⟨_, hv11, ?_, ?_⟩
    · rw [decide_eq_true (by omega)]
    · subst hh11; exact s10.ext
/-- A scan of all but the greatest key. -/
theorem span_all {l : List E} (hok : OkL l) : (0 < l.length → (l.getD (l.length - 1) (0, 0)).1 = 1048576 → l.filter (inSpan (-1048576) 1048576) = l.take (l.length - 1)) ∧
    (l = [] ∨ (l.getD (l.length - 1) (0, 0)).1 ≠ 1048576 → l.filter (inSpan (-1048576) 1048576) = l) := by
  have key : ∀ x ∈ l, KeyP x.1 := fun x hx => (hok.1 x hx).1
  rcases List.eq_nil_or_concat l with rfl | ⟨l', e, rfl⟩
  · exact ⟨fun h => by simp at h, fun _ => rfl⟩
  · have hs := hok.2
    simp only [List.concat_eq_append] at hs key ⊢
    rw [Srt.app] at hs
    have hl' : ∀ x ∈ l', inSpan (-1048576) 1048576 x = true := by
      intro x hx
      have h1 := key x (by simp [hx])
      have h2 := key e (by simp)
      have h3 := hs.2.2 x hx e (by simp)
      exact decide_eq_true ⟨h1.1, by omega⟩
    have hf : l'.filter (inSpan (-1048576) 1048576) = l' := List.filter_eq_self.2 hl'
    have hg : (l' ++ [e]).getD ((l' ++ [e]).length - 1) (0, 0) = e := by simp [List.getD]
    rw [hg, List.filter_append, hf]
    refine ⟨fun _ h => ?_, fun h => ?_⟩
    · have : inSpan (-1048576) 1048576 e = false := decide_eq_false (by omega)
      simp [this]
    · have h1 := key e (by simp)
      have : inSpan (-1048576) 1048576 e = true := decide_eq_true ⟨h1.1, by rcases h with h | h; simp at h; omega⟩
      simp [this]
end Go.Proofs.YtkdmcdnfakmapaaGreat
