/- B-trees: put. -/
import Derived.Test.YtaemnjblcpknpaaSxB5
set_option maxRecDepth 100000
namespace Go.Proofs.Ytaemnjblcpknpaa
open Go Go.Sx
section
variable {h0 : Hp} {order lo hi n len root tb : Nat} {vis : Int} {target : List E} {N : List Nat} {I : List Int} {B F : Bag}
/-- An entry is to come into the node at the end of a way. -/
def PutS (h0 : Hp) (order lo hi n len root tb : Nat) (vis : Int) (target : List E) (N : List Nat) (I : List Int) (B F : Bag) (e : E) (right : Option Addr) (d : Int) (h : Hp) : Prop :=
  (∃ m fs k eL eR U Ac Au N' I', d = (fs.length : Int) ∧ N = blks fs ++ k :: N' ∧ I = idxs fs ++ (eL.length : Int) :: I' ∧ HoldC root m fs k Ac ∧ Pend m k right eL eR e U Au ∧
    St h0 h (treeC tb order len (some ⟨root, 0, none⟩) vis + (Ac + (Au + (B + F)))) ∧ Lb m fs ++ (flat m U ++ Rb m fs) = target ∧ SzC lo hi m fs ∧ (lo' lo fs ≤ (eL ++ eR).length ∧ (eL ++ eR).length ≤ hi) ∧ (∀ m', m = m' + 1 → ∀ c ∈ U.ts, Sz lo hi m' c) ∧ m + fs.length = n) ∨
  (d = -1 ∧ ∃ r tl tr A1 A2, right = some ⟨r, 0, none⟩ ∧ Hold n root tl A1 ∧ Hold n r tr A2 ∧ St h0 h (treeC tb order len (some ⟨root, 0, none⟩) vis + (A1 + (A2 + (B + F)))) ∧ flat n tl ++ e :: flat n tr = target ∧ Sz lo hi n tl ∧ Sz lo hi n tr)

theorem put_b4_ok {h : Hp} {m k : Nat} {U : BT} {fs : List Fr} {Ac Au : Bag} {N' : List Nat} {I' : List Int} {i : Int} {visits : Int} {nodes atv : Option Addr} {nL nC aL aC : Nat} {nx0 : Int × Int × Int × Option Addr × Int × Unit → Hp → Prop} {K : Value → Hp → Prop}
    (hlo : lo = (order + 1) / 2 - 1) (hhi : hi = order - 1) (h3 : 3 ≤ order) (h64 : order ≤ 64) (hv : 0 ≤ visits ∧ visits ≤ 1000) (hfl : fs.length ≤ 1000)
    (hN : N = blks fs ++ k :: N') (hI : I = idxs fs ++ i :: I') (hc : HoldC root m fs k Ac) (hu : Hold m k U Au) (s : St h0 h (treeC tb order len (some ⟨root, 0, none⟩) vis + (Ac + (Au + (B + F)))))
    (hf : Lb m fs ++ (flat m U ++ Rb m fs) = target) (hlen : target.length = len) (sc : SzC lo hi m fs) (hU : lo' lo fs + 1 ≤ U.es.length ∧ U.es.length ≤ hi + 1) (hk : ∀ m', m = m' + 1 → ∀ c ∈ U.ts, Sz lo hi m' c) (hn : m + fs.length = n)
    (hK : ∀ h' A, TreeA order target tb vis A → St h0 h' (A + F) → K (.tuple #[.int .i64 0, .bool false, .int .i64 visits, .int .i64 0]) h')
    (hnx : ∀ e right h', PutS h0 order lo hi n len root tb vis target N I B F e right ((fs.length : Int) - 1) h' → nx0 (e.1, e.2, visits + 1, right, (fs.length : Int) - 1, ()) h') :
    btree_Tree_put_b4 (some ⟨tb, 0, none⟩) visits nodes nL nC atv aL aC (fs.length : Int) (some ⟨k, 0, none⟩) h nx0 K := by
  rw [btree_Tree_put_b4_eq]
  have hu0 := hu
  obtain ⟨ks, A1, A2, hA, hna, hk0, hkl⟩ := hu.node
  obtain ⟨p1, p2, p3, e1, e2, e3, C1, C2, C3, rfl, ns⟩ := hna
  subst hA
  have kb := (s.at (nodeC k U.es.length ks.length p1 p2 p3 e1 e2 e3)).blk
  refine ⟨_, _, _, kb.cell 0, _, s.cell 0, condP (fun hlt => ?_) (fun hge => ?_)⟩
  · refine hK h _ (.inr ⟨n, root, plug fs U, Ac + (nodeC k U.es.length ks.length p1 p2 p3 e1 e2 e3 + (C1 + (C2 + C3)) + A2), ?_, ?_, ?_, ?_⟩) ((s.to (B := B + (treeC tb order len (some ⟨root, 0, none⟩) vis + (Ac + (nodeC k U.es.length ks.length p1 p2 p3 e1 e2 e3 + (C1 + (C2 + C3)) + A2)) + F))).drop)
    · rw [hlen]
    · rw [← hn]; exact hc.plug hu0
    · rw [← hn, flat_plug U hc.ok]; exact hf
    · rw [← hn, ← hlo, ← hhi]
      exact sc.plug ⟨⟨by omega, by omega⟩, hk⟩
  · have hlo1 : 1 ≤ lo' lo fs := by cases fs with | nil => exact Nat.le_refl _ | cons f fs => show 1 ≤ lo; omega
    have hUe : U.es.length = order := by omega
    have s1 : St h0 h (nodeC k U.es.length ks.length p1 p2 p3 e1 e2 e3 + (C1 + (C2 + C3)) + A2 + (treeC tb order len (some ⟨root, 0, none⟩) vis + (Ac + (B + F)))) := s.to
    refine (hold_split hu0 s1 (by omega) (by omega)).mono fun v h' ⟨r, D1, D2, hv9, g1, g2, s2⟩ => ?_
    refine ⟨_, _, _, hv9, ⟨by omega, by omega⟩, ?_⟩
    rw [btree_Tree_put_b5_eq]
    refine ⟨⟨by omega, by omega⟩, hnx (mid U) _ h' ?_⟩
    have z1 : Sz lo hi m (tl U) := Sz.tl (by omega) (by omega) (by omega) hk
    have z2 : Sz lo hi m (tr U) := Sz.tr (by omega) (by omega) hk
    rw [flat_split hu0 (by omega)] at hf
    cases fs with
    | nil =>
      obtain ⟨rfl, rfl⟩ := hc
      refine .inr ⟨by simp, r, tl U, tr U, D1, D2, rfl, ?_, ?_, s2.to, ?_, ?_, ?_⟩
      · rw [← hn]; exact g1
      · rw [← hn]; exact g2
      · rw [← hn]; simpa [Lb, Rb] using hf
      · rw [← hn]; exact z1
      · rw [← hn]; exact z2
    | cons f fs =>
      obtain ⟨E1, E2, rfl, hF, hc'⟩ := hc
      obtain ⟨l1, l2, G1, G2, G3, rfl, hnf, aL', aR'⟩ := hF
      have q1 := aL'.len
      have q2 := aR'.len
      refine .inl ⟨m + 1, fs, f.b, f.eL, f.eR, .nd (f.eL ++ mid U :: f.eR) (f.tL ++ tl U :: tr U :: f.tR), E2, G1 + (G2 + (D1 + (D2 + G3))), k :: N', i :: I', by simp, ?_, ?_, hc', ?_, ?_, ?_, sc.2.2.2, ?_, ?_, ?_⟩
      · rw [hN]; simp [blks]
      · rw [hI]; simp [idxs]
      · refine ⟨rfl, .inr ⟨m, r, f.kL ++ [k], f.kR, G1, G2 + (D1 + (D2 + G3)), rfl, rfl, rfl, by simpa using hnf, by simp; omega, by omega, ?_⟩⟩
        show AllH (Hold m) (f.kL ++ [k] ++ r :: f.kR) (f.tL ++ tl U :: tr U :: f.tR) _
        rw [List.append_assoc]
        exact aL'.append ⟨D1, D2 + G3, rfl, g1, D2, G3, rfl, g2, aR'⟩
      · exact s2.to
      · show _ ++ (weave ((f.tL ++ tl U :: tr U :: f.tR).map (flat m)) (f.eL ++ mid U :: f.eR) ++ _) = target
        rw [List.map_append, List.map_cons, weave_at _ _ _ _ _ (by simpa using l1), ← hf]
        simp [Lb, Rb, before, behind, wR]
      · have := sc.1
        cases fs <;> exact this
      · intro m' hm' c hc1
        obtain rfl : m = m' := by omega
        simp only [BT.ts, List.mem_append, List.mem_cons] at hc1
        rcases hc1 with h5 | rfl | rfl | h5
        · exact sc.2.1 c h5
        · exact z1
        · exact z2
        · exact sc.2.2.1 c h5
      · simp only [List.length_cons] at hn; omega
theorem blks_get (fs : List Fr) (k : Nat) (N' : List Nat) : (blks fs ++ k :: N').getD fs.length 0 = k := by simp [List.getD, blks]
theorem idxs_get (fs : List Fr) (i : Int) (I' : List Int) : (idxs fs ++ i :: I').getD fs.length 0 = i := by simp [List.getD, idxs]
end
end Go.Proofs.Ytaemnjblcpknpaa
namespace Go.Proofs.Ytaemnjblcpknpaa
open Go Go.Sx
/-- What put leaves, and what it returns. -/
def PutR (order : Nat) (xs : List E) (tb : Nat) (vis : Int) (key value : Int) (F : Bag) (h0 : Hp) (v : Value) (h' : Hp) : Prop :=
  ∃ A' X Y, xs = X ++ Y ∧ (∀ x ∈ X, x.1 < key) ∧ (∀ y ∈ Y, key ≤ y.1) ∧ St h0 h' (A' + F) ∧
    ((∃ old Y' w, Y = (key, old) :: Y' ∧ (1 ≤ w ∧ w ≤ 1000) ∧ v = .tuple #[.int .i64 old, .bool true, .int .i64 w, .int .i64 0] ∧ TreeA order (X ++ (key, value) :: Y') tb vis A') ∨
      (hasKey Y key = false ∧ 2000 ≤ xs.length ∧ v = .tuple #[.int .i64 0, .bool false, .int .i64 0, .int .i64 4] ∧ TreeA order xs tb vis A') ∨
      (hasKey Y key = false ∧ xs.length < 2000 ∧ ∃ w, (1 ≤ w ∧ w ≤ 1000) ∧ v = .tuple #[.int .i64 0, .bool false, .int .i64 w, .int .i64 0] ∧ TreeA order (X ++ (key, value) :: Y) tb vis A'))
theorem path_nil {h : Hp} {ta : Addr} {key : Int} (ht : cell h (ta.add 2) = some (.pointer none)) :
    HCalls Try.prog 41 #[.pointer (some ta), .int .i64 key] h (fun v h' => h' = h ∧ v = .tuple #[.slice none 0 0, .slice none 0 0, .bool false]) := by
  refine btree_Tree_path_call ?_
  rw [btree_Tree_path_b0_eq]
  refine ⟨_, ht, fun st h' => h' = h ∧ st = ((none, 0, 0), (none, 0, 0), none, ()), fun _ _ => 0, ⟨rfl, rfl⟩, ?_⟩
  rintro _ h1 ⟨rfl, rfl⟩
  rw [btree_Tree_path_b1_eq]
  refine condNo rfl ?_
  rw [btree_Tree_path_b3_eq]
  exact ⟨rfl, rfl⟩
theorem hasKey_app {key : Int} {a b : List E} (hb : ∀ x ∈ b, key < x.1) : hasKey (a ++ b) key = hasKey a key := by
  cases a with
  | cons e a => rfl
  | nil =>
    cases b with
    | nil => rfl
    | cons e b =>
      have := hb e (by simp)
      show decide (e.1 = key) = false
      exact decide_eq_false (by omega)
/-- An entry of a node among all entries of its subtree. -/
theorem node_cut {n b : Nat} {u : BT} {A : Bag} {eL eR : List E} {e : E} (hh : Hold n b u A) (he : u.es = eL ++ e :: eR) : ∃ WL WR, ∀ e', flat n (.nd (eL ++ e' :: eR) u.ts) = WL ++ e' :: WR := by
  cases n with
  | zero => exact ⟨eL, eR, fun e' => rfl⟩
  | succ n =>
    have hl := hh.len
    rw [he] at hl
    simp only [List.length_append, List.length_cons] at hl
    refine ⟨weave ((u.ts.take (eL.length + 1)).map (flat n)) eL, weave ((u.ts.drop (eL.length + 1)).map (flat n)) eR, fun e' => ?_⟩
    show weave (u.ts.map (flat n)) (eL ++ e' :: eR) = _
    rw [← weave_cut]
    · rw [← List.map_append, List.take_append_drop]
    · rw [List.length_map, List.length_take]; omega
    · rw [List.length_map, List.length_drop]; omega
theorem bt_eta (u : BT) : u = .nd u.es u.ts := by cases u; rfl
theorem map_set_snd (eL : List E) (key old value : Int) (eR : List E) : ((eL ++ (key, old) :: eR).map Prod.snd).set eL.length value = (eL ++ (key, value) :: eR).map Prod.snd := by
  rw [List.map_append, List.map_append, List.set_append_right _ _ (by simp)]
  simp
/-- A value is replaced in a node. -/
theorem Hold.setVal {h0 h : Hp} {n b : Nat} {u : BT} {A F : Bag} {eL eR : List E} {key old value : Int} {Q : Int → Hp → Prop} (hh : Hold n b u A) (he : u.es = eL ++ (key, old) :: eR) (s : St h0 h (A + F))
    (hk : ∀ h' A', Hold n b (.nd (eL ++ (key, value) :: eR) u.ts) A' → St h0 h' (A' + F) → Q old h') :
    NN (some (⟨b, 0, none⟩ : Addr)) fun a3 => ∃ (a4 : Option Addr) (L1 C1 : Nat), cell h (a3.add 1) = some (.slice a4 L1 C1) ∧ NN (some (⟨b, 0, none⟩ : Addr)) fun a5 => ∃ (a6 : Option Addr) (L2 C2 : Nat), cell h (a5.add 1) = some (.slice a6 L2 C2) ∧
      (0 ≤ (eL.length : Int) ∧ (eL.length : Int) < (L2 : Int)) ∧ NN a6 fun a7 => ∃ n2 : Int, cell h (a7.add (Int.toNat (eL.length : Int) * 1)) = some (.int .i64 n2) ∧ (0 ≤ (eL.length : Int) ∧ (eL.length : Int) < (L1 : Int)) ∧ NN a4 fun a8 => Wr h (a8.add (Int.toNat (eL.length : Int) * 1)) (.int .i64 value) fun h2 => Q n2 h2 := by
  obtain ⟨ks, A1, A2, rfl, hna, hrest⟩ : ∃ ks A1 A2, A = A1 + A2 ∧ NodeA b u.es ks A1 ∧ ∀ es B, es.length = u.es.length → NodeA b es ks B → Hold n b (.nd es u.ts) (B + A2) := by
    cases n with
    | zero => exact ⟨[], A, 0, (Bag.add_zero A).symm, hh.2, fun es B _ hB => ⟨hh.1, by rw [Bag.add_zero]; exact hB⟩⟩
    | succ n =>
      obtain ⟨ks, A1, A2, e, h1, hl, h2⟩ := hh
      exact ⟨ks, A1, A2, e, h1, fun es B hes hB => ⟨ks, B, A2, rfl, hB, by rw [hl]; show _ = es.length + 1; rw [hes], h2⟩⟩
  obtain ⟨p1, p2, p3, c1, c2, c3, C1, C2, C3, rfl, ns⟩ := hna
  have kb := (s.at (nodeC b u.es.length ks.length p1 p2 p3 c1 c2 c3)).blk
  have hlt : eL.length < u.es.length := by rw [he]; simp
  have s2 : St h0 h (C2 + (nodeC b u.es.length ks.length p1 p2 p3 c1 c2 c3 + (C1 + (C3 + (A2 + F))))) := s.to
  have hg : (u.es.map Prod.snd).getD eL.length 0 = old := by rw [he]; simp [List.getD]
  refine ⟨_, _, _, Blk.cellA kb 1, _, _, _, Blk.cellA kb 1, (ns.s2.rd s2).int (by omega) (by omega) ?_⟩
  rw [Int.toNat_natCast, hg]
  refine ns.s2.wrI s2 (x := value) (by omega) (by omega) rfl rfl fun h2 C2' o2 s3 => ?_
  rw [Int.toNat_natCast, he, map_set_snd, ← he] at o2
  have hel : (eL ++ (key, value) :: eR).length = u.es.length := by rw [he]; simp
  have hef : (eL ++ (key, value) :: eR).map Prod.fst = u.es.map Prod.fst := by rw [he]; simp
  refine hk h2 _ (hrest _ (nodeC b u.es.length ks.length p1 p2 p3 c1 c2 c3 + (C1 + (C2' + C3))) hel ⟨p1, p2, p3, c1, c2, c3, C1, C2', C3, by rw [hel], ⟨by rw [hel, hef]; exact ns.s1, by rw [hel]; exact o2, ns.s3⟩⟩) s3.to
/-- The place of a key in all entries, from its place in a node. -/
theorem Way.cut {key : Int} {lo hi root n m k : Nat} {t u : BT} {A Ac Au : Bag} {fs : List Fr} {eL eR : List E} (w : Way key lo hi root n t A m fs k u Ac Au) (he : u.es = eL ++ eR) (hl : ∀ e ∈ eL, e.1 < key) (hr : ∀ e ∈ eR, key ≤ e.1) (hm : m = 0) :
    flat n t = (Lb m fs ++ eL) ++ (eR ++ Rb m fs) ∧ (∀ x ∈ Lb m fs ++ eL, x.1 < key) ∧ (∀ y ∈ eR ++ Rb m fs, key ≤ y.1) := by
  subst hm
  refine ⟨?_, ?_, ?_⟩
  · rw [← w.plug, ← w.hgt, flat_plug u w.ctx.ok]
    show _ ++ (u.es ++ _) = _
    rw [he]; simp
  · intro x hx
    rcases List.mem_append.1 hx with h | h
    · exact w.lt x h
    · exact hl x h
  · intro x hx
    rcases List.mem_append.1 hx with h | h
    · exact hr x h
    · exact Int.le_of_lt (w.gt x h)
theorem put_ok {h0 h : Hp} {order tb : Nat} {xs : List E} {vis key value : Int} {A F : Bag} (hor : 3 ≤ order) (h64 : order ≤ 64) (so : Srt xs) (hmost : xs.length ≤ 2000) (ta : TreeA order xs tb vis A) (s : St h0 h (A + F)) :
    HCalls Try.prog 34 #[ptr tb, .int .i64 key, .int .i64 value] h (PutR order xs tb vis key value F h0) := by
  refine btree_Tree_put_call ?_
  rw [btree_Tree_put_b0_eq]
  rcases ta with ⟨rfl, rfl⟩ | ⟨n, root, t, A1, rfl, hh, hfl, hsz⟩
  · -- no entries
    refine (path_nil (s.cellA 2)).mono fun v1 h1 ⟨hh, hv⟩ => ?_
    subst hh
    refine ⟨_, _, _, _, _, _, _, hv, condNo rfl ⟨_, s.cellA 1, condNo rfl ⟨_, s.cellA 1, ⟨by omega, by omega⟩, ?_⟩⟩⟩
    refine s.wr (o := 1) (add_mk _ _ _) (by simp) fun h3 s3 => condYes rfl ?_
    refine s3.new (cs := [.int .i64 key]) fun b1 h4 _ s4 => ?_
    refine s4.new (cs := [.int .i64 value]) fun b2 h5 _ s5 => ?_
    refine s5.new (cs := [.slice (some ⟨b1, 0, none⟩) 1 1, .slice (some ⟨b2, 0, none⟩) 1 1, .slice none 0 0]) fun b3 h6 _ s6 => ?_
    have s6 : St h0 h6 (nodeC b3 1 0 (some ⟨b1, 0, none⟩) (some ⟨b2, 0, none⟩) none 1 1 0 + (cA b2 [.int .i64 value] (TI).e + (cA b1 [.int .i64 key] (TI).e + (treeC tb order 1 none vis + F)))) := s6
    have s7 := s6.to (B := treeC tb order 1 none vis + (nodeC b3 1 0 (some ⟨b1, 0, none⟩) (some ⟨b2, 0, none⟩) none 1 1 0 + (cA b1 [.int .i64 key] (TI).e + (cA b2 [.int .i64 value] (TI).e + F))))
    refine s7.wr (o := 2) (add_mk _ _ _) (by simp) fun h7 s8 => ?_
    have s8 : St h0 h7 (treeC tb order 1 (some ⟨b3, 0, none⟩) vis + (nodeC b3 1 0 (some ⟨b1, 0, none⟩) (some ⟨b2, 0, none⟩) none 1 1 0 + (cA b1 [.int .i64 key] (TI).e + (cA b2 [.int .i64 value] (TI).e + F)))) := s8
    refine ⟨_, [], [], rfl, (fun _ h => nomatch h), (fun _ h => nomatch h), s8.to (B := treeC tb order 1 (some ⟨b3, 0, none⟩) vis + (nodeC b3 1 0 (some ⟨b1, 0, none⟩) (some ⟨b2, 0, none⟩) none 1 1 0 + (cA b1 [.int .i64 key] (TI).e + (cA b2 [.int .i64 value] (TI).e + 0))) + F), .inr (.inr ⟨rfl, by simp, 1, ⟨by omega, by omega⟩, rfl, ?_⟩)⟩
    refine .inr ⟨0, b3, .nd [(key, value)] [], _, rfl, ⟨rfl, _, _, _, _, _, _, _, _, _, rfl, ⟨Sl.one rfl, Sl.one rfl, Sl.nil⟩⟩, rfl, ?_⟩
    show 1 ≤ 1 ∧ 1 ≤ order - 1
    omega
  · have hxl : 2 ^ (n + 1) ≤ xs.length + 1 := by rw [← hfl]; exact hsz.low hh (by omega)
    have hn := pow_bound hxl (by omega)
    have s1 : St h0 h (treeC tb order xs.length (some ⟨root, 0, none⟩) vis + (A1 + F)) := s.to
    have so' : Srt (flat n t) := by rw [hfl]; exact so
    refine (path_ok (key := key) (s1.cellA 2) hh (s1.at A1) so' hsz (by omega) (by omega)).mono fun v1 h1 ⟨m, fs, k, u, Ac, Au, eL, eR, q1, q2, d1, d2, B1, B2, hv, sB, o1, o2, w, he, hl, hr, hend⟩ => ?_
    refine ⟨_, _, _, _, _, _, _, hv, ?_⟩
    have hfs := w.hgt
    have s2 : St h0 h1 (B1 + (B2 + (treeC tb order xs.length (some ⟨root, 0, none⟩) vis + (Ac + (Au + F))))) := by have := s1.join sB; rw [w.bag] at this; exact this.to
    have rN := o1.rd s2
    have rI := o2.rd (s2.at B2)
    have gN : (blks fs ++ [k]).getD fs.length 0 = k := blks_get fs k []
    have gI : (idxs fs ++ [(eL.length : Int)]).getD fs.length 0 = (eL.length : Int) := idxs_get fs _ []
    refine cond_intro (fun hf => ?_) (fun hf => ?_)
    · obtain ⟨old, eR', rfl⟩ : ∃ old eR', eR = (key, old) :: eR' := by
        cases eR with
        | nil => cases hf
        | cons e eR' =>
          have : e.1 = key := of_decide_eq_true hf
          exact ⟨e.2, eR', by rw [← this]⟩
      obtain ⟨WL, WR, hW⟩ := node_cut w.sub he
      have hfu : flat m u = WL ++ (key, old) :: WR := by rw [bt_eta u, he]; exact hW _
      have hsrt := w.srt
      rw [hfu, Srt.app, Srt.con] at hsrt
      have el : ((fs.length + 1 : Nat) : Int) - 1 = (fs.length : Int) := by omega
      refine ⟨⟨by omega, by omega⟩, rN.ptr (by omega) (by omega) ?_⟩
      rw [el, Int.toNat_natCast, gN]
      refine ⟨⟨by omega, by omega⟩, rI.int (by omega) (by omega) ?_⟩
      rw [Int.toNat_natCast, gI]
      refine Hold.setVal w.sub he (s2.to (B := Au + (B1 + (B2 + (treeC tb order xs.length (some ⟨root, 0, none⟩) vis + (Ac + F)))))) fun h2 Au' hu' s3 => ?_
      have hpl : flat n t = Lb m fs ++ ((WL ++ (key, old) :: WR) ++ Rb m fs) := by rw [← w.plug, ← w.hgt, flat_plug u w.ctx.ok, hfu]
      have hpl2 : flat n (plug fs (.nd (eL ++ (key, value) :: eR') u.ts)) = (Lb m fs ++ WL) ++ (key, value) :: (WR ++ Rb m fs) := by rw [← w.hgt, flat_plug _ w.ctx.ok, hW]; simp
      refine ⟨treeC tb order xs.length (some ⟨root, 0, none⟩) vis + (Ac + Au'), Lb m fs ++ WL, (key, old) :: (WR ++ Rb m fs), ?_, ?_, ?_, ?_, .inl ⟨old, WR ++ Rb m fs, _, rfl, ⟨?_, ?_⟩, rfl, .inr ⟨n, root, plug fs (.nd (eL ++ (key, value) :: eR') u.ts), Ac + Au', ?_, ?_, hpl2, ?_⟩⟩⟩
      · rw [← hfl, hpl]; simp
      · intro x hx
        rcases List.mem_append.1 hx with h | h
        · exact w.lt x h
        · exact hsrt.2.2 x h (key, old) (by simp)
      · intro x hx
        rcases List.mem_cons.1 hx with rfl | hx
        · exact Int.le_refl _
        · rcases List.mem_append.1 hx with h | h
          · exact Int.le_of_lt (hsrt.2.1.1 x h)
          · exact Int.le_of_lt (w.gt x h)
      · exact (s3.to (B := B1 + B2 + (treeC tb order xs.length (some ⟨root, 0, none⟩) vis + (Ac + Au') + F))).drop
      · omega
      · omega
      · congr 2
        rw [← hfl, hpl]; simp
      · rw [← w.hgt]; exact w.ctx.plug hu'
      · rw [← w.hgt]
        refine w.szc.plug ⟨?_, w.szb.2⟩
        have := w.szb.1
        rw [he] at this
        show _ ≤ (eL ++ (key, value) :: eR').length ∧ (eL ++ (key, value) :: eR').length ≤ _
        simpa using this
    · have hm0 : m = 0 := by rcases hend with h | h; rw [hf] at h; cases h; exact h
      obtain ⟨hcut, hX, hY⟩ := w.cut he hl hr hm0
      have hkey : hasKey (eR ++ Rb m fs) key = false := by rw [hasKey_app w.gt]; exact hf
      have hcut' : xs = (Lb m fs ++ eL) ++ (eR ++ Rb m fs) := by rw [← hfl]; exact hcut
      refine ⟨_, (s2.at (treeC tb order xs.length (some ⟨root, 0, none⟩) vis)).cellA 1, condP (fun h5 => ?_) (fun h5 => ?_)⟩
      · refine ⟨treeC tb order xs.length (some ⟨root, 0, none⟩) vis + A1, _, _, hcut', hX, hY, ?_, .inr (.inl ⟨hkey, by omega, rfl, .inr ⟨n, root, t, A1, rfl, hh, hfl, hsz⟩⟩)⟩
        rw [w.bag]
        exact (s2.to (B := B1 + B2 + (treeC tb order xs.length (some ⟨root, 0, none⟩) vis + (Ac + Au) + F))).drop
      refine ⟨_, (s2.at (treeC tb order xs.length (some ⟨root, 0, none⟩) vis)).cellA 1, ⟨by omega, by omega⟩, ?_⟩
      have s3 := s2.to (B := treeC tb order xs.length (some ⟨root, 0, none⟩) vis + (Ac + (Au + ((B1 + B2) + F))))
      refine s3.wr (o := 1) (add_mk _ _ _) (by simp) fun h3 s4 => ?_
      have s4 : St h0 h3 (treeC tb order (xs.length + 1) (some ⟨root, 0, none⟩) vis + (Ac + (Au + ((B1 + B2) + F)))) := s4
      refine condNo (decide_eq_false (by omega)) ⟨⟨by omega, by omega⟩, ?_⟩
      have hes : (eL ++ eR).length ≤ order - 1 := by rw [← he]; exact w.szb.1.2
      refine ⟨fun st h' => PutS h0 order ((order + 1) / 2 - 1) (order - 1) n (xs.length + 1) root tb vis (Lb m fs ++ eL ++ (key, value) :: (eR ++ Rb m fs)) (blks fs ++ [k]) (idxs fs ++ [(eL.length : Int)]) (B1 + B2) F (st.1, st.2.1) st.2.2.2.1 st.2.2.2.2.1 h' ∧ st.2.2.1 + st.2.2.2.2.1 = 2 * (fs.length : Int) + 1 ∧ -1 ≤ st.2.2.2.2.1 ∧ st.2.2.2.2.1 ≤ fs.length, fun st _ => (st.2.2.2.2.1 + 1).toNat, ?_, ?_⟩
      · refine ⟨.inl ⟨m, fs, k, eL, eR, .nd (eL ++ (key, value) :: eR) [], Ac, Au, [], [], ?_, rfl, rfl, w.ctx, ⟨rfl, .inl ⟨rfl, hm0, rfl, ?_⟩⟩, s4, ?_, w.szc, ?_, fun m' hm' => by omega, w.hgt⟩, ?_, ?_, ?_⟩
        · show ((fs.length + 1 : Nat) : Int) - 1 = _; omega
        · have := w.sub
          rw [hm0] at this
          rw [← he]; exact this.2
        · rw [hm0]; show _ ++ ((eL ++ (key, value) :: eR) ++ _) = _; simp
        · rw [← he]; exact w.szb.1
        · show ((fs.length + 1 : Nat) : Int) + (((fs.length + 1 : Nat) : Int) - 1) = _; omega
        · show -1 ≤ ((fs.length + 1 : Nat) : Int) - 1; omega
        · show ((fs.length + 1 : Nat) : Int) - 1 ≤ _; omega
      rintro ⟨key', value', visits, right, d, _⟩ h6 ⟨ps, hvd, hd1, hd2⟩
      simp only at ps hvd hd1 hd2
      dsimp only
      rcases ps with ⟨m6, fs6, k6, eL6, eR6, U6, Ac6, Au6, N6, I6, rfl, hN6, hI6, hc6, hp6, s6, hf6, sc6, hes6, hk6, hh6⟩ | ⟨rfl, r, t1, t2, E1, E2, rfl, g1, g2, s6, hf6, z1, z2⟩
      · have rN6 := o1.rd (s6.at B1)
        have rI6 := o2.rd (s6.at B2)
        refine put_b1_ok rN6 rI6 (by omega) (by omega) (by rw [hN6]; exact blks_get _ _ _) (by rw [hI6]; exact idxs_get _ _ _) (by omega) hp6 (s6.to (B := Au6 + (treeC tb order (xs.length + 1) (some ⟨root, 0, none⟩) vis + (Ac6 + ((B1 + B2) + F))))) fun h7 Au7 hu7 s7 => ?_
        have hel : U6.es.length = (eL6 ++ eR6).length + 1 := by rw [hp6.1]; simp; omega
        refine put_b4_ok (B := B1 + B2) (F := F) (len := xs.length + 1) (vis := vis) rfl rfl hor h64 ⟨by omega, by omega⟩ (by omega) hN6 hI6 hc6 hu7 (s7.to (B := treeC tb order (xs.length + 1) (some ⟨root, 0, none⟩) vis + (Ac6 + (Au7 + ((B1 + B2) + F))))) hf6 (by rw [hcut']; simp; omega) sc6 ⟨by omega, by omega⟩ hk6 hh6 ?_ ?_
        · intro h' A' hA' s'
          exact ⟨A', _, _, hcut', hX, hY, s', .inr (.inr ⟨hkey, by omega, visits, ⟨by omega, by omega⟩, rfl, hA'⟩)⟩
        · intro e right' h' hps
          refine ⟨⟨hps, ?_, ?_, ?_⟩, ?_⟩ <;> simp only <;> omega
      · rw [btree_Tree_put_b1_eq]
        refine condNo (by decide) ?_
        rw [btree_Tree_put_b3_eq]
        refine s6.new (cs := [.int .i64 key']) fun b10 h29 _ s7 => ?_
        refine s7.new (cs := [.int .i64 value']) fun b11 h30 _ s8 => ?_
        refine ⟨_, (s8.at (treeC tb order (xs.length + 1) (some ⟨root, 0, none⟩) vis)).cellA 2, ?_⟩
        refine s8.new (cs := [.pointer (some ⟨root, 0, none⟩), .pointer (some ⟨r, 0, none⟩)]) fun b12 h31 _ s9 => ?_
        refine s9.new (cs := [.slice (some ⟨b10, 0, none⟩) 1 1, .slice (some ⟨b11, 0, none⟩) 1 1, .slice (some ⟨b12, 0, none⟩) 2 2]) fun b13 h32 _ s10 => ?_
        have s10 : St h0 h32 (nodeC b13 1 2 (some ⟨b10, 0, none⟩) (some ⟨b11, 0, none⟩) (some ⟨b12, 0, none⟩) 1 1 2 + (cA b12 [.pointer (some ⟨root, 0, none⟩), .pointer (some ⟨r, 0, none⟩)] (TP).e + (cA b11 [.int .i64 value'] (TI).e + (cA b10 [.int .i64 key'] (TI).e + (treeC tb order (xs.length + 1) (some ⟨root, 0, none⟩) vis + (E1 + (E2 + (B1 + B2 + F)))))))) := s10
        have s11 := s10.to (B := treeC tb order (xs.length + 1) (some ⟨root, 0, none⟩) vis + ((B1 + B2) + (nodeC b13 1 2 (some ⟨b10, 0, none⟩) (some ⟨b11, 0, none⟩) (some ⟨b12, 0, none⟩) 1 1 2 + (cA b10 [.int .i64 key'] (TI).e + (cA b11 [.int .i64 value'] (TI).e + cA b12 [.pointer (some ⟨root, 0, none⟩), .pointer (some ⟨r, 0, none⟩)] (TP).e)) + (E1 + E2)) + F))
        refine s11.wr (o := 2) (add_mk _ _ _) (by simp) fun h33 s12 => ?_
        have s12 : St h0 h33 (treeC tb order (xs.length + 1) (some ⟨b13, 0, none⟩) vis + ((B1 + B2) + (nodeC b13 1 2 (some ⟨b10, 0, none⟩) (some ⟨b11, 0, none⟩) (some ⟨b12, 0, none⟩) 1 1 2 + (cA b10 [.int .i64 key'] (TI).e + (cA b11 [.int .i64 value'] (TI).e + cA b12 [.pointer (some ⟨root, 0, none⟩), .pointer (some ⟨r, 0, none⟩)] (TP).e)) + (E1 + E2)) + F)) := s12
        have hvd' : visits = 2 * (fs.length : Int) + 2 := by omega
        have hlen2 : (Lb m fs ++ eL ++ (key, value) :: (eR ++ Rb m fs)).length = xs.length + 1 := by rw [hcut']; simp; omega
        refine ⟨⟨by omega, by omega⟩, _, _, _, hcut', hX, hY, (s12.to (B := (B1 + B2) + (treeC tb order (xs.length + 1) (some ⟨b13, 0, none⟩) vis + (nodeC b13 1 2 (some ⟨b10, 0, none⟩) (some ⟨b11, 0, none⟩) (some ⟨b12, 0, none⟩) 1 1 2 + (cA b10 [.int .i64 key'] (TI).e + (cA b11 [.int .i64 value'] (TI).e + cA b12 [.pointer (some ⟨root, 0, none⟩), .pointer (some ⟨r, 0, none⟩)] (TP).e)) + (E1 + E2)) + F))).drop, .inr (.inr ⟨hkey, by omega, visits + 1, ⟨by omega, by omega⟩, rfl, ?_⟩)⟩
        have hH : Hold (n + 1) b13 (.nd [(key', value')] [t1, t2]) (nodeC b13 1 2 (some ⟨b10, 0, none⟩) (some ⟨b11, 0, none⟩) (some ⟨b12, 0, none⟩) 1 1 2 + (cA b10 [.int .i64 key'] (TI).e + (cA b11 [.int .i64 value'] (TI).e + cA b12 [.pointer (some ⟨root, 0, none⟩), .pointer (some ⟨r, 0, none⟩)] (TP).e)) + (E1 + E2)) :=
          ⟨[root, r], _, E1 + E2, rfl, ⟨_, _, _, _, _, _, _, _, _, rfl, ⟨Sl.one rfl, Sl.one rfl, Sl.of_blk rfl rfl⟩⟩, rfl, ⟨E1, E2, rfl, g1, E2, 0, (Bag.add_zero _).symm, g2, rfl⟩⟩
        refine .inr ⟨n + 1, b13, .nd [(key', value')] [t1, t2], _, by rw [hlen2], hH, ?_, ?_⟩
        · rw [← hf6]; simp [flat, weave, wR, BT.es, BT.ts]
        · refine ⟨?_, ?_⟩
          · show 1 ≤ 1 ∧ 1 ≤ order - 1
            omega
          · intro c hc
            simp only [BT.ts, List.mem_cons, List.not_mem_nil, or_false] at hc
            rcases hc with rfl | rfl
            · exact z1
            · exact z2
end Go.Proofs.Ytaemnjblcpknpaa
