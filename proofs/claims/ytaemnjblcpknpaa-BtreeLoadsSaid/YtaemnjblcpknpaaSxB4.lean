/- B-trees: an entry is put into a node. -/
import Derived.Test.YtaemnjblcpknpaaSxB3
set_option maxRecDepth 100000
namespace Go.Proofs.Ytaemnjblcpknpaa
open Go Go.Sx
/-- A node into which an entry is to come, with a child behind it. -/
def Pend (m k : Nat) (right : Option Addr) (eL eR : List E) (e : E) (U : BT) (Au : Bag) : Prop :=
  U.es = eL ++ e :: eR ∧ ((right = none ∧ m = 0 ∧ U.ts = [] ∧ NodeA k (eL ++ eR) [] Au) ∨
    ∃ m' r kL kR A1 A2, m = m' + 1 ∧ right = some ⟨r, 0, none⟩ ∧ Au = A1 + A2 ∧ NodeA k (eL ++ eR) (kL ++ kR) A1 ∧ kL.length = eL.length + 1 ∧ kR.length = eR.length ∧ AllH (Hold m') (kL ++ r :: kR) U.ts A2)
/-- The two writes into a node. -/
theorem wr2 {h0 h : Hp} {k n n' m : Nat} {p1 p2 p3 q1 q2 : Option Addr} {c1 c2 c3 d1 d2 : Nat} {F : Bag} {Q : Hp → Prop} (s : St h0 h (nodeC k n m p1 p2 p3 c1 c2 c3 + F))
    (hq : ∀ h', St h0 h' (nodeC k n' m q1 q2 p3 d1 d2 c3 + F) → Q h') :
    NN (some (⟨k, 0, none⟩ : Addr)) fun a => Wr h a (.slice q1 n' d1) fun h1 => NN (some (⟨k, 0, none⟩ : Addr)) fun a => Wr h1 (a.add 1) (.slice q2 n' d2) Q := by
  refine s.wr rfl (by simp) fun h3 s3 => ?_
  exact s3.wr (o := 1) (add_mk _ _ _) (by simp) fun h4 s4 => hq h4 s4
theorem put_b2_ok {h0 h : Hp} {k m i : Nat} {right : Option Addr} {eL eR : List E} {e : E} {U : BT} {A1 A2 F : Bag} {t : Option Addr} {visits d : Int} {nodes atv : Option Addr} {nL nC aL aC : Nat} {nx0 : Int × Int × Int × Option Addr × Int × Unit → Hp → Prop} {K : Value → Hp → Prop}
    (hU : U.es = eL ++ e :: eR) (hi : eL.length = i) (hsz : (eL ++ eR).length ≤ 1000)
    (hx : (right = none ∧ m = 0 ∧ U.ts = [] ∧ A2 = 0 ∧ NodeA k U.es [] A1) ∨ ∃ m' r kL kR, m = m' + 1 ∧ right = some ⟨r, 0, none⟩ ∧ NodeA k U.es (kL ++ kR) A1 ∧ kL.length = eL.length + 1 ∧ kR.length = eR.length ∧ AllH (Hold m') (kL ++ r :: kR) U.ts A2)
    (s : St h0 h (A1 + (A2 + F)))
    (hk : ∀ h' Au, Hold m k U Au → St h0 h' (Au + F) → btree_Tree_put_b4 t visits nodes nL nC atv aL aC d (some ⟨k, 0, none⟩) h' nx0 K) :
    btree_Tree_put_b2 t visits nodes nL nC atv aL aC right d (some ⟨k, 0, none⟩) (i : Int) h nx0 K := by
  rw [btree_Tree_put_b2_eq]
  rcases hx with ⟨rfl, rfl, ht, rfl, hn⟩ | ⟨m', r, kL, kR, rfl, rfl, hn, l1, l2, ha⟩
  · exact condNo rfl (hk h A1 ⟨ht, hn⟩ s.to)
  · refine condYes rfl ?_
    obtain ⟨p1, p2, p3, c1, c2, c3, C1, C2, C3, rfl, ns⟩ := hn
    rw [List.length_append] at hsz
    have hcap := ns.s3.cap
    refine ⟨_, _, _, (s.at (nodeC k U.es.length (kL ++ kR).length p1 p2 p3 c1 c2 c3)).cellA 2, ⟨by omega, by omega⟩, ?_⟩
    refine s.new (cs := [.pointer (some ⟨r, 0, none⟩)]) fun b9 h26 _ s1 => ?_
    have s2 : St h0 h26 (C3 + (cA b9 [.pointer (some ⟨r, 0, none⟩)] (TP).e + (nodeC k U.es.length (kL ++ kR).length p1 p2 p3 c1 c2 c3 + (C1 + (C2 + (A2 + F)))))) := s1.to
    have ei : ((i : Int) + 1) = ((i + 1 : Nat) : Int) := by omega
    rw [ei]
    refine (insertP_st (x := r) s2 ns.s3 rfl (by rw [List.length_append]; omega) (by rw [List.length_append]; omega)).mono fun v8 h27 ⟨p', c', C3', hv, o3, s3⟩ => ?_
    refine ⟨_, _, _, hv, ?_⟩
    have e3 : (kL ++ kR).take (i + 1) ++ r :: (kL ++ kR).drop (i + 1) = kL ++ r :: kR := by
      rw [List.take_left' (by omega), List.drop_left' (by omega)]
    rw [e3] at o3
    have s3 := (s3.to (B := cA b9 [.pointer (some ⟨r, 0, none⟩)] (TP).e + (nodeC k U.es.length (kL ++ kR).length p1 p2 p3 c1 c2 c3 + (C1 + (C2 + (C3' + (A2 + F))))))).drop
    refine s3.wr (o := 2) (add_mk _ _ _) (by simp) fun h28 s4 => ?_
    have hl3 : (kL ++ kR).length + 1 = (kL ++ r :: kR).length := by simp; omega
    refine hk h28 (nodeC k U.es.length (kL ++ r :: kR).length p1 p2 p' c1 c2 c' + (C1 + (C2 + C3')) + A2) ⟨kL ++ r :: kR, _, A2, rfl, ⟨p1, p2, p', c1, c2, c', C1, C2, C3', rfl, ⟨ns.s1, ns.s2, o3.cast hl3 rfl⟩⟩, by rw [hU]; simp; omega, ha⟩ ?_
    have s5 : St h0 h28 (nodeC k U.es.length (kL ++ r :: kR).length p1 p2 p' c1 c2 c' + (C1 + (C2 + (C3' + (A2 + F))))) := by rw [← hl3]; exact s4
    exact s5.to
theorem put_b1_ok {h0 h : Hp} {k m : Nat} {right : Option Addr} {eL eR : List E} {key value : Int} {U : BT} {Au F : Bag} {t : Option Addr} {visits : Int} {d : Nat} {nodes atv : Option Addr} {nL nC aL aC : Nat} {N : List Nat} {I : List Int} {nx0 : Int × Int × Int × Option Addr × Int × Unit → Hp → Prop} {K : Value → Hp → Prop}
    (rN : RdT TP h nodes nL N) (rI : RdT TI h atv aL I) (hd : d < nL) (hd2 : d < aL) (hN : N.getD d 0 = k) (hI : I.getD d 0 = (eL.length : Int)) (hsz : (eL ++ eR).length ≤ 1000)
    (pd : Pend m k right eL eR (key, value) U Au) (s : St h0 h (Au + F))
    (hk : ∀ h' Au', Hold m k U Au' → St h0 h' (Au' + F) → btree_Tree_put_b4 t visits nodes nL nC atv aL aC (d : Int) (some ⟨k, 0, none⟩) h' nx0 K) :
    btree_Tree_put_b1 key value visits right (d : Int) t nodes nL nC atv aL aC h nx0 K := by
  obtain ⟨hU, pd⟩ := pd
  obtain ⟨ks, A1, A2, rfl, hn, hx⟩ : ∃ ks A1 A2, Au = A1 + A2 ∧ NodeA k (eL ++ eR) ks A1 ∧ ∀ B, NodeA k U.es ks B → (right = none ∧ m = 0 ∧ U.ts = [] ∧ A2 = 0 ∧ NodeA k U.es [] B) ∨ ∃ m' r kL kR, m = m' + 1 ∧ right = some ⟨r, 0, none⟩ ∧ NodeA k U.es (kL ++ kR) B ∧ kL.length = eL.length + 1 ∧ kR.length = eR.length ∧ AllH (Hold m') (kL ++ r :: kR) U.ts A2 := by
    rcases pd with ⟨h1, h2, h3, h4⟩ | ⟨m', r, kL, kR, A1, A2, h1, h2, h3, h4, h5, h6, h7⟩
    · exact ⟨[], Au, 0, (Bag.add_zero _).symm, h4, fun B hB => .inl ⟨h1, h2, h3, rfl, hB⟩⟩
    · exact ⟨kL ++ kR, A1, A2, h3, h4, fun B hB => .inr ⟨m', r, kL, kR, h1, h2, hB, h5, h6, h7⟩⟩
  obtain ⟨p1, p2, p3, c1, c2, c3, C1, C2, C3, rfl, ns⟩ := hn
  have hlen : (eL ++ eR).length = eL.length + eR.length := List.length_append
  have nC0 := s.at (nodeC k (eL ++ eR).length ks.length p1 p2 p3 c1 c2 c3)
  have tk : (eL ++ eR).take eL.length = eL := List.take_left' rfl
  have dk : (eL ++ eR).drop eL.length = eR := List.drop_left' rfl
  have f1 : ((eL ++ eR).map Prod.fst).take eL.length ++ key :: ((eL ++ eR).map Prod.fst).drop eL.length = U.es.map Prod.fst := by
    rw [← List.map_take, ← List.map_drop, tk, dk, hU]; simp
  have f2 : ((eL ++ eR).map Prod.snd).take eL.length ++ value :: ((eL ++ eR).map Prod.snd).drop eL.length = U.es.map Prod.snd := by
    rw [← List.map_take, ← List.map_drop, tk, dk, hU]; simp
  have hUl : (eL ++ eR).length + 1 = U.es.length := by rw [hU]; simp; omega
  rw [btree_Tree_put_b1_eq]
  refine condYes (decide_eq_true (by omega)) ?_
  refine rN.ptr (by omega) (by omega) ?_
  rw [Int.toNat_natCast, hN]
  refine rI.int (by omega) (by omega) ?_
  rw [Int.toNat_natCast, hI]
  refine ⟨_, _, _, nC0.cell 0, _, _, _, nC0.cellA 1, ?_⟩
  -- the end, whatever came first
  have fin : ∀ (h' : Hp) (q1 q2 : Option Addr) (d1 d2 : Nat) (D1 D2 G : Bag), St h0 h' (nodeC k (eL ++ eR).length ks.length p1 p2 p3 c1 c2 c3 + (D1 + (D2 + (C3 + (A2 + (F + G)))))) →
      Sl TI q1 ((eL ++ eR).length + 1) d1 (((eL ++ eR).map Prod.fst).take eL.length ++ key :: ((eL ++ eR).map Prod.fst).drop eL.length) D1 → Sl TI q2 ((eL ++ eR).length + 1) d2 (((eL ++ eR).map Prod.snd).take eL.length ++ value :: ((eL ++ eR).map Prod.snd).drop eL.length) D2 →
      NN (some (⟨k, 0, none⟩ : Addr)) fun a => Wr h' a (.slice q1 ((eL ++ eR).length + 1) d1) fun h1 => NN (some (⟨k, 0, none⟩ : Addr)) fun a => Wr h1 (a.add 1) (.slice q2 ((eL ++ eR).length + 1) d2) fun h2 =>
      btree_Tree_put_b2 t visits nodes nL nC atv aL aC right (d : Int) (some ⟨k, 0, none⟩) (eL.length : Int) h2 nx0 K := by
    intro h' q1 q2 d1 d2 D1 D2 G s' o1 o2
    refine wr2 s' fun h2 s2 => ?_
    rw [f1] at o1
    rw [f2] at o2
    have nb : NodeA k U.es ks (nodeC k U.es.length ks.length q1 q2 p3 d1 d2 c3 + (D1 + (D2 + C3))) := ⟨q1, q2, p3, d1, d2, c3, D1, D2, C3, rfl, ⟨o1.cast hUl rfl, o2.cast hUl rfl, ns.s3⟩⟩
    rw [hUl] at s2
    refine put_b2_ok hU rfl hsz (hx _ nb) (F := F) ?_ hk
    have s3 : St h0 h2 (G + (nodeC k U.es.length ks.length q1 q2 p3 d1 d2 c3 + (D1 + (D2 + C3)) + (A2 + F))) := s2.to
    exact s3.drop
  refine ⟨?_, ?_⟩
  · refine s.new (cs := [.int .i64 key]) fun b4 h9 _ s1 => ?_
    have g9 := s1.at (nodeC k (eL ++ eR).length ks.length p1 p2 p3 c1 c2 c3)
    refine ⟨⟨_, _, _, g9.cellA 1, rfl⟩, ⟨_, _, _, g9.cell 0, rfl⟩, ?_, ?_⟩
    · have s2 : St h0 h9 (C1 + (cA b4 [.int .i64 key] (TI).e + (nodeC k (eL ++ eR).length ks.length p1 p2 p3 c1 c2 c3 + (C2 + (C3 + (A2 + F)))))) := s1.to
      refine (insertI_st (x := key) s2 ns.s1 rfl (by omega) (by omega)).mono fun v2 h10 ⟨p', c', C1', hv, o1, s3⟩ => ?_
      refine ⟨_, _, _, hv, ⟨_, _, _, (s3.at (nodeC k (eL ++ eR).length ks.length p1 p2 p3 c1 c2 c3)).cellA 1, rfl⟩, ?_⟩
      refine s3.new (cs := [.int .i64 value]) fun b5 h11 _ s4 => ?_
      refine ⟨⟨_, _, _, (s4.at (nodeC k (eL ++ eR).length ks.length p1 p2 p3 c1 c2 c3)).cellA 1, rfl⟩, ?_⟩
      have s5 : St h0 h11 (C2 + (cA b5 [.int .i64 value] (TI).e + (nodeC k (eL ++ eR).length ks.length p1 p2 p3 c1 c2 c3 + (C1' + (C3 + (A2 + (F + cA b4 [.int .i64 key] (TI).e))))))) := s4.to
      refine (insertI_st (x := value) s5 ns.s2 rfl (by omega) (by omega)).mono fun v3 h12 ⟨p'', c'', C2', hv', o2, s6⟩ => ?_
      refine ⟨_, _, _, hv', fin h12 p' p'' c' c'' C1' C2' (cA b4 [.int .i64 key] (TI).e + cA b5 [.int .i64 value] (TI).e) s6.to o1 o2⟩
    · refine s1.new (cs := [.int .i64 value]) fun b6 h15 _ s2 => ?_
      have g15 := s2.at (nodeC k (eL ++ eR).length ks.length p1 p2 p3 c1 c2 c3)
      refine ⟨⟨_, _, _, g15.cellA 1, rfl⟩, ⟨_, _, _, g15.cell 0, rfl⟩, ?_⟩
      have s3 : St h0 h15 (C1 + (cA b4 [.int .i64 key] (TI).e + (nodeC k (eL ++ eR).length ks.length p1 p2 p3 c1 c2 c3 + (C2 + (C3 + (A2 + (F + cA b6 [.int .i64 value] (TI).e))))))) := s2.to
      refine (insertI_st (x := key) s3 ns.s1 rfl (by omega) (by omega)).mono fun v4 h16 ⟨p', c', C1', hv, o1, s4⟩ => ?_
      refine ⟨_, _, _, hv, ⟨_, _, _, (s4.at (nodeC k (eL ++ eR).length ks.length p1 p2 p3 c1 c2 c3)).cellA 1, rfl⟩, ?_⟩
      have s5 : St h0 h16 (C2 + (cA b6 [.int .i64 value] (TI).e + (nodeC k (eL ++ eR).length ks.length p1 p2 p3 c1 c2 c3 + (C1' + (C3 + (A2 + (F + cA b4 [.int .i64 key] (TI).e))))))) := s4.to
      refine (insertI_st (x := value) s5 ns.s2 rfl (by omega) (by omega)).mono fun v3 h12 ⟨p'', c'', C2', hv', o2, s6⟩ => ?_
      refine ⟨_, _, _, hv', fin h12 p' p'' c' c'' C1' C2' (cA b4 [.int .i64 key] (TI).e + cA b6 [.int .i64 value] (TI).e) s6.to o1 o2⟩
  · refine s.new (cs := [.int .i64 value]) fun b7 h20 _ s1 => ?_
    have g20 := s1.at (nodeC k (eL ++ eR).length ks.length p1 p2 p3 c1 c2 c3)
    refine ⟨⟨_, _, _, g20.cellA 1, rfl⟩, ⟨_, _, _, g20.cell 0, rfl⟩, ?_⟩
    refine s1.new (cs := [.int .i64 key]) fun b8 h21 _ s2 => ?_
    have g21 := s2.at (nodeC k (eL ++ eR).length ks.length p1 p2 p3 c1 c2 c3)
    refine ⟨⟨_, _, _, g21.cellA 1, rfl⟩, ⟨_, _, _, g21.cell 0, rfl⟩, ?_⟩
    have s3 : St h0 h21 (C1 + (cA b8 [.int .i64 key] (TI).e + (nodeC k (eL ++ eR).length ks.length p1 p2 p3 c1 c2 c3 + (C2 + (C3 + (A2 + (F + cA b7 [.int .i64 value] (TI).e))))))) := s2.to
    refine (insertI_st (x := key) s3 ns.s1 rfl (by omega) (by omega)).mono fun v4 h16 ⟨p', c', C1', hv, o1, s4⟩ => ?_
    refine ⟨_, _, _, hv, ⟨_, _, _, (s4.at (nodeC k (eL ++ eR).length ks.length p1 p2 p3 c1 c2 c3)).cellA 1, rfl⟩, ?_⟩
    have s5 : St h0 h16 (C2 + (cA b7 [.int .i64 value] (TI).e + (nodeC k (eL ++ eR).length ks.length p1 p2 p3 c1 c2 c3 + (C1' + (C3 + (A2 + (F + cA b8 [.int .i64 key] (TI).e))))))) := s4.to
    refine (insertI_st (x := value) s5 ns.s2 rfl (by omega) (by omega)).mono fun v3 h12 ⟨p'', c'', C2', hv', o2, s6⟩ => ?_
    refine ⟨_, _, _, hv', fin h12 p' p'' c' c'' C1' C2' (cA b7 [.int .i64 value] (TI).e + cA b8 [.int .i64 key] (TI).e) s6.to o1 o2⟩
end Go.Proofs.Ytaemnjblcpknpaa
