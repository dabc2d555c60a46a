/- Part B17 B18 B19 B20 B21 B22 B23 B24 B25 B26 B27 B28 B29 B30 X0 of the proof: contracts of functions of the program, and what follows from them. -/
import Derived.Test.YtkdmcdnfakmapaaGreatSxB16
/- B-trees: two neighbouring nodes: merged, or an entry moved. -/
set_option maxRecDepth 100000
namespace Go.Proofs.YtkdmcdnfakmapaaGreat
open Go Go.Sx
theorem getD_mid {α : Type} {a : List α} {x d : α} {b : List α} {i : Nat} (h : a.length = i) : (a ++ x :: b).getD i d = x := by subst h; simp [List.getD]
theorem getD_mid2 {α : Type} {a : List α} {x y d : α} {b : List α} {i : Nat} (h : a.length = i) : (a ++ x :: y :: b).getD (i + 1) d = y := by subst h; simp [List.getD]
theorem cut_mid {α : Type} {a : List α} {x : α} {b : List α} {i : Nat} (h : a.length = i) : (a ++ x :: b).take i ++ (a ++ x :: b).drop (i + 1) = a ++ b := by subst h; simp
theorem merge_ok {h0 h : Hp} {p l r i : Nat} {e1 e2 el er : List E} {e : E} {k1 k2 kl kr : List Nat} {Ap Al Ar F : Bag} (s : St h0 h (Ap + (Al + (Ar + F)))) (np : NodeA p (e1 ++ e :: e2) (k1 ++ l :: r :: k2) Ap) (nl : NodeA l el kl Al) (nr : NodeA r er kr Ar)
    (h1 : e1.length = i) (h2 : k1.length = i) (hs1 : (e1 ++ e :: e2).length ≤ 1000) (hs2 : el.length ≤ 1000) (hs3 : er.length ≤ 1000) (hs4 : (k1 ++ l :: r :: k2).length ≤ 2000) (hs5 : kl.length ≤ 2000) (hs6 : kr.length ≤ 2000) :
    HCalls Tryz.prog 87 #[ptr p, .int .i64 (i : Int)] h (fun v h' => v = .tuple #[] ∧ ∃ Bp Bl, NodeA p (e1 ++ e2) (k1 ++ l :: k2) Bp ∧ NodeA l (el ++ e :: er) (kl ++ kr) Bl ∧ St h0 h' (Bp + (Bl + F))) := by
  obtain ⟨p1, p2, p3, c1, c2, c3, P1, P2, P3, rfl, ⟨a1, a2, a3⟩⟩ := np
  obtain ⟨l1, l2, l3, d1, d2, d3, L1, L2, L3, rfl, ⟨b1, b2, b3⟩⟩ := nl
  obtain ⟨r1, r2, r3, f1, f2, f3, R1, R2, R3, rfl, ⟨g1, g2, g3⟩⟩ := nr
  have he : (e1 ++ e :: e2).length = i + 1 + e2.length := by simp; omega
  have hk : (k1 ++ l :: r :: k2).length = i + 2 + k2.length := by simp; omega
  have m1 : ((e1 ++ e :: e2).map Prod.fst).getD i 0 = e.1 := by rw [List.map_append, List.map_cons]; exact getD_mid (by simpa using h1)
  have m2 : ((e1 ++ e :: e2).map Prod.snd).getD i 0 = e.2 := by rw [List.map_append, List.map_cons]; exact getD_mid (by simpa using h1)
  generalize hne : (e1 ++ e :: e2).length = ne at *
  generalize hnk : (k1 ++ l :: r :: k2).length = nk at *
  refine btree_merge_call ?_
  rw [btree_merge_b0_eq]
  have kp := (s.at (nodeC p ne nk p1 p2 p3 c1 c2 c3)).blk
  have kl0 := (s.at (nodeC l el.length kl.length l1 l2 l3 d1 d2 d3)).blk
  have kr0 := (s.at (nodeC r er.length kr.length r1 r2 r3 f1 f2 f3)).blk
  refine ⟨_, _, _, Blk.cellA kp 2, (a3.rd (s.at P3)).ptr (by omega) (by omega) ?_⟩
  rw [Int.toNat_natCast, getD_mid h2]
  have ei : ((i : Int) + 1).toNat = i + 1 := by omega
  refine ⟨_, _, _, Blk.cellA kp 2, ⟨by omega, by omega⟩, (a3.rd (s.at P3)).ptr (by omega) (by omega) ?_⟩
  rw [ei, getD_mid2 h2]
  refine ⟨_, _, _, kl0.cell 0, _, _, _, kp.cell 0, (a1.rd (s.at P1)).int (by omega) (by omega) ?_⟩
  rw [Int.toNat_natCast, m1]
  refine ⟨_, _, _, kr0.cell 0, ?_⟩
  refine s.new (cs := [.int .i64 e.1]) fun bx h1' x1 s1 => ?_
  refine ⟨⟨_, _, _, (kr0.ext x1).cell 0, rfl⟩, ⟨_, _, _, (kl0.ext x1).cell 0, rfl⟩, ?_⟩
  have ox : Sl TI (some ⟨bx, 0, none⟩) 1 1 [e.1] (cA bx [.int .i64 e.1] 3) := Sl.one rfl
  refine append_sl ok_int (s1.at L1) b1 (ox.rd (s1.at (cA bx [.int .i64 e.1] 3))) (by omega) fun q1 w1 h2' L1' b1' s2 => ?_
  refine ⟨⟨_, _, _, (s2.at (nodeC r er.length kr.length r1 r2 r3 f1 f2 f3)).cell 0, rfl⟩, ?_⟩
  refine append_sl ok_int s2 b1' (g1.rd (s2.at R1)) (by omega) fun q2 w2 h3' L1'' b1'' s3 => ?_
  refine (s3.at (nodeC l el.length kl.length l1 l2 l3 d1 d2 d3)).wr rfl (by simp) fun h4' s4 => ?_
  have s4 : St h0 h4' (cA l [.slice q2 (el.length + 1 + er.length) w2, .slice l2 el.length d2, .slice l3 kl.length d3] 86 + _) := s4
  have kl4 := s4.blk
  have kp4 := (s4.at (nodeC p ne nk p1 p2 p3 c1 c2 c3)).blk
  have kr4 := (s4.at (nodeC r er.length kr.length r1 r2 r3 f1 f2 f3)).blk
  refine ⟨_, _, _, Blk.cellA kl4 1, _, _, _, Blk.cellA kp4 1, (a2.rd (s4.at P2)).int (by omega) (by omega) ?_⟩
  rw [Int.toNat_natCast, m2]
  refine ⟨_, _, _, Blk.cellA kr4 1, ?_⟩
  refine s4.new (cs := [.int .i64 e.2]) fun by_ h5' x5 s5 => ?_
  refine ⟨⟨_, _, _, Blk.cellA (kr4.ext x5) 1, rfl⟩, ⟨_, _, _, Blk.cellA (kl4.ext x5) 1, rfl⟩, ?_⟩
  have oy : Sl TI (some ⟨by_, 0, none⟩) 1 1 [e.2] (cA by_ [.int .i64 e.2] 3) := Sl.one rfl
  refine append_sl ok_int (s5.at L2) b2 (oy.rd (s5.at (cA by_ [.int .i64 e.2] 3))) (by omega) fun q3 w3 h6' L2' b2' s6 => ?_
  refine ⟨⟨_, _, _, (s6.at (nodeC r er.length kr.length r1 r2 r3 f1 f2 f3)).cellA 1, rfl⟩, ?_⟩
  refine append_sl ok_int s6 b2' (g2.rd (s6.at R2)) (by omega) fun q4 w4 h7' L2'' b2'' s7 => ?_
  refine (s7.at (cA l [.slice q2 (el.length + 1 + er.length) w2, .slice l2 el.length d2, .slice l3 kl.length d3] 86)).wr (o := 1) (add_mk _ _ _) (by simp) fun h8' s8 => ?_
  have s8 : St h0 h8' (cA l [.slice q2 (el.length + 1 + er.length) w2, .slice q4 (el.length + 1 + er.length) w4, .slice l3 kl.length d3] 86 + _) := s8
  refine ⟨_, _, _, s8.cellA 2, _, _, _, (s8.at (nodeC r er.length kr.length r1 r2 r3 f1 f2 f3)).cellA 2, ?_⟩
  refine append_sl ok_node (s8.at L3) b3 (g3.rd (s8.at R3)) (by omega) fun q5 w5 h9' L3' b3' s9 => ?_
  refine (s9.at (cA l [.slice q2 (el.length + 1 + er.length) w2, .slice q4 (el.length + 1 + er.length) w4, .slice l3 kl.length d3] 86)).wr (o := 2) (add_mk _ _ _) (by simp) fun h10' s10 => ?_
  have s10 : St h0 h10' (nodeC l (el.length + 1 + er.length) (kl.length + kr.length) q2 q4 q5 w2 w4 w5 + _) := s10
  have kp10 := (s10.at (nodeC p ne nk p1 p2 p3 c1 c2 c3)).blk
  refine ⟨_, _, _, kp10.cell 0, ⟨by omega, by omega⟩, _, _, _, Blk.cellA kp10 1, ⟨by omega, by omega⟩, ?_⟩
  refine (deleteI_st (s10.at P1) a1 (i := i) (by omega) rfl (by omega)).mono fun v1 h11' ⟨P1', hv1, a1', s11⟩ => ?_
  refine ⟨_, _, _, hv1, ⟨_, _, _, (s11.at (nodeC p ne nk p1 p2 p3 c1 c2 c3)).cellA 1, rfl⟩, ?_⟩
  refine (deleteI_st (s11.at P2) a2 (i := i) (by omega) rfl (by omega)).mono fun v2 h12' ⟨P2', hv2, a2', s12⟩ => ?_
  refine ⟨_, _, _, hv2, ?_⟩
  refine wr2 (n' := ne - 1) (s12.at (nodeC p ne nk p1 p2 p3 c1 c2 c3)) fun h14' s14 => ?_
  refine ⟨_, _, _, s14.cellA 2, ⟨by omega, by omega⟩, ⟨by omega, by omega⟩, ?_⟩
  have ei2 : ((i : Int) + 1) = ((i + 1 : Nat) : Int) := by omega
  rw [ei2]
  refine (deleteP_st (s14.at P3) a3 (i := i + 1) (by omega) (by omega) (by omega)).mono fun v3 h15' ⟨P3', hv3, a3', s15⟩ => ?_
  refine ⟨_, _, _, hv3, ?_⟩
  refine (s15.at (nodeC p (ne - 1) nk p1 p2 p3 c1 c2 c3)).wr (o := 2) (add_mk _ _ _) (by simp) fun h16' s16 => ?_
  have s16 : St h0 h16' (nodeC p (ne - 1) (nk - 1) p1 p2 p3 c1 c2 c3 + _) := s16
  have x1 : (e1 ++ e2).length = ne - 1 := by rw [← hne]; simp <;> omega
  have x2 : (k1 ++ l :: k2).length = nk - 1 := by rw [← hnk]; simp <;> omega
  have x3 : (el ++ e :: er).length = el.length + 1 + er.length := by simp; omega
  have x4 : (kl ++ kr).length = kl.length + kr.length := List.length_append
  have y1 : ((e1 ++ e :: e2).map Prod.fst).take i ++ ((e1 ++ e :: e2).map Prod.fst).drop (i + 1) = (e1 ++ e2).map Prod.fst := by rw [← List.map_take, ← List.map_drop, ← List.map_append, cut_mid h1]
  have y2 : ((e1 ++ e :: e2).map Prod.snd).take i ++ ((e1 ++ e :: e2).map Prod.snd).drop (i + 1) = (e1 ++ e2).map Prod.snd := by rw [← List.map_take, ← List.map_drop, ← List.map_append, cut_mid h1]
  have y3 : (k1 ++ l :: r :: k2).take (i + 1) ++ (k1 ++ l :: r :: k2).drop (i + 1 + 1) = k1 ++ l :: k2 := by
    have := cut_mid (a := k1 ++ [l]) (x := r) (b := k2) (i := i + 1) (by simp; omega)
    simpa using this
  refine ⟨rfl, nodeC p (e1 ++ e2).length (k1 ++ l :: k2).length p1 p2 p3 c1 c2 c3 + (P1' + (P2' + P3')), nodeC l (el ++ e :: er).length (kl ++ kr).length q2 q4 q5 w2 w4 w5 + (L1'' + (L2'' + L3')), ⟨p1, p2, p3, c1, c2, c3, P1', P2', P3', rfl, ⟨a1'.cast x1.symm y1, a2'.cast x1.symm y2, a3'.cast x2.symm y3⟩⟩, ⟨q2, q4, q5, w2, w4, w5, L1'', L2'', L3', rfl, ⟨b1''.cast x3.symm (by simp), b2''.cast x3.symm (by simp), b3'.cast x4.symm rfl⟩⟩, ?_⟩
  rw [x1, x2, x3, x4]
  exact (s16.to (B := (nodeC r er.length kr.length r1 r2 r3 f1 f2 f3 + (R1 + (R2 + R3)) + (cA bx [.int .i64 e.1] 3 + cA by_ [.int .i64 e.2] 3)) + (nodeC p (ne - 1) (nk - 1) p1 p2 p3 c1 c2 c3 + (P1' + (P2' + P3')) + (nodeC l (el.length + 1 + er.length) (kl.length + kr.length) q2 q4 q5 w2 w4 w5 + (L1'' + (L2'' + L3')) + F)))).drop
theorem set_mid {α : Type} {a : List α} {x y : α} {b : List α} {i : Nat} (h : a.length = i) : (a ++ x :: b).set i y = a ++ y :: b := by subst h; rw [List.set_append_right _ _ (Nat.le_refl _)]; simp
theorem take_last {α : Type} {a : List α} {x : α} {i : Nat} (h : a.length = i) : (a ++ [x]).take i = a := by subst h; simp
theorem toNat_sub1 {i : Nat} (h : 1 ≤ i) : ((i : Int) - 1).toNat = i - 1 := by omega
theorem map_mid {α β : Type} {f : α → β} {a : List α} {x : α} {b : List α} {i : Nat} {d' : β} (h : a.length = i) : ((a ++ x :: b).map f).getD i d' = f x := by rw [List.map_append, List.map_cons]; exact getD_mid (by simpa using h)
theorem fromLeft_b1_ok {h0 h : Hp} {p l n i : Nat} {e1 e2 el en : List E} {e x : E} {k1 k2 kl kn : List Nat} {Ap Al An F : Bag} (s : St h0 h (Ap + (Al + (An + F)))) (np : NodeA p (e1 ++ e :: e2) (k1 ++ l :: n :: k2) Ap) (nl : NodeA l (el ++ [x]) kl Al) (nn : NodeA n en kn An)
    (h1 : e1.length = i) (h2 : k1.length = i) (hs1 : (e1 ++ e :: e2).length ≤ 1000) (hs2 : el.length ≤ 1000) (hkl : kl = [] ∨ kl.length = el.length + 2) (hkn : kn.length ≤ 2000) (hq : kl = [] ↔ kn = []) {K : Value → Hp → Prop}
    (hk : ∀ h' Bp Bl Bn kl' kn', ((kl = [] ∧ kl' = [] ∧ kn' = []) ∨ ∃ z, kl = kl' ++ [z] ∧ kn' = z :: kn) → NodeA p (e1 ++ x :: e2) (k1 ++ l :: n :: k2) Bp → NodeA l el kl' Bl → NodeA n en kn' Bn → St h0 h' (Bp + (Bl + (Bn + F))) → K (.tuple #[]) h') :
    btree_fromLeft_b1 (some ⟨p, 0, none⟩) ((i : Int) + 1) (some ⟨l, 0, none⟩) (some ⟨n, 0, none⟩) (((el ++ [x]).length : Int) - 1) h K := by
  obtain ⟨p1, p2, p3, c1, c2, c3, P1, P2, P3, rfl, ⟨a1, a2, a3⟩⟩ := np
  have nl0 := nl
  obtain ⟨l1, l2, l3, d1, d2, d3, L1, L2, L3, rfl, ⟨b1, b2, b3⟩⟩ := nl
  obtain ⟨r1, r2, r3, f1, f2, f3, R1, R2, R3, rfl, ⟨g1, g2, g3⟩⟩ := nn
  have he : (e1 ++ e :: e2).length = i + 1 + e2.length := by simp; omega
  have hl : (el ++ [x]).length = el.length + 1 := by simp
  have hlx1 : ((el ++ [x]).map Prod.fst).getD el.length 0 = x.1 := map_mid rfl
  have hlx2 : ((el ++ [x]).map Prod.snd).getD el.length 0 = x.2 := map_mid rfl
  have y1 : ((e1 ++ e :: e2).map Prod.fst).set i x.1 = (e1 ++ x :: e2).map Prod.fst := by rw [List.map_append, List.map_cons, set_mid (by simpa using h1)]; simp
  have y2 : ((e1 ++ e :: e2).map Prod.snd).set i x.2 = (e1 ++ x :: e2).map Prod.snd := by rw [List.map_append, List.map_cons, set_mid (by simpa using h1)]; simp
  have xl : (e1 ++ x :: e2).length = (e1 ++ e :: e2).length := by simp
  have z1 : ((el ++ [x]).map Prod.fst).take el.length = el.map Prod.fst := by rw [← List.map_take, take_last rfl]
  have z2 : ((el ++ [x]).map Prod.snd).take el.length = el.map Prod.snd := by rw [← List.map_take, take_last rfl]
  have ek : (((el ++ [x]).length : Nat) : Int) - 1 = (el.length : Int) := by omega
  have ei1 : (i : Int) + 1 - 1 = (i : Int) := by omega
  rw [ek]
  generalize hne : (e1 ++ e :: e2).length = ne at *
  generalize hnl : (el ++ [x]).length = nl at *
  generalize hnk : (k1 ++ l :: n :: k2).length = nk at *
  rw [btree_fromLeft_b1_eq]
  rw [ei1]
  have kp := (s.at (nodeC p ne nk p1 p2 p3 c1 c2 c3)).blk
  have kl0 := (s.at (nodeC l nl kl.length l1 l2 l3 d1 d2 d3)).blk
  have b1c := b1.cap
  have b2c := b2.cap
  refine ⟨_, _, _, kp.cell 0, ⟨by omega, by omega⟩, _, _, _, Blk.cellA kp 1, ⟨by omega, by omega⟩, _, _, _, kl0.cell 0, (b1.rd (s.at L1)).int (by omega) (by omega) ?_⟩
  have enl : Int.toNat ((el.length : Nat) : Int) = el.length := Int.toNat_natCast _
  rw [enl, hlx1]
  refine ⟨_, _, _, Blk.cellA kl0 1, (b2.rd (s.at L2)).int (by omega) (by omega) ?_⟩
  rw [enl, hlx2]
  refine a1.wrI (s.at P1) (x := x.1) (by omega) (by omega) rfl rfl fun h18 P1' a1' s1 => ?_
  rw [Int.toNat_natCast, y1] at a1'
  refine a2.wrI (s1.at P2) (x := x.2) (by omega) (by omega) rfl rfl fun h19 P2' a2' s2 => ?_
  rw [Int.toNat_natCast, y2] at a2'
  have kl2 := (s2.at (nodeC l nl kl.length l1 l2 l3 d1 d2 d3)).blk
  have e0 : Int.toNat (0 : Int) = 0 := rfl
  refine ⟨_, _, _, kl2.cell 0, ⟨by omega, by omega, by omega⟩, _, _, _, Blk.cellA kl2 1, ⟨by omega, by omega, by omega⟩, ?_⟩
  rw [e0, Nat.sub_zero, Nat.sub_zero, Nat.sub_zero, subAddr_z, subAddr_z]
  refine (s2.at (nodeC l nl kl.length l1 l2 l3 d1 d2 d3)).wr rfl (by simp) fun h20 s3 => ?_
  refine ⟨⟨⟨by omega, by omega, by omega⟩, rfl⟩, ?_⟩
  refine s3.wr (o := 1) (add_mk _ _ _) (by simp) fun h21 s4 => ?_
  have s4 : St h0 h21 (nodeC l el.length kl.length l1 l2 l3 d1 d2 d3 + _) := s4
  have tl1 := b1.take (i := el.length) (by omega)
  have tl2 := b2.take (i := el.length) (by omega)
  rw [z1] at tl1
  rw [z2] at tl2
  have nl' : NodeA l el kl (nodeC l el.length kl.length l1 l2 l3 d1 d2 d3 + (L1 + (L2 + L3))) := ⟨l1, l2, l3, d1, d2, d3, L1, L2, L3, rfl, ⟨tl1, tl2, b3⟩⟩
  have np' : NodeA p (e1 ++ x :: e2) (k1 ++ l :: n :: k2) (nodeC p ne nk p1 p2 p3 c1 c2 c3 + (P1' + (P2' + P3))) := ⟨p1, p2, p3, c1, c2, c3, P1', P2', P3, by rw [xl, hnk], ⟨a1'.cast xl.symm rfl, a2'.cast xl.symm rfl, hnk ▸ a3⟩⟩
  have s5 := s4.to (B := nodeC l el.length kl.length l1 l2 l3 d1 d2 d3 + (L1 + (L2 + L3)) + (nodeC p ne nk p1 p2 p3 c1 c2 c3 + (P1' + (P2' + P3)) + (nodeC n en.length kn.length r1 r2 r3 f1 f2 f3 + (R1 + (R2 + R3)) + F)))
  refine (leaf_ok s5 nl').mono fun v7 h22 ⟨hh, hv⟩ => ?_
  subst hh
  refine ⟨_, hv, condN (fun hlf => ?_) (fun hlf => ?_)⟩
  · -- a node with children: the last one moves too
    rcases hkl with rfl | hkl
    · exact absurd rfl hlf
    obtain ⟨kl', z, rfl⟩ : ∃ kl' z, kl = kl' ++ [z] := by
      rcases List.eq_nil_or_concat kl with h | ⟨kl', z, h⟩
      · rw [h] at hkl; simp at hkl
      · exact ⟨kl', z, by simpa using h⟩
    have hkl' : kl'.length = el.length + 1 := by simpa using hkl
    have kn5 := (s5.at (nodeC n en.length kn.length r1 r2 r3 f1 f2 f3)).blk
    have ek1 : ((el.length : Int) + 1).toNat = el.length + 1 := by omega
    refine ⟨_, _, _, Blk.cellA kn5 2, _, _, _, (s5.at (nodeC l el.length (kl' ++ [z]).length l1 l2 l3 d1 d2 d3)).cellA 2, ⟨by omega, by omega⟩, (b3.rd (s5.at L3)).ptr (by omega) (by omega) ?_⟩
    rw [ek1, getD_mid hkl']
    refine s5.new (cs := [.pointer (some ⟨z, 0, none⟩)]) fun b6 h23 x6 s6 => ?_
    refine ⟨⟨_, _, _, Blk.cellA (kn5.ext x6) 2, rfl⟩, ?_⟩
    have s6 := s6.to (B := R3 + (cA b6 [.pointer (some ⟨z, 0, none⟩)] (TP).e + (nodeC l el.length (kl' ++ [z]).length l1 l2 l3 d1 d2 d3 + (L1 + (L2 + L3)) + (nodeC p ne nk p1 p2 p3 c1 c2 c3 + (P1' + (P2' + P3)) + (nodeC n en.length kn.length r1 r2 r3 f1 f2 f3 + (R1 + R2) + F)))))
    refine (insertP_st (x := z) (i := 0) s6 g3 rfl (by omega) (by omega)).mono fun v8 h24 ⟨r3', f3', R3', hv8, g3', s7⟩ => ?_
    refine ⟨_, _, _, hv8, ?_⟩
    have g3' : Sl TP r3' (kn.length + 1) f3' (z :: kn) R3' := g3'
    refine (s7.at (nodeC n en.length kn.length r1 r2 r3 f1 f2 f3)).wr (o := 2) (add_mk _ _ _) (by simp) fun h25 s8 => ?_
    have s8 : St h0 h25 (nodeC n en.length (kn.length + 1) r1 r2 r3' f1 f2 f3' + _) := s8
    refine ⟨_, _, _, (s8.at (nodeC l el.length (kl' ++ [z]).length l1 l2 l3 d1 d2 d3)).cellA 2, ⟨by omega, by omega⟩, ⟨by omega, by omega⟩, ?_⟩
    have ek2 : ((el.length : Int) + 1) = ((el.length + 1 : Nat) : Int) := by omega
    rw [ek2]
    refine (deleteP_st (s8.at L3) b3 (i := el.length + 1) (by omega) (by omega) (by omega)).mono fun v9 h26 ⟨L3', hv9, b3', s9⟩ => ?_
    refine ⟨_, _, _, hv9, ?_⟩
    refine (s9.at (nodeC l el.length (kl' ++ [z]).length l1 l2 l3 d1 d2 d3)).wr (o := 2) (add_mk _ _ _) (by simp) fun h27 s10 => ?_
    have s10 : St h0 h27 (nodeC l el.length ((kl' ++ [z]).length - 1) l1 l2 l3 d1 d2 d3 + _) := s10
    have w1 : (kl' ++ [z]).length - 1 = kl'.length := by simp
    have w2 : (kl' ++ [z]).take (el.length + 1) ++ (kl' ++ [z]).drop (el.length + 1 + 1) = kl' := by
      have := cut_mid (a := kl') (x := z) (b := []) hkl'
      simpa using this
    rw [w1] at s10
    refine hk h27 _ (nodeC l el.length kl'.length l1 l2 l3 d1 d2 d3 + (L1 + (L2 + L3'))) (nodeC n en.length (kn.length + 1) r1 r2 r3' f1 f2 f3' + (R1 + (R2 + R3'))) kl' (z :: kn) (.inr ⟨z, rfl, rfl⟩) np' ⟨l1, l2, l3, d1, d2, d3, L1, L2, L3', rfl, ⟨tl1, tl2, b3'.cast w1 w2⟩⟩ ⟨r1, r2, r3', f1, f2, f3', R1, R2, R3', rfl, ⟨g1, g2, g3'⟩⟩ ?_
    exact (s10.to (B := cA b6 [.pointer (some ⟨z, 0, none⟩)] (TP).e + (nodeC p ne nk p1 p2 p3 c1 c2 c3 + (P1' + (P2' + P3)) + (nodeC l el.length kl'.length l1 l2 l3 d1 d2 d3 + (L1 + (L2 + L3')) + (nodeC n en.length (kn.length + 1) r1 r2 r3' f1 f2 f3' + (R1 + (R2 + R3')) + F))))).drop
  · have hk0 : kl = [] := List.eq_nil_of_length_eq_zero hlf
    subst hk0
    have hn0 := hq.1 rfl
    subst hn0
    exact hk h22 _ _ (nodeC n en.length ([] : List Nat).length r1 r2 r3 f1 f2 f3 + (R1 + (R2 + R3))) [] [] (.inl ⟨rfl, rfl, rfl⟩) np' nl' ⟨r1, r2, r3, f1, f2, f3, R1, R2, R3, rfl, ⟨g1, g2, g3⟩⟩ s5.to
end Go.Proofs.YtkdmcdnfakmapaaGreat

/- B-trees: an entry comes from the left, or from the right. -/
set_option maxRecDepth 100000
namespace Go.Proofs.YtkdmcdnfakmapaaGreat
open Go Go.Sx
theorem fromLeft_ok {h0 h : Hp} {p l n i : Nat} {e1 e2 el en : List E} {e x : E} {k1 k2 kl kn : List Nat} {Ap Al An F : Bag} (s : St h0 h (Ap + (Al + (An + F)))) (np : NodeA p (e1 ++ e :: e2) (k1 ++ l :: n :: k2) Ap) (nl : NodeA l (el ++ [x]) kl Al) (nn : NodeA n en kn An)
    (h1 : e1.length = i) (h2 : k1.length = i) (hs1 : (e1 ++ e :: e2).length ≤ 1000) (hs2 : el.length ≤ 900) (hs3 : en.length ≤ 900) (hkl : kl = [] ∨ kl.length = el.length + 2) (hkn : kn.length ≤ 2000) (hq : kl = [] ↔ kn = []) :
    HCalls Tryz.prog 85 #[ptr p, .int .i64 ((i : Int) + 1)] h (fun v h' => v = .tuple #[] ∧ ∃ Bp Bl Bn kl' kn', ((kl = [] ∧ kl' = [] ∧ kn' = []) ∨ ∃ z, kl = kl' ++ [z] ∧ kn' = z :: kn) ∧ NodeA p (e1 ++ x :: e2) (k1 ++ l :: n :: k2) Bp ∧ NodeA l el kl' Bl ∧ NodeA n (e :: en) kn' Bn ∧ St h0 h' (Bp + (Bl + (Bn + F)))) := by
  have np0 := np
  have nl0 := nl
  obtain ⟨p1, p2, p3, c1, c2, c3, P1, P2, P3, rfl, ⟨a1, a2, a3⟩⟩ := np
  obtain ⟨l1, l2, l3, d1, d2, d3, L1, L2, L3, rfl, ⟨b1, b2, b3⟩⟩ := nl
  obtain ⟨r1, r2, r3, f1, f2, f3, R1, R2, R3, rfl, ⟨g1, g2, g3⟩⟩ := nn
  have he : (e1 ++ e :: e2).length = i + 1 + e2.length := by simp; omega
  have hk : (k1 ++ l :: n :: k2).length = i + 2 + k2.length := by simp; omega
  have hl : (el ++ [x]).length = el.length + 1 := by simp
  have m1 : ((e1 ++ e :: e2).map Prod.fst).getD i 0 = e.1 := map_mid h1
  have m2 : ((e1 ++ e :: e2).map Prod.snd).getD i 0 = e.2 := map_mid h1
  have ei1 : (i : Int) + 1 - 1 = (i : Int) := by omega
  have ei2 : ((i : Int) + 1).toNat = i + 1 := by omega
  refine btree_fromLeft_call ?_
  rw [btree_fromLeft_b0_eq]
  rw [ei1]
  have kp := (s.at (nodeC p (e1 ++ e :: e2).length (k1 ++ l :: n :: k2).length p1 p2 p3 c1 c2 c3)).blk
  have kl0 := (s.at (nodeC l (el ++ [x]).length kl.length l1 l2 l3 d1 d2 d3)).blk
  have kn0 := (s.at (nodeC n en.length kn.length r1 r2 r3 f1 f2 f3)).blk
  refine ⟨_, _, _, Blk.cellA kp 2, ⟨by omega, by omega⟩, (a3.rd (s.at P3)).ptr (by omega) (by omega) ?_⟩
  rw [Int.toNat_natCast, getD_mid h2]
  refine ⟨_, _, _, Blk.cellA kp 2, (a3.rd (s.at P3)).ptr (by omega) (by omega) ?_⟩
  rw [ei2, getD_mid2 h2]
  have rp1 := a1.rd (s.at P1)
  have rp2 := a2.rd (s.at P2)
  refine ⟨_, _, _, kl0.cell 0, ⟨by omega, by omega⟩, _, _, _, kn0.cell 0, _, _, _, kp.cell 0, ⟨by omega, by omega⟩, rp1.intA (by omega) (by omega) fun ax1 hax1 => ?_⟩
  rw [Int.toNat_natCast, m1]
  refine ⟨_, _, _, Blk.cellA kn0 1, _, _, _, Blk.cellA kp 1, ⟨by omega, by omega⟩, rp2.intA (by omega) (by omega) fun ax2 hax2 => ?_⟩
  rw [Int.toNat_natCast, m2]
  -- the end, whatever came first
  have fin : ∀ (h' : Hp) (q1 q2 : Option Addr) (w1 w2 : Nat) (D1 D2 G : Bag), St h0 h' (nodeC n en.length kn.length r1 r2 r3 f1 f2 f3 + (D1 + (D2 + (R3 + (nodeC p (e1 ++ e :: e2).length (k1 ++ l :: n :: k2).length p1 p2 p3 c1 c2 c3 + (P1 + (P2 + P3)) + (nodeC l (el ++ [x]).length kl.length l1 l2 l3 d1 d2 d3 + (L1 + (L2 + L3)) + (F + G))))))) →
      Sl TI q1 (en.length + 1) w1 ((en.map Prod.fst).take 0 ++ e.1 :: (en.map Prod.fst).drop 0) D1 → Sl TI q2 (en.length + 1) w2 ((en.map Prod.snd).take 0 ++ e.2 :: (en.map Prod.snd).drop 0) D2 →
      NN (some (⟨n, 0, none⟩ : Addr)) fun a => Wr h' a (.slice q1 (en.length + 1) w1) fun h1 => NN (some (⟨n, 0, none⟩ : Addr)) fun a => Wr h1 (a.add 1) (.slice q2 (en.length + 1) w2) fun h2 =>
      btree_fromLeft_b1 (some ⟨p, 0, none⟩) ((i : Int) + 1) (some ⟨l, 0, none⟩) (some ⟨n, 0, none⟩) (((el ++ [x]).length : Int) - 1) h2 (fun v h' => v = .tuple #[] ∧ ∃ Bp Bl Bn kl' kn', ((kl = [] ∧ kl' = [] ∧ kn' = []) ∨ ∃ z, kl = kl' ++ [z] ∧ kn' = z :: kn) ∧ NodeA p (e1 ++ x :: e2) (k1 ++ l :: n :: k2) Bp ∧ NodeA l el kl' Bl ∧ NodeA n (e :: en) kn' Bn ∧ St h0 h' (Bp + (Bl + (Bn + F)))) := by
    intro h' q1 q2 w1 w2 D1 D2 G s' o1 o2
    refine wr2 s' fun h2 s2 => ?_
    have nn' : NodeA n (e :: en) kn (nodeC n (en.length + 1) kn.length q1 q2 r3 w1 w2 f3 + (D1 + (D2 + R3))) := ⟨q1, q2, r3, w1, w2, f3, D1, D2, R3, rfl, ⟨o1, o2, g3⟩⟩
    refine fromLeft_b1_ok (F := F + G) s2.to np0 nl0 nn' h1 (by assumption) hs1 (by omega) hkl hkn hq fun h' Bp Bl Bn kl' kn' hkk n1 n2 n3 s3 => ⟨rfl, Bp, Bl, Bn, kl', kn', hkk, n1, n2, n3, ?_⟩
    exact (s3.to (B := G + (Bp + (Bl + (Bn + F))))).drop
  have g2c := g2.cap
  have c0 : (0 : Int) = ((0 : Nat) : Int) := rfl
  refine ⟨?_, ?_⟩
  · refine s.new (cs := [.int .i64 e.1]) fun bx hx x1 s1 => ?_
    refine ⟨(rp2.ext x1).again hax2 (by omega) m2, ⟨_, _, _, Blk.cellA (kp.ext x1) 1, rfl⟩, ⟨_, _, _, Blk.cellA (kn0.ext x1) 1, rfl⟩, ⟨_, _, _, (kn0.ext x1).cell 0, rfl⟩, ?_, ?_⟩
    · have s2 := s1.to (B := R1 + (cA bx [.int .i64 e.1] (TI).e + (nodeC n en.length kn.length r1 r2 r3 f1 f2 f3 + (R2 + R3) + (nodeC p (e1 ++ e :: e2).length (k1 ++ l :: n :: k2).length p1 p2 p3 c1 c2 c3 + (P1 + (P2 + P3)) + (nodeC l (el ++ [x]).length kl.length l1 l2 l3 d1 d2 d3 + (L1 + (L2 + L3)) + F)))))
      refine (insertI_st (x := e.1) (i := 0) s2 g1 rfl (by omega) (by omega)).mono fun v1 h2' ⟨q1, w1, D1, hv1, o1, s3⟩ => ?_
      refine ⟨_, _, _, hv1, (a2.rd (s3.at P2)).again hax2 (by omega) m2, ⟨_, _, _, (s3.at (nodeC p (e1 ++ e :: e2).length (k1 ++ l :: n :: k2).length p1 p2 p3 c1 c2 c3)).cellA 1, rfl⟩, ⟨_, _, _, (s3.at (nodeC n en.length kn.length r1 r2 r3 f1 f2 f3)).cellA 1, rfl⟩, ?_⟩
      refine s3.new (cs := [.int .i64 e.2]) fun by_ h3' _ s4 => ?_
      refine ⟨⟨_, _, _, (s4.at (nodeC n en.length kn.length r1 r2 r3 f1 f2 f3)).cellA 1, rfl⟩, ?_⟩
      have s5 := s4.to (B := R2 + (cA by_ [.int .i64 e.2] (TI).e + (nodeC n en.length kn.length r1 r2 r3 f1 f2 f3 + (D1 + R3) + (nodeC p (e1 ++ e :: e2).length (k1 ++ l :: n :: k2).length p1 p2 p3 c1 c2 c3 + (P1 + (P2 + P3)) + (nodeC l (el ++ [x]).length kl.length l1 l2 l3 d1 d2 d3 + (L1 + (L2 + L3)) + (F + cA bx [.int .i64 e.1] (TI).e))))))
      refine (insertI_st (x := e.2) (i := 0) s5 g2 rfl (by omega) (by omega)).mono fun v2 h4' ⟨q2, w2, D2, hv2, o2, s6⟩ => ?_
      exact ⟨_, _, _, hv2, fin h4' q1 q2 w1 w2 D1 D2 (cA bx [.int .i64 e.1] (TI).e + cA by_ [.int .i64 e.2] (TI).e) s6.to o1 o2⟩
    · refine s1.new (cs := [.int .i64 e.2]) fun by_ h3' x3 s4 => ?_
      refine ⟨⟨_, _, _, Blk.cellA ((kn0.ext x1).ext x3) 1, rfl⟩, ⟨_, _, _, ((kn0.ext x1).ext x3).cell 0, rfl⟩, ?_⟩
      have s2 := s4.to (B := R1 + (cA bx [.int .i64 e.1] (TI).e + (nodeC n en.length kn.length r1 r2 r3 f1 f2 f3 + (R2 + R3) + (nodeC p (e1 ++ e :: e2).length (k1 ++ l :: n :: k2).length p1 p2 p3 c1 c2 c3 + (P1 + (P2 + P3)) + (nodeC l (el ++ [x]).length kl.length l1 l2 l3 d1 d2 d3 + (L1 + (L2 + L3)) + (F + cA by_ [.int .i64 e.2] (TI).e))))))
      refine (insertI_st (x := e.1) (i := 0) s2 g1 rfl (by omega) (by omega)).mono fun v1 h2' ⟨q1, w1, D1, hv1, o1, s3⟩ => ?_
      refine ⟨_, _, _, hv1, ⟨_, _, _, (s3.at (nodeC n en.length kn.length r1 r2 r3 f1 f2 f3)).cellA 1, rfl⟩, ?_⟩
      have s5 := s3.to (B := R2 + (cA by_ [.int .i64 e.2] (TI).e + (nodeC n en.length kn.length r1 r2 r3 f1 f2 f3 + (D1 + R3) + (nodeC p (e1 ++ e :: e2).length (k1 ++ l :: n :: k2).length p1 p2 p3 c1 c2 c3 + (P1 + (P2 + P3)) + (nodeC l (el ++ [x]).length kl.length l1 l2 l3 d1 d2 d3 + (L1 + (L2 + L3)) + (F + cA bx [.int .i64 e.1] (TI).e))))))
      refine (insertI_st (x := e.2) (i := 0) s5 g2 rfl (by omega) (by omega)).mono fun v2 h4' ⟨q2, w2, D2, hv2, o2, s6⟩ => ?_
      exact ⟨_, _, _, hv2, fin h4' q1 q2 w1 w2 D1 D2 (cA bx [.int .i64 e.1] (TI).e + cA by_ [.int .i64 e.2] (TI).e) s6.to o1 o2⟩
  · refine s.new (cs := [.int .i64 e.2]) fun by_ hx x1 s1 => ?_
    refine ⟨⟨_, _, _, Blk.cellA (kn0.ext x1) 1, rfl⟩, (rp1.ext x1).again hax1 (by omega) m1, ⟨_, _, _, (kp.ext x1).cell 0, rfl⟩, ⟨_, _, _, (kn0.ext x1).cell 0, rfl⟩, ?_⟩
    refine s1.new (cs := [.int .i64 e.1]) fun bx h3' x3 s4 => ?_
    refine ⟨⟨_, _, _, Blk.cellA ((kn0.ext x1).ext x3) 1, rfl⟩, ⟨_, _, _, ((kn0.ext x1).ext x3).cell 0, rfl⟩, ?_⟩
    have s2 := s4.to (B := R1 + (cA bx [.int .i64 e.1] (TI).e + (nodeC n en.length kn.length r1 r2 r3 f1 f2 f3 + (R2 + R3) + (nodeC p (e1 ++ e :: e2).length (k1 ++ l :: n :: k2).length p1 p2 p3 c1 c2 c3 + (P1 + (P2 + P3)) + (nodeC l (el ++ [x]).length kl.length l1 l2 l3 d1 d2 d3 + (L1 + (L2 + L3)) + (F + cA by_ [.int .i64 e.2] (TI).e))))))
    refine (insertI_st (x := e.1) (i := 0) s2 g1 rfl (by omega) (by omega)).mono fun v1 h2' ⟨q1, w1, D1, hv1, o1, s3⟩ => ?_
    refine ⟨_, _, _, hv1, ⟨_, _, _, (s3.at (nodeC n en.length kn.length r1 r2 r3 f1 f2 f3)).cellA 1, rfl⟩, ?_⟩
    have s5 := s3.to (B := R2 + (cA by_ [.int .i64 e.2] (TI).e + (nodeC n en.length kn.length r1 r2 r3 f1 f2 f3 + (D1 + R3) + (nodeC p (e1 ++ e :: e2).length (k1 ++ l :: n :: k2).length p1 p2 p3 c1 c2 c3 + (P1 + (P2 + P3)) + (nodeC l (el ++ [x]).length kl.length l1 l2 l3 d1 d2 d3 + (L1 + (L2 + L3)) + (F + cA bx [.int .i64 e.1] (TI).e))))))
    refine (insertI_st (x := e.2) (i := 0) s5 g2 rfl (by omega) (by omega)).mono fun v2 h4' ⟨q2, w2, D2, hv2, o2, s6⟩ => ?_
    exact ⟨_, _, _, hv2, fin h4' q1 q2 w1 w2 D1 D2 (cA bx [.int .i64 e.1] (TI).e + cA by_ [.int .i64 e.2] (TI).e) s6.to o1 o2⟩
end Go.Proofs.YtkdmcdnfakmapaaGreat

/- B-trees: an entry comes from the right. -/
set_option maxRecDepth 100000
namespace Go.Proofs.YtkdmcdnfakmapaaGreat
open Go Go.Sx
theorem fromRight_b1_ok {h0 h : Hp} {p n r i : Nat} {e1 e2 en er : List E} {e x : E} {k1 k2 kn kr : List Nat} {Ap An Ar F : Bag} (s : St h0 h (Ap + (An + (Ar + F)))) (np : NodeA p (e1 ++ e :: e2) (k1 ++ n :: r :: k2) Ap) (nn : NodeA n en kn An) (nr : NodeA r (x :: er) kr Ar)
    (h1 : e1.length = i) (_hs1 : (e1 ++ e :: e2).length ≤ 1000) (hs2 : er.length ≤ 1000) (hkr : kr = [] ∨ kr.length = er.length + 2) (hkn : kn.length ≤ 2000) (hq : kr = [] ↔ kn = []) {K : Value → Hp → Prop}
    (hk : ∀ h' Bp Bn Br kn' kr', ((kr = [] ∧ kr' = [] ∧ kn' = []) ∨ ∃ z, kr = z :: kr' ∧ kn' = kn ++ [z]) → NodeA p (e1 ++ x :: e2) (k1 ++ n :: r :: k2) Bp → NodeA n en kn' Bn → NodeA r er kr' Br → St h0 h' (Bp + (Bn + (Br + F))) → K (.tuple #[]) h') :
    btree_fromRight_b1 (some ⟨p, 0, none⟩) (i : Int) (some ⟨n, 0, none⟩) (some ⟨r, 0, none⟩) h K := by
  obtain ⟨p1, p2, p3, c1, c2, c3, P1, P2, P3, rfl, ⟨a1, a2, a3⟩⟩ := np
  obtain ⟨l1, l2, l3, d1, d2, d3, L1, L2, L3, rfl, ⟨b1, b2, b3⟩⟩ := nn
  obtain ⟨r1, r2, r3, f1, f2, f3, R1, R2, R3, rfl, ⟨g1, g2, g3⟩⟩ := nr
  have he : (e1 ++ e :: e2).length = i + 1 + e2.length := by simp; omega
  have hl : (x :: er).length = er.length + 1 := rfl
  have y1 : ((e1 ++ e :: e2).map Prod.fst).set i x.1 = (e1 ++ x :: e2).map Prod.fst := by rw [List.map_append, List.map_cons, set_mid (by simpa using h1)]; simp
  have y2 : ((e1 ++ e :: e2).map Prod.snd).set i x.2 = (e1 ++ x :: e2).map Prod.snd := by rw [List.map_append, List.map_cons, set_mid (by simpa using h1)]; simp
  have xl : (e1 ++ x :: e2).length = (e1 ++ e :: e2).length := by simp
  rw [btree_fromRight_b1_eq]
  have kp := (s.at (nodeC p (e1 ++ e :: e2).length (k1 ++ n :: r :: k2).length p1 p2 p3 c1 c2 c3)).blk
  have kr0 := (s.at (nodeC r (x :: er).length kr.length r1 r2 r3 f1 f2 f3)).blk
  have e0 : Int.toNat (0 : Int) = 0 := rfl
  refine ⟨_, _, _, kp.cell 0, _, _, _, Blk.cellA kp 1, _, _, _, kr0.cell 0, (g1.rd (s.at R1)).int (by omega) (by omega) ?_⟩
  refine ⟨_, _, _, Blk.cellA kr0 1, (g2.rd (s.at R2)).int (by omega) (by omega) ?_⟩
  rw [e0]
  refine a1.wrI (s.at P1) (x := x.1) (by omega) (by omega) rfl rfl fun h18 P1' a1' s1 => ?_
  rw [Int.toNat_natCast, y1] at a1'
  refine a2.wrI (s1.at P2) (x := x.2) (by omega) (by omega) rfl rfl fun h19 P2' a2' s2 => ?_
  rw [Int.toNat_natCast, y2] at a2'
  have kr2 := (s2.at (nodeC r (x :: er).length kr.length r1 r2 r3 f1 f2 f3)).blk
  refine ⟨_, _, _, kr2.cell 0, _, _, _, Blk.cellA kr2 1, ?_⟩
  refine (deleteI_st (s2.at R1) g1 (i := 0) (by omega) rfl (by omega)).mono fun v1 h20 ⟨R1', hv1, g1', s3⟩ => ?_
  refine ⟨_, _, _, hv1, ⟨_, _, _, (s3.at (nodeC r (x :: er).length kr.length r1 r2 r3 f1 f2 f3)).cellA 1, rfl⟩, ?_⟩
  refine (deleteI_st (s3.at R2) g2 (i := 0) (by omega) rfl (by omega)).mono fun v2 h21 ⟨R2', hv2, g2', s4⟩ => ?_
  refine ⟨_, _, _, hv2, ?_⟩
  have g1' : Sl TI r1 er.length f1 (er.map Prod.fst) R1' := g1'
  have g2' : Sl TI r2 er.length f2 (er.map Prod.snd) R2' := g2'
  refine wr2 (n' := er.length) (s4.at (nodeC r (x :: er).length kr.length r1 r2 r3 f1 f2 f3)) fun h23 s5 => ?_
  have nr' : NodeA r er kr (nodeC r er.length kr.length r1 r2 r3 f1 f2 f3 + (R1' + (R2' + R3))) := ⟨r1, r2, r3, f1, f2, f3, R1', R2', R3, rfl, ⟨g1', g2', g3⟩⟩
  have np' : NodeA p (e1 ++ x :: e2) (k1 ++ n :: r :: k2) (nodeC p (e1 ++ e :: e2).length (k1 ++ n :: r :: k2).length p1 p2 p3 c1 c2 c3 + (P1' + (P2' + P3))) := ⟨p1, p2, p3, c1, c2, c3, P1', P2', P3, by rw [xl], ⟨a1'.cast xl.symm rfl, a2'.cast xl.symm rfl, a3⟩⟩
  have s6 := s5.to (B := nodeC r er.length kr.length r1 r2 r3 f1 f2 f3 + (R1' + (R2' + R3)) + (nodeC p (e1 ++ e :: e2).length (k1 ++ n :: r :: k2).length p1 p2 p3 c1 c2 c3 + (P1' + (P2' + P3)) + (nodeC n en.length kn.length l1 l2 l3 d1 d2 d3 + (L1 + (L2 + L3)) + F)))
  refine (leaf_ok s6 nr').mono fun v7 h24 ⟨hh, hv⟩ => ?_
  subst hh
  refine ⟨_, hv, condN (fun hlf => ?_) (fun hlf => ?_)⟩
  · rcases hkr with rfl | hkr
    · exact absurd rfl hlf
    obtain ⟨z, kr', rfl⟩ : ∃ z kr', kr = z :: kr' := by
      cases kr with
      | nil => simp at hkr
      | cons z kr' => exact ⟨z, kr', rfl⟩
    have kn6 := (s6.at (nodeC n en.length kn.length l1 l2 l3 d1 d2 d3)).blk
    refine ⟨_, _, _, Blk.cellA kn6 2, _, _, _, (s6.at (nodeC r er.length (z :: kr').length r1 r2 r3 f1 f2 f3)).cellA 2, (g3.rd (s6.at R3)).ptr (by omega) (by rw [List.length_cons]; omega) ?_⟩
    refine s6.new (cs := [.pointer (some ⟨z, 0, none⟩)]) fun b6 h25 x6 s7 => ?_
    refine ⟨⟨_, _, _, Blk.cellA (kn6.ext x6) 2, rfl⟩, ?_⟩
    have oz : Sl TP (some ⟨b6, 0, none⟩) 1 1 [z] (cA b6 [.pointer (some ⟨z, 0, none⟩)] (TP).e) := Sl.one rfl
    refine append_sl ok_node (s7.at L3) b3 (oz.rd (s7.at (cA b6 [.pointer (some ⟨z, 0, none⟩)] (TP).e))) (by omega) fun l3' d3' h26 L3' b3' s8 => ?_
    refine (s8.at (nodeC n en.length kn.length l1 l2 l3 d1 d2 d3)).wr (o := 2) (add_mk _ _ _) (by simp) fun h27 s9 => ?_
    have s9 : St h0 h27 (nodeC n en.length (kn.length + 1) l1 l2 l3' d1 d2 d3' + _) := s9
    refine ⟨_, _, _, (s9.at (nodeC r er.length (z :: kr').length r1 r2 r3 f1 f2 f3)).cellA 2, ?_⟩
    refine (deleteP_st (s9.at R3) g3 (i := 0) (by rw [List.length_cons]; omega) rfl (by simp at hkr ⊢; omega)).mono fun v9 h28 ⟨R3', hv9, g3', s10⟩ => ?_
    refine ⟨_, _, _, hv9, ?_⟩
    refine (s10.at (nodeC r er.length (z :: kr').length r1 r2 r3 f1 f2 f3)).wr (o := 2) (add_mk _ _ _) (by simp) fun h29 s11 => ?_
    have s11 : St h0 h29 (nodeC r er.length kr'.length r1 r2 r3 f1 f2 f3 + _) := s11
    have g3' : Sl TP r3 kr'.length f3 kr' R3' := g3'
    refine hk h29 _ (nodeC n en.length (kn ++ [z]).length l1 l2 l3' d1 d2 d3' + (L1 + (L2 + L3'))) (nodeC r er.length kr'.length r1 r2 r3 f1 f2 f3 + (R1' + (R2' + R3'))) (kn ++ [z]) kr' (.inr ⟨z, rfl, rfl⟩) np' ⟨l1, l2, l3', d1, d2, d3', L1, L2, L3', rfl, ⟨b1, b2, b3'.cast (by simp) rfl⟩⟩ ⟨r1, r2, r3, f1, f2, f3, R1', R2', R3', rfl, ⟨g1', g2', g3'⟩⟩ ?_
    rw [show (kn ++ [z]).length = kn.length + 1 by simp]
    exact (s11.to (B := cA b6 [.pointer (some ⟨z, 0, none⟩)] (TP).e + (nodeC p (e1 ++ e :: e2).length (k1 ++ n :: r :: k2).length p1 p2 p3 c1 c2 c3 + (P1' + (P2' + P3)) + (nodeC n en.length (kn.length + 1) l1 l2 l3' d1 d2 d3' + (L1 + (L2 + L3')) + (nodeC r er.length kr'.length r1 r2 r3 f1 f2 f3 + (R1' + (R2' + R3')) + F))))).drop
  · have hk0 : kr = [] := List.eq_nil_of_length_eq_zero hlf
    subst hk0
    have hn0 := hq.1 rfl
    subst hn0
    exact hk h24 _ (nodeC n en.length ([] : List Nat).length l1 l2 l3 d1 d2 d3 + (L1 + (L2 + L3))) _ [] [] (.inl ⟨rfl, rfl, rfl⟩) np' ⟨l1, l2, l3, d1, d2, d3, L1, L2, L3, rfl, ⟨b1, b2, b3⟩⟩ nr' s6.to
theorem fromRight_ok {h0 h : Hp} {p n r i : Nat} {e1 e2 en er : List E} {e x : E} {k1 k2 kn kr : List Nat} {Ap An Ar F : Bag} (s : St h0 h (Ap + (An + (Ar + F)))) (np : NodeA p (e1 ++ e :: e2) (k1 ++ n :: r :: k2) Ap) (nn : NodeA n en kn An) (nr : NodeA r (x :: er) kr Ar)
    (h1 : e1.length = i) (h2 : k1.length = i) (hs1 : (e1 ++ e :: e2).length ≤ 1000) (hs2 : er.length ≤ 900) (hs3 : en.length ≤ 900) (hkr : kr = [] ∨ kr.length = er.length + 2) (hkn : kn.length ≤ 2000) (hq : kr = [] ↔ kn = []) :
    HCalls Tryz.prog 86 #[ptr p, .int .i64 (i : Int)] h (fun v h' => v = .tuple #[] ∧ ∃ Bp Bn Br kn' kr', ((kr = [] ∧ kr' = [] ∧ kn' = []) ∨ ∃ z, kr = z :: kr' ∧ kn' = kn ++ [z]) ∧ NodeA p (e1 ++ x :: e2) (k1 ++ n :: r :: k2) Bp ∧ NodeA n (en ++ [e]) kn' Bn ∧ NodeA r er kr' Br ∧ St h0 h' (Bp + (Bn + (Br + F)))) := by
  have np0 := np
  have nr0 := nr
  obtain ⟨p1, p2, p3, c1, c2, c3, P1, P2, P3, rfl, ⟨a1, a2, a3⟩⟩ := np
  obtain ⟨l1, l2, l3, d1, d2, d3, L1, L2, L3, rfl, ⟨b1, b2, b3⟩⟩ := nn
  obtain ⟨r1, r2, r3, f1, f2, f3, R1, R2, R3, rfl, ⟨g1, g2, g3⟩⟩ := nr
  have he : (e1 ++ e :: e2).length = i + 1 + e2.length := by simp; omega
  have hk : (k1 ++ n :: r :: k2).length = i + 2 + k2.length := by simp; omega
  have m1 : ((e1 ++ e :: e2).map Prod.fst).getD i 0 = e.1 := map_mid h1
  have m2 : ((e1 ++ e :: e2).map Prod.snd).getD i 0 = e.2 := map_mid h1
  have ei2 : ((i : Int) + 1).toNat = i + 1 := by omega
  refine btree_fromRight_call ?_
  rw [btree_fromRight_b0_eq]
  have kp := (s.at (nodeC p (e1 ++ e :: e2).length (k1 ++ n :: r :: k2).length p1 p2 p3 c1 c2 c3)).blk
  have kn0 := (s.at (nodeC n en.length kn.length l1 l2 l3 d1 d2 d3)).blk
  refine ⟨_, _, _, Blk.cellA kp 2, (a3.rd (s.at P3)).ptr (by omega) (by omega) ?_⟩
  rw [Int.toNat_natCast, getD_mid h2]
  refine ⟨_, _, _, Blk.cellA kp 2, ⟨by omega, by omega⟩, (a3.rd (s.at P3)).ptr (by omega) (by omega) ?_⟩
  rw [ei2, getD_mid2 h2]
  have rp1 := a1.rd (s.at P1)
  have rp2 := a2.rd (s.at P2)
  refine ⟨_, _, _, kn0.cell 0, _, _, _, kp.cell 0, rp1.intA (by omega) (by omega) fun ax1 hax1 => ?_⟩
  rw [Int.toNat_natCast, m1]
  refine ⟨_, _, _, Blk.cellA kn0 1, _, _, _, Blk.cellA kp 1, rp2.intA (by omega) (by omega) fun ax2 hax2 => ?_⟩
  rw [Int.toNat_natCast, m2]
  -- the end, whatever came first
  have fin : ∀ (h' : Hp) (q1 q2 : Option Addr) (w1 w2 : Nat) (D1 D2 G : Bag), St h0 h' (nodeC n en.length kn.length l1 l2 l3 d1 d2 d3 + (D1 + (D2 + (L3 + (nodeC p (e1 ++ e :: e2).length (k1 ++ n :: r :: k2).length p1 p2 p3 c1 c2 c3 + (P1 + (P2 + P3)) + (nodeC r (x :: er).length kr.length r1 r2 r3 f1 f2 f3 + (R1 + (R2 + R3)) + (F + G))))))) →
      Sl TI q1 (en.length + 1) w1 (en.map Prod.fst ++ [e.1]) D1 → Sl TI q2 (en.length + 1) w2 (en.map Prod.snd ++ [e.2]) D2 →
      NN (some (⟨n, 0, none⟩ : Addr)) fun a => Wr h' a (.slice q1 (en.length + 1) w1) fun h1 => NN (some (⟨n, 0, none⟩ : Addr)) fun a => Wr h1 (a.add 1) (.slice q2 (en.length + 1) w2) fun h2 =>
      btree_fromRight_b1 (some ⟨p, 0, none⟩) (i : Int) (some ⟨n, 0, none⟩) (some ⟨r, 0, none⟩) h2 (fun v h' => v = .tuple #[] ∧ ∃ Bp Bn Br kn' kr', ((kr = [] ∧ kr' = [] ∧ kn' = []) ∨ ∃ z, kr = z :: kr' ∧ kn' = kn ++ [z]) ∧ NodeA p (e1 ++ x :: e2) (k1 ++ n :: r :: k2) Bp ∧ NodeA n (en ++ [e]) kn' Bn ∧ NodeA r er kr' Br ∧ St h0 h' (Bp + (Bn + (Br + F)))) := by
    intro h' q1 q2 w1 w2 D1 D2 G s' o1 o2
    refine wr2 s' fun h2 s2 => ?_
    have hel : en.length + 1 = (en ++ [e]).length := by simp
    have nn' : NodeA n (en ++ [e]) kn (nodeC n (en.length + 1) kn.length q1 q2 l3 w1 w2 d3 + (D1 + (D2 + L3))) := ⟨q1, q2, l3, w1, w2, d3, D1, D2, L3, by rw [hel], ⟨o1.cast hel (by simp), o2.cast hel (by simp), b3⟩⟩
    refine fromRight_b1_ok (F := F + G) s2.to np0 nn' nr0 h1 hs1 (by omega) hkr hkn hq fun h' Bp Bn Br kn' kr' hkk n1 n2 n3 s3 => ⟨rfl, Bp, Bn, Br, kn', kr', hkk, n1, n2, n3, ?_⟩
    exact (s3.to (B := G + (Bp + (Bn + (Br + F))))).drop
  refine ⟨?_, ?_⟩
  · refine s.new (cs := [.int .i64 e.1]) fun bx hx x1 s1 => ?_
    have ox : Sl TI (some ⟨bx, 0, none⟩) 1 1 [e.1] (cA bx [.int .i64 e.1] 3) := Sl.one rfl
    refine ⟨(rp2.ext x1).again hax2 (by omega) m2, ⟨_, _, _, Blk.cellA (kp.ext x1) 1, rfl⟩, ⟨_, _, _, Blk.cellA (kn0.ext x1) 1, rfl⟩, ⟨_, _, _, (kn0.ext x1).cell 0, rfl⟩, ?_, ?_⟩
    · refine append_sl ok_int (s1.at L1) b1 (ox.rd (s1.at (cA bx [.int .i64 e.1] 3))) (by omega) fun q1 w1 h2' D1 o1 s3 => ?_
      refine ⟨(a2.rd (s3.at P2)).again hax2 (by omega) m2, ⟨_, _, _, (s3.at (nodeC p (e1 ++ e :: e2).length (k1 ++ n :: r :: k2).length p1 p2 p3 c1 c2 c3)).cellA 1, rfl⟩, ⟨_, _, _, (s3.at (nodeC n en.length kn.length l1 l2 l3 d1 d2 d3)).cellA 1, rfl⟩, ?_⟩
      refine s3.new (cs := [.int .i64 e.2]) fun by_ h3' _ s4 => ?_
      have oy : Sl TI (some ⟨by_, 0, none⟩) 1 1 [e.2] (cA by_ [.int .i64 e.2] 3) := Sl.one rfl
      refine ⟨⟨_, _, _, (s4.at (nodeC n en.length kn.length l1 l2 l3 d1 d2 d3)).cellA 1, rfl⟩, ?_⟩
      refine append_sl ok_int (s4.at L2) b2 (oy.rd (s4.at (cA by_ [.int .i64 e.2] 3))) (by omega) fun q2 w2 h4' D2 o2 s6 => ?_
      exact fin h4' q1 q2 w1 w2 D1 D2 (cA bx [.int .i64 e.1] 3 + cA by_ [.int .i64 e.2] 3) s6.to o1 o2
    · refine s1.new (cs := [.int .i64 e.2]) fun by_ h3' x3 s4 => ?_
      have oy : Sl TI (some ⟨by_, 0, none⟩) 1 1 [e.2] (cA by_ [.int .i64 e.2] 3) := Sl.one rfl
      refine ⟨⟨_, _, _, Blk.cellA ((kn0.ext x1).ext x3) 1, rfl⟩, ⟨_, _, _, ((kn0.ext x1).ext x3).cell 0, rfl⟩, ?_⟩
      refine append_sl ok_int (s4.at L1) b1 (ox.rd (s4.at (cA bx [.int .i64 e.1] 3))) (by omega) fun q1 w1 h2' D1 o1 s3 => ?_
      refine ⟨⟨_, _, _, (s3.at (nodeC n en.length kn.length l1 l2 l3 d1 d2 d3)).cellA 1, rfl⟩, ?_⟩
      refine append_sl ok_int (s3.at L2) b2 (oy.rd (s3.at (cA by_ [.int .i64 e.2] 3))) (by omega) fun q2 w2 h4' D2 o2 s6 => ?_
      exact fin h4' q1 q2 w1 w2 D1 D2 (cA bx [.int .i64 e.1] 3 + cA by_ [.int .i64 e.2] 3) s6.to o1 o2
  · refine s.new (cs := [.int .i64 e.2]) fun by_ hx x1 s1 => ?_
    have oy : Sl TI (some ⟨by_, 0, none⟩) 1 1 [e.2] (cA by_ [.int .i64 e.2] 3) := Sl.one rfl
    refine ⟨⟨_, _, _, Blk.cellA (kn0.ext x1) 1, rfl⟩, (rp1.ext x1).again hax1 (by omega) m1, ⟨_, _, _, (kp.ext x1).cell 0, rfl⟩, ⟨_, _, _, (kn0.ext x1).cell 0, rfl⟩, ?_⟩
    refine s1.new (cs := [.int .i64 e.1]) fun bx h3' x3 s4 => ?_
    have ox : Sl TI (some ⟨bx, 0, none⟩) 1 1 [e.1] (cA bx [.int .i64 e.1] 3) := Sl.one rfl
    refine ⟨⟨_, _, _, Blk.cellA ((kn0.ext x1).ext x3) 1, rfl⟩, ⟨_, _, _, ((kn0.ext x1).ext x3).cell 0, rfl⟩, ?_⟩
    refine append_sl ok_int (s4.at L1) b1 (ox.rd (s4.at (cA bx [.int .i64 e.1] 3))) (by omega) fun q1 w1 h2' D1 o1 s3 => ?_
    refine ⟨⟨_, _, _, (s3.at (nodeC n en.length kn.length l1 l2 l3 d1 d2 d3)).cellA 1, rfl⟩, ?_⟩
    refine append_sl ok_int (s3.at L2) b2 (oy.rd (s3.at (cA by_ [.int .i64 e.2] 3))) (by omega) fun q2 w2 h4' D2 o2 s6 => ?_
    exact fin h4' q1 q2 w1 w2 D1 D2 (cA bx [.int .i64 e.1] 3 + cA by_ [.int .i64 e.2] 3) s6.to o1 o2
end Go.Proofs.YtkdmcdnfakmapaaGreat

/- B-trees: neighbouring subtrees. -/
set_option maxRecDepth 100000
namespace Go.Proofs.YtkdmcdnfakmapaaGreat
open Go Go.Sx
def Kids : Nat → List Nat → BT → Bag → Prop
  | 0, ks, t, A => ks = [] ∧ t.ts = [] ∧ A = 0
  | m + 1, ks, t, A => ks.length = t.es.length + 1 ∧ AllH (Hold m) ks t.ts A
theorem Hold.open_ {m b : Nat} {t : BT} {A : Bag} (h : Hold m b t A) : ∃ ks A1 A2, A = A1 + A2 ∧ NodeA b t.es ks A1 ∧ Kids m ks t A2 := by
  cases m with
  | zero => exact ⟨[], A, 0, (Bag.add_zero A).symm, h.2, rfl, h.1, rfl⟩
  | succ m =>
    obtain ⟨ks, A1, A2, e, h1, h2, h3⟩ := h
    exact ⟨ks, A1, A2, e, h1, h2, h3⟩
theorem Kids.close {m b : Nat} {t : BT} {ks : List Nat} {A1 A2 : Bag} (k : Kids m ks t A2) (n : NodeA b t.es ks A1) : Hold m b t (A1 + A2) := by
  cases m with
  | zero =>
    obtain ⟨rfl, h1, rfl⟩ := k
    exact ⟨h1, by rw [Bag.add_zero]; exact n⟩
  | succ m => exact ⟨ks, A1, A2, rfl, n, k.1, k.2⟩
theorem Kids.nil_iff {m : Nat} {t : BT} {ks : List Nat} {A : Bag} (k : Kids m ks t A) : ks = [] ↔ m = 0 := by
  cases m with
  | zero => exact ⟨fun _ => rfl, fun _ => k.1⟩
  | succ m => exact ⟨fun h => (by have := k.1; rw [h] at this; simp at this), fun h => by omega⟩
theorem Kids.len {m : Nat} {t : BT} {ks : List Nat} {A : Bag} (k : Kids m ks t A) : ks = [] ∨ ks.length = t.es.length + 1 := by
  cases m with
  | zero => exact .inl k.1
  | succ m => exact .inr k.1
theorem Kids.le {m : Nat} {t : BT} {ks : List Nat} {A : Bag} (k : Kids m ks t A) : ks.length ≤ t.es.length + 1 := by
  rcases k.len with h | h
  · rw [h]; simp
  · omega
theorem Kids.ts {m : Nat} {t : BT} {ks : List Nat} {A : Bag} (k : Kids m ks t A) : t.ts.length = ks.length := by
  cases m with
  | zero => rw [k.1, k.2.1]; rfl
  | succ m => exact k.2.len.symm
/-! ### one node of two -/
def mg (a : BT) (e : E) (b : BT) : BT := .nd (a.es ++ e :: b.es) (a.ts ++ b.ts)
theorem Kids.mg {m : Nat} {a b : BT} {e : E} {ka kb : List Nat} {A B : Bag} (ha : Kids m ka a A) (hb : Kids m kb b B) : Kids m (ka ++ kb) (mg a e b) (A + B) := by
  cases m with
  | zero =>
    obtain ⟨rfl, h1, rfl⟩ := ha
    obtain ⟨rfl, h2, rfl⟩ := hb
    exact ⟨rfl, by show a.ts ++ b.ts = []; rw [h1, h2]; rfl, Bag.add_zero 0⟩
  | succ m =>
    refine ⟨?_, ha.2.append hb.2⟩
    show (ka ++ kb).length = (a.es ++ e :: b.es).length + 1
    simp [ha.1, hb.1]; omega
theorem flat_mg {m : Nat} {a b : BT} {e : E} {ka kb : List Nat} {A B : Bag} (ha : Kids m ka a A) (hb : Kids m kb b B) : flat m (mg a e b) = flat m a ++ e :: flat m b := by
  cases m with
  | zero => rfl
  | succ m =>
    show weave ((a.ts ++ b.ts).map (flat m)) (a.es ++ e :: b.es) = _
    rw [List.map_append, weave_cut _ _ _ _ _ (by rw [List.length_map, ha.ts, ha.1]) (by rw [List.length_map, hb.ts, hb.1])]
    rfl
theorem Sz.mg {lo hi m : Nat} {a b : BT} {e : E} (ha : ∀ m', m = m' + 1 → ∀ c ∈ a.ts, Sz lo hi m' c) (hb : ∀ m', m = m' + 1 → ∀ c ∈ b.ts, Sz lo hi m' c) (h1 : lo ≤ a.es.length + 1 + b.es.length) (h2 : a.es.length + 1 + b.es.length ≤ hi) : Sz lo hi m (mg a e b) := by
  have hl : (Go.Proofs.YtkdmcdnfakmapaaGreat.mg a e b).es.length = a.es.length + 1 + b.es.length := by show (a.es ++ e :: b.es).length = _; simp; omega
  cases m with
  | zero => exact ⟨by rw [hl]; exact h1, by rw [hl]; exact h2⟩
  | succ m =>
    refine ⟨⟨by rw [hl]; exact h1, by rw [hl]; exact h2⟩, fun c hc => ?_⟩
    rcases List.mem_append.1 hc with h | h
    · exact ha m rfl c h
    · exact hb m rfl c h
/-! ### an entry from the left -/
theorem left_trees {lo hi m : Nat} {a b : BT} {e x : E} {ea : List E} {ka kb ka' kb' : List Nat} {A B : Bag} (hae : a.es = ea ++ [x]) (ha : Kids m ka a A) (hb : Kids m kb b B) (hk : (ka = [] ∧ ka' = [] ∧ kb' = []) ∨ ∃ z, ka = ka' ++ [z] ∧ kb' = z :: kb)
    (sa : ∀ m', m = m' + 1 → ∀ c ∈ a.ts, Sz lo hi m' c) (sb : ∀ m', m = m' + 1 → ∀ c ∈ b.ts, Sz lo hi m' c) :
    ∃ a' b' A' B', A + B = A' + B' ∧ a'.es = ea ∧ b'.es = e :: b.es ∧ Kids m ka' a' A' ∧ Kids m kb' b' B' ∧ flat m a ++ e :: flat m b = flat m a' ++ x :: flat m b' ∧ (∀ m', m = m' + 1 → ∀ c ∈ a'.ts, Sz lo hi m' c) ∧ (∀ m', m = m' + 1 → ∀ c ∈ b'.ts, Sz lo hi m' c) := by
  cases m with
  | zero =>
    obtain ⟨h1, h2, rfl⟩ := ha
    obtain ⟨h3, h4, rfl⟩ := hb
    rcases hk with ⟨_, rfl, rfl⟩ | ⟨z, h, _⟩
    · refine ⟨.nd ea [], .nd (e :: b.es) [], 0, 0, rfl, rfl, rfl, ⟨rfl, rfl, rfl⟩, ⟨rfl, rfl, rfl⟩, ?_, fun m' h => by omega, fun m' h => by omega⟩
      show a.es ++ e :: b.es = ea ++ x :: (e :: b.es)
      rw [hae]; simp
    · rw [h1] at h; simp at h
  | succ m =>
    have ha1 := ha.1
    have hb1 := hb.1
    rcases hk with ⟨h, _, _⟩ | ⟨z, rfl, rfl⟩
    · rw [h] at ha1; simp at ha1
    have hts := ha.ts
    obtain ⟨ta, tz, hta⟩ : ∃ ta tz, a.ts = ta ++ [tz] := by
      rcases List.eq_nil_or_concat a.ts with h | ⟨ta, tz, h⟩
      · rw [h] at hts; simp at hts
      · exact ⟨ta, tz, by simpa using h⟩
    have hlen : ka'.length = ta.length := by rw [hta] at hts; simpa using hts.symm
    have hall := ha.2
    rw [hta] at hall
    obtain ⟨A1, A2, rfl, g1, g2⟩ := AllH.split _ _ hlen hall
    obtain ⟨A3, A4, rfl, g3, g4⟩ := g2
    obtain rfl : A4 = 0 := g4
    rw [hae] at ha1
    refine ⟨.nd ea ta, .nd (e :: b.es) (tz :: b.ts), A1, A3 + B, by ac_rfl, rfl, rfl, ⟨?_, g1⟩, ⟨?_, A3, B, rfl, g3, hb.2⟩, ?_, fun m' h c hc => ?_, fun m' h c hc => ?_⟩
    · show ka'.length = ea.length + 1
      simpa using ha1
    · show (z :: kb).length = (e :: b.es).length + 1
      simp [hb1]
    · show weave (a.ts.map (flat m)) a.es ++ e :: weave (b.ts.map (flat m)) b.es = weave (ta.map (flat m)) ea ++ x :: weave ((tz :: b.ts).map (flat m)) (e :: b.es)
      have hcut := weave_cut (ta.map (flat m)) ea x [flat m tz] [] (by rw [List.length_map, ← hlen]; simpa using ha1) rfl
      have hcut2 := weave_cut [flat m tz] [] e (b.ts.map (flat m)) b.es rfl (by rw [List.length_map, hb.ts, hb1])
      rw [hae, hta, List.map_append, List.map_cons, List.map_nil, hcut, List.append_assoc]
      congr 1
      rw [List.map_cons, List.cons_append]
      congr 1
      exact hcut2.symm
    · obtain rfl : m = m' := by omega
      exact sa m rfl c (by rw [hta]; exact List.mem_append_left _ hc)
    · obtain rfl : m = m' := by omega
      rcases List.mem_cons.1 hc with rfl | hc
      · exact sa m rfl c (by rw [hta]; simp)
      · exact sb m rfl c hc
/-! ### an entry from the right -/
theorem right_trees {lo hi m : Nat} {a b : BT} {e x : E} {eb : List E} {ka kb ka' kb' : List Nat} {A B : Bag} (hbe : b.es = x :: eb) (ha : Kids m ka a A) (hb : Kids m kb b B) (hk : (kb = [] ∧ kb' = [] ∧ ka' = []) ∨ ∃ z, kb = z :: kb' ∧ ka' = ka ++ [z])
    (sa : ∀ m', m = m' + 1 → ∀ c ∈ a.ts, Sz lo hi m' c) (sb : ∀ m', m = m' + 1 → ∀ c ∈ b.ts, Sz lo hi m' c) :
    ∃ a' b' A' B', A + B = A' + B' ∧ a'.es = a.es ++ [e] ∧ b'.es = eb ∧ Kids m ka' a' A' ∧ Kids m kb' b' B' ∧ flat m a ++ e :: flat m b = flat m a' ++ x :: flat m b' ∧ (∀ m', m = m' + 1 → ∀ c ∈ a'.ts, Sz lo hi m' c) ∧ (∀ m', m = m' + 1 → ∀ c ∈ b'.ts, Sz lo hi m' c) := by
  cases m with
  | zero =>
    obtain ⟨h1, h2, rfl⟩ := ha
    obtain ⟨h3, h4, rfl⟩ := hb
    rcases hk with ⟨_, rfl, rfl⟩ | ⟨z, h, _⟩
    · refine ⟨.nd (a.es ++ [e]) [], .nd eb [], 0, 0, rfl, rfl, rfl, ⟨rfl, rfl, rfl⟩, ⟨rfl, rfl, rfl⟩, ?_, fun m' h => by omega, fun m' h => by omega⟩
      show a.es ++ e :: b.es = (a.es ++ [e]) ++ x :: eb
      rw [hbe]; simp
    · rw [h3] at h; simp at h
  | succ m =>
    have ha1 := ha.1
    have hb1 := hb.1
    rcases hk with ⟨h, _, _⟩ | ⟨z, rfl, rfl⟩
    · rw [h] at hb1; simp at hb1
    have hts := hb.ts
    obtain ⟨tz, tb, htb⟩ : ∃ tz tb, b.ts = tz :: tb := by
      cases h : b.ts with
      | nil => rw [h] at hts; simp at hts
      | cons tz tb => exact ⟨tz, tb, rfl⟩
    have hall := hb.2
    rw [htb] at hall
    obtain ⟨A1, A2, rfl, g1, g2⟩ := hall
    have hlen := g2.len
    rw [hbe] at hb1
    refine ⟨.nd (a.es ++ [e]) (a.ts ++ [tz]), .nd eb tb, A + A1, A2, by ac_rfl, rfl, rfl, ⟨?_, ha.2.append (AllH.one g1)⟩, ⟨?_, g2⟩, ?_, fun m' h c hc => ?_, fun m' h c hc => ?_⟩
    · show (ka ++ [z]).length = (a.es ++ [e]).length + 1
      simp [ha1]
    · show kb'.length = eb.length + 1
      simpa using hb1
    · show weave (a.ts.map (flat m)) a.es ++ e :: weave (b.ts.map (flat m)) b.es = weave ((a.ts ++ [tz]).map (flat m)) (a.es ++ [e]) ++ x :: weave (tb.map (flat m)) eb
      have hcut := weave_cut (a.ts.map (flat m)) a.es e [flat m tz] [] (by rw [List.length_map, ha.ts, ha1]) rfl
      have hcut2 := weave_cut [flat m tz] [] x (tb.map (flat m)) eb rfl (by rw [List.length_map, ← hlen]; simpa using hb1)
      rw [List.map_append, List.map_cons, List.map_nil, hcut, hbe, htb, List.append_assoc]
      congr 1
      rw [List.cons_append]
      congr 1
    · obtain rfl : m = m' := by omega
      rcases List.mem_append.1 hc with hc | hc
      · exact sa m rfl c hc
      · simp at hc; subst hc; exact sb m rfl _ (by rw [htb]; simp)
    · obtain rfl : m = m' := by omega
      exact sb m rfl c (by rw [htb]; exact List.mem_cons_of_mem _ hc)
/-- The number of entries, and those of the children. -/
theorem Sz.of {lo hi m : Nat} {t : BT} (h : lo ≤ t.es.length ∧ t.es.length ≤ hi) (hk : ∀ m', m = m' + 1 → ∀ c ∈ t.ts, Sz lo hi m' c) : Sz lo hi m t := by
  cases m with
  | zero => exact h
  | succ m => exact ⟨h, hk m rfl⟩
theorem Sz.kids {lo hi m : Nat} {t : BT} (h : Sz lo hi m t) : ∀ m', m = m' + 1 → ∀ c ∈ t.ts, Sz lo hi m' c := by
  intro m' hm c hc
  subst hm
  exact h.2 c hc
end Go.Proofs.YtkdmcdnfakmapaaGreat

/- B-trees: nodes with too few entries are mended. -/
set_option maxRecDepth 100000
namespace Go.Proofs.YtkdmcdnfakmapaaGreat
open Go Go.Sx
section
variable {h0 : Hp} {order tb : Nat} {target : List E}
/-- The root of the tree, which may have no entry left. -/
theorem shrink_b3_ok {h : Hp} {n root : Nat} {t : BT} {vis : Int} {A F : Bag} {K : Value → Hp → Prop} (hor : 3 ≤ order) (hh : Hold n root t A) (hf : flat n t = target) (hle : t.es.length ≤ order - 1) (hz : ∀ m, n = m + 1 → ∀ c ∈ t.ts, Sz ((order + 1) / 2 - 1) (order - 1) m c)
    (s : St h0 h (treeC tb order target.length (some ⟨root, 0, none⟩) vis + (A + F))) (hk : ∀ h' A', TreeA order target tb vis A' → St h0 h' (A' + F) → K (.tuple #[]) h') :
    btree_Tree_shrink_b3 (some ⟨tb, 0, none⟩) h K := by
  rw [btree_Tree_shrink_b3_eq]
  have sA : St h0 h (A + (treeC tb order target.length (some ⟨root, 0, none⟩) vis + F)) := s.to
  obtain ⟨p1, p2, p3, c1, c2, c3, m3, kb, _, _, hleaf⟩ := hh.read sA
  refine ⟨_, s.cellA 2, _, _, _, kb.cell 0, condP (fun h1 => ?_) (fun h1 => ?_)⟩
  · have he : t.es = [] := List.eq_nil_of_length_eq_zero (by omega)
    refine ⟨_, s.cellA 2, hleaf.mono fun v h2 ⟨hh2, hv⟩ => ?_⟩
    subst hh2
    refine ⟨_, hv, condP (fun hn0 => ?_) (fun hn0 => ?_)⟩
    · subst hn0
      refine s.wr (o := 2) (add_mk _ _ _) (by simp) fun h3 s3 => ?_
      have ht : target = [] := by rw [← hf]; exact he
      subst ht
      exact hk h3 _ (.inl ⟨rfl, rfl⟩) ((show St h0 h3 (treeC tb order 0 none vis + (A + F)) from s3).to (B := A + (treeC tb order 0 none vis + F))).drop
    · obtain ⟨m, rfl⟩ : ∃ m, n = m + 1 := ⟨n - 1, by omega⟩
      obtain ⟨ks, A1, A2, rfl, hna, hkl, hall⟩ := hh
      rw [he] at hkl
      obtain ⟨k, rfl⟩ := List.length_eq_one_iff.1 (show ks.length = 1 from hkl)
      have hlt := hall.len
      obtain ⟨c, hc⟩ := List.length_eq_one_iff.1 (show t.ts.length = 1 from hlt.symm)
      rw [hc] at hall
      obtain ⟨B1, B2, rfl, g1, g2⟩ := hall
      obtain rfl : B2 = 0 := g2
      obtain ⟨q1, q2, q3, d1, d2, d3, C1, C2, C3, rfl, ns⟩ := hna
      refine ⟨_, s.cellA 2, _, _, _, (s.at (nodeC root t.es.length [k].length q1 q2 q3 d1 d2 d3)).cellA 2, (ns.s3.rd (s.at C3)).ptr (by omega) (by simp) ?_⟩
      refine s.wr (o := 2) (add_mk _ _ _) (by simp) fun h3 s3 => ?_
      have s3 : St h0 h3 (treeC tb order target.length (some ⟨k, 0, none⟩) vis + (nodeC root t.es.length [k].length q1 q2 q3 d1 d2 d3 + (C1 + (C2 + C3)) + (B1 + 0) + F)) := s3
      have hfc : flat m c = target := by
        rw [← hf]
        show _ = weave (t.ts.map (flat m)) t.es
        rw [hc, he]
        simp [weave, wR]
      refine hk h3 _ (.inr ⟨m, k, c, B1, rfl, g1, hfc, ?_⟩) (s3.to (B := (nodeC root t.es.length [k].length q1 q2 q3 d1 d2 d3 + (C1 + (C2 + C3))) + (treeC tb order target.length (some ⟨k, 0, none⟩) vis + B1 + F))).drop
      have hzc := hz m rfl c (by rw [hc]; simp)
      cases m with
      | zero =>
        have : (order + 1) / 2 - 1 ≤ c.es.length ∧ c.es.length ≤ order - 1 := hzc
        exact ⟨by omega, this.2⟩
      | succ m => exact ⟨⟨by have := hzc.1.1; omega, hzc.1.2⟩, hzc.2⟩
  · refine hk h _ (.inr ⟨n, root, t, A, rfl, hh, hf, ?_⟩) s.to
    cases n with
    | zero => exact ⟨by omega, hle⟩
    | succ n => exact ⟨⟨by omega, hle⟩, hz n rfl⟩
end
/-- A node on a way that may have one entry too few. -/
def ShrS (h0 : Hp) (order n len root tb : Nat) (target : List E) (N : List Nat) (I : List Int) (B F : Bag) (d : Int) (vis : Int) (h : Hp) : Prop :=
  ∃ m fs k U Ac Au N' I', d = (fs.length : Int) ∧ N = blks fs ++ k :: N' ∧ I = idxs fs ++ I' ∧ HoldC root m fs k Ac ∧ Hold m k U Au ∧ St h0 h (treeC tb order len (some ⟨root, 0, none⟩) vis + (Ac + (Au + (B + F)))) ∧
    Lb m fs ++ (flat m U ++ Rb m fs) = target ∧ SzC ((order + 1) / 2 - 1) (order - 1) m fs ∧ (lo' ((order + 1) / 2 - 1) fs ≤ U.es.length + 1 ∧ U.es.length ≤ order - 1) ∧ (∀ m', m = m' + 1 → ∀ c ∈ U.ts, Sz ((order + 1) / 2 - 1) (order - 1) m' c) ∧ m + fs.length = n
/-- The same number of entries in the node above: the tree is whole again. -/
theorem whole {order n m k root : Nat} {fs : List Fr} {T : BT} {Ac A : Bag} {target : List E} (hc : HoldC root m fs k Ac) (hu : Hold m k T A) (hf : Lb m fs ++ (flat m T ++ Rb m fs) = target) (sc : SzC ((order + 1) / 2 - 1) (order - 1) m fs) (hT : lo' ((order + 1) / 2 - 1) fs ≤ T.es.length ∧ T.es.length ≤ order - 1) (hk : ∀ m', m = m' + 1 → ∀ c ∈ T.ts, Sz ((order + 1) / 2 - 1) (order - 1) m' c) (hn : m + fs.length = n) :
    Hold n root (plug fs T) (Ac + A) ∧ flat n (plug fs T) = target ∧ SzR ((order + 1) / 2 - 1) (order - 1) n (plug fs T) := by
  subst hn
  exact ⟨hc.plug hu, by rw [flat_plug T hc.ok]; exact hf, sc.plug ⟨hT, hk⟩⟩
end Go.Proofs.YtkdmcdnfakmapaaGreat

/- B-trees: one step of mending. -/
set_option maxRecDepth 100000
namespace Go.Proofs.YtkdmcdnfakmapaaGreat
open Go Go.Sx
theorem HoldF.left {m k : Nat} {f : Fr} {A : Bag} {eL' : List E} {e : E} (hf : HoldF m f k A) (he : f.eL = eL' ++ [e]) : ∃ kL' l tL' tl Ap B1 Al B2, A = Ap + (B1 + (Al + B2)) ∧ f.tL = tL' ++ [tl] ∧ kL'.length = eL'.length ∧ tL'.length = eL'.length ∧ f.tR.length = f.eR.length ∧
    f.kL = kL' ++ [l] ∧ NodeA f.b (eL' ++ e :: f.eR) (kL' ++ l :: k :: f.kR) Ap ∧ AllH (Hold m) kL' tL' B1 ∧ Hold m l tl Al ∧ AllH (Hold m) f.kR f.tR B2 := by
  obtain ⟨l1, l2, A1, A2, A3, rfl, hn, h1, h2⟩ := hf
  rw [he] at l1 hn
  simp only [List.length_append, List.length_cons, List.length_nil] at l1
  obtain ⟨tL', tl, htl⟩ : ∃ a x, f.tL = a ++ [x] := by
    rcases List.eq_nil_or_concat f.tL with h | ⟨a, x, h⟩
    · rw [h] at l1; simp at l1
    · exact ⟨a, x, by simpa using h⟩
  have hkl := h1.len
  obtain ⟨kL', l, hkl'⟩ : ∃ a x, f.kL = a ++ [x] := by
    rcases List.eq_nil_or_concat f.kL with h | ⟨a, x, h⟩
    · rw [h] at hkl; rw [htl] at hkl; simp at hkl
    · exact ⟨a, x, by simpa using h⟩
  rw [htl] at l1 hkl
  rw [hkl'] at hkl
  simp at l1 hkl
  rw [hkl', htl] at h1
  obtain ⟨B1, C, rfl, g1, g2⟩ := AllH.split kL' tL' (by omega) h1
  obtain ⟨Al, Z, rfl, g3, g4⟩ := g2
  obtain rfl : Z = 0 := g4
  refine ⟨kL', l, tL', tl, A1, B1, Al, A3, by ac_rfl, htl, by omega, by omega, l2, hkl', ?_, g1, g3, h2⟩
  rw [hkl'] at hn
  simpa using hn
theorem HoldF.right {m k : Nat} {f : Fr} {A : Bag} {eR' : List E} {e : E} (hf : HoldF m f k A) (he : f.eR = e :: eR') : ∃ r kR' tr tR' Ap B1 Ar B2, A = Ap + (B1 + (Ar + B2)) ∧ f.tR = tr :: tR' ∧ f.kL.length = f.eL.length ∧ f.tL.length = f.eL.length ∧ tR'.length = eR'.length ∧
    f.kR = r :: kR' ∧ NodeA f.b (f.eL ++ e :: eR') (f.kL ++ k :: r :: kR') Ap ∧ AllH (Hold m) f.kL f.tL B1 ∧ Hold m r tr Ar ∧ AllH (Hold m) kR' tR' B2 := by
  obtain ⟨l1, l2, A1, A2, A3, rfl, hn, h1, h2⟩ := hf
  rw [he] at l2 hn
  have hkl := h1.len
  have hkr := h2.len
  obtain ⟨tr, tR', htr⟩ : ∃ x a, f.tR = x :: a := by
    cases h : f.tR with
    | nil => rw [h] at l2; simp at l2
    | cons x a => exact ⟨x, a, rfl⟩
  obtain ⟨r, kR', hkr'⟩ : ∃ x a, f.kR = x :: a := by
    cases h : f.kR with
    | nil => rw [h, htr] at hkr; simp at hkr
    | cons x a => exact ⟨x, a, rfl⟩
  rw [htr] at l2
  simp at l2
  rw [htr, hkr'] at h2
  obtain ⟨Ar, B2, rfl, g1, g2⟩ := h2
  refine ⟨r, kR', tr, tR', A1, A2, Ar, B2, rfl, htr, by omega, l1, by omega, hkr', ?_, h1, g1, g2⟩
  rw [hkr'] at hn
  exact hn
theorem flat_two {m : Nat} {eL eR : List E} {e : E} {tL tR : List BT} {a b : BT} (h1 : tL.length = eL.length) : flat (m + 1) (.nd (eL ++ e :: eR) (tL ++ a :: b :: tR)) = wL (tL.map (flat m)) eL ++ ((flat m a ++ e :: flat m b) ++ wR eR (tR.map (flat m))) := by
  show weave ((tL ++ a :: b :: tR).map (flat m)) (eL ++ e :: eR) = _
  rw [List.map_append, List.map_cons, weave_at _ _ _ _ _ (by simpa using h1)]
  simp [wR]
theorem flat_one {m : Nat} {eL eR : List E} {tL tR : List BT} {a : BT} (h1 : tL.length = eL.length) : flat (m + 1) (.nd (eL ++ eR) (tL ++ a :: tR)) = wL (tL.map (flat m)) eL ++ (flat m a ++ wR eR (tR.map (flat m))) := by
  show weave ((tL ++ a :: tR).map (flat m)) (eL ++ eR) = _
  rw [List.map_append, List.map_cons, weave_at _ _ _ _ _ (by simpa using h1)]
theorem blks_cons (f : Fr) (fs : List Fr) (N : List Nat) : blks (f :: fs) ++ N = blks fs ++ f.b :: N := by simp [blks]
theorem idxs_cons (f : Fr) (fs : List Fr) (I : List Int) : idxs (f :: fs) ++ I = idxs fs ++ (f.eL.length : Int) :: I := by simp [idxs]
section
variable {h0 : Hp} {order n len root tb : Nat} {target : List E} {N : List Nat} {I : List Int} {B F : Bag} {nodes atv : Option Addr} {nC aC : Nat} {nx0 : Int × Unit → Hp → Prop} {K : Value → Hp → Prop}
/-- The nodes are merged. -/
theorem shrink_b5_ok {h : Hp} {vis : Int} {m k : Nat} {f : Fr} {fs : List Fr} {U : BT} {Af Ac Au : Bag} {N' : List Nat} {I' : List Int} (hor : 3 ≤ order) (h64 : order ≤ 64) (hfs : fs.length ≤ 1000)
    (hN : N = blks fs ++ f.b :: N') (hI : I = idxs fs ++ I') (hF : HoldF m f k Af) (hC : HoldC root (m + 1) fs f.b Ac) (hu : Hold m k U Au)
    (s : St h0 h (treeC tb order len (some ⟨root, 0, none⟩) vis + (Af + (Ac + (Au + (B + F)))))) (hf : Lb (m + 1) fs ++ (flat (m + 1) (fill f U) ++ Rb (m + 1) fs) = target) (sc : SzC ((order + 1) / 2 - 1) (order - 1) m (f :: fs))
    (hU : U.es.length + 1 = (order + 1) / 2 - 1) (hk : ∀ m', m = m' + 1 → ∀ c ∈ U.ts, Sz ((order + 1) / 2 - 1) (order - 1) m' c) (hn : m + 1 + fs.length = n)
    (hL : ∀ t ∈ f.tL.getLast?, t.es.length ≤ (order + 1) / 2 - 1) (hR : f.eL = [] → ∀ t ∈ f.tR.head?, t.es.length ≤ (order + 1) / 2 - 1)
    (hnx : ∀ h', ShrS h0 order n len root tb target N I B F (fs.length : Int) vis h' → nx0 ((fs.length : Int), ()) h') :
    btree_Tree_shrink_b5 (some ⟨tb, 0, none⟩) nodes N.length nC atv I.length aC ((fs.length : Int) + 1) (((order + 1) / 2 - 1 : Nat) : Int) (some ⟨f.b, 0, none⟩) (f.eL.length : Int) h nx0 K := by
  rw [btree_Tree_shrink_b5_eq]
  have hes := sc.1
  have hes2 : (f.eL ++ f.eR).length ≤ order - 1 := hes.2
  have hles : (f.eL ++ f.eR).length = f.eL.length + f.eR.length := List.length_append
  have hlo1 : 1 ≤ (match fs with | [] => 1 | _ => (order + 1) / 2 - 1) := by cases fs <;> simp <;> omega
  refine ⟨⟨by omega, by omega⟩, ?_⟩
  have b6 : ∀ h', ShrS h0 order n len root tb target N I B F (fs.length : Int) vis h' → btree_Tree_shrink_b6 (some ⟨tb, 0, none⟩) nodes N.length nC atv I.length aC ((fs.length : Int) + 1) (((order + 1) / 2 - 1 : Nat) : Int) h' nx0 K := by
    intro h' hs
    rw [btree_Tree_shrink_b6_eq]
    refine ⟨⟨by omega, by omega⟩, ?_⟩
    rw [show (fs.length : Int) + 1 - 1 = (fs.length : Int) by omega]
    exact hnx h' hs
  have szU := Sz.of (lo := U.es.length) (hi := order - 1) (m := 0) (t := U)
  rcases List.eq_nil_or_concat f.eL with h0' | ⟨eL', e, heL⟩
  · -- with the right one
    obtain ⟨e, eR', heR⟩ : ∃ e eR', f.eR = e :: eR' := by
      cases h : f.eR with
      | nil =>
        have h9 := Nat.le_trans hlo1 hes.1
        rw [hles, h0', h] at h9
        exact absurd h9 (by decide)
      | cons e eR' => exact ⟨e, eR', rfl⟩
    obtain ⟨r, kR', tr, tR', Ap, B1, Ar, B2, rfl, htR, q1, q2, q3, hkR, hnp, g1, g2, g3⟩ := hF.right heR
    have htr := hR h0' tr (by rw [htR]; rfl)
    have hsr : Sz ((order + 1) / 2 - 1) (order - 1) m tr := sc.2.2.1 tr (by rw [htR]; simp)
    have hsrh := hsr.here
    rw [h0'] at q1 q2
    have hkL0 : f.kL = [] := List.eq_nil_of_length_eq_zero q1
    have htL0 : f.tL = [] := List.eq_nil_of_length_eq_zero q2
    rw [hkL0, htL0] at g1
    obtain rfl : B1 = 0 := g1
    rw [h0', hkL0] at hnp
    rw [h0']
    have e0 : (if 0 < (([] : List E).length : Int) - 1 then (([] : List E).length : Int) - 1 else 0) = ((0 : Nat) : Int) := by simp
    rw [e0]
    obtain ⟨ku, U1, U2, rfl, nu, cu⟩ := hu.open_
    obtain ⟨kr, R1, R2, rfl, nr, cr⟩ := g2.open_
    have g3l := g3.len
    have hesr : ((([] : List E) ++ e :: eR')).length ≤ order - 1 := by rw [← heR, ← h0']; exact hes.2
    simp only [List.nil_append, List.length_cons] at hesr
    have cul := cu.le
    have crl := cr.le
    have s1 : St h0 h (Ap + (U1 + (R1 + (U2 + (R2 + (B2 + (treeC tb order len (some ⟨root, 0, none⟩) vis + (Ac + (B + F)))))))) ) := s.to
    refine (merge_ok (i := 0) s1 hnp nu nr rfl rfl (by simp; omega) (by omega) (by omega) (by simp; omega) (by omega) (by omega)).mono fun v h' ⟨hv, Bp, Bl, n1, n2, s2⟩ => ⟨hv, b6 h' ?_⟩
    have hmg := (cu.mg (e := e) cr)
    have hh : Hold m k (mg U e tr) (Bl + (U2 + R2)) := hmg.close n2
    refine ⟨m + 1, fs, f.b, .nd eR' (mg U e tr :: tR'), Ac, Bp + (Bl + (U2 + R2) + B2), N', I', rfl, hN, hI, hC, ⟨k :: kR', Bp, _, rfl, n1, ?_, ⟨_, _, rfl, hh, g3⟩⟩, s2.to, ?_, sc.2.2.2, ⟨?_, ?_⟩, ?_, hn⟩
    · show (k :: kR').length = eR'.length + 1
      simp; omega
    · rw [← hf]
      congr 2
      have t1 := flat_two (m := m) (eL := []) (eR := eR') (e := e) (tL := []) (tR := tR') (a := U) (b := tr) rfl
      have t2 := flat_one (m := m) (eL := []) (eR := eR') (tL := []) (tR := tR') (a := mg U e tr) rfl
      rw [flat_mg cu cr] at t2
      have hfill : fill f U = .nd ([] ++ e :: eR') ([] ++ U :: tr :: tR') := by rw [fill, h0', heR, htL0, htR]
      rw [hfill, t1]
      exact t2
    · have := sc.1.1
      rw [hles, h0', heR] at this
      simp only [List.length_nil, List.length_cons] at this
      show lo' _ fs ≤ eR'.length + 1
      cases fs <;> simp only [lo'] at this ⊢ <;> omega
    · show eR'.length ≤ _
      omega
    · intro m' hm' c hc
      obtain rfl : m = m' := by omega
      rcases List.mem_cons.1 hc with rfl | hc
      · exact Sz.mg hk hsr.kids (by omega) (by omega)
      · exact sc.2.2.1 c (by rw [htR]; simp [hc])
  · -- with the left one
    have heL : f.eL = eL' ++ [e] := by simpa using heL
    obtain ⟨kL', l, tL', tl, Ap, B1, Al, B2, rfl, htL, q1, q2, q3, hkL, hnp, g1, g2, g3⟩ := hF.left heL
    have htl := hL tl (by rw [htL]; simp)
    have hsl : Sz ((order + 1) / 2 - 1) (order - 1) m tl := sc.2.1 tl (by rw [htL]; simp)
    have hslh := hsl.here
    have el : (f.eL.length : Int) = (eL'.length : Int) + 1 := by rw [heL]; simp
    have e0 : (if 0 < (f.eL.length : Int) - 1 then (f.eL.length : Int) - 1 else 0) = ((eL'.length : Nat) : Int) := by
      rw [el]; split <;> omega
    rw [e0]
    obtain ⟨ku, U1, U2, rfl, nu, cu⟩ := hu.open_
    obtain ⟨kl, R1, R2, rfl, nl, cl⟩ := g2.open_
    have g3l := g3.len
    have hesr : (eL' ++ e :: f.eR).length ≤ order - 1 := by have := hes.2; rw [heL] at this; simpa using this
    have hesr' := hesr
    simp only [List.length_append, List.length_cons] at hesr'
    have cul := cu.le
    have cll := cl.le
    have s1 : St h0 h (Ap + (R1 + (U1 + (R2 + (U2 + (B1 + (B2 + (treeC tb order len (some ⟨root, 0, none⟩) vis + (Ac + (B + F))))))))) ) := s.to
    refine (merge_ok (i := eL'.length) s1 hnp nl nu rfl q1 (by omega) (by omega) (by omega) (by simp; omega) (by omega) (by omega)).mono fun v h' ⟨hv, Bp, Bl, n1, n2, s2⟩ => ⟨hv, b6 h' ?_⟩
    have hmg := (cl.mg (e := e) cu)
    have hh : Hold m l (mg tl e U) (Bl + (R2 + U2)) := hmg.close n2
    refine ⟨m + 1, fs, f.b, .nd (eL' ++ f.eR) (tL' ++ mg tl e U :: f.tR), Ac, Bp + (B1 + (Bl + (R2 + U2) + B2)), N', I', rfl, hN, hI, hC, ⟨kL' ++ l :: f.kR, Bp, _, rfl, n1, ?_, g1.append ⟨_, _, rfl, hh, g3⟩⟩, s2.to, ?_, sc.2.2.2, ⟨?_, ?_⟩, ?_, hn⟩
    · show (kL' ++ l :: f.kR).length = (eL' ++ f.eR).length + 1
      simp; omega
    · rw [← hf]
      congr 2
      have t1 := flat_two (m := m) (eL := eL') (eR := f.eR) (e := e) (tL := tL') (tR := f.tR) (a := tl) (b := U) q2
      have t2 := flat_one (m := m) (eL := eL') (eR := f.eR) (tL := tL') (tR := f.tR) (a := mg tl e U) q2
      rw [flat_mg cl cu] at t2
      have hfill : fill f U = .nd (eL' ++ e :: f.eR) (tL' ++ tl :: U :: f.tR) := by rw [fill, heL, htL]; simp
      rw [hfill, t1]
      exact t2
    · have := sc.1.1
      rw [hles, heL] at this
      simp only [List.length_append, List.length_cons, List.length_nil] at this
      show lo' _ fs ≤ (eL' ++ f.eR).length + 1
      rw [List.length_append]
      cases fs <;> simp only [lo'] at this ⊢ <;> omega
    · show (eL' ++ f.eR).length ≤ _
      rw [List.length_append]; omega
    · intro m' hm' c hc
      obtain rfl : m = m' := by omega
      rcases List.mem_append.1 hc with hc | hc
      · exact sc.2.1 c (by rw [htL]; simp [hc])
      · rcases List.mem_cons.1 hc with rfl | hc
        · exact Sz.mg hsl.kids hk (by omega) (by omega)
        · exact sc.2.2.1 c hc
end
end Go.Proofs.YtkdmcdnfakmapaaGreat

/- B-trees: the loop of mending. -/
set_option maxRecDepth 100000
namespace Go.Proofs.YtkdmcdnfakmapaaGreat
open Go Go.Sx
section
variable {h0 : Hp} {order n len root tb : Nat} {target : List E} {N : List Nat} {I : List Int} {B F : Bag} {nodes atv : Option Addr} {nC aC : Nat} {nx0 : Int × Unit → Hp → Prop} {K : Value → Hp → Prop}
/-- What is known where a node has one entry too few. -/
structure Def (h0 : Hp) (order n len root tb : Nat) (target : List E) (N : List Nat) (I : List Int) (B F : Bag) (vis : Int) (m k : Nat) (f : Fr) (fs : List Fr) (U : BT) (Af Ac Au : Bag) (h : Hp) : Prop where
  hN : ∃ N', N = blks fs ++ f.b :: k :: N'
  hI : ∃ I', I = idxs fs ++ (f.eL.length : Int) :: I'
  hF : HoldF m f k Af
  hC : HoldC root (m + 1) fs f.b Ac
  hu : Hold m k U Au
  s : St h0 h (treeC tb order len (some ⟨root, 0, none⟩) vis + (Af + (Ac + (Au + (B + F)))))
  hf : Lb (m + 1) fs ++ (flat (m + 1) (fill f U) ++ Rb (m + 1) fs) = target
  sc : SzC ((order + 1) / 2 - 1) (order - 1) m (f :: fs)
  hU : U.es.length + 1 = (order + 1) / 2 - 1
  hk : ∀ m', m = m' + 1 → ∀ c ∈ U.ts, Sz ((order + 1) / 2 - 1) (order - 1) m' c
  hn : m + 1 + fs.length = n
/-- The tree after an entry was moved between two children. -/
theorem moved {h : Hp} {vis : Int} {m : Nat} {fs : List Fr} {p l r : Nat} {eL eR : List E} {x : E} {kL kR : List Nat} {tL tR : List BT} {a b : BT} {ka kb : List Nat} {Bp B1 A1 A2 C1 C2 B2 Ac : Bag} (hlen : target.length = len)
    (np : NodeA p (eL ++ x :: eR) (kL ++ l :: r :: kR) Bp) (hkL : kL.length = eL.length) (htL : tL.length = eL.length) (hkR : kR.length = eR.length) (g1 : AllH (Hold m) kL tL B1) (na : NodeA l a.es ka A1) (ca : Kids m ka a A2) (nb : NodeA r b.es kb C1) (cb : Kids m kb b C2) (g3 : AllH (Hold m) kR tR B2)
    (hC : HoldC root (m + 1) fs p Ac) (hf : Lb (m + 1) fs ++ ((wL (tL.map (flat m)) eL ++ ((flat m a ++ x :: flat m b) ++ wR eR (tR.map (flat m)))) ++ Rb (m + 1) fs) = target)
    (sc : SzC ((order + 1) / 2 - 1) (order - 1) (m + 1) fs) (hes : lo' ((order + 1) / 2 - 1) fs ≤ (eL ++ x :: eR).length ∧ (eL ++ x :: eR).length ≤ order - 1)
    (zL : ∀ c ∈ tL, Sz ((order + 1) / 2 - 1) (order - 1) m c) (zR : ∀ c ∈ tR, Sz ((order + 1) / 2 - 1) (order - 1) m c) (za : Sz ((order + 1) / 2 - 1) (order - 1) m a) (zb : Sz ((order + 1) / 2 - 1) (order - 1) m b) (hn : m + 1 + fs.length = n)
    (s : St h0 h (treeC tb order len (some ⟨root, 0, none⟩) vis + (Bp + (B1 + (A1 + (A2 + (C1 + (C2 + (B2 + (Ac + F)))))))))) : ∃ A', TreeA order target tb vis A' ∧ St h0 h (A' + F) := by
  have hT : Hold (m + 1) p (.nd (eL ++ x :: eR) (tL ++ a :: b :: tR)) (Bp + (B1 + (A1 + A2 + (C1 + C2 + B2)))) := by
    refine ⟨_, Bp, _, rfl, np, ?_, g1.append ⟨_, _, rfl, ca.close na, _, _, rfl, cb.close nb, g3⟩⟩
    show (kL ++ l :: r :: kR).length = (eL ++ x :: eR).length + 1
    simp; omega
  obtain ⟨w1, w2, w3⟩ := whole hC hT (target := target) (by rw [flat_two htL]; exact hf) sc hes (fun m' hm' c hc => by
    obtain rfl : m = m' := by omega
    rcases List.mem_append.1 hc with hc | hc
    · exact zL c hc
    · rcases List.mem_cons.1 hc with rfl | hc
      · exact za
      · rcases List.mem_cons.1 hc with rfl | hc
        · exact zb
        · exact zR c hc) hn
  exact ⟨_, .inr ⟨n, root, _, _, by rw [hlen], w1, w2, w3⟩, s.to⟩
theorem shrink_b4_ok {h : Hp} {vis : Int} {m k : Nat} {f : Fr} {fs : List Fr} {U : BT} {Af Ac Au : Bag} (hor : 3 ≤ order) (h64 : order ≤ 64) (hfs : fs.length ≤ 1000) (hlen : target.length = len) (hvis : 0 ≤ vis ∧ vis ≤ 100000000000000)
    (D : Def h0 order n len root tb target N I B F vis m k f fs U Af Ac Au h) (hL : ∀ t ∈ f.tL.getLast?, t.es.length ≤ (order + 1) / 2 - 1)
    (hK : ∀ h' A' vis', vis ≤ vis' ∧ vis' ≤ vis + 1 → TreeA order target tb vis' A' → St h0 h' (A' + F) → K (.tuple #[]) h')
    (hnx : ∀ h' vis', vis ≤ vis' ∧ vis' ≤ vis + 1 → ShrS h0 order n len root tb target N I B F (fs.length : Int) vis' h' → nx0 ((fs.length : Int), ()) h') :
    btree_Tree_shrink_b4 (some ⟨tb, 0, none⟩) nodes N.length nC atv I.length aC ((fs.length : Int) + 1) (((order + 1) / 2 - 1 : Nat) : Int) (some ⟨f.b, 0, none⟩) (f.eL.length : Int) h nx0 K := by
  obtain ⟨⟨N', hN⟩, ⟨I', hI⟩, hF, hC, hu, s, hf, sc, hU, hk, hn⟩ := D
  have hes2 : (f.eL ++ f.eR).length ≤ order - 1 := sc.1.2
  have hles : (f.eL ++ f.eR).length = f.eL.length + f.eR.length := List.length_append
  have hF0 := hF
  obtain ⟨l1, l2, A1, A2, A3, rfl, hnp, g1, g2⟩ := hF
  have hlk := g1.len
  obtain ⟨p1, p2, p3, c1, c2, c3, P1, P2, P3, rfl, ns⟩ := hnp
  have s0 := s
  rw [btree_Tree_shrink_b4_eq]
  refine ⟨_, _, _, (s.at (nodeC f.b (f.eL ++ f.eR).length (f.kL ++ k :: f.kR).length p1 p2 p3 c1 c2 c3)).cell 0, condP (fun hlt => ?_) (fun hge => ?_)⟩
  · obtain ⟨e, eR', heR⟩ : ∃ e eR', f.eR = e :: eR' := by
      cases h : f.eR with
      | nil => rw [hles, h] at hlt; simp at hlt
      | cons e eR' => exact ⟨e, eR', rfl⟩
    refine ⟨_, s.cellA 3, ⟨by omega, by omega⟩, ?_⟩
    refine s.wr (o := 3) (add_mk _ _ _) (by simp) fun h11 s11 => ?_
    have s11 : St h0 h11 (treeC tb order len (some ⟨root, 0, none⟩) (vis + 1) + (nodeC f.b (f.eL ++ f.eR).length (f.kL ++ k :: f.kR).length p1 p2 p3 c1 c2 c3 + (P1 + (P2 + P3)) + (A2 + A3) + (Ac + (Au + (B + F))))) := s11
    obtain ⟨r, kR', tr, tR', Ap, B1, Ar, B2, hbag, htR, q1, q2, q3, hkR, hnp', w1, w2, w3⟩ := hF0.right heR
    have ei : ((f.eL.length : Int) + 1).toNat = f.eL.length + 1 := by omega
    have hkk : f.kL ++ k :: f.kR = f.kL ++ k :: r :: kR' := by rw [hkR]
    have hkll : (f.kL ++ k :: f.kR).length = f.kL.length + kR'.length + 2 := by rw [hkk]; simp; omega
    refine ⟨_, _, _, (s11.at (nodeC f.b (f.eL ++ f.eR).length (f.kL ++ k :: f.kR).length p1 p2 p3 c1 c2 c3)).cellA 2, ⟨by omega, by omega⟩, (ns.s3.rd (s11.at P3)).ptr (by omega) (by omega) ?_⟩
    rw [ei, hkk, getD_mid2 q1]
    have s12 : St h0 h11 (treeC tb order len (some ⟨root, 0, none⟩) (vis + 1) + (Ap + (B1 + (Ar + B2)) + (Ac + (Au + (B + F))))) := by rw [← hbag]; exact s11
    have sr := s12.to (B := Ar + (treeC tb order len (some ⟨root, 0, none⟩) (vis + 1) + (Ap + B1 + B2) + (Ac + (Au + (B + F)))))
    obtain ⟨_, _, _, _, _, _, _, kr, _, _, _⟩ := w2.read sr
    have hsr : Sz ((order + 1) / 2 - 1) (order - 1) m tr := sc.2.2.1 tr (by rw [htR]; simp)
    have hsrh := hsr.here
    refine ⟨_, _, _, kr.cell 0, condP (fun hbig => ?_) (fun hsm => ?_)⟩
    · obtain ⟨x, er, hxe⟩ : ∃ x er, tr.es = x :: er := by
        cases h : tr.es with
        | nil => rw [h] at hbig; simp at hbig; omega
        | cons x er => exact ⟨x, er, rfl⟩
      obtain ⟨ku, U1, U2, rfl, nu, cu⟩ := hu.open_
      obtain ⟨kr', R1, R2, rfl, nr, cr⟩ := w2.open_
      have cul := cu.le
      have crl := cr.le
      have w3l := w3.len
      have hesr : (f.eL ++ e :: eR').length ≤ order - 1 := by rw [← heR]; exact hes2
      have hesr' := hesr
      simp only [List.length_append, List.length_cons] at hesr'
      have hxl : tr.es.length = er.length + 1 := by rw [hxe]; rfl
      have s13 : St h0 h11 (Ap + (U1 + (R1 + (U2 + (R2 + (B1 + (B2 + (treeC tb order len (some ⟨root, 0, none⟩) (vis + 1) + (Ac + (B + F)))))))))) := s12.to
      rw [hxe] at nr
      refine (fromRight_ok s13 hnp' nu nr rfl q1 (by omega) (by omega) (by omega) (by rcases cr.len with h | h; exact .inl h; exact .inr (by omega)) (by omega) (by rw [cr.nil_iff, cu.nil_iff])).mono fun v h' ⟨hv, Bp, Bn, Br, kn', krr, hkk', n1, n2, n3, s14⟩ => ⟨hv, ?_⟩
      obtain ⟨a', b', A', C', hAC, ea', eb', ka', kb', hfl, za, zb⟩ := right_trees (e := e) hxe cu cr hkk' hk hsr.kids
      rw [← ea'] at n2
      rw [← eb'] at n3
      have la : a'.es.length = U.es.length + 1 := by rw [ea']; simp
      have lb : b'.es.length = er.length := by rw [eb']
      obtain ⟨A9, t9, s9⟩ := moved (h := h') (vis := vis + 1) (F := F) hlen n1 q1 q2 (by omega) w1 n2 ka' n3 kb' w3 hC (by
        rw [← hfl, ← hf]
        congr 2
        have hfill : fill f U = .nd (f.eL ++ e :: eR') (f.tL ++ U :: tr :: tR') := by rw [fill, heR, htR]
        rw [hfill, flat_two q2]) sc.2.2.2 (by
          have := sc.1
          rw [heR] at this
          have hl9 : (f.eL ++ x :: eR').length = (f.eL ++ e :: eR').length := by simp
          rw [hl9]
          cases fs <;> exact this) sc.2.1 (fun c hc => sc.2.2.1 c (by rw [htR]; simp [hc])) (Sz.of ⟨by omega, by omega⟩ za) (Sz.of ⟨by omega, by omega⟩ zb) hn (by
          have h1 := s14.to (B := B + (treeC tb order len (some ⟨root, 0, none⟩) (vis + 1) + (Bp + (B1 + (Bn + (Br + (U2 + R2 + (B2 + (Ac + F)))))))))
          rw [hAC] at h1
          exact h1.drop.to)
      exact hK h' A9 (vis + 1) ⟨by omega, by omega⟩ t9 s9
    · have s15 : St h0 h11 (treeC tb order len (some ⟨root, 0, none⟩) (vis + 1) + (Ap + (B1 + (Ar + B2)) + (Ac + (Au + (B + F))))) := s12
      refine shrink_b5_ok (vis := vis + 1) hor h64 hfs hN (N' := k :: N') (I' := (f.eL.length : Int) :: I') hI hF0 hC hu (by rw [hbag]; exact s15) hf sc hU hk hn hL (fun _ t ht => ?_) (fun h' hs => hnx h' (vis + 1) ⟨by omega, by omega⟩ hs)
      rw [htR] at ht
      simp at ht
      subst ht
      omega
  · have heR0 : f.eR = [] := List.eq_nil_of_length_eq_zero (by omega)
    refine shrink_b5_ok (vis := vis) hor h64 hfs hN (N' := k :: N') (I' := (f.eL.length : Int) :: I') hI hF0 hC hu s0 hf sc hU hk hn hL (fun _ t ht => ?_) (fun h' hs => hnx h' vis ⟨by omega, by omega⟩ hs)
    rw [heR0] at l2
    rw [List.eq_nil_of_length_eq_zero l2] at ht
    simp at ht
end
end Go.Proofs.YtkdmcdnfakmapaaGreat

/- B-trees: shrink. -/
set_option maxRecDepth 100000
namespace Go.Proofs.YtkdmcdnfakmapaaGreat
open Go Go.Sx
section
variable {h0 : Hp} {order n len root tb : Nat} {target : List E} {N : List Nat} {I : List Int} {B F : Bag} {nodes atv : Option Addr} {nC aC : Nat} {nx0 : Int × Unit → Hp → Prop} {K : Value → Hp → Prop}
theorem shrink_b2_ok {h : Hp} {vis : Int} {m k : Nat} {f : Fr} {fs : List Fr} {U : BT} {Af Ac Au B1' B2' : Bag} (hor : 3 ≤ order) (h64 : order ≤ 64) (hfs : fs.length ≤ 1000) (hlen : target.length = len) (hvis : 0 ≤ vis ∧ vis ≤ 10000000000000)
    (hB : B = B1' + B2') (oN : Sl TP nodes N.length nC N B1') (oI : Sl TI atv I.length aC I B2')
    (D : Def h0 order n len root tb target N I B F vis m k f fs U Af Ac Au h)
    (hK : ∀ h' A' vis', vis ≤ vis' ∧ vis' ≤ vis + 2 → TreeA order target tb vis' A' → St h0 h' (A' + F) → K (.tuple #[]) h')
    (hnx : ∀ h' vis', vis ≤ vis' ∧ vis' ≤ vis + 2 → ShrS h0 order n len root tb target N I B F (fs.length : Int) vis' h' → nx0 ((fs.length : Int), ()) h') :
    btree_Tree_shrink_b2 (some ⟨tb, 0, none⟩) nodes N.length nC atv I.length aC ((fs.length : Int) + 1) (((order + 1) / 2 - 1 : Nat) : Int) h nx0 K := by
  have D0 := D
  obtain ⟨⟨N', hN⟩, ⟨I', hI⟩, hF, hC, hu, s, hf, sc, hU, hk, hn⟩ := D
  have hes2 : (f.eL ++ f.eR).length ≤ order - 1 := sc.1.2
  have hles : (f.eL ++ f.eR).length = f.eL.length + f.eR.length := List.length_append
  have hF0 := hF
  rw [btree_Tree_shrink_b2_eq]
  have ed : ((fs.length : Int) + 1 - 1) = (fs.length : Int) := by omega
  rw [ed]
  have hNl : fs.length < N.length := by rw [hN]; simp [blks]
  have hIl : fs.length < I.length := by rw [hI]; simp [idxs]
  have sB : St h0 h (B1' + (B2' + (treeC tb order len (some ⟨root, 0, none⟩) vis + (Af + (Ac + (Au + F)))))) := by rw [hB] at s; exact s.to
  refine ⟨⟨by omega, by omega⟩, (oN.rd sB).ptr (by omega) (by omega) ?_⟩
  rw [Int.toNat_natCast, hN, blks_get]
  rw [← hN]
  refine ⟨⟨by omega, by omega⟩, (oI.rd (sB.at B2')).int (by omega) (by omega) ?_⟩
  rw [Int.toNat_natCast, hI, idxs_get]
  rw [← hI]
  refine ⟨_, s.cellA 3, ⟨by omega, by omega⟩, ?_⟩
  refine s.wr (o := 3) (add_mk _ _ _) (by simp) fun h6 s6 => ?_
  have s6 : St h0 h6 (treeC tb order len (some ⟨root, 0, none⟩) (vis + 1) + (Af + (Ac + (Au + (B + F))))) := s6
  have D6 : Def h0 order n len root tb target N I B F (vis + 1) m k f fs U Af Ac Au h6 := ⟨⟨N', hN⟩, ⟨I', hI⟩, hF, hC, hu, s6, hf, sc, hU, hk, hn⟩
  have b4 : (∀ t ∈ f.tL.getLast?, t.es.length ≤ (order + 1) / 2 - 1) → btree_Tree_shrink_b4 (some ⟨tb, 0, none⟩) nodes N.length nC atv I.length aC ((fs.length : Int) + 1) (((order + 1) / 2 - 1 : Nat) : Int) (some ⟨f.b, 0, none⟩) (f.eL.length : Int) h6 nx0 K := fun hL =>
    shrink_b4_ok hor h64 hfs hlen ⟨by omega, by omega⟩ D6 hL (fun h' A' vis' hv => hK h' A' vis' ⟨by omega, by omega⟩) (fun h' vis' hv => hnx h' vis' ⟨by omega, by omega⟩)
  refine condP (fun hpos => ?_) (fun hpos => ?_)
  · obtain ⟨eL', e, heL⟩ : ∃ a x, f.eL = a ++ [x] := by
      rcases List.eq_nil_or_concat f.eL with h | ⟨a, x, h⟩
      · rw [h] at hpos; simp at hpos
      · exact ⟨a, x, by simpa using h⟩
    obtain ⟨kL', l, tL', tl, Ap, B1, Al, B2, rfl, htL, q1, q2, q3, hkL, hnp, w1, w2, w3⟩ := hF.left heL
    have el : (f.eL.length : Int) = (eL'.length : Int) + 1 := by rw [heL]; simp
    have ei : ((f.eL.length : Int) - 1) = (eL'.length : Int) := by omega
    have hnp0 := hnp
    obtain ⟨p1, p2, p3, c1, c2, c3, P1, P2, P3, rfl, ns⟩ := hnp
    have hkll : (kL' ++ l :: k :: f.kR).length = eL'.length + f.kR.length + 2 := by simp; omega
    refine ⟨_, _, _, (s6.at (nodeC f.b (eL' ++ e :: f.eR).length (kL' ++ l :: k :: f.kR).length p1 p2 p3 c1 c2 c3)).cellA 2, ⟨by omega, by omega⟩, ?_⟩
    rw [ei]
    refine (ns.s3.rd (s6.at P3)).ptr (by omega) (by omega) ?_
    rw [Int.toNat_natCast, getD_mid q1]
    have sl := s6.to (B := Al + (treeC tb order len (some ⟨root, 0, none⟩) (vis + 1) + (nodeC f.b (eL' ++ e :: f.eR).length (kL' ++ l :: k :: f.kR).length p1 p2 p3 c1 c2 c3 + (P1 + (P2 + P3)) + B1 + B2) + (Ac + (Au + (B + F)))))
    obtain ⟨_, _, _, _, _, _, _, kl, _, _, _⟩ := w2.read sl
    have hsl : Sz ((order + 1) / 2 - 1) (order - 1) m tl := sc.2.1 tl (by rw [htL]; simp)
    have hslh := hsl.here
    refine ⟨_, _, _, kl.cell 0, condP (fun hbig => ?_) (fun hsm => ?_)⟩
    · obtain ⟨er, x, hxe⟩ : ∃ a x, tl.es = a ++ [x] := by
        rcases List.eq_nil_or_concat tl.es with h | ⟨a, x, h⟩
        · rw [h] at hbig; simp at hbig; omega
        · exact ⟨a, x, by simpa using h⟩
      obtain ⟨ku, U1, U2, rfl, nu, cu⟩ := hu.open_
      obtain ⟨kl', R1, R2, rfl, nl, cl⟩ := w2.open_
      have cul := cu.le
      have cll := cl.le
      have w3l := w3.len
      have hesr : (eL' ++ e :: f.eR).length ≤ order - 1 := by have := hes2; rw [heL] at this; simpa using this
      have hxl : tl.es.length = er.length + 1 := by rw [hxe]; simp
      have s13 : St h0 h6 (nodeC f.b (eL' ++ e :: f.eR).length (kL' ++ l :: k :: f.kR).length p1 p2 p3 c1 c2 c3 + (P1 + (P2 + P3)) + (R1 + (U1 + (U2 + (R2 + (B1 + (B2 + (treeC tb order len (some ⟨root, 0, none⟩) (vis + 1) + (Ac + (B + F)))))))))) := s6.to
      rw [hxe] at nl
      rw [el]
      refine (fromLeft_ok s13 hnp0 nl nu rfl q1 (by omega) (by omega) (by omega) (by rcases cl.len with h | h; exact .inl h; exact .inr (by omega)) (by omega) (by rw [cl.nil_iff, cu.nil_iff])).mono fun v h' ⟨hv, Bp, Bl, Bn, klr, kn', hkk', n1, n2, n3, s14⟩ => ⟨hv, ?_⟩
      obtain ⟨a', b', A', C', hAC, ea', eb', ka', kb', hfl, za, zb⟩ := left_trees (e := e) hxe cl cu hkk' hsl.kids hk
      rw [← ea'] at n2
      rw [← eb'] at n3
      have la : a'.es.length = er.length := by rw [ea']
      have lb : b'.es.length = U.es.length + 1 := by rw [eb']; rfl
      obtain ⟨A9, t9, s9⟩ := moved (h := h') (vis := vis + 1) (F := F) hlen n1 q1 q2 (by omega) w1 n2 ka' n3 kb' w3 hC (by
        rw [← hfl, ← hf]
        congr 2
        have hfill : fill f U = .nd (eL' ++ e :: f.eR) (tL' ++ tl :: U :: f.tR) := by rw [fill, heL, htL]; simp
        rw [hfill, flat_two q2]) sc.2.2.2 (by
          have := sc.1
          rw [heL] at this
          have hl9 : (eL' ++ x :: f.eR).length = (eL' ++ [e] ++ f.eR).length := by simp
          rw [hl9]
          cases fs <;> exact this) (fun c hc => sc.2.1 c (by rw [htL]; simp [hc])) sc.2.2.1 (Sz.of ⟨by omega, by omega⟩ za) (Sz.of ⟨by omega, by omega⟩ zb) hn (by
          have h1 := s14.to (B := B + (treeC tb order len (some ⟨root, 0, none⟩) (vis + 1) + (Bp + (B1 + (Bl + (Bn + (R2 + U2 + (B2 + (Ac + F)))))))))
          rw [hAC] at h1
          exact h1.drop.to)
      exact hK h' A9 (vis + 1) ⟨by omega, by omega⟩ t9 s9
    · refine b4 fun t ht => ?_
      rw [htL] at ht
      simp at ht
      subst ht
      omega
  · refine b4 fun t ht => ?_
    obtain ⟨l1, _⟩ := hF
    have : f.tL = [] := List.eq_nil_of_length_eq_zero (by omega)
    rw [this] at ht
    simp at ht
theorem shrink_b1_ok {h : Hp} {vis d : Int} {B1' B2' : Bag} (hor : 3 ≤ order) (h64 : order ≤ 64) (hnn : n ≤ 1000) (hlen : target.length = len) (hvis : 0 ≤ vis ∧ vis ≤ 10000000000000)
    (hB : B = B1' + B2') (oN : Sl TP nodes N.length nC N B1') (oI : Sl TI atv I.length aC I B2') (D : ShrS h0 order n len root tb target N I B F d vis h)
    (hK : ∀ h' A' vis', vis ≤ vis' ∧ vis' ≤ vis + 2 → TreeA order target tb vis' A' → St h0 h' (A' + F) → K (.tuple #[]) h')
    (hnx : ∀ h' vis', 0 < d → vis ≤ vis' ∧ vis' ≤ vis + 2 → ShrS h0 order n len root tb target N I B F (d - 1) vis' h' → nx0 (d - 1, ()) h') :
    btree_Tree_shrink_b1 d (some ⟨tb, 0, none⟩) nodes N.length nC atv I.length aC (((order + 1) / 2 - 1 : Nat) : Int) h nx0 K := by
  obtain ⟨m, fs, k, U, Ac, Au, N', I', rfl, hN, hI, hC, hu, s, hf, sc, hU, hk, hn⟩ := D
  rw [btree_Tree_shrink_b1_eq]
  have done : (fs = [] ∨ (order + 1) / 2 - 1 ≤ U.es.length) → btree_Tree_shrink_b3 (some ⟨tb, 0, none⟩) h K := by
    intro hor'
    cases fs with
    | nil =>
      obtain ⟨rfl, rfl⟩ := hC
      have hm : m = n := by simpa using hn
      subst hm
      have hft : flat m U = target := by rw [← hf]; simp [Lb, Rb]
      subst hlen
      exact shrink_b3_ok hor hu hft hU.2 hk (s.to (B := treeC tb order target.length (some ⟨k, 0, none⟩) vis + (Au + (B + F)))) fun h' A' ta s' => hK h' A' vis ⟨by omega, by omega⟩ ta (s'.to (B := B + (A' + F))).drop
    | cons f fs =>
      have hge : (order + 1) / 2 - 1 ≤ U.es.length := by rcases hor' with h | h; cases h; exact h
      obtain ⟨w1, w2, w3⟩ := whole hC hu hf sc ⟨hge, hU.2⟩ hk hn
      have hes1 : (plug (f :: fs) U).es.length ≤ order - 1 ∧ ∀ m', n = m' + 1 → ∀ c ∈ (plug (f :: fs) U).ts, Sz ((order + 1) / 2 - 1) (order - 1) m' c := by
        cases n with
        | zero => exact ⟨w3.2, fun m' h => by omega⟩
        | succ n => exact ⟨w3.1.2, fun m' h => by obtain rfl : n = m' := by omega
                                                  exact w3.2⟩
      subst hlen
      exact shrink_b3_ok hor w1 w2 hes1.1 hes1.2 (s.to (B := treeC tb order target.length (some ⟨root, 0, none⟩) vis + (Ac + Au + (B + F)))) fun h' A' ta s' => hK h' A' vis ⟨by omega, by omega⟩ ta (s'.to (B := B + (A' + F))).drop
  refine condP (fun hpos => ?_) (fun hpos => ?_)
  · cases fs with
    | nil => simp at hpos
    | cons f fs =>
      have hNl : (f :: fs).length < N.length := by rw [hN]; simp [blks]
      have sB : St h0 h (B1' + (B2' + (treeC tb order len (some ⟨root, 0, none⟩) vis + (Ac + (Au + F))))) := by rw [hB] at s; exact s.to
      refine (oN.rd sB).ptr (by omega) (by omega) ?_
      rw [Int.toNat_natCast, hN, blks_get]
      rw [← hN]
      have sU := s.to (B := Au + (treeC tb order len (some ⟨root, 0, none⟩) vis + (Ac + (B + F))))
      obtain ⟨_, _, _, _, _, _, _, ku, _, _, _⟩ := hu.read sU
      refine ⟨_, _, _, ku.cell 0, condP (fun hlt => ?_) (fun hge => done (.inr (by omega)))⟩
      have hlo : (order + 1) / 2 - 1 ≤ U.es.length + 1 := hU.1
      obtain ⟨Af, Ac', rfl, hF, hC'⟩ := hC
      have hflat := flat_fill (n := m) U hF.1
      have ed : (((f :: fs).length : Nat) : Int) = (fs.length : Int) + 1 := by simp
      rw [ed] at hnx ⊢
      have ed2 : ((fs.length : Int) + 1 - 1) = (fs.length : Int) := by omega
      rw [ed2] at hnx
      simp only [List.length_cons] at hn
      refine shrink_b2_ok hor h64 (by omega) hlen hvis hB oN oI ⟨⟨N', by rw [hN, blks_cons]⟩, ⟨I', by rw [hI, idxs_cons]⟩, hF, hC', hu, s.to, ?_, sc, by omega, hk, by omega⟩ hK fun h' vis' hv hs => hnx h' vis' (by omega) hv hs
      rw [hflat, ← hf]
      simp [Lb, Rb]
  · refine done (.inl (List.eq_nil_of_length_eq_zero (by omega)))
theorem shrink_ok {h : Hp} {vis : Int} {k j : Nat} {fs : List Fr} {u : BT} {Ac Au B1' B2' : Bag} (hor : 3 ≤ order) (h64 : order ≤ 64) (hnn : n ≤ 1000) (hvis : 0 ≤ vis ∧ vis ≤ 1000000000000)
    (oN : Sl TP nodes (fs.length + 1) nC (blks fs ++ [k]) B1') (oI : Sl TI atv (fs.length + 1) aC I B2') (hI : I = idxs fs ++ [(j : Int)]) (hj : j < u.es.length)
    (hC : HoldC root 0 fs k Ac) (hu : Hold 0 k u Au) (sc : SzC ((order + 1) / 2 - 1) (order - 1) 0 fs) (sb : SzB ((order + 1) / 2 - 1) (order - 1) 0 fs u) (hn : fs.length = n)
    (hf : Lb 0 fs ++ ((u.es.take j ++ u.es.drop (j + 1)) ++ Rb 0 fs) = target) (hlen : target.length = len)
    (s : St h0 h (treeC tb order len (some ⟨root, 0, none⟩) vis + (Ac + (Au + (B1' + (B2' + F)))))) :
    HCalls Tryz.prog 61 #[ptr tb, .slice nodes (fs.length + 1) nC, .slice atv (fs.length + 1) aC] h (fun v h' => v = .tuple #[] ∧ ∃ A' vis', (vis ≤ vis' ∧ vis' ≤ vis + 2 * (n + 1)) ∧ TreeA order target tb vis' A' ∧ St h0 h' (A' + F)) := by
  refine btree_Tree_shrink_call ?_
  rw [btree_Tree_shrink_b0_eq]
  obtain ⟨ht, hna⟩ := hu
  obtain ⟨p1, p2, p3, c1, c2, c3, C1, C2, C3, rfl, ns⟩ := hna
  have hule := sb.1.2
  have ed : ((fs.length + 1 : Nat) : Int) - 1 = (fs.length : Int) := by omega
  have rN := oN.rd (s.at B1')
  have rI := oI.rd (s.at B2')
  have gI : I.getD fs.length 0 = (j : Int) := by rw [hI]; exact idxs_get _ _ _
  have kb := (s.at (nodeC k u.es.length ([] : List Nat).length p1 p2 p3 c1 c2 c3)).blk
  rw [ed]
  have ej : Int.toNat (fs.length : Int) = fs.length := Int.toNat_natCast _
  refine ⟨⟨by omega, by omega⟩, rN.ptr (by omega) (by omega) ?_⟩
  rw [ej, blks_get]
  refine ⟨_, _, _, kb.cell 0, rI.int (by omega) (by omega) (rI.int (by omega) (by omega) ?_)⟩
  rw [ej, gI]
  refine ⟨⟨by omega, by omega⟩, _, _, _, Blk.cellA kb 1, rI.intA (by omega) (by omega) fun a8 ha8 => rI.intA (by omega) (by omega) fun a9 ha9 => ?_⟩
  rw [ej, gI]
  refine ⟨⟨by omega, by omega⟩, ?_⟩
  refine (deleteI_st (s.at C1) ns.s1 (i := j) (by omega) rfl (by omega)).mono fun v1 h1 ⟨C1', hv1, o1, s1⟩ => ?_
  have rI1 := oI.rd (s1.at B2')
  refine ⟨_, _, _, hv1, rI1.again ha9 (by omega) gI, rI1.again ha8 (by omega) gI, ⟨_, _, _, (s1.at (nodeC k u.es.length ([] : List Nat).length p1 p2 p3 c1 c2 c3)).cellA 1, rfl⟩, ?_⟩
  refine (deleteI_st (s1.at C2) ns.s2 (i := j) (by omega) rfl (by omega)).mono fun v2 h2 ⟨C2', hv2, o2, s2⟩ => ?_
  refine ⟨_, _, _, hv2, ?_⟩
  refine wr2 (n' := u.es.length - 1) (s2.at (nodeC k u.es.length ([] : List Nat).length p1 p2 p3 c1 c2 c3)) fun h4 s4 => ?_
  have hel : (u.es.take j ++ u.es.drop (j + 1)).length = u.es.length - 1 := by rw [List.length_append, List.length_take, List.length_drop]; omega
  have s5 := s4.to (B := treeC tb order len (some ⟨root, 0, none⟩) vis + (Ac + (nodeC k (u.es.length - 1) ([] : List Nat).length p1 p2 p3 c1 c2 c3 + (C1' + (C2' + C3)) + ((B1' + B2') + F))))
  refine ⟨_, s5.cell 0, ⟨by omega, by omega⟩, quo_intro (by omega) (by omega) (by omega) ⟨⟨by omega, by omega⟩, ?_⟩⟩
  have eq : ((order : Int) + 1) / 2 - 1 = (((order + 1) / 2 - 1 : Nat) : Int) := by omega
  rw [eq]
  have hu' : Hold 0 k (.nd (u.es.take j ++ u.es.drop (j + 1)) []) (nodeC k (u.es.length - 1) ([] : List Nat).length p1 p2 p3 c1 c2 c3 + (C1' + (C2' + C3))) := by
    refine ⟨rfl, p1, p2, p3, c1, c2, c3, C1', C2', C3, by show _ = nodeC k (u.es.take j ++ u.es.drop (j + 1)).length _ _ _ _ _ _ _ + _; rw [hel], ⟨?_, ?_, ns.s3⟩⟩
    · refine o1.cast hel.symm ?_
      rw [← List.map_take, ← List.map_drop, ← List.map_append]; rfl
    · refine o2.cast hel.symm ?_
      rw [← List.map_take, ← List.map_drop, ← List.map_append]; rfl
  have hNl : (blks fs ++ [k]).length = fs.length + 1 := by simp [blks]
  have hIl : I.length = fs.length + 1 := by rw [hI]; simp [idxs]
  refine ⟨fun st h' => ∃ vis', ShrS h0 order n len root tb target (blks fs ++ [k]) I (B1' + B2') F st.1 vis' h' ∧ (vis ≤ vis' ∧ vis' + 2 * st.1 ≤ vis + 2 * n) ∧ 0 ≤ st.1, fun st _ => st.1.toNat, ⟨vis, ⟨0, fs, k, _, Ac, _, [], [(j : Int)], rfl, rfl, hI, hC, hu', s5, hf, sc, ⟨?_, ?_⟩, fun m' h => by omega, by omega⟩, ⟨by omega, by simp only; omega⟩, by simp only; omega⟩, ?_⟩
  · have := sb.1.1
    show _ ≤ (u.es.take j ++ u.es.drop (j + 1)).length + 1
    omega
  · show (u.es.take j ++ u.es.drop (j + 1)).length ≤ _
    omega
  rintro ⟨d, _⟩ h5 ⟨vis5, D, hv5, hd⟩
  dsimp only at D hv5 hd ⊢
  have e1 : fs.length + 1 = (blks fs ++ [k]).length := hNl.symm
  have e2 : fs.length + 1 = I.length := hIl.symm
  have key := shrink_b1_ok (h := h5) (B := B1' + B2') (N := blks fs ++ [k]) (I := I) (nodes := nodes) (atv := atv) (nC := nC) (aC := aC) (F := F) hor h64 hnn hlen (vis := vis5) (d := d) ⟨by omega, by omega⟩ rfl (oN.cast e1 rfl) (oI.cast e2 rfl) D
    (K := fun v h' => v = .tuple #[] ∧ ∃ A' vis', (vis ≤ vis' ∧ vis' ≤ vis + 2 * (n + 1)) ∧ TreeA order target tb vis' A' ∧ St h0 h' (A' + F))
    (nx0 := fun s' h' => (∃ vis', ShrS h0 order n len root tb target (blks fs ++ [k]) I (B1' + B2') F s'.1 vis' h' ∧ (vis ≤ vis' ∧ vis' + 2 * s'.1 ≤ vis + 2 * n) ∧ 0 ≤ s'.1) ∧ s'.1.toNat < d.toNat)
    (fun h' A' vis' hv ta s' => ⟨rfl, A', vis', ⟨by omega, by omega⟩, ta, s'⟩) (fun h' vis' hd0 hv hs => ⟨⟨vis', hs, ⟨by omega, by simp only; omega⟩, by simp only; omega⟩, by simp only; omega⟩)
  rw [hNl, hIl] at key
  exact key
end
end Go.Proofs.YtkdmcdnfakmapaaGreat

/- B-trees: Remove. -/
set_option maxRecDepth 100000
namespace Go.Proofs.YtkdmcdnfakmapaaGreat
open Go Go.Sx
def removeS (xs : List E) (key : Int) : List E × Int × Int :=
  if KeyP key then (if hasKey (upS xs key) key = true then (lowS xs key ++ (upS xs key).tail, valOf (upS xs key), 0) else (xs, 0, 12)) else (xs, 0, 1)
/-- A node on the way is written anew. -/
theorem HoldC.edit {root : Nat} : ∀ {m : Nat} {gs fs : List Fr} {f : Fr} {x : Nat} {A : Bag}, HoldC root m (gs ++ f :: fs) x A → ∃ ks An Ar, A = An + Ar ∧ NodeA f.b (f.eL ++ f.eR) ks An ∧
    ∀ eR2 An', eR2.length = f.eR.length → NodeA f.b (f.eL ++ eR2) ks An' → HoldC root m (gs ++ { f with eR := eR2 } :: fs) x (An' + Ar)
  | m, [], fs, f, x, _, ⟨A1, A2, rfl, h0, h4⟩ => by
    obtain ⟨l1, l2, B1, B2, B3, rfl, h1, h2, h3⟩ := h0
    exact ⟨_, B1, B2 + B3 + A2, by ac_rfl, h1, fun eR2 An' hl hn => ⟨An' + (B2 + B3), A2, by ac_rfl, ⟨l1, by show f.tR.length = eR2.length; rw [hl]; exact l2, An', B2, B3, rfl, hn, h2, h3⟩, h4⟩⟩
  | m, g :: gs, fs, f, x, _, ⟨A1, A2, rfl, h1, h2⟩ => by
    obtain ⟨ks, An, Ar, rfl, h3, h4⟩ := HoldC.edit h2
    exact ⟨ks, An, A1 + Ar, by ac_rfl, h3, fun eR2 An' hl hn => ⟨A1, An' + Ar, by ac_rfl, h1, h4 eR2 An' hl hn⟩⟩
theorem Lb_edit {eR2 : List E} : ∀ {m : Nat} {gs fs : List Fr} {f : Fr}, Lb m (gs ++ { f with eR := eR2 } :: fs) = Lb m (gs ++ f :: fs)
  | m, [], fs, f => rfl
  | m, g :: gs, fs, f => by simp only [List.cons_append, Lb]; rw [Lb_edit]
theorem Rb_edit {e y : E} {eR' : List E} {m : Nat} {gs fs : List Fr} {f : Fr} (he : f.eR = e :: eR') (hg : Rb m gs = []) (ht : f.tR.length = f.eR.length) : ∃ Y, Rb m (gs ++ f :: fs) = e :: Y ∧ Rb m (gs ++ { f with eR := y :: eR' } :: fs) = y :: Y := by
  induction gs generalizing m with
  | nil =>
    rw [he] at ht
    cases h : f.tR with
    | nil => rw [h] at ht; simp at ht
    | cons t tR =>
      refine ⟨flat m t ++ wR eR' (tR.map (flat m)) ++ Rb (m + 1) fs, ?_, ?_⟩
      · simp [Rb, behind, he, h, wR]
      · simp [Rb, behind, wR]
  | cons g gs ih =>
    simp only [Rb, List.append_eq_nil_iff] at hg
    obtain ⟨Y, h1, h2⟩ := ih (m := m + 1) hg.2
    refine ⟨Y, ?_, ?_⟩
    · simp only [List.cons_append, Rb, hg.1, List.nil_append]; exact h1
    · simp only [List.cons_append, Rb, hg.1, List.nil_append]; exact h2
theorem Rb_app : ∀ {m : Nat} {gs fs : List Fr}, Rb m (gs ++ fs) = Rb m gs ++ Rb (m + gs.length) fs
  | m, [], fs => rfl
  | m, g :: gs, fs => by
    simp only [List.cons_append, Rb, List.length_cons]
    rw [Rb_app, List.append_assoc, show m + 1 + gs.length = m + (gs.length + 1) by omega]
theorem SzC_edit {lo hi : Nat} {eR2 : List E} : ∀ {m : Nat} {gs fs : List Fr} {f : Fr}, eR2.length = f.eR.length → SzC lo hi m (gs ++ f :: fs) → SzC lo hi m (gs ++ { f with eR := eR2 } :: fs)
  | m, [], fs, f, hl, ⟨h1, h2, h3, h4⟩ => ⟨by
      have e : (f.eL ++ eR2).length = (f.eL ++ f.eR).length := by simp [hl]
      show _ ≤ (f.eL ++ eR2).length ∧ (f.eL ++ eR2).length ≤ hi
      rw [e]; exact h1, h2, h3, h4⟩
  | m, g :: gs, fs, f, hl, ⟨h1, h2, h3, h4⟩ => by
    refine ⟨?_, h2, h3, SzC_edit hl h4⟩
    have e : (match gs ++ { f with eR := eR2 } :: fs with | [] => 1 | _ => lo) = lo := by cases gs <;> rfl
    have e' : (match gs ++ f :: fs with | [] => 1 | _ => lo) = lo := by cases gs <;> rfl
    have h1' := h1.1
    refine ⟨?_, h1.2⟩
    cases gs <;> exact h1.1
theorem blks_edit {eR2 : List E} {gs fs : List Fr} {f : Fr} : blks (gs ++ { f with eR := eR2 } :: fs) = blks (gs ++ f :: fs) ∧ idxs (gs ++ { f with eR := eR2 } :: fs) = idxs (gs ++ f :: fs) := by simp [blks, idxs]
theorem SzB_lo {lo hi m : Nat} {f : Fr} {gs fs : List Fr} {t : BT} (h : Sz lo hi m t) : SzB lo hi m (gs ++ f :: fs) t := by
  cases gs <;> exact h.b
section
variable {h0 : Hp} {order tb : Nat}
theorem remove_b3_ok {h : Hp} {xs target : List E} {root n k j : Nat} {u : BT} {fs : List Fr} {vis : Int} {value : Int} {Ac Au B1' B2' F : Bag} {nodes atv : Option Addr} {nC aC : Nat} {I : List Int} (hor : 3 ≤ order) (h64 : order ≤ 64) (hnn : n ≤ 100) (hvis : 0 ≤ vis ∧ vis ≤ 100000000000)
    (oN : Sl TP nodes (fs.length + 1) nC (blks fs ++ [k]) B1') (oI : Sl TI atv (fs.length + 1) aC I B2') (hI : I = idxs fs ++ [(j : Int)]) (hj : j < u.es.length)
    (hC : HoldC root 0 fs k Ac) (hu : Hold 0 k u Au) (sc : SzC ((order + 1) / 2 - 1) (order - 1) 0 fs) (sb : SzB ((order + 1) / 2 - 1) (order - 1) 0 fs u) (hn : fs.length = n)
    (hf : Lb 0 fs ++ ((u.es.take j ++ u.es.drop (j + 1)) ++ Rb 0 fs) = target) (hlen : target.length + 1 = xs.length) (hmost : xs.length ≤ 2000)
    (s : St h0 h (treeC tb order xs.length (some ⟨root, 0, none⟩) vis + (Ac + (Au + (B1' + (B2' + F)))))) :
    btree_Tree_Remove_b3 (some ⟨tb, 0, none⟩) nodes (fs.length + 1) nC atv (fs.length + 1) aC value h (fun v h' => ∃ A' vis', (vis ≤ vis' ∧ vis' ≤ vis + 1000) ∧ v = .tuple #[.int .i64 value, .int .i64 0] ∧ TreeA order target tb vis' A' ∧ St h0 h' (A' + F)) := by
  rw [btree_Tree_Remove_b3_eq]
  refine ⟨_, s.cellA 3, ⟨by omega, by omega⟩, ?_⟩
  refine s.wr (o := 3) (add_mk _ _ _) (by simp) fun h18 s18 => ?_
  refine ⟨_, s18.cellA 1, ⟨by omega, by omega⟩, ?_⟩
  refine s18.wr (o := 1) (add_mk _ _ _) (by simp) fun h19 s19 => ?_
  have el : (xs.length : Int) - 1 = (target.length : Int) := by omega
  rw [el] at s19
  have s19 : St h0 h19 (treeC tb order target.length (some ⟨root, 0, none⟩) (vis + ((fs.length + 1 : Nat) : Int)) + (Ac + (Au + (B1' + (B2' + F))))) := s19
  refine (shrink_ok (n := n) hor h64 (by omega) ⟨by omega, by omega⟩ oN oI hI hj hC hu sc sb hn hf rfl s19).mono fun v h' ⟨hv, A', vis', hv', ta, s'⟩ => ⟨hv, A', vis', ⟨by omega, by omega⟩, rfl, ta, s'⟩
/-- The way down to the greatest entry before another one. -/
def DownS (order root n : Nat) (A : Bag) (X : List E) (f0 : Fr) (fs gs : List Fr) (m x : Nat) (ux : BT) (Ac Ax : Bag) : Prop :=
  A = Ac + Ax ∧ HoldC root m (gs ++ f0 :: fs) x Ac ∧ Hold m x ux Ax ∧ SzC ((order + 1) / 2 - 1) (order - 1) m (gs ++ f0 :: fs) ∧ Sz ((order + 1) / 2 - 1) (order - 1) m ux ∧ Lb m (gs ++ f0 :: fs) ++ flat m ux = X ∧ Rb m gs = [] ∧ m + (gs ++ f0 :: fs).length = n
theorem DownS.step {root n m x : Nat} {A Ac Ax : Bag} {X : List E} {f0 : Fr} {fs gs : List Fr} {ux : BT} (d : DownS order root n A X f0 fs gs (m + 1) x ux Ac Ax) :
    ∃ fx x' ux' Ac' Ax', fx.b = x ∧ fx.eL = ux.es ∧ fx.eR = [] ∧ fx.kL.length = ux.es.length ∧ DownS order root n A X f0 fs (fx :: gs) m x' ux' Ac' Ax' := by
  obtain ⟨rfl, hC, hu, sc, sz, hX, hR, hn⟩ := d
  obtain ⟨fx, x', ux', A1, A2, hb, hfL, hfR, hfill, rfl, hF, hu', hkl⟩ := hu.down (eL := ux.es) (eR := []) (by simp) rfl
  have hzb := SzB_lo (gs := gs) (fs := fs) (f := f0) sz
  obtain ⟨w1, w2⟩ := hzb.down hfill sc
  have hok := hF.2.1
  rw [hfR] at hok
  have htR : fx.tR = [] := List.eq_nil_of_length_eq_zero hok
  have hbe : behind m fx = [] := by simp [behind, hfR, wR]
  refine ⟨fx, x', ux', A1 + Ac, A2, hb, hfL, hfR, hkl, by ac_rfl, ⟨A1, Ac, rfl, hF, by rw [hb]; exact hC⟩, hu', w1, w2, ?_, ?_, by simp at hn ⊢; omega⟩
  · rw [← hX, ← hfill, flat_fill ux' hF.1, hbe, List.append_nil]
    simp [Lb]
  · simp [Rb, hbe, hR]
theorem Remove_ok {h : Hp} {xs : List E} {vis key : Int} {A F : Bag} (hor : 3 ≤ order) (h64 : order ≤ 64) (so : Srt xs) (hmost : xs.length ≤ 2000) (hvis : 0 ≤ vis ∧ vis ≤ 10000000000) (ta : TreeA order xs tb vis A) (s : St h0 h (A + F)) :
    HCalls Tryz.prog 28 #[ptr tb, .int .i64 key] h (fun v h' => ∃ A' vis', (vis ≤ vis' ∧ vis' ≤ vis + 1000) ∧ v = .tuple #[.int .i64 (removeS xs key).2.1, .int .i64 (removeS xs key).2.2] ∧ TreeA order (removeS xs key).1 tb vis' A' ∧ St h0 h' (A' + F)) := by
  refine btree_Tree_Remove_call ?_
  rw [btree_Tree_Remove_b0_eq]
  refine condNo rfl ?_
  refine s.new (cs := [.int .i64 key]) fun bx h1 _ s1 => ?_
  refine (number1 s1.blk).mono fun v1 h2 ⟨hh, hv⟩ => ?_
  subst hh
  refine ⟨_, hv, condN (fun hkp => ?_) (fun hkp => ?_)⟩
  · rw [removeS, if_neg hkp]
    exact ⟨A, vis, ⟨by omega, by omega⟩, rfl, ta, s1.drop⟩
  rw [btree_Tree_Remove_b1_eq, removeS, if_pos hkp]
  have s2 := s1.drop
  rcases ta with ⟨rfl, rfl⟩ | ⟨n, root, t, A1, rfl, hh, hfl, hsz⟩
  · refine (path_nil (s2.cellA 2)).mono fun v1 h1 ⟨hh, hv⟩ => ?_
    subst hh
    refine ⟨_, _, _, _, _, _, _, hv, condYes rfl ⟨_, s2.cellA 3, ⟨by omega, by omega⟩, ?_⟩⟩
    refine s2.wr (o := 3) (add_mk _ _ _) (by simp) fun h3 s3 => ?_
    exact ⟨_, vis + 0, ⟨by omega, by omega⟩, rfl, .inl ⟨rfl, rfl⟩, s3⟩
  have hxl : 2 ^ (n + 1) ≤ xs.length + 1 := by rw [← hfl]; exact hsz.low hh (by omega)
  have hn := pow_bound hxl (by omega)
  have s3 := s2.to (B := treeC tb order xs.length (some ⟨root, 0, none⟩) vis + (A1 + F))
  have so' : Srt (flat n t) := by rw [hfl]; exact so
  refine (path_ok (key := key) (s3.cellA 2) hh (s3.at A1) so' hsz (by omega) (by omega)).mono fun v1 h3 ⟨m, fs, k, u, Ac, Au, eL, eR, q1, q2, d1, d2, B1, B2, hv, sB, o1, o2, w, he, hl, hr, hend⟩ => ?_
  refine ⟨_, _, _, _, _, _, _, hv, ?_⟩
  have hfs := w.hgt
  have s4 : St h0 h3 (treeC tb order xs.length (some ⟨root, 0, none⟩) vis + (Ac + (Au + (B1 + (B2 + F))))) := by have := s3.join sB; rw [w.bag] at this; exact this.to
  have rN := o1.rd (s4.at B1)
  have rI := o2.rd (s4.at B2)
  have gN : (blks fs ++ [k]).getD fs.length 0 = k := blks_get fs k []
  have gI : (idxs fs ++ [(eL.length : Int)]).getD fs.length 0 = (eL.length : Int) := idxs_get fs _ []
  refine cond_intro (fun hnf => ?_) (fun hyf => ?_)
  · -- there is no such key
    have hf : hasKey eR key = false := by simpa using hnf
    have hm0 : m = 0 := by rcases hend with h | h; rw [hf] at h; cases h; exact h
    obtain ⟨hcut, hX, hY⟩ := w.cut he hl hr hm0
    have hkey : hasKey (eR ++ Rb m fs) key = false := by rw [hasKey_app w.gt]; exact hf
    rw [hfl] at hcut
    obtain ⟨eX, eY⟩ := cut_eq hcut hX hY
    have hnk : ¬ hasKey (upS xs key) key = true := by rw [← eY, hkey]; simp
    rw [if_neg hnk]
    refine ⟨_, s4.cellA 3, ⟨by omega, by omega⟩, ?_⟩
    refine s4.wr (o := 3) (add_mk _ _ _) (by simp) fun h5 s5 => ?_
    have s5 : St h0 h5 (treeC tb order xs.length (some ⟨root, 0, none⟩) (vis + ((fs.length + 1 : Nat) : Int)) + (Ac + (Au + (B1 + (B2 + F))))) := s5
    refine ⟨_, vis + ((fs.length + 1 : Nat) : Int), ⟨by omega, by omega⟩, rfl, .inr ⟨n, root, t, Ac + Au, rfl, w.bag ▸ hh, hfl, hsz⟩, (s5.to (B := B1 + B2 + (treeC tb order xs.length (some ⟨root, 0, none⟩) (vis + ((fs.length + 1 : Nat) : Int)) + (Ac + Au) + F))).drop⟩
  -- there is one
  have hf : hasKey eR key = true := by simpa using hyf
  obtain ⟨old, eR', rfl⟩ : ∃ old eR', eR = (key, old) :: eR' := by
    cases eR with
    | nil => cases hf
    | cons e eR' =>
      have : e.1 = key := of_decide_eq_true hf
      exact ⟨e.2, eR', by rw [← this]⟩
  -- where it stands
  have cut : ∀ X Y, xs = X ++ (key, old) :: Y → removeS xs key = (X ++ Y, old, 0) := by
    intro X Y hxy
    have hs := so
    rw [hxy, Srt.app, Srt.con] at hs
    have hup := upS_found (X := X) (Y := Y) hxy (fun x hx => hs.2.2 x hx (key, old) (by simp)) (fun y hy => Int.le_of_lt (hs.2.1.1 y hy))
    have hlow : lowS xs key = X := ((cut_eq hxy (fun x hx => hs.2.2 x hx (key, old) (by simp)) (fun y hy => by
      rcases List.mem_cons.1 hy with rfl | h
      · exact Int.le_refl _
      · exact Int.le_of_lt (hs.2.1.1 y h))).1).symm
    rw [removeS, if_pos hkp, if_pos (by rw [hup]; exact decide_eq_true rfl), hup, hlow]
    rfl
  have hR : (if hasKey (upS xs key) key = true then (lowS xs key ++ (upS xs key).tail, valOf (upS xs key), 0) else (xs, 0, 12)) = removeS xs key := by rw [removeS, if_pos hkp]
  rw [hR]
  have elen : ((fs.length + 1 : Nat) : Int) - 1 = (fs.length : Int) := by omega
  have ej : Int.toNat (fs.length : Int) = fs.length := Int.toNat_natCast _
  rw [elen]
  refine ⟨⟨by omega, by omega⟩, rN.ptr (by omega) (by omega) ?_⟩
  rw [ej, gN]
  refine ⟨⟨by omega, by omega⟩, rI.int (by omega) (by omega) ?_⟩
  rw [ej, gI]
  have sU := s4.to (B := Au + (treeC tb order xs.length (some ⟨root, 0, none⟩) vis + (Ac + (B1 + (B2 + F)))))
  obtain ⟨p1, p2, p3, c1, c2, c3, m3, kb, r1, r2, hleaf⟩ := w.sub.read sU
  have hlen : u.es.length = eL.length + (eR'.length + 1) := by rw [he, List.length_append]; rfl
  have hg : (u.es.map Prod.snd).getD eL.length 0 = old := by rw [he]; simp [List.getD]
  refine ⟨_, _, _, Blk.cellA kb 1, r2.int (by omega) (by omega) ?_⟩
  rw [Int.toNat_natCast, hg]
  refine hleaf.mono fun v3 h5 ⟨hh5, hv3⟩ => ?_
  subst hh5
  refine ⟨_, hv3, condN (fun hm0 => ?_) (fun hm0 => ?_)⟩
  · -- the entry before it takes its place
    obtain ⟨m', rfl⟩ : ∃ m', m = m' + 1 := ⟨m - 1, by omega⟩
    obtain ⟨f0, x1, u1, D1, D2, hb, hfL, hfR, hfill, hAu, hF, hu1, hkl⟩ := w.sub.down he rfl
    obtain ⟨w1, w2⟩ := w.szb.down hfill w.szc
    have hAu' : Au = D1 + D2 := hAu
    subst hAu'
    have htR := hF.2.1
    have hdown0 : DownS order root n A1 (Lb m' (f0 :: fs) ++ flat m' u1) f0 fs [] m' x1 u1 (D1 + Ac) D2 := ⟨by rw [w.bag]; ac_rfl, ⟨D1, Ac, rfl, hF, by rw [hb]; exact w.ctx⟩, hu1, w1, w2, rfl, rfl, by simp; omega⟩
    -- all entries
    obtain ⟨Y, hY, _⟩ := Rb_edit (m := m') (gs := []) (fs := fs) (f := f0) (e := (key, old)) (y := (0, 0)) (eR' := eR') hfR rfl htR
    have hxs : xs = (Lb m' (f0 :: fs) ++ flat m' u1) ++ (key, old) :: Y := by
      rw [← hfl, ← w.plug, ← w.hgt, ← hfill]
      have : plug fs (fill f0 u1) = plug (f0 :: fs) u1 := rfl
      rw [this, show m' + 1 + fs.length = m' + (f0 :: fs).length by simp; omega, flat_plug u1 (show OkC (f0 :: fs) from ⟨hF.1, htR, w.ctx.ok⟩)]
      rw [List.append_assoc]
      congr 2
    rw [cut _ _ hxs]
    generalize hX : Lb m' (f0 :: fs) ++ flat m' u1 = X at hdown0 hxs
    have hkid : NN (some (⟨k, 0, none⟩ : Addr)) fun a8 => ∃ (a9 : Option Addr) (L2 C2 : Nat), cell h5 (a8.add 2) = some (.slice a9 L2 C2) ∧ (0 ≤ (eL.length : Int) ∧ (eL.length : Int) < (L2 : Int)) ∧ NN a9 fun a10 => ∃ p2 : Option Addr, cell h5 (a10.add (Int.toNat (eL.length : Int) * 1)) = some (.pointer p2) ∧ p2 = some ⟨x1, 0, none⟩ := by
      have sF := s4.to (B := D1 + (treeC tb order xs.length (some ⟨root, 0, none⟩) vis + (Ac + (D2 + (B1 + (B2 + F))))))
      obtain ⟨q, L, C, hc, rp, hL⟩ := hF.kid sF
      rw [hb] at hc
      have hgl : (f0.kL ++ x1 :: f0.kR).getD eL.length 0 = x1 := by rw [← hkl]; simp [List.getD]
      refine ⟨_, _, C, hc, rp.ptr (by omega) (by rw [hL, List.length_append, List.length_cons]; omega) ?_⟩
      rw [Int.toNat_natCast, hgl]
    obtain ⟨a9, L2, C2, hc9, hL2, hq9⟩ := hkid
    refine ⟨_, _, _, hc9, hL2, ?_⟩
    cases a9 with
    | none => exact hq9.elim
    | some a10 =>
    obtain ⟨p2', hc10, rfl⟩ := hq9
    refine ⟨_, hc10, ?_⟩
    have hbl : blks (f0 :: fs) = blks fs ++ [k] := by simp [blks, hb]
    have hil : idxs (f0 :: fs) = idxs fs ++ [(eL.length : Int)] := by simp [idxs, hfL]
    refine ⟨fun st h' => ∃ gs m2 x ux Ac Ax B1 B2, st.2.2.1 = some ⟨x, 0, none⟩ ∧ DownS order root n A1 X f0 fs gs m2 x ux Ac Ax ∧ st.1.2.1 = (gs ++ f0 :: fs).length ∧ st.2.1.2.1 = (gs ++ f0 :: fs).length ∧ Sl TP st.1.1 st.1.2.1 st.1.2.2 (blks (gs ++ f0 :: fs)) B1 ∧ Sl TI st.2.1.1 st.2.1.2.1 st.2.1.2.2 (idxs (gs ++ f0 :: fs)) B2 ∧
      St h0 h' (treeC tb order xs.length (some ⟨root, 0, none⟩) vis + (Ac + (Ax + (B1 + (B2 + F))))), fun st _ => n + 1 - st.1.2.1, ⟨[], m', x1, u1, D1 + Ac, D2, B1, B2, rfl, hdown0, by simp, by simp, hbl ▸ o1, hil ▸ o2, s4.to⟩, ?_⟩
    rintro ⟨⟨qn, nL, nC⟩, ⟨qa, aL, aC⟩, _, _⟩ h6 ⟨gs, m2, x, ux, Ac2, Ax, E1, E2, rfl, dn, hnl, hal, p1', p2'', s6⟩
    dsimp only at hnl hal p1' p2'' ⊢
    subst hnl hal
    have dn0 := dn
    obtain ⟨hA, hC, hu, sc, sz, hXX, hRb, hnn⟩ := dn
    obtain ⟨xks, X1, X2, hAx, hnax, _, _⟩ := hu.node
    obtain ⟨z1, z2, z3, z4, z5, z6, Z1, Z2, Z3, rfl, nsx⟩ := hnax
    subst hAx
    have kx := (s6.at (nodeC x ux.es.length xks.length z1 z2 z3 z4 z5 z6)).blk
    have hszh := sz.here
    rw [btree_Tree_Remove_b2_eq]
    refine ⟨_, _, _, kx.cell 0, ?_⟩
    -- after both are appended
    have fin : ∀ (h' : Hp) (q q' : Option Addr) (c c' : Nat) (E1' E2' G : Bag), Sl TP q ((gs ++ f0 :: fs).length + 1) c (blks (gs ++ f0 :: fs) ++ [x]) E1' → Sl TI q' ((gs ++ f0 :: fs).length + 1) c' (idxs (gs ++ f0 :: fs) ++ [(ux.es.length : Int)]) E2' →
        St h0 h' (treeC tb order xs.length (some ⟨root, 0, none⟩) vis + (Ac2 + (nodeC x ux.es.length xks.length z1 z2 z3 z4 z5 z6 + (Z1 + (Z2 + Z3)) + X2 + (E1' + (E2' + (F + G)))))) →
        btree_Tree_Remove_b4 (some ⟨tb, 0, none⟩) q ((gs ++ f0 :: fs).length + 1) c q' ((gs ++ f0 :: fs).length + 1) c' (some ⟨k, 0, none⟩) (eL.length : Int) old (some ⟨x, 0, none⟩) h' (fun s' h' => (∃ gs m2 x ux Ac Ax B1 B2, s'.2.2.1 = some ⟨x, 0, none⟩ ∧ DownS order root n A1 X f0 fs gs m2 x ux Ac Ax ∧ s'.1.2.1 = (gs ++ f0 :: fs).length ∧ s'.2.1.2.1 = (gs ++ f0 :: fs).length ∧ Sl TP s'.1.1 s'.1.2.1 s'.1.2.2 (blks (gs ++ f0 :: fs)) B1 ∧ Sl TI s'.2.1.1 s'.2.1.2.1 s'.2.1.2.2 (idxs (gs ++ f0 :: fs)) B2 ∧
          St h0 h' (treeC tb order xs.length (some ⟨root, 0, none⟩) vis + (Ac + (Ax + (B1 + (B2 + F)))))) ∧ n + 1 - s'.1.2.1 < n + 1 - (gs ++ f0 :: fs).length) (fun v h' => ∃ A' vis', (vis ≤ vis' ∧ vis' ≤ vis + 1000) ∧ v = .tuple #[.int .i64 old, .int .i64 0] ∧ TreeA order (X ++ Y) tb vis' A' ∧ St h0 h' (A' + F)) := by
      intro h' q q' c c' E1' E2' G n1 n2 s7
      have s7 := (s7.to (B := G + (treeC tb order xs.length (some ⟨root, 0, none⟩) vis + (Ac2 + (nodeC x ux.es.length xks.length z1 z2 z3 z4 z5 z6 + (Z1 + (Z2 + Z3)) + X2 + (E1' + (E2' + F))))))).drop
      have sx7 := s7.to (B := nodeC x ux.es.length xks.length z1 z2 z3 z4 z5 z6 + (Z1 + (Z2 + Z3)) + X2 + (treeC tb order xs.length (some ⟨root, 0, none⟩) vis + (Ac2 + (E1' + (E2' + F)))))
      obtain ⟨x1', x2', x3', y1', y2', y3', m3', kx7, rx1, rx2, hlf⟩ := hu.read sx7
      rw [btree_Tree_Remove_b4_eq]
      refine hlf.mono fun v8 h8 ⟨hh8, hv8⟩ => ?_
      subst hh8
      refine ⟨_, hv8, condP (fun h0' => ?_) (fun h0' => ?_)⟩
      · -- the leaf: its last entry
        subst h0'
        obtain ⟨ex, y, hexy⟩ : ∃ a z, ux.es = a ++ [z] := by
          rcases List.eq_nil_or_concat ux.es with h | ⟨a, z, h⟩
          · rw [h] at hszh; simp at hszh; omega
          · exact ⟨a, z, by simpa using h⟩
        have huxl : ux.es.length = ex.length + 1 := by rw [hexy]; simp
        obtain ⟨ks, An, Ar, rfl, hna, hedit⟩ := hC.edit
        obtain ⟨r1', r2', r3', e1', e2', e3', C1, C2, C3, rfl, ns⟩ := hna
        have s8 := s7.to (B := nodeC f0.b (f0.eL ++ f0.eR).length ks.length r1' r2' r3' e1' e2' e3' + (C1 + (C2 + C3)) + (Ar + (treeC tb order xs.length (some ⟨root, 0, none⟩) vis + (nodeC x ux.es.length xks.length z1 z2 z3 z4 z5 z6 + (Z1 + (Z2 + Z3)) + X2 + (E1' + (E2' + F))))))
        have hbk := (s8.at (nodeC f0.b (f0.eL ++ f0.eR).length ks.length r1' r2' r3' e1' e2' e3')).blk
        rw [hb] at hbk
        rw [btree_Tree_Remove_b5_eq]
        have el9 : (((gs ++ f0 :: fs).length + 1 : Nat) : Int) - 1 = ((gs ++ f0 :: fs).length : Int) := by omega
        have ej9 : Int.toNat ((gs ++ f0 :: fs).length : Int) = (gs ++ f0 :: fs).length := Int.toNat_natCast _
        have ekl : ((ux.es.length : Nat) : Int) - 1 = (ex.length : Int) := by omega
        have ekn : Int.toNat (ex.length : Int) = ex.length := Int.toNat_natCast _
        rw [el9]
        refine ⟨⟨by omega, by omega⟩, (n1.rd (s8.at E1')).ptr (by omega) (by omega) ?_⟩
        rw [ej9, blks_get]
        refine ⟨_, _, _, kx7.cell 0, ⟨by omega, by omega⟩, _, _, _, hbk.cell 0, _, _, _, Blk.cellA hbk 1, _, _, _, kx7.cell 0, ?_⟩
        rw [ekl]
        refine rx1.int (by omega) (by omega) ⟨_, _, _, Blk.cellA kx7 1, rx2.int (by omega) (by omega) ?_⟩
        rw [ekn, hexy, map_mid rfl, map_mid rfl]
        have hel0 : (f0.eL ++ f0.eR).length = eL.length + (eR'.length + 1) := by rw [hfL, hfR]; simp
        refine ns.s1.wrI (s8.at C1) (x := y.1) (by omega) (by omega) rfl rfl fun h9 C1' a1' s9 => ?_
        refine ns.s2.wrI (s9.at C2) (x := y.2) (by omega) (by omega) rfl rfl fun h10 C2' a2' s10 => ?_
        rw [Int.toNat_natCast] at a1' a2'
        refine ⟨⟨by omega, by omega⟩, ?_⟩
        refine n2.wrI (s10.at E2') (x := (ex.length : Int)) (by omega) (by omega) rfl rfl fun h11 E2'' n2' s11 => ?_
        rw [ej9] at n2'
        have hset : (idxs (gs ++ f0 :: fs) ++ [(ux.es.length : Int)]).set (gs ++ f0 :: fs).length (ex.length : Int) = idxs (gs ++ f0 :: fs) ++ [(ex.length : Int)] := set_mid (by simp [idxs]; omega)
        rw [hset] at n2'
        have y1 : ((f0.eL ++ f0.eR).map Prod.fst).set eL.length y.1 = (f0.eL ++ y :: eR').map Prod.fst := by rw [hfL, hfR, List.map_append, List.map_cons, set_mid (by simp)]; simp
        have y2 : ((f0.eL ++ f0.eR).map Prod.snd).set eL.length y.2 = (f0.eL ++ y :: eR').map Prod.snd := by rw [hfL, hfR, List.map_append, List.map_cons, set_mid (by simp)]; simp
        have yl : (f0.eL ++ y :: eR').length = (f0.eL ++ f0.eR).length := by rw [hfR]; simp
        rw [y1] at a1'
        rw [y2] at a2'
        have hC' := hedit (y :: eR') (nodeC f0.b (f0.eL ++ f0.eR).length ks.length r1' r2' r3' e1' e2' e3' + (C1' + (C2' + C3))) (by rw [hfR]; rfl) ⟨r1', r2', r3', e1', e2', e3', C1', C2', C3, by rw [yl], ⟨a1'.cast yl.symm rfl, a2'.cast yl.symm rfl, ns.s3⟩⟩
        obtain ⟨Y2, hY2, hY3⟩ := Rb_edit (m := 0) (gs := gs) (fs := fs) (f := f0) (e := (key, old)) (y := y) (eR' := eR') hfR hRb htR
        have hYY : Y2 = Y := by
          have hgl : 0 + gs.length = m' := by simp at hnn; omega
          rw [Rb_app, hRb, List.nil_append, hgl] at hY2
          have h9 := hY2.symm.trans hY
          injection h9
        subst hYY
        obtain ⟨be1, be2⟩ := blks_edit (eR2 := y :: eR') (gs := gs) (fs := fs) (f := f0)
        have hll : (gs ++ { f0 with eR := y :: eR' } :: fs).length = (gs ++ f0 :: fs).length := by simp
        have key9 := remove_b3_ok (h0 := h0) (tb := tb) (xs := xs) (target := X ++ Y2) (value := old) (F := F) (nodes := q) (atv := q') (nC := c) (aC := c') (fs := gs ++ { f0 with eR := y :: eR' } :: fs) (k := x) (j := ex.length) (u := ux) hor h64 (n := n) (by omega) (vis := vis) ⟨by omega, by omega⟩
          (by rw [be1, hll]; exact n1) (by rw [hll]; exact n2') (by rw [be2]) (by omega) hC' hu (SzC_edit (by rw [hfR]; rfl) sc) (SzB_lo sz) (by rw [hll]; omega) (by
            rw [Lb_edit, hY3, ← hXX]
            show _ ++ ((ux.es.take ex.length ++ ux.es.drop (ex.length + 1)) ++ y :: Y2) = Lb 0 (gs ++ f0 :: fs) ++ ux.es ++ Y2
            rw [hexy]
            simp) (by rw [hxs]; simp; omega) hmost (by exact s11.to)
        rw [hll] at key9
        exact key9
      · -- further down
        obtain ⟨m3, rfl⟩ : ∃ m3, m2 = m3 + 1 := ⟨m2 - 1, by omega⟩
        obtain ⟨fx, x9, u9, Ac9, Ax9, g1, g2, g3, g4, dn9⟩ := dn0.step
        have dn9' := dn9
        obtain ⟨hA9, hC9, _⟩ := dn9
        obtain ⟨K1, K2, rfl, hF9, _⟩ := hC9
        rw [btree_Tree_Remove_b6_eq]
        have sF := (show St h0 h8 (A1 + (treeC tb order xs.length (some ⟨root, 0, none⟩) vis + (E1' + (E2' + F)))) by rw [hA]; exact s7.to)
        rw [hA9] at sF
        obtain ⟨q9, L9, C9, hc9', rp9, hL9⟩ := hF9.kid (F := K2 + Ax9 + (treeC tb order xs.length (some ⟨root, 0, none⟩) vis + (E1' + (E2' + F)))) sF.to
        rw [g1] at hc9'
        have hkR0 : fx.kR = [] := by
          obtain ⟨_, l2, _, _, _, _, _, _, h3⟩ := hF9
          have := h3.len
          rw [g3] at l2
          exact List.eq_nil_of_length_eq_zero (by rw [this]; exact l2)
        rw [hkR0] at rp9 hL9
        have hL9' : L9 = ux.es.length + 1 := by rw [hL9, List.length_append, g4]; rfl
        have e9 : ((L9 : Nat) : Int) - 1 = (ux.es.length : Int) := by omega
        have hg9 : (fx.kL ++ x9 :: []).getD ux.es.length 0 = x9 := getD_mid g4
        refine ⟨_, _, _, hc9', _, _, C9, hc9', ⟨by omega, by omega⟩, ?_⟩
        rw [e9]
        refine rp9.ptr (by omega) (by omega) ?_
        rw [Int.toNat_natCast, hg9]
        have hbl9 : blks (fx :: gs ++ f0 :: fs) = blks (gs ++ f0 :: fs) ++ [x] := by simp [blks, g1]
        have hil9 : idxs (fx :: gs ++ f0 :: fs) = idxs (gs ++ f0 :: fs) ++ [(ux.es.length : Int)] := by simp [idxs, g2]
        refine ⟨⟨fx :: gs, m3, x9, u9, K1 + K2, Ax9, E1', E2', rfl, dn9', by simp, by simp, hbl9 ▸ n1, hil9 ▸ n2, ?_⟩, ?_⟩
        · exact sF.to
        · simp only; omega
    refine ⟨?_, ?_⟩
    · refine s6.new (cs := [.pointer (some ⟨x, 0, none⟩)]) fun b2 h7 x7 s7 => ?_
      have ox : Sl TP (some ⟨b2, 0, none⟩) 1 1 [x] (cA b2 [.pointer (some ⟨x, 0, none⟩)] 60) := Sl.one rfl
      refine ⟨⟨_, _, _, (kx.ext x7).cell 0, rfl⟩, ?_, ?_⟩
      · refine append_sl ok_node (s7.at E1) p1' (ox.rd (s7.at (cA b2 [.pointer (some ⟨x, 0, none⟩)] 60))) (by omega) fun q c h8 E1' n1 s8 => ?_
        refine ⟨⟨_, _, _, (s8.at (nodeC x ux.es.length xks.length z1 z2 z3 z4 z5 z6)).cell 0, rfl⟩, ?_⟩
        refine s8.new (cs := [.int .i64 (ux.es.length : Int)]) fun b3 h9 x9 s9 => ?_
        have oy : Sl TI (some ⟨b3, 0, none⟩) 1 1 [(ux.es.length : Int)] (cA b3 [.int .i64 (ux.es.length : Int)] 3) := Sl.one rfl
        refine append_sl ok_int (s9.at E2) p2'' (oy.rd (s9.at (cA b3 [.int .i64 (ux.es.length : Int)] 3))) (by omega) fun q' c' h10 E2' n2 s10 => ?_
        exact fin h10 q q' c c' E1' E2' (cA b2 [.pointer (some ⟨x, 0, none⟩)] 60 + cA b3 [.int .i64 (ux.es.length : Int)] 3) n1 n2 s10.to
      · refine s7.new (cs := [.int .i64 (ux.es.length : Int)]) fun b4 h11 x11 s11 => ?_
        have oy : Sl TI (some ⟨b4, 0, none⟩) 1 1 [(ux.es.length : Int)] (cA b4 [.int .i64 (ux.es.length : Int)] 3) := Sl.one rfl
        refine append_sl ok_node (s11.at E1) p1' (ox.rd (s11.at (cA b2 [.pointer (some ⟨x, 0, none⟩)] 60))) (by omega) fun q c h12 E1' n1 s12 => ?_
        refine append_sl ok_int (s12.at E2) p2'' (oy.rd (s12.at (cA b4 [.int .i64 (ux.es.length : Int)] 3))) (by omega) fun q' c' h13 E2' n2 s13 => ?_
        exact fin h13 q q' c c' E1' E2' (cA b2 [.pointer (some ⟨x, 0, none⟩)] 60 + cA b4 [.int .i64 (ux.es.length : Int)] 3) n1 n2 s13.to
    · refine s6.new (cs := [.int .i64 (ux.es.length : Int)]) fun b5 h14 x14 s14 => ?_
      have oy : Sl TI (some ⟨b5, 0, none⟩) 1 1 [(ux.es.length : Int)] (cA b5 [.int .i64 (ux.es.length : Int)] 3) := Sl.one rfl
      refine s14.new (cs := [.pointer (some ⟨x, 0, none⟩)]) fun b6 h15 x15 s15 => ?_
      have ox : Sl TP (some ⟨b6, 0, none⟩) 1 1 [x] (cA b6 [.pointer (some ⟨x, 0, none⟩)] 60) := Sl.one rfl
      refine append_sl ok_node (s15.at E1) p1' (ox.rd (s15.at (cA b6 [.pointer (some ⟨x, 0, none⟩)] 60))) (by omega) fun q c h16 E1' n1 s16 => ?_
      refine append_sl ok_int (s16.at E2) p2'' (oy.rd (s16.at (cA b5 [.int .i64 (ux.es.length : Int)] 3))) (by omega) fun q' c' h17 E2' n2 s17 => ?_
      exact fin h17 q q' c c' E1' E2' (cA b6 [.pointer (some ⟨x, 0, none⟩)] 60 + cA b5 [.int .i64 (ux.es.length : Int)] 3) n1 n2 s17.to
  · -- a leaf
    subst hm0
    have hplug : xs = Lb 0 fs ++ (u.es ++ Rb 0 fs) := by rw [← hfl, ← w.plug, ← w.hgt, flat_plug u w.ctx.ok]; rfl
    have hx2 : xs = (Lb 0 fs ++ eL) ++ (key, old) :: (eR' ++ Rb 0 fs) := by rw [hplug, he]; simp
    rw [cut _ _ hx2]
    refine remove_b3_ok hor h64 (by omega) ⟨by omega, by omega⟩ o1 o2 rfl (u := u) (by omega) w.ctx w.sub w.szc w.szb (n := n) (by omega) ?_ ?_ hmost s4
    · rw [he]; simp
    · rw [hx2]; simp; omega
end
end Go.Proofs.YtkdmcdnfakmapaaGreat

/- B-trees: the law Heights. -/
set_option maxRecDepth 100000
namespace Go.Proofs.YtkdmcdnfakmapaaGreat
open Go Go.Sx
theorem low_sub {xs : List E} {key : Int} : (lowS xs key).Sublist xs := List.takeWhile_sublist _
theorem up_sub {xs : List E} {key : Int} : (upS xs key).Sublist xs := List.dropWhile_sublist _
theorem up_ge {xs : List E} {key : Int} (hs : Srt xs) : ∀ e ∈ upS xs key, key ≤ e.1 := by
  have h1 : Srt (upS xs key) := hs.sublist up_sub
  intro e he
  cases h : upS xs key with
  | nil => rw [h] at he; cases he
  | cons y ys =>
    have hy : ¬ y.1 < key := by
      have := List.head?_dropWhile_not (p := fun e : E => decide (e.1 < key)) xs
      rw [show xs.dropWhile (fun e => decide (e.1 < key)) = y :: ys from h] at this
      simpa using this
    rw [h] at he h1
    rcases List.mem_cons.1 he with rfl | he
    · omega
    · have := (Srt.con.1 h1).1 e he; omega
theorem srt_ins {X Y : List E} {key v : Int} (hX : Srt X) (hY : Srt Y) (h1 : ∀ e ∈ X, e.1 < key) (h2 : ∀ e ∈ Y, key < e.1) : Srt (X ++ (key, v) :: Y) := by
  rw [Srt.app, Srt.con]
  refine ⟨hX, ⟨h2, hY⟩, fun x hx y hy => ?_⟩
  rcases List.mem_cons.1 hy with rfl | hy
  · exact h1 x hx
  · exact Int.lt_trans (h1 x hx) (h2 y hy)
theorem up_tail_gt {xs : List E} {key : Int} (hs : Srt xs) (hk : hasKey (upS xs key) key = true) : ∀ e ∈ (upS xs key).tail, key < e.1 := by
  have h1 : Srt (upS xs key) := hs.sublist up_sub
  cases h : upS xs key with
  | nil => simp
  | cons y ys =>
    rw [h] at h1 hk
    have hy : y.1 = key := of_decide_eq_true hk
    intro e he
    have := (Srt.con.1 h1).1 e he
    omega
theorem putS_srt {xs : List E} {key v : Int} (hs : Srt xs) : Srt (putS xs key v).1 := by
  unfold putS
  have hX : Srt (lowS xs key) := hs.sublist low_sub
  have hY : Srt (upS xs key) := hs.sublist up_sub
  split
  · split
    · rename_i hk
      exact srt_ins hX (hY.sublist (List.tail_sublist _)) low_lt (up_tail_gt hs hk)
    · rename_i hk
      split
      · exact hs
      · exact srt_ins hX hY low_lt (key_gt hY (up_ge hs) (by simpa using hk))
  · exact hs
theorem removeS_srt {xs : List E} {key : Int} (hs : Srt xs) : Srt (removeS xs key).1 := by
  unfold removeS
  split
  · split
    · rename_i hk
      have h1 : Srt (lowS xs key ++ upS xs key) := by rw [← upS_len]; exact hs
      exact h1.sublist (List.Sublist.append (List.Sublist.refl _) (List.tail_sublist _))
    · exact hs
  · exact hs
theorem putS_len {xs : List E} {key v : Int} : xs.length ≤ (putS xs key v).1.length ∧ (putS xs key v).1.length ≤ xs.length + 1 := by
  have h := congrArg List.length (upS_len (xs := xs) (key := key))
  rw [List.length_append] at h
  unfold putS
  split
  · split
    · rename_i hk
      cases hu : upS xs key with
      | nil => rw [hu] at hk; cases hk
      | cons y ys => rw [hu] at h; simp at h ⊢; omega
    · split
      · exact ⟨Nat.le_refl _, Nat.le_succ _⟩
      · simp; omega
  · exact ⟨Nat.le_refl _, Nat.le_succ _⟩
theorem removeS_len {xs : List E} {key : Int} : (removeS xs key).1.length ≤ xs.length := by
  have h := congrArg List.length (upS_len (xs := xs) (key := key))
  rw [List.length_append] at h
  unfold removeS
  split
  · split
    · simp; omega
    · exact Nat.le_refl _
  · exact Nat.le_refl _
theorem putS_mem {xs : List E} {key v : Int} {e : E} (h : e ∈ (putS xs key v).1) : e = (key, v) ∨ e ∈ xs := by
  unfold putS at h
  split at h
  · split at h
    · rcases List.mem_append.1 h with h | h
      · exact .inr (low_sub.mem h)
      · rcases List.mem_cons.1 h with h | h
        · exact .inl h
        · exact .inr (up_sub.mem (List.mem_of_mem_tail h))
    · split at h
      · exact .inr h
      · rcases List.mem_append.1 h with h | h
        · exact .inr (low_sub.mem h)
        · rcases List.mem_cons.1 h with h | h
          · exact .inl h
          · exact .inr (up_sub.mem h)
  · exact .inr h
theorem removeS_mem {xs : List E} {key : Int} {e : E} (h : e ∈ (removeS xs key).1) : e ∈ xs := by
  unfold removeS at h
  split at h
  · split at h
    · rcases List.mem_append.1 h with h | h
      · exact low_sub.mem h
      · exact up_sub.mem (List.mem_of_mem_tail h)
    · exact h
  · exact h
theorem SzR.lower {lo hi n b : Nat} {t : BT} {A : Bag} (hh : Hold n b t A) (h : SzR lo hi n t) : 2 * (lo + 1) ^ n ≤ (flat n t).length + 1 := by
  cases n with
  | zero =>
    have : 1 ≤ t.es.length ∧ t.es.length ≤ hi := h
    simp [flat]; omega
  | succ n =>
    have hl := hh.len
    obtain ⟨ks, A1, A2, rfl, _, _, h2⟩ := hh
    have hk : ∀ k ∈ t.ts.map (flat n), (lo + 1) ^ (n + 1) ≤ k.length + 1 ∧ k.length + 1 ≤ (hi + 1) ^ (n + 1) := by
      intro k hk
      obtain ⟨c, hc, rfl⟩ := List.mem_map.1 hk
      obtain ⟨b', A', hc'⟩ := AllH.each h2 c hc
      exact Sz.count hc' (h.2 c hc)
    have := (weave_len t.es (t.ts.map (flat n)) (by rw [List.length_map]; exact hl) hk).1
    refine Nat.le_trans ?_ this
    exact Nat.mul_le_mul_right _ (by have := h.1.1; omega)
theorem mul_le_pow {m i : Nat} {b : Nat} (hm : m ≤ b) (hb : 0 < b) (hi : i ≤ 10) : m ^ i ≤ b ^ 10 := Nat.le_trans (Nat.pow_le_pow_left hm i) (Nat.pow_le_pow_right hb hi)
end Go.Proofs.YtkdmcdnfakmapaaGreat

/- B-trees: the reference's lists of entries. -/
set_option maxRecDepth 100000
namespace Go.Proofs.YtkdmcdnfakmapaaGreat
open Go Go.Sx
theorem pair_at1A {h : Hp} {p : Option Addr} {n : Nat} {l : List E} {i : Int} {Q : Addr → Int → Prop} (r : RdT TE h p n l) (h0 : 0 ≤ i) (h1 : i < n) (hq : ∀ a, p = some a → Q a (l.getD i.toNat (0, 0)).2) :
    (0 ≤ i ∧ i < (n : Int)) ∧ NN p fun a => (0 ≤ (1 : Int) ∧ (1 : Int) < ((2 : Nat) : Int)) ∧ ∃ x : Int, cell h ((a.add (Int.toNat i * 2)).add (Int.toNat (1 : Int) * 1)) = some (.int .i64 x) ∧ Q a x :=
  r.idx h0 h1 fun a ha hc => ⟨⟨by omega, by omega⟩, _, hc 1 (show 1 < 2 by decide), hq a ha⟩
theorem pair_again1 {h : Hp} {p : Option Addr} {n : Nat} {l : List E} {i : Nat} {a : Addr} {z : Int} (r : RdT TE h p n l) (ha : p = some a) (hi : i < n) (hz : (l.getD i (0, 0)).2 = z) :
    ∃ m : Int, cell h ((a.add (i * 2)).add (Int.toNat (1 : Int) * 1)) = some (.int .i64 m) ∧ (.int .i64 m : Value) = .int .i64 z := by
  obtain ⟨a', ha', hc⟩ := r.at_ hi
  rw [ha] at ha'
  cases ha'
  exact ⟨_, hc 1 (show 1 < 2 by decide), by rw [← hz]⟩
theorem low_len {xs : List E} {key : Int} : (lowS xs key).length ≤ xs.length := low_sub.length_le
theorem take_eq_of {α : Type} {xs X Y : List α} (h : xs = X ++ Y) : xs.take X.length = X ∧ xs.drop X.length = Y := by subst h; exact ⟨List.take_left' rfl, List.drop_left' rfl⟩
theorem low_take {xs : List E} {key : Int} : xs.take (lowS xs key).length = lowS xs key := (take_eq_of upS_len).1
theorem up_drop {xs : List E} {key : Int} : xs.drop (lowS xs key).length = upS xs key := (take_eq_of upS_len).2
theorem up_head {xs : List E} {key : Int} (h : hasKey (upS xs key) key = true) : (lowS xs key).length < xs.length ∧ xs.getD (lowS xs key).length (0, 0) = (key, valOf (upS xs key)) ∧ xs.drop ((lowS xs key).length + 1) = (upS xs key).tail := by
  have hu := up_drop (xs := xs) (key := key)
  cases hc : upS xs key with
  | nil => rw [hc] at h; cases h
  | cons e es =>
    rw [hc] at h hu
    have hk : e.1 = key := of_decide_eq_true h
    have hlt : (lowS xs key).length < xs.length := by
      rcases Nat.lt_or_ge (lowS xs key).length xs.length with h | h
      · exact h
      · rw [List.drop_of_length_le h] at hu; cases hu
    rw [List.drop_eq_getElem_cons hlt] at hu
    injection hu with h1 h2
    refine ⟨hlt, ?_, h2⟩
    have : xs.getD (lowS xs key).length (0, 0) = xs[(lowS xs key).length] := by simp [List.getD, hlt]
    rw [this, h1]
    show e = (key, e.2)
    rw [← hk]
theorem sl_of_pairs {b : Nat} {xs : List E} {n : Nat} (hl : xs.length = n) {cs : List Value} (hc : cs = TE.cells xs) : Sl TE (some ⟨b, 0, none⟩) n n xs (cA b cs 51) := Sl.of_blk hl hc
theorem last_getD {xs : List E} {key : Int} (h : 0 < (lowS xs key).length) : (lastOf (lowS xs key)).1 = (xs.getD ((lowS xs key).length - 1) (0, 0)).1 ∧ (lastOf (lowS xs key)).2.1 = (xs.getD ((lowS xs key).length - 1) (0, 0)).2 ∧ (lastOf (lowS xs key)).2.2 = true := by
  have hl := low_len (xs := xs) (key := key)
  have h1 : xs.getD ((lowS xs key).length - 1) (0, 0) = (lowS xs key).getD ((lowS xs key).length - 1) (0, 0) := by
    have : ∀ {X Y : List E}, xs = X ++ Y → 0 < X.length → xs.getD (X.length - 1) (0, 0) = X.getD (X.length - 1) (0, 0) := by
      rintro X Y rfl hX
      simp [List.getD, List.getElem?_append, Nat.sub_lt hX]
    exact this upS_len h
  rw [h1]
  have hlast : (lowS xs key).getLast? = some ((lowS xs key).getD ((lowS xs key).length - 1) (0, 0)) := by
    rw [List.getLast?_eq_getElem?, List.getElem?_eq_getElem (by omega)]
    simp [List.getD, (show (lowS xs key).length - 1 < (lowS xs key).length by omega)]
  simp only [lastOf, hlast]
  exact ⟨trivial, trivial, trivial⟩
/-- A pair in a box of its own. -/
theorem box2 {h0 h : Hp} {b : Nat} {x y z w : Int} {F : Bag} {e : Int} {v : Value} (s : St h0 h (cA b [.int .i64 z, .int .i64 w] 51 + F)) (hv : .tuple #[.agg #[.int .i64 x, .int .i64 y], .int .i64 e] = v) :
    Wr h ⟨b, 0, none⟩ (.int .i64 x) fun h3 => Wr h3 ((⟨b, 0, none⟩ : Addr).add 1) (.int .i64 y) fun h4 => ∃ r2 : Int, ∃ r3 : Int, cell h4 ⟨b, 0, none⟩ = some (.int .i64 r2) ∧ cell h4 ((⟨b, 0, none⟩ : Addr).add 1) = some (.int .i64 r3) ∧ Ext h0 h4 ∧ .tuple #[.agg #[.int .i64 r2, .int .i64 r3], .int .i64 e] = v := by
  refine s.wr rfl (by simp) fun h3 s3 => ?_
  refine s3.wr (o := 1) (add_mk _ _ _) (by simp) fun h4 s4 => ?_
  exact ⟨_, _, s4.blk.cell 0, Blk.cellA s4.blk 1, s4.ext, hv⟩
end Go.Proofs.YtkdmcdnfakmapaaGreat

/- B-trees: a step on a tree and on a list; the law Plays. -/
set_option maxRecDepth 100000
namespace Go.Proofs.YtkdmcdnfakmapaaGreat
open Go Go.Sx
def stepS (xs : List E) (k a b : Int) : List E := if k = 0 then (putS xs a b).1 else if k = 2 then (removeS xs a).1 else xs
theorem stepS_srt {xs : List E} {k a b : Int} (h : Srt xs) : Srt (stepS xs k a b) := by
  unfold stepS
  split
  · exact putS_srt h
  · split
    · exact removeS_srt h
    · exact h
theorem stepS_len {xs : List E} {k a b : Int} : (stepS xs k a b).length ≤ xs.length + 1 := by
  unfold stepS
  split
  · exact putS_len.2
  · split
    · have := removeS_len (xs := xs) (key := a); omega
    · omega
end Go.Proofs.YtkdmcdnfakmapaaGreat

/- B-trees: the law Plays. -/
set_option maxRecDepth 100000
namespace Go.Proofs.YtkdmcdnfakmapaaGreat
open Go Go.Sx
abbrev T3 := Int × Int × Int
/-- As Levels, but the shape is the tree's, whatever the heap. -/
theorem Levels_fix {order tb : Nat} {xs : List E} {vis : Int} {A : Bag} (hor : 3 ≤ order) (h64 : order ≤ 64) (hmost : xs.length ≤ 2000) (ta : TreeA order xs tb vis A) :
    ∃ ls, levelsT order xs ls ∧ ∀ {h0 h : Hp} {G : Bag}, St h0 h (A + G) → HCalls Tryz.prog 18 #[ptr tb] h (fun v h' => ∃ p n c B, v = .slice p n c ∧ OutA (p, n, c) ls B ∧ St h0 h' (A + (B + G))) := by
  rcases ta with ⟨rfl, rfl⟩ | ⟨n, root, t, A1, rfl, hh, hfl, hsz⟩
  · refine ⟨[], .inl ⟨rfl, rfl⟩, fun {h0 h G} s => ?_⟩
    refine btree_Tree_Levels_call ?_
    rw [btree_Tree_Levels_b0_eq]
    refine condNo rfl ?_
    exact ⟨_, s.cellA 2, condYes rfl ⟨none, 0, 0, 0, rfl, Nest.nil, s.to⟩⟩
  · refine ⟨levels n t, .inr ⟨n, t, root, A1, rfl, hh, hfl, hsz⟩, fun {h0 h G} s => ?_⟩
    refine btree_Tree_Levels_call ?_
    rw [btree_Tree_Levels_b0_eq]
    refine condNo rfl ?_
    have s1 := s.to (B := treeC tb order xs.length (some ⟨root, 0, none⟩) vis + (A1 + G))
    refine ⟨_, s1.cellA 2, condNo rfl ?_⟩
    rw [btree_Tree_Levels_b1_eq]
    refine ⟨_, s1.cellA 2, ?_⟩
    refine s1.new (cs := [.pointer (some ⟨root, 0, none⟩)]) fun b1 h1 _ s2 => ?_
    have hz1 : Sz 1 (order - 1) n t := hsz.one (by omega)
    refine ⟨fun x h' => ∃ (k : Nat) (Bo Bl : Bag), k ≤ n + 1 ∧ OutA x.1 ((List.range k).map fun j => lv n j t) Bo ∧ St h0 h' (A1 + (Bo + (Bl + (treeC tb order xs.length (some ⟨root, 0, none⟩) vis + G)))) ∧
      ((k = n + 1 ∧ Sl TP x.2.1.1 x.2.1.2.1 x.2.1.2.2 [] Bl) ∨ ∃ (m : Nat) (bs : List Nat) (ts : List BT) (Ac Ar : Bag), k + m = n ∧ Sl TP x.2.1.1 x.2.1.2.1 x.2.1.2.2 bs Bl ∧ A1 = Ac + Ar ∧ AllH (Hold m) bs ts Ac ∧ (∀ u ∈ ts, Sz 1 (order - 1) m u) ∧ tot m ts ≤ 2000 ∧ 0 < bs.length ∧ (∀ j, ts.flatMap (lv m j) = lv n (k + j) t)),
      fun x _ => if x.2.1.2.1 = 0 then 0 else n + 2 - x.1.2.1, ?_, ?_⟩
    · refine ⟨0, 0, cA b1 [.pointer (some ⟨root, 0, none⟩)] 60, by omega, Nest.nil, s2.to, .inr ⟨n, [root], [t], A1, 0, by omega, (show Sl TP (some ⟨b1, 0, none⟩) 1 1 [root] (cA b1 [.pointer (some ⟨root, 0, none⟩)] (TP).e) from Sl.one rfl), (Bag.add_zero _).symm, AllH.one hh, ?_, ?_, by simp, ?_⟩⟩
      · intro u hu; simp at hu; subst hu; exact hz1
      · rw [tot_one, hfl]; exact hmost
      · intro j; simp
    rintro ⟨⟨p, m0, c⟩, ⟨q, l0, d⟩, _⟩ h2 ⟨k, Bo, Bl, hk, ho, s3, hrow⟩
    dsimp only at ho hrow ⊢
    have hol := ho.len
    rw [List.length_map, List.length_range] at hol
    dsimp only at hol
    subst hol
    rcases hrow with ⟨rfl, hl⟩ | ⟨m, bs, ts, Ac, Ar, hkm, hl, hA, hall, hzs, htot, hpos, hlv⟩
    · obtain rfl : 0 = l0 := hl.len
      rw [btree_Tree_Levels_b2_eq]
      refine condNo (by decide) ?_
      rw [btree_Tree_Levels_b4_eq]
      refine ⟨p, n + 1, c, Bo, rfl, ho, (s3.to (B := Bl + (treeC tb order xs.length (some ⟨root, 0, none⟩) vis + A1 + (Bo + G)))).drop⟩
    · obtain ⟨ys, B1, B2, hAc, g1, g2, g3, g4⟩ := row hall
      have hll := hl.len
      have hcnt := tot_ge hall hzs
      have hbt := hall.len
      have hylen := g1.len
      have hn := pow_bound (n := n) (m := xs.length) (by rw [← hfl]; exact hsz.low hh (by omega)) (by omega)
      have hfm : (ys.flatMap Prod.snd).length ≤ 2000 ∧ (∀ m', m = m' + 1 → tot m' (ts.flatMap BT.ts) ≤ 2000 ∧ ∀ u ∈ ts.flatMap BT.ts, Sz 1 (order - 1) m' u) := by
        cases m with
        | zero => rw [g3 rfl]; exact ⟨by simp, fun m' hm => by omega⟩
        | succ m =>
          have h5 := tot_next hall
          have h7 : ∀ u ∈ ts.flatMap BT.ts, Sz 1 (order - 1) m u := by
            intro u hu
            obtain ⟨w, hw, huw⟩ := List.mem_flatMap.1 hu
            exact (hzs w hw).2 u huw
          have h6 := tot_ge (g4 m rfl) h7
          have h8 := (g4 m rfl).len
          refine ⟨by omega, fun m' hm => ?_⟩
          obtain rfl : m = m' := by omega
          exact ⟨by omega, h7⟩
      have hes : ∀ x ∈ ys, x.1.length ≤ 1000 := by
        intro x hx
        have : x.1 ∈ ys.map Prod.fst := List.mem_map.2 ⟨x, hx, rfl⟩
        rw [g2] at this
        obtain ⟨u, hu, he⟩ := List.mem_map.1 this
        have := (hzs u hu).here
        rw [← he]; omega
      have hrow : ys.map (fun x => x.1.map Prod.fst) = lv n k t := by
        have h5 := hlv 0
        rw [lv_here, Nat.add_zero] at h5
        rw [← h5]
        have : ys.map (fun x => x.1.map Prod.fst) = (ys.map Prod.fst).map (fun es => es.map Prod.fst) := by simp
        rw [this, g2]; simp
      have s4 : St h0 h2 (B1 + (Bo + (Bl + (B2 + (Ar + (treeC tb order xs.length (some ⟨root, 0, none⟩) vis + G)))))) := by rw [hA, hAc] at s3; exact s3.to
      refine levels_b2_ok g1 ho hl (by omega) (by omega) (by omega) (by omega) hes s4 fun h' p' c' q' d' Bo' Bl' ho' hl' s5 => ?_
      rw [hrow] at ho'
      have hout : OutA (p', k + 1, c') ((List.range (k + 1)).map fun j => lv n j t) Bo' := by rw [List.range_succ, List.map_append]; exact ho'
      have s6 : St h0 h' (A1 + (Bo' + (Bl' + (treeC tb order xs.length (some ⟨root, 0, none⟩) vis + G)))) := by rw [hA, hAc]; exact s5.to
      refine ⟨⟨k + 1, Bo', Bl', by omega, hout, s6, ?_⟩, ?_⟩
      · cases m with
        | zero =>
          refine .inl ⟨by omega, ?_⟩
          have := hl'
          rw [g3 rfl] at this
          dsimp only
          rw [g3 rfl]
          exact this
        | succ m =>
          refine .inr ⟨m, ys.flatMap Prod.snd, ts.flatMap BT.ts, B2, B1 + Ar, by omega, hl', by rw [hA, hAc]; ac_rfl, g4 m rfl, (hfm.2 m rfl).2, (hfm.2 m rfl).1, ?_, ?_⟩
          · have h8 := (g4 m rfl).len
            obtain ⟨u, us, hts⟩ : ∃ u us, ts = u :: us := by
              cases ts with
              | nil => exact absurd (show bs.length = 0 from hbt) (by omega)
              | cons u us => exact ⟨u, us, rfl⟩
            have hu : u.ts.length = u.es.length + 1 := by
              subst hts
              cases bs with
              | nil => simp at hpos
              | cons b bs =>
                obtain ⟨_, _, _, k1, _⟩ := hall
                exact k1.len
            rw [h8, hts, List.flatMap_cons, List.length_append]
            omega
          · intro j
            rw [← lv_next, hlv (j + 1)]
            congr 1
            omega
      · have hl0 : l0 ≠ 0 := by omega
        simp only
        rw [if_neg hl0]
        split
        · omega
        · omega
theorem Height_fix {tb : Nat} {ls : List (List (List Int))} {A : Bag} (hl : ∀ {h0 h : Hp} {G : Bag}, St h0 h (A + G) → HCalls Tryz.prog 18 #[ptr tb] h (fun v h' => ∃ p n c B, v = .slice p n c ∧ OutA (p, n, c) ls B ∧ St h0 h' (A + (B + G)))) {h0 h : Hp} {G : Bag} (s : St h0 h (A + G)) :
    HCalls Tryz.prog 16 #[ptr tb] h (fun v h' => v = .int .i64 (ls.length : Int) ∧ St h0 h' (A + G)) := by
  refine btree_Tree_Height_call ?_
  rw [btree_Tree_Height_b0_eq]
  refine (hl s).mono fun v h' ⟨p, n, c, B, hv, ho, s'⟩ => ?_
  refine ⟨_, _, _, hv, ?_, (s'.to (B := B + (A + G))).drop⟩
  have := ho.len
  dsimp only at this
  rw [this]
theorem stepS_ok {xs : List E} {k a b : Int} (h : OkL xs) : OkL (stepS xs k a b) := by
  refine ⟨fun x hx => ?_, stepS_srt h.2⟩
  unfold stepS at hx
  split at hx
  · by_cases hk : KeyP a ∧ KeyP b
    · rcases putS_mem hx with rfl | hx
      · exact hk
      · exact h.1 x hx
    · rw [putS, if_neg hk] at hx
      exact h.1 x hx
  · split at hx
    · exact h.1 x (removeS_mem hx)
    · exact h.1 x hx
end Go.Proofs.YtkdmcdnfakmapaaGreat

/- B-trees: the law Full. -/
set_option maxRecDepth 100000
namespace Go.Proofs.YtkdmcdnfakmapaaGreat
open Go Go.Sx
def evs (s n : Nat) : List E := (List.range' s n).map fun (i : Nat) => (2 * (i : Int), (i : Int))
theorem evs_len {s n : Nat} : (evs s n).length = n := by simp [evs]
theorem evs_mem {s n : Nat} {e : E} (h : e ∈ evs s n) : ∃ i : Nat, s ≤ i ∧ i < s + n ∧ e = (2 * (i : Int), (i : Int)) := by
  obtain ⟨i, hi, rfl⟩ := List.mem_map.1 h
  exact ⟨i, (List.mem_range'_1.1 hi).1, (List.mem_range'_1.1 hi).2, rfl⟩
theorem evs_add {s m n : Nat} : evs s (m + n) = evs s m ++ evs (s + m) n := by
  unfold evs
  rw [← List.map_append, List.range'_append_1]
theorem evs_cons {s n : Nat} : evs s (n + 1) = (2 * (s : Int), (s : Int)) :: evs (s + 1) n := rfl
theorem evs_one {s : Nat} : evs s 1 = [(2 * (s : Int), (s : Int))] := rfl
theorem evs_srt {n : Nat} : ∀ {s : Nat}, Srt (evs s n) := by
  induction n with
  | zero => intro s; exact List.Pairwise.nil
  | succ n ih =>
    intro s
    rw [evs_cons, Srt.con]
    refine ⟨fun y hy => ?_, ih⟩
    obtain ⟨i, h1, h2, rfl⟩ := evs_mem hy
    simp only; omega
theorem evs_ok : OkL (evs 0 2000) := by
  refine ⟨fun x hx => ?_, evs_srt⟩
  obtain ⟨i, h1, h2, rfl⟩ := evs_mem hx
  exact ⟨⟨by simp only; omega, by simp only; omega⟩, ⟨by simp only; omega, by simp only; omega⟩⟩
theorem evs_split {r : Nat} (hr : r < 2000) : evs 0 2000 = evs 0 r ++ (2 * (r : Int), (r : Int)) :: evs (r + 1) (1999 - r) := by
  have h1 : evs 0 2000 = evs 0 r ++ evs (0 + r) (1999 - r + 1) := by rw [← evs_add]; congr 1; omega
  rw [h1, evs_cons, Nat.zero_add]
theorem evs_cut {r : Nat} {v : Int} : evs 0 r = lowS (evs 0 r ++ (2 * (r : Int), v) :: evs (r + 1) (1999 - r)) (2 * (r : Int)) ∧ (2 * (r : Int), v) :: evs (r + 1) (1999 - r) = upS (evs 0 r ++ (2 * (r : Int), v) :: evs (r + 1) (1999 - r)) (2 * (r : Int)) := by
  refine cut_eq rfl (fun x hx => ?_) (fun y hy => ?_)
  · obtain ⟨i, h1, h2, rfl⟩ := evs_mem hx
    simp only; omega
  · rcases List.mem_cons.1 hy with rfl | hy
    · exact Int.le_refl _
    · obtain ⟨i, h1, h2, rfl⟩ := evs_mem hy
      simp only; omega
theorem put_odd {k : Int} (h0 : 0 ≤ k) (h1 : k ≤ 65535) : putS (evs 0 2000) (2 * k + 1) 0 = (evs 0 2000, 0, false, 4) := by
  have hk : ¬ hasKey (upS (evs 0 2000) (2 * k + 1)) (2 * k + 1) = true := by
    intro h
    cases hu : upS (evs 0 2000) (2 * k + 1) with
    | nil => rw [hu] at h; cases h
    | cons e es =>
      rw [hu] at h
      have he : e.1 = 2 * k + 1 := of_decide_eq_true h
      have hm : e ∈ evs 0 2000 := up_sub.mem (by rw [hu]; simp)
      obtain ⟨i, _, _, rfl⟩ := evs_mem hm
      simp only at he; omega
  rw [putS, if_pos ⟨⟨by omega, by omega⟩, by decide⟩, if_neg hk, if_pos (by rw [evs_len]; exact Nat.le_refl _)]
abbrev sev (r : Nat) : List E := evs 0 r ++ (2 * (r : Int), 7) :: evs (r + 1) (1999 - r)
theorem put_even {r : Nat} (hr : r < 2000) : putS (evs 0 2000) (2 * (r : Int)) 7 = (sev r, (r : Int), true, 0) := by
  obtain ⟨c1, c2⟩ := evs_cut (r := r) (v := (r : Int))
  rw [evs_split hr, putS, ← c1, ← c2, if_pos ⟨⟨by omega, by omega⟩, by decide⟩, if_pos (show hasKey (_ :: _) _ = true from decide_eq_true rfl)]
  rfl
theorem get_even {r : Nat} (hr : r < 2000) : getS (sev r) (2 * (r : Int)) = (7, 0) := by
  obtain ⟨c1, c2⟩ := evs_cut (r := r) (v := 7)
  rw [getS, ← c2, if_pos ⟨by omega, by omega⟩, if_pos (show hasKey (_ :: _) _ = true from decide_eq_true rfl)]
  rfl
theorem sev_len {r : Nat} (hr : r < 2000) : (sev r).length = 2000 := by
  rw [List.length_append, List.length_cons, evs_len, evs_len]; omega
theorem sev_keys {r : Nat} (hr : r < 2000) : (sev r).map Prod.fst = (evs 0 2000).map Prod.fst := by
  rw [evs_split hr]; simp
theorem span_keys {a b : Int} {l : List E} : (l.filter (inSpan a b)).length = ((l.map Prod.fst).filter fun k => decide (a ≤ k ∧ k < b)).length := by
  rw [List.filter_map, List.length_map]
  rfl
theorem evs_span {m : Nat} {b : Int} (hm : m ≤ 2000) (h1 : b ≤ 2 * (m : Int)) (h2 : 2 * (m : Int) - 2 < b) : ((evs 0 2000).filter (inSpan 0 b)).length = m := by
  have hsp : evs 0 2000 = evs 0 m ++ evs (0 + m) (2000 - m) := by rw [← evs_add]; congr 1; omega
  rw [hsp, List.filter_append]
  have e1 : (evs 0 m).filter (inSpan 0 b) = evs 0 m := by
    rw [List.filter_eq_self]
    intro e he
    obtain ⟨i, _, h4, rfl⟩ := evs_mem he
    exact decide_eq_true ⟨by simp only; omega, by simp only; omega⟩
  have e2 : (evs (0 + m) (2000 - m)).filter (inSpan 0 b) = [] := by
    rw [List.filter_eq_nil_iff]
    intro e he
    obtain ⟨i, h3, _, rfl⟩ := evs_mem he
    rw [inSpan, decide_eq_false (fun h => by simp only at h; omega)]
    simp
  rw [e1, e2, List.append_nil, evs_len]
theorem sev_span {r m : Nat} {b : Int} (hr : r < 2000) (hm : m ≤ 2000) (h1 : b ≤ 2 * (m : Int)) (h2 : 2 * (m : Int) - 2 < b) : ((sev r).filter (inSpan 0 b)).length = m := by
  rw [span_keys, sev_keys hr, ← span_keys, evs_span hm h1 h2]
theorem sev_srt {r : Nat} (hr : r < 2000) : Srt (sev r) := by
  have h : Srt (evs 0 2000) := evs_srt
  have h2 := putS_srt (key := 2 * (r : Int)) (v := 7) h
  rw [put_even hr] at h2
  exact h2
end Go.Proofs.YtkdmcdnfakmapaaGreat

/- The seat's own words under layer 3. -/
namespace Go.Proofs.YtkdmcdnfakmapaaGreat
end Go.Proofs.YtkdmcdnfakmapaaGreat
