/- B-trees in the heap: nodes, subtrees, splitting. -/
import Derived.Test.YtaemnjblcpknpaaSxM2
set_option maxRecDepth 100000
namespace Go.Proofs.Ytaemnjblcpknpaa
open Go Go.Sx
abbrev TI : Ty Int := tI 3
abbrev TP : Ty Nat := tP 73
abbrev E := Int × Int
abbrev ptr (b : Nat) : Value := .pointer (some ⟨b, 0, none⟩)
theorem Blk.cellA {h : Hp} {b : Nat} {cs : List Value} {e : TypeId} (hb : Blk h b cs e) (o : Nat) : cell h ((⟨b, 0, none⟩ : Addr).add o) = cs[o]? := by rw [add_mk, Nat.zero_add]; exact hb.cell o

/-- A node's own blocks. -/
structure NodeS (b : Nat) (es : List E) (ks : List Nat) (p1 p2 p3 : Option Addr) (c1 c2 c3 : Nat) (A1 A2 A3 : Bag) : Prop where
  s1 : Sl TI p1 es.length c1 (es.map Prod.fst) A1
  s2 : Sl TI p2 es.length c2 (es.map Prod.snd) A2
  s3 : Sl TP p3 ks.length c3 ks A3
abbrev nodeC (b : Nat) (n m : Nat) (p1 p2 p3 : Option Addr) (c1 c2 c3 : Nat) : Bag := cA b [.slice p1 n c1, .slice p2 n c2, .slice p3 m c3] 89
def NodeA (b : Nat) (es : List E) (ks : List Nat) (A : Bag) : Prop :=
  ∃ p1 p2 p3 c1 c2 c3 A1 A2 A3, A = nodeC b es.length ks.length p1 p2 p3 c1 c2 c3 + (A1 + (A2 + A3)) ∧ NodeS b es ks p1 p2 p3 c1 c2 c3 A1 A2 A3

theorem leaf_ok {h0 h : Hp} {b : Nat} {es : List E} {ks : List Nat} {A F : Bag} (s : St h0 h (A + F)) (na : NodeA b es ks A) :
    HCalls Try.prog 42 #[ptr b] h (fun v h' => h' = h ∧ v = .bool (decide (ks.length = 0))) := by
  obtain ⟨p1, p2, p3, c1, c2, c3, A1, A2, A3, rfl, ns⟩ := na
  refine btree_node_leaf_call ?_
  rw [btree_node_leaf_b0_eq]
  refine ⟨_, _, _, (s.to (B := nodeC b _ _ p1 p2 p3 c1 c2 c3 + (A1 + (A2 + A3) + F))).cellA 2, rfl, ?_⟩
  congr 1
  exact decide_eq_decide.2 (by omega)

theorem split_b1_ok {h0 h : Hp} {b m : Nat} {es : List E} {p1 p2 p3 : Option Addr} {c1 c2 c3 m3 : Nat} {A1 A2 F : Bag} {key value : Int} {right : Option Addr} {K : Value → Hp → Prop}
    (s : St h0 h (nodeC b es.length m3 p1 p2 p3 c1 c2 c3 + (A1 + (A2 + F)))) (a1 : Sl TI p1 es.length c1 (es.map Prod.fst) A1) (a2 : Sl TI p2 es.length c2 (es.map Prod.snd) A2) (hm : m ≤ es.length) (hsz : es.length < 1000)
    (hk : ∀ h' q1 q2 d1 d2 B1 B2, St h0 h' (nodeC b m m3 q1 q2 p3 d1 d2 c3 + (B1 + (B2 + F))) → Sl TI q1 m d1 ((es.take m).map Prod.fst) B1 → Sl TI q2 m d2 ((es.take m).map Prod.snd) B2 → K (.tuple #[.int .i64 key, .int .i64 value, .pointer right]) h') :
    btree_split_b1 (some ⟨b, 0, none⟩) (m : Int) key value right h K := by
  have l1 := a1.cap
  have l2 := a2.cap
  rw [btree_split_b1_eq]
  have kb := s.blk
  refine ⟨_, _, _, kb.cell 0, ⟨by omega, by omega, by omega⟩, _, _, _, Blk.cellA kb 1, ⟨by omega, by omega, by omega⟩, ?_⟩
  have e0 : Int.toNat (0 : Int) = 0 := rfl
  rw [e0, Int.toNat_natCast, Nat.sub_zero, Nat.sub_zero, Nat.sub_zero, subAddr_z, subAddr_z]
  have r1 : RdT TI h p1 m ((es.take m).map Prod.fst) := by rw [List.map_take]; exact (a1.rd (s.at A1)).take hm
  have r2 : RdT TI h p2 m ((es.take m).map Prod.snd) := by rw [List.map_take]; exact (a2.rd (s.at A2)).take hm
  refine (cloneI_st r1 (by omega)).mono fun v1 h1 ⟨q1, d1, B1, hv1, o1, t1⟩ => ?_
  refine ⟨_, _, _, hv1, ⟨⟨by omega, by omega, by omega⟩, rfl⟩, ⟨_, _, _, Blk.cellA (kb.ext t1.ext) 1, rfl⟩, ?_⟩
  refine (cloneI_st (r2.ext t1.ext) (by omega)).mono fun v2 h2 ⟨q2, d2, B2, hv2, o2, t2⟩ => ?_
  refine ⟨_, _, _, hv2, ?_⟩
  have s2 := ((s.join t1).join t2).to (B := nodeC b es.length m3 p1 p2 p3 c1 c2 c3 + (A1 + A2 + (B1 + (B2 + F))))
  refine s2.wr rfl (by simp) fun h3 s3 => ?_
  refine s3.wr (o := 1) (add_mk _ _ _) (by simp) fun h4 s4 => ?_
  exact hk h4 q1 q2 d1 d2 B1 B2 (s4.to (B := (A1 + A2) + (nodeC b m m3 q1 q2 p3 d1 d2 c3 + (B1 + (B2 + F))))).drop o1 o2
theorem split_ok {h0 h : Hp} {b : Nat} {es : List E} {ks : List Nat} {A F : Bag} (s : St h0 h (A + F)) (na : NodeA b es ks A) (hL : 1 ≤ es.length) (hk0 : ks = [] ∨ ks.length = es.length + 1) (hsz : es.length < 1000) :
    HCalls Try.prog 65 #[ptr b] h (fun v h' => ∃ r A1 A2, v = .tuple #[.int .i64 (es.getD (es.length / 2) (0, 0)).1, .int .i64 (es.getD (es.length / 2) (0, 0)).2, ptr r] ∧
      NodeA b (es.take (es.length / 2)) (ks.take (es.length / 2 + 1)) A1 ∧ NodeA r (es.drop (es.length / 2 + 1)) (ks.drop (es.length / 2 + 1)) A2 ∧ St h0 h' (A1 + (A2 + F))) := by
  have na0 := na
  have s0 := s
  obtain ⟨p1, p2, p3, c1, c2, c3, A1, A2, A3, rfl, ⟨a1, a2, a3⟩⟩ := na
  have l1 := a1.cap
  have l2 := a2.cap
  have l3 := a3.cap
  refine btree_split_call ?_
  rw [btree_split_b0_eq]
  have s := s.to (B := nodeC b es.length ks.length p1 p2 p3 c1 c2 c3 + (A1 + (A2 + (A3 + F))))
  have kb := s.blk
  refine ⟨_, _, _, kb.cell 0, quo_intro (by omega) (by omega) (by omega) ?_⟩
  have hq : ((es.length : Nat) : Int) / 2 = ((es.length / 2 : Nat) : Int) := by omega
  rw [hq]
  have em : Int.toNat ((es.length / 2 : Nat) : Int) = es.length / 2 := Int.toNat_natCast _
  have em1 : Int.toNat (((es.length / 2 : Nat) : Int) + 1) = es.length / 2 + 1 := by omega
  have r1 := a1.rd (s.at A1)
  have r2 := a2.rd (s.at A2)
  have r3 := a3.rd (s.at A3)
  have g1 : (es.map Prod.fst).getD (es.length / 2) 0 = (es.getD (es.length / 2) (0, 0)).1 := by simp [List.getD, List.getElem?_map]; cases es[es.length / 2]? <;> rfl
  have g2 : (es.map Prod.snd).getD (es.length / 2) 0 = (es.getD (es.length / 2) (0, 0)).2 := by simp [List.getD, List.getElem?_map]; cases es[es.length / 2]? <;> rfl
  refine ⟨_, _, _, kb.cell 0, r1.int (by omega) (by omega) ?_⟩
  rw [em, g1]
  refine ⟨_, _, _, Blk.cellA kb 1, r2.int (by omega) (by omega) ?_⟩
  rw [em, g2]
  refine ⟨_, _, _, kb.cell 0, ⟨by omega, by omega⟩, ⟨by omega, by omega, by omega⟩, ?_⟩
  refine ⟨_, _, _, Blk.cellA kb 1, ⟨by omega, by omega⟩, ⟨by omega, by omega, by omega⟩, ?_⟩
  rw [em1, Int.toNat_natCast]
  have hd : (es.drop (es.length / 2 + 1)).length = es.length - (es.length / 2 + 1) := by rw [List.length_drop]
  have rk : RdT TI h (subAddr p1 c1 (es.length / 2 + 1) 1) (es.length - (es.length / 2 + 1)) ((es.drop (es.length / 2 + 1)).map Prod.fst) := by
    rw [List.map_drop]; exact r1.sub (by omega) l1 rfl
  have rv : RdT TI h (subAddr p2 c2 (es.length / 2 + 1) 1) (es.length - (es.length / 2 + 1)) ((es.drop (es.length / 2 + 1)).map Prod.snd) := by
    rw [List.map_drop]; exact r2.sub (by omega) l2 rfl
  refine (cloneI_st rk (by omega)).mono fun v1 h1 ⟨q1, d1, B1, hv1, o1, t1⟩ => ?_
  refine ⟨_, _, _, hv1, ⟨⟨by omega, by omega, by omega⟩, rfl⟩, ⟨_, _, _, Blk.cellA (kb.ext t1.ext) 1, rfl⟩, ?_⟩
  refine (cloneI_st (rv.ext t1.ext) (by omega)).mono fun v2 h2 ⟨q2, d2, B2, hv2, o2, t2⟩ => ?_
  refine ⟨_, _, _, hv2, ?_⟩
  have s2 := ((s.join t1).join t2)
  have st2 := ((s0.join t1).join t2)
  refine s2.new (cs := [.slice q1 _ d1, .slice q2 _ d2, .slice none 0 0]) fun r h3 x3 s3 => ?_
  have s3 : St h0 h3 (nodeC r (es.length - (es.length / 2 + 1)) 0 q1 q2 none d1 d2 0 + (B2 + (B1 + (nodeC b es.length ks.length p1 p2 p3 c1 c2 c3 + (A1 + (A2 + (A3 + F))))))) := s3
  have x03 : Ext h h3 := (t1.ext.trans t2.ext).trans x3
  refine (leaf_ok (s0.grow x03) na0).mono fun v3 h4 ⟨hh, hv3⟩ => ?_
  subst hh
  refine ⟨_, hv3, condN (fun hn0 => ?_) (fun hn0 => ?_)⟩
  · have hkl : ks.length = es.length + 1 := by rcases hk0 with rfl | h5; exact absurd rfl hn0; exact h5
    have kb4 := kb.ext x03
    refine ⟨_, _, _, Blk.cellA kb4 2, ⟨by omega, by omega⟩, ⟨by omega, by omega, by omega⟩, ?_⟩
    rw [Int.toNat_natCast]
    have rc : RdT TP h4 (subAddr p3 c3 (es.length / 2 + 1) 1) (ks.length - (es.length / 2 + 1)) (ks.drop (es.length / 2 + 1)) := (r3.ext x03).sub (by omega) l3 rfl
    refine (cloneP_st rc (by omega)).mono fun v4 h5 ⟨q4, d4, B4, hv4, o4, t4⟩ => ?_
    refine ⟨_, _, _, hv4, ?_⟩
    have s5 := (s3.join t4).to (B := nodeC r (es.length - (es.length / 2 + 1)) 0 q1 q2 none d1 d2 0 + (B4 + (B2 + (B1 + (nodeC b es.length ks.length p1 p2 p3 c1 c2 c3 + (A1 + (A2 + (A3 + F))))))))
    refine s5.wr (o := 2) (add_mk _ _ _) (by simp) fun h6 s6 => ?_
    have s6 : St h0 h6 (nodeC r (es.length - (es.length / 2 + 1)) (ks.length - (es.length / 2 + 1)) q1 q2 q4 d1 d2 d4 + (B4 + (B2 + (B1 + (nodeC b es.length ks.length p1 p2 p3 c1 c2 c3 + (A1 + (A2 + (A3 + F)))))))) := s6
    have s6 := s6.to (B := nodeC b es.length ks.length p1 p2 p3 c1 c2 c3 + (nodeC r (es.length - (es.length / 2 + 1)) (ks.length - (es.length / 2 + 1)) q1 q2 q4 d1 d2 d4 + (B4 + (B2 + (B1 + (A1 + (A2 + (A3 + F))))))))
    refine ⟨_, _, _, s6.cellA 2, ⟨by omega, by omega⟩, ⟨by omega, by omega, by omega⟩, ?_⟩
    have e0 : Int.toNat (0 : Int) = 0 := rfl
    rw [e0, Nat.sub_zero, Nat.sub_zero, subAddr_z]
    have rc2 : RdT TP h6 p3 (es.length / 2 + 1) (ks.take (es.length / 2 + 1)) := (a3.rd (s6.at A3)).take (by omega)
    refine (cloneP_st rc2 (by omega)).mono fun v5 h7 ⟨q5, d5, B5, hv5, o5, t5⟩ => ?_
    refine ⟨_, _, _, hv5, ?_⟩
    have s7 := (s6.join t5).to (B := nodeC b es.length ks.length p1 p2 p3 c1 c2 c3 + (A1 + (A2 + (B5 + (nodeC r (es.length - (es.length / 2 + 1)) (ks.length - (es.length / 2 + 1)) q1 q2 q4 d1 d2 d4 + (B4 + (B2 + (B1 + (A3 + F)))))))))
    refine s7.wr (o := 2) (add_mk _ _ _) (by simp) fun h8 s8 => ?_
    refine split_b1_ok (es := es) (m := es.length / 2) (p1 := p1) (p2 := p2) (p3 := q5) s8 a1 a2 (by omega) hsz fun h' q6 q7 d6 d7 B6 B7 s9 o6 o7 => ?_
    have hte : (es.take (es.length / 2)).length = es.length / 2 := by rw [List.length_take]; omega
    have htk : (ks.take (es.length / 2 + 1)).length = es.length / 2 + 1 := by rw [List.length_take]; omega
    have hdk : (ks.drop (es.length / 2 + 1)).length = ks.length - (es.length / 2 + 1) := by rw [List.length_drop]
    refine ⟨r, _, _, rfl, ⟨q6, q7, q5, d6, d7, d5, B6, B7, B5, rfl, ⟨by rw [hte]; exact o6, by rw [hte]; exact o7, by rw [htk]; exact o5⟩⟩, ⟨q1, q2, q4, d1, d2, d4, B1, B2, B4, rfl, ⟨by rw [hd]; exact o1, by rw [hd]; exact o2, by rw [hdk]; exact o4⟩⟩, ?_⟩
    rw [hte, htk, hd, hdk]
    exact (s9.to (B := A3 + (nodeC b (es.length / 2) (es.length / 2 + 1) q6 q7 q5 d6 d7 d5 + (B6 + (B7 + B5)) + (nodeC r (es.length - (es.length / 2 + 1)) (ks.length - (es.length / 2 + 1)) q1 q2 q4 d1 d2 d4 + (B1 + (B2 + B4)) + F)))).drop
  · have hk : ks = [] := List.eq_nil_of_length_eq_zero hn0
    subst hk
    have s4 := s3.to (B := nodeC b es.length 0 p1 p2 p3 c1 c2 c3 + (A1 + (A2 + (A3 + (nodeC r (es.length - (es.length / 2 + 1)) 0 q1 q2 none d1 d2 0 + (B2 + (B1 + F)))))))
    refine split_b1_ok (es := es) (m := es.length / 2) s4 a1 a2 (by omega) hsz fun h' q6 q7 d6 d7 B6 B7 s9 o6 o7 => ?_
    have hte : (es.take (es.length / 2)).length = es.length / 2 := by rw [List.length_take]; omega
    refine ⟨r, _, _, rfl, ⟨q6, q7, p3, d6, d7, c3, B6, B7, A3, rfl, ⟨by rw [hte]; exact o6, by rw [hte]; exact o7, a3⟩⟩, ⟨q1, q2, none, d1, d2, 0, B1, B2, 0, rfl, ⟨by rw [hd]; exact o1, by rw [hd]; exact o2, Sl.nil⟩⟩, ?_⟩
    rw [hte, hd]
    exact s9.to (B := nodeC b (es.length / 2) 0 q6 q7 p3 d6 d7 c3 + (B6 + (B7 + A3)) + (nodeC r (es.length - (es.length / 2 + 1)) 0 q1 q2 none d1 d2 0 + (B1 + (B2 + 0)) + F))
end Go.Proofs.Ytaemnjblcpknpaa
