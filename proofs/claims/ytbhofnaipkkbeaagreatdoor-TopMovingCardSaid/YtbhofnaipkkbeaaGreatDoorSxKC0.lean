/- Part B1 B2 B3 B4 B5 B6 B7 B8 B9 B10 Q13 KB KC0 of the proof: contracts of functions of the program, and what follows from them. -/
import Derived.Test.YtbhofnaipkkbeaaGreatDoorSxM2
import Derived.Test.YtbhofnaipkkbeaaGreatDoorSxKA
set_option maxRecDepth 1000000
namespace Go.Proofs.YtbhofnaipkkbeaaGreatDoor
open Go Go.Sx
abbrev TP : Ty Nat := tP 85
abbrev E := Int × Int
theorem Blk.cellA {h : Hp} {b : Nat} {cs : List Value} {e : TypeId} (hb : Blk h b cs e) (o : Nat) : cell h ((⟨b, 0, none⟩ : Addr).add o) = cs[o]? := by rw [yaca, Nat.zero_add]; exact hb.cell o
structure NodeS (b : Nat) (es : List E) (ks : List Nat) (p1 p2 p3 : OA) (c1 c2 c3 : Nat) (A1 A2 A3 : Bag) : Prop where
  s1 : Sl TI p1 es.length c1 (es.map Prod.fst) A1
  s2 : Sl TI p2 es.length c2 (es.map Prod.snd) A2
  s3 : Sl TP p3 ks.length c3 ks A3
abbrev nodeC (b n m : Nat) (p1 p2 p3 : OA) (c1 c2 c3 : Nat) : Bag := cA b [.slice p1 n c1, .slice p2 n c2, .slice p3 m c3] 177
def NodeA (b : Nat) (es : List E) (ks : List Nat) (A : Bag) : Prop :=
  ∃ p1 p2 p3 c1 c2 c3 A1 A2 A3, A = nodeC b es.length ks.length p1 p2 p3 c1 c2 c3 + (A1 + (A2 + A3)) ∧ NodeS b es ks p1 p2 p3 c1 c2 c3 A1 A2 A3
theorem yajj {h0 h : Hp} {b : Nat} {es : List E} {ks : List Nat} {A F : Bag} (s : St h0 h (A + F)) (na : NodeA b es ks A) :
    yaak Tryz.prog 90 #[ptr b] h (fun v h' => h' = h ∧ v = .bool (decide (ks.length = 0))) := by
  obtain ⟨p1, p2, p3, c1, c2, c3, A1, A2, A3, rfl, ns⟩ := na
  refine zai_call ?_
  rw [zai_b0]
  refine ⟨_, _, _, (s.to (B := nodeC b _ _ p1 p2 p3 c1 c2 c3 + (A1 + (A2 + A3) + F))).cellA 2, rfl, ?_⟩
  congr 1
  exact decide_eq_decide.2 (by omega)
theorem yaji {h0 h : Hp} {b m : Nat} {es : List E} {p1 p2 p3 : OA} {c1 c2 c3 m3 : Nat} {A1 A2 F : Bag} {key value : Int} {right : OA} {K : VK}
    (s : St h0 h (nodeC b es.length m3 p1 p2 p3 c1 c2 c3 + (A1 + (A2 + F)))) (a1 : Sl TI p1 es.length c1 (es.map Prod.fst) A1) (a2 : Sl TI p2 es.length c2 (es.map Prod.snd) A2) (hm : m ≤ es.length) (hsz : es.length < 1000)
    (hk : ∀ h' q1 q2 d1 d2 B1 B2, St h0 h' (nodeC b m m3 q1 q2 p3 d1 d2 c3 + (B1 + (B2 + F))) → Sl TI q1 m d1 ((es.take m).map Prod.fst) B1 → Sl TI q2 m d2 ((es.take m).map Prod.snd) B2 → K (.tuple #[.int .i64 key, .int .i64 value, .pointer right]) h') :
    zam_b1 (some ⟨b, 0, none⟩) (m : Int) key value right h K := by
  have l1 := a1.cap
  have l2 := a2.cap
  rw [zam_b1]
  have kb := s.blk
  refine ⟨_, _, _, kb.cell 0, ⟨by omega, by omega, by omega⟩, _, _, _, Blk.cellA kb 1, ⟨by omega, by omega, by omega⟩, ?_⟩
  have e0 : Int.toNat (0 : Int) = 0 := rfl
  rw [e0, Int.toNat_natCast, Nat.sub_zero, Nat.sub_zero, Nat.sub_zero, yadh, yadh]
  have r1 : RdT TI h p1 m ((es.take m).map Prod.fst) := by rw [List.map_take]; exact (a1.rd (s.at A1)).take hm
  have r2 : RdT TI h p2 m ((es.take m).map Prod.snd) := by rw [List.map_take]; exact (a2.rd (s.at A2)).take hm
  refine (yaha r1 (by omega)).mono fun v1 h1 ⟨q1, d1, B1, hv1, o1, t1⟩ => ?_
  refine ⟨_, _, _, hv1, ⟨⟨by omega, by omega, by omega⟩, rfl⟩, ⟨_, _, _, Blk.cellA (kb.ext t1.ext) 1, rfl⟩, ?_⟩
  refine (yaha (r2.ext t1.ext) (by omega)).mono fun v2 h2 ⟨q2, d2, B2, hv2, o2, t2⟩ => ?_
  refine ⟨_, _, _, hv2, ?_⟩
  have s2 := ((s.join t1).join t2).to (B := nodeC b es.length m3 p1 p2 p3 c1 c2 c3 + (A1 + A2 + (B1 + (B2 + F))))
  refine s2.wr rfl (by simp) fun h3 s3 => ?_
  refine s3.wr (o := 1) (yaca _ _ _) (by simp) fun h4 s4 => ?_
  exact hk h4 q1 q2 d1 d2 B1 B2 (s4.to (B := (A1 + A2) + (nodeC b m m3 q1 q2 p3 d1 d2 c3 + (B1 + (B2 + F))))).drop o1 o2
theorem yara {h0 h : Hp} {b : Nat} {es : List E} {ks : List Nat} {A F : Bag} (s : St h0 h (A + F)) (na : NodeA b es ks A) (hL : 1 ≤ es.length) (hk0 : ks = [] ∨ ks.length = es.length + 1) (hsz : es.length < 1000) :
    yaak Tryz.prog 87 #[ptr b] h (fun v h' => ∃ r A1 A2, v = .tuple #[.int .i64 (es.getD (es.length / 2) (0, 0)).1, .int .i64 (es.getD (es.length / 2) (0, 0)).2, ptr r] ∧
      NodeA b (es.take (es.length / 2)) (ks.take (es.length / 2 + 1)) A1 ∧ NodeA r (es.drop (es.length / 2 + 1)) (ks.drop (es.length / 2 + 1)) A2 ∧ St h0 h' (A1 + (A2 + F))) := by
  have na0 := na
  have s0 := s
  obtain ⟨p1, p2, p3, c1, c2, c3, A1, A2, A3, rfl, ⟨a1, a2, a3⟩⟩ := na
  have l1 := a1.cap
  have l2 := a2.cap
  have l3 := a3.cap
  refine zam_call ?_
  rw [zam_b0]
  have s := s.to (B := nodeC b es.length ks.length p1 p2 p3 c1 c2 c3 + (A1 + (A2 + (A3 + F))))
  have kb := s.blk
  refine ⟨_, _, _, kb.cell 0, yaep (by omega) (by omega) (by omega) ?_⟩
  have hq : ((es.length : Nat) : Int) / 2 = ((es.length / 2 : Nat) : Int) := by omega
  rw [hq]
  have em : Int.toNat ((es.length / 2 : Nat) : Int) = es.length / 2 := Int.toNat_natCast _
  have em1 : Int.toNat (((es.length / 2 : Nat) : Int) + 1) = es.length / 2 + 1 := by omega
  have r1 := a1.rd (s.at A1)
  have r2 := a2.rd (s.at A2)
  have r3 := a3.rd (s.at A3)
  have g1 : (es.map Prod.fst).getD (es.length / 2) 0 = (es.getD (es.length / 2) (0, 0)).1 := by simp [List.getD, List.getElem?_map]; cases es[es.length / 2]? <;> rfl
  have g2 : (es.map Prod.snd).getD (es.length / 2) 0 = (es.getD (es.length / 2) (0, 0)).2 := by simp [List.getD, List.getElem?_map]; cases es[es.length / 2]? <;> rfl
  refine ⟨_, _, _, kb.cell 0, r1.int (by omega) (by omega) ?_⟩
  rw [em, g1]
  refine ⟨_, _, _, Blk.cellA kb 1, r2.int (by omega) (by omega) ?_⟩
  rw [em, g2]
  refine ⟨_, _, _, kb.cell 0, ⟨by omega, by omega⟩, ⟨by omega, by omega, by omega⟩, ?_⟩
  refine ⟨_, _, _, Blk.cellA kb 1, ⟨by omega, by omega⟩, ⟨by omega, by omega, by omega⟩, ?_⟩
  rw [em1, Int.toNat_natCast]
  have hd : (es.drop (es.length / 2 + 1)).length = es.length - (es.length / 2 + 1) := by rw [List.length_drop]
  have rk : RdT TI h (yaai p1 c1 (es.length / 2 + 1) 1) (es.length - (es.length / 2 + 1)) ((es.drop (es.length / 2 + 1)).map Prod.fst) := by
    rw [List.map_drop]; exact r1.sub (by omega) l1 rfl
  have rv : RdT TI h (yaai p2 c2 (es.length / 2 + 1) 1) (es.length - (es.length / 2 + 1)) ((es.drop (es.length / 2 + 1)).map Prod.snd) := by
    rw [List.map_drop]; exact r2.sub (by omega) l2 rfl
  refine (yaha rk (by omega)).mono fun v1 h1 ⟨q1, d1, B1, hv1, o1, t1⟩ => ?_
  refine ⟨_, _, _, hv1, ⟨⟨by omega, by omega, by omega⟩, rfl⟩, ⟨_, _, _, Blk.cellA (kb.ext t1.ext) 1, rfl⟩, ?_⟩
  refine (yaha (rv.ext t1.ext) (by omega)).mono fun v2 h2 ⟨q2, d2, B2, hv2, o2, t2⟩ => ?_
  refine ⟨_, _, _, hv2, ?_⟩
  have s2 := ((s.join t1).join t2)
  have st2 := ((s0.join t1).join t2)
  refine s2.new (cs := [.slice q1 _ d1, .slice q2 _ d2, .slice none 0 0]) fun r h3 x3 s3 => ?_
  have s3 : St h0 h3 (nodeC r (es.length - (es.length / 2 + 1)) 0 q1 q2 none d1 d2 0 + (B2 + (B1 + (nodeC b es.length ks.length p1 p2 p3 c1 c2 c3 + (A1 + (A2 + (A3 + F))))))) := s3
  have x03 : Ext h h3 := (t1.ext.trans t2.ext).trans x3
  refine (yajj (s0.grow x03) na0).mono fun v3 h4 ⟨hh, hv3⟩ => ?_
  subst hh
  refine ⟨_, hv3, condN (fun hn0 => ?_) (fun hn0 => ?_)⟩
  · have hkl : ks.length = es.length + 1 := by rcases hk0 with rfl | h5; exact absurd rfl hn0; exact h5
    have kb4 := kb.ext x03
    refine ⟨_, _, _, Blk.cellA kb4 2, ⟨by omega, by omega⟩, ⟨by omega, by omega, by omega⟩, ?_⟩
    rw [Int.toNat_natCast]
    have rc : RdT TP h4 (yaai p3 c3 (es.length / 2 + 1) 1) (ks.length - (es.length / 2 + 1)) (ks.drop (es.length / 2 + 1)) := (r3.ext x03).sub (by omega) l3 rfl
    refine (yapg rc (by omega)).mono fun v4 h5 ⟨q4, d4, B4, hv4, o4, t4⟩ => ?_
    refine ⟨_, _, _, hv4, ?_⟩
    have s5 := (s3.join t4).to (B := nodeC r (es.length - (es.length / 2 + 1)) 0 q1 q2 none d1 d2 0 + (B4 + (B2 + (B1 + (nodeC b es.length ks.length p1 p2 p3 c1 c2 c3 + (A1 + (A2 + (A3 + F))))))))
    refine s5.wr (o := 2) (yaca _ _ _) (by simp) fun h6 s6 => ?_
    have s6 : St h0 h6 (nodeC r (es.length - (es.length / 2 + 1)) (ks.length - (es.length / 2 + 1)) q1 q2 q4 d1 d2 d4 + (B4 + (B2 + (B1 + (nodeC b es.length ks.length p1 p2 p3 c1 c2 c3 + (A1 + (A2 + (A3 + F)))))))) := s6
    have s6 := s6.to (B := nodeC b es.length ks.length p1 p2 p3 c1 c2 c3 + (nodeC r (es.length - (es.length / 2 + 1)) (ks.length - (es.length / 2 + 1)) q1 q2 q4 d1 d2 d4 + (B4 + (B2 + (B1 + (A1 + (A2 + (A3 + F))))))))
    refine ⟨_, _, _, s6.cellA 2, ⟨by omega, by omega⟩, ⟨by omega, by omega, by omega⟩, ?_⟩
    have e0 : Int.toNat (0 : Int) = 0 := rfl
    rw [e0, Nat.sub_zero, Nat.sub_zero, yadh]
    have rc2 : RdT TP h6 p3 (es.length / 2 + 1) (ks.take (es.length / 2 + 1)) := (a3.rd (s6.at A3)).take (by omega)
    refine (yapg rc2 (by omega)).mono fun v5 h7 ⟨q5, d5, B5, hv5, o5, t5⟩ => ?_
    refine ⟨_, _, _, hv5, ?_⟩
    have s7 := (s6.join t5).to (B := nodeC b es.length ks.length p1 p2 p3 c1 c2 c3 + (A1 + (A2 + (B5 + (nodeC r (es.length - (es.length / 2 + 1)) (ks.length - (es.length / 2 + 1)) q1 q2 q4 d1 d2 d4 + (B4 + (B2 + (B1 + (A3 + F)))))))))
    refine s7.wr (o := 2) (yaca _ _ _) (by simp) fun h8 s8 => ?_
    refine yaji (es := es) (m := es.length / 2) (p1 := p1) (p2 := p2) (p3 := q5) s8 a1 a2 (by omega) hsz fun h' q6 q7 d6 d7 B6 B7 s9 o6 o7 => ?_
    have hte : (es.take (es.length / 2)).length = es.length / 2 := by rw [List.length_take]; omega
    have htk : (ks.take (es.length / 2 + 1)).length = es.length / 2 + 1 := by rw [List.length_take]; omega
    have hdk : (ks.drop (es.length / 2 + 1)).length = ks.length - (es.length / 2 + 1) := by rw [List.length_drop]
    refine ⟨r, _, _, rfl, ⟨q6, q7, q5, d6, d7, d5, B6, B7, B5, rfl, ⟨by rw [hte]; exact o6, by rw [hte]; exact o7, by rw [htk]; exact o5⟩⟩, ⟨q1, q2, q4, d1, d2, d4, B1, B2, B4, rfl, ⟨by rw [hd]; exact o1, by rw [hd]; exact o2, by rw [hdk]; exact o4⟩⟩, ?_⟩
    rw [hte, htk, hd, hdk]
    exact (s9.to (B := A3 + (nodeC b (es.length / 2) (es.length / 2 + 1) q6 q7 q5 d6 d7 d5 + (B6 + (B7 + B5)) + (nodeC r (es.length - (es.length / 2 + 1)) (ks.length - (es.length / 2 + 1)) q1 q2 q4 d1 d2 d4 + (B1 + (B2 + B4)) + F)))).drop
  · have hk : ks = [] := List.eq_nil_of_length_eq_zero hn0
    subst hk
    have s4 := s3.to (B := nodeC b es.length 0 p1 p2 p3 c1 c2 c3 + (A1 + (A2 + (A3 + (nodeC r (es.length - (es.length / 2 + 1)) 0 q1 q2 none d1 d2 0 + (B2 + (B1 + F)))))))
    refine yaji (es := es) (m := es.length / 2) s4 a1 a2 (by omega) hsz fun h' q6 q7 d6 d7 B6 B7 s9 o6 o7 => ?_
    have hte : (es.take (es.length / 2)).length = es.length / 2 := by rw [List.length_take]; omega
    refine ⟨r, _, _, rfl, ⟨q6, q7, p3, d6, d7, c3, B6, B7, A3, rfl, ⟨by rw [hte]; exact o6, by rw [hte]; exact o7, a3⟩⟩, ⟨q1, q2, none, d1, d2, 0, B1, B2, 0, rfl, ⟨by rw [hd]; exact o1, by rw [hd]; exact o2, Sl.nil⟩⟩, ?_⟩
    rw [hte, hd]
    exact s9.to (B := nodeC b (es.length / 2) 0 q6 q7 p3 d6 d7 c3 + (B6 + (B7 + A3)) + (nodeC r (es.length - (es.length / 2 + 1)) 0 q1 q2 none d1 d2 0 + (B1 + (B2 + 0)) + F))
inductive BT where
  | nd (es : List E) (ts : List BT)
def BT.es : BT → List E | .nd es _ => es
def BT.ts : BT → List BT | .nd _ ts => ts
def Hold : Nat → Nat → BT → Bag → Prop
  | 0, b, t, A => t.ts = [] ∧ NodeA b t.es [] A
  | n + 1, b, t, A => ∃ ks A1 A2, A = A1 + A2 ∧ NodeA b t.es ks A1 ∧ ks.length = t.es.length + 1 ∧ AllH (Hold n) ks t.ts A2
def wL : List (List E) → List E → List E
  | k :: ks, e :: es => k ++ e :: wL ks es
  | _, _ => []
def wR : List E → List (List E) → List E
  | e :: es, k :: ks => e :: (k ++ wR es ks)
  | _, _ => []
def weave : List (List E) → List E → List E
  | k :: ks, es => k ++ wR es ks
  | [], _ => []
def flat : Nat → BT → List E
  | 0, t => t.es
  | n + 1, t => weave (t.ts.map (flat n)) t.es
theorem yaok : ∀ (ks ks' : List (List E)) (es es' : List E), ks.length = es.length → wL (ks ++ ks') (es ++ es') = wL ks es ++ wL ks' es'
  | [], _, [], _, _ => rfl
  | [], _, _ :: _, _, h => by simp at h
  | _ :: _, _, [], _, h => by simp at h
  | k :: ks, ks', e :: es, es', h => by simp only [List.cons_append, wL, yaok ks ks' es es' (by simpa using h), List.append_assoc]
theorem yaey : ∀ (kL : List (List E)) (eL : List E) (k : List E) (kR : List (List E)) (eR : List E), kL.length = eL.length → weave (kL ++ k :: kR) (eL ++ eR) = wL kL eL ++ (k ++ wR eR kR)
  | [], [], _, _, _, _ => rfl
  | [], _ :: _, _, _, _, h => by simp at h
  | _ :: _, [], _, _, _, h => by simp at h
  | x :: kL, e :: eL, k, kR, eR, h => by
    have ih := yaey kL eL k kR eR (by simpa using h)
    cases kL with
    | nil =>
      cases eL with
      | nil => simp [weave, wR, wL]
      | cons _ _ => simp at h
    | cons y kL =>
      cases eL with
      | nil => simp at h
      | cons e' eL =>
        simp only [List.cons_append, weave, wR, wL, List.append_assoc] at ih ⊢
        rw [ih]
structure Fr where
  b : Nat
  eL : List E
  eR : List E
  kL : List Nat
  kR : List Nat
  tL : List BT
  tR : List BT
def fill (f : Fr) (t : BT) : BT := .nd (f.eL ++ f.eR) (f.tL ++ t :: f.tR)
def HoldF (n : Nat) (f : Fr) (k : Nat) (A : Bag) : Prop :=
  f.tL.length = f.eL.length ∧ f.tR.length = f.eR.length ∧ ∃ A1 A2 A3, A = A1 + (A2 + A3) ∧ NodeA f.b (f.eL ++ f.eR) (f.kL ++ k :: f.kR) A1 ∧ AllH (Hold n) f.kL f.tL A2 ∧ AllH (Hold n) f.kR f.tR A3
theorem HoldF.fill {n : Nat} {f : Fr} {k : Nat} {t : BT} {A A' : Bag} (h : HoldF n f k A) (ht : Hold n k t A') : Hold (n + 1) f.b (fill f t) (A + A') := by
  obtain ⟨l1, l2, A1, A2, A3, rfl, h1, h2, h3⟩ := h
  refine ⟨f.kL ++ k :: f.kR, A1, A2 + (A' + A3), by ac_rfl, h1, ?_, ?_⟩
  · have := h2.len
    have := h3.len
    simp only [BT.es, Go.Proofs.YtbhofnaipkkbeaaGreatDoor.fill, List.length_append, List.length_cons]
    omega
  · exact h2.append ⟨A', A3, rfl, ht, h3⟩
theorem Hold.down {n b i : Nat} {t : BT} {A : Bag} {eL eR : List E} (h : Hold (n + 1) b t A) (he : t.es = eL ++ eR) (hi : eL.length = i) :
    ∃ f k t' A1 A2, f.b = b ∧ f.eL = eL ∧ f.eR = eR ∧ Go.Proofs.YtbhofnaipkkbeaaGreatDoor.fill f t' = t ∧ A = A1 + A2 ∧ HoldF n f k A1 ∧ Hold n k t' A2 ∧ f.kL.length = i := by
  obtain ⟨ks, A1, A2, rfl, h1, hl, h2⟩ := h
  cases t with
  | nd es ts =>
  simp only [BT.es, BT.ts] at he hl h1 h2
  subst he
  have hlt := h2.len
  rw [List.length_append] at hl
  have d1 : ks = ks.take i ++ ks.drop i := (List.take_append_drop i ks).symm
  have d2 : ts = ts.take i ++ ts.drop i := (List.take_append_drop i ts).symm
  have l1 : (ks.take i).length = i := by rw [List.length_take]; omega
  have l2 : (ts.take i).length = i := by rw [List.length_take]; omega
  rw [d1, d2] at h2
  obtain ⟨B1, B2, rfl, k1, k2⟩ := AllH.split _ _ (by rw [l1, l2]) h2
  have m1 : (ks.drop i).length = eR.length + 1 := by rw [List.length_drop]; omega
  have m2 : (ts.drop i).length = eR.length + 1 := by rw [List.length_drop]; omega
  cases hk : ks.drop i with
  | nil => rw [hk] at m1; simp at m1
  | cons k kR =>
  cases ht : ts.drop i with
  | nil => rw [ht] at m2; simp at m2
  | cons t' tR =>
  rw [hk, ht] at k2
  obtain ⟨C1, C2, rfl, c1, c2⟩ := k2
  rw [hk] at m1
  rw [ht] at m2
  refine ⟨⟨b, eL, eR, ks.take i, kR, ts.take i, tR⟩, k, t', A1 + (B1 + C2), C1, rfl, rfl, rfl, ?_, by ac_rfl, ⟨by rw [hi]; exact l2, by simpa using m2, A1, B1, C2, rfl, ?_, k1, c2⟩, c1, l1⟩
  · simp only [Go.Proofs.YtbhofnaipkkbeaaGreatDoor.fill]
    rw [← ht, List.take_append_drop]
  · show NodeA b (eL ++ eR) (ks.take i ++ k :: kR) A1
    rw [← hk, List.take_append_drop]
    exact h1
def HoldC (root : Nat) : Nat → List Fr → Nat → Bag → Prop
  | _, [], k, A => k = root ∧ A = 0
  | n, f :: fs, k, A => ∃ A1 A2, A = A1 + A2 ∧ HoldF n f k A1 ∧ HoldC root (n + 1) fs f.b A2
def plug : List Fr → BT → BT
  | [], t => t
  | f :: fs, t => plug fs (fill f t)
theorem HoldC.plug {root : Nat} : ∀ {n : Nat} {fs : List Fr} {k : Nat} {t : BT} {A A' : Bag}, HoldC root n fs k A → Hold n k t A' → Hold (n + fs.length) root (plug fs t) (A + A')
  | _, [], _, _, _, _, ⟨rfl, rfl⟩, h => by rw [Bag.zero_add]; exact h
  | n, f :: fs, k, t, _, A', ⟨A1, A2, rfl, h1, h2⟩, h => by
    have := HoldC.plug h2 (h1.fill h)
    rw [show n + (f :: fs).length = n + 1 + fs.length by simp; omega]
    rw [show A1 + A2 + A' = A2 + (A1 + A') by ac_rfl]
    exact this
def before (n : Nat) (f : Fr) : List E := wL (f.tL.map (flat n)) f.eL
def yaie (n : Nat) (f : Fr) : List E := wR f.eR (f.tR.map (flat n))
theorem yaog {n : Nat} {f : Fr} (t : BT) (h : f.tL.length = f.eL.length) : flat (n + 1) (fill f t) = before n f ++ (flat n t ++ yaie n f) := by
  show weave ((f.tL ++ t :: f.tR).map (flat n)) (f.eL ++ f.eR) = _
  rw [List.map_append, List.map_cons, yaey _ _ _ _ _ (by simpa using h)]
  rfl
def Lb : Nat → List Fr → List E
  | _, [] => []
  | n, f :: fs => Lb (n + 1) fs ++ before n f
def Rb : Nat → List Fr → List E
  | _, [] => []
  | n, f :: fs => yaie n f ++ Rb (n + 1) fs
def OkC : List Fr → Prop
  | [] => True
  | f :: fs => f.tL.length = f.eL.length ∧ f.tR.length = f.eR.length ∧ OkC fs
theorem HoldC.ok {root : Nat} : ∀ {n : Nat} {fs : List Fr} {k : Nat} {A : Bag}, HoldC root n fs k A → OkC fs
  | _, [], _, _, _ => trivial
  | _, _ :: _, _, _, ⟨_, _, _, h1, h2⟩ => ⟨h1.1, h1.2.1, h2.ok⟩
theorem yaej : ∀ {n : Nat} {fs : List Fr} (t : BT), OkC fs → flat (n + fs.length) (plug fs t) = Lb n fs ++ (flat n t ++ Rb n fs)
  | n, [], t, _ => by simp [plug, Lb, Rb]
  | n, f :: fs, t, h => by
    rw [show n + (f :: fs).length = n + 1 + fs.length by simp; omega]
    show flat (n + 1 + fs.length) (plug fs (fill f t)) = _
    rw [yaej (fill f t) h.2.2, yaog t h.1]
    simp only [Lb, Rb, List.append_assoc]
def Sz (lo hi : Nat) : Nat → BT → Prop
  | 0, t => lo ≤ t.es.length ∧ t.es.length ≤ hi
  | n + 1, t => (lo ≤ t.es.length ∧ t.es.length ≤ hi) ∧ ∀ c ∈ t.ts, Sz lo hi n c
theorem Sz.here {lo hi n : Nat} {t : BT} (h : Sz lo hi n t) : lo ≤ t.es.length ∧ t.es.length ≤ hi := by cases n with | zero => exact h | succ n => exact h.1
def SzR (lo hi : Nat) : Nat → BT → Prop
  | 0, t => 1 ≤ t.es.length ∧ t.es.length ≤ hi
  | n + 1, t => (1 ≤ t.es.length ∧ t.es.length ≤ hi) ∧ ∀ c ∈ t.ts, Sz lo hi n c
def SzC (lo hi : Nat) : Nat → List Fr → Prop
  | _, [] => True
  | n, f :: fs => ((match fs with | [] => 1 | _ => lo) ≤ (f.eL ++ f.eR).length ∧ (f.eL ++ f.eR).length ≤ hi) ∧ (∀ c ∈ f.tL, Sz lo hi n c) ∧ (∀ c ∈ f.tR, Sz lo hi n c) ∧ SzC lo hi (n + 1) fs
def lo' (lo : Nat) : List Fr → Nat | [] => 1 | _ => lo
def SzB (lo hi n : Nat) (fs : List Fr) (t : BT) : Prop :=
  (lo' lo fs ≤ t.es.length ∧ t.es.length ≤ hi) ∧ ∀ m, n = m + 1 → ∀ c ∈ t.ts, Sz lo hi m c
theorem SzR.b {lo hi n : Nat} {t : BT} (h : SzR lo hi n t) : SzB lo hi n [] t := by
  cases n with
  | zero => exact ⟨h, fun m hm => by omega⟩
  | succ n => exact ⟨h.1, fun m hm c hc => by obtain rfl : n = m := by omega
                                              exact h.2 c hc⟩
theorem SzB.r {lo hi n : Nat} {t : BT} (h : SzB lo hi n [] t) : SzR lo hi n t := by
  cases n with
  | zero => exact h.1
  | succ n => exact ⟨h.1, h.2 n rfl⟩
theorem Sz.b {lo hi n : Nat} {t : BT} {f : Fr} {fs : List Fr} (h : Sz lo hi n t) : SzB lo hi n (f :: fs) t := by
  cases n with
  | zero => exact ⟨h, fun m hm => by omega⟩
  | succ n => exact ⟨h.1, fun m hm c hc => by obtain rfl : n = m := by omega
                                              exact h.2 c hc⟩
theorem SzB.s {lo hi n : Nat} {t : BT} {f : Fr} {fs : List Fr} (h : SzB lo hi n (f :: fs) t) : Sz lo hi n t := by
  cases n with
  | zero => exact h.1
  | succ n => exact ⟨h.1, h.2 n rfl⟩
theorem SzB.down {lo hi n : Nat} {t t' : BT} {f : Fr} {fs : List Fr} (h : SzB lo hi (n + 1) fs t) (hf : fill f t' = t) (hc : SzC lo hi (n + 1) fs) : SzC lo hi n (f :: fs) ∧ Sz lo hi n t' := by
  subst hf
  have h2 := h.2 n rfl
  refine ⟨⟨?_, fun c hc => h2 c (by simp [fill, BT.ts, hc]), fun c hc => h2 c (by simp [fill, BT.ts, hc]), hc⟩, h2 t' (by simp [fill, BT.ts])⟩
  have := h.1
  cases fs <;> exact this
theorem SzC.up {lo hi n : Nat} {t' : BT} {f : Fr} {fs : List Fr} (h : SzC lo hi n (f :: fs)) (ht : Sz lo hi n t') : SzB lo hi (n + 1) fs (fill f t') := by
  refine ⟨?_, fun m hm c hc => ?_⟩
  · have := h.1
    cases fs <;> exact this
  · obtain rfl : n = m := by omega
    simp only [fill, BT.ts, List.mem_append, List.mem_cons] at hc
    rcases hc with h1 | rfl | h1
    · exact h.2.1 c h1
    · exact ht
    · exact h.2.2.1 c h1
theorem SzC.plug {lo hi : Nat} : ∀ {n : Nat} {fs : List Fr} {t : BT}, SzC lo hi n fs → SzB lo hi n fs t → SzR lo hi (n + fs.length) (plug fs t)
  | _, [], _, _, h => h.r
  | n, f :: fs, t, hc, h => by
    rw [show n + (f :: fs).length = n + 1 + fs.length by simp; omega]
    exact SzC.plug hc.2.2.2 (hc.up h.s)
abbrev Srt (l : List E) : Prop := l.Pairwise fun a b => a.1 < b.1
theorem Srt.app {a b : List E} : Srt (a ++ b) ↔ Srt a ∧ Srt b ∧ ∀ x ∈ a, ∀ y ∈ b, x.1 < y.1 := List.pairwise_append
theorem Srt.con {a : E} {b : List E} : Srt (a :: b) ↔ (∀ y ∈ b, a.1 < y.1) ∧ Srt b := List.pairwise_cons
def yaez : List E → Int → Bool
  | [], _ => false
  | e :: _, key => decide (e.1 = key)
theorem ybbt : ∀ (es : List E) (ks : List (List E)), ks.length = es.length → es.Sublist (wR es ks)
  | [], [], _ => List.Sublist.refl _
  | [], _ :: _, h => by simp at h
  | _ :: _, [], h => by simp at h
  | e :: es, k :: ks, h => (List.Sublist.trans (ybbt es ks (by simpa using h)) (List.sublist_append_right k _)).cons_cons e
theorem yavw (ks : List (List E)) (es : List E) (h : ks.length = es.length + 1) : es.Sublist (weave ks es) := by
  cases ks with
  | nil => simp at h
  | cons k ks => exact (ybbt es ks (by simpa using h)).trans (List.sublist_append_right k _)
theorem Hold.len {n b : Nat} {t : BT} {A : Bag} (h : Hold (n + 1) b t A) : t.ts.length = t.es.length + 1 := by
  obtain ⟨ks, A1, A2, rfl, h1, hl, h2⟩ := h
  rw [← h2.len, hl]
theorem Hold.sub {n b : Nat} {t : BT} {A : Bag} (h : Hold n b t A) : t.es.Sublist (flat n t) := by
  cases n with
  | zero => exact List.Sublist.refl _
  | succ n => exact yavw _ _ (by rw [List.length_map, h.len])
theorem Hold.node {n b : Nat} {t : BT} {A : Bag} (h : Hold n b t A) : ∃ ks A1 A2, A = A1 + A2 ∧ NodeA b t.es ks A1 ∧ (ks.length = 0 ↔ n = 0) ∧ (n ≠ 0 → ks.length = t.es.length + 1) := by
  cases n with
  | zero => exact ⟨[], A, 0, (Bag.add_zero A).symm, h.2, by simp, fun h => absurd rfl h⟩
  | succ n =>
    obtain ⟨ks, A1, A2, e, h1, hl, h2⟩ := h
    exact ⟨ks, A1, A2, e, h1, by simp; intro hk; subst hk; simp at hl, fun _ => hl⟩
theorem wL_lt {key : Int} : ∀ (ks : List (List E)) (es : List E), Srt (wL ks es) → (∀ e ∈ es, e.1 < key) → ∀ x ∈ wL ks es, x.1 < key
  | [], _, _, _, x, hx => by simp [wL] at hx
  | _ :: _, [], _, _, x, hx => by simp [wL] at hx
  | k :: ks, e :: es, hs, he, x, hx => by
    simp only [wL] at hs hx
    rw [Srt.app] at hs
    obtain ⟨_, h2, h3⟩ := hs
    rw [Srt.con] at h2
    rcases List.mem_append.1 hx with h | h
    · exact Int.lt_trans (h3 x h e (by simp)) (he e (by simp))
    · rcases List.mem_cons.1 h with rfl | h
      · exact he _ (by simp)
      · exact wL_lt ks es h2.2 (fun e h => he e (by simp [h])) x h
theorem wR_gt {key : Int} : ∀ (es : List E) (ks : List (List E)), Srt (wR es ks) → (∀ e ∈ es, key < e.1) → ∀ x ∈ wR es ks, key < x.1
  | [], _, _, _, x, hx => by simp [wR] at hx
  | _ :: _, [], _, _, x, hx => by simp [wR] at hx
  | e :: es, k :: ks, hs, he, x, hx => by
    simp only [wR] at hs hx
    rw [Srt.con] at hs
    rcases List.mem_cons.1 hx with rfl | h
    · exact he _ (by simp)
    · exact Int.lt_trans (he e (by simp)) (hs.1 x h)
theorem ybie {es : List E} {key : Int} (hs : Srt es) (hk : ∀ e ∈ es, key ≤ e.1) (hn : yaez es key = false) : ∀ e ∈ es, key < e.1 := by
  cases es with
  | nil => simp
  | cons e es =>
    rw [Srt.con] at hs
    have h1 : e.1 ≠ key := by simpa [yaez] using hn
    have h2 := hk e (by simp)
    intro x hx
    rcases List.mem_cons.1 hx with rfl | h
    · omega
    · have := hs.1 x h; omega
theorem yavt {h : Hp} {p : OA} {n c : Nat} {es : List E} {key : Int} (r : RdT TI h p n (es.map Prod.fst)) (hn : n ≤ 1000000) (hs : Srt es) :
    yaak Tryz.prog 114 #[.slice p n c, .int .i64 key] h (fun v h' => h' = h ∧ ∃ eL eR, es = eL ++ eR ∧ (∀ e ∈ eL, e.1 < key) ∧ (∀ e ∈ eR, key ≤ e.1) ∧ v = .tuple #[.int .i64 (eL.length : Int), .bool (yaez eR key)]) := by
  have hl : es.length = n := by have := r.len; simpa using this
  have inc : Inc (es.map Prod.fst) := by
    intro i j hij hj
    rw [List.length_map] at hj
    rw [yanr (by rw [List.length_map]; omega), yanr (by rw [List.length_map]; omega), List.getElem_map, List.getElem_map]
    exact List.pairwise_iff_getElem.1 hs i j (by omega) hj hij
  refine (yave r.ints hn inc).mono fun v h' ⟨hh, i, ⟨hi, lo, hi2⟩, hv⟩ => ⟨hh, es.take i, es.drop i, (List.take_append_drop i es).symm, ?_, ?_, ?_⟩
  · intro e he
    obtain ⟨j, hj, rfl⟩ := List.getElem_of_mem he
    rw [List.length_take] at hj
    have := lo j (by omega)
    rw [yanr (by rw [List.length_map]; omega), List.getElem_map] at this
    rw [List.getElem_take]; exact this
  · intro e he
    obtain ⟨j, hj, rfl⟩ := List.getElem_of_mem he
    rw [List.length_drop] at hj
    have := hi2 (i + j) (by omega) (by rw [List.length_map]; omega)
    rw [yanr (by rw [List.length_map]; omega), List.getElem_map] at this
    rw [List.getElem_drop]; exact this
  · rw [List.length_map] at hi
    rw [hv, List.length_take, Nat.min_eq_left hi]
    congr 4
    rcases Nat.lt_or_ge i es.length with h1 | h1
    · rw [List.drop_eq_getElem_cons h1]
      show Value.bool (decide (i < n ∧ at_ (es.map Prod.fst) i = key)) = Value.bool (decide (es[i].1 = key))
      have e : at_ (es.map Prod.fst) i = es[i].1 := by rw [yanr (by rw [List.length_map]; omega), List.getElem_map]
      rw [e]
      by_cases h2 : es[i].1 = key
      · rw [decide_eq_true h2, decide_eq_true ⟨by omega, h2⟩]
      · rw [decide_eq_false h2, decide_eq_false (fun h => h2 h.2)]
    · rw [List.drop_of_length_le h1, decide_eq_false (by omega)]; rfl
structure Way (key : Int) (lo hi root n : Nat) (t : BT) (A : Bag) (m : Nat) (fs : List Fr) (k : Nat) (u : BT) (Ac Au : Bag) : Prop where
  bag : A = Ac + Au
  ctx : HoldC root m fs k Ac
  sub : Hold m k u Au
  plug : plug fs u = t
  hgt : m + fs.length = n
  szc : SzC lo hi m fs
  szb : SzB lo hi m fs u
  lt : ∀ x ∈ Lb m fs, x.1 < key
  gt : ∀ x ∈ Rb m fs, key < x.1
  srt : Srt (flat m u)
abbrev blks (fs : List Fr) : List Nat := (fs.map Fr.b).reverse
abbrev idxs (fs : List Fr) : List Int := (fs.map fun f => (f.eL.length : Int)).reverse
theorem Way.step {key : Int} {lo hi root n m k : Nat} {t u : BT} {A Ac Au : Bag} {fs : List Fr} {eL eR : List E} (w : Way key lo hi root n t A (m + 1) fs k u Ac Au) (he : u.es = eL ++ eR) (hl : ∀ e ∈ eL, e.1 < key) (hr : ∀ e ∈ eR, key ≤ e.1) (hn : yaez eR key = false) :
    ∃ f k' u' Ac' Au', f.b = k ∧ f.eL = eL ∧ f.eR = eR ∧ fill f u' = u ∧ f.kL.length = eL.length ∧ Way key lo hi root n t A m (f :: fs) k' u' Ac' Au' := by
  have hes : Srt u.es := w.srt.sublist w.sub.sub
  obtain ⟨f, k', u', A1, A2, hb, hfL, hfR, hf, rfl, h1, h2, hkl⟩ := w.sub.down he rfl
  refine ⟨f, k', u', A1 + Ac, A2, hb, hfL, hfR, hf, hkl, ?_⟩
  have hsrt := w.srt
  rw [← hf, yaog u' h1.1, Srt.app, Srt.app] at hsrt
  rw [he, Srt.app] at hes
  refine ⟨by rw [w.bag]; ac_rfl, ⟨A1, Ac, rfl, h1, by rw [hb]; exact w.ctx⟩, h2, by show Go.Proofs.YtbhofnaipkkbeaaGreatDoor.plug fs (fill f u') = t; rw [hf]; exact w.plug, by have := w.hgt; simp; omega, (w.szb.down hf w.szc).1, (w.szb.down hf w.szc).2.b, ?_, ?_, hsrt.2.1.1⟩
  · intro x hx
    simp only [Lb, List.mem_append] at hx
    rcases hx with h | h
    · exact w.lt x h
    · exact wL_lt _ _ hsrt.1 (by rw [hfL]; exact hl) x h
  · intro x hx
    simp only [Rb, List.mem_append] at hx
    rcases hx with h | h
    · exact wR_gt _ _ hsrt.2.1.2.1 (by rw [hfR]; exact ybie hes.2.1 hr hn) x h
    · exact w.gt x h
theorem Way.start {key : Int} {lo hi root n : Nat} {t : BT} {A : Bag} (x : Hold n root t A) (so : Srt (flat n t)) (sz : SzR lo hi n t) : Way key lo hi root n t A n [] root t 0 A :=
  ⟨(Bag.zero_add A).symm, ⟨rfl, rfl⟩, x, rfl, rfl, trivial, sz.b, fun _ h => (nomatch h), fun _ h => (nomatch h), so⟩
theorem HoldF.kid {h0 h : Hp} {n k : Nat} {f : Fr} {A F : Bag} (hf : HoldF n f k A) (s : St h0 h (A + F)) : ∃ p L c, cell h ((⟨f.b, 0, none⟩ : Addr).add 2) = some (.slice p L c) ∧ RdT TP h p L (f.kL ++ k :: f.kR) ∧ L = (f.kL ++ k :: f.kR).length := by
  obtain ⟨_, _, A1, A2, A3, rfl, h1, h2, h3⟩ := hf
  obtain ⟨p1, p2, p3, c1, c2, c3, C1, C2, C3, rfl, ns⟩ := h1
  exact ⟨_, _, _, (s.at (nodeC f.b (f.eL ++ f.eR).length (f.kL ++ k :: f.kR).length p1 p2 p3 c1 c2 c3)).cellA 2, ns.s3.rd (s.at C3), rfl⟩
theorem ybbd {h0 h : Hp} {ta : Addr} {n root lo hi : Nat} {t : BT} {key : Int} {A F : Bag} (ht : cell h (ta.add 2) = some (ptr root)) (x : Hold n root t A) (s : St h0 h (A + F)) (so : Srt (flat n t)) (sz : SzR lo hi n t) (hhi : hi ≤ 1000) (hn : n ≤ 1000) :
    yaak Tryz.prog 84 #[.pointer (some ta), .int .i64 key] h (fun v h' => ∃ m fs k u Ac Au eL eR q1 q2 d1 d2 B1 B2, v = .tuple #[.slice q1 (fs.length + 1) d1, .slice q2 (fs.length + 1) d2, .bool (yaez eR key)] ∧
      St h h' (B1 + B2) ∧ Sl TP q1 (fs.length + 1) d1 (blks fs ++ [k]) B1 ∧ Sl TI q2 (fs.length + 1) d2 (idxs fs ++ [(eL.length : Int)]) B2 ∧
      Way key lo hi root n t A m fs k u Ac Au ∧ u.es = eL ++ eR ∧ (∀ e ∈ eL, e.1 < key) ∧ (∀ e ∈ eR, key ≤ e.1) ∧ (yaez eR key = true ∨ m = 0)) := by
  refine zag_call ?_
  rw [zag_b0]
  refine ⟨_, ht, ?_⟩
  refine ⟨fun st h' => ∃ m fs k u Ac Au B1 B2, st.2.2.1 = some ⟨k, 0, none⟩ ∧ St h h' (B1 + B2) ∧ Sl TP st.1.1 fs.length st.1.2.2 (blks fs) B1 ∧ Sl TI st.2.1.1 fs.length st.2.1.2.2 (idxs fs) B2 ∧ st.1.2.1 = fs.length ∧ st.2.1.2.1 = fs.length ∧
      Way key lo hi root n t A m fs k u Ac Au, fun st _ => n + 1 - st.1.2.1, ?_, ?_⟩
  · exact ⟨n, [], root, t, 0, A, 0, 0, rfl, (St.start h).to, Sl.nil, Sl.nil, rfl, rfl, Way.start x so sz⟩
  rintro ⟨⟨q1, n1, c1⟩, ⟨q2, n2, c2⟩, pv, _⟩ h1 ⟨m, fs, k, u, Ac, Au, B1, B2, hpv, s1, o1, o2, hn1, hn2, w⟩
  simp only at hpv o1 o2 hn1 hn2
  subst hpv hn1 hn2
  dsimp only
  have hfn := w.hgt
  obtain ⟨ks, A1, A2, hA, hna, hk0, hkl⟩ := w.sub.node
  have hna0 := hna
  obtain ⟨p1, p2, p3, e1, e2, e3, C1, C2, C3, rfl, ns⟩ := hna
  have bagA : A + F = nodeC k u.es.length ks.length p1 p2 p3 e1 e2 e3 + (C1 + (C2 + C3)) + (A2 + (Ac + F)) := by rw [w.bag, hA]; ac_rfl
  have sA : St h0 h (nodeC k u.es.length ks.length p1 p2 p3 e1 e2 e3 + (C1 + (C2 + C3)) + (A2 + (Ac + F))) := bagA ▸ s
  have kb : Blk h k [.slice p1 u.es.length e1, .slice p2 u.es.length e2, .slice p3 ks.length e3] 177 := (sA.at (nodeC k u.es.length ks.length p1 p2 p3 e1 e2 e3)).blk
  have hule := w.szb.1.2
  have rk : RdT TI h p1 u.es.length (u.es.map Prod.fst) := ns.s1.rd (sA.at C1)
  rw [zag_b1]
  refine yacv rfl ⟨_, _, _, (kb.ext s1.ext).cell 0, ?_⟩
  refine (yavt (key := key) (rk.ext s1.ext) (by omega) (w.srt.sublist w.sub.sub)).mono fun v2 h2 ⟨hh, eL, eR, he, hl, hr, hv2⟩ => ?_
  subst hh
  refine ⟨_, _, hv2, ?_⟩
  refine yahv yafa s1 o1 (x := k) rfl rfl (by omega) fun q3 c3 h4 B3 o3 s3 => ?_
  have s3 := s3.to (B := B2 + B3)
  refine yahv yaiv s3 o2 (x := (eL.length : Int)) rfl rfl (by omega) fun q4 c4 h6 B4 o4 s4 => ?_
  have s4 := s4.to (B := B3 + B4)
  refine yaar (fun hf => ?_) (fun hf => ?_)
  · exact ⟨m, fs, k, u, Ac, Au, eL, eR, _, _, _, _, _, _, rfl, s4, o3, o4, w, he, hl, hr, .inl hf⟩
  refine (yajj (sA.grow s4.ext) hna0).mono fun v7 h7 ⟨hh, hv7⟩ => ?_
  subst hh
  refine ⟨_, hv7, condP (fun hz => ?_) (fun hz => ?_)⟩
  · exact ⟨m, fs, k, u, Ac, Au, eL, eR, _, _, _, _, _, _, rfl, s4, o3, o4, w, he, hl, hr, .inr (hk0.1 hz)⟩
  obtain ⟨m', rfl⟩ : ∃ m', m = m' + 1 := ⟨m - 1, by have : m ≠ 0 := fun h => hz (hk0.2 h); omega⟩
  rw [zag_b2]
  obtain ⟨f, k', u', Ac', Au', hb, hfL, hfR, hfill, hkL, w'⟩ := w.step he hl hr hf
  have w0 := w'
  obtain ⟨D1, D2, rfl, hF, _⟩ := w'.ctx
  have sF : St h0 h (D1 + (D2 + (Au' + F))) := (w0.bag ▸ s : St h0 h (D1 + D2 + Au' + F)).to
  have rr := hF.kid sF
  obtain ⟨q, L, C, hc, rp, hlen⟩ := rr
  rw [hb] at hc
  have hgl : (f.kL ++ k' :: f.kR).getD eL.length 0 = k' := by simp [List.getD, ← hkL]
  refine ⟨_, _, C, ?_, (rp.ext s4.ext).ptr (by omega) (by rw [hlen, List.length_append, List.length_cons]; omega) ?_⟩
  · have := s4.ext.cell hc; exact this
  rw [Int.toNat_natCast, hgl]
  refine ⟨⟨m', f :: fs, k', u', _, Au', B3, B4, rfl, s4, ?_, ?_, rfl, rfl, w0⟩, ?_⟩
  · simp only [blks, List.map_cons, List.reverse_cons, hb, List.length_cons]; exact o3
  · simp only [idxs, List.map_cons, List.reverse_cons, hfL]; exact o4
  · dsimp only; omega
def Pend (m k : Nat) (right : OA) (eL eR : List E) (e : E) (U : BT) (Au : Bag) : Prop :=
  U.es = eL ++ e :: eR ∧ ((right = none ∧ m = 0 ∧ U.ts = [] ∧ NodeA k (eL ++ eR) [] Au) ∨
    ∃ m' r kL kR A1 A2, m = m' + 1 ∧ right = some ⟨r, 0, none⟩ ∧ Au = A1 + A2 ∧ NodeA k (eL ++ eR) (kL ++ kR) A1 ∧ kL.length = eL.length + 1 ∧ kR.length = eR.length ∧ AllH (Hold m') (kL ++ r :: kR) U.ts A2)
theorem wr2 {h0 h : Hp} {k n n' m : Nat} {p1 p2 p3 q1 q2 : OA} {c1 c2 c3 d1 d2 : Nat} {F : Bag} {Q : Hp → Prop} (s : St h0 h (nodeC k n m p1 p2 p3 c1 c2 c3 + F))
    (hq : ∀ h', St h0 h' (nodeC k n' m q1 q2 p3 d1 d2 c3 + F) → Q h') :
    NN (some (⟨k, 0, none⟩ : Addr)) fun a => Wr h a (.slice q1 n' d1) fun h1 => NN (some (⟨k, 0, none⟩ : Addr)) fun a => Wr h1 (a.add 1) (.slice q2 n' d2) Q := by
  refine s.wr rfl (by simp) fun h3 s3 => ?_
  exact s3.wr (o := 1) (yaca _ _ _) (by simp) fun h4 s4 => hq h4 s4
theorem yavp {h0 h : Hp} {k m i : Nat} {right : OA} {eL eR : List E} {e : E} {U : BT} {A1 A2 F : Bag} {t : OA} {visits d : Int} {nodes atv : OA} {nL nC aL aC : Nat} {nx0 : Int × Int × Int × OA × Int × Unit → Hp → Prop} {K : VK}
    (hU : U.es = eL ++ e :: eR) (hi : eL.length = i) (hsz : (eL ++ eR).length ≤ 1000)
    (hx : (right = none ∧ m = 0 ∧ U.ts = [] ∧ A2 = 0 ∧ NodeA k U.es [] A1) ∨ ∃ m' r kL kR, m = m' + 1 ∧ right = some ⟨r, 0, none⟩ ∧ NodeA k U.es (kL ++ kR) A1 ∧ kL.length = eL.length + 1 ∧ kR.length = eR.length ∧ AllH (Hold m') (kL ++ r :: kR) U.ts A2)
    (s : St h0 h (A1 + (A2 + F)))
    (hk : ∀ h' Au, Hold m k U Au → St h0 h' (Au + F) → zah_b4 t visits nodes nL nC atv aL aC d (some ⟨k, 0, none⟩) h' nx0 K) :
    zah_b2 t visits nodes nL nC atv aL aC right d (some ⟨k, 0, none⟩) (i : Int) h nx0 K := by
  rw [zah_b2]
  rcases hx with ⟨rfl, rfl, ht, rfl, hn⟩ | ⟨m', r, kL, kR, rfl, rfl, hn, l1, l2, ha⟩
  · exact yabb rfl (hk h A1 ⟨ht, hn⟩ s.to)
  · refine yacv rfl ?_
    obtain ⟨p1, p2, p3, c1, c2, c3, C1, C2, C3, rfl, ns⟩ := hn
    rw [List.length_append] at hsz
    have hcap := ns.s3.cap
    refine ⟨_, _, _, (s.at (nodeC k U.es.length (kL ++ kR).length p1 p2 p3 c1 c2 c3)).cellA 2, ⟨by omega, by omega⟩, ?_⟩
    refine s.new (cs := [.pointer (some ⟨r, 0, none⟩)]) fun b9 h26 _ s1 => ?_
    have s2 : St h0 h26 (C3 + (cA b9 [.pointer (some ⟨r, 0, none⟩)] (TP).e + (nodeC k U.es.length (kL ++ kR).length p1 p2 p3 c1 c2 c3 + (C1 + (C2 + (A2 + F)))))) := s1.to
    have ei : ((i : Int) + 1) = ((i + 1 : Nat) : Int) := by omega
    rw [ei]
    refine (yare (x := r) s2 ns.s3 rfl (by rw [List.length_append]; omega) (by rw [List.length_append]; omega)).mono fun v8 h27 ⟨p', c', C3', hv, o3, s3⟩ => ?_
    refine ⟨_, _, _, hv, ?_⟩
    have e3 : (kL ++ kR).take (i + 1) ++ r :: (kL ++ kR).drop (i + 1) = kL ++ r :: kR := by
      rw [List.take_left' (by omega), List.drop_left' (by omega)]
    rw [e3] at o3
    have s3 := (s3.to (B := cA b9 [.pointer (some ⟨r, 0, none⟩)] (TP).e + (nodeC k U.es.length (kL ++ kR).length p1 p2 p3 c1 c2 c3 + (C1 + (C2 + (C3' + (A2 + F))))))).drop
    refine s3.wr (o := 2) (yaca _ _ _) (by simp) fun h28 s4 => ?_
    have hl3 : (kL ++ kR).length + 1 = (kL ++ r :: kR).length := by simp; omega
    refine hk h28 (nodeC k U.es.length (kL ++ r :: kR).length p1 p2 p' c1 c2 c' + (C1 + (C2 + C3')) + A2) ⟨kL ++ r :: kR, _, A2, rfl, ⟨p1, p2, p', c1, c2, c', C1, C2, C3', rfl, ⟨ns.s1, ns.s2, o3.cast hl3 rfl⟩⟩, by rw [hU]; simp; omega, ha⟩ ?_
    have s5 : St h0 h28 (nodeC k U.es.length (kL ++ r :: kR).length p1 p2 p' c1 c2 c' + (C1 + (C2 + (C3' + (A2 + F))))) := by rw [← hl3]; exact s4
    exact s5.to
theorem yavn {h0 h : Hp} {k m : Nat} {right : OA} {eL eR : List E} {key value : Int} {U : BT} {Au F : Bag} {t : OA} {visits : Int} {d : Nat} {nodes atv : OA} {nL nC aL aC : Nat} {N : List Nat} {I : List Int} {nx0 : Int × Int × Int × OA × Int × Unit → Hp → Prop} {K : VK}
    (rN : RdT TP h nodes nL N) (rI : RdT TI h atv aL I) (hd : d < nL) (hd2 : d < aL) (hN : N.getD d 0 = k) (hI : I.getD d 0 = (eL.length : Int)) (hsz : (eL ++ eR).length ≤ 1000)
    (pd : Pend m k right eL eR (key, value) U Au) (s : St h0 h (Au + F))
    (hk : ∀ h' Au', Hold m k U Au' → St h0 h' (Au' + F) → zah_b4 t visits nodes nL nC atv aL aC (d : Int) (some ⟨k, 0, none⟩) h' nx0 K) :
    zah_b1 key value visits right (d : Int) t nodes nL nC atv aL aC h nx0 K := by
  obtain ⟨hU, pd⟩ := pd
  obtain ⟨ks, A1, A2, rfl, hn, hx⟩ : ∃ ks A1 A2, Au = A1 + A2 ∧ NodeA k (eL ++ eR) ks A1 ∧ ∀ B, NodeA k U.es ks B → (right = none ∧ m = 0 ∧ U.ts = [] ∧ A2 = 0 ∧ NodeA k U.es [] B) ∨ ∃ m' r kL kR, m = m' + 1 ∧ right = some ⟨r, 0, none⟩ ∧ NodeA k U.es (kL ++ kR) B ∧ kL.length = eL.length + 1 ∧ kR.length = eR.length ∧ AllH (Hold m') (kL ++ r :: kR) U.ts A2 := by
    rcases pd with ⟨h1, h2, h3, h4⟩ | ⟨m', r, kL, kR, A1, A2, h1, h2, h3, h4, h5, h6, h7⟩
    · exact ⟨[], Au, 0, (Bag.add_zero _).symm, h4, fun B hB => .inl ⟨h1, h2, h3, rfl, hB⟩⟩
    · exact ⟨kL ++ kR, A1, A2, h3, h4, fun B hB => .inr ⟨m', r, kL, kR, h1, h2, hB, h5, h6, h7⟩⟩
  obtain ⟨p1, p2, p3, c1, c2, c3, C1, C2, C3, rfl, ns⟩ := hn
  have hlen : (eL ++ eR).length = eL.length + eR.length := List.length_append
  have nC0 := s.at (nodeC k (eL ++ eR).length ks.length p1 p2 p3 c1 c2 c3)
  have tk : (eL ++ eR).take eL.length = eL := List.take_left' rfl
  have dk : (eL ++ eR).drop eL.length = eR := List.drop_left' rfl
  have f1 : ((eL ++ eR).map Prod.fst).take eL.length ++ key :: ((eL ++ eR).map Prod.fst).drop eL.length = U.es.map Prod.fst := by
    rw [← List.map_take, ← List.map_drop, tk, dk, hU]; simp
  have f2 : ((eL ++ eR).map Prod.snd).take eL.length ++ value :: ((eL ++ eR).map Prod.snd).drop eL.length = U.es.map Prod.snd := by
    rw [← List.map_take, ← List.map_drop, tk, dk, hU]; simp
  have hUl : (eL ++ eR).length + 1 = U.es.length := by rw [hU]; simp; omega
  rw [zah_b1]
  refine yacv (decide_eq_true (by omega)) ?_
  refine rN.ptr (by omega) (by omega) ?_
  rw [Int.toNat_natCast, hN]
  refine rI.int (by omega) (by omega) ?_
  rw [Int.toNat_natCast, hI]
  refine ⟨_, _, _, nC0.cell 0, _, _, _, nC0.cellA 1, ?_⟩
  -- the end, whatever came first
  have fin : ∀ (h' : Hp) (q1 q2 : OA) (d1 d2 : Nat) (D1 D2 G : Bag), St h0 h' (nodeC k (eL ++ eR).length ks.length p1 p2 p3 c1 c2 c3 + (D1 + (D2 + (C3 + (A2 + (F + G)))))) →
      Sl TI q1 ((eL ++ eR).length + 1) d1 (((eL ++ eR).map Prod.fst).take eL.length ++ key :: ((eL ++ eR).map Prod.fst).drop eL.length) D1 → Sl TI q2 ((eL ++ eR).length + 1) d2 (((eL ++ eR).map Prod.snd).take eL.length ++ value :: ((eL ++ eR).map Prod.snd).drop eL.length) D2 →
      NN (some (⟨k, 0, none⟩ : Addr)) fun a => Wr h' a (.slice q1 ((eL ++ eR).length + 1) d1) fun h1 => NN (some (⟨k, 0, none⟩ : Addr)) fun a => Wr h1 (a.add 1) (.slice q2 ((eL ++ eR).length + 1) d2) fun h2 =>
      zah_b2 t visits nodes nL nC atv aL aC right (d : Int) (some ⟨k, 0, none⟩) (eL.length : Int) h2 nx0 K := by
    intro h' q1 q2 d1 d2 D1 D2 G s' o1 o2
    refine wr2 s' fun h2 s2 => ?_
    rw [f1] at o1
    rw [f2] at o2
    have nb : NodeA k U.es ks (nodeC k U.es.length ks.length q1 q2 p3 d1 d2 c3 + (D1 + (D2 + C3))) := ⟨q1, q2, p3, d1, d2, c3, D1, D2, C3, rfl, ⟨o1.cast hUl rfl, o2.cast hUl rfl, ns.s3⟩⟩
    rw [hUl] at s2
    refine yavp hU rfl hsz (hx _ nb) (F := F) ?_ hk
    have s3 : St h0 h2 (G + (nodeC k U.es.length ks.length q1 q2 p3 d1 d2 c3 + (D1 + (D2 + C3)) + (A2 + F))) := s2.to
    exact s3.drop
  refine ⟨?_, ?_⟩
  · refine s.new (cs := [.int .i64 key]) fun b4 h9 _ s1 => ?_
    have g9 := s1.at (nodeC k (eL ++ eR).length ks.length p1 p2 p3 c1 c2 c3)
    refine ⟨⟨_, _, _, g9.cellA 1, rfl⟩, ⟨_, _, _, g9.cell 0, rfl⟩, ?_, ?_⟩
    · have s2 : St h0 h9 (C1 + (cA b4 [.int .i64 key] (TI).e + (nodeC k (eL ++ eR).length ks.length p1 p2 p3 c1 c2 c3 + (C2 + (C3 + (A2 + F)))))) := s1.to
      refine (yadr (x := key) s2 ns.s1 rfl (by omega) (by omega)).mono fun v2 h10 ⟨p', c', C1', hv, o1, s3⟩ => ?_
      refine ⟨_, _, _, hv, ⟨_, _, _, (s3.at (nodeC k (eL ++ eR).length ks.length p1 p2 p3 c1 c2 c3)).cellA 1, rfl⟩, ?_⟩
      refine s3.new (cs := [.int .i64 value]) fun b5 h11 _ s4 => ?_
      refine ⟨⟨_, _, _, (s4.at (nodeC k (eL ++ eR).length ks.length p1 p2 p3 c1 c2 c3)).cellA 1, rfl⟩, ?_⟩
      have s5 : St h0 h11 (C2 + (cA b5 [.int .i64 value] (TI).e + (nodeC k (eL ++ eR).length ks.length p1 p2 p3 c1 c2 c3 + (C1' + (C3 + (A2 + (F + cA b4 [.int .i64 key] (TI).e))))))) := s4.to
      refine (yadr (x := value) s5 ns.s2 rfl (by omega) (by omega)).mono fun v3 h12 ⟨p'', c'', C2', hv', o2, s6⟩ => ?_
      refine ⟨_, _, _, hv', fin h12 p' p'' c' c'' C1' C2' (cA b4 [.int .i64 key] (TI).e + cA b5 [.int .i64 value] (TI).e) s6.to o1 o2⟩
    · refine s1.new (cs := [.int .i64 value]) fun b6 h15 _ s2 => ?_
      have g15 := s2.at (nodeC k (eL ++ eR).length ks.length p1 p2 p3 c1 c2 c3)
      refine ⟨⟨_, _, _, g15.cellA 1, rfl⟩, ⟨_, _, _, g15.cell 0, rfl⟩, ?_⟩
      have s3 : St h0 h15 (C1 + (cA b4 [.int .i64 key] (TI).e + (nodeC k (eL ++ eR).length ks.length p1 p2 p3 c1 c2 c3 + (C2 + (C3 + (A2 + (F + cA b6 [.int .i64 value] (TI).e))))))) := s2.to
      refine (yadr (x := key) s3 ns.s1 rfl (by omega) (by omega)).mono fun v4 h16 ⟨p', c', C1', hv, o1, s4⟩ => ?_
      refine ⟨_, _, _, hv, ⟨_, _, _, (s4.at (nodeC k (eL ++ eR).length ks.length p1 p2 p3 c1 c2 c3)).cellA 1, rfl⟩, ?_⟩
      have s5 : St h0 h16 (C2 + (cA b6 [.int .i64 value] (TI).e + (nodeC k (eL ++ eR).length ks.length p1 p2 p3 c1 c2 c3 + (C1' + (C3 + (A2 + (F + cA b4 [.int .i64 key] (TI).e))))))) := s4.to
      refine (yadr (x := value) s5 ns.s2 rfl (by omega) (by omega)).mono fun v3 h12 ⟨p'', c'', C2', hv', o2, s6⟩ => ?_
      refine ⟨_, _, _, hv', fin h12 p' p'' c' c'' C1' C2' (cA b4 [.int .i64 key] (TI).e + cA b6 [.int .i64 value] (TI).e) s6.to o1 o2⟩
  · refine s.new (cs := [.int .i64 value]) fun b7 h20 _ s1 => ?_
    have g20 := s1.at (nodeC k (eL ++ eR).length ks.length p1 p2 p3 c1 c2 c3)
    refine ⟨⟨_, _, _, g20.cellA 1, rfl⟩, ⟨_, _, _, g20.cell 0, rfl⟩, ?_⟩
    refine s1.new (cs := [.int .i64 key]) fun b8 h21 _ s2 => ?_
    have g21 := s2.at (nodeC k (eL ++ eR).length ks.length p1 p2 p3 c1 c2 c3)
    refine ⟨⟨_, _, _, g21.cellA 1, rfl⟩, ⟨_, _, _, g21.cell 0, rfl⟩, ?_⟩
    have s3 : St h0 h21 (C1 + (cA b8 [.int .i64 key] (TI).e + (nodeC k (eL ++ eR).length ks.length p1 p2 p3 c1 c2 c3 + (C2 + (C3 + (A2 + (F + cA b7 [.int .i64 value] (TI).e))))))) := s2.to
    refine (yadr (x := key) s3 ns.s1 rfl (by omega) (by omega)).mono fun v4 h16 ⟨p', c', C1', hv, o1, s4⟩ => ?_
    refine ⟨_, _, _, hv, ⟨_, _, _, (s4.at (nodeC k (eL ++ eR).length ks.length p1 p2 p3 c1 c2 c3)).cellA 1, rfl⟩, ?_⟩
    have s5 : St h0 h16 (C2 + (cA b7 [.int .i64 value] (TI).e + (nodeC k (eL ++ eR).length ks.length p1 p2 p3 c1 c2 c3 + (C1' + (C3 + (A2 + (F + cA b8 [.int .i64 key] (TI).e))))))) := s4.to
    refine (yadr (x := value) s5 ns.s2 rfl (by omega) (by omega)).mono fun v3 h12 ⟨p'', c'', C2', hv', o2, s6⟩ => ?_
    refine ⟨_, _, _, hv', fin h12 p' p'' c' c'' C1' C2' (cA b7 [.int .i64 value] (TI).e + cA b8 [.int .i64 key] (TI).e) s6.to o1 o2⟩
abbrev treeC (tb order len : Nat) (root : OA) (vis : Int) : Bag := cA tb [.int .i64 order, .int .i64 len, .pointer root, .int .i64 vis] 87
def TreeA (order : Nat) (xs : List E) (tb : Nat) (vis : Int) (A : Bag) : Prop :=
  (xs = [] ∧ A = treeC tb order 0 none vis) ∨ ∃ n root t A1, A = treeC tb order xs.length (some ⟨root, 0, none⟩) vis + A1 ∧ Hold n root t A1 ∧ flat n t = xs ∧ SzR ((order + 1) / 2 - 1) (order - 1) n t
theorem ybcx {a c : Nat} : ∀ (es : List E) (ks : List (List E)), ks.length = es.length → (∀ k ∈ ks, a ≤ k.length + 1 ∧ k.length + 1 ≤ c) → es.length * a ≤ (wR es ks).length ∧ (wR es ks).length ≤ es.length * c
  | [], [], _, _ => by simp [wR]
  | [], _ :: _, h, _ => by simp at h
  | _ :: _, [], h, _ => by simp at h
  | e :: es, k :: ks, h, hk => by
    have h1 := ybcx es ks (by simpa using h) (fun k hk' => hk k (by simp [hk']))
    have h2 := hk k (by simp)
    simp only [wR, List.length_cons, List.length_append, Nat.add_mul, Nat.one_mul]
    omega
theorem yaut {a c : Nat} (es : List E) (ks : List (List E)) (hl : ks.length = es.length + 1) (hk : ∀ k ∈ ks, a ≤ k.length + 1 ∧ k.length + 1 ≤ c) : (es.length + 1) * a ≤ (weave ks es).length + 1 ∧ (weave ks es).length + 1 ≤ (es.length + 1) * c := by
  cases ks with
  | nil => simp at hl
  | cons k ks =>
    have h1 := ybcx (a := a) (c := c) es ks (by simpa using hl) (fun k hk' => hk k (by simp [hk']))
    have h2 := hk k (by simp)
    simp only [weave, List.length_append, Nat.add_mul, Nat.one_mul]
    omega
theorem Sz.count {lo hi : Nat} : ∀ {n b : Nat} {t : BT} {A : Bag}, Hold n b t A → Sz lo hi n t → (lo + 1) ^ (n + 1) ≤ (flat n t).length + 1 ∧ (flat n t).length + 1 ≤ (hi + 1) ^ (n + 1)
  | 0, b, t, A, _, hs => by
    have : lo ≤ t.es.length ∧ t.es.length ≤ hi := hs
    simp only [flat, Nat.zero_add, Nat.pow_one]
    omega
  | n + 1, b, t, A, hh, hs => by
    have hl := hh.len
    obtain ⟨ks, A1, A2, rfl, h1, _, h2⟩ := hh
    have hk : ∀ k ∈ t.ts.map (flat n), (lo + 1) ^ (n + 1) ≤ k.length + 1 ∧ k.length + 1 ≤ (hi + 1) ^ (n + 1) := by
      intro k hk
      obtain ⟨c, hc, rfl⟩ := List.mem_map.1 hk
      have : ∀ {bs : List Nat} {ts : List BT} {B : Bag}, AllH (Hold n) bs ts B → ∀ c ∈ ts, ∃ b A, Hold n b c A := by
        intro bs
        induction bs with
        | nil => intro ts B h c hc; cases ts with | nil => cases hc | cons _ _ => exact h.elim
        | cons b bs ih =>
          intro ts B h c hc
          cases ts with
          | nil => cases hc
          | cons t ts =>
            obtain ⟨D1, D2, _, g1, g2⟩ := h
            rcases List.mem_cons.1 hc with rfl | hc
            · exact ⟨_, _, g1⟩
            · exact ih g2 c hc
      obtain ⟨b', A', hc'⟩ := this h2 c hc
      exact Sz.count hc' (hs.2 c hc)
    have := yaut t.es (t.ts.map (flat n)) (by rw [List.length_map]; exact hl) hk
    have h3 := hs.1
    simp only [flat]
    refine ⟨Nat.le_trans ?_ this.1, Nat.le_trans this.2 ?_⟩
    · rw [Nat.pow_succ, Nat.mul_comm]; exact Nat.mul_le_mul_right _ (by omega)
    · rw [Nat.pow_succ (m := n + 1), Nat.mul_comm]; exact Nat.mul_le_mul_left _ (by omega)
theorem Sz.weaken {lo lo2 hi : Nat} (hle : lo2 ≤ lo) : ∀ {n : Nat} {t : BT}, Sz lo hi n t → Sz lo2 hi n t
  | 0, _, h => ⟨Nat.le_trans hle h.1, h.2⟩
  | _ + 1, _, h => ⟨⟨Nat.le_trans hle h.1.1, h.1.2⟩, fun c hc => (h.2 c hc).weaken hle⟩
theorem SzR.one {lo hi : Nat} (hle : 1 ≤ lo) {n : Nat} {t : BT} (h : SzR lo hi n t) : Sz 1 hi n t := by
  cases n with
  | zero => exact h
  | succ n => exact ⟨h.1, fun c hc => (h.2 c hc).weaken hle⟩
theorem SzR.low {lo hi n b : Nat} {t : BT} {A : Bag} (hh : Hold n b t A) (hle : 1 ≤ lo) (h : SzR lo hi n t) : 2 ^ (n + 1) ≤ (flat n t).length + 1 := (Sz.count hh (h.one hle)).1
theorem yava {n m : Nat} (h : 2 ^ (n + 1) ≤ m + 1) (hm : m ≤ 4000) : n ≤ 11 := by
  rcases Nat.lt_or_ge n 12 with h1 | h1
  · omega
  · have : 2 ^ (12 + 1) ≤ 2 ^ (n + 1) := Nat.pow_le_pow_right (by decide) (by omega)
    have e : 2 ^ (12 + 1) = 8192 := by decide
    omega
theorem yanv (k1 : List (List E)) (e1 : List E) (e : E) (k2 : List (List E)) (e2 : List E) (h1 : k1.length = e1.length + 1) (h2 : k2.length = e2.length + 1) : weave (k1 ++ k2) (e1 ++ e :: e2) = weave k1 e1 ++ e :: weave k2 e2 := by
  obtain ⟨kL, k, rfl⟩ : ∃ kL k, k1 = kL ++ [k] := by
    rcases List.eq_nil_or_concat k1 with h | ⟨kL, k, h⟩
    · rw [h] at h1; simp at h1
    · exact ⟨kL, k, by simpa using h⟩
  cases k2 with
  | nil => simp at h2
  | cons k' k2 =>
    have hl : kL.length = e1.length := by simpa using h1
    rw [List.append_assoc, List.singleton_append, yaey kL e1 k (k' :: k2) (e :: e2) hl]
    have := yaey kL e1 k [] [] hl
    rw [List.append_nil] at this
    rw [this]
    simp [wR, weave]
def tl (t : BT) : BT := .nd (t.es.take (t.es.length / 2)) (t.ts.take (t.es.length / 2 + 1))
def tr (t : BT) : BT := .nd (t.es.drop (t.es.length / 2 + 1)) (t.ts.drop (t.es.length / 2 + 1))
def mid (t : BT) : E := t.es.getD (t.es.length / 2) (0, 0)
theorem ybhq (es : List E) {i : Nat} (h : i < es.length) : es = es.take i ++ es.getD i (0, 0) :: es.drop (i + 1) := by
  have : es.getD i (0, 0) = es[i] := by simp [List.getD, h]
  rw [this, ← List.drop_eq_getElem_cons h, List.take_append_drop]
theorem yasq {n b : Nat} {t : BT} {A : Bag} (hh : Hold n b t A) (h1 : 1 ≤ t.es.length) : flat n t = flat n (tl t) ++ mid t :: flat n (tr t) := by
  have hc := ybhq t.es (i := t.es.length / 2) (by omega)
  cases n with
  | zero => exact hc
  | succ n =>
    have hl := hh.len
    show weave (t.ts.map (flat n)) t.es = weave ((t.ts.take _).map (flat n)) (t.es.take _) ++ _ :: weave ((t.ts.drop _).map (flat n)) (t.es.drop _)
    rw [← yanv]
    · rw [← List.map_append, List.take_append_drop]
      exact congrArg _ hc
    · rw [List.length_map, List.length_take, List.length_take]; omega
    · rw [List.length_map, List.length_drop, List.length_drop]; omega
theorem yatl {h0 h : Hp} {n b : Nat} {t : BT} {A F : Bag} (hh : Hold n b t A) (s : St h0 h (A + F)) (h1 : 1 ≤ t.es.length) (hsz : t.es.length < 1000) :
    yaak Tryz.prog 87 #[ptr b] h (fun v h' => ∃ r A1 A2, v = .tuple #[.int .i64 (mid t).1, .int .i64 (mid t).2, ptr r] ∧ Hold n b (tl t) A1 ∧ Hold n r (tr t) A2 ∧ St h0 h' (A1 + (A2 + F))) := by
  cases n with
  | zero =>
    obtain ⟨ht, hn⟩ := hh
    refine (yara s hn h1 (.inl rfl) hsz).mono fun v h' ⟨r, A1, A2, hv, n1, n2, s'⟩ => ⟨r, A1, A2, hv, ⟨by show t.ts.take _ = []; rw [ht]; rfl, n1⟩, ⟨by show t.ts.drop _ = []; rw [ht]; rfl, n2⟩, s'⟩
  | succ n =>
    have hlen := hh.len
    obtain ⟨ks, A1, A2, rfl, hn, hl, ha⟩ := hh
    have s1 : St h0 h (A1 + (A2 + F)) := s.to
    refine (yara s1 hn h1 (.inr hl) hsz).mono fun v h' ⟨r, B1, B2, hv, n1, n2, s'⟩ => ?_
    rw [← List.take_append_drop (t.es.length / 2 + 1) ks, ← List.take_append_drop (t.es.length / 2 + 1) t.ts] at ha
    obtain ⟨C1, C2, rfl, a1, a2⟩ := AllH.split _ _ (by rw [List.length_take, List.length_take, hl, hlen]) ha
    refine ⟨r, B1 + C1, B2 + C2, hv, ⟨_, B1, C1, rfl, n1, ?_, a1⟩, ⟨_, B2, C2, rfl, n2, ?_, a2⟩, s'.to⟩
    · show (ks.take (t.es.length / 2 + 1)).length = (t.es.take (t.es.length / 2)).length + 1
      rw [List.length_take, List.length_take]; omega
    · show (ks.drop (t.es.length / 2 + 1)).length = (t.es.drop (t.es.length / 2 + 1)).length + 1
      rw [List.length_drop, List.length_drop]; omega
theorem Sz.tl {lo hi n : Nat} {t : BT} (h1 : lo ≤ t.es.length / 2) (h2 : t.es.length ≤ hi + 1) (h3 : 1 ≤ hi) (hk : ∀ m, n = m + 1 → ∀ c ∈ t.ts, Sz lo hi m c) : Sz lo hi n (tl t) := by
  have hl : (Go.Proofs.YtbhofnaipkkbeaaGreatDoor.tl t).es.length = t.es.length / 2 := by show (t.es.take (t.es.length / 2)).length = _; rw [List.length_take]; omega
  cases n with
  | zero => exact ⟨by rw [hl]; exact h1, by rw [hl]; omega⟩
  | succ n => exact ⟨⟨by rw [hl]; exact h1, by rw [hl]; omega⟩, fun c hc => hk n rfl c (List.mem_of_mem_take hc)⟩
theorem Sz.tr {lo hi n : Nat} {t : BT} (h1 : lo + (t.es.length / 2 + 1) ≤ t.es.length) (h2 : t.es.length ≤ hi + 1) (hk : ∀ m, n = m + 1 → ∀ c ∈ t.ts, Sz lo hi m c) : Sz lo hi n (tr t) := by
  have hl : (Go.Proofs.YtbhofnaipkkbeaaGreatDoor.tr t).es.length = t.es.length - (t.es.length / 2 + 1) := by show (t.es.drop (t.es.length / 2 + 1)).length = _; rw [List.length_drop]
  cases n with
  | zero => exact ⟨by rw [hl]; omega, by rw [hl]; omega⟩
  | succ n => exact ⟨⟨by rw [hl]; omega, by rw [hl]; omega⟩, fun c hc => hk n rfl c (List.mem_of_mem_drop hc)⟩
section
variable {h0 : Hp} {order lo hi n len root tb : Nat} {vis : Int} {target : List E} {N : List Nat} {I : List Int} {B F : Bag}
def PutS (h0 : Hp) (order lo hi n len root tb : Nat) (vis : Int) (target : List E) (N : List Nat) (I : List Int) (B F : Bag) (e : E) (right : OA) (d : Int) (h : Hp) : Prop :=
  (∃ m fs k eL eR U Ac Au N' I', d = (fs.length : Int) ∧ N = blks fs ++ k :: N' ∧ I = idxs fs ++ (eL.length : Int) :: I' ∧ HoldC root m fs k Ac ∧ Pend m k right eL eR e U Au ∧
    St h0 h (treeC tb order len (some ⟨root, 0, none⟩) vis + (Ac + (Au + (B + F)))) ∧ Lb m fs ++ (flat m U ++ Rb m fs) = target ∧ SzC lo hi m fs ∧ (lo' lo fs ≤ (eL ++ eR).length ∧ (eL ++ eR).length ≤ hi) ∧ (∀ m', m = m' + 1 → ∀ c ∈ U.ts, Sz lo hi m' c) ∧ m + fs.length = n) ∨
  (d = -1 ∧ ∃ r tl tr A1 A2, right = some ⟨r, 0, none⟩ ∧ Hold n root tl A1 ∧ Hold n r tr A2 ∧ St h0 h (treeC tb order len (some ⟨root, 0, none⟩) vis + (A1 + (A2 + (B + F)))) ∧ flat n tl ++ e :: flat n tr = target ∧ Sz lo hi n tl ∧ Sz lo hi n tr)
theorem yawh {h : Hp} {m k : Nat} {U : BT} {fs : List Fr} {Ac Au : Bag} {N' : List Nat} {I' : List Int} {i visits : Int} {nodes atv : OA} {nL nC aL aC : Nat} {nx0 : Int × Int × Int × OA × Int × Unit → Hp → Prop} {K : VK}
    (hlo : lo = (order + 1) / 2 - 1) (hhi : hi = order - 1) (h3 : 3 ≤ order) (h64 : order ≤ 64) (hv : 0 ≤ visits ∧ visits ≤ 1000) (hfl : fs.length ≤ 1000)
    (hN : N = blks fs ++ k :: N') (hI : I = idxs fs ++ i :: I') (hc : HoldC root m fs k Ac) (hu : Hold m k U Au) (s : St h0 h (treeC tb order len (some ⟨root, 0, none⟩) vis + (Ac + (Au + (B + F)))))
    (hf : Lb m fs ++ (flat m U ++ Rb m fs) = target) (hlen : target.length = len) (sc : SzC lo hi m fs) (hU : lo' lo fs + 1 ≤ U.es.length ∧ U.es.length ≤ hi + 1) (hk : ∀ m', m = m' + 1 → ∀ c ∈ U.ts, Sz lo hi m' c) (hn : m + fs.length = n)
    (hK : ∀ h' A, TreeA order target tb vis A → St h0 h' (A + F) → K (.tuple #[.int .i64 0, .bool false, .int .i64 visits, .int .i64 0]) h')
    (hnx : ∀ e right h', PutS h0 order lo hi n len root tb vis target N I B F e right ((fs.length : Int) - 1) h' → nx0 (e.1, e.2, visits + 1, right, (fs.length : Int) - 1, ()) h') :
    zah_b4 (some ⟨tb, 0, none⟩) visits nodes nL nC atv aL aC (fs.length : Int) (some ⟨k, 0, none⟩) h nx0 K := by
  rw [zah_b4]
  have hu0 := hu
  obtain ⟨ks, A1, A2, hA, hna, hk0, hkl⟩ := hu.node
  obtain ⟨p1, p2, p3, e1, e2, e3, C1, C2, C3, rfl, ns⟩ := hna
  subst hA
  have kb := (s.at (nodeC k U.es.length ks.length p1 p2 p3 e1 e2 e3)).blk
  refine ⟨_, _, _, kb.cell 0, _, s.cell 0, condP (fun hlt => ?_) (fun hge => ?_)⟩
  · refine hK h _ (.inr ⟨n, root, plug fs U, Ac + (nodeC k U.es.length ks.length p1 p2 p3 e1 e2 e3 + (C1 + (C2 + C3)) + A2), ?_, ?_, ?_, ?_⟩) ((s.to (B := B + (treeC tb order len (some ⟨root, 0, none⟩) vis + (Ac + (nodeC k U.es.length ks.length p1 p2 p3 e1 e2 e3 + (C1 + (C2 + C3)) + A2)) + F))).drop)
    · rw [hlen]
    · rw [← hn]; exact hc.plug hu0
    · rw [← hn, yaej U hc.ok]; exact hf
    · rw [← hn, ← hlo, ← hhi]
      exact sc.plug ⟨⟨by omega, by omega⟩, hk⟩
  · have hlo1 : 1 ≤ lo' lo fs := by cases fs with | nil => exact Nat.le_refl _ | cons f fs => show 1 ≤ lo; omega
    have hUe : U.es.length = order := by omega
    have s1 : St h0 h (nodeC k U.es.length ks.length p1 p2 p3 e1 e2 e3 + (C1 + (C2 + C3)) + A2 + (treeC tb order len (some ⟨root, 0, none⟩) vis + (Ac + (B + F)))) := s.to
    refine (yatl hu0 s1 (by omega) (by omega)).mono fun v h' ⟨r, D1, D2, hv9, g1, g2, s2⟩ => ?_
    refine ⟨_, _, _, hv9, ⟨by omega, by omega⟩, ?_⟩
    rw [zah_b5]
    refine ⟨⟨by omega, by omega⟩, hnx (mid U) _ h' ?_⟩
    have z1 : Sz lo hi m (tl U) := Sz.tl (by omega) (by omega) (by omega) hk
    have z2 : Sz lo hi m (tr U) := Sz.tr (by omega) (by omega) hk
    rw [yasq hu0 (by omega)] at hf
    cases fs with
    | nil =>
      obtain ⟨rfl, rfl⟩ := hc
      refine .inr ⟨by simp, r, tl U, tr U, D1, D2, rfl, ?_, ?_, s2.to, ?_, ?_, ?_⟩
      · rw [← hn]; exact g1
      · rw [← hn]; exact g2
      · rw [← hn]; simpa [Lb, Rb] using hf
      · rw [← hn]; exact z1
      · rw [← hn]; exact z2
    | cons f fs =>
      obtain ⟨E1, E2, rfl, hF, hc'⟩ := hc
      obtain ⟨l1, l2, G1, G2, G3, rfl, hnf, aL', aR'⟩ := hF
      have q1 := aL'.len
      have q2 := aR'.len
      refine .inl ⟨m + 1, fs, f.b, f.eL, f.eR, .nd (f.eL ++ mid U :: f.eR) (f.tL ++ tl U :: tr U :: f.tR), E2, G1 + (G2 + (D1 + (D2 + G3))), k :: N', i :: I', by simp, ?_, ?_, hc', ?_, ?_, ?_, sc.2.2.2, ?_, ?_, ?_⟩
      · rw [hN]; simp [blks]
      · rw [hI]; simp [idxs]
      · refine ⟨rfl, .inr ⟨m, r, f.kL ++ [k], f.kR, G1, G2 + (D1 + (D2 + G3)), rfl, rfl, rfl, by simpa using hnf, by simp; omega, by omega, ?_⟩⟩
        show AllH (Hold m) (f.kL ++ [k] ++ r :: f.kR) (f.tL ++ tl U :: tr U :: f.tR) _
        rw [List.append_assoc]
        exact aL'.append ⟨D1, D2 + G3, rfl, g1, D2, G3, rfl, g2, aR'⟩
      · exact s2.to
      · show _ ++ (weave ((f.tL ++ tl U :: tr U :: f.tR).map (flat m)) (f.eL ++ mid U :: f.eR) ++ _) = target
        rw [List.map_append, List.map_cons, yaey _ _ _ _ _ (by simpa using l1), ← hf]
        simp [Lb, Rb, before, yaie, wR]
      · have := sc.1
        cases fs <;> exact this
      · intro m' hm' c hc1
        obtain rfl : m = m' := by omega
        simp only [BT.ts, List.mem_append, List.mem_cons] at hc1
        rcases hc1 with h5 | rfl | rfl | h5
        · exact sc.2.1 c h5
        · exact z1
        · exact z2
        · exact sc.2.2.1 c h5
      · simp only [List.length_cons] at hn; omega
theorem yaub (fs : List Fr) (k : Nat) (N' : List Nat) : (blks fs ++ k :: N').getD fs.length 0 = k := by simp [List.getD, blks]
theorem yasf (fs : List Fr) (i : Int) (I' : List Int) : (idxs fs ++ i :: I').getD fs.length 0 = i := by simp [List.getD, idxs]
end
def PutR (order : Nat) (xs : List E) (tb : Nat) (vis key value : Int) (F : Bag) (h0 : Hp) (v : Value) (h' : Hp) : Prop :=
  ∃ A' X Y, xs = X ++ Y ∧ (∀ x ∈ X, x.1 < key) ∧ (∀ y ∈ Y, key ≤ y.1) ∧ St h0 h' (A' + F) ∧
    ((∃ old Y' w, Y = (key, old) :: Y' ∧ (1 ≤ w ∧ w ≤ 1000) ∧ v = .tuple #[.int .i64 old, .bool true, .int .i64 w, .int .i64 0] ∧ TreeA order (X ++ (key, value) :: Y') tb vis A') ∨
      (yaez Y key = false ∧ 2000 ≤ xs.length ∧ v = .tuple #[.int .i64 0, .bool false, .int .i64 0, .int .i64 4] ∧ TreeA order xs tb vis A') ∨
      (yaez Y key = false ∧ xs.length < 2000 ∧ ∃ w, (1 ≤ w ∧ w ≤ 1000) ∧ v = .tuple #[.int .i64 0, .bool false, .int .i64 w, .int .i64 0] ∧ TreeA order (X ++ (key, value) :: Y) tb vis A'))
theorem yazz {h : Hp} {ta : Addr} {key : Int} (ht : cell h (ta.add 2) = some (.pointer none)) :
    yaak Tryz.prog 84 #[.pointer (some ta), .int .i64 key] h (fun v h' => h' = h ∧ v = .tuple #[.slice none 0 0, .slice none 0 0, .bool false]) := by
  refine zag_call ?_
  rw [zag_b0]
  refine ⟨_, ht, fun st h' => h' = h ∧ st = ((none, 0, 0), (none, 0, 0), none, ()), fun _ _ => 0, ⟨rfl, rfl⟩, ?_⟩
  rintro _ h1 ⟨rfl, rfl⟩
  rw [zag_b1]
  refine yabb rfl ?_
  rw [zag_b3]
  exact ⟨rfl, rfl⟩
theorem yarz {key : Int} {a b : List E} (hb : ∀ x ∈ b, key < x.1) : yaez (a ++ b) key = yaez a key := by
  cases a with
  | cons e a => rfl
  | nil =>
    cases b with
    | nil => rfl
    | cons e b =>
      have := hb e (by simp)
      show decide (e.1 = key) = false
      exact decide_eq_false (by omega)
theorem yasr {n b : Nat} {u : BT} {A : Bag} {eL eR : List E} {e : E} (hh : Hold n b u A) (he : u.es = eL ++ e :: eR) : ∃ WL WR, ∀ e', flat n (.nd (eL ++ e' :: eR) u.ts) = WL ++ e' :: WR := by
  cases n with
  | zero => exact ⟨eL, eR, fun e' => rfl⟩
  | succ n =>
    have hl := hh.len
    rw [he] at hl
    simp only [List.length_append, List.length_cons] at hl
    refine ⟨weave ((u.ts.take (eL.length + 1)).map (flat n)) eL, weave ((u.ts.drop (eL.length + 1)).map (flat n)) eR, fun e' => ?_⟩
    show weave (u.ts.map (flat n)) (eL ++ e' :: eR) = _
    rw [← yanv]
    · rw [← List.map_append, List.take_append_drop]
    · rw [List.length_map, List.length_take]; omega
    · rw [List.length_map, List.length_drop]; omega
theorem ybau (u : BT) : u = .nd u.es u.ts := by cases u; rfl
theorem yapu (eL : List E) (key old value : Int) (eR : List E) : ((eL ++ (key, old) :: eR).map Prod.snd).set eL.length value = (eL ++ (key, value) :: eR).map Prod.snd := by
  rw [List.map_append, List.map_append, List.set_append_right _ _ (by simp)]
  simp
theorem Hold.setVal {h0 h : Hp} {n b : Nat} {u : BT} {A F : Bag} {eL eR : List E} {key old value : Int} {Q : Int → Hp → Prop} (hh : Hold n b u A) (he : u.es = eL ++ (key, old) :: eR) (s : St h0 h (A + F))
    (hk : ∀ h' A', Hold n b (.nd (eL ++ (key, value) :: eR) u.ts) A' → St h0 h' (A' + F) → Q old h') :
    NN (some (⟨b, 0, none⟩ : Addr)) fun a3 => ∃ a4 L1 C1, cell h (a3.add 1) = some (.slice a4 L1 C1) ∧ NN (some (⟨b, 0, none⟩ : Addr)) fun a5 => ∃ a6 L2 C2, cell h (a5.add 1) = some (.slice a6 L2 C2) ∧
      (0 ≤ (eL.length : Int) ∧ (eL.length : Int) < (L2 : Int)) ∧ NN a6 fun a7 => ∃ n2, cell h (a7.add (Int.toNat (eL.length : Int) * 1)) = some (.int .i64 n2) ∧ (0 ≤ (eL.length : Int) ∧ (eL.length : Int) < (L1 : Int)) ∧ NN a4 fun a8 => Wr h (a8.add (Int.toNat (eL.length : Int) * 1)) (.int .i64 value) fun h2 => Q n2 h2 := by
  obtain ⟨ks, A1, A2, rfl, hna, hrest⟩ : ∃ ks A1 A2, A = A1 + A2 ∧ NodeA b u.es ks A1 ∧ ∀ es B, es.length = u.es.length → NodeA b es ks B → Hold n b (.nd es u.ts) (B + A2) := by
    cases n with
    | zero => exact ⟨[], A, 0, (Bag.add_zero A).symm, hh.2, fun es B _ hB => ⟨hh.1, by rw [Bag.add_zero]; exact hB⟩⟩
    | succ n =>
      obtain ⟨ks, A1, A2, e, h1, hl, h2⟩ := hh
      exact ⟨ks, A1, A2, e, h1, fun es B hes hB => ⟨ks, B, A2, rfl, hB, by rw [hl]; show _ = es.length + 1; rw [hes], h2⟩⟩
  obtain ⟨p1, p2, p3, c1, c2, c3, C1, C2, C3, rfl, ns⟩ := hna
  have kb := (s.at (nodeC b u.es.length ks.length p1 p2 p3 c1 c2 c3)).blk
  have hlt : eL.length < u.es.length := by rw [he]; simp
  have s2 : St h0 h (C2 + (nodeC b u.es.length ks.length p1 p2 p3 c1 c2 c3 + (C1 + (C3 + (A2 + F))))) := s.to
  have hg : (u.es.map Prod.snd).getD eL.length 0 = old := by rw [he]; simp [List.getD]
  refine ⟨_, _, _, Blk.cellA kb 1, _, _, _, Blk.cellA kb 1, (ns.s2.rd s2).int (by omega) (by omega) ?_⟩
  rw [Int.toNat_natCast, hg]
  refine ns.s2.wrI s2 (x := value) (by omega) (by omega) rfl rfl fun h2 C2' o2 s3 => ?_
  rw [Int.toNat_natCast, he, yapu, ← he] at o2
  have hel : (eL ++ (key, value) :: eR).length = u.es.length := by rw [he]; simp
  have hef : (eL ++ (key, value) :: eR).map Prod.fst = u.es.map Prod.fst := by rw [he]; simp
  refine hk h2 _ (hrest _ (nodeC b u.es.length ks.length p1 p2 p3 c1 c2 c3 + (C1 + (C2' + C3))) hel ⟨p1, p2, p3, c1, c2, c3, C1, C2', C3, by rw [hel], ⟨by rw [hel, hef]; exact ns.s1, by rw [hel]; exact o2, ns.s3⟩⟩) s3.to
theorem Way.cut {key : Int} {lo hi root n m k : Nat} {t u : BT} {A Ac Au : Bag} {fs : List Fr} {eL eR : List E} (w : Way key lo hi root n t A m fs k u Ac Au) (he : u.es = eL ++ eR) (hl : ∀ e ∈ eL, e.1 < key) (hr : ∀ e ∈ eR, key ≤ e.1) (hm : m = 0) :
    flat n t = (Lb m fs ++ eL) ++ (eR ++ Rb m fs) ∧ (∀ x ∈ Lb m fs ++ eL, x.1 < key) ∧ (∀ y ∈ eR ++ Rb m fs, key ≤ y.1) := by
  subst hm
  refine ⟨?_, ?_, ?_⟩
  · rw [← w.plug, ← w.hgt, yaej u w.ctx.ok]
    show _ ++ (u.es ++ _) = _
    rw [he]; simp
  · intro x hx
    rcases List.mem_append.1 hx with h | h
    · exact w.lt x h
    · exact hl x h
  · intro x hx
    rcases List.mem_append.1 hx with h | h
    · exact hr x h
    · exact Int.le_of_lt (w.gt x h)
theorem ybhr {h0 h : Hp} {order tb : Nat} {xs : List E} {vis key value : Int} {A F : Bag} (hor : 3 ≤ order) (h64 : order ≤ 64) (so : Srt xs) (hmost : xs.length ≤ 2000) (ta : TreeA order xs tb vis A) (s : St h0 h (A + F)) :
    yaak Tryz.prog 50 #[ptr tb, .int .i64 key, .int .i64 value] h (PutR order xs tb vis key value F h0) := by
  refine zah_call ?_
  rw [zah_b0]
  rcases ta with ⟨rfl, rfl⟩ | ⟨n, root, t, A1, rfl, hh, hfl, hsz⟩
  · -- no entries
    refine (yazz (s.cellA 2)).mono fun v1 h1 ⟨hh, hv⟩ => ?_
    subst hh
    refine ⟨_, _, _, _, _, _, _, hv, yabb rfl ⟨_, s.cellA 1, yabb rfl ⟨_, s.cellA 1, ⟨by omega, by omega⟩, ?_⟩⟩⟩
    refine s.wr (o := 1) (yaca _ _ _) (by simp) fun h3 s3 => yacv rfl ?_
    refine s3.new (cs := [.int .i64 key]) fun b1 h4 _ s4 => ?_
    refine s4.new (cs := [.int .i64 value]) fun b2 h5 _ s5 => ?_
    refine s5.new (cs := [.slice (some ⟨b1, 0, none⟩) 1 1, .slice (some ⟨b2, 0, none⟩) 1 1, .slice none 0 0]) fun b3 h6 _ s6 => ?_
    have s6 : St h0 h6 (nodeC b3 1 0 (some ⟨b1, 0, none⟩) (some ⟨b2, 0, none⟩) none 1 1 0 + (cA b2 [.int .i64 value] (TI).e + (cA b1 [.int .i64 key] (TI).e + (treeC tb order 1 none vis + F)))) := s6
    have s7 := s6.to (B := treeC tb order 1 none vis + (nodeC b3 1 0 (some ⟨b1, 0, none⟩) (some ⟨b2, 0, none⟩) none 1 1 0 + (cA b1 [.int .i64 key] (TI).e + (cA b2 [.int .i64 value] (TI).e + F))))
    refine s7.wr (o := 2) (yaca _ _ _) (by simp) fun h7 s8 => ?_
    have s8 : St h0 h7 (treeC tb order 1 (some ⟨b3, 0, none⟩) vis + (nodeC b3 1 0 (some ⟨b1, 0, none⟩) (some ⟨b2, 0, none⟩) none 1 1 0 + (cA b1 [.int .i64 key] (TI).e + (cA b2 [.int .i64 value] (TI).e + F)))) := s8
    refine ⟨_, [], [], rfl, (fun _ h => nomatch h), (fun _ h => nomatch h), s8.to (B := treeC tb order 1 (some ⟨b3, 0, none⟩) vis + (nodeC b3 1 0 (some ⟨b1, 0, none⟩) (some ⟨b2, 0, none⟩) none 1 1 0 + (cA b1 [.int .i64 key] (TI).e + (cA b2 [.int .i64 value] (TI).e + 0))) + F), .inr (.inr ⟨rfl, by simp, 1, ⟨by omega, by omega⟩, rfl, ?_⟩)⟩
    refine .inr ⟨0, b3, .nd [(key, value)] [], _, rfl, ⟨rfl, _, _, _, _, _, _, _, _, _, rfl, ⟨Sl.one rfl, Sl.one rfl, Sl.nil⟩⟩, rfl, ?_⟩
    show 1 ≤ 1 ∧ 1 ≤ order - 1
    omega
  · have hxl : 2 ^ (n + 1) ≤ xs.length + 1 := by rw [← hfl]; exact hsz.low hh (by omega)
    have hn := yava hxl (by omega)
    have s1 : St h0 h (treeC tb order xs.length (some ⟨root, 0, none⟩) vis + (A1 + F)) := s.to
    have so' : Srt (flat n t) := by rw [hfl]; exact so
    refine (ybbd (key := key) (s1.cellA 2) hh (s1.at A1) so' hsz (by omega) (by omega)).mono fun v1 h1 ⟨m, fs, k, u, Ac, Au, eL, eR, q1, q2, d1, d2, B1, B2, hv, sB, o1, o2, w, he, hl, hr, hend⟩ => ?_
    refine ⟨_, _, _, _, _, _, _, hv, ?_⟩
    have hfs := w.hgt
    have s2 : St h0 h1 (B1 + (B2 + (treeC tb order xs.length (some ⟨root, 0, none⟩) vis + (Ac + (Au + F))))) := by have := s1.join sB; rw [w.bag] at this; exact this.to
    have rN := o1.rd s2
    have rI := o2.rd (s2.at B2)
    have gN : (blks fs ++ [k]).getD fs.length 0 = k := yaub fs k []
    have gI : (idxs fs ++ [(eL.length : Int)]).getD fs.length 0 = (eL.length : Int) := yasf fs _ []
    refine yaar (fun hf => ?_) (fun hf => ?_)
    · obtain ⟨old, eR', rfl⟩ : ∃ old eR', eR = (key, old) :: eR' := by
        cases eR with
        | nil => cases hf
        | cons e eR' =>
          have : e.1 = key := of_decide_eq_true hf
          exact ⟨e.2, eR', by rw [← this]⟩
      obtain ⟨WL, WR, hW⟩ := yasr w.sub he
      have hfu : flat m u = WL ++ (key, old) :: WR := by rw [ybau u, he]; exact hW _
      have hsrt := w.srt
      rw [hfu, Srt.app, Srt.con] at hsrt
      have el : ((fs.length + 1 : Nat) : Int) - 1 = (fs.length : Int) := by omega
      refine ⟨⟨by omega, by omega⟩, rN.ptr (by omega) (by omega) ?_⟩
      rw [el, Int.toNat_natCast, gN]
      refine ⟨⟨by omega, by omega⟩, rI.int (by omega) (by omega) ?_⟩
      rw [Int.toNat_natCast, gI]
      refine Hold.setVal w.sub he (s2.to (B := Au + (B1 + (B2 + (treeC tb order xs.length (some ⟨root, 0, none⟩) vis + (Ac + F)))))) fun h2 Au' hu' s3 => ?_
      have hpl : flat n t = Lb m fs ++ ((WL ++ (key, old) :: WR) ++ Rb m fs) := by rw [← w.plug, ← w.hgt, yaej u w.ctx.ok, hfu]
      have hpl2 : flat n (plug fs (.nd (eL ++ (key, value) :: eR') u.ts)) = (Lb m fs ++ WL) ++ (key, value) :: (WR ++ Rb m fs) := by rw [← w.hgt, yaej _ w.ctx.ok, hW]; simp
      refine ⟨treeC tb order xs.length (some ⟨root, 0, none⟩) vis + (Ac + Au'), Lb m fs ++ WL, (key, old) :: (WR ++ Rb m fs), ?_, ?_, ?_, ?_, .inl ⟨old, WR ++ Rb m fs, _, rfl, ⟨?_, ?_⟩, rfl, .inr ⟨n, root, plug fs (.nd (eL ++ (key, value) :: eR') u.ts), Ac + Au', ?_, ?_, hpl2, ?_⟩⟩⟩
      · rw [← hfl, hpl]; simp
      · intro x hx
        rcases List.mem_append.1 hx with h | h
        · exact w.lt x h
        · exact hsrt.2.2 x h (key, old) (by simp)
      · intro x hx
        rcases List.mem_cons.1 hx with rfl | hx
        · exact Int.le_refl _
        · rcases List.mem_append.1 hx with h | h
          · exact Int.le_of_lt (hsrt.2.1.1 x h)
          · exact Int.le_of_lt (w.gt x h)
      · exact (s3.to (B := B1 + B2 + (treeC tb order xs.length (some ⟨root, 0, none⟩) vis + (Ac + Au') + F))).drop
      · omega
      · omega
      · congr 2
        rw [← hfl, hpl]; simp
      · rw [← w.hgt]; exact w.ctx.plug hu'
      · rw [← w.hgt]
        refine w.szc.plug ⟨?_, w.szb.2⟩
        have := w.szb.1
        rw [he] at this
        show _ ≤ (eL ++ (key, value) :: eR').length ∧ (eL ++ (key, value) :: eR').length ≤ _
        simpa using this
    · have hm0 : m = 0 := by rcases hend with h | h; rw [hf] at h; cases h; exact h
      obtain ⟨hcut, hX, hY⟩ := w.cut he hl hr hm0
      have hkey : yaez (eR ++ Rb m fs) key = false := by rw [yarz w.gt]; exact hf
      have hcut' : xs = (Lb m fs ++ eL) ++ (eR ++ Rb m fs) := by rw [← hfl]; exact hcut
      refine ⟨_, (s2.at (treeC tb order xs.length (some ⟨root, 0, none⟩) vis)).cellA 1, condP (fun h5 => ?_) (fun h5 => ?_)⟩
      · refine ⟨treeC tb order xs.length (some ⟨root, 0, none⟩) vis + A1, _, _, hcut', hX, hY, ?_, .inr (.inl ⟨hkey, by omega, rfl, .inr ⟨n, root, t, A1, rfl, hh, hfl, hsz⟩⟩)⟩
        rw [w.bag]
        exact (s2.to (B := B1 + B2 + (treeC tb order xs.length (some ⟨root, 0, none⟩) vis + (Ac + Au) + F))).drop
      refine ⟨_, (s2.at (treeC tb order xs.length (some ⟨root, 0, none⟩) vis)).cellA 1, ⟨by omega, by omega⟩, ?_⟩
      have s3 := s2.to (B := treeC tb order xs.length (some ⟨root, 0, none⟩) vis + (Ac + (Au + ((B1 + B2) + F))))
      refine s3.wr (o := 1) (yaca _ _ _) (by simp) fun h3 s4 => ?_
      have s4 : St h0 h3 (treeC tb order (xs.length + 1) (some ⟨root, 0, none⟩) vis + (Ac + (Au + ((B1 + B2) + F)))) := s4
      refine yabb (decide_eq_false (by omega)) ⟨⟨by omega, by omega⟩, ?_⟩
      have hes : (eL ++ eR).length ≤ order - 1 := by rw [← he]; exact w.szb.1.2
      refine ⟨fun st h' => PutS h0 order ((order + 1) / 2 - 1) (order - 1) n (xs.length + 1) root tb vis (Lb m fs ++ eL ++ (key, value) :: (eR ++ Rb m fs)) (blks fs ++ [k]) (idxs fs ++ [(eL.length : Int)]) (B1 + B2) F (st.1, st.2.1) st.2.2.2.1 st.2.2.2.2.1 h' ∧ st.2.2.1 + st.2.2.2.2.1 = 2 * (fs.length : Int) + 1 ∧ -1 ≤ st.2.2.2.2.1 ∧ st.2.2.2.2.1 ≤ fs.length, fun st _ => (st.2.2.2.2.1 + 1).toNat, ?_, ?_⟩
      · refine ⟨.inl ⟨m, fs, k, eL, eR, .nd (eL ++ (key, value) :: eR) [], Ac, Au, [], [], ?_, rfl, rfl, w.ctx, ⟨rfl, .inl ⟨rfl, hm0, rfl, ?_⟩⟩, s4, ?_, w.szc, ?_, fun m' hm' => by omega, w.hgt⟩, ?_, ?_, ?_⟩
        · show ((fs.length + 1 : Nat) : Int) - 1 = _; omega
        · have := w.sub
          rw [hm0] at this
          rw [← he]; exact this.2
        · rw [hm0]; show _ ++ ((eL ++ (key, value) :: eR) ++ _) = _; simp
        · rw [← he]; exact w.szb.1
        · show ((fs.length + 1 : Nat) : Int) + (((fs.length + 1 : Nat) : Int) - 1) = _; omega
        · show -1 ≤ ((fs.length + 1 : Nat) : Int) - 1; omega
        · show ((fs.length + 1 : Nat) : Int) - 1 ≤ _; omega
      rintro ⟨key', value', visits, right, d, _⟩ h6 ⟨ps, hvd, hd1, hd2⟩
      simp only at ps hvd hd1 hd2
      dsimp only
      rcases ps with ⟨m6, fs6, k6, eL6, eR6, U6, Ac6, Au6, N6, I6, rfl, hN6, hI6, hc6, hp6, s6, hf6, sc6, hes6, hk6, hh6⟩ | ⟨rfl, r, t1, t2, E1, E2, rfl, g1, g2, s6, hf6, z1, z2⟩
      · have rN6 := o1.rd (s6.at B1)
        have rI6 := o2.rd (s6.at B2)
        refine yavn rN6 rI6 (by omega) (by omega) (by rw [hN6]; exact yaub _ _ _) (by rw [hI6]; exact yasf _ _ _) (by omega) hp6 (s6.to (B := Au6 + (treeC tb order (xs.length + 1) (some ⟨root, 0, none⟩) vis + (Ac6 + ((B1 + B2) + F))))) fun h7 Au7 hu7 s7 => ?_
        have hel : U6.es.length = (eL6 ++ eR6).length + 1 := by rw [hp6.1]; simp; omega
        refine yawh (B := B1 + B2) (F := F) (len := xs.length + 1) (vis := vis) rfl rfl hor h64 ⟨by omega, by omega⟩ (by omega) hN6 hI6 hc6 hu7 (s7.to (B := treeC tb order (xs.length + 1) (some ⟨root, 0, none⟩) vis + (Ac6 + (Au7 + ((B1 + B2) + F))))) hf6 (by rw [hcut']; simp; omega) sc6 ⟨by omega, by omega⟩ hk6 hh6 ?_ ?_
        · intro h' A' hA' s'
          exact ⟨A', _, _, hcut', hX, hY, s', .inr (.inr ⟨hkey, by omega, visits, ⟨by omega, by omega⟩, rfl, hA'⟩)⟩
        · intro e right' h' hps
          refine ⟨⟨hps, ?_, ?_, ?_⟩, ?_⟩ <;> simp only <;> omega
      · rw [zah_b1]
        refine yabb (by decide) ?_
        rw [zah_b3]
        refine s6.new (cs := [.int .i64 key']) fun b10 h29 _ s7 => ?_
        refine s7.new (cs := [.int .i64 value']) fun b11 h30 _ s8 => ?_
        refine ⟨_, (s8.at (treeC tb order (xs.length + 1) (some ⟨root, 0, none⟩) vis)).cellA 2, ?_⟩
        refine s8.new (cs := [.pointer (some ⟨root, 0, none⟩), .pointer (some ⟨r, 0, none⟩)]) fun b12 h31 _ s9 => ?_
        refine s9.new (cs := [.slice (some ⟨b10, 0, none⟩) 1 1, .slice (some ⟨b11, 0, none⟩) 1 1, .slice (some ⟨b12, 0, none⟩) 2 2]) fun b13 h32 _ s10 => ?_
        have s10 : St h0 h32 (nodeC b13 1 2 (some ⟨b10, 0, none⟩) (some ⟨b11, 0, none⟩) (some ⟨b12, 0, none⟩) 1 1 2 + (cA b12 [.pointer (some ⟨root, 0, none⟩), .pointer (some ⟨r, 0, none⟩)] (TP).e + (cA b11 [.int .i64 value'] (TI).e + (cA b10 [.int .i64 key'] (TI).e + (treeC tb order (xs.length + 1) (some ⟨root, 0, none⟩) vis + (E1 + (E2 + (B1 + B2 + F)))))))) := s10
        have s11 := s10.to (B := treeC tb order (xs.length + 1) (some ⟨root, 0, none⟩) vis + ((B1 + B2) + (nodeC b13 1 2 (some ⟨b10, 0, none⟩) (some ⟨b11, 0, none⟩) (some ⟨b12, 0, none⟩) 1 1 2 + (cA b10 [.int .i64 key'] (TI).e + (cA b11 [.int .i64 value'] (TI).e + cA b12 [.pointer (some ⟨root, 0, none⟩), .pointer (some ⟨r, 0, none⟩)] (TP).e)) + (E1 + E2)) + F))
        refine s11.wr (o := 2) (yaca _ _ _) (by simp) fun h33 s12 => ?_
        have s12 : St h0 h33 (treeC tb order (xs.length + 1) (some ⟨b13, 0, none⟩) vis + ((B1 + B2) + (nodeC b13 1 2 (some ⟨b10, 0, none⟩) (some ⟨b11, 0, none⟩) (some ⟨b12, 0, none⟩) 1 1 2 + (cA b10 [.int .i64 key'] (TI).e + (cA b11 [.int .i64 value'] (TI).e + cA b12 [.pointer (some ⟨root, 0, none⟩), .pointer (some ⟨r, 0, none⟩)] (TP).e)) + (E1 + E2)) + F)) := s12
        have hvd' : visits = 2 * (fs.length : Int) + 2 := by omega
        have hlen2 : (Lb m fs ++ eL ++ (key, value) :: (eR ++ Rb m fs)).length = xs.length + 1 := by rw [hcut']; simp; omega
        refine ⟨⟨by omega, by omega⟩, _, _, _, hcut', hX, hY, (s12.to (B := (B1 + B2) + (treeC tb order (xs.length + 1) (some ⟨b13, 0, none⟩) vis + (nodeC b13 1 2 (some ⟨b10, 0, none⟩) (some ⟨b11, 0, none⟩) (some ⟨b12, 0, none⟩) 1 1 2 + (cA b10 [.int .i64 key'] (TI).e + (cA b11 [.int .i64 value'] (TI).e + cA b12 [.pointer (some ⟨root, 0, none⟩), .pointer (some ⟨r, 0, none⟩)] (TP).e)) + (E1 + E2)) + F))).drop, .inr (.inr ⟨hkey, by omega, visits + 1, ⟨by omega, by omega⟩, rfl, ?_⟩)⟩
        have hH : Hold (n + 1) b13 (.nd [(key', value')] [t1, t2]) (nodeC b13 1 2 (some ⟨b10, 0, none⟩) (some ⟨b11, 0, none⟩) (some ⟨b12, 0, none⟩) 1 1 2 + (cA b10 [.int .i64 key'] (TI).e + (cA b11 [.int .i64 value'] (TI).e + cA b12 [.pointer (some ⟨root, 0, none⟩), .pointer (some ⟨r, 0, none⟩)] (TP).e)) + (E1 + E2)) :=
          ⟨[root, r], _, E1 + E2, rfl, ⟨_, _, _, _, _, _, _, _, _, rfl, ⟨Sl.one rfl, Sl.one rfl, Sl.of_blk rfl rfl⟩⟩, rfl, ⟨E1, E2, rfl, g1, E2, 0, (Bag.add_zero _).symm, g2, rfl⟩⟩
        refine .inr ⟨n + 1, b13, .nd [(key', value')] [t1, t2], _, by rw [hlen2], hH, ?_, ?_⟩
        · rw [← hf6]; simp [flat, weave, wR, BT.es, BT.ts]
        · refine ⟨?_, ?_⟩
          · show 1 ≤ 1 ∧ 1 ≤ order - 1
            omega
          · intro c hc
            simp only [BT.ts, List.mem_cons, List.not_mem_nil, or_false] at hc
            rcases hc with rfl | rfl
            · exact z1
            · exact z2
def lowS (xs : List E) (key : Int) : List E := xs.takeWhile fun e => decide (e.1 < key)
def upS (xs : List E) (key : Int) : List E := xs.dropWhile fun e => decide (e.1 < key)
theorem yatb {X Y : List E} {key : Int} (hx : ∀ x ∈ X, x.1 < key) (hy : ∀ y ∈ Y, key ≤ y.1) : lowS (X ++ Y) key = X ∧ upS (X ++ Y) key = Y := by
  have h1 : ∀ x ∈ X, decide (x.1 < key) = true := fun x h => decide_eq_true (hx x h)
  have h2 : Y.takeWhile (fun e => decide (e.1 < key)) = [] ∧ Y.dropWhile (fun e => decide (e.1 < key)) = Y := by
    cases Y with
    | nil => exact ⟨rfl, rfl⟩
    | cons y Y =>
      have : ¬ y.1 < key := by have := hy y (by simp); omega
      simp [this]
  constructor
  · rw [lowS, List.takeWhile_append_of_pos h1, h2.1, List.append_nil]
  · rw [upS, List.dropWhile_append_of_pos h1, h2.2]
def valOf : List E → Int | [] => 0 | e :: _ => e.2
theorem ybib {X Y : List E} {key : Int} {xs : List E} (h : xs = X ++ Y) (hx : ∀ x ∈ X, x.1 < key) (hy : ∀ y ∈ Y, key ≤ y.1) : X = lowS xs key ∧ Y = upS xs key := by
  subst h
  exact ⟨(yatb hx hy).1.symm, (yatb hx hy).2.symm⟩
def putS (xs : List E) (key value : Int) : List E × Int × Bool × Int :=
  if KeyP key ∧ KeyP value then
    (if yaez (upS xs key) key = true then (lowS xs key ++ (key, value) :: (upS xs key).tail, valOf (upS xs key), true, 0)
     else if 2000 ≤ xs.length then (xs, 0, false, 4) else (lowS xs key ++ (key, value) :: upS xs key, 0, false, 0))
  else (xs, 0, false, 1)
theorem TreeA.vis {order tb : Nat} {xs : List E} {vis : Int} {A : Bag} (ta : TreeA order xs tb vis A) : ∃ root A1, A = treeC tb order xs.length root vis + A1 ∧ ∀ vis', TreeA order xs tb vis' (treeC tb order xs.length root vis' + A1) := by
  rcases ta with ⟨rfl, rfl⟩ | ⟨n, root, t, A1, rfl, hh, hf, hs⟩
  · exact ⟨none, 0, (Bag.add_zero _).symm, fun vis' => .inl ⟨rfl, Bag.add_zero _⟩⟩
  · exact ⟨_, A1, rfl, fun vis' => .inr ⟨n, root, t, A1, rfl, hh, hf, hs⟩⟩
theorem yarl {xs : List E} {key : Int} : xs = lowS xs key ++ upS xs key := (List.takeWhile_append_dropWhile).symm
theorem ybew {h0 h : Hp} {order tb : Nat} {xs : List E} {vis key value : Int} {A F : Bag} (hor : 3 ≤ order) (h64 : order ≤ 64) (so : Srt xs) (hmost : xs.length ≤ 2000) (hvis : 0 ≤ vis ∧ vis ≤ 1000000000000) (ta : TreeA order xs tb vis A) (s : St h0 h (A + F)) :
    yaak Tryz.prog 14 #[ptr tb, .int .i64 key, .int .i64 value] h (fun v h' => ∃ A' vis', ((vis ≤ vis' ∧ vis' ≤ vis + 1000) ∧ ((putS xs key value).2.2.2 = 0 → vis < vis')) ∧
      v = .tuple #[.int .i64 (putS xs key value).2.1, .bool (putS xs key value).2.2.1, .int .i64 (putS xs key value).2.2.2] ∧ TreeA order (putS xs key value).1 tb vis' A' ∧ St h0 h' (A' + F)) := by
  refine zad_call ?_
  rw [zad_b0]
  refine yabb rfl ?_
  refine s.new (cs := [.int .i64 key, .int .i64 value]) fun b h1 _ s1 => ?_
  refine (yawv s1.blk).mono fun v1 h2 ⟨hh, hv⟩ => ?_
  subst hh
  refine ⟨_, hv, condN (fun hk => ?_) (fun hk => ?_)⟩
  · rw [putS, if_neg hk]
    exact ⟨A, vis, ⟨⟨by omega, by omega⟩, fun h => by cases h⟩, rfl, ta, s1.drop⟩
  · rw [zad_b1]
    refine (ybhr (key := key) (value := value) hor h64 so hmost ta s1.drop).mono fun v2 h3 ⟨A', X, Y, hxy, hX, hY, s3, hr⟩ => ?_
    obtain ⟨eX, eY⟩ := ybib hxy hX hY
    rw [putS, if_pos hk]
    rcases hr with ⟨old, Y', w, rfl, hw, hv2, ta'⟩ | ⟨hf, hle, hv2, ta'⟩ | ⟨hf, hlt, w, hw, hv2, ta'⟩
    · obtain ⟨root, A1, rfl, hvs⟩ := ta'.vis
      have s4 := s3.to (B := treeC tb order (X ++ (key, value) :: Y').length root vis + (A1 + F))
      refine ⟨_, _, _, _, hv2, _, s4.cellA 3, ⟨by omega, by omega⟩, ?_⟩
      refine s4.wr (o := 3) (yaca _ _ _) (by simp) fun h4 s5 => ?_
      have hk' : yaez (upS xs key) key = true := by rw [← eY]; exact decide_eq_true rfl
      rw [if_pos hk', ← eX, ← eY]
      exact ⟨_, vis + w, ⟨⟨by omega, by omega⟩, fun _ => by omega⟩, rfl, hvs _, s5.to⟩
    · obtain ⟨root, A1, rfl, hvs⟩ := ta'.vis
      have s4 := s3.to (B := treeC tb order xs.length root vis + (A1 + F))
      refine ⟨_, _, _, _, hv2, _, s4.cellA 3, ⟨by omega, by omega⟩, ?_⟩
      refine s4.wr (o := 3) (yaca _ _ _) (by simp) fun h4 s5 => ?_
      rw [if_neg (by rw [← eY, hf]; simp), if_pos hle]
      exact ⟨_, vis + 0, ⟨⟨by omega, by omega⟩, fun h => by cases h⟩, rfl, hvs _, s5.to⟩
    · obtain ⟨root, A1, rfl, hvs⟩ := ta'.vis
      have s4 := s3.to (B := treeC tb order (X ++ (key, value) :: Y).length root vis + (A1 + F))
      refine ⟨_, _, _, _, hv2, _, s4.cellA 3, ⟨by omega, by omega⟩, ?_⟩
      refine s4.wr (o := 3) (yaca _ _ _) (by simp) fun h4 s5 => ?_
      rw [if_neg (by rw [← eY, hf]; simp), if_neg (by omega), ← eX, ← eY]
      exact ⟨_, vis + w, ⟨⟨by omega, by omega⟩, fun _ => by omega⟩, rfl, hvs _, s5.to⟩
theorem Way.found {key : Int} {lo hi root n m k : Nat} {t u : BT} {A Ac Au : Bag} {fs : List Fr} {eL eR : List E} {old : Int} (w : Way key lo hi root n t A m fs k u Ac Au) (he : u.es = eL ++ (key, old) :: eR) :
    ∃ X Y, flat n t = X ++ (key, old) :: Y ∧ (∀ x ∈ X, x.1 < key) ∧ (∀ y ∈ Y, key ≤ y.1) := by
  obtain ⟨WL, WR, hW⟩ := yasr w.sub he
  have hfu : flat m u = WL ++ (key, old) :: WR := by rw [ybau u, he]; exact hW _
  have hsrt := w.srt
  rw [hfu, Srt.app, Srt.con] at hsrt
  refine ⟨Lb m fs ++ WL, WR ++ Rb m fs, ?_, ?_, ?_⟩
  · rw [← w.plug, ← w.hgt, yaej u w.ctx.ok, hfu]; simp
  · intro x hx
    rcases List.mem_append.1 hx with h | h
    · exact w.lt x h
    · exact hsrt.2.2 x h (key, old) (by simp)
  · intro x hx
    rcases List.mem_append.1 hx with h | h
    · exact Int.le_of_lt (hsrt.2.1.1 x h)
    · exact Int.le_of_lt (w.gt x h)
theorem Hold.read {h0 h : Hp} {n b : Nat} {u : BT} {A F : Bag} (hh : Hold n b u A) (s : St h0 h (A + F)) : ∃ p1 p2 p3 c1 c2 c3 m3, Blk h b [.slice p1 u.es.length c1, .slice p2 u.es.length c2, .slice p3 m3 c3] 177 ∧ RdT TI h p1 u.es.length (u.es.map Prod.fst) ∧ RdT TI h p2 u.es.length (u.es.map Prod.snd) ∧
    yaak Tryz.prog 90 #[ptr b] h (fun v h' => h' = h ∧ v = .bool (decide (n = 0))) := by
  obtain ⟨ks, A1, A2, rfl, hna, hk0, _⟩ := hh.node
  have hna0 := hna
  obtain ⟨p1, p2, p3, c1, c2, c3, C1, C2, C3, rfl, ns⟩ := hna
  have s1 := s.to (B := nodeC b u.es.length ks.length p1 p2 p3 c1 c2 c3 + (C1 + (C2 + C3)) + (A2 + F))
  refine ⟨p1, p2, p3, c1, c2, c3, ks.length, (s.at (nodeC b u.es.length ks.length p1 p2 p3 c1 c2 c3)).blk, ns.s1.rd (s.at C1), ns.s2.rd (s.at C2), ?_⟩
  refine (yajj s1 hna0).mono fun v h' ⟨hh, hv⟩ => ⟨hh, ?_⟩
  rw [hv]
  congr 1
  exact decide_eq_decide.2 hk0
theorem Way.kid {h0 h : Hp} {key : Int} {lo hi root n m k : Nat} {t u : BT} {A Ac Au F : Bag} {f : Fr} {fs : List Fr} {Q : OA → Prop} (w : Way key lo hi root n t A m (f :: fs) k u Ac Au) (s : St h0 h (A + F)) (hl : f.kL.length = f.eL.length) (hq : Q (some ⟨k, 0, none⟩)) :
    NN (some (⟨f.b, 0, none⟩ : Addr)) fun a => ∃ a16 L5 C5, cell h (a.add 2) = some (.slice a16 L5 C5) ∧ (0 ≤ (f.eL.length : Int) ∧ (f.eL.length : Int) < (L5 : Int)) ∧ NN a16 fun a17 => ∃ p2 : OA, cell h (a17.add (Int.toNat (f.eL.length : Int) * 1)) = some (.pointer p2) ∧ Q p2 := by
  have hb := w.bag
  obtain ⟨D1, D2, rfl, hF, _⟩ := w.ctx
  have sF : St h0 h (D1 + (D2 + (Au + F))) := (hb ▸ s : St h0 h (D1 + D2 + Au + F)).to
  obtain ⟨q, L, C, hc, rp, hlen⟩ := hF.kid sF
  have hgl : (f.kL ++ k :: f.kR).getD f.eL.length 0 = k := by simp [List.getD, ← hl]
  refine ⟨_, _, C, hc, rp.ptr (by omega) (by rw [hlen, List.length_append, List.length_cons]; omega) ?_⟩
  rw [Int.toNat_natCast, hgl]
  exact hq
theorem ybfi {xs : List E} {key : Int} : ∀ e ∈ lowS xs key, e.1 < key := fun e he => of_decide_eq_true (List.all_eq_true.1 List.all_takeWhile e he)
section
variable {h0 h : Hp} {order tb : Nat} {xs : List E} {vis key : Int} {A F : Bag} (hor : 3 ≤ order) (h64 : order ≤ 64) (so : Srt xs) (hmost : xs.length ≤ 2000) (hvis : 0 ≤ vis ∧ vis ≤ 1000000000000) (ta : TreeA order xs tb vis A) (s : St h0 h (A + F))
include hor h64 so hmost hvis ta s
end
theorem ybhs {order : Int} {h : Hp} : yaak Tryz.prog 8 #[.int .i64 order] h (fun v h' => if order < 3 ∨ 64 < order then h' = h ∧ v = .tuple #[.pointer none, .int .i64 2] else ∃ tb A, v = .tuple #[ptr tb, .int .i64 0] ∧ TreeA order.toNat [] tb 0 A ∧ St h h' A) := by
  refine zac_call ?_
  rw [zac_b0]
  refine condP (fun h1 => ?_) (fun h1 => condP (fun h2 => ?_) (fun h2 => ?_))
  · rw [if_pos (.inl h1)]; exact ⟨rfl, rfl⟩
  · rw [if_pos (.inr h2)]; exact ⟨rfl, rfl⟩
  · rw [zac_b1]
    have e : order = (order.toNat : Int) := by omega
    refine (St.start h).new (cs := [.int .i64 order, .int .i64 0, .pointer none, .int .i64 0]) fun b h' _ s' => ?_
    show ite _ _ _
    rw [if_neg (by omega)]
    refine ⟨b, _, rfl, .inl ⟨rfl, rfl⟩, ?_⟩
    rw [treeC, ← e]
    exact s'.to
section
variable {σ : Type}
def runW (st : σ → E → σ × Bool) : σ → List E → σ × Bool
  | s, [] => (s, true)
  | s, e :: es => match st s e with
    | (s', true) => runW st s' es
    | (s', false) => (s', false)
theorem yang (st : σ → E → σ × Bool) : ∀ (a b : List E) (s : σ), runW st s (a ++ b) = match runW st s a with | (s', true) => runW st s' b | (s', false) => (s', false)
  | [], b, s => rfl
  | e :: a, b, s => by
    simp only [List.cons_append, runW]
    rcases st s e with ⟨s', _ | _⟩
    · rfl
    · exact yang st a b s'
theorem yadw {st : σ → E → σ × Bool} {a b : List E} {s s' : σ} (h : runW st s a = (s', true)) : runW st s (a ++ b) = runW st s' b := by rw [yang, h]
theorem yair {st : σ → E → σ × Bool} {a b : List E} {s s' : σ} (h : runW st s a = (s', false)) : runW st s (a ++ b) = (s', false) := by rw [yang, h]
def pre : Nat → BT → Nat → List E
  | 0, t, i => t.es.take i
  | n + 1, t, i => wL ((t.ts.take i).map (flat n)) (t.es.take i)
abbrev nilT : BT := .nd [] []
theorem yazw {n : Nat} {t : BT} {i : Nat} (hl : t.ts.length = t.es.length + 1) (hi : i < t.es.length) : pre (n + 1) t (i + 1) = pre (n + 1) t i ++ (flat n (t.ts.getD i nilT) ++ [t.es.getD i (0, 0)]) := by
  have h1 : i < t.ts.length := by omega
  have e1 : t.ts.take (i + 1) = t.ts.take i ++ [t.ts.getD i nilT] := by
    rw [List.take_succ_eq_append_getElem h1]; simp [List.getD, h1]
  have e2 : t.es.take (i + 1) = t.es.take i ++ [t.es.getD i (0, 0)] := by
    rw [List.take_succ_eq_append_getElem hi]; simp [List.getD, hi]
  simp only [pre]
  rw [e1, e2, List.map_append, yaok _ _ _ _ (by rw [List.length_map, List.length_take, List.length_take]; omega)]
  simp [wL]
theorem ybag {n : Nat} {t : BT} (hl : t.ts.length = t.es.length + 1) : flat (n + 1) t = pre (n + 1) t t.es.length ++ flat n (t.ts.getD t.es.length nilT) := by
  have h1 : t.es.length < t.ts.length := by omega
  have e1 : t.ts = t.ts.take t.es.length ++ [t.ts.getD t.es.length nilT] := by
    have : t.ts.getD t.es.length nilT = t.ts[t.es.length] := by simp [List.getD, h1]
    rw [this, ← List.take_succ_eq_append_getElem h1, List.take_of_length_le (by omega)]
  show weave (t.ts.map (flat n)) t.es = wL _ (t.es.take t.es.length) ++ _
  conv => lhs; rw [e1]
  rw [List.map_append, List.take_of_length_le (Nat.le_refl _)]
  have := yaey ((t.ts.take t.es.length).map (flat n)) t.es (flat n (t.ts.getD t.es.length nilT)) [] [] (by rw [List.length_map, List.length_take]; omega)
  rw [List.append_nil] at this
  rw [show List.map (flat n) [t.ts.getD t.es.length nilT] = [flat n (t.ts.getD t.es.length nilT)] from rfl, this]
  simp [wR]
theorem yawy {n : Nat} {t : BT} {i : Nat} (hl : t.ts.length = t.es.length + 1) (hi : i < t.es.length) : ∃ rest, flat (n + 1) t = pre (n + 1) t i ++ (flat n (t.ts.getD i nilT) ++ (t.es.getD i (0, 0) :: rest)) := by
  have h1 : i < t.ts.length := by omega
  have e1 : t.ts = t.ts.take i ++ t.ts.getD i nilT :: t.ts.drop (i + 1) := by
    have : t.ts.getD i nilT = t.ts[i] := by simp [List.getD, h1]
    rw [this, ← List.drop_eq_getElem_cons h1, List.take_append_drop]
  have e2 : t.es = t.es.take i ++ t.es.getD i (0, 0) :: t.es.drop (i + 1) := by
    have : t.es.getD i (0, 0) = t.es[i] := by simp [List.getD, hi]
    rw [this, ← List.drop_eq_getElem_cons hi, List.take_append_drop]
  obtain ⟨k, kR, hk⟩ : ∃ k kR, t.ts.drop (i + 1) = k :: kR := by
    cases h : t.ts.drop (i + 1) with
    | nil => have := congrArg List.length h; rw [List.length_drop] at this; simp at this; omega
    | cons k kR => exact ⟨k, kR, rfl⟩
  rw [hk] at e1
  have := yaey ((t.ts.take i).map (flat n)) (t.es.take i) (flat n (t.ts.getD i nilT)) ((k :: kR).map (flat n)) (t.es.getD i (0, 0) :: t.es.drop (i + 1)) (by rw [List.length_map, List.length_take, List.length_take]; omega)
  refine ⟨flat n k ++ wR (t.es.drop (i + 1)) (kR.map (flat n)), ?_⟩
  show weave (t.ts.map (flat n)) t.es = _
  conv => lhs; rw [e1, e2]
  rw [List.map_append, List.map_cons, this]
  rfl
def Fun1 (h0 : Hp) (g : Nat) (cap : Array Value) (st : σ → E → σ × Bool) (Inv : σ → Bag → Prop) (Ok : σ → Prop) : Prop :=
  ∀ (s : σ) (C : Bag) (h : Hp) (e : E) (G : Bag), Ok s → Inv s C → St h0 h (C + G) → yaak Tryz.prog g (([.int .i64 e.1, .int .i64 e.2] : List Value) ++ cap.toList).toArray h (fun v h' => ∃ C', v = .bool (st s e).2 ∧ Inv (st s e).1 C' ∧ St h0 h' (C' + G))
theorem yakz {st : σ → E → σ × Bool} {Ok : σ → Prop} (hok : ∀ s e, Ok s → (st s e).2 = true → Ok (st s e).1) : ∀ (l : List E) (s s' : σ), Ok s → runW st s l = (s', true) → Ok s'
  | [], s, s', h, hr => by cases hr; exact h
  | e :: l, s, s', h, hr => by
    simp only [runW] at hr
    have := hok s e h
    rcases hst : st s e with ⟨s2, _ | _⟩
    · rw [hst] at hr; cases hr
    · rw [hst] at hr this; exact yakz hok l s2 s' (this rfl) hr
theorem ybdl {h0 : Hp} {g : Nat} {cap : Array Value} {st : σ → E → σ × Bool} {Inv : σ → Bag → Prop} {Ok : σ → Prop} (hok : ∀ s e, Ok s → (st s e).2 = true → Ok (st s e).1) (hg : F g = true) (hf : Fun1 h0 g cap st Inv Ok) {lo hi : Nat} (hhi : hi ≤ 1000) :
    ∀ (n : Nat) {b : Nat} {t : BT} {A : Bag} {s : σ} {C : Bag} {h : Hp} {G : Bag}, Hold n b t A → Sz lo hi n t → Ok s → Inv s C → St h0 h (A + (C + G)) →
      yaak Tryz.prog 53 #[ptr b, .func (.func g) #[] cap] h (fun v h' => ∃ C', v = .bool (runW st s (flat n t)).2 ∧ Inv (runW st s (flat n t)).1 C' ∧ St h0 h' (A + (C' + G))) := by
  intro n
  induction n with
  | zero =>
    intro b t A s C h G hh hz hos hi0 hs
    obtain ⟨ht, hna⟩ := hh
    have hna0 := hna
    obtain ⟨p1, p2, p3, c1, c2, c3, C1, C2, C3, rfl, ns⟩ := hna
    have hze := hz.here
    refine zaj_call ?_
    rw [zaj_b0]
    refine yabb rfl ⟨_, _, _, (hs.at (nodeC b t.es.length ([] : List Nat).length p1 p2 p3 c1 c2 c3)).cell 0, ?_⟩
    refine ⟨fun x h' => ∃ (i : Nat) (s' : σ) (C' : Bag), x.1 = i ∧ i ≤ t.es.length ∧ runW st s (t.es.take i) = (s', true) ∧ Inv s' C' ∧ St h0 h' (nodeC b t.es.length ([] : List Nat).length p1 p2 p3 c1 c2 c3 + (C1 + (C2 + C3)) + (C' + G)), fun x _ => t.es.length - x.1.toNat, ⟨0, s, C, rfl, by omega, rfl, hi0, hs⟩, ?_⟩
    rintro ⟨_, _⟩ h1 ⟨i, s1, D, rfl, hil, hrun, hi1, hs1⟩
    dsimp only
    rw [zaj_b1]
    have k1 := (hs1.at (nodeC b t.es.length ([] : List Nat).length p1 p2 p3 c1 c2 c3))
    refine condP (fun hlt => ?_) (fun hge => ?_)
    · have hlt' : i < t.es.length := by omega
      refine (ns.s1.rd (hs1.at C1)).int (by omega) (by omega) ?_
      rw [Int.toNat_natCast]
      refine (yajj hs1 hna0).mono fun v1 h2 ⟨hh2, hv1⟩ => ?_
      subst hh2
      refine ⟨_, hv1, yabb rfl ⟨_, _, _, k1.cellA 1, (ns.s2.rd (hs1.at C2)).int (by omega) (by omega) ?_⟩⟩
      rw [Int.toNat_natCast]
      show callX Tryz.prog F g _ _ _
      refine yamy hg ?_
      have hg1 : (t.es.map Prod.fst).getD i 0 = (t.es.getD i (0, 0)).1 := by simp [List.getD, hlt']
      have hg2 : (t.es.map Prod.snd).getD i 0 = (t.es.getD i (0, 0)).2 := by simp [List.getD, hlt']
      rw [hg1, hg2]
      have e2 : t.es.take (i + 1) = t.es.take i ++ [t.es.getD i (0, 0)] := by
        rw [List.take_succ_eq_append_getElem hlt']; simp [List.getD, hlt']
      have e3 : t.es = t.es.take i ++ ([t.es.getD i (0, 0)] ++ t.es.drop (i + 1)) := by rw [← List.append_assoc, ← e2, List.take_append_drop]
      refine (hf s1 D h2 (t.es.getD i (0, 0)) (nodeC b t.es.length ([] : List Nat).length p1 p2 p3 c1 c2 c3 + (C1 + (C2 + C3)) + G) (yakz hok _ _ _ hos hrun) hi1 (hs1.to (B := D + (nodeC b t.es.length ([] : List Nat).length p1 p2 p3 c1 c2 c3 + (C1 + (C2 + C3)) + G)))).mono fun v3 h3 ⟨D', hv3, hi3, hs3⟩ => ?_
      have hs3 := hs3.to (B := nodeC b t.es.length ([] : List Nat).length p1 p2 p3 c1 c2 c3 + (C1 + (C2 + C3)) + (D' + G))
      refine ⟨_, hv3, yaar (fun hb => ?_) (fun hb => ?_)⟩
      · have hb' : (st s1 (t.es.getD i (0, 0))).2 = false := by simpa using hb
        have hr : runW st s (flat 0 t) = ((st s1 (t.es.getD i (0, 0))).1, false) := by
          show runW st s t.es = _
          conv => lhs; rw [e3]
          rw [yadw hrun]
          refine yair ?_
          simp only [runW]
          rcases hst : st s1 (t.es.getD i (0, 0)) with ⟨s2, _ | _⟩
          · rfl
          · rw [hst] at hb'; cases hb'
        rw [hr]
        exact ⟨D', rfl, hi3, hs3⟩
      · have hb' : (st s1 (t.es.getD i (0, 0))).2 = true := by simpa using hb
        rw [zaj_b2]
        refine ⟨⟨by omega, by omega⟩, ⟨i + 1, _, D', by simp only; omega, by omega, ?_, hi3, hs3⟩, by simp only; omega⟩
        rw [e2, yadw hrun]
        simp only [runW]
        rcases hst : st s1 (t.es.getD i (0, 0)) with ⟨s2, _ | _⟩
        · rw [hst] at hb'; cases hb'
        · rfl
    · have : i = t.es.length := by omega
      subst this
      rw [List.take_of_length_le (Nat.le_refl _)] at hrun
      have hrun' : runW st s (flat 0 t) = (s1, true) := hrun
      rw [zaj_b3]
      refine ⟨true, (yajj hs1 hna0).mono fun v5 h6 ⟨hh6, hv5⟩ => ⟨hv5, hh6⟩, yacv rfl ?_⟩
      rw [hrun']
      exact ⟨D, rfl, hi1, hs1⟩
  | succ n ih =>
    intro b t A s C h G hh hz hos hi0 hs
    have hlen := hh.len
    obtain ⟨ks, A1, A2, rfl, hna, hkl, hall⟩ := hh
    have hna0 := hna
    obtain ⟨p1, p2, p3, c1, c2, c3, C1, C2, C3, rfl, ns⟩ := hna
    have hze := hz.here
    refine zaj_call ?_
    rw [zaj_b0]
    refine yabb rfl ⟨_, _, _, (hs.at (nodeC b t.es.length ks.length p1 p2 p3 c1 c2 c3)).cell 0, ?_⟩
    have kid : ∀ (i : Nat), i < ks.length → ∀ (s1 : σ) (D : Bag) (h1 : Hp), Ok s1 → Inv s1 D → St h0 h1 (nodeC b t.es.length ks.length p1 p2 p3 c1 c2 c3 + (C1 + (C2 + C3)) + A2 + (D + G)) →
        yaak Tryz.prog 53 #[ptr (ks.getD i 0), .func (.func g) #[] cap] h1 (fun v h' => ∃ C', v = .bool (runW st s1 (flat n (t.ts.getD i nilT))).2 ∧ Inv (runW st s1 (flat n (t.ts.getD i nilT))).1 C' ∧ St h0 h' (nodeC b t.es.length ks.length p1 p2 p3 c1 c2 c3 + (C1 + (C2 + C3)) + A2 + (C' + G))) := by
      intro i hi' s1 D h1 ho1 hi1 hs1
      obtain ⟨Ai, B2, hA2, hk⟩ := hall.pick (d := nilT) (d' := 0) hi'
      have hzk : Sz lo hi n (t.ts.getD i nilT) := by
        have h2 : i < t.ts.length := by omega
        have : t.ts.getD i nilT = t.ts[i] := by simp [List.getD, h2]
        rw [this]; exact hz.2 _ (List.getElem_mem h2)
      have hs2 : St h0 h1 (Ai + (D + (nodeC b t.es.length ks.length p1 p2 p3 c1 c2 c3 + (C1 + (C2 + C3)) + (B2 + G)))) := by rw [hA2] at hs1; exact hs1.to
      refine (ih hk hzk ho1 hi1 hs2).mono fun v h' ⟨C', hv, hi2, hs3⟩ => ⟨C', hv, hi2, ?_⟩
      rw [hA2]; exact hs3.to
    refine ⟨fun x h' => ∃ (i : Nat) (s' : σ) (C' : Bag), x.1 = i ∧ i ≤ t.es.length ∧ runW st s (pre (n + 1) t i) = (s', true) ∧ Inv s' C' ∧ St h0 h' (nodeC b t.es.length ks.length p1 p2 p3 c1 c2 c3 + (C1 + (C2 + C3)) + A2 + (C' + G)), fun x _ => t.es.length - x.1.toNat, ⟨0, s, C, rfl, by omega, rfl, hi0, hs⟩, ?_⟩
    rintro ⟨_, _⟩ h1 ⟨i, s1, D, rfl, hil, hrun, hi1, hs1⟩
    dsimp only
    rw [zaj_b1]
    have lf : ∀ {h2 : Hp} {D : Bag}, St h0 h2 (nodeC b t.es.length ks.length p1 p2 p3 c1 c2 c3 + (C1 + (C2 + C3)) + A2 + (D + G)) → yaak Tryz.prog 90 #[ptr b] h2 (fun v h' => h' = h2 ∧ v = .bool false) := fun {h2 D} hs2 =>
      (yajj (hs2.to (B := nodeC b t.es.length ks.length p1 p2 p3 c1 c2 c3 + (C1 + (C2 + C3)) + (A2 + (D + G)))) hna0).mono fun v h' ⟨hh, hv⟩ => ⟨hh, by rw [hv, decide_eq_false (by omega)]⟩
    refine condP (fun hlt => ?_) (fun hge => ?_)
    · have hlt' : i < t.es.length := by omega
      refine (ns.s1.rd (hs1.at C1)).int (by omega) (by omega) ?_
      rw [Int.toNat_natCast]
      refine (lf hs1).mono fun v1 h2 ⟨hh2, hv1⟩ => ?_
      subst hh2
      refine ⟨_, hv1, yacv rfl ⟨_, _, _, (hs1.at (nodeC b t.es.length ks.length p1 p2 p3 c1 c2 c3)).cellA 2, (ns.s3.rd (hs1.at C3)).ptr (by omega) (by omega) ?_⟩⟩
      rw [Int.toNat_natCast]
      have hrp := yazw (n := n) hlen hlt'
      refine (kid i (by omega) s1 D h2 (yakz hok _ _ _ hos hrun) hi1 hs1).mono fun v2 h3 ⟨D2, hv2, hi2, hs2⟩ => ?_
      refine ⟨_, hv2, yaar (fun hb => ?_) (fun hb => ?_)⟩
      · -- it ends in the child
        have hb' : (runW st s1 (flat n (t.ts.getD i nilT))).2 = false := by simpa using hb
        have hr : runW st s (flat (n + 1) t) = ((runW st s1 (flat n (t.ts.getD i nilT))).1, false) := by
          obtain ⟨rest, hrest⟩ : ∃ rest, flat (n + 1) t = pre (n + 1) t i ++ (flat n (t.ts.getD i nilT) ++ rest) := ⟨_, (yawy hlen hlt').choose_spec⟩
          rw [hrest, yadw hrun]
          refine yair ?_
          rcases hst : runW st s1 (flat n (t.ts.getD i nilT)) with ⟨s2, _ | _⟩
          · rfl
          · rw [hst] at hb'; cases hb'
        rw [hr]
        exact ⟨D2, rfl, hi2, hs2⟩
      have hb' : (runW st s1 (flat n (t.ts.getD i nilT))).2 = true := by simpa using hb
      have hrk : runW st s (pre (n + 1) t i ++ flat n (t.ts.getD i nilT)) = ((runW st s1 (flat n (t.ts.getD i nilT))).1, true) := by
        rw [yadw hrun]
        rcases hst : runW st s1 (flat n (t.ts.getD i nilT)) with ⟨s2, _ | _⟩
        · rw [hst] at hb'; cases hb'
        · rfl
      refine ⟨_, _, _, (hs2.at (nodeC b t.es.length ks.length p1 p2 p3 c1 c2 c3)).cellA 1, (ns.s2.rd (hs2.at C2)).int (by omega) (by omega) ?_⟩
      rw [Int.toNat_natCast]
      show callX Tryz.prog F g _ _ _
      refine yamy hg ?_
      have hg1 : (t.es.map Prod.fst).getD i 0 = (t.es.getD i (0, 0)).1 := by simp [List.getD, hlt']
      have hg2 : (t.es.map Prod.snd).getD i 0 = (t.es.getD i (0, 0)).2 := by simp [List.getD, hlt']
      rw [hg1, hg2]
      generalize hs' : (runW st s1 (flat n (t.ts.getD i nilT))).1 = s2 at hi2 hrk
      refine (hf s2 D2 h3 (t.es.getD i (0, 0)) (nodeC b t.es.length ks.length p1 p2 p3 c1 c2 c3 + (C1 + (C2 + C3)) + A2 + G) (yakz hok _ _ _ hos hrk) hi2 (hs2.to (B := D2 + (nodeC b t.es.length ks.length p1 p2 p3 c1 c2 c3 + (C1 + (C2 + C3)) + A2 + G)))).mono fun v3 h4 ⟨D', hv3, hi3, hs3⟩ => ?_
      have hs3 := hs3.to (B := nodeC b t.es.length ks.length p1 p2 p3 c1 c2 c3 + (C1 + (C2 + C3)) + A2 + (D' + G))
      refine ⟨_, hv3, yaar (fun hb => ?_) (fun hb => ?_)⟩
      · have hb' : (st s2 (t.es.getD i (0, 0))).2 = false := by simpa using hb
        have hr : runW st s (flat (n + 1) t) = ((st s2 (t.es.getD i (0, 0))).1, false) := by
          obtain ⟨rest, hrest⟩ : ∃ rest, flat (n + 1) t = pre (n + 1) t i ++ flat n (t.ts.getD i nilT) ++ ([t.es.getD i (0, 0)] ++ rest) := by
            obtain ⟨rest, h⟩ := yawy (n := n) hlen hlt'
            exact ⟨rest, by rw [h]; simp⟩
          rw [hrest, yadw hrk]
          refine yair ?_
          simp only [runW]
          rcases hst : st s2 (t.es.getD i (0, 0)) with ⟨s3, _ | _⟩
          · rfl
          · rw [hst] at hb'; cases hb'
        rw [hr]
        exact ⟨D', rfl, hi3, hs3⟩
      · have hb' : (st s2 (t.es.getD i (0, 0))).2 = true := by simpa using hb
        rw [zaj_b2]
        refine ⟨⟨by omega, by omega⟩, ⟨i + 1, _, D', by simp only; omega, by omega, ?_, hi3, hs3⟩, by simp only; omega⟩
        rw [hrp, ← List.append_assoc, yadw hrk]
        simp only [runW]
        rcases hst : st s2 (t.es.getD i (0, 0)) with ⟨s3, _ | _⟩
        · rw [hst] at hb'; cases hb'
        · rfl
    · have : i = t.es.length := by omega
      subst this
      rw [zaj_b3]
      refine ⟨false, (lf hs1).mono fun v5 h6 ⟨hh6, hv5⟩ => ⟨hv5, hh6⟩, yabb rfl ?_⟩
      have k1 := (hs1.at (nodeC b t.es.length ks.length p1 p2 p3 c1 c2 c3))
      refine ⟨_, _, _, k1.cellA 2, _, _, _, k1.cell 0, (ns.s3.rd (hs1.at C3)).ptr (by omega) (by omega) ?_⟩
      rw [Int.toNat_natCast]
      refine (kid t.es.length (by omega) s1 D h1 (yakz hok _ _ _ hos hrun) hi1 hs1).mono fun v2 h3 ⟨D2, hv2, hi2, hs2⟩ => ?_
      refine ⟨_, hv2, ?_⟩
      have hr : runW st s (flat (n + 1) t) = runW st s1 (flat n (t.ts.getD t.es.length nilT)) := by rw [ybag hlen, yadw hrun]
      rw [hr]
      exact ⟨D2, rfl, hi2, hs2⟩
end
abbrev TE : Ty E := tPP 59
theorem ybbn : ElOk TE Tryz.prog 56 := yaeh (by kernel_rfl)
def yagv (fr to : Int) (e : E) : Bool := decide (fr ≤ e.1 ∧ e.1 < to)
def yact (fr to : Int) (out : List E) (e : E) : List E × Bool :=
  let o := if fr ≤ e.1 ∧ e.1 < to then out ++ [e] else out
  (o, decide (e.1 < to ∧ o.length ≤ 1000))
def scanS (xs : List E) (fr to : Int) : List E × Int := if KeyP fr ∧ KeyP to then (if 1000 < (xs.filter (yagv fr to)).length then ([], 4) else (xs.filter (yagv fr to), 0)) else ([], 1)
theorem yamx {fr to : Int} : ∀ (xs out : List E), Srt xs → out.length ≤ 1000 →
    if (out ++ xs.filter (yagv fr to)).length ≤ 1000 then (runW (yact fr to) out xs).1 = out ++ xs.filter (yagv fr to) else 1000 < (runW (yact fr to) out xs).1.length
  | [], out, _, hl => by simp [runW, hl]
  | e :: xs, out, hs, hl => by
    have hs := Srt.con.1 hs
    by_cases hto : e.1 < to
    · by_cases hfr : fr ≤ e.1
      · have hin : yagv fr to e = true := decide_eq_true ⟨hfr, hto⟩
        have hst : yact fr to out e = (out ++ [e], decide (e.1 < to ∧ (out ++ [e]).length ≤ 1000)) := by simp only [yact]; rw [if_pos ⟨hfr, hto⟩]
        rw [List.filter_cons_of_pos hin]
        by_cases hle : (out ++ [e]).length ≤ 1000
        · have ih := yamx (fr := fr) (to := to) xs (out ++ [e]) hs.2 hle
          have hr : runW (yact fr to) out (e :: xs) = runW (yact fr to) (out ++ [e]) xs := by
            simp only [runW, hst]
            rw [decide_eq_true ⟨hto, hle⟩]
          rw [hr]
          simpa using ih
        · have hr : runW (yact fr to) out (e :: xs) = (out ++ [e], false) := by
            simp only [runW, hst]
            rw [decide_eq_false (fun h => hle h.2)]
          rw [if_neg (by simp at hle ⊢; omega), hr]
          simp at hle ⊢; omega
      · have hin : ¬ yagv fr to e = true := fun h => hfr (of_decide_eq_true h).1
        have hst : yact fr to out e = (out, decide (e.1 < to ∧ out.length ≤ 1000)) := by simp only [yact]; rw [if_neg (fun h => hfr h.1)]
        rw [List.filter_cons_of_neg hin]
        have ih := yamx (fr := fr) (to := to) xs out hs.2 hl
        have hr : runW (yact fr to) out (e :: xs) = runW (yact fr to) out xs := by
          simp only [runW, hst]
          rw [decide_eq_true ⟨hto, hl⟩]
        rw [hr]; exact ih
    · have hin : ¬ yagv fr to e = true := fun h => hto (of_decide_eq_true h).2
      have hnil : xs.filter (yagv fr to) = [] := by
        rw [List.filter_eq_nil_iff]
        intro x hx h
        have := hs.1 x hx
        have := (of_decide_eq_true h).2
        omega
      have hst : yact fr to out e = (out, false) := by
        simp only [yact]
        rw [if_neg (fun h => hto h.2), decide_eq_false (fun h => hto h.1)]
      have hr : runW (yact fr to) out (e :: xs) = (out, false) := by simp only [runW, hst]
      rw [List.filter_cons_of_neg hin, hnil, List.append_nil, if_pos hl, hr]
def ScanI (bf bt bo : Nat) (fr to : Int) (out : List E) (C : Bag) : Prop := ∃ p n c B, C = cA bo [.slice p n c] 56 + (B + (cA bf [.int .i64 fr] 3 + cA bt [.int .i64 to] 3)) ∧ Sl TE p n c out B
theorem yarx {h0 : Hp} {bf bt bo : Nat} {fr to : Int} : Fun1 h0 54 #[ptr bf, ptr bt, ptr bo] (yact fr to) (ScanI bf bt bo fr to) (fun out => out.length ≤ 1000) := by
  rintro out C h ⟨k, v⟩ G hok ⟨p, n, c, B, rfl, hsl⟩ s
  show yaak Tryz.prog 54 #[.int .i64 k, .int .i64 v, ptr bf, ptr bt, ptr bo] h _
  have hn := hsl.len
  have fin : ∀ (h' : Hp) (p : OA) (n c : Nat) (B : Bag) (out' : List E), out' = (yact fr to out (k, v)).1 → Sl TE p n c out' B → St h0 h' (cA bo [.slice p n c] 56 + (B + (cA bf [.int .i64 fr] 3 + cA bt [.int .i64 to] 3)) + G) →
      zaf_b1 k (some ⟨bt, 0, none⟩) (some ⟨bo, 0, none⟩) h' (fun v' h' => ∃ C', v' = .bool (yact fr to out (k, v)).2 ∧ ScanI bf bt bo fr to (yact fr to out (k, v)).1 C' ∧ St h0 h' (C' + G)) := by
    intro h' p n c B out' ho hsl s
    rw [zaf_b1]
    have hn := hsl.len
    have e2 : (yact fr to out (k, v)).2 = decide (k < to ∧ (yact fr to out (k, v)).1.length ≤ 1000) := rfl
    refine ⟨_, (s.at (cA bt [.int .i64 to] 3)).cell 0, condP (fun h1 => ?_) (fun h1 => ?_)⟩
    · refine ⟨_, _, _, (s.at (cA bo [.slice p n c] 56)).cell 0, _, ?_, ⟨p, n, c, B, rfl, ho ▸ hsl⟩, s⟩
      rw [e2, ← ho]
      congr 1
      exact decide_eq_decide.2 ⟨fun h => ⟨h1, by omega⟩, fun h => by omega⟩
    · refine ⟨_, ?_, ⟨p, n, c, B, rfl, ho ▸ hsl⟩, s⟩
      rw [e2, decide_eq_false (fun h => h1 h.1)]
  refine zaf_call ?_
  rw [zaf_b0]
  refine ⟨_, (s.at (cA bf [.int .i64 fr] 3)).cell 0, condP (fun h1 => ?_) (fun h1 => ?_)⟩
  · refine ⟨_, (s.at (cA bt [.int .i64 to] 3)).cell 0, condP (fun h2 => ?_) (fun h2 => ?_)⟩
    · refine ⟨_, _, _, (s.at (cA bo [.slice p n c] 56)).cell 0, ?_⟩
      have s1 : St h0 h (B + (cA bo [.slice p n c] 56 + (cA bf [.int .i64 fr] 3 + (cA bt [.int .i64 to] 3 + G)))) := s.to
      refine yahv ybbn s1 hsl (x := (k, v)) rfl rfl (by omega) fun p' c' h2' B' o2 s2 => ?_
      have s3 := s2.to (B := cA bo [.slice p n c] 56 + (B' + (cA bf [.int .i64 fr] 3 + cA bt [.int .i64 to] 3) + G))
      refine s3.wr rfl (by simp) fun h3 s4 => ?_
      have s4 : St h0 h3 (cA bo [.slice p' (n + 1) c'] 56 + (B' + (cA bf [.int .i64 fr] 3 + cA bt [.int .i64 to] 3) + G)) := s4
      refine fin h3 p' (n + 1) c' B' (out ++ [(k, v)]) ?_ o2 s4.to
      simp only [yact]
      rw [if_pos ⟨h1, h2⟩]
    · refine fin h p n c B out ?_ hsl s
      simp only [yact]
      rw [if_neg (fun h => h2 h.2)]
  · refine fin h p n c B out ?_ hsl s
    simp only [yact]
    rw [if_neg (fun h => h1 h.1)]
theorem yayn {h : Hp} {g : Nat} {cap : Array Value} : yaak Tryz.prog 53 #[.pointer none, .func (.func g) #[] cap] h (fun v h' => h' = h ∧ v = .bool true) := by
  refine zaj_call ?_
  rw [zaj_b0]
  exact yacv rfl ⟨rfl, rfl⟩
theorem walkT {σ : Type} {h0 : Hp} {g : Nat} {cap : Array Value} {st : σ → E → σ × Bool} {Inv : σ → Bag → Prop} {Ok : σ → Prop} (hok : ∀ s e, Ok s → (st s e).2 = true → Ok (st s e).1) (hg : F g = true) (hf : Fun1 h0 g cap st Inv Ok)
    {order tb : Nat} {xs : List E} {vis : Int} {A C G : Bag} {h : Hp} {s : σ} (hor : 3 ≤ order) (h64 : order ≤ 64) (ta : TreeA order xs tb vis A) (ho : Ok s) (hi : Inv s C) (hs : St h0 h (A + (C + G))) :
    ∃ p1 : OA, cell h ((⟨tb, 0, none⟩ : Addr).add 2) = some (.pointer p1) ∧ yaak Tryz.prog 53 #[.pointer p1, .func (.func g) #[] cap] h (fun v h' => ∃ C', v = .bool (runW st s xs).2 ∧ Inv (runW st s xs).1 C' ∧ St h0 h' (A + (C' + G))) := by
  rcases ta with ⟨rfl, rfl⟩ | ⟨n, root, t, A1, rfl, hh, hfl, hsz⟩
  · refine ⟨_, hs.cellA 2, yayn.mono fun v h' ⟨hh, hv⟩ => ?_⟩
    subst hh
    exact ⟨C, hv, hi, hs⟩
  · have s1 := hs.to (B := treeC tb order xs.length (some ⟨root, 0, none⟩) vis + (A1 + (C + G)))
    refine ⟨_, s1.cellA 2, ?_⟩
    have s2 := hs.to (B := A1 + (C + (treeC tb order xs.length (some ⟨root, 0, none⟩) vis + G)))
    refine (ybdl hok hg hf (lo := 1) (hi := order - 1) (by omega) n hh (hsz.one (by omega)) ho hi s2).mono fun v h' ⟨C', hv, hi', s3⟩ => ?_
    rw [hfl] at hv hi'
    exact ⟨C', hv, hi', s3.to⟩
theorem ybco {h0 h : Hp} {order tb : Nat} {xs : List E} {vis fr to : Int} {A G : Bag} (hor : 3 ≤ order) (h64 : order ≤ 64) (so : Srt xs) (ta : TreeA order xs tb vis A) (s : St h0 h (A + G)) :
    yaak Tryz.prog 18 #[ptr tb, .int .i64 fr, .int .i64 to] h (fun v h' => ∃ p n c B, v = .tuple #[.slice p n c, .int .i64 (scanS xs fr to).2] ∧ Sl TE p n c (scanS xs fr to).1 B ∧ St h0 h' (A + (B + G))) := by
  refine zae_call ?_
  rw [zae_b0]
  refine s.new (cs := [.int .i64 fr]) fun b1 h1 _ s1 => ?_
  refine s1.new (cs := [.int .i64 to]) fun b2 h2 _ s2 => ?_
  refine yabb rfl ⟨_, s2.atomBlk.cell 0, _, s2.cell 0, ?_⟩
  refine s2.new (cs := [.int .i64 fr, .int .i64 to]) fun b3 h3 _ s3 => ?_
  refine (yawv s3.blk).mono fun v1 h4 ⟨hh, hv⟩ => ?_
  subst hh
  refine ⟨_, hv, condN (fun hk => ?_) (fun hk => ?_)⟩
  · rw [scanS, if_neg hk]
    exact ⟨none, 0, 0, 0, rfl, Sl.nil, ((s3.to (B := cA b3 [.int .i64 fr, .int .i64 to] 3 + (cA b2 [.int .i64 to] 3 + cA b1 [.int .i64 fr] 3) + (A + G))).drop).to⟩
  · rw [zae_b1]
    refine s3.drop.new (cs := [.slice none 0 0]) fun b4 h5 _ s5 => ?_
    have s6 : St h0 h5 (A + (cA b4 [.slice none 0 0] 56 + (0 + (cA b1 [.int .i64 fr] 3 + cA b2 [.int .i64 to] 3)) + G)) := s5.to
    obtain ⟨p1, hc, hw⟩ := walkT (Ok := fun out : List E => out.length ≤ 1000) (by
      intro out e _ h
      have : (yact fr to out e).2 = decide (e.1 < to ∧ (yact fr to out e).1.length ≤ 1000) := rfl
      rw [this] at h
      exact (of_decide_eq_true h).2) (by kernel_rfl) (yarx (bf := b1) (bt := b2) (bo := b4) (fr := fr) (to := to)) hor h64 ta (s := []) (by simp) ⟨none, 0, 0, 0, rfl, Sl.nil⟩ s6
    refine ⟨_, hc, hw.mono fun v2 h6 ⟨C', hv2, hI, s7⟩ => ⟨_, hv2, ?_⟩⟩
    obtain ⟨p, n, c, B, rfl, hsl⟩ := hI
    have hrun := yamx (fr := fr) (to := to) xs [] so (by simp)
    rw [List.nil_append] at hrun
    have hb := (s7.at (cA b4 [.slice p n c] 56)).blk
    have hn := hsl.len
    have s8 : St h0 h6 (cA b4 [.slice p n c] 56 + (cA b1 [.int .i64 fr] 3 + cA b2 [.int .i64 to] 3) + (A + (B + G))) := s7.to
    refine ⟨_, _, _, hb.cell 0, condP (fun hl => ?_) (fun hl => ?_)⟩
    · have : 1000 < (xs.filter (yagv fr to)).length := by
        rcases Nat.lt_or_ge 1000 (xs.filter (yagv fr to)).length with h | h
        · exact h
        · rw [if_pos h] at hrun; rw [hrun] at hn; omega
      rw [scanS, if_pos hk, if_pos this]
      exact ⟨none, 0, 0, 0, rfl, Sl.nil, (s8.drop.to (B := B + (A + G))).drop.to⟩
    · have : ¬ 1000 < (xs.filter (yagv fr to)).length := fun h => by
        rw [if_neg (by omega)] at hrun; omega
      rw [if_pos (by omega)] at hrun
      rw [scanS, if_pos hk, if_neg this]
      refine ⟨_, _, _, hb.cell 0, p, n, c, B, rfl, ?_, s8.drop⟩
      rw [← hrun]; exact hsl
theorem IsOrd.nodup {l : List (Int × Int)} {t : Int × Int} {os : List Nat} (o : IsOrd l t os) : os.Nodup := o.perm.nodup_iff.2 List.nodup_range
theorem yaqm {pl : List Int} {os : List Nat} {i : Nat} (hnd : os.Nodup) (hi : i < os.length) (hlt : os.getD i 0 < pl.length) (h : ∀ k, k < i → pl.getD (os.getD k 0) 0 = (k : Int)) :
    ∀ k, k < i + 1 → (pl.set (os.getD i 0) (i : Int)).getD (os.getD k 0) 0 = (k : Int) := by
  intro k hk
  rcases Nat.lt_or_ge k i with h13 | h13
  · rw [List.getD_eq_getElem?_getD, List.getElem?_set_ne ?_, ← List.getD_eq_getElem?_getD]
    · exact h k h13
    · intro he
      have e1 : os.getD i 0 = os[i] := by simp [List.getD, hi]
      have e2 : os.getD k 0 = os[k]'(by omega) := by simp [List.getD, show k < os.length by omega]
      rw [e1, e2] at he
      exact List.pairwise_iff_getElem.1 hnd k i (by omega) (by omega) h13 he.symm
  · obtain rfl : k = i := by omega
    exact yain hlt
theorem LessN.asymm {l : List (Int × Int)} {t : Int × Int} {a b : Nat} (h1 : LessN l t a b) (h2 : LessN l t b a) : False := by
  unfold LessN at h1 h2
  omega
theorem yawe {l : List (Int × Int)} {t : Int × Int} {v w : Nat} (hv : v < l.length) (hw : w < l.length) (h1 : Last l t v) (h2 : Last l t w) : v = w := by
  refine Classical.byContradiction fun hne => ?_
  exact (h1 w hw fun e => hne e.symm).asymm (h2 v hv hne)
theorem yavf {pl : List Int} {os : List Nat} {l : List (Int × Int)} {t : Int × Int} (o : IsOrd l t os) (hP : yaku pl os) {x : Nat} (hx : x < l.length) : 0 ≤ pl.getD x 0 ∧ pl.getD x 0 < l.length := by
  have hm := o.perm.mem_iff.2 (List.mem_range.2 hx)
  obtain ⟨k, hk, rfl⟩ := List.getElem_of_mem hm
  have h1 := hP.2 k hk
  have e1 : os.getD k 0 = os[k] := by simp [List.getD, hk]
  rw [e1] at h1
  have := o.len
  omega
theorem yaqe {pl pl' : List Int} {os os' : List Nat} {l : List (Int × Int)} {t t' : Int × Int} (o : IsOrd l t os) (o' : IsOrd l t' os') (hP : yaku pl os) (hP' : yaku pl' os') :
    invs (os.map fun x => pl'.getD x 0) = invs (os'.map fun x => pl.getD x 0) :=
  yawa (f := fun x => pl'.getD x 0) (g := fun x => pl.getD x 0) (o.perm.trans o'.perm.symm) (yajf hP.2) (yajf hP'.2)
theorem ybaf (ys : List Int) (i : Nat) (hi : i < ys.length) (h0 : ∀ y ∈ ys, 0 ≤ y) : inL (rng ys i ys.length) 0 (ys.getD i 0 - 1) = (ys.drop (i + 1)).countP (fun z => decide (z < ys.getD i 0)) := by
  unfold inL rng
  rw [List.take_length, ← List.countP_eq_length_filter, yajh hi]
  have e : decide ((0 : Int) ≤ ys.getD i 0 ∧ ys.getD i 0 ≤ ys.getD i 0 - 1) = false := by
    rw [decide_eq_false_iff_not]; omega
  rw [e]
  simp only [Bool.false_eq_true, if_false, Nat.zero_add]
  refine List.countP_congr fun z hz => ?_
  have := h0 z (List.mem_of_mem_drop hz)
  simp
  omega
theorem ybcb {xs : List E} {p v : Int} (so : Srt xs) (hk : ¬ yaez (upS xs p) p = true) : Srt (lowS xs p ++ (p, v) :: upS xs p) := by
  have e : xs = lowS xs p ++ upS xs p := yarl
  have so' : Srt (lowS xs p ++ upS xs p) := by rw [← e]; exact so
  obtain ⟨s1, s2, s3⟩ := Srt.app.1 so'
  have hup : ∀ y ∈ upS xs p, p < y.1 := by
    have hh : ∀ y, (upS xs p).head? = some y → ¬ y.1 < p := by
      intro y hy hlt
      have := List.head?_dropWhile_not (fun e : E => decide (e.1 < p)) xs
      unfold upS at hy
      rw [hy] at this
      simp [hlt] at this
    generalize upS xs p = U at *
    cases U with
    | nil => intro y hy; simp at hy
    | cons y0 U =>
      have h1 := hh y0 rfl
      have h2 : ¬ y0.1 = p := fun e => hk (decide_eq_true e)
      intro y hy
      rcases List.mem_cons.1 hy with rfl | hy
      · omega
      · have := (Srt.con.1 s2).1 y hy
        omega
  refine Srt.app.2 ⟨s1, Srt.con.2 ⟨fun y hy => hup y hy, s2⟩, fun x hx y hy => ?_⟩
  have hx := ybfi x hx
  rcases List.mem_cons.1 hy with rfl | hy
  · exact hx
  · exact s3 x (by assumption) y hy
def Ents (l : List (Int × Int)) (t : Int × Int) (i : Nat) (xs : List E) : Prop := xs.Perm ((List.range i).map fun k => (sc (l.getD k (0, 0)) t, (k : Int)))
theorem Ents.put {l : List (Int × Int)} {t : Int × Int} {i : Nat} {xs : List E} (h : Ents l t i xs) : Ents l t (i + 1) (lowS xs (sc (l.getD i (0, 0)) t) ++ (sc (l.getD i (0, 0)) t, (i : Int)) :: upS xs (sc (l.getD i (0, 0)) t)) := by
  unfold Ents at *
  rw [List.range_succ, List.map_append]
  refine List.perm_middle.trans ?_
  rw [← yarl]
  exact (List.Perm.cons _ h).trans (List.perm_append_comm (l₁ := [_]) (l₂ := _))
theorem yast {l : List (Int × Int)} {t : Int × Int} {os : List Nat} {xs : List E} (o : IsOrd l t os) (h : Ents l t l.length xs) (so : Srt xs) : xs.map Prod.snd = os.map nI := by
  have hmem : ∀ e ∈ xs, ∃ k : Nat, e = (sc (l.getD k (0, 0)) t, (k : Int)) := by
    intro e he
    obtain ⟨k, _, rfl⟩ := List.mem_map.1 (h.mem_iff.1 he)
    exact ⟨k, rfl⟩
  have h1 : (xs.map fun e => e.2.toNat).Perm (List.range l.length) := by
    refine (h.map fun e => e.2.toNat).trans (List.Perm.of_eq ?_)
    rw [List.map_map]
    conv => rhs; rw [← List.map_id (List.range l.length)]
    exact List.map_congr_left fun k _ => by simp
  have h2 : (xs.map fun e => e.2.toNat).Pairwise (LessN l t) := by
    rw [List.pairwise_map]
    refine List.Pairwise.imp_of_mem ?_ so
    intro a b ha hb hab
    obtain ⟨x, rfl⟩ := hmem a ha
    obtain ⟨y, rfl⟩ := hmem b hb
    exact .inl (by simpa using hab)
  have h3 : (xs.map fun e => e.2.toNat) = os := List.Perm.eq_of_pairwise (fun a b _ _ x y => (x.asymm y).elim) h2 o.srt (h1.trans o.perm.symm)
  rw [← h3, List.map_map]
  refine List.map_congr_left fun e he => ?_
  obtain ⟨k, rfl⟩ := hmem e he
  simp
def T0 (h0 : Hp) : Prop := TabOk h0 2 roB
section
variable {h0 h : Hp} {φ : Phi} {H : AH}
theorem yaqq {n b : Nat} {k : Bk} (g : TT.get (HB n).m b = some k) : b = 2 ∧ k = .ro roB := by
  rcases (TT.set_get (eT Bk 6) 2 b (some (.ro roB))).2 _ g with ⟨e, he⟩ | ⟨_, he⟩
  · exact ⟨e, (Option.some.inj he).symm⟩
  · rw [yamj] at he; cases he
theorem HB_ok (ht : T0 h0) (hg : yacl φ [2]) (hr : HR φ h0 H h) {n : Nat} (hn : H.nx ≤ n) : HR φ h0 (HB n) h := by
  refine hr.part hn fun b k g => ?_
  obtain ⟨rfl, rfl⟩ := yaqq g
  obtain ⟨m, h1, h2⟩ := hg 2 List.mem_cons_self
  obtain ⟨h3, h4⟩ := ht.br hr h2
  exact .inr ⟨id, m, h1, h3, h4⟩
theorem yasj (ht : T0 h0) (hg : yacl φ [2]) (hr : HR φ h0 H h) (hn : H.nx ≤ 200000) {g : Nat} {args us : List Value} {v : Value} {H1 : AH} (hp : plain v = true) (hv : VRL φ args us) (e : callK PP TA 100 g args (HB 200000) = .ok v H1) : yaiu PP g us h (Out φ h0 H h v H) := by
  have hc := yaho (T := TA) (by kernel_rfl) (fun g f hf => yauc h0 g f hf) 100 φ hg g args (HB 200000) v H1 h us (HB_ok ht hg hr hn) hv e
  refine hc.mono fun u h' ⟨ψ, hs, hu⟩ => ⟨φ, Step.pure hr (fun b k g ho => ?_) hs, ?_⟩
  · obtain ⟨_, rfl⟩ := yaqq g; exact ho
  · have hu' := VRL.plain_eq (vs := [v]) (us := [u]) (by simp [plains, hp]) (.cons hu .nil)
    cases hu'
    exact VR.plain hp
end
noncomputable def eqNU : List Nat → List UInt8 → Bool
  | [], [] => true
  | n :: r, b :: s => (match Nat.beq n (u8n b) with | true => eqNU r s | false => false)
  | _, _ => false
noncomputable def lookW (l : List UInt8) : List (List Nat × Bool) → Option Bool
  | [] => none
  | e :: r => (match eqNU e.1 l with | true => some e.2 | false => lookW l r)
noncomputable def kwN : List Value → AH → RV
  | [.string s], H => (match lookW (bl s) kwT, Nat.ble H.nx 200000 with | some b, true => .ok (.bool b) H | _, _ => .er [310])
  | _, _ => .er [311]
noncomputable def clN : List Value → AH → RV
  | [.int .u8 n], H => (match natI n, Nat.ble H.nx 200000 with | some n, true => (match Nat.ble n 255 with | true => .ok (.int .i64 (.ofNat (clsN n))) H | false => .er [312]) | _, _ => .er [312])
  | _, _ => .er [313]
noncomputable def natB (g : Nat) : Option (List Value → AH → RV) := match Nat.beq g 228, Nat.beq g 192 with | true, _ => some kwN | _, true => some clN | _, _ => natA g
noncomputable def TB : Tab := ⟨natB, lcF, [2]⟩
theorem yayi : ∀ {e : List Nat} {l : List UInt8}, eqNU e l = true → l = e.map UInt8.ofNat
  | [], [], _ => rfl
  | [], _ :: _, h => by cases h
  | _ :: _, [], h => by cases h
  | n :: r, b :: s, h => by
    unfold eqNU at h
    split at h
    · rename_i hb
      have hb := Nat.eq_of_beq_eq_true hb
      rw [yayi h, List.map_cons, hb]
      simp [u8n]
    · cases h
theorem yaou {l : List UInt8} {b : Bool} : ∀ {t : List (List Nat × Bool)}, lookW l t = some b → ∃ e ∈ t, l = e.1.map UInt8.ofNat ∧ e.2 = b
  | [], h => by cases h
  | e :: r, h => by
    unfold lookW at h
    split at h
    · rename_i he
      exact ⟨e, List.mem_cons_self, yayi he, by cases h; rfl⟩
    · obtain ⟨x, h1, h2⟩ := yaou h
      exact ⟨x, List.mem_cons_of_mem _ h1, h2⟩
theorem ybdi {r : RV} {b : Bool} (h : isB r b = true) : ∃ H, r = .ok (.bool b) H := by
  unfold isB at h
  split at h
  · rw [yaoe h]; exact ⟨_, rfl⟩
  · cases h
theorem ybgv {r : RV} {n : Nat} (h : isI r n = true) : ∃ H, r = .ok (.int .i64 (.ofNat n)) H := by
  unfold isI at h
  split at h
  · rw [Nat.eq_of_beq_eq_true h]; exact ⟨_, rfl⟩
  · cases h
theorem yayc {h0 : Hp} (ht : T0 h0) : ∀ g f, TB.nat g = some f → NatOk PP h0 [2] g f := by
  intro g f hf
  have hf : natB g = some f := hf
  unfold natB at hf
  split at hf
  · rename_i hb
    cases hf
    obtain rfl := Nat.eq_of_beq_eq_true hb
    intro φ hg args H v H' h us hr hv he
    unfold kwN at he
    split at he
    · rename_i s
      split at he
      · rename_i b hl hn
        obtain ⟨rfl, rfl⟩ := yaax he
        obtain ⟨e, h1, h2, rfl⟩ := yaou hl
        obtain ⟨H1, h3⟩ := ybdi (yaat kw_ok e h1)
        have hs : (.string s : Value) = bs e.1 := by
          unfold bs
          obtain ⟨⟨d⟩⟩ := s
          have h2 : d = e.1.map UInt8.ofNat := h2
          rw [h2]
        rw [← hs] at h3
        exact yasj ht hg hr (Nat.le_of_ble_eq_true hn) rfl hv h3
      · cases he
    · cases he
  · rename_i hb _
    cases hf
    obtain rfl := Nat.eq_of_beq_eq_true hb
    intro φ hg args H v H' h us hr hv he
    unfold clN at he
    split at he
    · rename_i n
      split at he
      · rename_i m hm hn
        have hm := yady hm
        subst hm
        split at he
        · rename_i hb
          obtain ⟨rfl, rfl⟩ := yaax he
          have hb := Nat.le_of_ble_eq_true hb
          have h2 := yakn ybfc (show m < 256 by omega)
          obtain ⟨H1, h3⟩ := ybgv h2
          exact yasj ht hg hr (Nat.le_of_ble_eq_true hn) rfl hv h3
        · cases he
      · cases he
    · cases he
  · exact yauc h0 g f hf
noncomputable def rowT1 : List Value := [bs [108, 105, 115, 116], .int .i64 1, .slice none 0 0, .slice none 0 0, .int .i64 0]
noncomputable def rowA1 : List Value := [.int .i64 1, .int .i64 10]
noncomputable def args1 : List Value := [.pointer (some ⟨1004, 0, none⟩), .agg ⟨[.int .i64 1, .slice (some ⟨1005, 0, none⟩) 2 5]⟩, .bool true]
noncomputable def He1 : AH := ⟨1007, TT.set (TT.set (HB 0).m 1004 (some (.row 5 0 128 (.sm rowT1)))) 1005 (some (.row 2 1 3 (.sm rowA1)))⟩
noncomputable def rowT2 : List Value := [bs [108, 105, 115, 116], .int .i64 1, .slice (some ⟨60003, 0, none⟩) 1 2, .slice none 0 0, .int .i64 1]
noncomputable def rowA2 : List Value := [.int .i64 1]
noncomputable def args2 : List Value := [.pointer (some ⟨1004, 0, none⟩), .agg ⟨[.int .i64 2, .slice (some ⟨60030, 0, none⟩) 1 3]⟩, .bool false]
noncomputable def He2 : AH := ⟨60033, TT.set (TT.set (HB 0).m 1004 (some (.row 5 0 128 (.sm rowT2)))) 60030 (some (.row 1 1 3 (.sm rowA2)))⟩
noncomputable def isOK (r : RV) (X a n z ty : Nat) (l : List Value) (b m : Nat) (l2 : List Value) : Bool := match r with
  | .ok (.int .i64 (.ofNat 0)) H => Nat.ble H.nx X && eqBk (TT.get H.m a) n z ty l && eqBk (TT.get H.m b) m 1 3 l2
  | _ => false
end Go.Proofs.YtbhofnaipkkbeaaGreatDoor
