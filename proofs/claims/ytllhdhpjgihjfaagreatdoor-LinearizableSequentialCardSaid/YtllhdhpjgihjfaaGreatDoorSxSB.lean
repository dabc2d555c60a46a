/- Part Y3 Z1 LA LB LC LD LE LF LG P40 SH SI SA SL SB of the proof: contracts of functions of the program, and what follows from them. -/
import Derived.Test.YtllhdhpjgihjfaaGreatDoorSxY2
import Derived.Test.YtllhdhpjgihjfaaGreatDoorSxV
set_option maxRecDepth 100000
namespace Go.Proofs.YtllhdhpjgihjfaaGreatDoor
open Go Go.Sx
abbrev OpT := Int × SH
abbrev tO : Ty OpT := ⟨50, 2, fun x => [.int .i64 x.1, .slice x.2.1 x.2.2.1 x.2.2.2], (0, none, 0, 0), fun _ => rfl, by decide, fun _ v hv => by simp at hv; rcases hv with rfl | rfl <;> rfl⟩
abbrev OpL := Int × List Int
def OpsR (h : Hp) (p : OA) (n : Nat) (ops : List OpL) : Prop :=
  ∃ l : List OpT, RdT tO h p n l ∧ ops.length = n ∧ ∀ i, i < n → (l.getD i tO.d).1 = (ops.getD i (0, [])).1 ∧ (l.getD i tO.d).2.2.1 ≤ (l.getD i tO.d).2.2.2 ∧ RdT TI h (l.getD i tO.d).2.1 (l.getD i tO.d).2.2.1 (ops.getD i (0, [])).2
theorem OpsR.len {h : Hp} {p : OA} {n : Nat} {ops : List OpL} (r : OpsR h p n ops) : ops.length = n := let ⟨_, _, hl, _⟩ := r; hl
theorem OpsR.ext {h h' : Hp} {p : OA} {n : Nat} {ops : List OpL} (r : OpsR h p n ops) (x : Ext h h') : OpsR h' p n ops :=
  let ⟨l, r1, hl, hk⟩ := r; ⟨l, r1.ext x, hl, fun i hi => ⟨(hk i hi).1, (hk i hi).2.1, (hk i hi).2.2.ext x⟩⟩
theorem OpsR.at_ {h h1 : Hp} {p : OA} {n : Nat} {ops : List OpL} {i : Int} {Q : Int → OA → Nat → Nat → Prop} (r : OpsR h p n ops) (x : Ext h h1) (h0 : 0 ≤ i) (hi : i < n)
    (hq : ∀ q m c, m ≤ c → RdT TI h q m (ops.getD i.toNat (0, [])).2 → Q (ops.getD i.toNat (0, [])).1 q m c) :
    (0 ≤ i ∧ i < (n : Int)) ∧ NN p fun a => ∃ x : Int, ∃ y z w, cell h1 (a.add (Int.toNat i * 2)) = some (.int .i64 x) ∧ cell h1 ((a.add (Int.toNat i * 2)).add 1) = some (.slice y z w) ∧ Q x y z w := by
  obtain ⟨l, r1, hl, hk⟩ := r
  obtain ⟨k1, k2, k3⟩ := hk i.toNat (by omega)
  refine (r1.ext x).idx h0 hi fun _ _ hc => ⟨_, _, _, _, hc 0 (show 0 < 2 by decide), hc 1 (show 1 < 2 by decide), ?_⟩
  rw [k1]
  exact hq _ _ _ k2 k3
theorem OpsR.mk' {h : Hp} {p : OA} {n : Nat} {l : List OpT} (r : RdT tO h p n l) (hz : ∀ x ∈ l, x.2.2.1 ≤ x.2.2.2 ∧ ∃ zs, RdT TI h x.2.1 x.2.2.1 zs) : ∃ ops, OpsR h p n ops := by
  have hl := r.len
  have : ∃ ops : List OpL, ops.length = l.length ∧ ∀ i, i < l.length → (l.getD i tO.d).1 = (ops.getD i (0, [])).1 ∧ (l.getD i tO.d).2.2.1 ≤ (l.getD i tO.d).2.2.2 ∧ RdT TI h (l.getD i tO.d).2.1 (l.getD i tO.d).2.2.1 (ops.getD i (0, [])).2 := by
    clear r hl
    induction l with
    | nil => exact ⟨[], rfl, fun i hi => by simp at hi⟩
    | cons x l ih =>
      obtain ⟨ops, e, hk⟩ := ih fun y hy => hz y (List.mem_cons_of_mem _ hy)
      obtain ⟨hc, zs, rz⟩ := hz x List.mem_cons_self
      refine ⟨(x.1, zs) :: ops, by simp [e], fun i hi => ?_⟩
      cases i with
      | zero => exact ⟨rfl, hc, rz⟩
      | succ i => simpa using hk i (by simpa using hi)
  obtain ⟨ops, e, hk⟩ := this
  exact ⟨ops, l, r, by omega, fun i hi => hk i (by omega)⟩
abbrev AllV (k : Int) (ops : List OpL) : Prop := ∀ o ∈ ops, OpV k o.1 o.2
theorem yaap {α : Type} {l : List α} {i : Nat} {d : α} (h : i < l.length) : l.getD i d ∈ l := by
  rw [List.getD_eq_getElem?_getD, List.getElem?_eq_getElem h]
  exact List.getElem_mem h
theorem yatw {k : Int} {ops : List OpL} {i : Nat} (hi : i < ops.length) (h : ∀ o ∈ ops.take i, OpV k o.1 o.2) (h1 : OpV k (ops.getD i (0, [])).1 (ops.getD i (0, [])).2) : ∀ o ∈ ops.take (i + 1), OpV k o.1 o.2 := by
  intro o ho
  have hg : ops.getD i (0, []) = ops[i] := by rw [List.getD_eq_getElem?_getD, List.getElem?_eq_getElem hi]; rfl
  rw [List.take_succ_eq_append_getElem hi, List.mem_append, List.mem_singleton, ← hg] at ho
  rcases ho with ho | rfl
  · exact h o ho
  · exact h1
theorem yamk {k : Int} {h : Hp} {p p0 : OA} {n c n0 c0 b1 : Nat} {ops : List OpL} (r : OpsR h p n ops) (hn : n ≤ 1000000) (kb : Blk h b1 [.int .i64 k, .slice p0 n0 c0] 24) :
    yaah Tryz.prog 22 #[.slice p n c, .func (.func 56) #[] #[.pointer (some ⟨b1, 0, none⟩)]] h (fun v h' => v = .bool (!decide (AllV k ops)) ∧ Ext h h') := by
  have hl := r.len
  refine zco_call ?_
  rw [zco_b0]
  refine zcu_call ?_
  rw [zcu_b0]
  refine ⟨fun s h' => Ext h h' ∧ ∃ i : Nat, s.1 = i ∧ i ≤ n ∧ ∀ o ∈ ops.take i, OpV k o.1 o.2, fun s _ => n - s.1.toNat, ⟨Ext.refl h, 0, rfl, by omega, by simp⟩, ?_⟩
  rintro ⟨_, _⟩ h1 ⟨x1, i, rfl, hin, hall⟩
  dsimp only
  rw [zcu_b1]
  refine condP (fun hlt => ?_) (fun hge => ?_)
  · refine r.at_ x1 (by omega) (by omega) fun q m d _ rz => ?_
    rw [Int.toNat_natCast] at rz ⊢
    generalize hop : ops.getD i (0, []) = op at rz ⊢
    show callX Tryz.prog F 56 #[.agg #[.int .i64 op.1, .slice q m d], .pointer (some ⟨b1, 0, none⟩)] _ _
    refine yadl (by kernel_rfl) (zbf_call ?_)
    rw [zbf_b0]
    refine (St.start h1).new (cs := [.int .i64 op.1, .slice q m d]) fun b3 h3 x3 s3 => ?_
    have kb1 := (kb.ext x1).ext x3
    refine ⟨_, kb1.cell 0, _, _, _, _, s3.blk.cell 0, Blk.cellA s3.blk 1, ?_⟩
    refine (yasd ((rz.ext x1).ext x3)).mono fun v h4 ⟨hv, x4⟩ => ⟨_, hv, ⟨_, rfl, ?_⟩⟩
    have x5 : Ext h h4 := (x1.trans x3).trans x4
    refine condN (fun hno => ?_) (fun hyes => ?_)
    · refine ⟨_, rfl, ?_, x5⟩
      rw [decide_eq_true (by omega), decide_eq_false (fun h => hno (by rw [← hop]; exact h _ (yaap (by omega))))]
      rfl
    · rw [zcu_b2]
      exact ⟨⟨by omega, by omega⟩, ⟨x5, i + 1, by simp only; omega, by omega, yatw (by omega) hall (by rw [hop]; exact hyes)⟩, by simp only; omega⟩
  · rw [zcu_b3]
    rw [List.take_of_length_le (by omega)] at hall
    exact ⟨_, rfl, by rw [decide_eq_true hall]; rfl, x1⟩
theorem yavi {k : Int} (hk : 1 ≤ k ∧ k ≤ 6) (h : Hp) : yaah Tryz.prog 24 #[.int .i64 k] h (fun v h' => v = .tuple #[.agg #[.int .i64 k, .slice none 0 0], .int .i64 0] ∧ Ext h h') := by
  refine zbd_call ?_
  rw [zbd_b0]
  refine (St.start h).new (cs := [.int .i64 0, .slice none 0 0]) fun b1 h1 x1 s1 => ?_
  refine (yarp k h1).mono fun v1 h2 ⟨q, d, hv1, rw1, x2⟩ => ⟨_, _, _, hv1, ?_⟩
  have hpos : 0 < (wdT k).length := by
    have hk' : k = 1 ∨ k = 2 ∨ k = 3 ∨ k = 4 ∨ k = 5 ∨ k = 6 := by omega
    rcases hk' with rfl | rfl | rfl | rfl | rfl | rfl <;> decide
  obtain ⟨a, rfl⟩ : ∃ a, q = some a := by
    have := (yane (i := 0) (Q := fun _ _ _ => True) rw1 (by omega) (by omega) trivial).2
    cases q with
    | none => exact this.elim
    | some a => exact ⟨a, rfl⟩
  refine yaau rfl ?_
  have s2 := s1.grow x2
  refine s2.wr rfl (by simp) fun h3 s3 => ?_
  refine s3.wr (o := 1) (yabj _ _ _) (by simp) fun h4 s4 => ?_
  exact ⟨_, _, _, _, s4.blk.cell 0, Blk.cellA s4.blk 1, rfl, s4.ext⟩
theorem yajq {h0 h : Hp} {p : OA} {n c : Nat} {q : OA} {m d : Nat} {xs : List (List Int)} {x : List Int} {A B G : Bag} {e' : TypeId} {k : OA → Nat → Nat → Hp → Prop}
    (s : St h0 h (A + (B + G))) (a : RowsA (p, n, c) xs A) (b : RowP (q, m, d) x B) (he : e' = 29) (hn : n + 1 < 1073741824)
    (hk : ∀ p' c' h' A', RowsA (p', n + 1, c') (xs ++ [x]) A' → St h0 h' (A' + G) → k p' (n + 1) c' h') :
    New h (.cells #[.slice q m d] e') fun b h1 => yaaz Tryz.prog 22 22 (.slice p n c) (.slice (some ⟨b, 0, none⟩) 1 1) h1 (slK k) := by
  subst he
  obtain ⟨hs, B0, B1, rfl, h1, h2⟩ := a
  refine s.new (cs := [.slice q m d]) fun b h3 x3 s3 => ?_
  have sx : Sl TR (some ⟨b, 0, none⟩) 1 1 [(q, m, d)] (cA b [.slice q m d] 29) := Sl.of_blk (T := TR) (xs := [(q, m, d)]) rfl rfl
  refine yacb ybaz (s3.to (B := B0 + (cA b [.slice q m d] 29 + (B1 + (B + G))))) h1 (sx.rd s3) hn fun p' c' h' A' a' s' => ?_
  have s5 := (s'.to (B := cA b [.slice q m d] 29 + (A' + (B1 + B) + G))).drop
  exact hk p' c' h' (A' + (B1 + B)) ⟨hs ++ [(q, m, d)], A', B1 + B, rfl, a', h2.append (AllH.one ‹RowP (q, m, d) x B›)⟩ s5
abbrev row1 (k : Int) : List Int := [k]
def insI (k : Int) (l : List Int) : List Int := l.takeWhile (fun z => decide (z < k)) ++ k :: l.dropWhile (fun z => decide (z < k))
def heapS (l : List Int) (c : Int) (zs : List Int) : List Int × Int × Int :=
  if c = 4 then (l, 0, (l.length : Int)) else if c = 1 then (if l.length = 500 then (l, 4, 0) else (insI (zs.getD 0 0) l, 0, 0))
  else if l.length = 0 then (l, 14, 0) else if c = 3 then (l.tail, 0, l.getD 0 0) else (l, 0, l.getD 0 0)
theorem yafc {l : List Int} {i : Nat} (h : i < l.length) : (l.map row1).getD i [] = [l.getD i 0] := by
  rw [List.getD_eq_getElem?_getD, List.getElem?_map, List.getElem?_eq_getElem h, List.getD_eq_getElem?_getD, List.getElem?_eq_getElem h]; rfl
theorem cmpK1 {l : List Int} {k : Int} {j : Nat} (hj : j < l.length) : cmpK (l.map row1) [k] j = cmpS (l.getD j 0) k := by
  rw [cmpK, yafc hj]
  show (if l.getD j 0 < k then (-1 : Int) else if k < l.getD j 0 then 1 else cmpL [] []) = _
  rfl
theorem yaur {l : List Int} {key : Int} (so : l.Pairwise (· ≤ ·)) : ∀ x ∈ l.dropWhile (fun z => decide (z < key)), key ≤ x := by
  induction l with
  | nil => intro x hx; cases hx
  | cons a l ih =>
    have h := List.pairwise_cons.1 so
    intro x hx
    rw [List.dropWhile_cons] at hx
    by_cases ha : a < key
    · rw [if_pos (decide_eq_true ha)] at hx; exact ih h.2 x hx
    · rw [if_neg (by simpa using ha)] at hx
      rcases List.mem_cons.1 hx with rfl | hx
      · omega
      · have := h.1 x hx; omega
theorem lb_of {l : List Int} {key : Int} (so : l.Pairwise (· ≤ ·)) : (l.takeWhile fun z => decide (z < key)).length ≤ l.length ∧ (∀ j, j < (l.takeWhile fun z => decide (z < key)).length → l.getD j 0 < key) ∧ ∀ j, (l.takeWhile fun z => decide (z < key)).length ≤ j → j < l.length → key ≤ l.getD j 0 := by
  have e := (List.takeWhile_append_dropWhile (p := fun z : Int => decide (z < key)) (l := l)).symm
  have hD := yaur (key := key) so
  have hT : ∀ x ∈ l.takeWhile (fun z => decide (z < key)), x < key := fun x hx => of_decide_eq_true (List.all_eq_true.1 (List.all_takeWhile (p := fun z : Int => decide (z < key)) (l := l)) x hx)
  generalize l.takeWhile (fun z => decide (z < key)) = T at *
  generalize l.dropWhile (fun z => decide (z < key)) = D at *
  subst e
  refine ⟨by rw [List.length_append]; omega, fun j hj => ?_, fun j hj hjl => ?_⟩
  · rw [yaaf (by rw [List.length_append]; omega), List.getElem_append_left hj]
    exact hT _ (List.getElem_mem hj)
  · rw [yaaf hjl, List.getElem_append_right hj]
    exact hD _ (List.getElem_mem _)
theorem yafg {α : Type} {xs X Y : List α} (h : xs = X ++ Y) : xs.take X.length = X ∧ xs.drop X.length = Y := by subst h; exact ⟨List.take_left' rfl, List.drop_left' rfl⟩
section
variable {h0 h : Hp} {b1 b2 : Nat} {l : List Int} {p q : OA} {n c m cc : Nat} {code : Int} {zs : List Int} {B G : Bag}
abbrev yarr (h0 : Hp) (G : Bag) (l : List Int) (c : Int) (zs : List Int) : VK := yafm h0 G ((heapS l c zs).1.map row1) (heapS l c zs).2.1 (heapS l c zs).2.2
theorem yaxb (so : l.Pairwise (· ≤ ·)) (na : RowsA (p, n, c) (l.map row1) B) (rz : RdS h0 G TI q m zs) (hmc : m ≤ cc) (s : St h0 h (B + G)) (hn : n ≤ 1000) (hc : 1 ≤ code ∧ code ≤ 4) (h1 : code = 1 → zs.length = 1) :
    yaah Tryz.prog 93 #[.slice p n c, .agg #[.int .i64 code, .slice q m cc]] h (yarr h0 G l code zs) := by
  have hl : (l.map row1).length = n := yabh na
  rw [List.length_map] at hl
  refine zbu_call ?_
  rw [zbu_b0]
  refine s.new (cs := [.int .i64 code, .slice q m cc]) fun b1 h3 _ s1 => ?_
  refine s1.new (cs := [.int .i64 0, .int .i64 0, .slice none 0 0]) fun b2 h4 _ s2 => ?_
  have s2 : St h0 h4 (cA b2 [.int .i64 0, .int .i64 0, .slice none 0 0] 58 + (cA b1 [.int .i64 code, .slice q m cc] 50 + (B + G))) := s2
  have kb1 := s2.atomBlk
  refine ⟨_, kb1.cell 0, condP (fun h8 => ?_) (fun h8 => ?_)⟩
  · have e : heapS l code zs = (l, 0, (l.length : Int)) := by subst h8; rfl
    rw [yarr, e, hl]
    exact mboxT na s2 (yaal _ _)
  refine condP (fun hp => condP (fun h5 => ?_) (fun h5 => ?_)) (fun hp => ?_)
  · have e : heapS l code zs = (if l.length = 500 then (l, 4, 0) else (insI (zs.getD 0 0) l, 0, 0)) := by subst hp; rfl
    rw [yarr, e, if_pos (by omega)]
    exact mboxT na s2 (yaar _ _)
  · have e : heapS l code zs = (if l.length = 500 then (l, 4, 0) else (insI (zs.getD 0 0) l, 0, 0)) := by subst hp; rfl
    rw [yarr, e, if_neg (by omega)]
    have hrz : RdT TI h4 q m zs := rz h4 (cA b2 [.int .i64 0, .int .i64 0, .slice none 0 0] 58 + (cA b1 [.int .i64 code, .slice q m cc] 50 + B)) s2.to
    have hzl := hrz.len
    have h1 := h1 hp
    have hz : zs = [zs.getD 0 0] := by match zs, h1 with | [a], _ => rfl
    have rk : RdT TI h4 q m [zs.getD 0 0] := by rw [← hz]; exact hrz
    obtain ⟨f1, f2, f3⟩ := lb_of (key := zs.getD 0 0) so
    refine ⟨_, _, _, Blk.cellA kb1 1, ?_⟩
    refine (yapj (t := (l.takeWhile fun z => decide (z < zs.getD 0 0)).length) na (s2.to (B := B + (cA b2 [.int .i64 0, .int .i64 0, .slice none 0 0] 58 + (cA b1 [.int .i64 code, .slice q m cc] 50 + G)))) rk (by omega) (fun r hr => by obtain ⟨e, _, rfl⟩ := List.mem_map.1 hr; simp; omega)
      ⟨by omega, fun j hj => by rw [cmpK1 (by omega)]; have : l.getD j 0 < zs.getD 0 0 := f2 j hj; unfold cmpS; rw [if_pos this]; decide, fun j hj hjn => by rw [cmpK1 (by omega)]; have : zs.getD 0 0 ≤ l.getD j 0 := f3 j hj (by omega); unfold cmpS; rw [if_neg (by omega)]; split <;> decide⟩).mono fun v h5 ⟨hv, hh⟩ => ⟨_, _, hv, ?_⟩
    subst hh
    refine ⟨_, _, _, Blk.cellA kb1 1, (yaeq hrz (by omega)).mono fun v6 h6 ⟨q6, d6, A6, hv6, o6, t6⟩ => ⟨_, _, _, hv6, ?_⟩⟩
    have s6 := s2.join t6
    refine s6.new (cs := [.slice q6 m d6]) fun b3 h7 x7 s7 => ?_
    have s7 := s7.to (B := cA b3 [.slice q6 m d6] 29 + (B + (A6 + (cA b2 [.int .i64 0, .int .i64 0, .slice none 0 0] 58 + (cA b1 [.int .i64 code, .slice q m cc] 50 + G)))))
    refine (yafw na o6 s7 (by omega) (by omega)).mono fun v8 h8 ⟨q', d', B', hv8, na', s8⟩ => ⟨_, _, _, hv8, ?_⟩
    have hrow : (l.map row1).take (l.takeWhile fun z => decide (z < zs.getD 0 0)).length ++ zs :: (l.map row1).drop (l.takeWhile fun z => decide (z < zs.getD 0 0)).length = (insI (zs.getD 0 0) l).map row1 := by
      have e := (List.takeWhile_append_dropWhile (p := fun z : Int => decide (z < zs.getD 0 0)) (l := l)).symm
      obtain ⟨e1, e2⟩ := yafg e
      rw [← List.map_take, ← List.map_drop, e1, e2, insI, List.map_append, List.map_cons]
      show _ ++ zs :: _ = _ ++ [zs.getD 0 0] :: _
      rw [← hz]
    rw [hrow] at na'
    exact mboxT na' (s8.to (B := cA b2 [.int .i64 0, .int .i64 0, .slice none 0 0] 58 + (cA b1 [.int .i64 code, .slice q m cc] 50 + (B' + G)))) (yaal _ _)
  · have e : heapS l code zs = (if l.length = 0 then (l, 14, 0) else if code = 3 then (l.tail, 0, l.getD 0 0) else (l, 0, l.getD 0 0)) := by
      unfold heapS; rw [if_neg h8, if_neg hp]
    rw [yarr, e, zbu_b1]
    refine condP (fun h0 => ?_) (fun h0 => ?_)
    · rw [if_pos (by omega)]
      exact mboxT na s2 (yaar _ _)
    · rw [if_neg (by omega)]
      refine yajg na (s2.at B) (by omega) (by omega) (by omega) (by rw [show Int.toNat (0 : Int) = 0 from rfl, yafc (by omega)]; simp) ?_
      rw [show Int.toNat (0 : Int) = 0 from rfl, yafc (by omega)]
      refine ⟨_, kb1.cell 0, condP (fun h3 => ?_) (fun h3 => ?_)⟩
      · rw [if_pos h3]
        refine (yaer (i := 0) na (s2.to (B := B + (cA b2 [.int .i64 0, .int .i64 0, .slice none 0 0] 58 + (cA b1 [.int .i64 code, .slice q m cc] 50 + G)))) (by omega) rfl (by omega)).mono fun v h' ⟨B', hv, na', s'⟩ => ⟨_, _, _, hv, ?_⟩
        have hrow : (l.map row1).take 0 ++ (l.map row1).drop (0 + 1) = l.tail.map row1 := by
          rw [List.take_zero, List.nil_append, ← List.map_drop, List.drop_one]
        rw [hrow] at na'
        rw [zbu_b2]
        exact mboxT na' (s'.to (B := cA b2 [.int .i64 0, .int .i64 0, .slice none 0 0] 58 + (cA b1 [.int .i64 code, .slice q m cc] 50 + (B' + G)))) (yaal _ _)
      · rw [if_neg h3, zbu_b2]
        exact mboxT na s2 (yaal _ _)
end
section
variable {h0 h : Hp} {b1 b2 b3 b4 : Nat} {p q : OA} {n c m cc : Nat} {k code e z : Int} {rows : List (List Int)} {x0 x1 y0 y1 y2 : Value} {B G : Bag}
theorem get1 {l : List Int} {i : Int} {i' : Nat} {Q : Int → Prop} (na : RowsA (p, n, c) (l.map row1) B) (st : St h0 h (B + G)) (ei : i = (i' : Int)) (hi : i' < n) (hq : Q (l.getD i' 0)) :
    (0 ≤ i ∧ i < (n : Int)) ∧ NN p fun a => ∃ a8 L5 C5, cell h (a.add (i.toNat * 1)) = some (.slice a8 L5 C5) ∧ (0 ≤ (0 : Int) ∧ (0 : Int) < (L5 : Int)) ∧ NN a8 fun a9 => ∃ n4, cell h (a9.add (Int.toNat (0 : Int) * 1)) = some (.int .i64 n4) ∧ Q n4 := by
  have hl : l.length = n := by have := yabh na; rwa [List.length_map] at this
  subst ei
  have hg := yafc (l := l) (i := i') (by omega)
  exact yajg na st (by omega) (by omega) (by omega) (by rw [Int.toNat_natCast, hg]; exact Int.zero_lt_one) (by rw [Int.toNat_natCast, hg]; exact hq)
end
def revL {α : Type} (l : List α) (a b : Nat) : List α := l.take a ++ (((l.drop a).take (b - a)).reverse ++ l.drop b)
theorem yaio {α : Type} {l : List α} {a b : Nat} (h : a ≤ b) (hb : b ≤ l.length) : (revL l a b).length = l.length := by
  unfold revL; simp; omega
theorem yaxg {α : Type} {d : α} {l : List α} {a b t : Nat} (h : a ≤ b) (hb : b ≤ l.length) (ht : t < l.length) : (revL l a b).getD t d = if a ≤ t ∧ t < b then l.getD (a + b - 1 - t) d else l.getD t d := by
  rw [yaaf (by rw [yaio h hb]; exact ht)]
  have h1 : (l.take a).length = a := by rw [List.length_take]; omega
  have h2 : (((l.drop a).take (b - a)).reverse).length = b - a := by simp; omega
  unfold revL
  split
  · rename_i hc
    rw [List.getElem_append_right (by omega), List.getElem_append_left (by omega), List.getElem_reverse, List.getElem_take, List.getElem_drop]
    rw [yaaf (by omega)]
    congr 1
    simp
    omega
  · rename_i hc
    rcases Nat.lt_or_ge t a with hta | hta
    · rw [List.getElem_append_left (by omega), List.getElem_take, yaaf ht]
    · rw [List.getElem_append_right (by omega), List.getElem_append_right (by omega), List.getElem_drop, yaaf ht]
      congr 1
      omega
theorem yawc {α β : Type} (f : α → β) (l : List α) (a b : Nat) : (revL l a b).map f = revL (l.map f) a b := by
  unfold revL; simp
def RevI {α : Type} (d : α) (a b i : Nat) (xs ys : List α) : Prop := ys.length = xs.length ∧ ∀ t, t < xs.length → ys.getD t d = if (a ≤ t ∧ t < a + i) ∨ (b ≤ t + i ∧ t < b) then xs.getD (a + b - 1 - t) d else xs.getD t d
theorem yata {α : Type} {d : α} {a b : Nat} {xs : List α} : RevI d a b 0 xs xs := ⟨rfl, fun t _ => by rw [if_neg (by omega)]⟩
theorem yanc {α : Type} {d x : α} {l : List α} {i j : Nat} (hi : i < l.length) : (l.set i x).getD j d = if i = j then x else l.getD j d := by
  simp only [List.getD_eq_getElem?_getD, List.getElem?_set]
  split
  · rename_i h; subst h; simp [hi]
  · rfl
theorem yatz {α : Type} {d : α} {a b i : Nat} {xs ys : List α} (h : RevI d a b i xs ys) (hb : b ≤ xs.length) (hi : a + i < b - 1 - i) : RevI d a b (i + 1) xs ((ys.set (a + i) (ys.getD (b - 1 - i) d)).set (b - 1 - i) (ys.getD (a + i) d)) := by
  obtain ⟨hl, hg⟩ := h
  refine ⟨by rw [List.length_set, List.length_set, hl], fun t ht => ?_⟩
  rw [yanc (by rw [List.length_set]; omega), yanc (by omega), hg (b - 1 - i) (by omega), hg (a + i) (by omega), hg t ht]
  rw [if_neg (show ¬ ((a ≤ b - 1 - i ∧ b - 1 - i < a + i) ∨ (b ≤ b - 1 - i + i ∧ b - 1 - i < b)) by omega)]
  rw [if_neg (show ¬ ((a ≤ a + i ∧ a + i < a + i) ∨ (b ≤ a + i + i ∧ a + i < b)) by omega)]
  by_cases h1 : b - 1 - i = t
  · rw [if_pos h1, if_pos (by omega)]
    congr 1; omega
  · rw [if_neg h1]
    by_cases h2 : a + i = t
    · rw [if_pos h2, if_pos (by omega)]
      congr 1; omega
    · rw [if_neg h2]
      by_cases h3 : (a ≤ t ∧ t < a + i) ∨ (b ≤ t + i ∧ t < b)
      · rw [if_pos h3, if_pos (by omega)]
      · rw [if_neg h3, if_neg (by omega)]
theorem yaws {α : Type} {d : α} {a b i : Nat} {xs ys : List α} (h : RevI d a b i xs ys) (hab : a ≤ b) (hb : b ≤ xs.length) (hi : b - 1 - i ≤ a + i) (hib : a + i ≤ b) : ys = revL xs a b := by
  refine yaep (d := d) (by rw [yaio hab hb, h.1]) fun t ht => ?_
  rw [yaio hab hb] at ht
  rw [h.2 t ht, yaxg hab hb ht]
  by_cases h1 : a ≤ t ∧ t < b
  · rw [if_pos h1]
    by_cases h2 : (a ≤ t ∧ t < a + i) ∨ (b ≤ t + i ∧ t < b)
    · rw [if_pos h2]
    · rw [if_neg h2]
      have : a + b - 1 - t = t := by omega
      rw [this]
  · rw [if_neg h1, if_neg (by omega)]
theorem AllH.rev : ∀ {bs : List SH} {ts : List (List Int)} {A : Bag}, AllH RowP bs ts A → AllH RowP bs.reverse ts.reverse A
  | [], [], _, h => h
  | _ :: _, [], _, h => h.elim
  | [], _ :: _, _, h => h.elim
  | b :: bs, t :: ts, A, ⟨A1, A2, e, h1, h2⟩ => by
    rw [List.reverse_cons, List.reverse_cons, e, Bag.comm]
    exact (AllH.rev h2).append (AllH.one h1)
theorem AllH.revL {hs : List SH} {rows : List (List Int)} {A : Bag} (h : AllH RowP hs rows A) {a b : Nat} (hab : a ≤ b) : AllH RowP (revL hs a b) (revL rows a b) A := by
  obtain ⟨A1, A2, rfl, h1, h2⟩ := AllH.cut h a
  obtain ⟨A3, A4, rfl, h3, h4⟩ := AllH.cut h2 (b - a)
  rw [List.drop_drop, List.drop_drop, show a + (b - a) = b by omega] at h4
  exact h1.append ((AllH.rev h3).append h4)
section
variable {h0 h : Hp} {p : OA} {n c a0 j : Nat} {hs : List SH} {A F : Bag}
theorem ldSub {Q : OA → Nat → Nat → Prop} (o : Sl TR p n c hs A) (s : St h0 h (A + F)) (hj : a0 + j < n) (hq : Q (hs.getD (a0 + j) TR.d).1 (hs.getD (a0 + j) TR.d).2.1 (hs.getD (a0 + j) TR.d).2.2) :
    NN (yaao p c a0 1) fun ad => ∃ a2 L1 C1, cell h (ad.add (j * 1)) = some (.slice a2 L1 C1) ∧ Q a2 L1 C1 := by
  have r := (o.rd s).sub (i := a0) (m := n - a0) (by omega) o.cap rfl
  have hl := o.len
  have hd : (hs.drop a0).getD j TR.d = hs.getD (a0 + j) TR.d := by rw [yaaf (by rw [List.length_drop]; omega), yaaf (by omega), List.getElem_drop]
  obtain ⟨ad, hp, hc⟩ := r.at_ (i := j) (by omega)
  rw [hd] at hc
  refine yaan hp ⟨_, _, _, by simpa [yadc] using hc 0 (by decide), hq⟩
theorem wrSub {x : SH} {k : Hp → Prop} (o : Sl TR p n c hs A) (s : St h0 h (A + F)) (hj : a0 + j < n) (hk : ∀ h' A', Sl TR p n c (hs.set (a0 + j) x) A' → St h0 h' (A' + F) → k h') :
    NN (yaao p c a0 1) fun ad => Wr h (ad.add (j * 1)) (.slice x.1 x.2.1 x.2.2) k := by
  have hc := o.cap
  obtain ⟨ad, hp, hw⟩ := o.wr (i := a0 + j) (j := 0) (v := .slice x.1 x.2.1 x.2.2) (x := x) (k := k) s hj (by decide) rfl hk
  rcases o with ⟨hl, ⟨h1, _⟩ | ⟨b, rest, hb, _⟩⟩
  · rw [h1] at hp; cases hp
  · rw [hb] at hp
    cases hp
    subst hb
    rw [yabw (by omega)]
    show Wr h _ _ k
    rw [yabj, yabj] at hw
    rw [yabj]
    have e : 0 + a0 * 1 + j * 1 = 0 + (a0 + j) * TR.sz + 0 := by show 0 + a0 * 1 + j * 1 = 0 + (a0 + j) * 1 + 0; omega
    rw [e]
    exact hw
end
def seqS (l : List Int) (c : Int) (zs : List Int) : List Int × Int × Int :=
  if c = 7 then (l, 0, (l.length : Int)) else if c = 5 ∨ c = 6 then
    (if zs.getD 0 0 < 0 ∨ zs.getD 1 0 < zs.getD 0 0 ∨ (l.length : Int) < zs.getD 1 0 then (l, 2, 0) else if c = 6 then (revL l (zs.getD 0 0).toNat (zs.getD 1 0).toNat, 0, 0) else (l, 0, ((l.drop (zs.getD 0 0).toNat).take ((zs.getD 1 0).toNat - (zs.getD 0 0).toNat)).sum))
  else if c = 1 then (if zs.getD 0 0 < 0 ∨ (l.length : Int) < zs.getD 0 0 then (l, 2, 0) else if l.length = 500 then (l, 4, 0) else (l.take (zs.getD 0 0).toNat ++ zs.getD 1 0 :: l.drop (zs.getD 0 0).toNat, 0, 0))
  else if zs.getD 0 0 < 0 ∨ (l.length : Int) ≤ zs.getD 0 0 then (l, 2, 0) else if c = 2 then (l.take (zs.getD 0 0).toNat ++ l.drop ((zs.getD 0 0).toNat + 1), 0, l.getD (zs.getD 0 0).toNat 0)
  else if c = 4 then (l.set (zs.getD 0 0).toNat (zs.getD 1 0), 0, l.getD (zs.getD 0 0).toNat 0) else (l, 0, l.getD (zs.getD 0 0).toNat 0)
theorem ybaw {l : List Int} (h : ∀ z ∈ l, KeyP z) : -(1048576 * (l.length : Int)) ≤ l.sum ∧ l.sum ≤ 1048576 * (l.length : Int) := by
  induction l with
  | nil => decide
  | cons a l ih =>
    have := ih fun z hz => h z (List.mem_cons_of_mem _ hz)
    have := h a List.mem_cons_self
    rw [List.sum_cons, List.length_cons]
    push_cast
    omega
theorem yaxw {l : List Int} {a i : Nat} (hai : a ≤ i) (h : i < l.length) : ((l.drop a).take (i + 1 - a)).sum = ((l.drop a).take (i - a)).sum + l.getD i 0 := by
  have hl : i - a < (l.drop a).length := by rw [List.length_drop]; omega
  rw [show i + 1 - a = i - a + 1 by omega, List.take_succ_eq_append_getElem hl, List.sum_append, List.getElem_drop]
  simp only [List.sum_cons, List.sum_nil, Int.add_zero, yaaf h, show a + (i - a) = i by omega]
abbrev MSeqP (h0 : Hp) (G : Bag) (l : List Int) (c : Int) (zs : List Int) : VK := yafm h0 G ((seqS l c zs).1.map row1) (seqS l c zs).2.1 (seqS l c zs).2.2
section
variable {h0 h : Hp} {b1 b2 : Nat} {l : List Int} {p q : OA} {n c m cc : Nat} {code : Int} {zs : List Int} {B G : Bag}
theorem yarj {hs : List SH} {A F : Bag} {a b : Nat} (o : Sl TR p n c hs A) (s : St h0 h (A + F)) (hab : a ≤ b) (hb : b ≤ n) (hn : n ≤ 1000000) :
    yaah Tryz.prog 131 #[.slice (yaao p c a 1) (b - a) (c - a)] h (fun v h' => v = .tuple #[] ∧ ∃ A', Sl TR p n c (revL hs a b) A' ∧ St h0 h' (A' + F)) := by
  have hl := o.len
  refine zcz_call ?_
  rw [zcz_b0]
  refine ⟨⟨by omega, by omega⟩, fun x h' => ∃ (i : Nat) (ys : List SH) (A : Bag), x.1 = i ∧ x.2.1 = ((b - a : Nat) : Int) - 1 - i ∧ (i : Int) ≤ ((b - a : Nat) : Int) ∧ RevI TR.d a b i hs ys ∧ Sl TR p n c ys A ∧ St h0 h' (A + F), fun x _ => (x.2.1 - x.1 + 1).toNat, ⟨0, hs, A, rfl, by simp, by omega, yata, o, s⟩, ?_⟩
  clear o s A
  rintro ⟨x, y, _⟩ h1 ⟨i, ys, A, hx, hy, hi, hr, o, s⟩
  dsimp only at hx hy ⊢
  subst hx hy
  rw [zcz_b1]
  have hyl := o.len
  refine condP (fun hlt => ?_) (fun hge => ?_)
  · have ej : Int.toNat (((b - a : Nat) : Int) - 1 - (i : Int)) = b - a - 1 - i := by omega
    have ei : Int.toNat (i : Int) = i := Int.toNat_natCast i
    have ei1 : Int.toNat ((i : Int) + 1) = i + 1 := by omega
    simp only [ej, ei]
    have e1 : a + (b - a - 1 - i) = b - 1 - i := by omega
    refine ⟨⟨by omega, by omega⟩, ldSub o s (by omega) ⟨⟨by omega, by omega⟩, ldSub o s (by omega) ⟨⟨by omega, by omega⟩, ?_⟩⟩⟩
    rw [e1]
    refine wrSub (x := ys.getD (b - 1 - i) TR.d) o s (by omega) fun h2 A2 o2 s => ⟨⟨by omega, by omega⟩, wrSub (x := ys.getD (a + i) TR.d) o2 s (by omega) fun h3 A3 o3 s => ?_⟩
    rw [e1] at o3
    rw [zcz_b2]
    refine ⟨⟨by omega, by omega⟩, ⟨by omega, by omega⟩, ⟨i + 1, _, A3, by push_cast; rfl, by push_cast; omega, by push_cast; omega, yatz hr (by omega) (by omega), o3, s⟩, by dsimp only; omega⟩
  · refine ⟨rfl, A, ?_, s⟩
    rw [← yaws hr hab (by omega) (by omega) (by omega)]
    exact o
theorem yavr {rows : List (List Int)} {F : Bag} {a b : Nat} (na : RowsA (p, n, c) rows B) (s : St h0 h (B + F)) (hab : a ≤ b) (hb : b ≤ n) (hn : n ≤ 1000000) :
    yaah Tryz.prog 131 #[.slice (yaao p c a 1) (b - a) (c - a)] h (fun v h' => v = .tuple #[] ∧ ∃ B', RowsA (p, n, c) (revL rows a b) B' ∧ St h0 h' (B' + F)) := by
  obtain ⟨hs, B0, B1, rfl, h1, h2⟩ := na
  exact (yarj h1 (s.to (B := B0 + (B1 + F))) hab hb hn).mono fun v h' ⟨hv, A', o, s⟩ => ⟨hv, A' + B1, ⟨_, A', B1, rfl, o, AllH.revL h2 hab⟩, s.to⟩
end
section
variable {h0 h : Hp} {p q : OA} {n c m cc : Nat} {hs : List SH} {A F B G : Bag}
theorem ldH {i : Int} {i' : Nat} {Q : OA → Nat → Nat → Prop} (o : Sl TR p n c hs A) (s : St h0 h (A + F)) (ei : i = (i' : Int)) (hi : i' < n) (hq : Q (hs.getD i' TR.d).1 (hs.getD i' TR.d).2.1 (hs.getD i' TR.d).2.2) :
    (0 ≤ i ∧ i < (n : Int)) ∧ NN p fun ad => ∃ a2 L1 C1, cell h (ad.add (i.toNat * 1)) = some (.slice a2 L1 C1) ∧ Q a2 L1 C1 := by
  subst ei
  refine ⟨⟨by omega, by omega⟩, ?_⟩
  obtain ⟨ad, hp, hc⟩ := (o.rd s).at_ (i := i') hi
  exact yaan hp ⟨_, _, _, by simpa [yadc] using hc 0 (by decide), hq⟩
theorem wrH {i : Int} {i' : Nat} {x : SH} {k : Hp → Prop} (o : Sl TR p n c hs A) (s : St h0 h (A + F)) (ei : i = (i' : Int)) (hi : i' < n) (hk : ∀ h' A', Sl TR p n c (hs.set i' x) A' → St h0 h' (A' + F) → k h') :
    (0 ≤ i ∧ i < (n : Int)) ∧ NN p fun ad => Wr h (ad.add (i.toNat * 1)) (.slice x.1 x.2.1 x.2.2) k := by
  subst ei
  refine ⟨⟨by omega, by omega⟩, ?_⟩
  obtain ⟨ad, hp, hw⟩ := o.wr (i := i') (j := 0) (v := .slice x.1 x.2.1 x.2.2) (x := x) (k := k) s hi (by decide) rfl hk
  refine yaan hp ?_
  rw [Int.toNat_natCast]
  exact hw
end
theorem yaxq {l : List Int} (hk : ∀ z ∈ l, KeyP z) (i : Nat) : KeyP (l.getD i 0) := by
  rcases Nat.lt_or_ge i l.length with h | h
  · exact hk _ (by rw [yaaf h]; exact List.getElem_mem h)
  · rw [List.getD_eq_getElem?_getD, List.getElem?_eq_none h]; exact ⟨by decide, by decide⟩
section
variable {h0 h : Hp} {b1 b2 b3 b4 : Nat} {l : List Int} {p q : OA} {n c m cc : Nat} {code : Int} {zs : List Int} {B G : Bag} {x0 x1 y0 y1 y2 : Value}
end
section
variable {h0 h : Hp} {b1 b2 : Nat} {l : List Int} {p q : OA} {n c m cc : Nat} {code : Int} {zs : List Int} {B G : Bag} {y0 y1 y2 : Value}
abbrev modA (b1 b2 : Nat) (code : Int) (q : OA) (m cc : Nat) (y0 y1 y2 : Value) (B G : Bag) : Bag :=
  cA b2 [y0, y1, y2] 58 + (cA b1 [.int .i64 code, .slice q m cc] 50 + (B + G))
theorem yark (hk : ∀ z ∈ l, KeyP z) (na : RowsA (p, n, c) (l.map row1) B) (rz : RdT TI h q m zs) (s : St h0 h (modA b1 b2 code q m cc y0 y1 y2 B G)) (hn : n ≤ 1000) (hcn : n ≤ c) (hc : code = 5 ∨ code = 6) (h1 : 2 ≤ zs.length) :
    zby_b1 p n c (some ⟨b1, 0, none⟩) (some ⟨b2, 0, none⟩) true h (MSeqP h0 G l code zs) := by
  have hl : (l.map row1).length = n := yabh na
  rw [List.length_map] at hl
  have hzl := rz.len
  have e : seqS l code zs = (if zs.getD 0 0 < 0 ∨ zs.getD 1 0 < zs.getD 0 0 ∨ (l.length : Int) < zs.getD 1 0 then (l, 2, 0) else if code = 6 then (revL l (zs.getD 0 0).toNat (zs.getD 1 0).toNat, 0, 0) else (l, 0, ((l.drop (zs.getD 0 0).toNat).take ((zs.getD 1 0).toNat - (zs.getD 0 0).toNat)).sum)) := by
    rcases hc with rfl | rfl <;> rfl
  delta modA at s
  rw [MSeqP, e, zby_b1]
  refine yaax rfl ⟨_, _, _, s.ldB, ldI (i' := 0) rz rfl (by omega) ⟨_, _, _, s.ldB, ldI (i' := 1) rz rfl (by omega) ?_⟩⟩
  refine condP (fun h5 => ?_) (fun h5 => condP (fun h6 => ?_) (fun h6 => condP (fun h7 => ?_) (fun h7 => ?_)))
  · rw [if_pos (by omega)]; exact mboxT na s (yaar _ _)
  · rw [if_pos (by omega)]; exact mboxT na s (yaar _ _)
  · rw [if_pos (by omega)]; exact mboxT na s (yaar _ _)
  rw [if_neg (by omega), zby_b2]
  obtain ⟨a, ha⟩ : ∃ a : Nat, zs.getD 0 0 = a := ⟨(zs.getD 0 0).toNat, by omega⟩
  obtain ⟨b, hb⟩ : ∃ b : Nat, zs.getD 1 0 = b := ⟨(zs.getD 1 0).toNat, by omega⟩
  simp only [ha, hb, Int.toNat_natCast] at h5 h6 h7 ⊢
  refine ⟨_, s.ld0, condP (fun h8 => ?_) (fun h8 => ?_)⟩
  · rw [if_pos h8]
    refine ⟨⟨by omega, by omega, by omega⟩, (yavr (a := a) (b := b) na (s.at B) (by omega) (by omega) (by omega)).mono fun v h1 ⟨hv, B', na', s⟩ => ⟨hv, ?_⟩⟩
    rw [← yawc] at na'
    exact mboxT (b2 := b2) (D := cA b1 [.int .i64 code, .slice q m cc] 50) na' s.to (yaal _ _)
  · rw [if_neg h8]
    refine ⟨⟨by omega, by omega, by omega⟩, fun x h' => h' = h ∧ ∃ i : Nat, x.2.1 = i ∧ i ≤ b - a ∧ x.1 = ((l.drop a).take i).sum, fun x _ => ((b - a : Nat) - x.2.1).toNat, ⟨rfl, 0, rfl, Nat.zero_le _, by simp⟩, ?_⟩
    rintro ⟨x, y, _⟩ h7 ⟨rfl, i, rfl, hi2, hx⟩
    dsimp only at hx ⊢
    subst hx
    rw [zby_b4]
    refine condP (fun hlt => ?_) (fun hge => ?_)
    · obtain ⟨hs, B0, B1, rfl, o, hh⟩ := na
      have hol : hs.length = n := o.len
      refine ⟨⟨by omega, by omega⟩, ?_⟩
      have hg : ∃ A1 A2, B1 = A1 + A2 ∧ RowP (hs.getD (a + i) TR.d) [l.getD (a + i) 0] A1 := by
        obtain ⟨Ai, Br, hB, hp, _⟩ := AllH.edit hh (i := a + i) (by omega)
        rw [yafc (by omega)] at hp
        exact ⟨Ai, Br, hB, hp⟩
      obtain ⟨A1, A2, rfl, o1⟩ := hg
      have o1l : 1 = (hs.getD (a + i) TR.d).2.1 := o1.len
      simp only [Int.toNat_natCast]
      refine ldSub (a0 := a) (n := n) (c := c) (p := p) (j := i) o (s.at B0) (by omega) ?_
      · have hrd := (o1.rd (s.at A1))
        refine ldI (i := 0) (i' := 0) hrd rfl (by omega) ?_
        show InR (((l.drop a).take i).sum + l.getD (a + i) 0) ∧ zby_b7 p n c _ (((l.drop a).take i).sum + l.getD (a + i) 0) _ _ _ _ _ _ _ _
        have es := yaxw (l := l) (a := a) (i := a + i) (by omega) (by omega)
        rw [show a + i + 1 - a = i + 1 by omega, show a + i - a = i by omega] at es
        rw [← es, zby_b7]
        have hb := ybaw (l := (l.drop a).take (i + 1)) fun z hz => hk z (List.mem_of_mem_drop (List.mem_of_mem_take hz))
        have hbl : ((l.drop a).take (i + 1)).length ≤ 1000 := by rw [List.length_take, List.length_drop]; omega
        refine ⟨⟨by omega, by omega⟩, ⟨by omega, by omega⟩, ⟨rfl, i + 1, by push_cast; rfl, by omega, rfl⟩, by dsimp only; omega⟩
    · have : i = b - a := by omega
      subst this
      rw [zby_b8]
      exact mboxT na s (yaal _ _)
theorem yagx {l' : List Int} (z : Int) (na : RowsA (p, n, c) (l'.map row1) B) (s : St h0 h (modA b1 b2 code q m cc y0 y1 y2 B G)) : zby_b9 p n c (some ⟨b2, 0, none⟩) z h (yafm h0 G (l'.map row1) 0 z) := by
  delta modA at s
  rw [zby_b9]
  exact mboxT na s (yaal _ _)
theorem ybas (hk : ∀ z ∈ l, KeyP z) (na : RowsA (p, n, c) (l.map row1) B) (rz : RdS h0 G TI q m zs) (hmc : m ≤ cc) (s : St h0 h (B + G)) (hn : n ≤ 1000) (hcn : n ≤ c) (hc : 1 ≤ code ∧ code ≤ 7) (h1 : code ≠ 7 → 1 ≤ zs.length) (h2 : code = 1 ∨ (4 ≤ code ∧ code ≤ 6) → 2 ≤ zs.length) :
    yaah Tryz.prog 94 #[.slice p n c, .agg #[.int .i64 code, .slice q m cc]] h (MSeqP h0 G l code zs) := by
  have hl : (l.map row1).length = n := yabh na
  rw [List.length_map] at hl
  refine zby_call ?_
  rw [zby_b0]
  refine s.new (cs := [_, _]) fun b1 h3 _ s => s.new (cs := [_, _, _]) fun b2 h4 _ s => ?_
  have hrz : RdT TI h4 q m zs := rz h4 (cA b2 [.int .i64 0, .int .i64 0, .slice none 0 0] 58 + (cA b1 [.int .i64 code, .slice q m cc] 50 + B)) s.to
  have hzl := hrz.len
  by_cases h56 : code = 5 ∨ code = 6
  · have hb2 := yark hk na hrz (b1 := b1) (b2 := b2) (cc := cc) (code := code) (y0 := .int .i64 0) (y1 := .int .i64 0) (y2 := .slice none 0 0) (by delta modA; exact s) hn hcn h56 (h2 (by omega))
    refine ⟨_, s.ld0, yaau (decide_eq_false (by omega)) (condP (fun h5 => ?_) (fun h5 => ?_))⟩
    · rw [decide_eq_true h5]; exact hb2
    · rw [decide_eq_true (show code = 6 by omega)]; exact hb2
  refine ⟨_, s.ld0, condP (fun h7 => ?_) (fun h7 => ?_)⟩
  · have e : seqS l code zs = (l, 0, (l.length : Int)) := by subst h7; rfl
    rw [MSeqP, e, hl]
    exact mboxT na s (yaal _ _)
  refine yaau (decide_eq_false (by omega)) ?_
  rw [decide_eq_false (show ¬ code = 6 by omega), zby_b1]
  refine yaau rfl ?_
  rw [zby_b3]
  refine ⟨_, _, _, s.ldB, ldI (i' := 0) hrz rfl (by omega) ⟨_, s.ld0, condP (fun hp => ?_) (fun hp => ?_)⟩⟩
  · have e : seqS l code zs = (if zs.getD 0 0 < 0 ∨ (l.length : Int) < zs.getD 0 0 then (l, 2, 0) else if l.length = 500 then (l, 4, 0) else (l.take (zs.getD 0 0).toNat ++ zs.getD 1 0 :: l.drop (zs.getD 0 0).toNat, 0, 0)) := by subst hp; rfl
    rw [MSeqP, e]
    refine condP (fun h3 => ?_) (fun h3 => condP (fun h4 => ?_) (fun h4 => condP (fun h5 => ?_) (fun h5 => ?_)))
    · rw [if_pos (by omega)]; exact mboxT na s (yaar _ _)
    · rw [if_pos (by omega)]; exact mboxT na s (yaar _ _)
    · rw [if_neg (by omega), if_pos (by omega)]; exact mboxT na s (yaar _ _)
    rw [if_neg (by omega), if_neg (by omega), zby_b5]
    obtain ⟨a, ha⟩ : ∃ a : Nat, zs.getD 0 0 = a := ⟨(zs.getD 0 0).toNat, by omega⟩
    have h2 := h2 (by omega)
    simp only [ha, Int.toNat_natCast] at h3 h4 ⊢
    refine ⟨_, _, _, s.ldB, ldI (i' := 1) hrz rfl (by omega) (s.new (cs := [_]) fun b5 h8 _ s => s.new (cs := [_]) fun b6 h9 _ s => ?_)⟩
    have o5 : Sl TI (some ⟨b5, 0, none⟩) 1 1 [zs.getD 1 0] (cA b5 [.int .i64 (zs.getD 1 0)] 3) := Sl.of_blk (T := TI) rfl rfl
    refine (yafw (b := b6) na o5 (s.to (B := cA b6 [.slice (some ⟨b5, 0, none⟩) 1 1] 29 + (B + (cA b5 [.int .i64 (zs.getD 1 0)] 3 + (cA b2 [.int .i64 0, .int .i64 0, .slice none 0 0] 58 + (cA b1 [.int .i64 code, .slice q m cc] 50 + G)))))) (by omega) (by omega)).mono fun v h9 ⟨q', d', B', hv, na', s⟩ => ⟨_, _, _, hv, ?_⟩
    have hrow : (l.map row1).take a ++ [zs.getD 1 0] :: (l.map row1).drop a = (l.take a ++ zs.getD 1 0 :: l.drop a).map row1 := by
      rw [← List.map_take, ← List.map_drop, List.map_append, List.map_cons]
    rw [hrow] at na'
    exact mboxT (b2 := b2) (D := cA b1 [.int .i64 code, .slice q m cc] 50) na' s.to (yaal _ _)
  · have e : seqS l code zs = (if zs.getD 0 0 < 0 ∨ (l.length : Int) ≤ zs.getD 0 0 then (l, 2, 0) else if code = 2 then (l.take (zs.getD 0 0).toNat ++ l.drop ((zs.getD 0 0).toNat + 1), 0, l.getD (zs.getD 0 0).toNat 0) else if code = 4 then (l.set (zs.getD 0 0).toNat (zs.getD 1 0), 0, l.getD (zs.getD 0 0).toNat 0) else (l, 0, l.getD (zs.getD 0 0).toNat 0)) := by
      unfold seqS; rw [if_neg h7, if_neg h56, if_neg hp]
    rw [MSeqP, e]
    refine condP (fun h3 => ?_) (fun h3 => condP (fun h4 => ?_) (fun h4 => ?_))
    · rw [if_pos (by omega)]; exact mboxT na s (yaar _ _)
    · rw [if_pos (by omega)]; exact mboxT na s (yaar _ _)
    rw [if_neg (by omega), zby_b6]
    obtain ⟨a, ha⟩ : ∃ a : Nat, zs.getD 0 0 = a := ⟨(zs.getD 0 0).toNat, by omega⟩
    simp only [ha, Int.toNat_natCast] at h3 h4 ⊢
    refine get1 na (s.at B) rfl (by omega) ⟨_, s.ld0, condP (fun h5 => ?_) (fun h5 => condP (fun h6 => ?_) (fun h6 => ?_))⟩
    · rw [if_pos h5]
      refine ⟨⟨by omega, by omega⟩, (yaer (i := a) na (s.at B) (by omega) rfl (by omega)).mono fun v h' ⟨B', hv, na', s⟩ => ⟨_, _, _, hv, ?_⟩⟩
      have hrow : (l.map row1).take a ++ (l.map row1).drop (a + 1) = (l.take a ++ l.drop (a + 1)).map row1 := by
        rw [← List.map_take, ← List.map_drop, List.map_append]
      rw [hrow] at na'
      exact yagx (b1 := b1) (b2 := b2) (code := code) (q := q) (m := m) (cc := cc) (y0 := .int .i64 0) (y1 := .int .i64 0) (y2 := .slice none 0 0) _ na' (by delta modA; exact s.to)
    · rw [if_neg h5, if_pos h6]
      have h2 := h2 (by omega)
      refine yaev na (s.at B) (by omega) (by omega) fun q' l' d' Bi Br o hB hset => ⟨_, _, _, s.ldB, ldI (i' := 1) hrz rfl (by omega) ?_⟩
      rw [Int.toNat_natCast, yafc (by omega)] at o
      have ol : 1 = l' := o.len
      subst ol
      subst hB
      refine Sl.wrI (F := cA b2 [.int .i64 0, .int .i64 0, .slice none 0 0] 58 + (cA b1 [.int .i64 code, .slice q m cc] 50 + (Br + G))) (x := zs.getD 1 0) o s.to (by omega) (by omega) rfl rfl fun h' A' o' s' => ?_
      have na' := hset _ _ o'
      have hrow : (l.map row1).set (Int.toNat (a : Int)) ([l.getD a 0].set (Int.toNat (0 : Int)) (zs.getD 1 0)) = (l.set a (zs.getD 1 0)).map row1 := by
        rw [Int.toNat_natCast, List.map_set]; rfl
      rw [hrow] at na'
      exact yagx (b1 := b1) (b2 := b2) (code := code) (q := q) (m := m) (cc := cc) (y0 := .int .i64 0) (y1 := .int .i64 0) (y2 := .slice none 0 0) _ na' (by delta modA; exact s'.to)
    · rw [if_neg h5, if_neg h6]
      exact yagx (b1 := b1) (b2 := b2) (code := code) (q := q) (m := m) (cc := cc) (y0 := .int .i64 0) (y1 := .int .i64 0) (y2 := .slice none 0 0) _ na (by delta modA; exact s)
end
def clsN (rows : List (List Int)) (x : Int) : Nat := rows.findIdx fun r => decide (x ∈ r)
def clsZ (rows : List (List Int)) (x : Int) : Int := if clsN rows x < rows.length then (clsN rows x : Int) else -1
def tot (rows : List (List Int)) : Nat := (rows.map List.length).sum
def yadj : List Int → List Int → List Int
  | [], ys => ys
  | x :: xs, [] => x :: xs
  | x :: xs, y :: ys => if x < y then x :: yadj xs (y :: ys) else y :: yadj (x :: xs) ys
theorem yabk : ∀ xs ys : List Int, (yadj xs ys).Perm (xs ++ ys)
  | [], ys => by rw [yadj]; exact .refl _
  | x :: xs, [] => by rw [yadj, List.append_nil]
  | x :: xs, y :: ys => by
    rw [yadj]
    split
    · exact (yabk xs (y :: ys)).cons _
    · exact ((yabk (x :: xs) ys).cons _).trans (List.perm_middle (l₁ := x :: xs)).symm
theorem yarn (xs ys : List Int) : (yadj xs ys).length = xs.length + ys.length := by rw [(yabk xs ys).length_eq, List.length_append]
theorem yacj : ∀ xs ys : List Int, xs.Pairwise (· ≤ ·) → ys.Pairwise (· ≤ ·) → (yadj xs ys).Pairwise (· ≤ ·)
  | [], ys, _, h => by rw [yadj]; exact h
  | x :: xs, [], h, _ => by rw [yadj]; exact h
  | x :: xs, y :: ys, h1, h2 => by
    rw [yadj]
    have a1 := List.pairwise_cons.1 h1
    have a2 := List.pairwise_cons.1 h2
    split
    · rename_i hlt
      refine List.pairwise_cons.2 ⟨fun z hz => ?_, yacj xs (y :: ys) a1.2 h2⟩
      rcases List.mem_append.1 ((yabk _ _).mem_iff.1 hz) with hz | hz
      · exact a1.1 z hz
      · rcases List.mem_cons.1 hz with rfl | hz
        · omega
        · have := a2.1 z hz; omega
    · rename_i hge
      refine List.pairwise_cons.2 ⟨fun z hz => ?_, yacj (x :: xs) ys h1 a2.2⟩
      rcases List.mem_append.1 ((yabk _ _).mem_iff.1 hz) with hz | hz
      · rcases List.mem_cons.1 hz with rfl | hz
        · omega
        · have := a1.1 z hz; omega
      · exact a2.1 z hz
def cutL {α : Type} (l : List α) (i : Nat) : List α := l.take i ++ l.drop (i + 1)
def uniR (rows : List (List Int)) (a b : Nat) : List (List Int) := cutL (rows.set (min a b) (yadj (rows.getD a []) (rows.getD b []))) (max a b)
def setsS (rows : List (List Int)) (c : Int) (zs : List Int) : List (List Int) × Int × Int :=
  if c = 1 then (if tot rows = 500 then (rows, 4, 0) else (rows ++ [[(tot rows : Int)]], 0, (tot rows : Int)))
  else if c = 5 then (rows, 0, (rows.length : Int))
  else if c = 4 then (if clsZ rows (zs.getD 0 0) < 0 then (rows, 12, 0) else (rows, 0, ((rows.getD (clsN rows (zs.getD 0 0)) []).length : Int)))
  else if clsZ rows (zs.getD 0 0) < 0 ∨ clsZ rows (zs.getD 1 0) < 0 then (rows, 12, 0)
  else if c = 3 then (rows, 0, if clsN rows (zs.getD 0 0) = clsN rows (zs.getD 1 0) then 1 else 0)
  else if clsN rows (zs.getD 0 0) = clsN rows (zs.getD 1 0) then (rows, 0, 0)
  else (uniR rows (clsN rows (zs.getD 0 0)) (clsN rows (zs.getD 1 0)), 0, 1)
abbrev yaom (h0 : Hp) (G : Bag) (l : List (List Int)) (c : Int) (zs : List Int) : VK := yafm h0 G (setsS l c zs).1 (setsS l c zs).2.1 (setsS l c zs).2.2
theorem yaza {rows : List (List Int)} {x : Int} {i : Nat} (hi : i < rows.length) (h1 : ∀ j, j < i → x ∉ rows.getD j []) (h2 : x ∈ rows.getD i []) : clsN rows x = i := by
  unfold clsN
  refine List.findIdx_eq hi |>.2 ⟨?_, fun j hj => ?_⟩
  · rw [yaaf hi] at h2; simpa using h2
  · have := h1 j hj
    rw [yaaf (by omega)] at this
    simpa using this
theorem yayw {rows : List (List Int)} {x : Int} (h1 : ∀ j, j < rows.length → x ∉ rows.getD j []) : clsN rows x = rows.length := by
  unfold clsN
  refine List.findIdx_eq_length.2 fun r hr => ?_
  obtain ⟨j, hj, e⟩ := List.mem_iff_getElem.1 hr
  have := h1 j hj
  rw [yaaf hj, e] at this
  simpa using this
theorem ybah {rows : List (List Int)} {x : Int} {i : Nat} (hi : i < rows.length) (h1 : ∀ j, j < i → x ∉ rows.getD j []) (h2 : x ∈ rows.getD i []) : clsZ rows x = i := by
  unfold clsZ; rw [yaza hi h1 h2, if_pos hi]
theorem ybat {rows : List (List Int)} {x : Int} (h1 : ∀ j, j < rows.length → x ∉ rows.getD j []) : clsZ rows x = -1 := by
  unfold clsZ; rw [yayw h1, if_neg (by omega)]
theorem yagf {rows : List (List Int)} {x : Int} (h : ¬ clsZ rows x < 0) : clsZ rows x = clsN rows x ∧ clsN rows x < rows.length := by
  unfold clsZ at *; split <;> rename_i hc <;> simp_all
theorem yalu {rows : List (List Int)} {i : Nat} (h : i < rows.length) : tot (rows.take (i + 1)) = tot (rows.take i) + (rows.getD i []).length := by
  unfold tot
  rw [List.take_succ_eq_append_getElem h, List.map_append, List.sum_append, yaaf h]
  simp
theorem yaxk {rows : List (List Int)} (i : Nat) : tot (rows.take i) ≤ tot rows := by
  have e : tot rows = tot (rows.take i) + tot (rows.drop i) := by
    unfold tot
    rw [← List.sum_append, ← List.map_append, List.take_append_drop]
  omega
theorem yakp {rows : List (List Int)} {i : Nat} : (rows.getD i []).length ≤ tot rows := by
  rcases Nat.lt_or_ge i rows.length with h | h
  · have := yalu h
    have := yaxk (rows := rows) (i + 1)
    omega
  · rw [List.getD_eq_getElem?_getD, List.getElem?_eq_none h]; simp
section
variable {h0 h : Hp} {p : OA} {n c : Nat} {rows : List (List Int)} {B G : Bag}
theorem yaif {i : Int} {i' : Nat} {Q : OA → Nat → Nat → Prop} (na : RowsA (p, n, c) rows B) (st : St h0 h (B + G)) (ei : i = (i' : Int)) (hi : i' < n)
    (hq : ∀ q d, RdT TI h q (rows.getD i' []).length (rows.getD i' []) → Q q (rows.getD i' []).length d) : (0 ≤ i ∧ i < (n : Int)) ∧ NN p fun a => ∃ q l d, cell h (a.add (i.toNat * 1)) = some (.slice q l d) ∧ Q q l d := by
  subst ei
  refine yaev na st (by omega) (by omega) fun q l d Bi Br o hB _ => ?_
  rw [Int.toNat_natCast] at o
  have ol : (rows.getD i' []).length = l := o.len
  subst ol
  subst hB
  exact hq q d (o.rd (st.at Bi))
theorem yawd {q : OA} {m d : Nat} {zs : List Int} (r : RdT TI h q m zs) (hm : m ≤ 1000000) (x : Int) :
    yaah Tryz.prog 149 #[.slice q m d, .int .i64 x] h (fun v h' => h' = h ∧ v = .bool (decide (x ∈ zs))) := by
  have hzl := r.len
  refine zcq_call ?_
  rw [zcq_b0]
  refine zcx_call ?_
  rw [zcx_b0]
  refine ⟨fun s h' => h' = h ∧ ∃ i : Nat, s.1 = i ∧ i ≤ m ∧ x ∉ zs.take i, fun s _ => (m - s.1).toNat, ⟨rfl, 0, rfl, by omega, by simp⟩, ?_⟩
  rintro ⟨_, _⟩ h1 ⟨rfl, i, rfl, hin, hno⟩
  dsimp only
  rw [zcx_b1]
  refine condP (fun hlt => ?_) (fun hge => ?_)
  · refine ldI (i' := i) r rfl (by omega) (condP (fun he => ?_) (fun hne => ?_))
    · refine ⟨_, rfl, rfl, ?_⟩
      rw [decide_eq_true (by omega), decide_eq_true]
      rw [he]; exact yaap (by omega)
    · rw [zcx_b2]
      refine ⟨⟨by omega, by omega⟩, ⟨rfl, i + 1, by push_cast; rfl, by omega, ?_⟩, by dsimp only; omega⟩
      rw [List.take_succ_eq_append_getElem (by omega)]
      rw [yaaf (by omega)] at hne
      simp only [List.mem_append, List.mem_singleton, not_or]
      exact ⟨hno, hne⟩
  · rw [zcx_b3]
    rw [List.take_of_length_le (by omega)] at hno
    refine ⟨_, rfl, rfl, ?_⟩
    rw [decide_eq_false (by omega), decide_eq_false hno]
theorem yanv {x : Int} (na : RowsA (p, n, c) rows B) (s : St h0 h (B + G)) (hn : n ≤ 1000) (ht : tot rows ≤ 1000000) :
    yaah Tryz.prog 132 #[.slice p n c, .int .i64 x] h (fun v h' => v = .int .i64 (clsZ rows x) ∧ St h0 h' (B + G)) := by
  have hl : rows.length = n := yabh na
  refine zbn_call ?_
  rw [zbn_b0]
  refine s.new (cs := [_]) fun b1 h1 _ s => ?_
  refine zcv_call ?_
  rw [zcv_b0]
  refine ⟨fun y h' => h' = h1 ∧ ∃ i : Nat, y.1 = i ∧ i ≤ n ∧ ∀ j, j < i → x ∉ rows.getD j [], fun y _ => (n - y.1).toNat, ⟨rfl, 0, rfl, Nat.zero_le _, fun j hj => absurd hj (by omega)⟩, ?_⟩
  rintro ⟨_, _⟩ h7 ⟨rfl, i, rfl, hi, hno⟩
  dsimp only
  rw [zcv_b1]
  refine condP (fun hlt => ?_) (fun hge => ?_)
  · refine yaif na (s.at B) rfl (by omega) fun q d r => ?_
    change callX Tryz.prog F 148 #[.slice q (rows.getD i []).length d, .pointer (some ⟨b1, 0, none⟩)] h7 _
    refine yadl (by kernel_rfl) (zbo_call ?_)
    rw [zbo_b0]
    have := yakp (rows := rows) (i := i)
    refine ⟨_, s.ld0, (yawd r (by omega) x).mono fun v h' ⟨hh, hv⟩ => ⟨_, hv, _, rfl, ?_⟩⟩
    subst hh
    refine condP (fun he => ?_) (fun hne => ?_)
    · exact ⟨_, rfl, by rw [ybah (i := i) (by omega) hno he], s.drop⟩
    · rw [zcv_b2]
      refine ⟨⟨by omega, by omega⟩, ⟨rfl, i + 1, by push_cast; rfl, by omega, fun j hj => ?_⟩, by dsimp only; omega⟩
      rcases Nat.lt_or_ge j i with h | h
      · exact hno j h
      · rwa [show j = i by omega]
  · rw [zcv_b3]
    exact ⟨_, rfl, by rw [ybat fun j hj => hno j (by omega)], s.drop⟩
end
theorem AllH.editH : ∀ {hs : List SH} {xs : List (List Int)} {A : Bag} {i : Nat}, AllH RowP hs xs A → i < hs.length → ∃ Ai Br, A = Ai + Br ∧ RowP (hs.getD i (none, 0, 0)) (xs.getD i []) Ai ∧ ∀ x y C, RowP x y C → AllH RowP (hs.set i x) (xs.set i y) (C + Br)
  | [], _, _, _, _, h => by simp at h
  | _ :: _, [], _, _, h, _ => h.elim
  | b :: bs, t :: ts, _, 0, ⟨A1, A2, e, h1, h2⟩, _ => ⟨A1, A2, e, h1, fun x y C hy => ⟨C, A2, rfl, hy, h2⟩⟩
  | b :: bs, t :: ts, _, i + 1, ⟨A1, A2, e, h1, h2⟩, hi => by
    obtain ⟨Ai, Br, e2, h3, h4⟩ := AllH.editH h2 (i := i) (by simpa using hi)
    refine ⟨Ai, A1 + Br, by rw [e, e2]; ac_rfl, by simpa using h3, fun x y C hy => ?_⟩
    exact ⟨A1, C + Br, by ac_rfl, h1, h4 x y C hy⟩
section
variable {h0 h : Hp} {p q : OA} {n c m d : Nat} {rows : List (List Int)} {B C G : Bag}
end
theorem yamg {l : List (List Int)} (h : tot l ≤ 500) (i : Nat) : (l.getD i []).length ≤ 500 := Nat.le_trans yakp h
section
variable {h0 h : Hp} {b1 b2 b3 b4 : Nat} {l : List (List Int)} {p q : OA} {n c m cc : Nat} {code : Int} {zs : List Int} {B G : Bag} {x0 x1 y0 y1 y2 : Value}
end
end Go.Proofs.YtllhdhpjgihjfaaGreatDoor
namespace Go.Sx
variable {α : Type} {d : α}
def swapL (d : α) (xs : List α) (i j : Nat) : List α := (xs.set i (xs.getD j d)).set j (xs.getD i d)
theorem yanm (xs : List α) (i j : Nat) : (swapL d xs i j).length = xs.length := by unfold swapL; rw [List.length_set, List.length_set]
theorem yade {xs : List α} {i k : Nat} {x : α} (hi : i < xs.length) : (xs.set i x).getD k d = if k = i then x else xs.getD k d := by
  rw [List.getD_eq_getElem?_getD, List.getElem?_set, List.getD_eq_getElem?_getD]
  by_cases h : k = i
  · subst h; rw [if_pos rfl, if_pos rfl, if_pos hi]; rfl
  · rw [if_neg (fun e => h e.symm), if_neg h]
theorem yaas {xs : List α} {i j : Nat} (hi : i < xs.length) (hj : j < xs.length) (k : Nat) : (swapL d xs i j).getD k d = if k = j then xs.getD i d else if k = i then xs.getD j d else xs.getD k d := by
  unfold swapL
  rw [yade (by rw [List.length_set]; exact hj), yade hi]
theorem yaqd {xs : List α} {i j : Nat} (hi : i < xs.length) (hj : j < xs.length) : (swapL d xs i j).Perm xs := by
  unfold swapL
  have h1 : xs.getD i d = xs[i] := by rw [List.getD_eq_getElem?_getD, List.getElem?_eq_getElem hi]; rfl
  have h2 : xs.getD j d = xs[j] := by rw [List.getD_eq_getElem?_getD, List.getElem?_eq_getElem hj]; rfl
  rw [h1, h2]
  exact List.set_set_perm hi hj
inductive Swp (d : α) (a b : Nat) : List α → List α → Prop
  | refl (xs) : Swp d a b xs xs
  | step {xs ys} {i j : Nat} : Swp d a b xs ys → a ≤ i → i < b → a ≤ j → j < b → b ≤ ys.length → Swp d a b xs (swapL d ys i j)
theorem Swp.one {a b : Nat} {xs : List α} {i j : Nat} (h1 : a ≤ i) (h2 : i < b) (h3 : a ≤ j) (h4 : j < b) (h5 : b ≤ xs.length) : Swp d a b xs (swapL d xs i j) := .step (.refl xs) h1 h2 h3 h4 h5
theorem Swp.trans {a b : Nat} {xs ys zs : List α} (h1 : Swp d a b xs ys) (h2 : Swp d a b ys zs) : Swp d a b xs zs := by
  induction h2 with
  | refl => exact h1
  | step _ i1 i2 j1 j2 hl ih => exact .step ih i1 i2 j1 j2 hl
theorem Swp.mono {a b a' b' : Nat} {xs ys : List α} (ha : a' ≤ a) (hb : b ≤ b') (hl : b' ≤ xs.length) (h : Swp d a b xs ys) : Swp d a' b' xs ys ∧ ys.length = xs.length := by
  induction h with
  | refl => exact ⟨.refl _, rfl⟩
  | step _ i1 i2 j1 j2 _ ih => exact ⟨.step ih.1 (by omega) (by omega) (by omega) (by omega) (by rw [ih.2]; exact hl), by rw [yanm, ih.2]⟩
theorem Swp.len {a b : Nat} {xs ys : List α} (h : Swp d a b xs ys) : ys.length = xs.length := by
  induction h with
  | refl => rfl
  | step _ _ _ _ _ _ ih => rw [yanm, ih]
theorem Swp.out {a b : Nat} {xs ys : List α} (h : Swp d a b xs ys) {k : Nat} (hk : k < a ∨ b ≤ k) : ys.getD k d = xs.getD k d := by
  induction h with
  | refl => rfl
  | step _ i1 i2 j1 j2 hl ih => rw [yaas (by omega) (by omega), if_neg (by omega), if_neg (by omega), ih]
theorem Swp.all {a b : Nat} {xs ys : List α} (h : Swp d a b xs ys) {P : α → Prop} (hP : ∀ k, a ≤ k → k < b → P (xs.getD k d)) : ∀ k, a ≤ k → k < b → P (ys.getD k d) := by
  induction h with
  | refl => exact hP
  | step _ i1 i2 j1 j2 hl ih =>
    intro k h1 h2
    rw [yaas (by omega) (by omega)]
    split
    · exact ih _ i1 i2
    · split
      · exact ih _ j1 j2
      · exact ih k h1 h2
theorem Swp.perm {a b : Nat} {xs ys : List α} (h : Swp d a b xs ys) : ys.Perm xs := by
  induction h with
  | refl => exact .refl _
  | step _ i1 i2 j1 j2 hl ih => exact (yaqd (by omega) (by omega)).trans ih
theorem Swp.allN {a b : Nat} {xs ys : List α} (h : Swp d a b xs ys) {P : α → Prop} {n : Nat} (hn : xs.length = n) (hP : ∀ k, k < n → P (xs.getD k d)) : ∀ k, k < n → P (ys.getD k d) := by
  subst hn
  induction h with
  | refl => exact hP
  | step t i1 i2 j1 j2 hl ih =>
    intro k h2
    have := t.len
    rw [yaas (by omega) (by omega)]
    split
    · exact ih _ (by omega)
    · split
      · exact ih _ (by omega)
      · exact ih k h2
structure OrdP (lt : α → α → Prop) : Prop where
  asymm : ∀ x y, lt x y → ¬ lt y x
  trans : ∀ x y z, ¬ lt y x → ¬ lt z y → ¬ lt z x
theorem OrdP.irr {lt : α → α → Prop} (o : OrdP lt) (x : α) : ¬ lt x x := fun h => o.asymm x x h h
section
variable {lt : α → α → Prop} (o : OrdP lt)
def SrtR (d : α) (lt : α → α → Prop) (a b : Nat) (xs : List α) : Prop := ∀ p q, a ≤ p → p < q → q < b → ¬ lt (xs.getD q d) (xs.getD p d)
theorem SrtR.mono {a b a' b' : Nat} {xs : List α} (h : SrtR d lt a b xs) (ha : a ≤ a') (hb : b' ≤ b) : SrtR d lt a' b' xs := fun p q h1 h2 h3 => h p q (by omega) h2 (by omega)
theorem yafk {n : Nat} {xs : List α} (hl : xs.length = n) (h : SrtR d lt 0 n xs) : xs.Pairwise (fun x y => ¬ lt y x) := by
  rw [List.pairwise_iff_getElem]
  intro i j hi hj hij
  have := h i j (by omega) hij (by omega)
  rwa [List.getD_eq_getElem?_getD, List.getD_eq_getElem?_getD, List.getElem?_eq_getElem hi, List.getElem?_eq_getElem hj] at this
def InsR (d : α) (lt : α → α → Prop) (a j i : Nat) (xs : List α) : Prop := ∀ p q, a ≤ p → p < q → q ≤ i → q ≠ j → ¬ lt (xs.getD q d) (xs.getD p d)
theorem yaef {a i : Nat} {xs : List α} (h : SrtR d lt a i xs) : InsR d lt a i i xs := fun p q h1 h2 h3 h4 => h p q h1 h2 (by omega)
include o in
theorem yaij {a j i : Nat} {xs : List α} (haj : a < j) (hji : j ≤ i) (hi : i < xs.length) (h : InsR d lt a j i xs) (hl : lt (xs.getD j d) (xs.getD (j - 1) d)) : InsR d lt a (j - 1) i (swapL d xs j (j - 1)) := by
  intro p q h1 h2 h3 h4
  rw [yaas (by omega) (by omega), yaas (by omega) (by omega), if_neg h4]
  by_cases hq : q = j
  · rw [if_pos hq]
    by_cases hp : p = j - 1
    · rw [if_pos hp]; exact o.asymm _ _ hl
    · rw [if_neg hp, if_neg (by omega)]; exact h p (j - 1) h1 (by omega) (by omega) (by omega)
  · rw [if_neg hq]
    by_cases hp : p = j - 1
    · rw [if_pos hp]; exact h j q (by omega) (by omega) h3 hq
    · rw [if_neg hp]
      by_cases hp2 : p = j
      · rw [if_pos hp2]; exact h (j - 1) q (by omega) (by omega) h3 hq
      · rw [if_neg hp2]; exact h p q h1 h2 h3 hq
include o in
theorem yaho {a j i : Nat} {xs : List α} (haj : a ≤ j) (h : InsR d lt a j i xs) (hl : a < j → ¬ lt (xs.getD j d) (xs.getD (j - 1) d)) : SrtR d lt a (i + 1) xs := by
  intro p q h1 h2 h3
  by_cases hq : q = j
  · subst hq
    have hl := hl (by omega)
    by_cases hp : p = q - 1
    · rw [hp]; exact hl
    · exact o.trans _ _ _ (h p (q - 1) h1 (by omega) (by omega) (by omega)) hl
  · exact h p q h1 h2 (by omega) hq
theorem yado {a b : Nat} {xs : List α} (h : b ≤ a + 1) : SrtR d lt a b xs := fun _ _ h1 h2 h3 => by omega
def HeapX (d : α) (lt : α → α → Prop) (f lo hi r : Nat) (xs : List α) : Prop :=
  (∀ k c, lo ≤ k → (c = 2 * k + 1 ∨ c = 2 * k + 2) → c < hi → k ≠ r → ¬ lt (xs.getD (f + k) d) (xs.getD (f + c) d)) ∧
  ∀ k c, lo ≤ k → (r = 2 * k + 1 ∨ r = 2 * k + 2) → (c = 2 * r + 1 ∨ c = 2 * r + 2) → c < hi → ¬ lt (xs.getD (f + k) d) (xs.getD (f + c) d)
def HeapR (d : α) (lt : α → α → Prop) (f lo hi : Nat) (xs : List α) : Prop := ∀ k c, lo ≤ k → (c = 2 * k + 1 ∨ c = 2 * k + 2) → c < hi → ¬ lt (xs.getD (f + k) d) (xs.getD (f + c) d)
theorem yagc {f lo hi r : Nat} {xs : List α} (h : HeapX d lt f lo hi r xs) (hr : ∀ c, (c = 2 * r + 1 ∨ c = 2 * r + 2) → c < hi → ¬ lt (xs.getD (f + r) d) (xs.getD (f + c) d)) : HeapR d lt f lo hi xs := by
  intro k c h1 h2 h3
  by_cases hk : k = r
  · subst hk; exact hr c h2 h3
  · exact h.1 k c h1 h2 h3 hk
include o in
theorem yami {f lo hi r ch : Nat} {xs : List α} (h : HeapX d lt f lo hi r xs) (hc : ch = 2 * r + 1 ∨ ch = 2 * r + 2) (hch : ch < hi) (hlen : f + hi ≤ xs.length) (hl : lt (xs.getD (f + r) d) (xs.getD (f + ch) d))
    (hmax : ∀ c, (c = 2 * r + 1 ∨ c = 2 * r + 2) → c < hi → ¬ lt (xs.getD (f + ch) d) (xs.getD (f + c) d)) (hlr : lo ≤ r) : HeapX d lt f lo hi ch (swapL d xs (f + r) (f + ch)) := by
  have g : ∀ k, (swapL d xs (f + r) (f + ch)).getD (f + k) d = if k = ch then xs.getD (f + r) d else if k = r then xs.getD (f + ch) d else xs.getD (f + k) d := by
    intro k
    rw [yaas (by omega) (by omega)]
    by_cases h1 : k = ch
    · rw [if_pos (by omega), if_pos h1]
    · rw [if_neg (by omega), if_neg h1]
      by_cases h2 : k = r
      · rw [if_pos (by omega), if_pos h2]
      · rw [if_neg (by omega), if_neg h2]
  refine ⟨fun k c h1 h2 h3 h4 => ?_, fun k c h1 h2 h3 h4 => ?_⟩
  · rw [g, g, if_neg h4]
    by_cases hk : k = r
    · subst hk
      rw [if_pos rfl]
      by_cases hcc : c = ch
      · rw [if_pos hcc]; exact o.asymm _ _ hl
      · rw [if_neg hcc, if_neg (by omega)]; exact hmax c h2 h3
    · rw [if_neg hk]
      by_cases hcc : c = ch
      · omega
      · rw [if_neg hcc]
        by_cases hcr : c = r
        · subst hcr
          rw [if_pos rfl]
          exact h.2 k ch h1 h2 hc hch
        · rw [if_neg hcr]; exact h.1 k c h1 h2 h3 hk
  · have hkr : k = r := by omega
    subst hkr
    rw [g, g, if_neg (by omega), if_pos rfl, if_neg (by omega), if_neg (by omega)]
    exact h.1 ch c (by omega) h3 h4 (by omega)
include o in
theorem yaro {f hi : Nat} {xs : List α} (h : HeapR d lt f 0 hi xs) : ∀ k, k < hi → ¬ lt (xs.getD f d) (xs.getD (f + k) d) := by
  intro k
  induction k using Nat.strongRecOn with
  | _ k ih =>
    intro hk
    by_cases h0 : k = 0
    · subst h0; exact o.irr _
    · have h1 := ih ((k - 1) / 2) (by omega) (by omega)
      have h2 := h ((k - 1) / 2) k (by omega) (by omega) hk
      exact o.trans _ _ _ h2 h1
def OutR (d : α) (lt : α → α → Prop) (a0 b0 a b : Nat) (xs : List α) : Prop := ∀ p q, a0 ≤ p → p < q → q < b0 → ¬ (a ≤ p ∧ q < b) → ¬ lt (xs.getD q d) (xs.getD p d)
theorem yaeu {a b : Nat} {xs : List α} : OutR d lt a b a b xs := fun _ _ h1 _ h3 h4 => absurd ⟨h1, h3⟩ h4
theorem yabe {a0 b0 a b : Nat} {xs ys : List α} (h1 : a0 ≤ a) (h2 : b ≤ b0) (h : OutR d lt a0 b0 a b xs) (s : Swp d a b xs ys) : OutR d lt a0 b0 a b ys := by
  intro p q g1 g2 g3 g4
  by_cases hp : a ≤ p ∧ p < b
  · have hq : b ≤ q := by omega
    rw [s.out (k := q) (.inr hq)]
    exact s.all (P := fun x => ¬ lt (xs.getD q d) x) (fun k k1 k2 => h k q (by omega) (by omega) g3 (by omega)) p hp.1 hp.2
  · rw [s.out (k := p) (by omega)]
    by_cases hq : a ≤ q ∧ q < b
    · exact s.all (P := fun x => ¬ lt x (xs.getD p d)) (fun k k1 k2 => h p k g1 (by omega) (by omega) (by omega)) q hq.1 hq.2
    · rw [s.out (k := q) (by omega)]
      exact h p q g1 g2 g3 g4
theorem yafy {a0 b0 a b : Nat} {xs : List α} (h : OutR d lt a0 b0 a b xs) (hs : SrtR d lt a b xs) : SrtR d lt a0 b0 xs := by
  intro p q h1 h2 h3
  by_cases hi : a ≤ p ∧ q < b
  · exact hs p q hi.1 h2 hi.2
  · exact h p q h1 h2 h3 hi
def PartR (d : α) (lt : α → α → Prop) (a b m : Nat) (xs : List α) : Prop := (∀ k, a ≤ k → k < m → lt (xs.getD k d) (xs.getD m d)) ∧ ∀ k, m < k → k < b → ¬ lt (xs.getD k d) (xs.getD m d)
def LoR (d : α) (lt : α → α → Prop) (a i : Nat) (xs : List α) : Prop := ∀ k, a < k → k < i → lt (xs.getD k d) (xs.getD a d)
def HiR (d : α) (lt : α → α → Prop) (a J b : Nat) (xs : List α) : Prop := ∀ k, J ≤ k → k < b → ¬ lt (xs.getD k d) (xs.getD a d)
theorem yanp {a i : Nat} {xs : List α} (h : LoR d lt a i xs) (hl : lt (xs.getD i d) (xs.getD a d)) : LoR d lt a (i + 1) xs := fun k h1 h2 => by
  by_cases hk : k = i
  · subst hk; exact hl
  · exact h k h1 (by omega)
theorem yamo {a J b : Nat} {xs : List α} (h : HiR d lt a J b xs) (hl : ¬ lt (xs.getD (J - 1) d) (xs.getD a d)) : HiR d lt a (J - 1) b xs := fun k h1 h2 => by
  by_cases hk : k = J - 1
  · subst hk; exact hl
  · exact h k (by omega) h2
theorem yafr {a i J b : Nat} {xs : List α} (ha : a < i) (hiJ : i < J) (hJ : J ≤ b) (hb : b ≤ xs.length) (lo : LoR d lt a i xs) (hi : HiR d lt a J b xs) (h1 : ¬ lt (xs.getD i d) (xs.getD a d)) (h2 : lt (xs.getD (J - 1) d) (xs.getD a d)) :
    LoR d lt a (i + 1) (swapL d xs i (J - 1)) ∧ HiR d lt a (J - 1) b (swapL d xs i (J - 1)) := by
  have hne : i ≠ J - 1 := fun e => h1 (e ▸ h2)
  refine ⟨fun k k1 k2 => ?_, fun k k1 k2 => ?_⟩
  · rw [yaas (by omega) (by omega), yaas (by omega) (by omega) a, if_neg (by omega), if_neg (by omega : ¬ a = J - 1), if_neg (by omega : ¬ a = i)]
    by_cases hk : k = i
    · rw [if_pos hk]; exact h2
    · rw [if_neg hk]; exact lo k k1 (by omega)
  · rw [yaas (by omega) (by omega), yaas (by omega) (by omega) a, if_neg (by omega : ¬ a = J - 1), if_neg (by omega : ¬ a = i)]
    by_cases hk : k = J - 1
    · rw [if_pos hk]; exact h1
    · rw [if_neg hk, if_neg (by omega)]; exact hi k (by omega) k2
theorem yaib {a i J b : Nat} {xs : List α} (ha : a < J) (hib : i ≤ b) (hJi : J ≤ i) (hb : b ≤ xs.length) (lo : LoR d lt a i xs) (hi : HiR d lt a J b xs) : PartR d lt a b (J - 1) (swapL d xs (J - 1) a) := by
  have he : J = i := by
    rcases Nat.lt_or_ge J i with h | h
    · exact absurd (lo J ha h) (hi J (Nat.le_refl _) (by omega))
    · omega
  subst he
  refine ⟨fun k k1 k2 => ?_, fun k k1 k2 => ?_⟩
  · rw [yaas (by omega) (by omega), yaas (by omega) (by omega) (J - 1), if_neg (by omega : ¬ J - 1 = a), if_pos rfl]
    by_cases hk : k = a
    · rw [if_pos hk]; exact lo _ (by omega) (by omega)
    · rw [if_neg hk, if_neg (by omega)]; exact lo k (by omega) (by omega)
  · rw [yaas (by omega) (by omega), yaas (by omega) (by omega) (J - 1), if_neg (by omega), if_neg (by omega)]
    by_cases hk : J - 1 = a
    · rw [if_pos hk, hk]; exact hi k (by omega) k2
    · rw [if_neg hk, if_pos rfl]; exact hi k (by omega) k2
def EqR (d : α) (lt : α → α → Prop) (x : α) (a i : Nat) (xs : List α) : Prop := xs.getD a d = x ∧ ∀ k, a ≤ k → k < i → ¬ lt x (xs.getD k d)
theorem yavn {a i : Nat} {xs : List α} {x : α} (h : EqR d lt x a i xs) (hl : ¬ lt (xs.getD a d) (xs.getD i d)) : EqR d lt x a (i + 1) xs := ⟨h.1, fun k h1 h2 => by
  by_cases hk : k = i
  · subst hk; rw [← h.1]; exact hl
  · exact h.2 k h1 (by omega)⟩
theorem yaus {a i j : Nat} {xs : List α} {x : α} (ha : a < i) (hij : i ≤ j) (hj : j < xs.length) (h : EqR d lt x a i xs) (hl : ¬ lt (xs.getD a d) (xs.getD j d)) : EqR d lt x a (i + 1) (swapL d xs i j) := by
  refine ⟨?_, fun k k1 k2 => ?_⟩
  · rw [yaas (by omega) (by omega), if_neg (by omega), if_neg (by omega)]; exact h.1
  · rw [yaas (by omega) (by omega)]
    by_cases hk : k = j
    · rw [if_pos hk, show i = j by omega, ← h.1]; exact hl
    · rw [if_neg hk]
      by_cases hk : k = i
      · rw [if_pos hk, ← h.1]; exact hl
      · rw [if_neg hk]; exact h.2 k k1 (by omega)
include o in
theorem yamp {a0 b0 a b m : Nat} {xs : List α} (_ : a0 ≤ a) (_ : b ≤ b0) (_ : a ≤ m) (_ : m < b) (h : OutR d lt a0 b0 a b xs) (hp : PartR d lt a b m xs) (hs : SrtR d lt a m xs) : OutR d lt a0 b0 (m + 1) b xs := by
  intro p q g1 g2 g3 g4
  by_cases hin : a ≤ p ∧ q < b
  · have hpm : p ≤ m := by omega
    rcases Nat.lt_trichotomy q m with hq | hq | hq
    · exact hs p q hin.1 g2 hq
    · subst hq; exact o.asymm _ _ (hp.1 p hin.1 g2)
    · rcases Nat.lt_or_ge p m with hpm' | hpm'
      · exact o.trans _ _ _ (o.asymm _ _ (hp.1 p hin.1 hpm')) (hp.2 q hq hin.2)
      · obtain rfl : p = m := by omega
        exact hp.2 q hq hin.2
  · exact h p q g1 g2 g3 hin
include o in
theorem yajz {a0 b0 a b m : Nat} {xs : List α} (_ : a0 ≤ a) (_ : b ≤ b0) (_ : a ≤ m) (_ : m < b) (h : OutR d lt a0 b0 a b xs) (hp : PartR d lt a b m xs) (hs : SrtR d lt (m + 1) b xs) : OutR d lt a0 b0 a m xs := by
  intro p q g1 g2 g3 g4
  by_cases hin : a ≤ p ∧ q < b
  · have hqm : m ≤ q := by omega
    rcases Nat.lt_trichotomy p m with hq | hq | hq
    · rcases Nat.lt_or_ge m q with h5 | h5
      · exact o.trans _ _ _ (o.asymm _ _ (hp.1 p hin.1 hq)) (hp.2 q h5 hin.2)
      · obtain rfl : q = m := by omega
        exact o.asymm _ _ (hp.1 p hin.1 hq)
    · subst hq; exact hp.2 q g2 hin.2
    · exact hs p q (by omega) g2 hin.2
  · exact h p q g1 g2 g3 hin
include o in
theorem yakt {a0 b0 a b m : Nat} {xs : List α} {x : α} (_ : a0 ≤ a) (_ : b ≤ b0) (_ : a ≤ m) (_ : m ≤ b) (h : OutR d lt a0 b0 a b xs) (hlo : ∀ k, a ≤ k → k < m → ¬ lt x (xs.getD k d)) (hall : ∀ k, a ≤ k → k < b → ¬ lt (xs.getD k d) x) : OutR d lt a0 b0 m b xs := by
  intro p q g1 g2 g3 g4
  by_cases hin : a ≤ p ∧ q < b
  · exact o.trans _ _ _ (hlo p hin.1 (by omega)) (hall q (by omega) hin.2)
  · exact h p q g1 g2 g3 hin
end
end Go.Sx
namespace Go.Proofs.YtllhdhpjgihjfaaGreatDoor
open Go Go.Sx
structure EvT where
  th : Int
  co : Int
  ar : SH
  er : Int
  nu : Int
  li : SH
  bg : Int
  en : Int
abbrev tEv : Ty EvT := ⟨60, 8, fun x => [.int .i64 x.th, .int .i64 x.co, .slice x.ar.1 x.ar.2.1 x.ar.2.2, .int .i64 x.er, .int .i64 x.nu, .slice x.li.1 x.li.2.1 x.li.2.2, .int .i64 x.bg, .int .i64 x.en], ⟨0, 0, (none, 0, 0), 0, 0, (none, 0, 0), 0, 0⟩, fun _ => rfl, by decide, fun _ v hv => by simp at hv; rcases hv with rfl | rfl | rfl | rfl | rfl | rfl | rfl | rfl <;> rfl⟩
abbrev encEv (x : EvT) : Value := .agg #[.int .i64 x.th, .int .i64 x.co, .slice x.ar.1 x.ar.2.1 x.ar.2.2, .int .i64 x.er, .int .i64 x.nu, .slice x.li.1 x.li.2.1 x.li.2.2, .int .i64 x.bg, .int .i64 x.en]
theorem wrEvc {h0 h : Hp} {ad : Addr} {n c i j : Nat} {xs : List EvT} {A F : Bag} {v : Value} {x : EvT} {k : Hp → Prop} (a : Sl tEv (some ad) n c xs A) (s : St h0 h (A + F)) (hi : i < n) (hj : j < tEv.sz) (hx : tEv.enc x = (tEv.enc (xs.getD i tEv.d)).set j v)
    (hk : ∀ h' A', Sl tEv (some ad) n c (xs.set i x) A' → St h0 h' (A' + F) → k h') : Wr h ((ad.add (i * tEv.sz)).add j) v k := by
  obtain ⟨ad', e, w⟩ := a.wr s hi hj hx hk
  cases e
  exact w
theorem yabc {xs : List EvT} {i : Nat} {x d : EvT} (hi : i < xs.length) : (xs.set i x).getD i d = x := by rw [yade hi, if_pos rfl]
theorem wrEV {h0 h : Hp} {ad : Addr} {n c i : Nat} {xs : List EvT} {A F : Bag} {x : EvT} {k : Hp → Prop} (a : Sl tEv (some ad) n c xs A) (s : St h0 h (A + F)) (hi : i < n)
    (hk : ∀ h' A', Sl tEv (some ad) n c (xs.set i x) A' → St h0 h' (A' + F) → k h') :
    Wr h (ad.add (i * 8)) (.int .i64 x.th) fun g1 => Wr g1 ((ad.add (i * 8)).add 1) (.int .i64 x.co) fun g2 => Wr g2 ((ad.add (i * 8)).add 2) (.slice x.ar.1 x.ar.2.1 x.ar.2.2) fun g3 => Wr g3 ((ad.add (i * 8)).add 3) (.int .i64 x.er) fun g4 => Wr g4 ((ad.add (i * 8)).add 4) (.int .i64 x.nu) fun g5 => Wr g5 ((ad.add (i * 8)).add 5) (.slice x.li.1 x.li.2.1 x.li.2.2) fun g6 => Wr g6 ((ad.add (i * 8)).add 6) (.int .i64 x.bg) fun g7 => Wr g7 ((ad.add (i * 8)).add 7) (.int .i64 x.en) k := by
  have hl := a.len
  obtain ⟨y, hy⟩ : ∃ y, xs.getD i tEv.d = y := ⟨_, rfl⟩
  refine wrEvc (j := 0) (x := { y with th := x.th }) a s hi (by decide) (by rw [hy]; rfl) fun h1 A1 a1 s1 => ?_
  refine wrEvc (j := 1) (x := { y with th := x.th, co := x.co }) a1 s1 hi (by decide) (by rw [yabc (by omega)]; rfl) fun h2 A2 a2 s2 => ?_
  rw [List.set_set] at a2
  refine wrEvc (j := 2) (x := { y with th := x.th, co := x.co, ar := x.ar }) a2 s2 hi (by decide) (by rw [yabc (by omega)]; rfl) fun h3 A3 a3 s3 => ?_
  rw [List.set_set] at a3
  refine wrEvc (j := 3) (x := { y with th := x.th, co := x.co, ar := x.ar, er := x.er }) a3 s3 hi (by decide) (by rw [yabc (by omega)]; rfl) fun h4 A4 a4 s4 => ?_
  rw [List.set_set] at a4
  refine wrEvc (j := 4) (x := { y with th := x.th, co := x.co, ar := x.ar, er := x.er, nu := x.nu }) a4 s4 hi (by decide) (by rw [yabc (by omega)]; rfl) fun h5 A5 a5 s5 => ?_
  rw [List.set_set] at a5
  refine wrEvc (j := 5) (x := { y with th := x.th, co := x.co, ar := x.ar, er := x.er, nu := x.nu, li := x.li }) a5 s5 hi (by decide) (by rw [yabc (by omega)]; rfl) fun h6 A6 a6 s6 => ?_
  rw [List.set_set] at a6
  refine wrEvc (j := 6) (x := { y with th := x.th, co := x.co, ar := x.ar, er := x.er, nu := x.nu, li := x.li, bg := x.bg }) a6 s6 hi (by decide) (by rw [yabc (by omega)]; rfl) fun h7 A7 a7 s7 => ?_
  rw [List.set_set] at a7
  refine wrEvc (j := 7) (x := x) a7 s7 hi (by decide) (by rw [yabc (by omega)]; rfl) fun h8 A8 a8 s8 => ?_
  rw [List.set_set] at a8
  exact hk h8 A8 a8 s8
theorem ldEV {h : Hp} {p : OA} {n : Nat} {l : List EvT} {i : Int} {i' : Nat} {Q : Int → Int → OA → Nat → Nat → Int → Int → OA → Nat → Nat → Int → Int → Prop} (r : RdT tEv h p n l) (ei : i = (i' : Int)) (h1 : i' < n) (hq : Q (l.getD i' tEv.d).th (l.getD i' tEv.d).co (l.getD i' tEv.d).ar.1 (l.getD i' tEv.d).ar.2.1 (l.getD i' tEv.d).ar.2.2 (l.getD i' tEv.d).er (l.getD i' tEv.d).nu (l.getD i' tEv.d).li.1 (l.getD i' tEv.d).li.2.1 (l.getD i' tEv.d).li.2.2 (l.getD i' tEv.d).bg (l.getD i' tEv.d).en) :
    (0 ≤ i ∧ i < (n : Int)) ∧ NN p fun a => ∃ x0 : Int, ∃ x1 : Int, ∃ (x2 : OA) (x2L x2C : Nat), ∃ x3 : Int, ∃ x4 : Int, ∃ (x5 : OA) (x5L x5C : Nat), ∃ x6 : Int, ∃ x7, cell h (a.add (Int.toNat i * 8)) = some (.int .i64 x0) ∧ cell h ((a.add (Int.toNat i * 8)).add 1) = some (.int .i64 x1) ∧ cell h ((a.add (Int.toNat i * 8)).add 2) = some (.slice x2 x2L x2C) ∧ cell h ((a.add (Int.toNat i * 8)).add 3) = some (.int .i64 x3) ∧ cell h ((a.add (Int.toNat i * 8)).add 4) = some (.int .i64 x4) ∧ cell h ((a.add (Int.toNat i * 8)).add 5) = some (.slice x5 x5L x5C) ∧ cell h ((a.add (Int.toNat i * 8)).add 6) = some (.int .i64 x6) ∧ cell h ((a.add (Int.toNat i * 8)).add 7) = some (.int .i64 x7) ∧ Q x0 x1 x2 x2L x2C x3 x4 x5 x5L x5C x6 x7 := by
  subst ei
  refine r.idx (by omega) (by omega) fun a _ hc => ?_
  rw [Int.toNat_natCast] at hc ⊢
  exact ⟨_, _, _, _, _, _, _, _, _, _, _, _, hc 0 (by decide), hc 1 (by decide), hc 2 (by decide), hc 3 (by decide), hc 4 (by decide), hc 5 (by decide), hc 6 (by decide), hc 7 (by decide), hq⟩
theorem swEV {h0 h : Hp} {p : OA} {n c : Nat} {u v : Int} {u' v' : Nat} {xs : List EvT} {A F : Bag} {k : Hp → Prop} (a : Sl tEv p n c xs A) (s : St h0 h (A + F)) (eu : u = (u' : Int)) (ev : v = (v' : Int)) (hu1 : u' < n) (hv1 : v' < n)
    (hk : ∀ h' A', Sl tEv p n c (swapL tEv.d xs u' v') A' → St h0 h' (A' + F) → k h') :
    (0 ≤ v ∧ v < (n : Int)) ∧ NN p fun a5 => ∃ x0 : Int, ∃ x1 : Int, ∃ (x2 : OA) (x2L x2C : Nat), ∃ x3 : Int, ∃ x4 : Int, ∃ (x5 : OA) (x5L x5C : Nat), ∃ x6 : Int, ∃ x7, cell h (a5.add (Int.toNat v * 8)) = some (.int .i64 x0) ∧ cell h ((a5.add (Int.toNat v * 8)).add 1) = some (.int .i64 x1) ∧ cell h ((a5.add (Int.toNat v * 8)).add 2) = some (.slice x2 x2L x2C) ∧ cell h ((a5.add (Int.toNat v * 8)).add 3) = some (.int .i64 x3) ∧ cell h ((a5.add (Int.toNat v * 8)).add 4) = some (.int .i64 x4) ∧ cell h ((a5.add (Int.toNat v * 8)).add 5) = some (.slice x5 x5L x5C) ∧ cell h ((a5.add (Int.toNat v * 8)).add 6) = some (.int .i64 x6) ∧ cell h ((a5.add (Int.toNat v * 8)).add 7) = some (.int .i64 x7) ∧ (0 ≤ u ∧ u < (n : Int)) ∧ NN p fun a7 => ∃ y0 : Int, ∃ y1 : Int, ∃ (y2 : OA) (y2L y2C : Nat), ∃ y3 : Int, ∃ y4 : Int, ∃ (y5 : OA) (y5L y5C : Nat), ∃ y6 : Int, ∃ y7, cell h (a7.add (Int.toNat u * 8)) = some (.int .i64 y0) ∧ cell h ((a7.add (Int.toNat u * 8)).add 1) = some (.int .i64 y1) ∧ cell h ((a7.add (Int.toNat u * 8)).add 2) = some (.slice y2 y2L y2C) ∧ cell h ((a7.add (Int.toNat u * 8)).add 3) = some (.int .i64 y3) ∧ cell h ((a7.add (Int.toNat u * 8)).add 4) = some (.int .i64 y4) ∧ cell h ((a7.add (Int.toNat u * 8)).add 5) = some (.slice y5 y5L y5C) ∧ cell h ((a7.add (Int.toNat u * 8)).add 6) = some (.int .i64 y6) ∧ cell h ((a7.add (Int.toNat u * 8)).add 7) = some (.int .i64 y7) ∧
      (0 ≤ u ∧ u < (n : Int)) ∧ NN p fun a9 => Wr h (a9.add (Int.toNat u * 8)) (.int .i64 x0) fun g1 => Wr g1 ((a9.add (Int.toNat u * 8)).add 1) (.int .i64 x1) fun g2 => Wr g2 ((a9.add (Int.toNat u * 8)).add 2) (.slice x2 x2L x2C) fun g3 => Wr g3 ((a9.add (Int.toNat u * 8)).add 3) (.int .i64 x3) fun g4 => Wr g4 ((a9.add (Int.toNat u * 8)).add 4) (.int .i64 x4) fun g5 => Wr g5 ((a9.add (Int.toNat u * 8)).add 5) (.slice x5 x5L x5C) fun g6 => Wr g6 ((a9.add (Int.toNat u * 8)).add 6) (.int .i64 x6) fun g7 => Wr g7 ((a9.add (Int.toNat u * 8)).add 7) (.int .i64 x7) fun g8 =>
      (0 ≤ v ∧ v < (n : Int)) ∧ NN p fun a10 => Wr g8 (a10.add (Int.toNat v * 8)) (.int .i64 y0) fun k1 => Wr k1 ((a10.add (Int.toNat v * 8)).add 1) (.int .i64 y1) fun k2 => Wr k2 ((a10.add (Int.toNat v * 8)).add 2) (.slice y2 y2L y2C) fun k3 => Wr k3 ((a10.add (Int.toNat v * 8)).add 3) (.int .i64 y3) fun k4 => Wr k4 ((a10.add (Int.toNat v * 8)).add 4) (.int .i64 y4) fun k5 => Wr k5 ((a10.add (Int.toNat v * 8)).add 5) (.slice y5 y5L y5C) fun k6 => Wr k6 ((a10.add (Int.toNat v * 8)).add 6) (.int .i64 y6) fun k7 => Wr k7 ((a10.add (Int.toNat v * 8)).add 7) (.int .i64 y7) k := by
  subst eu ev
  have r := a.rd s
  obtain ⟨ad, rfl, _⟩ := r.at_ (i := u') (by omega)
  refine ldEV r rfl hv1 (ldEV r rfl hu1 ⟨⟨by omega, by omega⟩, ?_⟩)
  rw [Int.toNat_natCast, Int.toNat_natCast]
  refine wrEV (x := xs.getD v' tEv.d) a s (by omega) fun h1 A1 a1 s1 => ⟨⟨by omega, by omega⟩, ?_⟩
  exact wrEV (x := xs.getD u' tEv.d) a1 s1 (by omega) hk
theorem swEVx {h0 h : Hp} {p : OA} {n c : Nat} {u v : Int} {u' v' : Nat} {xs : List EvT} {A F : Bag} {k : Hp → Prop} {X : Prop} (hx : X) (a : Sl tEv p n c xs A) (s : St h0 h (A + F)) (eu : u = (u' : Int)) (ev : v = (v' : Int)) (hu1 : u' < n) (hv1 : v' < n)
    (hk : ∀ h' A', Sl tEv p n c (swapL tEv.d xs u' v') A' → St h0 h' (A' + F) → k h') :
    (0 ≤ v ∧ v < (n : Int)) ∧ NN p fun a5 => ∃ x0 : Int, ∃ x1 : Int, ∃ (x2 : OA) (x2L x2C : Nat), ∃ x3 : Int, ∃ x4 : Int, ∃ (x5 : OA) (x5L x5C : Nat), ∃ x6 : Int, ∃ x7, cell h (a5.add (Int.toNat v * 8)) = some (.int .i64 x0) ∧ cell h ((a5.add (Int.toNat v * 8)).add 1) = some (.int .i64 x1) ∧ cell h ((a5.add (Int.toNat v * 8)).add 2) = some (.slice x2 x2L x2C) ∧ cell h ((a5.add (Int.toNat v * 8)).add 3) = some (.int .i64 x3) ∧ cell h ((a5.add (Int.toNat v * 8)).add 4) = some (.int .i64 x4) ∧ cell h ((a5.add (Int.toNat v * 8)).add 5) = some (.slice x5 x5L x5C) ∧ cell h ((a5.add (Int.toNat v * 8)).add 6) = some (.int .i64 x6) ∧ cell h ((a5.add (Int.toNat v * 8)).add 7) = some (.int .i64 x7) ∧ X ∧ (0 ≤ u ∧ u < (n : Int)) ∧ NN p fun a7 => ∃ y0 : Int, ∃ y1 : Int, ∃ (y2 : OA) (y2L y2C : Nat), ∃ y3 : Int, ∃ y4 : Int, ∃ (y5 : OA) (y5L y5C : Nat), ∃ y6 : Int, ∃ y7, cell h (a7.add (Int.toNat u * 8)) = some (.int .i64 y0) ∧ cell h ((a7.add (Int.toNat u * 8)).add 1) = some (.int .i64 y1) ∧ cell h ((a7.add (Int.toNat u * 8)).add 2) = some (.slice y2 y2L y2C) ∧ cell h ((a7.add (Int.toNat u * 8)).add 3) = some (.int .i64 y3) ∧ cell h ((a7.add (Int.toNat u * 8)).add 4) = some (.int .i64 y4) ∧ cell h ((a7.add (Int.toNat u * 8)).add 5) = some (.slice y5 y5L y5C) ∧ cell h ((a7.add (Int.toNat u * 8)).add 6) = some (.int .i64 y6) ∧ cell h ((a7.add (Int.toNat u * 8)).add 7) = some (.int .i64 y7) ∧
      (0 ≤ u ∧ u < (n : Int)) ∧ NN p fun a9 => Wr h (a9.add (Int.toNat u * 8)) (.int .i64 x0) fun g1 => Wr g1 ((a9.add (Int.toNat u * 8)).add 1) (.int .i64 x1) fun g2 => Wr g2 ((a9.add (Int.toNat u * 8)).add 2) (.slice x2 x2L x2C) fun g3 => Wr g3 ((a9.add (Int.toNat u * 8)).add 3) (.int .i64 x3) fun g4 => Wr g4 ((a9.add (Int.toNat u * 8)).add 4) (.int .i64 x4) fun g5 => Wr g5 ((a9.add (Int.toNat u * 8)).add 5) (.slice x5 x5L x5C) fun g6 => Wr g6 ((a9.add (Int.toNat u * 8)).add 6) (.int .i64 x6) fun g7 => Wr g7 ((a9.add (Int.toNat u * 8)).add 7) (.int .i64 x7) fun g8 =>
      (0 ≤ v ∧ v < (n : Int)) ∧ NN p fun a10 => Wr g8 (a10.add (Int.toNat v * 8)) (.int .i64 y0) fun k1 => Wr k1 ((a10.add (Int.toNat v * 8)).add 1) (.int .i64 y1) fun k2 => Wr k2 ((a10.add (Int.toNat v * 8)).add 2) (.slice y2 y2L y2C) fun k3 => Wr k3 ((a10.add (Int.toNat v * 8)).add 3) (.int .i64 y3) fun k4 => Wr k4 ((a10.add (Int.toNat v * 8)).add 4) (.int .i64 y4) fun k5 => Wr k5 ((a10.add (Int.toNat v * 8)).add 5) (.slice y5 y5L y5C) fun k6 => Wr k6 ((a10.add (Int.toNat v * 8)).add 6) (.int .i64 y6) fun k7 => Wr k7 ((a10.add (Int.toNat v * 8)).add 7) (.int .i64 y7) k := by
  subst eu ev
  have r := a.rd s
  obtain ⟨ad, rfl, _⟩ := r.at_ (i := u') (by omega)
  refine ldEV r rfl hv1 ⟨hx, ldEV r rfl hu1 ⟨⟨by omega, by omega⟩, ?_⟩⟩
  rw [Int.toNat_natCast, Int.toNat_natCast]
  refine wrEV (x := xs.getD v' tEv.d) a s (by omega) fun h1 A1 a1 s1 => ⟨⟨by omega, by omega⟩, ?_⟩
  exact wrEV (x := xs.getD u' tEv.d) a1 s1 (by omega) hk
def CmpEV (h0 : Hp) (cmp : Value) (cf : EvT → EvT → Int) (P : EvT → Prop) : Prop := ∀ (x y : EvT) (h : Hp) (K : VK), Ext h0 h → P x → P y → (∀ h', Ext h h' → K (.int .i64 (cf x y)) h') → funV cmp fun fg fa fc => callX Tryz.prog F fg (fa ++ (([encEv x, encEv y] : List Value) ++ fc)).toArray h K
theorem ldOI {h : Hp} {p : OA} {n : Nat} {l : List Int} {i : Int} {i' : Nat} {Q : Int → Prop} (r : RdT (tI 3) h p n l) (ei : i = (i' : Int)) (h1 : i' < n) (hq : Q (l.getD i' (tI 3).d)) :
    (0 ≤ i ∧ i < (n : Int)) ∧ NN p fun a => ∃ x, cell h (a.add (Int.toNat i * 1)) = some (.int .i64 x) ∧ Q x := by
  subst ei
  exact r.int (by omega) (by omega) (by rw [Int.toNat_natCast]; exact hq)
theorem swOIx {h0 h : Hp} {p : OA} {n c : Nat} {u v : Int} {u' v' : Nat} {xs : List Int} {A F : Bag} {k : Hp → Prop} {X : Prop} (hx : X) (a : Sl (tI 3) p n c xs A) (s : St h0 h (A + F)) (eu : u = (u' : Int)) (ev : v = (v' : Int)) (hu1 : u' < n) (hv1 : v' < n)
    (hk : ∀ h' A', Sl (tI 3) p n c (swapL (tI 3).d xs u' v') A' → St h0 h' (A' + F) → k h') :
    (0 ≤ v ∧ v < (n : Int)) ∧ NN p fun a1 => ∃ n1, cell h (a1.add (Int.toNat v * 1)) = some (.int .i64 n1) ∧ X ∧ (0 ≤ u ∧ u < (n : Int)) ∧ NN p fun a2 => ∃ n2, cell h (a2.add (Int.toNat u * 1)) = some (.int .i64 n2) ∧
      (0 ≤ u ∧ u < (n : Int)) ∧ NN p fun a3 => Wr h (a3.add (Int.toNat u * 1)) (.int .i64 n1) fun h1 => (0 ≤ v ∧ v < (n : Int)) ∧ NN p fun a4 => Wr h1 (a4.add (Int.toNat v * 1)) (.int .i64 n2) k := by
  subst eu ev
  have r := a.rd s
  refine ldOI r rfl hv1 ⟨hx, ldOI r rfl hu1 ?_⟩
  refine a.wrI (x := xs.getD v' (tI 3).d) s (by omega) (by omega) rfl rfl fun h1 A1 a1 s1 => ?_
  refine a1.wrI (x := xs.getD u' (tI 3).d) s1 (by omega) (by omega) rfl rfl fun h2 A2 a2 s2 => ?_
  rw [Int.toNat_natCast, Int.toNat_natCast] at a2
  exact hk h2 A2 a2 s2
theorem swOI {h0 h : Hp} {p : OA} {n c : Nat} {u v : Int} {u' v' : Nat} {xs : List Int} {A F : Bag} {k : Hp → Prop} (a : Sl (tI 3) p n c xs A) (s : St h0 h (A + F)) (eu : u = (u' : Int)) (ev : v = (v' : Int)) (hu1 : u' < n) (hv1 : v' < n)
    (hk : ∀ h' A', Sl (tI 3) p n c (swapL (tI 3).d xs u' v') A' → St h0 h' (A' + F) → k h') :
    (0 ≤ v ∧ v < (n : Int)) ∧ NN p fun a1 => ∃ n1, cell h (a1.add (Int.toNat v * 1)) = some (.int .i64 n1) ∧ (0 ≤ u ∧ u < (n : Int)) ∧ NN p fun a2 => ∃ n2, cell h (a2.add (Int.toNat u * 1)) = some (.int .i64 n2) ∧
      (0 ≤ u ∧ u < (n : Int)) ∧ NN p fun a3 => Wr h (a3.add (Int.toNat u * 1)) (.int .i64 n1) fun h1 => (0 ≤ v ∧ v < (n : Int)) ∧ NN p fun a4 => Wr h1 (a4.add (Int.toNat v * 1)) (.int .i64 n2) k := by
  subst eu ev
  have r := a.rd s
  refine ldOI r rfl hv1 (ldOI r rfl hu1 ?_)
  refine a.wrI (x := xs.getD v' (tI 3).d) s (by omega) (by omega) rfl rfl fun h1 A1 a1 s1 => ?_
  refine a1.wrI (x := xs.getD u' (tI 3).d) s1 (by omega) (by omega) rfl rfl fun h2 A2 a2 s2 => ?_
  rw [Int.toNat_natCast, Int.toNat_natCast] at a2
  exact hk h2 A2 a2 s2
theorem ordI : OrdP (fun x y : Int => x < y) := ⟨fun x y h => by omega, fun x y z h1 h2 => by omega⟩
abbrev OutOI (h0 : Hp) (p : OA) (n cp a b : Nat) (xs : List Int) (F : Bag) (h' : Hp) (Q : List Int → Prop) : Prop := ∃ ys A', Sl (tI 3) p n cp ys A' ∧ St h0 h' (A' + F) ∧ Swp (tI 3).d a b xs ys ∧ Q ys
theorem yahf {h0 h : Hp} {p : OA} {n cp a' b' : Nat} {a b : Int} {xs : List Int} {A F : Bag} {P : Int → Prop} (s : St h0 h (A + F)) (o : Sl (tI 3) p n cp xs A) (hP : ∀ k, k < n → P (xs.getD k (tI 3).d)) (ea : a = (a' : Int)) (eb : b = (b' : Int)) (ha : a' ≤ n) (hb : b' ≤ n) (hn : n < 1000000) :
    yaah Tryz.prog 153 #[.slice p n cp, .int .i64 a, .int .i64 b] h (fun v h' => v = .tuple #[] ∧ OutOI h0 p n cp a' b' xs F h' (SrtR (tI 3).d (fun x y : Int => x < y) a' b')) := by
  subst ea eb
  have hl0 := o.len
  refine zdj_call ?_
  rw [zdj_b0]
  refine ⟨⟨by omega, by omega⟩, fun i h1 => ∃ i' : Nat, i.1 = i' ∧ a' + 1 ≤ i' ∧ OutOI h0 p n cp a' b' xs F h1 (SrtR (tI 3).d (fun x y : Int => x < y) a' i'), fun i _ => (b' - i.1).toNat, ⟨a' + 1, rfl, Nat.le_refl _, xs, A, o, s, .refl _, yado (by omega)⟩, ?_⟩
  rintro ⟨_, _⟩ h1 ⟨i', rfl, hi, ys, A1, o, s, w, hs⟩
  dsimp only
  rw [zdj_b1]
  refine condP (fun hlt => ?_) (fun hge => ⟨rfl, ys, A1, o, s, w, SrtR.mono hs (Nat.le_refl _) (by omega)⟩)
  refine ⟨fun j h2 => ∃ j' : Nat, j.1 = j' ∧ a' ≤ j' ∧ j' ≤ i' ∧ OutOI h0 p n cp a' b' xs F h2 (InsR (tI 3).d (fun x y : Int => x < y) a' j' i'), fun j _ => j.1.toNat, ⟨i', rfl, by omega, by omega, ys, A1, o, s, w, yaef hs⟩, ?_⟩
  clear hs w s o ys
  rintro ⟨_, _⟩ h2 ⟨j', rfl, hj1, hj2, ys, A1, o, s, w, hs⟩
  dsimp only
  have hl := o.len
  have hP := w.allN hl0 hP
  have fin : ∀ h3, St h0 h3 (A1 + F) → (a' < j' → ¬ (fun x y : Int => x < y) (ys.getD j' (tI 3).d) (ys.getD (j' - 1) (tI 3).d)) → zdj_b4 p n cp a' b' i' h3 (fun s' h' => (∃ i' : Nat, s'.1 = i' ∧ a' + 1 ≤ i' ∧ OutOI h0 p n cp a' b' xs F h' (SrtR (tI 3).d (fun x y : Int => x < y) a' i')) ∧ (b' - s'.1).toNat < (b' - (i' : Int)).toNat) (fun v h' => v = .tuple #[] ∧ OutOI h0 p n cp a' b' xs F h' (SrtR (tI 3).d (fun x y : Int => x < y) a' b')) := by
    intro h3 s hx
    rw [zdj_b4]
    exact ⟨⟨by omega, by omega⟩, ⟨i' + 1, by push_cast; rfl, by omega, ys, A1, o, s, w, yaho ordI hj1 hs hx⟩, by omega⟩
  rw [zdj_b2]
  refine condP (fun hj => ?_) (fun hj => fin _ s fun h => by omega)
  have r := o.rd s
  refine ldOI (i' := j') r rfl (by omega) ⟨⟨by omega, by omega⟩, ldOI (i' := j' - 1) r (by omega) (by omega) ?_⟩
  refine ⟨_, (yact _ _ _).mono fun v9 h9 ⟨hh9, hv9⟩ => ⟨hv9, hh9⟩, ?_⟩
  refine condP (fun hc => ?_) (fun hc => fin _ s fun _ => hc)
  rw [zdj_b3]
  refine ⟨⟨by omega, by omega⟩, ⟨by omega, by omega⟩, ?_⟩
  refine swOI (u' := j') (v' := j' - 1) o s rfl (by omega) (by omega) (by omega) fun h6 A6 o6 s6 => ?_
  rw [zdj_b5]
  exact ⟨⟨by omega, by omega⟩, ⟨j' - 1, by omega, by omega, by omega, _, A6, o6, s6, .step w (by omega) (by omega) (by omega) (by omega) (by omega), yaij ordI (by omega) hj2 (by omega) hs hc⟩, by omega⟩
theorem yakm {h0 h : Hp} {p : OA} {n cp lo' hi' f' : Nat} {lo hi f : Int} {xs : List Int} {A F : Bag} {P : Int → Prop} (s : St h0 h (A + F)) (o : Sl (tI 3) p n cp xs A) (hP : ∀ k, k < n → P (xs.getD k (tI 3).d)) (el : lo = (lo' : Int)) (eh : hi = (hi' : Int)) (ef : f = (f' : Int)) (hf : f' + hi' ≤ n) (hlo : lo' ≤ n) (hn : n < 1000000)
    (hx : HeapX (tI 3).d (fun x y : Int => x < y) f' lo' hi' lo' xs) :
    yaah Tryz.prog 168 #[.slice p n cp, .int .i64 lo, .int .i64 hi, .int .i64 f] h (fun v h' => v = .tuple #[] ∧ OutOI h0 p n cp (f' + lo') (f' + hi') xs F h' (HeapR (tI 3).d (fun x y : Int => x < y) f' lo' hi')) := by
  subst el eh ef
  have hl0 := o.len
  refine zec_call ?_
  rw [zec_b0]
  refine ⟨fun i h1 => ∃ r : Nat, i.1 = r ∧ lo' ≤ r ∧ r ≤ n ∧ OutOI h0 p n cp (f' + lo') (f' + hi') xs F h1 (HeapX (tI 3).d (fun x y : Int => x < y) f' lo' hi' r), fun i _ => (hi' - i.1).toNat, ⟨lo', rfl, Nat.le_refl _, hlo, xs, A, o, s, .refl _, hx⟩, ?_⟩
  rintro ⟨_, _⟩ h1 ⟨r, rfl, hr, hrn, ys, A1, o, s, w, hs⟩
  dsimp only
  have hl := o.len
  have hP := w.allN hl0 hP
  rw [zec_b1]
  refine ⟨⟨by omega, by omega⟩, ⟨by omega, by omega⟩, condP (fun hle => ⟨rfl, ys, A1, o, s, w, yagc hs fun c h1 h2 => by omega⟩) (fun hle => ⟨⟨by omega, by omega⟩, ?_⟩)⟩
  have fin : ∀ (ch : Nat) (h3 : Hp) (ci : Int), ci = (ch : Int) → St h0 h3 (A1 + F) → (ch = 2 * r + 1 ∨ ch = 2 * r + 2) → ch < hi' → (∀ c, (c = 2 * r + 1 ∨ c = 2 * r + 2) → c < hi' → ¬ (fun x y : Int => x < y) (ys.getD (f' + ch) (tI 3).d) (ys.getD (f' + c) (tI 3).d)) →
      zec_b2 p n cp hi' f' r ci h3 (fun s' h' => (∃ r : Nat, s'.1 = r ∧ lo' ≤ r ∧ r ≤ n ∧ OutOI h0 p n cp (f' + lo') (f' + hi') xs F h' (HeapX (tI 3).d (fun x y : Int => x < y) f' lo' hi' r)) ∧ (hi' - s'.1).toNat < (hi' - (r : Int)).toNat) (fun v h' => v = .tuple #[] ∧ OutOI h0 p n cp (f' + lo') (f' + hi') xs F h' (HeapR (tI 3).d (fun x y : Int => x < y) f' lo' hi')) := by
    rintro ch h3 _ rfl s hc1 hc2 hmax
    rw [zec_b2]
    have rd := o.rd s
    refine ⟨⟨by omega, by omega⟩, ldOI (i' := f' + r) rd (by omega) (by omega) ⟨⟨by omega, by omega⟩, ldOI (i' := f' + ch) rd (by omega) (by omega) ?_⟩⟩
    refine ⟨_, (yact _ _ _).mono fun v9 h9 ⟨hh9, hv9⟩ => ⟨hv9, hh9⟩, ?_⟩
    refine condN (fun hc => ⟨rfl, ys, A1, o, s, w, yagc hs fun c k1 k2 k3 => ordI.trans _ _ _ (hmax c k1 k2) hc k3⟩) (fun hc => ⟨⟨by omega, by omega⟩, ⟨by omega, by omega⟩, ⟨by omega, by omega⟩, ?_⟩)
    refine swOIx ⟨by omega, by omega⟩ (u' := f' + r) (v' := f' + ch) o s (by omega) (by omega) (by omega) (by omega) fun h6 A6 o6 s6 => ?_
    exact ⟨⟨ch, rfl, by omega, by omega, _, A6, o6, s6, .step (i := f' + r) (j := f' + ch) w (by omega) (by omega) (by omega) (by omega) (by omega), yami ordI hs hc1 hc2 (by omega) hc hmax hr⟩, by omega⟩
  refine condP (fun h2 => ?_) (fun h2 => fin (2 * r + 1) _ _ (by omega) s (.inl rfl) (by omega) fun c k1 k2 => ?_)
  · have rd := o.rd s
    refine ⟨⟨by omega, by omega⟩, ldOI (i' := f' + (2 * r + 1)) rd (by omega) (by omega) ⟨⟨by omega, by omega⟩, ⟨by omega, by omega⟩, ldOI (i' := f' + (2 * r + 2)) rd (by omega) (by omega) ?_⟩⟩
    refine ⟨_, (yact _ _ _).mono fun v9 h9 ⟨hh9, hv9⟩ => ⟨hv9, hh9⟩, ?_⟩
    refine condP (fun hc => ⟨⟨by omega, by omega⟩, fin (2 * r + 2) _ _ (by push_cast; rfl) s (.inr rfl) (by omega) fun c k1 k2 => ?_⟩) (fun hc => fin (2 * r + 1) _ _ (by omega) s (.inl rfl) (by omega) fun c k1 k2 => ?_)
    · rcases k1 with rfl | rfl
      · exact ordI.asymm _ _ hc
      · exact ordI.irr _
    · rcases k1 with rfl | rfl
      · exact ordI.irr _
      · exact hc
  · rcases k1 with rfl | rfl
    · exact ordI.irr _
    · omega
theorem yasi {h0 h : Hp} {p : OA} {n cp a' b' : Nat} {a b : Int} {xs : List Int} {A F : Bag} {P : Int → Prop} (s : St h0 h (A + F)) (o : Sl (tI 3) p n cp xs A) (hP : ∀ k, k < n → P (xs.getD k (tI 3).d)) (ea : a = (a' : Int)) (eb : b = (b' : Int)) (hab : a' < b') (hb : b' ≤ n) (hn : n < 1000000) :
    yaah Tryz.prog 154 #[.slice p n cp, .int .i64 a, .int .i64 b] h (fun v h' => v = .tuple #[] ∧ OutOI h0 p n cp a' b' xs F h' (SrtR (tI 3).d (fun x y : Int => x < y) a' b')) := by
  subst ea eb
  have hl0 := o.len
  refine zdh_call ?_
  rw [zdh_b0]
  refine ⟨⟨by omega, by omega⟩, ⟨by omega, by omega⟩, yabi (by omega) (by omega) (by omega) ?_⟩
  obtain ⟨q, hq⟩ : ∃ q : Nat, ((b' : Int) - a' - 1) / 2 + 1 = q := ⟨(((b' : Int) - a' - 1) / 2 + 1).toNat, by omega⟩
  refine ⟨fun i h1 => ∃ m : Nat, i.1 = (m : Int) - 1 ∧ m ≤ b' - a' ∧ OutOI h0 p n cp a' b' xs F h1 (HeapR (tI 3).d (fun x y : Int => x < y) a' m (b' - a')), fun i _ => (i.1 + 1).toNat, ⟨q, by show _ / _ = _; omega, by omega, xs, A, o, s, .refl _, fun k c k1 k2 k3 => by omega⟩, ?_⟩
  rintro ⟨_, _⟩ h1 ⟨m, rfl, hm, ys, A1, o, s, w, hs⟩
  dsimp only
  have hl := o.len
  have hPy := w.allN hl0 hP
  rw [zdh_b1]
  refine condP (fun hi => ?_) (fun hi => ?_)
  · refine (yakm  s o hPy (lo' := m - 1) (hi' := b' - a') (f' := a') (by omega) (by omega) rfl (by omega) (by omega) hn ⟨fun k c k1 k2 k3 k4 => hs k c (by omega) k2 k3, fun k c k1 k2 => by omega⟩).mono fun v h2 ⟨hv, zs, A2, o2, s2, w2, hs2⟩ => ⟨hv, ?_⟩
    rw [zdh_b2]
    exact ⟨⟨by omega, by omega⟩, ⟨m - 1, by omega, by omega, zs, A2, o2, s2, w.trans (w2.mono (by omega) (by omega) (by omega)).1, hs2⟩, by omega⟩
  · obtain rfl : m = 0 := by omega
    rw [zdh_b3]
    refine ⟨⟨by omega, by omega⟩, ?_⟩
    refine ⟨fun i h1 => ∃ m : Nat, i.1 = (m : Int) - 1 ∧ m ≤ b' - a' ∧ OutOI h0 p n cp a' b' xs F h1 (fun ys => HeapR (tI 3).d (fun x y : Int => x < y) a' 0 m ys ∧ OutR (tI 3).d (fun x y : Int => x < y) a' b' a' (a' + m) ys), fun i _ => (i.1 + 1).toNat, ⟨b' - a', by show (_ : Int) - 1 = _; omega, by omega, ys, A1, o, s, w, hs, by rw [show a' + (b' - a') = b' by omega]; exact yaeu⟩, ?_⟩
    clear hs w s o hl hPy ys
    rintro ⟨_, _⟩ h2 ⟨m, rfl, hm, ys, A1, o, s, w, hs, ho2⟩
    dsimp only
    have hl := o.len
    rw [zdh_b4]
    refine condP (fun hi => ⟨⟨by omega, by omega⟩, ⟨by omega, by omega⟩, ?_⟩) (fun hi => ?_)
    · refine swOI (u' := a') (v' := a' + (m - 1)) o s rfl (by omega) (by omega) (by omega) fun h6 A6 o6 s6 => ?_
      have w1 : Swp (tI 3).d a' (a' + m) ys (swapL (tI 3).d ys a' (a' + (m - 1))) := .one (by omega) (by omega) (by omega) (by omega) (by omega)
      have w6 := w.trans (w1.mono (Nat.le_refl _) (by omega) (by omega)).1
      have hg : ∀ k, (swapL (tI 3).d ys a' (a' + (m - 1))).getD k (tI 3).d = if k = a' + (m - 1) then ys.getD a' (tI 3).d else if k = a' then ys.getD (a' + (m - 1)) (tI 3).d else ys.getD k (tI 3).d := yaas (by omega) (by omega)
      have ho6 : OutR (tI 3).d (fun x y : Int => x < y) a' b' a' (a' + (m - 1)) (swapL (tI 3).d ys a' (a' + (m - 1))) := by
        intro p q k1 k2 k3 k4
        by_cases hq : q = a' + (m - 1)
        · rw [hq, hg, if_pos rfl]
          exact w1.all (P := fun x => ¬ (fun x y : Int => x < y) (ys.getD a' (tI 3).d) x) (fun k j1 j2 => by
            have := yaro ordI hs (k - a') (by omega)
            rwa [show a' + (k - a') = k by omega] at this) p k1 (by omega)
        · exact yabe (Nat.le_refl _) (by omega) ho2 w1 p q k1 k2 k3 (by omega)
      generalize swapL (tI 3).d ys a' (a' + (m - 1)) = us at *
      refine (yakm  s6 o6 (w6.allN hl0 hP) (lo' := 0) (hi' := m - 1) (f' := a') (by rfl) (by omega) rfl (by omega) (by omega) hn ⟨fun k c k1 k2 k3 k4 => ?_, fun k c k1 k2 => by omega⟩).mono fun v h2 ⟨hv, zs, A2, o2, s2, w2, hs2⟩ => ⟨hv, ?_⟩
      · rw [hg, hg, if_neg (by omega), if_neg (by omega), if_neg (by omega), if_neg (by omega)]
        exact hs k c (by omega) k2 (by omega)
      · rw [zdh_b5]
        exact ⟨⟨by omega, by omega⟩, ⟨m - 1, by omega, by omega, zs, A2, o2, s2, w6.trans (w2.mono (by omega) (by omega) (by rw [w6.len]; omega)).1, hs2, yabe (Nat.le_refl _) (by omega) ho6 w2⟩, by omega⟩
    · obtain rfl : m = 0 := by omega
      exact ⟨rfl, ys, A1, o, s, w, yafy ho2 (yado (by omega))⟩
theorem yajb {h0 h : Hp} {p : OA} {n cp a' b' : Nat} {a b : Int} {xs : List Int} {A F : Bag} (s : St h0 h (A + F)) (o : Sl (tI 3) p n cp xs A) (ea : a = (a' : Int)) (eb : b = (b' : Int)) (hab : a' ≤ b') (hb : b' ≤ n) (hn : n < 1000000) :
    yaah Tryz.prog 157 #[.slice p n cp, .int .i64 a, .int .i64 b] h (fun v h' => v = .tuple #[] ∧ OutOI h0 p n cp a' b' xs F h' fun _ => True) := by
  subst ea eb
  have hl0 := o.len
  refine zea_call ?_
  rw [zea_b0]
  refine ⟨⟨by omega, by omega⟩, fun i h1 => ∃ i' : Nat, i.1 = i' ∧ a' ≤ i' ∧ i.2.1 < b' ∧ i' ≤ n ∧ -1 ≤ i.2.1 ∧ OutOI h0 p n cp a' b' xs F h1 fun _ => True, fun i _ => (i.2.1 - i.1).toNat, ⟨a', rfl, Nat.le_refl _, by show (_ : Int) - 1 < _; omega, by omega, by show -1 ≤ (_ : Int) - 1; omega, xs, A, o, s, .refl _, trivial⟩, ?_⟩
  rintro ⟨_, j, _⟩ h1 ⟨i', rfl, hi, hj, hin, hj1, ys, A1, o, s, w, _⟩
  dsimp only at hj hj1 ⊢
  have hl := o.len
  rw [zea_b1]
  refine condP (fun hlt => ?_) (fun hlt => ⟨rfl, ys, A1, o, s, w, trivial⟩)
  refine swOI (u' := i') (v' := j.toNat) o s rfl (by omega) (by omega) (by omega) fun h6 A6 o6 s6 => ?_
  exact ⟨⟨by omega, by omega⟩, ⟨by omega, by omega⟩, ⟨i' + 1, by push_cast; rfl, by omega, by show j - 1 < _; omega, by omega, by show -1 ≤ j - 1; omega, _, A6, o6, s6, .step w (by omega) (by omega) (by omega) (by omega) (by omega), trivial⟩, by dsimp only; omega⟩
abbrev OutEV (h0 : Hp) (p : OA) (n cp a b : Nat) (xs : List EvT) (F : Bag) (h' : Hp) (Q : List EvT → Prop) : Prop := ∃ ys A', Sl tEv p n cp ys A' ∧ St h0 h' (A' + F) ∧ Swp tEv.d a b xs ys ∧ Q ys
theorem yahk {h0 h : Hp} {p : OA} {n cp a' b' : Nat} {a b : Int} {xs : List EvT} {A F : Bag} {cmp : Value} {cf : EvT → EvT → Int} {P : EvT → Prop} (hX : CmpEV h0 cmp cf P) (ho : OrdP (fun x y : EvT => cf x y < 0)) (s : St h0 h (A + F)) (o : Sl tEv p n cp xs A) (hP : ∀ k, k < n → P (xs.getD k tEv.d)) (ea : a = (a' : Int)) (eb : b = (b' : Int)) (ha : a' ≤ n) (hb : b' ≤ n) (hn : n < 1000000) :
    yaah Tryz.prog 112 #[.slice p n cp, .int .i64 a, .int .i64 b, cmp] h (fun v h' => v = .tuple #[] ∧ OutEV h0 p n cp a' b' xs F h' (SrtR tEv.d (fun x y : EvT => cf x y < 0) a' b')) := by
  subst ea eb
  have hl0 := o.len
  refine zdi_call ?_
  rw [zdi_b0]
  refine ⟨⟨by omega, by omega⟩, fun i h1 => ∃ i' : Nat, i.1 = i' ∧ a' + 1 ≤ i' ∧ OutEV h0 p n cp a' b' xs F h1 (SrtR tEv.d (fun x y : EvT => cf x y < 0) a' i'), fun i _ => (b' - i.1).toNat, ⟨a' + 1, rfl, Nat.le_refl _, xs, A, o, s, .refl _, yado (by omega)⟩, ?_⟩
  rintro ⟨_, _⟩ h1 ⟨i', rfl, hi, ys, A1, o, s, w, hs⟩
  dsimp only
  rw [zdi_b1]
  refine condP (fun hlt => ?_) (fun hge => ⟨rfl, ys, A1, o, s, w, SrtR.mono hs (Nat.le_refl _) (by omega)⟩)
  refine ⟨fun j h2 => ∃ j' : Nat, j.1 = j' ∧ a' ≤ j' ∧ j' ≤ i' ∧ OutEV h0 p n cp a' b' xs F h2 (InsR tEv.d (fun x y : EvT => cf x y < 0) a' j' i'), fun j _ => j.1.toNat, ⟨i', rfl, by omega, by omega, ys, A1, o, s, w, yaef hs⟩, ?_⟩
  clear hs w s o ys
  rintro ⟨_, _⟩ h2 ⟨j', rfl, hj1, hj2, ys, A1, o, s, w, hs⟩
  dsimp only
  have hl := o.len
  have hP := w.allN hl0 hP
  have fin : ∀ h3, St h0 h3 (A1 + F) → (a' < j' → ¬ (fun x y : EvT => cf x y < 0) (ys.getD j' tEv.d) (ys.getD (j' - 1) tEv.d)) → zdi_b4 p n cp a' b' cmp i' h3 (fun s' h' => (∃ i' : Nat, s'.1 = i' ∧ a' + 1 ≤ i' ∧ OutEV h0 p n cp a' b' xs F h' (SrtR tEv.d (fun x y : EvT => cf x y < 0) a' i')) ∧ (b' - s'.1).toNat < (b' - (i' : Int)).toNat) (fun v h' => v = .tuple #[] ∧ OutEV h0 p n cp a' b' xs F h' (SrtR tEv.d (fun x y : EvT => cf x y < 0) a' b')) := by
    intro h3 s hx
    rw [zdi_b4]
    exact ⟨⟨by omega, by omega⟩, ⟨i' + 1, by push_cast; rfl, by omega, ys, A1, o, s, w, yaho ho hj1 hs hx⟩, by omega⟩
  rw [zdi_b2]
  refine condP (fun hj => ?_) (fun hj => fin _ s fun h => by omega)
  have r := o.rd s
  refine ldEV (i' := j') r rfl (by omega) ⟨⟨by omega, by omega⟩, ldEV (i' := j' - 1) r (by omega) (by omega) ?_⟩
  refine hX _ _ _ _ s.ext (hP _ (by omega)) (hP _ (by omega)) fun h5 e5 => ⟨_, rfl, ?_⟩; have s := s.grow e5
  refine condP (fun hc => ?_) (fun hc => fin _ s fun _ => hc)
  rw [zdi_b3]
  refine ⟨⟨by omega, by omega⟩, ⟨by omega, by omega⟩, ?_⟩
  refine swEV (u' := j') (v' := j' - 1) o s rfl (by omega) (by omega) (by omega) fun h6 A6 o6 s6 => ?_
  rw [zdi_b5]
  exact ⟨⟨by omega, by omega⟩, ⟨j' - 1, by omega, by omega, by omega, _, A6, o6, s6, .step w (by omega) (by omega) (by omega) (by omega) (by omega), yaij ho (by omega) hj2 (by omega) hs hc⟩, by omega⟩
theorem yakk {h0 h : Hp} {p : OA} {n cp lo' hi' f' : Nat} {lo hi f : Int} {xs : List EvT} {A F : Bag} {cmp : Value} {cf : EvT → EvT → Int} {P : EvT → Prop} (hX : CmpEV h0 cmp cf P) (ho : OrdP (fun x y : EvT => cf x y < 0)) (s : St h0 h (A + F)) (o : Sl tEv p n cp xs A) (hP : ∀ k, k < n → P (xs.getD k tEv.d)) (el : lo = (lo' : Int)) (eh : hi = (hi' : Int)) (ef : f = (f' : Int)) (hf : f' + hi' ≤ n) (hlo : lo' ≤ n) (hn : n < 1000000)
    (hx : HeapX tEv.d (fun x y : EvT => cf x y < 0) f' lo' hi' lo' xs) :
    yaah Tryz.prog 137 #[.slice p n cp, .int .i64 lo, .int .i64 hi, .int .i64 f, cmp] h (fun v h' => v = .tuple #[] ∧ OutEV h0 p n cp (f' + lo') (f' + hi') xs F h' (HeapR tEv.d (fun x y : EvT => cf x y < 0) f' lo' hi')) := by
  subst el eh ef
  have hl0 := o.len
  refine zeb_call ?_
  rw [zeb_b0]
  refine ⟨fun i h1 => ∃ r : Nat, i.1 = r ∧ lo' ≤ r ∧ r ≤ n ∧ OutEV h0 p n cp (f' + lo') (f' + hi') xs F h1 (HeapX tEv.d (fun x y : EvT => cf x y < 0) f' lo' hi' r), fun i _ => (hi' - i.1).toNat, ⟨lo', rfl, Nat.le_refl _, hlo, xs, A, o, s, .refl _, hx⟩, ?_⟩
  rintro ⟨_, _⟩ h1 ⟨r, rfl, hr, hrn, ys, A1, o, s, w, hs⟩
  dsimp only
  have hl := o.len
  have hP := w.allN hl0 hP
  rw [zeb_b1]
  refine ⟨⟨by omega, by omega⟩, ⟨by omega, by omega⟩, condP (fun hle => ⟨rfl, ys, A1, o, s, w, yagc hs fun c h1 h2 => by omega⟩) (fun hle => ⟨⟨by omega, by omega⟩, ?_⟩)⟩
  have fin : ∀ (ch : Nat) (h3 : Hp) (ci : Int), ci = (ch : Int) → St h0 h3 (A1 + F) → (ch = 2 * r + 1 ∨ ch = 2 * r + 2) → ch < hi' → (∀ c, (c = 2 * r + 1 ∨ c = 2 * r + 2) → c < hi' → ¬ (fun x y : EvT => cf x y < 0) (ys.getD (f' + ch) tEv.d) (ys.getD (f' + c) tEv.d)) →
      zeb_b2 p n cp hi' f' cmp r ci h3 (fun s' h' => (∃ r : Nat, s'.1 = r ∧ lo' ≤ r ∧ r ≤ n ∧ OutEV h0 p n cp (f' + lo') (f' + hi') xs F h' (HeapX tEv.d (fun x y : EvT => cf x y < 0) f' lo' hi' r)) ∧ (hi' - s'.1).toNat < (hi' - (r : Int)).toNat) (fun v h' => v = .tuple #[] ∧ OutEV h0 p n cp (f' + lo') (f' + hi') xs F h' (HeapR tEv.d (fun x y : EvT => cf x y < 0) f' lo' hi')) := by
    rintro ch h3 _ rfl s hc1 hc2 hmax
    rw [zeb_b2]
    have rd := o.rd s
    refine ⟨⟨by omega, by omega⟩, ldEV (i' := f' + r) rd (by omega) (by omega) ⟨⟨by omega, by omega⟩, ldEV (i' := f' + ch) rd (by omega) (by omega) ?_⟩⟩
    refine hX _ _ _ _ s.ext (hP _ (by omega)) (hP _ (by omega)) fun h5 e5 => ⟨_, rfl, ?_⟩; have s := s.grow e5
    refine condN (fun hc => ⟨rfl, ys, A1, o, s, w, yagc hs fun c k1 k2 k3 => ho.trans _ _ _ (hmax c k1 k2) hc k3⟩) (fun hc => ⟨⟨by omega, by omega⟩, ⟨by omega, by omega⟩, ⟨by omega, by omega⟩, ?_⟩)
    refine swEVx ⟨by omega, by omega⟩ (u' := f' + r) (v' := f' + ch) o s (by omega) (by omega) (by omega) (by omega) fun h6 A6 o6 s6 => ?_
    exact ⟨⟨ch, rfl, by omega, by omega, _, A6, o6, s6, .step (i := f' + r) (j := f' + ch) w (by omega) (by omega) (by omega) (by omega) (by omega), yami ho hs hc1 hc2 (by omega) hc hmax hr⟩, by omega⟩
  refine condP (fun h2 => ?_) (fun h2 => fin (2 * r + 1) _ _ (by omega) s (.inl rfl) (by omega) fun c k1 k2 => ?_)
  · have rd := o.rd s
    refine ⟨⟨by omega, by omega⟩, ldEV (i' := f' + (2 * r + 1)) rd (by omega) (by omega) ⟨⟨by omega, by omega⟩, ⟨by omega, by omega⟩, ldEV (i' := f' + (2 * r + 2)) rd (by omega) (by omega) ?_⟩⟩
    refine hX _ _ _ _ s.ext (hP _ (by omega)) (hP _ (by omega)) fun h5 e5 => ⟨_, rfl, ?_⟩; have s := s.grow e5
    refine condP (fun hc => ⟨⟨by omega, by omega⟩, fin (2 * r + 2) _ _ (by push_cast; rfl) s (.inr rfl) (by omega) fun c k1 k2 => ?_⟩) (fun hc => fin (2 * r + 1) _ _ (by omega) s (.inl rfl) (by omega) fun c k1 k2 => ?_)
    · rcases k1 with rfl | rfl
      · exact ho.asymm _ _ hc
      · exact ho.irr _
    · rcases k1 with rfl | rfl
      · exact ho.irr _
      · exact hc
  · rcases k1 with rfl | rfl
    · exact ho.irr _
    · omega
theorem yapg {h0 h : Hp} {p : OA} {n cp a' b' : Nat} {a b : Int} {xs : List EvT} {A F : Bag} {cmp : Value} {cf : EvT → EvT → Int} {P : EvT → Prop} (hX : CmpEV h0 cmp cf P) (ho : OrdP (fun x y : EvT => cf x y < 0)) (s : St h0 h (A + F)) (o : Sl tEv p n cp xs A) (hP : ∀ k, k < n → P (xs.getD k tEv.d)) (ea : a = (a' : Int)) (eb : b = (b' : Int)) (hab : a' < b') (hb : b' ≤ n) (hn : n < 1000000) :
    yaah Tryz.prog 113 #[.slice p n cp, .int .i64 a, .int .i64 b, cmp] h (fun v h' => v = .tuple #[] ∧ OutEV h0 p n cp a' b' xs F h' (SrtR tEv.d (fun x y : EvT => cf x y < 0) a' b')) := by
  subst ea eb
  have hl0 := o.len
  refine zdg_call ?_
  rw [zdg_b0]
  refine ⟨⟨by omega, by omega⟩, ⟨by omega, by omega⟩, yabi (by omega) (by omega) (by omega) ?_⟩
  obtain ⟨q, hq⟩ : ∃ q : Nat, ((b' : Int) - a' - 1) / 2 + 1 = q := ⟨(((b' : Int) - a' - 1) / 2 + 1).toNat, by omega⟩
  refine ⟨fun i h1 => ∃ m : Nat, i.1 = (m : Int) - 1 ∧ m ≤ b' - a' ∧ OutEV h0 p n cp a' b' xs F h1 (HeapR tEv.d (fun x y : EvT => cf x y < 0) a' m (b' - a')), fun i _ => (i.1 + 1).toNat, ⟨q, by show _ / _ = _; omega, by omega, xs, A, o, s, .refl _, fun k c k1 k2 k3 => by omega⟩, ?_⟩
  rintro ⟨_, _⟩ h1 ⟨m, rfl, hm, ys, A1, o, s, w, hs⟩
  dsimp only
  have hl := o.len
  have hPy := w.allN hl0 hP
  rw [zdg_b1]
  refine condP (fun hi => ?_) (fun hi => ?_)
  · refine (yakk hX ho s o hPy (lo' := m - 1) (hi' := b' - a') (f' := a') (by omega) (by omega) rfl (by omega) (by omega) hn ⟨fun k c k1 k2 k3 k4 => hs k c (by omega) k2 k3, fun k c k1 k2 => by omega⟩).mono fun v h2 ⟨hv, zs, A2, o2, s2, w2, hs2⟩ => ⟨hv, ?_⟩
    rw [zdg_b2]
    exact ⟨⟨by omega, by omega⟩, ⟨m - 1, by omega, by omega, zs, A2, o2, s2, w.trans (w2.mono (by omega) (by omega) (by omega)).1, hs2⟩, by omega⟩
  · obtain rfl : m = 0 := by omega
    rw [zdg_b3]
    refine ⟨⟨by omega, by omega⟩, ?_⟩
    refine ⟨fun i h1 => ∃ m : Nat, i.1 = (m : Int) - 1 ∧ m ≤ b' - a' ∧ OutEV h0 p n cp a' b' xs F h1 (fun ys => HeapR tEv.d (fun x y : EvT => cf x y < 0) a' 0 m ys ∧ OutR tEv.d (fun x y : EvT => cf x y < 0) a' b' a' (a' + m) ys), fun i _ => (i.1 + 1).toNat, ⟨b' - a', by show (_ : Int) - 1 = _; omega, by omega, ys, A1, o, s, w, hs, by rw [show a' + (b' - a') = b' by omega]; exact yaeu⟩, ?_⟩
    clear hs w s o hl hPy ys
    rintro ⟨_, _⟩ h2 ⟨m, rfl, hm, ys, A1, o, s, w, hs, ho2⟩
    dsimp only
    have hl := o.len
    rw [zdg_b4]
    refine condP (fun hi => ⟨⟨by omega, by omega⟩, ⟨by omega, by omega⟩, ?_⟩) (fun hi => ?_)
    · refine swEV (u' := a') (v' := a' + (m - 1)) o s rfl (by omega) (by omega) (by omega) fun h6 A6 o6 s6 => ?_
      have w1 : Swp tEv.d a' (a' + m) ys (swapL tEv.d ys a' (a' + (m - 1))) := .one (by omega) (by omega) (by omega) (by omega) (by omega)
      have w6 := w.trans (w1.mono (Nat.le_refl _) (by omega) (by omega)).1
      have hg : ∀ k, (swapL tEv.d ys a' (a' + (m - 1))).getD k tEv.d = if k = a' + (m - 1) then ys.getD a' tEv.d else if k = a' then ys.getD (a' + (m - 1)) tEv.d else ys.getD k tEv.d := yaas (by omega) (by omega)
      have ho6 : OutR tEv.d (fun x y : EvT => cf x y < 0) a' b' a' (a' + (m - 1)) (swapL tEv.d ys a' (a' + (m - 1))) := by
        intro p q k1 k2 k3 k4
        by_cases hq : q = a' + (m - 1)
        · rw [hq, hg, if_pos rfl]
          exact w1.all (P := fun x => ¬ (fun x y : EvT => cf x y < 0) (ys.getD a' tEv.d) x) (fun k j1 j2 => by
            have := yaro ho hs (k - a') (by omega)
            rwa [show a' + (k - a') = k by omega] at this) p k1 (by omega)
        · exact yabe (Nat.le_refl _) (by omega) ho2 w1 p q k1 k2 k3 (by omega)
      generalize swapL tEv.d ys a' (a' + (m - 1)) = us at *
      refine (yakk hX ho s6 o6 (w6.allN hl0 hP) (lo' := 0) (hi' := m - 1) (f' := a') (by rfl) (by omega) rfl (by omega) (by omega) hn ⟨fun k c k1 k2 k3 k4 => ?_, fun k c k1 k2 => by omega⟩).mono fun v h2 ⟨hv, zs, A2, o2, s2, w2, hs2⟩ => ⟨hv, ?_⟩
      · rw [hg, hg, if_neg (by omega), if_neg (by omega), if_neg (by omega), if_neg (by omega)]
        exact hs k c (by omega) k2 (by omega)
      · rw [zdg_b5]
        exact ⟨⟨by omega, by omega⟩, ⟨m - 1, by omega, by omega, zs, A2, o2, s2, w6.trans (w2.mono (by omega) (by omega) (by rw [w6.len]; omega)).1, hs2, yabe (Nat.le_refl _) (by omega) ho6 w2⟩, by omega⟩
    · obtain rfl : m = 0 := by omega
      exact ⟨rfl, ys, A1, o, s, w, yafy ho2 (yado (by omega))⟩
theorem yair {h0 h : Hp} {p : OA} {n cp a' b' : Nat} {a b : Int} {xs : List EvT} {A F : Bag} {cmp : Value} (s : St h0 h (A + F)) (o : Sl tEv p n cp xs A) (ea : a = (a' : Int)) (eb : b = (b' : Int)) (hab : a' ≤ b') (hb : b' ≤ n) (hn : n < 1000000) :
    yaah Tryz.prog 116 #[.slice p n cp, .int .i64 a, .int .i64 b, cmp] h (fun v h' => v = .tuple #[] ∧ OutEV h0 p n cp a' b' xs F h' fun _ => True) := by
  subst ea eb
  have hl0 := o.len
  refine zdz_call ?_
  rw [zdz_b0]
  refine ⟨⟨by omega, by omega⟩, fun i h1 => ∃ i' : Nat, i.1 = i' ∧ a' ≤ i' ∧ i.2.1 < b' ∧ i' ≤ n ∧ -1 ≤ i.2.1 ∧ OutEV h0 p n cp a' b' xs F h1 fun _ => True, fun i _ => (i.2.1 - i.1).toNat, ⟨a', rfl, Nat.le_refl _, by show (_ : Int) - 1 < _; omega, by omega, by show -1 ≤ (_ : Int) - 1; omega, xs, A, o, s, .refl _, trivial⟩, ?_⟩
  rintro ⟨_, j, _⟩ h1 ⟨i', rfl, hi, hj, hin, hj1, ys, A1, o, s, w, _⟩
  dsimp only at hj hj1 ⊢
  have hl := o.len
  rw [zdz_b1]
  refine condP (fun hlt => ?_) (fun hlt => ⟨rfl, ys, A1, o, s, w, trivial⟩)
  refine swEV (u' := i') (v' := j.toNat) o s rfl (by omega) (by omega) (by omega) fun h6 A6 o6 s6 => ?_
  exact ⟨⟨by omega, by omega⟩, ⟨by omega, by omega⟩, ⟨i' + 1, by push_cast; rfl, by omega, by show j - 1 < _; omega, by omega, by show -1 ≤ j - 1; omega, _, A6, o6, s6, .step w (by omega) (by omega) (by omega) (by omega) (by omega), trivial⟩, by dsimp only; omega⟩
def blen (x : Nat) : Nat := if x = 0 then 0 else x.log2 + 1
theorem yaha {x k : Nat} (h : 2 ^ k ≤ x) : blen x = blen (x / 2 ^ k) + k := by
  have hp : 0 < 2 ^ k := Nat.two_pow_pos k
  have hx : x ≠ 0 := by omega
  have hq : x / 2 ^ k ≠ 0 := by have := Nat.div_pos h hp; omega
  unfold blen
  rw [if_neg hx, if_neg hq]
  have : x.log2 = (x / 2 ^ k).log2 + k := by
    rw [Nat.log2_eq_iff hx]
    have h1 := Nat.log2_self_le hq
    have h2 := @Nat.lt_log2_self (x / 2 ^ k)
    constructor
    · rw [Nat.pow_add]
      exact Nat.le_trans (Nat.mul_le_mul_right _ h1) (Nat.div_mul_le_self _ _)
    · rw [show (x / 2 ^ k).log2 + k + 1 = ((x / 2 ^ k).log2 + 1) + k by omega, Nat.pow_add]
      exact (Nat.div_lt_iff_lt_mul hp).1 h2
  omega
theorem yana {x k : Nat} (h : x < 2 ^ k) : blen x ≤ k := by
  unfold blen
  split
  · omega
  · rename_i hx
    have h1 := Nat.log2_self_le hx
    have : 2 ^ x.log2 < 2 ^ k := Nat.lt_of_le_of_lt h1 h
    have := (Nat.pow_lt_pow_iff_right (by decide : 1 < 2)).1 this
    omega
theorem yayn {s : ByteArray} {m : Nat} {nv : Int} {h : Hp} {K : VK} (hz : s.size = 256) (hs : ∀ n, n < 256 → (s.data.toList.getD n 0).toNat = blen n) (hm : m < 256) (h0 : 0 ≤ nv) (h1 : nv < 1000)
    (hk : K (.int .i64 (nv + (blen m : Nat))) h) : (0 ≤ IntKind.u8.wrap (m : Int) ∧ IntKind.u8.wrap (m : Int) < (s.size : Int)) ∧ InR (((s.data.toList.getD (Int.toNat (IntKind.u8.wrap (m : Int))) 0).toNat : Int)) ∧
      InR (nv + (((s.data.toList.getD (Int.toNat (IntKind.u8.wrap (m : Int))) 0).toNat : Int))) ∧ K (.int .i64 (nv + (((s.data.toList.getD (Int.toNat (IntKind.u8.wrap (m : Int))) 0).toNat : Int)))) h := by
  have hw : IntKind.u8.wrap (m : Int) = m := yarx _ (by omega) (by omega)
  have hb : blen m ≤ 8 := yana (by omega)
  rw [hw, show ((m : Nat) : Int).toNat = m by simp, hs m hm, hz]
  exact ⟨⟨by omega, by omega⟩, ⟨by omega, by omega⟩, ⟨by omega, by omega⟩, hk⟩
theorem yaxf (x : Nat) (hx : x < 18446744073709551616) (h : Hp) : yaah Tryz.prog 121 #[.int .u64 (x : Int)] h (fun r h' => r = .int .i64 (blen x : Nat) ∧ h' = h) := by
  refine zbb_call ?_
  have shr : ∀ (y k : Nat), y >>> k = y / 2 ^ k := fun y k => Nat.shiftRight_eq_div_pow y k
  have b3 : ∀ (y : Nat) (nv : Int), y < 256 → 0 ≤ nv → nv < 100 → nv + (blen y : Nat) = (blen x : Nat) → zbb_b3 (y : Int) nv h (fun r h' => r = .int .i64 (blen x : Nat) ∧ h' = h) := by
    intro y nv hy h0 h1 he
    rw [zbb_b3_eq]
    refine yayn (K := fun r h' => r = .int .i64 (blen x : Nat) ∧ h' = h) ?_ ?_ hy h0 (by omega) ?_
    · decide +kernel
    · decide +kernel
    · rw [he]; exact ⟨rfl, rfl⟩
  have b2 : ∀ (y : Nat) (nv : Int), y < 65536 → 0 ≤ nv → nv < 90 → nv + (blen y : Nat) = (blen x : Nat) → zbb_b2 (y : Int) nv h (fun r h' => r = .int .i64 (blen x : Nat) ∧ h' = h) := by
    intro y nv hy h0 h1 he
    rw [zbb_b2_eq]
    refine condP (fun hc => ?_) (fun hc => b3 y nv (by omega) h0 (by omega) he)
    refine yafz (x := y) (s := 8) rfl rfl (by decide) ⟨⟨by omega, by omega⟩, ?_⟩
    rw [shr]
    have := yaha (x := y) (k := 8) (by omega)
    exact b3 _ _ (by omega) (by omega) (by omega) (by omega)
  have b1 : ∀ (y : Nat) (nv : Int), y < 4294967296 → 0 ≤ nv → nv < 70 → nv + (blen y : Nat) = (blen x : Nat) → zbb_b1 (y : Int) nv h (fun r h' => r = .int .i64 (blen x : Nat) ∧ h' = h) := by
    intro y nv hy h0 h1 he
    rw [zbb_b1_eq]
    refine condP (fun hc => ?_) (fun hc => b2 y nv (by omega) h0 (by omega) he)
    refine yafz (x := y) (s := 16) rfl rfl (by decide) ⟨⟨by omega, by omega⟩, ?_⟩
    rw [shr]
    have := yaha (x := y) (k := 16) (by omega)
    exact b2 _ _ (by omega) (by omega) (by omega) (by omega)
  rw [zbb_b0_eq]
  refine condP (fun hc => ?_) (fun hc => b1 x 0 (by omega) (by omega) (by omega) (by omega))
  refine yafz (x := x) (s := 32) rfl rfl (by decide) ?_
  rw [shr]
  have := yaha (x := x) (k := 32) (by omega)
  exact b1 _ _ (by omega) (by omega) (by omega) (by omega)
theorem yagp (x : Nat) (hx : x < 18446744073709551616) (h : Hp) : yaah Tryz.prog 82 #[.int .u64 (x : Int)] h (fun r h' => r = .int .i64 (blen x : Nat) ∧ h' = h) := by
  refine zba_call ?_
  rw [zba_b0]
  refine (yaxf x hx h).mono fun v h' ⟨hv, hh⟩ => ?_
  exact ⟨_, hv, rfl, hh⟩
theorem yalf {x : Nat} (h : 1 ≤ x) : 2 ^ blen x ≤ 2 * x ∧ x < 2 ^ blen x := by
  unfold blen
  rw [if_neg (by omega)]
  have h1 := Nat.log2_self_le (show x ≠ 0 by omega)
  have h2 := @Nat.lt_log2_self x
  rw [Nat.pow_succ]
  rw [Nat.pow_succ] at h2
  omega
theorem yaju (x : Nat) (h1 : 1 ≤ x) (hx : x < 1000000) (h : Hp) : yaah Tryz.prog 138 #[.int .i64 (x : Int)] h (fun r h' => r = .int .u64 ((2 ^ blen x : Nat) : Int) ∧ h' = h) := by
  refine zdo_call ?_
  rw [zdo_b0, yacg _ (by omega) (by omega)]
  refine (yagp x (by omega) h).mono fun v h' ⟨hv, hh⟩ => ⟨_, hv, ?_⟩
  have hb := yalf h1
  have hl : blen x ≤ 20 := yana (by omega)
  refine yanr (x := 1) (s := blen x) rfl rfl (by show blen x ≤ 64; omega) ?_ ⟨?_, hh⟩
  · exact yacg _ (by omega) (by omega)
  · rw [Nat.one_mul]
theorem yaum {h0 h : Hp} {b : Nat} {z : Int} {e : TypeId} {F : Bag} (s : St h0 h (cA b [.int .u64 z] e + F)) : yaah Tryz.prog 139 #[.pointer (some ⟨b, 0, none⟩)] h (fun r h' => ∃ y : Int, r = .int .u64 y ∧ St h0 h' (cA b [.int .u64 y] e + F)) := by
  refine zed_call ?_
  rw [zed_b0]
  refine ⟨_, s.cell 0, _, s.cell 0, _, ⟨by decide, rfl⟩, _, rfl, s.wr (o := 0) rfl Nat.zero_lt_one fun h1 s => ?_⟩
  refine ⟨_, s.cell 0, _, s.cell 0, _, ⟨by decide, rfl⟩, _, rfl, s.wr (o := 0) rfl Nat.zero_lt_one fun h2 s => ?_⟩
  refine ⟨_, s.cell 0, _, s.cell 0, _, ⟨by decide, rfl⟩, _, rfl, s.wr (o := 0) rfl Nat.zero_lt_one fun h3 s => ?_⟩
  exact ⟨_, s.cell 0, _, rfl, s⟩
theorem yauh (r : Int) (m : Nat) (h1 : 1 ≤ m) (hm : m < 10000000) {Q : Int → Prop} (hq : ∀ k : Nat, k < m → Q (k : Int)) : ∃ an1 : Int, Sx.And .u64 r (IntKind.u64.wrap ((m : Int) - 1)) an1 ∧ Q an1 := by
  refine ⟨_, rfl, ?_⟩
  rw [yacg ((m : Int) - 1) (by omega) (by omega)]
  have h2 : ((BitVec.ofInt IntKind.u64.bits r) &&& (BitVec.ofInt IntKind.u64.bits ((m : Int) - 1))).toNat ≤ m - 1 := by
    rw [BitVec.toNat_and]
    refine Nat.le_trans Nat.and_le_right ?_
    rw [show ((m : Int) - 1) = ((m - 1 : Nat) : Int) by omega, BitVec.ofInt_natCast, BitVec.toNat_ofNat]
    exact Nat.mod_le _ _
  rw [yacg _ (by omega) (by omega)]
  exact hq _ (by omega)
theorem yamc {h0 h : Hp} {p : OA} {n cp a' b' sb : Nat} {a b z : Int} {e : TypeId} {xs : List Int} {A F : Bag} {P : Int → Prop} (s : St h0 h (A + (cA sb [.int .i64 z] e + F))) (o : Sl (tI 3) p n cp xs A) (hP : ∀ k, k < n → P (xs.getD k (tI 3).d)) (ea : a = (a' : Int)) (eb : b = (b' : Int)) (ha : a' < n) (hb : b' < n) (hz : 0 ≤ z) (hz1 : z < 1000) :
    yaah Tryz.prog 175 #[.slice p n cp, .int .i64 a, .int .i64 b, .pointer (some ⟨sb, 0, none⟩)] h (fun v h' => ∃ u w z' : Int, v = .tuple #[.int .i64 u, .int .i64 w] ∧ (u = a ∧ w = b ∨ u = b ∧ w = a) ∧ z ≤ z' ∧ z' ≤ z + 1 ∧ St h0 h' (A + (cA sb [.int .i64 z'] e + F))) := by
  subst ea eb
  have hl0 := o.len
  refine zdq_call ?_
  rw [zdq_b0]
  have r := o.rd s
  refine ldOI (i' := b') r rfl hb (ldOI (i' := a') r rfl ha ?_)
  refine ⟨_, (yact _ _ _).mono fun v9 h9 ⟨hh9, hv9⟩ => ⟨hv9, hh9⟩, ?_⟩
  refine condP (fun hc => ?_) (fun hc => ⟨_, _, z, rfl, .inl ⟨rfl, rfl⟩, by omega, by omega, s⟩)
  have s := s.to (B := cA sb [.int .i64 z] e + (A + F))
  refine ⟨_, s.cell 0, ⟨by omega, by omega⟩, s.wr (o := 0) rfl Nat.zero_lt_one fun h2 s => ?_⟩
  exact ⟨_, _, z + 1, rfl, .inr ⟨rfl, rfl⟩, by omega, by omega, s.to⟩
theorem yaqs {h0 h : Hp} {p : OA} {n cp sb : Nat} {a b c z : Int} {e : TypeId} {xs : List Int} {A F : Bag} {P : Int → Prop} (s : St h0 h (A + (cA sb [.int .i64 z] e + F))) (o : Sl (tI 3) p n cp xs A) (hP : ∀ k, k < n → P (xs.getD k (tI 3).d)) (ha : 0 ≤ a ∧ a < n) (hb : 0 ≤ b ∧ b < n) (hc : 0 ≤ c ∧ c < n) (hz : 0 ≤ z) (hz1 : z < 900) :
    yaah Tryz.prog 170 #[.slice p n cp, .int .i64 a, .int .i64 b, .int .i64 c, .pointer (some ⟨sb, 0, none⟩)] h (fun v h' => ∃ u z' : Int, v = .int .i64 u ∧ (u = a ∨ u = b ∨ u = c) ∧ z ≤ z' ∧ z' ≤ z + 3 ∧ St h0 h' (A + (cA sb [.int .i64 z'] e + F))) := by
  refine zdn_call ?_
  rw [zdn_b0]
  refine (yamc  s o hP (a' := a.toNat) (b' := b.toNat) (by omega) (by omega) (by omega) (by omega) hz (by omega)).mono fun v1 h1 ⟨u1, w1, z1, hv1, hu1, g1, g2, s⟩ => ⟨_, _, hv1, ?_⟩
  refine (yamc  s o hP (a' := w1.toNat) (b' := c.toNat) (by omega) (by omega) (by omega) (by omega) (by omega) (by omega)).mono fun v2 h2 ⟨u2, w2, z2, hv2, hu2, g3, g4, s⟩ => ⟨_, _, hv2, ?_⟩
  refine (yamc  s o hP (a' := u1.toNat) (b' := u2.toNat) (by omega) (by omega) (by omega) (by omega) (by omega) (by omega)).mono fun v3 h3 ⟨u3, w3, z3, hv3, hu3, g5, g6, s⟩ => ⟨_, _, hv3, ?_⟩
  exact ⟨_, z3, rfl, by omega, by omega, by omega, s⟩
theorem yacp {h0 h : Hp} {p : OA} {n cp sb : Nat} {a z : Int} {e : TypeId} {xs : List Int} {A F : Bag} {P : Int → Prop} (s : St h0 h (A + (cA sb [.int .i64 z] e + F))) (o : Sl (tI 3) p n cp xs A) (hP : ∀ k, k < n → P (xs.getD k (tI 3).d)) (ha : 1 ≤ a ∧ a + 1 < n) (hn : n < 1000000) (hz : 0 ≤ z) (hz1 : z < 900) :
    yaah Tryz.prog 169 #[.slice p n cp, .int .i64 a, .pointer (some ⟨sb, 0, none⟩)] h (fun v h' => ∃ u z' : Int, v = .int .i64 u ∧ (a - 1 ≤ u ∧ u ≤ a + 1) ∧ z ≤ z' ∧ z' ≤ z + 3 ∧ St h0 h' (A + (cA sb [.int .i64 z'] e + F))) := by
  refine zdl_call ?_
  rw [zdl_b0]
  refine ⟨⟨by omega, by omega⟩, ⟨by omega, by omega⟩, (yaqs  s o hP (by omega) (by omega) (by omega) hz hz1).mono fun v1 h1 ⟨u, z', hv, hu, g1, g2, s⟩ => ⟨_, hv, _, z', rfl, by omega, g1, g2, s⟩⟩
theorem yake {h0 h : Hp} {p : OA} {n cp a' b' : Nat} {a b : Int} {xs : List Int} {A F : Bag} {P : Int → Prop} (s : St h0 h (A + F)) (o : Sl (tI 3) p n cp xs A) (hP : ∀ k, k < n → P (xs.getD k (tI 3).d)) (ea : a = (a' : Int)) (eb : b = (b' : Int)) (hab : a' < b') (hb : b' ≤ n) (hn : n < 1000000) :
    yaah Tryz.prog 156 #[.slice p n cp, .int .i64 a, .int .i64 b] h (fun v h' => ∃ u hint : Int, v = .tuple #[.int .i64 u, .int .i64 hint] ∧ a ≤ u ∧ u < b ∧ St h0 h' (A + F)) := by
  subst ea eb
  refine zdf_call ?_
  rw [zdf_b0]
  refine ⟨⟨by omega, by omega⟩, s.new (cs := [.int .i64 0]) fun sb h1 _ s => ?_⟩
  have s := s.to (B := A + (cA sb [.int .i64 0] 3 + F))
  have b2 : ∀ (u z : Int) (h' : Hp), a' ≤ u → u < b' → St h0 h' (A + (cA sb [.int .i64 z] 3 + F)) → zdf_b2 (some ⟨sb, 0, none⟩) u h' (fun v h' => ∃ u hint : Int, v = .tuple #[.int .i64 u, .int .i64 hint] ∧ (a' : Int) ≤ u ∧ u < b' ∧ St h0 h' (A + F)) := by
    intro u z h' h1 h2 s
    rw [zdf_b2]
    have s := s.to (B := cA sb [.int .i64 z] 3 + (A + F))
    exact ⟨_, s.cell 0, condP (fun _ => ⟨_, _, rfl, h1, h2, s.drop⟩) fun _ => condP (fun _ => ⟨_, _, rfl, h1, h2, s.drop⟩) fun _ => ⟨_, _, rfl, h1, h2, s.drop⟩⟩
  have b1 : ∀ (u v w z : Int) (h' : Hp), (a' ≤ u ∧ u < b') → (a' ≤ v ∧ v < b') → (a' ≤ w ∧ w < b') → 0 ≤ z → z < 100 → St h0 h' (A + (cA sb [.int .i64 z] 3 + F)) → zdf_b1 p n cp (some ⟨sb, 0, none⟩) u v w h' (fun v h' => ∃ u hint : Int, v = .tuple #[.int .i64 u, .int .i64 hint] ∧ (a' : Int) ≤ u ∧ u < b' ∧ St h0 h' (A + F)) := by
    intro u v w z h' h1 h2 h3 hz hz1 s
    rw [zdf_b1]
    refine (yaqs  s o hP (by omega) (by omega) (by omega) hz (by omega)).mono fun v1 h1 ⟨u, z', hv, hu, g1, g2, s⟩ => ⟨_, hv, ?_⟩
    exact b2 _ _ _ (by omega) (by omega) s
  refine yabi (by omega) (by omega) (by omega) ⟨⟨by omega, by omega⟩, ⟨by omega, by omega⟩, ?_⟩
  refine yabi (by omega) (by omega) (by omega) ⟨⟨by omega, by omega⟩, ⟨by omega, by omega⟩, ?_⟩
  refine yabi (by omega) (by omega) (by omega) ⟨⟨by omega, by omega⟩, ⟨by omega, by omega⟩, ?_⟩
  refine condP (fun h8 => ?_) (fun h8 => b2 _ _ _ (by omega) (by omega) s)
  refine condP (fun h50 => ?_) (fun h50 => b1 _ _ _ _ _ (by omega) (by omega) (by omega) (by omega) (by omega) s)
  refine (yacp  s o hP (by omega) hn (by omega) (by omega)).mono fun v1 h1 ⟨u1, z1, hv, hu, g1, g2, s⟩ => ⟨_, hv, ?_⟩
  refine (yacp  s o hP (by omega) hn (by omega) (by omega)).mono fun v1 h1 ⟨u2, z2, hv, hu, g3, g4, s⟩ => ⟨_, hv, ?_⟩
  refine (yacp  s o hP (by omega) hn (by omega) (by omega)).mono fun v1 h1 ⟨u3, z3, hv, hu, g5, g6, s⟩ => ⟨_, hv, ?_⟩
  exact b1 _ _ _ _ _ (by omega) (by omega) (by omega) (by omega) (by omega) s
theorem yahh {h0 h : Hp} {p : OA} {n cp a' b' : Nat} {a b : Int} {xs : List Int} {A F : Bag} (s : St h0 h (A + F)) (o : Sl (tI 3) p n cp xs A) (ea : a = (a' : Int)) (eb : b = (b' : Int)) (hab : a' ≤ b') (hb : b' ≤ n) (hn : n < 1000000) :
    yaah Tryz.prog 155 #[.slice p n cp, .int .i64 a, .int .i64 b] h (fun v h' => v = .tuple #[] ∧ OutOI h0 p n cp a' b' xs F h' fun _ => True) := by
  subst ea eb
  have hl0 := o.len
  refine zdd_call ?_
  rw [zdd_b0]
  refine ⟨⟨by omega, by omega⟩, condP (fun h8 => ?_) (fun h8 => ⟨rfl, xs, A, o, s, .refl _, trivial⟩)⟩
  refine s.new (cs := [.int .u64 0]) fun rb h1 _ s => ?_
  refine s.wr (o := 0) rfl Nat.zero_lt_one fun h2 s => ?_
  rw [show ((b' : Int) - a') = ((b' - a' : Nat) : Int) by omega]
  refine (yaju (b' - a') (by omega) (by omega) h2).mono fun v h3 ⟨hv, hh⟩ => ⟨_, hv, ?_⟩
  subst hh
  have hm := yalf (x := b' - a') (by omega)
  generalize 2 ^ blen (b' - a') = m at *
  refine yabi (by omega) (by omega) (by omega) ⟨⟨by omega, by omega⟩, ⟨by omega, by omega⟩, ⟨by omega, by omega⟩, ?_⟩
  obtain ⟨q, hq⟩ : ∃ q : Nat, ((b' - a' : Nat) : Int) / 4 = q := ⟨(b' - a') / 4, by omega⟩
  rw [hq]
  refine ⟨fun i h1 => ∃ (i' : Nat) (z : Int), i.1 = i' ∧ a' ≤ i' ∧ ∃ ys A1, Sl (tI 3) p n cp ys A1 ∧ St h0 h1 (cA rb [.int .u64 z] 162 + (A1 + F)) ∧ Swp (tI 3).d a' b' xs ys, fun i _ => (b' - i.1).toNat, ⟨a' + 2 * q - 1, _, by show (_ : Int) - 1 = _; omega, by omega, xs, A, o, s, .refl _⟩, ?_⟩
  rintro ⟨_, _⟩ h1 ⟨i', z, rfl, hi, ys, A1, o, s, w⟩
  dsimp only
  have hl := o.len
  rw [zdd_b1]
  refine yabi (by omega) (by omega) (by omega) ?_
  rw [hq]
  refine ⟨⟨by omega, by omega⟩, ⟨by omega, by omega⟩, ⟨by omega, by omega⟩, condP (fun hlt => ?_) (fun hlt => ⟨rfl, ys, A1, o, s.drop, w, trivial⟩)⟩
  refine (yaum s).mono fun v h3 ⟨y, hv, s⟩ => ⟨_, hv, yauh y m (by omega) (by omega) fun k hk => ⟨⟨by omega, by omega⟩, ?_⟩⟩
  have fin : ∀ u : Nat, u < b' - a' → zdd_b2 p n cp a' ((b' - a' : Nat) : Int) (some ⟨rb, 0, none⟩) m i' u h3 (fun s' h' => (∃ (i' : Nat) (z : Int), s'.1 = i' ∧ a' ≤ i' ∧ ∃ ys A1, Sl (tI 3) p n cp ys A1 ∧ St h0 h' (cA rb [.int .u64 z] 162 + (A1 + F)) ∧ Swp (tI 3).d a' b' xs ys) ∧ (b' - s'.1).toNat < (b' - (i' : Int)).toNat) (fun v h' => v = .tuple #[] ∧ OutOI h0 p n cp a' b' xs F h' fun _ => True) := by
    intro u hu
    rw [zdd_b2]
    have s := s.to (B := A1 + (cA rb [.int .u64 y] 162 + F))
    refine ⟨⟨by omega, by omega⟩, ⟨by omega, by omega⟩, swOI (u' := i') (v' := a' + u) o s rfl (by push_cast; rfl) (by omega) (by omega) fun h6 A6 o6 s6 => ?_⟩
    rw [zdd_b3]
    exact ⟨⟨by omega, by omega⟩, ⟨i' + 1, y, by push_cast; rfl, by omega, _, A6, o6, s6.to, .step w (by omega) (by omega) (by omega) (by omega) (by omega)⟩, by omega⟩
  refine condP (fun hk2 => ⟨⟨by omega, by omega⟩, ?_⟩) (fun hk2 => fin k (by omega))
  have := fin (k - (b' - a')) (by omega)
  rwa [show ((k - (b' - a') : Nat) : Int) = (k : Int) - ((b' - a' : Nat) : Int) by omega] at this
theorem yamf {h0 h : Hp} {p : OA} {n cp a' b' sb : Nat} {a b z : Int} {e : TypeId} {xs : List EvT} {A F : Bag} {cmp : Value} {cf : EvT → EvT → Int} {P : EvT → Prop} (hX : CmpEV h0 cmp cf P) (ho : OrdP (fun x y : EvT => cf x y < 0)) (s : St h0 h (A + (cA sb [.int .i64 z] e + F))) (o : Sl tEv p n cp xs A) (hP : ∀ k, k < n → P (xs.getD k tEv.d)) (ea : a = (a' : Int)) (eb : b = (b' : Int)) (ha : a' < n) (hb : b' < n) (hz : 0 ≤ z) (hz1 : z < 1000) :
    yaah Tryz.prog 151 #[.slice p n cp, .int .i64 a, .int .i64 b, .pointer (some ⟨sb, 0, none⟩), cmp] h (fun v h' => ∃ u w z' : Int, v = .tuple #[.int .i64 u, .int .i64 w] ∧ (u = a ∧ w = b ∨ u = b ∧ w = a) ∧ z ≤ z' ∧ z' ≤ z + 1 ∧ St h0 h' (A + (cA sb [.int .i64 z'] e + F))) := by
  subst ea eb
  have hl0 := o.len
  refine zdp_call ?_
  rw [zdp_b0]
  have r := o.rd s
  refine ldEV (i' := b') r rfl hb (ldEV (i' := a') r rfl ha ?_)
  refine hX _ _ _ _ s.ext (hP _ (by omega)) (hP _ (by omega)) fun h5 e5 => ⟨_, rfl, ?_⟩; have s := s.grow e5
  refine condP (fun hc => ?_) (fun hc => ⟨_, _, z, rfl, .inl ⟨rfl, rfl⟩, by omega, by omega, s⟩)
  have s := s.to (B := cA sb [.int .i64 z] e + (A + F))
  refine ⟨_, s.cell 0, ⟨by omega, by omega⟩, s.wr (o := 0) rfl Nat.zero_lt_one fun h2 s => ?_⟩
  exact ⟨_, _, z + 1, rfl, .inr ⟨rfl, rfl⟩, by omega, by omega, s.to⟩
theorem yaqi {h0 h : Hp} {p : OA} {n cp sb : Nat} {a b c z : Int} {e : TypeId} {xs : List EvT} {A F : Bag} {cmp : Value} {cf : EvT → EvT → Int} {P : EvT → Prop} (hX : CmpEV h0 cmp cf P) (ho : OrdP (fun x y : EvT => cf x y < 0)) (s : St h0 h (A + (cA sb [.int .i64 z] e + F))) (o : Sl tEv p n cp xs A) (hP : ∀ k, k < n → P (xs.getD k tEv.d)) (ha : 0 ≤ a ∧ a < n) (hb : 0 ≤ b ∧ b < n) (hc : 0 ≤ c ∧ c < n) (hz : 0 ≤ z) (hz1 : z < 900) :
    yaah Tryz.prog 141 #[.slice p n cp, .int .i64 a, .int .i64 b, .int .i64 c, .pointer (some ⟨sb, 0, none⟩), cmp] h (fun v h' => ∃ u z' : Int, v = .int .i64 u ∧ (u = a ∨ u = b ∨ u = c) ∧ z ≤ z' ∧ z' ≤ z + 3 ∧ St h0 h' (A + (cA sb [.int .i64 z'] e + F))) := by
  refine zdm_call ?_
  rw [zdm_b0]
  refine (yamf hX ho s o hP (a' := a.toNat) (b' := b.toNat) (by omega) (by omega) (by omega) (by omega) hz (by omega)).mono fun v1 h1 ⟨u1, w1, z1, hv1, hu1, g1, g2, s⟩ => ⟨_, _, hv1, ?_⟩
  refine (yamf hX ho s o hP (a' := w1.toNat) (b' := c.toNat) (by omega) (by omega) (by omega) (by omega) (by omega) (by omega)).mono fun v2 h2 ⟨u2, w2, z2, hv2, hu2, g3, g4, s⟩ => ⟨_, _, hv2, ?_⟩
  refine (yamf hX ho s o hP (a' := u1.toNat) (b' := u2.toNat) (by omega) (by omega) (by omega) (by omega) (by omega) (by omega)).mono fun v3 h3 ⟨u3, w3, z3, hv3, hu3, g5, g6, s⟩ => ⟨_, _, hv3, ?_⟩
  exact ⟨_, z3, rfl, by omega, by omega, by omega, s⟩
theorem yack {h0 h : Hp} {p : OA} {n cp sb : Nat} {a z : Int} {e : TypeId} {xs : List EvT} {A F : Bag} {cmp : Value} {cf : EvT → EvT → Int} {P : EvT → Prop} (hX : CmpEV h0 cmp cf P) (ho : OrdP (fun x y : EvT => cf x y < 0)) (s : St h0 h (A + (cA sb [.int .i64 z] e + F))) (o : Sl tEv p n cp xs A) (hP : ∀ k, k < n → P (xs.getD k tEv.d)) (ha : 1 ≤ a ∧ a + 1 < n) (hn : n < 1000000) (hz : 0 ≤ z) (hz1 : z < 900) :
    yaah Tryz.prog 140 #[.slice p n cp, .int .i64 a, .pointer (some ⟨sb, 0, none⟩), cmp] h (fun v h' => ∃ u z' : Int, v = .int .i64 u ∧ (a - 1 ≤ u ∧ u ≤ a + 1) ∧ z ≤ z' ∧ z' ≤ z + 3 ∧ St h0 h' (A + (cA sb [.int .i64 z'] e + F))) := by
  refine zdk_call ?_
  rw [zdk_b0]
  refine ⟨⟨by omega, by omega⟩, ⟨by omega, by omega⟩, (yaqi hX ho s o hP (by omega) (by omega) (by omega) hz hz1).mono fun v1 h1 ⟨u, z', hv, hu, g1, g2, s⟩ => ⟨_, hv, _, z', rfl, by omega, g1, g2, s⟩⟩
theorem yajl {h0 h : Hp} {p : OA} {n cp a' b' : Nat} {a b : Int} {xs : List EvT} {A F : Bag} {cmp : Value} {cf : EvT → EvT → Int} {P : EvT → Prop} (hX : CmpEV h0 cmp cf P) (ho : OrdP (fun x y : EvT => cf x y < 0)) (s : St h0 h (A + F)) (o : Sl tEv p n cp xs A) (hP : ∀ k, k < n → P (xs.getD k tEv.d)) (ea : a = (a' : Int)) (eb : b = (b' : Int)) (hab : a' < b') (hb : b' ≤ n) (hn : n < 1000000) :
    yaah Tryz.prog 115 #[.slice p n cp, .int .i64 a, .int .i64 b, cmp] h (fun v h' => ∃ u hint : Int, v = .tuple #[.int .i64 u, .int .i64 hint] ∧ a ≤ u ∧ u < b ∧ St h0 h' (A + F)) := by
  subst ea eb
  refine zde_call ?_
  rw [zde_b0]
  refine ⟨⟨by omega, by omega⟩, s.new (cs := [.int .i64 0]) fun sb h1 _ s => ?_⟩
  have s := s.to (B := A + (cA sb [.int .i64 0] 3 + F))
  have b2 : ∀ (u z : Int) (h' : Hp), a' ≤ u → u < b' → St h0 h' (A + (cA sb [.int .i64 z] 3 + F)) → zde_b2 (some ⟨sb, 0, none⟩) u h' (fun v h' => ∃ u hint : Int, v = .tuple #[.int .i64 u, .int .i64 hint] ∧ (a' : Int) ≤ u ∧ u < b' ∧ St h0 h' (A + F)) := by
    intro u z h' h1 h2 s
    rw [zde_b2]
    have s := s.to (B := cA sb [.int .i64 z] 3 + (A + F))
    exact ⟨_, s.cell 0, condP (fun _ => ⟨_, _, rfl, h1, h2, s.drop⟩) fun _ => condP (fun _ => ⟨_, _, rfl, h1, h2, s.drop⟩) fun _ => ⟨_, _, rfl, h1, h2, s.drop⟩⟩
  have b1 : ∀ (u v w z : Int) (h' : Hp), (a' ≤ u ∧ u < b') → (a' ≤ v ∧ v < b') → (a' ≤ w ∧ w < b') → 0 ≤ z → z < 100 → St h0 h' (A + (cA sb [.int .i64 z] 3 + F)) → zde_b1 p n cp cmp (some ⟨sb, 0, none⟩) u v w h' (fun v h' => ∃ u hint : Int, v = .tuple #[.int .i64 u, .int .i64 hint] ∧ (a' : Int) ≤ u ∧ u < b' ∧ St h0 h' (A + F)) := by
    intro u v w z h' h1 h2 h3 hz hz1 s
    rw [zde_b1]
    refine (yaqi hX ho s o hP (by omega) (by omega) (by omega) hz (by omega)).mono fun v1 h1 ⟨u, z', hv, hu, g1, g2, s⟩ => ⟨_, hv, ?_⟩
    exact b2 _ _ _ (by omega) (by omega) s
  refine yabi (by omega) (by omega) (by omega) ⟨⟨by omega, by omega⟩, ⟨by omega, by omega⟩, ?_⟩
  refine yabi (by omega) (by omega) (by omega) ⟨⟨by omega, by omega⟩, ⟨by omega, by omega⟩, ?_⟩
  refine yabi (by omega) (by omega) (by omega) ⟨⟨by omega, by omega⟩, ⟨by omega, by omega⟩, ?_⟩
  refine condP (fun h8 => ?_) (fun h8 => b2 _ _ _ (by omega) (by omega) s)
  refine condP (fun h50 => ?_) (fun h50 => b1 _ _ _ _ _ (by omega) (by omega) (by omega) (by omega) (by omega) s)
  refine (yack hX ho s o hP (by omega) hn (by omega) (by omega)).mono fun v1 h1 ⟨u1, z1, hv, hu, g1, g2, s⟩ => ⟨_, hv, ?_⟩
  refine (yack hX ho s o hP (by omega) hn (by omega) (by omega)).mono fun v1 h1 ⟨u2, z2, hv, hu, g3, g4, s⟩ => ⟨_, hv, ?_⟩
  refine (yack hX ho s o hP (by omega) hn (by omega) (by omega)).mono fun v1 h1 ⟨u3, z3, hv, hu, g5, g6, s⟩ => ⟨_, hv, ?_⟩
  exact b1 _ _ _ _ _ (by omega) (by omega) (by omega) (by omega) (by omega) s
theorem yahe {h0 h : Hp} {p : OA} {n cp a' b' : Nat} {a b : Int} {xs : List EvT} {A F : Bag} {cmp : Value} (s : St h0 h (A + F)) (o : Sl tEv p n cp xs A) (ea : a = (a' : Int)) (eb : b = (b' : Int)) (hab : a' ≤ b') (hb : b' ≤ n) (hn : n < 1000000) :
    yaah Tryz.prog 114 #[.slice p n cp, .int .i64 a, .int .i64 b, cmp] h (fun v h' => v = .tuple #[] ∧ OutEV h0 p n cp a' b' xs F h' fun _ => True) := by
  subst ea eb
  have hl0 := o.len
  refine zdc_call ?_
  rw [zdc_b0]
  refine ⟨⟨by omega, by omega⟩, condP (fun h8 => ?_) (fun h8 => ⟨rfl, xs, A, o, s, .refl _, trivial⟩)⟩
  refine s.new (cs := [.int .u64 0]) fun rb h1 _ s => ?_
  refine s.wr (o := 0) rfl Nat.zero_lt_one fun h2 s => ?_
  rw [show ((b' : Int) - a') = ((b' - a' : Nat) : Int) by omega]
  refine (yaju (b' - a') (by omega) (by omega) h2).mono fun v h3 ⟨hv, hh⟩ => ⟨_, hv, ?_⟩
  subst hh
  have hm := yalf (x := b' - a') (by omega)
  generalize 2 ^ blen (b' - a') = m at *
  refine yabi (by omega) (by omega) (by omega) ⟨⟨by omega, by omega⟩, ⟨by omega, by omega⟩, ⟨by omega, by omega⟩, ?_⟩
  obtain ⟨q, hq⟩ : ∃ q : Nat, ((b' - a' : Nat) : Int) / 4 = q := ⟨(b' - a') / 4, by omega⟩
  rw [hq]
  refine ⟨fun i h1 => ∃ (i' : Nat) (z : Int), i.1 = i' ∧ a' ≤ i' ∧ ∃ ys A1, Sl tEv p n cp ys A1 ∧ St h0 h1 (cA rb [.int .u64 z] 162 + (A1 + F)) ∧ Swp tEv.d a' b' xs ys, fun i _ => (b' - i.1).toNat, ⟨a' + 2 * q - 1, _, by show (_ : Int) - 1 = _; omega, by omega, xs, A, o, s, .refl _⟩, ?_⟩
  rintro ⟨_, _⟩ h1 ⟨i', z, rfl, hi, ys, A1, o, s, w⟩
  dsimp only
  have hl := o.len
  rw [zdc_b1]
  refine yabi (by omega) (by omega) (by omega) ?_
  rw [hq]
  refine ⟨⟨by omega, by omega⟩, ⟨by omega, by omega⟩, ⟨by omega, by omega⟩, condP (fun hlt => ?_) (fun hlt => ⟨rfl, ys, A1, o, s.drop, w, trivial⟩)⟩
  refine (yaum s).mono fun v h3 ⟨y, hv, s⟩ => ⟨_, hv, yauh y m (by omega) (by omega) fun k hk => ⟨⟨by omega, by omega⟩, ?_⟩⟩
  have fin : ∀ u : Nat, u < b' - a' → zdc_b2 p n cp a' ((b' - a' : Nat) : Int) (some ⟨rb, 0, none⟩) m i' u h3 (fun s' h' => (∃ (i' : Nat) (z : Int), s'.1 = i' ∧ a' ≤ i' ∧ ∃ ys A1, Sl tEv p n cp ys A1 ∧ St h0 h' (cA rb [.int .u64 z] 162 + (A1 + F)) ∧ Swp tEv.d a' b' xs ys) ∧ (b' - s'.1).toNat < (b' - (i' : Int)).toNat) (fun v h' => v = .tuple #[] ∧ OutEV h0 p n cp a' b' xs F h' fun _ => True) := by
    intro u hu
    rw [zdc_b2]
    have s := s.to (B := A1 + (cA rb [.int .u64 y] 162 + F))
    refine ⟨⟨by omega, by omega⟩, ⟨by omega, by omega⟩, swEV (u' := i') (v' := a' + u) o s rfl (by push_cast; rfl) (by omega) (by omega) fun h6 A6 o6 s6 => ?_⟩
    rw [zdc_b3]
    exact ⟨⟨by omega, by omega⟩, ⟨i' + 1, y, by push_cast; rfl, by omega, _, A6, o6, s6.to, .step w (by omega) (by omega) (by omega) (by omega) (by omega)⟩, by omega⟩
  refine condP (fun hk2 => ⟨⟨by omega, by omega⟩, ?_⟩) (fun hk2 => fin k (by omega))
  have := fin (k - (b' - a')) (by omega)
  rwa [show ((k - (b' - a') : Nat) : Int) = (k : Int) - ((b' - a' : Nat) : Int) by omega] at this
end Go.Proofs.YtllhdhpjgihjfaaGreatDoor
