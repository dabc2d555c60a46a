/- Part LA LB LC LD LE LF LG LH P41 P42 P43 P54 LI LJ of the proof: contracts of functions of the program, and what follows from them. -/
import Derived.Test.YtdlkohenamlnaaaGreatSxLZ
set_option maxRecDepth 100000
/- Layer 3: heaps. -/
namespace Go.Proofs.YtdlkohenamlnaaaGreat
open Go Go.Sx
abbrev row1 (k : Int) : List Int := [k]
def insI (k : Int) (l : List Int) : List Int := l.takeWhile (fun z => decide (z < k)) ++ k :: l.dropWhile (fun z => decide (z < k))
def heapS (l : List Int) (c : Int) (zs : List Int) : List Int × Int × Int :=
  if c = 4 then (l, 0, (l.length : Int)) else if c = 1 then (if l.length = 500 then (l, 4, 0) else (insI (zs.getD 0 0) l, 0, 0))
  else if l.length = 0 then (l, 14, 0) else if c = 3 then (l.tail, 0, l.getD 0 0) else (l, 0, l.getD 0 0)
theorem yaem {l : List Int} {i : Nat} (h : i < l.length) : (l.map row1).getD i [] = [l.getD i 0] := by
  rw [List.getD_eq_getElem?_getD, List.getElem?_map, List.getElem?_eq_getElem h, List.getD_eq_getElem?_getD, List.getElem?_eq_getElem h]; rfl
theorem cmpK1 {l : List Int} {k : Int} {j : Nat} (hj : j < l.length) : cmpK (l.map row1) [k] j = cmpS (l.getD j 0) k := by
  rw [cmpK, yaem hj]
  show (if l.getD j 0 < k then (-1 : Int) else if k < l.getD j 0 then 1 else cmpL [] []) = _
  rfl
theorem yave {l : List Int} {key : Int} (so : l.Pairwise (· ≤ ·)) : ∀ x ∈ l.dropWhile (fun z => decide (z < key)), key ≤ x := by
  induction l with
  | nil => intro x hx; cases hx
  | cons a l ih =>
    have h := List.pairwise_cons.1 so
    intro x hx
    rw [List.dropWhile_cons] at hx
    by_cases ha : a < key
    · rw [if_pos (decide_eq_true ha)] at hx; exact ih h.2 x hx
    · rw [if_neg (by simpa using ha)] at hx
      rcases List.mem_cons.1 hx with rfl | hx
      · omega
      · have := h.1 x hx; omega
theorem lb_of {l : List Int} {key : Int} (so : l.Pairwise (· ≤ ·)) : (l.takeWhile fun z => decide (z < key)).length ≤ l.length ∧ (∀ j, j < (l.takeWhile fun z => decide (z < key)).length → l.getD j 0 < key) ∧ ∀ j, (l.takeWhile fun z => decide (z < key)).length ≤ j → j < l.length → key ≤ l.getD j 0 := by
  have e := (List.takeWhile_append_dropWhile (p := fun z : Int => decide (z < key)) (l := l)).symm
  have hD := yave (key := key) so
  have hT : ∀ x ∈ l.takeWhile (fun z => decide (z < key)), x < key := fun x hx => of_decide_eq_true (List.all_eq_true.1 (List.all_takeWhile (p := fun z : Int => decide (z < key)) (l := l)) x hx)
  generalize l.takeWhile (fun z => decide (z < key)) = T at *
  generalize l.dropWhile (fun z => decide (z < key)) = D at *
  subst e
  refine ⟨by rw [List.length_append]; omega, fun j hj => ?_, fun j hj hjl => ?_⟩
  · rw [yaaf (by rw [List.length_append]; omega), List.getElem_append_left hj]
    exact hT _ (List.getElem_mem hj)
  · rw [yaaf hjl, List.getElem_append_right hj]
    exact hD _ (List.getElem_mem _)
theorem yabq {α : Type} {xs X Y : List α} (h : xs = X ++ Y) : xs.take X.length = X ∧ xs.drop X.length = Y := by subst h; exact ⟨List.take_left' rfl, List.drop_left' rfl⟩
section
variable {h0 h : Hp} {b1 b2 : Nat} {l : List Int} {p q : OA} {n c m cc : Nat} {code : Int} {zs : List Int} {B G : Bag}
abbrev yark (h0 : Hp) (G : Bag) (l : List Int) (c : Int) (zs : List Int) : VK := yafm h0 G ((heapS l c zs).1.map row1) (heapS l c zs).2.1 (heapS l c zs).2.2
theorem yaxa (so : l.Pairwise (· ≤ ·)) (na : RowsA (p, n, c) (l.map row1) B) (rz : RdS h0 G TI q m zs) (hmc : m ≤ cc) (s : St h0 h (B + G)) (hn : n ≤ 1000) (hc : 1 ≤ code ∧ code ≤ 4) (h1 : code = 1 → zs.length = 1) :
    yaae Tryz.prog 138 #[.slice p n c, .agg #[.int .i64 code, .slice q m cc]] h (yark h0 G l code zs) := by
  have hl : (l.map row1).length = n := yaaw na
  rw [List.length_map] at hl
  refine zbe_call ?_
  rw [zbe_b0]
  refine s.new (cs := [.int .i64 code, .slice q m cc]) fun b1 h3 _ s1 => ?_
  refine s1.new (cs := [.int .i64 0, .int .i64 0, .slice none 0 0]) fun b2 h4 _ s2 => ?_
  have s2 : St h0 h4 (cA b2 [.int .i64 0, .int .i64 0, .slice none 0 0] 61 + (cA b1 [.int .i64 code, .slice q m cc] 25 + (B + G))) := s2
  have kb1 := s2.atomBlk
  refine ⟨_, kb1.cell 0, condP (fun h8 => ?_) (fun h8 => ?_)⟩
  · have e : heapS l code zs = (l, 0, (l.length : Int)) := by subst h8; rfl
    rw [yark, e, hl]
    exact mboxT na s2 (yaap _ _)
  refine condP (fun hp => condP (fun h5 => ?_) (fun h5 => ?_)) (fun hp => ?_)
  · have e : heapS l code zs = (if l.length = 500 then (l, 4, 0) else (insI (zs.getD 0 0) l, 0, 0)) := by subst hp; rfl
    rw [yark, e, if_pos (by omega)]
    exact mboxT na s2 (yaas _ _)
  · have e : heapS l code zs = (if l.length = 500 then (l, 4, 0) else (insI (zs.getD 0 0) l, 0, 0)) := by subst hp; rfl
    rw [yark, e, if_neg (by omega)]
    have hrz : RdT TI h4 q m zs := rz h4 (cA b2 [.int .i64 0, .int .i64 0, .slice none 0 0] 61 + (cA b1 [.int .i64 code, .slice q m cc] 25 + B)) s2.to
    have hzl := hrz.len
    have h1 := h1 hp
    have hz : zs = [zs.getD 0 0] := by match zs, h1 with | [a], _ => rfl
    have rk : RdT TI h4 q m [zs.getD 0 0] := by rw [← hz]; exact hrz
    obtain ⟨f1, f2, f3⟩ := lb_of (key := zs.getD 0 0) so
    refine ⟨_, _, _, Blk.cellA kb1 1, ?_⟩
    refine (yaou (t := (l.takeWhile fun z => decide (z < zs.getD 0 0)).length) na (s2.to (B := B + (cA b2 [.int .i64 0, .int .i64 0, .slice none 0 0] 61 + (cA b1 [.int .i64 code, .slice q m cc] 25 + G)))) rk (by omega) (fun r hr => by obtain ⟨e, _, rfl⟩ := List.mem_map.1 hr; simp; omega)
      ⟨by omega, fun j hj => by rw [cmpK1 (by omega)]; have : l.getD j 0 < zs.getD 0 0 := f2 j hj; unfold cmpS; rw [if_pos this]; decide, fun j hj hjn => by rw [cmpK1 (by omega)]; have : zs.getD 0 0 ≤ l.getD j 0 := f3 j hj (by omega); unfold cmpS; rw [if_neg (by omega)]; split <;> decide⟩).mono fun v h5 ⟨hv, hh⟩ => ⟨_, _, hv, ?_⟩
    subst hh
    refine ⟨_, _, _, Blk.cellA kb1 1, (yaca hrz (by omega)).mono fun v6 h6 ⟨q6, d6, A6, hv6, o6, t6⟩ => ⟨_, _, _, hv6, ?_⟩⟩
    have s6 := s2.join t6
    refine s6.new (cs := [.slice q6 m d6]) fun b3 h7 x7 s7 => ?_
    have s7 := s7.to (B := cA b3 [.slice q6 m d6] 23 + (B + (A6 + (cA b2 [.int .i64 0, .int .i64 0, .slice none 0 0] 61 + (cA b1 [.int .i64 code, .slice q m cc] 25 + G)))))
    refine (yaft na o6 s7 (by omega) (by omega)).mono fun v8 h8 ⟨q', d', B', hv8, na', s8⟩ => ⟨_, _, _, hv8, ?_⟩
    have hrow : (l.map row1).take (l.takeWhile fun z => decide (z < zs.getD 0 0)).length ++ zs :: (l.map row1).drop (l.takeWhile fun z => decide (z < zs.getD 0 0)).length = (insI (zs.getD 0 0) l).map row1 := by
      have e := (List.takeWhile_append_dropWhile (p := fun z : Int => decide (z < zs.getD 0 0)) (l := l)).symm
      obtain ⟨e1, e2⟩ := yabq e
      rw [← List.map_take, ← List.map_drop, e1, e2, insI, List.map_append, List.map_cons]
      show _ ++ zs :: _ = _ ++ [zs.getD 0 0] :: _
      rw [← hz]
    rw [hrow] at na'
    exact mboxT na' (s8.to (B := cA b2 [.int .i64 0, .int .i64 0, .slice none 0 0] 61 + (cA b1 [.int .i64 code, .slice q m cc] 25 + (B' + G)))) (yaap _ _)
  · have e : heapS l code zs = (if l.length = 0 then (l, 14, 0) else if code = 3 then (l.tail, 0, l.getD 0 0) else (l, 0, l.getD 0 0)) := by
      unfold heapS; rw [if_neg h8, if_neg hp]
    rw [yark, e, zbe_b1]
    refine condP (fun h0 => ?_) (fun h0 => ?_)
    · rw [if_pos (by omega)]
      exact mboxT na s2 (yaas _ _)
    · rw [if_neg (by omega)]
      refine yaiu na (s2.at B) (by omega) (by omega) (by omega) (by rw [show Int.toNat (0 : Int) = 0 from rfl, yaem (by omega)]; simp) ?_
      rw [show Int.toNat (0 : Int) = 0 from rfl, yaem (by omega)]
      refine ⟨_, kb1.cell 0, condP (fun h3 => ?_) (fun h3 => ?_)⟩
      · rw [if_pos h3]
        refine (yaeo (i := 0) na (s2.to (B := B + (cA b2 [.int .i64 0, .int .i64 0, .slice none 0 0] 61 + (cA b1 [.int .i64 code, .slice q m cc] 25 + G)))) (by omega) rfl (by omega)).mono fun v h' ⟨B', hv, na', s'⟩ => ⟨_, _, _, hv, ?_⟩
        have hrow : (l.map row1).take 0 ++ (l.map row1).drop (0 + 1) = l.tail.map row1 := by
          rw [List.take_zero, List.nil_append, ← List.map_drop, List.drop_one]
        rw [hrow] at na'
        rw [zbe_b2]
        exact mboxT na' (s'.to (B := cA b2 [.int .i64 0, .int .i64 0, .slice none 0 0] 61 + (cA b1 [.int .i64 code, .slice q m cc] 25 + (B' + G)))) (yaap _ _)
      · rw [if_neg h3, zbe_b2]
        exact mboxT na s2 (yaap _ _)
end
section
variable {h0 h : Hp} {b1 b2 b3 b4 : Nat} {p q : OA} {n c m cc : Nat} {k code e z : Int} {rows : List (List Int)} {x0 x1 y0 y1 y2 : Value} {B G : Bag}
abbrev refA (b1 b2 b3 b4 : Nat) (k : Int) (p : OA) (n c : Nat) (code : Int) (q : OA) (m cc : Nat) (x0 x1 y0 y1 y2 : Value) (B G : Bag) : Bag :=
  cA b1 [.int .i64 k, .slice p n c] 66 + (cA b2 [.int .i64 code, .slice q m cc] 25 + (cA b3 [x0, x1] 66 + (cA b4 [y0, y1, y2] 61 + (B + G))))
theorem boxY (na : RowsA (p, n, c) rows B) (s : St h0 h (refA b1 b2 b3 b4 k p n c code q m cc x0 x1 y0 y1 y2 B G)) :
    ∃ n2 : Int, ∃ a2 L2 C2, cell h ⟨b1, 0, none⟩ = some (.int .i64 n2) ∧ cell h ((⟨b1, 0, none⟩ : Addr).add 1) = some (.slice a2 L2 C2) ∧
    yaae Tryz.prog 112 #[.agg #[.int .i64 n2, .slice a2 L2 C2], .int .i64 z] h fun v1 h5 => ∃ r1 : Int, ∃ (r2 : OA) (rL1 rC1 : Nat), ∃ r3 : Int, ∃ r4 : Int, ∃ (r5 : OA) (rL2 rC2 : Nat), v1 = .tuple #[.agg #[.int .i64 r1, .slice r2 rL1 rC1], .agg #[.int .i64 r3, .int .i64 r4, .slice r5 rL2 rC2]] ∧
      Wr h5 ⟨b3, 0, none⟩ (.int .i64 r1) fun h6 => Wr h6 ((⟨b3, 0, none⟩ : Addr).add 1) (.slice r2 rL1 rC1) fun h7 => Wr h7 ⟨b4, 0, none⟩ (.int .i64 r3) fun h8 => Wr h8 ((⟨b4, 0, none⟩ : Addr).add 1) (.int .i64 r4) fun h9 => Wr h9 ((⟨b4, 0, none⟩ : Addr).add 2) (.slice r5 rL2 rC2) fun h10 =>
      ∃ r6 : Int, ∃ r7 rL3 rC3, cell h10 ⟨b3, 0, none⟩ = some (.int .i64 r6) ∧ cell h10 ((⟨b3, 0, none⟩ : Addr).add 1) = some (.slice r7 rL3 rC3) ∧
      ∃ r8 : Int, ∃ r9 : Int, ∃ r10 rL4 rC4, cell h10 ⟨b4, 0, none⟩ = some (.int .i64 r8) ∧ cell h10 ((⟨b4, 0, none⟩ : Addr).add 1) = some (.int .i64 r9) ∧ cell h10 ((⟨b4, 0, none⟩ : Addr).add 2) = some (.slice r10 rL4 rC4) ∧
      StepP h0 G k rows 0 z (.tuple #[.agg #[.int .i64 r6, .slice r7 rL3 rC3], .agg #[.int .i64 r8, .int .i64 r9, .slice r10 rL4 rC4]]) h10 := by
  delta refA at s
  exact ⟨_, _, _, _, s.ld0, s.ldB, boxT na (D := cA b1 [.int .i64 k, .slice p n c] 66 + cA b2 [.int .i64 code, .slice q m cc] 25) s.to yacz⟩
theorem boxF (na : RowsA (p, n, c) rows B) (s : St h0 h (refA b1 b2 b3 b4 k p n c code q m cc x0 x1 y0 y1 y2 B G)) :
    ∃ n2 : Int, ∃ a2 L2 C2, cell h ⟨b1, 0, none⟩ = some (.int .i64 n2) ∧ cell h ((⟨b1, 0, none⟩ : Addr).add 1) = some (.slice a2 L2 C2) ∧
    yaae Tryz.prog 113 #[.agg #[.int .i64 n2, .slice a2 L2 C2], .int .i64 e] h fun v1 h5 => ∃ r1 : Int, ∃ (r2 : OA) (rL1 rC1 : Nat), ∃ r3 : Int, ∃ r4 : Int, ∃ (r5 : OA) (rL2 rC2 : Nat), v1 = .tuple #[.agg #[.int .i64 r1, .slice r2 rL1 rC1], .agg #[.int .i64 r3, .int .i64 r4, .slice r5 rL2 rC2]] ∧
      Wr h5 ⟨b3, 0, none⟩ (.int .i64 r1) fun h6 => Wr h6 ((⟨b3, 0, none⟩ : Addr).add 1) (.slice r2 rL1 rC1) fun h7 => Wr h7 ⟨b4, 0, none⟩ (.int .i64 r3) fun h8 => Wr h8 ((⟨b4, 0, none⟩ : Addr).add 1) (.int .i64 r4) fun h9 => Wr h9 ((⟨b4, 0, none⟩ : Addr).add 2) (.slice r5 rL2 rC2) fun h10 =>
      ∃ r6 : Int, ∃ r7 rL3 rC3, cell h10 ⟨b3, 0, none⟩ = some (.int .i64 r6) ∧ cell h10 ((⟨b3, 0, none⟩ : Addr).add 1) = some (.slice r7 rL3 rC3) ∧
      ∃ r8 : Int, ∃ r9 : Int, ∃ r10 rL4 rC4, cell h10 ⟨b4, 0, none⟩ = some (.int .i64 r8) ∧ cell h10 ((⟨b4, 0, none⟩ : Addr).add 1) = some (.int .i64 r9) ∧ cell h10 ((⟨b4, 0, none⟩ : Addr).add 2) = some (.slice r10 rL4 rC4) ∧
      StepP h0 G k rows e 0 (.tuple #[.agg #[.int .i64 r6, .slice r7 rL3 rC3], .agg #[.int .i64 r8, .int .i64 r9, .slice r10 rL4 rC4]]) h10 := by
  delta refA at s
  exact ⟨_, _, _, _, s.ld0, s.ldB, boxT na (D := cA b1 [.int .i64 k, .slice p n c] 66 + cA b2 [.int .i64 code, .slice q m cc] 25) s.to yage⟩
theorem get1 {l : List Int} {i : Int} {i' : Nat} {Q : Int → Prop} (na : RowsA (p, n, c) (l.map row1) B) (st : St h0 h (B + G)) (ei : i = (i' : Int)) (hi : i' < n) (hq : Q (l.getD i' 0)) :
    (0 ≤ i ∧ i < (n : Int)) ∧ NN p fun a => ∃ a8 L5 C5, cell h (a.add (i.toNat * 1)) = some (.slice a8 L5 C5) ∧ (0 ≤ (0 : Int) ∧ (0 : Int) < (L5 : Int)) ∧ NN a8 fun a9 => ∃ n4, cell h (a9.add (Int.toNat (0 : Int) * 1)) = some (.int .i64 n4) ∧ Q n4 := by
  have hl : l.length = n := by have := yaaw na; rwa [List.length_map] at this
  subst ei
  have hg := yaem (l := l) (i := i') (by omega)
  exact yaiu na st (by omega) (by omega) (by omega) (by rw [Int.toNat_natCast, hg]; exact Int.zero_lt_one) (by rw [Int.toNat_natCast, hg]; exact hq)
end
abbrev HeapP (h0 : Hp) (G : Bag) (l : List Int) (c : Int) (zs : List Int) : VK := StepP h0 G 2 ((heapS l c zs).1.map row1) (heapS l c zs).2.1 (heapS l c zs).2.2
theorem wrC1 {h0 h : Hp} {B C : Bag} {b : Nat} {e : TypeId} {c0 c1 v : Value} {K : Hp → Prop} (s : St h0 h B) [x : Bag.Has b B [c0, c1] e C] (hK : ∀ h', St h0 h' (cA b [c0, v] e + C) → K h') : Wr h ((⟨b, 0, none⟩ : Addr).add 1) v K := s.wrB fun h s => hK h s
theorem yaib {h0 h : Hp} {p : OA} {n c i : Nat} {rows : List (List Int)} {q : OA} {m d : Nat} {x : List Int} {B Bx G : Bag} (na : RowsA (p, n, c) rows B) (o : Sl TI q m d x Bx) (s : St h0 h (B + (Bx + G))) (hi : i ≤ n) (hn : n ≤ 1000000) :
    yaae Tryz.prog 114 #[.slice p n c, .int .i64 (i : Int), .slice q m d] h (fun v h' => ∃ q' d' B', v = .slice q' (n + 1) d' ∧ RowsA (q', n + 1, d') (rows.take i ++ x :: rows.drop i) B' ∧ St h0 h' (B' + G)) := by
  obtain ⟨hs, B0, B1, rfl, h1, h2⟩ := na
  obtain ⟨C1, C2, rfl, c1, c2⟩ := AllH.cut h2 i
  refine (yauu (x := (q, m, d)) (s.to (B := B0 + (C1 + C2 + (Bx + G)))) h1 hi hn).mono fun v h' ⟨q', d', B', hv, o', s'⟩ => ⟨q', d', B' + (C1 + (Bx + C2)), hv, ⟨_, B', C1 + (Bx + C2), rfl, o', c1.append ⟨Bx, C2, rfl, o, c2⟩⟩, s'.to⟩
theorem yafr {h0 h : Hp} {p : OA} {n c i : Nat} {rows : List (List Int)} {B G : Bag} (na : RowsA (p, n, c) rows B) (s : St h0 h (B + G)) (hi : i < n) (hn : n ≤ 1000000) :
    yaae Tryz.prog 115 #[.slice p n c, .int .i64 (i : Int)] h (fun v h' => ∃ q' d' B', v = .slice q' (n - 1) d' ∧ RowsA (q', n - 1, d') (rows.take i ++ rows.drop (i + 1)) B' ∧ St h0 h' (B' + G)) := by
  obtain ⟨hs, B0, B1, rfl, h1, h2⟩ := na
  obtain ⟨C1, C2, rfl, c1, c2⟩ := AllH.cut h2 i
  obtain ⟨C3, C4, rfl, _, c4⟩ := AllH.cut c2 1
  rw [List.drop_drop, List.drop_drop] at c4
  refine (yauv (s.to (B := B0 + (C1 + (C3 + C4) + G))) h1 hi hn).mono fun v h' ⟨q', d', B', hv, o', s'⟩ => ⟨q', d', B' + (C1 + C4), hv, ⟨_, B', C1 + C4, rfl, o', c1.append c4⟩, (s'.to (B := C3 + (B' + (C1 + C4) + G))).drop⟩
set_option maxHeartbeats 4000000 in
theorem yazr {h0 h : Hp} {l : List Int} {p q : OA} {n c m cc : Nat} {code : Int} {zs : List Int} {B G : Bag} (so : l.Pairwise (· ≤ ·)) (na : RowsA (p, n, c) (l.map row1) B) (rz : RdS h0 G TI q m zs) (s : St h0 h (B + G)) (hn : n ≤ 1000) (hc : 1 ≤ code ∧ code ≤ 4) (h1 : code = 1 → zs.length = 1) :
    yaae Tryz.prog 78 #[.agg #[.int .i64 2, .slice p n c], .agg #[.int .i64 code, .slice q m cc]] h (HeapP h0 G l code zs) := by
  have hl : (l.map row1).length = n := yaaw na
  rw [List.length_map] at hl
  refine zda_call ?_
  rw [zda_b0]
  refine s.new (cs := [_, _]) fun b1 h3 _ s => s.new (cs := [_, _]) fun b2 h4 _ s => s.new (cs := [_, _]) fun b3 h5 _ s => s.new (cs := [_, _, _]) fun b4 h6 _ s => ?_
  have s : St h0 h6 (refA b1 b2 b3 b4 2 p n c code q m cc (.int .i64 0) (.slice none 0 0) (.int .i64 0) (.int .i64 0) (.slice none 0 0) B G) := by delta refA; exact s.to
  delta refA at s
  have hrz : RdT TI h6 q m zs := rz h6 (cA b1 [.int .i64 2, .slice p n c] 66 + (cA b2 [.int .i64 code, .slice q m cc] 25 + (cA b3 [.int .i64 0, .slice none 0 0] 66 + (cA b4 [.int .i64 0, .int .i64 0, .slice none 0 0] 61 + B)))) s.to
  have hzl := hrz.len
  refine ⟨_, _, _, s.ldB, _, s.ld0, condP (fun h4 => ?_) (fun h4 => condP (fun hp => condP (fun h5 => ?_) (fun h5 => ?_)) (fun hp => ?_))⟩
  · have e : heapS l code zs = (l, 0, (l.length : Int)) := by subst h4; rfl
    rw [HeapP, e, hl]
    exact boxY na s
  · have e : heapS l code zs = (if l.length = 500 then (l, 4, 0) else (insI (zs.getD 0 0) l, 0, 0)) := by subst hp; rfl
    rw [HeapP, e, if_pos (by omega)]
    exact boxF na s
  · have e : heapS l code zs = (if l.length = 500 then (l, 4, 0) else (insI (zs.getD 0 0) l, 0, 0)) := by subst hp; rfl
    rw [HeapP, e, if_neg (by omega)]
    have h1 := h1 hp
    obtain ⟨f1, f2, f3⟩ := lb_of (key := zs.getD 0 0) so
    obtain ⟨e1, e2⟩ := yabq (List.takeWhile_append_dropWhile (p := fun z : Int => decide (z < zs.getD 0 0)) (l := l)).symm
    have hins : insI (zs.getD 0 0) l = l.take (l.takeWhile fun z => decide (z < zs.getD 0 0)).length ++ zs.getD 0 0 :: l.drop (l.takeWhile fun z => decide (z < zs.getD 0 0)).length := by rw [e1, e2]; rfl
    rw [hins]
    generalize (l.takeWhile fun z => decide (z < zs.getD 0 0)).length = t at f1 f2 f3
    refine ⟨fun x h' => h' = h6 ∧ ∃ i : Nat, x.1 = i ∧ i ≤ t, fun x _ => (n - x.1).toNat, ⟨rfl, 0, rfl, Nat.zero_le _⟩, ?_⟩
    rintro ⟨_, _⟩ h7 ⟨rfl, i, rfl, hi⟩
    dsimp only
    rw [zda_b1]
    have fin : i = t → zda_b4 (some ⟨b1, 0, none⟩) (some ⟨b2, 0, none⟩) (some ⟨b3, 0, none⟩) (some ⟨b4, 0, none⟩) (i : Int) h7 (StepP h0 G 2 ((l.take t ++ zs.getD 0 0 :: l.drop t).map row1) 0 0) := by
      rintro rfl
      rw [zda_b4]
      refine ⟨_, _, _, s.ldB, _, _, _, s.ldB, ldI (i' := 0) hrz rfl (by omega) (s.new (cs := [_]) fun b5 h8 _ s => ⟨⟨_, _, _, s.ldB, rfl⟩, ?_⟩)⟩
      have o5 : Sl TI (some ⟨b5, 0, none⟩) 1 1 [zs.getD 0 0] (cA b5 [.int .i64 (zs.getD 0 0)] 3) := Sl.of_blk (T := TI) rfl rfl
      refine (yaib na o5 (s.to (B := B + (cA b5 [.int .i64 (zs.getD 0 0)] 3 + (cA b1 [.int .i64 2, .slice p n c] 66 + (cA b2 [.int .i64 code, .slice q m cc] 25 + (cA b3 [.int .i64 0, .slice none 0 0] 66 + (cA b4 [.int .i64 0, .int .i64 0, .slice none 0 0] 61 + G))))))) (by omega) (by omega)).mono fun v h9 ⟨q', d', B', hv, na', s⟩ => ⟨_, _, _, hv, wrC1 s fun h10 s => ?_⟩
      have hrow : (l.map row1).take i ++ [zs.getD 0 0] :: (l.map row1).drop i = (l.take i ++ zs.getD 0 0 :: l.drop i).map row1 := by
        rw [← List.map_take, ← List.map_drop, List.map_append, List.map_cons]
      rw [hrow] at na'
      exact boxY (b2 := b2) (p := q') (c := d') (cc := cc) (q := q) (m := m) (code := code) (x0 := .int .i64 0) (x1 := .slice none 0 0) (y0 := .int .i64 0) (y1 := .int .i64 0) (y2 := .slice none 0 0) na' (by delta refA; exact s.to)
    refine condP (fun hlt => ?_) (fun hge => fin (by omega))
    refine ⟨_, _, _, s.ldB, get1 na (s.at B) rfl (by omega) ⟨_, _, _, s.ldB, ldI (i' := 0) hrz rfl (by omega) (condP (fun hk => ?_) (fun hk => ?_))⟩⟩
    · rw [zda_b3]
      refine ⟨⟨by omega, by omega⟩, ⟨rfl, i + 1, by push_cast; rfl, ?_⟩, by dsimp only; omega⟩
      rcases Nat.lt_or_ge i t with h | h
      · omega
      · have := f3 i h (by omega); omega
    · refine fin ?_
      rcases Nat.lt_or_ge i t with h | h
      · have := f2 i h; omega
      · omega
  · have e : heapS l code zs = (if l.length = 0 then (l, 14, 0) else if code = 3 then (l.tail, 0, l.getD 0 0) else (l, 0, l.getD 0 0)) := by
      unfold heapS; rw [if_neg h4, if_neg hp]
    rw [HeapP, e, zda_b2]
    refine condP (fun h0 => ?_) (fun h0 => ?_)
    · rw [if_pos (by omega)]
      exact boxF na s
    · rw [if_neg (by omega)]
      refine ⟨_, _, _, s.ldB, get1 na (s.at B) (i' := 0) rfl (by omega) ⟨_, s.ld0, condP (fun h3 => ?_) (fun h3 => ?_)⟩⟩
      · rw [if_pos h3]
        refine ⟨_, _, _, s.ldB, (yafr (i := 0) na (s.at B) (by omega) (by omega)).mono fun v h' ⟨q', d', B', hv, na', s⟩ => ⟨_, _, _, hv, wrC1 s fun h10 s => ?_⟩⟩
        have hrow : (l.map row1).take 0 ++ (l.map row1).drop (0 + 1) = l.tail.map row1 := by
          rw [List.take_zero, List.nil_append, ← List.map_drop, List.drop_one]
        rw [hrow] at na'
        rw [zda_b5]
        exact boxY (b2 := b2) (p := q') (c := d') (cc := cc) (q := q) (m := m) (code := code) (x0 := .int .i64 0) (x1 := .slice none 0 0) (y0 := .int .i64 0) (y1 := .int .i64 0) (y2 := .slice none 0 0) na' (by delta refA; exact s.to)
      · rw [if_neg h3, zda_b5]
        exact boxY na s
end Go.Proofs.YtdlkohenamlnaaaGreat
/- Layer 3: sequences. -/
namespace Go.Proofs.YtdlkohenamlnaaaGreat
open Go Go.Sx
def revL {α : Type} (l : List α) (a b : Nat) : List α := l.take a ++ (((l.drop a).take (b - a)).reverse ++ l.drop b)
theorem yaix {α : Type} {l : List α} {a b : Nat} (h : a ≤ b) (hb : b ≤ l.length) : (revL l a b).length = l.length := by
  unfold revL; simp; omega
theorem yawy {α : Type} {d : α} {l : List α} {a b t : Nat} (h : a ≤ b) (hb : b ≤ l.length) (ht : t < l.length) : (revL l a b).getD t d = if a ≤ t ∧ t < b then l.getD (a + b - 1 - t) d else l.getD t d := by
  rw [yaaf (by rw [yaix h hb]; exact ht)]
  have h1 : (l.take a).length = a := by rw [List.length_take]; omega
  have h2 : (((l.drop a).take (b - a)).reverse).length = b - a := by simp; omega
  unfold revL
  split
  · rename_i hc
    rw [List.getElem_append_right (by omega), List.getElem_append_left (by omega), List.getElem_reverse, List.getElem_take, List.getElem_drop]
    rw [yaaf (by omega)]
    congr 1
    simp
    omega
  · rename_i hc
    rcases Nat.lt_or_ge t a with hta | hta
    · rw [List.getElem_append_left (by omega), List.getElem_take, yaaf ht]
    · rw [List.getElem_append_right (by omega), List.getElem_append_right (by omega), List.getElem_drop, yaaf ht]
      congr 1
      omega
theorem yaro {α β : Type} (f : α → β) (l : List α) (a b : Nat) : (revL l a b).map f = revL (l.map f) a b := by
  unfold revL; simp
def RevI {α : Type} (d : α) (a b i : Nat) (xs ys : List α) : Prop := ys.length = xs.length ∧ ∀ t, t < xs.length → ys.getD t d = if (a ≤ t ∧ t < a + i) ∨ (b ≤ t + i ∧ t < b) then xs.getD (a + b - 1 - t) d else xs.getD t d
theorem yalw {α : Type} {d : α} {a b : Nat} {xs : List α} : RevI d a b 0 xs xs := ⟨rfl, fun t _ => by rw [if_neg (by omega)]⟩
theorem yamp {α : Type} {d x : α} {l : List α} {i j : Nat} (hi : i < l.length) : (l.set i x).getD j d = if i = j then x else l.getD j d := by
  simp only [List.getD_eq_getElem?_getD, List.getElem?_set]
  split
  · rename_i h; subst h; simp [hi]
  · rfl
theorem yamw {α : Type} {d : α} {a b i : Nat} {xs ys : List α} (h : RevI d a b i xs ys) (hb : b ≤ xs.length) (hi : a + i < b - 1 - i) : RevI d a b (i + 1) xs ((ys.set (a + i) (ys.getD (b - 1 - i) d)).set (b - 1 - i) (ys.getD (a + i) d)) := by
  obtain ⟨hl, hg⟩ := h
  refine ⟨by rw [List.length_set, List.length_set, hl], fun t ht => ?_⟩
  rw [yamp (by rw [List.length_set]; omega), yamp (by omega), hg (b - 1 - i) (by omega), hg (a + i) (by omega), hg t ht]
  rw [if_neg (show ¬ ((a ≤ b - 1 - i ∧ b - 1 - i < a + i) ∨ (b ≤ b - 1 - i + i ∧ b - 1 - i < b)) by omega)]
  rw [if_neg (show ¬ ((a ≤ a + i ∧ a + i < a + i) ∨ (b ≤ a + i + i ∧ a + i < b)) by omega)]
  by_cases h1 : b - 1 - i = t
  · rw [if_pos h1, if_pos (by omega)]
    congr 1; omega
  · rw [if_neg h1]
    by_cases h2 : a + i = t
    · rw [if_pos h2, if_pos (by omega)]
      congr 1; omega
    · rw [if_neg h2]
      by_cases h3 : (a ≤ t ∧ t < a + i) ∨ (b ≤ t + i ∧ t < b)
      · rw [if_pos h3, if_pos (by omega)]
      · rw [if_neg h3, if_neg (by omega)]
theorem yaru {α : Type} {d : α} {a b i : Nat} {xs ys : List α} (h : RevI d a b i xs ys) (hab : a ≤ b) (hb : b ≤ xs.length) (hi : b - 1 - i ≤ a + i) (hib : a + i ≤ b) : ys = revL xs a b := by
  refine yadm (d := d) (by rw [yaix hab hb, h.1]) fun t ht => ?_
  rw [yaix hab hb] at ht
  rw [h.2 t ht, yawy hab hb ht]
  by_cases h1 : a ≤ t ∧ t < b
  · rw [if_pos h1]
    by_cases h2 : (a ≤ t ∧ t < a + i) ∨ (b ≤ t + i ∧ t < b)
    · rw [if_pos h2]
    · rw [if_neg h2]
      have : a + b - 1 - t = t := by omega
      rw [this]
  · rw [if_neg h1, if_neg (by omega)]
theorem AllH.rev : ∀ {bs : List SH} {ts : List (List Int)} {A : Bag}, AllH RowP bs ts A → AllH RowP bs.reverse ts.reverse A
  | [], [], _, h => h
  | _ :: _, [], _, h => h.elim
  | [], _ :: _, _, h => h.elim
  | b :: bs, t :: ts, A, ⟨A1, A2, e, h1, h2⟩ => by
    rw [List.reverse_cons, List.reverse_cons, e, Bag.comm]
    exact (AllH.rev h2).append (AllH.one h1)
theorem AllH.revL {hs : List SH} {rows : List (List Int)} {A : Bag} (h : AllH RowP hs rows A) {a b : Nat} (hab : a ≤ b) : AllH RowP (revL hs a b) (revL rows a b) A := by
  obtain ⟨A1, A2, rfl, h1, h2⟩ := AllH.cut h a
  obtain ⟨A3, A4, rfl, h3, h4⟩ := AllH.cut h2 (b - a)
  rw [List.drop_drop, List.drop_drop, show a + (b - a) = b by omega] at h4
  exact h1.append ((AllH.rev h3).append h4)
section
variable {h0 h : Hp} {p : OA} {n c a0 j : Nat} {hs : List SH} {A F : Bag}
theorem ldSub {Q : OA → Nat → Nat → Prop} (o : Sl TR p n c hs A) (s : St h0 h (A + F)) (hj : a0 + j < n) (hq : Q (hs.getD (a0 + j) TR.d).1 (hs.getD (a0 + j) TR.d).2.1 (hs.getD (a0 + j) TR.d).2.2) :
    NN (yaab p c a0 1) fun ad => ∃ a2 L1 C1, cell h (ad.add (j * 1)) = some (.slice a2 L1 C1) ∧ Q a2 L1 C1 := by
  have r := (o.rd s).sub (i := a0) (m := n - a0) (by omega) o.cap rfl
  have hl := o.len
  have hd : (hs.drop a0).getD j TR.d = hs.getD (a0 + j) TR.d := by rw [yaaf (by rw [List.length_drop]; omega), yaaf (by omega), List.getElem_drop]
  obtain ⟨ad, hp, hc⟩ := r.at_ (i := j) (by omega)
  rw [hd] at hc
  refine yakn hp ⟨_, _, _, by simpa [yacj] using hc 0 (by decide), hq⟩
theorem wrSub {x : SH} {k : Hp → Prop} (o : Sl TR p n c hs A) (s : St h0 h (A + F)) (hj : a0 + j < n) (hk : ∀ h' A', Sl TR p n c (hs.set (a0 + j) x) A' → St h0 h' (A' + F) → k h') :
    NN (yaab p c a0 1) fun ad => Wr h (ad.add (j * 1)) (.slice x.1 x.2.1 x.2.2) k := by
  have hc := o.cap
  obtain ⟨ad, hp, hw⟩ := o.wr (i := a0 + j) (j := 0) (v := .slice x.1 x.2.1 x.2.2) (x := x) (k := k) s hj (by decide) rfl hk
  rcases o with ⟨hl, ⟨h1, _⟩ | ⟨b, rest, hb, _⟩⟩
  · rw [h1] at hp; cases hp
  · rw [hb] at hp
    cases hp
    subst hb
    rw [yaar (by omega)]
    show Wr h _ _ k
    rw [yaaj, yaaj] at hw
    rw [yaaj]
    have e : 0 + a0 * 1 + j * 1 = 0 + (a0 + j) * TR.sz + 0 := by show 0 + a0 * 1 + j * 1 = 0 + (a0 + j) * 1 + 0; omega
    rw [e]
    exact hw
end
def seqS (l : List Int) (c : Int) (zs : List Int) : List Int × Int × Int :=
  if c = 7 then (l, 0, (l.length : Int)) else if c = 5 ∨ c = 6 then
    (if zs.getD 0 0 < 0 ∨ zs.getD 1 0 < zs.getD 0 0 ∨ (l.length : Int) < zs.getD 1 0 then (l, 2, 0) else if c = 6 then (revL l (zs.getD 0 0).toNat (zs.getD 1 0).toNat, 0, 0) else (l, 0, ((l.drop (zs.getD 0 0).toNat).take ((zs.getD 1 0).toNat - (zs.getD 0 0).toNat)).sum))
  else if c = 1 then (if zs.getD 0 0 < 0 ∨ (l.length : Int) < zs.getD 0 0 then (l, 2, 0) else if l.length = 500 then (l, 4, 0) else (l.take (zs.getD 0 0).toNat ++ zs.getD 1 0 :: l.drop (zs.getD 0 0).toNat, 0, 0))
  else if zs.getD 0 0 < 0 ∨ (l.length : Int) ≤ zs.getD 0 0 then (l, 2, 0) else if c = 2 then (l.take (zs.getD 0 0).toNat ++ l.drop ((zs.getD 0 0).toNat + 1), 0, l.getD (zs.getD 0 0).toNat 0)
  else if c = 4 then (l.set (zs.getD 0 0).toNat (zs.getD 1 0), 0, l.getD (zs.getD 0 0).toNat 0) else (l, 0, l.getD (zs.getD 0 0).toNat 0)
theorem yazo {l : List Int} (h : ∀ z ∈ l, KeyP z) : -(1048576 * (l.length : Int)) ≤ l.sum ∧ l.sum ≤ 1048576 * (l.length : Int) := by
  induction l with
  | nil => decide
  | cons a l ih =>
    have := ih fun z hz => h z (List.mem_cons_of_mem _ hz)
    have := h a List.mem_cons_self
    rw [List.sum_cons, List.length_cons]
    push_cast
    omega
theorem yapz {l : List Int} {a i : Nat} (hai : a ≤ i) (h : i < l.length) : ((l.drop a).take (i + 1 - a)).sum = ((l.drop a).take (i - a)).sum + l.getD i 0 := by
  have hl : i - a < (l.drop a).length := by rw [List.length_drop]; omega
  rw [show i + 1 - a = i - a + 1 by omega, List.take_succ_eq_append_getElem hl, List.sum_append, List.getElem_drop]
  simp only [List.sum_cons, List.sum_nil, Int.add_zero, yaaf h, show a + (i - a) = i by omega]
abbrev SeqP (h0 : Hp) (G : Bag) (l : List Int) (c : Int) (zs : List Int) : VK := StepP h0 G 3 ((seqS l c zs).1.map row1) (seqS l c zs).2.1 (seqS l c zs).2.2
abbrev MSeqP (h0 : Hp) (G : Bag) (l : List Int) (c : Int) (zs : List Int) : VK := yafm h0 G ((seqS l c zs).1.map row1) (seqS l c zs).2.1 (seqS l c zs).2.2
section
variable {h0 h : Hp} {b1 b2 : Nat} {l : List Int} {p q : OA} {n c m cc : Nat} {code : Int} {zs : List Int} {B G : Bag}
theorem yasf {hs : List SH} {A F : Bag} {a b : Nat} (o : Sl TR p n c hs A) (s : St h0 h (A + F)) (hab : a ≤ b) (hb : b ≤ n) (hn : n ≤ 1000000) :
    yaae Tryz.prog 168 #[.slice (yaab p c a 1) (b - a) (c - a)] h (fun v h' => v = .tuple #[] ∧ ∃ A', Sl TR p n c (revL hs a b) A' ∧ St h0 h' (A' + F)) := by
  have hl := o.len
  refine zer_call ?_
  rw [zer_b0]
  refine ⟨⟨by omega, by omega⟩, fun x h' => ∃ (i : Nat) (ys : List SH) (A : Bag), x.1 = i ∧ x.2.1 = ((b - a : Nat) : Int) - 1 - i ∧ (i : Int) ≤ ((b - a : Nat) : Int) ∧ RevI TR.d a b i hs ys ∧ Sl TR p n c ys A ∧ St h0 h' (A + F), fun x _ => (x.2.1 - x.1 + 1).toNat, ⟨0, hs, A, rfl, by simp, by omega, yalw, o, s⟩, ?_⟩
  clear o s A
  rintro ⟨x, y, _⟩ h1 ⟨i, ys, A, hx, hy, hi, hr, o, s⟩
  dsimp only at hx hy ⊢
  subst hx hy
  rw [zer_b1]
  have hyl := o.len
  refine condP (fun hlt => ?_) (fun hge => ?_)
  · have ej : Int.toNat (((b - a : Nat) : Int) - 1 - (i : Int)) = b - a - 1 - i := by omega
    have ei : Int.toNat (i : Int) = i := Int.toNat_natCast i
    have ei1 : Int.toNat ((i : Int) + 1) = i + 1 := by omega
    simp only [ej, ei]
    have e1 : a + (b - a - 1 - i) = b - 1 - i := by omega
    refine ⟨⟨by omega, by omega⟩, ldSub o s (by omega) ⟨⟨by omega, by omega⟩, ldSub o s (by omega) ⟨⟨by omega, by omega⟩, ?_⟩⟩⟩
    rw [e1]
    refine wrSub (x := ys.getD (b - 1 - i) TR.d) o s (by omega) fun h2 A2 o2 s => ⟨⟨by omega, by omega⟩, wrSub (x := ys.getD (a + i) TR.d) o2 s (by omega) fun h3 A3 o3 s => ?_⟩
    rw [e1] at o3
    rw [zer_b2]
    refine ⟨⟨by omega, by omega⟩, ⟨by omega, by omega⟩, ⟨i + 1, _, A3, by push_cast; rfl, by push_cast; omega, by push_cast; omega, yamw hr (by omega) (by omega), o3, s⟩, by dsimp only; omega⟩
  · refine ⟨rfl, A, ?_, s⟩
    rw [← yaru hr hab (by omega) (by omega) (by omega)]
    exact o
theorem yayg {rows : List (List Int)} {F : Bag} {a b : Nat} (na : RowsA (p, n, c) rows B) (s : St h0 h (B + F)) (hab : a ≤ b) (hb : b ≤ n) (hn : n ≤ 1000000) :
    yaae Tryz.prog 168 #[.slice (yaab p c a 1) (b - a) (c - a)] h (fun v h' => v = .tuple #[] ∧ ∃ B', RowsA (p, n, c) (revL rows a b) B' ∧ St h0 h' (B' + F)) := by
  obtain ⟨hs, B0, B1, rfl, h1, h2⟩ := na
  exact (yasf h1 (s.to (B := B0 + (B1 + F))) hab hb hn).mono fun v h' ⟨hv, A', o, s⟩ => ⟨hv, A' + B1, ⟨_, A', B1, rfl, o, AllH.revL h2 hab⟩, s.to⟩
end
end Go.Proofs.YtdlkohenamlnaaaGreat
/- Layer 3: sequences, of the reference. -/
namespace Go.Proofs.YtdlkohenamlnaaaGreat
open Go Go.Sx
section
variable {h0 h : Hp} {p q : OA} {n c m cc : Nat} {hs : List SH} {A F B G : Bag}
theorem ldH {i : Int} {i' : Nat} {Q : OA → Nat → Nat → Prop} (o : Sl TR p n c hs A) (s : St h0 h (A + F)) (ei : i = (i' : Int)) (hi : i' < n) (hq : Q (hs.getD i' TR.d).1 (hs.getD i' TR.d).2.1 (hs.getD i' TR.d).2.2) :
    (0 ≤ i ∧ i < (n : Int)) ∧ NN p fun ad => ∃ a2 L1 C1, cell h (ad.add (i.toNat * 1)) = some (.slice a2 L1 C1) ∧ Q a2 L1 C1 := by
  subst ei
  refine ⟨⟨by omega, by omega⟩, ?_⟩
  obtain ⟨ad, hp, hc⟩ := (o.rd s).at_ (i := i') hi
  exact yakn hp ⟨_, _, _, by simpa [yacj] using hc 0 (by decide), hq⟩
theorem wrH {i : Int} {i' : Nat} {x : SH} {k : Hp → Prop} (o : Sl TR p n c hs A) (s : St h0 h (A + F)) (ei : i = (i' : Int)) (hi : i' < n) (hk : ∀ h' A', Sl TR p n c (hs.set i' x) A' → St h0 h' (A' + F) → k h') :
    (0 ≤ i ∧ i < (n : Int)) ∧ NN p fun ad => Wr h (ad.add (i.toNat * 1)) (.slice x.1 x.2.1 x.2.2) k := by
  subst ei
  refine ⟨⟨by omega, by omega⟩, ?_⟩
  obtain ⟨ad, hp, hw⟩ := o.wr (i := i') (j := 0) (v := .slice x.1 x.2.1 x.2.2) (x := x) (k := k) s hi (by decide) rfl hk
  refine yakn hp ?_
  rw [Int.toNat_natCast]
  exact hw
end
theorem yaxg {l : List Int} (hk : ∀ z ∈ l, KeyP z) (i : Nat) : KeyP (l.getD i 0) := by
  rcases Nat.lt_or_ge i l.length with h | h
  · exact hk _ (by rw [yaaf h]; exact List.getElem_mem h)
  · rw [List.getD_eq_getElem?_getD, List.getElem?_eq_none h]; exact ⟨by decide, by decide⟩
section
variable {h0 h : Hp} {b1 b2 b3 b4 : Nat} {l : List Int} {p q : OA} {n c m cc : Nat} {code : Int} {zs : List Int} {B G : Bag} {x0 x1 y0 y1 y2 : Value}
theorem yauf (hk : ∀ z ∈ l, KeyP z) (na : RowsA (p, n, c) (l.map row1) B) (rz : RdT TI h q m zs) (s : St h0 h (refA b1 b2 b3 b4 3 p n c code q m cc x0 x1 y0 y1 y2 B G)) (hn : n ≤ 1000) (hc : code = 5 ∨ code = 6) (h1 : 2 ≤ zs.length) (hz : ∀ z ∈ zs, KeyP z) :
    zdh_b2 (some ⟨b1, 0, none⟩) (some ⟨b2, 0, none⟩) (some ⟨b3, 0, none⟩) (some ⟨b4, 0, none⟩) (n : Int) (zs.getD 0 0) true h (SeqP h0 G l code zs) := by
  have hl : (l.map row1).length = n := yaaw na
  rw [List.length_map] at hl
  have hzl := rz.len
  have e : seqS l code zs = (if zs.getD 0 0 < 0 ∨ zs.getD 1 0 < zs.getD 0 0 ∨ (l.length : Int) < zs.getD 1 0 then (l, 2, 0) else if code = 6 then (revL l (zs.getD 0 0).toNat (zs.getD 1 0).toNat, 0, 0) else (l, 0, ((l.drop (zs.getD 0 0).toNat).take ((zs.getD 1 0).toNat - (zs.getD 0 0).toNat)).sum)) := by
    rcases hc with rfl | rfl <;> rfl
  delta refA at s
  rw [SeqP, e, zdh_b2]
  refine yaax rfl ⟨_, _, _, s.ldB, ldI (i' := 1) rz rfl (by omega) ?_⟩
  refine condP (fun h5 => ?_) (fun h5 => condP (fun h6 => ?_) (fun h6 => condP (fun h7 => ?_) (fun h7 => ?_)))
  · rw [if_pos (by omega)]; exact boxF na s
  · rw [if_pos (by omega)]; exact boxF na s
  · rw [if_pos (by omega)]; exact boxF na s
  rw [if_neg (by omega), zdh_b3]
  obtain ⟨a, ha⟩ : ∃ a : Nat, zs.getD 0 0 = a := ⟨(zs.getD 0 0).toNat, by omega⟩
  obtain ⟨b, hb⟩ : ∃ b : Nat, zs.getD 1 0 = b := ⟨(zs.getD 1 0).toNat, by omega⟩
  simp only [ha, hb, Int.toNat_natCast] at h5 h6 h7 ⊢
  refine ⟨fun x h' => h' = h ∧ ∃ i : Nat, x.2.1 = i ∧ a ≤ i ∧ i ≤ b ∧ x.1 = ((l.drop a).take (i - a)).sum, fun x _ => (b - x.2.1).toNat, ⟨rfl, a, rfl, Nat.le_refl _, by omega, by simp⟩, ?_⟩
  rintro ⟨x, y, _⟩ h7 ⟨rfl, i, rfl, hi1, hi2, hx⟩
  dsimp only at hx ⊢
  subst hx
  rw [zdh_b5]
  refine condP (fun hlt => ?_) (fun hge => ?_)
  · refine ⟨_, _, _, s.ldB, get1 na (s.at B) rfl (by omega) ?_⟩
    rw [← yapz hi1 (by omega), zdh_b7]
    have hb := yazo (l := (l.drop a).take (i + 1 - a)) fun z hz => hk z (List.mem_of_mem_drop (List.mem_of_mem_take hz))
    have hbl : ((l.drop a).take (i + 1 - a)).length ≤ 1000 := by rw [List.length_take, List.length_drop]; omega
    refine ⟨⟨by omega, by omega⟩, ⟨by omega, by omega⟩, ⟨rfl, i + 1, by push_cast; rfl, by omega, by omega, rfl⟩, by dsimp only; omega⟩
  · have : i = b := by omega
    subst this
    rw [zdh_b8]
    refine ⟨_, s.ld0, condP (fun h5 => ?_) (fun h5 => ?_)⟩
    · rw [if_neg (by omega)]
      exact boxY na s
    · rw [if_pos (by omega)]
      obtain ⟨hs, B0, B1, rfl, o, hh⟩ := na
      have hol : hs.length = n := o.len
      refine ⟨fun x h' => ∃ (j : Nat) (ys : List SH) (A : Bag), x.1 = j ∧ j ≤ (i - a) / 2 ∧ RevI TR.d a i j hs ys ∧ Sl TR p n c ys A ∧ St h0 h' (refA b1 b2 b3 b4 3 p n c code q m cc x0 x1 y0 y1 y2 (A + B1) G), fun x _ => (i - x.1).toNat, ⟨0, hs, B0, rfl, by omega, yalw, o, by delta refA; exact s⟩, ?_⟩
      clear o s
      rintro ⟨x, _⟩ h1 ⟨j, ys, A, rfl, hj, hr, o, s⟩
      dsimp only
      rw [zdh_b10]
      delta refA at s
      have hyl := o.len
      refine ⟨⟨by omega, by omega⟩, yact (by omega) (by omega) (by omega) (condP (fun hlt => ?_) (fun hge => ?_))⟩
      · refine ⟨_, _, _, s.ldB, ⟨by omega, by omega⟩, _, _, _, s.ldB, ⟨by omega, by omega⟩, ⟨by omega, by omega⟩, _, _, _, s.ldB, ⟨by omega, by omega⟩, ⟨by omega, by omega⟩, ldH (i' := i - 1 - j) o (s.at A) (by omega) (by omega) ⟨_, _, _, s.ldB, ⟨by omega, by omega⟩, ldH (i' := a + j) o (s.at A) (by omega) (by omega) ?_⟩⟩
        refine wrH (i' := a + j) (x := ys.getD (i - 1 - j) TR.d) (F := cA b1 [.int .i64 3, .slice p n c] 66 + (cA b2 [.int .i64 code, .slice q m cc] 25 + (cA b3 [x0, x1] 66 + (cA b4 [y0, y1, y2] 61 + (B1 + G))))) o s.to (by omega) (by omega) fun h2 A2 o2 s => ?_
        refine ⟨⟨_, _, _, s.ldB, rfl⟩, wrH (i' := i - 1 - j) (x := ys.getD (a + j) TR.d) (F := cA b1 [.int .i64 3, .slice p n c] 66 + (cA b2 [.int .i64 code, .slice q m cc] 25 + (cA b3 [x0, x1] 66 + (cA b4 [y0, y1, y2] 61 + (B1 + G))))) o2 s.to (by omega) (by omega) fun h3 A3 o3 s => ?_⟩
        rw [zdh_b12]
        exact ⟨⟨by omega, by omega⟩, ⟨j + 1, _, A3, by push_cast; rfl, by omega, yamw hr (by omega) (by omega), o3, by (try delta refA at s); (try delta refA); exact s.to⟩, by dsimp only; omega⟩
      · rw [zdh_b13]
        have e := yaru hr (by omega) (by omega) (by omega) (by omega)
        subst e
        have na' : RowsA (p, n, c) ((revL l a i).map row1) (A + B1) := by
          rw [yaro]
          exact ⟨_, A, B1, rfl, o, AllH.revL hh (by omega)⟩
        exact boxY na' s
theorem yamb (na : RowsA (p, n, c) (l.map row1) B) (rz : RdT TI h q m zs) (s : St h0 h (refA b1 b2 b3 b4 3 p n c code q m cc x0 x1 y0 y1 y2 B G)) {a : Nat} {z : Int} (ha : code = 4 → a < n ∧ 2 ≤ zs.length) :
    zdh_b9 (some ⟨b1, 0, none⟩) (some ⟨b2, 0, none⟩) (some ⟨b3, 0, none⟩) (some ⟨b4, 0, none⟩) (a : Int) z h (StepP h0 G 3 ((if code = 4 then l.set a (zs.getD 1 0) else l).map row1) 0 z) := by
  have hl : (l.map row1).length = n := yaaw na
  rw [List.length_map] at hl
  have hzl := rz.len
  delta refA at s
  rw [zdh_b9]
  refine ⟨_, s.ld0, condP (fun h4 => ?_) (fun h4 => ?_)⟩
  · obtain ⟨ha, hz⟩ := ha h4
    rw [if_pos h4]
    refine ⟨_, _, _, s.ldB, yadi na (s.at B) (by omega) (by omega) fun q' l' d' Bi Br o hB hset => ⟨_, _, _, s.ldB, ldI (i' := 1) rz rfl (by omega) ?_⟩⟩
    rw [Int.toNat_natCast, yaem (by omega)] at o
    have ol : 1 = l' := o.len
    subst ol
    subst hB
    refine Sl.wrI (F := cA b1 [.int .i64 3, .slice p n c] 66 + (cA b2 [.int .i64 code, .slice q m cc] 25 + (cA b3 [x0, x1] 66 + (cA b4 [y0, y1, y2] 61 + (Br + G))))) (x := zs.getD 1 0) o s.to (by omega) (by omega) rfl rfl fun h' A' o' s' => ?_
    have na' := hset _ _ o'
    have hrow : (l.map row1).set (Int.toNat (a : Int)) ([l.getD a 0].set (Int.toNat (0 : Int)) (zs.getD 1 0)) = (l.set a (zs.getD 1 0)).map row1 := by
      rw [Int.toNat_natCast, List.map_set]; rfl
    rw [hrow] at na'
    rw [zdh_b11]
    exact boxY (b2 := b2) (p := p) (c := c) (cc := cc) (q := q) (m := m) (code := code) (x0 := x0) (x1 := x1) (y0 := y0) (y1 := y1) (y2 := y2) na' (by delta refA; exact s'.to)
  · rw [if_neg h4, zdh_b11]
    exact boxY na s
theorem ybbf (hk : ∀ z ∈ l, KeyP z) (na : RowsA (p, n, c) (l.map row1) B) (rz : RdS h0 G TI q m zs) (s : St h0 h (B + G)) (hn : n ≤ 1000) (hc : 1 ≤ code ∧ code ≤ 7) (h1 : code ≠ 7 → 1 ≤ zs.length) (h2 : code = 1 ∨ (4 ≤ code ∧ code ≤ 6) → 2 ≤ zs.length) (hz : ∀ z ∈ zs, KeyP z) :
    yaae Tryz.prog 79 #[.agg #[.int .i64 3, .slice p n c], .agg #[.int .i64 code, .slice q m cc]] h (SeqP h0 G l code zs) := by
  have hl : (l.map row1).length = n := yaaw na
  rw [List.length_map] at hl
  refine zdh_call ?_
  rw [zdh_b0]
  refine s.new (cs := [_, _]) fun b1 h3 _ s => s.new (cs := [_, _]) fun b2 h4 _ s => s.new (cs := [_, _]) fun b3 h5 _ s => s.new (cs := [_, _, _]) fun b4 h6 _ s => ?_
  have s : St h0 h6 (refA b1 b2 b3 b4 3 p n c code q m cc (.int .i64 0) (.slice none 0 0) (.int .i64 0) (.int .i64 0) (.slice none 0 0) B G) := by delta refA; exact s.to
  have hrz : RdT TI h6 q m zs := rz h6 (cA b1 [.int .i64 3, .slice p n c] 66 + (cA b2 [.int .i64 code, .slice q m cc] 25 + (cA b3 [.int .i64 0, .slice none 0 0] 66 + (cA b4 [.int .i64 0, .int .i64 0, .slice none 0 0] 61 + B)))) (by delta refA at s; exact s.to)
  have hzl := hrz.len
  by_cases h56 : code = 5 ∨ code = 6
  · have hb2 := yauf hk na hrz s hn h56 (h2 (by omega)) hz
    delta refA at s
    refine ⟨_, _, _, s.ldB, _, s.ld0, yaam (decide_eq_false (by omega)) ⟨_, _, _, s.ldB, ldI (i' := 0) hrz rfl (by omega) ⟨_, s.ld0, yaam (decide_eq_false (by omega)) (condP (fun h5 => ?_) (fun h5 => ?_))⟩⟩⟩
    · rw [decide_eq_true h5]; exact hb2
    · rw [decide_eq_true (show code = 6 by omega)]; exact hb2
  have s' := s
  delta refA at s
  refine ⟨_, _, _, s.ldB, _, s.ld0, condP (fun h7 => ?_) (fun h7 => ?_)⟩
  · have e : seqS l code zs = (l, 0, (l.length : Int)) := by subst h7; rfl
    rw [SeqP, e, hl]
    exact boxY na s
  refine ⟨_, _, _, s.ldB, ldI (i' := 0) hrz rfl (by omega) ⟨_, s.ld0, condP (fun hp => ?_) (fun hp => ?_)⟩⟩
  · have e : seqS l code zs = (if zs.getD 0 0 < 0 ∨ (l.length : Int) < zs.getD 0 0 then (l, 2, 0) else if l.length = 500 then (l, 4, 0) else (l.take (zs.getD 0 0).toNat ++ zs.getD 1 0 :: l.drop (zs.getD 0 0).toNat, 0, 0)) := by subst hp; rfl
    rw [SeqP, e]
    refine condP (fun h3 => ?_) (fun h3 => condP (fun h4 => ?_) (fun h4 => ?_))
    · rw [if_pos (by omega)]; exact boxF na s
    · rw [if_pos (by omega)]; exact boxF na s
    rw [if_neg (by omega), zdh_b1]
    refine condP (fun h5 => ?_) (fun h5 => ?_)
    · rw [if_pos (by omega)]; exact boxF na s
    rw [if_neg (by omega)]
    obtain ⟨a, ha⟩ : ∃ a : Nat, zs.getD 0 0 = a := ⟨(zs.getD 0 0).toNat, by omega⟩
    have h2 := h2 (by omega)
    simp only [ha, Int.toNat_natCast] at h3 h4 ⊢
    refine ⟨_, _, _, s.ldB, _, _, _, s.ldB, ldI (i' := 1) hrz rfl (by omega) (s.new (cs := [_]) fun b5 h8 _ s => ⟨⟨_, _, _, s.ldB, rfl⟩, ?_⟩)⟩
    have o5 : Sl TI (some ⟨b5, 0, none⟩) 1 1 [zs.getD 1 0] (cA b5 [.int .i64 (zs.getD 1 0)] 3) := Sl.of_blk (T := TI) rfl rfl
    refine (yaib na o5 (s.to (B := B + (cA b5 [.int .i64 (zs.getD 1 0)] 3 + (cA b1 [.int .i64 3, .slice p n c] 66 + (cA b2 [.int .i64 code, .slice q m cc] 25 + (cA b3 [.int .i64 0, .slice none 0 0] 66 + (cA b4 [.int .i64 0, .int .i64 0, .slice none 0 0] 61 + G))))))) (by omega) (by omega)).mono fun v h9 ⟨q', d', B', hv, na', s⟩ => ⟨_, _, _, hv, wrC1 s fun h10 s => ?_⟩
    have hrow : (l.map row1).take a ++ [zs.getD 1 0] :: (l.map row1).drop a = (l.take a ++ zs.getD 1 0 :: l.drop a).map row1 := by
      rw [← List.map_take, ← List.map_drop, List.map_append, List.map_cons]
    rw [hrow] at na'
    exact boxY (b2 := b2) (p := q') (c := d') (cc := cc) (q := q) (m := m) (code := code) (x0 := .int .i64 0) (x1 := .slice none 0 0) (y0 := .int .i64 0) (y1 := .int .i64 0) (y2 := .slice none 0 0) na' (by delta refA; exact s.to)
  · refine yaam (decide_eq_false (by omega)) ?_
    rw [decide_eq_false (show ¬ code = 6 by omega), zdh_b2]
    refine yaam rfl ?_
    have e : seqS l code zs = (if zs.getD 0 0 < 0 ∨ (l.length : Int) ≤ zs.getD 0 0 then (l, 2, 0) else if code = 2 then (l.take (zs.getD 0 0).toNat ++ l.drop ((zs.getD 0 0).toNat + 1), 0, l.getD (zs.getD 0 0).toNat 0) else if code = 4 then (l.set (zs.getD 0 0).toNat (zs.getD 1 0), 0, l.getD (zs.getD 0 0).toNat 0) else (l, 0, l.getD (zs.getD 0 0).toNat 0)) := by
      unfold seqS; rw [if_neg h7, if_neg h56, if_neg hp]
    rw [SeqP, e, zdh_b4]
    refine condP (fun h3 => ?_) (fun h3 => condP (fun h4 => ?_) (fun h4 => ?_))
    · rw [if_pos (by omega)]; exact boxF na s
    · rw [if_pos (by omega)]; exact boxF na s
    rw [if_neg (by omega), zdh_b6]
    obtain ⟨a, ha⟩ : ∃ a : Nat, zs.getD 0 0 = a := ⟨(zs.getD 0 0).toNat, by omega⟩
    simp only [ha, Int.toNat_natCast] at h3 h4 ⊢
    refine ⟨_, _, _, s.ldB, get1 na (s.at B) rfl (by omega) ⟨_, s.ld0, condP (fun h5 => ?_) (fun h5 => ?_)⟩⟩
    · rw [if_pos h5]
      refine ⟨_, _, _, s.ldB, (yafr (i := a) na (s.at B) (by omega) (by omega)).mono fun v h' ⟨q', d', B', hv, na', s⟩ => ⟨_, _, _, hv, wrC1 s fun h10 s => ?_⟩⟩
      have hrow : (l.map row1).take a ++ (l.map row1).drop (a + 1) = (l.take a ++ l.drop (a + 1)).map row1 := by
        rw [← List.map_take, ← List.map_drop, List.map_append]
      rw [hrow] at na'
      have r := yamb (b1 := b1) (b2 := b2) (b3 := b3) (b4 := b4) (p := q') (c := d') (cc := cc) (q := q) (m := m) (code := code) (x0 := .int .i64 0) (x1 := .slice none 0 0) (y0 := .int .i64 0) (y1 := .int .i64 0) (y2 := .slice none 0 0) (a := a) (z := l.getD a 0) (h0 := h0) (h := h10) (G := G) na' (rz h10 (cA b1 [.int .i64 3, .slice q' (n - 1) d'] 66 + (cA b2 [.int .i64 code, .slice q m cc] 25 + (cA b3 [.int .i64 0, .slice none 0 0] 66 + (cA b4 [.int .i64 0, .int .i64 0, .slice none 0 0] 61 + B')))) s.to) (by delta refA; exact s.to) (fun h => absurd h (by omega))
      rwa [if_neg (by omega)] at r
    · rw [if_neg h5]
      have r := yamb (a := a) (z := l.getD a 0) na hrz s' (fun h => ⟨by omega, h2 (by omega)⟩)
      split at r
      · rename_i h4; rw [if_pos h4]; exact r
      · rename_i h4; rw [if_neg h4]; exact r
end
end Go.Proofs.YtdlkohenamlnaaaGreat
/- Layer 3: sequences, of the model. -/
namespace Go.Proofs.YtdlkohenamlnaaaGreat
open Go Go.Sx
section
variable {h0 h : Hp} {b1 b2 : Nat} {l : List Int} {p q : OA} {n c m cc : Nat} {code : Int} {zs : List Int} {B G : Bag} {y0 y1 y2 : Value}
abbrev modA (b1 b2 : Nat) (code : Int) (q : OA) (m cc : Nat) (y0 y1 y2 : Value) (B G : Bag) : Bag :=
  cA b2 [y0, y1, y2] 61 + (cA b1 [.int .i64 code, .slice q m cc] 25 + (B + G))
theorem yaoo (hk : ∀ z ∈ l, KeyP z) (na : RowsA (p, n, c) (l.map row1) B) (rz : RdT TI h q m zs) (s : St h0 h (modA b1 b2 code q m cc y0 y1 y2 B G)) (hn : n ≤ 1000) (hcn : n ≤ c) (hc : code = 5 ∨ code = 6) (h1 : 2 ≤ zs.length) :
    zbi_b1 p n c (some ⟨b1, 0, none⟩) (some ⟨b2, 0, none⟩) true h (MSeqP h0 G l code zs) := by
  have hl : (l.map row1).length = n := yaaw na
  rw [List.length_map] at hl
  have hzl := rz.len
  have e : seqS l code zs = (if zs.getD 0 0 < 0 ∨ zs.getD 1 0 < zs.getD 0 0 ∨ (l.length : Int) < zs.getD 1 0 then (l, 2, 0) else if code = 6 then (revL l (zs.getD 0 0).toNat (zs.getD 1 0).toNat, 0, 0) else (l, 0, ((l.drop (zs.getD 0 0).toNat).take ((zs.getD 1 0).toNat - (zs.getD 0 0).toNat)).sum)) := by
    rcases hc with rfl | rfl <;> rfl
  delta modA at s
  rw [MSeqP, e, zbi_b1]
  refine yaax rfl ⟨_, _, _, s.ldB, ldI (i' := 0) rz rfl (by omega) ⟨_, _, _, s.ldB, ldI (i' := 1) rz rfl (by omega) ?_⟩⟩
  refine condP (fun h5 => ?_) (fun h5 => condP (fun h6 => ?_) (fun h6 => condP (fun h7 => ?_) (fun h7 => ?_)))
  · rw [if_pos (by omega)]; exact mboxT na s (yaas _ _)
  · rw [if_pos (by omega)]; exact mboxT na s (yaas _ _)
  · rw [if_pos (by omega)]; exact mboxT na s (yaas _ _)
  rw [if_neg (by omega), zbi_b2]
  obtain ⟨a, ha⟩ : ∃ a : Nat, zs.getD 0 0 = a := ⟨(zs.getD 0 0).toNat, by omega⟩
  obtain ⟨b, hb⟩ : ∃ b : Nat, zs.getD 1 0 = b := ⟨(zs.getD 1 0).toNat, by omega⟩
  simp only [ha, hb, Int.toNat_natCast] at h5 h6 h7 ⊢
  refine ⟨_, s.ld0, condP (fun h8 => ?_) (fun h8 => ?_)⟩
  · rw [if_pos h8]
    refine ⟨⟨by omega, by omega, by omega⟩, (yayg (a := a) (b := b) na (s.at B) (by omega) (by omega) (by omega)).mono fun v h1 ⟨hv, B', na', s⟩ => ⟨hv, ?_⟩⟩
    rw [← yaro] at na'
    exact mboxT (b2 := b2) (D := cA b1 [.int .i64 code, .slice q m cc] 25) na' s.to (yaap _ _)
  · rw [if_neg h8]
    refine ⟨⟨by omega, by omega, by omega⟩, fun x h' => h' = h ∧ ∃ i : Nat, x.2.1 = i ∧ i ≤ b - a ∧ x.1 = ((l.drop a).take i).sum, fun x _ => ((b - a : Nat) - x.2.1).toNat, ⟨rfl, 0, rfl, Nat.zero_le _, by simp⟩, ?_⟩
    rintro ⟨x, y, _⟩ h7 ⟨rfl, i, rfl, hi2, hx⟩
    dsimp only at hx ⊢
    subst hx
    rw [zbi_b4]
    refine condP (fun hlt => ?_) (fun hge => ?_)
    · obtain ⟨hs, B0, B1, rfl, o, hh⟩ := na
      have hol : hs.length = n := o.len
      refine ⟨⟨by omega, by omega⟩, ?_⟩
      have hg : ∃ A1 A2, B1 = A1 + A2 ∧ RowP (hs.getD (a + i) TR.d) [l.getD (a + i) 0] A1 := by
        obtain ⟨Ai, Br, hB, hp, _⟩ := AllH.edit hh (i := a + i) (by omega)
        rw [yaem (by omega)] at hp
        exact ⟨Ai, Br, hB, hp⟩
      obtain ⟨A1, A2, rfl, o1⟩ := hg
      have o1l : 1 = (hs.getD (a + i) TR.d).2.1 := o1.len
      simp only [Int.toNat_natCast]
      refine ldSub (a0 := a) (n := n) (c := c) (p := p) (j := i) o (s.at B0) (by omega) ?_
      · have hrd := (o1.rd (s.at A1))
        refine ldI (i := 0) (i' := 0) hrd rfl (by omega) ?_
        show InR (((l.drop a).take i).sum + l.getD (a + i) 0) ∧ zbi_b7 p n c _ (((l.drop a).take i).sum + l.getD (a + i) 0) _ _ _ _ _ _ _ _
        have es := yapz (l := l) (a := a) (i := a + i) (by omega) (by omega)
        rw [show a + i + 1 - a = i + 1 by omega, show a + i - a = i by omega] at es
        rw [← es, zbi_b7]
        have hb := yazo (l := (l.drop a).take (i + 1)) fun z hz => hk z (List.mem_of_mem_drop (List.mem_of_mem_take hz))
        have hbl : ((l.drop a).take (i + 1)).length ≤ 1000 := by rw [List.length_take, List.length_drop]; omega
        refine ⟨⟨by omega, by omega⟩, ⟨by omega, by omega⟩, ⟨rfl, i + 1, by push_cast; rfl, by omega, rfl⟩, by dsimp only; omega⟩
    · have : i = b - a := by omega
      subst this
      rw [zbi_b8]
      exact mboxT na s (yaap _ _)
theorem yagm {l' : List Int} (z : Int) (na : RowsA (p, n, c) (l'.map row1) B) (s : St h0 h (modA b1 b2 code q m cc y0 y1 y2 B G)) : zbi_b9 p n c (some ⟨b2, 0, none⟩) z h (yafm h0 G (l'.map row1) 0 z) := by
  delta modA at s
  rw [zbi_b9]
  exact mboxT na s (yaap _ _)
theorem yazd (hk : ∀ z ∈ l, KeyP z) (na : RowsA (p, n, c) (l.map row1) B) (rz : RdS h0 G TI q m zs) (hmc : m ≤ cc) (s : St h0 h (B + G)) (hn : n ≤ 1000) (hcn : n ≤ c) (hc : 1 ≤ code ∧ code ≤ 7) (h1 : code ≠ 7 → 1 ≤ zs.length) (h2 : code = 1 ∨ (4 ≤ code ∧ code ≤ 6) → 2 ≤ zs.length) :
    yaae Tryz.prog 139 #[.slice p n c, .agg #[.int .i64 code, .slice q m cc]] h (MSeqP h0 G l code zs) := by
  have hl : (l.map row1).length = n := yaaw na
  rw [List.length_map] at hl
  refine zbi_call ?_
  rw [zbi_b0]
  refine s.new (cs := [_, _]) fun b1 h3 _ s => s.new (cs := [_, _, _]) fun b2 h4 _ s => ?_
  have hrz : RdT TI h4 q m zs := rz h4 (cA b2 [.int .i64 0, .int .i64 0, .slice none 0 0] 61 + (cA b1 [.int .i64 code, .slice q m cc] 25 + B)) s.to
  have hzl := hrz.len
  by_cases h56 : code = 5 ∨ code = 6
  · have hb2 := yaoo hk na hrz (b1 := b1) (b2 := b2) (cc := cc) (code := code) (y0 := .int .i64 0) (y1 := .int .i64 0) (y2 := .slice none 0 0) (by delta modA; exact s) hn hcn h56 (h2 (by omega))
    refine ⟨_, s.ld0, yaam (decide_eq_false (by omega)) (condP (fun h5 => ?_) (fun h5 => ?_))⟩
    · rw [decide_eq_true h5]; exact hb2
    · rw [decide_eq_true (show code = 6 by omega)]; exact hb2
  refine ⟨_, s.ld0, condP (fun h7 => ?_) (fun h7 => ?_)⟩
  · have e : seqS l code zs = (l, 0, (l.length : Int)) := by subst h7; rfl
    rw [MSeqP, e, hl]
    exact mboxT na s (yaap _ _)
  refine yaam (decide_eq_false (by omega)) ?_
  rw [decide_eq_false (show ¬ code = 6 by omega), zbi_b1]
  refine yaam rfl ?_
  rw [zbi_b3]
  refine ⟨_, _, _, s.ldB, ldI (i' := 0) hrz rfl (by omega) ⟨_, s.ld0, condP (fun hp => ?_) (fun hp => ?_)⟩⟩
  · have e : seqS l code zs = (if zs.getD 0 0 < 0 ∨ (l.length : Int) < zs.getD 0 0 then (l, 2, 0) else if l.length = 500 then (l, 4, 0) else (l.take (zs.getD 0 0).toNat ++ zs.getD 1 0 :: l.drop (zs.getD 0 0).toNat, 0, 0)) := by subst hp; rfl
    rw [MSeqP, e]
    refine condP (fun h3 => ?_) (fun h3 => condP (fun h4 => ?_) (fun h4 => condP (fun h5 => ?_) (fun h5 => ?_)))
    · rw [if_pos (by omega)]; exact mboxT na s (yaas _ _)
    · rw [if_pos (by omega)]; exact mboxT na s (yaas _ _)
    · rw [if_neg (by omega), if_pos (by omega)]; exact mboxT na s (yaas _ _)
    rw [if_neg (by omega), if_neg (by omega), zbi_b5]
    obtain ⟨a, ha⟩ : ∃ a : Nat, zs.getD 0 0 = a := ⟨(zs.getD 0 0).toNat, by omega⟩
    have h2 := h2 (by omega)
    simp only [ha, Int.toNat_natCast] at h3 h4 ⊢
    refine ⟨_, _, _, s.ldB, ldI (i' := 1) hrz rfl (by omega) (s.new (cs := [_]) fun b5 h8 _ s => s.new (cs := [_]) fun b6 h9 _ s => ?_)⟩
    have o5 : Sl TI (some ⟨b5, 0, none⟩) 1 1 [zs.getD 1 0] (cA b5 [.int .i64 (zs.getD 1 0)] 3) := Sl.of_blk (T := TI) rfl rfl
    refine (yaft (b := b6) na o5 (s.to (B := cA b6 [.slice (some ⟨b5, 0, none⟩) 1 1] 23 + (B + (cA b5 [.int .i64 (zs.getD 1 0)] 3 + (cA b2 [.int .i64 0, .int .i64 0, .slice none 0 0] 61 + (cA b1 [.int .i64 code, .slice q m cc] 25 + G)))))) (by omega) (by omega)).mono fun v h9 ⟨q', d', B', hv, na', s⟩ => ⟨_, _, _, hv, ?_⟩
    have hrow : (l.map row1).take a ++ [zs.getD 1 0] :: (l.map row1).drop a = (l.take a ++ zs.getD 1 0 :: l.drop a).map row1 := by
      rw [← List.map_take, ← List.map_drop, List.map_append, List.map_cons]
    rw [hrow] at na'
    exact mboxT (b2 := b2) (D := cA b1 [.int .i64 code, .slice q m cc] 25) na' s.to (yaap _ _)
  · have e : seqS l code zs = (if zs.getD 0 0 < 0 ∨ (l.length : Int) ≤ zs.getD 0 0 then (l, 2, 0) else if code = 2 then (l.take (zs.getD 0 0).toNat ++ l.drop ((zs.getD 0 0).toNat + 1), 0, l.getD (zs.getD 0 0).toNat 0) else if code = 4 then (l.set (zs.getD 0 0).toNat (zs.getD 1 0), 0, l.getD (zs.getD 0 0).toNat 0) else (l, 0, l.getD (zs.getD 0 0).toNat 0)) := by
      unfold seqS; rw [if_neg h7, if_neg h56, if_neg hp]
    rw [MSeqP, e]
    refine condP (fun h3 => ?_) (fun h3 => condP (fun h4 => ?_) (fun h4 => ?_))
    · rw [if_pos (by omega)]; exact mboxT na s (yaas _ _)
    · rw [if_pos (by omega)]; exact mboxT na s (yaas _ _)
    rw [if_neg (by omega), zbi_b6]
    obtain ⟨a, ha⟩ : ∃ a : Nat, zs.getD 0 0 = a := ⟨(zs.getD 0 0).toNat, by omega⟩
    simp only [ha, Int.toNat_natCast] at h3 h4 ⊢
    refine get1 na (s.at B) rfl (by omega) ⟨_, s.ld0, condP (fun h5 => ?_) (fun h5 => condP (fun h6 => ?_) (fun h6 => ?_))⟩
    · rw [if_pos h5]
      refine ⟨⟨by omega, by omega⟩, (yaeo (i := a) na (s.at B) (by omega) rfl (by omega)).mono fun v h' ⟨B', hv, na', s⟩ => ⟨_, _, _, hv, ?_⟩⟩
      have hrow : (l.map row1).take a ++ (l.map row1).drop (a + 1) = (l.take a ++ l.drop (a + 1)).map row1 := by
        rw [← List.map_take, ← List.map_drop, List.map_append]
      rw [hrow] at na'
      exact yagm (b1 := b1) (b2 := b2) (code := code) (q := q) (m := m) (cc := cc) (y0 := .int .i64 0) (y1 := .int .i64 0) (y2 := .slice none 0 0) _ na' (by delta modA; exact s.to)
    · rw [if_neg h5, if_pos h6]
      have h2 := h2 (by omega)
      refine yadi na (s.at B) (by omega) (by omega) fun q' l' d' Bi Br o hB hset => ⟨_, _, _, s.ldB, ldI (i' := 1) hrz rfl (by omega) ?_⟩
      rw [Int.toNat_natCast, yaem (by omega)] at o
      have ol : 1 = l' := o.len
      subst ol
      subst hB
      refine Sl.wrI (F := cA b2 [.int .i64 0, .int .i64 0, .slice none 0 0] 61 + (cA b1 [.int .i64 code, .slice q m cc] 25 + (Br + G))) (x := zs.getD 1 0) o s.to (by omega) (by omega) rfl rfl fun h' A' o' s' => ?_
      have na' := hset _ _ o'
      have hrow : (l.map row1).set (Int.toNat (a : Int)) ([l.getD a 0].set (Int.toNat (0 : Int)) (zs.getD 1 0)) = (l.set a (zs.getD 1 0)).map row1 := by
        rw [Int.toNat_natCast, List.map_set]; rfl
      rw [hrow] at na'
      exact yagm (b1 := b1) (b2 := b2) (code := code) (q := q) (m := m) (cc := cc) (y0 := .int .i64 0) (y1 := .int .i64 0) (y2 := .slice none 0 0) _ na' (by delta modA; exact s'.to)
    · rw [if_neg h5, if_neg h6]
      exact yagm (b1 := b1) (b2 := b2) (code := code) (q := q) (m := m) (cc := cc) (y0 := .int .i64 0) (y1 := .int .i64 0) (y2 := .slice none 0 0) _ na (by delta modA; exact s)
end
end Go.Proofs.YtdlkohenamlnaaaGreat
/- Layer 3: partitions: what their steps say, and the classes. -/
namespace Go.Proofs.YtdlkohenamlnaaaGreat
open Go Go.Sx
def clsN (rows : List (List Int)) (x : Int) : Nat := rows.findIdx fun r => decide (x ∈ r)
def clsZ (rows : List (List Int)) (x : Int) : Int := if clsN rows x < rows.length then (clsN rows x : Int) else -1
def tot (rows : List (List Int)) : Nat := (rows.map List.length).sum
def yabe : List Int → List Int → List Int
  | [], ys => ys
  | x :: xs, [] => x :: xs
  | x :: xs, y :: ys => if x < y then x :: yabe xs (y :: ys) else y :: yabe (x :: xs) ys
theorem yaoi (xs : List Int) : yabe xs [] = xs := by cases xs <;> simp [yabe]
theorem yabm : ∀ xs ys : List Int, (yabe xs ys).Perm (xs ++ ys)
  | [], ys => by rw [yabe]; exact .refl _
  | x :: xs, [] => by rw [yabe, List.append_nil]
  | x :: xs, y :: ys => by
    rw [yabe]
    split
    · exact (yabm xs (y :: ys)).cons _
    · exact ((yabm (x :: xs) ys).cons _).trans (List.perm_middle (l₁ := x :: xs)).symm
theorem yarb (xs ys : List Int) : (yabe xs ys).length = xs.length + ys.length := by rw [(yabm xs ys).length_eq, List.length_append]
theorem yacg : ∀ xs ys : List Int, xs.Pairwise (· ≤ ·) → ys.Pairwise (· ≤ ·) → (yabe xs ys).Pairwise (· ≤ ·)
  | [], ys, _, h => by rw [yabe]; exact h
  | x :: xs, [], h, _ => by rw [yabe]; exact h
  | x :: xs, y :: ys, h1, h2 => by
    rw [yabe]
    have a1 := List.pairwise_cons.1 h1
    have a2 := List.pairwise_cons.1 h2
    split
    · rename_i hlt
      refine List.pairwise_cons.2 ⟨fun z hz => ?_, yacg xs (y :: ys) a1.2 h2⟩
      rcases List.mem_append.1 ((yabm _ _).mem_iff.1 hz) with hz | hz
      · exact a1.1 z hz
      · rcases List.mem_cons.1 hz with rfl | hz
        · omega
        · have := a2.1 z hz; omega
    · rename_i hge
      refine List.pairwise_cons.2 ⟨fun z hz => ?_, yacg (x :: xs) ys h1 a2.2⟩
      rcases List.mem_append.1 ((yabm _ _).mem_iff.1 hz) with hz | hz
      · rcases List.mem_cons.1 hz with rfl | hz
        · omega
        · have := a1.1 z hz; omega
      · exact a2.1 z hz
def cutL {α : Type} (l : List α) (i : Nat) : List α := l.take i ++ l.drop (i + 1)
def uniR (rows : List (List Int)) (a b : Nat) : List (List Int) := cutL (rows.set (min a b) (yabe (rows.getD a []) (rows.getD b []))) (max a b)
def setsS (rows : List (List Int)) (c : Int) (zs : List Int) : List (List Int) × Int × Int :=
  if c = 1 then (if tot rows = 500 then (rows, 4, 0) else (rows ++ [[(tot rows : Int)]], 0, (tot rows : Int)))
  else if c = 5 then (rows, 0, (rows.length : Int))
  else if c = 4 then (if clsZ rows (zs.getD 0 0) < 0 then (rows, 12, 0) else (rows, 0, ((rows.getD (clsN rows (zs.getD 0 0)) []).length : Int)))
  else if clsZ rows (zs.getD 0 0) < 0 ∨ clsZ rows (zs.getD 1 0) < 0 then (rows, 12, 0)
  else if c = 3 then (rows, 0, if clsN rows (zs.getD 0 0) = clsN rows (zs.getD 1 0) then 1 else 0)
  else if clsN rows (zs.getD 0 0) = clsN rows (zs.getD 1 0) then (rows, 0, 0)
  else (uniR rows (clsN rows (zs.getD 0 0)) (clsN rows (zs.getD 1 0)), 0, 1)
abbrev SetsP (h0 : Hp) (G : Bag) (l : List (List Int)) (c : Int) (zs : List Int) : VK := StepP h0 G 4 (setsS l c zs).1 (setsS l c zs).2.1 (setsS l c zs).2.2
abbrev yaoe (h0 : Hp) (G : Bag) (l : List (List Int)) (c : Int) (zs : List Int) : VK := yafm h0 G (setsS l c zs).1 (setsS l c zs).2.1 (setsS l c zs).2.2
theorem yaze {rows : List (List Int)} {x : Int} {i : Nat} (hi : i < rows.length) (h1 : ∀ j, j < i → x ∉ rows.getD j []) (h2 : x ∈ rows.getD i []) : clsN rows x = i := by
  unfold clsN
  refine List.findIdx_eq hi |>.2 ⟨?_, fun j hj => ?_⟩
  · rw [yaaf hi] at h2; simpa using h2
  · have := h1 j hj
    rw [yaaf (by omega)] at this
    simpa using this
theorem yazj {rows : List (List Int)} {x : Int} (h1 : ∀ j, j < rows.length → x ∉ rows.getD j []) : clsN rows x = rows.length := by
  unfold clsN
  refine List.findIdx_eq_length.2 fun r hr => ?_
  obtain ⟨j, hj, e⟩ := List.mem_iff_getElem.1 hr
  have := h1 j hj
  rw [yaaf hj, e] at this
  simpa using this
theorem yavh {rows : List (List Int)} {x : Int} {i : Nat} (hi : i < rows.length) (h1 : ∀ j, j < i → x ∉ rows.getD j []) (h2 : x ∈ rows.getD i []) : clsZ rows x = i := by
  unfold clsZ; rw [yaze hi h1 h2, if_pos hi]
theorem yavt {rows : List (List Int)} {x : Int} (h1 : ∀ j, j < rows.length → x ∉ rows.getD j []) : clsZ rows x = -1 := by
  unfold clsZ; rw [yazj h1, if_neg (by omega)]
theorem yadw {rows : List (List Int)} {x : Int} (h : ¬ clsZ rows x < 0) : clsZ rows x = clsN rows x ∧ clsN rows x < rows.length := by
  unfold clsZ at *; split <;> rename_i hc <;> simp_all
theorem yaic {rows : List (List Int)} {i : Nat} (h : i < rows.length) : tot (rows.take (i + 1)) = tot (rows.take i) + (rows.getD i []).length := by
  unfold tot
  rw [List.take_succ_eq_append_getElem h, List.map_append, List.sum_append, yaaf h]
  simp
theorem yate {rows : List (List Int)} (i : Nat) : tot (rows.take i) ≤ tot rows := by
  have e : tot rows = tot (rows.take i) + tot (rows.drop i) := by
    unfold tot
    rw [← List.sum_append, ← List.map_append, List.take_append_drop]
  omega
theorem yagi {rows : List (List Int)} {i : Nat} : (rows.getD i []).length ≤ tot rows := by
  rcases Nat.lt_or_ge i rows.length with h | h
  · have := yaic h
    have := yate (rows := rows) (i + 1)
    omega
  · rw [List.getD_eq_getElem?_getD, List.getElem?_eq_none h]; simp
section
variable {h0 h : Hp} {p : OA} {n c : Nat} {rows : List (List Int)} {B G : Bag}
theorem yacn {i : Int} {i' : Nat} {Q : OA → Nat → Nat → Prop} (na : RowsA (p, n, c) rows B) (st : St h0 h (B + G)) (ei : i = (i' : Int)) (hi : i' < n)
    (hq : ∀ q d, RdT TI h q (rows.getD i' []).length (rows.getD i' []) → Q q (rows.getD i' []).length d) : (0 ≤ i ∧ i < (n : Int)) ∧ NN p fun a => ∃ q l d, cell h (a.add (i.toNat * 1)) = some (.slice q l d) ∧ Q q l d := by
  subst ei
  refine yadi na st (by omega) (by omega) fun q l d Bi Br o hB _ => ?_
  rw [Int.toNat_natCast] at o
  have ol : (rows.getD i' []).length = l := o.len
  subst ol
  subst hB
  exact hq q d (o.rd (st.at Bi))
theorem ybaw {k : Int} (hk : k = 4 ∨ k = 6) (na : RowsA (p, n, c) rows B) (s : St h0 h (B + G)) (hn : n ≤ 1000) (ht : tot rows ≤ 1000000) :
    yaae Tryz.prog 116 #[.agg #[.int .i64 k, .slice p n c]] h (fun v h' => v = .int .i64 (tot rows : Int) ∧ St h0 h' (B + G)) := by
  have hl : rows.length = n := yaaw na
  refine zcr_call ?_
  rw [zcr_b0]
  refine s.new (cs := [_, _]) fun b1 h1 _ s => ?_
  have key : zcr_b1 (some ⟨b1, 0, none⟩) h1 fun v h' => v = .int .i64 (tot rows : Int) ∧ St h0 h' (B + G) := by
    rw [zcr_b1]
    refine ⟨fun x h' => h' = h1 ∧ ∃ i : Nat, x.2.1 = i ∧ i ≤ n ∧ x.1 = (tot (rows.take i) : Int), fun x _ => (n - x.2.1).toNat, ⟨rfl, 0, rfl, Nat.zero_le _, by simp [tot]⟩, ?_⟩
    rintro ⟨x, y, _⟩ h7 ⟨rfl, i, rfl, hi, hx⟩
    dsimp only at hx ⊢
    subst hx
    rw [zcr_b2]
    refine ⟨_, _, _, s.ldB, condP (fun hlt => ?_) (fun hge => ?_)⟩
    · refine ⟨_, _, _, s.ldB, yacn na (s.at B) rfl (by omega) fun q d r => ?_⟩
      have := yaic (rows := rows) (i := i) (by omega)
      have := yate (rows := rows) (i + 1)
      refine ⟨⟨by omega, by omega⟩, ?_⟩
      rw [zcr_b3]
      exact ⟨⟨by omega, by omega⟩, ⟨rfl, i + 1, by push_cast; rfl, by omega, by push_cast; omega⟩, by dsimp only; omega⟩
    · rw [zcr_b4, List.take_of_length_le (by omega)]
      exact ⟨rfl, s.drop⟩
  rcases hk with rfl | rfl
  · exact ⟨_, s.ld0, yaam rfl key⟩
  · exact ⟨_, s.ld0, yaax rfl ⟨_, s.ld0, yaam rfl key⟩⟩
theorem yakx {k x : Int} (na : RowsA (p, n, c) rows B) (s : St h0 h (B + G)) (hn : n ≤ 1000) (ht : tot rows ≤ 1000000) :
    yaae Tryz.prog 117 #[.agg #[.int .i64 k, .slice p n c], .int .i64 x] h (fun v h' => v = .int .i64 (clsZ rows x) ∧ St h0 h' (B + G)) := by
  have hl : rows.length = n := yaaw na
  refine zcw_call ?_
  rw [zcw_b0]
  refine s.new (cs := [_, _]) fun b1 h1 _ s => ?_
  refine ⟨fun y h' => h' = h1 ∧ ∃ i : Nat, y.1 = i ∧ i ≤ n ∧ ∀ j, j < i → x ∉ rows.getD j [], fun y _ => (n - y.1).toNat, ⟨rfl, 0, rfl, Nat.zero_le _, fun j hj => absurd hj (by omega)⟩, ?_⟩
  rintro ⟨_, _⟩ h7 ⟨rfl, i, rfl, hi, hno⟩
  dsimp only
  rw [zcw_b1]
  refine ⟨_, _, _, s.ldB, condP (fun hlt => ?_) (fun hge => ?_)⟩
  · refine ⟨fun y h' => h' = h7 ∧ ∃ k : Nat, y.1 = k ∧ k ≤ (rows.getD i []).length ∧ x ∉ (rows.getD i []).take k, fun y _ => ((rows.getD i []).length - y.1).toNat, ⟨rfl, 0, rfl, Nat.zero_le _, by simp⟩, ?_⟩
    rintro ⟨_, _⟩ h8 ⟨rfl, k, rfl, hk, hnk⟩
    dsimp only
    rw [zcw_b2]
    refine ⟨_, _, _, s.ldB, yacn na (s.at B) rfl (by omega) fun q d r => condP (fun hlk => ?_) (fun hgk => ?_)⟩
    · refine ⟨_, _, _, s.ldB, yacn na (s.at B) rfl (by omega) fun q d r => ldI (i' := k) r rfl (by omega) (condP (fun he => ?_) (fun hne => ?_))⟩
      · refine ⟨?_, s.drop⟩
        rw [yavh (i := i) (by omega) hno (by rw [← he]; exact yaav (by omega))]
      · rw [zcw_b4]
        refine ⟨⟨by omega, by have := yagi (rows := rows) (i := i); omega⟩, ⟨rfl, k + 1, by push_cast; rfl, by omega, ?_⟩, by dsimp only; omega⟩
        rw [List.take_succ_eq_append_getElem (by omega)]
        rw [yaaf (by omega)] at hne
        simp only [List.mem_append, List.mem_singleton, not_or]
        exact ⟨hnk, fun h => hne h.symm⟩
    · rw [zcw_b5]
      rw [List.take_of_length_le (by omega)] at hnk
      refine ⟨⟨by omega, by omega⟩, ⟨rfl, i + 1, by push_cast; rfl, by omega, fun j hj => ?_⟩, by dsimp only; omega⟩
      rcases Nat.lt_or_ge j i with h | h
      · exact hno j h
      · rwa [show j = i by omega]
  · rw [zcw_b3]
    exact ⟨by rw [yavt fun j hj => hno j (by omega)], s.drop⟩
theorem yaxn {q : OA} {m d : Nat} {zs : List Int} (r : RdT TI h q m zs) (hm : m ≤ 1000000) (x : Int) :
    yaae Tryz.prog 19 #[.slice q m d, .int .i64 x] h (fun v h' => h' = h ∧ v = .bool (decide (x ∈ zs))) := by
  have hzl := r.len
  refine zec_call ?_
  rw [zec_b0]
  refine zel_call ?_
  rw [zel_b0]
  refine ⟨fun s h' => h' = h ∧ ∃ i : Nat, s.1 = i ∧ i ≤ m ∧ x ∉ zs.take i, fun s _ => (m - s.1).toNat, ⟨rfl, 0, rfl, by omega, by simp⟩, ?_⟩
  rintro ⟨_, _⟩ h1 ⟨rfl, i, rfl, hin, hno⟩
  dsimp only
  rw [zel_b1]
  refine condP (fun hlt => ?_) (fun hge => ?_)
  · refine ldI (i' := i) r rfl (by omega) (condP (fun he => ?_) (fun hne => ?_))
    · refine ⟨_, rfl, rfl, ?_⟩
      rw [decide_eq_true (by omega), decide_eq_true]
      rw [he]; exact yaav (by omega)
    · rw [zel_b2]
      refine ⟨⟨by omega, by omega⟩, ⟨rfl, i + 1, by push_cast; rfl, by omega, ?_⟩, by dsimp only; omega⟩
      rw [List.take_succ_eq_append_getElem (by omega)]
      rw [yaaf (by omega)] at hne
      simp only [List.mem_append, List.mem_singleton, not_or]
      exact ⟨hno, hne⟩
  · rw [zel_b3]
    rw [List.take_of_length_le (by omega)] at hno
    refine ⟨_, rfl, rfl, ?_⟩
    rw [decide_eq_false (by omega), decide_eq_false hno]
theorem yamv {x : Int} (na : RowsA (p, n, c) rows B) (s : St h0 h (B + G)) (hn : n ≤ 1000) (ht : tot rows ≤ 1000000) :
    yaae Tryz.prog 169 #[.slice p n c, .int .i64 x] h (fun v h' => v = .int .i64 (clsZ rows x) ∧ St h0 h' (B + G)) := by
  have hl : rows.length = n := yaaw na
  refine zax_call ?_
  rw [zax_b0]
  refine s.new (cs := [_]) fun b1 h1 _ s => ?_
  refine zei_call ?_
  rw [zei_b0]
  refine ⟨fun y h' => h' = h1 ∧ ∃ i : Nat, y.1 = i ∧ i ≤ n ∧ ∀ j, j < i → x ∉ rows.getD j [], fun y _ => (n - y.1).toNat, ⟨rfl, 0, rfl, Nat.zero_le _, fun j hj => absurd hj (by omega)⟩, ?_⟩
  rintro ⟨_, _⟩ h7 ⟨rfl, i, rfl, hi, hno⟩
  dsimp only
  rw [zei_b1]
  refine condP (fun hlt => ?_) (fun hge => ?_)
  · refine yacn na (s.at B) rfl (by omega) fun q d r => ?_
    change callX Tryz.prog F 184 #[.slice q (rows.getD i []).length d, .pointer (some ⟨b1, 0, none⟩)] h7 _
    refine yacw (by kernel_rfl) (zay_call ?_)
    rw [zay_b0]
    have := yagi (rows := rows) (i := i)
    refine ⟨_, s.ld0, (yaxn r (by omega) x).mono fun v h' ⟨hh, hv⟩ => ⟨_, hv, _, rfl, ?_⟩⟩
    subst hh
    refine condP (fun he => ?_) (fun hne => ?_)
    · exact ⟨_, rfl, by rw [yavh (i := i) (by omega) hno he], s.drop⟩
    · rw [zei_b2]
      refine ⟨⟨by omega, by omega⟩, ⟨rfl, i + 1, by push_cast; rfl, by omega, fun j hj => ?_⟩, by dsimp only; omega⟩
      rcases Nat.lt_or_ge j i with h | h
      · exact hno j h
      · rwa [show j = i by omega]
  · rw [zei_b3]
    exact ⟨_, rfl, by rw [yavt fun j hj => hno j (by omega)], s.drop⟩
end
end Go.Proofs.YtdlkohenamlnaaaGreat
/- Layer 3: partitions, of the reference. -/
namespace Go.Proofs.YtdlkohenamlnaaaGreat
open Go Go.Sx
theorem AllH.editH : ∀ {hs : List SH} {xs : List (List Int)} {A : Bag} {i : Nat}, AllH RowP hs xs A → i < hs.length → ∃ Ai Br, A = Ai + Br ∧ RowP (hs.getD i (none, 0, 0)) (xs.getD i []) Ai ∧ ∀ x y C, RowP x y C → AllH RowP (hs.set i x) (xs.set i y) (C + Br)
  | [], _, _, _, _, h => by simp at h
  | _ :: _, [], _, _, h, _ => h.elim
  | b :: bs, t :: ts, _, 0, ⟨A1, A2, e, h1, h2⟩, _ => ⟨A1, A2, e, h1, fun x y C hy => ⟨C, A2, rfl, hy, h2⟩⟩
  | b :: bs, t :: ts, _, i + 1, ⟨A1, A2, e, h1, h2⟩, hi => by
    obtain ⟨Ai, Br, e2, h3, h4⟩ := AllH.editH h2 (i := i) (by simpa using hi)
    refine ⟨Ai, A1 + Br, by rw [e, e2]; ac_rfl, by simpa using h3, fun x y C hy => ?_⟩
    exact ⟨A1, C + Br, by ac_rfl, h1, h4 x y C hy⟩
section
variable {h0 h : Hp} {p q : OA} {n c m d : Nat} {rows : List (List Int)} {B C G : Bag}
theorem yaub {i : Int} {i' : Nat} {y : List Int} {k : Hp → Prop} (na : RowsA (p, n, c) rows B) (o : Sl TI q m d y C) (s : St h0 h (B + (C + G))) (ei : i = (i' : Int)) (hi : i' < n)
    (hk : ∀ h' B', RowsA (p, n, c) (rows.set i' y) B' → St h0 h' (B' + G) → k h') : (0 ≤ i ∧ i < (n : Int)) ∧ NN p fun ad => Wr h (ad.add (i.toNat * 1)) (.slice q m d) k := by
  obtain ⟨hs, B0, B1, rfl, h1, h2⟩ := na
  have hl : hs.length = n := h1.len
  obtain ⟨Ai, Br, rfl, _, hset⟩ := AllH.editH h2 (i := i') (by omega)
  refine wrH (x := (q, m, d)) h1 (s.to (B := B0 + (C + (Br + (Ai + G))))) ei hi fun h' A' o' s' => hk h' (A' + (C + Br)) ⟨_, A', C + Br, rfl, o', hset (q, m, d) y C o⟩ ?_
  exact (s'.to (B := Ai + (A' + (C + Br) + G))).drop
theorem yatx {q2 : OA} {m2 d2 : Nat} {xs ys : List Int} (r1 : RdT TI h q m xs) (r2 : RdT TI h q2 m2 ys) (h1 : m ≤ 1000000) (h2 : m2 ≤ 1000000) :
    yaae Tryz.prog 118 #[.slice q m d, .slice q2 m2 d2] h (fun v h' => ∃ p c A, v = .slice p (m + m2) c ∧ Sl TI p (m + m2) c (yabe xs ys) A ∧ St h h' A) := by
  have l1 := r1.len
  have l2 := r2.len
  refine zdc_call ?_
  rw [zdc_b0]
  refine ⟨fun x h' => ∃ (i k : Nat) (out : List Int) (A : Bag), x.2.1 = i ∧ x.2.2.1 = k ∧ i ≤ m ∧ k ≤ m2 ∧ x.1.2.1 = i + k ∧ Sl TI x.1.1 x.1.2.1 x.1.2.2 out A ∧ St h h' A ∧ out ++ yabe (xs.drop i) (ys.drop k) = yabe xs ys, fun x _ => (m - x.2.1).toNat + (m2 - x.2.2.1).toNat, ⟨0, 0, [], 0, rfl, rfl, Nat.zero_le _, Nat.zero_le _, rfl, Sl.nil, St.start h, rfl⟩, ?_⟩
  rintro ⟨⟨p, n, c⟩, _, _, _⟩ h7 ⟨i, k, out, A, rfl, rfl, hi, hk, hn, o, s, e⟩
  dsimp only at hn o ⊢
  rw [zdc_b1]
  have s0 : St h h7 (A + 0) := by rw [Bag.yaqx]; exact s
  have R1 := r1.ext s.ext
  have R2 := r2.ext s.ext
  have takeA : i < m → (k = m2 ∨ (k < m2 ∧ xs.getD i 0 < ys.getD k 0)) → yabe (xs.drop i) (ys.drop k) = xs.getD i 0 :: yabe (xs.drop (i + 1)) (ys.drop k) := by
    intro hi hk
    rw [List.drop_eq_getElem_cons (show i < xs.length by omega), yaaf (show i < xs.length by omega)]
    rcases hk with hk | ⟨hk, hlt⟩
    · rw [show ys.drop k = [] from List.drop_of_length_le (by omega), yabe, yaoi]
    · rw [yaaf (show i < xs.length by omega), yaaf (show k < ys.length by omega)] at hlt
      rw [List.drop_eq_getElem_cons (show k < ys.length by omega), yabe, if_pos hlt]
  have takeB : k < m2 → (i = m ∨ (i < m ∧ ¬ xs.getD i 0 < ys.getD k 0)) → yabe (xs.drop i) (ys.drop k) = ys.getD k 0 :: yabe (xs.drop i) (ys.drop (k + 1)) := by
    intro hk hi
    rw [List.drop_eq_getElem_cons (show k < ys.length by omega), yaaf (show k < ys.length by omega)]
    rcases hi with hi | ⟨hi, hlt⟩
    · rw [show xs.drop i = [] from List.drop_of_length_le (by omega), yabe, yabe]
    · rw [yaaf (show i < xs.length by omega), yaaf (show k < ys.length by omega)] at hlt
      rw [List.drop_eq_getElem_cons (show i < xs.length by omega), yabe, if_neg hlt]
  have stepA : ∀ (hi : i < m), (k = m2 ∨ (k < m2 ∧ xs.getD i 0 < ys.getD k 0)) → ∀ (K : OA → Nat → Nat → Hp → Prop), (∀ p' c' h' A', Sl TI p' (n + 1) c' (out ++ [xs.getD i 0]) A' → St h h' A' → (out ++ [xs.getD i 0]) ++ yabe (xs.drop (i + 1)) (ys.drop k) = yabe xs ys → K p' (n + 1) c' h') →
      New h7 (.cells #[.int .i64 (xs.getD i 0)] 3) fun b h2 => yaan Tryz.prog 23 23 (.slice p n c) (.slice (some ⟨b, 0, none⟩) 1 1) h2 (slK K) := by
    intro hi hk K hK
    refine yauz yade s0 o (x := xs.getD i 0) rfl rfl (by omega) fun p' c' h' A' o' s' => hK p' c' h' A' o' (by rwa [Bag.yaqx] at s') ?_
    rw [List.append_assoc, List.singleton_append, ← takeA hi hk]; exact e
  have stepB : ∀ (hk : k < m2), (i = m ∨ (i < m ∧ ¬ xs.getD i 0 < ys.getD k 0)) → ∀ (K : OA → Nat → Nat → Hp → Prop), (∀ p' c' h' A', Sl TI p' (n + 1) c' (out ++ [ys.getD k 0]) A' → St h h' A' → (out ++ [ys.getD k 0]) ++ yabe (xs.drop i) (ys.drop (k + 1)) = yabe xs ys → K p' (n + 1) c' h') →
      New h7 (.cells #[.int .i64 (ys.getD k 0)] 3) fun b h2 => yaan Tryz.prog 23 23 (.slice p n c) (.slice (some ⟨b, 0, none⟩) 1 1) h2 (slK K) := by
    intro hk hi K hK
    refine yauz yade s0 o (x := ys.getD k 0) rfl rfl (by omega) fun p' c' h' A' o' s' => hK p' c' h' A' o' (by rwa [Bag.yaqx] at s') ?_
    rw [List.append_assoc, List.singleton_append, ← takeB hk hi]; exact e
  have doA : ∀ (hi : i < m) (hk : k = m2 ∨ (k < m2 ∧ xs.getD i 0 < ys.getD k 0)), (0 ≤ (i : Int) ∧ (i : Int) < (m : Int)) ∧ NN q fun a => ∃ n1, cell h7 (a.add (Int.toNat (i : Int) * 1)) = some (.int .i64 n1) ∧ New h7 (.cells #[.int .i64 n1] 3) fun b h2 => yaan Tryz.prog 23 23 (.slice p n c) (.slice (some ⟨b, 0, none⟩) 1 1) h2 (slK fun a2 l1 c1 h3 => InR ((i : Int) + 1) ∧ (∃ (i' k' : Nat) (out : List Int) (A : Bag), (i : Int) + 1 = i' ∧ (k : Int) = k' ∧ i' ≤ m ∧ k' ≤ m2 ∧ l1 = i' + k' ∧ Sl TI a2 l1 c1 out A ∧ St h h3 A ∧ out ++ yabe (xs.drop i') (ys.drop k') = yabe xs ys) ∧ ((m : Int) - ((i : Int) + 1)).toNat + ((m2 : Int) - (k : Int)).toNat < ((m : Int) - (i : Int)).toNat + ((m2 : Int) - (k : Int)).toNat) := by
    intro hi hk
    exact ldI (i' := i) R1 rfl hi (stepA hi hk _ fun p' c' h' A' o' s' e' => ⟨⟨by omega, by omega⟩, ⟨i + 1, k, _, A', by push_cast; rfl, rfl, by omega, by omega, by omega, o', s', e'⟩, by omega⟩)
  have doB : ∀ (hk : k < m2) (hi : i = m ∨ (i < m ∧ ¬ xs.getD i 0 < ys.getD k 0)), (0 ≤ (k : Int) ∧ (k : Int) < (m2 : Int)) ∧ NN q2 fun a => ∃ n1, cell h7 (a.add (Int.toNat (k : Int) * 1)) = some (.int .i64 n1) ∧ New h7 (.cells #[.int .i64 n1] 3) fun b h2 => yaan Tryz.prog 23 23 (.slice p n c) (.slice (some ⟨b, 0, none⟩) 1 1) h2 (slK fun a2 l1 c1 h3 => InR ((k : Int) + 1) ∧ (∃ (i' k' : Nat) (out : List Int) (A : Bag), (i : Int) = i' ∧ (k : Int) + 1 = k' ∧ i' ≤ m ∧ k' ≤ m2 ∧ l1 = i' + k' ∧ Sl TI a2 l1 c1 out A ∧ St h h3 A ∧ out ++ yabe (xs.drop i') (ys.drop k') = yabe xs ys) ∧ ((m : Int) - (i : Int)).toNat + ((m2 : Int) - ((k : Int) + 1)).toNat < ((m : Int) - (i : Int)).toNat + ((m2 : Int) - (k : Int)).toNat) := by
    intro hk hi
    exact ldI (i' := k) R2 rfl hk (stepB hk hi _ fun p' c' h' A' o' s' e' => ⟨⟨by omega, by omega⟩, ⟨i, k + 1, _, A', rfl, by push_cast; rfl, by omega, by omega, by omega, o', s', e'⟩, by omega⟩)
  have body : (i < m ∨ k < m2) → zdc_b2 q m d q2 m2 d2 p n c (i : Int) (k : Int) h7 (fun s' h' => (∃ (i k : Nat) (out : List Int) (A : Bag), s'.2.1 = i ∧ s'.2.2.1 = k ∧ i ≤ m ∧ k ≤ m2 ∧ s'.1.2.1 = i + k ∧ Sl TI s'.1.1 s'.1.2.1 s'.1.2.2 out A ∧ St h h' A ∧ out ++ yabe (xs.drop i) (ys.drop k) = yabe xs ys) ∧ (m - s'.2.1).toNat + (m2 - s'.2.2.1).toNat < (m - (i : Int)).toNat + (m2 - (k : Int)).toNat) (fun v h' => ∃ p c A, v = .slice p (m + m2) c ∧ Sl TI p (m + m2) c (yabe xs ys) A ∧ St h h' A) := by
    intro hlt
    rw [zdc_b2]
    refine condP (fun hkm => doA (by omega) (Or.inl (by omega))) (fun hkm => condP (fun him => ?_) (fun him => doB (by omega) (Or.inl (by omega))))
    refine ldI (i' := i) R1 rfl (by omega) (ldI (i' := k) R2 rfl (by omega) (condP (fun hc => doA (by omega) (Or.inr ⟨by omega, hc⟩)) (fun hc => doB (by omega) (Or.inr ⟨by omega, hc⟩))))
  refine condP (fun hlt => body (by omega)) (fun hge => condP (fun hlt => body (by omega)) (fun hge2 => ?_))
  rw [zdc_b3]
  have ei : i = m := by omega
  have ek : k = m2 := by omega
  rw [show xs.drop i = [] from List.drop_of_length_le (by omega), show ys.drop k = [] from List.drop_of_length_le (by omega), yabe, List.append_nil] at e
  subst ei ek e hn
  exact ⟨p, c, A, rfl, o, s⟩
end
end Go.Proofs.YtdlkohenamlnaaaGreat
/- Layer 3: partitions, of the reference: the step. -/
namespace Go.Proofs.YtdlkohenamlnaaaGreat
open Go Go.Sx
theorem cellI {h : Hp} {q : OA} {m i : Nat} {zs : List Int} (r : RdT TI h q m zs) (hi : i < m) : ∃ ad, q = some ad ∧ cell h (ad.add (i * 1)) = some (.int .i64 (zs.getD i 0)) := by
  obtain ⟨ad, e, hc⟩ := r.at_ (i := i) hi
  refine ⟨ad, e, ?_⟩
  have := hc 0 (by decide)
  simpa [yacj] using this
theorem yagr {l : List (List Int)} (h : tot l ≤ 500) (i : Nat) : (l.getD i []).length ≤ 500 := Nat.le_trans yagi h
section
variable {h0 h : Hp} {b1 b2 b3 b4 : Nat} {l : List (List Int)} {p q : OA} {n c m cc : Nat} {code : Int} {zs : List Int} {B G : Bag} {x0 x1 y0 y1 y2 : Value}
theorem yaqy (na : RowsA (p, n, c) l B) (s : St h0 h (refA b1 b2 b3 b4 4 p n c code q m cc x0 x1 y0 y1 y2 B G)) (hn : n ≤ 1000) (ht : tot l ≤ 500) (hc : code = 2 ∨ code = 3) {a b : Nat} (ha : a < n) (hb : b < n) :
    zdi_b2 (some ⟨b1, 0, none⟩) (some ⟨b2, 0, none⟩) (some ⟨b3, 0, none⟩) (some ⟨b4, 0, none⟩) (a : Int) (b : Int) h (StepP h0 G 4 (if code = 3 then l else if a = b then l else uniR l a b) 0 (if code = 3 then (if a = b then 1 else 0) else if a = b then 0 else 1)) := by
  have hl : l.length = n := yaaw na
  rw [zdi_b2]
  delta refA at s
  refine ⟨_, s.ld0, condP (fun h3 => ?_) (fun h3 => ?_)⟩
  · rw [if_pos h3, if_pos h3]
    refine condP (fun he => ?_) (fun he => ?_)
    · rw [if_pos (by omega)]; exact boxY na s
    · rw [if_neg (by omega)]; exact boxY na s
  rw [if_neg h3, if_neg h3]
  refine condP (fun he => ?_) (fun he => ?_)
  · rw [if_pos (by omega), if_pos (by omega)]; exact boxY na s
  rw [if_neg (show ¬ a = b by omega), if_neg (show ¬ a = b by omega)]
  refine ⟨_, _, _, s.ldB, _, _, _, s.ldB, yacn na (s.at B) rfl ha fun qa da ra => ⟨_, _, _, s.ldB, yacn na (s.at B) rfl hb fun qb db rb => ?_⟩⟩
  have la := yagr ht a
  have lb := yagr ht b
  refine (yatx ra rb (by omega) (by omega)).mono fun v h1 ⟨q', d', A', hv, o', t'⟩ => ⟨_, _, _, hv, rfl, ?_⟩
  have s1 := s.join t'
  have s2 : St h0 h1 (B + (A' + (cA b1 [.int .i64 4, .slice p n c] 66 + (cA b2 [.int .i64 code, .slice q m cc] 25 + (cA b3 [x0, x1] 66 + (cA b4 [y0, y1, y2] 61 + G)))))) := s1.to
  have emin : (if (b : Int) < (a : Int) then (b : Int) else (a : Int)) = ((min a b : Nat) : Int) := by split <;> omega
  have emax : (if (a : Int) < (b : Int) then (b : Int) else (a : Int)) = ((max a b : Nat) : Int) := by split <;> omega
  rw [emin, emax]
  refine ⟨⟨_, _, _, s2.ldB, rfl⟩, yaub (i' := min a b) na o' s2 rfl (by omega) fun h3 B' na' s3 => ⟨_, _, _, s3.ldB, ?_⟩⟩
  refine (yafr (i := max a b) na' (s3.at B') (by omega) (by omega)).mono fun v h' ⟨q2, d2, B2, hv, na2, s⟩ => ⟨_, _, _, hv, wrC1 s fun h10 s => ?_⟩
  exact boxY (b2 := b2) (p := q2) (c := d2) (cc := cc) (q := q) (m := m) (code := code) (x0 := x0) (x1 := x1) (y0 := y0) (y1 := y1) (y2 := y2) na2 (by delta refA; exact s.to)
theorem ybaq (na : RowsA (p, n, c) l B) (rz : RdS h0 G TI q m zs) (s : St h0 h (B + G)) (hn : n ≤ 1000) (ht : tot l ≤ 500) (hc : 1 ≤ code ∧ code ≤ 5) (h1 : code = 4 → 1 ≤ zs.length) (h2 : code = 2 ∨ code = 3 → 2 ≤ zs.length) :
    yaae Tryz.prog 80 #[.agg #[.int .i64 4, .slice p n c], .agg #[.int .i64 code, .slice q m cc]] h (SetsP h0 G l code zs) := by
  have hl : l.length = n := yaaw na
  refine zdi_call ?_
  rw [zdi_b0]
  refine s.new (cs := [_, _]) fun b1 h3 _ s => s.new (cs := [_, _]) fun b2 h4 _ s => s.new (cs := [_, _]) fun b3 h5 _ s => s.new (cs := [_, _, _]) fun b4 h6 _ s => ?_
  have rzG : ∀ h' {p n c} {A : Bag}, St h0 h' (refA b1 b2 b3 b4 4 p n c code q m cc (.int .i64 0) (.slice none 0 0) (.int .i64 0) (.int .i64 0) (.slice none 0 0) A G) → RdT TI h' q m zs := fun h' {p n c A} s => rz h' (cA b1 [.int .i64 4, .slice p n c] 66 + (cA b2 [.int .i64 code, .slice q m cc] 25 + (cA b3 [.int .i64 0, .slice none 0 0] 66 + (cA b4 [.int .i64 0, .int .i64 0, .slice none 0 0] 61 + A)))) (by delta refA at s; exact s.to)
  refine ⟨_, _, _, _, s.ld0, s.ldB, ?_⟩
  refine (ybaw (k := 4) (Or.inl rfl) na (s.at B) hn (by omega)).mono fun v h7 ⟨hv, s⟩ => ⟨_, hv, ?_⟩
  have s : St h0 h7 (cA b1 [.int .i64 4, .slice p n c] 66 + (cA b2 [.int .i64 code, .slice q m cc] 25 + (cA b3 [.int .i64 0, .slice none 0 0] 66 + (cA b4 [.int .i64 0, .int .i64 0, .slice none 0 0] 61 + (B + G))))) := s.to
  refine ⟨_, s.ld0, condP (fun hp => condP (fun hf => ?_) (fun hf => ?_)) (fun hp => condP (fun h5 => ?_) (fun h5 => condP (fun h4 => ?_) (fun h4 => ?_)))⟩
  · have e : setsS l code zs = (l, 4, 0) := by subst hp; show (if tot l = 500 then (l, 4, 0) else _) = _; rw [if_pos (by omega)]
    rw [SetsP, e]
    exact boxF na s
  · have e : setsS l code zs = (l ++ [[(tot l : Int)]], 0, (tot l : Int)) := by subst hp; show (if tot l = 500 then (l, 4, 0) else _) = _; rw [if_neg (by omega)]
    rw [SetsP, e]
    refine ⟨_, _, _, s.ldB, s.new (cs := [_]) fun b5 h8 _ s => ?_⟩
    have o5 : Sl TI (some ⟨b5, 0, none⟩) 1 1 [(tot l : Int)] (cA b5 [.int .i64 (tot l : Int)] 3) := Sl.of_blk (T := TI) rfl rfl
    refine yagh (s.to (B := B + (cA b5 [.int .i64 (tot l : Int)] 3 + (cA b1 [.int .i64 4, .slice p n c] 66 + (cA b2 [.int .i64 code, .slice q m cc] 25 + (cA b3 [.int .i64 0, .slice none 0 0] 66 + (cA b4 [.int .i64 0, .int .i64 0, .slice none 0 0] 61 + G))))))) na o5 rfl (by omega) fun p' c' h' A' na' s => wrC1 s fun h10 s => ?_
    exact boxY (b2 := b2) (p := p') (c := c') (cc := cc) (q := q) (m := m) (code := code) (x0 := .int .i64 0) (x1 := .slice none 0 0) (y0 := .int .i64 0) (y1 := .int .i64 0) (y2 := .slice none 0 0) na' (by delta refA; exact s.to)
  · have e : setsS l code zs = (l, 0, (l.length : Int)) := by subst h5; rfl
    rw [SetsP, e, hl]
    have r := boxY (z := (n : Int)) na s
    obtain ⟨n2, a2, L2, C2, c1, c2, r⟩ := r
    exact ⟨_, _, _, _, c1, c2, _, _, _, s.ldB, r⟩
  · have e : setsS l code zs = (if clsZ l (zs.getD 0 0) < 0 then (l, 12, 0) else (l, 0, ((l.getD (clsN l (zs.getD 0 0)) []).length : Int))) := by subst h4; rfl
    rw [SetsP, e]
    have hrz := rzG h7 (by delta refA; exact s)
    have hzl := hrz.len
    refine ⟨_, _, _, _, s.ld0, s.ldB, _, _, _, s.ldB, ldI (i' := 0) hrz rfl (by have := h1 h4; omega) ?_⟩
    refine (yakx na (s.at B) hn (by omega)).mono fun v h8 ⟨hv, s⟩ => ⟨_, hv, ?_⟩
    have s : St h0 h8 (cA b1 [.int .i64 4, .slice p n c] 66 + (cA b2 [.int .i64 code, .slice q m cc] 25 + (cA b3 [.int .i64 0, .slice none 0 0] 66 + (cA b4 [.int .i64 0, .int .i64 0, .slice none 0 0] 61 + (B + G))))) := s.to
    refine condP (fun hneg => ?_) (fun hneg => ?_)
    · rw [if_pos hneg]; exact boxF na s
    · rw [if_neg hneg]
      obtain ⟨e1, e2⟩ := yadw hneg
      rw [e1]
      obtain ⟨n2, a2, L2, C2, c1, c2, r⟩ := boxY (z := ((l.getD (clsN l (zs.getD 0 0)) []).length : Int)) na s
      exact ⟨_, _, _, _, c1, c2, _, _, _, s.ldB, yacn na (s.at B) rfl (by omega) fun q' d' _ => r⟩
  · have h23 : code = 2 ∨ code = 3 := by omega
    have e : setsS l code zs = (if clsZ l (zs.getD 0 0) < 0 ∨ clsZ l (zs.getD 1 0) < 0 then (l, 12, 0) else (if code = 3 then l else if clsN l (zs.getD 0 0) = clsN l (zs.getD 1 0) then l else uniR l (clsN l (zs.getD 0 0)) (clsN l (zs.getD 1 0)), 0, if code = 3 then (if clsN l (zs.getD 0 0) = clsN l (zs.getD 1 0) then 1 else 0) else if clsN l (zs.getD 0 0) = clsN l (zs.getD 1 0) then 0 else 1)) := by
      unfold setsS
      rw [if_neg hp, if_neg h5, if_neg h4]
      split
      · rfl
      · by_cases h3 : code = 3
        · rw [if_pos h3, if_pos h3, if_pos h3]
        · rw [if_neg h3, if_neg h3, if_neg h3]
          split <;> rfl
    rw [SetsP, e, zdi_b1]
    have h2 := h2 h23
    have hrz := rzG h7 (by delta refA; exact s)
    have hzl := hrz.len
    obtain ⟨ad, had, c0⟩ := cellI hrz (i := 1) (by omega)
    refine ⟨_, _, _, _, s.ld0, s.ldB, _, _, _, s.ldB, ldI (i' := 0) hrz rfl (by omega) ⟨_, _, _, _, s.ld0, s.ldB, _, _, _, s.ldB, ⟨by omega, by omega⟩, yakn had ⟨_, c0, ?_⟩⟩⟩
    refine (yakx na (s.at B) hn (by omega)).mono fun v h8 ⟨hv, s⟩ => ⟨_, hv, ?_⟩
    have s : St h0 h8 (cA b1 [.int .i64 4, .slice p n c] 66 + (cA b2 [.int .i64 code, .slice q m cc] 25 + (cA b3 [.int .i64 0, .slice none 0 0] 66 + (cA b4 [.int .i64 0, .int .i64 0, .slice none 0 0] 61 + (B + G))))) := s.to
    have hrz8 := rzG h8 (by delta refA; exact s)
    obtain ⟨ad8, had8, c8⟩ := cellI hrz8 (i := 1) (by omega)
    rw [had] at had8
    cases had8
    refine ⟨⟨_, c8, rfl⟩, ⟨_, _, _, s.ldB, rfl⟩, ⟨_, _, _, _, s.ld0, s.ldB, rfl⟩, ?_⟩
    refine (yakx na (s.at B) hn (by omega)).mono fun v h9 ⟨hv, s⟩ => ⟨_, hv, ?_⟩
    have s : St h0 h9 (cA b1 [.int .i64 4, .slice p n c] 66 + (cA b2 [.int .i64 code, .slice q m cc] 25 + (cA b3 [.int .i64 0, .slice none 0 0] 66 + (cA b4 [.int .i64 0, .int .i64 0, .slice none 0 0] 61 + (B + G))))) := s.to
    refine condP (fun ha => ?_) (fun ha => condP (fun hb => ?_) (fun hb => ?_))
    · rw [if_pos (Or.inl ha)]; exact boxF na s
    · rw [if_pos (Or.inr hb)]; exact boxF na s
    rw [if_neg (by omega)]
    obtain ⟨e1, e2⟩ := yadw ha
    obtain ⟨e3, e4⟩ := yadw hb
    rw [e1, e3]
    exact yaqy na (by delta refA; exact s) hn ht h23 (by omega) (by omega)
end
end Go.Proofs.YtdlkohenamlnaaaGreat
/- Layer 3: partitions, of the model. -/
namespace Go.Proofs.YtdlkohenamlnaaaGreat
open Go Go.Sx
theorem yamk {ys : List Int} (h : ys.Pairwise (fun x y => ¬ (fun x y : Int => x < y) y x)) : ys.Pairwise (· ≤ ·) := h.imp fun h => Int.not_lt.1 h
theorem yago {xs ys zs : List Int} (h1 : xs.Pairwise (· ≤ ·)) (h2 : ys.Pairwise (· ≤ ·)) (h3 : zs.Pairwise (· ≤ ·)) (hp : zs.Perm (xs ++ ys)) : zs = yabe xs ys :=
  List.Perm.eq_of_pairwise (fun a b _ _ h1 h2 => Int.le_antisymm h1 h2) h3 (yacg _ _ h1 h2) (hp.trans (yabm _ _).symm)
theorem yahh {l : List (List Int)} (h : ∀ r ∈ l, r.Pairwise (· ≤ ·)) (i : Nat) : (l.getD i []).Pairwise (· ≤ ·) := by
  rcases Nat.lt_or_ge i l.length with hi | hi
  · exact h _ (by rw [yaaf hi]; exact List.getElem_mem hi)
  · rw [List.getD_eq_getElem?_getD, List.getElem?_eq_none hi]; exact List.Pairwise.nil
section
variable {h0 h : Hp} {b1 b2 : Nat} {l : List (List Int)} {p q : OA} {n c m cc : Nat} {code : Int} {zs : List Int} {B G : Bag} {y0 y1 y2 : Value}
theorem yawj (b : Bool) (h : Hp) : yaae Tryz.prog 170 #[.bool b] h (fun v h' => v = .int .i64 (if b = true then 1 else 0) ∧ h' = h) := by
  refine zbl_call ?_
  rw [zbl_b0]
  cases b
  · exact yaam rfl ⟨rfl, rfl⟩
  · exact yaax rfl ⟨rfl, rfl⟩
theorem yahl (hso : ∀ r ∈ l, r.Pairwise (· ≤ ·)) (na : RowsA (p, n, c) l B) (s : St h0 h (modA b1 b2 code q m cc y0 y1 y2 B G)) (hn : n ≤ 1000) (ht : tot l ≤ 500) {a b : Nat} (hab : a < b) (hb : b < n) :
    zbj_b8 p n c (some ⟨b2, 0, none⟩) (a : Int) (b : Int) h (yafm h0 G (cutL (l.set a (yabe (l.getD a []) (l.getD b []))) b) 0 1) := by
  have hl : l.length = n := yaaw na
  rw [zbj_b8]
  delta modA at s
  have na0 := na
  obtain ⟨hs, B0, B1, rfl, h1, h2⟩ := na
  have hsl : hs.length = n := h1.len
  obtain ⟨Ai, Br, rfl, oa, hset⟩ := AllH.editH h2 (i := a) (by omega)
  have oal : (l.getD a []).length = (hs.getD a TR.d).2.1 := oa.len
  have la := yagr ht a
  have lb := yagr ht b
  refine ldH (i' := a) h1 (s.at B0) rfl (by omega) (yacn na0 (s.at (B0 + (Ai + Br))) rfl hb fun qb db rb => ?_)
  refine yaat (F := B0 + (Br + (cA b2 [y0, y1, y2] 61 + (cA b1 [.int .i64 code, .slice q m cc] 25 + G)))) yade s.to oa rb (by omega) fun p' c' h' A' o' s' => ?_
  refine wrH (i' := a) (x := (p', (hs.getD a (none, 0, 0)).2.1 + (l.getD b []).length, c')) (F := A' + (Br + (cA b2 [y0, y1, y2] 61 + (cA b1 [.int .i64 code, .slice q m cc] 25 + G)))) h1 s'.to rfl (by omega) fun h3 B3 o3 s3 => ?_
  have na3 : RowsA (p, n, c) (l.set a (l.getD a [] ++ l.getD b [])) (B3 + (A' + Br)) := ⟨_, B3, A' + Br, rfl, o3, hset _ _ _ o'⟩
  have s3 : St h0 h3 (B3 + (A' + Br) + (cA b2 [y0, y1, y2] 61 + (cA b1 [.int .i64 code, .slice q m cc] 25 + G))) := s3.to
  refine yadi na3 s3 (by omega) (by omega) fun q4 l4 d4 Bi4 Br4 o4 hB4 hset4 => ?_
  rw [Int.toNat_natCast, yafu (by omega), if_pos rfl] at o4
  have o4l : (l.getD a [] ++ l.getD b []).length = l4 := o4.len
  rw [List.length_append] at o4l
  rw [hB4] at s3
  refine (ybah (P := fun _ => True) (F := Br4 + (cA b2 [y0, y1, y2] 61 + (cA b1 [.int .i64 code, .slice q m cc] 25 + G))) s3.to o4 (fun _ _ => trivial) (by omega)).mono fun v h5 ⟨hv, ys, A5, o5, s5, hp, hsrt⟩ => ⟨hv, ⟨by omega, by omega⟩, ?_⟩
  have na5 := hset4 _ _ o5
  rw [Int.toNat_natCast, List.set_set, yago (yahh hso a) (yahh hso b) (yamk hsrt) hp] at na5
  refine (yaeo (G := cA b2 [y0, y1, y2] 61 + (cA b1 [.int .i64 code, .slice q m cc] 25 + G)) (i := b) na5 s5.to hb rfl (by omega)).mono fun v h' ⟨B', hv, na', s⟩ => ⟨_, _, _, hv, ?_⟩
  exact mboxT (b2 := b2) (D := cA b1 [.int .i64 code, .slice q m cc] 25) na' s.to (yaap _ _)
theorem yawx (hso : ∀ r ∈ l, r.Pairwise (· ≤ ·)) (na : RowsA (p, n, c) l B) (rz : RdS h0 G TI q m zs) (s : St h0 h (B + G)) (hn : n ≤ 1000) (ht : tot l ≤ 500) (hc : 1 ≤ code ∧ code ≤ 5) (h1 : code = 4 → zs.length = 1) (h2 : code = 2 ∨ code = 3 → zs.length = 2) :
    yaae Tryz.prog 140 #[.slice p n c, .agg #[.int .i64 code, .slice q m cc]] h (yaoe h0 G l code zs) := by
  have hl : l.length = n := yaaw na
  refine zbj_call ?_
  rw [zbj_b0]
  refine s.new (cs := [_, _]) fun b1 h3 _ s => s.new (cs := [_, _, _]) fun b2 h4 _ s => ?_
  have rzG : ∀ h' {A : Bag}, St h0 h' (modA b1 b2 code q m cc (.int .i64 0) (.int .i64 0) (.slice none 0 0) A G) → RdT TI h' q m zs := fun h' {A} s => rz h' (cA b2 [.int .i64 0, .int .i64 0, .slice none 0 0] 61 + (cA b1 [.int .i64 code, .slice q m cc] 25 + A)) (by delta modA at s; exact s.to)
  refine ⟨_, s.ld0, condP (fun h5 => ?_) (fun h5 => condP (fun hp => ?_) (fun hp => ?_))⟩
  · have e : setsS l code zs = (l, 0, (l.length : Int)) := by subst h5; rfl
    rw [yaoe, e, hl]
    exact mboxT na s (yaap _ _)
  · refine ⟨fun x h' => h' = h4 ∧ ∃ i : Nat, x.2.1 = i ∧ i ≤ n ∧ x.1 = (tot (l.take i) : Int), fun x _ => (n - x.2.1).toNat, ⟨rfl, 0, rfl, Nat.zero_le _, by simp [tot]⟩, ?_⟩
    rintro ⟨x, y, _⟩ h7 ⟨rfl, i, rfl, hi, hx⟩
    dsimp only at hx ⊢
    subst hx
    rw [zbj_b1]
    refine condP (fun hlt => ?_) (fun hge => ?_)
    · refine yacn na (s.at B) rfl (by omega) fun q d r => ?_
      have := yaic (rows := l) (i := i) (by omega)
      have := yate (rows := l) (i + 1)
      refine ⟨⟨by omega, by omega⟩, ?_⟩
      rw [zbj_b3]
      exact ⟨⟨by omega, by omega⟩, ⟨rfl, i + 1, by push_cast; rfl, by omega, by push_cast; omega⟩, by dsimp only; omega⟩
    · rw [zbj_b4, List.take_of_length_le (by omega)]
      refine condP (fun hf => ?_) (fun hf => ?_)
      · have e : setsS l code zs = (l, 4, 0) := by subst hp; show (if tot l = 500 then (l, 4, 0) else _) = _; rw [if_pos (by omega)]
        rw [yaoe, e]
        exact mboxT na s (yaas _ _)
      · have e : setsS l code zs = (l ++ [[(tot l : Int)]], 0, (tot l : Int)) := by subst hp; show (if tot l = 500 then (l, 4, 0) else _) = _; rw [if_neg (by omega)]
        rw [yaoe, e]
        refine s.new (cs := [_]) fun b5 h8 _ s => ?_
        have o5 : Sl TI (some ⟨b5, 0, none⟩) 1 1 [(tot l : Int)] (cA b5 [.int .i64 (tot l : Int)] 3) := Sl.of_blk (T := TI) rfl rfl
        refine yagh (s.to (B := B + (cA b5 [.int .i64 (tot l : Int)] 3 + (cA b2 [.int .i64 0, .int .i64 0, .slice none 0 0] 61 + (cA b1 [.int .i64 code, .slice q m cc] 25 + G))))) na o5 rfl (by omega) fun p' c' h' A' na' s => ?_
        exact mboxT (b2 := b2) (D := cA b1 [.int .i64 code, .slice q m cc] 25) na' s.to (yaap _ _)
  have hrz := rzG h4 (by delta modA; exact s)
  have hzl := hrz.len
  rw [zbj_b2]
  refine ⟨_, _, _, s.ldB, ldI (i' := 0) hrz rfl (by omega) ?_⟩
  refine (yamv na (s.at B) hn (by omega)).mono fun v h8 ⟨hv, s⟩ => ⟨_, hv, ?_⟩
  have s : St h0 h8 (cA b2 [.int .i64 0, .int .i64 0, .slice none 0 0] 61 + (cA b1 [.int .i64 code, .slice q m cc] 25 + (B + G))) := s.to
  refine ⟨_, _, _, s.ldB, condP (fun h1m => ?_) (fun h1m => ?_)⟩
  · have h23 : code = 2 ∨ code = 3 := by omega
    have e : setsS l code zs = (if clsZ l (zs.getD 0 0) < 0 ∨ clsZ l (zs.getD 1 0) < 0 then (l, 12, 0) else if code = 3 then (l, 0, if clsN l (zs.getD 0 0) = clsN l (zs.getD 1 0) then 1 else 0) else if clsN l (zs.getD 0 0) = clsN l (zs.getD 1 0) then (l, 0, 0) else (uniR l (clsN l (zs.getD 0 0)) (clsN l (zs.getD 1 0)), 0, 1)) := by
      unfold setsS
      rw [if_neg hp, if_neg h5, if_neg (by omega)]
    rw [yaoe, e]
    have hrz8 := rzG h8 (by delta modA; exact s)
    refine ⟨_, _, _, s.ldB, ldI (i' := 1) hrz8 rfl (by omega) ?_⟩
    refine (yamv na (s.at B) hn (by omega)).mono fun v h9 ⟨hv, s⟩ => ⟨_, hv, ?_⟩
    have s : St h0 h9 (cA b2 [.int .i64 0, .int .i64 0, .slice none 0 0] 61 + (cA b1 [.int .i64 code, .slice q m cc] 25 + (B + G))) := s.to
    rw [zbj_b5]
    refine condP (fun ha => ?_) (fun ha => condP (fun hb => ?_) (fun hb => ?_))
    · rw [if_pos (Or.inl ha)]; exact mboxT na s (yaas _ _)
    · rw [if_pos (Or.inr hb)]; exact mboxT na s (yaas _ _)
    rw [if_neg (by omega)]
    obtain ⟨e1, e2⟩ := yadw ha
    obtain ⟨e3, e4⟩ := yadw hb
    rw [e1, e3]
    generalize clsN l (zs.getD 0 0) = a at e2 ⊢
    generalize clsN l (zs.getD 1 0) = b at e4 ⊢
    rw [zbj_b6]
    refine ⟨_, s.ld0, yaam (decide_eq_false (by omega)) (condP (fun h3 => ?_) (fun h3 => ?_))⟩
    · rw [if_pos h3]
      refine (yawj _ _).mono fun v h10 ⟨hv, hh⟩ => ⟨_, hv, ?_⟩
      subst hh
      have e5 : (if decide ((a : Int) = (b : Int)) = true then (1 : Int) else 0) = if a = b then 1 else 0 := by
        by_cases h : a = b
        · rw [if_pos h, if_pos (decide_eq_true (by omega))]
        · rw [if_neg h, if_neg (by rw [decide_eq_false (by omega)]; decide)]
      rw [e5]
      exact mboxT na s (yaap _ _)
    · rw [if_neg h3, zbj_b7]
      refine condP (fun he => ?_) (fun he => ?_)
      · rw [if_pos (by omega)]; exact mboxT na s (yaap _ _)
      rw [if_neg (by omega)]
      refine condP (fun hba => ?_) (fun hba => ?_)
      · have r := yahl (b1 := b1) (b2 := b2) (code := code) (q := q) (m := m) (cc := cc) (y0 := .int .i64 0) (y1 := .int .i64 0) (y2 := .slice none 0 0) (a := b) (b := a) hso na (by delta modA; exact s) hn ht (by omega) (by omega)
        have e6 : yabe (l.getD b []) (l.getD a []) = yabe (l.getD a []) (l.getD b []) := by
          refine yago (yahh hso a) (yahh hso b) (yacg _ _ (yahh hso b) (yahh hso a)) ((yabm _ _).trans List.perm_append_comm)
        rw [e6] at r
        rw [uniR, show min a b = b by omega, show max a b = a by omega]
        exact r
      · have r := yahl (b1 := b1) (b2 := b2) (code := code) (q := q) (m := m) (cc := cc) (y0 := .int .i64 0) (y1 := .int .i64 0) (y2 := .slice none 0 0) (a := a) (b := b) hso na (by delta modA; exact s) hn ht (by omega) (by omega)
        rw [uniR, show min a b = a by omega, show max a b = b by omega]
        exact r
  · have h4 : code = 4 := by omega
    have e : setsS l code zs = (if clsZ l (zs.getD 0 0) < 0 then (l, 12, 0) else (l, 0, ((l.getD (clsN l (zs.getD 0 0)) []).length : Int))) := by subst h4; rfl
    rw [yaoe, e, zbj_b5]
    refine condP (fun ha => ?_) (fun ha => condP (fun hb => absurd hb ha) (fun _ => ?_))
    · rw [if_pos ha]; exact mboxT na s (yaas _ _)
    rw [if_neg ha, zbj_b6]
    obtain ⟨e1, e2⟩ := yadw ha
    rw [e1]
    exact ⟨_, s.ld0, yaax (decide_eq_true h4) (yacn na (s.at B) rfl (by omega) fun q' d' _ => mboxT na s (yaap _ _))⟩
end
end Go.Proofs.YtdlkohenamlnaaaGreat
/- Plain lists: stable sorting. -/
namespace Go.Sx
variable {α : Type} {d : α}
noncomputable def like (lt : α → α → Prop) (z y : α) : Bool := @decide (¬ lt y z ∧ ¬ lt z y) (Classical.propDecidable _)
def Stb (lt : α → α → Prop) (xs ys : List α) : Prop := ys.Perm xs ∧ ∀ z, ys.filter (like lt z) = xs.filter (like lt z)
theorem Stb.refl {lt : α → α → Prop} (xs : List α) : Stb lt xs xs := ⟨.refl _, fun _ => rfl⟩
theorem Stb.trans {lt : α → α → Prop} {xs ys zs : List α} (h1 : Stb lt xs ys) (h2 : Stb lt ys zs) : Stb lt xs zs := ⟨h2.1.trans h1.1, fun z => (h2.2 z).trans (h1.2 z)⟩
section
variable {lt : α → α → Prop} (o : OrdP lt)
end
end Go.Sx
/- Plain lists: levels of a wavelet tree. -/
namespace Go.Sx
def up (k : Nat) (x : Int) : Int := x / 2 ^ k
end Go.Sx
/- Plain lists: ranges of a list, by the upper bits of the elements. -/
namespace Go.Sx
end Go.Sx
/- Weighted points of the plane in plain lists. -/
namespace Go.Sx
abbrev Pt := Int × Int × Int
def inB (x1 x2 y1 y2 : Int) (p : Pt) : Bool := decide (x1 ≤ p.1 ∧ p.1 ≤ x2 ∧ y1 ≤ p.2.1 ∧ p.2.1 ≤ y2)
def wSum (l : List Pt) : Int := (l.map fun p => p.2.2).sum
theorem yatv (p : Pt) (l : List Pt) : wSum (p :: l) = p.2.2 + wSum l := by simp [wSum]
theorem yavy (l m : List Pt) : wSum (l ++ m) = wSum l + wSum m := by simp [wSum]
def cntB (x1 x2 y1 y2 : Int) (l : List Pt) : Int := ((l.filter (inB x1 x2 y1 y2)).length : Int)
def sumB (x1 x2 y1 y2 : Int) (l : List Pt) : Int := wSum (l.filter (inB x1 x2 y1 y2))
section
variable {x1 x2 y1 y2 : Int}
theorem yarf (l m : List Pt) : cntB x1 x2 y1 y2 (l ++ m) = cntB x1 x2 y1 y2 l + cntB x1 x2 y1 y2 m := by unfold cntB; rw [List.filter_append, List.length_append]; push_cast; rfl
theorem yarh (l m : List Pt) : sumB x1 x2 y1 y2 (l ++ m) = sumB x1 x2 y1 y2 l + sumB x1 x2 y1 y2 m := by unfold sumB; rw [List.filter_append, yavy]
end
section
variable {y1 y2 : Int}
end
def ptLt (p q : Pt) : Prop := p.1 < q.1 ∨ (p.1 = q.1 ∧ p.2.1 < q.2.1)
instance (p q : Pt) : Decidable (ptLt p q) := inferInstanceAs (Decidable (_ ∨ _))
theorem yasg {p q r : Pt} (h : ptLt p q) (h' : ptLt q r) : ptLt p r := by unfold ptLt at *; omega
def PtsS (l : List Pt) : Prop := l.Pairwise ptLt
def place (p : Pt) : Int × Int := (p.1, p.2.1)
end Go.Sx
/- Layer 3: points, of the model. -/
namespace Go.Proofs.YtdlkohenamlnaaaGreat
open Go Go.Sx
abbrev dPt : Pt := (0, 0, 0)
abbrev row3 (p : Pt) : List Int := [p.1, p.2.1, p.2.2]
abbrev WOk (l : List Pt) : Prop := ∀ x ∈ l, -1048576 ≤ x.2.2 ∧ x.2.2 ≤ 1048576
theorem yahk {l : List Pt} {i : Nat} (h : i < l.length) : l.take (i + 1) = l.take i ++ [l.getD i dPt] := by
  rw [List.take_succ_eq_append_getElem h, yaaf h]
theorem yamu (x1 x2 y1 y2 : Int) (p : Pt) (l : List Pt) : cntB x1 x2 y1 y2 (p :: l) = (if inB x1 x2 y1 y2 p = true then 1 else 0) + cntB x1 x2 y1 y2 l := by
  unfold cntB
  rw [List.filter_cons]
  split
  · rw [List.length_cons]; push_cast; omega
  · omega
theorem yaip (x1 x2 y1 y2 : Int) (p : Pt) (l : List Pt) : sumB x1 x2 y1 y2 (p :: l) = (if inB x1 x2 y1 y2 p = true then p.2.2 else 0) + sumB x1 x2 y1 y2 l := by
  unfold sumB
  rw [List.filter_cons]
  split
  · rw [yatv]
  · omega
theorem yakb {a b y1 y2 : Int} {l : List Pt} (hw : WOk l) : -(1048576 * (l.length : Int)) ≤ sumB a b y1 y2 l ∧ sumB a b y1 y2 l ≤ 1048576 * (l.length : Int) := by
  induction l with
  | nil => exact ⟨Int.le_refl _, Int.le_refl _⟩
  | cons p l ih =>
    have := ih fun x hx => hw x (List.mem_cons_of_mem _ hx)
    have := hw p (List.mem_cons_self ..)
    rw [yaip, List.length_cons]
    push_cast
    split <;> omega
def posP (l : List Pt) (x y : Int) : Nat := (l.takeWhile fun q => decide (ptLt q (x, y, 0))).length
def yajy (l : List Pt) (x y : Int) : Prop := posP l x y < l.length ∧ (l.getD (posP l x y) dPt).1 = x ∧ (l.getD (posP l x y) dPt).2.1 = y
instance (l : List Pt) (x y : Int) : Decidable (yajy l x y) := inferInstanceAs (Decidable (_ ∧ _))
def ptsS (l : List Pt) (c : Int) (zs : List Int) : List Pt × Int × Int :=
  if c = 5 then (l, 0, (l.length : Int)) else if c = 3 then (l, 0, cntB (zs.getD 0 0) (zs.getD 1 0) (zs.getD 2 0) (zs.getD 3 0) l) else if c = 4 then (l, 0, sumB (zs.getD 0 0) (zs.getD 1 0) (zs.getD 2 0) (zs.getD 3 0) l)
  else if c = 1 then (if yajy l (zs.getD 0 0) (zs.getD 1 0) then (l, 15, 0) else if l.length = 500 then (l, 4, 0) else (l.take (posP l (zs.getD 0 0) (zs.getD 1 0)) ++ (zs.getD 0 0, zs.getD 1 0, zs.getD 2 0) :: l.drop (posP l (zs.getD 0 0) (zs.getD 1 0)), 0, 0))
  else (if yajy l (zs.getD 0 0) (zs.getD 1 0) then (cutL l (posP l (zs.getD 0 0) (zs.getD 1 0)), 0, (l.getD (posP l (zs.getD 0 0) (zs.getD 1 0)) dPt).2.2) else (l, 12, 0))
theorem yavv {l : List Pt} {p : Pt} (so : PtsS l) : ∀ x ∈ l.dropWhile (fun q => decide (ptLt q p)), ¬ ptLt x p := by
  induction l with
  | nil => intro x hx; cases hx
  | cons a l ih =>
    have h := List.pairwise_cons.1 so
    intro x hx
    rw [List.dropWhile_cons] at hx
    by_cases ha : ptLt a p
    · rw [if_pos (decide_eq_true ha)] at hx; exact ih h.2 x hx
    · rw [if_neg (by simpa using ha)] at hx
      rcases List.mem_cons.1 hx with rfl | hx
      · exact ha
      · have := h.1 x hx
        unfold ptLt at *; omega
theorem yaxc {l : List Pt} (so : PtsS l) (x y : Int) : posP l x y ≤ l.length ∧ (∀ j, j < posP l x y → ptLt (l.getD j dPt) (x, y, 0)) ∧ ∀ j, posP l x y ≤ j → j < l.length → ¬ ptLt (l.getD j dPt) (x, y, 0) := by
  unfold posP
  have e := (List.takeWhile_append_dropWhile (p := fun q : Pt => decide (ptLt q (x, y, 0))) (l := l)).symm
  have hD := yavv (p := (x, y, 0)) so
  have hT : ∀ z ∈ l.takeWhile (fun q => decide (ptLt q (x, y, 0))), ptLt z (x, y, 0) := fun z hz => of_decide_eq_true (List.all_eq_true.1 (List.all_takeWhile (p := fun q : Pt => decide (ptLt q (x, y, 0))) (l := l)) z hz)
  generalize l.takeWhile (fun q => decide (ptLt q (x, y, 0))) = T at *
  generalize l.dropWhile (fun q => decide (ptLt q (x, y, 0))) = D at *
  subst e
  refine ⟨by rw [List.length_append]; omega, fun j hj => ?_, fun j hj hjl => ?_⟩
  · rw [yaaf (by rw [List.length_append]; omega), List.getElem_append_left hj]
    exact hT _ (List.getElem_mem hj)
  · rw [yaaf hjl, List.getElem_append_right hj]
    exact hD _ (List.getElem_mem _)
theorem yaot {l : List Pt} {i : Nat} (h : i < l.length) : (l.map row3).getD i [] = row3 (l.getD i dPt) := by
  rw [List.getD_eq_getElem?_getD, List.getElem?_map, List.getElem?_eq_getElem h, List.getD_eq_getElem?_getD, List.getElem?_eq_getElem h]; rfl
theorem cmpK3 {l : List Pt} {x y : Int} {j : Nat} (hj : j < l.length) : cmpK (l.map row3) [x, y] j = if (l.getD j dPt).1 < x then -1 else if x < (l.getD j dPt).1 then 1 else if (l.getD j dPt).2.1 < y then -1 else if y < (l.getD j dPt).2.1 then 1 else 0 := by
  rw [cmpK, yaot hj]
  rfl
theorem yaht {l : List Pt} {x y : Int} {j : Nat} (hj : j < l.length) : (cmpK (l.map row3) [x, y] j < 0 ↔ ptLt (l.getD j dPt) (x, y, 0)) ∧ (cmpK (l.map row3) [x, y] j = 0 ↔ (l.getD j dPt).1 = x ∧ (l.getD j dPt).2.1 = y) := by
  rw [cmpK3 hj]
  generalize l.getD j dPt = z
  unfold ptLt
  show _ ∧ _
  by_cases h1 : z.1 < x
  · rw [if_pos h1]; constructor <;> constructor <;> intro h <;> first | omega | (dsimp only at *; omega)
  · rw [if_neg h1]
    by_cases h2 : x < z.1
    · rw [if_pos h2]; constructor <;> constructor <;> intro h <;> first | omega | (dsimp only at *; omega)
    · rw [if_neg h2]
      by_cases h3 : z.2.1 < y
      · rw [if_pos h3]; constructor <;> constructor <;> intro h <;> first | omega | (dsimp only at *; omega)
      · rw [if_neg h3]
        by_cases h4 : y < z.2.1
        · rw [if_pos h4]; constructor <;> constructor <;> intro h <;> first | omega | (dsimp only at *; omega)
        · rw [if_neg h4]; constructor <;> constructor <;> intro h <;> first | omega | (dsimp only at *; omega)
theorem take2 {zs : List Int} (h : 2 ≤ zs.length) : zs.take 2 = [zs.getD 0 0, zs.getD 1 0] := by
  match zs, h with
  | _ :: _ :: _, _ => rfl
theorem list3 {zs : List Int} (h : zs.length = 3) : zs = [zs.getD 0 0, zs.getD 1 0, zs.getD 2 0] := by
  match zs, h with
  | [_, _, _], _ => rfl
section
variable {h0 h : Hp} {b1 b2 : Nat} {l : List Pt} {p q : OA} {n c m cc : Nat} {code : Int} {zs : List Int} {B G : Bag}
abbrev PtsP (h0 : Hp) (G : Bag) (l : List Pt) (c : Int) (zs : List Int) : VK := StepP h0 G 5 ((ptsS l c zs).1.map row3) (ptsS l c zs).2.1 (ptsS l c zs).2.2
abbrev MPtsP (h0 : Hp) (G : Bag) (l : List Pt) (c : Int) (zs : List Int) : VK := yafm h0 G ((ptsS l c zs).1.map row3) (ptsS l c zs).2.1 (ptsS l c zs).2.2
theorem yalj {h0 h : Hp} {l : List Pt} {p : OA} {n c : Nat} {B G : Bag} {i : Int} {i' : Nat} {Q : OA → Nat → Nat → Prop} (na : RowsA (p, n, c) (l.map row3) B) (s : St h0 h (B + G)) (ei : i = (i' : Int)) (hi : i' < n) (hl : l.length = n)
    (hq : ∀ a C, RdT TI h a 3 (row3 (l.getD i' dPt)) → Q a 3 C) : (0 ≤ i ∧ i < (n : Int)) ∧ NN p fun a1 => ∃ a2 L1 C1, cell h (a1.add (Int.toNat i * 1)) = some (.slice a2 L1 C1) ∧ Q a2 L1 C1 := by
  subst ei
  refine Nest.at_ (d := []) na s (by omega) (by show (i' : Int) < n; omega) fun a L C Bi Br o hB => ?_
  rw [Int.toNat_natCast, yaot (by omega)] at o
  have o : Sl TI a L C (row3 (l.getD i' dPt)) Bi := o
  have st2 : St h0 h (Bi + (Br + G)) := by rw [hB] at s; exact s.to
  have hL := o.len
  obtain rfl : L = 3 := by rw [← hL]; rfl
  exact hq a C (o.rd st2)
theorem yaqr {h0 h : Hp} {b1 b2 : Nat} {l : List Pt} {p q : OA} {n c cc : Nat} {z0 z1 z2 z3 : Int} {B G : Bag} {i : Nat} {K : VK} {nx0 : Int × Int × Int × Unit → Hp → Prop} (hw : WOk l) (na : RowsA (p, n, c) (l.map row3) B) (s : St h0 h (B + G)) (hl : l.length = n) (hn : n ≤ 1000)
    (r : RdT TI h q 4 [z0, z1, z2, z3]) (c1 : cell h ((⟨b1, 0, none⟩ : Addr).add 1) = some (.slice q 4 cc)) (hi : i < n)
    (hnx : nx0 (cntB z0 z1 z2 z3 (l.take (i + 1)), sumB z0 z1 z2 z3 (l.take (i + 1)), (i : Int) + 1, ()) h) :
    zbg_b2 (cntB z0 z1 z2 z3 (l.take i)) (sumB z0 z1 z2 z3 (l.take i)) i p n c (some ⟨b1, 0, none⟩) (some ⟨b2, 0, none⟩) p n c n h nx0 K := by
  have hil : i < l.length := by omega
  have htk := yahk hil
  have e1 : cntB z0 z1 z2 z3 (l.take (i + 1)) = cntB z0 z1 z2 z3 (l.take i) + (if inB z0 z1 z2 z3 (l.getD i dPt) = true then 1 else 0) := by
    rw [htk, yarf, yamu]; show _ + (_ + 0) = _; rw [Int.add_zero]
  have e2 : sumB z0 z1 z2 z3 (l.take (i + 1)) = sumB z0 z1 z2 z3 (l.take i) + (if inB z0 z1 z2 z3 (l.getD i dPt) = true then (l.getD i dPt).2.2 else 0) := by
    rw [htk, yarh, yaip]; show _ + (_ + 0) = _; rw [Int.add_zero]
  have hb1 := yakb (a := z0) (b := z1) (y1 := z2) (y2 := z3) (l := l.take i) fun x hx => hw x (List.mem_of_mem_take hx)
  have hb2 : 0 ≤ cntB z0 z1 z2 z3 (l.take i) ∧ cntB z0 z1 z2 z3 (l.take i) ≤ i := by
    unfold cntB
    have := List.length_filter_le (inB z0 z1 z2 z3) (l.take i)
    rw [List.length_take] at this
    omega
  rw [List.length_take, Nat.min_eq_left (by omega)] at hb1
  have hwi := hw (l.getD i dPt) (by rw [yaaf hil]; exact List.getElem_mem _)
  obtain ⟨z, hz⟩ : ∃ z, l.getD i dPt = z := ⟨_, rfl⟩
  rw [hz] at e1 e2 hwi
  rw [zbg_b2]
  have no : ¬ (z0 ≤ z.1 ∧ z.1 ≤ z1 ∧ z2 ≤ z.2.1 ∧ z.2.1 ≤ z3) → zbg_b4 p n c (some ⟨b1, 0, none⟩) (some ⟨b2, 0, none⟩) (cntB z0 z1 z2 z3 (l.take i)) (sumB z0 z1 z2 z3 (l.take i)) p n c n i h nx0 K := fun hno => by
    have hf : ¬ inB z0 z1 z2 z3 z = true := by unfold inB; rw [decide_eq_true_eq]; exact hno
    rw [if_neg hf, Int.add_zero] at e1 e2
    rw [e1, e2] at hnx
    rw [zbg_b4]
    exact ⟨⟨by omega, by omega⟩, hnx⟩
  refine yaax (decide_eq_true (by omega)) (yalj na s rfl hi hl fun a C rz => ?_)
  rw [hz] at rz
  refine ⟨q, 4, cc, c1, ldI (i' := 0) r rfl (by decide) (ldI (i' := 0) rz rfl (by decide) (condP (fun g1 => ?_) (fun g => no fun h => g h.1)))⟩
  refine ldI (i' := 0) rz rfl (by decide) ⟨q, 4, cc, c1, ldI (i' := 1) r rfl (by decide) (condP (fun g2 => ?_) (fun g => no fun h => g h.2.1))⟩
  refine ⟨q, 4, cc, c1, ldI (i' := 2) r rfl (by decide) (ldI (i' := 1) rz rfl (by decide) (condP (fun g3 => ?_) (fun g => no fun h => g h.2.2.1)))⟩
  refine ldI (i' := 1) rz rfl (by decide) ⟨q, 4, cc, c1, ldI (i' := 3) r rfl (by decide) (condP (fun g4 => ?_) (fun g => no fun h => g h.2.2.2))⟩
  have hf : inB z0 z1 z2 z3 z = true := by unfold inB; rw [decide_eq_true_eq]; exact ⟨g1, g2, g3, g4⟩
  rw [if_pos hf] at e1 e2
  rw [e1, e2] at hnx
  refine ⟨⟨by omega, by omega⟩, ldI (i' := 2) rz rfl (by decide) ⟨⟨?_, ?_⟩, ?_⟩⟩
  · show _ ≤ _ + z.2.2; omega
  · show _ + z.2.2 ≤ _; omega
  · rw [zbg_b4]
    exact ⟨⟨by omega, by omega⟩, hnx⟩
theorem yaon (so : PtsS l) (na : RowsA (p, n, c) (l.map row3) B) (hrz : RdT TI h q m zs) (hmc : m ≤ cc) (s2 : St h0 h (cA b2 [.int .i64 0, .int .i64 0, .slice none 0 0] 61 + (cA b1 [.int .i64 code, .slice q m cc] 25 + (B + G)))) (hn : n ≤ 1000) (hl : l.length = n) (h12 : code = 1 ∨ code = 2) (hz1 : code = 1 → zs.length = 3) (hz2 : code = 2 → zs.length = 2) :
    zbg_b3 p n c (some ⟨b1, 0, none⟩) (some ⟨b2, 0, none⟩) h (MPtsP h0 G l code zs) := by
  have kb1 := s2.atomBlk
  have hzl := hrz.len
  have sB := s2.to (B := B + (cA b2 [.int .i64 0, .int .i64 0, .slice none 0 0] 61 + (cA b1 [.int .i64 code, .slice q m cc] 25 + G)))
  have hm2 : 2 ≤ m := by rcases h12 with h | h
                         · have := hz1 h; omega
                         · have := hz2 h; omega
  have rk := hrz.take (i := 2) hm2
  obtain ⟨x, hx⟩ : ∃ x, zs.getD 0 0 = x := ⟨_, rfl⟩
  obtain ⟨y, hy⟩ : ∃ y, zs.getD 1 0 = y := ⟨_, rfl⟩
  rw [take2 (by omega), hx, hy] at rk
  obtain ⟨w, hwz⟩ : ∃ w, zs.getD 2 0 = w := ⟨_, rfl⟩
  obtain ⟨f1, f2, f3⟩ := yaxc so x y
  have e : ptsS l code zs = (if code = 1 then (if yajy l x y then (l, 15, 0) else if l.length = 500 then (l, 4, 0) else (l.take (posP l x y) ++ (x, y, w) :: l.drop (posP l x y), 0, 0)) else (if yajy l x y then (cutL l (posP l x y), 0, (l.getD (posP l x y) dPt).2.2) else (l, 12, 0))) := by
    subst hx hy hwz
    unfold ptsS
    rw [if_neg (by omega), if_neg (by omega), if_neg (by omega)]
  have ht : yajy l x y = (posP l x y < l.length ∧ (l.getD (posP l x y) dPt).1 = x ∧ (l.getD (posP l x y) dPt).2.1 = y) := rfl
  generalize posP l x y = t at *
  rw [MPtsP, e, zbg_b3]
  refine ⟨_, _, _, Blk.cellA kb1 1, ⟨by omega, by omega, by omega⟩, ?_⟩
  rw [show Int.toNat (0 : Int) = 0 from rfl, show Int.toNat (2 : Int) = 2 from rfl, yaky, Nat.sub_zero]
  refine (yaou (t := t) na sB rk (by omega) (fun r hr => by obtain ⟨e, _, rfl⟩ := List.mem_map.1 hr; exact ⟨show 2 ≤ 3 by decide, show 3 ≤ 1000000 by decide⟩) ⟨by omega, fun j h1 => (yaht (by omega)).1.2 (f2 j h1), fun j h1 h2 => Int.not_lt.1 fun hc => f3 j h1 (by omega) ((yaht (by omega)).1.1 hc)⟩).mono fun v h5 ⟨hv, hh⟩ => ⟨_, _, hv, ?_⟩
  subst hh
  have hd : decide (t < n ∧ cmpK (l.map row3) [x, y] t = 0) = decide (yajy l x y) := by
    refine decide_eq_decide.2 ?_
    rw [ht]
    constructor
    · rintro ⟨h1, h2⟩; exact ⟨by omega, (yaht (by omega)).2.1 h2⟩
    · rintro ⟨h1, h2⟩; exact ⟨by omega, (yaht (by omega)).2.2 h2⟩
  rw [hd]
  refine ⟨_, kb1.cell 0, condP (fun hc1 => ?_) (fun hc1 => ?_)⟩
  · rw [if_pos hc1]
    refine condP (fun hm => ?_) (fun hm => condP (fun hf => ?_) (fun hf => ?_))
    · rw [if_pos hm]
      exact mboxT na s2 (yaas _ _)
    · rw [if_neg hm, if_pos (by omega)]
      exact mboxT na s2 (yaas _ _)
    rw [if_neg hm, if_neg (by omega), zbg_b6]
    refine ⟨_, _, _, Blk.cellA kb1 1, (yaca hrz (by have := hz1 hc1; omega)).mono fun v6 h6 ⟨q6, d6, A6, hv6, o6, t6⟩ => ⟨_, _, _, hv6, ?_⟩⟩
    have s6 := s2.join t6
    refine s6.new (cs := [.slice q6 m d6]) fun b3 h7 x7 s7 => ?_
    have s7 := s7.to (B := cA b3 [.slice q6 m d6] 23 + (B + (A6 + (cA b2 [.int .i64 0, .int .i64 0, .slice none 0 0] 61 + (cA b1 [.int .i64 code, .slice q m cc] 25 + G)))))
    refine (yaft (i := t) na o6 s7 (by omega) (by omega)).mono fun v8 h8 ⟨q', d', B', hv8, na', s8⟩ => ⟨_, _, _, hv8, ?_⟩
    have hrow : (l.map row3).take t ++ zs :: (l.map row3).drop t = (l.take t ++ (x, y, w) :: l.drop t).map row3 := by
      rw [← List.map_take, ← List.map_drop, List.map_append, List.map_cons]
      congr 2
      rw [list3 (hz1 hc1), hx, hy, hwz]
    rw [hrow] at na'
    exact mboxT na' (s8.to (B := cA b2 [.int .i64 0, .int .i64 0, .slice none 0 0] 61 + (cA b1 [.int .i64 code, .slice q m cc] 25 + (B' + G)))) (yaap _ _)
  · rw [if_neg hc1]
    refine condN (fun hm => ?_) (fun hm => ?_)
    · rw [if_neg hm]
      exact mboxT na s2 (yaas _ _)
    rw [if_pos hm]
    have g1 : t < l.length := by rw [ht] at hm; exact hm.1
    refine yalj na sB rfl (by omega) hl fun a C rz => ldI (i' := 2) rz rfl (by decide) ⟨⟨by omega, by omega⟩, ?_⟩
    refine (yaeo (i := t) na sB (by omega) rfl (by omega)).mono fun v h' ⟨B', hv, na', s'⟩ => ⟨_, _, _, hv, ?_⟩
    have hrow : (l.map row3).take t ++ (l.map row3).drop (t + 1) = (cutL l t).map row3 := by
      rw [← List.map_take, ← List.map_drop, ← List.map_append]; rfl
    rw [hrow] at na'
    exact mboxT na' (s'.to (B := cA b2 [.int .i64 0, .int .i64 0, .slice none 0 0] 61 + (cA b1 [.int .i64 code, .slice q m cc] 25 + (B' + G)))) (yaap _ _)
theorem yarj (so : PtsS l) (hw : WOk l) (na : RowsA (p, n, c) (l.map row3) B) (rz : RdS h0 G TI q m zs) (hmc : m ≤ cc) (s : St h0 h (B + G)) (hn : n ≤ 1000) (hc : 1 ≤ code ∧ code ≤ 5) (hz1 : code = 1 → zs.length = 3) (hz2 : code = 2 → zs.length = 2) (hz4 : code = 3 ∨ code = 4 → zs.length = 4) :
    yaae Tryz.prog 141 #[.slice p n c, .agg #[.int .i64 code, .slice q m cc]] h (MPtsP h0 G l code zs) := by
  have hl : (l.map row3).length = n := yaaw na
  rw [List.length_map] at hl
  refine zbg_call ?_
  rw [zbg_b0]
  refine s.new (cs := [.int .i64 code, .slice q m cc]) fun b1 h3 _ s1 => ?_
  refine s1.new (cs := [.int .i64 0, .int .i64 0, .slice none 0 0]) fun b2 h4 _ s2 => ?_
  have s2 : St h0 h4 (cA b2 [.int .i64 0, .int .i64 0, .slice none 0 0] 61 + (cA b1 [.int .i64 code, .slice q m cc] 25 + (B + G))) := s2
  have kb1 := s2.atomBlk
  have hrz : RdT TI h4 q m zs := rz h4 (cA b2 [.int .i64 0, .int .i64 0, .slice none 0 0] 61 + (cA b1 [.int .i64 code, .slice q m cc] 25 + B)) s2.to
  have hzl := hrz.len
  have sB := s2.to (B := B + (cA b2 [.int .i64 0, .int .i64 0, .slice none 0 0] 61 + (cA b1 [.int .i64 code, .slice q m cc] 25 + G)))
  refine ⟨_, kb1.cell 0, condP (fun h8 => ?_) (fun h8 => ?_)⟩
  · have e : ptsS l code zs = (l, 0, (l.length : Int)) := by subst h8; rfl
    rw [MPtsP, e, hl]
    exact mboxT na s2 (yaap _ _)
  have loop : code = 3 ∨ code = 4 → zbg_b1 p n c (some ⟨b1, 0, none⟩) (some ⟨b2, 0, none⟩) true h4 (MPtsP h0 G l code zs) := fun h34 => by
    have hz4 := hz4 h34
    obtain ⟨z0, z1, z2, z3, hz⟩ : ∃ z0 z1 z2 z3, zs = [z0, z1, z2, z3] := by match zs, hz4 with | [a, b, c, d], _ => exact ⟨_, _, _, _, rfl⟩
    subst hz
    obtain rfl : m = 4 := by rw [← hzl]; rfl
    rw [zbg_b1]
    refine yaax rfl ⟨fun x h' => h' = h4 ∧ ∃ i : Nat, x.2.2.1 = i ∧ i ≤ n ∧ x.1 = cntB z0 z1 z2 z3 (l.take i) ∧ x.2.1 = sumB z0 z1 z2 z3 (l.take i), fun x _ => n - x.2.2.1.toNat, ⟨rfl, 0, rfl, by omega, rfl, rfl⟩, ?_⟩
    rintro ⟨_, _, _, _⟩ h5 ⟨rfl, i, rfl, hi, rfl, rfl⟩
    dsimp only
    rcases Nat.lt_or_ge i n with hlt | hge
    · exact yaqr hw na sB hl hn hrz (Blk.cellA kb1 1) hlt ⟨⟨rfl, i + 1, by push_cast; rfl, by omega, rfl, rfl⟩, by dsimp only; omega⟩
    · obtain rfl : i = n := by omega
      rw [zbg_b2]
      refine yaam (decide_eq_false (by omega)) ?_
      rw [List.take_of_length_le (by omega), zbg_b5]
      refine ⟨_, kb1.cell 0, condP (fun h3 => ?_) (fun h3 => ?_)⟩
      · have e : ptsS l code [z0, z1, z2, z3] = (l, 0, cntB z0 z1 z2 z3 l) := by subst h3; rfl
        rw [MPtsP, e]
        exact mboxT na s2 (yaap _ _)
      · have h4' : code = 4 := by omega
        have e : ptsS l code [z0, z1, z2, z3] = (l, 0, sumB z0 z1 z2 z3 l) := by subst h4'; rfl
        rw [MPtsP, e]
        exact mboxT na s2 (yaap _ _)
  refine condP (fun h3 => ?_) (fun h3 => ?_)
  · rw [decide_eq_true h3]; exact loop (.inl h3)
  by_cases h4' : code = 4
  · rw [decide_eq_true h4']; exact loop (.inr h4')
  rw [decide_eq_false h4', zbg_b1]
  refine yaam rfl ?_
  exact yaon so na hrz hmc s2 hn hl (by omega) hz1 hz2
end
end Go.Proofs.YtdlkohenamlnaaaGreat
/- Layer 3: points, of the reference. -/
namespace Go.Proofs.YtdlkohenamlnaaaGreat
open Go Go.Sx
def befL : List Int → List Int → Bool
  | x :: xs, y :: ys => if x = y then befL xs ys else decide (x < y)
  | _, _ => false
theorem yasy {h : Hp} {p q : OA} {n c m d k : Nat} {xs ys : List Int} (r1 : RdT TI h p n xs) (r2 : RdT TI h q m ys) (h1 : k ≤ n) (h2 : k ≤ m) (hk : k ≤ 1000) :
    yaae Tryz.prog 119 #[.slice p n c, .slice q m d, .int .i64 (k : Int)] h (fun v h' => v = .bool (befL (xs.take k) (ys.take k)) ∧ h' = h) := by
  have l1 := r1.len
  have l2 := r2.len
  refine zcv_call ?_
  rw [zcv_b0]
  refine ⟨fun x h' => h' = h ∧ ∃ i : Nat, x.1 = i ∧ i ≤ k ∧ befL ((xs.take k).drop i) ((ys.take k).drop i) = befL (xs.take k) (ys.take k), fun x _ => (k - x.1).toNat, ⟨rfl, 0, rfl, Nat.zero_le _, rfl⟩, ?_⟩
  rintro ⟨_, _⟩ h7 ⟨rfl, i, rfl, hi, e⟩
  dsimp only
  rw [zcv_b1]
  refine condP (fun hlt => ?_) (fun hge => ?_)
  · have hx : (xs.take k).drop i = xs.getD i 0 :: (xs.take k).drop (i + 1) := by
      rw [List.drop_eq_getElem_cons (by rw [List.length_take]; omega), List.getElem_take, yaaf (by omega)]
    have hy : (ys.take k).drop i = ys.getD i 0 :: (ys.take k).drop (i + 1) := by
      rw [List.drop_eq_getElem_cons (by rw [List.length_take]; omega), List.getElem_take, yaaf (by omega)]
    rw [hx, hy, befL] at e
    refine ldI (i' := i) r1 rfl (by omega) (ldI (i' := i) r2 rfl (by omega) (condN (fun hne => ?_) (fun heq => ?_)))
    · rw [if_neg hne] at e
      refine ldI (i' := i) r1 rfl (by omega) (ldI (i' := i) r2 rfl (by omega) ⟨by rw [← e], rfl⟩)
    · rw [if_pos heq] at e
      rw [zcv_b2]
      exact ⟨⟨by omega, by omega⟩, ⟨rfl, i + 1, by push_cast; rfl, by omega, e⟩, by dsimp only; omega⟩
  · rw [zcv_b3]
    rw [List.drop_of_length_le (by rw [List.length_take]; omega)] at e
    rw [← e]
    exact ⟨rfl, rfl⟩
theorem yavq (z : Pt) (x y : Int) : befL [z.1, z.2.1] [x, y] = decide (ptLt z (x, y, 0)) := by
  unfold ptLt
  show (if z.1 = x then (if z.2.1 = y then false else decide (z.2.1 < y)) else decide (z.1 < x)) = _
  by_cases h1 : z.1 = x
  · rw [if_pos h1]
    by_cases h2 : z.2.1 = y
    · rw [if_pos h2]; symm; apply decide_eq_false; dsimp only; omega
    · rw [if_neg h2]; apply decide_eq_decide.2; dsimp only; omega
  · rw [if_neg h1]; apply decide_eq_decide.2; dsimp only; omega
section
variable {h0 h : Hp} {b1 b2 b3 b4 : Nat} {l : List Pt} {p q : OA} {n c m cc : Nat} {code : Int} {zs : List Int} {B G : Bag} {x0 x1 y0 y1 y2 : Value}
theorem yast {z0 z1 z2 z3 : Int} {i : Nat} {K : VK} {nx0 : Int × Int × Int × Unit → Hp → Prop} (hw : WOk l) (na : RowsA (p, n, c) (l.map row3) B) (s : St h0 h (refA b1 b2 b3 b4 5 p n c code q 4 cc x0 x1 y0 y1 y2 B G)) (hl : l.length = n) (hn : n ≤ 1000)
    (r : RdT TI h q 4 [z0, z1, z2, z3]) (hi : i < n) (hnx : nx0 (cntB z0 z1 z2 z3 (l.take (i + 1)), sumB z0 z1 z2 z3 (l.take (i + 1)), (i : Int) + 1, ()) h) :
    zde_b1 (cntB z0 z1 z2 z3 (l.take i)) (sumB z0 z1 z2 z3 (l.take i)) i (some ⟨b1, 0, none⟩) (some ⟨b2, 0, none⟩) (some ⟨b3, 0, none⟩) (some ⟨b4, 0, none⟩) (n : Int) h nx0 K := by
  have hil : i < l.length := by omega
  delta refA at s
  have htk := yahk hil
  have e1 : cntB z0 z1 z2 z3 (l.take (i + 1)) = cntB z0 z1 z2 z3 (l.take i) + (if inB z0 z1 z2 z3 (l.getD i dPt) = true then 1 else 0) := by
    rw [htk, yarf, yamu]; show _ + (_ + 0) = _; rw [Int.add_zero]
  have e2 : sumB z0 z1 z2 z3 (l.take (i + 1)) = sumB z0 z1 z2 z3 (l.take i) + (if inB z0 z1 z2 z3 (l.getD i dPt) = true then (l.getD i dPt).2.2 else 0) := by
    rw [htk, yarh, yaip]; show _ + (_ + 0) = _; rw [Int.add_zero]
  have hb1 := yakb (a := z0) (b := z1) (y1 := z2) (y2 := z3) (l := l.take i) fun x hx => hw x (List.mem_of_mem_take hx)
  have hb2 : 0 ≤ cntB z0 z1 z2 z3 (l.take i) ∧ cntB z0 z1 z2 z3 (l.take i) ≤ i := by
    unfold cntB
    have := List.length_filter_le (inB z0 z1 z2 z3) (l.take i)
    rw [List.length_take] at this
    omega
  rw [List.length_take, Nat.min_eq_left (by omega)] at hb1
  have hwi := hw (l.getD i dPt) (by rw [yaaf hil]; exact List.getElem_mem _)
  have rd : ∀ {Q : OA → Nat → Nat → Prop}, (∀ a C, RdT TI h a 3 (row3 (l.getD i dPt)) → Q a 3 C) → (0 ≤ (i : Int) ∧ (i : Int) < (n : Int)) ∧ NN p fun a1 => ∃ a2 L1 C1, cell h (a1.add (Int.toNat (i : Int) * 1)) = some (.slice a2 L1 C1) ∧ Q a2 L1 C1 := fun hq => yalj na (s.at B) rfl hi hl hq
  obtain ⟨z, hz⟩ : ∃ z, l.getD i dPt = z := ⟨_, rfl⟩
  rw [hz] at e1 e2 hwi rd
  rw [zde_b1_eq]
  have no : ¬ (z0 ≤ z.1 ∧ z.1 ≤ z1 ∧ z2 ≤ z.2.1 ∧ z.2.1 ≤ z3) → zde_b3 (some ⟨b1, 0, none⟩) (some ⟨b2, 0, none⟩) (some ⟨b3, 0, none⟩) (some ⟨b4, 0, none⟩) n (cntB z0 z1 z2 z3 (l.take i)) (sumB z0 z1 z2 z3 (l.take i)) i h nx0 K := fun hno => by
    have hf : ¬ inB z0 z1 z2 z3 z = true := by unfold inB; rw [decide_eq_true_eq]; exact hno
    rw [if_neg hf, Int.add_zero] at e1 e2
    rw [e1, e2] at hnx
    rw [zde_b3_eq]
    exact ⟨⟨by omega, by omega⟩, hnx⟩
  refine yaax (decide_eq_true (by omega)) ⟨_, _, _, s.ldB, rd fun a C rz => ?_⟩
  refine ldI (i' := 0) rz rfl (by decide) ⟨_, _, _, s.ldB, ldI (i' := 0) r rfl (by decide) (condP (fun g1 => ?_) (fun g => no fun h => g h.1))⟩
  refine ⟨_, _, _, s.ldB, rd fun a C rz => ldI (i' := 0) rz rfl (by decide) ⟨_, _, _, s.ldB, ldI (i' := 1) r rfl (by decide) (condP (fun g2 => ?_) (fun g => no fun h => g h.2.1))⟩⟩
  refine ⟨_, _, _, s.ldB, rd fun a C rz => ldI (i' := 1) rz rfl (by decide) ⟨_, _, _, s.ldB, ldI (i' := 2) r rfl (by decide) (condP (fun g3 => ?_) (fun g => no fun h => g h.2.2.1))⟩⟩
  refine ⟨_, _, _, s.ldB, rd fun a C rz => ldI (i' := 1) rz rfl (by decide) ⟨_, _, _, s.ldB, ldI (i' := 3) r rfl (by decide) (condP (fun g4 => ?_) (fun g => no fun h => g h.2.2.2))⟩⟩
  have hf : inB z0 z1 z2 z3 z = true := by unfold inB; rw [decide_eq_true_eq]; exact ⟨g1, g2, g3, g4⟩
  rw [if_pos hf] at e1 e2
  rw [e1, e2] at hnx
  refine ⟨⟨by omega, by omega⟩, _, _, _, s.ldB, rd fun a C rz => ldI (i' := 2) rz rfl (by decide) ⟨⟨?_, ?_⟩, ?_⟩⟩
  · show _ ≤ _ + z.2.2; omega
  · show _ + z.2.2 ≤ _; omega
  · rw [zde_b3_eq]
    exact ⟨⟨by omega, by omega⟩, hnx⟩
theorem yaui (na : RowsA (p, n, c) (l.map row3) B) (hrz : RdT TI h q m zs) (s : St h0 h (refA b1 b2 b3 b4 5 p n c code q m cc x0 x1 y0 y1 y2 B G)) (hn : n ≤ 1000) (hl : l.length = n) (h12 : code = 1 ∨ code = 2) (hz1 : code = 1 → zs.length = 3) (hz2 : code = 2 → zs.length = 2) {t : Nat} (ht : t ≤ n) {x y w : Int} (hx : zs.getD 0 0 = x) (hy : zs.getD 1 0 = y) (hwz : zs.getD 2 0 = w) :
    zde_b8 (some ⟨b1, 0, none⟩) (some ⟨b2, 0, none⟩) (some ⟨b3, 0, none⟩) (some ⟨b4, 0, none⟩) (n : Int) (t : Int) (decide (t < l.length ∧ (l.getD t dPt).1 = x ∧ (l.getD t dPt).2.1 = y)) h
     (StepP h0 G 5 ((if code = 1 then (if t < l.length ∧ (l.getD t dPt).1 = x ∧ (l.getD t dPt).2.1 = y then (l, (15 : Int), (0 : Int)) else if l.length = 500 then (l, 4, 0) else (l.take t ++ (x, y, w) :: l.drop t, 0, 0)) else (if t < l.length ∧ (l.getD t dPt).1 = x ∧ (l.getD t dPt).2.1 = y then (cutL l t, 0, (l.getD t dPt).2.2) else (l, 12, 0))).1.map row3)
       (if code = 1 then (if t < l.length ∧ (l.getD t dPt).1 = x ∧ (l.getD t dPt).2.1 = y then (l, (15 : Int), (0 : Int)) else if l.length = 500 then (l, 4, 0) else (l.take t ++ (x, y, w) :: l.drop t, 0, 0)) else (if t < l.length ∧ (l.getD t dPt).1 = x ∧ (l.getD t dPt).2.1 = y then (cutL l t, 0, (l.getD t dPt).2.2) else (l, 12, 0))).2.1
       (if code = 1 then (if t < l.length ∧ (l.getD t dPt).1 = x ∧ (l.getD t dPt).2.1 = y then (l, (15 : Int), (0 : Int)) else if l.length = 500 then (l, 4, 0) else (l.take t ++ (x, y, w) :: l.drop t, 0, 0)) else (if t < l.length ∧ (l.getD t dPt).1 = x ∧ (l.getD t dPt).2.1 = y then (cutL l t, 0, (l.getD t dPt).2.2) else (l, 12, 0))).2.2) := by
  have hzl := hrz.len
  delta refA at s
  rw [zde_b8_eq]
  refine ⟨_, s.ld0, condP (fun h2 => ?_) (fun h2 => ?_)⟩
  · rw [if_neg (show ¬ code = 1 by omega)]
    refine condN (fun hm => ?_) (fun hm => ?_)
    · rw [if_neg hm]; exact boxF na s
    rw [if_pos hm]
    refine ⟨_, _, _, s.ldB, yalj na (s.at B) rfl (by omega) hl fun a C rz => ldI (i' := 2) rz rfl (by decide) ⟨_, _, _, s.ldB, ?_⟩⟩
    refine (yafr (i := t) na (s.at B) (by omega) (by omega)).mono fun v h' ⟨q', d', B', hv, na', s⟩ => ⟨_, _, _, hv, wrC1 s fun h10 s => ?_⟩
    have hrow : (l.map row3).take t ++ (l.map row3).drop (t + 1) = (cutL l t).map row3 := by
      rw [← List.map_take, ← List.map_drop, ← List.map_append]; rfl
    rw [hrow] at na'
    exact boxY (b2 := b2) (p := q') (c := d') (cc := cc) (q := q) (m := m) (code := code) (x0 := x0) (x1 := x1) (y0 := y0) (y1 := y1) (y2 := y2) na' (by delta refA; exact s.to)
  · have hc1 : code = 1 := by omega
    rw [if_pos hc1]
    refine condP (fun hm => ?_) (fun hm => condP (fun hf => ?_) (fun hf => ?_))
    · rw [if_pos hm]; exact boxF na s
    · rw [if_neg hm, if_pos (by omega)]; exact boxF na s
    rw [if_neg hm, if_neg (by omega)]
    have hz1 := hz1 hc1
    refine ⟨_, _, _, s.ldB, _, _, _, s.ldB, (yaxd hrz (by omega)).mono fun v h5 ⟨q6, d6, A6, hv, o6, t6⟩ => ⟨_, _, _, hv, ?_⟩⟩
    have s := s.join t6
    have s : St h0 h5 (B + (A6 + (cA b1 [.int .i64 5, .slice p n c] 66 + (cA b2 [.int .i64 code, .slice q m cc] 25 + (cA b3 [x0, x1] 66 + (cA b4 [y0, y1, y2] 61 + G)))))) := s.to
    refine ⟨⟨_, _, _, s.ldB, rfl⟩, (yaib (i := t) na o6 s (by omega) (by omega)).mono fun v h9 ⟨q', d', B', hv, na', s⟩ => ⟨_, _, _, hv, wrC1 s fun h10 s => ?_⟩⟩
    have hrow : (l.map row3).take t ++ zs :: (l.map row3).drop t = (l.take t ++ (x, y, w) :: l.drop t).map row3 := by
      rw [← List.map_take, ← List.map_drop, List.map_append, List.map_cons]
      congr 2
      rw [list3 hz1, hx, hy, hwz]
    rw [hrow] at na'
    exact boxY (b2 := b2) (p := q') (c := d') (cc := cc) (q := q) (m := m) (code := code) (x0 := x0) (x1 := x1) (y0 := y0) (y1 := y1) (y2 := y2) na' (by delta refA; exact s.to)
theorem yakr (so : PtsS l) (na : RowsA (p, n, c) (l.map row3) B) (hrz : RdT TI h q m zs) (s : St h0 h (refA b1 b2 b3 b4 5 p n c code q m cc x0 x1 y0 y1 y2 B G)) (hn : n ≤ 1000) (hl : l.length = n) (h12 : code = 1 ∨ code = 2) (hz1 : code = 1 → zs.length = 3) (hz2 : code = 2 → zs.length = 2) :
    zde_b2 (some ⟨b1, 0, none⟩) (some ⟨b2, 0, none⟩) (some ⟨b3, 0, none⟩) (some ⟨b4, 0, none⟩) (n : Int) h (PtsP h0 G l code zs) := by
  have hzl := hrz.len
  have hm2 : 2 ≤ m := by rcases h12 with h | h
                         · have := hz1 h; omega
                         · have := hz2 h; omega
  obtain ⟨x, hx⟩ : ∃ x, zs.getD 0 0 = x := ⟨_, rfl⟩
  obtain ⟨y, hy⟩ : ∃ y, zs.getD 1 0 = y := ⟨_, rfl⟩
  obtain ⟨w, hwz⟩ : ∃ w, zs.getD 2 0 = w := ⟨_, rfl⟩
  obtain ⟨f1, f2, f3⟩ := yaxc so x y
  have e : ptsS l code zs = (if code = 1 then (if posP l x y < l.length ∧ (l.getD (posP l x y) dPt).1 = x ∧ (l.getD (posP l x y) dPt).2.1 = y then (l, 15, 0) else if l.length = 500 then (l, 4, 0) else (l.take (posP l x y) ++ (x, y, w) :: l.drop (posP l x y), 0, 0)) else (if posP l x y < l.length ∧ (l.getD (posP l x y) dPt).1 = x ∧ (l.getD (posP l x y) dPt).2.1 = y then (cutL l (posP l x y), 0, (l.getD (posP l x y) dPt).2.2) else (l, 12, 0))) := by
    subst hx hy hwz
    unfold ptsS
    rw [if_neg (by omega), if_neg (by omega), if_neg (by omega)]
    rfl
  have h8 := yaui na hrz s hn hl h12 hz1 hz2 (t := posP l x y) (by omega) hx hy hwz
  rw [PtsP, e]
  generalize posP l x y = t at *
  rw [zde_b2_eq]
  have s' := s
  delta refA at s
  have rk2 := take2 (zs := zs) (by omega)
  rw [hx, hy] at rk2
  have fin0 : ∀ K : VK, zde_b8 (some ⟨b1, 0, none⟩) (some ⟨b2, 0, none⟩) (some ⟨b3, 0, none⟩) (some ⟨b4, 0, none⟩) (n : Int) (t : Int) (decide (t < l.length ∧ (l.getD t dPt).1 = x ∧ (l.getD t dPt).2.1 = y)) h K → ∀ i : Nat, i = t → zde_b7 (some ⟨b1, 0, none⟩) (some ⟨b2, 0, none⟩) (some ⟨b3, 0, none⟩) (some ⟨b4, 0, none⟩) (n : Int) (i : Int) h K := by
    rintro K h8 i rfl
    rw [zde_b7_eq]
    refine condP (fun hlt => ?_) (fun hge => ?_)
    · refine ⟨_, _, _, s.ldB, yalj na (s.at B) rfl (by omega) hl fun a C rz => ldI (i' := 0) rz rfl (by decide) ⟨_, _, _, s.ldB, ldI (i' := 0) hrz rfl (by omega) (condP (fun g1 => ?_) (fun g1 => ?_))⟩⟩
      · refine ⟨_, _, _, s.ldB, yalj na (s.at B) rfl (by omega) hl fun a C rz => ldI (i' := 1) rz rfl (by decide) ⟨_, _, _, s.ldB, ldI (i' := 1) hrz rfl (by omega) ?_⟩⟩
        have g1 : (l.getD i dPt).1 = zs.getD 0 0 := g1
        have : decide ((l.getD i dPt).2.1 = zs.getD 1 0) = decide (i < l.length ∧ (l.getD i dPt).1 = x ∧ (l.getD i dPt).2.1 = y) := by
          apply decide_eq_decide.2; rw [hx] at g1; rw [hy]; exact ⟨fun h => ⟨by omega, g1, h⟩, fun h => h.2.2⟩
        show zde_b8 _ _ _ _ _ _ (decide ((l.getD i dPt).2.1 = zs.getD 1 0)) _ _
        rw [this]; exact h8
      · have g1 : ¬ (l.getD i dPt).1 = zs.getD 0 0 := g1
        rw [decide_eq_false (show ¬ (i < l.length ∧ (l.getD i dPt).1 = x ∧ (l.getD i dPt).2.1 = y) from fun h => g1 (by rw [hx]; exact h.2.1))] at h8
        exact h8
    · rw [decide_eq_false (show ¬ (i < l.length ∧ (l.getD i dPt).1 = x ∧ (l.getD i dPt).2.1 = y) from fun h => by omega)] at h8
      exact h8
  have fin := fin0 _ h8
  refine ⟨fun x h' => h' = h ∧ ∃ i : Nat, x.1 = i ∧ i ≤ t, fun x _ => (n - x.1).toNat, ⟨rfl, 0, rfl, Nat.zero_le _⟩, ?_⟩
  rintro ⟨_, _⟩ h7 ⟨rfl, i, rfl, hi⟩
  dsimp only
  rw [zde_b5_eq]
  refine condP (fun hlt => ?_) (fun hge => fin i (by omega))
  refine ⟨_, _, _, s.ldB, yalj na (s.at B) rfl (by omega) hl fun a C rz => ⟨_, _, _, s.ldB, ?_⟩⟩
  refine ⟨_, yasy (k := 2) rz hrz (by omega) (by omega) (by omega), ?_⟩
  rw [rk2, show (row3 (l.getD i dPt)).take 2 = [(l.getD i dPt).1, (l.getD i dPt).2.1] from rfl, yavq]
  refine condP (fun hb => ?_) (fun hb => fin i ?_)
  · rw [zde_b6_eq]
    refine ⟨⟨by omega, by omega⟩, ⟨rfl, i + 1, by push_cast; rfl, ?_⟩, by dsimp only; omega⟩
    rcases Nat.lt_or_ge i t with h | h
    · omega
    · exact absurd hb (f3 i h (by omega))
  · rcases Nat.lt_or_ge i t with h | h
    · exact absurd (f2 i h) hb
    · omega
theorem yaud (so : PtsS l) (hw : WOk l) (na : RowsA (p, n, c) (l.map row3) B) (rz : RdS h0 G TI q m zs) (s : St h0 h (B + G)) (hn : n ≤ 1000) (hc : 1 ≤ code ∧ code ≤ 5) (hz1 : code = 1 → zs.length = 3) (hz2 : code = 2 → zs.length = 2) (hz4 : code = 3 ∨ code = 4 → zs.length = 4) :
    yaae Tryz.prog 81 #[.agg #[.int .i64 5, .slice p n c], .agg #[.int .i64 code, .slice q m cc]] h (PtsP h0 G l code zs) := by
  have hl : (l.map row3).length = n := yaaw na
  rw [List.length_map] at hl
  refine zde_call ?_
  rw [zde_b0_eq]
  refine s.new (cs := [_, _]) fun b1 h3 _ s => s.new (cs := [_, _]) fun b2 h4 _ s => s.new (cs := [_, _]) fun b3 h5 _ s => s.new (cs := [_, _, _]) fun b4 h6 _ s => ?_
  have s : St h0 h6 (refA b1 b2 b3 b4 5 p n c code q m cc (.int .i64 0) (.slice none 0 0) (.int .i64 0) (.int .i64 0) (.slice none 0 0) B G) := by delta refA; exact s.to
  have hrz : RdT TI h6 q m zs := rz h6 (cA b1 [.int .i64 5, .slice p n c] 66 + (cA b2 [.int .i64 code, .slice q m cc] 25 + (cA b3 [.int .i64 0, .slice none 0 0] 66 + (cA b4 [.int .i64 0, .int .i64 0, .slice none 0 0] 61 + B)))) (by delta refA at s; exact s.to)
  have hzl := hrz.len
  have s' := s
  delta refA at s
  refine ⟨_, _, _, s.ldB, _, s.ld0, condP (fun h7 => ?_) (fun h7 => ?_)⟩
  · have e : ptsS l code zs = (l, 0, (l.length : Int)) := by subst h7; rfl
    rw [PtsP, e, hl]
    exact boxY na s
  have loop : code = 3 ∨ code = 4 → yaau ((0, 0, 0, ()) : Int × Int × Int × Unit) h6 (fun (nx0 : Int × Int × Int × Unit → Hp → Prop) (s1 : Int × Int × Int × Unit) h11 => zde_b1 s1.1 s1.2.1 s1.2.2.1 (some ⟨b1, 0, none⟩) (some ⟨b2, 0, none⟩) (some ⟨b3, 0, none⟩) (some ⟨b4, 0, none⟩) (n : Int) h11 nx0 (PtsP h0 G l code zs)) := fun h34 => by
    have hz4 := hz4 h34
    obtain ⟨z0, z1, z2, z3, hz⟩ : ∃ z0 z1 z2 z3, zs = [z0, z1, z2, z3] := by match zs, hz4 with | [a, b, c, d], _ => exact ⟨_, _, _, _, rfl⟩
    subst hz
    obtain rfl : m = 4 := by rw [← hzl]; rfl
    refine ⟨fun x h' => h' = h6 ∧ ∃ i : Nat, x.2.2.1 = i ∧ i ≤ n ∧ x.1 = cntB z0 z1 z2 z3 (l.take i) ∧ x.2.1 = sumB z0 z1 z2 z3 (l.take i), fun x _ => n - x.2.2.1.toNat, ⟨rfl, 0, rfl, by omega, rfl, rfl⟩, ?_⟩
    rintro ⟨_, _, _, _⟩ h5 ⟨rfl, i, rfl, hi, rfl, rfl⟩
    dsimp only
    rcases Nat.lt_or_ge i n with hlt | hge
    · exact yast hw na s' hl hn hrz hlt ⟨⟨rfl, i + 1, by push_cast; rfl, by omega, rfl, rfl⟩, by dsimp only; omega⟩
    · obtain rfl : i = n := by omega
      rw [zde_b1_eq]
      refine yaam (decide_eq_false (by omega)) ?_
      rw [List.take_of_length_le (by omega), zde_b4_eq]
      refine ⟨_, s.ld0, condP (fun h3 => ?_) (fun h3 => ?_)⟩
      · have e : ptsS l code [z0, z1, z2, z3] = (l, 0, cntB z0 z1 z2 z3 l) := by subst h3; rfl
        rw [PtsP, e]
        exact boxY na s
      · have h4' : code = 4 := by omega
        have e : ptsS l code [z0, z1, z2, z3] = (l, 0, sumB z0 z1 z2 z3 l) := by subst h4'; rfl
        rw [PtsP, e]
        exact boxY na s
  refine ⟨_, s.ld0, condP (fun h3 => loop (.inl h3)) (fun h3 => ⟨_, s.ld0, condP (fun h4 => loop (.inr h4)) (fun h4 => ?_)⟩)⟩
  exact yakr so na hrz s' hn hl (by omega) hz1 hz2
end
end Go.Proofs.YtdlkohenamlnaaaGreat
