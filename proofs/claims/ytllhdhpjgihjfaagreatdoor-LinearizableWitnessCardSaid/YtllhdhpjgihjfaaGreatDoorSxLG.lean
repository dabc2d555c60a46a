/- Part X4 X5 Y2 Y3 Z1 LA LB LC LD LE LF LG of the proof: contracts of functions of the program, and what follows from them. -/
import Derived.Test.YtllhdhpjgihjfaaGreatDoorSxY1
set_option maxRecDepth 100000
namespace Go.Proofs.YtllhdhpjgihjfaaGreatDoor
open Go Go.Sx
abbrev row2 (e : E) : List Int := [e.1, e.2]
def StepP (h0 : Hp) (G : Bag) (k : Int) (rows : List (List Int)) (e z : Int) (v : Value) (h' : Hp) : Prop :=
  ∃ q m d B', v = .tuple #[.agg #[.int .i64 k, .slice q m d], .agg #[.int .i64 e, .int .i64 z, .slice none 0 0]] ∧ RowsA (q, m, d) rows B' ∧ St h0 h' (B' + G)
theorem boxW {h0 h : Hp} {b3 b4 : Nat} {x0 x1 y0 y1 y2 : Value} {D B G : Bag} {p : OA} {n c : Nat} {k e z : Int} {rows : List (List Int)} (na : RowsA (p, n, c) rows B)
    (s : St h0 h (cA b3 [x0, x1] 24 + (cA b4 [y0, y1, y2] 58 + (D + (B + G))))) :
    Wr h ⟨b3, 0, none⟩ (.int .i64 k) fun h6 => Wr h6 ((⟨b3, 0, none⟩ : Addr).add 1) (.slice p n c) fun h7 => Wr h7 ⟨b4, 0, none⟩ (.int .i64 e) fun h8 => Wr h8 ((⟨b4, 0, none⟩ : Addr).add 1) (.int .i64 z) fun h9 => Wr h9 ((⟨b4, 0, none⟩ : Addr).add 2) (.slice none 0 0) fun h10 =>
      ∃ r6 : Int, ∃ r7 rL3 rC3, cell h10 ⟨b3, 0, none⟩ = some (.int .i64 r6) ∧ cell h10 ((⟨b3, 0, none⟩ : Addr).add 1) = some (.slice r7 rL3 rC3) ∧
      ∃ r8 : Int, ∃ r9 : Int, ∃ r10 rL4 rC4, cell h10 ⟨b4, 0, none⟩ = some (.int .i64 r8) ∧ cell h10 ((⟨b4, 0, none⟩ : Addr).add 1) = some (.int .i64 r9) ∧ cell h10 ((⟨b4, 0, none⟩ : Addr).add 2) = some (.slice r10 rL4 rC4) ∧
      StepP h0 G k rows e z (.tuple #[.agg #[.int .i64 r6, .slice r7 rL3 rC3], .agg #[.int .i64 r8, .int .i64 r9, .slice r10 rL4 rC4]]) h10 := by
  refine s.wr rfl (by simp) fun h6 s6 => ?_
  refine s6.wr (o := 1) (yabd _ _ _) (by simp) fun h7 s7 => ?_
  have s7 : St h0 h7 (cA b3 [.int .i64 k, .slice p n c] 24 + (cA b4 [y0, y1, y2] 58 + (D + (B + G)))) := s7
  have s7 := s7.to (B := cA b4 [y0, y1, y2] 58 + (cA b3 [.int .i64 k, .slice p n c] 24 + (D + (B + G))))
  refine s7.wr rfl (by simp) fun h8 s8 => ?_
  refine s8.wr (o := 1) (yabd _ _ _) (by simp) fun h9 s9 => ?_
  refine s9.wr (o := 2) (yabd _ _ _) (by simp) fun h10 s10 => ?_
  have kb := s10.atomBlk
  refine ⟨_, _, _, _, kb.cell 0, Blk.cellA kb 1, _, _, _, _, _, s10.blk.cell 0, Blk.cellA s10.blk 1, Blk.cellA s10.blk 2, p, n, c, B, rfl, na, ?_⟩
  have s10 : St h0 h10 (cA b4 [.int .i64 e, .int .i64 z, .slice none 0 0] 58 + (cA b3 [.int .i64 k, .slice p n c] 24 + (D + (B + G)))) := s10
  exact (s10.to (B := (cA b4 [.int .i64 e, .int .i64 z, .slice none 0 0] 58 + cA b3 [.int .i64 k, .slice p n c] 24 + D) + (B + G))).drop
theorem boxT {g : Nat} {args : Array Value} {h0 h : Hp} {b3 b4 : Nat} {x0 x1 y0 y1 y2 : Value} {D B G : Bag} {p : OA} {n c : Nat} {k e z : Int} {rows : List (List Int)} (na : RowsA (p, n, c) rows B)
    (s : St h0 h (cA b3 [x0, x1] 24 + (cA b4 [y0, y1, y2] 58 + (D + (B + G)))))
    (hc : yaae Tryz.prog g args h (fun v h' => v = .tuple #[.agg #[.int .i64 k, .slice p n c], .agg #[.int .i64 e, .int .i64 z, .slice none 0 0]] ∧ Ext h h')) :
    yaae Tryz.prog g args h fun v1 h5 => ∃ r1 : Int, ∃ (r2 : OA) (rL1 rC1 : Nat), ∃ r3 : Int, ∃ r4 : Int, ∃ (r5 : OA) (rL2 rC2 : Nat), v1 = .tuple #[.agg #[.int .i64 r1, .slice r2 rL1 rC1], .agg #[.int .i64 r3, .int .i64 r4, .slice r5 rL2 rC2]] ∧
      Wr h5 ⟨b3, 0, none⟩ (.int .i64 r1) fun h6 => Wr h6 ((⟨b3, 0, none⟩ : Addr).add 1) (.slice r2 rL1 rC1) fun h7 => Wr h7 ⟨b4, 0, none⟩ (.int .i64 r3) fun h8 => Wr h8 ((⟨b4, 0, none⟩ : Addr).add 1) (.int .i64 r4) fun h9 => Wr h9 ((⟨b4, 0, none⟩ : Addr).add 2) (.slice r5 rL2 rC2) fun h10 =>
      ∃ r6 : Int, ∃ r7 rL3 rC3, cell h10 ⟨b3, 0, none⟩ = some (.int .i64 r6) ∧ cell h10 ((⟨b3, 0, none⟩ : Addr).add 1) = some (.slice r7 rL3 rC3) ∧
      ∃ r8 : Int, ∃ r9 : Int, ∃ r10 rL4 rC4, cell h10 ⟨b4, 0, none⟩ = some (.int .i64 r8) ∧ cell h10 ((⟨b4, 0, none⟩ : Addr).add 1) = some (.int .i64 r9) ∧ cell h10 ((⟨b4, 0, none⟩ : Addr).add 2) = some (.slice r10 rL4 rC4) ∧
      StepP h0 G k rows e z (.tuple #[.agg #[.int .i64 r6, .slice r7 rL3 rC3], .agg #[.int .i64 r8, .int .i64 r9, .slice r10 rL4 rC4]]) h10 :=
  hc.mono fun _ _ ⟨hv, x⟩ => ⟨_, _, _, _, _, _, _, _, _, hv, boxW na (s.grow x)⟩
theorem AllH.edit : ∀ {hs : List SH} {xs : List (List Int)} {A : Bag} {i : Nat}, AllH RowP hs xs A → i < hs.length → ∃ Ai Br, A = Ai + Br ∧ RowP (hs.getD i (none, 0, 0)) (xs.getD i []) Ai ∧ ∀ y A', RowP (hs.getD i (none, 0, 0)) y A' → AllH RowP hs (xs.set i y) (A' + Br)
  | [], _, _, _, _, h => by simp at h
  | _ :: _, [], _, _, h, _ => h.elim
  | b :: bs, t :: ts, _, 0, ⟨A1, A2, e, h1, h2⟩, _ => ⟨A1, A2, e, h1, fun y A' hy => ⟨A', A2, rfl, hy, h2⟩⟩
  | b :: bs, t :: ts, _, i + 1, ⟨A1, A2, e, h1, h2⟩, hi => by
    obtain ⟨Ai, Br, e2, h3, h4⟩ := AllH.edit h2 (i := i) (by simpa using hi)
    refine ⟨Ai, A1 + Br, by rw [e, e2]; ac_rfl, by simpa using h3, fun y A' hy => ?_⟩
    exact ⟨A1, A' + Br, by ac_rfl, h1, h4 y A' (by simpa using hy)⟩
theorem yadb {h0 h : Hp} {p : OA} {n c : Nat} {rows : List (List Int)} {B G : Bag} {i : Int} {Q : OA → Nat → Nat → Prop} (na : RowsA (p, n, c) rows B) (st : St h0 h (B + G)) (hi0 : 0 ≤ i) (hi : i < n)
    (hq : ∀ q l d Bi Br, Sl TI q l d (rows.getD i.toNat []) Bi → B = Bi + Br → (∀ y Bi', Sl TI q l d y Bi' → RowsA (p, n, c) (rows.set i.toNat y) (Bi' + Br)) → Q q l d) :
    (0 ≤ i ∧ i < (n : Int)) ∧ NN p fun a => ∃ q l d, cell h (a.add (i.toNat * 1)) = some (.slice q l d) ∧ Q q l d := by
  obtain ⟨hs, B0, B1, rfl, h1, h2⟩ := na
  have r := h1.rd (st.to (B := B0 + (B1 + G)))
  refine r.idx hi0 hi fun a _ hc => ?_
  have hl : hs.length = n := h1.len
  obtain ⟨Bi, Br, hB, hp, hset⟩ := AllH.edit h2 (i := i.toNat) (by omega)
  refine ⟨_, _, _, hc 0 Nat.one_pos, hq _ _ _ Bi (B0 + Br) hp (by rw [hB]; ac_rfl) fun y Bi' hy => ?_⟩
  exact ⟨hs, B0, Bi' + Br, by ac_rfl, h1, hset y Bi' hy⟩
theorem yaga {l : List E} {i : Nat} (h : i < l.length) : (l.map row2).getD i [] = row2 (l.getD i (0, 0)) := by
  simp [List.getD, h]
theorem e_key {h0 h : Hp} {p : OA} {n c : Nat} {l : List E} {B G : Bag} {i : Int} {Q : Int → Prop} (na : RowsA (p, n, c) (l.map row2) B) (st : St h0 h (B + G)) (hi0 : 0 ≤ i) (hi : i < n) (hq : Q (l.getD i.toNat (0, 0)).1) :
    (0 ≤ i ∧ i < (n : Int)) ∧ NN p fun a => ∃ a8 L5 C5, cell h (a.add (i.toNat * 1)) = some (.slice a8 L5 C5) ∧ (0 ≤ (0 : Int) ∧ (0 : Int) < (L5 : Int)) ∧ NN a8 fun a9 => ∃ n4, cell h (a9.add (Int.toNat (0 : Int) * 1)) = some (.int .i64 n4) ∧ Q n4 := by
  have hl : (l.map row2).length = n := yaav na
  rw [List.length_map] at hl
  have hg := yaga (l := l) (i := i.toNat) (by omega)
  exact yaim na st hi0 hi (by omega) (by rw [hg]; simp) (by rw [hg]; exact hq)
theorem e_val {h0 h : Hp} {p : OA} {n c : Nat} {l : List E} {B G : Bag} {i : Int} {Q : Int → Prop} (na : RowsA (p, n, c) (l.map row2) B) (st : St h0 h (B + G)) (hi0 : 0 ≤ i) (hi : i < n) (hq : Q (l.getD i.toNat (0, 0)).2) :
    (0 ≤ i ∧ i < (n : Int)) ∧ NN p fun a => ∃ a8 L5 C5, cell h (a.add (i.toNat * 1)) = some (.slice a8 L5 C5) ∧ (0 ≤ (1 : Int) ∧ (1 : Int) < (L5 : Int)) ∧ NN a8 fun a9 => ∃ n4, cell h (a9.add (Int.toNat (1 : Int) * 1)) = some (.int .i64 n4) ∧ Q n4 := by
  have hl : (l.map row2).length = n := yaav na
  rw [List.length_map] at hl
  have hg := yaga (l := l) (i := i.toNat) (by omega)
  exact yaim na st hi0 hi (by omega) (by rw [hg]; simp) (by rw [hg]; exact hq)
def dictS (l : List E) (c : Int) (zs : List Int) : List E × Int × Int :=
  if c = 8 then (l, 0, l.length)
  else if c = 1 then (if yabr (upS l (zs.getD 0 0)) (zs.getD 0 0) = true then (lowS l (zs.getD 0 0) ++ (zs.getD 0 0, zs.getD 1 0) :: (upS l (zs.getD 0 0)).tail, 0, 1) else if l.length = 500 then (l, 4, 0) else (lowS l (zs.getD 0 0) ++ (zs.getD 0 0, zs.getD 1 0) :: upS l (zs.getD 0 0), 0, 0))
  else if c = 2 then (if yabr (upS l (zs.getD 0 0)) (zs.getD 0 0) = true then (l, 0, valOf (upS l (zs.getD 0 0))) else (l, 12, 0))
  else if c = 3 then (if yabr (upS l (zs.getD 0 0)) (zs.getD 0 0) = true then (lowS l (zs.getD 0 0) ++ (upS l (zs.getD 0 0)).tail, 0, valOf (upS l (zs.getD 0 0))) else (l, 12, 0))
  else if c = 4 then (if yabr (upS l (zs.getD 0 0)) (zs.getD 0 0) = true then (l, 0, zs.getD 0 0) else if (lowS l (zs.getD 0 0)).length = 0 then (l, 12, 0) else (l, 0, (yakl (lowS l (zs.getD 0 0))).1))
  else if c = 5 then (if (lowS l (zs.getD 0 0)).length = l.length then (l, 12, 0) else (l, 0, (yawb (upS l (zs.getD 0 0))).1))
  else if c = 6 then (l, 0, (lowS l (zs.getD 0 0)).length)
  else (if zs.getD 0 0 < 0 ∨ (l.length : Int) ≤ zs.getD 0 0 then (l, 2, 0) else (l, 0, (l.getD (zs.getD 0 0).toNat (0, 0)).1))
abbrev DictP (h0 : Hp) (G : Bag) (l : List E) (c : Int) (zs : List Int) : VK := StepP h0 G 1 ((dictS l c zs).1.map row2) (dictS l c zs).2.1 (dictS l c zs).2.2
theorem yaww {h0 h : Hp} {p : OA} {n c i : Nat} {rows : List (List Int)} {B G : Bag} (na : RowsA (p, n, c) rows B) (s : St h0 h (B + G)) (hi : i < n) (hn : n ≤ 1000000) :
    yaae Tryz.prog 107 #[.slice p n c, .int .i64 (i : Int)] h (fun v h' => ∃ q d B', v = .slice q (n - 1) d ∧ RowsA (q, n - 1, d) (rows.take i ++ rows.drop (i + 1)) B' ∧ St h0 h' (B' + G)) := by
  obtain ⟨hs, B0, B1, rfl, h1, h2⟩ := na
  obtain ⟨C1, C2, rfl, c1, c2⟩ := AllH.cut h2 i
  obtain ⟨C3, C4, rfl, _, c4⟩ := AllH.cut c2 1
  rw [List.drop_drop, List.drop_drop] at c4
  refine (yavd (s.to (B := B0 + (C1 + (C3 + C4) + G))) h1 hi hn).mono fun v h' ⟨q, d, B', hv, o, s'⟩ => ⟨q, d, B' + (C1 + C4), hv, ⟨_, B', C1 + C4, rfl, o, c1.append c4⟩, (s'.to (B := C3 + (B' + (C1 + C4) + G))).drop⟩
theorem yaya {h0 h : Hp} {p : OA} {n c i : Nat} {rows : List (List Int)} {x : List Int} {q : OA} {m d : Nat} {B Bx G : Bag} (na : RowsA (p, n, c) rows B) (o : Sl TI q m d x Bx) (s : St h0 h (B + (Bx + G))) (hi : i ≤ n) (hn : n ≤ 1000000) :
    yaae Tryz.prog 106 #[.slice p n c, .int .i64 (i : Int), .slice q m d] h (fun v h' => ∃ q d B', v = .slice q (n + 1) d ∧ RowsA (q, n + 1, d) (rows.take i ++ x :: rows.drop i) B' ∧ St h0 h' (B' + G)) := by
  obtain ⟨hs, B0, B1, rfl, h1, h2⟩ := na
  obtain ⟨C1, C2, rfl, c1, c2⟩ := AllH.cut h2 i
  refine (yavj (x := (q, m, d)) (s.to (B := B0 + (C1 + C2 + (Bx + G)))) h1 hi hn).mono fun v h' ⟨q', d', B', hv, o', s'⟩ => ⟨q', d', B' + (C1 + (Bx + C2)), hv, ⟨_, B', C1 + (Bx + C2), rfl, o', c1.append ⟨Bx, C2, rfl, o, c2⟩⟩, s'.to⟩
theorem yaja {h0 h : Hp} {b1 b2 b3 b4 : Nat} {l : List E} {p q : OA} {n c m cc : Nat} {code : Int} {B G : Bag} (na : RowsA (p, n, c) (l.map row2) B) (s : St h0 h (cA b1 [.int .i64 1, .slice p n c] 24 + (cA b2 [.int .i64 code, .slice q m cc] 50 + (cA b3 [.int .i64 0, .slice none 0 0] 24 + (cA b4 [.int .i64 0, .int .i64 0, .slice none 0 0] 58 + (B + G)))))) {v : Int} {K : VK} {rows : List (List Int)} (hr : l.map row2 = rows) (hK : K = StepP h0 G 1 rows 0 v) : zcr_b6 (some ⟨b1, 0, none⟩) (some ⟨b3, 0, none⟩) (some ⟨b4, 0, none⟩) v h K := by
  subst hr hK
  rw [zcr_b6]
  have kb1 := s.blk
  exact ⟨_, _, _, _, kb1.cell 0, Blk.cellA kb1 1, boxT na (D := cA b1 [.int .i64 1, .slice p n c] 24 + cA b2 [.int .i64 code, .slice q m cc] 50) s.to yact⟩
theorem yasi {h0 h : Hp} {b1 b2 b3 b4 : Nat} {l : List E} {p q : OA} {n c m cc : Nat} {code : Int} {zs : List Int} {B G : Bag} (na : RowsA (p, n, c) (l.map row2) B) (s : St h0 h (cA b1 [.int .i64 1, .slice p n c] 24 + (cA b2 [.int .i64 code, .slice q m cc] 50 + (cA b3 [.int .i64 0, .slice none 0 0] 24 + (cA b4 [.int .i64 0, .int .i64 0, .slice none 0 0] 58 + (B + G)))))) (hc : code = 7) : zcr_b7 (some ⟨b1, 0, none⟩) (some ⟨b3, 0, none⟩) (some ⟨b4, 0, none⟩) (n : Int) (zs.getD 0 0) h (DictP h0 G l code zs) := by
  have hl : (l.map row2).length = n := yaav na
  rw [List.length_map] at hl
  have kb1 := s.blk
  have e : dictS l code zs = (if zs.getD 0 0 < 0 ∨ (l.length : Int) ≤ zs.getD 0 0 then (l, 2, 0) else (l, 0, (l.getD (zs.getD 0 0).toNat (0, 0)).1)) := by
    subst hc; rfl
  rw [DictP, e, zcr_b7]
  generalize zs.getD 0 0 = k
  have ss : St h0 h (cA b3 [.int .i64 0, .slice none 0 0] 24 + (cA b4 [.int .i64 0, .int .i64 0, .slice none 0 0] 58 + ((cA b1 [.int .i64 1, .slice p n c] 24 + cA b2 [.int .i64 code, .slice q m cc] 50) + (B + G)))) := s.to
  refine condP (fun h1 => ?_) (fun h1 => condP (fun h2 => ?_) (fun h2 => ?_))
  · rw [if_pos (.inl h1)]
    exact ⟨_, _, _, _, kb1.cell 0, Blk.cellA kb1 1, boxT na ss yagq⟩
  · rw [if_pos (.inr (by omega))]
    exact ⟨_, _, _, _, kb1.cell 0, Blk.cellA kb1 1, boxT na ss yagq⟩
  · rw [if_neg (by omega), zcr_b8]
    refine ⟨_, _, _, _, kb1.cell 0, Blk.cellA kb1 1, _, _, _, Blk.cellA kb1 1, e_key na (s.at B) (by omega) (by omega) ?_⟩
    exact boxT na ss yact
theorem yaho {h0 h : Hp} {b1 b2 b3 b4 : Nat} {l : List E} {p q : OA} {n c m cc : Nat} {code : Int} {zs : List Int} {B G : Bag} (na : RowsA (p, n, c) (l.map row2) B) (s : St h0 h (cA b1 [.int .i64 1, .slice p n c] 24 + (cA b2 [.int .i64 code, .slice q m cc] 50 + (cA b3 [.int .i64 0, .slice none 0 0] 24 + (cA b4 [.int .i64 0, .int .i64 0, .slice none 0 0] 58 + (B + G)))))) (hn : n ≤ 1000) (hc : code = 2 ∨ code = 3) : zcr_b5 (some ⟨b1, 0, none⟩) (some ⟨b2, 0, none⟩) (some ⟨b3, 0, none⟩) (some ⟨b4, 0, none⟩) (n : Int) (zs.getD 0 0) ((lowS l (zs.getD 0 0)).length : Int) (yabr (upS l (zs.getD 0 0)) (zs.getD 0 0)) code true h (DictP h0 G l code zs) := by
  have hl : (l.map row2).length = n := yaav na
  rw [List.length_map] at hl
  have kb1 := s.blk
  have kb2 := s.atomBlk
  have e : dictS l code zs = (if yabr (upS l (zs.getD 0 0)) (zs.getD 0 0) = true then (if code = 3 then lowS l (zs.getD 0 0) ++ (upS l (zs.getD 0 0)).tail else l, 0, valOf (upS l (zs.getD 0 0))) else (l, 12, 0)) := by
    rcases hc with rfl | rfl <;> rfl
  rw [DictP, e, zcr_b5]
  generalize zs.getD 0 0 = k
  have ss : St h0 h (cA b3 [.int .i64 0, .slice none 0 0] 24 + (cA b4 [.int .i64 0, .int .i64 0, .slice none 0 0] 58 + ((cA b1 [.int .i64 1, .slice p n c] 24 + cA b2 [.int .i64 code, .slice q m cc] 50) + (B + G)))) := s.to
  refine yaaw rfl ?_
  by_cases hf : yabr (upS l k) k = true
  · obtain ⟨u1, u2, u3⟩ := yakc hf
    rw [if_pos hf, hf]
    refine yaat rfl ⟨_, _, _, Blk.cellA kb1 1, e_val na (s.at B) (by omega) (by omega) ?_⟩
    rw [Int.toNat_natCast, u2]
    refine ⟨_, kb2.cell 0, condP (fun h3 => ?_) (fun h3 => ?_)⟩
    · rw [if_pos h3]
      refine ⟨_, _, _, Blk.cellA kb1 1, (yaww na (s.to (B := B + (cA b1 [.int .i64 1, .slice p n c] 24 + (cA b2 [.int .i64 code, .slice q m cc] 50 + (cA b3 [.int .i64 0, .slice none 0 0] 24 + (cA b4 [.int .i64 0, .int .i64 0, .slice none 0 0] 58 + G)))))) (by omega) (by omega)).mono fun v h' ⟨q', d', B', hv, na', s'⟩ => ⟨_, _, _, hv, ?_⟩⟩
      have s' := s'.to (B := cA b1 [.int .i64 1, .slice p n c] 24 + (cA b2 [.int .i64 code, .slice q m cc] 50 + (cA b3 [.int .i64 0, .slice none 0 0] 24 + (cA b4 [.int .i64 0, .int .i64 0, .slice none 0 0] 58 + (B' + G)))))
      refine s'.wr (o := 1) (yabd _ _ _) (by simp) fun h6 s6 => ?_
      have hrow : (l.map row2).take (lowS l k).length ++ (l.map row2).drop ((lowS l k).length + 1) = (lowS l k ++ (upS l k).tail).map row2 := by
        rw [← List.map_take, ← List.map_drop, u3, yaff, ← List.map_append]
      rw [hrow] at na'
      exact yaja na' s6 rfl rfl
    · rw [if_neg h3]
      exact yaja na s rfl rfl
  · have hf' : yabr (upS l k) k = false := by simpa using hf
    rw [if_neg hf, hf']
    exact yaaw rfl ⟨_, _, _, _, kb1.cell 0, Blk.cellA kb1 1, boxT na ss yagq⟩
theorem yarf {h0 h : Hp} {b1 b2 b3 b4 : Nat} {l : List E} {p q : OA} {n c m cc : Nat} {code : Int} {zs : List Int} {B G : Bag} (na : RowsA (p, n, c) (l.map row2) B) (s : St h0 h (cA b1 [.int .i64 1, .slice p n c] 24 + (cA b2 [.int .i64 code, .slice q m cc] 50 + (cA b3 [.int .i64 0, .slice none 0 0] 24 + (cA b4 [.int .i64 0, .int .i64 0, .slice none 0 0] 58 + (B + G)))))) (hn : n ≤ 1000) (hc : 4 ≤ code ∧ code ≤ 7) : zcr_b5 (some ⟨b1, 0, none⟩) (some ⟨b2, 0, none⟩) (some ⟨b3, 0, none⟩) (some ⟨b4, 0, none⟩) (n : Int) (zs.getD 0 0) ((lowS l (zs.getD 0 0)).length : Int) (yabr (upS l (zs.getD 0 0)) (zs.getD 0 0)) code false h (DictP h0 G l code zs) := by
  have hl : (l.map row2).length = n := yaav na
  rw [List.length_map] at hl
  have kb1 := s.blk
  have kb2 := s.atomBlk
  rw [zcr_b5]
  have ss : St h0 h (cA b3 [.int .i64 0, .slice none 0 0] 24 + (cA b4 [.int .i64 0, .int .i64 0, .slice none 0 0] 58 + ((cA b1 [.int .i64 1, .slice p n c] 24 + cA b2 [.int .i64 code, .slice q m cc] 50) + (B + G)))) := s.to
  refine yaat rfl ?_
  have hll := yanb (xs := l) (key := zs.getD 0 0)
  refine condP (fun h4 => ?_) (fun h4 => condP (fun h5 => ?_) (fun h5 => condP (fun h6 => ?_) (fun h6 => ?_)))
  · have e : dictS l code zs = (if yabr (upS l (zs.getD 0 0)) (zs.getD 0 0) = true then (l, 0, zs.getD 0 0) else if (lowS l (zs.getD 0 0)).length = 0 then (l, 12, 0) else (l, 0, (yakl (lowS l (zs.getD 0 0))).1)) := by subst h4; rfl
    rw [DictP, e]
    generalize zs.getD 0 0 = k at hll
    refine yaar (fun hf => ?_) (fun hf => ?_)
    · rw [if_pos hf]
      exact ⟨_, _, _, _, kb1.cell 0, Blk.cellA kb1 1, boxT na ss yact⟩
    · rw [if_neg (by rw [hf]; simp)]
      refine condP (fun h0 => ?_) (fun h0 => ?_)
      · rw [if_pos (by omega)]
        exact ⟨_, _, _, _, kb1.cell 0, Blk.cellA kb1 1, boxT na ss yagq⟩
      · rw [if_neg (by omega)]
        obtain ⟨w1, _, _⟩ := yaly (xs := l) (key := k) (by omega)
        have ei : Int.toNat (((lowS l k).length : Int) - 1) = (lowS l k).length - 1 := by omega
        refine ⟨_, _, _, _, kb1.cell 0, Blk.cellA kb1 1, _, _, _, Blk.cellA kb1 1, ⟨by omega, by omega⟩, e_key na (s.at B) (by omega) (by omega) ?_⟩
        rw [ei, ← w1]
        exact boxT na ss yact
  · have e : dictS l code zs = (if (lowS l (zs.getD 0 0)).length = l.length then (l, 12, 0) else (l, 0, (yawb (upS l (zs.getD 0 0))).1)) := by subst h5; rfl
    rw [DictP, e]
    generalize zs.getD 0 0 = k at hll
    refine condP (fun h0 => ?_) (fun h0 => ?_)
    · rw [if_pos (by omega)]
      exact ⟨_, _, _, _, kb1.cell 0, Blk.cellA kb1 1, boxT na ss yagq⟩
    · rw [if_neg (by omega)]
      refine ⟨_, _, _, _, kb1.cell 0, Blk.cellA kb1 1, _, _, _, Blk.cellA kb1 1, e_key na (s.at B) (by omega) (by omega) ?_⟩
      rw [Int.toNat_natCast]
      have hud := yagk (xs := l) (key := k)
      rw [List.drop_eq_getElem_cons (by omega)] at hud
      have hg : l.getD (lowS l k).length (0, 0) = l[(lowS l k).length]'(by omega) := by simp [List.getD, (show (lowS l k).length < l.length by omega)]
      rw [hg, ← hud]
      exact boxT na ss yact
  · have e : dictS l code zs = (l, 0, ((lowS l (zs.getD 0 0)).length : Int)) := by subst h6; rfl
    rw [DictP, e]
    exact ⟨_, _, _, _, kb1.cell 0, Blk.cellA kb1 1, boxT na ss yact⟩
  · exact yasi na s (by omega)
theorem yapf {h0 h : Hp} {b1 b2 b3 b4 : Nat} {l : List E} {p q : OA} {n c m cc : Nat} {code : Int} {zs : List Int} {B G : Bag} (na : RowsA (p, n, c) (l.map row2) B) (rz : RdS h0 G TI q m zs) (s : St h0 h (cA b1 [.int .i64 1, .slice p n c] 24 + (cA b2 [.int .i64 code, .slice q m cc] 50 + (cA b3 [.int .i64 0, .slice none 0 0] 24 + (cA b4 [.int .i64 0, .int .i64 0, .slice none 0 0] 58 + (B + G)))))) (hn : n ≤ 1000) (hc : 1 ≤ code ∧ code ≤ 7) (h2 : code = 1 → 2 ≤ zs.length) : zcr_b3 (some ⟨b1, 0, none⟩) (some ⟨b2, 0, none⟩) (some ⟨b3, 0, none⟩) (some ⟨b4, 0, none⟩) (n : Int) (zs.getD 0 0) ((lowS l (zs.getD 0 0)).length : Int) (yabr (upS l (zs.getD 0 0)) (zs.getD 0 0)) h (DictP h0 G l code zs) := by
  have hl : (l.map row2).length = n := yaav na
  rw [List.length_map] at hl
  have kb1 := s.blk
  have kb2 := s.atomBlk
  have hll := yanb (xs := l) (key := zs.getD 0 0)
  rw [zcr_b3]
  have ss : St h0 h (cA b3 [.int .i64 0, .slice none 0 0] 24 + (cA b4 [.int .i64 0, .int .i64 0, .slice none 0 0] 58 + ((cA b1 [.int .i64 1, .slice p n c] 24 + cA b2 [.int .i64 code, .slice q m cc] 50) + (B + G)))) := s.to
  have hrz : RdT TI h q m zs := rz h (cA b1 [.int .i64 1, .slice p n c] 24 + (cA b2 [.int .i64 code, .slice q m cc] 50 + (cA b3 [.int .i64 0, .slice none 0 0] 24 + (cA b4 [.int .i64 0, .int .i64 0, .slice none 0 0] 58 + B)))) s.to
  have hzl := hrz.len
  refine ⟨_, kb2.cell 0, condP (fun h1 => ?_) (fun h1 => ?_)⟩
  · have h2 := h2 h1
    have e : dictS l code zs = (if yabr (upS l (zs.getD 0 0)) (zs.getD 0 0) = true then (lowS l (zs.getD 0 0) ++ (zs.getD 0 0, zs.getD 1 0) :: (upS l (zs.getD 0 0)).tail, 0, 1) else if l.length = 500 then (l, 4, 0) else (lowS l (zs.getD 0 0) ++ (zs.getD 0 0, zs.getD 1 0) :: upS l (zs.getD 0 0), 0, 0)) := by subst h1; rfl
    rw [DictP, e]
    generalize zs.getD 0 0 = k at hll
    refine yaar (fun hf => ?_) (fun hf => ?_)
    · obtain ⟨u1, u2, u3⟩ := yakc hf
      rw [if_pos hf]
      refine ⟨_, _, _, Blk.cellA kb1 1, yadb na (s.at B) (by omega) (by omega) fun q1 l1 d1 Bi Br o hB hset => ⟨_, _, _, Blk.cellA kb2 1, hrz.int (by omega) (by omega) ?_⟩⟩
      rw [Int.toNat_natCast] at o hset
      rw [yaga (by omega)] at o
      have hl1 : 2 = l1 := o.len
      have s1 : St h0 h (Bi + (cA b1 [.int .i64 1, .slice p n c] 24 + (cA b2 [.int .i64 code, .slice q m cc] 50 + (cA b3 [.int .i64 0, .slice none 0 0] 24 + (cA b4 [.int .i64 0, .int .i64 0, .slice none 0 0] 58 + (Br + G)))))) := by rw [hB] at s; exact s.to
      refine o.wrI s1 (by omega) (by omega) rfl rfl fun h' A' o' s' => ?_
      have na' := hset _ A' o'
      have hrow : (l.map row2).set (lowS l k).length ((row2 (l.getD (lowS l k).length (0, 0))).set (Int.toNat (1 : Int)) (zs.getD (Int.toNat (1 : Int)) 0)) = (lowS l k ++ (k, zs.getD 1 0) :: (upS l k).tail).map row2 := by
        have e1 : (row2 (l.getD (lowS l k).length (0, 0))).set (Int.toNat (1 : Int)) (zs.getD (Int.toNat (1 : Int)) 0) = row2 (k, zs.getD 1 0) := by rw [u2]; rfl
        rw [e1, List.set_eq_take_append_cons_drop, if_pos (by rw [List.length_map]; omega), ← List.map_take, ← List.map_drop, u3, yaff, List.map_append, List.map_cons]
      rw [hrow] at na'
      have s2 := s'.to (B := cA b3 [.int .i64 0, .slice none 0 0] 24 + (cA b4 [.int .i64 0, .int .i64 0, .slice none 0 0] 58 + ((cA b1 [.int .i64 1, .slice p n c] 24 + cA b2 [.int .i64 code, .slice q m cc] 50) + (A' + Br + G))))
      have kb1' := (s2.at (cA b1 [.int .i64 1, .slice p n c] 24)).blk
      exact ⟨_, _, _, _, kb1'.cell 0, Blk.cellA kb1' 1, boxT na' s2 yact⟩
    · rw [if_neg (by rw [hf]; simp)]
      refine condP (fun h5 => ?_) (fun h5 => ?_)
      · rw [if_pos (by omega)]
        exact ⟨_, _, _, _, kb1.cell 0, Blk.cellA kb1 1, boxT na ss yagq⟩
      · rw [if_neg (by omega)]
        refine ⟨_, _, _, Blk.cellA kb1 1, _, _, _, Blk.cellA kb2 1, hrz.int (by omega) (by omega) ?_⟩
        refine s.new (cs := [.int .i64 k, .int .i64 (zs.getD (Int.toNat (1 : Int)) 0)]) fun b5 h5 x5 s5 => ⟨⟨_, _, _, Blk.cellA (kb1.ext x5) 1, rfl⟩, ?_⟩
        have o5 : Sl TI (some ⟨b5, 0, none⟩) 2 2 [k, zs.getD 1 0] (cA b5 [.int .i64 k, .int .i64 (zs.getD (Int.toNat (1 : Int)) 0)] 3) := Sl.of_blk (T := TI) (xs := [k, zs.getD 1 0]) rfl rfl
        have s6 := s5.to (B := B + (cA b5 [.int .i64 k, .int .i64 (zs.getD (Int.toNat (1 : Int)) 0)] 3 + (cA b1 [.int .i64 1, .slice p n c] 24 + (cA b2 [.int .i64 code, .slice q m cc] 50 + (cA b3 [.int .i64 0, .slice none 0 0] 24 + (cA b4 [.int .i64 0, .int .i64 0, .slice none 0 0] 58 + G))))))
        refine (yaya na o5 s6 (by omega) (by omega)).mono fun v h' ⟨q', d', B', hv, na', s'⟩ => ⟨_, _, _, hv, ?_⟩
        have s' := s'.to (B := cA b1 [.int .i64 1, .slice p n c] 24 + (cA b2 [.int .i64 code, .slice q m cc] 50 + (cA b3 [.int .i64 0, .slice none 0 0] 24 + (cA b4 [.int .i64 0, .int .i64 0, .slice none 0 0] 58 + (B' + G)))))
        refine s'.wr (o := 1) (yabd _ _ _) (by simp) fun h6 s6 => ?_
        have hrow : (l.map row2).take (lowS l k).length ++ [k, zs.getD 1 0] :: (l.map row2).drop (lowS l k).length = (lowS l k ++ (k, zs.getD 1 0) :: upS l k).map row2 := by
          rw [← List.map_take, ← List.map_drop, yagk, yaff, List.map_append, List.map_cons]
        rw [hrow] at na'
        have s6 : St h0 h6 (cA b1 [.int .i64 1, .slice q' (n + 1) d'] 24 + (cA b2 [.int .i64 code, .slice q m cc] 50 + (cA b3 [.int .i64 0, .slice none 0 0] 24 + (cA b4 [.int .i64 0, .int .i64 0, .slice none 0 0] 58 + (B' + G))))) := s6
        have kb1' := s6.blk
        exact ⟨_, _, _, _, kb1'.cell 0, Blk.cellA kb1' 1, boxT na' (D := cA b1 [.int .i64 1, .slice q' (n + 1) d'] 24 + cA b2 [.int .i64 code, .slice q m cc] 50) s6.to yact⟩
  · refine condP (fun h3 => ?_) (fun h3 => ?_)
    · rw [decide_eq_true h3]
      exact yaho na s hn (.inl h3)
    · rcases Decidable.em (code = 3) with h4 | h4
      · rw [decide_eq_true h4]
        exact yaho na s hn (.inr h4)
      · rw [decide_eq_false h4]
        exact yarf na s hn ⟨by omega, by omega⟩
def cntK (l : List E) (k : Int) : Nat := (l.filter fun e => decide (e.1 < k)).length
def hasK (l : List E) (k : Int) : Bool := l.any fun e => decide (e.1 = k)
theorem yawp {l : List E} {k : Int} (so : Srt l) : cntK l k = (lowS l k).length := by
  unfold cntK
  rw [yaed (xs := l) (key := k)]
  have h1 := yaed (xs := l) (key := k)
  rw [← h1]
  conv => lhs; rw [h1]
  rw [List.filter_append, List.filter_eq_self.2 (fun e he => decide_eq_true (yarl e he)), List.filter_eq_nil_iff.2 (fun e he => by have := up_ge so e he; simp; omega), List.append_nil]
theorem yazy {l : List E} {k : Int} (so : Srt l) : hasK l k = yabr (upS l k) k := by
  have h1 := yaed (xs := l) (key := k)
  by_cases hf : yabr (upS l k) k = true
  · rw [hf]
    cases hu : upS l k with
    | nil => rw [hu] at hf; cases hf
    | cons e es =>
      rw [hu] at hf
      exact List.any_eq_true.2 ⟨e, yanv.mem (by rw [hu]; simp), hf⟩
  · have hf' : yabr (upS l k) k = false := by simpa using hf
    rw [hf']
    unfold hasK
    rw [List.any_eq_false]
    intro e he
    rw [h1] at he
    have hY : Srt (upS l k) := so.sublist yanv
    have hgt := ybak hY (up_ge so) hf'
    rcases List.mem_append.1 he with he | he
    · have := yarl e he; simp; omega
    · have := hgt e he; simp; omega
theorem ybaa {h0 h : Hp} {l : List E} {p q : OA} {n c m cc : Nat} {code : Int} {zs : List Int} {B G : Bag} (so : Srt l) (na : RowsA (p, n, c) (l.map row2) B) (rz : RdS h0 G TI q m zs) (s : St h0 h (B + G)) (hn : n ≤ 1000) (hc : 1 ≤ code ∧ code ≤ 8) (h1 : code ≠ 8 → 1 ≤ zs.length) (h2 : code = 1 → 2 ≤ zs.length) :
    yaae Tryz.prog 73 #[.agg #[.int .i64 1, .slice p n c], .agg #[.int .i64 code, .slice q m cc]] h (DictP h0 G l code zs) := by
  have hl : (l.map row2).length = n := yaav na
  rw [List.length_map] at hl
  refine zcr_call ?_
  rw [zcr_b0]
  refine s.new (cs := [.int .i64 1, .slice p n c]) fun b1 h3 _ s1 => ?_
  refine s1.new (cs := [.int .i64 code, .slice q m cc]) fun b2 h4 _ s2 => ?_
  refine s2.new (cs := [.int .i64 0, .slice none 0 0]) fun b3 h5 _ s3 => ?_
  refine s3.new (cs := [.int .i64 0, .int .i64 0, .slice none 0 0]) fun b4 h6 _ s4 => ?_
  have s4 : St h0 h6 (cA b1 [.int .i64 1, .slice p n c] 24 + (cA b2 [.int .i64 code, .slice q m cc] 50 + (cA b3 [.int .i64 0, .slice none 0 0] 24 + (cA b4 [.int .i64 0, .int .i64 0, .slice none 0 0] 58 + (B + G))))) := s4.to
  have kb1 := s4.blk
  have kb2 := s4.atomBlk
  refine ⟨_, _, _, Blk.cellA kb1 1, _, kb2.cell 0, condP (fun h8 => ?_) (fun h8 => ?_)⟩
  · have e : dictS l code zs = (l, 0, (l.length : Int)) := by subst h8; rfl
    rw [DictP, e]
    rw [hl]
    exact ⟨_, _, _, _, kb1.cell 0, Blk.cellA kb1 1, boxT na (D := cA b1 [.int .i64 1, .slice p n c] 24 + cA b2 [.int .i64 code, .slice q m cc] 50) s4.to yact⟩
  have hrz : RdT TI h6 q m zs := rz h6 (cA b1 [.int .i64 1, .slice p n c] 24 + (cA b2 [.int .i64 code, .slice q m cc] 50 + (cA b3 [.int .i64 0, .slice none 0 0] 24 + (cA b4 [.int .i64 0, .int .i64 0, .slice none 0 0] 58 + B)))) s4.to
  have hzl := hrz.len
  have h1 := h1 h8
  refine ⟨_, _, _, Blk.cellA kb2 1, hrz.int (by omega) (by omega) ?_⟩
  rw [show Int.toNat (0 : Int) = 0 from rfl]
  refine ⟨fun x h' => h' = h6 ∧ ∃ i : Nat, x.2.2.1 = i ∧ i ≤ n ∧ x.1 = (cntK (l.take i) (zs.getD 0 0) : Int) ∧ x.2.1 = hasK (l.take i) (zs.getD 0 0), fun x _ => n - x.2.2.1.toNat, ⟨rfl, 0, rfl, by omega, rfl, rfl⟩, ?_⟩
  rintro ⟨_, _, _, _⟩ h7 ⟨rfl, i, rfl, hin, rfl, rfl⟩
  dsimp only
  rw [zcr_b1]
  refine condP (fun hlt => ?_) (fun hge => ?_)
  · have hil : i < l.length := by omega
    have hcl : cntK (l.take i) (zs.getD 0 0) ≤ i := by
      refine Nat.le_trans (List.length_filter_le _ _) ?_
      rw [List.length_take]; omega
    have e1 : ∀ k, cntK (l.take (i + 1)) k = cntK (l.take i) k + (if (l.getD i (0, 0)).1 < k then 1 else 0) := by
      intro k
      unfold cntK
      rw [yaqo hil, List.filter_append, List.length_append]
      congr 1
      by_cases h : (l.getD i (0, 0)).1 < k
      · rw [if_pos h]; simp only [List.filter_cons, decide_eq_true h, if_true, List.filter_nil, List.length_singleton]
      · rw [if_neg h]; simp only [List.filter_cons, decide_eq_false h, Bool.false_eq_true, if_false, List.filter_nil, List.length_nil]
    have e2 : ∀ k, hasK (l.take (i + 1)) k = (hasK (l.take i) k || decide ((l.getD i (0, 0)).1 = k)) := by
      intro k
      unfold hasK
      rw [yaqo hil, List.any_append]
      simp
    have sB := s4.at B
    have next : ∀ less : Int, less = (cntK (l.take (i + 1)) (zs.getD 0 0) : Int) → zcr_b2 (some ⟨b1, 0, none⟩) (some ⟨b2, 0, none⟩) (some ⟨b3, 0, none⟩) (some ⟨b4, 0, none⟩) (n : Int) (zs.getD 0 0) less (hasK (l.take i) (zs.getD 0 0)) (i : Int) h7 (fun s' h' => (h' = h7 ∧ ∃ i : Nat, s'.2.2.1 = i ∧ i ≤ n ∧ s'.1 = (cntK (l.take i) (zs.getD 0 0) : Int) ∧ s'.2.1 = hasK (l.take i) (zs.getD 0 0)) ∧ n - s'.2.2.1.toNat < n - Int.toNat (i : Int)) (DictP h0 G l code zs) := by
      rintro _ rfl
      rw [zcr_b2]
      have b4' : ∀ there : Bool, there = hasK (l.take (i + 1)) (zs.getD 0 0) → zcr_b4 (some ⟨b1, 0, none⟩) (some ⟨b2, 0, none⟩) (some ⟨b3, 0, none⟩) (some ⟨b4, 0, none⟩) (n : Int) (zs.getD 0 0) (cntK (l.take (i + 1)) (zs.getD 0 0) : Int) there (i : Int) h7 (fun s' h' => (h' = h7 ∧ ∃ i : Nat, s'.2.2.1 = i ∧ i ≤ n ∧ s'.1 = (cntK (l.take i) (zs.getD 0 0) : Int) ∧ s'.2.1 = hasK (l.take i) (zs.getD 0 0)) ∧ n - s'.2.2.1.toNat < n - Int.toNat (i : Int)) (DictP h0 G l code zs) := by
        rintro _ rfl
        rw [zcr_b4]
        exact ⟨⟨by omega, by omega⟩, ⟨rfl, i + 1, by simp only; omega, by omega, rfl, rfl⟩, by simp only; omega⟩
      refine yaar (fun ht => ?_) (fun ht => ?_)
      · exact b4' true (by rw [e2, ht]; rfl)
      · refine ⟨_, _, _, Blk.cellA kb1 1, e_key na sB (by omega) (by omega) ?_⟩
        rw [Int.toNat_natCast]
        exact b4' _ (by rw [e2, ht]; rfl)
    refine ⟨_, _, _, Blk.cellA kb1 1, e_key na sB (by omega) (by omega) ?_⟩
    rw [Int.toNat_natCast]
    refine condP (fun hk => ?_) (fun hk => ?_)
    · exact ⟨⟨by omega, by omega⟩, next _ (by rw [e1, if_pos hk]; push_cast; rfl)⟩
    · exact next _ (by rw [e1, if_neg hk]; rfl)
  · rw [List.take_of_length_le (by omega), yawp so, yazy so]
    exact yapf na rz s4 hn ⟨by omega, by omega⟩ h2
theorem yafn {h0 h : Hp} {p : OA} {n c i b : Nat} {rows : List (List Int)} {x : List Int} {q : OA} {m d : Nat} {B Bx G : Bag} (na : RowsA (p, n, c) rows B) (o : Sl TI q m d x Bx) (s : St h0 h (cA b [.slice q m d] 29 + (B + (Bx + G)))) (hi : i ≤ n) (hn : n < 1000000) :
    yaae Tryz.prog 129 #[.slice p n c, .int .i64 (i : Int), .slice (some ⟨b, 0, none⟩) 1 1] h (fun v h' => ∃ q' d' B', v = .slice q' (n + 1) d' ∧ RowsA (q', n + 1, d') (rows.take i ++ x :: rows.drop i) B' ∧ St h0 h' (B' + G)) := by
  obtain ⟨hs, B0, B1, rfl, h1, h2⟩ := na
  obtain ⟨C1, C2, rfl, c1, c2⟩ := AllH.cut h2 i
  have s1 : St h0 h (B0 + (cA b [.slice q m d] (tS 29).e + (C1 + C2 + (Bx + G)))) := s.to (B := B0 + (cA b [.slice q m d] 29 + (C1 + C2 + (Bx + G))))
  refine (yaqw (x := (q, m, d)) s1 h1 rfl hi hn).mono fun v h' ⟨q', d', B', hv, o', s'⟩ => ⟨q', d', B' + (C1 + (Bx + C2)), hv, ⟨_, B', C1 + (Bx + C2), rfl, o', c1.append ⟨Bx, C2, rfl, o, c2⟩⟩, ?_⟩
  have s' : St h0 h' (B' + (cA b [.slice q m d] 29 + (C1 + C2 + (Bx + G)))) := s'
  exact (s'.to (B := cA b [.slice q m d] 29 + (B' + (C1 + (Bx + C2)) + G))).drop
theorem yaem {h0 h : Hp} {p : OA} {n c i : Nat} {j : Int} {rows : List (List Int)} {B G : Bag} (na : RowsA (p, n, c) rows B) (s : St h0 h (B + G)) (hi : i < n) (hj : j = (i : Int) + 1) (hn : n < 1000000) :
    yaae Tryz.prog 130 #[.slice p n c, .int .i64 (i : Int), .int .i64 j] h (fun v h' => ∃ B', v = .slice p (n - 1) c ∧ RowsA (p, n - 1, c) (rows.take i ++ rows.drop (i + 1)) B' ∧ St h0 h' (B' + G)) := by
  obtain ⟨hs, B0, B1, rfl, h1, h2⟩ := na
  obtain ⟨C1, C2, rfl, c1, c2⟩ := AllH.cut h2 i
  obtain ⟨C3, C4, rfl, _, c4⟩ := AllH.cut c2 1
  rw [List.drop_drop, List.drop_drop] at c4
  refine (yasj (s.to (B := B0 + (C1 + (C3 + C4) + G))) h1 hi hj hn).mono fun v h' ⟨B', hv, o, s'⟩ => ⟨B' + (C1 + C4), hv, ⟨_, B', C1 + C4, rfl, o, c1.append c4⟩, (s'.to (B := C3 + (B' + (C1 + C4) + G))).drop⟩
def yafk (h0 : Hp) (G : Bag) (rows : List (List Int)) (e z : Int) (v : Value) (h' : Hp) : Prop :=
  ∃ q m d B', v = .tuple #[.slice q m d, .agg #[.int .i64 e, .int .i64 z, .slice none 0 0]] ∧ RowsA (q, m, d) rows B' ∧ St h0 h' (B' + G)
theorem mboxW {h0 h : Hp} {b2 : Nat} {y0 y1 y2 : Value} {D B G : Bag} {p : OA} {n c : Nat} {e z : Int} {rows : List (List Int)} (na : RowsA (p, n, c) rows B)
    (s : St h0 h (cA b2 [y0, y1, y2] 58 + (D + (B + G)))) :
    Wr h ⟨b2, 0, none⟩ (.int .i64 e) fun h4 => Wr h4 ((⟨b2, 0, none⟩ : Addr).add 1) (.int .i64 z) fun h5 => Wr h5 ((⟨b2, 0, none⟩ : Addr).add 2) (.slice none 0 0) fun h6 =>
      ∃ r4 : Int, ∃ r5 : Int, ∃ r6 rL2 rC2, cell h6 ⟨b2, 0, none⟩ = some (.int .i64 r4) ∧ cell h6 ((⟨b2, 0, none⟩ : Addr).add 1) = some (.int .i64 r5) ∧ cell h6 ((⟨b2, 0, none⟩ : Addr).add 2) = some (.slice r6 rL2 rC2) ∧
      yafk h0 G rows e z (.tuple #[.slice p n c, .agg #[.int .i64 r4, .int .i64 r5, .slice r6 rL2 rC2]]) h6 := by
  refine s.wr rfl (by simp) fun h8 s8 => ?_
  refine s8.wr (o := 1) (yabd _ _ _) (by simp) fun h9 s9 => ?_
  refine s9.wr (o := 2) (yabd _ _ _) (by simp) fun h10 s10 => ?_
  refine ⟨_, _, _, _, _, s10.blk.cell 0, Blk.cellA s10.blk 1, Blk.cellA s10.blk 2, p, n, c, B, rfl, na, ?_⟩
  exact (s10.drop).drop
theorem mboxT {g : Nat} {args : Array Value} {h0 h : Hp} {b2 : Nat} {y0 y1 y2 : Value} {D B G : Bag} {p : OA} {n c : Nat} {e z : Int} {rows : List (List Int)} (na : RowsA (p, n, c) rows B)
    (s : St h0 h (cA b2 [y0, y1, y2] 58 + (D + (B + G))))
    (hc : yaae Tryz.prog g args h (fun v h' => v = .agg #[.int .i64 e, .int .i64 z, .slice none 0 0] ∧ Ext h h')) :
    yaae Tryz.prog g args h fun v1 h3 => ∃ r1 : Int, ∃ r2 : Int, ∃ (r3 : OA) (rL1 rC1 : Nat), v1 = .agg #[.int .i64 r1, .int .i64 r2, .slice r3 rL1 rC1] ∧
      Wr h3 ⟨b2, 0, none⟩ (.int .i64 r1) fun h4 => Wr h4 ((⟨b2, 0, none⟩ : Addr).add 1) (.int .i64 r2) fun h5 => Wr h5 ((⟨b2, 0, none⟩ : Addr).add 2) (.slice r3 rL1 rC1) fun h6 =>
      ∃ r4 : Int, ∃ r5 : Int, ∃ r6 rL2 rC2, cell h6 ⟨b2, 0, none⟩ = some (.int .i64 r4) ∧ cell h6 ((⟨b2, 0, none⟩ : Addr).add 1) = some (.int .i64 r5) ∧ cell h6 ((⟨b2, 0, none⟩ : Addr).add 2) = some (.slice r6 rL2 rC2) ∧
      yafk h0 G rows e z (.tuple #[.slice p n c, .agg #[.int .i64 r4, .int .i64 r5, .slice r6 rL2 rC2]]) h6 :=
  hc.mono fun _ _ ⟨hv, x⟩ => ⟨_, _, _, _, _, hv, mboxW na (s.grow x)⟩
theorem cmpK2 {l : List E} {k : Int} {j : Nat} (hj : j < l.length) : cmpK (l.map row2) [k] j = cmpS (l.getD j (0, 0)).1 k := by
  rw [cmpK, yaga hj]
  show cmpL [(l.getD j (0, 0)).1] [k] = _
  show (if (l.getD j (0, 0)).1 < k then (-1 : Int) else if k < (l.getD j (0, 0)).1 then 1 else cmpL [] []) = _
  rfl
theorem yaxz {l : List E} {k : Int} (so : Srt l) : (lowS l k).length ≤ l.length ∧ (∀ j, j < (lowS l k).length → cmpK (l.map row2) [k] j < 0) ∧ (∀ j, (lowS l k).length ≤ j → j < l.length → 0 ≤ cmpK (l.map row2) [k] j) ∧
    decide ((lowS l k).length < l.length ∧ cmpK (l.map row2) [k] (lowS l k).length = 0) = yabr (upS l k) k := by
  have hll := yanb (xs := l) (key := k)
  have hu := yaed (xs := l) (key := k)
  refine ⟨hll, fun j hj => ?_, fun j hj hjl => ?_, ?_⟩
  · rw [cmpK2 (by omega)]
    have hm : l.getD j (0, 0) ∈ lowS l k := by
      have : l.getD j (0, 0) = (lowS l k)[j] := by
        conv => lhs; rw [hu]
        simp [List.getD, List.getElem?_append_left hj, hj]
      rw [this]; exact List.getElem_mem hj
    have := yarl _ hm
    rw [cmpS, if_pos this]; decide
  · rw [cmpK2 hjl]
    have hm : l.getD j (0, 0) ∈ upS l k := by
      have hd := yagk (xs := l) (key := k)
      have : l.getD j (0, 0) = l[j] := by simp [List.getD, hjl]
      rw [this, ← hd]
      exact List.mem_drop_iff_getElem.2 ⟨j - (lowS l k).length, by omega, by simp only [show (lowS l k).length + (j - (lowS l k).length) = j by omega]⟩
    have := up_ge so _ hm
    unfold cmpS
    split
    · omega
    · split <;> omega
  · by_cases hf : yabr (upS l k) k = true
    · obtain ⟨u1, u2, _⟩ := yakc hf
      rw [hf]
      refine decide_eq_true ⟨u1, ?_⟩
      rw [cmpK2 u1, u2, cmpS, if_neg (by omega), if_neg (by omega)]
    · have hf' : yabr (upS l k) k = false := by simpa using hf
      rw [hf']
      refine decide_eq_false fun ⟨h1, h2⟩ => hf ?_
      have hd := yagk (xs := l) (key := k)
      rw [List.drop_eq_getElem_cons h1] at hd
      rw [cmpK2 h1] at h2
      have hg : l.getD (lowS l k).length (0, 0) = l[(lowS l k).length] := by simp [List.getD, h1]
      rw [hg] at h2
      rw [← hd]
      refine decide_eq_true ?_
      unfold cmpS at h2
      split at h2
      · cases h2
      · split at h2
        · cases h2
        · omega
section
variable {h0 h : Hp} {b1 b2 : Nat} {l : List E} {p q : OA} {n c m cc : Nat} {code : Int} {zs : List Int} {B G : Bag}
abbrev yaip (h0 : Hp) (G : Bag) (l : List E) (c : Int) (zs : List Int) : VK := yafk h0 G ((dictS l c zs).1.map row2) (dictS l c zs).2.1 (dictS l c zs).2.2
theorem yany (na : RowsA (p, n, c) (l.map row2) B) (s : St h0 h (cA b2 [.int .i64 0, .int .i64 0, .slice none 0 0] 58 + (cA b1 [.int .i64 code, .slice q m cc] 50 + (B + G)))) (hn : n ≤ 1000) (hc : code = 2 ∨ code = 3) :
    zbn_b2 p n c (some ⟨b1, 0, none⟩) (some ⟨b2, 0, none⟩) ((lowS l (zs.getD 0 0)).length : Int) (yabr (upS l (zs.getD 0 0)) (zs.getD 0 0)) h (yaip h0 G l code zs) := by
  have hl : (l.map row2).length = n := yaav na
  rw [List.length_map] at hl
  have kb1 := s.atomBlk
  have e : dictS l code zs = (if yabr (upS l (zs.getD 0 0)) (zs.getD 0 0) = true then (if code = 3 then lowS l (zs.getD 0 0) ++ (upS l (zs.getD 0 0)).tail else l, 0, valOf (upS l (zs.getD 0 0))) else (l, 12, 0)) := by
    rcases hc with rfl | rfl <;> rfl
  rw [yaip, e, zbn_b2]
  generalize zs.getD 0 0 = k
  by_cases hf : yabr (upS l k) k = true
  · obtain ⟨u1, u2, u3⟩ := yakc hf
    rw [if_pos hf, hf]
    refine yaat rfl (e_val na (s.at B) (by omega) (by omega) ?_)
    rw [Int.toNat_natCast, u2]
    refine ⟨_, kb1.cell 0, condP (fun h3 => ?_) (fun h3 => ?_)⟩
    · rw [if_pos h3]
      refine ⟨⟨by omega, by omega⟩, ?_⟩
      refine (yaem na (s.to (B := B + (cA b2 [.int .i64 0, .int .i64 0, .slice none 0 0] 58 + (cA b1 [.int .i64 code, .slice q m cc] 50 + G)))) (by omega) rfl (by omega)).mono fun v h' ⟨B', hv, na', s'⟩ => ⟨_, _, _, hv, ?_⟩
      have hrow : (l.map row2).take (lowS l k).length ++ (l.map row2).drop ((lowS l k).length + 1) = (lowS l k ++ (upS l k).tail).map row2 := by
        rw [← List.map_take, ← List.map_drop, u3, yaff, ← List.map_append]
      rw [hrow] at na'
      rw [zbn_b3]
      exact mboxT na' (s'.to (B := cA b2 [.int .i64 0, .int .i64 0, .slice none 0 0] 58 + (cA b1 [.int .i64 code, .slice q m cc] 50 + (B' + G)))) (yaan _ _)
    · rw [if_neg h3, zbn_b3]
      exact mboxT na s (yaan _ _)
  · have hf' : yabr (upS l k) k = false := by simpa using hf
    rw [if_neg hf, hf']
    exact yaaw rfl (mboxT na s (yaas _ _))
theorem yaxc (so : Srt l) (na : RowsA (p, n, c) (l.map row2) B) (rz : RdS h0 G TI q m zs) (hmc : m ≤ cc) (s : St h0 h (B + G)) (hn : n ≤ 1000) (hc : 1 ≤ code ∧ code ≤ 8) (h1 : code ≠ 8 → 1 ≤ zs.length) (h2 : code = 1 → zs.length = 2) :
    yaae Tryz.prog 92 #[.slice p n c, .agg #[.int .i64 code, .slice q m cc]] h (yaip h0 G l code zs) := by
  have hl : (l.map row2).length = n := yaav na
  rw [List.length_map] at hl
  refine zbn_call ?_
  rw [zbn_b0]
  refine s.new (cs := [.int .i64 code, .slice q m cc]) fun b1 h3 _ s1 => ?_
  refine s1.new (cs := [.int .i64 0, .int .i64 0, .slice none 0 0]) fun b2 h4 _ s2 => ?_
  have s2 : St h0 h4 (cA b2 [.int .i64 0, .int .i64 0, .slice none 0 0] 58 + (cA b1 [.int .i64 code, .slice q m cc] 50 + (B + G))) := s2
  have kb1 := s2.atomBlk
  refine ⟨_, kb1.cell 0, condP (fun h8 => ?_) (fun h8 => ?_)⟩
  · have e : dictS l code zs = (l, 0, (l.length : Int)) := by subst h8; rfl
    rw [yaip, e, hl]
    exact mboxT na s2 (yaan _ _)
  have hrz : RdT TI h4 q m zs := rz h4 (cA b2 [.int .i64 0, .int .i64 0, .slice none 0 0] 58 + (cA b1 [.int .i64 code, .slice q m cc] 50 + B)) s2.to
  have hzl := hrz.len
  have h1 := h1 h8
  have e0 : Int.toNat (0 : Int) = 0 := rfl
  have e1 : Int.toNat (1 : Int) = 1 := rfl
  refine ⟨_, kb1.cell 0, condP (fun h7 => ?_) (fun h7 => ?_)⟩
  · have e : dictS l code zs = (if zs.getD 0 0 < 0 ∨ (l.length : Int) ≤ zs.getD 0 0 then (l, 2, 0) else (l, 0, (l.getD (zs.getD 0 0).toNat (0, 0)).1)) := by
      subst h7; rfl
    refine ⟨_, _, _, Blk.cellA kb1 1, hrz.int (by omega) (by omega) ?_⟩
    rw [yaip, e, e0]
    generalize zs.getD 0 0 = k
    refine condP (fun h5 => condP (fun h6 => ?_) (fun h6 => ?_)) (fun h5 => ?_)
    · rw [if_neg (by omega)]
      refine e_key na (s2.at B) (by omega) (by omega) ?_
      exact mboxT na s2 (yaan _ _)
    · rw [if_pos (.inr (by omega)), zbn_b1]
      exact mboxT na s2 (yaas _ _)
    · rw [if_pos (.inl (by omega)), zbn_b1]
      exact mboxT na s2 (yaas _ _)
  refine ⟨_, _, _, Blk.cellA kb1 1, ⟨by omega, by omega, by omega⟩, ?_⟩
  rw [e0, e1, yabx, Nat.sub_zero]
  have hz1 : zs.take 1 = [zs.getD 0 0] := by
    cases zs with
    | nil => simp at h1
    | cons z zs => simp
  have rk : RdT TI h4 q 1 [zs.getD 0 0] := by rw [← hz1]; exact hrz.take (by omega)
  obtain ⟨f1, f2, f3, f4⟩ := yaxz (k := zs.getD 0 0) so
  refine (yarj (t := (lowS l (zs.getD 0 0)).length) na (s2.to (B := B + (cA b2 [.int .i64 0, .int .i64 0, .slice none 0 0] 58 + (cA b1 [.int .i64 code, .slice q m cc] 50 + G)))) rk (by omega) (fun r hr => by obtain ⟨e, _, rfl⟩ := List.mem_map.1 hr; simp) ⟨by omega, f2, fun j h1 h2 => f3 j h1 (by omega)⟩).mono fun v h5 ⟨hv, hh⟩ => ⟨_, _, hv, ?_⟩
  subst hh
  rw [← hl, f4, hl]
  refine ⟨_, kb1.cell 0, condP (fun hp => ?_) (fun hp => ?_)⟩
  · have h2 := h2 hp
    have e : dictS l code zs = (if yabr (upS l (zs.getD 0 0)) (zs.getD 0 0) = true then (lowS l (zs.getD 0 0) ++ (zs.getD 0 0, zs.getD 1 0) :: (upS l (zs.getD 0 0)).tail, 0, 1) else if l.length = 500 then (l, 4, 0) else (lowS l (zs.getD 0 0) ++ (zs.getD 0 0, zs.getD 1 0) :: upS l (zs.getD 0 0), 0, 0)) := by subst hp; rfl
    have hz2 : zs = [zs.getD 0 0, zs.getD 1 0] := by
      match zs, h2 with
      | [a, b], _ => rfl
    rw [yaip, e]
    refine yaar (fun hf => ?_) (fun hf => ?_)
    · obtain ⟨u1, u2, u3⟩ := yakc hf
      rw [if_pos hf]
      refine yadb na (s2.at B) (by omega) (by omega) fun q1 l1 d1 Bi Br o hB hset => ⟨_, _, _, Blk.cellA kb1 1, hrz.int (by omega) (by omega) ?_⟩
      rw [Int.toNat_natCast] at o hset
      rw [yaga (by omega)] at o
      have hl1 : 2 = l1 := o.len
      have s3 : St h0 h5 (Bi + (cA b2 [.int .i64 0, .int .i64 0, .slice none 0 0] 58 + (cA b1 [.int .i64 code, .slice q m cc] 50 + (Br + G)))) := by rw [hB] at s2; exact s2.to
      refine o.wrI s3 (by omega) (by omega) rfl rfl fun h' A' o' s' => ?_
      have na' := hset _ A' o'
      have hrow : (l.map row2).set (lowS l (zs.getD 0 0)).length ((row2 (l.getD (lowS l (zs.getD 0 0)).length (0, 0))).set (Int.toNat (1 : Int)) (zs.getD (Int.toNat (1 : Int)) 0)) = (lowS l (zs.getD 0 0) ++ (zs.getD 0 0, zs.getD 1 0) :: (upS l (zs.getD 0 0)).tail).map row2 := by
        have e1 : (row2 (l.getD (lowS l (zs.getD 0 0)).length (0, 0))).set (Int.toNat (1 : Int)) (zs.getD (Int.toNat (1 : Int)) 0) = row2 (zs.getD 0 0, zs.getD 1 0) := by rw [u2]; rfl
        rw [e1, List.set_eq_take_append_cons_drop, if_pos (by rw [List.length_map]; omega), ← List.map_take, ← List.map_drop, u3, yaff, List.map_append, List.map_cons]
      rw [hrow] at na'
      exact mboxT na' (s'.to (B := cA b2 [.int .i64 0, .int .i64 0, .slice none 0 0] 58 + (cA b1 [.int .i64 code, .slice q m cc] 50 + (A' + Br + G)))) (yaan _ _)
    · rw [if_neg (by rw [hf]; simp)]
      refine condP (fun h5 => ?_) (fun h5 => ?_)
      · rw [if_pos (by omega)]
        exact mboxT na s2 (yaas _ _)
      · rw [if_neg (by omega)]
        refine ⟨_, _, _, Blk.cellA kb1 1, (yaeu hrz (by omega)).mono fun v6 h6 ⟨q6, d6, A6, hv6, o6, t6⟩ => ⟨_, _, _, hv6, ?_⟩⟩
        have s6 := s2.join t6
        refine s6.new (cs := [.slice q6 m d6]) fun b3 h7 x7 s7 => ?_
        have s7 := s7.to (B := cA b3 [.slice q6 m d6] 29 + (B + (A6 + (cA b2 [.int .i64 0, .int .i64 0, .slice none 0 0] 58 + (cA b1 [.int .i64 code, .slice q m cc] 50 + G)))))
        refine (yafn na o6 s7 (by omega) (by omega)).mono fun v8 h8 ⟨q', d', B', hv8, na', s8⟩ => ⟨_, _, _, hv8, ?_⟩
        have hrow : (l.map row2).take (lowS l (zs.getD 0 0)).length ++ zs :: (l.map row2).drop (lowS l (zs.getD 0 0)).length = (lowS l (zs.getD 0 0) ++ (zs.getD 0 0, zs.getD 1 0) :: upS l (zs.getD 0 0)).map row2 := by
          rw [← List.map_take, ← List.map_drop, yagk, yaff, List.map_append, List.map_cons]
          show _ ++ zs :: _ = _ ++ [zs.getD 0 0, zs.getD 1 0] :: _
          rw [← hz2]
        rw [hrow] at na'
        exact mboxT na' (s8.to (B := cA b2 [.int .i64 0, .int .i64 0, .slice none 0 0] 58 + (cA b1 [.int .i64 code, .slice q m cc] 50 + (B' + G)))) (yaan _ _)
  refine condP (fun h6 => ?_) (fun h6 => condP (fun h4 => ?_) (fun h4 => condP (fun h5 => ?_) (fun h5 => ?_)))
  · have e : dictS l code zs = (l, 0, ((lowS l (zs.getD 0 0)).length : Int)) := by subst h6; rfl
    rw [yaip, e]
    exact mboxT na s2 (yaan _ _)
  · have e : dictS l code zs = (if yabr (upS l (zs.getD 0 0)) (zs.getD 0 0) = true then (l, 0, zs.getD 0 0) else if (lowS l (zs.getD 0 0)).length = 0 then (l, 12, 0) else (l, 0, (yakl (lowS l (zs.getD 0 0))).1)) := by subst h4; rfl
    rw [yaip, e]
    refine yaar (fun hf => ?_) (fun hf => ?_)
    · rw [if_pos hf]
      refine ⟨_, _, _, Blk.cellA kb1 1, hrz.int (by omega) (by omega) ?_⟩
      exact mboxT na s2 (yaan _ _)
    · rw [if_neg (by rw [hf]; simp)]
      refine condP (fun h0 => ?_) (fun h0 => ?_)
      · rw [if_pos (by omega)]
        exact mboxT na s2 (yaas _ _)
      · rw [if_neg (by omega)]
        obtain ⟨w1, _, _⟩ := yaly (xs := l) (key := zs.getD 0 0) (by omega)
        have ei : Int.toNat (((lowS l (zs.getD 0 0)).length : Int) - 1) = (lowS l (zs.getD 0 0)).length - 1 := by omega
        refine ⟨⟨by omega, by omega⟩, e_key na (s2.at B) (by omega) (by omega) ?_⟩
        rw [ei, ← w1]
        exact mboxT na s2 (yaan _ _)
  · have e : dictS l code zs = (if (lowS l (zs.getD 0 0)).length = l.length then (l, 12, 0) else (l, 0, (yawb (upS l (zs.getD 0 0))).1)) := by subst h5; rfl
    rw [yaip, e]
    refine condP (fun h0 => ?_) (fun h0 => ?_)
    · rw [if_pos (by omega)]
      exact mboxT na s2 (yaas _ _)
    · rw [if_neg (by omega)]
      refine e_key na (s2.at B) (by omega) (by omega) ?_
      rw [Int.toNat_natCast]
      have hud := yagk (xs := l) (key := zs.getD 0 0)
      rw [List.drop_eq_getElem_cons (by omega)] at hud
      have hg : l.getD (lowS l (zs.getD 0 0)).length (0, 0) = l[(lowS l (zs.getD 0 0)).length]'(by omega) := by rw [List.getD_eq_getElem?_getD, List.getElem?_eq_getElem (by omega)]; rfl
      rw [hg, ← hud]
      exact mboxT na s2 (yaan _ _)
  · exact yany na s2 hn (by omega)
end
abbrev OpT := Int × SH
abbrev tO : Ty OpT := ⟨50, 2, fun x => [.int .i64 x.1, .slice x.2.1 x.2.2.1 x.2.2.2], (0, none, 0, 0), fun _ => rfl, by decide, fun _ v hv => by simp at hv; rcases hv with rfl | rfl <;> rfl⟩
abbrev OpL := Int × List Int
def OpsR (h : Hp) (p : OA) (n : Nat) (ops : List OpL) : Prop :=
  ∃ l : List OpT, RdT tO h p n l ∧ ops.length = n ∧ ∀ i, i < n → (l.getD i tO.d).1 = (ops.getD i (0, [])).1 ∧ (l.getD i tO.d).2.2.1 ≤ (l.getD i tO.d).2.2.2 ∧ RdT TI h (l.getD i tO.d).2.1 (l.getD i tO.d).2.2.1 (ops.getD i (0, [])).2
theorem OpsR.len {h : Hp} {p : OA} {n : Nat} {ops : List OpL} (r : OpsR h p n ops) : ops.length = n := let ⟨_, _, hl, _⟩ := r; hl
theorem OpsR.ext {h h' : Hp} {p : OA} {n : Nat} {ops : List OpL} (r : OpsR h p n ops) (x : Ext h h') : OpsR h' p n ops :=
  let ⟨l, r1, hl, hk⟩ := r; ⟨l, r1.ext x, hl, fun i hi => ⟨(hk i hi).1, (hk i hi).2.1, (hk i hi).2.2.ext x⟩⟩
theorem OpsR.at_ {h h1 : Hp} {p : OA} {n : Nat} {ops : List OpL} {i : Int} {Q : Int → OA → Nat → Nat → Prop} (r : OpsR h p n ops) (x : Ext h h1) (h0 : 0 ≤ i) (hi : i < n)
    (hq : ∀ q m c, m ≤ c → RdT TI h q m (ops.getD i.toNat (0, [])).2 → Q (ops.getD i.toNat (0, [])).1 q m c) :
    (0 ≤ i ∧ i < (n : Int)) ∧ NN p fun a => ∃ x : Int, ∃ y z w, cell h1 (a.add (Int.toNat i * 2)) = some (.int .i64 x) ∧ cell h1 ((a.add (Int.toNat i * 2)).add 1) = some (.slice y z w) ∧ Q x y z w := by
  obtain ⟨l, r1, hl, hk⟩ := r
  obtain ⟨k1, k2, k3⟩ := hk i.toNat (by omega)
  refine (r1.ext x).idx h0 hi fun _ _ hc => ⟨_, _, _, _, hc 0 (show 0 < 2 by decide), hc 1 (show 1 < 2 by decide), ?_⟩
  rw [k1]
  exact hq _ _ _ k2 k3
theorem OpsR.mk' {h : Hp} {p : OA} {n : Nat} {l : List OpT} (r : RdT tO h p n l) (hz : ∀ x ∈ l, x.2.2.1 ≤ x.2.2.2 ∧ ∃ zs, RdT TI h x.2.1 x.2.2.1 zs) : ∃ ops, OpsR h p n ops := by
  have hl := r.len
  have : ∃ ops : List OpL, ops.length = l.length ∧ ∀ i, i < l.length → (l.getD i tO.d).1 = (ops.getD i (0, [])).1 ∧ (l.getD i tO.d).2.2.1 ≤ (l.getD i tO.d).2.2.2 ∧ RdT TI h (l.getD i tO.d).2.1 (l.getD i tO.d).2.2.1 (ops.getD i (0, [])).2 := by
    clear r hl
    induction l with
    | nil => exact ⟨[], rfl, fun i hi => by simp at hi⟩
    | cons x l ih =>
      obtain ⟨ops, e, hk⟩ := ih fun y hy => hz y (List.mem_cons_of_mem _ hy)
      obtain ⟨hc, zs, rz⟩ := hz x List.mem_cons_self
      refine ⟨(x.1, zs) :: ops, by simp [e], fun i hi => ?_⟩
      cases i with
      | zero => exact ⟨rfl, hc, rz⟩
      | succ i => simpa using hk i (by simpa using hi)
  obtain ⟨ops, e, hk⟩ := this
  exact ⟨ops, l, r, by omega, fun i hi => hk i (by omega)⟩
theorem yaal {α : Type} {l : List α} {i : Nat} {d : α} (h : i < l.length) : l.getD i d ∈ l := by
  rw [List.getD_eq_getElem?_getD, List.getElem?_eq_getElem h]
  exact List.getElem_mem h
theorem yagu {h0 h : Hp} {p : OA} {n c : Nat} {q : OA} {m d : Nat} {xs : List (List Int)} {x : List Int} {A B G : Bag} {e' : TypeId} {k : OA → Nat → Nat → Hp → Prop}
    (s : St h0 h (A + (B + G))) (a : RowsA (p, n, c) xs A) (b : RowP (q, m, d) x B) (he : e' = 29) (hn : n + 1 < 1073741824)
    (hk : ∀ p' c' h' A', RowsA (p', n + 1, c') (xs ++ [x]) A' → St h0 h' (A' + G) → k p' (n + 1) c' h') :
    New h (.cells #[.slice q m d] e') fun b h1 => yaau Tryz.prog 22 22 (.slice p n c) (.slice (some ⟨b, 0, none⟩) 1 1) h1 (slK k) := by
  subst he
  obtain ⟨hs, B0, B1, rfl, h1, h2⟩ := a
  refine s.new (cs := [.slice q m d]) fun b h3 x3 s3 => ?_
  have sx : Sl TR (some ⟨b, 0, none⟩) 1 1 [(q, m, d)] (cA b [.slice q m d] 29) := Sl.of_blk (T := TR) (xs := [(q, m, d)]) rfl rfl
  refine yabf yalk (s3.to (B := B0 + (cA b [.slice q m d] 29 + (B1 + (B + G))))) h1 (sx.rd s3) hn fun p' c' h' A' a' s' => ?_
  have s5 := (s'.to (B := cA b [.slice q m d] 29 + (A' + (B1 + B) + G))).drop
  exact hk p' c' h' (A' + (B1 + B)) ⟨hs ++ [(q, m, d)], A', B1 + B, rfl, a', h2.append (AllH.one ‹RowP (q, m, d) x B›)⟩ s5
abbrev row1 (k : Int) : List Int := [k]
def insI (k : Int) (l : List Int) : List Int := l.takeWhile (fun z => decide (z < k)) ++ k :: l.dropWhile (fun z => decide (z < k))
def heapS (l : List Int) (c : Int) (zs : List Int) : List Int × Int × Int :=
  if c = 4 then (l, 0, (l.length : Int)) else if c = 1 then (if l.length = 500 then (l, 4, 0) else (insI (zs.getD 0 0) l, 0, 0))
  else if l.length = 0 then (l, 14, 0) else if c = 3 then (l.tail, 0, l.getD 0 0) else (l, 0, l.getD 0 0)
theorem yael {l : List Int} {i : Nat} (h : i < l.length) : (l.map row1).getD i [] = [l.getD i 0] := by
  rw [List.getD_eq_getElem?_getD, List.getElem?_map, List.getElem?_eq_getElem h, List.getD_eq_getElem?_getD, List.getElem?_eq_getElem h]; rfl
theorem cmpK1 {l : List Int} {k : Int} {j : Nat} (hj : j < l.length) : cmpK (l.map row1) [k] j = cmpS (l.getD j 0) k := by
  rw [cmpK, yael hj]
  show (if l.getD j 0 < k then (-1 : Int) else if k < l.getD j 0 then 1 else cmpL [] []) = _
  rfl
theorem yaup {l : List Int} {key : Int} (so : l.Pairwise (· ≤ ·)) : ∀ x ∈ l.dropWhile (fun z => decide (z < key)), key ≤ x := by
  induction l with
  | nil => intro x hx; cases hx
  | cons a l ih =>
    have h := List.pairwise_cons.1 so
    intro x hx
    rw [List.dropWhile_cons] at hx
    by_cases ha : a < key
    · rw [if_pos (decide_eq_true ha)] at hx; exact ih h.2 x hx
    · rw [if_neg (by simpa using ha)] at hx
      rcases List.mem_cons.1 hx with rfl | hx
      · omega
      · have := h.1 x hx; omega
theorem lb_of {l : List Int} {key : Int} (so : l.Pairwise (· ≤ ·)) : (l.takeWhile fun z => decide (z < key)).length ≤ l.length ∧ (∀ j, j < (l.takeWhile fun z => decide (z < key)).length → l.getD j 0 < key) ∧ ∀ j, (l.takeWhile fun z => decide (z < key)).length ≤ j → j < l.length → key ≤ l.getD j 0 := by
  have e := (List.takeWhile_append_dropWhile (p := fun z : Int => decide (z < key)) (l := l)).symm
  have hD := yaup (key := key) so
  have hT : ∀ x ∈ l.takeWhile (fun z => decide (z < key)), x < key := fun x hx => of_decide_eq_true (List.all_eq_true.1 (List.all_takeWhile (p := fun z : Int => decide (z < key)) (l := l)) x hx)
  generalize l.takeWhile (fun z => decide (z < key)) = T at *
  generalize l.dropWhile (fun z => decide (z < key)) = D at *
  subst e
  refine ⟨by rw [List.length_append]; omega, fun j hj => ?_, fun j hj hjl => ?_⟩
  · rw [yaac (by rw [List.length_append]; omega), List.getElem_append_left hj]
    exact hT _ (List.getElem_mem hj)
  · rw [yaac hjl, List.getElem_append_right hj]
    exact hD _ (List.getElem_mem _)
theorem yady {α : Type} {xs X Y : List α} (h : xs = X ++ Y) : xs.take X.length = X ∧ xs.drop X.length = Y := by subst h; exact ⟨List.take_left' rfl, List.drop_left' rfl⟩
section
variable {h0 h : Hp} {b1 b2 : Nat} {l : List Int} {p q : OA} {n c m cc : Nat} {code : Int} {zs : List Int} {B G : Bag}
abbrev yass (h0 : Hp) (G : Bag) (l : List Int) (c : Int) (zs : List Int) : VK := yafk h0 G ((heapS l c zs).1.map row1) (heapS l c zs).2.1 (heapS l c zs).2.2
theorem yaxp (so : l.Pairwise (· ≤ ·)) (na : RowsA (p, n, c) (l.map row1) B) (rz : RdS h0 G TI q m zs) (hmc : m ≤ cc) (s : St h0 h (B + G)) (hn : n ≤ 1000) (hc : 1 ≤ code ∧ code ≤ 4) (h1 : code = 1 → zs.length = 1) :
    yaae Tryz.prog 93 #[.slice p n c, .agg #[.int .i64 code, .slice q m cc]] h (yass h0 G l code zs) := by
  have hl : (l.map row1).length = n := yaav na
  rw [List.length_map] at hl
  refine zbr_call ?_
  rw [zbr_b0]
  refine s.new (cs := [.int .i64 code, .slice q m cc]) fun b1 h3 _ s1 => ?_
  refine s1.new (cs := [.int .i64 0, .int .i64 0, .slice none 0 0]) fun b2 h4 _ s2 => ?_
  have s2 : St h0 h4 (cA b2 [.int .i64 0, .int .i64 0, .slice none 0 0] 58 + (cA b1 [.int .i64 code, .slice q m cc] 50 + (B + G))) := s2
  have kb1 := s2.atomBlk
  refine ⟨_, kb1.cell 0, condP (fun h8 => ?_) (fun h8 => ?_)⟩
  · have e : heapS l code zs = (l, 0, (l.length : Int)) := by subst h8; rfl
    rw [yass, e, hl]
    exact mboxT na s2 (yaan _ _)
  refine condP (fun hp => condP (fun h5 => ?_) (fun h5 => ?_)) (fun hp => ?_)
  · have e : heapS l code zs = (if l.length = 500 then (l, 4, 0) else (insI (zs.getD 0 0) l, 0, 0)) := by subst hp; rfl
    rw [yass, e, if_pos (by omega)]
    exact mboxT na s2 (yaas _ _)
  · have e : heapS l code zs = (if l.length = 500 then (l, 4, 0) else (insI (zs.getD 0 0) l, 0, 0)) := by subst hp; rfl
    rw [yass, e, if_neg (by omega)]
    have hrz : RdT TI h4 q m zs := rz h4 (cA b2 [.int .i64 0, .int .i64 0, .slice none 0 0] 58 + (cA b1 [.int .i64 code, .slice q m cc] 50 + B)) s2.to
    have hzl := hrz.len
    have h1 := h1 hp
    have hz : zs = [zs.getD 0 0] := by match zs, h1 with | [a], _ => rfl
    have rk : RdT TI h4 q m [zs.getD 0 0] := by rw [← hz]; exact hrz
    obtain ⟨f1, f2, f3⟩ := lb_of (key := zs.getD 0 0) so
    refine ⟨_, _, _, Blk.cellA kb1 1, ?_⟩
    refine (yarj (t := (l.takeWhile fun z => decide (z < zs.getD 0 0)).length) na (s2.to (B := B + (cA b2 [.int .i64 0, .int .i64 0, .slice none 0 0] 58 + (cA b1 [.int .i64 code, .slice q m cc] 50 + G)))) rk (by omega) (fun r hr => by obtain ⟨e, _, rfl⟩ := List.mem_map.1 hr; simp; omega)
      ⟨by omega, fun j hj => by rw [cmpK1 (by omega)]; have : l.getD j 0 < zs.getD 0 0 := f2 j hj; unfold cmpS; rw [if_pos this]; decide, fun j hj hjn => by rw [cmpK1 (by omega)]; have : zs.getD 0 0 ≤ l.getD j 0 := f3 j hj (by omega); unfold cmpS; rw [if_neg (by omega)]; split <;> decide⟩).mono fun v h5 ⟨hv, hh⟩ => ⟨_, _, hv, ?_⟩
    subst hh
    refine ⟨_, _, _, Blk.cellA kb1 1, (yaeu hrz (by omega)).mono fun v6 h6 ⟨q6, d6, A6, hv6, o6, t6⟩ => ⟨_, _, _, hv6, ?_⟩⟩
    have s6 := s2.join t6
    refine s6.new (cs := [.slice q6 m d6]) fun b3 h7 x7 s7 => ?_
    have s7 := s7.to (B := cA b3 [.slice q6 m d6] 29 + (B + (A6 + (cA b2 [.int .i64 0, .int .i64 0, .slice none 0 0] 58 + (cA b1 [.int .i64 code, .slice q m cc] 50 + G)))))
    refine (yafn na o6 s7 (by omega) (by omega)).mono fun v8 h8 ⟨q', d', B', hv8, na', s8⟩ => ⟨_, _, _, hv8, ?_⟩
    have hrow : (l.map row1).take (l.takeWhile fun z => decide (z < zs.getD 0 0)).length ++ zs :: (l.map row1).drop (l.takeWhile fun z => decide (z < zs.getD 0 0)).length = (insI (zs.getD 0 0) l).map row1 := by
      have e := (List.takeWhile_append_dropWhile (p := fun z : Int => decide (z < zs.getD 0 0)) (l := l)).symm
      obtain ⟨e1, e2⟩ := yady e
      rw [← List.map_take, ← List.map_drop, e1, e2, insI, List.map_append, List.map_cons]
      show _ ++ zs :: _ = _ ++ [zs.getD 0 0] :: _
      rw [← hz]
    rw [hrow] at na'
    exact mboxT na' (s8.to (B := cA b2 [.int .i64 0, .int .i64 0, .slice none 0 0] 58 + (cA b1 [.int .i64 code, .slice q m cc] 50 + (B' + G)))) (yaan _ _)
  · have e : heapS l code zs = (if l.length = 0 then (l, 14, 0) else if code = 3 then (l.tail, 0, l.getD 0 0) else (l, 0, l.getD 0 0)) := by
      unfold heapS; rw [if_neg h8, if_neg hp]
    rw [yass, e, zbr_b1]
    refine condP (fun h0 => ?_) (fun h0 => ?_)
    · rw [if_pos (by omega)]
      exact mboxT na s2 (yaas _ _)
    · rw [if_neg (by omega)]
      refine yaim na (s2.at B) (by omega) (by omega) (by omega) (by rw [show Int.toNat (0 : Int) = 0 from rfl, yael (by omega)]; simp) ?_
      rw [show Int.toNat (0 : Int) = 0 from rfl, yael (by omega)]
      refine ⟨_, kb1.cell 0, condP (fun h3 => ?_) (fun h3 => ?_)⟩
      · rw [if_pos h3]
        refine (yaem (i := 0) na (s2.to (B := B + (cA b2 [.int .i64 0, .int .i64 0, .slice none 0 0] 58 + (cA b1 [.int .i64 code, .slice q m cc] 50 + G)))) (by omega) rfl (by omega)).mono fun v h' ⟨B', hv, na', s'⟩ => ⟨_, _, _, hv, ?_⟩
        have hrow : (l.map row1).take 0 ++ (l.map row1).drop (0 + 1) = l.tail.map row1 := by
          rw [List.take_zero, List.nil_append, ← List.map_drop, List.drop_one]
        rw [hrow] at na'
        rw [zbr_b2]
        exact mboxT na' (s'.to (B := cA b2 [.int .i64 0, .int .i64 0, .slice none 0 0] 58 + (cA b1 [.int .i64 code, .slice q m cc] 50 + (B' + G)))) (yaan _ _)
      · rw [if_neg h3, zbr_b2]
        exact mboxT na s2 (yaan _ _)
end
section
variable {h0 h : Hp} {b1 b2 b3 b4 : Nat} {p q : OA} {n c m cc : Nat} {k code e z : Int} {rows : List (List Int)} {x0 x1 y0 y1 y2 : Value} {B G : Bag}
abbrev refA (b1 b2 b3 b4 : Nat) (k : Int) (p : OA) (n c : Nat) (code : Int) (q : OA) (m cc : Nat) (x0 x1 y0 y1 y2 : Value) (B G : Bag) : Bag :=
  cA b1 [.int .i64 k, .slice p n c] 24 + (cA b2 [.int .i64 code, .slice q m cc] 50 + (cA b3 [x0, x1] 24 + (cA b4 [y0, y1, y2] 58 + (B + G))))
theorem boxY (na : RowsA (p, n, c) rows B) (s : St h0 h (refA b1 b2 b3 b4 k p n c code q m cc x0 x1 y0 y1 y2 B G)) :
    ∃ n2 : Int, ∃ a2 L2 C2, cell h ⟨b1, 0, none⟩ = some (.int .i64 n2) ∧ cell h ((⟨b1, 0, none⟩ : Addr).add 1) = some (.slice a2 L2 C2) ∧
    yaae Tryz.prog 104 #[.agg #[.int .i64 n2, .slice a2 L2 C2], .int .i64 z] h fun v1 h5 => ∃ r1 : Int, ∃ (r2 : OA) (rL1 rC1 : Nat), ∃ r3 : Int, ∃ r4 : Int, ∃ (r5 : OA) (rL2 rC2 : Nat), v1 = .tuple #[.agg #[.int .i64 r1, .slice r2 rL1 rC1], .agg #[.int .i64 r3, .int .i64 r4, .slice r5 rL2 rC2]] ∧
      Wr h5 ⟨b3, 0, none⟩ (.int .i64 r1) fun h6 => Wr h6 ((⟨b3, 0, none⟩ : Addr).add 1) (.slice r2 rL1 rC1) fun h7 => Wr h7 ⟨b4, 0, none⟩ (.int .i64 r3) fun h8 => Wr h8 ((⟨b4, 0, none⟩ : Addr).add 1) (.int .i64 r4) fun h9 => Wr h9 ((⟨b4, 0, none⟩ : Addr).add 2) (.slice r5 rL2 rC2) fun h10 =>
      ∃ r6 : Int, ∃ r7 rL3 rC3, cell h10 ⟨b3, 0, none⟩ = some (.int .i64 r6) ∧ cell h10 ((⟨b3, 0, none⟩ : Addr).add 1) = some (.slice r7 rL3 rC3) ∧
      ∃ r8 : Int, ∃ r9 : Int, ∃ r10 rL4 rC4, cell h10 ⟨b4, 0, none⟩ = some (.int .i64 r8) ∧ cell h10 ((⟨b4, 0, none⟩ : Addr).add 1) = some (.int .i64 r9) ∧ cell h10 ((⟨b4, 0, none⟩ : Addr).add 2) = some (.slice r10 rL4 rC4) ∧
      StepP h0 G k rows 0 z (.tuple #[.agg #[.int .i64 r6, .slice r7 rL3 rC3], .agg #[.int .i64 r8, .int .i64 r9, .slice r10 rL4 rC4]]) h10 := by
  delta refA at s
  exact ⟨_, _, _, _, s.ld0, s.ldB, boxT na (D := cA b1 [.int .i64 k, .slice p n c] 24 + cA b2 [.int .i64 code, .slice q m cc] 50) s.to yact⟩
theorem boxF (na : RowsA (p, n, c) rows B) (s : St h0 h (refA b1 b2 b3 b4 k p n c code q m cc x0 x1 y0 y1 y2 B G)) :
    ∃ n2 : Int, ∃ a2 L2 C2, cell h ⟨b1, 0, none⟩ = some (.int .i64 n2) ∧ cell h ((⟨b1, 0, none⟩ : Addr).add 1) = some (.slice a2 L2 C2) ∧
    yaae Tryz.prog 105 #[.agg #[.int .i64 n2, .slice a2 L2 C2], .int .i64 e] h fun v1 h5 => ∃ r1 : Int, ∃ (r2 : OA) (rL1 rC1 : Nat), ∃ r3 : Int, ∃ r4 : Int, ∃ (r5 : OA) (rL2 rC2 : Nat), v1 = .tuple #[.agg #[.int .i64 r1, .slice r2 rL1 rC1], .agg #[.int .i64 r3, .int .i64 r4, .slice r5 rL2 rC2]] ∧
      Wr h5 ⟨b3, 0, none⟩ (.int .i64 r1) fun h6 => Wr h6 ((⟨b3, 0, none⟩ : Addr).add 1) (.slice r2 rL1 rC1) fun h7 => Wr h7 ⟨b4, 0, none⟩ (.int .i64 r3) fun h8 => Wr h8 ((⟨b4, 0, none⟩ : Addr).add 1) (.int .i64 r4) fun h9 => Wr h9 ((⟨b4, 0, none⟩ : Addr).add 2) (.slice r5 rL2 rC2) fun h10 =>
      ∃ r6 : Int, ∃ r7 rL3 rC3, cell h10 ⟨b3, 0, none⟩ = some (.int .i64 r6) ∧ cell h10 ((⟨b3, 0, none⟩ : Addr).add 1) = some (.slice r7 rL3 rC3) ∧
      ∃ r8 : Int, ∃ r9 : Int, ∃ r10 rL4 rC4, cell h10 ⟨b4, 0, none⟩ = some (.int .i64 r8) ∧ cell h10 ((⟨b4, 0, none⟩ : Addr).add 1) = some (.int .i64 r9) ∧ cell h10 ((⟨b4, 0, none⟩ : Addr).add 2) = some (.slice r10 rL4 rC4) ∧
      StepP h0 G k rows e 0 (.tuple #[.agg #[.int .i64 r6, .slice r7 rL3 rC3], .agg #[.int .i64 r8, .int .i64 r9, .slice r10 rL4 rC4]]) h10 := by
  delta refA at s
  exact ⟨_, _, _, _, s.ld0, s.ldB, boxT na (D := cA b1 [.int .i64 k, .slice p n c] 24 + cA b2 [.int .i64 code, .slice q m cc] 50) s.to yagq⟩
theorem get1 {l : List Int} {i : Int} {i' : Nat} {Q : Int → Prop} (na : RowsA (p, n, c) (l.map row1) B) (st : St h0 h (B + G)) (ei : i = (i' : Int)) (hi : i' < n) (hq : Q (l.getD i' 0)) :
    (0 ≤ i ∧ i < (n : Int)) ∧ NN p fun a => ∃ a8 L5 C5, cell h (a.add (i.toNat * 1)) = some (.slice a8 L5 C5) ∧ (0 ≤ (0 : Int) ∧ (0 : Int) < (L5 : Int)) ∧ NN a8 fun a9 => ∃ n4, cell h (a9.add (Int.toNat (0 : Int) * 1)) = some (.int .i64 n4) ∧ Q n4 := by
  have hl : l.length = n := by have := yaav na; rwa [List.length_map] at this
  subst ei
  have hg := yael (l := l) (i := i') (by omega)
  exact yaim na st (by omega) (by omega) (by omega) (by rw [Int.toNat_natCast, hg]; exact Int.zero_lt_one) (by rw [Int.toNat_natCast, hg]; exact hq)
end
abbrev HeapP (h0 : Hp) (G : Bag) (l : List Int) (c : Int) (zs : List Int) : VK := StepP h0 G 2 ((heapS l c zs).1.map row1) (heapS l c zs).2.1 (heapS l c zs).2.2
theorem wrC1 {h0 h : Hp} {B C : Bag} {b : Nat} {e : TypeId} {c0 c1 v : Value} {K : Hp → Prop} (s : St h0 h B) [x : Bag.Has b B [c0, c1] e C] (hK : ∀ h', St h0 h' (cA b [c0, v] e + C) → K h') : Wr h ((⟨b, 0, none⟩ : Addr).add 1) v K := s.wrB fun h s => hK h s
theorem yaif {h0 h : Hp} {p : OA} {n c i : Nat} {rows : List (List Int)} {q : OA} {m d : Nat} {x : List Int} {B Bx G : Bag} (na : RowsA (p, n, c) rows B) (o : Sl TI q m d x Bx) (s : St h0 h (B + (Bx + G))) (hi : i ≤ n) (hn : n ≤ 1000000) :
    yaae Tryz.prog 106 #[.slice p n c, .int .i64 (i : Int), .slice q m d] h (fun v h' => ∃ q' d' B', v = .slice q' (n + 1) d' ∧ RowsA (q', n + 1, d') (rows.take i ++ x :: rows.drop i) B' ∧ St h0 h' (B' + G)) := by
  obtain ⟨hs, B0, B1, rfl, h1, h2⟩ := na
  obtain ⟨C1, C2, rfl, c1, c2⟩ := AllH.cut h2 i
  refine (yavj (x := (q, m, d)) (s.to (B := B0 + (C1 + C2 + (Bx + G)))) h1 hi hn).mono fun v h' ⟨q', d', B', hv, o', s'⟩ => ⟨q', d', B' + (C1 + (Bx + C2)), hv, ⟨_, B', C1 + (Bx + C2), rfl, o', c1.append ⟨Bx, C2, rfl, o, c2⟩⟩, s'.to⟩
theorem yafo {h0 h : Hp} {p : OA} {n c i : Nat} {rows : List (List Int)} {B G : Bag} (na : RowsA (p, n, c) rows B) (s : St h0 h (B + G)) (hi : i < n) (hn : n ≤ 1000000) :
    yaae Tryz.prog 107 #[.slice p n c, .int .i64 (i : Int)] h (fun v h' => ∃ q' d' B', v = .slice q' (n - 1) d' ∧ RowsA (q', n - 1, d') (rows.take i ++ rows.drop (i + 1)) B' ∧ St h0 h' (B' + G)) := by
  obtain ⟨hs, B0, B1, rfl, h1, h2⟩ := na
  obtain ⟨C1, C2, rfl, c1, c2⟩ := AllH.cut h2 i
  obtain ⟨C3, C4, rfl, _, c4⟩ := AllH.cut c2 1
  rw [List.drop_drop, List.drop_drop] at c4
  refine (yavd (s.to (B := B0 + (C1 + (C3 + C4) + G))) h1 hi hn).mono fun v h' ⟨q', d', B', hv, o', s'⟩ => ⟨q', d', B' + (C1 + C4), hv, ⟨_, B', C1 + C4, rfl, o', c1.append c4⟩, (s'.to (B := C3 + (B' + (C1 + C4) + G))).drop⟩
set_option maxHeartbeats 4000000 in
theorem ybbe {h0 h : Hp} {l : List Int} {p q : OA} {n c m cc : Nat} {code : Int} {zs : List Int} {B G : Bag} (so : l.Pairwise (· ≤ ·)) (na : RowsA (p, n, c) (l.map row1) B) (rz : RdS h0 G TI q m zs) (s : St h0 h (B + G)) (hn : n ≤ 1000) (hc : 1 ≤ code ∧ code ≤ 4) (h1 : code = 1 → zs.length = 1) :
    yaae Tryz.prog 74 #[.agg #[.int .i64 2, .slice p n c], .agg #[.int .i64 code, .slice q m cc]] h (HeapP h0 G l code zs) := by
  have hl : (l.map row1).length = n := yaav na
  rw [List.length_map] at hl
  refine zct_call ?_
  rw [zct_b0]
  refine s.new (cs := [_, _]) fun b1 h3 _ s => s.new (cs := [_, _]) fun b2 h4 _ s => s.new (cs := [_, _]) fun b3 h5 _ s => s.new (cs := [_, _, _]) fun b4 h6 _ s => ?_
  have s : St h0 h6 (refA b1 b2 b3 b4 2 p n c code q m cc (.int .i64 0) (.slice none 0 0) (.int .i64 0) (.int .i64 0) (.slice none 0 0) B G) := by delta refA; exact s.to
  delta refA at s
  have hrz : RdT TI h6 q m zs := rz h6 (cA b1 [.int .i64 2, .slice p n c] 24 + (cA b2 [.int .i64 code, .slice q m cc] 50 + (cA b3 [.int .i64 0, .slice none 0 0] 24 + (cA b4 [.int .i64 0, .int .i64 0, .slice none 0 0] 58 + B)))) s.to
  have hzl := hrz.len
  refine ⟨_, _, _, s.ldB, _, s.ld0, condP (fun h4 => ?_) (fun h4 => condP (fun hp => condP (fun h5 => ?_) (fun h5 => ?_)) (fun hp => ?_))⟩
  · have e : heapS l code zs = (l, 0, (l.length : Int)) := by subst h4; rfl
    rw [HeapP, e, hl]
    exact boxY na s
  · have e : heapS l code zs = (if l.length = 500 then (l, 4, 0) else (insI (zs.getD 0 0) l, 0, 0)) := by subst hp; rfl
    rw [HeapP, e, if_pos (by omega)]
    exact boxF na s
  · have e : heapS l code zs = (if l.length = 500 then (l, 4, 0) else (insI (zs.getD 0 0) l, 0, 0)) := by subst hp; rfl
    rw [HeapP, e, if_neg (by omega)]
    have h1 := h1 hp
    obtain ⟨f1, f2, f3⟩ := lb_of (key := zs.getD 0 0) so
    obtain ⟨e1, e2⟩ := yady (List.takeWhile_append_dropWhile (p := fun z : Int => decide (z < zs.getD 0 0)) (l := l)).symm
    have hins : insI (zs.getD 0 0) l = l.take (l.takeWhile fun z => decide (z < zs.getD 0 0)).length ++ zs.getD 0 0 :: l.drop (l.takeWhile fun z => decide (z < zs.getD 0 0)).length := by rw [e1, e2]; rfl
    rw [hins]
    generalize (l.takeWhile fun z => decide (z < zs.getD 0 0)).length = t at f1 f2 f3
    refine ⟨fun x h' => h' = h6 ∧ ∃ i : Nat, x.1 = i ∧ i ≤ t, fun x _ => (n - x.1).toNat, ⟨rfl, 0, rfl, Nat.zero_le _⟩, ?_⟩
    rintro ⟨_, _⟩ h7 ⟨rfl, i, rfl, hi⟩
    dsimp only
    rw [zct_b1]
    have fin : i = t → zct_b4 (some ⟨b1, 0, none⟩) (some ⟨b2, 0, none⟩) (some ⟨b3, 0, none⟩) (some ⟨b4, 0, none⟩) (i : Int) h7 (StepP h0 G 2 ((l.take t ++ zs.getD 0 0 :: l.drop t).map row1) 0 0) := by
      rintro rfl
      rw [zct_b4]
      refine ⟨_, _, _, s.ldB, _, _, _, s.ldB, ldI (i' := 0) hrz rfl (by omega) (s.new (cs := [_]) fun b5 h8 _ s => ⟨⟨_, _, _, s.ldB, rfl⟩, ?_⟩)⟩
      have o5 : Sl TI (some ⟨b5, 0, none⟩) 1 1 [zs.getD 0 0] (cA b5 [.int .i64 (zs.getD 0 0)] 3) := Sl.of_blk (T := TI) rfl rfl
      refine (yaif na o5 (s.to (B := B + (cA b5 [.int .i64 (zs.getD 0 0)] 3 + (cA b1 [.int .i64 2, .slice p n c] 24 + (cA b2 [.int .i64 code, .slice q m cc] 50 + (cA b3 [.int .i64 0, .slice none 0 0] 24 + (cA b4 [.int .i64 0, .int .i64 0, .slice none 0 0] 58 + G))))))) (by omega) (by omega)).mono fun v h9 ⟨q', d', B', hv, na', s⟩ => ⟨_, _, _, hv, wrC1 s fun h10 s => ?_⟩
      have hrow : (l.map row1).take i ++ [zs.getD 0 0] :: (l.map row1).drop i = (l.take i ++ zs.getD 0 0 :: l.drop i).map row1 := by
        rw [← List.map_take, ← List.map_drop, List.map_append, List.map_cons]
      rw [hrow] at na'
      exact boxY (b2 := b2) (p := q') (c := d') (cc := cc) (q := q) (m := m) (code := code) (x0 := .int .i64 0) (x1 := .slice none 0 0) (y0 := .int .i64 0) (y1 := .int .i64 0) (y2 := .slice none 0 0) na' (by delta refA; exact s.to)
    refine condP (fun hlt => ?_) (fun hge => fin (by omega))
    refine ⟨_, _, _, s.ldB, get1 na (s.at B) rfl (by omega) ⟨_, _, _, s.ldB, ldI (i' := 0) hrz rfl (by omega) (condP (fun hk => ?_) (fun hk => ?_))⟩⟩
    · rw [zct_b3]
      refine ⟨⟨by omega, by omega⟩, ⟨rfl, i + 1, by push_cast; rfl, ?_⟩, by dsimp only; omega⟩
      rcases Nat.lt_or_ge i t with h | h
      · omega
      · have := f3 i h (by omega); omega
    · refine fin ?_
      rcases Nat.lt_or_ge i t with h | h
      · have := f2 i h; omega
      · omega
  · have e : heapS l code zs = (if l.length = 0 then (l, 14, 0) else if code = 3 then (l.tail, 0, l.getD 0 0) else (l, 0, l.getD 0 0)) := by
      unfold heapS; rw [if_neg h4, if_neg hp]
    rw [HeapP, e, zct_b2]
    refine condP (fun h0 => ?_) (fun h0 => ?_)
    · rw [if_pos (by omega)]
      exact boxF na s
    · rw [if_neg (by omega)]
      refine ⟨_, _, _, s.ldB, get1 na (s.at B) (i' := 0) rfl (by omega) ⟨_, s.ld0, condP (fun h3 => ?_) (fun h3 => ?_)⟩⟩
      · rw [if_pos h3]
        refine ⟨_, _, _, s.ldB, (yafo (i := 0) na (s.at B) (by omega) (by omega)).mono fun v h' ⟨q', d', B', hv, na', s⟩ => ⟨_, _, _, hv, wrC1 s fun h10 s => ?_⟩⟩
        have hrow : (l.map row1).take 0 ++ (l.map row1).drop (0 + 1) = l.tail.map row1 := by
          rw [List.take_zero, List.nil_append, ← List.map_drop, List.drop_one]
        rw [hrow] at na'
        rw [zct_b5]
        exact boxY (b2 := b2) (p := q') (c := d') (cc := cc) (q := q) (m := m) (code := code) (x0 := .int .i64 0) (x1 := .slice none 0 0) (y0 := .int .i64 0) (y1 := .int .i64 0) (y2 := .slice none 0 0) na' (by delta refA; exact s.to)
      · rw [if_neg h3, zct_b5]
        exact boxY na s
def revL {α : Type} (l : List α) (a b : Nat) : List α := l.take a ++ (((l.drop a).take (b - a)).reverse ++ l.drop b)
theorem yaix {α : Type} {l : List α} {a b : Nat} (h : a ≤ b) (hb : b ≤ l.length) : (revL l a b).length = l.length := by
  unfold revL; simp; omega
theorem yawl {α : Type} {d : α} {l : List α} {a b t : Nat} (h : a ≤ b) (hb : b ≤ l.length) (ht : t < l.length) : (revL l a b).getD t d = if a ≤ t ∧ t < b then l.getD (a + b - 1 - t) d else l.getD t d := by
  rw [yaac (by rw [yaix h hb]; exact ht)]
  have h1 : (l.take a).length = a := by rw [List.length_take]; omega
  have h2 : (((l.drop a).take (b - a)).reverse).length = b - a := by simp; omega
  unfold revL
  split
  · rename_i hc
    rw [List.getElem_append_right (by omega), List.getElem_append_left (by omega), List.getElem_reverse, List.getElem_take, List.getElem_drop]
    rw [yaac (by omega)]
    congr 1
    simp
    omega
  · rename_i hc
    rcases Nat.lt_or_ge t a with hta | hta
    · rw [List.getElem_append_left (by omega), List.getElem_take, yaac ht]
    · rw [List.getElem_append_right (by omega), List.getElem_append_right (by omega), List.getElem_drop, yaac ht]
      congr 1
      omega
theorem yapl {α β : Type} (f : α → β) (l : List α) (a b : Nat) : (revL l a b).map f = revL (l.map f) a b := by
  unfold revL; simp
def RevI {α : Type} (d : α) (a b i : Nat) (xs ys : List α) : Prop := ys.length = xs.length ∧ ∀ t, t < xs.length → ys.getD t d = if (a ≤ t ∧ t < a + i) ∨ (b ≤ t + i ∧ t < b) then xs.getD (a + b - 1 - t) d else xs.getD t d
theorem yang {α : Type} {d : α} {a b : Nat} {xs : List α} : RevI d a b 0 xs xs := ⟨rfl, fun t _ => by rw [if_neg (by omega)]⟩
theorem yamt {α : Type} {d x : α} {l : List α} {i j : Nat} (hi : i < l.length) : (l.set i x).getD j d = if i = j then x else l.getD j d := by
  simp only [List.getD_eq_getElem?_getD, List.getElem?_set]
  split
  · rename_i h; subst h; simp [hi]
  · rfl
theorem yamu {α : Type} {d : α} {a b i : Nat} {xs ys : List α} (h : RevI d a b i xs ys) (hb : b ≤ xs.length) (hi : a + i < b - 1 - i) : RevI d a b (i + 1) xs ((ys.set (a + i) (ys.getD (b - 1 - i) d)).set (b - 1 - i) (ys.getD (a + i) d)) := by
  obtain ⟨hl, hg⟩ := h
  refine ⟨by rw [List.length_set, List.length_set, hl], fun t ht => ?_⟩
  rw [yamt (by rw [List.length_set]; omega), yamt (by omega), hg (b - 1 - i) (by omega), hg (a + i) (by omega), hg t ht]
  rw [if_neg (show ¬ ((a ≤ b - 1 - i ∧ b - 1 - i < a + i) ∨ (b ≤ b - 1 - i + i ∧ b - 1 - i < b)) by omega)]
  rw [if_neg (show ¬ ((a ≤ a + i ∧ a + i < a + i) ∨ (b ≤ a + i + i ∧ a + i < b)) by omega)]
  by_cases h1 : b - 1 - i = t
  · rw [if_pos h1, if_pos (by omega)]
    congr 1; omega
  · rw [if_neg h1]
    by_cases h2 : a + i = t
    · rw [if_pos h2, if_pos (by omega)]
      congr 1; omega
    · rw [if_neg h2]
      by_cases h3 : (a ≤ t ∧ t < a + i) ∨ (b ≤ t + i ∧ t < b)
      · rw [if_pos h3, if_pos (by omega)]
      · rw [if_neg h3, if_neg (by omega)]
theorem yars {α : Type} {d : α} {a b i : Nat} {xs ys : List α} (h : RevI d a b i xs ys) (hab : a ≤ b) (hb : b ≤ xs.length) (hi : b - 1 - i ≤ a + i) (hib : a + i ≤ b) : ys = revL xs a b := by
  refine yaeq (d := d) (by rw [yaix hab hb, h.1]) fun t ht => ?_
  rw [yaix hab hb] at ht
  rw [h.2 t ht, yawl hab hb ht]
  by_cases h1 : a ≤ t ∧ t < b
  · rw [if_pos h1]
    by_cases h2 : (a ≤ t ∧ t < a + i) ∨ (b ≤ t + i ∧ t < b)
    · rw [if_pos h2]
    · rw [if_neg h2]
      have : a + b - 1 - t = t := by omega
      rw [this]
  · rw [if_neg h1, if_neg (by omega)]
theorem AllH.rev : ∀ {bs : List SH} {ts : List (List Int)} {A : Bag}, AllH RowP bs ts A → AllH RowP bs.reverse ts.reverse A
  | [], [], _, h => h
  | _ :: _, [], _, h => h.elim
  | [], _ :: _, _, h => h.elim
  | b :: bs, t :: ts, A, ⟨A1, A2, e, h1, h2⟩ => by
    rw [List.reverse_cons, List.reverse_cons, e, Bag.comm]
    exact (AllH.rev h2).append (AllH.one h1)
theorem AllH.revL {hs : List SH} {rows : List (List Int)} {A : Bag} (h : AllH RowP hs rows A) {a b : Nat} (hab : a ≤ b) : AllH RowP (revL hs a b) (revL rows a b) A := by
  obtain ⟨A1, A2, rfl, h1, h2⟩ := AllH.cut h a
  obtain ⟨A3, A4, rfl, h3, h4⟩ := AllH.cut h2 (b - a)
  rw [List.drop_drop, List.drop_drop, show a + (b - a) = b by omega] at h4
  exact h1.append ((AllH.rev h3).append h4)
section
variable {h0 h : Hp} {p : OA} {n c a0 j : Nat} {hs : List SH} {A F : Bag}
theorem ldSub {Q : OA → Nat → Nat → Prop} (o : Sl TR p n c hs A) (s : St h0 h (A + F)) (hj : a0 + j < n) (hq : Q (hs.getD (a0 + j) TR.d).1 (hs.getD (a0 + j) TR.d).2.1 (hs.getD (a0 + j) TR.d).2.2) :
    NN (yaak p c a0 1) fun ad => ∃ a2 L1 C1, cell h (ad.add (j * 1)) = some (.slice a2 L1 C1) ∧ Q a2 L1 C1 := by
  have r := (o.rd s).sub (i := a0) (m := n - a0) (by omega) o.cap rfl
  have hl := o.len
  have hd : (hs.drop a0).getD j TR.d = hs.getD (a0 + j) TR.d := by rw [yaac (by rw [List.length_drop]; omega), yaac (by omega), List.getElem_drop]
  obtain ⟨ad, hp, hc⟩ := r.at_ (i := j) (by omega)
  rw [hd] at hc
  refine yaap hp ⟨_, _, _, by simpa [yach] using hc 0 (by decide), hq⟩
theorem wrSub {x : SH} {k : Hp → Prop} (o : Sl TR p n c hs A) (s : St h0 h (A + F)) (hj : a0 + j < n) (hk : ∀ h' A', Sl TR p n c (hs.set (a0 + j) x) A' → St h0 h' (A' + F) → k h') :
    NN (yaak p c a0 1) fun ad => Wr h (ad.add (j * 1)) (.slice x.1 x.2.1 x.2.2) k := by
  have hc := o.cap
  obtain ⟨ad, hp, hw⟩ := o.wr (i := a0 + j) (j := 0) (v := .slice x.1 x.2.1 x.2.2) (x := x) (k := k) s hj (by decide) rfl hk
  rcases o with ⟨hl, ⟨h1, _⟩ | ⟨b, rest, hb, _⟩⟩
  · rw [h1] at hp; cases hp
  · rw [hb] at hp
    cases hp
    subst hb
    rw [yabu (by omega)]
    show Wr h _ _ k
    rw [yabd, yabd] at hw
    rw [yabd]
    have e : 0 + a0 * 1 + j * 1 = 0 + (a0 + j) * TR.sz + 0 := by show 0 + a0 * 1 + j * 1 = 0 + (a0 + j) * 1 + 0; omega
    rw [e]
    exact hw
end
def seqS (l : List Int) (c : Int) (zs : List Int) : List Int × Int × Int :=
  if c = 7 then (l, 0, (l.length : Int)) else if c = 5 ∨ c = 6 then
    (if zs.getD 0 0 < 0 ∨ zs.getD 1 0 < zs.getD 0 0 ∨ (l.length : Int) < zs.getD 1 0 then (l, 2, 0) else if c = 6 then (revL l (zs.getD 0 0).toNat (zs.getD 1 0).toNat, 0, 0) else (l, 0, ((l.drop (zs.getD 0 0).toNat).take ((zs.getD 1 0).toNat - (zs.getD 0 0).toNat)).sum))
  else if c = 1 then (if zs.getD 0 0 < 0 ∨ (l.length : Int) < zs.getD 0 0 then (l, 2, 0) else if l.length = 500 then (l, 4, 0) else (l.take (zs.getD 0 0).toNat ++ zs.getD 1 0 :: l.drop (zs.getD 0 0).toNat, 0, 0))
  else if zs.getD 0 0 < 0 ∨ (l.length : Int) ≤ zs.getD 0 0 then (l, 2, 0) else if c = 2 then (l.take (zs.getD 0 0).toNat ++ l.drop ((zs.getD 0 0).toNat + 1), 0, l.getD (zs.getD 0 0).toNat 0)
  else if c = 4 then (l.set (zs.getD 0 0).toNat (zs.getD 1 0), 0, l.getD (zs.getD 0 0).toNat 0) else (l, 0, l.getD (zs.getD 0 0).toNat 0)
theorem yays {l : List Int} (h : ∀ z ∈ l, KeyP z) : -(1048576 * (l.length : Int)) ≤ l.sum ∧ l.sum ≤ 1048576 * (l.length : Int) := by
  induction l with
  | nil => decide
  | cons a l ih =>
    have := ih fun z hz => h z (List.mem_cons_of_mem _ hz)
    have := h a List.mem_cons_self
    rw [List.sum_cons, List.length_cons]
    push_cast
    omega
theorem yapn {l : List Int} {a i : Nat} (hai : a ≤ i) (h : i < l.length) : ((l.drop a).take (i + 1 - a)).sum = ((l.drop a).take (i - a)).sum + l.getD i 0 := by
  have hl : i - a < (l.drop a).length := by rw [List.length_drop]; omega
  rw [show i + 1 - a = i - a + 1 by omega, List.take_succ_eq_append_getElem hl, List.sum_append, List.getElem_drop]
  simp only [List.sum_cons, List.sum_nil, Int.add_zero, yaac h, show a + (i - a) = i by omega]
abbrev SeqP (h0 : Hp) (G : Bag) (l : List Int) (c : Int) (zs : List Int) : VK := StepP h0 G 3 ((seqS l c zs).1.map row1) (seqS l c zs).2.1 (seqS l c zs).2.2
abbrev MSeqP (h0 : Hp) (G : Bag) (l : List Int) (c : Int) (zs : List Int) : VK := yafk h0 G ((seqS l c zs).1.map row1) (seqS l c zs).2.1 (seqS l c zs).2.2
section
variable {h0 h : Hp} {b1 b2 : Nat} {l : List Int} {p q : OA} {n c m cc : Nat} {code : Int} {zs : List Int} {B G : Bag}
theorem yasq {hs : List SH} {A F : Bag} {a b : Nat} (o : Sl TR p n c hs A) (s : St h0 h (A + F)) (hab : a ≤ b) (hb : b ≤ n) (hn : n ≤ 1000000) :
    yaae Tryz.prog 131 #[.slice (yaak p c a 1) (b - a) (c - a)] h (fun v h' => v = .tuple #[] ∧ ∃ A', Sl TR p n c (revL hs a b) A' ∧ St h0 h' (A' + F)) := by
  have hl := o.len
  refine zdz_call ?_
  rw [zdz_b0]
  refine ⟨⟨by omega, by omega⟩, fun x h' => ∃ (i : Nat) (ys : List SH) (A : Bag), x.1 = i ∧ x.2.1 = ((b - a : Nat) : Int) - 1 - i ∧ (i : Int) ≤ ((b - a : Nat) : Int) ∧ RevI TR.d a b i hs ys ∧ Sl TR p n c ys A ∧ St h0 h' (A + F), fun x _ => (x.2.1 - x.1 + 1).toNat, ⟨0, hs, A, rfl, by simp, by omega, yang, o, s⟩, ?_⟩
  clear o s A
  rintro ⟨x, y, _⟩ h1 ⟨i, ys, A, hx, hy, hi, hr, o, s⟩
  dsimp only at hx hy ⊢
  subst hx hy
  rw [zdz_b1]
  have hyl := o.len
  refine condP (fun hlt => ?_) (fun hge => ?_)
  · have ej : Int.toNat (((b - a : Nat) : Int) - 1 - (i : Int)) = b - a - 1 - i := by omega
    have ei : Int.toNat (i : Int) = i := Int.toNat_natCast i
    have ei1 : Int.toNat ((i : Int) + 1) = i + 1 := by omega
    simp only [ej, ei]
    have e1 : a + (b - a - 1 - i) = b - 1 - i := by omega
    refine ⟨⟨by omega, by omega⟩, ldSub o s (by omega) ⟨⟨by omega, by omega⟩, ldSub o s (by omega) ⟨⟨by omega, by omega⟩, ?_⟩⟩⟩
    rw [e1]
    refine wrSub (x := ys.getD (b - 1 - i) TR.d) o s (by omega) fun h2 A2 o2 s => ⟨⟨by omega, by omega⟩, wrSub (x := ys.getD (a + i) TR.d) o2 s (by omega) fun h3 A3 o3 s => ?_⟩
    rw [e1] at o3
    rw [zdz_b2]
    refine ⟨⟨by omega, by omega⟩, ⟨by omega, by omega⟩, ⟨i + 1, _, A3, by push_cast; rfl, by push_cast; omega, by push_cast; omega, yamu hr (by omega) (by omega), o3, s⟩, by dsimp only; omega⟩
  · refine ⟨rfl, A, ?_, s⟩
    rw [← yars hr hab (by omega) (by omega) (by omega)]
    exact o
theorem yavv {rows : List (List Int)} {F : Bag} {a b : Nat} (na : RowsA (p, n, c) rows B) (s : St h0 h (B + F)) (hab : a ≤ b) (hb : b ≤ n) (hn : n ≤ 1000000) :
    yaae Tryz.prog 131 #[.slice (yaak p c a 1) (b - a) (c - a)] h (fun v h' => v = .tuple #[] ∧ ∃ B', RowsA (p, n, c) (revL rows a b) B' ∧ St h0 h' (B' + F)) := by
  obtain ⟨hs, B0, B1, rfl, h1, h2⟩ := na
  exact (yasq h1 (s.to (B := B0 + (B1 + F))) hab hb hn).mono fun v h' ⟨hv, A', o, s⟩ => ⟨hv, A' + B1, ⟨_, A', B1, rfl, o, AllH.revL h2 hab⟩, s.to⟩
end
section
variable {h0 h : Hp} {p q : OA} {n c m cc : Nat} {hs : List SH} {A F B G : Bag}
theorem ldH {i : Int} {i' : Nat} {Q : OA → Nat → Nat → Prop} (o : Sl TR p n c hs A) (s : St h0 h (A + F)) (ei : i = (i' : Int)) (hi : i' < n) (hq : Q (hs.getD i' TR.d).1 (hs.getD i' TR.d).2.1 (hs.getD i' TR.d).2.2) :
    (0 ≤ i ∧ i < (n : Int)) ∧ NN p fun ad => ∃ a2 L1 C1, cell h (ad.add (i.toNat * 1)) = some (.slice a2 L1 C1) ∧ Q a2 L1 C1 := by
  subst ei
  refine ⟨⟨by omega, by omega⟩, ?_⟩
  obtain ⟨ad, hp, hc⟩ := (o.rd s).at_ (i := i') hi
  exact yaap hp ⟨_, _, _, by simpa [yach] using hc 0 (by decide), hq⟩
theorem wrH {i : Int} {i' : Nat} {x : SH} {k : Hp → Prop} (o : Sl TR p n c hs A) (s : St h0 h (A + F)) (ei : i = (i' : Int)) (hi : i' < n) (hk : ∀ h' A', Sl TR p n c (hs.set i' x) A' → St h0 h' (A' + F) → k h') :
    (0 ≤ i ∧ i < (n : Int)) ∧ NN p fun ad => Wr h (ad.add (i.toNat * 1)) (.slice x.1 x.2.1 x.2.2) k := by
  subst ei
  refine ⟨⟨by omega, by omega⟩, ?_⟩
  obtain ⟨ad, hp, hw⟩ := o.wr (i := i') (j := 0) (v := .slice x.1 x.2.1 x.2.2) (x := x) (k := k) s hi (by decide) rfl hk
  refine yaap hp ?_
  rw [Int.toNat_natCast]
  exact hw
end
theorem yaxt {l : List Int} (hk : ∀ z ∈ l, KeyP z) (i : Nat) : KeyP (l.getD i 0) := by
  rcases Nat.lt_or_ge i l.length with h | h
  · exact hk _ (by rw [yaac h]; exact List.getElem_mem h)
  · rw [List.getD_eq_getElem?_getD, List.getElem?_eq_none h]; exact ⟨by decide, by decide⟩
section
variable {h0 h : Hp} {b1 b2 b3 b4 : Nat} {l : List Int} {p q : OA} {n c m cc : Nat} {code : Int} {zs : List Int} {B G : Bag} {x0 x1 y0 y1 y2 : Value}
theorem yatg (hk : ∀ z ∈ l, KeyP z) (na : RowsA (p, n, c) (l.map row1) B) (rz : RdT TI h q m zs) (s : St h0 h (refA b1 b2 b3 b4 3 p n c code q m cc x0 x1 y0 y1 y2 B G)) (hn : n ≤ 1000) (hc : code = 5 ∨ code = 6) (h1 : 2 ≤ zs.length) (hz : ∀ z ∈ zs, KeyP z) :
    zda_b2 (some ⟨b1, 0, none⟩) (some ⟨b2, 0, none⟩) (some ⟨b3, 0, none⟩) (some ⟨b4, 0, none⟩) (n : Int) (zs.getD 0 0) true h (SeqP h0 G l code zs) := by
  have hl : (l.map row1).length = n := yaav na
  rw [List.length_map] at hl
  have hzl := rz.len
  have e : seqS l code zs = (if zs.getD 0 0 < 0 ∨ zs.getD 1 0 < zs.getD 0 0 ∨ (l.length : Int) < zs.getD 1 0 then (l, 2, 0) else if code = 6 then (revL l (zs.getD 0 0).toNat (zs.getD 1 0).toNat, 0, 0) else (l, 0, ((l.drop (zs.getD 0 0).toNat).take ((zs.getD 1 0).toNat - (zs.getD 0 0).toNat)).sum)) := by
    rcases hc with rfl | rfl <;> rfl
  delta refA at s
  rw [SeqP, e, zda_b2]
  refine yaaw rfl ⟨_, _, _, s.ldB, ldI (i' := 1) rz rfl (by omega) ?_⟩
  refine condP (fun h5 => ?_) (fun h5 => condP (fun h6 => ?_) (fun h6 => condP (fun h7 => ?_) (fun h7 => ?_)))
  · rw [if_pos (by omega)]; exact boxF na s
  · rw [if_pos (by omega)]; exact boxF na s
  · rw [if_pos (by omega)]; exact boxF na s
  rw [if_neg (by omega), zda_b3]
  obtain ⟨a, ha⟩ : ∃ a : Nat, zs.getD 0 0 = a := ⟨(zs.getD 0 0).toNat, by omega⟩
  obtain ⟨b, hb⟩ : ∃ b : Nat, zs.getD 1 0 = b := ⟨(zs.getD 1 0).toNat, by omega⟩
  simp only [ha, hb, Int.toNat_natCast] at h5 h6 h7 ⊢
  refine ⟨fun x h' => h' = h ∧ ∃ i : Nat, x.2.1 = i ∧ a ≤ i ∧ i ≤ b ∧ x.1 = ((l.drop a).take (i - a)).sum, fun x _ => (b - x.2.1).toNat, ⟨rfl, a, rfl, Nat.le_refl _, by omega, by simp⟩, ?_⟩
  rintro ⟨x, y, _⟩ h7 ⟨rfl, i, rfl, hi1, hi2, hx⟩
  dsimp only at hx ⊢
  subst hx
  rw [zda_b5]
  refine condP (fun hlt => ?_) (fun hge => ?_)
  · refine ⟨_, _, _, s.ldB, get1 na (s.at B) rfl (by omega) ?_⟩
    rw [← yapn hi1 (by omega), zda_b7]
    have hb := yays (l := (l.drop a).take (i + 1 - a)) fun z hz => hk z (List.mem_of_mem_drop (List.mem_of_mem_take hz))
    have hbl : ((l.drop a).take (i + 1 - a)).length ≤ 1000 := by rw [List.length_take, List.length_drop]; omega
    refine ⟨⟨by omega, by omega⟩, ⟨by omega, by omega⟩, ⟨rfl, i + 1, by push_cast; rfl, by omega, by omega, rfl⟩, by dsimp only; omega⟩
  · have : i = b := by omega
    subst this
    rw [zda_b8]
    refine ⟨_, s.ld0, condP (fun h5 => ?_) (fun h5 => ?_)⟩
    · rw [if_neg (by omega)]
      exact boxY na s
    · rw [if_pos (by omega)]
      obtain ⟨hs, B0, B1, rfl, o, hh⟩ := na
      have hol : hs.length = n := o.len
      refine ⟨fun x h' => ∃ (j : Nat) (ys : List SH) (A : Bag), x.1 = j ∧ j ≤ (i - a) / 2 ∧ RevI TR.d a i j hs ys ∧ Sl TR p n c ys A ∧ St h0 h' (refA b1 b2 b3 b4 3 p n c code q m cc x0 x1 y0 y1 y2 (A + B1) G), fun x _ => (i - x.1).toNat, ⟨0, hs, B0, rfl, by omega, yang, o, by delta refA; exact s⟩, ?_⟩
      clear o s
      rintro ⟨x, _⟩ h1 ⟨j, ys, A, rfl, hj, hr, o, s⟩
      dsimp only
      rw [zda_b10]
      delta refA at s
      have hyl := o.len
      refine ⟨⟨by omega, by omega⟩, yaco (by omega) (by omega) (by omega) (condP (fun hlt => ?_) (fun hge => ?_))⟩
      · refine ⟨_, _, _, s.ldB, ⟨by omega, by omega⟩, _, _, _, s.ldB, ⟨by omega, by omega⟩, ⟨by omega, by omega⟩, _, _, _, s.ldB, ⟨by omega, by omega⟩, ⟨by omega, by omega⟩, ldH (i' := i - 1 - j) o (s.at A) (by omega) (by omega) ⟨_, _, _, s.ldB, ⟨by omega, by omega⟩, ldH (i' := a + j) o (s.at A) (by omega) (by omega) ?_⟩⟩
        refine wrH (i' := a + j) (x := ys.getD (i - 1 - j) TR.d) (F := cA b1 [.int .i64 3, .slice p n c] 24 + (cA b2 [.int .i64 code, .slice q m cc] 50 + (cA b3 [x0, x1] 24 + (cA b4 [y0, y1, y2] 58 + (B1 + G))))) o s.to (by omega) (by omega) fun h2 A2 o2 s => ?_
        refine ⟨⟨_, _, _, s.ldB, rfl⟩, wrH (i' := i - 1 - j) (x := ys.getD (a + j) TR.d) (F := cA b1 [.int .i64 3, .slice p n c] 24 + (cA b2 [.int .i64 code, .slice q m cc] 50 + (cA b3 [x0, x1] 24 + (cA b4 [y0, y1, y2] 58 + (B1 + G))))) o2 s.to (by omega) (by omega) fun h3 A3 o3 s => ?_⟩
        rw [zda_b12]
        exact ⟨⟨by omega, by omega⟩, ⟨j + 1, _, A3, by push_cast; rfl, by omega, yamu hr (by omega) (by omega), o3, by (try delta refA at s); (try delta refA); exact s.to⟩, by dsimp only; omega⟩
      · rw [zda_b13]
        have e := yars hr (by omega) (by omega) (by omega) (by omega)
        subst e
        have na' : RowsA (p, n, c) ((revL l a i).map row1) (A + B1) := by
          rw [yapl]
          exact ⟨_, A, B1, rfl, o, AllH.revL hh (by omega)⟩
        exact boxY na' s
theorem yana (na : RowsA (p, n, c) (l.map row1) B) (rz : RdT TI h q m zs) (s : St h0 h (refA b1 b2 b3 b4 3 p n c code q m cc x0 x1 y0 y1 y2 B G)) {a : Nat} {z : Int} (ha : code = 4 → a < n ∧ 2 ≤ zs.length) :
    zda_b9 (some ⟨b1, 0, none⟩) (some ⟨b2, 0, none⟩) (some ⟨b3, 0, none⟩) (some ⟨b4, 0, none⟩) (a : Int) z h (StepP h0 G 3 ((if code = 4 then l.set a (zs.getD 1 0) else l).map row1) 0 z) := by
  have hl : (l.map row1).length = n := yaav na
  rw [List.length_map] at hl
  have hzl := rz.len
  delta refA at s
  rw [zda_b9]
  refine ⟨_, s.ld0, condP (fun h4 => ?_) (fun h4 => ?_)⟩
  · obtain ⟨ha, hz⟩ := ha h4
    rw [if_pos h4]
    refine ⟨_, _, _, s.ldB, yadb na (s.at B) (by omega) (by omega) fun q' l' d' Bi Br o hB hset => ⟨_, _, _, s.ldB, ldI (i' := 1) rz rfl (by omega) ?_⟩⟩
    rw [Int.toNat_natCast, yael (by omega)] at o
    have ol : 1 = l' := o.len
    subst ol
    subst hB
    refine Sl.wrI (F := cA b1 [.int .i64 3, .slice p n c] 24 + (cA b2 [.int .i64 code, .slice q m cc] 50 + (cA b3 [x0, x1] 24 + (cA b4 [y0, y1, y2] 58 + (Br + G))))) (x := zs.getD 1 0) o s.to (by omega) (by omega) rfl rfl fun h' A' o' s' => ?_
    have na' := hset _ _ o'
    have hrow : (l.map row1).set (Int.toNat (a : Int)) ([l.getD a 0].set (Int.toNat (0 : Int)) (zs.getD 1 0)) = (l.set a (zs.getD 1 0)).map row1 := by
      rw [Int.toNat_natCast, List.map_set]; rfl
    rw [hrow] at na'
    rw [zda_b11]
    exact boxY (b2 := b2) (p := p) (c := c) (cc := cc) (q := q) (m := m) (code := code) (x0 := x0) (x1 := x1) (y0 := y0) (y1 := y1) (y2 := y2) na' (by delta refA; exact s'.to)
  · rw [if_neg h4, zda_b11]
    exact boxY na s
theorem ybcd (hk : ∀ z ∈ l, KeyP z) (na : RowsA (p, n, c) (l.map row1) B) (rz : RdS h0 G TI q m zs) (s : St h0 h (B + G)) (hn : n ≤ 1000) (hc : 1 ≤ code ∧ code ≤ 7) (h1 : code ≠ 7 → 1 ≤ zs.length) (h2 : code = 1 ∨ (4 ≤ code ∧ code ≤ 6) → 2 ≤ zs.length) (hz : ∀ z ∈ zs, KeyP z) :
    yaae Tryz.prog 75 #[.agg #[.int .i64 3, .slice p n c], .agg #[.int .i64 code, .slice q m cc]] h (SeqP h0 G l code zs) := by
  have hl : (l.map row1).length = n := yaav na
  rw [List.length_map] at hl
  refine zda_call ?_
  rw [zda_b0]
  refine s.new (cs := [_, _]) fun b1 h3 _ s => s.new (cs := [_, _]) fun b2 h4 _ s => s.new (cs := [_, _]) fun b3 h5 _ s => s.new (cs := [_, _, _]) fun b4 h6 _ s => ?_
  have s : St h0 h6 (refA b1 b2 b3 b4 3 p n c code q m cc (.int .i64 0) (.slice none 0 0) (.int .i64 0) (.int .i64 0) (.slice none 0 0) B G) := by delta refA; exact s.to
  have hrz : RdT TI h6 q m zs := rz h6 (cA b1 [.int .i64 3, .slice p n c] 24 + (cA b2 [.int .i64 code, .slice q m cc] 50 + (cA b3 [.int .i64 0, .slice none 0 0] 24 + (cA b4 [.int .i64 0, .int .i64 0, .slice none 0 0] 58 + B)))) (by delta refA at s; exact s.to)
  have hzl := hrz.len
  by_cases h56 : code = 5 ∨ code = 6
  · have hb2 := yatg hk na hrz s hn h56 (h2 (by omega)) hz
    delta refA at s
    refine ⟨_, _, _, s.ldB, _, s.ld0, yaat (decide_eq_false (by omega)) ⟨_, _, _, s.ldB, ldI (i' := 0) hrz rfl (by omega) ⟨_, s.ld0, yaat (decide_eq_false (by omega)) (condP (fun h5 => ?_) (fun h5 => ?_))⟩⟩⟩
    · rw [decide_eq_true h5]; exact hb2
    · rw [decide_eq_true (show code = 6 by omega)]; exact hb2
  have s' := s
  delta refA at s
  refine ⟨_, _, _, s.ldB, _, s.ld0, condP (fun h7 => ?_) (fun h7 => ?_)⟩
  · have e : seqS l code zs = (l, 0, (l.length : Int)) := by subst h7; rfl
    rw [SeqP, e, hl]
    exact boxY na s
  refine ⟨_, _, _, s.ldB, ldI (i' := 0) hrz rfl (by omega) ⟨_, s.ld0, condP (fun hp => ?_) (fun hp => ?_)⟩⟩
  · have e : seqS l code zs = (if zs.getD 0 0 < 0 ∨ (l.length : Int) < zs.getD 0 0 then (l, 2, 0) else if l.length = 500 then (l, 4, 0) else (l.take (zs.getD 0 0).toNat ++ zs.getD 1 0 :: l.drop (zs.getD 0 0).toNat, 0, 0)) := by subst hp; rfl
    rw [SeqP, e]
    refine condP (fun h3 => ?_) (fun h3 => condP (fun h4 => ?_) (fun h4 => ?_))
    · rw [if_pos (by omega)]; exact boxF na s
    · rw [if_pos (by omega)]; exact boxF na s
    rw [if_neg (by omega), zda_b1]
    refine condP (fun h5 => ?_) (fun h5 => ?_)
    · rw [if_pos (by omega)]; exact boxF na s
    rw [if_neg (by omega)]
    obtain ⟨a, ha⟩ : ∃ a : Nat, zs.getD 0 0 = a := ⟨(zs.getD 0 0).toNat, by omega⟩
    have h2 := h2 (by omega)
    simp only [ha, Int.toNat_natCast] at h3 h4 ⊢
    refine ⟨_, _, _, s.ldB, _, _, _, s.ldB, ldI (i' := 1) hrz rfl (by omega) (s.new (cs := [_]) fun b5 h8 _ s => ⟨⟨_, _, _, s.ldB, rfl⟩, ?_⟩)⟩
    have o5 : Sl TI (some ⟨b5, 0, none⟩) 1 1 [zs.getD 1 0] (cA b5 [.int .i64 (zs.getD 1 0)] 3) := Sl.of_blk (T := TI) rfl rfl
    refine (yaif na o5 (s.to (B := B + (cA b5 [.int .i64 (zs.getD 1 0)] 3 + (cA b1 [.int .i64 3, .slice p n c] 24 + (cA b2 [.int .i64 code, .slice q m cc] 50 + (cA b3 [.int .i64 0, .slice none 0 0] 24 + (cA b4 [.int .i64 0, .int .i64 0, .slice none 0 0] 58 + G))))))) (by omega) (by omega)).mono fun v h9 ⟨q', d', B', hv, na', s⟩ => ⟨_, _, _, hv, wrC1 s fun h10 s => ?_⟩
    have hrow : (l.map row1).take a ++ [zs.getD 1 0] :: (l.map row1).drop a = (l.take a ++ zs.getD 1 0 :: l.drop a).map row1 := by
      rw [← List.map_take, ← List.map_drop, List.map_append, List.map_cons]
    rw [hrow] at na'
    exact boxY (b2 := b2) (p := q') (c := d') (cc := cc) (q := q) (m := m) (code := code) (x0 := .int .i64 0) (x1 := .slice none 0 0) (y0 := .int .i64 0) (y1 := .int .i64 0) (y2 := .slice none 0 0) na' (by delta refA; exact s.to)
  · refine yaat (decide_eq_false (by omega)) ?_
    rw [decide_eq_false (show ¬ code = 6 by omega), zda_b2]
    refine yaat rfl ?_
    have e : seqS l code zs = (if zs.getD 0 0 < 0 ∨ (l.length : Int) ≤ zs.getD 0 0 then (l, 2, 0) else if code = 2 then (l.take (zs.getD 0 0).toNat ++ l.drop ((zs.getD 0 0).toNat + 1), 0, l.getD (zs.getD 0 0).toNat 0) else if code = 4 then (l.set (zs.getD 0 0).toNat (zs.getD 1 0), 0, l.getD (zs.getD 0 0).toNat 0) else (l, 0, l.getD (zs.getD 0 0).toNat 0)) := by
      unfold seqS; rw [if_neg h7, if_neg h56, if_neg hp]
    rw [SeqP, e, zda_b4]
    refine condP (fun h3 => ?_) (fun h3 => condP (fun h4 => ?_) (fun h4 => ?_))
    · rw [if_pos (by omega)]; exact boxF na s
    · rw [if_pos (by omega)]; exact boxF na s
    rw [if_neg (by omega), zda_b6]
    obtain ⟨a, ha⟩ : ∃ a : Nat, zs.getD 0 0 = a := ⟨(zs.getD 0 0).toNat, by omega⟩
    simp only [ha, Int.toNat_natCast] at h3 h4 ⊢
    refine ⟨_, _, _, s.ldB, get1 na (s.at B) rfl (by omega) ⟨_, s.ld0, condP (fun h5 => ?_) (fun h5 => ?_)⟩⟩
    · rw [if_pos h5]
      refine ⟨_, _, _, s.ldB, (yafo (i := a) na (s.at B) (by omega) (by omega)).mono fun v h' ⟨q', d', B', hv, na', s⟩ => ⟨_, _, _, hv, wrC1 s fun h10 s => ?_⟩⟩
      have hrow : (l.map row1).take a ++ (l.map row1).drop (a + 1) = (l.take a ++ l.drop (a + 1)).map row1 := by
        rw [← List.map_take, ← List.map_drop, List.map_append]
      rw [hrow] at na'
      have r := yana (b1 := b1) (b2 := b2) (b3 := b3) (b4 := b4) (p := q') (c := d') (cc := cc) (q := q) (m := m) (code := code) (x0 := .int .i64 0) (x1 := .slice none 0 0) (y0 := .int .i64 0) (y1 := .int .i64 0) (y2 := .slice none 0 0) (a := a) (z := l.getD a 0) (h0 := h0) (h := h10) (G := G) na' (rz h10 (cA b1 [.int .i64 3, .slice q' (n - 1) d'] 24 + (cA b2 [.int .i64 code, .slice q m cc] 50 + (cA b3 [.int .i64 0, .slice none 0 0] 24 + (cA b4 [.int .i64 0, .int .i64 0, .slice none 0 0] 58 + B')))) s.to) (by delta refA; exact s.to) (fun h => absurd h (by omega))
      rwa [if_neg (by omega)] at r
    · rw [if_neg h5]
      have r := yana (a := a) (z := l.getD a 0) na hrz s' (fun h => ⟨by omega, h2 (by omega)⟩)
      split at r
      · rename_i h4; rw [if_pos h4]; exact r
      · rename_i h4; rw [if_neg h4]; exact r
end
section
variable {h0 h : Hp} {b1 b2 : Nat} {l : List Int} {p q : OA} {n c m cc : Nat} {code : Int} {zs : List Int} {B G : Bag} {y0 y1 y2 : Value}
abbrev modA (b1 b2 : Nat) (code : Int) (q : OA) (m cc : Nat) (y0 y1 y2 : Value) (B G : Bag) : Bag :=
  cA b2 [y0, y1, y2] 58 + (cA b1 [.int .i64 code, .slice q m cc] 50 + (B + G))
theorem yasp (hk : ∀ z ∈ l, KeyP z) (na : RowsA (p, n, c) (l.map row1) B) (rz : RdT TI h q m zs) (s : St h0 h (modA b1 b2 code q m cc y0 y1 y2 B G)) (hn : n ≤ 1000) (hcn : n ≤ c) (hc : code = 5 ∨ code = 6) (h1 : 2 ≤ zs.length) :
    zbv_b1 p n c (some ⟨b1, 0, none⟩) (some ⟨b2, 0, none⟩) true h (MSeqP h0 G l code zs) := by
  have hl : (l.map row1).length = n := yaav na
  rw [List.length_map] at hl
  have hzl := rz.len
  have e : seqS l code zs = (if zs.getD 0 0 < 0 ∨ zs.getD 1 0 < zs.getD 0 0 ∨ (l.length : Int) < zs.getD 1 0 then (l, 2, 0) else if code = 6 then (revL l (zs.getD 0 0).toNat (zs.getD 1 0).toNat, 0, 0) else (l, 0, ((l.drop (zs.getD 0 0).toNat).take ((zs.getD 1 0).toNat - (zs.getD 0 0).toNat)).sum)) := by
    rcases hc with rfl | rfl <;> rfl
  delta modA at s
  rw [MSeqP, e, zbv_b1]
  refine yaaw rfl ⟨_, _, _, s.ldB, ldI (i' := 0) rz rfl (by omega) ⟨_, _, _, s.ldB, ldI (i' := 1) rz rfl (by omega) ?_⟩⟩
  refine condP (fun h5 => ?_) (fun h5 => condP (fun h6 => ?_) (fun h6 => condP (fun h7 => ?_) (fun h7 => ?_)))
  · rw [if_pos (by omega)]; exact mboxT na s (yaas _ _)
  · rw [if_pos (by omega)]; exact mboxT na s (yaas _ _)
  · rw [if_pos (by omega)]; exact mboxT na s (yaas _ _)
  rw [if_neg (by omega), zbv_b2]
  obtain ⟨a, ha⟩ : ∃ a : Nat, zs.getD 0 0 = a := ⟨(zs.getD 0 0).toNat, by omega⟩
  obtain ⟨b, hb⟩ : ∃ b : Nat, zs.getD 1 0 = b := ⟨(zs.getD 1 0).toNat, by omega⟩
  simp only [ha, hb, Int.toNat_natCast] at h5 h6 h7 ⊢
  refine ⟨_, s.ld0, condP (fun h8 => ?_) (fun h8 => ?_)⟩
  · rw [if_pos h8]
    refine ⟨⟨by omega, by omega, by omega⟩, (yavv (a := a) (b := b) na (s.at B) (by omega) (by omega) (by omega)).mono fun v h1 ⟨hv, B', na', s⟩ => ⟨hv, ?_⟩⟩
    rw [← yapl] at na'
    exact mboxT (b2 := b2) (D := cA b1 [.int .i64 code, .slice q m cc] 50) na' s.to (yaan _ _)
  · rw [if_neg h8]
    refine ⟨⟨by omega, by omega, by omega⟩, fun x h' => h' = h ∧ ∃ i : Nat, x.2.1 = i ∧ i ≤ b - a ∧ x.1 = ((l.drop a).take i).sum, fun x _ => ((b - a : Nat) - x.2.1).toNat, ⟨rfl, 0, rfl, Nat.zero_le _, by simp⟩, ?_⟩
    rintro ⟨x, y, _⟩ h7 ⟨rfl, i, rfl, hi2, hx⟩
    dsimp only at hx ⊢
    subst hx
    rw [zbv_b4]
    refine condP (fun hlt => ?_) (fun hge => ?_)
    · obtain ⟨hs, B0, B1, rfl, o, hh⟩ := na
      have hol : hs.length = n := o.len
      refine ⟨⟨by omega, by omega⟩, ?_⟩
      have hg : ∃ A1 A2, B1 = A1 + A2 ∧ RowP (hs.getD (a + i) TR.d) [l.getD (a + i) 0] A1 := by
        obtain ⟨Ai, Br, hB, hp, _⟩ := AllH.edit hh (i := a + i) (by omega)
        rw [yael (by omega)] at hp
        exact ⟨Ai, Br, hB, hp⟩
      obtain ⟨A1, A2, rfl, o1⟩ := hg
      have o1l : 1 = (hs.getD (a + i) TR.d).2.1 := o1.len
      simp only [Int.toNat_natCast]
      refine ldSub (a0 := a) (n := n) (c := c) (p := p) (j := i) o (s.at B0) (by omega) ?_
      · have hrd := (o1.rd (s.at A1))
        refine ldI (i := 0) (i' := 0) hrd rfl (by omega) ?_
        show InR (((l.drop a).take i).sum + l.getD (a + i) 0) ∧ zbv_b7 p n c _ (((l.drop a).take i).sum + l.getD (a + i) 0) _ _ _ _ _ _ _ _
        have es := yapn (l := l) (a := a) (i := a + i) (by omega) (by omega)
        rw [show a + i + 1 - a = i + 1 by omega, show a + i - a = i by omega] at es
        rw [← es, zbv_b7]
        have hb := yays (l := (l.drop a).take (i + 1)) fun z hz => hk z (List.mem_of_mem_drop (List.mem_of_mem_take hz))
        have hbl : ((l.drop a).take (i + 1)).length ≤ 1000 := by rw [List.length_take, List.length_drop]; omega
        refine ⟨⟨by omega, by omega⟩, ⟨by omega, by omega⟩, ⟨rfl, i + 1, by push_cast; rfl, by omega, rfl⟩, by dsimp only; omega⟩
    · have : i = b - a := by omega
      subst this
      rw [zbv_b8]
      exact mboxT na s (yaan _ _)
theorem yagt {l' : List Int} (z : Int) (na : RowsA (p, n, c) (l'.map row1) B) (s : St h0 h (modA b1 b2 code q m cc y0 y1 y2 B G)) : zbv_b9 p n c (some ⟨b2, 0, none⟩) z h (yafk h0 G (l'.map row1) 0 z) := by
  delta modA at s
  rw [zbv_b9]
  exact mboxT na s (yaan _ _)
theorem yaze (hk : ∀ z ∈ l, KeyP z) (na : RowsA (p, n, c) (l.map row1) B) (rz : RdS h0 G TI q m zs) (hmc : m ≤ cc) (s : St h0 h (B + G)) (hn : n ≤ 1000) (hcn : n ≤ c) (hc : 1 ≤ code ∧ code ≤ 7) (h1 : code ≠ 7 → 1 ≤ zs.length) (h2 : code = 1 ∨ (4 ≤ code ∧ code ≤ 6) → 2 ≤ zs.length) :
    yaae Tryz.prog 94 #[.slice p n c, .agg #[.int .i64 code, .slice q m cc]] h (MSeqP h0 G l code zs) := by
  have hl : (l.map row1).length = n := yaav na
  rw [List.length_map] at hl
  refine zbv_call ?_
  rw [zbv_b0]
  refine s.new (cs := [_, _]) fun b1 h3 _ s => s.new (cs := [_, _, _]) fun b2 h4 _ s => ?_
  have hrz : RdT TI h4 q m zs := rz h4 (cA b2 [.int .i64 0, .int .i64 0, .slice none 0 0] 58 + (cA b1 [.int .i64 code, .slice q m cc] 50 + B)) s.to
  have hzl := hrz.len
  by_cases h56 : code = 5 ∨ code = 6
  · have hb2 := yasp hk na hrz (b1 := b1) (b2 := b2) (cc := cc) (code := code) (y0 := .int .i64 0) (y1 := .int .i64 0) (y2 := .slice none 0 0) (by delta modA; exact s) hn hcn h56 (h2 (by omega))
    refine ⟨_, s.ld0, yaat (decide_eq_false (by omega)) (condP (fun h5 => ?_) (fun h5 => ?_))⟩
    · rw [decide_eq_true h5]; exact hb2
    · rw [decide_eq_true (show code = 6 by omega)]; exact hb2
  refine ⟨_, s.ld0, condP (fun h7 => ?_) (fun h7 => ?_)⟩
  · have e : seqS l code zs = (l, 0, (l.length : Int)) := by subst h7; rfl
    rw [MSeqP, e, hl]
    exact mboxT na s (yaan _ _)
  refine yaat (decide_eq_false (by omega)) ?_
  rw [decide_eq_false (show ¬ code = 6 by omega), zbv_b1]
  refine yaat rfl ?_
  rw [zbv_b3]
  refine ⟨_, _, _, s.ldB, ldI (i' := 0) hrz rfl (by omega) ⟨_, s.ld0, condP (fun hp => ?_) (fun hp => ?_)⟩⟩
  · have e : seqS l code zs = (if zs.getD 0 0 < 0 ∨ (l.length : Int) < zs.getD 0 0 then (l, 2, 0) else if l.length = 500 then (l, 4, 0) else (l.take (zs.getD 0 0).toNat ++ zs.getD 1 0 :: l.drop (zs.getD 0 0).toNat, 0, 0)) := by subst hp; rfl
    rw [MSeqP, e]
    refine condP (fun h3 => ?_) (fun h3 => condP (fun h4 => ?_) (fun h4 => condP (fun h5 => ?_) (fun h5 => ?_)))
    · rw [if_pos (by omega)]; exact mboxT na s (yaas _ _)
    · rw [if_pos (by omega)]; exact mboxT na s (yaas _ _)
    · rw [if_neg (by omega), if_pos (by omega)]; exact mboxT na s (yaas _ _)
    rw [if_neg (by omega), if_neg (by omega), zbv_b5]
    obtain ⟨a, ha⟩ : ∃ a : Nat, zs.getD 0 0 = a := ⟨(zs.getD 0 0).toNat, by omega⟩
    have h2 := h2 (by omega)
    simp only [ha, Int.toNat_natCast] at h3 h4 ⊢
    refine ⟨_, _, _, s.ldB, ldI (i' := 1) hrz rfl (by omega) (s.new (cs := [_]) fun b5 h8 _ s => s.new (cs := [_]) fun b6 h9 _ s => ?_)⟩
    have o5 : Sl TI (some ⟨b5, 0, none⟩) 1 1 [zs.getD 1 0] (cA b5 [.int .i64 (zs.getD 1 0)] 3) := Sl.of_blk (T := TI) rfl rfl
    refine (yafn (b := b6) na o5 (s.to (B := cA b6 [.slice (some ⟨b5, 0, none⟩) 1 1] 29 + (B + (cA b5 [.int .i64 (zs.getD 1 0)] 3 + (cA b2 [.int .i64 0, .int .i64 0, .slice none 0 0] 58 + (cA b1 [.int .i64 code, .slice q m cc] 50 + G)))))) (by omega) (by omega)).mono fun v h9 ⟨q', d', B', hv, na', s⟩ => ⟨_, _, _, hv, ?_⟩
    have hrow : (l.map row1).take a ++ [zs.getD 1 0] :: (l.map row1).drop a = (l.take a ++ zs.getD 1 0 :: l.drop a).map row1 := by
      rw [← List.map_take, ← List.map_drop, List.map_append, List.map_cons]
    rw [hrow] at na'
    exact mboxT (b2 := b2) (D := cA b1 [.int .i64 code, .slice q m cc] 50) na' s.to (yaan _ _)
  · have e : seqS l code zs = (if zs.getD 0 0 < 0 ∨ (l.length : Int) ≤ zs.getD 0 0 then (l, 2, 0) else if code = 2 then (l.take (zs.getD 0 0).toNat ++ l.drop ((zs.getD 0 0).toNat + 1), 0, l.getD (zs.getD 0 0).toNat 0) else if code = 4 then (l.set (zs.getD 0 0).toNat (zs.getD 1 0), 0, l.getD (zs.getD 0 0).toNat 0) else (l, 0, l.getD (zs.getD 0 0).toNat 0)) := by
      unfold seqS; rw [if_neg h7, if_neg h56, if_neg hp]
    rw [MSeqP, e]
    refine condP (fun h3 => ?_) (fun h3 => condP (fun h4 => ?_) (fun h4 => ?_))
    · rw [if_pos (by omega)]; exact mboxT na s (yaas _ _)
    · rw [if_pos (by omega)]; exact mboxT na s (yaas _ _)
    rw [if_neg (by omega), zbv_b6]
    obtain ⟨a, ha⟩ : ∃ a : Nat, zs.getD 0 0 = a := ⟨(zs.getD 0 0).toNat, by omega⟩
    simp only [ha, Int.toNat_natCast] at h3 h4 ⊢
    refine get1 na (s.at B) rfl (by omega) ⟨_, s.ld0, condP (fun h5 => ?_) (fun h5 => condP (fun h6 => ?_) (fun h6 => ?_))⟩
    · rw [if_pos h5]
      refine ⟨⟨by omega, by omega⟩, (yaem (i := a) na (s.at B) (by omega) rfl (by omega)).mono fun v h' ⟨B', hv, na', s⟩ => ⟨_, _, _, hv, ?_⟩⟩
      have hrow : (l.map row1).take a ++ (l.map row1).drop (a + 1) = (l.take a ++ l.drop (a + 1)).map row1 := by
        rw [← List.map_take, ← List.map_drop, List.map_append]
      rw [hrow] at na'
      exact yagt (b1 := b1) (b2 := b2) (code := code) (q := q) (m := m) (cc := cc) (y0 := .int .i64 0) (y1 := .int .i64 0) (y2 := .slice none 0 0) _ na' (by delta modA; exact s.to)
    · rw [if_neg h5, if_pos h6]
      have h2 := h2 (by omega)
      refine yadb na (s.at B) (by omega) (by omega) fun q' l' d' Bi Br o hB hset => ⟨_, _, _, s.ldB, ldI (i' := 1) hrz rfl (by omega) ?_⟩
      rw [Int.toNat_natCast, yael (by omega)] at o
      have ol : 1 = l' := o.len
      subst ol
      subst hB
      refine Sl.wrI (F := cA b2 [.int .i64 0, .int .i64 0, .slice none 0 0] 58 + (cA b1 [.int .i64 code, .slice q m cc] 50 + (Br + G))) (x := zs.getD 1 0) o s.to (by omega) (by omega) rfl rfl fun h' A' o' s' => ?_
      have na' := hset _ _ o'
      have hrow : (l.map row1).set (Int.toNat (a : Int)) ([l.getD a 0].set (Int.toNat (0 : Int)) (zs.getD 1 0)) = (l.set a (zs.getD 1 0)).map row1 := by
        rw [Int.toNat_natCast, List.map_set]; rfl
      rw [hrow] at na'
      exact yagt (b1 := b1) (b2 := b2) (code := code) (q := q) (m := m) (cc := cc) (y0 := .int .i64 0) (y1 := .int .i64 0) (y2 := .slice none 0 0) _ na' (by delta modA; exact s'.to)
    · rw [if_neg h5, if_neg h6]
      exact yagt (b1 := b1) (b2 := b2) (code := code) (q := q) (m := m) (cc := cc) (y0 := .int .i64 0) (y1 := .int .i64 0) (y2 := .slice none 0 0) _ na (by delta modA; exact s)
end
def clsN (rows : List (List Int)) (x : Int) : Nat := rows.findIdx fun r => decide (x ∈ r)
def clsZ (rows : List (List Int)) (x : Int) : Int := if clsN rows x < rows.length then (clsN rows x : Int) else -1
def tot (rows : List (List Int)) : Nat := (rows.map List.length).sum
def yabc : List Int → List Int → List Int
  | [], ys => ys
  | x :: xs, [] => x :: xs
  | x :: xs, y :: ys => if x < y then x :: yabc xs (y :: ys) else y :: yabc (x :: xs) ys
theorem yart (xs : List Int) : yabc xs [] = xs := by cases xs <;> simp [yabc]
theorem yabj : ∀ xs ys : List Int, (yabc xs ys).Perm (xs ++ ys)
  | [], ys => by rw [yabc]; exact .refl _
  | x :: xs, [] => by rw [yabc, List.append_nil]
  | x :: xs, y :: ys => by
    rw [yabc]
    split
    · exact (yabj xs (y :: ys)).cons _
    · exact ((yabj (x :: xs) ys).cons _).trans (List.perm_middle (l₁ := x :: xs)).symm
theorem yaps (xs ys : List Int) : (yabc xs ys).length = xs.length + ys.length := by rw [(yabj xs ys).length_eq, List.length_append]
theorem yacc : ∀ xs ys : List Int, xs.Pairwise (· ≤ ·) → ys.Pairwise (· ≤ ·) → (yabc xs ys).Pairwise (· ≤ ·)
  | [], ys, _, h => by rw [yabc]; exact h
  | x :: xs, [], h, _ => by rw [yabc]; exact h
  | x :: xs, y :: ys, h1, h2 => by
    rw [yabc]
    have a1 := List.pairwise_cons.1 h1
    have a2 := List.pairwise_cons.1 h2
    split
    · rename_i hlt
      refine List.pairwise_cons.2 ⟨fun z hz => ?_, yacc xs (y :: ys) a1.2 h2⟩
      rcases List.mem_append.1 ((yabj _ _).mem_iff.1 hz) with hz | hz
      · exact a1.1 z hz
      · rcases List.mem_cons.1 hz with rfl | hz
        · omega
        · have := a2.1 z hz; omega
    · rename_i hge
      refine List.pairwise_cons.2 ⟨fun z hz => ?_, yacc (x :: xs) ys h1 a2.2⟩
      rcases List.mem_append.1 ((yabj _ _).mem_iff.1 hz) with hz | hz
      · rcases List.mem_cons.1 hz with rfl | hz
        · omega
        · have := a1.1 z hz; omega
      · exact a2.1 z hz
def cutL {α : Type} (l : List α) (i : Nat) : List α := l.take i ++ l.drop (i + 1)
def uniR (rows : List (List Int)) (a b : Nat) : List (List Int) := cutL (rows.set (min a b) (yabc (rows.getD a []) (rows.getD b []))) (max a b)
def setsS (rows : List (List Int)) (c : Int) (zs : List Int) : List (List Int) × Int × Int :=
  if c = 1 then (if tot rows = 500 then (rows, 4, 0) else (rows ++ [[(tot rows : Int)]], 0, (tot rows : Int)))
  else if c = 5 then (rows, 0, (rows.length : Int))
  else if c = 4 then (if clsZ rows (zs.getD 0 0) < 0 then (rows, 12, 0) else (rows, 0, ((rows.getD (clsN rows (zs.getD 0 0)) []).length : Int)))
  else if clsZ rows (zs.getD 0 0) < 0 ∨ clsZ rows (zs.getD 1 0) < 0 then (rows, 12, 0)
  else if c = 3 then (rows, 0, if clsN rows (zs.getD 0 0) = clsN rows (zs.getD 1 0) then 1 else 0)
  else if clsN rows (zs.getD 0 0) = clsN rows (zs.getD 1 0) then (rows, 0, 0)
  else (uniR rows (clsN rows (zs.getD 0 0)) (clsN rows (zs.getD 1 0)), 0, 1)
abbrev SetsP (h0 : Hp) (G : Bag) (l : List (List Int)) (c : Int) (zs : List Int) : VK := StepP h0 G 4 (setsS l c zs).1 (setsS l c zs).2.1 (setsS l c zs).2.2
abbrev yaoe (h0 : Hp) (G : Bag) (l : List (List Int)) (c : Int) (zs : List Int) : VK := yafk h0 G (setsS l c zs).1 (setsS l c zs).2.1 (setsS l c zs).2.2
theorem ybah {rows : List (List Int)} {x : Int} {i : Nat} (hi : i < rows.length) (h1 : ∀ j, j < i → x ∉ rows.getD j []) (h2 : x ∈ rows.getD i []) : clsN rows x = i := by
  unfold clsN
  refine List.findIdx_eq hi |>.2 ⟨?_, fun j hj => ?_⟩
  · rw [yaac hi] at h2; simpa using h2
  · have := h1 j hj
    rw [yaac (by omega)] at this
    simpa using this
theorem yazc {rows : List (List Int)} {x : Int} (h1 : ∀ j, j < rows.length → x ∉ rows.getD j []) : clsN rows x = rows.length := by
  unfold clsN
  refine List.findIdx_eq_length.2 fun r hr => ?_
  obtain ⟨j, hj, e⟩ := List.mem_iff_getElem.1 hr
  have := h1 j hj
  rw [yaac hj, e] at this
  simpa using this
theorem yavo {rows : List (List Int)} {x : Int} {i : Nat} (hi : i < rows.length) (h1 : ∀ j, j < i → x ∉ rows.getD j []) (h2 : x ∈ rows.getD i []) : clsZ rows x = i := by
  unfold clsZ; rw [ybah hi h1 h2, if_pos hi]
theorem yaun {rows : List (List Int)} {x : Int} (h1 : ∀ j, j < rows.length → x ∉ rows.getD j []) : clsZ rows x = -1 := by
  unfold clsZ; rw [yazc h1, if_neg (by omega)]
theorem yado {rows : List (List Int)} {x : Int} (h : ¬ clsZ rows x < 0) : clsZ rows x = clsN rows x ∧ clsN rows x < rows.length := by
  unfold clsZ at *; split <;> rename_i hc <;> simp_all
theorem yafb {rows : List (List Int)} {i : Nat} (h : i < rows.length) : tot (rows.take (i + 1)) = tot (rows.take i) + (rows.getD i []).length := by
  unfold tot
  rw [List.take_succ_eq_append_getElem h, List.map_append, List.sum_append, yaac h]
  simp
theorem yatk {rows : List (List Int)} (i : Nat) : tot (rows.take i) ≤ tot rows := by
  have e : tot rows = tot (rows.take i) + tot (rows.drop i) := by
    unfold tot
    rw [← List.sum_append, ← List.map_append, List.take_append_drop]
  omega
theorem yage {rows : List (List Int)} {i : Nat} : (rows.getD i []).length ≤ tot rows := by
  rcases Nat.lt_or_ge i rows.length with h | h
  · have := yafb h
    have := yatk (rows := rows) (i + 1)
    omega
  · rw [List.getD_eq_getElem?_getD, List.getElem?_eq_none h]; simp
section
variable {h0 h : Hp} {p : OA} {n c : Nat} {rows : List (List Int)} {B G : Bag}
theorem yack {i : Int} {i' : Nat} {Q : OA → Nat → Nat → Prop} (na : RowsA (p, n, c) rows B) (st : St h0 h (B + G)) (ei : i = (i' : Int)) (hi : i' < n)
    (hq : ∀ q d, RdT TI h q (rows.getD i' []).length (rows.getD i' []) → Q q (rows.getD i' []).length d) : (0 ≤ i ∧ i < (n : Int)) ∧ NN p fun a => ∃ q l d, cell h (a.add (i.toNat * 1)) = some (.slice q l d) ∧ Q q l d := by
  subst ei
  refine yadb na st (by omega) (by omega) fun q l d Bi Br o hB _ => ?_
  rw [Int.toNat_natCast] at o
  have ol : (rows.getD i' []).length = l := o.len
  subst ol
  subst hB
  exact hq q d (o.rd (st.at Bi))
theorem ybas {k : Int} (hk : k = 4 ∨ k = 6) (na : RowsA (p, n, c) rows B) (s : St h0 h (B + G)) (hn : n ≤ 1000) (ht : tot rows ≤ 1000000) :
    yaae Tryz.prog 108 #[.agg #[.int .i64 k, .slice p n c]] h (fun v h' => v = .int .i64 (tot rows : Int) ∧ St h0 h' (B + G)) := by
  have hl : rows.length = n := yaav na
  refine zci_call ?_
  rw [zci_b0]
  refine s.new (cs := [_, _]) fun b1 h1 _ s => ?_
  have key : zci_b1 (some ⟨b1, 0, none⟩) h1 fun v h' => v = .int .i64 (tot rows : Int) ∧ St h0 h' (B + G) := by
    rw [zci_b1]
    refine ⟨fun x h' => h' = h1 ∧ ∃ i : Nat, x.2.1 = i ∧ i ≤ n ∧ x.1 = (tot (rows.take i) : Int), fun x _ => (n - x.2.1).toNat, ⟨rfl, 0, rfl, Nat.zero_le _, by simp [tot]⟩, ?_⟩
    rintro ⟨x, y, _⟩ h7 ⟨rfl, i, rfl, hi, hx⟩
    dsimp only at hx ⊢
    subst hx
    rw [zci_b2]
    refine ⟨_, _, _, s.ldB, condP (fun hlt => ?_) (fun hge => ?_)⟩
    · refine ⟨_, _, _, s.ldB, yack na (s.at B) rfl (by omega) fun q d r => ?_⟩
      have := yafb (rows := rows) (i := i) (by omega)
      have := yatk (rows := rows) (i + 1)
      refine ⟨⟨by omega, by omega⟩, ?_⟩
      rw [zci_b3]
      exact ⟨⟨by omega, by omega⟩, ⟨rfl, i + 1, by push_cast; rfl, by omega, by push_cast; omega⟩, by dsimp only; omega⟩
    · rw [zci_b4, List.take_of_length_le (by omega)]
      exact ⟨rfl, s.drop⟩
  rcases hk with rfl | rfl
  · exact ⟨_, s.ld0, yaat rfl key⟩
  · exact ⟨_, s.ld0, yaaw rfl ⟨_, s.ld0, yaat rfl key⟩⟩
theorem yakr {k x : Int} (na : RowsA (p, n, c) rows B) (s : St h0 h (B + G)) (hn : n ≤ 1000) (ht : tot rows ≤ 1000000) :
    yaae Tryz.prog 109 #[.agg #[.int .i64 k, .slice p n c], .int .i64 x] h (fun v h' => v = .int .i64 (clsZ rows x) ∧ St h0 h' (B + G)) := by
  have hl : rows.length = n := yaav na
  refine zco_call ?_
  rw [zco_b0]
  refine s.new (cs := [_, _]) fun b1 h1 _ s => ?_
  refine ⟨fun y h' => h' = h1 ∧ ∃ i : Nat, y.1 = i ∧ i ≤ n ∧ ∀ j, j < i → x ∉ rows.getD j [], fun y _ => (n - y.1).toNat, ⟨rfl, 0, rfl, Nat.zero_le _, fun j hj => absurd hj (by omega)⟩, ?_⟩
  rintro ⟨_, _⟩ h7 ⟨rfl, i, rfl, hi, hno⟩
  dsimp only
  rw [zco_b1]
  refine ⟨_, _, _, s.ldB, condP (fun hlt => ?_) (fun hge => ?_)⟩
  · refine ⟨fun y h' => h' = h7 ∧ ∃ k : Nat, y.1 = k ∧ k ≤ (rows.getD i []).length ∧ x ∉ (rows.getD i []).take k, fun y _ => ((rows.getD i []).length - y.1).toNat, ⟨rfl, 0, rfl, Nat.zero_le _, by simp⟩, ?_⟩
    rintro ⟨_, _⟩ h8 ⟨rfl, k, rfl, hk, hnk⟩
    dsimp only
    rw [zco_b2]
    refine ⟨_, _, _, s.ldB, yack na (s.at B) rfl (by omega) fun q d r => condP (fun hlk => ?_) (fun hgk => ?_)⟩
    · refine ⟨_, _, _, s.ldB, yack na (s.at B) rfl (by omega) fun q d r => ldI (i' := k) r rfl (by omega) (condP (fun he => ?_) (fun hne => ?_))⟩
      · refine ⟨?_, s.drop⟩
        rw [yavo (i := i) (by omega) hno (by rw [← he]; exact yaal (by omega))]
      · rw [zco_b4]
        refine ⟨⟨by omega, by have := yage (rows := rows) (i := i); omega⟩, ⟨rfl, k + 1, by push_cast; rfl, by omega, ?_⟩, by dsimp only; omega⟩
        rw [List.take_succ_eq_append_getElem (by omega)]
        rw [yaac (by omega)] at hne
        simp only [List.mem_append, List.mem_singleton, not_or]
        exact ⟨hnk, fun h => hne h.symm⟩
    · rw [zco_b5]
      rw [List.take_of_length_le (by omega)] at hnk
      refine ⟨⟨by omega, by omega⟩, ⟨rfl, i + 1, by push_cast; rfl, by omega, fun j hj => ?_⟩, by dsimp only; omega⟩
      rcases Nat.lt_or_ge j i with h | h
      · exact hno j h
      · rwa [show j = i by omega]
  · rw [zco_b3]
    exact ⟨by rw [yaun fun j hj => hno j (by omega)], s.drop⟩
theorem yavu {q : OA} {m d : Nat} {zs : List Int} (r : RdT TI h q m zs) (hm : m ≤ 1000000) (x : Int) :
    yaae Tryz.prog 149 #[.slice q m d, .int .i64 x] h (fun v h' => h' = h ∧ v = .bool (decide (x ∈ zs))) := by
  have hzl := r.len
  refine zdr_call ?_
  rw [zdr_b0]
  refine zdx_call ?_
  rw [zdx_b0]
  refine ⟨fun s h' => h' = h ∧ ∃ i : Nat, s.1 = i ∧ i ≤ m ∧ x ∉ zs.take i, fun s _ => (m - s.1).toNat, ⟨rfl, 0, rfl, by omega, by simp⟩, ?_⟩
  rintro ⟨_, _⟩ h1 ⟨rfl, i, rfl, hin, hno⟩
  dsimp only
  rw [zdx_b1]
  refine condP (fun hlt => ?_) (fun hge => ?_)
  · refine ldI (i' := i) r rfl (by omega) (condP (fun he => ?_) (fun hne => ?_))
    · refine ⟨_, rfl, rfl, ?_⟩
      rw [decide_eq_true (by omega), decide_eq_true]
      rw [he]; exact yaal (by omega)
    · rw [zdx_b2]
      refine ⟨⟨by omega, by omega⟩, ⟨rfl, i + 1, by push_cast; rfl, by omega, ?_⟩, by dsimp only; omega⟩
      rw [List.take_succ_eq_append_getElem (by omega)]
      rw [yaac (by omega)] at hne
      simp only [List.mem_append, List.mem_singleton, not_or]
      exact ⟨hno, hne⟩
  · rw [zdx_b3]
    rw [List.take_of_length_le (by omega)] at hno
    refine ⟨_, rfl, rfl, ?_⟩
    rw [decide_eq_false (by omega), decide_eq_false hno]
theorem yamk {x : Int} (na : RowsA (p, n, c) rows B) (s : St h0 h (B + G)) (hn : n ≤ 1000) (ht : tot rows ≤ 1000000) :
    yaae Tryz.prog 132 #[.slice p n c, .int .i64 x] h (fun v h' => v = .int .i64 (clsZ rows x) ∧ St h0 h' (B + G)) := by
  have hl : rows.length = n := yaav na
  refine zbk_call ?_
  rw [zbk_b0]
  refine s.new (cs := [_]) fun b1 h1 _ s => ?_
  refine zdv_call ?_
  rw [zdv_b0]
  refine ⟨fun y h' => h' = h1 ∧ ∃ i : Nat, y.1 = i ∧ i ≤ n ∧ ∀ j, j < i → x ∉ rows.getD j [], fun y _ => (n - y.1).toNat, ⟨rfl, 0, rfl, Nat.zero_le _, fun j hj => absurd hj (by omega)⟩, ?_⟩
  rintro ⟨_, _⟩ h7 ⟨rfl, i, rfl, hi, hno⟩
  dsimp only
  rw [zdv_b1]
  refine condP (fun hlt => ?_) (fun hge => ?_)
  · refine yack na (s.at B) rfl (by omega) fun q d r => ?_
    change callX Tryz.prog F 148 #[.slice q (rows.getD i []).length d, .pointer (some ⟨b1, 0, none⟩)] h7 _
    refine yaex (by kernel_rfl) (zbl_call ?_)
    rw [zbl_b0]
    have := yage (rows := rows) (i := i)
    refine ⟨_, s.ld0, (yavu r (by omega) x).mono fun v h' ⟨hh, hv⟩ => ⟨_, hv, _, rfl, ?_⟩⟩
    subst hh
    refine condP (fun he => ?_) (fun hne => ?_)
    · exact ⟨_, rfl, by rw [yavo (i := i) (by omega) hno he], s.drop⟩
    · rw [zdv_b2]
      refine ⟨⟨by omega, by omega⟩, ⟨rfl, i + 1, by push_cast; rfl, by omega, fun j hj => ?_⟩, by dsimp only; omega⟩
      rcases Nat.lt_or_ge j i with h | h
      · exact hno j h
      · rwa [show j = i by omega]
  · rw [zdv_b3]
    exact ⟨_, rfl, by rw [yaun fun j hj => hno j (by omega)], s.drop⟩
end
theorem AllH.editH : ∀ {hs : List SH} {xs : List (List Int)} {A : Bag} {i : Nat}, AllH RowP hs xs A → i < hs.length → ∃ Ai Br, A = Ai + Br ∧ RowP (hs.getD i (none, 0, 0)) (xs.getD i []) Ai ∧ ∀ x y C, RowP x y C → AllH RowP (hs.set i x) (xs.set i y) (C + Br)
  | [], _, _, _, _, h => by simp at h
  | _ :: _, [], _, _, h, _ => h.elim
  | b :: bs, t :: ts, _, 0, ⟨A1, A2, e, h1, h2⟩, _ => ⟨A1, A2, e, h1, fun x y C hy => ⟨C, A2, rfl, hy, h2⟩⟩
  | b :: bs, t :: ts, _, i + 1, ⟨A1, A2, e, h1, h2⟩, hi => by
    obtain ⟨Ai, Br, e2, h3, h4⟩ := AllH.editH h2 (i := i) (by simpa using hi)
    refine ⟨Ai, A1 + Br, by rw [e, e2]; ac_rfl, by simpa using h3, fun x y C hy => ?_⟩
    exact ⟨A1, C + Br, by ac_rfl, h1, h4 x y C hy⟩
section
variable {h0 h : Hp} {p q : OA} {n c m d : Nat} {rows : List (List Int)} {B C G : Bag}
theorem yatv {i : Int} {i' : Nat} {y : List Int} {k : Hp → Prop} (na : RowsA (p, n, c) rows B) (o : Sl TI q m d y C) (s : St h0 h (B + (C + G))) (ei : i = (i' : Int)) (hi : i' < n)
    (hk : ∀ h' B', RowsA (p, n, c) (rows.set i' y) B' → St h0 h' (B' + G) → k h') : (0 ≤ i ∧ i < (n : Int)) ∧ NN p fun ad => Wr h (ad.add (i.toNat * 1)) (.slice q m d) k := by
  obtain ⟨hs, B0, B1, rfl, h1, h2⟩ := na
  have hl : hs.length = n := h1.len
  obtain ⟨Ai, Br, rfl, _, hset⟩ := AllH.editH h2 (i := i') (by omega)
  refine wrH (x := (q, m, d)) h1 (s.to (B := B0 + (C + (Br + (Ai + G))))) ei hi fun h' A' o' s' => hk h' (A' + (C + Br)) ⟨_, A', C + Br, rfl, o', hset (q, m, d) y C o⟩ ?_
  exact (s'.to (B := Ai + (A' + (C + Br) + G))).drop
theorem yatw {q2 : OA} {m2 d2 : Nat} {xs ys : List Int} (r1 : RdT TI h q m xs) (r2 : RdT TI h q2 m2 ys) (h1 : m ≤ 1000000) (h2 : m2 ≤ 1000000) :
    yaae Tryz.prog 110 #[.slice q m d, .slice q2 m2 d2] h (fun v h' => ∃ p c A, v = .slice p (m + m2) c ∧ Sl TI p (m + m2) c (yabc xs ys) A ∧ St h h' A) := by
  have l1 := r1.len
  have l2 := r2.len
  refine zcv_call ?_
  rw [zcv_b0]
  refine ⟨fun x h' => ∃ (i k : Nat) (out : List Int) (A : Bag), x.2.1 = i ∧ x.2.2.1 = k ∧ i ≤ m ∧ k ≤ m2 ∧ x.1.2.1 = i + k ∧ Sl TI x.1.1 x.1.2.1 x.1.2.2 out A ∧ St h h' A ∧ out ++ yabc (xs.drop i) (ys.drop k) = yabc xs ys, fun x _ => (m - x.2.1).toNat + (m2 - x.2.2.1).toNat, ⟨0, 0, [], 0, rfl, rfl, Nat.zero_le _, Nat.zero_le _, rfl, Sl.nil, St.start h, rfl⟩, ?_⟩
  rintro ⟨⟨p, n, c⟩, _, _, _⟩ h7 ⟨i, k, out, A, rfl, rfl, hi, hk, hn, o, s, e⟩
  dsimp only at hn o ⊢
  rw [zcv_b1]
  have s0 : St h h7 (A + 0) := by rw [Bag.add_zero]; exact s
  have R1 := r1.ext s.ext
  have R2 := r2.ext s.ext
  have takeA : i < m → (k = m2 ∨ (k < m2 ∧ xs.getD i 0 < ys.getD k 0)) → yabc (xs.drop i) (ys.drop k) = xs.getD i 0 :: yabc (xs.drop (i + 1)) (ys.drop k) := by
    intro hi hk
    rw [List.drop_eq_getElem_cons (show i < xs.length by omega), yaac (show i < xs.length by omega)]
    rcases hk with hk | ⟨hk, hlt⟩
    · rw [show ys.drop k = [] from List.drop_of_length_le (by omega), yabc, yart]
    · rw [yaac (show i < xs.length by omega), yaac (show k < ys.length by omega)] at hlt
      rw [List.drop_eq_getElem_cons (show k < ys.length by omega), yabc, if_pos hlt]
  have takeB : k < m2 → (i = m ∨ (i < m ∧ ¬ xs.getD i 0 < ys.getD k 0)) → yabc (xs.drop i) (ys.drop k) = ys.getD k 0 :: yabc (xs.drop i) (ys.drop (k + 1)) := by
    intro hk hi
    rw [List.drop_eq_getElem_cons (show k < ys.length by omega), yaac (show k < ys.length by omega)]
    rcases hi with hi | ⟨hi, hlt⟩
    · rw [show xs.drop i = [] from List.drop_of_length_le (by omega), yabc, yabc]
    · rw [yaac (show i < xs.length by omega), yaac (show k < ys.length by omega)] at hlt
      rw [List.drop_eq_getElem_cons (show i < xs.length by omega), yabc, if_neg hlt]
  have stepA : ∀ (hi : i < m), (k = m2 ∨ (k < m2 ∧ xs.getD i 0 < ys.getD k 0)) → ∀ (K : OA → Nat → Nat → Hp → Prop), (∀ p' c' h' A', Sl TI p' (n + 1) c' (out ++ [xs.getD i 0]) A' → St h h' A' → (out ++ [xs.getD i 0]) ++ yabc (xs.drop (i + 1)) (ys.drop k) = yabc xs ys → K p' (n + 1) c' h') →
      New h7 (.cells #[.int .i64 (xs.getD i 0)] 3) fun b h2 => yaau Tryz.prog 29 29 (.slice p n c) (.slice (some ⟨b, 0, none⟩) 1 1) h2 (slK K) := by
    intro hi hk K hK
    refine yajz yagz s0 o (x := xs.getD i 0) rfl rfl (by omega) fun p' c' h' A' o' s' => hK p' c' h' A' o' (by rwa [Bag.add_zero] at s') ?_
    rw [List.append_assoc, List.singleton_append, ← takeA hi hk]; exact e
  have stepB : ∀ (hk : k < m2), (i = m ∨ (i < m ∧ ¬ xs.getD i 0 < ys.getD k 0)) → ∀ (K : OA → Nat → Nat → Hp → Prop), (∀ p' c' h' A', Sl TI p' (n + 1) c' (out ++ [ys.getD k 0]) A' → St h h' A' → (out ++ [ys.getD k 0]) ++ yabc (xs.drop i) (ys.drop (k + 1)) = yabc xs ys → K p' (n + 1) c' h') →
      New h7 (.cells #[.int .i64 (ys.getD k 0)] 3) fun b h2 => yaau Tryz.prog 29 29 (.slice p n c) (.slice (some ⟨b, 0, none⟩) 1 1) h2 (slK K) := by
    intro hk hi K hK
    refine yajz yagz s0 o (x := ys.getD k 0) rfl rfl (by omega) fun p' c' h' A' o' s' => hK p' c' h' A' o' (by rwa [Bag.add_zero] at s') ?_
    rw [List.append_assoc, List.singleton_append, ← takeB hk hi]; exact e
  have doA : ∀ (hi : i < m) (hk : k = m2 ∨ (k < m2 ∧ xs.getD i 0 < ys.getD k 0)), (0 ≤ (i : Int) ∧ (i : Int) < (m : Int)) ∧ NN q fun a => ∃ n1, cell h7 (a.add (Int.toNat (i : Int) * 1)) = some (.int .i64 n1) ∧ New h7 (.cells #[.int .i64 n1] 3) fun b h2 => yaau Tryz.prog 29 29 (.slice p n c) (.slice (some ⟨b, 0, none⟩) 1 1) h2 (slK fun a2 l1 c1 h3 => InR ((i : Int) + 1) ∧ (∃ (i' k' : Nat) (out : List Int) (A : Bag), (i : Int) + 1 = i' ∧ (k : Int) = k' ∧ i' ≤ m ∧ k' ≤ m2 ∧ l1 = i' + k' ∧ Sl TI a2 l1 c1 out A ∧ St h h3 A ∧ out ++ yabc (xs.drop i') (ys.drop k') = yabc xs ys) ∧ ((m : Int) - ((i : Int) + 1)).toNat + ((m2 : Int) - (k : Int)).toNat < ((m : Int) - (i : Int)).toNat + ((m2 : Int) - (k : Int)).toNat) := by
    intro hi hk
    exact ldI (i' := i) R1 rfl hi (stepA hi hk _ fun p' c' h' A' o' s' e' => ⟨⟨by omega, by omega⟩, ⟨i + 1, k, _, A', by push_cast; rfl, rfl, by omega, by omega, by omega, o', s', e'⟩, by omega⟩)
  have doB : ∀ (hk : k < m2) (hi : i = m ∨ (i < m ∧ ¬ xs.getD i 0 < ys.getD k 0)), (0 ≤ (k : Int) ∧ (k : Int) < (m2 : Int)) ∧ NN q2 fun a => ∃ n1, cell h7 (a.add (Int.toNat (k : Int) * 1)) = some (.int .i64 n1) ∧ New h7 (.cells #[.int .i64 n1] 3) fun b h2 => yaau Tryz.prog 29 29 (.slice p n c) (.slice (some ⟨b, 0, none⟩) 1 1) h2 (slK fun a2 l1 c1 h3 => InR ((k : Int) + 1) ∧ (∃ (i' k' : Nat) (out : List Int) (A : Bag), (i : Int) = i' ∧ (k : Int) + 1 = k' ∧ i' ≤ m ∧ k' ≤ m2 ∧ l1 = i' + k' ∧ Sl TI a2 l1 c1 out A ∧ St h h3 A ∧ out ++ yabc (xs.drop i') (ys.drop k') = yabc xs ys) ∧ ((m : Int) - (i : Int)).toNat + ((m2 : Int) - ((k : Int) + 1)).toNat < ((m : Int) - (i : Int)).toNat + ((m2 : Int) - (k : Int)).toNat) := by
    intro hk hi
    exact ldI (i' := k) R2 rfl hk (stepB hk hi _ fun p' c' h' A' o' s' e' => ⟨⟨by omega, by omega⟩, ⟨i, k + 1, _, A', rfl, by push_cast; rfl, by omega, by omega, by omega, o', s', e'⟩, by omega⟩)
  have body : (i < m ∨ k < m2) → zcv_b2 q m d q2 m2 d2 p n c (i : Int) (k : Int) h7 (fun s' h' => (∃ (i k : Nat) (out : List Int) (A : Bag), s'.2.1 = i ∧ s'.2.2.1 = k ∧ i ≤ m ∧ k ≤ m2 ∧ s'.1.2.1 = i + k ∧ Sl TI s'.1.1 s'.1.2.1 s'.1.2.2 out A ∧ St h h' A ∧ out ++ yabc (xs.drop i) (ys.drop k) = yabc xs ys) ∧ (m - s'.2.1).toNat + (m2 - s'.2.2.1).toNat < (m - (i : Int)).toNat + (m2 - (k : Int)).toNat) (fun v h' => ∃ p c A, v = .slice p (m + m2) c ∧ Sl TI p (m + m2) c (yabc xs ys) A ∧ St h h' A) := by
    intro hlt
    rw [zcv_b2]
    refine condP (fun hkm => doA (by omega) (Or.inl (by omega))) (fun hkm => condP (fun him => ?_) (fun him => doB (by omega) (Or.inl (by omega))))
    refine ldI (i' := i) R1 rfl (by omega) (ldI (i' := k) R2 rfl (by omega) (condP (fun hc => doA (by omega) (Or.inr ⟨by omega, hc⟩)) (fun hc => doB (by omega) (Or.inr ⟨by omega, hc⟩))))
  refine condP (fun hlt => body (by omega)) (fun hge => condP (fun hlt => body (by omega)) (fun hge2 => ?_))
  rw [zcv_b3]
  have ei : i = m := by omega
  have ek : k = m2 := by omega
  rw [show xs.drop i = [] from List.drop_of_length_le (by omega), show ys.drop k = [] from List.drop_of_length_le (by omega), yabc, List.append_nil] at e
  subst ei ek e hn
  exact ⟨p, c, A, rfl, o, s⟩
end
theorem cellI {h : Hp} {q : OA} {m i : Nat} {zs : List Int} (r : RdT TI h q m zs) (hi : i < m) : ∃ ad, q = some ad ∧ cell h (ad.add (i * 1)) = some (.int .i64 (zs.getD i 0)) := by
  obtain ⟨ad, e, hc⟩ := r.at_ (i := i) hi
  refine ⟨ad, e, ?_⟩
  have := hc 0 (by decide)
  simpa [yach] using this
theorem yagf {l : List (List Int)} (h : tot l ≤ 500) (i : Nat) : (l.getD i []).length ≤ 500 := Nat.le_trans yage h
section
variable {h0 h : Hp} {b1 b2 b3 b4 : Nat} {l : List (List Int)} {p q : OA} {n c m cc : Nat} {code : Int} {zs : List Int} {B G : Bag} {x0 x1 y0 y1 y2 : Value}
theorem yasu (na : RowsA (p, n, c) l B) (s : St h0 h (refA b1 b2 b3 b4 4 p n c code q m cc x0 x1 y0 y1 y2 B G)) (hn : n ≤ 1000) (ht : tot l ≤ 500) (hc : code = 2 ∨ code = 3) {a b : Nat} (ha : a < n) (hb : b < n) :
    zdb_b2 (some ⟨b1, 0, none⟩) (some ⟨b2, 0, none⟩) (some ⟨b3, 0, none⟩) (some ⟨b4, 0, none⟩) (a : Int) (b : Int) h (StepP h0 G 4 (if code = 3 then l else if a = b then l else uniR l a b) 0 (if code = 3 then (if a = b then 1 else 0) else if a = b then 0 else 1)) := by
  have hl : l.length = n := yaav na
  rw [zdb_b2]
  delta refA at s
  refine ⟨_, s.ld0, condP (fun h3 => ?_) (fun h3 => ?_)⟩
  · rw [if_pos h3, if_pos h3]
    refine condP (fun he => ?_) (fun he => ?_)
    · rw [if_pos (by omega)]; exact boxY na s
    · rw [if_neg (by omega)]; exact boxY na s
  rw [if_neg h3, if_neg h3]
  refine condP (fun he => ?_) (fun he => ?_)
  · rw [if_pos (by omega), if_pos (by omega)]; exact boxY na s
  rw [if_neg (show ¬ a = b by omega), if_neg (show ¬ a = b by omega)]
  refine ⟨_, _, _, s.ldB, _, _, _, s.ldB, yack na (s.at B) rfl ha fun qa da ra => ⟨_, _, _, s.ldB, yack na (s.at B) rfl hb fun qb db rb => ?_⟩⟩
  have la := yagf ht a
  have lb := yagf ht b
  refine (yatw ra rb (by omega) (by omega)).mono fun v h1 ⟨q', d', A', hv, o', t'⟩ => ⟨_, _, _, hv, rfl, ?_⟩
  have s1 := s.join t'
  have s2 : St h0 h1 (B + (A' + (cA b1 [.int .i64 4, .slice p n c] 24 + (cA b2 [.int .i64 code, .slice q m cc] 50 + (cA b3 [x0, x1] 24 + (cA b4 [y0, y1, y2] 58 + G)))))) := s1.to
  have emin : (if (b : Int) < (a : Int) then (b : Int) else (a : Int)) = ((min a b : Nat) : Int) := by split <;> omega
  have emax : (if (a : Int) < (b : Int) then (b : Int) else (a : Int)) = ((max a b : Nat) : Int) := by split <;> omega
  rw [emin, emax]
  refine ⟨⟨_, _, _, s2.ldB, rfl⟩, yatv (i' := min a b) na o' s2 rfl (by omega) fun h3 B' na' s3 => ⟨_, _, _, s3.ldB, ?_⟩⟩
  refine (yafo (i := max a b) na' (s3.at B') (by omega) (by omega)).mono fun v h' ⟨q2, d2, B2, hv, na2, s⟩ => ⟨_, _, _, hv, wrC1 s fun h10 s => ?_⟩
  exact boxY (b2 := b2) (p := q2) (c := d2) (cc := cc) (q := q) (m := m) (code := code) (x0 := x0) (x1 := x1) (y0 := y0) (y1 := y1) (y2 := y2) na2 (by delta refA; exact s.to)
theorem yazt (na : RowsA (p, n, c) l B) (rz : RdS h0 G TI q m zs) (s : St h0 h (B + G)) (hn : n ≤ 1000) (ht : tot l ≤ 500) (hc : 1 ≤ code ∧ code ≤ 5) (h1 : code = 4 → 1 ≤ zs.length) (h2 : code = 2 ∨ code = 3 → 2 ≤ zs.length) :
    yaae Tryz.prog 76 #[.agg #[.int .i64 4, .slice p n c], .agg #[.int .i64 code, .slice q m cc]] h (SetsP h0 G l code zs) := by
  have hl : l.length = n := yaav na
  refine zdb_call ?_
  rw [zdb_b0]
  refine s.new (cs := [_, _]) fun b1 h3 _ s => s.new (cs := [_, _]) fun b2 h4 _ s => s.new (cs := [_, _]) fun b3 h5 _ s => s.new (cs := [_, _, _]) fun b4 h6 _ s => ?_
  have rzG : ∀ h' {p n c} {A : Bag}, St h0 h' (refA b1 b2 b3 b4 4 p n c code q m cc (.int .i64 0) (.slice none 0 0) (.int .i64 0) (.int .i64 0) (.slice none 0 0) A G) → RdT TI h' q m zs := fun h' {p n c A} s => rz h' (cA b1 [.int .i64 4, .slice p n c] 24 + (cA b2 [.int .i64 code, .slice q m cc] 50 + (cA b3 [.int .i64 0, .slice none 0 0] 24 + (cA b4 [.int .i64 0, .int .i64 0, .slice none 0 0] 58 + A)))) (by delta refA at s; exact s.to)
  refine ⟨_, _, _, _, s.ld0, s.ldB, ?_⟩
  refine (ybas (k := 4) (Or.inl rfl) na (s.at B) hn (by omega)).mono fun v h7 ⟨hv, s⟩ => ⟨_, hv, ?_⟩
  have s : St h0 h7 (cA b1 [.int .i64 4, .slice p n c] 24 + (cA b2 [.int .i64 code, .slice q m cc] 50 + (cA b3 [.int .i64 0, .slice none 0 0] 24 + (cA b4 [.int .i64 0, .int .i64 0, .slice none 0 0] 58 + (B + G))))) := s.to
  refine ⟨_, s.ld0, condP (fun hp => condP (fun hf => ?_) (fun hf => ?_)) (fun hp => condP (fun h5 => ?_) (fun h5 => condP (fun h4 => ?_) (fun h4 => ?_)))⟩
  · have e : setsS l code zs = (l, 4, 0) := by subst hp; show (if tot l = 500 then (l, 4, 0) else _) = _; rw [if_pos (by omega)]
    rw [SetsP, e]
    exact boxF na s
  · have e : setsS l code zs = (l ++ [[(tot l : Int)]], 0, (tot l : Int)) := by subst hp; show (if tot l = 500 then (l, 4, 0) else _) = _; rw [if_neg (by omega)]
    rw [SetsP, e]
    refine ⟨_, _, _, s.ldB, s.new (cs := [_]) fun b5 h8 _ s => ?_⟩
    have o5 : Sl TI (some ⟨b5, 0, none⟩) 1 1 [(tot l : Int)] (cA b5 [.int .i64 (tot l : Int)] 3) := Sl.of_blk (T := TI) rfl rfl
    refine yagu (s.to (B := B + (cA b5 [.int .i64 (tot l : Int)] 3 + (cA b1 [.int .i64 4, .slice p n c] 24 + (cA b2 [.int .i64 code, .slice q m cc] 50 + (cA b3 [.int .i64 0, .slice none 0 0] 24 + (cA b4 [.int .i64 0, .int .i64 0, .slice none 0 0] 58 + G))))))) na o5 rfl (by omega) fun p' c' h' A' na' s => wrC1 s fun h10 s => ?_
    exact boxY (b2 := b2) (p := p') (c := c') (cc := cc) (q := q) (m := m) (code := code) (x0 := .int .i64 0) (x1 := .slice none 0 0) (y0 := .int .i64 0) (y1 := .int .i64 0) (y2 := .slice none 0 0) na' (by delta refA; exact s.to)
  · have e : setsS l code zs = (l, 0, (l.length : Int)) := by subst h5; rfl
    rw [SetsP, e, hl]
    have r := boxY (z := (n : Int)) na s
    obtain ⟨n2, a2, L2, C2, c1, c2, r⟩ := r
    exact ⟨_, _, _, _, c1, c2, _, _, _, s.ldB, r⟩
  · have e : setsS l code zs = (if clsZ l (zs.getD 0 0) < 0 then (l, 12, 0) else (l, 0, ((l.getD (clsN l (zs.getD 0 0)) []).length : Int))) := by subst h4; rfl
    rw [SetsP, e]
    have hrz := rzG h7 (by delta refA; exact s)
    have hzl := hrz.len
    refine ⟨_, _, _, _, s.ld0, s.ldB, _, _, _, s.ldB, ldI (i' := 0) hrz rfl (by have := h1 h4; omega) ?_⟩
    refine (yakr na (s.at B) hn (by omega)).mono fun v h8 ⟨hv, s⟩ => ⟨_, hv, ?_⟩
    have s : St h0 h8 (cA b1 [.int .i64 4, .slice p n c] 24 + (cA b2 [.int .i64 code, .slice q m cc] 50 + (cA b3 [.int .i64 0, .slice none 0 0] 24 + (cA b4 [.int .i64 0, .int .i64 0, .slice none 0 0] 58 + (B + G))))) := s.to
    refine condP (fun hneg => ?_) (fun hneg => ?_)
    · rw [if_pos hneg]; exact boxF na s
    · rw [if_neg hneg]
      obtain ⟨e1, e2⟩ := yado hneg
      rw [e1]
      obtain ⟨n2, a2, L2, C2, c1, c2, r⟩ := boxY (z := ((l.getD (clsN l (zs.getD 0 0)) []).length : Int)) na s
      exact ⟨_, _, _, _, c1, c2, _, _, _, s.ldB, yack na (s.at B) rfl (by omega) fun q' d' _ => r⟩
  · have h23 : code = 2 ∨ code = 3 := by omega
    have e : setsS l code zs = (if clsZ l (zs.getD 0 0) < 0 ∨ clsZ l (zs.getD 1 0) < 0 then (l, 12, 0) else (if code = 3 then l else if clsN l (zs.getD 0 0) = clsN l (zs.getD 1 0) then l else uniR l (clsN l (zs.getD 0 0)) (clsN l (zs.getD 1 0)), 0, if code = 3 then (if clsN l (zs.getD 0 0) = clsN l (zs.getD 1 0) then 1 else 0) else if clsN l (zs.getD 0 0) = clsN l (zs.getD 1 0) then 0 else 1)) := by
      unfold setsS
      rw [if_neg hp, if_neg h5, if_neg h4]
      split
      · rfl
      · by_cases h3 : code = 3
        · rw [if_pos h3, if_pos h3, if_pos h3]
        · rw [if_neg h3, if_neg h3, if_neg h3]
          split <;> rfl
    rw [SetsP, e, zdb_b1]
    have h2 := h2 h23
    have hrz := rzG h7 (by delta refA; exact s)
    have hzl := hrz.len
    obtain ⟨ad, had, c0⟩ := cellI hrz (i := 1) (by omega)
    refine ⟨_, _, _, _, s.ld0, s.ldB, _, _, _, s.ldB, ldI (i' := 0) hrz rfl (by omega) ⟨_, _, _, _, s.ld0, s.ldB, _, _, _, s.ldB, ⟨by omega, by omega⟩, yaap had ⟨_, c0, ?_⟩⟩⟩
    refine (yakr na (s.at B) hn (by omega)).mono fun v h8 ⟨hv, s⟩ => ⟨_, hv, ?_⟩
    have s : St h0 h8 (cA b1 [.int .i64 4, .slice p n c] 24 + (cA b2 [.int .i64 code, .slice q m cc] 50 + (cA b3 [.int .i64 0, .slice none 0 0] 24 + (cA b4 [.int .i64 0, .int .i64 0, .slice none 0 0] 58 + (B + G))))) := s.to
    have hrz8 := rzG h8 (by delta refA; exact s)
    obtain ⟨ad8, had8, c8⟩ := cellI hrz8 (i := 1) (by omega)
    rw [had] at had8
    cases had8
    refine ⟨⟨_, c8, rfl⟩, ⟨_, _, _, s.ldB, rfl⟩, ⟨_, _, _, _, s.ld0, s.ldB, rfl⟩, ?_⟩
    refine (yakr na (s.at B) hn (by omega)).mono fun v h9 ⟨hv, s⟩ => ⟨_, hv, ?_⟩
    have s : St h0 h9 (cA b1 [.int .i64 4, .slice p n c] 24 + (cA b2 [.int .i64 code, .slice q m cc] 50 + (cA b3 [.int .i64 0, .slice none 0 0] 24 + (cA b4 [.int .i64 0, .int .i64 0, .slice none 0 0] 58 + (B + G))))) := s.to
    refine condP (fun ha => ?_) (fun ha => condP (fun hb => ?_) (fun hb => ?_))
    · rw [if_pos (Or.inl ha)]; exact boxF na s
    · rw [if_pos (Or.inr hb)]; exact boxF na s
    rw [if_neg (by omega)]
    obtain ⟨e1, e2⟩ := yado ha
    obtain ⟨e3, e4⟩ := yado hb
    rw [e1, e3]
    exact yasu na (by delta refA; exact s) hn ht h23 (by omega) (by omega)
end
end Go.Proofs.YtllhdhpjgihjfaaGreatDoor
