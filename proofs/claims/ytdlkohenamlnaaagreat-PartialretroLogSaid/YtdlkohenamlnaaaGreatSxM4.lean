/- Part X4 X5 B33 M3 Y1 Y2 Y3 Q1 Q2 Q3 I10 Q4 Q5 Q6 M4 of the proof: contracts of functions of the program, and what follows from them. -/
import Derived.Test.YtdlkohenamlnaaaGreatSxX3
set_option maxRecDepth 100000
/- Layer 3: the reference's dictionary. -/
namespace Go.Proofs.YtdlkohenamlnaaaGreat
open Go Go.Sx
abbrev row2 (e : E) : List Int := [e.1, e.2]
def StepP (h0 : Hp) (G : Bag) (k : Int) (rows : List (List Int)) (e z : Int) (v : Value) (h' : Hp) : Prop :=
  ∃ q m d B', v = .tuple #[.agg #[.int .i64 k, .slice q m d], .agg #[.int .i64 e, .int .i64 z, .slice none 0 0]] ∧ RowsA (q, m, d) rows B' ∧ St h0 h' (B' + G)
theorem boxW {h0 h : Hp} {b3 b4 : Nat} {x0 x1 y0 y1 y2 : Value} {D B G : Bag} {p : OA} {n c : Nat} {k e z : Int} {rows : List (List Int)} (na : RowsA (p, n, c) rows B)
    (s : St h0 h (cA b3 [x0, x1] 66 + (cA b4 [y0, y1, y2] 61 + (D + (B + G))))) :
    Wr h ⟨b3, 0, none⟩ (.int .i64 k) fun h6 => Wr h6 ((⟨b3, 0, none⟩ : Addr).add 1) (.slice p n c) fun h7 => Wr h7 ⟨b4, 0, none⟩ (.int .i64 e) fun h8 => Wr h8 ((⟨b4, 0, none⟩ : Addr).add 1) (.int .i64 z) fun h9 => Wr h9 ((⟨b4, 0, none⟩ : Addr).add 2) (.slice none 0 0) fun h10 =>
      ∃ r6 : Int, ∃ r7 rL3 rC3, cell h10 ⟨b3, 0, none⟩ = some (.int .i64 r6) ∧ cell h10 ((⟨b3, 0, none⟩ : Addr).add 1) = some (.slice r7 rL3 rC3) ∧
      ∃ r8 : Int, ∃ r9 : Int, ∃ r10 rL4 rC4, cell h10 ⟨b4, 0, none⟩ = some (.int .i64 r8) ∧ cell h10 ((⟨b4, 0, none⟩ : Addr).add 1) = some (.int .i64 r9) ∧ cell h10 ((⟨b4, 0, none⟩ : Addr).add 2) = some (.slice r10 rL4 rC4) ∧
      StepP h0 G k rows e z (.tuple #[.agg #[.int .i64 r6, .slice r7 rL3 rC3], .agg #[.int .i64 r8, .int .i64 r9, .slice r10 rL4 rC4]]) h10 := by
  refine s.wr rfl (by simp) fun h6 s6 => ?_
  refine s6.wr (o := 1) (yaaj _ _ _) (by simp) fun h7 s7 => ?_
  have s7 : St h0 h7 (cA b3 [.int .i64 k, .slice p n c] 66 + (cA b4 [y0, y1, y2] 61 + (D + (B + G)))) := s7
  have s7 := s7.to (B := cA b4 [y0, y1, y2] 61 + (cA b3 [.int .i64 k, .slice p n c] 66 + (D + (B + G))))
  refine s7.wr rfl (by simp) fun h8 s8 => ?_
  refine s8.wr (o := 1) (yaaj _ _ _) (by simp) fun h9 s9 => ?_
  refine s9.wr (o := 2) (yaaj _ _ _) (by simp) fun h10 s10 => ?_
  have kb := s10.atomBlk
  refine ⟨_, _, _, _, kb.cell 0, Blk.cellA kb 1, _, _, _, _, _, s10.blk.cell 0, Blk.cellA s10.blk 1, Blk.cellA s10.blk 2, p, n, c, B, rfl, na, ?_⟩
  have s10 : St h0 h10 (cA b4 [.int .i64 e, .int .i64 z, .slice none 0 0] 61 + (cA b3 [.int .i64 k, .slice p n c] 66 + (D + (B + G)))) := s10
  exact (s10.to (B := (cA b4 [.int .i64 e, .int .i64 z, .slice none 0 0] 61 + cA b3 [.int .i64 k, .slice p n c] 66 + D) + (B + G))).drop
theorem boxT {g : Nat} {args : Array Value} {h0 h : Hp} {b3 b4 : Nat} {x0 x1 y0 y1 y2 : Value} {D B G : Bag} {p : OA} {n c : Nat} {k e z : Int} {rows : List (List Int)} (na : RowsA (p, n, c) rows B)
    (s : St h0 h (cA b3 [x0, x1] 66 + (cA b4 [y0, y1, y2] 61 + (D + (B + G)))))
    (hc : yaae Tryz.prog g args h (fun v h' => v = .tuple #[.agg #[.int .i64 k, .slice p n c], .agg #[.int .i64 e, .int .i64 z, .slice none 0 0]] ∧ Ext h h')) :
    yaae Tryz.prog g args h fun v1 h5 => ∃ r1 : Int, ∃ (r2 : OA) (rL1 rC1 : Nat), ∃ r3 : Int, ∃ r4 : Int, ∃ (r5 : OA) (rL2 rC2 : Nat), v1 = .tuple #[.agg #[.int .i64 r1, .slice r2 rL1 rC1], .agg #[.int .i64 r3, .int .i64 r4, .slice r5 rL2 rC2]] ∧
      Wr h5 ⟨b3, 0, none⟩ (.int .i64 r1) fun h6 => Wr h6 ((⟨b3, 0, none⟩ : Addr).add 1) (.slice r2 rL1 rC1) fun h7 => Wr h7 ⟨b4, 0, none⟩ (.int .i64 r3) fun h8 => Wr h8 ((⟨b4, 0, none⟩ : Addr).add 1) (.int .i64 r4) fun h9 => Wr h9 ((⟨b4, 0, none⟩ : Addr).add 2) (.slice r5 rL2 rC2) fun h10 =>
      ∃ r6 : Int, ∃ r7 rL3 rC3, cell h10 ⟨b3, 0, none⟩ = some (.int .i64 r6) ∧ cell h10 ((⟨b3, 0, none⟩ : Addr).add 1) = some (.slice r7 rL3 rC3) ∧
      ∃ r8 : Int, ∃ r9 : Int, ∃ r10 rL4 rC4, cell h10 ⟨b4, 0, none⟩ = some (.int .i64 r8) ∧ cell h10 ((⟨b4, 0, none⟩ : Addr).add 1) = some (.int .i64 r9) ∧ cell h10 ((⟨b4, 0, none⟩ : Addr).add 2) = some (.slice r10 rL4 rC4) ∧
      StepP h0 G k rows e z (.tuple #[.agg #[.int .i64 r6, .slice r7 rL3 rC3], .agg #[.int .i64 r8, .int .i64 r9, .slice r10 rL4 rC4]]) h10 :=
  hc.mono fun _ _ ⟨hv, x⟩ => ⟨_, _, _, _, _, _, _, _, _, hv, boxW na (s.grow x)⟩
theorem AllH.edit : ∀ {hs : List SH} {xs : List (List Int)} {A : Bag} {i : Nat}, AllH RowP hs xs A → i < hs.length → ∃ Ai Br, A = Ai + Br ∧ RowP (hs.getD i (none, 0, 0)) (xs.getD i []) Ai ∧ ∀ y A', RowP (hs.getD i (none, 0, 0)) y A' → AllH RowP hs (xs.set i y) (A' + Br)
  | [], _, _, _, _, h => by simp at h
  | _ :: _, [], _, _, h, _ => h.elim
  | b :: bs, t :: ts, _, 0, ⟨A1, A2, e, h1, h2⟩, _ => ⟨A1, A2, e, h1, fun y A' hy => ⟨A', A2, rfl, hy, h2⟩⟩
  | b :: bs, t :: ts, _, i + 1, ⟨A1, A2, e, h1, h2⟩, hi => by
    obtain ⟨Ai, Br, e2, h3, h4⟩ := AllH.edit h2 (i := i) (by simpa using hi)
    refine ⟨Ai, A1 + Br, by rw [e, e2]; ac_rfl, by simpa using h3, fun y A' hy => ?_⟩
    exact ⟨A1, A' + Br, by ac_rfl, h1, h4 y A' (by simpa using hy)⟩
theorem yadi {h0 h : Hp} {p : OA} {n c : Nat} {rows : List (List Int)} {B G : Bag} {i : Int} {Q : OA → Nat → Nat → Prop} (na : RowsA (p, n, c) rows B) (st : St h0 h (B + G)) (hi0 : 0 ≤ i) (hi : i < n)
    (hq : ∀ q l d Bi Br, Sl TI q l d (rows.getD i.toNat []) Bi → B = Bi + Br → (∀ y Bi', Sl TI q l d y Bi' → RowsA (p, n, c) (rows.set i.toNat y) (Bi' + Br)) → Q q l d) :
    (0 ≤ i ∧ i < (n : Int)) ∧ NN p fun a => ∃ q l d, cell h (a.add (i.toNat * 1)) = some (.slice q l d) ∧ Q q l d := by
  obtain ⟨hs, B0, B1, rfl, h1, h2⟩ := na
  have r := h1.rd (st.to (B := B0 + (B1 + G)))
  refine r.idx hi0 hi fun a _ hc => ?_
  have hl : hs.length = n := h1.len
  obtain ⟨Bi, Br, hB, hp, hset⟩ := AllH.edit h2 (i := i.toNat) (by omega)
  refine ⟨_, _, _, hc 0 Nat.one_pos, hq _ _ _ Bi (B0 + Br) hp (by rw [hB]; ac_rfl) fun y Bi' hy => ?_⟩
  exact ⟨hs, B0, Bi' + Br, by ac_rfl, h1, hset y Bi' hy⟩
theorem yagl {l : List E} {i : Nat} (h : i < l.length) : (l.map row2).getD i [] = row2 (l.getD i (0, 0)) := by
  simp [List.getD, h]
theorem e_key {h0 h : Hp} {p : OA} {n c : Nat} {l : List E} {B G : Bag} {i : Int} {Q : Int → Prop} (na : RowsA (p, n, c) (l.map row2) B) (st : St h0 h (B + G)) (hi0 : 0 ≤ i) (hi : i < n) (hq : Q (l.getD i.toNat (0, 0)).1) :
    (0 ≤ i ∧ i < (n : Int)) ∧ NN p fun a => ∃ a8 L5 C5, cell h (a.add (i.toNat * 1)) = some (.slice a8 L5 C5) ∧ (0 ≤ (0 : Int) ∧ (0 : Int) < (L5 : Int)) ∧ NN a8 fun a9 => ∃ n4, cell h (a9.add (Int.toNat (0 : Int) * 1)) = some (.int .i64 n4) ∧ Q n4 := by
  have hl : (l.map row2).length = n := yaaw na
  rw [List.length_map] at hl
  have hg := yagl (l := l) (i := i.toNat) (by omega)
  exact yaiu na st hi0 hi (by omega) (by rw [hg]; simp) (by rw [hg]; exact hq)
theorem e_val {h0 h : Hp} {p : OA} {n c : Nat} {l : List E} {B G : Bag} {i : Int} {Q : Int → Prop} (na : RowsA (p, n, c) (l.map row2) B) (st : St h0 h (B + G)) (hi0 : 0 ≤ i) (hi : i < n) (hq : Q (l.getD i.toNat (0, 0)).2) :
    (0 ≤ i ∧ i < (n : Int)) ∧ NN p fun a => ∃ a8 L5 C5, cell h (a.add (i.toNat * 1)) = some (.slice a8 L5 C5) ∧ (0 ≤ (1 : Int) ∧ (1 : Int) < (L5 : Int)) ∧ NN a8 fun a9 => ∃ n4, cell h (a9.add (Int.toNat (1 : Int) * 1)) = some (.int .i64 n4) ∧ Q n4 := by
  have hl : (l.map row2).length = n := yaaw na
  rw [List.length_map] at hl
  have hg := yagl (l := l) (i := i.toNat) (by omega)
  exact yaiu na st hi0 hi (by omega) (by rw [hg]; simp) (by rw [hg]; exact hq)
def dictS (l : List E) (c : Int) (zs : List Int) : List E × Int × Int :=
  if c = 8 then (l, 0, l.length)
  else if c = 1 then (if yabw (upS l (zs.getD 0 0)) (zs.getD 0 0) = true then (lowS l (zs.getD 0 0) ++ (zs.getD 0 0, zs.getD 1 0) :: (upS l (zs.getD 0 0)).tail, 0, 1) else if l.length = 500 then (l, 4, 0) else (lowS l (zs.getD 0 0) ++ (zs.getD 0 0, zs.getD 1 0) :: upS l (zs.getD 0 0), 0, 0))
  else if c = 2 then (if yabw (upS l (zs.getD 0 0)) (zs.getD 0 0) = true then (l, 0, valOf (upS l (zs.getD 0 0))) else (l, 12, 0))
  else if c = 3 then (if yabw (upS l (zs.getD 0 0)) (zs.getD 0 0) = true then (lowS l (zs.getD 0 0) ++ (upS l (zs.getD 0 0)).tail, 0, valOf (upS l (zs.getD 0 0))) else (l, 12, 0))
  else if c = 4 then (if yabw (upS l (zs.getD 0 0)) (zs.getD 0 0) = true then (l, 0, zs.getD 0 0) else if (lowS l (zs.getD 0 0)).length = 0 then (l, 12, 0) else (l, 0, (yalh (lowS l (zs.getD 0 0))).1))
  else if c = 5 then (if (lowS l (zs.getD 0 0)).length = l.length then (l, 12, 0) else (l, 0, (yawl (upS l (zs.getD 0 0))).1))
  else if c = 6 then (l, 0, (lowS l (zs.getD 0 0)).length)
  else (if zs.getD 0 0 < 0 ∨ (l.length : Int) ≤ zs.getD 0 0 then (l, 2, 0) else (l, 0, (l.getD (zs.getD 0 0).toNat (0, 0)).1))
abbrev DictP (h0 : Hp) (G : Bag) (l : List E) (c : Int) (zs : List Int) : VK := StepP h0 G 1 ((dictS l c zs).1.map row2) (dictS l c zs).2.1 (dictS l c zs).2.2
theorem yawr {h0 h : Hp} {p : OA} {n c i : Nat} {rows : List (List Int)} {B G : Bag} (na : RowsA (p, n, c) rows B) (s : St h0 h (B + G)) (hi : i < n) (hn : n ≤ 1000000) :
    yaae Tryz.prog 115 #[.slice p n c, .int .i64 (i : Int)] h (fun v h' => ∃ q d B', v = .slice q (n - 1) d ∧ RowsA (q, n - 1, d) (rows.take i ++ rows.drop (i + 1)) B' ∧ St h0 h' (B' + G)) := by
  obtain ⟨hs, B0, B1, rfl, h1, h2⟩ := na
  obtain ⟨C1, C2, rfl, c1, c2⟩ := AllH.cut h2 i
  obtain ⟨C3, C4, rfl, _, c4⟩ := AllH.cut c2 1
  rw [List.drop_drop, List.drop_drop] at c4
  refine (yauv (s.to (B := B0 + (C1 + (C3 + C4) + G))) h1 hi hn).mono fun v h' ⟨q, d, B', hv, o, s'⟩ => ⟨q, d, B' + (C1 + C4), hv, ⟨_, B', C1 + C4, rfl, o, c1.append c4⟩, (s'.to (B := C3 + (B' + (C1 + C4) + G))).drop⟩
theorem yaxx {h0 h : Hp} {p : OA} {n c i : Nat} {rows : List (List Int)} {x : List Int} {q : OA} {m d : Nat} {B Bx G : Bag} (na : RowsA (p, n, c) rows B) (o : Sl TI q m d x Bx) (s : St h0 h (B + (Bx + G))) (hi : i ≤ n) (hn : n ≤ 1000000) :
    yaae Tryz.prog 114 #[.slice p n c, .int .i64 (i : Int), .slice q m d] h (fun v h' => ∃ q d B', v = .slice q (n + 1) d ∧ RowsA (q, n + 1, d) (rows.take i ++ x :: rows.drop i) B' ∧ St h0 h' (B' + G)) := by
  obtain ⟨hs, B0, B1, rfl, h1, h2⟩ := na
  obtain ⟨C1, C2, rfl, c1, c2⟩ := AllH.cut h2 i
  refine (yauu (x := (q, m, d)) (s.to (B := B0 + (C1 + C2 + (Bx + G)))) h1 hi hn).mono fun v h' ⟨q', d', B', hv, o', s'⟩ => ⟨q', d', B' + (C1 + (Bx + C2)), hv, ⟨_, B', C1 + (Bx + C2), rfl, o', c1.append ⟨Bx, C2, rfl, o, c2⟩⟩, s'.to⟩
theorem yajv {h0 h : Hp} {b1 b2 b3 b4 : Nat} {l : List E} {p q : OA} {n c m cc : Nat} {code : Int} {B G : Bag} (na : RowsA (p, n, c) (l.map row2) B) (s : St h0 h (cA b1 [.int .i64 1, .slice p n c] 66 + (cA b2 [.int .i64 code, .slice q m cc] 25 + (cA b3 [.int .i64 0, .slice none 0 0] 66 + (cA b4 [.int .i64 0, .int .i64 0, .slice none 0 0] 61 + (B + G)))))) {v : Int} {K : VK} {rows : List (List Int)} (hr : l.map row2 = rows) (hK : K = StepP h0 G 1 rows 0 v) : zcy_b6 (some ⟨b1, 0, none⟩) (some ⟨b3, 0, none⟩) (some ⟨b4, 0, none⟩) v h K := by
  subst hr hK
  rw [zcy_b6]
  have kb1 := s.blk
  exact ⟨_, _, _, _, kb1.cell 0, Blk.cellA kb1 1, boxT na (D := cA b1 [.int .i64 1, .slice p n c] 66 + cA b2 [.int .i64 code, .slice q m cc] 25) s.to yacz⟩
theorem yapc {h0 h : Hp} {b1 b2 b3 b4 : Nat} {l : List E} {p q : OA} {n c m cc : Nat} {code : Int} {zs : List Int} {B G : Bag} (na : RowsA (p, n, c) (l.map row2) B) (s : St h0 h (cA b1 [.int .i64 1, .slice p n c] 66 + (cA b2 [.int .i64 code, .slice q m cc] 25 + (cA b3 [.int .i64 0, .slice none 0 0] 66 + (cA b4 [.int .i64 0, .int .i64 0, .slice none 0 0] 61 + (B + G)))))) (hc : code = 7) : zcy_b7 (some ⟨b1, 0, none⟩) (some ⟨b3, 0, none⟩) (some ⟨b4, 0, none⟩) (n : Int) (zs.getD 0 0) h (DictP h0 G l code zs) := by
  have hl : (l.map row2).length = n := yaaw na
  rw [List.length_map] at hl
  have kb1 := s.blk
  have e : dictS l code zs = (if zs.getD 0 0 < 0 ∨ (l.length : Int) ≤ zs.getD 0 0 then (l, 2, 0) else (l, 0, (l.getD (zs.getD 0 0).toNat (0, 0)).1)) := by
    subst hc; rfl
  rw [DictP, e, zcy_b7]
  generalize zs.getD 0 0 = k
  have ss : St h0 h (cA b3 [.int .i64 0, .slice none 0 0] 66 + (cA b4 [.int .i64 0, .int .i64 0, .slice none 0 0] 61 + ((cA b1 [.int .i64 1, .slice p n c] 66 + cA b2 [.int .i64 code, .slice q m cc] 25) + (B + G)))) := s.to
  refine condP (fun h1 => ?_) (fun h1 => condP (fun h2 => ?_) (fun h2 => ?_))
  · rw [if_pos (.inl h1)]
    exact ⟨_, _, _, _, kb1.cell 0, Blk.cellA kb1 1, boxT na ss yage⟩
  · rw [if_pos (.inr (by omega))]
    exact ⟨_, _, _, _, kb1.cell 0, Blk.cellA kb1 1, boxT na ss yage⟩
  · rw [if_neg (by omega), zcy_b8]
    refine ⟨_, _, _, _, kb1.cell 0, Blk.cellA kb1 1, _, _, _, Blk.cellA kb1 1, e_key na (s.at B) (by omega) (by omega) ?_⟩
    exact boxT na ss yacz
theorem yahe {h0 h : Hp} {b1 b2 b3 b4 : Nat} {l : List E} {p q : OA} {n c m cc : Nat} {code : Int} {zs : List Int} {B G : Bag} (na : RowsA (p, n, c) (l.map row2) B) (s : St h0 h (cA b1 [.int .i64 1, .slice p n c] 66 + (cA b2 [.int .i64 code, .slice q m cc] 25 + (cA b3 [.int .i64 0, .slice none 0 0] 66 + (cA b4 [.int .i64 0, .int .i64 0, .slice none 0 0] 61 + (B + G)))))) (hn : n ≤ 1000) (hc : code = 2 ∨ code = 3) : zcy_b5 (some ⟨b1, 0, none⟩) (some ⟨b2, 0, none⟩) (some ⟨b3, 0, none⟩) (some ⟨b4, 0, none⟩) (n : Int) (zs.getD 0 0) ((lowS l (zs.getD 0 0)).length : Int) (yabw (upS l (zs.getD 0 0)) (zs.getD 0 0)) code true h (DictP h0 G l code zs) := by
  have hl : (l.map row2).length = n := yaaw na
  rw [List.length_map] at hl
  have kb1 := s.blk
  have kb2 := s.atomBlk
  have e : dictS l code zs = (if yabw (upS l (zs.getD 0 0)) (zs.getD 0 0) = true then (if code = 3 then lowS l (zs.getD 0 0) ++ (upS l (zs.getD 0 0)).tail else l, 0, valOf (upS l (zs.getD 0 0))) else (l, 12, 0)) := by
    rcases hc with rfl | rfl <;> rfl
  rw [DictP, e, zcy_b5]
  generalize zs.getD 0 0 = k
  have ss : St h0 h (cA b3 [.int .i64 0, .slice none 0 0] 66 + (cA b4 [.int .i64 0, .int .i64 0, .slice none 0 0] 61 + ((cA b1 [.int .i64 1, .slice p n c] 66 + cA b2 [.int .i64 code, .slice q m cc] 25) + (B + G)))) := s.to
  refine yaax rfl ?_
  by_cases hf : yabw (upS l k) k = true
  · obtain ⟨u1, u2, u3⟩ := yajm hf
    rw [if_pos hf, hf]
    refine yaam rfl ⟨_, _, _, Blk.cellA kb1 1, e_val na (s.at B) (by omega) (by omega) ?_⟩
    rw [Int.toNat_natCast, u2]
    refine ⟨_, kb2.cell 0, condP (fun h3 => ?_) (fun h3 => ?_)⟩
    · rw [if_pos h3]
      refine ⟨_, _, _, Blk.cellA kb1 1, (yawr na (s.to (B := B + (cA b1 [.int .i64 1, .slice p n c] 66 + (cA b2 [.int .i64 code, .slice q m cc] 25 + (cA b3 [.int .i64 0, .slice none 0 0] 66 + (cA b4 [.int .i64 0, .int .i64 0, .slice none 0 0] 61 + G)))))) (by omega) (by omega)).mono fun v h' ⟨q', d', B', hv, na', s'⟩ => ⟨_, _, _, hv, ?_⟩⟩
      have s' := s'.to (B := cA b1 [.int .i64 1, .slice p n c] 66 + (cA b2 [.int .i64 code, .slice q m cc] 25 + (cA b3 [.int .i64 0, .slice none 0 0] 66 + (cA b4 [.int .i64 0, .int .i64 0, .slice none 0 0] 61 + (B' + G)))))
      refine s'.wr (o := 1) (yaaj _ _ _) (by simp) fun h6 s6 => ?_
      have hrow : (l.map row2).take (lowS l k).length ++ (l.map row2).drop ((lowS l k).length + 1) = (lowS l k ++ (upS l k).tail).map row2 := by
        rw [← List.map_take, ← List.map_drop, u3, yaff, ← List.map_append]
      rw [hrow] at na'
      exact yajv na' s6 rfl rfl
    · rw [if_neg h3]
      exact yajv na s rfl rfl
  · have hf' : yabw (upS l k) k = false := by simpa using hf
    rw [if_neg hf, hf']
    exact yaax rfl ⟨_, _, _, _, kb1.cell 0, Blk.cellA kb1 1, boxT na ss yage⟩
theorem yaqm {h0 h : Hp} {b1 b2 b3 b4 : Nat} {l : List E} {p q : OA} {n c m cc : Nat} {code : Int} {zs : List Int} {B G : Bag} (na : RowsA (p, n, c) (l.map row2) B) (s : St h0 h (cA b1 [.int .i64 1, .slice p n c] 66 + (cA b2 [.int .i64 code, .slice q m cc] 25 + (cA b3 [.int .i64 0, .slice none 0 0] 66 + (cA b4 [.int .i64 0, .int .i64 0, .slice none 0 0] 61 + (B + G)))))) (hn : n ≤ 1000) (hc : 4 ≤ code ∧ code ≤ 7) : zcy_b5 (some ⟨b1, 0, none⟩) (some ⟨b2, 0, none⟩) (some ⟨b3, 0, none⟩) (some ⟨b4, 0, none⟩) (n : Int) (zs.getD 0 0) ((lowS l (zs.getD 0 0)).length : Int) (yabw (upS l (zs.getD 0 0)) (zs.getD 0 0)) code false h (DictP h0 G l code zs) := by
  have hl : (l.map row2).length = n := yaaw na
  rw [List.length_map] at hl
  have kb1 := s.blk
  have kb2 := s.atomBlk
  rw [zcy_b5]
  have ss : St h0 h (cA b3 [.int .i64 0, .slice none 0 0] 66 + (cA b4 [.int .i64 0, .int .i64 0, .slice none 0 0] 61 + ((cA b1 [.int .i64 1, .slice p n c] 66 + cA b2 [.int .i64 code, .slice q m cc] 25) + (B + G)))) := s.to
  refine yaam rfl ?_
  have hll := yalq (xs := l) (key := zs.getD 0 0)
  refine condP (fun h4 => ?_) (fun h4 => condP (fun h5 => ?_) (fun h5 => condP (fun h6 => ?_) (fun h6 => ?_)))
  · have e : dictS l code zs = (if yabw (upS l (zs.getD 0 0)) (zs.getD 0 0) = true then (l, 0, zs.getD 0 0) else if (lowS l (zs.getD 0 0)).length = 0 then (l, 12, 0) else (l, 0, (yalh (lowS l (zs.getD 0 0))).1)) := by subst h4; rfl
    rw [DictP, e]
    generalize zs.getD 0 0 = k at hll
    refine yaay (fun hf => ?_) (fun hf => ?_)
    · rw [if_pos hf]
      exact ⟨_, _, _, _, kb1.cell 0, Blk.cellA kb1 1, boxT na ss yacz⟩
    · rw [if_neg (by rw [hf]; simp)]
      refine condP (fun h0 => ?_) (fun h0 => ?_)
      · rw [if_pos (by omega)]
        exact ⟨_, _, _, _, kb1.cell 0, Blk.cellA kb1 1, boxT na ss yage⟩
      · rw [if_neg (by omega)]
        obtain ⟨w1, _, _⟩ := yamj (xs := l) (key := k) (by omega)
        have ei : Int.toNat (((lowS l k).length : Int) - 1) = (lowS l k).length - 1 := by omega
        refine ⟨_, _, _, _, kb1.cell 0, Blk.cellA kb1 1, _, _, _, Blk.cellA kb1 1, ⟨by omega, by omega⟩, e_key na (s.at B) (by omega) (by omega) ?_⟩
        rw [ei, ← w1]
        exact boxT na ss yacz
  · have e : dictS l code zs = (if (lowS l (zs.getD 0 0)).length = l.length then (l, 12, 0) else (l, 0, (yawl (upS l (zs.getD 0 0))).1)) := by subst h5; rfl
    rw [DictP, e]
    generalize zs.getD 0 0 = k at hll
    refine condP (fun h0 => ?_) (fun h0 => ?_)
    · rw [if_pos (by omega)]
      exact ⟨_, _, _, _, kb1.cell 0, Blk.cellA kb1 1, boxT na ss yage⟩
    · rw [if_neg (by omega)]
      refine ⟨_, _, _, _, kb1.cell 0, Blk.cellA kb1 1, _, _, _, Blk.cellA kb1 1, e_key na (s.at B) (by omega) (by omega) ?_⟩
      rw [Int.toNat_natCast]
      have hud := yagq (xs := l) (key := k)
      rw [List.drop_eq_getElem_cons (by omega)] at hud
      have hg : l.getD (lowS l k).length (0, 0) = l[(lowS l k).length]'(by omega) := by simp [List.getD, (show (lowS l k).length < l.length by omega)]
      rw [hg, ← hud]
      exact boxT na ss yacz
  · have e : dictS l code zs = (l, 0, ((lowS l (zs.getD 0 0)).length : Int)) := by subst h6; rfl
    rw [DictP, e]
    exact ⟨_, _, _, _, kb1.cell 0, Blk.cellA kb1 1, boxT na ss yacz⟩
  · exact yapc na s (by omega)
theorem yaph {h0 h : Hp} {b1 b2 b3 b4 : Nat} {l : List E} {p q : OA} {n c m cc : Nat} {code : Int} {zs : List Int} {B G : Bag} (na : RowsA (p, n, c) (l.map row2) B) (rz : RdS h0 G TI q m zs) (s : St h0 h (cA b1 [.int .i64 1, .slice p n c] 66 + (cA b2 [.int .i64 code, .slice q m cc] 25 + (cA b3 [.int .i64 0, .slice none 0 0] 66 + (cA b4 [.int .i64 0, .int .i64 0, .slice none 0 0] 61 + (B + G)))))) (hn : n ≤ 1000) (hc : 1 ≤ code ∧ code ≤ 7) (h2 : code = 1 → 2 ≤ zs.length) : zcy_b3 (some ⟨b1, 0, none⟩) (some ⟨b2, 0, none⟩) (some ⟨b3, 0, none⟩) (some ⟨b4, 0, none⟩) (n : Int) (zs.getD 0 0) ((lowS l (zs.getD 0 0)).length : Int) (yabw (upS l (zs.getD 0 0)) (zs.getD 0 0)) h (DictP h0 G l code zs) := by
  have hl : (l.map row2).length = n := yaaw na
  rw [List.length_map] at hl
  have kb1 := s.blk
  have kb2 := s.atomBlk
  have hll := yalq (xs := l) (key := zs.getD 0 0)
  rw [zcy_b3]
  have ss : St h0 h (cA b3 [.int .i64 0, .slice none 0 0] 66 + (cA b4 [.int .i64 0, .int .i64 0, .slice none 0 0] 61 + ((cA b1 [.int .i64 1, .slice p n c] 66 + cA b2 [.int .i64 code, .slice q m cc] 25) + (B + G)))) := s.to
  have hrz : RdT TI h q m zs := rz h (cA b1 [.int .i64 1, .slice p n c] 66 + (cA b2 [.int .i64 code, .slice q m cc] 25 + (cA b3 [.int .i64 0, .slice none 0 0] 66 + (cA b4 [.int .i64 0, .int .i64 0, .slice none 0 0] 61 + B)))) s.to
  have hzl := hrz.len
  refine ⟨_, kb2.cell 0, condP (fun h1 => ?_) (fun h1 => ?_)⟩
  · have h2 := h2 h1
    have e : dictS l code zs = (if yabw (upS l (zs.getD 0 0)) (zs.getD 0 0) = true then (lowS l (zs.getD 0 0) ++ (zs.getD 0 0, zs.getD 1 0) :: (upS l (zs.getD 0 0)).tail, 0, 1) else if l.length = 500 then (l, 4, 0) else (lowS l (zs.getD 0 0) ++ (zs.getD 0 0, zs.getD 1 0) :: upS l (zs.getD 0 0), 0, 0)) := by subst h1; rfl
    rw [DictP, e]
    generalize zs.getD 0 0 = k at hll
    refine yaay (fun hf => ?_) (fun hf => ?_)
    · obtain ⟨u1, u2, u3⟩ := yajm hf
      rw [if_pos hf]
      refine ⟨_, _, _, Blk.cellA kb1 1, yadi na (s.at B) (by omega) (by omega) fun q1 l1 d1 Bi Br o hB hset => ⟨_, _, _, Blk.cellA kb2 1, hrz.int (by omega) (by omega) ?_⟩⟩
      rw [Int.toNat_natCast] at o hset
      rw [yagl (by omega)] at o
      have hl1 : 2 = l1 := o.len
      have s1 : St h0 h (Bi + (cA b1 [.int .i64 1, .slice p n c] 66 + (cA b2 [.int .i64 code, .slice q m cc] 25 + (cA b3 [.int .i64 0, .slice none 0 0] 66 + (cA b4 [.int .i64 0, .int .i64 0, .slice none 0 0] 61 + (Br + G)))))) := by rw [hB] at s; exact s.to
      refine o.wrI s1 (by omega) (by omega) rfl rfl fun h' A' o' s' => ?_
      have na' := hset _ A' o'
      have hrow : (l.map row2).set (lowS l k).length ((row2 (l.getD (lowS l k).length (0, 0))).set (Int.toNat (1 : Int)) (zs.getD (Int.toNat (1 : Int)) 0)) = (lowS l k ++ (k, zs.getD 1 0) :: (upS l k).tail).map row2 := by
        have e1 : (row2 (l.getD (lowS l k).length (0, 0))).set (Int.toNat (1 : Int)) (zs.getD (Int.toNat (1 : Int)) 0) = row2 (k, zs.getD 1 0) := by rw [u2]; rfl
        rw [e1, List.set_eq_take_append_cons_drop, if_pos (by rw [List.length_map]; omega), ← List.map_take, ← List.map_drop, u3, yaff, List.map_append, List.map_cons]
      rw [hrow] at na'
      have s2 := s'.to (B := cA b3 [.int .i64 0, .slice none 0 0] 66 + (cA b4 [.int .i64 0, .int .i64 0, .slice none 0 0] 61 + ((cA b1 [.int .i64 1, .slice p n c] 66 + cA b2 [.int .i64 code, .slice q m cc] 25) + (A' + Br + G))))
      have kb1' := (s2.at (cA b1 [.int .i64 1, .slice p n c] 66)).blk
      exact ⟨_, _, _, _, kb1'.cell 0, Blk.cellA kb1' 1, boxT na' s2 yacz⟩
    · rw [if_neg (by rw [hf]; simp)]
      refine condP (fun h5 => ?_) (fun h5 => ?_)
      · rw [if_pos (by omega)]
        exact ⟨_, _, _, _, kb1.cell 0, Blk.cellA kb1 1, boxT na ss yage⟩
      · rw [if_neg (by omega)]
        refine ⟨_, _, _, Blk.cellA kb1 1, _, _, _, Blk.cellA kb2 1, hrz.int (by omega) (by omega) ?_⟩
        refine s.new (cs := [.int .i64 k, .int .i64 (zs.getD (Int.toNat (1 : Int)) 0)]) fun b5 h5 x5 s5 => ⟨⟨_, _, _, Blk.cellA (kb1.ext x5) 1, rfl⟩, ?_⟩
        have o5 : Sl TI (some ⟨b5, 0, none⟩) 2 2 [k, zs.getD 1 0] (cA b5 [.int .i64 k, .int .i64 (zs.getD (Int.toNat (1 : Int)) 0)] 3) := Sl.of_blk (T := TI) (xs := [k, zs.getD 1 0]) rfl rfl
        have s6 := s5.to (B := B + (cA b5 [.int .i64 k, .int .i64 (zs.getD (Int.toNat (1 : Int)) 0)] 3 + (cA b1 [.int .i64 1, .slice p n c] 66 + (cA b2 [.int .i64 code, .slice q m cc] 25 + (cA b3 [.int .i64 0, .slice none 0 0] 66 + (cA b4 [.int .i64 0, .int .i64 0, .slice none 0 0] 61 + G))))))
        refine (yaxx na o5 s6 (by omega) (by omega)).mono fun v h' ⟨q', d', B', hv, na', s'⟩ => ⟨_, _, _, hv, ?_⟩
        have s' := s'.to (B := cA b1 [.int .i64 1, .slice p n c] 66 + (cA b2 [.int .i64 code, .slice q m cc] 25 + (cA b3 [.int .i64 0, .slice none 0 0] 66 + (cA b4 [.int .i64 0, .int .i64 0, .slice none 0 0] 61 + (B' + G)))))
        refine s'.wr (o := 1) (yaaj _ _ _) (by simp) fun h6 s6 => ?_
        have hrow : (l.map row2).take (lowS l k).length ++ [k, zs.getD 1 0] :: (l.map row2).drop (lowS l k).length = (lowS l k ++ (k, zs.getD 1 0) :: upS l k).map row2 := by
          rw [← List.map_take, ← List.map_drop, yagq, yaff, List.map_append, List.map_cons]
        rw [hrow] at na'
        have s6 : St h0 h6 (cA b1 [.int .i64 1, .slice q' (n + 1) d'] 66 + (cA b2 [.int .i64 code, .slice q m cc] 25 + (cA b3 [.int .i64 0, .slice none 0 0] 66 + (cA b4 [.int .i64 0, .int .i64 0, .slice none 0 0] 61 + (B' + G))))) := s6
        have kb1' := s6.blk
        exact ⟨_, _, _, _, kb1'.cell 0, Blk.cellA kb1' 1, boxT na' (D := cA b1 [.int .i64 1, .slice q' (n + 1) d'] 66 + cA b2 [.int .i64 code, .slice q m cc] 25) s6.to yacz⟩
  · refine condP (fun h3 => ?_) (fun h3 => ?_)
    · rw [decide_eq_true h3]
      exact yahe na s hn (.inl h3)
    · rcases Decidable.em (code = 3) with h4 | h4
      · rw [decide_eq_true h4]
        exact yahe na s hn (.inr h4)
      · rw [decide_eq_false h4]
        exact yaqm na s hn ⟨by omega, by omega⟩
end Go.Proofs.YtdlkohenamlnaaaGreat
/- Layer 3: a step of a dictionary. -/
namespace Go.Proofs.YtdlkohenamlnaaaGreat
open Go Go.Sx
def cntK (l : List E) (k : Int) : Nat := (l.filter fun e => decide (e.1 < k)).length
def hasK (l : List E) (k : Int) : Bool := l.any fun e => decide (e.1 = k)
theorem yaxq {l : List E} {k : Int} (so : Srt l) : cntK l k = (lowS l k).length := by
  unfold cntK
  rw [yaeh (xs := l) (key := k)]
  have h1 := yaeh (xs := l) (key := k)
  rw [← h1]
  conv => lhs; rw [h1]
  rw [List.filter_append, List.filter_eq_self.2 (fun e he => decide_eq_true (yapl e he)), List.filter_eq_nil_iff.2 (fun e he => by have := up_ge so e he; simp; omega), List.append_nil]
theorem yazt {l : List E} {k : Int} (so : Srt l) : hasK l k = yabw (upS l k) k := by
  have h1 := yaeh (xs := l) (key := k)
  by_cases hf : yabw (upS l k) k = true
  · rw [hf]
    cases hu : upS l k with
    | nil => rw [hu] at hf; cases hf
    | cons e es =>
      rw [hu] at hf
      exact List.any_eq_true.2 ⟨e, yanz.mem (by rw [hu]; simp), hf⟩
  · have hf' : yabw (upS l k) k = false := by simpa using hf
    rw [hf']
    unfold hasK
    rw [List.any_eq_false]
    intro e he
    rw [h1] at he
    have hY : Srt (upS l k) := so.sublist yanz
    have hgt := ybar hY (up_ge so) hf'
    rcases List.mem_append.1 he with he | he
    · have := yapl e he; simp; omega
    · have := hgt e he; simp; omega
theorem yays {h0 h : Hp} {l : List E} {p q : OA} {n c m cc : Nat} {code : Int} {zs : List Int} {B G : Bag} (so : Srt l) (na : RowsA (p, n, c) (l.map row2) B) (rz : RdS h0 G TI q m zs) (s : St h0 h (B + G)) (hn : n ≤ 1000) (hc : 1 ≤ code ∧ code ≤ 8) (h1 : code ≠ 8 → 1 ≤ zs.length) (h2 : code = 1 → 2 ≤ zs.length) :
    yaae Tryz.prog 77 #[.agg #[.int .i64 1, .slice p n c], .agg #[.int .i64 code, .slice q m cc]] h (DictP h0 G l code zs) := by
  have hl : (l.map row2).length = n := yaaw na
  rw [List.length_map] at hl
  refine zcy_call ?_
  rw [zcy_b0]
  refine s.new (cs := [.int .i64 1, .slice p n c]) fun b1 h3 _ s1 => ?_
  refine s1.new (cs := [.int .i64 code, .slice q m cc]) fun b2 h4 _ s2 => ?_
  refine s2.new (cs := [.int .i64 0, .slice none 0 0]) fun b3 h5 _ s3 => ?_
  refine s3.new (cs := [.int .i64 0, .int .i64 0, .slice none 0 0]) fun b4 h6 _ s4 => ?_
  have s4 : St h0 h6 (cA b1 [.int .i64 1, .slice p n c] 66 + (cA b2 [.int .i64 code, .slice q m cc] 25 + (cA b3 [.int .i64 0, .slice none 0 0] 66 + (cA b4 [.int .i64 0, .int .i64 0, .slice none 0 0] 61 + (B + G))))) := s4.to
  have kb1 := s4.blk
  have kb2 := s4.atomBlk
  refine ⟨_, _, _, Blk.cellA kb1 1, _, kb2.cell 0, condP (fun h8 => ?_) (fun h8 => ?_)⟩
  · have e : dictS l code zs = (l, 0, (l.length : Int)) := by subst h8; rfl
    rw [DictP, e]
    rw [hl]
    exact ⟨_, _, _, _, kb1.cell 0, Blk.cellA kb1 1, boxT na (D := cA b1 [.int .i64 1, .slice p n c] 66 + cA b2 [.int .i64 code, .slice q m cc] 25) s4.to yacz⟩
  have hrz : RdT TI h6 q m zs := rz h6 (cA b1 [.int .i64 1, .slice p n c] 66 + (cA b2 [.int .i64 code, .slice q m cc] 25 + (cA b3 [.int .i64 0, .slice none 0 0] 66 + (cA b4 [.int .i64 0, .int .i64 0, .slice none 0 0] 61 + B)))) s4.to
  have hzl := hrz.len
  have h1 := h1 h8
  refine ⟨_, _, _, Blk.cellA kb2 1, hrz.int (by omega) (by omega) ?_⟩
  rw [show Int.toNat (0 : Int) = 0 from rfl]
  refine ⟨fun x h' => h' = h6 ∧ ∃ i : Nat, x.2.2.1 = i ∧ i ≤ n ∧ x.1 = (cntK (l.take i) (zs.getD 0 0) : Int) ∧ x.2.1 = hasK (l.take i) (zs.getD 0 0), fun x _ => n - x.2.2.1.toNat, ⟨rfl, 0, rfl, by omega, rfl, rfl⟩, ?_⟩
  rintro ⟨_, _, _, _⟩ h7 ⟨rfl, i, rfl, hin, rfl, rfl⟩
  dsimp only
  rw [zcy_b1]
  refine condP (fun hlt => ?_) (fun hge => ?_)
  · have hil : i < l.length := by omega
    have hcl : cntK (l.take i) (zs.getD 0 0) ≤ i := by
      refine Nat.le_trans (List.length_filter_le _ _) ?_
      rw [List.length_take]; omega
    have e1 : ∀ k, cntK (l.take (i + 1)) k = cntK (l.take i) k + (if (l.getD i (0, 0)).1 < k then 1 else 0) := by
      intro k
      unfold cntK
      rw [yaoz hil, List.filter_append, List.length_append]
      congr 1
      by_cases h : (l.getD i (0, 0)).1 < k
      · rw [if_pos h]; simp only [List.filter_cons, decide_eq_true h, if_true, List.filter_nil, List.length_singleton]
      · rw [if_neg h]; simp only [List.filter_cons, decide_eq_false h, Bool.false_eq_true, if_false, List.filter_nil, List.length_nil]
    have e2 : ∀ k, hasK (l.take (i + 1)) k = (hasK (l.take i) k || decide ((l.getD i (0, 0)).1 = k)) := by
      intro k
      unfold hasK
      rw [yaoz hil, List.any_append]
      simp
    have sB := s4.at B
    have next : ∀ less : Int, less = (cntK (l.take (i + 1)) (zs.getD 0 0) : Int) → zcy_b2 (some ⟨b1, 0, none⟩) (some ⟨b2, 0, none⟩) (some ⟨b3, 0, none⟩) (some ⟨b4, 0, none⟩) (n : Int) (zs.getD 0 0) less (hasK (l.take i) (zs.getD 0 0)) (i : Int) h7 (fun s' h' => (h' = h7 ∧ ∃ i : Nat, s'.2.2.1 = i ∧ i ≤ n ∧ s'.1 = (cntK (l.take i) (zs.getD 0 0) : Int) ∧ s'.2.1 = hasK (l.take i) (zs.getD 0 0)) ∧ n - s'.2.2.1.toNat < n - Int.toNat (i : Int)) (DictP h0 G l code zs) := by
      rintro _ rfl
      rw [zcy_b2]
      have b4' : ∀ there : Bool, there = hasK (l.take (i + 1)) (zs.getD 0 0) → zcy_b4 (some ⟨b1, 0, none⟩) (some ⟨b2, 0, none⟩) (some ⟨b3, 0, none⟩) (some ⟨b4, 0, none⟩) (n : Int) (zs.getD 0 0) (cntK (l.take (i + 1)) (zs.getD 0 0) : Int) there (i : Int) h7 (fun s' h' => (h' = h7 ∧ ∃ i : Nat, s'.2.2.1 = i ∧ i ≤ n ∧ s'.1 = (cntK (l.take i) (zs.getD 0 0) : Int) ∧ s'.2.1 = hasK (l.take i) (zs.getD 0 0)) ∧ n - s'.2.2.1.toNat < n - Int.toNat (i : Int)) (DictP h0 G l code zs) := by
        rintro _ rfl
        rw [zcy_b4]
        exact ⟨⟨by omega, by omega⟩, ⟨rfl, i + 1, by simp only; omega, by omega, rfl, rfl⟩, by simp only; omega⟩
      refine yaay (fun ht => ?_) (fun ht => ?_)
      · exact b4' true (by rw [e2, ht]; rfl)
      · refine ⟨_, _, _, Blk.cellA kb1 1, e_key na sB (by omega) (by omega) ?_⟩
        rw [Int.toNat_natCast]
        exact b4' _ (by rw [e2, ht]; rfl)
    refine ⟨_, _, _, Blk.cellA kb1 1, e_key na sB (by omega) (by omega) ?_⟩
    rw [Int.toNat_natCast]
    refine condP (fun hk => ?_) (fun hk => ?_)
    · exact ⟨⟨by omega, by omega⟩, next _ (by rw [e1, if_pos hk]; push_cast; rfl)⟩
    · exact next _ (by rw [e1, if_neg hk]; rfl)
  · rw [List.take_of_length_le (by omega), yaxq so, yazt so]
    exact yaph na rz s4 hn ⟨by omega, by omega⟩ h2
end Go.Proofs.YtdlkohenamlnaaaGreat
/- A valid operation of a dictionary. -/
namespace Go.Proofs.YtdlkohenamlnaaaGreat
open Go Go.Sx
theorem opv1 {code : Int} {zs : List Int} (h : OpV 1 code zs) : (1 ≤ code ∧ code ≤ 8) ∧ (code ≠ 8 → 1 ≤ zs.length) ∧ (code = 1 → 2 ≤ zs.length) ∧ ∀ z ∈ zs, KeyP z := by
  obtain ⟨h1, h2⟩ := h
  have e8 : (arT 1).length = 8 := rfl
  rw [e8] at h1
  obtain ⟨f1, f2, f3⟩ := yaqg (k := 1) (c := code) (by omega) (by rw [e8]; exact h1)
  have f2 := f2 (by decide)
  rw [if_neg (by omega)] at h2
  have hc : code = 1 ∨ code = 2 ∨ code = 3 ∨ code = 4 ∨ code = 5 ∨ code = 6 ∨ code = 7 ∨ code = 8 := by omega
  have e : (arT 1).getD (code - 1).toNat 0 = if code = 1 then 2 else if code = 8 then 0 else 1 := by
    rcases hc with rfl | rfl | rfl | rfl | rfl | rfl | rfl | rfl <;> rfl
  rw [e] at h2
  refine ⟨⟨by omega, by omega⟩, fun h8 => ?_, fun h1' => ?_, h2.2⟩
  · have := h2.1
    rw [if_neg h8] at this
    split at this <;> omega
  · have := h2.1
    rw [if_pos h1'] at this; omega
end Go.Proofs.YtdlkohenamlnaaaGreat
/- slices.Insert of one row, Delete of one row. -/
namespace Go.Proofs.YtdlkohenamlnaaaGreat
open Go Go.Sx
theorem ybav : IsExt Tryz.prog 181 (Extern.SlicesOverlaps.overlaps Tryz.f181.params Tryz.f181.resultTypes) :=
  ⟨Tryz.f181, Tryz.func181, by kernel_rfl, by kernel_rfl, by kernel_rfl, by kernel_rfl⟩
theorem yaeg : ElOk (tS 23) Tryz.prog 64 := yadl (by kernel_rfl)
theorem yasj {h0 h : Hp} {p : OA} {n c i bv : Nat} {xs : List SH} {x : SH} {cs : List Value} {A F : Bag} (s : St h0 h (A + (cA bv cs (tS 23).e + F))) (a : Sl (tS 23) p n c xs A)
    (hcs : cs = (tS 23).enc x) (hi : i ≤ n) (hn : n < 1000000) :
    yaae Tryz.prog 166 #[.slice p n c, .int .i64 (i : Int), .slice (some ⟨bv, 0, none⟩) 1 1] h (fun v h' => ∃ p' c' A', v = .slice p' (n + 1) c' ∧ Sl (tS 23) p' (n + 1) c' (xs.take i ++ x :: xs.drop i) A' ∧ St h0 h' (A' + (cA bv cs (tS 23).e + F))) := by
  have hcap := a.cap
  have hlen := a.len
  have one : Sl (tS 23) (some ⟨bv, 0, none⟩) 1 1 [x] (cA bv cs (tS 23).e) := Sl.one hcs
  have rv : RdT (tS 23) h (some ⟨bv, 0, none⟩) 1 [x] := one.rd (s.to (B := cA bv cs (tS 23).e + (A + F)))
  refine zen_call ?_
  rw [zen_b0]
  refine ⟨⟨by omega, by omega, by omega⟩, yaam (by decide) ?_⟩
  have e1 : Int.toNat (i : Int) = i := Int.toNat_natCast i
  have e0 : Int.toNat (0 : Int) = 0 := rfl
  refine condP (fun h1 => ?_) (fun h1 => ?_)
  · have : i = n := by omega
    subst this
    refine yaat yaeg s a rv (by omega) fun p' c' h' A' a' s' => ?_
    refine ⟨p', c', A', rfl, ?_, s'⟩
    rw [List.take_of_length_le (by omega), List.drop_eq_nil_of_le (by omega)]
    exact a'
  have hin : i < n := by omega
  have hti : ((tS 23).cells (xs.take i)).length = i * (tS 23).sz := by rw [(tS 23).cells_len, List.length_take]; congr 1; omega
  refine ⟨⟨by omega, by omega⟩, condP (fun h2 => ?_) (fun h2 => ?_)⟩
  · -- a new block
    have hcn : c < n + 1 := by omega
    refine ⟨⟨by omega, by omega, by omega⟩, ⟨by omega, by omega⟩, ⟨by omega, by omega⟩, ?_⟩
    rw [e0, e1, yaaz, Nat.sub_zero, Nat.sub_zero]
    have rt : RdT (tS 23) h p i (xs.take i) := (a.rd s).take (by omega)
    have el : (((n : Int) + ((1 : Nat) : Int)) - (i : Int)).toNat = n + 1 - i := by omega
    refine yabv yaeg (by kernel_rfl) (by kernel_rfl) s rt (by omega) (by omega) (by omega) fun b c' h' mid rest hc' hm hr s1 => ?_
    rw [el] at hm hr hc' ⊢
    have hl2 : i + (n + 1 - i) = n + 1 := by omega
    rw [hl2] at hr hc' ⊢
    refine ⟨⟨by omega, by omega, by omega⟩, ?_⟩
    have e2 : Int.toNat (((n + 1 : Nat) : Nat) : Int) = n + 1 := Int.toNat_natCast _
    have e3 : Int.toNat ((i : Int) + ((1 : Nat) : Int)) = i + 1 := by omega
    have e4 : Int.toNat (n : Int) = n := Int.toNat_natCast _
    rw [e2, e3, e4]
    have es1 : yaab (some ⟨b, 0, none⟩) c' i (tS 23).sz = some ⟨b, i * (tS 23).sz, none⟩ := by rw [yaar (by omega), Nat.zero_add]
    have es2 : yaab (some ⟨b, 0, none⟩) c' (i + 1) (tS 23).sz = some ⟨b, (i + 1) * (tS 23).sz, none⟩ := by rw [yaar (by omega), Nat.zero_add]
    rw [show yaab (some ⟨b, 0, none⟩) c' i 1 = some ⟨b, i * (tS 23).sz, none⟩ from es1, show yaab (some ⟨b, 0, none⟩) c' (i + 1) 1 = some ⟨b, (i + 1) * (tS 23).sz, none⟩ from es2]
    have hm1 : mid.length = (tS 23).sz + (n - i) * (tS 23).sz := by rw [hm, show n + 1 - i = 1 + (n - i) by omega, Nat.add_mul, Nat.one_mul]
    have em : mid = mid.take (tS 23).sz ++ mid.drop (tS 23).sz := (List.take_append_drop _ _).symm
    have s2 : St h0 h' (cA b ((tS 23).cells (xs.take i) ++ mid.take (tS 23).sz ++ (mid.drop (tS 23).sz ++ rest)) (tS 23).e + (A + (cA bv cs (tS 23).e + F))) := by
      have e : (tS 23).cells (xs.take i) ++ mid.take (tS 23).sz ++ (mid.drop (tS 23).sz ++ rest) = (tS 23).cells (xs.take i) ++ mid ++ rest := by
        conv => rhs; rw [em]
        simp only [List.append_assoc]
      rw [e]; exact s1
    have rv2 : RdT (tS 23) h' (some ⟨bv, 0, none⟩) 1 [x] := one.rd (s2.to (B := cA bv cs (tS 23).e + (cA b _ _ + (A + F))))
    refine yabr (j := 1) yaeg s2 rv2 hti (by omega) (by rw [List.length_take]; omega) fun v1 h3 s3 => ?_
    refine ⟨⟨by omega, by omega⟩, ⟨by omega, by omega, by omega⟩, ⟨by omega, by omega, by omega⟩, ?_⟩
    rw [(tS 23).cells_one] at s3
    have s4 : St h0 h3 (cA b (((tS 23).cells (xs.take i) ++ (tS 23).enc x) ++ mid.drop (tS 23).sz ++ rest) (tS 23).e + (A + (cA bv cs (tS 23).e + F))) := by
      have e : ((tS 23).cells (xs.take i) ++ (tS 23).enc x) ++ mid.drop (tS 23).sz ++ rest = (tS 23).cells (xs.take i) ++ (tS 23).enc x ++ (mid.drop (tS 23).sz ++ rest) := by simp only [List.append_assoc]
      rw [e]; exact s3
    have ra : RdT (tS 23) h3 p n xs := a.rd (s4.to (B := A + (cA b _ _ + (cA bv cs (tS 23).e + F))))
    have rs := ra.sub hi hcap rfl
    refine yabr (j := n - i) yaeg s4 rs (by rw [List.length_append, hti, (tS 23).len, Nat.add_mul, Nat.one_mul]) (by omega) (by rw [List.length_drop, hm1, Nat.add_sub_cancel_left]) fun v2 h4 s5 => ?_
    refine ⟨_, _, _, rfl, ⟨by simp; omega, .inr ⟨b, rest, rfl, hc', hr, rfl⟩⟩, ?_⟩
    rw [(tS 23).cells_append, (tS 23).cells_cons]
    have e : (tS 23).cells (xs.take i) ++ ((tS 23).enc x ++ (tS 23).cells (xs.drop i)) ++ rest = (tS 23).cells (xs.take i) ++ (tS 23).enc x ++ (tS 23).cells (xs.drop i) ++ rest := by simp only [List.append_assoc]
    rw [e]
    exact (s5.to (B := A + (cA b _ _ + (cA bv cs (tS 23).e + F)))).drop
  · -- in place
    have hcn : n + 1 ≤ c := by omega
    rcases a with ⟨hl, ⟨rfl, h3, _, _⟩ | ⟨b, rest, rfl, hc, hr, rfl⟩⟩
    · omega
    have a : Sl (tS 23) (some ⟨b, 0, none⟩) n c xs (cA b ((tS 23).cells xs ++ rest) (tS 23).e) := ⟨hl, .inr ⟨b, rest, rfl, hc, hr, rfl⟩⟩
    have e3 : Int.toNat ((i : Int) + ((1 : Nat) : Int)) = i + 1 := by omega
    have e4 : Int.toNat (n : Int) = n := Int.toNat_natCast _
    have e5 : Int.toNat ((n : Int) + ((1 : Nat) : Int)) = n + 1 := by omega
    have e6 : Int.toNat (((n + 1 : Nat) : Nat) : Int) = n + 1 := Int.toNat_natCast _
    simp only [e0, e1, e3, e4, e5, e6, yaaz, Nat.sub_zero]
    refine ⟨⟨by omega, by omega⟩, ⟨by omega, by omega, by omega⟩, ⟨by omega, by omega⟩, ⟨by omega, by omega, by omega⟩, ?_⟩
    have es1 : yaab (some ⟨b, 0, none⟩) c (i + 1) (tS 23).sz = some ⟨b, (i + 1) * (tS 23).sz, none⟩ := by rw [yaar (by omega), Nat.zero_add]
    rw [show yaab (some ⟨b, 0, none⟩) c (i + 1) 1 = some ⟨b, (i + 1) * (tS 23).sz, none⟩ from es1]
    obtain ⟨i0, z, hi0, hz, hzs, hzc, hbt⟩ := (yaeg).info
    have hrl : (tS 23).sz ≤ rest.length := by rw [hr]; calc (tS 23).sz = 1 * (tS 23).sz := (Nat.one_mul _).symm
                                              _ ≤ (c - n) * (tS 23).sz := Nat.mul_le_mul_right _ (by omega)
    have er : rest = rest.take (tS 23).sz ++ rest.drop (tS 23).sz := (List.take_append_drop _ _).symm
    refine yadf ybav (t := 64) (e := 23) (by kernel_rfl) (by kernel_rfl) hi0 (s.to (B := cA bv cs (tS 23).e + (cA b _ _ + F))) ⟨_, rfl, ?_⟩
    refine ⟨⟨by omega, by omega⟩, ⟨by omega, by omega, by omega⟩, ⟨by omega, by omega, by omega⟩, ?_⟩
    -- the elements from i on move by one
    have hdl : ((tS 23).cells (xs.drop i)).length = (n - i) * (tS 23).sz := by rw [(tS 23).cells_len, List.length_drop, hl]
    have hd1l : ((tS 23).cells (xs.drop (i + 1))).length = (n - (i + 1)) * (tS 23).sz := by rw [(tS 23).cells_len, List.length_drop, hl]
    have ht1 : ((tS 23).cells (xs.take (i + 1))).length = (i + 1) * (tS 23).sz := by rw [(tS 23).cells_len, List.length_take]; congr 1; omega
    have s1 : St h0 h (cA b ((tS 23).cells (xs.take (i + 1)) ++ ((tS 23).cells (xs.drop (i + 1)) ++ rest.take (tS 23).sz) ++ rest.drop (tS 23).sz) (tS 23).e + (cA bv cs (tS 23).e + F)) := by
      have e : (tS 23).cells (xs.take (i + 1)) ++ ((tS 23).cells (xs.drop (i + 1)) ++ rest.take (tS 23).sz) ++ rest.drop (tS 23).sz = (tS 23).cells xs ++ rest := by
        rw [List.append_assoc, List.append_assoc, ← er, ← List.append_assoc, ← (tS 23).cells_append, List.take_append_drop]
      rw [e]; exact s
    have rx : RdT (tS 23) h (some ⟨b, 0, none⟩) n xs := a.rd s
    have rs : RdT (tS 23) h (yaab (some ⟨b, 0, none⟩) c i (tS 23).sz) (n - i) (xs.drop i) := rx.sub hi hcap rfl
    refine yabr (j := n - i) yaeg s1 rs ht1 (by omega) (by rw [List.length_append, hd1l, List.length_take, Nat.min_eq_left hrl, show n - i = (n - (i + 1)) + 1 by omega, Nat.add_mul, Nat.one_mul]) fun v4 h5 s5 => ?_
    refine ⟨⟨by omega, by omega, by omega⟩, ?_⟩
    have es2 : yaab (some ⟨b, 0, none⟩) c i (tS 23).sz = some ⟨b, i * (tS 23).sz, none⟩ := by rw [yaar (by omega), Nat.zero_add]
    rw [show yaab (some ⟨b, 0, none⟩) c i 1 = some ⟨b, i * (tS 23).sz, none⟩ from es2]
    have s6 : St h0 h5 (cA b ((tS 23).cells (xs.take i) ++ (tS 23).enc xs[i] ++ ((tS 23).cells (xs.drop i) ++ rest.drop (tS 23).sz)) (tS 23).e + (cA bv cs (tS 23).e + F)) := by
      have e : (tS 23).cells (xs.take i) ++ (tS 23).enc xs[i] ++ ((tS 23).cells (xs.drop i) ++ rest.drop (tS 23).sz) = (tS 23).cells (xs.take (i + 1)) ++ (tS 23).cells (xs.drop i) ++ rest.drop (tS 23).sz := by
        rw [List.take_succ_eq_append_getElem (by omega), (tS 23).cells_append, (tS 23).cells_one]; simp only [List.append_assoc]
      rw [e]; exact s5
    have rv5 : RdT (tS 23) h5 (some ⟨bv, 0, none⟩) 1 [x] := one.rd (s6.to (B := cA bv cs (tS 23).e + (cA b _ _ + F)))
    refine yabr (j := 1) yaeg s6 rv5 hti (by omega) (by rw [(tS 23).len, Nat.one_mul]) fun v5 h6 s7 => ?_
    refine ⟨_, _, _, rfl, ⟨by simp; omega, .inr ⟨b, rest.drop (tS 23).sz, rfl, hcn, ?_, rfl⟩⟩, ?_⟩
    · rw [List.length_drop, hr, show c - n = (c - (n + 1)) + 1 by omega, Nat.add_mul, Nat.one_mul]; omega
    · rw [(tS 23).cells_one] at s7
      rw [(tS 23).cells_append, (tS 23).cells_cons]
      have e : (tS 23).cells (xs.take i) ++ ((tS 23).enc x ++ (tS 23).cells (xs.drop i)) ++ rest.drop (tS 23).sz = (tS 23).cells (xs.take i) ++ (tS 23).enc x ++ ((tS 23).cells (xs.drop i) ++ rest.drop (tS 23).sz) := by simp only [List.append_assoc]
      rw [e]
      exact s7
theorem yape {h0 h : Hp} {p : OA} {n c i : Nat} {j : Int} {xs : List SH} {A F : Bag} (s : St h0 h (A + F)) (a : Sl (tS 23) p n c xs A) (hi : i < n) (hj : j = (i : Int) + 1) (hn : n < 1000000) :
    yaae Tryz.prog 167 #[.slice p n c, .int .i64 (i : Int), .int .i64 j] h (fun v h' => ∃ A', v = .slice p (n - 1) c ∧ Sl (tS 23) p (n - 1) c (xs.take i ++ xs.drop (i + 1)) A' ∧ St h0 h' (A' + F)) := by
  obtain rfl : j = ((i + 1 : Nat) : Int) := by omega
  have hcap := a.cap
  have hlen := a.len
  have rd := a.rd s
  refine zee_call ?_
  rw [zee_b0]
  refine yaty (yaeg).el (by omega) (by omega) hcap fun _ => condP (fun h1 => by omega) (fun _ => ?_)
  have e1 : Int.toNat (i : Int) = i := Int.toNat_natCast i
  have e2 : Int.toNat ((i + 1 : Nat) : Int) = i + 1 := Int.toNat_natCast _
  have e3 : Int.toNat (n : Int) = n := Int.toNat_natCast _
  have e0 : Int.toNat (0 : Int) = 0 := rfl
  refine ⟨⟨by omega, by omega, by omega⟩, ⟨by omega, by omega, by omega⟩, ?_⟩
  rw [e0, e1, e2, e3, yaaz, Nat.sub_zero, Nat.sub_zero]
  rcases a with ⟨hl, ⟨rfl, h3, _, _⟩ | ⟨b, rest, rfl, hc, hr, rfl⟩⟩
  · omega
  have hti : ((tS 23).cells (xs.take i)).length = i * (tS 23).sz := by rw [(tS 23).cells_len, List.length_take]; congr 1; omega
  have hdl : ((tS 23).cells (xs.drop i)).length = (n - i) * (tS 23).sz := by rw [(tS 23).cells_len, List.length_drop, hl]
  have hd1l : ((tS 23).cells (xs.drop (i + 1))).length = (n - (i + 1)) * (tS 23).sz := by rw [(tS 23).cells_len, List.length_drop, hl]
  have s1 : St h0 h (cA b ((tS 23).cells (xs.take i) ++ ((tS 23).cells (xs.drop i)).take ((n - (i + 1)) * (tS 23).sz) ++ (((tS 23).cells (xs.drop i)).drop ((n - (i + 1)) * (tS 23).sz) ++ rest)) (tS 23).e + F) := by
    have e : (tS 23).cells (xs.take i) ++ ((tS 23).cells (xs.drop i)).take ((n - (i + 1)) * (tS 23).sz) ++ (((tS 23).cells (xs.drop i)).drop ((n - (i + 1)) * (tS 23).sz) ++ rest) = (tS 23).cells xs ++ rest := by
      rw [List.append_assoc, ← List.append_assoc _ _ rest, List.take_append_drop, ← List.append_assoc, ← (tS 23).cells_append, List.take_append_drop]
    rw [e]; exact s
  have hle : (n - (i + 1)) * (tS 23).sz ≤ (n - i) * (tS 23).sz := Nat.mul_le_mul_right _ (by omega)
  refine yacr yaeg s1 hti (by rw [List.length_take, hdl]; omega) (rd.sub (by omega) hcap rfl) (by omega) fun h' s2 => ?_
  refine ⟨⟨by omega, by omega, by omega⟩, ?_⟩
  have e4 : Int.toNat ((i + (n - (i + 1)) : Nat) : Int) = n - 1 := by omega
  have e5 : i + (n - (i + 1)) = n - 1 := by omega
  rw [e4, show yaab (some ⟨b, 0, none⟩) c (n - 1) 1 = some ⟨b, (n - 1) * (tS 23).sz, none⟩ by rw [show yaab (some ⟨b, 0, none⟩) c (n - 1) 1 = yaab (some ⟨b, 0, none⟩) c (n - 1) (tS 23).sz from rfl, yaar (by omega), Nat.zero_add]]
  rw [← (tS 23).cells_append, ← List.append_assoc] at s2
  have hl1 : (xs.take i ++ xs.drop (i + 1)).length = n - 1 := by rw [List.length_append, List.length_take, List.length_drop]; omega
  have hn1 : n - (n - 1) = 1 := by omega
  refine yaie yaeg s2 (by rw [(tS 23).cells_len, hl1]) (by
    rw [List.length_drop, hdl, ← Nat.sub_mul]; congr 1; omega) fun h2 zs hzl s3 => ?_
  rw [e5]
  refine ⟨_, rfl, ⟨hl1, .inr ⟨b, zs ++ rest, rfl, by omega, ?_, rfl⟩⟩, ?_⟩
  · rw [List.length_append, hzl, hr, ← Nat.add_mul]; congr 1; omega
  · rw [← List.append_assoc]; exact s3
end Go.Proofs.YtdlkohenamlnaaaGreat
/- Layer 3's model: comparing rows, finding a row. -/
namespace Go.Proofs.YtdlkohenamlnaaaGreat
open Go Go.Sx
def cmpS (x y : Int) : Int := if x < y then -1 else if y < x then 1 else 0
def cmpL : List Int → List Int → Int
  | [], [] => 0
  | [], _ :: _ => -1
  | _ :: _, [] => 1
  | x :: xs, y :: ys => if x < y then -1 else if y < x then 1 else cmpL xs ys
theorem yatg (x y : Int) (h : Hp) : yaae Tryz.prog 103 #[.int .i64 x, .int .i64 y] h (fun v h' => v = .int .i64 (cmpS x y) ∧ h' = h) := by
  refine zab_call ?_
  rw [zab_b0]
  have nan : ∀ (z : Int) {K : VK}, K (.bool false) h → yaae Tryz.prog 99 #[.int .i64 z] h K := fun z K hK => by
    refine zae_call ?_
    rw [zae_b0, decide_eq_true rfl]
    exact hK
  refine nan x ⟨_, rfl, nan y ⟨_, rfl, yaam rfl (yaam rfl ?_)⟩⟩
  refine condP (fun h1 => ?_) (fun h1 => condP (fun h2 => ?_) (fun h2 => ?_))
  · exact ⟨by rw [cmpS, if_pos h1], rfl⟩
  · exact ⟨by rw [cmpS, if_neg h1, if_pos h2], rfl⟩
  · exact ⟨by rw [cmpS, if_neg h1, if_neg h2], rfl⟩
theorem yavr {h : Hp} {p q : OA} {n m c d : Nat} {xs ys : List Int} (r1 : RdT TI h p n xs) (r2 : RdT TI h q m ys) (hn : n ≤ 1000000) :
    yaae Tryz.prog 161 #[.slice p n c, .slice q m d] h (fun v h' => v = .int .i64 (cmpL xs ys) ∧ h' = h) := by
  have hx := r1.len
  have hy := r2.len
  refine zdy_call ?_
  rw [zdy_b0]
  refine ⟨fun s h' => h' = h ∧ ∃ i : Nat, s.1 = i ∧ i ≤ n ∧ i ≤ m ∧ cmpL xs ys = cmpL (xs.drop i) (ys.drop i), fun s _ => n - s.1.toNat, ⟨rfl, 0, rfl, by omega, by omega, rfl⟩, ?_⟩
  rintro ⟨_, _⟩ h1 ⟨rfl, i, rfl, hin, him, heq⟩
  dsimp only
  rw [zdy_b1]
  refine condP (fun hlt => ?_) (fun hge => ?_)
  · refine r1.int (by omega) (by omega) ?_
    rw [Int.toNat_natCast]
    have hil : i < xs.length := by omega
    have hg : xs.getD i 0 = xs[i] := by simp [List.getD, hil]
    have hd : xs.drop i = xs.getD i 0 :: xs.drop (i + 1) := by rw [hg, ← List.drop_eq_getElem_cons hil]
    refine condP (fun hm => ?_) (fun hm => ?_)
    · refine ⟨?_, rfl⟩
      rw [heq, hd, List.drop_of_length_le (show ys.length ≤ i by omega)]
      rfl
    · refine r2.int (by omega) (by omega) ?_
      rw [Int.toNat_natCast]
      have hjl : i < ys.length := by omega
      have hg2 : ys.getD i 0 = ys[i] := by simp [List.getD, hjl]
      have hd2 : ys.drop i = ys.getD i 0 :: ys.drop (i + 1) := by rw [hg2, ← List.drop_eq_getElem_cons hjl]
      refine (yatg _ _ h1).mono fun v h2 ⟨hv, hh⟩ => ⟨_, hv, ?_⟩
      subst hh
      rw [hd, hd2] at heq
      have hc : cmpL (xs.getD i 0 :: xs.drop (i + 1)) (ys.getD i 0 :: ys.drop (i + 1)) = if xs.getD i 0 < ys.getD i 0 then -1 else if ys.getD i 0 < xs.getD i 0 then 1 else cmpL (xs.drop (i + 1)) (ys.drop (i + 1)) := rfl
      rw [hc] at heq
      refine condN (fun hne => ?_) (fun h0 => ?_)
      · refine ⟨?_, rfl⟩
        rw [heq]
        unfold cmpS at hne ⊢
        split
        · rfl
        · split
          · rfl
          · rename_i a b; rw [if_neg a, if_neg b] at hne; exact absurd rfl hne
      · rw [zdy_b2]
        refine ⟨⟨by omega, by omega⟩, ⟨rfl, i + 1, by simp only; omega, by omega, by omega, ?_⟩, by simp only; omega⟩
        rw [heq]
        unfold cmpS at h0
        split
        · rename_i a; rw [if_pos a] at h0; omega
        · split
          · rename_i a b; rw [if_neg a, if_pos b] at h0; omega
          · rfl
  · rw [zdy_b3]
    have hxd : xs.drop i = [] := List.drop_of_length_le (by omega)
    rw [hxd] at heq
    refine condP (fun hlt => ⟨?_, rfl⟩) (fun hlt => ⟨?_, rfl⟩)
    · have hjl : i < ys.length := by omega
      rw [heq, List.drop_eq_getElem_cons hjl]; rfl
    · have : ys.drop i = [] := List.drop_of_length_le (by omega)
      rw [heq, this]; rfl
def cmpK (rows : List (List Int)) (ks : List Int) (j : Nat) : Int := cmpL ((rows.getD j []).take ks.length) ks
theorem yaou {h0 h : Hp} {p q : OA} {n c m d t : Nat} {rows : List (List Int)} {ks : List Int} {B G : Bag} (na : RowsA (p, n, c) rows B) (s : St h0 h (B + G)) (rk : RdT TI h q m ks) (hn : n ≤ 1000000) (hm : ∀ r ∈ rows, m ≤ r.length ∧ r.length ≤ 1000000)
    (ht : t ≤ n ∧ (∀ j, j < t → cmpK rows ks j < 0) ∧ ∀ j, t ≤ j → j < n → 0 ≤ cmpK rows ks j) :
    yaae Tryz.prog 165 #[.slice p n c, .slice q m d] h (fun v h' => v = .tuple #[.int .i64 (t : Int), .bool (decide (t < n ∧ cmpK rows ks t = 0))] ∧ h' = h) := by
  have hrl : rows.length = n := yaaw na
  have hkl := rk.len
  obtain ⟨htn, hlo, hhi⟩ := ht
  -- a row is compared
  have one : ∀ {i : Int} {Q : OA → Nat → Nat → Prop}, 0 ≤ i → i < n → (∀ a l e, (∀ K : VK, K (.int .i64 (cmpK rows ks i.toNat)) h → callX Tryz.prog F 180 #[.slice a l e, .slice q m d] h K) → Q a l e) →
      (0 ≤ i ∧ i < (n : Int)) ∧ NN p fun a1 => ∃ a2 L1 C1, cell h (a1.add (Int.toNat i * 1)) = some (.slice a2 L1 C1) ∧ Q a2 L1 C1 := by
    intro i Q hi0 hi hq
    refine Nest.at_ (d := []) na s hi0 hi fun a l e Bi Br o hB => hq a l e fun K hK => ?_
    have o : Sl TI a l e (rows.getD i.toNat []) Bi := o
    have hl1 := o.len
    have hcap := o.cap
    have st2 : St h0 h (Bi + (Br + G)) := by rw [hB] at s; exact s.to
    have hil : i.toNat < rows.length := by omega
    have hg : rows.getD i.toNat [] = rows[i.toNat] := by simp [List.getD, hil]
    have hmi := hm _ (List.getElem_mem hil)
    rw [← hg] at hmi
    refine yacw (by kernel_rfl) (zbd_call ?_)
    rw [zbd_b0]
    have e0 : Int.toNat (0 : Int) = 0 := rfl
    refine ⟨⟨by omega, by omega, by omega⟩, ?_⟩
    rw [e0, yaaz, Int.toNat_natCast, Nat.sub_zero, Nat.sub_zero]
    refine (yavr ((o.rd st2).take (i := m) (by omega)) rk (by omega)).mono fun v h2 ⟨hv, hh⟩ => ⟨_, hv, ?_⟩
    subst hh
    have : cmpK rows ks i.toNat = cmpL ((rows.getD i.toNat []).take m) ks := by rw [cmpK, hkl]
    rw [← this]
    exact hK
  refine zbc_call ?_
  rw [zbc_b0]
  refine yaae.mono (K := fun v h' => v = .tuple #[.int .i64 (t : Int), .bool (decide (t < n ∧ cmpK rows ks t = 0))] ∧ h' = h) ?_ (fun v h' ⟨hv, hh⟩ => ⟨_, _, hv, rfl, hh⟩)
  refine zdr_call ?_
  rw [zdr_b0]
  refine ⟨fun x h' => h' = h ∧ ∃ i j : Nat, x.1 = i ∧ x.2.1 = j ∧ i ≤ t ∧ t ≤ j ∧ j ≤ n, fun x _ => (x.2.1 - x.1).toNat, ⟨rfl, 0, n, rfl, rfl, by omega, htn, by omega⟩, ?_⟩
  rintro ⟨_, _, _⟩ h1 ⟨rfl, i, j, rfl, rfl, hit, htj, hjn⟩
  dsimp only
  rw [zdr_b1]
  refine condP (fun hlt => ?_) (fun hge => ?_)
  · have e1 : IntKind.u64.wrap ((i : Int) + (j : Int)) = ((i + j : Nat) : Int) := by
      show ((i : Int) + (j : Int)) % 18446744073709551616 = _
      rw [Int.emod_eq_of_lt (by omega) (by omega)]; push_cast; rfl
    refine ⟨⟨by omega, by omega⟩, (((i + j) / 2 : Nat) : Int), ⟨by omega, ?_⟩, ⟨by omega, by omega⟩, ?_⟩
    · rw [e1]
      have : (2 : Int) ^ (min (Int.toNat 1) IntKind.u64.bits) = 2 := by decide
      rw [this]
      rw [Int.fdiv_eq_ediv_of_nonneg _ (by omega)]
      omega
    refine one (by omega) (by omega) fun a l e hX => ?_
    refine hX _ ⟨_, rfl, condP (fun h3 => ?_) (fun h3 => ?_)⟩
    · rw [Int.toNat_natCast] at h3
      have : (i + j) / 2 < t := by
        rcases Nat.lt_or_ge ((i + j) / 2) t with h | h
        · exact h
        · have := hhi _ h (by omega); omega
      exact ⟨⟨by omega, by omega⟩, ⟨rfl, (i + j) / 2 + 1, j, by simp only; omega, rfl, by omega, htj, hjn⟩, by simp only; omega⟩
    · rw [Int.toNat_natCast] at h3
      have : t ≤ (i + j) / 2 := by
        rcases Nat.lt_or_ge ((i + j) / 2) t with h | h
        · have := hlo _ h; omega
        · exact h
      exact ⟨⟨rfl, i, (i + j) / 2, rfl, rfl, hit, this, by omega⟩, by simp only; omega⟩
  · obtain rfl : i = t := by omega
    rw [zdr_b2]
    refine condP (fun hin => ?_) (fun hin => ?_)
    · refine one (by omega) (by omega) fun a l e hX => ?_
      refine hX _ ⟨_, rfl, ?_, rfl⟩
      rw [Int.toNat_natCast]
      rw [show decide (cmpK rows ks i = 0) = decide (i < n ∧ cmpK rows ks i = 0) from decide_eq_decide.2 ⟨fun h => ⟨by omega, h⟩, fun h => h.2⟩]
    · refine ⟨?_, rfl⟩
      rw [decide_eq_false (fun h => hin (by omega))]
theorem yaap (z : Int) (h : Hp) : yaae Tryz.prog 163 #[.int .i64 z] h (fun v h' => v = .agg #[.int .i64 0, .int .i64 z, .slice none 0 0] ∧ Ext h h') := by
  refine zbh_call ?_
  rw [zbh_b0]
  refine (St.start h).new (cs := [.int .i64 0, .int .i64 0, .slice none 0 0]) fun b1 h1 _ s1 => ?_
  refine s1.wr rfl (by simp) fun h2 s2 => ?_
  refine s2.wr (o := 1) (yaaj _ _ _) (by simp) fun h3 s3 => ?_
  refine s3.wr (o := 2) (yaaj _ _ _) (by simp) fun h4 s4 => ?_
  exact ⟨_, _, _, _, _, s4.blk.cell 0, Blk.cellA s4.blk 1, Blk.cellA s4.blk 2, rfl, s4.ext⟩
theorem yaas (z : Int) (h : Hp) : yaae Tryz.prog 164 #[.int .i64 z] h (fun v h' => v = .agg #[.int .i64 z, .int .i64 0, .slice none 0 0] ∧ Ext h h') := by
  refine zbb_call ?_
  rw [zbb_b0]
  refine (St.start h).new (cs := [.int .i64 0, .int .i64 0, .slice none 0 0]) fun b1 h1 _ s1 => ?_
  refine s1.wr rfl (by simp) fun h2 s2 => ?_
  refine s2.wr (o := 1) (yaaj _ _ _) (by simp) fun h3 s3 => ?_
  refine s3.wr (o := 2) (yaaj _ _ _) (by simp) fun h4 s4 => ?_
  exact ⟨_, _, _, _, _, s4.blk.cell 0, Blk.cellA s4.blk 1, Blk.cellA s4.blk 2, rfl, s4.ext⟩
end Go.Proofs.YtdlkohenamlnaaaGreat
/- Layer 3's model: a dictionary's step. -/
namespace Go.Proofs.YtdlkohenamlnaaaGreat
open Go Go.Sx
theorem yaft {h0 h : Hp} {p : OA} {n c i b : Nat} {rows : List (List Int)} {x : List Int} {q : OA} {m d : Nat} {B Bx G : Bag} (na : RowsA (p, n, c) rows B) (o : Sl TI q m d x Bx) (s : St h0 h (cA b [.slice q m d] 23 + (B + (Bx + G)))) (hi : i ≤ n) (hn : n < 1000000) :
    yaae Tryz.prog 166 #[.slice p n c, .int .i64 (i : Int), .slice (some ⟨b, 0, none⟩) 1 1] h (fun v h' => ∃ q' d' B', v = .slice q' (n + 1) d' ∧ RowsA (q', n + 1, d') (rows.take i ++ x :: rows.drop i) B' ∧ St h0 h' (B' + G)) := by
  obtain ⟨hs, B0, B1, rfl, h1, h2⟩ := na
  obtain ⟨C1, C2, rfl, c1, c2⟩ := AllH.cut h2 i
  have s1 : St h0 h (B0 + (cA b [.slice q m d] (tS 23).e + (C1 + C2 + (Bx + G)))) := s.to (B := B0 + (cA b [.slice q m d] 23 + (C1 + C2 + (Bx + G))))
  refine (yasj (x := (q, m, d)) s1 h1 rfl hi hn).mono fun v h' ⟨q', d', B', hv, o', s'⟩ => ⟨q', d', B' + (C1 + (Bx + C2)), hv, ⟨_, B', C1 + (Bx + C2), rfl, o', c1.append ⟨Bx, C2, rfl, o, c2⟩⟩, ?_⟩
  have s' : St h0 h' (B' + (cA b [.slice q m d] 23 + (C1 + C2 + (Bx + G)))) := s'
  exact (s'.to (B := cA b [.slice q m d] 23 + (B' + (C1 + (Bx + C2)) + G))).drop
theorem yaeo {h0 h : Hp} {p : OA} {n c i : Nat} {j : Int} {rows : List (List Int)} {B G : Bag} (na : RowsA (p, n, c) rows B) (s : St h0 h (B + G)) (hi : i < n) (hj : j = (i : Int) + 1) (hn : n < 1000000) :
    yaae Tryz.prog 167 #[.slice p n c, .int .i64 (i : Int), .int .i64 j] h (fun v h' => ∃ B', v = .slice p (n - 1) c ∧ RowsA (p, n - 1, c) (rows.take i ++ rows.drop (i + 1)) B' ∧ St h0 h' (B' + G)) := by
  obtain ⟨hs, B0, B1, rfl, h1, h2⟩ := na
  obtain ⟨C1, C2, rfl, c1, c2⟩ := AllH.cut h2 i
  obtain ⟨C3, C4, rfl, _, c4⟩ := AllH.cut c2 1
  rw [List.drop_drop, List.drop_drop] at c4
  refine (yape (s.to (B := B0 + (C1 + (C3 + C4) + G))) h1 hi hj hn).mono fun v h' ⟨B', hv, o, s'⟩ => ⟨B' + (C1 + C4), hv, ⟨_, B', C1 + C4, rfl, o, c1.append c4⟩, (s'.to (B := C3 + (B' + (C1 + C4) + G))).drop⟩
def yafm (h0 : Hp) (G : Bag) (rows : List (List Int)) (e z : Int) (v : Value) (h' : Hp) : Prop :=
  ∃ q m d B', v = .tuple #[.slice q m d, .agg #[.int .i64 e, .int .i64 z, .slice none 0 0]] ∧ RowsA (q, m, d) rows B' ∧ St h0 h' (B' + G)
theorem mboxW {h0 h : Hp} {b2 : Nat} {y0 y1 y2 : Value} {D B G : Bag} {p : OA} {n c : Nat} {e z : Int} {rows : List (List Int)} (na : RowsA (p, n, c) rows B)
    (s : St h0 h (cA b2 [y0, y1, y2] 61 + (D + (B + G)))) :
    Wr h ⟨b2, 0, none⟩ (.int .i64 e) fun h4 => Wr h4 ((⟨b2, 0, none⟩ : Addr).add 1) (.int .i64 z) fun h5 => Wr h5 ((⟨b2, 0, none⟩ : Addr).add 2) (.slice none 0 0) fun h6 =>
      ∃ r4 : Int, ∃ r5 : Int, ∃ r6 rL2 rC2, cell h6 ⟨b2, 0, none⟩ = some (.int .i64 r4) ∧ cell h6 ((⟨b2, 0, none⟩ : Addr).add 1) = some (.int .i64 r5) ∧ cell h6 ((⟨b2, 0, none⟩ : Addr).add 2) = some (.slice r6 rL2 rC2) ∧
      yafm h0 G rows e z (.tuple #[.slice p n c, .agg #[.int .i64 r4, .int .i64 r5, .slice r6 rL2 rC2]]) h6 := by
  refine s.wr rfl (by simp) fun h8 s8 => ?_
  refine s8.wr (o := 1) (yaaj _ _ _) (by simp) fun h9 s9 => ?_
  refine s9.wr (o := 2) (yaaj _ _ _) (by simp) fun h10 s10 => ?_
  refine ⟨_, _, _, _, _, s10.blk.cell 0, Blk.cellA s10.blk 1, Blk.cellA s10.blk 2, p, n, c, B, rfl, na, ?_⟩
  exact (s10.drop).drop
theorem mboxT {g : Nat} {args : Array Value} {h0 h : Hp} {b2 : Nat} {y0 y1 y2 : Value} {D B G : Bag} {p : OA} {n c : Nat} {e z : Int} {rows : List (List Int)} (na : RowsA (p, n, c) rows B)
    (s : St h0 h (cA b2 [y0, y1, y2] 61 + (D + (B + G))))
    (hc : yaae Tryz.prog g args h (fun v h' => v = .agg #[.int .i64 e, .int .i64 z, .slice none 0 0] ∧ Ext h h')) :
    yaae Tryz.prog g args h fun v1 h3 => ∃ r1 : Int, ∃ r2 : Int, ∃ (r3 : OA) (rL1 rC1 : Nat), v1 = .agg #[.int .i64 r1, .int .i64 r2, .slice r3 rL1 rC1] ∧
      Wr h3 ⟨b2, 0, none⟩ (.int .i64 r1) fun h4 => Wr h4 ((⟨b2, 0, none⟩ : Addr).add 1) (.int .i64 r2) fun h5 => Wr h5 ((⟨b2, 0, none⟩ : Addr).add 2) (.slice r3 rL1 rC1) fun h6 =>
      ∃ r4 : Int, ∃ r5 : Int, ∃ r6 rL2 rC2, cell h6 ⟨b2, 0, none⟩ = some (.int .i64 r4) ∧ cell h6 ((⟨b2, 0, none⟩ : Addr).add 1) = some (.int .i64 r5) ∧ cell h6 ((⟨b2, 0, none⟩ : Addr).add 2) = some (.slice r6 rL2 rC2) ∧
      yafm h0 G rows e z (.tuple #[.slice p n c, .agg #[.int .i64 r4, .int .i64 r5, .slice r6 rL2 rC2]]) h6 :=
  hc.mono fun _ _ ⟨hv, x⟩ => ⟨_, _, _, _, _, hv, mboxW na (s.grow x)⟩
theorem cmpK2 {l : List E} {k : Int} {j : Nat} (hj : j < l.length) : cmpK (l.map row2) [k] j = cmpS (l.getD j (0, 0)).1 k := by
  rw [cmpK, yagl hj]
  show cmpL [(l.getD j (0, 0)).1] [k] = _
  show (if (l.getD j (0, 0)).1 < k then (-1 : Int) else if k < (l.getD j (0, 0)).1 then 1 else cmpL [] []) = _
  rfl
theorem yawp {l : List E} {k : Int} (so : Srt l) : (lowS l k).length ≤ l.length ∧ (∀ j, j < (lowS l k).length → cmpK (l.map row2) [k] j < 0) ∧ (∀ j, (lowS l k).length ≤ j → j < l.length → 0 ≤ cmpK (l.map row2) [k] j) ∧
    decide ((lowS l k).length < l.length ∧ cmpK (l.map row2) [k] (lowS l k).length = 0) = yabw (upS l k) k := by
  have hll := yalq (xs := l) (key := k)
  have hu := yaeh (xs := l) (key := k)
  refine ⟨hll, fun j hj => ?_, fun j hj hjl => ?_, ?_⟩
  · rw [cmpK2 (by omega)]
    have hm : l.getD j (0, 0) ∈ lowS l k := by
      have : l.getD j (0, 0) = (lowS l k)[j] := by
        conv => lhs; rw [hu]
        simp [List.getD, List.getElem?_append_left hj, hj]
      rw [this]; exact List.getElem_mem hj
    have := yapl _ hm
    rw [cmpS, if_pos this]; decide
  · rw [cmpK2 hjl]
    have hm : l.getD j (0, 0) ∈ upS l k := by
      have hd := yagq (xs := l) (key := k)
      have : l.getD j (0, 0) = l[j] := by simp [List.getD, hjl]
      rw [this, ← hd]
      exact List.mem_drop_iff_getElem.2 ⟨j - (lowS l k).length, by omega, by simp only [show (lowS l k).length + (j - (lowS l k).length) = j by omega]⟩
    have := up_ge so _ hm
    unfold cmpS
    split
    · omega
    · split <;> omega
  · by_cases hf : yabw (upS l k) k = true
    · obtain ⟨u1, u2, _⟩ := yajm hf
      rw [hf]
      refine decide_eq_true ⟨u1, ?_⟩
      rw [cmpK2 u1, u2, cmpS, if_neg (by omega), if_neg (by omega)]
    · have hf' : yabw (upS l k) k = false := by simpa using hf
      rw [hf']
      refine decide_eq_false fun ⟨h1, h2⟩ => hf ?_
      have hd := yagq (xs := l) (key := k)
      rw [List.drop_eq_getElem_cons h1] at hd
      rw [cmpK2 h1] at h2
      have hg : l.getD (lowS l k).length (0, 0) = l[(lowS l k).length] := by simp [List.getD, h1]
      rw [hg] at h2
      rw [← hd]
      refine decide_eq_true ?_
      unfold cmpS at h2
      split at h2
      · cases h2
      · split at h2
        · cases h2
        · omega
section
variable {h0 h : Hp} {b1 b2 : Nat} {l : List E} {p q : OA} {n c m cc : Nat} {code : Int} {zs : List Int} {B G : Bag}
abbrev yaik (h0 : Hp) (G : Bag) (l : List E) (c : Int) (zs : List Int) : VK := yafm h0 G ((dictS l c zs).1.map row2) (dictS l c zs).2.1 (dictS l c zs).2.2
theorem yaof (na : RowsA (p, n, c) (l.map row2) B) (s : St h0 h (cA b2 [.int .i64 0, .int .i64 0, .slice none 0 0] 61 + (cA b1 [.int .i64 code, .slice q m cc] 25 + (B + G)))) (hn : n ≤ 1000) (hc : code = 2 ∨ code = 3) :
    zba_b2 p n c (some ⟨b1, 0, none⟩) (some ⟨b2, 0, none⟩) ((lowS l (zs.getD 0 0)).length : Int) (yabw (upS l (zs.getD 0 0)) (zs.getD 0 0)) h (yaik h0 G l code zs) := by
  have hl : (l.map row2).length = n := yaaw na
  rw [List.length_map] at hl
  have kb1 := s.atomBlk
  have e : dictS l code zs = (if yabw (upS l (zs.getD 0 0)) (zs.getD 0 0) = true then (if code = 3 then lowS l (zs.getD 0 0) ++ (upS l (zs.getD 0 0)).tail else l, 0, valOf (upS l (zs.getD 0 0))) else (l, 12, 0)) := by
    rcases hc with rfl | rfl <;> rfl
  rw [yaik, e, zba_b2]
  generalize zs.getD 0 0 = k
  by_cases hf : yabw (upS l k) k = true
  · obtain ⟨u1, u2, u3⟩ := yajm hf
    rw [if_pos hf, hf]
    refine yaam rfl (e_val na (s.at B) (by omega) (by omega) ?_)
    rw [Int.toNat_natCast, u2]
    refine ⟨_, kb1.cell 0, condP (fun h3 => ?_) (fun h3 => ?_)⟩
    · rw [if_pos h3]
      refine ⟨⟨by omega, by omega⟩, ?_⟩
      refine (yaeo na (s.to (B := B + (cA b2 [.int .i64 0, .int .i64 0, .slice none 0 0] 61 + (cA b1 [.int .i64 code, .slice q m cc] 25 + G)))) (by omega) rfl (by omega)).mono fun v h' ⟨B', hv, na', s'⟩ => ⟨_, _, _, hv, ?_⟩
      have hrow : (l.map row2).take (lowS l k).length ++ (l.map row2).drop ((lowS l k).length + 1) = (lowS l k ++ (upS l k).tail).map row2 := by
        rw [← List.map_take, ← List.map_drop, u3, yaff, ← List.map_append]
      rw [hrow] at na'
      rw [zba_b3]
      exact mboxT na' (s'.to (B := cA b2 [.int .i64 0, .int .i64 0, .slice none 0 0] 61 + (cA b1 [.int .i64 code, .slice q m cc] 25 + (B' + G)))) (yaap _ _)
    · rw [if_neg h3, zba_b3]
      exact mboxT na s (yaap _ _)
  · have hf' : yabw (upS l k) k = false := by simpa using hf
    rw [if_neg hf, hf']
    exact yaax rfl (mboxT na s (yaas _ _))
theorem yaxy (so : Srt l) (na : RowsA (p, n, c) (l.map row2) B) (rz : RdS h0 G TI q m zs) (hmc : m ≤ cc) (s : St h0 h (B + G)) (hn : n ≤ 1000) (hc : 1 ≤ code ∧ code ≤ 8) (h1 : code ≠ 8 → 1 ≤ zs.length) (h2 : code = 1 → zs.length = 2) :
    yaae Tryz.prog 137 #[.slice p n c, .agg #[.int .i64 code, .slice q m cc]] h (yaik h0 G l code zs) := by
  have hl : (l.map row2).length = n := yaaw na
  rw [List.length_map] at hl
  refine zba_call ?_
  rw [zba_b0]
  refine s.new (cs := [.int .i64 code, .slice q m cc]) fun b1 h3 _ s1 => ?_
  refine s1.new (cs := [.int .i64 0, .int .i64 0, .slice none 0 0]) fun b2 h4 _ s2 => ?_
  have s2 : St h0 h4 (cA b2 [.int .i64 0, .int .i64 0, .slice none 0 0] 61 + (cA b1 [.int .i64 code, .slice q m cc] 25 + (B + G))) := s2
  have kb1 := s2.atomBlk
  refine ⟨_, kb1.cell 0, condP (fun h8 => ?_) (fun h8 => ?_)⟩
  · have e : dictS l code zs = (l, 0, (l.length : Int)) := by subst h8; rfl
    rw [yaik, e, hl]
    exact mboxT na s2 (yaap _ _)
  have hrz : RdT TI h4 q m zs := rz h4 (cA b2 [.int .i64 0, .int .i64 0, .slice none 0 0] 61 + (cA b1 [.int .i64 code, .slice q m cc] 25 + B)) s2.to
  have hzl := hrz.len
  have h1 := h1 h8
  have e0 : Int.toNat (0 : Int) = 0 := rfl
  have e1 : Int.toNat (1 : Int) = 1 := rfl
  refine ⟨_, kb1.cell 0, condP (fun h7 => ?_) (fun h7 => ?_)⟩
  · have e : dictS l code zs = (if zs.getD 0 0 < 0 ∨ (l.length : Int) ≤ zs.getD 0 0 then (l, 2, 0) else (l, 0, (l.getD (zs.getD 0 0).toNat (0, 0)).1)) := by
      subst h7; rfl
    refine ⟨_, _, _, Blk.cellA kb1 1, hrz.int (by omega) (by omega) ?_⟩
    rw [yaik, e, e0]
    generalize zs.getD 0 0 = k
    refine condP (fun h5 => condP (fun h6 => ?_) (fun h6 => ?_)) (fun h5 => ?_)
    · rw [if_neg (by omega)]
      refine e_key na (s2.at B) (by omega) (by omega) ?_
      exact mboxT na s2 (yaap _ _)
    · rw [if_pos (.inr (by omega)), zba_b1]
      exact mboxT na s2 (yaas _ _)
    · rw [if_pos (.inl (by omega)), zba_b1]
      exact mboxT na s2 (yaas _ _)
  refine ⟨_, _, _, Blk.cellA kb1 1, ⟨by omega, by omega, by omega⟩, ?_⟩
  rw [e0, e1, yaaz, Nat.sub_zero]
  have hz1 : zs.take 1 = [zs.getD 0 0] := by
    cases zs with
    | nil => simp at h1
    | cons z zs => simp
  have rk : RdT TI h4 q 1 [zs.getD 0 0] := by rw [← hz1]; exact hrz.take (by omega)
  obtain ⟨f1, f2, f3, f4⟩ := yawp (k := zs.getD 0 0) so
  refine (yaou (t := (lowS l (zs.getD 0 0)).length) na (s2.to (B := B + (cA b2 [.int .i64 0, .int .i64 0, .slice none 0 0] 61 + (cA b1 [.int .i64 code, .slice q m cc] 25 + G)))) rk (by omega) (fun r hr => by obtain ⟨e, _, rfl⟩ := List.mem_map.1 hr; simp) ⟨by omega, f2, fun j h1 h2 => f3 j h1 (by omega)⟩).mono fun v h5 ⟨hv, hh⟩ => ⟨_, _, hv, ?_⟩
  subst hh
  rw [← hl, f4, hl]
  refine ⟨_, kb1.cell 0, condP (fun hp => ?_) (fun hp => ?_)⟩
  · have h2 := h2 hp
    have e : dictS l code zs = (if yabw (upS l (zs.getD 0 0)) (zs.getD 0 0) = true then (lowS l (zs.getD 0 0) ++ (zs.getD 0 0, zs.getD 1 0) :: (upS l (zs.getD 0 0)).tail, 0, 1) else if l.length = 500 then (l, 4, 0) else (lowS l (zs.getD 0 0) ++ (zs.getD 0 0, zs.getD 1 0) :: upS l (zs.getD 0 0), 0, 0)) := by subst hp; rfl
    have hz2 : zs = [zs.getD 0 0, zs.getD 1 0] := by
      match zs, h2 with
      | [a, b], _ => rfl
    rw [yaik, e]
    refine yaay (fun hf => ?_) (fun hf => ?_)
    · obtain ⟨u1, u2, u3⟩ := yajm hf
      rw [if_pos hf]
      refine yadi na (s2.at B) (by omega) (by omega) fun q1 l1 d1 Bi Br o hB hset => ⟨_, _, _, Blk.cellA kb1 1, hrz.int (by omega) (by omega) ?_⟩
      rw [Int.toNat_natCast] at o hset
      rw [yagl (by omega)] at o
      have hl1 : 2 = l1 := o.len
      have s3 : St h0 h5 (Bi + (cA b2 [.int .i64 0, .int .i64 0, .slice none 0 0] 61 + (cA b1 [.int .i64 code, .slice q m cc] 25 + (Br + G)))) := by rw [hB] at s2; exact s2.to
      refine o.wrI s3 (by omega) (by omega) rfl rfl fun h' A' o' s' => ?_
      have na' := hset _ A' o'
      have hrow : (l.map row2).set (lowS l (zs.getD 0 0)).length ((row2 (l.getD (lowS l (zs.getD 0 0)).length (0, 0))).set (Int.toNat (1 : Int)) (zs.getD (Int.toNat (1 : Int)) 0)) = (lowS l (zs.getD 0 0) ++ (zs.getD 0 0, zs.getD 1 0) :: (upS l (zs.getD 0 0)).tail).map row2 := by
        have e1 : (row2 (l.getD (lowS l (zs.getD 0 0)).length (0, 0))).set (Int.toNat (1 : Int)) (zs.getD (Int.toNat (1 : Int)) 0) = row2 (zs.getD 0 0, zs.getD 1 0) := by rw [u2]; rfl
        rw [e1, List.set_eq_take_append_cons_drop, if_pos (by rw [List.length_map]; omega), ← List.map_take, ← List.map_drop, u3, yaff, List.map_append, List.map_cons]
      rw [hrow] at na'
      exact mboxT na' (s'.to (B := cA b2 [.int .i64 0, .int .i64 0, .slice none 0 0] 61 + (cA b1 [.int .i64 code, .slice q m cc] 25 + (A' + Br + G)))) (yaap _ _)
    · rw [if_neg (by rw [hf]; simp)]
      refine condP (fun h5 => ?_) (fun h5 => ?_)
      · rw [if_pos (by omega)]
        exact mboxT na s2 (yaas _ _)
      · rw [if_neg (by omega)]
        refine ⟨_, _, _, Blk.cellA kb1 1, (yaca hrz (by omega)).mono fun v6 h6 ⟨q6, d6, A6, hv6, o6, t6⟩ => ⟨_, _, _, hv6, ?_⟩⟩
        have s6 := s2.join t6
        refine s6.new (cs := [.slice q6 m d6]) fun b3 h7 x7 s7 => ?_
        have s7 := s7.to (B := cA b3 [.slice q6 m d6] 23 + (B + (A6 + (cA b2 [.int .i64 0, .int .i64 0, .slice none 0 0] 61 + (cA b1 [.int .i64 code, .slice q m cc] 25 + G)))))
        refine (yaft na o6 s7 (by omega) (by omega)).mono fun v8 h8 ⟨q', d', B', hv8, na', s8⟩ => ⟨_, _, _, hv8, ?_⟩
        have hrow : (l.map row2).take (lowS l (zs.getD 0 0)).length ++ zs :: (l.map row2).drop (lowS l (zs.getD 0 0)).length = (lowS l (zs.getD 0 0) ++ (zs.getD 0 0, zs.getD 1 0) :: upS l (zs.getD 0 0)).map row2 := by
          rw [← List.map_take, ← List.map_drop, yagq, yaff, List.map_append, List.map_cons]
          show _ ++ zs :: _ = _ ++ [zs.getD 0 0, zs.getD 1 0] :: _
          rw [← hz2]
        rw [hrow] at na'
        exact mboxT na' (s8.to (B := cA b2 [.int .i64 0, .int .i64 0, .slice none 0 0] 61 + (cA b1 [.int .i64 code, .slice q m cc] 25 + (B' + G)))) (yaap _ _)
  refine condP (fun h6 => ?_) (fun h6 => condP (fun h4 => ?_) (fun h4 => condP (fun h5 => ?_) (fun h5 => ?_)))
  · have e : dictS l code zs = (l, 0, ((lowS l (zs.getD 0 0)).length : Int)) := by subst h6; rfl
    rw [yaik, e]
    exact mboxT na s2 (yaap _ _)
  · have e : dictS l code zs = (if yabw (upS l (zs.getD 0 0)) (zs.getD 0 0) = true then (l, 0, zs.getD 0 0) else if (lowS l (zs.getD 0 0)).length = 0 then (l, 12, 0) else (l, 0, (yalh (lowS l (zs.getD 0 0))).1)) := by subst h4; rfl
    rw [yaik, e]
    refine yaay (fun hf => ?_) (fun hf => ?_)
    · rw [if_pos hf]
      refine ⟨_, _, _, Blk.cellA kb1 1, hrz.int (by omega) (by omega) ?_⟩
      exact mboxT na s2 (yaap _ _)
    · rw [if_neg (by rw [hf]; simp)]
      refine condP (fun h0 => ?_) (fun h0 => ?_)
      · rw [if_pos (by omega)]
        exact mboxT na s2 (yaas _ _)
      · rw [if_neg (by omega)]
        obtain ⟨w1, _, _⟩ := yamj (xs := l) (key := zs.getD 0 0) (by omega)
        have ei : Int.toNat (((lowS l (zs.getD 0 0)).length : Int) - 1) = (lowS l (zs.getD 0 0)).length - 1 := by omega
        refine ⟨⟨by omega, by omega⟩, e_key na (s2.at B) (by omega) (by omega) ?_⟩
        rw [ei, ← w1]
        exact mboxT na s2 (yaap _ _)
  · have e : dictS l code zs = (if (lowS l (zs.getD 0 0)).length = l.length then (l, 12, 0) else (l, 0, (yawl (upS l (zs.getD 0 0))).1)) := by subst h5; rfl
    rw [yaik, e]
    refine condP (fun h0 => ?_) (fun h0 => ?_)
    · rw [if_pos (by omega)]
      exact mboxT na s2 (yaas _ _)
    · rw [if_neg (by omega)]
      refine e_key na (s2.at B) (by omega) (by omega) ?_
      rw [Int.toNat_natCast]
      have hud := yagq (xs := l) (key := zs.getD 0 0)
      rw [List.drop_eq_getElem_cons (by omega)] at hud
      have hg : l.getD (lowS l (zs.getD 0 0)).length (0, 0) = l[(lowS l (zs.getD 0 0)).length]'(by omega) := by rw [List.getD_eq_getElem?_getD, List.getElem?_eq_getElem (by omega)]; rfl
      rw [hg, ← hud]
      exact mboxT na s2 (yaap _ _)
  · exact yaof na s2 hn (by omega)
end
end Go.Proofs.YtdlkohenamlnaaaGreat
/- Layer 3's model: lists of operations, valid ones, Run of a dictionary. -/
namespace Go.Proofs.YtdlkohenamlnaaaGreat
open Go Go.Sx
abbrev OpT := Int × SH
abbrev tO : Ty OpT := ⟨25, 2, fun x => [.int .i64 x.1, .slice x.2.1 x.2.2.1 x.2.2.2], (0, none, 0, 0), fun _ => rfl, by decide, fun _ v hv => by simp at hv; rcases hv with rfl | rfl <;> rfl⟩
abbrev OpL := Int × List Int
def OpsR (h : Hp) (p : OA) (n : Nat) (ops : List OpL) : Prop :=
  ∃ l : List OpT, RdT tO h p n l ∧ ops.length = n ∧ ∀ i, i < n → (l.getD i tO.d).1 = (ops.getD i (0, [])).1 ∧ (l.getD i tO.d).2.2.1 ≤ (l.getD i tO.d).2.2.2 ∧ RdT TI h (l.getD i tO.d).2.1 (l.getD i tO.d).2.2.1 (ops.getD i (0, [])).2
theorem OpsR.len {h : Hp} {p : OA} {n : Nat} {ops : List OpL} (r : OpsR h p n ops) : ops.length = n := let ⟨_, _, hl, _⟩ := r; hl
theorem OpsR.ext {h h' : Hp} {p : OA} {n : Nat} {ops : List OpL} (r : OpsR h p n ops) (x : Ext h h') : OpsR h' p n ops :=
  let ⟨l, r1, hl, hk⟩ := r; ⟨l, r1.ext x, hl, fun i hi => ⟨(hk i hi).1, (hk i hi).2.1, (hk i hi).2.2.ext x⟩⟩
theorem OpsR.at_ {h h1 : Hp} {p : OA} {n : Nat} {ops : List OpL} {i : Int} {Q : Int → OA → Nat → Nat → Prop} (r : OpsR h p n ops) (x : Ext h h1) (h0 : 0 ≤ i) (hi : i < n)
    (hq : ∀ q m c, m ≤ c → RdT TI h q m (ops.getD i.toNat (0, [])).2 → Q (ops.getD i.toNat (0, [])).1 q m c) :
    (0 ≤ i ∧ i < (n : Int)) ∧ NN p fun a => ∃ x : Int, ∃ y z w, cell h1 (a.add (Int.toNat i * 2)) = some (.int .i64 x) ∧ cell h1 ((a.add (Int.toNat i * 2)).add 1) = some (.slice y z w) ∧ Q x y z w := by
  obtain ⟨l, r1, hl, hk⟩ := r
  obtain ⟨k1, k2, k3⟩ := hk i.toNat (by omega)
  refine (r1.ext x).idx h0 hi fun _ _ hc => ⟨_, _, _, _, hc 0 (show 0 < 2 by decide), hc 1 (show 1 < 2 by decide), ?_⟩
  rw [k1]
  exact hq _ _ _ k2 k3
theorem OpsR.mk' {h : Hp} {p : OA} {n : Nat} {l : List OpT} (r : RdT tO h p n l) (hz : ∀ x ∈ l, x.2.2.1 ≤ x.2.2.2 ∧ ∃ zs, RdT TI h x.2.1 x.2.2.1 zs) : ∃ ops, OpsR h p n ops := by
  have hl := r.len
  have : ∃ ops : List OpL, ops.length = l.length ∧ ∀ i, i < l.length → (l.getD i tO.d).1 = (ops.getD i (0, [])).1 ∧ (l.getD i tO.d).2.2.1 ≤ (l.getD i tO.d).2.2.2 ∧ RdT TI h (l.getD i tO.d).2.1 (l.getD i tO.d).2.2.1 (ops.getD i (0, [])).2 := by
    clear r hl
    induction l with
    | nil => exact ⟨[], rfl, fun i hi => by simp at hi⟩
    | cons x l ih =>
      obtain ⟨ops, e, hk⟩ := ih fun y hy => hz y (List.mem_cons_of_mem _ hy)
      obtain ⟨hc, zs, rz⟩ := hz x List.mem_cons_self
      refine ⟨(x.1, zs) :: ops, by simp [e], fun i hi => ?_⟩
      cases i with
      | zero => exact ⟨rfl, hc, rz⟩
      | succ i => simpa using hk i (by simpa using hi)
  obtain ⟨ops, e, hk⟩ := this
  exact ⟨ops, l, r, by omega, fun i hi => hk i (by omega)⟩
abbrev AllV (k : Int) (ops : List OpL) : Prop := ∀ o ∈ ops, OpV k o.1 o.2
theorem yaav {α : Type} {l : List α} {i : Nat} {d : α} (h : i < l.length) : l.getD i d ∈ l := by
  rw [List.getD_eq_getElem?_getD, List.getElem?_eq_getElem h]
  exact List.getElem_mem h
theorem yasw {k : Int} {ops : List OpL} {i : Nat} (hi : i < ops.length) (h : ∀ o ∈ ops.take i, OpV k o.1 o.2) (h1 : OpV k (ops.getD i (0, [])).1 (ops.getD i (0, [])).2) : ∀ o ∈ ops.take (i + 1), OpV k o.1 o.2 := by
  intro o ho
  have hg : ops.getD i (0, []) = ops[i] := by rw [List.getD_eq_getElem?_getD, List.getElem?_eq_getElem hi]; rfl
  rw [List.take_succ_eq_append_getElem hi, List.mem_append, List.mem_singleton, ← hg] at ho
  rcases ho with ho | rfl
  · exact h o ho
  · exact h1
theorem yauj {k : Int} {h : Hp} {p p0 : OA} {n c n0 c0 b1 : Nat} {ops : List OpL} (r : OpsR h p n ops) (hn : n ≤ 1000000) (kb : Blk h b1 [.int .i64 k, .slice p0 n0 c0] 66) :
    yaae Tryz.prog 151 #[.slice p n c, .func (.func 152) #[] #[.pointer (some ⟨b1, 0, none⟩)]] h (fun v h' => v = .bool (!decide (AllV k ops)) ∧ Ext h h') := by
  have hl := r.len
  refine zdz_call ?_
  rw [zdz_b0]
  refine zeh_call ?_
  rw [zeh_b0]
  refine ⟨fun s h' => Ext h h' ∧ ∃ i : Nat, s.1 = i ∧ i ≤ n ∧ ∀ o ∈ ops.take i, OpV k o.1 o.2, fun s _ => n - s.1.toNat, ⟨Ext.refl h, 0, rfl, by omega, by simp⟩, ?_⟩
  rintro ⟨_, _⟩ h1 ⟨x1, i, rfl, hin, hall⟩
  dsimp only
  rw [zeh_b1]
  refine condP (fun hlt => ?_) (fun hge => ?_)
  · refine r.at_ x1 (by omega) (by omega) fun q m d _ rz => ?_
    rw [Int.toNat_natCast] at rz ⊢
    generalize hop : ops.getD i (0, []) = op at rz ⊢
    show callX Tryz.prog F 152 #[.agg #[.int .i64 op.1, .slice q m d], .pointer (some ⟨b1, 0, none⟩)] _ _
    refine yacw (by kernel_rfl) (zap_call ?_)
    rw [zap_b0]
    refine (St.start h1).new (cs := [.int .i64 op.1, .slice q m d]) fun b3 h3 x3 s3 => ?_
    have kb1 := (kb.ext x1).ext x3
    refine ⟨_, kb1.cell 0, _, _, _, _, s3.blk.cell 0, Blk.cellA s3.blk 1, ?_⟩
    refine (yajw ((rz.ext x1).ext x3)).mono fun v h4 ⟨hv, x4⟩ => ⟨_, hv, ⟨_, rfl, ?_⟩⟩
    have x5 : Ext h h4 := (x1.trans x3).trans x4
    refine condN (fun hno => ?_) (fun hyes => ?_)
    · refine ⟨_, rfl, ?_, x5⟩
      rw [decide_eq_true (by omega), decide_eq_false (fun h => hno (by rw [← hop]; exact h _ (yaav (by omega))))]
      rfl
    · rw [zeh_b2]
      exact ⟨⟨by omega, by omega⟩, ⟨x5, i + 1, by simp only; omega, by omega, yasw (by omega) hall (by rw [hop]; exact hyes)⟩, by simp only; omega⟩
  · rw [zeh_b3]
    rw [List.take_of_length_le (by omega)] at hall
    exact ⟨_, rfl, by rw [decide_eq_true hall]; rfl, x1⟩
theorem yavd {k : Int} (hk : 1 ≤ k ∧ k ≤ 6) (h : Hp) : yaae Tryz.prog 52 #[.int .i64 k] h (fun v h' => v = .tuple #[.agg #[.int .i64 k, .slice none 0 0], .int .i64 0] ∧ Ext h h') := by
  refine zan_call ?_
  rw [zan_b0]
  refine (St.start h).new (cs := [.int .i64 0, .slice none 0 0]) fun b1 h1 x1 s1 => ?_
  refine (yald k h1).mono fun v1 h2 ⟨q, d, hv1, rw1, x2⟩ => ⟨_, _, _, hv1, ?_⟩
  have hpos : 0 < (wdT k).length := by
    have hk' : k = 1 ∨ k = 2 ∨ k = 3 ∨ k = 4 ∨ k = 5 ∨ k = 6 := by omega
    rcases hk' with rfl | rfl | rfl | rfl | rfl | rfl <;> decide
  obtain ⟨a, rfl⟩ : ∃ a, q = some a := by
    have := (yamo (i := 0) (Q := fun _ _ _ => True) rw1 (by omega) (by omega) trivial).2
    cases q with
    | none => exact this.elim
    | some a => exact ⟨a, rfl⟩
  refine yaam rfl ?_
  have s2 := s1.grow x2
  refine s2.wr rfl (by simp) fun h3 s3 => ?_
  refine s3.wr (o := 1) (yaaj _ _ _) (by simp) fun h4 s4 => ?_
  exact ⟨_, _, _, _, s4.blk.cell 0, Blk.cellA s4.blk 1, rfl, s4.ext⟩
abbrev ResL := Int × Int
abbrev tRes : Ty ResL := ⟨61, 3, fun x => [.int .i64 x.1, .int .i64 x.2, .slice none 0 0], (0, 0), fun _ => rfl, by decide, fun _ v hv => by simp at hv; rcases hv with rfl | rfl | rfl <;> rfl⟩
theorem ybbl : ElOk tRes Tryz.prog 156 := yadl (by kernel_rfl)
abbrev KeysP (xs : List E) : Prop := ∀ e ∈ xs, KeyP e.1 ∧ KeyP e.2
theorem yasb {xs : List E} {c : Int} {zs : List Int} (hx : KeysP xs) (hv : OpV 1 c zs) : KeysP (dictS xs c zs).1 := by
  obtain ⟨hc, hz1, hz2, hz⟩ := opv1 hv
  have lo : ∀ k, KeysP (lowS xs k) := fun k e he => hx e (yaqf.mem he)
  have up : ∀ k, KeysP (upS xs k) := fun k e he => hx e (yanz.mem he)
  have tl : ∀ k, KeysP (upS xs k).tail := fun k e he => up k e (List.mem_of_mem_tail he)
  have hk : ∀ i, i < zs.length → KeyP (zs.getD i 0) := fun i hi => hz _ (yaav hi)
  have app : ∀ {a b : List E}, KeysP a → KeysP b → KeysP (a ++ b) := fun ha hb e he => (List.mem_append.1 he).elim (ha e) (hb e)
  have cons : ∀ {x : E} {b : List E}, KeyP x.1 ∧ KeyP x.2 → KeysP b → KeysP (x :: b) := fun hx hb e he => (List.mem_cons.1 he).elim (fun h => by rw [h]; exact hx) (hb e)
  unfold dictS
  split
  · exact hx
  split
  · rename_i h1
    have := hz2 h1
    split
    · exact app (lo _) (cons ⟨hk 0 (by omega), hk 1 (by omega)⟩ (tl _))
    · split
      · exact hx
      · exact app (lo _) (cons ⟨hk 0 (by omega), hk 1 (by omega)⟩ (up _))
  split
  · split <;> exact hx
  split
  · split
    · exact app (lo _) (tl _)
    · exact hx
  split
  · split
    · exact hx
    · split <;> exact hx
  split
  · split <;> exact hx
  split
  · exact hx
  · split <;> exact hx
theorem yapm {xs : List E} {c : Int} {zs : List Int} (so : Srt xs) : Srt (dictS xs c zs).1 ∧ (dictS xs c zs).1.length ≤ xs.length + 1 := by
  have hX : Srt (lowS xs (zs.getD 0 0)) := so.sublist yaqf
  have hY : Srt (upS xs (zs.getD 0 0)) := so.sublist yanz
  have hlen := congrArg List.length (yaeh (xs := xs) (key := zs.getD 0 0))
  rw [List.length_append] at hlen
  unfold dictS
  split
  · exact ⟨so, Nat.le_succ _⟩
  split
  · split
    · rename_i hk
      refine ⟨yavf hX (hY.sublist (List.tail_sublist _)) yapl (yars so hk), ?_⟩
      simp only [List.length_append, List.length_cons, List.length_tail]; omega
    · rename_i hk
      split
      · exact ⟨so, Nat.le_succ _⟩
      · refine ⟨yavf hX hY yapl (ybar hY (up_ge so) (by simpa using hk)), ?_⟩
        simp only [List.length_append, List.length_cons]; omega
  split
  · split <;> exact ⟨so, Nat.le_succ _⟩
  split
  · split
    · refine ⟨?_, ?_⟩
      · have h1 : Srt (lowS xs (zs.getD 0 0) ++ upS xs (zs.getD 0 0)) := by rw [← yaeh]; exact so
        exact h1.sublist (List.Sublist.append (List.Sublist.refl _) (List.tail_sublist _))
      · simp only [List.length_append, List.length_tail]; omega
    · exact ⟨so, Nat.le_succ _⟩
  split
  · split
    · exact ⟨so, Nat.le_succ _⟩
    · split <;> exact ⟨so, Nat.le_succ _⟩
  split
  · split <;> exact ⟨so, Nat.le_succ _⟩
  split
  · exact ⟨so, Nat.le_succ _⟩
  · split <;> exact ⟨so, Nat.le_succ _⟩
end Go.Proofs.YtdlkohenamlnaaaGreat
/- A queue of priorities in the past: finding, comparing. -/
namespace Go.Proofs.YtdlkohenamlnaaaGreat
open Go Go.Sx
abbrev TA : Ty Ev := tEv 106
abbrev TL : Ty El := tPP 101
theorem yain (z : Int) (h : Hp) : yaae Tryz.prog 65 #[.int .i64 z] h (fun v h' => v = .bool (decide (0 ≤ z ∧ z ≤ 1073741824)) ∧ h' = h) := by
  refine zck_call ?_
  rw [zck_b0]
  refine condP (fun h1 => ⟨?_, rfl⟩) (fun h1 => ⟨?_, rfl⟩)
  · congr 1; exact decide_eq_decide.2 ⟨fun h => ⟨h1, h⟩, fun h => h.2⟩
  · rw [decide_eq_false (fun h => h1 h.1)]
theorem yalu {e : TypeId} {h : Hp} {p : OA} {n : Nat} {l : List Ev} {i : Int} {Q : Int → Int → Bool → Prop} (r : RdT (tEv e) h p n l) (h0 : 0 ≤ i) (h1 : i < n) (hq : Q (l.getD i.toNat evD).1 (l.getD i.toNat evD).2.1 (l.getD i.toNat evD).2.2) :
    (0 ≤ i ∧ i < (n : Int)) ∧ NN p fun a => ∃ x : Int, ∃ y : Int, ∃ b : Bool, cell h (a.add (Int.toNat i * 3)) = some (.int .i64 x) ∧ cell h ((a.add (Int.toNat i * 3)).add 1) = some (.int .i64 y) ∧ cell h ((a.add (Int.toNat i * 3)).add 2) = some (.bool b) ∧ Q x y b :=
  r.idx h0 h1 fun _ _ hc => ⟨_, _, _, hc 0 (show 0 < 3 by decide), hc 1 (show 1 < 3 by decide), hc 2 (show 2 < 3 by decide), hq⟩
theorem yarg {e : TypeId} {h : Hp} {p : OA} {n : Nat} {l : List El} {i : Int} {Q : Int → Int → Prop} (r : RdT (tPP e) h p n l) (h0 : 0 ≤ i) (h1 : i < n) (hq : Q (l.getD i.toNat (0, 0)).1 (l.getD i.toNat (0, 0)).2) :
    (0 ≤ i ∧ i < (n : Int)) ∧ NN p fun a => ∃ x : Int, ∃ y, cell h (a.add (Int.toNat i * 2)) = some (.int .i64 x) ∧ cell h ((a.add (Int.toNat i * 2)).add 1) = some (.int .i64 y) ∧ Q x y :=
  r.idx h0 h1 fun _ _ hc => ⟨_, _, hc 0 (show 0 < 2 by decide), hc 1 (show 1 < 2 by decide), hq⟩
theorem yaiq {x y : Int} : cmpS x y < 0 ↔ x < y := by
  unfold cmpS; split
  · simpa
  · split <;> simp <;> omega
theorem yafv {x y : Int} : cmpS x y = 0 ↔ x = y := by
  unfold cmpS; split
  · simp; omega
  · split <;> simp <;> omega
theorem yanb {a b : Int} {d : Bool} {t : Int} {h : Hp} {K : VK} (hK : ∀ h', Ext h h' → K (.int .i64 (cmpS a t)) h') :
    callX Tryz.prog F 102 #[.agg #[.int .i64 a, .int .i64 b, .bool d], .int .i64 t] h K := by
  refine yacw (by kernel_rfl) (zch_call ?_)
  rw [zch_b0]
  refine (St.start h).new (cs := [.int .i64 a, .int .i64 b, .bool d]) fun b1 h1 x1 s1 => ?_
  refine ⟨_, s1.blk.cell 0, (yatg _ _ h1).mono fun v h2 ⟨hv, hh⟩ => ⟨_, hv, ?_⟩⟩
  subst hh
  exact hK _ x1
theorem ybbt {h : Hp} {p : OA} {n c t : Nat} {time : Int} {l : List Ev} (r : RdT TA h p n l) (hn : n ≤ 1000000)
    (ht : t ≤ n ∧ (∀ j, j < t → (l.getD j evD).1 < time) ∧ ∀ j, t ≤ j → j < n → time ≤ (l.getD j evD).1) :
    yaae Tryz.prog 101 #[.slice p n c, .int .i64 time, .func (.func 102) #[] #[]] h (fun v h' => v = .tuple #[.int .i64 (t : Int), .bool (decide (t < n ∧ (l.getD t evD).1 = time))] ∧ Ext h h') := by
  obtain ⟨htn, hlo, hhi⟩ := ht
  refine zds_call ?_
  rw [zds_b0]
  refine ⟨fun x h' => Ext h h' ∧ ∃ i j : Nat, x.1 = i ∧ x.2.1 = j ∧ i ≤ t ∧ t ≤ j ∧ j ≤ n, fun x _ => (x.2.1 - x.1).toNat, ⟨Ext.refl h, 0, n, rfl, rfl, by omega, htn, by omega⟩, ?_⟩
  rintro ⟨_, _, _⟩ h1 ⟨x1, i, j, rfl, rfl, hit, htj, hjn⟩
  dsimp only
  rw [zds_b1]
  refine condP (fun hlt => ?_) (fun hge => ?_)
  · have e1 : IntKind.u64.wrap ((i : Int) + (j : Int)) = ((i + j : Nat) : Int) := by
      show ((i : Int) + (j : Int)) % 18446744073709551616 = _
      rw [Int.emod_eq_of_lt (by omega) (by omega)]; push_cast; rfl
    refine ⟨⟨by omega, by omega⟩, (((i + j) / 2 : Nat) : Int), ⟨by omega, ?_⟩, ⟨by omega, by omega⟩, ?_⟩
    · rw [e1]
      have : (2 : Int) ^ (min (Int.toNat 1) IntKind.u64.bits) = 2 := by decide
      rw [this]
      rw [Int.fdiv_eq_ediv_of_nonneg _ (by omega)]
      omega
    refine yalu (r.ext x1) (by omega) (by omega) ?_
    rw [Int.toNat_natCast]
    refine yanb fun h2 x2 => ⟨_, rfl, condP (fun h3 => ?_) (fun h3 => ?_)⟩
    · have : (i + j) / 2 < t := by
        rcases Nat.lt_or_ge ((i + j) / 2) t with h | h
        · exact h
        · have := hhi _ h (by omega); have := yaiq.1 h3; omega
      exact ⟨⟨by omega, by omega⟩, ⟨x1.trans x2, (i + j) / 2 + 1, j, by simp only; omega, rfl, by omega, htj, hjn⟩, by simp only; omega⟩
    · have : t ≤ (i + j) / 2 := by
        rcases Nat.lt_or_ge ((i + j) / 2) t with h | h
        · exact absurd (yaiq.2 (hlo _ h)) h3
        · exact h
      exact ⟨⟨x1.trans x2, i, (i + j) / 2, rfl, rfl, hit, this, by omega⟩, by simp only; omega⟩
  · obtain rfl : i = t := by omega
    rw [zds_b2]
    refine condP (fun hin => ?_) (fun hin => ?_)
    · refine yalu (r.ext x1) (by omega) (by omega) ?_
      rw [Int.toNat_natCast]
      refine yanb fun h2 x2 => ⟨_, rfl, ?_, x1.trans x2⟩
      congr 5
      exact decide_eq_decide.2 ⟨fun h => ⟨by omega, yafv.1 h⟩, fun h => yafv.2 h.2⟩
    · refine ⟨?_, x1⟩
      rw [decide_eq_false (fun h => hin (by omega))]
def cmpE (a b : El) : Int := if cmpS a.1 b.1 = 0 then cmpS a.2 b.2 else cmpS a.1 b.1
theorem yapt {a b : El} : cmpE a b < 0 ↔ LtE a b := by
  unfold cmpE LtE
  split
  · rename_i h; rw [yaiq]; have := yafv.1 h; omega
  · rename_i h; rw [yaiq]; have : a.1 ≠ b.1 := fun e => h (yafv.2 e); omega
theorem or_ok {h : Hp} {b : Nat} {x y : Int} {e : TypeId} (kb : Blk h b [.int .i64 x, .int .i64 y] e) :
    yaae Tryz.prog 172 #[.slice (some ⟨b, 0, none⟩) 2 2] h (fun v h' => v = .int .i64 (if x = 0 then y else x) ∧ h' = h) := by
  refine zad_call ?_
  rw [zad_b0]
  refine ⟨fun s h' => h' = h ∧ (s.1 = 0 ∨ (s.1 = 1 ∧ x = 0) ∨ (s.1 = 2 ∧ x = 0 ∧ y = 0)), fun s _ => 2 - s.1.toNat, ⟨rfl, .inl rfl⟩, ?_⟩
  rintro ⟨i, _⟩ h1 ⟨rfl, hi⟩
  dsimp only at hi ⊢
  rw [zad_b1]
  rcases hi with rfl | ⟨rfl, hx⟩ | ⟨rfl, hx, hy⟩
  · refine yaax rfl ⟨⟨by omega, by omega⟩, _, Blk.cellA kb 0, condN (fun hne => ?_) (fun he => ?_)⟩
    · exact ⟨by rw [if_neg hne], rfl⟩
    · rw [zad_b2]
      exact ⟨⟨by omega, by omega⟩, ⟨rfl, .inr (.inl ⟨rfl, he⟩)⟩, by decide⟩
  · refine yaax rfl ⟨⟨by omega, by omega⟩, _, Blk.cellA kb 1, condN (fun hne => ?_) (fun he => ?_)⟩
    · exact ⟨by rw [if_pos hx], rfl⟩
    · rw [zad_b2]
      exact ⟨⟨by omega, by omega⟩, ⟨rfl, .inr (.inr ⟨rfl, hx, he⟩)⟩, by decide⟩
  · refine yaam rfl ?_
    rw [zad_b3]
    exact ⟨by rw [if_pos hx, hy], rfl⟩
theorem yalz {a b : El} {h : Hp} {K : VK} (hK : ∀ h', Ext h h' → K (.int .i64 (cmpE a b)) h') :
    callX Tryz.prog F 148 #[.agg #[.int .i64 a.1, .int .i64 a.2], .agg #[.int .i64 b.1, .int .i64 b.2]] h K := by
  refine yacw (by kernel_rfl) (zci_call ?_)
  rw [zci_b0]
  refine (St.start h).new (cs := [.int .i64 a.1, .int .i64 a.2]) fun b1 h1 x1 s1 => ?_
  refine s1.new (cs := [.int .i64 b.1, .int .i64 b.2]) fun b2 h2 x2 s2 => ?_
  have k2 := s2.blk
  have k1 := s2.atomBlk
  refine ⟨_, k1.cell 0, _, k2.cell 0, _, yatg _ _ h2, _, Blk.cellA k1 1, _, Blk.cellA k2 1, _, yatg _ _ h2, ?_⟩
  refine s2.new (cs := [.int .i64 (cmpS a.1 b.1), .int .i64 (cmpS a.2 b.2)]) fun b3 h3 x3 s3 => ?_
  refine (or_ok s3.blk).mono fun v h4 ⟨hv, hh⟩ => ⟨_, hv, ?_⟩
  subst hh
  exact hK _ s3.ext
theorem ybbv {h : Hp} {p : OA} {n c t : Nat} {x : El} {l : List El} (r : RdT TL h p n l) (hn : n ≤ 1000000)
    (ht : t ≤ n ∧ (∀ j, j < t → LtE (l.getD j (0, 0)) x) ∧ ∀ j, t ≤ j → j < n → ¬ LtE (l.getD j (0, 0)) x) :
    yaae Tryz.prog 147 #[.slice p n c, .agg #[.int .i64 x.1, .int .i64 x.2], .func (.func 148) #[] #[]] h (fun v h' => ∃ b, v = .tuple #[.int .i64 (t : Int), .bool b] ∧ Ext h h') := by
  obtain ⟨htn, hlo, hhi⟩ := ht
  refine zdt_call ?_
  rw [zdt_b0]
  refine (St.start h).new (cs := [.int .i64 x.1, .int .i64 x.2]) fun b1 h1 x1 s1 => ?_
  have kb := s1.blk
  refine ⟨fun s h' => Ext h1 h' ∧ ∃ i j : Nat, s.1 = i ∧ s.2.1 = j ∧ i ≤ t ∧ t ≤ j ∧ j ≤ n, fun s _ => (s.2.1 - s.1).toNat, ⟨Ext.refl h1, 0, n, rfl, rfl, by omega, htn, by omega⟩, ?_⟩
  rintro ⟨_, _, _⟩ h2 ⟨x2, i, j, rfl, rfl, hit, htj, hjn⟩
  dsimp only
  rw [zdt_b1]
  have kb2 := kb.ext x2
  refine condP (fun hlt => ?_) (fun hge => ?_)
  · have e1 : IntKind.u64.wrap ((i : Int) + (j : Int)) = ((i + j : Nat) : Int) := by
      show ((i : Int) + (j : Int)) % 18446744073709551616 = _
      rw [Int.emod_eq_of_lt (by omega) (by omega)]; push_cast; rfl
    refine ⟨⟨by omega, by omega⟩, (((i + j) / 2 : Nat) : Int), ⟨by omega, ?_⟩, ⟨by omega, by omega⟩, ?_⟩
    · rw [e1]
      have : (2 : Int) ^ (min (Int.toNat 1) IntKind.u64.bits) = 2 := by decide
      rw [this]
      rw [Int.fdiv_eq_ediv_of_nonneg _ (by omega)]
      omega
    refine yarg (r.ext (x1.trans x2)) (by omega) (by omega) ⟨_, _, kb2.cell 0, Blk.cellA kb2 1, ?_⟩
    rw [Int.toNat_natCast]
    show callX Tryz.prog F 148 #[.agg #[.int .i64 (l.getD ((i + j) / 2) (0, 0)).1, .int .i64 (l.getD ((i + j) / 2) (0, 0)).2], .agg #[.int .i64 x.1, .int .i64 x.2]] _ _
    refine yalz fun h3 x3 => ⟨_, rfl, condP (fun h4 => ?_) (fun h4 => ?_)⟩
    · have : (i + j) / 2 < t := by
        rcases Nat.lt_or_ge ((i + j) / 2) t with h | h
        · exact h
        · exact absurd (yapt.1 h4) (hhi _ h (by omega))
      exact ⟨⟨by omega, by omega⟩, ⟨x2.trans x3, (i + j) / 2 + 1, j, by simp only; omega, rfl, by omega, htj, hjn⟩, by simp only; omega⟩
    · have : t ≤ (i + j) / 2 := by
        rcases Nat.lt_or_ge ((i + j) / 2) t with h | h
        · exact absurd (yapt.2 (hlo _ h)) h4
        · exact h
      exact ⟨⟨x2.trans x3, i, (i + j) / 2, rfl, rfl, hit, this, by omega⟩, by simp only; omega⟩
  · obtain rfl : i = t := by omega
    rw [zdt_b2]
    refine condP (fun hin => ?_) (fun hin => ?_)
    · refine yarg (r.ext (x1.trans x2)) (by omega) (by omega) ⟨_, _, kb2.cell 0, Blk.cellA kb2 1, ?_⟩
      rw [Int.toNat_natCast]
      show callX Tryz.prog F 148 #[.agg #[.int .i64 (l.getD i (0, 0)).1, .int .i64 (l.getD i (0, 0)).2], .agg #[.int .i64 x.1, .int .i64 x.2]] _ _
      exact yalz fun h3 x3 => ⟨_, rfl, rfl, _, rfl, (x1.trans x2).trans x3⟩
    · exact ⟨rfl, _, rfl, x1.trans x2⟩
end Go.Proofs.YtdlkohenamlnaaaGreat
/- A queue of priorities in the past: replaying. -/
namespace Go.Proofs.YtdlkohenamlnaaaGreat
open Go Go.Sx
def yatr (b : Nat) (l : List Ev) (A : Bag) : Prop :=
  ∃ (p : OA) (c : Nat) (e : OA) (ec : Nat) (r : OA) (rc : Nat) (A1 A2 A3 : Bag), A = cA b [.slice p l.length c, .slice e (nowD l l.length).length ec, .slice r (brS l).length rc] 96 + (A1 + (A2 + A3)) ∧
    Sl TA p l.length c l A1 ∧ Sl TL e (nowD l l.length).length ec (nowD l l.length) A2 ∧ Sl TI r (brS l).length rc (brS l) A3 ∧ nowAt l l.length = some (nowD l l.length)
def yavi (h : Hp) (p : OA) (c : Nat) (l : List Ev) (v : Value) (h' : Hp) : Prop :=
  (nowAt l l.length = none ∧ v = .tuple #[.pointer none, .bool false] ∧ Ext h h') ∨
  ∃ (b : Nat) (e : OA) (ec : Nat) (r : OA) (rc : Nat) (A2 A3 : Bag), v = .tuple #[.pointer (some ⟨b, 0, none⟩), .bool true] ∧ nowAt l l.length = some (nowD l l.length) ∧ Sl TL e (nowD l l.length).length ec (nowD l l.length) A2 ∧ Sl TI r (brS l).length rc (brS l) A3 ∧
    St h h' (cA b [.slice p l.length c, .slice e (nowD l l.length).length ec, .slice r (brS l).length rc] 96 + (A2 + A3))
theorem yapd {l : List Ev} {i j : Nat} (h : i ≤ j) (hn : nowAt l i = none) : nowAt l j = none := by
  cases hj : nowAt l j with
  | none => rfl
  | some now => obtain ⟨prev, hp⟩ := yahy h hj; rw [hn] at hp; cases hp
theorem yaqc {l : List Ev} {i : Nat} (hn : nowAt l i = some []) (hd : (l.getD i evD).2.2 = true) : nowAt l (i + 1) = none := by
  unfold nowAt; rw [hn]; change stepN [] i _ = _; unfold stepN; rw [hd]; rfl
theorem yapf {l : List Ev} {i : Nat} {x : El} {xs : List El} (hn : nowAt l i = some (x :: xs)) (hd : (l.getD i evD).2.2 = true) : nowAt l (i + 1) = some xs := by
  unfold nowAt; rw [hn]; change stepN (x :: xs) i _ = _; unfold stepN; rw [hd]; rfl
theorem yasn {l : List Ev} {i : Nat} {now : List El} (hn : nowAt l i = some now) (hd : (l.getD i evD).2.2 = false) : nowAt l (i + 1) = some (insE ((l.getD i evD).2.1, (i : Int)) now) := by
  unfold nowAt; rw [hn]; change stepN now i _ = _; unfold stepN; rw [hd]; rfl
theorem yatz {now : List El} {x : El} (hs : SrtE now) : (lowE x now).length ≤ now.length ∧ (∀ j, j < (lowE x now).length → LtE (now.getD j (0, 0)) x) ∧ ∀ j, (lowE x now).length ≤ j → j < now.length → ¬ LtE (now.getD j (0, 0)) x := by
  have hu := yaju (x := x) (l := now)
  refine ⟨yaxw, fun j hj => ?_, fun j hj hjl => ?_⟩
  · have hm : now.getD j (0, 0) ∈ lowE x now := by
      have : now.getD j (0, 0) = (lowE x now)[j] := by
        conv => lhs; rw [hu]
        simp [List.getD, List.getElem?_append_left hj, hj]
      rw [this]; exact List.getElem_mem hj
    exact yaqk _ hm
  · have hm : now.getD j (0, 0) ∈ upE x now := by
      have hd := yaqw (x := x) (l := now)
      have : now.getD j (0, 0) = now[j] := by simp [List.getD, hjl]
      rw [this, ← hd]
      exact List.mem_drop_iff_getElem.2 ⟨j - (lowE x now).length, by omega, by simp only [show (lowE x now).length + (j - (lowE x now).length) = j by omega]⟩
    exact yazv hs _ hm
section
variable {h : Hp} {p : OA} {c : Nat} {l : List Ev} (r : RdT TA h p l.length l) (hn : l.length ≤ 2000)
include r hn
theorem yalm {h1 : Hp} {b1 b2 : Nat} {e : OA} {ec : Nat} {o : List Int} {now : List El} {O A : Bag} (hnow : nowAt l l.length = some now) (op : OpenP l l.length o) (os : Sl TI (some ⟨b2, 0, none⟩) (l.length + 1) (l.length + 1) o O) (es : Sl TL e now.length ec now A)
    (s : St h h1 (cA b1 [.slice p l.length c, .slice e now.length ec, .slice none 0 0] 96 + (O + A))) :
    zcj_b3 p l.length c (some ⟨b1, 0, none⟩) (some ⟨b2, 0, none⟩) (l.length + 1) (l.length + 1) h1 (yavi h p c l) := by
  have hnd := yabl hnow
  rw [zcj_b3]
  refine ⟨fun x h' => ∃ (i : Nat) (q : OA) (qc : Nat) (B : Bag), x.2.1 = i ∧ i ≤ l.length ∧ x.1 = (o.take i).sum ∧ Sl TI q (brP l i).length qc (brP l i) B ∧ St h h' (cA b1 [.slice p l.length c, .slice e now.length ec, .slice q (brP l i).length qc] 96 + (O + (A + B))), fun x _ => l.length - x.2.1.toNat, ⟨0, none, 0, 0, rfl, by omega, rfl, Sl.nil, s.to⟩, ?_⟩
  rintro ⟨_, _, _⟩ h2 ⟨i, q, qc, B, rfl, hin, rfl, qs, s2⟩
  dsimp only
  rw [zcj_b4]
  have hol := op.len
  refine condP (fun hlt => ?_) (fun hge => ?_)
  · refine yalu (r.ext s2.ext) (by omega) (by omega) ?_
    rw [Int.toNat_natCast]
    refine s2.new (cs := [.int .i64 0, .int .i64 0, .bool false]) fun b3 h3 _ s3 => ?_
    refine s3.wr rfl (by simp) fun h4 s4 => ?_
    refine s4.wr (o := 1) (yaaj _ _ _) (by simp) fun h5 s5 => ?_
    refine s5.wr (o := 2) (yaaj _ _ _) (by simp) fun h6 s6 => ?_
    have s6 : St h h6 (cA b3 [.int .i64 (l.getD i evD).1, .int .i64 (l.getD i evD).2.1, .bool (l.getD i evD).2.2] 106 + (cA b1 [.slice p l.length c, .slice e now.length ec, .slice q (brP l i).length qc] 96 + (O + (A + B)))) := s6
    refine (os.rd (s6.at O)).int (by omega) (by omega) ?_
    rw [Int.toNat_natCast]
    have hps : (o.take (i + 1)).sum = (o.take i).sum + o.getD i 0 := by
      have hg : o.getD i 0 = o[i]'(by omega) := by rw [List.getD_eq_getElem?_getD, List.getElem?_eq_getElem (by omega)]; rfl
      rw [List.take_succ_eq_append_getElem (by omega), List.sum_append, hg]
      simp
    have hg := op.ps i (by omega)
    unfold psum at hg
    rw [Nat.min_eq_left (by omega)] at hg
    have hgl := yayk (a := nowD l (i + 1)) (b := nowD l l.length)
    obtain ⟨prev, hp⟩ := yahy (i := i + 1) (by omega) hnow
    have hpl := (yacs hp).2.1
    rw [yabl hp] at hgl
    rw [← yabl hp] at hgl
    have hpl : (nowD l (i + 1)).length ≤ i + 1 := by rw [yabl hp]; exact hpl
    rw [← hps]
    have hbs := yaww (l := l) (i := i)
    have kq := (s6.at (cA b1 [.slice p l.length c, .slice e now.length ec, .slice q (brP l i).length qc] 96)).blk
    refine ⟨⟨by omega, by omega⟩, condP (fun h0 => ?_) (fun h0 => ?_)⟩
    · rw [if_pos (by omega)] at hbs
      refine ⟨_, _, _, Blk.cellA kq 2, _, s6.blk.cell 0, ?_⟩
      have s6 := s6.drop
      refine s6.new (cs := [.int .i64 (l.getD i evD).1]) fun b4 h7 x7 s7 => ⟨⟨_, _, _, Blk.cellA (kq.ext x7) 2, rfl⟩, ?_⟩
      have sx : Sl TI (some ⟨b4, 0, none⟩) 1 1 [(l.getD i evD).1] (cA b4 [.int .i64 (l.getD i evD).1] 3) := Sl.of_blk (T := TI) (xs := [(l.getD i evD).1]) rfl rfl
      have s7' := s7.to (B := B + (cA b4 [.int .i64 (l.getD i evD).1] 3 + (cA b1 [.slice p l.length c, .slice e now.length ec, .slice q (brP l i).length qc] 96 + (O + A))))
      have hbl := yaur (l := l) (i := i)
      refine yaat yade s7' qs (sx.rd s7) (by omega) fun a1 c1 h8 B' qs' s8 => ?_
      have e1 : (brP l (i + 1)).length = (brP l i).length + 1 := by rw [hbs, List.length_append]; rfl
      rw [← e1, ← hbs] at qs'
      rw [← e1]
      have s8 := s8.to (B := cA b1 [.slice p l.length c, .slice e now.length ec, .slice q (brP l i).length qc] 96 + (cA b4 [.int .i64 (l.getD i evD).1] 3 + (O + (A + B'))))
      refine s8.wr (o := 2) (yaaj _ _ _) (by simp) fun h9 s9 => ?_
      have s9 : St h h9 (cA b1 [.slice p l.length c, .slice e now.length ec, .slice a1 (brP l (i + 1)).length c1] 96 + (cA b4 [.int .i64 (l.getD i evD).1] 3 + (O + (A + B')))) := s9
      rw [zcj_b5]
      refine ⟨⟨by omega, by omega⟩, ⟨i + 1, a1, c1, B', by simp only; omega, by omega, rfl, qs', ?_⟩, by simp only; omega⟩
      exact (s9.to (B := cA b4 [.int .i64 (l.getD i evD).1] 3 + (cA b1 [.slice p l.length c, .slice e now.length ec, .slice a1 (brP l (i + 1)).length c1] 96 + (O + (A + B'))))).drop
    · rw [if_neg (by omega), List.append_nil] at hbs
      rw [zcj_b5]
      refine ⟨⟨by omega, by omega⟩, ⟨i + 1, q, qc, B, by simp only; omega, by omega, rfl, by rw [hbs]; exact qs, by rw [hbs]; exact s6.drop⟩, by simp only; omega⟩
  · obtain rfl : i = l.length := by omega
    rw [zcj_b6]
    refine .inr ⟨b1, e, ec, q, qc, A, B, rfl, by rw [hnd]; exact hnow, by rw [hnd]; exact es, qs, ?_⟩
    rw [hnd]
    exact (s2.to (B := O + (cA b1 [.slice p l.length c, .slice e now.length ec, .slice q (brP l l.length).length qc] 96 + (A + B)))).drop
theorem yatp : yaae Tryz.prog 104 #[.slice p l.length c] h (yavi h p c l) := by
  refine zcj_call ?_
  rw [zcj_b0]
  refine (St.start h).new (cs := [.slice p l.length c, .slice none 0 0, .slice none 0 0]) fun b1 h1 _ s1 => ?_
  have e1 : Int.toNat ((l.length : Int) + 1) = l.length + 1 := by omega
  refine ⟨⟨by omega, by omega⟩, ⟨by omega, by omega, by omega, by omega⟩, ?_⟩
  rw [e1, Nat.mul_one]
  refine s1.new (cs := repL (l.length + 1) [.int .i64 0]) fun b2 h2 _ s2 => ?_
  have os0 : Sl TI (some ⟨b2, 0, none⟩) (l.length + 1) (l.length + 1) (List.replicate (l.length + 1) 0) (cA b2 (repL (l.length + 1) [.int .i64 0]) 3) :=
    Sl.of_blk (T := TI) (by rw [List.length_replicate]) (by rw [yapk, yawm, List.map_replicate])
  refine ⟨fun x h' => ∃ (i : Nat) (now : List El) (o : List Int) (e : OA) (ec : Nat) (O A : Bag), x.1 = i ∧ i ≤ l.length ∧ nowAt l i = some now ∧ OpenP l i o ∧ Sl TI (some ⟨b2, 0, none⟩) (l.length + 1) (l.length + 1) o O ∧ Sl TL e now.length ec now A ∧ St h h' (cA b1 [.slice p l.length c, .slice e now.length ec, .slice none 0 0] 96 + (O + A)), fun x _ => l.length - x.1.toNat, ⟨0, [], _, none, 0, _, 0, rfl, by omega, rfl, yarl, os0, Sl.nil, s2.to⟩, ?_⟩
  rintro ⟨_, _⟩ h3 ⟨i, now, o, e, ec, O, A, rfl, hin, hnow, op, os, es, s3⟩
  dsimp only
  rw [zcj_b1]
  have hol := op.len
  obtain ⟨n1, n2, n3⟩ := yacs hnow
  refine condP (fun hlt => ?_) (fun hge => ?_)
  · refine yalu (r.ext s3.ext) (by omega) (by omega) ?_
    rw [Int.toNat_natCast]
    refine s3.new (cs := [.int .i64 0, .int .i64 0, .bool false]) fun b3 h4 _ s4 => ?_
    refine s4.wr rfl (by simp) fun h5 s5 => ?_
    refine s5.wr (o := 1) (yaaj _ _ _) (by simp) fun h6 s6 => ?_
    refine s6.wr (o := 2) (yaaj _ _ _) (by simp) fun h7 s7 => ?_
    have s7 : St h h7 (cA b3 [.int .i64 (l.getD i evD).1, .int .i64 (l.getD i evD).2.1, .bool (l.getD i evD).2.2] 106 + (cA b1 [.slice p l.length c, .slice e now.length ec, .slice none 0 0] 96 + (O + A))) := s7
    have k3 := s7.blk
    refine ⟨_, Blk.cellA k3 2, yaay (fun hd => ?_) (fun hd => ?_)⟩
    · have s7 := s7.drop
      have kq := s7.blk
      refine ⟨_, _, _, Blk.cellA kq 1, condP (fun h0 => ?_) (fun h0 => ?_)⟩
      · have : now = [] := List.eq_nil_of_length_eq_zero (by omega)
        exact .inl ⟨yapd (i := i + 1) (by omega) (yaqc (by rw [hnow, this]) hd), rfl, s7.ext⟩
      · obtain ⟨x, xs, rfl⟩ : ∃ x xs, now = x :: xs := by
          cases now with
          | nil => exact absurd rfl h0
          | cons x xs => exact ⟨x, xs, rfl⟩
        have hx := (n3 x List.mem_cons_self).1
        have hnx := yapf hnow hd
        have op' := yaue (by omega) hnow hd op
        refine ⟨_, _, _, Blk.cellA kq 1, ?_⟩
        have s8 := s7.to (B := A + (cA b1 [.slice p l.length c, .slice e (x :: xs).length ec, .slice none 0 0] 96 + O))
        refine (es.rd s8).idx (i := 0) (by omega) (by rw [List.length_cons]; omega) fun a _ hc => ⟨x.2, hc 1 (show 1 < 2 by decide), ?_⟩
        have s9 := s7.to (B := O + (cA b1 [.slice p l.length c, .slice e (x :: xs).length ec, .slice none 0 0] 96 + A))
        refine (os.rd s9).int (by omega) (by omega) ⟨?_, ?_⟩
        · have hm : o.getD x.2.toNat 0 ∈ o := yaav (by omega)
          have := op.bnd _ hm
          exact ⟨by omega, by omega⟩
        refine os.wrI (x := o.getD x.2.toNat 0 + 1) s9 (by omega) (by omega) rfl rfl fun h8 O1 os1 s10 => ?_
        refine (os1.rd s10).int (by omega) (by omega) ⟨?_, ?_⟩
        · rw [Int.toNat_natCast]
          have hm : (o.set x.2.toNat (o.getD x.2.toNat 0 + 1)).getD i 0 ∈ o.set x.2.toNat (o.getD x.2.toNat 0 + 1) := yaav (by rw [List.length_set]; omega)
          rcases List.mem_or_eq_of_mem_set hm with h | h
          · have := op.bnd _ h; exact ⟨by omega, by omega⟩
          · have hm' : o.getD x.2.toNat 0 ∈ o := yaav (by omega)
            have := op.bnd _ hm'
            exact ⟨by omega, by omega⟩
        rw [Int.toNat_natCast]
        refine os1.wrI (x := (o.set x.2.toNat (o.getD x.2.toNat 0 + 1)).getD i 0 - 1) s10 (by omega) (by omega) rfl rfl fun h9 O2 os2 s11 => ?_
        rw [Int.toNat_natCast] at os2
        have s11 := s11.to (B := cA b1 [.slice p l.length c, .slice e (x :: xs).length ec, .slice none 0 0] 96 + (O2 + A))
        refine ⟨_, _, _, Blk.cellA s11.blk 1, ?_⟩
        rw [List.length_cons] at es n2 ⊢
        refine (yaqt (i := 0) (j := 1) (s11.to (B := A + (cA b1 [.slice p l.length c, .slice e (x :: xs).length ec, .slice none 0 0] 96 + O2))) es (by omega) rfl (by omega)).mono fun v1 h10 ⟨A', hv1, es', s12⟩ => ⟨_, _, _, hv1, ?_⟩
        have s12 := s12.to (B := cA b1 [.slice p l.length c, .slice e (x :: xs).length ec, .slice none 0 0] 96 + (O2 + A'))
        refine s12.wr (o := 1) (yaaj _ _ _) (by simp) fun h11 s13 => ?_
        have s13 : St h h11 (cA b1 [.slice p l.length c, .slice e (xs.length + 1 - 1) ec, .slice none 0 0] 96 + (O2 + A')) := s13
        rw [Nat.add_sub_cancel] at es' s13
        rw [zcj_b2]
        exact ⟨⟨by omega, by omega⟩, ⟨i + 1, xs, _, e, ec, O2, A', by simp only; omega, by omega, hnx, op', os2, es', s13⟩, by simp only; omega⟩
    · have hnx := yasn hnow hd
      have op' := yaua (by omega) hnow hd op
      refine ⟨_, Blk.cellA k3 1, ?_⟩
      have s7 := s7.drop
      refine s7.new (cs := [.int .i64 0, .int .i64 0]) fun b4 h8 _ s8 => ?_
      refine s8.wr rfl (by simp) fun h9 s9 => ?_
      refine s9.wr (o := 1) (yaaj _ _ _) (by simp) fun h10 s10 => ?_
      have s10 : St h h10 (cA b4 [.int .i64 (l.getD i evD).2.1, .int .i64 (i : Int)] 101 + (cA b1 [.slice p l.length c, .slice e now.length ec, .slice none 0 0] 96 + (O + A))) := s10
      have kq := s10.atomBlk
      have k4 := s10.blk
      refine ⟨_, _, _, Blk.cellA kq 1, _, _, k4.cell 0, Blk.cellA k4 1, ?_⟩
      have hpl := yatz (x := ((l.getD i evD).2.1, (i : Int))) n1
      have s10' := s10.to (B := A + (cA b4 [.int .i64 (l.getD i evD).2.1, .int .i64 (i : Int)] 101 + (cA b1 [.slice p l.length c, .slice e now.length ec, .slice none 0 0] 96 + O)))
      refine (ybbv (x := ((l.getD i evD).2.1, (i : Int))) (es.rd s10') (by omega) hpl).mono fun v1 h11 ⟨bb, hv1, x11⟩ => ⟨_, _, hv1, ?_⟩
      have s11 := s10.grow x11
      have kq := s11.atomBlk
      have k4 := s11.blk
      refine ⟨_, _, _, Blk.cellA kq 1, _, _, k4.cell 0, Blk.cellA k4 1, ?_⟩
      refine s11.new (cs := [.int .i64 (l.getD i evD).2.1, .int .i64 (i : Int)]) fun b5 h12 x12 s12 => ⟨⟨_, _, _, Blk.cellA (kq.ext x12) 1, rfl⟩, ?_⟩
      have s12 : St h h12 (A + (cA b5 [.int .i64 (l.getD i evD).2.1, .int .i64 (i : Int)] (TL).e + (cA b4 [.int .i64 (l.getD i evD).2.1, .int .i64 (i : Int)] 101 + (cA b1 [.slice p l.length c, .slice e now.length ec, .slice none 0 0] 96 + O)))) := s12.to
      refine (yaqz (x := ((l.getD i evD).2.1, (i : Int))) s12 es rfl hpl.1 (by omega)).mono fun v2 h13 ⟨e', ec', A', hv2, es', s13⟩ => ⟨_, _, _, hv2, ?_⟩
      have s13 := s13.to (B := cA b1 [.slice p l.length c, .slice e now.length ec, .slice none 0 0] 96 + ((cA b5 [.int .i64 (l.getD i evD).2.1, .int .i64 (i : Int)] (TL).e + cA b4 [.int .i64 (l.getD i evD).2.1, .int .i64 (i : Int)] 101) + (O + A')))
      refine s13.wr (o := 1) (yaaj _ _ _) (by simp) fun h14 s14 => ?_
      have s14 : St h h14 (cA b1 [.slice p l.length c, .slice e' (now.length + 1) ec', .slice none 0 0] 96 + ((cA b5 [.int .i64 (l.getD i evD).2.1, .int .i64 (i : Int)] (TL).e + cA b4 [.int .i64 (l.getD i evD).2.1, .int .i64 (i : Int)] 101) + (O + A'))) := s14
      rw [yaso, yaqw] at es'
      rw [← yasd (x := ((l.getD i evD).2.1, (i : Int))) (l := now)] at es' s14
      rw [zcj_b2]
      refine ⟨⟨by omega, by omega⟩, ⟨i + 1, _, _, e', ec', O, A', by simp only; omega, by omega, hnx, op', os, es', ?_⟩, by simp only; omega⟩
      exact (s14.to (B := (cA b5 [.int .i64 (l.getD i evD).2.1, .int .i64 (i : Int)] (TL).e + cA b4 [.int .i64 (l.getD i evD).2.1, .int .i64 (i : Int)] 101) + (cA b1 [.slice p l.length c, .slice e' (insE ((l.getD i evD).2.1, (i : Int)) now).length ec', .slice none 0 0] 96 + (O + A')))).drop
  · obtain rfl : i = l.length := by omega
    exact yalm r hn hnow op os es s3
end
end Go.Proofs.YtdlkohenamlnaaaGreat
/- A queue of priorities in the past: its methods. -/
namespace Go.Proofs.YtdlkohenamlnaaaGreat
open Go Go.Sx
def yaoj (h0 : Hp) (G : Bag) (b : Nat) (R : List Ev × Int) (v : Value) (h' : Hp) : Prop := v = .int .i64 R.2 ∧ ∃ A', yatr b R.1 A' ∧ St h0 h' (A' + G)
theorem yaoa (h : Hp) : yaae Tryz.prog 13 #[] h (fun v h' => ∃ b A, v = ptr b ∧ yatr b [] A ∧ St h h' A) := by
  refine zbz_call ?_
  rw [zbz_b0]
  refine (St.start h).new (cs := [.slice none 0 0, .slice none 0 0, .slice none 0 0]) fun b1 h1 _ s1 => ?_
  exact ⟨b1, _, rfl, ⟨none, 0, none, 0, none, 0, 0, 0, 0, rfl, Sl.nil, Sl.nil, Sl.nil, rfl⟩, s1.to⟩
section
variable {h0 h : Hp} {b : Nat} {l : List Ev} {A G : Bag} (qa : yatr b l A)
include qa
theorem yatr.good : nowAt l l.length = some (nowD l l.length) := by
  obtain ⟨_, _, _, _, _, _, _, _, _, _, _, _, _, hn⟩ := qa; exact hn
theorem yatj {l' : List Ev} {p : OA} {c : Nat} {B : Bag} (a : Sl TA p l'.length c l' B) (hl : l'.length ≤ 2000) (s : St h0 h (A + (B + G))) :
    yaae Tryz.prog 67 #[ptr b, .slice p l'.length c] h (yaoj h0 G b (chgP l l')) := by
  refine zcf_call ?_
  rw [zcf_b0]
  refine (yatp (a.rd (s.at B)) hl).mono fun v h1 hv => ?_
  rcases hv with ⟨hn, hv, x⟩ | ⟨nb, e, ec, r, rc, A2, A3, hv, hn, es, rs, t⟩
  · refine ⟨_, _, hv, yaax rfl ⟨?_, A, ?_, ?_⟩⟩
    · rw [chgP, hn]; rfl
    · rw [chgP, hn]; exact qa
    · exact ((s.grow x).to (B := B + (A + G))).drop
  · refine ⟨_, _, hv, yaam rfl ?_⟩
    obtain ⟨p0, c0, e0, ec0, r0, rc0, C1, C2, C3, rfl, _, _, _, _⟩ := qa
    have s1 := s.join t
    have kn := (s1.at (cA nb [.slice p l'.length c, .slice e (nowD l' l'.length).length ec, .slice r (brS l').length rc] 96)).blk
    refine ⟨_, _, _, _, _, _, _, _, _, kn.cell 0, Blk.cellA kn 1, Blk.cellA kn 2, ?_⟩
    have s1 := s1.to (B := cA b [.slice p0 l.length c0, .slice e0 (nowD l l.length).length ec0, .slice r0 (brS l).length rc0] 96 + ((cA nb [.slice p l'.length c, .slice e (nowD l' l'.length).length ec, .slice r (brS l').length rc] 96 + (C1 + (C2 + C3))) + (B + (A2 + A3) + G)))
    refine s1.wr rfl (by simp) fun h2 s2 => ?_
    refine s2.wr (o := 1) (yaaj _ _ _) (by simp) fun h3 s3 => ?_
    refine s3.wr (o := 2) (yaaj _ _ _) (by simp) fun h4 s4 => ?_
    have s4 : St h0 h4 (cA b [.slice p l'.length c, .slice e (nowD l' l'.length).length ec, .slice r (brS l').length rc] 96 + ((cA nb [.slice p l'.length c, .slice e (nowD l' l'.length).length ec, .slice r (brS l').length rc] 96 + (C1 + (C2 + C3))) + (B + (A2 + A3) + G))) := s4
    have e1 : chgP l l' = (l', 0) := by rw [chgP, hn]; rfl
    rw [e1]
    refine ⟨rfl, _, ⟨p, c, e, ec, r, rc, B, A2, A3, rfl, a, es, rs, hn⟩, ?_⟩
    exact (s4.to (B := (cA nb [.slice p l'.length c, .slice e (nowD l' l'.length).length ec, .slice r (brS l').length rc] 96 + (C1 + (C2 + C3))) + (cA b [.slice p l'.length c, .slice e (nowD l' l'.length).length ec, .slice r (brS l').length rc] 96 + (B + (A2 + A3)) + G))).drop
theorem yawi (ht : yajn l) (hl : l.length ≤ 2000) (t : Int) (s : St h0 h (A + G)) :
    yaae Tryz.prog 66 #[ptr b, .int .i64 t] h (fun v h' => v = .tuple #[.int .i64 (lowT t l : Int), .bool (hasT t l)] ∧ Ext h h') := by
  obtain ⟨p0, c0, e0, ec0, r0, rc0, C1, C2, C3, rfl, a1, _, _, _⟩ := qa
  have s1 := s.to (B := cA b [.slice p0 l.length c0, .slice e0 (nowD l l.length).length ec0, .slice r0 (brS l).length rc0] 96 + (C1 + (C2 + C3 + G)))
  refine zcg_call ?_
  rw [zcg_b0]
  refine ⟨_, _, _, s1.blk.cell 0, ?_⟩
  refine (ybbt (a1.rd (s1.at C1)) (by omega) (yajx (t := t) ht)).mono fun v h1 ⟨hv, x⟩ => ⟨_, _, hv, ?_, x⟩
  rfl
theorem yaug (s : St h0 h (A + G)) : ∃ p c C1 A', A = C1 + A' ∧ cell h ⟨b, 0, none⟩ = some (.slice p l.length c) ∧ Sl TA p l.length c l C1 := by
  obtain ⟨p0, c0, e0, ec0, r0, rc0, C1, C2, C3, rfl, a1, _, _, _⟩ := qa
  have s1 := s.to (B := cA b [.slice p0 l.length c0, .slice e0 (nowD l l.length).length ec0, .slice r0 (brS l).length rc0] 96 + (C1 + (C2 + C3 + G)))
  exact ⟨p0, c0, C1, cA b [.slice p0 l.length c0, .slice e0 (nowD l l.length).length ec0, .slice r0 (brS l).length rc0] 96 + (C2 + C3), by ac_rfl, s1.blk.cell 0, a1⟩
theorem yash {x : Ev} {p : OA} {c nb : Nat} {C : Bag} (hl : l.length < 2000) (a : Sl TA p l.length c l C) (hi : lowT x.1 l ≤ l.length) (s : St h0 h (A + (C + (cA nb [.int .i64 x.1, .int .i64 x.2.1, .bool x.2.2] 106 + G)))) :
    yaae Tryz.prog 98 #[.slice p l.length c, .int .i64 (lowT x.1 l : Int), .slice (some ⟨nb, 0, none⟩) 1 1] h fun v4 h6 => ∃ (r5 : OA) (rL2 rC2 : Nat), v4 = .slice r5 rL2 rC2 ∧
      yaae Tryz.prog 67 #[ptr b, .slice r5 rL2 rC2] h6 fun v5 h7 => ∃ r6 : Int, v5 = .int .i64 r6 ∧ yaoj h0 G b (chgP l (putT x l)) (.int .i64 r6) h7 := by
  have s1 : St h0 h (C + (cA nb [.int .i64 x.1, .int .i64 x.2.1, .bool x.2.2] (TA).e + (A + G))) := s.to
  refine (yarm (x := x) s1 a rfl hi (by omega)).mono fun v4 h1 ⟨p', c', A', hv4, a', s2⟩ => ⟨_, _, _, hv4, ?_⟩
  have e1 : l.length + 1 = (putT x l).length := yaxi.symm
  rw [e1] at a' ⊢
  have s2 := s2.to (B := cA nb [.int .i64 x.1, .int .i64 x.2.1, .bool x.2.2] (TA).e + (A + (A' + G)))
  exact (yatj qa a' (by rw [← e1]; omega) s2.drop).mono fun v5 h2 hv => ⟨_, hv.1, rfl, hv.2⟩
theorem yavs (ht : yajn l) (hl : l.length ≤ 2000) {x : Ev} (s : St h0 h (A + G)) :
    yaae Tryz.prog 60 #[ptr b, .agg #[.int .i64 x.1, .int .i64 x.2.1, .bool x.2.2]] h (yaoj h0 G b (addP l x)) := by
  refine zce_call ?_
  rw [zce_b0]
  refine s.new (cs := [.int .i64 x.1, .int .i64 x.2.1, .bool x.2.2]) fun nb h1 _ s1 => ?_
  have k1 := s1.blk
  refine ⟨_, k1.cell 0, (yain _ h1).mono fun v1 h2 ⟨hv1, hh⟩ => ⟨_, hv1, condN (fun hno => ?_) (fun hyes => ?_)⟩⟩
  · subst hh
    rw [addP, if_neg hno]
    exact ⟨rfl, A, qa, s1.drop⟩
  subst hh
  rw [addP, if_pos hyes]
  refine ⟨_, k1.cell 0, (yawi qa ht hl x.1 (s1.at A)).mono fun v2 h3 ⟨hv2, x3⟩ => ⟨_, _, hv2, ?_⟩⟩
  have s3 := s1.grow x3
  refine yaay (fun hf => ?_) (fun hf => ?_)
  · rw [if_pos hf]
    exact ⟨rfl, A, qa, s3.drop⟩
  rw [if_neg (by rw [hf]; simp)]
  obtain ⟨p, c, C1, A', rfl, hcell, a1⟩ := yaug qa (s3.at A)
  have hp := yajx (t := x.1) ht
  refine ⟨_, _, _, hcell, condP (fun hfull => ?_) (fun hfull => ?_)⟩
  · rw [if_pos (by omega)]
    exact ⟨rfl, _, qa, s3.drop⟩
  rw [if_neg (by omega), zce_b1]
  have k3 := s3.blk
  have r1 := a1.rd (s3.to (B := C1 + (A' + (cA nb [.int .i64 x.1, .int .i64 x.2.1, .bool x.2.2] 106 + G))))
  refine ⟨_, _, _, hcell, _, _, _, k3.cell 0, Blk.cellA k3 1, Blk.cellA k3 2, ?_, ?_⟩
  · refine (yalp r1 (by omega)).mono fun v3 h4 ⟨q, d, C, hv3, a3, t3⟩ => ⟨_, _, _, hv3, ?_⟩
    have s4 := s3.join t3
    have k4 := (s4.at (cA nb [.int .i64 x.1, .int .i64 x.2.1, .bool x.2.2] 106)).blk
    refine ⟨⟨_, _, _, k4.cell 0, Blk.cellA k4 1, Blk.cellA k4 2, rfl⟩, ?_⟩
    refine s4.new (cs := [.int .i64 x.1, .int .i64 x.2.1, .bool x.2.2]) fun nb2 h5 _ s5 => ?_
    exact yash qa (by omega) a3 hp.1 ((s5.to (B := cA nb [.int .i64 x.1, .int .i64 x.2.1, .bool x.2.2] 106 + (C1 + A' + (C + (cA nb2 [.int .i64 x.1, .int .i64 x.2.1, .bool x.2.2] 106 + G))))).drop)
  · refine s3.new (cs := [.int .i64 x.1, .int .i64 x.2.1, .bool x.2.2]) fun nb2 h5 x5 s5 => ⟨⟨_, _, _, x5.cell hcell, rfl⟩, ?_⟩
    refine (yalp (r1.ext x5) (by omega)).mono fun v3 h4 ⟨q, d, C, hv3, a3, t3⟩ => ⟨_, _, _, hv3, ?_⟩
    have s4 := s5.join t3
    exact yash qa (by omega) a3 hp.1 ((s4.to (B := cA nb [.int .i64 x.1, .int .i64 x.2.1, .bool x.2.2] 106 + (C1 + A' + (C + (cA nb2 [.int .i64 x.1, .int .i64 x.2.1, .bool x.2.2] 106 + G))))).drop)
theorem yaes (ht : yajn l) (hl : l.length ≤ 2000) {t k : Int} (s : St h0 h (A + G)) :
    yaae Tryz.prog 20 #[ptr b, .int .i64 t, .int .i64 k] h (yaoj h0 G b (insP l t k)) := by
  refine zcc_call ?_
  rw [zcc_b0]
  refine yaam rfl (condP (fun h1 => ?_) (fun h1 => condP (fun h2 => ?_) (fun h2 => ?_)))
  · rw [insP, if_neg (fun h => by have := h.1; omega)]; exact ⟨rfl, A, qa, s⟩
  · rw [insP, if_neg (fun h => by have := h.2; omega)]; exact ⟨rfl, A, qa, s⟩
  · rw [insP, if_pos ⟨by omega, by omega⟩, zcc_b1]
    exact (yavs qa ht hl (x := (t, k, false)) s).mono fun v h3 hv => ⟨_, hv.1, rfl, hv.2⟩
theorem yakd (ht : yajn l) (hl : l.length ≤ 2000) {t : Int} (s : St h0 h (A + G)) :
    yaae Tryz.prog 25 #[ptr b, .int .i64 t] h (yaoj h0 G b (delP l t)) := by
  refine zcb_call ?_
  rw [zcb_b0]
  exact yaam rfl ((yavs qa ht hl (x := (t, 0, true)) s).mono fun v h3 hv => ⟨_, hv.1, rfl, hv.2⟩)
theorem yasa (hl : l.length ≤ 2000) (s : St h0 h (A + G)) : yaae Tryz.prog 16 #[ptr b] h (fun v h' => ∃ q d B, v = .slice q (nowD l l.length).length d ∧ Sl TI q (nowD l l.length).length d ((nowD l l.length).map Prod.fst) B ∧ St h h' B) := by
  have hlen := (yacs qa.good).2.1
  obtain ⟨p0, c0, e0, ec0, r0, rc0, C1, C2, C3, rfl, _, a2, _, _⟩ := qa
  have s1 := s.to (B := cA b [.slice p0 l.length c0, .slice e0 (nowD l l.length).length ec0, .slice r0 (brS l).length rc0] 96 + (C2 + (C1 + C3 + G)))
  have r2 := a2.rd (s1.at C2)
  have kb := s1.blk
  generalize nowD l l.length = now at r2 kb hlen
  refine zcd_call ?_
  rw [zcd_b0]
  refine yaam rfl ⟨_, _, _, Blk.cellA kb 1, ?_⟩
  refine ⟨fun x h' => ∃ (i : Nat) (B : Bag), x.2.1 = i ∧ i ≤ now.length ∧ x.1.2.1 = i ∧ Sl TI x.1.1 i x.1.2.2 ((now.take i).map Prod.fst) B ∧ St h h' B, fun x _ => now.length - x.2.1.toNat, ⟨0, 0, rfl, by omega, rfl, Sl.nil, St.start h⟩, ?_⟩
  rintro ⟨⟨q, qn, d⟩, _, _⟩ h2 ⟨i, B, rfl, hin, hqn, o, t2⟩
  dsimp only at hqn o ⊢
  have hqn := hqn.symm
  subst hqn
  rw [zcd_b1]
  refine condP (fun hlt => ?_) (fun hge => ?_)
  · refine yarg (r2.ext t2.ext) (by omega) (by omega) ?_
    rw [Int.toNat_natCast]
    refine t2.new (cs := [.int .i64 0, .int .i64 0]) fun b3 h3 _ s3 => ?_
    refine s3.wr rfl (by simp) fun h4 s4 => ?_
    refine s4.wr (o := 1) (yaaj _ _ _) (by simp) fun h5 s5 => ?_
    refine ⟨_, s5.blk.cell 0, ?_⟩
    have s5 := s5.drop
    refine s5.new (cs := [.int .i64 (now.getD i (0, 0)).1]) fun b4 h6 _ s6 => ?_
    have sx : Sl TI (some ⟨b4, 0, none⟩) 1 1 [(now.getD i (0, 0)).1] (cA b4 [.int .i64 (now.getD i (0, 0)).1] 3) := Sl.of_blk (T := TI) (xs := [(now.getD i (0, 0)).1]) rfl rfl
    refine yaat yade (s6.to (B := B + (cA b4 [.int .i64 (now.getD i (0, 0)).1] 3 + 0))) o (sx.rd (s6.to (B := cA b4 [.int .i64 (now.getD i (0, 0)).1] 3 + B))) (by omega) fun q' d' h7 B' o' s7 => ?_
    rw [zcd_b2]
    refine ⟨⟨by omega, by omega⟩, ⟨i + 1, B', by simp only; omega, by omega, rfl, ?_, (s7.to (B := cA b4 [.int .i64 (now.getD i (0, 0)).1] 3 + B')).drop⟩, by simp only; omega⟩
    have e1 : now.take (i + 1) = now.take i ++ [now.getD i (0, 0)] := by rw [yaaf (by omega)]; exact List.take_succ_eq_append_getElem (by omega)
    rw [e1, List.map_append]
    exact o'
  · obtain rfl : i = now.length := by omega
    rw [List.take_of_length_le (Nat.le_refl _)] at o
    rw [zcd_b3]
    exact ⟨_, _, B, rfl, o, t2⟩
theorem yani (hl : l.length ≤ 2000) (s : St h0 h (A + G)) : yaae Tryz.prog 17 #[ptr b] h (fun v h' => ∃ q d B, v = .slice q (brS l).length d ∧ Sl TI q (brS l).length d (brS l) B ∧ St h h' B) := by
  obtain ⟨p0, c0, e0, ec0, r0, rc0, C1, C2, C3, rfl, _, _, a3, _⟩ := qa
  have s1 := s.to (B := cA b [.slice p0 l.length c0, .slice e0 (nowD l l.length).length ec0, .slice r0 (brS l).length rc0] 96 + (C3 + (C1 + C2 + G)))
  have hbl := yaur (l := l) (i := l.length)
  refine zca_call ?_
  rw [zca_b0]
  refine yaam rfl ⟨_, _, _, Blk.cellA s1.blk 2, ?_⟩
  have : (brS l).length ≤ l.length := hbl
  exact (yaca (a3.rd (s1.at C3)) (by omega)).mono fun v h1 ⟨q, d, B, hv, o, t⟩ => ⟨_, _, _, hv, q, d, B, rfl, o, t⟩
end
end Go.Proofs.YtdlkohenamlnaaaGreat
/- Steps on states: a write into the second block; a list with one more element, built of three appends. -/
namespace Go.Sx
open Go
variable {α : Type} {T : Ty α} {P : Program} {t : TypeId}
theorem St.app2 {h0 h : Hp} {p a1 : Option Addr} {n c i c1 bx : Nat} {xs : List α} {x : α} {B F : Bag} {cs : List Value} {k : Option Addr → Nat → Nat → Hp → Prop} (ok : ElOk T P t) (s : St h0 h (B + (cA bx cs T.e + F)))
    (o : Sl T a1 i c1 (xs.take i) B) (hx : cs = T.enc x) (r : ∀ h' F', St h0 h' (F' + F) → RdT T h' p n xs) (hi : i ≤ n) (hc : n ≤ c) (hn : n < 1000000)
    (hk : ∀ a d h' B', Sl T a (n + 1) d (xs.take i ++ x :: xs.drop i) B' → St h0 h' (B' + F) → k a (n + 1) d h') :
    yaan P t t (.slice a1 i c1) (.slice (some ⟨bx, 0, none⟩) 1 1) h (slK fun a2 l2 c2 h2 => ((0 ≤ (i : Int) ∧ (i : Int) ≤ (n : Int) ∧ (n : Int) ≤ (c : Int)) ∧ (.slice (yaab p c i T.sz) (n - i) (c - i) : Value) = .slice (yaab p c i T.sz) (n - i) (c - i)) ∧
      yaan P t t (.slice a2 l2 c2) (.slice (yaab p c i T.sz) (n - i) (c - i)) h2 (slK k)) := by
  have one : Sl T (some ⟨bx, 0, none⟩) 1 1 [x] (cA bx cs T.e) := Sl.one hx
  refine yaat ok s o (one.rd (s.to (B := cA bx cs T.e + (B + F)))) (by omega) fun a2 c2 h2 B2 o2 s2 => ?_
  refine ⟨⟨⟨by omega, by omega, by omega⟩, rfl⟩, ?_⟩
  have rs := (r h2 (B2 + cA bx cs T.e) s2.to).sub (i := i) (m := n - i) hi hc rfl
  refine yaat ok s2 o2 rs (by omega) fun a3 c3 h3 B3 o3 s3 => ?_
  have e : i + 1 + (n - i) = n + 1 := by omega
  rw [e] at o3 ⊢
  refine hk a3 c3 h3 B3 (by simpa using o3) ?_
  exact (s3.to (B := cA bx cs T.e + (B3 + F))).drop
theorem St.app3 {h0 h : Hp} {p a0 : Option Addr} {n c i c0 bx : Nat} {xs : List α} {x : α} {E F : Bag} {cs : List Value} {k : Option Addr → Nat → Nat → Hp → Prop} (ok : ElOk T P t) (s : St h0 h (E + (cA bx cs T.e + F)))
    (o : Sl T a0 0 c0 [] E) (hx : cs = T.enc x) (r : ∀ h' F', St h0 h' (F' + F) → RdT T h' p n xs) (hi : i ≤ n) (hc : n ≤ c) (hn : n < 1000000)
    (hk : ∀ a d h' B', Sl T a (n + 1) d (xs.take i ++ x :: xs.drop i) B' → St h0 h' (B' + F) → k a (n + 1) d h') :
    yaan P t t (.slice a0 0 c0) (.slice p i c) h (slK fun a1 l1 c1 h1 => ((0 ≤ (i : Int) ∧ (i : Int) ≤ (n : Int) ∧ (n : Int) ≤ (c : Int)) ∧ (.slice (yaab p c i T.sz) (n - i) (c - i) : Value) = .slice (yaab p c i T.sz) (n - i) (c - i)) ∧
      yaan P t t (.slice a1 l1 c1) (.slice (some ⟨bx, 0, none⟩) 1 1) h1 (slK fun a2 l2 c2 h2 => ((0 ≤ (i : Int) ∧ (i : Int) ≤ (n : Int) ∧ (n : Int) ≤ (c : Int)) ∧ (.slice (yaab p c i T.sz) (n - i) (c - i) : Value) = .slice (yaab p c i T.sz) (n - i) (c - i)) ∧
      yaan P t t (.slice a2 l2 c2) (.slice (yaab p c i T.sz) (n - i) (c - i)) h2 (slK k))) := by
  have rt := (r h (E + cA bx cs T.e) s.to).take hi
  refine yaat ok s o rt (by omega) fun a1 c1 h1 B1 o1 s1 => ?_
  rw [Nat.zero_add, List.nil_append] at o1
  rw [Nat.zero_add]
  exact ⟨⟨⟨by omega, by omega, by omega⟩, rfl⟩, St.app2 ok s1 o1 hx r hi hc hn hk⟩
end Go.Sx
/- The reference's queue: finding, adding, removing, the least, what is in it. -/
namespace Go.Proofs.YtdlkohenamlnaaaGreat
open Go Go.Sx
abbrev TV : Ty Ev := tEv 41
theorem yapo (z : Int) (h : Hp) : yaae Tryz.prog 11 #[.int .i64 z] h (fun v h' => v = .bool (decide (timeP z)) ∧ h' = h) := by
  refine zdq_call ?_
  rw [zdq_b0]
  refine condP (fun h1 => ⟨?_, rfl⟩) (fun h1 => ⟨?_, rfl⟩)
  · congr 1; exact decide_eq_decide.2 ⟨fun h => ⟨h1, h⟩, fun h => h.2⟩
  · rw [decide_eq_false (fun h => h1 h.1)]
section
variable {h : Hp} {p : OA} {n c : Nat} {l : List Ev} (r : RdT TV h p n l) (ht : yajn l) (hn : n ≤ 2000)
include r ht hn
end
end Go.Proofs.YtdlkohenamlnaaaGreat
/- The reference's queue: what is in it, changes, keys, bridges. -/
namespace Go.Proofs.YtdlkohenamlnaaaGreat
open Go Go.Sx
section
variable {h0 h : Hp} {p : OA} {c : Nat} {l : List Ev} {M G : Bag} (a : Sl TV p l.length c l M) (g : GoodQ l)
include a g
end
end Go.Proofs.YtdlkohenamlnaaaGreat
/- The reference's queue: keys, bridges. -/
namespace Go.Proofs.YtdlkohenamlnaaaGreat
open Go Go.Sx
end Go.Proofs.YtdlkohenamlnaaaGreat
/- slices.Clone, Insert of one element, Delete of one element. -/
namespace Go.Proofs.YtdlkohenamlnaaaGreat
open Go Go.Sx
theorem yaga : ElOk (tO) Tryz.prog 113 := yadl (by kernel_rfl)
theorem yamd {h : Hp} {p : OA} {n c : Nat} {xs : List OpT} (r : RdT (tO) h p n xs) (hn : n < 1000000) :
    yaae Tryz.prog 86 #[.slice p n c] h (fun v h' => ∃ q d A, v = .slice q n d ∧ Sl (tO) q n d xs A ∧ St h h' A) := by
  refine zdv_call ?_
  rw [zdv_b0]
  refine yaay (fun h1 => ?_) (fun h1 => ?_)
  · have hp : p = none := by cases p with | none => rfl | some a => cases h1
    subst hp
    obtain rfl : n = 0 := by
      rcases r.2 with h2 | ⟨a, h2, _⟩
      · exact h2
      · cases h2
    have : xs = [] := List.eq_nil_of_length_eq_zero r.1
    subst this
    exact ⟨_, _, 0, rfl, Sl.nil, St.start h⟩
  · refine (St.start h).new (cs := []) fun b h1 x s1 => ?_
    have o : Sl (tO) (some ⟨b, 0, none⟩) 0 0 [] (cA b [] (tO).e) := Sl.of_blk rfl rfl
    refine yaat yaga s1 o (r.ext x) (by omega) fun p' c' h' A' a' s' => ?_
    rw [List.nil_append, Nat.zero_add] at a'
    rw [Nat.zero_add]
    exact ⟨_, _, A', rfl, a', s'.to⟩
theorem yaom {h0 h : Hp} {p : OA} {n c i bv : Nat} {xs : List OpT} {x : OpT} {cs : List Value} {A F : Bag} (s : St h0 h (A + (cA bv cs (tO).e + F))) (a : Sl (tO) p n c xs A)
    (hcs : cs = (tO).enc x) (hi : i ≤ n) (hn : n < 1000000) :
    yaae Tryz.prog 85 #[.slice p n c, .int .i64 (i : Int), .slice (some ⟨bv, 0, none⟩) 1 1] h (fun v h' => ∃ p' c' A', v = .slice p' (n + 1) c' ∧ Sl (tO) p' (n + 1) c' (xs.take i ++ x :: xs.drop i) A' ∧ St h0 h' (A' + (cA bv cs (tO).e + F))) := by
  have hcap := a.cap
  have hlen := a.len
  have one : Sl (tO) (some ⟨bv, 0, none⟩) 1 1 [x] (cA bv cs (tO).e) := Sl.one hcs
  have rv : RdT (tO) h (some ⟨bv, 0, none⟩) 1 [x] := one.rd (s.to (B := cA bv cs (tO).e + (A + F)))
  refine zem_call ?_
  rw [zem_b0]
  refine ⟨⟨by omega, by omega, by omega⟩, yaam (by decide) ?_⟩
  have e1 : Int.toNat (i : Int) = i := Int.toNat_natCast i
  have e0 : Int.toNat (0 : Int) = 0 := rfl
  refine condP (fun h1 => ?_) (fun h1 => ?_)
  · have : i = n := by omega
    subst this
    refine yaat yaga s a rv (by omega) fun p' c' h' A' a' s' => ?_
    refine ⟨p', c', A', rfl, ?_, s'⟩
    rw [List.take_of_length_le (by omega), List.drop_eq_nil_of_le (by omega)]
    exact a'
  have hin : i < n := by omega
  have hti : ((tO).cells (xs.take i)).length = i * (tO).sz := by rw [(tO).cells_len, List.length_take]; congr 1; omega
  refine ⟨⟨by omega, by omega⟩, condP (fun h2 => ?_) (fun h2 => ?_)⟩
  · -- a new block
    have hcn : c < n + 1 := by omega
    refine ⟨⟨by omega, by omega, by omega⟩, ⟨by omega, by omega⟩, ⟨by omega, by omega⟩, ?_⟩
    rw [e0, e1, yaaz, Nat.sub_zero, Nat.sub_zero]
    have rt : RdT (tO) h p i (xs.take i) := (a.rd s).take (by omega)
    have el : (((n : Int) + ((1 : Nat) : Int)) - (i : Int)).toNat = n + 1 - i := by omega
    refine yabv yaga (by kernel_rfl) (by kernel_rfl) s rt (by omega) (by omega) (by omega) fun b c' h' mid rest hc' hm hr s1 => ?_
    rw [el] at hm hr hc' ⊢
    have hl2 : i + (n + 1 - i) = n + 1 := by omega
    rw [hl2] at hr hc' ⊢
    refine ⟨⟨by omega, by omega, by omega⟩, ?_⟩
    have e2 : Int.toNat (((n + 1 : Nat) : Nat) : Int) = n + 1 := Int.toNat_natCast _
    have e3 : Int.toNat ((i : Int) + ((1 : Nat) : Int)) = i + 1 := by omega
    have e4 : Int.toNat (n : Int) = n := Int.toNat_natCast _
    rw [e2, e3, e4]
    have es1 : yaab (some ⟨b, 0, none⟩) c' i (tO).sz = some ⟨b, i * (tO).sz, none⟩ := by rw [yaar (by omega), Nat.zero_add]
    have es2 : yaab (some ⟨b, 0, none⟩) c' (i + 1) (tO).sz = some ⟨b, (i + 1) * (tO).sz, none⟩ := by rw [yaar (by omega), Nat.zero_add]
    rw [show yaab (some ⟨b, 0, none⟩) c' i 2 = some ⟨b, i * (tO).sz, none⟩ from es1, show yaab (some ⟨b, 0, none⟩) c' (i + 1) 2 = some ⟨b, (i + 1) * (tO).sz, none⟩ from es2]
    have hm1 : mid.length = (tO).sz + (n - i) * (tO).sz := by rw [hm, show n + 1 - i = 1 + (n - i) by omega, Nat.add_mul, Nat.one_mul]
    have em : mid = mid.take (tO).sz ++ mid.drop (tO).sz := (List.take_append_drop _ _).symm
    have s2 : St h0 h' (cA b ((tO).cells (xs.take i) ++ mid.take (tO).sz ++ (mid.drop (tO).sz ++ rest)) (tO).e + (A + (cA bv cs (tO).e + F))) := by
      have e : (tO).cells (xs.take i) ++ mid.take (tO).sz ++ (mid.drop (tO).sz ++ rest) = (tO).cells (xs.take i) ++ mid ++ rest := by
        conv => rhs; rw [em]
        simp only [List.append_assoc]
      rw [e]; exact s1
    have rv2 : RdT (tO) h' (some ⟨bv, 0, none⟩) 1 [x] := one.rd (s2.to (B := cA bv cs (tO).e + (cA b _ _ + (A + F))))
    refine yabr (j := 1) yaga s2 rv2 hti (by omega) (by rw [List.length_take]; omega) fun v1 h3 s3 => ?_
    refine ⟨⟨by omega, by omega⟩, ⟨by omega, by omega, by omega⟩, ⟨by omega, by omega, by omega⟩, ?_⟩
    rw [(tO).cells_one] at s3
    have s4 : St h0 h3 (cA b (((tO).cells (xs.take i) ++ (tO).enc x) ++ mid.drop (tO).sz ++ rest) (tO).e + (A + (cA bv cs (tO).e + F))) := by
      have e : ((tO).cells (xs.take i) ++ (tO).enc x) ++ mid.drop (tO).sz ++ rest = (tO).cells (xs.take i) ++ (tO).enc x ++ (mid.drop (tO).sz ++ rest) := by simp only [List.append_assoc]
      rw [e]; exact s3
    have ra : RdT (tO) h3 p n xs := a.rd (s4.to (B := A + (cA b _ _ + (cA bv cs (tO).e + F))))
    have rs := ra.sub hi hcap rfl
    refine yabr (j := n - i) yaga s4 rs (by rw [List.length_append, hti, (tO).len, Nat.add_mul, Nat.one_mul]) (by omega) (by rw [List.length_drop, hm1, Nat.add_sub_cancel_left]) fun v2 h4 s5 => ?_
    refine ⟨_, _, _, rfl, ⟨by simp; omega, .inr ⟨b, rest, rfl, hc', hr, rfl⟩⟩, ?_⟩
    rw [(tO).cells_append, (tO).cells_cons]
    have e : (tO).cells (xs.take i) ++ ((tO).enc x ++ (tO).cells (xs.drop i)) ++ rest = (tO).cells (xs.take i) ++ (tO).enc x ++ (tO).cells (xs.drop i) ++ rest := by simp only [List.append_assoc]
    rw [e]
    exact (s5.to (B := A + (cA b _ _ + (cA bv cs (tO).e + F)))).drop
  · -- in place
    have hcn : n + 1 ≤ c := by omega
    rcases a with ⟨hl, ⟨rfl, h3, _, _⟩ | ⟨b, rest, rfl, hc, hr, rfl⟩⟩
    · omega
    have a : Sl (tO) (some ⟨b, 0, none⟩) n c xs (cA b ((tO).cells xs ++ rest) (tO).e) := ⟨hl, .inr ⟨b, rest, rfl, hc, hr, rfl⟩⟩
    have e3 : Int.toNat ((i : Int) + ((1 : Nat) : Int)) = i + 1 := by omega
    have e4 : Int.toNat (n : Int) = n := Int.toNat_natCast _
    have e5 : Int.toNat ((n : Int) + ((1 : Nat) : Int)) = n + 1 := by omega
    have e6 : Int.toNat (((n + 1 : Nat) : Nat) : Int) = n + 1 := Int.toNat_natCast _
    simp only [e0, e1, e3, e4, e5, e6, yaaz, Nat.sub_zero]
    refine ⟨⟨by omega, by omega⟩, ⟨by omega, by omega, by omega⟩, ⟨by omega, by omega⟩, ⟨by omega, by omega, by omega⟩, ?_⟩
    have es1 : yaab (some ⟨b, 0, none⟩) c (i + 1) (tO).sz = some ⟨b, (i + 1) * (tO).sz, none⟩ := by rw [yaar (by omega), Nat.zero_add]
    rw [show yaab (some ⟨b, 0, none⟩) c (i + 1) 2 = some ⟨b, (i + 1) * (tO).sz, none⟩ from es1]
    obtain ⟨i0, z, hi0, hz, hzs, hzc, hbt⟩ := (yaga).info
    have hrl : (tO).sz ≤ rest.length := by rw [hr]; calc (tO).sz = 1 * (tO).sz := (Nat.one_mul _).symm
                                              _ ≤ (c - n) * (tO).sz := Nat.mul_le_mul_right _ (by omega)
    have er : rest = rest.take (tO).sz ++ rest.drop (tO).sz := (List.take_append_drop _ _).symm
    refine yadf ybbp (t := 113) (e := 25) (by kernel_rfl) (by kernel_rfl) hi0 (s.to (B := cA bv cs (tO).e + (cA b _ _ + F))) ⟨_, rfl, ?_⟩
    refine ⟨⟨by omega, by omega⟩, ⟨by omega, by omega, by omega⟩, ⟨by omega, by omega, by omega⟩, ?_⟩
    -- the elements from i on move by one
    have hdl : ((tO).cells (xs.drop i)).length = (n - i) * (tO).sz := by rw [(tO).cells_len, List.length_drop, hl]
    have hd1l : ((tO).cells (xs.drop (i + 1))).length = (n - (i + 1)) * (tO).sz := by rw [(tO).cells_len, List.length_drop, hl]
    have ht1 : ((tO).cells (xs.take (i + 1))).length = (i + 1) * (tO).sz := by rw [(tO).cells_len, List.length_take]; congr 1; omega
    have s1 : St h0 h (cA b ((tO).cells (xs.take (i + 1)) ++ ((tO).cells (xs.drop (i + 1)) ++ rest.take (tO).sz) ++ rest.drop (tO).sz) (tO).e + (cA bv cs (tO).e + F)) := by
      have e : (tO).cells (xs.take (i + 1)) ++ ((tO).cells (xs.drop (i + 1)) ++ rest.take (tO).sz) ++ rest.drop (tO).sz = (tO).cells xs ++ rest := by
        rw [List.append_assoc, List.append_assoc, ← er, ← List.append_assoc, ← (tO).cells_append, List.take_append_drop]
      rw [e]; exact s
    have rx : RdT (tO) h (some ⟨b, 0, none⟩) n xs := a.rd s
    have rs : RdT (tO) h (yaab (some ⟨b, 0, none⟩) c i (tO).sz) (n - i) (xs.drop i) := rx.sub hi hcap rfl
    refine yabr (j := n - i) yaga s1 rs ht1 (by omega) (by rw [List.length_append, hd1l, List.length_take, Nat.min_eq_left hrl, show n - i = (n - (i + 1)) + 1 by omega, Nat.add_mul, Nat.one_mul]) fun v4 h5 s5 => ?_
    refine ⟨⟨by omega, by omega, by omega⟩, ?_⟩
    have es2 : yaab (some ⟨b, 0, none⟩) c i (tO).sz = some ⟨b, i * (tO).sz, none⟩ := by rw [yaar (by omega), Nat.zero_add]
    rw [show yaab (some ⟨b, 0, none⟩) c i 2 = some ⟨b, i * (tO).sz, none⟩ from es2]
    have s6 : St h0 h5 (cA b ((tO).cells (xs.take i) ++ (tO).enc xs[i] ++ ((tO).cells (xs.drop i) ++ rest.drop (tO).sz)) (tO).e + (cA bv cs (tO).e + F)) := by
      have e : (tO).cells (xs.take i) ++ (tO).enc xs[i] ++ ((tO).cells (xs.drop i) ++ rest.drop (tO).sz) = (tO).cells (xs.take (i + 1)) ++ (tO).cells (xs.drop i) ++ rest.drop (tO).sz := by
        rw [List.take_succ_eq_append_getElem (by omega), (tO).cells_append, (tO).cells_one]; simp only [List.append_assoc]
      rw [e]; exact s5
    have rv5 : RdT (tO) h5 (some ⟨bv, 0, none⟩) 1 [x] := one.rd (s6.to (B := cA bv cs (tO).e + (cA b _ _ + F)))
    refine yabr (j := 1) yaga s6 rv5 hti (by omega) (by rw [(tO).len, Nat.one_mul]) fun v5 h6 s7 => ?_
    refine ⟨_, _, _, rfl, ⟨by simp; omega, .inr ⟨b, rest.drop (tO).sz, rfl, hcn, ?_, rfl⟩⟩, ?_⟩
    · rw [List.length_drop, hr, show c - n = (c - (n + 1)) + 1 by omega, Nat.add_mul, Nat.one_mul]; omega
    · rw [(tO).cells_one] at s7
      rw [(tO).cells_append, (tO).cells_cons]
      have e : (tO).cells (xs.take i) ++ ((tO).enc x ++ (tO).cells (xs.drop i)) ++ rest.drop (tO).sz = (tO).cells (xs.take i) ++ (tO).enc x ++ ((tO).cells (xs.drop i) ++ rest.drop (tO).sz) := by simp only [List.append_assoc]
      rw [e]
      exact s7
theorem yaow {h0 h : Hp} {p : OA} {n c i : Nat} {j : Int} {xs : List OpT} {A F : Bag} (s : St h0 h (A + F)) (a : Sl (tO) p n c xs A) (hi : i < n) (hj : j = (i : Int) + 1) (hn : n < 1000000) :
    yaae Tryz.prog 87 #[.slice p n c, .int .i64 (i : Int), .int .i64 j] h (fun v h' => ∃ A', v = .slice p (n - 1) c ∧ Sl (tO) p (n - 1) c (xs.take i ++ xs.drop (i + 1)) A' ∧ St h0 h' (A' + F)) := by
  obtain rfl : j = ((i + 1 : Nat) : Int) := by omega
  have hcap := a.cap
  have hlen := a.len
  have rd := a.rd s
  refine zed_call ?_
  rw [zed_b0]
  refine yaty (yaga).el (by omega) (by omega) hcap fun _ => condP (fun h1 => by omega) (fun _ => ?_)
  have e1 : Int.toNat (i : Int) = i := Int.toNat_natCast i
  have e2 : Int.toNat ((i + 1 : Nat) : Int) = i + 1 := Int.toNat_natCast _
  have e3 : Int.toNat (n : Int) = n := Int.toNat_natCast _
  have e0 : Int.toNat (0 : Int) = 0 := rfl
  refine ⟨⟨by omega, by omega, by omega⟩, ⟨by omega, by omega, by omega⟩, ?_⟩
  rw [e0, e1, e2, e3, yaaz, Nat.sub_zero, Nat.sub_zero]
  rcases a with ⟨hl, ⟨rfl, h3, _, _⟩ | ⟨b, rest, rfl, hc, hr, rfl⟩⟩
  · omega
  have hti : ((tO).cells (xs.take i)).length = i * (tO).sz := by rw [(tO).cells_len, List.length_take]; congr 1; omega
  have hdl : ((tO).cells (xs.drop i)).length = (n - i) * (tO).sz := by rw [(tO).cells_len, List.length_drop, hl]
  have hd1l : ((tO).cells (xs.drop (i + 1))).length = (n - (i + 1)) * (tO).sz := by rw [(tO).cells_len, List.length_drop, hl]
  have s1 : St h0 h (cA b ((tO).cells (xs.take i) ++ ((tO).cells (xs.drop i)).take ((n - (i + 1)) * (tO).sz) ++ (((tO).cells (xs.drop i)).drop ((n - (i + 1)) * (tO).sz) ++ rest)) (tO).e + F) := by
    have e : (tO).cells (xs.take i) ++ ((tO).cells (xs.drop i)).take ((n - (i + 1)) * (tO).sz) ++ (((tO).cells (xs.drop i)).drop ((n - (i + 1)) * (tO).sz) ++ rest) = (tO).cells xs ++ rest := by
      rw [List.append_assoc, ← List.append_assoc _ _ rest, List.take_append_drop, ← List.append_assoc, ← (tO).cells_append, List.take_append_drop]
    rw [e]; exact s
  have hle : (n - (i + 1)) * (tO).sz ≤ (n - i) * (tO).sz := Nat.mul_le_mul_right _ (by omega)
  refine yacr yaga s1 hti (by rw [List.length_take, hdl]; omega) (rd.sub (by omega) hcap rfl) (by omega) fun h' s2 => ?_
  refine ⟨⟨by omega, by omega, by omega⟩, ?_⟩
  have e4 : Int.toNat ((i + (n - (i + 1)) : Nat) : Int) = n - 1 := by omega
  have e5 : i + (n - (i + 1)) = n - 1 := by omega
  rw [e4, show yaab (some ⟨b, 0, none⟩) c (n - 1) 2 = some ⟨b, (n - 1) * (tO).sz, none⟩ by rw [show yaab (some ⟨b, 0, none⟩) c (n - 1) 2 = yaab (some ⟨b, 0, none⟩) c (n - 1) (tO).sz from rfl, yaar (by omega), Nat.zero_add]]
  rw [← (tO).cells_append, ← List.append_assoc] at s2
  have hl1 : (xs.take i ++ xs.drop (i + 1)).length = n - 1 := by rw [List.length_append, List.length_take, List.length_drop]; omega
  have hn1 : n - (n - 1) = 1 := by omega
  refine yaie yaga s2 (by rw [(tO).cells_len, hl1]) (by
    rw [List.length_drop, hdl, ← Nat.sub_mul]; congr 1; omega) fun h2 zs hzl s3 => ?_
  rw [e5]
  refine ⟨_, rfl, ⟨hl1, .inr ⟨b, zs ++ rest, rfl, by omega, ?_, rfl⟩⟩, ?_⟩
  · rw [List.length_append, hzl, hr, ← Nat.add_mul]; congr 1; omega
  · rw [← List.append_assoc]; exact s3
end Go.Proofs.YtdlkohenamlnaaaGreat
