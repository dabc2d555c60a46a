/- Part X3 X4 X5 B31 B32 B33 B34 B35 FB2 of the proof: contracts of functions of the program, and what follows from them. -/
import Derived.Test.YtaemnjblcpknpaaSxX2
/- Layer 3: states, rows, the reference's small functions. -/
set_option maxRecDepth 100000
namespace Go.Proofs.Ytaemnjblcpknpaa
open Go Go.Sx
abbrev RowP (s : SH) (l : List Int) (A : Bag) : Prop := Sl TI s.1 s.2.1 s.2.2 l A
abbrev RowsA : SH → List (List Int) → Bag → Prop := Nest 38 RowP
abbrev TR : Ty SH := tS 38
theorem ok_row : ElOk TR Try.prog 82 := elB_spec (by kernel_rfl)
/-- 'out = append(out, x)' of a slice x, with something read between. -/
theorem push_nestR {h0 h : Hp} {p : Option Addr} {n c : Nat} {q : Option Addr} {m d : Nat} {xs : List (List Int)} {x : List Int} {A B G : Bag} {R : Hp → Prop} {e' : TypeId} {k : Option Addr → Nat → Nat → Hp → Prop}
    (s : St h0 h (A + (B + G))) (a : RowsA (p, n, c) xs A) (b : RowP (q, m, d) x B) (he : e' = 38) (hn : n + 1 < 1073741824) (hR : ∀ h1, Ext h h1 → R h1)
    (hk : ∀ p' c' h' A', RowsA (p', n + 1, c') (xs ++ [x]) A' → St h0 h' (A' + G) → k p' (n + 1) c' h') :
    New h (.cells #[.slice q m d] e') fun b h1 => R h1 ∧ appendV Try.prog 82 82 (.slice p n c) (.slice (some ⟨b, 0, none⟩) 1 1) h1 (slK k) := by
  subst he
  obtain ⟨hs, B0, B1, rfl, h1, h2⟩ := a
  refine s.new (cs := [.slice q m d]) fun b h3 x3 s3 => ⟨hR h3 x3, ?_⟩
  have sx : Sl TR (some ⟨b, 0, none⟩) 1 1 [(q, m, d)] (cA b [.slice q m d] 38) := Sl.of_blk (T := TR) (xs := [(q, m, d)]) rfl rfl
  refine append_sl ok_row (s3.to (B := B0 + (cA b [.slice q m d] 38 + (B1 + (B + G))))) h1 (sx.rd s3) hn fun p' c' h' A' a' s' => ?_
  have s5 := (s'.to (B := cA b [.slice q m d] 38 + (A' + (B1 + B) + G))).drop
  exact hk p' c' h' (A' + (B1 + B)) ⟨hs ++ [(q, m, d)], A', B1 + B, rfl, a', h2.append (AllH.one ‹RowP (q, m, d) x B›)⟩ s5
theorem rows_len {s : SH} {xs : List (List Int)} {B : Bag} (n : RowsA s xs B) : xs.length = s.2.1 := Nest.len n
/-- An entry of a row is read. -/
theorem rows_get {h0 h : Hp} {p : Option Addr} {n c : Nat} {rows : List (List Int)} {B G : Bag} {i j : Int} {Q : Int → Prop} (na : RowsA (p, n, c) rows B) (st : St h0 h (B + G)) (hi0 : 0 ≤ i) (hi : i < n) (hj0 : 0 ≤ j) (hj : j < (rows.getD i.toNat []).length)
    (hq : Q ((rows.getD i.toNat []).getD j.toNat 0)) : (0 ≤ i ∧ i < (n : Int)) ∧ NN p fun a => ∃ (a8 : Option Addr) (L5 C5 : Nat), cell h (a.add (i.toNat * 1)) = some (.slice a8 L5 C5) ∧ (0 ≤ j ∧ j < (L5 : Int)) ∧ NN a8 fun a9 => ∃ n4 : Int, cell h (a9.add (j.toNat * 1)) = some (.int .i64 n4) ∧ Q n4 := by
  refine Nest.at_ (d := []) na st hi0 hi fun q l d Bi Br o hB => ?_
  have o : Sl TI q l d (rows.getD i.toNat []) Bi := o
  have hl := o.len
  have st2 : St h0 h (Bi + (Br + G)) := by rw [hB] at st; exact st.to
  exact (o.rd st2).int hj0 (by omega) hq
theorem row_ok {h : Hp} {p : Option Addr} {n c : Nat} {xs : List Int} (r : RdT TI h p n xs) (hn : n ≤ 1000000) : HCalls Try.prog 96 #[.slice p n c] h (fun v h' => ∃ q d A, v = .slice q n d ∧ Sl TI q n d xs A ∧ St h h' A) := by
  refine r03_row_call ?_
  rw [r03_row_b0_eq]
  refine (St.start h).new (cs := []) fun b1 h1 x1 s1 => ?_
  refine append_sl ok_int s1 (Sl.of_blk (T := TI) (xs := []) rfl rfl) (r.ext x1) (by omega) fun a1 c1 h2 A o s2 => ?_
  rw [Nat.zero_add, List.nil_append] at o
  rw [Nat.zero_add]
  exact ⟨_, _, A, rfl, o, s2.to⟩
theorem yield_ok {k z : Int} {h : Hp} {p : Option Addr} {n c : Nat} : HCalls Try.prog 97 #[.agg #[.int .i64 k, .slice p n c], .int .i64 z] h (fun v h' => v = .tuple #[.agg #[.int .i64 k, .slice p n c], .agg #[.int .i64 0, .int .i64 z, .slice none 0 0]] ∧ Ext h h') := by
  refine r03_yield_call ?_
  rw [r03_yield_b0_eq]
  refine (St.start h).new (cs := [.int .i64 k, .slice p n c]) fun b1 h1 _ s1 => ?_
  refine s1.new (cs := [.int .i64 0, .slice none 0 0]) fun b2 h2 _ s2 => ?_
  refine s2.new (cs := [.int .i64 0, .int .i64 0, .slice none 0 0]) fun b3 h3 _ s3 => ?_
  have kb1 := (s3.at (cA b1 [.int .i64 k, .slice p n c] 108)).blk
  refine ⟨_, _, _, _, kb1.cell 0, Blk.cellA kb1 1, ?_⟩
  have s3 := s3.to (B := cA b2 [.int .i64 0, .slice none 0 0] 108 + (cA b3 [.int .i64 0, .int .i64 0, .slice none 0 0] 61 + (cA b1 [.int .i64 k, .slice p n c] 108 + 0)))
  refine s3.wr rfl (by simp) fun h4 s4 => ?_
  refine s4.wr (o := 1) (add_mk _ _ _) (by simp) fun h5 s5 => ?_
  have s5 : St h h5 (cA b2 [.int .i64 k, .slice p n c] 108 + (cA b3 [.int .i64 0, .int .i64 0, .slice none 0 0] 61 + (cA b1 [.int .i64 k, .slice p n c] 108 + 0))) := s5
  have s5 := s5.to (B := cA b3 [.int .i64 0, .int .i64 0, .slice none 0 0] 61 + (cA b2 [.int .i64 k, .slice p n c] 108 + (cA b1 [.int .i64 k, .slice p n c] 108 + 0)))
  refine s5.wr rfl (by simp) fun h6 s6 => ?_
  refine s6.wr (o := 1) (add_mk _ _ _) (by simp) fun h7 s7 => ?_
  refine s7.wr (o := 2) (add_mk _ _ _) (by simp) fun h8 s8 => ?_
  have kb2 := s8.atomBlk
  exact ⟨_, _, _, _, kb2.cell 0, Blk.cellA kb2 1, _, _, _, _, _, s8.blk.cell 0, Blk.cellA s8.blk 1, Blk.cellA s8.blk 2, rfl, s8.ext⟩
theorem fail_ok {k z : Int} {h : Hp} {p : Option Addr} {n c : Nat} : HCalls Try.prog 98 #[.agg #[.int .i64 k, .slice p n c], .int .i64 z] h (fun v h' => v = .tuple #[.agg #[.int .i64 k, .slice p n c], .agg #[.int .i64 z, .int .i64 0, .slice none 0 0]] ∧ Ext h h') := by
  refine r03_fail_call ?_
  rw [r03_fail_b0_eq]
  refine (St.start h).new (cs := [.int .i64 k, .slice p n c]) fun b1 h1 _ s1 => ?_
  refine s1.new (cs := [.int .i64 0, .slice none 0 0]) fun b2 h2 _ s2 => ?_
  refine s2.new (cs := [.int .i64 0, .int .i64 0, .slice none 0 0]) fun b3 h3 _ s3 => ?_
  have kb1 := (s3.at (cA b1 [.int .i64 k, .slice p n c] 108)).blk
  refine ⟨_, _, _, _, kb1.cell 0, Blk.cellA kb1 1, ?_⟩
  have s3 := s3.to (B := cA b2 [.int .i64 0, .slice none 0 0] 108 + (cA b3 [.int .i64 0, .int .i64 0, .slice none 0 0] 61 + (cA b1 [.int .i64 k, .slice p n c] 108 + 0)))
  refine s3.wr rfl (by simp) fun h4 s4 => ?_
  refine s4.wr (o := 1) (add_mk _ _ _) (by simp) fun h5 s5 => ?_
  have s5 : St h h5 (cA b2 [.int .i64 k, .slice p n c] 108 + (cA b3 [.int .i64 0, .int .i64 0, .slice none 0 0] 61 + (cA b1 [.int .i64 k, .slice p n c] 108 + 0))) := s5
  have s5 := s5.to (B := cA b3 [.int .i64 0, .int .i64 0, .slice none 0 0] 61 + (cA b2 [.int .i64 k, .slice p n c] 108 + (cA b1 [.int .i64 k, .slice p n c] 108 + 0)))
  refine s5.wr rfl (by simp) fun h6 s6 => ?_
  refine s6.wr (o := 1) (add_mk _ _ _) (by simp) fun h7 s7 => ?_
  refine s7.wr (o := 2) (add_mk _ _ _) (by simp) fun h8 s8 => ?_
  have kb2 := s8.atomBlk
  exact ⟨_, _, _, _, kb2.cell 0, Blk.cellA kb2 1, _, _, _, _, _, s8.blk.cell 0, Blk.cellA s8.blk 1, Blk.cellA s8.blk 2, rfl, s8.ext⟩
/-- put: one more row. -/
theorem sput_ok {h0 h : Hp} {p : Option Addr} {n c i : Nat} {hs : List SH} {x : SH} {B0 G : Bag} (s : St h0 h (B0 + G)) (a : Sl TR p n c hs B0) (hi : i ≤ n) (hn : n ≤ 1000000) :
    HCalls Try.prog 99 #[.slice p n c, .int .i64 (i : Int), .slice x.1 x.2.1 x.2.2] h (fun v h' => ∃ q d B', v = .slice q (n + 1) d ∧ Sl TR q (n + 1) d (hs.take i ++ x :: hs.drop i) B' ∧ St h0 h' (B' + G)) := by
  have hlen := a.len
  have hcap := a.cap
  refine r03_put_call ?_
  rw [r03_put_b0_eq]
  refine s.new (cs := []) fun b1 h1 _ s1 => ⟨⟨by omega, by omega, by omega⟩, ?_⟩
  have e0 : Int.toNat (0 : Int) = 0 := rfl
  rw [e0, Int.toNat_natCast, subAddr_z, Nat.sub_zero, Nat.sub_zero, Int.toNat_natCast]
  refine append_sl ok_row s1 (Sl.of_blk (T := TR) (xs := []) rfl rfl) ((a.rd (s1.at B0)).take (i := i) (by omega)) (by omega) fun a1 c1 h2 B1 o1 s2 => ?_
  rw [Nat.zero_add, List.nil_append] at o1
  rw [Nat.zero_add]
  refine ⟨⟨by omega, by omega, by omega⟩, ?_⟩
  refine s2.new (cs := [.slice x.1 x.2.1 x.2.2]) fun b2 h3 _ s3 => ⟨⟨⟨by omega, by omega, by omega⟩, rfl⟩, ?_⟩
  have sx : Sl TR (some ⟨b2, 0, none⟩) 1 1 [x] (cA b2 [.slice x.1 x.2.1 x.2.2] 38) := Sl.of_blk (T := TR) (xs := [x]) rfl rfl
  refine append_sl ok_row (s3.to (B := B1 + (cA b2 [.slice x.1 x.2.1 x.2.2] 38 + (B0 + G)))) o1 (sx.rd s3) (by omega) fun a2 c2 h4 B2 o2 s4 => ?_
  refine ⟨⟨⟨by omega, by omega, by omega⟩, rfl⟩, ?_⟩
  have rs := (a.rd (s4.at B0)).sub (i := i) (m := n - i) (by omega) hcap rfl
  refine append_sl ok_row s4 o2 rs (by omega) fun a3 c3 h5 B3 o3 s5 => ?_
  have e : i + 1 + (n - i) = n + 1 := by omega
  rw [e] at o3 ⊢
  refine ⟨_, _, B3, rfl, ?_, (s5.to (B := (cA b2 [.slice x.1 x.2.1 x.2.2] 38 + B0) + (B3 + G))).drop⟩
  simpa using o3
/-- cut: a row less. -/
theorem scut_ok {h0 h : Hp} {p : Option Addr} {n c i : Nat} {hs : List SH} {B0 G : Bag} (s : St h0 h (B0 + G)) (a : Sl TR p n c hs B0) (hi : i < n) (hn : n ≤ 1000000) :
    HCalls Try.prog 100 #[.slice p n c, .int .i64 (i : Int)] h (fun v h' => ∃ q d B', v = .slice q (n - 1) d ∧ Sl TR q (n - 1) d (hs.take i ++ hs.drop (i + 1)) B' ∧ St h0 h' (B' + G)) := by
  have hlen := a.len
  have hcap := a.cap
  refine r03_cut_call ?_
  rw [r03_cut_b0_eq]
  refine ⟨⟨by omega, by omega, by omega⟩, ⟨by omega, by omega⟩, ⟨by omega, by omega, by omega⟩, ?_⟩
  refine s.new (cs := []) fun b1 h1 _ s1 => ⟨⟨⟨by omega, by omega, by omega⟩, rfl⟩, ⟨⟨by omega, by omega, by omega⟩, rfl⟩, ?_⟩
  have e0 : Int.toNat (0 : Int) = 0 := rfl
  have e1 : Int.toNat ((i : Int) + 1) = i + 1 := by omega
  rw [e0, e1, Int.toNat_natCast, subAddr_z, Nat.sub_zero, Nat.sub_zero, Int.toNat_natCast]
  refine append_sl ok_row s1 (Sl.of_blk (T := TR) (xs := []) rfl rfl) ((a.rd (s1.at B0)).take (i := i) (by omega)) (by omega) fun a1 c1 h2 B1 o1 s2 => ?_
  rw [Nat.zero_add, List.nil_append] at o1
  rw [Nat.zero_add]
  refine ⟨⟨⟨by omega, by omega, by omega⟩, rfl⟩, ?_⟩
  have rs := (a.rd (s2.at B0)).sub (i := i + 1) (m := n - (i + 1)) (by omega) hcap rfl
  refine append_sl ok_row s2 o1 rs (by omega) fun a3 c3 h5 B3 o3 s5 => ?_
  have e : i + (n - (i + 1)) = n - 1 := by omega
  rw [e] at o3 ⊢
  exact ⟨_, _, B3, rfl, o3, (s5.to (B := B0 + (B3 + G))).drop⟩
theorem copyState_ok {k : Int} {h0 h : Hp} {p : Option Addr} {n c : Nat} {rows : List (List Int)} {B G : Bag} (na : RowsA (p, n, c) rows B) (s : St h0 h (B + G)) (hn : n ≤ 1000000) (hr : ∀ r ∈ rows, r.length ≤ 1000000) :
    HCalls Try.prog 79 #[.agg #[.int .i64 k, .slice p n c]] h (fun v h' => ∃ q d B', v = .agg #[.int .i64 k, .slice q n d] ∧ RowsA (q, n, d) rows B' ∧ St h0 h' (B' + (B + G))) := by
  have hrl : rows.length = n := rows_len na
  refine r03_Copy_call ?_
  rw [r03_Copy_b0_eq]
  refine s.new (cs := [.int .i64 k, .slice p n c]) fun b1 h1 _ s1 => ?_
  refine s1.new (cs := [.int .i64 0, .slice none 0 0]) fun b2 h2 _ s2 => ?_
  refine ⟨_, (s2.at (cA b1 [.int .i64 k, .slice p n c] 108)).blk.cell 0, ?_⟩
  refine s2.new (cs := [.int .i64 0, .slice none 0 0]) fun b3 h3 _ s3 => ?_
  refine s3.wr rfl (by simp) fun h4 s4 => ?_
  refine s4.wr (o := 1) (add_mk _ _ _) (by simp) fun h5 s5 => ?_
  have s5 : St h0 h5 (cA b3 [.int .i64 k, .slice none 0 0] 108 + (cA b2 [.int .i64 0, .slice none 0 0] 108 + (cA b1 [.int .i64 k, .slice p n c] 108 + (B + G)))) := s5
  refine ⟨fun x h' => ∃ (i : Nat) (q : Option Addr) (d : Nat) (B' : Bag), x.1 = i ∧ i ≤ n ∧ RowsA (q, i, d) (rows.take i) B' ∧ St h0 h' (cA b3 [.int .i64 k, .slice q i d] 108 + (B' + (cA b2 [.int .i64 0, .slice none 0 0] 108 + (cA b1 [.int .i64 k, .slice p n c] 108 + (B + G))))), fun x _ => n - x.1.toNat, ⟨0, none, 0, 0, rfl, by omega, Nest.nil, s5.to⟩, ?_⟩
  rintro ⟨_, _⟩ h6 ⟨i, q, d, B', rfl, hin, nb, s6⟩
  dsimp only
  rw [r03_Copy_b1_eq]
  have kb1 := (s6.at (cA b1 [.int .i64 k, .slice p n c] 108)).blk
  refine ⟨_, _, _, Blk.cellA kb1 1, condP (fun hlt => ?_) (fun hge => ?_)⟩
  · refine ⟨_, _, _, Blk.cellA s6.blk 1, _, _, _, Blk.cellA kb1 1, ?_⟩
    have sB : St h0 h6 (B + (cA b3 [.int .i64 k, .slice q i d] 108 + (B' + (cA b2 [.int .i64 0, .slice none 0 0] 108 + (cA b1 [.int .i64 k, .slice p n c] 108 + G))))) := s6.to
    refine Nest.at_ (d := []) na sB (by omega) (by dsimp only; omega) fun q1 l1 d1 Bi Br o hB => ?_
    rw [Int.toNat_natCast] at o
    have o : Sl TI q1 l1 d1 (rows.getD i []) Bi := o
    have hl1 := o.len
    have hil : i < rows.length := by omega
    have hg : rows.getD i [] = rows[i] := by simp [List.getD, hil]
    have hsm := hr _ (List.getElem_mem hil)
    rw [← hg] at hsm
    have st2 : St h0 h6 (Bi + (Br + (cA b3 [.int .i64 k, .slice q i d] 108 + (B' + (cA b2 [.int .i64 0, .slice none 0 0] 108 + (cA b1 [.int .i64 k, .slice p n c] 108 + G)))))) := by rw [hB] at sB; exact sB.to
    refine (row_ok (o.rd st2) (by omega)).mono fun v1 h7 ⟨q2, d2, A2, hv1, o2, t7⟩ => ⟨_, _, _, hv1, ?_⟩
    have s7 := s6.join t7
    have kb3 := (s7.at (cA b3 [.int .i64 k, .slice q i d] 108)).blk
    refine ⟨⟨_, _, _, Blk.cellA kb3 1, rfl⟩, ?_⟩
    have s7 := s7.to (B := B' + (A2 + (cA b3 [.int .i64 k, .slice q i d] 108 + (cA b2 [.int .i64 0, .slice none 0 0] 108 + (cA b1 [.int .i64 k, .slice p n c] 108 + (B + G))))))
    refine push_nestR s7 nb o2 rfl (by omega) (fun h8 x8 => ⟨_, _, _, Blk.cellA (kb3.ext x8) 1, rfl⟩) fun q3 d3 h9 B3 nb3 s9 => ?_
    have s9 := s9.to (B := cA b3 [.int .i64 k, .slice q i d] 108 + (B3 + (cA b2 [.int .i64 0, .slice none 0 0] 108 + (cA b1 [.int .i64 k, .slice p n c] 108 + (B + G)))))
    refine s9.wr (o := 1) (add_mk _ _ _) (by simp) fun h10 s10 => ?_
    rw [r03_Copy_b2_eq]
    refine ⟨⟨by omega, by omega⟩, ⟨i + 1, q3, d3, B3, by simp only; omega, by omega, ?_, s10⟩, by simp only; omega⟩
    rw [List.take_succ_eq_append_getElem hil, ← hg]
    exact nb3
  · obtain rfl : n = i := by omega
    rw [r03_Copy_b3_eq]
    refine ⟨_, _, _, _, s6.blk.cell 0, Blk.cellA s6.blk 1, ?_⟩
    have s6 := s6.to (B := cA b2 [.int .i64 0, .slice none 0 0] 108 + (B' + (cA b3 [.int .i64 k, .slice q n d] 108 + (cA b1 [.int .i64 k, .slice p n c] 108 + (B + G)))))
    refine s6.wr rfl (by simp) fun h7 s7 => ?_
    refine s7.wr (o := 1) (add_mk _ _ _) (by simp) fun h8 s8 => ?_
    refine ⟨_, _, _, _, s8.blk.cell 0, Blk.cellA s8.blk 1, _, _, B', rfl, ?_, ?_⟩
    · rw [List.take_of_length_le (by omega)] at nb; exact nb
    · have s8 : St h0 h8 (cA b2 [.int .i64 k, .slice q n d] 108 + (B' + (cA b3 [.int .i64 k, .slice q n d] 108 + (cA b1 [.int .i64 k, .slice p n c] 108 + (B + G))))) := s8
      exact (s8.to (B := (cA b2 [.int .i64 k, .slice q n d] 108 + cA b3 [.int .i64 k, .slice q n d] 108 + cA b1 [.int .i64 k, .slice p n c] 108) + (B' + (B + G)))).drop
/-- The rows' lists, in two parts. -/
theorem AllH.cut {hs : List SH} {rows : List (List Int)} {A : Bag} (h : AllH RowP hs rows A) (i : Nat) : ∃ A1 A2, A = A1 + A2 ∧ AllH RowP (hs.take i) (rows.take i) A1 ∧ AllH RowP (hs.drop i) (rows.drop i) A2 := by
  have hl := h.len
  refine AllH.split (hs.take i) (rows.take i) (by rw [List.length_take, List.length_take, hl]) ?_
  rw [List.take_append_drop, List.take_append_drop]
  exact h
theorem same_ok {a b c d : Int} {p q : Option Addr} {n m k l : Nat} {xs ys : List Int} {h : Hp} (r1 : RdT TI h p n xs) (r2 : RdT TI h q m ys) (hn : n ≤ 1000000) :
    HCalls Try.prog 27 #[.agg #[.int .i64 a, .int .i64 b, .slice p n k], .agg #[.int .i64 c, .int .i64 d, .slice q m l]] h (fun v h' => Ext h h' ∧ v = .bool (decide ((a, b, xs) = (c, d, ys)))) := by
  refine r03_SameRes_call ?_
  rw [r03_SameRes_b0_eq]
  refine (St.start h).new (cs := [.int .i64 a, .int .i64 b, .slice p n k]) fun b1 h1 _ s1 => ?_
  refine s1.new (cs := [.int .i64 c, .int .i64 d, .slice q m l]) fun b2 h2 _ s2 => ?_
  have k2 := s2.blk
  have k1 := s2.atomBlk
  refine ⟨_, k1.cell 0, _, k2.cell 0, condP (fun e1 => ?_) (fun e1 => ⟨s2.ext, ?_⟩)⟩
  · refine ⟨_, Blk.cellA k1 1, _, Blk.cellA k2 1, condP (fun e2 => ?_) (fun e2 => ⟨s2.ext, ?_⟩)⟩
    · refine ⟨_, _, _, Blk.cellA k1 2, _, _, _, Blk.cellA k2 2, ?_⟩
      refine (SameList_ok (r1.ext s2.ext) (r2.ext s2.ext) (by omega)).mono fun v h3 ⟨hh, hv⟩ => ⟨_, hv, by rw [hh]; exact s2.ext, ?_⟩
      congr 1
      exact decide_eq_decide.2 ⟨fun h => by rw [e1, e2, h], fun h => by simpa using (Prod.mk.inj (Prod.mk.inj h).2).2⟩
    · rw [decide_eq_false (fun h => e2 (Prod.mk.inj (Prod.mk.inj h).2).1)]
  · rw [decide_eq_false (fun h => e1 (Prod.mk.inj h).1)]
end Go.Proofs.Ytaemnjblcpknpaa

/- Layer 3: the reference's dictionary. -/
set_option maxRecDepth 100000
namespace Go.Proofs.Ytaemnjblcpknpaa
open Go Go.Sx
abbrev row2 (e : E) : List Int := [e.1, e.2]
/-- What a step leaves: a state and a result. -/
def StepP (h0 : Hp) (G : Bag) (k : Int) (rows : List (List Int)) (e z : Int) (v : Value) (h' : Hp) : Prop :=
  ∃ q m d B', v = .tuple #[.agg #[.int .i64 k, .slice q m d], .agg #[.int .i64 e, .int .i64 z, .slice none 0 0]] ∧ RowsA (q, m, d) rows B' ∧ St h0 h' (B' + G)
/-- Two boxes are written, read and handed back. -/
theorem boxW {h0 h : Hp} {b3 b4 : Nat} {x0 x1 y0 y1 y2 : Value} {D B G : Bag} {p : Option Addr} {n c : Nat} {k e z : Int} {rows : List (List Int)} (na : RowsA (p, n, c) rows B)
    (s : St h0 h (cA b3 [x0, x1] 108 + (cA b4 [y0, y1, y2] 61 + (D + (B + G))))) :
    Wr h ⟨b3, 0, none⟩ (.int .i64 k) fun h6 => Wr h6 ((⟨b3, 0, none⟩ : Addr).add 1) (.slice p n c) fun h7 => Wr h7 ⟨b4, 0, none⟩ (.int .i64 e) fun h8 => Wr h8 ((⟨b4, 0, none⟩ : Addr).add 1) (.int .i64 z) fun h9 => Wr h9 ((⟨b4, 0, none⟩ : Addr).add 2) (.slice none 0 0) fun h10 =>
      ∃ r6 : Int, ∃ (r7 : Option Addr) (rL3 rC3 : Nat), cell h10 ⟨b3, 0, none⟩ = some (.int .i64 r6) ∧ cell h10 ((⟨b3, 0, none⟩ : Addr).add 1) = some (.slice r7 rL3 rC3) ∧
      ∃ r8 : Int, ∃ r9 : Int, ∃ (r10 : Option Addr) (rL4 rC4 : Nat), cell h10 ⟨b4, 0, none⟩ = some (.int .i64 r8) ∧ cell h10 ((⟨b4, 0, none⟩ : Addr).add 1) = some (.int .i64 r9) ∧ cell h10 ((⟨b4, 0, none⟩ : Addr).add 2) = some (.slice r10 rL4 rC4) ∧
      StepP h0 G k rows e z (.tuple #[.agg #[.int .i64 r6, .slice r7 rL3 rC3], .agg #[.int .i64 r8, .int .i64 r9, .slice r10 rL4 rC4]]) h10 := by
  refine s.wr rfl (by simp) fun h6 s6 => ?_
  refine s6.wr (o := 1) (add_mk _ _ _) (by simp) fun h7 s7 => ?_
  have s7 : St h0 h7 (cA b3 [.int .i64 k, .slice p n c] 108 + (cA b4 [y0, y1, y2] 61 + (D + (B + G)))) := s7
  have s7 := s7.to (B := cA b4 [y0, y1, y2] 61 + (cA b3 [.int .i64 k, .slice p n c] 108 + (D + (B + G))))
  refine s7.wr rfl (by simp) fun h8 s8 => ?_
  refine s8.wr (o := 1) (add_mk _ _ _) (by simp) fun h9 s9 => ?_
  refine s9.wr (o := 2) (add_mk _ _ _) (by simp) fun h10 s10 => ?_
  have kb := s10.atomBlk
  refine ⟨_, _, _, _, kb.cell 0, Blk.cellA kb 1, _, _, _, _, _, s10.blk.cell 0, Blk.cellA s10.blk 1, Blk.cellA s10.blk 2, p, n, c, B, rfl, na, ?_⟩
  have s10 : St h0 h10 (cA b4 [.int .i64 e, .int .i64 z, .slice none 0 0] 61 + (cA b3 [.int .i64 k, .slice p n c] 108 + (D + (B + G)))) := s10
  exact (s10.to (B := (cA b4 [.int .i64 e, .int .i64 z, .slice none 0 0] 61 + cA b3 [.int .i64 k, .slice p n c] 108 + D) + (B + G))).drop
/-- The end of a step: yield or fail, and the boxes. -/
theorem boxT {g : Nat} {args : Array Value} {h0 h : Hp} {b3 b4 : Nat} {x0 x1 y0 y1 y2 : Value} {D B G : Bag} {p : Option Addr} {n c : Nat} {k e z : Int} {rows : List (List Int)} (na : RowsA (p, n, c) rows B)
    (s : St h0 h (cA b3 [x0, x1] 108 + (cA b4 [y0, y1, y2] 61 + (D + (B + G)))))
    (hc : HCalls Try.prog g args h (fun v h' => v = .tuple #[.agg #[.int .i64 k, .slice p n c], .agg #[.int .i64 e, .int .i64 z, .slice none 0 0]] ∧ Ext h h')) :
    HCalls Try.prog g args h fun v1 h5 => ∃ r1 : Int, ∃ (r2 : Option Addr) (rL1 rC1 : Nat), ∃ r3 : Int, ∃ r4 : Int, ∃ (r5 : Option Addr) (rL2 rC2 : Nat), v1 = .tuple #[.agg #[.int .i64 r1, .slice r2 rL1 rC1], .agg #[.int .i64 r3, .int .i64 r4, .slice r5 rL2 rC2]] ∧
      Wr h5 ⟨b3, 0, none⟩ (.int .i64 r1) fun h6 => Wr h6 ((⟨b3, 0, none⟩ : Addr).add 1) (.slice r2 rL1 rC1) fun h7 => Wr h7 ⟨b4, 0, none⟩ (.int .i64 r3) fun h8 => Wr h8 ((⟨b4, 0, none⟩ : Addr).add 1) (.int .i64 r4) fun h9 => Wr h9 ((⟨b4, 0, none⟩ : Addr).add 2) (.slice r5 rL2 rC2) fun h10 =>
      ∃ r6 : Int, ∃ (r7 : Option Addr) (rL3 rC3 : Nat), cell h10 ⟨b3, 0, none⟩ = some (.int .i64 r6) ∧ cell h10 ((⟨b3, 0, none⟩ : Addr).add 1) = some (.slice r7 rL3 rC3) ∧
      ∃ r8 : Int, ∃ r9 : Int, ∃ (r10 : Option Addr) (rL4 rC4 : Nat), cell h10 ⟨b4, 0, none⟩ = some (.int .i64 r8) ∧ cell h10 ((⟨b4, 0, none⟩ : Addr).add 1) = some (.int .i64 r9) ∧ cell h10 ((⟨b4, 0, none⟩ : Addr).add 2) = some (.slice r10 rL4 rC4) ∧
      StepP h0 G k rows e z (.tuple #[.agg #[.int .i64 r6, .slice r7 rL3 rC3], .agg #[.int .i64 r8, .int .i64 r9, .slice r10 rL4 rC4]]) h10 :=
  hc.mono fun _ _ ⟨hv, x⟩ => ⟨_, _, _, _, _, _, _, _, _, hv, boxW na (s.grow x)⟩
theorem AllH.edit : ∀ {hs : List SH} {xs : List (List Int)} {A : Bag} {i : Nat}, AllH RowP hs xs A → i < hs.length → ∃ Ai Br, A = Ai + Br ∧ RowP (hs.getD i (none, 0, 0)) (xs.getD i []) Ai ∧ ∀ y A', RowP (hs.getD i (none, 0, 0)) y A' → AllH RowP hs (xs.set i y) (A' + Br)
  | [], _, _, _, _, h => by simp at h
  | _ :: _, [], _, _, h, _ => h.elim
  | b :: bs, t :: ts, _, 0, ⟨A1, A2, e, h1, h2⟩, _ => ⟨A1, A2, e, h1, fun y A' hy => ⟨A', A2, rfl, hy, h2⟩⟩
  | b :: bs, t :: ts, _, i + 1, ⟨A1, A2, e, h1, h2⟩, hi => by
    obtain ⟨Ai, Br, e2, h3, h4⟩ := AllH.edit h2 (i := i) (by simpa using hi)
    refine ⟨Ai, A1 + Br, by rw [e, e2]; ac_rfl, by simpa using h3, fun y A' hy => ?_⟩
    exact ⟨A1, A' + Br, by ac_rfl, h1, h4 y A' (by simpa using hy)⟩
/-- A row is reached, to be written. -/
theorem rows_edit {h0 h : Hp} {p : Option Addr} {n c : Nat} {rows : List (List Int)} {B G : Bag} {i : Int} {Q : Option Addr → Nat → Nat → Prop} (na : RowsA (p, n, c) rows B) (st : St h0 h (B + G)) (hi0 : 0 ≤ i) (hi : i < n)
    (hq : ∀ q l d Bi Br, Sl TI q l d (rows.getD i.toNat []) Bi → B = Bi + Br → (∀ y Bi', Sl TI q l d y Bi' → RowsA (p, n, c) (rows.set i.toNat y) (Bi' + Br)) → Q q l d) :
    (0 ≤ i ∧ i < (n : Int)) ∧ NN p fun a => ∃ (q : Option Addr) (l d : Nat), cell h (a.add (i.toNat * 1)) = some (.slice q l d) ∧ Q q l d := by
  obtain ⟨hs, B0, B1, rfl, h1, h2⟩ := na
  have r := h1.rd (st.to (B := B0 + (B1 + G)))
  refine r.idx hi0 hi fun a _ hc => ?_
  have hl : hs.length = n := h1.len
  obtain ⟨Bi, Br, hB, hp, hset⟩ := AllH.edit h2 (i := i.toNat) (by omega)
  refine ⟨_, _, _, hc 0 Nat.one_pos, hq _ _ _ Bi (B0 + Br) hp (by rw [hB]; ac_rfl) fun y Bi' hy => ?_⟩
  exact ⟨hs, B0, Bi' + Br, by ac_rfl, h1, hset y Bi' hy⟩
theorem row2_get {l : List E} {i : Nat} (h : i < l.length) : (l.map row2).getD i [] = row2 (l.getD i (0, 0)) := by
  simp [List.getD, h]
theorem e_key {h0 h : Hp} {p : Option Addr} {n c : Nat} {l : List E} {B G : Bag} {i : Int} {Q : Int → Prop} (na : RowsA (p, n, c) (l.map row2) B) (st : St h0 h (B + G)) (hi0 : 0 ≤ i) (hi : i < n) (hq : Q (l.getD i.toNat (0, 0)).1) :
    (0 ≤ i ∧ i < (n : Int)) ∧ NN p fun a => ∃ (a8 : Option Addr) (L5 C5 : Nat), cell h (a.add (i.toNat * 1)) = some (.slice a8 L5 C5) ∧ (0 ≤ (0 : Int) ∧ (0 : Int) < (L5 : Int)) ∧ NN a8 fun a9 => ∃ n4 : Int, cell h (a9.add (Int.toNat (0 : Int) * 1)) = some (.int .i64 n4) ∧ Q n4 := by
  have hl : (l.map row2).length = n := rows_len na
  rw [List.length_map] at hl
  have hg := row2_get (l := l) (i := i.toNat) (by omega)
  exact rows_get na st hi0 hi (by omega) (by rw [hg]; simp) (by rw [hg]; exact hq)
theorem e_val {h0 h : Hp} {p : Option Addr} {n c : Nat} {l : List E} {B G : Bag} {i : Int} {Q : Int → Prop} (na : RowsA (p, n, c) (l.map row2) B) (st : St h0 h (B + G)) (hi0 : 0 ≤ i) (hi : i < n) (hq : Q (l.getD i.toNat (0, 0)).2) :
    (0 ≤ i ∧ i < (n : Int)) ∧ NN p fun a => ∃ (a8 : Option Addr) (L5 C5 : Nat), cell h (a.add (i.toNat * 1)) = some (.slice a8 L5 C5) ∧ (0 ≤ (1 : Int) ∧ (1 : Int) < (L5 : Int)) ∧ NN a8 fun a9 => ∃ n4 : Int, cell h (a9.add (Int.toNat (1 : Int) * 1)) = some (.int .i64 n4) ∧ Q n4 := by
  have hl : (l.map row2).length = n := rows_len na
  rw [List.length_map] at hl
  have hg := row2_get (l := l) (i := i.toNat) (by omega)
  exact rows_get na st hi0 hi (by omega) (by rw [hg]; simp) (by rw [hg]; exact hq)
/-- A step of a dictionary, in plain lists: what is left, the error, the number. -/
def dictS (l : List E) (c : Int) (zs : List Int) : List E × Int × Int :=
  if c = 8 then (l, 0, l.length)
  else if c = 1 then (if hasKey (upS l (zs.getD 0 0)) (zs.getD 0 0) = true then (lowS l (zs.getD 0 0) ++ (zs.getD 0 0, zs.getD 1 0) :: (upS l (zs.getD 0 0)).tail, 0, 1) else if l.length = 500 then (l, 4, 0) else (lowS l (zs.getD 0 0) ++ (zs.getD 0 0, zs.getD 1 0) :: upS l (zs.getD 0 0), 0, 0))
  else if c = 2 then (if hasKey (upS l (zs.getD 0 0)) (zs.getD 0 0) = true then (l, 0, valOf (upS l (zs.getD 0 0))) else (l, 12, 0))
  else if c = 3 then (if hasKey (upS l (zs.getD 0 0)) (zs.getD 0 0) = true then (lowS l (zs.getD 0 0) ++ (upS l (zs.getD 0 0)).tail, 0, valOf (upS l (zs.getD 0 0))) else (l, 12, 0))
  else if c = 4 then (if hasKey (upS l (zs.getD 0 0)) (zs.getD 0 0) = true then (l, 0, zs.getD 0 0) else if (lowS l (zs.getD 0 0)).length = 0 then (l, 12, 0) else (l, 0, (lastOf (lowS l (zs.getD 0 0))).1))
  else if c = 5 then (if (lowS l (zs.getD 0 0)).length = l.length then (l, 12, 0) else (l, 0, (headOf (upS l (zs.getD 0 0))).1))
  else if c = 6 then (l, 0, (lowS l (zs.getD 0 0)).length)
  else (if zs.getD 0 0 < 0 ∨ (l.length : Int) ≤ zs.getD 0 0 then (l, 2, 0) else (l, 0, (l.getD (zs.getD 0 0).toNat (0, 0)).1))
abbrev DictP (h0 : Hp) (G : Bag) (l : List E) (c : Int) (zs : List Int) : Value → Hp → Prop := StepP h0 G 1 ((dictS l c zs).1.map row2) (dictS l c zs).2.1 (dictS l c zs).2.2
theorem rows_cut {h0 h : Hp} {p : Option Addr} {n c i : Nat} {rows : List (List Int)} {B G : Bag} (na : RowsA (p, n, c) rows B) (s : St h0 h (B + G)) (hi : i < n) (hn : n ≤ 1000000) :
    HCalls Try.prog 100 #[.slice p n c, .int .i64 (i : Int)] h (fun v h' => ∃ q d B', v = .slice q (n - 1) d ∧ RowsA (q, n - 1, d) (rows.take i ++ rows.drop (i + 1)) B' ∧ St h0 h' (B' + G)) := by
  obtain ⟨hs, B0, B1, rfl, h1, h2⟩ := na
  obtain ⟨C1, C2, rfl, c1, c2⟩ := AllH.cut h2 i
  obtain ⟨C3, C4, rfl, _, c4⟩ := AllH.cut c2 1
  rw [List.drop_drop, List.drop_drop] at c4
  refine (scut_ok (s.to (B := B0 + (C1 + (C3 + C4) + G))) h1 hi hn).mono fun v h' ⟨q, d, B', hv, o, s'⟩ => ⟨q, d, B' + (C1 + C4), hv, ⟨_, B', C1 + C4, rfl, o, c1.append c4⟩, (s'.to (B := C3 + (B' + (C1 + C4) + G))).drop⟩
theorem rows_put {h0 h : Hp} {p : Option Addr} {n c i : Nat} {rows : List (List Int)} {x : List Int} {q : Option Addr} {m d : Nat} {B Bx G : Bag} (na : RowsA (p, n, c) rows B) (o : Sl TI q m d x Bx) (s : St h0 h (B + (Bx + G))) (hi : i ≤ n) (hn : n ≤ 1000000) :
    HCalls Try.prog 99 #[.slice p n c, .int .i64 (i : Int), .slice q m d] h (fun v h' => ∃ q d B', v = .slice q (n + 1) d ∧ RowsA (q, n + 1, d) (rows.take i ++ x :: rows.drop i) B' ∧ St h0 h' (B' + G)) := by
  obtain ⟨hs, B0, B1, rfl, h1, h2⟩ := na
  obtain ⟨C1, C2, rfl, c1, c2⟩ := AllH.cut h2 i
  refine (sput_ok (x := (q, m, d)) (s.to (B := B0 + (C1 + C2 + (Bx + G)))) h1 hi hn).mono fun v h' ⟨q', d', B', hv, o', s'⟩ => ⟨q', d', B' + (C1 + (Bx + C2)), hv, ⟨_, B', C1 + (Bx + C2), rfl, o', c1.append ⟨Bx, C2, rfl, o, c2⟩⟩, s'.to⟩
theorem dict_b6_ok {h0 h : Hp} {b1 b2 b3 b4 : Nat} {l : List E} {p q : Option Addr} {n c m cc : Nat} {code : Int} {B G : Bag} (na : RowsA (p, n, c) (l.map row2) B) (s : St h0 h (cA b1 [.int .i64 1, .slice p n c] 108 + (cA b2 [.int .i64 code, .slice q m cc] 58 + (cA b3 [.int .i64 0, .slice none 0 0] 108 + (cA b4 [.int .i64 0, .int .i64 0, .slice none 0 0] 61 + (B + G)))))) {v : Int} {K : Value → Hp → Prop} {rows : List (List Int)} (hr : l.map row2 = rows) (hK : K = StepP h0 G 1 rows 0 v) : r03_dict_b6 (some ⟨b1, 0, none⟩) (some ⟨b3, 0, none⟩) (some ⟨b4, 0, none⟩) v h K := by
  subst hr hK
  rw [r03_dict_b6_eq]
  have kb1 := s.blk
  exact ⟨_, _, _, _, kb1.cell 0, Blk.cellA kb1 1, boxT na (D := cA b1 [.int .i64 1, .slice p n c] 108 + cA b2 [.int .i64 code, .slice q m cc] 58) s.to yield_ok⟩
theorem dict_b7_ok {h0 h : Hp} {b1 b2 b3 b4 : Nat} {l : List E} {p q : Option Addr} {n c m cc : Nat} {code : Int} {zs : List Int} {B G : Bag} (na : RowsA (p, n, c) (l.map row2) B) (s : St h0 h (cA b1 [.int .i64 1, .slice p n c] 108 + (cA b2 [.int .i64 code, .slice q m cc] 58 + (cA b3 [.int .i64 0, .slice none 0 0] 108 + (cA b4 [.int .i64 0, .int .i64 0, .slice none 0 0] 61 + (B + G)))))) (hc : code = 7) : r03_dict_b7 (some ⟨b1, 0, none⟩) (some ⟨b3, 0, none⟩) (some ⟨b4, 0, none⟩) (n : Int) (zs.getD 0 0) h (DictP h0 G l code zs) := by
  have hl : (l.map row2).length = n := rows_len na
  rw [List.length_map] at hl
  have kb1 := s.blk
  have e : dictS l code zs = (if zs.getD 0 0 < 0 ∨ (l.length : Int) ≤ zs.getD 0 0 then (l, 2, 0) else (l, 0, (l.getD (zs.getD 0 0).toNat (0, 0)).1)) := by
    subst hc; rfl
  rw [DictP, e, r03_dict_b7_eq]
  generalize zs.getD 0 0 = k
  have ss : St h0 h (cA b3 [.int .i64 0, .slice none 0 0] 108 + (cA b4 [.int .i64 0, .int .i64 0, .slice none 0 0] 61 + ((cA b1 [.int .i64 1, .slice p n c] 108 + cA b2 [.int .i64 code, .slice q m cc] 58) + (B + G)))) := s.to
  refine condP (fun h1 => ?_) (fun h1 => condP (fun h2 => ?_) (fun h2 => ?_))
  · rw [if_pos (.inl h1)]
    exact ⟨_, _, _, _, kb1.cell 0, Blk.cellA kb1 1, boxT na ss fail_ok⟩
  · rw [if_pos (.inr (by omega))]
    exact ⟨_, _, _, _, kb1.cell 0, Blk.cellA kb1 1, boxT na ss fail_ok⟩
  · rw [if_neg (by omega), r03_dict_b8_eq]
    refine ⟨_, _, _, _, kb1.cell 0, Blk.cellA kb1 1, _, _, _, Blk.cellA kb1 1, e_key na (s.at B) (by omega) (by omega) ?_⟩
    exact boxT na ss yield_ok
theorem dict_yes_ok {h0 h : Hp} {b1 b2 b3 b4 : Nat} {l : List E} {p q : Option Addr} {n c m cc : Nat} {code : Int} {zs : List Int} {B G : Bag} (na : RowsA (p, n, c) (l.map row2) B) (s : St h0 h (cA b1 [.int .i64 1, .slice p n c] 108 + (cA b2 [.int .i64 code, .slice q m cc] 58 + (cA b3 [.int .i64 0, .slice none 0 0] 108 + (cA b4 [.int .i64 0, .int .i64 0, .slice none 0 0] 61 + (B + G)))))) (hn : n ≤ 1000) (hc : code = 2 ∨ code = 3) : r03_dict_b5 (some ⟨b1, 0, none⟩) (some ⟨b2, 0, none⟩) (some ⟨b3, 0, none⟩) (some ⟨b4, 0, none⟩) (n : Int) (zs.getD 0 0) ((lowS l (zs.getD 0 0)).length : Int) (hasKey (upS l (zs.getD 0 0)) (zs.getD 0 0)) code true h (DictP h0 G l code zs) := by
  have hl : (l.map row2).length = n := rows_len na
  rw [List.length_map] at hl
  have kb1 := s.blk
  have kb2 := s.atomBlk
  have e : dictS l code zs = (if hasKey (upS l (zs.getD 0 0)) (zs.getD 0 0) = true then (if code = 3 then lowS l (zs.getD 0 0) ++ (upS l (zs.getD 0 0)).tail else l, 0, valOf (upS l (zs.getD 0 0))) else (l, 12, 0)) := by
    rcases hc with rfl | rfl <;> rfl
  rw [DictP, e, r03_dict_b5_eq]
  generalize zs.getD 0 0 = k
  have ss : St h0 h (cA b3 [.int .i64 0, .slice none 0 0] 108 + (cA b4 [.int .i64 0, .int .i64 0, .slice none 0 0] 61 + ((cA b1 [.int .i64 1, .slice p n c] 108 + cA b2 [.int .i64 code, .slice q m cc] 58) + (B + G)))) := s.to
  refine condYes rfl ?_
  by_cases hf : hasKey (upS l k) k = true
  · obtain ⟨u1, u2, u3⟩ := up_head hf
    rw [if_pos hf, hf]
    refine condNo rfl ⟨_, _, _, Blk.cellA kb1 1, e_val na (s.at B) (by omega) (by omega) ?_⟩
    rw [Int.toNat_natCast, u2]
    refine ⟨_, kb2.cell 0, condP (fun h3 => ?_) (fun h3 => ?_)⟩
    · rw [if_pos h3]
      refine ⟨_, _, _, Blk.cellA kb1 1, (rows_cut na (s.to (B := B + (cA b1 [.int .i64 1, .slice p n c] 108 + (cA b2 [.int .i64 code, .slice q m cc] 58 + (cA b3 [.int .i64 0, .slice none 0 0] 108 + (cA b4 [.int .i64 0, .int .i64 0, .slice none 0 0] 61 + G)))))) (by omega) (by omega)).mono fun v h' ⟨q', d', B', hv, na', s'⟩ => ⟨_, _, _, hv, ?_⟩⟩
      have s' := s'.to (B := cA b1 [.int .i64 1, .slice p n c] 108 + (cA b2 [.int .i64 code, .slice q m cc] 58 + (cA b3 [.int .i64 0, .slice none 0 0] 108 + (cA b4 [.int .i64 0, .int .i64 0, .slice none 0 0] 61 + (B' + G)))))
      refine s'.wr (o := 1) (add_mk _ _ _) (by simp) fun h6 s6 => ?_
      have hrow : (l.map row2).take (lowS l k).length ++ (l.map row2).drop ((lowS l k).length + 1) = (lowS l k ++ (upS l k).tail).map row2 := by
        rw [← List.map_take, ← List.map_drop, u3, low_take, ← List.map_append]
      rw [hrow] at na'
      exact dict_b6_ok na' s6 rfl rfl
    · rw [if_neg h3]
      exact dict_b6_ok na s rfl rfl
  · have hf' : hasKey (upS l k) k = false := by simpa using hf
    rw [if_neg hf, hf']
    exact condYes rfl ⟨_, _, _, _, kb1.cell 0, Blk.cellA kb1 1, boxT na ss fail_ok⟩
theorem dict_no_ok {h0 h : Hp} {b1 b2 b3 b4 : Nat} {l : List E} {p q : Option Addr} {n c m cc : Nat} {code : Int} {zs : List Int} {B G : Bag} (na : RowsA (p, n, c) (l.map row2) B) (s : St h0 h (cA b1 [.int .i64 1, .slice p n c] 108 + (cA b2 [.int .i64 code, .slice q m cc] 58 + (cA b3 [.int .i64 0, .slice none 0 0] 108 + (cA b4 [.int .i64 0, .int .i64 0, .slice none 0 0] 61 + (B + G)))))) (hn : n ≤ 1000) (hc : 4 ≤ code ∧ code ≤ 7) : r03_dict_b5 (some ⟨b1, 0, none⟩) (some ⟨b2, 0, none⟩) (some ⟨b3, 0, none⟩) (some ⟨b4, 0, none⟩) (n : Int) (zs.getD 0 0) ((lowS l (zs.getD 0 0)).length : Int) (hasKey (upS l (zs.getD 0 0)) (zs.getD 0 0)) code false h (DictP h0 G l code zs) := by
  have hl : (l.map row2).length = n := rows_len na
  rw [List.length_map] at hl
  have kb1 := s.blk
  have kb2 := s.atomBlk
  rw [r03_dict_b5_eq]
  have ss : St h0 h (cA b3 [.int .i64 0, .slice none 0 0] 108 + (cA b4 [.int .i64 0, .int .i64 0, .slice none 0 0] 61 + ((cA b1 [.int .i64 1, .slice p n c] 108 + cA b2 [.int .i64 code, .slice q m cc] 58) + (B + G)))) := s.to
  refine condNo rfl ?_
  have hll := low_len (xs := l) (key := zs.getD 0 0)
  refine condP (fun h4 => ?_) (fun h4 => condP (fun h5 => ?_) (fun h5 => condP (fun h6 => ?_) (fun h6 => ?_)))
  · have e : dictS l code zs = (if hasKey (upS l (zs.getD 0 0)) (zs.getD 0 0) = true then (l, 0, zs.getD 0 0) else if (lowS l (zs.getD 0 0)).length = 0 then (l, 12, 0) else (l, 0, (lastOf (lowS l (zs.getD 0 0))).1)) := by subst h4; rfl
    rw [DictP, e]
    generalize zs.getD 0 0 = k at hll
    refine cond_intro (fun hf => ?_) (fun hf => ?_)
    · rw [if_pos hf]
      exact ⟨_, _, _, _, kb1.cell 0, Blk.cellA kb1 1, boxT na ss yield_ok⟩
    · rw [if_neg (by rw [hf]; simp)]
      refine condP (fun h0 => ?_) (fun h0 => ?_)
      · rw [if_pos (by omega)]
        exact ⟨_, _, _, _, kb1.cell 0, Blk.cellA kb1 1, boxT na ss fail_ok⟩
      · rw [if_neg (by omega)]
        obtain ⟨w1, _, _⟩ := last_getD (xs := l) (key := k) (by omega)
        have ei : Int.toNat (((lowS l k).length : Int) - 1) = (lowS l k).length - 1 := by omega
        refine ⟨_, _, _, _, kb1.cell 0, Blk.cellA kb1 1, _, _, _, Blk.cellA kb1 1, ⟨by omega, by omega⟩, e_key na (s.at B) (by omega) (by omega) ?_⟩
        rw [ei, ← w1]
        exact boxT na ss yield_ok
  · have e : dictS l code zs = (if (lowS l (zs.getD 0 0)).length = l.length then (l, 12, 0) else (l, 0, (headOf (upS l (zs.getD 0 0))).1)) := by subst h5; rfl
    rw [DictP, e]
    generalize zs.getD 0 0 = k at hll
    refine condP (fun h0 => ?_) (fun h0 => ?_)
    · rw [if_pos (by omega)]
      exact ⟨_, _, _, _, kb1.cell 0, Blk.cellA kb1 1, boxT na ss fail_ok⟩
    · rw [if_neg (by omega)]
      refine ⟨_, _, _, _, kb1.cell 0, Blk.cellA kb1 1, _, _, _, Blk.cellA kb1 1, e_key na (s.at B) (by omega) (by omega) ?_⟩
      rw [Int.toNat_natCast]
      have hud := up_drop (xs := l) (key := k)
      rw [List.drop_eq_getElem_cons (by omega)] at hud
      have hg : l.getD (lowS l k).length (0, 0) = l[(lowS l k).length]'(by omega) := by simp [List.getD, (show (lowS l k).length < l.length by omega)]
      rw [hg, ← hud]
      exact boxT na ss yield_ok
  · have e : dictS l code zs = (l, 0, ((lowS l (zs.getD 0 0)).length : Int)) := by subst h6; rfl
    rw [DictP, e]
    exact ⟨_, _, _, _, kb1.cell 0, Blk.cellA kb1 1, boxT na ss yield_ok⟩
  · exact dict_b7_ok na s (by omega)
theorem dict_b3_ok {h0 h : Hp} {b1 b2 b3 b4 : Nat} {l : List E} {p q : Option Addr} {n c m cc : Nat} {code : Int} {zs : List Int} {B G : Bag} (na : RowsA (p, n, c) (l.map row2) B) (rz : RdS h0 G TI q m zs) (s : St h0 h (cA b1 [.int .i64 1, .slice p n c] 108 + (cA b2 [.int .i64 code, .slice q m cc] 58 + (cA b3 [.int .i64 0, .slice none 0 0] 108 + (cA b4 [.int .i64 0, .int .i64 0, .slice none 0 0] 61 + (B + G)))))) (hn : n ≤ 1000) (hc : 1 ≤ code ∧ code ≤ 7) (h2 : code = 1 → 2 ≤ zs.length) : r03_dict_b3 (some ⟨b1, 0, none⟩) (some ⟨b2, 0, none⟩) (some ⟨b3, 0, none⟩) (some ⟨b4, 0, none⟩) (n : Int) (zs.getD 0 0) ((lowS l (zs.getD 0 0)).length : Int) (hasKey (upS l (zs.getD 0 0)) (zs.getD 0 0)) h (DictP h0 G l code zs) := by
  have hl : (l.map row2).length = n := rows_len na
  rw [List.length_map] at hl
  have kb1 := s.blk
  have kb2 := s.atomBlk
  have hll := low_len (xs := l) (key := zs.getD 0 0)
  rw [r03_dict_b3_eq]
  have ss : St h0 h (cA b3 [.int .i64 0, .slice none 0 0] 108 + (cA b4 [.int .i64 0, .int .i64 0, .slice none 0 0] 61 + ((cA b1 [.int .i64 1, .slice p n c] 108 + cA b2 [.int .i64 code, .slice q m cc] 58) + (B + G)))) := s.to
  have hrz : RdT TI h q m zs := rz h (cA b1 [.int .i64 1, .slice p n c] 108 + (cA b2 [.int .i64 code, .slice q m cc] 58 + (cA b3 [.int .i64 0, .slice none 0 0] 108 + (cA b4 [.int .i64 0, .int .i64 0, .slice none 0 0] 61 + B)))) s.to
  have hzl := hrz.len
  refine ⟨_, kb2.cell 0, condP (fun h1 => ?_) (fun h1 => ?_)⟩
  · have h2 := h2 h1
    have e : dictS l code zs = (if hasKey (upS l (zs.getD 0 0)) (zs.getD 0 0) = true then (lowS l (zs.getD 0 0) ++ (zs.getD 0 0, zs.getD 1 0) :: (upS l (zs.getD 0 0)).tail, 0, 1) else if l.length = 500 then (l, 4, 0) else (lowS l (zs.getD 0 0) ++ (zs.getD 0 0, zs.getD 1 0) :: upS l (zs.getD 0 0), 0, 0)) := by subst h1; rfl
    rw [DictP, e]
    generalize zs.getD 0 0 = k at hll
    refine cond_intro (fun hf => ?_) (fun hf => ?_)
    · obtain ⟨u1, u2, u3⟩ := up_head hf
      rw [if_pos hf]
      refine ⟨_, _, _, Blk.cellA kb1 1, rows_edit na (s.at B) (by omega) (by omega) fun q1 l1 d1 Bi Br o hB hset => ⟨_, _, _, Blk.cellA kb2 1, hrz.int (by omega) (by omega) ?_⟩⟩
      rw [Int.toNat_natCast] at o hset
      rw [row2_get (by omega)] at o
      have hl1 : 2 = l1 := o.len
      have s1 : St h0 h (Bi + (cA b1 [.int .i64 1, .slice p n c] 108 + (cA b2 [.int .i64 code, .slice q m cc] 58 + (cA b3 [.int .i64 0, .slice none 0 0] 108 + (cA b4 [.int .i64 0, .int .i64 0, .slice none 0 0] 61 + (Br + G)))))) := by rw [hB] at s; exact s.to
      refine o.wrI s1 (by omega) (by omega) rfl rfl fun h' A' o' s' => ?_
      have na' := hset _ A' o'
      have hrow : (l.map row2).set (lowS l k).length ((row2 (l.getD (lowS l k).length (0, 0))).set (Int.toNat (1 : Int)) (zs.getD (Int.toNat (1 : Int)) 0)) = (lowS l k ++ (k, zs.getD 1 0) :: (upS l k).tail).map row2 := by
        have e1 : (row2 (l.getD (lowS l k).length (0, 0))).set (Int.toNat (1 : Int)) (zs.getD (Int.toNat (1 : Int)) 0) = row2 (k, zs.getD 1 0) := by rw [u2]; rfl
        rw [e1, List.set_eq_take_append_cons_drop, if_pos (by rw [List.length_map]; omega), ← List.map_take, ← List.map_drop, u3, low_take, List.map_append, List.map_cons]
      rw [hrow] at na'
      have s2 := s'.to (B := cA b3 [.int .i64 0, .slice none 0 0] 108 + (cA b4 [.int .i64 0, .int .i64 0, .slice none 0 0] 61 + ((cA b1 [.int .i64 1, .slice p n c] 108 + cA b2 [.int .i64 code, .slice q m cc] 58) + (A' + Br + G))))
      have kb1' := (s2.at (cA b1 [.int .i64 1, .slice p n c] 108)).blk
      exact ⟨_, _, _, _, kb1'.cell 0, Blk.cellA kb1' 1, boxT na' s2 yield_ok⟩
    · rw [if_neg (by rw [hf]; simp)]
      refine condP (fun h5 => ?_) (fun h5 => ?_)
      · rw [if_pos (by omega)]
        exact ⟨_, _, _, _, kb1.cell 0, Blk.cellA kb1 1, boxT na ss fail_ok⟩
      · rw [if_neg (by omega)]
        refine ⟨_, _, _, Blk.cellA kb1 1, _, _, _, Blk.cellA kb2 1, hrz.int (by omega) (by omega) ?_⟩
        refine s.new (cs := [.int .i64 k, .int .i64 (zs.getD (Int.toNat (1 : Int)) 0)]) fun b5 h5 x5 s5 => ⟨⟨_, _, _, Blk.cellA (kb1.ext x5) 1, rfl⟩, ?_⟩
        have o5 : Sl TI (some ⟨b5, 0, none⟩) 2 2 [k, zs.getD 1 0] (cA b5 [.int .i64 k, .int .i64 (zs.getD (Int.toNat (1 : Int)) 0)] 3) := Sl.of_blk (T := TI) (xs := [k, zs.getD 1 0]) rfl rfl
        have s6 := s5.to (B := B + (cA b5 [.int .i64 k, .int .i64 (zs.getD (Int.toNat (1 : Int)) 0)] 3 + (cA b1 [.int .i64 1, .slice p n c] 108 + (cA b2 [.int .i64 code, .slice q m cc] 58 + (cA b3 [.int .i64 0, .slice none 0 0] 108 + (cA b4 [.int .i64 0, .int .i64 0, .slice none 0 0] 61 + G))))))
        refine (rows_put na o5 s6 (by omega) (by omega)).mono fun v h' ⟨q', d', B', hv, na', s'⟩ => ⟨_, _, _, hv, ?_⟩
        have s' := s'.to (B := cA b1 [.int .i64 1, .slice p n c] 108 + (cA b2 [.int .i64 code, .slice q m cc] 58 + (cA b3 [.int .i64 0, .slice none 0 0] 108 + (cA b4 [.int .i64 0, .int .i64 0, .slice none 0 0] 61 + (B' + G)))))
        refine s'.wr (o := 1) (add_mk _ _ _) (by simp) fun h6 s6 => ?_
        have hrow : (l.map row2).take (lowS l k).length ++ [k, zs.getD 1 0] :: (l.map row2).drop (lowS l k).length = (lowS l k ++ (k, zs.getD 1 0) :: upS l k).map row2 := by
          rw [← List.map_take, ← List.map_drop, up_drop, low_take, List.map_append, List.map_cons]
        rw [hrow] at na'
        have s6 : St h0 h6 (cA b1 [.int .i64 1, .slice q' (n + 1) d'] 108 + (cA b2 [.int .i64 code, .slice q m cc] 58 + (cA b3 [.int .i64 0, .slice none 0 0] 108 + (cA b4 [.int .i64 0, .int .i64 0, .slice none 0 0] 61 + (B' + G))))) := s6
        have kb1' := s6.blk
        exact ⟨_, _, _, _, kb1'.cell 0, Blk.cellA kb1' 1, boxT na' (D := cA b1 [.int .i64 1, .slice q' (n + 1) d'] 108 + cA b2 [.int .i64 code, .slice q m cc] 58) s6.to yield_ok⟩
  · refine condP (fun h3 => ?_) (fun h3 => ?_)
    · rw [decide_eq_true h3]
      exact dict_yes_ok na s hn (.inl h3)
    · rcases Decidable.em (code = 3) with h4 | h4
      · rw [decide_eq_true h4]
        exact dict_yes_ok na s hn (.inr h4)
      · rw [decide_eq_false h4]
        exact dict_no_ok na s hn ⟨by omega, by omega⟩
end Go.Proofs.Ytaemnjblcpknpaa

/- Layer 3: a step of a dictionary. -/
set_option maxRecDepth 100000
namespace Go.Proofs.Ytaemnjblcpknpaa
open Go Go.Sx
def cntK (l : List E) (k : Int) : Nat := (l.filter fun e => decide (e.1 < k)).length
def hasK (l : List E) (k : Int) : Bool := l.any fun e => decide (e.1 = k)
theorem cntK_low {l : List E} {k : Int} (so : Srt l) : cntK l k = (lowS l k).length := by
  unfold cntK
  rw [upS_len (xs := l) (key := k)]
  have h1 := upS_len (xs := l) (key := k)
  rw [← h1]
  conv => lhs; rw [h1]
  rw [List.filter_append, List.filter_eq_self.2 (fun e he => decide_eq_true (low_lt e he)), List.filter_eq_nil_iff.2 (fun e he => by have := up_ge so e he; simp; omega), List.append_nil]
theorem hasK_up {l : List E} {k : Int} (so : Srt l) : hasK l k = hasKey (upS l k) k := by
  have h1 := upS_len (xs := l) (key := k)
  by_cases hf : hasKey (upS l k) k = true
  · rw [hf]
    cases hu : upS l k with
    | nil => rw [hu] at hf; cases hf
    | cons e es =>
      rw [hu] at hf
      exact List.any_eq_true.2 ⟨e, up_sub.mem (by rw [hu]; simp), hf⟩
  · have hf' : hasKey (upS l k) k = false := by simpa using hf
    rw [hf']
    unfold hasK
    rw [List.any_eq_false]
    intro e he
    rw [h1] at he
    have hY : Srt (upS l k) := so.sublist up_sub
    have hgt := key_gt hY (up_ge so) hf'
    rcases List.mem_append.1 he with he | he
    · have := low_lt e he; simp; omega
    · have := hgt e he; simp; omega
theorem dict_ok {h0 h : Hp} {l : List E} {p q : Option Addr} {n c m cc : Nat} {code : Int} {zs : List Int} {B G : Bag} (so : Srt l) (na : RowsA (p, n, c) (l.map row2) B) (rz : RdS h0 G TI q m zs) (s : St h0 h (B + G)) (hn : n ≤ 1000) (hc : 1 ≤ code ∧ code ≤ 8) (h1 : code ≠ 8 → 1 ≤ zs.length) (h2 : code = 1 → 2 ≤ zs.length) :
    HCalls Try.prog 80 #[.agg #[.int .i64 1, .slice p n c], .agg #[.int .i64 code, .slice q m cc]] h (DictP h0 G l code zs) := by
  have hl : (l.map row2).length = n := rows_len na
  rw [List.length_map] at hl
  refine r03_dict_call ?_
  rw [r03_dict_b0_eq]
  refine s.new (cs := [.int .i64 1, .slice p n c]) fun b1 h3 _ s1 => ?_
  refine s1.new (cs := [.int .i64 code, .slice q m cc]) fun b2 h4 _ s2 => ?_
  refine s2.new (cs := [.int .i64 0, .slice none 0 0]) fun b3 h5 _ s3 => ?_
  refine s3.new (cs := [.int .i64 0, .int .i64 0, .slice none 0 0]) fun b4 h6 _ s4 => ?_
  have s4 : St h0 h6 (cA b1 [.int .i64 1, .slice p n c] 108 + (cA b2 [.int .i64 code, .slice q m cc] 58 + (cA b3 [.int .i64 0, .slice none 0 0] 108 + (cA b4 [.int .i64 0, .int .i64 0, .slice none 0 0] 61 + (B + G))))) := s4.to
  have kb1 := s4.blk
  have kb2 := s4.atomBlk
  refine ⟨_, _, _, Blk.cellA kb1 1, _, kb2.cell 0, condP (fun h8 => ?_) (fun h8 => ?_)⟩
  · have e : dictS l code zs = (l, 0, (l.length : Int)) := by subst h8; rfl
    rw [DictP, e]
    rw [hl]
    exact ⟨_, _, _, _, kb1.cell 0, Blk.cellA kb1 1, boxT na (D := cA b1 [.int .i64 1, .slice p n c] 108 + cA b2 [.int .i64 code, .slice q m cc] 58) s4.to yield_ok⟩
  have hrz : RdT TI h6 q m zs := rz h6 (cA b1 [.int .i64 1, .slice p n c] 108 + (cA b2 [.int .i64 code, .slice q m cc] 58 + (cA b3 [.int .i64 0, .slice none 0 0] 108 + (cA b4 [.int .i64 0, .int .i64 0, .slice none 0 0] 61 + B)))) s4.to
  have hzl := hrz.len
  have h1 := h1 h8
  refine ⟨_, _, _, Blk.cellA kb2 1, hrz.int (by omega) (by omega) ?_⟩
  rw [show Int.toNat (0 : Int) = 0 from rfl]
  refine ⟨fun x h' => h' = h6 ∧ ∃ i : Nat, x.2.2.1 = i ∧ i ≤ n ∧ x.1 = (cntK (l.take i) (zs.getD 0 0) : Int) ∧ x.2.1 = hasK (l.take i) (zs.getD 0 0), fun x _ => n - x.2.2.1.toNat, ⟨rfl, 0, rfl, by omega, rfl, rfl⟩, ?_⟩
  rintro ⟨_, _, _, _⟩ h7 ⟨rfl, i, rfl, hin, rfl, rfl⟩
  dsimp only
  rw [r03_dict_b1_eq]
  refine condP (fun hlt => ?_) (fun hge => ?_)
  · have hil : i < l.length := by omega
    have hcl : cntK (l.take i) (zs.getD 0 0) ≤ i := by
      refine Nat.le_trans (List.length_filter_le _ _) ?_
      rw [List.length_take]; omega
    have e1 : ∀ k, cntK (l.take (i + 1)) k = cntK (l.take i) k + (if (l.getD i (0, 0)).1 < k then 1 else 0) := by
      intro k
      unfold cntK
      rw [take_one hil, List.filter_append, List.length_append]
      congr 1
      by_cases h : (l.getD i (0, 0)).1 < k
      · rw [if_pos h]; simp only [List.filter_cons, decide_eq_true h, if_true, List.filter_nil, List.length_singleton]
      · rw [if_neg h]; simp only [List.filter_cons, decide_eq_false h, Bool.false_eq_true, if_false, List.filter_nil, List.length_nil]
    have e2 : ∀ k, hasK (l.take (i + 1)) k = (hasK (l.take i) k || decide ((l.getD i (0, 0)).1 = k)) := by
      intro k
      unfold hasK
      rw [take_one hil, List.any_append]
      simp
    have sB := s4.at B
    have next : ∀ less : Int, less = (cntK (l.take (i + 1)) (zs.getD 0 0) : Int) → r03_dict_b2 (some ⟨b1, 0, none⟩) (some ⟨b2, 0, none⟩) (some ⟨b3, 0, none⟩) (some ⟨b4, 0, none⟩) (n : Int) (zs.getD 0 0) less (hasK (l.take i) (zs.getD 0 0)) (i : Int) h7 (fun s' h' => (h' = h7 ∧ ∃ i : Nat, s'.2.2.1 = i ∧ i ≤ n ∧ s'.1 = (cntK (l.take i) (zs.getD 0 0) : Int) ∧ s'.2.1 = hasK (l.take i) (zs.getD 0 0)) ∧ n - s'.2.2.1.toNat < n - Int.toNat (i : Int)) (DictP h0 G l code zs) := by
      rintro _ rfl
      rw [r03_dict_b2_eq]
      have b4' : ∀ there : Bool, there = hasK (l.take (i + 1)) (zs.getD 0 0) → r03_dict_b4 (some ⟨b1, 0, none⟩) (some ⟨b2, 0, none⟩) (some ⟨b3, 0, none⟩) (some ⟨b4, 0, none⟩) (n : Int) (zs.getD 0 0) (cntK (l.take (i + 1)) (zs.getD 0 0) : Int) there (i : Int) h7 (fun s' h' => (h' = h7 ∧ ∃ i : Nat, s'.2.2.1 = i ∧ i ≤ n ∧ s'.1 = (cntK (l.take i) (zs.getD 0 0) : Int) ∧ s'.2.1 = hasK (l.take i) (zs.getD 0 0)) ∧ n - s'.2.2.1.toNat < n - Int.toNat (i : Int)) (DictP h0 G l code zs) := by
        rintro _ rfl
        rw [r03_dict_b4_eq]
        exact ⟨⟨by omega, by omega⟩, ⟨rfl, i + 1, by simp only; omega, by omega, rfl, rfl⟩, by simp only; omega⟩
      refine cond_intro (fun ht => ?_) (fun ht => ?_)
      · exact b4' true (by rw [e2, ht]; rfl)
      · refine ⟨_, _, _, Blk.cellA kb1 1, e_key na sB (by omega) (by omega) ?_⟩
        rw [Int.toNat_natCast]
        exact b4' _ (by rw [e2, ht]; rfl)
    refine ⟨_, _, _, Blk.cellA kb1 1, e_key na sB (by omega) (by omega) ?_⟩
    rw [Int.toNat_natCast]
    refine condP (fun hk => ?_) (fun hk => ?_)
    · exact ⟨⟨by omega, by omega⟩, next _ (by rw [e1, if_pos hk]; push_cast; rfl)⟩
    · exact next _ (by rw [e1, if_neg hk]; rfl)
  · rw [List.take_of_length_le (by omega), cntK_low so, hasK_up so]
    exact dict_b3_ok na rz s4 hn ⟨by omega, by omega⟩ h2
/-- Step, of a dictionary: the state handed in stays. -/
theorem stepD_ok {h0 h : Hp} {l : List E} {p q : Option Addr} {n c m cc : Nat} {code : Int} {zs : List Int} {B G : Bag} (so : Srt l) (na : RowsA (p, n, c) (l.map row2) B) (rz : RdS h0 (B + G) TI q m zs) (s : St h0 h (B + G)) (hn : n ≤ 1000) (hc : 1 ≤ code ∧ code ≤ 8) (h1 : code ≠ 8 → 1 ≤ zs.length) (h2 : code = 1 → 2 ≤ zs.length) :
    HCalls Try.prog 57 #[.agg #[.int .i64 1, .slice p n c], .agg #[.int .i64 code, .slice q m cc]] h (DictP h0 (B + G) l code zs) := by
  refine r03_Step_call ?_
  rw [r03_Step_b0_eq]
  refine s.new (cs := [.int .i64 1, .slice p n c]) fun b1 h3 _ s1 => ?_
  refine s1.new (cs := [.int .i64 code, .slice q m cc]) fun b2 h4 _ s2 => ?_
  refine s2.new (cs := [.int .i64 0, .slice none 0 0]) fun b3 h5 _ s3 => ?_
  refine s3.new (cs := [.int .i64 0, .int .i64 0, .slice none 0 0]) fun b4 h6 _ s4 => ?_
  have kb1 := (s4.at (cA b1 [.int .i64 1, .slice p n c] 108)).blk
  refine ⟨_, _, _, _, kb1.cell 0, Blk.cellA kb1 1, ?_⟩
  have s4 : St h0 h6 (B + (cA b1 [.int .i64 1, .slice p n c] 108 + (cA b2 [.int .i64 code, .slice q m cc] 58 + (cA b3 [.int .i64 0, .slice none 0 0] 108 + (cA b4 [.int .i64 0, .int .i64 0, .slice none 0 0] 61 + G))))) := s4.to
  refine (copyState_ok na s4 (by omega) (fun r hr => by obtain ⟨e, _, rfl⟩ := List.mem_map.1 hr; simp)).mono fun v1 h7 ⟨p', c', B', hv1, na', s7⟩ => ⟨_, _, _, _, hv1, ?_⟩
  have s7 := s7.to (B := cA b1 [.int .i64 1, .slice p n c] 108 + (cA b2 [.int .i64 code, .slice q m cc] 58 + (cA b3 [.int .i64 0, .slice none 0 0] 108 + (cA b4 [.int .i64 0, .int .i64 0, .slice none 0 0] 61 + (B' + (B + G))))))
  refine s7.wr rfl (by simp) fun h8 s8 => ?_
  refine s8.wr (o := 1) (add_mk _ _ _) (by simp) fun h9 s9 => ?_
  have s9 : St h0 h9 (cA b1 [.int .i64 1, .slice p' n c'] 108 + (cA b2 [.int .i64 code, .slice q m cc] 58 + (cA b3 [.int .i64 0, .slice none 0 0] 108 + (cA b4 [.int .i64 0, .int .i64 0, .slice none 0 0] 61 + (B' + (B + G)))))) := s9
  have kb1 := s9.blk
  have kb2 := s9.atomBlk
  refine ⟨_, kb1.cell 0, condYes rfl ⟨_, _, _, _, kb1.cell 0, Blk.cellA kb1 1, _, _, _, _, kb2.cell 0, Blk.cellA kb2 1, ?_⟩⟩
  have s10 := s9.to (B := B' + ((cA b1 [.int .i64 1, .slice p' n c'] 108 + (cA b2 [.int .i64 code, .slice q m cc] 58 + (cA b3 [.int .i64 0, .slice none 0 0] 108 + cA b4 [.int .i64 0, .int .i64 0, .slice none 0 0] 61))) + (B + G)))
  have rz' : RdS h0 ((cA b1 [.int .i64 1, .slice p' n c'] 108 + (cA b2 [.int .i64 code, .slice q m cc] 58 + (cA b3 [.int .i64 0, .slice none 0 0] 108 + cA b4 [.int .i64 0, .int .i64 0, .slice none 0 0] 61))) + (B + G)) TI q m zs := fun h' A s' => rz h' (A + (cA b1 [.int .i64 1, .slice p' n c'] 108 + (cA b2 [.int .i64 code, .slice q m cc] 58 + (cA b3 [.int .i64 0, .slice none 0 0] 108 + cA b4 [.int .i64 0, .int .i64 0, .slice none 0 0] 61)))) (s'.to (B := A + (cA b1 [.int .i64 1, .slice p' n c'] 108 + (cA b2 [.int .i64 code, .slice q m cc] 58 + (cA b3 [.int .i64 0, .slice none 0 0] 108 + cA b4 [.int .i64 0, .int .i64 0, .slice none 0 0] 61))) + (B + G)))
  refine (dict_ok so na' rz' s10 hn hc h1 h2).mono fun v2 h11 ⟨q2, m2, d2, B2, hv2, na2, s11⟩ => ⟨_, _, _, _, _, _, _, _, _, hv2, ?_⟩
  have s11 : St h0 h11 (cA b3 [.int .i64 0, .slice none 0 0] 108 + (cA b4 [.int .i64 0, .int .i64 0, .slice none 0 0] 61 + ((cA b1 [.int .i64 1, .slice p' n c'] 108 + cA b2 [.int .i64 code, .slice q m cc] 58) + (B2 + (B + G))))) := s11.to
  exact boxW na2 s11
end Go.Proofs.Ytaemnjblcpknpaa

/- B-trees: a function is called for all entries, with a bound on the calls; Do. -/
set_option maxRecDepth 100000
namespace Go.Proofs.Ytaemnjblcpknpaa
open Go Go.Sx
section
variable {σ : Type}
theorem okLe {Ok : Nat → σ → Prop} (hmo : ∀ j s, Ok (j + 1) s → Ok j s) {j k : Nat} {s : σ} (h : j ≤ k) (ho : Ok k s) : Ok j s := by
  induction k with
  | zero => obtain rfl : j = 0 := by omega
            exact ho
  | succ k ih =>
    rcases Nat.lt_or_ge k j with h1 | h1
    · obtain rfl : j = k + 1 := by omega
      exact ho
    · exact ih h1 (hmo _ _ ho)
theorem runW_okN {st : σ → E → σ × Bool} {Ok : Nat → σ → Prop} (hok : ∀ j s e, Ok (j + 1) s → (st s e).2 = true → Ok j (st s e).1) : ∀ (l : List E) (j : Nat) (s s' : σ), Ok (j + l.length) s → runW st s l = (s', true) → Ok j s'
  | [], _, s, s', h, hr => by cases hr; exact h
  | e :: l, j, s, s', h, hr => by
    simp only [runW] at hr
    have := hok (j + l.length) s e h
    rcases hst : st s e with ⟨s2, _ | _⟩
    · rw [hst] at hr; cases hr
    · rw [hst] at hr this; exact runW_okN hok l j s2 s' (this rfl) hr
theorem reachN {st : σ → E → σ × Bool} {Ok : Nat → σ → Prop} (hok : ∀ j s e, Ok (j + 1) s → (st s e).2 = true → Ok j (st s e).1) {a b l : List E} {s s' : σ} (hl : l = a ++ b) (h : Ok l.length s) (hr : runW st s a = (s', true)) : Ok b.length s' := by
  subst hl
  rw [List.length_append, Nat.add_comm] at h
  exact runW_okN hok a b.length s s' h hr
theorem walkN_ok {h0 : Hp} {g : Nat} {cap : Array Value} {st : σ → E → σ × Bool} {Inv : σ → Bag → Prop} {Ok : Nat → σ → Prop} (hmo : ∀ j s, Ok (j + 1) s → Ok j s) (hok : ∀ j s e, Ok (j + 1) s → (st s e).2 = true → Ok j (st s e).1) (hg : F g = true) (hf : Fun1 h0 g cap st Inv (Ok 1)) {lo hi : Nat} (hhi : hi ≤ 1000) :
    ∀ (n : Nat) {b : Nat} {t : BT} {A : Bag} {s : σ} {C : Bag} {h : Hp} {G : Bag}, Hold n b t A → Sz lo hi n t → Ok (flat n t).length s → Inv s C → St h0 h (A + (C + G)) →
      HCalls Try.prog 36 #[ptr b, .func (.func g) #[] cap] h (fun v h' => ∃ C', v = .bool (runW st s (flat n t)).2 ∧ Inv (runW st s (flat n t)).1 C' ∧ St h0 h' (A + (C' + G))) := by
  intro n
  induction n with
  | zero =>
    intro b t A s C h G hh hz hos hi0 hs
    obtain ⟨ht, hna⟩ := hh
    have hna0 := hna
    obtain ⟨p1, p2, p3, c1, c2, c3, C1, C2, C3, rfl, ns⟩ := hna
    have hze := hz.here
    refine btree_node_walk_call ?_
    rw [btree_node_walk_b0_eq]
    refine condNo rfl ⟨_, _, _, (hs.at (nodeC b t.es.length ([] : List Nat).length p1 p2 p3 c1 c2 c3)).cell 0, ?_⟩
    refine ⟨fun x h' => ∃ (i : Nat) (s' : σ) (C' : Bag), x.1 = i ∧ i ≤ t.es.length ∧ runW st s (t.es.take i) = (s', true) ∧ Inv s' C' ∧ St h0 h' (nodeC b t.es.length ([] : List Nat).length p1 p2 p3 c1 c2 c3 + (C1 + (C2 + C3)) + (C' + G)), fun x _ => t.es.length - x.1.toNat, ⟨0, s, C, rfl, by omega, rfl, hi0, hs⟩, ?_⟩
    rintro ⟨_, _⟩ h1 ⟨i, s1, D, rfl, hil, hrun, hi1, hs1⟩
    dsimp only
    rw [btree_node_walk_b1_eq]
    have k1 := (hs1.at (nodeC b t.es.length ([] : List Nat).length p1 p2 p3 c1 c2 c3))
    refine condP (fun hlt => ?_) (fun hge => ?_)
    · have hlt' : i < t.es.length := by omega
      refine (ns.s1.rd (hs1.at C1)).int (by omega) (by omega) ?_
      rw [Int.toNat_natCast]
      refine (leaf_ok hs1 hna0).mono fun v1 h2 ⟨hh2, hv1⟩ => ?_
      subst hh2
      refine ⟨_, hv1, condNo rfl ⟨_, _, _, k1.cellA 1, (ns.s2.rd (hs1.at C2)).int (by omega) (by omega) ?_⟩⟩
      rw [Int.toNat_natCast]
      show callX Try.prog F g _ _ _
      refine callX_of hg ?_
      have hg1 : (t.es.map Prod.fst).getD i 0 = (t.es.getD i (0, 0)).1 := by simp [List.getD, hlt']
      have hg2 : (t.es.map Prod.snd).getD i 0 = (t.es.getD i (0, 0)).2 := by simp [List.getD, hlt']
      rw [hg1, hg2]
      have e2 : t.es.take (i + 1) = t.es.take i ++ [t.es.getD i (0, 0)] := by
        rw [List.take_succ_eq_append_getElem hlt']; simp [List.getD, hlt']
      have e3 : t.es = t.es.take i ++ ([t.es.getD i (0, 0)] ++ t.es.drop (i + 1)) := by rw [← List.append_assoc, ← e2, List.take_append_drop]
      refine (hf s1 D h2 (t.es.getD i (0, 0)) (nodeC b t.es.length ([] : List Nat).length p1 p2 p3 c1 c2 c3 + (C1 + (C2 + C3)) + G) (okLe hmo (by simp) (reachN hok (l := t.es) e3 hos hrun)) hi1 (hs1.to (B := D + (nodeC b t.es.length ([] : List Nat).length p1 p2 p3 c1 c2 c3 + (C1 + (C2 + C3)) + G)))).mono fun v3 h3 ⟨D', hv3, hi3, hs3⟩ => ?_
      have hs3 := hs3.to (B := nodeC b t.es.length ([] : List Nat).length p1 p2 p3 c1 c2 c3 + (C1 + (C2 + C3)) + (D' + G))
      refine ⟨_, hv3, cond_intro (fun hb => ?_) (fun hb => ?_)⟩
      · have hb' : (st s1 (t.es.getD i (0, 0))).2 = false := by simpa using hb
        have hr : runW st s (flat 0 t) = ((st s1 (t.es.getD i (0, 0))).1, false) := by
          show runW st s t.es = _
          conv => lhs; rw [e3]
          rw [runW_true hrun]
          refine runW_false ?_
          simp only [runW]
          rcases hst : st s1 (t.es.getD i (0, 0)) with ⟨s2, _ | _⟩
          · rfl
          · rw [hst] at hb'; cases hb'
        rw [hr]
        exact ⟨D', rfl, hi3, hs3⟩
      · have hb' : (st s1 (t.es.getD i (0, 0))).2 = true := by simpa using hb
        rw [btree_node_walk_b2_eq]
        refine ⟨⟨by omega, by omega⟩, ⟨i + 1, _, D', by simp only; omega, by omega, ?_, hi3, hs3⟩, by simp only; omega⟩
        rw [e2, runW_true hrun]
        simp only [runW]
        rcases hst : st s1 (t.es.getD i (0, 0)) with ⟨s2, _ | _⟩
        · rw [hst] at hb'; cases hb'
        · rfl
    · have : i = t.es.length := by omega
      subst this
      rw [List.take_of_length_le (Nat.le_refl _)] at hrun
      have hrun' : runW st s (flat 0 t) = (s1, true) := hrun
      rw [btree_node_walk_b3_eq]
      refine ⟨true, (leaf_ok hs1 hna0).mono fun v5 h6 ⟨hh6, hv5⟩ => ⟨hv5, hh6⟩, condYes rfl ?_⟩
      rw [hrun']
      exact ⟨D, rfl, hi1, hs1⟩
  | succ n ih =>
    intro b t A s C h G hh hz hos hi0 hs
    have hlen := hh.len
    obtain ⟨ks, A1, A2, rfl, hna, hkl, hall⟩ := hh
    have hna0 := hna
    obtain ⟨p1, p2, p3, c1, c2, c3, C1, C2, C3, rfl, ns⟩ := hna
    have hze := hz.here
    refine btree_node_walk_call ?_
    rw [btree_node_walk_b0_eq]
    refine condNo rfl ⟨_, _, _, (hs.at (nodeC b t.es.length ks.length p1 p2 p3 c1 c2 c3)).cell 0, ?_⟩
    have kid : ∀ (i : Nat), i < ks.length → ∀ (s1 : σ) (D : Bag) (h1 : Hp), Ok (flat n (t.ts.getD i nilT)).length s1 → Inv s1 D → St h0 h1 (nodeC b t.es.length ks.length p1 p2 p3 c1 c2 c3 + (C1 + (C2 + C3)) + A2 + (D + G)) →
        HCalls Try.prog 36 #[ptr (ks.getD i 0), .func (.func g) #[] cap] h1 (fun v h' => ∃ C', v = .bool (runW st s1 (flat n (t.ts.getD i nilT))).2 ∧ Inv (runW st s1 (flat n (t.ts.getD i nilT))).1 C' ∧ St h0 h' (nodeC b t.es.length ks.length p1 p2 p3 c1 c2 c3 + (C1 + (C2 + C3)) + A2 + (C' + G))) := by
      intro i hi' s1 D h1 ho1 hi1 hs1
      obtain ⟨Ai, B2, hA2, hk⟩ := hall.pick (d := nilT) (d' := 0) hi'
      have hzk : Sz lo hi n (t.ts.getD i nilT) := by
        have h2 : i < t.ts.length := by omega
        have : t.ts.getD i nilT = t.ts[i] := by simp [List.getD, h2]
        rw [this]; exact hz.2 _ (List.getElem_mem h2)
      have hs2 : St h0 h1 (Ai + (D + (nodeC b t.es.length ks.length p1 p2 p3 c1 c2 c3 + (C1 + (C2 + C3)) + (B2 + G)))) := by rw [hA2] at hs1; exact hs1.to
      refine (ih hk hzk ho1 hi1 hs2).mono fun v h' ⟨C', hv, hi2, hs3⟩ => ⟨C', hv, hi2, ?_⟩
      rw [hA2]; exact hs3.to
    refine ⟨fun x h' => ∃ (i : Nat) (s' : σ) (C' : Bag), x.1 = i ∧ i ≤ t.es.length ∧ runW st s (pre (n + 1) t i) = (s', true) ∧ Inv s' C' ∧ St h0 h' (nodeC b t.es.length ks.length p1 p2 p3 c1 c2 c3 + (C1 + (C2 + C3)) + A2 + (C' + G)), fun x _ => t.es.length - x.1.toNat, ⟨0, s, C, rfl, by omega, rfl, hi0, hs⟩, ?_⟩
    rintro ⟨_, _⟩ h1 ⟨i, s1, D, rfl, hil, hrun, hi1, hs1⟩
    dsimp only
    rw [btree_node_walk_b1_eq]
    have lf : ∀ {h2 : Hp} {D : Bag}, St h0 h2 (nodeC b t.es.length ks.length p1 p2 p3 c1 c2 c3 + (C1 + (C2 + C3)) + A2 + (D + G)) → HCalls Try.prog 42 #[ptr b] h2 (fun v h' => h' = h2 ∧ v = .bool false) := fun {h2 D} hs2 =>
      (leaf_ok (hs2.to (B := nodeC b t.es.length ks.length p1 p2 p3 c1 c2 c3 + (C1 + (C2 + C3)) + (A2 + (D + G)))) hna0).mono fun v h' ⟨hh, hv⟩ => ⟨hh, by rw [hv, decide_eq_false (by omega)]⟩
    refine condP (fun hlt => ?_) (fun hge => ?_)
    · have hlt' : i < t.es.length := by omega
      refine (ns.s1.rd (hs1.at C1)).int (by omega) (by omega) ?_
      rw [Int.toNat_natCast]
      refine (lf hs1).mono fun v1 h2 ⟨hh2, hv1⟩ => ?_
      subst hh2
      refine ⟨_, hv1, condYes rfl ⟨_, _, _, (hs1.at (nodeC b t.es.length ks.length p1 p2 p3 c1 c2 c3)).cellA 2, (ns.s3.rd (hs1.at C3)).ptr (by omega) (by omega) ?_⟩⟩
      rw [Int.toNat_natCast]
      have hrp := pre_succ (n := n) hlen hlt'
      refine (kid i (by omega) s1 D h2 (okLe hmo (by simp) (reachN hok (pre_mid hlen hlt').choose_spec hos hrun)) hi1 hs1).mono fun v2 h3 ⟨D2, hv2, hi2, hs2⟩ => ?_
      refine ⟨_, hv2, cond_intro (fun hb => ?_) (fun hb => ?_)⟩
      · -- it ends in the child
        have hb' : (runW st s1 (flat n (t.ts.getD i nilT))).2 = false := by simpa using hb
        have hr : runW st s (flat (n + 1) t) = ((runW st s1 (flat n (t.ts.getD i nilT))).1, false) := by
          obtain ⟨rest, hrest⟩ : ∃ rest, flat (n + 1) t = pre (n + 1) t i ++ (flat n (t.ts.getD i nilT) ++ rest) := ⟨_, (pre_mid hlen hlt').choose_spec⟩
          rw [hrest, runW_true hrun]
          refine runW_false ?_
          rcases hst : runW st s1 (flat n (t.ts.getD i nilT)) with ⟨s2, _ | _⟩
          · rfl
          · rw [hst] at hb'; cases hb'
        rw [hr]
        exact ⟨D2, rfl, hi2, hs2⟩
      have hb' : (runW st s1 (flat n (t.ts.getD i nilT))).2 = true := by simpa using hb
      have hrk : runW st s (pre (n + 1) t i ++ flat n (t.ts.getD i nilT)) = ((runW st s1 (flat n (t.ts.getD i nilT))).1, true) := by
        rw [runW_true hrun]
        rcases hst : runW st s1 (flat n (t.ts.getD i nilT)) with ⟨s2, _ | _⟩
        · rw [hst] at hb'; cases hb'
        · rfl
      refine ⟨_, _, _, (hs2.at (nodeC b t.es.length ks.length p1 p2 p3 c1 c2 c3)).cellA 1, (ns.s2.rd (hs2.at C2)).int (by omega) (by omega) ?_⟩
      rw [Int.toNat_natCast]
      show callX Try.prog F g _ _ _
      refine callX_of hg ?_
      have hg1 : (t.es.map Prod.fst).getD i 0 = (t.es.getD i (0, 0)).1 := by simp [List.getD, hlt']
      have hg2 : (t.es.map Prod.snd).getD i 0 = (t.es.getD i (0, 0)).2 := by simp [List.getD, hlt']
      rw [hg1, hg2]
      generalize hs' : (runW st s1 (flat n (t.ts.getD i nilT))).1 = s2 at hi2 hrk
      refine (hf s2 D2 h3 (t.es.getD i (0, 0)) (nodeC b t.es.length ks.length p1 p2 p3 c1 c2 c3 + (C1 + (C2 + C3)) + A2 + G) (okLe hmo (Nat.succ_le_succ (Nat.zero_le _)) (reachN hok (b := t.es.getD i (0, 0) :: (pre_mid (n := n) hlen hlt').choose) (by rw [List.append_assoc]; exact (pre_mid hlen hlt').choose_spec) hos hrk)) hi2 (hs2.to (B := D2 + (nodeC b t.es.length ks.length p1 p2 p3 c1 c2 c3 + (C1 + (C2 + C3)) + A2 + G)))).mono fun v3 h4 ⟨D', hv3, hi3, hs3⟩ => ?_
      have hs3 := hs3.to (B := nodeC b t.es.length ks.length p1 p2 p3 c1 c2 c3 + (C1 + (C2 + C3)) + A2 + (D' + G))
      refine ⟨_, hv3, cond_intro (fun hb => ?_) (fun hb => ?_)⟩
      · have hb' : (st s2 (t.es.getD i (0, 0))).2 = false := by simpa using hb
        have hr : runW st s (flat (n + 1) t) = ((st s2 (t.es.getD i (0, 0))).1, false) := by
          obtain ⟨rest, hrest⟩ : ∃ rest, flat (n + 1) t = pre (n + 1) t i ++ flat n (t.ts.getD i nilT) ++ ([t.es.getD i (0, 0)] ++ rest) := by
            obtain ⟨rest, h⟩ := pre_mid (n := n) hlen hlt'
            exact ⟨rest, by rw [h]; simp⟩
          rw [hrest, runW_true hrk]
          refine runW_false ?_
          simp only [runW]
          rcases hst : st s2 (t.es.getD i (0, 0)) with ⟨s3, _ | _⟩
          · rfl
          · rw [hst] at hb'; cases hb'
        rw [hr]
        exact ⟨D', rfl, hi3, hs3⟩
      · have hb' : (st s2 (t.es.getD i (0, 0))).2 = true := by simpa using hb
        rw [btree_node_walk_b2_eq]
        refine ⟨⟨by omega, by omega⟩, ⟨i + 1, _, D', by simp only; omega, by omega, ?_, hi3, hs3⟩, by simp only; omega⟩
        rw [hrp, ← List.append_assoc, runW_true hrk]
        simp only [runW]
        rcases hst : st s2 (t.es.getD i (0, 0)) with ⟨s3, _ | _⟩
        · rw [hst] at hb'; cases hb'
        · rfl
    · have : i = t.es.length := by omega
      subst this
      rw [btree_node_walk_b3_eq]
      refine ⟨false, (lf hs1).mono fun v5 h6 ⟨hh6, hv5⟩ => ⟨hv5, hh6⟩, condNo rfl ?_⟩
      have k1 := (hs1.at (nodeC b t.es.length ks.length p1 p2 p3 c1 c2 c3))
      refine ⟨_, _, _, k1.cellA 2, _, _, _, k1.cell 0, (ns.s3.rd (hs1.at C3)).ptr (by omega) (by omega) ?_⟩
      rw [Int.toNat_natCast]
      refine (kid t.es.length (by omega) s1 D h1 (reachN hok (pre_last hlen) hos hrun) hi1 hs1).mono fun v2 h3 ⟨D2, hv2, hi2, hs2⟩ => ?_
      refine ⟨_, hv2, ?_⟩
      have hr : runW st s (flat (n + 1) t) = runW st s1 (flat n (t.ts.getD t.es.length nilT)) := by rw [pre_last hlen, runW_true hrun]
      rw [hr]
      exact ⟨D2, rfl, hi2, hs2⟩
end
/-- The root's pointer is read, and a function called for all entries. -/
theorem walkTN {σ : Type} {h0 : Hp} {g : Nat} {cap : Array Value} {st : σ → E → σ × Bool} {Inv : σ → Bag → Prop} {Ok : Nat → σ → Prop} (hmo : ∀ j s, Ok (j + 1) s → Ok j s) (hok : ∀ j s e, Ok (j + 1) s → (st s e).2 = true → Ok j (st s e).1) (hg : F g = true) (hf : Fun1 h0 g cap st Inv (Ok 1))
    {order tb : Nat} {xs : List E} {vis : Int} {A C G : Bag} {h : Hp} {s : σ} (hor : 3 ≤ order) (h64 : order ≤ 64) (ta : TreeA order xs tb vis A) (ho : Ok xs.length s) (hi : Inv s C) (hs : St h0 h (A + (C + G))) :
    ∃ p1 : Option Addr, cell h ((⟨tb, 0, none⟩ : Addr).add 2) = some (.pointer p1) ∧ HCalls Try.prog 36 #[.pointer p1, .func (.func g) #[] cap] h (fun v h' => ∃ C', v = .bool (runW st s xs).2 ∧ Inv (runW st s xs).1 C' ∧ St h0 h' (A + (C' + G))) := by
  rcases ta with ⟨rfl, rfl⟩ | ⟨n, root, t, A1, rfl, hh, hfl, hsz⟩
  · refine ⟨_, hs.cellA 2, walk_nil.mono fun v h' ⟨hh, hv⟩ => ?_⟩
    subst hh
    exact ⟨C, hv, hi, hs⟩
  · have s1 := hs.to (B := treeC tb order xs.length (some ⟨root, 0, none⟩) vis + (A1 + (C + G)))
    refine ⟨_, s1.cellA 2, ?_⟩
    have s2 := hs.to (B := A1 + (C + (treeC tb order xs.length (some ⟨root, 0, none⟩) vis + G)))
    refine (walkN_ok hmo hok hg hf (lo := 1) (hi := order - 1) (by omega) n hh (hsz.one (by omega)) (by rw [hfl]; exact ho) hi s2).mono fun v h' ⟨C', hv, hi', s3⟩ => ?_
    rw [hfl] at hv hi'
    exact ⟨C', hv, hi', s3.to⟩

end Go.Proofs.Ytaemnjblcpknpaa

/- B-trees: Do. -/
set_option maxRecDepth 100000
namespace Go.Proofs.Ytaemnjblcpknpaa
open Go Go.Sx
theorem opv1 {code : Int} {zs : List Int} (h : OpV 1 code zs) : (1 ≤ code ∧ code ≤ 8) ∧ (code ≠ 8 → 1 ≤ zs.length) ∧ (code = 1 → 2 ≤ zs.length) ∧ ∀ z ∈ zs, KeyP z := by
  obtain ⟨h1, h2⟩ := h
  have e8 : (arT 1).length = 8 := rfl
  rw [e8] at h1
  obtain ⟨f1, f2, f3⟩ := arT_fact (k := 1) (c := code) (by omega) (by rw [e8]; exact h1)
  have f2 := f2 (by decide)
  rw [if_neg (by omega)] at h2
  have hc : code = 1 ∨ code = 2 ∨ code = 3 ∨ code = 4 ∨ code = 5 ∨ code = 6 ∨ code = 7 ∨ code = 8 := by omega
  have e : (arT 1).getD (code - 1).toNat 0 = if code = 1 then 2 else if code = 8 then 0 else 1 := by
    rcases hc with rfl | rfl | rfl | rfl | rfl | rfl | rfl | rfl <;> rfl
  rw [e] at h2
  refine ⟨⟨by omega, by omega⟩, fun h8 => ?_, fun h1' => ?_, h2.2⟩
  · have := h2.1
    rw [if_neg h8] at this
    split at this <;> omega
  · have := h2.1
    rw [if_pos h1'] at this; omega
def rankSt (key : Int) (s : Nat) (e : E) : Nat × Bool := (if e.1 < key then s + 1 else s, decide (e.1 < key))
theorem rank_run {key : Int} : ∀ (l : List E) (s : Nat), (runW (rankSt key) s l).1 = s + (lowS l key).length
  | [], s => rfl
  | e :: l, s => by
    by_cases h : e.1 < key
    · have h1 : rankSt key s e = (s + 1, true) := by simp [rankSt, h]
      have h2 : lowS (e :: l) key = e :: lowS l key := by simp [lowS, h]
      simp only [runW, h1]
      rw [rank_run l (s + 1), h2, List.length_cons]; omega
    · have h1 : rankSt key s e = (s, false) := by simp [rankSt, h]
      have h2 : lowS (e :: l) key = [] := by simp [lowS, h]
      simp only [runW, h1, h2]
      rfl
def RankI (bo bn : Nat) (q : Option Addr) (m cc : Nat) (code : Int) (s : Nat) (C : Bag) : Prop := C = cA bn [.int .i64 (s : Int)] 3 + cA bo [.int .i64 code, .slice q m cc] 58
theorem do_c1_ok {h0 : Hp} {bo bn : Nat} {q : Option Addr} {m cc : Nat} {code : Int} {zs : List Int} (rz : RdT TI h0 q m zs) (h1 : 1 ≤ zs.length) :
    Fun1 h0 52 #[ptr bo, ptr bn] (rankSt (zs.getD 0 0)) (RankI bo bn q m cc code) (fun s => s + 1 ≤ 1000000) := by
  rintro n C h ⟨k, v⟩ G hok rfl s
  show HCalls Try.prog 52 #[.int .i64 k, .int .i64 v, ptr bo, ptr bn] h _
  have hzl := rz.len
  have fin : ∀ (h' : Hp) (n' : Nat), n' = (rankSt (zs.getD 0 0) n (k, v)).1 → St h0 h' (cA bn [.int .i64 (n' : Int)] 3 + cA bo [.int .i64 code, .slice q m cc] 58 + G) →
      btree_Tree_Do_c1_b1 k (some ⟨bo, 0, none⟩) h' (fun v' h' => ∃ C', v' = .bool (rankSt (zs.getD 0 0) n (k, v)).2 ∧ RankI bo bn q m cc code (rankSt (zs.getD 0 0) n (k, v)).1 C' ∧ St h0 h' (C' + G)) := by
    rintro h' _ rfl s
    rw [btree_Tree_Do_c1_b1_eq]
    have kb := (s.at (cA bo [.int .i64 code, .slice q m cc] 58)).blk
    exact ⟨_, _, _, Blk.cellA kb 1, (rz.ext s.ext).int (by omega) (by omega) ⟨_, rfl, rfl, s⟩⟩
  refine btree_Tree_Do_c1_call ?_
  rw [btree_Tree_Do_c1_b0_eq]
  have kb := (s.at (cA bo [.int .i64 code, .slice q m cc] 58)).blk
  refine ⟨_, _, _, Blk.cellA kb 1, (rz.ext s.ext).int (by omega) (by omega) ?_⟩
  rw [show Int.toNat (0 : Int) = 0 from rfl]
  refine condP (fun hk => ?_) (fun hk => ?_)
  · have s := s.to (B := cA bn [.int .i64 (n : Int)] 3 + (cA bo [.int .i64 code, .slice q m cc] 58 + G))
    refine ⟨_, s.cell 0, ⟨by omega, by omega⟩, ?_⟩
    refine s.wr rfl (by simp) fun h' s' => ?_
    refine fin h' (n + 1) (by simp only [rankSt]; rw [if_pos hk]) ?_
    have s' : St h0 h' (cA bn [.int .i64 ((n : Int) + 1)] 3 + (cA bo [.int .i64 code, .slice q m cc] 58 + G)) := s'
    have e : ((n + 1 : Nat) : Int) = (n : Int) + 1 := by omega
    rw [e]
    exact s'.to
  · exact fin h n (by simp only [rankSt]; rw [if_neg hk]) s
def atSt (s : Int × Int) (e : E) : (Int × Int) × Bool := ((e.1, s.2 - 1), decide (0 ≤ s.2 - 1))
theorem at_run : ∀ (l : List E) (i : Nat) (x : Int), i < l.length → (runW atSt (x, (i : Int)) l).1.1 = (l.getD i (0, 0)).1
  | [], i, x, h => by simp at h
  | e :: l, 0, x, _ => by
    have h1 : atSt (x, ((0 : Nat) : Int)) e = ((e.1, -1), false) := rfl
    simp only [runW, h1]
    rfl
  | e :: l, i + 1, x, h => by
    have h1 : atSt (x, ((i + 1 : Nat) : Int)) e = ((e.1, (i : Int)), true) := by
      have : ((i + 1 : Nat) : Int) - 1 = (i : Int) := by omega
      simp only [atSt, this]
      rw [decide_eq_true (by omega)]
    simp only [runW, h1]
    rw [at_run l i e.1 (by simpa using h)]
    simp
def AtI (bk bi : Nat) (s : Int × Int) (C : Bag) : Prop := C = cA bk [.int .i64 s.1] 3 + cA bi [.int .i64 s.2] 3
theorem at_c1_ok {h0 : Hp} {bk bi : Nat} : Fun1 h0 78 #[ptr bk, ptr bi] atSt (AtI bk bi) (fun s => 0 ≤ s.2 ∧ s.2 ≤ 1000000) := by
  rintro ⟨x, i⟩ C h ⟨k, v⟩ G hok rfl s
  show HCalls Try.prog 78 #[.int .i64 k, .int .i64 v, ptr bk, ptr bi] h _
  dsimp only at hok s
  refine btree_Tree_at_c1_call ?_
  rw [btree_Tree_at_c1_b0_eq]
  have s := s.to (B := cA bk [.int .i64 x] 3 + (cA bi [.int .i64 i] 3 + G))
  refine s.wr rfl (by simp) fun h' s' => ?_
  have s' : St h0 h' (cA bk [.int .i64 k] 3 + (cA bi [.int .i64 i] 3 + G)) := s'
  have s' := s'.to (B := cA bi [.int .i64 i] 3 + (cA bk [.int .i64 k] 3 + G))
  refine ⟨_, s'.cell 0, ⟨by omega, by omega⟩, ?_⟩
  refine s'.wr rfl (by simp) fun h2 s2 => ?_
  have s2 : St h0 h2 (cA bi [.int .i64 (i - 1)] 3 + (cA bk [.int .i64 k] 3 + G)) := s2
  exact ⟨_, s2.cell 0, _, rfl, rfl, s2.to⟩
section
variable {h0 h : Hp} {order tb : Nat} {xs : List E} {vis : Int} {A G : Bag} (hor : 3 ≤ order) (h64 : order ≤ 64) (ta : TreeA order xs tb vis A) (s : St h0 h (A + G))
include hor h64 ta s
theorem at_ok {i : Int} (hmost : xs.length ≤ 100000) : HCalls Try.prog 53 #[ptr tb, .int .i64 i] h (fun v h' => v = .tuple #[.int .i64 (if i < 0 ∨ (xs.length : Int) ≤ i then 0 else (xs.getD i.toNat (0, 0)).1), .int .i64 (if i < 0 ∨ (xs.length : Int) ≤ i then 2 else 0)] ∧ St h0 h' (A + G)) := by
  refine btree_Tree_at_call ?_
  rw [btree_Tree_at_b0_eq]
  refine s.new (cs := [.int .i64 i]) fun b1 h1 _ s1 => ?_
  have kb := s1.blk
  refine ⟨_, kb.cell 0, condP (fun hneg => ?_) (fun hneg => ⟨_, kb.cell 0, ?_⟩)⟩
  · rw [if_pos (.inl hneg), if_pos (.inl hneg)]
    exact ⟨rfl, s1.drop⟩
  obtain ⟨root, A1, rfl, _⟩ := ta.vis
  have kt := (s1.at (treeC tb order xs.length root vis)).blk
  refine ⟨_, Blk.cellA kt 1, condP (fun hbig => ?_) (fun hbig => ?_)⟩
  · rw [if_pos (.inr (by omega)), if_pos (.inr (by omega))]
    exact ⟨rfl, s1.drop⟩
  rw [if_neg (by omega), if_neg (by omega), btree_Tree_at_b1_eq]
  refine s1.new (cs := [.int .i64 0]) fun b2 h2 _ s2 => ?_
  refine s2.wr rfl (by simp) fun h3 s3 => ?_
  have s3 : St h0 h3 (cA b2 [.int .i64 0] 3 + (cA b1 [.int .i64 i] 3 + (treeC tb order xs.length root vis + A1 + G))) := s3
  obtain ⟨j, rfl⟩ : ∃ j : Nat, i = (j : Int) := ⟨i.toNat, by omega⟩
  obtain ⟨p1, hp1, hw⟩ := walkT (Ok := fun s : Int × Int => 0 ≤ s.2 ∧ s.2 ≤ 1000000) (fun s e ho hs => ⟨of_decide_eq_true hs, by have := ho.2; show s.2 - 1 ≤ 1000000; omega⟩) (by kernel_rfl) (at_c1_ok (h0 := h0) (bk := b2) (bi := b1)) hor h64 ta (s := (0, (j : Int))) (C := cA b2 [.int .i64 0] 3 + cA b1 [.int .i64 (j : Int)] 3) ⟨by omega, by simp only; omega⟩ rfl (s3.to (B := treeC tb order xs.length root vis + A1 + (cA b2 [.int .i64 0] 3 + cA b1 [.int .i64 (j : Int)] 3 + G)))
  refine ⟨p1, hp1, hw.mono fun v h4 ⟨C', hv, hi, s4⟩ => ⟨_, hv, ?_⟩⟩
  obtain rfl : C' = _ := hi
  have hr := at_run xs j 0 (by omega)
  have k2 := (s4.at (cA b2 [.int .i64 (runW atSt (0, (j : Int)) xs).1.1] 3)).blk
  refine ⟨_, k2.cell 0, ?_, (s4.to (B := (cA b2 [.int .i64 (runW atSt (0, (j : Int)) xs).1.1] 3 + cA b1 [.int .i64 (runW atSt (0, (j : Int)) xs).1.2] 3) + (treeC tb order xs.length root vis + A1 + G))).drop⟩
  rw [hr, Int.toNat_natCast]
end
/-- What Do leaves. -/
def DoP (h0 : Hp) (G : Bag) (order tb : Nat) (vis : Int) (xs : List E) (e z : Int) (v : Value) (h' : Hp) : Prop :=
  ∃ A' vis', (vis ≤ vis' ∧ vis' ≤ vis + 1000) ∧ v = .tuple #[.agg #[.int .i64 e, .int .i64 z, .slice none 0 0], .int .i64 0] ∧ TreeA order xs tb vis' A' ∧ St h0 h' (A' + G)
theorem do_fin {h0 h : Hp} {order tb b1 b2 b3 : Nat} {xs : List E} {vis vis' e z : Int} {A' G : Bag} {y0 y1 y2 : Value} {O : List Value} (hv : vis ≤ vis' ∧ vis' ≤ vis + 1000) (ta : TreeA order xs tb vis' A')
    (s : St h0 h (cA b3 [.int .i64 z] 3 + (cA b1 O 58 + (cA b2 [y0, y1, y2] 61 + (A' + G))))) : btree_Tree_Do_b2 (some ⟨b2, 0, none⟩) (some ⟨b3, 0, none⟩) e h (DoP h0 G order tb vis xs e z) := by
  rw [btree_Tree_Do_b2_eq]
  refine ⟨_, s.cell 0, ?_⟩
  have s := s.to (B := cA b2 [y0, y1, y2] 61 + (cA b1 O 58 + (cA b3 [.int .i64 z] 3 + (A' + G))))
  refine s.wr rfl (by simp) fun h6 s6 => ?_
  refine s6.wr (o := 1) (add_mk _ _ _) (by simp) fun h7 s7 => ?_
  refine s7.wr (o := 2) (add_mk _ _ _) (by simp) fun h8 s8 => ?_
  refine ⟨_, _, _, _, _, s8.blk.cell 0, Blk.cellA s8.blk 1, Blk.cellA s8.blk 2, A', vis', hv, rfl, ta, ?_⟩
  have s8 : St h0 h8 (cA b2 [.int .i64 e, .int .i64 z, .slice none 0 0] 61 + (cA b1 O 58 + (cA b3 [.int .i64 z] 3 + (A' + G)))) := s8
  exact (s8.to (B := (cA b2 [.int .i64 e, .int .i64 z, .slice none 0 0] 61 + cA b1 O 58 + cA b3 [.int .i64 z] 3) + (A' + G))).drop
end Go.Proofs.Ytaemnjblcpknpaa

/- B-trees: Do, all operations. -/
set_option maxRecDepth 100000
namespace Go.Proofs.Ytaemnjblcpknpaa
open Go Go.Sx
theorem put_eq {xs : List E} {zs : List Int} (hk : KeyP (zs.getD 0 0)) (hb : KeyP (zs.getD 1 0)) (hl : xs.length < 500) :
    dictS xs 1 zs = ((putS xs (zs.getD 0 0) (zs.getD 1 0)).1, (putS xs (zs.getD 0 0) (zs.getD 1 0)).2.2.2, if (putS xs (zs.getD 0 0) (zs.getD 1 0)).2.2.1 = true then 1 else 0) := by
  have e : dictS xs 1 zs = (if hasKey (upS xs (zs.getD 0 0)) (zs.getD 0 0) = true then (lowS xs (zs.getD 0 0) ++ (zs.getD 0 0, zs.getD 1 0) :: (upS xs (zs.getD 0 0)).tail, 0, 1) else if xs.length = 500 then (xs, 4, 0) else (lowS xs (zs.getD 0 0) ++ (zs.getD 0 0, zs.getD 1 0) :: upS xs (zs.getD 0 0), 0, 0)) := rfl
  by_cases hf : hasKey (upS xs (zs.getD 0 0)) (zs.getD 0 0) = true
  · have hp : putS xs (zs.getD 0 0) (zs.getD 1 0) = (lowS xs (zs.getD 0 0) ++ (zs.getD 0 0, zs.getD 1 0) :: (upS xs (zs.getD 0 0)).tail, valOf (upS xs (zs.getD 0 0)), true, 0) := by rw [putS, if_pos ⟨hk, hb⟩, if_pos hf]
    rw [hp, e, if_pos hf]; rfl
  · have hp : putS xs (zs.getD 0 0) (zs.getD 1 0) = (lowS xs (zs.getD 0 0) ++ (zs.getD 0 0, zs.getD 1 0) :: upS xs (zs.getD 0 0), 0, false, 0) := by rw [putS, if_pos ⟨hk, hb⟩, if_neg hf, if_neg (by omega)]
    rw [hp, e, if_neg hf, if_neg (by omega)]; rfl
theorem get_eq {xs : List E} {zs : List Int} (hk : KeyP (zs.getD 0 0)) : dictS xs 2 zs = (xs, (getS xs (zs.getD 0 0)).2, (getS xs (zs.getD 0 0)).1) := by
  have e : dictS xs 2 zs = (if hasKey (upS xs (zs.getD 0 0)) (zs.getD 0 0) = true then (xs, 0, valOf (upS xs (zs.getD 0 0))) else (xs, 12, 0)) := rfl
  rw [e, getS, if_pos hk]
  split <;> rfl
theorem rem_eq {xs : List E} {zs : List Int} (hk : KeyP (zs.getD 0 0)) : dictS xs 3 zs = ((removeS xs (zs.getD 0 0)).1, (removeS xs (zs.getD 0 0)).2.2, (removeS xs (zs.getD 0 0)).2.1) := by
  have e : dictS xs 3 zs = (if hasKey (upS xs (zs.getD 0 0)) (zs.getD 0 0) = true then (lowS xs (zs.getD 0 0) ++ (upS xs (zs.getD 0 0)).tail, 0, valOf (upS xs (zs.getD 0 0))) else (xs, 12, 0)) := rfl
  rw [e, removeS, if_pos hk]
  split <;> rfl
theorem floor_eq {xs : List E} {zs : List Int} (hk : KeyP (zs.getD 0 0)) : dictS xs 4 zs = (xs, (FloorS xs (zs.getD 0 0)).2.2, (FloorS xs (zs.getD 0 0)).1) := by
  have e : dictS xs 4 zs = (if hasKey (upS xs (zs.getD 0 0)) (zs.getD 0 0) = true then (xs, 0, zs.getD 0 0) else if (lowS xs (zs.getD 0 0)).length = 0 then (xs, 12, 0) else (xs, 0, (lastOf (lowS xs (zs.getD 0 0))).1)) := rfl
  rw [e, FloorS, if_pos hk, floorS]
  by_cases hf : hasKey (upS xs (zs.getD 0 0)) (zs.getD 0 0) = true
  · rw [if_pos hf, if_pos hf]; rfl
  · rw [if_neg hf, if_neg hf]
    by_cases h0 : (lowS xs (zs.getD 0 0)).length = 0
    · have hn : lowS xs (zs.getD 0 0) = [] := List.eq_nil_of_length_eq_zero h0
      rw [if_pos h0, hn]; rfl
    · obtain ⟨_, _, w3⟩ := last_getD (xs := xs) (key := zs.getD 0 0) (by omega)
      rw [if_neg h0, if_pos w3]
theorem ceil_eq {xs : List E} {zs : List Int} (hk : KeyP (zs.getD 0 0)) : dictS xs 5 zs = (xs, (CeilS xs (zs.getD 0 0)).2.2, (CeilS xs (zs.getD 0 0)).1) := by
  have e : dictS xs 5 zs = (if (lowS xs (zs.getD 0 0)).length = xs.length then (xs, 12, 0) else (xs, 0, (headOf (upS xs (zs.getD 0 0))).1)) := rfl
  have hlen := congrArg List.length (upS_len (xs := xs) (key := zs.getD 0 0))
  rw [List.length_append] at hlen
  rw [e, CeilS, if_pos hk, ceilS]
  cases hu : upS xs (zs.getD 0 0) with
  | nil => rw [hu, List.length_nil] at hlen; rw [if_pos (by omega)]; rfl
  | cons y ys => rw [hu, List.length_cons] at hlen; rw [if_neg (by omega)]; rfl
theorem TDo_valid {h0 h : Hp} {order tb b1 b2 : Nat} {xs : List E} {vis : Int} {code : Int} {q : Option Addr} {m cc : Nat} {zs : List Int} {A G : Bag} (hor : 3 ≤ order) (h64 : order ≤ 64) (so : Srt xs) (hmost : xs.length < 500) (hvis : 0 ≤ vis ∧ vis ≤ 1000000000) (ta : TreeA order xs tb vis A) (rz : RdT TI h0 q m zs) (hv : OpV 1 code zs)
    (s : St h0 h (cA b1 [.int .i64 code, .slice q m cc] 58 + (cA b2 [.int .i64 0, .int .i64 0, .slice none 0 0] 61 + (A + G)))) :
    btree_Tree_Do_b1 (some ⟨tb, 0, none⟩) (some ⟨b1, 0, none⟩) (some ⟨b2, 0, none⟩) h (DoP h0 G order tb vis (dictS xs code zs).1 (dictS xs code zs).2.1 (dictS xs code zs).2.2) := by
  obtain ⟨hc, hz1, hz2, hz⟩ := opv1 hv
  have hzl := rz.len
  have hgk : ∀ i, i < zs.length → KeyP (zs.getD i 0) := fun i hi => by
    have : zs.getD i 0 = zs[i] := by simp [List.getD, hi]
    rw [this]; exact hz _ (List.getElem_mem hi)
  have e0 : Int.toNat (0 : Int) = 0 := rfl
  have e1 : Int.toNat (1 : Int) = 1 := rfl
  rw [btree_Tree_Do_b1_eq]
  refine s.new (cs := [.int .i64 0]) fun b3 h3 _ s3 => ?_
  refine s3.wr rfl (by simp) fun h4 s4 => ?_
  have s4 : St h0 h4 (cA b3 [.int .i64 0] 3 + (cA b1 [.int .i64 code, .slice q m cc] 58 + (cA b2 [.int .i64 0, .int .i64 0, .slice none 0 0] 61 + (A + G)))) := s4
  have kb := s4.atomBlk
  have rz4 := rz.ext s4.ext
  -- the number is written, and the end
  have wfin : ∀ {h5 : Hp} {A' : Bag} {vis' e z z0 : Int} {ys : List E}, (vis ≤ vis' ∧ vis' ≤ vis + 1000) → TreeA order ys tb vis' A' → St h0 h5 (A' + (cA b3 [.int .i64 z0] 3 + (cA b1 [.int .i64 code, .slice q m cc] 58 + (cA b2 [.int .i64 0, .int .i64 0, .slice none 0 0] 61 + G)))) →
      Wr h5 ⟨b3, 0, none⟩ (.int .i64 z) fun h6 => btree_Tree_Do_b2 (some ⟨b2, 0, none⟩) (some ⟨b3, 0, none⟩) e h6 (DoP h0 G order tb vis ys e z) := by
    intro h5 A' vis' e z z0 ys hv' ta' s5
    have s5 := s5.to (B := cA b3 [.int .i64 z0] 3 + (cA b1 [.int .i64 code, .slice q m cc] 58 + (cA b2 [.int .i64 0, .int .i64 0, .slice none 0 0] 61 + (A' + G))))
    exact s5.wr rfl (by simp) fun h6 s6 => do_fin hv' ta' s6
  have sA := s4.to (B := A + (cA b3 [.int .i64 0] 3 + (cA b1 [.int .i64 code, .slice q m cc] 58 + (cA b2 [.int .i64 0, .int .i64 0, .slice none 0 0] 61 + G))))
  refine ⟨_, kb.cell 0, condP (fun hc1 => ?_) (fun hc1 => ?_)⟩
  · subst hc1
    have hz2 := hz2 rfl
    refine ⟨_, _, _, Blk.cellA kb 1, rz4.int (by omega) (by omega) ⟨_, _, _, Blk.cellA kb 1, rz4.int (by omega) (by omega) ?_⟩⟩
    rw [e0, e1]
    refine (Put_ok (key := zs.getD 0 0) (value := zs.getD 1 0) hor h64 so (by omega) ⟨by omega, by omega⟩ ta sA).mono fun v2 h5 ⟨A', vis', hvis', hv2, ta', s5⟩ => ⟨_, _, _, hv2, ?_⟩
    rw [put_eq (hgk 0 (by omega)) (hgk 1 (by omega)) hmost]
    refine cond_intro (fun hr => ?_) (fun hr => ?_)
    · rw [if_pos hr]
      exact wfin hvis'.1 ta' s5
    · rw [if_neg (by rw [hr]; simp)]
      exact do_fin hvis'.1 ta' (s5.to (B := cA b3 [.int .i64 0] 3 + (cA b1 [.int .i64 1, .slice q m cc] 58 + (cA b2 [.int .i64 0, .int .i64 0, .slice none 0 0] 61 + (A' + G)))))
  refine condP (fun hc2 => ?_) (fun hc2 => ?_)
  · subst hc2
    have hz1 := hz1 (by decide)
    refine ⟨_, _, _, Blk.cellA kb 1, rz4.int (by omega) (by omega) ?_⟩
    rw [e0]
    refine (Get_ok (key := zs.getD 0 0) hor h64 so (by omega) ⟨by omega, by omega⟩ ta sA).mono fun v2 h5 ⟨A', vis', hvis', hv2, ta', s5⟩ => ⟨_, _, hv2, ?_⟩
    rw [get_eq (hgk 0 (by omega))]
    exact wfin hvis' ta' s5
  refine condP (fun hc3 => ?_) (fun hc3 => ?_)
  · subst hc3
    have hz1 := hz1 (by decide)
    refine ⟨_, _, _, Blk.cellA kb 1, rz4.int (by omega) (by omega) ?_⟩
    rw [e0]
    refine (Remove_ok (key := zs.getD 0 0) hor h64 so (by omega) ⟨by omega, by omega⟩ ta sA).mono fun v2 h5 ⟨A', vis', hvis', hv2, ta', s5⟩ => ⟨_, _, hv2, ?_⟩
    rw [rem_eq (hgk 0 (by omega))]
    exact wfin hvis' ta' s5
  refine condP (fun hc4 => ?_) (fun hc4 => ?_)
  · subst hc4
    have hz1 := hz1 (by decide)
    refine ⟨_, _, _, Blk.cellA kb 1, rz4.int (by omega) (by omega) ?_⟩
    rw [e0]
    refine (Floor_ok (key := zs.getD 0 0) hor h64 so (by omega) ⟨by omega, by omega⟩ ta sA).mono fun v2 h5 ⟨A', vis', hvis', hv2, ta', s5⟩ => ⟨_, _, _, hv2, ?_⟩
    rw [floor_eq (hgk 0 (by omega))]
    exact wfin hvis' ta' s5
  refine condP (fun hc5 => ?_) (fun hc5 => ?_)
  · subst hc5
    have hz1 := hz1 (by decide)
    refine ⟨_, _, _, Blk.cellA kb 1, rz4.int (by omega) (by omega) ?_⟩
    rw [e0]
    refine (Ceil_ok (key := zs.getD 0 0) hor h64 so (by omega) ⟨by omega, by omega⟩ ta sA).mono fun v2 h5 ⟨A', vis', hvis', hv2, ta', s5⟩ => ⟨_, _, _, hv2, ?_⟩
    rw [ceil_eq (hgk 0 (by omega))]
    exact wfin hvis' ta' s5
  refine condP (fun hc6 => ?_) (fun hc6 => ?_)
  · subst hc6
    have hz1 := hz1 (by decide)
    have sW := s4.to (B := A + (cA b3 [.int .i64 ((0 : Nat) : Int)] 3 + cA b1 [.int .i64 6, .slice q m cc] 58 + (cA b2 [.int .i64 0, .int .i64 0, .slice none 0 0] 61 + G)))
    obtain ⟨p1, hp1, hw⟩ := walkTN (Ok := fun j (s : Nat) => s + j ≤ 1000000) (fun j s h => by omega) (fun j s e ho _ => by show (if e.1 < zs.getD 0 0 then s + 1 else s) + j ≤ 1000000; split <;> omega) (by kernel_rfl) (do_c1_ok (h0 := h0) (bo := b1) (bn := b3) (q := q) (m := m) (cc := cc) (code := 6) rz (by omega)) hor h64 ta (s := (0 : Nat)) (by show 0 + xs.length ≤ 1000000; omega) rfl sW
    refine ⟨p1, hp1, hw.mono fun v7 h5 ⟨C', hv7, hi, s5⟩ => ⟨_, hv7, ?_⟩⟩
    obtain rfl : C' = _ := hi
    have e : dictS xs 6 zs = (xs, 0, ((lowS xs (zs.getD 0 0)).length : Int)) := rfl
    rw [rank_run, Nat.zero_add] at s5
    rw [e]
    exact do_fin ⟨by omega, by omega⟩ ta (s5.to (B := cA b3 [.int .i64 ((lowS xs (zs.getD 0 0)).length : Int)] 3 + (cA b1 [.int .i64 6, .slice q m cc] 58 + (cA b2 [.int .i64 0, .int .i64 0, .slice none 0 0] 61 + (A + G)))))
  refine condP (fun hc7 => ?_) (fun hc7 => ?_)
  · subst hc7
    have hz1 := hz1 (by decide)
    refine ⟨_, _, _, Blk.cellA kb 1, rz4.int (by omega) (by omega) ?_⟩
    rw [e0]
    refine (at_ok (i := zs.getD 0 0) hor h64 ta sA (by omega)).mono fun v2 h5 ⟨hv2, s5⟩ => ⟨_, _, hv2, ?_⟩
    have e : dictS xs 7 zs = (if zs.getD 0 0 < 0 ∨ (xs.length : Int) ≤ zs.getD 0 0 then (xs, 2, 0) else (xs, 0, (xs.getD (zs.getD 0 0).toNat (0, 0)).1)) := rfl
    have e' : dictS xs 7 zs = (xs, (if zs.getD 0 0 < 0 ∨ (xs.length : Int) ≤ zs.getD 0 0 then 2 else 0), (if zs.getD 0 0 < 0 ∨ (xs.length : Int) ≤ zs.getD 0 0 then 0 else (xs.getD (zs.getD 0 0).toNat (0, 0)).1)) := by
      rw [e]; split <;> rfl
    rw [e']
    exact wfin ⟨by omega, by omega⟩ ta s5
  obtain rfl : code = 8 := by omega
  obtain ⟨root, A1, rfl, _⟩ := ta.vis
  have kt := (s4.at (treeC tb order xs.length root vis)).blk
  refine condYes rfl ⟨_, Blk.cellA kt 1, ?_⟩
  have e : dictS xs 8 zs = (xs, 0, (xs.length : Int)) := rfl
  rw [e]
  exact wfin ⟨by omega, by omega⟩ ta sA
theorem TDo_yes {h0 h : Hp} {order tb : Nat} {xs : List E} {vis : Int} {code : Int} {q : Option Addr} {m cc : Nat} {zs : List Int} {A G : Bag} (hor : 3 ≤ order) (h64 : order ≤ 64) (so : Srt xs) (hmost : xs.length < 500) (hvis : 0 ≤ vis ∧ vis ≤ 1000000000) (ta : TreeA order xs tb vis A) (rz : RdT TI h0 q m zs) (hm : m ≤ 1000000) (s : St h0 h (A + G)) (hv : OpV 1 code zs) :
    HCalls Try.prog 25 #[ptr tb, .agg #[.int .i64 code, .slice q m cc]] h (DoP h0 G order tb vis (dictS xs code zs).1 (dictS xs code zs).2.1 (dictS xs code zs).2.2) := by
  refine btree_Tree_Do_call ?_
  rw [btree_Tree_Do_b0_eq]
  refine s.new (cs := [.int .i64 code, .slice q m cc]) fun b1 h1 _ s1 => ?_
  refine s1.new (cs := [.int .i64 0, .int .i64 0, .slice none 0 0]) fun b2 h2 _ s2 => ?_
  have kb := s2.atomBlk
  refine condNo rfl ⟨_, _, _, _, kb.cell 0, Blk.cellA kb 1, (mValid_ok (rz.ext s2.ext) hm).mono fun v1 h3 ⟨hv1, x3⟩ => ⟨_, hv1, ?_⟩⟩
  have s3 := s2.grow x3
  exact condNo (by rw [decide_eq_true hv]; rfl) (TDo_valid hor h64 so hmost hvis ta rz hv s3.to)
theorem TDo_no {h0 h : Hp} {tb : Nat} {code : Int} {q : Option Addr} {m cc : Nat} {zs : List Int} {A : Bag} (rz : RdT TI h0 q m zs) (hm : m ≤ 1000000) (s : St h0 h A) (hv : ¬ OpV 1 code zs) :
    HCalls Try.prog 25 #[ptr tb, .agg #[.int .i64 code, .slice q m cc]] h (fun v h' => v = .tuple #[.agg #[.int .i64 0, .int .i64 0, .slice none 0 0], .int .i64 1] ∧ St h0 h' A) := by
  refine btree_Tree_Do_call ?_
  rw [btree_Tree_Do_b0_eq]
  refine s.new (cs := [.int .i64 code, .slice q m cc]) fun b1 h1 _ s1 => ?_
  refine s1.new (cs := [.int .i64 0, .int .i64 0, .slice none 0 0]) fun b2 h2 _ s2 => ?_
  have kb := s2.atomBlk
  refine condNo rfl ⟨_, _, _, _, kb.cell 0, Blk.cellA kb 1, (mValid_ok (rz.ext s2.ext) hm).mono fun v1 h3 ⟨hv1, x3⟩ => ⟨_, hv1, ?_⟩⟩
  have s3 := s2.grow x3
  refine condYes (by rw [decide_eq_false hv]; rfl) ?_
  refine s3.wr rfl (by simp) fun h4 s4 => ?_
  refine s4.wr (o := 1) (add_mk _ _ _) (by simp) fun h5 s5 => ?_
  refine s5.wr (o := 2) (add_mk _ _ _) (by simp) fun h6 s6 => ?_
  exact ⟨_, _, _, _, _, s6.blk.cell 0, Blk.cellA s6.blk 1, Blk.cellA s6.blk 2, rfl, s6.drop.drop⟩
end Go.Proofs.Ytaemnjblcpknpaa

/- B-trees: the reference's State and Do. -/
set_option maxRecDepth 100000
namespace Go.Proofs.Ytaemnjblcpknpaa
open Go Go.Sx
theorem State_ok {h : Hp} {p : Option Addr} {n c : Nat} {l : List E} (r : RdT TE h p n l) (hn : n ≤ 1000) :
    HCalls Try.prog 58 #[.slice p n c] h (fun v h' => ∃ q d B, v = .agg #[.int .i64 1, .slice q n d] ∧ RowsA (q, n, d) (l.map row2) B ∧ St h h' B) := by
  have hl := r.len
  refine r43_State_call ?_
  rw [r43_State_b0_eq]
  refine (St.start h).new (cs := [.int .i64 0, .slice none 0 0]) fun b1 h1 _ s1 => ?_
  refine s1.new (cs := [.int .i64 0, .slice none 0 0]) fun b2 h2 _ s2 => ?_
  refine s2.wr rfl (by simp) fun h3 s3 => ?_
  refine s3.wr (o := 1) (add_mk _ _ _) (by simp) fun h4 s4 => ?_
  have s4 : St h h4 (cA b2 [.int .i64 1, .slice none 0 0] 108 + (cA b1 [.int .i64 0, .slice none 0 0] 108 + 0)) := s4
  refine ⟨fun x h' => ∃ (i : Nat) (q : Option Addr) (d : Nat) (B : Bag), x.1 = i ∧ i ≤ n ∧ RowsA (q, i, d) ((l.take i).map row2) B ∧ St h h' (cA b2 [.int .i64 1, .slice q i d] 108 + (B + (cA b1 [.int .i64 0, .slice none 0 0] 108 + 0))), fun x _ => n - x.1.toNat, ⟨0, none, 0, 0, rfl, by omega, Nest.nil, s4.to⟩, ?_⟩
  rintro ⟨_, _⟩ h5 ⟨i, q, d, B, rfl, hin, na, s5⟩
  dsimp only
  rw [r43_State_b1_eq]
  have r5 := r.ext s5.ext
  refine condP (fun hlt => ?_) (fun hge => ?_)
  · have hil : i < l.length := by omega
    refine ⟨_, _, _, Blk.cellA s5.blk 1, pair_at r5 (by omega) (by omega) (pair_at1A r5 (by omega) (by omega) fun _ _ => ?_)⟩
    rw [Int.toNat_natCast]
    refine s5.new (cs := [.int .i64 (l.getD i (0, 0)).1, .int .i64 (l.getD i (0, 0)).2]) fun b3 h6 x6 s6 => ⟨⟨_, _, _, Blk.cellA (s5.blk.ext x6) 1, rfl⟩, ?_⟩
    have kb6 := s5.blk.ext x6
    have o3 : Sl TI (some ⟨b3, 0, none⟩) 2 2 (row2 (l.getD i (0, 0))) (cA b3 [.int .i64 (l.getD i (0, 0)).1, .int .i64 (l.getD i (0, 0)).2] 3) := Sl.of_blk (T := TI) (xs := row2 (l.getD i (0, 0))) rfl rfl
    have s6 := s6.to (B := B + (cA b3 [.int .i64 (l.getD i (0, 0)).1, .int .i64 (l.getD i (0, 0)).2] 3 + (cA b2 [.int .i64 1, .slice q i d] 108 + (cA b1 [.int .i64 0, .slice none 0 0] 108 + 0))))
    refine push_nestR s6 na o3 rfl (by omega) (fun h7 x7 => ⟨_, _, _, Blk.cellA (kb6.ext x7) 1, rfl⟩) fun q' d' h8 B' na' s8 => ?_
    have s8 := s8.to (B := cA b2 [.int .i64 1, .slice q i d] 108 + (B' + (cA b1 [.int .i64 0, .slice none 0 0] 108 + 0)))
    refine s8.wr (o := 1) (add_mk _ _ _) (by simp) fun h9 s9 => ?_
    rw [r43_State_b2_eq]
    refine ⟨⟨by omega, by omega⟩, ⟨i + 1, q', d', B', by simp only; omega, by omega, ?_, s9⟩, by simp only; omega⟩
    rw [take_one hil, List.map_append]
    exact na'
  · obtain rfl : n = i := by omega
    rw [r43_State_b3_eq]
    refine ⟨_, _, _, _, s5.blk.cell 0, Blk.cellA s5.blk 1, ?_⟩
    have s5 := s5.to (B := cA b1 [.int .i64 0, .slice none 0 0] 108 + (cA b2 [.int .i64 1, .slice q n d] 108 + (B + 0)))
    refine s5.wr rfl (by simp) fun h6 s6 => ?_
    refine s6.wr (o := 1) (add_mk _ _ _) (by simp) fun h7 s7 => ?_
    refine ⟨_, _, _, _, s7.blk.cell 0, Blk.cellA s7.blk 1, q, d, B, rfl, ?_, s7.drop.drop.to⟩
    rw [List.take_of_length_le (by omega)] at na
    exact na
/-- What the reference's Do leaves. -/
def RDoP (h : Hp) (xs : List E) (e z : Int) (v : Value) (h' : Hp) : Prop := ∃ q m d B, v = .tuple #[.slice q m d, .agg #[.int .i64 e, .int .i64 z, .slice none 0 0]] ∧ Sl TE q m d xs B ∧ St h h' B
theorem do_end {h0 h : Hp} {b2 bs br : Nat} {p : Option Addr} {n c : Nat} {e z : Int} {l : List E} {B D : Bag} (na : RowsA (p, n, c) (l.map row2) B) (hn : n ≤ 100000)
    (s : St h0 h (cA bs [.int .i64 1, .slice p n c] 108 + (cA br [.int .i64 e, .int .i64 z, .slice none 0 0] 61 + (cA b2 [.int .i64 0, .int .i64 0, .slice none 0 0] 61 + (B + D))))) :
    r43_Do_b1 (some ⟨b2, 0, none⟩) (some ⟨bs, 0, none⟩) (some ⟨br, 0, none⟩) h (RDoP h0 l e z) := by
  have hl : (l.map row2).length = n := rows_len na
  rw [List.length_map] at hl
  rw [r43_Do_b1_eq]
  refine ⟨fun x h' => ∃ (i : Nat) (A : Bag), x.2.1 = i ∧ i ≤ n ∧ Sl TE x.1.1 x.1.2.1 x.1.2.2 (l.take i) A ∧ St h0 h' (A + (cA bs [.int .i64 1, .slice p n c] 108 + (cA br [.int .i64 e, .int .i64 z, .slice none 0 0] 61 + (cA b2 [.int .i64 0, .int .i64 0, .slice none 0 0] 61 + (B + D))))), fun x _ => n - x.2.1.toNat, ⟨0, 0, rfl, by omega, Sl.nil, s.to⟩, ?_⟩
  rintro ⟨⟨q, m, d⟩, _, _⟩ h1 ⟨i, A, rfl, hin, o, s1⟩
  dsimp only at o ⊢
  have hm : m = i := by have := o.len; rw [List.length_take] at this; omega
  rw [r43_Do_b2_eq]
  have kb := (s1.at (cA bs [.int .i64 1, .slice p n c] 108)).blk
  refine ⟨_, _, _, Blk.cellA kb 1, condP (fun hlt => ?_) (fun hge => ?_)⟩
  · have hil : i < l.length := by omega
    refine ⟨_, _, _, Blk.cellA kb 1, e_key na (s1.at B) (by omega) (by omega) ⟨_, _, _, Blk.cellA kb 1, e_val na (s1.at B) (by omega) (by omega) ?_⟩⟩
    rw [Int.toNat_natCast]
    refine push_sl ok_pair s1 o (x := l.getD i (0, 0)) rfl rfl (by omega) fun q' d' h2 A' o' s2 => ?_
    rw [r43_Do_b3_eq]
    refine ⟨⟨by omega, by omega⟩, ⟨i + 1, A', by simp only; omega, by omega, ?_, s2⟩, by simp only; omega⟩
    rw [take_one hil]
    exact o'
  · obtain rfl : n = i := by omega
    rw [r43_Do_b4_eq]
    have kr := (s1.at (cA br [.int .i64 e, .int .i64 z, .slice none 0 0] 61)).blk
    refine ⟨_, _, _, _, _, kr.cell 0, Blk.cellA kr 1, Blk.cellA kr 2, ?_⟩
    have s2 := s1.to (B := cA b2 [.int .i64 0, .int .i64 0, .slice none 0 0] 61 + (A + (cA bs [.int .i64 1, .slice p n c] 108 + (cA br [.int .i64 e, .int .i64 z, .slice none 0 0] 61 + (B + D)))))
    refine s2.wr rfl (by simp) fun h3 s3 => ?_
    refine s3.wr (o := 1) (add_mk _ _ _) (by simp) fun h4 s4 => ?_
    refine s4.wr (o := 2) (add_mk _ _ _) (by simp) fun h5 s5 => ?_
    refine ⟨_, _, _, _, _, s5.blk.cell 0, Blk.cellA s5.blk 1, Blk.cellA s5.blk 2, q, m, d, A, rfl, ?_, ?_⟩
    · rw [List.take_of_length_le (by omega)] at o; exact o
    · have s5 : St h0 h5 (cA b2 [.int .i64 e, .int .i64 z, .slice none 0 0] 61 + (A + (cA bs [.int .i64 1, .slice p n c] 108 + (cA br [.int .i64 e, .int .i64 z, .slice none 0 0] 61 + (B + D))))) := s5
      exact (s5.to (B := (cA b2 [.int .i64 e, .int .i64 z, .slice none 0 0] 61 + cA bs [.int .i64 1, .slice p n c] 108 + cA br [.int .i64 e, .int .i64 z, .slice none 0 0] 61 + (B + D)) + A)).drop
theorem dictS_facts {xs : List E} {c : Int} {zs : List Int} (so : Srt xs) : Srt (dictS xs c zs).1 ∧ (dictS xs c zs).1.length ≤ xs.length + 1 := by
  have hX : Srt (lowS xs (zs.getD 0 0)) := so.sublist low_sub
  have hY : Srt (upS xs (zs.getD 0 0)) := so.sublist up_sub
  have hlen := congrArg List.length (upS_len (xs := xs) (key := zs.getD 0 0))
  rw [List.length_append] at hlen
  unfold dictS
  split
  · exact ⟨so, Nat.le_succ _⟩
  split
  · split
    · rename_i hk
      refine ⟨srt_ins hX (hY.sublist (List.tail_sublist _)) low_lt (up_tail_gt so hk), ?_⟩
      simp only [List.length_append, List.length_cons, List.length_tail]; omega
    · rename_i hk
      split
      · exact ⟨so, Nat.le_succ _⟩
      · refine ⟨srt_ins hX hY low_lt (key_gt hY (up_ge so) (by simpa using hk)), ?_⟩
        simp only [List.length_append, List.length_cons]; omega
  split
  · split <;> exact ⟨so, Nat.le_succ _⟩
  split
  · split
    · refine ⟨?_, ?_⟩
      · have h1 : Srt (lowS xs (zs.getD 0 0) ++ upS xs (zs.getD 0 0)) := by rw [← upS_len]; exact so
        exact h1.sublist (List.Sublist.append (List.Sublist.refl _) (List.tail_sublist _))
      · simp only [List.length_append, List.length_tail]; omega
    · exact ⟨so, Nat.le_succ _⟩
  split
  · split
    · exact ⟨so, Nat.le_succ _⟩
    · split <;> exact ⟨so, Nat.le_succ _⟩
  split
  · split <;> exact ⟨so, Nat.le_succ _⟩
  split
  · exact ⟨so, Nat.le_succ _⟩
  · split <;> exact ⟨so, Nat.le_succ _⟩
/-- Boxes written, and the end. -/
theorem do_end2 {h0 h : Hp} {b2 bs br : Nat} {p : Option Addr} {n c : Nat} {e z : Int} {l : List E} {B D : Bag} (na : RowsA (p, n, c) (l.map row2) B) (hn : n ≤ 100000)
    (s : St h0 h (cA bs [.int .i64 0, .slice none 0 0] 108 + (cA br [.int .i64 0, .int .i64 0, .slice none 0 0] 61 + (cA b2 [.int .i64 0, .int .i64 0, .slice none 0 0] 61 + (B + D))))) :
    Wr h ⟨bs, 0, none⟩ (.int .i64 1) fun h1 => Wr h1 ((⟨bs, 0, none⟩ : Addr).add 1) (.slice p n c) fun h2 => Wr h2 ⟨br, 0, none⟩ (.int .i64 e) fun h3 => Wr h3 ((⟨br, 0, none⟩ : Addr).add 1) (.int .i64 z) fun h4 => Wr h4 ((⟨br, 0, none⟩ : Addr).add 2) (.slice none 0 0) fun h5 =>
      r43_Do_b1 (some ⟨b2, 0, none⟩) (some ⟨bs, 0, none⟩) (some ⟨br, 0, none⟩) h5 (RDoP h0 l e z) := by
  refine s.wr rfl (by simp) fun h6 s6 => ?_
  refine s6.wr (o := 1) (add_mk _ _ _) (by simp) fun h7 s7 => ?_
  have s7 : St h0 h7 (cA bs [.int .i64 1, .slice p n c] 108 + (cA br [.int .i64 0, .int .i64 0, .slice none 0 0] 61 + (cA b2 [.int .i64 0, .int .i64 0, .slice none 0 0] 61 + (B + D)))) := s7
  have s7 := s7.to (B := cA br [.int .i64 0, .int .i64 0, .slice none 0 0] 61 + (cA bs [.int .i64 1, .slice p n c] 108 + (cA b2 [.int .i64 0, .int .i64 0, .slice none 0 0] 61 + (B + D))))
  refine s7.wr rfl (by simp) fun h8 s8 => ?_
  refine s8.wr (o := 1) (add_mk _ _ _) (by simp) fun h9 s9 => ?_
  refine s9.wr (o := 2) (add_mk _ _ _) (by simp) fun h10 s10 => ?_
  have s10 : St h0 h10 (cA br [.int .i64 e, .int .i64 z, .slice none 0 0] 61 + (cA bs [.int .i64 1, .slice p n c] 108 + (cA b2 [.int .i64 0, .int .i64 0, .slice none 0 0] 61 + (B + D)))) := s10
  exact do_end (D := D) na hn s10.to
theorem RDo_ok {h : Hp} {xs : List E} {p q : Option Addr} {n c m cc : Nat} {code : Int} {zs : List Int} (so : Srt xs) (r : RdT TE h p n xs) (rz : RdT TI h q m zs) (hn : n ≤ 1000) (hc : 1 ≤ code ∧ code ≤ 8) (h1 : code ≠ 8 → 1 ≤ zs.length) (h2 : code = 1 → 2 ≤ zs.length) :
    HCalls Try.prog 28 #[.slice p n c, .agg #[.int .i64 code, .slice q m cc]] h (RDoP h (dictS xs code zs).1 (dictS xs code zs).2.1 (dictS xs code zs).2.2) := by
  have hl := r.len
  have hdl := (dictS_facts (c := code) (zs := zs) so).2
  refine r43_Do_call ?_
  rw [r43_Do_b0_eq]
  refine (St.start h).new (cs := [.int .i64 code, .slice q m cc]) fun b1 _ _ s => ?_
  refine s.new (cs := [.int .i64 0, .int .i64 0, .slice none 0 0]) fun b2 _ _ s => ?_
  have kb := s.atomBlk
  refine ⟨_, _, _, _, kb.cell 0, Blk.cellA kb 1, ?_⟩
  refine ⟨?_, ?_⟩
  · skip
    refine (State_ok (r.ext s.ext) hn).mono fun _ _ ⟨_, _, B1, hv, na2, t⟩ => ⟨_, _, _, _, hv, ?_⟩
    have s := s.join t
    have kb := (s.at (cA b1 [.int .i64 code, .slice q m cc] 58)).blk
    refine ⟨⟨_, _, _, _, kb.cell 0, Blk.cellA kb 1, rfl⟩, ?_⟩
    refine ⟨?_, ?_⟩
    · skip
      have s := s.to (B := B1 + (cA b2 [.int .i64 0, .int .i64 0, .slice none 0 0] 61 + (cA b1 [.int .i64 code, .slice q m cc] 58 + 0)))
      refine (stepD_ok so na2 (RdS.old rz) s hn hc h1 h2).mono fun _ _ ⟨q2, m2, d2, B3, hv, na4, s⟩ => ⟨_, _, _, _, _, _, _, _, _, hv, ?_⟩
      refine ⟨?_, ?_⟩
      · skip
        refine s.new (cs := [.int .i64 0, .slice none 0 0]) fun bS5 _ _ s => ?_
        refine s.new (cs := [.int .i64 0, .int .i64 0, .slice none 0 0]) fun bR6 _ _ s => ?_
        exact do_end2 (D := B1 + (cA b1 [.int .i64 code, .slice q m cc] 58 + 0)) na4 (by have := rows_len na4; rw [List.length_map] at this; dsimp only at this; omega) s.to
      refine s.new (cs := [.int .i64 0, .int .i64 0, .slice none 0 0]) fun bR7 _ _ s => ?_
      refine s.new (cs := [.int .i64 0, .slice none 0 0]) fun bS8 _ _ s => ?_
      exact do_end2 (D := B1 + (cA b1 [.int .i64 code, .slice q m cc] 58 + 0)) na4 (by have := rows_len na4; rw [List.length_map] at this; dsimp only at this; omega) s.to
    refine ⟨?_, ?_⟩
    · skip
      refine s.new (cs := [.int .i64 0, .slice none 0 0]) fun bS9 _ _ s => ?_
      have kb := (s.at (cA b1 [.int .i64 code, .slice q m cc] 58)).blk
      refine ⟨⟨_, _, _, _, kb.cell 0, Blk.cellA kb 1, rfl⟩, ?_⟩
      refine ⟨?_, ?_⟩
      · skip
        have s := s.to (B := B1 + (cA bS9 [.int .i64 0, .slice none 0 0] 108 + (cA b2 [.int .i64 0, .int .i64 0, .slice none 0 0] 61 + (cA b1 [.int .i64 code, .slice q m cc] 58 + 0))))
        refine (stepD_ok so na2 (RdS.old rz) s hn hc h1 h2).mono fun _ _ ⟨q2, m2, d2, B10, hv, na11, s⟩ => ⟨_, _, _, _, _, _, _, _, _, hv, ?_⟩
        refine s.new (cs := [.int .i64 0, .int .i64 0, .slice none 0 0]) fun bR12 _ _ s => ?_
        exact do_end2 (D := B1 + (cA b1 [.int .i64 code, .slice q m cc] 58 + 0)) na11 (by have := rows_len na11; rw [List.length_map] at this; dsimp only at this; omega) s.to
      refine s.new (cs := [.int .i64 0, .int .i64 0, .slice none 0 0]) fun bR13 _ _ s => ?_
      have kb := (s.at (cA b1 [.int .i64 code, .slice q m cc] 58)).blk
      refine ⟨⟨_, _, _, _, kb.cell 0, Blk.cellA kb 1, rfl⟩, ?_⟩
      have s := s.to (B := B1 + (cA bR13 [.int .i64 0, .int .i64 0, .slice none 0 0] 61 + (cA bS9 [.int .i64 0, .slice none 0 0] 108 + (cA b2 [.int .i64 0, .int .i64 0, .slice none 0 0] 61 + (cA b1 [.int .i64 code, .slice q m cc] 58 + 0)))))
      refine (stepD_ok so na2 (RdS.old rz) s hn hc h1 h2).mono fun _ _ ⟨q2, m2, d2, B14, hv, na15, s⟩ => ⟨_, _, _, _, _, _, _, _, _, hv, ?_⟩
      exact do_end2 (D := B1 + (cA b1 [.int .i64 code, .slice q m cc] 58 + 0)) na15 (by have := rows_len na15; rw [List.length_map] at this; dsimp only at this; omega) s.to
    refine s.new (cs := [.int .i64 0, .int .i64 0, .slice none 0 0]) fun bR16 _ _ s => ?_
    have kb := (s.at (cA b1 [.int .i64 code, .slice q m cc] 58)).blk
    refine ⟨⟨_, _, _, _, kb.cell 0, Blk.cellA kb 1, rfl⟩, ?_⟩
    refine ⟨?_, ?_⟩
    · skip
      have s := s.to (B := B1 + (cA bR16 [.int .i64 0, .int .i64 0, .slice none 0 0] 61 + (cA b2 [.int .i64 0, .int .i64 0, .slice none 0 0] 61 + (cA b1 [.int .i64 code, .slice q m cc] 58 + 0))))
      refine (stepD_ok so na2 (RdS.old rz) s hn hc h1 h2).mono fun _ _ ⟨q2, m2, d2, B17, hv, na18, s⟩ => ⟨_, _, _, _, _, _, _, _, _, hv, ?_⟩
      refine s.new (cs := [.int .i64 0, .slice none 0 0]) fun bS19 _ _ s => ?_
      exact do_end2 (D := B1 + (cA b1 [.int .i64 code, .slice q m cc] 58 + 0)) na18 (by have := rows_len na18; rw [List.length_map] at this; dsimp only at this; omega) s.to
    refine s.new (cs := [.int .i64 0, .slice none 0 0]) fun bS20 _ _ s => ?_
    have kb := (s.at (cA b1 [.int .i64 code, .slice q m cc] 58)).blk
    refine ⟨⟨_, _, _, _, kb.cell 0, Blk.cellA kb 1, rfl⟩, ?_⟩
    have s := s.to (B := B1 + (cA bS20 [.int .i64 0, .slice none 0 0] 108 + (cA bR16 [.int .i64 0, .int .i64 0, .slice none 0 0] 61 + (cA b2 [.int .i64 0, .int .i64 0, .slice none 0 0] 61 + (cA b1 [.int .i64 code, .slice q m cc] 58 + 0)))))
    refine (stepD_ok so na2 (RdS.old rz) s hn hc h1 h2).mono fun _ _ ⟨q2, m2, d2, B21, hv, na22, s⟩ => ⟨_, _, _, _, _, _, _, _, _, hv, ?_⟩
    exact do_end2 (D := B1 + (cA b1 [.int .i64 code, .slice q m cc] 58 + 0)) na22 (by have := rows_len na22; rw [List.length_map] at this; dsimp only at this; omega) s.to
  refine ⟨?_, ?_⟩
  · skip
    refine s.new (cs := [.int .i64 0, .slice none 0 0]) fun bS23 _ _ s => ?_
    have kb := (s.at (cA b1 [.int .i64 code, .slice q m cc] 58)).blk
    refine ⟨⟨_, _, _, _, kb.cell 0, Blk.cellA kb 1, rfl⟩, ?_⟩
    refine ⟨?_, ?_⟩
    · skip
      refine (State_ok (r.ext s.ext) hn).mono fun _ _ ⟨_, _, B24, hv, na25, t⟩ => ⟨_, _, _, _, hv, ?_⟩
      have s := s.join t
      have kb := (s.at (cA b1 [.int .i64 code, .slice q m cc] 58)).blk
      refine ⟨⟨_, _, _, _, kb.cell 0, Blk.cellA kb 1, rfl⟩, ?_⟩
      refine ⟨?_, ?_⟩
      · skip
        have s := s.to (B := B24 + (cA bS23 [.int .i64 0, .slice none 0 0] 108 + (cA b2 [.int .i64 0, .int .i64 0, .slice none 0 0] 61 + (cA b1 [.int .i64 code, .slice q m cc] 58 + 0))))
        refine (stepD_ok so na25 (RdS.old rz) s hn hc h1 h2).mono fun _ _ ⟨q2, m2, d2, B26, hv, na27, s⟩ => ⟨_, _, _, _, _, _, _, _, _, hv, ?_⟩
        refine s.new (cs := [.int .i64 0, .int .i64 0, .slice none 0 0]) fun bR28 _ _ s => ?_
        exact do_end2 (D := B24 + (cA b1 [.int .i64 code, .slice q m cc] 58 + 0)) na27 (by have := rows_len na27; rw [List.length_map] at this; dsimp only at this; omega) s.to
      refine s.new (cs := [.int .i64 0, .int .i64 0, .slice none 0 0]) fun bR29 _ _ s => ?_
      have kb := (s.at (cA b1 [.int .i64 code, .slice q m cc] 58)).blk
      refine ⟨⟨_, _, _, _, kb.cell 0, Blk.cellA kb 1, rfl⟩, ?_⟩
      have s := s.to (B := B24 + (cA bR29 [.int .i64 0, .int .i64 0, .slice none 0 0] 61 + (cA bS23 [.int .i64 0, .slice none 0 0] 108 + (cA b2 [.int .i64 0, .int .i64 0, .slice none 0 0] 61 + (cA b1 [.int .i64 code, .slice q m cc] 58 + 0)))))
      refine (stepD_ok so na25 (RdS.old rz) s hn hc h1 h2).mono fun _ _ ⟨q2, m2, d2, B30, hv, na31, s⟩ => ⟨_, _, _, _, _, _, _, _, _, hv, ?_⟩
      exact do_end2 (D := B24 + (cA b1 [.int .i64 code, .slice q m cc] 58 + 0)) na31 (by have := rows_len na31; rw [List.length_map] at this; dsimp only at this; omega) s.to
    refine s.new (cs := [.int .i64 0, .int .i64 0, .slice none 0 0]) fun bR32 _ _ s => ?_
    have kb := (s.at (cA b1 [.int .i64 code, .slice q m cc] 58)).blk
    refine ⟨⟨_, _, _, _, kb.cell 0, Blk.cellA kb 1, rfl⟩, ?_⟩
    refine (State_ok (r.ext s.ext) hn).mono fun _ _ ⟨_, _, B33, hv, na34, t⟩ => ⟨_, _, _, _, hv, ?_⟩
    have s := s.join t
    have kb := (s.at (cA b1 [.int .i64 code, .slice q m cc] 58)).blk
    refine ⟨⟨_, _, _, _, kb.cell 0, Blk.cellA kb 1, rfl⟩, ?_⟩
    have s := s.to (B := B33 + (cA bR32 [.int .i64 0, .int .i64 0, .slice none 0 0] 61 + (cA bS23 [.int .i64 0, .slice none 0 0] 108 + (cA b2 [.int .i64 0, .int .i64 0, .slice none 0 0] 61 + (cA b1 [.int .i64 code, .slice q m cc] 58 + 0)))))
    refine (stepD_ok so na34 (RdS.old rz) s hn hc h1 h2).mono fun _ _ ⟨q2, m2, d2, B35, hv, na36, s⟩ => ⟨_, _, _, _, _, _, _, _, _, hv, ?_⟩
    exact do_end2 (D := B33 + (cA b1 [.int .i64 code, .slice q m cc] 58 + 0)) na36 (by have := rows_len na36; rw [List.length_map] at this; dsimp only at this; omega) s.to
  refine s.new (cs := [.int .i64 0, .int .i64 0, .slice none 0 0]) fun bR37 _ _ s => ?_
  have kb := (s.at (cA b1 [.int .i64 code, .slice q m cc] 58)).blk
  refine ⟨⟨_, _, _, _, kb.cell 0, Blk.cellA kb 1, rfl⟩, ?_⟩
  refine ⟨?_, ?_⟩
  · skip
    refine (State_ok (r.ext s.ext) hn).mono fun _ _ ⟨_, _, B38, hv, na39, t⟩ => ⟨_, _, _, _, hv, ?_⟩
    have s := s.join t
    have kb := (s.at (cA b1 [.int .i64 code, .slice q m cc] 58)).blk
    refine ⟨⟨_, _, _, _, kb.cell 0, Blk.cellA kb 1, rfl⟩, ?_⟩
    refine ⟨?_, ?_⟩
    · skip
      have s := s.to (B := B38 + (cA bR37 [.int .i64 0, .int .i64 0, .slice none 0 0] 61 + (cA b2 [.int .i64 0, .int .i64 0, .slice none 0 0] 61 + (cA b1 [.int .i64 code, .slice q m cc] 58 + 0))))
      refine (stepD_ok so na39 (RdS.old rz) s hn hc h1 h2).mono fun _ _ ⟨q2, m2, d2, B40, hv, na41, s⟩ => ⟨_, _, _, _, _, _, _, _, _, hv, ?_⟩
      refine s.new (cs := [.int .i64 0, .slice none 0 0]) fun bS42 _ _ s => ?_
      exact do_end2 (D := B38 + (cA b1 [.int .i64 code, .slice q m cc] 58 + 0)) na41 (by have := rows_len na41; rw [List.length_map] at this; dsimp only at this; omega) s.to
    refine s.new (cs := [.int .i64 0, .slice none 0 0]) fun bS43 _ _ s => ?_
    have kb := (s.at (cA b1 [.int .i64 code, .slice q m cc] 58)).blk
    refine ⟨⟨_, _, _, _, kb.cell 0, Blk.cellA kb 1, rfl⟩, ?_⟩
    have s := s.to (B := B38 + (cA bS43 [.int .i64 0, .slice none 0 0] 108 + (cA bR37 [.int .i64 0, .int .i64 0, .slice none 0 0] 61 + (cA b2 [.int .i64 0, .int .i64 0, .slice none 0 0] 61 + (cA b1 [.int .i64 code, .slice q m cc] 58 + 0)))))
    refine (stepD_ok so na39 (RdS.old rz) s hn hc h1 h2).mono fun _ _ ⟨q2, m2, d2, B44, hv, na45, s⟩ => ⟨_, _, _, _, _, _, _, _, _, hv, ?_⟩
    exact do_end2 (D := B38 + (cA b1 [.int .i64 code, .slice q m cc] 58 + 0)) na45 (by have := rows_len na45; rw [List.length_map] at this; dsimp only at this; omega) s.to
  refine s.new (cs := [.int .i64 0, .slice none 0 0]) fun bS46 _ _ s => ?_
  have kb := (s.at (cA b1 [.int .i64 code, .slice q m cc] 58)).blk
  refine ⟨⟨_, _, _, _, kb.cell 0, Blk.cellA kb 1, rfl⟩, ?_⟩
  refine (State_ok (r.ext s.ext) hn).mono fun _ _ ⟨_, _, B47, hv, na48, t⟩ => ⟨_, _, _, _, hv, ?_⟩
  have s := s.join t
  have kb := (s.at (cA b1 [.int .i64 code, .slice q m cc] 58)).blk
  refine ⟨⟨_, _, _, _, kb.cell 0, Blk.cellA kb 1, rfl⟩, ?_⟩
  have s := s.to (B := B47 + (cA bS46 [.int .i64 0, .slice none 0 0] 108 + (cA bR37 [.int .i64 0, .int .i64 0, .slice none 0 0] 61 + (cA b2 [.int .i64 0, .int .i64 0, .slice none 0 0] 61 + (cA b1 [.int .i64 code, .slice q m cc] 58 + 0)))))
  refine (stepD_ok so na48 (RdS.old rz) s hn hc h1 h2).mono fun _ _ ⟨q2, m2, d2, B49, hv, na50, s⟩ => ⟨_, _, _, _, _, _, _, _, _, hv, ?_⟩
  exact do_end2 (D := B47 + (cA b1 [.int .i64 code, .slice q m cc] 58 + 0)) na50 (by have := rows_len na50; rw [List.length_map] at this; dsimp only at this; omega) s.to
end Go.Proofs.Ytaemnjblcpknpaa

/- B-trees: the law Does. -/
set_option maxRecDepth 100000
namespace Go.Proofs.Ytaemnjblcpknpaa
open Go Go.Sx
abbrev OpT := Int × SH
abbrev tO : Ty OpT := ⟨58, 2, fun x => [.int .i64 x.1, .slice x.2.1 x.2.2.1 x.2.2.2], (0, none, 0, 0), fun _ => rfl, by decide, fun _ v hv => by simp at hv; rcases hv with rfl | rfl <;> rfl⟩
theorem op_load {h : Hp} {p : Option Addr} {n : Nat} {l : List OpT} {i : Int} {Q : Int → Option Addr → Nat → Nat → Prop} (r : RdT tO h p n l) (h0 : 0 ≤ i) (h1 : i < n) (hq : Q (l.getD i.toNat tO.d).1 (l.getD i.toNat tO.d).2.1 (l.getD i.toNat tO.d).2.2.1 (l.getD i.toNat tO.d).2.2.2) :
    (0 ≤ i ∧ i < (n : Int)) ∧ NN p fun a => ∃ x : Int, ∃ (y : Option Addr) (z w : Nat), cell h (a.add (Int.toNat i * 2)) = some (.int .i64 x) ∧ cell h ((a.add (Int.toNat i * 2)).add 1) = some (.slice y z w) ∧ Q x y z w :=
  r.idx h0 h1 fun _ _ hc => ⟨_, _, _, _, hc 0 (show 0 < 2 by decide), hc 1 (show 1 < 2 by decide), hq⟩
theorem ops_many {h : Hp} {p : Option Addr} {n c : Nat} {l : List OpT} (r : RdT tO h p n l) (hn : n ≤ 1000000) :
    HCalls Try.prog 23 #[.slice p n c, .func (.func 24) #[] #[]] h (fun v h' => Ext h h' ∧ ∃ b, v = .bool b ∧ (b = false → ∀ x ∈ l, x.2.2.1 ≤ 70)) := by
  have hl := r.len
  refine slices_ContainsFunc_Sapi_Op_api_Op_call ?_
  rw [slices_ContainsFunc_Sapi_Op_api_Op_b0_eq]
  refine slices_IndexFunc_Sapi_Op_api_Op_call ?_
  rw [slices_IndexFunc_Sapi_Op_api_Op_b0_eq]
  refine ⟨fun s h' => Ext h h' ∧ ∃ i : Nat, s.1 = i ∧ i ≤ n ∧ ∀ x ∈ l.take i, x.2.2.1 ≤ 70, fun s _ => n - s.1.toNat, ⟨Ext.refl h, 0, rfl, by omega, by simp⟩, ?_⟩
  rintro ⟨_, _⟩ h1 ⟨x1, i, rfl, hin, hall⟩
  dsimp only
  rw [slices_IndexFunc_Sapi_Op_api_Op_b1_eq]
  refine condP (fun hlt => ?_) (fun hge => ?_)
  · refine op_load (r.ext x1) (by omega) (by omega) ?_
    rw [Int.toNat_natCast]
    have hil : i < l.length := by omega
    have hg : l.getD i tO.d = l[i] := by simp [List.getD, hil]
    show callX Try.prog F 24 #[.agg #[.int .i64 (l.getD i tO.d).1, .slice (l.getD i tO.d).2.1 (l.getD i tO.d).2.2.1 (l.getD i tO.d).2.2.2]] _ _
    refine callX_of (by kernel_rfl) (l43_BtreeDoes_c1_call ?_)
    rw [l43_BtreeDoes_c1_b0_eq]
    refine (St.start h1).new (cs := [.int .i64 (l.getD i tO.d).1, .slice (l.getD i tO.d).2.1 (l.getD i tO.d).2.2.1 (l.getD i tO.d).2.2.2]) fun b1 h2 x2 s2 => ?_
    refine ⟨_, _, _, Blk.cellA s2.blk 1, _, rfl, condP (fun hbig => ?_) (fun hbig => ?_)⟩
    · exact ⟨_, rfl, x1.trans x2, _, rfl, fun h => by rw [decide_eq_true (by omega)] at h; cases h⟩
    · rw [slices_IndexFunc_Sapi_Op_api_Op_b2_eq]
      refine ⟨⟨by omega, by omega⟩, ⟨x1.trans x2, i + 1, by simp only; omega, by omega, fun x hx => ?_⟩, by simp only; omega⟩
      rw [List.take_succ_eq_append_getElem hil, List.mem_append, List.mem_singleton, ← hg] at hx
      rcases hx with hx | rfl
      · exact hall x hx
      · omega
  · rw [slices_IndexFunc_Sapi_Op_api_Op_b3_eq]
    rw [List.take_of_length_le (by omega)] at hall
    exact ⟨_, rfl, x1, _, rfl, fun _ => hall⟩
theorem does_law {h : Hp} {order : Int} {p : Option Addr} {n c : Nat} {l : List OpT} (h0 : 0 ≤ order ∧ order ≤ 255) (r : RdT tO h p n l) (hz : ∀ x ∈ l, ∃ zs, RdT TI h x.2.1 x.2.2.1 zs) :
    HCalls Try.prog 6 #[.int .u8 order, .slice p n c] h (fun v h' => v = .bool true ∧ Ext h h') := by
  have hlen := r.len
  refine l43_BtreeDoes_call ?_
  rw [l43_BtreeDoes_b0_eq]
  refine (awake_ok h).mono fun v1 h1 ⟨hv1, x1⟩ => ⟨_, hv1, condNo rfl ?_⟩
  refine condP (fun hmany => ?_) (fun hmany => ?_)
  · exact (awake_ok h1).mono fun v2 h2 ⟨hv2, x2⟩ => ⟨_, hv2, rfl, x1.trans x2⟩
  refine (ops_many (r.ext x1) (by omega)).mono fun v3 h3 ⟨x3, b, hv3, hb⟩ => ⟨_, hv3, cond_intro (fun ht => ?_) (fun hf => ?_)⟩
  · exact (awake_ok h3).mono fun v2 h2 ⟨hv2, x2⟩ => ⟨_, hv2, rfl, (x1.trans x3).trans x2⟩
  have hsm := hb hf
  rw [l43_BtreeDoes_b1_eq]
  refine ⟨⟨by omega, by omega⟩, rem_intro (by omega) (by omega) ⟨⟨by omega, by omega⟩, ?_⟩⟩
  obtain ⟨m, hm, hm1⟩ : ∃ m : Nat, 3 + order % 10 = (m : Int) ∧ (3 ≤ m ∧ m ≤ 12) := ⟨(3 + order % 10).toNat, by omega, by omega⟩
  rw [hm]
  refine New_ok.mono fun v4 h4 hv => ?_
  rw [if_neg (by omega)] at hv
  obtain ⟨tb, A, hv4, ta, s4⟩ := hv
  have ta : TreeA m [] tb 0 A := ta
  have s4 : St h h4 A := s4.base (x1.trans x3)
  refine ⟨_, _, hv4, condNo rfl (condNo rfl ?_)⟩
  rw [l43_BtreeDoes_b2_eq]
  refine ⟨fun st h' => ∃ (i : Nat) (xs : List E) (vis : Int) (A' L : Bag), st.2.1 = i ∧ i ≤ n ∧ Srt xs ∧ xs.length ≤ i ∧ (0 ≤ vis ∧ vis ≤ 1000 * i) ∧ TreeA m xs tb vis A' ∧ Sl TE st.1.1 st.1.2.1 st.1.2.2 xs L ∧ St h h' (A' + (L + 0)), fun st _ => n - st.2.1.toNat, ⟨0, [], 0, A, 0, rfl, by omega, by simp, by simp, ⟨by omega, by omega⟩, ta, Sl.nil, s4.to⟩, ?_⟩
  rintro ⟨⟨q, qn, qc⟩, _, _⟩ h8 ⟨i, xs, vis, A', L, rfl, hin, so, hxl, hvis, ta', la, s8⟩
  dsimp only at la ⊢
  have hqn := la.len
  rw [l43_BtreeDoes_b3_eq]
  refine condP (fun hlt => ?_) (fun hge => ?_)
  · refine op_load (r.ext s8.ext) (by omega) (by omega) ?_
    rw [Int.toNat_natCast]
    have hil : i < l.length := by omega
    have hg : l.getD i tO.d = l[i] := by simp [List.getD, hil]
    obtain ⟨zs, rz⟩ := hz _ (List.getElem_mem hil)
    have h70 := hsm _ (List.getElem_mem hil)
    rw [← hg] at rz h70
    generalize l.getD i tO.d = op at rz h70
    obtain ⟨code, aq, am, ac⟩ := op
    dsimp only at rz h70 ⊢
    have next : ∀ {h' : Hp} {q2 : Option Addr} {qn2 qc2 : Nat} {ys : List E} {vis' : Int} {A2 L2 : Bag}, Srt ys → ys.length ≤ i + 1 → (vis ≤ vis' ∧ vis' ≤ vis + 1000) → TreeA m ys tb vis' A2 → Sl TE q2 qn2 qc2 ys L2 → St h h' (A2 + (L2 + 0)) →
        l43_BtreeDoes_b4 order (some ⟨tb, 0, none⟩) q2 qn2 qc2 p n c (n : Int) (i : Int) h' (fun s' h' => (∃ (i : Nat) (xs : List E) (vis : Int) (A' L : Bag), s'.2.1 = i ∧ i ≤ n ∧ Srt xs ∧ xs.length ≤ i ∧ (0 ≤ vis ∧ vis ≤ 1000 * i) ∧ TreeA m xs tb vis A' ∧ Sl TE s'.1.1 s'.1.2.1 s'.1.2.2 xs L ∧ St h h' (A' + (L + 0))) ∧ n - s'.2.1.toNat < n - Int.toNat (i : Int)) (fun v h' => v = .bool true ∧ Ext h h') := by
      intro h' q2 qn2 qc2 ys vis' A2 L2 g1 g2 g3 g4 g5 g6
      rw [l43_BtreeDoes_b4_eq]
      exact ⟨⟨by omega, by omega⟩, ⟨i + 1, ys, vis', A2, L2, by simp only; omega, by omega, g1, g2, ⟨by omega, by omega⟩, g4, g5, g6⟩, by simp only; omega⟩
    refine s8.new (cs := [.int .i64 0, .slice none 0 0]) fun b1 h9 _ s9 => ?_
    refine s9.wr rfl (by simp) fun h10 s10 => ?_
    refine s10.wr (o := 1) (add_mk _ _ _) (by simp) fun h11 s11 => ?_
    have s11 : St h h11 (cA b1 [.int .i64 code, .slice aq am ac] 58 + (A' + (L + 0))) := s11
    have kb := s11.blk
    refine ⟨_, _, _, _, kb.cell 0, Blk.cellA kb 1, ?_⟩
    have s11' := s11.to (B := A' + (cA b1 [.int .i64 code, .slice aq am ac] 58 + (L + 0)))
    by_cases hv : OpV 1 code zs
    · obtain ⟨hc, hz1, hz2, _⟩ := opv1 hv
      refine (TDo_yes (by omega) (by omega) so (by omega) ⟨by omega, by omega⟩ ta' rz (by omega) s11' hv).mono fun v7 h12 ⟨A2, vis2, hvis2, hv7, ta2, s12⟩ => ⟨_, _, _, _, _, _, hv7, ?_⟩
      have s12 := s12.to (B := cA b1 [.int .i64 code, .slice aq am ac] 58 + (A2 + (L + 0)))
      refine s12.new (cs := [.int .i64 0, .int .i64 0, .slice none 0 0]) fun b2 h13 _ s13 => ?_
      refine s13.wr rfl (by simp) fun h14 s14 => ?_
      refine s14.wr (o := 1) (add_mk _ _ _) (by simp) fun h15 s15 => ?_
      refine s15.wr (o := 2) (add_mk _ _ _) (by simp) fun h16 s16 => ?_
      have s16 : St h h16 (cA b2 [.int .i64 (dictS xs code zs).2.1, .int .i64 (dictS xs code zs).2.2, .slice none 0 0] 61 + (cA b1 [.int .i64 code, .slice aq am ac] 58 + (A2 + (L + 0)))) := s16
      have kb1 := s16.atomBlk
      refine ⟨_, _, _, _, kb1.cell 0, Blk.cellA kb1 1, ?_⟩
      refine (rValid_ok (k := 1) (c := code) (rz.ext s16.ext) (by omega)).mono fun v8 h17 ⟨hv8, x17⟩ => ⟨_, hv8, condNo (by rw [decide_eq_true hv]; rfl) ?_⟩
      have s17 := s16.grow x17
      have kb1 := s17.atomBlk
      refine ⟨_, _, _, _, kb1.cell 0, Blk.cellA kb1 1, ?_⟩
      refine (RDo_ok so (la.rd (s17.at L)) (rz.ext s17.ext) (by omega) hc hz1 hz2).mono fun v9 h18 ⟨q3, m3, d3, L3, hv9, o3, t18⟩ => ⟨_, _, _, _, _, _, _, _, hv9, ?_⟩
      have s18 := s17.join t18
      refine s18.new (cs := [.int .i64 0, .int .i64 0, .slice none 0 0]) fun b3 h19 _ s19 => ?_
      refine s19.wr rfl (by simp) fun h20 s20 => ?_
      refine s20.wr (o := 1) (add_mk _ _ _) (by simp) fun h21 s21 => ?_
      refine s21.wr (o := 2) (add_mk _ _ _) (by simp) fun h22 s22 => ?_
      have s22 : St h h22 (cA b3 [.int .i64 (dictS xs code zs).2.1, .int .i64 (dictS xs code zs).2.2, .slice none 0 0] 61 + (L3 + (cA b2 [.int .i64 (dictS xs code zs).2.1, .int .i64 (dictS xs code zs).2.2, .slice none 0 0] 61 + (cA b1 [.int .i64 code, .slice aq am ac] 58 + (A2 + (L + 0)))))) := s22
      have k3 := s22.blk
      have k2 := (s22.at (cA b2 [.int .i64 (dictS xs code zs).2.1, .int .i64 (dictS xs code zs).2.2, .slice none 0 0] 61)).blk
      refine condNo rfl ⟨_, _, _, _, _, k2.cell 0, Blk.cellA k2 1, Blk.cellA k2 2, _, _, _, _, _, k3.cell 0, Blk.cellA k3 1, Blk.cellA k3 2, ?_⟩
      refine (same_ok (RdT.nil _ _) (RdT.nil _ _) (by decide)).mono fun v10 h23 ⟨x23, hv10⟩ => ⟨_, hv10, condNo (by rw [decide_eq_true rfl]; rfl) ?_⟩
      rw [l43_BtreeDoes_b5_eq]
      have hd := dictS_facts (c := code) (zs := zs) so
      refine next hd.1 (by omega) hvis2 ta2 o3 ?_
      exact ((s22.grow x23).to (B := (cA b3 [.int .i64 (dictS xs code zs).2.1, .int .i64 (dictS xs code zs).2.2, .slice none 0 0] 61 + cA b2 [.int .i64 (dictS xs code zs).2.1, .int .i64 (dictS xs code zs).2.2, .slice none 0 0] 61 + cA b1 [.int .i64 code, .slice aq am ac] 58 + L) + (A2 + (L3 + 0)))).drop
    · refine (TDo_no rz (by omega) s11 hv).mono fun v7 h12 ⟨hv7, s12⟩ => ⟨_, _, _, _, _, _, hv7, ?_⟩
      refine s12.new (cs := [.int .i64 0, .int .i64 0, .slice none 0 0]) fun b2 h13 _ s13 => ?_
      refine s13.wr rfl (by simp) fun h14 s14 => ?_
      refine s14.wr (o := 1) (add_mk _ _ _) (by simp) fun h15 s15 => ?_
      refine s15.wr (o := 2) (add_mk _ _ _) (by simp) fun h16 s16 => ?_
      have s16 : St h h16 (cA b2 [.int .i64 0, .int .i64 0, .slice none 0 0] 61 + (cA b1 [.int .i64 code, .slice aq am ac] 58 + (A' + (L + 0)))) := s16
      have kb1 := s16.atomBlk
      refine ⟨_, _, _, _, kb1.cell 0, Blk.cellA kb1 1, ?_⟩
      refine (rValid_ok (k := 1) (c := code) (rz.ext s16.ext) (by omega)).mono fun v8 h17 ⟨hv8, x17⟩ => ⟨_, hv8, condYes (by rw [decide_eq_false hv]; rfl) (condNo rfl ?_)⟩
      have s17 := s16.grow x17
      refine ⟨_, _, _, _, _, s17.blk.cell 0, Blk.cellA s17.blk 1, Blk.cellA s17.blk 2, ?_⟩
      refine (same_ok (RdT.nil _ _) (RdT.nil _ _) (by decide)).mono fun v10 h23 ⟨x23, hv10⟩ => ⟨_, hv10, condNo (by rw [decide_eq_true rfl]; rfl) ?_⟩
      exact next so (by omega) ⟨by omega, by omega⟩ ta' la (s17.grow x23).drop.drop
  · rw [l43_BtreeDoes_b6_eq]
    refine (Len_ok ta' s8).mono fun v12 h9 ⟨hh9, hv12⟩ => ⟨_, hv12, condYes (by rw [hqn]; exact decide_eq_true rfl) ⟨⟨by omega, by omega⟩, rem_intro (by omega) (by omega) ⟨⟨by omega, by omega⟩, ?_⟩⟩⟩
    subst hh9
    rw [hm]
    refine (Levels_ok (by omega) (by omega) (by omega) ta' s8).mono fun v13 h10 ⟨p11, n11, c11, ls, B11, hv13, o11, hls, s10⟩ => ⟨_, _, _, hv13, ?_⟩
    refine (keys_ok (la.rd (s10.at L)) (by omega)).mono fun v14 h11 ⟨q13, d13, B13, hv14, o13, t13⟩ => ⟨_, _, _, hv14, ?_⟩
    have s11 := (s10.join t13).to (B := B11 + (B13 + (A' + (L + 0))))
    refine (Shaped_ok (by omega) (by omega) hls (by omega) o11 (RdS.own o13) rfl s11).mono fun v15 h12 ⟨hv15, s12⟩ => ⟨_, hv15, rfl, s12.ext⟩
end Go.Proofs.Ytaemnjblcpknpaa

/- How the law's arguments are read: operations. -/
set_option maxRecDepth 100000
namespace Go.Proofs.Ytaemnjblcpknpaa
open Go Go.Sx Go.ChangeShapes Go.WideShapes Go.ChangeAt Go.RowKit Go.Deep
section
variable {H : Type} {enc : TypeId × Value → H} {w : World} {base : Nat} {held : Bool} {a : Option Addr} {len cap : Nat} {d : DataW H} {ps : List MemPlace}
theorem rd_ops (h : DataW.Trod enc Try.prog w base (fun _ => true) held 55 (.slice a len cap) d ps) : ∃ l : List OpT, RdT tO w.heap a len l ∧ len ≤ cap ∧ ∀ x ∈ l, ∃ zs, RdT TI w.heap x.2.1 x.2.2.1 zs :=
  rd_flat tO Try.underlying55 (by kernel_rfl) (fun n cs x h => by
    obtain ⟨xs, m, _, _, hl, hxl, hx⟩ := DataW.trod_struct Try.underlying58 h
    rw [show Try.prog.cellsOf 58 = 2 by kernel_rfl] at hl
    match cs, xs, hl, hxl with
    | [c0, c1], [y0, y1], _, _ =>
      obtain ⟨z0, e0, w0⟩ := dec_int (k := .i64) (by kernel_rfl) _ _ _ (hx 0 _ rfl)
      have f0 : c0 = .int .i64 z0 := (List.cons.inj (show [c0] = [Value.int .i64 z0] from e0)).1
      have h1 : DataW.trod enc Try.prog w base (fun _ => true) held m 38 [c1] = some y1 := hx 1 _ rfl
      have key : ∃ a' l' c', [c1] = [Value.slice a' l' c'] := by
        rcases open_slice Try.underlying38 h1 with ⟨hcs, _⟩ | ⟨_, _, _, _, _, _, _, hcs, _⟩
        · exact ⟨_, _, _, hcs⟩
        · exact ⟨_, _, _, hcs⟩
      obtain ⟨a', l', c', hc1⟩ := key
      have f1 : c1 = .slice a' l' c' := (List.cons.inj hc1).1
      rw [hc1] at h1
      obtain ⟨zs, hr, _, _⟩ := rd_flat (W := InR) TI Try.underlying38 (by kernel_rfl) (fun n cs x h => by
        obtain ⟨z, h1, h2⟩ := dec_int (k := .i64) (by kernel_rfl) n cs x h
        exact ⟨z, h1, bounds_i64 h2⟩) (d := y1.1) (ps := y1.2) ⟨m, h1⟩
      rw [f0, f1]
      exact ⟨(z0, a', l', c'), rfl, zs, hr⟩) h
end
end Go.Proofs.Ytaemnjblcpknpaa
