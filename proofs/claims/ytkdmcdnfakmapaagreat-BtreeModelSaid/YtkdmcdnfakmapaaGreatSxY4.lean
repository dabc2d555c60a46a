/- B-trees: a tree and the model agree. -/
import Derived.Test.YtkdmcdnfakmapaaGreatSxFB3
set_option maxRecDepth 100000
namespace Go.Proofs.YtkdmcdnfakmapaaGreat
open Go Go.Sx
theorem opv_len {k c : Int} {zs : List Int} (hv : OpV k c zs) : zs.length ≤ 64 := by
  have h4 := arT_le k (c - 1).toNat
  have := hv.2
  split at this
  · omega
  · omega
theorem putS_front {xs : List E} {k v : Int} (hk : KeyP k) (hv : KeyP v) (hx : ∀ e ∈ xs, k < e.1) (hl : xs.length < 2000) : putS xs k v = ((k, v) :: xs, 0, false, 0) := by
  obtain ⟨e1, e2⟩ := cut_eq (X := []) (Y := xs) (key := k) (xs := xs) rfl (fun x h => nomatch h) (fun y hy => by have := hx y hy; omega)
  have hn : hasKey xs k = false := by
    cases xs with
    | nil => rfl
    | cons e es => exact decide_eq_false (fun h => by have := hx e List.mem_cons_self; omega)
  rw [putS, if_pos ⟨hk, hv⟩, ← e1, ← e2, hn, if_neg (by simp), if_neg (by omega)]
  rfl
theorem res_load {h : Hp} {p : Option Addr} {n : Nat} {l : List ResL} {i : Int} {Q : Int → Int → Option Addr → Nat → Nat → Prop} (r : RdT tRes h p n l) (h0 : 0 ≤ i) (h1 : i < n) (hq : Q (l.getD i.toNat (0, 0)).1 (l.getD i.toNat (0, 0)).2 none 0 0) :
    (0 ≤ i ∧ i < (n : Int)) ∧ NN p fun a => ∃ x : Int, ∃ y : Int, ∃ (z : Option Addr) (l c : Nat), cell h (a.add (Int.toNat i * 3)) = some (.int .i64 x) ∧ cell h ((a.add (Int.toNat i * 3)).add 1) = some (.int .i64 y) ∧ cell h ((a.add (Int.toNat i * 3)).add 2) = some (.slice z l c) ∧ Q x y z l c :=
  r.idx h0 h1 fun _ _ hc => ⟨_, _, _, _, _, hc 0 (show 0 < 3 by decide), hc 1 (show 1 < 3 by decide), hc 2 (show 2 < 3 by decide), hq⟩
theorem model_law {h : Hp} {order : Int} {p : Option Addr} {n c : Nat} {ops : List OpL} (h0 : 0 ≤ order ∧ order ≤ 255) (r : OpsR h p n ops) :
    HCalls Tryz.prog 3 #[.int .u8 order, .slice p n c] h (fun v h' => v = .bool true ∧ Ext h h') := by
  have hlen := r.len
  refine l43_BtreeModel_call ?_
  rw [l43_BtreeModel_b0_eq]
  refine (awake_ok h).mono fun v1 h1 ⟨hv1, x1⟩ => ⟨_, hv1, condNo rfl ?_⟩
  refine condP (fun hmany => ?_) (fun hmany => ?_)
  · exact (awake_ok h1).mono fun v2 h2 ⟨hv2, x2⟩ => ⟨_, hv2, rfl, x1.trans x2⟩
  refine (validAll_ok (k := 1) (r.ext x1) (by omega)).mono fun v3 h3 ⟨hv3, x3⟩ => ⟨_, hv3, condN (fun hno => ?_) (fun hv => ?_)⟩
  · exact (awake_ok h3).mono fun v2 h2 ⟨hv2, x2⟩ => ⟨_, hv2, rfl, (x1.trans x3).trans x2⟩
  rw [l43_BtreeModel_b1_eq]
  refine ⟨⟨by omega, by omega⟩, rem_intro (by omega) (by omega) ⟨⟨by omega, by omega⟩, ?_⟩⟩
  obtain ⟨m, hm, hm1⟩ : ∃ m : Nat, 3 + order % 10 = (m : Int) ∧ (3 ≤ m ∧ m ≤ 12) := ⟨(3 + order % 10).toNat, by omega, by omega⟩
  rw [hm]
  refine New_ok.mono fun v4 h4 hv4 => ?_
  rw [if_neg (by omega)] at hv4
  obtain ⟨tb, A, hv4, ta, s4⟩ := hv4
  have ta : TreeA m [] tb 0 A := ta
  have s4 : St h h4 (A + 0) := (s4.base (x1.trans x3)).to
  refine ⟨_, _, hv4, (mnew_ok (by decide) h4).mono fun v5 h5 ⟨hv5, x5⟩ => ⟨_, _, _, _, _, hv5, ?_⟩⟩
  have s5 := s4.grow x5
  refine s5.new (cs := [.int .i64 0, .slice none 0 0]) fun b1 h6 _ s6 => ?_
  refine s6.wr rfl (by simp) fun h7 s7 => ?_
  refine s7.wr (o := 1) (add_mk _ _ _) (by simp) fun h8 s8 => ?_
  have s8 : St h h8 (cA b1 [.int .i64 1, .slice none 0 0] 31 + (A + 0)) := s8
  refine condNo rfl (condNo rfl (condNo rfl ?_))
  rw [l43_BtreeModel_b2_eq]
  refine ⟨_, _, _, _, s8.blk.cell 0, Blk.cellA s8.blk 1, ?_⟩
  refine (run_ok (r.ext s8.ext) (by omega) hv).mono fun v9 h9 ⟨q, qm, qd, o, od, B, C, hv9, na, oa, t9⟩ => ⟨_, _, _, _, _, _, _, _, hv9, ?_⟩
  have s9 := (s8.join t9).to (B := cA b1 [.int .i64 1, .slice none 0 0] 31 + (A + (B + C)))
  refine s9.wr rfl (by simp) fun h10 s10 => ?_
  refine s10.wr (o := 1) (add_mk _ _ _) (by simp) fun h11 s11 => ?_
  have s11 : St h h11 (cA b1 [.int .i64 1, .slice q qm qd] 31 + (A + (B + C))) := s11
  refine condNo rfl (condNo (by rw [decide_eq_true (by omega)]; rfl) ?_)
  have rl : runS (ops.take n) = runS ops := by rw [List.take_of_length_le (by omega)]
  rw [l43_BtreeModel_b3_eq]
  refine ⟨fun st h' => ∃ (i : Nat) (vis : Int) (A' : Bag), st.1 = i ∧ i ≤ n ∧ (0 ≤ vis ∧ vis ≤ 1000 * i) ∧ TreeA m (runS (ops.take i)).1 tb vis A' ∧ St h h' (cA b1 [.int .i64 1, .slice q qm qd] 31 + (A' + (B + C))), fun st _ => n - st.1.toNat, ⟨0, 0, A, rfl, by omega, ⟨by omega, by omega⟩, ta, s11⟩, ?_⟩
  rintro ⟨_, _⟩ h12 ⟨i, vis, A', rfl, hin, hvis, ta', s12⟩
  dsimp only
  obtain ⟨f1, f2, f3⟩ := runS_facts hv (i := i) (by omega)
  rw [l43_BtreeModel_b4_eq]
  refine condP (fun hlt => ?_) (fun hge => ?_)
  · refine r.at_ s12.ext (by omega) (by omega) fun q1 m1 d1 hmd rz => ?_
    rw [Int.toNat_natCast] at rz ⊢
    have hov := hv _ (getD_mem (l := ops) (i := i) (d := (0, [])) (by omega))
    have hru := runS_succ (ops := ops) (i := i) (by omega)
    have hrg := runS_get (ops := ops) (i := i) (by omega) (j := n) (by omega) (by omega)
    rw [rl] at hrg
    generalize ops.getD i (0, []) = op at rz hov hru hrg ⊢
    have h64 := opv_len hov
    have hzl := rz.len
    refine s12.new (cs := [.int .i64 0, .slice none 0 0]) fun b2 h13 _ s13 => ?_
    refine s13.wr rfl (by simp) fun h14 s14 => ?_
    refine s14.wr (o := 1) (add_mk _ _ _) (by simp) fun h15 s15 => ?_
    have s15 : St h h15 (cA b2 [.int .i64 op.1, .slice q1 m1 d1] 39 + (cA b1 [.int .i64 1, .slice q qm qd] 31 + (A' + (B + C)))) := s15
    refine ⟨_, _, _, _, s15.blk.cell 0, Blk.cellA s15.blk 1, ?_⟩
    refine (TDo_yes (by omega) (by omega) f1 (by omega) ⟨by omega, by omega⟩ ta' rz (by omega) (s15.to (B := A' + (cA b2 [.int .i64 op.1, .slice q1 m1 d1] 39 + (cA b1 [.int .i64 1, .slice q qm qd] 31 + (B + C))))) hov).mono fun v7 h16 ⟨A2, vis2, hvis2, hv7, ta2, s16⟩ => ⟨_, _, _, _, _, _, hv7, ?_⟩
    refine s16.new (cs := [.int .i64 0, .int .i64 0, .slice none 0 0]) fun b3 h17 _ s17 => ?_
    refine s17.wr rfl (by simp) fun h18 s18 => ?_
    refine s18.wr (o := 1) (add_mk _ _ _) (by simp) fun h19 s19 => ?_
    refine s19.wr (o := 2) (add_mk _ _ _) (by simp) fun h20 s20 => ?_
    refine condNo rfl ⟨_, _, _, _, _, s20.blk.cell 0, Blk.cellA s20.blk 1, Blk.cellA s20.blk 2, ?_⟩
    have s20 := s20.drop.to (B := C + (cA b2 [.int .i64 op.1, .slice q1 m1 d1] 39 + (cA b1 [.int .i64 1, .slice q qm qd] 31 + (A2 + B))))
    refine res_load (oa.rd s20) (by omega) (by omega) ?_
    rw [Int.toNat_natCast, hrg]
    refine (same_ok (RdT.nil _ _) (RdT.nil _ _) (by decide)).mono fun v10 h23 ⟨x23, hv10⟩ => ⟨_, hv10, condNo (by rw [decide_eq_true rfl]; rfl) ?_⟩
    rw [l43_BtreeModel_b5_eq]
    refine ⟨⟨by omega, by omega⟩, ⟨i + 1, vis2, A2, by simp only; omega, by omega, ⟨by omega, by omega⟩, by rw [hru]; exact ta2, ?_⟩, by simp only; omega⟩
    exact ((s20.grow x23).to (B := cA b2 [.int .i64 op.1, .slice q1 m1 d1] 39 + (cA b1 [.int .i64 1, .slice q qm qd] 31 + (A2 + (B + C))))).drop
  · obtain rfl : i = n := by omega
    rw [rl] at ta' f1 f2 f3
    generalize (runS ops).1 = xs at ta' f1 f2 f3 na
    rw [l43_BtreeModel_b6_eq]
    refine (Scan_ok (fr := -1048576) (to := 1048576) (by omega) (by omega) f1 ta' (s12.to (B := A' + (cA b1 [.int .i64 1, .slice q qm qd] 31 + (B + C))))).mono fun v13 h13 ⟨p3, n3, c3, B3, hv13, o3, s13⟩ => ⟨_, _, _, _, hv13, ⟨by omega, by omega⟩, rem_intro (by omega) (by omega) ⟨⟨by omega, by omega⟩, ?_⟩⟩
    have hfl : (xs.filter (inSpan (-1048576) 1048576)).length ≤ 1000 := Nat.le_trans (List.length_filter_le _ _) (by omega)
    have hs : scanS xs (-1048576) 1048576 = (xs.filter (inSpan (-1048576) 1048576), 0) := by rw [scanS, if_pos (by decide), if_neg (by omega)]
    rw [hs] at o3 ⊢
    have o3 : Sl TE p3 n3 c3 (xs.filter (inSpan (-1048576) 1048576)) B3 := o3
    have hn3 := o3.len
    rw [hm]
    refine New_ok.mono fun v14 h14 hv14 => ?_
    rw [if_neg (by omega)] at hv14
    obtain ⟨ub, U, hv14, ua, t14⟩ := hv14
    have ua : TreeA m [] ub 0 U := ua
    refine ⟨_, _, hv14, condNo rfl (condNo rfl (condNo rfl ?_))⟩
    have s14 := (s13.join t14).to (B := cA b1 [.int .i64 1, .slice q qm qd] 31 + (U + (A' + (B + (B3 + C)))))
    have hxl : (xs.map row2).length = qm := rows_len na
    rw [List.length_map] at hxl
    rw [l43_BtreeModel_b7_eq]
    refine ⟨_, _, _, Blk.cellA s14.blk 1, ?_⟩
    refine ⟨fun st h' => ∃ (j : Nat) (vis : Int) (U' : Bag), st.1 = j ∧ j ≤ qm ∧ (0 ≤ vis ∧ vis ≤ 1000 * j) ∧ TreeA m (xs.drop (qm - j)) ub vis U' ∧ St h h' (cA b1 [.int .i64 1, .slice q qm qd] 31 + (U' + (A' + (B + (B3 + C))))), fun st _ => qm - st.1.toNat, ⟨0, 0, U, rfl, by omega, ⟨by omega, by omega⟩, ?_, s14⟩, ?_⟩
    · rw [List.drop_of_length_le (by omega)]; exact ua
    rintro ⟨_, _⟩ h15 ⟨j, visu, U', rfl, hjn, hvu, ua', s15⟩
    dsimp only
    have kb := s15.blk
    rw [l43_BtreeModel_b8_eq]
    refine condP (fun hlt => ?_) (fun hge => ?_)
    · refine ⟨_, _, _, Blk.cellA kb 1, _, _, _, Blk.cellA kb 1, ⟨by omega, by omega⟩, ⟨by omega, by omega⟩, ?_⟩
      have sB : St h h15 (B + (cA b1 [.int .i64 1, .slice q qm qd] 31 + (U' + (A' + (B3 + C))))) := s15.to
      refine Nest.at_ (d := []) na sB (by omega) (by dsimp only; omega) fun q1 l1 d1 Bi Br oi hB => ?_
      have ej : (((qm : Int) - 1) - (j : Int)).toNat = qm - (j + 1) := by omega
      rw [ej] at oi
      have hil : qm - (j + 1) < xs.length := by omega
      rw [row2_get hil] at oi
      have oi : Sl TI q1 l1 d1 (row2 (xs.getD (qm - (j + 1)) (0, 0))) Bi := oi
      have hl1 : 2 = l1 := oi.len
      have st2 : St h h15 (Bi + (Br + (cA b1 [.int .i64 1, .slice q qm qd] 31 + (U' + (A' + (B3 + C)))))) := by rw [hB] at sB; exact sB.to
      have hkey := f3 _ (getD_mem (d := (0, 0)) hil)
      have hg : xs.getD (qm - (j + 1)) (0, 0) = xs[qm - (j + 1)] := by rw [List.getD_eq_getElem?_getD, List.getElem?_eq_getElem hil]; rfl
      have hdr : xs.drop (qm - (j + 1)) = xs.getD (qm - (j + 1)) (0, 0) :: xs.drop (qm - j) := by
        rw [hg, List.drop_eq_getElem_cons hil, show qm - (j + 1) + 1 = qm - j by omega]
      have hgt : ∀ e ∈ xs.drop (qm - j), (xs.getD (qm - (j + 1)) (0, 0)).1 < e.1 := by
        have h1 : Srt (xs.drop (qm - (j + 1))) := f1.sublist (List.drop_sublist _ _)
        rw [hdr] at h1
        exact (List.pairwise_cons.1 h1).1
      generalize xs.getD (qm - (j + 1)) (0, 0) = e at oi hkey hdr hgt
      have e0 : Int.toNat (0 : Int) = 0 := rfl
      have e1 : Int.toNat (1 : Int) = 1 := rfl
      refine condNo (by rw [decide_eq_true (by omega)]; rfl) ?_
      refine (oi.rd st2).int (by omega) (by omega) ((oi.rd st2).int (by omega) (by omega) ?_)
      rw [e0, e1]
      show HCalls Tryz.prog 12 #[.pointer (some ⟨ub, 0, none⟩), .int .i64 e.1, .int .i64 e.2] _ _
      have hdl : (xs.drop (qm - j)).length = j := by rw [List.length_drop]; omega
      refine (Put_ok (key := e.1) (value := e.2) (by omega) (by omega) (f1.sublist (List.drop_sublist _ _)) (by omega) ⟨by omega, by omega⟩ ua' (s15.to (B := U' + (cA b1 [.int .i64 1, .slice q qm qd] 31 + (A' + (B + (B3 + C))))))).mono fun v16 h16 ⟨U2, vis2, hvis2, hv16, ua2, s16⟩ => ?_
      rw [putS_front hkey.1 hkey.2 hgt (by omega)] at hv16 ua2
      refine ⟨_, _, _, hv16, condNo rfl (condNo rfl ?_)⟩
      rw [l43_BtreeModel_b9_eq]
      exact ⟨⟨by omega, by omega⟩, ⟨j + 1, vis2, U2, by simp only; omega, by omega, ⟨by omega, by omega⟩, by rw [hdr]; exact ua2, s16.to⟩, by simp only; omega⟩
    · obtain rfl : j = qm := by omega
      rw [Nat.sub_self, List.drop_zero] at ua'
      rw [l43_BtreeModel_b10_eq]
      refine (Scan_ok (fr := -1048576) (to := 1048576) (by omega) (by omega) f1 ua' (s15.to (B := U' + (cA b1 [.int .i64 1, .slice q j qd] 31 + (A' + (B + (B3 + C))))))).mono fun v17 h17 ⟨p4, n4, c4, B4, hv17, o4, s17⟩ => ⟨_, _, _, _, hv17, ?_⟩
      rw [hs] at o4 ⊢
      refine condYes rfl ?_
      have s17 := s17.to (B := B3 + (B4 + (U' + (A' + (cA b1 [.int .i64 1, .slice q j qd] 31 + (B + C))))))
      refine (EqualP_ok (o3.rd s17) (o4.rd (s17.at B4)) (by omega)).mono fun v18 h18 ⟨hh18, hv18⟩ => ⟨_, hv18, condYes (decide_eq_true rfl) ?_⟩
      subst hh18
      refine (Len_ok ta' (s17.to (B := A' + (B4 + (U' + (B3 + (cA b1 [.int .i64 1, .slice q j qd] 31 + (B + C)))))))).mono fun v19 h19 ⟨hh19, hv19⟩ => ⟨_, hv19, ?_⟩
      subst hh19
      refine (Len_ok ua' (s17.to (B := U' + (B4 + (A' + (B3 + (cA b1 [.int .i64 1, .slice q j qd] 31 + (B + C)))))))).mono fun v20 h20 ⟨hh20, hv20⟩ => ⟨_, hv20, ?_, ?_⟩
      · rw [decide_eq_true rfl]
      · subst hh20; exact s17.ext
theorem model_law' {h : Hp} {order : Int} {p : Option Addr} {n c : Nat} {l : List OpT} (h0 : 0 ≤ order ∧ order ≤ 255) (r : RdT tO h p n l) (hz : ∀ x ∈ l, x.2.2.1 ≤ x.2.2.2 ∧ ∃ zs, RdT TI h x.2.1 x.2.2.1 zs) :
    HCalls Tryz.prog 3 #[.int .u8 order, .slice p n c] h (fun v h' => v = .bool true ∧ Ext h h') := by
  obtain ⟨_, hr⟩ := OpsR.mk' r hz
  exact model_law h0 hr
end Go.Proofs.YtkdmcdnfakmapaaGreat
