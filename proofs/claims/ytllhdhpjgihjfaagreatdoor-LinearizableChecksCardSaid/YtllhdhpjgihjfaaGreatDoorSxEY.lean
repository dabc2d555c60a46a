/- Part EU EV EW EX EY of the proof: contracts of functions of the program, and what follows from them. -/
import Derived.Test.YtllhdhpjgihjfaaGreatDoorSxET
set_option maxRecDepth 100000
namespace Go.Proofs.YtllhdhpjgihjfaaGreatDoor
open Go Go.Sx
theorem yaym (n : Nat) : TB.cells (List.replicate n false) = List.replicate n (.bool false) := by
  induction n with
  | zero => rfl
  | succ n ih => rw [List.replicate_succ, Ty.cells_cons, ih]; rfl
theorem yaik {α : Type} {a b : List α} {d : α} {i : Nat} (h : i < a.length) : (a ++ b).getD i d = a.getD i d := by
  rw [List.getD_eq_getElem?_getD, List.getD_eq_getElem?_getD, List.getElem?_append_left h]
abbrev xSn (x : Sn) : List Value := [.slice x.1.1 x.1.2.1 x.1.2.2, .int .i64 x.2.1, .slice x.2.2.1 x.2.2.2.1 x.2.2.2.2]
section
variable {h : Hp} {p : OA} {n c : Nat} {l : List Ev} {k : Int} {sp : OA} {sn sc : Nat} {rows : Rows}
def InnP (h : Hp) (k : Int) (l : List Ev) (c0 ci : Cf) (b4 : Nat) (X : Sn) (hs : List Sn) (cs : List Cf) (q : SH) (t : Nat) (h' : Hp) : Prop :=
  ∃ hs' cs' A0 A1, Sl tSn q.1 q.2.1 q.2.2 (hs ++ hs') A0 ∧ AllH (SnP h k) (hs ++ hs') (cs ++ cs') A1 ∧ St h h' (A0 + (A1 + (cA b4 (xSn X) 80 + 0))) ∧ (cs ++ cs').Nodup ∧ (∀ c ∈ cs ++ cs', c ∈ allC k l c0) ∧
    ∀ t', t' < t → ∀ c', sucC k l ci t' = some c' → c' ∈ cs ++ cs'
def OutP (h : Hp) (k : Int) (l : List Ev) (c0 : Cf) (q : SH) (i : Nat) (h' : Hp) : Prop :=
  ∃ hs cs A0 A1, i ≤ cs.length ∧ Sl tSn q.1 q.2.1 q.2.2 hs A0 ∧ AllH (SnP h k) hs cs A1 ∧ St h h' (A0 + (A1 + 0)) ∧ cs.Nodup ∧ (∀ c ∈ cs, c ∈ allC k l c0) ∧ c0 ∈ cs ∧
    ∀ j, j < i → ¬ Cpl l (dn (cs.getD j ([], []))) ∧ ∀ c' ∈ sucs k l (cs.getD j ([], [])), c' ∈ cs
theorem yaxc (r : EvsR h p n l) (o1 : ∀ e ∈ l, One e) (hn : n ≤ 12) (sm : Sm l) (hk : KindP k l) {c0 ci : Cf} (hc : c0.1.length = l.length) (h0 : lft l.length (dn c0) = l.length) (ok0 : OkR k c0.2) {b4 : Nat} {X : Sn} {hs : List Sn} {cs : List Cf} {q : SH} {t i : Nat} {h4 : Hp}
    (hcs : cs.length = hs.length) (hi : i < hs.length) (hX : hs.getD i tSn.d = X) (hci : cs.getD i ([], []) = ci) (inn : InnP h k l c0 ci b4 X hs cs q t h4) (ht : t < n) {nx0 nx1 : (OA × Nat × Nat) × Int × Unit → Hp → Prop} {K : VK}
    (hnx : ∀ q' h', InnP h k l c0 ci b4 X hs cs q' (t + 1) h' → nx1 (q', (t : Int) + 1, ()) h') :
    zdg_b2 q.1 q.2.1 q.2.2 (t : Int) p n c (i : Int) (some ⟨b4, 0, none⟩) h4 nx0 nx1 K := by
  have hl := r.len
  have hlen := yaph hc h0 ok0 hk (by omega)
  obtain ⟨hs', cs', A0, A1, o, al, s, hnd, hall, hsu⟩ := inn
  obtain ⟨mp, mn, mc⟩ := q
  dsimp only at o ⊢
  have hml := o.len
  have hcl := al.len
  have hcsl := yaex hnd hall
  have skip : ∀ {h' : Hp} {q' : SH}, InnP h k l c0 ci b4 X hs cs q' (t + 1) h' → zdg_b4 p n c q'.1 q'.2.1 q'.2.2 (i : Int) (some ⟨b4, 0, none⟩) (t : Int) h' nx0 nx1 K := fun {h' q'} inn => by
    rw [zdg_b4]
    exact ⟨⟨by omega, by omega⟩, hnx q' h' inn⟩
  have same : ∀ {h' : Hp}, St h h' (A0 + (A1 + (cA b4 (xSn X) 80 + 0))) → (∀ c', sucC k l ci t = some c' → c' ∈ cs ++ cs') → zdg_b4 p n c mp mn mc (i : Int) (some ⟨b4, 0, none⟩) (t : Int) h' nx0 nx1 K := fun {h'} s hs2 => by
    refine skip (q' := (mp, mn, mc)) ⟨hs', cs', A0, A1, o, al, s, hnd, hall, fun t' ht' c' hc' => ?_⟩
    rcases Nat.lt_or_ge t' t with h | h
    · exact hsu t' h c' hc'
    · obtain rfl : t' = t := by omega
      exact hs2 c' hc'
  -- the configuration
  have hall2 := SnP.all al (s.to (B := A1 + (A0 + (cA b4 (xSn X) 80 + 0))))
  have e1 : (hs ++ hs').getD i tSn.d = X := by rw [yaik hi, hX]
  have e2 : (cs ++ cs').getD i ([], []) = ci := by rw [yaik (by omega), hci]
  have hlt : i < (hs ++ hs').length := by rw [List.length_append]; omega
  obtain ⟨k1, k2, k3⟩ := hall2.2 i hlt
  have hmem : ci ∈ cs ++ cs' := by rw [← e2]; exact yaal (by omega)
  rw [e1] at k1 k2 k3
  rw [e2] at k2 k3
  obtain ⟨hcl1, okc⟩ := yaon hc h0 ok0 hk (hall _ hmem)
  clear e1 e2 hX hall2
  obtain ⟨⟨dq, dm, dc⟩, kk, rp, rn, rc⟩ := X
  dsimp only at k1 k2 k3
  subst k1
  have hdm := k2.len
  obtain rfl : dm = n := by omega
  have hov : OpV kk (l.getD t dEv).t.co (l.getD t dEv).zs := hk _ (yaal (by omega))
  have hsz := sm _ (yaal (l := l) (i := t) (d := dEv) (by omega))
  rw [zdg_b2]
  refine yaaw (decide_eq_true (by omega)) (yaan rfl ⟨_, _, _, s.ld0, ?_⟩)
  refine (yauy (r.ext s.ext) o1 k2 ht (by omega)).mono fun v h5 ⟨⟨bn, hv, hbn⟩, x5⟩ => ⟨_, hv, yali (fun hf => same (s.grow x5) fun c' hc' => ?_) (fun hy => ?_)⟩
  · rw [hbn.2 (yaem.1 hc').1] at hf; cases hf
  have hnxt : Nxt l (dn ci) t := hbn.1 hy
  have s5 := s.grow x5
  obtain ⟨ad, hp, hcell⟩ := (r.ext s5.ext).1.at_ (i := t) ht
  rw [yahl (by omega)] at hcell
  have em := (r.ext s5.ext).at_ ht
  have cX1 : cell h5 ((⟨b4, 0, none⟩ : Addr).add 1) = some (.int .i64 kk) := s5.ldB
  have cX2 : cell h5 (((⟨b4, 0, none⟩ : Addr).add 1).add 1) = some (.slice rp rn rc) := by have := s5.ldB (b := b4) (k := 2) (v := .slice rp rn rc); simpa [yabq] using this
  have cO1 : cell h5 ((ad.add (Int.toNat (t : Int) * 8)).add 1) = some (.int .i64 (l.getD t dEv).t.co) := hcell 1 (by decide)
  have cO2 : cell h5 (((ad.add (Int.toNat (t : Int) * 8)).add 1).add 1) = some (.slice (l.getD t dEv).t.ar.1 (l.getD t dEv).t.ar.2.1 (l.getD t dEv).t.ar.2.2) := by have := hcell 2 (by decide); simpa [yabq] using this
  have cR3 : cell h5 ((ad.add (Int.toNat (t : Int) * 8)).add 3) = some (.int .i64 (l.getD t dEv).t.er) := hcell 3 (by decide)
  have cR4 : cell h5 (((ad.add (Int.toNat (t : Int) * 8)).add 3).add 1) = some (.int .i64 (l.getD t dEv).t.nu) := by have := hcell 4 (by decide); simpa [yabq] using this
  have cR5 : cell h5 (((ad.add (Int.toNat (t : Int) * 8)).add 3).add 2) = some (.slice (l.getD t dEv).t.li.1 (l.getD t dEv).t.li.2.1 (l.getD t dEv).t.li.2.2) := by have := hcell 5 (by decide); simpa [yabq] using this
  clear hcell
  obtain ⟨R, hR⟩ : ∃ R, stepR kk ci.2 (l.getD t dEv).t.co (l.getD t dEv).zs = R := ⟨_, rfl⟩
  have hzl := em.1.1.len
  have stp : ∀ {h' : Hp}, Ext h5 h' → yaae Tryz.prog 41 #[.agg #[.int .i64 kk, .slice rp rn rc], .agg #[.int .i64 (l.getD t dEv).t.co, .slice (l.getD t dEv).t.ar.1 (l.getD t dEv).t.ar.2.1 (l.getD t dEv).t.ar.2.2]] h' (StepP h' 0 kk R.1 R.2.1 R.2.2) := fun x => by
    have := yavs (cc := (l.getD t dEv).t.ar.2.2) (c := rc) okc hov ((k3.ext x5).ext x) (em.1.1.ext x) (by omega)
    rwa [RunP, hR] at this
  have no : stepE kk ci.2 (l.getD t dEv) = none → ∀ c', sucC kk l ci t = some c' → c' ∈ cs ++ cs' := fun hn c' hc' => by
    have := (yaem.1 hc').2.1
    rw [hn] at this; cases this
  -- a successor
  have fin7 : ∀ {h' : Hp} {bt br : Nat} {q : OA} {m d : Nat} {B' : Bag}, RowsA (q, m, d) R.1 B' → St h5 h' (cA bt [.int .i64 kk, .slice q m d] 24 + (cA br [.int .i64 R.2.1, .int .i64 R.2.2, .slice none 0 0] 58 + B')) → stepE kk ci.2 (l.getD t dEv) = some R.1 →
      zdg_b7 p dm c mp mn mc (i : Int) (some ⟨b4, 0, none⟩) (t : Int) (some ⟨bt, 0, none⟩) h' nx0 nx1 K := fun {h' bt br q m d B'} na s' hst => by
    have hsu1 : sucC kk l ci t = some (ci.1.set t true, R.1) := yaem.2 ⟨hnxt, hst, rfl⟩
    have uniq : ∀ c', sucC kk l ci t = some c' → c' = (ci.1.set t true, R.1) := fun c' h => by rw [hsu1] at h; exact (Option.some.inj h).symm
    have s6 := (s5.join s').to (B := cA b4 (xSn ((dq, dm, dc), kk, rp, rn, rc)) 80 + (cA bt [.int .i64 kk, .slice q m d] 24 + (B' + (A1 + (A0 + cA br [.int .i64 R.2.1, .int .i64 R.2.2, .slice none 0 0] 58)))) + 0)
    rw [Bag.add_zero] at s6
    have k2' := k2.ext (x5.trans s'.ext)
    rw [zdg_b7]
    refine s6.new (cs := []) fun b15 h7 x7 s7 => yaan rfl ⟨_, _, _, s7.ld0, ?_⟩
    have oE : Sl TB (some ⟨b15, 0, none⟩) 0 0 [] (cA b15 [] 4) := Sl.of_blk (T := TB) (xs := []) rfl rfl
    refine yabe ybao s7 oE (k2'.ext x7) (show 0 + dm < 1073741824 by omega) fun p8 c8 h8 Ad od s8 => ?_
    rw [List.nil_append] at od
    obtain ⟨dn0, hdn⟩ : ∃ x, x = 0 + dm := ⟨_, rfl⟩
    rw [← hdn] at od ⊢
    obtain rfl : dn0 = dm := by omega
    refine Sl.wrI od s8 (by omega) (by omega) rfl (x := true) rfl fun h9 Ad9 od9 s9 => yaan rfl ⟨_, _, _, _, s9.ld0, s9.ldB, ?_⟩
    rw [Int.toNat_natCast] at od9
    have cOk := yaon hc h0 ok0 hk (yavb hc h0 ok0 hk (hall _ hmem) (yafb.2 ⟨t, by omega, hsu1⟩))
    refine (yawq (ybap o al (s9.to (B := A0 + (A1 + (Ad9 + (cA b4 (xSn ((dq, dn0, dc), kk, rp, rn, rc)) 80 + (cA bt [.int .i64 kk, .slice q m d] 24 + (B' + cA br [.int .i64 R.2.1, .int .i64 R.2.2, .slice none 0 0] 58)))))))) (od9.rd s9) (yaif na (s9.to (B := B' + (A0 + (A1 + (Ad9 + (cA b4 (xSn ((dq, dn0, dc), kk, rp, rn, rc)) 80 + (cA bt [.int .i64 kk, .slice q m d] 24 + cA br [.int .i64 R.2.1, .int .i64 R.2.2, .slice none 0 0] 58)))))))) (fun c' hc' => ?_) (fun c' hc' => ?_) (by omega) (by omega)).mono fun v h10 ⟨⟨bk, hv, hbk⟩, x10⟩ => ⟨_, hv, yali (fun hf => ?_) (fun hy => ?_)⟩
    · have := (yaon hc h0 ok0 hk (hall _ hc')).1
      omega
    · have := yade (yaon hc h0 ok0 hk (hall _ hc')).2
      exact ⟨by omega, fun w hw => by have := this.2 w hw; omega⟩
    · have s10 := s9.grow x10
      refine yaan rfl ⟨_, _, _, _, s10.ld0, s10.ldB, ?_⟩
      refine yazd ok_sn (s10.to (B := A0 + (A1 + (Ad9 + (cA b4 (xSn ((dq, dn0, dc), kk, rp, rn, rc)) 80 + (cA bt [.int .i64 kk, .slice q m d] 24 + (B' + cA br [.int .i64 R.2.1, .int .i64 R.2.2, .slice none 0 0] 58))))))) o (x := ((p8, dn0, c8), kk, (q, m, d))) rfl rfl (by omega) fun p11 c11 h11 A11 o11 s11 => ?_
      have hnew : (ci.1.set t true, R.1) ∉ cs ++ cs' := fun h => by rw [hbk.2 h] at hf; cases hf
      refine skip (q' := (p11, mn + 1, c11)) ⟨hs' ++ [((p8, dn0, c8), kk, (q, m, d))], cs' ++ [(ci.1.set t true, R.1)], A11, A1 + (Ad9 + B'), by rw [← List.append_assoc]; exact o11, ?_, ?_, ?_, ?_, ?_⟩
      · rw [← List.append_assoc, ← List.append_assoc]
        exact al.append (AllH.one ⟨rfl, Ad9, B', rfl, od9, .inl na⟩)
      · exact (s11.to (B := (cA bt [.int .i64 kk, .slice q m d] 24 + cA br [.int .i64 R.2.1, .int .i64 R.2.2, .slice none 0 0] 58) + (A11 + (A1 + (Ad9 + B') + (cA b4 (xSn ((dq, dn0, dc), kk, rp, rn, rc)) 80 + 0)))) (by rw [Bag.add_zero]; ac_rfl)).drop
      · rw [← List.append_assoc]
        exact List.nodup_append.2 ⟨hnd, by simp, fun a ha b hb e => hnew (by rw [List.mem_singleton.1 hb] at e; exact e ▸ ha)⟩
      · intro c' hc'
        rw [← List.append_assoc] at hc'
        rcases List.mem_append.1 hc' with h | h
        · exact hall c' h
        · rw [List.mem_singleton.1 h]
          exact yavb hc h0 ok0 hk (hall _ hmem) (yafb.2 ⟨t, by omega, hsu1⟩)
      · intro t' ht' c' hc'
        rw [← List.append_assoc, List.mem_append]
        rcases Nat.lt_or_ge t' t with h | h
        · exact .inl (hsu t' h c' hc')
        · obtain rfl : t' = t := by omega
          exact .inr (List.mem_singleton.2 (uniq c' hc'))
    · refine same ((s9.grow x10).to (B := (Ad9 + (cA bt [.int .i64 kk, .slice q m d] 24 + (B' + cA br [.int .i64 R.2.1, .int .i64 R.2.2, .slice none 0 0] 58))) + (A0 + (A1 + (cA b4 (xSn ((dq, dn0, dc), kk, rp, rn, rc)) 80 + 0)))) (by rw [Bag.add_zero]; ac_rfl)).drop fun c' hc' => ?_
      rw [uniq c' hc']
      exact hbk.1 hy
  have fin5 : ∀ {h' : Hp} {bt br : Nat} {q : OA} {m d : Nat} {B' : Bag}, RowsA (q, m, d) R.1 B' → St h5 h' (cA bt [.int .i64 kk, .slice q m d] 24 + (cA br [.int .i64 R.2.1, .int .i64 R.2.2, .slice none 0 0] 58 + B')) →
      zdg_b5 p dm c mp mn mc (i : Int) (some ⟨b4, 0, none⟩) (t : Int) (some ⟨bt, 0, none⟩) (some ⟨br, 0, none⟩) h' nx0 nx1 K := fun {h' bt br q m d B'} na s' => by
    rw [zdg_b5]
    have x := s5.ext.trans s'.ext
    refine (r.ext x).ldEn rfl ht (condP (fun he => ?_) (fun he => fin7 na s' (by unfold stepE; rw [if_neg (fun h => he h.1), hR])))
    refine yaan rfl ⟨_, _, _, _, _, s'.ld0, s'.ldB, s'.ldB, ⟨by omega, by omega⟩, yaan hp ⟨_, _, _, _, _, s'.ext.cell cR3, s'.ext.cell cR4, s'.ext.cell cR5, ?_⟩⟩
    refine (yapx (RdT.nil _ none) (em.2.1.ext s'.ext) (Nat.zero_le _)).mono fun v h6 ⟨x6, hv⟩ => ⟨_, hv, condN (fun hne => ?_) (fun heq => fin7 na (s'.grow x6) ?_)⟩
    · refine same ((s5.grow (s'.ext.trans x6))) (no ?_)
      unfold stepE
      rw [hR]
      exact if_pos ⟨he, fun h => hne (by rw [h.1, h.2.1, h.2.2])⟩
    · unfold stepE
      rw [hR]
      injection heq with g1 g2
      injection g2 with g2 g3
      exact if_neg fun h => h.2 ⟨g1, g2, g3.symm⟩
  have fin : ∀ {h' : Hp} {bt br : Nat} {q : OA} {m d : Nat} {B' : Bag}, RowsA (q, m, d) R.1 B' → St h5 h' (cA bt [.int .i64 0, .slice none 0 0] 24 + (cA br [.int .i64 0, .int .i64 0, .slice none 0 0] 58 + B')) →
      Wr h' ⟨bt, 0, none⟩ (.int .i64 kk) fun h1 => Wr h1 ((⟨bt, 0, none⟩ : Addr).add 1) (.slice q m d) fun h2 => Wr h2 ⟨br, 0, none⟩ (.int .i64 R.2.1) fun h3 => Wr h3 ((⟨br, 0, none⟩ : Addr).add 1) (.int .i64 R.2.2) fun h4 => Wr h4 ((⟨br, 0, none⟩ : Addr).add 2) (.slice none 0 0) fun h5 =>
        zdg_b5 p dm c mp mn mc (i : Int) (some ⟨b4, 0, none⟩) (t : Int) (some ⟨bt, 0, none⟩) (some ⟨br, 0, none⟩) h5 nx0 nx1 K := fun {h' bt br q m d B'} na s' =>
    s'.wr0 fun g1 t1 => t1.wrB fun g2 t2 => t2.wr0 fun g3 t3 => t3.wrB fun g4 t4 => t4.wrB fun g5 t5 => fin5 na t5.to
  refine yaan rfl ⟨_, _, _, _, cX1, cX2, ⟨by omega, by omega⟩, yaan hp ⟨_, _, _, _, cO1, cO2, ?_⟩⟩
  clear s
  have s := St.start h5
  repeat' first
    | (with_reducible refine fin na2 ?_); exact s.to
    | (with_reducible refine St.new s (cs := [.int .i64 0, .int .i64 0, .slice none 0 0]) ?_); intro _ _ _ s
    | (with_reducible refine St.new s (cs := [.int .i64 0, .slice none 0 0]) ?_); intro _ _ _ s
    | (with_reducible refine yaae.mono (stp s.ext) ?_); rintro _ _ ⟨q2, m2, d2, B2, hv2, na2, tt⟩; refine ⟨_, _, _, _, _, _, _, _, _, hv2, ?_⟩; have s := s.join tt; clear tt
    | with_reducible refine ⟨⟨_, _, _, _, s.ext.cell cO1, s.ext.cell cO2, rfl⟩, ?_⟩
    | with_reducible refine ⟨⟨_, _, _, _, s.ext.cell cX1, s.ext.cell cX2, rfl⟩, ?_⟩
    | with_reducible refine ⟨?_, ?_⟩
end
section
variable {h : Hp} {p : OA} {n c : Nat} {l : List Ev} {k : Int} {sp : OA} {sn sc : Nat} {rows : Rows}
theorem yazu (r : EvsR h p n l) (o1 : ∀ e ∈ l, One e) (hn : n ≤ 12) (sm : Sm l) (hk : KindP k l) (ok : OkR k rows) (rr : RowsR h sp sn rows) :
    yaae Tryz.prog 12 #[.agg #[.int .i64 k, .slice sp sn sc], .slice p n c] h (VP (∃ o, Lin k l o D0 rows) h) := by
  have hl := r.len
  obtain ⟨c0, hc0⟩ : ∃ c0 : Cf, c0 = (List.replicate n false, rows) := ⟨_, rfl⟩
  have hd0 : dn c0 = D0 := by
    subst hc0
    funext i
    show (List.replicate n false).getD i false = false
    by_cases hi : i < n
    · simp [List.getD, hi]
    · simp [List.getD, hi]
  have hc : c0.1.length = l.length := by subst hc0; simp [hl]
  have h0l : lft l.length (dn c0) = l.length := by rw [hd0, ← tb0]; exact yaqj
  have ok0 : OkR k c0.2 := by subst hc0; exact ok
  have hlen := yaph hc h0l ok0 hk (by omega)
  refine zdg_call ?_
  rw [zdg_b0, Int.toNat_natCast, Nat.mul_one, yaie]
  refine (St.start h).new (cs := [.int .i64 k, .slice sp sn sc]) fun b1 h1 _ s1 => ⟨_, _, _, _, s1.ld0, s1.ldB, ⟨by omega, by omega, by omega, by omega⟩, ?_⟩
  rw [← yaym]
  refine s1.new fun b2 h2 _ s2 => ⟨⟨_, _, _, _, s2.ld0, s2.ldB, rfl⟩, ?_⟩
  refine s2.new (cs := [.slice (some ⟨b2, 0, none⟩) n n, .int .i64 k, .slice sp sn sc]) fun b3 h3 _ s3 => ?_
  have oD : Sl TB (some ⟨b2, 0, none⟩) n n (List.replicate n false) (cA b2 (TB.cells (List.replicate n false)) 4) := Sl.of_blk (by simp) rfl
  have oM : Sl tSn (some ⟨b3, 0, none⟩) 1 1 [((some ⟨b2, 0, none⟩, n, n), k, (sp, sn, sc))] (cA b3 [.slice (some ⟨b2, 0, none⟩) n n, .int .i64 k, .slice sp sn sc] 80) := Sl.of_blk (T := tSn) (xs := [((some ⟨b2, 0, none⟩, n, n), k, (sp, sn, sc))]) rfl rfl
  have o0 : OutP h k l c0 (some ⟨b3, 0, none⟩, 1, 1) 0 h3 := by
    refine ⟨[((some ⟨b2, 0, none⟩, n, n), k, (sp, sn, sc))], [c0], _, _, Nat.zero_le _, oM, AllH.one ⟨rfl, _, 0, rfl, by subst hc0; exact oD, .inr ⟨rfl, by subst hc0; exact rr⟩⟩, ?_, by simp, fun c hc => by rw [List.mem_singleton.1 hc]; exact yaun, by simp, fun j hj => absurd hj (by omega)⟩
    exact (s3.to (B := cA b1 [.int .i64 k, .slice sp sn sc] 24 + (cA b3 [.slice (some ⟨b2, 0, none⟩) n n, .int .i64 k, .slice sp sn sc] 80 + (cA b2 (TB.cells (List.replicate n false)) 4 + 0 + 0))) (by simp only [Bag.add_zero]; ac_rfl)).drop
  clear s1 s2 s3 oD oM
  refine ⟨fun x h' => ∃ i : Nat, x.2.1 = (i : Int) ∧ OutP h k l c0 x.1 i h', fun x _ => (allC k l c0).length - x.2.1.toNat, ⟨0, rfl, o0⟩, ?_⟩
  rintro ⟨⟨mp, mn, mc⟩, _, _⟩ h4 ⟨i, rfl, hs, cs, A0, A1, hi, o, al, s, hnd, hall, hmem0, hcl⟩
  dsimp only at o ⊢
  have hml := o.len
  have hal := al.len
  have hle := yaex hnd hall
  rw [zdg_b1]
  refine condP (fun hlt => ?_) (fun hge => ?_)
  rotate_left
  · rw [zdg_b3]
    refine VP.no (fun ⟨o, ho⟩ => ?_) s.ext
    refine yand (met := cs) (k := k) (l := l) (fun c hc' => ?_) (o := o) hmem0 (by rw [hd0]; subst hc0; exact ho)
    obtain ⟨j, hj, e⟩ := List.getElem_of_mem hc'
    have := hcl j (by omega)
    rw [yaad hj, e] at this
    exact ⟨(yaon hc h0l ok0 hk (hall c hc')).1, this.1, this.2⟩
  have hin : i < hs.length := by omega
  have hall2 := SnP.all al (s.to (B := A1 + (A0 + 0)))
  obtain ⟨k1, k2, k3⟩ := hall2.2 i hin
  have hmem : cs.getD i ([], []) ∈ cs := yaal (by omega)
  obtain ⟨hcl1, okc⟩ := yaon hc h0l ok0 hk (hall _ hmem)
  obtain ⟨ad, hp, hcell⟩ := (o.rd s).at_ (i := i) (by omega)
  obtain ⟨X, hX⟩ : ∃ X, hs.getD i tSn.d = X := ⟨_, rfl⟩
  obtain ⟨ci, hci⟩ : ∃ ci, cs.getD i ([], []) = ci := ⟨_, rfl⟩
  rw [hX] at k1 k2 k3 hcell
  rw [hci] at k2 k3 hcl1 okc hmem
  obtain ⟨⟨dq, dm, dc⟩, kk, rp, rn, rc⟩ := X
  dsimp only at k1 k2 k3
  subst k1
  have hdm := k2.len
  obtain rfl : dm = n := by omega
  refine ⟨⟨by omega, by omega⟩, yaan hp ⟨dq, dm, dc, kk, rp, rn, rc, by simpa [yabq] using hcell 0 (by decide), by simpa using hcell 1 (by decide), by simpa using hcell 2 (by decide), ?_⟩⟩
  refine s.new (cs := [.slice none 0 0, .int .i64 0, .slice none 0 0]) fun b4 h5 x5 s5 => s5.wr0 fun h6 s6 => s6.wrB fun h7 s7 => s7.wrB fun h8 s8 => ?_
  have s8 : St h h8 (A0 + (A1 + (cA b4 (xSn ((dq, dm, dc), kk, rp, rn, rc)) 80 + 0))) := s8.to
  have hall8 := SnP.all al (s8.to (B := A1 + (A0 + (cA b4 (xSn ((dq, dm, dc), kk, rp, rn, rc)) 80 + 0))))
  obtain ⟨_, k2', _⟩ := hall8.2 i hin
  rw [hX, hci] at k2'
  refine ⟨_, _, _, s8.ld0, (yagy (r.ext s8.ext) k2' (by omega)).mono fun v h9 ⟨⟨bc, hv, hbc⟩, x9⟩ => ⟨_, hv, yaaq (fun ht => ?_) (fun hf => ?_)⟩⟩
  · refine VP.yes ?_ (s8.grow x9).ext
    have := ybbj hc h0l ok0 hk (hall _ hmem) (hbc.1 ht)
    rw [hd0] at this
    subst hc0
    exact this
  have hncpl : ¬ Cpl l (dn ci) := fun h => by rw [hbc.2 h] at hf; cases hf
  have s9 := s8.grow x9
  refine ⟨fun x h' => ∃ t : Nat, x.2.1 = (t : Int) ∧ t ≤ dm ∧ InnP h kk l c0 ci b4 ((dq, dm, dc), kk, rp, rn, rc) hs cs x.1 t h', fun x _ => dm - x.2.1.toNat, ⟨0, rfl, Nat.zero_le _, [], [], A0, A1, by rw [List.append_nil]; exact o, by rw [List.append_nil, List.append_nil]; exact al, s9, by rw [List.append_nil]; exact hnd, by rw [List.append_nil]; exact hall, fun t' ht' => absurd ht' (by omega)⟩, ?_⟩
  rintro ⟨q, _, _⟩ h10 ⟨t, rfl, ht, inn⟩
  dsimp only at inn ⊢
  by_cases htn : t < dm
  · exact yaxc r o1 hn sm hk hc h0l ok0 (by omega) hin hX hci inn htn fun q' h' inn' => ⟨⟨t + 1, by push_cast; rfl, by omega, inn'⟩, by simp only; omega⟩
  · obtain rfl : t = dm := by omega
    obtain ⟨hs', cs', B0, B1, o', al', s', hnd', hall', hsu⟩ := inn
    have hml' := o'.len
    have hal' := al'.len
    have hle' := yaex hnd' hall'
    rw [zdg_b2]
    refine yaau (decide_eq_false (by omega)) ?_
    rw [zdg_b6]
    refine ⟨⟨by omega, by omega⟩, ⟨i + 1, by push_cast; rfl, hs ++ hs', cs ++ cs', B0, B1, by rw [List.length_append]; omega, o', al', ?_, hnd', hall', List.mem_append_left _ hmem0, fun j hj => ?_⟩, by simp only; omega⟩
    · exact (s'.to (B := cA b4 (xSn ((dq, t, dc), kk, rp, rn, rc)) 80 + (B0 + (B1 + 0)))).drop
    · rw [yaik (by omega)]
      rcases Nat.lt_or_ge j i with h | h
      · have := hcl j h
        exact ⟨this.1, fun c' hc' => List.mem_append_left _ (this.2 c' hc')⟩
      · obtain rfl : j = i := by omega
        rw [hci]
        refine ⟨hncpl, fun c' hc' => ?_⟩
        obtain ⟨t', ht', h2⟩ := yafb.1 hc'
        exact hsu t' (by omega) c' h2
end
theorem yave {k : Int} {l : List Ev} {os : List Int} {rows : Rows} (h : ∃ o ∈ os, o < 0 ∨ (l.length : Int) ≤ o) : witR k l os rows = (false, 0, 2) := if_pos h
theorem yatr {k : Int} {l : List Ev} {os : List Int} {rows : Rows} (h : ∀ o ∈ os, 0 ≤ o ∧ o < (l.length : Int)) (h2 : ¬ os.Nodup) : witR k l os rows = (false, 0, 10) := by
  unfold witR
  rw [if_neg (fun ⟨o, ho, hc⟩ => by have := h o ho; omega), if_pos h2]
theorem yazo {k : Int} {l : List Ev} {os : List Int} {rows : Rows} (h : ∀ o ∈ os, 0 ≤ o ∧ o < (l.length : Int)) (h2 : os.Nodup) : witR k l os rows = ((wit k l os D0 rows 0).1, (wit k l os D0 rows 0).2, 0) := by
  unfold witR
  rw [if_neg (fun ⟨o, ho, hc⟩ => by have := h o ho; omega), if_neg (fun h => h h2)]
theorem yatm {os : List Int} {i : Nat} (h : i < os.length) : os.drop i = os.getD i 0 :: os.drop (i + 1) := by rw [yaad h]; exact List.drop_eq_getElem_cons h
theorem yafz {os : List Int} {i : Nat} (h : i < os.length) : os.take (i + 1) = os.take i ++ [os.getD i 0] := by rw [yaad h]; exact List.take_succ_eq_append_getElem h
theorem yasy {os : List Int} {i : Nat} (h : i < os.length) (hn : (os.take i).Nodup) (hm : os.getD i 0 ∉ os.take i) : (os.take (i + 1)).Nodup := by
  rw [yafz h]
  exact List.nodup_append.2 ⟨hn, by simp, fun a ha b hb e => hm (by rw [List.mem_singleton.1 hb] at e; exact e ▸ ha)⟩
theorem yatw {os : List Int} {i : Nat} (h : i < os.length) (hm : os.getD i 0 ∈ os.take i) : ¬ os.Nodup := fun hn => by
  have h2 : (os.take (i + 1)).Nodup := hn.sublist (List.take_sublist _ _)
  rw [yafz h] at h2
  exact (List.nodup_append.1 h2).2.2 _ hm _ (List.mem_singleton.2 rfl) rfl
theorem ybcp {k : Int} {l : List Ev} {x : Nat} {os : List Int} {D : Nat → Bool} {rows : Rows} {i : Int} (h : ¬ Nxt l D x) : wit k l ((x : Int) :: os) D rows i = (false, i) := by
  show (if Nxt l D (x : Int).toNat then _ else _) = _
  rw [Int.toNat_natCast, if_neg h]
theorem yawr {k : Int} {l : List Ev} {x : Nat} {os : List Int} {D : Nat → Bool} {rows : Rows} {i : Int} (h : Nxt l D x) (h2 : stepE k rows (l.getD x dEv) = none) : wit k l ((x : Int) :: os) D rows i = (false, i) := by
  show (if Nxt l D (x : Int).toNat then _ else _) = _
  rw [Int.toNat_natCast, if_pos h, h2]
theorem yayp {k : Int} {l : List Ev} {x : Nat} {os : List Int} {D : Nat → Bool} {rows r : Rows} {i : Int} (h : Nxt l D x) (h2 : stepE k rows (l.getD x dEv) = some r) : wit k l ((x : Int) :: os) D rows i = wit k l os (setD D x) r (i + 1) := by
  show (if Nxt l D (x : Int).toNat then _ else _) = _
  rw [Int.toNat_natCast, if_pos h, h2]
def WitP (W : Bool × Int × Int) (h : Hp) (v : Value) (h' : Hp) : Prop := v = .tuple #[.bool W.1, .int .i64 W.2.1, .int .i64 W.2.2] ∧ Ext h h'
theorem WitP.of {W : Bool × Int × Int} {a : Bool} {b c : Int} {h h' : Hp} (e : W = (a, b, c)) (x : Ext h h') : WitP W h (.tuple #[.bool a, .int .i64 b, .int .i64 c]) h' := ⟨by rw [e], x⟩
theorem yama {ds : List Bool} {x : Nat} (hx : x < ds.length) : (fun j => (ds.set x true).getD j false) = setD (fun j => ds.getD j false) x := by
  funext j
  unfold setD
  by_cases h : j = x
  · subst h
    simp [List.getD, hx]
  · simp [List.getD, Ne.symm h, h]
section
variable {h : Hp} {p : OA} {n c : Nat} {l : List Ev} {k : Int} {sp : OA} {sn sc : Nat} {rows : Rows}
theorem ybak {q : OA} {m d : Nat} {os : List Int} (r : EvsR h p n l) (o1 : ∀ e ∈ l, One e) (hn : n ≤ 1000) (sm : Sm l) (hk : KindP k l) (ok : OkR k rows) (rr : RowsR h sp sn rows) (ro : RdT TI h q m os) (hm : m ≤ 1000) :
    yaae Tryz.prog 13 #[.agg #[.int .i64 k, .slice sp sn sc], .slice p n c, .slice q m d] h (WitP (witR k l os rows) h) := by
  have hl := r.len
  have hol := ro.len
  refine zdj_call ?_
  rw [zdj_b0, Int.toNat_natCast, Nat.mul_one, yaie]
  refine (St.start h).new (cs := [.int .i64 k, .slice sp sn sc]) fun b1 h1 x1 s1 => ⟨⟨by omega, by omega, by omega, by omega⟩, ?_⟩
  rw [← yaym]
  refine s1.new fun b2 h2 _ s2 => ?_
  have oD : Sl TB (some ⟨b2, 0, none⟩) n n (List.replicate n false) (cA b2 (TB.cells (List.replicate n false)) 4) := Sl.of_blk (by simp) rfl
  refine ⟨fun x h' => ∃ i : Nat, x.1 = (i : Int) ∧ i ≤ m ∧ h' = h2 ∧ ∀ o ∈ os.take i, 0 ≤ o ∧ o < (l.length : Int), fun x _ => m - x.1.toNat, ⟨0, rfl, by omega, rfl, by simp⟩, ?_⟩
  rintro ⟨_, _⟩ _ ⟨i, rfl, hi, rfl, i1⟩
  dsimp only
  rw [zdj_b1]
  refine condP (fun hlt => ?_) (fun hge => ?_)
  · have hmem : os.getD i 0 ∈ os := yaal (by omega)
    refine ldI (ro.ext s2.ext) rfl (by omega) (condP (fun hneg => WitP.of (yave ⟨_, hmem, .inl hneg⟩) s2.ext) (fun hnn => ldI (ro.ext s2.ext) rfl (by omega) (condP (fun hbig => WitP.of (yave ⟨_, hmem, .inr (by omega)⟩) s2.ext) (fun hok => ?_))))
    rw [zdj_b2]
    refine ⟨⟨by omega, by omega⟩, ⟨i + 1, by push_cast; rfl, by omega, rfl, fun o ho => ?_⟩, by simp only; omega⟩
    rw [yafz (by omega)] at ho
    rcases List.mem_append.1 ho with ho | ho
    · exact i1 o ho
    · rw [List.mem_singleton.1 ho]; omega
  obtain rfl : i = m := by omega
  rw [List.take_of_length_le (by omega)] at i1
  clear hge hi
  rw [zdj_b3]
  refine ⟨fun x h' => ∃ (t : Nat) (ds : List Bool) (D : Bag), x.1 = (t : Int) ∧ t ≤ i ∧ Sl TB (some ⟨b2, 0, none⟩) n n ds D ∧ St h h' (D + (cA b1 [.int .i64 k, .slice sp sn sc] 24 + 0)) ∧ (os.take t).Nodup ∧ ∀ j : Nat, j < n → (ds.getD j false = true ↔ (j : Int) ∈ os.take t), fun x _ => i - x.1.toNat, ⟨0, _, _, rfl, by omega, oD, s2, by simp, fun j hj => by simp [List.getD, hj]⟩, ?_⟩
  clear s2 oD
  rintro ⟨_, _⟩ h3 ⟨t, ds, D, rfl, ht, oD, s3, hnd, hds⟩
  dsimp only
  rw [zdj_b4]
  refine condP (fun hlt => ?_) (fun hge => ?_)
  · have hmem : os.getD t 0 ∈ os := yaal (by omega)
    have hin := i1 _ hmem
    have hdt := hds (os.getD t 0).toNat (by omega)
    rw [show (((os.getD t 0).toNat : Nat) : Int) = os.getD t 0 by omega] at hdt
    refine ldI (ro.ext s3.ext) rfl (by omega) (ldBo (oD.rd s3) (i' := (os.getD t 0).toNat) (by omega) (by omega) (yaaq (fun hy => WitP.of (yatr i1 (yatw (by omega) (hdt.1 hy))) s3.ext) (fun hno => ?_)))
    refine ldI (ro.ext s3.ext) rfl (by omega) (Sl.wrI oD s3 (by omega) (by omega) rfl (x := true) rfl fun h4 D4 o4 s4 => ?_)
    rw [zdj_b5]
    refine ⟨⟨by omega, by omega⟩, ⟨t + 1, _, D4, by push_cast; rfl, by omega, o4, s4, yasy (by omega) hnd fun hc => (by rw [hdt.2 hc] at hno; cases hno), fun j hj => ?_⟩, by simp only; omega⟩
    rw [yafz (by omega), List.mem_append, List.mem_singleton, ← hds j hj]
    have hdl := oD.len
    have e := congrFun (yama (ds := ds) (x := (os.getD t 0).toNat) (by omega)) j
    rw [e]
    unfold setD
    rw [Bool.or_eq_true, decide_eq_true_iff]
    exact ⟨fun h => h.elim (fun h => .inr (by omega)) .inl, fun h => h.elim .inr fun h => .inl (by omega)⟩
  obtain rfl : t = i := by omega
  rw [List.take_of_length_le (by omega)] at hnd
  clear hge ht hds
  have s3 := s3.drop
  rw [zdj_b6, yazo i1 hnd, Int.toNat_natCast, Nat.mul_one, yaie, ← yaym]
  refine ⟨⟨by omega, by omega, by omega, by omega⟩, s3.new fun b4 h4 _ s4 => ?_⟩
  have oD4 : Sl TB (some ⟨b4, 0, none⟩) n n (List.replicate n false) (cA b4 (TB.cells (List.replicate n false)) 4) := Sl.of_blk (by simp) rfl
  have e0 : (fun j => (List.replicate n false).getD j false) = D0 := by
    funext j
    show (List.replicate n false).getD j false = false
    by_cases hj : j < n
    · simp [List.getD, hj]
    · simp [List.getD, hj]
  obtain ⟨W, hW⟩ : ∃ W, wit k l os D0 rows 0 = W := ⟨_, rfl⟩
  rw [hW]
  refine ⟨fun x h' => ∃ (i : Nat) (ds : List Bool) (D B : Bag) (sp : OA) (sn sc : Nat) (rs : Rows), x.1 = (i : Int) ∧ i ≤ t ∧ Sl TB (some ⟨b4, 0, none⟩) n n ds D ∧ RowsX h (sp, sn, sc) rs B ∧ OkR k rs ∧ St h h' (D + (B + (cA b1 [.int .i64 k, .slice sp sn sc] 24 + 0))) ∧ wit k l (os.drop i) (fun j => ds.getD j false) rs (i : Int) = W, fun x _ => t - x.1.toNat,
    ⟨0, _, _, 0, sp, sn, sc, rows, rfl, by omega, oD4, .inr ⟨rfl, rr⟩, ok, by rw [Bag.zero_add]; exact s4, by rw [e0]; exact hW⟩, ?_⟩
  clear s4 oD4 s3 oD rr ok e0 hW
  rintro ⟨_, _⟩ h5 ⟨i, ds, D, B, sp, sn, sc, rs, rfl, hi, oD, rx, ok, s5, hW⟩
  dsimp only
  have hdl := oD.len
  rw [zdj_b7]
  refine condP (fun hlt => ?_) (fun hge => ?_)
  rotate_left
  · obtain rfl : i = t := by omega
    rw [List.drop_of_length_le (by omega)] at hW
    rw [zdj_b9]
    refine (yagy (r.ext s5.ext) (oD.rd s5) hn).mono fun v h6 ⟨⟨b6, hv, hb⟩, x6⟩ => ⟨_, hv, yali (fun hf => ?_) (fun hy => ?_)⟩
    · have : W = (false, (i : Int)) := by
        rw [← hW]
        exact if_neg fun h => by rw [hb.2 h] at hf; cases hf
      exact WitP.of (by rw [this]) (s5.grow x6).ext
    · have : W = (true, -1) := by
        rw [← hW]
        exact if_pos (hb.1 hy)
      exact WitP.of (by rw [this]) (s5.grow x6).ext
  have hin := i1 _ (yaal (l := os) (i := i) (d := 0) (by omega))
  obtain ⟨y, hy⟩ : ∃ y : Nat, os.getD i 0 = (y : Int) := ⟨(os.getD i 0).toNat, by omega⟩
  rw [yatm (by omega), hy] at hW
  refine ldI (ro.ext s5.ext) rfl (by omega) ?_
  rw [hy]
  refine (yauy (r.ext s5.ext) o1 (oD.rd s5) (i := y) (by omega) hn).mono fun v h6 ⟨⟨bn, hv, hbn⟩, x6⟩ => ⟨_, hv, yali (fun hf => ?_) (fun hyes => ?_)⟩
  · rw [ybcp (fun h => by rw [hbn.2 h] at hf; cases hf)] at hW
    exact WitP.of (by rw [← hW]) (s5.grow x6).ext
  have hnxt := hbn.1 hyes
  have hyn : y < n := by omega
  have s6 := s5.grow x6
  obtain ⟨ad, hp, hcell⟩ := (r.ext s6.ext).1.at_ (i := y) hyn
  rw [yahl (by omega)] at hcell
  have em := (r.ext s6.ext).at_ hyn
  have hov : OpV k (l.getD y dEv).t.co (l.getD y dEv).zs := hk _ (yaal (by omega))
  have hsz := sm _ (yaal (l := l) (i := y) (d := dEv) (by omega))
  have cX1 : cell h6 (⟨b1, 0, none⟩ : Addr) = some (.int .i64 k) := s6.ld0
  have cX2 : cell h6 ((⟨b1, 0, none⟩ : Addr).add 1) = some (.slice sp sn sc) := s6.ldB
  have cO1 : cell h6 ((ad.add (Int.toNat (y : Int) * 8)).add 1) = some (.int .i64 (l.getD y dEv).t.co) := hcell 1 (by decide)
  have cO2 : cell h6 (((ad.add (Int.toNat (y : Int) * 8)).add 1).add 1) = some (.slice (l.getD y dEv).t.ar.1 (l.getD y dEv).t.ar.2.1 (l.getD y dEv).t.ar.2.2) := by have := hcell 2 (by decide); simpa [yabq] using this
  have cR3 : cell h6 ((ad.add (Int.toNat (y : Int) * 8)).add 3) = some (.int .i64 (l.getD y dEv).t.er) := hcell 3 (by decide)
  have cR4 : cell h6 (((ad.add (Int.toNat (y : Int) * 8)).add 3).add 1) = some (.int .i64 (l.getD y dEv).t.nu) := by have := hcell 4 (by decide); simpa [yabq] using this
  have cR5 : cell h6 (((ad.add (Int.toNat (y : Int) * 8)).add 3).add 2) = some (.slice (l.getD y dEv).t.li.1 (l.getD y dEv).t.li.2.1 (l.getD y dEv).t.li.2.2) := by have := hcell 5 (by decide); simpa [yabq] using this
  clear hcell
  obtain ⟨R, hR⟩ : ∃ R, stepR k rs (l.getD y dEv).t.co (l.getD y dEv).zs = R := ⟨_, rfl⟩
  have hzl := em.1.1.len
  have k3 : RowsR h6 sp sn rs := rx.r (s6.to (B := B + (D + (cA b1 [.int .i64 k, .slice sp sn sc] 24 + 0))))
  have stp : ∀ {h' : Hp}, Ext h6 h' → yaae Tryz.prog 41 #[.agg #[.int .i64 k, .slice sp sn sc], .agg #[.int .i64 (l.getD y dEv).t.co, .slice (l.getD y dEv).t.ar.1 (l.getD y dEv).t.ar.2.1 (l.getD y dEv).t.ar.2.2]] h' (StepP h' 0 k R.1 R.2.1 R.2.2) := fun x => by
    have := yavs (cc := (l.getD y dEv).t.ar.2.2) (c := sc) ok hov (k3.ext x) (em.1.1.ext x) (by omega)
    rwa [RunP, hR] at this
  generalize hnx : (fun (s' : Int × Unit) (h' : Hp) => (∃ (i : Nat) (ds : List Bool) (D B : Bag) (sp : OA) (sn sc : Nat) (rs : Rows), s'.1 = (i : Int) ∧ i ≤ t ∧ Sl TB (some ⟨b4, 0, none⟩) n n ds D ∧ RowsX h (sp, sn, sc) rs B ∧ OkR k rs ∧ St h h' (D + (B + (cA b1 [.int .i64 k, .slice sp sn sc] 24 + 0))) ∧ wit k l (os.drop i) (fun j => ds.getD j false) rs (i : Int) = W) ∧ t - s'.1.toNat < t - ((i : Nat) : Int).toNat) = nx
  have fin10 : ∀ {h' : Hp} {bt br : Nat} {q2 : OA} {m2 d2 : Nat} {B' : Bag}, RowsA (q2, m2, d2) R.1 B' → St h6 h' (cA bt [.int .i64 k, .slice q2 m2 d2] 24 + (cA br [.int .i64 R.2.1, .int .i64 R.2.2, .slice none 0 0] 58 + B')) → stepE k rs (l.getD y dEv) = some R.1 →
      zdj_b10 p n c q t d (some ⟨b1, 0, none⟩) (some ⟨b4, 0, none⟩) n n (i : Int) (y : Int) (some ⟨bt, 0, none⟩) h' nx (WitP (W.1, W.2, 0) h) := fun {h' bt br q2 m2 d2 B'} na s' hst => by
    have s7 := (s6.join s').to (B := cA bt [.int .i64 k, .slice q2 m2 d2] 24 + (cA br [.int .i64 R.2.1, .int .i64 R.2.2, .slice none 0 0] 58 + (B' + (B + D)) + (cA b1 [.int .i64 k, .slice sp sn sc] 24 + 0)))
    rw [zdj_b10]
    refine yaan rfl ⟨_, _, _, _, s7.ld0, s7.ldB, yaan rfl (s7.wr0 fun h8 s8 => s8.wrB fun h9 s9 => ?_)⟩
    have s9 : St h h9 (D + (B' + (cA b1 [.int .i64 k, .slice q2 m2 d2] 24 + 0) + (cA bt [.int .i64 k, .slice q2 m2 d2] 24 + (cA br [.int .i64 R.2.1, .int .i64 R.2.2, .slice none 0 0] 58 + B)))) := s9.to
    refine Sl.wrI oD s9 (by omega) (by omega) rfl (x := true) rfl fun h10 D10 o10 s10 => ?_
    rw [Int.toNat_natCast] at o10
    rw [zdj_b11, ← hnx]
    refine ⟨⟨by omega, by omega⟩, ⟨i + 1, _, D10, B', q2, m2, d2, R.1, by push_cast; rfl, by omega, o10, .inl na, yalz ok hov hst, ?_, ?_⟩, by simp only; omega⟩
    · exact (s10.to (B := (cA bt [.int .i64 k, .slice q2 m2 d2] 24 + (cA br [.int .i64 R.2.1, .int .i64 R.2.2, .slice none 0 0] 58 + B)) + (D10 + (B' + (cA b1 [.int .i64 k, .slice q2 m2 d2] 24 + 0))))).drop
    · rw [yama (by omega), ← hW, yayp hnxt hst]
      push_cast
      rfl
  have fin8 : ∀ {h' : Hp} {bt br : Nat} {q2 : OA} {m2 d2 : Nat} {B' : Bag}, RowsA (q2, m2, d2) R.1 B' → St h6 h' (cA bt [.int .i64 k, .slice q2 m2 d2] 24 + (cA br [.int .i64 R.2.1, .int .i64 R.2.2, .slice none 0 0] 58 + B')) →
      zdj_b8 p n c q t d (some ⟨b1, 0, none⟩) (some ⟨b4, 0, none⟩) n n (i : Int) (y : Int) (some ⟨bt, 0, none⟩) (some ⟨br, 0, none⟩) h' nx (WitP (W.1, W.2, 0) h) := fun {h' bt br q2 m2 d2 B'} na s' => by
    rw [zdj_b8]
    have x := s6.ext.trans s'.ext
    refine (r.ext x).ldEn rfl hyn (condP (fun he => ?_) (fun he => fin10 na s' (by unfold stepE; rw [if_neg (fun h => he h.1), hR])))
    refine yaan rfl ⟨_, _, _, _, _, s'.ld0, s'.ldB, s'.ldB, ⟨by omega, by omega⟩, yaan hp ⟨_, _, _, _, _, s'.ext.cell cR3, s'.ext.cell cR4, s'.ext.cell cR5, ?_⟩⟩
    refine (yapx (RdT.nil _ none) (em.2.1.ext s'.ext) (Nat.zero_le _)).mono fun v h6 ⟨x6, hv⟩ => ⟨_, hv, condN (fun hne => ?_) (fun heq => fin10 na (s'.grow x6) ?_)⟩
    · rw [yawr hnxt (by
        unfold stepE
        rw [hR]
        exact if_pos ⟨he, fun h => hne (by rw [h.1, h.2.1, h.2.2])⟩)] at hW
      exact WitP.of (by rw [← hW]) (x.trans x6)
    · unfold stepE
      rw [hR]
      injection heq with g1 g2
      injection g2 with g2 g3
      exact if_neg fun h => h.2 ⟨g1, g2, g3.symm⟩
  have fin : ∀ {h' : Hp} {bt br : Nat} {q2 : OA} {m2 d2 : Nat} {B' : Bag}, RowsA (q2, m2, d2) R.1 B' → St h6 h' (cA bt [.int .i64 0, .slice none 0 0] 24 + (cA br [.int .i64 0, .int .i64 0, .slice none 0 0] 58 + B')) →
      Wr h' ⟨bt, 0, none⟩ (.int .i64 k) fun h1 => Wr h1 ((⟨bt, 0, none⟩ : Addr).add 1) (.slice q2 m2 d2) fun h2 => Wr h2 ⟨br, 0, none⟩ (.int .i64 R.2.1) fun h3 => Wr h3 ((⟨br, 0, none⟩ : Addr).add 1) (.int .i64 R.2.2) fun h4 => Wr h4 ((⟨br, 0, none⟩ : Addr).add 2) (.slice none 0 0) fun h5 =>
        zdj_b8 p n c q t d (some ⟨b1, 0, none⟩) (some ⟨b4, 0, none⟩) n n (i : Int) (y : Int) (some ⟨bt, 0, none⟩) (some ⟨br, 0, none⟩) h5 nx (WitP (W.1, W.2, 0) h) := fun {h' bt br q2 m2 d2 B'} na s' =>
    s'.wr0 fun g1 t1 => t1.wrB fun g2 t2 => t2.wr0 fun g3 t3 => t3.wrB fun g4 t4 => t4.wrB fun g5 t5 => fin8 na t5.to
  refine yaan rfl ⟨_, _, _, _, cX1, cX2, ⟨by omega, by omega⟩, yaan hp ⟨_, _, _, _, cO1, cO2, ?_⟩⟩
  clear s5 s6
  have s := St.start h6
  repeat' first
    | (with_reducible refine fin na2 ?_); exact s.to
    | (with_reducible refine St.new s (cs := [.int .i64 0, .int .i64 0, .slice none 0 0]) ?_); intro _ _ _ s
    | (with_reducible refine St.new s (cs := [.int .i64 0, .slice none 0 0]) ?_); intro _ _ _ s
    | (with_reducible refine yaae.mono (stp s.ext) ?_); rintro _ _ ⟨q2, m2, d2, B2, hv2, na2, tt⟩; refine ⟨_, _, _, _, _, _, _, _, _, hv2, ?_⟩; have s := s.join tt; clear tt
    | with_reducible refine ⟨⟨_, _, _, _, s.ext.cell cO1, s.ext.cell cO2, rfl⟩, ?_⟩
    | with_reducible refine ⟨yaan rfl ⟨_, _, _, _, s.ext.cell cX1, s.ext.cell cX2, rfl⟩, ?_⟩
    | with_reducible refine ⟨?_, ?_⟩
end
abbrev FitP (k : Int) (l : List Ev) (rows : Rows) : Prop := OkR k rows ∧ yaff l ∧ KindP k l
section
variable {h : Hp} {p : OA} {n c : Nat} {l : List Ev} {k : Int} {sp : OA} {sn sc : Nat} {rows : Rows}
end
section
variable {h : Hp} {p : OA} {n c : Nat} {l : List Ev} {k : Int} {sp : OA} {sn sc : Nat} {rows : Rows}
theorem yayh (r : EvsR h p n l) (hn : n ≤ 12) : yaae Tryz.prog 9 #[.slice p n c] h (fun v h' => (∃ b, v = .bool b) ∧ Ext h h') := by
  have hl := r.len
  refine zaj_call ?_
  rw [zaj_b0]
  refine ⟨fun x h' => ∃ i : Nat, x.2.1 = (i : Int) ∧ i ≤ n ∧ (0 ≤ x.1 ∧ x.1 ≤ n) ∧ St h h' 0, fun x _ => n - x.2.1.toNat, ⟨0, rfl, by omega, ⟨by omega, by omega⟩, St.start h⟩, ?_⟩
  rintro ⟨wide, _, _⟩ h1 ⟨i, rfl, hi, hw, s⟩
  dsimp only at hw ⊢
  rw [zaj_b1]
  refine condP (fun hlt => ?_) (fun hge => ?_)
  rotate_left
  · rw [zaj_b3]
    exact ⟨⟨_, rfl⟩, s.ext⟩
  refine (r.ext s.ext).cp s rfl (by omega) fun b1 h2 _ s2 => ?_
  refine ⟨fun x h' => ∃ j : Nat, x.2.1 = (j : Int) ∧ j ≤ n ∧ (0 ≤ x.1 ∧ x.1 ≤ j) ∧ St h h' (cA b1 (evC (l.getD i dEv).t) 60 + 0), fun x _ => n - x.2.1.toNat, ⟨0, rfl, by omega, ⟨by omega, by simp⟩, s2⟩, ?_⟩
  clear s2
  rintro ⟨nv, _, _⟩ h3 ⟨j, rfl, hj, hv0, s3⟩
  dsimp only at hv0 ⊢
  rw [zaj_b2]
  refine condP (fun hlt2 => ?_) (fun hge2 => ?_)
  rotate_left
  · rw [zaj_b5, zaj_b6]
    refine ⟨⟨by omega, by omega⟩, ⟨i + 1, by push_cast; rfl, by omega, ?_, s3.drop⟩, by simp only; omega⟩
    simp only
    split
    · constructor <;> omega
    · exact hw
  have nx : ∀ {nx0 : Int × Int × Unit → Hp → Prop} {K : VK} {h4 : Hp} {z : Int} {b2 : Nat}, St h h4 (cA b2 (evC (l.getD j dEv).t) 60 + (cA b1 (evC (l.getD i dEv).t) 60 + 0)) → 0 ≤ z ∧ z ≤ (j : Int) + 1 → zaj_b4 p n c wide (some ⟨b1, 0, none⟩) z p n c (n : Int) (i : Int) p n c (n : Int) (j : Int) h4 nx0 (fun s' h' => (∃ j : Nat, s'.2.1 = (j : Int) ∧ j ≤ n ∧ (0 ≤ s'.1 ∧ s'.1 ≤ j) ∧ St h h' (cA b1 (evC (l.getD i dEv).t) 60 + 0)) ∧ n - s'.2.1.toNat < n - ((j : Nat) : Int).toNat) K := fun s hz => by
    rw [zaj_b4]
    exact ⟨⟨by omega, by omega⟩, ⟨j + 1, by push_cast; rfl, by omega, by push_cast; exact hz, s.drop⟩, by simp only; omega⟩
  refine (r.ext s3.ext).cp s3 rfl (by omega) fun b2 h4 _ s4 => yaan rfl (ldEvB s4.atomBlk (ldEvB s4.blk ((yaij _ _ _).mono fun v h5 ⟨hv, x5⟩ => ⟨_, hv, ?_⟩)))
  have s5 := s4.grow x5
  refine condN (fun hno => ldEvB s5.blk (yaan rfl (ldEvB s5.atomBlk ((yaij _ _ _).mono fun v h6 ⟨hv, x6⟩ => ⟨_, hv, ?_⟩)))) (fun hy => nx s5 ⟨by omega, by omega⟩)
  have s6 := s5.grow x6
  exact condN (fun hno => ⟨⟨by omega, by omega⟩, nx s6 ⟨by omega, by omega⟩⟩) (fun hy => nx s6 ⟨by omega, by omega⟩)
theorem ybau : OkR k rows ∧ HistK k l ↔ FitP k l rows := by
  constructor
  · rintro ⟨ok, hh⟩
    exact ⟨ok, ⟨k, yalk ok, hh⟩, hh.2.2.2⟩
  · rintro ⟨ok, ⟨_, _, h1, h2, h3, _⟩, h4⟩
    exact ⟨ok, h1, h2, h3, h4⟩
theorem yatb (r : EvsR h p n l) (sm : Sm l) (rr : RowsR h sp sn rows) (hr : ∀ r ∈ rows, r.length ≤ 1000) :
    yaae Tryz.prog 11 #[.agg #[.int .i64 k, .slice sp sn sc], .slice p n c] h (VP (FitP k l rows) h) := by
  refine zak_call ?_
  rw [zak_b0]
  refine (St.start h).new (cs := [.int .i64 k, .slice sp sn sc]) fun b1 h1 _ s => ⟨_, _, _, _, s.ld0, s.ldB, ?_⟩
  refine (yapn (rr.ext s.ext) hr).mono fun v h2 ⟨⟨b2, hv2, hb2⟩, x2⟩ => ⟨_, hv2, ?_⟩
  have s2 := s.grow x2
  refine yaaq (fun hy => ⟨_, s2.ld0, ?_⟩) (fun hno => VP.no (fun o => by rw [hb2.2 o.1] at hno; cases hno) s2.ext)
  refine (yaoo (r.ext s2.ext) sm).mono fun v h3 ⟨⟨b3, hv3, hb3⟩, x3⟩ => ⟨_, hv3, ⟨_, rfl, ?_⟩, (s2.grow x3).ext⟩
  rw [hb3, ← ybau]
  exact ⟨fun o => ⟨hb2.1 hy, o⟩, fun o => o.2⟩
theorem yazj {o : List Nat} (h : Lin k l o D0 rows) : o.length ≤ l.length := by
  have h1 := yapm h
  have := yaex (m := List.range l.length) h1.1 fun a ha => List.mem_range.2 (h1.2 a ha).1
  rwa [List.length_range] at this
theorem yasb {most : Int} (aw : ybbh h) (tab : Tab10 h) (r : EvsR h p n l) (rr : RowsR h sp sn rows) :
    yaae Tryz.prog 3 #[.agg #[.int .i64 k, .slice sp sn sc], .slice p n c, .int .i64 most] h (TrueP h) := by
  have hl := r.len
  refine zae_call ?_
  rw [zae_b0_eq]
  refine (St.start h).new (cs := [.int .i64 k, .slice sp sn sc]) fun b1 h1 _ s1 => ?_
  have awk : ∀ {h' : Hp}, Ext h h' → yaae Tryz.prog 7 #[] h' (fun v h' => ∃ r : Bool, v = .bool r ∧ TrueP h (.bool r) h') := fun x => (aw _ x).mono fun v h2 ⟨hv, x2⟩ => ⟨_, hv, rfl, x.trans x2⟩
  refine (aw h1 s1.ext).mono fun v h2 ⟨hv, x2⟩ => ⟨_, hv, yaau rfl ?_⟩
  have s2 := s1.grow x2
  refine ⟨_, _, _, _, s2.ld0, s2.ldB, (ybcm (r.ext s2.ext) (rr.ext s2.ext)).mono fun v h3 ⟨⟨bf, hv, hbf⟩, x3⟩ => ⟨_, hv, ?_⟩⟩
  have s3 := s2.grow x3
  refine yali (fun _ => awk s3.ext) (fun hy => ?_)
  obtain ⟨h12, sm, hr20, hr40⟩ := hbf.1 hy
  have hr : ∀ r ∈ rows, r.length ≤ 1000 := fun w hw => by have := hr40 w hw; omega
  have main : ∀ {h4 : Hp}, St h h4 (cA b1 [.int .i64 k, .slice sp sn sc] 24 + 0) → zae_b1 p n c most (some ⟨b1, 0, none⟩) h4 (TrueP h) := fun {h4} s4 => by
    rw [zae_b1_eq]
    refine yaan rfl ⟨_, _, _, _, s4.ld0, s4.ldB, (yalr (yaua k) (tab.ext s4.ext) (r.ext s4.ext) sm (rr.ext s4.ext) hr).mono fun v h5 ⟨bb, q, m, d, e, hv, hg, hs⟩ => ⟨_, _, _, _, _, hv, ?_⟩⟩
    have x5 : Ext h4 h5 := by
      rcases hs with ⟨_, _, _, x⟩ | ⟨_, s⟩
      · exact x
      · exact s.ext
    have s5 := s4.grow x5
    refine yaan rfl ⟨_, _, _, _, s5.ld0, s5.ldB, (yatb (k := k) (sc := sc) (c := c) (r.ext s5.ext) sm (rr.ext s5.ext) hr).mono fun v h6 ⟨⟨bv, hv, hbv⟩, x6⟩ => ⟨_, hv, ?_⟩⟩
    have s6 := s5.grow x6
    have b2 : ∀ want, want = e → zae_b2 p n c (some ⟨b1, 0, none⟩) bb q m d e want h6 (TrueP h) := fun want hw => by
      subst hw
      rw [zae_b2_eq]
      rcases hs with ⟨hne, rfl, rfl, _⟩ | ⟨rfl, hs⟩
      · exact yaaw (by rw [decide_eq_false hne]; rfl) (yaaw rfl (yaaw rfl ⟨by rw [decide_eq_true rfl], s6.ext⟩))
      · refine yaau rfl (yaau rfl ?_)
        have hfit : FitP k l rows ∧ (l.length : Int) ≤ most := by
          rcases hg with ⟨_, h0⟩ | ⟨hf, ⟨_, h0⟩ | ⟨_, ⟨_, h0⟩ | ⟨hle, _⟩⟩⟩
          · cases h0
          · cases h0
          · cases h0
          · exact ⟨hf, hle⟩
        obtain ⟨⟨ok, ⟨_, _, hn, o1, _⟩, hk⟩, _⟩ := hfit
        rw [zae_b3_eq]
        refine yaan rfl ⟨_, _, _, _, s6.ld0, s6.ldB, (yazu (r.ext s6.ext) o1 (by omega) sm hk ok (rr.ext s6.ext)).mono fun v h7 ⟨⟨bl, hv, hbl⟩, x7⟩ => ⟨_, hv, ?_⟩⟩
        have s7 := s6.grow x7
        rcases hs with ⟨rfl, A, o, rfl, oA, tA, hlin⟩ | ⟨rfl, rfl, rfl, rfl, _, hnot⟩
        · have : bl = true := hbl.2 ⟨o, hlin⟩
          subst this
          refine yaau rfl (yaau rfl (yaan rfl ⟨_, _, _, _, s7.ld0, s7.ldB, ?_⟩))
          have hol := yazj hlin
          have ro : RdT TI h7 q o.length (natI o) := (oA.rd (tA.to (B := A + 0) (by rw [Bag.add_zero]))).ext (x6.trans x7)
          refine (ybak (r.ext s7.ext) o1 (by omega) sm hk ok (rr.ext s7.ext) ro (by omega)).mono fun v h8 ⟨hv, x8⟩ => ?_
          rw [show witR k l (natI o) rows = (true, -1, 0) from yaxe hlin] at hv
          exact ⟨_, _, _, hv, yaaw rfl ⟨rfl, (s7.grow x8).ext⟩⟩
        · have : bl = false := by
            cases bl with
            | false => rfl
            | true => obtain ⟨o, ho⟩ := hbl.1 rfl; exact absurd ho (hnot o)
          subst this
          exact yaau rfl (yaaw rfl ⟨rfl, s7.ext⟩)
    refine yali (fun hno => b2 _ ?_) (fun hy => ?_)
    · rcases hg with ⟨_, h0⟩ | ⟨hf, _⟩
      · exact h0.symm
      · rw [hbv.2 hf] at hno; cases hno
    · have hf := hbv.1 hy
      rcases hg with ⟨hn, _⟩ | ⟨_, hg⟩
      · exact absurd hf hn
      · refine condP (fun h1 => b2 _ (by omega)) (fun h1 => condP (fun h14 => b2 _ (by omega)) (fun h14 => condP (fun hlt => b2 _ (by omega)) (fun hge => b2 _ (by omega))))
  refine condP (fun hle => (yayh (r.ext s3.ext) (by omega)).mono fun v h4 ⟨⟨b4, hv⟩, x4⟩ => ⟨_, hv, yaaq (fun _ => awk (s3.grow x4).ext) (fun _ => main (s3.grow x4))⟩) (fun hgt => main s3)
end
end Go.Proofs.YtllhdhpjgihjfaaGreatDoor
