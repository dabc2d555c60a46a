/- Part TF TG TJ TK TL TM TN TO TP TQ TR TU TV TW TX TY TZ UA UB UC UD UE UF of the proof: contracts of functions of the program, and what follows from them. -/
import Derived.Test.YtfkccighnkepgaaGreatSxTE
import Derived.Lib.IndexBytes
/- The table: a part of an index. -/
set_option maxRecDepth 100000
namespace Go.Proofs.YtfkccighnkepgaaGreat
open Go Go.Sx
/-- What a value's function answers at a record, in a state. -/
def ValR (h0 : Hp) (G : Bag) (f : Value) (vf : Rec → Int) : Prop := ∀ (b : Nat) (r : Rec) (h : Hp) (B : Bag) (K : Value → Hp → Prop), St h0 h (G + B) → Blk h b (recC r) 49 → (∀ h', Ext h h' → K (.int .i64 (vf r)) h') → funV f fun fg fa fc => callX Tryz.prog F fg (fa ++ (([ptr b] : List Value) ++ fc)).toArray h K
theorem key_v {h0 : Hp} {G : Bag} : ValR h0 G (.func (.func 38) #[] #[]) (fun r => r.1) := fun b r h B K s hb hK => by
  refine funX_of rfl (table_Table_ByKey_c1_call ?_)
  rw [table_Table_ByKey_c1_b0_eq]
  exact ⟨_, hb.cell 0, hK _ (Ext.refl _)⟩
theorem place_v {h0 : Hp} {G : Bag} : ValR h0 G (.func (.func 43) #[] #[]) (fun r => r.2.1) := fun b r h B K s hb hK => by
  refine funX_of rfl (table_Table_ByPlace_c1_call ?_)
  rw [table_Table_ByPlace_c1_b0_eq]
  exact ⟨_, Blk.cellA hb 1, hK _ (Ext.refl _)⟩
theorem all_p {h0 : Hp} {G : Bag} {P : Rec → Prop} : PredR h0 G (.func (.func 36) #[] #[]) (fun _ => true) P := fun b r h B K _ s hb hK => by
  refine funX_of rfl (table_Table_List_c1_call ?_)
  rw [table_Table_List_c1_b0_eq]
  exact hK _ (Ext.refl _)
theorem allK_p {h0 : Hp} {G : Bag} {P : Rec → Prop} : PredR h0 G (.func (.func 39) #[] #[]) (fun _ => true) P := fun b r h B K _ s hb hK => by
  refine funX_of rfl (table_Table_ByKey_c2_call ?_)
  rw [table_Table_ByKey_c2_b0_eq]
  exact hK _ (Ext.refl _)
theorem place_p {h0 : Hp} {G : Bag} {P : Rec → Prop} {b1 b2 : Nat} {y1 y2 : Int} : PredR h0 (cA b1 [.int .i64 y1] 3 + (cA b2 [.int .i64 y2] 3 + G)) (.func (.func 44) #[] #[ptr b1, ptr b2]) (fun r => decide (y1 ≤ r.2.2.1 ∧ r.2.2.1 ≤ y2)) P := fun b r h B K _ s hb hK => by
  refine funX_of rfl (table_Table_ByPlace_c2_call ?_)
  rw [table_Table_ByPlace_c2_b0_eq]
  refine ⟨_, Blk.cellA hb 2, _, s.ld0, condP (fun h1 => ⟨_, Blk.cellA hb 2, _, s.ld0, ?_⟩) (fun h1 => ?_)⟩
  · have : decide (r.2.2.1 ≤ y2) = decide (y1 ≤ r.2.2.1 ∧ r.2.2.1 ≤ y2) := decide_eq_decide.2 ⟨fun h => ⟨h1, h⟩, fun h => h.2⟩
    rw [this]
    exact hK _ (Ext.refl _)
  · have h2 := hK h (Ext.refl _)
    dsimp only at h2
    rwa [decide_eq_false (fun hc : y1 ≤ r.2.2.1 ∧ r.2.2.1 ≤ y2 => h1 hc.1)] at h2
theorem name_p {h0 : Hp} {G : Bag} {b1 : Nat} {part : ByteArray} (hm : MaxL h0) : PredR h0 (cA b1 [.string part] 9 + G) (.func (.func 46) #[] #[ptr b1]) (fun r => Lib.contains r.2.2.2.2.data.toList part.data.toList) (fun r => r.2.2.2.2.size ≤ 40) := fun b r h B K hr s hb hK => by
  refine funX_of rfl (table_Table_ByName_c1_call ?_)
  rw [table_Table_ByName_c1_b0_eq]
  refine ⟨_, Blk.cellA hb 4, _, s.ld0, (Contains_ok (sub := part) (hm.ext s.ext) (by omega)).mono fun v h' ⟨hh, hv⟩ => ⟨_, hv, ?_⟩⟩
  subst hh
  exact hK _ (Ext.refl _)
/-! ### scan -/
def goneB (gs : List (Int × Bool)) (id : Int) : Bool := (lkp gs id).getD false
def inP (rs : List Row) (vf : Rec → Int) (cf : Rec → Bool) (fr to : Int) (id : Int) : Bool := decide (fr ≤ vf (recOf rs id) ∧ vf (recOf rs id) ≤ to) && cf (recOf rs id)
section
variable {h0 h : Hp} {tb : Nat} {rs : List Row} {ks : List (Int × Int)} {next : Int} {bk bp ad : List Int} {gs : List (Int × Bool)} {A G : Bag}
theorem look_gone {h0 h : Hp} {mg : Nat} {A3 X : Bag} {id : Int} {K : Value → Prop} (a3 : MapA MG mg gs A3) (s : St h0 h (A3 + X)) (hk : K (.bool (goneB gs id))) : lookV Tryz.prog 80 (.map (some mg)) (.int .i64 id) false h K := by
  refine a3.look mapOk_g s fun v b hv => ?_
  unfold goneB at hk
  rcases hv with ⟨hv, rfl, _⟩ | ⟨x, hx, rfl, _⟩
  · rw [hv] at hk; exact hk
  · rw [hx] at hk; exact hk
theorem scan_b3 (a : TabA tb rs ks next bk bp ad gs A) {fv fi : Value} {vf : Rec → Int} {cf : Rec → Bool} {P : Rec → Prop} {fr to : Int} {out : List Int} {q : Option Addr} {n d : Nat} {O : Bag} (hv : ValR h0 G fv vf) (hi : PredR h0 G fi cf P) (hP : ∀ e ∈ rs, P e.2.2) (hd : (rs.map Prod.fst).Nodup)
    (had : ∀ id ∈ ad, id ∈ rs.map Prod.fst) (hn : out.length + ad.length < 1000000) (o : Sl TI q n d out O) (s : St h0 h (O + (A + G))) :
    table_Table_scan_b3 (some ⟨tb, 0, none⟩) fv fr to fi q n d h (fun v h' => ∃ q m d O', v = .slice q m d ∧ Sl TI q m d (out ++ ad.filter (inP rs vf cf fr to)) O' ∧ St h0 h' (O' + (A + G))) := by
  obtain ⟨mr, mk, mg, k, p, c, A1, A2, A3, A4, A5, A6, rfl, a1, a2, a3, a4, a5, a6⟩ := a
  have hal := a6.len
  have hol := o.len
  rw [table_Table_scan_b3_eq]
  generalize hT : cA tb [.map (some mr), .map (some mk), .int .i64 next, .slice k.1 k.2.1 k.2.2, .slice p.1 p.2.1 p.2.2, .slice c.1 c.2.1 c.2.2, .map (some mg)] 84 = T at *
  have ld : ∀ {h' : Hp} {X : Bag}, St h0 h' (T + X) → cell h' ⟨tb, 0, none⟩ = some (.map (some mr)) ∧ cell h' ((⟨tb, 0, none⟩ : Addr).add 5) = some (.slice c.1 c.2.1 c.2.2) := fun s => by
    rw [← hT] at s
    exact ⟨s.ld0, s.ldB⟩
  have s := s.to (B := A6 + (O + (T + (A1 + (A2 + (A3 + (A4 + (A5 + (recB rs + G)))))))))
  refine ⟨_, _, _, (ld (s.at T)).2, ?_⟩
  refine ⟨fun x h' => ∃ (i : Nat) (O' : Bag), x.2.1 = i ∧ i ≤ c.2.1 ∧ Sl TI x.1.1 x.1.2.1 x.1.2.2 (out ++ (ad.take i).filter (inP rs vf cf fr to)) O' ∧ St h0 h' (A6 + (O' + (T + (A1 + (A2 + (A3 + (A4 + (A5 + (recB rs + G))))))))), fun x _ => (c.2.1 - x.2.1).toNat, ⟨0, O, rfl, Nat.zero_le _, by simpa using o, s⟩, ?_⟩
  clear s o
  rintro ⟨⟨q, m, d⟩, z, _⟩ h2 ⟨i, O', hz, hin, o, s⟩
  dsimp only at hz o ⊢
  subst hz
  rw [table_Table_scan_b4_eq]
  refine condP (fun hlt => ?_) (fun hge => ?_)
  · have hil : i < ad.length := by omega
    refine ldI (i' := i) (a6.rd s) rfl (by omega) ⟨_, (ld (s.at T)).1, ?_⟩
    have htk : ad.take (i + 1) = ad.take i ++ [ad.getD i 0] := by rw [getD_get hil, List.take_succ_eq_append_getElem hil]
    have hmem : ad.getD i 0 ∈ ad := by rw [getD_get hil]; exact List.getElem_mem _
    have hfl := List.length_filter_le (inP rs vf cf fr to) (ad.take i)
    rw [List.length_take] at hfl
    have hol2 := o.len
    rw [List.length_append] at hol2
    generalize ad.getD i 0 = id at htk hmem
    obtain ⟨e, he, rfl⟩ := id_row (had id hmem)
    have er : recOf rs e.1 = e.2.2 := recOf_mem hd he
    have no : ∀ {h' : Hp}, inP rs vf cf fr to e.1 = false → St h0 h' (A6 + (O' + (T + (A1 + (A2 + (A3 + (A4 + (A5 + (recB rs + G))))))))) → Sl TI q m d (out ++ (ad.take (i + 1)).filter (inP rs vf cf fr to)) O' := fun hno _ => by
      rw [htk, List.filter_append, List.filter_cons, hno]
      simpa using o
    refine look_row a1 (s.at A1) hd he ⟨_, rfl, ?_⟩
    refine hv e.2.1 e.2.2 h2 (A6 + (O' + (T + (A1 + (A2 + (A3 + (A4 + (A5 + recB rs)))))))) _ s.to (row_blk he (s.at (recB rs))) fun h3 x3 => ⟨_, rfl, ?_⟩
    have s := s.grow x3
    refine condP (fun g1 => ?_) (fun g1 => ?_)
    · refine hv e.2.1 e.2.2 h3 (A6 + (O' + (T + (A1 + (A2 + (A3 + (A4 + (A5 + recB rs)))))))) _ s.to (row_blk he (s.at (recB rs))) fun h4 x4 => ⟨_, rfl, ?_⟩
      have s := s.grow x4
      refine condP (fun g2 => ?_) (fun g2 => ?_)
      · refine hi e.2.1 e.2.2 h4 (A6 + (O' + (T + (A1 + (A2 + (A3 + (A4 + (A5 + recB rs)))))))) _ (hP e he) s.to (row_blk he (s.at (recB rs))) fun h5 x5 => ⟨_, rfl, ?_⟩
        have s := s.grow x5
        refine cond_intro (fun g3 => ?_) (fun g3 => ?_)
        · have hyes : inP rs vf cf fr to e.1 = true := by unfold inP; rw [er, decide_eq_true ⟨g1, g2⟩, g3]; rfl
          refine push_sl (s := s.at O') ok_int (cs := [_]) o (x := e.1) rfl rfl (by omega) fun p' c' h6 O2 o2 s => ?_
          rw [table_Table_scan_b5_eq]
          refine ⟨⟨by omega, by omega⟩, ⟨i + 1, O2, by push_cast; rfl, by omega, ?_, s.to⟩, by dsimp only; omega⟩
          rw [htk, List.filter_append, List.filter_cons, hyes, if_pos rfl, List.filter_nil, ← List.append_assoc]
          exact o2
        · rw [table_Table_scan_b5_eq]
          exact ⟨⟨by omega, by omega⟩, ⟨i + 1, O', by push_cast; rfl, by omega, no (by unfold inP; rw [er, g3, Bool.and_false]) s, s⟩, by dsimp only; omega⟩
      · rw [table_Table_scan_b5_eq]
        exact ⟨⟨by omega, by omega⟩, ⟨i + 1, O', by push_cast; rfl, by omega, no (by unfold inP; rw [er, decide_eq_false (fun h => g2 h.2)]; rfl) s, s⟩, by dsimp only; omega⟩
    · rw [table_Table_scan_b5_eq]
      exact ⟨⟨by omega, by omega⟩, ⟨i + 1, O', by push_cast; rfl, by omega, no (by unfold inP; rw [er, decide_eq_false (fun h => g1 h.1)]; rfl) s, s⟩, by dsimp only; omega⟩
  · obtain rfl : i = c.2.1 := by omega
    rw [List.take_of_length_le (by omega)] at o
    rw [table_Table_scan_b6_eq]
    exact ⟨q, m, d, O', rfl, o, s.to⟩
end
end Go.Proofs.YtfkccighnkepgaaGreat

/- The table: a part of an index (the index itself). -/
set_option maxRecDepth 100000
namespace Go.Proofs.YtfkccighnkepgaaGreat
open Go Go.Sx
def ixP (rs : List Row) (gs : List (Int × Bool)) (vf : Rec → Int) (cf : Rec → Bool) (fr to : Int) (id : Int) : Bool := !goneB gs id && inP rs vf cf fr to id
section
variable {h0 h : Hp} {tb : Nat} {rs : List Row} {ks : List (Int × Int)} {next : Int} {bk bp ad : List Int} {gs : List (Int × Bool)} {A G : Bag}
theorem scan_ok (a : TabA tb rs ks next bk bp ad gs A) {fv fi : Value} {vf : Rec → Int} {cf : Rec → Bool} {P : Rec → Prop} {fr to : Int} {ip : Option Addr} {n c : Nat} {I : List Int} (hv : ValR h0 G fv vf) (hi : PredR h0 G fi cf P) (hP : ∀ e ∈ rs, P e.2.2) (hd : (rs.map Prod.fst).Nodup)
    (had : ∀ id ∈ ad, id ∈ rs.map Prod.fst) (hid : ∀ id ∈ I, goneB gs id = false → id ∈ rs.map Prod.fst) (hs : I.Pairwise fun x y => goneB gs x = false → goneB gs y = false → vf (recOf rs x) ≤ vf (recOf rs y))
    (hn : I.length + ad.length < 1000000) (hI : ∀ h' X, St h0 h' (A + X) → RdT TI h' ip n I) (s : St h0 h (A + G)) :
    HCalls Tryz.prog 37 #[ptr tb, .slice ip n c, fv, .int .i64 fr, .int .i64 to, fi] h (fun v h' => ∃ q m d O', v = .slice q m d ∧ Sl TI q m d (I.filter (ixP rs gs vf cf fr to) ++ ad.filter (inP rs vf cf fr to)) O' ∧ St h0 h' (O' + (A + G))) := by
  have hIl := (hI h G s).len
  refine table_Table_scan_call ?_
  rw [table_Table_scan_b0_eq]
  refine ⟨fun x h' => ∃ (i : Nat) (O' : Bag), x.2.1 = i ∧ i ≤ n ∧ Sl TI x.1.1 x.1.2.1 x.1.2.2 ((I.take i).filter (ixP rs gs vf cf fr to)) O' ∧ St h0 h' (O' + (A + G)), fun x _ => (n - x.2.1).toNat, ⟨0, 0, rfl, Nat.zero_le _, Sl.nil, by rw [Bag.zero_add]; exact s⟩, ?_⟩
  clear s
  rintro ⟨⟨q, m, d⟩, z, _⟩ h2 ⟨i, O, hz, hin, o, s⟩
  dsimp only at hz o ⊢
  subst hz
  have hfl := List.length_filter_le (ixP rs gs vf cf fr to) (I.take i)
  rw [List.length_take] at hfl
  have hol := o.len
  have fin : ∀ {h' : Hp} {Q : List Int}, Q = I.filter (ixP rs gs vf cf fr to) → Sl TI q m d Q O → St h0 h' (O + (A + G)) → table_Table_scan_b3 (some ⟨tb, 0, none⟩) fv fr to fi q m d h' (fun v h' => ∃ q m d O', v = .slice q m d ∧ Sl TI q m d (I.filter (ixP rs gs vf cf fr to) ++ ad.filter (inP rs vf cf fr to)) O' ∧ St h0 h' (O' + (A + G))) := fun hQ o s => by
    subst hQ
    have := List.length_filter_le (ixP rs gs vf cf fr to) I
    exact scan_b3 a hv hi hP hd had (by omega) o s
  rw [table_Table_scan_b1_eq]
  refine condP (fun hlt => ?_) (fun hge => ?_)
  · have hil : i < I.length := by omega
    refine ldI (i' := i) (hI h2 _ (s.to (B := A + (O + G)))) rfl (by omega) ?_
    have htk : I.take (i + 1) = I.take i ++ [I.getD i 0] := by rw [getD_get hil, List.take_succ_eq_append_getElem hil]
    have hsp : I = I.take i ++ I.getD i 0 :: I.drop (i + 1) := by rw [getD_get hil, ← List.drop_eq_getElem_cons hil, List.take_append_drop]
    have hmem : I.getD i 0 ∈ I := by rw [getD_get hil]; exact List.getElem_mem _
    generalize I.getD i 0 = id at htk hmem hsp
    have hno : ixP rs gs vf cf fr to id = false → Sl TI q m d ((I.take (i + 1)).filter (ixP rs gs vf cf fr to)) O := fun hno => by
      rw [htk, List.filter_append, List.filter_cons, hno]
      simpa using o
    have a0 := a
    obtain ⟨mr, mk, mg, k, p, cc, A1, A2, A3, A4, A5, A6, hA, a1, a2, a3, a4, a5, a6⟩ := a0
    generalize hT : cA tb [.map (some mr), .map (some mk), .int .i64 next, .slice k.1 k.2.1 k.2.2, .slice p.1 p.2.1 p.2.2, .slice cc.1 cc.2.1 cc.2.2, .map (some mg)] 84 = T at *
    have ld : ∀ {h' : Hp} {X : Bag}, St h0 h' (T + X) → cell h' ⟨tb, 0, none⟩ = some (.map (some mr)) ∧ cell h' (((⟨tb, 0, none⟩ : Addr).add 5).add 1) = some (.map (some mg)) := fun s => by
      rw [← hT] at s
      exact ⟨s.ld0, ldC s⟩
    have flat : ∀ {h' : Hp}, St h0 h' (O + (A + G)) → St h0 h' (T + (A1 + (A2 + (A3 + (A4 + (A5 + (A6 + (O + (recB rs + G))))))))) := fun s => by rw [hA] at s; exact s.to
    refine ⟨_, (ld (flat s)).2, look_gone a3 ((flat s).at A3) ⟨_, rfl, ?_⟩⟩
    refine cond_intro (fun hg => ?_) (fun hg => ?_)
    · rw [table_Table_scan_b2_eq]
      exact ⟨⟨by omega, by omega⟩, ⟨i + 1, O, by push_cast; rfl, by omega, hno (by unfold ixP; rw [hg]; rfl), s⟩, by dsimp only; omega⟩
    obtain ⟨e, he, rfl⟩ := id_row (hid id hmem hg)
    have er : recOf rs e.1 = e.2.2 := recOf_mem hd he
    refine ⟨_, (ld (flat s)).1, look_row a1 ((flat s).at A1) hd he ⟨_, rfl, ?_⟩⟩
    refine hv e.2.1 e.2.2 h2 (O + A) _ s.to (row_blk he ((flat s).at (recB rs))) fun h3 x3 => ⟨_, rfl, ?_⟩
    have s := s.grow x3
    refine condP (fun g1 => ?_) (fun g1 => condP (fun g2 => ?_) (fun g2 => ?_))
    · refine fin ?_ o s
      conv => rhs; rw [hsp]
      rw [List.filter_append]
      have hz : (e.1 :: I.drop (i + 1)).filter (ixP rs gs vf cf fr to) = [] := by
        rw [List.filter_eq_nil_iff]
        intro y hy
        have hvy : goneB gs y = false → vf e.2.2 ≤ vf (recOf rs y) := fun hgy => by
          rcases List.mem_cons.1 hy with rfl | hy
          · rw [er]; omega
          · have hs' := hs
            rw [hsp, List.pairwise_append, List.pairwise_cons] at hs'
            have := hs'.2.1.1 y hy hg hgy
            rwa [er] at this
        unfold ixP inP
        cases hgy : goneB gs y with
        | true => simp
        | false =>
          have := hvy hgy
          rw [decide_eq_false (by omega)]; simp
      rw [hz, List.append_nil]
    · refine hi e.2.1 e.2.2 h3 (O + A) _ (hP e he) s.to (row_blk he ((flat s).at (recB rs))) fun h4 x4 => ⟨_, rfl, ?_⟩
      have s := s.grow x4
      refine cond_intro (fun g3 => ?_) (fun g3 => ?_)
      · have hyes : ixP rs gs vf cf fr to e.1 = true := by unfold ixP inP; rw [hg, er, decide_eq_true ⟨g2, by omega⟩, g3]; rfl
        refine push_sl (s := s) ok_int (cs := [_]) o (x := e.1) rfl rfl (by omega) fun p' c' h6 O2 o2 s => ?_
        rw [table_Table_scan_b2_eq]
        refine ⟨⟨by omega, by omega⟩, ⟨i + 1, O2, by push_cast; rfl, by omega, ?_, s⟩, by dsimp only; omega⟩
        rw [htk, List.filter_append, List.filter_cons, hyes, if_pos rfl, List.filter_nil]
        exact o2
      · rw [table_Table_scan_b2_eq]
        exact ⟨⟨by omega, by omega⟩, ⟨i + 1, O, by push_cast; rfl, by omega, hno (by unfold ixP inP; rw [er, g3]; simp), s⟩, by dsimp only; omega⟩
    · rw [table_Table_scan_b2_eq]
      exact ⟨⟨by omega, by omega⟩, ⟨i + 1, O, by push_cast; rfl, by omega, hno (by unfold ixP inP; rw [er, decide_eq_false (fun h => g2 h.1)]; simp), s⟩, by dsimp only; omega⟩
  · obtain rfl : i = n := by omega
    rw [List.take_of_length_le (by omega)] at o
    exact fin rfl o s
end
end Go.Proofs.YtfkccighnkepgaaGreat

/- The table: what holds of its parts. -/
set_option maxRecDepth 100000
namespace Go.Proofs.YtfkccighnkepgaaGreat
open Go Go.Sx
structure Inv (rs : List Row) (ks : List (Int × Int)) (bk bp ad : List Int) (gs : List (Int × Bool)) : Prop where
  idn : (rs.map Prod.fst).Nodup
  kn : (rs.map rKey).Nodup
  kp : ks.Perm (rs.map fun e => (rKey e, e.1))
  adn : ad.Nodup
  pk : (bk.filter (fun id => !goneB gs id) ++ ad).Perm (rs.map Prod.fst)
  pp : (bp.filter (fun id => !goneB gs id) ++ ad).Perm (rs.map Prod.fst)
  gl : gs.length + (bk.filter fun id => !goneB gs id).length ≤ bk.length
  bkl : bk.length ≤ 1000
  bpl : bp.length ≤ 1000
  sk : bk.Pairwise fun x y => goneB gs x = false → goneB gs y = false → (recOf rs x).1 ≤ (recOf rs y).1
  sp : bp.Pairwise fun x y => goneB gs x = false → goneB gs y = false → (recOf rs x).2.1 ≤ (recOf rs y).2.1
section
variable {rs : List Row} {ks : List (Int × Int)} {bk bp ad : List Int} {gs : List (Int × Bool)}
theorem Inv.ad_mem (v : Inv rs ks bk bp ad gs) {id : Int} (h : id ∈ ad) : id ∈ rs.map Prod.fst := v.pk.mem_iff.1 (List.mem_append.2 (.inr h))
theorem Inv.bk_mem (v : Inv rs ks bk bp ad gs) {id : Int} (h : id ∈ bk) (hg : goneB gs id = false) : id ∈ rs.map Prod.fst := v.pk.mem_iff.1 (List.mem_append.2 (.inl (List.mem_filter.2 ⟨h, by rw [hg]; rfl⟩)))
theorem Inv.bp_mem (v : Inv rs ks bk bp ad gs) {id : Int} (h : id ∈ bp) (hg : goneB gs id = false) : id ∈ rs.map Prod.fst := v.pp.mem_iff.1 (List.mem_append.2 (.inl (List.mem_filter.2 ⟨h, by rw [hg]; rfl⟩)))
theorem Inv.kd (v : Inv rs ks bk bp ad gs) : KD ks := by
  unfold KD
  rw [(v.kp.map Prod.fst).nodup_iff, List.map_map]
  exact v.kn
theorem Inv.len (v : Inv rs ks bk bp ad gs) : ad.length ≤ rs.length := by
  have := v.pk.length_eq
  rw [List.length_append, List.length_map] at this
  omega
theorem recOf_app {rs : List Row} {id : Int} (h : id ∈ rs.map Prod.fst) (_ : (rs.map Prod.fst).Nodup) (e : Row) : recOf (rs ++ [e]) id = recOf rs id := by
  obtain ⟨x, hx, rfl⟩ := List.mem_map.1 h
  unfold recOf
  rw [List.find?_append]
  have hs : (rs.find? fun e => decide (e.1 = x.1)).isSome := List.find?_isSome.2 ⟨x, hx, by simp⟩
  cases hf : rs.find? fun e => decide (e.1 = x.1) with
  | none => rw [hf] at hs; cases hs
  | some y => rfl
theorem recOf_fil {rs : List Row} {id id' : Int} (h : id ≠ id') : recOf (rs.filter fun x => decide (x.1 ≠ id')) id = recOf rs id := by
  unfold recOf
  have : (rs.filter fun x => decide (x.1 ≠ id')).find? (fun e => decide (e.1 = id)) = rs.find? fun e => decide (e.1 = id) := by
    induction rs with
    | nil => rfl
    | cons a l ih =>
      rw [List.filter_cons]
      by_cases ha : a.1 = id'
      · rw [if_neg (by simpa using ha), ih, List.find?_cons, decide_eq_false (fun hc => h (hc.symm.trans ha))]
      · rw [if_pos (by simpa using ha), List.find?_cons, List.find?_cons, ih]
  rw [this]
theorem Inv.put (v : Inv rs ks bk bp ad gs) {id : Int} {b : Nat} {r : Rec} (hid : id ∉ rs.map Prod.fst) (hk : r.1 ∉ rs.map rKey) : Inv (rs ++ [(id, b, r)]) (ks ++ [(r.1, id)]) bk bp (ad ++ [id]) gs where
  idn := by
    rw [List.map_append, List.nodup_append]
    exact ⟨v.idn, by simp, fun a ha c hc e => hid (by simp only [List.map_cons, List.map_nil, List.mem_singleton] at hc; rw [← hc, ← e]; exact ha)⟩
  kn := by
    rw [List.map_append, List.nodup_append]
    exact ⟨v.kn, by simp, fun a ha c hc e => hk (by simp only [List.map_cons, List.map_nil, List.mem_singleton] at hc; rw [show r.1 = a by rw [e, hc]; rfl]; exact ha)⟩
  kp := by rw [List.map_append]; exact v.kp.append_right _
  adn := by
    rw [List.nodup_append]
    exact ⟨v.adn, by simp, fun a ha c hc e => hid (v.ad_mem (by rw [List.mem_singleton] at hc; rw [← hc, ← e]; exact ha))⟩
  pk := by rw [← List.append_assoc, List.map_append]; exact v.pk.append_right _
  pp := by rw [← List.append_assoc, List.map_append]; exact v.pp.append_right _
  gl := v.gl
  bkl := v.bkl
  bpl := v.bpl
  sk := v.sk.imp_of_mem fun {x y} hx hy h g1 g2 => by rw [recOf_app (v.bk_mem hx g1) v.idn, recOf_app (v.bk_mem hy g2) v.idn]; exact h g1 g2
  sp := v.sp.imp_of_mem fun {x y} hx hy h g1 g2 => by rw [recOf_app (v.bp_mem hx g1) v.idn, recOf_app (v.bp_mem hy g2) v.idn]; exact h g1 g2
theorem gone_set {gs : List (Int × Bool)} {id x : Int} : goneB (setk gs id true) x = (decide (x = id) || goneB gs x) := by
  unfold goneB
  rw [lkp_setk]
  by_cases h : x = id
  · rw [if_pos h, decide_eq_true h]; rfl
  · rw [if_neg h, decide_eq_false h]; rfl
theorem fil_perm {l : List Int} {m : List Row} {id : Int} (h : l.Perm (m.map Prod.fst)) : (l.filter fun x => decide (x ≠ id)).Perm ((m.filter fun x => decide (x.1 ≠ id)).map Prod.fst) := by
  refine (h.filter _).trans ?_
  rw [List.filter_map]
  exact .refl _
theorem setk_len {κ ν : Type} [DecidableEq κ] {l : List (κ × ν)} {k : κ} {v : ν} : (setk l k v).length ≤ l.length + 1 := by
  induction l with
  | nil => simp [setk]
  | cons e l ih =>
    unfold setk
    split
    · simp
    · rw [List.length_cons, List.length_cons]; omega
theorem fil_lt {l : List Int} {p q : Int → Bool} {id : Int} (hm : id ∈ l) (hp : p id = true) (hq : q id = false) (h : ∀ x, q x = true → p x = true) : (l.filter q).length + 1 ≤ (l.filter p).length := by
  induction l with
  | nil => cases hm
  | cons a l ih =>
    have hle : (l.filter q).length ≤ (l.filter p).length := by
      clear ih hm
      induction l with
      | nil => exact Nat.le_refl _
      | cons b l ih =>
        rw [List.filter_cons, List.filter_cons]
        cases hqb : q b with
        | true => rw [h b hqb]; simpa using ih
        | false => cases p b <;> simp <;> omega
    rw [List.filter_cons, List.filter_cons]
    rcases List.mem_cons.1 hm with rfl | hm
    · rw [hp, hq]; simpa using hle
    · have := ih hm
      cases hqa : q a with
      | true => rw [h a hqa]; simpa using this
      | false => cases p a <;> simp <;> omega
end
end Go.Proofs.YtfkccighnkepgaaGreat

/- The table: a record less, and the indexes anew, in plain lists. -/
set_option maxRecDepth 100000
namespace Go.Proofs.YtfkccighnkepgaaGreat
open Go Go.Sx
theorem nodup_inj {α β : Type} {f : α → β} : ∀ {l : List α}, (l.map f).Nodup → ∀ {x y : α}, x ∈ l → y ∈ l → f x = f y → x = y
  | a :: l, hd, x, y, hx, hy, e => by
    rw [List.map_cons, List.nodup_cons] at hd
    rcases List.mem_cons.1 hx with hx' | hx'
    · rcases List.mem_cons.1 hy with hy' | hy'
      · rw [hx', hy']
      · exact absurd (List.mem_map.2 ⟨y, hy', by rw [← e, hx']⟩) hd.1
    · rcases List.mem_cons.1 hy with hy' | hy'
      · exact absurd (List.mem_map.2 ⟨x, hx', by rw [e, hy']⟩) hd.1
      · exact nodup_inj hd.2 hx' hy' e
section
variable {rs : List Row} {ks : List (Int × Int)} {bk bp ad : List Int} {gs : List (Int × Bool)}
theorem Inv.disj (v : Inv rs ks bk bp ad gs) {id : Int} (h : id ∈ ad) : id ∉ bk.filter (fun id => !goneB gs id) ∧ id ∉ bp.filter (fun id => !goneB gs id) := by
  have h1 := v.pk.nodup_iff.2 v.idn
  have h2 := v.pp.nodup_iff.2 v.idn
  rw [List.nodup_append] at h1 h2
  exact ⟨fun hc => h1.2.2 _ hc _ h rfl, fun hc => h2.2.2 _ hc _ h rfl⟩
theorem fil_gone {l : List Int} {id : Int} : (l.filter fun x => !goneB (setk gs id true) x) = (l.filter fun x => !goneB gs x).filter fun x => decide (x ≠ id) := by
  rw [List.filter_filter]
  refine List.filter_congr fun x _ => ?_
  rw [gone_set]
  by_cases h : x = id <;> simp [h]
theorem keys_fil (v : Inv rs ks bk bp ad gs) {e : Row} (he : e ∈ rs) : (rs.filter fun x => decide (rKey x ≠ rKey e)) = rs.filter fun x => decide (x.1 ≠ e.1) := by
  refine List.filter_congr fun x hx => decide_eq_decide.2 ⟨fun h hc => h (by rw [nodup_inj v.idn hx he hc]), fun h hc => h (by rw [nodup_inj v.kn hx he hc])⟩
theorem Inv.drop (v : Inv rs ks bk bp ad gs) {e : Row} (he : e ∈ rs) : Inv (rs.filter fun x => decide (x.1 ≠ e.1)) (delk ks (rKey e)) bk bp (if e.1 ∈ ad then ad.filter fun x => decide (x ≠ e.1) else ad) (if e.1 ∈ ad then gs else setk gs e.1 true) := by
  have hidn : ((rs.filter fun x => decide (x.1 ≠ e.1)).map Prod.fst).Nodup := v.idn.sublist (List.Sublist.map _ List.filter_sublist)
  have hkn : ((rs.filter fun x => decide (x.1 ≠ e.1)).map rKey).Nodup := v.kn.sublist (List.Sublist.map _ List.filter_sublist)
  have hkp : (delk ks (rKey e)).Perm ((rs.filter fun x => decide (x.1 ≠ e.1)).map fun e => (rKey e, e.1)) := by
    rw [delk_eq v.kd]
    refine (v.kp.filter _).trans ?_
    rw [List.filter_map]
    show List.Perm ((rs.filter fun x => decide (rKey x ≠ rKey e)).map _) _
    rw [keys_fil v he]
  by_cases ha : e.1 ∈ ad
  · rw [if_pos ha, if_pos ha]
    obtain ⟨d1, d2⟩ := v.disj ha
    have f1 : (bk.filter fun id => !goneB gs id).filter (fun x => decide (x ≠ e.1)) = bk.filter fun id => !goneB gs id := List.filter_eq_self.2 fun x hx => decide_eq_true fun hc => d1 (hc ▸ hx)
    have f2 : (bp.filter fun id => !goneB gs id).filter (fun x => decide (x ≠ e.1)) = bp.filter fun id => !goneB gs id := List.filter_eq_self.2 fun x hx => decide_eq_true fun hc => d2 (hc ▸ hx)
    have p1 := fil_perm (id := e.1) v.pk
    have p2 := fil_perm (id := e.1) v.pp
    rw [List.filter_append, f1] at p1
    rw [List.filter_append, f2] at p2
    refine ⟨hidn, hkn, hkp, v.adn.filter _, p1, p2, v.gl, v.bkl, v.bpl, ?_, ?_⟩
    · refine v.sk.imp_of_mem fun {x y} hx hy h g1 g2 => ?_
      rw [recOf_fil (fun hc => d1 (by rw [← hc]; exact List.mem_filter.2 ⟨hx, by rw [g1]; rfl⟩)), recOf_fil (fun hc => d1 (by rw [← hc]; exact List.mem_filter.2 ⟨hy, by rw [g2]; rfl⟩))]
      exact h g1 g2
    · refine v.sp.imp_of_mem fun {x y} hx hy h g1 g2 => ?_
      rw [recOf_fil (fun hc => d2 (by rw [← hc]; exact List.mem_filter.2 ⟨hx, by rw [g1]; rfl⟩)), recOf_fil (fun hc => d2 (by rw [← hc]; exact List.mem_filter.2 ⟨hy, by rw [g2]; rfl⟩))]
      exact h g1 g2
  · rw [if_neg ha, if_neg ha]
    have hin : e.1 ∈ bk.filter fun id => !goneB gs id := by
      have := v.pk.mem_iff.2 (List.mem_map.2 ⟨e, he, rfl⟩)
      rcases List.mem_append.1 this with h | h
      · exact h
      · exact absurd h ha
    have f1 : ad.filter (fun x => decide (x ≠ e.1)) = ad := List.filter_eq_self.2 fun x hx => decide_eq_true fun hc => ha (hc ▸ hx)
    have p1 := fil_perm (id := e.1) v.pk
    have p2 := fil_perm (id := e.1) v.pp
    rw [List.filter_append, f1, ← fil_gone] at p1 p2
    have hm := List.mem_filter.1 hin
    have ng : ∀ {x}, goneB (setk gs e.1 true) x = false → x ≠ e.1 ∧ goneB gs x = false := fun {x} h => by
      rw [gone_set] at h
      have := Bool.or_eq_false_iff.1 h
      exact ⟨of_decide_eq_false this.1, this.2⟩
    refine ⟨hidn, hkn, hkp, v.adn, p1, p2, ?_, v.bkl, v.bpl, ?_, ?_⟩
    · have h1 := setk_len (l := gs) (k := e.1) (v := true)
      have h2 := fil_lt (l := bk) (p := fun id => !goneB gs id) (q := fun id => !goneB (setk gs e.1 true) id) hm.1 hm.2 (by rw [gone_set, decide_eq_true rfl]; rfl) (fun x hx => by
        have : goneB (setk gs e.1 true) x = false := by simpa using hx
        rw [(ng this).2]; rfl)
      have h3 := v.gl
      omega
    · refine v.sk.imp fun {x y} h g1 g2 => ?_
      rw [recOf_fil (ng g1).1, recOf_fil (ng g2).1]
      exact h (ng g1).2 (ng g2).2
    · refine v.sp.imp fun {x y} h g1 g2 => ?_
      rw [recOf_fil (ng g1).1, recOf_fil (ng g2).1]
      exact h (ng g1).2 (ng g2).2
theorem Inv.fresh (v : Inv rs ks bk bp ad gs) {l m : List Int} (hl : l.Perm (rs.map Prod.fst)) (hm : m.Perm (rs.map Prod.fst)) (hn : rs.length ≤ 1000) (sl : l.Pairwise fun x y => (recOf rs x).1 ≤ (recOf rs y).1) (sm : m.Pairwise fun x y => (recOf rs x).2.1 ≤ (recOf rs y).2.1) : Inv rs ks l m [] [] := by
  have f : ∀ k : List Int, (k.filter fun id => !goneB [] id) = k := fun k => List.filter_eq_self.2 fun x _ => rfl
  have h1 := hl.length_eq
  have h2 := hm.length_eq
  rw [List.length_map] at h1 h2
  refine ⟨v.idn, v.kn, v.kp, List.Pairwise.nil, ?_, ?_, ?_, by omega, by omega, sl.imp fun h _ _ => h, sm.imp fun h _ _ => h⟩
  · rw [f, List.append_nil]; exact hl
  · rw [f, List.append_nil]; exact hm
  · rw [f]; simp
theorem inv_new : Inv [] [] [] [] [] [] := ⟨List.Pairwise.nil, List.Pairwise.nil, .refl _, List.Pairwise.nil, .refl _, .refl _, by simp, by simp, by simp, List.Pairwise.nil, List.Pairwise.nil⟩
end
end Go.Proofs.YtfkccighnkepgaaGreat

/- The table: the indexes anew. -/
set_option maxRecDepth 100000
namespace Go.Proofs.YtfkccighnkepgaaGreat
open Go Go.Sx
theorem ordKey {rs : List Row} : OrdP (fun x y : Int => cmpI (recOf rs x).1 (recOf rs y).1 < 0) := ⟨fun x y h1 h2 => by unfold cmpI at h1 h2; split at h1 <;> split at h2 <;> omega, fun x y z h1 h2 h3 => by unfold cmpI at *; split at h1 <;> split at h2 <;> split at h3 <;> omega⟩
theorem ordX {rs : List Row} : OrdP (fun x y : Int => cmpI (recOf rs x).2.1 (recOf rs y).2.1 < 0) := ⟨fun x y h1 h2 => by unfold cmpI at h1 h2; split at h1 <;> split at h2 <;> omega, fun x y z h1 h2 h3 => by unfold cmpI at *; split at h1 <;> split at h2 <;> split at h3 <;> omega⟩
theorem cmpI_le {x y : Int} (h : ¬ cmpI y x < 0) : x ≤ y := by unfold cmpI at h; split at h <;> omega
section
variable {h0 h : Hp} {tb : Nat} {rs : List Row} {ks : List (Int × Int)} {next : Int} {bk bp ad : List Int} {gs : List (Int × Bool)} {A G : Bag}
theorem List_t (a : TabA tb rs ks next bk bp ad gs A) (v : Inv rs ks bk bp ad gs) (s : St h0 h (A + G)) (hn : rs.length ≤ 1000) :
    HCalls Tryz.prog 8 #[ptr tb] h (fun v h' => ∃ q m d A' l, v = .slice q m d ∧ Sl TI q m d l A' ∧ l.Perm (rs.map Prod.fst) ∧ l.Pairwise (fun x y => x ≤ y) ∧ St h0 h' (A' + (A + G))) := by
  refine table_Table_List_call ?_
  rw [table_Table_List_b0_eq]
  refine condNo rfl ((find_ok a (G := G) (all_p (P := fun _ => True)) (fun _ _ => trivial) s v.idn (by omega)).mono fun v h' ⟨q, m, d, A', l, hv, o, hp, hs, st⟩ => ⟨_, _, _, hv, q, m, d, A', l, rfl, o, ?_, hs, st⟩)
  have : idsOf (fun _ => true) rs = rs.map Prod.fst := by unfold idsOf; rw [List.filter_eq_self.2 fun _ _ => rfl]
  rwa [this] at hp
theorem build_ok (a : TabA tb rs ks next bk bp ad gs A) (v : Inv rs ks bk bp ad gs) (s : St h0 h (A + G)) (hn : rs.length ≤ 1000) :
    HCalls Tryz.prog 54 #[ptr tb] h (fun v h' => v = .tuple #[] ∧ ∃ bk' bp' ad' gs' A', TabA tb rs ks next bk' bp' ad' gs' A' ∧ Inv rs ks bk' bp' ad' gs' ∧ St h0 h' (A' + G)) := by
  have hal := v.len
  have hgl := v.gl
  have hbk := v.bkl
  refine table_Table_build_call ?_
  rw [table_Table_build_b0_eq]
  refine s.new (cs := [_]) fun b1 h1 x1 s => ?_
  have a0 := a
  obtain ⟨mr, mk, mg, k, p, c, A1, A2, A3, A4, A5, A6, hA, a1, a2, a3, a4, a5, a6⟩ := a0
  have hcl := a6.len
  have s2 : St h0 h1 (cA b1 [ptr tb] 25 + (cA tb [.map (some mr), .map (some mk), .int .i64 next, .slice k.1 k.2.1 k.2.2, .slice p.1 p.2.1 p.2.2, .slice c.1 c.2.1 c.2.2, .map (some mg)] 84 + (A3 + (A1 + (A2 + (A4 + (A5 + (A6 + (recB rs + G))))))))) := by
    rw [hA] at s
    exact s.to
  refine ⟨some ⟨tb, 0, none⟩, s2.ld0, _, _, _, s2.ldB, some ⟨tb, 0, none⟩, s2.ld0, _, ldC s2, ?_⟩
  refine a3.len (s2.at A3) ⟨⟨_, _, _, s2.ldB, rfl⟩, ⟨_, s2.ld0, rfl⟩, ⟨by omega, by omega⟩, condP (fun hle => ⟨rfl, bk, bp, ad, gs, A, a, v, s.drop⟩) (fun hgt => ?_)⟩
  refine ⟨some ⟨tb, 0, none⟩, s2.ld0, some ⟨tb, 0, none⟩, s2.ld0, some ⟨tb, 0, none⟩, s2.ld0, some ⟨tb, 0, none⟩, s2.ld0, ?_⟩
  clear s2
  refine (List_t a v (s.to (B := A + (cA b1 [ptr tb] 25 + G))) hn).mono fun v2 h2 ⟨q1, m1, d1, L1, l1, hv1, o1, p1, w1, s⟩ => ⟨_, _, _, hv1, ?_⟩
  have c2 : cell h2 ⟨b1, 0, none⟩ = some (ptr tb) := s.ld0
  refine ⟨⟨_, c2, rfl⟩, ⟨_, c2, rfl⟩, ⟨_, c2, rfl⟩, ?_⟩
  refine (List_t a v (s.to (B := A + (L1 + (cA b1 [ptr tb] 25 + G)))) hn).mono fun v3 h3 ⟨q2, m2, d2, L2, l2, hv2, o2, p2, w2, s⟩ => ⟨_, _, _, hv2, ?_⟩
  have c3 : cell h3 ⟨b1, 0, none⟩ = some (ptr tb) := s.ld0
  refine ⟨⟨_, c3, rfl⟩, ⟨_, c3, rfl⟩, ?_⟩
  have hl1 := p1.length_eq
  have hl2 := p2.length_eq
  rw [List.length_map] at hl1 hl2
  have hm1 := o1.len
  have hm2 := o2.len
  rw [hA] at s
  have s := s.to (B := cA tb [.map (some mr), .map (some mk), .int .i64 next, .slice k.1 k.2.1 k.2.2, .slice p.1 p.2.1 p.2.2, .slice c.1 c.2.1 c.2.2, .map (some mg)] 84 + (cA b1 [ptr tb] 25 + (A1 + (A2 + (A3 + (A4 + (A5 + (A6 + (L1 + (L2 + (recB rs + G)))))))))))
  refine s.wrB fun h4 s => ?_
  have s : St h0 h4 (cA tb [.map (some mr), .map (some mk), .int .i64 next, .slice q1 m1 d1, .slice p.1 p.2.1 p.2.2, .slice c.1 c.2.1 c.2.2, .map (some mg)] 84 + _) := s
  refine ⟨⟨_, s.ld0, rfl⟩, s.wrB fun h5 s => ?_⟩
  have s : St h0 h5 (cA tb [.map (some mr), .map (some mk), .int .i64 next, .slice q1 m1 d1, .slice q2 m2 d2, .slice c.1 c.2.1 c.2.2, .map (some mg)] 84 + _) := s
  refine ⟨some ⟨tb, 0, none⟩, s.ld0, _, _, _, s.ldB, ?_⟩
  have hmem1 : ∀ x ∈ l1, x ∈ rs.map Prod.fst := fun x hx => p1.mem_iff.1 hx
  have hmem2 : ∀ x ∈ l2, x ∈ rs.map Prod.fst := fun x hx => p2.mem_iff.1 hx
  have gm : ∀ {l : List Int} {n : Nat}, l.length = n → (∀ x ∈ l, x ∈ rs.map Prod.fst) → ∀ k, k < n → l.getD k TI.d ∈ rs.map Prod.fst := fun {l n} hl hm k hk => hm _ (by
    have hkl : k < l.length := by omega
    rw [show l.getD k TI.d = l[k] from getD_get hkl]
    exact List.getElem_mem hkl)
  refine (sortCI (P := fun x => x ∈ rs.map Prod.fst) (build1_cmp a1 v.idn) ordKey (s.to (B := L1 + (cA b1 [ptr tb] 25 + (cA tb [.map (some mr), .map (some mk), .int .i64 next, .slice q1 m1 d1, .slice q2 m2 d2, .slice c.1 c.2.1 c.2.2, .map (some mg)] 84 + (A1 + (recB rs + (A2 + (A3 + (A4 + (A5 + (A6 + (L2 + G)))))))))))) o1 (gm hm1 hmem1) (by omega)).mono fun v4 h6 ⟨hv4, y1, L1', o1, s, q1p, sw1⟩ => ⟨hv4, ?_⟩
  refine ⟨some ⟨tb, 0, none⟩, s.ld0, _, _, _, s.ldB, ?_⟩
  refine (sortCI (P := fun x => x ∈ rs.map Prod.fst) (build2_cmp a1 v.idn) ordX (s.to (B := L2 + (cA b1 [ptr tb] 25 + (cA tb [.map (some mr), .map (some mk), .int .i64 next, .slice q1 m1 d1, .slice q2 m2 d2, .slice c.1 c.2.1 c.2.2, .map (some mg)] 84 + (A1 + (recB rs + (A2 + (A3 + (A4 + (A5 + (A6 + (L1' + G)))))))))))) o2 (gm hm2 hmem2) (by omega)).mono fun v5 h7 ⟨hv5, y2, L2', o2, s, q2p, sw2⟩ => ⟨hv5, ?_⟩
  refine ⟨some ⟨tb, 0, none⟩, s.ld0, s.newMap MG fun mg' h8 A3' _ a3' s => ?_⟩
  have s := s.find tb
  refine s.wr (o := 5) (add_mk _ _ _) (by simp) fun h9 s => ?_
  refine s.wr (o := 6) (by rw [add_two]; exact add_mk _ _ _) (by simp) fun h10 s => ⟨rfl, y1, y2, [], [], ?_⟩
  have s : St h0 h10 (cA tb [.map (some mr), .map (some mk), .int .i64 next, .slice q1 m1 d1, .slice q2 m2 d2, .slice none 0 0, .map (some mg')] 84 + _) := s
  obtain ⟨A', a', s'⟩ := TabA.into (k := (q1, m1, d1)) (p := (q2, m2, d2)) (a := (none, 0, 0)) (F := G) a1 a2 a3' o1 o2 Sl.nil ((s.to (B := (cA b1 [ptr tb] 25 + (A3 + (A4 + (A5 + A6)))) + (cA tb [.map (some mr), .map (some mk), .int .i64 next, .slice q1 m1 d1, .slice q2 m2 d2, .slice none 0 0, .map (some mg')] 84 + (A1 + (A2 + (A3' + (L1' + (L2' + (0 + (recB rs + G)))))))))).drop)
  exact ⟨A', a', v.fresh (q1p.trans p1) (q2p.trans p2) hn (sw1.imp fun h => cmpI_le h) (sw2.imp fun h => cmpI_le h), s'⟩
end
end Go.Proofs.YtfkccighnkepgaaGreat

/- The table as a list of records, ascending in their identifiers. -/
set_option maxRecDepth 100000
namespace Go.Proofs.YtfkccighnkepgaaGreat
open Go Go.Sx
abbrev LRow := Int × Rec
structure LOk (L : List LRow) (next : Int) : Prop where
  so : L.Pairwise fun a b => a.1 < b.1
  lt : ∀ x ∈ L, 0 ≤ x.1 ∧ x.1 < next
  n0 : 0 ≤ next
  len : L.length ≤ 1000
  val : ∀ x ∈ L, vRec x.2 = true
def pr2 (e : Row) : LRow := (e.1, e.2.2)
def TabS (tb : Nat) (L : List LRow) (next : Int) (A : Bag) : Prop := ∃ rs ks bk bp ad gs, TabA tb rs ks next bk bp ad gs A ∧ Inv rs ks bk bp ad gs ∧ (rs.map pr2).Perm L ∧ LOk L next
section
variable {h0 h : Hp} {tb : Nat} {L : List LRow} {rs : List Row} {ks : List (Int × Int)} {bk bp ad : List Int} {gs : List (Int × Bool)} {next : Int} {A G : Bag}
theorem ids_of (hp : (rs.map pr2).Perm L) : (rs.map Prod.fst).Perm (L.map Prod.fst) := by
  have := hp.map Prod.fst
  rwa [List.map_map] at this
theorem keys_of (hp : (rs.map pr2).Perm L) : (rs.map rKey).Perm (L.map fun x => x.2.1) := by
  have := hp.map fun x : LRow => x.2.1
  rwa [List.map_map] at this
theorem lk_key (v : Inv rs ks bk bp ad gs) (hp : (rs.map pr2).Perm L) {k id : Int} : lkp ks k = some id ↔ ∃ r, (id, r) ∈ L ∧ r.1 = k := by
  rw [lkp_some v.kd, v.kp.mem_iff, List.mem_map]
  constructor
  · rintro ⟨e, he, hx⟩
    rw [Prod.mk.injEq] at hx
    exact ⟨e.2.2, hp.mem_iff.1 (List.mem_map.2 ⟨e, he, by unfold pr2; rw [hx.2]⟩), hx.1⟩
  · rintro ⟨r, hr, rfl⟩
    obtain ⟨e, he, hx⟩ := List.mem_map.1 (hp.mem_iff.2 hr)
    unfold pr2 at hx
    rw [Prod.mk.injEq] at hx
    exact ⟨e, he, by rw [Prod.mk.injEq]; exact ⟨by rw [← hx.2]; rfl, hx.1⟩⟩
theorem lk_none (v : Inv rs ks bk bp ad gs) (hp : (rs.map pr2).Perm L) {k : Int} : lkp ks k = none ↔ k ∉ L.map fun x => x.2.1 := by
  rw [lkp_none, (v.kp.map Prod.fst).mem_iff, List.map_map]
  exact not_congr (keys_of hp).mem_iff
theorem New_s (h : Hp) : HCalls Tryz.prog 24 #[] h (fun v h' => ∃ tb A, v = ptr tb ∧ TabS tb [] 0 A ∧ St h h' A) :=
  (New_ok h).mono fun _ _ ⟨tb, A, hv, a, s⟩ => ⟨tb, A, hv, ⟨[], [], [], [], [], [], a, inv_new, .refl _, ⟨List.Pairwise.nil, fun x hx => (by cases hx), by decide, by decide, fun x hx => (by cases hx)⟩⟩, s⟩
theorem TabS.ok (a : TabS tb L next A) : LOk L next := by obtain ⟨_, _, _, _, _, _, _, _, _, o⟩ := a; exact o
theorem rs_len (hp : (rs.map pr2).Perm L) : rs.length = L.length := by have := hp.length_eq; rwa [List.length_map] at this
theorem Len_s (a : TabS tb L next A) (s : St h0 h (A + G)) : HCalls Tryz.prog 28 #[ptr tb] h (fun v h' => h' = h ∧ v = .int .i64 (L.length : Nat)) := by
  obtain ⟨rs, ks, bk, bp, ad, gs, a, v, hp, o⟩ := a
  obtain ⟨mr, mk, mg, k, p, c, A1, A2, A3, A4, A5, A6, a1, a2, a3, a4, a5, a6, s⟩ := a.out s
  refine table_Table_Len_call ?_
  rw [table_Table_Len_b0_eq]
  refine condNo rfl ⟨_, s.ld0, a1.len (s.at A1) ⟨rfl, ?_⟩⟩
  rw [List.length_map, rs_len hp]
theorem sorted_of {L : List LRow} {next : Int} (o : LOk L next) {cf : Rec → Bool} {l : List Int} (hp : l.Perm ((L.filter fun x => cf x.2).map Prod.fst)) (hs : l.Pairwise fun x y => x ≤ y) : l = (L.filter fun x => cf x.2).map Prod.fst :=
  List.Perm.eq_of_pairwise (fun _ _ _ _ h1 h2 => Int.le_antisymm h1 h2) hs (List.pairwise_map.2 ((List.Pairwise.filter _ o.so).imp fun h => Int.le_of_lt h)) hp
theorem ids_fil (hp : (rs.map pr2).Perm L) (cf : Rec → Bool) : (idsOf cf rs).Perm ((L.filter fun x => cf x.2).map Prod.fst) := by
  have := (hp.filter fun x => cf x.2).map Prod.fst
  rw [List.filter_map, List.map_map] at this
  exact this
theorem find_s (a : TabS tb L next A) {f : Value} {cf : Rec → Bool} {P : Rec → Prop} (hf : PredR h0 G f cf P) (hP : ∀ x ∈ L, P x.2) (s : St h0 h (A + G)) :
    HCalls Tryz.prog 35 #[ptr tb, f] h (fun v h' => ∃ q m d A', v = .slice q m d ∧ Sl TI q m d ((L.filter fun x => cf x.2).map Prod.fst) A' ∧ St h0 h' (A' + (A + G))) := by
  obtain ⟨rs, ks, bk, bp, ad, gs, a, v, hp, o⟩ := a
  have hl := o.len
  have hrl := rs_len hp
  refine (find_ok a hf (fun e he => hP (pr2 e) (hp.mem_iff.1 (List.mem_map.2 ⟨e, he, rfl⟩))) s v.idn (by omega)).mono fun v h' ⟨q, m, d, A', l, hv, ol, hpl, hs, st⟩ => ?_
  rw [sorted_of o (hpl.trans (ids_fil hp cf)) hs] at ol
  exact ⟨q, m, d, A', hv, ol, st⟩
theorem List_s (a : TabS tb L next A) (s : St h0 h (A + G)) :
    HCalls Tryz.prog 8 #[ptr tb] h (fun v h' => ∃ q m d A', v = .slice q m d ∧ Sl TI q m d (L.map Prod.fst) A' ∧ St h0 h' (A' + (A + G))) := by
  refine table_Table_List_call ?_
  rw [table_Table_List_b0_eq]
  refine condNo rfl ((find_s a (G := G) (all_p (P := fun _ => True)) (fun _ _ => trivial) s).mono fun v h' ⟨q, m, d, A', hv, o, st⟩ => ⟨_, _, _, hv, q, m, d, A', rfl, ?_, st⟩)
  rwa [List.filter_eq_self.2 fun _ _ => rfl] at o
theorem ByName_s (a : TabS tb L next A) (hm : MaxL h0) (part : ByteArray) (s : St h0 h (A + G)) :
    HCalls Tryz.prog 11 #[ptr tb, .string part] h (fun v h' => ∃ q m d A', v = .tuple #[.slice q m d, .int .i64 0] ∧ Sl TI q m d ((L.filter fun x => Lib.contains x.2.2.2.2.2.data.toList part.data.toList).map Prod.fst) A' ∧ St h0 h' (A' + (A + G))) := by
  have o := a.ok
  refine table_Table_ByName_call ?_
  rw [table_Table_ByName_b0_eq]
  refine s.new (cs := [_]) fun b h1 _ s => condNo rfl ?_
  refine (find_s a (name_p (b1 := b) (part := part) (G := G) hm) (fun x hx => ?_) s.to).mono fun v h' ⟨q, m, d, A', hv, o, st⟩ => ⟨_, _, _, hv, q, m, d, A', rfl, o, (st.to (B := cA b [.string part] 9 + (A' + (A + G)))).drop⟩
  have := o.val x hx
  unfold vRec at this
  rw [Bool.and_eq_true, decide_eq_true_eq] at this
  exact this.1.2.2.2.2
theorem ins_ok (o : LOk L next) {r : Rec} (hr : vRec r = true) (hl : L.length < 1000) : LOk (L ++ [(next, r)]) (next + 1) := by
  refine ⟨?_, fun x hx => ?_, by have := o.n0; omega, by rw [List.length_append, List.length_singleton]; omega, fun x hx => ?_⟩
  · rw [List.pairwise_append]
    exact ⟨o.so, by simp, fun a ha b hb => by rw [List.mem_singleton] at hb; rw [hb]; exact (o.lt a ha).2⟩
  · have := o.n0
    rcases List.mem_append.1 hx with hx | hx
    · have := o.lt x hx; omega
    · rw [List.mem_singleton] at hx; rw [hx]; exact ⟨by omega, by dsimp only; omega⟩
  · rcases List.mem_append.1 hx with hx | hx
    · exact o.val x hx
    · rw [List.mem_singleton] at hx; rw [hx]; exact hr
set_option maxHeartbeats 4000000 in
theorem Insert_s (a : TabS tb L next A) (s : St h0 h (A + G)) (hnx : next ≤ 1000000) (r : Rec) :
    HCalls Tryz.prog 21 #[ptr tb, encR r] h (fun v h' => (vRec r = false ∧ v = .tuple #[.int .i64 0, .int .i64 1] ∧ St h0 h' (A + G)) ∨ (vRec r = true ∧ r.1 ∈ L.map (fun x => x.2.1) ∧ v = .tuple #[.int .i64 0, .int .i64 15] ∧ St h0 h' (A + G)) ∨ (vRec r = true ∧ r.1 ∉ L.map (fun x => x.2.1) ∧ 1000 ≤ L.length ∧ v = .tuple #[.int .i64 0, .int .i64 4] ∧ St h0 h' (A + G)) ∨
      (vRec r = true ∧ r.1 ∉ L.map (fun x => x.2.1) ∧ L.length < 1000 ∧ v = .tuple #[.int .i64 next, .int .i64 0] ∧ ∃ A', TabS tb (L ++ [(next, r)]) (next + 1) A' ∧ St h0 h' (A' + G))) := by
  obtain ⟨rs, ks, bk, bp, ad, gs, a, v, hp, o⟩ := a
  have hn0 := o.n0
  have hrl := rs_len hp
  have hal := v.len
  refine table_Table_Insert_call ?_
  rw [table_Table_Insert_b0_eq]
  refine s.new (cs := [_, _, _, _, _]) fun b h1 _ s => condNo rfl ⟨_, _, _, _, _, s.ld0, s.ldB, s.ldB, s.ldB, s.ldB, ?_⟩
  refine (Valid_ok r h1).mono fun v1 h2 ⟨x2, hv1⟩ => ⟨_, hv1, cond_intro (fun hb => ?_) (fun hb => ?_)⟩
  · exact .inl ⟨by simpa using hb, rfl, (s.grow x2).drop⟩
  have hr : vRec r = true := by simpa using hb
  rw [table_Table_Insert_b1_eq]
  have s := (s.grow x2).to (B := A + (cA b (recC r) 49 + G))
  obtain ⟨mr, mk, mg, k, p, c, A1, A2, A3, A4, A5, A6, a1, a2, a3, a4, a5, a6, s'⟩ := a.out s
  refine ⟨_, s'.ldB, _, s'.ld0, a2.look mapOk_k (s'.at A2) fun w bb hw => ?_⟩
  rcases hw with ⟨hw, rfl, rfl⟩ | ⟨x, hw, rfl, rfl⟩
  · have hk := (lk_none v hp).1 hw
    refine ⟨_, _, rfl, condNo rfl ⟨_, s'.ld0, a1.len (s'.at A1) ?_⟩⟩
    rw [List.length_map]
    refine condP (fun hf => ?_) (fun hf => ?_)
    · exact .inr (.inr (.inl ⟨hr, hk, by omega, rfl, (s.to (B := cA b (recC r) 49 + (A + G))).drop⟩))
    refine ⟨_, s'.ldB, _, s'.ldB, ⟨by omega, by omega⟩, s'.wrB fun h3 s' => ?_⟩
    have s' : St h0 h3 (cA tb [.map (some mr), .map (some mk), .int .i64 (next + 1), .slice k.1 k.2.1 k.2.2, .slice p.1 p.2.1 p.2.2, .slice c.1 c.2.1 c.2.2, .map (some mg)] 84 + _) := s'
    have s' := s'.to (B := cA tb [.map (some mr), .map (some mk), .int .i64 (next + 1), .slice k.1 k.2.1 k.2.2, .slice p.1 p.2.1 p.2.2, .slice c.1 c.2.1 c.2.2, .map (some mg)] 84 + (A1 + (A2 + (A3 + (A4 + (A5 + (A6 + (recB rs + (cA b (recC r) 49 + G)))))))))
    obtain ⟨A', a', s'⟩ := TabA.into (k := k) (p := p) (a := c) (next := next + 1) (F := cA b (recC r) 49 + G) a1 a2 a3 a4 a5 a6 s'
    refine ⟨_, _, _, _, _, s'.ld0, s'.ldB, s'.ldB, s'.ldB, s'.ldB, ?_⟩
    have hid : next ∉ rs.map Prod.fst := fun hc => by
      obtain ⟨x, hx, rfl⟩ := List.mem_map.1 ((ids_of hp).mem_iff.1 hc)
      have := (o.lt x hx).2
      omega
    have hkr : r.1 ∉ rs.map rKey := fun hc => hk ((keys_of hp).mem_iff.1 hc)
    refine (put_ok a' s' next r hid (fun hc => hkr (by have := (v.kp.map Prod.fst).mem_iff.1 hc; rwa [List.map_map] at this)) (by have := o.len; omega)).mono fun v5 h4 ⟨hv5, b', A2', a2', s2⟩ => ⟨hv5, ?_⟩
    refine (build_ok a2' (v.put hid hkr) s2 (by rw [List.length_append, List.length_singleton]; omega)).mono fun v6 h5 ⟨hv6, bk', bp', ad', gs', A3', a3', v3, s3⟩ => ⟨hv6, .inr (.inr (.inr ⟨hr, hk, by omega, rfl, A3', ⟨_, _, _, _, _, _, a3', v3, ?_, ins_ok o hr (by omega)⟩, (s3.to (B := cA b (recC r) 49 + (A3' + G))).drop⟩))⟩
    rw [List.map_append]
    exact hp.append_right _
  · have hk : r.1 ∈ L.map fun x => x.2.1 := Classical.byContradiction fun hc => by
      rw [(lk_none v hp).2 hc] at hw; cases hw
    exact ⟨_, _, rfl, condYes rfl (.inr (.inl ⟨hr, hk, rfl, (s.to (B := cA b (recC r) 49 + (A + G))).drop⟩))⟩
end
end Go.Proofs.YtfkccighnkepgaaGreat

/- The table as a list of records: Delete, Update. -/
set_option maxRecDepth 100000
namespace Go.Proofs.YtfkccighnkepgaaGreat
open Go Go.Sx
theorem pullL : ∀ {L : List LRow} {e : LRow}, (L.map Prod.fst).Nodup → e ∈ L → L.Perm (e :: L.filter fun x => decide (x.1 ≠ e.1))
  | a :: l, e, hd, he => by
    rw [List.map_cons, List.nodup_cons] at hd
    rcases List.mem_cons.1 he with rfl | he
    · have hf : (e :: l).filter (fun x => decide (x.1 ≠ e.1)) = l := by
        rw [List.filter_cons, if_neg (by simp)]
        exact List.filter_eq_self.2 fun x hx => decide_eq_true fun hc => hd.1 (List.mem_map.2 ⟨x, hx, hc⟩)
      rw [hf]
    · have hne : a.1 ≠ e.1 := fun hc => hd.1 (by rw [hc]; exact List.mem_map.2 ⟨e, he, rfl⟩)
      rw [List.filter_cons, if_pos (decide_eq_true hne)]
      exact (List.Perm.cons a (pullL hd.2 he)).trans (List.Perm.swap _ _ _)
def delL (L : List LRow) (id : Int) : List LRow := L.filter fun x => decide (x.1 ≠ id)
def updL (L : List LRow) (id : Int) (r : Rec) : List LRow := L.map fun x => if x.1 = id then (id, r) else x
theorem LOk.ids {L : List LRow} {next : Int} (o : LOk L next) : (L.map Prod.fst).Nodup := List.pairwise_map.2 (o.so.imp fun h => by omega)
theorem upd_perm {L : List LRow} (hd : (L.map Prod.fst).Nodup) {id : Int} {r : Rec} (h : id ∈ L.map Prod.fst) : (updL L id r).Perm (delL L id ++ [(id, r)]) := by
  obtain ⟨x, hx, rfl⟩ := List.mem_map.1 h
  have hp := (pullL hd hx).map fun y : LRow => if y.1 = x.1 then (x.1, r) else y
  refine hp.trans ?_
  rw [List.map_cons, if_pos rfl]
  have : (L.filter fun y => decide (y.1 ≠ x.1)).map (fun y : LRow => if y.1 = x.1 then (x.1, r) else y) = L.filter fun y => decide (y.1 ≠ x.1) := by
    conv => rhs; rw [← List.map_id (L.filter fun y => decide (y.1 ≠ x.1))]
    refine List.map_congr_left fun y hy => ?_
    rw [if_neg (of_decide_eq_true (List.mem_filter.1 hy).2)]; rfl
  rw [this]
  exact List.perm_append_comm (l₁ := [(x.1, r)])
theorem del_ok {L : List LRow} {next : Int} (o : LOk L next) (id : Int) : LOk (delL L id) next :=
  ⟨o.so.filter _, fun x hx => o.lt x (List.mem_filter.1 hx).1, o.n0, Nat.le_trans (List.length_filter_le _ _) o.len, fun x hx => o.val x (List.mem_filter.1 hx).1⟩
theorem upd_ids {L : List LRow} {id : Int} {r : Rec} : (updL L id r).map Prod.fst = L.map Prod.fst := by
  unfold updL
  rw [List.map_map]
  refine List.map_congr_left fun x _ => ?_
  show (if x.1 = id then (id, r) else x).1 = x.1
  split
  · rename_i h; exact h.symm
  · rfl
theorem upd_ok {L : List LRow} {next : Int} (o : LOk L next) {id : Int} {r : Rec} (hr : vRec r = true) : LOk (updL L id r) next := by
  refine ⟨?_, fun x hx => ?_, o.n0, by unfold updL; rw [List.length_map]; exact o.len, fun x hx => ?_⟩
  · have : (L.map Prod.fst).Pairwise fun a b => a < b := List.pairwise_map.2 o.so
    rw [← upd_ids (L := L) (id := id) (r := r)] at this
    exact List.pairwise_map.1 this
  · obtain ⟨y, hy, rfl⟩ := List.mem_map.1 hx
    have := o.lt y hy
    split
    · rename_i h; rw [← h]; exact this
    · exact this
  · obtain ⟨y, hy, rfl⟩ := List.mem_map.1 hx
    split
    · exact hr
    · exact o.val y hy
section
variable {h0 h : Hp} {tb : Nat} {L : List LRow} {rs : List Row} {ks : List (Int × Int)} {bk bp ad : List Int} {gs : List (Int × Bool)} {next : Int} {A G : Bag}
theorem del_perm (hp : (rs.map pr2).Perm L) (id : Int) : ((rs.filter fun x => decide (x.1 ≠ id)).map pr2).Perm (delL L id) := by
  have := hp.filter fun x => decide (x.1 ≠ id)
  rw [List.filter_map] at this
  exact this
theorem Delete_s (a : TabS tb L next A) (s : St h0 h (A + G)) (id : Int) :
    HCalls Tryz.prog 26 #[ptr tb, .int .i64 id] h (fun v h' => (id ∉ L.map Prod.fst ∧ v = .int .i64 12 ∧ h' = h) ∨ (id ∈ L.map Prod.fst ∧ v = .int .i64 0 ∧ ∃ A', TabS tb (delL L id) next A' ∧ St h0 h' (A' + G))) := by
  obtain ⟨rs, ks, bk, bp, ad, gs, a, v, hp, o⟩ := a
  have hrl := rs_len hp
  have hal := v.len
  have hol := o.len
  refine table_Table_Delete_call ?_
  rw [table_Table_Delete_b0_eq]
  obtain ⟨mr, mk, mg, k, p, c, A1, A2, A3, A4, A5, A6, a1, a2, a3, a4, a5, a6, s'⟩ := a.out s
  refine condNo rfl ⟨_, s'.ld0, ?_⟩
  by_cases hm : id ∈ rs.map Prod.fst
  · obtain ⟨e, he, rfl⟩ := id_row hm
    refine look_row a1 (s'.at A1) v.idn he ⟨_, rfl, condNo rfl ?_⟩
    rw [table_Table_Delete_b1_eq]
    refine (drop_ok a s he v.idn (by omega) v.adn).mono fun v1 h1 ⟨hv1, A', a', s1⟩ => ⟨hv1, ?_⟩
    refine (build_ok a' (v.drop he) s1 (by have := List.length_filter_le (fun x : Row => decide (x.1 ≠ e.1)) rs; omega)).mono fun v2 h2 ⟨hv2, bk', bp', ad', gs', A2', a2', v2', s2⟩ => ⟨hv2, .inr ⟨(ids_of hp).mem_iff.1 hm, rfl, A2', ⟨_, _, _, _, _, _, a2', v2', del_perm hp e.1, del_ok o e.1⟩, s2⟩⟩
  · exact look_no a1 (s'.at A1) hm ⟨_, rfl, condYes rfl (.inl ⟨fun hc => hm ((ids_of hp).mem_iff.2 hc), rfl, rfl⟩)⟩
theorem update_b2 {b : Nat} {id : Int} {r : Rec} (a : TabA tb rs ks next bk bp ad gs A) (v : Inv rs ks bk bp ad gs) (hp : (rs.map pr2).Perm L) (o : LOk L next) (hr : vRec r = true) (hm : id ∈ rs.map Prod.fst) (hk : ∀ x ∈ L, x.2.1 = r.1 → x.1 = id) (s : St h0 h (A + (cA b (recC r) 49 + G))) :
    table_Table_Update_b2 (some ⟨tb, 0, none⟩) id (some ⟨b, 0, none⟩) h (fun v h' => v = .int .i64 0 ∧ ∃ A', TabS tb (updL L id r) next A' ∧ St h0 h' (A' + G)) := by
  have hrl := rs_len hp
  have hal := v.len
  have hol := o.len
  have hmL := (ids_of hp).mem_iff.1 hm
  obtain ⟨e, he, rfl⟩ := id_row hm
  rw [table_Table_Update_b2_eq]
  refine (drop_ok a s he v.idn (by omega) v.adn).mono fun v1 h1 ⟨hv1, A', a', s1⟩ => ⟨hv1, _, _, _, _, _, s1.ld0, s1.ldB, s1.ldB, s1.ldB, s1.ldB, ?_⟩
  have v' := v.drop he
  have hid : e.1 ∉ (rs.filter fun x => decide (x.1 ≠ e.1)).map Prod.fst := fun hc => by
    obtain ⟨x, hx, hxe⟩ := List.mem_map.1 hc
    exact of_decide_eq_true (List.mem_filter.1 hx).2 hxe
  have hkr : r.1 ∉ (rs.filter fun x => decide (x.1 ≠ e.1)).map rKey := fun hc => by
    obtain ⟨x, hx, hxe⟩ := List.mem_map.1 hc
    have := List.mem_filter.1 hx
    exact of_decide_eq_true this.2 (hk (pr2 x) (hp.mem_iff.1 (List.mem_map.2 ⟨x, this.1, rfl⟩)) hxe)
  refine (put_ok a' s1 e.1 r hid (fun hc => hkr (by have := (v'.kp.map Prod.fst).mem_iff.1 hc; rwa [List.map_map] at this)) (by have := v'.len; have := List.length_filter_le (fun x : Row => decide (x.1 ≠ e.1)) rs; omega)).mono fun v2 h2 ⟨hv2, b', A2, a2, s2⟩ => ⟨hv2, ?_⟩
  have hlen : (rs.filter fun x => decide (x.1 ≠ e.1)).length + 1 = rs.length := by
    have := (pull_row v.idn he).length_eq
    rw [List.length_cons] at this; omega
  refine (build_ok a2 (v'.put hid hkr) s2 (by rw [List.length_append, List.length_singleton]; omega)).mono fun v3 h3 ⟨hv3, bk', bp', ad', gs', A3, a3, v3', s3⟩ => ⟨hv3, rfl, A3, ⟨_, _, _, _, _, _, a3, v3', ?_, upd_ok o hr⟩, (s3.to (B := cA b (recC r) 49 + (A3 + G))).drop⟩
  rw [List.map_append]
  exact ((del_perm hp e.1).append_right _).trans (upd_perm o.ids hmL).symm
set_option maxHeartbeats 4000000 in
theorem Update_s (a : TabS tb L next A) (s : St h0 h (A + G)) (id : Int) (r : Rec) :
    HCalls Tryz.prog 19 #[ptr tb, .int .i64 id, encR r] h (fun v h' => (vRec r = false ∧ v = .int .i64 1 ∧ St h0 h' (A + G)) ∨ (vRec r = true ∧ id ∉ L.map Prod.fst ∧ v = .int .i64 12 ∧ St h0 h' (A + G)) ∨ (vRec r = true ∧ id ∈ L.map Prod.fst ∧ (∃ x ∈ L, x.2.1 = r.1 ∧ x.1 ≠ id) ∧ v = .int .i64 15 ∧ St h0 h' (A + G)) ∨
      (vRec r = true ∧ id ∈ L.map Prod.fst ∧ (∀ x ∈ L, x.2.1 = r.1 → x.1 = id) ∧ v = .int .i64 0 ∧ ∃ A', TabS tb (updL L id r) next A' ∧ St h0 h' (A' + G))) := by
  obtain ⟨rs, ks, bk, bp, ad, gs, a, v, hp, o⟩ := a
  refine table_Table_Update_call ?_
  rw [table_Table_Update_b0_eq]
  refine s.new (cs := [_, _, _, _, _]) fun b h1 _ s => condNo rfl ⟨_, _, _, _, _, s.ld0, s.ldB, s.ldB, s.ldB, s.ldB, ?_⟩
  refine (Valid_ok r h1).mono fun v1 h2 ⟨x2, hv1⟩ => ⟨_, hv1, cond_intro (fun hb => ?_) (fun hb => ?_)⟩
  · exact .inl ⟨by simpa using hb, rfl, (s.grow x2).drop⟩
  have hr : vRec r = true := by simpa using hb
  rw [table_Table_Update_b1_eq]
  have s := (s.grow x2).to (B := A + (cA b (recC r) 49 + G))
  have sd : St h0 h2 (A + G) := (s.to (B := cA b (recC r) 49 + (A + G))).drop
  obtain ⟨mr, mk, mg, k, p, c, A1, A2, A3, A4, A5, A6, a1, a2, a3, a4, a5, a6, s'⟩ := a.out s
  refine ⟨_, s'.ld0, ?_⟩
  by_cases hm : id ∈ rs.map Prod.fst
  · have hmL := (ids_of hp).mem_iff.1 hm
    obtain ⟨e, he, hee⟩ := id_row hm
    have b2 : (∀ x ∈ L, x.2.1 = r.1 → x.1 = id) → table_Table_Update_b2 (some ⟨tb, 0, none⟩) id (some ⟨b, 0, none⟩) h2 (fun v h' => (vRec r = false ∧ v = .int .i64 1 ∧ St h0 h' (A + G)) ∨ (vRec r = true ∧ id ∉ L.map Prod.fst ∧ v = .int .i64 12 ∧ St h0 h' (A + G)) ∨ (vRec r = true ∧ id ∈ L.map Prod.fst ∧ (∃ x ∈ L, x.2.1 = r.1 ∧ x.1 ≠ id) ∧ v = .int .i64 15 ∧ St h0 h' (A + G)) ∨
      (vRec r = true ∧ id ∈ L.map Prod.fst ∧ (∀ x ∈ L, x.2.1 = r.1 → x.1 = id) ∧ v = .int .i64 0 ∧ ∃ A', TabS tb (updL L id r) next A' ∧ St h0 h' (A' + G))) := fun hk => by
      have := update_b2 a v hp o hr hm hk s
      rw [table_Table_Update_b2_eq] at this ⊢
      refine this.mono fun v1 h3 ⟨hv1, n6, n7, n8, n9, s2, c1, c2, c3, c4, c5, hc⟩ => ⟨hv1, n6, n7, n8, n9, s2, c1, c2, c3, c4, c5, hc.mono fun v2 h4 ⟨hv2, hc⟩ => ⟨hv2, hc.mono fun v3 h5 ⟨hv3, hz⟩ => ⟨hv3, .inr (.inr (.inr ⟨hr, hmL, hk, hz⟩))⟩⟩⟩
    subst hee
    refine look_row a1 (s'.at A1) v.idn he ⟨_, rfl, condNo rfl ⟨_, s'.ldB, _, s'.ld0, a2.look mapOk_k (s'.at A2) fun w bb hw => ?_⟩⟩
    rcases hw with ⟨hw, rfl, rfl⟩ | ⟨x, hw, rfl, rfl⟩
    · have hk := (lk_none v hp).1 hw
      exact ⟨_, _, rfl, condNo rfl (b2 fun x hx hxe => absurd (List.mem_map.2 ⟨x, hx, hxe⟩) hk)⟩
    · obtain ⟨r', hr', hrk⟩ := (lk_key v hp).1 hw
      refine ⟨_, _, rfl, condYes rfl (condN (fun hne => ?_) (fun heq => ?_))⟩
      · exact .inr (.inr (.inl ⟨hr, hmL, ⟨_, hr', hrk, hne⟩, rfl, sd⟩))
      · refine b2 fun y hy hye => ?_
        have h1 := (lk_key v hp).2 ⟨y.2, hy, hye⟩
        rw [hw] at h1
        cases h1
        exact heq
  · exact look_no a1 (s'.at A1) hm ⟨_, rfl, condYes rfl (.inr (.inl ⟨hr, fun hc => hm ((ids_of hp).mem_iff.2 hc), rfl, sd⟩))⟩
end
end Go.Proofs.YtfkccighnkepgaaGreat

/- The table as a list of records: by key, by place. -/
set_option maxRecDepth 100000
namespace Go.Proofs.YtfkccighnkepgaaGreat
open Go Go.Sx
def recL (L : List LRow) (id : Int) : Rec := match L.find? fun e => decide (e.1 = id) with | some e => e.2 | none => (0, 0, 0, 0, ⟨#[]⟩)
theorem recL_mem {L : List LRow} (hd : (L.map Prod.fst).Nodup) {e : LRow} (he : e ∈ L) : recL L e.1 = e.2 := by
  unfold recL
  induction L with
  | nil => cases he
  | cons a l ih =>
    rw [List.map_cons, List.nodup_cons] at hd
    rw [List.find?_cons]
    rcases List.mem_cons.1 he with rfl | he
    · rw [decide_eq_true rfl]
    · rw [decide_eq_false (fun hc => hd.1 (by rw [hc]; exact List.mem_map.2 ⟨e, he, rfl⟩))]
      exact ih hd.2 he
section
variable {h0 h : Hp} {tb : Nat} {L : List LRow} {rs : List Row} {ks : List (Int × Int)} {bk bp ad : List Int} {gs : List (Int × Bool)} {next : Int} {A G : Bag}
theorem rec_same (v : Inv rs ks bk bp ad gs) (hp : (rs.map pr2).Perm L) (o : LOk L next) {id : Int} (h : id ∈ rs.map Prod.fst) : recOf rs id = recL L id := by
  obtain ⟨e, he, rfl⟩ := id_row h
  rw [recOf_mem v.idn he, show e.1 = (pr2 e).1 from rfl, recL_mem o.ids (hp.mem_iff.1 (List.mem_map.2 ⟨e, he, rfl⟩))]
  rfl
theorem scan_perm {idx : List Int} (hd : (rs.map Prod.fst).Nodup) (hp : (rs.map pr2).Perm L) (hx : (idx.filter (fun id => !goneB gs id) ++ ad).Perm (rs.map Prod.fst)) (vf : Rec → Int) (cf : Rec → Bool) (fr to : Int) :
    (idx.filter (ixP rs gs vf cf fr to) ++ ad.filter (inP rs vf cf fr to)).Perm ((L.filter fun x => decide (fr ≤ vf x.2 ∧ vf x.2 ≤ to) && cf x.2).map Prod.fst) := by
  have e1 : idx.filter (ixP rs gs vf cf fr to) = (idx.filter fun id => !goneB gs id).filter (inP rs vf cf fr to) := by
    rw [List.filter_filter]
    refine List.filter_congr fun x _ => ?_
    unfold ixP
    rw [Bool.and_comm]
  rw [e1, ← List.filter_append]
  refine (hx.filter _).trans ?_
  rw [List.filter_map]
  have e2 : rs.filter (inP rs vf cf fr to ∘ Prod.fst) = rs.filter fun e => decide (fr ≤ vf e.2.2 ∧ vf e.2.2 ≤ to) && cf e.2.2 := List.filter_congr fun x hx => by
    show inP rs vf cf fr to x.1 = _
    unfold inP
    rw [recOf_mem hd hx]
  rw [e2]
  exact ids_fil hp fun r => decide (fr ≤ vf r ∧ vf r ≤ to) && cf r
/-- Identifiers in the order of the keys of their records. -/
def ByK (L : List LRow) (fr to : Int) (l : List Int) : Prop := l.Perm ((L.filter fun x => decide (fr ≤ x.2.1 ∧ x.2.1 ≤ to)).map Prod.fst) ∧ l.Pairwise fun x y => (recL L x).1 ≤ (recL L y).1
theorem ByKey_s (a : TabS tb L next A) (s : St h0 h (A + G)) (fr to : Int) :
    HCalls Tryz.prog 9 #[ptr tb, .int .i64 fr, .int .i64 to] h (fun v h' => ∃ q m d A' l, v = .tuple #[.slice q m d, .int .i64 0] ∧ Sl TI q m d l A' ∧ ByK L fr to l ∧ St h0 h' (A' + (A + G))) := by
  obtain ⟨rs, ks, bk, bp, ad, gs, a, v, hp, o⟩ := a
  have hrl := rs_len hp
  have hal := v.len
  have hol := o.len
  have hbk := v.bkl
  refine table_Table_ByKey_call ?_
  rw [table_Table_ByKey_b0_eq]
  refine s.new (cs := [_]) fun b h1 _ s => ?_
  have a0 := a
  obtain ⟨mr, mk, mg, k, p, c, A1, A2, A3, A4, A5, A6, hA, a1, a2, a3, a4, a5, a6⟩ := a0
  have s2 : St h0 h1 (cA b [ptr tb] 25 + (cA tb [.map (some mr), .map (some mk), .int .i64 next, .slice k.1 k.2.1 k.2.2, .slice p.1 p.2.1 p.2.2, .slice c.1 c.2.1 c.2.2, .map (some mg)] 84 + (A3 + (A1 + (A2 + (A4 + (A5 + (A6 + (recB rs + G))))))))) := by
    rw [hA] at s
    exact s.to
  refine ⟨some ⟨tb, 0, none⟩, s2.ld0, condNo rfl ⟨some ⟨tb, 0, none⟩, s2.ld0, some ⟨tb, 0, none⟩, s2.ld0, _, _, _, s2.ldB, ?_⟩⟩
  have hI : ∀ h' X, St h0 h' (A + X) → RdT TI h' k.1 k.2.1 bk := fun h' X s => by
    rw [hA] at s
    exact a4.rd (s.to (B := A4 + (cA tb [.map (some mr), .map (some mk), .int .i64 next, .slice k.1 k.2.1 k.2.2, .slice p.1 p.2.1 p.2.2, .slice c.1 c.2.1 c.2.2, .map (some mg)] 84 + (A3 + (A1 + (A2 + (A5 + (A6 + (recB rs + X)))))))))
  refine (scan_ok a (G := cA b [ptr tb] 25 + G) key_v (allK_p (P := fun _ => True)) (fun _ _ => trivial) v.idn (fun _ => v.ad_mem) (fun _ => v.bk_mem) v.sk (by omega) hI (s.to)).mono fun v1 h2 ⟨q, m, d, O, hv1, ol, s⟩ => ⟨_, _, _, hv1, ?_⟩
  have hperm := scan_perm v.idn hp v.pk (fun r : Rec => r.1) (fun _ => true) fr to
  have hmem : ∀ x ∈ bk.filter (ixP rs gs (fun r : Rec => r.1) (fun _ => true) fr to) ++ ad.filter (inP rs (fun r : Rec => r.1) (fun _ => true) fr to), x ∈ rs.map Prod.fst := fun x hx => by
    have := hperm.mem_iff.1 hx
    obtain ⟨y, hy, rfl⟩ := List.mem_map.1 this
    exact (ids_of hp).mem_iff.2 (List.mem_map.2 ⟨y, (List.mem_filter.1 hy).1, rfl⟩)
  have hlen := hperm.length_eq
  rw [List.length_map] at hlen
  have hfl := List.length_filter_le (fun x : LRow => decide (fr ≤ x.2.1 ∧ x.2.1 ≤ to) && true) L
  have hml := ol.len
  generalize bk.filter (ixP rs gs (fun r : Rec => r.1) (fun _ => true) fr to) ++ ad.filter (inP rs (fun r : Rec => r.1) (fun _ => true) fr to) = l0 at *
  have gm : ∀ i, i < m → l0.getD i TI.d ∈ rs.map Prod.fst := fun i hi => hmem _ (by
    have hkl : i < l0.length := by omega
    rw [show l0.getD i TI.d = l0[i] from getD_get hkl]
    exact List.getElem_mem hkl)
  rw [hA] at s
  refine (sortCI (P := fun x => x ∈ rs.map Prod.fst) (byKey_cmp a1 v.idn) ordKey (s.to (B := O + (cA b [ptr tb] 25 + (cA tb [.map (some mr), .map (some mk), .int .i64 next, .slice k.1 k.2.1 k.2.2, .slice p.1 p.2.1 p.2.2, .slice c.1 c.2.1 c.2.2, .map (some mg)] 84 + (A1 + (recB rs + (A2 + (A3 + (A4 + (A5 + (A6 + G))))))))))) ol gm (by omega)).mono fun v2 h3 ⟨hv2, ys, O', oy, s, hq, hw⟩ => ⟨hv2, q, m, d, O', ys, rfl, oy, ⟨?_, ?_⟩, ?_⟩
  · refine hq.trans (hperm.trans ?_)
    simp only [Bool.and_true]
    exact .refl _
  · refine hw.imp_of_mem fun {x y} hx hy h => ?_
    have := cmpI_le h
    rwa [rec_same v hp o (hmem x (hq.mem_iff.1 hx)), rec_same v hp o (hmem y (hq.mem_iff.1 hy))] at this
  · rw [hA]
    exact (s.to (B := cA b [ptr tb] 25 + (O' + (cA tb [.map (some mr), .map (some mk), .int .i64 next, .slice k.1 k.2.1 k.2.2, .slice p.1 p.2.1 p.2.2, .slice c.1 c.2.1 c.2.2, .map (some mg)] 84 + (A1 + (A2 + (A3 + (A4 + (A5 + (A6 + recB rs)))))) + G)))).drop
end
end Go.Proofs.YtfkccighnkepgaaGreat

/- The table as a list of records: by place, weights, one record. -/
set_option maxRecDepth 100000
namespace Go.Proofs.YtfkccighnkepgaaGreat
open Go Go.Sx
def inR (x1 x2 y1 y2 : Int) (r : Rec) : Bool := decide (x1 ≤ r.2.1 ∧ r.2.1 ≤ x2) && decide (y1 ≤ r.2.2.1 ∧ r.2.2.1 ≤ y2)
def wgt (L : List LRow) : Int := (L.map fun x => x.2.2.2.2.1).sum
section
variable {h0 h : Hp} {tb : Nat} {L : List LRow} {rs : List Row} {ks : List (Int × Int)} {bk bp ad : List Int} {gs : List (Int × Bool)} {next : Int} {A G : Bag}
theorem ByPlace_s (a : TabS tb L next A) (s : St h0 h (A + G)) (x1 x2 y1 y2 : Int) :
    HCalls Tryz.prog 10 #[ptr tb, .int .i64 x1, .int .i64 x2, .int .i64 y1, .int .i64 y2] h (fun v h' => ∃ q m d A', v = .tuple #[.slice q m d, .int .i64 0] ∧ Sl TI q m d ((L.filter fun x => inR x1 x2 y1 y2 x.2).map Prod.fst) A' ∧ St h0 h' (A' + (A + G))) := by
  obtain ⟨rs, ks, bk, bp, ad, gs, a, v, hp, o⟩ := a
  have hrl := rs_len hp
  have hal := v.len
  have hol := o.len
  have hbp := v.bpl
  refine table_Table_ByPlace_call ?_
  rw [table_Table_ByPlace_b0_eq]
  refine s.new (cs := [_]) fun b1 h1 _ s => s.new (cs := [_]) fun b2 h2 _ s => condNo rfl ?_
  have a0 := a
  obtain ⟨mr, mk, mg, k, p, c, A1, A2, A3, A4, A5, A6, hA, a1, a2, a3, a4, a5, a6⟩ := a0
  have c2 : cell h2 ((⟨tb, 0, none⟩ : Addr).add 4) = some (.slice p.1 p.2.1 p.2.2) := by
    rw [hA] at s
    have s := s.to (B := cA tb [.map (some mr), .map (some mk), .int .i64 next, .slice k.1 k.2.1 k.2.2, .slice p.1 p.2.1 p.2.2, .slice c.1 c.2.1 c.2.2, .map (some mg)] 84 + (A1 + (A2 + (A3 + (A4 + (A5 + (A6 + recB rs))))) + (cA b1 [.int .i64 y1] 3 + (cA b2 [.int .i64 y2] 3 + G))))
    exact s.ldB
  refine ⟨_, _, _, c2, ?_⟩
  have hI : ∀ h' X, St h0 h' (A + X) → RdT TI h' p.1 p.2.1 bp := fun h' X s => by
    rw [hA] at s
    exact a5.rd (s.to (B := A5 + (cA tb [.map (some mr), .map (some mk), .int .i64 next, .slice k.1 k.2.1 k.2.2, .slice p.1 p.2.1 p.2.2, .slice c.1 c.2.1 c.2.2, .map (some mg)] 84 + (A3 + (A1 + (A2 + (A4 + (A6 + (recB rs + X)))))))))
  refine (scan_ok a (G := cA b1 [.int .i64 y1] 3 + (cA b2 [.int .i64 y2] 3 + G)) place_v (place_p (P := fun _ => True)) (fun _ _ => trivial) v.idn (fun _ => v.ad_mem) (fun _ => v.bp_mem) v.sp (by omega) hI (s.to)).mono fun v1 h3 ⟨q, m, d, O, hv1, ol, s⟩ => ⟨_, _, _, hv1, ?_⟩
  have hperm := scan_perm v.idn hp v.pp (fun r : Rec => r.2.1) (fun r => decide (y1 ≤ r.2.2.1 ∧ r.2.2.1 ≤ y2)) x1 x2
  have hlen := hperm.length_eq
  rw [List.length_map] at hlen
  have hfl := List.length_filter_le (fun x : LRow => decide (x1 ≤ x.2.2.1 ∧ x.2.2.1 ≤ x2) && decide (y1 ≤ x.2.2.2.1 ∧ x.2.2.2.1 ≤ y2)) L
  have hml := ol.len
  refine (sortOI (P := fun _ => True) s ol (fun _ _ => trivial) (by omega)).mono fun v2 h4 ⟨hv2, ys, O', oy, s, hq, hw⟩ => ⟨hv2, q, m, d, O', rfl, ?_, (s.to (B := cA b1 [.int .i64 y1] 3 + (cA b2 [.int .i64 y2] 3 + (O' + (A + G))))).drop.drop⟩
  have := sorted_of o (cf := inR x1 x2 y1 y2) (hq.trans hperm) (hw.imp fun h => by omega)
  rwa [this] at oy
theorem wgt_small {L : List LRow} (hv : ∀ x ∈ L, vRec x.2 = true) : -(1048576 * (L.length : Int)) ≤ wgt L ∧ wgt L ≤ 1048576 * (L.length : Int) := by
  induction L with
  | nil => exact ⟨Int.le_refl _, Int.le_refl _⟩
  | cons x l ih =>
    have h1 := ih fun y hy => hv y (List.mem_cons_of_mem _ hy)
    have h2 := hv x List.mem_cons_self
    unfold vRec at h2
    rw [Bool.and_eq_true, decide_eq_true_eq] at h2
    have h3 : wgt (x :: l) = x.2.2.2.2.1 + wgt l := by unfold wgt; rw [List.map_cons, List.sum_cons]
    have h4 := h2.1.2.2.2.1
    rw [h3, List.length_cons]
    push_cast
    omega
theorem Weight_s (a : TabS tb L next A) (s : St h0 h (A + G)) (x1 x2 y1 y2 : Int) :
    HCalls Tryz.prog 12 #[ptr tb, .int .i64 x1, .int .i64 x2, .int .i64 y1, .int .i64 y2] h (fun v h' => v = .tuple #[.int .i64 (wgt (L.filter fun x => inR x1 x2 y1 y2 x.2)), .int .i64 0] ∧ St h0 h' (A + G)) := by
  refine table_Table_Weight_call ?_
  rw [table_Table_Weight_b0_eq]
  refine (ByPlace_s a s x1 x2 y1 y2).mono fun v h1 ⟨q, m, d, O, hv, ol, s⟩ => ⟨_, _, _, _, hv, ?_⟩
  obtain ⟨rs, ks, bk, bp, ad, gs, a, v, hp, o⟩ := a
  have hrl := rs_len hp
  have hol := o.len
  have hml := ol.len
  rw [List.length_map] at hml
  have hfl := List.length_filter_le (fun x : LRow => inR x1 x2 y1 y2 x.2) L
  have hsub : ∀ x ∈ L.filter fun x => inR x1 x2 y1 y2 x.2, x ∈ L := fun x hx => (List.mem_filter.1 hx).1
  generalize L.filter (fun x => inR x1 x2 y1 y2 x.2) = M at *
  refine ⟨fun x h' => h' = h1 ∧ ∃ i : Nat, x.2.1 = i ∧ i ≤ m ∧ x.1 = wgt (M.take i), fun x _ => (m - x.2.1).toNat, ⟨rfl, 0, rfl, Nat.zero_le _, rfl⟩, ?_⟩
  rintro ⟨_, _, _⟩ h2 ⟨rfl, i, rfl, hi, rfl⟩
  dsimp only
  rw [table_Table_Weight_b1_eq]
  refine condP (fun hlt => ?_) (fun hge => ?_)
  · have hil : i < M.length := by omega
    have hil2 : i < (M.map Prod.fst).length := by rw [List.length_map]; exact hil
    refine ldI (i' := i) (ol.rd s) rfl (by omega) ?_
    have hg : (M.map Prod.fst).getD i 0 = M[i].1 := by rw [getD_get hil2, List.getElem_map]
    rw [hg]
    have hx := hsub _ (List.getElem_mem hil)
    have hw : wgt (M.take (i + 1)) = wgt (M.take i) + M[i].2.2.2.2.1 := by
      unfold wgt
      rw [List.take_succ_eq_append_getElem hil, List.map_append, List.sum_append]
      simp
    have hb := wgt_small (L := M.take i) fun y hy => o.val y (hsub y (List.mem_of_mem_take hy))
    rw [List.length_take, Nat.min_eq_left (by omega)] at hb
    have hvx := o.val _ hx
    unfold vRec at hvx
    rw [Bool.and_eq_true, decide_eq_true_eq] at hvx
    generalize M[i] = z at hx hw hvx ⊢
    obtain ⟨e, he, hez⟩ := List.mem_map.1 (hp.mem_iff.2 hx)
    obtain ⟨mr, mk, mg, k, p, c, A1, A2, A3, A4, A5, A6, a1, a2, a3, a4, a5, a6, s'⟩ := a.out (s.to (B := A + (O + G)))
    have hbl := row_blk he (s'.at (recB rs))
    unfold pr2 at hez
    subst hez
    have h4 := hvx.1.2.2.2.1
    dsimp only at hw h4 ⊢
    refine ⟨_, s'.ld0, look_row a1 (s'.at A1) v.idn he ⟨_, rfl, _, Blk.cellA hbl 3, ⟨by omega, by omega⟩, ?_⟩⟩
    rw [table_Table_Weight_b2_eq]
    exact ⟨⟨by omega, by omega⟩, ⟨rfl, i + 1, by push_cast; rfl, by omega, hw.symm⟩, by dsimp only; omega⟩
  · obtain rfl : i = m := by omega
    rw [List.take_of_length_le (by omega), table_Table_Weight_b3_eq]
    exact ⟨rfl, s.drop⟩
end
end Go.Proofs.YtfkccighnkepgaaGreat

/- The table as a list of records: Get. -/
set_option maxRecDepth 100000
namespace Go.Proofs.YtfkccighnkepgaaGreat
open Go Go.Sx
theorem wr5 {h0 h : Hp} {B C : Bag} {b : Nat} {e : TypeId} {c0 c1 c2 c3 c4 v0 v1 v2 v3 v4 : Value} {K : Hp → Prop} (s : St h0 h B) [x : Bag.Has b B [c0, c1, c2, c3, c4] e C] (hK : ∀ h', St h0 h' (cA b [v0, v1, v2, v3, v4] e + C) → K h') :
    Wr h ⟨b, 0, none⟩ v0 fun h1 => Wr h1 ((⟨b, 0, none⟩ : Addr).add 1) v1 fun h2 => Wr h2 ((⟨b, 0, none⟩ : Addr).add 2) v2 fun h3 => Wr h3 ((⟨b, 0, none⟩ : Addr).add 3) v3 fun h4 => Wr h4 ((⟨b, 0, none⟩ : Addr).add 4) v4 K :=
  s.wr0 fun _ s => s.wrB fun _ s => s.wrB fun _ s => s.wrB fun _ s => s.wrB fun _ s => hK _ s
section
variable {h0 h : Hp} {tb : Nat} {L : List LRow} {next : Int} {A G : Bag}
end
end Go.Proofs.YtfkccighnkepgaaGreat

/- The table as a list of records: Check; equal lists. -/
set_option maxRecDepth 100000
namespace Go.Proofs.YtfkccighnkepgaaGreat
open Go Go.Sx
theorem EqualI {h : Hp} {p q : Option Addr} {n m c d : Nat} {xs ys : List Int} (r1 : RdT TI h p n xs) (r2 : RdT TI h q m ys) (hn : n ≤ 1000000000) :
    HCalls Tryz.prog 17 #[.slice p n c, .slice q m d] h (fun v h' => h' = h ∧ v = .bool (decide (xs = ys))) := by
  have l1 := r1.len
  have l2 := r2.len
  refine EqI_call ?_
  rw [EqI_b0_eq]
  refine condN (fun hl => ?_) (fun hl => ?_)
  · exact ⟨rfl, by rw [decide_eq_false (fun h => hl (by subst h; omega))]⟩
  refine ⟨fun x h' => h' = h ∧ ∃ i : Nat, x.1 = i ∧ i ≤ n ∧ ∀ j, j < i → xs.getD j 0 = ys.getD j 0, fun x _ => n - x.1.toNat, ⟨rfl, 0, rfl, by omega, fun j hj => by omega⟩, ?_⟩
  rintro ⟨_, _⟩ h1 ⟨rfl, i, rfl, hin, heq⟩
  dsimp only
  rw [EqI_b1_eq]
  refine condP (fun hlt => ?_) (fun hge => ?_)
  · refine ldI (i' := i) r1 rfl (by omega) (ldI (i' := i) r2 rfl (by omega) (condN (fun hne => ?_) (fun he => ?_)))
    · exact ⟨rfl, by rw [decide_eq_false (fun h => hne (by rw [h]))]⟩
    · rw [EqI_b2_eq]
      refine ⟨⟨by omega, by omega⟩, ⟨rfl, i + 1, by simp only; omega, by omega, fun j hj => ?_⟩, by simp only; omega⟩
      rcases Nat.lt_or_ge j i with h1 | h1
      · exact heq j h1
      · obtain rfl : j = i := by omega
        exact he
  · rw [EqI_b3_eq]
    exact ⟨rfl, by rw [decide_eq_true (list_eq_of (d := 0) (by omega) (fun t ht => heq t (by omega)))]⟩
/-- What the keys of a table answer. -/
def KeyLook (h0 : Hp) (W : Bag) (ub : Nat) (M : List LRow) : Prop := ∀ h' X, St h0 h' (W + X) → ∃ mk, cell h' ((⟨ub, 0, none⟩ : Addr).add 1) = some (.map (some mk)) ∧ ∀ (ok : Bool) (key : Int) (K : Value → Prop),
  (∀ (v : Int) (b : Bool), ((key ∉ M.map (fun x => x.2.1) ∧ v = 0 ∧ b = false) ∨ (∃ r, (v, r) ∈ M ∧ r.1 = key ∧ b = true)) → K (if ok then .tuple #[.int .i64 v, .bool b] else .int .i64 v)) → lookV Tryz.prog 79 (.map (some mk)) (.int .i64 key) ok h' K
section
variable {h0 h : Hp} {tb : Nat} {L : List LRow} {next : Int} {A G : Bag}
theorem TabS.look (a : TabS tb L next A) : KeyLook h0 A tb L := by
  intro h' X s
  obtain ⟨rs, ks, bk, bp, ad, gs, a, v, hp, o⟩ := a
  obtain ⟨mr, mk, mg, k, p, c, A1, A2, A3, A4, A5, A6, a1, a2, a3, a4, a5, a6, s'⟩ := a.out s
  refine ⟨mk, s'.ldB, fun ok key K hK => a2.look mapOk_k (s'.at A2) fun w b hw => ?_⟩
  rcases hw with ⟨hw, rfl, rfl⟩ | ⟨x, hw, rfl, rfl⟩
  · exact hK 0 false (.inl ⟨(lk_none v hp).1 hw, rfl, rfl⟩)
  · obtain ⟨r, hr, hk⟩ := (lk_key v hp).1 hw
    exact hK x true (.inr ⟨r, hr, hk, rfl⟩)
theorem all_key (o : LOk L next) : (L.filter fun x => decide (-1048576 ≤ x.2.1 ∧ x.2.1 ≤ 1048576)) = L := List.filter_eq_self.2 fun x hx => by
  have := o.val x hx
  unfold vRec at this
  rw [Bool.and_eq_true, decide_eq_true_eq] at this
  exact decide_eq_true this.1.1
end
end Go.Proofs.YtfkccighnkepgaaGreat

/- The table as a list of records: Join. -/
set_option maxRecDepth 100000
namespace Go.Proofs.YtfkccighnkepgaaGreat
open Go Go.Sx
section
variable {h0 h : Hp} {tb ub : Nat} {L M : List LRow} {next : Int} {A W G : Bag}
theorem TabS.keys (a : TabS tb L next A) : (L.map fun x => x.2.1).Nodup := by
  obtain ⟨rs, ks, bk, bp, ad, gs, a, v, hp, o⟩ := a
  exact (keys_of hp).nodup_iff.1 v.kn
end
end Go.Proofs.YtfkccighnkepgaaGreat

/- The reference: what has an identifier, what has a key. -/
set_option maxRecDepth 100000
namespace Go.Proofs.YtfkccighnkepgaaGreat
open Go Go.Sx
abbrev encT (p : Option Addr) (n c : Nat) (q : Option Addr) (m d : Nat) (nx : Int) : Value := .agg #[.slice p n c, .slice q m d, .int .i64 nx]
section
variable {h : Hp} {p q : Option Addr} {n c m d : Nat} {nx : Int} {L : List LRow}
theorem Find_r (r1 : RdT TI h p n (L.map Prod.fst)) (hn : n ≤ 100000) (id : Int) :
    HCalls Tryz.prog 78 #[encT p n c q m d nx, .int .i64 id] h (fun v h' => Ext h h' ∧ ∃ i : Int, v = .int .i64 i ∧ ((id ∉ L.map Prod.fst ∧ i = -1) ∨ ∃ j : Nat, i = j ∧ j < n ∧ (L.map Prod.fst).getD j 0 = id)) := by
  have hl := r1.len
  refine r50_Find_call ?_
  rw [r50_Find_b0_eq]
  refine (St.start h).new (cs := [_, _, _]) fun b h1 x1 s => ?_
  have r1 := r1.ext x1
  refine ⟨fun x h' => h' = h1 ∧ ∃ i : Nat, x.1 = i ∧ i ≤ n ∧ id ∉ (L.map Prod.fst).take i, fun x _ => (n - x.1).toNat, ⟨rfl, 0, rfl, Nat.zero_le _, by simp⟩, ?_⟩
  rintro ⟨_, _⟩ h2 ⟨rfl, i, rfl, hi, hno⟩
  dsimp only
  rw [r50_Find_b1_eq]
  refine ⟨_, _, _, s.ld0, condP (fun hlt => ?_) (fun hge => ?_)⟩
  · refine ⟨_, _, _, s.ld0, ldI (i' := i) r1 rfl (by omega) (condP (fun he => ⟨s.ext, _, rfl, .inr ⟨i, rfl, by omega, he⟩⟩) (fun hne => ?_))⟩
    rw [r50_Find_b2_eq]
    refine ⟨⟨by omega, by omega⟩, ⟨rfl, i + 1, by push_cast; rfl, by omega, ?_⟩, by dsimp only; omega⟩
    have hil : i < (L.map Prod.fst).length := by omega
    rw [List.take_succ_eq_append_getElem hil, List.mem_append, List.mem_singleton, ← getD_get (d := 0) hil]
    exact fun h => h.elim hno (fun h => hne h.symm)
  · obtain rfl : i = n := by omega
    rw [List.take_of_length_le (by omega)] at hno
    rw [r50_Find_b3_eq]
    exact ⟨s.ext, _, rfl, .inl ⟨hno, rfl⟩⟩
theorem Has_r (r1 : RdT TI h p n (L.map Prod.fst)) (r2 : RdT tRec h q m (L.map Prod.snd)) (hn : n ≤ 100000) (key but : Int) :
    HCalls Tryz.prog 77 #[encT p n c q m d nx, .int .i64 key, .int .i64 but] h (fun v h' => Ext h h' ∧ v = .bool (L.any fun x => decide (x.2.1 = key ∧ x.1 ≠ but))) := by
  have hl1 := r1.len
  have hl2 := r2.len
  rw [List.length_map] at hl1 hl2
  refine r50_Has_call ?_
  rw [r50_Has_b0_eq]
  refine (St.start h).new (cs := [_, _, _]) fun b h1 x1 s => ?_
  have r1 := r1.ext x1
  have r2 := r2.ext x1
  refine ⟨fun x h' => h' = h1 ∧ ∃ i : Nat, x.1 = i ∧ i ≤ n ∧ (L.take i).any (fun x => decide (x.2.1 = key ∧ x.1 ≠ but)) = false, fun x _ => (n - x.1).toNat, ⟨rfl, 0, rfl, Nat.zero_le _, rfl⟩, ?_⟩
  rintro ⟨_, _⟩ h2 ⟨rfl, i, rfl, hi, hno⟩
  dsimp only
  rw [r50_Has_b1_eq]
  refine ⟨_, _, _, s.ldB, condP (fun hlt => ?_) (fun hge => ?_)⟩
  · have hil : i < L.length := by omega
    have g1 : (L.map Prod.fst).getD i 0 = L[i].1 := by rw [getD_get (by rw [List.length_map]; exact hil), List.getElem_map]
    have g2 : (L.map Prod.snd).getD i tRec.d = L[i].2 := by rw [getD_get (by rw [List.length_map]; exact hil), List.getElem_map]
    have go : ¬ (L[i].2.1 = key ∧ L[i].1 ≠ but) → (L.take (i + 1)).any (fun x => decide (x.2.1 = key ∧ x.1 ≠ but)) = false := fun hc => by
      rw [List.take_succ_eq_append_getElem hil, List.any_append, hno, List.any_cons, decide_eq_false hc]; rfl
    refine ⟨_, _, _, s.ldB, r2.idx (i := (i : Int)) (by omega) (by omega) fun a _ hc => ?_⟩
    have e : Int.toNat (i : Int) = i := Int.toNat_natCast i
    have hc0 := hc 0 (by decide)
    rw [e, g2] at hc0
    rw [e]
    refine ⟨L[i].2.1, by simpa [add_add] using hc0, condP (fun hk => ?_) (fun hk => ?_)⟩
    · refine ⟨_, _, _, s.ld0, ldI (i' := i) r1 rfl (by omega) ?_⟩
      rw [g1]
      refine condN (fun hb => ⟨s.ext, ?_⟩) (fun hb => ?_)
      · rw [List.any_eq_true.2 ⟨L[i], List.getElem_mem hil, decide_eq_true ⟨hk, hb⟩⟩]
      · rw [r50_Has_b2_eq]
        exact ⟨⟨by omega, by omega⟩, ⟨rfl, i + 1, by push_cast; rfl, by omega, go fun h => h.2 hb⟩, by dsimp only; omega⟩
    · rw [r50_Has_b2_eq]
      exact ⟨⟨by omega, by omega⟩, ⟨rfl, i + 1, by push_cast; rfl, by omega, go fun h => hk h.1⟩, by dsimp only; omega⟩
  · obtain rfl : i = n := by omega
    rw [List.take_of_length_le (by omega)] at hno
    rw [r50_Has_b3_eq]
    exact ⟨s.ext, by rw [hno]⟩
end
end Go.Proofs.YtfkccighnkepgaaGreat

/- The reference: by place, weights. -/
set_option maxRecDepth 100000
namespace Go.Proofs.YtfkccighnkepgaaGreat
open Go Go.Sx
section
variable {h : Hp} {p q : Option Addr} {n c m d : Nat} {nx : Int} {L : List LRow}
/-- A record of the reference is read. -/
theorem rec_rd {h : Hp} {q : Option Addr} {m i : Nat} {rows : List Rec} {Q : Int → Int → Int → Int → ByteArray → Addr → Prop} (r : RdT tRec h q m rows) (hi : i < m)
    (hq : ∀ a, cell h ((a.add (i * 5)).add 3) = some (.int .i64 (rows.getD i tRec.d).2.2.2.1) → Q (rows.getD i tRec.d).1 (rows.getD i tRec.d).2.1 (rows.getD i tRec.d).2.2.1 (rows.getD i tRec.d).2.2.2.1 (rows.getD i tRec.d).2.2.2.2 a) :
    (0 ≤ (i : Int) ∧ (i : Int) < (m : Int)) ∧ NN q fun a => ∃ n1 : Int, ∃ n2 : Int, ∃ n3 : Int, ∃ n4 : Int, ∃ s2 : ByteArray, cell h (a.add (Int.toNat (i : Int) * 5)) = some (.int .i64 n1) ∧ cell h ((a.add (Int.toNat (i : Int) * 5)).add 1) = some (.int .i64 n2) ∧ cell h ((a.add (Int.toNat (i : Int) * 5)).add 2) = some (.int .i64 n3) ∧ cell h ((a.add (Int.toNat (i : Int) * 5)).add 3) = some (.int .i64 n4) ∧ cell h ((a.add (Int.toNat (i : Int) * 5)).add 4) = some (.string s2) ∧ Q n1 n2 n3 n4 s2 a := by
  refine r.idx (i := (i : Int)) (by omega) (by omega) fun a _ hc => ?_
  have e : Int.toNat (i : Int) = i := Int.toNat_natCast i
  rw [e] at hc ⊢
  exact ⟨_, _, _, _, _, by simpa [add_add] using hc 0 (by decide), hc 1 (by decide), hc 2 (by decide), hc 3 (by decide), hc 4 (by decide), hq a (hc 3 (by decide))⟩
end
end Go.Proofs.YtfkccighnkepgaaGreat

/- The reference: parts of names. -/
set_option maxRecDepth 100000
namespace Go.Proofs.YtfkccighnkepgaaGreat
open Go Go.Sx
section
variable {h : Hp} {p q : Option Addr} {n c m d : Nat} {nx : Int} {L : List LRow} {part : ByteArray}
end
end Go.Proofs.YtfkccighnkepgaaGreat

/- The reference: Delete. -/
set_option maxRecDepth 100000
namespace Go.Proofs.YtfkccighnkepgaaGreat
open Go Go.Sx
theorem ok_recs : ElOk tRec Tryz.prog 27 := elB_spec (by kernel_rfl)
section
variable {h : Hp} {p q : Option Addr} {n c m d : Nat} {nx : Int} {L : List LRow}
theorem del_at (hd : (L.map Prod.fst).Nodup) {id : Int} {j : Nat} (hj : j < L.length) (he : (L.map Prod.fst).getD j 0 = id) : delL L id = L.take j ++ L.drop (j + 1) := by
  have e : L = L.take j ++ L[j] :: L.drop (j + 1) := by rw [← List.drop_eq_getElem_cons hj, List.take_append_drop]
  have hz : L[j].1 = id := by rw [← he, getD_get (by rw [List.length_map]; exact hj), List.getElem_map]
  generalize L[j] = z at e hz
  have hd' := hd
  rw [e, List.map_append, List.map_cons, List.nodup_append, List.nodup_cons] at hd'
  have h1 : (L.take j).filter (fun x => decide (x.1 ≠ id)) = L.take j := List.filter_eq_self.2 fun x hx => decide_eq_true fun hc => hd'.2.2 x.1 (List.mem_map.2 ⟨x, hx, rfl⟩) z.1 List.mem_cons_self (by rw [hc, hz])
  have h2 : (L.drop (j + 1)).filter (fun x => decide (x.1 ≠ id)) = L.drop (j + 1) := List.filter_eq_self.2 fun x hx => decide_eq_true fun hc => hd'.2.1.1 (List.mem_map.2 ⟨x, hx, by rw [hc, hz]⟩)
  unfold delL
  conv => lhs; rw [e]
  rw [List.filter_append, List.filter_cons, if_neg (by simp [hz]), h1, h2]
set_option maxHeartbeats 4000000 in
theorem Delete_r (r1 : RdT TI h p n (L.map Prod.fst)) (r2 : RdT tRec h q m (L.map Prod.snd)) (hc : n ≤ c) (hdm : m ≤ d) (hn : n ≤ 100000) (hd : (L.map Prod.fst).Nodup) (id : Int) :
    HCalls Tryz.prog 61 #[encT p n c q m d nx, .int .i64 id] h (fun v h' => (id ∉ L.map Prod.fst ∧ v = .tuple #[encT p n c q m d nx, .int .i64 12] ∧ Ext h h') ∨ (id ∈ L.map Prod.fst ∧ ∃ p' n' c' q' m' d' O1 O2, v = .tuple #[encT p' n' c' q' m' d' nx, .int .i64 0] ∧ Sl TI p' n' c' ((delL L id).map Prod.fst) O1 ∧ Sl tRec q' m' d' ((delL L id).map Prod.snd) O2 ∧ St h h' (O1 + O2))) := by
  have hl1 := r1.len
  have hl2 := r2.len
  have hl1' := hl1
  have hl2' := hl2
  rw [List.length_map] at hl1 hl2
  refine r50_Delete_call ?_
  rw [r50_Delete_b0_eq]
  refine (St.start h).new (cs := [_, _, _]) fun b1 h1 _ s => s.new (cs := [_, _, _]) fun b2 h2 _ s => ?_
  refine ⟨_, _, _, _, _, _, _, s.ld0, s.ldB, s.ldB, (Find_r (L := L) (r1.ext s.ext) hn id).mono fun v h3 ⟨x3, i, hv, hi⟩ => ⟨i, hv, ?_⟩⟩
  have s := s.grow x3
  rcases hi with ⟨hno, rfl⟩ | ⟨j, rfl, hj, hje⟩
  · refine condYes rfl ⟨_, _, _, _, _, _, _, s.ld0, s.ldB, s.ldB, ?_⟩
    exact s.wr3 fun h4 s => ⟨_, _, _, _, _, _, _, s.ld0, s.ldB, s.ldB, .inl ⟨hno, rfl, s.ext⟩⟩
  have hmem : id ∈ L.map Prod.fst := by rw [← hje, getD_get (by omega)]; exact List.getElem_mem _
  have hdel := del_at hd (by omega) hje
  have e1 : Int.toNat (j : Int) = j := Int.toNat_natCast j
  have e2 : Int.toNat (n : Int) = n := Int.toNat_natCast n
  have e2' : Int.toNat (m : Int) = m := Int.toNat_natCast m
  have e3 : Int.toNat ((j : Int) + 1) = j + 1 := by omega
  have e0 : Int.toNat (0 : Int) = 0 := rfl
  refine condNo (decide_eq_false (by omega)) ⟨_, _, _, s.ld0, ⟨by omega, by omega, by omega⟩, _, _, _, s.ld0, ⟨by omega, by omega⟩, ⟨by omega, by omega, by omega⟩, ?_⟩
  rw [e1, e2, e3, e0]
  refine s.new (cs := []) fun b3 h4 _ s => ⟨⟨⟨by omega, by omega, by omega⟩, rfl⟩, ⟨_, _, _, s.ld0, rfl⟩, ⟨⟨by omega, by omega, by omega⟩, rfl⟩, ⟨_, _, _, s.ld0, rfl⟩, ?_⟩
  have oe : Sl TI (some ⟨b3, 0, none⟩) 0 0 [] (cA b3 [] 3) := ⟨rfl, .inr ⟨b3, [], rfl, Nat.le_refl _, by simp, rfl⟩⟩
  have rl : RdT TI h4 (subAddr p c 0 1) (j - 0) ((L.map Prod.fst).take j) := by
    have := ((r1.ext s.ext).sub (c := c) (i := 0) (m := n) (by omega) hc rfl).take (i := j) (by omega)
    rw [List.drop_zero] at this
    exact this
  refine append_sl ok_int s oe rl (by omega) fun p' c' h5 A1 o1 s => ⟨⟨⟨by omega, by omega, by omega⟩, rfl⟩, ⟨_, _, _, s.ld0, rfl⟩, ?_⟩
  have rr : RdT TI h5 (subAddr p c (j + 1) 1) (n - (j + 1)) ((L.map Prod.fst).drop (j + 1)) := (r1.ext s.ext).sub (c := c) (by omega) hc rfl
  refine append_sl ok_int s o1 rr (by omega) fun p2 c2 h6 A2 o2 s => ?_
  rw [List.nil_append, ← List.map_take, ← List.map_drop, ← List.map_append, ← hdel] at o2
  refine s.wr0 fun h7 s => ⟨_, _, _, s.ldB, ⟨by omega, by omega, by omega⟩, _, _, _, s.ldB, ⟨by omega, by omega⟩, ⟨by omega, by omega, by omega⟩, ?_⟩
  rw [e2']
  refine s.new (cs := []) fun b4 h8 _ s => ⟨⟨⟨by omega, by omega, by omega⟩, rfl⟩, ⟨_, _, _, s.ldB, rfl⟩, ⟨⟨by omega, by omega, by omega⟩, rfl⟩, ⟨_, _, _, s.ldB, rfl⟩, ?_⟩
  have oe2 : Sl tRec (some ⟨b4, 0, none⟩) 0 0 [] (cA b4 [] 49) := ⟨rfl, .inr ⟨b4, [], rfl, Nat.le_refl _, by simp, rfl⟩⟩
  have rl2 : RdT tRec h8 (subAddr q d 0 5) (j - 0) ((L.map Prod.snd).take j) := by
    have := ((r2.ext s.ext).sub (c := d) (i := 0) (m := m) (by omega) hdm rfl).take (i := j) (by omega)
    rw [List.drop_zero] at this
    exact this
  refine append_sl ok_recs s oe2 rl2 (by omega) fun p3 c3 h9 A3 o3 s => ⟨⟨⟨by omega, by omega, by omega⟩, rfl⟩, ⟨_, _, _, s.ldB, rfl⟩, ?_⟩
  have rr2 : RdT tRec h9 (subAddr q d (j + 1) 5) (m - (j + 1)) ((L.map Prod.snd).drop (j + 1)) := (r2.ext s.ext).sub (c := d) (by omega) hdm rfl
  refine append_sl ok_recs s o3 rr2 (by omega) fun p4 c4 h10 A4 o4 s => ?_
  rw [List.nil_append, ← List.map_take, ← List.map_drop, ← List.map_append, ← hdel] at o4
  refine s.wrB fun h11 s => ⟨_, _, _, _, _, _, _, s.ld0, s.ldB, s.ldB, ?_⟩
  refine s.wr3 fun h12 s => ⟨_, _, _, _, _, _, _, s.ld0, s.ldB, s.ldB, .inr ⟨hmem, _, _, _, _, _, _, A2, A4, rfl, o2, o4, ?_⟩⟩
  have s := (s.find b1).drop
  exact (s.find b2).drop.to
end
end Go.Proofs.YtfkccighnkepgaaGreat

/- Equal lists of pairs. -/
set_option maxRecDepth 100000
namespace Go.Proofs.YtfkccighnkepgaaGreat
open Go Go.Sx
end Go.Proofs.YtfkccighnkepgaaGreat

/- Batches in plain lists. -/
set_option maxRecDepth 100000
namespace Go.Proofs.YtfkccighnkepgaaGreat
open Go Go.Sx
def keysL (L : List LRow) : List Int := L.map fun x => x.2.1
def delA (L : List LRow) (ds : List Int) : List LRow := L.filter fun x => decide (x.1 ∉ ds)
def numL : Int → List Rec → List LRow
  | _, [] => []
  | n, r :: l => (n, r) :: numL (n + 1) l
theorem numL_app (r : Rec) : ∀ (l : List Rec) (n : Int), numL n (l ++ [r]) = numL n l ++ [(n + (l.length : Nat), r)]
  | [], n => by simp [numL]
  | a :: l, n => by
    show (n, a) :: numL (n + 1) (l ++ [r]) = (n, a) :: (numL (n + 1) l ++ _)
    rw [numL_app r l (n + 1), List.length_cons]
    have : n + 1 + (l.length : Int) = n + ((l.length + 1 : Nat) : Int) := by push_cast; omega
    rw [this]
theorem numL_len : ∀ (l : List Rec) (n : Int), (numL n l).length = l.length
  | [], _ => rfl
  | _ :: l, n => by show (numL (n + 1) l).length + 1 = _; rw [numL_len l]; rfl
theorem numL_recs : ∀ (l : List Rec) (n : Int), (numL n l).map Prod.snd = l
  | [], _ => rfl
  | r :: l, n => by show r :: (numL (n + 1) l).map Prod.snd = _; rw [numL_recs l]
theorem numL_keys (l : List Rec) (n : Int) : keysL (numL n l) = l.map fun r => r.1 := by
  have := congrArg (List.map fun r : Rec => r.1) (numL_recs l n)
  rwa [List.map_map] at this
theorem keysL_app (L M : List LRow) : keysL (L ++ M) = keysL L ++ keysL M := List.map_append
theorem delA_nil (L : List LRow) : delA L [] = L := List.filter_eq_self.2 fun x _ => by simp
theorem delA_snoc (L : List LRow) (ds : List Int) (d : Int) : delA L (ds ++ [d]) = delL (delA L ds) d := by
  unfold delA delL
  rw [List.filter_filter]
  refine List.filter_congr fun x _ => ?_
  by_cases h1 : x.1 ∈ ds <;> by_cases h2 : x.1 = d <;> simp [h1, h2]
theorem delA_ids {L : List LRow} {ds : List Int} {id : Int} : id ∈ (delA L ds).map Prod.fst ↔ id ∈ L.map Prod.fst ∧ id ∉ ds := by
  unfold delA
  simp only [List.mem_map, List.mem_filter, decide_eq_true_eq]
  constructor
  · rintro ⟨x, ⟨hx, hn⟩, rfl⟩; exact ⟨⟨x, hx, rfl⟩, hn⟩
  · rintro ⟨⟨x, hx, rfl⟩, hn⟩; exact ⟨x, ⟨hx, hn⟩, rfl⟩
theorem delL_len {L : List LRow} {d : Int} (hd : (L.map Prod.fst).Nodup) (h : d ∈ L.map Prod.fst) : (delL L d).length + 1 = L.length := by
  obtain ⟨x, hx, rfl⟩ := List.mem_map.1 h
  have := (pullL hd hx).length_eq
  rw [List.length_cons] at this
  exact this.symm
theorem delA_len {L : List LRow} (hd : (L.map Prod.fst).Nodup) : ∀ (n : Nat) (ds : List Int), ds.length = n → ds.Nodup → (∀ d ∈ ds, d ∈ L.map Prod.fst) → (delA L ds).length + ds.length = L.length
  | 0, ds, hn, _, _ => by
    rw [List.length_eq_zero_iff] at hn; subst hn
    rw [delA_nil]; rfl
  | n + 1, ds, hn, hnd, hm => by
    have hne : ds ≠ [] := fun h => by rw [h] at hn; cases hn
    rw [← List.dropLast_concat_getLast hne] at hn hnd hm ⊢
    rw [List.length_append, List.length_singleton] at hn
    rw [List.nodup_append] at hnd
    have ih := delA_len hd n ds.dropLast (by omega) hnd.1 (fun d h => hm d (List.mem_append.2 (.inl h)))
    rw [delA_snoc, List.length_append, List.length_singleton]
    have := delL_len (L := delA L ds.dropLast) (d := ds.getLast hne) (hd.sublist (List.Sublist.map _ List.filter_sublist)) (delA_ids.2 ⟨hm _ (List.mem_append.2 (.inr (List.mem_singleton.2 rfl))), fun hc => hnd.2.2 _ hc _ (List.mem_singleton.2 rfl) rfl⟩)
    omega
def BE (L : List LRow) (ds : List Int) (ins : List Rec) (e : Int) : Prop :=
  (e = 1 ∧ ∃ r ∈ ins, vRec r = false) ∨
  ((∀ r ∈ ins, vRec r = true) ∧ ((e = 10 ∧ ¬ ds.Nodup) ∨ (ds.Nodup ∧ ((e = 12 ∧ ∃ d ∈ ds, d ∉ L.map Prod.fst) ∨ ((∀ d ∈ ds, d ∈ L.map Prod.fst) ∧
   ((e = 15 ∧ ¬ (keysL (delA L ds) ++ ins.map fun r => r.1).Nodup) ∨ ((keysL (delA L ds) ++ ins.map fun r => r.1).Nodup ∧ ((e = 4 ∧ 1000 < (delA L ds).length + ins.length) ∨ (e = 0 ∧ (delA L ds).length + ins.length ≤ 1000)))))))))
section
variable {L : List LRow} {ds : List Int} {ins : List Rec} {e e' : Int}
theorem vnot {ins : List Rec} (h1 : ∃ r ∈ ins, vRec r = false) (h2 : ∀ r ∈ ins, vRec r = true) : False := by obtain ⟨r, hr, hv⟩ := h1; rw [h2 r hr] at hv; cases hv
theorem BE.uniq (a : BE L ds ins e) (b : BE L ds ins e') : e = e' := by
  rcases a with ⟨rfl, a⟩ | ⟨a1, a⟩
  · rcases b with ⟨rfl, b⟩ | ⟨b1, b⟩
    · rfl
    · exact (vnot a b1).elim
  rcases b with ⟨rfl, b⟩ | ⟨b1, b⟩
  · exact (vnot b a1).elim
  rcases a with ⟨rfl, a⟩ | ⟨a2, a⟩
  · rcases b with ⟨rfl, b⟩ | ⟨b2, b⟩
    · rfl
    · exact absurd b2 a
  rcases b with ⟨rfl, b⟩ | ⟨b2, b⟩
  · exact absurd a2 b
  rcases a with ⟨rfl, a⟩ | ⟨a3, a⟩
  · rcases b with ⟨rfl, b⟩ | ⟨b3, b⟩
    · rfl
    · obtain ⟨d, hd, hn⟩ := a; exact absurd (b3 d hd) hn
  rcases b with ⟨rfl, b⟩ | ⟨b3, b⟩
  · obtain ⟨d, hd, hn⟩ := b; exact absurd (a3 d hd) hn
  rcases a with ⟨rfl, a⟩ | ⟨a4, a⟩
  · rcases b with ⟨rfl, b⟩ | ⟨b4, b⟩
    · rfl
    · exact absurd b4 a
  rcases b with ⟨rfl, b⟩ | ⟨b4, b⟩
  · exact absurd a4 b
  rcases a with ⟨rfl, a⟩ | ⟨rfl, a⟩ <;> rcases b with ⟨rfl, b⟩ | ⟨rfl, b⟩ <;> first | rfl | omega
theorem BE.arg (h : ∃ r ∈ ins, vRec r = false) : BE L ds ins 1 := .inl ⟨rfl, h⟩
theorem BE.twice (h1 : ∀ r ∈ ins, vRec r = true) (h : ¬ ds.Nodup) : BE L ds ins 10 := .inr ⟨h1, .inl ⟨rfl, h⟩⟩
theorem BE.non (h1 : ∀ r ∈ ins, vRec r = true) (h2 : ds.Nodup) (h : ∃ d ∈ ds, d ∉ L.map Prod.fst) : BE L ds ins 12 := .inr ⟨h1, .inr ⟨h2, .inl ⟨rfl, h⟩⟩⟩
theorem BE.exi (h1 : ∀ r ∈ ins, vRec r = true) (h2 : ds.Nodup) (h3 : ∀ d ∈ ds, d ∈ L.map Prod.fst) (h : ¬ (keysL (delA L ds) ++ ins.map fun r => r.1).Nodup) : BE L ds ins 15 := .inr ⟨h1, .inr ⟨h2, .inr ⟨h3, .inl ⟨rfl, h⟩⟩⟩⟩
theorem BE.ful (h1 : ∀ r ∈ ins, vRec r = true) (h2 : ds.Nodup) (h3 : ∀ d ∈ ds, d ∈ L.map Prod.fst) (h4 : (keysL (delA L ds) ++ ins.map fun r => r.1).Nodup) (h : 1000 < (delA L ds).length + ins.length) : BE L ds ins 4 := .inr ⟨h1, .inr ⟨h2, .inr ⟨h3, .inr ⟨h4, .inl ⟨rfl, h⟩⟩⟩⟩⟩
theorem BE.okk (h1 : ∀ r ∈ ins, vRec r = true) (h2 : ds.Nodup) (h3 : ∀ d ∈ ds, d ∈ L.map Prod.fst) (h4 : (keysL (delA L ds) ++ ins.map fun r => r.1).Nodup) (h : (delA L ds).length + ins.length ≤ 1000) : BE L ds ins 0 := .inr ⟨h1, .inr ⟨h2, .inr ⟨h3, .inr ⟨h4, .inr ⟨rfl, h⟩⟩⟩⟩⟩
theorem BE.okd (a : BE L ds ins 0) : (∀ r ∈ ins, vRec r = true) ∧ ds.Nodup ∧ (∀ d ∈ ds, d ∈ L.map Prod.fst) ∧ (keysL (delA L ds) ++ ins.map fun r => r.1).Nodup ∧ (delA L ds).length + ins.length ≤ 1000 := by
  rcases a with ⟨h, _⟩ | ⟨a1, a⟩
  · cases h
  rcases a with ⟨h, _⟩ | ⟨a2, a⟩
  · cases h
  rcases a with ⟨h, _⟩ | ⟨a3, a⟩
  · cases h
  rcases a with ⟨h, _⟩ | ⟨a4, a⟩
  · cases h
  rcases a with ⟨h, _⟩ | ⟨_, a⟩
  · cases h
  exact ⟨a1, a2, a3, a4, a⟩
/-- The table after a batch. -/
def batL (L : List LRow) (next : Int) (ds : List Int) (ins : List Rec) : List LRow := delA L ds ++ numL next ins
theorem keys_take {i : Nat} (h : (keysL (delA L ds) ++ ins.map fun r => r.1).Nodup) (hi : i < ins.length) (next : Int) : (ins.getD i tRec.d).1 ∉ keysL (delA L ds ++ numL next (ins.take i)) := by
  rw [keysL_app, numL_keys]
  have e : ins.getD i tRec.d = ins[i] := getD_get hi
  rw [e]
  have hs : ins = ins.take i ++ ins[i] :: ins.drop (i + 1) := by rw [← List.drop_eq_getElem_cons hi, List.take_append_drop]
  generalize ins[i] = r at hs
  rw [hs, List.map_append, List.map_cons, List.nodup_append] at h
  intro hc
  rcases List.mem_append.1 hc with hc | hc
  · exact h.2.2 _ hc r.1 (by simp) rfl
  · have h2 := h.2.1
    rw [List.nodup_append] at h2
    exact h2.2.2 _ hc r.1 (by simp) rfl
theorem keys_bad {i : Nat} (hi : i < ins.length) (h : (ins.getD i tRec.d).1 ∈ keysL (delA L ds) ∨ (ins.getD i tRec.d).1 ∈ (ins.take i).map fun r => r.1) : ¬ (keysL (delA L ds) ++ ins.map fun r => r.1).Nodup := by
  intro hn
  have := keys_take hn hi 0
  rw [keysL_app, numL_keys, List.mem_append] at this
  exact this h
theorem keys_good (hL : (keysL L).Nodup) (h : ∀ i, i < ins.length → (ins.getD i tRec.d).1 ∉ keysL (delA L ds) ∧ (ins.getD i tRec.d).1 ∉ (ins.take i).map fun r => r.1) : (keysL (delA L ds) ++ ins.map fun r => r.1).Nodup := by
  have h0 : (keysL (delA L ds)).Nodup := hL.sublist (List.Sublist.map _ List.filter_sublist)
  rw [List.nodup_append]
  refine ⟨h0, ?_, ?_⟩
  · rw [List.nodup_iff_pairwise_ne, List.pairwise_iff_getElem]
    intro i j hi hj hij
    rw [List.length_map] at hi hj
    rw [List.getElem_map, List.getElem_map]
    intro hc
    have := (h j hj).2
    rw [getD_get hj, ← hc] at this
    exact this (List.mem_map.2 ⟨ins[i], List.mem_take_iff_getElem.2 ⟨i, by omega, rfl⟩, rfl⟩)
  · intro a ha b hb hab
    subst hab
    obtain ⟨r, hr, rfl⟩ := List.mem_map.1 hb
    obtain ⟨i, hi, rfl⟩ := List.getElem_of_mem hr
    have := (h i hi).1
    rw [getD_get hi] at this
    exact this ha
end
end Go.Proofs.YtfkccighnkepgaaGreat

/- Parts of a batch: records that are not valid; one record less, one more. -/
set_option maxRecDepth 100000
namespace Go.Proofs.YtfkccighnkepgaaGreat
open Go Go.Sx
theorem any_succ {α : Type} {d : α} {f : α → Bool} {l : List α} {i : Nat} (hi : i < l.length) (h : (l.take i).any f = false) (hf : f (l.getD i d) = false) : (l.take (i + 1)).any f = false := by
  rw [List.take_succ_eq_append_getElem hi, List.any_append, h, List.any_cons]
  rw [getD_get hi] at hf
  rw [hf]; rfl
theorem any_get {α : Type} {d : α} {f : α → Bool} {l : List α} {i : Nat} (hi : i < l.length) (hf : f (l.getD i d) = true) : l.any f = true := by
  rw [getD_get hi] at hf
  exact List.any_eq_true.2 ⟨_, List.getElem_mem hi, hf⟩
theorem ContRec_ok {h : Hp} {p : Option Addr} {n c : Nat} {rows : List Rec} {g : Nat} {pf : Rec → Bool} (r : RdT tRec h p n rows) (hn : n ≤ 1000000000) (hg : F g = true) (hf : ∀ (r : Rec) (h : Hp), HCalls Tryz.prog g #[encR r] h (fun v h' => Ext h h' ∧ v = .bool (pf r))) :
    HCalls Tryz.prog 32 #[.slice p n c, .func (.func g) #[] #[]] h (fun v h' => Ext h h' ∧ v = .bool (rows.any pf)) := by
  have hl := r.len
  refine slices_ContainsFunc_Sapi_Record_api_Record_call ?_
  rw [slices_ContainsFunc_Sapi_Record_api_Record_b0_eq]
  refine HCalls.mono (K := fun v h' => Ext h h' ∧ ∃ x : Int, v = .int .i64 x ∧ ((x = -1 ∧ rows.any pf = false) ∨ (0 ≤ x ∧ rows.any pf = true))) ?_ fun v h1 ⟨x1, x, hv, hx⟩ => ⟨x, hv, x1, ?_⟩
  · refine slices_IndexFunc_Sapi_Record_api_Record_call ?_
    rw [slices_IndexFunc_Sapi_Record_api_Record_b0_eq]
    refine ⟨fun x h' => Ext h h' ∧ ∃ i : Nat, x.1 = i ∧ i ≤ n ∧ (rows.take i).any pf = false, fun x _ => (n - x.1).toNat, ⟨Ext.refl h, 0, rfl, Nat.zero_le _, rfl⟩, ?_⟩
    rintro ⟨_, _⟩ h1 ⟨x1, i, rfl, hi, hno⟩
    dsimp only
    rw [slices_IndexFunc_Sapi_Record_api_Record_b1_eq]
    refine condP (fun hlt => ?_) (fun hge => ?_)
    · refine rec_rd (r.ext x1) (by omega) fun a _ => ?_
      refine funX_of hg ((hf (rows.getD i tRec.d) h1).mono fun v h2 ⟨x2, hv⟩ => ⟨_, hv, cond_intro (fun hb => ?_) (fun hb => ?_)⟩)
      · exact ⟨x1.trans x2, _, rfl, .inr ⟨by omega, any_get (by omega) hb⟩⟩
      · rw [slices_IndexFunc_Sapi_Record_api_Record_b2_eq]
        exact ⟨⟨by omega, by omega⟩, ⟨x1.trans x2, i + 1, by push_cast; rfl, by omega, any_succ (by omega) hno hb⟩, by dsimp only; omega⟩
    · obtain rfl : i = n := by omega
      rw [List.take_of_length_le (by omega)] at hno
      rw [slices_IndexFunc_Sapi_Record_api_Record_b3_eq]
      exact ⟨x1, _, rfl, .inl ⟨rfl, hno⟩⟩
  · rcases hx with ⟨rfl, hb⟩ | ⟨h0, hb⟩
    · rw [hb]; rfl
    · rw [hb, decide_eq_true h0]
theorem bad_c1 (r : Rec) (h : Hp) : HCalls Tryz.prog 55 #[encR r] h (fun v h' => Ext h h' ∧ v = .bool (!vRec r)) := by
  refine table_Table_Batch_c1_call ?_
  rw [table_Table_Batch_c1_b0_eq]
  refine (St.start h).new (cs := [_, _, _, _, _]) fun b h1 _ s => ⟨_, _, _, _, _, s.ld0, s.ldB, s.ldB, s.ldB, s.ldB, ?_⟩
  exact (Valid_ok r h1).mono fun v1 h2 ⟨x2, hv1⟩ => ⟨_, hv1, s.ext.trans x2, rfl⟩
section
variable {h0 h : Hp} {tb : Nat} {L : List LRow} {next : Int} {A G : Bag}
theorem TabS.nx (a : TabS tb L next A) (s : St h0 h (A + G)) : cell h ((⟨tb, 0, none⟩ : Addr).add 2) = some (.int .i64 next) := by
  obtain ⟨rs, ks, bk, bp, ad, gs, a, v, hp, o⟩ := a
  obtain ⟨mr, mk, mg, k, p, c, A1, A2, A3, A4, A5, A6, a1, a2, a3, a4, a5, a6, s⟩ := a.out s
  exact s.ldB
theorem drop_s (a : TabS tb L next A) (s : St h0 h (A + G)) {id : Int} (hm : id ∈ L.map Prod.fst) :
    HCalls Tryz.prog 52 #[ptr tb, .int .i64 id] h (fun v h' => v = .tuple #[] ∧ ∃ A', TabS tb (delL L id) next A' ∧ St h0 h' (A' + G)) := by
  obtain ⟨rs, ks, bk, bp, ad, gs, a, v, hp, o⟩ := a
  have hrl := rs_len hp
  have hal := v.len
  have hol := o.len
  obtain ⟨e, he, rfl⟩ := id_row ((ids_of hp).mem_iff.2 hm)
  exact (drop_ok a s he v.idn (by omega) v.adn).mono fun v1 h1 ⟨hv1, A', a', s1⟩ => ⟨hv1, A', ⟨_, _, _, _, _, _, a', v.drop he, del_perm hp e.1, del_ok o e.1⟩, s1⟩
theorem build_s (a : TabS tb L next A) (s : St h0 h (A + G)) :
    HCalls Tryz.prog 54 #[ptr tb] h (fun v h' => v = .tuple #[] ∧ ∃ A', TabS tb L next A' ∧ St h0 h' (A' + G)) := by
  obtain ⟨rs, ks, bk, bp, ad, gs, a, v, hp, o⟩ := a
  have hrl := rs_len hp
  have hol := o.len
  exact (build_ok a v s (by omega)).mono fun v6 h5 ⟨hv6, bk', bp', ad', gs', A3', a3', v3, s3⟩ => ⟨hv6, A3', ⟨_, _, _, _, _, _, a3', v3, hp, o⟩, s3⟩
/-- A record is put in; then the next identifier is to be set. -/
theorem put_s (a : TabS tb L next A) (s : St h0 h (A + G)) {r : Rec} (hr : vRec r = true) (hk : r.1 ∉ keysL L) (hl : L.length < 1000) :
    HCalls Tryz.prog 53 #[ptr tb, .int .i64 next, encR r] h (fun v h' => v = .tuple #[] ∧ cell h' ((⟨tb, 0, none⟩ : Addr).add 2) = some (.int .i64 next) ∧ ∀ K : Hp → Prop, (∀ h'' A', TabS tb (L ++ [(next, r)]) (next + 1) A' → St h0 h'' (A' + G) → K h'') → Wr h' ((⟨tb, 0, none⟩ : Addr).add 2) (.int .i64 (next + 1)) K) := by
  obtain ⟨rs, ks, bk, bp, ad, gs, a, v, hp, o⟩ := a
  have hrl := rs_len hp
  have hal := v.len
  have hid : next ∉ rs.map Prod.fst := fun hc => by
    obtain ⟨x, hx, rfl⟩ := List.mem_map.1 ((ids_of hp).mem_iff.1 hc)
    have := (o.lt x hx).2
    omega
  have hkr : r.1 ∉ rs.map rKey := fun hc => hk ((keys_of hp).mem_iff.1 hc)
  refine (put_ok a s next r hid (fun hc => hkr (by have := (v.kp.map Prod.fst).mem_iff.1 hc; rwa [List.map_map] at this)) (by omega)).mono fun v5 h4 ⟨hv5, b', A2', a2', s2⟩ => ⟨hv5, ?_⟩
  obtain ⟨mr, mk, mg, k, p, c, A1, A2, A3, A4, A5, A6, a1, a2, a3, a4, a5, a6, s'⟩ := a2'.out s2
  refine ⟨s'.ldB, fun K hK => s'.wrB fun h3 s' => ?_⟩
  have s' : St h0 h3 (cA tb [.map (some mr), .map (some mk), .int .i64 (next + 1), .slice k.1 k.2.1 k.2.2, .slice p.1 p.2.1 p.2.2, .slice c.1 c.2.1 c.2.2, .map (some mg)] 84 + _) := s'
  have s' := s'.to (B := cA tb [.map (some mr), .map (some mk), .int .i64 (next + 1), .slice k.1 k.2.1 k.2.2, .slice p.1 p.2.1 p.2.2, .slice c.1 c.2.1 c.2.2, .map (some mg)] 84 + (A1 + (A2 + (A3 + (A4 + (A5 + (A6 + (recB (rs ++ [(next, b', r)]) + G))))))))
  obtain ⟨A', a', s'⟩ := TabA.into (k := k) (p := p) (a := c) (next := next + 1) (F := G) a1 a2 a3 a4 a5 a6 s'
  refine hK _ A' ⟨_, _, _, _, _, _, a', v.put hid hkr, ?_, ins_ok o hr hl⟩ s'
  rw [List.map_append]
  exact hp.append_right _
end
end Go.Proofs.YtfkccighnkepgaaGreat

/- Table: Batch. -/
set_option maxRecDepth 100000
namespace Go.Proofs.YtfkccighnkepgaaGreat
open Go Go.Sx
section
variable {h0 h : Hp} {tb : Nat} {L : List LRow} {next : Int} {A G : Bag}
theorem TabS.rowsLook (a : TabS tb L next A) (s : St h0 h (A + G)) : ∃ vm, cell h ⟨tb, 0, none⟩ = some vm ∧ (∀ (id : Int) (K : Value → Prop), (id ∈ L.map Prod.fst → ∀ b, K (ptr b)) → (id ∉ L.map Prod.fst → K (.pointer none)) → lookV Tryz.prog 78 vm (.int .i64 id) false h K) ∧ ∀ k : Int → Prop, k (L.length : Nat) → mapLenV vm h k := by
  obtain ⟨rs, ks, bk, bp, ad, gs, a, v, hp, o⟩ := a
  have hrl := rs_len hp
  obtain ⟨mr, mk, mg, k, p, c, A1, A2, A3, A4, A5, A6, a1, a2, a3, a4, a5, a6, s'⟩ := a.out s
  refine ⟨_, s'.ld0, fun id K hy hn => ?_, fun k hk => a1.len (s'.at A1) (by rw [List.length_map, hrl]; exact hk)⟩
  by_cases hm : id ∈ rs.map Prod.fst
  · have hmL := (ids_of hp).mem_iff.1 hm
    obtain ⟨e, he, rfl⟩ := id_row hm
    exact look_row a1 (s'.at A1) v.idn he (hy hmL _)
  · exact look_no a1 (s'.at A1) hm (hn fun hc => hm ((ids_of hp).mem_iff.2 hc))
theorem keyDel (hd : (keysL L).Nodup) {ds : List Int} {x : LRow} (hx : x ∈ L) : x.2.1 ∈ keysL (delA L ds) ↔ x.1 ∉ ds := by
  constructor
  · intro h
    obtain ⟨y, hy, he⟩ := List.mem_map.1 h
    have hy' := List.mem_filter.1 hy
    have : y = x := nodup_inj hd hy'.1 hx he
    rw [← this]
    exact of_decide_eq_true hy'.2
  · intro h
    exact List.mem_map.2 ⟨x, List.mem_filter.2 ⟨hx, decide_eq_true h⟩, rfl⟩
/-- What a batch answers. -/
def BatQ (h0 : Hp) (tb : Nat) (L : List LRow) (next : Int) (ds : List Int) (ins : List Rec) (A G : Bag) (v : Value) (h' : Hp) : Prop :=
  (∃ e, BE L ds ins e ∧ e ≠ 0 ∧ v = .tuple #[.slice none 0 0, .int .i64 e] ∧ St h0 h' (A + G)) ∨
  (BE L ds ins 0 ∧ ∃ q m d B A', v = .tuple #[.slice q m d, .int .i64 0] ∧ Sl TI q m d ((numL next ins).map Prod.fst) B ∧ TabS tb (batL L next ds ins) (next + (ins.length : Nat)) A' ∧ St h0 h' (B + (A' + G)))
variable {ds : List Int} {ins : List Rec} {dp ip : Option Addr} {dn dc im ic : Nat}
theorem batch14 {L1 : List LRow} {L0 : List LRow} {A0 : Bag} (hL1 : L1 = delA L0 ds) (a : TabS tb L1 next A) (s : St h0 h (A + G)) (r2 : RdT tRec h0 ip im ins) (hb : BE L0 ds ins 0) (hnx : next ≤ 1000000) :
    table_Table_Batch_b14 (some ⟨tb, 0, none⟩) ip im ic h (BatQ h0 tb L0 next ds ins A0 G) := by
  subst hL1
  obtain ⟨h1, h2, h3, h4, h5⟩ := hb.okd
  have hl2 := r2.len
  have hn0 := a.ok.n0
  rw [table_Table_Batch_b14_eq]
  refine ⟨fun x h' => ∃ (i : Nat) (O A' : Bag), x.2.1 = i ∧ i ≤ im ∧ Sl TI x.1.1 x.1.2.1 x.1.2.2 ((numL next (ins.take i)).map Prod.fst) O ∧ TabS tb (delA L0 ds ++ numL next (ins.take i)) (next + (i : Nat)) A' ∧ St h0 h' (O + (A' + G)), fun x _ => (im - x.2.1).toNat, ⟨0, 0, A, rfl, Nat.zero_le _, Sl.nil, ?_, by rw [Bag.zero_add]; exact s⟩, ?_⟩
  · rw [List.take_zero]
    show TabS tb (delA L0 ds ++ []) _ A
    rw [List.append_nil, show next + ((0 : Nat) : Int) = next by omega]
    exact a
  clear a s
  rintro ⟨⟨oq, om, od⟩, z, _⟩ h2 ⟨i, O, A', hz, hi, oo, a, s⟩
  dsimp only at hz oo ⊢
  subst hz
  rw [table_Table_Batch_b15_eq]
  have hom := oo.len
  rw [List.length_map, numL_len, List.length_take] at hom
  refine condP (fun hlt => ?_) (fun hge => ?_)
  · have hil : i < ins.length := by omega
    have htk : ins.take (i + 1) = ins.take i ++ [ins.getD i tRec.d] := by rw [getD_get hil, List.take_succ_eq_append_getElem hil]
    refine rec_rd (r2.ext s.ext) (by omega) fun ad _ => ?_
    have hk := keys_take h4 hil next
    have hv : vRec (ins.getD i tRec.d) = true := by rw [getD_get hil]; exact h1 _ (List.getElem_mem hil)
    generalize ins.getD i tRec.d = r at htk hk hv
    have hlen : (ins.take i).length = i := by rw [List.length_take]; omega
    refine s.new (cs := [_, _, _, _, _]) fun b4 h3 _ s => wr5 s fun h4 s => ?_
    refine ⟨_, a.nx (s.at A'), ?_⟩
    refine push_sl (cs := [.int .i64 (next + (i : Nat))]) ok_int (s.at O) oo (x := next + (i : Nat)) rfl rfl (by omega) fun p' c' h5 O2 o2 s => ?_
    refine ⟨_, a.nx (s.at A'), _, _, _, _, _, s.ld0, s.ldB, s.ldB, s.ldB, s.ldB, ?_⟩
    refine (put_s a (s.at A') hv hk (by rw [List.length_append, numL_len, hlen]; omega)).mono fun v h6 ⟨hv6, hcell, hput⟩ => ⟨hv6, _, hcell, ⟨by omega, by omega⟩, hput _ fun h7 A2 a2 s => ?_⟩
    rw [table_Table_Batch_b16_eq]
    refine ⟨⟨by omega, by omega⟩, ⟨i + 1, O2, A2, by push_cast; rfl, by omega, ?_, ?_, ?_⟩, by dsimp only; omega⟩
    · rw [htk, numL_app, List.map_append, hlen]
      exact o2
    · rw [htk, numL_app, ← List.append_assoc, hlen]
      rw [show next + ((i + 1 : Nat) : Int) = next + (i : Nat) + 1 by push_cast; omega]
      exact a2
    · exact ((s.find b4).drop).to
  · obtain rfl : i = im := by omega
    rw [List.take_of_length_le (by omega)] at oo a
    rw [table_Table_Batch_b17_eq]
    refine (build_s a (s.at A')).mono fun v h3 ⟨hv3, A3, a3, s⟩ => ⟨hv3, .inr ⟨hb, oq, om, od, O, A3, rfl, oo, ?_, s.to⟩⟩
    rw [hl2]
    exact a3
theorem batch10 (a : TabS tb L next A) (s : St h0 h (A + G)) (r1 : RdT TI h0 dp dn ds) (r2 : RdT tRec h0 ip im ins) (hnx : next ≤ 1000000) (hdn : dn ≤ 1000000) (him : im ≤ 1000000) (h1 : ∀ r ∈ ins, vRec r = true) (h2 : ds.Nodup) (h3 : ∀ d ∈ ds, d ∈ L.map Prod.fst) (h4 : (keysL (delA L ds) ++ ins.map fun r => r.1).Nodup) :
    table_Table_Batch_b10 (some ⟨tb, 0, none⟩) dp dn dc ip im ic h (BatQ h0 tb L next ds ins A G) := by
  have hl1 := r1.len
  have hl2 := r2.len
  have hol := a.ok.len
  have hdl := delA_len a.ok.ids dn ds hl1 h2 h3
  rw [table_Table_Batch_b10_eq]
  obtain ⟨vm, hvm, _, hlen⟩ := a.rowsLook s
  refine ⟨vm, hvm, hlen _ ⟨⟨by omega, by omega⟩, ⟨by omega, by omega⟩, condP (fun hf => ?_) (fun hf => ?_)⟩⟩
  · exact .inl ⟨4, BE.ful h1 h2 h3 h4 (by omega), by decide, rfl, s⟩
  have hb : BE L ds ins 0 := BE.okk h1 h2 h3 h4 (by omega)
  refine ⟨fun x h' => ∃ (i : Nat) (A' : Bag), x.1 = i ∧ i ≤ dn ∧ TabS tb (delA L (ds.take i)) next A' ∧ St h0 h' (A' + G), fun x _ => (dn - x.1).toNat, ⟨0, A, rfl, Nat.zero_le _, by rw [List.take_zero, delA_nil]; exact a, s⟩, ?_⟩
  clear a s
  rintro ⟨z, _⟩ hh ⟨i, A', hz, hi, a, s⟩
  dsimp only at hz ⊢
  subst hz
  rw [table_Table_Batch_b12_eq]
  refine condP (fun hlt => ?_) (fun hge => ?_)
  · have hil : i < ds.length := by omega
    have htk : ds.take (i + 1) = ds.take i ++ [ds.getD i 0] := by rw [getD_get hil, List.take_succ_eq_append_getElem hil]
    refine ldI (i' := i) (r1.ext s.ext) rfl (by omega) ?_
    have hm : ds.getD i 0 ∈ (delA L (ds.take i)).map Prod.fst := delA_ids.2 ⟨h3 _ (by rw [getD_get hil]; exact List.getElem_mem hil), fun hc => by
      have h2' : (ds.take (i + 1)).Nodup := h2.sublist (List.take_sublist _ _)
      rw [htk, List.nodup_append] at h2'
      exact h2'.2.2 _ hc _ (List.mem_singleton.2 rfl) rfl⟩
    refine (drop_s a s hm).mono fun v h4 ⟨hv4, A2, a2, s⟩ => ⟨hv4, ?_⟩
    rw [table_Table_Batch_b13_eq]
    refine ⟨⟨by omega, by omega⟩, ⟨i + 1, A2, by push_cast; rfl, by omega, ?_, s⟩, by dsimp only; omega⟩
    rw [htk, delA_snoc]
    exact a2
  · obtain rfl : i = dn := by omega
    rw [List.take_of_length_le (by omega)] at a
    exact batch14 rfl a s r2 hb hnx
theorem batch7 {mg : Nat} {gs : List (Int × Bool)} {A3 : Bag} (a : TabS tb L next A) (a3 : MapA MG mg gs A3) (hgs : ∀ x, goneB gs x = decide (x ∈ ds)) (s : St h0 h (A3 + (A + G))) (r1 : RdT TI h0 dp dn ds) (r2 : RdT tRec h0 ip im ins) (hnx : next ≤ 1000000) (hdn : dn ≤ 1000000) (him : im ≤ 1000000) (h1 : ∀ r ∈ ins, vRec r = true) (h2 : ds.Nodup) (h3 : ∀ d ∈ ds, d ∈ L.map Prod.fst) :
    table_Table_Batch_b7 (some ⟨tb, 0, none⟩) dp dn dc ip im ic (.map (some mg)) h (BatQ h0 tb L next ds ins A G) := by
  have hl2 := r2.len
  have hkn : (keysL L).Nodup := a.keys
  rw [table_Table_Batch_b7_eq]
  refine s.newMap MG fun mk hh A4 _ a4 s => ?_
  refine ⟨fun x h' => ∃ (i : Nat) (kk : List (Int × Bool)) (A4 : Bag), x.1 = i ∧ i ≤ im ∧ MapA MG mk kk A4 ∧ (∀ x, goneB kk x = decide (x ∈ (ins.take i).map fun r => r.1)) ∧ (∀ j, j < i → (ins.getD j tRec.d).1 ∉ keysL (delA L ds) ∧ (ins.getD j tRec.d).1 ∉ (ins.take j).map fun r => r.1) ∧ St h0 h' (A4 + (A3 + (A + G))), fun x _ => (im - x.1).toNat, ⟨0, [], A4, rfl, Nat.zero_le _, a4, fun x => by simp [goneB, lkp], fun j hj => absurd hj (Nat.not_lt_zero _), s⟩, ?_⟩
  clear a4 s A4
  rintro ⟨z, _⟩ h5 ⟨i, kk, A4, hz, hi, a4, hkk, hok, s⟩
  dsimp only at hz ⊢
  subst hz
  rw [table_Table_Batch_b8_eq]
  refine condP (fun hlt => ?_) (fun hge => ?_)
  · have hil : i < ins.length := by omega
    have htk : ins.take (i + 1) = ins.take i ++ [ins.getD i tRec.d] := by rw [getD_get hil, List.take_succ_eq_append_getElem hil]
    have hbad := fun hc => BE.exi h1 h2 h3 (keys_bad (L := L) (ds := ds) (ins := ins) hil hc)
    have hgo : (ins.getD i tRec.d).1 ∉ keysL (delA L ds) → (ins.getD i tRec.d).1 ∉ (ins.take i).map (fun r => r.1) → ∀ j, j < i + 1 → (ins.getD j tRec.d).1 ∉ keysL (delA L ds) ∧ (ins.getD j tRec.d).1 ∉ (ins.take j).map fun r => r.1 := fun q1 q2 j hj => by
      rcases Nat.lt_or_ge j i with h | h
      · exact hok j h
      · obtain rfl : j = i := by omega
        exact ⟨q1, q2⟩
    refine rec_rd (r2.ext s.ext) (by omega) fun ad _ => ?_
    generalize ins.getD i tRec.d = r at htk hbad hgo
    refine s.new (cs := [_, _, _, _, _]) fun b h6 _ s => wr5 s fun h7 s => ?_
    have sd : St h0 h7 (A + G) := ((s.to (B := cA b (recC r) 49 + (A4 + (A3 + (A + G))))).drop.drop).drop
    obtain ⟨mt, hmt, hlook⟩ := a.look h7 _ (s.at A)
    have e9 : r.1 ∉ keysL (delA L ds) → r.1 ∉ (ins.take i).map (fun r => r.1) → table_Table_Batch_b9 (some ⟨tb, 0, none⟩) dp dn dc ip im ic (.map (some mg)) (.map (some mk)) (some ⟨b, 0, none⟩) ip im ic (im : Int) (i : Int) h7 (fun s' h' => (∃ (i : Nat) (kk : List (Int × Bool)) (A4 : Bag), s'.1 = i ∧ i ≤ im ∧ MapA MG mk kk A4 ∧ (∀ x, goneB kk x = decide (x ∈ (ins.take i).map fun r => r.1)) ∧ (∀ j, j < i → (ins.getD j tRec.d).1 ∉ keysL (delA L ds) ∧ (ins.getD j tRec.d).1 ∉ (ins.take j).map fun r => r.1) ∧ St h0 h' (A4 + (A3 + (A + G)))) ∧ (im - s'.1).toNat < (im - (i : Int)).toNat) (BatQ h0 tb L next ds ins A G) := fun q1 q2 => by
      rw [table_Table_Batch_b9_eq]
      refine ⟨_, s.ld0, a4.set mapOk_g (s.at A4) rfl fun h8 A5 a5 s => ?_⟩
      rw [table_Table_Batch_b11_eq]
      refine ⟨⟨by omega, by omega⟩, ⟨i + 1, _, A5, by push_cast; rfl, by omega, a5, fun x => ?_, hgo q1 q2, ?_⟩, by dsimp only; omega⟩
      · rw [gone_set, hkk x, htk, List.map_append, ← Bool.decide_or]
        refine decide_eq_decide.2 ?_
        rw [List.mem_append]
        show _ ↔ _ ∨ x ∈ [r.1]
        rw [List.mem_singleton, or_comm]
      · exact ((s.to (B := cA b (recC r) 49 + (A5 + (A3 + (A + G))))).drop)
    have e8 : r.1 ∉ keysL (delA L ds) → (∃ n9 : Int, cell h7 ⟨b, 0, none⟩ = some (.int .i64 n9) ∧ lookV Tryz.prog 80 (.map (some mk)) (.int .i64 n9) false h7 fun v9 => ∃ r8 : Bool, v9 = .bool r8 ∧
        cond r8 (BatQ h0 tb L next ds ins A G (.tuple #[.slice none 0 0, .int .i64 15]) h7) (table_Table_Batch_b9 (some ⟨tb, 0, none⟩) dp dn dc ip im ic (.map (some mg)) (.map (some mk)) (some ⟨b, 0, none⟩) ip im ic (im : Int) (i : Int) h7 (fun s' h' => (∃ (i : Nat) (kk : List (Int × Bool)) (A4 : Bag), s'.1 = i ∧ i ≤ im ∧ MapA MG mk kk A4 ∧ (∀ x, goneB kk x = decide (x ∈ (ins.take i).map fun r => r.1)) ∧ (∀ j, j < i → (ins.getD j tRec.d).1 ∉ keysL (delA L ds) ∧ (ins.getD j tRec.d).1 ∉ (ins.take j).map fun r => r.1) ∧ St h0 h' (A4 + (A3 + (A + G)))) ∧ (im - s'.1).toNat < (im - (i : Int)).toNat) (BatQ h0 tb L next ds ins A G))) := fun q1 => by
      refine ⟨_, s.ld0, look_gone a4 (s.at A4) ⟨_, rfl, ?_⟩⟩
      rw [hkk]
      exact condP (fun q2 => .inl ⟨15, hbad (.inr q2), by decide, rfl, sd⟩) (fun q2 => e9 q1 q2)
    refine ⟨_, hmt, _, s.ld0, hlook true _ _ fun w bb hw => ?_⟩
    rcases hw with ⟨hw, rfl, rfl⟩ | ⟨r', hr', hrk, rfl⟩
    · refine ⟨_, _, rfl, condNo rfl (e8 fun hc => hw ?_)⟩
      obtain ⟨y, hy, hye⟩ := List.mem_map.1 hc
      exact List.mem_map.2 ⟨y, (List.mem_filter.1 hy).1, hye⟩
    · have hkd := keyDel hkn (ds := ds) hr'
      rw [hrk] at hkd
      refine ⟨_, _, rfl, condYes rfl (look_gone a3 (s.at A3) ⟨_, rfl, ?_⟩)⟩
      rw [hgs]
      exact condN (fun q => .inl ⟨15, hbad (.inl (hkd.2 q)), by decide, rfl, sd⟩) (fun q => e8 fun hc => hkd.1 hc q)
  · obtain rfl : i = im := by omega
    have h4 := keys_good (L := L) (ds := ds) (ins := ins) hkn fun j hj => hok j (by omega)
    exact batch10 a s.drop.drop r1 r2 hnx hdn him h1 h2 h3 h4
theorem batch4 {mg : Nat} {gs : List (Int × Bool)} {A3 : Bag} (a : TabS tb L next A) (a3 : MapA MG mg gs A3) (hgs : ∀ x, goneB gs x = decide (x ∈ ds)) (s : St h0 h (A3 + (A + G))) (r1 : RdT TI h0 dp dn ds) (r2 : RdT tRec h0 ip im ins) (hnx : next ≤ 1000000) (hdn : dn ≤ 1000000) (him : im ≤ 1000000) (h1 : ∀ r ∈ ins, vRec r = true) (h2 : ds.Nodup) :
    table_Table_Batch_b4 (some ⟨tb, 0, none⟩) dp dn dc ip im ic (.map (some mg)) h (BatQ h0 tb L next ds ins A G) := by
  have hl1 := r1.len
  rw [table_Table_Batch_b4_eq]
  refine ⟨fun x h' => h' = h ∧ ∃ i : Nat, x.1 = i ∧ i ≤ dn ∧ ∀ j, j < i → ds.getD j 0 ∈ L.map Prod.fst, fun x _ => (dn - x.1).toNat, ⟨rfl, 0, rfl, Nat.zero_le _, fun j hj => absurd hj (Nat.not_lt_zero _)⟩, ?_⟩
  rintro ⟨z, _⟩ h5 ⟨rfl, i, hz, hi, hok⟩
  dsimp only at hz ⊢
  subst hz
  rw [table_Table_Batch_b5_eq]
  refine condP (fun hlt => ?_) (fun hge => ?_)
  · have hil : i < ds.length := by omega
    obtain ⟨vm, hvm, hlook, _⟩ := a.rowsLook (s.at A)
    refine ldI (i' := i) (r1.ext s.ext) rfl (by omega) ⟨vm, hvm, hlook _ _ (fun hm b => ?_) (fun hm => ?_)⟩
    · refine ⟨_, rfl, condNo rfl ?_⟩
      rw [table_Table_Batch_b6_eq]
      refine ⟨⟨by omega, by omega⟩, ⟨rfl, i + 1, by push_cast; rfl, by omega, fun j hj => ?_⟩, by dsimp only; omega⟩
      rcases Nat.lt_or_ge j i with h | h
      · exact hok j h
      · obtain rfl : j = i := by omega
        exact hm
    · exact ⟨_, rfl, condYes rfl (.inl ⟨12, BE.non h1 h2 ⟨ds.getD i 0, by rw [getD_get hil]; exact List.getElem_mem hil, hm⟩, by decide, rfl, s.drop⟩)⟩
  · obtain rfl : i = dn := by omega
    refine batch7 a a3 hgs s r1 r2 hnx hdn him h1 h2 fun d hd => ?_
    obtain ⟨j, hj, rfl⟩ := List.getElem_of_mem hd
    have := hok j (by omega)
    rwa [getD_get hj] at this
theorem batch1 (a : TabS tb L next A) (s : St h0 h (A + G)) (r1 : RdT TI h0 dp dn ds) (r2 : RdT tRec h0 ip im ins) (hnx : next ≤ 1000000) (hdn : dn ≤ 1000000) (him : im ≤ 1000000) (h1 : ∀ r ∈ ins, vRec r = true) :
    table_Table_Batch_b1 (some ⟨tb, 0, none⟩) dp dn dc ip im ic h (BatQ h0 tb L next ds ins A G) := by
  have hl1 := r1.len
  rw [table_Table_Batch_b1_eq]
  refine s.newMap MG fun mg hh A3 _ a3 s => ?_
  refine ⟨fun x h' => ∃ (i : Nat) (gs : List (Int × Bool)) (A3 : Bag), x.1 = i ∧ i ≤ dn ∧ MapA MG mg gs A3 ∧ (∀ x, goneB gs x = decide (x ∈ ds.take i)) ∧ (ds.take i).Nodup ∧ St h0 h' (A3 + (A + G)), fun x _ => (dn - x.1).toNat, ⟨0, [], A3, rfl, Nat.zero_le _, a3, fun x => by simp [goneB, lkp], by simp, s⟩, ?_⟩
  clear a3 s A3
  rintro ⟨z, _⟩ h5 ⟨i, gs, A3, hz, hi, a3, hgs, hnd, s⟩
  dsimp only at hz ⊢
  subst hz
  rw [table_Table_Batch_b2_eq]
  refine condP (fun hlt => ?_) (fun hge => ?_)
  · have hil : i < ds.length := by omega
    have htk : ds.take (i + 1) = ds.take i ++ [ds.getD i 0] := by rw [getD_get hil, List.take_succ_eq_append_getElem hil]
    refine ldI (i' := i) (r1.ext s.ext) rfl (by omega) (look_gone a3 s ⟨_, rfl, ?_⟩)
    rw [hgs]
    have hsub : (ds.take (i + 1)).Sublist ds := List.take_sublist _ _
    generalize ds.getD i 0 = d at htk
    refine condP (fun hm => .inl ⟨10, BE.twice h1 fun hc => ?_, by decide, rfl, s.drop⟩) (fun hm => ?_)
    · have := hc.sublist hsub
      rw [htk, List.nodup_append] at this
      exact this.2.2 _ hm _ (List.mem_singleton.2 rfl) rfl
    · refine a3.set mapOk_g s rfl fun h6 A5 a5 s => ?_
      rw [table_Table_Batch_b3_eq]
      refine ⟨⟨by omega, by omega⟩, ⟨i + 1, _, A5, by push_cast; rfl, by omega, a5, fun x => ?_, ?_, s⟩, by dsimp only; omega⟩
      · rw [gone_set, hgs x, htk, ← Bool.decide_or]
        refine decide_eq_decide.2 ?_
        rw [List.mem_append, List.mem_singleton, or_comm]
      · rw [htk, List.nodup_append]
        exact ⟨hnd, by simp, fun x hx y hy hxy => hm (by rw [List.mem_singleton] at hy; rw [← hy, ← hxy]; exact hx)⟩
  · obtain rfl : i = dn := by omega
    rw [List.take_of_length_le (by omega)] at hgs hnd
    exact batch4 a a3 hgs s r1 r2 hnx hdn him h1 hnd
theorem Batch_s (a : TabS tb L next A) (s : St h0 h (A + G)) (r1 : RdT TI h0 dp dn ds) (r2 : RdT tRec h0 ip im ins) (hnx : next ≤ 1000000) (hdn : dn ≤ 1000000) (him : im ≤ 1000000) :
    HCalls Tryz.prog 22 #[ptr tb, .slice dp dn dc, .slice ip im ic] h (BatQ h0 tb L next ds ins A G) := by
  refine table_Table_Batch_call ?_
  rw [table_Table_Batch_b0_eq]
  refine condNo rfl ((ContRec_ok (r2.ext s.ext) (by omega) rfl bad_c1).mono fun v h1 ⟨x1, hv⟩ => ⟨_, hv, cond_intro (fun hb => ?_) (fun hb => ?_)⟩)
  · obtain ⟨r, hr, hb⟩ := List.any_eq_true.1 hb
    exact .inl ⟨1, BE.arg ⟨r, hr, by simpa using hb⟩, by decide, rfl, s.grow x1⟩
  · exact batch1 a (s.grow x1) r1 r2 hnx hdn him fun r hr => by
      have := (List.any_eq_false.1 hb) r hr
      simpa using this
end
end Go.Proofs.YtfkccighnkepgaaGreat

/- The reference: Insert. -/
set_option maxRecDepth 100000
namespace Go.Proofs.YtfkccighnkepgaaGreat
open Go Go.Sx
/-- The reference's table, with slices of its own. -/
def RefS (v : Value) (L : List LRow) (nx : Int) (O : Bag) : Prop := ∃ p n c q m d O1 O2, v = encT p n c q m d nx ∧ Sl TI p n c (L.map Prod.fst) O1 ∧ Sl tRec q m d (L.map Prod.snd) O2 ∧ O = O1 + O2
/-- The reference's table, that is read. -/
def RefR (h : Hp) (v : Value) (L : List LRow) (nx : Int) : Prop := ∃ p n c q m d, v = encT p n c q m d nx ∧ RdT TI h p n (L.map Prod.fst) ∧ RdT tRec h q m (L.map Prod.snd) ∧ n ≤ c ∧ m ≤ d
theorem RefR.ext {h h' : Hp} {v : Value} {L : List LRow} {nx : Int} (r : RefR h v L nx) (x : Ext h h') : RefR h' v L nx := by
  obtain ⟨p, n, c, q, m, d, hv, r1, r2, h1, h2⟩ := r
  exact ⟨p, n, c, q, m, d, hv, r1.ext x, r2.ext x, h1, h2⟩
theorem RefS.rd {h0 h : Hp} {v : Value} {L : List LRow} {nx : Int} {O G : Bag} (r : RefS v L nx O) (s : St h0 h (O + G)) : RefR h v L nx := by
  obtain ⟨p, n, c, q, m, d, O1, O2, hv, o1, o2, rfl⟩ := r
  exact ⟨p, n, c, q, m, d, hv, o1.rd (s.to (B := O1 + (O2 + G))), o2.rd (s.to (B := O2 + (O1 + G))), o1.cap, o2.cap⟩
theorem ins_b1 {h0 h : Hp} {b1 b3 : Nat} {p q : Option Addr} {n c m d : Nat} {nx : Int} {c0 c1 c2 : Value} {F : Bag} {K : Value → Hp → Prop} (hnx : 0 ≤ nx ∧ nx ≤ 1000000)
    (s : St h0 h (cA b1 [.slice p n c, .slice q m d, .int .i64 nx] 29 + (cA b3 [c0, c1, c2] 29 + F))) (hK : ∀ h', St h0 h' F → K (.tuple #[encT p n c q m d (nx + 1), .int .i64 nx, .int .i64 0]) h') :
    r50_Insert_b1 (some ⟨b1, 0, none⟩) (some ⟨b3, 0, none⟩) nx h K := by
  rw [r50_Insert_b1_eq]
  refine ⟨⟨by omega, by omega⟩, s.wrB fun h1 s => ⟨_, _, _, _, _, _, _, s.ld0, s.ldB, s.ldB, s.wr3 fun h2 s => ⟨_, _, _, _, _, _, _, s.ld0, s.ldB, s.ldB, hK _ ?_⟩⟩⟩
  exact ((s.find b1).drop.find b3).drop.to
section
variable {h : Hp} {v : Value} {nx : Int} {L : List LRow}
set_option maxHeartbeats 8000000 in
theorem Insert_r (rf : RefR h v L nx) (o : LOk L nx) (hnx : nx ≤ 1000000) (r : Rec) :
    HCalls Tryz.prog 59 #[v, encR r] h (fun w h' => (vRec r = false ∧ w = .tuple #[v, .int .i64 0, .int .i64 1] ∧ Ext h h') ∨ (vRec r = true ∧ r.1 ∈ keysL L ∧ w = .tuple #[v, .int .i64 0, .int .i64 15] ∧ Ext h h') ∨
      (vRec r = true ∧ r.1 ∉ keysL L ∧ 1000 ≤ L.length ∧ w = .tuple #[v, .int .i64 0, .int .i64 4] ∧ Ext h h') ∨
      (vRec r = true ∧ r.1 ∉ keysL L ∧ L.length < 1000 ∧ ∃ v' O', w = .tuple #[v', .int .i64 nx, .int .i64 0] ∧ RefS v' (L ++ [(nx, r)]) (nx + 1) O' ∧ St h h' O')) := by
  obtain ⟨p, n, c, q, m, d, rfl, r1, r2, hnc, hmd⟩ := rf
  have hl1 := r1.len
  have hl2 := r2.len
  rw [List.length_map] at hl1 hl2
  have hol := o.len
  have hn0 := o.n0
  refine r50_Insert_call ?_
  rw [r50_Insert_b0_eq]
  refine (St.start h).new (cs := [_, _, _]) fun b1 h1 _ s => s.new (cs := [_, _, _, _, _]) fun b2 h2 _ s => s.new (cs := [_, _, _]) fun b3 h3 _ s => ?_
  refine ⟨_, _, _, _, _, s.ld0, s.ldB, s.ldB, s.ldB, s.ldB, (Valid_r r h3).mono fun w h4 ⟨x4, hw⟩ => ⟨_, hw, ?_⟩⟩
  have s := s.grow x4
  refine cond_intro (fun hb => ?_) (fun hb => ?_)
  · refine ⟨_, _, _, _, _, _, _, s.ld0, s.ldB, s.ldB, s.wr3 fun h5 s => ⟨_, _, _, _, _, _, _, s.ld0, s.ldB, s.ldB, .inl ⟨by simpa using hb, rfl, s.ext⟩⟩⟩
  have hr : vRec r = true := by simpa using hb
  refine ⟨_, _, _, _, _, _, _, s.ld0, s.ldB, s.ldB, _, s.ld0, (Has_r (L := L) (r1.ext s.ext) (r2.ext s.ext) (by omega) r.1 (-1)).mono fun w h5 ⟨x5, hw⟩ => ⟨_, hw, ?_⟩⟩
  have s := s.grow x5
  have hhas : (L.any fun x => decide (x.2.1 = r.1 ∧ x.1 ≠ -1)) = decide (r.1 ∈ keysL L) := by
    rw [Bool.eq_iff_iff, List.any_eq_true, decide_eq_true_eq]
    constructor
    · rintro ⟨x, hx, hc⟩
      exact List.mem_map.2 ⟨x, hx, (of_decide_eq_true hc).1⟩
    · intro hc
      obtain ⟨x, hx, he⟩ := List.mem_map.1 hc
      exact ⟨x, hx, decide_eq_true ⟨he, by have := (o.lt x hx).1; omega⟩⟩
  rw [hhas]
  refine condP (fun hk => ?_) (fun hk => ⟨_, _, _, s.ld0, condP (fun hf => ?_) (fun hf => ?_)⟩)
  · refine ⟨_, _, _, _, _, _, _, s.ld0, s.ldB, s.ldB, s.wr3 fun h5 s => ⟨_, _, _, _, _, _, _, s.ld0, s.ldB, s.ldB, .inr (.inl ⟨hr, hk, rfl, s.ext⟩)⟩⟩
  · refine ⟨_, _, _, _, _, _, _, s.ld0, s.ldB, s.ldB, s.wr3 fun h5 s => ⟨_, _, _, _, _, _, _, s.ld0, s.ldB, s.ldB, .inr (.inr (.inl ⟨hr, hk, by omega, rfl, s.ext⟩))⟩⟩
  refine ⟨_, s.ldB, s.new (cs := []) fun b4 h6 _ s => ⟨_, _, _, s.ld0, ?_⟩⟩
  have oe : Sl TI (some ⟨b4, 0, none⟩) 0 0 [] (cA b4 [] 3) := ⟨rfl, .inr ⟨b4, [], rfl, Nat.le_refl _, by simp, rfl⟩⟩
  refine append_sl ok_int s oe (r1.ext s.ext) (by omega) fun p' c' h7 A1 o1 s => ?_
  refine push_sl ok_int s o1 (cs := [_]) (x := nx) rfl rfl (by omega) fun p2 c2 h8 A2 o2 s => ?_
  rw [List.nil_append] at o2
  have e1 : L.map Prod.fst ++ [nx] = (L ++ [(nx, r)]).map Prod.fst := by rw [List.map_append]; rfl
  have e2 : L.map Prod.snd ++ [r] = (L ++ [(nx, r)]).map Prod.snd := by rw [List.map_append]; rfl
  rw [e1] at o2
  refine s.wr0 fun h9 s => ⟨_, _, _, s.ldB, _, _, _, _, _, s.ld0, s.ldB, s.ldB, s.ldB, s.ldB, ?_, ?_⟩
  · refine s.new (cs := []) fun b6 h10 _ s => ⟨⟨_, _, _, _, _, s.ld0, s.ldB, s.ldB, s.ldB, s.ldB, rfl⟩, ⟨_, _, _, s.ldB, rfl⟩, ?_, ?_⟩
    · have oe2 : Sl tRec (some ⟨b6, 0, none⟩) 0 0 [] (cA b6 [] 49) := ⟨rfl, .inr ⟨b6, [], rfl, Nat.le_refl _, by simp, rfl⟩⟩
      refine append_sl ok_recs s oe2 (r2.ext s.ext) (by omega) fun p3 c3 h11 A3 o3 s => ⟨⟨_, _, _, _, _, s.ld0, s.ldB, s.ldB, s.ldB, s.ldB, rfl⟩, ?_⟩
      refine push_sl ok_recs s o3 (cs := [_, _, _, _, _]) (x := r) rfl rfl (by omega) fun p4 c4 h12 A4 o4 s => ?_
      rw [List.nil_append, e2] at o4
      refine s.wrB fun h13 s => ins_b1 ⟨hn0, hnx⟩ (s.find2 b1 b3) fun h14 s => .inr (.inr (.inr ⟨hr, hk, by omega, _, A2 + A4, rfl, ⟨_, _, _, _, _, _, A2, A4, rfl, o2, o4, rfl⟩, ?_⟩))
      exact ((s.find b2).drop).to
    · have oe2 : Sl tRec (some ⟨b6, 0, none⟩) 0 0 [] (cA b6 [] 49) := ⟨rfl, .inr ⟨b6, [], rfl, Nat.le_refl _, by simp, rfl⟩⟩
      refine s.new (cs := [_, _, _, _, _]) fun b8 h11 _ s => ⟨⟨_, _, _, s.ldB, rfl⟩, ?_⟩
      have ob : Sl tRec (some ⟨b8, 0, none⟩) 1 1 [r] (cA b8 (recC r) 49) := Sl.one rfl
      refine append_sl ok_recs (s.at (cA b6 _ _)) oe2 (r2.ext s.ext) (by omega) fun p3 c3 h12 A3 o3 s => ?_
      refine append_sl ok_recs s o3 (ob.rd (s.at (cA b8 _ _))) (by omega) fun p4 c4 h13 A4 o4 s => ?_
      rw [List.nil_append, e2] at o4
      refine s.wrB fun h13 s => ins_b1 ⟨hn0, hnx⟩ (s.find2 b1 b3) fun h14 s => .inr (.inr (.inr ⟨hr, hk, by omega, _, A2 + A4, rfl, ⟨_, _, _, _, _, _, A2, A4, rfl, o2, o4, rfl⟩, ?_⟩))
      exact (((s.find b2).drop).find b8).drop.to
  · refine s.new (cs := [_, _, _, _, _]) fun b9 h10 _ s => ⟨⟨_, _, _, s.ldB, rfl⟩, s.new (cs := []) fun b10 h11 _ s => ⟨⟨_, _, _, s.ldB, rfl⟩, ?_⟩⟩
    have ob : Sl tRec (some ⟨b9, 0, none⟩) 1 1 [r] (cA b9 (recC r) 49) := Sl.one rfl
    have oe2 : Sl tRec (some ⟨b10, 0, none⟩) 0 0 [] (cA b10 [] 49) := ⟨rfl, .inr ⟨b10, [], rfl, Nat.le_refl _, by simp, rfl⟩⟩
    refine append_sl ok_recs s oe2 (r2.ext s.ext) (by omega) fun p3 c3 h12 A3 o3 s => ?_
    refine append_sl ok_recs s o3 (ob.rd (s.at (cA b9 _ _))) (by omega) fun p4 c4 h13 A4 o4 s => ?_
    rw [List.nil_append, e2] at o4
    refine s.wrB fun h13 s => ins_b1 ⟨hn0, hnx⟩ (s.find2 b1 b3) fun h14 s => .inr (.inr (.inr ⟨hr, hk, by omega, _, A2 + A4, rfl, ⟨_, _, _, _, _, _, A2, A4, rfl, o2, o4, rfl⟩, ?_⟩))
    exact (((s.find b2).drop).find b9).drop.to
end
end Go.Proofs.YtfkccighnkepgaaGreat

/- The reference: Update. -/
set_option maxRecDepth 100000
namespace Go.Proofs.YtfkccighnkepgaaGreat
open Go Go.Sx
theorem wrRec1 {h0 h : Hp} {ad : Addr} {n c i j : Nat} {xs : List Rec} {A F : Bag} {v : Value} {x : Rec} {k : Hp → Prop} (a : Sl tRec (some ad) n c xs A) (s : St h0 h (A + F)) (hi : i < n) (hj : j < tRec.sz) (hx : tRec.enc x = (tRec.enc (xs.getD i tRec.d)).set j v)
    (hk : ∀ h' A', Sl tRec (some ad) n c (xs.set i x) A' → St h0 h' (A' + F) → k h') : Wr h ((ad.add (i * tRec.sz)).add j) v k := by
  obtain ⟨ad', e, w⟩ := a.wr s hi hj hx hk
  cases e
  exact w
theorem getD_set_rec {xs : List Rec} {i : Nat} {x d : Rec} (hi : i < xs.length) : (xs.set i x).getD i d = x := by
  rw [getD_get (by rw [List.length_set]; exact hi), List.getElem_set_self]
/-- A record is written. -/
theorem wrRec {h0 h : Hp} {p : Option Addr} {n c i : Nat} {xs : List Rec} {A F : Bag} {x : Rec} {k : Hp → Prop} (a : Sl tRec p n c xs A) (s : St h0 h (A + F)) (hi : i < n)
    (hk : ∀ h' A', Sl tRec p n c (xs.set i x) A' → St h0 h' (A' + F) → k h') :
    (0 ≤ (i : Int) ∧ (i : Int) < (n : Int)) ∧ NN p fun ad => Wr h (ad.add (Int.toNat (i : Int) * 5)) (.int .i64 x.1) fun h1 => Wr h1 ((ad.add (Int.toNat (i : Int) * 5)).add 1) (.int .i64 x.2.1) fun h2 => Wr h2 ((ad.add (Int.toNat (i : Int) * 5)).add 2) (.int .i64 x.2.2.1) fun h3 =>
      Wr h3 ((ad.add (Int.toNat (i : Int) * 5)).add 3) (.int .i64 x.2.2.2.1) fun h4 => Wr h4 ((ad.add (Int.toNat (i : Int) * 5)).add 4) (.string x.2.2.2.2) k := by
  have hl := a.len
  have r := a.rd s
  refine ⟨⟨by omega, by omega⟩, ?_⟩
  obtain ⟨ad, rfl, _⟩ := r.at_ hi
  show Wr _ _ _ _
  rw [Int.toNat_natCast]
  obtain ⟨y, hy⟩ : ∃ y, xs.getD i tRec.d = y := ⟨_, rfl⟩
  refine wrRec1 (j := 0) (x := (x.1, y.2)) a s hi (by decide) (by rw [hy]; rfl) fun h1 A1 a1 s1 => ?_
  refine wrRec1 (j := 1) (x := (x.1, x.2.1, y.2.2)) a1 s1 hi (by decide) (by rw [getD_set_rec (by omega)]; rfl) fun h2 A2 a2 s2 => ?_
  rw [List.set_set] at a2
  refine wrRec1 (j := 2) (x := (x.1, x.2.1, x.2.2.1, y.2.2.2)) a2 s2 hi (by decide) (by rw [getD_set_rec (by omega)]; rfl) fun h3 A3 a3 s3 => ?_
  rw [List.set_set] at a3
  refine wrRec1 (j := 3) (x := (x.1, x.2.1, x.2.2.1, x.2.2.2.1, y.2.2.2.2)) a3 s3 hi (by decide) (by rw [getD_set_rec (by omega)]; rfl) fun h4 A4 a4 s4 => ?_
  rw [List.set_set] at a4
  refine wrRec1 (j := 4) (x := x) a4 s4 hi (by decide) (by rw [getD_set_rec (by omega)]; rfl) fun h5 A5 a5 s5 => ?_
  rw [List.set_set] at a5
  exact hk h5 A5 a5 s5
theorem upd_set {L : List LRow} (hd : (L.map Prod.fst).Nodup) {id : Int} {j : Nat} {r : Rec} (hj : j < L.length) (he : (L.map Prod.fst).getD j 0 = id) : (updL L id r).map Prod.snd = (L.map Prod.snd).set j r := by
  have hz : L[j].1 = id := by rw [← he, getD_get (by rw [List.length_map]; exact hj), List.getElem_map]
  refine List.ext_getElem (by simp [updL]) fun i h1 h2 => ?_
  have hi : i < L.length := by simpa using h2
  rw [List.getElem_map, List.getElem_set]
  unfold updL
  rw [List.getElem_map]
  by_cases hij : j = i
  · subst hij
    rw [if_pos rfl, if_pos hz]
  · rw [if_neg hij, List.getElem_map, if_neg]
    intro hc
    have hp := List.pairwise_iff_getElem.1 (List.nodup_iff_pairwise_ne.1 hd)
    have h1' : j < (L.map Prod.fst).length := by rw [List.length_map]; exact hj
    have h2' : i < (L.map Prod.fst).length := by rw [List.length_map]; exact hi
    rcases Nat.lt_or_ge j i with h | h
    · have := hp j i h1' h2' h
      rw [List.getElem_map, List.getElem_map] at this
      exact this (by rw [hz, hc])
    · have := hp i j h2' h1' (by omega)
      rw [List.getElem_map, List.getElem_map] at this
      exact this (by rw [hz, hc])
section
variable {h : Hp} {p q : Option Addr} {n c m d : Nat} {nx : Int} {L : List LRow}
set_option maxHeartbeats 8000000 in
theorem Update_r (r1 : RdT TI h p n (L.map Prod.fst)) (r2 : RdT tRec h q m (L.map Prod.snd)) (o : LOk L nx) (id : Int) (r : Rec) :
    HCalls Tryz.prog 60 #[encT p n c q m d nx, .int .i64 id, encR r] h (fun w h' => (vRec r = false ∧ w = .tuple #[encT p n c q m d nx, .int .i64 1] ∧ Ext h h') ∨ (vRec r = true ∧ id ∉ L.map Prod.fst ∧ w = .tuple #[encT p n c q m d nx, .int .i64 12] ∧ Ext h h') ∨
      (vRec r = true ∧ id ∈ L.map Prod.fst ∧ (∃ x ∈ L, x.2.1 = r.1 ∧ x.1 ≠ id) ∧ w = .tuple #[encT p n c q m d nx, .int .i64 15] ∧ Ext h h') ∨
      (vRec r = true ∧ id ∈ L.map Prod.fst ∧ (∀ x ∈ L, x.2.1 = r.1 → x.1 = id) ∧ ∃ q' m' d' O2, w = .tuple #[encT p n c q' m' d' nx, .int .i64 0] ∧ Sl tRec q' m' d' ((updL L id r).map Prod.snd) O2 ∧ St h h' O2)) := by
  have hl1 := r1.len
  have hl2 := r2.len
  rw [List.length_map] at hl1 hl2
  have hol := o.len
  have hn0 := o.n0
  refine r50_Update_call ?_
  rw [r50_Update_b0_eq]
  refine (St.start h).new (cs := [_, _, _]) fun b1 h1 _ s => s.new (cs := [_, _, _, _, _]) fun b2 h2 _ s => s.new (cs := [_, _, _]) fun b3 h3 _ s => ?_
  refine ⟨_, _, _, _, _, s.ld0, s.ldB, s.ldB, s.ldB, s.ldB, (Valid_r r h3).mono fun w h4 ⟨x4, hw⟩ => ⟨_, hw, ?_⟩⟩
  have s := s.grow x4
  refine cond_intro (fun hb => ?_) (fun hb => ?_)
  · refine ⟨_, _, _, _, _, _, _, s.ld0, s.ldB, s.ldB, s.wr3 fun h5 s => ⟨_, _, _, _, _, _, _, s.ld0, s.ldB, s.ldB, .inl ⟨by simpa using hb, rfl, s.ext⟩⟩⟩
  have hr : vRec r = true := by simpa using hb
  refine ⟨_, _, _, _, _, _, _, s.ld0, s.ldB, s.ldB, (Find_r (L := L) (r1.ext s.ext) (by omega) id).mono fun w h5 ⟨x5, i, hw, hi⟩ => ⟨i, hw, ?_⟩⟩
  have s := s.grow x5
  rcases hi with ⟨hno, rfl⟩ | ⟨j, rfl, hj, hje⟩
  · refine condYes rfl ⟨_, _, _, _, _, _, _, s.ld0, s.ldB, s.ldB, s.wr3 fun h5 s => ⟨_, _, _, _, _, _, _, s.ld0, s.ldB, s.ldB, .inr (.inl ⟨hr, hno, rfl, s.ext⟩)⟩⟩
  have hmem : id ∈ L.map Prod.fst := by rw [← hje, getD_get (by rw [List.length_map]; omega)]; exact List.getElem_mem _
  refine condNo (decide_eq_false (by omega)) ⟨_, _, _, _, _, _, _, s.ld0, s.ldB, s.ldB, _, s.ld0, (Has_r (L := L) (r1.ext s.ext) (r2.ext s.ext) (by omega) r.1 id).mono fun w h6 ⟨x6, hw⟩ => ⟨_, hw, ?_⟩⟩
  have s := s.grow x6
  refine cond_intro (fun hk => ?_) (fun hk => ?_)
  · obtain ⟨x, hx, hc⟩ := List.any_eq_true.1 hk
    refine ⟨_, _, _, _, _, _, _, s.ld0, s.ldB, s.ldB, s.wr3 fun h5 s => ⟨_, _, _, _, _, _, _, s.ld0, s.ldB, s.ldB, .inr (.inr (.inl ⟨hr, hmem, ⟨x, hx, of_decide_eq_true hc⟩, rfl, s.ext⟩))⟩⟩
  have hk' : ∀ x ∈ L, x.2.1 = r.1 → x.1 = id := fun x hx he => Classical.byContradiction fun hc => (List.any_eq_false.1 hk) x hx (decide_eq_true ⟨he, hc⟩)
  refine s.new (cs := []) fun b4 h7 _ s => ⟨_, _, _, s.ldB, ?_⟩
  have oe : Sl tRec (some ⟨b4, 0, none⟩) 0 0 [] (cA b4 [] 49) := ⟨rfl, .inr ⟨b4, [], rfl, Nat.le_refl _, by simp, rfl⟩⟩
  refine append_sl ok_recs s oe (r2.ext s.ext) (by omega) fun p' c' h8 A1 o1 s => ?_
  rw [List.nil_append] at o1
  refine s.wrB fun h9 s => ⟨_, _, _, s.ldB, _, _, _, _, _, s.ld0, s.ldB, s.ldB, s.ldB, s.ldB, ?_⟩
  refine wrRec o1 (s.at A1) (by omega) fun h10 A2 o2 s => ?_
  rw [← upd_set o.ids (by omega) hje] at o2
  refine ⟨_, _, _, _, _, _, _, s.ld0, s.ldB, s.ldB, s.wr3 fun h11 s => ⟨_, _, _, _, _, _, _, s.ld0, s.ldB, s.ldB, .inr (.inr (.inr ⟨hr, hmem, hk', _, _, _, A2, rfl, o2, ?_⟩))⟩⟩
  exact (((s.find b1).drop.find b2).drop.find b3).drop.to
end
end Go.Proofs.YtfkccighnkepgaaGreat

/- The reference: Batch. -/
set_option maxRecDepth 100000
namespace Go.Proofs.YtfkccighnkepgaaGreat
open Go Go.Sx
abbrev tb50 (p : Option Addr) (n c : Nat) (q : Option Addr) (m d : Nat) (nx : Int) : List Value := [.slice p n c, .slice q m d, .int .i64 nx]
theorem rec_key {h : Hp} {q : Option Addr} {m i : Nat} {rows : List Rec} {Q : Int → Prop} (r : RdT tRec h q m rows) (hi : i < m) (hq : Q (rows.getD i tRec.d).1) :
    (0 ≤ (i : Int) ∧ (i : Int) < (m : Int)) ∧ NN q fun a => ∃ n1 : Int, cell h (a.add (Int.toNat (i : Int) * 5)) = some (.int .i64 n1) ∧ Q n1 := by
  refine r.idx (i := (i : Int)) (by omega) (by omega) fun a _ hc => ?_
  have e : Int.toNat (i : Int) = i := Int.toNat_natCast i
  rw [e] at hc ⊢
  exact ⟨_, by simpa [add_add] using hc 0 (by decide), hq⟩
theorem rec_rd2 {h : Hp} {q : Option Addr} {m i : Nat} {rows : List Rec} {Q : Int → Int → Int → Int → ByteArray → Addr → Prop} (r : RdT tRec h q m rows) (hi : i < m)
    (hq : ∀ a, cell h (a.add (Int.toNat (i : Int) * 5)) = some (.int .i64 (rows.getD i tRec.d).1) → cell h ((a.add (Int.toNat (i : Int) * 5)).add 1) = some (.int .i64 (rows.getD i tRec.d).2.1) → cell h ((a.add (Int.toNat (i : Int) * 5)).add 2) = some (.int .i64 (rows.getD i tRec.d).2.2.1) → cell h ((a.add (Int.toNat (i : Int) * 5)).add 3) = some (.int .i64 (rows.getD i tRec.d).2.2.2.1) → cell h ((a.add (Int.toNat (i : Int) * 5)).add 4) = some (.string (rows.getD i tRec.d).2.2.2.2) → Q (rows.getD i tRec.d).1 (rows.getD i tRec.d).2.1 (rows.getD i tRec.d).2.2.1 (rows.getD i tRec.d).2.2.2.1 (rows.getD i tRec.d).2.2.2.2 a) :
    (0 ≤ (i : Int) ∧ (i : Int) < (m : Int)) ∧ NN q fun a => ∃ n1 : Int, ∃ n2 : Int, ∃ n3 : Int, ∃ n4 : Int, ∃ s2 : ByteArray, cell h (a.add (Int.toNat (i : Int) * 5)) = some (.int .i64 n1) ∧ cell h ((a.add (Int.toNat (i : Int) * 5)).add 1) = some (.int .i64 n2) ∧ cell h ((a.add (Int.toNat (i : Int) * 5)).add 2) = some (.int .i64 n3) ∧ cell h ((a.add (Int.toNat (i : Int) * 5)).add 3) = some (.int .i64 n4) ∧ cell h ((a.add (Int.toNat (i : Int) * 5)).add 4) = some (.string s2) ∧ Q n1 n2 n3 n4 s2 a := by
  refine r.idx (i := (i : Int)) (by omega) (by omega) fun a _ hc => ?_
  have e : Int.toNat (i : Int) = i := Int.toNat_natCast i
  rw [e] at hc hq ⊢
  have c0 : cell h (a.add (i * 5)) = some (.int .i64 (rows.getD i tRec.d).1) := by simpa [add_add] using hc 0 (by decide)
  exact ⟨_, _, _, _, _, c0, hc 1 (by decide), hc 2 (by decide), hc 3 (by decide), hc 4 (by decide), hq a c0 (hc 1 (by decide)) (hc 2 (by decide)) (hc 3 (by decide)) (hc 4 (by decide))⟩
theorem ldIc {h : Hp} {p : Option Addr} {n i : Nat} {l : List Int} {Q : Addr → Int → Prop} (r : RdT TI h p n l) (h1 : i < n) (hq : ∀ a, cell h (a.add (Int.toNat (i : Int) * 1)) = some (.int .i64 (l.getD i 0)) → Q a (l.getD i 0)) :
    (0 ≤ (i : Int) ∧ (i : Int) < (n : Int)) ∧ NN p fun a => ∃ x : Int, cell h (a.add (Int.toNat (i : Int) * 1)) = some (.int .i64 x) ∧ Q a x := by
  refine r.idx (i := (i : Int)) (by omega) (by omega) fun a _ hc => ?_
  have e : Int.toNat (i : Int) = i := Int.toNat_natCast i
  rw [e] at hc hq ⊢
  have c0 : cell h (a.add (i * 1)) = some (.int .i64 (l.getD i 0)) := by simpa [add_add] using hc 0 (by decide)
  exact ⟨_, c0, hq a c0⟩
theorem num_ok : ∀ (l : List Rec) {M : List LRow} {nx : Int}, LOk M nx → (∀ r ∈ l, vRec r = true) → M.length + l.length ≤ 1000 → LOk (M ++ numL nx l) (nx + (l.length : Nat))
  | [], M, nx, o, _, _ => by
    show LOk (M ++ []) _
    rw [List.append_nil, show nx + (([] : List Rec).length : Int) = nx by simp]
    exact o
  | r :: l, M, nx, o, hv, hl => by
    rw [List.length_cons] at hl
    have := num_ok l (ins_ok o (hv r List.mem_cons_self) (by omega)) (fun x hx => hv x (List.mem_cons_of_mem _ hx)) (by rw [List.length_append, List.length_singleton]; omega)
    rw [List.append_assoc] at this
    rw [show nx + ((r :: l).length : Int) = nx + 1 + (l.length : Nat) by rw [List.length_cons]; push_cast; omega]
    exact this
theorem delA_ok {L : List LRow} {nx : Int} (o : LOk L nx) (ds : List Int) : LOk (delA L ds) nx :=
  ⟨o.so.filter _, fun x hx => o.lt x (List.mem_filter.1 hx).1, o.n0, Nat.le_trans (List.length_filter_le _ _) o.len, fun x hx => o.val x (List.mem_filter.1 hx).1⟩
/-- The reference's table as it was, or with slices of its own. -/
def RefW (p : Option Addr) (n c : Nat) (q : Option Addr) (m d : Nat) (L : List LRow) (nx : Int) (p' : Option Addr) (n' c' : Nat) (q' : Option Addr) (m' d' : Nat) (Lu : List LRow) (nu : Int) (O : Bag) : Prop :=
  (p' = p ∧ n' = n ∧ c' = c ∧ q' = q ∧ m' = m ∧ d' = d ∧ Lu = L ∧ nu = nx ∧ O = 0) ∨ ∃ O1 O2, Sl TI p' n' c' (Lu.map Prod.fst) O1 ∧ Sl tRec q' m' d' (Lu.map Prod.snd) O2 ∧ O = O1 + O2
/-- The copy that is worked on. -/
def UIn (h : Hp) (b1 b2 b3 : Nat) (p : Option Addr) (n c : Nat) (q : Option Addr) (m d : Nat) (L : List LRow) (nx : Int) (Lu : List LRow) (nu : Int) (G : Bag) (h' : Hp) : Prop :=
  ∃ p' n' c' q' m' d' O, RefW p n c q m d L nx p' n' c' q' m' d' Lu nu O ∧ St h h' (cA b3 (tb50 p' n' c' q' m' d' nu) 29 + (O + (cA b1 (tb50 p n c q m d nx) 29 + (cA b2 (tb50 none 0 0 none 0 0 0) 29 + G))))
def BatRQ (h : Hp) (p : Option Addr) (n c : Nat) (q : Option Addr) (m d : Nat) (L : List LRow) (nx : Int) (ds : List Int) (ins : List Rec) (w : Value) (h' : Hp) : Prop :=
  (∃ e, BE L ds ins e ∧ e ≠ 0 ∧ w = .tuple #[encT p n c q m d nx, .slice none 0 0, .int .i64 e] ∧ Ext h h') ∨
  (BE L ds ins 0 ∧ ∃ p' n' c' q' m' d' O oq om od B, w = .tuple #[encT p' n' c' q' m' d' (nx + (ins.length : Nat)), .slice oq om od, .int .i64 0] ∧ Sl TI oq om od ((numL nx ins).map Prod.fst) B ∧ RefW p n c q m d L nx p' n' c' q' m' d' (batL L nx ds ins) (nx + (ins.length : Nat)) O ∧ St h h' (B + O))
section
variable {h h1 : Hp} {p q : Option Addr} {n c m d : Nat} {nx nu : Int} {L Lu : List LRow} {G : Bag} {b1 b2 b3 : Nat} {ds : List Int} {ins : List Rec} {dp ip : Option Addr} {dn dc im ic : Nat}
theorem RefW.rd {p' q' : Option Addr} {n' c' m' d' : Nat} {O F : Bag} (w : RefW p n c q m d L nx p' n' c' q' m' d' Lu nu O) (r1 : RdT TI h p n (L.map Prod.fst)) (r2 : RdT tRec h q m (L.map Prod.snd)) (hc : n ≤ c) (hdm : m ≤ d) (s : St h h1 (O + F)) :
    RdT TI h1 p' n' (Lu.map Prod.fst) ∧ RdT tRec h1 q' m' (Lu.map Prod.snd) ∧ n' ≤ c' ∧ m' ≤ d' := by
  rcases w with ⟨rfl, rfl, rfl, rfl, rfl, rfl, rfl, rfl, rfl⟩ | ⟨O1, O2, o1, o2, rfl⟩
  · exact ⟨r1.ext s.ext, r2.ext s.ext, hc, hdm⟩
  · exact ⟨o1.rd (s.to (B := O1 + (O2 + F))), o2.rd (s.to (B := O2 + (O1 + F))), o1.cap, o2.cap⟩
theorem btR18 {LO : LOk L nx} (r1 : RdT TI h p n (L.map Prod.fst)) (r2 : RdT tRec h q m (L.map Prod.snd)) (hc : n ≤ c) (hdm : m ≤ d) (ri : RdT tRec h ip im ins) (hb : BE L ds ins 0) (hnx : nx ≤ 900000) (u : UIn h b1 b2 b3 p n c q m d L nx (delA L ds) nx G h1) :
    LoopVC (((none, 0, 0), 0, ()) : (Option Addr × Nat × Nat) × Int × Unit) h1 (fun (nx0 : (Option Addr × Nat × Nat) × Int × Unit → Hp → Prop) (s8 : (Option Addr × Nat × Nat) × Int × Unit) h46 => r50_Batch_b18 s8.1.1 s8.1.2.1 s8.1.2.2 s8.2.1 ip im ic (some ⟨b2, 0, none⟩) (some ⟨b3, 0, none⟩) h46 nx0 (BatRQ h p n c q m d L nx ds ins)) := by
  obtain ⟨h1v, h2v, h3v, h4v, h5v⟩ := hb.okd
  have hli := ri.len
  have hn0 := LO.n0
  refine ⟨fun x h' => ∃ (i : Nat) (B : Bag), x.2.1 = i ∧ i ≤ im ∧ Sl TI x.1.1 x.1.2.1 x.1.2.2 ((numL nx (ins.take i)).map Prod.fst) B ∧ UIn h b1 b2 b3 p n c q m d L nx (delA L ds ++ numL nx (ins.take i)) (nx + (i : Nat)) (B + G) h', fun x _ => (im - x.2.1).toNat, ⟨0, 0, rfl, Nat.zero_le _, Sl.nil, ?_⟩, ?_⟩
  · rw [List.take_zero, Bag.zero_add]
    show UIn h b1 b2 b3 p n c q m d L nx (delA L ds ++ []) _ G h1
    rw [List.append_nil, show nx + ((0 : Nat) : Int) = nx by omega]
    exact u
  clear u
  rintro ⟨⟨oq, om, od⟩, z, _⟩ h2 ⟨i, B, hz, hi, oo, p', n', c', q', m', d', O, w, s⟩
  dsimp only at hz oo ⊢
  subst hz
  rw [r50_Batch_b18_eq]
  have hom := oo.len
  rw [List.length_map, numL_len, List.length_take] at hom
  refine condP (fun hlt => ?_) (fun hge => ?_)
  · have hil : i < ins.length := by omega
    have htk : ins.take (i + 1) = ins.take i ++ [ins.getD i tRec.d] := by rw [getD_get hil, List.take_succ_eq_append_getElem hil]
    have hlen : (ins.take i).length = i := by rw [List.length_take]; omega
    have hk := keys_take h4v hil nx
    have hv : vRec (ins.getD i tRec.d) = true := by rw [getD_get hil]; exact h1v _ (List.getElem_mem hil)
    have lo := num_ok (ins.take i) (delA_ok LO ds) (fun r hr => h1v r (List.mem_of_mem_take hr)) (by rw [hlen]; omega)
    rw [hlen] at lo
    have hll : (delA L ds ++ numL nx (ins.take i)).length < 1000 := by rw [List.length_append, numL_len, hlen]; omega
    have e19 : ∀ (nb : Nat) (h' : Hp) (p2 : Option Addr) (n2 c2 : Nat) (q2 : Option Addr) (m2 d2 : Nat) (O1 O2 : Bag), Sl TI p2 n2 c2 ((delA L ds ++ numL nx (ins.take (i + 1))).map Prod.fst) O1 → Sl tRec q2 m2 d2 ((delA L ds ++ numL nx (ins.take (i + 1))).map Prod.snd) O2 →
        St h h' (cA nb (tb50 p2 n2 c2 q2 m2 d2 (nx + ((i + 1 : Nat) : Int))) 29 + ((O1 + O2) + (cA b3 (tb50 p' n' c' q' m' d' (nx + (i : Nat))) 29 + (O + (cA b1 (tb50 p n c q m d nx) 29 + (cA b2 (tb50 none 0 0 none 0 0 0) 29 + (B + G))))))) →
        r50_Batch_b19 ip im ic (some ⟨b2, 0, none⟩) (some ⟨b3, 0, none⟩) oq om od (i : Int) (some ⟨nb, 0, none⟩) (nx + (i : Nat)) h' (fun s' h' => (∃ (i : Nat) (B : Bag), s'.2.1 = i ∧ i ≤ im ∧ Sl TI s'.1.1 s'.1.2.1 s'.1.2.2 ((numL nx (ins.take i)).map Prod.fst) B ∧ UIn h b1 b2 b3 p n c q m d L nx (delA L ds ++ numL nx (ins.take i)) (nx + (i : Nat)) (B + G) h') ∧ (im - s'.2.1).toNat < (im - (i : Int)).toNat) (BatRQ h p n c q m d L nx ds ins) := fun nb h' p2 n2 c2 q2 m2 d2 O1 O2 o1 o2 s => by
      rw [r50_Batch_b19_eq]
      refine ⟨_, _, _, _, _, _, _, s.ld0, s.ldB, s.ldB, s.wr3 fun h3 s => ?_⟩
      refine push_sl ok_int (s.at B) (cs := [_]) oo (x := nx + (i : Nat)) rfl rfl (by omega) fun p3 c3 h4 B2 ob s => ?_
      rw [r50_Batch_b21_eq]
      refine ⟨⟨by omega, by omega⟩, ⟨i + 1, B2, by push_cast; rfl, by omega, ?_, p2, n2, c2, q2, m2, d2, O1 + O2, .inr ⟨O1, O2, o1, o2, rfl⟩, ?_⟩, by dsimp only; omega⟩
      · rw [htk, numL_app, List.map_append, hlen]
        exact ob
      · exact ((((s.find nb).drop).to (B := O + (cA b3 (tb50 p2 n2 c2 q2 m2 d2 (nx + ((i + 1 : Nat) : Int))) 29 + ((O1 + O2) + (cA b1 (tb50 p n c q m d nx) 29 + (cA b2 (tb50 none 0 0 none 0 0 0) 29 + (B2 + G))))))).drop)
    have eL : delA L ds ++ numL nx (ins.take (i + 1)) = (delA L ds ++ numL nx (ins.take i)) ++ [(nx + (i : Nat), ins.getD i tRec.d)] := by rw [htk, numL_app, hlen, List.append_assoc]
    have enx : nx + ((i + 1 : Nat) : Int) = nx + (i : Nat) + 1 := by push_cast; omega
    rw [eL, enx] at e19
    obtain ⟨q1, q2, q3, q4⟩ := w.rd r1 r2 hc hdm (s.at O)
    refine ⟨_, _, _, _, _, _, _, s.ld0, s.ldB, s.ldB, rec_rd2 (ri.ext s.ext) (by omega) fun ad c0 c1 c2 c3 c4 => ⟨?_, ?_⟩⟩
    · refine (Insert_r (v := encT p' n' c' q' m' d' (nx + (i : Nat))) ⟨p', n', c', q', m', d', rfl, q1, q2, q3, q4⟩ lo (by omega) (ins.getD i tRec.d)).mono fun w1 h3 hw => ?_
      rcases hw with ⟨hw, _⟩ | ⟨_, hw, _⟩ | ⟨_, _, hw, _⟩ | ⟨_, _, _, v', O', rfl, ⟨p2, n2, c2, q2, m2, d2, O1, O2, rfl, o1, o2, rfl⟩, st⟩
      · rw [hv] at hw; cases hw
      · exact absurd hw hk
      · omega
      have s := s.join st
      refine ⟨_, _, _, _, _, _, _, _, _, rfl, s.new (cs := [_, _, _]) fun nb h4 _ s => s.wr3 fun h5 s => e19 nb h5 p2 n2 c2 q2 m2 d2 O1 O2 o1 o2 s⟩
    · refine s.new (cs := [_, _, _]) fun nb h4 x4 s => ⟨⟨_, _, _, _, _, x4.cell c0, x4.cell c1, x4.cell c2, x4.cell c3, x4.cell c4, rfl⟩, ⟨_, _, _, _, _, _, _, s.ld0, s.ldB, s.ldB, rfl⟩, ?_⟩
      refine (Insert_r (v := encT p' n' c' q' m' d' (nx + (i : Nat))) ⟨p', n', c', q', m', d', rfl, q1.ext x4, q2.ext x4, q3, q4⟩ lo (by omega) (ins.getD i tRec.d)).mono fun w1 h3 hw => ?_
      rcases hw with ⟨hw, _⟩ | ⟨_, hw, _⟩ | ⟨_, _, hw, _⟩ | ⟨_, _, _, v', O', rfl, ⟨p2, n2, c2, q2, m2, d2, O1, O2, rfl, o1, o2, rfl⟩, st⟩
      · rw [hv] at hw; cases hw
      · exact absurd hw hk
      · omega
      have s := s.join st
      exact ⟨_, _, _, _, _, _, _, _, _, rfl, s.wr3 fun h5 s => e19 nb h5 p2 n2 c2 q2 m2 d2 O1 O2 o1 o2 s.to⟩
  · obtain rfl : i = im := by omega
    rw [List.take_of_length_le (by omega)] at oo w
    rw [r50_Batch_b20_eq]
    refine ⟨_, _, _, _, _, _, _, s.ld0, s.ldB, s.ldB, s.wr3 fun h3 s => ⟨_, _, _, _, _, _, _, s.ld0, s.ldB, s.ldB, .inr ⟨hb, p', n', c', q', m', d', O, oq, om, od, B, by rw [hli], oo, by rw [hli]; exact w, ?_⟩⟩⟩
    exact (((((s.find b1).drop).find b2).drop).find b3).drop.to (B := G + (B + O)) |>.drop
end
end Go.Proofs.YtfkccighnkepgaaGreat
