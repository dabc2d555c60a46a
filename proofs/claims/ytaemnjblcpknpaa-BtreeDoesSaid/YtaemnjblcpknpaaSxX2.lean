/- Part B25 B26 B27 B28 B29 R1 FB1 B30 X0 X1 X2 of the proof: contracts of functions of the program, and what follows from them. -/
import Derived.Test.YtaemnjblcpknpaaSxB24
import Derived.Test.YtaemnjblcpknpaaSxB14
import Derived.Deep.Slices
import Derived.OpenShut
import Derived.Test.YtaemnjblcpknpaaRows
import Derived.WalkKit
import Derived.ProofKit
import Derived.ShutString
import Derived.ChangeOld
import Derived.Below
import Derived.ChangeMaps5
import Derived.Deep.Grids
/- B-trees: Remove. -/
set_option maxRecDepth 100000
namespace Go.Proofs.Ytaemnjblcpknpaa
open Go Go.Sx
def removeS (xs : List E) (key : Int) : List E × Int × Int :=
  if KeyP key then (if hasKey (upS xs key) key = true then (lowS xs key ++ (upS xs key).tail, valOf (upS xs key), 0) else (xs, 0, 12)) else (xs, 0, 1)
/-- A node on the way is written anew. -/
theorem HoldC.edit {root : Nat} : ∀ {m : Nat} {gs fs : List Fr} {f : Fr} {x : Nat} {A : Bag}, HoldC root m (gs ++ f :: fs) x A → ∃ ks An Ar, A = An + Ar ∧ NodeA f.b (f.eL ++ f.eR) ks An ∧
    ∀ eR2 An', eR2.length = f.eR.length → NodeA f.b (f.eL ++ eR2) ks An' → HoldC root m (gs ++ { f with eR := eR2 } :: fs) x (An' + Ar)
  | m, [], fs, f, x, _, ⟨A1, A2, rfl, h0, h4⟩ => by
    obtain ⟨l1, l2, B1, B2, B3, rfl, h1, h2, h3⟩ := h0
    exact ⟨_, B1, B2 + B3 + A2, by ac_rfl, h1, fun eR2 An' hl hn => ⟨An' + (B2 + B3), A2, by ac_rfl, ⟨l1, by show f.tR.length = eR2.length; rw [hl]; exact l2, An', B2, B3, rfl, hn, h2, h3⟩, h4⟩⟩
  | m, g :: gs, fs, f, x, _, ⟨A1, A2, rfl, h1, h2⟩ => by
    obtain ⟨ks, An, Ar, rfl, h3, h4⟩ := HoldC.edit h2
    exact ⟨ks, An, A1 + Ar, by ac_rfl, h3, fun eR2 An' hl hn => ⟨A1, An' + Ar, by ac_rfl, h1, h4 eR2 An' hl hn⟩⟩
theorem Lb_edit {eR2 : List E} : ∀ {m : Nat} {gs fs : List Fr} {f : Fr}, Lb m (gs ++ { f with eR := eR2 } :: fs) = Lb m (gs ++ f :: fs)
  | m, [], fs, f => rfl
  | m, g :: gs, fs, f => by simp only [List.cons_append, Lb]; rw [Lb_edit]
theorem Rb_edit {e y : E} {eR' : List E} {m : Nat} {gs fs : List Fr} {f : Fr} (he : f.eR = e :: eR') (hg : Rb m gs = []) (ht : f.tR.length = f.eR.length) : ∃ Y, Rb m (gs ++ f :: fs) = e :: Y ∧ Rb m (gs ++ { f with eR := y :: eR' } :: fs) = y :: Y := by
  induction gs generalizing m with
  | nil =>
    rw [he] at ht
    cases h : f.tR with
    | nil => rw [h] at ht; simp at ht
    | cons t tR =>
      refine ⟨flat m t ++ wR eR' (tR.map (flat m)) ++ Rb (m + 1) fs, ?_, ?_⟩
      · simp [Rb, behind, he, h, wR]
      · simp [Rb, behind, wR, h]
  | cons g gs ih =>
    simp only [Rb, List.append_eq_nil_iff] at hg
    obtain ⟨Y, h1, h2⟩ := ih (m := m + 1) hg.2
    refine ⟨Y, ?_, ?_⟩
    · simp only [List.cons_append, Rb, hg.1, List.nil_append]; exact h1
    · simp only [List.cons_append, Rb, hg.1, List.nil_append]; exact h2
theorem Rb_app : ∀ {m : Nat} {gs fs : List Fr}, Rb m (gs ++ fs) = Rb m gs ++ Rb (m + gs.length) fs
  | m, [], fs => rfl
  | m, g :: gs, fs => by
    simp only [List.cons_append, Rb, List.length_cons]
    rw [Rb_app, List.append_assoc, show m + 1 + gs.length = m + (gs.length + 1) by omega]
theorem SzC_edit {lo hi : Nat} {eR2 : List E} : ∀ {m : Nat} {gs fs : List Fr} {f : Fr}, eR2.length = f.eR.length → SzC lo hi m (gs ++ f :: fs) → SzC lo hi m (gs ++ { f with eR := eR2 } :: fs)
  | m, [], fs, f, hl, ⟨h1, h2, h3, h4⟩ => ⟨by
      have e : (f.eL ++ eR2).length = (f.eL ++ f.eR).length := by simp [hl]
      show _ ≤ (f.eL ++ eR2).length ∧ (f.eL ++ eR2).length ≤ hi
      rw [e]; exact h1, h2, h3, h4⟩
  | m, g :: gs, fs, f, hl, ⟨h1, h2, h3, h4⟩ => by
    refine ⟨?_, h2, h3, SzC_edit hl h4⟩
    have e : (match gs ++ { f with eR := eR2 } :: fs with | [] => 1 | _ => lo) = lo := by cases gs <;> rfl
    have e' : (match gs ++ f :: fs with | [] => 1 | _ => lo) = lo := by cases gs <;> rfl
    have h1' := h1.1
    refine ⟨?_, h1.2⟩
    cases gs <;> exact h1.1
theorem blks_edit {eR2 : List E} {gs fs : List Fr} {f : Fr} : blks (gs ++ { f with eR := eR2 } :: fs) = blks (gs ++ f :: fs) ∧ idxs (gs ++ { f with eR := eR2 } :: fs) = idxs (gs ++ f :: fs) := by simp [blks, idxs]
theorem SzB_lo {lo hi m : Nat} {f : Fr} {gs fs : List Fr} {t : BT} (h : Sz lo hi m t) : SzB lo hi m (gs ++ f :: fs) t := by
  cases gs <;> exact h.b
section
variable {h0 : Hp} {order tb : Nat}
theorem remove_b3_ok {h : Hp} {xs target : List E} {root n k j : Nat} {u : BT} {fs : List Fr} {vis : Int} {value : Int} {Ac Au B1' B2' F : Bag} {nodes atv : Option Addr} {nC aC : Nat} {I : List Int} (hor : 3 ≤ order) (h64 : order ≤ 64) (hnn : n ≤ 100) (hvis : 0 ≤ vis ∧ vis ≤ 100000000000)
    (oN : Sl TP nodes (fs.length + 1) nC (blks fs ++ [k]) B1') (oI : Sl TI atv (fs.length + 1) aC I B2') (hI : I = idxs fs ++ [(j : Int)]) (hj : j < u.es.length)
    (hC : HoldC root 0 fs k Ac) (hu : Hold 0 k u Au) (sc : SzC ((order + 1) / 2 - 1) (order - 1) 0 fs) (sb : SzB ((order + 1) / 2 - 1) (order - 1) 0 fs u) (hn : fs.length = n)
    (hf : Lb 0 fs ++ ((u.es.take j ++ u.es.drop (j + 1)) ++ Rb 0 fs) = target) (hlen : target.length + 1 = xs.length) (hmost : xs.length ≤ 2000)
    (s : St h0 h (treeC tb order xs.length (some ⟨root, 0, none⟩) vis + (Ac + (Au + (B1' + (B2' + F)))))) :
    btree_Tree_Remove_b3 (some ⟨tb, 0, none⟩) nodes (fs.length + 1) nC atv (fs.length + 1) aC value h (fun v h' => ∃ A' vis', (vis ≤ vis' ∧ vis' ≤ vis + 1000) ∧ v = .tuple #[.int .i64 value, .int .i64 0] ∧ TreeA order target tb vis' A' ∧ St h0 h' (A' + F)) := by
  rw [btree_Tree_Remove_b3_eq]
  refine ⟨_, s.cellA 3, ⟨by omega, by omega⟩, ?_⟩
  refine s.wr (o := 3) (add_mk _ _ _) (by simp) fun h18 s18 => ?_
  refine ⟨_, s18.cellA 1, ⟨by omega, by omega⟩, ?_⟩
  refine s18.wr (o := 1) (add_mk _ _ _) (by simp) fun h19 s19 => ?_
  have el : (xs.length : Int) - 1 = (target.length : Int) := by omega
  rw [el] at s19
  have s19 : St h0 h19 (treeC tb order target.length (some ⟨root, 0, none⟩) (vis + ((fs.length + 1 : Nat) : Int)) + (Ac + (Au + (B1' + (B2' + F))))) := s19
  refine (shrink_ok (n := n) hor h64 (by omega) ⟨by omega, by omega⟩ oN oI hI hj hC hu sc sb hn hf rfl s19).mono fun v h' ⟨hv, A', vis', hv', ta, s'⟩ => ⟨hv, A', vis', ⟨by omega, by omega⟩, rfl, ta, s'⟩
/-- The way down to the greatest entry before another one. -/
def DownS (order root n : Nat) (A : Bag) (X : List E) (f0 : Fr) (fs gs : List Fr) (m x : Nat) (ux : BT) (Ac Ax : Bag) : Prop :=
  A = Ac + Ax ∧ HoldC root m (gs ++ f0 :: fs) x Ac ∧ Hold m x ux Ax ∧ SzC ((order + 1) / 2 - 1) (order - 1) m (gs ++ f0 :: fs) ∧ Sz ((order + 1) / 2 - 1) (order - 1) m ux ∧ Lb m (gs ++ f0 :: fs) ++ flat m ux = X ∧ Rb m gs = [] ∧ m + (gs ++ f0 :: fs).length = n
theorem DownS.step {root n m x : Nat} {A Ac Ax : Bag} {X : List E} {f0 : Fr} {fs gs : List Fr} {ux : BT} (d : DownS order root n A X f0 fs gs (m + 1) x ux Ac Ax) :
    ∃ fx x' ux' Ac' Ax', fx.b = x ∧ fx.eL = ux.es ∧ fx.eR = [] ∧ fx.kL.length = ux.es.length ∧ DownS order root n A X f0 fs (fx :: gs) m x' ux' Ac' Ax' := by
  obtain ⟨rfl, hC, hu, sc, sz, hX, hR, hn⟩ := d
  obtain ⟨fx, x', ux', A1, A2, hb, hfL, hfR, hfill, rfl, hF, hu', hkl⟩ := hu.down (eL := ux.es) (eR := []) (by simp) rfl
  have hzb := SzB_lo (gs := gs) (fs := fs) (f := f0) sz
  obtain ⟨w1, w2⟩ := hzb.down hfill sc
  have hok := hF.2.1
  rw [hfR] at hok
  have htR : fx.tR = [] := List.eq_nil_of_length_eq_zero hok
  have hbe : behind m fx = [] := by simp [behind, hfR, wR]
  refine ⟨fx, x', ux', A1 + Ac, A2, hb, hfL, hfR, hkl, by ac_rfl, ⟨A1, Ac, rfl, hF, by rw [hb]; exact hC⟩, hu', w1, w2, ?_, ?_, by simp at hn ⊢; omega⟩
  · rw [← hX, ← hfill, flat_fill ux' hF.1, hbe, List.append_nil]
    simp [Lb]
  · simp [Rb, hbe, hR]
theorem Remove_ok {h : Hp} {xs : List E} {vis key : Int} {A F : Bag} (hor : 3 ≤ order) (h64 : order ≤ 64) (so : Srt xs) (hmost : xs.length ≤ 2000) (hvis : 0 ≤ vis ∧ vis ≤ 10000000000) (ta : TreeA order xs tb vis A) (s : St h0 h (A + F)) :
    HCalls Try.prog 19 #[ptr tb, .int .i64 key] h (fun v h' => ∃ A' vis', (vis ≤ vis' ∧ vis' ≤ vis + 1000) ∧ v = .tuple #[.int .i64 (removeS xs key).2.1, .int .i64 (removeS xs key).2.2] ∧ TreeA order (removeS xs key).1 tb vis' A' ∧ St h0 h' (A' + F)) := by
  refine btree_Tree_Remove_call ?_
  rw [btree_Tree_Remove_b0_eq]
  refine condNo rfl ?_
  refine s.new (cs := [.int .i64 key]) fun bx h1 _ s1 => ?_
  refine (number1 s1.blk).mono fun v1 h2 ⟨hh, hv⟩ => ?_
  subst hh
  refine ⟨_, hv, condN (fun hkp => ?_) (fun hkp => ?_)⟩
  · rw [removeS, if_neg hkp]
    exact ⟨A, vis, ⟨by omega, by omega⟩, rfl, ta, s1.drop⟩
  rw [btree_Tree_Remove_b1_eq, removeS, if_pos hkp]
  have s2 := s1.drop
  rcases ta with ⟨rfl, rfl⟩ | ⟨n, root, t, A1, rfl, hh, hfl, hsz⟩
  · refine (path_nil (s2.cellA 2)).mono fun v1 h1 ⟨hh, hv⟩ => ?_
    subst hh
    refine ⟨_, _, _, _, _, _, _, hv, condYes rfl ⟨_, s2.cellA 3, ⟨by omega, by omega⟩, ?_⟩⟩
    refine s2.wr (o := 3) (add_mk _ _ _) (by simp) fun h3 s3 => ?_
    exact ⟨_, vis + 0, ⟨by omega, by omega⟩, rfl, .inl ⟨rfl, rfl⟩, s3⟩
  have hxl : 2 ^ (n + 1) ≤ xs.length + 1 := by rw [← hfl]; exact hsz.low hh (by omega)
  have hn := pow_bound hxl (by omega)
  have s3 := s2.to (B := treeC tb order xs.length (some ⟨root, 0, none⟩) vis + (A1 + F))
  have so' : Srt (flat n t) := by rw [hfl]; exact so
  refine (path_ok (key := key) (s3.cellA 2) hh (s3.at A1) so' hsz (by omega) (by omega)).mono fun v1 h3 ⟨m, fs, k, u, Ac, Au, eL, eR, q1, q2, d1, d2, B1, B2, hv, sB, o1, o2, w, he, hl, hr, hend⟩ => ?_
  refine ⟨_, _, _, _, _, _, _, hv, ?_⟩
  have hfs := w.hgt
  have s4 : St h0 h3 (treeC tb order xs.length (some ⟨root, 0, none⟩) vis + (Ac + (Au + (B1 + (B2 + F))))) := by have := s3.join sB; rw [w.bag] at this; exact this.to
  have rN := o1.rd (s4.at B1)
  have rI := o2.rd (s4.at B2)
  have gN : (blks fs ++ [k]).getD fs.length 0 = k := blks_get fs k []
  have gI : (idxs fs ++ [(eL.length : Int)]).getD fs.length 0 = (eL.length : Int) := idxs_get fs _ []
  refine cond_intro (fun hnf => ?_) (fun hyf => ?_)
  · -- there is no such key
    have hf : hasKey eR key = false := by simpa using hnf
    have hm0 : m = 0 := by rcases hend with h | h; rw [hf] at h; cases h; exact h
    obtain ⟨hcut, hX, hY⟩ := w.cut he hl hr hm0
    have hkey : hasKey (eR ++ Rb m fs) key = false := by rw [hasKey_app w.gt]; exact hf
    rw [hfl] at hcut
    obtain ⟨eX, eY⟩ := cut_eq hcut hX hY
    have hnk : ¬ hasKey (upS xs key) key = true := by rw [← eY, hkey]; simp
    rw [if_neg hnk]
    refine ⟨_, s4.cellA 3, ⟨by omega, by omega⟩, ?_⟩
    refine s4.wr (o := 3) (add_mk _ _ _) (by simp) fun h5 s5 => ?_
    have s5 : St h0 h5 (treeC tb order xs.length (some ⟨root, 0, none⟩) (vis + ((fs.length + 1 : Nat) : Int)) + (Ac + (Au + (B1 + (B2 + F))))) := s5
    refine ⟨_, vis + ((fs.length + 1 : Nat) : Int), ⟨by omega, by omega⟩, rfl, .inr ⟨n, root, t, Ac + Au, rfl, w.bag ▸ hh, hfl, hsz⟩, (s5.to (B := B1 + B2 + (treeC tb order xs.length (some ⟨root, 0, none⟩) (vis + ((fs.length + 1 : Nat) : Int)) + (Ac + Au) + F))).drop⟩
  -- there is one
  have hf : hasKey eR key = true := by simpa using hyf
  obtain ⟨old, eR', rfl⟩ : ∃ old eR', eR = (key, old) :: eR' := by
    cases eR with
    | nil => cases hf
    | cons e eR' =>
      have : e.1 = key := of_decide_eq_true hf
      exact ⟨e.2, eR', by rw [← this]⟩
  -- where it stands
  have cut : ∀ X Y, xs = X ++ (key, old) :: Y → removeS xs key = (X ++ Y, old, 0) := by
    intro X Y hxy
    have hs := so
    rw [hxy, Srt.app, Srt.con] at hs
    have hup := upS_found (X := X) (Y := Y) hxy (fun x hx => hs.2.2 x hx (key, old) (by simp)) (fun y hy => Int.le_of_lt (hs.2.1.1 y hy))
    have hlow : lowS xs key = X := ((cut_eq hxy (fun x hx => hs.2.2 x hx (key, old) (by simp)) (fun y hy => by
      rcases List.mem_cons.1 hy with rfl | h
      · exact Int.le_refl _
      · exact Int.le_of_lt (hs.2.1.1 y h))).1).symm
    rw [removeS, if_pos hkp, if_pos (by rw [hup]; exact decide_eq_true rfl), hup, hlow]
    rfl
  have hR : (if hasKey (upS xs key) key = true then (lowS xs key ++ (upS xs key).tail, valOf (upS xs key), 0) else (xs, 0, 12)) = removeS xs key := by rw [removeS, if_pos hkp]
  rw [hR]
  have elen : ((fs.length + 1 : Nat) : Int) - 1 = (fs.length : Int) := by omega
  have ej : Int.toNat (fs.length : Int) = fs.length := Int.toNat_natCast _
  rw [elen]
  refine ⟨⟨by omega, by omega⟩, rN.ptr (by omega) (by omega) ?_⟩
  rw [ej, gN]
  refine ⟨⟨by omega, by omega⟩, rI.int (by omega) (by omega) ?_⟩
  rw [ej, gI]
  have sU := s4.to (B := Au + (treeC tb order xs.length (some ⟨root, 0, none⟩) vis + (Ac + (B1 + (B2 + F)))))
  obtain ⟨p1, p2, p3, c1, c2, c3, m3, kb, r1, r2, hleaf⟩ := w.sub.read sU
  have hlen : u.es.length = eL.length + (eR'.length + 1) := by rw [he, List.length_append]; rfl
  have hg : (u.es.map Prod.snd).getD eL.length 0 = old := by rw [he]; simp [List.getD]
  refine ⟨_, _, _, Blk.cellA kb 1, r2.int (by omega) (by omega) ?_⟩
  rw [Int.toNat_natCast, hg]
  refine hleaf.mono fun v3 h5 ⟨hh5, hv3⟩ => ?_
  subst hh5
  refine ⟨_, hv3, condN (fun hm0 => ?_) (fun hm0 => ?_)⟩
  · -- the entry before it takes its place
    obtain ⟨m', rfl⟩ : ∃ m', m = m' + 1 := ⟨m - 1, by omega⟩
    obtain ⟨f0, x1, u1, D1, D2, hb, hfL, hfR, hfill, hAu, hF, hu1, hkl⟩ := w.sub.down he rfl
    obtain ⟨w1, w2⟩ := w.szb.down hfill w.szc
    have hAu' : Au = D1 + D2 := hAu
    subst hAu'
    have htR := hF.2.1
    have hdown0 : DownS order root n A1 (Lb m' (f0 :: fs) ++ flat m' u1) f0 fs [] m' x1 u1 (D1 + Ac) D2 := ⟨by rw [w.bag]; ac_rfl, ⟨D1, Ac, rfl, hF, by rw [hb]; exact w.ctx⟩, hu1, w1, w2, rfl, rfl, by simp; omega⟩
    -- all entries
    obtain ⟨Y, hY, _⟩ := Rb_edit (m := m') (gs := []) (fs := fs) (f := f0) (e := (key, old)) (y := (0, 0)) (eR' := eR') hfR rfl htR
    have hxs : xs = (Lb m' (f0 :: fs) ++ flat m' u1) ++ (key, old) :: Y := by
      rw [← hfl, ← w.plug, ← w.hgt, ← hfill]
      have : plug fs (fill f0 u1) = plug (f0 :: fs) u1 := rfl
      rw [this, show m' + 1 + fs.length = m' + (f0 :: fs).length by simp; omega, flat_plug u1 (show OkC (f0 :: fs) from ⟨hF.1, htR, w.ctx.ok⟩)]
      rw [List.append_assoc]
      congr 2
    rw [cut _ _ hxs]
    generalize hX : Lb m' (f0 :: fs) ++ flat m' u1 = X at hdown0 hxs
    have hkid : NN (some (⟨k, 0, none⟩ : Addr)) fun a8 => ∃ (a9 : Option Addr) (L2 C2 : Nat), cell h5 (a8.add 2) = some (.slice a9 L2 C2) ∧ (0 ≤ (eL.length : Int) ∧ (eL.length : Int) < (L2 : Int)) ∧ NN a9 fun a10 => ∃ p2 : Option Addr, cell h5 (a10.add (Int.toNat (eL.length : Int) * 1)) = some (.pointer p2) ∧ p2 = some ⟨x1, 0, none⟩ := by
      have sF := s4.to (B := D1 + (treeC tb order xs.length (some ⟨root, 0, none⟩) vis + (Ac + (D2 + (B1 + (B2 + F))))))
      obtain ⟨q, L, C, hc, rp, hL⟩ := hF.kid sF
      rw [hb] at hc
      have hgl : (f0.kL ++ x1 :: f0.kR).getD eL.length 0 = x1 := by rw [← hkl]; simp [List.getD]
      refine ⟨_, _, C, hc, rp.ptr (by omega) (by rw [hL, List.length_append, List.length_cons]; omega) ?_⟩
      rw [Int.toNat_natCast, hgl]
    obtain ⟨a9, L2, C2, hc9, hL2, hq9⟩ := hkid
    refine ⟨_, _, _, hc9, hL2, ?_⟩
    cases a9 with
    | none => exact hq9.elim
    | some a10 =>
    obtain ⟨p2', hc10, rfl⟩ := hq9
    refine ⟨_, hc10, ?_⟩
    have hbl : blks (f0 :: fs) = blks fs ++ [k] := by simp [blks, hb]
    have hil : idxs (f0 :: fs) = idxs fs ++ [(eL.length : Int)] := by simp [idxs, hfL]
    refine ⟨fun st h' => ∃ gs m2 x ux Ac Ax B1 B2, st.2.2.1 = some ⟨x, 0, none⟩ ∧ DownS order root n A1 X f0 fs gs m2 x ux Ac Ax ∧ st.1.2.1 = (gs ++ f0 :: fs).length ∧ st.2.1.2.1 = (gs ++ f0 :: fs).length ∧ Sl TP st.1.1 st.1.2.1 st.1.2.2 (blks (gs ++ f0 :: fs)) B1 ∧ Sl TI st.2.1.1 st.2.1.2.1 st.2.1.2.2 (idxs (gs ++ f0 :: fs)) B2 ∧
      St h0 h' (treeC tb order xs.length (some ⟨root, 0, none⟩) vis + (Ac + (Ax + (B1 + (B2 + F))))), fun st _ => n + 1 - st.1.2.1, ⟨[], m', x1, u1, D1 + Ac, D2, B1, B2, rfl, hdown0, by simp, by simp, hbl ▸ o1, hil ▸ o2, s4.to⟩, ?_⟩
    rintro ⟨⟨qn, nL, nC⟩, ⟨qa, aL, aC⟩, _, _⟩ h6 ⟨gs, m2, x, ux, Ac2, Ax, E1, E2, rfl, dn, hnl, hal, p1', p2'', s6⟩
    dsimp only at hnl hal p1' p2'' ⊢
    subst hnl hal
    have dn0 := dn
    obtain ⟨hA, hC, hu, sc, sz, hXX, hRb, hnn⟩ := dn
    obtain ⟨xks, X1, X2, hAx, hnax, _, _⟩ := hu.node
    obtain ⟨z1, z2, z3, z4, z5, z6, Z1, Z2, Z3, rfl, nsx⟩ := hnax
    subst hAx
    have kx := (s6.at (nodeC x ux.es.length xks.length z1 z2 z3 z4 z5 z6)).blk
    have hszh := sz.here
    rw [btree_Tree_Remove_b2_eq]
    refine ⟨_, _, _, kx.cell 0, ?_⟩
    -- after both are appended
    have fin : ∀ (h' : Hp) (q q' : Option Addr) (c c' : Nat) (E1' E2' G : Bag), Sl TP q ((gs ++ f0 :: fs).length + 1) c (blks (gs ++ f0 :: fs) ++ [x]) E1' → Sl TI q' ((gs ++ f0 :: fs).length + 1) c' (idxs (gs ++ f0 :: fs) ++ [(ux.es.length : Int)]) E2' →
        St h0 h' (treeC tb order xs.length (some ⟨root, 0, none⟩) vis + (Ac2 + (nodeC x ux.es.length xks.length z1 z2 z3 z4 z5 z6 + (Z1 + (Z2 + Z3)) + X2 + (E1' + (E2' + (F + G)))))) →
        btree_Tree_Remove_b4 (some ⟨tb, 0, none⟩) q ((gs ++ f0 :: fs).length + 1) c q' ((gs ++ f0 :: fs).length + 1) c' (some ⟨k, 0, none⟩) (eL.length : Int) old (some ⟨x, 0, none⟩) h' (fun s' h' => (∃ gs m2 x ux Ac Ax B1 B2, s'.2.2.1 = some ⟨x, 0, none⟩ ∧ DownS order root n A1 X f0 fs gs m2 x ux Ac Ax ∧ s'.1.2.1 = (gs ++ f0 :: fs).length ∧ s'.2.1.2.1 = (gs ++ f0 :: fs).length ∧ Sl TP s'.1.1 s'.1.2.1 s'.1.2.2 (blks (gs ++ f0 :: fs)) B1 ∧ Sl TI s'.2.1.1 s'.2.1.2.1 s'.2.1.2.2 (idxs (gs ++ f0 :: fs)) B2 ∧
          St h0 h' (treeC tb order xs.length (some ⟨root, 0, none⟩) vis + (Ac + (Ax + (B1 + (B2 + F)))))) ∧ n + 1 - s'.1.2.1 < n + 1 - (gs ++ f0 :: fs).length) (fun v h' => ∃ A' vis', (vis ≤ vis' ∧ vis' ≤ vis + 1000) ∧ v = .tuple #[.int .i64 old, .int .i64 0] ∧ TreeA order (X ++ Y) tb vis' A' ∧ St h0 h' (A' + F)) := by
      intro h' q q' c c' E1' E2' G n1 n2 s7
      have s7 := (s7.to (B := G + (treeC tb order xs.length (some ⟨root, 0, none⟩) vis + (Ac2 + (nodeC x ux.es.length xks.length z1 z2 z3 z4 z5 z6 + (Z1 + (Z2 + Z3)) + X2 + (E1' + (E2' + F))))))).drop
      have sx7 := s7.to (B := nodeC x ux.es.length xks.length z1 z2 z3 z4 z5 z6 + (Z1 + (Z2 + Z3)) + X2 + (treeC tb order xs.length (some ⟨root, 0, none⟩) vis + (Ac2 + (E1' + (E2' + F)))))
      obtain ⟨x1', x2', x3', y1', y2', y3', m3', kx7, rx1, rx2, hlf⟩ := hu.read sx7
      rw [btree_Tree_Remove_b4_eq]
      refine hlf.mono fun v8 h8 ⟨hh8, hv8⟩ => ?_
      subst hh8
      refine ⟨_, hv8, condP (fun h0' => ?_) (fun h0' => ?_)⟩
      · -- the leaf: its last entry
        subst h0'
        obtain ⟨ex, y, hexy⟩ : ∃ a z, ux.es = a ++ [z] := by
          rcases List.eq_nil_or_concat ux.es with h | ⟨a, z, h⟩
          · rw [h] at hszh; simp at hszh; omega
          · exact ⟨a, z, by simpa using h⟩
        have huxl : ux.es.length = ex.length + 1 := by rw [hexy]; simp
        obtain ⟨ks, An, Ar, rfl, hna, hedit⟩ := hC.edit
        obtain ⟨r1', r2', r3', e1', e2', e3', C1, C2, C3, rfl, ns⟩ := hna
        have s8 := s7.to (B := nodeC f0.b (f0.eL ++ f0.eR).length ks.length r1' r2' r3' e1' e2' e3' + (C1 + (C2 + C3)) + (Ar + (treeC tb order xs.length (some ⟨root, 0, none⟩) vis + (nodeC x ux.es.length xks.length z1 z2 z3 z4 z5 z6 + (Z1 + (Z2 + Z3)) + X2 + (E1' + (E2' + F))))))
        have hbk := (s8.at (nodeC f0.b (f0.eL ++ f0.eR).length ks.length r1' r2' r3' e1' e2' e3')).blk
        rw [hb] at hbk
        rw [btree_Tree_Remove_b5_eq]
        have el9 : (((gs ++ f0 :: fs).length + 1 : Nat) : Int) - 1 = ((gs ++ f0 :: fs).length : Int) := by omega
        have ej9 : Int.toNat ((gs ++ f0 :: fs).length : Int) = (gs ++ f0 :: fs).length := Int.toNat_natCast _
        have ekl : ((ux.es.length : Nat) : Int) - 1 = (ex.length : Int) := by omega
        have ekn : Int.toNat (ex.length : Int) = ex.length := Int.toNat_natCast _
        rw [el9]
        refine ⟨⟨by omega, by omega⟩, (n1.rd (s8.at E1')).ptr (by omega) (by omega) ?_⟩
        rw [ej9, blks_get]
        refine ⟨_, _, _, kx7.cell 0, ⟨by omega, by omega⟩, _, _, _, hbk.cell 0, _, _, _, Blk.cellA hbk 1, _, _, _, kx7.cell 0, ?_⟩
        rw [ekl]
        refine rx1.int (by omega) (by omega) ⟨_, _, _, Blk.cellA kx7 1, rx2.int (by omega) (by omega) ?_⟩
        rw [ekn, hexy, map_mid rfl, map_mid rfl]
        have hel0 : (f0.eL ++ f0.eR).length = eL.length + (eR'.length + 1) := by rw [hfL, hfR]; simp
        refine ns.s1.wrI (s8.at C1) (x := y.1) (by omega) (by omega) rfl rfl fun h9 C1' a1' s9 => ?_
        refine ns.s2.wrI (s9.at C2) (x := y.2) (by omega) (by omega) rfl rfl fun h10 C2' a2' s10 => ?_
        rw [Int.toNat_natCast] at a1' a2'
        refine ⟨⟨by omega, by omega⟩, ?_⟩
        refine n2.wrI (s10.at E2') (x := (ex.length : Int)) (by omega) (by omega) rfl rfl fun h11 E2'' n2' s11 => ?_
        rw [ej9] at n2'
        have hset : (idxs (gs ++ f0 :: fs) ++ [(ux.es.length : Int)]).set (gs ++ f0 :: fs).length (ex.length : Int) = idxs (gs ++ f0 :: fs) ++ [(ex.length : Int)] := set_mid (by simp [idxs]; omega)
        rw [hset] at n2'
        have y1 : ((f0.eL ++ f0.eR).map Prod.fst).set eL.length y.1 = (f0.eL ++ y :: eR').map Prod.fst := by rw [hfL, hfR, List.map_append, List.map_cons, set_mid (by simp)]; simp
        have y2 : ((f0.eL ++ f0.eR).map Prod.snd).set eL.length y.2 = (f0.eL ++ y :: eR').map Prod.snd := by rw [hfL, hfR, List.map_append, List.map_cons, set_mid (by simp)]; simp
        have yl : (f0.eL ++ y :: eR').length = (f0.eL ++ f0.eR).length := by rw [hfR]; simp
        rw [y1] at a1'
        rw [y2] at a2'
        have hC' := hedit (y :: eR') (nodeC f0.b (f0.eL ++ f0.eR).length ks.length r1' r2' r3' e1' e2' e3' + (C1' + (C2' + C3))) (by rw [hfR]; rfl) ⟨r1', r2', r3', e1', e2', e3', C1', C2', C3, by rw [yl], ⟨a1'.cast yl.symm rfl, a2'.cast yl.symm rfl, ns.s3⟩⟩
        obtain ⟨Y2, hY2, hY3⟩ := Rb_edit (m := 0) (gs := gs) (fs := fs) (f := f0) (e := (key, old)) (y := y) (eR' := eR') hfR hRb htR
        have hYY : Y2 = Y := by
          have hgl : 0 + gs.length = m' := by simp at hnn; omega
          rw [Rb_app, hRb, List.nil_append, hgl] at hY2
          have h9 := hY2.symm.trans hY
          injection h9
        subst hYY
        obtain ⟨be1, be2⟩ := blks_edit (eR2 := y :: eR') (gs := gs) (fs := fs) (f := f0)
        have hll : (gs ++ { f0 with eR := y :: eR' } :: fs).length = (gs ++ f0 :: fs).length := by simp
        have key9 := remove_b3_ok (h0 := h0) (tb := tb) (xs := xs) (target := X ++ Y2) (value := old) (F := F) (nodes := q) (atv := q') (nC := c) (aC := c') (fs := gs ++ { f0 with eR := y :: eR' } :: fs) (k := x) (j := ex.length) (u := ux) hor h64 (n := n) (by omega) (vis := vis) ⟨by omega, by omega⟩
          (by rw [be1, hll]; exact n1) (by rw [hll]; exact n2') (by rw [be2]) (by omega) hC' hu (SzC_edit (by rw [hfR]; rfl) sc) (SzB_lo sz) (by rw [hll]; omega) (by
            rw [Lb_edit, hY3, ← hXX]
            show _ ++ ((ux.es.take ex.length ++ ux.es.drop (ex.length + 1)) ++ y :: Y2) = Lb 0 (gs ++ f0 :: fs) ++ ux.es ++ Y2
            rw [hexy]
            simp) (by rw [hxs]; simp; omega) hmost (by exact s11.to)
        rw [hll] at key9
        exact key9
      · -- further down
        obtain ⟨m3, rfl⟩ : ∃ m3, m2 = m3 + 1 := ⟨m2 - 1, by omega⟩
        obtain ⟨fx, x9, u9, Ac9, Ax9, g1, g2, g3, g4, dn9⟩ := dn0.step
        have dn9' := dn9
        obtain ⟨hA9, hC9, _⟩ := dn9
        obtain ⟨K1, K2, rfl, hF9, _⟩ := hC9
        rw [btree_Tree_Remove_b6_eq]
        have sF := (show St h0 h8 (A1 + (treeC tb order xs.length (some ⟨root, 0, none⟩) vis + (E1' + (E2' + F)))) by rw [hA]; exact s7.to)
        rw [hA9] at sF
        obtain ⟨q9, L9, C9, hc9', rp9, hL9⟩ := hF9.kid (F := K2 + Ax9 + (treeC tb order xs.length (some ⟨root, 0, none⟩) vis + (E1' + (E2' + F)))) sF.to
        rw [g1] at hc9'
        have hkR0 : fx.kR = [] := by
          obtain ⟨_, l2, _, _, _, _, _, _, h3⟩ := hF9
          have := h3.len
          rw [g3] at l2
          exact List.eq_nil_of_length_eq_zero (by rw [this]; exact l2)
        rw [hkR0] at rp9 hL9
        have hL9' : L9 = ux.es.length + 1 := by rw [hL9, List.length_append, g4]; rfl
        have e9 : ((L9 : Nat) : Int) - 1 = (ux.es.length : Int) := by omega
        have hg9 : (fx.kL ++ x9 :: []).getD ux.es.length 0 = x9 := getD_mid g4
        refine ⟨_, _, _, hc9', _, _, C9, hc9', ⟨by omega, by omega⟩, ?_⟩
        rw [e9]
        refine rp9.ptr (by omega) (by omega) ?_
        rw [Int.toNat_natCast, hg9]
        have hbl9 : blks (fx :: gs ++ f0 :: fs) = blks (gs ++ f0 :: fs) ++ [x] := by simp [blks, g1]
        have hil9 : idxs (fx :: gs ++ f0 :: fs) = idxs (gs ++ f0 :: fs) ++ [(ux.es.length : Int)] := by simp [idxs, g2]
        refine ⟨⟨fx :: gs, m3, x9, u9, K1 + K2, Ax9, E1', E2', rfl, dn9', by simp, by simp, hbl9 ▸ n1, hil9 ▸ n2, ?_⟩, ?_⟩
        · exact sF.to
        · simp only; omega
    refine ⟨?_, ?_⟩
    · refine s6.new (cs := [.pointer (some ⟨x, 0, none⟩)]) fun b2 h7 x7 s7 => ?_
      have ox : Sl TP (some ⟨b2, 0, none⟩) 1 1 [x] (cA b2 [.pointer (some ⟨x, 0, none⟩)] 73) := Sl.one rfl
      refine ⟨⟨_, _, _, (kx.ext x7).cell 0, rfl⟩, ?_, ?_⟩
      · refine append_sl ok_node (s7.at E1) p1' (ox.rd (s7.at (cA b2 [.pointer (some ⟨x, 0, none⟩)] 73))) (by omega) fun q c h8 E1' n1 s8 => ?_
        refine ⟨⟨_, _, _, (s8.at (nodeC x ux.es.length xks.length z1 z2 z3 z4 z5 z6)).cell 0, rfl⟩, ?_⟩
        refine s8.new (cs := [.int .i64 (ux.es.length : Int)]) fun b3 h9 x9 s9 => ?_
        have oy : Sl TI (some ⟨b3, 0, none⟩) 1 1 [(ux.es.length : Int)] (cA b3 [.int .i64 (ux.es.length : Int)] 3) := Sl.one rfl
        refine append_sl ok_int (s9.at E2) p2'' (oy.rd (s9.at (cA b3 [.int .i64 (ux.es.length : Int)] 3))) (by omega) fun q' c' h10 E2' n2 s10 => ?_
        exact fin h10 q q' c c' E1' E2' (cA b2 [.pointer (some ⟨x, 0, none⟩)] 73 + cA b3 [.int .i64 (ux.es.length : Int)] 3) n1 n2 s10.to
      · refine s7.new (cs := [.int .i64 (ux.es.length : Int)]) fun b4 h11 x11 s11 => ?_
        have oy : Sl TI (some ⟨b4, 0, none⟩) 1 1 [(ux.es.length : Int)] (cA b4 [.int .i64 (ux.es.length : Int)] 3) := Sl.one rfl
        refine append_sl ok_node (s11.at E1) p1' (ox.rd (s11.at (cA b2 [.pointer (some ⟨x, 0, none⟩)] 73))) (by omega) fun q c h12 E1' n1 s12 => ?_
        refine append_sl ok_int (s12.at E2) p2'' (oy.rd (s12.at (cA b4 [.int .i64 (ux.es.length : Int)] 3))) (by omega) fun q' c' h13 E2' n2 s13 => ?_
        exact fin h13 q q' c c' E1' E2' (cA b2 [.pointer (some ⟨x, 0, none⟩)] 73 + cA b4 [.int .i64 (ux.es.length : Int)] 3) n1 n2 s13.to
    · refine s6.new (cs := [.int .i64 (ux.es.length : Int)]) fun b5 h14 x14 s14 => ?_
      have oy : Sl TI (some ⟨b5, 0, none⟩) 1 1 [(ux.es.length : Int)] (cA b5 [.int .i64 (ux.es.length : Int)] 3) := Sl.one rfl
      refine s14.new (cs := [.pointer (some ⟨x, 0, none⟩)]) fun b6 h15 x15 s15 => ?_
      have ox : Sl TP (some ⟨b6, 0, none⟩) 1 1 [x] (cA b6 [.pointer (some ⟨x, 0, none⟩)] 73) := Sl.one rfl
      refine append_sl ok_node (s15.at E1) p1' (ox.rd (s15.at (cA b6 [.pointer (some ⟨x, 0, none⟩)] 73))) (by omega) fun q c h16 E1' n1 s16 => ?_
      refine append_sl ok_int (s16.at E2) p2'' (oy.rd (s16.at (cA b5 [.int .i64 (ux.es.length : Int)] 3))) (by omega) fun q' c' h17 E2' n2 s17 => ?_
      exact fin h17 q q' c c' E1' E2' (cA b6 [.pointer (some ⟨x, 0, none⟩)] 73 + cA b5 [.int .i64 (ux.es.length : Int)] 3) n1 n2 s17.to
  · -- a leaf
    subst hm0
    have hplug : xs = Lb 0 fs ++ (u.es ++ Rb 0 fs) := by rw [← hfl, ← w.plug, ← w.hgt, flat_plug u w.ctx.ok]; rfl
    have hx2 : xs = (Lb 0 fs ++ eL) ++ (key, old) :: (eR' ++ Rb 0 fs) := by rw [hplug, he]; simp
    rw [cut _ _ hx2]
    refine remove_b3_ok hor h64 (by omega) ⟨by omega, by omega⟩ o1 o2 rfl (u := u) (by omega) w.ctx w.sub w.szc w.szb (n := n) (by omega) ?_ ?_ hmost s4
    · rw [he]; simp
    · rw [hx2]; simp; omega
end
end Go.Proofs.Ytaemnjblcpknpaa

/- B-trees: the law Heights. -/
set_option maxRecDepth 100000
namespace Go.Proofs.Ytaemnjblcpknpaa
open Go Go.Sx
theorem low_sub {xs : List E} {key : Int} : (lowS xs key).Sublist xs := List.takeWhile_sublist _
theorem up_sub {xs : List E} {key : Int} : (upS xs key).Sublist xs := List.dropWhile_sublist _
theorem up_ge {xs : List E} {key : Int} (hs : Srt xs) : ∀ e ∈ upS xs key, key ≤ e.1 := by
  have h1 : Srt (upS xs key) := hs.sublist up_sub
  intro e he
  cases h : upS xs key with
  | nil => rw [h] at he; cases he
  | cons y ys =>
    have hy : ¬ y.1 < key := by
      have := List.head?_dropWhile_not (p := fun e : E => decide (e.1 < key)) xs
      rw [show xs.dropWhile (fun e => decide (e.1 < key)) = y :: ys from h] at this
      simpa using this
    rw [h] at he h1
    rcases List.mem_cons.1 he with rfl | he
    · omega
    · have := (Srt.con.1 h1).1 e he; omega
theorem srt_ins {X Y : List E} {key v : Int} (hX : Srt X) (hY : Srt Y) (h1 : ∀ e ∈ X, e.1 < key) (h2 : ∀ e ∈ Y, key < e.1) : Srt (X ++ (key, v) :: Y) := by
  rw [Srt.app, Srt.con]
  refine ⟨hX, ⟨h2, hY⟩, fun x hx y hy => ?_⟩
  rcases List.mem_cons.1 hy with rfl | hy
  · exact h1 x hx
  · exact Int.lt_trans (h1 x hx) (h2 y hy)
theorem up_tail_gt {xs : List E} {key : Int} (hs : Srt xs) (hk : hasKey (upS xs key) key = true) : ∀ e ∈ (upS xs key).tail, key < e.1 := by
  have h1 : Srt (upS xs key) := hs.sublist up_sub
  cases h : upS xs key with
  | nil => simp
  | cons y ys =>
    rw [h] at h1 hk
    have hy : y.1 = key := of_decide_eq_true hk
    intro e he
    have := (Srt.con.1 h1).1 e he
    omega
theorem putS_srt {xs : List E} {key v : Int} (hs : Srt xs) : Srt (putS xs key v).1 := by
  unfold putS
  have hX : Srt (lowS xs key) := hs.sublist low_sub
  have hY : Srt (upS xs key) := hs.sublist up_sub
  split
  · split
    · rename_i hk
      exact srt_ins hX (hY.sublist (List.tail_sublist _)) low_lt (up_tail_gt hs hk)
    · rename_i hk
      split
      · exact hs
      · exact srt_ins hX hY low_lt (key_gt hY (up_ge hs) (by simpa using hk))
  · exact hs
theorem removeS_srt {xs : List E} {key : Int} (hs : Srt xs) : Srt (removeS xs key).1 := by
  unfold removeS
  split
  · split
    · rename_i hk
      have h1 : Srt (lowS xs key ++ upS xs key) := by rw [← upS_len]; exact hs
      exact h1.sublist (List.Sublist.append (List.Sublist.refl _) (List.tail_sublist _))
    · exact hs
  · exact hs
theorem putS_len {xs : List E} {key v : Int} : xs.length ≤ (putS xs key v).1.length ∧ (putS xs key v).1.length ≤ xs.length + 1 := by
  have h := congrArg List.length (upS_len (xs := xs) (key := key))
  rw [List.length_append] at h
  unfold putS
  split
  · split
    · rename_i hk
      cases hu : upS xs key with
      | nil => rw [hu] at hk; cases hk
      | cons y ys => rw [hu] at h; simp at h ⊢; omega
    · split
      · exact ⟨Nat.le_refl _, Nat.le_succ _⟩
      · simp; omega
  · exact ⟨Nat.le_refl _, Nat.le_succ _⟩
theorem removeS_len {xs : List E} {key : Int} : (removeS xs key).1.length ≤ xs.length := by
  have h := congrArg List.length (upS_len (xs := xs) (key := key))
  rw [List.length_append] at h
  unfold removeS
  split
  · split
    · simp; omega
    · exact Nat.le_refl _
  · exact Nat.le_refl _
theorem putS_mem {xs : List E} {key v : Int} {e : E} (h : e ∈ (putS xs key v).1) : e = (key, v) ∨ e ∈ xs := by
  unfold putS at h
  split at h
  · split at h
    · rcases List.mem_append.1 h with h | h
      · exact .inr (low_sub.mem h)
      · rcases List.mem_cons.1 h with h | h
        · exact .inl h
        · exact .inr (up_sub.mem (List.mem_of_mem_tail h))
    · split at h
      · exact .inr h
      · rcases List.mem_append.1 h with h | h
        · exact .inr (low_sub.mem h)
        · rcases List.mem_cons.1 h with h | h
          · exact .inl h
          · exact .inr (up_sub.mem h)
  · exact .inr h
theorem removeS_mem {xs : List E} {key : Int} {e : E} (h : e ∈ (removeS xs key).1) : e ∈ xs := by
  unfold removeS at h
  split at h
  · split at h
    · rcases List.mem_append.1 h with h | h
      · exact low_sub.mem h
      · exact up_sub.mem (List.mem_of_mem_tail h)
    · exact h
  · exact h
theorem SzR.lower {lo hi n b : Nat} {t : BT} {A : Bag} (hh : Hold n b t A) (h : SzR lo hi n t) : 2 * (lo + 1) ^ n ≤ (flat n t).length + 1 := by
  cases n with
  | zero =>
    have : 1 ≤ t.es.length ∧ t.es.length ≤ hi := h
    simp [flat]; omega
  | succ n =>
    have hl := hh.len
    obtain ⟨ks, A1, A2, rfl, _, _, h2⟩ := hh
    have hk : ∀ k ∈ t.ts.map (flat n), (lo + 1) ^ (n + 1) ≤ k.length + 1 ∧ k.length + 1 ≤ (hi + 1) ^ (n + 1) := by
      intro k hk
      obtain ⟨c, hc, rfl⟩ := List.mem_map.1 hk
      obtain ⟨b', A', hc'⟩ := AllH.each h2 c hc
      exact Sz.count hc' (h.2 c hc)
    have := (weave_len t.es (t.ts.map (flat n)) (by rw [List.length_map]; exact hl) hk).1
    refine Nat.le_trans ?_ this
    exact Nat.mul_le_mul_right _ (by have := h.1.1; omega)
abbrev tI16 : Ty Int := ⟨44, 1, fun z => [.int .i16 z], 0, fun _ => rfl, by decide, fun _ v hv => by simp at hv; subst hv; rfl⟩
theorem i16_at {h : Hp} {p : Option Addr} {n : Nat} {zs : List Int} {i : Int} {Q : Int → Prop} (r : RdT tI16 h p n zs) (h0 : 0 ≤ i) (h1 : i < n) (hq : Q (zs.getD i.toNat 0)) :
    (0 ≤ i ∧ i < (n : Int)) ∧ NN p fun a => ∃ x : Int, cell h (a.add (i.toNat * 1)) = some (.int .i16 x) ∧ Q x := r.idx h0 h1 fun _ _ hc => ⟨_, hc 0 Nat.one_pos, hq⟩
theorem mul_le_pow {m i : Nat} {b : Nat} (hm : m ≤ b) (hb : 0 < b) (hi : i ≤ 10) : m ^ i ≤ b ^ 10 := Nat.le_trans (Nat.pow_le_pow_left hm i) (Nat.pow_le_pow_right hb hi)
theorem heights_law {h : Hp} {order gone : Int} {p : Option Addr} {n c : Nat} {l : List Int} (h0 : 0 ≤ order ∧ order ≤ 255) (r : RdT tI16 h p n l) (hnc : n ≤ c) (hg : 0 ≤ gone ∧ gone ≤ 255) (hl : ∀ x ∈ l, -32768 ≤ x ∧ x ≤ 32767) :
    HCalls Try.prog 4 #[.int .u8 order, .slice p n c, .int .u8 gone] h (fun v h' => v = .bool true ∧ Ext h h') := by
  have hlen := r.len
  have hget : ∀ {i : Nat}, i < n → -32768 ≤ l.getD i 0 ∧ l.getD i 0 ≤ 32767 := fun {i} hi => by
    have : l.getD i 0 = l[i] := by simp [List.getD, (show i < l.length by omega)]
    rw [this]; exact hl _ (List.getElem_mem _)
  refine l43_BtreeHeights_call ?_
  rw [l43_BtreeHeights_b0_eq]
  refine (awake_ok h).mono fun v1 h1 ⟨hv1, x1⟩ => ⟨_, hv1, condNo rfl ?_⟩
  refine condP (fun hmany => ?_) (fun hmany => ?_)
  · exact (awake_ok h1).mono fun v2 h2 ⟨hv2, x2⟩ => ⟨_, hv2, rfl, x1.trans x2⟩
  rw [l43_BtreeHeights_b1_eq]
  refine ⟨⟨by omega, by omega⟩, rem_intro (by omega) (by omega) ⟨⟨by omega, by omega⟩, ?_⟩⟩
  obtain ⟨m, hm, hm1⟩ : ∃ m : Nat, 3 + order % 6 = (m : Int) ∧ (3 ≤ m ∧ m ≤ 8) := ⟨(3 + order % 6).toNat, by omega, by omega⟩
  rw [hm]
  refine New_ok.mono fun v4 h4 hv => ?_
  rw [if_neg (by omega)] at hv
  obtain ⟨tb, A, hv4, ta, s4⟩ := hv
  have ta : TreeA m [] tb 0 A := ta
  have s4 : St h h4 A := s4.base x1
  refine ⟨_, _, hv4, condNo rfl (condNo rfl ?_)⟩
  rw [l43_BtreeHeights_b2_eq]
  refine ⟨fun st h' => ∃ (i : Nat) (xs : List E) (vis : Int) (A' : Bag), st.1 = i ∧ i ≤ n ∧ Srt xs ∧ xs.length ≤ i ∧ (∀ e ∈ xs, e.2 = 1) ∧ (0 ≤ vis ∧ vis ≤ 1000 * i) ∧ TreeA m xs tb vis A' ∧ St h h' A', fun st _ => n - st.1.toNat, ⟨0, [], 0, A, rfl, by omega, by simp, by simp, by simp, ⟨by omega, by omega⟩, ta, s4⟩, ?_⟩
  rintro ⟨_, _⟩ h5 ⟨i, xs, vis, A', rfl, hin, hs, hxl, h1s, hvis, ta', s5⟩
  dsimp only
  rw [l43_BtreeHeights_b3_eq]
  refine condP (fun hlt => ?_) (fun hge => ?_)
  · refine i16_at (r.ext s5.ext) (by omega) (by omega) ?_
    rw [Int.toNat_natCast]
    have hb := hget (i := i) (by omega)
    refine ⟨⟨by omega, by omega⟩, ?_⟩
    refine (Put_ok (key := l.getD i 0) (value := 1) (F := 0) (by omega) (by omega) hs (by omega) ⟨by omega, by omega⟩ ta' s5.to).mono fun v5 h6 ⟨A6, vis6, hvis6, hv6, ta6, s6⟩ => ?_
    have he : (putS xs (l.getD i 0) 1).2.2.2 = 0 := by
      unfold putS
      rw [if_pos ⟨⟨by omega, by omega⟩, by decide⟩]
      split
      · rfl
      · rw [if_neg (by omega)]
    rw [he] at hv6
    refine ⟨_, _, _, hv6, condNo rfl ?_⟩
    rw [l43_BtreeHeights_b4_eq]
    have hpl := putS_len (xs := xs) (key := l.getD i 0) (v := 1)
    refine ⟨⟨by omega, by omega⟩, ⟨i + 1, _, vis6, A6, by simp only; omega, by omega, putS_srt hs, by omega, fun e he => ?_, ⟨by omega, by omega⟩, ta6, s6.to⟩, by simp only; omega⟩
    rcases putS_mem he with rfl | he
    · rfl
    · exact h1s e he
  obtain rfl : n = i := by omega
  rw [l43_BtreeHeights_b5_eq]
  have hgm : 0 ≤ gone % ((n : Int) + 1) ∧ gone % ((n : Int) + 1) ≤ n := ⟨Int.emod_nonneg _ (by omega), by have := Int.emod_lt_of_pos gone (show (0 : Int) < (n : Int) + 1 by omega); omega⟩
  refine ⟨⟨by omega, by omega⟩, ⟨by omega, by omega⟩, rem_intro (by omega) (by omega) ⟨⟨by omega, by omega, by omega⟩, ?_⟩⟩
  have e0 : Int.toNat (0 : Int) = 0 := rfl
  rw [e0, subAddr_z, Nat.sub_zero, Nat.sub_zero]
  obtain ⟨g, hgg⟩ : ∃ g : Nat, gone % ((n : Int) + 1) = (g : Int) := ⟨(gone % ((n : Int) + 1)).toNat, by omega⟩
  rw [hgg] at hgm ⊢
  rw [Int.toNat_natCast]
  have rg : RdT tI16 h p g (l.take g) := r.take (by omega)
  refine ⟨fun st h' => ∃ (i : Nat) (xs : List E) (vis : Int) (A' : Bag), st.1 = i ∧ i ≤ g ∧ Srt xs ∧ xs.length ≤ n ∧ (∀ e ∈ xs, e.2 = 1) ∧ (0 ≤ vis ∧ vis ≤ 1000 * n + 1000 * i) ∧ TreeA m xs tb vis A' ∧ St h h' A', fun st _ => g - st.1.toNat, ⟨0, xs, vis, A', rfl, by omega, hs, hxl, h1s, ⟨by omega, by omega⟩, ta', s5⟩, ?_⟩
  rintro ⟨_, _⟩ h7 ⟨i, xs, vis, A', rfl, hin, hs, hxl, h1s, hvis, ta', s7⟩
  dsimp only
  rw [l43_BtreeHeights_b6_eq]
  refine condP (fun hlt => ?_) (fun hge => ?_)
  · refine i16_at (rg.ext s7.ext) (by omega) (by omega) ?_
    rw [Int.toNat_natCast]
    have hgi : (l.take g).getD i 0 = l.getD i 0 := by simp [List.getD, (show i < g by omega)]
    rw [hgi]
    have hb := hget (i := i) (by omega)
    refine ⟨⟨by omega, by omega⟩, ?_⟩
    refine (Remove_ok (key := l.getD i 0) (F := 0) (by omega) (by omega) hs (by omega) ⟨by omega, by omega⟩ ta' s7.to).mono fun v6 h8 ⟨A8, vis8, hvis8, hv8, ta8, s8⟩ => ?_
    have hrl := removeS_len (xs := xs) (key := l.getD i 0)
    have b7 : l43_BtreeHeights_b7 (m : Int) (some ⟨tb, 0, none⟩) p g c (g : Int) (i : Int) h8 (fun s' h' => (∃ (i : Nat) (xs : List E) (vis : Int) (A' : Bag), s'.1 = i ∧ i ≤ g ∧ Srt xs ∧ xs.length ≤ n ∧ (∀ e ∈ xs, e.2 = 1) ∧ (0 ≤ vis ∧ vis ≤ 1000 * n + 1000 * i) ∧ TreeA m xs tb vis A' ∧ St h h' A') ∧ g - s'.1.toNat < g - Int.toNat (i : Int)) (fun v h' => v = .bool true ∧ Ext h h') := by
      rw [l43_BtreeHeights_b7_eq]
      exact ⟨⟨by omega, by omega⟩, ⟨i + 1, _, vis8, A8, by simp only; omega, by omega, removeS_srt hs, by omega, fun e he => h1s e (removeS_mem he), ⟨by omega, by omega⟩, ta8, s8.to⟩, by simp only; omega⟩
    have hcase : ((removeS xs (l.getD i 0)).2.2 = 0 ∧ (removeS xs (l.getD i 0)).2.1 = 1) ∨ (removeS xs (l.getD i 0)).2.2 = 12 := by
      unfold removeS
      rw [if_pos ⟨by omega, by omega⟩]
      split
      · rename_i hk
        refine .inl ⟨rfl, ?_⟩
        cases hu : upS xs (l.getD i 0) with
        | nil => rw [hu] at hk; cases hk
        | cons e es =>
          show e.2 = 1
          exact h1s e (up_sub.mem (by rw [hu]; simp))
      · exact .inr rfl
    refine ⟨_, _, hv8, ?_⟩
    rcases hcase with ⟨z1, z2⟩ | z1
    · rw [z1, z2]
      exact condNo rfl (condYes rfl (condNo rfl b7))
    · rw [z1]
      exact condYes rfl (condNo rfl (condNo rfl b7))
  rw [l43_BtreeHeights_b8_eq]
  refine (Height_ok (by omega) (by omega) (by omega) ta' (G := 0) s7.to).mono fun v9 h9 ⟨ls, hv9, hls, s9⟩ => ⟨_, hv9, (Len_ok ta' s9).mono fun v10 h10 ⟨hh10, hv10⟩ => ⟨_, hv10, ?_⟩⟩
  subst hh10
  rcases hls with ⟨rfl, rfl⟩ | ⟨N, t, b, D, rfl, hh, hfl, hsz⟩
  · exact condYes rfl (condYes rfl ⟨rfl, s9.ext⟩)
  rw [levels_len]
  have hlow := hsz.lower hh
  have hcount := Sz.count hh (hsz.one (by omega))
  rw [hfl] at hlow hcount
  have hN : N ≤ 6 := by
    rcases Nat.lt_or_ge 6 N with h | h
    · have h1 : 2 ^ (7 + 1) ≤ 2 ^ (N + 1) := Nat.pow_le_pow_right (by decide) (by omega)
      have h2 : 2 ^ (N + 1) = (1 + 1) ^ (N + 1) := rfl
      have h3 : (2 : Nat) ^ (7 + 1) = 256 := by decide
      have := hcount.1
      omega
    · exact h
  have hpos : 2 ≤ 2 * ((m + 1) / 2 - 1 + 1) ^ N := by
    have : 1 ≤ ((m + 1) / 2 - 1 + 1) ^ N := Nat.one_le_pow _ _ (by omega)
    omega
  refine condNo (decide_eq_false (by omega)) (condNo (decide_eq_false (by omega)) (condNo (decide_eq_false (by omega)) ?_))
  rw [l43_BtreeHeights_b9_eq]
  refine ⟨fun st h' => h' = h10 ∧ ∃ i : Nat, st.2.2.1 = i ∧ i ≤ N + 1 ∧ st.2.1 = ((m ^ i : Nat) : Int) ∧ st.1 = ((2 * ((m + 1) / 2) ^ (i - 1) : Nat) : Int), fun st _ => N + 1 - st.2.2.1.toNat, ⟨rfl, 0, rfl, by omega, by simp, by simp⟩, ?_⟩
  rintro ⟨_, _, _, _⟩ h11 ⟨rfl, i, rfl, hi, rfl, rfl⟩
  dsimp only
  rw [l43_BtreeHeights_b10_eq]
  have q4 : (m + 1) / 2 ≤ 4 := by omega
  have p1 : m ^ i ≤ 8 ^ 10 := mul_le_pow (by omega) (by decide) (by omega)
  have p2 : ((m + 1) / 2) ^ (i - 1) ≤ 4 ^ 10 := mul_le_pow q4 (by decide) (by omega)
  have c1 : (8 : Nat) ^ 10 = 1073741824 := by decide
  have c2 : (4 : Nat) ^ 10 = 1048576 := by decide
  refine condP (fun hlt => ?_) (fun hge => ?_)
  · have e1 : ((m ^ i : Nat) : Int) * (m : Int) = ((m ^ (i + 1) : Nat) : Int) := by rw [Nat.pow_succ]; push_cast; rfl
    have p3 : m ^ (i + 1) ≤ 8 ^ 10 := mul_le_pow (by omega) (by decide) (by omega)
    rw [e1]
    refine ⟨⟨by omega, by omega⟩, condP (fun hp => ?_) (fun hp => ?_)⟩
    · have e2 : ((m : Int) + 1) / 2 = (((m + 1) / 2 : Nat) : Int) := by omega
      refine ⟨⟨by omega, by omega⟩, quo_intro (by omega) (by omega) (by omega) ?_⟩
      rw [e2]
      have e3 : ((2 * ((m + 1) / 2) ^ (i - 1) : Nat) : Int) * (((m + 1) / 2 : Nat) : Int) = ((2 * ((m + 1) / 2) ^ (i + 1 - 1) : Nat) : Int) := by
        have : i + 1 - 1 = (i - 1) + 1 := by omega
        rw [this, Nat.pow_succ]; push_cast; rw [Int.mul_assoc]
      have p4 : ((m + 1) / 2) ^ (i + 1 - 1) ≤ 4 ^ 10 := mul_le_pow q4 (by decide) (by omega)
      rw [e3]
      refine ⟨⟨by omega, by omega⟩, ?_⟩
      rw [l43_BtreeHeights_b11_eq]
      exact ⟨⟨by omega, by omega⟩, ⟨rfl, i + 1, by simp only; omega, by omega, rfl, rfl⟩, by simp only; omega⟩
    · obtain rfl : i = 0 := by omega
      rw [l43_BtreeHeights_b11_eq]
      exact ⟨⟨by omega, by omega⟩, ⟨rfl, 1, by simp only; omega, by omega, rfl, rfl⟩, by simp only; omega⟩
  · obtain rfl : i = N + 1 := by omega
    rw [l43_BtreeHeights_b12_eq]
    have hq : (m + 1) / 2 - 1 + 1 = (m + 1) / 2 := by omega
    rw [hq] at hlow
    have hq2 : m - 1 + 1 = m := by omega
    rw [hq2] at hcount
    have b13 : ∀ low : Int, low = ((2 * ((m + 1) / 2) ^ N : Nat) : Int) → l43_BtreeHeights_b13 (xs.length : Int) low ((m ^ (N + 1) : Nat) : Int) h11 (fun v h' => v = .bool true ∧ Ext h h') := by
      rintro _ rfl
      rw [l43_BtreeHeights_b13_eq]
      have p5 : ((m + 1) / 2) ^ N ≤ 4 ^ 10 := mul_le_pow q4 (by decide) (by omega)
      refine ⟨⟨by omega, by omega⟩, condP (fun _ => ⟨⟨by omega, by omega⟩, ?_, s9.ext⟩) (fun hbad => ?_)⟩
      · have := hcount.2
        rw [decide_eq_true (by omega)]
      · omega
    refine condP (fun h1' => ?_) (fun h1' => ?_)
    · obtain rfl : N = 0 := by omega
      exact b13 2 (by simp)
    · exact b13 _ (by simp)
end Go.Proofs.Ytaemnjblcpknpaa

/- B-trees: the reference's lists of entries. -/
set_option maxRecDepth 100000
namespace Go.Proofs.Ytaemnjblcpknpaa
open Go Go.Sx
theorem pair_at1A {h : Hp} {p : Option Addr} {n : Nat} {l : List E} {i : Int} {Q : Addr → Int → Prop} (r : RdT TE h p n l) (h0 : 0 ≤ i) (h1 : i < n) (hq : ∀ a, p = some a → Q a (l.getD i.toNat (0, 0)).2) :
    (0 ≤ i ∧ i < (n : Int)) ∧ NN p fun a => (0 ≤ (1 : Int) ∧ (1 : Int) < ((2 : Nat) : Int)) ∧ ∃ x : Int, cell h ((a.add (Int.toNat i * 2)).add (Int.toNat (1 : Int) * 1)) = some (.int .i64 x) ∧ Q a x :=
  r.idx h0 h1 fun a ha hc => ⟨⟨by omega, by omega⟩, _, hc 1 (show 1 < 2 by decide), hq a ha⟩
theorem pair_again1 {h : Hp} {p : Option Addr} {n : Nat} {l : List E} {i : Nat} {a : Addr} {z : Int} (r : RdT TE h p n l) (ha : p = some a) (hi : i < n) (hz : (l.getD i (0, 0)).2 = z) :
    ∃ m : Int, cell h ((a.add (i * 2)).add (Int.toNat (1 : Int) * 1)) = some (.int .i64 m) ∧ (.int .i64 m : Value) = .int .i64 z := by
  obtain ⟨a', ha', hc⟩ := r.at_ hi
  rw [ha] at ha'
  cases ha'
  exact ⟨_, hc 1 (show 1 < 2 by decide), by rw [← hz]⟩
theorem low_len {xs : List E} {key : Int} : (lowS xs key).length ≤ xs.length := low_sub.length_le
theorem take_eq_of {α : Type} {xs X Y : List α} (h : xs = X ++ Y) : xs.take X.length = X ∧ xs.drop X.length = Y := by subst h; exact ⟨List.take_left' rfl, List.drop_left' rfl⟩
theorem low_take {xs : List E} {key : Int} : xs.take (lowS xs key).length = lowS xs key := (take_eq_of upS_len).1
theorem up_drop {xs : List E} {key : Int} : xs.drop (lowS xs key).length = upS xs key := (take_eq_of upS_len).2
theorem up_head {xs : List E} {key : Int} (h : hasKey (upS xs key) key = true) : (lowS xs key).length < xs.length ∧ xs.getD (lowS xs key).length (0, 0) = (key, valOf (upS xs key)) ∧ xs.drop ((lowS xs key).length + 1) = (upS xs key).tail := by
  have hu := up_drop (xs := xs) (key := key)
  cases hc : upS xs key with
  | nil => rw [hc] at h; cases h
  | cons e es =>
    rw [hc] at h hu
    have hk : e.1 = key := of_decide_eq_true h
    have hlt : (lowS xs key).length < xs.length := by
      rcases Nat.lt_or_ge (lowS xs key).length xs.length with h | h
      · exact h
      · rw [List.drop_of_length_le h] at hu; cases hu
    rw [List.drop_eq_getElem_cons hlt] at hu
    injection hu with h1 h2
    refine ⟨hlt, ?_, h2⟩
    have : xs.getD (lowS xs key).length (0, 0) = xs[(lowS xs key).length] := by simp [List.getD, hlt]
    rw [this, h1]
    show e = (key, e.2)
    rw [← hk]
theorem Find_ok {h : Hp} {p : Option Addr} {n c : Nat} {xs : List E} {key : Int} (r : RdT TE h p n xs) (hn : n ≤ 1000000) (hs : Srt xs) :
    HCalls Try.prog 72 #[.slice p n c, .int .i64 key] h (fun v h' => h' = h ∧ v = .tuple #[.int .i64 ((lowS xs key).length : Int), .bool (hasKey (upS xs key) key)]) := by
  have hlen := r.len
  refine r43_Find_call ?_
  rw [r43_Find_b0_eq]
  refine ⟨fun x h' => h' = h ∧ ∃ i : Nat, x.1 = i ∧ i ≤ n ∧ (∀ e ∈ xs.take i, e.1 < key), fun x _ => n - x.1.toNat, ⟨rfl, 0, rfl, by omega, by simp⟩, ?_⟩
  rintro ⟨_, _⟩ h1 ⟨rfl, i, rfl, hin, hlt⟩
  dsimp only
  have fin : (∀ e ∈ xs.drop i, key ≤ e.1) → r43_Find_b3 p n c key (i : Int) h1 (fun v h' => h' = h1 ∧ v = .tuple #[.int .i64 ((lowS xs key).length : Int), .bool (hasKey (upS xs key) key)]) := by
    intro hge
    obtain ⟨e1, e2⟩ := cut_eq (X := xs.take i) (Y := xs.drop i) (List.take_append_drop i xs).symm hlt hge
    rw [r43_Find_b3_eq, ← e1, ← e2, List.length_take, Nat.min_eq_left (by omega)]
    refine condP (fun hl => ?_) (fun hl => ?_)
    · refine pair_at r (by omega) (by omega) ?_
      rw [Int.toNat_natCast]
      refine ⟨rfl, ?_⟩
      have hil : i < xs.length := by omega
      rw [List.drop_eq_getElem_cons hil]
      have : xs.getD i (0, 0) = xs[i] := by simp [List.getD, hil]
      rw [this]
      rfl
    · rw [List.drop_of_length_le (by omega)]
      exact ⟨rfl, rfl⟩
  rw [r43_Find_b1_eq]
  refine condP (fun hl => ?_) (fun hl => ?_)
  · have hil : i < xs.length := by omega
    refine pair_at r (by omega) (by omega) ?_
    rw [Int.toNat_natCast]
    refine condP (fun hk => ?_) (fun hk => ?_)
    · rw [r43_Find_b2_eq]
      refine ⟨⟨by omega, by omega⟩, ⟨rfl, i + 1, by simp only; omega, by omega, fun e he => ?_⟩, by simp only; omega⟩
      rw [take_one hil] at he
      rcases List.mem_append.1 he with he | he
      · exact hlt e he
      · simp at he; subst he; exact hk
    · refine fin fun e he => ?_
      have hg : xs.getD i (0, 0) = xs[i] := by simp [List.getD, hil]
      rw [List.drop_eq_getElem_cons hil, ← hg] at he
      rcases List.mem_cons.1 he with rfl | he
      · omega
      · obtain ⟨j, hj, rfl⟩ := List.getElem_of_mem he
        rw [List.length_drop] at hj
        have h2 := srt_get hs (i := i) (j := i + 1 + j) (by omega) (by omega)
        have hg2 : xs.getD (i + 1 + j) (0, 0) = xs[i + 1 + j]'(by omega) := by simp [List.getD, (show i + 1 + j < xs.length by omega)]
        rw [hg2] at h2
        rw [List.getElem_drop]
        omega
  · refine fin ?_
    rw [List.drop_of_length_le (by omega)]
    simp
theorem sl_of_pairs {b : Nat} {xs : List E} {n : Nat} (hl : xs.length = n) {cs : List Value} (hc : cs = TE.cells xs) : Sl TE (some ⟨b, 0, none⟩) n n xs (cA b cs 40) := Sl.of_blk hl hc
theorem rPut_ok {h0 h : Hp} {p : Option Addr} {n c : Nat} {xs : List E} {key value : Int} {A G : Bag} (s : St h0 h (A + G)) (a : Sl TE p n c xs A) (hs : Srt xs) (hn : n ≤ 2000) :
    HCalls Try.prog 44 #[.slice p n c, .int .i64 key, .int .i64 value] h (fun v h' => ∃ q m d A', v = .tuple #[.slice q m d, .int .i64 (putS xs key value).2.1, .bool (putS xs key value).2.2.1, .int .i64 (putS xs key value).2.2.2] ∧ Sl TE q m d (putS xs key value).1 A' ∧ St h0 h' (A' + G)) := by
  have hlen := a.len
  have hcap := a.cap
  refine r43_Put_call ?_
  rw [r43_Put_b0_eq]
  refine (Key_ok key h).mono fun v1 h1 ⟨hv1, hh1⟩ => ⟨_, hv1, ?_⟩
  subst hh1
  refine condN (fun hk => ?_) (fun hk => ?_)
  · rw [putS, if_neg (fun h => hk h.1)]
    exact ⟨p, n, c, A, rfl, a, s⟩
  refine (Key_ok value h1).mono fun v2 h2 ⟨hv2, hh2⟩ => ⟨_, hv2, ?_⟩
  subst hh2
  refine condN (fun hk2 => ?_) (fun hk2 => ?_)
  · rw [putS, if_neg (fun h => hk2 h.2)]
    exact ⟨p, n, c, A, rfl, a, s⟩
  rw [r43_Put_b1_eq, putS, if_pos ⟨hk, hk2⟩]
  refine (Find_ok (key := key) (a.rd s) (by omega) hs).mono fun v3 h3 ⟨hh3, hv3⟩ => ?_
  subst hh3
  have hll := low_len (xs := xs) (key := key)
  refine ⟨_, _, hv3, ?_⟩
  refine s.new (cs := []) fun b1 h4 _ s4 => ?_
  have e0 : Int.toNat (0 : Int) = 0 := rfl
  have ei : Int.toNat ((lowS xs key).length : Int) = (lowS xs key).length := Int.toNat_natCast _
  have ei1 : Int.toNat (((lowS xs key).length : Int) + 1) = (lowS xs key).length + 1 := by omega
  refine ⟨⟨by omega, by omega, by omega⟩, ?_⟩
  rw [e0, ei, subAddr_z, Nat.sub_zero, Nat.sub_zero]
  have r4 := (a.rd (s4.at A)).take (i := (lowS xs key).length) (by omega)
  rw [low_take] at r4
  refine append_sl ok_pair s4 (sl_of_pairs (xs := []) rfl rfl) r4 (by omega) fun a1 c1 h5 B1 o1 s5 => ?_
  rw [Nat.zero_add, List.nil_append] at o1
  rw [Nat.zero_add]
  refine push_sl ok_pair s5 o1 (x := (key, value)) rfl rfl (by omega) fun a2 c2 h7 B2 o2 s7 => ?_
  have r7 := a.rd (s7.at A)
  refine cond_intro (fun hf => ?_) (fun hf => ?_)
  · obtain ⟨u1, u2, u3⟩ := up_head hf
    rw [if_pos hf]
    refine ⟨⟨by omega, by omega⟩, ⟨by omega, by omega, by omega⟩, pair_at1A r7 (by omega) (by omega) fun ad had => ?_⟩
    rw [ei, u2, ei1, Int.toNat_natCast]
    have rs := r7.sub (i := (lowS xs key).length + 1) (m := n - ((lowS xs key).length + 1)) (by omega) hcap rfl
    rw [u3] at rs
    refine append_sl ok_pair s7 o2 rs (by omega) fun a4 c3 h8 B3 o3 s8 => ?_
    have r8 := a.rd (s8.at A)
    refine ⟨pair_again1 r8 had (by omega) (by rw [u2]), pair_again1 r8 had (by omega) (by rw [u2]), _, _, _, B3, rfl, ?_, (s8.to (B := A + (B3 + G))).drop⟩
    simpa using o3
  · rw [if_neg (by rw [hf]; simp)]
    refine condP (fun hm => ?_) (fun hm => ?_)
    · rw [if_pos (by omega)]
      exact ⟨p, n, c, A, rfl, a, (s7.to (B := B2 + (A + G))).drop⟩
    · rw [if_neg (by omega)]
      refine ⟨⟨by omega, by omega, by omega⟩, ?_⟩
      rw [Int.toNat_natCast]
      have rs := r7.sub (i := (lowS xs key).length) (m := n - (lowS xs key).length) (by omega) hcap rfl
      rw [up_drop] at rs
      refine append_sl ok_pair s7 o2 rs (by omega) fun a5 c4 h9 B4 o4 s9 => ?_
      refine ⟨_, _, _, B4, rfl, ?_, (s9.to (B := A + (B4 + G))).drop⟩
      simpa using o4
theorem rGet_ok {h : Hp} {p : Option Addr} {n c : Nat} {xs : List E} {key : Int} (r : RdT TE h p n xs) (hs : Srt xs) (hn : n ≤ 2000) :
    HCalls Try.prog 45 #[.slice p n c, .int .i64 key] h (fun v h' => h' = h ∧ v = .tuple #[.int .i64 (getS xs key).1, .int .i64 (getS xs key).2]) := by
  have hlen := r.len
  refine r43_Get_call ?_
  rw [r43_Get_b0_eq]
  refine (Key_ok key h).mono fun v1 h1 ⟨hv1, hh1⟩ => ⟨_, hv1, ?_⟩
  subst hh1
  refine condN (fun hk => ?_) (fun hk => ?_)
  · rw [getS, if_neg hk]; exact ⟨rfl, rfl⟩
  rw [getS, if_pos hk]
  refine (Find_ok (key := key) r (by omega) hs).mono fun v3 h3 ⟨hh3, hv3⟩ => ⟨_, _, hv3, ?_⟩
  subst hh3
  refine cond_intro (fun hf => ?_) (fun hf => ?_)
  · have hf : hasKey (upS xs key) key = false := by simpa using hf
    rw [if_neg (by rw [hf]; simp)]; exact ⟨rfl, rfl⟩
  · have hf : hasKey (upS xs key) key = true := by simpa using hf
    obtain ⟨u1, u2, u3⟩ := up_head hf
    refine pair_at1 r (by omega) (by omega) ?_
    rw [Int.toNat_natCast, u2, if_pos hf]
    exact ⟨rfl, rfl⟩
theorem rRemove_ok {h0 h : Hp} {p : Option Addr} {n c : Nat} {xs : List E} {key : Int} {A G : Bag} (s : St h0 h (A + G)) (a : Sl TE p n c xs A) (hs : Srt xs) (hn : n ≤ 2000) :
    HCalls Try.prog 46 #[.slice p n c, .int .i64 key] h (fun v h' => ∃ q m d A', v = .tuple #[.slice q m d, .int .i64 (removeS xs key).2.1, .int .i64 (removeS xs key).2.2] ∧ Sl TE q m d (removeS xs key).1 A' ∧ St h0 h' (A' + G)) := by
  have hlen := a.len
  have hcap := a.cap
  refine r43_Remove_call ?_
  rw [r43_Remove_b0_eq]
  refine (rGet_ok (key := key) (a.rd s) hs hn).mono fun v1 h1 ⟨hh1, hv1⟩ => ⟨_, _, hv1, ?_⟩
  subst hh1
  by_cases hk : KeyP key
  · by_cases hf : hasKey (upS xs key) key = true
    · have hg : getS xs key = (valOf (upS xs key), 0) := by rw [getS, if_pos hk, if_pos hf]
      have hr : removeS xs key = (lowS xs key ++ (upS xs key).tail, valOf (upS xs key), 0) := by rw [removeS, if_pos hk, if_pos hf]
      rw [hg, hr]
      refine condNo rfl ?_
      refine (Find_ok (key := key) (a.rd s) (by omega) hs).mono fun v3 h3 ⟨hh3, hv3⟩ => ⟨_, _, hv3, ?_⟩
      subst hh3
      obtain ⟨u1, u2, u3⟩ := up_head hf
      have hll := low_len (xs := xs) (key := key)
      have e0 : Int.toNat (0 : Int) = 0 := rfl
      have ei : Int.toNat ((lowS xs key).length : Int) = (lowS xs key).length := Int.toNat_natCast _
      have ei1 : Int.toNat (((lowS xs key).length : Int) + 1) = (lowS xs key).length + 1 := by omega
      refine ⟨⟨by omega, by omega, by omega⟩, ⟨by omega, by omega⟩, ⟨by omega, by omega, by omega⟩, ?_⟩
      refine s.new (cs := []) fun b1 h4 _ s4 => ?_
      refine ⟨⟨⟨by omega, by omega, by omega⟩, rfl⟩, ⟨⟨by omega, by omega, by omega⟩, rfl⟩, ?_⟩
      rw [e0, ei, ei1, subAddr_z, Nat.sub_zero, Nat.sub_zero, Int.toNat_natCast]
      have r4 := (a.rd (s4.at A)).take (i := (lowS xs key).length) (by omega)
      rw [low_take] at r4
      refine append_sl ok_pair s4 (sl_of_pairs (xs := []) rfl rfl) r4 (by omega) fun a1 c1 h5 B1 o1 s5 => ?_
      rw [Nat.zero_add, List.nil_append] at o1
      rw [Nat.zero_add]
      refine ⟨⟨⟨by omega, by omega, by omega⟩, rfl⟩, ?_⟩
      have rs := (a.rd (s5.at A)).sub (i := (lowS xs key).length + 1) (m := n - ((lowS xs key).length + 1)) (by omega) hcap rfl
      rw [u3] at rs
      refine append_sl ok_pair s5 o1 rs (by omega) fun a4 c3 h8 B3 o3 s8 => ?_
      exact ⟨_, _, _, B3, rfl, o3, (s8.to (B := A + (B3 + G))).drop⟩
    · have hg : getS xs key = (0, 12) := by rw [getS, if_pos hk, if_neg hf]
      have hr : removeS xs key = (xs, 0, 12) := by rw [removeS, if_pos hk, if_neg hf]
      rw [hg, hr]
      exact condYes rfl ⟨p, n, c, A, rfl, a, s⟩
  · have hg : getS xs key = (0, 1) := by rw [getS, if_neg hk]
    have hr : removeS xs key = (xs, 0, 1) := by rw [removeS, if_neg hk]
    rw [hg, hr]
    exact condYes rfl ⟨p, n, c, A, rfl, a, s⟩
theorem last_getD {xs : List E} {key : Int} (h : 0 < (lowS xs key).length) : (lastOf (lowS xs key)).1 = (xs.getD ((lowS xs key).length - 1) (0, 0)).1 ∧ (lastOf (lowS xs key)).2.1 = (xs.getD ((lowS xs key).length - 1) (0, 0)).2 ∧ (lastOf (lowS xs key)).2.2 = true := by
  have hl := low_len (xs := xs) (key := key)
  have h1 : xs.getD ((lowS xs key).length - 1) (0, 0) = (lowS xs key).getD ((lowS xs key).length - 1) (0, 0) := by
    have : ∀ {X Y : List E}, xs = X ++ Y → 0 < X.length → xs.getD (X.length - 1) (0, 0) = X.getD (X.length - 1) (0, 0) := by
      rintro X Y rfl hX
      simp [List.getD, List.getElem?_append, Nat.sub_lt hX]
    exact this upS_len h
  rw [h1]
  have hlast : (lowS xs key).getLast? = some ((lowS xs key).getD ((lowS xs key).length - 1) (0, 0)) := by
    rw [List.getLast?_eq_getElem?, List.getElem?_eq_getElem (by omega)]
    simp [List.getD, (show (lowS xs key).length - 1 < (lowS xs key).length by omega)]
  simp only [lastOf, hlast]
  exact ⟨trivial, trivial, trivial⟩
/-- A pair in a box of its own. -/
theorem box2 {h0 h : Hp} {b : Nat} {x y z w : Int} {F : Bag} {e : Int} {v : Value} (s : St h0 h (cA b [.int .i64 z, .int .i64 w] 40 + F)) (hv : .tuple #[.agg #[.int .i64 x, .int .i64 y], .int .i64 e] = v) :
    Wr h ⟨b, 0, none⟩ (.int .i64 x) fun h3 => Wr h3 ((⟨b, 0, none⟩ : Addr).add 1) (.int .i64 y) fun h4 => ∃ r2 : Int, ∃ r3 : Int, cell h4 ⟨b, 0, none⟩ = some (.int .i64 r2) ∧ cell h4 ((⟨b, 0, none⟩ : Addr).add 1) = some (.int .i64 r3) ∧ Ext h0 h4 ∧ .tuple #[.agg #[.int .i64 r2, .int .i64 r3], .int .i64 e] = v := by
  refine s.wr rfl (by simp) fun h3 s3 => ?_
  refine s3.wr (o := 1) (add_mk _ _ _) (by simp) fun h4 s4 => ?_
  exact ⟨_, _, s4.blk.cell 0, Blk.cellA s4.blk 1, s4.ext, hv⟩
theorem rFloor_ok {h : Hp} {p : Option Addr} {n c : Nat} {xs : List E} {key : Int} (r : RdT TE h p n xs) (hs : Srt xs) (hn : n ≤ 2000) :
    HCalls Try.prog 47 #[.slice p n c, .int .i64 key] h (fun v h' => Ext h h' ∧ v = .tuple #[.agg #[.int .i64 (FloorS xs key).1, .int .i64 (FloorS xs key).2.1], .int .i64 (FloorS xs key).2.2]) := by
  have hlen := r.len
  refine r43_Floor_call ?_
  rw [r43_Floor_b0_eq]
  refine (St.start h).new (cs := [.int .i64 0, .int .i64 0]) fun b1 h1 x1 s1 => ?_
  refine (Key_ok key h1).mono fun v1 h2 ⟨hv1, hh1⟩ => ⟨_, hv1, ?_⟩
  subst hh1
  refine condN (fun hk => ?_) (fun hk => ?_)
  · rw [FloorS, if_neg hk]
    exact box2 s1 rfl
  rw [FloorS, if_pos hk]
  refine (Find_ok (key := key) (r.ext x1) (by omega) hs).mono fun v3 h3 ⟨hh3, hv3⟩ => ⟨_, _, hv3, ?_⟩
  subst hh3
  have hll := low_len (xs := xs) (key := key)
  refine cond_intro (fun hf => ?_) (fun hf => ?_)
  · obtain ⟨u1, u2, u3⟩ := up_head hf
    refine pair_load (r.ext x1) (by omega) (by omega) ?_
    rw [Int.toNat_natCast, u2]
    refine box2 s1 ?_
    rw [floorS, if_pos hf]
    rfl
  · have hfn : ¬ hasKey (upS xs key) key = true := by rw [hf]; simp
    rw [floorS, if_neg hfn]
    refine condP (fun h0' => ?_) (fun h0' => ?_)
    · have hl0 : lowS xs key = [] := List.eq_nil_of_length_eq_zero (by omega)
      rw [hl0]
      exact box2 s1 rfl
    · obtain ⟨w1, w2, w3⟩ := last_getD (xs := xs) (key := key) (by omega)
      have ei : Int.toNat (((lowS xs key).length : Int) - 1) = (lowS xs key).length - 1 := by omega
      refine ⟨⟨by omega, by omega⟩, pair_load (r.ext x1) (by omega) (by omega) ?_⟩
      rw [ei, ← w1, ← w2, if_pos w3]
      exact box2 s1 rfl
theorem rCeil_ok {h : Hp} {p : Option Addr} {n c : Nat} {xs : List E} {key : Int} (r : RdT TE h p n xs) (hs : Srt xs) (hn : n ≤ 2000) :
    HCalls Try.prog 48 #[.slice p n c, .int .i64 key] h (fun v h' => Ext h h' ∧ v = .tuple #[.agg #[.int .i64 (CeilS xs key).1, .int .i64 (CeilS xs key).2.1], .int .i64 (CeilS xs key).2.2]) := by
  have hlen := r.len
  refine r43_Ceiling_call ?_
  rw [r43_Ceiling_b0_eq]
  refine (St.start h).new (cs := [.int .i64 0, .int .i64 0]) fun b1 h1 x1 s1 => ?_
  refine (Key_ok key h1).mono fun v1 h2 ⟨hv1, hh1⟩ => ⟨_, hv1, ?_⟩
  subst hh1
  refine condN (fun hk => ?_) (fun hk => ?_)
  · rw [CeilS, if_neg hk]
    exact box2 s1 rfl
  rw [CeilS, if_pos hk]
  refine (Find_ok (key := key) (r.ext x1) (by omega) hs).mono fun v3 h3 ⟨hh3, hv3⟩ => ⟨_, _, hv3, ?_⟩
  subst hh3
  have hll := low_len (xs := xs) (key := key)
  have hud := up_drop (xs := xs) (key := key)
  refine condP (fun he => ?_) (fun he => ?_)
  · have hu0 : upS xs key = [] := by rw [← hud]; exact List.drop_of_length_le (by omega)
    rw [ceilS, hu0]
    exact box2 s1 rfl
  · have hlt : (lowS xs key).length < xs.length := by omega
    rw [List.drop_eq_getElem_cons hlt] at hud
    have hg : xs.getD (lowS xs key).length (0, 0) = xs[(lowS xs key).length] := by simp [List.getD, hlt]
    refine pair_load (r.ext x1) (by omega) (by omega) ?_
    rw [Int.toNat_natCast, hg, ceilS, ← hud]
    exact box2 s1 rfl
theorem rScan_ok {h : Hp} {p : Option Addr} {n c : Nat} {xs : List E} {fr to : Int} (r : RdT TE h p n xs) (hn : n ≤ 100000) :
    HCalls Try.prog 49 #[.slice p n c, .int .i64 fr, .int .i64 to] h (fun v h' => ∃ q m d B, v = .tuple #[.slice q m d, .int .i64 (scanS xs fr to).2] ∧ Sl TE q m d (scanS xs fr to).1 B ∧ St h h' B) := by
  have hlen := r.len
  refine r43_Scan_call ?_
  rw [r43_Scan_b0_eq]
  refine (Key_ok fr h).mono fun v1 h1 ⟨hv1, hh1⟩ => ⟨_, hv1, ?_⟩
  subst hh1
  refine condN (fun hk => ?_) (fun hk => ?_)
  · rw [scanS, if_neg (fun h => hk h.1)]; exact ⟨_, _, _, 0, rfl, Sl.nil, St.start h1⟩
  refine (Key_ok to h1).mono fun v2 h2 ⟨hv2, hh2⟩ => ⟨_, hv2, ?_⟩
  subst hh2
  refine condN (fun hk2 => ?_) (fun hk2 => ?_)
  · rw [scanS, if_neg (fun h => hk2 h.2)]; exact ⟨_, _, _, 0, rfl, Sl.nil, St.start h2⟩
  rw [r43_Scan_b1_eq, scanS, if_pos ⟨hk, hk2⟩]
  refine ⟨fun x h' => ∃ (i : Nat) (B : Bag), x.2.1 = i ∧ i ≤ n ∧ Sl TE x.1.1 x.1.2.1 x.1.2.2 ((xs.take i).filter (inSpan fr to)) B ∧ St h2 h' B, fun x _ => n - x.2.1.toNat, ⟨0, 0, rfl, by omega, Sl.nil, St.start h2⟩, ?_⟩
  rintro ⟨⟨q, m, d⟩, _, _⟩ h3 ⟨i, B, rfl, hin, o, s3⟩
  dsimp only at o ⊢
  have hml := o.len
  have hmle : m ≤ i := by
    rw [← hml]
    refine Nat.le_trans (List.length_filter_le _ _) ?_
    rw [List.length_take]; omega
  rw [r43_Scan_b2_eq]
  refine condP (fun hlt => ?_) (fun hge => ?_)
  · have hil : i < xs.length := by omega
    have hskip : inSpan fr to (xs.getD i (0, 0)) = false → r43_Scan_b3 p n c fr to q m d (i : Int) h3 (fun s' h' => (∃ (i : Nat) (B : Bag), s'.2.1 = i ∧ i ≤ n ∧ Sl TE s'.1.1 s'.1.2.1 s'.1.2.2 ((xs.take i).filter (inSpan fr to)) B ∧ St h2 h' B) ∧ n - s'.2.1.toNat < n - Int.toNat (i : Int)) (fun v h' => ∃ q m d B, v = .tuple #[.slice q m d, .int .i64 (if 1000 < (xs.filter (inSpan fr to)).length then (([] : List E), (4 : Int)) else (xs.filter (inSpan fr to), 0)).2] ∧ Sl TE q m d (if 1000 < (xs.filter (inSpan fr to)).length then (([] : List E), (4 : Int)) else (xs.filter (inSpan fr to), 0)).1 B ∧ St h2 h' B) := by
      intro hno
      rw [r43_Scan_b3_eq]
      refine ⟨⟨by omega, by omega⟩, ⟨i + 1, B, by simp only; omega, by omega, ?_, s3⟩, by simp only; omega⟩
      rw [take_one hil, List.filter_append, List.filter_cons_of_neg (by rw [hno]; simp), List.filter_nil, List.append_nil]
      exact o
    refine pair_at (r.ext s3.ext) (by omega) (by omega) ?_
    rw [Int.toNat_natCast]
    refine condP (fun h1 => ?_) (fun h1 => ?_)
    · refine pair_at (r.ext s3.ext) (by omega) (by omega) ?_
      rw [Int.toNat_natCast]
      refine condP (fun h2' => ?_) (fun h2' => ?_)
      · refine pair_load (r.ext s3.ext) (by omega) (by omega) ?_
        rw [Int.toNat_natCast]
        refine push_sl ok_pair (s3.to (B := B + 0)) o (x := xs.getD i (0, 0)) rfl rfl (by omega) fun q' d' h5 B' o' s5 => ?_
        rw [r43_Scan_b3_eq]
        refine ⟨⟨by omega, by omega⟩, ⟨i + 1, B', by simp only; omega, by omega, ?_, s5.to⟩, by simp only; omega⟩
        rw [take_one hil, List.filter_append, List.filter_cons_of_pos (show inSpan fr to (xs.getD i (0, 0)) = true from decide_eq_true ⟨h1, h2'⟩)]
        exact o'
      · exact hskip (decide_eq_false (fun h => h2' h.2))
    · exact hskip (decide_eq_false (fun h => h1 h.1))
  · obtain rfl : n = i := by omega
    rw [List.take_of_length_le (by omega)] at o
    have hml := o.len
    rw [r43_Scan_b4_eq]
    refine condP (fun hl => ?_) (fun hl => ?_)
    · rw [if_pos (by omega)]; exact ⟨_, _, _, 0, rfl, Sl.nil, (s3.to (B := B + 0)).drop⟩
    · rw [if_neg (by omega)]; exact ⟨_, _, _, B, rfl, o, s3⟩
end Go.Proofs.Ytaemnjblcpknpaa

/- B-trees: a step on a tree and on a list; the law Plays. -/
set_option maxRecDepth 100000
namespace Go.Proofs.Ytaemnjblcpknpaa
open Go Go.Sx
def stepS (xs : List E) (k a b : Int) : List E := if k = 0 then (putS xs a b).1 else if k = 2 then (removeS xs a).1 else xs
theorem stepS_srt {xs : List E} {k a b : Int} (h : Srt xs) : Srt (stepS xs k a b) := by
  unfold stepS
  split
  · exact putS_srt h
  · split
    · exact removeS_srt h
    · exact h
theorem stepS_len {xs : List E} {k a b : Int} : (stepS xs k a b).length ≤ xs.length + 1 := by
  unfold stepS
  split
  · exact putS_len.2
  · split
    · have := removeS_len (xs := xs) (key := a); omega
    · omega
theorem do_ok {h0 h : Hp} {order tb : Nat} {xs : List E} {vis k a b : Int} {p : Option Addr} {n c : Nat} {A L G : Bag} (hor : 3 ≤ order) (h64 : order ≤ 64) (so : Srt xs) (hmost : xs.length ≤ 1000) (hvis : 0 ≤ vis ∧ vis ≤ 1000000000) (ta : TreeA order xs tb vis A) (la : Sl TE p n c xs L) (s : St h0 h (A + (L + G))) :
    HCalls Try.prog 22 #[ptr tb, .slice p n c, .agg #[.int .i64 k, .int .i64 a, .int .i64 b]] h (fun v h' => ∃ q m d A' L' vis', (vis ≤ vis' ∧ vis' ≤ vis + 1000) ∧ v = .tuple #[.slice q m d, .bool true] ∧ TreeA order (stepS xs k a b) tb vis' A' ∧ Sl TE q m d (stepS xs k a b) L' ∧ St h0 h' (A' + (L' + G))) := by
  have hlen := la.len
  refine l43_do_call ?_
  rw [l43_do_b0_eq]
  refine s.new (cs := [.int .i64 k, .int .i64 a, .int .i64 b]) fun b1 h1 x1 s1 => ?_
  have kb := s1.blk
  refine ⟨_, kb.cell 0, condP (fun hk => ?_) (fun hk => ?_)⟩
  · have e : stepS xs k a b = (putS xs a b).1 := by rw [stepS, if_pos hk]
    rw [e]
    refine ⟨_, Blk.cellA kb 1, _, Blk.cellA kb 2, ?_⟩
    have s2 := s1.to (B := L + (cA b1 [.int .i64 k, .int .i64 a, .int .i64 b] 51 + (A + G)))
    refine (rPut_ok (key := a) (value := b) s2 la so (by omega)).mono fun v1 h2 ⟨q, m, d, L', hv1, la', s3⟩ => ⟨_, _, _, _, _, _, hv1, ?_⟩
    have kb2 := (s3.at (cA b1 [.int .i64 k, .int .i64 a, .int .i64 b] 51)).blk
    refine ⟨_, Blk.cellA kb2 1, _, Blk.cellA kb2 2, ?_⟩
    have s4 := (s3.to (B := cA b1 [.int .i64 k, .int .i64 a, .int .i64 b] 51 + (A + (L' + G)))).drop
    refine (Put_ok (key := a) (value := b) hor h64 so (by omega) ⟨by omega, by omega⟩ ta s4).mono fun v2 h3 ⟨A', vis', hvis', hv2, ta', s5⟩ => ⟨_, _, _, hv2, ?_⟩
    refine condYes (decide_eq_true rfl) (condYes (by simp) ⟨q, m, d, A', L', vis', hvis'.1, ?_, ta', la', s5⟩)
    rw [decide_eq_true rfl]
  refine condP (fun hk1 => ?_) (fun hk1 => ?_)
  · have e : stepS xs k a b = xs := by rw [stepS, if_neg (by omega), if_neg (by omega)]
    rw [e]
    refine ⟨_, Blk.cellA kb 1, ?_⟩
    refine (rGet_ok (key := a) (la.rd (s1.at L)) so (by omega)).mono fun v3 h4 ⟨hh4, hv3⟩ => ⟨_, _, hv3, a, ?_, ?_⟩
    · subst hh4; exact Blk.cellA kb 1
    subst hh4
    refine (Get_ok (key := a) hor h64 so (by omega) ⟨by omega, by omega⟩ ta s1.drop).mono fun v4 h5 ⟨A', vis', hvis', hv4, ta', s5⟩ => ⟨_, _, hv4, ?_⟩
    refine condYes (decide_eq_true rfl) ⟨p, n, c, A', L, vis', hvis', ?_, ta', la, s5⟩
    rw [decide_eq_true rfl]
  refine condP (fun hk2 => ?_) (fun hk2 => ?_)
  · have e : stepS xs k a b = (removeS xs a).1 := by rw [stepS, if_neg hk, if_pos hk2]
    rw [e]
    refine ⟨_, Blk.cellA kb 1, ?_⟩
    have s2 := s1.to (B := L + (cA b1 [.int .i64 k, .int .i64 a, .int .i64 b] 51 + (A + G)))
    refine (rRemove_ok (key := a) s2 la so (by omega)).mono fun v1 h2 ⟨q, m, d, L', hv1, la', s3⟩ => ⟨_, _, _, _, _, hv1, ?_⟩
    have kb2 := (s3.at (cA b1 [.int .i64 k, .int .i64 a, .int .i64 b] 51)).blk
    refine ⟨_, Blk.cellA kb2 1, ?_⟩
    have s4 := (s3.to (B := cA b1 [.int .i64 k, .int .i64 a, .int .i64 b] 51 + (A + (L' + G)))).drop
    refine (Remove_ok (key := a) hor h64 so (by omega) ⟨by omega, by omega⟩ ta s4).mono fun v2 h3 ⟨A', vis', hvis', hv2, ta', s5⟩ => ⟨_, _, hv2, ?_⟩
    refine condYes (decide_eq_true rfl) ⟨q, m, d, A', L', vis', hvis', ?_, ta', la', s5⟩
    rw [decide_eq_true rfl]
  have e : stepS xs k a b = xs := by rw [stepS, if_neg (by omega), if_neg (by omega)]
  rw [e]
  refine condP (fun hk3 => ?_) (fun hk3 => ?_)
  · refine ⟨_, Blk.cellA kb 1, ?_⟩
    refine (rFloor_ok (key := a) (la.rd (s1.at L)) so (by omega)).mono fun v7 h8 ⟨x8, hv7⟩ => ⟨_, _, _, hv7, ?_⟩
    have s8 := s1.grow x8
    refine s8.new (cs := [.int .i64 0, .int .i64 0]) fun b2 h9 x9 s9 => ?_
    refine s9.wr rfl (by simp) fun h10 s10 => ?_
    refine s10.wr (o := 1) (add_mk _ _ _) (by simp) fun h11 s11 => ?_
    have s11 : St h0 h11 (cA b2 [.int .i64 (FloorS xs a).1, .int .i64 (FloorS xs a).2.1] 40 + (cA b1 [.int .i64 k, .int .i64 a, .int .i64 b] 51 + (A + (L + G)))) := s11
    refine ⟨_, Blk.cellA s11.atomBlk 1, ?_⟩
    have s12 := s11.to (B := A + (cA b2 [.int .i64 (FloorS xs a).1, .int .i64 (FloorS xs a).2.1] 40 + (cA b1 [.int .i64 k, .int .i64 a, .int .i64 b] 51 + (L + G))))
    refine (Floor_ok (key := a) hor h64 so (by omega) ⟨by omega, by omega⟩ ta s12).mono fun v8 h12 ⟨A', vis', hvis', hv8, ta', s13⟩ => ⟨_, _, _, hv8, ?_⟩
    have kb2 := (s13.at (cA b2 [.int .i64 (FloorS xs a).1, .int .i64 (FloorS xs a).2.1] 40)).blk
    refine ⟨_, _, kb2.cell 0, Blk.cellA kb2 1, _, eql_pair, condYes (decide_eq_true rfl) ⟨p, n, c, A', L, vis', hvis', ?_, ta', la, (s13.to (B := (cA b2 [.int .i64 (FloorS xs a).1, .int .i64 (FloorS xs a).2.1] 40 + cA b1 [.int .i64 k, .int .i64 a, .int .i64 b] 51) + (A' + (L + G)))).drop⟩⟩
    rw [decide_eq_true rfl]
  refine condP (fun hk4 => ?_) (fun hk4 => ?_)
  · refine ⟨_, Blk.cellA kb 1, ?_⟩
    refine (rCeil_ok (key := a) (la.rd (s1.at L)) so (by omega)).mono fun v7 h8 ⟨x8, hv7⟩ => ⟨_, _, _, hv7, ?_⟩
    have s8 := s1.grow x8
    refine s8.new (cs := [.int .i64 0, .int .i64 0]) fun b2 h9 x9 s9 => ?_
    refine s9.wr rfl (by simp) fun h10 s10 => ?_
    refine s10.wr (o := 1) (add_mk _ _ _) (by simp) fun h11 s11 => ?_
    have s11 : St h0 h11 (cA b2 [.int .i64 (CeilS xs a).1, .int .i64 (CeilS xs a).2.1] 40 + (cA b1 [.int .i64 k, .int .i64 a, .int .i64 b] 51 + (A + (L + G)))) := s11
    refine ⟨_, Blk.cellA s11.atomBlk 1, ?_⟩
    have s12 := s11.to (B := A + (cA b2 [.int .i64 (CeilS xs a).1, .int .i64 (CeilS xs a).2.1] 40 + (cA b1 [.int .i64 k, .int .i64 a, .int .i64 b] 51 + (L + G))))
    refine (Ceil_ok (key := a) hor h64 so (by omega) ⟨by omega, by omega⟩ ta s12).mono fun v8 h12 ⟨A', vis', hvis', hv8, ta', s13⟩ => ⟨_, _, _, hv8, ?_⟩
    have kb2 := (s13.at (cA b2 [.int .i64 (CeilS xs a).1, .int .i64 (CeilS xs a).2.1] 40)).blk
    refine ⟨_, _, kb2.cell 0, Blk.cellA kb2 1, _, eql_pair, condYes (decide_eq_true rfl) ⟨p, n, c, A', L, vis', hvis', ?_, ta', la, (s13.to (B := (cA b2 [.int .i64 (CeilS xs a).1, .int .i64 (CeilS xs a).2.1] 40 + cA b1 [.int .i64 k, .int .i64 a, .int .i64 b] 51) + (A' + (L + G)))).drop⟩⟩
    rw [decide_eq_true rfl]
  refine condP (fun hk5 => ?_) (fun hk5 => ?_)
  · refine ⟨_, Blk.cellA kb 1, _, Blk.cellA kb 2, ?_⟩
    refine (rScan_ok (fr := a) (to := b) (la.rd (s1.at L)) (by omega)).mono fun v11 h18 ⟨q, m, d, B, hv11, o18, t18⟩ => ⟨_, _, _, _, hv11, ?_⟩
    have kb18 := kb.ext t18.ext
    have s18 := (s1.join t18).to (B := A + (B + (cA b1 [.int .i64 k, .int .i64 a, .int .i64 b] 51 + (L + G))))
    refine ⟨_, Blk.cellA kb18 1, _, Blk.cellA kb18 2, ?_⟩
    refine (Scan_ok (fr := a) (to := b) hor h64 so ta s18).mono fun v12 h19 ⟨q', m', d', B', hv12, o19, s19⟩ => ⟨_, _, _, _, hv12, ?_⟩
    have hfl : (scanS xs a b).1.length ≤ 1000 := by
      unfold scanS
      split
      · split
        · simp
        · exact Nat.le_trans (List.length_filter_le (inSpan a b) xs) (by omega)
      · simp
    have hm18 := o18.len
    refine (EqualP_ok (o18.rd (s19.at B)) (o19.rd (s19.at B')) (by omega)).mono fun v13 h20 ⟨hh20, hv13⟩ => ⟨_, hv13, condYes (decide_eq_true rfl) ⟨p, n, c, A, L, vis, ⟨by omega, by omega⟩, ?_, ta, la, ?_⟩⟩
    · rw [decide_eq_true rfl]
    · subst hh20
      exact (s19.to (B := (B' + B + cA b1 [.int .i64 k, .int .i64 a, .int .i64 b] 51) + (A + (L + G)))).drop
  · rw [l43_do_b1_eq]
    refine (Len_ok ta s1.drop).mono fun v14 h21 ⟨hh21, hv14⟩ => ⟨_, hv14, p, n, c, A, L, vis, ⟨by omega, by omega⟩, ?_, ta, la, ?_⟩
    · rw [decide_eq_true (by omega)]
    · subst hh21; exact s1.drop
end Go.Proofs.Ytaemnjblcpknpaa

/- B-trees: the law Plays. -/
set_option maxRecDepth 100000
namespace Go.Proofs.Ytaemnjblcpknpaa
open Go Go.Sx
abbrev T3 := Int × Int × Int
abbrev tS3 : Ty T3 := ⟨51, 3, fun e => [.int .i64 e.1, .int .i64 e.2.1, .int .i64 e.2.2], (0, 0, 0), fun _ => rfl, by decide, fun _ v hv => by simp at hv; rcases hv with rfl | rfl | rfl <;> rfl⟩
theorem step_load {h : Hp} {p : Option Addr} {n : Nat} {l : List T3} {i : Int} {Q : Int → Int → Int → Prop} (r : RdT tS3 h p n l) (h0 : 0 ≤ i) (h1 : i < n) (hq : Q (l.getD i.toNat (0, 0, 0)).1 (l.getD i.toNat (0, 0, 0)).2.1 (l.getD i.toNat (0, 0, 0)).2.2) :
    (0 ≤ i ∧ i < (n : Int)) ∧ NN p fun a => ∃ x : Int, ∃ y : Int, ∃ z : Int, cell h (a.add (Int.toNat i * 3)) = some (.int .i64 x) ∧ cell h ((a.add (Int.toNat i * 3)).add 1) = some (.int .i64 y) ∧ cell h ((a.add (Int.toNat i * 3)).add 2) = some (.int .i64 z) ∧ Q x y z :=
  r.idx h0 h1 fun _ _ hc => ⟨_, _, _, hc 0 (show 0 < 3 by decide), hc 1 (show 1 < 3 by decide), hc 2 (show 2 < 3 by decide), hq⟩
/-- As Levels, but the shape is the tree's, whatever the heap. -/
theorem Levels_fix {order tb : Nat} {xs : List E} {vis : Int} {A : Bag} (hor : 3 ≤ order) (h64 : order ≤ 64) (hmost : xs.length ≤ 2000) (ta : TreeA order xs tb vis A) :
    ∃ ls, levelsT order xs ls ∧ ∀ {h0 h : Hp} {G : Bag}, St h0 h (A + G) → HCalls Try.prog 16 #[ptr tb] h (fun v h' => ∃ p n c B, v = .slice p n c ∧ OutA (p, n, c) ls B ∧ St h0 h' (A + (B + G))) := by
  rcases ta with ⟨rfl, rfl⟩ | ⟨n, root, t, A1, rfl, hh, hfl, hsz⟩
  · refine ⟨[], .inl ⟨rfl, rfl⟩, fun {h0 h G} s => ?_⟩
    refine btree_Tree_Levels_call ?_
    rw [btree_Tree_Levels_b0_eq]
    refine condNo rfl ?_
    exact ⟨_, s.cellA 2, condYes rfl ⟨none, 0, 0, 0, rfl, Nest.nil, s.to⟩⟩
  · refine ⟨levels n t, .inr ⟨n, t, root, A1, rfl, hh, hfl, hsz⟩, fun {h0 h G} s => ?_⟩
    refine btree_Tree_Levels_call ?_
    rw [btree_Tree_Levels_b0_eq]
    refine condNo rfl ?_
    have s1 := s.to (B := treeC tb order xs.length (some ⟨root, 0, none⟩) vis + (A1 + G))
    refine ⟨_, s1.cellA 2, condNo rfl ?_⟩
    rw [btree_Tree_Levels_b1_eq]
    refine ⟨_, s1.cellA 2, ?_⟩
    refine s1.new (cs := [.pointer (some ⟨root, 0, none⟩)]) fun b1 h1 _ s2 => ?_
    have hz1 : Sz 1 (order - 1) n t := hsz.one (by omega)
    refine ⟨fun x h' => ∃ (k : Nat) (Bo Bl : Bag), k ≤ n + 1 ∧ OutA x.1 ((List.range k).map fun j => lv n j t) Bo ∧ St h0 h' (A1 + (Bo + (Bl + (treeC tb order xs.length (some ⟨root, 0, none⟩) vis + G)))) ∧
      ((k = n + 1 ∧ Sl TP x.2.1.1 x.2.1.2.1 x.2.1.2.2 [] Bl) ∨ ∃ (m : Nat) (bs : List Nat) (ts : List BT) (Ac Ar : Bag), k + m = n ∧ Sl TP x.2.1.1 x.2.1.2.1 x.2.1.2.2 bs Bl ∧ A1 = Ac + Ar ∧ AllH (Hold m) bs ts Ac ∧ (∀ u ∈ ts, Sz 1 (order - 1) m u) ∧ tot m ts ≤ 2000 ∧ 0 < bs.length ∧ (∀ j, ts.flatMap (lv m j) = lv n (k + j) t)),
      fun x _ => if x.2.1.2.1 = 0 then 0 else n + 2 - x.1.2.1, ?_, ?_⟩
    · refine ⟨0, 0, cA b1 [.pointer (some ⟨root, 0, none⟩)] 73, by omega, Nest.nil, s2.to, .inr ⟨n, [root], [t], A1, 0, by omega, (show Sl TP (some ⟨b1, 0, none⟩) 1 1 [root] (cA b1 [.pointer (some ⟨root, 0, none⟩)] (TP).e) from Sl.one rfl), (Bag.add_zero _).symm, AllH.one hh, ?_, ?_, by simp, ?_⟩⟩
      · intro u hu; simp at hu; subst hu; exact hz1
      · rw [tot_one, hfl]; exact hmost
      · intro j; simp
    rintro ⟨⟨p, m0, c⟩, ⟨q, l0, d⟩, _⟩ h2 ⟨k, Bo, Bl, hk, ho, s3, hrow⟩
    dsimp only at ho hrow ⊢
    have hol := ho.len
    rw [List.length_map, List.length_range] at hol
    dsimp only at hol
    subst hol
    rcases hrow with ⟨rfl, hl⟩ | ⟨m, bs, ts, Ac, Ar, hkm, hl, hA, hall, hzs, htot, hpos, hlv⟩
    · obtain rfl : 0 = l0 := hl.len
      rw [btree_Tree_Levels_b2_eq]
      refine condNo (by decide) ?_
      rw [btree_Tree_Levels_b4_eq]
      refine ⟨p, n + 1, c, Bo, rfl, ho, (s3.to (B := Bl + (treeC tb order xs.length (some ⟨root, 0, none⟩) vis + A1 + (Bo + G)))).drop⟩
    · obtain ⟨ys, B1, B2, hAc, g1, g2, g3, g4⟩ := row hall
      have hll := hl.len
      have hcnt := tot_ge hall hzs
      have hbt := hall.len
      have hylen := g1.len
      have hn := pow_bound (n := n) (m := xs.length) (by rw [← hfl]; exact hsz.low hh (by omega)) (by omega)
      have hfm : (ys.flatMap Prod.snd).length ≤ 2000 ∧ (∀ m', m = m' + 1 → tot m' (ts.flatMap BT.ts) ≤ 2000 ∧ ∀ u ∈ ts.flatMap BT.ts, Sz 1 (order - 1) m' u) := by
        cases m with
        | zero => rw [g3 rfl]; exact ⟨by simp, fun m' hm => by omega⟩
        | succ m =>
          have h5 := tot_next hall
          have h7 : ∀ u ∈ ts.flatMap BT.ts, Sz 1 (order - 1) m u := by
            intro u hu
            obtain ⟨w, hw, huw⟩ := List.mem_flatMap.1 hu
            exact (hzs w hw).2 u huw
          have h6 := tot_ge (g4 m rfl) h7
          have h8 := (g4 m rfl).len
          refine ⟨by omega, fun m' hm => ?_⟩
          obtain rfl : m = m' := by omega
          exact ⟨by omega, h7⟩
      have hes : ∀ x ∈ ys, x.1.length ≤ 1000 := by
        intro x hx
        have : x.1 ∈ ys.map Prod.fst := List.mem_map.2 ⟨x, hx, rfl⟩
        rw [g2] at this
        obtain ⟨u, hu, he⟩ := List.mem_map.1 this
        have := (hzs u hu).here
        rw [← he]; omega
      have hrow : ys.map (fun x => x.1.map Prod.fst) = lv n k t := by
        have h5 := hlv 0
        rw [lv_here, Nat.add_zero] at h5
        rw [← h5]
        have : ys.map (fun x => x.1.map Prod.fst) = (ys.map Prod.fst).map (fun es => es.map Prod.fst) := by simp
        rw [this, g2]; simp
      have s4 : St h0 h2 (B1 + (Bo + (Bl + (B2 + (Ar + (treeC tb order xs.length (some ⟨root, 0, none⟩) vis + G)))))) := by rw [hA, hAc] at s3; exact s3.to
      refine levels_b2_ok g1 ho hl (by omega) (by omega) (by omega) (by omega) hes s4 fun h' p' c' q' d' Bo' Bl' ho' hl' s5 => ?_
      rw [hrow] at ho'
      have hout : OutA (p', k + 1, c') ((List.range (k + 1)).map fun j => lv n j t) Bo' := by rw [List.range_succ, List.map_append]; exact ho'
      have s6 : St h0 h' (A1 + (Bo' + (Bl' + (treeC tb order xs.length (some ⟨root, 0, none⟩) vis + G)))) := by rw [hA, hAc]; exact s5.to
      refine ⟨⟨k + 1, Bo', Bl', by omega, hout, s6, ?_⟩, ?_⟩
      · cases m with
        | zero =>
          refine .inl ⟨by omega, ?_⟩
          have := hl'
          rw [g3 rfl] at this
          dsimp only
          rw [g3 rfl]
          exact this
        | succ m =>
          refine .inr ⟨m, ys.flatMap Prod.snd, ts.flatMap BT.ts, B2, B1 + Ar, by omega, hl', by rw [hA, hAc]; ac_rfl, g4 m rfl, (hfm.2 m rfl).2, (hfm.2 m rfl).1, ?_, ?_⟩
          · have h8 := (g4 m rfl).len
            obtain ⟨u, us, hts⟩ : ∃ u us, ts = u :: us := by
              cases ts with
              | nil => exact absurd (show bs.length = 0 from hbt) (by omega)
              | cons u us => exact ⟨u, us, rfl⟩
            have hu : u.ts.length = u.es.length + 1 := by
              subst hts
              cases bs with
              | nil => simp at hpos
              | cons b bs =>
                obtain ⟨_, _, _, k1, _⟩ := hall
                exact k1.len
            rw [h8, hts, List.flatMap_cons, List.length_append]
            omega
          · intro j
            rw [← lv_next, hlv (j + 1)]
            congr 1
            omega
      · have hl0 : l0 ≠ 0 := by omega
        simp only
        rw [if_neg hl0]
        split
        · omega
        · omega
theorem Height_fix {tb : Nat} {ls : List (List (List Int))} {A : Bag} (hl : ∀ {h0 h : Hp} {G : Bag}, St h0 h (A + G) → HCalls Try.prog 16 #[ptr tb] h (fun v h' => ∃ p n c B, v = .slice p n c ∧ OutA (p, n, c) ls B ∧ St h0 h' (A + (B + G)))) {h0 h : Hp} {G : Bag} (s : St h0 h (A + G)) :
    HCalls Try.prog 20 #[ptr tb] h (fun v h' => v = .int .i64 (ls.length : Int) ∧ St h0 h' (A + G)) := by
  refine btree_Tree_Height_call ?_
  rw [btree_Tree_Height_b0_eq]
  refine (hl s).mono fun v h' ⟨p, n, c, B, hv, ho, s'⟩ => ?_
  refine ⟨_, _, _, hv, ?_, (s'.to (B := B + (A + G))).drop⟩
  have := ho.len
  dsimp only at this
  rw [this]
theorem stepS_ok {xs : List E} {k a b : Int} (h : OkL xs) : OkL (stepS xs k a b) := by
  refine ⟨fun x hx => ?_, stepS_srt h.2⟩
  unfold stepS at hx
  split at hx
  · by_cases hk : KeyP a ∧ KeyP b
    · rcases putS_mem hx with rfl | hx
      · exact hk
      · exact h.1 x hx
    · rw [putS, if_neg hk] at hx
      exact h.1 x hx
  · split at hx
    · exact h.1 x (removeS_mem hx)
    · exact h.1 x hx
theorem plays_law {h : Hp} {order : Int} {p : Option Addr} {n c : Nat} {l : List T3} (r : RdT tS3 h p n l) :
    HCalls Try.prog 5 #[.int .i64 order, .slice p n c] h (fun v h' => v = .bool true ∧ Ext h h') := by
  have hlen := r.len
  refine l43_BtreePlays_call ?_
  rw [l43_BtreePlays_b0_eq]
  refine (awake_ok h).mono fun v1 h1 ⟨hv1, x1⟩ => ⟨_, hv1, condNo rfl ?_⟩
  refine l43_few_call ?_
  rw [l43_few_b0_eq]
  refine ⟨_, rfl, ?_⟩
  refine condN (fun hn => ?_) (fun hn => ?_)
  · exact (awake_ok h1).mono fun v2 h2 ⟨hv2, x2⟩ => ⟨_, hv2, rfl, x1.trans x2⟩
  rw [l43_BtreePlays_b1_eq]
  refine New_ok.mono fun v4 h4 hv => ?_
  have none_ok : order < 3 ∨ 64 < order → h4 = h1 ∧ v4 = .tuple #[.pointer none, .int .i64 2] := fun hc => by rw [if_pos hc] at hv; exact hv
  by_cases hbad : order < 3 ∨ 64 < order
  · obtain ⟨rfl, rfl⟩ := none_ok hbad
    refine ⟨_, _, rfl, condP (fun _ => condYes rfl ⟨rfl, x1⟩) (fun h3 => condP (fun _ => condYes rfl ⟨rfl, x1⟩) (fun h64 => ?_))⟩
    omega
  clear none_ok
  rw [if_neg hbad] at hv
  obtain ⟨m, rfl⟩ : ∃ m : Nat, order = (m : Int) := ⟨order.toNat, by omega⟩
  obtain ⟨tb, A, hv4, ta, s4⟩ := hv
  have ta : TreeA m [] tb 0 A := ta
  have s4 : St h h4 A := s4.base x1
  refine ⟨_, _, hv4, condNo (decide_eq_false (by omega)) (condNo (decide_eq_false (by omega)) ?_)⟩
  rw [l43_BtreePlays_b2_eq]
  refine condNo rfl (condNo rfl ?_)
  refine (Len_ok ta (s4.to (B := A + 0))).mono fun v5 h5 ⟨hh5, hv5⟩ => ⟨_, hv5, condNo rfl ?_⟩
  subst hh5
  refine (Height_ok (by omega) (by omega) (by simp) ta (G := 0) s4.to).mono fun v6 h6 ⟨ls6, hv6, hls6, s6⟩ => ⟨_, hv6, ?_⟩
  have e6 : ls6 = [] := by
    rcases hls6 with ⟨_, h⟩ | ⟨N, t, b, D, _, hh, hfl, hsz⟩
    · exact h
    · have := hsz.lower hh
      rw [hfl] at this
      have : 1 ≤ ((m + 1) / 2 - 1 + 1) ^ N := Nat.one_le_pow _ _ (by omega)
      simp at *
      omega
  rw [e6]
  refine condNo rfl ?_
  refine (Levels_ok (by omega) (by omega) (by simp) ta s6).mono fun v7 h7 ⟨p7, n7, c7, ls7, B7, hv7, o7, hls7, s7⟩ => ⟨_, _, _, hv7, ?_⟩
  have e7 : ls7 = [] := by
    rcases hls7 with ⟨_, h⟩ | ⟨N, t, b, D, _, hh, hfl, hsz⟩
    · exact h
    · have := hsz.lower hh
      rw [hfl] at this
      have : 1 ≤ ((m + 1) / 2 - 1 + 1) ^ N := Nat.one_le_pow _ _ (by omega)
      simp at *
      omega
  have hn7 := o7.len
  rw [e7] at hn7
  dsimp only [List.length_nil] at hn7
  refine condNo (by rw [← hn7]; rfl) ?_
  rw [l43_BtreePlays_b3_eq]
  refine ⟨fun st h' => ∃ (i : Nat) (xs : List E) (vis : Int) (A' L : Bag), st.2.1 = i ∧ i ≤ n ∧ OkL xs ∧ xs.length ≤ i ∧ (0 ≤ vis ∧ vis ≤ 1000 * i) ∧ TreeA m xs tb vis A' ∧ Sl TE st.1.1 st.1.2.1 st.1.2.2 xs L ∧ St h h' (A' + (L + 0)), fun st _ => n - st.2.1.toNat, ⟨0, [], 0, A, 0, rfl, by omega, ⟨fun x hx => by simp at hx, by simp⟩, by simp, ⟨by omega, by omega⟩, ta, Sl.nil, (s7.to (B := B7 + (A + 0))).drop.to⟩, ?_⟩
  rintro ⟨⟨q, qn, qc⟩, _, _⟩ h8 ⟨i, xs, vis, A', L, rfl, hin, hok, hxl, hvis, ta', la, s8⟩
  dsimp only at la ⊢
  have hqn := la.len
  rw [l43_BtreePlays_b4_eq]
  refine condP (fun hlt => ?_) (fun hge => ?_)
  · refine step_load (r.ext s8.ext) (by omega) (by omega) ?_
    rw [Int.toNat_natCast]
    generalize (l.getD i (0, 0, 0)).1 = k
    generalize (l.getD i (0, 0, 0)).2.1 = a
    generalize (l.getD i (0, 0, 0)).2.2 = b
    refine s8.new (cs := [.int .i64 0, .int .i64 0, .int .i64 0]) fun b1 h9 x9 s9 => ?_
    refine s9.wr rfl (by simp) fun h10 s10 => ?_
    refine s10.wr (o := 1) (add_mk _ _ _) (by simp) fun h11 s11 => ?_
    refine s11.wr (o := 2) (add_mk _ _ _) (by simp) fun h12 s12 => ?_
    have s12 : St h h12 (cA b1 [.int .i64 k, .int .i64 a, .int .i64 b] 51 + (A' + (L + 0))) := s12
    refine ⟨_, _, _, s12.blk.cell 0, Blk.cellA s12.blk 1, Blk.cellA s12.blk 2, ?_⟩
    refine (do_ok (k := k) (a := a) (b := b) (by omega) (by omega) hok.2 (by omega) ⟨by omega, by omega⟩ ta' la s12.drop).mono fun v9 h13 ⟨q', m', d', A2, L2, vis2, hvis2, hv9, ta2, la2, s13⟩ => ⟨_, _, _, _, hv9, condNo rfl ?_⟩
    have hl2 := la2.len
    have hsl := stepS_len (xs := xs) (k := k) (a := a) (b := b)
    have hok2 := stepS_ok (k := k) (a := a) (b := b) hok
    generalize stepS xs k a b = ys at ta2 la2 hl2 hsl hok2
    refine (Len_ok ta2 s13).mono fun v10 h14 ⟨hh14, hv10⟩ => ⟨_, hv10, condNo (by rw [hl2]; simp) ?_⟩
    subst hh14
    rw [l43_BtreePlays_b5_eq]
    obtain ⟨ls, hls, hlv⟩ := Levels_fix (by omega) (by omega) (by omega) ta2
    refine (hlv s13).mono fun v11 h16 ⟨p11, n11, c11, B11, hv11, o11, s16⟩ => ⟨_, _, _, hv11, ?_⟩
    refine (Height_fix hlv s16).mono fun v12 h17 ⟨hv12, s17⟩ => ⟨_, hv12, ?_⟩
    have hn11 := o11.len
    dsimp only at hn11
    refine condNo (by rw [hn11]; simp) ?_
    refine (keys_ok (la2.rd (s17.at L2)) (by omega)).mono fun v13 h18 ⟨q13, d13, B13, hv13, o13, t13⟩ => ⟨_, _, _, hv13, ?_⟩
    have s18 := (s17.join t13).to (B := B11 + (B13 + (A2 + (L2 + 0))))
    refine (Shaped_ok (by omega) (by omega) hls (by omega) o11 (RdS.own o13) rfl s18).mono fun v14 h19 ⟨hv14, s19⟩ => ⟨_, hv14, condNo rfl ?_⟩
    rw [l43_BtreePlays_b7_eq]
    exact ⟨⟨by omega, by omega⟩, ⟨i + 1, ys, vis2, A2, L2, by simp only; omega, by omega, hok2, by omega, ⟨by omega, by omega⟩, ta2, la2, (s19.to (B := (B11 + B13) + (A2 + (L2 + 0)))).drop⟩, by simp only; omega⟩
  · rw [l43_BtreePlays_b6_eq]
    refine (Scan_ok (by omega) (by omega) hok.2 ta' s8).mono fun v15 h20 ⟨p10, n10, c10, B10, hv10, o10, s20⟩ => ⟨_, _, _, _, hv10, ?_⟩
    have hlt := span_all hok
    have hfl2 : (xs.filter (inSpan (-1048576) 1048576)).length ≤ 1000 := Nat.le_trans (List.length_filter_le _ _) (by omega)
    have hs : scanS xs (-1048576) 1048576 = (xs.filter (inSpan (-1048576) 1048576), 0) := by rw [scanS, if_pos (by decide), if_neg (by omega)]
    rw [hs] at o10 ⊢
    have o10 : Sl TE p10 n10 c10 (xs.filter (inSpan (-1048576) 1048576)) B10 := o10
    have hn10 := o10.len
    have rx := o10.rd (s20.at B10)
    have rm := la.rd (s20.at L)
    have b8 : ∀ (pp : Option Addr) (nn cc : Nat) (ys : List E), RdT TE h20 pp nn ys → xs.filter (inSpan (-1048576) 1048576) = ys → l43_BtreePlays_b8 0 pp nn cc p10 n10 c10 h20 fun v h' => v = .bool true ∧ Ext h h' := by
      rintro pp nn cc ys ry rfl
      rw [l43_BtreePlays_b8_eq]
      refine condYes rfl ((EqualP_ok rx ry (by omega)).mono fun v17 h17 ⟨hh17, hv17⟩ => ⟨_, hv17, ?_, ?_⟩)
      · rw [decide_eq_true rfl]
      · subst hh17; exact s20.ext
    refine condP (fun hpos => ?_) (fun hpos => ?_)
    · refine ⟨⟨by omega, by omega⟩, pair_at rm (by omega) (by omega) ?_⟩
      have ei : ((qn : Int) - 1).toNat = qn - 1 := by omega
      have e0 : Int.toNat (0 : Int) = 0 := rfl
      rw [ei]
      refine condP (fun hmx => ?_) (fun hmx => ?_)
      · have := la.cap
        refine ⟨⟨by omega, by omega⟩, ⟨by omega, by omega, by omega⟩, ?_⟩
        rw [e0, subAddr_z, Nat.sub_zero, Nat.sub_zero]
        exact b8 _ _ _ _ (rm.take (i := qn - 1) (by omega)) ((hlt.1 (by omega) (by rw [hqn]; exact hmx)).trans (by rw [hqn]))
      · exact b8 _ _ _ _ rm (hlt.2 (.inr (by rw [hqn]; exact hmx)))
    · exact b8 _ _ _ _ rm (hlt.2 (.inl (List.eq_nil_of_length_eq_zero (by omega))))
end Go.Proofs.Ytaemnjblcpknpaa

/- How a slice that is handed in is read: elements of any number of cells. -/
namespace Go.Sx
open Go Go.ChangeShapes Go.WideShapes Go.Deep
section
variable {H : Type} {enc : TypeId × Value → H} {P : Program} {w : World} {base : Nat} {sp : Nat → Bool} {held : Bool} {α : Type}
theorem rd_flat {t : TypeId} (T : Ty α) {W : α → Prop} {a : Option Addr} {len cap : Nat} {d : DataW H} {ps : List MemPlace} (ht : P.underlying t = some (.slice T.e)) (hc : P.cellsOf T.e = T.sz)
    (dec : ∀ n cs x, DataW.trod enc P w base sp held n T.e cs = some x → ∃ a, cs = T.enc a ∧ W a) (h : DataW.Trod enc P w base sp held t (.slice a len cap) d ps) :
    ∃ xs : List α, RdT T w.heap a len xs ∧ len ≤ cap ∧ ∀ x ∈ xs, W x := by
  obtain ⟨fuel, hf⟩ := h
  have e0 : (Value.slice a len cap).cells.toList = [.slice a len cap] := rfl
  rw [e0] at hf
  rcases open_slice ht hf with ⟨hcs, _⟩ | ⟨x, l, c, m, n, D, Pl, hcs, _, hl, _, hm, _, hx⟩
  · injection hcs with h1 _
    injection h1 with h1 h2 h3
    subst h1 h2 h3
    exact ⟨[], RdT.nil _ _, Nat.le_refl _, fun _ h => nomatch h⟩
  · injection hcs with h1 _
    injection h1 with h1 h2 h3
    subst h1 h2 h3
    have hlm : len ≤ m := by rw [hm]; split <;> omega
    haveI : Inhabited α := ⟨T.d⟩
    obtain ⟨f, hf⟩ := choose_lt (α := α) (n := len) (p := fun i z => w.cells? base (x.add (i * T.sz)) T.sz = some (T.enc z) ∧ W z) (fun i hi => by
      obtain ⟨cs, h1, h2⟩ := hx i (by omega)
      obtain ⟨z, hz, hw⟩ := dec n cs _ h2
      rw [hc] at h1
      exact ⟨z, by rw [h1, hz], hw⟩)
    refine ⟨(List.range len).map f, ⟨by simp, .inr ⟨x, rfl, fun i hi => ?_⟩⟩, hl, fun z hz => ?_⟩
    · have hp := T.pos
      have hdm : T.sz * (i / T.sz) + i % T.sz = i := Nat.div_add_mod i T.sz
      have hq : i / T.sz < len := (Nat.div_lt_iff_lt_mul hp).2 hi
      have hr : i % T.sz < T.sz := Nat.mod_lt _ hp
      obtain ⟨_, _, h3⟩ := World.cells?_some (hf _ hq).1
      have h4 := h3 _ hr
      have e1 : i / T.sz * T.sz + i % T.sz = i := by rw [Nat.mul_comm]; exact hdm
      rw [add_add, e1] at h4
      show cell w.heap (x.add i) = _
      rw [← cell_eq, h4]
      have := T.cells_get ((List.range len).map f) (i := i / T.sz) (j := i % T.sz) (by simpa using hq) hr
      rw [e1] at this
      rw [this]
      simp [List.getD, hq]
    · obtain ⟨i, hi, rfl⟩ := List.mem_map.1 hz
      exact (hf i (List.mem_range.1 hi)).2
theorem dec_int {e : TypeId} {k : IntKind} (he : P.underlying e = some (.int k)) (n : Nat) (cs : List Value) (x : DataW H × List MemPlace) (h : DataW.trod enc P w base sp held n e cs = some x) : ∃ z, cs = [.int k z] ∧ (Lit.int k z).wf = true := by
  obtain ⟨z, h1, _, h2⟩ := DataW.trod_int he h
  exact ⟨z, h1, h2⟩
/-- An array of two numbers. -/
theorem dec_arr2 {t e : TypeId} (ht : P.underlying t = some (.array 2 e)) (he : P.underlying e = some (.int .i64)) (ce : P.cellsOf e = 1) (ct : P.cellsOf t = 2) (n : Nat) (cs : List Value) (x : DataW H × List MemPlace) (h : DataW.trod enc P w base sp held n t cs = some x) :
    ∃ a : Int × Int, cs = [.int .i64 a.1, .int .i64 a.2] ∧ (InR a.1 ∧ InR a.2) := by
  obtain ⟨xs, m, _, _, hl, hxl, hx⟩ := DataW.trod_array ht h
  rw [ct] at hl
  match cs, hl with
  | [c0, c1], _ =>
    have h0 := hx 0 (by omega)
    have h1 := hx 1 (by omega)
    rw [ce] at h0 h1
    rw [List.getElem?_eq_getElem (by omega)] at h0 h1
    obtain ⟨z0, e0, _, w0⟩ := DataW.trod_int he h0
    obtain ⟨z1, e1, _, w1⟩ := DataW.trod_int he h1
    simp at e0 e1
    subst e0 e1
    have b0 := bounds_i64 w0
    have b1 := bounds_i64 w1
    exact ⟨(z0, z1), rfl, b0, b1⟩
end
end Go.Sx

/- How the law's arguments are read. -/
set_option maxRecDepth 10000
namespace Go.Proofs.Ytaemnjblcpknpaa
open Go Go.Sx Go.ChangeShapes Go.WideShapes Go.ChangeAt Go.RowKit Go.Deep

theorem own : ownKnob Try.prog.godebug = none := by kernel_rfl
theorem laidOut : laidOutB Try.prog = true := by kernel_rfl
theorem below_of {P : Program} {f : FuncId} {args : Array Value} {w : World} (hc : HCalls P f args w.heap (fun v h' => v = .bool true ∧ Ext w.heap h')) :
    Calls P f args w fun e w' => e = .returned (.bool true) ∧ Below w.heap.size w w' :=
  (hc w rfl).mono fun e w' ⟨v, he, hs, hv, hx⟩ => ⟨by rw [he, hv], ⟨hs.os, hs.tape, hs.output, hx.size, hx.same⟩⟩
section
variable {H : Type} {enc : TypeId × Value → H} {w : World} {base : Nat} {held : Bool} {a : Option Addr} {len cap : Nat} {d : DataW H} {ps : List MemPlace}
theorem rd_pairs (h : DataW.Trod enc Try.prog w base (fun _ => true) held 22 (.slice a len cap) d ps) : ∃ l : List (Int × Int), RdT (tPP 40) w.heap a len l ∧ len ≤ cap ∧ ∀ x ∈ l, InR x.1 ∧ InR x.2 :=
  rd_flat (tPP 40) Try.underlying22 (by kernel_rfl) (dec_arr2 (e := 3) (by kernel_rfl) (by kernel_rfl) (by kernel_rfl) (by kernel_rfl)) h
theorem rd_i16s (h : DataW.Trod enc Try.prog w base (fun _ => true) held 43 (.slice a len cap) d ps) : ∃ l : List Int, RdT tI16 w.heap a len l ∧ len ≤ cap ∧ ∀ x ∈ l, -32768 ≤ x ∧ x ≤ 32767 :=
  rd_flat tI16 Try.underlying43 (by kernel_rfl) (fun n cs x h => by
    obtain ⟨z, h1, h2⟩ := dec_int (k := .i16) (by kernel_rfl) n cs x h
    exact ⟨z, h1, bounds_i16 h2⟩) h
theorem rd_steps (h : DataW.Trod enc Try.prog w base (fun _ => true) held 48 (.slice a len cap) d ps) : ∃ l : List T3, RdT tS3 w.heap a len l ∧ len ≤ cap ∧ ∀ x ∈ l, InR x.1 ∧ InR x.2.1 ∧ InR x.2.2 :=
  rd_flat tS3 Try.underlying48 (by kernel_rfl) (fun n cs x h => by
    obtain ⟨xs, m, _, _, hl, hxl, hx⟩ := DataW.trod_struct Try.underlying51 h
    rw [show Try.prog.cellsOf 51 = 3 by kernel_rfl] at hl
    match cs, xs, hl, hxl with
    | [c0, c1, c2], [y0, y1, y2], _, _ =>
      obtain ⟨z0, e0, w0⟩ := dec_int (k := .i64) (by kernel_rfl) _ _ _ (hx 0 _ rfl)
      obtain ⟨z1, e1, w1⟩ := dec_int (k := .i64) (by kernel_rfl) _ _ _ (hx 1 _ rfl)
      obtain ⟨z2, e2, w2⟩ := dec_int (k := .i64) (by kernel_rfl) _ _ _ (hx 2 _ rfl)
      have f0 : c0 = .int .i64 z0 := (List.cons.inj (show [c0] = [Value.int .i64 z0] from e0)).1
      have f1 : c1 = .int .i64 z1 := (List.cons.inj (show [c1] = [Value.int .i64 z1] from e1)).1
      have f2 : c2 = .int .i64 z2 := (List.cons.inj (show [c2] = [Value.int .i64 z2] from e2)).1
      rw [f0, f1, f2]
      exact ⟨(z0, z1, z2), rfl, bounds_i64 w0, bounds_i64 w1, bounds_i64 w2⟩) h
end
end Go.Proofs.Ytaemnjblcpknpaa

/- B-trees: the law Full. -/
set_option maxRecDepth 100000
namespace Go.Proofs.Ytaemnjblcpknpaa
open Go Go.Sx
def evs (s n : Nat) : List E := (List.range' s n).map fun (i : Nat) => (2 * (i : Int), (i : Int))
theorem evs_len {s n : Nat} : (evs s n).length = n := by simp [evs]
theorem evs_mem {s n : Nat} {e : E} (h : e ∈ evs s n) : ∃ i : Nat, s ≤ i ∧ i < s + n ∧ e = (2 * (i : Int), (i : Int)) := by
  obtain ⟨i, hi, rfl⟩ := List.mem_map.1 h
  exact ⟨i, (List.mem_range'_1.1 hi).1, (List.mem_range'_1.1 hi).2, rfl⟩
theorem evs_add {s m n : Nat} : evs s (m + n) = evs s m ++ evs (s + m) n := by
  unfold evs
  rw [← List.map_append, List.range'_append_1]
theorem evs_cons {s n : Nat} : evs s (n + 1) = (2 * (s : Int), (s : Int)) :: evs (s + 1) n := rfl
theorem evs_one {s : Nat} : evs s 1 = [(2 * (s : Int), (s : Int))] := rfl
theorem evs_srt {n : Nat} : ∀ {s : Nat}, Srt (evs s n) := by
  induction n with
  | zero => intro s; exact List.Pairwise.nil
  | succ n ih =>
    intro s
    rw [evs_cons, Srt.con]
    refine ⟨fun y hy => ?_, ih⟩
    obtain ⟨i, h1, h2, rfl⟩ := evs_mem hy
    simp only; omega
theorem evs_ok : OkL (evs 0 2000) := by
  refine ⟨fun x hx => ?_, evs_srt⟩
  obtain ⟨i, h1, h2, rfl⟩ := evs_mem hx
  exact ⟨⟨by simp only; omega, by simp only; omega⟩, ⟨by simp only; omega, by simp only; omega⟩⟩
theorem evs_split {r : Nat} (hr : r < 2000) : evs 0 2000 = evs 0 r ++ (2 * (r : Int), (r : Int)) :: evs (r + 1) (1999 - r) := by
  have h1 : evs 0 2000 = evs 0 r ++ evs (0 + r) (1999 - r + 1) := by rw [← evs_add]; congr 1; omega
  rw [h1, evs_cons, Nat.zero_add]
theorem evs_cut {r : Nat} {v : Int} : evs 0 r = lowS (evs 0 r ++ (2 * (r : Int), v) :: evs (r + 1) (1999 - r)) (2 * (r : Int)) ∧ (2 * (r : Int), v) :: evs (r + 1) (1999 - r) = upS (evs 0 r ++ (2 * (r : Int), v) :: evs (r + 1) (1999 - r)) (2 * (r : Int)) := by
  refine cut_eq rfl (fun x hx => ?_) (fun y hy => ?_)
  · obtain ⟨i, h1, h2, rfl⟩ := evs_mem hx
    simp only; omega
  · rcases List.mem_cons.1 hy with rfl | hy
    · exact Int.le_refl _
    · obtain ⟨i, h1, h2, rfl⟩ := evs_mem hy
      simp only; omega
theorem put_odd {k : Int} (h0 : 0 ≤ k) (h1 : k ≤ 65535) : putS (evs 0 2000) (2 * k + 1) 0 = (evs 0 2000, 0, false, 4) := by
  have hk : ¬ hasKey (upS (evs 0 2000) (2 * k + 1)) (2 * k + 1) = true := by
    intro h
    cases hu : upS (evs 0 2000) (2 * k + 1) with
    | nil => rw [hu] at h; cases h
    | cons e es =>
      rw [hu] at h
      have he : e.1 = 2 * k + 1 := of_decide_eq_true h
      have hm : e ∈ evs 0 2000 := up_sub.mem (by rw [hu]; simp)
      obtain ⟨i, _, _, rfl⟩ := evs_mem hm
      simp only at he; omega
  rw [putS, if_pos ⟨⟨by omega, by omega⟩, by decide⟩, if_neg hk, if_pos (by rw [evs_len]; exact Nat.le_refl _)]
abbrev sev (r : Nat) : List E := evs 0 r ++ (2 * (r : Int), 7) :: evs (r + 1) (1999 - r)
theorem put_even {r : Nat} (hr : r < 2000) : putS (evs 0 2000) (2 * (r : Int)) 7 = (sev r, (r : Int), true, 0) := by
  obtain ⟨c1, c2⟩ := evs_cut (r := r) (v := (r : Int))
  rw [evs_split hr, putS, ← c1, ← c2, if_pos ⟨⟨by omega, by omega⟩, by decide⟩, if_pos (show hasKey (_ :: _) _ = true from decide_eq_true rfl)]
  rfl
theorem get_even {r : Nat} (hr : r < 2000) : getS (sev r) (2 * (r : Int)) = (7, 0) := by
  obtain ⟨c1, c2⟩ := evs_cut (r := r) (v := 7)
  rw [getS, ← c2, if_pos ⟨by omega, by omega⟩, if_pos (show hasKey (_ :: _) _ = true from decide_eq_true rfl)]
  rfl
theorem sev_len {r : Nat} (hr : r < 2000) : (sev r).length = 2000 := by
  rw [List.length_append, List.length_cons, evs_len, evs_len]; omega
theorem sev_keys {r : Nat} (hr : r < 2000) : (sev r).map Prod.fst = (evs 0 2000).map Prod.fst := by
  rw [evs_split hr]; simp
theorem span_keys {a b : Int} {l : List E} : (l.filter (inSpan a b)).length = ((l.map Prod.fst).filter fun k => decide (a ≤ k ∧ k < b)).length := by
  rw [List.filter_map, List.length_map]
  rfl
theorem evs_span {m : Nat} {b : Int} (hm : m ≤ 2000) (h1 : b ≤ 2 * (m : Int)) (h2 : 2 * (m : Int) - 2 < b) : ((evs 0 2000).filter (inSpan 0 b)).length = m := by
  have hsp : evs 0 2000 = evs 0 m ++ evs (0 + m) (2000 - m) := by rw [← evs_add]; congr 1; omega
  rw [hsp, List.filter_append]
  have e1 : (evs 0 m).filter (inSpan 0 b) = evs 0 m := by
    rw [List.filter_eq_self]
    intro e he
    obtain ⟨i, _, h4, rfl⟩ := evs_mem he
    exact decide_eq_true ⟨by simp only; omega, by simp only; omega⟩
  have e2 : (evs (0 + m) (2000 - m)).filter (inSpan 0 b) = [] := by
    rw [List.filter_eq_nil_iff]
    intro e he
    obtain ⟨i, h3, _, rfl⟩ := evs_mem he
    rw [inSpan, decide_eq_false (fun h => by simp only at h; omega)]
    simp
  rw [e1, e2, List.append_nil, evs_len]
theorem sev_span {r m : Nat} {b : Int} (hr : r < 2000) (hm : m ≤ 2000) (h1 : b ≤ 2 * (m : Int)) (h2 : 2 * (m : Int) - 2 < b) : ((sev r).filter (inSpan 0 b)).length = m := by
  rw [span_keys, sev_keys hr, ← span_keys, evs_span hm h1 h2]
theorem sev_srt {r : Nat} (hr : r < 2000) : Srt (sev r) := by
  have h : Srt (evs 0 2000) := evs_srt
  have h2 := putS_srt (key := 2 * (r : Int)) (v := 7) h
  rw [put_even hr] at h2
  exact h2
theorem full_law {h : Hp} {order key : Int} (ho : 0 ≤ order ∧ order ≤ 255) (hk : 0 ≤ key ∧ key ≤ 65535) :
    HCalls Try.prog 7 #[.int .u8 order, .int .u16 key] h (fun v h' => v = .bool true ∧ Ext h h') := by
  refine l43_BtreeFull_call ?_
  rw [l43_BtreeFull_b0_eq]
  refine (awake_ok h).mono fun v1 h1 ⟨hv1, x1⟩ => ⟨_, hv1, condNo rfl ?_⟩
  refine btree_Tree_Put_call ?_
  rw [btree_Tree_Put_b0_eq]
  refine condYes rfl ⟨_, _, _, rfl, ?_⟩
  refine btree_Tree_Get_call ?_
  rw [btree_Tree_Get_b0_eq]
  refine condYes rfl ⟨_, _, rfl, ?_⟩
  refine btree_Tree_Remove_call ?_
  rw [btree_Tree_Remove_b0_eq]
  refine condYes rfl ⟨_, _, rfl, ?_⟩
  refine btree_Tree_Floor_call ?_
  rw [btree_Tree_Floor_b0_eq]
  refine condYes rfl ⟨_, _, _, rfl, ?_⟩
  refine btree_Tree_Ceiling_call ?_
  rw [btree_Tree_Ceiling_b0_eq]
  refine condYes rfl ⟨_, _, _, rfl, ?_⟩
  refine btree_Tree_Scan_call ?_
  rw [btree_Tree_Scan_b0_eq]
  have s1 : St h h1 0 := (St.start h1).base x1
  refine s1.new (cs := [.int .i64 1]) fun b1 h2 _ s2 => ?_
  refine s2.new (cs := [.int .i64 2]) fun b2 h3 _ s3 => ?_
  refine condYes rfl ⟨_, _, _, _, rfl, ?_⟩
  refine btree_Tree_Do_call ?_
  rw [btree_Tree_Do_b0_eq]
  have s3 : St h h3 0 := (s3.to (B := (cA b2 [.int .i64 2] 3 + cA b1 [.int .i64 1] 3) + 0)).drop
  refine s3.new (cs := [.int .i64 8, .slice none 0 0]) fun b3 h4 _ s4 => ?_
  refine s4.new (cs := [.int .i64 0, .int .i64 0, .slice none 0 0]) fun b4 h5 _ s5 => ?_
  refine condYes rfl ?_
  refine s5.wr rfl (by simp) fun h6 s6 => ?_
  refine s6.wr (o := 1) (add_mk _ _ _) (by simp) fun h7 s7 => ?_
  refine s7.wr (o := 2) (add_mk _ _ _) (by simp) fun h8 s8 => ?_
  refine ⟨_, _, _, _, _, s8.blk.cell 0, Blk.cellA s8.blk 1, Blk.cellA s8.blk 2, _, _, _, _, _, _, rfl, ?_⟩
  have s8 : St h h8 0 := (s8.to (B := (cA b4 [.int .i64 0, .int .i64 0, .slice none 0 0] 61 + cA b3 [.int .i64 8, .slice none 0 0] 58) + 0)).drop
  refine s8.new (cs := [.int .i64 0, .int .i64 0, .slice none 0 0]) fun b5 h9 _ s9 => ?_
  refine s9.wr rfl (by simp) fun h10 s10 => ?_
  refine s10.wr (o := 1) (add_mk _ _ _) (by simp) fun h11 s11 => ?_
  refine s11.wr (o := 2) (add_mk _ _ _) (by simp) fun h12 s12 => ?_
  refine condNo rfl (condNo rfl (condNo rfl (condNo rfl (condNo rfl (condNo rfl (condNo rfl (condNo rfl (condNo rfl (condNo rfl (condNo rfl (condNo rfl (condNo rfl (condNo rfl (condNo rfl ?_))))))))))))))
  refine ⟨_, _, _, _, _, s12.blk.cell 0, Blk.cellA s12.blk 1, Blk.cellA s12.blk 2, ?_⟩
  have s12 : St h h12 0 := s12.drop
  refine r03_SameRes_call ?_
  rw [r03_SameRes_b0_eq]
  refine s12.new (cs := [.int .i64 0, .int .i64 0, .slice none 0 0]) fun b6 h13 _ s13 => ?_
  refine s13.new (cs := [.int .i64 0, .int .i64 0, .slice none 0 0]) fun b7 h14 _ s14 => ?_
  have k7 := s14.blk
  have k6 := (s14.to (B := cA b6 [.int .i64 0, .int .i64 0, .slice none 0 0] 61 + (cA b7 [.int .i64 0, .int .i64 0, .slice none 0 0] 61 + 0))).blk
  refine ⟨_, k6.cell 0, _, k7.cell 0, condYes rfl ⟨_, Blk.cellA k6 1, _, Blk.cellA k7 1, condYes rfl ⟨_, _, _, Blk.cellA k6 2, _, _, _, Blk.cellA k7 2, ?_⟩⟩⟩
  refine (SameList_ok (RdT.nil _ _) (RdT.nil _ _) (by decide)).mono fun v2 h15 ⟨hh15, hv15⟩ => ⟨_, hv15, _, rfl, condNo rfl (condNo rfl ?_)⟩
  subst hh15
  have s14 : St h h15 0 := (s14.to (B := (cA b6 [.int .i64 0, .int .i64 0, .slice none 0 0] 61 + cA b7 [.int .i64 0, .int .i64 0, .slice none 0 0] 61) + 0)).drop
  rw [l43_BtreeFull_b1_eq]
  refine btree_Tree_Load_call ?_
  rw [btree_Tree_Load_b0_eq]
  refine condYes rfl ⟨_, rfl, condNo rfl ?_⟩
  refine btree_Tree_Len_call ?_
  rw [btree_Tree_Len_b0_eq]
  refine condYes rfl ⟨_, rfl, condNo rfl ?_⟩
  refine btree_Tree_Height_call ?_
  rw [btree_Tree_Height_b0_eq]
  refine btree_Tree_Levels_call ?_
  rw [btree_Tree_Levels_b0_eq]
  refine condYes rfl ⟨_, _, _, rfl, _, rfl, condNo rfl ?_⟩
  refine btree_Tree_Levels_call ?_
  rw [btree_Tree_Levels_b0_eq]
  refine condYes rfl ⟨_, _, _, rfl, condNo rfl ?_⟩
  refine btree_Tree_Blocks_call ?_
  rw [btree_Tree_Blocks_b0_eq]
  refine condYes rfl ⟨_, rfl, condNo rfl ?_⟩
  rw [l43_BtreeFull_b2_eq]
  refine ⟨⟨by omega, by omega⟩, rem_intro (by omega) (by omega) ⟨⟨by omega, by omega⟩, ?_⟩⟩
  obtain ⟨m, hm, hm1⟩ : ∃ m : Nat, 3 + order % 30 = (m : Int) ∧ (3 ≤ m ∧ m ≤ 32) := ⟨(3 + order % 30).toNat, by omega, by omega⟩
  rw [hm]
  refine New_ok.mono fun v16 h16 hv => ?_
  rw [if_neg (by omega)] at hv
  obtain ⟨tb, A, hv16, ta, s16⟩ := hv
  have ta : TreeA m [] tb 0 A := ta
  refine ⟨_, _, hv16, condNo rfl (condNo rfl ?_)⟩
  have s16 : St h h16 (A + 0) := (s16.base s14.ext).to
  rw [l43_BtreeFull_b3_eq]
  refine ⟨fun st h' => ∃ (i : Nat) (L : Bag), st.2.1 = i ∧ i ≤ 2000 ∧ Sl TE st.1.1 st.1.2.1 st.1.2.2 (evs 0 i) L ∧ St h h' (A + (L + 0)), fun st _ => 2000 - st.2.1.toNat, ⟨0, 0, rfl, by omega, Sl.nil, s16.to⟩, ?_⟩
  rintro ⟨⟨p, n, c⟩, _, _⟩ h17 ⟨i, L, rfl, hin, la, s17⟩
  dsimp only at la ⊢
  have hn : n = i := by have := la.len; rw [evs_len] at this; omega
  rw [l43_BtreeFull_b4_eq]
  refine condP (fun hlt => ?_) (fun hge => ?_)
  · refine ⟨⟨by omega, by omega⟩, ?_⟩
    refine push_sl ok_pair (s17.to (B := L + (A + 0))) la (x := (2 * (i : Int), (i : Int))) rfl rfl (by omega) fun p' c' h18 L' la' s18 => ?_
    rw [l43_BtreeFull_b5_eq]
    refine ⟨⟨by omega, by omega⟩, ⟨i + 1, L', by simp only; omega, by omega, ?_, s18.to⟩, by simp only; omega⟩
    have e : evs 0 (i + 1) = evs 0 i ++ [(2 * (i : Int), (i : Int))] := by rw [evs_add, Nat.zero_add, evs_one]
    rw [e]
    exact la'
  obtain rfl : i = 2000 := by omega
  rw [l43_BtreeFull_b6_eq]
  refine (Load_ok (by omega) (by omega) ta (RdS.own la) (by omega) s17).mono fun v18 h18 ⟨A8, hv18, ta8, s18⟩ => ⟨_, hv18, ?_⟩
  have hld : loadS [] (evs 0 2000) = (evs 0 2000, 0) := by rw [loadS, if_pos evs_ok, if_neg (by rw [evs_len]; omega), if_neg (fun h => h rfl)]
  rw [hld] at ta8 ⊢
  have ta8 : TreeA m (evs 0 2000) tb 0 A8 := ta8
  refine condNo rfl ⟨⟨by omega, by omega⟩, ⟨by omega, by omega⟩, ⟨by omega, by omega⟩, ?_⟩
  refine (Put_ok (key := 2 * key + 1) (value := 0) (by omega) (by omega) evs_srt (by rw [evs_len]; omega) ⟨by omega, by omega⟩ ta8 s18).mono fun v19 h19 ⟨A9, vis9, hvis9, hv19, ta9, s19⟩ => ?_
  rw [put_odd hk.1 hk.2] at hv19 ta9
  have ta9 : TreeA m (evs 0 2000) tb vis9 A9 := ta9
  refine ⟨_, _, _, hv19, ⟨by omega, by omega⟩, rem_intro (by omega) (by omega) ⟨⟨by omega, by omega⟩, ?_⟩⟩
  obtain ⟨r, hr, hr1⟩ : ∃ r : Nat, key % 2000 = (r : Int) ∧ r < 2000 := ⟨(key % 2000).toNat, by omega, by omega⟩
  rw [hr]
  refine (Put_ok (key := 2 * (r : Int)) (value := 7) (by omega) (by omega) evs_srt (by rw [evs_len]; omega) ⟨by omega, by omega⟩ ta9 s19).mono fun v20 h20 ⟨A10, vis10, hvis10, hv20, ta10, s20⟩ => ?_
  rw [put_even hr1] at hv20 ta10
  have ta10 : TreeA m (sev r) tb vis10 A10 := ta10
  refine ⟨_, _, _, hv20, ⟨by omega, by omega⟩, rem_intro (by omega) (by omega) ⟨⟨by omega, by omega⟩, ?_⟩⟩
  rw [hr]
  have hsl := sev_len hr1
  refine (Get_ok (key := 2 * (r : Int)) (by omega) (by omega) (sev_srt hr1) (by omega) ⟨by omega, by omega⟩ ta10 s20).mono fun v21 h21 ⟨A11, vis11, hvis11, hv21, ta11, s21⟩ => ?_
  rw [get_even hr1] at hv21
  refine ⟨_, _, hv21, condNo rfl (condNo rfl (condNo rfl (condNo rfl ⟨⟨by omega, by omega⟩, rem_intro (by omega) (by omega) ?_⟩)))⟩
  rw [hr]
  refine condNo (by simp) (condNo rfl (condNo rfl ?_))
  refine (Len_ok ta11 s21).mono fun v22 h22 ⟨hh22, hv22⟩ => ⟨_, hv22, condNo (by rw [hsl]; rfl) ?_⟩
  subst hh22
  rw [l43_BtreeFull_b7_eq]
  refine (Scan_ok (fr := 0) (to := 2001) (by omega) (by omega) (sev_srt hr1) ta11 s21).mono fun v23 h23 ⟨p4, n4, c4, B4, hv23, o4, s23⟩ => ⟨_, _, _, _, hv23, ?_⟩
  refine (Scan_ok (fr := 0) (to := 2000) (by omega) (by omega) (sev_srt hr1) ta11 s23).mono fun v24 h24 ⟨p5, n5, c5, B5, hv24, o5, s24⟩ => ⟨_, _, _, _, hv24, ?_⟩
  have f1 := sev_span (m := 1001) (b := 2001) hr1 (by omega) (by omega) (by omega)
  have f2 := sev_span (m := 1000) (b := 2000) hr1 (by omega) (by omega) (by omega)
  have g1 : scanS (sev r) 0 2001 = ([], 4) := by rw [scanS, if_pos (by decide), if_pos (by omega)]
  have g2 : scanS (sev r) 0 2000 = ((sev r).filter (inSpan 0 2000), 0) := by rw [scanS, if_pos (by decide), if_neg (by omega)]
  rw [g1] at o4 ⊢
  rw [g2] at o5 ⊢
  have e4 : 0 = n4 := o4.len
  have e5 : ((sev r).filter (inSpan 0 2000)).length = n5 := o5.len
  subst e4
  have e6 : (n5 : Int) = 1000 := by omega
  exact condYes rfl (condYes rfl (condYes (decide_eq_true e6) ⟨rfl, s24.ext⟩))
end Go.Proofs.Ytaemnjblcpknpaa

/- The seat's own words under layer 3. -/
namespace Go.Proofs.Ytaemnjblcpknpaa
end Go.Proofs.Ytaemnjblcpknpaa

/- Layer 3: which operations are valid. -/
set_option maxRecDepth 100000
namespace Go.Proofs.Ytaemnjblcpknpaa
open Go Go.Sx
theorem int_index_ok {g : Nat} {q : Int → Bool} (hX : ∀ (z : Int) (h : Hp) (K : Value → Hp → Prop), K (.bool (q z)) h → callX Try.prog F g #[.int .i64 z] h K) {h : Hp} {p : Option Addr} {n c : Nat} {zs : List Int} (r : RdT TI h p n zs) (hn : n ≤ 1000000) :
    HCalls Try.prog 61 #[.slice p n c, .func (.func g) #[] #[]] h (fun v h' => h' = h ∧ v = .bool (zs.any q)) := by
  have hzl := r.len
  refine slices_ContainsFunc_Sint_int_call ?_
  rw [slices_ContainsFunc_Sint_int_b0_eq]
  refine slices_IndexFunc_Sint_int_call ?_
  rw [slices_IndexFunc_Sint_int_b0_eq]
  refine ⟨fun s h' => h' = h ∧ ∃ i : Nat, s.1 = i ∧ i ≤ n ∧ (zs.take i).any q = false, fun s _ => n - s.1.toNat, ⟨rfl, 0, rfl, by omega, rfl⟩, ?_⟩
  rintro ⟨_, _⟩ h1 ⟨rfl, i, rfl, hin, hno⟩
  dsimp only
  rw [slices_IndexFunc_Sint_int_b1_eq]
  refine condP (fun hlt => ?_) (fun hge => ?_)
  · refine r.int (by omega) (by omega) ?_
    rw [Int.toNat_natCast]
    refine hX _ _ _ ⟨_, rfl, ?_⟩
    have hil : i < zs.length := by omega
    have hg : zs.getD i 0 = zs[i] := by simp [List.getD, hil]
    refine cond_intro (fun h3 => ?_) (fun h3 => ?_)
    · refine ⟨_, rfl, rfl, ?_⟩
      rw [decide_eq_true (by omega), List.any_eq_true.2 ⟨_, List.getElem_mem hil, by rw [← hg]; exact h3⟩]
    · rw [slices_IndexFunc_Sint_int_b2_eq]
      refine ⟨⟨by omega, by omega⟩, ⟨rfl, i + 1, by simp only; omega, by omega, ?_⟩, by simp only; omega⟩
      rw [List.take_succ_eq_append_getElem hil, List.any_append, hno, ← hg]
      show (false || (q (zs.getD i 0) || false)) = false
      rw [h3]
      rfl
  · rw [slices_IndexFunc_Sint_int_b3_eq]
    refine ⟨_, rfl, rfl, ?_⟩
    rw [List.take_of_length_le (by omega)] at hno
    rw [hno]
    rfl
abbrev ChP (z : Int) : Prop := 0 ≤ z ∧ z ≤ 255
instance (z : Int) : Decidable (ChP z) := inferInstanceAs (Decidable (_ ∧ _))
abbrev W3 := ByteArray × Int × Bool
abbrev tW : Ty W3 := ⟨128, 3, fun w => [.string w.1, .int .i64 w.2.1, .bool w.2.2], (⟨#[]⟩, 0, false), fun _ => rfl, by decide, fun _ v hv => by simp at hv; rcases hv with rfl | rfl | rfl <;> rfl⟩
def wd1 : List W3 := [(⟨#[112, 117, 116]⟩, 2, true), (⟨#[103, 101, 116]⟩, 1, false), (⟨#[114, 101, 109, 111, 118, 101]⟩, 1, true), (⟨#[102, 108, 111, 111, 114]⟩, 1, false), (⟨#[99, 101, 105, 108, 105, 110, 103]⟩, 1, false), (⟨#[114, 97, 110, 107]⟩, 1, false), (⟨#[115, 101, 108, 101, 99, 116]⟩, 1, false), (⟨#[115, 105, 122, 101]⟩, 0, false)]
def wd2 : List W3 := [(⟨#[105, 110, 115, 101, 114, 116]⟩, 1, true), (⟨#[109, 105, 110]⟩, 0, false), (⟨#[100, 101, 108, 101, 116, 101, 109, 105, 110]⟩, 0, true), (⟨#[115, 105, 122, 101]⟩, 0, false)]
def wd3 : List W3 := [(⟨#[105, 110, 115, 101, 114, 116]⟩, 2, true), (⟨#[114, 101, 109, 111, 118, 101]⟩, 1, true), (⟨#[103, 101, 116]⟩, 1, false), (⟨#[115, 101, 116]⟩, 2, true), (⟨#[115, 117, 109]⟩, 2, false), (⟨#[114, 101, 118, 101, 114, 115, 101]⟩, 2, true), (⟨#[115, 105, 122, 101]⟩, 0, false)]
def wd4 : List W3 := [(⟨#[109, 97, 107, 101]⟩, 0, true), (⟨#[117, 110, 105, 111, 110]⟩, 2, true), (⟨#[115, 97, 109, 101]⟩, 2, false), (⟨#[115, 105, 122, 101]⟩, 1, false), (⟨#[99, 111, 117, 110, 116]⟩, 0, false)]
def wd5 : List W3 := [(⟨#[97, 100, 100]⟩, 3, true), (⟨#[114, 101, 109, 111, 118, 101]⟩, 2, true), (⟨#[99, 111, 117, 110, 116]⟩, 4, false), (⟨#[115, 117, 109]⟩, 4, false), (⟨#[115, 105, 122, 101]⟩, 0, false)]
def wd6 : List W3 := [(⟨#[97, 112, 112, 101, 110, 100]⟩, (-1), true), (⟨#[99, 111, 117, 110, 116]⟩, (-1), false), (⟨#[102, 105, 110, 100]⟩, (-1), false), (⟨#[115, 105, 122, 101]⟩, 0, false)]
def ar1 : List Int := [2, 1, 1, 1, 1, 1, 1, 0]
def ar2 : List Int := [1, 0, 0, 0]
def ar3 : List Int := [2, 1, 1, 2, 2, 2, 0]
def ar4 : List Int := [0, 2, 2, 1, 0]
def ar5 : List Int := [3, 2, 4, 4, 0]
def ar6 : List Int := [(-1), (-1), (-1), 0]
/-- The arities of a kind of structure, by its operation. -/
def arT (k : Int) : List Int := if k = 1 then ar1 else if k = 2 then ar2 else if k = 3 then ar3 else if k = 4 then ar4 else if k = 5 then ar5 else if k = 6 then ar6 else []
def wdT (k : Int) : List W3 := if k = 1 then wd1 else if k = 2 then wd2 else if k = 3 then wd3 else if k = 4 then wd4 else if k = 5 then wd5 else if k = 6 then wd6 else []
theorem wd_ar (k : Int) : (wdT k).map (fun w => w.2.1) = arT k := by
  unfold wdT arT
  repeat' split
  all_goals rfl
theorem words_ok (k : Int) (h : Hp) : HCalls Try.prog 73 #[.int .i64 k] h (fun v h' => ∃ p c, v = .slice p (wdT k).length c ∧ RdT tW h' p (wdT k).length (wdT k) ∧ Ext h h') := by
  refine model_words_call ?_
  rw [model_words_b0_eq]
  unfold wdT
  refine condP (fun hk => ?_) (fun hk1 => ?_)
  · rw [if_pos hk]
    refine (St.start h).new (cs := tW.cells wd1) fun b1 h1 x1 s1 => ?_
    exact ⟨_, _, rfl, (Sl.of_blk (T := tW) (xs := wd1) rfl rfl).rd s1, x1⟩
  rw [if_neg hk1]
  refine condP (fun hk => ?_) (fun hk2 => ?_)
  · rw [if_pos hk]
    refine (St.start h).new (cs := tW.cells wd2) fun b1 h1 x1 s1 => ?_
    exact ⟨_, _, rfl, (Sl.of_blk (T := tW) (xs := wd2) rfl rfl).rd s1, x1⟩
  rw [if_neg hk2]
  refine condP (fun hk => ?_) (fun hk3 => ?_)
  · rw [if_pos hk]
    refine (St.start h).new (cs := tW.cells wd3) fun b1 h1 x1 s1 => ?_
    exact ⟨_, _, rfl, (Sl.of_blk (T := tW) (xs := wd3) rfl rfl).rd s1, x1⟩
  rw [if_neg hk3]
  refine condP (fun hk => ?_) (fun hk4 => ?_)
  · rw [if_pos hk]
    refine (St.start h).new (cs := tW.cells wd4) fun b1 h1 x1 s1 => ?_
    exact ⟨_, _, rfl, (Sl.of_blk (T := tW) (xs := wd4) rfl rfl).rd s1, x1⟩
  rw [if_neg hk4]
  refine condP (fun hk => ?_) (fun hk5 => ?_)
  · rw [if_pos hk]
    refine (St.start h).new (cs := tW.cells wd5) fun b1 h1 x1 s1 => ?_
    exact ⟨_, _, rfl, (Sl.of_blk (T := tW) (xs := wd5) rfl rfl).rd s1, x1⟩
  rw [if_neg hk5]
  refine condP (fun hk => ?_) (fun hk6 => ?_)
  · rw [if_pos hk]
    refine (St.start h).new (cs := tW.cells wd6) fun b1 h1 x1 s1 => ?_
    exact ⟨_, _, rfl, (Sl.of_blk (T := tW) (xs := wd6) rfl rfl).rd s1, x1⟩
  rw [if_neg hk6]
  rw [model_words_b1_eq]
  exact ⟨_, _, rfl, RdT.nil _ _, Ext.refl h⟩
theorem r_words_ok (k : Int) (h : Hp) : HCalls Try.prog 54 #[.int .i64 k] h (fun v h' => ∃ p c, v = .slice p (arT k).length c ∧ Ext h h') := by
  refine r03_Words_call ?_
  rw [r03_Words_b0_eq]
  unfold arT
  refine condP (fun hk => ?_) (fun hk1 => ?_)
  · rw [if_pos hk]
    exact New_intro fun b1 h1 _ x1 _ _ => ⟨_, _, rfl, x1⟩
  rw [if_neg hk1]
  refine condP (fun hk => ?_) (fun hk2 => ?_)
  · rw [if_pos hk]
    exact New_intro fun b1 h1 _ x1 _ _ => ⟨_, _, rfl, x1⟩
  rw [if_neg hk2]
  refine condP (fun hk => ?_) (fun hk3 => ?_)
  · rw [if_pos hk]
    exact New_intro fun b1 h1 _ x1 _ _ => ⟨_, _, rfl, x1⟩
  rw [if_neg hk3]
  refine condP (fun hk => ?_) (fun hk4 => ?_)
  · rw [if_pos hk]
    exact New_intro fun b1 h1 _ x1 _ _ => ⟨_, _, rfl, x1⟩
  rw [if_neg hk4]
  refine condP (fun hk => ?_) (fun hk5 => ?_)
  · rw [if_pos hk]
    exact New_intro fun b1 h1 _ x1 _ _ => ⟨_, _, rfl, x1⟩
  rw [if_neg hk5]
  refine condP (fun hk => ?_) (fun hk6 => ?_)
  · rw [if_pos hk]
    exact New_intro fun b1 h1 _ x1 _ _ => ⟨_, _, rfl, x1⟩
  rw [if_neg hk6]
  rw [r03_Words_b1_eq]
  exact ⟨_, _, rfl, Ext.refl h⟩
theorem arity_ok {k c : Int} (h : Hp) (hk : 1 ≤ k ∧ k ≤ 6) (hc : 1 ≤ c ∧ c ≤ (arT k).length) : HCalls Try.prog 55 #[.int .i64 k, .int .i64 c] h (fun v h' => v = .int .i64 ((arT k).getD (c - 1).toNat 0) ∧ Ext h h') := by
  refine r03_Arity_call ?_
  rw [r03_Arity_b0_eq]
  have rd : ∀ {xs : List Int} {b : Nat} {h' : Hp}, St h h' (cA b (TI.cells xs) 3 + 0) → (xs.length ≤ 100 ∧ 1 ≤ c ∧ c ≤ (xs.length : Int)) → InR (c - 1) ∧ (0 ≤ c - 1 ∧ c - 1 < ((xs.length : Nat) : Int)) ∧ ∃ n1 : Int, cell h' ((⟨b, 0, none⟩ : Addr).add (Int.toNat (c - 1) * 1)) = some (.int .i64 n1) ∧ (Value.int .i64 n1 = .int .i64 (xs.getD (c - 1).toNat 0) ∧ Ext h h') := by
    intro xs b h' s hc
    have := s.ext
    refine ⟨⟨by omega, by omega⟩, ⟨by omega, by omega⟩, ?_⟩
    obtain ⟨a, ha, hcell⟩ := ((Sl.of_blk (T := TI) (xs := xs) rfl rfl).rd s).at_ (i := (c - 1).toNat) (by omega)
    cases ha
    exact ⟨_, hcell 0 Nat.one_pos, rfl, s.ext⟩
  refine condP (fun e => ?_) (fun hk1 => ?_)
  · subst e
    exact (St.start h).new (cs := TI.cells ar1) fun b1 h1 _ s1 => rd (xs := ar1) s1 ⟨by decide, hc⟩
  refine condP (fun e => ?_) (fun hk2 => ?_)
  · subst e
    exact (St.start h).new (cs := TI.cells ar2) fun b1 h1 _ s1 => rd (xs := ar2) s1 ⟨by decide, hc⟩
  refine condP (fun e => ?_) (fun hk3 => ?_)
  · subst e
    exact (St.start h).new (cs := TI.cells ar3) fun b1 h1 _ s1 => rd (xs := ar3) s1 ⟨by decide, hc⟩
  refine condP (fun e => ?_) (fun hk4 => ?_)
  · subst e
    exact (St.start h).new (cs := TI.cells ar4) fun b1 h1 _ s1 => rd (xs := ar4) s1 ⟨by decide, hc⟩
  refine condP (fun e => ?_) (fun hk5 => ?_)
  · subst e
    exact (St.start h).new (cs := TI.cells ar5) fun b1 h1 _ s1 => rd (xs := ar5) s1 ⟨by decide, hc⟩
  obtain rfl : k = 6 := by omega
  rw [r03_Arity_b1_eq]
  exact (St.start h).new (cs := TI.cells ar6) fun b1 h1 _ s1 => rd (xs := ar6) s1 ⟨by decide, hc⟩
/-- A valid operation of a kind of structure. -/
def OpV (k c : Int) (zs : List Int) : Prop := (1 ≤ c ∧ c ≤ (arT k).length) ∧ (if (arT k).getD (c - 1).toNat 0 < 0 then (1 ≤ zs.length ∧ zs.length ≤ 64) ∧ ∀ z ∈ zs, ChP z else (zs.length : Int) = (arT k).getD (c - 1).toNat 0 ∧ ∀ z ∈ zs, KeyP z)
instance (k c : Int) (zs : List Int) : Decidable (OpV k c zs) := by unfold OpV; infer_instance
end Go.Proofs.Ytaemnjblcpknpaa

/- Layer 3: the two judges of an operation. -/
set_option maxRecDepth 100000
namespace Go.Proofs.Ytaemnjblcpknpaa
open Go Go.Sx
theorem char_ok (z : Int) (h : Hp) : HCalls Try.prog 75 #[.int .i64 z] h (fun v h' => v = .bool (decide (ChP z)) ∧ h' = h) := by
  refine model_character_call ?_
  rw [model_character_b0_eq]
  refine condP (fun h1 => ⟨?_, rfl⟩) (fun h1 => ⟨?_, rfl⟩)
  · congr 1; exact decide_eq_decide.2 ⟨fun h2 => ⟨h1, h2⟩, fun h2 => h2.2⟩
  · rw [decide_eq_false (fun h2 => h1 h2.1)]
theorem numb_ok (z : Int) (h : Hp) : HCalls Try.prog 77 #[.int .i64 z] h (fun v h' => v = .bool (decide (KeyP z)) ∧ h' = h) := by
  refine model_number_call ?_
  rw [model_number_b0_eq]
  refine condP (fun h1 => ⟨?_, rfl⟩) (fun h1 => ⟨?_, rfl⟩)
  · congr 1; exact decide_eq_decide.2 ⟨fun h2 => ⟨h1, h2⟩, fun h2 => h2.2⟩
  · rw [decide_eq_false (fun h2 => h1 h2.1)]
theorem rkey_ok (z : Int) (h : Hp) : HCalls Try.prog 56 #[.int .i64 z] h (fun v h' => v = .bool (decide (KeyP z)) ∧ h' = h) := by
  refine r03_key_call ?_
  rw [r03_key_b0_eq]
  refine condP (fun h1 => ⟨?_, rfl⟩) (fun h1 => ⟨?_, rfl⟩)
  · congr 1; exact decide_eq_decide.2 ⟨fun h2 => ⟨h1, h2⟩, fun h2 => h2.2⟩
  · rw [decide_eq_false (fun h2 => h1 h2.1)]
theorem char_x (z : Int) (h : Hp) (K : Value → Hp → Prop) (hk : K (.bool (!decide (ChP z))) h) : callX Try.prog F 74 #[.int .i64 z] h K := by
  refine callX_of (by kernel_rfl) (model_ValidOp_c1_call ?_)
  rw [model_ValidOp_c1_b0_eq]
  exact (char_ok z h).mono fun v h' ⟨hv, hh⟩ => ⟨_, hv, by rw [hh]; exact hk⟩
theorem numb_x (z : Int) (h : Hp) (K : Value → Hp → Prop) (hk : K (.bool (!decide (KeyP z))) h) : callX Try.prog F 76 #[.int .i64 z] h K := by
  refine callX_of (by kernel_rfl) (model_ValidOp_c2_call ?_)
  rw [model_ValidOp_c2_b0_eq]
  exact (numb_ok z h).mono fun v h' ⟨hv, hh⟩ => ⟨_, hv, by rw [hh]; exact hk⟩
theorem any_not {P : Int → Prop} [DecidablePred P] {zs : List Int} : (!zs.any fun z => !decide (P z)) = decide (∀ z ∈ zs, P z) := by
  induction zs with
  | nil => rfl
  | cons z zs ih =>
    rw [List.any_cons, Bool.not_or, ih, Bool.not_not]
    by_cases h1 : P z <;> by_cases h2 : ∀ z ∈ zs, P z <;> simp [h1, h2]
theorem word_load {h : Hp} {p : Option Addr} {n : Nat} {l : List W3} {i : Int} {Q : ByteArray → Int → Bool → Prop} (r : RdT tW h p n l) (h0 : 0 ≤ i) (h1 : i < n) (hq : Q (l.getD i.toNat tW.d).1 (l.getD i.toNat tW.d).2.1 (l.getD i.toNat tW.d).2.2) :
    (0 ≤ i ∧ i < (n : Int)) ∧ NN p fun a => ∃ x : ByteArray, ∃ y : Int, ∃ z : Bool, cell h (a.add (Int.toNat i * 3)) = some (.string x) ∧ cell h ((a.add (Int.toNat i * 3)).add 1) = some (.int .i64 y) ∧ cell h ((a.add (Int.toNat i * 3)).add 2) = some (.bool z) ∧ Q x y z :=
  r.idx h0 h1 fun _ _ hc => ⟨_, _, _, hc 0 (show 0 < 3 by decide), hc 1 (show 1 < 3 by decide), hc 2 (show 2 < 3 by decide), hq⟩
theorem wd_len (k : Int) : (wdT k).length = (arT k).length := by rw [← wd_ar, List.length_map]
theorem wd_get (k : Int) (i : Nat) : ((wdT k).getD i tW.d).2.1 = (arT k).getD i 0 := by
  rw [← wd_ar]
  simp only [List.getD, List.getElem?_map]
  cases (wdT k)[i]? <;> rfl
theorem mValid_ok {k c : Int} {zs : List Int} {h : Hp} {p : Option Addr} {n cc : Nat} (r : RdT TI h p n zs) (hn : n ≤ 1000000) :
    HCalls Try.prog 51 #[.int .i64 k, .agg #[.int .i64 c, .slice p n cc]] h (fun v h' => v = .bool (decide (OpV k c zs)) ∧ Ext h h') := by
  have hzl := r.len
  refine model_ValidOp_call ?_
  rw [model_ValidOp_b0_eq]
  refine (St.start h).new (cs := [.int .i64 c, .slice p n cc]) fun b1 h1 x1 s1 => ?_
  refine (words_ok k h1).mono fun v1 h2 ⟨q, d, hv1, rw1, x2⟩ => ⟨_, _, _, hv1, ?_⟩
  have s2 := s1.grow x2
  have kb := s2.blk
  have hx2 : Ext h h2 := x1.trans x2
  have hwl := wd_len k
  refine ⟨_, kb.cell 0, condP (fun hc => ?_) (fun hc => ⟨_, kb.cell 0, condP (fun hc2 => ?_) (fun hc2 => ?_)⟩)⟩
  · exact ⟨by rw [decide_eq_false (fun h => by have := h.1; omega)], hx2⟩
  · exact ⟨by rw [decide_eq_false (fun h => by have := h.1; omega)], hx2⟩
  have hlen8 : (arT k).length ≤ 8 := by unfold arT; repeat' split
                                        all_goals decide
  rw [model_ValidOp_b1_eq]
  refine ⟨_, kb.cell 0, ⟨by omega, by omega⟩, word_load rw1 (by omega) (by omega) ?_⟩
  rw [wd_get]
  generalize ha : (arT k).getD (c - 1).toNat 0 = a
  refine s2.new (cs := [.string ⟨#[]⟩, .int .i64 0, .bool false]) fun b3 h3 _ s3 => ?_
  refine s3.wr rfl (by simp) fun h4 s4 => ?_
  refine s4.wr (o := 1) (add_mk _ _ _) (by simp) fun h5 s5 => ?_
  refine s5.wr (o := 2) (add_mk _ _ _) (by simp) fun h6 s6 => ?_
  have x6 : Ext h h6 := s6.ext
  have kb6 := s6.drop.blk
  have r6 := r.ext x6
  refine ⟨_, Blk.cellA s6.blk 1, condP (fun hneg => ?_) (fun hneg => ?_)⟩
  · have hiff : OpV k c zs ↔ (1 ≤ zs.length ∧ zs.length ≤ 64) ∧ ∀ z ∈ zs, ChP z := by
      unfold OpV
      rw [ha, if_pos hneg]
      exact ⟨fun h => h.2, fun h => ⟨⟨by omega, by omega⟩, h⟩⟩
    refine ⟨_, _, _, Blk.cellA kb6 1, condP (fun h1 => ?_) (fun h1 => ?_)⟩
    · refine ⟨_, _, _, Blk.cellA kb6 1, condP (fun h2 => ?_) (fun h2 => ?_)⟩
      · refine ⟨_, _, _, Blk.cellA kb6 1, (int_index_ok char_x r6 hn).mono fun v2 h7 ⟨hh7, hv2⟩ => ⟨_, hv2, ?_, ?_⟩⟩
        · rw [any_not]
          congr 1
          exact decide_eq_decide.2 (by rw [hiff]; exact ⟨fun h => ⟨⟨by omega, by omega⟩, h⟩, fun h => h.2⟩)
        · rw [hh7]; exact x6
      · exact ⟨by rw [decide_eq_false (fun h => by have := (hiff.1 h).1; omega)], x6⟩
    · exact ⟨by rw [decide_eq_false (fun h => by have := (hiff.1 h).1; omega)], x6⟩
  · have hiff : OpV k c zs ↔ (zs.length : Int) = a ∧ ∀ z ∈ zs, KeyP z := by
      unfold OpV
      rw [ha, if_neg hneg]
      exact ⟨fun h => h.2, fun h => ⟨⟨by omega, by omega⟩, h⟩⟩
    refine ⟨_, _, _, Blk.cellA kb6 1, _, Blk.cellA s6.blk 1, condP (fun h1 => ?_) (fun h1 => ?_)⟩
    · refine ⟨_, _, _, Blk.cellA kb6 1, (int_index_ok numb_x r6 hn).mono fun v2 h7 ⟨hh7, hv2⟩ => ⟨_, hv2, ?_, ?_⟩⟩
      · rw [any_not]
        congr 1
        exact decide_eq_decide.2 (by rw [hiff]; exact ⟨fun h => ⟨by omega, h⟩, fun h => h.2⟩)
      · rw [hh7]; exact x6
    · exact ⟨by rw [decide_eq_false (fun h => by have := (hiff.1 h).1; omega)], x6⟩
theorem arT_fact {k c : Int} (hk : 1 ≤ k ∧ k ≤ 6) (hc : 1 ≤ c ∧ c ≤ (arT k).length) : (k = 6 → (arT k).getD (c - 1).toNat 0 ≤ 0) ∧ (k ≠ 6 → 0 ≤ (arT k).getD (c - 1).toNat 0) ∧ (arT k).getD (c - 1).toNat 0 ≤ 4 := by
  have hlen8 : (arT k).length ≤ 8 := by unfold arT; repeat' split
                                        all_goals decide
  generalize hj : (c - 1).toNat = j
  have hj8 : j < 8 := by omega
  have hk' : k = 1 ∨ k = 2 ∨ k = 3 ∨ k = 4 ∨ k = 5 ∨ k = 6 := by omega
  rcases hk' with rfl | rfl | rfl | rfl | rfl | rfl
  · exact ⟨fun h => by omega, fun _ => (by decide : ∀ j < 8, 0 ≤ (arT 1).getD j 0) j hj8, (by decide : ∀ j < 8, (arT 1).getD j 0 ≤ 4) j hj8⟩
  · exact ⟨fun h => by omega, fun _ => (by decide : ∀ j < 8, 0 ≤ (arT 2).getD j 0) j hj8, (by decide : ∀ j < 8, (arT 2).getD j 0 ≤ 4) j hj8⟩
  · exact ⟨fun h => by omega, fun _ => (by decide : ∀ j < 8, 0 ≤ (arT 3).getD j 0) j hj8, (by decide : ∀ j < 8, (arT 3).getD j 0 ≤ 4) j hj8⟩
  · exact ⟨fun h => by omega, fun _ => (by decide : ∀ j < 8, 0 ≤ (arT 4).getD j 0) j hj8, (by decide : ∀ j < 8, (arT 4).getD j 0 ≤ 4) j hj8⟩
  · exact ⟨fun h => by omega, fun _ => (by decide : ∀ j < 8, 0 ≤ (arT 5).getD j 0) j hj8, (by decide : ∀ j < 8, (arT 5).getD j 0 ≤ 4) j hj8⟩
  · exact ⟨fun _ => (by decide : ∀ j < 8, (arT 6).getD j 0 ≤ 0) j hj8, fun h => absurd rfl h, (by decide : ∀ j < 8, (arT 6).getD j 0 ≤ 4) j hj8⟩
theorem rValid_ok {k c : Int} {zs : List Int} {h : Hp} {p : Option Addr} {n cc : Nat} (r : RdT TI h p n zs) (hn : n ≤ 1000000) :
    HCalls Try.prog 26 #[.int .i64 k, .agg #[.int .i64 c, .slice p n cc]] h (fun v h' => v = .bool (decide (OpV k c zs)) ∧ Ext h h') := by
  have hzl := r.len
  refine r03_ValidOp_call ?_
  rw [r03_ValidOp_b0_eq]
  refine (St.start h).new (cs := [.int .i64 c, .slice p n cc]) fun b1 h1 x1 s1 => ?_
  have kb := s1.blk
  have out : ¬ (1 ≤ k ∧ k ≤ 6) → ¬ OpV k c zs := by
    intro hk ⟨h, _⟩
    have : arT k = [] := by unfold arT; rw [if_neg (by omega), if_neg (by omega), if_neg (by omega), if_neg (by omega), if_neg (by omega), if_neg (by omega)]
    rw [this] at h
    simp at h
    omega
  refine condP (fun h2 => ?_) (fun h2 => condP (fun h3 => ?_) (fun h3 => ?_))
  · exact ⟨by rw [decide_eq_false (out (by omega))], x1⟩
  · exact ⟨by rw [decide_eq_false (out (by omega))], x1⟩
  clear out
  refine ⟨_, kb.cell 0, condP (fun hc => ?_) (fun hc => ⟨_, kb.cell 0, ?_⟩)⟩
  · exact ⟨by rw [decide_eq_false (fun h => by have := h.1; omega)], x1⟩
  refine (r_words_ok k h1).mono fun v1 h4 ⟨q, d, hv1, x4⟩ => ⟨_, _, _, hv1, ?_⟩
  have s4 := s1.grow x4
  have kb := s4.blk
  have hx4 : Ext h h4 := x1.trans x4
  refine ⟨⟨_, kb.cell 0, rfl⟩, condP (fun hc2 => ?_) (fun hc2 => ?_)⟩
  · exact ⟨by rw [decide_eq_false (fun h => by have := h.1; omega)], hx4⟩
  obtain ⟨f1, f2, f3⟩ := arT_fact (k := k) (c := c) (by omega) (by omega)
  have f4 : ∀ z ∈ zs, ChP z → KeyP z := fun z _ hz => ⟨by omega, by omega⟩
  have hiff : OpV k c zs ↔ zs.length ≤ 64 ∧ (0 ≤ (arT k).getD (c - 1).toNat 0 → (zs.length : Int) = (arT k).getD (c - 1).toNat 0) ∧ ((arT k).getD (c - 1).toNat 0 < 0 → zs.length ≠ 0) ∧ ∀ z ∈ zs, KeyP z ∧ (k = 6 → ChP z) := by
    unfold OpV
    by_cases hneg : (arT k).getD (c - 1).toNat 0 < 0
    · rw [if_pos hneg]
      have hk6 : k = 6 := by
        rcases Decidable.em (k = 6) with h | h
        · exact h
        · have := f2 h; omega
      refine ⟨fun h => ⟨h.2.1.2, fun h' => by omega, fun _ h' => by have := h.2.1.1; omega, fun z hz => ⟨f4 z hz (h.2.2 z hz), fun _ => h.2.2 z hz⟩⟩, fun h => ⟨⟨by omega, by omega⟩, ⟨by have := h.2.2.1 hneg; omega, h.1⟩, fun z hz => (h.2.2.2 z hz).2 hk6⟩⟩
    · rw [if_neg hneg]
      refine ⟨fun h => ⟨by have := h.2.1; omega, fun _ => h.2.1, fun h' => absurd h' hneg, fun z hz => ⟨h.2.2 z hz, fun hk6 => ?_⟩⟩, fun h => ⟨⟨by omega, by omega⟩, h.2.1 (by omega), fun z hz => (h.2.2.2 z hz).1⟩⟩
      have h1 := f1 hk6
      have h2 := h.2.1
      have : zs = [] := List.eq_nil_of_length_eq_zero (by omega)
      subst this
      cases hz
  refine ⟨_, _, _, Blk.cellA kb 1, condP (fun hl => ?_) (fun hl => ?_)⟩
  · exact ⟨by rw [decide_eq_false (fun h => by have := (hiff.1 h).1; omega)], hx4⟩
  rw [r03_ValidOp_b1_eq]
  refine ⟨_, kb.cell 0, ?_⟩
  refine (arity_ok h4 (by omega) (by omega)).mono fun v2 h5 ⟨hv2, x5⟩ => ⟨_, hv2, ?_⟩
  have s5 := s4.grow x5
  have kb := s5.blk
  have x5 : Ext h h5 := hx4.trans x5
  generalize (arT k).getD (c - 1).toNat 0 = a at f1 f2 f3 hiff
  have loop : (0 ≤ a → (zs.length : Int) = a) → (a < 0 → zs.length ≠ 0) → r03_ValidOp_b2 k (some ⟨b1, 0, none⟩) h5 fun v h' => v = .bool (decide (OpV k c zs)) ∧ Ext h h' := by
    intro g1 g2
    rw [r03_ValidOp_b2_eq]
    refine ⟨fun s h' => h' = h5 ∧ ∃ i : Nat, s.1 = i ∧ i ≤ n ∧ ∀ z ∈ zs.take i, KeyP z ∧ (k = 6 → ChP z), fun s _ => n - s.1.toNat, ⟨rfl, 0, rfl, by omega, by simp⟩, ?_⟩
    rintro ⟨_, _⟩ h6 ⟨rfl, i, rfl, hin, hall⟩
    dsimp only
    rw [r03_ValidOp_b3_eq]
    have r6 := r.ext x5
    refine ⟨_, _, _, Blk.cellA kb 1, condP (fun hlt => ?_) (fun hge => ?_)⟩
    · have hil : i < zs.length := by omega
      have hg : zs.getD i 0 = zs[i] := by simp [List.getD, hil]
      have hm : zs.getD i 0 ∈ zs := by rw [hg]; exact List.getElem_mem hil
      refine ⟨_, _, _, Blk.cellA kb 1, r6.int (by omega) (by omega) ?_⟩
      rw [Int.toNat_natCast]
      refine (rkey_ok _ h6).mono fun v3 h7 ⟨hv3, hh7⟩ => ⟨_, hv3, ?_⟩
      subst hh7
      refine condN (fun hno => ?_) (fun hyes => ?_)
      · exact ⟨by rw [decide_eq_false (fun h => hno ((hiff.1 h).2.2.2 _ hm).1)], x5⟩
      have next : (k = 6 → ChP (zs.getD i 0)) → r03_ValidOp_b4 k (some ⟨b1, 0, none⟩) (i : Int) h7 (fun s' h' => (h' = h7 ∧ ∃ i : Nat, s'.1 = i ∧ i ≤ n ∧ ∀ z ∈ zs.take i, KeyP z ∧ (k = 6 → ChP z)) ∧ n - s'.1.toNat < n - Int.toNat (i : Int)) (fun v h' => v = .bool (decide (OpV k c zs)) ∧ Ext h h') := by
        intro hch
        rw [r03_ValidOp_b4_eq]
        refine ⟨⟨by omega, by omega⟩, ⟨rfl, i + 1, by simp only; omega, by omega, fun z hz => ?_⟩, by simp only; omega⟩
        rw [List.take_succ_eq_append_getElem hil, List.mem_append, List.mem_singleton, ← hg] at hz
        rcases hz with hz | rfl
        · exact hall z hz
        · exact ⟨hyes, hch⟩
      refine condP (fun hk6 => ?_) (fun hk6 => next fun h => absurd h hk6)
      refine ⟨_, _, _, Blk.cellA kb 1, r6.int (by omega) (by omega) ?_⟩
      rw [Int.toNat_natCast]
      refine condP (fun hlow => ?_) (fun hlow => ?_)
      · exact ⟨by rw [decide_eq_false (fun h => by have := ((hiff.1 h).2.2.2 _ hm).2 hk6; omega)], x5⟩
      refine ⟨_, _, _, Blk.cellA kb 1, r6.int (by omega) (by omega) ?_⟩
      rw [Int.toNat_natCast]
      refine condP (fun hhi => ?_) (fun hhi => next fun _ => ⟨by omega, by omega⟩)
      exact ⟨by rw [decide_eq_false (fun h => by have := ((hiff.1 h).2.2.2 _ hm).2 hk6; omega)], x5⟩
    · rw [r03_ValidOp_b5_eq]
      rw [List.take_of_length_le (by omega)] at hall
      exact ⟨by rw [decide_eq_true (hiff.2 ⟨by omega, g1, g2, hall⟩)], x5⟩
  refine condP (fun ha => ?_) (fun ha => ?_)
  · refine ⟨_, _, _, Blk.cellA kb 1, condN (fun hne => ?_) (fun he => ?_)⟩
    · exact ⟨by rw [decide_eq_false (fun h => by have := (hiff.1 h).2.1; omega)], x5⟩
    · exact condNo (decide_eq_false (by omega)) (loop (fun _ => by omega) (fun h => by omega))
  · refine condP (fun hneg => ?_) (fun hneg => by omega)
    refine ⟨_, _, _, Blk.cellA kb 1, condP (fun h0 => ?_) (fun h0 => ?_)⟩
    · exact ⟨by rw [decide_eq_false (fun h => by have := (hiff.1 h).2.2.1 hneg; omega)], x5⟩
    · exact loop (fun h => by omega) (fun _ => by omega)
end Go.Proofs.Ytaemnjblcpknpaa
