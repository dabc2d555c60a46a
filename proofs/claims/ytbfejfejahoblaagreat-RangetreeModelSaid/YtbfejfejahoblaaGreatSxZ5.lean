/- Part K8 K11 Z3 Z4 Z5 of the proof: contracts of functions of the program, and what follows from them. -/
import Derived.Test.YtbfejfejahoblaaGreatSxK7
import Derived.Test.YtbfejfejahoblaaGreatSxSD
/- The tree as a set of points. -/
set_option maxRecDepth 100000
namespace Go.Proofs.YtbfejfejahoblaaGreat
open Go Go.Sx
/-! ### plain -/
def insPt (p : Pt) (l : List Pt) : List Pt := l.takeWhile (fun q => decide (ptLt q p)) ++ p :: l.dropWhile (fun q => decide (ptLt q p))
theorem insPt_perm (p : Pt) (l : List Pt) : (insPt p l).Perm (p :: l) := by
  unfold insPt
  refine List.perm_middle.trans ?_
  rw [List.takeWhile_append_dropWhile]
theorem mem_place {l : List Pt} {k : Int × Int} : k ∈ l.map place ↔ ∃ p ∈ l, place p = k := List.mem_map
theorem insPt_S {p : Pt} {l : List Pt} (hs : PtsS l) (hp : place p ∉ l.map place) : PtsS (insPt p l) := by
  unfold insPt PtsS
  have e := List.takeWhile_append_dropWhile (p := fun q => decide (ptLt q p)) (l := l)
  have hs' := hs
  unfold PtsS at hs
  rw [← e, List.pairwise_append] at hs
  have h1 : ∀ q ∈ l.takeWhile (fun q => decide (ptLt q p)), ptLt q p := fun q hq => by
    have := List.all_eq_true.1 (List.all_takeWhile (p := fun q => decide (ptLt q p)) (l := l)) q hq
    simpa using this
  have h2 : ∀ q ∈ l.dropWhile (fun q => decide (ptLt q p)), ptLt p q := by
    cases hd : l.dropWhile (fun q => decide (ptLt q p)) with
    | nil => intro q hq; cases hq
    | cons z t =>
      have hz : ¬ ptLt z p := by
        have := List.head_dropWhile_not (p := fun q => decide (ptLt q p)) (l := l) (by rw [hd]; simp)
        simp only [hd, List.head_cons] at this
        simpa using this
      have hzl : z ∈ l := by rw [← e, hd]; simp
      have hne : place z ≠ place p := fun h => hp (mem_place.2 ⟨z, hzl, h⟩)
      have hpz : ptLt p z := by
        unfold place at hne
        simp only [ne_eq, Prod.mk.injEq] at hne
        unfold ptLt at *
        omega
      intro q hq
      rcases List.mem_cons.1 hq with rfl | hq
      · exact hpz
      · have := hs.2.1
        rw [hd, List.pairwise_cons] at this
        exact ptLt_trans hpz (this.1 q hq)
  rw [List.pairwise_append, List.pairwise_cons]
  refine ⟨hs.1, ⟨h2, hs.2.1⟩, fun a ha b hb => ?_⟩
  rcases List.mem_cons.1 hb with rfl | hb
  · exact h1 a ha
  · exact hs.2.2 a ha b hb
theorem insPt_len (p : Pt) (l : List Pt) : (insPt p l).length = l.length + 1 := (insPt_perm p l).length_eq
def madeL (l : List Pt) : List Pt := l.foldl (fun a p => insPt p a) []
theorem madeL_snoc (l : List Pt) (p : Pt) : madeL (l ++ [p]) = insPt p (madeL l) := by unfold madeL; rw [List.foldl_append]; rfl
theorem list_rev_ind {α : Type} {P : List α → Prop} (h0 : P []) (h1 : ∀ l a, P l → P (l ++ [a])) (l : List α) : P l := by
  rw [← List.reverse_reverse l]
  induction l.reverse with
  | nil => exact h0
  | cons a t ih => rw [List.reverse_cons]; exact h1 _ _ ih
theorem madeL_perm (l : List Pt) : (madeL l).Perm l := by
  induction l using list_rev_ind with
  | h0 => exact .refl _
  | h1 l p ih =>
    rw [madeL_snoc]
    refine (insPt_perm p _).trans ?_
    refine (List.Perm.cons p ih).trans ?_
    simpa using (List.perm_append_comm (l₁ := [p]) (l₂ := l))
theorem madeL_S {l : List Pt} (h : (l.map place).Nodup) : PtsS (madeL l) := by
  induction l using list_rev_ind with
  | h0 => exact List.Pairwise.nil
  | h1 l p ih =>
    rw [madeL_snoc]
    rw [List.map_append, List.nodup_append] at h
    refine insPt_S (ih h.1) fun hc => ?_
    have := ((madeL_perm l).map place).mem_iff.1 hc
    exact h.2.2 _ this _ (by simp) rfl
/-! ### the tree -/
def TreeS (tb : Nat) (l : List Pt) (n u built : Nat) (A : Bag) : Prop := ∃ (ps : PS) (parts : List (List Pt)) (rem : List Pt), TreeA tb ps parts rem (built : Int) A ∧ RI ps parts rem ∧ l.Perm (ptsOf ps) ∧ PtsS l ∧ EffI n u rem.length built (parts.reverse.map List.length)
section
variable {h0 h : Hp} {tb n u built : Nat} {l : List Pt} {A F : Bag}
theorem TreeS.sorted (a : TreeS tb l n u built A) : PtsS l := by obtain ⟨_, _, _, _, _, _, hs, _⟩ := a; exact hs
theorem TreeS.len (a : TreeS tb l n u built A) : l.length ≤ 1000 := by
  obtain ⟨ps, _, _, _, ri, hp, _⟩ := a
  rw [hp.length_eq, ptsOf_len]; exact ri.len
theorem TreeS.val (a : TreeS tb l n u built A) : ∀ x ∈ l, vPt x = true := by
  obtain ⟨ps, parts, rem, _, ri, hp, _⟩ := a
  exact fun x hx => ri.val x (ri.perm.mem_iff.2 (List.mem_append.2 (.inl (hp.mem_iff.1 hx))))
theorem TreeS.small (a : TreeS tb l n u built A) (hn : n ≤ 2000) (hu : u ≤ 2000) : (0 : Int) ≤ built ∧ (built : Int) ≤ 100000000 := by
  obtain ⟨_, _, _, _, _, _, _, he⟩ := a
  have := eff_bound he (L := 11) (by omega)
  omega
theorem TreeS.more {u' : Nat} (a : TreeS tb l n u built A) (hu : u ≤ u') : TreeS tb l n u' built A := by
  obtain ⟨ps, parts, rem, h1, h2, h3, h4, he⟩ := a
  exact ⟨ps, parts, rem, h1, h2, h3, h4, eff_keep he hu⟩
theorem Make_s {h : Hp} {p : Option Addr} {n c : Nat} {l : List Pt} (r : RdT tPt h p n l) (hn : n ≤ 4000) :
    HCalls Tryz.prog 6 #[.slice p n c] h (fun v h' => if l.any (fun x => !vPt x) = true then v = .tuple #[.pointer none, .int .i64 1] ∧ Ext h h' else
      if ¬ (l.map place).Nodup then v = .tuple #[.pointer none, .int .i64 10] ∧ Ext h h' else if 1000 < n then v = .tuple #[.pointer none, .int .i64 4] ∧ Ext h h' else
      ∃ tb A, v = .tuple #[ptr tb, .int .i64 0] ∧ TreeS tb (madeL l) n 0 n A ∧ St h h' A) := by
  have hll := r.len
  refine (Make_ok r hn).mono fun v h' hv => ?_
  by_cases h1 : l.any (fun x => !vPt x) = true
  · rw [if_pos h1] at hv ⊢; exact hv
  rw [if_neg h1] at hv ⊢
  by_cases h2 : ¬ (l.map place).Nodup
  · rw [if_pos h2] at hv ⊢; exact hv
  rw [if_neg h2] at hv ⊢
  by_cases h3 : 1000 < n
  · rw [if_pos h3] at hv ⊢; exact hv
  rw [if_neg h3] at hv ⊢
  obtain ⟨tb, A, own, hv, ta, hp, st⟩ := hv
  have hnd : (l.map place).Nodup := Classical.not_not.1 h2
  have hpe := hp.length_eq
  refine ⟨tb, A, hv, ⟨l.map kvOf, _, [], ta, ?_, by rw [ptsOf_kv]; exact madeL_perm l, madeL_S hnd, ?_⟩, st⟩
  · by_cases hz : n = 0
    · rw [if_pos hz]
      have : l = [] := List.eq_nil_of_length_eq_zero (by omega)
      subst this
      exact ⟨.refl _, fun x hx => (by cases hx), fun P hP => (by cases hP), .inr rfl, by simp⟩
    · rw [if_neg hz]
      refine ⟨?_, fun x hx => ?_, fun P hP => ?_, .inl ?_, by rw [List.length_map]; omega⟩
      · rw [ptsOf_kv]; simpa using hp
      · have hx : x ∈ own := by simpa using hx
        have := List.any_eq_false.1 (Bool.not_eq_true _ ▸ h1) x (hp.mem_iff.1 hx)
        simpa using this
      · rw [List.mem_singleton.1 hP]
        intro e
        rw [e] at hpe
        simp at hpe
        omega
      · show 2 * 0 < _
        have : storedOf [own] = own.length := by simp [storedOf]
        omega
  · have := eff_make n
    by_cases hz : n = 0
    · rw [if_pos hz] at this ⊢; exact this
    · rw [if_neg hz] at this ⊢
      have e : [own].reverse.map List.length = [n] := by simp; omega
      rw [e]; exact this
theorem lkp_place {ps : PS} {l : List Pt} (hp : l.Perm (ptsOf ps)) (k : Int × Int) : lkp ps k = none ↔ k ∉ l.map place := by
  rw [lkp_none, (hp.map place).mem_iff, ptsOf_place]
theorem Add_s (a : TreeS tb l n u built A) (s : St h0 h (A + F)) (hn : n ≤ 2000) (hu : u ≤ 2000) (x : Pt) :
    HCalls Tryz.prog 9 #[ptr tb, encPt x] h (fun v h' => if vPt x = false then v = .int .i64 1 ∧ St h0 h' (A + F) else if place x ∈ l.map place then v = .int .i64 15 ∧ St h0 h' (A + F) else if 1000 ≤ l.length then v = .int .i64 4 ∧ St h0 h' (A + F) else
      v = .int .i64 0 ∧ ∃ b' A', built ≤ b' ∧ TreeS tb (insPt x l) n (u + 1) b' A' ∧ St h0 h' (A' + F)) := by
  have hsm := a.small hn hu
  obtain ⟨ps, parts, rem, ta, ri, hp, hs, he⟩ := a
  have hpl := hp.length_eq
  rw [ptsOf_len] at hpl
  refine (Add_ok ta s ri hsm x).mono fun v h' hv => ?_
  by_cases h1 : vPt x = false
  · rw [if_pos h1] at hv ⊢; exact hv
  rw [if_neg h1] at hv ⊢
  by_cases h2 : place x ∈ l.map place
  · rw [if_pos h2]
    rw [if_pos (fun hc => (lkp_place hp _).1 hc h2)] at hv
    exact hv
  rw [if_neg h2]
  have hk := (lkp_place hp (place x)).2 h2
  rw [if_neg (fun hc => hc hk)] at hv
  by_cases h3 : 1000 ≤ l.length
  · rw [if_pos h3]
    rw [if_pos (by omega)] at hv; exact hv
  rw [if_neg h3]
  rw [if_neg (by omega)] at hv
  obtain ⟨hv, own, A', ta', hpo, st⟩ := hv
  have hvx : vPt x = true := by simpa using h1
  have hpol := hpo.length_eq
  obtain ⟨n1, n2⟩ := mrgP_ne parts.reverse [x] (fun P hP => ri.ne P (List.mem_reverse.1 hP)) (by simp)
  have hmp := mrgP_perm parts.reverse [x]
  rw [List.reverse_reverse] at hmp
  have hfl : (((mrgP parts.reverse [x]).1.reverse ++ [own]).flatten).Perm (parts.flatten ++ [x]) := by
    rw [List.flatten_append]
    refine List.Perm.trans ?_ hmp
    refine List.Perm.append_left _ ?_
    simpa using hpo
  refine ⟨hv, built + (mrgP parts.reverse [x]).2.length, A', by omega, ⟨ps ++ [kvOf x], (mrgP parts.reverse [x]).1.reverse ++ [own], rem, ?_, ?_, ?_, insPt_S hs h2, ?_⟩, st⟩
  · push_cast; exact ta'
  · refine ⟨?_, fun y hy => ?_, fun P hP => ?_, ?_, by rw [List.length_append, List.length_singleton]; omega⟩
    · refine hfl.trans ?_
      unfold ptsOf
      rw [List.map_append, List.append_assoc]
      refine (List.Perm.append_right _ ri.perm).trans ?_
      rw [List.append_assoc]
      exact List.Perm.append_left _ List.perm_append_comm
    · rcases List.mem_append.1 (hfl.mem_iff.1 hy) with h | h
      · exact ri.val y h
      · rw [List.mem_singleton.1 h]; exact hvx
    · rcases List.mem_append.1 hP with h | h
      · exact n1 P (List.mem_reverse.1 h)
      · rw [List.mem_singleton.1 h]
        intro e
        rw [e] at hpol
        exact n2 (List.eq_nil_of_length_eq_zero hpol.symm)
    · refine .inl ?_
      have e := hfl.length_eq
      rw [storedOf_flat, List.length_append, storedOf_flat, List.length_singleton] at e
      have := ri.stored
      rcases ri.small with h | h
      · omega
      · have e0 : storedOf parts = 0 := by rw [h]; rfl
        omega
  · unfold ptsOf
    rw [List.map_append]
    refine (insPt_perm x l).trans ((List.Perm.cons x hp).trans ?_)
    exact (List.perm_append_comm (l₁ := [x]) (l₂ := ptsOf ps))
  · have e2 := mrgP_size parts.reverse [x]
    rw [List.length_singleton] at e2
    have e1 : ((mrgP parts.reverse [x]).1.reverse ++ [own]).reverse.map List.length = mrgR (parts.reverse.map List.length) 1 := by
      rw [← e2, List.reverse_append, List.reverse_reverse, List.map_append]
      simp [hpol]
    have h := eff_add he
    rw [← e2] at h
    rw [e1, ← e2]
    exact h
theorem ptsOf_delk {ps : PS} (hd : KD ps) (k : Int × Int) : ptsOf (delk ps k) = (ptsOf ps).filter fun p => decide (place p ≠ k) := by
  unfold ptsOf
  rw [delk_eq hd, List.filter_map]
  rfl
theorem pull_pt {ps : PS} {k : Int × Int} {w : Int} (h : lkp ps k = some w) : (ptsOf ps).Perm ((k.1, k.2, w) :: ptsOf (delk ps k)) := by
  induction ps with
  | nil => cases h
  | cons e r ih =>
    obtain ⟨a, v⟩ := e
    unfold lkp at h
    unfold delk
    by_cases hc : a = k
    · rw [if_pos hc] at h ⊢
      cases h
      subst hc
      exact .refl _
    · rw [if_neg hc] at h ⊢
      have := ih h
      show (ptOf (a, v) :: ptsOf r).Perm _
      refine (List.Perm.cons _ this).trans ?_
      exact List.Perm.swap _ _ _
theorem Remove_s (a : TreeS tb l n u built A) (s : St h0 h (A + F)) (hn : n ≤ 2000) (hu : u ≤ 2000) (x y : Int) :
    HCalls Tryz.prog 11 #[ptr tb, .int .i64 x, .int .i64 y] h (fun v h' => if (x, y) ∈ l.map place then v = .int .i64 0 ∧ ∃ b' A', built ≤ b' ∧ TreeS tb (l.filter fun p => decide (place p ≠ (x, y))) n (u + 1) b' A' ∧ St h0 h' (A' + F) else v = .int .i64 12 ∧ h' = h) := by
  have hsm := a.small hn hu
  obtain ⟨ps, parts, rem, ta, ri, hp, hs, he⟩ := a
  have hd := ta.kd
  refine (Remove_ok ta s ri hsm x y).mono fun v h' hv => ?_
  rcases hv with ⟨hk, hv, hh⟩ | ⟨w, A', hk, hv, st, hc⟩
  · rw [if_neg ((lkp_place hp _).1 hk)]
    exact ⟨hv, hh⟩
  rw [if_pos (Classical.byContradiction fun hc => by rw [(lkp_place hp (x, y)).2 hc] at hk; cases hk)]
  have hpd : (l.filter fun p => decide (place p ≠ (x, y))).Perm (ptsOf (delk ps (x, y))) := by
    rw [ptsOf_delk hd]
    exact hp.filter _
  have hsd : PtsS (l.filter fun p => decide (place p ≠ (x, y))) := List.Pairwise.filter _ hs
  have hdl := delk_len hk
  have hpull := pull_pt hk
  have hst := ri.stored
  have hlen := ri.len
  refine ⟨hv, ?_⟩
  rcases hc with ⟨hlt, ta'⟩ | ⟨hge, own, hpo, ta'⟩
  · refine ⟨built, A', Nat.le_refl _, ⟨_, _, _, ta', ⟨?_, ri.val, ri.ne, .inl ?_, by omega⟩, hpd, hsd, ?_⟩, st⟩
    · refine ri.perm.trans ((List.Perm.append_right _ hpull).trans ?_)
      rw [List.cons_append]
      refine List.Perm.trans ?_ (List.perm_append_comm (l₁ := [(x, y, w)]) (l₂ := ptsOf (delk ps (x, y)) ++ rem) |>.trans (by rw [List.append_assoc]))
      exact .refl _
    · rw [List.length_append, List.length_singleton]; exact hlt
    · rw [List.length_append, List.length_singleton]
      exact eff_remove he
  · have hpol := hpo.length_eq
    rw [ptsOf_len] at hpol
    refine ⟨built + (delk ps (x, y)).length, A', by omega, ⟨delk ps (x, y), if (delk ps (x, y)).length = 0 then [] else [own], [], by push_cast; exact ta', ?_, hpd, hsd, ?_⟩, st⟩
    · by_cases hz : (delk ps (x, y)).length = 0
      · rw [if_pos hz, List.eq_nil_of_length_eq_zero hz]
        exact ⟨.refl _, fun x hx => (by cases hx), fun P hP => (by cases hP), .inr rfl, by simp⟩
      · rw [if_neg hz]
        refine ⟨by simpa using hpo, fun z hz2 => ?_, fun P hP => ?_, .inl ?_, by omega⟩
        · have hz2 : z ∈ own := by simpa using hz2
          refine ri.val z (ri.perm.mem_iff.2 (List.mem_append.2 (.inl (hpull.mem_iff.2 (List.mem_cons_of_mem _ (hpo.mem_iff.1 hz2))))))
        · rw [List.mem_singleton.1 hP]
          intro e
          rw [e] at hpol
          simp at hpol
          omega
        · show 2 * 0 < _
          have : storedOf [own] = own.length := by simp [storedOf]
          omega
    · have h := eff_renew (eff_remove he) (L := (delk ps (x, y)).length) (by omega)
      by_cases hz : (delk ps (x, y)).length = 0
      · rw [if_pos hz] at h ⊢; exact h
      · rw [if_neg hz] at h ⊢
        have e : [own].reverse.map List.length = [(delk ps (x, y)).length] := by simp [hpol]
        rw [e]; exact h
theorem Count_s (a : TreeS tb l n u built A) (s : St h0 h (A + F)) (x1 x2 y1 y2 : Int) :
    HCalls Tryz.prog 12 #[ptr tb, .int .i64 x1, .int .i64 x2, .int .i64 y1, .int .i64 y2] h (fun v h' => Ext h h' ∧ v = .tuple #[.int .i64 (cntB x1 x2 y1 y2 l), .int .i64 0]) := by
  obtain ⟨ps, parts, rem, ta, ri, hp, hs, he⟩ := a
  rw [cntB_perm hp]
  exact Count_ok ta s ri x1 x2 y1 y2
theorem Sum_s (a : TreeS tb l n u built A) (s : St h0 h (A + F)) (x1 x2 y1 y2 : Int) :
    HCalls Tryz.prog 10 #[ptr tb, .int .i64 x1, .int .i64 x2, .int .i64 y1, .int .i64 y2] h (fun v h' => Ext h h' ∧ v = .tuple #[.int .i64 (sumB x1 x2 y1 y2 l), .int .i64 0]) := by
  obtain ⟨ps, parts, rem, ta, ri, hp, hs, he⟩ := a
  rw [sumB_perm hp]
  exact Sum_ok ta s ri x1 x2 y1 y2
theorem Len_s (a : TreeS tb l n u built A) (s : St h0 h (A + F)) : HCalls Tryz.prog 13 #[ptr tb] h (fun v h' => h' = h ∧ v = .int .i64 (l.length : Nat)) := by
  obtain ⟨ps, parts, rem, ta, ri, hp, hs, he⟩ := a
  rw [hp.length_eq, ptsOf_len]
  exact Len_ok ta s
theorem Leftmost_s (a : TreeS tb l n u built A) (s : St h0 h (A + F)) (x1 y1 y2 : Int) :
    HCalls Tryz.prog 14 #[ptr tb, .int .i64 x1, .int .i64 y1, .int .i64 y2] h (fun v h' => St h0 h' (A + F) ∧ v = match l.find? (fun p => decide (x1 ≤ p.1 ∧ y1 ≤ p.2.1 ∧ p.2.1 ≤ y2)) with | some p => .tuple #[encPt p, .int .i64 0] | none => .tuple #[encPt (0, 0, 0), .int .i64 12]) := by
  obtain ⟨ps, parts, rem, ta, ri, hp, hs, he⟩ := a
  have hl := ri.len
  refine (Leftmost_ok ta s (by omega) x1 y1 y2).mono fun v h' ⟨st, l', hm, hms, hv⟩ => ?_
  obtain rfl := ptsS_ext hs hms fun p => by rw [hp.mem_iff, hm.mem_iff]
  exact ⟨st, hv⟩
end
end Go.Proofs.YtbfejfejahoblaaGreat

/- The law: back. -/
set_option maxRecDepth 100000
namespace Go.Proofs.YtbfejfejahoblaaGreat
open Go Go.Sx
/-! ### plain -/
theorem inB_one {x y : Int} {p : Pt} : inB x x y y p = true ↔ place p = (x, y) := by
  unfold inB place
  rw [decide_eq_true_iff, Prod.mk.injEq]
  omega
theorem mem_ins {p q : Pt} {l : List Pt} : q ∈ insPt p l ↔ q = p ∨ q ∈ l := by rw [(insPt_perm p l).mem_iff, List.mem_cons]
theorem place_inj {l : List Pt} (hs : PtsS l) {p q : Pt} (hp : p ∈ l) (hq : q ∈ l) (e : place p = place q) : p = q := by
  rcases Classical.em (p = q) with h | h
  · exact h
  · exfalso
    have hn : ∀ {a b : Pt}, ptLt a b → place a ≠ place b := fun h e => by
      unfold place at e
      rw [Prod.mk.injEq] at e
      unfold ptLt at h
      omega
    induction l with
    | nil => cases hp
    | cons x t ih =>
      unfold PtsS at hs
      rw [List.pairwise_cons] at hs
      rcases List.mem_cons.1 hp with hp' | hp'
      · rcases List.mem_cons.1 hq with hq' | hq'
        · exact h (hp'.trans hq'.symm)
        · exact hn (hs.1 q hq') (by rw [← hp']; exact e)
      · rcases List.mem_cons.1 hq with hq' | hq'
        · exact hn (hs.1 p hp') (by rw [← hq']; exact e.symm)
        · exact ih hs.2 hp' hq'
theorem del_none {l : List Pt} {k : Int × Int} : k ∉ (l.filter fun q => decide (place q ≠ k)).map place := fun hc => by
  obtain ⟨q, hq, e⟩ := mem_place.1 hc
  rw [List.mem_filter, decide_eq_true_iff] at hq
  exact hq.2 e
theorem del_ins {p : Pt} {l : List Pt} (hs : PtsS l) (h : p ∈ l) : insPt p (l.filter fun q => decide (place q ≠ place p)) = l := by
  refine ptsS_ext (insPt_S (List.Pairwise.filter _ hs) del_none) hs fun q => ?_
  rw [mem_ins, List.mem_filter, decide_eq_true_iff]
  constructor
  · rintro (rfl | ⟨hq, _⟩)
    · exact h
    · exact hq
  · intro hq
    by_cases e : place q = place p
    · exact .inl (place_inj hs hq h e)
    · exact .inr ⟨hq, e⟩
theorem cntB_cons (x1 x2 y1 y2 : Int) (p : Pt) (l : List Pt) : cntB x1 x2 y1 y2 (p :: l) = (if inB x1 x2 y1 y2 p = true then 1 else 0) + cntB x1 x2 y1 y2 l := by
  unfold cntB
  rw [List.filter_cons]
  split
  · rw [List.length_cons]; push_cast; omega
  · omega
theorem sumB_cons (x1 x2 y1 y2 : Int) (p : Pt) (l : List Pt) : sumB x1 x2 y1 y2 (p :: l) = (if inB x1 x2 y1 y2 p = true then p.2.2 else 0) + sumB x1 x2 y1 y2 l := by
  unfold sumB
  rw [List.filter_cons]
  split
  · rw [wSum_cons]
  · omega
theorem sumB_small {a b y1 y2 : Int} {l : List Pt} (hw : WOk l) : -(1048576 * (l.length : Int)) ≤ sumB a b y1 y2 l ∧ sumB a b y1 y2 l ≤ 1048576 * (l.length : Int) := by
  induction l with
  | nil => exact ⟨Int.le_refl _, Int.le_refl _⟩
  | cons p l ih =>
    have := ih fun x hx => hw x (List.mem_cons_of_mem _ hx)
    have := hw p (List.mem_cons_self ..)
    rw [sumB_cons, List.length_cons]
    push_cast
    split <;> omega
theorem TreeS.w {tb n u built : Nat} {l : List Pt} {A : Bag} (a : TreeS tb l n u built A) : WOk l := fun x hx => (vPt_iff.1 (a.val x hx)).2.2
theorem filter_place {l : List Pt} (hs : PtsS l) {i : Nat} {k : Int × Int} (hi : i < l.length) (hp : place (l.getD i tPt.d) = k) : l.filter (fun p => decide (place p ≠ k)) = l.take i ++ l.drop (i + 1) := by
  have hn := ptsS_place hs
  have e := split_at hi
  rw [getD_get hi] at hp
  generalize l[i] = z at *
  rw [e, List.map_append, List.map_cons, List.nodup_append, List.nodup_cons] at hn
  have h1 : (l.take i).filter (fun p => decide (place p ≠ k)) = l.take i := List.filter_eq_self.2 fun p hpm => by
    rw [decide_eq_true_eq]
    intro hc
    exact hn.2.2 _ (List.mem_map.2 ⟨p, hpm, rfl⟩) _ List.mem_cons_self (by rw [hc, hp])
  have h2 : (l.drop (i + 1)).filter (fun p => decide (place p ≠ k)) = l.drop (i + 1) := List.filter_eq_self.2 fun p hpm => by
    rw [decide_eq_true_eq]
    intro hc
    exact hn.2.1.1 (by rw [hp, ← hc]; exact List.mem_map.2 ⟨p, hpm, rfl⟩)
  conv => lhs; rw [e]
  rw [List.filter_append, List.filter_cons, h1, h2, if_neg (by simp [hp])]
end Go.Proofs.YtbfejfejahoblaaGreat

/- Layer 3's model: points. -/
set_option maxRecDepth 100000
namespace Go.Proofs.YtbfejfejahoblaaGreat
open Go Go.Sx
abbrev row3 (p : Pt) : List Int := [p.1, p.2.1, p.2.2]
def pointsS (l : List Pt) (c : Int) (zs : List Int) : List Pt × Int × Int :=
  if c = 5 then (l, 0, (l.length : Int)) else if c = 3 then (l, 0, cntB (zs.getD 0 0) (zs.getD 1 0) (zs.getD 2 0) (zs.getD 3 0) l) else if c = 4 then (l, 0, sumB (zs.getD 0 0) (zs.getD 1 0) (zs.getD 2 0) (zs.getD 3 0) l)
  else if c = 1 then (if (zs.getD 0 0, zs.getD 1 0) ∈ l.map place then (l, 15, 0) else (insPt (zs.getD 0 0, zs.getD 1 0, zs.getD 2 0) l, 0, 0))
  else (if (zs.getD 0 0, zs.getD 1 0) ∈ l.map place then (l.filter (fun p => decide (place p ≠ (zs.getD 0 0, zs.getD 1 0))), 0, sumB (zs.getD 0 0) (zs.getD 0 0) (zs.getD 1 0) (zs.getD 1 0) l) else (l, 12, 0))
theorem row3_get {l : List Pt} {i : Nat} (h : i < l.length) : (l.map row3).getD i [] = row3 (l.getD i tPt.d) := by
  rw [List.getD_eq_getElem?_getD, List.getElem?_map, List.getElem?_eq_getElem h, List.getD_eq_getElem?_getD, List.getElem?_eq_getElem h]; rfl
theorem cmpK3 {l : List Pt} {x y : Int} {j : Nat} (hj : j < l.length) : cmpK (l.map row3) [x, y] j = if (l.getD j tPt.d).1 < x then -1 else if x < (l.getD j tPt.d).1 then 1 else if (l.getD j tPt.d).2.1 < y then -1 else if y < (l.getD j tPt.d).2.1 then 1 else 0 := by
  rw [cmpK, row3_get hj]
  rfl
/-- Where a place stands among points in their order. -/
theorem pos_cut {l : List Pt} (so : PtsS l) (p : Pt) : (l.takeWhile (fun q => decide (ptLt q p))).length ≤ l.length ∧
    (∀ j, j < (l.takeWhile (fun q => decide (ptLt q p))).length → cmpK (l.map row3) [p.1, p.2.1] j < 0) ∧
    (∀ j, (l.takeWhile (fun q => decide (ptLt q p))).length ≤ j → j < l.length → 0 ≤ cmpK (l.map row3) [p.1, p.2.1] j) ∧
    (((l.takeWhile (fun q => decide (ptLt q p))).length < l.length ∧ cmpK (l.map row3) [p.1, p.2.1] (l.takeWhile (fun q => decide (ptLt q p))).length = 0) ↔ place p ∈ l.map place) := by
  have e := (List.takeWhile_append_dropWhile (p := fun q => decide (ptLt q p)) (l := l))
  have h1 : ∀ q ∈ l.takeWhile (fun q => decide (ptLt q p)), ptLt q p := fun q hq => by
    have := List.all_eq_true.1 (List.all_takeWhile (p := fun q => decide (ptLt q p)) (l := l)) q hq
    simpa using this
  have h2 : ∀ q ∈ l.dropWhile (fun q => decide (ptLt q p)), ¬ ptLt q p := by
    cases hd : l.dropWhile (fun q => decide (ptLt q p)) with
    | nil => intro q hq; cases hq
    | cons z t =>
      have hz : ¬ ptLt z p := by
        have := List.head_dropWhile_not (p := fun q => decide (ptLt q p)) (l := l) (by rw [hd]; simp)
        simp only [hd, List.head_cons] at this
        simpa using this
      intro q hq
      rcases List.mem_cons.1 hq with rfl | hq
      · exact hz
      · have hs := so
        unfold PtsS at hs
        rw [← e, hd, List.pairwise_append, List.pairwise_cons] at hs
        exact fun hc => hz (ptLt_trans (hs.2.1.1 q hq) hc)
  have hlen : (l.takeWhile (fun q => decide (ptLt q p))).length + (l.dropWhile (fun q => decide (ptLt q p))).length = l.length := by
    rw [← List.length_append, e]
  generalize l.takeWhile (fun q => decide (ptLt q p)) = X at e h1 hlen
  generalize l.dropWhile (fun q => decide (ptLt q p)) = Y at e h2 hlen
  have g1 : ∀ j, j < X.length → l.getD j tPt.d ∈ X := fun j hj => by
    rw [← e, List.getD_eq_getElem?_getD, List.getElem?_append_left hj, List.getElem?_eq_getElem hj]
    exact List.getElem_mem hj
  have g2 : ∀ j, X.length ≤ j → j < l.length → l.getD j tPt.d ∈ Y := fun j hj hl => by
    have hjy : j - X.length < Y.length := by omega
    rw [← e, List.getD_eq_getElem?_getD, List.getElem?_append_right hj, List.getElem?_eq_getElem hjy]
    exact List.getElem_mem hjy
  refine ⟨by omega, fun j hj => ?_, fun j hj hl => ?_, fun ⟨ht, hc⟩ => ?_, fun hm => ?_⟩
  · rw [cmpK3 (by omega)]
    have := h1 _ (g1 j hj)
    unfold ptLt at this
    split
    · omega
    · split
      · omega
      · split
        · omega
        · omega
  · rw [cmpK3 hl]
    have := h2 _ (g2 j hj hl)
    unfold ptLt at this
    split
    · omega
    · split
      · omega
      · split
        · omega
        · split <;> omega
  · rw [cmpK3 ht] at hc
    refine mem_place.2 ⟨l.getD X.length tPt.d, by rw [getD_get ht]; exact List.getElem_mem _, ?_⟩
    unfold place
    rw [Prod.mk.injEq]
    split at hc
    · omega
    · split at hc
      · omega
      · split at hc
        · omega
        · split at hc <;> omega
  · obtain ⟨q, hq, hpl⟩ := mem_place.1 hm
    have hpl1 : q.1 = p.1 ∧ q.2.1 = p.2.1 := by
      unfold place at hpl
      rwa [Prod.mk.injEq] at hpl
    have hqY : q ∈ Y := by
      rw [← e] at hq
      rcases List.mem_append.1 hq with h | h
      · have := h1 q h
        unfold ptLt at this
        omega
      · exact h
    cases Y with
    | nil => cases hqY
    | cons z t =>
      have hzq : z = q := by
        rcases List.mem_cons.1 hqY with h | h
        · exact h.symm
        · exfalso
          have hs := so
          unfold PtsS at hs
          rw [← e, List.pairwise_append, List.pairwise_cons] at hs
          have h3 := hs.2.1.1 q h
          have h4 := h2 z List.mem_cons_self
          unfold ptLt at h3 h4
          omega
      have ht : X.length < l.length := by rw [List.length_cons] at hlen; omega
      have hg : l.getD X.length tPt.d = z := by
        rw [← e, List.getD_eq_getElem?_getD, List.getElem?_append_right (Nat.le_refl _), Nat.sub_self]; rfl
      refine ⟨ht, ?_⟩
      rw [cmpK3 ht, hg, hzq, if_neg (by omega), if_neg (by omega), if_neg (by omega), if_neg (by omega)]
theorem sumB_one {l : List Pt} (so : PtsS l) {p : Pt} (hp : p ∈ l) : sumB p.1 p.1 p.2.1 p.2.1 l = p.2.2 := by
  have e := del_ins so hp
  have hpm := insPt_perm p (l.filter fun q => decide (place q ≠ place p))
  rw [e] at hpm
  rw [sumB_perm hpm, sumB_cons, if_pos (inB_one.2 rfl)]
  have : sumB p.1 p.1 p.2.1 p.2.1 (l.filter fun q => decide (place q ≠ place p)) = 0 := by
    unfold sumB
    rw [List.filter_eq_nil_iff.2]
    · rfl
    · intro q hq hc
      exact del_none (mem_place.2 ⟨q, hq, inB_one.1 hc⟩)
  omega
section
variable {h0 h : Hp} {b1 b2 : Nat} {l : List Pt} {p q : Option Addr} {n c m cc : Nat} {code : Int} {zs : List Int} {B G : Bag}
abbrev MPtsP (h0 : Hp) (G : Bag) (l : List Pt) (c : Int) (zs : List Int) : Value → Hp → Prop := MStepP h0 G ((pointsS l c zs).1.map row3) (pointsS l c zs).2.1 (pointsS l c zs).2.2
/-- A row is read. -/
theorem row_rd {h0 h : Hp} {l : List Pt} {p : Option Addr} {n c : Nat} {B G : Bag} {i : Int} {i' : Nat} {Q : Option Addr → Nat → Nat → Prop} (na : RowsA (p, n, c) (l.map row3) B) (s : St h0 h (B + G)) (ei : i = (i' : Int)) (hi : i' < n) (hl : l.length = n)
    (hq : ∀ a C, RdT TI h a 3 (row3 (l.getD i' tPt.d)) → Q a 3 C) : (0 ≤ i ∧ i < (n : Int)) ∧ NN p fun a1 => ∃ (a2 : Option Addr) (L1 C1 : Nat), cell h (a1.add (Int.toNat i * 1)) = some (.slice a2 L1 C1) ∧ Q a2 L1 C1 := by
  subst ei
  refine Nest.at_ (d := []) na s (by omega) (by show (i' : Int) < n; omega) fun a L C Bi Br o hB => ?_
  rw [Int.toNat_natCast, row3_get (by omega)] at o
  have o : Sl TI a L C (row3 (l.getD i' tPt.d)) Bi := o
  have st2 : St h0 h (Bi + (Br + G)) := by rw [hB] at s; exact s.to
  have hL := o.len
  obtain rfl : L = 3 := by rw [← hL]; rfl
  exact hq a C (o.rd st2)
theorem take2 {zs : List Int} (h : 2 ≤ zs.length) : zs.take 2 = [zs.getD 0 0, zs.getD 1 0] := by
  match zs, h with
  | _ :: _ :: _, _ => rfl
theorem list3 {zs : List Int} (h : zs.length = 3) : zs = [zs.getD 0 0, zs.getD 1 0, zs.getD 2 0] := by
  match zs, h with
  | [_, _, _], _ => rfl
theorem mpoints_b2 {h0 h : Hp} {b1 b2 : Nat} {l : List Pt} {p q : Option Addr} {n c cc : Nat} {z0 z1 z2 z3 : Int} {B G : Bag} {i : Nat} {K : Value → Hp → Prop} {nx0 : Int × Int × Int × Unit → Hp → Prop} (hw : WOk l) (na : RowsA (p, n, c) (l.map row3) B) (s : St h0 h (B + G)) (hl : l.length = n) (hn : n < 500)
    (r : RdT TI h q 4 [z0, z1, z2, z3]) (c1 : cell h ((⟨b1, 0, none⟩ : Addr).add 1) = some (.slice q 4 cc)) (hi : i < n)
    (hnx : nx0 (cntB z0 z1 z2 z3 (l.take (i + 1)), sumB z0 z1 z2 z3 (l.take (i + 1)), (i : Int) + 1, ()) h) :
    model_points_b2 (cntB z0 z1 z2 z3 (l.take i)) (sumB z0 z1 z2 z3 (l.take i)) i p n c (some ⟨b1, 0, none⟩) (some ⟨b2, 0, none⟩) p n c n h nx0 K := by
  have hil : i < l.length := by omega
  have htk := take_succ_d hil
  have e1 : cntB z0 z1 z2 z3 (l.take (i + 1)) = cntB z0 z1 z2 z3 (l.take i) + (if inB z0 z1 z2 z3 (l.getD i tPt.d) = true then 1 else 0) := by
    rw [htk, cntB_app, cntB_cons]; show _ + (_ + 0) = _; rw [Int.add_zero]
  have e2 : sumB z0 z1 z2 z3 (l.take (i + 1)) = sumB z0 z1 z2 z3 (l.take i) + (if inB z0 z1 z2 z3 (l.getD i tPt.d) = true then (l.getD i tPt.d).2.2 else 0) := by
    rw [htk, sumB_app, sumB_cons]; show _ + (_ + 0) = _; rw [Int.add_zero]
  have hb1 := sumB_small (a := z0) (b := z1) (y1 := z2) (y2 := z3) (l := l.take i) fun x hx => hw x (List.mem_of_mem_take hx)
  have hb2 : 0 ≤ cntB z0 z1 z2 z3 (l.take i) ∧ cntB z0 z1 z2 z3 (l.take i) ≤ i := by
    unfold cntB
    have := List.length_filter_le (inB z0 z1 z2 z3) (l.take i)
    rw [List.length_take] at this
    omega
  rw [List.length_take, Nat.min_eq_left (by omega)] at hb1
  have hwi := hw (l.getD i tPt.d) (by rw [getD_get hil]; exact List.getElem_mem _)
  obtain ⟨z, hz⟩ : ∃ z, l.getD i tPt.d = z := ⟨_, rfl⟩
  rw [hz] at e1 e2 hwi
  rw [model_points_b2_eq]
  have no : ¬ (z0 ≤ z.1 ∧ z.1 ≤ z1 ∧ z2 ≤ z.2.1 ∧ z.2.1 ≤ z3) → model_points_b4 p n c (some ⟨b1, 0, none⟩) (some ⟨b2, 0, none⟩) (cntB z0 z1 z2 z3 (l.take i)) (sumB z0 z1 z2 z3 (l.take i)) p n c n i h nx0 K := fun hno => by
    have hf : ¬ inB z0 z1 z2 z3 z = true := by unfold inB; rw [decide_eq_true_eq]; exact hno
    rw [if_neg hf, Int.add_zero] at e1 e2
    rw [e1, e2] at hnx
    rw [model_points_b4_eq]
    exact ⟨⟨by omega, by omega⟩, hnx⟩
  refine condYes (decide_eq_true (by omega)) (row_rd na s rfl hi hl fun a C rz => ?_)
  rw [hz] at rz
  refine ⟨q, 4, cc, c1, ldI (i' := 0) r rfl (by decide) (ldI (i' := 0) rz rfl (by decide) (condP (fun g1 => ?_) (fun g => no fun h => g h.1)))⟩
  refine ldI (i' := 0) rz rfl (by decide) ⟨q, 4, cc, c1, ldI (i' := 1) r rfl (by decide) (condP (fun g2 => ?_) (fun g => no fun h => g h.2.1))⟩
  refine ⟨q, 4, cc, c1, ldI (i' := 2) r rfl (by decide) (ldI (i' := 1) rz rfl (by decide) (condP (fun g3 => ?_) (fun g => no fun h => g h.2.2.1)))⟩
  refine ldI (i' := 1) rz rfl (by decide) ⟨q, 4, cc, c1, ldI (i' := 3) r rfl (by decide) (condP (fun g4 => ?_) (fun g => no fun h => g h.2.2.2))⟩
  have hf : inB z0 z1 z2 z3 z = true := by unfold inB; rw [decide_eq_true_eq]; exact ⟨g1, g2, g3, g4⟩
  rw [if_pos hf] at e1 e2
  rw [e1, e2] at hnx
  refine ⟨⟨by omega, by omega⟩, ldI (i' := 2) rz rfl (by decide) ⟨⟨?_, ?_⟩, ?_⟩⟩
  · show _ ≤ _ + z.2.2; omega
  · show _ + z.2.2 ≤ _; omega
  · rw [model_points_b4_eq]
    exact ⟨⟨by omega, by omega⟩, hnx⟩
theorem mpoints_b3 (so : PtsS l) (na : RowsA (p, n, c) (l.map row3) B) (hrz : RdT TI h q m zs) (hmc : m ≤ cc) (s2 : St h0 h (cA b2 [.int .i64 0, .int .i64 0, .slice none 0 0] 38 + (cA b1 [.int .i64 code, .slice q m cc] 36 + (B + G)))) (hn : n < 500) (hl : l.length = n) (h12 : code = 1 ∨ code = 2) (hz1 : code = 1 → zs.length = 3) (hz2 : code = 2 → zs.length = 2) :
    model_points_b3 p n c (some ⟨b1, 0, none⟩) (some ⟨b2, 0, none⟩) h (MPtsP h0 G l code zs) := by
  have kb1 := s2.atomBlk
  have hzl := hrz.len
  have sB := s2.to (B := B + (cA b2 [.int .i64 0, .int .i64 0, .slice none 0 0] 38 + (cA b1 [.int .i64 code, .slice q m cc] 36 + G)))
  have hm2 : 2 ≤ m := by rcases h12 with h | h
                         · have := hz1 h; omega
                         · have := hz2 h; omega
  have rk := hrz.take (i := 2) hm2
  obtain ⟨x, hx⟩ : ∃ x, zs.getD 0 0 = x := ⟨_, rfl⟩
  obtain ⟨y, hy⟩ : ∃ y, zs.getD 1 0 = y := ⟨_, rfl⟩
  rw [take2 (by omega), hx, hy] at rk
  obtain ⟨w, hwz⟩ : ∃ w, zs.getD 2 0 = w := ⟨_, rfl⟩
  obtain ⟨f1, f2, f3, f4⟩ := pos_cut so (x, y, w)
  have hts := List.takeWhile_append_dropWhile (p := fun q => decide (ptLt q (x, y, w))) (l := l)
  obtain ⟨t, ht⟩ : ∃ t, (l.takeWhile fun q => decide (ptLt q (x, y, w))).length = t := ⟨_, rfl⟩
  rw [ht] at f1 f2 f3 f4
  rw [model_points_b3_eq]
  refine ⟨_, _, _, Blk.cellA kb1 1, ⟨by omega, by omega, by omega⟩, ?_⟩
  rw [show Int.toNat (0 : Int) = 0 from rfl, show Int.toNat (2 : Int) = 2 from rfl, subAddr_zero, Nat.sub_zero]
  refine (find_ok (t := t) na sB rk (by omega) (fun r hr => by obtain ⟨e, _, rfl⟩ := List.mem_map.1 hr; exact ⟨show 2 ≤ 3 by decide, show 3 ≤ 1000000 by decide⟩) ⟨by omega, f2, fun j h1 h2 => f3 j h1 (by omega)⟩).mono fun v h5 ⟨hv, hh⟩ => ⟨_, _, hv, ?_⟩
  subst hh
  have hd : decide (t < n ∧ cmpK (l.map row3) [x, y] t = 0) = decide ((x, y) ∈ l.map place) := by rw [← hl]; exact decide_eq_decide.2 f4
  rw [hd]
  refine ⟨_, kb1.cell 0, condP (fun hc1 => ?_) (fun hc1 => ?_)⟩
  · have e : pointsS l code zs = (if (x, y) ∈ l.map place then (l, 15, 0) else (insPt (x, y, w) l, 0, 0)) := by subst hc1 hx hy hwz; rfl
    rw [MPtsP, e]
    refine condP (fun hm => ?_) (fun hm => condNo (decide_eq_false (by omega)) ?_)
    · rw [if_pos hm]
      exact mboxT na s2 (mfailed_ok _ _)
    rw [if_neg hm, model_points_b6_eq]
    refine ⟨_, _, _, Blk.cellA kb1 1, (cloneI_st hrz (by have := hz1 hc1; omega)).mono fun v6 h6 ⟨q6, d6, A6, hv6, o6, t6⟩ => ⟨_, _, _, hv6, ?_⟩⟩
    have s6 := s2.join t6
    refine s6.new (cs := [.slice q6 m d6]) fun b3 h7 x7 s7 => ?_
    have s7 := s7.to (B := cA b3 [.slice q6 m d6] 34 + (B + (A6 + (cA b2 [.int .i64 0, .int .i64 0, .slice none 0 0] 38 + (cA b1 [.int .i64 code, .slice q m cc] 36 + G)))))
    refine (mrows_put (i := t) na o6 s7 (by omega) (by omega)).mono fun v8 h8 ⟨q', d', B', hv8, na', s8⟩ => ⟨_, _, _, hv8, ?_⟩
    have hrow : (l.map row3).take t ++ zs :: (l.map row3).drop t = (insPt (x, y, w) l).map row3 := by
      have e1 := List.take_left' (l₂ := l.dropWhile fun q => decide (ptLt q (x, y, w))) ht
      have e2 := List.drop_left' (l₂ := l.dropWhile fun q => decide (ptLt q (x, y, w))) ht
      rw [hts] at e1 e2
      rw [← List.map_take, ← List.map_drop, e1, e2, insPt, List.map_append, List.map_cons, list3 (hz1 hc1), hx, hy, hwz]
    rw [hrow] at na'
    exact mboxT na' (s8.to (B := cA b2 [.int .i64 0, .int .i64 0, .slice none 0 0] 38 + (cA b1 [.int .i64 code, .slice q m cc] 36 + (B' + G)))) (mresult_ok _ _)
  · have hc2 : code = 2 := by omega
    have e : pointsS l code zs = (if (x, y) ∈ l.map place then (l.filter (fun p => decide (place p ≠ (x, y))), 0, sumB x x y y l) else (l, 12, 0)) := by subst hc2 hx hy; rfl
    rw [MPtsP, e]
    refine condN (fun hm => ?_) (fun hm => ?_)
    · rw [if_neg hm]
      exact mboxT na s2 (mfailed_ok _ _)
    rw [if_pos hm]
    obtain ⟨g1, g2⟩ := f4.2 hm
    have g2 : cmpK (l.map row3) [x, y] t = 0 := g2
    have hpt : place (l.getD t tPt.d) = (x, y) := by
      rw [cmpK3 g1] at g2
      unfold place
      rw [Prod.mk.injEq]
      split at g2
      · omega
      · split at g2
        · omega
        · split at g2
          · omega
          · split at g2 <;> omega
    refine row_rd na sB rfl (by omega) hl fun a C rz => ldI (i' := 2) rz rfl (by decide) ⟨⟨by omega, by omega⟩, ?_⟩
    refine (mrows_cut (i := t) na sB (by omega) rfl (by omega)).mono fun v h' ⟨B', hv, na', s'⟩ => ⟨_, _, _, hv, ?_⟩
    have hrow : (l.map row3).take t ++ (l.map row3).drop (t + 1) = (l.filter (fun p => decide (place p ≠ (x, y)))).map row3 := by
      rw [← List.map_take, ← List.map_drop, ← List.map_append, filter_place so g1 hpt]
    rw [hrow] at na'
    have hmem : l.getD t tPt.d ∈ l := by rw [getD_get g1]; exact List.getElem_mem _
    have hs := sumB_one so hmem
    have hpt1 : (l.getD t tPt.d).1 = x ∧ (l.getD t tPt.d).2.1 = y := by
      unfold place at hpt
      rwa [Prod.mk.injEq] at hpt
    rw [hpt1.1, hpt1.2] at hs
    rw [hs]
    exact mboxT na' (s'.to (B := cA b2 [.int .i64 0, .int .i64 0, .slice none 0 0] 38 + (cA b1 [.int .i64 code, .slice q m cc] 36 + (B' + G)))) (mresult_ok _ _)
theorem mpoints_ok (so : PtsS l) (hw : WOk l) (na : RowsA (p, n, c) (l.map row3) B) (rz : RdS h0 G TI q m zs) (hmc : m ≤ cc) (s : St h0 h (B + G)) (hn : n < 500) (hc : 1 ≤ code ∧ code ≤ 5) (hz1 : code = 1 → zs.length = 3) (hz2 : code = 2 → zs.length = 2) (hz4 : code = 3 ∨ code = 4 → zs.length = 4) :
    HCalls Tryz.prog 44 #[.slice p n c, .agg #[.int .i64 code, .slice q m cc]] h (MPtsP h0 G l code zs) := by
  have hl : (l.map row3).length = n := rows_len na
  rw [List.length_map] at hl
  refine model_points_call ?_
  rw [model_points_b0_eq]
  refine s.new (cs := [.int .i64 code, .slice q m cc]) fun b1 h3 _ s1 => ?_
  refine s1.new (cs := [.int .i64 0, .int .i64 0, .slice none 0 0]) fun b2 h4 _ s2 => ?_
  have s2 : St h0 h4 (cA b2 [.int .i64 0, .int .i64 0, .slice none 0 0] 38 + (cA b1 [.int .i64 code, .slice q m cc] 36 + (B + G))) := s2
  have kb1 := s2.atomBlk
  have hrz : RdT TI h4 q m zs := rz h4 (cA b2 [.int .i64 0, .int .i64 0, .slice none 0 0] 38 + (cA b1 [.int .i64 code, .slice q m cc] 36 + B)) s2.to
  have hzl := hrz.len
  have sB := s2.to (B := B + (cA b2 [.int .i64 0, .int .i64 0, .slice none 0 0] 38 + (cA b1 [.int .i64 code, .slice q m cc] 36 + G)))
  refine ⟨_, kb1.cell 0, condP (fun h8 => ?_) (fun h8 => ?_)⟩
  · have e : pointsS l code zs = (l, 0, (l.length : Int)) := by subst h8; rfl
    rw [MPtsP, e, hl]
    exact mboxT na s2 (mresult_ok _ _)
  have loop : code = 3 ∨ code = 4 → model_points_b1 p n c (some ⟨b1, 0, none⟩) (some ⟨b2, 0, none⟩) true h4 (MPtsP h0 G l code zs) := fun h34 => by
    have hz4 := hz4 h34
    obtain ⟨z0, z1, z2, z3, hz⟩ : ∃ z0 z1 z2 z3, zs = [z0, z1, z2, z3] := by match zs, hz4 with | [a, b, c, d], _ => exact ⟨_, _, _, _, rfl⟩
    subst hz
    obtain rfl : m = 4 := by rw [← hzl]; rfl
    rw [model_points_b1_eq]
    refine condYes rfl ⟨fun x h' => h' = h4 ∧ ∃ i : Nat, x.2.2.1 = i ∧ i ≤ n ∧ x.1 = cntB z0 z1 z2 z3 (l.take i) ∧ x.2.1 = sumB z0 z1 z2 z3 (l.take i), fun x _ => n - x.2.2.1.toNat, ⟨rfl, 0, rfl, by omega, rfl, rfl⟩, ?_⟩
    rintro ⟨_, _, _, _⟩ h5 ⟨rfl, i, rfl, hi, rfl, rfl⟩
    dsimp only
    rcases Nat.lt_or_ge i n with hlt | hge
    · exact mpoints_b2 hw na sB hl hn hrz (Blk.cellA kb1 1) hlt ⟨⟨rfl, i + 1, by push_cast; rfl, by omega, rfl, rfl⟩, by dsimp only; omega⟩
    · obtain rfl : i = n := by omega
      rw [model_points_b2_eq]
      refine condNo (decide_eq_false (by omega)) ?_
      rw [List.take_of_length_le (by omega), model_points_b5_eq]
      refine ⟨_, kb1.cell 0, condP (fun h3 => ?_) (fun h3 => ?_)⟩
      · have e : pointsS l code [z0, z1, z2, z3] = (l, 0, cntB z0 z1 z2 z3 l) := by subst h3; rfl
        rw [MPtsP, e]
        exact mboxT na s2 (mresult_ok _ _)
      · have h4' : code = 4 := by omega
        have e : pointsS l code [z0, z1, z2, z3] = (l, 0, sumB z0 z1 z2 z3 l) := by subst h4'; rfl
        rw [MPtsP, e]
        exact mboxT na s2 (mresult_ok _ _)
  refine condP (fun h3 => ?_) (fun h3 => ?_)
  · rw [decide_eq_true h3]; exact loop (.inl h3)
  by_cases h4' : code = 4
  · rw [decide_eq_true h4']; exact loop (.inr h4')
  rw [decide_eq_false h4', model_points_b1_eq]
  refine condNo rfl ?_
  exact mpoints_b3 so na hrz hmc s2 hn hl (by omega) hz1 hz2
end
end Go.Proofs.YtbfejfejahoblaaGreat

/- Layer 3's model: Apply to points. -/
set_option maxRecDepth 100000
namespace Go.Proofs.YtbfejfejahoblaaGreat
open Go Go.Sx
theorem opv5 {code : Int} {zs : List Int} (h : OpV 5 code zs) : (1 ≤ code ∧ code ≤ 5) ∧ (code = 1 → zs.length = 3) ∧ (code = 2 → zs.length = 2) ∧ (code = 3 ∨ code = 4 → zs.length = 4) ∧ ∀ z ∈ zs, KeyP z := by
  obtain ⟨h1, h2⟩ := h
  have e8 : (arT 5).length = 5 := rfl
  rw [e8] at h1
  have hc : code = 1 ∨ code = 2 ∨ code = 3 ∨ code = 4 ∨ code = 5 := by omega
  have e : (arT 5).getD (code - 1).toNat 0 = if code = 1 then 3 else if code = 2 then 2 else if code = 5 then 0 else 4 := by
    rcases hc with rfl | rfl | rfl | rfl | rfl <;> rfl
  rw [e] at h2
  have hneg : ¬ (if code = 1 then (3 : Int) else if code = 2 then 2 else if code = 5 then 0 else 4) < 0 := by
    split
    · decide
    · split
      · decide
      · split <;> decide
  rw [if_neg hneg] at h2
  refine ⟨by omega, fun h => ?_, fun h => ?_, fun h => ?_, h2.2⟩
  · have := h2.1; rw [if_pos h] at this; omega
  · have := h2.1; rw [if_neg (by omega), if_pos h] at this; omega
  · have := h2.1; rw [if_neg (by omega), if_neg (by omega), if_neg (by omega)] at this; omega
section
variable {h0 h : Hp} {l : List Pt} {p q : Option Addr} {n c m cc : Nat} {code : Int} {zs : List Int} {B G : Bag}
theorem mapply5_ok (so : PtsS l) (hw : WOk l) (na : RowsA (p, n, c) (l.map row3) B) (rz : RdS h0 G TI q m zs) (hmc : m ≤ cc) (s : St h0 h (B + G)) (hn : n < 500) (hc : 1 ≤ code ∧ code ≤ 5) (hz1 : code = 1 → zs.length = 3) (hz2 : code = 2 → zs.length = 2) (hz4 : code = 3 ∨ code = 4 → zs.length = 4) :
    HCalls Tryz.prog 23 #[.int .i64 5, .slice p n c, .agg #[.int .i64 code, .slice q m cc]] h (MPtsP h0 G l code zs) := by
  refine model_apply_call ?_
  rw [model_apply_b0_eq]
  refine s.new (cs := [.int .i64 code, .slice q m cc]) fun b1 h1' _ s1 => ?_
  refine s1.new (cs := [.int .i64 0, .int .i64 0, .slice none 0 0]) fun b2 h2 _ s2 => ?_
  have s2 : St h0 h2 (cA b2 [.int .i64 0, .int .i64 0, .slice none 0 0] 38 + (cA b1 [.int .i64 code, .slice q m cc] 36 + (B + G))) := s2
  have kb1 := s2.atomBlk
  refine condNo rfl (condNo rfl (condNo rfl (condNo rfl (condYes rfl ⟨_, _, _, _, kb1.cell 0, Blk.cellA kb1 1, ?_⟩))))
  refine (mpoints_ok so hw na (G := cA b2 [.int .i64 0, .int .i64 0, .slice none 0 0] 38 + (cA b1 [.int .i64 code, .slice q m cc] 36 + G)) (fun h' A s' => rz h' (A + (cA b2 [.int .i64 0, .int .i64 0, .slice none 0 0] 38 + cA b1 [.int .i64 code, .slice q m cc] 36)) s'.to) hmc s2.to hn hc hz1 hz2 hz4).mono fun v h3 ⟨q', m', d', B', hv, na', s3⟩ => ⟨_, _, _, _, _, _, _, _, hv, ?_⟩
  have s3 := s3.to (B := cA b2 [.int .i64 0, .int .i64 0, .slice none 0 0] 38 + (cA b1 [.int .i64 code, .slice q m cc] 36 + (B' + G)))
  exact mboxW na' s3
end
theorem mwidth5_ok (h : Hp) : HCalls Tryz.prog 51 #[.int .i64 5] h (fun v h' => v = .tuple #[.int .i64 ((3 : Nat) : Int), .int .i64 ((2 : Nat) : Int)] ∧ h' = h) := by
  refine model_width_call ?_
  rw [model_width_b0_eq]
  exact condNo rfl (condYes rfl ⟨rfl, rfl⟩)
theorem mvalid5_ok {h0 h : Hp} {p : Option Addr} {n c : Nat} {l : List Pt} {B G : Bag} (so : PtsS l) (hk : ∀ z ∈ l, vPt z = true) (hn : l.length ≤ 500) (na : RowsA (p, n, c) (l.map row3) B) (s : St h0 h (B + G)) :
    HCalls Tryz.prog 21 #[.agg #[.int .i64 5, .slice p n c]] h (fun v h' => v = .bool true ∧ Ext h h') := by
  have hv : RowsV 5 3 2 (l.map row3) := by
    refine ⟨by rw [List.length_map]; exact hn, fun r hr => ?_, fun i hi _ => .inl ?_⟩
    · obtain ⟨z, hz, rfl⟩ := List.mem_map.1 hr
      refine ⟨rfl, fun y hy => ?_⟩
      have := vPt_iff.1 (hk z hz)
      simp only [row3, List.mem_cons, List.not_mem_nil, or_false] at hy
      rcases hy with rfl | rfl | rfl
      · exact this.1
      · exact this.2.1
      · exact this.2.2
    · rw [List.length_map] at hi
      rw [row3_get (by omega), row3_get hi]
      have h1 : ptLt (l.getD i tPt.d) (l.getD (i + 1) tPt.d) := by
        rw [getD_get (by omega), getD_get hi]
        exact List.pairwise_iff_getElem.1 so i (i + 1) (by omega) hi (by omega)
      generalize l.getD i tPt.d = a at h1
      generalize l.getD (i + 1) tPt.d = b at h1
      show (if a.1 < b.1 then (-1 : Int) else if b.1 < a.1 then 1 else if a.2.1 < b.2.1 then -1 else if b.2.1 < a.2.1 then 1 else 0) < 0
      unfold ptLt at h1
      split
      · omega
      · split
        · omega
        · split
          · omega
          · omega
  refine model_Valid_call ?_
  rw [model_Valid_b0_eq]
  refine (St.start h).new (cs := [.int .i64 5, .slice p n c]) fun b1 h1 x1 s1 => ?_
  refine ⟨_, s1.blk.cell 0, condNo rfl (condNo rfl (condNo rfl ?_))⟩
  rw [model_Valid_b1_eq]
  refine condYes rfl ⟨_, _, _, _, s1.blk.cell 0, Blk.cellA s1.blk 1, ?_⟩
  exact (validRows_ok mwidth5_ok ⟨by decide, by decide⟩ hv na (s.grow s1.ext)).mono fun v h' ⟨hv, x⟩ => ⟨_, hv, rfl, s1.ext.trans x⟩
/-- What Apply leaves: a new state and a result. -/
def MApplyP (h0 : Hp) (G : Bag) (k : Int) (rows : List (List Int)) (e z : Int) (v : Value) (h' : Hp) : Prop :=
  ∃ q m d B', v = .tuple #[.agg #[.int .i64 k, .slice q m d], .agg #[.int .i64 e, .int .i64 z, .slice none 0 0], .int .i64 0] ∧ RowsA (q, m, d) rows B' ∧ St h0 h' (B' + G)
theorem apply5_ok {h0 h : Hp} {l : List Pt} {p q : Option Addr} {n c m cc : Nat} {code : Int} {zs : List Int} {B G : Bag} (so : PtsS l) (hk : ∀ z ∈ l, vPt z = true) (hn : n < 500) (na : RowsA (p, n, c) (l.map row3) B) (rz : RdT TI h q m zs) (hmc : m ≤ cc) (s : St h0 h (B + G)) (hv : OpV 5 code zs) :
    HCalls Tryz.prog 8 #[.agg #[.int .i64 5, .slice p n c], .agg #[.int .i64 code, .slice q m cc]] h (MApplyP h0 (B + G) 5 ((pointsS l code zs).1.map row3) (pointsS l code zs).2.1 (pointsS l code zs).2.2) := by
  have hl : (l.map row3).length = n := rows_len na
  rw [List.length_map] at hl
  obtain ⟨hc, hz1, hz2, hz4, _⟩ := opv5 hv
  have hw : WOk l := fun x hx => (vPt_iff.1 (hk x hx)).2.2
  refine model_Apply_call ?_
  rw [model_Apply_b0_eq]
  refine (St.start h).new (cs := [.int .i64 5, .slice p n c]) fun b1 h1' x1 s1 => ?_
  refine s1.new (cs := [.int .i64 code, .slice q m cc]) fun b2 h2 x2 s2 => ?_
  refine s2.new (cs := [.int .i64 0, .slice none 0 0]) fun b3 h3 x3 s3 => ?_
  refine s3.new (cs := [.int .i64 0, .int .i64 0, .slice none 0 0]) fun b4 h4 x4 s => ?_
  have s4 := (St.join ‹St h0 h (B + G)› s).to (B := cA b1 [.int .i64 5, .slice p n c] 31 + (cA b2 [.int .i64 code, .slice q m cc] 36 + (cA b3 [.int .i64 0, .slice none 0 0] 31 + (cA b4 [.int .i64 0, .int .i64 0, .slice none 0 0] 38 + (B + G)))))
  have x5 := s.ext
  clear s s1 s2 s3
  refine ⟨_, _, _, _, s4.blk.cell 0, Blk.cellA s4.blk 1, ?_⟩
  refine (mvalid5_ok so hk (by omega) na (s4.at B)).mono fun v5 h5 ⟨hv5, x6⟩ => ⟨_, hv5, condNo rfl ?_⟩
  have s5 := s4.grow x6
  refine ⟨_, s5.blk.cell 0, _, _, _, _, s5.atomBlk.cell 0, Blk.cellA s5.atomBlk 1, ?_⟩
  refine (mValid' (rz.ext (x5.trans x6))).mono fun v6 h6 ⟨hv6, x7⟩ => ⟨_, hv6, condNo (by rw [decide_eq_true hv]; rfl) ?_⟩
  have s6 := s5.grow x7
  have rz6 := (rz.ext (x5.trans x6)).ext x7
  clear s5 s4
  rw [model_Apply_b1_eq]
  have c1 : cell h6 ⟨b1, 0, none⟩ = some (.int .i64 5) := s6.blk.cell 0
  have c1' : cell h6 ((⟨b1, 0, none⟩ : Addr).add 1) = some (.slice p n c) := Blk.cellA s6.blk 1
  have c2 : cell h6 ⟨b2, 0, none⟩ = some (.int .i64 code) := s6.atomBlk.cell 0
  have c2' : cell h6 ((⟨b2, 0, none⟩ : Addr).add 1) = some (.slice q m cc) := Blk.cellA s6.atomBlk 1
  have cp : ∀ {h' : Hp}, Ext h6 h' → HCalls Tryz.prog 24 #[.slice p n c] h' (fun v h'' => ∃ q d B', v = .slice q n d ∧ RowsA (q, n, d) (l.map row3) B' ∧ St h' h'' B') := fun x => copied_ok na ((s6.grow x).at B) (by omega) (fun r hr => by obtain ⟨z, _, rfl⟩ := List.mem_map.1 hr; show 3 < 1000000; decide)
  have ap : ∀ {h' : Hp} {q1 : Option Addr} {d1 : Nat} {B1 G1 : Bag}, RowsA (q1, n, d1) (l.map row3) B1 → St h6 h' (B1 + G1) → HCalls Tryz.prog 23 #[.int .i64 5, .slice q1 n d1, .agg #[.int .i64 code, .slice q m cc]] h' (MPtsP h6 G1 l code zs) := fun na1 s => mapply5_ok so hw na1 (fun h' A s' => rz6.ext s'.ext) hmc s (by omega) hc hz1 hz2 hz4
  have fin : ∀ {h' : Hp} {bx : Nat} {q2 : Option Addr} {m2 d2 : Nat} {B2 : Bag}, RowsA (q2, m2, d2) ((pointsS l code zs).1.map row3) B2 → St h6 h' (cA bx [.int .i64 0, .int .i64 0, .slice none 0 0] 38 + B2) →
      Wr h' ⟨bx, 0, none⟩ (.int .i64 (pointsS l code zs).2.1) fun h20 => Wr h20 ((⟨bx, 0, none⟩ : Addr).add 1) (.int .i64 (pointsS l code zs).2.2) fun h21 => Wr h21 ((⟨bx, 0, none⟩ : Addr).add 2) (.slice none 0 0) fun h22 => model_Apply_b2 (some ⟨b1, 0, none⟩) (some ⟨b3, 0, none⟩) (some ⟨b4, 0, none⟩) q2 m2 d2 (some ⟨bx, 0, none⟩) h22 (MApplyP h0 (B + G) 5 ((pointsS l code zs).1.map row3) (pointsS l code zs).2.1 (pointsS l code zs).2.2) := by
    intro h' bx q2 m2 d2 B2 na2 s'
    refine s'.wr rfl (by simp) fun h20 s' => ?_
    refine s'.wr (o := 1) (add_mk _ _ _) (by simp) fun h21 s' => ?_
    refine s'.wr (o := 2) (add_mk _ _ _) (by simp) fun h22 s' => ?_
    have s' : St h6 h22 (cA bx [.int .i64 (pointsS l code zs).2.1, .int .i64 (pointsS l code zs).2.2, .slice none 0 0] 38 + B2) := s'
    rw [model_Apply_b2_eq]
    have cx := s'.blk
    have s := (s6.join s').to (B := cA b3 [.int .i64 0, .slice none 0 0] 31 + (cA b4 [.int .i64 0, .int .i64 0, .slice none 0 0] 38 + (cA bx [.int .i64 (pointsS l code zs).2.1, .int .i64 (pointsS l code zs).2.2, .slice none 0 0] 38 + (cA b1 [.int .i64 5, .slice p n c] 31 + (cA b2 [.int .i64 code, .slice q m cc] 36 + (B2 + (B + G)))))))
    refine ⟨_, s'.ext.cell c1, _, _, _, _, _, cx.cell 0, Blk.cellA cx 1, Blk.cellA cx 2, ?_⟩
    refine s.wr rfl (by simp) fun h23 s => ?_
    refine s.wr (o := 1) (add_mk _ _ _) (by simp) fun h24 s => ?_
    have s : St h0 h24 (cA b3 [.int .i64 5, .slice q2 m2 d2] 31 + (cA b4 [.int .i64 0, .int .i64 0, .slice none 0 0] 38 + (cA bx [.int .i64 (pointsS l code zs).2.1, .int .i64 (pointsS l code zs).2.2, .slice none 0 0] 38 + (cA b1 [.int .i64 5, .slice p n c] 31 + (cA b2 [.int .i64 code, .slice q m cc] 36 + (B2 + (B + G))))))) := s
    have cx := (s.to (B := cA bx [.int .i64 (pointsS l code zs).2.1, .int .i64 (pointsS l code zs).2.2, .slice none 0 0] 38 + (cA b4 [.int .i64 0, .int .i64 0, .slice none 0 0] 38 + (cA b3 [.int .i64 5, .slice q2 m2 d2] 31 + (cA b1 [.int .i64 5, .slice p n c] 31 + (cA b2 [.int .i64 code, .slice q m cc] 36 + (B2 + (B + G)))))))).blk
    refine ⟨⟨_, _, _, _, _, cx.cell 0, Blk.cellA cx 1, Blk.cellA cx 2, rfl⟩, ?_⟩
    have s := s.to (B := cA b4 [.int .i64 0, .int .i64 0, .slice none 0 0] 38 + (cA b3 [.int .i64 5, .slice q2 m2 d2] 31 + (cA bx [.int .i64 (pointsS l code zs).2.1, .int .i64 (pointsS l code zs).2.2, .slice none 0 0] 38 + (cA b1 [.int .i64 5, .slice p n c] 31 + (cA b2 [.int .i64 code, .slice q m cc] 36 + (B2 + (B + G)))))))
    refine s.wr rfl (by simp) fun h25 s => ?_
    refine s.wr (o := 1) (add_mk _ _ _) (by simp) fun h26 s => ?_
    refine s.wr (o := 2) (add_mk _ _ _) (by simp) fun h27 s => ?_
    have s : St h0 h27 (cA b4 [.int .i64 (pointsS l code zs).2.1, .int .i64 (pointsS l code zs).2.2, .slice none 0 0] 38 + (cA b3 [.int .i64 5, .slice q2 m2 d2] 31 + (cA bx [.int .i64 (pointsS l code zs).2.1, .int .i64 (pointsS l code zs).2.2, .slice none 0 0] 38 + (cA b1 [.int .i64 5, .slice p n c] 31 + (cA b2 [.int .i64 code, .slice q m cc] 36 + (B2 + (B + G))))))) := s
    refine ⟨_, _, _, _, s.atomBlk.cell 0, Blk.cellA s.atomBlk 1, _, _, _, _, _, s.blk.cell 0, Blk.cellA s.blk 1, Blk.cellA s.blk 2, q2, m2, d2, B2, rfl, na2, s.drop.drop.drop.drop.drop⟩
  refine ⟨_, c1, _, _, _, c1', _, _, _, _, c2, c2', ?_⟩
  have s := St.start h6
  repeat' first
    | (with_reducible refine fin na2 ?_); exact s.to
    | (with_reducible refine St.new s (cs := [.int .i64 0, .int .i64 0, .slice none 0 0]) ?_); intro _ _ _ s
    | (with_reducible refine HCalls.mono (cp s.ext) ?_); rintro _ _ ⟨q1, d1, B1, hv1, na1, tt⟩; refine ⟨_, _, _, hv1, ?_⟩; have s := s.join tt; clear tt
    | (with_reducible refine HCalls.mono (ap na1 (s.at _)) ?_); rintro _ _ ⟨q2, m2, d2, B2, hv2, na2, s⟩; refine ⟨_, _, _, _, _, _, _, _, hv2, ?_⟩
    | with_reducible refine ⟨⟨_, _, _, _, s.ext.cell c2, s.ext.cell c2', rfl⟩, ?_⟩
    | with_reducible refine ⟨⟨_, s.ext.cell c1, rfl⟩, ?_⟩
    | with_reducible refine ⟨⟨_, _, _, s.ext.cell c1', rfl⟩, ?_⟩
    | with_reducible refine And.intro ?_ ?_
end Go.Proofs.YtbfejfejahoblaaGreat

/- The law: a tree and the model agree. -/
set_option maxRecDepth 100000
namespace Go.Proofs.YtbfejfejahoblaaGreat
open Go Go.Sx
abbrev exP : List Pt := [(3, 7, -1), (1, 5, 2), (3, 1, 4)]
theorem Awake_r (h : Hp) : HCalls Tryz.prog 4 #[] h (fun v h' => Ext h h' ∧ v = .bool true) := by
  refine l31_awake_call ?_
  rw [l31_awake_b0_eq]
  refine (St.start h).new (cs := [_, _, _, _, _, _, _, _, _]) fun b h1 x1 s => ?_
  have o : Sl tPt (some ⟨b, 0, none⟩) 3 3 exP (cA b [.int .i64 3, .int .i64 7, .int .i64 (-1), .int .i64 1, .int .i64 5, .int .i64 2, .int .i64 3, .int .i64 1, .int .i64 4] 43) := Sl.of_blk (T := tPt) (n := 3) (xs := exP) rfl (cs := [.int .i64 3, .int .i64 7, .int .i64 (-1), .int .i64 1, .int .i64 5, .int .i64 2, .int .i64 3, .int .i64 1, .int .i64 4]) rfl
  refine (Make_s (o.rd s) (by decide)).mono fun v h2 hv => ?_
  rw [if_neg (by decide), if_neg (by decide), if_neg (by decide)] at hv
  obtain ⟨tb, A, rfl, a, st⟩ := hv
  have e : madeL exP = [(1, 5, 2), (3, 1, 4), (3, 7, -1)] := by decide
  rw [e] at a
  refine ⟨_, _, rfl, condNo rfl (condNo rfl ?_)⟩
  rw [l31_awake_b1_eq]
  have s := s.join st
  refine (Count_s a s 1 3 1 5).mono fun v h3 ⟨x3, hv⟩ => ⟨_, _, hv, ?_⟩
  have s := s.grow x3
  refine (Sum_s a s 0 9 0 9).mono fun v h4 ⟨x4, hv⟩ => ⟨_, _, hv, ?_⟩
  have s := s.grow x4
  refine (Leftmost_s a s 2 2 9).mono fun v h5 ⟨s, hv⟩ => ?_
  have ef : [(1, 5, 2), (3, 1, 4), ((3, 7, -1) : Pt)].find? (fun p => decide (2 ≤ p.1 ∧ 2 ≤ p.2.1 ∧ p.2.1 ≤ 9)) = some (3, 7, -1) := by decide
  rw [ef] at hv
  refine ⟨_, _, _, _, hv, s.new (cs := [_, _, _]) fun b2 h6 x6 s => ?_⟩
  refine s.wr3 fun h7 s => ?_
  refine (Len_s (F := cA b2 _ _ + _) a (s.at A)).mono fun v h8 ⟨hh, hv⟩ => ⟨_, hv, ?_⟩
  subst hh
  refine condYes rfl (condYes (by decide) (condYes rfl (condYes (by decide) (condYes rfl ⟨_, _, _, s.ld0, s.ldB, s.ldB, _, eql_pt (3, 7, -1) (3, 7, -1), condYes (by decide) ⟨s.ext, rfl⟩⟩))))
theorem points_fact {l : List Pt} {c : Int} {zs : List Int} (so : PtsS l) (hk : ∀ x ∈ l, vPt x = true) (hv : OpV 5 c zs) : PtsS (pointsS l c zs).1 ∧ (∀ x ∈ (pointsS l c zs).1, vPt x = true) ∧ (pointsS l c zs).1.length ≤ l.length + 1 := by
  obtain ⟨hc, hz1, hz2, hz4, hz⟩ := opv5 hv
  unfold pointsS
  split
  · exact ⟨so, hk, Nat.le_succ _⟩
  split
  · exact ⟨so, hk, Nat.le_succ _⟩
  split
  · exact ⟨so, hk, Nat.le_succ _⟩
  split
  · rename_i hc1
    split
    · exact ⟨so, hk, Nat.le_succ _⟩
    · rename_i hm
      refine ⟨insPt_S so hm, fun x hx => ?_, by rw [insPt_len]; omega⟩
      rcases mem_ins.1 hx with rfl | hx
      · have h3 := list3 (hz1 hc1)
        rw [h3] at hz
        exact vPt_iff.2 ⟨hz _ (by simp), hz _ (by simp), hz _ (by simp)⟩
      · exact hk x hx
  · split
    · exact ⟨List.Pairwise.filter _ so, fun x hx => hk x (List.mem_filter.1 hx).1, Nat.le_trans (List.length_filter_le _ _) (by omega)⟩
    · exact ⟨so, hk, Nat.le_succ _⟩
theorem at5 {h0 h : Hp} {B C D E F5 G5 : Bag} (s : St h0 h B) (A M N O Q : Bag) [x : Bag.Sub A B C] [y : Bag.Sub M C D] [z : Bag.Sub N D E] [v : Bag.Sub O E F5] [w : Bag.Sub Q F5 G5] : St h0 h (A + (M + (N + (O + (Q + G5))))) := by
  have h1 := x.eq
  have h2 := y.eq
  have h3 := z.eq
  have h4 := v.eq
  have h5 := w.eq
  rw [h1, h2, h3, h4, h5] at s
  exact s
theorem mtail {h0 h : Hp} {tb b1 b3 b4 i n c : Nat} {p : Option Addr} {q q' : Option Addr} {m d m' d' : Nat} {e z e' z' : Int} {A B X : Bag} {nx0 : Int × Unit → Hp → Prop} {K : Value → Hp → Prop} (hi : i < 100)
    (s : St h0 h (A + (B + (cA b1 [.int .i64 5, .slice q m d] 31 + (cA b3 [.int .i64 5, .slice q' m' d'] 31 + (cA b4 [.int .i64 e, .int .i64 z, .slice none 0 0] 38 + X)))))) (he : e' = e) (hz : z' = z)
    (hnx : ∀ h', St h0 h' (A + (B + (cA b1 [.int .i64 5, .slice q' m' d'] 31 + (cA b3 [.int .i64 5, .slice q' m' d'] 31 + (cA b4 [.int .i64 e, .int .i64 z, .slice none 0 0] 38 + X))))) → nx0 ((i : Int) + 1, ()) h') :
    l31_RangetreeModel_b4 (some ⟨tb, 0, none⟩) (some ⟨b1, 0, none⟩) (some ⟨b3, 0, none⟩) (some ⟨b4, 0, none⟩) 0 z' e' p n c n i h nx0 K := by
  subst he hz
  rw [l31_RangetreeModel_b4_eq]
  refine condNo rfl ⟨_, s.ld0, condNo (by rw [decide_eq_true rfl]; rfl) ⟨_, s.ldB, condNo (by rw [decide_eq_true rfl]; rfl) ?_⟩⟩
  rw [l31_RangetreeModel_b6_eq]
  refine ⟨_, _, _, _, s.ld0, s.ldB, ?_⟩
  refine s.find b1 |>.wr2c fun h' s => ?_
  rw [l31_RangetreeModel_b7_eq]
  exact ⟨⟨by omega, by omega⟩, hnx _ s.to⟩
/-- One operation. -/
theorem mstep {h0 h : Hp} {tb b1 i n c u b' : Nat} {p q : Option Addr} {m d : Nat} {l : List Pt} {A B X : Bag} {ops : List OpL} {nx0 : Int × Unit → Hp → Prop} {P : Value → Hp → Prop} (hn : n ≤ 40) (hi : i < n) (hu : u ≤ 100) (hll : l.length ≤ 100) (r : OpsR h0 p n ops) (hv : AllV 5 ops)
    (a : TreeS tb l 0 u b' A) (na : RowsA (q, m, d) (l.map row3) B) (s : St h0 h (A + (B + (cA b1 [.int .i64 5, .slice q m d] 31 + X))))
    (hnx : ∀ (l' : List Pt) (u' b'' : Nat) (q' : Option Addr) (m' d' : Nat) (A' B' X' : Bag) h', l'.length ≤ l.length + 1 → u' ≤ u + 1 → TreeS tb l' 0 u' b'' A' → RowsA (q', m', d') (l'.map row3) B' → St h0 h' (A' + (B' + (cA b1 [.int .i64 5, .slice q' m' d'] 31 + X'))) → nx0 ((i : Int) + 1, ()) h') :
    l31_RangetreeModel_b3 i (some ⟨tb, 0, none⟩) (some ⟨b1, 0, none⟩) p n c n h nx0 P := by
  have hlen := r.len
  have hmm : (l.map row3).length = m := rows_len na
  rw [List.length_map] at hmm
  rw [l31_RangetreeModel_b3_eq]
  refine condYes (decide_eq_true (by omega)) (r.at_ s.ext (by omega) (by omega) fun q1 m1 d1 hmd rz => ?_)
  rw [Int.toNat_natCast] at rz ⊢
  have hov := hv _ (getD_mem (l := ops) (i := i) (d := (0, [])) (by omega))
  generalize ops.getD i (0, []) = op at rz hov ⊢
  obtain ⟨code, zs⟩ := op
  dsimp only at rz hov ⊢
  obtain ⟨hc, hz1, hz2, hz4, hzk⟩ := opv5 hov
  have hzl := rz.len
  have hfact := (points_fact a.sorted a.val hov).2.2
  refine s.new (cs := [_, _]) fun b2 h1 _ s => s.wr2c fun h2 s => ?_
  refine ⟨_, _, _, _, s.ld0, s.ldB, _, _, _, _, s.ld0, s.ldB, ?_⟩
  refine (apply5_ok a.sorted a.val (by omega) na (rz.ext s.ext) hmd (s.at B) hov).mono fun v h3 ⟨q', m', d', B', hv8, na', s⟩ => ⟨_, _, _, _, _, _, _, _, _, _, hv8, ?_⟩
  refine s.new (cs := [_, _]) fun b3 h4 _ s => s.new (cs := [_, _, _]) fun b4 h5 _ s => s.wr2c fun h6 s => s.wr3 fun h7 s => ?_
  refine ⟨_, _, _, s.ldB, _, s.ld0, ?_⟩
  have s := at5 s A B' (cA b1 [.int .i64 5, .slice q m d] 31) (cA b3 [.int .i64 5, .slice q' m' d'] 31) (cA b4 [.int .i64 (pointsS l code zs).2.1, .int .i64 (pointsS l code zs).2.2, .slice none 0 0] 38)
  have r7 := rz.ext s.ext
  refine condP (fun h1 => ?_) (fun h1 => condP (fun h2 => ?_) (fun h2 => condP (fun h3 => ?_) (fun h3 => condP (fun h4 => ?_) (fun h4 => ?_))))
  · have hz := hz1 h1
    refine ldI (i' := 0) r7 rfl (by omega) (ldI (i' := 1) r7 rfl (by omega) (ldI (i' := 2) r7 rfl (by omega) ?_))
    have hvp : vPt (zs.getD 0 0, zs.getD 1 0, zs.getD 2 0) = true := by
      rw [list3 hz] at hzk
      exact vPt_iff.2 ⟨hzk _ (by simp), hzk _ (by simp), hzk _ (by simp)⟩
    refine (Add_s a s (by decide) (by omega) (zs.getD 0 0, zs.getD 1 0, zs.getD 2 0)).mono fun v h8 hv => ?_
    rw [if_neg (by rw [hvp]; decide)] at hv
    by_cases hm : (zs.getD 0 0, zs.getD 1 0) ∈ l.map place
    · have e : pointsS l code zs = (l, 15, 0) := by subst h1; exact if_pos hm
      have hm' : place (zs.getD 0 0, zs.getD 1 0, zs.getD 2 0) ∈ l.map place := hm
      rw [if_pos hm'] at hv
      obtain ⟨hv, s⟩ := hv
      rw [e] at na' s hfact
      exact ⟨_, hv, mtail (by omega) s rfl rfl fun h' s => hnx l u b' q' m' d' A B' _ h' hfact (Nat.le_succ _) a na' s⟩
    · have e : pointsS l code zs = (insPt (zs.getD 0 0, zs.getD 1 0, zs.getD 2 0) l, 0, 0) := by subst h1; exact if_neg hm
      have hm' : place (zs.getD 0 0, zs.getD 1 0, zs.getD 2 0) ∉ l.map place := hm
      rw [if_neg hm', if_neg (by omega)] at hv
      obtain ⟨hv, b'', A', _, a', s⟩ := hv
      rw [e] at na' s hfact
      exact ⟨_, hv, mtail (by omega) s rfl rfl fun h' s => hnx _ (u + 1) b'' q' m' d' A' B' _ h' hfact (Nat.le_refl _) a' na' s⟩
  · have hz := hz2 h2
    refine ldI (i' := 0) r7 rfl (by omega) (ldI (i' := 0) r7 rfl (by omega) (ldI (i' := 1) r7 rfl (by omega) (ldI (i' := 1) r7 rfl (by omega) ?_)))
    refine (Sum_s a s (zs.getD 0 0) (zs.getD 0 0) (zs.getD 1 0) (zs.getD 1 0)).mono fun v h8 ⟨x8, hv8⟩ => ⟨_, _, hv8, ?_⟩
    have s := s.grow x8
    have r8 := r7.ext x8
    refine ldI (i' := 0) r8 rfl (by omega) (ldI (i' := 1) r8 rfl (by omega) ?_)
    refine (Remove_s a s (by decide) (by omega) (zs.getD 0 0) (zs.getD 1 0)).mono fun v h9 hv => ?_
    by_cases hm : (zs.getD 0 0, zs.getD 1 0) ∈ l.map place
    · have e : pointsS l code zs = (l.filter (fun p => decide (place p ≠ (zs.getD 0 0, zs.getD 1 0))), 0, sumB (zs.getD 0 0) (zs.getD 0 0) (zs.getD 1 0) (zs.getD 1 0) l) := by subst h2; exact if_pos hm
      rw [if_pos hm] at hv
      obtain ⟨hv, b'', A', _, a', s⟩ := hv
      rw [e] at na' s hfact
      exact ⟨_, hv, mtail (by omega) s rfl rfl fun h' s => hnx _ (u + 1) b'' q' m' d' A' B' _ h' hfact (Nat.le_refl _) a' na' s⟩
    · have e : pointsS l code zs = (l, 12, 0) := by subst h2; exact if_neg hm
      rw [if_neg hm] at hv
      obtain ⟨hv, rfl⟩ := hv
      rw [e] at na' s hfact
      refine ⟨_, hv, mtail (by omega) s rfl ?_ fun h' s => hnx l u b' q' m' d' A B' _ h' hfact (Nat.le_succ _) a na' s⟩
      unfold sumB
      rw [List.filter_eq_nil_iff.2]
      · rfl
      · intro q hq hc
        exact hm (mem_place.2 ⟨q, hq, inB_one.1 hc⟩)
  · have hz := hz4 (.inl h3)
    have e : pointsS l code zs = (l, 0, cntB (zs.getD 0 0) (zs.getD 1 0) (zs.getD 2 0) (zs.getD 3 0) l) := by subst h3; rfl
    rw [e] at na' s hfact
    refine ldI (i' := 0) r7 rfl (by omega) (ldI (i' := 1) r7 rfl (by omega) (ldI (i' := 2) r7 rfl (by omega) (ldI (i' := 3) r7 rfl (by omega) ?_)))
    refine (Count_s a s _ _ _ _).mono fun v h8 ⟨x8, hv⟩ => ⟨_, _, hv, mtail (by omega) (s.grow x8) rfl rfl fun h' s => hnx l u b' q' m' d' A B' _ h' hfact (Nat.le_succ _) a na' s⟩
  · have hz := hz4 (.inr h4)
    have e : pointsS l code zs = (l, 0, sumB (zs.getD 0 0) (zs.getD 1 0) (zs.getD 2 0) (zs.getD 3 0) l) := by subst h4; rfl
    rw [e] at na' s hfact
    refine ldI (i' := 0) r7 rfl (by omega) (ldI (i' := 1) r7 rfl (by omega) (ldI (i' := 2) r7 rfl (by omega) (ldI (i' := 3) r7 rfl (by omega) ?_)))
    refine (Sum_s a s _ _ _ _).mono fun v h8 ⟨x8, hv⟩ => ⟨_, _, hv, mtail (by omega) (s.grow x8) rfl rfl fun h' s => hnx l u b' q' m' d' A B' _ h' hfact (Nat.le_succ _) a na' s⟩
  · have h5 : code = 5 := by omega
    have e : pointsS l code zs = (l, 0, (l.length : Int)) := by subst h5; rfl
    rw [e] at na' s hfact
    refine (Len_s a s).mono fun v h8 ⟨hh, hv⟩ => ⟨_, hv, ?_⟩
    subst hh
    exact mtail (by omega) s rfl rfl fun h' s => hnx l u b' q' m' d' A B' _ h' hfact (Nat.le_succ _) a na' s
theorem model_law {h : Hp} {p : Option Addr} {n c : Nat} {ops : List OpL} (r : OpsR h p n ops) :
    HCalls Tryz.prog 3 #[.slice p n c] h (fun v h' => v = .bool true ∧ Ext h h') := by
  have hlen := r.len
  refine l31_RangetreeModel_call ?_
  rw [l31_RangetreeModel_b0_eq]
  refine (Awake_r h).mono fun v1 h1 ⟨x1, hv1⟩ => ⟨_, hv1, condNo rfl ?_⟩
  refine condP (fun hmany => ?_) (fun hmany => ?_)
  · exact (Awake_r h1).mono fun v2 h2 ⟨x2, hv2⟩ => ⟨_, hv2, rfl, x1.trans x2⟩
  refine (validAll_ok (k := 5) (r.ext x1) (by omega)).mono fun v3 h3 ⟨hv3, x3⟩ => ⟨_, hv3, condN (fun hno => ?_) (fun hv => ?_)⟩
  · exact (Awake_r h3).mono fun v2 h2 ⟨x2, hv2⟩ => ⟨_, hv2, rfl, (x1.trans x3).trans x2⟩
  rw [l31_RangetreeModel_b1_eq]
  refine (Make_s (RdT.nil (T := tPt) h3 none) (by decide)).mono fun v4 h4 hv4 => ?_
  rw [if_neg (by decide), if_neg (by decide), if_neg (by decide)] at hv4
  obtain ⟨tb, A, hv4, a, st⟩ := hv4
  have s := (((St.start h).grow x1).grow x3).join st
  refine ⟨_, _, hv4, (mnew_ok (k := 5) (by decide) h4).mono fun v5 h5 ⟨hv5, x5⟩ => ⟨_, _, _, _, _, hv5, ?_⟩⟩
  have s := s.grow x5
  refine s.new (cs := [_, _]) fun b1 h6 _ s => s.wr2c fun h7 s => ?_
  refine condNo rfl (condNo rfl (condNo rfl ?_))
  rw [l31_RangetreeModel_b2_eq]
  refine ⟨fun st h' => ∃ (i u b' : Nat) (l : List Pt) (q : Option Addr) (m d : Nat) (A B X : Bag), st.1 = i ∧ i ≤ n ∧ u ≤ i ∧ l.length ≤ i ∧ TreeS tb l 0 u b' A ∧ RowsA (q, m, d) (l.map row3) B ∧ St h h' (A + (B + (cA b1 [.int .i64 5, .slice q m d] 31 + X))), fun st _ => n - st.1.toNat, ⟨0, 0, 0, [], none, 0, 0, A, 0, 0, rfl, by omega, Nat.le_refl _, Nat.le_refl _, a, Nest.nil, ?_⟩, ?_⟩
  · rw [Bag.zero_add]; exact s.to
  clear a s st
  rintro ⟨_, _⟩ h12 ⟨i, u, b', l, q, m, d, A, B, X, rfl, hin, hu, hl, a, na, s⟩
  dsimp only
  rcases Nat.lt_or_ge i n with hlt | hge
  · exact mstep (by omega) hlt (by omega) (by omega) r hv a na s fun l' u' b'' q' m' d' A' B' X' h' hl' hu' a' na' s' => ⟨⟨i + 1, u', b'', l', q', m', d', A', B', X', by push_cast; rfl, by omega, by omega, by omega, a', na', s'⟩, by dsimp only; omega⟩
  · obtain rfl : i = n := by omega
    have hmm : (l.map row3).length = m := rows_len na
    rw [List.length_map] at hmm
    rw [l31_RangetreeModel_b3_eq]
    refine condNo (decide_eq_false (by omega)) ?_
    rw [l31_RangetreeModel_b5_eq]
    refine ⟨(l.length : Int), (Len_s a s).mono fun v h8 ⟨hh, hv⟩ => ⟨hv, hh⟩, _, _, _, s.ldB, ?_, s.ext⟩
    rw [hmm, decide_eq_true rfl]
theorem model_law' {h : Hp} {p : Option Addr} {n c : Nat} {l : List OpT} (r : RdT tO h p n l) (hz : ∀ x ∈ l, x.2.2.1 ≤ x.2.2.2 ∧ ∃ zs, RdT TI h x.2.1 x.2.2.1 zs) :
    HCalls Tryz.prog 3 #[.slice p n c] h (fun v h' => v = .bool true ∧ Ext h h') := by
  obtain ⟨_, hr⟩ := OpsR.mk' r hz
  exact model_law hr
end Go.Proofs.YtbfejfejahoblaaGreat
