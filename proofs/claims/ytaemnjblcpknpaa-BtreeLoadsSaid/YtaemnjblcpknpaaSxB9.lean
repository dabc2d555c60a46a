/- B-trees: a function is called for all entries. -/
import Derived.Test.YtaemnjblcpknpaaSxB8
set_option maxRecDepth 100000
namespace Go.Proofs.Ytaemnjblcpknpaa
open Go Go.Sx
section
variable {σ : Type}
/-- A function is called for entries, as long as it says so. -/
def runW (st : σ → E → σ × Bool) : σ → List E → σ × Bool
  | s, [] => (s, true)
  | s, e :: es => match st s e with
    | (s', true) => runW st s' es
    | (s', false) => (s', false)
theorem runW_app (st : σ → E → σ × Bool) : ∀ (a b : List E) (s : σ), runW st s (a ++ b) = match runW st s a with | (s', true) => runW st s' b | (s', false) => (s', false)
  | [], b, s => rfl
  | e :: a, b, s => by
    simp only [List.cons_append, runW]
    rcases st s e with ⟨s', _ | _⟩
    · rfl
    · exact runW_app st a b s'
theorem runW_true {st : σ → E → σ × Bool} {a b : List E} {s s' : σ} (h : runW st s a = (s', true)) : runW st s (a ++ b) = runW st s' b := by rw [runW_app, h]
theorem runW_false {st : σ → E → σ × Bool} {a b : List E} {s s' : σ} (h : runW st s a = (s', false)) : runW st s (a ++ b) = (s', false) := by rw [runW_app, h]
def pre : Nat → BT → Nat → List E
  | 0, t, i => t.es.take i
  | n + 1, t, i => wL ((t.ts.take i).map (flat n)) (t.es.take i)
abbrev nilT : BT := .nd [] []
theorem pre_succ {n : Nat} {t : BT} {i : Nat} (hl : t.ts.length = t.es.length + 1) (hi : i < t.es.length) : pre (n + 1) t (i + 1) = pre (n + 1) t i ++ (flat n (t.ts.getD i nilT) ++ [t.es.getD i (0, 0)]) := by
  have h1 : i < t.ts.length := by omega
  have e1 : t.ts.take (i + 1) = t.ts.take i ++ [t.ts.getD i nilT] := by
    rw [List.take_succ_eq_append_getElem h1]; simp [List.getD, h1]
  have e2 : t.es.take (i + 1) = t.es.take i ++ [t.es.getD i (0, 0)] := by
    rw [List.take_succ_eq_append_getElem hi]; simp [List.getD, hi]
  simp only [pre]
  rw [e1, e2, List.map_append, wL_append _ _ _ _ (by rw [List.length_map, List.length_take, List.length_take]; omega)]
  simp [wL]
theorem pre_last {n : Nat} {t : BT} (hl : t.ts.length = t.es.length + 1) : flat (n + 1) t = pre (n + 1) t t.es.length ++ flat n (t.ts.getD t.es.length nilT) := by
  have h1 : t.es.length < t.ts.length := by omega
  have e1 : t.ts = t.ts.take t.es.length ++ [t.ts.getD t.es.length nilT] := by
    have : t.ts.getD t.es.length nilT = t.ts[t.es.length] := by simp [List.getD, h1]
    rw [this, ← List.take_succ_eq_append_getElem h1, List.take_of_length_le (by omega)]
  show weave (t.ts.map (flat n)) t.es = wL _ (t.es.take t.es.length) ++ _
  conv => lhs; rw [e1]
  rw [List.map_append, List.take_of_length_le (Nat.le_refl _)]
  have := weave_at ((t.ts.take t.es.length).map (flat n)) t.es (flat n (t.ts.getD t.es.length nilT)) [] [] (by rw [List.length_map, List.length_take]; omega)
  rw [List.append_nil] at this
  rw [show List.map (flat n) [t.ts.getD t.es.length nilT] = [flat n (t.ts.getD t.es.length nilT)] from rfl, this]
  simp [wR]
theorem pre_mid {n : Nat} {t : BT} {i : Nat} (hl : t.ts.length = t.es.length + 1) (hi : i < t.es.length) : ∃ rest, flat (n + 1) t = pre (n + 1) t i ++ (flat n (t.ts.getD i nilT) ++ (t.es.getD i (0, 0) :: rest)) := by
  have h1 : i < t.ts.length := by omega
  have e1 : t.ts = t.ts.take i ++ t.ts.getD i nilT :: t.ts.drop (i + 1) := by
    have : t.ts.getD i nilT = t.ts[i] := by simp [List.getD, h1]
    rw [this, ← List.drop_eq_getElem_cons h1, List.take_append_drop]
  have e2 : t.es = t.es.take i ++ t.es.getD i (0, 0) :: t.es.drop (i + 1) := by
    have : t.es.getD i (0, 0) = t.es[i] := by simp [List.getD, hi]
    rw [this, ← List.drop_eq_getElem_cons hi, List.take_append_drop]
  obtain ⟨k, kR, hk⟩ : ∃ k kR, t.ts.drop (i + 1) = k :: kR := by
    cases h : t.ts.drop (i + 1) with
    | nil => have := congrArg List.length h; rw [List.length_drop] at this; simp at this; omega
    | cons k kR => exact ⟨k, kR, rfl⟩
  rw [hk] at e1
  have := weave_at ((t.ts.take i).map (flat n)) (t.es.take i) (flat n (t.ts.getD i nilT)) ((k :: kR).map (flat n)) (t.es.getD i (0, 0) :: t.es.drop (i + 1)) (by rw [List.length_map, List.length_take, List.length_take]; omega)
  refine ⟨flat n k ++ wR (t.es.drop (i + 1)) (kR.map (flat n)), ?_⟩
  show weave (t.ts.map (flat n)) t.es = _
  conv => lhs; rw [e1, e2]
  rw [List.map_append, List.map_cons, this]
  rfl
/-- What is called for each entry. -/
def Fun1 (h0 : Hp) (g : Nat) (cap : Array Value) (st : σ → E → σ × Bool) (Inv : σ → Bag → Prop) (Ok : σ → Prop) : Prop :=
  ∀ (s : σ) (C : Bag) (h : Hp) (e : E) (G : Bag), Ok s → Inv s C → St h0 h (C + G) → HCalls Try.prog g (([.int .i64 e.1, .int .i64 e.2] : List Value) ++ cap.toList).toArray h (fun v h' => ∃ C', v = .bool (st s e).2 ∧ Inv (st s e).1 C' ∧ St h0 h' (C' + G))
theorem runW_ok {st : σ → E → σ × Bool} {Ok : σ → Prop} (hok : ∀ s e, Ok s → (st s e).2 = true → Ok (st s e).1) : ∀ (l : List E) (s s' : σ), Ok s → runW st s l = (s', true) → Ok s'
  | [], s, s', h, hr => by cases hr; exact h
  | e :: l, s, s', h, hr => by
    simp only [runW] at hr
    have := hok s e h
    rcases hst : st s e with ⟨s2, _ | _⟩
    · rw [hst] at hr; cases hr
    · rw [hst] at hr this; exact runW_ok hok l s2 s' (this rfl) hr
theorem walk_ok {h0 : Hp} {g : Nat} {cap : Array Value} {st : σ → E → σ × Bool} {Inv : σ → Bag → Prop} {Ok : σ → Prop} (hok : ∀ s e, Ok s → (st s e).2 = true → Ok (st s e).1) (hg : F g = true) (hf : Fun1 h0 g cap st Inv Ok) {lo hi : Nat} (hhi : hi ≤ 1000) :
    ∀ (n : Nat) {b : Nat} {t : BT} {A : Bag} {s : σ} {C : Bag} {h : Hp} {G : Bag}, Hold n b t A → Sz lo hi n t → Ok s → Inv s C → St h0 h (A + (C + G)) →
      HCalls Try.prog 36 #[ptr b, .func (.func g) #[] cap] h (fun v h' => ∃ C', v = .bool (runW st s (flat n t)).2 ∧ Inv (runW st s (flat n t)).1 C' ∧ St h0 h' (A + (C' + G))) := by
  intro n
  induction n with
  | zero =>
    intro b t A s C h G hh hz hos hi0 hs
    obtain ⟨ht, hna⟩ := hh
    have hna0 := hna
    obtain ⟨p1, p2, p3, c1, c2, c3, C1, C2, C3, rfl, ns⟩ := hna
    have hze := hz.here
    refine btree_node_walk_call ?_
    rw [btree_node_walk_b0_eq]
    refine condNo rfl ⟨_, _, _, (hs.at (nodeC b t.es.length ([] : List Nat).length p1 p2 p3 c1 c2 c3)).cell 0, ?_⟩
    refine ⟨fun x h' => ∃ (i : Nat) (s' : σ) (C' : Bag), x.1 = i ∧ i ≤ t.es.length ∧ runW st s (t.es.take i) = (s', true) ∧ Inv s' C' ∧ St h0 h' (nodeC b t.es.length ([] : List Nat).length p1 p2 p3 c1 c2 c3 + (C1 + (C2 + C3)) + (C' + G)), fun x _ => t.es.length - x.1.toNat, ⟨0, s, C, rfl, by omega, rfl, hi0, hs⟩, ?_⟩
    rintro ⟨_, _⟩ h1 ⟨i, s1, D, rfl, hil, hrun, hi1, hs1⟩
    dsimp only
    rw [btree_node_walk_b1_eq]
    have k1 := (hs1.at (nodeC b t.es.length ([] : List Nat).length p1 p2 p3 c1 c2 c3))
    refine condP (fun hlt => ?_) (fun hge => ?_)
    · have hlt' : i < t.es.length := by omega
      refine (ns.s1.rd (hs1.at C1)).int (by omega) (by omega) ?_
      rw [Int.toNat_natCast]
      refine (leaf_ok hs1 hna0).mono fun v1 h2 ⟨hh2, hv1⟩ => ?_
      subst hh2
      refine ⟨_, hv1, condNo rfl ⟨_, _, _, k1.cellA 1, (ns.s2.rd (hs1.at C2)).int (by omega) (by omega) ?_⟩⟩
      rw [Int.toNat_natCast]
      show callX Try.prog F g _ _ _
      refine callX_of hg ?_
      have hg1 : (t.es.map Prod.fst).getD i 0 = (t.es.getD i (0, 0)).1 := by simp [List.getD, hlt']
      have hg2 : (t.es.map Prod.snd).getD i 0 = (t.es.getD i (0, 0)).2 := by simp [List.getD, hlt']
      rw [hg1, hg2]
      have e2 : t.es.take (i + 1) = t.es.take i ++ [t.es.getD i (0, 0)] := by
        rw [List.take_succ_eq_append_getElem hlt']; simp [List.getD, hlt']
      have e3 : t.es = t.es.take i ++ ([t.es.getD i (0, 0)] ++ t.es.drop (i + 1)) := by rw [← List.append_assoc, ← e2, List.take_append_drop]
      refine (hf s1 D h2 (t.es.getD i (0, 0)) (nodeC b t.es.length ([] : List Nat).length p1 p2 p3 c1 c2 c3 + (C1 + (C2 + C3)) + G) (runW_ok hok _ _ _ hos hrun) hi1 (hs1.to (B := D + (nodeC b t.es.length ([] : List Nat).length p1 p2 p3 c1 c2 c3 + (C1 + (C2 + C3)) + G)))).mono fun v3 h3 ⟨D', hv3, hi3, hs3⟩ => ?_
      have hs3 := hs3.to (B := nodeC b t.es.length ([] : List Nat).length p1 p2 p3 c1 c2 c3 + (C1 + (C2 + C3)) + (D' + G))
      refine ⟨_, hv3, cond_intro (fun hb => ?_) (fun hb => ?_)⟩
      · have hb' : (st s1 (t.es.getD i (0, 0))).2 = false := by simpa using hb
        have hr : runW st s (flat 0 t) = ((st s1 (t.es.getD i (0, 0))).1, false) := by
          show runW st s t.es = _
          conv => lhs; rw [e3]
          rw [runW_true hrun]
          refine runW_false ?_
          simp only [runW]
          rcases hst : st s1 (t.es.getD i (0, 0)) with ⟨s2, _ | _⟩
          · rfl
          · rw [hst] at hb'; cases hb'
        rw [hr]
        exact ⟨D', rfl, hi3, hs3⟩
      · have hb' : (st s1 (t.es.getD i (0, 0))).2 = true := by simpa using hb
        rw [btree_node_walk_b2_eq]
        refine ⟨⟨by omega, by omega⟩, ⟨i + 1, _, D', by simp only; omega, by omega, ?_, hi3, hs3⟩, by simp only; omega⟩
        rw [e2, runW_true hrun]
        simp only [runW]
        rcases hst : st s1 (t.es.getD i (0, 0)) with ⟨s2, _ | _⟩
        · rw [hst] at hb'; cases hb'
        · rfl
    · have : i = t.es.length := by omega
      subst this
      rw [List.take_of_length_le (Nat.le_refl _)] at hrun
      have hrun' : runW st s (flat 0 t) = (s1, true) := hrun
      rw [btree_node_walk_b3_eq]
      refine ⟨true, (leaf_ok hs1 hna0).mono fun v5 h6 ⟨hh6, hv5⟩ => ⟨hv5, hh6⟩, condYes rfl ?_⟩
      rw [hrun']
      exact ⟨D, rfl, hi1, hs1⟩
  | succ n ih =>
    intro b t A s C h G hh hz hos hi0 hs
    have hlen := hh.len
    obtain ⟨ks, A1, A2, rfl, hna, hkl, hall⟩ := hh
    have hna0 := hna
    obtain ⟨p1, p2, p3, c1, c2, c3, C1, C2, C3, rfl, ns⟩ := hna
    have hze := hz.here
    refine btree_node_walk_call ?_
    rw [btree_node_walk_b0_eq]
    refine condNo rfl ⟨_, _, _, (hs.at (nodeC b t.es.length ks.length p1 p2 p3 c1 c2 c3)).cell 0, ?_⟩
    have kid : ∀ (i : Nat), i < ks.length → ∀ (s1 : σ) (D : Bag) (h1 : Hp), Ok s1 → Inv s1 D → St h0 h1 (nodeC b t.es.length ks.length p1 p2 p3 c1 c2 c3 + (C1 + (C2 + C3)) + A2 + (D + G)) →
        HCalls Try.prog 36 #[ptr (ks.getD i 0), .func (.func g) #[] cap] h1 (fun v h' => ∃ C', v = .bool (runW st s1 (flat n (t.ts.getD i nilT))).2 ∧ Inv (runW st s1 (flat n (t.ts.getD i nilT))).1 C' ∧ St h0 h' (nodeC b t.es.length ks.length p1 p2 p3 c1 c2 c3 + (C1 + (C2 + C3)) + A2 + (C' + G))) := by
      intro i hi' s1 D h1 ho1 hi1 hs1
      obtain ⟨Ai, B2, hA2, hk⟩ := hall.pick (d := nilT) (d' := 0) hi'
      have hzk : Sz lo hi n (t.ts.getD i nilT) := by
        have h2 : i < t.ts.length := by omega
        have : t.ts.getD i nilT = t.ts[i] := by simp [List.getD, h2]
        rw [this]; exact hz.2 _ (List.getElem_mem h2)
      have hs2 : St h0 h1 (Ai + (D + (nodeC b t.es.length ks.length p1 p2 p3 c1 c2 c3 + (C1 + (C2 + C3)) + (B2 + G)))) := by rw [hA2] at hs1; exact hs1.to
      refine (ih hk hzk ho1 hi1 hs2).mono fun v h' ⟨C', hv, hi2, hs3⟩ => ⟨C', hv, hi2, ?_⟩
      rw [hA2]; exact hs3.to
    refine ⟨fun x h' => ∃ (i : Nat) (s' : σ) (C' : Bag), x.1 = i ∧ i ≤ t.es.length ∧ runW st s (pre (n + 1) t i) = (s', true) ∧ Inv s' C' ∧ St h0 h' (nodeC b t.es.length ks.length p1 p2 p3 c1 c2 c3 + (C1 + (C2 + C3)) + A2 + (C' + G)), fun x _ => t.es.length - x.1.toNat, ⟨0, s, C, rfl, by omega, rfl, hi0, hs⟩, ?_⟩
    rintro ⟨_, _⟩ h1 ⟨i, s1, D, rfl, hil, hrun, hi1, hs1⟩
    dsimp only
    rw [btree_node_walk_b1_eq]
    have lf : ∀ {h2 : Hp} {D : Bag}, St h0 h2 (nodeC b t.es.length ks.length p1 p2 p3 c1 c2 c3 + (C1 + (C2 + C3)) + A2 + (D + G)) → HCalls Try.prog 42 #[ptr b] h2 (fun v h' => h' = h2 ∧ v = .bool false) := fun {h2 D} hs2 =>
      (leaf_ok (hs2.to (B := nodeC b t.es.length ks.length p1 p2 p3 c1 c2 c3 + (C1 + (C2 + C3)) + (A2 + (D + G)))) hna0).mono fun v h' ⟨hh, hv⟩ => ⟨hh, by rw [hv, decide_eq_false (by omega)]⟩
    refine condP (fun hlt => ?_) (fun hge => ?_)
    · have hlt' : i < t.es.length := by omega
      refine (ns.s1.rd (hs1.at C1)).int (by omega) (by omega) ?_
      rw [Int.toNat_natCast]
      refine (lf hs1).mono fun v1 h2 ⟨hh2, hv1⟩ => ?_
      subst hh2
      refine ⟨_, hv1, condYes rfl ⟨_, _, _, (hs1.at (nodeC b t.es.length ks.length p1 p2 p3 c1 c2 c3)).cellA 2, (ns.s3.rd (hs1.at C3)).ptr (by omega) (by omega) ?_⟩⟩
      rw [Int.toNat_natCast]
      have hrp := pre_succ (n := n) hlen hlt'
      refine (kid i (by omega) s1 D h2 (runW_ok hok _ _ _ hos hrun) hi1 hs1).mono fun v2 h3 ⟨D2, hv2, hi2, hs2⟩ => ?_
      refine ⟨_, hv2, cond_intro (fun hb => ?_) (fun hb => ?_)⟩
      · -- it ends in the child
        have hb' : (runW st s1 (flat n (t.ts.getD i nilT))).2 = false := by simpa using hb
        have hr : runW st s (flat (n + 1) t) = ((runW st s1 (flat n (t.ts.getD i nilT))).1, false) := by
          obtain ⟨rest, hrest⟩ : ∃ rest, flat (n + 1) t = pre (n + 1) t i ++ (flat n (t.ts.getD i nilT) ++ rest) := ⟨_, (pre_mid hlen hlt').choose_spec⟩
          rw [hrest, runW_true hrun]
          refine runW_false ?_
          rcases hst : runW st s1 (flat n (t.ts.getD i nilT)) with ⟨s2, _ | _⟩
          · rfl
          · rw [hst] at hb'; cases hb'
        rw [hr]
        exact ⟨D2, rfl, hi2, hs2⟩
      have hb' : (runW st s1 (flat n (t.ts.getD i nilT))).2 = true := by simpa using hb
      have hrk : runW st s (pre (n + 1) t i ++ flat n (t.ts.getD i nilT)) = ((runW st s1 (flat n (t.ts.getD i nilT))).1, true) := by
        rw [runW_true hrun]
        rcases hst : runW st s1 (flat n (t.ts.getD i nilT)) with ⟨s2, _ | _⟩
        · rw [hst] at hb'; cases hb'
        · rfl
      refine ⟨_, _, _, (hs2.at (nodeC b t.es.length ks.length p1 p2 p3 c1 c2 c3)).cellA 1, (ns.s2.rd (hs2.at C2)).int (by omega) (by omega) ?_⟩
      rw [Int.toNat_natCast]
      show callX Try.prog F g _ _ _
      refine callX_of hg ?_
      have hg1 : (t.es.map Prod.fst).getD i 0 = (t.es.getD i (0, 0)).1 := by simp [List.getD, hlt']
      have hg2 : (t.es.map Prod.snd).getD i 0 = (t.es.getD i (0, 0)).2 := by simp [List.getD, hlt']
      rw [hg1, hg2]
      generalize hs' : (runW st s1 (flat n (t.ts.getD i nilT))).1 = s2 at hi2 hrk
      refine (hf s2 D2 h3 (t.es.getD i (0, 0)) (nodeC b t.es.length ks.length p1 p2 p3 c1 c2 c3 + (C1 + (C2 + C3)) + A2 + G) (runW_ok hok _ _ _ hos hrk) hi2 (hs2.to (B := D2 + (nodeC b t.es.length ks.length p1 p2 p3 c1 c2 c3 + (C1 + (C2 + C3)) + A2 + G)))).mono fun v3 h4 ⟨D', hv3, hi3, hs3⟩ => ?_
      have hs3 := hs3.to (B := nodeC b t.es.length ks.length p1 p2 p3 c1 c2 c3 + (C1 + (C2 + C3)) + A2 + (D' + G))
      refine ⟨_, hv3, cond_intro (fun hb => ?_) (fun hb => ?_)⟩
      · have hb' : (st s2 (t.es.getD i (0, 0))).2 = false := by simpa using hb
        have hr : runW st s (flat (n + 1) t) = ((st s2 (t.es.getD i (0, 0))).1, false) := by
          obtain ⟨rest, hrest⟩ : ∃ rest, flat (n + 1) t = pre (n + 1) t i ++ flat n (t.ts.getD i nilT) ++ ([t.es.getD i (0, 0)] ++ rest) := by
            obtain ⟨rest, h⟩ := pre_mid (n := n) hlen hlt'
            exact ⟨rest, by rw [h]; simp⟩
          rw [hrest, runW_true hrk]
          refine runW_false ?_
          simp only [runW]
          rcases hst : st s2 (t.es.getD i (0, 0)) with ⟨s3, _ | _⟩
          · rfl
          · rw [hst] at hb'; cases hb'
        rw [hr]
        exact ⟨D', rfl, hi3, hs3⟩
      · have hb' : (st s2 (t.es.getD i (0, 0))).2 = true := by simpa using hb
        rw [btree_node_walk_b2_eq]
        refine ⟨⟨by omega, by omega⟩, ⟨i + 1, _, D', by simp only; omega, by omega, ?_, hi3, hs3⟩, by simp only; omega⟩
        rw [hrp, ← List.append_assoc, runW_true hrk]
        simp only [runW]
        rcases hst : st s2 (t.es.getD i (0, 0)) with ⟨s3, _ | _⟩
        · rw [hst] at hb'; cases hb'
        · rfl
    · have : i = t.es.length := by omega
      subst this
      rw [btree_node_walk_b3_eq]
      refine ⟨false, (lf hs1).mono fun v5 h6 ⟨hh6, hv5⟩ => ⟨hv5, hh6⟩, condNo rfl ?_⟩
      have k1 := (hs1.at (nodeC b t.es.length ks.length p1 p2 p3 c1 c2 c3))
      refine ⟨_, _, _, k1.cellA 2, _, _, _, k1.cell 0, (ns.s3.rd (hs1.at C3)).ptr (by omega) (by omega) ?_⟩
      rw [Int.toNat_natCast]
      refine (kid t.es.length (by omega) s1 D h1 (runW_ok hok _ _ _ hos hrun) hi1 hs1).mono fun v2 h3 ⟨D2, hv2, hi2, hs2⟩ => ?_
      refine ⟨_, hv2, ?_⟩
      have hr : runW st s (flat (n + 1) t) = runW st s1 (flat n (t.ts.getD t.es.length nilT)) := by rw [pre_last hlen, runW_true hrun]
      rw [hr]
      exact ⟨D2, rfl, hi2, hs2⟩
end
end Go.Proofs.Ytaemnjblcpknpaa
