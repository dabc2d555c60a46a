/- Part CY CZ C0 C1 C2 C3 CV CW C4 of the proof: contracts of functions of the program, and what follows from them. -/
import Derived.Test.YtbhofnaipkkbeaaGreatDoorSxCX
import Derived.LoopN
namespace Go.Sx
open Go
section
variable {P : Program} {all : List Oper} {ms : List Nat}
structure PlOk (P : Program) (all : List Oper) (p : Pl) : Prop where
  get : all[p.j]? = some p.o
  ms : (masks all [])[p.j]? = some p.m
  k : p.k = kO P p.o.op
theorem ybci : ∀ {j : Nat} {ms : List Nat} {r : List Oper} {p : Pl}, p ∈ pls P j ms r → ∃ i, p.j = j + i ∧ r[i]? = some p.o ∧ ms[i]? = some p.m ∧ p.k = kO P p.o.op
  | _, [], [], _, h => by cases h
  | _, [], _ :: _, _, h => by cases h
  | _, _ :: _, [], _, h => by cases h
  | j, m :: ms, o :: r, p, h => by
    rcases List.mem_cons.1 (show p ∈ (⟨j, m, kO P o.op, o⟩ : Pl) :: pls P (j + 1) ms r from h) with rfl | h
    · exact ⟨0, rfl, rfl, rfl, rfl⟩
    · obtain ⟨i, h1, h2, h3, h4⟩ := ybci h
      exact ⟨i + 1, by omega, by simpa using h2, by simpa using h3, h4⟩
theorem yaob {done : Nat} : ∀ {l : List Pl} {p : Pl}, pick0 done l = some p → p ∈ l
  | [], _, h => by cases h
  | q :: r, p, h => by
    unfold pick0 at h
    split at h
    · cases h; exact List.mem_cons_self
    · exact List.mem_cons_of_mem _ (yaob h)
theorem yaxq {j : Nat} : ∀ {l : List Pl} {p : Pl}, p ∈ rmv j l → p ∈ l
  | [], _, h => by cases h
  | q :: r, p, h => by
    unfold rmv at h
    split at h
    · exact List.mem_cons_of_mem _ h
    · rcases List.mem_cons.1 h with rfl | h
      · exact List.mem_cons_self
      · exact List.mem_cons_of_mem _ (yaxq h)
theorem yatw : ∀ {f done : Nat} {l : List Pl} {p : Pl}, p ∈ ordO f done l → p ∈ l
  | 0, _, _, _, h => by cases h
  | _ + 1, _, [], _, h => by cases h
  | f + 1, done, p0 :: rest, p, h => by
    have key : ∀ q : Pl, q ∈ p0 :: rest → p ∈ q :: ordO f (Nat.lor done (Nat.pow 2 q.j)) (rmv q.j (p0 :: rest)) → p ∈ p0 :: rest := fun q hq h => by
      rcases List.mem_cons.1 h with rfl | h
      · exact hq
      · exact yaxq (yatw h)
    cases hp : pick0 done (p0 :: rest) with
    | none =>
      have e : ordO (f + 1) done (p0 :: rest) = p0 :: ordO f (Nat.lor done (Nat.pow 2 p0.j)) (rmv p0.j (p0 :: rest)) := by
        show (match (match pick0 done (p0 :: rest) with | some p => p | none => p0) with | p => p :: ordO f (Nat.lor done (Nat.pow 2 p.j)) (rmv p.j (p0 :: rest))) = _
        rw [hp]
      rw [e] at h
      exact key p0 List.mem_cons_self h
    | some q =>
      have e : ordO (f + 1) done (p0 :: rest) = q :: ordO f (Nat.lor done (Nat.pow 2 q.j)) (rmv q.j (p0 :: rest)) := by
        show (match (match pick0 done (p0 :: rest) with | some p => p | none => p0) with | p => p :: ordO f (Nat.lor done (Nat.pow 2 p.j)) (rmv p.j (p0 :: rest))) = _
        rw [hp]
      rw [e] at h
      exact key q (yaob hp) h
theorem yahw {m done i : Nat} (h : Nat.land m done = m) (hi : m.testBit i = true) : done.testBit i = true := by
  have h2 : (m &&& done).testBit i = true := by rw [show m &&& done = m from h]; exact hi
  rw [Nat.testBit_and, Bool.and_eq_true] at h2
  exact h2.2
theorem yaxu {m done : Nat} (h : ∀ i, m.testBit i = true → done.testBit i = true) : Nat.land m done = m := by
  show m &&& done = m
  apply Nat.eq_of_testBit_eq
  intro i
  rw [Nat.testBit_and]
  cases hm : m.testBit i with
  | false => rfl
  | true => rw [h i hm]; rfl
theorem yagp (done j i : Nat) : (Nat.lor done (Nat.pow 2 j)).testBit i = (done.testBit i || decide (j = i)) := by
  show (done ||| 2 ^ j).testBit i = _
  rw [Nat.testBit_or, Nat.testBit_two_pow]
theorem yabv {s t : Pl} (h : yarp all ms s t = true) : pairB all ms s.j t.j = true ∧ (Nat.testBit t.m s.j = false → (t.k = 2 ∧ pairB all ms t.j s.j = true) ∨ (t.k ≠ 2 ∧ s.k ≤ 1)) := by
  unfold yarp at h
  rw [Bool.and_eq_true] at h
  refine ⟨h.1, fun hb => ?_⟩
  have h := h.2
  rw [hb] at h
  simp only [] at h
  split at h
  · rename_i hk
    exact .inl ⟨Nat.eq_of_beq_eq_true hk, h⟩
  · rename_i hk
    exact .inr ⟨fun e => (by rw [e] at hk; cases hk), Nat.le_of_ble_eq_true h⟩
structure ChkO (all : List Oper) (ms : List Nat) (done : Nat) (pre : List Pl) (p : Pl) (r : List Pl) : Prop where
  ap : ∀ s ∈ pre, yarp all ms s p = true
  self : yagr all p.j = true
  sub : Nat.land p.m done = p.m
  new : Nat.testBit done p.j = false
  dst : p.k ≤ 2 → ∃ d, p.o.dst = some d
  fl : ¬ p.k ≤ 1 → ∀ f ∈ r, ybah done p f = true
  next : chkO all ms (Nat.lor done (Nat.pow 2 p.j)) (p :: pre) r = true
theorem yabo {done : Nat} {pre r : List Pl} {p : Pl} (h : chkO all ms done pre (p :: r) = true) : ChkO all ms done pre p r := by
  simp only [chkO, Bool.and_eq_true] at h
  obtain ⟨h1, h2, h3, h4, h0, h5, h6⟩ := h
  refine ⟨yaat h1, h2, Nat.eq_of_beq_eq_true h3, by simpa using h4, fun hk => ?_, fun hk => ?_, h6⟩
  · rw [Nat.ble_eq_true_of_le hk] at h0
    simp only [someB] at h0
    split at h0
    · exact ⟨_, by assumption⟩
    · cases h0
  · have : Nat.ble p.k 1 = false := by cases hb : Nat.ble p.k 1 with | false => rfl | true => exact absurd (Nat.le_of_ble_eq_true hb) hk
    rw [this] at h5
    exact yaat h5
theorem yabm : ∀ {ps : List Pl} {done : Nat} {pre : List Pl}, chkO all ms done pre ps = true → ∀ s ∈ pre, ∀ t ∈ ps, yarp all ms s t = true
  | [], _, _, _, _, _, _, ht => by cases ht
  | p :: r, done, pre, h, s, hs, t, ht => by
    have c := yabo h
    rcases List.mem_cons.1 ht with rfl | ht
    · exact c.ap s hs
    · exact yabm c.next s (List.mem_cons_of_mem _ hs) t ht
theorem yafx : ∀ {ps : List Pl} {done : Nat} {pre : List Pl}, chkO all ms done pre ps = true → ∀ t ∈ ps, Nat.testBit done t.j = false
  | [], _, _, _, _, ht => by cases ht
  | p :: r, done, pre, h, t, ht => by
    have c := yabo h
    rcases List.mem_cons.1 ht with rfl | ht
    · exact c.new
    · have := yafx c.next t ht
      rw [yagp, Bool.or_eq_false_iff] at this
      exact this.1
theorem yaem : ∀ {ps : List Pl} {done : Nat} {pre : List Pl}, chkO all ms done pre ps = true → ∀ t ∈ ps, yagr all t.j = true ∧ (t.k ≤ 2 → ∃ d, t.o.dst = some d)
  | [], _, _, _, _, ht => by cases ht
  | p :: r, done, pre, h, t, ht => by
    have c := yabo h
    rcases List.mem_cons.1 ht with rfl | ht
    · exact ⟨c.self, c.dst⟩
    · exact yaem c.next t ht
theorem yamf {done : Nat} {pre r : List Pl} {p : Pl} (h : chkO all ms done pre (p :: r) = true) : ∀ t ∈ r, p.j ≠ t.j := fun t ht e => by
  have := yafx (yabo h).next t ht
  rw [yagp, e] at this
  simp at this
theorem yapn : ∀ {ps : List Pl} {done : Nat} {pre : List Pl}, chkO all ms done pre ps = true → ∀ s ∈ ps, ∀ t ∈ ps, s.j = t.j → s = t
  | [], _, _, _, _, hs, _, _, _ => by cases hs
  | p :: r, done, pre, h, s, hs, t, ht, e => by
    rcases List.mem_cons.1 hs with h1 | h1 <;> rcases List.mem_cons.1 ht with h2 | h2
    · rw [h1, h2]
    · exact absurd (by rw [← h1]; exact e) (yamf h t h2)
    · exact absurd (by rw [← h2]; exact e.symm) (yamf h s h1)
    · exact yapn (yabo h).next s h1 t h2 e
theorem yamg : ∀ {ps : List Pl} {done : Nat} {pre : List Pl}, chkO all ms done pre ps = true → ∀ f ∈ ps, f.k = 2 → Nat.land f.m done = f.m → ∀ t ∈ ps, t.j ≠ f.j → pairB all ms f.j t.j = true
  | [], _, _, _, _, hf, _, _, _, _, _ => by cases hf
  | p :: r, done, pre, h, f, hf, hk, hm, t, ht, hne => by
    have c := yabo h
    rcases List.mem_cons.1 hf with h1 | h1
    · rcases List.mem_cons.1 ht with h2 | h2
      · exact absurd (by rw [h1, h2]) hne
      · rw [h1]; exact (yabv (yabm c.next p List.mem_cons_self t h2)).1
    · rcases List.mem_cons.1 ht with h2 | h2
      · have ap := yabv (yabm c.next p List.mem_cons_self f h1)
        have hb : Nat.testBit f.m p.j = false := by
          cases hb : Nat.testBit f.m p.j with
          | false => rfl
          | true => have := yahw hm hb; rw [c.new] at this; cases this
        rw [h2]
        rcases ap.2 hb with h3 | h3
        · exact h3.2
        · exact absurd hk h3.1
      · refine yamg c.next f h1 hk (yaxu fun i hi => ?_) t h2 hne
        rw [yagp, yahw hm hi]; rfl
theorem yawu : ∀ l : List Oper, lenO l = l.length
  | [] => rfl
  | _ :: r => by rw [List.length_cons, ← yawu r]; rfl
theorem yakf : ∀ {ps : List Pl} {done : Nat} {pre : List Pl}, chkO all ms done pre ps = true → ∀ j, j < all.length → Nat.testBit done j = true ∨ ∃ t ∈ ps, t.j = j
  | [], done, pre, h, j, hj => by
    have h : Nat.beq done (Nat.sub (Nat.pow 2 (lenO all)) 1) = true := h
    have h := Nat.eq_of_beq_eq_true h
    refine .inl ?_
    rw [h, yawu]
    show (2 ^ all.length - 1).testBit j = true
    rw [Nat.testBit_two_pow_sub_one, decide_eq_true_eq]
    exact hj
  | p :: r, done, pre, h, j, hj => by
    rcases yakf (yabo h).next j hj with h1 | ⟨t, ht, e⟩
    · rw [yagp, Bool.or_eq_true, decide_eq_true_eq] at h1
      rcases h1 with h1 | h1
      · exact .inl h1
      · exact .inr ⟨p, List.mem_cons_self, h1⟩
    · exact .inr ⟨t, List.mem_cons_of_mem _ ht, e⟩
theorem yauh {p : Pl} (h : PlOk P all p) (i : Nat) : yafe (masks all []) p.j i = Nat.testBit p.m i := by
  unfold yafe
  rw [yacg, h.ms]
theorem yaka {t s : Pl} : ∀ {l : List Pl}, s ∈ l → s.k ≤ 1 → Nat.testBit t.m s.j = false → s ∈ lates t l
  | [], h, _, _ => by cases h
  | q :: r, h, hk, hb => by
    unfold lates
    rcases List.mem_cons.1 h with rfl | h
    · rw [Nat.ble_eq_true_of_le hk, hb]; exact List.mem_cons_self
    · split
      · exact List.mem_cons_of_mem _ (yaka h hk hb)
      · exact yaka h hk hb
theorem yamt {t f : Pl} : ∀ {l : List Pl}, f ∈ l → f.k = 2 → Nat.testBit f.m t.j = false → f ∈ prbs t l
  | [], h, _, _ => by cases h
  | q :: r, h, hk, hb => by
    unfold prbs
    rcases List.mem_cons.1 h with rfl | h
    · have : Nat.beq f.k 2 = true := by rw [hk]; rfl
      rw [this, hb]; exact List.mem_cons_self
    · split
      · exact List.mem_cons_of_mem _ (yamt h hk hb)
      · exact yamt h hk hb
theorem yayj {s f : Pl} : ∀ {l : List Pl}, f ∈ l → Nat.testBit f.m s.j = false → anyF s l = true
  | [], h, _ => by cases h
  | q :: r, h, hb => by
    unfold anyF
    rcases List.mem_cons.1 h with rfl | h
    · rw [hb]
    · split
      · exact yayj h hb
      · rfl
theorem yakd {fs : List Pl} {s f : Pl} (hf : f ∈ fs) (hb : Nat.testBit f.m s.j = false) : ∀ {l : List Pl}, s ∈ l → s.k ≤ 1 → s ∈ firms fs l
  | [], h, _ => by cases h
  | q :: r, h, hk => by
    unfold firms
    rcases List.mem_cons.1 h with rfl | h
    · rw [Nat.ble_eq_true_of_le hk, yayj hf hb]; exact List.mem_cons_self
    · split
      · exact List.mem_cons_of_mem _ (yakd hf hb h hk)
      · exact yakd hf hb h hk
end
open Go
section
variable {P : Program} {φ : Phi} {h0 : Hp} {H : AH} {h : Hp} {lc n : Nat} {L : Lay} {st : Stk} {e : En} {a : Act} {gl : List Nat} {call : CallC} {all : List Oper} {ρ : Operand → Value}
theorem yaus {o : Oper} {b : Builtin} {args : Array Operand} {tys : Array TypeId} {vs : List Value} {v : Value} {H' : AH} (ho : o.op = .call { callee := .builtin b, args := args, argTypes := tys }) (hr : HR φ h0 H h) (hv : VRL φ vs (args.toList.map ρ)) (hb : b = .len ∨ b = .cap ∨ b = .max ∨ b = .min) (e : yaik P b tys.toList vs H = .ok v H') :
    H' = H ∧ hq P (execOp ρ o) h (valK (VR φ v)) := by
  unfold yaik at e
  split at e
  · rcases hb with h | h | h | h <;> cases h
  · rcases hb with h | h | h | h <;> cases h
  · rcases hb with h | h | h | h <;> cases h
  · rcases hb with h | h | h | h <;> cases h
  · -- the length of a map
    rename_i t x ht
    have hx : ∃ x', args.toList.map ρ = [x'] ∧ VR φ x x' := by
      generalize args.toList.map ρ = us at hv
      cases hv with | cons h1 h2 => cases h2; exact ⟨_, rfl, h1⟩
    obtain ⟨x', hx, hx2⟩ := hx
    simp only [execOp, ho, resolve, yaab, yaah, invoke, builtin]
    have e1 := congrArg (fun l => l[0]?) ht
    have e3 := congrArg (fun l => l[0]?) hx
    simp only [Array.getElem?_toList, List.getElem?_cons_zero] at e1
    rw [← yack] at e3
    simp only [List.getElem?_cons_zero] at e3
    unfold lenM at e
    split at e
    · rename_i k el r hu
      obtain ⟨m, hm, rfl⟩ := hx2.map_inv
      split at e
      · rename_i es clock hg
        obtain ⟨fs, hf, her⟩ := hr.map hg hm
        obtain ⟨rfl, rfl⟩ := yaax e
        refine ⟨rfl, ?_⟩
        have hob : objH h m.r = some (.map fs clock) := yaof hf (fun _ _ _ hx => by cases hx)
        simp only [Builtin.len_, e1, e3, yaab, yaaf, hu, getObj, hq]
        refine ⟨_, hob, _, rfl, ?_⟩
        have hl : ∀ {es fs : List MapEntry}, ERel φ es fs → es.length = fs.length := by
          intro es
          induction es with
          | nil => intro fs h; cases fs with | nil => rfl | cons _ _ => exact h.elim
          | cons e es ih => intro fs h; cases fs with | nil => exact h.elim | cons f fs => simp [ih h.2.2.2]
        have := hl her
        rw [this, Array.length_toList]
        exact .int _ _
      · cases e
    · cases e
  · -- max
    rename_i k x r
    split at e
    · rename_i m hm
      obtain ⟨rfl, rfl⟩ := yaax e
      have hx : ∃ us, args.toList.map ρ = .int k x :: us ∧ VRL φ r us := by
        generalize args.toList.map ρ = us at hv
        cases hv with | cons h1 h2 => exact ⟨_, by rw [h1.int_inv], h2⟩
      obtain ⟨us, hx, hus⟩ := hx
      refine ⟨rfl, ?_⟩
      simp only [execOp, ho, resolve, yaab, yaah, invoke, builtin]
      have : (args.map ρ).toList = .int k x :: us := by rw [← hx]; simp
      simp only [Builtin.max_, this]
      exact yaqv hus hm _ ⟨_, rfl, .int _ _⟩
    · cases e
  · -- min
    rename_i k x r
    split at e
    · rename_i m hm
      obtain ⟨rfl, rfl⟩ := yaax e
      have hx : ∃ us, args.toList.map ρ = .int k x :: us ∧ VRL φ r us := by
        generalize args.toList.map ρ = us at hv
        cases hv with | cons h1 h2 => exact ⟨_, by rw [h1.int_inv], h2⟩
      obtain ⟨us, hx, hus⟩ := hx
      refine ⟨rfl, ?_⟩
      simp only [execOp, ho, resolve, yaab, yaah, invoke, builtin]
      have : (args.map ρ).toList = .int k x :: us := by rw [← hx]; simp
      simp only [Builtin.min_, this]
      exact yasx hus hm _ ⟨_, rfl, .int _ _⟩
    · cases e
  · cases e
theorem cOp_q {o : Oper} {v : Value} {H' : AH} (hr : HR φ h0 H h) (hρ : ∀ x ∈ opds o.op, VR φ ((gE L x).run st e) (ρ x)) (hk : kO P o.op ≤ 1) (he : (cOp P L o.op).run st e H call = .ok v H') :
    H' = H ∧ hq P (execOp ρ o) h (valK (VR φ v)) := by
  generalize ho : o.op = op at hρ he hk
  have val : ∀ {s : Sem Value}, execOp ρ o = (do pure (.value (← s)) : Sem Next) → H' = H ∧ hq P s h (VR φ v) → H' = H ∧ hq P (execOp ρ o) h (valK (VR φ v)) := fun {s} h1 h2 => ⟨h2.1, by rw [h1]; exact yaaq _ _ _ h2.2⟩
  unfold cOp at he
  split at he
  · -- load
    rename_i t a
    obtain ⟨f, hg, hx⟩ := yabi (hρ a (by simp [opds]))
    have fin : ∀ {k : Addr → AH → RV}, onPtr (f st e) H k = .ok v H' → (∀ b oo sp m, φ b = some m → k ⟨b, oo, sp⟩ H = .ok v H' → H' = H ∧ hq P (loadVar t ⟨m.r, oo, sp⟩) h (VR φ v)) → H' = H ∧ hq P (execOp ρ o) h (valK (VR φ v)) := fun {k} h1 h2 => by
      obtain ⟨ad, h3, h4⟩ := yanh h1
      rw [h3] at hx
      obtain ⟨m, hm, hr'⟩ := hx.ptr_inv
      obtain ⟨h5, h6⟩ := h2 ad.block ad.off ad.spot m hm h4
      refine val (s := loadVar t ⟨m.r, ad.off, ad.spot⟩) ?_ ⟨h5, h6⟩
      unfold execOp
      rw [ho]
      simp only [hr', Instr.loadAt, Instr.sureAddr]
      rfl
    cases ha : yacx P t with
    | none => simp only [hg, ha] at he; cases he
    | some b =>
      cases b with
      | false =>
        simp only [hg, ha] at he
        exact fin he fun b oo sp m hm hk => ybap hr hm ha hk
      | true =>
        simp only [hg, ha] at he
        exact fin he fun b oo sp m hm hk => ybae hr hm ha rfl hk
  · -- the bytes of a text
    rename_i s d x
    cases hs : yaap P s with
    | false =>
      obtain ⟨f, hg, hx⟩ := yabi (hρ x (by simp [opds]))
      cases hd : elemT P d with
      | some r => simp only [hg, hs, hd] at he; cases he
      | none =>
        simp only [hg, hs, hd] at he
        refine val (s := convert s d (ρ x)) ?_ (yaxo (P := P) hr hx he)
        unfold execOp; rw [ho]
    | true =>
      cases hd : elemT P d with
      | none => obtain ⟨f, hg, hx⟩ := yabi (hρ x (by simp [opds])); simp only [hg, hs, hd] at he; cases he
      | some r => simp only [kO, hd] at hk; omega
  · simp only [kO] at hk; omega
  · -- a part
    rename_i t x lo hi
    obtain ⟨f, hg, hx⟩ := yabi (hρ x (by simp [opds]))
    obtain ⟨fl, hgl, hl⟩ := yaul (o := lo) fun y hy => hρ y (by simp only [opds]; exact List.mem_cons_of_mem _ (List.mem_append_left _ hy))
    obtain ⟨fh, hgh, hh⟩ := yaul (o := hi) fun y hy => hρ y (by simp only [opds]; exact List.mem_cons_of_mem _ (List.mem_append_right _ (List.mem_append_left _ hy)))
    have ex : execOp ρ o = (do pure (.value (← Instr.sliceAt t (ρ x) (lo.map ρ) (hi.map ρ) none)) : Sem Next) := by unfold execOp; rw [ho]; rfl
    cases ht : yaap P t with
    | true =>
      simp only [hg, hgl, hgh, ht] at he
      exact val ex (yaxh ht hx hl hh he)
    | false =>
      simp only [hg, hgl, hgh, ht] at he
      exact val ex (yany hr hx hl hh he)
  · simp only [kO] at hk; omega
  · simp only [kO] at hk; omega
  · simp only [kO] at hk; omega
  · simp only [kO] at hk; omega
  · simp only [kO] at hk; omega
  · simp only [kO] at hk; omega
  · simp only [kO] at hk; omega
  · simp only [kO] at hk; omega
  · -- a built-in function
    rename_i b args tys
    obtain ⟨fa, hga, ha⟩ := yatv (xs := args.toList) fun y hy => hρ y (by simp only [opds, yadv]; exact List.mem_append_right _ hy)
    simp only [hga] at he
    exact yaus ho hr ha (by cases b <;> simp only [kO] at hk <;> first | omega | simp) he
  · cases he
theorem yary {o : Oper} {v : Value} {H' : AH} (r : RelA φ lc n L st e a) (hg : yacl φ gl) (hr : HR φ h0 H h) (hok : okS gl n lc L all o = true) (hk : kO P o.op ≤ 1) (hv : OpR P L st e H call o.op v H') : H' = H ∧ hq P (execOp a.eval o) h (valK (VR φ v)) := by
  unfold okS at hok
  simp only [Bool.and_eq_true] at hok
  have hρ : ∀ x ∈ opds o.op, VR φ ((gE L x).run st e) (a.eval x) := fun x hx => gE_ok r hg (yaat hok.1.1 x hx)
  rcases hv with ⟨F, hp, hf, rfl⟩ | ⟨_, hf⟩
  · exact ⟨rfl, yazg (P := P) (h := h) hρ hp hf⟩
  · exact cOp_q hr hρ hk hf
theorem ybev {op : Op} {v : Value} {H' : AH} (he : (evO P L op).run st e H call = .ok v H') : OpR P L st e H call op v H' := by
  unfold evO at he
  split at he
  · rename_i f hp
    refine .inl ⟨_, hp, ?_⟩
    cases hf : f st e with
    | ok u => simp only [hf] at he; cases he; exact ⟨hf, rfl⟩
    | er l => simp only [hf] at he; cases he
  · exact .inr ⟨by assumption, he⟩
def Free (φ : Phi) (H : AH) (r : Nat) : Prop := ∀ b k m, TT.get H.m b = some k → OwnB k → φ b = some m → m.r ≠ r
theorem HR.push (hr : HR φ h0 H h) (o : Obj) : HR φ h0 H (h.push o) := by
  have keep : ∀ r, r < h.size → (h.push o)[r]? = h[r]? := fun r hlt => by rw [Array.getElem?_push, if_neg (by omega)]
  refine ⟨hr.fresh, by rw [Array.size_push]; have := hr.size; omega, fun r hlt => by rw [keep r (by have := hr.size; omega)]; exact hr.old r hlt, fun b k g => ?_, hr.inj⟩
  obtain ⟨m, hm, h1, h2, h3⟩ := hr.blk b k g
  exact ⟨m, hm, h1, h2, h3.heap (keep _ (hr.lt g hm))⟩
theorem Step.push (hr : HR φ h0 H h) (o : Obj) : Step φ φ h0 H H h (h.push o) :=
  ⟨Sub.refl φ, fun _ _ e => .inl e, hr.push o, Nat.le_refl _, by rw [Array.size_push]; omega, fun r hlt _ => by rw [Array.getElem?_push, if_neg (by omega)], fun _ k g ho _ => ⟨k, g, ho⟩⟩
theorem HR.free_new (hr : HR φ h0 H h) : Free φ H h.size := fun b k m g _ e he => by have := hr.lt g e; omega
theorem Free.step {ψ : Phi} {H' : AH} {h' : Hp} {r : Nat} (hr : HR φ h0 H h) (s : Step φ ψ h0 H H' h h') (hlt : r < h.size) (f : Free φ H r) : Free ψ H' r := by
  intro b k m g ho e he
  rcases s.new b m e with e' | ⟨hge, h2 | ⟨b1, k1, m1, g1, o1, e1, h3⟩⟩
  · obtain ⟨k0, g0, o0⟩ := s.live b k g ho (hr.dom e')
    exact f b k0 m g0 o0 e' he
  · omega
  · exact f b1 k1 m1 g1 o1 e1 (h3.trans he)
theorem yagz {k : Bk} {b : Nat} {k' : Bk} (g : TT.get (TT.set H.m H.nx (some k)) b = some k') : (b = H.nx ∧ k' = k) ∨ (b ≠ H.nx ∧ TT.get H.m b = some k') := by
  rcases (TT.set_get _ _ _ _).2 _ g with ⟨e, he⟩ | h
  · exact .inl ⟨e, (Option.some.inj he).symm⟩
  · exact .inr h
theorem HR.adopt (hr : HR φ h0 H h) {k : Bk} {m : Ph} (ho : OwnB k) (hge : h0.size ≤ m.r) (hf : Free φ H m.r) (hb : BR (upd φ H.nx m) m h k) :
    HR (upd φ H.nx m) h0 ⟨H.nx + 1, TT.set H.m H.nx (some k)⟩ h := by
  have hn := hr.fresh H.nx (Nat.le_refl _)
  have hsub := yaol hn m
  refine ⟨?_, hr.size, hr.old, ?_, ?_⟩
  · intro b hle
    simp only [] at hle
    rw [yaeb (by omega)]
    exact hr.fresh b (by omega)
  · intro b k' hk
    rcases yagz hk with ⟨rfl, rfl⟩ | ⟨hne, hk⟩
    · exact ⟨_, yabs _ _ _, fun _ => hge, fun hno => absurd ho hno, hb⟩
    · obtain ⟨m', hm, h1, h2, hbr⟩ := hr.blk b k' hk
      exact ⟨m', hsub _ _ hm, h1, h2, hbr.mono hsub⟩
  · intro b b' k1 k2 m1 g1 g2 o1 o2 e1 ⟨m', e2, he⟩
    rcases yagz g1 with ⟨rfl, _⟩ | ⟨n1, g1⟩ <;> rcases yagz g2 with ⟨e', _⟩ | ⟨n2, g2⟩
    · exact e'.symm
    · rw [yabs] at e1
      obtain rfl := Option.some.inj e1
      rw [yaeb n2] at e2
      exact absurd he.symm (hf b' k2 m' g2 o2 e2)
    · subst e'
      rw [yabs] at e2
      obtain rfl := Option.some.inj e2
      rw [yaeb n1] at e1
      exact absurd he (hf b k1 m1 g1 o1 e1)
    · rw [yaeb n1] at e1
      rw [yaeb n2] at e2
      exact hr.inj b b' _ _ m1 g1 g2 o1 o2 e1 ⟨m', e2, he⟩
structure Adopt (φ ψ : Phi) (H H' : AH) (r : Nat) : Prop where
  sub : Sub φ ψ
  new : ∀ b m, ψ b = some m → φ b = some m ∨ (b = H.nx ∧ m.r = r)
  nx : H'.nx = H.nx + 1
  old : ∀ b k, TT.get H'.m b = some k → b ≠ H.nx → TT.get H.m b = some k
theorem Step.adopt {ψ : Phi} {H1 H' : AH} {h' : Hp} {φ1 : Phi} {r : Nat} (s : Step φ φ1 h0 H H1 h h') (ad : Adopt φ1 ψ H1 H' r) (hr : HR ψ h0 H' h') (hge : h.size ≤ r) : Step φ ψ h0 H H' h h' where
  sub := s.sub.trans ad.sub
  new := fun b m e => by
    rcases ad.new b m e with e | ⟨rfl, rfl⟩
    · exact s.new b m e
    · exact .inr ⟨s.nx, .inl hge⟩
  hr := hr
  nx := by rw [ad.nx]; have := s.nx; omega
  size := s.size
  frm := s.frm
  live := fun b k g ho hlt => s.live b k (ad.old b k g (by have := s.nx; omega)) ho hlt
theorem Free.adopt {ψ : Phi} {H' : AH} {r r' : Nat} (hr : HR φ h0 H h) (ad : Adopt φ ψ H H' r) (hne : r ≠ r') (f : Free φ H r') : Free ψ H' r' := by
  intro b k m g ho e he
  rcases ad.new b m e with e' | ⟨rfl, rfl⟩
  · refine f b k m (ad.old b k g fun hb => ?_) ho e' he
    rw [hb, hr.fresh _ (Nat.le_refl _)] at e'; cases e'
  · exact hne he
theorem yaqy {o : Oper} {v : Value} {H' : AH} (hρ : ∀ x ∈ opds o.op, VR φ ((gE L x).run st e) (ρ x)) (hk : kO P o.op = 2) (he : (cOp P L o.op).run st e H call = .ok v H') :
    ∃ (blk : Obj) (vf : Nat → Value), (∀ h1 : Hp, hw P (execOp ρ o) h1 fun nx h' => nx = .value (vf h1.size) ∧ h' = h1.push blk) ∧
      ∀ (h0 h2 : Hp) (r : Nat), HR φ h0 H h2 → h2[r]? = some blk → h0.size ≤ r → Free φ H r → ∃ ψ, Adopt φ ψ H H' r ∧ HR ψ h0 H' h2 ∧ VR ψ v (vf r) := by
  generalize ho : o.op = op at hρ he hk
  have row : ∀ {h0 h2 : Hp} {r : Nat} {vs us : List Value} (z : Nat) (ty : TypeId), HR φ h0 H h2 → VRL φ vs us → h2[r]? = some (.cells us.toArray ty) → h0.size ≤ r → Free φ H r →
      Adopt φ (upd φ H.nx ⟨r, us.length, z⟩) H ⟨H.nx + 1, TT.set H.m H.nx (some (.row (lenV0 vs) z ty (mkT vs)))⟩ r ∧ HR (upd φ H.nx ⟨r, us.length, z⟩) h0 ⟨H.nx + 1, TT.set H.m H.nx (some (.row (lenV0 vs) z ty (mkT vs)))⟩ h2 := fun {h0 h2 r vs us} z ty hr hv hb hge hf => by
    have hn := hr.fresh H.nx (Nat.le_refl _)
    have hsub := yaol hn ⟨r, us.length, z⟩
    refine ⟨⟨hsub, fun b m e => ?_, rfl, fun b k g hne => ?_⟩, hr.adopt trivial hge hf ⟨_, (0, 0), hb, fun i _ hx => by simp at hx, by simp, rfl, ⟨by simp only [yabe, hv.len]; omega, fun _ => by simp only [yabe, hv.len]⟩, fun i v hi => ?_⟩⟩
    · by_cases hb : b = H.nx
      · subst hb
        rw [yabs] at e
        obtain rfl := Option.some.inj e
        exact .inr ⟨rfl, rfl⟩
      · rw [yaeb hb] at e; exact .inl e
    · rcases yagz g with ⟨rfl, _⟩ | ⟨_, g⟩
      · exact absurd rfl hne
      · exact g
    · have a3 := yamb hi
      obtain ⟨u, hu, hur⟩ := hv.get a3
      have hlt : i < us.length := (List.getElem?_eq_some_iff.1 hu).1
      refine ⟨by rw [yabe, hv.len]; exact hlt, u, ?_, hur.mono hsub⟩
      rw [List.getElem?_toArray]
      exact hu
  have box : ∀ {t : TypeId} {u : Value} {vs : List Value}, execOp ρ o = (do pure (.value (← (do pure (.pointer (some (← newVar t u))) : Sem Value))) : Sem Next) → (scalar u = true ∨ ∃ cs, u = .agg cs) → VRL φ vs u.cells.toList → boxN t vs H = .ok v H' →
      ∃ (blk : Obj) (vf : Nat → Value), (∀ h1 : Hp, hw P (execOp ρ o) h1 fun nx h' => nx = .value (vf h1.size) ∧ h' = h1.push blk) ∧
        ∀ (h0 h2 : Hp) (r : Nat), HR φ h0 H h2 → h2[r]? = some blk → h0.size ≤ r → Free φ H r → ∃ ψ, Adopt φ ψ H H' r ∧ HR ψ h0 H' h2 ∧ VR ψ v (vf r) := fun {t u vs} hx hu hv hb => by
    obtain ⟨rfl, rfl⟩ := yagl hb
    refine ⟨.cells u.cells.toList.toArray t, fun r => .pointer (some ⟨r, 0, none⟩), fun h1 => ?_, fun h0 h2 r hr hbl hge hf => ?_⟩
    · rw [hx, yaac]
      refine yabq _ _ _ _ (fun w h' hw' => ?_) (yael (P := P) (e := t) (v := u) (h := h1) (K := fun w h' => w = .pointer (some ⟨h1.size, 0, none⟩) ∧ h' = h1.push (.cells u.cells.toList.toArray t)) ?_)
      · obtain ⟨rfl, rfl⟩ := hw'
        exact ⟨rfl, rfl⟩
      · unfold boxV yaft
        rcases hu with hu | ⟨cs, hu⟩
        · rw [hu]
          have : u.cells.toList = [u] := by cases u <;> first | rfl | cases hu
          rw [this]
          exact ⟨rfl, rfl⟩
        · rw [hu]
          exact ⟨rfl, rfl⟩
    · obtain ⟨h1, h2⟩ := row 0 t hr hv hbl hge hf
      exact ⟨_, h1, h2, VR.ptr (m := ⟨r, u.cells.toList.length, 0⟩) _ _ (yabs _ _ _)⟩
  unfold cOp at he
  split at he
  · simp only [kO] at hk; omega
  · simp only [kO] at hk; split at hk <;> omega
  · simp only [kO] at hk; omega
  · simp only [kO] at hk; omega
  · -- a slice with its elements
    rename_i t n parts
    obtain ⟨f, hg, hx⟩ := yatv (xs := parts.toList.map (·.2)) fun y hy => hρ y (by simpa only [opds] using hy)
    cases hel : elemT P t with
    | none => simp only [hel] at he; cases he
    | some rr =>
      obtain ⟨el, sz⟩ := rr
      cases hz : zerL P el with
      | none => simp only [hg, hel, hz] at he; cases he
      | some zs =>
        simp only [hg, hel, hz] at he
        cases hc : (Nat.beq (lenV0 zs) sz && okP (Nat.mul n sz) (plcA sz parts.toList) && Nat.ble (Nat.mul n sz) 100000) with
        | false => simp only [hc] at he; cases he
        | true =>
          simp only [hc] at he
          simp only [Bool.and_eq_true] at hc
          obtain ⟨⟨c1, c2⟩, c3⟩ := hc
          have hl := Nat.eq_of_beq_eq_true c1
          have hlim := Nat.le_of_ble_eq_true c3
          have hlim : n * sz ≤ 100000 := hlim
          obtain ⟨hu, inf, hinf, hsz⟩ := yabk hel
          obtain ⟨i, z, hi, hzz, hzc, hpl⟩ := yahl hz
          obtain rfl : inf = i := by rw [hinf] at hi; exact Option.some.inj hi
          rw [yabe] at hl
          have hv' : VRL φ (f st e) ((parts.toList.map fun p => (p.1, ρ p.2)).map (·.2)) := by simpa [Function.comp_def] using hx
          cases hb : bldR (plcA sz parts.toList) (f st e) (repC zs n) with
          | none => rw [hb] at he; cases he
          | some cs =>
            rw [hb] at he
            obtain ⟨rfl, rfl⟩ := yagl (show newC sz el cs H (slX n (capX n)) = .ok v H' from he)
            have hzz0 : VRL φ (repC zs n) (repC zs n) := (VRL.plains hpl).rep n
            obtain ⟨ds', h1, h2, h3⟩ := yalp (place := fun i => some (i * inf.size, inf.size)) (parts := parts.toList.map fun p => (p.1, ρ p.2)) (by have := yaod (sz := sz) (parts := parts.toList); rw [← hsz] at this; simpa [Function.comp_def, ← hsz] using this) c2 hv' hzz0 (by rw [yahr, hl]; rfl) hb
            have e1 : (parts.toList.map fun p => (p.1, ρ p.2)).toArray = parts.map fun p => (p.1, ρ p.2) := by apply Array.ext'; simp
            refine ⟨.cells ds'.toArray el, fun r => .slice (some ⟨r, 0, none⟩) n n, fun hh => ?_, fun h0 h2' r hr hbl hge hf => ?_⟩
            · have hrep : ((Array.range (n * inf.size)).map (z.cells[· % z.cells.size]!)) = (repC zs n).toArray := by
                rw [yalf, hzc]
                have : n * inf.size = n * zs.length := by rw [hsz, hl]
                rw [this, yajw]
              have fin : hw P (do pure (Value.slice (some (← newRow el ds'.toArray)) n n) : Sem Value) hh (fun w h' => w = .slice (some ⟨hh.size, 0, none⟩) n n ∧ h' = hh.push (.cells ds'.toArray el)) := by
                simp only [yaac, newRow, newObj, yaam]
                exact ⟨rfl, rfl⟩
              have main : hw P (Instr.buildSlice t n (parts.toList.map fun p => (p.1, ρ p.2)).toArray) hh (fun w h' => w = .slice (some ⟨hh.size, 0, none⟩) n n ∧ h' = hh.push (.cells ds'.toArray el)) := by
                simp only [Instr.buildSlice, yaac, yaao, hu, yacj, hinf]
                rw [if_neg (by rw [hsz]; omega)]
                by_cases hn0 : n * inf.size = 0
                · have e0 : ∀ zs : Array Value, (Array.range (n * inf.size)).map (zs[· % zs.size]!) = #[] := by rw [hn0]; simp
                  simp only [if_pos hn0, yaam, yaac]
                  rw [e0, ← e0 z.cells, hrep, h1]
                  exact fin
                · simp only [if_neg hn0, yaac, yaaw hi hzz, yaam]
                  rw [hrep, h1]
                  exact fin
              rw [e1] at main
              have ex : execOp ρ o = (do pure (.value (← Instr.buildSlice t n (parts.map fun p => (p.1, ρ p.2)))) : Sem Next) := by unfold execOp; rw [ho]
              rw [ex, yaac]
              refine yabq _ _ _ _ (fun w h' hw' => ?_) main
              obtain ⟨rfl, rfl⟩ := hw'
              exact ⟨rfl, rfl⟩
            · obtain ⟨g1, g2⟩ := row sz el hr h2 hbl hge hf
              refine ⟨_, g1, g2, VR.sl (m := ⟨r, ds'.length, sz⟩) (yabs _ _ _) (fun _ => ?_) (fun hc => ?_) ?_ (Nat.le_refl _)⟩
              · show n = Nat.succ (2 * n) / 2; omega
              · exfalso; have : Nat.succ (2 * n) % 2 = 0 := hc; omega
              · show Nat.succ (2 * n) / 2 ≤ n; omega
  · simp only [kO] at hk; omega
  · -- a new variable
    rename_i t
    cases hz : zerL P t with
    | none => simp only [hz] at he; cases he
    | some zs =>
      simp only [hz] at he
      obtain ⟨i, z, hi, hzz, hzc, hpl⟩ := yahl hz
      have hb := he
      obtain ⟨rfl, rfl⟩ := yagl hb
      refine ⟨.cells zs.toArray t, fun r => .pointer (some ⟨r, 0, none⟩), fun h1 => ?_, fun h0 h2 r hr hbl hge hf => ?_⟩
      · have := yael (P := P) (e := t) (v := z) (h := h1) (K := fun w h' => w = .pointer (some ⟨h1.size, 0, none⟩) ∧ h' = h1.push (.cells zs.toArray t)) (yajv hpl hzc ⟨rfl, rfl⟩)
        simp only [execOp, ho]
        rw [yaac]
        refine yabq _ _ (fun w h' => w = .pointer (some ⟨h1.size, 0, none⟩) ∧ h' = h1.push (.cells zs.toArray t)) _ (fun w h' hw' => ?_) ?_
        · obtain ⟨rfl, rfl⟩ := hw'
          exact ⟨rfl, rfl⟩
        · simp only [Instr.alloc, yaac, yaaw hi hzz]
          rwa [yaac] at this
      · obtain ⟨h1, h2⟩ := row 0 t hr (VRL.plains hpl) hbl hge hf
        exact ⟨_, h1, h2, VR.ptr (m := ⟨r, zs.length, 0⟩) _ _ (yabs _ _ _)⟩
  · -- a variable with its value
    rename_i t x
    obtain ⟨f, hg, hx⟩ := yabi (hρ x (by simp [opds]))
    simp only [hg] at he
    obtain ⟨h1, h2⟩ := yawz hx he
    refine box (t := t) (u := ρ x) ?_ h2 hx.cells h1
    simp only [execOp, ho]
    rfl
  all_goals first | (simp only [kO] at hk; omega) | (simp only [kO] at hk; split at hk <;> omega) | cases he
end
open Go
section
variable {P : Program} {φ : Phi} {h0 : Hp} {H : AH} {h : Hp} {lc n : Nat} {L : Lay} {st : Stk} {e : En} {a B : Act} {gl : List Nat} {call : CallC} {all : List Oper}
theorem er_no {l : List Nat} {res : RC} (hres : OkC res) (he : RC.er l = res) : False := by
  obtain ⟨x, e', H', hres⟩ := hres
  rw [hres] at he; cases he
def ChkF (P : Program) (gl : List Nat) (n lc : Nat) (all : List Oper) (L : Lay) (st : Stk) (e : En) (H : AH) (call : CallC) (d : Nat) (o : Oper) : Prop :=
  okX gl lc L (.tmp d) = true ∧ okS gl n lc L all o = true ∧ ((GdY L st e all o.guard .yes ∧ ∃ v H', OpR P L st e H call o.op v H' ∧ eqV v ((gE L (.tmp d)).run st e) = true) ∨ GdY L st e all o.guard .no)
theorem ybds {d : Nat} {o : Oper} {r : List It} {K : Lay → Bx RF} {res : RC} (hres : OkC res) (he : (cIt P gl n lc all (.chk d o :: r) L K).run st e H call = res) :
    (cIt P gl n lc all r L K).run st e H call = res ∧ ChkF P gl n lc all L st e H call d o := by
  unfold cIt at he
  cases hok : (okX gl lc L (.tmp d) && okS gl n lc L all o) with
  | false => simp only [hok] at he; exact (er_no hres he).elim
  | true =>
    cases hge : gE L (.tmp d) with | mk x =>
    cases hcr : cIt P gl n lc all r L K with | mk g =>
    cases hev : evO P L o.op with | mk f =>
    rw [Bool.and_eq_true] at hok
    have hev' : ∀ v H', f st e H call = .ok v H' → OpR P L st e H call o.op v H' := fun v H' hf => ybev (by rw [hev]; exact hf)
    have hok2 : (okX gl lc L (.tmp d) && okS gl n lc L all o) = true := by rw [Bool.and_eq_true]; exact hok
    have yes : @RV.rec (fun _ => RF) (fun v _ st e H call => @Bool.rec (fun _ => RF) (fun _ _ _ _ => .er [145]) (fun st e H call => g st e H call) (eqV v (x st e)) st e H call) (fun l _ _ _ _ => .er l) (f st e H call) st e H call = res →
        g st e H call = res ∧ ∃ v H', OpR P L st e H call o.op v H' ∧ eqV v (x st e) = true := fun he => by
      cases hf : f st e H call with
      | er l => rw [hf] at he; exact (er_no hres he).elim
      | ok v H' =>
        rw [hf] at he
        have he : @Bool.rec (fun _ => RF) (fun _ _ _ _ => .er [145]) (fun st e H call => g st e H call) (eqV v (x st e)) st e H call = res := he
        cases hq : eqV v (x st e) with
        | false => rw [hq] at he; exact (er_no hres he).elim
        | true => rw [hq] at he; exact ⟨he, v, H', hev' v H' hf, hq⟩
    cases hgd : o.guard with
    | none =>
      have hg0 : grd L all none = none := rfl
      simp only [hok2, hge, hcr, hev, hgd, hg0] at he
      obtain ⟨h1, v, H', h2, h3⟩ := yes he
      exact ⟨h1, hok.1, hok.2, .inl ⟨by rw [hgd]; rfl, v, H', h2, by rw [hge]; exact h3⟩⟩
    | some gg =>
      obtain ⟨q, want, hq⟩ := yakq L all gg
      simp only [hok2, hge, hcr, hev, hgd, hq] at he
      cases hy : gdv (q st e) want with
      | bad => simp only [hy] at he; exact (er_no hres he).elim
      | no => simp only [hy] at he; exact ⟨he, hok.1, hok.2, .inr (by rw [hgd]; exact ⟨q, want, hq, hy⟩)⟩
      | yes =>
        simp only [hy] at he
        obtain ⟨h1, v, H', h2, h3⟩ := yes he
        exact ⟨h1, hok.1, hok.2, .inl ⟨by rw [hgd]; exact ⟨q, want, hq, hy⟩, v, H', h2, by rw [hge]; exact h3⟩⟩
theorem yajl {is : List It} {K : Lay → Bx RF} {res : RC} (hres : OkC res) : ∀ {ls : List Pl}, (cIt P gl n lc all (chks ls is) L K).run st e H call = res →
    (cIt P gl n lc all is L K).run st e H call = res ∧ ∀ s ∈ ls, ∀ d, s.o.dst = some d → ChkF P gl n lc all L st e H call d s.o
  | [], he => ⟨he, fun _ hs => by cases hs⟩
  | s :: r, he => by
    unfold chks at he
    split at he
    · rename_i d hd
      obtain ⟨h1, h2⟩ := ybds hres he
      obtain ⟨h3, h4⟩ := yajl hres h1
      refine ⟨h3, fun t ht d' hd' => ?_⟩
      rcases List.mem_cons.1 ht with rfl | ht
      · rw [hd] at hd'; cases hd'; exact h2
      · exact h4 t ht d' hd'
    · rename_i hd
      obtain ⟨h3, h4⟩ := yajl hres he
      refine ⟨h3, fun t ht d' hd' => ?_⟩
      rcases List.mem_cons.1 ht with rfl | ht
      · rw [hd] at hd'; cases hd'
      · exact h4 t ht d' hd'
theorem ybdx {o : Oper} {r : List It} {K : Lay → Bx RF} {res : RC} (hres : OkC res) (he : (cIt P gl n lc all (.prb o :: r) L K).run st e H call = res) :
    (cIt P gl n lc all r L K).run st e H call = res ∧ okS gl n lc L all o = true ∧ o.guard = none ∧ ∃ v H', (cOp P L o.op).run st e H call = .ok v H' := by
  unfold cIt at he
  cases hok : okS gl n lc L all o with
  | false => simp only [hok] at he; exact (er_no hres he).elim
  | true =>
    cases hgd : o.guard with
    | some gg => simp only [hok, hgd] at he; exact (er_no hres he).elim
    | none =>
      cases hcr : cIt P gl n lc all r L K with | mk g =>
      cases hc : cOp P L o.op with | mk f =>
      simp only [hok, hgd, hcr, hc] at he
      cases hf : f st e H call with
      | er l => simp only [hf] at he; exact (er_no hres he).elim
      | ok v H' => simp only [hf] at he; exact ⟨he, rfl, rfl, v, H', hf⟩
theorem yaxe {is : List It} {K : Lay → Bx RF} {res : RC} (hres : OkC res) : ∀ {fs : List Pl}, (cIt P gl n lc all (prbI fs is) L K).run st e H call = res →
    (cIt P gl n lc all is L K).run st e H call = res ∧ ∀ f ∈ fs, okS gl n lc L all f.o = true ∧ f.o.guard = none ∧ ∃ v H', (cOp P L f.o.op).run st e H call = .ok v H'
  | [], he => ⟨he, fun _ hs => by cases hs⟩
  | s :: r, he => by
    obtain ⟨h1, h2⟩ := ybdx hres (show (cIt P gl n lc all (.prb s.o :: prbI r is) L K).run st e H call = res from he)
    obtain ⟨h3, h4⟩ := yaxe hres h1
    refine ⟨h3, fun t ht => ?_⟩
    rcases List.mem_cons.1 ht with rfl | ht
    · exact h2
    · exact h4 t ht
theorem ChkF.use {d : Nat} {o : Oper} (c : ChkF P gl n lc all L st e H call d o) (ra : RelA φ lc n L st e B) (hg : yacl φ gl) (hr : HR φ h0 H h) (hk : kO P o.op ≤ 1) (hw : Region.wanted o (yielded all.toArray B.tmps) = true) :
    hq P (execOp B.eval o) h (valK fun u => u = B.tmps.getD d undef) := by
  obtain ⟨hx, hok, hc⟩ := c
  rcases hc with ⟨_, v, H', hv, hq⟩ | hy
  · obtain ⟨_, h2⟩ := yary ra hg hr hok hk hv
    obtain ⟨he, hf⟩ := yays (φ := φ) hq
    have hge := gE_ok ra hg hx
    rw [← he] at hge
    refine yacf _ _ _ _ (fun nx hn => ?_) h2
    obtain ⟨u, rfl, hu⟩ := hn
    exact ⟨u, rfl, hf _ _ hu hge⟩
  · have := yahg ra hg hok hy (by intro h; cases h)
    rw [hw] at this; cases this
theorem ybao {o : Oper} {K : Lay → Bx RF} {res : RC} (hres : OkC res) (ra : RelA φ lc n L st e B) (hg : yacl φ gl) (he : (cOps P gl n lc all [o] L K).run st e H call = res) :
    okS gl n lc L all o = true ∧
    ((Region.wanted o (yielded all.toArray B.tmps) = true ∧ ∃ x d L', o.op = .move (.tmp x) ∧ o.dst = some d ∧ RelA φ lc n L' st e (B.put (some d) (B.tmps.getD x undef)) ∧ (K L').run st e H call = res) ∨
     (Region.wanted o (yielded all.toArray B.tmps) = true ∧ ∃ v H', OpR P L st e H call o.op v H' ∧ ∀ (ψ : Phi) (u : Value), Sub φ ψ → VR ψ v u → ∃ L' st' e', RelA ψ lc n L' st' e' (B.put o.dst u) ∧ (K L').run st' e' H' call = res) ∨
     (Region.wanted o (yielded all.toArray B.tmps) = false ∧ ∃ L' st' e', RelA φ lc n L' st' e' (B.put o.dst undef) ∧ (K L').run st' e' H call = res)) := by
  cases hok : okS gl n lc L all o with
  | false =>
    unfold cOps at he
    simp only [hok] at he
    exact (er_no hres he).elim
  | true =>
    refine ⟨rfl, ?_⟩
    have fin : ∀ {ψ : Phi} {v u : Value} {H2 : AH}, Sub φ ψ → VR ψ v u → cont P gl n lc all [] L K st e H2 call o.dst v = res → ∃ L' st' e', RelA ψ lc n L' st' e' (B.put o.dst u) ∧ (K L').run st' e' H2 call = res := fun {ψ v u H2} hs hv hc => by
      cases hd : o.dst with
      | none =>
        rw [hd] at hc
        exact ⟨L, st, e, ra.mono hs, hc⟩
      | some d =>
        rw [hd] at hc
        unfold cont at hc
        simp only [] at hc
        obtain ⟨d1, d2⟩ := yaeq hok hd
        cases hl : Nat.testBit lc d with
        | true => simp only [hl] at hc; exact ⟨_, _, _, (ra.mono hs).push d1 hl hv, hc⟩
        | false => simp only [hl] at hc; exact ⟨_, _, _, (ra.mono hs).put d1 d2 hl hv, hc⟩
    cases hm : moveL lc L o [] with
    | some L' =>
      obtain ⟨hgd, x, d, hop, hd, ra2⟩ := yasv ra hm (fun d hd => (yaeq hok hd).1)
      have hw : Region.wanted o (yielded all.toArray B.tmps) = true := by unfold Region.wanted; rw [hgd]
      unfold cOps at he
      simp only [hok, hm] at he
      exact .inl ⟨hw, x, d, L', hop, hd, ra2, he⟩
    | none =>
      rcases yapk hres hok hm he with ⟨v, H', hv, hy, hc⟩ | ⟨hy, hc⟩
      · have hw : Region.wanted o (yielded all.toArray B.tmps) = true := yahg ra hg hok hy (by intro h; cases h)
        exact .inr (.inl ⟨hw, v, H', hv, fun ψ u hs hu => fin hs hu hc⟩)
      · have hw : Region.wanted o (yielded all.toArray B.tmps) = false := yahg ra hg hok hy (by intro h; cases h)
        exact .inr (.inr ⟨hw, fin (Sub.refl φ) (.tup .nil) hc⟩)
theorem yawr {op : Op} (h : kO P op ≠ 3) : yaiy op = false := by cases op <;> first | rfl | exact absurd rfl h
theorem yazi {op : Op} (h : kO P op ≠ 3) : yacq op = false := by cases op <;> first | rfl | exact absurd rfl h
theorem yask (o : Oper) (r : List It) : (copyO o r).dst = o.dst ∧ (copyO o r).guard = o.guard ∧ (∀ ρ, execOp ρ (copyO o r) = execOp ρ o) ∧ ((copyO o r = o) ∨ ∃ x, (copyO o r).op = .assign x) := by
  unfold copyO
  split
  · rename_i x hx
    split
    · refine ⟨rfl, rfl, fun ρ => ?_, .inr ⟨_, rfl⟩⟩
      unfold execOp
      rw [hx]
    · exact ⟨rfl, rfl, fun _ => rfl, .inl rfl⟩
  · exact ⟨rfl, rfl, fun _ => rfl, .inl rfl⟩
theorem ybay {o : Oper} (r : List It) (h : ¬ kO P o.op ≤ 1) : copyO o r = o := by
  unfold copyO
  split
  · rename_i x hx
    rw [hx] at h
    exact absurd (Nat.zero_le _) h
  · rfl
theorem ybgl {o : Oper} {r : List It} {K : Lay → Bx RF} {res : RC} (hres : OkC res) (ra : RelA φ lc n L st e B) (hg : yacl φ gl) (hr : HR φ h0 H h) (hk : kO P o.op ≤ 1) (he : (cOps P gl n lc all [copyO o r] L K).run st e H call = res) :
    (∀ d, o.dst = some d → d < n) ∧ ∃ u L' st' e', RelA φ lc n L' st' e' (B.put o.dst u) ∧ (K L').run st' e' H call = res ∧
      ((Region.wanted o (yielded all.toArray B.tmps) = true ∧ yaea P B o h u) ∨ (Region.wanted o (yielded all.toArray B.tmps) = false ∧ u = undef)) := by
  obtain ⟨hok, hc⟩ := ybao hres ra hg he
  obtain ⟨c1, c2, c3, c4⟩ := yask o r
  have cw : Region.wanted (copyO o r) (yielded all.toArray B.tmps) = Region.wanted o (yielded all.toArray B.tmps) := by unfold Region.wanted; rw [c2]
  rw [cw, c1] at hc
  refine ⟨fun d hd => (yaeq hok (by rw [c1]; exact hd)).1, ?_⟩
  rcases hc with ⟨hw, x, d, L', hop, hd, ra2, h1⟩ | ⟨hw, v, H', hv, h1⟩ | ⟨hw, L', st', e', ra2, h1⟩
  · refine ⟨_, L', st, e, by rw [hd]; exact ra2, h1, .inl ⟨hw, fun w _ => ?_⟩⟩
    rw [← c3]
    simp only [execOp, hop]
    rfl
  · have hq : H' = H ∧ hq P (execOp B.eval (copyO o r)) h (valK (VR φ v)) := by
      rcases c4 with c4 | ⟨y, c4⟩
      · exact yary ra hg hr hok (by rw [c4]; exact hk) hv
      · have hok' := hok
        unfold okS at hok'
        simp only [Bool.and_eq_true] at hok'
        rcases hv with ⟨F, hp, hf, rfl⟩ | ⟨hp, _⟩
        · exact ⟨rfl, yazg (P := P) (h := h) (fun x hx => gE_ok ra hg (yaat hok'.1.1 x hx)) hp hf⟩
        · rw [c4] at hp
          have e1 : pOp P L (.assign y) = (match gE L y with | .mk x => some (.mk fun st e => .ok (x st e))) := rfl
          rw [e1] at hp
          cases hge : gE L y with | mk q => rw [hge] at hp; cases hp
    obtain ⟨rfl, h2⟩ := hq
    rw [c3] at h2
    obtain ⟨nx, ⟨u, rfl, hu⟩, hrun⟩ := yake _ _ _ h2
    obtain ⟨L', st', e', ra2, h3⟩ := h1 φ u (Sub.refl φ) hu
    exact ⟨u, L', st', e', ra2, h3, .inl ⟨hw, hrun⟩⟩
  · exact ⟨undef, L', st', e', ra2, h1, .inr ⟨hw, rfl⟩⟩
def Early (P : Program) (hs : Hp) (φ : Phi) (H : AH) (h : Hp) (A B : Act) (done : Nat) (L : Array Bool) (r : Nat) (f : Pl) : Prop :=
  f.k = 2 ∧ f.o.guard = none ∧ Nat.land f.m done = f.m ∧ L.getD f.j false = true ∧ ∃ (d : Nat) (blk : Obj) (vf : Nat → Value), f.o.dst = some d ∧ A.tmps[d]? = some (vf r) ∧ h[r]? = some blk ∧ hs.size ≤ r ∧ Free φ H r ∧
    ∀ h1 : Hp, hw P (execOp B.eval f.o) h1 fun nx h' => nx = .value (vf h1.size) ∧ h' = h1.push blk
theorem Early.mono {hs : Hp} {A A' B' : Act} {done done' : Nat} {Ls Ls' : Array Bool} {r : Nat} {f : Pl} {φ' : Phi} {H' : AH} {h' : Hp} (E : Early P hs φ H h A B done Ls r f) (hA : ∀ t, f.o.dst = some t → A'.tmps[t]? = A.tmps[t]?) (hB : execOp B'.eval f.o = execOp B.eval f.o)
    (hd : ∀ i, Nat.testBit done i = true → Nat.testBit done' i = true) (hL : Ls.getD f.j false = true → Ls'.getD f.j false = true) (hh : r < h.size → h'[r]? = h[r]?) (hF : r < h.size → Free φ' H' r) : Early P hs φ' H' h' A' B' done' Ls' r f := by
  obtain ⟨h1, h2, h3, h4, d, blk, vf, h5, h6, h7, h8, h9, h10⟩ := E
  have hlt : r < h.size := (Array.getElem?_eq_some_iff.1 h7).1
  exact ⟨h1, h2, yaxu fun i hi => hd i (yahw h3 hi), hL h4, d, blk, vf, h5, by rw [hA d h5]; exact h6, by rw [hh hlt]; exact h7, h8, hF hlt, by rw [hB]; exact h10⟩
theorem yaop {p q : Pl} (hp : PlOk P all p) (hq : PlOk P all q) (h : PairOk all p.j q.j) :
    (∀ d, q.o.dst = some d → (d ∉ p.o.looksAt all.toArray ∨ (yaiy q.o.op = true ∧ Nat.testBit q.m p.j = true)) ∧ p.o.dst ≠ some d) ∧ (∀ d, p.o.dst = some d → d ∈ q.o.looksAt all.toArray → Nat.testBit q.m p.j = true) := by
  obtain ⟨x, y, hx, hy, h1, h2, _⟩ := h.out
  rw [hp.get] at hx
  rw [hq.get] at hy
  cases hx
  cases hy
  rw [yauh hq] at h1 h2
  exact ⟨h1, h2⟩
theorem yaii {A : Act} {d : Option Nat} {u : Value} {t : Nat} (h : d ≠ some t) : (A.put d u).tmps[t]? = A.tmps[t]? := by
  cases d with
  | none => rfl
  | some d =>
    simp only [Act.put]
    exact Array.getElem?_setIfInBounds_ne fun e => h (by rw [e])
theorem yagg {A : Act} {d : Nat} {u : Value} (h : d < A.tmps.size) : (A.put (some d) u).tmps[d]? = some u := by
  simp only [Act.put]
  rw [Array.getElem?_setIfInBounds_self, if_pos h]
end
open Go
structure Vs where
  A : Act
  B : Act
  rem : List Nat
  er : Nat → Nat
  pre : List Pl
  ps : List Pl
  done : Nat
  Ly : Lay
  st : Stk
  e : En
  H : AH
  φ : Phi
noncomputable def runV (P : Program) (gl : List Nat) (n lc : Nat) (all : List Oper) (call : CallC) (k : Lay → Bx RF) (x : Vs) : RC := (cIt P gl n lc all (itsO x.pre x.ps) x.Ly k).run x.st x.e x.H call
structure J (P : Program) (gl : List Nat) (n lc : Nat) (all : List Oper) (h0 : Hp) (a0 : Act) (w0 : World) (φ0 : Phi) (H0 : AH) (L : Array Bool) (a : Act) (w : World) (x : Vs) : Prop where
  inv : Inv P n all a0 w0 L a x.A w x.rem (List.range all.length) []
  step : Step φ0 x.φ h0 H0 x.H w0.heap w.heap
  glob : yacl x.φ gl
  rel : RelA x.φ lc n x.Ly x.st x.e x.B
  ab : ∀ t, (∀ f ∈ x.ps, f.j ∉ x.rem → f.o.dst ≠ some t) → x.A.tmps[t]? = x.B.tmps[t]?
  early : ∀ f ∈ x.ps, f.j ∉ x.rem → Early P w0.heap x.φ x.H w.heap x.A x.B x.done L (x.er f.j) f
  einj : ∀ f ∈ x.ps, ∀ g ∈ x.ps, f.j ∉ x.rem → g.j ∉ x.rem → x.er f.j = x.er g.j → f.j = g.j
  remps : ∀ j ∈ x.rem, ∃ p ∈ x.ps, p.j = j
  bits : ∀ i, Nat.testBit x.done i = true ↔ ∃ s ∈ x.pre, s.j = i
  okpre : ∀ p ∈ x.pre, PlOk P all p ∧ (p.k ≤ 1 → ∃ d, p.o.dst = some d) ∧ (L.getD p.j false = false → p.k ≤ 1)
  okps : ∀ p ∈ x.ps, PlOk P all p
  chk : chkO all (masks all []) x.done x.pre x.ps = true
section
variable {P : Program} {h0 : Hp} {lc n : Nat} {gl : List Nat} {call : CallC} {all : List Oper} {a0 : Act} {w0 : World} {φ0 : Phi} {H0 : AH} {L : Array Bool} {a : Act} {w : World} {k : Lay → Bx RF} {res : RC} {x : Vs}
theorem J.late_of (b : J P gl n lc all h0 a0 w0 φ0 H0 L a w x) {j : Nat} (hj : j < all.length) (hr : j ∉ x.rem) (hl : L.getD j false = false) : ∃ s ∈ x.pre, s.j = j := by
  rcases yakf b.chk j hj with h | ⟨t, ht, e⟩
  · exact (b.bits j).1 h
  · have := (b.early t ht (by rw [e]; exact hr)).2.2.2.1
    rw [e, hl] at this; cases this
theorem J.fresh (b : J P gl n lc all h0 a0 w0 φ0 H0 L a w x) {s t : Pl} (hs : s ∈ x.pre) (ht : t ∈ x.ps) : s.j ≠ t.j := fun e => by
  have h1 := yafx b.chk t ht
  have h2 := (b.bits s.j).2 ⟨s, hs, rfl⟩
  rw [e, h1] at h2; cases h2
theorem J.edge (b : J P gl n lc all h0 a0 w0 φ0 H0 L a w x) {p : Pl} (hp : PlOk P all p) (hall : ∀ e ∈ p.o.after, Region.binds .any e = true → L.getD e.on false = true) {i : Nat} (hl : L.getD i false = false) : Nat.testBit p.m i = false := by
  cases hb : Nat.testBit p.m i with
  | false => rfl
  | true =>
    have := yads b.inv.closed hp.get (by rw [yauh hp]; exact hb) hall
    rw [hl] at this; cases this
theorem J.before (b : J P gl n lc all h0 a0 w0 φ0 H0 L a w x) {s f : Pl} (hs : PlOk P all s) (hf : f ∈ x.ps) (hk : f.k = 2) (hp : pairB all (masks all []) s.j f.j = true) :
    ∀ d, f.o.dst = some d → d ∉ s.o.looksAt all.toArray ∧ s.o.dst ≠ some d := fun d hd => by
  have hfp := b.okps f hf
  obtain ⟨h1, h2⟩ := (yaop hs hfp (yadf hp)).1 d hd
  refine ⟨h1.elim id fun h => ?_, h2⟩
  have := yawr (P := P) (op := f.o.op) (by rw [← hfp.k, hk]; omega)
  rw [h.1] at this; cases this
theorem J.looks_pre (b : J P gl n lc all h0 a0 w0 φ0 H0 L a w x) {s : Pl} (hs : s ∈ x.pre) : ∀ t ∈ s.o.looksAt all.toArray, x.A.tmps[t]? = x.B.tmps[t]? := fun t ht => b.ab t fun f hf hr hd =>
  (b.before (b.okpre s hs).1 hf (b.early f hf hr).1 (yabv (yabm b.chk s hs f hf)).1 t hd).1 ht
theorem J.dst_pre (b : J P gl n lc all h0 a0 w0 φ0 H0 L a w x) {s : Pl} (hs : s ∈ x.pre) {d : Nat} (hd : s.o.dst = some d) : x.A.tmps[d]? = x.B.tmps[d]? := b.ab d fun f hf hr hfd =>
  (b.before (b.okpre s hs).1 hf (b.early f hf hr).1 (yabv (yabm b.chk s hs f hf)).1 d hfd).2 hd
theorem J.looks_head (b : J P gl n lc all h0 a0 w0 φ0 H0 L a w x) {p : Pl} {r : List Pl} (hps : x.ps = p :: r) (hin : p.j ∈ x.rem) : ∀ t ∈ p.o.looksAt all.toArray, x.A.tmps[t]? = x.B.tmps[t]? := fun t ht => b.ab t fun f hf hr hd => by
  have hc := b.chk
  rw [hps] at hc
  have hf' := hf
  rw [hps] at hf'
  rcases List.mem_cons.1 hf' with rfl | hf'
  · exact hr hin
  · exact (b.before (b.okps p (by rw [hps]; exact List.mem_cons_self)) hf (b.early f hf hr).1 (yabv (yabm (yabo hc).next p List.mem_cons_self f hf')).1 t hd).1 ht
theorem J.looks_float (b : J P gl n lc all h0 a0 w0 φ0 H0 L a w x) {f : Pl} (hf : f ∈ x.ps) (hin : f.j ∈ x.rem) (hm : Nat.land f.m x.done = f.m) : ∀ t ∈ f.o.looksAt all.toArray, x.A.tmps[t]? = x.B.tmps[t]? := fun t ht => b.ab t fun g hg hr hd => by
  have hgp := b.okps g hg
  have hb := (yaop hgp (b.okps f hf) (b.inv.pairs g.j (yaas hgp.get) hr f.j hin)).2 t hd ht
  have := yahw hm hb
  rw [yafx b.chk g hg] at this; cases this
theorem J.head (b : J P gl n lc all h0 a0 w0 φ0 H0 L a w x) {p : Pl} {r : List Pl} (hps : x.ps = p :: r) {f : Pl} (hf : f ∈ r) (hr : f.j ∉ x.rem) (u : Value) :
    (∀ t, f.o.dst = some t → p.o.dst ≠ some t) ∧ execOp (x.B.put p.o.dst u).eval f.o = execOp x.B.eval f.o := by
  have hc := b.chk
  rw [hps] at hc
  have hfx : f ∈ x.ps := by rw [hps]; exact List.mem_cons_of_mem _ hf
  have hpp := b.okps p (by rw [hps]; exact List.mem_cons_self)
  have hfp := b.okps f hfx
  have E := b.early f hfx hr
  have pr := yaop hpp hfp (yadf (yabv (yabm (yabo hc).next p List.mem_cons_self f hf)).1)
  refine ⟨fun t ht => (pr.1 t ht).2, (yabc (all := all) (yazi (P := P) (by rw [← hfp.k, E.1]; omega)) (yahe fun t ht hm => ?_)).1⟩
  have := yahw E.2.2.1 (pr.2 t ht hm)
  rw [(yabo hc).new] at this; cases this
theorem yakv {done j : Nat} {pre : List Pl} {p : Pl} (hj : p.j = j) (h : ∀ i, Nat.testBit done i = true ↔ ∃ s ∈ pre, s.j = i) (i : Nat) : Nat.testBit (Nat.lor done (Nat.pow 2 j)) i = true ↔ ∃ s ∈ p :: pre, s.j = i := by
  rw [yagp, Bool.or_eq_true, decide_eq_true_eq, h]
  constructor
  · rintro (⟨s, hs, e⟩ | e)
    · exact ⟨s, List.mem_cons_of_mem _ hs, e⟩
    · exact ⟨p, List.mem_cons_self, hj.trans e⟩
  · rintro ⟨s, hs, e⟩
    rcases List.mem_cons.1 hs with h1 | h1
    · exact .inr (by rw [← e, h1, hj])
    · exact .inl ⟨s, h1, e⟩
theorem J.quiet (b : J P gl n lc all h0 a0 w0 φ0 H0 L a w x) {p : Pl} {r : List Pl} (hps : x.ps = p :: r) (hk : p.k ≤ 1) (hres : OkC res) (he : runV P gl n lc all call k x = res) :
    p.j ∈ x.rem ∧ ∃ x', J P gl n lc all h0 a0 w0 φ0 H0 L a w x' ∧ runV P gl n lc all call k x' = res ∧ x'.rem = delN p.j x.rem ∧ x'.ps = r := by
  have hin : p.j ∈ x.rem := by
    apply Classical.byContradiction
    intro hn
    have := (b.early p (by rw [hps]; exact List.mem_cons_self) hn).1
    omega
  have lookp := b.looks_head hps hin
  have heads := fun {f : Pl} (hf : f ∈ r) (hr : f.j ∉ x.rem) (u : Value) => b.head hps hf hr u
  obtain ⟨A, B, rem, er, pre, ps, done, Ly, st, e, H, φ⟩ := x
  obtain rfl : ps = p :: r := hps
  have c := yabo b.chk
  have hp := b.okps p List.mem_cons_self
  have hkk : kO P p.o.op ≤ 1 := by rw [← hp.k]; exact hk
  have he : (cOps P gl n lc all [copyO p.o (itsO (p :: pre) r)] Ly fun L' => cIt P gl n lc all (itsO (p :: pre) r) L' k).run st e H call = res := by
    have he : (cIt P gl n lc all (match Nat.ble p.k 1 with | true => .op p :: itsO (p :: pre) r | false => chks (firms (prbs p r) pre) (prbI (prbs p r) (.op p :: chks (lates p pre) (itsO (p :: pre) r)))) Ly k).run st e H call = res := he
    rw [Nat.ble_eq_true_of_le hk] at he
    exact he
  obtain ⟨hdn, u, L', st', e', hrel, hrun, hu⟩ := ybgl hres b.rel b.glob b.step.hr hkk he
  obtain ⟨hs1, hs2, hs3⟩ := yabx hp.get c.self
  have hhd := yawr (P := P) (op := p.o.op) (by omega)
  have hle := yabc (all := all) (a := A) (A := B) hs3 lookp
  have hil := yaas hp.get
  have hpair : ∀ j ∈ delN p.j rem, PairOk all p.j j := fun j hj => by
    obtain ⟨h1, h2⟩ := yaav.1 hj
    obtain ⟨t, ht, rfl⟩ := b.remps j h1
    rcases List.mem_cons.1 ht with h3 | h3
    · exact absurd (by rw [h3]) h2
    · exact yadf (yabv (yabm c.next p List.mem_cons_self t h3)).1
  have hsz : A.tmps.size = n := b.inv.mdl.size
  have out : ∀ {f : Pl}, f ∈ r → f.j ∉ delN p.j rem → f.j ∉ rem := fun {f} hf h hm => h (yaav.2 ⟨hm, fun e => yamf b.chk f hf e.symm⟩)
  refine ⟨hin, ⟨A.put p.o.dst u, B.put p.o.dst u, delN p.j rem, er, p :: pre, r, Nat.lor done (Nat.pow 2 p.j), L', st', e', H, φ⟩, ?_, hrun, rfl, rfl⟩
  refine ⟨b.inv.quiet hp.get hin c.self hpair hs3 hhd (fun _ h => h) ⟨by cases hd : p.o.dst <;> simp [Act.put, hsz], fun i v h => by cases h⟩ hdn ?_ hs2, b.step, b.glob, hrel, ?_, ?_, ?_, ?_, yakv rfl b.bits, ?_, fun q hq => b.okps q (List.mem_cons_of_mem _ hq), c.next⟩
  · rcases hu with ⟨h1, h2⟩ | ⟨h1, h2⟩
    · exact .inl ⟨by rw [hle.2]; exact h1, fun w' hw' => by rw [hle.1]; exact h2 w' hw', .inr (List.mem_range.2 hil)⟩
    · exact .inr ⟨by rw [hle.2]; exact h1, h2⟩
  · intro t ht
    by_cases hd : p.o.dst = some t
    · show (A.put p.o.dst u).tmps[t]? = (B.put p.o.dst u).tmps[t]?
      rw [hd, yagg (by rw [hsz]; exact hdn t hd), yagg (by rw [b.rel.size]; exact hdn t hd)]
    · show (A.put p.o.dst u).tmps[t]? = (B.put p.o.dst u).tmps[t]?
      rw [yaii hd, yaii hd]
      refine b.ab t fun f hf hr => ?_
      rcases List.mem_cons.1 hf with h1 | h1
      · exact absurd (by rw [h1]; exact hin) hr
      · exact ht f h1 fun hm => hr (yaav.1 hm).1
  · intro f hf hr
    have hr := out hf hr
    obtain ⟨h1, h2⟩ := heads hf hr u
    exact (b.early f (List.mem_cons_of_mem _ hf) hr).mono (fun t ht => yaii (h1 t ht)) h2 (fun i hi => by rw [yagp, hi]; rfl) id (fun _ => rfl) (fun _ => (b.early f (List.mem_cons_of_mem _ hf) hr).2.2.2.2.choose_spec.choose_spec.choose_spec.2.2.2.2.1)
  · intro f hf g hg hr1 hr2
    exact b.einj f (List.mem_cons_of_mem _ hf) g (List.mem_cons_of_mem _ hg) (out hf hr1) (out hg hr2)
  · intro j hj
    obtain ⟨h1, h2⟩ := yaav.1 hj
    obtain ⟨t, ht, rfl⟩ := b.remps j h1
    rcases List.mem_cons.1 ht with h3 | h3
    · exact absurd (by rw [h3]) h2
    · exact ⟨t, h3, rfl⟩
  · intro q hq
    rcases List.mem_cons.1 hq with h1 | h1
    · rw [h1]; exact ⟨hp, fun _ => c.dst (by omega), fun _ => hk⟩
    · exact b.okpre q h1
end
open Go
section
variable {P : Program} {h0 : Hp} {lc n : Nat} {gl : List Nat} {call : CallC} {all : List Oper} {a0 : Act} {w0 : World} {φ0 : Phi} {H0 : AH} {L : Array Bool} {a : Act} {w : World} {k : Lay → Bx RF} {res : RC} {x : Vs}
theorem yazd {op : Op} {L : Lay} (h : kO P op = 2) : pOp P L op = none := by
  cases op <;> first | rfl | (exfalso; simp only [kO] at h; first | (cases h; done) | omega | (split at h <;> omega) | skip)
  rename_i c
  obtain ⟨cal, args, tys⟩ := c
  cases cal with
  | builtin b => cases b <;> simp only [kO] at h <;> omega
  | _ => simp only [kO] at h; omega
theorem ybad {s : Sem Next} {blk blk2 : Obj} {vf vf2 : Nat → Value} (h1 : ∀ h1 : Hp, hw P s h1 fun nx h' => nx = .value (vf h1.size) ∧ h' = h1.push blk) (h2 : ∀ h1 : Hp, hw P s h1 fun nx h' => nx = .value (vf2 h1.size) ∧ h' = h1.push blk2) (w : World) (r : Nat) : vf r = vf2 r ∧ blk = blk2 := by
  have f1 := yavg _ _ _ (h1 (Array.replicate r blk)) { w with heap := Array.replicate r blk } rfl
  have f2 := yavg _ _ _ (h2 (Array.replicate r blk)) { w with heap := Array.replicate r blk } rfl
  obtain ⟨nx, w1, r1, _, e1, e2⟩ := f1
  obtain ⟨nx2, w2, r2, _, e3, e4⟩ := f2
  rw [r1] at r2
  cases r2
  rw [e1, Array.size_replicate] at e3
  rw [e2] at e4
  refine ⟨by injection e3, ?_⟩
  have := congrArg (fun l : Hp => l.back?) e4
  simpa using this
theorem ybfe {p : Pl} {r pre : List Pl} (hk : ¬ p.k ≤ 1) : itsO pre (p :: r) = chks (firms (prbs p r) pre) (prbI (prbs p r) (It.op p :: chks (lates p pre) (itsO (p :: pre) r))) := by
  show (match Nat.ble p.k 1 with | true => It.op p :: itsO (p :: pre) r | false => chks (firms (prbs p r) pre) (prbI (prbs p r) (It.op p :: chks (lates p pre) (itsO (p :: pre) r)))) = _
  have : Nat.ble p.k 1 = false := by cases hb : Nat.ble p.k 1 with | false => rfl | true => exact absurd (Nat.le_of_ble_eq_true hb) hk
  rw [this]
theorem run_2 {p : Pl} {r : List Pl} (hp : PlOk P all p) (hps : x.ps = p :: r) (hk : ¬ p.k ≤ 1) (hres : OkC res) (he : runV P gl n lc all call k x = res) :
    (cOps P gl n lc all [p.o] x.Ly fun L' => cIt P gl n lc all (chks (lates p x.pre) (itsO (p :: x.pre) r)) L' k).run x.st x.e x.H call = res ∧
      (∀ s ∈ firms (prbs p r) x.pre, ∀ d, s.o.dst = some d → ChkF P gl n lc all x.Ly x.st x.e x.H call d s.o) ∧ ∀ f ∈ prbs p r, okS gl n lc x.Ly all f.o = true ∧ f.o.guard = none ∧ ∃ v H', (cOp P x.Ly f.o.op).run x.st x.e x.H call = .ok v H' := by
  unfold runV at he
  rw [hps, ybfe hk] at he
  obtain ⟨h1, h2⟩ := yajl hres he
  obtain ⟨h3, h4⟩ := yaxe hres h1
  refine ⟨?_, h2, h4⟩
  have h3 : (cOps P gl n lc all [copyO p.o (chks (lates p x.pre) (itsO (p :: x.pre) r))] x.Ly fun L' => cIt P gl n lc all (chks (lates p x.pre) (itsO (p :: x.pre) r)) L' k).run x.st x.e x.H call = res := h3
  rw [ybay (P := P) _ (by rw [← hp.k]; exact hk)] at h3
  exact h3
theorem J.adopt (hr0 : HR φ0 h0 H0 w0.heap) (b : J P gl n lc all h0 a0 w0 φ0 H0 L a w x) {p : Pl} {r : List Pl} (hps : x.ps = p :: r) (hk : ¬ p.k ≤ 1) (hin : p.j ∉ x.rem) (hres : OkC res) (he : runV P gl n lc all call k x = res) :
    ∃ x', J P gl n lc all h0 a0 w0 φ0 H0 L a w x' ∧ runV P gl n lc all call k x' = res ∧ x'.rem = x.rem ∧ x'.ps = r := by
  obtain ⟨he1, _, _⟩ := run_2 (b.okps p (by rw [hps]; exact List.mem_cons_self)) hps hk hres he
  have E := b.early p (by rw [hps]; exact List.mem_cons_self) hin
  have heads := fun {f : Pl} (hf : f ∈ r) (hr : f.j ∉ x.rem) (u : Value) => b.head hps hf hr u
  obtain ⟨A, B, rem, er, pre, ps, done, Ly, st, e, H, φ⟩ := x
  obtain rfl : ps = p :: r := hps
  have c := yabo b.chk
  have hp := b.okps p List.mem_cons_self
  obtain ⟨hk2, hgn, hsub, hL, d, blk, vf, hd, hA, hbl, hge, hfree, hform⟩ := E
  have hkk : kO P p.o.op = 2 := by rw [← hp.k]; exact hk2
  obtain ⟨hok, hc⟩ := ybao hres b.rel b.glob he1
  have hwt : Region.wanted p.o (yielded all.toArray B.tmps) = true := by unfold Region.wanted; rw [hgn]
  rcases hc with ⟨_, x, d', L', hop, _⟩ | ⟨_, v, H', hv, h2⟩ | ⟨hw, _⟩
  · rw [hop] at hkk; simp only [kO] at hkk; omega
  · have hv : (cOp P Ly p.o.op).run st e H call = .ok v H' := by
      rcases hv with ⟨F, hF, _⟩ | ⟨_, hv⟩
      · rw [yazd hkk] at hF; cases hF
      · exact hv
    have hok' := hok
    unfold okS at hok'
    simp only [Bool.and_eq_true] at hok'
    obtain ⟨blk2, vf2, hform2, had⟩ := yaqy (P := P) (φ := φ) (ρ := B.eval) (fun y hy => gE_ok b.rel b.glob (yaat hok'.1.1 y hy)) hkk hv
    obtain ⟨ev, eb⟩ := ybad hform hform2 w (er p.j)
    have hge0 : h0.size ≤ er p.j := Nat.le_trans hr0.size hge
    obtain ⟨ψ, ad, hrψ, hvr⟩ := had h0 w.heap (er p.j) b.step.hr (by rw [hbl, eb]) hge0 hfree
    obtain ⟨L', st', e', hrel, hrun⟩ := h2 ψ (vf (er p.j)) ad.sub (by rw [ev]; exact hvr)
    obtain ⟨he3, _⟩ := yajl hres hrun
    have hdn := (yaeq hok hd).1
    refine ⟨⟨A, B.put p.o.dst (vf (er p.j)), rem, er, p :: pre, r, Nat.lor done (Nat.pow 2 p.j), L', st', e', H', ψ⟩, ?_, he3, rfl, rfl⟩
    refine ⟨b.inv, b.step.adopt ad hrψ hge, b.glob.mono ad.sub, hrel, ?_, ?_, ?_, ?_, yakv rfl b.bits, ?_, fun q hq => b.okps q (List.mem_cons_of_mem _ hq), c.next⟩
    · intro t ht
      show A.tmps[t]? = (B.put p.o.dst (vf (er p.j))).tmps[t]?
      by_cases hdt : p.o.dst = some t
      · rw [hdt, yagg (by rw [b.rel.size]; exact (yaeq hok hdt).1)]
        rw [hd] at hdt
        cases hdt
        exact hA
      · rw [yaii hdt]
        refine b.ab t fun f hf hr => ?_
        rcases List.mem_cons.1 hf with h1 | h1
        · rw [h1]; exact hdt
        · exact ht f h1 hr
    · intro f hf hr
      obtain ⟨h1, h3⟩ := heads hf hr (vf (er p.j))
      have E2 := b.early f (List.mem_cons_of_mem _ hf) hr
      refine E2.mono (fun t _ => rfl) h3 (fun i hi => by rw [yagp, hi]; rfl) id (fun _ => rfl) (fun _ => Free.adopt b.step.hr ad (fun he => ?_) E2.2.2.2.2.choose_spec.choose_spec.choose_spec.2.2.2.2.1)
      exact yamf b.chk f hf (b.einj p List.mem_cons_self f (List.mem_cons_of_mem _ hf) hin hr he)
    · intro f hf g hg hr1 hr2
      exact b.einj f (List.mem_cons_of_mem _ hf) g (List.mem_cons_of_mem _ hg) hr1 hr2
    · intro j hj
      obtain ⟨t, ht, rfl⟩ := b.remps j hj
      rcases List.mem_cons.1 ht with h3 | h3
      · exact absurd (by rw [← h3]; exact hj) hin
      · exact ⟨t, h3, rfl⟩
    · intro q hq
      rcases List.mem_cons.1 hq with h1 | h1
      · rw [h1]; exact ⟨hp, fun _ => c.dst (by omega), fun h => by rw [hL] at h; cases h⟩
      · exact b.okpre q h1
  · rw [hwt] at hw; cases hw
theorem J.next (hr0 : HR φ0 h0 H0 w0.heap) (b : J P gl n lc all h0 a0 w0 φ0 H0 L a w x) {p : Pl} {r : List Pl} (hps : x.ps = p :: r) (hin : p.j ∈ x.rem) (hall : ∀ e ∈ p.o.after, Region.binds .any e = true → L.getD e.on false = true) (hok : okS gl n lc x.Ly all p.o = true)
    {u : Value} {w' : World} {ψ : Phi} {H' : AH} {L' : Lay} {st' : Stk} {e' : En} (hs : Same w w') (hst : Step x.φ ψ h0 x.H H' w.heap w'.heap) (hrel : RelA ψ lc n L' st' e' (x.B.put p.o.dst u))
    (hch : ∀ s ∈ lates p x.pre, ∀ d, s.o.dst = some d → ChkF P gl n lc all L' st' e' H' call d s.o) :
    J P gl n lc all h0 a0 w0 φ0 H0 (L.setIfInBounds p.j true) (a.put p.o.dst u) w' ⟨x.A.put p.o.dst u, x.B.put p.o.dst u, delN p.j x.rem, x.er, p :: x.pre, r, Nat.lor x.done (Nat.pow 2 p.j), L', st', e', H', ψ⟩ := by
  have heads := fun {f : Pl} (hf : f ∈ r) (hr : f.j ∉ x.rem) (u : Value) => b.head hps hf hr u
  have late := fun {j : Nat} (hj : j < all.length) (hr : j ∉ x.rem) (hl : L.getD j false = false) => b.late_of hj hr hl
  have edge := fun {i : Nat} (hp : PlOk P all p) (hl : L.getD i false = false) => b.edge hp hall hl
  have bef := fun {s f : Pl} (hs : PlOk P all s) (hf : f ∈ x.ps) (hk : f.k = 2) (hp : pairB all (masks all []) s.j f.j = true) => b.before hs hf hk hp
  obtain ⟨A, B, rem, er, pre, ps, done, Ly, st, e, H, φ⟩ := x
  obtain rfl : ps = p :: r := hps
  have c := yabo b.chk
  have hp := b.okps p List.mem_cons_self
  have hil := yaas hp.get
  have hpair : ∀ j ∈ delN p.j rem, PairOk all p.j j := fun j hj => by
    obtain ⟨h1, h2⟩ := yaav.1 hj
    obtain ⟨t, ht, rfl⟩ := b.remps j h1
    rcases List.mem_cons.1 ht with h3 | h3
    · exact absurd (by rw [h3]) h2
    · exact yadf (yabv (yabm c.next p List.mem_cons_self t h3)).1
  have hsz : A.tmps.size = n := b.inv.mdl.size
  have hdn : ∀ d, p.o.dst = some d → d < n := fun d hd => (yaeq hok hd).1
  have out : ∀ {f : Pl}, f ∈ r → f.j ∉ delN p.j rem → f.j ∉ rem := fun {f} hf h hm => h (yaav.2 ⟨hm, fun e => yamf b.chk f hf e.symm⟩)
  have setm : ∀ {i : Nat}, L.getD i false = true → (L.setIfInBounds p.j true).getD i false = true := fun {i} h => by
    by_cases hi : p.j = i
    · subst hi; exact yabd (by rw [b.inv.size]; exact hil) _
    · rw [yaco hi]; exact h
  have ab' : ∀ t, (∀ f ∈ r, f.j ∉ rem → f.o.dst ≠ some t) → (A.put p.o.dst u).tmps[t]? = (B.put p.o.dst u).tmps[t]? := fun t ht => by
    by_cases hd : p.o.dst = some t
    · rw [hd, yagg (by rw [hsz]; exact hdn t hd), yagg (by rw [b.rel.size]; exact hdn t hd)]
    · rw [yaii hd, yaii hd]
      refine b.ab t fun f hf hr => ?_
      rcases List.mem_cons.1 hf with h1 | h1
      · exact absurd (by rw [h1]; exact hin) hr
      · exact ht f h1 hr
  refine ⟨b.inv.world hp.get hin c.self hpair hall ⟨by cases hd : p.o.dst <;> simp [Act.put, hsz], fun i v h => by cases h⟩ hs ?_, b.step.trans hr0 hst, b.glob.mono hst.sub, hrel, ?_, ?_, ?_, ?_, yakv rfl b.bits, ?_, fun q hq => b.okps q (List.mem_cons_of_mem _ hq), c.next⟩
  · intro j oj u' hoj hjr hjl hjf hd hwt hrt
    obtain ⟨s, hsp, rfl⟩ := late (yaas hoj) hjr hjl
    obtain ⟨hs1, hs2, hs3⟩ := b.okpre s hsp
    obtain rfl : oj = s.o := by rw [hs1.get] at hoj; exact (Option.some.inj hoj).symm
    have hk1 := hs3 hjl
    obtain ⟨d, hdd⟩ := hs2 hk1
    have cf := hch s (yaka hsp hk1 (edge hp hjl)) d hdd
    have hbf : ∀ f ∈ r, f.j ∉ rem → ∀ t, f.o.dst = some t → t ∉ s.o.looksAt all.toArray ∧ s.o.dst ≠ some t := fun f hf hr =>
      bef hs1 (List.mem_cons_of_mem _ hf) (b.early f (List.mem_cons_of_mem _ hf) hr).1 (yabv (yabm b.chk s hsp f (List.mem_cons_of_mem _ hf))).1
    have hkk : kO P s.o.op ≤ 1 := by rw [← hs1.k]; exact hk1
    have hle := yabc (all := all) (o := s.o) (a := A.put p.o.dst u) (A := B.put p.o.dst u) (yazi (P := P) (by omega)) fun t ht => ab' t fun f hf hr hfd => (hbf f hf hr t hfd).1 ht
    have h1 := cf.use hrel (b.glob.mono hst.sub) hst.hr hkk (by rw [← hle.2]; exact hwt)
    obtain ⟨nx, ⟨u2, rfl, hu2⟩, hrun2⟩ := yake _ _ _ h1
    have hA := hd d hdd
    rw [ab' d fun f hf hr hfd => (hbf f hf hr d hfd).2 hdd] at hA
    have : u2 = u' := by rw [hu2, Array.getD_eq_getD_getElem?, hA]; rfl
    subst this
    exact ⟨hjf, fun w2 hw2 => by rw [hle.1]; exact hrun2 w2 hw2⟩
  · intro t ht
    exact ab' t fun f hf hr => ht f hf fun hm => hr (yaav.1 hm).1
  · intro f hf hr
    have hr := out hf hr
    obtain ⟨h1, h2⟩ := heads hf hr u
    have E := b.early f (List.mem_cons_of_mem _ hf) hr
    have hfree := E.2.2.2.2.choose_spec.choose_spec.choose_spec.2.2.2.2.1
    exact E.mono (fun t ht => yaii (h1 t ht)) h2 (fun i hi => by rw [yagp, hi]; rfl) setm (fun hlt => hst.frm _ hlt hfree) (fun hlt => hfree.step b.step.hr hst hlt)
  · intro f hf g hg hr1 hr2
    exact b.einj f (List.mem_cons_of_mem _ hf) g (List.mem_cons_of_mem _ hg) (out hf hr1) (out hg hr2)
  · intro j hj
    obtain ⟨h1, h2⟩ := yaav.1 hj
    obtain ⟨t, ht, rfl⟩ := b.remps j h1
    rcases List.mem_cons.1 ht with h3 | h3
    · exact absurd (by rw [h3]) h2
    · exact ⟨t, h3, rfl⟩
  · intro q hq
    rcases List.mem_cons.1 hq with h1 | h1
    · rw [h1]; exact ⟨hp, fun _ => c.dst (by omega), fun h => by rw [yabd (by rw [b.inv.size]; exact hil)] at h; cases h⟩
    · obtain ⟨g1, g2, g3⟩ := b.okpre q h1
      refine ⟨g1, g2, fun h => g3 ?_⟩
      cases hq : L.getD q.j false with
      | false => rfl
      | true => rw [setm hq] at h; cases h
theorem J.main (hr0 : HR φ0 h0 H0 w0.heap) (hcall : CallS P h0 gl call) (b : J P gl n lc all h0 a0 w0 φ0 H0 L a w x) {p : Pl} {r : List Pl} (hps : x.ps = p :: r) (hk : ¬ p.k ≤ 1) (hin : p.j ∈ x.rem) (hall : ∀ e ∈ p.o.after, Region.binds .any e = true → L.getD e.on false = true)
    (hres : OkC res) (he : runV P gl n lc all call k x = res) {X : Act → World → Prop} {Q : Exit → Act → World → Prop} (next : ∀ a' w' x', J P gl n lc all h0 a0 w0 φ0 H0 (L.setIfInBounds p.j true) a' w' x' → runV P gl n lc all call k x' = res → X a' w') :
    wpOp P all.toArray Q p.j X a w := by
  obtain ⟨he1, _, _⟩ := run_2 (b.okps p (by rw [hps]; exact List.mem_cons_self)) hps hk hres he
  have hpm : p ∈ x.ps := by rw [hps]; exact List.mem_cons_self
  have hp := b.okps p hpm
  obtain ⟨hok, hc⟩ := ybao hres b.rel b.glob he1
  have hs3 := (yabx hp.get (yaem b.chk p hpm).1).2.2
  have hle1 := yabc (all := all) (a := a) (A := x.A) hs3 (b.inv.looks hp.get hall fun hn => absurd hin hn)
  have hle2 := yabc (all := all) (a := x.A) (A := x.B) hs3 (b.looks_head hps hin)
  have ho : all.toArray[p.j]? = some p.o := by simpa using hp.get
  unfold wpOp
  rw [ho]
  simp only []
  rw [hle1.2, hle2.2]
  rcases hc with ⟨_, y, d', L', hop, _⟩ | ⟨hw, v, H', hv, h2⟩ | ⟨hw, L', st', e', hrel, hrun⟩
  · exact absurd (by rw [hp.k, hop]; exact Nat.zero_le _) hk
  · rw [if_pos hw]
    refine .inl ?_
    have h1 := op_hw b.rel b.glob b.step.hr hcall hok hv
    rw [← hle2.1, ← hle1.1] at h1
    refine yagh h1 fun u w' hs hk => ?_
    obtain ⟨ψ, hst, hvr⟩ := hk
    obtain ⟨L', st', e', hrel, hrun⟩ := h2 ψ u hst.sub hvr
    obtain ⟨he3, hch⟩ := yajl hres hrun
    exact next _ _ _ (b.next hr0 hps hin hall hok hs hst hrel hch) he3
  · rw [if_neg (by rw [hw]; simp)]
    obtain ⟨he3, hch⟩ := yajl hres hrun
    exact next _ _ _ (b.next hr0 hps hin hall hok (Same.refl w) (Step.refl b.step.hr) hrel hch) he3
theorem J.float (hr0 : HR φ0 h0 H0 w0.heap) (b : J P gl n lc all h0 a0 w0 φ0 H0 L a w x) {p : Pl} {r : List Pl} (hps : x.ps = p :: r) (hk : ¬ p.k ≤ 1) (hin : p.j ∈ x.rem) {f : Pl} (hf : f ∈ r) (hfin : f.j ∈ x.rem)
    (hall : ∀ e ∈ f.o.after, Region.binds .any e = true → L.getD e.on false = true)
    (hres : OkC res) (he : runV P gl n lc all call k x = res) {X : Act → World → Prop} {Q : Exit → Act → World → Prop} (next : ∀ a' w' x', J P gl n lc all h0 a0 w0 φ0 H0 (L.setIfInBounds f.j true) a' w' x' → runV P gl n lc all call k x' = res → X a' w') :
    wpOp P all.toArray Q f.j X a w := by
  obtain ⟨_, hfirm, hprb⟩ := run_2 (b.okps p (by rw [hps]; exact List.mem_cons_self)) hps hk hres he
  have hpm : p ∈ x.ps := by rw [hps]; exact List.mem_cons_self
  have hfm : f ∈ x.ps := by rw [hps]; exact List.mem_cons_of_mem _ hf
  have hfp := b.okps f hfm
  have hchk := b.chk
  rw [hps] at hchk
  have c := yabo hchk
  have hbit : Nat.testBit f.m p.j = false := b.edge hfp hall (b.inv.remU p.j hin).2
  have hfk : f.k = 2 := by
    rcases (yabv (yabm c.next p List.mem_cons_self f hf)).2 hbit with h | h
    · exact h.1
    · exact absurd h.2 hk
  have hsub : Nat.land f.m x.done = f.m := by
    have := c.fl hk f hf
    unfold ybah at this
    rw [hbit, show Nat.beq f.k 2 = true by rw [hfk]; rfl] at this
    exact Nat.eq_of_beq_eq_true this
  have hfpr := yamt hf hfk hbit
  obtain ⟨hok, hgn, v, H', hv⟩ := hprb f hfpr
  have hok' := hok
  unfold okS at hok'
  simp only [Bool.and_eq_true] at hok'
  have hkk : kO P f.o.op = 2 := by rw [← hfp.k]; exact hfk
  obtain ⟨blk, vf, hform, _⟩ := yaqy (P := P) (φ := x.φ) (ρ := x.B.eval) (fun y hy => gE_ok b.rel b.glob (yaat hok'.1.1 y hy)) hkk hv
  obtain ⟨d, hd⟩ := (yaem b.chk f hfm).2 (by omega)
  have hdn := (yaeq hok hd).1
  have hs3 := (yabx hfp.get (yaem b.chk f hfm).1).2.2
  have hle1 := yabc (all := all) (a := a) (A := x.A) hs3 (b.inv.looks hfp.get hall fun hn => absurd hfin hn)
  have hle2 := yabc (all := all) (a := x.A) (A := x.B) hs3 (b.looks_float hfm hfin hsub)
  have ho : all.toArray[f.j]? = some f.o := by simpa using hfp.get
  unfold wpOp
  rw [ho]
  simp only []
  rw [if_pos (by unfold Region.wanted; rw [hgn])]
  refine .inl ?_
  have h1 := hform w.heap
  rw [← hle2.1, ← hle1.1] at h1
  refine yagh (K := fun u h' => u = vf w.heap.size ∧ h' = w.heap.push blk) (yabq _ _ _ _ (fun nx h' hx => by obtain ⟨rfl, rfl⟩ := hx; exact ⟨rfl, rfl⟩) h1) fun u w' hs hu => ?_
  obtain ⟨rfl, hh⟩ := hu
  have hil := yaas hfp.get
  have hsz : x.A.tmps.size = n := b.inv.mdl.size
  have setm : ∀ {i : Nat}, L.getD i false = true → (L.setIfInBounds f.j true).getD i false = true := fun {i} h => by
    by_cases hi : f.j = i
    · subst hi; exact yabd (by rw [b.inv.size]; exact hil) _
    · rw [yaco hi]; exact h
  have old : ∀ g ∈ x.ps, g.j ∉ delN f.j x.rem → g = f ∨ g.j ∉ x.rem := fun g hg hr => by
    by_cases he : g.j = f.j
    · exact .inl (yapn b.chk g hg f hfm he)
    · exact .inr fun hm => hr (yaav.2 ⟨hm, he⟩)
  have apf : ∀ g ∈ x.ps, g.j ∉ x.rem → g.o.dst ≠ some d := fun g hg hr => by
    have hgp := b.okps g hg
    exact ((yaop hgp hfp (b.inv.pairs g.j (yaas hgp.get) hr f.j hfin)).1 d hd).2
  have ne : ∀ g ∈ x.ps, g.j ∉ x.rem → g.j ≠ f.j := fun g _ hr e => hr (by rw [e]; exact hfin)
  refine next _ _ ⟨x.A.put f.o.dst (vf w.heap.size), x.B, delN f.j x.rem, fun i => if i = f.j then w.heap.size else x.er i, x.pre, x.ps, x.done, x.Ly, x.st, x.e, x.H, x.φ⟩ ?_ he
  refine ⟨b.inv.world hfp.get hfin (yaem b.chk f hfm).1 ?_ hall ⟨by cases hd : f.o.dst <;> simp [Act.put, hsz], fun i v h => by cases h⟩ hs ?_, b.step.trans hr0 (by rw [hh]; exact Step.push b.step.hr blk), b.glob, b.rel, ?_, ?_, ?_, ?_, b.bits, ?_, b.okps, b.chk⟩
  · intro j hj
    obtain ⟨h1, h2⟩ := yaav.1 hj
    obtain ⟨t, ht, rfl⟩ := b.remps j h1
    exact yadf (yamg b.chk f hfm hfk hsub t ht h2)
  · intro j oj u' hoj hjr hjl hjf hd' hwt hrt
    obtain ⟨s, hsp, rfl⟩ := b.late_of (yaas hoj) hjr hjl
    obtain ⟨hs1, hs2, hs3⟩ := b.okpre s hsp
    obtain rfl : oj = s.o := by rw [hs1.get] at hoj; exact (Option.some.inj hoj).symm
    have hk1 := hs3 hjl
    obtain ⟨ds, hdd⟩ := hs2 hk1
    have cf := hfirm s (yakd hfpr (b.edge hfp hall hjl) hsp hk1) ds hdd
    have hbf := b.before hs1 hfm hfk (yabv (yabm b.chk s hsp f hfm)).1
    have hkks : kO P s.o.op ≤ 1 := by rw [← hs1.k]; exact hk1
    have hle := yabc (all := all) (o := s.o) (a := x.A.put f.o.dst (vf w.heap.size)) (A := x.B) (yazi (P := P) (by omega)) fun t ht => by
      rw [yaii (fun e => (hbf t e).1 ht)]
      exact b.looks_pre hsp t ht
    have h1 := cf.use b.rel b.glob (h := w'.heap) (by rw [hh]; exact b.step.hr.push blk) hkks (by rw [← hle.2]; exact hwt)
    obtain ⟨nx, ⟨u2, rfl, hu2⟩, hrun2⟩ := yake _ _ _ h1
    have hA := hd' ds hdd
    rw [yaii (fun e => (hbf ds e).2 hdd), b.dst_pre hsp hdd] at hA
    have : u2 = u' := by rw [hu2, Array.getD_eq_getD_getElem?, hA]; rfl
    subst this
    exact ⟨hjf, fun w2 hw2 => by rw [hle.1]; exact hrun2 w2 hw2⟩
  · intro t ht
    show (x.A.put f.o.dst (vf w.heap.size)).tmps[t]? = x.B.tmps[t]?
    rw [yaii (ht f hfm fun hm => (yaav.1 hm).2 rfl)]
    exact b.ab t fun g hg hr => ht g hg fun hm => hr (yaav.1 hm).1
  · intro g hg hr
    rcases old g hg hr with rfl | hr'
    · show Early P w0.heap x.φ x.H w'.heap _ x.B x.done _ (if g.j = g.j then w.heap.size else x.er g.j) g
      rw [if_pos rfl]
      refine ⟨hfk, hgn, hsub, yabd (by rw [b.inv.size]; exact hil) _, d, blk, vf, hd, ?_, ?_, b.step.size, b.step.hr.free_new, hform⟩
      · rw [hd]; exact yagg (by rw [hsz]; exact hdn)
      · rw [hh]; exact Array.getElem?_push_size
    · show Early P w0.heap x.φ x.H w'.heap _ x.B x.done _ (if g.j = f.j then w.heap.size else x.er g.j) g
      rw [if_neg (ne g hg hr')]
      have E := b.early g hg hr'
      refine E.mono (fun t ht => yaii fun e => ?_) rfl (fun _ h => h) setm (fun hlt => by rw [hh, Array.getElem?_push, if_neg (by omega)]) (fun _ => E.2.2.2.2.choose_spec.choose_spec.choose_spec.2.2.2.2.1)
      rw [hd] at e; cases e
      exact apf g hg hr' ht
  · have ltE : ∀ g ∈ x.ps, g.j ∉ x.rem → x.er g.j < w.heap.size := fun g hg hr => by
      obtain ⟨_, _, _, _, _, _, _, _, _, h7, _⟩ := b.early g hg hr
      exact (Array.getElem?_eq_some_iff.1 h7).1
    intro g hg g' hg' hr1 hr2 he'
    have he' : (if g.j = f.j then w.heap.size else x.er g.j) = (if g'.j = f.j then w.heap.size else x.er g'.j) := he'
    rcases old g hg hr1 with h1 | h1 <;> rcases old g' hg' hr2 with h2 | h2
    · rw [h1, h2]
    · rw [h1, if_pos rfl, if_neg (ne g' hg' h2)] at he'
      have := ltE g' hg' h2
      omega
    · rw [h2, if_pos rfl, if_neg (ne g hg h1)] at he'
      have := ltE g hg h1
      omega
    · rw [if_neg (ne g hg h1), if_neg (ne g' hg' h2)] at he'
      exact b.einj g hg g' hg' h1 h2 he'
  · intro j hj
    exact b.remps j (yaav.1 hj).1
  · intro q hq
    obtain ⟨g1, g2, g3⟩ := b.okpre q hq
    refine ⟨g1, g2, fun h => g3 ?_⟩
    cases hq : L.getD q.j false with
    | false => rfl
    | true => rw [setm hq] at h; cases h
end
open Go
section
variable {P : Program} {h0 : Hp} {lc n : Nat} {gl : List Nat} {call : CallC} {all : List Oper} {a0 : Act} {w0 : World} {φ0 : Phi} {H0 : AH} {L : Array Bool} {a : Act} {w : World} {k : Lay → Bx RF} {res : RC} {x : Vs}
theorem J.adv (hr0 : HR φ0 h0 H0 w0.heap) (hres : OkC res) {j : Nat} : ∀ (ps : List Pl) (x : Vs), x.ps = ps → J P gl n lc all h0 a0 w0 φ0 H0 L a w x → runV P gl n lc all call k x = res → j ∈ x.rem →
    ∃ x', J P gl n lc all h0 a0 w0 φ0 H0 L a w x' ∧ runV P gl n lc all call k x' = res ∧ (j ∉ x'.rem ∨ (j ∈ x'.rem ∧ ∃ p r, x'.ps = p :: r ∧ ¬ p.k ≤ 1 ∧ p.j ∈ x'.rem))
  | [], x, hps, b, _, hj => by
    obtain ⟨t, ht, _⟩ := b.remps j hj
    rw [hps] at ht; cases ht
  | p :: r, x, hps, b, he, hj => by
    by_cases hk : p.k ≤ 1
    · obtain ⟨_, x', b', he', hrem, hps'⟩ := b.quiet hps hk hres he
      by_cases hjp : j = p.j
      · exact ⟨x', b', he', .inl (by rw [hrem]; exact fun hm => (yaav.1 hm).2 hjp)⟩
      · exact J.adv hr0 hres r x' hps' b' he' (by rw [hrem]; exact yaav.2 ⟨hj, hjp⟩)
    · by_cases hin : p.j ∈ x.rem
      · exact ⟨x, b, he, .inr ⟨hj, p, r, hps, hk, hin⟩⟩
      · obtain ⟨x', b', he', hrem, hps'⟩ := b.adopt hr0 hps hk hin hres he
        exact J.adv hr0 hres r x' hps' b' he' (by rw [hrem]; exact hj)
theorem J.fin (hr0 : HR φ0 h0 H0 w0.heap) (hres : OkC res) : ∀ (ps : List Pl) (x : Vs), x.ps = ps → J P gl n lc all h0 a0 w0 φ0 H0 L a w x → runV P gl n lc all call k x = res → x.rem = [] →
    ∃ x', J P gl n lc all h0 a0 w0 φ0 H0 L a w x' ∧ runV P gl n lc all call k x' = res ∧ x'.ps = []
  | [], x, hps, b, he, _ => ⟨x, b, he, hps⟩
  | p :: r, x, hps, b, he, h0 => by
    by_cases hk : p.k ≤ 1
    · have := (b.quiet hps hk hres he).1
      rw [h0] at this; cases this
    · obtain ⟨x', b', he', hrem, hps'⟩ := b.adopt hr0 hps hk (by rw [h0]; exact fun h => by cases h) hres he
      exact J.fin hr0 hres r x' hps' b' he' (by rw [hrem]; exact h0)
theorem RelA.congr {φ : Phi} {Ly : Lay} {st : Stk} {e : En} {B : Act} (r : RelA φ lc n Ly st e B) (hsz : a.tmps.size = n) (hdf : a.defers = []) (h : ∀ t : Nat, a.tmps[t]? = B.tmps[t]?) : RelA φ lc n Ly st e a := by
  have hg : ∀ t, a.tmps.getD t undef = B.tmps.getD t undef := fun t => by rw [Array.getD_eq_getD_getElem?, Array.getD_eq_getD_getElem?, h]
  refine ⟨hsz, hdf, r.len, fun t ht => by rw [hg]; exact r.sh t ht, fun t p hp => ?_⟩
  obtain ⟨h1, h2⟩ := r.lo t p hp
  refine ⟨h1, ?_⟩
  cases p with
  | st i => exact ⟨h2.1, by rw [hg]; exact h2.2⟩
  | en y => exact ⟨h2.1, by rw [hg]; exact h2.2⟩
  | no => trivial
def RQ (P : Program) (n lc : Nat) (h0 : Hp) (w0 : World) (φ0 : Phi) (H0 : AH) (call : CallC) (k : Lay → Bx RF) (res : RC) : Exit → Act → World → Prop := fun ex a1 w1 => ex = .normal ∧ Same w0 w1 ∧ ∃ φ1 L1 st1 e1 H1, Step φ0 φ1 h0 H0 H1 w0.heap w1.heap ∧ RelA φ1 lc n L1 st1 e1 a1 ∧ (k L1).run st1 e1 H1 call = res
theorem J.done (hr0 : HR φ0 h0 H0 w0.heap) (hd0 : a0.defers = []) (hres : OkC res) (b : J P gl n lc all h0 a0 w0 φ0 H0 L a w x) (he : runV P gl n lc all call k x = res) (hall : ∀ i, i < all.length → L.getD i false = true) : RQ P n lc h0 w0 φ0 H0 call k res .normal a w := by
  have hrem : x.rem = [] := by
    cases hr : x.rem with
    | nil => rfl
    | cons i r =>
      obtain ⟨h1, h2⟩ := b.inv.remU i (by rw [hr]; exact List.mem_cons_self)
      rw [hall i h1] at h2; cases h2
  obtain ⟨x', b', he', hps⟩ := J.fin hr0 hres x.ps x rfl b he hrem
  refine ⟨rfl, b'.inv.same, x'.φ, x'.Ly, x'.st, x'.e, x'.H, b'.step, b'.rel.congr b'.inv.asize (by rw [b'.inv.keeps.defers, hd0]) fun t => ?_, ?_⟩
  · rw [b'.inv.agree t fun i oi hi _ hl => by rw [hall i (yaas hi)] at hl; cases hl]
    exact b'.ab t fun f hf => by rw [hps] at hf; cases hf
  · unfold runV at he'
    rw [hps] at he'
    exact he'
theorem ybcv (hr0 : HR φ0 h0 H0 w0.heap) (hd0 : a0.defers = []) (hres : OkC res) (hcall : CallS P h0 gl call) (topo : ∀ j o, all[j]? = some o → ∀ e ∈ o.after, Region.binds .any e = true → e.on < j) : ∀ (fuel : Nat) (L : Array Bool) (a : Act) (w : World) (x : Vs),
    unl all L ≤ fuel → J P gl n lc all h0 a0 w0 φ0 H0 L a w x → runV P gl n lc all call k x = res → wpAny P .any all.toArray (RQ P n lc h0 w0 φ0 H0 call k res) fuel L a w := by
  intro fuel
  induction fuel with
  | zero =>
    intro L a w x hu b he
    have hall : ∀ i, i < all.length → L.getD i false = true := by
      intro i hi
      cases hl : L.getD i false with
      | true => rfl
      | false => have := yaox b.inv.size hi hl; omega
    refine ⟨?_, b.done hr0 hd0 hres he hall⟩
    refine List.eq_nil_iff_forall_not_mem.2 fun j hj => ?_
    obtain ⟨h1, o, ho, _⟩ := yaaz.1 hj
    have ho' : all[j]? = some o := by simpa using ho
    have hjl := yaas ho'
    have h2 := hall j hjl
    have hsz : j < L.size := by rw [b.inv.size]; exact hjl
    rw [Array.getD_eq_getD_getElem?, Array.getElem?_eq_getElem hsz] at h1 h2
    simp at h1 h2
    rw [h1] at h2
    cases h2
  | succ fuel ih =>
    intro L a w x hu b he
    refine ⟨fun hr => ?_, fun j hj => ?_⟩
    · have hall : ∀ i, i < all.length → L.getD i false = true := by
        intro i
        induction i using Nat.strongRecOn with
        | _ i ihh =>
          intro hi
          cases hl : L.getD i false with
          | true => rfl
          | false =>
            exfalso
            have : i ∈ Region.ready .any all.toArray L := by
              refine yaaz.2 ⟨?_, all[i], by simp [hi], fun e he hb => ?_⟩
              · have hsz : i < L.size := by rw [b.inv.size]; exact hi
                rw [Array.getD_eq_getD_getElem?, Array.getElem?_eq_getElem hsz] at hl ⊢
                exact hl
              · have := topo i _ (List.getElem?_eq_getElem hi) e he hb
                exact ihh e.on this (by omega)
            rw [hr] at this
            cases this
      exact b.done hr0 hd0 hres he hall
    · obtain ⟨h1, o, ho, hedge⟩ := yaaz.1 hj
      have ho' : all[j]? = some o := by simpa using ho
      have hjl := yaas ho'
      have hl : L.getD j false = false := by
        have hsz : j < L.size := by rw [b.inv.size]; exact hjl
        rw [Array.getD_eq_getD_getElem?, Array.getElem?_eq_getElem hsz] at h1 ⊢
        exact h1
      have hun : unl all (L.setIfInBounds j true) ≤ fuel := by have := yaox b.inv.size hjl hl; omega
      have late : ∀ (x : Vs), J P gl n lc all h0 a0 w0 φ0 H0 L a w x → runV P gl n lc all call k x = res → j ∉ x.rem →
          wpOp P all.toArray (RQ P n lc h0 w0 φ0 H0 call k res) j (wpAny P .any all.toArray (RQ P n lc h0 w0 φ0 H0 call k res) fuel (L.setIfInBounds j true)) a w := by
        intro x b he hjr
        obtain ⟨_, hs2, hs3⟩ := yabx ho' (b.inv.self j hjl hjr)
        have hlk := yabc (all := all) (a := a) (A := x.A) hs3 (b.inv.looks ho' hedge fun _ => hs2)
        rcases b.inv.gone j hjl hjr with h | ⟨o2, v, ho2, _, hd, hv⟩
        · rw [hl] at h; cases h
        obtain rfl : o = o2 := by rw [ho'] at ho2; exact Option.some.inj ho2
        have setm : ∀ {i : Nat}, L.getD i false = true → (L.setIfInBounds j true).getD i false = true := fun {i} h => by
          by_cases hi : j = i
          · subst hi; exact yabd (by rw [b.inv.size]; exact hjl) _
          · rw [yaco hi]; exact h
        have b' : J P gl n lc all h0 a0 w0 φ0 H0 (L.setIfInBounds j true) (a.put o.dst v) w x := by
          refine ⟨b.inv.late ho' hjr hedge hd, b.step, b.glob, b.rel, b.ab, fun f hf hr => ?_, b.einj, b.remps, b.bits, fun q hq => ?_, b.okps, b.chk⟩
          · have E := b.early f hf hr
            exact E.mono (fun _ _ => rfl) rfl (fun _ h => h) setm (fun _ => rfl) (fun _ => E.2.2.2.2.choose_spec.choose_spec.choose_spec.2.2.2.2.1)
          · obtain ⟨g1, g2, g3⟩ := b.okpre q hq
            refine ⟨g1, g2, fun h => g3 ?_⟩
            cases hq : L.getD q.j false with
            | false => rfl
            | true => rw [setm hq] at h; cases h
        have next := ih (L.setIfInBounds j true) (a.put o.dst v) w x hun b' he
        unfold wpOp
        rw [ho]
        simp only []
        rw [hlk.2]
        rcases hv with ⟨hw, hr, _⟩ | ⟨hw, rfl⟩
        · rw [if_pos hw]
          refine .inl ?_
          unfold Oper.wp
          rw [hlk.1, hr w rfl]
          exact next
        · rw [if_neg (by rw [hw]; simp)]
          exact next
      by_cases hjr : j ∈ x.rem
      · obtain ⟨x', b', he', hor⟩ := J.adv hr0 hres x.ps x rfl b he hjr
        rcases hor with hor | ⟨hjr', p, r, hps, hk, hin⟩
        · exact late x' b' he' hor
        · obtain ⟨t, ht, rfl⟩ := b'.remps j hjr'
          have htp := b'.okps t ht
          obtain rfl : o = t.o := by rw [htp.get] at ho'; exact (Option.some.inj ho').symm
          rw [hps] at ht
          rcases List.mem_cons.1 ht with h2 | h2
          · subst h2
            exact b'.main hr0 hcall hps hk hin hedge hres he' fun a' w' x'' b'' he'' => ih _ a' w' x'' hun b'' he''
          · exact b'.float hr0 hps hk hin h2 hjr' hedge hres he' fun a' w' x'' b'' he'' => ih _ a' w' x'' hun b'' he''
      · exact late x b he hjr
theorem ybes {id : Nat} {ops : Array Oper} (hmo : P.follows .mixedOrders = true) (hres : OkC res) (hcall : CallS P h0 gl call) {e : En} {H : AH} {φ : Phi} {a : Act} {w : World} (ra : RelA φ lc n ⟨0, []⟩ [] e a) (hg : yacl φ gl) (hr : HR φ h0 H w.heap)
    (he : (rIt P gl n lc ops.toList (masks ops.toList []) k).run [] e H call = res) :
    (Code.region id ops true).wp P (RQ P n lc h0 w φ H call k res) a w := by
  have he : (match ordO (lenO ops.toList) 0 (pls P 0 (masks ops.toList []) ops.toList) with
    | os => (match chkO ops.toList (masks ops.toList []) 0 [] os with
      | true => cIt P gl n lc ops.toList (itsO [] os) ⟨0, []⟩ k
      | false => .mk fun _ _ _ _ => .er [143])).run [] e H call = res := he
  simp only [] at he
  generalize hos : ordO (lenO ops.toList) 0 (pls P 0 (masks ops.toList []) ops.toList) = os at he
  cases hc : chkO ops.toList (masks ops.toList []) 0 [] os with
  | false => rw [hc] at he; exact (er_no hres he).elim
  | true =>
    rw [hc] at he
    have okps : ∀ p ∈ os, PlOk P ops.toList p := fun p hp => by
      rw [← hos] at hp
      obtain ⟨i, h1, h2, h3, h4⟩ := ybci (yatw hp)
      have h1 : p.j = i := by omega
      exact ⟨by rw [h1]; exact h2, by rw [h1]; exact h3, h4⟩
    have full : ∀ j, j < ops.toList.length → ∃ t ∈ os, t.j = j := fun j hj => by
      rcases yakf hc j hj with h | h
      · simp at h
      · exact h
    have topo : ∀ j o, ops.toList[j]? = some o → ∀ e ∈ o.after, Region.binds .any e = true → e.on < j := fun j o ho => by
      obtain ⟨t, ht, rfl⟩ := full j (yaas ho)
      exact (yabx ho (yaem hc t ht).1).1
    have e0 : ops.toList.toArray = ops := by simp
    have hgd : ∀ i, (Array.replicate ops.size false).getD i false = false := by
      intro i
      rw [Array.getD_eq_getD_getElem?, Array.getElem?_replicate]
      split <;> rfl
    have hin : ∀ f ∈ os, f.j ∈ List.range ops.toList.length := fun f hf => List.mem_range.2 (yaas (okps f hf).get)
    have b : J P gl n lc ops.toList h0 a w φ H (Array.replicate ops.size false) a { w with drawn := w.drawn + 1 } ⟨a, a, List.range ops.toList.length, fun i => i, [], os, 0, ⟨0, []⟩, [], e, H, φ⟩ := by
      refine ⟨⟨by simp, ?_, fun i hi => ⟨List.mem_range.1 hi, hgd i⟩, fun i hi hr => absurd (List.mem_range.2 hi) hr, fun i hi hr => absurd (List.mem_range.2 hi) hr, fun i hi hr => absurd (List.mem_range.2 hi) hr,
        fun i _ hi _ hr => absurd (List.mem_range.2 hi) hr, fun _ _ => rfl, ra.size, ⟨ra.size, fun i v h => by cases h⟩, ⟨rfl, rfl, rfl⟩, Keeps.refl _ _, fun i o ho hr => absurd (List.mem_range.2 (yaas ho)) hr⟩,
        Step.refl hr, hg, ra, fun _ _ => rfl, fun f hf hr => absurd (hin f hf) hr, fun f hf _ _ hr => absurd (hin f hf) hr, ?_, fun i => ⟨fun h => (by simp at h), fun ⟨s, hs, _⟩ => (by cases hs)⟩, fun p hp => (by cases hp), okps, hc⟩
      · intro i o hi
        rw [hgd i] at hi
        cases hi
      · intro j hj
        exact full j (List.mem_range.1 hj)
    have h1 := ybcv (k := k) hr ra.df hres hcall topo ops.size _ _ _ _ (by unfold unl; exact Nat.le_trans (List.length_filter_le _ _) (by simp)) b he
    rw [e0] at h1
    exact wp_region_any hmo h1
end
open Go
section
variable {P : Program} {h0 : Hp} {lc n : Nat} {gl : List Nat} {call : CallC}
theorem yaxp {id : Nat} {ops : Array Oper} {dr : Bool} {k : Lay → Bx RF} {res : RC} (hmo : P.follows .mixedOrders = true) (hres : OkC res) (hcall : CallS P h0 gl call) {e : En} {H : AH} {φ : Phi} {a : Act} {w : World} (ra : RelA φ lc n ⟨0, []⟩ [] e a) (hg : yacl φ gl) (hr : HR φ h0 H w.heap)
    (he : (rOps P gl n lc dr ops.toList k).run [] e H call = res) :
    (Code.region id ops dr).wp P (fun ex a1 w1 => ex = .normal ∧ Same w w1 ∧ ∃ φ1 L1 st1 e1 H1, Step φ φ1 h0 H H1 w.heap w1.heap ∧ RelA φ1 lc n L1 st1 e1 a1 ∧ (k L1).run st1 e1 H1 call = res) a w := by
  cases dr with
  | false =>
    refine wp_region_list ?_
    have := yaxx (all := ops.toList) hres hcall ops.toList ⟨0, []⟩ [] e H φ a w ra hg hr he
    simpa using this
  | true => exact ybes hmo hres hcall ra hg hr he
def CQ (P : Program) (h0 : Hp) (lc n : Nat) (call : CallC) (ks : Nat → Bx KF) (k : Bx KF) (res : RC) (φ : Phi) (H : AH) (w : World) : Exit → Act → World → Prop := fun ex a1 w1 => Same w w1 ∧ ∃ φ1 e1 H1, Step φ φ1 h0 H H1 w.heap w1.heap ∧ RelA φ1 lc n ⟨0, []⟩ [] e1 a1 ∧ (match ex with
  | .normal => k.run e1 H1 call = res
  | .exit i => (ks i).run e1 H1 call = res
  | .ret => RC.ok .ret e1 H1 = res
  | _ => False)
theorem CQ.mono {ks : Nat → Bx KF} {k : Bx KF} {res : RC} {φ ψ : Phi} {H H' : AH} {w w' : World} {ex : Exit} {a1 : Act} {w1 : World} (hr : HR φ h0 H w.heap) (hs : Same w w') (st : Step φ ψ h0 H H' w.heap w'.heap) (h : CQ P h0 lc n call ks k res ψ H' w' ex a1 w1) : CQ P h0 lc n call ks k res φ H w ex a1 w1 := by
  obtain ⟨h1, φ1, e1, H1, h2, h3, h4⟩ := h
  exact ⟨hs.trans h1, φ1, e1, H1, st.trans hr h2, h3, h4⟩
theorem RelA.clear {φ : Phi} {L : Lay} {st : Stk} {e : En} {a : Act} (r : RelA φ lc n L st e a) : RelA φ lc n ⟨0, []⟩ [] e a := ⟨r.size, r.df, rfl, r.sh, fun t p hp => by cases hp⟩
theorem ybha {c : Value} {f g : RF} {st : Stk} {e : En} {H : AH} {res : RC} (hres : OkC res) (h : ifF c f g st e H call = res) : ∃ b, c = .bool b ∧ (if b then f else g) st e H call = res := by
  obtain ⟨x, e', H', hres⟩ := hres
  subst hres
  cases c <;> first | (cases h; done) | skip
  rename_i b
  cases b <;> exact ⟨_, rfl, h⟩
theorem yatd {L : Lay} {c : Operand} {f g : Bx KF} {st : Stk} {e : En} {H : AH} {res : RC} {φ : Phi} {a : Act} (hres : OkC res) (ra : RelA φ lc n L st e a) (hg : yacl φ gl) (h : (condK gl lc L c f g).run st e H call = res) : ∃ b, a.eval c = .bool b ∧ (if b then f else g).run e H call = res := by
  unfold condK at h
  cases hx : okX gl lc L c with
  | false =>
    simp only [hx] at h
    obtain ⟨x, e', H', hres⟩ := hres
    subst hres
    cases h
  | true =>
    have hv := gE_ok ra hg hx
    cases hge : gE L c with | mk q =>
    rw [hge] at hv
    simp only [hx, hge] at h
    obtain ⟨b, h1, h2⟩ := ybha hres (show ifF (q st e) (tailK f).run (tailK g).run st e H call = res from h)
    have hv : VR φ (q st e) (a.eval c) := hv
    rw [h1] at hv
    refine ⟨b, hv.bool_inv, ?_⟩
    cases b <;> exact h2
theorem yaqz {c : Code} {B : KF} {ks : Nat → Bx KF} {res : RC} (hres : OkC res)
    (hB : ∀ (e : En) (H : AH) (φ : Phi) (a : Act) (w : World) (r : RC), OkC r → RelA φ lc n ⟨0, []⟩ [] e a → yacl φ gl → HR φ h0 H w.heap → B e H call = r → c.wp P (CQ P h0 lc n call (findK []) nrm r φ H w) a w) :
    ∀ (f : Nat) (e : En) (H : AH) (φ : Phi) (a : Act) (w : World), RelA φ lc n ⟨0, []⟩ [] e a → yacl φ gl → HR φ h0 H w.heap → loopK B ks f e H call = res → ∀ (k : Bx KF) (Q : Exit → Act → World → Prop), (∀ ex a1 w1, CQ P h0 lc n call ks k res φ H w ex a1 w1 → Q ex a1 w1) → Code.rounds P c Q f a w
  | 0, e, H, φ, a, w, ra, hg, hr, he, k, Q, hQ => by
    obtain ⟨x, e', H', hres⟩ := hres
    subst hres
    cases he
  | f + 1, e, H, φ, a, w, ra, hg, hr, he, k, Q, hQ => by
    have he0 : @RC.rec (fun _ => KF → CallC → RC) (fun x e H ih call => @Exit.rec (fun _ => En → AH → KF → CallC → RC) (fun e H ih call => ih e H call) (fun i e H _ call => (ks i).run e H call) (fun l e H _ _ => .ok (.goto l) e H) (fun e H _ _ => .ok .ret e H) (fun l e H _ _ => .ok (.panic l) e H) (fun e H _ _ => .ok .outgrown e H) x e H ih call) (fun l _ _ => .er l) (B e H call) (loopK B ks f) call = res := he
    cases hb : B e H call with
    | er l =>
      rw [hb] at he0
      obtain ⟨x, e', H', hres⟩ := hres
      subst hres
      cases he0
    | ok x e1 H1 =>
      rw [hb] at he0
      rw [rounds_succ]
      refine Code.wp_mono (fun ex a1 w1 hp => ?_) (hB e H φ a w (.ok x e1 H1) ⟨x, e1, H1, rfl⟩ ra hg hr hb)
      obtain ⟨hs, φ1, e2, H2, st, ra2, hm⟩ := hp
      cases ex with
      | normal =>
        have hm : RC.ok .normal e2 H2 = RC.ok x e1 H1 := hm
        cases hm
        exact yaqz hres hB f e1 H1 φ1 a1 w1 ra2 (hg.mono st.sub) st.hr he0 k Q fun ex a2 w2 hp => hQ ex a2 w2 (CQ.mono hr hs st hp)
      | exit i =>
        have hm : RC.ok (.exit i) e2 H2 = RC.ok x e1 H1 := hm
        cases hm
        exact hQ _ _ _ ⟨hs, φ1, e1, H1, st, ra2, he0⟩
      | ret =>
        have hm : RC.ok .ret e2 H2 = RC.ok x e1 H1 := hm
        cases hm
        exact hQ _ _ _ ⟨hs, φ1, e1, H1, st, ra2, he0⟩
      | _ => exact hm.elim
theorem yasl (id : Nat) (k : Bx KF) (ks : List (Nat × Bx KF)) (i : Nat) : findK ((id, k) :: ks) i = if i = id then k else findK ks i := by
  show (match Nat.beq id i with | true => k | false => findK ks i) = _
  by_cases h : i = id
  · subst h; simp
  · have : Nat.beq id i = false := by cases hb : Nat.beq id i with | false => rfl | true => exact absurd (Nat.eq_of_beq_eq_true hb).symm h
    rw [this, if_neg h]
def CkOk (P : Program) (h0 : Hp) (lc n : Nat) (gl : List Nat) (call : CallC) (c : Code) : Prop := ∀ (ks : List (Nat × Bx KF)) (k : Bx KF) (res : RC) (e : En) (H : AH) (φ : Phi) (a : Act) (w : World), OkC res → RelA φ lc n ⟨0, []⟩ [] e a → yacl φ gl → HR φ h0 H w.heap →
    (cK P gl n lc c ks k).run e H call = res → c.wp P (CQ P h0 lc n call (findK ks) k res φ H w) a w
theorem ybfp (x y : Code) (ks : List (Nat × Bx KF)) (k : Bx KF) : (cK P gl n lc (.seq x y) ks k = cK P gl n lc x ks (cK P gl n lc y ks k)) ∨
    ∃ id ops dr c a b, x = .region id ops dr ∧ y = .cond c a b ∧ (cK P gl n lc (.seq x y) ks k).run = (noSt (rOps P gl n lc dr ops.toList (fun L => condK gl lc L c (cK P gl n lc a ks k) (cK P gl n lc b ks k)))).run := by
  cases x with
  | region id ops dr =>
    cases y with
    | cond c a b => exact .inr ⟨id, ops, dr, c, a, b, rfl, rfl, rfl⟩
    | _ => exact .inl rfl
  | _ => exact .inl rfl
theorem ybgy (hmo : P.follows .mixedOrders = true) (hcall : CallS P h0 gl call) : ∀ (c : Code), CkOk P h0 lc n gl call c ∧ ∀ cc x y, c = .cond cc x y → CkOk P h0 lc n gl call x ∧ CkOk P h0 lc n gl call y := by
  intro c
  induction c with
  | skip =>
    refine ⟨?_, fun _ _ _ h => by cases h⟩
    intro ks k res e H φ a w hres ra hg hr he
    exact wp_skip ⟨Same.refl w, φ, e, H, Step.refl hr, ra, he⟩
  | region id ops dr =>
    refine ⟨?_, fun _ _ _ h => by cases h⟩
    intro ks k res e H φ a w hres ra hg hr he
    refine Code.wp_mono (fun ex a1 w1 hp => ?_) (yaxp hmo hres hcall ra hg hr he)
    obtain ⟨rfl, h1, φ1, L1, st1, e1, H1, h2, h3, h4⟩ := hp
    exact ⟨h1, φ1, e1, H1, h2, h3.clear, h4⟩
  | cond c x y ihx ihy =>
    refine ⟨?_, fun _ _ _ h => by cases h; exact ⟨ihx.1, ihy.1⟩⟩
    intro ks k res e H φ a w hres ra hg hr he
    obtain ⟨b, h1, h2⟩ := yatd hres ra hg (show (condK gl lc ⟨0, []⟩ c (cK P gl n lc x ks k) (cK P gl n lc y ks k)).run [] e H call = res from he)
    refine wp_cond h1 ?_
    cases b with
    | true => exact ihx.1 ks k res e H φ a w hres ra hg hr h2
    | false => exact ihy.1 ks k res e H φ a w hres ra hg hr h2
  | block id x ih =>
    refine ⟨?_, fun _ _ _ h => by cases h⟩
    intro ks k res e H φ a w hres ra hg hr he
    refine wp_block ?_
    refine Code.wp_mono (fun ex a1 w1 hp => ?_) (ih.1 ((id, k) :: ks) k res e H φ a w hres ra hg hr he)
    obtain ⟨h1, φ1, e1, H1, h2, h3, h4⟩ := hp
    cases ex with
    | exit i =>
      have h5 : (findK ((id, k) :: ks) i).run e1 H1 call = res := h4
      rw [yasl] at h5
      by_cases hi : i = id
      · rw [if_pos hi] at h5
        subst hi
        show (if i = i then _ else _)
        rw [if_pos rfl]
        exact ⟨h1, φ1, e1, H1, h2, h3, h5⟩
      · rw [if_neg hi] at h5
        show (if i = id then _ else _)
        rw [if_neg hi]
        exact ⟨h1, φ1, e1, H1, h2, h3, h5⟩
    | _ => exact ⟨h1, φ1, e1, H1, h2, h3, h4⟩
  | loop x ih =>
    refine ⟨?_, fun _ _ _ h => by cases h⟩
    intro ks k res e H φ a w hres ra hg hr he
    cases hb : cK P gl n lc x [] nrm with | mk f =>
    have he : loopK f (findK ks) 100000 e H call = res := by
      unfold cK at he
      rw [hb] at he
      exact he
    refine wp_loop_rounds 100000 (yaqz (B := f) hres (fun e H φ a w r h1 h2 h3 h4 h5 => ?_) 100000 e H φ a w ra hg hr he k _ fun _ _ _ hp => hp)
    exact ih.1 [] nrm r e H φ a w h1 h2 h3 h4 (by rw [hb]; exact h5)
  | exit id =>
    refine ⟨?_, fun _ _ _ h => by cases h⟩
    intro ks k res e H φ a w hres ra hg hr he
    exact wp_exit ⟨Same.refl w, φ, e, H, Step.refl hr, ra, he⟩
  | ret =>
    refine ⟨?_, fun _ _ _ h => by cases h⟩
    intro ks k res e H φ a w hres ra hg hr he
    exact wp_ret ⟨Same.refl w, φ, e, H, Step.refl hr, ra, he⟩
  | seq x y ihx ihy =>
    refine ⟨?_, fun _ _ _ h => by cases h⟩
    intro ks k res e H φ a w hres ra hg hr he
    rcases ybfp (P := P) (gl := gl) (n := n) (lc := lc) x y ks k with h | ⟨id, ops, dr, c, p, q, rfl, rfl, h⟩
    · rw [h] at he
      refine wp_seq ?_
      refine Code.wp_mono (fun ex a1 w1 hp => ?_) (ihx.1 ks (cK P gl n lc y ks k) res e H φ a w hres ra hg hr he)
      cases ex with
      | normal =>
        obtain ⟨h1, φ1, e1, H1, h2, h3, h4⟩ := hp
        refine Code.wp_mono (fun ex2 a2 w2 hp2 => CQ.mono hr h1 h2 hp2) (ihy.1 ks k res e1 H1 φ1 a1 w1 hres h3 (hg.mono h2.sub) h2.hr h4)
      | _ => exact hp
    · rw [h] at he
      refine wp_seq ?_
      refine Code.wp_mono (fun ex a1 w1 hp => ?_) (yaxp hmo hres hcall ra hg hr he)
      obtain ⟨rfl, h1, φ1, L1, st1, e1, H1, h2, h3, h4⟩ := hp
      obtain ⟨i1, i2⟩ := ihy.2 c p q rfl
      obtain ⟨b, h5, h6⟩ := yatd hres h3 (hg.mono h2.sub) h4
      refine Code.wp_mono (fun ex2 a2 w2 hp2 => CQ.mono hr h1 h2 hp2) (?_ : (Code.cond c p q).wp P (CQ P h0 lc n call (findK ks) k res φ1 H1 w1) a1 w1)
      refine wp_cond h5 ?_
      cases b with
      | true => exact i1 ks k res e1 H1 φ1 a1 w1 hres h3.clear (hg.mono h2.sub) h2.hr h6
      | false => exact i2 ks k res e1 H1 φ1 a1 w1 hres h3.clear (hg.mono h2.sub) h2.hr h6
  | _ =>
    refine ⟨?_, fun _ _ _ h => by cases h⟩
    intro ks k res e H φ a w hres ra hg hr he; obtain ⟨x, e', H', hres⟩ := hres; subst hres; cases he
theorem cK_ok (hmo : P.follows .mixedOrders = true) (hcall : CallS P h0 gl call) (c : Code) : CkOk P h0 lc n gl call c := (ybgy hmo hcall c).1
end
open Go
section
variable {P : Program} {φ : Phi} {h0 : Hp} {H : AH} {h : Hp} {lc n : Nat} {gl : List Nat} {call : CallC}
theorem yarw (v : Value) (vs : List Value) (i : Nat) (e : En) : initR (v :: vs) i e = initR vs (i + 1) (TT.set e i (some v)) := rfl
theorem yapl : ∀ (vs : List Value) (i : Nat) (e : En), i + vs.length ≤ 512 → ∀ t, TT.get (initR vs i e) t = if i ≤ t ∧ t < i + vs.length then vs[t - i]? else TT.get e t
  | [], i, e, _, t => by
    rw [if_neg (by simp [List.length_nil]; try omega)]
    rfl
  | v :: vs, i, e, h, t => by
    have hl : (v :: vs).length = vs.length + 1 := rfl
    rw [hl] at h
    rw [yarw, yapl vs (i + 1) _ (by omega) t]
    by_cases h1 : i + 1 ≤ t ∧ t < i + 1 + vs.length
    · rw [if_pos h1, if_pos (by rw [hl]; omega)]
      have : t - i = (t - (i + 1)) + 1 := by omega
      rw [this, List.getElem?_cons_succ]
    · rw [if_neg h1, (TT.set_get e i t (some v)).1 (by omega)]
      by_cases h2 : t = i
      · subst h2
        rw [if_pos rfl, if_pos (by rw [hl]; omega)]
        simp
      · rw [if_neg h2, if_neg (by rw [hl]; omega)]
theorem ybea {vs us : List Value} (hv : VRL φ vs us) (hn : vs.length ≤ n) (h5 : vs.length ≤ 511) :
    RelA φ lc n ⟨0, []⟩ [] (initR vs 0 (eT Value 3)) { tmps := us.toArray ++ Array.replicate (n - us.toArray.size) undef, defers := [] } where
  size := by have := hv.len; simp; omega
  df := rfl
  len := rfl
  sh := fun t ht => by
    have hl := hv.len
    rw [yapl vs 0 _ (by omega) t, yamj]
    by_cases h1 : t < vs.length
    · rw [if_pos ⟨Nat.zero_le _, by omega⟩, Nat.sub_zero]
      have e1 : vs[t]? = some vs[t] := List.getElem?_eq_getElem h1
      obtain ⟨u, hu, hvu⟩ := hv.get e1
      rw [e1, Array.getD_eq_getD_getElem?, Array.getElem?_append_left (by simp; omega)]
      have : us.toArray[t]? = some u := by simpa using hu
      rw [this]
      exact hvu
    · rw [if_neg (by omega), Array.getD_eq_getD_getElem?, Array.getElem?_append_right (by simp; omega)]
      have : ((Array.replicate (n - us.toArray.size) undef)[t - us.toArray.size]?).getD undef = undef := by
        rw [Array.getElem?_replicate]
        split <;> rfl
      rw [this]
      exact VR.tup .nil
  lo := fun t p hp => by cases hp
theorem yauw {r : RV} {o : Option (List Value)} {vs : List Value} (h : resR r o = some vs) : ∃ v H' vr, r = .ok v H' ∧ o = some vr ∧ vs = v :: vr := by
  cases r with
  | er l => cases h
  | ok v H' =>
    cases o with
    | none => cases h
    | some vr => cases h; exact ⟨v, H', vr, rfl, rfl, rfl⟩
theorem rK_ok {e : En} {a : Act} (ra : RelA φ lc n ⟨0, []⟩ [] e a) (hr : HR φ h0 H h) : ∀ (rs : List ResultVar) (vs : List Value), okR lc rs = true → (rK P rs).run e H = some vs →
    hq P (rs.mapM fun | .tmp t => pure (a.tmps.getD t undef) | .cell b t => do loadVar t (← asAddr (a.tmps.getD b undef))) h (fun us => VRL φ vs us)
  | [], vs, _, he => by
    cases he
    simpa [yaah] using VRL.nil
  | .tmp t :: r, vs, ho, he => by
    unfold okR at ho
    split at ho
    · cases ho
    · rename_i ht
      have hv := ra.sh t ht
      rw [← gV_eq t [] e] at hv
      unfold rK at he
      cases hg : gV t with | mk f =>
      cases hk : rK P r with | mk g =>
      rw [hg, hk] at he
      rw [hg] at hv
      have he : @Option.rec (List Value) (fun _ => Value → Option (List Value)) (fun _ => none) (fun vs v => some (v :: vs)) (g e H) (f [] e) = some vs := he
      cases hgr : g e H with
      | none => rw [hgr] at he; cases he
      | some vr =>
        rw [hgr] at he
        cases he
        simp only [List.mapM_cons, yaab, yaah]
        refine yacf _ _ _ _ (fun us hu => ?_) (rK_ok ra hr r vr ho (by rw [hk]; exact hgr))
        exact .cons hv hu
  | .cell t ty :: r, vs, ho, he => by
    unfold okR at ho
    split at ho
    · cases ho
    · rename_i ht
      have hv := ra.sh t ht
      rw [← gV_eq t [] e] at hv
      unfold rK at he
      cases hg : gV t with | mk f =>
      cases hk : rK P r with | mk g =>
      rw [hg] at hv
      have fin : ∀ {k : Addr → AH → RV}, resR (onPtr (f [] e) H k) (g e H) = some vs → (∀ v H' b oo sp m, φ b = some m → k ⟨b, oo, sp⟩ H = .ok v H' → hq P (loadVar ty ⟨m.r, oo, sp⟩) h (VR φ v)) →
          hq P ((ResultVar.cell t ty :: r).mapM fun | .tmp t => pure (a.tmps.getD t undef) | .cell b t => do loadVar t (← asAddr (a.tmps.getD b undef))) h (fun us => VRL φ vs us) := fun {k} h1 h2 => by
        obtain ⟨v, H', vr, h3, h4, rfl⟩ := yauw h1
        obtain ⟨ad, h5, h6⟩ := yanh h3
        have hv : VR φ (f [] e) (a.tmps.getD t undef) := hv
        rw [h5] at hv
        obtain ⟨m, hm, hu⟩ := hv.ptr_inv
        simp only [List.mapM_cons, yaab, yaah, hu, asAddr]
        refine yacf _ _ _ _ (fun u hvu => ?_) (h2 v H' ad.block ad.off ad.spot m hm h6)
        refine yacf _ _ _ _ (fun us hu => ?_) (rK_ok ra hr r vr ho (by rw [hk]; exact h4))
        exact .cons hvu hu
      rw [hg, hk] at he
      cases ha : yacx P ty with
      | none => rw [ha] at he; cases he
      | some b =>
        rw [ha] at he
        cases b with
        | false => exact fin he fun v H' b oo sp m hm hkk => (ybap hr hm ha hkk).2
        | true => exact fin he fun v H' b oo sp m hm hkk => (ybae hr hm ha rfl hkk).2
theorem ybbw {vs us : List Value} (hv : VRL φ vs us) : VR φ (oneV vs) (oneOf us) := by
  cases hv with
  | nil => exact .tup .nil
  | cons h1 hr =>
    cases hr with
    | nil => exact h1
    | cons h2 hr => exact .tup (.cons h1 (.cons h2 hr))
theorem ybfo {o : Option (List Value)} {v : Value} {H' : AH} (h : rtK o H = .ok v H') : ∃ vs, o = some vs ∧ v = oneV vs ∧ H' = H := by
  cases o with
  | none => cases h
  | some vs => cases h; exact ⟨vs, rfl, rfl, rfl⟩
theorem ybel (n : Nat) : capN n ≤ n ∧ capN n ≤ 511 := by
  unfold capN
  split
  · rename_i h; exact ⟨Nat.le_refl _, Nat.le_of_ble_eq_true h⟩
  · rename_i h
    have : ¬ n ≤ 511 := fun h1 => by rw [Nat.ble_eq_true_of_le h1] at h; cases h
    exact ⟨by omega, Nat.le_refl _⟩
theorem yayf {g : Nat} {fn : Func} {c : Code} {args us : List Value} {x : Exit} {e1 : En} {H1 : AH} {v : Value} {H' : AH} {K : KF} {R : En → AH → Option (List Value)}
    (hmo : P.follows .mixedOrders = true) (hcall : CallS P h0 gl call) (hg : yacl φ gl) (hr : HR φ h0 H h) (hv : VRL φ args us)
    (hf : P.funcs[g]? = some fn) (hc : yafd P g = true) (hb : fn.body = some c) (ho : okR lc fn.results.toList = true)
    (hK : cK P gl fn.ntmps lc c [] nrm = .mk K) (hR : rK P fn.results.toList = .mk R)
    (hrun : runK (capN fn.ntmps) K args H call = .ok x e1 H1) (hx : x = .normal ∨ x = .ret) (hret : rtK (R e1 H1) H1 = .ok v H') :
    yaiu P g us h (Out φ h0 H h v H') := by
  refine .inl ⟨yafm hc, ?_⟩
  obtain ⟨hc1, hc2⟩ := ybel fn.ntmps
  cases hle : Nat.ble (lenV0 args) (capN fn.ntmps) with
  | false => unfold runK at hrun; rw [hle] at hrun; cases hrun
  | true =>
    have hle' := Nat.le_of_ble_eq_true hle
    rw [yabe] at hle'
    unfold runK at hrun
    rw [hle] at hrun
    have hrun : K (initR args 0 (eT Value 3)) H call = .ok x e1 H1 := hrun
    intro w hw
    refine calls_of_wp hf hb ?_
    have ra := ybea (lc := lc) hv (n := fn.ntmps) (by omega) (by omega)
    subst hw
    refine Code.wp_mono (fun ex a' w' hp => ?_) (cK_ok hmo hcall c [] nrm (.ok x e1 H1) _ H φ _ w ⟨x, e1, H1, rfl⟩ ra hg hr (by rw [hK]; exact hrun))
    obtain ⟨hs, φ1, e2, H2, st, ra2, hm⟩ := hp
    obtain ⟨vs, hvs, rfl, rfl⟩ := ybfo hret
    have fin : e2 = e1 → H2 = H' → a'.defers = [] ∧ ∃ v_1, (results fn a'.tmps).run P w' = .ok v_1 w' ∧ ∃ v_2, Ending.returned v_1 = .returned v_2 ∧ Same w w' ∧ Out φ h0 H w.heap (oneV vs) H' v_2 w'.heap := fun h1 h2 => by
      subst h1; subst h2
      refine ⟨ra2.df, ?_⟩
      have h1 := rK_ok (P := P) ra2 st.hr fn.results.toList vs ho (by rw [hR]; exact hvs)
      have h2 : hq P (results fn a'.tmps) w'.heap fun u => VR φ1 (oneV vs) u := by
        unfold results
        rw [yaab, Array.mapM_eq_mapM_toList, map_eq_pure_bind, yaab]
        refine yacf _ _ _ _ (fun us hus => ?_) h1
        rw [yaah, yaah]
        have e : (if h : us.toArray.size = 1 then us.toArray[0] else Value.tuple us.toArray) = oneOf us := by
          match us with
          | [] => rfl
          | [v] => rfl
          | _ :: _ :: _ => simp [oneOf]
        rw [e]
        exact ybbw hus
      obtain ⟨u, hu, hrun⟩ := yake _ _ _ h2
      exact ⟨u, hrun w' rfl, u, rfl, hs, φ1, st, hu⟩
    cases ex with
    | normal =>
      have hm : RC.ok .normal e2 H2 = RC.ok x e1 H' := hm
      cases hm
      exact fin rfl rfl
    | ret =>
      have hm : RC.ok .ret e2 H2 = RC.ok x e1 H' := hm
      cases hm
      exact fin rfl rfl
    | exit i =>
      have hm : RC.ok (.exit i) e2 H2 = RC.ok x e1 H' := hm
      cases hm
      rcases hx with hx | hx <;> cases hx
    | _ => exact hm.elim
theorem yaho {T : Tab} (hmo : P.follows .mixedOrders = true) (hnat : ∀ g f, T.nat g = some f → ∀ φ, yacl φ T.gl → ∀ args H v H' h us, HR φ h0 H h → VRL φ args us → f args H = .ok v H' → yaiu P g us h (Out φ h0 H h v H')) : ∀ n, CallS P h0 T.gl (callK P T n)
  | 0 => fun _ _ _ _ _ _ _ _ _ _ _ he => by cases he
  | n + 1 => fun φ hg g args H v H' h us hr hv he => by
    have ih := yaho hmo hnat n
    have he : @CFn.rec (fun _ => Nat → List Value → AH → CallC → RV)
      (fun n f rs g args H ih => @RC.rec (fun _ => (En → AH → Option (List Value)) → Nat → RV) (fun x e H rs _ => @Exit.rec (fun _ => En → AH → (En → AH → Option (List Value)) → RV) (fun e H rs => rtK (rs e H) H) (fun _ _ _ _ => .er [130]) (fun _ _ _ _ => .er [130]) (fun e H rs => rtK (rs e H) H) (fun _ _ _ _ => .er [130]) (fun _ _ _ => .er [130]) x e H rs) (fun l _ g => .er (g :: 1000000 :: l)) (runK n f args H ih) rs g)
      (fun f _ args H _ => f args H) (fun g _ _ _ => .er [132, g]) (cFn P T g) g args H (callK P T n) = .ok v H' := he
    cases hcf : cFn P T g with
    | no => rw [hcf] at he; cases he
    | nat f =>
      rw [hcf] at he
      have he : f args H = .ok v H' := he
      have : T.nat g = some f := by
        unfold cFn at hcf
        split at hcf
        · rename_i f' hf'
          cases hcf
          exact hf'
        · split at hcf
          · split at hcf
            · split at hcf; cases hcf
            · cases hcf
          · cases hcf
      exact hnat g f this φ hg args H v H' h us hr hv he
    | code m f rs =>
      rw [hcf] at he
      have he : @RC.rec (fun _ => (En → AH → Option (List Value)) → Nat → RV) (fun x e H rs _ => @Exit.rec (fun _ => En → AH → (En → AH → Option (List Value)) → RV) (fun e H rs => rtK (rs e H) H) (fun _ _ _ _ => .er [130]) (fun _ _ _ _ => .er [130]) (fun e H rs => rtK (rs e H) H) (fun _ _ _ _ => .er [130]) (fun _ _ _ => .er [130]) x e H rs) (fun l _ g => .er (g :: 1000000 :: l)) (runK m f args H (callK P T n)) rs g = .ok v H' := he
      unfold cFn at hcf
      split at hcf
      · cases hcf
      · split at hcf
        · rename_i fn hfn hcb
          split at hcf
          · rename_i c hbody hokr
            cases hK : cK P T.gl fn.ntmps (T.lc g) c [] nrm with | mk K0 =>
            cases hR : rK P fn.results.toList with | mk R0 =>
            rw [hK, hR] at hcf
            have hcf : CFn.code (capN fn.ntmps) K0 R0 = CFn.code m f rs := hcf
            injection hcf with e1 e2 e3
            subst e1; subst e2; subst e3
            cases hrun : runK (capN fn.ntmps) K0 args H (callK P T n) with
            | er l => rw [hrun] at he; cases he
            | ok x e1 H1 =>
              rw [hrun] at he
              cases x with
              | normal => exact yayf hmo ih hg hr hv hfn hcb hbody hokr hK hR hrun (.inl rfl) he
              | ret => exact yayf hmo ih hg hr hv hfn hcb hbody hokr hK hR hrun (.inr rfl) he
              | _ => cases he
          · cases hcf
        · cases hcf
end
open Go
def NatOk (P : Program) (h0 : Hp) (gl : List Nat) (g : Nat) (f : List Value → AH → RV) : Prop :=
  ∀ φ, yacl φ gl → ∀ args H v H' h us, HR φ h0 H h → VRL φ args us → f args H = .ok v H' → yaiu P g us h (Out φ h0 H h v H')
section
variable {P : Program} {φ : Phi} {h0 h : Hp} {H He H' : AH}
theorem yaiu.mono {g : Nat} {us : List Value} {K K' : Value → Hp → Prop} (hc : yaiu P g us h K) (hm : ∀ v h', K v h' → K' v h') : yaiu P g us h K' := by
  rcases hc with ⟨h1, h2⟩ | ⟨e, h1, h2⟩
  · exact .inl ⟨h1, h2.mono hm⟩
  · exact .inr ⟨e, h1, yacf _ _ _ _ (fun v hv => hm v h hv) h2⟩
theorem HR.part (hr : HR φ h0 H h) (hnx : H.nx ≤ He.nx) (hs : ∀ b k, TT.get He.m b = some k → (OwnB k ∧ TT.get H.m b = some k) ∨ (¬ OwnB k ∧ ∃ m, φ b = some m ∧ m.r < h0.size ∧ BR φ m h k)) : HR φ h0 He h := by
  refine ⟨fun b hb => hr.fresh b (Nat.le_trans hnx hb), hr.size, hr.old, fun b k g => ?_, fun b b' k k' m g g' o o' e1 e2 => ?_⟩
  · rcases hs b k g with ⟨_, h1⟩ | ⟨hn, m, h1, h2, h3⟩
    · exact hr.blk b k h1
    · exact ⟨m, h1, fun ho => absurd ho hn, fun _ => h2, h3⟩
  · rcases hs b k g with ⟨_, h1⟩ | ⟨hn, _⟩
    · rcases hs b' k' g' with ⟨_, h2⟩ | ⟨hn, _⟩
      · exact hr.inj b b' k k' m h1 h2 o o' e1 e2
      · exact absurd o' hn
    · exact absurd o hn
theorem Step.part {ψ : Phi} {h' : Hp} {X : Nat} (hr : HR φ h0 H h) (hnx : H.nx ≤ He.nx) (hs : ∀ b k, TT.get He.m b = some k → OwnB k → TT.get H.m b = some k) (hk : ∀ b k, TT.get He.m b = some k → OwnB k → TT.get H'.m b = some k) (hX : H'.nx ≤ X) (s : Step φ ψ h0 He H' h h') :
    Step φ ψ h0 H ⟨X, H.m⟩ h h' := by
  have keep : ∀ b k m, TT.get H.m b = some k → φ b = some m → (∃ k', TT.get He.m b = some k' ∧ OwnB k') ∨ h'[m.r]? = h[m.r]? := fun b k m g e => by
    obtain ⟨m', e', h1, h2, hb⟩ := hr.blk b k g
    rw [e] at e'
    obtain rfl := Option.some.inj e'
    rcases OwnB.em k with ho | ho
    · by_cases hx : ∃ k', TT.get He.m b = some k' ∧ OwnB k'
      · exact .inl hx
      · refine .inr (s.frm _ (hb.lt ho) fun b1 k1 m1 g1 o1 e1 he => hx ?_)
        obtain rfl := hr.inj b1 b k1 k m1 (hs b1 k1 g1 o1) g o1 ho e1 ⟨m, e, he⟩
        exact ⟨k1, g1, o1⟩
    · exact .inr (by rw [s.hr.old _ (h2 ho), hr.old _ (h2 ho)])
  refine ⟨s.sub, fun b m e => ?_, ⟨fun b hb => s.hr.fresh b (Nat.le_trans hX hb), s.hr.size, s.hr.old, fun b k g => ?_, fun b b' k k' m g g' o o' e1 e2 => ?_⟩, ?_, s.size, fun r hlt hn => s.frm r hlt fun b k m g ho e => hn b k m (hs b k g ho) ho e, fun b k g ho _ => ⟨k, g, ho⟩⟩
  · rcases s.new b m e with e1 | ⟨h1, h2⟩
    · exact .inl e1
    · refine .inr ⟨Nat.le_trans hnx h1, ?_⟩
      rcases h2 with h2 | ⟨b0, k0, m0, g0, o0, e0, h2⟩
      · exact .inl h2
      · exact .inr ⟨b0, k0, m0, hs b0 k0 g0 o0, o0, e0, h2⟩
  · obtain ⟨m, e, h1, h2, hb⟩ := hr.blk b k g
    refine ⟨m, s.sub b m e, h1, h2, ?_⟩
    rcases keep b k m g e with ⟨k', g', o'⟩ | hh
    · have gk := hs b k' g' o'
      have g : TT.get H.m b = some k := g
      rw [g] at gk
      obtain rfl := Option.some.inj gk
      obtain ⟨m', e', _, _, hb'⟩ := s.hr.blk b k (hk b k g' o')
      rw [s.sub b m e] at e'
      obtain rfl := Option.some.inj e'
      exact hb'
    · exact (hb.mono s.sub).heap hh
  · obtain ⟨m1, f1, _⟩ := hr.blk b k g
    obtain ⟨m2, f2, _⟩ := hr.blk b' k' g'
    rw [s.sub b m1 f1] at e1
    cases e1
    obtain ⟨m', e2, e3⟩ := e2
    rw [s.sub b' m2 f2] at e2
    cases e2
    exact hr.inj b b' k k' _ g g' o o' f1 ⟨_, f2, e3⟩
  · have := s.nx; show H.nx ≤ X; omega
theorem Step.pure {ψ : Phi} {h' : Hp} (hr : HR φ h0 H h) (hno : ∀ b k, TT.get He.m b = some k → ¬ OwnB k) (s : Step φ ψ h0 He H' h h') : Step φ φ h0 H H h h' := by
  have keep : ∀ b k m, TT.get H.m b = some k → φ b = some m → h'[m.r]? = h[m.r]? := fun b k m g e => by
    obtain ⟨m', e', h1, h2, hb⟩ := hr.blk b k g
    rw [e] at e'
    obtain rfl := Option.some.inj e'
    rcases OwnB.em k with ho | ho
    · exact s.frm _ (hb.lt ho) fun b1 k1 m1 g1 o1 e1 he => hno b1 k1 g1 o1
    · rw [s.hr.old _ (h2 ho), hr.old _ (h2 ho)]
  refine ⟨Sub.refl φ, fun _ _ e => .inl e, ⟨hr.fresh, s.hr.size, s.hr.old, fun b k g => ?_, hr.inj⟩, Nat.le_refl _, s.size, fun r hlt _ => s.frm r hlt fun b k m g ho e => absurd ho (hno b k g), fun b k g ho _ => ⟨k, g, ho⟩⟩
  obtain ⟨m, e, h1, h2, hb⟩ := hr.blk b k g
  exact ⟨m, e, h1, h2, hb.heap (keep b k m g e)⟩
def TabOk (h0 : Hp) (t : Nat) (cs : Cs) : Prop := t < h0.size ∧ ∀ i v, Cs.get cs i = some v → cell h0 ⟨t, i, none⟩ = some v ∧ plain v = true
theorem TabOk.br (hr : HR φ h0 H h) {t : Nat} {cs : Cs} (ht : TabOk h0 t cs) {m : Ph} (hm : m.r = t) : m.r < h0.size ∧ BR φ m h (.ro cs) := by
  subst hm
  refine ⟨ht.1, fun i v hv => ?_⟩
  obtain ⟨h1, h2⟩ := ht.2 i v hv
  exact ⟨v, by rw [yass (hr.old _ ht.1)]; exact h1, VR.plain h2⟩
theorem VRL.plain_eq : ∀ {vs us : List Value}, Sx.plains vs = true → VRL φ vs us → us = vs
  | [], us, _, h => by cases h; rfl
  | v :: vs, us, hp, h => by
    simp only [Sx.plains, Bool.and_eq_true] at hp
    cases h with
    | cons h1 h2 =>
      rw [VRL.plain_eq hp.2 h2]
      have : ∀ {u}, VR φ v u → u = v := fun {u} h => by
        have hp := hp.1
        unfold Sx.plain at hp
        split at hp <;> first | (cases hp; done) | (cases h; rfl)
      rw [this h1]
noncomputable def eqBk (o : Option Bk) (n z ty : Nat) (l : List Value) : Bool := match o with
  | some (.row n' z' ty' (.sm l')) => Nat.beq n' n && Nat.beq z' z && Nat.beq ty' ty && eqL1 l' l
  | _ => false
theorem yaen {o : Option Bk} {n z ty : Nat} {l : List Value} (h : eqBk o n z ty l = true) : o = some (.row n z ty (.sm l)) := by
  unfold eqBk at h
  split at h
  · simp only [Bool.and_eq_true] at h
    obtain ⟨⟨⟨h1, h2⟩, h3⟩, h4⟩ := h
    rw [Nat.eq_of_beq_eq_true h1, Nat.eq_of_beq_eq_true h2, Nat.eq_of_beq_eq_true h3, (yafc (φ := fun _ => none) h4).1]
  · cases h
end
end Go.Sx
