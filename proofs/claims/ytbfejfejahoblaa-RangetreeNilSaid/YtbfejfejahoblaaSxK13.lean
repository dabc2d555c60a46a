/- Part K5 K6 K7 K8 K9 K10 R1 FBG K11 K13 of the proof: contracts of functions of the program, and what follows from them. -/
import Derived.Test.YtbfejfejahoblaaSxK4
import Derived.Test.YtbfejfejahoblaaSxSA
import Derived.Deep.Slices
import Derived.OpenShut
import Derived.Test.YtbfejfejahoblaaRows
import Derived.WalkKit
import Derived.ProofKit
import Derived.ShutString
import Derived.ChangeOld
import Derived.Below
import Derived.ChangeMaps5
import Derived.Deep.Grids
/- Points: equality, predicates by closures, leaving out. -/
set_option maxRecDepth 100000
namespace Go.Proofs.Ytbfejfejahoblaa
open Go Go.Sx
theorem eq_pt {a b : Pt} : (decide (a.1 = b.1) && (decide (a.2.1 = b.2.1) && (decide (a.2.2 = b.2.2) && true))) = decide (a = b) := by
  rw [Bool.eq_iff_iff]
  simp only [Bool.and_true, Bool.and_eq_true, decide_eq_true_eq]
  constructor
  · rintro ⟨h1, h2, h3⟩; exact Prod.ext h1 (Prod.ext h2 h3)
  · rintro rfl; exact ⟨rfl, rfl, rfl⟩
theorem neq_pt {xo yo : Operand} (a b : Pt) {h : Hp} : eqC Try.prog .neq 33 xo yo (encPt a) (encPt b) h (!decide (a = b)) := by
  rw [← eq_pt]
  exact (eqC_struct (xs := [.int .i64 a.1, .int .i64 a.2.1, .int .i64 a.2.2]) (ys := [.int .i64 b.1, .int .i64 b.2.1, .int .i64 b.2.2]) (fs := structFs Try.prog 33) (by kernel_rfl) (by kernel_rfl) (by kernel_rfl) (by kernel_rfl)).2 rfl
theorem eql_pt {xo yo : Operand} (a b : Pt) {h : Hp} : eqC Try.prog .eql 33 xo yo (encPt a) (encPt b) h (decide (a = b)) := by
  rw [← eq_pt]
  exact (eqC_struct (xs := [.int .i64 a.1, .int .i64 a.2.1, .int .i64 a.2.2]) (ys := [.int .i64 b.1, .int .i64 b.2.1, .int .i64 b.2.2]) (fs := structFs Try.prog 33) (by kernel_rfl) (by kernel_rfl) (by kernel_rfl) (by kernel_rfl)).1 rfl
/-- What a closure says of points, in a state. -/
def PredP (h0 : Hp) (G : Bag) (f : Value) (cf : Pt → Bool) : Prop := ∀ (x : Pt) (h : Hp) (B : Bag) (K : Value → Hp → Prop), St h0 h (G + B) → (∀ h', Ext h h' → K (.bool (cf x)) h') → funV f fun fg fa fc => callX Try.prog F fg (fa ++ (([encPt x] : List Value) ++ fc)).toArray h K
theorem IndexF {h0 h : Hp} {G B : Bag} {f : Value} {cf : Pt → Bool} {p : Option Addr} {n c : Nat} {l : List Pt} (hf : PredP h0 G f cf) (s : St h0 h (G + B)) (r : RdT tPt h p n l) (hn : n ≤ 1000000) :
    HCalls Try.prog 44 #[.slice p n c, f] h (fun v h' => Ext h h' ∧ ((v = .int .i64 (-1) ∧ ∀ x ∈ l, cf x = false) ∨ ∃ i : Nat, v = .int .i64 (i : Int) ∧ i < n ∧ cf (l.getD i tPt.d) = true ∧ ∀ x ∈ l.take i, cf x = false)) := by
  have hll := r.len
  refine slices_IndexFunc_Sapi_Point_api_Point_call ?_
  rw [slices_IndexFunc_Sapi_Point_api_Point_b0_eq]
  refine ⟨fun q h' => Ext h h' ∧ ∃ i : Nat, q.1 = i ∧ i ≤ n ∧ ∀ x ∈ l.take i, cf x = false, fun q _ => (n - q.1).toNat, ⟨.refl _, 0, rfl, Nat.zero_le _, fun x hx => by rw [List.take_zero] at hx; cases hx⟩, ?_⟩
  rintro ⟨_, _⟩ h1 ⟨x1, i, rfl, hi, hall⟩
  dsimp only
  rw [slices_IndexFunc_Sapi_Point_api_Point_b1_eq]
  refine condP (fun hlt => ?_) (fun hge => ?_)
  · refine ldPT (i' := i) (r.ext x1) rfl (by omega) ?_
    refine hf (l.getD i tPt.d) _ B _ (s.grow x1) fun h2 x2 => ⟨_, rfl, cond_intro (fun hc => ⟨x1.trans x2, .inr ⟨i, rfl, by omega, hc, hall⟩⟩) (fun hc => ?_)⟩
    rw [slices_IndexFunc_Sapi_Point_api_Point_b2_eq]
    refine ⟨⟨by omega, by omega⟩, ⟨x1.trans x2, i + 1, by push_cast; rfl, by omega, fun x hx => ?_⟩, by dsimp only; omega⟩
    rw [take_succ_d (by omega)] at hx
    rcases List.mem_append.1 hx with hx | hx
    · exact hall x hx
    · rw [List.mem_singleton.1 hx]; exact hc
  · rw [slices_IndexFunc_Sapi_Point_api_Point_b3_eq]
    rw [List.take_of_length_le (by omega)] at hall
    exact ⟨x1, .inl ⟨rfl, hall⟩⟩
theorem ContainsF {h0 h : Hp} {G B : Bag} {f : Value} {cf : Pt → Bool} {p : Option Addr} {n c : Nat} {l : List Pt} (hf : PredP h0 G f cf) (s : St h0 h (G + B)) (r : RdT tPt h p n l) (hn : n ≤ 1000000) :
    HCalls Try.prog 26 #[.slice p n c, f] h (fun v h' => Ext h h' ∧ v = .bool (l.any cf)) := by
  have hll := r.len
  refine slices_ContainsFunc_Sapi_Point_api_Point_call ?_
  rw [slices_ContainsFunc_Sapi_Point_api_Point_b0_eq]
  refine (IndexF hf s r hn).mono fun v h1 ⟨x1, hv⟩ => ?_
  rcases hv with ⟨hv, hall⟩ | ⟨i, hv, hi, hc, _⟩
  · refine ⟨_, hv, x1, ?_⟩
    have : l.any cf = false := List.any_eq_false.2 fun x hx => by rw [hall x hx]; simp
    rw [this]; rfl
  · refine ⟨_, hv, x1, ?_⟩
    have hil : i < l.length := by omega
    rw [getD_get (d := tPt.d) hil] at hc
    have : l.any cf = true := List.any_eq_true.2 ⟨_, List.getElem_mem hil, hc⟩
    rw [this, decide_eq_true (by omega)]
end Go.Proofs.Ytbfejfejahoblaa

/- The tree: valid points, Make, asking. -/
set_option maxRecDepth 100000
namespace Go.Proofs.Ytbfejfejahoblaa
open Go Go.Sx
def vPt (p : Pt) : Bool := decide ((-1048576 ≤ p.1 ∧ p.1 ≤ 1048576) ∧ (-1048576 ≤ p.2.1 ∧ p.2.1 ≤ 1048576) ∧ (-1048576 ≤ p.2.2 ∧ p.2.2 ≤ 1048576))
theorem vPt_iff {p : Pt} : vPt p = true ↔ (-1048576 ≤ p.1 ∧ p.1 ≤ 1048576) ∧ (-1048576 ≤ p.2.1 ∧ p.2.1 ≤ 1048576) ∧ (-1048576 ≤ p.2.2 ∧ p.2.2 ≤ 1048576) := by unfold vPt; rw [decide_eq_true_eq]
theorem valid_ok (x : Pt) (h : Hp) : HCalls Try.prog 28 #[encPt x] h (fun v h' => Ext h h' ∧ v = .bool (vPt x)) := by
  refine rangetree_valid_call ?_
  rw [rangetree_valid_b0_eq]
  refine (St.start h).new (cs := [_, _, _]) fun b1 h1 _ s => ⟨_, s.ld0, _, s.ldB, _, s.ldB, condP (fun hc => ⟨_, s.ld0, _, s.ldB, _, s.ldB, s.ext, ?_⟩) (fun hc => ⟨s.ext, ?_⟩)⟩
  · unfold vPt
    congr 1
    refine decide_eq_decide.2 ?_
    revert hc
    repeat' split
    all_goals omega
  · unfold vPt
    congr 1
    refine (decide_eq_false ?_).symm
    revert hc
    repeat' split
    all_goals omega
theorem validN (h0 : Hp) : PredP h0 0 (.func (.func 27) #[] #[]) (fun x => !vPt x) := fun x h B K _ hK => by
  refine funX_of (by kernel_rfl) (rangetree_Make_c1_call ?_)
  rw [rangetree_Make_c1_b0_eq]
  refine (St.start h).new (cs := [_, _, _]) fun b1 h1 _ s => ⟨_, _, _, s.ld0, s.ldB, s.ldB, (valid_ok x _).mono fun v h2 ⟨x2, hv⟩ => ⟨_, hv, hK _ (s.ext.trans x2)⟩⟩
/-! ### plain -/
theorem setk_len {ps : PS} {k : Int × Int} {w : Int} : (setk ps k w).length = ps.length + if lkp ps k = none then 1 else 0 := by
  induction ps with
  | nil => rfl
  | cons e l ih =>
    obtain ⟨a, v⟩ := e
    unfold setk lkp
    by_cases h : a = k
    · rw [if_pos h, if_pos h, if_neg (by simp)]; rfl
    · rw [if_neg h, if_neg h, List.length_cons, ih, List.length_cons]; omega
/-- A map after some points were put in. -/
def MI (l : List Pt) (ps : PS) : Prop := ((l.map place).Nodup ∧ ps = l.map kvOf) ∨ (¬ (l.map place).Nodup ∧ ps.length < l.length)
theorem MI_step {l : List Pt} {ps : PS} (h : MI l ps) (p : Pt) : MI (l ++ [p]) (setk ps (place p) p.2.2) := by
  rcases h with ⟨hn, rfl⟩ | ⟨hn, hl⟩
  · have hk : (l.map kvOf).map Prod.fst = l.map place := by rw [List.map_map]; rfl
    cases hc : lkp (l.map kvOf) (place p) with
    | none =>
      refine .inl ⟨?_, by rw [setk_new hc, List.map_append]; rfl⟩
      rw [List.map_append, List.nodup_append]
      refine ⟨hn, by simp, fun x hx y hy e => ?_⟩
      rw [List.map_singleton, List.mem_singleton] at hy
      subst hy; subst e
      rw [lkp_none, hk] at hc
      exact hc hx
    | some w =>
      refine .inr ⟨fun hn2 => ?_, by rw [setk_len, if_neg (by rw [hc]; simp)]; simp⟩
      rw [List.map_append, List.nodup_append] at hn2
      have : ¬ lkp (l.map kvOf) (place p) = none := by rw [hc]; simp
      rw [lkp_none, hk, Classical.not_not] at this
      exact hn2.2.2 _ this _ (by simp) rfl
  · refine .inr ⟨fun hn2 => hn ?_, ?_⟩
    · rw [List.map_append, List.nodup_append] at hn2; exact hn2.1
    · rw [setk_len, List.length_append, List.length_singleton]; split <;> omega
structure RI (ps : PS) (parts : List (List Pt)) (rem : List Pt) : Prop where
  perm : parts.flatten.Perm (ptsOf ps ++ rem)
  val : ∀ x ∈ parts.flatten, vPt x = true
  ne : ∀ P ∈ parts, P ≠ []
  small : 2 * rem.length < storedOf parts ∨ parts = []
  len : ps.length ≤ 1000
section
variable {ps : PS} {parts : List (List Pt)} {rem : List Pt}
theorem RI.stored (r : RI ps parts rem) : storedOf parts = ps.length + rem.length := by
  have := r.perm.length_eq
  rw [storedOf_flat, List.length_append, ptsOf_len] at this
  exact this
theorem RI.bound (r : RI ps parts rem) : storedOf parts ≤ 2000 ∧ rem.length ≤ 1000 := by
  have h1 := r.stored
  have h2 := r.len
  rcases r.small with h | h
  · omega
  · subst h
    have : storedOf [] = 0 := rfl
    omega
theorem parts_len : ∀ {parts : List (List Pt)}, (∀ P ∈ parts, P ≠ []) → parts.length ≤ storedOf parts
  | [], _ => Nat.le_refl _
  | P :: R, h => by
    have ih := parts_len (parts := R) fun Q hQ => h Q (List.mem_cons_of_mem _ hQ)
    have hp := List.length_pos_iff.2 (h P List.mem_cons_self)
    have e : storedOf (P :: R) = P.length + storedOf R := by simp [storedOf]
    rw [List.length_cons, e]; omega
theorem RI.wok (r : RI ps parts rem) : WOk parts.flatten := fun x hx => (vPt_iff.1 (r.val x hx)).2.2
theorem RI.wrem (r : RI ps parts rem) : WOk rem := fun x hx => r.wok x (r.perm.mem_iff.2 (List.mem_append.2 (.inr hx)))
end
theorem cntB_bound (x1 x2 y1 y2 : Int) (l : List Pt) : 0 ≤ cntB x1 x2 y1 y2 l ∧ cntB x1 x2 y1 y2 l ≤ l.length := by
  unfold cntB
  have := List.length_filter_le (inB x1 x2 y1 y2) l
  omega
theorem sumB_bound {x1 x2 y1 y2 : Int} {l : List Pt} (hw : WOk l) : -(1048576 * (l.length : Int)) ≤ sumB x1 x2 y1 y2 l ∧ sumB x1 x2 y1 y2 l ≤ 1048576 * (l.length : Int) := by
  unfold sumB
  have h1 := wSum_bound (l := l.filter (inB x1 x2 y1 y2)) fun x hx => hw x (List.mem_filter.1 hx).1
  have := List.length_filter_le (inB x1 x2 y1 y2) l
  omega
section
variable {h0 h : Hp} {tb : Nat} {ps : PS} {parts : List (List Pt)} {rem : List Pt} {built : Int} {A F : Bag}
theorem cntB_nil (x1 x2 y1 y2 : Int) : cntB x1 x2 y1 y2 [] = 0 := rfl
theorem sumB_nil (x1 x2 y1 y2 : Int) : sumB x1 x2 y1 y2 [] = 0 := rfl
theorem take_flat {parts : List (List Pt)} {i : Nat} (h : i < parts.length) : (parts.take (i + 1)).flatten = (parts.take i).flatten ++ parts.getD i [] := by
  rw [List.take_succ_eq_append_getElem h, List.flatten_append, getD_get h]
  simp
theorem flat_take_le (parts : List (List Pt)) (i : Nat) : (parts.take i).flatten.length ≤ storedOf parts := by
  conv => rhs; rw [← List.take_append_drop i parts, storedOf_app]
  rw [storedOf_flat]; omega
theorem treeAsk_ok (a : TreeA tb ps parts rem built A) (s : St h0 h (A + F)) (ri : RI ps parts rem) (x1 x2 y1 y2 : Int) :
    HCalls Try.prog 33 #[ptr tb, .int .i64 x1, .int .i64 x2, .int .i64 y1, .int .i64 y2] h (fun v h' => Ext h h' ∧ v = .tuple #[.int .i64 (cntB x1 x2 y1 y2 (ptsOf ps)), .int .i64 (sumB x1 x2 y1 y2 (ptsOf ps))]) := by
  obtain ⟨m, pp, rp, pc, rc, bs, Am, Ap, L, Ar, hm, o1, hL, o2, rfl⟩ := a
  obtain ⟨hb1, hb2⟩ := ri.bound
  have hpl := parts_len ri.ne
  have hbl := hL.len
  have hwf := ri.wok
  have hwr := ri.wrem
  have s := s.to (B := cA tb [.map (some m), .slice pp parts.length pc, .slice rp rem.length rc, .int .i64 (storedOf parts : Nat), .int .i64 built] 68 + (Am + (Ap + (L + (Ar + F)))))
  refine rangetree_Tree_ask_call ?_
  rw [rangetree_Tree_ask_b0_eq]
  refine ⟨_, _, _, s.ldB, ?_⟩
  refine ⟨fun q h' => ∃ i : Nat, q.2.2.1 = i ∧ i ≤ parts.length ∧ q.1 = cntB x1 x2 y1 y2 (parts.take i).flatten ∧ q.2.1 = sumB x1 x2 y1 y2 (parts.take i).flatten ∧ Ext h h', fun q _ => (parts.length - q.2.2.1).toNat, ⟨0, rfl, Nat.zero_le _, rfl, rfl, .refl _⟩, ?_⟩
  rintro ⟨_, _, _, _⟩ h1 ⟨i, rfl, hi, rfl, rfl, e1⟩
  dsimp only
  have s := s.grow e1
  have wi : WOk (parts.take i).flatten := fun x hx => hwf x (by rw [List.mem_flatten] at hx ⊢; obtain ⟨P, hP, hx⟩ := hx; exact ⟨P, List.mem_of_mem_take hP, hx⟩)
  have c1 := cntB_bound x1 x2 y1 y2 (parts.take i).flatten
  have c2 := sumB_bound (x1 := x1) (x2 := x2) (y1 := y1) (y2 := y2) wi
  have c3 := flat_take_le parts i
  rw [rangetree_Tree_ask_b1_eq]
  refine condP (fun hlt => ?_) (fun hge => ?_)
  · have hin : i < parts.length := by omega
    refine (o1.rd (s.at Ap)).ptr (by omega) (by omega) ?_
    obtain ⟨Li, Lr, rfl, pa⟩ := hL.pick (d := []) (d' := 0) (i := i) (by omega)
    have hP : parts.getD i [] ∈ parts := by rw [getD_get hin]; exact List.getElem_mem _
    have wP : WOk (parts.getD i []) := fun x hx => hwf x (List.mem_flatten.2 ⟨_, hP, hx⟩)
    have lP : (parts.getD i []).length ≤ storedOf parts := by
      have := flat_take_le parts (i + 1)
      rw [take_flat hin, List.length_append] at this; omega
    rw [Int.toNat_natCast]
    refine (rectangle_ok pa (s.to (B := Li + (cA tb [.map (some m), .slice pp parts.length pc, .slice rp rem.length rc, .int .i64 (storedOf parts : Nat), .int .i64 built] 68 + (Am + (Ap + (Lr + (Ar + F))))))) (by omega) wP x1 x2 y1 y2).mono fun v h2 ⟨e2, hv⟩ => ⟨_, _, hv, ?_⟩
    have d1 := cntB_bound x1 x2 y1 y2 (parts.getD i [])
    have d2 := sumB_bound (x1 := x1) (x2 := x2) (y1 := y1) (y2 := y2) wP
    refine ⟨⟨by omega, by omega⟩, ⟨by omega, by omega⟩, ?_⟩
    rw [rangetree_Tree_ask_b2_eq]
    refine ⟨⟨by omega, by omega⟩, ⟨i + 1, by push_cast; rfl, by omega, ?_, ?_, e1.trans e2⟩, by dsimp only; omega⟩
    · rw [take_flat hin, cntB_app]
    · rw [take_flat hin, sumB_app]
  obtain rfl : i = parts.length := by omega
  rw [List.take_length] at *
  rw [rangetree_Tree_ask_b3_eq]
  refine ⟨_, _, _, s.ldB, ?_⟩
  refine ⟨fun q h' => ∃ i : Nat, q.2.2.1 = i ∧ i ≤ rem.length ∧ q.1 = cntB x1 x2 y1 y2 parts.flatten - cntB x1 x2 y1 y2 (rem.take i) ∧ q.2.1 = sumB x1 x2 y1 y2 parts.flatten - sumB x1 x2 y1 y2 (rem.take i) ∧ Ext h1 h', fun q _ => (rem.length - q.2.2.1).toNat, ⟨0, rfl, Nat.zero_le _, by rw [List.take_zero, cntB_nil]; omega, by dsimp only; rw [List.take_zero, sumB_nil]; omega, .refl _⟩, ?_⟩
  rintro ⟨_, _, _, _⟩ h2 ⟨i, rfl, hi, rfl, rfl, e2⟩
  dsimp only
  have s := s.grow e2
  have wi : WOk (rem.take i) := fun x hx => hwr x (List.mem_of_mem_take hx)
  have d1 := cntB_bound x1 x2 y1 y2 (rem.take i)
  have d2 := sumB_bound (x1 := x1) (x2 := x2) (y1 := y1) (y2 := y2) wi
  rw [List.length_take] at d1 d2
  rw [rangetree_Tree_ask_b4_eq]
  refine condP (fun hlt => ?_) (fun hge => ?_)
  · have hin : i < rem.length := by omega
    refine ldPT (i' := i) (o2.rd (s.at Ar)) rfl hin ?_
    have hwx := hwr (rem.getD i tPt.d) (by rw [getD_get hin]; exact List.getElem_mem _)
    have htk := take_succ_d hin
    generalize rem.getD i tPt.d = x at *
    have cs1 : cntB x1 x2 y1 y2 (rem.take (i + 1)) = cntB x1 x2 y1 y2 (rem.take i) + (if x1 ≤ x.1 ∧ x.1 ≤ x2 ∧ y1 ≤ x.2.1 ∧ x.2.1 ≤ y2 then 1 else 0) := by
      rw [htk, cntB_app]
      unfold cntB inB
      rw [List.filter_cons]
      split <;> rename_i hh <;> rw [decide_eq_true_eq] at hh
      · rw [if_pos hh]; rfl
      · rw [if_neg hh]; rfl
    have cs2 : sumB x1 x2 y1 y2 (rem.take (i + 1)) = sumB x1 x2 y1 y2 (rem.take i) + (if x1 ≤ x.1 ∧ x.1 ≤ x2 ∧ y1 ≤ x.2.1 ∧ x.2.1 ≤ y2 then x.2.2 else 0) := by
      rw [htk, sumB_app]
      unfold sumB inB
      rw [List.filter_cons]
      split <;> rename_i hh <;> rw [decide_eq_true_eq] at hh
      · rw [if_pos hh, List.filter_nil, wSum_cons, wSum_nil]; omega
      · rw [if_neg hh]; rfl
    refine (St.start h2).new (cs := [_, _, _]) fun b h3 x3 t => t.wr3 fun h7 t => ⟨_, t.ld0, ?_⟩
    have e7 := e2.trans t.ext
    have fin : ∀ c z : Int, c = cntB x1 x2 y1 y2 parts.flatten - cntB x1 x2 y1 y2 (rem.take (i + 1)) → z = sumB x1 x2 y1 y2 parts.flatten - sumB x1 x2 y1 y2 (rem.take (i + 1)) → ∀ {nx K}, (∀ q : Int × Int × Int × Unit, q.1 = c → q.2.1 = z → q.2.2.1 = (i : Int) + 1 → nx q h7) → rangetree_Tree_ask_b5 x1 x2 y1 y2 c z rp rem.length rc (rem.length : Int) (i : Int) h7 nx K := fun c z _ _ nx K hn => by
      rw [rangetree_Tree_ask_b5_eq]
      exact ⟨⟨by omega, by omega⟩, hn _ rfl rfl rfl⟩
    have no : ¬ (x1 ≤ x.1 ∧ x.1 ≤ x2 ∧ y1 ≤ x.2.1 ∧ x.2.1 ≤ y2) → rangetree_Tree_ask_b5 x1 x2 y1 y2 (cntB x1 x2 y1 y2 parts.flatten - cntB x1 x2 y1 y2 (rem.take i)) (sumB x1 x2 y1 y2 parts.flatten - sumB x1 x2 y1 y2 (rem.take i)) rp rem.length rc (rem.length : Int) (i : Int) h7 (fun q h' => (∃ i : Nat, q.2.2.1 = i ∧ i ≤ rem.length ∧ q.1 = cntB x1 x2 y1 y2 parts.flatten - cntB x1 x2 y1 y2 (rem.take i) ∧ q.2.1 = sumB x1 x2 y1 y2 parts.flatten - sumB x1 x2 y1 y2 (rem.take i) ∧ Ext h1 h') ∧ ((rem.length : Int) - q.2.2.1).toNat < ((rem.length : Int) - (i : Int)).toNat) (fun v h' => Ext h h' ∧ v = .tuple #[.int .i64 (cntB x1 x2 y1 y2 (ptsOf ps)), .int .i64 (sumB x1 x2 y1 y2 (ptsOf ps))]) := fun hno => by
      rw [if_neg hno] at cs1 cs2
      exact fin _ _ (by omega) (by omega) fun q q1 q2 q3 => ⟨⟨i + 1, by rw [q3]; push_cast; rfl, by omega, by rw [q1]; omega, by rw [q2]; omega, e7⟩, by omega⟩
    refine condP (fun g1 => ⟨_, t.ld0, condP (fun g2 => ⟨_, t.ldB, condP (fun g3 => ⟨_, t.ldB, condP (fun g4 => ?_) (fun g => no (by omega))⟩) (fun g => no (by omega))⟩) (fun g => no (by omega))⟩) (fun g => no (by omega))
    rw [if_pos ⟨g1, g2, g3, g4⟩] at cs1 cs2
    refine ⟨⟨by omega, by omega⟩, _, t.ldB, ⟨by omega, by omega⟩, ?_⟩
    exact fin _ _ (by omega) (by omega) fun q q1 q2 q3 => ⟨⟨i + 1, by rw [q3]; push_cast; rfl, by omega, by rw [q1]; omega, by rw [q2]; omega, e7⟩, by omega⟩
  · obtain rfl : i = rem.length := by omega
    rw [rangetree_Tree_ask_b6_eq]
    refine ⟨e1.trans e2, ?_⟩
    rw [List.take_length, cntB_perm ri.perm, sumB_perm ri.perm, cntB_app, sumB_app]
    congr 3
    · congr 1; omega
    · congr 2; omega
theorem Count_ok (a : TreeA tb ps parts rem built A) (s : St h0 h (A + F)) (ri : RI ps parts rem) (x1 x2 y1 y2 : Int) :
    HCalls Try.prog 16 #[ptr tb, .int .i64 x1, .int .i64 x2, .int .i64 y1, .int .i64 y2] h (fun v h' => Ext h h' ∧ v = .tuple #[.int .i64 (cntB x1 x2 y1 y2 (ptsOf ps)), .int .i64 0]) := by
  refine rangetree_Tree_Count_call ?_
  rw [rangetree_Tree_Count_b0_eq]
  exact condNo rfl ((treeAsk_ok a s ri x1 x2 y1 y2).mono fun v h1 ⟨x1, hv⟩ => ⟨_, _, hv, x1, rfl⟩)
theorem Sum_ok (a : TreeA tb ps parts rem built A) (s : St h0 h (A + F)) (ri : RI ps parts rem) (x1 x2 y1 y2 : Int) :
    HCalls Try.prog 20 #[ptr tb, .int .i64 x1, .int .i64 x2, .int .i64 y1, .int .i64 y2] h (fun v h' => Ext h h' ∧ v = .tuple #[.int .i64 (sumB x1 x2 y1 y2 (ptsOf ps)), .int .i64 0]) := by
  refine rangetree_Tree_Sum_call ?_
  rw [rangetree_Tree_Sum_b0_eq]
  exact condNo rfl ((treeAsk_ok a s ri x1 x2 y1 y2).mono fun v h1 ⟨x1, hv⟩ => ⟨_, _, hv, x1, rfl⟩)
theorem Len_ok (a : TreeA tb ps parts rem built A) (s : St h0 h (A + F)) : HCalls Try.prog 17 #[ptr tb] h (fun v h' => h' = h ∧ v = .int .i64 (ps.length : Nat)) := by
  obtain ⟨m, pp, rp, pc, rc, bs, Am, Ap, L, Ar, hm, o1, hL, o2, rfl⟩ := a
  refine rangetree_Tree_Len_call ?_
  rw [rangetree_Tree_Len_b0_eq]
  exact condNo rfl ⟨_, s.ld0, hm.len (s.to (B := Am + (cA tb [.map (some m), .slice pp parts.length pc, .slice rp rem.length rc, .int .i64 (storedOf parts : Nat), .int .i64 built] 68 + (Ap + (L + Ar) + F)))) ⟨rfl, rfl⟩⟩
theorem find_take {α : Type} {p : α → Bool} {l : List α} {i : Nat} (hi : i < l.length) (h1 : ∀ x ∈ l.take i, p x = false) (h2 : p l[i] = true) : l.find? p = some l[i] := by
  have e := split_at hi
  generalize l[i] = x at *
  rw [e, List.find?_append, List.find?_eq_none.2 (fun y hy => by rw [h1 y hy]; simp), List.find?_cons, h2]
  rfl
theorem Leftmost_ok (a : TreeA tb ps parts rem built A) (s : St h0 h (A + F)) (hn : ps.length ≤ 5000) (x1 y1 y2 : Int) :
    HCalls Try.prog 22 #[ptr tb, .int .i64 x1, .int .i64 y1, .int .i64 y2] h (fun v h' => St h0 h' (A + F) ∧ ∃ l, l.Perm (ptsOf ps) ∧ PtsS l ∧ v = match l.find? (fun p => decide (x1 ≤ p.1 ∧ y1 ≤ p.2.1 ∧ p.2.1 ≤ y2)) with | some p => .tuple #[encPt p, .int .i64 0] | none => .tuple #[encPt (0, 0, 0), .int .i64 12]) := by
  refine rangetree_Tree_Leftmost_call ?_
  rw [rangetree_Tree_Leftmost_b0_eq]
  refine s.new (cs := [_, _, _]) fun b1 g1 _ s => condNo rfl ?_
  refine (List_ok a (s.to (B := A + (cA b1 [.int .i64 0, .int .i64 0, .int .i64 0] 33 + F))) hn).mono fun v h5 ⟨q, d, A', l, hv, o, s, hp, hs⟩ => ⟨_, _, _, hv, ?_⟩
  have hl := o.len
  have s := s.to (B := A' + (cA b1 [.int .i64 0, .int .i64 0, .int .i64 0] 33 + (A + F)))
  refine ⟨fun z h' => ∃ i : Nat, z.1 = i ∧ i ≤ ps.length ∧ (∀ x ∈ l.take i, decide (x1 ≤ x.1 ∧ y1 ≤ x.2.1 ∧ x.2.1 ≤ y2) = false) ∧ St h0 h' (A' + (cA b1 [.int .i64 0, .int .i64 0, .int .i64 0] 33 + (A + F))), fun z _ => (ps.length - z.1).toNat, ⟨0, rfl, Nat.zero_le _, fun x hx => (by rw [List.take_zero] at hx; cases hx), s⟩, ?_⟩
  clear s
  rintro ⟨_, _⟩ h6 ⟨i, rfl, hi, hall, s⟩
  dsimp only
  rw [rangetree_Tree_Leftmost_b1_eq]
  refine condP (fun hlt => ?_) (fun hge => ?_)
  · have hin : i < l.length := by omega
    refine ldPT (i' := i) (o.rd s) rfl (by omega) ?_
    have hx : l.getD i tPt.d = l[i] := getD_get hin
    have htk := take_succ_d hin
    rw [hx] at htk ⊢
    have hfd := find_take (p := fun x : Pt => decide (x1 ≤ x.1 ∧ y1 ≤ x.2.1 ∧ x.2.1 ≤ y2)) hin hall
    generalize l[i] = x at *
    refine s.new (cs := [_, _, _]) fun b h7 _ s => s.wr3 fun h10 s => ⟨_, s.ld0, ?_⟩
    have no : ¬ (x1 ≤ x.1 ∧ y1 ≤ x.2.1 ∧ x.2.1 ≤ y2) → rangetree_Tree_Leftmost_b2 x1 y1 y2 (some ⟨b1, 0, none⟩) q ps.length d (ps.length : Int) (i : Int) h10 (fun z h' => (∃ i : Nat, z.1 = i ∧ i ≤ ps.length ∧ (∀ x ∈ l.take i, decide (x1 ≤ x.1 ∧ y1 ≤ x.2.1 ∧ x.2.1 ≤ y2) = false) ∧ St h0 h' (A' + (cA b1 [.int .i64 0, .int .i64 0, .int .i64 0] 33 + (A + F)))) ∧ ((ps.length : Int) - z.1).toNat < ((ps.length : Int) - (i : Int)).toNat) (fun v h' => St h0 h' (A + F) ∧ ∃ l, l.Perm (ptsOf ps) ∧ PtsS l ∧ v = match l.find? (fun p => decide (x1 ≤ p.1 ∧ y1 ≤ p.2.1 ∧ p.2.1 ≤ y2)) with | some p => .tuple #[encPt p, .int .i64 0] | none => .tuple #[encPt (0, 0, 0), .int .i64 12]) := fun hno => by
      rw [rangetree_Tree_Leftmost_b2_eq]
      refine ⟨⟨by omega, by omega⟩, ⟨i + 1, by push_cast; rfl, by omega, fun y hy => ?_, s.drop⟩, by dsimp only; omega⟩
      rw [htk] at hy
      rcases List.mem_append.1 hy with hy | hy
      · exact hall y hy
      · rw [List.mem_singleton.1 hy]; exact decide_eq_false hno
    refine condP (fun g1 => ⟨_, s.ldB, condP (fun g2 => ⟨_, s.ldB, condP (fun g3 => ?_) (fun g => no (by omega))⟩) (fun g => no (by omega))⟩) (fun g => no (by omega))
    refine ⟨_, _, _, s.ld0, s.ldB, s.ldB, (s.find b1).wr3 fun h13 s => ⟨_, _, _, s.ld0, s.ldB, s.ldB, ?_⟩⟩
    refine ⟨(s.to (B := (cA b1 [.int .i64 x.1, .int .i64 x.2.1, .int .i64 x.2.2] 33 + (cA b [.int .i64 x.1, .int .i64 x.2.1, .int .i64 x.2.2] 33 + A')) + (A + F))).drop, l, hp, hs, ?_⟩
    rw [hfd (decide_eq_true ⟨g1, g2, g3⟩)]
  · obtain rfl : i = ps.length := by omega
    rw [List.take_of_length_le (by omega)] at hall
    rw [rangetree_Tree_Leftmost_b3_eq]
    refine (s.find b1).wr3 fun h13 s => ⟨_, _, _, s.ld0, s.ldB, s.ldB, ?_⟩
    refine ⟨(s.to (B := (cA b1 [.int .i64 0, .int .i64 0, .int .i64 0] 33 + A') + (A + F))).drop, l, hp, hs, ?_⟩
    rw [List.find?_eq_none.2 fun x hx => by rw [hall x hx]; simp]
end
end Go.Proofs.Ytbfejfejahoblaa

/- The tree: Make, Add, Remove. -/
set_option maxRecDepth 100000
namespace Go.Proofs.Ytbfejfejahoblaa
open Go Go.Sx
theorem Make_ok {h : Hp} {p : Option Addr} {n c : Nat} {l : List Pt} (r : RdT tPt h p n l) (hn : n ≤ 4000) :
    HCalls Try.prog 10 #[.slice p n c] h (fun v h' => if l.any (fun x => !vPt x) = true then v = .tuple #[.pointer none, .int .i64 1] ∧ Ext h h' else
      if ¬ (l.map place).Nodup then v = .tuple #[.pointer none, .int .i64 10] ∧ Ext h h' else if 1000 < n then v = .tuple #[.pointer none, .int .i64 4] ∧ Ext h h' else
      ∃ tb A own, v = .tuple #[ptr tb, .int .i64 0] ∧ TreeA tb (l.map kvOf) (if n = 0 then [] else [own]) [] n A ∧ own.Perm l ∧ St h h' A) := by
  have hll := r.len
  refine rangetree_Make_call ?_
  rw [rangetree_Make_b0_eq]
  refine (ContainsF (validN h) (St.start h).to r (by omega)).mono fun v h1 ⟨x1, hv⟩ => ⟨_, hv, cond_intro (fun hc => ?_) (fun hc => ?_)⟩
  · rw [if_pos hc]; exact ⟨rfl, x1⟩
  simp only [if_neg (show ¬ l.any (fun x => !vPt x) = true by rw [hc]; simp)]
  have s := (St.start h).grow x1
  refine s.newMap MPl fun m h2 Am _ hm s => s.new (cs := [_, _, _, _, _]) fun tb h3 _ s => ?_
  refine ⟨fun q h' => ∃ (i : Nat) (ps : PS) (Am : Bag), q.1 = i ∧ i ≤ n ∧ MI (l.take i) ps ∧ MapA MPl m ps Am ∧ St h h' (Am + (cA tb [.map (some m), .slice none 0 0, .slice none 0 0, .int .i64 0, .int .i64 0] 68 + 0)), fun q _ => (n - q.1).toNat, ⟨0, [], Am, rfl, Nat.zero_le _, .inl ⟨by simp, rfl⟩, hm, s.to⟩, ?_⟩
  clear s hm
  rintro ⟨_, _⟩ h4 ⟨i, ps, Am, rfl, hi, mi, hm, s⟩
  dsimp only
  rw [rangetree_Make_b1_eq]
  refine condP (fun hlt => ?_) (fun hge => ?_)
  · have hin : i < l.length := by omega
    refine ldPT (i' := i) (r.ext s.ext) rfl (by omega) ?_
    have htk := take_succ_d hin
    generalize l.getD i tPt.d = x at *
    refine s.new (cs := [_, _, _]) fun b h5 _ s => s.wr3 fun h8 s => ⟨_, s.ld0, _, s.ld0, _, s.ldB, _, s.ldB, ?_⟩
    refine hm.set mapOk_pl (k := place x) (v := x.2.2) (s.at Am) rfl fun h9 A9 m9 s => ?_
    rw [rangetree_Make_b2_eq]
    refine ⟨⟨by omega, by omega⟩, ⟨i + 1, _, A9, by push_cast; rfl, by omega, by rw [htk]; exact MI_step mi x, m9, (s.to (B := cA b [.int .i64 x.1, .int .i64 x.2.1, .int .i64 x.2.2] 33 + (A9 + (cA tb [.map (some m), .slice none 0 0, .slice none 0 0, .int .i64 0, .int .i64 0] 68 + 0)))).drop⟩, by dsimp only; omega⟩
  obtain rfl : i = n := by omega
  rw [List.take_of_length_le (by omega)] at mi
  rw [rangetree_Make_b3_eq]
  refine ⟨_, s.ld0, hm.len s ?_⟩
  rcases mi with ⟨hnd, rfl⟩ | ⟨hnd, hlen⟩
  · simp only [if_neg (show ¬ ¬ (l.map place).Nodup from fun h => h hnd)]
    rw [List.length_map]
    refine condP (fun h => by omega) (fun _ => condP (fun hb => ?_) (fun hb => ?_))
    · rw [if_pos (by omega)]; exact ⟨by trivial, s.ext⟩
    simp only [if_neg (show ¬ 1000 < i by omega)]
    rw [rangetree_Make_b4_eq]
    have a' : TreeA tb (l.map kvOf) [] [] 0 (cA tb [.map (some m), .slice none 0 0, .slice none 0 0, .int .i64 0, .int .i64 0] 68 + (Am + (0 + (0 + 0)))) := ⟨m, none, none, 0, 0, [], Am, 0, 0, 0, hm, Sl.nil, rfl, Sl.nil, rfl⟩
    have hw : WOk (ptsOf (l.map kvOf)) := fun x hx => by
      rw [ptsOf_kv] at hx
      have := List.any_eq_false.1 hc x hx
      have h2 : vPt x = true := by simpa using this
      exact (vPt_iff.1 h2).2.2
    refine (renew_ok a' (s.to (B := cA tb [.map (some m), .slice none 0 0, .slice none 0 0, .int .i64 0, .int .i64 0] 68 + (Am + (0 + (0 + 0))) + 0)) (by rw [List.length_map]; omega) hw ⟨by omega, by omega⟩).mono fun v h9 ⟨hv, own, A', hp, ta, s⟩ => ⟨hv, tb, A', own, rfl, ?_, by rw [ptsOf_kv] at hp; exact hp, s.to⟩
    rw [List.length_map, hll, Int.zero_add] at ta
    exact ta
  · simp only [if_pos hnd]
    exact condYes (decide_eq_true (by omega)) ⟨by trivial, s.ext⟩
/-! ### merging -/
def mrgP : List (List Pt) → List Pt → List (List Pt) × List Pt
  | [], l => ([], l)
  | P :: R, l => if P.length ≤ l.length then mrgP R (l ++ P) else (P :: R, l)
theorem mrgP_perm : ∀ (R : List (List Pt)) (l : List Pt), ((mrgP R l).1.reverse.flatten ++ (mrgP R l).2).Perm (R.reverse.flatten ++ l)
  | [], l => .refl _
  | P :: R, l => by
    unfold mrgP
    by_cases h : P.length ≤ l.length
    · rw [if_pos h]
      refine (mrgP_perm R (l ++ P)).trans ?_
      rw [List.reverse_cons, List.flatten_append, List.append_assoc]
      refine List.Perm.append_left _ ?_
      simpa using List.perm_append_comm
    · rw [if_neg h]
theorem mrgP_ne : ∀ (R : List (List Pt)) (l : List Pt), (∀ P ∈ R, P ≠ []) → l ≠ [] → (∀ P ∈ (mrgP R l).1, P ≠ []) ∧ (mrgP R l).2 ≠ []
  | [], l, _, hl => ⟨fun P hP => (by cases hP), hl⟩
  | P :: R, l, h, hl => by
    unfold mrgP
    by_cases hc : P.length ≤ l.length
    · rw [if_pos hc]
      exact mrgP_ne R (l ++ P) (fun Q hQ => h Q (List.mem_cons_of_mem _ hQ)) (by simp [hl])
    · rw [if_neg hc]; exact ⟨h, hl⟩
theorem mrgP_size : ∀ (R : List (List Pt)) (l : List Pt), (mrgP R l).2.length :: (mrgP R l).1.map List.length = mrgR (R.map List.length) l.length
  | [], l => rfl
  | P :: R, l => by
    unfold mrgP
    rw [List.map_cons]
    unfold mrgR
    by_cases h : P.length ≤ l.length
    · rw [if_pos h, if_pos h, mrgP_size R (l ++ P), List.length_append]
    · rw [if_neg h, if_neg h]; rfl
theorem allH_snoc {α : Type} {Q : Nat → α → Bag → Prop} {bs : List Nat} {ts : List α} {t : α} {A : Bag} (h : AllH Q bs (ts ++ [t]) A) : ∃ bs0 b A1 A2, bs = bs0 ++ [b] ∧ A = A1 + A2 ∧ AllH Q bs0 ts A1 ∧ Q b t A2 := by
  have hl := h.len
  rw [List.length_append, List.length_singleton] at hl
  have e : bs = bs.take ts.length ++ [bs.getD ts.length 0] := by
    rw [getD_get (show ts.length < bs.length by omega)]
    have := List.take_succ_eq_append_getElem (show ts.length < bs.length by omega)
    rw [List.take_of_length_le (by omega)] at this
    exact this
  rw [e] at h
  obtain ⟨A1, A2, hA, h1, h2⟩ := h.split _ _ (by rw [List.length_take]; omega)
  obtain ⟨B1, B2, hB, h3, h4⟩ := h2
  have h4 : B2 = 0 := h4
  subst h4
  exact ⟨_, _, A1, B1, e, by rw [hA, hB, Bag.add_zero], h1, h3⟩
section
variable {h0 h : Hp} {tb : Nat} {ps : PS} {parts : List (List Pt)} {rem : List Pt} {built : Int} {A F : Bag}
theorem Add_ok (a : TreeA tb ps parts rem built A) (s : St h0 h (A + F)) (ri : RI ps parts rem) (hb : 0 ≤ built ∧ built ≤ 100000000) (x : Pt) :
    HCalls Try.prog 14 #[ptr tb, encPt x] h (fun v h' => if vPt x = false then v = .int .i64 1 ∧ St h0 h' (A + F) else if lkp ps (place x) ≠ none then v = .int .i64 15 ∧ St h0 h' (A + F) else if 1000 ≤ ps.length then v = .int .i64 4 ∧ St h0 h' (A + F) else
      v = .int .i64 0 ∧ ∃ own A', TreeA tb (ps ++ [kvOf x]) ((mrgP parts.reverse [x]).1.reverse ++ [own]) rem (built + ((mrgP parts.reverse [x]).2.length : Nat)) A' ∧ own.Perm (mrgP parts.reverse [x]).2 ∧ St h0 h' (A' + F)) := by
  obtain ⟨hb1, hb2⟩ := ri.bound
  have hst := ri.stored
  refine rangetree_Tree_Add_call ?_
  rw [rangetree_Tree_Add_b0_eq]
  refine s.new (cs := [_, _, _]) fun b1 h1 _ s => condNo rfl ⟨_, _, _, s.ld0, s.ldB, s.ldB, ?_⟩
  refine (valid_ok x h1).mono fun v h2 ⟨x2, hv⟩ => ⟨_, hv, cond_intro (fun hc => ?_) (fun hc => ?_)⟩
  · have hc : vPt x = false := by simpa using hc
    rw [if_pos hc]
    exact ⟨rfl, (s.grow x2).drop⟩
  have hc : vPt x = true := by simpa using hc
  simp only [if_neg (show ¬ vPt x = false by rw [hc]; simp)]
  have s := s.grow x2
  obtain ⟨m, pp, rp, pc, rc, bs, Am, Ap, L, Ar, hm, o1, hL, o2, rfl⟩ := a
  have s := s.to (B := cA b1 [.int .i64 x.1, .int .i64 x.2.1, .int .i64 x.2.2] 33 + (cA tb [.map (some m), .slice pp parts.length pc, .slice rp rem.length rc, .int .i64 (storedOf parts : Nat), .int .i64 built] 68 + (Am + (Ap + (L + (Ar + F))))))
  rw [rangetree_Tree_Add_b1_eq]
  refine ⟨_, s.ld0, _, s.ldB, s.new (cs := [_, _]) fun b2 h3 _ s => s.wr2c fun h5 s => ⟨_, s.ld0, _, _, s.ld0, s.ldB, ?_⟩⟩
  refine hm.look mapOk_pl (k := place x) (s.at Am) fun v b hvb => ?_
  rcases hvb with ⟨hk, rfl, rfl⟩ | ⟨w, hk, rfl, rfl⟩
  rotate_left
  · simp only [if_pos (show lkp ps (place x) ≠ none by rw [hk]; simp)]
    refine ⟨w, true, rfl, condYes rfl ⟨by trivial, ?_⟩⟩
    exact (s.to (B := (cA b2 [.int .i64 x.1, .int .i64 x.2.1] 70 + cA b1 [.int .i64 x.1, .int .i64 x.2.1, .int .i64 x.2.2] 33) + (cA tb [.map (some m), .slice pp parts.length pc, .slice rp rem.length rc, .int .i64 (storedOf parts : Nat), .int .i64 built] 68 + (Am + (Ap + (L + Ar))) + F))).drop
  simp only [if_neg (show ¬ lkp ps (place x) ≠ none from fun h => h hk)]
  refine ⟨0, false, rfl, condNo rfl ⟨_, (s.find tb).ld0, hm.len (s.at Am) (condP (fun hfull => ?_) (fun hroom => ?_))⟩⟩
  · simp only [if_pos (show 1000 ≤ ps.length by omega)]
    exact ⟨by trivial, (s.to (B := (cA b2 [.int .i64 x.1, .int .i64 x.2.1] 70 + cA b1 [.int .i64 x.1, .int .i64 x.2.1, .int .i64 x.2.2] 33) + (cA tb [.map (some m), .slice pp parts.length pc, .slice rp rem.length rc, .int .i64 (storedOf parts : Nat), .int .i64 built] 68 + (Am + (Ap + (L + Ar))) + F))).drop⟩
  simp only [if_neg (show ¬ 1000 ≤ ps.length by omega)]
  refine ⟨_, (s.find tb).ld0, _, _, s.ld0, s.ldB, _, (s.find b1).ldB, ?_⟩
  refine hm.set mapOk_pl (k := place x) (v := x.2.2) (s.at Am) rfl fun h6 Am hm s => ?_
  rw [setk_new hk] at hm
  refine ⟨_, _, _, (s.find b1).ld0, (s.find b1).ldB, (s.find b1).ldB, s.new (cs := [_, _, _]) fun b3 h7 _ s => ⟨_, _, _, (s.find tb).ldB, ?_⟩⟩
  have o3 : Sl tPt (some ⟨b3, 0, none⟩) 1 1 [x] (cA b3 [.int .i64 x.1, .int .i64 x.2.1, .int .i64 x.2.2] 33) := Sl.one rfl
  have s := (s.to (B := (cA b2 [.int .i64 x.1, .int .i64 x.2.1] 70 + cA b1 [.int .i64 x.1, .int .i64 x.2.1, .int .i64 x.2.2] 33) + (cA b3 [.int .i64 x.1, .int .i64 x.2.1, .int .i64 x.2.2] 33 + (cA tb [.map (some m), .slice pp parts.length pc, .slice rp rem.length rc, .int .i64 (storedOf parts : Nat), .int .i64 built] 68 + (Am + (Ap + (L + Ar))) + F)))).drop
  have a' : TreeA tb (ps ++ [(place x, x.2.2)]) parts rem built (cA tb [.map (some m), .slice pp parts.length pc, .slice rp rem.length rc, .int .i64 (storedOf parts : Nat), .int .i64 built] 68 + (Am + (Ap + (L + Ar)))) := ⟨m, pp, rp, pc, rc, bs, Am, Ap, L, Ar, hm, o1, hL, o2, rfl⟩
  generalize cA tb [.map (some m), .slice pp parts.length pc, .slice rp rem.length rc, .int .i64 (storedOf parts : Nat), .int .i64 built] 68 + (Am + (Ap + (L + Ar))) = A at *
  generalize cA b3 [.int .i64 x.1, .int .i64 x.2.1, .int .i64 x.2.2] 33 = B3 at *
  clear hm o1 hL o2
  refine ⟨fun q h' => ∃ (Q : List (List Pt)) (lst : List Pt) (Al A : Bag), q.2.1 = (Q.length : Nat) ∧ Sl tPt q.1.1 q.1.2.1 q.1.2.2 lst Al ∧ TreeA tb (ps ++ [(place x, x.2.2)]) Q rem built A ∧ mrgP Q.reverse lst = mrgP parts.reverse [x] ∧ (Q.flatten ++ lst).Perm (parts.flatten ++ [x]) ∧ (∀ P ∈ Q, P ≠ []) ∧ St h0 h' (Al + (A + F)), fun q _ => q.2.1.toNat, ⟨parts, [x], B3, A, rfl, o3, a', rfl, .refl _, ri.ne, s⟩, ?_⟩
  clear s o3 a'
  rintro ⟨⟨q, lL, lC⟩, _, _⟩ h8 ⟨Q, lst, Al, A, rfl, ol, a, hmr, hpm, hne, s⟩
  dsimp only at *
  have hll := ol.len
  have hql := parts_len hne
  have hsum : storedOf Q + lst.length = storedOf parts + 1 := by
    have := hpm.length_eq
    rw [List.length_append, List.length_append, storedOf_flat, storedOf_flat] at this
    exact this
  have hval : ∀ y ∈ Q.flatten ++ lst, vPt y = true := fun y hy => by
    rcases List.mem_append.1 (hpm.mem_iff.1 hy) with h | h
    · exact ri.val y h
    · rw [List.mem_singleton.1 h]; exact hc
  have fin : mrgP Q.reverse lst = (Q.reverse, lst) → ∀ {nx}, rangetree_Tree_Add_b4 (some ⟨tb, 0, none⟩) q lL lC h8 nx = rangetree_Tree_Add_b4 (some ⟨tb, 0, none⟩) q lL lC h8 nx := fun _ _ => rfl
  have done : mrgP Q.reverse lst = (Q.reverse, lst) → rangetree_Tree_Add_b4 (some ⟨tb, 0, none⟩) q lL lC h8 (fun v h' => v = .int .i64 0 ∧ ∃ own A', TreeA tb (ps ++ [kvOf x]) ((mrgP parts.reverse [x]).1.reverse ++ [own]) rem (built + ((mrgP parts.reverse [x]).2.length : Nat)) A' ∧ own.Perm (mrgP parts.reverse [x]).2 ∧ St h0 h' (A' + F)) := fun hm => by
    rw [rangetree_Tree_Add_b4_eq]
    refine (put_ok a (s.to (B := A + (Al + F))) (ol.rd s) (by omega) (fun y hy => (vPt_iff.1 (hval y (List.mem_append.2 (.inr hy)))).2.2) (by omega) (by omega) ⟨by omega, by omega⟩).mono fun v h9 ⟨hv, own, A', hp, ta, s⟩ => ⟨hv, rfl, own, A', ?_, ?_, (s.to (B := Al + (A' + F))).drop⟩
    · rw [← hmr, hm, List.reverse_reverse, hll]; exact ta
    · rw [← hmr, hm]; exact hp
  rw [rangetree_Tree_Add_b2_eq]
  refine condP (fun hpos => ?_) (fun hz => ?_)
  rotate_left
  · have : Q = [] := List.eq_nil_of_length_eq_zero (by omega)
    subst this
    exact done rfl
  obtain ⟨T0, P, rfl⟩ : ∃ T0 P, Q = T0 ++ [P] := by
    rcases List.eq_nil_or_concat Q with h | ⟨T, P, h⟩
    · subst h; simp at hpos
    · exact ⟨T, P, by rw [h]; simp⟩
  have hlen : (T0 ++ [P]).length = T0.length + 1 := by simp
  obtain ⟨m, pp, rp, pc, rc, bs, Am, Ap, L, Ar, hm, o1, hL, o2, rfl⟩ := a
  obtain ⟨bs0, b, L1, L2, rfl, rfl, hL1, pa⟩ := allH_snoc hL
  have hb0 := hL1.len
  have gb : (bs0 ++ [b]).getD T0.length 0 = b := by rw [← hb0]; simp [List.getD]
  obtain ⟨kp, kc, rb, K0, KL, ok, lay, rfl, hpw⟩ := pa
  have s := s.to (B := cA tb [.map (some m), .slice pp (T0 ++ [P]).length pc, .slice rp rem.length rc, .int .i64 (storedOf (T0 ++ [P]) : Nat), .int .i64 built] 68 + (Ap + (cA b [.slice kp P.length kc, ptr rb] 74 + (K0 + (Al + (KL + (Am + (L1 + (Ar + F)))))))))
  have en : Int.toNat (((T0 ++ [P]).length : Nat) - 1 : Int) = T0.length := by omega
  have gb2 : (bs0 ++ [b]).getD (Int.toNat (((T0 ++ [P]).length : Nat) - 1 : Int)) 0 = b := by rw [en]; exact gb
  have est : storedOf (T0 ++ [P]) = storedOf T0 + P.length := by rw [storedOf_app]; simp [storedOf]
  refine ⟨_, _, _, s.ldB, ⟨by omega, by omega⟩, (o1.rd (s.at Ap)).ptr (by omega) (by omega) ?_⟩
  rw [gb2]
  refine ⟨_, _, _, (s.find b).ld0, condP (fun hle => ?_) (fun hgt => done ?_)⟩
  · rw [rangetree_Tree_Add_b3_eq]
    refine ⟨_, _, _, s.ldB, ⟨by omega, by omega⟩, (o1.rd (s.at Ap)).ptr (by omega) (by omega) ?_⟩
    rw [gb2]
    refine ⟨_, _, _, (s.find b).ld0, ?_⟩
    refine append_sl ok_pts (s.at Al) ol (ok.rd (s.at K0)) (by omega) fun p' c' h9 Al' ol' s => ?_
    refine ⟨_, s.ldB, ?_⟩
    refine ⟨_, _, _, s.ldB, ⟨by omega, by omega⟩, ?_⟩
    refine (o1.rd (s.at Ap)).ptr (by omega) (by omega) ?_
    rw [gb2]
    refine ⟨_, _, _, (s.find b).ld0, ⟨by omega, by omega⟩, s.wrB fun h10 s => ⟨_, _, _, s.ldB, ⟨by omega, by omega⟩, ⟨by omega, by omega, by have := o1.cap; omega⟩, s.wrB fun h11 s => ?_⟩⟩
    rw [rangetree_Tree_Add_b5_eq]
    refine ⟨⟨by omega, by omega⟩, ⟨T0, lst ++ P, Al', cA tb [.map (some m), .slice pp T0.length pc, .slice rp rem.length rc, .int .i64 (storedOf T0 : Nat), .int .i64 built] 68 + (Am + (Ap + (L1 + Ar))), by dsimp only; omega, ol', ⟨m, pp, rp, pc, rc, bs0, Am, Ap, L1, Ar, hm, ?_, hL1, o2, rfl⟩, ?_, ?_, fun P hP => hne P (by simp [hP]), ?_⟩, by dsimp only; omega⟩
    · have := o1.take (i := T0.length) (by omega)
      rw [← hb0, List.take_left] at this
      rw [← hb0]; exact this
    · rw [← hmr, List.reverse_append]
      show _ = mrgP (P :: T0.reverse) lst
      rw [mrgP, if_pos (by omega)]
    · refine List.Perm.trans ?_ hpm
      rw [List.flatten_append, List.append_assoc]
      refine List.Perm.append_left _ ?_
      simpa using List.perm_append_comm
    · have e1 : (.int .i64 (((storedOf (T0 ++ [P]) : Nat) : Int) - (P.length : Int)) : Value) = .int .i64 ((storedOf T0 : Nat) : Int) := by rw [est]; congr 1; omega
      have e2 : (.slice (subAddr pp pc (Int.toNat (0 : Int)) 1) (Int.toNat (((T0 ++ [P]).length : Nat) - 1 : Int) - Int.toNat (0 : Int)) (pc - Int.toNat (0 : Int)) : Value) = .slice pp T0.length pc := by
        rw [en, show Int.toNat (0 : Int) = 0 from rfl, subAddr_z, Nat.sub_zero, Nat.sub_zero]
      have s := s.to (B := (cA b [.slice kp P.length kc, ptr rb] 74 + (K0 + KL)) + (Al' + (cA tb [.map (some m), .slice (subAddr pp pc (Int.toNat (0 : Int)) 1) (Int.toNat (((T0 ++ [P]).length : Nat) - 1 : Int) - Int.toNat (0 : Int)) (pc - Int.toNat (0 : Int)), .slice rp rem.length rc, .int .i64 (((storedOf (T0 ++ [P]) : Nat) : Int) - (P.length : Int)), .int .i64 built] 68 + (Am + (Ap + (L1 + Ar))) + F)))
      rw [e1, e2] at s
      exact s.drop
  · rw [List.reverse_append]
    show mrgP (P :: T0.reverse) lst = _
    rw [mrgP, if_neg (by omega)]
    rfl
end
end Go.Proofs.Ytbfejfejahoblaa

/- The tree as a set of points. -/
set_option maxRecDepth 100000
namespace Go.Proofs.Ytbfejfejahoblaa
open Go Go.Sx
/-! ### plain -/
def insPt (p : Pt) (l : List Pt) : List Pt := l.takeWhile (fun q => decide (ptLt q p)) ++ p :: l.dropWhile (fun q => decide (ptLt q p))
theorem insPt_perm (p : Pt) (l : List Pt) : (insPt p l).Perm (p :: l) := by
  unfold insPt
  refine List.perm_middle.trans ?_
  rw [List.takeWhile_append_dropWhile]
theorem mem_place {l : List Pt} {k : Int × Int} : k ∈ l.map place ↔ ∃ p ∈ l, place p = k := List.mem_map
theorem insPt_S {p : Pt} {l : List Pt} (hs : PtsS l) (hp : place p ∉ l.map place) : PtsS (insPt p l) := by
  unfold insPt PtsS
  have e := List.takeWhile_append_dropWhile (p := fun q => decide (ptLt q p)) (l := l)
  have hs' := hs
  unfold PtsS at hs
  rw [← e, List.pairwise_append] at hs
  have h1 : ∀ q ∈ l.takeWhile (fun q => decide (ptLt q p)), ptLt q p := fun q hq => by
    have := List.all_eq_true.1 (List.all_takeWhile (p := fun q => decide (ptLt q p)) (l := l)) q hq
    simpa using this
  have h2 : ∀ q ∈ l.dropWhile (fun q => decide (ptLt q p)), ptLt p q := by
    cases hd : l.dropWhile (fun q => decide (ptLt q p)) with
    | nil => intro q hq; cases hq
    | cons z t =>
      have hz : ¬ ptLt z p := by
        have := List.head_dropWhile_not (p := fun q => decide (ptLt q p)) (l := l) (by rw [hd]; simp)
        simp only [hd, List.head_cons] at this
        simpa using this
      have hzl : z ∈ l := by rw [← e, hd]; simp
      have hne : place z ≠ place p := fun h => hp (mem_place.2 ⟨z, hzl, h⟩)
      have hpz : ptLt p z := by
        unfold place at hne
        simp only [ne_eq, Prod.mk.injEq] at hne
        unfold ptLt at *
        omega
      intro q hq
      rcases List.mem_cons.1 hq with rfl | hq
      · exact hpz
      · have := hs.2.1
        rw [hd, List.pairwise_cons] at this
        exact ptLt_trans hpz (this.1 q hq)
  rw [List.pairwise_append, List.pairwise_cons]
  refine ⟨hs.1, ⟨h2, hs.2.1⟩, fun a ha b hb => ?_⟩
  rcases List.mem_cons.1 hb with rfl | hb
  · exact h1 a ha
  · exact hs.2.2 a ha b hb
def madeL (l : List Pt) : List Pt := l.foldl (fun a p => insPt p a) []
theorem madeL_snoc (l : List Pt) (p : Pt) : madeL (l ++ [p]) = insPt p (madeL l) := by unfold madeL; rw [List.foldl_append]; rfl
theorem list_rev_ind {α : Type} {P : List α → Prop} (h0 : P []) (h1 : ∀ l a, P l → P (l ++ [a])) (l : List α) : P l := by
  rw [← List.reverse_reverse l]
  induction l.reverse with
  | nil => exact h0
  | cons a t ih => rw [List.reverse_cons]; exact h1 _ _ ih
theorem madeL_perm (l : List Pt) : (madeL l).Perm l := by
  induction l using list_rev_ind with
  | h0 => exact .refl _
  | h1 l p ih =>
    rw [madeL_snoc]
    refine (insPt_perm p _).trans ?_
    refine (List.Perm.cons p ih).trans ?_
    simpa using (List.perm_append_comm (l₁ := [p]) (l₂ := l))
theorem madeL_S {l : List Pt} (h : (l.map place).Nodup) : PtsS (madeL l) := by
  induction l using list_rev_ind with
  | h0 => exact List.Pairwise.nil
  | h1 l p ih =>
    rw [madeL_snoc]
    rw [List.map_append, List.nodup_append] at h
    refine insPt_S (ih h.1) fun hc => ?_
    have := ((madeL_perm l).map place).mem_iff.1 hc
    exact h.2.2 _ this _ (by simp) rfl
/-! ### the tree -/
def TreeS (tb : Nat) (l : List Pt) (n u built : Nat) (A : Bag) : Prop := ∃ (ps : PS) (parts : List (List Pt)) (rem : List Pt), TreeA tb ps parts rem (built : Int) A ∧ RI ps parts rem ∧ l.Perm (ptsOf ps) ∧ PtsS l ∧ EffI n u rem.length built (parts.reverse.map List.length)
section
variable {h0 h : Hp} {tb n u built : Nat} {l : List Pt} {A F : Bag}
theorem TreeS.sorted (a : TreeS tb l n u built A) : PtsS l := by obtain ⟨_, _, _, _, _, _, hs, _⟩ := a; exact hs
theorem TreeS.len (a : TreeS tb l n u built A) : l.length ≤ 1000 := by
  obtain ⟨ps, _, _, _, ri, hp, _⟩ := a
  rw [hp.length_eq, ptsOf_len]; exact ri.len
theorem TreeS.val (a : TreeS tb l n u built A) : ∀ x ∈ l, vPt x = true := by
  obtain ⟨ps, parts, rem, _, ri, hp, _⟩ := a
  exact fun x hx => ri.val x (ri.perm.mem_iff.2 (List.mem_append.2 (.inl (hp.mem_iff.1 hx))))
theorem TreeS.small (a : TreeS tb l n u built A) (hn : n ≤ 2000) (hu : u ≤ 2000) : (0 : Int) ≤ built ∧ (built : Int) ≤ 100000000 := by
  obtain ⟨_, _, _, _, _, _, _, he⟩ := a
  have := eff_bound he (L := 11) (by omega)
  omega
theorem TreeS.more {u' : Nat} (a : TreeS tb l n u built A) (hu : u ≤ u') : TreeS tb l n u' built A := by
  obtain ⟨ps, parts, rem, h1, h2, h3, h4, he⟩ := a
  exact ⟨ps, parts, rem, h1, h2, h3, h4, eff_keep he hu⟩
theorem Make_s {h : Hp} {p : Option Addr} {n c : Nat} {l : List Pt} (r : RdT tPt h p n l) (hn : n ≤ 4000) :
    HCalls Try.prog 10 #[.slice p n c] h (fun v h' => if l.any (fun x => !vPt x) = true then v = .tuple #[.pointer none, .int .i64 1] ∧ Ext h h' else
      if ¬ (l.map place).Nodup then v = .tuple #[.pointer none, .int .i64 10] ∧ Ext h h' else if 1000 < n then v = .tuple #[.pointer none, .int .i64 4] ∧ Ext h h' else
      ∃ tb A, v = .tuple #[ptr tb, .int .i64 0] ∧ TreeS tb (madeL l) n 0 n A ∧ St h h' A) := by
  have hll := r.len
  refine (Make_ok r hn).mono fun v h' hv => ?_
  by_cases h1 : l.any (fun x => !vPt x) = true
  · rw [if_pos h1] at hv ⊢; exact hv
  rw [if_neg h1] at hv ⊢
  by_cases h2 : ¬ (l.map place).Nodup
  · rw [if_pos h2] at hv ⊢; exact hv
  rw [if_neg h2] at hv ⊢
  by_cases h3 : 1000 < n
  · rw [if_pos h3] at hv ⊢; exact hv
  rw [if_neg h3] at hv ⊢
  obtain ⟨tb, A, own, hv, ta, hp, st⟩ := hv
  have hnd : (l.map place).Nodup := Classical.not_not.1 h2
  have hpe := hp.length_eq
  refine ⟨tb, A, hv, ⟨l.map kvOf, _, [], ta, ?_, by rw [ptsOf_kv]; exact madeL_perm l, madeL_S hnd, ?_⟩, st⟩
  · by_cases hz : n = 0
    · rw [if_pos hz]
      have : l = [] := List.eq_nil_of_length_eq_zero (by omega)
      subst this
      exact ⟨.refl _, fun x hx => (by cases hx), fun P hP => (by cases hP), .inr rfl, by simp⟩
    · rw [if_neg hz]
      refine ⟨?_, fun x hx => ?_, fun P hP => ?_, .inl ?_, by rw [List.length_map]; omega⟩
      · rw [ptsOf_kv]; simpa using hp
      · have hx : x ∈ own := by simpa using hx
        have := List.any_eq_false.1 (Bool.not_eq_true _ ▸ h1) x (hp.mem_iff.1 hx)
        simpa using this
      · rw [List.mem_singleton.1 hP]
        intro e
        rw [e] at hpe
        simp at hpe
        omega
      · show 2 * 0 < _
        have : storedOf [own] = own.length := by simp [storedOf]
        omega
  · have := eff_make n
    by_cases hz : n = 0
    · rw [if_pos hz] at this ⊢; exact this
    · rw [if_neg hz] at this ⊢
      have e : [own].reverse.map List.length = [n] := by simp; omega
      rw [e]; exact this
theorem lkp_place {ps : PS} {l : List Pt} (hp : l.Perm (ptsOf ps)) (k : Int × Int) : lkp ps k = none ↔ k ∉ l.map place := by
  rw [lkp_none, (hp.map place).mem_iff, ptsOf_place]
theorem Add_s (a : TreeS tb l n u built A) (s : St h0 h (A + F)) (hn : n ≤ 2000) (hu : u ≤ 2000) (x : Pt) :
    HCalls Try.prog 14 #[ptr tb, encPt x] h (fun v h' => if vPt x = false then v = .int .i64 1 ∧ St h0 h' (A + F) else if place x ∈ l.map place then v = .int .i64 15 ∧ St h0 h' (A + F) else if 1000 ≤ l.length then v = .int .i64 4 ∧ St h0 h' (A + F) else
      v = .int .i64 0 ∧ ∃ b' A', built ≤ b' ∧ TreeS tb (insPt x l) n (u + 1) b' A' ∧ St h0 h' (A' + F)) := by
  have hsm := a.small hn hu
  obtain ⟨ps, parts, rem, ta, ri, hp, hs, he⟩ := a
  have hpl := hp.length_eq
  rw [ptsOf_len] at hpl
  refine (Add_ok ta s ri hsm x).mono fun v h' hv => ?_
  by_cases h1 : vPt x = false
  · rw [if_pos h1] at hv ⊢; exact hv
  rw [if_neg h1] at hv ⊢
  by_cases h2 : place x ∈ l.map place
  · rw [if_pos h2]
    rw [if_pos (fun hc => (lkp_place hp _).1 hc h2)] at hv
    exact hv
  rw [if_neg h2]
  have hk := (lkp_place hp (place x)).2 h2
  rw [if_neg (fun hc => hc hk)] at hv
  by_cases h3 : 1000 ≤ l.length
  · rw [if_pos h3]
    rw [if_pos (by omega)] at hv; exact hv
  rw [if_neg h3]
  rw [if_neg (by omega)] at hv
  obtain ⟨hv, own, A', ta', hpo, st⟩ := hv
  have hvx : vPt x = true := by simpa using h1
  have hpol := hpo.length_eq
  obtain ⟨n1, n2⟩ := mrgP_ne parts.reverse [x] (fun P hP => ri.ne P (List.mem_reverse.1 hP)) (by simp)
  have hmp := mrgP_perm parts.reverse [x]
  rw [List.reverse_reverse] at hmp
  have hfl : (((mrgP parts.reverse [x]).1.reverse ++ [own]).flatten).Perm (parts.flatten ++ [x]) := by
    rw [List.flatten_append]
    refine List.Perm.trans ?_ hmp
    refine List.Perm.append_left _ ?_
    simpa using hpo
  refine ⟨hv, built + (mrgP parts.reverse [x]).2.length, A', by omega, ⟨ps ++ [kvOf x], (mrgP parts.reverse [x]).1.reverse ++ [own], rem, ?_, ?_, ?_, insPt_S hs h2, ?_⟩, st⟩
  · push_cast; exact ta'
  · refine ⟨?_, fun y hy => ?_, fun P hP => ?_, ?_, by rw [List.length_append, List.length_singleton]; omega⟩
    · refine hfl.trans ?_
      unfold ptsOf
      rw [List.map_append, List.append_assoc]
      refine (List.Perm.append_right _ ri.perm).trans ?_
      rw [List.append_assoc]
      exact List.Perm.append_left _ List.perm_append_comm
    · rcases List.mem_append.1 (hfl.mem_iff.1 hy) with h | h
      · exact ri.val y h
      · rw [List.mem_singleton.1 h]; exact hvx
    · rcases List.mem_append.1 hP with h | h
      · exact n1 P (List.mem_reverse.1 h)
      · rw [List.mem_singleton.1 h]
        intro e
        rw [e] at hpol
        exact n2 (List.eq_nil_of_length_eq_zero hpol.symm)
    · refine .inl ?_
      have e := hfl.length_eq
      rw [storedOf_flat, List.length_append, storedOf_flat, List.length_singleton] at e
      have := ri.stored
      rcases ri.small with h | h
      · omega
      · have e0 : storedOf parts = 0 := by rw [h]; rfl
        omega
  · unfold ptsOf
    rw [List.map_append]
    refine (insPt_perm x l).trans ((List.Perm.cons x hp).trans ?_)
    exact (List.perm_append_comm (l₁ := [x]) (l₂ := ptsOf ps))
  · have e2 := mrgP_size parts.reverse [x]
    rw [List.length_singleton] at e2
    have e1 : ((mrgP parts.reverse [x]).1.reverse ++ [own]).reverse.map List.length = mrgR (parts.reverse.map List.length) 1 := by
      rw [← e2, List.reverse_append, List.reverse_reverse, List.map_append]
      simp [hpol]
    have h := eff_add he
    rw [← e2] at h
    rw [e1, ← e2]
    exact h
theorem Count_s (a : TreeS tb l n u built A) (s : St h0 h (A + F)) (x1 x2 y1 y2 : Int) :
    HCalls Try.prog 16 #[ptr tb, .int .i64 x1, .int .i64 x2, .int .i64 y1, .int .i64 y2] h (fun v h' => Ext h h' ∧ v = .tuple #[.int .i64 (cntB x1 x2 y1 y2 l), .int .i64 0]) := by
  obtain ⟨ps, parts, rem, ta, ri, hp, hs, he⟩ := a
  rw [cntB_perm hp]
  exact Count_ok ta s ri x1 x2 y1 y2
theorem Sum_s (a : TreeS tb l n u built A) (s : St h0 h (A + F)) (x1 x2 y1 y2 : Int) :
    HCalls Try.prog 20 #[ptr tb, .int .i64 x1, .int .i64 x2, .int .i64 y1, .int .i64 y2] h (fun v h' => Ext h h' ∧ v = .tuple #[.int .i64 (sumB x1 x2 y1 y2 l), .int .i64 0]) := by
  obtain ⟨ps, parts, rem, ta, ri, hp, hs, he⟩ := a
  rw [sumB_perm hp]
  exact Sum_ok ta s ri x1 x2 y1 y2
theorem Len_s (a : TreeS tb l n u built A) (s : St h0 h (A + F)) : HCalls Try.prog 17 #[ptr tb] h (fun v h' => h' = h ∧ v = .int .i64 (l.length : Nat)) := by
  obtain ⟨ps, parts, rem, ta, ri, hp, hs, he⟩ := a
  rw [hp.length_eq, ptsOf_len]
  exact Len_ok ta s
theorem Leftmost_s (a : TreeS tb l n u built A) (s : St h0 h (A + F)) (x1 y1 y2 : Int) :
    HCalls Try.prog 22 #[ptr tb, .int .i64 x1, .int .i64 y1, .int .i64 y2] h (fun v h' => St h0 h' (A + F) ∧ v = match l.find? (fun p => decide (x1 ≤ p.1 ∧ y1 ≤ p.2.1 ∧ p.2.1 ≤ y2)) with | some p => .tuple #[encPt p, .int .i64 0] | none => .tuple #[encPt (0, 0, 0), .int .i64 12]) := by
  obtain ⟨ps, parts, rem, ta, ri, hp, hs, he⟩ := a
  have hl := ri.len
  refine (Leftmost_ok ta s (by omega) x1 y1 y2).mono fun v h' ⟨st, l', hm, hms, hv⟩ => ?_
  obtain rfl := ptsS_ext hs hms fun p => by rw [hp.mem_iff, hm.mem_iff]
  exact ⟨st, hv⟩
end
end Go.Proofs.Ytbfejfejahoblaa

/- The reference: points in their order. -/
set_option maxRecDepth 100000
namespace Go.Proofs.Ytbfejfejahoblaa
open Go Go.Sx
end Go.Proofs.Ytbfejfejahoblaa

/- The laws' example; effort. -/
set_option maxRecDepth 100000
namespace Go.Proofs.Ytbfejfejahoblaa
open Go Go.Sx
abbrev exP : List Pt := [(3, 7, -1), (1, 5, 2), (3, 1, 4)]
theorem Awake_r (h : Hp) : HCalls Try.prog 9 #[] h (fun v h' => Ext h h' ∧ v = .bool true) := by
  refine l31_awake_call ?_
  rw [l31_awake_b0_eq]
  refine (St.start h).new (cs := [_, _, _, _, _, _, _, _, _]) fun b h1 x1 s => ?_
  have o : Sl tPt (some ⟨b, 0, none⟩) 3 3 exP (cA b [.int .i64 3, .int .i64 7, .int .i64 (-1), .int .i64 1, .int .i64 5, .int .i64 2, .int .i64 3, .int .i64 1, .int .i64 4] 33) := Sl.of_blk (T := tPt) (n := 3) (xs := exP) rfl (cs := [.int .i64 3, .int .i64 7, .int .i64 (-1), .int .i64 1, .int .i64 5, .int .i64 2, .int .i64 3, .int .i64 1, .int .i64 4]) rfl
  refine (Make_s (o.rd s) (by decide)).mono fun v h2 hv => ?_
  rw [if_neg (by decide), if_neg (by decide), if_neg (by decide)] at hv
  obtain ⟨tb, A, rfl, a, st⟩ := hv
  have e : madeL exP = [(1, 5, 2), (3, 1, 4), (3, 7, -1)] := by decide
  rw [e] at a
  refine ⟨_, _, rfl, condNo rfl (condNo rfl ?_)⟩
  rw [l31_awake_b1_eq]
  have s := s.join st
  refine (Count_s a s 1 3 1 5).mono fun v h3 ⟨x3, hv⟩ => ⟨_, _, hv, ?_⟩
  have s := s.grow x3
  refine (Sum_s a s 0 9 0 9).mono fun v h4 ⟨x4, hv⟩ => ⟨_, _, hv, ?_⟩
  have s := s.grow x4
  refine (Leftmost_s a s 2 2 9).mono fun v h5 ⟨s, hv⟩ => ?_
  have ef : [(1, 5, 2), (3, 1, 4), ((3, 7, -1) : Pt)].find? (fun p => decide (2 ≤ p.1 ∧ 2 ≤ p.2.1 ∧ p.2.1 ≤ 9)) = some (3, 7, -1) := by decide
  rw [ef] at hv
  refine ⟨_, _, _, _, hv, s.new (cs := [_, _, _]) fun b2 h6 x6 s => ?_⟩
  refine s.wr3 fun h7 s => ?_
  refine (Len_s (F := cA b2 _ _ + _) a (s.at A)).mono fun v h8 ⟨hh, hv⟩ => ⟨_, hv, ?_⟩
  subst hh
  refine condYes rfl (condYes (by decide) (condYes rfl (condYes (by decide) (condYes rfl ⟨_, _, _, s.ld0, s.ldB, s.ldB, _, eql_pt (3, 7, -1) (3, 7, -1), condYes (by decide) ⟨s.ext, rfl⟩⟩))))
end Go.Proofs.Ytbfejfejahoblaa

/- How a slice that is handed in is read: elements of any number of cells. -/
namespace Go.Sx
open Go Go.ChangeShapes Go.WideShapes Go.Deep
section
variable {H : Type} {enc : TypeId × Value → H} {P : Program} {w : World} {base : Nat} {sp : Nat → Bool} {held : Bool} {α : Type}
end
end Go.Sx

/- How the law's arguments are read. -/
set_option maxRecDepth 10000
namespace Go.Proofs.Ytbfejfejahoblaa
open Go Go.Sx Go.ChangeShapes Go.WideShapes Go.ChangeAt Go.RowKit Go.Deep

theorem own : ownKnob Try.prog.godebug = none := by kernel_rfl
theorem below_of {P : Program} {f : FuncId} {args : Array Value} {w : World} (hc : HCalls P f args w.heap (fun v h' => v = .bool true ∧ Ext w.heap h')) :
    Calls P f args w fun e w' => e = .returned (.bool true) ∧ Below w.heap.size w w' :=
  (hc w rfl).mono fun e w' ⟨v, he, hs, hv, hx⟩ => ⟨by rw [he, hv], ⟨hs.os, hs.tape, hs.output, hx.size, hx.same⟩⟩
section
variable {H : Type} {enc : TypeId × Value → H} {w : World} {base : Nat} {held : Bool} {a : Option Addr} {len cap : Nat} {d : DataW H} {ps : List MemPlace}
end
end Go.Proofs.Ytbfejfejahoblaa

/- The law: back. -/
set_option maxRecDepth 100000
namespace Go.Proofs.Ytbfejfejahoblaa
open Go Go.Sx
/-! ### plain -/
/-! ### the law -/
end Go.Proofs.Ytbfejfejahoblaa

/- The law: nil pointers, and a full tree. -/
set_option maxRecDepth 100000
namespace Go.Proofs.Ytbfejfejahoblaa
open Go Go.Sx
section
variable {h : Hp} {K : Value → Hp → Prop}
theorem nilCount {a b c d : Int} (hk : K (.tuple #[.int .i64 0, .int .i64 1]) h) : HCalls Try.prog 16 #[.pointer none, .int .i64 a, .int .i64 b, .int .i64 c, .int .i64 d] h K := rangetree_Tree_Count_call (by rw [rangetree_Tree_Count_b0_eq]; exact condYes rfl hk)
theorem nilSum {a b c d : Int} (hk : K (.tuple #[.int .i64 0, .int .i64 1]) h) : HCalls Try.prog 20 #[.pointer none, .int .i64 a, .int .i64 b, .int .i64 c, .int .i64 d] h K := rangetree_Tree_Sum_call (by rw [rangetree_Tree_Sum_b0_eq]; exact condYes rfl hk)
theorem nilReport {a b c d : Int} (hk : ∀ h', Ext h h' → K (.tuple #[.slice none 0 0, .int .i64 1]) h') : HCalls Try.prog 19 #[.pointer none, .int .i64 a, .int .i64 b, .int .i64 c, .int .i64 d] h K :=
  rangetree_Tree_Report_call (by
    rw [rangetree_Tree_Report_b0_eq]
    exact (St.start h).new (cs := [_]) fun b1 h1 _ s => s.new (cs := [_]) fun b1 h1 _ s => s.new (cs := [_]) fun b1 h1 _ s => s.new (cs := [_]) fun b1 h1 _ s => condYes rfl (hk _ s.ext))
theorem nilLeftmost {a b c : Int} (hk : ∀ h', Ext h h' → K (.tuple #[encPt (0, 0, 0), .int .i64 1]) h') : HCalls Try.prog 22 #[.pointer none, .int .i64 a, .int .i64 b, .int .i64 c] h K :=
  rangetree_Tree_Leftmost_call (by
    rw [rangetree_Tree_Leftmost_b0_eq]
    exact (St.start h).new (cs := [_, _, _]) fun b1 h1 _ s => condYes rfl (s.wr3 fun h2 s => ⟨_, _, _, s.ld0, s.ldB, s.ldB, hk _ s.ext⟩))
theorem nilAdd {a b c : Int} (hk : ∀ h', Ext h h' → K (.int .i64 1) h') : HCalls Try.prog 14 #[.pointer none, .agg #[.int .i64 a, .int .i64 b, .int .i64 c]] h K :=
  rangetree_Tree_Add_call (by
    rw [rangetree_Tree_Add_b0_eq]
    exact (St.start h).new (cs := [_, _, _]) fun b1 h1 _ s => condYes rfl (hk _ s.ext))
theorem nilRemove {a b : Int} (hk : K (.int .i64 1) h) : HCalls Try.prog 13 #[.pointer none, .int .i64 a, .int .i64 b] h K := rangetree_Tree_Remove_call (by rw [rangetree_Tree_Remove_b0_eq]; exact condYes rfl hk)
theorem nilLen (hk : K (.int .i64 0) h) : HCalls Try.prog 17 #[.pointer none] h K := rangetree_Tree_Len_call (by rw [rangetree_Tree_Len_b0_eq]; exact condYes rfl hk)
theorem nilBuilt (hk : K (.int .i64 0) h) : HCalls Try.prog 11 #[.pointer none] h K := rangetree_Tree_Built_call (by rw [rangetree_Tree_Built_b0_eq]; exact condYes rfl hk)
theorem nilList (hk : K (.slice none 0 0) h) : HCalls Try.prog 15 #[.pointer none] h K := rangetree_Tree_List_call (by rw [rangetree_Tree_List_b0_eq]; exact condYes rfl hk)
end
/-! ### the grid of 50 by 20 -/
def grid (i : Nat) : List Pt := (List.range i).map fun j => (((j % 50 : Nat) : Int), ((j / 50 : Nat) : Int), 1)
theorem grid_succ (i : Nat) : grid (i + 1) = grid i ++ [(((i % 50 : Nat) : Int), ((i / 50 : Nat) : Int), 1)] := by unfold grid; rw [List.range_succ, List.map_append]; rfl
theorem grid_len (i : Nat) : (grid i).length = i := by unfold grid; simp
theorem grid_mem {i : Nat} {k : Int × Int} : k ∈ (grid i).map place ↔ ∃ j, j < i ∧ k = (((j % 50 : Nat) : Int), ((j / 50 : Nat) : Int)) := by
  unfold grid
  rw [List.map_map, List.mem_map]
  constructor
  · rintro ⟨j, hj, rfl⟩
    exact ⟨j, List.mem_range.1 hj, rfl⟩
  · rintro ⟨j, hj, rfl⟩
    exact ⟨j, List.mem_range.2 hj, rfl⟩
theorem grid_nodup (i : Nat) : ((grid i).map place).Nodup := by
  induction i with
  | zero => exact List.Pairwise.nil
  | succ i ih =>
    rw [grid_succ, List.map_append, List.nodup_append]
    refine ⟨ih, by simp, fun a ha b hb e => ?_⟩
    simp only [List.map_cons, List.map_nil, List.mem_singleton] at hb
    subst hb; subst e
    obtain ⟨j, hj, e⟩ := grid_mem.1 ha
    unfold place at e
    simp only [Prod.mk.injEq] at e
    omega
theorem grid_all : ∀ x y : Nat, x < 50 → y < 20 → ((x : Int), (y : Int)) ∈ (grid 1000).map place := fun x y hx hy =>
  grid_mem.2 ⟨y * 50 + x, by omega, by rw [Prod.mk.injEq]; omega⟩
theorem grid_out {x y : Int} (h : ((x, y) : Int × Int) ∈ (grid 1000).map place) : x < 50 ∧ y < 20 := by
  obtain ⟨j, hj, e⟩ := grid_mem.1 h
  rw [Prod.mk.injEq] at e
  omega
theorem grid_val (i : Nat) (hi : i ≤ 1000) : ∀ x ∈ grid i, vPt x = true := by
  intro x hx
  unfold grid at hx
  obtain ⟨j, hj, rfl⟩ := List.mem_map.1 hx
  have := List.mem_range.1 hj
  unfold vPt
  simp only [decide_eq_true_eq]
  omega
theorem grid_cnt : ∀ i, i ≤ 1000 → cntB 0 49 0 9 (grid i) = (min i 500 : Nat) := by
  intro i
  induction i with
  | zero => intro _; rfl
  | succ i ih =>
    intro hi
    rw [grid_succ, cntB_app, ih (by omega)]
    unfold cntB
    by_cases h : i < 500
    · rw [List.filter_cons_of_pos (by unfold inB; rw [decide_eq_true_eq]; dsimp only; omega)]
      simp; omega
    · rw [List.filter_cons_of_neg (by unfold inB; rw [decide_eq_true_eq]; dsimp only; omega)]
      simp; omega
theorem nil6 {h0 h : Hp} {b tb n u b' : Nat} {L : List Pt} {A F : Bag} {x y w : Int} (hp : L.Perm (grid 1000)) (a : TreeS tb L n u b' A) (hn : n ≤ 2000) (hu : u ≤ 2000) (s : St h0 h (A + (cA b [.int .i64 x, .int .i64 y, .int .i64 0] 33 + F))) (hx : 0 ≤ x ∧ x < 65536) (hy : 0 ≤ y ∧ y < 65536) (hw : w = if (x, y) ∈ L.map place then 15 else 4) :
    l31_RangetreeNil_b6 (some ⟨tb, 0, none⟩) (some ⟨b, 0, none⟩) w h (fun v h' => v = .bool true ∧ Ext h0 h') := by
  have hL : L.length = 1000 := by rw [hp.length_eq, grid_len]
  rw [l31_RangetreeNil_b6_eq]
  refine (Count_s a s 0 49 0 9).mono fun v h1 ⟨x1, hv⟩ => ?_
  rw [cntB_perm hp, grid_cnt 1000 (by decide)] at hv
  have s := s.grow x1
  refine ⟨_, _, hv, _, _, _, s.ld0, s.ldB, s.ldB, (Add_s a s hn hu (x, y, 0)).mono fun v h2 hv => ?_⟩
  rw [if_neg (by rw [show vPt (x, y, 0) = true from vPt_iff.2 (by dsimp only; omega)]; decide)] at hv
  have fin : v = .int .i64 w ∧ St h0 h2 (A + (cA b [.int .i64 x, .int .i64 y, .int .i64 0] 33 + F)) := by
    by_cases hm : place (x, y, 0) ∈ L.map place
    · rw [if_pos hm] at hv
      have hm' : (x, y) ∈ L.map place := hm
      rw [hw, if_pos hm']; exact hv
    · rw [if_neg hm, if_pos (by omega)] at hv
      have hm' : (x, y) ∉ L.map place := hm
      rw [hw, if_neg hm']; exact hv
  obtain ⟨hv, s⟩ := fin
  refine ⟨_, hv, condYes (decide_eq_true rfl) (condYes rfl (condYes rfl ((Len_s a s).mono fun v h3 ⟨hh, hv⟩ => ⟨_, hv, ?_⟩)))⟩
  subst hh
  rw [hL]
  exact ⟨rfl, s.ext⟩
theorem nil4 {h0 h : Hp} {q : Option Addr} {m d : Nat} {A F : Bag} {x y : Int} (hm : m = 1000) (o : Sl tPt q m d (grid m) A) (s : St h0 h (A + F)) (hx : 0 ≤ x ∧ x < 65536) (hy : 0 ≤ y ∧ y < 65536) :
    l31_RangetreeNil_b4 x y q m d h (fun v h' => v = .bool true ∧ Ext h0 h') := by
  rw [l31_RangetreeNil_b4_eq]
  refine (Make_s (o.rd s) (by omega)).mono fun v h8 hv => ?_
  rw [if_neg (by
    rw [List.any_eq_true]
    rintro ⟨p, hp, hc⟩
    rw [grid_val m (by omega) p hp] at hc
    cases hc), if_neg (fun hc => hc (grid_nodup m)), if_neg (by omega)] at hv
  obtain ⟨tb, A2, rfl, a, st⟩ := hv
  have s := s.join st
  have hp := madeL_perm (grid m)
  generalize madeL (grid m) = L at a hp
  rw [hm] at hp
  have hmem : ((x, y) ∈ L.map place) ↔ x < 50 ∧ y < 20 := by
    rw [(hp.map place).mem_iff]
    refine ⟨grid_out, fun hc => ?_⟩
    have := grid_all x.toNat y.toNat (by omega) (by omega)
    rw [Int.toNat_of_nonneg hx.1, Int.toNat_of_nonneg hy.1] at this
    exact this
  refine ⟨_, _, rfl, condNo rfl (condNo rfl ?_)⟩
  rw [l31_RangetreeNil_b5_eq]
  refine ⟨⟨by omega, by omega⟩, ⟨by omega, by omega⟩, s.new (cs := [_, _, _]) fun b4 h9 x9 s => s.wr3 fun h10 s => ?_⟩
  refine ⟨_, s.ld0, condP (fun h1 => ⟨_, s.ldB, condP (fun h2 => ?_) (fun h2 => ?_)⟩) (fun h1 => ?_)⟩
  · exact nil6 hp a (by omega) (by omega) (s.at A2) hx hy (by rw [if_pos (hmem.2 ⟨h1, h2⟩)])
  · exact nil6 hp a (by omega) (by omega) (s.at A2) hx hy (by rw [if_neg (fun hc => h2 (hmem.1 hc).2)])
  · exact nil6 hp a (by omega) (by omega) (s.at A2) hx hy (by rw [if_neg (fun hc => h1 (hmem.1 hc).1)])
theorem nil_law {h : Hp} {x y : Int} (hx : 0 ≤ x ∧ x < 65536) (hy : 0 ≤ y ∧ y < 65536) :
    HCalls Try.prog 6 #[.int .u16 x, .int .u16 y] h (fun v h' => v = .bool true ∧ Ext h h') := by
  refine l31_RangetreeNil_call ?_
  rw [l31_RangetreeNil_b0_eq]
  refine (Awake_r h).mono fun v h1 ⟨x1, hv⟩ => ⟨_, hv, condNo rfl ?_⟩
  refine nilCount ⟨_, _, rfl, nilSum ⟨_, _, rfl, nilReport fun h2 x2 => ⟨_, _, _, _, rfl, nilLeftmost fun h3 x3 => ⟨_, _, _, _, rfl, ?_⟩⟩⟩⟩
  have s := (((St.start h).grow x1).grow x2).grow x3
  refine s.new (cs := [_, _, _]) fun b h4 x4 s => s.wr3 fun h5 s => ?_
  refine nilAdd fun h6 x6 => ⟨_, rfl, condNo rfl (nilRemove ⟨_, rfl, condNo rfl (condNo rfl (condNo rfl (condNo rfl (condNo rfl (condNo rfl (condNo rfl ?_))))))⟩)⟩
  have s := s.grow x6
  refine ⟨_, _, _, s.ld0, s.ldB, s.ldB, _, neq_pt (0, 0, 0) (0, 0, 0), condNo (by decide) (condNo rfl (nilLen ⟨_, rfl, condNo rfl (nilList ⟨_, _, _, rfl, condNo rfl (nilBuilt ⟨_, rfl, condNo rfl ?_⟩)⟩)⟩))⟩
  rw [l31_RangetreeNil_b1_eq]
  refine ⟨fun q h' => ∃ (i : Nat) (A : Bag), q.2.1 = i ∧ i ≤ 1000 ∧ q.1.2.1 = i ∧ Sl tPt q.1.1 q.1.2.1 q.1.2.2 (grid i) A ∧ St h h' (A + 0), fun q _ => (1000 - q.2.1).toNat, ⟨0, 0, rfl, by decide, rfl, Sl.nil, s.drop.to⟩, ?_⟩
  clear s
  rintro ⟨⟨q, m, d⟩, z, _⟩ h7 ⟨i, A, hz, hi, hm, o, s⟩
  dsimp only at hz hm o ⊢
  subst hz
  subst hm
  rw [l31_RangetreeNil_b2_eq]
  refine condP (fun hlt => ?_) (fun hge => ?_)
  · refine rem_intro (by omega) (by omega) (quo_intro (by omega) (by omega) (by omega) ?_)
    refine push_sl (cs := [_, _, _]) ok_pts s o (x := (((m % 50 : Nat) : Int), ((m / 50 : Nat) : Int), 1)) rfl (by rfl) (by omega) fun p' c' h6 A' o' s => ?_
    rw [l31_RangetreeNil_b3_eq]
    refine ⟨⟨by omega, by omega⟩, ⟨m + 1, A', by push_cast; rfl, by omega, rfl, ?_, s⟩, by dsimp only; omega⟩
    rw [grid_succ]
    exact o'
  · exact nil4 (show (m : Nat) = 1000 by omega) o s hx hy
end Go.Proofs.Ytbfejfejahoblaa
