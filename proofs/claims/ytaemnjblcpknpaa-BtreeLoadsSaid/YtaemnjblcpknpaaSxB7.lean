/- B-trees: Put, floor and ceiling. -/
import Derived.Test.YtaemnjblcpknpaaSxB6
set_option maxRecDepth 100000
namespace Go.Proofs.Ytaemnjblcpknpaa
open Go Go.Sx
def lowS (xs : List E) (key : Int) : List E := xs.takeWhile fun e => decide (e.1 < key)
def upS (xs : List E) (key : Int) : List E := xs.dropWhile fun e => decide (e.1 < key)
theorem cut_uniq {X Y : List E} {key : Int} (hx : ∀ x ∈ X, x.1 < key) (hy : ∀ y ∈ Y, key ≤ y.1) : lowS (X ++ Y) key = X ∧ upS (X ++ Y) key = Y := by
  have h1 : ∀ x ∈ X, decide (x.1 < key) = true := fun x h => decide_eq_true (hx x h)
  have h2 : Y.takeWhile (fun e => decide (e.1 < key)) = [] ∧ Y.dropWhile (fun e => decide (e.1 < key)) = Y := by
    cases Y with
    | nil => exact ⟨rfl, rfl⟩
    | cons y Y =>
      have : ¬ y.1 < key := by have := hy y (by simp); omega
      simp [this]
  constructor
  · rw [lowS, List.takeWhile_append_of_pos h1, h2.1, List.append_nil]
  · rw [upS, List.dropWhile_append_of_pos h1, h2.2]
def valOf : List E → Int | [] => 0 | e :: _ => e.2
theorem cut_eq {X Y : List E} {key : Int} {xs : List E} (h : xs = X ++ Y) (hx : ∀ x ∈ X, x.1 < key) (hy : ∀ y ∈ Y, key ≤ y.1) : X = lowS xs key ∧ Y = upS xs key := by
  subst h
  exact ⟨(cut_uniq hx hy).1.symm, (cut_uniq hx hy).2.symm⟩
/-- What Put does, in plain lists. -/
def putS (xs : List E) (key value : Int) : List E × Int × Bool × Int :=
  if KeyP key ∧ KeyP value then
    (if hasKey (upS xs key) key = true then (lowS xs key ++ (key, value) :: (upS xs key).tail, valOf (upS xs key), true, 0)
     else if 2000 ≤ xs.length then (xs, 0, false, 4) else (lowS xs key ++ (key, value) :: upS xs key, 0, false, 0))
  else (xs, 0, false, 1)
theorem TreeA.vis {order tb : Nat} {xs : List E} {vis : Int} {A : Bag} (ta : TreeA order xs tb vis A) : ∃ root A1, A = treeC tb order xs.length root vis + A1 ∧ ∀ vis', TreeA order xs tb vis' (treeC tb order xs.length root vis' + A1) := by
  rcases ta with ⟨rfl, rfl⟩ | ⟨n, root, t, A1, rfl, hh, hf, hs⟩
  · exact ⟨none, 0, (Bag.add_zero _).symm, fun vis' => .inl ⟨rfl, Bag.add_zero _⟩⟩
  · exact ⟨_, A1, rfl, fun vis' => .inr ⟨n, root, t, A1, rfl, hh, hf, hs⟩⟩
theorem upS_len {xs : List E} {key : Int} : xs = lowS xs key ++ upS xs key := (List.takeWhile_append_dropWhile).symm
theorem Put_ok {h0 h : Hp} {order tb : Nat} {xs : List E} {vis key value : Int} {A F : Bag} (hor : 3 ≤ order) (h64 : order ≤ 64) (so : Srt xs) (hmost : xs.length ≤ 2000) (hvis : 0 ≤ vis ∧ vis ≤ 1000000000000) (ta : TreeA order xs tb vis A) (s : St h0 h (A + F)) :
    HCalls Try.prog 10 #[ptr tb, .int .i64 key, .int .i64 value] h (fun v h' => ∃ A' vis', ((vis ≤ vis' ∧ vis' ≤ vis + 1000) ∧ ((putS xs key value).2.2.2 = 0 → vis < vis')) ∧
      v = .tuple #[.int .i64 (putS xs key value).2.1, .bool (putS xs key value).2.2.1, .int .i64 (putS xs key value).2.2.2] ∧ TreeA order (putS xs key value).1 tb vis' A' ∧ St h0 h' (A' + F)) := by
  refine btree_Tree_Put_call ?_
  rw [btree_Tree_Put_b0_eq]
  refine condNo rfl ?_
  refine s.new (cs := [.int .i64 key, .int .i64 value]) fun b h1 _ s1 => ?_
  refine (number2 s1.blk).mono fun v1 h2 ⟨hh, hv⟩ => ?_
  subst hh
  refine ⟨_, hv, condN (fun hk => ?_) (fun hk => ?_)⟩
  · rw [putS, if_neg hk]
    exact ⟨A, vis, ⟨⟨by omega, by omega⟩, fun h => by cases h⟩, rfl, ta, s1.drop⟩
  · rw [btree_Tree_Put_b1_eq]
    refine (put_ok (key := key) (value := value) hor h64 so hmost ta s1.drop).mono fun v2 h3 ⟨A', X, Y, hxy, hX, hY, s3, hr⟩ => ?_
    obtain ⟨eX, eY⟩ := cut_eq hxy hX hY
    rw [putS, if_pos hk]
    rcases hr with ⟨old, Y', w, rfl, hw, hv2, ta'⟩ | ⟨hf, hle, hv2, ta'⟩ | ⟨hf, hlt, w, hw, hv2, ta'⟩
    · obtain ⟨root, A1, rfl, hvs⟩ := ta'.vis
      have s4 := s3.to (B := treeC tb order (X ++ (key, value) :: Y').length root vis + (A1 + F))
      refine ⟨_, _, _, _, hv2, _, s4.cellA 3, ⟨by omega, by omega⟩, ?_⟩
      refine s4.wr (o := 3) (add_mk _ _ _) (by simp) fun h4 s5 => ?_
      have hk' : hasKey (upS xs key) key = true := by rw [← eY]; exact decide_eq_true rfl
      rw [if_pos hk', ← eX, ← eY]
      exact ⟨_, vis + w, ⟨⟨by omega, by omega⟩, fun _ => by omega⟩, rfl, hvs _, s5.to⟩
    · obtain ⟨root, A1, rfl, hvs⟩ := ta'.vis
      have s4 := s3.to (B := treeC tb order xs.length root vis + (A1 + F))
      refine ⟨_, _, _, _, hv2, _, s4.cellA 3, ⟨by omega, by omega⟩, ?_⟩
      refine s4.wr (o := 3) (add_mk _ _ _) (by simp) fun h4 s5 => ?_
      rw [if_neg (by rw [← eY, hf]; simp), if_pos hle]
      exact ⟨_, vis + 0, ⟨⟨by omega, by omega⟩, fun h => by cases h⟩, rfl, hvs _, s5.to⟩
    · obtain ⟨root, A1, rfl, hvs⟩ := ta'.vis
      have s4 := s3.to (B := treeC tb order (X ++ (key, value) :: Y).length root vis + (A1 + F))
      refine ⟨_, _, _, _, hv2, _, s4.cellA 3, ⟨by omega, by omega⟩, ?_⟩
      refine s4.wr (o := 3) (add_mk _ _ _) (by simp) fun h4 s5 => ?_
      rw [if_neg (by rw [← eY, hf]; simp), if_neg (by omega), ← eX, ← eY]
      exact ⟨_, vis + w, ⟨⟨by omega, by omega⟩, fun _ => by omega⟩, rfl, hvs _, s5.to⟩
/-! ### the neighbours -/
def lastOf (l : List E) : Int × Int × Bool := match l.getLast? with | none => (0, 0, false) | some e => (e.1, e.2, true)
def headOf (l : List E) : Int × Int × Bool := match l with | [] => (0, 0, false) | e :: _ => (e.1, e.2, true)
theorem lastOf_app (a b : List E) : lastOf (a ++ b) = if b = [] then lastOf a else lastOf b := by
  by_cases h : b = []
  · rw [if_pos h, h, List.append_nil]
  · rw [if_neg h]
    rcases List.eq_nil_or_concat b with h1 | ⟨b', x, rfl⟩
    · exact absurd h1 h
    · simp [lastOf, ← List.append_assoc]
theorem wL_nil {ks : List (List E)} {es : List E} (h : ks.length = es.length) : wL ks es = [] ↔ es = [] := by
  cases ks with
  | nil => cases es with | nil => simp [wL] | cons _ _ => simp at h
  | cons k ks => cases es with | nil => simp at h | cons e es => simp [wL]
theorem lastOf_wL : ∀ {ks : List (List E)} {es : List E}, ks.length = es.length → lastOf (wL ks es) = lastOf es
  | [], [], _ => rfl
  | [], _ :: _, h => by simp at h
  | _ :: _, [], h => by simp at h
  | k :: ks, e :: es, h => by
    have hl : ks.length = es.length := by simpa using h
    have ih := lastOf_wL hl
    show lastOf (k ++ ([e] ++ wL ks es)) = lastOf ([e] ++ es)
    rw [lastOf_app, if_neg (by simp), lastOf_app, lastOf_app, ih]
    by_cases he : es = []
    · rw [if_pos he, if_pos ((wL_nil hl).2 he)]
    · rw [if_neg he, if_neg (fun h => he ((wL_nil hl).1 h))]
theorem headOf_app (a b : List E) : headOf (a ++ b) = if a = [] then headOf b else headOf a := by
  cases a with
  | nil => simp
  | cons e a => simp [headOf]
theorem headOf_wR {ks : List (List E)} {es : List E} (h : ks.length = es.length) : headOf (wR es ks) = headOf es ∧ (wR es ks = [] ↔ es = []) := by
  cases ks with
  | nil => cases es with | nil => simp [wR] | cons _ _ => simp at h
  | cons k ks => cases es with | nil => simp at h | cons e es => simp [wR, headOf]
theorem Way.found {key : Int} {lo hi root n m k : Nat} {t u : BT} {A Ac Au : Bag} {fs : List Fr} {eL eR : List E} {old : Int} (w : Way key lo hi root n t A m fs k u Ac Au) (he : u.es = eL ++ (key, old) :: eR) :
    ∃ X Y, flat n t = X ++ (key, old) :: Y ∧ (∀ x ∈ X, x.1 < key) ∧ (∀ y ∈ Y, key ≤ y.1) := by
  obtain ⟨WL, WR, hW⟩ := node_cut w.sub he
  have hfu : flat m u = WL ++ (key, old) :: WR := by rw [bt_eta u, he]; exact hW _
  have hsrt := w.srt
  rw [hfu, Srt.app, Srt.con] at hsrt
  refine ⟨Lb m fs ++ WL, WR ++ Rb m fs, ?_, ?_, ?_⟩
  · rw [← w.plug, ← w.hgt, flat_plug u w.ctx.ok, hfu]; simp
  · intro x hx
    rcases List.mem_append.1 hx with h | h
    · exact w.lt x h
    · exact hsrt.2.2 x h (key, old) (by simp)
  · intro x hx
    rcases List.mem_append.1 hx with h | h
    · exact Int.le_of_lt (hsrt.2.1.1 x h)
    · exact Int.le_of_lt (w.gt x h)
def floorS (xs : List E) (key : Int) : Int × Int × Bool := if hasKey (upS xs key) key = true then (key, valOf (upS xs key), true) else lastOf (lowS xs key)
def ceilS (xs : List E) (key : Int) : Int × Int × Bool := headOf (upS xs key)
theorem last_split {eL : List E} (h : 0 < eL.length) : (eL.map Prod.fst).getD (eL.length - 1) 0 = (lastOf eL).1 ∧ (eL.map Prod.snd).getD (eL.length - 1) 0 = (lastOf eL).2.1 ∧ (lastOf eL).2.2 = true := by
  have hl : eL.getLast? = some (eL[eL.length - 1]'(by omega)) := by rw [List.getLast?_eq_getElem?, List.getElem?_eq_getElem (by omega)]
  have h2 : eL.length - 1 < eL.length := by omega
  refine ⟨?_, ?_, ?_⟩ <;> simp [lastOf, hl, List.getD, h2]
end Go.Proofs.Ytaemnjblcpknpaa
