/- Part LK LL LM LN LO LP LQ LR LS LT LU EA EB EC ED EE of the proof: contracts of functions of the program, and what follows from them. -/
import Derived.Test.YtllhdhpjgihjfaaGreatDoorSxLJ
import Derived.Lib.ItoaNum
set_option maxRecDepth 100000
namespace Go.Proofs.YtllhdhpjgihjfaaGreatDoor
open Go Go.Sx
theorem yasy {h : Hp} {p q : OA} {n m c d : Nat} {xs ys : List Int} (r1 : RdT TI h p n xs) (r2 : RdT TI h q m ys) (hn : n ≤ 1000000000) :
    yaae Tryz.prog 29 #[.slice p n c, .slice q m d] h (fun v h' => h' = h ∧ v = .bool (decide (xs = ys))) := by
  have l1 := r1.len
  have l2 := r2.len
  refine zaa_call ?_
  rw [zaa_b0]
  refine condN (fun hl => ?_) (fun hl => ?_)
  · exact ⟨rfl, by rw [decide_eq_false (fun h => hl (by subst h; omega))]⟩
  refine ⟨fun x h' => h' = h ∧ ∃ i : Nat, x.1 = i ∧ i ≤ n ∧ ∀ j, j < i → xs.getD j 0 = ys.getD j 0, fun x _ => n - x.1.toNat, ⟨rfl, 0, rfl, by omega, fun j hj => by omega⟩, ?_⟩
  rintro ⟨_, _⟩ h1 ⟨rfl, i, rfl, hin, heq⟩
  dsimp only
  rw [zaa_b1]
  refine condP (fun hlt => ?_) (fun hge => ?_)
  · refine r1.int (by omega) (by omega) (r2.int (by omega) (by omega) ?_)
    rw [Int.toNat_natCast]
    refine condN (fun hne => ?_) (fun he => ?_)
    · exact ⟨rfl, by rw [decide_eq_false (fun h => hne (by rw [h]))]⟩
    · rw [zaa_b2]
      refine ⟨⟨by omega, by omega⟩, ⟨rfl, i + 1, by simp only; omega, by omega, fun j hj => ?_⟩, by simp only; omega⟩
      rcases Nat.lt_or_ge j i with h | h
      · exact heq j h
      · obtain rfl : j = i := by omega
        exact he
  · rw [zaa_b3]
    refine ⟨rfl, ?_⟩
    rw [decide_eq_true]
    refine List.ext_getElem (by omega) fun j h1 h2 => ?_
    have := heq j (by omega)
    rwa [yaac h1, yaac h2] at this
def textR (l : List Int) : List (List Int) := if l = [] then [] else [l]
abbrev occA (l p : List Int) (i : Nat) : Prop := (l.drop i).take p.length = p
def posN (l p : List Int) (k : Nat) : List Nat := (List.range k).filter fun i => decide (occA l p i)
def yadr (l : List Nat) : Int := match l.head? with | none => -1 | some i => (i : Int)
def textS (l : List Int) (c : Int) (zs : List Int) : List Int × Int × Int :=
  if c = 4 then (l, 0, (l.length : Int)) else if c = 1 then (if 500 < l.length + zs.length then (l, 4, 0) else (l ++ zs, 0, 0))
  else if c = 2 then (l, 0, ((posN l zs l.length).length : Int)) else if yadr (posN l zs l.length) < 0 then (l, 12, 0) else (l, 0, yadr (posN l zs l.length))
theorem yaes (l p : List Int) (k : Nat) : posN l p (k + 1) = posN l p k ++ (if occA l p k then [k] else []) := by
  unfold posN
  rw [List.range_succ, List.filter_append]
  congr 1
  by_cases h : occA l p k
  · rw [if_pos h, List.filter_cons, if_pos (decide_eq_true h)]; rfl
  · rw [if_neg h, List.filter_cons, if_neg (by rw [decide_eq_false h]; decide)]; rfl
theorem yaxe {l p : List Int} {k : Nat} : ∀ {k' : Nat}, k ≤ k' → (∀ i, k ≤ i → ¬ occA l p i) → posN l p k' = posN l p k
  | k', h, hn => by
    induction k' with
    | zero => rw [show k = 0 by omega]
    | succ k' ih =>
      rcases Nat.lt_or_ge k' k with hlt | hge
      · rw [show k = k' + 1 by omega]
      · rw [yaes, if_neg (hn k' hge), List.append_nil, ih hge]
theorem yasl (l p : List Int) (k : Nat) : (posN l p k).length ≤ k := by
  unfold posN
  exact Nat.le_trans (List.length_filter_le _ _) (by rw [List.length_range]; omega)
theorem yamn (l : List Nat) (i : Nat) : yadr (l ++ [i]) = if yadr l < 0 then (i : Int) else yadr l := by
  cases l with
  | nil => rfl
  | cons a l => show (a : Int) = if (a : Int) < 0 then (i : Int) else (a : Int); rw [if_neg (by omega)]
theorem yavn {l p : List Int} {i : Nat} (hp : p ≠ []) (h : occA l p i) : i + p.length ≤ l.length := by
  have e := congrArg List.length h
  rw [List.length_take, List.length_drop] at e
  have : 0 < p.length := List.length_pos_iff.2 hp
  omega
section
variable {h0 h : Hp} {b1 b2 b3 b4 : Nat} {l : List Int} {p q : OA} {n c m cc : Nat} {code : Int} {zs : List Int} {B G : Bag} {x0 x1 y0 y1 y2 : Value}
abbrev TextP (h0 : Hp) (G : Bag) (l : List Int) (c : Int) (zs : List Int) : VK := StepP h0 G 6 (textR (textS l c zs).1) (textS l c zs).2.1 (textS l c zs).2.2
abbrev yaof (h0 : Hp) (G : Bag) (l : List Int) (c : Int) (zs : List Int) : VK := yafk h0 G (textR (textS l c zs).1) (textS l c zs).2.1 (textS l c zs).2.2
theorem yath {i : Nat} {h : Hp} {p q : OA} {n m c d : Nat} {xs ys : List Int} (r1 : RdT TI h p n xs) (r2 : RdT TI h q m ys) (hn : n ≤ 1000000) (hm : m ≤ 1000000) (hi : i ≤ 1000000) (hp : ys ≠ []) :
    yaae Tryz.prog 111 #[.slice p n c, .int .i64 (i : Int), .slice q m d] h (fun v h' => h' = h ∧ v = .bool (decide (occA xs ys i))) := by
  have l1 := r1.len
  have l2 := r2.len
  refine zcw_call ?_
  rw [zcw_b0]
  refine ⟨fun x h' => h' = h ∧ ∃ k : Nat, x.1 = k ∧ k ≤ m ∧ (xs.drop i).take k = ys.take k, fun x _ => (m - x.1).toNat, ⟨rfl, 0, rfl, by omega, rfl⟩, ?_⟩
  rintro ⟨_, _⟩ h1 ⟨rfl, k, rfl, hk, heq⟩
  dsimp only
  rw [zcw_b1]
  refine condP (fun hlt => ?_) (fun hge => ?_)
  · refine ⟨⟨by omega, by omega⟩, condP (fun hg => ⟨rfl, ?_⟩) (fun hl => ⟨⟨by omega, by omega⟩, ?_⟩)⟩
    · rw [decide_eq_false fun h => ?_]
      have := yavn hp h
      omega
    · have ei : ((i : Int) + (k : Int)) = ((i + k : Nat) : Int) := by push_cast; rfl
      rw [ei]
      refine ldI (i' := i + k) r1 rfl (by omega) (ldI (i' := k) r2 rfl (by omega) (condN (fun hne => ⟨rfl, ?_⟩) (fun he => ?_)))
      · rw [decide_eq_false fun h => hne ?_]
        have h : (xs.drop i).take ys.length = ys := h
        have e : ys.getD k 0 = ((xs.drop i).take ys.length).getD k 0 := by rw [h]
        rw [e, yaac (show i + k < xs.length by omega), yaac (by rw [List.length_take, List.length_drop]; omega), List.getElem_take, List.getElem_drop]
      · rw [zcw_b2]
        refine ⟨⟨by omega, by omega⟩, ⟨rfl, k + 1, by push_cast; rfl, by omega, ?_⟩, by dsimp only; omega⟩
        rw [yaac (show i + k < xs.length by omega), yaac (show k < ys.length by omega)] at he
        rw [List.take_succ_eq_append_getElem (by rw [List.length_drop]; omega), List.take_succ_eq_append_getElem (show k < ys.length by omega), heq, List.getElem_drop, he]
  · rw [zcw_b3]
    refine ⟨rfl, ?_⟩
    rw [decide_eq_true]
    have : k = ys.length := by omega
    subst this
    rwa [List.take_length] at heq
theorem yamm (na : RowsA (p, n, c) (textR l) B) : (l = [] ∧ n = 0) ∨ (l ≠ [] ∧ n = 1) := by
  have hl := yaav na
  unfold textR at hl
  split at hl
  · exact .inl ⟨‹_›, hl.symm⟩
  · exact .inr ⟨‹_›, hl.symm⟩
theorem yapb {s0 : OA} {c0 : Nat} (na : RowsA (p, n, c) (textR l) B) (rl : RdT TI h s0 l.length l) (hrz : RdT TI h q m zs) (s : St h0 h (refA b1 b2 b3 b4 6 p n c code q m cc x0 x1 y0 y1 y2 B G)) (hl : l.length ≤ 500) (hm : m ≤ 100) (hz : zs ≠ []) (hc : code = 2 ∨ code = 3) :
    zdd_b2 (some ⟨b1, 0, none⟩) (some ⟨b2, 0, none⟩) (some ⟨b3, 0, none⟩) (some ⟨b4, 0, none⟩) s0 l.length c0 h (TextP h0 G l code zs) := by
  have e : textS l code zs = (if code = 2 then (l, 0, ((posN l zs l.length).length : Int)) else if yadr (posN l zs l.length) < 0 then (l, 12, 0) else (l, 0, yadr (posN l zs l.length))) := by
    unfold textS; rw [if_neg (by omega), if_neg (by omega)]
  rw [TextP, e, zdd_b2]
  delta refA at s
  refine ⟨fun x h' => h' = h ∧ ∃ i : Nat, x.2.2.1 = i ∧ i ≤ l.length ∧ x.1 = ((posN l zs i).length : Int) ∧ x.2.1 = yadr (posN l zs i), fun x _ => (l.length - x.2.2.1).toNat, ⟨rfl, 0, rfl, Nat.zero_le _, rfl, rfl⟩, ?_⟩
  rintro ⟨x, y, _, _⟩ h7 ⟨rfl, i, rfl, hi, hx, hy⟩
  dsimp only at hx hy ⊢
  subst hx hy
  have hb := yasl l zs i
  rw [zdd_b3]
  refine condP (fun hlt => ?_) (fun hge => ?_)
  · refine ⟨_, _, _, s.ldB, (yath rl hrz (by omega) (by omega) (by omega) hz).mono fun v h8 ⟨hh, hv⟩ => ⟨_, hv, ?_⟩⟩
    subst hh
    refine condP (fun ho => ?_) (fun ho => ?_)
    · have es := yaes l zs i
      rw [if_pos ho] at es
      have ef : yadr (posN l zs (i + 1)) = if yadr (posN l zs i) < 0 then (i : Int) else yadr (posN l zs i) := by rw [es, yamn]
      have el : ((posN l zs (i + 1)).length : Int) = ((posN l zs i).length : Int) + 1 := by rw [es, List.length_append]; push_cast; rfl
      refine ⟨⟨by omega, by omega⟩, condP (fun hf => ?_) (fun hf => ?_)⟩
      · rw [if_pos hf] at ef
        rw [zdd_b4]
        exact ⟨⟨by omega, by omega⟩, ⟨rfl, i + 1, by push_cast; rfl, by omega, el.symm, ef.symm⟩, by dsimp only; omega⟩
      · rw [if_neg hf] at ef
        rw [zdd_b4]
        exact ⟨⟨by omega, by omega⟩, ⟨rfl, i + 1, by push_cast; rfl, by omega, el.symm, ef.symm⟩, by dsimp only; omega⟩
    · have es := yaes l zs i
      rw [if_neg ho, List.append_nil] at es
      rw [zdd_b4]
      exact ⟨⟨by omega, by omega⟩, ⟨rfl, i + 1, by push_cast; rfl, by omega, by rw [es], by rw [es]⟩, by dsimp only; omega⟩
  · obtain rfl : i = l.length := by omega
    rw [zdd_b5]
    refine ⟨_, s.ld0, condP (fun h2 => ?_) (fun h2 => condP (fun hf => ?_) (fun hf => ?_))⟩
    · rw [if_pos h2]; exact boxY na s
    · rw [if_neg h2, if_pos hf]; exact boxF na s
    · rw [if_neg h2, if_neg hf]; exact boxY na s
theorem yakh {s0 : OA} {c0 : Nat} (na : RowsA (p, n, c) (textR l) B) (rl : RdT TI h s0 l.length l) (hrz : RdT TI h q m zs) (s : St h0 h (refA b1 b2 b3 b4 6 p n c code q m cc x0 x1 y0 y1 y2 B G)) (hl : l.length ≤ 500) (hm : m ≤ 100) (hz : code ≠ 4 → zs ≠ []) (hc : 1 ≤ code ∧ code ≤ 4) :
    zdd_b1 (some ⟨b1, 0, none⟩) (some ⟨b2, 0, none⟩) (some ⟨b3, 0, none⟩) (some ⟨b4, 0, none⟩) s0 l.length c0 h (TextP h0 G l code zs) := by
  have hzl := hrz.len
  have s' := s
  delta refA at s
  rw [zdd_b1]
  refine ⟨_, s.ld0, condP (fun h4 => ?_) (fun h4 => condP (fun h1 => ?_) (fun h1 => ?_))⟩
  · have e : textS l code zs = (l, 0, (l.length : Int)) := by subst h4; rfl
    rw [TextP, e]
    exact boxY na s
  · have e : textS l code zs = (if 500 < l.length + zs.length then (l, 4, 0) else (l ++ zs, 0, 0)) := by subst h1; rfl
    rw [TextP, e]
    refine ⟨_, _, _, s.ldB, ⟨by omega, by omega⟩, condP (fun hf => ?_) (fun hf => ?_)⟩
    · rw [if_pos (by omega)]; exact boxF na s
    rw [if_neg (by omega)]
    refine ⟨_, _, _, s.ldB, (yaxn rl (by omega)).mono fun v h5 ⟨q6, d6, A6, hv, o6, t6⟩ => ⟨_, _, _, hv, ?_⟩⟩
    have hrz5 := hrz.ext t6.ext
    have s := s.join t6
    have s : St h0 h5 (A6 + (cA b1 [.int .i64 6, .slice p n c] 24 + (cA b2 [.int .i64 code, .slice q m cc] 50 + (cA b3 [x0, x1] 24 + (cA b4 [y0, y1, y2] 58 + (B + G)))))) := s.to
    refine ⟨⟨_, _, _, s.ldB, rfl⟩, yabf yagz s o6 hrz5 (by omega) fun p' c' h' A' o' s => s.new (cs := [_]) fun b5 h8 _ s => ?_⟩
    have s : St h0 h8 (cA b1 [.int .i64 6, .slice p n c] 24 + (B + (cA b2 [.int .i64 code, .slice q m cc] 50 + (cA b3 [x0, x1] 24 + (cA b4 [y0, y1, y2] 58 + ((cA b5 [.slice p' (l.length + m) c'] 29 + A') + G)))))) := s.to
    refine wrC1 s fun h10 s => ?_
    have s := (s.to (B := B + (cA b1 [.int .i64 6, .slice (some ⟨b5, 0, none⟩) 1 1] 24 + (cA b2 [.int .i64 code, .slice q m cc] 50 + (cA b3 [x0, x1] 24 + (cA b4 [y0, y1, y2] 58 + ((cA b5 [.slice p' (l.length + m) c'] 29 + A') + G))))))).drop
    have na' : RowsA (some ⟨b5, 0, none⟩, 1, 1) (textR (l ++ zs)) (cA b5 [.slice p' (l.length + m) c'] 29 + A') := by
      unfold textR
      rw [if_neg (by have := hz h4; simp [this])]
      exact ⟨[(p', l.length + m, c')], cA b5 [.slice p' (l.length + m) c'] 29, A', rfl, Sl.of_blk (T := TR) (xs := [(p', l.length + m, c')]) rfl rfl, AllH.one o'⟩
    exact boxY (b2 := b2) (p := some ⟨b5, 0, none⟩) (n := 1) (c := 1) (cc := cc) (q := q) (m := m) (code := code) (x0 := x0) (x1 := x1) (y0 := y0) (y1 := y1) (y2 := y2) na' (by delta refA; exact s)
  · exact yapb na rl hrz s' hl hm (hz h4) (by omega)
theorem yazq (na : RowsA (p, n, c) (textR l) B) (rz : RdS h0 G TI q m zs) (s : St h0 h (B + G)) (hl : l.length ≤ 500) (hm : m ≤ 100) (hz : code ≠ 4 → zs ≠ []) (hc : 1 ≤ code ∧ code ≤ 4) :
    yaae Tryz.prog 78 #[.agg #[.int .i64 6, .slice p n c], .agg #[.int .i64 code, .slice q m cc]] h (TextP h0 G l code zs) := by
  refine zdd_call ?_
  rw [zdd_b0]
  refine s.new (cs := [_, _]) fun b1 h3 _ s => s.new (cs := [_, _]) fun b2 h4 _ s => s.new (cs := [_, _]) fun b3 h5 _ s => s.new (cs := [_, _, _]) fun b4 h6 _ s => ?_
  have s : St h0 h6 (refA b1 b2 b3 b4 6 p n c code q m cc (.int .i64 0) (.slice none 0 0) (.int .i64 0) (.int .i64 0) (.slice none 0 0) B G) := by delta refA; exact s.to
  have hrz : RdT TI h6 q m zs := rz h6 (cA b1 [.int .i64 6, .slice p n c] 24 + (cA b2 [.int .i64 code, .slice q m cc] 50 + (cA b3 [.int .i64 0, .slice none 0 0] 24 + (cA b4 [.int .i64 0, .int .i64 0, .slice none 0 0] 58 + B)))) (by delta refA at s; exact s.to)
  have s' := s
  delta refA at s
  rcases yamm na with ⟨hl0, hn⟩ | ⟨hl0, hn⟩
  · subst hl0 hn
    exact ⟨_, _, _, s.ldB, yaat rfl (yakh na ⟨rfl, Or.inl rfl⟩ hrz s' hl hm hz hc)⟩
  · subst hn
    refine ⟨_, _, _, s.ldB, yaaw rfl ⟨_, _, _, s.ldB, yack (i' := 0) na (s.at B) rfl Nat.one_pos fun q' d' r => ?_⟩⟩
    have er : (textR l).getD 0 [] = l := by unfold textR; rw [if_neg hl0]; rfl
    rw [er] at r ⊢
    exact yakh na r hrz s' hl hm hz hc
theorem yans {s0 : OA} {c0 : Nat} (na : RowsA (p, n, c) (textR l) B) (rl : RdT TI h s0 l.length l) (hc0 : l.length ≤ c0) (hrz : RdT TI h q m zs) (s : St h0 h (modA b1 b2 code q m cc y0 y1 y2 B G)) (hl : l.length ≤ 500) (hm : m ≤ 100) (hz : zs ≠ []) (hc : code = 2 ∨ code = 3) :
    zbx_b2 p n c (some ⟨b1, 0, none⟩) (some ⟨b2, 0, none⟩) s0 l.length c0 h (yaof h0 G l code zs) := by
  have hzl := hrz.len
  have e : textS l code zs = (if code = 2 then (l, 0, ((posN l zs l.length).length : Int)) else if yadr (posN l zs l.length) < 0 then (l, 12, 0) else (l, 0, yadr (posN l zs l.length))) := by
    unfold textS; rw [if_neg (by omega), if_neg (by omega)]
  rw [yaof, e, zbx_b2]
  delta modA at s
  refine ⟨fun x h' => h' = h ∧ ∃ i : Nat, x.2.2.1 = i ∧ i ≤ l.length ∧ x.2.1 = ((posN l zs i).length : Int) ∧ x.1 = yadr (posN l zs i), fun x _ => (l.length - x.2.2.1).toNat, ⟨rfl, 0, rfl, Nat.zero_le _, rfl, rfl⟩, ?_⟩
  rintro ⟨x, y, _, _⟩ h7 ⟨rfl, i, rfl, hi, hx, hy⟩
  dsimp only at hx hy ⊢
  subst hx hy
  have hb := yasl l zs i
  rw [zbx_b3]
  refine ⟨_, _, _, s.ldB, ⟨by omega, by omega⟩, condP (fun hlt => ?_) (fun hge => ?_)⟩
  · have hzp : 0 < zs.length := List.length_pos_iff.2 hz
    refine ⟨_, _, _, s.ldB, ⟨by omega, by omega⟩, ⟨by omega, by omega, by omega⟩, _, _, _, s.ldB, decide (occA l zs i), ?_, ?_⟩
    · have ei : Int.toNat ((i : Int) + (m : Int)) - Int.toNat (i : Int) = m := by omega
      rw [ei, Int.toNat_natCast]
      refine (yasy (((rl.sub hi hc0 rfl).take (i := m) (by omega))) hrz (by omega)).mono fun v h8 ⟨hh, hv⟩ => ⟨?_, hh⟩
      rw [hv, ← hzl]
    refine condP (fun ho => ?_) (fun ho => ?_)
    · have es := yaes l zs i
      rw [if_pos ho] at es
      have ef : yadr (posN l zs (i + 1)) = if yadr (posN l zs i) < 0 then (i : Int) else yadr (posN l zs i) := by rw [es, yamn]
      have el : ((posN l zs (i + 1)).length : Int) = ((posN l zs i).length : Int) + 1 := by rw [es, List.length_append]; push_cast; rfl
      refine condP (fun hf => ?_) (fun hf => ?_)
      · rw [if_pos hf] at ef
        rw [zbx_b4, zbx_b5]
        exact ⟨⟨by omega, by omega⟩, ⟨by omega, by omega⟩, ⟨rfl, i + 1, by push_cast; rfl, by omega, el.symm, ef.symm⟩, by dsimp only; omega⟩
      · rw [if_neg hf] at ef
        rw [zbx_b4, zbx_b5]
        exact ⟨⟨by omega, by omega⟩, ⟨by omega, by omega⟩, ⟨rfl, i + 1, by push_cast; rfl, by omega, el.symm, ef.symm⟩, by dsimp only; omega⟩
    · have es := yaes l zs i
      rw [if_neg ho, List.append_nil] at es
      rw [zbx_b5]
      exact ⟨⟨by omega, by omega⟩, ⟨rfl, i + 1, by push_cast; rfl, by omega, by rw [es], by rw [es]⟩, by dsimp only; omega⟩
  · have ex : posN l zs l.length = posN l zs i := yaxe hi fun k hk ho => by have := yavn hz ho; omega
    rw [ex, zbx_b6]
    refine ⟨_, s.ld0, condP (fun h2 => ?_) (fun h2 => condP (fun hf => ?_) (fun hf => ?_))⟩
    · rw [if_pos h2]; exact mboxT na s (yaan _ _)
    · rw [if_neg h2, if_pos hf]; exact mboxT na s (yaas _ _)
    · rw [if_neg h2, if_neg hf]; exact mboxT na s (yaan _ _)
theorem yahj {s0 : OA} {c0 : Nat} {Bi Br : Bag} (na : RowsA (p, n, c) (textR l) B) (hB : B = Bi + Br) (ol : Sl TI s0 l.length c0 l Bi) (hc0 : l.length ≤ c0) (hrz : RdT TI h q m zs) (s : St h0 h (modA b1 b2 code q m cc y0 y1 y2 B G)) (hl : l.length ≤ 500) (hm : m ≤ 100) (hz : code ≠ 4 → zs ≠ []) (hc : 1 ≤ code ∧ code ≤ 4) :
    zbx_b1 p n c (some ⟨b1, 0, none⟩) (some ⟨b2, 0, none⟩) s0 l.length c0 h (yaof h0 G l code zs) := by
  have hzl := hrz.len
  have s' := s
  delta modA at s
  have sB := s
  rw [hB] at sB
  rw [zbx_b1]
  refine ⟨_, s.ld0, condP (fun h4 => ?_) (fun h4 => condP (fun h1 => ?_) (fun h1 => ?_))⟩
  · have e : textS l code zs = (l, 0, (l.length : Int)) := by subst h4; rfl
    rw [yaof, e]
    exact mboxT na s (yaan _ _)
  · have e : textS l code zs = (if 500 < l.length + zs.length then (l, 4, 0) else (l ++ zs, 0, 0)) := by subst h1; rfl
    rw [yaof, e]
    refine ⟨_, _, _, s.ldB, ⟨by omega, by omega⟩, condP (fun hf => ?_) (fun hf => ?_)⟩
    · rw [if_pos (by omega)]; exact mboxT na s (yaas _ _)
    rw [if_neg (by omega)]
    refine ⟨_, _, _, s.ldB, ?_⟩
    have s2 : St h0 h (Bi + (cA b2 [y0, y1, y2] 58 + (cA b1 [.int .i64 code, .slice q m cc] 50 + (Br + G)))) := sB.to
    refine yabf yagz s2 ol hrz (by omega) fun p' c' h' A' o' s => s.new (cs := [_]) fun b5 h8 _ s => ?_
    have s : St h0 h8 (Br + (cA b2 [y0, y1, y2] 58 + (cA b1 [.int .i64 code, .slice q m cc] 50 + ((cA b5 [.slice p' (l.length + m) c'] 29 + A') + G)))) := s.to
    have s := s.drop
    have na' : RowsA (some ⟨b5, 0, none⟩, 1, 1) (textR (l ++ zs)) (cA b5 [.slice p' (l.length + m) c'] 29 + A') := by
      unfold textR
      rw [if_neg (by have := hz h4; simp [this])]
      exact ⟨[(p', l.length + m, c')], cA b5 [.slice p' (l.length + m) c'] 29, A', rfl, Sl.of_blk (T := TR) (xs := [(p', l.length + m, c')]) rfl rfl, AllH.one o'⟩
    exact mboxT (b2 := b2) (D := cA b1 [.int .i64 code, .slice q m cc] 50) na' s (yaan _ _)
  · exact yans na (ol.rd (sB.at Bi)) hc0 hrz s' hl hm (hz h4) (by omega)
theorem yawx (na : RowsA (p, n, c) (textR l) B) (rz : RdS h0 G TI q m zs) (s : St h0 h (B + G)) (hl : l.length ≤ 500) (hm : m ≤ 100) (hz : code ≠ 4 → zs ≠ []) (hc : 1 ≤ code ∧ code ≤ 4) :
    yaae Tryz.prog 97 #[.slice p n c, .agg #[.int .i64 code, .slice q m cc]] h (yaof h0 G l code zs) := by
  refine zbx_call ?_
  rw [zbx_b0]
  refine s.new (cs := [_, _]) fun b1 h3 _ s => s.new (cs := [_, _, _]) fun b2 h4 _ s => ?_
  have hrz : RdT TI h4 q m zs := rz h4 (cA b2 [.int .i64 0, .int .i64 0, .slice none 0 0] 58 + (cA b1 [.int .i64 code, .slice q m cc] 50 + B)) s.to
  have s' : St h0 h4 (modA b1 b2 code q m cc (.int .i64 0) (.int .i64 0) (.slice none 0 0) B G) := by delta modA; exact s
  rcases yamm na with ⟨hl0, hn⟩ | ⟨hl0, hn⟩
  · subst hl0 hn
    exact yaat rfl (yahj (Bi := 0) (Br := B) na (by rw [Bag.zero_add]) Sl.nil (Nat.le_refl _) hrz s' hl hm hz hc)
  · subst hn
    refine yaaw rfl (yadb na (s.at B) (by omega) (by omega) fun q' l' d' Bi Br o hB _ => ?_)
    have er : (textR l).getD (Int.toNat (0 : Int)) [] = l := by unfold textR; rw [if_neg hl0]; rfl
    rw [er] at o
    have ol : l.length = l' := o.len
    subst ol
    exact yahj na hB o o.cap hrz s' hl hm hz hc
end
theorem opv2 {c : Int} {zs : List Int} (h : OpV 2 c zs) : (1 ≤ c ∧ c ≤ 4) ∧ (c = 1 → zs.length = 1) ∧ ∀ z ∈ zs, KeyP z := by
  obtain ⟨h1, h2⟩ := h
  have e8 : (arT 2).length = 4 := rfl
  rw [e8] at h1
  have hc : c = 1 ∨ c = 2 ∨ c = 3 ∨ c = 4 := by omega
  have h3 : (c = 1 → zs.length = 1) ∧ ∀ z ∈ zs, KeyP z := by
    rcases hc with rfl | rfl | rfl | rfl <;> (have h2 : (zs.length : Int) = _ ∧ ∀ z ∈ zs, KeyP z := h2; refine ⟨fun h => ?_, h2.2⟩; have h3 := h2.1; first | omega | (exact absurd h (by decide)) | (have h4 : (zs.length : Int) = 1 := h3; omega))
  exact ⟨by omega, h3.1, h3.2⟩
theorem opv3 {c : Int} {zs : List Int} (h : OpV 3 c zs) : (1 ≤ c ∧ c ≤ 7) ∧ (c ≠ 7 → 1 ≤ zs.length) ∧ (c = 1 ∨ (4 ≤ c ∧ c ≤ 6) → 2 ≤ zs.length) ∧ ∀ z ∈ zs, KeyP z := by
  obtain ⟨h1, h2⟩ := h
  have e8 : (arT 3).length = 7 := rfl
  rw [e8] at h1
  have hc : c = 1 ∨ c = 2 ∨ c = 3 ∨ c = 4 ∨ c = 5 ∨ c = 6 ∨ c = 7 := by omega
  have e : (arT 3).getD (c - 1).toNat 0 = if c = 7 then 0 else if c = 2 then 1 else if c = 3 then 1 else 2 := by
    rcases hc with rfl | rfl | rfl | rfl | rfl | rfl | rfl <;> rfl
  rw [e] at h2
  have hneg : ¬ (if c = 7 then (0 : Int) else if c = 2 then 1 else if c = 3 then 1 else 2) < 0 := by
    rcases hc with rfl | rfl | rfl | rfl | rfl | rfl | rfl <;> decide
  rw [if_neg hneg] at h2
  obtain ⟨h2, h3⟩ := h2
  refine ⟨by omega, fun h => ?_, fun h => ?_, h3⟩
  · rw [if_neg h] at h2; split at h2
    · omega
    · split at h2 <;> omega
  · rw [if_neg (by omega), if_neg (by omega), if_neg (by omega)] at h2; omega
theorem opv4 {c : Int} {zs : List Int} (h : OpV 4 c zs) : (1 ≤ c ∧ c ≤ 5) ∧ (c = 4 → zs.length = 1) ∧ (c = 2 ∨ c = 3 → zs.length = 2) := by
  obtain ⟨h1, h2⟩ := h
  have e8 : (arT 4).length = 5 := rfl
  rw [e8] at h1
  have hc : c = 1 ∨ c = 2 ∨ c = 3 ∨ c = 4 ∨ c = 5 := by omega
  have e : (arT 4).getD (c - 1).toNat 0 = if c = 4 then 1 else if c = 2 then 2 else if c = 3 then 2 else 0 := by
    rcases hc with rfl | rfl | rfl | rfl | rfl <;> rfl
  rw [e] at h2
  have hneg : ¬ (if c = 4 then (1 : Int) else if c = 2 then 2 else if c = 3 then 2 else 0) < 0 := by
    rcases hc with rfl | rfl | rfl | rfl | rfl <;> decide
  rw [if_neg hneg] at h2
  obtain ⟨h2, h3⟩ := h2
  refine ⟨by omega, fun h => ?_, fun h => ?_⟩
  · rw [if_pos h] at h2; omega
  · rw [if_neg (by omega)] at h2; split at h2
    · omega
    · rw [if_pos (by omega)] at h2; omega
theorem opv5 {c : Int} {zs : List Int} (h : OpV 5 c zs) : (1 ≤ c ∧ c ≤ 5) ∧ (c = 1 → zs.length = 3) ∧ (c = 2 → zs.length = 2) ∧ (c = 3 ∨ c = 4 → zs.length = 4) ∧ ∀ z ∈ zs, KeyP z := by
  obtain ⟨h1, h2⟩ := h
  have e8 : (arT 5).length = 5 := rfl
  rw [e8] at h1
  have hc : c = 1 ∨ c = 2 ∨ c = 3 ∨ c = 4 ∨ c = 5 := by omega
  have e : (arT 5).getD (c - 1).toNat 0 = if c = 1 then 3 else if c = 2 then 2 else if c = 5 then 0 else 4 := by
    rcases hc with rfl | rfl | rfl | rfl | rfl <;> rfl
  rw [e] at h2
  have hneg : ¬ (if c = 1 then (3 : Int) else if c = 2 then 2 else if c = 5 then 0 else 4) < 0 := by
    rcases hc with rfl | rfl | rfl | rfl | rfl <;> decide
  rw [if_neg hneg] at h2
  obtain ⟨h2, h3⟩ := h2
  refine ⟨by omega, fun h => ?_, fun h => ?_, fun h => ?_, h3⟩
  · rw [if_pos h] at h2; omega
  · rw [if_neg (by omega), if_pos h] at h2; omega
  · rw [if_neg (by omega), if_neg (by omega), if_neg (by omega)] at h2; omega
theorem opv6 {c : Int} {zs : List Int} (h : OpV 6 c zs) : (1 ≤ c ∧ c ≤ 4) ∧ (c ≠ 4 → zs ≠ []) ∧ zs.length ≤ 64 ∧ (c ≠ 4 → ∀ z ∈ zs, ChP z) := by
  obtain ⟨h1, h2⟩ := h
  have e8 : (arT 6).length = 4 := rfl
  rw [e8] at h1
  have hc : c = 1 ∨ c = 2 ∨ c = 3 ∨ c = 4 := by omega
  have e : (arT 6).getD (c - 1).toNat 0 = if c = 4 then 0 else -1 := by
    rcases hc with rfl | rfl | rfl | rfl <;> rfl
  rw [e] at h2
  by_cases h4 : c = 4
  · rw [if_pos h4, if_neg (by decide)] at h2
    exact ⟨by omega, fun h => absurd h4 h, by omega, fun h => absurd h4 h⟩
  · rw [if_neg h4, if_pos (by decide)] at h2
    exact ⟨by omega, fun _ hz => by rw [hz] at h2; simp at h2, h2.1.2, fun _ => h2.2⟩
abbrev KeysP (xs : List E) : Prop := ∀ e ∈ xs, KeyP e.1 ∧ KeyP e.2
theorem yarh {xs : List E} {c : Int} {zs : List Int} (hx : KeysP xs) (hv : OpV 1 c zs) : KeysP (dictS xs c zs).1 := by
  obtain ⟨hc, hz1, hz2, hz⟩ := opv1 hv
  have lo : ∀ k, KeysP (lowS xs k) := fun k e he => hx e (yaqt.mem he)
  have up : ∀ k, KeysP (upS xs k) := fun k e he => hx e (yanv.mem he)
  have tl : ∀ k, KeysP (upS xs k).tail := fun k e he => up k e (List.mem_of_mem_tail he)
  have hk : ∀ i, i < zs.length → KeyP (zs.getD i 0) := fun i hi => hz _ (yaal hi)
  have app : ∀ {a b : List E}, KeysP a → KeysP b → KeysP (a ++ b) := fun ha hb e he => (List.mem_append.1 he).elim (ha e) (hb e)
  have cons : ∀ {x : E} {b : List E}, KeyP x.1 ∧ KeyP x.2 → KeysP b → KeysP (x :: b) := fun hx hb e he => (List.mem_cons.1 he).elim (fun h => by rw [h]; exact hx) (hb e)
  unfold dictS
  split
  · exact hx
  split
  · rename_i h1
    have := hz2 h1
    split
    · exact app (lo _) (cons ⟨hk 0 (by omega), hk 1 (by omega)⟩ (tl _))
    · split
      · exact hx
      · exact app (lo _) (cons ⟨hk 0 (by omega), hk 1 (by omega)⟩ (up _))
  split
  · split <;> exact hx
  split
  · split
    · exact app (lo _) (tl _)
    · exact hx
  split
  · split
    · exact hx
    · split <;> exact hx
  split
  · split <;> exact hx
  split
  · exact hx
  · split <;> exact hx
theorem yaqa {xs : List E} {c : Int} {zs : List Int} (so : Srt xs) : Srt (dictS xs c zs).1 ∧ (dictS xs c zs).1.length ≤ xs.length + 1 := by
  have hX : Srt (lowS xs (zs.getD 0 0)) := so.sublist yaqt
  have hY : Srt (upS xs (zs.getD 0 0)) := so.sublist yanv
  have hlen := congrArg List.length (yaed (xs := xs) (key := zs.getD 0 0))
  rw [List.length_append] at hlen
  unfold dictS
  split
  · exact ⟨so, Nat.le_succ _⟩
  split
  · split
    · rename_i hk
      refine ⟨yavp hX (hY.sublist (List.tail_sublist _)) yarl (yaow so hk), ?_⟩
      simp only [List.length_append, List.length_cons, List.length_tail]; omega
    · rename_i hk
      split
      · exact ⟨so, Nat.le_succ _⟩
      · refine ⟨yavp hX hY yarl (ybak hY (up_ge so) (by simpa using hk)), ?_⟩
        simp only [List.length_append, List.length_cons]; omega
  split
  · split <;> exact ⟨so, Nat.le_succ _⟩
  split
  · split
    · refine ⟨?_, ?_⟩
      · have h1 : Srt (lowS xs (zs.getD 0 0) ++ upS xs (zs.getD 0 0)) := by rw [← yaed]; exact so
        exact h1.sublist (List.Sublist.append (List.Sublist.refl _) (List.tail_sublist _))
      · simp only [List.length_append, List.length_tail]; omega
    · exact ⟨so, Nat.le_succ _⟩
  split
  · split
    · exact ⟨so, Nat.le_succ _⟩
    · split <;> exact ⟨so, Nat.le_succ _⟩
  split
  · split <;> exact ⟨so, Nat.le_succ _⟩
  split
  · exact ⟨so, Nat.le_succ _⟩
  · split <;> exact ⟨so, Nat.le_succ _⟩
theorem opv1e {c : Int} {zs : List Int} (h : OpV 1 c zs) (h1 : c = 1) : zs.length = 2 := by
  subst h1
  have h2 : (zs.length : Int) = 2 := h.2.1
  omega
abbrev hdR (r : List Int) : Int := r.getD 0 0
def to1 (rows : List (List Int)) : List Int := rows.map hdR
def to2 (rows : List (List Int)) : List E := rows.map fun r => (r.getD 0 0, r.getD 1 0)
def to3 (rows : List (List Int)) : List Pt := rows.map fun r => (r.getD 0 0, r.getD 1 0, r.getD 2 0)
def toT (rows : List (List Int)) : List Int := rows.getD 0 []
theorem yatq (l : List Int) : to1 (l.map row1) = l := by unfold to1; rw [List.map_map]; exact List.map_id' l
theorem yazs (l : List E) : to2 (l.map row2) = l := by unfold to2; rw [List.map_map]; exact List.map_id' l
theorem yazb (l : List Pt) : to3 (l.map row3) = l := by unfold to3; rw [List.map_map]; exact List.map_id' l
theorem ybba (l : List Int) : toT (textR l) = l := by
  unfold toT textR
  split
  · rename_i h; rw [h]; rfl
  · rfl
def stepR (k : Int) (rows : List (List Int)) (c : Int) (zs : List Int) : List (List Int) × Int × Int :=
  if k = 1 then ((dictS (to2 rows) c zs).1.map row2, (dictS (to2 rows) c zs).2)
  else if k = 2 then ((heapS (to1 rows) c zs).1.map row1, (heapS (to1 rows) c zs).2)
  else if k = 3 then ((seqS (to1 rows) c zs).1.map row1, (seqS (to1 rows) c zs).2)
  else if k = 4 then setsS rows c zs
  else if k = 5 then ((ptsS (to3 rows) c zs).1.map row3, (ptsS (to3 rows) c zs).2)
  else (textR (textS (toT rows) c zs).1, (textS (toT rows) c zs).2)
def PartR (rows : List (List Int)) : Prop := (∀ r ∈ rows, r ≠ [] ∧ r.Pairwise (· < ·)) ∧ (rows.map hdR).Pairwise (· < ·) ∧ rows.flatten.Perm ((List.range (tot rows)).map Int.ofNat) ∧ tot rows ≤ 500
abbrev PtV (x : Pt) : Prop := KeyP x.1 ∧ KeyP x.2.1 ∧ KeyP x.2.2
def OkR (k : Int) (rows : List (List Int)) : Prop :=
  (k = 1 ∧ ∃ l : List E, rows = l.map row2 ∧ Srt l ∧ KeysP l ∧ l.length ≤ 500) ∨
  (k = 2 ∧ ∃ l : List Int, rows = l.map row1 ∧ l.Pairwise (· ≤ ·) ∧ (∀ z ∈ l, KeyP z) ∧ l.length ≤ 500) ∨
  (k = 3 ∧ ∃ l : List Int, rows = l.map row1 ∧ (∀ z ∈ l, KeyP z) ∧ l.length ≤ 500) ∨
  (k = 4 ∧ PartR rows) ∨
  (k = 5 ∧ ∃ l : List Pt, rows = l.map row3 ∧ PtsS l ∧ (∀ z ∈ l, PtV z) ∧ l.length ≤ 500) ∨
  (k = 6 ∧ ∃ l : List Int, rows = textR l ∧ (∀ z ∈ l, ChP z) ∧ l.length ≤ 500)
theorem yafe {zs : List Int} (h : ∀ z ∈ zs, KeyP z) (i : Nat) : KeyP (zs.getD i 0) := yaxt h i
theorem yalo {α : Type} (l : List α) (i : Nat) : (cutL l i).Sublist l := by
  have h : (l.take i ++ l.drop (i + 1)).Sublist (l.take i ++ l.drop i) := by
    refine List.Sublist.append (List.Sublist.refl _) ?_
    rw [← List.drop_drop]
    exact List.drop_sublist _ _
  rwa [List.take_append_drop] at h
theorem yayh {α : Type} {l : List α} {a b : Nat} {z : α} (h : z ∈ revL l a b) : z ∈ l := by
  unfold revL at h
  rcases List.mem_append.1 h with h | h
  · exact List.mem_of_mem_take h
  · rcases List.mem_append.1 h with h | h
    · exact List.mem_of_mem_drop (List.mem_of_mem_take (List.mem_reverse.1 h))
    · exact List.mem_of_mem_drop h
theorem yawc {l : List E} {c : Int} {zs : List Int} (h : l.length ≤ 500) : (dictS l c zs).1.length ≤ 500 := by
  have hlen := congrArg List.length (yaed (xs := l) (key := zs.getD 0 0))
  rw [List.length_append] at hlen
  unfold dictS
  split
  · exact h
  split
  · split
    · rename_i hk
      have hu : 0 < (upS l (zs.getD 0 0)).length := by
        rcases hu : upS l (zs.getD 0 0) with _ | ⟨a, b⟩
        · rw [hu] at hk; exact absurd hk (by simp [yabr])
        · simp
      simp only [List.length_append, List.length_cons, List.length_tail]; omega
    · split
      · exact h
      · simp only [List.length_append, List.length_cons]; omega
  split
  · split <;> exact h
  split
  · split
    · simp only [List.length_append, List.length_tail]; omega
    · exact h
  split
  · split
    · exact h
    · split <;> exact h
  split
  · split <;> exact h
  split
  · exact h
  · split <;> exact h
theorem yaud {l : List Int} {c : Int} {zs : List Int} (so : l.Pairwise (· ≤ ·)) (hk : ∀ z ∈ l, KeyP z) (hl : l.length ≤ 500) (hz : ∀ z ∈ zs, KeyP z) : (heapS l c zs).1.Pairwise (· ≤ ·) ∧ (∀ z ∈ (heapS l c zs).1, KeyP z) ∧ (heapS l c zs).1.length ≤ 500 := by
  unfold heapS
  split
  · exact ⟨so, hk, hl⟩
  split
  · split
    · exact ⟨so, hk, hl⟩
    · have e := (List.takeWhile_append_dropWhile (p := fun z : Int => decide (z < zs.getD 0 0)) (l := l)).symm
      have hD := yaup (key := zs.getD 0 0) so
      have hT : ∀ x ∈ l.takeWhile (fun z => decide (z < zs.getD 0 0)), x < zs.getD 0 0 := fun x hx => of_decide_eq_true (List.all_eq_true.1 (List.all_takeWhile (p := fun z : Int => decide (z < zs.getD 0 0)) (l := l)) x hx)
      unfold insI
      generalize l.takeWhile (fun z => decide (z < zs.getD 0 0)) = T at *
      generalize l.dropWhile (fun z => decide (z < zs.getD 0 0)) = D at *
      subst e
      have so' := List.pairwise_append.1 so
      refine ⟨List.pairwise_append.2 ⟨so'.1, List.pairwise_cons.2 ⟨hD, so'.2.1⟩, fun a ha b hb => ?_⟩, fun z hz' => ?_, ?_⟩
      · rcases List.mem_cons.1 hb with rfl | hb
        · exact Int.le_of_lt (hT a ha)
        · exact so'.2.2 a ha b hb
      · rcases List.mem_append.1 hz' with h | h
        · exact hk z (List.mem_append_left _ h)
        · rcases List.mem_cons.1 h with rfl | h
          · exact yafe hz 0
          · exact hk z (List.mem_append_right _ h)
      · simp only [List.length_append, List.length_cons] at *; omega
  split
  · exact ⟨so, hk, hl⟩
  split
  · exact ⟨so.sublist (List.tail_sublist _), fun z hz => hk z (List.mem_of_mem_tail hz), by rw [List.length_tail]; omega⟩
  · exact ⟨so, hk, hl⟩
theorem yaxr {l : List Int} {c : Int} {zs : List Int} (hk : ∀ z ∈ l, KeyP z) (hl : l.length ≤ 500) (hz : ∀ z ∈ zs, KeyP z) : (∀ z ∈ (seqS l c zs).1, KeyP z) ∧ (seqS l c zs).1.length ≤ 500 := by
  unfold seqS
  split
  · exact ⟨hk, hl⟩
  split
  · split
    · exact ⟨hk, hl⟩
    · split
      · exact ⟨fun z hz => hk z (yayh hz), by rw [yaix (by omega) (by omega)]; exact hl⟩
      · exact ⟨hk, hl⟩
  split
  · split
    · exact ⟨hk, hl⟩
    · split
      · exact ⟨hk, hl⟩
      · refine ⟨fun z hz' => ?_, ?_⟩
        · rcases List.mem_append.1 hz' with h | h
          · exact hk z (List.mem_of_mem_take h)
          · rcases List.mem_cons.1 h with rfl | h
            · exact yafe hz 1
            · exact hk z (List.mem_of_mem_drop h)
        · simp only [List.length_append, List.length_cons, List.length_take, List.length_drop]; omega
  split
  · exact ⟨hk, hl⟩
  split
  · refine ⟨fun z hz' => ?_, ?_⟩
    · rcases List.mem_append.1 hz' with h | h
      · exact hk z (List.mem_of_mem_take h)
      · exact hk z (List.mem_of_mem_drop h)
    · simp only [List.length_append, List.length_take, List.length_drop]; omega
  split
  · refine ⟨fun z hz' => ?_, by rw [List.length_set]; exact hl⟩
    rcases List.mem_or_eq_of_mem_set hz' with h | h
    · exact hk z h
    · rw [h]; exact yafe hz 1
  · exact ⟨hk, hl⟩
theorem yayk {l : List Pt} {c : Int} {zs : List Int} (so : PtsS l) (hk : ∀ z ∈ l, PtV z) (hl : l.length ≤ 500) (hz : ∀ z ∈ zs, KeyP z) : PtsS (ptsS l c zs).1 ∧ (∀ z ∈ (ptsS l c zs).1, PtV z) ∧ (ptsS l c zs).1.length ≤ 500 := by
  unfold ptsS
  split
  · exact ⟨so, hk, hl⟩
  split
  · exact ⟨so, hk, hl⟩
  split
  · exact ⟨so, hk, hl⟩
  split
  · split
    · exact ⟨so, hk, hl⟩
    · rename_i hno
      split
      · exact ⟨so, hk, hl⟩
      · obtain ⟨f1, f2, f3⟩ := yawi so (zs.getD 0 0) (zs.getD 1 0)
        unfold yajs at hno
        generalize posP l (zs.getD 0 0) (zs.getD 1 0) = t at *
        have hsplit := List.take_append_drop t l
        refine ⟨?_, fun z hz' => ?_, ?_⟩
        · have so' : PtsS (l.take t ++ l.drop t) := by rw [hsplit]; exact so
          have so' := List.pairwise_append.1 so'
          have hlt : ∀ a ∈ l.take t, ptLt a (zs.getD 0 0, zs.getD 1 0, 0) := fun a ha => by
            obtain ⟨j, hj, e⟩ := List.mem_iff_getElem.1 ha
            rw [List.length_take] at hj
            have := f2 j (by omega)
            rw [yaac (by omega)] at this
            rw [List.getElem_take] at e
            rw [← e]; exact this
          have hgt : ∀ b ∈ l.drop t, ptLt (zs.getD 0 0, zs.getD 1 0, 0) b := fun b hb => by
            obtain ⟨j, hj, e⟩ := List.mem_iff_getElem.1 hb
            rw [List.length_drop] at hj
            rw [List.getElem_drop] at e
            have h1 := f3 (t + j) (by omega) (by omega)
            rw [yaac (by omega), e] at h1
            have h2 := f3 t (by omega) (by omega)
            rcases Nat.eq_zero_or_pos j with rfl | hjp
            · have h3 : l.getD t dPt = b := by rw [yaac (by omega)]; simpa using e
              rw [h3] at hno
              unfold ptLt at h1 ⊢
              dsimp only at h1 ⊢
              have : ¬ (b.1 = zs.getD 0 0 ∧ b.2.1 = zs.getD 1 0) := fun h => hno ⟨by omega, h.1, h.2⟩
              omega
            · have h3 := (List.pairwise_iff_getElem.1 so) t (t + j) (by omega) (by omega) (by omega)
              rw [e] at h3
              rw [yaac (by omega)] at h2
              unfold ptLt at h1 h2 h3 ⊢
              dsimp only at h1 h2 h3 ⊢
              omega
          refine List.pairwise_append.2 ⟨so'.1, List.pairwise_cons.2 ⟨fun b hb => hgt b hb, so'.2.1⟩, fun a ha b hb => ?_⟩
          rcases List.mem_cons.1 hb with rfl | hb
          · exact hlt a ha
          · exact so'.2.2 a ha b hb
        · rcases List.mem_append.1 hz' with h | h
          · exact hk z (List.mem_of_mem_take h)
          · rcases List.mem_cons.1 h with rfl | h
            · exact ⟨yafe hz 0, yafe hz 1, yafe hz 2⟩
            · exact hk z (List.mem_of_mem_drop h)
        · simp only [List.length_append, List.length_cons, List.length_take, List.length_drop]; omega
  · split
    · exact ⟨so.sublist (yalo _ _), fun z hz => hk z ((yalo _ _).mem hz), Nat.le_trans (yalo _ _).length_le hl⟩
    · exact ⟨so, hk, hl⟩
theorem yati {l : List Int} {c : Int} {zs : List Int} (hk : ∀ z ∈ l, ChP z) (hl : l.length ≤ 500) (hz : c = 1 → ∀ z ∈ zs, ChP z) : (∀ z ∈ (textS l c zs).1, ChP z) ∧ (textS l c zs).1.length ≤ 500 := by
  unfold textS
  split
  · exact ⟨hk, hl⟩
  split
  · rename_i h1
    split
    · exact ⟨hk, hl⟩
    · refine ⟨fun z hz' => ?_, by simp only [List.length_append]; omega⟩
      rcases List.mem_append.1 hz' with h | h
      · exact hk z h
      · exact hz h1 z h
  split
  · exact ⟨hk, hl⟩
  split <;> exact ⟨hk, hl⟩
theorem yapm {r : List Int} (h : r ≠ []) : hdR r ∈ r := yaal (List.length_pos_iff.2 h)
theorem yawt {r : List Int} (h : r.Pairwise (· ≤ ·)) : ∀ z ∈ r, hdR r ≤ z := by
  cases r with
  | nil => intro z hz; cases hz
  | cons a r =>
    intro z hz
    rcases List.mem_cons.1 hz with rfl | hz
    · exact Int.le_refl _
    · exact (List.pairwise_cons.1 h).1 z hz
theorem yajx (a b : List (List Int)) : tot (a ++ b) = tot a + tot b := by unfold tot; rw [List.map_append, List.sum_append]
theorem yaid (a : List Int) (b : List (List Int)) : tot (a :: b) = a.length + tot b := by unfold tot; rw [List.map_cons, List.sum_cons]
theorem yaxf (rows : List (List Int)) : rows.flatten.length = tot rows := List.length_flatten
theorem pw_lt {r : List Int} (h : r.Pairwise (· < ·)) : r.Pairwise (· ≤ ·) := h.imp fun h => Int.le_of_lt h
theorem yauc {rows : List (List Int)} (h : PartR rows) (hn : tot rows ≠ 500) : PartR (rows ++ [[(tot rows : Int)]]) := by
  obtain ⟨h1, h2, h3, h4⟩ := h
  have ht : tot (rows ++ [[(tot rows : Int)]]) = tot rows + 1 := by rw [yajx]; rfl
  refine ⟨fun r hr => ?_, ?_, ?_, by omega⟩
  · rcases List.mem_append.1 hr with hr | hr
    · exact h1 r hr
    · rw [List.mem_singleton.1 hr]; exact ⟨by simp, List.pairwise_singleton _ _⟩
  · rw [List.map_append]
    refine List.pairwise_append.2 ⟨h2, List.pairwise_singleton _ _, fun a ha b hb => ?_⟩
    obtain ⟨r, hr, rfl⟩ := List.mem_map.1 ha
    obtain rfl : b = (tot rows : Int) := List.mem_singleton.1 hb
    have hm : hdR r ∈ rows.flatten := List.mem_flatten.2 ⟨r, hr, yapm (h1 r hr).1⟩
    obtain ⟨i, hi, e⟩ := List.mem_map.1 (h3.mem_iff.1 hm)
    have := List.mem_range.1 hi
    have e : (i : Int) = hdR r := e
    omega
  · rw [ht, List.range_succ, List.map_append, List.flatten_append]
    exact h3.append (by simp)
theorem ybbg {rows : List (List Int)} {i j : Nat} (hij : i < j) (hj : j < rows.length) : ∃ A B C, rows = A ++ rows.getD i [] :: (B ++ rows.getD j [] :: C) ∧ A.length = i ∧ A.length + 1 + B.length = j := by
  refine ⟨rows.take i, (rows.drop (i + 1)).take (j - (i + 1)), rows.drop (j + 1), ?_, by rw [List.length_take]; omega, by rw [List.length_take, List.length_take, List.length_drop]; omega⟩
  have e1 : rows.drop j = rows.getD j [] :: rows.drop (j + 1) := by rw [List.drop_eq_getElem_cons hj, yaac hj]
  have e2 : rows.drop i = rows.getD i [] :: rows.drop (i + 1) := by rw [List.drop_eq_getElem_cons (by omega), yaac (by omega)]
  have e3 : rows.drop (i + 1) = (rows.drop (i + 1)).take (j - (i + 1)) ++ rows.drop j := by
    have := (List.take_append_drop (j - (i + 1)) (rows.drop (i + 1))).symm
    rwa [List.drop_drop, show i + 1 + (j - (i + 1)) = j by omega] at this
  rw [← e1, ← e3, ← e2, List.take_append_drop]
theorem yaxg {rows : List (List Int)} (h : PartR rows) {a b : Nat} (hab : a ≠ b) (ha : a < rows.length) (hb : b < rows.length) : PartR (uniR rows a b) ∧ tot (uniR rows a b) = tot rows := by
  obtain ⟨h1, h2, h3, h4⟩ := h
  unfold uniR
  have hmm : yabc (rows.getD a []) (rows.getD b []) = yabc (rows.getD (min a b) []) (rows.getD (max a b) []) := by
    rcases Nat.lt_or_ge a b with h | h
    · rw [show min a b = a by omega, show max a b = b by omega]
    · rw [show min a b = b by omega, show max a b = a by omega]
      have sa : (rows.getD a []).Pairwise (· ≤ ·) := pw_lt (h1 _ (yaal ha)).2
      have sb : (rows.getD b []).Pairwise (· ≤ ·) := pw_lt (h1 _ (yaal hb)).2
      exact yafw sb sa (yacc _ _ sa sb) ((yabj _ _).trans List.perm_append_comm)
  rw [hmm]
  obtain ⟨i, hi⟩ : ∃ i, min a b = i := ⟨_, rfl⟩
  obtain ⟨j, hj⟩ : ∃ j, max a b = j := ⟨_, rfl⟩
  rw [hi, hj]
  obtain ⟨A, B, C, e, l1, l2⟩ := ybbg (rows := rows) (i := i) (j := j) (by omega) (by omega)
  have hX := h1 _ (yaal (l := rows) (d := []) (i := i) (by omega))
  have hY := h1 _ (yaal (l := rows) (d := []) (i := j) (by omega))
  generalize rows.getD i [] = X at *
  generalize rows.getD j [] = Y at *
  have sM := yacc X Y (pw_lt hX.2) (pw_lt hY.2)
  have pM := yabj X Y
  have lM := yaps X Y
  generalize yabc X Y = M at *
  subst e
  have er : cutL ((A ++ X :: (B ++ Y :: C)).set i M) j = A ++ M :: (B ++ C) := by
    have e1 : (A ++ X :: (B ++ Y :: C)).set i M = (A ++ M :: B) ++ Y :: C := by
      subst l1
      rw [List.set_append_right _ _ (Nat.le_refl _), Nat.sub_self, List.set_cons_zero, List.append_assoc, List.cons_append]
    have hl : (A ++ M :: B).length = j := by rw [List.length_append, List.length_cons]; omega
    rw [e1]
    unfold cutL
    obtain ⟨t1, t2⟩ := yady (xs := (A ++ M :: B) ++ Y :: C) rfl
    rw [hl] at t1 t2
    rw [← List.drop_drop, t1, t2]
    simp
  rw [er]
  have ht : tot (A ++ M :: (B ++ C)) = tot (A ++ X :: (B ++ Y :: C)) := by
    rw [yajx, yajx, yaid, yaid, yajx, yajx, yaid]; omega
  have hp : (A ++ M :: (B ++ C)).flatten.Perm (A ++ X :: (B ++ Y :: C)).flatten := by
    rw [List.flatten_append, List.flatten_append, List.flatten_cons, List.flatten_cons, List.flatten_append, List.flatten_append, List.flatten_cons]
    refine List.Perm.append_left _ ?_
    refine (pM.append_right _).trans ?_
    rw [List.append_assoc]
    refine List.Perm.append_left _ ?_
    rw [← List.append_assoc, ← List.append_assoc]
    exact List.perm_append_comm.append_right _
  have hnd : (A ++ M :: (B ++ C)).flatten.Nodup := (hp.trans h3).nodup_iff.2 (by
    rw [List.nodup_iff_pairwise_ne, List.pairwise_map]
    exact List.nodup_range.imp fun {a b} h e => h (by have : (a : Int) = b := e; omega))
  have hMs : M.Pairwise (· < ·) := by
    have hMn : M.Nodup := by
      rw [List.flatten_append, List.flatten_cons] at hnd
      exact ((List.nodup_append.1 hnd).2.1 |> fun h => (List.nodup_append.1 h).1)
    have := List.pairwise_and_iff.2 ⟨sM, List.nodup_iff_pairwise_ne.1 hMn⟩
    exact this.imp fun {a b} h => by omega
  have hM0 : M ≠ [] := fun h => by
    rw [h] at lM
    have := List.length_pos_iff.2 hX.1
    simp at lM; omega
  have hhd : hdR M = hdR X := by
    rw [List.map_append, List.map_cons, List.map_append, List.map_cons] at h2
    have hXY : hdR X < hdR Y := by
      have := (List.pairwise_append.1 h2).2.1
      exact (List.pairwise_cons.1 this).1 _ (by simp)
    have hlo : ∀ z ∈ X ++ Y, hdR X ≤ z := fun z hz => by
      rcases List.mem_append.1 hz with hz | hz
      · exact yawt (pw_lt hX.2) z hz
      · have := yawt (pw_lt hY.2) z hz; omega
    have g1 := hlo _ (pM.mem_iff.1 (yapm hM0))
    have g2 := yawt sM _ (pM.mem_iff.2 (List.mem_append_left _ (yapm hX.1)))
    omega
  refine ⟨⟨fun r hr => ?_, ?_, ?_, by omega⟩, ht⟩
  · rcases List.mem_append.1 hr with hr | hr
    · exact h1 r (by simp [hr])
    · rcases List.mem_cons.1 hr with rfl | hr
      · exact ⟨hM0, hMs⟩
      · rcases List.mem_append.1 hr with hr | hr
        · exact h1 r (by simp [hr])
        · exact h1 r (by simp [hr])
  · refine h2.sublist ?_
    rw [List.map_append, List.map_cons, List.map_append, hhd, List.map_append, List.map_cons, List.map_append, List.map_cons]
    exact List.Sublist.append (List.Sublist.refl _) (List.Sublist.cons_cons _ (List.Sublist.append (List.Sublist.refl _) (List.sublist_cons_self _ _)))
  · rw [ht]; exact hp.trans h3
theorem yatr {l : List (List Int)} {c : Int} {zs : List Int} (h : PartR l) : PartR (setsS l c zs).1 := by
  unfold setsS
  split
  · split
    · exact h
    · exact yauc h ‹_›
  split
  · exact h
  split
  · split <;> exact h
  split
  · exact h
  split
  · exact h
  split
  · exact h
  · rename_i hn _ hne
    have ha : ¬ clsZ l (zs.getD 0 0) < 0 := fun h => hn (Or.inl h)
    have hb : ¬ clsZ l (zs.getD 1 0) < 0 := fun h => hn (Or.inr h)
    exact (yaxg h hne (yado ha).2 (yado hb).2).1
theorem yarm {k : Int} {rows : List (List Int)} {c : Int} {zs : List Int} (h : OkR k rows) (hv : OpV k c zs) : OkR k (stepR k rows c zs).1 := by
  unfold stepR
  rcases h with ⟨rfl, l, rfl, h1, h2, h3⟩ | ⟨rfl, l, rfl, h1, h2, h3⟩ | ⟨rfl, l, rfl, h2, h3⟩ | ⟨rfl, h⟩ | ⟨rfl, l, rfl, h1, h2, h3⟩ | ⟨rfl, l, rfl, h2, h3⟩
  · rw [if_pos rfl, yazs]
    exact Or.inl ⟨rfl, _, rfl, (yaqa h1).1, yarh h2 hv, yawc h3⟩
  · rw [if_neg (by decide), if_pos rfl, yatq]
    have := yaud (c := c) h1 h2 h3 (opv2 hv).2.2
    exact Or.inr (Or.inl ⟨rfl, _, rfl, this.1, this.2.1, this.2.2⟩)
  · rw [if_neg (by decide), if_neg (by decide), if_pos rfl, yatq]
    have := yaxr (c := c) h2 h3 (opv3 hv).2.2.2
    exact Or.inr (Or.inr (Or.inl ⟨rfl, _, rfl, this.1, this.2⟩))
  · rw [if_neg (by decide), if_neg (by decide), if_neg (by decide), if_pos rfl]
    exact Or.inr (Or.inr (Or.inr (Or.inl ⟨rfl, yatr h⟩)))
  · rw [if_neg (by decide), if_neg (by decide), if_neg (by decide), if_neg (by decide), if_pos rfl, yazb]
    have := yayk (c := c) h1 h2 h3 (opv5 hv).2.2.2.2
    exact Or.inr (Or.inr (Or.inr (Or.inr (Or.inl ⟨rfl, _, rfl, this.1, this.2.1, this.2.2⟩))))
  · rw [if_neg (by decide), if_neg (by decide), if_neg (by decide), if_neg (by decide), if_neg (by decide), ybba]
    have := yati (c := c) h2 h3 (fun h => (opv6 hv).2.2.2 (by omega))
    exact Or.inr (Or.inr (Or.inr (Or.inr (Or.inr ⟨rfl, _, rfl, this.1, this.2⟩))))
def RowsR (h : Hp) (p : OA) (n : Nat) (rows : List (List Int)) : Prop := rows.length = n ∧ ∃ hs : List SH, RdT TR h p n hs ∧ ∀ i, i < n → RdT TI h (hs.getD i TR.d).1 (hs.getD i TR.d).2.1 (rows.getD i []) ∧ (hs.getD i TR.d).2.1 ≤ (hs.getD i TR.d).2.2
section
variable {h0 h h' : Hp} {p : OA} {n c : Nat} {rows : List (List Int)} {B G : Bag}
theorem RowsR.len (r : RowsR h p n rows) : rows.length = n := r.1
theorem RowsR.ext (r : RowsR h p n rows) (x : Ext h h') : RowsR h' p n rows := ⟨r.1, let ⟨hs, r1, r2⟩ := r.2; ⟨hs, r1.ext x, fun i hi => ⟨(r2 i hi).1.ext x, (r2 i hi).2⟩⟩⟩
theorem AllH.pickR : ∀ {hs : List SH} {xs : List (List Int)} {A F : Bag}, AllH RowP hs xs A → St h0 h (A + F) → ∀ i, i < hs.length → RdT TI h (hs.getD i TR.d).1 (hs.getD i TR.d).2.1 (xs.getD i []) ∧ (hs.getD i TR.d).2.1 ≤ (hs.getD i TR.d).2.2
  | [], _, _, _, _, _, i, hi => by simp at hi
  | _ :: _, [], _, _, h, _, _, _ => h.elim
  | b :: bs, t :: ts, A, F, ⟨A1, A2, e, h1, h2⟩, s, i, hi => by
    subst e
    cases i with
    | zero => exact ⟨Sl.rd (F := A2 + F) h1 s.to, Sl.cap h1⟩
    | succ i => exact AllH.pickR (F := A1 + F) h2 s.to i (by simpa using hi)
theorem yakx (na : RowsA (p, n, c) rows B) (s : St h0 h (B + G)) : RowsR h p n rows := by
  have hl : rows.length = n := yaav na
  obtain ⟨hs, B0, B1, rfl, h1, h2⟩ := na
  have hsl : hs.length = n := h1.len
  exact ⟨hl, hs, h1.rd (s.at B0), fun i hi => AllH.pickR (F := B0 + G) h2 s.to i (by omega)⟩
theorem RowsR.hdr {i : Int} {i' : Nat} {Q : OA → Nat → Nat → Prop} (r : RowsR h p n rows) (ei : i = (i' : Int)) (hi : i' < n)
    (hq : ∀ q d, RdT TI h q (rows.getD i' []).length (rows.getD i' []) → (rows.getD i' []).length ≤ d → Q q (rows.getD i' []).length d) : (0 ≤ i ∧ i < (n : Int)) ∧ NN p fun a => ∃ q l d, cell h (a.add (i.toNat * 1)) = some (.slice q l d) ∧ Q q l d := by
  subst ei
  refine ⟨⟨by omega, by omega⟩, ?_⟩
  obtain ⟨_, hs, r1, r2⟩ := r
  obtain ⟨ad, hp, hc⟩ := r1.at_ (i := i') hi
  obtain ⟨r3, r4⟩ := r2 i' hi
  have hl := r3.len
  refine yaap hp ⟨(hs.getD i' TR.d).1, (hs.getD i' TR.d).2.1, (hs.getD i' TR.d).2.2, by simpa [yach] using hc 0 (by decide), ?_⟩
  rw [← hl] at r3 r4 ⊢
  exact hq _ _ r3 r4
theorem RowsR.get {i j : Int} {i' j' : Nat} {Q : Int → Prop} (r : RowsR h p n rows) (ei : i = (i' : Int)) (hi : i' < n) (ej : j = (j' : Int)) (hj : j' < (rows.getD i' []).length) (hq : Q ((rows.getD i' []).getD j' 0)) :
    (0 ≤ i ∧ i < (n : Int)) ∧ NN p fun a => ∃ a8 L5 C5, cell h (a.add (i.toNat * 1)) = some (.slice a8 L5 C5) ∧ (0 ≤ j ∧ j < (L5 : Int)) ∧ NN a8 fun a9 => ∃ n4, cell h (a9.add (j.toNat * 1)) = some (.int .i64 n4) ∧ Q n4 :=
  r.hdr ei hi fun _ _ rr _ => ldI rr ej hj hq
theorem yarq (r : RowsR h p n rows) (hn : n ≤ 1000) (hr : ∀ r ∈ rows, r.length ≤ 1000) :
    yaae Tryz.prog 58 #[.slice p n c] h (fun v h' => ∃ q d B', v = .slice q n d ∧ RowsA (q, n, d) rows B' ∧ St h h' B') := by
  have hl := r.len
  refine zbm_call ?_
  rw [zbm_b0]
  refine ⟨fun x h1 => ∃ (i : Nat) (B' : Bag), x.2.1 = i ∧ i ≤ n ∧ RowsA (x.1.1, x.1.2.1, x.1.2.2) (rows.take i) B' ∧ St h h1 B', fun x _ => n - x.2.1.toNat, ⟨0, 0, rfl, by omega, Nest.nil, St.start h⟩, ?_⟩
  rintro ⟨⟨q, m, d⟩, _, _⟩ h1 ⟨i, B', rfl, hin, na', s'⟩
  dsimp only at na' ⊢
  have hm := yaav na'
  rw [List.length_take] at hm
  dsimp only at hm
  rw [zbm_b1]
  refine condP (fun hlt => ?_) (fun hlt => ?_)
  · refine (r.ext s'.ext).hdr rfl (by omega) fun a L rr _ => ?_
    have hg : rows.getD i [] = rows[i] := by simp [List.getD, show i < rows.length by omega]
    have hlr := hr _ (List.getElem_mem (show i < rows.length by omega))
    rw [← hg] at hlr
    refine (yaeu rr (by omega)).mono fun v h2 ⟨q2, d2, A2, hv, o2, t2⟩ => ⟨_, _, _, hv, ?_⟩
    have s2 := s'.join t2
    refine yagu (G := 0) (s2.to (B := B' + (A2 + 0))) na' o2 rfl (by show m + 1 < _; omega) fun q3 d3 h3 B3 na3 s3 => ?_
    rw [zbm_b2]
    have e : rows.take i ++ [rows.getD i []] = rows.take (i + 1) := by rw [hg, List.take_succ_eq_append_getElem (by omega)]
    rw [e] at na3
    exact ⟨⟨by omega, by omega⟩, ⟨i + 1, B3, by push_cast; rfl, by omega, na3, by have := s3; rwa [Bag.add_zero] at this⟩, by simp only; omega⟩
  · obtain rfl : i = n := by omega
    rw [zbm_b3]
    rw [← hl, List.take_length] at na'
    obtain rfl : m = i := by omega
    exact ⟨q, d, B', rfl, na', s'⟩
theorem yaws {k : Int} (r : RowsR h p n rows) (hn : n ≤ 1000) (hr : ∀ r ∈ rows, r.length ≤ 1000) :
    yaae Tryz.prog 72 #[.agg #[.int .i64 k, .slice p n c]] h (fun v h' => ∃ q d B', v = .agg #[.int .i64 k, .slice q n d] ∧ RowsA (q, n, d) rows B' ∧ St h h' B') := by
  have hrl := r.len
  refine zcf_call ?_
  rw [zcf_b0]
  have s0 : St h h (0 + 0) := by rw [Bag.add_zero]; exact St.start h
  refine s0.new (cs := [.int .i64 k, .slice p n c]) fun b1 h1 _ s => ?_
  refine s.new (cs := [.int .i64 0, .slice none 0 0]) fun b2 h2 _ s => ?_
  refine ⟨_, s.ld0, ?_⟩
  refine s.new (cs := [.int .i64 0, .slice none 0 0]) fun b3 h3 _ s => ?_
  refine s.wr rfl (by simp) fun h4 s => ?_
  refine s.wr (o := 1) (yabd _ _ _) (by simp) fun h5 s => ?_
  have s5 : St h h5 (cA b3 [.int .i64 k, .slice none 0 0] 24 + (cA b2 [.int .i64 0, .slice none 0 0] 24 + (cA b1 [.int .i64 k, .slice p n c] 24 + (0 + 0)))) := s
  refine ⟨fun x h' => ∃ (i : Nat) (q : OA) (d : Nat) (B' : Bag), x.1 = i ∧ i ≤ n ∧ RowsA (q, i, d) (rows.take i) B' ∧ St h h' (cA b3 [.int .i64 k, .slice q i d] 24 + (B' + (cA b2 [.int .i64 0, .slice none 0 0] 24 + (cA b1 [.int .i64 k, .slice p n c] 24 + (0 + 0))))), fun x _ => n - x.1.toNat, ⟨0, none, 0, 0, rfl, by omega, Nest.nil, s5.to⟩, ?_⟩
  rintro ⟨_, _⟩ h6 ⟨i, q, d, B', rfl, hin, nb, s6⟩
  dsimp only
  rw [zcf_b1]
  refine ⟨_, _, _, s6.ldB, condP (fun hlt => ?_) (fun hge => ?_)⟩
  · refine ⟨_, _, _, s6.ldB, _, _, _, s6.ldB, (r.ext s6.ext).hdr rfl (by omega) fun q1 d1 rr _ => ?_⟩
    have hil : i < rows.length := by omega
    have hg : rows.getD i [] = rows[i] := by simp [List.getD, hil]
    have hsm := hr _ (List.getElem_mem hil)
    rw [← hg] at hsm
    refine (yaxn rr (by omega)).mono fun v1 h7 ⟨q2, d2, A2, hv1, o2, t7⟩ => ⟨_, _, _, hv1, ?_⟩
    have s7 := s6.join t7
    have kb3 := (s7.at (cA b3 [.int .i64 k, .slice q i d] 24)).blk
    refine ⟨⟨_, _, _, Blk.cellA kb3 1, rfl⟩, ?_⟩
    have s7 := s7.to (B := B' + (A2 + (cA b3 [.int .i64 k, .slice q i d] 24 + (cA b2 [.int .i64 0, .slice none 0 0] 24 + (cA b1 [.int .i64 k, .slice p n c] 24 + (0 + 0))))))
    refine yaqz s7 nb o2 rfl (by omega) (fun h8 x8 => ⟨_, _, _, Blk.cellA (kb3.ext x8) 1, rfl⟩) fun q3 d3 h9 B3 nb3 s9 => ?_
    have s9 := s9.to (B := cA b3 [.int .i64 k, .slice q i d] 24 + (B3 + (cA b2 [.int .i64 0, .slice none 0 0] 24 + (cA b1 [.int .i64 k, .slice p n c] 24 + (0 + 0)))))
    refine s9.wr (o := 1) (yabd _ _ _) (by simp) fun h10 s10 => ?_
    rw [zcf_b2]
    refine ⟨⟨by omega, by omega⟩, ⟨i + 1, q3, d3, B3, by simp only; omega, by omega, ?_, s10⟩, by simp only; omega⟩
    rw [List.take_succ_eq_append_getElem hil, ← hg]
    exact nb3
  · obtain rfl : n = i := by omega
    rw [zcf_b3]
    refine ⟨_, _, _, _, s6.ld0, s6.ldB, ?_⟩
    have s6 := s6.to (B := cA b2 [.int .i64 0, .slice none 0 0] 24 + (B' + (cA b3 [.int .i64 k, .slice q n d] 24 + (cA b1 [.int .i64 k, .slice p n c] 24 + (0 + 0)))))
    refine s6.wr rfl (by simp) fun h7 s7 => ?_
    refine s7.wr (o := 1) (yabd _ _ _) (by simp) fun h8 s8 => ?_
    refine ⟨_, _, _, _, s8.blk.cell 0, Blk.cellA s8.blk 1, _, _, B', rfl, ?_, ?_⟩
    · rw [List.take_of_length_le (by omega)] at nb; exact nb
    · have s8 : St h h8 (cA b2 [.int .i64 k, .slice q n d] 24 + (B' + (cA b3 [.int .i64 k, .slice q n d] 24 + (cA b1 [.int .i64 k, .slice p n c] 24 + (0 + 0))))) := s8
      have s9 := (s8.to (B := (cA b2 [.int .i64 k, .slice q n d] 24 + cA b3 [.int .i64 k, .slice q n d] 24 + cA b1 [.int .i64 k, .slice p n c] 24) + (B' + (0 + 0)))).drop
      rw [Bag.add_zero, Bag.add_zero] at s9
      exact s9
end
theorem yaqc {rows : List (List Int)} (h : ∀ r ∈ rows, r ≠ []) : rows.length ≤ tot rows := by
  induction rows with
  | nil => exact Nat.zero_le _
  | cons a rows ih =>
    have h1 := List.length_pos_iff.2 (h a List.mem_cons_self)
    have h2 := ih fun r hr => h r (List.mem_cons_of_mem _ hr)
    rw [yaid, List.length_cons]; omega
theorem yadv {k : Int} {rows : List (List Int)} (h : OkR k rows) : rows.length ≤ 500 ∧ ∀ r ∈ rows, r.length ≤ 500 := by
  have mp : ∀ {α : Type} {l : List α} {f : α → List Int} {m : Nat}, (∀ x, (f x).length = m) → m ≤ 500 → ∀ r ∈ l.map f, r.length ≤ 500 := fun hf hm r hr => by
    obtain ⟨x, _, rfl⟩ := List.mem_map.1 hr
    rw [hf]; exact hm
  rcases h with ⟨rfl, l, rfl, h1, h2, h3⟩ | ⟨rfl, l, rfl, h1, h2, h3⟩ | ⟨rfl, l, rfl, h2, h3⟩ | ⟨rfl, h⟩ | ⟨rfl, l, rfl, h1, h2, h3⟩ | ⟨rfl, l, rfl, h2, h3⟩
  · exact ⟨by rw [List.length_map]; exact h3, mp (m := 2) (fun _ => rfl) (by omega)⟩
  · exact ⟨by rw [List.length_map]; exact h3, mp (m := 1) (fun _ => rfl) (by omega)⟩
  · exact ⟨by rw [List.length_map]; exact h3, mp (m := 1) (fun _ => rfl) (by omega)⟩
  · have := yaqc fun r hr => (h.1 r hr).1
    refine ⟨by have := h.2.2.2; omega, fun r hr => ?_⟩
    obtain ⟨i, hi, e⟩ := List.mem_iff_getElem.1 hr
    have := yagf h.2.2.2 i
    rwa [yaac hi, e] at this
  · exact ⟨by rw [List.length_map]; exact h3, mp (m := 3) (fun _ => rfl) (by omega)⟩
  · unfold textR
    split
    · exact ⟨Nat.zero_le _, fun r hr => by cases hr⟩
    · exact ⟨by simp, fun r hr => by rw [List.mem_singleton.1 hr]; exact h3⟩
theorem ybae {l : List E} {c : Int} {zs : List Int} : stepR 1 (l.map row2) c zs = ((dictS l c zs).1.map row2, (dictS l c zs).2) := by unfold stepR; rw [if_pos rfl, yazs]
theorem yazn {l : List Int} {c : Int} {zs : List Int} : stepR 2 (l.map row1) c zs = ((heapS l c zs).1.map row1, (heapS l c zs).2) := by unfold stepR; rw [if_neg (by decide), if_pos rfl, yatq]
theorem ybag {l : List Int} {c : Int} {zs : List Int} : stepR 3 (l.map row1) c zs = ((seqS l c zs).1.map row1, (seqS l c zs).2) := by unfold stepR; rw [if_neg (by decide), if_neg (by decide), if_pos rfl, yatq]
theorem ybad {l : List (List Int)} {c : Int} {zs : List Int} : stepR 4 l c zs = setsS l c zs := by unfold stepR; rw [if_neg (by decide), if_neg (by decide), if_neg (by decide), if_pos rfl]
theorem yayu {l : List Pt} {c : Int} {zs : List Int} : stepR 5 (l.map row3) c zs = ((ptsS l c zs).1.map row3, (ptsS l c zs).2) := by unfold stepR; rw [if_neg (by decide), if_neg (by decide), if_neg (by decide), if_neg (by decide), if_pos rfl, yazb]
theorem yayy {l : List Int} {c : Int} {zs : List Int} : stepR 6 (textR l) c zs = (textR (textS l c zs).1, (textS l c zs).2) := by unfold stepR; rw [if_neg (by decide), if_neg (by decide), if_neg (by decide), if_neg (by decide), if_neg (by decide), ybba]
abbrev MRunP (h0 : Hp) (G : Bag) (k : Int) (rows : List (List Int)) (c : Int) (zs : List Int) : VK := yafk h0 G (stepR k rows c zs).1 (stepR k rows c zs).2.1 (stepR k rows c zs).2.2
abbrev RunP (h0 : Hp) (G : Bag) (k : Int) (rows : List (List Int)) (c : Int) (zs : List Int) : VK := StepP h0 G k (stepR k rows c zs).1 (stepR k rows c zs).2.1 (stepR k rows c zs).2.2
section
variable {h0 h : Hp} {k : Int} {rows : List (List Int)} {p q : OA} {n c m cc : Nat} {code : Int} {zs : List Int} {B G : Bag}
theorem yawa (ok : OkR k rows) (hv : OpV k code zs) (na : RowsA (p, n, c) rows B) (rz : RdS h0 G TI q m zs) (hmc : m ≤ cc) (hm : m ≤ 100) (s : St h0 h (B + G)) :
    yaae Tryz.prog 59 #[.int .i64 k, .slice p n c, .agg #[.int .i64 code, .slice q m cc]] h (MRunP h0 G k rows code zs) := by
  have hl : rows.length = n := yaav na
  have hcn : n ≤ c := by
    obtain ⟨hs, B0, B1, rfl, h1, h2⟩ := na
    exact h1.cap
  have hsm := yadv ok
  refine zbi_call ?_
  rw [zbi_b0]
  refine s.new (cs := [.int .i64 code, .slice q m cc]) fun b1 h1' _ s1 => ?_
  refine s1.new (cs := [.int .i64 0, .int .i64 0, .slice none 0 0]) fun b2 h2 _ s2 => ?_
  have s2 : St h0 h2 (cA b2 [.int .i64 0, .int .i64 0, .slice none 0 0] 58 + (cA b1 [.int .i64 code, .slice q m cc] 50 + (B + G))) := s2
  have kb1 := s2.atomBlk
  have sB : St h0 h2 (B + (cA b2 [.int .i64 0, .int .i64 0, .slice none 0 0] 58 + (cA b1 [.int .i64 code, .slice q m cc] 50 + G))) := s2.to
  have rz' : RdS h0 (cA b2 [.int .i64 0, .int .i64 0, .slice none 0 0] 58 + (cA b1 [.int .i64 code, .slice q m cc] 50 + G)) TI q m zs := fun h' A s' => rz h' (A + (cA b2 [.int .i64 0, .int .i64 0, .slice none 0 0] 58 + cA b1 [.int .i64 code, .slice q m cc] 50)) s'.to
  have key : ∀ {g : Nat}, yaae Tryz.prog g #[.slice p n c, .agg #[.int .i64 code, .slice q m cc]] h2 (MRunP h0 (cA b2 [.int .i64 0, .int .i64 0, .slice none 0 0] 58 + (cA b1 [.int .i64 code, .slice q m cc] 50 + G)) k rows code zs) →
      ∃ n5 : Int, ∃ a5 L5 C5, cell h2 ⟨b1, 0, none⟩ = some (.int .i64 n5) ∧ cell h2 ((⟨b1, 0, none⟩ : Addr).add 1) = some (.slice a5 L5 C5) ∧
      yaae Tryz.prog g #[.slice p n c, .agg #[.int .i64 n5, .slice a5 L5 C5]] h2 fun v5 h19 => ∃ (r29 : OA) (rL13 rC13 : Nat), ∃ r30 : Int, ∃ r31 : Int, ∃ (r32 : OA) (rL14 rC14 : Nat), v5 = .tuple #[.slice r29 rL13 rC13, .agg #[.int .i64 r30, .int .i64 r31, .slice r32 rL14 rC14]] ∧
      Wr h19 ⟨b2, 0, none⟩ (.int .i64 r30) fun h20 => Wr h20 ((⟨b2, 0, none⟩ : Addr).add 1) (.int .i64 r31) fun h21 => Wr h21 ((⟨b2, 0, none⟩ : Addr).add 2) (.slice r32 rL14 rC14) fun h22 =>
      ∃ r33 : Int, ∃ r34 : Int, ∃ r35 rL15 rC15, cell h22 ⟨b2, 0, none⟩ = some (.int .i64 r33) ∧ cell h22 ((⟨b2, 0, none⟩ : Addr).add 1) = some (.int .i64 r34) ∧ cell h22 ((⟨b2, 0, none⟩ : Addr).add 2) = some (.slice r35 rL15 rC15) ∧
      MRunP h0 G k rows code zs (.tuple #[.slice r29 rL13 rC13, .agg #[.int .i64 r33, .int .i64 r34, .slice r35 rL15 rC15]]) h22 := fun hc => by
    refine ⟨_, _, _, _, kb1.cell 0, Blk.cellA kb1 1, hc.mono fun v h3 ⟨q', m', d', B', hv, na', s3⟩ => ⟨_, _, _, _, _, _, _, _, hv, ?_⟩⟩
    have s3 := s3.to (B := cA b2 [.int .i64 0, .int .i64 0, .slice none 0 0] 58 + (cA b1 [.int .i64 code, .slice q m cc] 50 + (B' + G)))
    exact mboxW na' s3
  rcases ok with ⟨rfl, l, rfl, o1, o2, o3⟩ | ⟨rfl, l, rfl, o1, o2, o3⟩ | ⟨rfl, l, rfl, o2, o3⟩ | ⟨rfl, o⟩ | ⟨rfl, l, rfl, o1, o2, o3⟩ | ⟨rfl, l, rfl, o2, o3⟩
  · refine yaaw rfl (key ?_)
    rw [MRunP, ybae]
    obtain ⟨hc, hz1, _, _⟩ := opv1 hv
    exact yaxc o1 na rz' hmc sB (by omega) hc hz1 (opv1e hv)
  · refine yaat rfl (yaaw rfl (key ?_))
    rw [MRunP, yazn]
    obtain ⟨hc, hz1, _⟩ := opv2 hv
    exact yaxp o1 na rz' hmc sB (by omega) hc hz1
  · refine yaat rfl (yaat rfl (yaaw rfl (key ?_)))
    rw [MRunP, ybag]
    obtain ⟨hc, hz1, hz2, _⟩ := opv3 hv
    exact yaze o2 na rz' hmc sB (by omega) hcn hc hz1 hz2
  · refine yaat rfl (yaat rfl (yaat rfl (yaaw rfl (key ?_))))
    rw [MRunP, ybad]
    obtain ⟨hc, hz1, hz2⟩ := opv4 hv
    exact yayb (fun r hr => pw_lt (o.1 r hr).2) na rz' sB (by omega) o.2.2.2 hc hz1 hz2
  · refine yaat rfl (yaat rfl (yaat rfl (yaat rfl (yaaw rfl (key ?_)))))
    rw [MRunP, yayu]
    obtain ⟨hc, hz1, hz2, hz4, _⟩ := opv5 hv
    exact yasn o1 (fun x hx => (o2 x hx).2.2) na rz' hmc sB (by omega) hc hz1 hz2 hz4
  · refine yaat rfl (yaat rfl (yaat rfl (yaat rfl (yaat rfl ?_))))
    obtain ⟨hc, hz1, _, _⟩ := opv6 hv
    have r := key (g := 97) (by rw [MRunP, yayy]; exact yawx na rz' sB o3 hm hz1 hc)
    rw [zbi_b1]
    exact r
theorem ybaq (ok : OkR k rows) (hv : OpV k code zs) (r : RowsR h p n rows) (rz : RdT TI h q m zs) (hm : m ≤ 100) :
    yaae Tryz.prog 41 #[.agg #[.int .i64 k, .slice p n c], .agg #[.int .i64 code, .slice q m cc]] h (RunP h 0 k rows code zs) := by
  have hl := r.len
  have hsm := yadv ok
  refine zcj_call ?_
  rw [zcj_b0]
  refine (St.start h).new (cs := [.int .i64 k, .slice p n c]) fun b1 h3 _ s => s.new (cs := [_, _]) fun b2 h4 _ s => s.new (cs := [_, _]) fun b3 h5 _ s => s.new (cs := [_, _, _]) fun b4 h6 _ s => ?_
  refine ⟨_, _, _, _, s.ld0, s.ldB, ?_⟩
  refine (yaws (r.ext s.ext) (by omega) (fun r hr => by have := hsm.2 r hr; omega)).mono fun v1 h7 ⟨p', c', B', hv1, na', t7⟩ => ⟨_, _, _, _, hv1, ?_⟩
  have s := s.join t7
  have s7 : St h h7 (cA b1 [.int .i64 k, .slice p n c] 24 + (cA b2 [.int .i64 code, .slice q m cc] 50 + (cA b3 [.int .i64 0, .slice none 0 0] 24 + (cA b4 [.int .i64 0, .int .i64 0, .slice none 0 0] 58 + (B' + 0))))) := by
    have s := s.to (B := 0 + (cA b1 [.int .i64 k, .slice p n c] 24 + (cA b2 [.int .i64 code, .slice q m cc] 50 + (cA b3 [.int .i64 0, .slice none 0 0] 24 + (cA b4 [.int .i64 0, .int .i64 0, .slice none 0 0] 58 + B')))))
    rw [Bag.zero_add] at s
    rw [Bag.add_zero]
    exact s
  refine s7.wr rfl (by simp) fun h8 s8 => ?_
  refine s8.wr (o := 1) (yabd _ _ _) (by simp) fun h9 s9 => ?_
  have s9 : St h h9 (cA b1 [.int .i64 k, .slice p' n c'] 24 + (cA b2 [.int .i64 code, .slice q m cc] 50 + (cA b3 [.int .i64 0, .slice none 0 0] 24 + (cA b4 [.int .i64 0, .int .i64 0, .slice none 0 0] 58 + (B' + 0))))) := s9
  have kb1 := s9.blk
  have kb2 := s9.atomBlk
  have s10 := s9.to (B := B' + ((cA b1 [.int .i64 k, .slice p' n c'] 24 + (cA b2 [.int .i64 code, .slice q m cc] 50 + (cA b3 [.int .i64 0, .slice none 0 0] 24 + cA b4 [.int .i64 0, .int .i64 0, .slice none 0 0] 58))) + 0))
  have rz' : RdS h ((cA b1 [.int .i64 k, .slice p' n c'] 24 + (cA b2 [.int .i64 code, .slice q m cc] 50 + (cA b3 [.int .i64 0, .slice none 0 0] 24 + cA b4 [.int .i64 0, .int .i64 0, .slice none 0 0] 58))) + 0) TI q m zs := fun h' A s' => rz.ext s'.ext
  have key : ∀ {g : Nat}, yaae Tryz.prog g #[.agg #[.int .i64 k, .slice p' n c'], .agg #[.int .i64 code, .slice q m cc]] h9 (RunP h ((cA b1 [.int .i64 k, .slice p' n c'] 24 + (cA b2 [.int .i64 code, .slice q m cc] 50 + (cA b3 [.int .i64 0, .slice none 0 0] 24 + cA b4 [.int .i64 0, .int .i64 0, .slice none 0 0] 58))) + 0) k rows code zs) →
      ∃ n3 : Int, ∃ a2 L2 C2, cell h9 ⟨b1, 0, none⟩ = some (.int .i64 n3) ∧ cell h9 ((⟨b1, 0, none⟩ : Addr).add 1) = some (.slice a2 L2 C2) ∧
      ∃ n4 : Int, ∃ a3 L3 C3, cell h9 ⟨b2, 0, none⟩ = some (.int .i64 n4) ∧ cell h9 ((⟨b2, 0, none⟩ : Addr).add 1) = some (.slice a3 L3 C3) ∧
      yaae Tryz.prog g #[.agg #[.int .i64 n3, .slice a2 L2 C2], .agg #[.int .i64 n4, .slice a3 L3 C3]] h9 fun v2 h8 => ∃ r3 : Int, ∃ (r4 : OA) (rL2 rC2 : Nat), ∃ r5 : Int, ∃ r6 : Int, ∃ (r7 : OA) (rL3 rC3 : Nat), v2 = .tuple #[.agg #[.int .i64 r3, .slice r4 rL2 rC2], .agg #[.int .i64 r5, .int .i64 r6, .slice r7 rL3 rC3]] ∧
      Wr h8 ⟨b3, 0, none⟩ (.int .i64 r3) fun h9 => Wr h9 ((⟨b3, 0, none⟩ : Addr).add 1) (.slice r4 rL2 rC2) fun h10 => Wr h10 ⟨b4, 0, none⟩ (.int .i64 r5) fun h11 => Wr h11 ((⟨b4, 0, none⟩ : Addr).add 1) (.int .i64 r6) fun h12 => Wr h12 ((⟨b4, 0, none⟩ : Addr).add 2) (.slice r7 rL3 rC3) fun h13 =>
      ∃ r8 : Int, ∃ r9 rL4 rC4, cell h13 ⟨b3, 0, none⟩ = some (.int .i64 r8) ∧ cell h13 ((⟨b3, 0, none⟩ : Addr).add 1) = some (.slice r9 rL4 rC4) ∧
      ∃ r10 : Int, ∃ r11 : Int, ∃ r12 rL5 rC5, cell h13 ⟨b4, 0, none⟩ = some (.int .i64 r10) ∧ cell h13 ((⟨b4, 0, none⟩ : Addr).add 1) = some (.int .i64 r11) ∧ cell h13 ((⟨b4, 0, none⟩ : Addr).add 2) = some (.slice r12 rL5 rC5) ∧
      RunP h 0 k rows code zs (.tuple #[.agg #[.int .i64 r8, .slice r9 rL4 rC4], .agg #[.int .i64 r10, .int .i64 r11, .slice r12 rL5 rC5]]) h13 := fun hc => by
    refine ⟨_, _, _, _, kb1.cell 0, Blk.cellA kb1 1, _, _, _, _, kb2.cell 0, Blk.cellA kb2 1, hc.mono fun v2 h11 ⟨q2, m2, d2, B2, hv2, na2, s11⟩ => ⟨_, _, _, _, _, _, _, _, _, hv2, ?_⟩⟩
    have s11 : St h h11 (cA b3 [.int .i64 0, .slice none 0 0] 24 + (cA b4 [.int .i64 0, .int .i64 0, .slice none 0 0] 58 + ((cA b1 [.int .i64 k, .slice p' n c'] 24 + cA b2 [.int .i64 code, .slice q m cc] 50) + (B2 + 0)))) := s11.to
    exact boxW na2 s11
  refine ⟨_, kb1.cell 0, ?_⟩
  rcases ok with ⟨rfl, l, rfl, o1, o2, o3⟩ | ⟨rfl, l, rfl, o1, o2, o3⟩ | ⟨rfl, l, rfl, o2, o3⟩ | ⟨rfl, o⟩ | ⟨rfl, l, rfl, o1, o2, o3⟩ | ⟨rfl, l, rfl, o2, o3⟩
  · refine yaaw rfl (key ?_)
    rw [RunP, ybae]
    obtain ⟨hc, hz1, hz2, _⟩ := opv1 hv
    exact ybaa o1 na' rz' s10 (by omega) hc hz1 hz2
  · refine yaat rfl (yaaw rfl (key ?_))
    rw [RunP, yazn]
    obtain ⟨hc, hz1, _⟩ := opv2 hv
    exact ybbe o1 na' rz' s10 (by omega) hc hz1
  · refine yaat rfl (yaat rfl (yaaw rfl (key ?_)))
    rw [RunP, ybag]
    obtain ⟨hc, hz1, hz2, hz⟩ := opv3 hv
    exact ybcd o2 na' rz' s10 (by omega) hc hz1 hz2 hz
  · refine yaat rfl (yaat rfl (yaat rfl (yaaw rfl (key ?_))))
    rw [RunP, ybad]
    obtain ⟨hc, hz1, hz2⟩ := opv4 hv
    exact yazt na' rz' s10 (by omega) o.2.2.2 hc (fun h => by rw [hz1 h]; exact Nat.le_refl _) (fun h => by rw [hz2 h]; exact Nat.le_refl _)
  · refine yaat rfl (yaat rfl (yaat rfl (yaat rfl (yaaw rfl (key ?_)))))
    rw [RunP, yayu]
    obtain ⟨hc, hz1, hz2, hz4, _⟩ := opv5 hv
    exact yata o1 (fun x hx => (o2 x hx).2.2) na' rz' s10 (by omega) hc hz1 hz2 hz4
  · refine yaat rfl (yaat rfl (yaat rfl (yaat rfl (yaat rfl ?_))))
    obtain ⟨hc, hz1, _, _⟩ := opv6 hv
    have r := key (g := 78) (by rw [RunP, yayy]; exact yazq na' rz' s10 o3 hm hz1 hc)
    rw [zcj_b1]
    exact r
end
def VP (P : Prop) (h : Hp) (v : Value) (h' : Hp) : Prop := (∃ b : Bool, v = .bool b ∧ (b = true ↔ P)) ∧ Ext h h'
theorem VP.no {P : Prop} {h h' : Hp} (hn : ¬ P) (x : Ext h h') : VP P h (.bool false) h' := ⟨⟨false, rfl, by simp [hn]⟩, x⟩
theorem VP.yes {P : Prop} {h h' : Hp} (hp : P) (x : Ext h h') : VP P h (.bool true) h' := ⟨⟨true, rfl, by simp [hp]⟩, x⟩
theorem yaqb {b : Bool} {X Y : Prop} (h0 : b = false → X) (h1 : b = true → Y) : cond (!b) X Y := by
  cases b
  · exact h0 rfl
  · exact h1 rfl
theorem yamg : ∀ {a b : List Int}, a.length = b.length → (cmpL a b < 0 ↔ befL a b = true) ∧ (0 < cmpL a b ↔ befL b a = true)
  | [], [], _ => by simp [cmpL, befL]
  | [], _ :: _, h => by simp at h
  | _ :: _, [], h => by simp at h
  | x :: a, y :: b, h => by
    have ih := yamg (a := a) (b := b) (by simpa using h)
    rw [cmpL, befL, befL]
    by_cases h1 : x < y
    · rw [if_pos h1, if_neg (by omega), if_neg (by omega)]
      constructor
      · simp [h1]
      · simp; omega
    · rw [if_neg h1]
      by_cases h2 : y < x
      · rw [if_pos h2, if_neg (by omega), if_neg (by omega)]
        constructor
        · simp; omega
        · simp [h2]
      · rw [if_neg h2, if_pos (by omega), if_pos (by omega)]
        exact ih
theorem yapo {a b : List Int} (h : a.length = b.length) (h1 : befL a b = true) : befL b a = false := by
  have := yamg h
  cases hb : befL b a with
  | false => rfl
  | true => have := this.1.2 h1; have := (yamg h).2.2 hb; omega
def OrdV (ky : Nat) (st : Bool) (a b : List Int) : Prop := if st then befL (a.take ky) (b.take ky) = true else befL (b.take ky) (a.take ky) = false
structure TabV (w ky : Nat) (st : Bool) (rows : List (List Int)) : Prop where
  wid : ∀ i, i < rows.length → (rows.getD i []).length = w ∧ ∀ z ∈ rows.getD i [], KeyP z
  ord : ∀ i, i + 1 < rows.length → 0 < ky → OrdV ky st (rows.getD i []) (rows.getD (i + 1) [])
theorem ybbt (z : Int) (h : Hp) (K : VK) (hk : K (.bool (!decide (KeyP z))) h) : callX Tryz.prog F 123 #[.int .i64 z] h K := by
  refine yaex (by kernel_rfl) (zca_call ?_)
  rw [zca_b0]
  exact (yauz z h).mono fun v h' ⟨hv, hh⟩ => ⟨_, hv, by rw [hh]; exact hk⟩
theorem yavs {l : List Int} : (l.any fun z => !decide (KeyP z)) = true ↔ ¬ ∀ z ∈ l, KeyP z := by
  rw [List.any_eq_true]
  constructor
  · rintro ⟨z, hz, h⟩ hn; rw [decide_eq_true (hn z hz)] at h; cases h
  · intro h
    refine Classical.byContradiction fun hc => h fun z hz => Classical.byContradiction fun hk => hc ⟨z, hz, by rw [decide_eq_false hk]; rfl⟩
section
variable {h : Hp} {p : OA} {n c : Nat} {rows : List (List Int)}
theorem yale {k : Int} {w ky : Nat} (hW : ∀ h, yaae Tryz.prog 122 #[.int .i64 k] h (fun v h' => v = .tuple #[.int .i64 (w : Int), .int .i64 (ky : Int)] ∧ h' = h)) (hw : ky ≤ w ∧ w < 100) (r : RowsR h p n rows) (hrl : ∀ x ∈ rows, x.length ≤ 1000) :
    yaae Tryz.prog 84 #[.agg #[.int .i64 k, .slice p n c]] h (VP (rows.length ≤ 500 ∧ TabV w ky (!decide (k = 2)) rows) h) := by
  have hl := r.len
  refine zbz_call ?_
  rw [zbz_b0]
  refine (St.start h).new (cs := [.int .i64 k, .slice p n c]) fun b1 h1 x1 s1 => ?_
  refine ⟨_, _, _, Blk.cellA s1.blk 1, condP (fun h5 => VP.no (fun h => by omega) s1.ext) (fun h5 => ⟨_, s1.blk.cell 0, ?_⟩)⟩
  refine (hW h1).mono fun v h2 ⟨hv2, hh⟩ => ⟨_, _, hv2, ?_⟩
  subst hh
  refine ⟨_, _, _, Blk.cellA s1.blk 1, ?_⟩
  refine ⟨fun x h' => ∃ i : Nat, x.1 = (i : Int) ∧ i ≤ n ∧ h' = h2 ∧ (∀ j, j < i → (rows.getD j []).length = w ∧ ∀ z ∈ rows.getD j [], KeyP z) ∧ (∀ j, j + 1 < i → 0 < ky → OrdV ky (!decide (k = 2)) (rows.getD j []) (rows.getD (j + 1) [])), fun x _ => n - x.1.toNat, ⟨0, rfl, by omega, rfl, fun j hj => absurd hj (by omega), fun j hj => absurd hj (by omega)⟩, ?_⟩
  rintro ⟨_, _⟩ h3 ⟨i, rfl, hin, rfl, i1, i2⟩
  dsimp only
  have r3 := r.ext s1.ext
  have small : ∀ j, j < n → (rows.getD j []).length ≤ 1000 := fun j hj => hrl _ (yaal (by omega))
  rw [zbz_b1]
  refine condP (fun hlt => ?_) (fun hge => ?_)
  · refine r3.hdr rfl (by omega) fun a C rr hLC => ?_
    have hsm := small i (by omega)
    refine condN (fun hne => VP.no (fun h => hne (by have := (h.2.wid i (by omega)).1; omega)) s1.ext) (fun hw1 => ?_)
    refine (yade ybbt rr (by omega)).mono fun v h4 ⟨hh4, hv4⟩ => ⟨_, hv4, ?_⟩
    subst hh4
    refine yaar (fun hb => VP.no (fun h => yavs.1 hb (h.2.wid i (by omega)).2) s1.ext) (fun hb => ?_)
    have hk : ∀ z ∈ rows.getD i [], KeyP z := Classical.byContradiction fun hc => by rw [yavs.2 hc] at hb; cases hb
    have b4 : (0 < i → 0 < ky → OrdV ky (!decide (k = 2)) (rows.getD (i - 1) []) (rows.getD i [])) → zbz_b4 (some ⟨b1, 0, none⟩) (w : Int) (ky : Int) p n c (n : Int) (i : Int) h4 (fun s' h' => (∃ i : Nat, s'.1 = (i : Int) ∧ i ≤ n ∧ h' = h4 ∧ (∀ j, j < i → (rows.getD j []).length = w ∧ ∀ z ∈ rows.getD j [], KeyP z) ∧ (∀ j, j + 1 < i → 0 < ky → OrdV ky (!decide (k = 2)) (rows.getD j []) (rows.getD (j + 1) []))) ∧ n - s'.1.toNat < n - (i : Int).toNat) (VP (rows.length ≤ 500 ∧ TabV w ky (!decide (k = 2)) rows) h) := by
      intro ho
      rw [zbz_b4]
      refine ⟨⟨by omega, by omega⟩, ⟨i + 1, by push_cast; rfl, by omega, rfl, fun j hj => ?_, fun j hj hky => ?_⟩, by simp only; omega⟩
      · rcases Nat.lt_or_ge j i with h | h
        · exact i1 j h
        · obtain rfl : j = i := by omega
          exact ⟨by omega, hk⟩
      · rcases Nat.lt_or_ge (j + 1) i with h | h
        · exact i2 j h hky
        · obtain rfl : i = j + 1 := by omega
          exact ho (by omega) hky
    rw [zbz_b2]
    refine condP (fun h0 => b4 fun h => by omega) (fun hi0 => condP (fun h0 => b4 fun _ h => by omega) (fun hk0 => ?_))
    rw [zbz_b5]
    refine ⟨_, _, _, Blk.cellA s1.blk 1, ⟨by omega, by omega⟩, ?_⟩
    rw [show (i : Int) - 1 = ((i - 1 : Nat) : Int) by omega]
    refine r3.hdr rfl (by omega) fun a' C' rr' hLC' => ?_
    have w3 := (i1 (i - 1) (by omega)).1
    refine ⟨⟨by omega, by omega, by omega⟩, ⟨by omega, by omega, by omega⟩, ?_⟩
    rw [show Int.toNat (0 : Int) = 0 from rfl, yabx, yabx, Int.toNat_natCast, Nat.sub_zero]
    refine ⟨_, yavq (rr'.take (i := ky) (by omega)) (rr.take (i := ky) (by omega)) (by omega), ?_⟩
    have hc := yamg (a := (rows.getD (i - 1) []).take ky) (b := (rows.getD i []).take ky) (by rw [List.length_take, List.length_take]; omega)
    have ord : TabV w ky (!decide (k = 2)) rows → OrdV ky (!decide (k = 2)) (rows.getD (i - 1) []) (rows.getD i []) := fun h => by
      have := h.ord (i - 1) (by omega) (by omega)
      rwa [show i - 1 + 1 = i by omega] at this
    refine condP (fun h0 => VP.no (fun h => ?_) s1.ext) (fun h0 => condP (fun he => ⟨_, s1.blk.cell 0, condN (fun hne => VP.no (fun h => ?_) s1.ext) (fun hk2 => b4 fun _ _ => ?_)⟩) (fun hne => b4 fun _ _ => ?_))
    · have ho := ord h.2
      have hb := hc.2.1 h0
      unfold OrdV at ho
      split at ho
      · have := hc.1.2 ho; omega
      · rw [hb] at ho; cases ho
    · have ho := ord h.2
      unfold OrdV at ho
      rw [decide_eq_false hne, if_pos (by decide)] at ho
      have := hc.1.2 ho; omega
    · unfold OrdV
      rw [decide_eq_true hk2, if_neg (by decide)]
      cases hb : befL ((rows.getD i []).take ky) ((rows.getD (i - 1) []).take ky) with
      | false => rfl
      | true => have := hc.2.2 hb; omega
    · have hb : befL ((rows.getD (i - 1) []).take ky) ((rows.getD i []).take ky) = true := hc.1.1 (by omega)
      unfold OrdV
      split
      · exact hb
      · exact yapo (by rw [List.length_take, List.length_take]; omega) hb
  · rw [zbz_b3]
    exact VP.yes ⟨by omega, fun i hi => i1 i (by omega), fun i hi hky => i2 i (by omega) hky⟩ s1.ext
theorem yaic {w ky : Nat} {st : Bool} (hw : ky ≤ w ∧ w < 100) (r : RowsR h p n rows) (hn : n ≤ 1000) :
    yaae Tryz.prog 69 #[.slice p n c, .int .i64 (w : Int), .int .i64 (ky : Int), .bool st] h (VP (TabV w ky st rows) h) := by
  have hl := r.len
  refine zdc_call ?_
  rw [zdc_b0]
  refine ⟨fun x h' => ∃ i : Nat, x.1 = (i : Int) ∧ i ≤ n ∧ h' = h ∧ (∀ j, j < i → (rows.getD j []).length = w ∧ ∀ z ∈ rows.getD j [], KeyP z) ∧ (∀ j, j + 1 < i → 0 < ky → OrdV ky st (rows.getD j []) (rows.getD (j + 1) [])), fun x _ => n - x.1.toNat, ⟨0, rfl, by omega, rfl, fun j hj => absurd hj (by omega), fun j hj => absurd hj (by omega)⟩, ?_⟩
  rintro ⟨_, _⟩ h3 ⟨i, rfl, hin, rfl, i1, i2⟩
  dsimp only
  have x0 := Ext.refl h3
  rw [zdc_b1]
  refine condP (fun hlt => ?_) (fun hge => ?_)
  · refine r.hdr rfl (by omega) fun a C rr hLC => ?_
    refine condN (fun hne => VP.no (fun h => hne (by have := (h.wid i (by omega)).1; omega)) x0) (fun hw1 => ?_)
    have hw1 : (rows.getD i []).length = w := by omega
    refine ⟨fun x h' => ∃ k : Nat, x.1 = (k : Int) ∧ k ≤ w ∧ h' = h3 ∧ ∀ z ∈ (rows.getD i []).take k, KeyP z, fun x _ => w - x.1.toNat, ⟨0, rfl, by omega, rfl, by simp⟩, ?_⟩
    rintro ⟨_, _⟩ h4 ⟨k, rfl, hk, rfl, i3⟩
    dsimp only
    rw [zdc_b2]
    refine condP (fun hlk => ?_) (fun hgk => ?_)
    · refine r.get rfl (by omega) rfl (by omega) ((yaum _ _).mono fun v h5 ⟨hv, hh⟩ => ⟨_, hv, ?_⟩)
      subst hh
      refine condN (fun hno => VP.no (fun h => hno ((h.wid i (by omega)).2 _ (yaal (by omega)))) x0) (fun hyes => ?_)
      rw [zdc_b4]
      refine ⟨⟨by omega, by omega⟩, ⟨k + 1, by push_cast; rfl, by omega, rfl, fun z hz => ?_⟩, by simp only; omega⟩
      rw [List.take_succ_eq_append_getElem (by omega)] at hz
      rcases List.mem_append.1 hz with hz | hz
      · exact i3 z hz
      · rw [List.mem_singleton.1 hz]
        rwa [yaac (by omega)] at hyes
    · rw [List.take_of_length_le (by omega)] at i3
      rw [zdc_b5]
      have b6 : (0 < i → 0 < ky → OrdV ky st (rows.getD (i - 1) []) (rows.getD i [])) → zdc_b6 p n c (w : Int) (ky : Int) st (i : Int) h4 (fun s' h' => (∃ i : Nat, s'.1 = (i : Int) ∧ i ≤ n ∧ h' = h4 ∧ (∀ j, j < i → (rows.getD j []).length = w ∧ ∀ z ∈ rows.getD j [], KeyP z) ∧ (∀ j, j + 1 < i → 0 < ky → OrdV ky st (rows.getD j []) (rows.getD (j + 1) []))) ∧ n - s'.1.toNat < n - (i : Int).toNat) (VP (TabV w ky st rows) h4) := by
        intro ho
        rw [zdc_b6]
        refine ⟨⟨by omega, by omega⟩, ⟨i + 1, by push_cast; rfl, by omega, rfl, fun j hj => ?_, fun j hj hky => ?_⟩, by simp only; omega⟩
        · rcases Nat.lt_or_ge j i with h | h
          · exact i1 j h
          · obtain rfl : j = i := by omega
            exact ⟨hw1, i3⟩
        · rcases Nat.lt_or_ge (j + 1) i with h | h
          · exact i2 j h hky
          · obtain rfl : i = j + 1 := by omega
            exact ho (by omega) hky
      refine condP (fun h0 => b6 fun h => by omega) (fun hi0 => condP (fun h0 => b6 fun _ h => by omega) (fun hk0 => ?_))
      rw [zdc_b7]
      have w3 := (i1 (i - 1) (by omega)).1
      have ord : TabV w ky st rows → OrdV ky st (rows.getD (i - 1) []) (rows.getD i []) := fun h => by
        have := h.ord (i - 1) (by omega) (by omega)
        rwa [show i - 1 + 1 = i by omega] at this
      have elen : ((rows.getD (i - 1) []).take ky).length = ((rows.getD i []).take ky).length := by rw [List.length_take, List.length_take]; omega
      cases st with
      | true =>
        refine yaaw rfl ⟨⟨by omega, by omega⟩, r.hdr (i' := i - 1) (by omega) (by omega) fun a1 C1 r1 _ => r.hdr rfl (by omega) fun a2 C2 r2 _ => ⟨_, yafu r1 r2 (by omega) (by omega) (by omega), ?_⟩⟩
        refine yaqb (fun hb => VP.no (fun h => ?_) x0) (fun hb => ?_)
        · have ho := ord h
          unfold OrdV at ho
          rw [if_pos rfl, hb] at ho
          cases ho
        · refine r.hdr rfl (by omega) fun a3 C3 r3 _ => ⟨⟨by omega, by omega⟩, r.hdr (i' := i - 1) (by omega) (by omega) fun a4 C4 r4 _ => ⟨_, yafu r3 r4 (by omega) (by omega) (by omega), ?_⟩⟩
          refine yaat (yapo elen hb) (b6 fun _ _ => ?_)
          unfold OrdV
          rw [if_pos rfl]
          exact hb
      | false =>
        refine yaat rfl (r.hdr rfl (by omega) fun a3 C3 r3 _ => ⟨⟨by omega, by omega⟩, r.hdr (i' := i - 1) (by omega) (by omega) fun a4 C4 r4 _ => ⟨_, yafu r3 r4 (by omega) (by omega) (by omega), ?_⟩⟩)
        refine yaar (fun hb => VP.no (fun h => ?_) x0) (fun hb => b6 fun _ _ => ?_)
        · have ho := ord h
          unfold OrdV at ho
          rw [if_neg (by decide), hb] at ho
          cases ho
        · unfold OrdV
          rw [if_neg (by decide)]
          exact hb
  · rw [zdc_b3]
    exact VP.yes ⟨fun i hi => i1 i (by omega), fun i hi hky => i2 i (by omega) hky⟩ x0
end
theorem yaky {α : Type} {R : α → α → Prop} (tr : ∀ a b c, R a b → R b c → R a c) {d : α} : ∀ {l : List α}, (∀ i, i + 1 < l.length → R (l.getD i d) (l.getD (i + 1) d)) → l.Pairwise R
  | [], _ => List.Pairwise.nil
  | a :: l, h => by
    refine List.pairwise_cons.2 ⟨fun b hb => ?_, yaky tr fun i hi => h (i + 1) (by simpa using hi)⟩
    obtain ⟨j, hj, rfl⟩ := List.mem_iff_getElem.1 hb
    have key : ∀ j, j < l.length → R a (l.getD j d) := fun j => by
      induction j with
      | zero => intro hj; exact h 0 (by simpa using hj)
      | succ j ih => intro hj; exact tr _ _ _ (ih (by omega)) (h (j + 1) (by simpa using hj))
    have := key j hj
    rwa [yaac hj] at this
theorem yaop {α : Type} {R : α → α → Prop} {d : α} {l : List α} (h : l.Pairwise R) {i : Nat} (hi : i + 1 < l.length) : R (l.getD i d) (l.getD (i + 1) d) := by
  rw [yaac (by omega), yaac hi]
  exact List.pairwise_iff_getElem.1 h i (i + 1) (by omega) hi (by omega)
theorem yajh : ∀ {l m : List Int}, l.Nodup → (∀ z ∈ l, z ∈ m) → l.length = m.length → l.Perm m
  | [], m, _, _, h => by
    have : m = [] := List.length_eq_zero_iff.1 h.symm
    rw [this]
  | a :: l, m, hn, hs, hl => by
    have ha := hs a List.mem_cons_self
    have hn' := List.nodup_cons.1 hn
    refine (List.Perm.cons a (yajh (m := m.erase a) hn'.2 (fun z hz => ?_) ?_)).trans (List.perm_cons_erase ha).symm
    · exact (List.mem_erase_of_ne (by rintro rfl; exact hn'.1 hz)).2 (hs z (List.mem_cons_of_mem _ hz))
    · rw [List.length_erase_of_mem ha, ← hl]; simp
theorem yaoo (n : Nat) : ((List.range n).map Int.ofNat).Nodup := by
  rw [List.nodup_iff_pairwise_ne, List.pairwise_map]
  exact List.nodup_range.imp fun {a b} h e => h (by have : (a : Int) = b := e; omega)
theorem yala (n : Nat) : ((List.range n).map Int.ofNat).Pairwise (· ≤ ·) := by
  rw [List.pairwise_map]
  exact List.pairwise_lt_range.imp fun {a b} h => by show (a : Int) ≤ b; omega
theorem yami {n : Nat} {z : Int} : z ∈ (List.range n).map Int.ofNat ↔ 0 ≤ z ∧ z < n := by
  rw [List.mem_map]
  constructor
  · rintro ⟨a, ha, rfl⟩
    have := List.mem_range.1 ha
    show 0 ≤ (a : Int) ∧ (a : Int) < n
    omega
  · intro h
    exact ⟨z.toNat, List.mem_range.2 (by omega), by show ((z.toNat : Nat) : Int) = z; omega⟩
theorem yamc {n i : Nat} (h : i < n) : ((List.range n).map Int.ofNat).getD i 0 = i := by
  rw [yaac (by simpa using h), List.getElem_map, List.getElem_range]; rfl
def RowsF (rows : List (List Int)) (i : Nat) : Prop := (∀ j, j < i → rows.getD j [] ≠ [] ∧ (rows.getD j []).Pairwise (· < ·)) ∧ ∀ j, j + 1 < i → hdR (rows.getD j []) < hdR (rows.getD (j + 1) [])
theorem yarg {rows : List (List Int)} (h : PartR rows) : RowsF rows rows.length := by
  refine ⟨fun j hj => h.1 _ (yaal hj), fun j hj => ?_⟩
  have := yaop (d := 0) h.2.1 (i := j) (by rw [List.length_map]; exact hj)
  rw [yaac (by rw [List.length_map]; omega), yaac (by rw [List.length_map]; omega), List.getElem_map, List.getElem_map] at this
  rwa [yaac (by omega), yaac hj]
theorem yavk {rows : List (List Int)} (h : RowsF rows rows.length) (hp : rows.flatten.Perm ((List.range (tot rows)).map Int.ofNat)) (ht : tot rows ≤ 500) : PartR rows := by
  refine ⟨fun r hr => ?_, yaky (α := Int) (R := (· < ·)) (d := 0) (fun a b c => Int.lt_trans) fun i hi => ?_, hp, ht⟩
  · obtain ⟨j, hj, rfl⟩ := List.mem_iff_getElem.1 hr
    have := h.1 j hj
    rwa [yaac hj] at this
  · rw [List.length_map] at hi
    have := h.2 i hi
    rw [yaac (by rw [List.length_map]; omega), yaac (by rw [List.length_map]; omega), List.getElem_map, List.getElem_map]
    rwa [yaac (by omega), yaac hi] at this
theorem yamy {rows : List (List Int)} {i : Nat} (h : i < rows.length) : (rows.take (i + 1)).flatten = (rows.take i).flatten ++ rows.getD i [] := by
  rw [List.take_succ_eq_append_getElem h, List.flatten_append, yaac h]; simp
section
variable {h : Hp} {p : OA} {n c : Nat} {rows : List (List Int)}
theorem yakz (r : RowsR h p n rows) (hrl : ∀ x ∈ rows, x.length ≤ 1000) :
    yaae Tryz.prog 85 #[.slice p n c] h (VP (PartR rows) h) := by
  have hl := r.len
  refine zcb_call ?_
  rw [zcb_b0]
  refine condP (fun h5 => VP.no (fun h => by have := yaqc fun r hr => (h.1 r hr).1; have := h.2.2.2; omega) (Ext.refl _)) (fun h5 => ?_)
  refine ⟨fun x h' => ∃ (i : Nat) (A : Bag), x.2.1 = (i : Int) ∧ i ≤ n ∧ x.1.2.1 = tot (rows.take i) ∧ tot (rows.take i) ≤ 500 ∧ Sl TI x.1.1 x.1.2.1 x.1.2.2 (rows.take i).flatten A ∧ St h h' A ∧ RowsF rows i, fun x _ => n - x.2.1.toNat, ⟨0, 0, rfl, by omega, rfl, Nat.zero_le _, Sl.nil, St.start h, fun j hj => absurd hj (by omega), fun j hj => absurd hj (by omega)⟩, ?_⟩
  rintro ⟨⟨p1, m1, c1⟩, _, _⟩ h1 ⟨i, A, rfl, hin, hm, htl, o, s, hF⟩
  dsimp only at hm o ⊢
  subst hm
  have x := s.ext
  have r1 := r.ext x
  rw [zcb_b1]
  refine condP (fun hlt => ?_) (fun hge => ?_)
  · have hil : i < rows.length := by omega
    have hrow := hrl _ (yaal (l := rows) (d := []) hil)
    have htk := yafb hil
    have htk2 := yatk (rows := rows) (i + 1)
    refine r1.hdr rfl (by omega) fun a C rr hLC => ?_
    refine condP (fun h0 => VP.no (fun h => (h.1 _ (yaal (d := []) hil)).1 (List.length_eq_zero_iff.1 (by omega))) x) (fun h0 => ⟨⟨by omega, by omega⟩, ?_⟩)
    refine condP (fun h6 => VP.no (fun h => by have := h.2.2.2; omega) x) (fun h6 => ?_)
    have b2 : (0 < i → hdR (rows.getD (i - 1) []) < hdR (rows.getD i [])) → zcb_b2 p n c p1 (tot (rows.take i)) c1 a (rows.getD i []).length C p n c (n : Int) (i : Int) h1 (fun s' h' => (∃ (i : Nat) (A : Bag), s'.2.1 = (i : Int) ∧ i ≤ n ∧ s'.1.2.1 = tot (rows.take i) ∧ tot (rows.take i) ≤ 500 ∧ Sl TI s'.1.1 s'.1.2.1 s'.1.2.2 (rows.take i).flatten A ∧ St h h' A ∧ RowsF rows i) ∧ n - s'.2.1.toNat < n - (i : Int).toNat) (VP (PartR rows) h) := by
      intro hfirst
      rw [zcb_b2]
      refine ⟨fun x h' => ∃ k : Nat, x.1 = (k : Int) ∧ 1 ≤ k ∧ k ≤ (rows.getD i []).length ∧ h' = h1 ∧ ∀ j, j + 1 < k → (rows.getD i []).getD j 0 < (rows.getD i []).getD (j + 1) 0, fun x _ => (rows.getD i []).length - x.1.toNat, ⟨1, rfl, Nat.le_refl _, by omega, rfl, fun j hj => absurd hj (by omega)⟩, ?_⟩
      rintro ⟨_, _⟩ h2 ⟨k, rfl, hk1, hk2, rfl, hasc⟩
      dsimp only
      rw [zcb_b4]
      refine condP (fun hlk => ?_) (fun hgk => ?_)
      · refine ⟨⟨by omega, by omega⟩, ldI (i' := k - 1) rr (by omega) (by omega) (ldI (i' := k) rr rfl (by omega) (condP (fun hle => VP.no (fun h => ?_) x) (fun hgt => ?_)))⟩
        · have := yaop (d := 0) ((h.1 _ (yaal (d := []) hil)).2) (i := k - 1) (by omega)
          rw [show k - 1 + 1 = k by omega] at this
          omega
        · rw [zcb_b6]
          refine ⟨⟨by omega, by omega⟩, ⟨k + 1, by push_cast; rfl, by omega, by omega, rfl, fun j hj => ?_⟩, by simp only; omega⟩
          rcases Nat.lt_or_ge (j + 1) k with h | h
          · exact hasc j h
          · obtain rfl : k = j + 1 := by omega
            rw [show j + 1 - 1 = j by omega] at hgt
            omega
      · obtain rfl : k = (rows.getD i []).length := by omega
        rw [zcb_b7]
        have s0 : St h h2 (A + 0) := by rw [Bag.add_zero]; exact s
        refine yabf yagz s0 o rr (by omega) fun p' c' h3 A' o' s3 => ?_
        rw [zcb_b10, ← htk]
        rw [← yamy hil, ← htk] at o'
        rw [Bag.add_zero] at s3
        refine ⟨⟨by omega, by omega⟩, ⟨i + 1, A', by push_cast; rfl, by omega, rfl, by omega, o', s3, fun j hj => ?_, fun j hj => ?_⟩, by simp only; omega⟩
        · rcases Nat.lt_or_ge j i with h | h
          · exact hF.1 j h
          · obtain rfl : j = i := by omega
            refine ⟨fun h => by rw [h] at h0; exact h0 rfl, yaky (α := Int) (R := (· < ·)) (d := 0) (fun a b c => Int.lt_trans) hasc⟩
        · rcases Nat.lt_or_ge (j + 1) i with h | h
          · exact hF.2 j h
          · obtain rfl : i = j + 1 := by omega
            exact hfirst (by omega)
    refine condP (fun hi0 => ⟨⟨by omega, by omega⟩, r1.get (i' := i - 1) (j' := 0) (by omega) (by omega) rfl (List.length_pos_iff.2 (hF.1 (i - 1) (by omega)).1) (ldI (i' := 0) rr rfl (by omega) (condP (fun hle => VP.no (fun h => ?_) x) (fun hgt => b2 fun _ => ?_)))⟩) (fun hi0 => b2 fun h => by omega)
    · have := (yarg h).2 (i - 1) (by omega)
      rw [show i - 1 + 1 = i by omega] at this
      unfold hdR at this
      omega
    · unfold hdR; omega
  · obtain rfl : i = n := by omega
    have ett : rows.take i = rows := List.take_of_length_le (by omega)
    rw [ett] at o htl ⊢
    rw [zcb_b3]
    have s0 : St h h1 (A + 0) := by rw [Bag.add_zero]; exact s
    refine (yazu (P := fun _ => True) s0 o (fun _ _ => trivial) (by omega)).mono fun v h5 ⟨hv, ys, A5, o5, s5, hp, hsrt⟩ => ⟨hv, ?_⟩
    have x5 := s5.ext
    have rd5 := o5.rd s5
    have hyl := o5.len
    have hyl : ys.length = tot rows := hyl
    have hso := yamz hsrt
    refine ⟨fun x h' => ∃ k : Nat, x.1 = (k : Int) ∧ k ≤ tot rows ∧ h' = h5 ∧ ∀ j, j < k → ys.getD j 0 = j, fun x _ => tot rows - x.1.toNat, ⟨0, rfl, by omega, rfl, fun j hj => absurd hj (by omega)⟩, ?_⟩
    rintro ⟨_, _⟩ h6 ⟨k, rfl, hk, rfl, hys⟩
    dsimp only
    rw [zcb_b5]
    refine condP (fun hlk => ldI (i' := k) rd5 rfl (by omega) (condN (fun hne => VP.no (fun h => hne ?_) x5) (fun heq => ?_))) (fun hgk => ?_)
    · have e : ys = (List.range (tot rows)).map Int.ofNat := List.Perm.eq_of_pairwise (fun a b _ _ h1 h2 => Int.le_antisymm h1 h2) hso (yala _) (hp.trans h.2.2.1)
      rw [e, yamc (by omega)]
    · rw [zcb_b8]
      refine ⟨⟨by omega, by omega⟩, ⟨k + 1, by push_cast; rfl, by omega, rfl, fun j hj => ?_⟩, by simp only; omega⟩
      rcases Nat.lt_or_ge j k with h | h
      · exact hys j h
      · rw [show j = k by omega]; exact heq
    · rw [zcb_b9]
      refine VP.yes (yavk (by rw [hl]; exact hF) ?_ htl) x5
      have e : ys = (List.range (tot rows)).map Int.ofNat := by
        refine yaeq (d := 0) (by rw [hyl]; simp) fun t ht => ?_
        have ht : t < tot rows := by simpa using ht
        rw [hys t (by omega), yamc (by omega)]
      rw [← e]
      exact hp.symm
end
abbrev tB : Ty Bool := ⟨4, 1, fun b => [.bool b], false, fun _ => rfl, by decide, fun _ v hv => by simp at hv; subst hv; rfl⟩
theorem yawy (xs : List Bool) : tB.cells xs = xs.map .bool := by
  induction xs with
  | nil => rfl
  | cons x xs ih => show [Value.bool x] ++ tB.cells xs = _; rw [ih]; rfl
theorem ldB {h : Hp} {p : OA} {n : Nat} {l : List Bool} {i : Int} {i' : Nat} {Q : Bool → Prop} (r : RdT tB h p n l) (ei : i = (i' : Int)) (h1 : i' < n) (hq : Q (l.getD i' false)) :
    (0 ≤ i ∧ i < (n : Int)) ∧ NN p fun a => ∃ b : Bool, cell h (a.add (Int.toNat i * 1)) = some (.bool b) ∧ Q b := by
  subst ei
  refine r.idx (by omega) (by omega) fun a _ hc => ?_
  rw [Int.toNat_natCast] at hc ⊢
  exact ⟨_, hc 0 (by decide), hq⟩
def SeenP (n : Nat) (bs : List Bool) (done : List Int) : Prop := bs.length = n ∧ (∀ z ∈ done, 0 ≤ z ∧ z < (n : Int)) ∧ done.Nodup ∧ ∀ x : Nat, x < n → (bs.getD x false = true ↔ (x : Int) ∈ done)
theorem yatb {n x : Nat} {bs : List Bool} {done : List Int} (h : SeenP n bs done) (hx : x < n) (hb : bs.getD x false = false) : SeenP n (bs.set x true) (done ++ [(x : Int)]) := by
  obtain ⟨h1, h2, h3, h4⟩ := h
  refine ⟨by rw [List.length_set, h1], fun z hz => ?_, ?_, fun y hy => ?_⟩
  · rcases List.mem_append.1 hz with hz | hz
    · exact h2 z hz
    · rw [List.mem_singleton.1 hz]; omega
  · refine List.nodup_append.2 ⟨h3, List.nodup_cons.2 ⟨by simp, List.nodup_nil⟩, fun a ha b hb' hab => ?_⟩
    rw [List.mem_singleton.1 hb'] at hab
    subst hab
    have := (h4 x hx).2 ha
    rw [hb] at this; cases this
  · rw [yadu (by omega)]
    by_cases hxy : x = y
    · subst hxy
      rw [if_pos rfl]; simp
    · rw [if_neg (fun h => hxy h.symm)]
      rw [h4 y hy, List.mem_append, List.mem_singleton]
      constructor
      · exact .inl
      · rintro (h | h)
        · exact h
        · omega
section
variable {h : Hp} {p : OA} {n c : Nat} {rows : List (List Int)}
theorem yaql (r : RowsR h p n rows) (hn : n ≤ 1000) (hrl : ∀ x ∈ rows, x.length ≤ 1000) :
    yaae Tryz.prog 70 #[.slice p n c] h (VP (PartR rows) h) := by
  have hl := r.len
  have hbig : ∀ i, i ≤ n → tot (rows.take i) ≤ 1000 * i := fun i => by
    induction i with
    | zero => intro _; exact Nat.zero_le _
    | succ i ih =>
      intro hi
      rw [yafb (by omega)]
      have := hrl _ (yaal (l := rows) (d := []) (i := i) (by omega))
      have := ih (by omega)
      omega
  refine zcp_call ?_
  rw [zcp_b0]
  refine ⟨fun x h' => h' = h ∧ ∃ i : Nat, x.2.1 = i ∧ i ≤ n ∧ x.1 = (tot (rows.take i) : Int), fun x _ => (n - x.2.1).toNat, ⟨rfl, 0, rfl, Nat.zero_le _, rfl⟩, ?_⟩
  rintro ⟨_, _, _⟩ h1 ⟨rfl, i, rfl, hi, rfl⟩
  dsimp only
  rw [zcp_b1]
  refine condP (fun hlt => ?_) (fun hge => ?_)
  · refine r.hdr rfl (by omega) fun q d _ _ => ?_
    have := yafb (rows := rows) (i := i) (by omega)
    have := hbig (i + 1) (by omega)
    refine ⟨⟨by omega, by omega⟩, ?_⟩
    rw [zcp_b2]
    exact ⟨⟨by omega, by omega⟩, ⟨rfl, i + 1, by push_cast; rfl, by omega, by push_cast; omega⟩, by dsimp only; omega⟩
  obtain rfl : i = n := by omega
  rw [List.take_of_length_le (by omega), zcp_b3]
  refine condP (fun h5 => VP.no (fun h => by have := h.2.2.2; omega) (Ext.refl _)) (fun h5 => ⟨⟨by omega, by omega, by omega, by push_cast; omega⟩, ?_⟩)
  rw [Int.toNat_natCast, Nat.mul_one, yain]
  obtain ⟨N, hN⟩ : ∃ N, tot rows = N := ⟨_, rfl⟩
  rw [hN] at h5 ⊢
  refine (St.start h1).new (cs := List.replicate N (.bool false)) fun b1 h2 _ s => ?_
  have o0 : Sl tB (some ⟨b1, 0, none⟩) N N (List.replicate N false) (cA b1 (List.replicate N (.bool false)) 4) := Sl.of_blk (T := tB) (by rw [List.length_replicate]) (by rw [yawy, List.map_replicate])
  have sp0 : SeenP N (List.replicate N false) [] := by
    refine ⟨List.length_replicate .., fun z hz => by simp at hz, List.nodup_nil, fun x hx => ?_⟩
    rw [yaac (by rw [List.length_replicate]; exact hx)]; simp
  refine ⟨fun x h' => ∃ (k : Nat) (bs : List Bool) (A : Bag), x.1 = (k : Int) ∧ k ≤ i ∧ Sl tB (some ⟨b1, 0, none⟩) N N bs A ∧ St h1 h' (A + 0) ∧ RowsF rows k ∧ SeenP N bs (rows.take k).flatten, fun x _ => (i - x.1).toNat, ⟨0, _, _, rfl, Nat.zero_le _, o0, s, ⟨fun j hj => absurd hj (by omega), fun j hj => absurd hj (by omega)⟩, sp0⟩, ?_⟩
  clear s o0 sp0
  rintro ⟨_, _⟩ h3 ⟨k, bs, A, rfl, hk, o, s, hF, hS⟩
  dsimp only
  rw [zcp_b4]
  have x := s.ext
  have r1 := r.ext x
  refine condP (fun hlt => ?_) (fun hge => ?_)
  · have hkl : k < rows.length := by omega
    have hrow := hrl _ (yaal (l := rows) (d := []) hkl)
    refine r1.hdr rfl (by omega) fun q d _ _ => condP (fun h0 => VP.no (fun h => (h.1 _ (yaal (d := []) hkl)).1 (List.length_eq_zero_iff.1 (by omega))) x) (fun h0 => ?_)
    have b5 : (0 < k → hdR (rows.getD (k - 1) []) < hdR (rows.getD k [])) → zcp_b5 p i c (N : Int) (some ⟨b1, 0, none⟩) N N (k : Int) h3 (fun s' h' => (∃ (k : Nat) (bs : List Bool) (A : Bag), s'.1 = (k : Int) ∧ k ≤ i ∧ Sl tB (some ⟨b1, 0, none⟩) N N bs A ∧ St h1 h' (A + 0) ∧ RowsF rows k ∧ SeenP N bs (rows.take k).flatten) ∧ (i - s'.1).toNat < (i - (k : Int)).toNat) (VP (PartR rows) h1) := by
      intro hfirst
      rw [zcp_b5]
      refine ⟨fun x h' => ∃ (t : Nat) (bs : List Bool) (A : Bag), x.1 = (t : Int) ∧ t ≤ (rows.getD k []).length ∧ Sl tB (some ⟨b1, 0, none⟩) N N bs A ∧ St h1 h' (A + 0) ∧ (∀ j, j + 1 < t → (rows.getD k []).getD j 0 < (rows.getD k []).getD (j + 1) 0) ∧ SeenP N bs ((rows.take k).flatten ++ (rows.getD k []).take t), fun x _ => ((rows.getD k []).length - x.1).toNat, ⟨0, bs, A, rfl, Nat.zero_le _, o, s, fun j hj => absurd hj (by omega), by rw [List.take_zero, List.append_nil]; exact hS⟩, ?_⟩
      clear o s hS x r1
      rintro ⟨_, _⟩ h4 ⟨t, bs, A, rfl, ht, o, s, hasc, hS⟩
      dsimp only
      have x := s.ext
      have r1 := r.ext x
      rw [zcp_b7]
      refine r1.hdr rfl (by omega) fun q d _ _ => condP (fun hlt2 => ?_) (fun hge2 => ?_)
      · refine r1.get rfl (by omega) rfl (by omega) ?_
        obtain ⟨z, hz⟩ : ∃ z, (rows.getD k []).getD t 0 = z := ⟨_, rfl⟩
        have hzm : z ∈ rows.getD k [] := by rw [← hz]; exact yaal (by omega)
        have hzf : z ∈ rows.flatten := List.mem_flatten.2 ⟨_, yaal hkl, hzm⟩
        have hin : PartR rows → 0 ≤ z ∧ z < N := fun h => by
          have := yami.1 (h.2.2.1.mem_iff.1 hzf); rw [hN] at this; exact this
        rw [hz]
        refine condP (fun hz0 => VP.no (fun h => by have := hin h; omega) x) (fun hz0 => condP (fun hzn => VP.no (fun h => by have := hin h; omega) x) (fun hzn => ?_))
        obtain ⟨y, rfl⟩ : ∃ y : Nat, z = y := ⟨z.toNat, by omega⟩
        have htk : (rows.getD k []).take (t + 1) = (rows.getD k []).take t ++ [(y : Int)] := by
          have e := yaac (l := rows.getD k []) (i := t) (d := (0 : Int)) (by omega)
          rw [hz] at e
          rw [e, List.take_succ_eq_append_getElem]
        refine ldB (i' := y) (o.rd (s.at A)) rfl (by omega) (yaar (fun hb => VP.no (fun h => ?_) x) (fun hb => ?_))
        · have hm := (hS.2.2.2 y (by omega)).1 hb
          have hnd : rows.flatten.Nodup := h.2.2.1.nodup_iff.2 (yaoo _)
          have e1 : rows.flatten = ((rows.take k).flatten ++ (rows.getD k []).take t) ++ ((y : Int) :: ((rows.getD k []).drop (t + 1) ++ (rows.drop (k + 1)).flatten)) := by
            have e2 : rows = rows.take k ++ rows.getD k [] :: rows.drop (k + 1) := by
              rw [yaac hkl, List.getElem_cons_drop, List.take_append_drop]
            have e3 : rows.getD k [] = (rows.getD k []).take t ++ (y : Int) :: (rows.getD k []).drop (t + 1) := by
              have := List.drop_eq_getElem_cons (l := rows.getD k []) (i := t) (by omega)
              have e := yaac (l := rows.getD k []) (i := t) (d := (0 : Int)) (by omega)
              rw [hz] at e
              rw [e, ← this, List.take_append_drop]
            have e4 : rows.flatten = (rows.take k).flatten ++ (rows.getD k [] ++ (rows.drop (k + 1)).flatten) := by
              have := congrArg List.flatten e2
              rwa [List.flatten_append, List.flatten_cons] at this
            rw [e4, show rows.getD k [] ++ (rows.drop (k + 1)).flatten = ((rows.getD k []).take t ++ (y : Int) :: (rows.getD k []).drop (t + 1)) ++ (rows.drop (k + 1)).flatten from congrArg (· ++ (rows.drop (k + 1)).flatten) e3]
            simp only [List.append_assoc, List.cons_append]
          rw [e1] at hnd
          exact (List.nodup_append.1 hnd).2.2 _ hm _ List.mem_cons_self rfl
        · have b8 : (∀ j, j + 1 < t + 1 → (rows.getD k []).getD j 0 < (rows.getD k []).getD (j + 1) 0) → zcp_b8 p i c (N : Int) (some ⟨b1, 0, none⟩) N N (k : Int) (t : Int) (y : Int) h4 (fun s' h' => (∃ (k : Nat) (bs : List Bool) (A : Bag), s'.1 = (k : Int) ∧ k ≤ i ∧ Sl tB (some ⟨b1, 0, none⟩) N N bs A ∧ St h1 h' (A + 0) ∧ RowsF rows k ∧ SeenP N bs (rows.take k).flatten) ∧ (i - s'.1).toNat < (i - (k : Int)).toNat) (fun s' h' => (∃ (t : Nat) (bs : List Bool) (A : Bag), s'.1 = (t : Int) ∧ t ≤ (rows.getD k []).length ∧ Sl tB (some ⟨b1, 0, none⟩) N N bs A ∧ St h1 h' (A + 0) ∧ (∀ j, j + 1 < t → (rows.getD k []).getD j 0 < (rows.getD k []).getD (j + 1) 0) ∧ SeenP N bs ((rows.take k).flatten ++ (rows.getD k []).take t)) ∧ ((rows.getD k []).length - s'.1).toNat < ((rows.getD k []).length - (t : Int)).toNat) (VP (PartR rows) h1) := by
            intro hasc'
            rw [zcp_b8]
            refine Sl.wrI (x := true) o s (by omega) (by omega) rfl rfl fun h5 A5 o5 s5 => ?_
            rw [Int.toNat_natCast] at o5
            rw [zcp_b10]
            refine ⟨⟨by omega, by omega⟩, ⟨t + 1, _, A5, by push_cast; rfl, by omega, o5, s5, hasc', ?_⟩, by dsimp only; omega⟩
            rw [htk, ← List.append_assoc]
            exact yatb hS (by omega) hb
          refine condP (fun ht0 => ?_) (fun ht0 => b8 fun j hj => by omega)
          refine r1.hdr rfl (by omega) fun q d rr _ => ⟨⟨by omega, by omega⟩, ldI (i' := t - 1) rr (by omega) (by omega) (condP (fun hle => VP.no (fun h => ?_) x) (fun hgt => b8 fun j hj => ?_))⟩
          · have := yaop (d := 0) ((h.1 _ (yaal (d := []) hkl)).2) (i := t - 1) (by omega)
            rw [show t - 1 + 1 = t by omega, hz] at this
            omega
          · rcases Nat.lt_or_ge (j + 1) t with h | h
            · exact hasc j h
            · obtain rfl : t = j + 1 := by omega
              rw [show j + 1 - 1 = j by omega] at hgt
              rw [hz]; omega
      · obtain rfl : t = (rows.getD k []).length := by omega
        rw [List.take_length, ← yamy hkl] at hS
        rw [zcp_b9]
        refine ⟨⟨by omega, by omega⟩, ⟨k + 1, bs, A, by push_cast; rfl, by omega, o, s, ⟨fun j hj => ?_, fun j hj => ?_⟩, hS⟩, by dsimp only; omega⟩
        · rcases Nat.lt_or_ge j k with h | h
          · exact hF.1 j h
          · obtain rfl : j = k := by omega
            exact ⟨fun h => by rw [h] at h0; exact h0 rfl, yaky (α := Int) (R := (· < ·)) (d := 0) (fun a b c => Int.lt_trans) hasc⟩
        · rcases Nat.lt_or_ge (j + 1) k with h | h
          · exact hF.2 j h
          · obtain rfl : k = j + 1 := by omega
            exact hfirst (by omega)
    refine condP (fun hk0 => ⟨⟨by omega, by omega⟩, r1.get (i' := k - 1) (j' := 0) (by omega) (by omega) rfl (List.length_pos_iff.2 (hF.1 (k - 1) (by omega)).1) (r1.get rfl (by omega) rfl (j' := 0) (by omega) (condP (fun hle => VP.no (fun h => ?_) x) (fun hgt => b5 fun _ => ?_)))⟩) (fun hk0 => b5 fun h => by omega)
    · have := (yarg h).2 (k - 1) (by omega)
      rw [show k - 1 + 1 = k by omega] at this
      unfold hdR at this
      omega
    · unfold hdR; omega
  · obtain rfl : k = i := by omega
    rw [zcp_b6]
    rw [List.take_of_length_le (by omega)] at hS
    refine VP.yes (yavk (by rw [hl]; exact hF) (yajh hS.2.2.1 (fun z hz => ?_) ?_) (by omega)) x
    · rw [yami, hN]; exact hS.2.1 z hz
    · rw [yaxf]; simp
end
theorem len1 {r : List Int} (h : r.length = 1) : r = [r.getD 0 0] := by match r, h with | [_], _ => rfl
theorem len2 {r : List Int} (h : r.length = 2) : r = [r.getD 0 0, r.getD 1 0] := by match r, h with | [_, _], _ => rfl
theorem len3 {r : List Int} (h : r.length = 3) : r = [r.getD 0 0, r.getD 1 0, r.getD 2 0] := by match r, h with | [_, _, _], _ => rfl
theorem yaik {α : Type} {w : Nat} {rows : List (List Int)} (f : α → List Int) (g : List Int → α) (hfg : ∀ r : List Int, r.length = w → f (g r) = r) (h : ∀ i, i < rows.length → (rows.getD i []).length = w) : rows = (rows.map g).map f := by
  rw [List.map_map]
  conv => lhs; rw [← List.map_id rows]
  refine List.map_congr_left fun r hr => ?_
  obtain ⟨i, hi, e⟩ := List.mem_iff_getElem.1 hr
  have := h i hi
  rw [yaac hi, e] at this
  exact (hfg r this).symm
theorem yabk {α β : Type} {f : α → β} {l : List α} {i : Nat} {d : α} {e : β} (h : i < l.length) : (l.map f).getD i e = f (l.getD i d) := by
  rw [yaac (by rw [List.length_map]; exact h), List.getElem_map, yaac h]
theorem ord1 {x y : Int} {a b : List Int} : OrdV 1 true (x :: a) (y :: b) ↔ x < y := by
  unfold OrdV
  rw [if_pos rfl]
  show befL [x] [y] = true ↔ _
  rw [befL]
  by_cases h : x = y
  · rw [if_pos h]; simp [befL]; omega
  · rw [if_neg h]; simp
theorem ord1f {x y : Int} {a b : List Int} : OrdV 1 false (x :: a) (y :: b) ↔ x ≤ y := by
  unfold OrdV
  rw [if_neg (by decide)]
  show befL [y] [x] = false ↔ _
  rw [befL]
  by_cases h : y = x
  · rw [if_pos h]; simp [befL]; omega
  · rw [if_neg h]; simp
theorem ord2 {p q : Pt} : OrdV 2 true (row3 p) (row3 q) ↔ ptLt p q := by
  unfold OrdV
  rw [if_pos rfl]
  show befL [p.1, p.2.1] [q.1, q.2.1] = true ↔ _
  rw [yave, decide_eq_true_eq]
  rfl
section
variable {rows : List (List Int)}
theorem okR1 : OkR 1 rows ↔ rows.length ≤ 500 ∧ TabV 2 1 true rows := by
  constructor
  · rintro (⟨-, l, rfl, h1, h2, h3⟩ | ⟨h, -⟩ | ⟨h, -⟩ | ⟨h, -⟩ | ⟨h, -⟩ | ⟨h, -⟩) <;> first | omega | skip
    refine ⟨by rw [List.length_map]; exact h3, ⟨fun i hi => ?_, fun i hi _ => ?_⟩⟩
    · rw [List.length_map] at hi
      rw [yabk (d := (0, 0)) hi]
      have := h2 _ (yaal (d := (0, 0)) hi)
      refine ⟨rfl, fun z hz => ?_⟩
      rcases List.mem_cons.1 hz with rfl | hz
      · exact this.1
      · rw [List.mem_singleton.1 hz]; exact this.2
    · rw [List.length_map] at hi
      rw [yabk (d := (0, 0)) (by omega), yabk (d := (0, 0)) hi]
      exact ord1.2 (yaop h1 hi)
  · rintro ⟨h1, h2⟩
    have e := yaik row2 (fun r => (r.getD 0 0, r.getD 1 0)) (fun r h => (len2 h).symm) fun i hi => (h2.wid i hi).1
    refine Or.inl ⟨rfl, to2 rows, e, yaky (α := E) (R := fun a b => a.1 < b.1) (d := (0, 0)) (fun a b c => Int.lt_trans) fun i hi => ?_, fun x hx => ?_, by unfold to2; rw [List.length_map]; exact h1⟩
    · unfold to2 at hi ⊢
      rw [List.length_map] at hi
      rw [yabk (d := []) (by omega), yabk (d := []) hi]
      have := h2.ord i hi Nat.one_pos
      rw [len2 (h2.wid i (by omega)).1, len2 (h2.wid (i + 1) hi).1] at this
      exact ord1.1 this
    · obtain ⟨r, hr, rfl⟩ := List.mem_map.1 hx
      obtain ⟨i, hi, e⟩ := List.mem_iff_getElem.1 hr
      have := h2.wid i hi
      rw [yaac hi, e] at this
      exact ⟨this.2 _ (yaal (by omega)), this.2 _ (yaal (by omega))⟩
theorem okR2 : OkR 2 rows ↔ rows.length ≤ 500 ∧ TabV 1 1 false rows := by
  constructor
  · rintro (⟨h, -⟩ | ⟨-, l, rfl, h1, h2, h3⟩ | ⟨h, -⟩ | ⟨h, -⟩ | ⟨h, -⟩ | ⟨h, -⟩) <;> first | omega | skip
    refine ⟨by rw [List.length_map]; exact h3, ⟨fun i hi => ?_, fun i hi _ => ?_⟩⟩
    · rw [List.length_map] at hi
      rw [yabk (d := 0) hi]
      refine ⟨rfl, fun z hz => ?_⟩
      rw [List.mem_singleton.1 hz]; exact h2 _ (yaal hi)
    · rw [List.length_map] at hi
      rw [yabk (d := 0) (by omega), yabk (d := 0) hi]
      exact ord1f.2 (yaop h1 hi)
  · rintro ⟨h1, h2⟩
    have e := yaik row1 hdR (fun r h => (len1 h).symm) fun i hi => (h2.wid i hi).1
    refine Or.inr (Or.inl ⟨rfl, to1 rows, e, yaky (α := Int) (R := (· ≤ ·)) (d := 0) (fun a b c => Int.le_trans) fun i hi => ?_, fun x hx => ?_, by unfold to1; rw [List.length_map]; exact h1⟩)
    · unfold to1 at hi ⊢
      rw [List.length_map] at hi
      rw [yabk (d := []) (by omega), yabk (d := []) hi]
      have := h2.ord i hi Nat.one_pos
      rw [len1 (h2.wid i (by omega)).1, len1 (h2.wid (i + 1) hi).1] at this
      exact ord1f.1 this
    · obtain ⟨r, hr, rfl⟩ := List.mem_map.1 hx
      obtain ⟨i, hi, e⟩ := List.mem_iff_getElem.1 hr
      have := h2.wid i hi
      rw [yaac hi, e] at this
      exact this.2 _ (yaal (by omega))
theorem okR3 (st : Bool) : OkR 3 rows ↔ rows.length ≤ 500 ∧ TabV 1 0 st rows := by
  constructor
  · rintro (⟨h, -⟩ | ⟨h, -⟩ | ⟨-, l, rfl, h2, h3⟩ | ⟨h, -⟩ | ⟨h, -⟩ | ⟨h, -⟩) <;> first | omega | skip
    refine ⟨by rw [List.length_map]; exact h3, ⟨fun i hi => ?_, fun i hi h => absurd h (by omega)⟩⟩
    rw [List.length_map] at hi
    rw [yabk (d := 0) hi]
    refine ⟨rfl, fun z hz => ?_⟩
    rw [List.mem_singleton.1 hz]; exact h2 _ (yaal hi)
  · rintro ⟨h1, h2⟩
    have e := yaik row1 hdR (fun r h => (len1 h).symm) fun i hi => (h2.wid i hi).1
    refine Or.inr (Or.inr (Or.inl ⟨rfl, to1 rows, e, fun x hx => ?_, by unfold to1; rw [List.length_map]; exact h1⟩))
    obtain ⟨r, hr, rfl⟩ := List.mem_map.1 hx
    obtain ⟨i, hi, e⟩ := List.mem_iff_getElem.1 hr
    have := h2.wid i hi
    rw [yaac hi, e] at this
    exact this.2 _ (yaal (by omega))
theorem okR4 : OkR 4 rows ↔ PartR rows := by
  constructor
  · rintro (⟨h, -⟩ | ⟨h, -⟩ | ⟨h, -⟩ | ⟨-, h⟩ | ⟨h, -⟩ | ⟨h, -⟩) <;> first | omega | exact h
  · exact fun h => Or.inr (Or.inr (Or.inr (Or.inl ⟨rfl, h⟩)))
theorem okR5 : OkR 5 rows ↔ rows.length ≤ 500 ∧ TabV 3 2 true rows := by
  constructor
  · rintro (⟨h, -⟩ | ⟨h, -⟩ | ⟨h, -⟩ | ⟨h, -⟩ | ⟨-, l, rfl, h1, h2, h3⟩ | ⟨h, -⟩) <;> first | omega | skip
    refine ⟨by rw [List.length_map]; exact h3, ⟨fun i hi => ?_, fun i hi _ => ?_⟩⟩
    · rw [List.length_map] at hi
      rw [yabk (d := dPt) hi]
      have := h2 _ (yaal (d := dPt) hi)
      refine ⟨rfl, fun z hz => ?_⟩
      rcases List.mem_cons.1 hz with rfl | hz
      · exact this.1
      · rcases List.mem_cons.1 hz with rfl | hz
        · exact this.2.1
        · rw [List.mem_singleton.1 hz]; exact this.2.2
    · rw [List.length_map] at hi
      rw [yabk (d := dPt) (by omega), yabk (d := dPt) hi]
      exact ord2.2 (yaop h1 hi)
  · rintro ⟨h1, h2⟩
    have e := yaik row3 (fun r => (r.getD 0 0, r.getD 1 0, r.getD 2 0)) (fun r h => (len3 h).symm) fun i hi => (h2.wid i hi).1
    refine Or.inr (Or.inr (Or.inr (Or.inr (Or.inl ⟨rfl, to3 rows, e, yaky (α := Pt) (R := ptLt) (d := dPt) (fun a b c => yasf) fun i hi => ?_, fun x hx => ?_, by unfold to3; rw [List.length_map]; exact h1⟩))))
    · unfold to3 at hi ⊢
      rw [List.length_map] at hi
      rw [yabk (d := []) (by omega), yabk (d := []) hi]
      have := h2.ord i hi (by decide)
      rw [len3 (h2.wid i (by omega)).1, len3 (h2.wid (i + 1) hi).1] at this
      exact ord2.1 this
    · obtain ⟨r, hr, rfl⟩ := List.mem_map.1 hx
      obtain ⟨i, hi, e⟩ := List.mem_iff_getElem.1 hr
      have := h2.wid i hi
      rw [yaac hi, e] at this
      exact ⟨this.2 _ (yaal (by omega)), this.2 _ (yaal (by omega)), this.2 _ (yaal (by omega))⟩
theorem okR6 : OkR 6 rows ↔ rows.length = 0 ∨ (rows.length = 1 ∧ 0 < (rows.getD 0 []).length ∧ (rows.getD 0 []).length ≤ 500 ∧ ∀ z ∈ rows.getD 0 [], ChP z) := by
  constructor
  · rintro (⟨h, -⟩ | ⟨h, -⟩ | ⟨h, -⟩ | ⟨h, -⟩ | ⟨h, -⟩ | ⟨-, l, rfl, h2, h3⟩) <;> first | omega | skip
    unfold textR
    split
    · exact Or.inl rfl
    · rename_i hne
      exact Or.inr ⟨rfl, List.length_pos_iff.2 hne, h3, h2⟩
  · rintro (h | ⟨h, h1, h2, h3⟩)
    · have e : rows = [] := List.length_eq_zero_iff.1 h
      subst e
      exact Or.inr (Or.inr (Or.inr (Or.inr (Or.inr ⟨rfl, [], rfl, fun z hz => (by cases hz), Nat.zero_le _⟩))))
    · refine Or.inr (Or.inr (Or.inr (Or.inr (Or.inr ⟨rfl, rows.getD 0 [], ?_, h3, h2⟩))))
      have hne : rows.getD 0 [] ≠ [] := List.length_pos_iff.1 h1
      unfold textR
      rw [if_neg hne]
      match rows, h with | [_], _ => rfl
theorem yakt {k : Int} (h : OkR k rows) : 1 ≤ k ∧ k ≤ 6 := by
  rcases h with ⟨rfl, -⟩ | ⟨rfl, -⟩ | ⟨rfl, -⟩ | ⟨rfl, -⟩ | ⟨rfl, -⟩ | ⟨rfl, -⟩ <;> decide
end
theorem VP.from {P : Prop} {h0 h h' : Hp} {v : Value} (e : Ext h0 h) (x : VP P h v h') : VP P h0 v h' := ⟨x.1, e.trans x.2⟩
theorem wch_x (z : Int) (h : Hp) (K : VK) (hk : K (.bool (!decide (ChP z))) h) : callX Tryz.prog F 87 #[.int .i64 z] h K := by
  refine yaex (by kernel_rfl) (zbh_call ?_)
  rw [zbh_b0]
  exact (yauy z h).mono fun v h' ⟨hv, hh⟩ => ⟨_, hv, by rw [hh]; exact hk⟩
section
variable {h : Hp} {p : OA} {n c : Nat} {rows : List (List Int)} {k : Int}
theorem yayo (k : Int) (h : Hp) : yaae Tryz.prog 122 #[.int .i64 k] h (fun v h' => v = .tuple #[.int .i64 ((if k = 1 then 2 else if k = 5 then 3 else 1 : Nat) : Int), .int .i64 ((if k = 1 then 1 else if k = 5 then 2 else if k = 2 then 1 else 0 : Nat) : Int)] ∧ h' = h) := by
  refine zcc_call ?_
  rw [zcc_b0]
  refine condP (fun h1 => ⟨by rw [if_pos h1, if_pos h1]; rfl, rfl⟩) (fun h1 => condP (fun h5 => ⟨by rw [if_neg h1, if_neg h1, if_pos h5, if_pos h5]; rfl, rfl⟩) (fun h5 => condP (fun h2 => ⟨by rw [if_neg h1, if_neg h1, if_neg h5, if_neg h5, if_pos h2]; rfl, rfl⟩) (fun h2 => ?_)))
  rw [zcc_b1]
  exact ⟨by rw [if_neg h1, if_neg h1, if_neg h5, if_neg h5, if_neg h2]; rfl, rfl⟩
theorem yafy (r : RowsR h p n rows) (hrl : ∀ x ∈ rows, x.length ≤ 1000) :
    yaae Tryz.prog 55 #[.agg #[.int .i64 k, .slice p n c]] h (VP (OkR k rows) h) := by
  have hl := r.len
  refine zbd_call ?_
  rw [zbd_b0_eq]
  refine (St.start h).new (cs := [.int .i64 k, .slice p n c]) fun b1 h1 _ s => ?_
  have x := s.ext
  have r1 := r.ext x
  have tab : ∀ {w ky : Nat}, (∀ h, yaae Tryz.prog 122 #[.int .i64 k] h (fun v h' => v = .tuple #[.int .i64 (w : Int), .int .i64 (ky : Int)] ∧ h' = h)) → ky ≤ w ∧ w < 100 → (OkR k rows ↔ rows.length ≤ 500 ∧ TabV w ky (!decide (k = 2)) rows) → zbd_b1 (some ⟨b1, 0, none⟩) k true h1 (VP (OkR k rows) h) := by
    intro w ky hW hw e
    rw [zbd_b1_eq]
    refine yaaw rfl ⟨_, _, _, _, s.ld0, s.ldB, (yale hW hw r1 hrl).mono fun v h2 hv => ?_⟩
    obtain ⟨b, hb, hv⟩ := hv.1
    exact ⟨b, hb, ⟨b, rfl, hv.trans e.symm⟩, x.trans ‹VP _ _ _ _›.2⟩
  have hwid := yayo k
  refine ⟨_, s.ld0, condP (fun hk => ?_) (fun hk1 => condP (fun hk => ?_) (fun hk2 => condP (fun hk => ?_) (fun hk3 => ?_)))⟩
  · subst hk; exact tab hwid (by decide) okR1
  · subst hk; exact tab hwid (by decide) okR2
  · subst hk; exact tab hwid (by decide) (okR3 _)
  by_cases hk5 : k = 5
  · subst hk5; exact tab hwid (by decide) okR5
  rw [decide_eq_false hk5, zbd_b1_eq]
  refine yaat rfl (condP (fun hk => ?_) (fun hk4 => condP (fun hk => ?_) (fun hk6 => ?_)))
  · subst hk
    refine ⟨_, _, _, s.ldB, (yakz r1 hrl).mono fun v h2 hv => ?_⟩
    obtain ⟨b, hb, hv'⟩ := hv.1
    exact ⟨b, hb, ⟨b, rfl, hv'.trans okR4.symm⟩, x.trans hv.2⟩
  · subst hk
    have hsm : 0 < n → (rows.getD 0 []).length ≤ 1000 := fun hn => hrl _ (yaal (by omega))
    refine ⟨_, _, _, s.ldB, condP (fun h0 => VP.yes (okR6.2 (Or.inl (by omega))) x) (fun h0 => ⟨_, _, _, s.ldB, condP (fun h1' => ?_) (fun h1' => VP.no (fun h => by rcases okR6.1 h with h | h <;> omega) x)⟩)⟩
    refine ⟨_, _, _, s.ldB, r1.hdr (i' := 0) rfl (by omega) fun q d rr _ => condP (fun hp => ?_) (fun hp => VP.no (fun h => by rcases okR6.1 h with h | h <;> omega) x)⟩
    refine ⟨_, _, _, s.ldB, r1.hdr (i' := 0) rfl (by omega) fun q d rr _ => condP (fun hp5 => ?_) (fun hp5 => VP.no (fun h => by rcases okR6.1 h with h | h <;> omega) x)⟩
    refine ⟨_, _, _, s.ldB, r1.hdr (i' := 0) rfl (by omega) fun q d rr _ => (yade wch_x rr (by omega)).mono fun v h4 ⟨hh, hv⟩ => ⟨_, hv, ?_⟩⟩
    subst hh
    refine ⟨⟨_, rfl, ?_⟩, x⟩
    rw [yapp, decide_eq_true_eq]
    constructor
    · exact fun h => okR6.2 (Or.inr ⟨by omega, by omega, by omega, h⟩)
    · intro h
      rcases okR6.1 h with h | h
      · omega
      · exact h.2.2.2
  · rw [zbd_b2_eq]
    exact VP.no (fun h => by have := yakt h; omega) x
theorem yasw (r : RowsR h p n rows) (hrl : ∀ x ∈ rows, x.length ≤ 1000) :
    yaae Tryz.prog 37 #[.agg #[.int .i64 k, .slice p n c]] h (VP (OkR k rows) h) := by
  have hl := r.len
  refine zck_call ?_
  rw [zck_b0]
  refine (St.start h).new (cs := [.int .i64 k, .slice p n c]) fun b1 h1 _ s => ?_
  have x := s.ext
  have r1 := r.ext x
  refine ⟨_, _, _, s.ldB, condP (fun h5 => VP.no (fun h => by have := (yadv h).1; omega) x) (fun h5 => ⟨_, s.ld0, ?_⟩)⟩
  have fin : ∀ {P : Prop} {v : Value} {h2 : Hp}, (rows.length ≤ 500 → (P ↔ OkR k rows)) → VP P h1 v h2 → ∃ b : Bool, v = .bool b ∧ VP (OkR k rows) h (.bool b) h2 := by
    intro P v h2 e hv
    obtain ⟨b, hb, hv'⟩ := hv.1
    exact ⟨b, hb, ⟨b, rfl, hv'.trans (e (by omega))⟩, x.trans hv.2⟩
  have cut : ∀ {P : Prop}, (OkR k rows ↔ rows.length ≤ 500 ∧ P) → rows.length ≤ 500 → (P ↔ OkR k rows) := fun e h => ⟨fun p => e.2 ⟨h, p⟩, fun o => (e.1 o).2⟩
  refine condP (fun hk => ?_) (fun hk1 => condP (fun hk => ?_) (fun hk2 => condP (fun hk => ?_) (fun hk3 => condP (fun hk => ?_) (fun hk4 => condP (fun hk => ?_) (fun hk5 => condP (fun hk => ?_) (fun hk6 => ?_))))))
  · subst hk
    exact ⟨_, _, _, s.ldB, (yaic (w := 2) (ky := 1) (by decide) r1 (by omega)).mono fun v h2 hv => fin (cut okR1) hv⟩
  · subst hk
    exact ⟨_, _, _, s.ldB, (yaic (w := 1) (ky := 1) (by decide) r1 (by omega)).mono fun v h2 hv => fin (cut okR2) hv⟩
  · subst hk
    exact ⟨_, _, _, s.ldB, (yaic (w := 1) (ky := 0) (by decide) r1 (by omega)).mono fun v h2 hv => fin (cut (okR3 _)) hv⟩
  · subst hk
    exact ⟨_, _, _, s.ldB, (yaql r1 (by omega) hrl).mono fun v h2 hv => fin (fun _ => okR4.symm) hv⟩
  · subst hk
    exact ⟨_, _, _, s.ldB, (yaic (w := 3) (ky := 2) (by decide) r1 (by omega)).mono fun v h2 hv => fin (cut okR5) hv⟩
  · subst hk
    have hsm : 0 < n → (rows.getD 0 []).length ≤ 1000 := fun hn => hrl _ (yaal (by omega))
    refine ⟨_, _, _, s.ldB, condP (fun h0 => VP.yes (okR6.2 (Or.inl (by omega))) x) (fun h0 => ⟨_, _, _, s.ldB, condN (fun h1' => VP.no (fun h => by rcases okR6.1 h with h | h <;> omega) x) (fun h1' => ?_)⟩)⟩
    refine ⟨_, _, _, s.ldB, r1.hdr (i' := 0) rfl (by omega) fun q d rr _ => condP (fun hp => VP.no (fun h => by rcases okR6.1 h with h | h <;> omega) x) (fun hp => ?_)⟩
    refine ⟨_, _, _, s.ldB, r1.hdr (i' := 0) rfl (by omega) fun q d rr _ => condP (fun hp5 => VP.no (fun h => by rcases okR6.1 h with h | h <;> omega) x) (fun hp5 => ?_)⟩
    rw [zck_b1]
    refine ⟨fun x h' => h' = h1 ∧ ∃ i : Nat, x.1 = i ∧ i ≤ (rows.getD 0 []).length ∧ ∀ z ∈ (rows.getD 0 []).take i, ChP z, fun x _ => ((rows.getD 0 []).length - x.1).toNat, ⟨rfl, 0, rfl, Nat.zero_le _, by simp⟩, ?_⟩
    rintro ⟨_, _⟩ h3 ⟨rfl, i, rfl, hi, hz⟩
    dsimp only
    rw [zck_b3]
    refine ⟨_, _, _, s.ldB, r1.hdr (i' := 0) rfl (by omega) fun q d rr _ => condP (fun hlt => ?_) (fun hge => ?_)⟩
    · have hno : ∀ z, (rows.getD 0 []).getD i 0 = z → ¬ ChP z → ¬ OkR 6 rows := fun z hz hc h => by
        rcases okR6.1 h with h | h
        · omega
        · exact hc (h.2.2.2 _ (by rw [← hz]; exact yaal (by omega)))
      refine ⟨_, _, _, s.ldB, r1.get (i' := 0) rfl (by omega) rfl (by omega) (condP (fun hneg => VP.no (hno _ rfl (by omega)) x) (fun hneg => ⟨_, _, _, s.ldB, r1.get (i' := 0) rfl (by omega) rfl (by omega) (condP (fun hbig => VP.no (hno _ rfl (by omega)) x) (fun hbig => ?_))⟩))⟩
      rw [zck_b4]
      refine ⟨⟨by omega, by omega⟩, ⟨rfl, i + 1, by push_cast; rfl, by omega, fun z hz' => ?_⟩, by dsimp only; omega⟩
      rw [List.take_succ_eq_append_getElem (by omega)] at hz'
      rcases List.mem_append.1 hz' with hz' | hz'
      · exact hz z hz'
      · rw [List.mem_singleton.1 hz']
        rw [yaac (l := rows.getD 0 []) (by omega)] at hneg hbig
        exact ⟨by omega, by omega⟩
    · rw [zck_b5]
      rw [List.take_of_length_le (by omega)] at hz
      exact VP.yes (okR6.2 (Or.inr ⟨by omega, by omega, by omega, hz⟩)) x
  · rw [zck_b2]
    exact VP.no (fun h => by have := yakt h; omega) x
end
def yanl (h0 : Hp) (G : Bag) (k : Int) (rows : List (List Int)) (e z : Int) (v : Value) (h' : Hp) : Prop :=
  ∃ q m d B', v = .tuple #[.agg #[.int .i64 k, .slice q m d], .agg #[.int .i64 e, .int .i64 z, .slice none 0 0], .int .i64 0] ∧ RowsA (q, m, d) rows B' ∧ St h0 h' (B' + G)
theorem yarr {h : Hp} {k : Int} {rows : List (List Int)} {p q : OA} {n c m cc : Nat} {code : Int} {zs : List Int} (ok : OkR k rows) (hv : OpV k code zs) (r : RowsR h p n rows) (rz : RdT TI h q m zs) (hmc : m ≤ cc) (hm : m ≤ 100) :
    yaae Tryz.prog 46 #[.agg #[.int .i64 k, .slice p n c], .agg #[.int .i64 code, .slice q m cc]] h (yanl h 0 k (stepR k rows code zs).1 (stepR k rows code zs).2.1 (stepR k rows code zs).2.2) := by
  have hl := r.len
  have hsm := yadv ok
  obtain ⟨R, hR⟩ : ∃ R, stepR k rows code zs = R := ⟨_, rfl⟩
  rw [hR]
  refine zbc_call ?_
  rw [zbc_b0]
  refine (St.start h).new (cs := [.int .i64 k, .slice p n c]) fun b1 h1' x1 s1 => ?_
  refine s1.new (cs := [.int .i64 code, .slice q m cc]) fun b2 h2 x2 s2 => ?_
  refine s2.new (cs := [.int .i64 0, .slice none 0 0]) fun b3 h3 x3 s3 => ?_
  refine s3.new (cs := [.int .i64 0, .int .i64 0, .slice none 0 0]) fun b4 h4 x4 s => ?_
  have s4 := s.to (B := cA b1 [.int .i64 k, .slice p n c] 24 + (cA b2 [.int .i64 code, .slice q m cc] 50 + (cA b3 [.int .i64 0, .slice none 0 0] 24 + (cA b4 [.int .i64 0, .int .i64 0, .slice none 0 0] 58 + 0))))
  have x5 := s.ext
  clear s s1 s2 s3
  refine ⟨_, _, _, _, s4.blk.cell 0, Blk.cellA s4.blk 1, ?_⟩
  refine (yafy (r.ext x5) (fun r hr => by have := hsm.2 r hr; omega)).mono fun v5 h5 hv5 => ?_
  obtain ⟨⟨bb, hv5, hbb⟩, x6⟩ := hv5
  have hbt := hbb.2 ok
  subst hbt
  refine ⟨_, hv5, yaat rfl ?_⟩
  have s5 := s4.grow x6
  refine ⟨_, s5.blk.cell 0, _, _, _, _, s5.atomBlk.cell 0, Blk.cellA s5.atomBlk 1, ?_⟩
  refine (yavh (rz.ext (x5.trans x6))).mono fun v6 h6 ⟨hv6, x7⟩ => ⟨_, hv6, yaat (by rw [decide_eq_true hv]; rfl) ?_⟩
  have s6 := s5.grow x7
  have r6 := r.ext s6.ext
  have rz6 := (rz.ext (x5.trans x6)).ext x7
  clear s5 s4
  rw [zbc_b1]
  have c1 : cell h6 ⟨b1, 0, none⟩ = some (.int .i64 k) := s6.blk.cell 0
  have c1' : cell h6 ((⟨b1, 0, none⟩ : Addr).add 1) = some (.slice p n c) := Blk.cellA s6.blk 1
  have c2 : cell h6 ⟨b2, 0, none⟩ = some (.int .i64 code) := s6.atomBlk.cell 0
  have c2' : cell h6 ((⟨b2, 0, none⟩ : Addr).add 1) = some (.slice q m cc) := Blk.cellA s6.atomBlk 1
  have cp : ∀ {h' : Hp}, Ext h6 h' → yaae Tryz.prog 58 #[.slice p n c] h' (fun v h'' => ∃ q d B', v = .slice q n d ∧ RowsA (q, n, d) rows B' ∧ St h' h'' B') := fun x => yarq (r6.ext x) (by omega) (fun r hr => by have := hsm.2 r hr; omega)
  have ap : ∀ {h' : Hp} {q1 : OA} {d1 : Nat} {B1 G1 : Bag}, RowsA (q1, n, d1) rows B1 → St h6 h' (B1 + G1) → yaae Tryz.prog 59 #[.int .i64 k, .slice q1 n d1, .agg #[.int .i64 code, .slice q m cc]] h' (yafk h6 G1 R.1 R.2.1 R.2.2) := fun na1 s => by
    have := yawa (G := _) ok hv na1 (fun h' A s' => rz6.ext s'.ext) hmc hm s
    rw [MRunP, hR] at this
    exact this
  have fin : ∀ {h' : Hp} {bx : Nat} {q2 : OA} {m2 d2 : Nat} {B2 : Bag}, RowsA (q2, m2, d2) R.1 B2 → St h6 h' (cA bx [.int .i64 0, .int .i64 0, .slice none 0 0] 58 + B2) →
      Wr h' ⟨bx, 0, none⟩ (.int .i64 R.2.1) fun h20 => Wr h20 ((⟨bx, 0, none⟩ : Addr).add 1) (.int .i64 R.2.2) fun h21 => Wr h21 ((⟨bx, 0, none⟩ : Addr).add 2) (.slice none 0 0) fun h22 => zbc_b2 (some ⟨b1, 0, none⟩) (some ⟨b3, 0, none⟩) (some ⟨b4, 0, none⟩) q2 m2 d2 (some ⟨bx, 0, none⟩) h22 (yanl h 0 k R.1 R.2.1 R.2.2) := by
    intro h' bx q2 m2 d2 B2 na2 s'
    refine s'.wr rfl (by simp) fun h20 s' => ?_
    refine s'.wr (o := 1) (yabd _ _ _) (by simp) fun h21 s' => ?_
    refine s'.wr (o := 2) (yabd _ _ _) (by simp) fun h22 s' => ?_
    have s' : St h6 h22 (cA bx [.int .i64 R.2.1, .int .i64 R.2.2, .slice none 0 0] 58 + B2) := s'
    rw [zbc_b2]
    have cx := s'.blk
    have s := (s6.join s').to (B := cA b3 [.int .i64 0, .slice none 0 0] 24 + (cA b4 [.int .i64 0, .int .i64 0, .slice none 0 0] 58 + (cA bx [.int .i64 R.2.1, .int .i64 R.2.2, .slice none 0 0] 58 + (cA b1 [.int .i64 k, .slice p n c] 24 + (cA b2 [.int .i64 code, .slice q m cc] 50 + (B2 + 0))))))
    refine ⟨_, s'.ext.cell c1, _, _, _, _, _, cx.cell 0, Blk.cellA cx 1, Blk.cellA cx 2, ?_⟩
    refine s.wr rfl (by simp) fun h23 s => ?_
    refine s.wr (o := 1) (yabd _ _ _) (by simp) fun h24 s => ?_
    have s : St h h24 (cA b3 [.int .i64 k, .slice q2 m2 d2] 24 + (cA b4 [.int .i64 0, .int .i64 0, .slice none 0 0] 58 + (cA bx [.int .i64 R.2.1, .int .i64 R.2.2, .slice none 0 0] 58 + (cA b1 [.int .i64 k, .slice p n c] 24 + (cA b2 [.int .i64 code, .slice q m cc] 50 + (B2 + 0)))))) := s
    have cx := (s.to (B := cA bx [.int .i64 R.2.1, .int .i64 R.2.2, .slice none 0 0] 58 + (cA b4 [.int .i64 0, .int .i64 0, .slice none 0 0] 58 + (cA b3 [.int .i64 k, .slice q2 m2 d2] 24 + (cA b1 [.int .i64 k, .slice p n c] 24 + (cA b2 [.int .i64 code, .slice q m cc] 50 + (B2 + 0))))))).blk
    refine ⟨⟨_, _, _, _, _, cx.cell 0, Blk.cellA cx 1, Blk.cellA cx 2, rfl⟩, ?_⟩
    have s := s.to (B := cA b4 [.int .i64 0, .int .i64 0, .slice none 0 0] 58 + (cA b3 [.int .i64 k, .slice q2 m2 d2] 24 + (cA bx [.int .i64 R.2.1, .int .i64 R.2.2, .slice none 0 0] 58 + (cA b1 [.int .i64 k, .slice p n c] 24 + (cA b2 [.int .i64 code, .slice q m cc] 50 + (B2 + 0))))))
    refine s.wr rfl (by simp) fun h25 s => ?_
    refine s.wr (o := 1) (yabd _ _ _) (by simp) fun h26 s => ?_
    refine s.wr (o := 2) (yabd _ _ _) (by simp) fun h27 s => ?_
    have s : St h h27 (cA b4 [.int .i64 R.2.1, .int .i64 R.2.2, .slice none 0 0] 58 + (cA b3 [.int .i64 k, .slice q2 m2 d2] 24 + (cA bx [.int .i64 R.2.1, .int .i64 R.2.2, .slice none 0 0] 58 + (cA b1 [.int .i64 k, .slice p n c] 24 + (cA b2 [.int .i64 code, .slice q m cc] 50 + (B2 + 0)))))) := s
    refine ⟨_, _, _, _, s.atomBlk.cell 0, Blk.cellA s.atomBlk 1, _, _, _, _, _, s.blk.cell 0, Blk.cellA s.blk 1, Blk.cellA s.blk 2, q2, m2, d2, B2, rfl, na2, s.drop.drop.drop.drop.drop⟩
  refine ⟨_, c1, _, _, _, c1', _, _, _, _, c2, c2', ?_⟩
  have s := St.start h6
  repeat' first
    | (with_reducible refine fin na2 ?_); exact s.to
    | (with_reducible refine St.new s (cs := [.int .i64 0, .int .i64 0, .slice none 0 0]) ?_); intro _ _ _ s
    | (with_reducible refine yaae.mono (cp s.ext) ?_); rintro _ _ ⟨q1, d1, B1, hv1, na1, tt⟩; refine ⟨_, _, _, hv1, ?_⟩; have s := s.join tt; clear tt
    | (with_reducible refine yaae.mono (ap na1 (s.at _)) ?_); rintro _ _ ⟨q2, m2, d2, B2, hv2, na2, s⟩; refine ⟨_, _, _, _, _, _, _, _, hv2, ?_⟩
    | with_reducible refine ⟨⟨_, _, _, _, s.ext.cell c2, s.ext.cell c2', rfl⟩, ?_⟩
    | with_reducible refine ⟨⟨_, s.ext.cell c1, rfl⟩, ?_⟩
    | with_reducible refine ⟨⟨_, _, _, s.ext.cell c1', rfl⟩, ?_⟩
    | with_reducible refine ⟨?_, ?_⟩
theorem yavb {k : Int} (hk : 1 ≤ k ∧ k ≤ 6) : OkR k [] := by
  have hc : k = 1 ∨ k = 2 ∨ k = 3 ∨ k = 4 ∨ k = 5 ∨ k = 6 := by omega
  rcases hc with rfl | rfl | rfl | rfl | rfl | rfl
  · exact Or.inl ⟨rfl, [], rfl, List.Pairwise.nil, fun e he => (by cases he), Nat.zero_le _⟩
  · exact Or.inr (Or.inl ⟨rfl, [], rfl, List.Pairwise.nil, fun e he => (by cases he), Nat.zero_le _⟩)
  · exact Or.inr (Or.inr (Or.inl ⟨rfl, [], rfl, fun e he => (by cases he), Nat.zero_le _⟩))
  · exact okR4.2 ⟨fun r hr => by (cases hr), List.Pairwise.nil, by exact List.Perm.refl _, Nat.zero_le _⟩
  · exact Or.inr (Or.inr (Or.inr (Or.inr (Or.inl ⟨rfl, [], rfl, List.Pairwise.nil, fun e he => (by cases he), Nat.zero_le _⟩))))
  · exact okR6.2 (Or.inl rfl)
structure Ev where
  t : EvT
  zs : List Int
  ls : List Int
abbrev dEv : Ev := ⟨tEv.d, [], []⟩
abbrev Rows := List (List Int)
def precT (a b : EvT) : Prop := 0 ≤ a.en ∧ a.en < b.bg
instance (a b : EvT) : Decidable (precT a b) := inferInstanceAs (Decidable (_ ∧ _))
abbrev prec (a b : Ev) : Prop := precT a.t b.t
def One (e : Ev) : Prop := (0 ≤ e.t.th ∧ e.t.th < 8) ∧ (0 ≤ e.t.bg ∧ e.t.bg ≤ 65536) ∧ (e.t.en = -1 ∨ e.t.bg ≤ e.t.en ∧ e.t.en ≤ 65536) ∧ (e.t.en = -1 → e.t.er = 0 ∧ e.t.nu = 0 ∧ e.ls = [])
def ThrP (a b : Ev) : Prop := a.t.th = b.t.th → prec a b
def KindP (k : Int) (l : List Ev) : Prop := ∀ e ∈ l, OpV k e.t.co e.zs
def HistK (k : Int) (l : List Ev) : Prop := l.length ≤ 1000 ∧ (∀ e ∈ l, One e) ∧ l.Pairwise ThrP ∧ KindP k l
theorem yarx {a b c : Ev} (hb : One b) (h1 : prec a b) (h2 : prec b c) : prec a c := by
  obtain ⟨_, _, h, _⟩ := hb
  unfold prec precT at *
  omega
theorem yask {a : Ev} (ha : One a) : ¬ prec a a := by
  obtain ⟨_, _, h, _⟩ := ha
  unfold prec precT
  omega
def stepE (k : Int) (rows : Rows) (e : Ev) : Option Rows :=
  if 0 ≤ e.t.en ∧ ¬ ((stepR k rows e.t.co e.zs).2.1 = e.t.er ∧ (stepR k rows e.t.co e.zs).2.2 = e.t.nu ∧ e.ls = []) then none else some (stepR k rows e.t.co e.zs).1
def Nxt (l : List Ev) (D : Nat → Bool) (i : Nat) : Prop := D i = false ∧ ∀ j, j < l.length → D j = false → ¬ prec (l.getD j dEv) (l.getD i dEv)
def setD (D : Nat → Bool) (i : Nat) : Nat → Bool := fun j => decide (j = i) || D j
def Cpl (l : List Ev) (D : Nat → Bool) : Prop := ∀ j, j < l.length → 0 ≤ (l.getD j dEv).t.en → D j = true
def Lin (k : Int) (l : List Ev) : List Nat → (Nat → Bool) → Rows → Prop
  | [], D, _ => Cpl l D
  | i :: o, D, rows => i < l.length ∧ Nxt l D i ∧ ∃ r', stepE k rows (l.getD i dEv) = some r' ∧ Lin k l o (setD D i) r'
theorem yahr {D : Nat → Bool} {i : Nat} : setD D i i = true := by simp [setD]
theorem yauj {D : Nat → Bool} {i j : Nat} (h : j ≠ i) : setD D i j = D j := by simp [setD, h]
def lft (n : Nat) (D : Nat → Bool) : Nat := (List.range n).countP fun i => !D i
theorem yanh {k : Int} {rows r' : Rows} {e : Ev} (ok : OkR k rows) (hv : OpV k e.t.co e.zs) (h : stepE k rows e = some r') : OkR k r' := by
  unfold stepE at h
  split at h
  · cases h
  · cases h
    exact yarm ok hv
def DirP (l : List Ev) (i j : Nat) : Prop := prec (l.getD i dEv) (l.getD j dEv) ∧ ∀ k, k < l.length → ¬ (prec (l.getD i dEv) (l.getD k dEv) ∧ prec (l.getD k dEv) (l.getD j dEv))
instance (l : List Ev) (i j : Nat) : Decidable (DirP l i j) := inferInstanceAs (Decidable (_ ∧ ∀ k, k < l.length → ¬ (_ ∧ _)))
def OneT (e : EvT) : Prop := e.en = -1 ∨ e.bg ≤ e.en
theorem One.one {e : Ev} (h : One e) : OneT e.t := by
  obtain ⟨_, _, h, _⟩ := h
  unfold OneT
  omega
abbrev Cf := List Bool × Rows
def dn (c : Cf) : Nat → Bool := fun i => c.1.getD i false
instance (l : List Ev) (D : Nat → Bool) (i : Nat) : Decidable (Nxt l D i) := inferInstanceAs (Decidable (_ ∧ ∀ j, j < l.length → _))
def sucC (k : Int) (l : List Ev) (c : Cf) (i : Nat) : Option Cf := if Nxt l (dn c) i then (stepE k c.2 (l.getD i dEv)).map fun r => (c.1.set i true, r) else none
def sucs (k : Int) (l : List Ev) (c : Cf) : List Cf := (List.range l.length).filterMap (sucC k l c)
def lev (k : Int) (l : List Ev) (c : Cf) : Nat → List Cf
  | 0 => [c]
  | d + 1 => (lev k l c d).flatMap (sucs k l)
theorem yaxv {n : Nat} {D : Nat → Bool} {i : Nat} (hi : i < n) (h : D i = false) : lft n (setD D i) + 1 = lft n D := by
  unfold lft
  induction n with
  | zero => omega
  | succ n ih =>
    rw [List.range_succ, List.countP_append, List.countP_append, List.countP_singleton, List.countP_singleton]
    rcases Nat.lt_or_ge i n with h1 | h1
    · have := ih h1
      rw [yauj (by omega)]
      omega
    · obtain rfl : i = n := by omega
      rw [yahr, h]
      have : (List.range i).countP (fun j => !setD D i j) = (List.range i).countP fun j => !D j := List.countP_congr fun j hj => by
        rw [yauj (by have := List.mem_range.1 hj; omega)]
      rw [this]
      simp
def allC (k : Int) (l : List Ev) (c : Cf) : List Cf := (List.range (l.length + 1)).flatMap (lev k l c)
instance (l : List Ev) (D : Nat → Bool) : Decidable (Cpl l D) := inferInstanceAs (Decidable (∀ j, j < l.length → _))
def wit (k : Int) (l : List Ev) : List Int → (Nat → Bool) → Rows → Int → Bool × Int
  | [], D, _, i => if Cpl l D then (true, -1) else (false, i)
  | o :: os, D, rows, i => if Nxt l D o.toNat then (match stepE k rows (l.getD o.toNat dEv) with | none => (false, i) | some r => wit k l os (setD D o.toNat) r (i + 1)) else (false, i)
def witR (k : Int) (l : List Ev) (os : List Int) (rows : Rows) : Bool × Int × Int :=
  if ∃ o ∈ os, o < 0 ∨ (l.length : Int) ≤ o then (false, 0, 2) else if ¬ os.Nodup then (false, 0, 10) else ((wit k l os (fun _ => false) rows 0).1, (wit k l os (fun _ => false) rows 0).2, 0)
open Go Go.Sx Go.Lib
def valD : List UInt8 → Nat := List.foldl (fun a b => a * 10 + (b.toNat - 48)) 0
def isD (b : UInt8) : Prop := 48 ≤ b.toNat ∧ b.toNat ≤ 57
theorem yazj : ∀ i : Fin 10, (UInt8.ofNat (48 + i.val)).toNat = 48 + i.val := by decide
theorem yalb (u : Nat) : valD (decDigits u) = u ∧ (∀ b ∈ decDigits u, isD b) ∧ decDigits u ≠ [] := by
  induction u using Nat.strongRecOn with
  | _ u ih =>
    rw [decDigits]
    split
    · rename_i h
      have := yazj ⟨u, h⟩
      simp only at this
      refine ⟨?_, fun b hb => ?_, by simp⟩
      · show 0 * 10 + ((UInt8.ofNat (48 + u)).toNat - 48) = u
        rw [this]; omega
      · rw [List.mem_singleton.1 hb]
        unfold isD
        rw [this]; omega
    · rename_i h
      obtain ⟨h1, h2, h3⟩ := ih (u / 10) (by omega)
      have := yazj ⟨u % 10, by omega⟩
      simp only at this
      refine ⟨?_, fun b hb => ?_, by simp⟩
      · unfold valD at h1 ⊢
        rw [List.foldl_append, h1]
        show u / 10 * 10 + ((UInt8.ofNat (48 + u % 10)).toNat - 48) = u
        rw [this]; omega
      · rcases List.mem_append.1 hb with hb | hb
        · exact h2 b hb
        · rw [List.mem_singleton.1 hb]
          unfold isD
          rw [this]; omega
theorem yapi {n m : Int} (h : itoa n = itoa m) : n = m := by
  have key : ∀ (u : Nat) (l : List UInt8), decDigits u ≠ 45 :: l := fun u l hc => by
    have := (yalb u).2.1 45 (by rw [hc]; exact List.mem_cons_self)
    unfold isD at this
    revert this
    decide
  unfold itoa at h
  split at h <;> split at h
  · injection h with _ h
    have := congrArg valD h
    rw [(yalb _).1, (yalb _).1] at this
    omega
  · exact absurd h.symm (key _ _)
  · exact absurd h (key _ _)
  · have := congrArg valD h
    rw [(yalb _).1, (yalb _).1] at this
    omega
theorem yajj {n : Int} : ∀ b ∈ itoa n, b ≠ 44 ∧ b ≠ 59 := by
  have key : ∀ b : UInt8, isD b → b ≠ 44 ∧ b ≠ 59 := fun b h => by
    unfold isD at h
    refine ⟨?_, ?_⟩ <;> rintro rfl <;> revert h <;> decide
  intro b hb
  unfold itoa at hb
  split at hb
  · rcases List.mem_cons.1 hb with rfl | hb
    · decide
    · exact key b ((yalb _).2.1 b hb)
  · exact key b ((yalb _).2.1 b hb)
def Beg (c : UInt8) : List UInt8 → Prop
  | [] => True
  | b :: _ => b = c
theorem yaep {c : UInt8} : ∀ {a b x y : List UInt8}, (∀ z ∈ a, z ≠ c) → (∀ z ∈ b, z ≠ c) → Beg c x → Beg c y → a ++ x = b ++ y → a = b ∧ x = y
  | [], [], _, _, _, _, _, _, h => ⟨rfl, h⟩
  | [], b :: br, x, y, _, hb, hx, _, h => by
    have h : x = b :: (br ++ y) := h
    subst h
    exact absurd hx (hb b List.mem_cons_self)
  | a :: ar, [], x, y, ha, _, _, hy, h => by
    have h : a :: (ar ++ x) = y := h
    subst h
    exact absurd hy (ha a List.mem_cons_self)
  | a :: ar, b :: br, x, y, ha, hb, hx, hy, h => by
    injection h with h1 h2
    obtain ⟨h3, h4⟩ := yaep (fun z hz => ha z (List.mem_cons_of_mem _ hz)) (fun z hz => hb z (List.mem_cons_of_mem _ hz)) hx hy h2
    exact ⟨by rw [h1, h3], h4⟩
def rowK (r : List Int) : List UInt8 := r.flatMap fun n => 44 :: itoa n
def rowsK (rows : Rows) : List UInt8 := rows.flatMap fun r => 59 :: rowK r
def keyK (mask : Int) (rows : Rows) : List UInt8 := itoa mask ++ rowsK rows
theorem yasb : ∀ {r : List Int}, Beg 44 (rowK r)
  | [] => trivial
  | _ :: _ => rfl
theorem yafs : ∀ {r : Rows}, Beg 59 (rowsK r)
  | [] => trivial
  | _ :: _ => rfl
theorem yauk {r : List Int} : ∀ b ∈ rowK r, b ≠ 59 := fun b hb => by
  obtain ⟨n, _, h⟩ := List.mem_flatMap.1 hb
  rcases List.mem_cons.1 h with rfl | h
  · decide
  · exact (yajj b h).2
theorem yaqh : ∀ {r t : List Int}, rowK r = rowK t → r = t
  | [], [], _ => rfl
  | [], _ :: _, h => by cases h
  | _ :: _, [], h => by cases h
  | a :: r, b :: t, h => by
    have h : 44 :: (itoa a ++ rowK r) = 44 :: (itoa b ++ rowK t) := h
    injection h with _ h
    obtain ⟨h1, h2⟩ := yaep (fun z hz => (yajj z hz).1) (fun z hz => (yajj z hz).1) yasb yasb h
    rw [yapi h1, yaqh h2]
theorem yamx : ∀ {r t : Rows}, rowsK r = rowsK t → r = t
  | [], [], _ => rfl
  | [], _ :: _, h => by cases h
  | _ :: _, [], h => by cases h
  | a :: r, b :: t, h => by
    have h : 59 :: (rowK a ++ rowsK r) = 59 :: (rowK b ++ rowsK t) := h
    injection h with _ h
    obtain ⟨h1, h2⟩ := yaep yauk yauk yafs yafs h
    rw [yaqh h1, yamx h2]
theorem yayj {m m' : Int} {r r' : Rows} (h : keyK m r = keyK m' r') : m = m' ∧ r = r' := by
  obtain ⟨h1, h2⟩ := yaep (fun z hz => (yajj z hz).2) (fun z hz => (yajj z hz).2) yafs yafs h
  exact ⟨yapi h1, yamx h2⟩
open Go Go.Sx Go.Lib
def kyS (m : Nat) (r : Rows) : ByteArray := ⟨(keyK (m : Int) r).toArray⟩
theorem yavl {m m' : Nat} {r r' : Rows} (h : kyS m r = kyS m' r') : m = m' ∧ r = r' := by
  have h1 := congrArg (fun b : ByteArray => b.data.toList) h
  have h2 : keyK (m : Int) r = keyK (m' : Int) r' := by simpa [kyS] using h1
  obtain ⟨h3, h4⟩ := yayj h2
  exact ⟨by omega, h4⟩
def Fails (k : Int) (l : List Ev) (m : Nat) (r : Rows) : Prop := ¬ ∃ o, Lin k l o m.testBit r
def FailK (k : Int) (l : List Ev) (key : ByteArray) : Prop := ∃ m r, key = kyS m r ∧ Fails k l m r
def Memo (k : Int) (l : List Ev) (b : Nat) (ps : List (ByteArray × Bool)) : Prop := ∀ e ∈ ps, e.2 = true ∧ (FailK k l e.1 ∨ ∃ m r, e.1 = kyS m r ∧ b < lft l.length m.testBit)
def Grew (k : Int) (l : List Ev) (ps qs : List (ByteArray × Bool)) : Prop := ∀ e ∈ qs, e.2 = true ∧ (e ∈ ps ∨ FailK k l e.1)
theorem Grew.refl {k : Int} {l : List Ev} {b : Nat} {ps : List (ByteArray × Bool)} (h : Memo k l b ps) : Grew k l ps ps := fun e he => ⟨(h e he).1, .inl he⟩
theorem Grew.trans {k : Int} {l : List Ev} {ps qs rs : List (ByteArray × Bool)} (h : Grew k l ps qs) (g : Grew k l qs rs) : Grew k l ps rs := fun e he => ⟨(g e he).1, (g e he).2.elim (fun h1 => (h e h1).2) .inr⟩
theorem Grew.memo {k : Int} {l : List Ev} {b : Nat} {ps qs : List (ByteArray × Bool)} (h : Grew k l ps qs) (m : Memo k l b ps) : Memo k l b qs := fun e he => ⟨(h e he).1, (h e he).2.elim (fun h1 => (m e h1).2) .inl⟩
theorem yawn {k : Int} {l : List Ev} {b m : Nat} {r : Rows} {ps : List (ByteArray × Bool)} {v : Bool} (h : Memo k l b ps) (hb : b = lft l.length m.testBit) (hm : (kyS m r, v) ∈ ps) : v = true ∧ Fails k l m r := by
  obtain ⟨h1, h2⟩ := h _ hm
  refine ⟨h1, ?_⟩
  rcases h2 with ⟨m', r', h3, h4⟩ | ⟨m', r', h3, h4⟩
  · obtain ⟨rfl, rfl⟩ := yavl h3
    exact h4
  · obtain ⟨rfl, rfl⟩ := yavl h3
    omega
theorem yaiw {κ ν : Type} [DecidableEq κ] {k : κ} {v : ν} {e : κ × ν} : ∀ {l : List (κ × ν)}, e ∈ setk l k v → e = (k, v) ∨ e ∈ l
  | [], h => .inl (List.mem_singleton.1 h)
  | (a, w) :: l, h => by
    unfold setk at h
    split at h
    · rcases List.mem_cons.1 h with h | h
      · exact .inl h
      · exact .inr (List.mem_cons_of_mem _ h)
    · rcases List.mem_cons.1 h with h | h
      · exact .inr (h ▸ List.mem_cons_self)
      · exact (yaiw h).imp id (List.mem_cons_of_mem _)
theorem yaxb {k : Int} {l : List Ev} {b b' m : Nat} {r : Rows} {ps : List (ByteArray × Bool)} (h : Memo k l b ps) (hb : b = lft l.length m.testBit) (hb' : b' < b) : Memo k l b' (setk ps (kyS m r) true) := fun e he => by
  rcases yaiw he with rfl | he
  · exact ⟨rfl, .inr ⟨m, r, rfl, by omega⟩⟩
  · refine ⟨(h e he).1, (h e he).2.imp id ?_⟩
    rintro ⟨m', r', h1, h2⟩
    exact ⟨m', r', h1, by omega⟩
theorem yaxo {k : Int} {l : List Ev} {m : Nat} {r : Rows} {ps qs : List (ByteArray × Bool)} (g : Grew k l (setk ps (kyS m r) true) qs) (hf : Fails k l m r) : Grew k l ps qs := fun e he => by
  refine ⟨(g e he).1, ?_⟩
  rcases (g e he).2 with h1 | h1
  · rcases yaiw h1 with rfl | h1
    · exact .inr ⟨m, r, rfl, hf⟩
    · exact .inl h1
  · exact .inr h1
theorem yahu {m i : Nat} : (m ||| 2 ^ i).testBit = setD m.testBit i := by
  funext j
  rw [Nat.testBit_or, Nat.testBit_two_pow]
  unfold setD
  by_cases h : i = j
  · subst h; simp
  · simp [h, Ne.symm h]
def AllM (l : List Ev) (n a : Nat) : Prop := ∀ j, a.testBit j = (decide (j < n) && decide (0 ≤ (l.getD j dEv).t.en))
theorem yavm {l : List Ev} {a m : Nat} (h : AllM l l.length a) : m &&& a = a ↔ Cpl l m.testBit := by
  constructor
  · intro e j hj hc
    have h1 := h j
    rw [← e, Nat.testBit_and, decide_eq_true hj, decide_eq_true hc] at h1
    simp at h1
    exact h1.1
  · intro hc
    refine Nat.eq_of_testBit_eq fun j => ?_
    rw [Nat.testBit_and, h j]
    by_cases hj : j < l.length
    · by_cases he : 0 ≤ (l.getD j dEv).t.en
      · rw [hc j hj he]; simp
      · rw [decide_eq_false he, Bool.and_false, Bool.and_false]
    · simp [hj]
theorem yatx {l : List Ev} : AllM l 0 0 := fun j => by simp
theorem yaxm {l : List Ev} {n a : Nat} (h : AllM l n a) (hc : 0 ≤ (l.getD n dEv).t.en) : AllM l (n + 1) (a ||| 2 ^ n) := fun j => by
  rw [yahu]
  unfold setD
  rw [h j]
  by_cases hj : j = n
  · subst hj; rw [decide_eq_true hc]; simp
  · simp [hj, show (j < n + 1) = (j < n) from propext ⟨fun h => by omega, fun h => by omega⟩]
theorem ybax {l : List Ev} {n a : Nat} (h : AllM l n a) (hc : ¬ 0 ≤ (l.getD n dEv).t.en) : AllM l (n + 1) a := fun j => by
  rw [h j]
  by_cases hj : j = n
  · subst hj; rw [decide_eq_false hc]; simp
  · simp [show (j < n + 1) = (j < n) from propext ⟨fun h => by omega, fun h => by omega⟩]
theorem ybao {m i n : Nat} (hm : m < 2 ^ n) (hi : i < n) : m ||| 2 ^ i < 2 ^ n := Nat.or_lt_two_pow hm (Nat.pow_lt_pow_right (by decide) hi)
theorem yaut {l : List Ev} {n a : Nat} (h : AllM l n a) : a < 2 ^ n := Nat.lt_pow_two_of_testBit _ fun j hj => by rw [h j]; simp; omega
theorem yawh {n : Nat} : lft n (Nat.testBit 0) = n := by
  unfold lft
  rw [List.countP_eq_length.2 (fun i _ => by simp), List.length_range]
theorem yaux {m i : Nat} : ((m >>> i) &&& 1 = 1) ↔ m.testBit i = true := by
  rw [Nat.and_one_is_mod, Nat.testBit_eq_decide_div_mod_eq, Nat.shiftRight_eq_div_pow, decide_eq_true_eq]
end Go.Proofs.YtllhdhpjgihjfaaGreatDoor
