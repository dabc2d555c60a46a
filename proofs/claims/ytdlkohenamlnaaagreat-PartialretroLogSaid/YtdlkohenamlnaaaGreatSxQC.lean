/- Part LK LL LM LN LO LP LQ LS LT LU QA QB QC of the proof: contracts of functions of the program, and what follows from them. -/
import Derived.Test.YtdlkohenamlnaaaGreatSxLJ
set_option maxRecDepth 100000
/- Layer 3: texts. -/
namespace Go.Proofs.YtdlkohenamlnaaaGreat
open Go Go.Sx
def textR (l : List Int) : List (List Int) := if l = [] then [] else [l]
abbrev occA (l p : List Int) (i : Nat) : Prop := (l.drop i).take p.length = p
def posN (l p : List Int) (k : Nat) : List Nat := (List.range k).filter fun i => decide (occA l p i)
def yady (l : List Nat) : Int := match l.head? with | none => -1 | some i => (i : Int)
def textS (l : List Int) (c : Int) (zs : List Int) : List Int × Int × Int :=
  if c = 4 then (l, 0, (l.length : Int)) else if c = 1 then (if 500 < l.length + zs.length then (l, 4, 0) else (l ++ zs, 0, 0))
  else if c = 2 then (l, 0, ((posN l zs l.length).length : Int)) else if yady (posN l zs l.length) < 0 then (l, 12, 0) else (l, 0, yady (posN l zs l.length))
theorem yaeu (l p : List Int) (k : Nat) : posN l p (k + 1) = posN l p k ++ (if occA l p k then [k] else []) := by
  unfold posN
  rw [List.range_succ, List.filter_append]
  congr 1
  by_cases h : occA l p k
  · rw [if_pos h, List.filter_cons, if_pos (decide_eq_true h)]; rfl
  · rw [if_neg h, List.filter_cons, if_neg (by rw [decide_eq_false h]; decide)]; rfl
theorem yawe {l p : List Int} {k : Nat} : ∀ {k' : Nat}, k ≤ k' → (∀ i, k ≤ i → ¬ occA l p i) → posN l p k' = posN l p k
  | k', h, hn => by
    induction k' with
    | zero => rw [show k = 0 by omega]
    | succ k' ih =>
      rcases Nat.lt_or_ge k' k with hlt | hge
      · rw [show k = k' + 1 by omega]
      · rw [yaeu, if_neg (hn k' hge), List.append_nil, ih hge]
theorem yaop (l p : List Int) (k : Nat) : (posN l p k).length ≤ k := by
  unfold posN
  exact Nat.le_trans (List.length_filter_le _ _) (by rw [List.length_range]; omega)
theorem yalx (l : List Nat) (i : Nat) : yady (l ++ [i]) = if yady l < 0 then (i : Int) else yady l := by
  cases l with
  | nil => rfl
  | cons a l => show (a : Int) = if (a : Int) < 0 then (i : Int) else (a : Int); rw [if_neg (by omega)]
theorem yavj {l p : List Int} {i : Nat} (hp : p ≠ []) (h : occA l p i) : i + p.length ≤ l.length := by
  have e := congrArg List.length h
  rw [List.length_take, List.length_drop] at e
  have : 0 < p.length := List.length_pos_iff.2 hp
  omega
section
variable {h0 h : Hp} {b1 b2 b3 b4 : Nat} {l : List Int} {p q : OA} {n c m cc : Nat} {code : Int} {zs : List Int} {B G : Bag} {x0 x1 y0 y1 y2 : Value}
abbrev TextP (h0 : Hp) (G : Bag) (l : List Int) (c : Int) (zs : List Int) : VK := StepP h0 G 6 (textR (textS l c zs).1) (textS l c zs).2.1 (textS l c zs).2.2
abbrev yaod (h0 : Hp) (G : Bag) (l : List Int) (c : Int) (zs : List Int) : VK := yafm h0 G (textR (textS l c zs).1) (textS l c zs).2.1 (textS l c zs).2.2
theorem yatu {i : Nat} {h : Hp} {p q : OA} {n m c d : Nat} {xs ys : List Int} (r1 : RdT TI h p n xs) (r2 : RdT TI h q m ys) (hn : n ≤ 1000000) (hm : m ≤ 1000000) (hi : i ≤ 1000000) (hp : ys ≠ []) :
    yaae Tryz.prog 120 #[.slice p n c, .int .i64 (i : Int), .slice q m d] h (fun v h' => h' = h ∧ v = .bool (decide (occA xs ys i))) := by
  have l1 := r1.len
  have l2 := r2.len
  refine zdd_call ?_
  rw [zdd_b0]
  refine ⟨fun x h' => h' = h ∧ ∃ k : Nat, x.1 = k ∧ k ≤ m ∧ (xs.drop i).take k = ys.take k, fun x _ => (m - x.1).toNat, ⟨rfl, 0, rfl, by omega, rfl⟩, ?_⟩
  rintro ⟨_, _⟩ h1 ⟨rfl, k, rfl, hk, heq⟩
  dsimp only
  rw [zdd_b1]
  refine condP (fun hlt => ?_) (fun hge => ?_)
  · refine ⟨⟨by omega, by omega⟩, condP (fun hg => ⟨rfl, ?_⟩) (fun hl => ⟨⟨by omega, by omega⟩, ?_⟩)⟩
    · rw [decide_eq_false fun h => ?_]
      have := yavj hp h
      omega
    · have ei : ((i : Int) + (k : Int)) = ((i + k : Nat) : Int) := by push_cast; rfl
      rw [ei]
      refine ldI (i' := i + k) r1 rfl (by omega) (ldI (i' := k) r2 rfl (by omega) (condN (fun hne => ⟨rfl, ?_⟩) (fun he => ?_)))
      · rw [decide_eq_false fun h => hne ?_]
        have h : (xs.drop i).take ys.length = ys := h
        have e : ys.getD k 0 = ((xs.drop i).take ys.length).getD k 0 := by rw [h]
        rw [e, yaaf (show i + k < xs.length by omega), yaaf (by rw [List.length_take, List.length_drop]; omega), List.getElem_take, List.getElem_drop]
      · rw [zdd_b2]
        refine ⟨⟨by omega, by omega⟩, ⟨rfl, k + 1, by push_cast; rfl, by omega, ?_⟩, by dsimp only; omega⟩
        rw [yaaf (show i + k < xs.length by omega), yaaf (show k < ys.length by omega)] at he
        rw [List.take_succ_eq_append_getElem (by rw [List.length_drop]; omega), List.take_succ_eq_append_getElem (show k < ys.length by omega), heq, List.getElem_drop, he]
  · rw [zdd_b3]
    refine ⟨rfl, ?_⟩
    rw [decide_eq_true]
    have : k = ys.length := by omega
    subst this
    rwa [List.take_length] at heq
theorem yalt (na : RowsA (p, n, c) (textR l) B) : (l = [] ∧ n = 0) ∨ (l ≠ [] ∧ n = 1) := by
  have hl := yaaw na
  unfold textR at hl
  split at hl
  · exact .inl ⟨‹_›, hl.symm⟩
  · exact .inr ⟨‹_›, hl.symm⟩
theorem yapw {s0 : OA} {c0 : Nat} (na : RowsA (p, n, c) (textR l) B) (rl : RdT TI h s0 l.length l) (hrz : RdT TI h q m zs) (s : St h0 h (refA b1 b2 b3 b4 6 p n c code q m cc x0 x1 y0 y1 y2 B G)) (hl : l.length ≤ 500) (hm : m ≤ 100) (hz : zs ≠ []) (hc : code = 2 ∨ code = 3) :
    zdj_b2 (some ⟨b1, 0, none⟩) (some ⟨b2, 0, none⟩) (some ⟨b3, 0, none⟩) (some ⟨b4, 0, none⟩) s0 l.length c0 h (TextP h0 G l code zs) := by
  have e : textS l code zs = (if code = 2 then (l, 0, ((posN l zs l.length).length : Int)) else if yady (posN l zs l.length) < 0 then (l, 12, 0) else (l, 0, yady (posN l zs l.length))) := by
    unfold textS; rw [if_neg (by omega), if_neg (by omega)]
  rw [TextP, e, zdj_b2]
  delta refA at s
  refine ⟨fun x h' => h' = h ∧ ∃ i : Nat, x.2.2.1 = i ∧ i ≤ l.length ∧ x.1 = ((posN l zs i).length : Int) ∧ x.2.1 = yady (posN l zs i), fun x _ => (l.length - x.2.2.1).toNat, ⟨rfl, 0, rfl, Nat.zero_le _, rfl, rfl⟩, ?_⟩
  rintro ⟨x, y, _, _⟩ h7 ⟨rfl, i, rfl, hi, hx, hy⟩
  dsimp only at hx hy ⊢
  subst hx hy
  have hb := yaop l zs i
  rw [zdj_b3]
  refine condP (fun hlt => ?_) (fun hge => ?_)
  · refine ⟨_, _, _, s.ldB, (yatu rl hrz (by omega) (by omega) (by omega) hz).mono fun v h8 ⟨hh, hv⟩ => ⟨_, hv, ?_⟩⟩
    subst hh
    refine condP (fun ho => ?_) (fun ho => ?_)
    · have es := yaeu l zs i
      rw [if_pos ho] at es
      have ef : yady (posN l zs (i + 1)) = if yady (posN l zs i) < 0 then (i : Int) else yady (posN l zs i) := by rw [es, yalx]
      have el : ((posN l zs (i + 1)).length : Int) = ((posN l zs i).length : Int) + 1 := by rw [es, List.length_append]; push_cast; rfl
      refine ⟨⟨by omega, by omega⟩, condP (fun hf => ?_) (fun hf => ?_)⟩
      · rw [if_pos hf] at ef
        rw [zdj_b4]
        exact ⟨⟨by omega, by omega⟩, ⟨rfl, i + 1, by push_cast; rfl, by omega, el.symm, ef.symm⟩, by dsimp only; omega⟩
      · rw [if_neg hf] at ef
        rw [zdj_b4]
        exact ⟨⟨by omega, by omega⟩, ⟨rfl, i + 1, by push_cast; rfl, by omega, el.symm, ef.symm⟩, by dsimp only; omega⟩
    · have es := yaeu l zs i
      rw [if_neg ho, List.append_nil] at es
      rw [zdj_b4]
      exact ⟨⟨by omega, by omega⟩, ⟨rfl, i + 1, by push_cast; rfl, by omega, by rw [es], by rw [es]⟩, by dsimp only; omega⟩
  · obtain rfl : i = l.length := by omega
    rw [zdj_b5]
    refine ⟨_, s.ld0, condP (fun h2 => ?_) (fun h2 => condP (fun hf => ?_) (fun hf => ?_))⟩
    · rw [if_pos h2]; exact boxY na s
    · rw [if_neg h2, if_pos hf]; exact boxF na s
    · rw [if_neg h2, if_neg hf]; exact boxY na s
theorem yajj {s0 : OA} {c0 : Nat} (na : RowsA (p, n, c) (textR l) B) (rl : RdT TI h s0 l.length l) (hrz : RdT TI h q m zs) (s : St h0 h (refA b1 b2 b3 b4 6 p n c code q m cc x0 x1 y0 y1 y2 B G)) (hl : l.length ≤ 500) (hm : m ≤ 100) (hz : code ≠ 4 → zs ≠ []) (hc : 1 ≤ code ∧ code ≤ 4) :
    zdj_b1 (some ⟨b1, 0, none⟩) (some ⟨b2, 0, none⟩) (some ⟨b3, 0, none⟩) (some ⟨b4, 0, none⟩) s0 l.length c0 h (TextP h0 G l code zs) := by
  have hzl := hrz.len
  have s' := s
  delta refA at s
  rw [zdj_b1]
  refine ⟨_, s.ld0, condP (fun h4 => ?_) (fun h4 => condP (fun h1 => ?_) (fun h1 => ?_))⟩
  · have e : textS l code zs = (l, 0, (l.length : Int)) := by subst h4; rfl
    rw [TextP, e]
    exact boxY na s
  · have e : textS l code zs = (if 500 < l.length + zs.length then (l, 4, 0) else (l ++ zs, 0, 0)) := by subst h1; rfl
    rw [TextP, e]
    refine ⟨_, _, _, s.ldB, ⟨by omega, by omega⟩, condP (fun hf => ?_) (fun hf => ?_)⟩
    · rw [if_pos (by omega)]; exact boxF na s
    rw [if_neg (by omega)]
    refine ⟨_, _, _, s.ldB, (yaxd rl (by omega)).mono fun v h5 ⟨q6, d6, A6, hv, o6, t6⟩ => ⟨_, _, _, hv, ?_⟩⟩
    have hrz5 := hrz.ext t6.ext
    have s := s.join t6
    have s : St h0 h5 (A6 + (cA b1 [.int .i64 6, .slice p n c] 66 + (cA b2 [.int .i64 code, .slice q m cc] 25 + (cA b3 [x0, x1] 66 + (cA b4 [y0, y1, y2] 61 + (B + G)))))) := s.to
    refine ⟨⟨_, _, _, s.ldB, rfl⟩, yaat yade s o6 hrz5 (by omega) fun p' c' h' A' o' s => s.new (cs := [_]) fun b5 h8 _ s => ?_⟩
    have s : St h0 h8 (cA b1 [.int .i64 6, .slice p n c] 66 + (B + (cA b2 [.int .i64 code, .slice q m cc] 25 + (cA b3 [x0, x1] 66 + (cA b4 [y0, y1, y2] 61 + ((cA b5 [.slice p' (l.length + m) c'] 23 + A') + G)))))) := s.to
    refine wrC1 s fun h10 s => ?_
    have s := (s.to (B := B + (cA b1 [.int .i64 6, .slice (some ⟨b5, 0, none⟩) 1 1] 66 + (cA b2 [.int .i64 code, .slice q m cc] 25 + (cA b3 [x0, x1] 66 + (cA b4 [y0, y1, y2] 61 + ((cA b5 [.slice p' (l.length + m) c'] 23 + A') + G))))))).drop
    have na' : RowsA (some ⟨b5, 0, none⟩, 1, 1) (textR (l ++ zs)) (cA b5 [.slice p' (l.length + m) c'] 23 + A') := by
      unfold textR
      rw [if_neg (by have := hz h4; simp [this])]
      exact ⟨[(p', l.length + m, c')], cA b5 [.slice p' (l.length + m) c'] 23, A', rfl, Sl.of_blk (T := TR) (xs := [(p', l.length + m, c')]) rfl rfl, AllH.one o'⟩
    exact boxY (b2 := b2) (p := some ⟨b5, 0, none⟩) (n := 1) (c := 1) (cc := cc) (q := q) (m := m) (code := code) (x0 := x0) (x1 := x1) (y0 := y0) (y1 := y1) (y2 := y2) na' (by delta refA; exact s)
  · exact yapw na rl hrz s' hl hm (hz h4) (by omega)
theorem yazp (na : RowsA (p, n, c) (textR l) B) (rz : RdS h0 G TI q m zs) (s : St h0 h (B + G)) (hl : l.length ≤ 500) (hm : m ≤ 100) (hz : code ≠ 4 → zs ≠ []) (hc : 1 ≤ code ∧ code ≤ 4) :
    yaae Tryz.prog 82 #[.agg #[.int .i64 6, .slice p n c], .agg #[.int .i64 code, .slice q m cc]] h (TextP h0 G l code zs) := by
  refine zdj_call ?_
  rw [zdj_b0]
  refine s.new (cs := [_, _]) fun b1 h3 _ s => s.new (cs := [_, _]) fun b2 h4 _ s => s.new (cs := [_, _]) fun b3 h5 _ s => s.new (cs := [_, _, _]) fun b4 h6 _ s => ?_
  have s : St h0 h6 (refA b1 b2 b3 b4 6 p n c code q m cc (.int .i64 0) (.slice none 0 0) (.int .i64 0) (.int .i64 0) (.slice none 0 0) B G) := by delta refA; exact s.to
  have hrz : RdT TI h6 q m zs := rz h6 (cA b1 [.int .i64 6, .slice p n c] 66 + (cA b2 [.int .i64 code, .slice q m cc] 25 + (cA b3 [.int .i64 0, .slice none 0 0] 66 + (cA b4 [.int .i64 0, .int .i64 0, .slice none 0 0] 61 + B)))) (by delta refA at s; exact s.to)
  have s' := s
  delta refA at s
  rcases yalt na with ⟨hl0, hn⟩ | ⟨hl0, hn⟩
  · subst hl0 hn
    exact ⟨_, _, _, s.ldB, yaam rfl (yajj na ⟨rfl, Or.inl rfl⟩ hrz s' hl hm hz hc)⟩
  · subst hn
    refine ⟨_, _, _, s.ldB, yaax rfl ⟨_, _, _, s.ldB, yacn (i' := 0) na (s.at B) rfl Nat.one_pos fun q' d' r => ?_⟩⟩
    have er : (textR l).getD 0 [] = l := by unfold textR; rw [if_neg hl0]; rfl
    rw [er] at r ⊢
    exact yajj na r hrz s' hl hm hz hc
theorem yank {s0 : OA} {c0 : Nat} (na : RowsA (p, n, c) (textR l) B) (rl : RdT TI h s0 l.length l) (hc0 : l.length ≤ c0) (hrz : RdT TI h q m zs) (s : St h0 h (modA b1 b2 code q m cc y0 y1 y2 B G)) (hl : l.length ≤ 500) (hm : m ≤ 100) (hz : zs ≠ []) (hc : code = 2 ∨ code = 3) :
    zbk_b2 p n c (some ⟨b1, 0, none⟩) (some ⟨b2, 0, none⟩) s0 l.length c0 h (yaod h0 G l code zs) := by
  have hzl := hrz.len
  have e : textS l code zs = (if code = 2 then (l, 0, ((posN l zs l.length).length : Int)) else if yady (posN l zs l.length) < 0 then (l, 12, 0) else (l, 0, yady (posN l zs l.length))) := by
    unfold textS; rw [if_neg (by omega), if_neg (by omega)]
  rw [yaod, e, zbk_b2]
  delta modA at s
  refine ⟨fun x h' => h' = h ∧ ∃ i : Nat, x.2.2.1 = i ∧ i ≤ l.length ∧ x.2.1 = ((posN l zs i).length : Int) ∧ x.1 = yady (posN l zs i), fun x _ => (l.length - x.2.2.1).toNat, ⟨rfl, 0, rfl, Nat.zero_le _, rfl, rfl⟩, ?_⟩
  rintro ⟨x, y, _, _⟩ h7 ⟨rfl, i, rfl, hi, hx, hy⟩
  dsimp only at hx hy ⊢
  subst hx hy
  have hb := yaop l zs i
  rw [zbk_b3]
  refine ⟨_, _, _, s.ldB, ⟨by omega, by omega⟩, condP (fun hlt => ?_) (fun hge => ?_)⟩
  · have hzp : 0 < zs.length := List.length_pos_iff.2 hz
    refine ⟨_, _, _, s.ldB, ⟨by omega, by omega⟩, ⟨by omega, by omega, by omega⟩, _, _, _, s.ldB, decide (occA l zs i), ?_, ?_⟩
    · have ei : Int.toNat ((i : Int) + (m : Int)) - Int.toNat (i : Int) = m := by omega
      rw [ei, Int.toNat_natCast]
      refine (yask (((rl.sub hi hc0 rfl).take (i := m) (by omega))) hrz (by omega)).mono fun v h8 ⟨hh, hv⟩ => ⟨?_, hh⟩
      rw [hv, ← hzl]
    refine condP (fun ho => ?_) (fun ho => ?_)
    · have es := yaeu l zs i
      rw [if_pos ho] at es
      have ef : yady (posN l zs (i + 1)) = if yady (posN l zs i) < 0 then (i : Int) else yady (posN l zs i) := by rw [es, yalx]
      have el : ((posN l zs (i + 1)).length : Int) = ((posN l zs i).length : Int) + 1 := by rw [es, List.length_append]; push_cast; rfl
      refine condP (fun hf => ?_) (fun hf => ?_)
      · rw [if_pos hf] at ef
        rw [zbk_b4, zbk_b5]
        exact ⟨⟨by omega, by omega⟩, ⟨by omega, by omega⟩, ⟨rfl, i + 1, by push_cast; rfl, by omega, el.symm, ef.symm⟩, by dsimp only; omega⟩
      · rw [if_neg hf] at ef
        rw [zbk_b4, zbk_b5]
        exact ⟨⟨by omega, by omega⟩, ⟨by omega, by omega⟩, ⟨rfl, i + 1, by push_cast; rfl, by omega, el.symm, ef.symm⟩, by dsimp only; omega⟩
    · have es := yaeu l zs i
      rw [if_neg ho, List.append_nil] at es
      rw [zbk_b5]
      exact ⟨⟨by omega, by omega⟩, ⟨rfl, i + 1, by push_cast; rfl, by omega, by rw [es], by rw [es]⟩, by dsimp only; omega⟩
  · have ex : posN l zs l.length = posN l zs i := yawe hi fun k hk ho => by have := yavj hz ho; omega
    rw [ex, zbk_b6]
    refine ⟨_, s.ld0, condP (fun h2 => ?_) (fun h2 => condP (fun hf => ?_) (fun hf => ?_))⟩
    · rw [if_pos h2]; exact mboxT na s (yaap _ _)
    · rw [if_neg h2, if_pos hf]; exact mboxT na s (yaas _ _)
    · rw [if_neg h2, if_neg hf]; exact mboxT na s (yaap _ _)
theorem yahm {s0 : OA} {c0 : Nat} {Bi Br : Bag} (na : RowsA (p, n, c) (textR l) B) (hB : B = Bi + Br) (ol : Sl TI s0 l.length c0 l Bi) (hc0 : l.length ≤ c0) (hrz : RdT TI h q m zs) (s : St h0 h (modA b1 b2 code q m cc y0 y1 y2 B G)) (hl : l.length ≤ 500) (hm : m ≤ 100) (hz : code ≠ 4 → zs ≠ []) (hc : 1 ≤ code ∧ code ≤ 4) :
    zbk_b1 p n c (some ⟨b1, 0, none⟩) (some ⟨b2, 0, none⟩) s0 l.length c0 h (yaod h0 G l code zs) := by
  have hzl := hrz.len
  have s' := s
  delta modA at s
  have sB := s
  rw [hB] at sB
  rw [zbk_b1]
  refine ⟨_, s.ld0, condP (fun h4 => ?_) (fun h4 => condP (fun h1 => ?_) (fun h1 => ?_))⟩
  · have e : textS l code zs = (l, 0, (l.length : Int)) := by subst h4; rfl
    rw [yaod, e]
    exact mboxT na s (yaap _ _)
  · have e : textS l code zs = (if 500 < l.length + zs.length then (l, 4, 0) else (l ++ zs, 0, 0)) := by subst h1; rfl
    rw [yaod, e]
    refine ⟨_, _, _, s.ldB, ⟨by omega, by omega⟩, condP (fun hf => ?_) (fun hf => ?_)⟩
    · rw [if_pos (by omega)]; exact mboxT na s (yaas _ _)
    rw [if_neg (by omega)]
    refine ⟨_, _, _, s.ldB, ?_⟩
    have s2 : St h0 h (Bi + (cA b2 [y0, y1, y2] 61 + (cA b1 [.int .i64 code, .slice q m cc] 25 + (Br + G)))) := sB.to
    refine yaat yade s2 ol hrz (by omega) fun p' c' h' A' o' s => s.new (cs := [_]) fun b5 h8 _ s => ?_
    have s : St h0 h8 (Br + (cA b2 [y0, y1, y2] 61 + (cA b1 [.int .i64 code, .slice q m cc] 25 + ((cA b5 [.slice p' (l.length + m) c'] 23 + A') + G)))) := s.to
    have s := s.drop
    have na' : RowsA (some ⟨b5, 0, none⟩, 1, 1) (textR (l ++ zs)) (cA b5 [.slice p' (l.length + m) c'] 23 + A') := by
      unfold textR
      rw [if_neg (by have := hz h4; simp [this])]
      exact ⟨[(p', l.length + m, c')], cA b5 [.slice p' (l.length + m) c'] 23, A', rfl, Sl.of_blk (T := TR) (xs := [(p', l.length + m, c')]) rfl rfl, AllH.one o'⟩
    exact mboxT (b2 := b2) (D := cA b1 [.int .i64 code, .slice q m cc] 25) na' s (yaap _ _)
  · exact yank na (ol.rd (sB.at Bi)) hc0 hrz s' hl hm (hz h4) (by omega)
theorem yayc (na : RowsA (p, n, c) (textR l) B) (rz : RdS h0 G TI q m zs) (s : St h0 h (B + G)) (hl : l.length ≤ 500) (hm : m ≤ 100) (hz : code ≠ 4 → zs ≠ []) (hc : 1 ≤ code ∧ code ≤ 4) :
    yaae Tryz.prog 142 #[.slice p n c, .agg #[.int .i64 code, .slice q m cc]] h (yaod h0 G l code zs) := by
  refine zbk_call ?_
  rw [zbk_b0]
  refine s.new (cs := [_, _]) fun b1 h3 _ s => s.new (cs := [_, _, _]) fun b2 h4 _ s => ?_
  have hrz : RdT TI h4 q m zs := rz h4 (cA b2 [.int .i64 0, .int .i64 0, .slice none 0 0] 61 + (cA b1 [.int .i64 code, .slice q m cc] 25 + B)) s.to
  have s' : St h0 h4 (modA b1 b2 code q m cc (.int .i64 0) (.int .i64 0) (.slice none 0 0) B G) := by delta modA; exact s
  rcases yalt na with ⟨hl0, hn⟩ | ⟨hl0, hn⟩
  · subst hl0 hn
    exact yaam rfl (yahm (Bi := 0) (Br := B) na (by rw [Bag.yaxj]) Sl.nil (Nat.le_refl _) hrz s' hl hm hz hc)
  · subst hn
    refine yaax rfl (yadi na (s.at B) (by omega) (by omega) fun q' l' d' Bi Br o hB _ => ?_)
    have er : (textR l).getD (Int.toNat (0 : Int)) [] = l := by unfold textR; rw [if_neg hl0]; rfl
    rw [er] at o
    have ol : l.length = l' := o.len
    subst ol
    exact yahm na hB o o.cap hrz s' hl hm hz hc
end
end Go.Proofs.YtdlkohenamlnaaaGreat
/- Layer 3: which operations are valid, kind by kind. -/
namespace Go.Proofs.YtdlkohenamlnaaaGreat
open Go Go.Sx
theorem opv2 {c : Int} {zs : List Int} (h : OpV 2 c zs) : (1 ≤ c ∧ c ≤ 4) ∧ (c = 1 → zs.length = 1) ∧ ∀ z ∈ zs, KeyP z := by
  obtain ⟨h1, h2⟩ := h
  have e8 : (arT 2).length = 4 := rfl
  rw [e8] at h1
  have hc : c = 1 ∨ c = 2 ∨ c = 3 ∨ c = 4 := by omega
  have h3 : (c = 1 → zs.length = 1) ∧ ∀ z ∈ zs, KeyP z := by
    rcases hc with rfl | rfl | rfl | rfl <;> (have h2 : (zs.length : Int) = _ ∧ ∀ z ∈ zs, KeyP z := h2; refine ⟨fun h => ?_, h2.2⟩; have h3 := h2.1; first | omega | (exact absurd h (by decide)) | (have h4 : (zs.length : Int) = 1 := h3; omega))
  exact ⟨by omega, h3.1, h3.2⟩
theorem opv3 {c : Int} {zs : List Int} (h : OpV 3 c zs) : (1 ≤ c ∧ c ≤ 7) ∧ (c ≠ 7 → 1 ≤ zs.length) ∧ (c = 1 ∨ (4 ≤ c ∧ c ≤ 6) → 2 ≤ zs.length) ∧ ∀ z ∈ zs, KeyP z := by
  obtain ⟨h1, h2⟩ := h
  have e8 : (arT 3).length = 7 := rfl
  rw [e8] at h1
  have hc : c = 1 ∨ c = 2 ∨ c = 3 ∨ c = 4 ∨ c = 5 ∨ c = 6 ∨ c = 7 := by omega
  have e : (arT 3).getD (c - 1).toNat 0 = if c = 7 then 0 else if c = 2 then 1 else if c = 3 then 1 else 2 := by
    rcases hc with rfl | rfl | rfl | rfl | rfl | rfl | rfl <;> rfl
  rw [e] at h2
  have hneg : ¬ (if c = 7 then (0 : Int) else if c = 2 then 1 else if c = 3 then 1 else 2) < 0 := by
    rcases hc with rfl | rfl | rfl | rfl | rfl | rfl | rfl <;> decide
  rw [if_neg hneg] at h2
  obtain ⟨h2, h3⟩ := h2
  refine ⟨by omega, fun h => ?_, fun h => ?_, h3⟩
  · rw [if_neg h] at h2; split at h2
    · omega
    · split at h2 <;> omega
  · rw [if_neg (by omega), if_neg (by omega), if_neg (by omega)] at h2; omega
theorem opv4 {c : Int} {zs : List Int} (h : OpV 4 c zs) : (1 ≤ c ∧ c ≤ 5) ∧ (c = 4 → zs.length = 1) ∧ (c = 2 ∨ c = 3 → zs.length = 2) := by
  obtain ⟨h1, h2⟩ := h
  have e8 : (arT 4).length = 5 := rfl
  rw [e8] at h1
  have hc : c = 1 ∨ c = 2 ∨ c = 3 ∨ c = 4 ∨ c = 5 := by omega
  have e : (arT 4).getD (c - 1).toNat 0 = if c = 4 then 1 else if c = 2 then 2 else if c = 3 then 2 else 0 := by
    rcases hc with rfl | rfl | rfl | rfl | rfl <;> rfl
  rw [e] at h2
  have hneg : ¬ (if c = 4 then (1 : Int) else if c = 2 then 2 else if c = 3 then 2 else 0) < 0 := by
    rcases hc with rfl | rfl | rfl | rfl | rfl <;> decide
  rw [if_neg hneg] at h2
  obtain ⟨h2, h3⟩ := h2
  refine ⟨by omega, fun h => ?_, fun h => ?_⟩
  · rw [if_pos h] at h2; omega
  · rw [if_neg (by omega)] at h2; split at h2
    · omega
    · rw [if_pos (by omega)] at h2; omega
theorem opv5 {c : Int} {zs : List Int} (h : OpV 5 c zs) : (1 ≤ c ∧ c ≤ 5) ∧ (c = 1 → zs.length = 3) ∧ (c = 2 → zs.length = 2) ∧ (c = 3 ∨ c = 4 → zs.length = 4) ∧ ∀ z ∈ zs, KeyP z := by
  obtain ⟨h1, h2⟩ := h
  have e8 : (arT 5).length = 5 := rfl
  rw [e8] at h1
  have hc : c = 1 ∨ c = 2 ∨ c = 3 ∨ c = 4 ∨ c = 5 := by omega
  have e : (arT 5).getD (c - 1).toNat 0 = if c = 1 then 3 else if c = 2 then 2 else if c = 5 then 0 else 4 := by
    rcases hc with rfl | rfl | rfl | rfl | rfl <;> rfl
  rw [e] at h2
  have hneg : ¬ (if c = 1 then (3 : Int) else if c = 2 then 2 else if c = 5 then 0 else 4) < 0 := by
    rcases hc with rfl | rfl | rfl | rfl | rfl <;> decide
  rw [if_neg hneg] at h2
  obtain ⟨h2, h3⟩ := h2
  refine ⟨by omega, fun h => ?_, fun h => ?_, fun h => ?_, h3⟩
  · rw [if_pos h] at h2; omega
  · rw [if_neg (by omega), if_pos h] at h2; omega
  · rw [if_neg (by omega), if_neg (by omega), if_neg (by omega)] at h2; omega
theorem opv6 {c : Int} {zs : List Int} (h : OpV 6 c zs) : (1 ≤ c ∧ c ≤ 4) ∧ (c ≠ 4 → zs ≠ []) ∧ zs.length ≤ 64 ∧ (c ≠ 4 → ∀ z ∈ zs, ChP z) := by
  obtain ⟨h1, h2⟩ := h
  have e8 : (arT 6).length = 4 := rfl
  rw [e8] at h1
  have hc : c = 1 ∨ c = 2 ∨ c = 3 ∨ c = 4 := by omega
  have e : (arT 6).getD (c - 1).toNat 0 = if c = 4 then 0 else -1 := by
    rcases hc with rfl | rfl | rfl | rfl <;> rfl
  rw [e] at h2
  by_cases h4 : c = 4
  · rw [if_pos h4, if_neg (by decide)] at h2
    exact ⟨by omega, fun h => absurd h4 h, by omega, fun h => absurd h4 h⟩
  · rw [if_neg h4, if_pos (by decide)] at h2
    exact ⟨by omega, fun _ hz => by rw [hz] at h2; simp at h2, h2.1.2, fun _ => h2.2⟩
end Go.Proofs.YtdlkohenamlnaaaGreat
/- Layer 3: states, and that steps keep them valid. -/
namespace Go.Proofs.YtdlkohenamlnaaaGreat
open Go Go.Sx
theorem opv1e {c : Int} {zs : List Int} (h : OpV 1 c zs) (h1 : c = 1) : zs.length = 2 := by
  subst h1
  have h2 : (zs.length : Int) = 2 := h.2.1
  omega
abbrev hdR (r : List Int) : Int := r.getD 0 0
def to1 (rows : List (List Int)) : List Int := rows.map hdR
def to2 (rows : List (List Int)) : List E := rows.map fun r => (r.getD 0 0, r.getD 1 0)
def to3 (rows : List (List Int)) : List Pt := rows.map fun r => (r.getD 0 0, r.getD 1 0, r.getD 2 0)
def toT (rows : List (List Int)) : List Int := rows.getD 0 []
theorem yaum (l : List Int) : to1 (l.map row1) = l := by unfold to1; rw [List.map_map]; exact List.map_id' l
theorem yayo (l : List E) : to2 (l.map row2) = l := by unfold to2; rw [List.map_map]; exact List.map_id' l
theorem yazm (l : List Pt) : to3 (l.map row3) = l := by unfold to3; rw [List.map_map]; exact List.map_id' l
theorem yayx (l : List Int) : toT (textR l) = l := by
  unfold toT textR
  split
  · rename_i h; rw [h]; rfl
  · rfl
def stepR (k : Int) (rows : List (List Int)) (c : Int) (zs : List Int) : List (List Int) × Int × Int :=
  if k = 1 then ((dictS (to2 rows) c zs).1.map row2, (dictS (to2 rows) c zs).2)
  else if k = 2 then ((heapS (to1 rows) c zs).1.map row1, (heapS (to1 rows) c zs).2)
  else if k = 3 then ((seqS (to1 rows) c zs).1.map row1, (seqS (to1 rows) c zs).2)
  else if k = 4 then setsS rows c zs
  else if k = 5 then ((ptsS (to3 rows) c zs).1.map row3, (ptsS (to3 rows) c zs).2)
  else (textR (textS (toT rows) c zs).1, (textS (toT rows) c zs).2)
def PartR (rows : List (List Int)) : Prop := (∀ r ∈ rows, r ≠ [] ∧ r.Pairwise (· < ·)) ∧ (rows.map hdR).Pairwise (· < ·) ∧ rows.flatten.Perm ((List.range (tot rows)).map Int.ofNat) ∧ tot rows ≤ 500
abbrev PtV (x : Pt) : Prop := KeyP x.1 ∧ KeyP x.2.1 ∧ KeyP x.2.2
def OkR (k : Int) (rows : List (List Int)) : Prop :=
  (k = 1 ∧ ∃ l : List E, rows = l.map row2 ∧ Srt l ∧ KeysP l ∧ l.length ≤ 500) ∨
  (k = 2 ∧ ∃ l : List Int, rows = l.map row1 ∧ l.Pairwise (· ≤ ·) ∧ (∀ z ∈ l, KeyP z) ∧ l.length ≤ 500) ∨
  (k = 3 ∧ ∃ l : List Int, rows = l.map row1 ∧ (∀ z ∈ l, KeyP z) ∧ l.length ≤ 500) ∨
  (k = 4 ∧ PartR rows) ∨
  (k = 5 ∧ ∃ l : List Pt, rows = l.map row3 ∧ PtsS l ∧ (∀ z ∈ l, PtV z) ∧ l.length ≤ 500) ∨
  (k = 6 ∧ ∃ l : List Int, rows = textR l ∧ (∀ z ∈ l, ChP z) ∧ l.length ≤ 500)
theorem yafe {zs : List Int} (h : ∀ z ∈ zs, KeyP z) (i : Nat) : KeyP (zs.getD i 0) := yaxg h i
theorem yafh {α : Type} (l : List α) (i : Nat) : (cutL l i).Sublist l := by
  have h : (l.take i ++ l.drop (i + 1)).Sublist (l.take i ++ l.drop i) := by
    refine List.Sublist.append (List.Sublist.refl _) ?_
    rw [← List.drop_drop]
    exact List.drop_sublist _ _
  rwa [List.take_append_drop] at h
theorem yaws {α : Type} {l : List α} {a b : Nat} {z : α} (h : z ∈ revL l a b) : z ∈ l := by
  unfold revL at h
  rcases List.mem_append.1 h with h | h
  · exact List.mem_of_mem_take h
  · rcases List.mem_append.1 h with h | h
    · exact List.mem_of_mem_drop (List.mem_of_mem_take (List.mem_reverse.1 h))
    · exact List.mem_of_mem_drop h
theorem yaxe {l : List E} {c : Int} {zs : List Int} (h : l.length ≤ 500) : (dictS l c zs).1.length ≤ 500 := by
  have hlen := congrArg List.length (yaeh (xs := l) (key := zs.getD 0 0))
  rw [List.length_append] at hlen
  unfold dictS
  split
  · exact h
  split
  · split
    · rename_i hk
      have hu : 0 < (upS l (zs.getD 0 0)).length := by
        rcases hu : upS l (zs.getD 0 0) with _ | ⟨a, b⟩
        · rw [hu] at hk; exact absurd hk (by simp [yabw])
        · simp
      simp only [List.length_append, List.length_cons, List.length_tail]; omega
    · split
      · exact h
      · simp only [List.length_append, List.length_cons]; omega
  split
  · split <;> exact h
  split
  · split
    · simp only [List.length_append, List.length_tail]; omega
    · exact h
  split
  · split
    · exact h
    · split <;> exact h
  split
  · split <;> exact h
  split
  · exact h
  · split <;> exact h
theorem yatk {l : List Int} {c : Int} {zs : List Int} (so : l.Pairwise (· ≤ ·)) (hk : ∀ z ∈ l, KeyP z) (hl : l.length ≤ 500) (hz : ∀ z ∈ zs, KeyP z) : (heapS l c zs).1.Pairwise (· ≤ ·) ∧ (∀ z ∈ (heapS l c zs).1, KeyP z) ∧ (heapS l c zs).1.length ≤ 500 := by
  unfold heapS
  split
  · exact ⟨so, hk, hl⟩
  split
  · split
    · exact ⟨so, hk, hl⟩
    · have e := (List.takeWhile_append_dropWhile (p := fun z : Int => decide (z < zs.getD 0 0)) (l := l)).symm
      have hD := yave (key := zs.getD 0 0) so
      have hT : ∀ x ∈ l.takeWhile (fun z => decide (z < zs.getD 0 0)), x < zs.getD 0 0 := fun x hx => of_decide_eq_true (List.all_eq_true.1 (List.all_takeWhile (p := fun z : Int => decide (z < zs.getD 0 0)) (l := l)) x hx)
      unfold insI
      generalize l.takeWhile (fun z => decide (z < zs.getD 0 0)) = T at *
      generalize l.dropWhile (fun z => decide (z < zs.getD 0 0)) = D at *
      subst e
      have so' := List.pairwise_append.1 so
      refine ⟨List.pairwise_append.2 ⟨so'.1, List.pairwise_cons.2 ⟨hD, so'.2.1⟩, fun a ha b hb => ?_⟩, fun z hz' => ?_, ?_⟩
      · rcases List.mem_cons.1 hb with rfl | hb
        · exact Int.le_of_lt (hT a ha)
        · exact so'.2.2 a ha b hb
      · rcases List.mem_append.1 hz' with h | h
        · exact hk z (List.mem_append_left _ h)
        · rcases List.mem_cons.1 h with rfl | h
          · exact yafe hz 0
          · exact hk z (List.mem_append_right _ h)
      · simp only [List.length_append, List.length_cons] at *; omega
  split
  · exact ⟨so, hk, hl⟩
  split
  · exact ⟨so.sublist (List.tail_sublist _), fun z hz => hk z (List.mem_of_mem_tail hz), by rw [List.length_tail]; omega⟩
  · exact ⟨so, hk, hl⟩
theorem yawu {l : List Int} {c : Int} {zs : List Int} (hk : ∀ z ∈ l, KeyP z) (hl : l.length ≤ 500) (hz : ∀ z ∈ zs, KeyP z) : (∀ z ∈ (seqS l c zs).1, KeyP z) ∧ (seqS l c zs).1.length ≤ 500 := by
  unfold seqS
  split
  · exact ⟨hk, hl⟩
  split
  · split
    · exact ⟨hk, hl⟩
    · split
      · exact ⟨fun z hz => hk z (yaws hz), by rw [yaix (by omega) (by omega)]; exact hl⟩
      · exact ⟨hk, hl⟩
  split
  · split
    · exact ⟨hk, hl⟩
    · split
      · exact ⟨hk, hl⟩
      · refine ⟨fun z hz' => ?_, ?_⟩
        · rcases List.mem_append.1 hz' with h | h
          · exact hk z (List.mem_of_mem_take h)
          · rcases List.mem_cons.1 h with rfl | h
            · exact yafe hz 1
            · exact hk z (List.mem_of_mem_drop h)
        · simp only [List.length_append, List.length_cons, List.length_take, List.length_drop]; omega
  split
  · exact ⟨hk, hl⟩
  split
  · refine ⟨fun z hz' => ?_, ?_⟩
    · rcases List.mem_append.1 hz' with h | h
      · exact hk z (List.mem_of_mem_take h)
      · exact hk z (List.mem_of_mem_drop h)
    · simp only [List.length_append, List.length_take, List.length_drop]; omega
  split
  · refine ⟨fun z hz' => ?_, by rw [List.length_set]; exact hl⟩
    rcases List.mem_or_eq_of_mem_set hz' with h | h
    · exact hk z h
    · rw [h]; exact yafe hz 1
  · exact ⟨hk, hl⟩
theorem yayd {l : List Pt} {c : Int} {zs : List Int} (so : PtsS l) (hk : ∀ z ∈ l, PtV z) (hl : l.length ≤ 500) (hz : ∀ z ∈ zs, KeyP z) : PtsS (ptsS l c zs).1 ∧ (∀ z ∈ (ptsS l c zs).1, PtV z) ∧ (ptsS l c zs).1.length ≤ 500 := by
  unfold ptsS
  split
  · exact ⟨so, hk, hl⟩
  split
  · exact ⟨so, hk, hl⟩
  split
  · exact ⟨so, hk, hl⟩
  split
  · split
    · exact ⟨so, hk, hl⟩
    · rename_i hno
      split
      · exact ⟨so, hk, hl⟩
      · obtain ⟨f1, f2, f3⟩ := yaxc so (zs.getD 0 0) (zs.getD 1 0)
        unfold yajy at hno
        generalize posP l (zs.getD 0 0) (zs.getD 1 0) = t at *
        have hsplit := List.take_append_drop t l
        refine ⟨?_, fun z hz' => ?_, ?_⟩
        · have so' : PtsS (l.take t ++ l.drop t) := by rw [hsplit]; exact so
          have so' := List.pairwise_append.1 so'
          have hlt : ∀ a ∈ l.take t, ptLt a (zs.getD 0 0, zs.getD 1 0, 0) := fun a ha => by
            obtain ⟨j, hj, e⟩ := List.mem_iff_getElem.1 ha
            rw [List.length_take] at hj
            have := f2 j (by omega)
            rw [yaaf (by omega)] at this
            rw [List.getElem_take] at e
            rw [← e]; exact this
          have hgt : ∀ b ∈ l.drop t, ptLt (zs.getD 0 0, zs.getD 1 0, 0) b := fun b hb => by
            obtain ⟨j, hj, e⟩ := List.mem_iff_getElem.1 hb
            rw [List.length_drop] at hj
            rw [List.getElem_drop] at e
            have h1 := f3 (t + j) (by omega) (by omega)
            rw [yaaf (by omega), e] at h1
            have h2 := f3 t (by omega) (by omega)
            rcases Nat.eq_zero_or_pos j with rfl | hjp
            · have h3 : l.getD t dPt = b := by rw [yaaf (by omega)]; simpa using e
              rw [h3] at hno
              unfold ptLt at h1 ⊢
              dsimp only at h1 ⊢
              have : ¬ (b.1 = zs.getD 0 0 ∧ b.2.1 = zs.getD 1 0) := fun h => hno ⟨by omega, h.1, h.2⟩
              omega
            · have h3 := (List.pairwise_iff_getElem.1 so) t (t + j) (by omega) (by omega) (by omega)
              rw [e] at h3
              rw [yaaf (by omega)] at h2
              unfold ptLt at h1 h2 h3 ⊢
              dsimp only at h1 h2 h3 ⊢
              omega
          refine List.pairwise_append.2 ⟨so'.1, List.pairwise_cons.2 ⟨fun b hb => hgt b hb, so'.2.1⟩, fun a ha b hb => ?_⟩
          rcases List.mem_cons.1 hb with rfl | hb
          · exact hlt a ha
          · exact so'.2.2 a ha b hb
        · rcases List.mem_append.1 hz' with h | h
          · exact hk z (List.mem_of_mem_take h)
          · rcases List.mem_cons.1 h with rfl | h
            · exact ⟨yafe hz 0, yafe hz 1, yafe hz 2⟩
            · exact hk z (List.mem_of_mem_drop h)
        · simp only [List.length_append, List.length_cons, List.length_take, List.length_drop]; omega
  · split
    · exact ⟨so.sublist (yafh _ _), fun z hz => hk z ((yafh _ _).mem hz), Nat.le_trans (yafh _ _).length_le hl⟩
    · exact ⟨so, hk, hl⟩
theorem yasm {l : List Int} {c : Int} {zs : List Int} (hk : ∀ z ∈ l, ChP z) (hl : l.length ≤ 500) (hz : c = 1 → ∀ z ∈ zs, ChP z) : (∀ z ∈ (textS l c zs).1, ChP z) ∧ (textS l c zs).1.length ≤ 500 := by
  unfold textS
  split
  · exact ⟨hk, hl⟩
  split
  · rename_i h1
    split
    · exact ⟨hk, hl⟩
    · refine ⟨fun z hz' => ?_, by simp only [List.length_append]; omega⟩
      rcases List.mem_append.1 hz' with h | h
      · exact hk z h
      · exact hz h1 z h
  split
  · exact ⟨hk, hl⟩
  split <;> exact ⟨hk, hl⟩
theorem yaoq {r : List Int} (h : r ≠ []) : hdR r ∈ r := yaav (List.length_pos_iff.2 h)
theorem yawo {r : List Int} (h : r.Pairwise (· ≤ ·)) : ∀ z ∈ r, hdR r ≤ z := by
  cases r with
  | nil => intro z hz; cases hz
  | cons a r =>
    intro z hz
    rcases List.mem_cons.1 hz with rfl | hz
    · exact Int.le_refl _
    · exact (List.pairwise_cons.1 h).1 z hz
theorem yakg (a b : List (List Int)) : tot (a ++ b) = tot a + tot b := by unfold tot; rw [List.map_append, List.sum_append]
theorem yais (a : List Int) (b : List (List Int)) : tot (a :: b) = a.length + tot b := by unfold tot; rw [List.map_cons, List.sum_cons]
theorem pw_lt {r : List Int} (h : r.Pairwise (· < ·)) : r.Pairwise (· ≤ ·) := h.imp fun h => Int.le_of_lt h
theorem yata {rows : List (List Int)} (h : PartR rows) (hn : tot rows ≠ 500) : PartR (rows ++ [[(tot rows : Int)]]) := by
  obtain ⟨h1, h2, h3, h4⟩ := h
  have ht : tot (rows ++ [[(tot rows : Int)]]) = tot rows + 1 := by rw [yakg]; rfl
  refine ⟨fun r hr => ?_, ?_, ?_, by omega⟩
  · rcases List.mem_append.1 hr with hr | hr
    · exact h1 r hr
    · rw [List.mem_singleton.1 hr]; exact ⟨by simp, List.pairwise_singleton _ _⟩
  · rw [List.map_append]
    refine List.pairwise_append.2 ⟨h2, List.pairwise_singleton _ _, fun a ha b hb => ?_⟩
    obtain ⟨r, hr, rfl⟩ := List.mem_map.1 ha
    obtain rfl : b = (tot rows : Int) := List.mem_singleton.1 hb
    have hm : hdR r ∈ rows.flatten := List.mem_flatten.2 ⟨r, hr, yaoq (h1 r hr).1⟩
    obtain ⟨i, hi, e⟩ := List.mem_map.1 (h3.mem_iff.1 hm)
    have := List.mem_range.1 hi
    have e : (i : Int) = hdR r := e
    omega
  · rw [ht, List.range_succ, List.map_append, List.flatten_append]
    exact h3.append (by simp)
theorem ybbc {rows : List (List Int)} {i j : Nat} (hij : i < j) (hj : j < rows.length) : ∃ A B C, rows = A ++ rows.getD i [] :: (B ++ rows.getD j [] :: C) ∧ A.length = i ∧ A.length + 1 + B.length = j := by
  refine ⟨rows.take i, (rows.drop (i + 1)).take (j - (i + 1)), rows.drop (j + 1), ?_, by rw [List.length_take]; omega, by rw [List.length_take, List.length_take, List.length_drop]; omega⟩
  have e1 : rows.drop j = rows.getD j [] :: rows.drop (j + 1) := by rw [List.drop_eq_getElem_cons hj, yaaf hj]
  have e2 : rows.drop i = rows.getD i [] :: rows.drop (i + 1) := by rw [List.drop_eq_getElem_cons (by omega), yaaf (by omega)]
  have e3 : rows.drop (i + 1) = (rows.drop (i + 1)).take (j - (i + 1)) ++ rows.drop j := by
    have := (List.take_append_drop (j - (i + 1)) (rows.drop (i + 1))).symm
    rwa [List.drop_drop, show i + 1 + (j - (i + 1)) = j by omega] at this
  rw [← e1, ← e3, ← e2, List.take_append_drop]
theorem yawa {rows : List (List Int)} (h : PartR rows) {a b : Nat} (hab : a ≠ b) (ha : a < rows.length) (hb : b < rows.length) : PartR (uniR rows a b) ∧ tot (uniR rows a b) = tot rows := by
  obtain ⟨h1, h2, h3, h4⟩ := h
  unfold uniR
  have hmm : yabe (rows.getD a []) (rows.getD b []) = yabe (rows.getD (min a b) []) (rows.getD (max a b) []) := by
    rcases Nat.lt_or_ge a b with h | h
    · rw [show min a b = a by omega, show max a b = b by omega]
    · rw [show min a b = b by omega, show max a b = a by omega]
      have sa : (rows.getD a []).Pairwise (· ≤ ·) := pw_lt (h1 _ (yaav ha)).2
      have sb : (rows.getD b []).Pairwise (· ≤ ·) := pw_lt (h1 _ (yaav hb)).2
      exact yago sb sa (yacg _ _ sa sb) ((yabm _ _).trans List.perm_append_comm)
  rw [hmm]
  obtain ⟨i, hi⟩ : ∃ i, min a b = i := ⟨_, rfl⟩
  obtain ⟨j, hj⟩ : ∃ j, max a b = j := ⟨_, rfl⟩
  rw [hi, hj]
  obtain ⟨A, B, C, e, l1, l2⟩ := ybbc (rows := rows) (i := i) (j := j) (by omega) (by omega)
  have hX := h1 _ (yaav (l := rows) (d := []) (i := i) (by omega))
  have hY := h1 _ (yaav (l := rows) (d := []) (i := j) (by omega))
  generalize rows.getD i [] = X at *
  generalize rows.getD j [] = Y at *
  have sM := yacg X Y (pw_lt hX.2) (pw_lt hY.2)
  have pM := yabm X Y
  have lM := yarb X Y
  generalize yabe X Y = M at *
  subst e
  have er : cutL ((A ++ X :: (B ++ Y :: C)).set i M) j = A ++ M :: (B ++ C) := by
    have e1 : (A ++ X :: (B ++ Y :: C)).set i M = (A ++ M :: B) ++ Y :: C := by
      subst l1
      rw [List.set_append_right _ _ (Nat.le_refl _), Nat.sub_self, List.set_cons_zero, List.append_assoc, List.cons_append]
    have hl : (A ++ M :: B).length = j := by rw [List.length_append, List.length_cons]; omega
    rw [e1]
    unfold cutL
    obtain ⟨t1, t2⟩ := yabq (xs := (A ++ M :: B) ++ Y :: C) rfl
    rw [hl] at t1 t2
    rw [← List.drop_drop, t1, t2]
    simp
  rw [er]
  have ht : tot (A ++ M :: (B ++ C)) = tot (A ++ X :: (B ++ Y :: C)) := by
    rw [yakg, yakg, yais, yais, yakg, yakg, yais]; omega
  have hp : (A ++ M :: (B ++ C)).flatten.Perm (A ++ X :: (B ++ Y :: C)).flatten := by
    rw [List.flatten_append, List.flatten_append, List.flatten_cons, List.flatten_cons, List.flatten_append, List.flatten_append, List.flatten_cons]
    refine List.Perm.append_left _ ?_
    refine (pM.append_right _).trans ?_
    rw [List.append_assoc]
    refine List.Perm.append_left _ ?_
    rw [← List.append_assoc, ← List.append_assoc]
    exact List.perm_append_comm.append_right _
  have hnd : (A ++ M :: (B ++ C)).flatten.Nodup := (hp.trans h3).nodup_iff.2 (by
    rw [List.nodup_iff_pairwise_ne, List.pairwise_map]
    exact List.nodup_range.imp fun {a b} h e => h (by have : (a : Int) = b := e; omega))
  have hMs : M.Pairwise (· < ·) := by
    have hMn : M.Nodup := by
      rw [List.flatten_append, List.flatten_cons] at hnd
      exact ((List.nodup_append.1 hnd).2.1 |> fun h => (List.nodup_append.1 h).1)
    have := List.pairwise_and_iff.2 ⟨sM, List.nodup_iff_pairwise_ne.1 hMn⟩
    exact this.imp fun {a b} h => by omega
  have hM0 : M ≠ [] := fun h => by
    rw [h] at lM
    have := List.length_pos_iff.2 hX.1
    simp at lM; omega
  have hhd : hdR M = hdR X := by
    rw [List.map_append, List.map_cons, List.map_append, List.map_cons] at h2
    have hXY : hdR X < hdR Y := by
      have := (List.pairwise_append.1 h2).2.1
      exact (List.pairwise_cons.1 this).1 _ (by simp)
    have hlo : ∀ z ∈ X ++ Y, hdR X ≤ z := fun z hz => by
      rcases List.mem_append.1 hz with hz | hz
      · exact yawo (pw_lt hX.2) z hz
      · have := yawo (pw_lt hY.2) z hz; omega
    have g1 := hlo _ (pM.mem_iff.1 (yaoq hM0))
    have g2 := yawo sM _ (pM.mem_iff.2 (List.mem_append_left _ (yaoq hX.1)))
    omega
  refine ⟨⟨fun r hr => ?_, ?_, ?_, by omega⟩, ht⟩
  · rcases List.mem_append.1 hr with hr | hr
    · exact h1 r (by simp [hr])
    · rcases List.mem_cons.1 hr with rfl | hr
      · exact ⟨hM0, hMs⟩
      · rcases List.mem_append.1 hr with hr | hr
        · exact h1 r (by simp [hr])
        · exact h1 r (by simp [hr])
  · refine h2.sublist ?_
    rw [List.map_append, List.map_cons, List.map_append, hhd, List.map_append, List.map_cons, List.map_append, List.map_cons]
    exact List.Sublist.append (List.Sublist.refl _) (List.Sublist.cons_cons _ (List.Sublist.append (List.Sublist.refl _) (List.sublist_cons_self _ _)))
  · rw [ht]; exact hp.trans h3
theorem yasq {l : List (List Int)} {c : Int} {zs : List Int} (h : PartR l) : PartR (setsS l c zs).1 := by
  unfold setsS
  split
  · split
    · exact h
    · exact yata h ‹_›
  split
  · exact h
  split
  · split <;> exact h
  split
  · exact h
  split
  · exact h
  split
  · exact h
  · rename_i hn _ hne
    have ha : ¬ clsZ l (zs.getD 0 0) < 0 := fun h => hn (Or.inl h)
    have hb : ¬ clsZ l (zs.getD 1 0) < 0 := fun h => hn (Or.inr h)
    exact (yawa h hne (yadw ha).2 (yadw hb).2).1
theorem yaxs {k : Int} {rows : List (List Int)} {c : Int} {zs : List Int} (h : OkR k rows) (hv : OpV k c zs) : OkR k (stepR k rows c zs).1 := by
  unfold stepR
  rcases h with ⟨rfl, l, rfl, h1, h2, h3⟩ | ⟨rfl, l, rfl, h1, h2, h3⟩ | ⟨rfl, l, rfl, h2, h3⟩ | ⟨rfl, h⟩ | ⟨rfl, l, rfl, h1, h2, h3⟩ | ⟨rfl, l, rfl, h2, h3⟩
  · rw [if_pos rfl, yayo]
    exact Or.inl ⟨rfl, _, rfl, (yapm h1).1, yasb h2 hv, yaxe h3⟩
  · rw [if_neg (by decide), if_pos rfl, yaum]
    have := yatk (c := c) h1 h2 h3 (opv2 hv).2.2
    exact Or.inr (Or.inl ⟨rfl, _, rfl, this.1, this.2.1, this.2.2⟩)
  · rw [if_neg (by decide), if_neg (by decide), if_pos rfl, yaum]
    have := yawu (c := c) h2 h3 (opv3 hv).2.2.2
    exact Or.inr (Or.inr (Or.inl ⟨rfl, _, rfl, this.1, this.2⟩))
  · rw [if_neg (by decide), if_neg (by decide), if_neg (by decide), if_pos rfl]
    exact Or.inr (Or.inr (Or.inr (Or.inl ⟨rfl, yasq h⟩)))
  · rw [if_neg (by decide), if_neg (by decide), if_neg (by decide), if_neg (by decide), if_pos rfl, yazm]
    have := yayd (c := c) h1 h2 h3 (opv5 hv).2.2.2.2
    exact Or.inr (Or.inr (Or.inr (Or.inr (Or.inl ⟨rfl, _, rfl, this.1, this.2.1, this.2.2⟩))))
  · rw [if_neg (by decide), if_neg (by decide), if_neg (by decide), if_neg (by decide), if_neg (by decide), yayx]
    have := yasm (c := c) h2 h3 (fun h => (opv6 hv).2.2.2 (by omega))
    exact Or.inr (Or.inr (Or.inr (Or.inr (Or.inr ⟨rfl, _, rfl, this.1, this.2⟩))))
end Go.Proofs.YtdlkohenamlnaaaGreat
/- Layer 3: rows that are read only; copies. -/
namespace Go.Proofs.YtdlkohenamlnaaaGreat
open Go Go.Sx
def RowsR (h : Hp) (p : OA) (n : Nat) (rows : List (List Int)) : Prop := rows.length = n ∧ ∃ hs : List SH, RdT TR h p n hs ∧ ∀ i, i < n → RdT TI h (hs.getD i TR.d).1 (hs.getD i TR.d).2.1 (rows.getD i []) ∧ (hs.getD i TR.d).2.1 ≤ (hs.getD i TR.d).2.2
section
variable {h0 h h' : Hp} {p : OA} {n c : Nat} {rows : List (List Int)} {B G : Bag}
theorem RowsR.len (r : RowsR h p n rows) : rows.length = n := r.1
theorem RowsR.ext (r : RowsR h p n rows) (x : Ext h h') : RowsR h' p n rows := ⟨r.1, let ⟨hs, r1, r2⟩ := r.2; ⟨hs, r1.ext x, fun i hi => ⟨(r2 i hi).1.ext x, (r2 i hi).2⟩⟩⟩
theorem AllH.pickR : ∀ {hs : List SH} {xs : List (List Int)} {A F : Bag}, AllH RowP hs xs A → St h0 h (A + F) → ∀ i, i < hs.length → RdT TI h (hs.getD i TR.d).1 (hs.getD i TR.d).2.1 (xs.getD i []) ∧ (hs.getD i TR.d).2.1 ≤ (hs.getD i TR.d).2.2
  | [], _, _, _, _, _, i, hi => by simp at hi
  | _ :: _, [], _, _, h, _, _, _ => h.elim
  | b :: bs, t :: ts, A, F, ⟨A1, A2, e, h1, h2⟩, s, i, hi => by
    subst e
    cases i with
    | zero => exact ⟨Sl.rd (F := A2 + F) h1 s.to, Sl.cap h1⟩
    | succ i => exact AllH.pickR (F := A1 + F) h2 s.to i (by simpa using hi)
theorem yafi (na : RowsA (p, n, c) rows B) (s : St h0 h (B + G)) : RowsR h p n rows := by
  have hl : rows.length = n := yaaw na
  obtain ⟨hs, B0, B1, rfl, h1, h2⟩ := na
  have hsl : hs.length = n := h1.len
  exact ⟨hl, hs, h1.rd (s.at B0), fun i hi => AllH.pickR (F := B0 + G) h2 s.to i (by omega)⟩
theorem RowsR.hdr {i : Int} {i' : Nat} {Q : OA → Nat → Nat → Prop} (r : RowsR h p n rows) (ei : i = (i' : Int)) (hi : i' < n)
    (hq : ∀ q d, RdT TI h q (rows.getD i' []).length (rows.getD i' []) → (rows.getD i' []).length ≤ d → Q q (rows.getD i' []).length d) : (0 ≤ i ∧ i < (n : Int)) ∧ NN p fun a => ∃ q l d, cell h (a.add (i.toNat * 1)) = some (.slice q l d) ∧ Q q l d := by
  subst ei
  refine ⟨⟨by omega, by omega⟩, ?_⟩
  obtain ⟨_, hs, r1, r2⟩ := r
  obtain ⟨ad, hp, hc⟩ := r1.at_ (i := i') hi
  obtain ⟨r3, r4⟩ := r2 i' hi
  have hl := r3.len
  refine yakn hp ⟨(hs.getD i' TR.d).1, (hs.getD i' TR.d).2.1, (hs.getD i' TR.d).2.2, by simpa [yacj] using hc 0 (by decide), ?_⟩
  rw [← hl] at r3 r4 ⊢
  exact hq _ _ r3 r4
theorem RowsR.get {i j : Int} {i' j' : Nat} {Q : Int → Prop} (r : RowsR h p n rows) (ei : i = (i' : Int)) (hi : i' < n) (ej : j = (j' : Int)) (hj : j' < (rows.getD i' []).length) (hq : Q ((rows.getD i' []).getD j' 0)) :
    (0 ≤ i ∧ i < (n : Int)) ∧ NN p fun a => ∃ a8 L5 C5, cell h (a.add (i.toNat * 1)) = some (.slice a8 L5 C5) ∧ (0 ≤ j ∧ j < (L5 : Int)) ∧ NN a8 fun a9 => ∃ n4, cell h (a9.add (j.toNat * 1)) = some (.int .i64 n4) ∧ Q n4 :=
  r.hdr ei hi fun _ _ rr _ => ldI rr ej hj hq
theorem yajp (r : RowsR h p n rows) (hn : n ≤ 1000) (hr : ∀ r ∈ rows, r.length ≤ 1000) :
    yaae Tryz.prog 93 #[.slice p n c] h (fun v h' => ∃ q d B', v = .slice q n d ∧ RowsA (q, n, d) rows B' ∧ St h h' B') := by
  have hl := r.len
  refine zaz_call ?_
  rw [zaz_b0]
  refine ⟨fun x h1 => ∃ (i : Nat) (B' : Bag), x.2.1 = i ∧ i ≤ n ∧ RowsA (x.1.1, x.1.2.1, x.1.2.2) (rows.take i) B' ∧ St h h1 B', fun x _ => n - x.2.1.toNat, ⟨0, 0, rfl, by omega, Nest.nil, St.start h⟩, ?_⟩
  rintro ⟨⟨q, m, d⟩, _, _⟩ h1 ⟨i, B', rfl, hin, na', s'⟩
  dsimp only at na' ⊢
  have hm := yaaw na'
  rw [List.length_take] at hm
  dsimp only at hm
  rw [zaz_b1]
  refine condP (fun hlt => ?_) (fun hlt => ?_)
  · refine (r.ext s'.ext).hdr rfl (by omega) fun a L rr _ => ?_
    have hg : rows.getD i [] = rows[i] := by simp [List.getD, show i < rows.length by omega]
    have hlr := hr _ (List.getElem_mem (show i < rows.length by omega))
    rw [← hg] at hlr
    refine (yaca rr (by omega)).mono fun v h2 ⟨q2, d2, A2, hv, o2, t2⟩ => ⟨_, _, _, hv, ?_⟩
    have s2 := s'.join t2
    refine yagh (G := 0) (s2.to (B := B' + (A2 + 0))) na' o2 rfl (by show m + 1 < _; omega) fun q3 d3 h3 B3 na3 s3 => ?_
    rw [zaz_b2]
    have e : rows.take i ++ [rows.getD i []] = rows.take (i + 1) := by rw [hg, List.take_succ_eq_append_getElem (by omega)]
    rw [e] at na3
    exact ⟨⟨by omega, by omega⟩, ⟨i + 1, B3, by push_cast; rfl, by omega, na3, by have := s3; rwa [Bag.yaqx] at this⟩, by simp only; omega⟩
  · obtain rfl : i = n := by omega
    rw [zaz_b3]
    rw [← hl, List.take_length] at na'
    obtain rfl : m = i := by omega
    exact ⟨q, d, B', rfl, na', s'⟩
theorem yawg {k : Int} (r : RowsR h p n rows) (hn : n ≤ 1000) (hr : ∀ r ∈ rows, r.length ≤ 1000) :
    yaae Tryz.prog 76 #[.agg #[.int .i64 k, .slice p n c]] h (fun v h' => ∃ q d B', v = .agg #[.int .i64 k, .slice q n d] ∧ RowsA (q, n, d) rows B' ∧ St h h' B') := by
  have hrl := r.len
  refine zcm_call ?_
  rw [zcm_b0]
  have s0 : St h h (0 + 0) := by rw [Bag.yaqx]; exact St.start h
  refine s0.new (cs := [.int .i64 k, .slice p n c]) fun b1 h1 _ s => ?_
  refine s.new (cs := [.int .i64 0, .slice none 0 0]) fun b2 h2 _ s => ?_
  refine ⟨_, s.ld0, ?_⟩
  refine s.new (cs := [.int .i64 0, .slice none 0 0]) fun b3 h3 _ s => ?_
  refine s.wr rfl (by simp) fun h4 s => ?_
  refine s.wr (o := 1) (yaaj _ _ _) (by simp) fun h5 s => ?_
  have s5 : St h h5 (cA b3 [.int .i64 k, .slice none 0 0] 66 + (cA b2 [.int .i64 0, .slice none 0 0] 66 + (cA b1 [.int .i64 k, .slice p n c] 66 + (0 + 0)))) := s
  refine ⟨fun x h' => ∃ (i : Nat) (q : OA) (d : Nat) (B' : Bag), x.1 = i ∧ i ≤ n ∧ RowsA (q, i, d) (rows.take i) B' ∧ St h h' (cA b3 [.int .i64 k, .slice q i d] 66 + (B' + (cA b2 [.int .i64 0, .slice none 0 0] 66 + (cA b1 [.int .i64 k, .slice p n c] 66 + (0 + 0))))), fun x _ => n - x.1.toNat, ⟨0, none, 0, 0, rfl, by omega, Nest.nil, s5.to⟩, ?_⟩
  rintro ⟨_, _⟩ h6 ⟨i, q, d, B', rfl, hin, nb, s6⟩
  dsimp only
  rw [zcm_b1]
  refine ⟨_, _, _, s6.ldB, condP (fun hlt => ?_) (fun hge => ?_)⟩
  · refine ⟨_, _, _, s6.ldB, _, _, _, s6.ldB, (r.ext s6.ext).hdr rfl (by omega) fun q1 d1 rr _ => ?_⟩
    have hil : i < rows.length := by omega
    have hg : rows.getD i [] = rows[i] := by simp [List.getD, hil]
    have hsm := hr _ (List.getElem_mem hil)
    rw [← hg] at hsm
    refine (yaxd rr (by omega)).mono fun v1 h7 ⟨q2, d2, A2, hv1, o2, t7⟩ => ⟨_, _, _, hv1, ?_⟩
    have s7 := s6.join t7
    have kb3 := (s7.at (cA b3 [.int .i64 k, .slice q i d] 66)).blk
    refine ⟨⟨_, _, _, Blk.cellA kb3 1, rfl⟩, ?_⟩
    have s7 := s7.to (B := B' + (A2 + (cA b3 [.int .i64 k, .slice q i d] 66 + (cA b2 [.int .i64 0, .slice none 0 0] 66 + (cA b1 [.int .i64 k, .slice p n c] 66 + (0 + 0))))))
    refine yajo s7 nb o2 rfl (by omega) (fun h8 x8 => ⟨_, _, _, Blk.cellA (kb3.ext x8) 1, rfl⟩) fun q3 d3 h9 B3 nb3 s9 => ?_
    have s9 := s9.to (B := cA b3 [.int .i64 k, .slice q i d] 66 + (B3 + (cA b2 [.int .i64 0, .slice none 0 0] 66 + (cA b1 [.int .i64 k, .slice p n c] 66 + (0 + 0)))))
    refine s9.wr (o := 1) (yaaj _ _ _) (by simp) fun h10 s10 => ?_
    rw [zcm_b2]
    refine ⟨⟨by omega, by omega⟩, ⟨i + 1, q3, d3, B3, by simp only; omega, by omega, ?_, s10⟩, by simp only; omega⟩
    rw [List.take_succ_eq_append_getElem hil, ← hg]
    exact nb3
  · obtain rfl : n = i := by omega
    rw [zcm_b3]
    refine ⟨_, _, _, _, s6.ld0, s6.ldB, ?_⟩
    have s6 := s6.to (B := cA b2 [.int .i64 0, .slice none 0 0] 66 + (B' + (cA b3 [.int .i64 k, .slice q n d] 66 + (cA b1 [.int .i64 k, .slice p n c] 66 + (0 + 0)))))
    refine s6.wr rfl (by simp) fun h7 s7 => ?_
    refine s7.wr (o := 1) (yaaj _ _ _) (by simp) fun h8 s8 => ?_
    refine ⟨_, _, _, _, s8.blk.cell 0, Blk.cellA s8.blk 1, _, _, B', rfl, ?_, ?_⟩
    · rw [List.take_of_length_le (by omega)] at nb; exact nb
    · have s8 : St h h8 (cA b2 [.int .i64 k, .slice q n d] 66 + (B' + (cA b3 [.int .i64 k, .slice q n d] 66 + (cA b1 [.int .i64 k, .slice p n c] 66 + (0 + 0))))) := s8
      have s9 := (s8.to (B := (cA b2 [.int .i64 k, .slice q n d] 66 + cA b3 [.int .i64 k, .slice q n d] 66 + cA b1 [.int .i64 k, .slice p n c] 66) + (B' + (0 + 0)))).drop
      rw [Bag.yaqx, Bag.yaqx] at s9
      exact s9
end
theorem yapg {rows : List (List Int)} (h : ∀ r ∈ rows, r ≠ []) : rows.length ≤ tot rows := by
  induction rows with
  | nil => exact Nat.zero_le _
  | cons a rows ih =>
    have h1 := List.length_pos_iff.2 (h a List.mem_cons_self)
    have h2 := ih fun r hr => h r (List.mem_cons_of_mem _ hr)
    rw [yais, List.length_cons]; omega
theorem yaey {k : Int} {rows : List (List Int)} (h : OkR k rows) : rows.length ≤ 500 ∧ ∀ r ∈ rows, r.length ≤ 500 := by
  have mp : ∀ {α : Type} {l : List α} {f : α → List Int} {m : Nat}, (∀ x, (f x).length = m) → m ≤ 500 → ∀ r ∈ l.map f, r.length ≤ 500 := fun hf hm r hr => by
    obtain ⟨x, _, rfl⟩ := List.mem_map.1 hr
    rw [hf]; exact hm
  rcases h with ⟨rfl, l, rfl, h1, h2, h3⟩ | ⟨rfl, l, rfl, h1, h2, h3⟩ | ⟨rfl, l, rfl, h2, h3⟩ | ⟨rfl, h⟩ | ⟨rfl, l, rfl, h1, h2, h3⟩ | ⟨rfl, l, rfl, h2, h3⟩
  · exact ⟨by rw [List.length_map]; exact h3, mp (m := 2) (fun _ => rfl) (by omega)⟩
  · exact ⟨by rw [List.length_map]; exact h3, mp (m := 1) (fun _ => rfl) (by omega)⟩
  · exact ⟨by rw [List.length_map]; exact h3, mp (m := 1) (fun _ => rfl) (by omega)⟩
  · have := yapg fun r hr => (h.1 r hr).1
    refine ⟨by have := h.2.2.2; omega, fun r hr => ?_⟩
    obtain ⟨i, hi, e⟩ := List.mem_iff_getElem.1 hr
    have := yagr h.2.2.2 i
    rwa [yaaf hi, e] at this
  · exact ⟨by rw [List.length_map]; exact h3, mp (m := 3) (fun _ => rfl) (by omega)⟩
  · unfold textR
    split
    · exact ⟨Nat.zero_le _, fun r hr => by cases hr⟩
    · exact ⟨by simp, fun r hr => by rw [List.mem_singleton.1 hr]; exact h3⟩
end Go.Proofs.YtdlkohenamlnaaaGreat
/- Layer 3: a step, of the model and of the reference. -/
namespace Go.Proofs.YtdlkohenamlnaaaGreat
open Go Go.Sx
theorem yayj {l : List E} {c : Int} {zs : List Int} : stepR 1 (l.map row2) c zs = ((dictS l c zs).1.map row2, (dictS l c zs).2) := by unfold stepR; rw [if_pos rfl, yayo]
theorem yazq {l : List Int} {c : Int} {zs : List Int} : stepR 2 (l.map row1) c zs = ((heapS l c zs).1.map row1, (heapS l c zs).2) := by unfold stepR; rw [if_neg (by decide), if_pos rfl, yaum]
theorem yazs {l : List Int} {c : Int} {zs : List Int} : stepR 3 (l.map row1) c zs = ((seqS l c zs).1.map row1, (seqS l c zs).2) := by unfold stepR; rw [if_neg (by decide), if_neg (by decide), if_pos rfl, yaum]
theorem yazh {l : List (List Int)} {c : Int} {zs : List Int} : stepR 4 l c zs = setsS l c zs := by unfold stepR; rw [if_neg (by decide), if_neg (by decide), if_neg (by decide), if_pos rfl]
theorem ybac {l : List Pt} {c : Int} {zs : List Int} : stepR 5 (l.map row3) c zs = ((ptsS l c zs).1.map row3, (ptsS l c zs).2) := by unfold stepR; rw [if_neg (by decide), if_neg (by decide), if_neg (by decide), if_neg (by decide), if_pos rfl, yazm]
theorem yayr {l : List Int} {c : Int} {zs : List Int} : stepR 6 (textR l) c zs = (textR (textS l c zs).1, (textS l c zs).2) := by unfold stepR; rw [if_neg (by decide), if_neg (by decide), if_neg (by decide), if_neg (by decide), if_neg (by decide), yayx]
abbrev MRunP (h0 : Hp) (G : Bag) (k : Int) (rows : List (List Int)) (c : Int) (zs : List Int) : VK := yafm h0 G (stepR k rows c zs).1 (stepR k rows c zs).2.1 (stepR k rows c zs).2.2
abbrev RunRP (h0 : Hp) (G : Bag) (k : Int) (rows : List (List Int)) (c : Int) (zs : List Int) : VK := StepP h0 G k (stepR k rows c zs).1 (stepR k rows c zs).2.1 (stepR k rows c zs).2.2
section
variable {h0 h : Hp} {k : Int} {rows : List (List Int)} {p q : OA} {n c m cc : Nat} {code : Int} {zs : List Int} {B G : Bag}
theorem yarw (ok : OkR k rows) (hv : OpV k code zs) (na : RowsA (p, n, c) rows B) (rz : RdS h0 G TI q m zs) (hmc : m ≤ cc) (hm : m ≤ 100) (s : St h0 h (B + G)) :
    yaae Tryz.prog 92 #[.int .i64 k, .slice p n c, .agg #[.int .i64 code, .slice q m cc]] h (MRunP h0 G k rows code zs) := by
  have hl : rows.length = n := yaaw na
  have hcn : n ≤ c := by
    obtain ⟨hs, B0, B1, rfl, h1, h2⟩ := na
    exact h1.cap
  have hsm := yaey ok
  refine zav_call ?_
  rw [zav_b0]
  refine s.new (cs := [.int .i64 code, .slice q m cc]) fun b1 h1' _ s1 => ?_
  refine s1.new (cs := [.int .i64 0, .int .i64 0, .slice none 0 0]) fun b2 h2 _ s2 => ?_
  have s2 : St h0 h2 (cA b2 [.int .i64 0, .int .i64 0, .slice none 0 0] 61 + (cA b1 [.int .i64 code, .slice q m cc] 25 + (B + G))) := s2
  have kb1 := s2.atomBlk
  have sB : St h0 h2 (B + (cA b2 [.int .i64 0, .int .i64 0, .slice none 0 0] 61 + (cA b1 [.int .i64 code, .slice q m cc] 25 + G))) := s2.to
  have rz' : RdS h0 (cA b2 [.int .i64 0, .int .i64 0, .slice none 0 0] 61 + (cA b1 [.int .i64 code, .slice q m cc] 25 + G)) TI q m zs := fun h' A s' => rz h' (A + (cA b2 [.int .i64 0, .int .i64 0, .slice none 0 0] 61 + cA b1 [.int .i64 code, .slice q m cc] 25)) s'.to
  have key : ∀ {g : Nat}, yaae Tryz.prog g #[.slice p n c, .agg #[.int .i64 code, .slice q m cc]] h2 (MRunP h0 (cA b2 [.int .i64 0, .int .i64 0, .slice none 0 0] 61 + (cA b1 [.int .i64 code, .slice q m cc] 25 + G)) k rows code zs) →
      ∃ n5 : Int, ∃ a5 L5 C5, cell h2 ⟨b1, 0, none⟩ = some (.int .i64 n5) ∧ cell h2 ((⟨b1, 0, none⟩ : Addr).add 1) = some (.slice a5 L5 C5) ∧
      yaae Tryz.prog g #[.slice p n c, .agg #[.int .i64 n5, .slice a5 L5 C5]] h2 fun v5 h19 => ∃ (r29 : OA) (rL13 rC13 : Nat), ∃ r30 : Int, ∃ r31 : Int, ∃ (r32 : OA) (rL14 rC14 : Nat), v5 = .tuple #[.slice r29 rL13 rC13, .agg #[.int .i64 r30, .int .i64 r31, .slice r32 rL14 rC14]] ∧
      Wr h19 ⟨b2, 0, none⟩ (.int .i64 r30) fun h20 => Wr h20 ((⟨b2, 0, none⟩ : Addr).add 1) (.int .i64 r31) fun h21 => Wr h21 ((⟨b2, 0, none⟩ : Addr).add 2) (.slice r32 rL14 rC14) fun h22 =>
      ∃ r33 : Int, ∃ r34 : Int, ∃ r35 rL15 rC15, cell h22 ⟨b2, 0, none⟩ = some (.int .i64 r33) ∧ cell h22 ((⟨b2, 0, none⟩ : Addr).add 1) = some (.int .i64 r34) ∧ cell h22 ((⟨b2, 0, none⟩ : Addr).add 2) = some (.slice r35 rL15 rC15) ∧
      MRunP h0 G k rows code zs (.tuple #[.slice r29 rL13 rC13, .agg #[.int .i64 r33, .int .i64 r34, .slice r35 rL15 rC15]]) h22 := fun hc => by
    refine ⟨_, _, _, _, kb1.cell 0, Blk.cellA kb1 1, hc.mono fun v h3 ⟨q', m', d', B', hv, na', s3⟩ => ⟨_, _, _, _, _, _, _, _, hv, ?_⟩⟩
    have s3 := s3.to (B := cA b2 [.int .i64 0, .int .i64 0, .slice none 0 0] 61 + (cA b1 [.int .i64 code, .slice q m cc] 25 + (B' + G)))
    exact mboxW na' s3
  rcases ok with ⟨rfl, l, rfl, o1, o2, o3⟩ | ⟨rfl, l, rfl, o1, o2, o3⟩ | ⟨rfl, l, rfl, o2, o3⟩ | ⟨rfl, o⟩ | ⟨rfl, l, rfl, o1, o2, o3⟩ | ⟨rfl, l, rfl, o2, o3⟩
  · refine yaax rfl (key ?_)
    rw [MRunP, yayj]
    obtain ⟨hc, hz1, _, _⟩ := opv1 hv
    exact yaxy o1 na rz' hmc sB (by omega) hc hz1 (opv1e hv)
  · refine yaam rfl (yaax rfl (key ?_))
    rw [MRunP, yazq]
    obtain ⟨hc, hz1, _⟩ := opv2 hv
    exact yaxa o1 na rz' hmc sB (by omega) hc hz1
  · refine yaam rfl (yaam rfl (yaax rfl (key ?_)))
    rw [MRunP, yazs]
    obtain ⟨hc, hz1, hz2, _⟩ := opv3 hv
    exact yazd o2 na rz' hmc sB (by omega) hcn hc hz1 hz2
  · refine yaam rfl (yaam rfl (yaam rfl (yaax rfl (key ?_))))
    rw [MRunP, yazh]
    obtain ⟨hc, hz1, hz2⟩ := opv4 hv
    exact yawx (fun r hr => pw_lt (o.1 r hr).2) na rz' sB (by omega) o.2.2.2 hc hz1 hz2
  · refine yaam rfl (yaam rfl (yaam rfl (yaam rfl (yaax rfl (key ?_)))))
    rw [MRunP, ybac]
    obtain ⟨hc, hz1, hz2, hz4, _⟩ := opv5 hv
    exact yarj o1 (fun x hx => (o2 x hx).2.2) na rz' hmc sB (by omega) hc hz1 hz2 hz4
  · refine yaam rfl (yaam rfl (yaam rfl (yaam rfl (yaam rfl ?_))))
    obtain ⟨hc, hz1, _, _⟩ := opv6 hv
    have r := key (g := 142) (by rw [MRunP, yayr]; exact yayc na rz' sB o3 hm hz1 hc)
    rw [zav_b1]
    exact r
theorem yauy (ok : OkR k rows) (hv : OpV k code zs) (r : RowsR h p n rows) (rz : RdT TI h q m zs) (hm : m ≤ 100) :
    yaae Tryz.prog 39 #[.agg #[.int .i64 k, .slice p n c], .agg #[.int .i64 code, .slice q m cc]] h (RunRP h 0 k rows code zs) := by
  have hl := r.len
  have hsm := yaey ok
  refine zcs_call ?_
  rw [zcs_b0]
  refine (St.start h).new (cs := [.int .i64 k, .slice p n c]) fun b1 h3 _ s => s.new (cs := [_, _]) fun b2 h4 _ s => s.new (cs := [_, _]) fun b3 h5 _ s => s.new (cs := [_, _, _]) fun b4 h6 _ s => ?_
  refine ⟨_, _, _, _, s.ld0, s.ldB, ?_⟩
  refine (yawg (r.ext s.ext) (by omega) (fun r hr => by have := hsm.2 r hr; omega)).mono fun v1 h7 ⟨p', c', B', hv1, na', t7⟩ => ⟨_, _, _, _, hv1, ?_⟩
  have s := s.join t7
  have s7 : St h h7 (cA b1 [.int .i64 k, .slice p n c] 66 + (cA b2 [.int .i64 code, .slice q m cc] 25 + (cA b3 [.int .i64 0, .slice none 0 0] 66 + (cA b4 [.int .i64 0, .int .i64 0, .slice none 0 0] 61 + (B' + 0))))) := by
    have s := s.to (B := 0 + (cA b1 [.int .i64 k, .slice p n c] 66 + (cA b2 [.int .i64 code, .slice q m cc] 25 + (cA b3 [.int .i64 0, .slice none 0 0] 66 + (cA b4 [.int .i64 0, .int .i64 0, .slice none 0 0] 61 + B')))))
    rw [Bag.yaxj] at s
    rw [Bag.yaqx]
    exact s
  refine s7.wr rfl (by simp) fun h8 s8 => ?_
  refine s8.wr (o := 1) (yaaj _ _ _) (by simp) fun h9 s9 => ?_
  have s9 : St h h9 (cA b1 [.int .i64 k, .slice p' n c'] 66 + (cA b2 [.int .i64 code, .slice q m cc] 25 + (cA b3 [.int .i64 0, .slice none 0 0] 66 + (cA b4 [.int .i64 0, .int .i64 0, .slice none 0 0] 61 + (B' + 0))))) := s9
  have kb1 := s9.blk
  have kb2 := s9.atomBlk
  have s10 := s9.to (B := B' + ((cA b1 [.int .i64 k, .slice p' n c'] 66 + (cA b2 [.int .i64 code, .slice q m cc] 25 + (cA b3 [.int .i64 0, .slice none 0 0] 66 + cA b4 [.int .i64 0, .int .i64 0, .slice none 0 0] 61))) + 0))
  have rz' : RdS h ((cA b1 [.int .i64 k, .slice p' n c'] 66 + (cA b2 [.int .i64 code, .slice q m cc] 25 + (cA b3 [.int .i64 0, .slice none 0 0] 66 + cA b4 [.int .i64 0, .int .i64 0, .slice none 0 0] 61))) + 0) TI q m zs := fun h' A s' => rz.ext s'.ext
  have key : ∀ {g : Nat}, yaae Tryz.prog g #[.agg #[.int .i64 k, .slice p' n c'], .agg #[.int .i64 code, .slice q m cc]] h9 (RunRP h ((cA b1 [.int .i64 k, .slice p' n c'] 66 + (cA b2 [.int .i64 code, .slice q m cc] 25 + (cA b3 [.int .i64 0, .slice none 0 0] 66 + cA b4 [.int .i64 0, .int .i64 0, .slice none 0 0] 61))) + 0) k rows code zs) →
      ∃ n3 : Int, ∃ a2 L2 C2, cell h9 ⟨b1, 0, none⟩ = some (.int .i64 n3) ∧ cell h9 ((⟨b1, 0, none⟩ : Addr).add 1) = some (.slice a2 L2 C2) ∧
      ∃ n4 : Int, ∃ a3 L3 C3, cell h9 ⟨b2, 0, none⟩ = some (.int .i64 n4) ∧ cell h9 ((⟨b2, 0, none⟩ : Addr).add 1) = some (.slice a3 L3 C3) ∧
      yaae Tryz.prog g #[.agg #[.int .i64 n3, .slice a2 L2 C2], .agg #[.int .i64 n4, .slice a3 L3 C3]] h9 fun v2 h8 => ∃ r3 : Int, ∃ (r4 : OA) (rL2 rC2 : Nat), ∃ r5 : Int, ∃ r6 : Int, ∃ (r7 : OA) (rL3 rC3 : Nat), v2 = .tuple #[.agg #[.int .i64 r3, .slice r4 rL2 rC2], .agg #[.int .i64 r5, .int .i64 r6, .slice r7 rL3 rC3]] ∧
      Wr h8 ⟨b3, 0, none⟩ (.int .i64 r3) fun h9 => Wr h9 ((⟨b3, 0, none⟩ : Addr).add 1) (.slice r4 rL2 rC2) fun h10 => Wr h10 ⟨b4, 0, none⟩ (.int .i64 r5) fun h11 => Wr h11 ((⟨b4, 0, none⟩ : Addr).add 1) (.int .i64 r6) fun h12 => Wr h12 ((⟨b4, 0, none⟩ : Addr).add 2) (.slice r7 rL3 rC3) fun h13 =>
      ∃ r8 : Int, ∃ r9 rL4 rC4, cell h13 ⟨b3, 0, none⟩ = some (.int .i64 r8) ∧ cell h13 ((⟨b3, 0, none⟩ : Addr).add 1) = some (.slice r9 rL4 rC4) ∧
      ∃ r10 : Int, ∃ r11 : Int, ∃ r12 rL5 rC5, cell h13 ⟨b4, 0, none⟩ = some (.int .i64 r10) ∧ cell h13 ((⟨b4, 0, none⟩ : Addr).add 1) = some (.int .i64 r11) ∧ cell h13 ((⟨b4, 0, none⟩ : Addr).add 2) = some (.slice r12 rL5 rC5) ∧
      RunRP h 0 k rows code zs (.tuple #[.agg #[.int .i64 r8, .slice r9 rL4 rC4], .agg #[.int .i64 r10, .int .i64 r11, .slice r12 rL5 rC5]]) h13 := fun hc => by
    refine ⟨_, _, _, _, kb1.cell 0, Blk.cellA kb1 1, _, _, _, _, kb2.cell 0, Blk.cellA kb2 1, hc.mono fun v2 h11 ⟨q2, m2, d2, B2, hv2, na2, s11⟩ => ⟨_, _, _, _, _, _, _, _, _, hv2, ?_⟩⟩
    have s11 : St h h11 (cA b3 [.int .i64 0, .slice none 0 0] 66 + (cA b4 [.int .i64 0, .int .i64 0, .slice none 0 0] 61 + ((cA b1 [.int .i64 k, .slice p' n c'] 66 + cA b2 [.int .i64 code, .slice q m cc] 25) + (B2 + 0)))) := s11.to
    exact boxW na2 s11
  refine ⟨_, kb1.cell 0, ?_⟩
  rcases ok with ⟨rfl, l, rfl, o1, o2, o3⟩ | ⟨rfl, l, rfl, o1, o2, o3⟩ | ⟨rfl, l, rfl, o2, o3⟩ | ⟨rfl, o⟩ | ⟨rfl, l, rfl, o1, o2, o3⟩ | ⟨rfl, l, rfl, o2, o3⟩
  · refine yaax rfl (key ?_)
    rw [RunRP, yayj]
    obtain ⟨hc, hz1, hz2, _⟩ := opv1 hv
    exact yays o1 na' rz' s10 (by omega) hc hz1 hz2
  · refine yaam rfl (yaax rfl (key ?_))
    rw [RunRP, yazq]
    obtain ⟨hc, hz1, _⟩ := opv2 hv
    exact yazr o1 na' rz' s10 (by omega) hc hz1
  · refine yaam rfl (yaam rfl (yaax rfl (key ?_)))
    rw [RunRP, yazs]
    obtain ⟨hc, hz1, hz2, hz⟩ := opv3 hv
    exact ybbf o2 na' rz' s10 (by omega) hc hz1 hz2 hz
  · refine yaam rfl (yaam rfl (yaam rfl (yaax rfl (key ?_))))
    rw [RunRP, yazh]
    obtain ⟨hc, hz1, hz2⟩ := opv4 hv
    exact ybaq na' rz' s10 (by omega) o.2.2.2 hc (fun h => by rw [hz1 h]; exact Nat.le_refl _) (fun h => by rw [hz2 h]; exact Nat.le_refl _)
  · refine yaam rfl (yaam rfl (yaam rfl (yaam rfl (yaax rfl (key ?_)))))
    rw [RunRP, ybac]
    obtain ⟨hc, hz1, hz2, hz4, _⟩ := opv5 hv
    exact yaud o1 (fun x hx => (o2 x hx).2.2) na' rz' s10 (by omega) hc hz1 hz2 hz4
  · refine yaam rfl (yaam rfl (yaam rfl (yaam rfl (yaam rfl ?_))))
    obtain ⟨hc, hz1, _, _⟩ := opv6 hv
    have r := key (g := 82) (by rw [RunRP, yayr]; exact yazp na' rz' s10 o3 hm hz1 hc)
    rw [zcs_b1]
    exact r
end
end Go.Proofs.YtdlkohenamlnaaaGreat
/- Layer 3: which states are valid: tables. -/
namespace Go.Proofs.YtdlkohenamlnaaaGreat
open Go Go.Sx
def VP (P : Prop) (h : Hp) (v : Value) (h' : Hp) : Prop := (∃ b : Bool, v = .bool b ∧ (b = true ↔ P)) ∧ Ext h h'
theorem VP.no {P : Prop} {h h' : Hp} (hn : ¬ P) (x : Ext h h') : VP P h (.bool false) h' := ⟨⟨false, rfl, by simp [hn]⟩, x⟩
theorem VP.yes {P : Prop} {h h' : Hp} (hp : P) (x : Ext h h') : VP P h (.bool true) h' := ⟨⟨true, rfl, by simp [hp]⟩, x⟩
theorem yane : ∀ {a b : List Int}, a.length = b.length → (cmpL a b < 0 ↔ befL a b = true) ∧ (0 < cmpL a b ↔ befL b a = true)
  | [], [], _ => by simp [cmpL, befL]
  | [], _ :: _, h => by simp at h
  | _ :: _, [], h => by simp at h
  | x :: a, y :: b, h => by
    have ih := yane (a := a) (b := b) (by simpa using h)
    rw [cmpL, befL, befL]
    by_cases h1 : x < y
    · rw [if_pos h1, if_neg (by omega), if_neg (by omega)]
      constructor
      · simp [h1]
      · simp; omega
    · rw [if_neg h1]
      by_cases h2 : y < x
      · rw [if_pos h2, if_neg (by omega), if_neg (by omega)]
        constructor
        · simp; omega
        · simp [h2]
      · rw [if_neg h2, if_pos (by omega), if_pos (by omega)]
        exact ih
theorem yawd {a b : List Int} (h : a.length = b.length) (h1 : befL a b = true) : befL b a = false := by
  have := yane h
  cases hb : befL b a with
  | false => rfl
  | true => have := this.1.2 h1; have := (yane h).2.2 hb; omega
def OrdV (ky : Nat) (st : Bool) (a b : List Int) : Prop := if st then befL (a.take ky) (b.take ky) = true else befL (b.take ky) (a.take ky) = false
structure TabV (w ky : Nat) (st : Bool) (rows : List (List Int)) : Prop where
  wid : ∀ i, i < rows.length → (rows.getD i []).length = w ∧ ∀ z ∈ rows.getD i [], KeyP z
  ord : ∀ i, i + 1 < rows.length → 0 < ky → OrdV ky st (rows.getD i []) (rows.getD (i + 1) [])
theorem ybbq (z : Int) (h : Hp) (K : VK) (hk : K (.bool (!decide (KeyP z))) h) : callX Tryz.prog F 160 #[.int .i64 z] h K := by
  refine yacw (by kernel_rfl) (zbn_call ?_)
  rw [zbn_b0]
  exact (yavk z h).mono fun v h' ⟨hv, hh⟩ => ⟨_, hv, by rw [hh]; exact hk⟩
theorem yavu {l : List Int} : (l.any fun z => !decide (KeyP z)) = true ↔ ¬ ∀ z ∈ l, KeyP z := by
  rw [List.any_eq_true]
  constructor
  · rintro ⟨z, hz, h⟩ hn; rw [decide_eq_true (hn z hz)] at h; cases h
  · intro h
    refine Classical.byContradiction fun hc => h fun z hz => Classical.byContradiction fun hk => hc ⟨z, hz, by rw [decide_eq_false hk]; rfl⟩
section
variable {h : Hp} {p : OA} {n c : Nat} {rows : List (List Int)}
theorem yakv {k : Int} {w ky : Nat} (hW : ∀ h, yaae Tryz.prog 159 #[.int .i64 k] h (fun v h' => v = .tuple #[.int .i64 (w : Int), .int .i64 (ky : Int)] ∧ h' = h)) (hw : ky ≤ w ∧ w < 100) (r : RowsR h p n rows) (hrl : ∀ x ∈ rows, x.length ≤ 1000) :
    yaae Tryz.prog 134 #[.agg #[.int .i64 k, .slice p n c]] h (VP (rows.length ≤ 500 ∧ TabV w ky (!decide (k = 2)) rows) h) := by
  have hl := r.len
  refine zbm_call ?_
  rw [zbm_b0]
  refine (St.start h).new (cs := [.int .i64 k, .slice p n c]) fun b1 h1 x1 s1 => ?_
  refine ⟨_, _, _, Blk.cellA s1.blk 1, condP (fun h5 => VP.no (fun h => by omega) s1.ext) (fun h5 => ⟨_, s1.blk.cell 0, ?_⟩)⟩
  refine (hW h1).mono fun v h2 ⟨hv2, hh⟩ => ⟨_, _, hv2, ?_⟩
  subst hh
  refine ⟨_, _, _, Blk.cellA s1.blk 1, ?_⟩
  refine ⟨fun x h' => ∃ i : Nat, x.1 = (i : Int) ∧ i ≤ n ∧ h' = h2 ∧ (∀ j, j < i → (rows.getD j []).length = w ∧ ∀ z ∈ rows.getD j [], KeyP z) ∧ (∀ j, j + 1 < i → 0 < ky → OrdV ky (!decide (k = 2)) (rows.getD j []) (rows.getD (j + 1) [])), fun x _ => n - x.1.toNat, ⟨0, rfl, by omega, rfl, fun j hj => absurd hj (by omega), fun j hj => absurd hj (by omega)⟩, ?_⟩
  rintro ⟨_, _⟩ h3 ⟨i, rfl, hin, rfl, i1, i2⟩
  dsimp only
  have r3 := r.ext s1.ext
  have small : ∀ j, j < n → (rows.getD j []).length ≤ 1000 := fun j hj => hrl _ (yaav (by omega))
  rw [zbm_b1]
  refine condP (fun hlt => ?_) (fun hge => ?_)
  · refine r3.hdr rfl (by omega) fun a C rr hLC => ?_
    have hsm := small i (by omega)
    refine condN (fun hne => VP.no (fun h => hne (by have := (h.2.wid i (by omega)).1; omega)) s1.ext) (fun hw1 => ?_)
    refine (yadh ybbq rr (by omega)).mono fun v h4 ⟨hh4, hv4⟩ => ⟨_, hv4, ?_⟩
    subst hh4
    refine yaay (fun hb => VP.no (fun h => yavu.1 hb (h.2.wid i (by omega)).2) s1.ext) (fun hb => ?_)
    have hk : ∀ z ∈ rows.getD i [], KeyP z := Classical.byContradiction fun hc => by rw [yavu.2 hc] at hb; cases hb
    have b4 : (0 < i → 0 < ky → OrdV ky (!decide (k = 2)) (rows.getD (i - 1) []) (rows.getD i [])) → zbm_b4 (some ⟨b1, 0, none⟩) (w : Int) (ky : Int) p n c (n : Int) (i : Int) h4 (fun s' h' => (∃ i : Nat, s'.1 = (i : Int) ∧ i ≤ n ∧ h' = h4 ∧ (∀ j, j < i → (rows.getD j []).length = w ∧ ∀ z ∈ rows.getD j [], KeyP z) ∧ (∀ j, j + 1 < i → 0 < ky → OrdV ky (!decide (k = 2)) (rows.getD j []) (rows.getD (j + 1) []))) ∧ n - s'.1.toNat < n - (i : Int).toNat) (VP (rows.length ≤ 500 ∧ TabV w ky (!decide (k = 2)) rows) h) := by
      intro ho
      rw [zbm_b4]
      refine ⟨⟨by omega, by omega⟩, ⟨i + 1, by push_cast; rfl, by omega, rfl, fun j hj => ?_, fun j hj hky => ?_⟩, by simp only; omega⟩
      · rcases Nat.lt_or_ge j i with h | h
        · exact i1 j h
        · obtain rfl : j = i := by omega
          exact ⟨by omega, hk⟩
      · rcases Nat.lt_or_ge (j + 1) i with h | h
        · exact i2 j h hky
        · obtain rfl : i = j + 1 := by omega
          exact ho (by omega) hky
    rw [zbm_b2]
    refine condP (fun h0 => b4 fun h => by omega) (fun hi0 => condP (fun h0 => b4 fun _ h => by omega) (fun hk0 => ?_))
    rw [zbm_b5]
    refine ⟨_, _, _, Blk.cellA s1.blk 1, ⟨by omega, by omega⟩, ?_⟩
    rw [show (i : Int) - 1 = ((i - 1 : Nat) : Int) by omega]
    refine r3.hdr rfl (by omega) fun a' C' rr' hLC' => ?_
    have w3 := (i1 (i - 1) (by omega)).1
    refine ⟨⟨by omega, by omega, by omega⟩, ⟨by omega, by omega, by omega⟩, ?_⟩
    rw [show Int.toNat (0 : Int) = 0 from rfl, yaaz, yaaz, Int.toNat_natCast, Nat.sub_zero]
    refine ⟨_, yavr (rr'.take (i := ky) (by omega)) (rr.take (i := ky) (by omega)) (by omega), ?_⟩
    have hc := yane (a := (rows.getD (i - 1) []).take ky) (b := (rows.getD i []).take ky) (by rw [List.length_take, List.length_take]; omega)
    have ord : TabV w ky (!decide (k = 2)) rows → OrdV ky (!decide (k = 2)) (rows.getD (i - 1) []) (rows.getD i []) := fun h => by
      have := h.ord (i - 1) (by omega) (by omega)
      rwa [show i - 1 + 1 = i by omega] at this
    refine condP (fun h0 => VP.no (fun h => ?_) s1.ext) (fun h0 => condP (fun he => ⟨_, s1.blk.cell 0, condN (fun hne => VP.no (fun h => ?_) s1.ext) (fun hk2 => b4 fun _ _ => ?_)⟩) (fun hne => b4 fun _ _ => ?_))
    · have ho := ord h.2
      have hb := hc.2.1 h0
      unfold OrdV at ho
      split at ho
      · have := hc.1.2 ho; omega
      · rw [hb] at ho; cases ho
    · have ho := ord h.2
      unfold OrdV at ho
      rw [decide_eq_false hne, if_pos (by decide)] at ho
      have := hc.1.2 ho; omega
    · unfold OrdV
      rw [decide_eq_true hk2, if_neg (by decide)]
      cases hb : befL ((rows.getD i []).take ky) ((rows.getD (i - 1) []).take ky) with
      | false => rfl
      | true => have := hc.2.2 hb; omega
    · have hb : befL ((rows.getD (i - 1) []).take ky) ((rows.getD i []).take ky) = true := hc.1.1 (by omega)
      unfold OrdV
      split
      · exact hb
      · exact yawd (by rw [List.length_take, List.length_take]; omega) hb
  · rw [zbm_b3]
    exact VP.yes ⟨by omega, fun i hi => i1 i (by omega), fun i hi hky => i2 i (by omega) hky⟩ s1.ext
end
end Go.Proofs.YtdlkohenamlnaaaGreat
/- Layer 3: which states are valid: partitions, of the model. -/
namespace Go.Proofs.YtdlkohenamlnaaaGreat
open Go Go.Sx
theorem yant {α : Type} {R : α → α → Prop} (tr : ∀ a b c, R a b → R b c → R a c) {d : α} : ∀ {l : List α}, (∀ i, i + 1 < l.length → R (l.getD i d) (l.getD (i + 1) d)) → l.Pairwise R
  | [], _ => List.Pairwise.nil
  | a :: l, h => by
    refine List.pairwise_cons.2 ⟨fun b hb => ?_, yant tr fun i hi => h (i + 1) (by simpa using hi)⟩
    obtain ⟨j, hj, rfl⟩ := List.mem_iff_getElem.1 hb
    have key : ∀ j, j < l.length → R a (l.getD j d) := fun j => by
      induction j with
      | zero => intro hj; exact h 0 (by simpa using hj)
      | succ j ih => intro hj; exact tr _ _ _ (ih (by omega)) (h (j + 1) (by simpa using hj))
    have := key j hj
    rwa [yaaf hj] at this
theorem yase {α : Type} {R : α → α → Prop} {d : α} {l : List α} (h : l.Pairwise R) {i : Nat} (hi : i + 1 < l.length) : R (l.getD i d) (l.getD (i + 1) d) := by
  rw [yaaf (by omega), yaaf hi]
  exact List.pairwise_iff_getElem.1 h i (i + 1) (by omega) hi (by omega)
theorem yala (n : Nat) : ((List.range n).map Int.ofNat).Pairwise (· ≤ ·) := by
  rw [List.pairwise_map]
  exact List.pairwise_lt_range.imp fun {a b} h => by show (a : Int) ≤ b; omega
theorem yamy {n i : Nat} (h : i < n) : ((List.range n).map Int.ofNat).getD i 0 = i := by
  rw [yaaf (by simpa using h), List.getElem_map, List.getElem_range]; rfl
def RowsF (rows : List (List Int)) (i : Nat) : Prop := (∀ j, j < i → rows.getD j [] ≠ [] ∧ (rows.getD j []).Pairwise (· < ·)) ∧ ∀ j, j + 1 < i → hdR (rows.getD j []) < hdR (rows.getD (j + 1) [])
theorem yaxh {rows : List (List Int)} (h : PartR rows) : RowsF rows rows.length := by
  refine ⟨fun j hj => h.1 _ (yaav hj), fun j hj => ?_⟩
  have := yase (d := 0) h.2.1 (i := j) (by rw [List.length_map]; exact hj)
  rw [yaaf (by rw [List.length_map]; omega), yaaf (by rw [List.length_map]; omega), List.getElem_map, List.getElem_map] at this
  rwa [yaaf (by omega), yaaf hj]
theorem ybba {rows : List (List Int)} (h : RowsF rows rows.length) (hp : rows.flatten.Perm ((List.range (tot rows)).map Int.ofNat)) (ht : tot rows ≤ 500) : PartR rows := by
  refine ⟨fun r hr => ?_, yant (α := Int) (R := (· < ·)) (d := 0) (fun a b c => Int.lt_trans) fun i hi => ?_, hp, ht⟩
  · obtain ⟨j, hj, rfl⟩ := List.mem_iff_getElem.1 hr
    have := h.1 j hj
    rwa [yaaf hj] at this
  · rw [List.length_map] at hi
    have := h.2 i hi
    rw [yaaf (by rw [List.length_map]; omega), yaaf (by rw [List.length_map]; omega), List.getElem_map, List.getElem_map]
    rwa [yaaf (by omega), yaaf hi] at this
theorem yatd {rows : List (List Int)} {i : Nat} (h : i < rows.length) : (rows.take (i + 1)).flatten = (rows.take i).flatten ++ rows.getD i [] := by
  rw [List.take_succ_eq_append_getElem h, List.flatten_append, yaaf h]; simp
section
variable {h : Hp} {p : OA} {n c : Nat} {rows : List (List Int)}
theorem yaln (r : RowsR h p n rows) (hrl : ∀ x ∈ rows, x.length ≤ 1000) :
    yaae Tryz.prog 135 #[.slice p n c] h (VP (PartR rows) h) := by
  have hl := r.len
  refine zbo_call ?_
  rw [zbo_b0]
  refine condP (fun h5 => VP.no (fun h => by have := yapg fun r hr => (h.1 r hr).1; have := h.2.2.2; omega) (Ext.refl _)) (fun h5 => ?_)
  refine ⟨fun x h' => ∃ (i : Nat) (A : Bag), x.2.1 = (i : Int) ∧ i ≤ n ∧ x.1.2.1 = tot (rows.take i) ∧ tot (rows.take i) ≤ 500 ∧ Sl TI x.1.1 x.1.2.1 x.1.2.2 (rows.take i).flatten A ∧ St h h' A ∧ RowsF rows i, fun x _ => n - x.2.1.toNat, ⟨0, 0, rfl, by omega, rfl, Nat.zero_le _, Sl.nil, St.start h, fun j hj => absurd hj (by omega), fun j hj => absurd hj (by omega)⟩, ?_⟩
  rintro ⟨⟨p1, m1, c1⟩, _, _⟩ h1 ⟨i, A, rfl, hin, hm, htl, o, s, hF⟩
  dsimp only at hm o ⊢
  subst hm
  have x := s.ext
  have r1 := r.ext x
  rw [zbo_b1]
  refine condP (fun hlt => ?_) (fun hge => ?_)
  · have hil : i < rows.length := by omega
    have hrow := hrl _ (yaav (l := rows) (d := []) hil)
    have htk := yaic hil
    have htk2 := yate (rows := rows) (i + 1)
    refine r1.hdr rfl (by omega) fun a C rr hLC => ?_
    refine condP (fun h0 => VP.no (fun h => (h.1 _ (yaav (d := []) hil)).1 (List.length_eq_zero_iff.1 (by omega))) x) (fun h0 => ⟨⟨by omega, by omega⟩, ?_⟩)
    refine condP (fun h6 => VP.no (fun h => by have := h.2.2.2; omega) x) (fun h6 => ?_)
    have b2 : (0 < i → hdR (rows.getD (i - 1) []) < hdR (rows.getD i [])) → zbo_b2 p n c p1 (tot (rows.take i)) c1 a (rows.getD i []).length C p n c (n : Int) (i : Int) h1 (fun s' h' => (∃ (i : Nat) (A : Bag), s'.2.1 = (i : Int) ∧ i ≤ n ∧ s'.1.2.1 = tot (rows.take i) ∧ tot (rows.take i) ≤ 500 ∧ Sl TI s'.1.1 s'.1.2.1 s'.1.2.2 (rows.take i).flatten A ∧ St h h' A ∧ RowsF rows i) ∧ n - s'.2.1.toNat < n - (i : Int).toNat) (VP (PartR rows) h) := by
      intro hfirst
      rw [zbo_b2]
      refine ⟨fun x h' => ∃ k : Nat, x.1 = (k : Int) ∧ 1 ≤ k ∧ k ≤ (rows.getD i []).length ∧ h' = h1 ∧ ∀ j, j + 1 < k → (rows.getD i []).getD j 0 < (rows.getD i []).getD (j + 1) 0, fun x _ => (rows.getD i []).length - x.1.toNat, ⟨1, rfl, Nat.le_refl _, by omega, rfl, fun j hj => absurd hj (by omega)⟩, ?_⟩
      rintro ⟨_, _⟩ h2 ⟨k, rfl, hk1, hk2, rfl, hasc⟩
      dsimp only
      rw [zbo_b4]
      refine condP (fun hlk => ?_) (fun hgk => ?_)
      · refine ⟨⟨by omega, by omega⟩, ldI (i' := k - 1) rr (by omega) (by omega) (ldI (i' := k) rr rfl (by omega) (condP (fun hle => VP.no (fun h => ?_) x) (fun hgt => ?_)))⟩
        · have := yase (d := 0) ((h.1 _ (yaav (d := []) hil)).2) (i := k - 1) (by omega)
          rw [show k - 1 + 1 = k by omega] at this
          omega
        · rw [zbo_b6]
          refine ⟨⟨by omega, by omega⟩, ⟨k + 1, by push_cast; rfl, by omega, by omega, rfl, fun j hj => ?_⟩, by simp only; omega⟩
          rcases Nat.lt_or_ge (j + 1) k with h | h
          · exact hasc j h
          · obtain rfl : k = j + 1 := by omega
            rw [show j + 1 - 1 = j by omega] at hgt
            omega
      · obtain rfl : k = (rows.getD i []).length := by omega
        rw [zbo_b7]
        have s0 : St h h2 (A + 0) := by rw [Bag.yaqx]; exact s
        refine yaat yade s0 o rr (by omega) fun p' c' h3 A' o' s3 => ?_
        rw [zbo_b10, ← htk]
        rw [← yatd hil, ← htk] at o'
        rw [Bag.yaqx] at s3
        refine ⟨⟨by omega, by omega⟩, ⟨i + 1, A', by push_cast; rfl, by omega, rfl, by omega, o', s3, fun j hj => ?_, fun j hj => ?_⟩, by simp only; omega⟩
        · rcases Nat.lt_or_ge j i with h | h
          · exact hF.1 j h
          · obtain rfl : j = i := by omega
            refine ⟨fun h => by rw [h] at h0; exact h0 rfl, yant (α := Int) (R := (· < ·)) (d := 0) (fun a b c => Int.lt_trans) hasc⟩
        · rcases Nat.lt_or_ge (j + 1) i with h | h
          · exact hF.2 j h
          · obtain rfl : i = j + 1 := by omega
            exact hfirst (by omega)
    refine condP (fun hi0 => ⟨⟨by omega, by omega⟩, r1.get (i' := i - 1) (j' := 0) (by omega) (by omega) rfl (List.length_pos_iff.2 (hF.1 (i - 1) (by omega)).1) (ldI (i' := 0) rr rfl (by omega) (condP (fun hle => VP.no (fun h => ?_) x) (fun hgt => b2 fun _ => ?_)))⟩) (fun hi0 => b2 fun h => by omega)
    · have := (yaxh h).2 (i - 1) (by omega)
      rw [show i - 1 + 1 = i by omega] at this
      unfold hdR at this
      omega
    · unfold hdR; omega
  · obtain rfl : i = n := by omega
    have ett : rows.take i = rows := List.take_of_length_le (by omega)
    rw [ett] at o htl ⊢
    rw [zbo_b3]
    have s0 : St h h1 (A + 0) := by rw [Bag.yaqx]; exact s
    refine (ybah (P := fun _ => True) s0 o (fun _ _ => trivial) (by omega)).mono fun v h5 ⟨hv, ys, A5, o5, s5, hp, hsrt⟩ => ⟨hv, ?_⟩
    have x5 := s5.ext
    have rd5 := o5.rd s5
    have hyl := o5.len
    have hyl : ys.length = tot rows := hyl
    have hso := yamk hsrt
    refine ⟨fun x h' => ∃ k : Nat, x.1 = (k : Int) ∧ k ≤ tot rows ∧ h' = h5 ∧ ∀ j, j < k → ys.getD j 0 = j, fun x _ => tot rows - x.1.toNat, ⟨0, rfl, by omega, rfl, fun j hj => absurd hj (by omega)⟩, ?_⟩
    rintro ⟨_, _⟩ h6 ⟨k, rfl, hk, rfl, hys⟩
    dsimp only
    rw [zbo_b5]
    refine condP (fun hlk => ldI (i' := k) rd5 rfl (by omega) (condN (fun hne => VP.no (fun h => hne ?_) x5) (fun heq => ?_))) (fun hgk => ?_)
    · have e : ys = (List.range (tot rows)).map Int.ofNat := List.Perm.eq_of_pairwise (fun a b _ _ h1 h2 => Int.le_antisymm h1 h2) hso (yala _) (hp.trans h.2.2.1)
      rw [e, yamy (by omega)]
    · rw [zbo_b8]
      refine ⟨⟨by omega, by omega⟩, ⟨k + 1, by push_cast; rfl, by omega, rfl, fun j hj => ?_⟩, by simp only; omega⟩
      rcases Nat.lt_or_ge j k with h | h
      · exact hys j h
      · rw [show j = k by omega]; exact heq
    · rw [zbo_b9]
      refine VP.yes (ybba (by rw [hl]; exact hF) ?_ htl) x5
      have e : ys = (List.range (tot rows)).map Int.ofNat := by
        refine yadm (d := 0) (by rw [hyl]; simp) fun t ht => ?_
        have ht : t < tot rows := by simpa using ht
        rw [hys t (by omega), yamy (by omega)]
      rw [← e]
      exact hp.symm
end
end Go.Proofs.YtdlkohenamlnaaaGreat
/- Layer 3: which states are valid. -/
namespace Go.Proofs.YtdlkohenamlnaaaGreat
open Go Go.Sx
theorem len1 {r : List Int} (h : r.length = 1) : r = [r.getD 0 0] := by match r, h with | [_], _ => rfl
theorem len2 {r : List Int} (h : r.length = 2) : r = [r.getD 0 0, r.getD 1 0] := by match r, h with | [_, _], _ => rfl
theorem len3 {r : List Int} (h : r.length = 3) : r = [r.getD 0 0, r.getD 1 0, r.getD 2 0] := by match r, h with | [_, _, _], _ => rfl
theorem yahs {α : Type} {w : Nat} {rows : List (List Int)} (f : α → List Int) (g : List Int → α) (hfg : ∀ r : List Int, r.length = w → f (g r) = r) (h : ∀ i, i < rows.length → (rows.getD i []).length = w) : rows = (rows.map g).map f := by
  rw [List.map_map]
  conv => lhs; rw [← List.map_id rows]
  refine List.map_congr_left fun r hr => ?_
  obtain ⟨i, hi, e⟩ := List.mem_iff_getElem.1 hr
  have := h i hi
  rw [yaaf hi, e] at this
  exact (hfg r this).symm
theorem yabh {α β : Type} {f : α → β} {l : List α} {i : Nat} {d : α} {e : β} (h : i < l.length) : (l.map f).getD i e = f (l.getD i d) := by
  rw [yaaf (by rw [List.length_map]; exact h), List.getElem_map, yaaf h]
theorem ord1 {x y : Int} {a b : List Int} : OrdV 1 true (x :: a) (y :: b) ↔ x < y := by
  unfold OrdV
  rw [if_pos rfl]
  show befL [x] [y] = true ↔ _
  rw [befL]
  by_cases h : x = y
  · rw [if_pos h]; simp [befL]; omega
  · rw [if_neg h]; simp
theorem ord1f {x y : Int} {a b : List Int} : OrdV 1 false (x :: a) (y :: b) ↔ x ≤ y := by
  unfold OrdV
  rw [if_neg (by decide)]
  show befL [y] [x] = false ↔ _
  rw [befL]
  by_cases h : y = x
  · rw [if_pos h]; simp [befL]; omega
  · rw [if_neg h]; simp
theorem ord2 {p q : Pt} : OrdV 2 true (row3 p) (row3 q) ↔ ptLt p q := by
  unfold OrdV
  rw [if_pos rfl]
  show befL [p.1, p.2.1] [q.1, q.2.1] = true ↔ _
  rw [yavq, decide_eq_true_eq]
  rfl
section
variable {rows : List (List Int)}
theorem okR1 : OkR 1 rows ↔ rows.length ≤ 500 ∧ TabV 2 1 true rows := by
  constructor
  · rintro (⟨-, l, rfl, h1, h2, h3⟩ | ⟨h, -⟩ | ⟨h, -⟩ | ⟨h, -⟩ | ⟨h, -⟩ | ⟨h, -⟩) <;> first | omega | skip
    refine ⟨by rw [List.length_map]; exact h3, ⟨fun i hi => ?_, fun i hi _ => ?_⟩⟩
    · rw [List.length_map] at hi
      rw [yabh (d := (0, 0)) hi]
      have := h2 _ (yaav (d := (0, 0)) hi)
      refine ⟨rfl, fun z hz => ?_⟩
      rcases List.mem_cons.1 hz with rfl | hz
      · exact this.1
      · rw [List.mem_singleton.1 hz]; exact this.2
    · rw [List.length_map] at hi
      rw [yabh (d := (0, 0)) (by omega), yabh (d := (0, 0)) hi]
      exact ord1.2 (yase h1 hi)
  · rintro ⟨h1, h2⟩
    have e := yahs row2 (fun r => (r.getD 0 0, r.getD 1 0)) (fun r h => (len2 h).symm) fun i hi => (h2.wid i hi).1
    refine Or.inl ⟨rfl, to2 rows, e, yant (α := E) (R := fun a b => a.1 < b.1) (d := (0, 0)) (fun a b c => Int.lt_trans) fun i hi => ?_, fun x hx => ?_, by unfold to2; rw [List.length_map]; exact h1⟩
    · unfold to2 at hi ⊢
      rw [List.length_map] at hi
      rw [yabh (d := []) (by omega), yabh (d := []) hi]
      have := h2.ord i hi Nat.one_pos
      rw [len2 (h2.wid i (by omega)).1, len2 (h2.wid (i + 1) hi).1] at this
      exact ord1.1 this
    · obtain ⟨r, hr, rfl⟩ := List.mem_map.1 hx
      obtain ⟨i, hi, e⟩ := List.mem_iff_getElem.1 hr
      have := h2.wid i hi
      rw [yaaf hi, e] at this
      exact ⟨this.2 _ (yaav (by omega)), this.2 _ (yaav (by omega))⟩
theorem okR2 : OkR 2 rows ↔ rows.length ≤ 500 ∧ TabV 1 1 false rows := by
  constructor
  · rintro (⟨h, -⟩ | ⟨-, l, rfl, h1, h2, h3⟩ | ⟨h, -⟩ | ⟨h, -⟩ | ⟨h, -⟩ | ⟨h, -⟩) <;> first | omega | skip
    refine ⟨by rw [List.length_map]; exact h3, ⟨fun i hi => ?_, fun i hi _ => ?_⟩⟩
    · rw [List.length_map] at hi
      rw [yabh (d := 0) hi]
      refine ⟨rfl, fun z hz => ?_⟩
      rw [List.mem_singleton.1 hz]; exact h2 _ (yaav hi)
    · rw [List.length_map] at hi
      rw [yabh (d := 0) (by omega), yabh (d := 0) hi]
      exact ord1f.2 (yase h1 hi)
  · rintro ⟨h1, h2⟩
    have e := yahs row1 hdR (fun r h => (len1 h).symm) fun i hi => (h2.wid i hi).1
    refine Or.inr (Or.inl ⟨rfl, to1 rows, e, yant (α := Int) (R := (· ≤ ·)) (d := 0) (fun a b c => Int.le_trans) fun i hi => ?_, fun x hx => ?_, by unfold to1; rw [List.length_map]; exact h1⟩)
    · unfold to1 at hi ⊢
      rw [List.length_map] at hi
      rw [yabh (d := []) (by omega), yabh (d := []) hi]
      have := h2.ord i hi Nat.one_pos
      rw [len1 (h2.wid i (by omega)).1, len1 (h2.wid (i + 1) hi).1] at this
      exact ord1f.1 this
    · obtain ⟨r, hr, rfl⟩ := List.mem_map.1 hx
      obtain ⟨i, hi, e⟩ := List.mem_iff_getElem.1 hr
      have := h2.wid i hi
      rw [yaaf hi, e] at this
      exact this.2 _ (yaav (by omega))
theorem okR3 (st : Bool) : OkR 3 rows ↔ rows.length ≤ 500 ∧ TabV 1 0 st rows := by
  constructor
  · rintro (⟨h, -⟩ | ⟨h, -⟩ | ⟨-, l, rfl, h2, h3⟩ | ⟨h, -⟩ | ⟨h, -⟩ | ⟨h, -⟩) <;> first | omega | skip
    refine ⟨by rw [List.length_map]; exact h3, ⟨fun i hi => ?_, fun i hi h => absurd h (by omega)⟩⟩
    rw [List.length_map] at hi
    rw [yabh (d := 0) hi]
    refine ⟨rfl, fun z hz => ?_⟩
    rw [List.mem_singleton.1 hz]; exact h2 _ (yaav hi)
  · rintro ⟨h1, h2⟩
    have e := yahs row1 hdR (fun r h => (len1 h).symm) fun i hi => (h2.wid i hi).1
    refine Or.inr (Or.inr (Or.inl ⟨rfl, to1 rows, e, fun x hx => ?_, by unfold to1; rw [List.length_map]; exact h1⟩))
    obtain ⟨r, hr, rfl⟩ := List.mem_map.1 hx
    obtain ⟨i, hi, e⟩ := List.mem_iff_getElem.1 hr
    have := h2.wid i hi
    rw [yaaf hi, e] at this
    exact this.2 _ (yaav (by omega))
theorem okR4 : OkR 4 rows ↔ PartR rows := by
  constructor
  · rintro (⟨h, -⟩ | ⟨h, -⟩ | ⟨h, -⟩ | ⟨-, h⟩ | ⟨h, -⟩ | ⟨h, -⟩) <;> first | omega | exact h
  · exact fun h => Or.inr (Or.inr (Or.inr (Or.inl ⟨rfl, h⟩)))
theorem okR5 : OkR 5 rows ↔ rows.length ≤ 500 ∧ TabV 3 2 true rows := by
  constructor
  · rintro (⟨h, -⟩ | ⟨h, -⟩ | ⟨h, -⟩ | ⟨h, -⟩ | ⟨-, l, rfl, h1, h2, h3⟩ | ⟨h, -⟩) <;> first | omega | skip
    refine ⟨by rw [List.length_map]; exact h3, ⟨fun i hi => ?_, fun i hi _ => ?_⟩⟩
    · rw [List.length_map] at hi
      rw [yabh (d := dPt) hi]
      have := h2 _ (yaav (d := dPt) hi)
      refine ⟨rfl, fun z hz => ?_⟩
      rcases List.mem_cons.1 hz with rfl | hz
      · exact this.1
      · rcases List.mem_cons.1 hz with rfl | hz
        · exact this.2.1
        · rw [List.mem_singleton.1 hz]; exact this.2.2
    · rw [List.length_map] at hi
      rw [yabh (d := dPt) (by omega), yabh (d := dPt) hi]
      exact ord2.2 (yase h1 hi)
  · rintro ⟨h1, h2⟩
    have e := yahs row3 (fun r => (r.getD 0 0, r.getD 1 0, r.getD 2 0)) (fun r h => (len3 h).symm) fun i hi => (h2.wid i hi).1
    refine Or.inr (Or.inr (Or.inr (Or.inr (Or.inl ⟨rfl, to3 rows, e, yant (α := Pt) (R := ptLt) (d := dPt) (fun a b c => yasg) fun i hi => ?_, fun x hx => ?_, by unfold to3; rw [List.length_map]; exact h1⟩))))
    · unfold to3 at hi ⊢
      rw [List.length_map] at hi
      rw [yabh (d := []) (by omega), yabh (d := []) hi]
      have := h2.ord i hi (by decide)
      rw [len3 (h2.wid i (by omega)).1, len3 (h2.wid (i + 1) hi).1] at this
      exact ord2.1 this
    · obtain ⟨r, hr, rfl⟩ := List.mem_map.1 hx
      obtain ⟨i, hi, e⟩ := List.mem_iff_getElem.1 hr
      have := h2.wid i hi
      rw [yaaf hi, e] at this
      exact ⟨this.2 _ (yaav (by omega)), this.2 _ (yaav (by omega)), this.2 _ (yaav (by omega))⟩
theorem okR6 : OkR 6 rows ↔ rows.length = 0 ∨ (rows.length = 1 ∧ 0 < (rows.getD 0 []).length ∧ (rows.getD 0 []).length ≤ 500 ∧ ∀ z ∈ rows.getD 0 [], ChP z) := by
  constructor
  · rintro (⟨h, -⟩ | ⟨h, -⟩ | ⟨h, -⟩ | ⟨h, -⟩ | ⟨h, -⟩ | ⟨-, l, rfl, h2, h3⟩) <;> first | omega | skip
    unfold textR
    split
    · exact Or.inl rfl
    · rename_i hne
      exact Or.inr ⟨rfl, List.length_pos_iff.2 hne, h3, h2⟩
  · rintro (h | ⟨h, h1, h2, h3⟩)
    · have e : rows = [] := List.length_eq_zero_iff.1 h
      subst e
      exact Or.inr (Or.inr (Or.inr (Or.inr (Or.inr ⟨rfl, [], rfl, fun z hz => (by cases hz), Nat.zero_le _⟩))))
    · refine Or.inr (Or.inr (Or.inr (Or.inr (Or.inr ⟨rfl, rows.getD 0 [], ?_, h3, h2⟩))))
      have hne : rows.getD 0 [] ≠ [] := List.length_pos_iff.1 h1
      unfold textR
      rw [if_neg hne]
      match rows, h with | [_], _ => rfl
theorem yawc {k : Int} (h : OkR k rows) : 1 ≤ k ∧ k ≤ 6 := by
  rcases h with ⟨rfl, -⟩ | ⟨rfl, -⟩ | ⟨rfl, -⟩ | ⟨rfl, -⟩ | ⟨rfl, -⟩ | ⟨rfl, -⟩ <;> decide
end
theorem VP.from {P : Prop} {h0 h h' : Hp} {v : Value} (e : Ext h0 h) (x : VP P h v h') : VP P h0 v h' := ⟨x.1, e.trans x.2⟩
theorem wch_x (z : Int) (h : Hp) (K : VK) (hk : K (.bool (!decide (ChP z))) h) : callX Tryz.prog F 136 #[.int .i64 z] h K := by
  refine yacw (by kernel_rfl) (zau_call ?_)
  rw [zau_b0]
  exact (yauq z h).mono fun v h' ⟨hv, hh⟩ => ⟨_, hv, by rw [hh]; exact hk⟩
section
variable {h : Hp} {p : OA} {n c : Nat} {rows : List (List Int)} {k : Int}
theorem yaya (k : Int) (h : Hp) : yaae Tryz.prog 159 #[.int .i64 k] h (fun v h' => v = .tuple #[.int .i64 ((if k = 1 then 2 else if k = 5 then 3 else 1 : Nat) : Int), .int .i64 ((if k = 1 then 1 else if k = 5 then 2 else if k = 2 then 1 else 0 : Nat) : Int)] ∧ h' = h) := by
  refine zbp_call ?_
  rw [zbp_b0]
  refine condP (fun h1 => ⟨by rw [if_pos h1, if_pos h1]; rfl, rfl⟩) (fun h1 => condP (fun h5 => ⟨by rw [if_neg h1, if_neg h1, if_pos h5, if_pos h5]; rfl, rfl⟩) (fun h5 => condP (fun h2 => ⟨by rw [if_neg h1, if_neg h1, if_neg h5, if_neg h5, if_pos h2]; rfl, rfl⟩) (fun h2 => ?_)))
  rw [zbp_b1]
  exact ⟨by rw [if_neg h1, if_neg h1, if_neg h5, if_neg h5, if_neg h2]; rfl, rfl⟩
theorem yakh (r : RowsR h p n rows) (hrl : ∀ x ∈ rows, x.length ≤ 1000) :
    yaae Tryz.prog 91 #[.agg #[.int .i64 k, .slice p n c]] h (VP (OkR k rows) h) := by
  have hl := r.len
  refine zaq_call ?_
  rw [zaq_b0_eq]
  refine (St.start h).new (cs := [.int .i64 k, .slice p n c]) fun b1 h1 _ s => ?_
  have x := s.ext
  have r1 := r.ext x
  have tab : ∀ {w ky : Nat}, (∀ h, yaae Tryz.prog 159 #[.int .i64 k] h (fun v h' => v = .tuple #[.int .i64 (w : Int), .int .i64 (ky : Int)] ∧ h' = h)) → ky ≤ w ∧ w < 100 → (OkR k rows ↔ rows.length ≤ 500 ∧ TabV w ky (!decide (k = 2)) rows) → zaq_b1 (some ⟨b1, 0, none⟩) k true h1 (VP (OkR k rows) h) := by
    intro w ky hW hw e
    rw [zaq_b1_eq]
    refine yaax rfl ⟨_, _, _, _, s.ld0, s.ldB, (yakv hW hw r1 hrl).mono fun v h2 hv => ?_⟩
    obtain ⟨b, hb, hv⟩ := hv.1
    exact ⟨b, hb, ⟨b, rfl, hv.trans e.symm⟩, x.trans ‹VP _ _ _ _›.2⟩
  have hwid := yaya k
  refine ⟨_, s.ld0, condP (fun hk => ?_) (fun hk1 => condP (fun hk => ?_) (fun hk2 => condP (fun hk => ?_) (fun hk3 => ?_)))⟩
  · subst hk; exact tab hwid (by decide) okR1
  · subst hk; exact tab hwid (by decide) okR2
  · subst hk; exact tab hwid (by decide) (okR3 _)
  by_cases hk5 : k = 5
  · subst hk5; exact tab hwid (by decide) okR5
  rw [decide_eq_false hk5, zaq_b1_eq]
  refine yaam rfl (condP (fun hk => ?_) (fun hk4 => condP (fun hk => ?_) (fun hk6 => ?_)))
  · subst hk
    refine ⟨_, _, _, s.ldB, (yaln r1 hrl).mono fun v h2 hv => ?_⟩
    obtain ⟨b, hb, hv'⟩ := hv.1
    exact ⟨b, hb, ⟨b, rfl, hv'.trans okR4.symm⟩, x.trans hv.2⟩
  · subst hk
    have hsm : 0 < n → (rows.getD 0 []).length ≤ 1000 := fun hn => hrl _ (yaav (by omega))
    refine ⟨_, _, _, s.ldB, condP (fun h0 => VP.yes (okR6.2 (Or.inl (by omega))) x) (fun h0 => ⟨_, _, _, s.ldB, condP (fun h1' => ?_) (fun h1' => VP.no (fun h => by rcases okR6.1 h with h | h <;> omega) x)⟩)⟩
    refine ⟨_, _, _, s.ldB, r1.hdr (i' := 0) rfl (by omega) fun q d rr _ => condP (fun hp => ?_) (fun hp => VP.no (fun h => by rcases okR6.1 h with h | h <;> omega) x)⟩
    refine ⟨_, _, _, s.ldB, r1.hdr (i' := 0) rfl (by omega) fun q d rr _ => condP (fun hp5 => ?_) (fun hp5 => VP.no (fun h => by rcases okR6.1 h with h | h <;> omega) x)⟩
    refine ⟨_, _, _, s.ldB, r1.hdr (i' := 0) rfl (by omega) fun q d rr _ => (yadh wch_x rr (by omega)).mono fun v h4 ⟨hh, hv⟩ => ⟨_, hv, ?_⟩⟩
    subst hh
    refine ⟨⟨_, rfl, ?_⟩, x⟩
    rw [yaqh, decide_eq_true_eq]
    constructor
    · exact fun h => okR6.2 (Or.inr ⟨by omega, by omega, by omega, h⟩)
    · intro h
      rcases okR6.1 h with h | h
      · omega
      · exact h.2.2.2
  · rw [zaq_b2_eq]
    exact VP.no (fun h => by have := yawc h; omega) x
end
end Go.Proofs.YtdlkohenamlnaaaGreat
/- Layer 3's model: Apply, and Run, of any kind. -/
namespace Go.Proofs.YtdlkohenamlnaaaGreat
open Go Go.Sx
def yaoy (h0 : Hp) (G : Bag) (k : Int) (rows : List (List Int)) (e z : Int) (v : Value) (h' : Hp) : Prop :=
  ∃ q m d B', v = .tuple #[.agg #[.int .i64 k, .slice q m d], .agg #[.int .i64 e, .int .i64 z, .slice none 0 0], .int .i64 0] ∧ RowsA (q, m, d) rows B' ∧ St h0 h' (B' + G)
theorem yaxp {h : Hp} {k : Int} {rows : List (List Int)} {p q : OA} {n c m cc : Nat} {code : Int} {zs : List Int} (ok : OkR k rows) (hv : OpV k code zs) (r : RowsR h p n rows) (rz : RdT TI h q m zs) (hmc : m ≤ cc) (hm : m ≤ 100) :
    yaae Tryz.prog 53 #[.agg #[.int .i64 k, .slice p n c], .agg #[.int .i64 code, .slice q m cc]] h (yaoy h 0 k (stepR k rows code zs).1 (stepR k rows code zs).2.1 (stepR k rows code zs).2.2) := by
  have hl := r.len
  have hsm := yaey ok
  obtain ⟨R, hR⟩ : ∃ R, stepR k rows code zs = R := ⟨_, rfl⟩
  rw [hR]
  refine zal_call ?_
  rw [zal_b0]
  refine (St.start h).new (cs := [.int .i64 k, .slice p n c]) fun b1 h1' x1 s1 => ?_
  refine s1.new (cs := [.int .i64 code, .slice q m cc]) fun b2 h2 x2 s2 => ?_
  refine s2.new (cs := [.int .i64 0, .slice none 0 0]) fun b3 h3 x3 s3 => ?_
  refine s3.new (cs := [.int .i64 0, .int .i64 0, .slice none 0 0]) fun b4 h4 x4 s => ?_
  have s4 := s.to (B := cA b1 [.int .i64 k, .slice p n c] 66 + (cA b2 [.int .i64 code, .slice q m cc] 25 + (cA b3 [.int .i64 0, .slice none 0 0] 66 + (cA b4 [.int .i64 0, .int .i64 0, .slice none 0 0] 61 + 0))))
  have x5 := s.ext
  clear s s1 s2 s3
  refine ⟨_, _, _, _, s4.blk.cell 0, Blk.cellA s4.blk 1, ?_⟩
  refine (yakh (r.ext x5) (fun r hr => by have := hsm.2 r hr; omega)).mono fun v5 h5 hv5 => ?_
  obtain ⟨⟨bb, hv5, hbb⟩, x6⟩ := hv5
  have hbt := hbb.2 ok
  subst hbt
  refine ⟨_, hv5, yaam rfl ?_⟩
  have s5 := s4.grow x6
  refine ⟨_, s5.blk.cell 0, _, _, _, _, s5.atomBlk.cell 0, Blk.cellA s5.atomBlk 1, ?_⟩
  refine (yajw (rz.ext (x5.trans x6))).mono fun v6 h6 ⟨hv6, x7⟩ => ⟨_, hv6, yaam (by rw [decide_eq_true hv]; rfl) ?_⟩
  have s6 := s5.grow x7
  have r6 := r.ext s6.ext
  have rz6 := (rz.ext (x5.trans x6)).ext x7
  clear s5 s4
  rw [zal_b1]
  have c1 : cell h6 ⟨b1, 0, none⟩ = some (.int .i64 k) := s6.blk.cell 0
  have c1' : cell h6 ((⟨b1, 0, none⟩ : Addr).add 1) = some (.slice p n c) := Blk.cellA s6.blk 1
  have c2 : cell h6 ⟨b2, 0, none⟩ = some (.int .i64 code) := s6.atomBlk.cell 0
  have c2' : cell h6 ((⟨b2, 0, none⟩ : Addr).add 1) = some (.slice q m cc) := Blk.cellA s6.atomBlk 1
  have cp : ∀ {h' : Hp}, Ext h6 h' → yaae Tryz.prog 93 #[.slice p n c] h' (fun v h'' => ∃ q d B', v = .slice q n d ∧ RowsA (q, n, d) rows B' ∧ St h' h'' B') := fun x => yajp (r6.ext x) (by omega) (fun r hr => by have := hsm.2 r hr; omega)
  have ap : ∀ {h' : Hp} {q1 : OA} {d1 : Nat} {B1 G1 : Bag}, RowsA (q1, n, d1) rows B1 → St h6 h' (B1 + G1) → yaae Tryz.prog 92 #[.int .i64 k, .slice q1 n d1, .agg #[.int .i64 code, .slice q m cc]] h' (yafm h6 G1 R.1 R.2.1 R.2.2) := fun na1 s => by
    have := yarw (G := _) ok hv na1 (fun h' A s' => rz6.ext s'.ext) hmc hm s
    rw [MRunP, hR] at this
    exact this
  have fin : ∀ {h' : Hp} {bx : Nat} {q2 : OA} {m2 d2 : Nat} {B2 : Bag}, RowsA (q2, m2, d2) R.1 B2 → St h6 h' (cA bx [.int .i64 0, .int .i64 0, .slice none 0 0] 61 + B2) →
      Wr h' ⟨bx, 0, none⟩ (.int .i64 R.2.1) fun h20 => Wr h20 ((⟨bx, 0, none⟩ : Addr).add 1) (.int .i64 R.2.2) fun h21 => Wr h21 ((⟨bx, 0, none⟩ : Addr).add 2) (.slice none 0 0) fun h22 => zal_b2 (some ⟨b1, 0, none⟩) (some ⟨b3, 0, none⟩) (some ⟨b4, 0, none⟩) q2 m2 d2 (some ⟨bx, 0, none⟩) h22 (yaoy h 0 k R.1 R.2.1 R.2.2) := by
    intro h' bx q2 m2 d2 B2 na2 s'
    refine s'.wr rfl (by simp) fun h20 s' => ?_
    refine s'.wr (o := 1) (yaaj _ _ _) (by simp) fun h21 s' => ?_
    refine s'.wr (o := 2) (yaaj _ _ _) (by simp) fun h22 s' => ?_
    have s' : St h6 h22 (cA bx [.int .i64 R.2.1, .int .i64 R.2.2, .slice none 0 0] 61 + B2) := s'
    rw [zal_b2]
    have cx := s'.blk
    have s := (s6.join s').to (B := cA b3 [.int .i64 0, .slice none 0 0] 66 + (cA b4 [.int .i64 0, .int .i64 0, .slice none 0 0] 61 + (cA bx [.int .i64 R.2.1, .int .i64 R.2.2, .slice none 0 0] 61 + (cA b1 [.int .i64 k, .slice p n c] 66 + (cA b2 [.int .i64 code, .slice q m cc] 25 + (B2 + 0))))))
    refine ⟨_, s'.ext.cell c1, _, _, _, _, _, cx.cell 0, Blk.cellA cx 1, Blk.cellA cx 2, ?_⟩
    refine s.wr rfl (by simp) fun h23 s => ?_
    refine s.wr (o := 1) (yaaj _ _ _) (by simp) fun h24 s => ?_
    have s : St h h24 (cA b3 [.int .i64 k, .slice q2 m2 d2] 66 + (cA b4 [.int .i64 0, .int .i64 0, .slice none 0 0] 61 + (cA bx [.int .i64 R.2.1, .int .i64 R.2.2, .slice none 0 0] 61 + (cA b1 [.int .i64 k, .slice p n c] 66 + (cA b2 [.int .i64 code, .slice q m cc] 25 + (B2 + 0)))))) := s
    have cx := (s.to (B := cA bx [.int .i64 R.2.1, .int .i64 R.2.2, .slice none 0 0] 61 + (cA b4 [.int .i64 0, .int .i64 0, .slice none 0 0] 61 + (cA b3 [.int .i64 k, .slice q2 m2 d2] 66 + (cA b1 [.int .i64 k, .slice p n c] 66 + (cA b2 [.int .i64 code, .slice q m cc] 25 + (B2 + 0))))))).blk
    refine ⟨⟨_, _, _, _, _, cx.cell 0, Blk.cellA cx 1, Blk.cellA cx 2, rfl⟩, ?_⟩
    have s := s.to (B := cA b4 [.int .i64 0, .int .i64 0, .slice none 0 0] 61 + (cA b3 [.int .i64 k, .slice q2 m2 d2] 66 + (cA bx [.int .i64 R.2.1, .int .i64 R.2.2, .slice none 0 0] 61 + (cA b1 [.int .i64 k, .slice p n c] 66 + (cA b2 [.int .i64 code, .slice q m cc] 25 + (B2 + 0))))))
    refine s.wr rfl (by simp) fun h25 s => ?_
    refine s.wr (o := 1) (yaaj _ _ _) (by simp) fun h26 s => ?_
    refine s.wr (o := 2) (yaaj _ _ _) (by simp) fun h27 s => ?_
    have s : St h h27 (cA b4 [.int .i64 R.2.1, .int .i64 R.2.2, .slice none 0 0] 61 + (cA b3 [.int .i64 k, .slice q2 m2 d2] 66 + (cA bx [.int .i64 R.2.1, .int .i64 R.2.2, .slice none 0 0] 61 + (cA b1 [.int .i64 k, .slice p n c] 66 + (cA b2 [.int .i64 code, .slice q m cc] 25 + (B2 + 0)))))) := s
    refine ⟨_, _, _, _, s.atomBlk.cell 0, Blk.cellA s.atomBlk 1, _, _, _, _, _, s.blk.cell 0, Blk.cellA s.blk 1, Blk.cellA s.blk 2, q2, m2, d2, B2, rfl, na2, s.drop.drop.drop.drop.drop⟩
  refine ⟨_, c1, _, _, _, c1', _, _, _, _, c2, c2', ?_⟩
  have s := St.start h6
  repeat' first
    | (with_reducible refine fin na2 ?_); exact s.to
    | (with_reducible refine St.new s (cs := [.int .i64 0, .int .i64 0, .slice none 0 0]) ?_); intro _ _ _ s
    | (with_reducible refine yaae.mono (cp s.ext) ?_); rintro _ _ ⟨q1, d1, B1, hv1, na1, tt⟩; refine ⟨_, _, _, hv1, ?_⟩; have s := s.join tt; clear tt
    | (with_reducible refine yaae.mono (ap na1 (s.at _)) ?_); rintro _ _ ⟨q2, m2, d2, B2, hv2, na2, s⟩; refine ⟨_, _, _, _, _, _, _, _, hv2, ?_⟩
    | with_reducible refine ⟨⟨_, _, _, _, s.ext.cell c2, s.ext.cell c2', rfl⟩, ?_⟩
    | with_reducible refine ⟨⟨_, s.ext.cell c1, rfl⟩, ?_⟩
    | with_reducible refine ⟨⟨_, _, _, s.ext.cell c1', rfl⟩, ?_⟩
    | with_reducible refine ⟨?_, ?_⟩
end Go.Proofs.YtdlkohenamlnaaaGreat
/- Layer 3's model: Run, of any kind. -/
namespace Go.Proofs.YtdlkohenamlnaaaGreat
open Go Go.Sx
def runR (k : Int) (ops : List OpL) : List (List Int) × List ResL := ops.foldl (fun s o => ((stepR k s.1 o.1 o.2).1, s.2 ++ [(stepR k s.1 o.1 o.2).2])) ([], [])
theorem yaew {k : Int} {ops : List OpL} {i : Nat} (hi : i < ops.length) : runR k (ops.take (i + 1)) = ((stepR k (runR k (ops.take i)).1 (ops.getD i (0, [])).1 (ops.getD i (0, [])).2).1, (runR k (ops.take i)).2 ++ [(stepR k (runR k (ops.take i)).1 (ops.getD i (0, [])).1 (ops.getD i (0, [])).2).2]) := by
  rw [List.take_succ_eq_append_getElem hi, yaaf hi]
  unfold runR
  rw [List.foldl_append]
  rfl
theorem yahz {k : Int} : ∀ {ops : List OpL} {i : Nat}, i ≤ ops.length → (runR k (ops.take i)).2.length = i
  | _, 0, _ => by rw [List.take_zero]; rfl
  | _, i + 1, h => by rw [yaew (by omega), List.length_append, yahz (by omega)]; rfl
theorem yaus {k : Int} (hk : 1 ≤ k ∧ k ≤ 6) : OkR k [] := by
  have hc : k = 1 ∨ k = 2 ∨ k = 3 ∨ k = 4 ∨ k = 5 ∨ k = 6 := by omega
  rcases hc with rfl | rfl | rfl | rfl | rfl | rfl
  · exact Or.inl ⟨rfl, [], rfl, List.Pairwise.nil, fun e he => (by cases he), Nat.zero_le _⟩
  · exact Or.inr (Or.inl ⟨rfl, [], rfl, List.Pairwise.nil, fun e he => (by cases he), Nat.zero_le _⟩)
  · exact Or.inr (Or.inr (Or.inl ⟨rfl, [], rfl, fun e he => (by cases he), Nat.zero_le _⟩))
  · exact okR4.2 ⟨fun r hr => by (cases hr), List.Pairwise.nil, by exact List.Perm.refl _, Nat.zero_le _⟩
  · exact Or.inr (Or.inr (Or.inr (Or.inr (Or.inl ⟨rfl, [], rfl, List.Pairwise.nil, fun e he => (by cases he), Nat.zero_le _⟩))))
  · exact okR6.2 (Or.inl rfl)
theorem yame {k : Int} (hk : 1 ≤ k ∧ k ≤ 6) {ops : List OpL} (hv : AllV k ops) : ∀ {i : Nat}, i ≤ ops.length → OkR k (runR k (ops.take i)).1
  | 0, _ => by rw [List.take_zero]; exact yaus hk
  | i + 1, h => by
    rw [yaew (by omega)]
    exact yaxs (yame hk hv (by omega)) (hv _ (yaav (by omega)))
theorem yafx {k c : Int} {zs : List Int} (hv : OpV k c zs) : zs.length ≤ 64 := by
  have h4 := yaxl k (c - 1).toNat
  have := hv.2
  split at this
  · omega
  · omega
def RunAP (k : Int) (h : Hp) (ops : List OpL) (v : Value) (h' : Hp) : Prop :=
  ∃ q m d o od B C, v = .tuple #[.agg #[.int .i64 k, .slice q m d], .slice o ops.length od, .int .i64 0] ∧ RowsA (q, m, d) (runR k ops).1 B ∧ Sl tRes o ops.length od (runR k ops).2 C ∧ St h h' (B + (C + 0))
theorem yazn {k : Int} (hk : 1 ≤ k ∧ k ≤ 6) {h : Hp} {p : OA} {n c : Nat} {ops : List OpL} (r : OpsR h p n ops) (hn : n ≤ 1000) (hv : AllV k ops) :
    yaae Tryz.prog 121 #[.agg #[.int .i64 k, .slice none 0 0], .slice p n c] h (RunAP k h ops) := by
  have hl := r.len
  have rn : ∀ h, RowsR h none 0 [] := fun h => ⟨rfl, [], ⟨rfl, Or.inl rfl⟩, fun i hi => absurd hi (by omega)⟩
  refine zao_call ?_
  rw [zao_b0]
  refine (St.start h).new (cs := [.int .i64 k, .slice none 0 0]) fun b1 h1 _ s1 => ?_
  refine s1.new (cs := [.int .i64 0, .slice none 0 0]) fun b2 h2 _ s2 => ?_
  have kb1 := s2.atomBlk
  refine ⟨_, _, _, _, kb1.cell 0, Blk.cellA kb1 1, ?_⟩
  refine (yakh (rn h2) (fun r hr => by cases hr)).mono fun v1 h3 hv1 => ?_
  obtain ⟨⟨bb, hv1, hbb⟩, x3⟩ := hv1
  have hbt := hbb.2 (yaus hk)
  subst hbt
  refine ⟨_, hv1, yaam rfl ?_⟩
  have s3 := s2.grow x3
  have kb1 := s3.atomBlk
  refine (yauj (r.ext s3.ext) (by omega) kb1).mono fun v2 h4 ⟨hv2, x4⟩ => ⟨_, hv2, yaam (by rw [decide_eq_true hv]; rfl) ?_⟩
  have s4 := s3.grow x4
  have kb1 := s4.atomBlk
  rw [zao_b1]
  refine condP (fun h => by omega) (fun _ => ⟨_, _, _, Blk.cellA kb1 1, ?_⟩)
  refine (yajp (rn h4) (by omega) (fun r hr => by cases hr)).mono fun v3 h5 ⟨q0, d0, B0, hv3, na0, t5⟩ => ⟨_, _, _, hv3, ?_⟩
  have s5 := (s4.join t5).to (B := B0 + (0 + (cA b2 [.int .i64 0, .slice none 0 0] 66 + (cA b1 [.int .i64 k, .slice none 0 0] 66 + 0))))
  refine ⟨fun x h' => ∃ (i : Nat) (B C : Bag), x.2.2.1 = i ∧ i ≤ n ∧ RowsA (x.1.1, x.1.2.1, x.1.2.2) (runR k (ops.take i)).1 B ∧ Sl tRes x.2.1.1 x.2.1.2.1 x.2.1.2.2 (runR k (ops.take i)).2 C ∧ St h h' (B + (C + (cA b2 [.int .i64 0, .slice none 0 0] 66 + (cA b1 [.int .i64 k, .slice none 0 0] 66 + 0)))), fun x _ => n - x.2.2.1.toNat, ⟨0, B0, 0, rfl, by omega, na0, Sl.nil, s5⟩, ?_⟩
  rintro ⟨⟨rp, rn, rc⟩, ⟨op, on, oc⟩, _, _⟩ h6 ⟨i, B, C, rfl, hin, na, oa, s6⟩
  dsimp only at na oa ⊢
  have f1 := yame hk hv (i := i) (by omega)
  have hrl : (runR k (ops.take i)).1.length = rn := yaaw na
  have hol := oa.len
  rw [yahz (by omega)] at hol
  rw [zao_b2]
  refine condP (fun hlt => ?_) (fun hge => ?_)
  · refine r.at_ s6.ext (by omega) (by omega) fun q m d hmd rz => ?_
    rw [Int.toNat_natCast] at rz ⊢
    have hov := hv _ (yaav (l := ops) (i := i) (d := (0, [])) (by omega))
    have hru := yaew (k := k) (ops := ops) (i := i) (by omega)
    generalize ops.getD i (0, []) = opx at rz hov hru ⊢
    have hzl := rz.len
    have h64 := yafx hov
    obtain ⟨R, hR⟩ : ∃ R, stepR k (runR k (ops.take i)).1 opx.1 opx.2 = R := ⟨_, rfl⟩
    rw [hR] at hru
    refine s6.new (cs := [.int .i64 0, .slice none 0 0]) fun b3 h7 _ s7 => ?_
    refine s7.wr rfl (by simp) fun h8 s8 => ?_
    refine s8.wr (o := 1) (yaaj _ _ _) (by simp) fun h9 s9 => ?_
    have s9 : St h h9 (cA b3 [.int .i64 opx.1, .slice q m d] 25 + (B + (C + (cA b2 [.int .i64 0, .slice none 0 0] 66 + (cA b1 [.int .i64 k, .slice none 0 0] 66 + 0))))) := s9
    have kb1 := (s9.at (cA b1 [.int .i64 k, .slice none 0 0] 66)).blk
    refine ⟨_, kb1.cell 0, _, _, _, _, s9.blk.cell 0, Blk.cellA s9.blk 1, ?_⟩
    have ap := yarw f1 hov na (G := C + (cA b3 [.int .i64 opx.1, .slice q m d] 25 + (cA b2 [.int .i64 0, .slice none 0 0] 66 + (cA b1 [.int .i64 k, .slice none 0 0] 66 + 0)))) (fun h' A s' => rz.ext s'.ext) hmd (by omega) (s9.to (B := B + (C + (cA b3 [.int .i64 opx.1, .slice q m d] 25 + (cA b2 [.int .i64 0, .slice none 0 0] 66 + (cA b1 [.int .i64 k, .slice none 0 0] 66 + 0))))))
    rw [MRunP, hR] at ap
    refine ap.mono fun v4 h10 ⟨q', m', d', B', hv4, na', s10⟩ => ⟨_, _, _, _, _, _, _, _, hv4, ?_⟩
    refine s10.new (cs := [.int .i64 0, .int .i64 0, .slice none 0 0]) fun b4 h11 _ s11 => ?_
    refine s11.wr rfl (by simp) fun h12 s12 => ?_
    refine s12.wr (o := 1) (yaaj _ _ _) (by simp) fun h13 s13 => ?_
    refine s13.wr (o := 2) (yaaj _ _ _) (by simp) fun h14 s14 => ?_
    refine ⟨_, _, _, _, _, s14.blk.cell 0, Blk.cellA s14.blk 1, Blk.cellA s14.blk 2, ?_⟩
    have s14 := s14.drop
    refine s14.new (cs := [.int .i64 R.2.1, .int .i64 R.2.2, .slice none 0 0]) fun b5 h15 _ s15 => ?_
    have sx : Sl tRes (some ⟨b5, 0, none⟩) 1 1 [R.2] (cA b5 [.int .i64 R.2.1, .int .i64 R.2.2, .slice none 0 0] 61) := Sl.of_blk (T := tRes) (xs := [R.2]) rfl rfl
    have s15' := s15.to (B := C + (cA b5 [.int .i64 R.2.1, .int .i64 R.2.2, .slice none 0 0] 61 + (B' + (cA b3 [.int .i64 opx.1, .slice q m d] 25 + (cA b2 [.int .i64 0, .slice none 0 0] 66 + (cA b1 [.int .i64 k, .slice none 0 0] 66 + 0))))))
    refine yaat ybbl s15' oa (sx.rd s15) (by omega) fun a1 c1 h16 C' oa' s16 => ?_
    rw [zao_b3]
    refine ⟨⟨by omega, by omega⟩, ⟨i + 1, B', C', by simp only; omega, by omega, by rw [hru]; exact na', by rw [hru]; exact oa', ?_⟩, by simp only; omega⟩
    exact (s16.to (B := (cA b5 [.int .i64 R.2.1, .int .i64 R.2.2, .slice none 0 0] 61 + cA b3 [.int .i64 opx.1, .slice q m d] 25) + (B' + (C' + (cA b2 [.int .i64 0, .slice none 0 0] 66 + (cA b1 [.int .i64 k, .slice none 0 0] 66 + 0)))))).drop
  · obtain rfl : i = n := by omega
    rw [List.take_of_length_le (by omega)] at na oa
    rw [zao_b4]
    have kb1 := (s6.at (cA b1 [.int .i64 k, .slice none 0 0] 66)).blk
    refine ⟨_, kb1.cell 0, ?_⟩
    have s6 := s6.to (B := cA b2 [.int .i64 0, .slice none 0 0] 66 + (cA b1 [.int .i64 k, .slice none 0 0] 66 + (B + (C + 0))))
    refine s6.wr rfl (by simp) fun h7 s7 => ?_
    refine s7.wr (o := 1) (yaaj _ _ _) (by simp) fun h8 s8 => ?_
    refine ⟨_, _, _, _, s8.blk.cell 0, Blk.cellA s8.blk 1, rp, rn, rc, op, oc, B, C, ?_, na, ?_, (s8.drop).drop⟩
    · subst hol; rw [hl]
    · subst hol; rw [hl]; exact oa
end Go.Proofs.YtdlkohenamlnaaaGreat
/- A log in the past: its other answers. -/
namespace Go.Proofs.YtdlkohenamlnaaaGreat
open Go Go.Sx
theorem yath {k : Int} (hk : 1 ≤ k ∧ k ≤ 6) : RunOk k (runR k) := fun r hn hv => yazn hk r hn hv
theorem yaim {zs : List Int} {z : Int} {i j : Nat} (h1 : IsLb zs z i) (h2 : IsLb zs z j) : i = j := by
  rcases Nat.lt_trichotomy i j with h | h | h
  · have := h2.2.1 i h; have := h1.2.2 i (Nat.le_refl _) (by have := h2.1; omega); omega
  · exact h
  · have := h1.2.1 j h; have := h2.2.2 j (Nat.le_refl _) (by have := h1.1; omega); omega
theorem yawf {zs : List Int} (h : Inc zs) : zs.Pairwise (· < ·) := by
  rw [List.pairwise_iff_getElem]
  intro i j hi hj hij
  have := h i j hij hj
  unfold at_ at this
  rwa [List.getD_eq_getElem?_getD, List.getD_eq_getElem?_getD, List.getElem?_eq_getElem hi, List.getElem?_eq_getElem hj] at this
def lbI (ts : List Int) (z : Int) : Nat := (ts.takeWhile fun y => decide (y < z)).length
theorem yaob {ts : List Int} {z : Int} (h : Inc ts) : IsLb ts z (lbI ts z) := yazz (pw_lt (yawf h))
theorem yasz {ts : List Int} {z : Int} {i : Nat} (hinc : Inc ts) (h : IsLb ts z i) : (i < ts.length ∧ at_ ts i = z) ↔ z ∈ ts := by
  constructor
  · rintro ⟨h1, h2⟩
    rw [← h2]
    exact yaav h1
  · intro hm
    obtain ⟨j, hj, e⟩ := List.mem_iff_getElem.1 hm
    have ej : at_ ts j = z := by unfold at_; rw [yaaf hj]; exact e
    have h3 : i ≤ j := Nat.le_of_not_lt fun hlt => by have := h.2.1 j hlt; omega
    refine ⟨by omega, ?_⟩
    have := h.2.2 i (Nat.le_refl _) (by omega)
    rcases Nat.lt_or_ge i j with hij | hij
    · have := hinc i j hij hj; omega
    · rw [show i = j by omega]; exact ej
theorem yawt {k : Int} (hk : ¬ (1 ≤ k ∧ k ≤ 6)) (h : Hp) : yaae Tryz.prog 90 #[.int .i64 k] h (fun v h' => v = .slice none 0 0 ∧ h' = h) := by
  refine zbq_call ?_
  rw [zbq_b0]
  refine yaam (decide_eq_false (by omega)) (yaam (decide_eq_false (by omega)) (yaam (decide_eq_false (by omega)) (yaam (decide_eq_false (by omega)) (yaam (decide_eq_false (by omega)) (yaam (decide_eq_false (by omega)) ?_)))))
  rw [zbq_b1]
  exact ⟨rfl, rfl⟩
theorem yatt {k : Int} (hk : ¬ (1 ≤ k ∧ k ≤ 6)) (h : Hp) : yaae Tryz.prog 34 #[.int .i64 k] h (fun v h' => v = .tuple #[.pointer none, .int .i64 1] ∧ Ext h h') := by
  refine zby_call ?_
  rw [zby_b0]
  refine zan_call ?_
  rw [zan_b0]
  refine (St.start h).new (cs := [.int .i64 0, .slice none 0 0]) fun b1 h1 _ s1 => ?_
  refine (yawt hk h1).mono fun v h2 ⟨hv, hh⟩ => ⟨_, _, _, hv, yaax rfl ?_⟩
  subst hh
  refine s1.wr rfl (by simp) fun h3 s3 => ?_
  refine s3.wr (o := 1) (yaaj _ _ _) (by simp) fun h4 s4 => ?_
  refine ⟨_, _, _, _, s4.blk.cell 0, Blk.cellA s4.blk 1, _, _, _, _, _, rfl, ?_⟩
  refine s4.new (cs := [.int .i64 0, .slice none 0 0]) fun b2 h5 _ s5 => ?_
  refine s5.wr rfl (by simp) fun h6 s6 => ?_
  refine s6.wr (o := 1) (yaaj _ _ _) (by simp) fun h7 s7 => yaax rfl ?_
  exact ⟨rfl, s7.ext⟩
def zL (L : LogS) : LogS := ⟨L.ts, L.ops, L.rows, 0, 0⟩
section
variable {h0 h : Hp} {k : Int} {gb : Nat} {L : LogS} {A G : Bag}
theorem yaos (la : LogA k gb L A) (s : St h0 h (A + G)) : yaae Tryz.prog 47 #[ptr gb] h (fun v h' => v = .tuple #[.int .i64 L.fl, .int .i64 L.wy] ∧ h' = h) := by
  obtain ⟨t, o, w, hs, T, B0, B1, R, rfl, a1, a2, a3, a4, hle⟩ := la
  have s1 := s.to (B := logC gb k t o w L.fl L.wy + (T + (B0 + (B1 + (R + G)))))
  refine zbs_call ?_
  rw [zbs_b0]
  exact yaam rfl ⟨_, Blk.cellA s1.blk 5, _, Blk.cellA s1.blk 6, rfl, rfl⟩
def qryL (k : Int) (L : LogS) (code : Int) (zs : List Int) : Int × Int × Int :=
  if OpV k code zs then (if updT k code = true then (0, 0, 30) else ((stepR k L.rows code zs).2.1, (stepR k L.rows code zs).2.2, 0)) else (0, 0, 1)
theorem yauc (hk : 1 ≤ k ∧ k ≤ 6) (ok : OkR k L.rows) (la : LogA k gb L A) {code : Int} {zs : List Int} {q : OA} {m d : Nat} (rz : RdT TI h q m zs) (hmd : m ≤ d) (s : St h0 h (A + G)) :
    yaae Tryz.prog 35 #[ptr gb, .agg #[.int .i64 code, .slice q m d]] h (fun v h' => v = .tuple #[.agg #[.int .i64 (qryL k L code zs).1, .int .i64 (qryL k L code zs).2.1, .slice none 0 0], .int .i64 (qryL k L code zs).2.2] ∧ Ext h h') := by
  obtain ⟨t, o, w, hs, T, B0, B1, R, rfl, a1, a2, a3, a4, hle⟩ := la
  have sg := s.to (B := logC gb k t o w L.fl L.wy + (T + (B0 + (B1 + (R + G)))))
  have rr := yafi a4 (sg.to (B := R + (logC gb k t o w L.fl L.wy + (T + (B0 + (B1 + G))))))
  have g0 : cell h ⟨gb, 0, none⟩ = some (.int .i64 k) := sg.blk.cell 0
  have g3 : cell h ((⟨gb, 0, none⟩ : Addr).add 3) = some (.int .i64 k) := Blk.cellA sg.blk 3
  have g4 : cell h (((⟨gb, 0, none⟩ : Addr).add 3).add 1) = some (.slice w.1 w.2.1 w.2.2) := by rw [yacj]; exact Blk.cellA sg.blk 4
  clear sg
  have hzl := rz.len
  refine zbt_call ?_
  rw [zbt_b0]
  refine (St.start h).new (cs := [.int .i64 code, .slice q m d]) fun b1 h1 _ s => s.new (cs := [.int .i64 0, .int .i64 0, .slice none 0 0]) fun b2 h2 _ s => yaam rfl ?_
  have s : St h h2 (cA b2 [.int .i64 0, .int .i64 0, .slice none 0 0] 61 + (cA b1 [.int .i64 code, .slice q m d] 25 + 0)) := s
  refine ⟨_, s.ext.cell g0, _, _, _, _, s.atomBlk.cell 0, Blk.cellA s.atomBlk 1, ?_⟩
  refine (yajw (k := k) (c := code) (rz.ext s.ext)).mono fun v1 h4 ⟨hv1, x4⟩ => ⟨_, hv1, ?_⟩
  have s4 := s.grow x4
  by_cases hv : OpV k code zs
  · refine yaam (by rw [decide_eq_true hv]; rfl) ?_
    rw [zbt_b1]
    refine ⟨_, _, _, _, s4.atomBlk.cell 0, Blk.cellA s4.atomBlk 1, ?_⟩
    refine (yail hk hv.1 (s4.ext.cell g0)).mono fun v2 h5 ⟨hv2, x5⟩ => ⟨_, hv2, ?_⟩
    have s5 := s4.grow x5
    refine yaay (fun hu => ?_) (fun hu => ?_)
    · have e : qryL k L code zs = (0, 0, 30) := by unfold qryL; rw [if_pos hv, if_pos hu]
      rw [e]
      refine s5.wr rfl (by simp) fun h6 s6 => ?_
      refine s6.wr (o := 1) (yaaj _ _ _) (by simp) fun h7 s7 => ?_
      refine s7.wr (o := 2) (yaaj _ _ _) (by simp) fun h8 s8 => ?_
      exact ⟨_, _, _, _, _, s8.blk.cell 0, Blk.cellA s8.blk 1, Blk.cellA s8.blk 2, rfl, s8.ext⟩
    · have e : qryL k L code zs = ((stepR k L.rows code zs).2.1, (stepR k L.rows code zs).2.2, 0) := by unfold qryL; rw [if_pos hv, if_neg (by rw [hu]; decide)]
      rw [e]
      have h64 := yafx hv
      obtain ⟨S, hS⟩ : ∃ S, stepR k L.rows code zs = S := ⟨_, rfl⟩
      rw [hS]
      have q1 : cell h5 ((⟨gb, 0, none⟩ : Addr).add 3) = some (.int .i64 k) := s5.ext.cell g3
      have q2 : cell h5 (((⟨gb, 0, none⟩ : Addr).add 3).add 1) = some (.slice w.1 w.2.1 w.2.2) := s5.ext.cell g4
      have q3 : cell h5 ⟨b1, 0, none⟩ = some (.int .i64 code) := s5.atomBlk.cell 0
      have q4 : cell h5 ((⟨b1, 0, none⟩ : Addr).add 1) = some (.slice q m d) := Blk.cellA s5.atomBlk 1
      have r5 := rr.ext s5.ext
      have z5 := rz.ext s5.ext
      have ap : ∀ {h' : Hp}, Ext h5 h' → yaae Tryz.prog 53 #[.agg #[.int .i64 k, .slice w.1 w.2.1 w.2.2], .agg #[.int .i64 code, .slice q m d]] h' (yaoy h' 0 k S.1 S.2.1 S.2.2) := fun x => by
        have := yaxp (c := w.2.2) ok hv (r5.ext x) (z5.ext x) hmd (by omega)
        rw [hS] at this
        exact this
      have fin : ∀ {h' : Hp} {ba bc : Nat} {q2 : OA} {m2 d2 : Nat} {J : Bag}, St h5 h' (cA ba [.int .i64 0, .slice none 0 0] 66 + (cA bc [.int .i64 0, .int .i64 0, .slice none 0 0] 61 + J)) →
          Wr h' ⟨ba, 0, none⟩ (.int .i64 k) fun h17 => Wr h17 ((⟨ba, 0, none⟩ : Addr).add 1) (.slice q2 m2 d2) fun h18 => Wr h18 ⟨bc, 0, none⟩ (.int .i64 S.2.1) fun h19 => Wr h19 ((⟨bc, 0, none⟩ : Addr).add 1) (.int .i64 S.2.2) fun h20 => Wr h20 ((⟨bc, 0, none⟩ : Addr).add 2) (.slice none 0 0) fun h21 =>
          zbt_b2 (some ⟨b2, 0, none⟩) (some ⟨bc, 0, none⟩) 0 h21 (fun v h' => v = .tuple #[.agg #[.int .i64 S.2.1, .int .i64 S.2.2, .slice none 0 0], .int .i64 0] ∧ Ext h h') := by
        intro h' ba bc q2 m2 d2 J s'
        refine s'.wr rfl (by simp) fun h17 s' => ?_
        refine s'.wr (o := 1) (yaaj _ _ _) (by simp) fun h18 s' => ?_
        have s' := s'.to (B := cA bc [.int .i64 0, .int .i64 0, .slice none 0 0] 61 + (cA ba [.int .i64 k, .slice q2 m2 d2] 66 + J))
        refine s'.wr rfl (by simp) fun h19 s' => ?_
        refine s'.wr (o := 1) (yaaj _ _ _) (by simp) fun h20 s' => ?_
        refine s'.wr (o := 2) (yaaj _ _ _) (by simp) fun h21 s' => ?_
        have s' : St h5 h21 (cA bc [.int .i64 S.2.1, .int .i64 S.2.2, .slice none 0 0] 61 + (cA ba [.int .i64 k, .slice q2 m2 d2] 66 + J)) := s'
        rw [zbt_b2]
        have cx := s'.blk
        have sj := (s5.join s').to (B := cA b2 [.int .i64 0, .int .i64 0, .slice none 0 0] 61 + (cA b1 [.int .i64 code, .slice q m d] 25 + (cA bc [.int .i64 S.2.1, .int .i64 S.2.2, .slice none 0 0] 61 + (cA ba [.int .i64 k, .slice q2 m2 d2] 66 + J)) + 0))
        refine ⟨_, _, _, _, _, cx.cell 0, Blk.cellA cx 1, Blk.cellA cx 2, ?_⟩
        refine sj.wr rfl (by simp) fun h6 s6 => ?_
        refine s6.wr (o := 1) (yaaj _ _ _) (by simp) fun h7 s7 => ?_
        refine s7.wr (o := 2) (yaaj _ _ _) (by simp) fun h8 s8 => ?_
        exact ⟨_, _, _, _, _, s8.blk.cell 0, Blk.cellA s8.blk 1, Blk.cellA s8.blk 2, rfl, s8.ext⟩
      refine ⟨_, _, _, _, q1, q2, _, _, _, _, q3, q4, ?_⟩
      have s := St.start h5
      repeat' first
        | (with_reducible refine fin (J := B2' + 0) ?_); exact s.to
        | (with_reducible refine St.new s (cs := [.int .i64 0, .slice none 0 0]) ?_); intro ba _ _ s
        | (with_reducible refine St.new s (cs := [.int .i64 0, .int .i64 0, .slice none 0 0]) ?_); intro bc _ _ s
        | (with_reducible refine yaae.mono (ap s.ext) ?_); rintro _ _ ⟨q2', m2', d2', B2', hv2', na2', tt⟩; refine ⟨_, _, _, _, _, _, _, _, _, _, hv2', ?_⟩; have s := s.join tt; clear tt
        | with_reducible refine ⟨⟨_, _, _, _, s.ext.cell q1, s.ext.cell q2, rfl⟩, ?_⟩
        | with_reducible refine ⟨⟨_, _, _, _, s.ext.cell q3, s.ext.cell q4, rfl⟩, ?_⟩
        | with_reducible refine ⟨?_, ?_⟩
  · have e : qryL k L code zs = (0, 0, 1) := by unfold qryL; rw [if_neg hv]
    rw [e]
    refine yaax (by rw [decide_eq_false hv]; rfl) ?_
    refine s4.wr rfl (by simp) fun h6 s6 => ?_
    refine s6.wr (o := 1) (yaaj _ _ _) (by simp) fun h7 s7 => ?_
    refine s7.wr (o := 2) (yaaj _ _ _) (by simp) fun h8 s8 => ?_
    exact ⟨_, _, _, _, _, s8.blk.cell 0, Blk.cellA s8.blk 1, Blk.cellA s8.blk 2, rfl, s8.ext⟩
end
end Go.Proofs.YtdlkohenamlnaaaGreat
/- A log in the past: Add, Revoke, State. Printed by mkqb.py. -/
namespace Go.Proofs.YtdlkohenamlnaaaGreat
open Go Go.Sx
section
variable {h0 h : Hp} {k : Int} {gb : Nat} {L : LogS} {runF : List OpL → List (List Int) × List ResL} {t o w : SH} {hs : List OpT} {T B0 C D R G : Bag}
theorem yanp (hk : 1 ≤ k ∧ k ≤ 6) (hR : RunOk k runF) (a1 : Sl TI t.1 t.2.1 t.2.2 L.ts T) (a2 : Sl tO o.1 o.2.1 o.2.2 hs B0) (a3 : AllH PO hs L.ops (C + D)) (a4 : RowsA w L.rows R) (hle : L.ts.length = L.ops.length)
    {tp op : OA} {n tc oc : Nat} {ts' : List Int} {hs' : List OpT} {ops' : List OpL} {T' B0' : Bag} (b1 : Sl TI tp n tc ts' T') (b2 : Sl tO op n oc hs' B0') (b3 : AllH PO hs' ops' C) (hn : n ≤ 1000) (hv : AllV k ops')
    (s : St h0 h (logC gb k t o w L.fl L.wy + (T' + (B0' + (C + D + (T + (B0 + (R + G)))))))) :
    yaae Tryz.prog 84 #[ptr gb, .slice tp n tc, .slice op n oc] h (LogR h0 G k gb (chgL runF L ts' ops')) :=
  yaho (X := 0) (N := C) (Y := D) hk hR a1 a2 a3 a4 hle (by rw [Bag.yaqx]) b1 b2 b3 hn hv (by rw [Bag.yaqx]; exact s)
end
def addL (k : Int) (L : LogS) (time code : Int) (zs : List Int) : LogS × Int :=
  if ¬ OpV k code zs then (zL L, 1) else if updT k code = false then (zL L, 30) else if ¬ timeP time then (zL L, 2) else if time ∈ L.ts then (zL L, 15)
  else chgL (runR k) (zL L) (putL (lbI L.ts time) time L.ts) (putL (lbI L.ts time) (code, zs) L.ops)
def revoL (k : Int) (L : LogS) (time : Int) : LogS × Int :=
  if ¬ timeP time then (zL L, 2) else if time ∈ L.ts then chgL (runR k) (zL L) (cutL L.ts (lbI L.ts time)) (cutL L.ops (lbI L.ts time)) else (zL L, 12)
theorem yapv {b : Bool} {X Y : Prop} (h0 : b = false → X) (h1 : b = true → Y) : cond (!b) X Y := by
  cases b
  · exact h0 rfl
  · exact h1 rfl
section
variable {h0 h : Hp} {k : Int} {gb : Nat} {L : LogS} {A G : Bag}
theorem ybam (hk : 1 ≤ k ∧ k ≤ 6) (la : LogA k gb L A) (hn : L.ts.length < 1000) (hinc : Inc L.ts) (hv : AllV k L.ops) {time code : Int} {zs : List Int} {q : OA} {m d : Nat} (rz : RdS h0 G TI q m zs) (s : St h0 h (A + G)) :
    yaae Tryz.prog 41 #[ptr gb, .int .i64 time, .agg #[.int .i64 code, .slice q m d]] h (LogR h0 G k gb (addL k L time code zs)) := by
  by_cases hall : OpV k code zs ∧ updT k code = true ∧ timeP time ∧ time ∉ L.ts
  · obtain ⟨v1, v2, v3, v4⟩ := hall
    refine (yapr hk (yath hk) la hn hinc (fun z hz e => by subst e; exact v4 hz) v3 hv v1 v2 rz s).mono fun v h' ⟨i, hi, hR⟩ => ?_
    have e : addL k L time code zs = chgL (runR k) (zL L) (putL i time L.ts) (putL i (code, zs) L.ops) := by
      unfold addL
      rw [if_neg (fun h => h v1), if_neg (by rw [v2]; decide), if_neg (fun h => h v3), if_neg v4, yaim (yaob hinc) hi]
    rw [e]; exact hR
  obtain ⟨t, o, w, hs, T, B0, B1, R, rfl, a1, a2, a3, a4, hle⟩ := la
  have l1 := a1.len
  refine zbr_call ?_
  rw [zbr_b0]
  refine s.new (cs := [.int .i64 code, .slice q m d]) fun b1 h1 _ s1 => yaam rfl ?_
  have s1 := s1.to (B := logC gb k t o w L.fl L.wy + (cA b1 [.int .i64 code, .slice q m d] 25 + (T + (B0 + (B1 + (R + G))))))
  refine s1.wr (o := 5) (yaaj _ _ _) (by simp) fun h2 s2 => ?_
  refine s2.wr (o := 6) (yaaj _ _ _) (by simp) fun h3 s3 => ?_
  have s3 : St h0 h3 (logC gb k t o w 0 0 + (cA b1 [.int .i64 code, .slice q m d] 25 + (T + (B0 + (B1 + (R + G)))))) := s3
  have rz3 := rz h3 (logC gb k t o w 0 0 + (cA b1 [.int .i64 code, .slice q m d] 25 + (T + (B0 + (B1 + R))))) s3.to
  have k1 := s3.atomBlk
  have fin : ∀ {h' : Hp} (e : Int), Ext h3 h' → LogR h0 G k gb (zL L, e) (.int .i64 e) h' := fun e x => by
    refine ⟨rfl, _, ⟨t, o, w, hs, T, B0, B1, R, rfl, a1, a2, a3, a4, hle⟩, ?_⟩
    exact ((s3.grow x).to (B := cA b1 [.int .i64 code, .slice q m d] 25 + (logC gb k t o w 0 0 + (T + (B0 + (B1 + R))) + G))).drop
  refine ⟨_, s3.blk.cell 0, _, _, _, _, k1.cell 0, Blk.cellA k1 1, ?_⟩
  refine (yajw (k := k) (c := code) rz3).mono fun v1 h4 ⟨hv1', x4⟩ => ⟨_, hv1', condN (fun hno => ?_) (fun v1 => ?_)⟩
  · have e : addL k L time code zs = (zL L, 1) := by unfold addL; rw [if_pos hno]
    rw [e]; exact fin 1 x4
  have s4 := s3.grow x4
  have k1 := s4.atomBlk
  refine ⟨_, _, _, _, k1.cell 0, Blk.cellA k1 1, ?_⟩
  refine (yail hk v1.1 (s4.blk.cell 0)).mono fun v2 h5 ⟨hv2, x5⟩ => ⟨_, hv2, yapv (fun hu => ?_) (fun hu => ?_)⟩
  · have e : addL k L time code zs = (zL L, 30) := by unfold addL; rw [if_neg (fun h => h v1), if_pos hu]
    rw [e]; exact fin 30 (x4.trans x5)
  have s5 := s4.grow x5
  refine (yain time h5).mono fun v3 h6 ⟨hv3, hh⟩ => ⟨_, hv3, condN (fun hno => ?_) (fun ht => ?_)⟩
  · subst hh
    have e : addL k L time code zs = (zL L, 2) := by unfold addL; rw [if_neg (fun h => h v1), if_neg (by rw [hu]; decide), if_pos (fun h => hno h)]
    rw [e]; exact fin 2 (x4.trans x5)
  subst hh
  have hmem : time ∈ L.ts := Classical.byContradiction fun hc => hall ⟨v1, hu, ht, hc⟩
  rw [zbr_b1]
  refine ⟨_, _, _, Blk.cellA s5.blk 1, ?_⟩
  have rT := a1.rd (s5.to (B := T + (logC gb k t o w 0 0 + (cA b1 [.int .i64 code, .slice q m d] 25 + (B0 + (B1 + (R + G)))))))
  refine (yahv (key := time) rT.ints (by omega) hinc).mono fun v4 h7 ⟨hh, i, hlb, hv4⟩ => ⟨_, _, hv4, ?_⟩
  subst hh
  have hx := (yasz hinc hlb).2 hmem
  refine yaax (decide_eq_true ⟨by omega, hx.2⟩) ?_
  have e : addL k L time code zs = (zL L, 15) := by unfold addL; rw [if_neg (fun h => h v1), if_neg (by rw [hu]; decide), if_neg (fun h => h ht), if_pos hmem]
  rw [e]; exact fin 15 (x4.trans x5)
theorem yapi (hk : 1 ≤ k ∧ k ≤ 6) (la : LogA k gb L A) (hn : L.ts.length < 1000) (hinc : Inc L.ts) (hv : AllV k L.ops) {time : Int} (s : St h0 h (A + G)) :
    yaae Tryz.prog 44 #[ptr gb, .int .i64 time] h (LogR h0 G k gb (revoL k L time)) := by
  obtain ⟨t, o, w, hs, T, B0, B1, R, rfl, a1, a2, a3, a4, hle⟩ := la
  have l1 := a1.len
  have l2 := a2.len
  have l3 := a3.len
  have ln : o.2.1 = t.2.1 := by omega
  refine zbu_call ?_
  rw [zbu_b0]
  refine yaam rfl ?_
  have s1 := s.to (B := logC gb k t o w L.fl L.wy + (T + (B0 + (B1 + (R + G)))))
  refine s1.wr (o := 5) (yaaj _ _ _) (by simp) fun h2 s2 => ?_
  refine s2.wr (o := 6) (yaaj _ _ _) (by simp) fun h3 s3 => ?_
  have s3 : St h0 h3 (logC gb k t o w 0 0 + (T + (B0 + (B1 + (R + G))))) := s3
  have fin : ∀ (e : Int), LogR h0 G k gb (zL L, e) (.int .i64 e) h3 := fun e => ⟨rfl, _, ⟨t, o, w, hs, T, B0, B1, R, rfl, a1, a2, a3, a4, hle⟩, s3.to⟩
  refine (yain time h3).mono fun v3 h6 ⟨hv3, hh⟩ => ⟨_, hv3, condN (fun hno => ?_) (fun ht => ?_)⟩
  · subst hh
    have e : revoL k L time = (zL L, 2) := by unfold revoL; rw [if_pos (fun h => hno h)]
    rw [e]; exact fin 2
  subst hh
  refine ⟨_, _, _, Blk.cellA s3.blk 1, ?_⟩
  have rT := a1.rd (s3.to (B := T + (logC gb k t o w 0 0 + (B0 + (B1 + (R + G))))))
  have rO := a2.rd (s3.to (B := B0 + (logC gb k t o w 0 0 + (T + (B1 + (R + G))))))
  refine (yahv (key := time) rT.ints (by omega) hinc).mono fun v4 h7 ⟨hh, i, hlb, hv4⟩ => ⟨_, _, hv4, ?_⟩
  subst hh
  have hlm := yasz hinc hlb
  have ei := yaim (yaob hinc) hlb
  refine condN (fun hno => ?_) (fun hyes => ?_)
  · have hm : time ∉ L.ts := fun h => hno (by have := hlm.2 h; exact ⟨by omega, this.2⟩)
    have e : revoL k L time = (zL L, 12) := by unfold revoL; rw [if_neg (fun h => h ht), if_neg hm]
    rw [e]; exact fin 12
  have hi : i < t.2.1 := hyes.1
  have hm : time ∈ L.ts := hlm.1 ⟨by omega, hyes.2⟩
  have e : revoL k L time = chgL (runR k) (zL L) (cutL L.ts i) (cutL L.ops i) := by unfold revoL; rw [if_neg (fun h => h ht), if_pos hm, ei]
  rw [e]
  have g2 : cell h7 ((⟨gb, 0, none⟩ : Addr).add 2) = some (.slice o.1 o.2.1 o.2.2) := Blk.cellA s3.blk 2
  refine ⟨_, _, _, Blk.cellA s3.blk 1, ⟨by omega, by omega⟩, _, _, _, g2, ⟨by omega, by omega⟩, ?_⟩
  refine (yaca rT (by omega)).mono fun v8 h8 ⟨q1, d1, A1, hv8, o1, t8⟩ => ⟨_, _, _, hv8, ⟨_, _, _, t8.ext.cell g2, rfl⟩, ?_⟩
  have s8 := (s3.join t8).to (B := A1 + (logC gb k t o w 0 0 + (T + (B0 + (B1 + (R + G))))))
  have t8' : St h7 h8 (A1 + 0) := by rw [Bag.yaqx]; exact t8
  refine (yaok (i := i) s8 o1 hi rfl (by omega)).mono fun v9 h9 ⟨A2, hv9, o2, s9⟩ => ⟨_, _, _, hv9, ?_⟩
  have s9 := s9.to (B := logC gb k t o w 0 0 + (A2 + (T + (B0 + (B1 + (R + G))))))
  refine ⟨⟨_, _, _, Blk.cellA s9.blk 2, rfl⟩, ?_⟩
  have rO9 := a2.rd (s9.to (B := B0 + (logC gb k t o w 0 0 + (A2 + (T + (B1 + (R + G)))))))
  refine (yamd rO9 (by omega)).mono fun v10 h10 ⟨q3, d3, A3, hv10, o3, t10⟩ => ⟨_, _, _, hv10, ?_⟩
  have s10 := (s9.join t10).to (B := A3 + (logC gb k t o w 0 0 + (A2 + (T + (B0 + (B1 + (R + G)))))))
  refine (yaow (i := i) s10 o3 (by omega) rfl (by omega)).mono fun v11 h11 ⟨A4, hv11, o4, s11⟩ => ⟨_, _, _, hv11, ?_⟩
  obtain ⟨C1, C2, rfl, x1, x2⟩ := AllH.cutO a3 i
  obtain ⟨C3, C4, rfl, x3, x4⟩ := AllH.cutO x2 1
  rw [List.drop_drop, List.drop_drop] at x4
  have b3 : AllH PO (cutL hs i) (cutL L.ops i) (C1 + C4) := x1.append x4
  have a3' : AllH PO hs (zL L).ops (C1 + C4 + C3) := by
    have : C1 + (C3 + C4) = C1 + C4 + C3 := by ac_rfl
    rw [← this]; exact a3
  have hv' : AllV k (cutL L.ops i) := fun y hy => hv y ((yafh _ _).mem hy)
  rw [ln] at o4 ⊢
  exact (yanp (L := zL L) (G := G) hk (yath hk) a1 a2 a3' a4 hle o2 o4 b3 (by omega) hv' (s11.to (B := logC gb k t o w (zL L).fl (zL L).wy + (A2 + (A4 + (C1 + C4 + C3 + (T + (B0 + (R + G))))))))).mono fun v h' hR => ⟨_, hR.1, rfl, hR.2⟩
theorem yatm (ok : OkR k L.rows) (la : LogA k gb L A) (s : St h0 h (A + G)) :
    yaae Tryz.prog 49 #[ptr gb] h (fun v h' => ∃ q d B', v = .agg #[.int .i64 k, .slice q L.rows.length d] ∧ RowsA (q, L.rows.length, d) L.rows B' ∧ St h h' B') := by
  obtain ⟨t, o, ⟨wp, wn, wc⟩, hs, T, B0, B1, R, rfl, a1, a2, a3, a4, hle⟩ := la
  have sg := s.to (B := logC gb k t o (wp, wn, wc) L.fl L.wy + (T + (B0 + (B1 + (R + G)))))
  have r := yafi a4 (sg.to (B := R + (logC gb k t o (wp, wn, wc) L.fl L.wy + (T + (B0 + (B1 + G))))))
  have g0 : cell h ⟨gb, 0, none⟩ = some (.int .i64 k) := sg.blk.cell 0
  have g4 : cell h (((⟨gb, 0, none⟩ : Addr).add 3).add 1) = some (.slice wp wn wc) := by rw [yacj]; exact Blk.cellA sg.blk 4
  have hrl := r.len
  have hsm := yaey ok
  clear sg
  refine zbv_call ?_
  rw [zbv_b0]
  refine (St.start h).new (cs := [.int .i64 0, .slice none 0 0]) fun b1 h1 _ s => yaam rfl ⟨_, s.ext.cell g0, ?_⟩
  refine s.new (cs := [.int .i64 0, .slice none 0 0]) fun b2 h2 _ s => ?_
  refine s.wr rfl (by simp) fun h4 s => ?_
  refine s.wr (o := 1) (yaaj _ _ _) (by simp) fun h5 s => ⟨_, _, _, s.ext.cell g4, ?_⟩
  have s5 : St h h5 (cA b2 [.int .i64 k, .slice none 0 0] 66 + (cA b1 [.int .i64 0, .slice none 0 0] 66 + 0)) := s
  refine ⟨fun x h' => ∃ (i : Nat) (q : OA) (d : Nat) (B' : Bag), x.1 = i ∧ i ≤ wn ∧ RowsA (q, i, d) (L.rows.take i) B' ∧ St h h' (cA b2 [.int .i64 k, .slice q i d] 66 + (B' + (cA b1 [.int .i64 0, .slice none 0 0] 66 + 0))), fun x _ => wn - x.1.toNat, ⟨0, none, 0, 0, rfl, by omega, Nest.nil, s5.to⟩, ?_⟩
  rintro ⟨_, _⟩ h6 ⟨i, q, d, B', rfl, hin, nb, s6⟩
  dsimp only
  rw [zbv_b1]
  refine condP (fun hlt => ?_) (fun hge => ?_)
  · refine (r.ext s6.ext).hdr rfl (by omega) fun q1 d1 rr _ => ⟨_, _, _, s6.ldB, ?_⟩
    have hil : i < L.rows.length := by omega
    have hg : L.rows.getD i [] = L.rows[i] := by simp [List.getD, hil]
    have hsm1 := hsm.2 _ (List.getElem_mem hil)
    rw [← hg] at hsm1
    refine (yaca rr (by omega)).mono fun v1 h7 ⟨q2, d2, A2, hv1, o2, t7⟩ => ⟨_, _, _, hv1, ?_⟩
    have s7 := s6.join t7
    have kb3 := (s7.at (cA b2 [.int .i64 k, .slice q i d] 66)).blk
    refine ⟨⟨_, _, _, Blk.cellA kb3 1, rfl⟩, ?_⟩
    have s7 := s7.to (B := B' + (A2 + (cA b2 [.int .i64 k, .slice q i d] 66 + (cA b1 [.int .i64 0, .slice none 0 0] 66 + 0))))
    refine yajo s7 nb o2 rfl (by omega) (fun h8 x8 => ⟨_, _, _, Blk.cellA (kb3.ext x8) 1, rfl⟩) fun q3 d3 h9 B3 nb3 s9 => ?_
    have s9 := s9.to (B := cA b2 [.int .i64 k, .slice q i d] 66 + (B3 + (cA b1 [.int .i64 0, .slice none 0 0] 66 + 0)))
    refine s9.wr (o := 1) (yaaj _ _ _) (by simp) fun h10 s10 => ?_
    rw [zbv_b2]
    refine ⟨⟨by omega, by omega⟩, ⟨i + 1, q3, d3, B3, by simp only; omega, by omega, ?_, s10⟩, by simp only; omega⟩
    rw [List.take_succ_eq_append_getElem hil, ← hg]
    exact nb3
  · obtain rfl : i = L.rows.length := by omega
    rw [zbv_b3]
    refine ⟨_, _, _, _, s6.ld0, s6.ldB, ?_⟩
    have s6 := s6.to (B := cA b1 [.int .i64 0, .slice none 0 0] 66 + (B' + (cA b2 [.int .i64 k, .slice q L.rows.length d] 66 + 0)))
    refine s6.wr rfl (by simp) fun h7 s7 => ?_
    refine s7.wr (o := 1) (yaaj _ _ _) (by simp) fun h8 s8 => ?_
    refine ⟨_, _, _, _, s8.blk.cell 0, Blk.cellA s8.blk 1, _, _, B', rfl, ?_, ?_⟩
    · rw [List.take_length] at nb; exact nb
    · have s8 : St h h8 (cA b1 [.int .i64 k, .slice q L.rows.length d] 66 + (B' + (cA b2 [.int .i64 k, .slice q L.rows.length d] 66 + 0))) := s8
      have s9 := (s8.to (B := (cA b1 [.int .i64 k, .slice q L.rows.length d] 66 + cA b2 [.int .i64 k, .slice q L.rows.length d] 66) + (B' + 0))).drop
      rw [Bag.yaqx] at s9
      exact s9
end
end Go.Proofs.YtdlkohenamlnaaaGreat
/- The reference's log. -/
namespace Go.Proofs.YtdlkohenamlnaaaGreat
open Go Go.Sx
abbrev EnT := Int × OpT
abbrev EnL := Int × OpL
abbrev tEn : Ty EnT := ⟨77, 3, fun x => [.int .i64 x.1, .int .i64 x.2.1, .slice x.2.2.1 x.2.2.2.1 x.2.2.2.2], (0, 0, none, 0, 0), fun _ => rfl, by decide, fun _ v hv => by simp at hv; rcases hv with rfl | rfl | rfl <;> rfl⟩
theorem ok_en : ElOk tEn Tryz.prog 59 := yadl (by kernel_rfl)
abbrev dEn : EnL := (0, 0, [])
def PE (h : Hp) (x : EnT) (y : EnL) : Prop := x.1 = y.1 ∧ x.2.1 = y.2.1 ∧ x.2.2.2.1 ≤ x.2.2.2.2 ∧ RdT TI h x.2.2.1 x.2.2.2.1 y.2.2
theorem PE.ext {h h' : Hp} {x : EnT} {y : EnL} (p : PE h x y) (e : Ext h h') : PE h' x y := ⟨p.1, p.2.1, p.2.2.1, p.2.2.2.ext e⟩
def AllE (h : Hp) : List EnT → List EnL → Prop
  | [], [] => True
  | x :: xs, y :: ys => PE h x y ∧ AllE h xs ys
  | _, _ => False
theorem AllE.len {h : Hp} : ∀ {xs : List EnT} {ys : List EnL}, AllE h xs ys → xs.length = ys.length
  | [], [], _ => rfl
  | _ :: _, _ :: _, h => by rw [List.length_cons, List.length_cons, AllE.len h.2]
  | [], _ :: _, h => h.elim
  | _ :: _, [], h => h.elim
theorem AllE.ext {h h' : Hp} (e : Ext h h') : ∀ {xs : List EnT} {ys : List EnL}, AllE h xs ys → AllE h' xs ys
  | [], [], _ => trivial
  | _ :: _, _ :: _, p => ⟨p.1.ext e, AllE.ext e p.2⟩
  | [], _ :: _, h => h.elim
  | _ :: _, [], h => h.elim
theorem AllE.get {h : Hp} : ∀ {xs : List EnT} {ys : List EnL}, AllE h xs ys → ∀ i, i < xs.length → PE h (xs.getD i tEn.d) (ys.getD i dEn)
  | [], [], _, i, hi => by simp at hi
  | _ :: _, _ :: _, p, 0, _ => p.1
  | _ :: _, _ :: _, p, i + 1, hi => AllE.get p.2 i (by simpa using hi)
  | [], _ :: _, h, _, _ => h.elim
  | _ :: _, [], h, _, _ => h.elim
theorem AllE.app {h : Hp} : ∀ {xs xs' : List EnT} {ys ys' : List EnL}, AllE h xs ys → AllE h xs' ys' → AllE h (xs ++ xs') (ys ++ ys')
  | [], _, [], _, _, q => q
  | _ :: _, _, _ :: _, _, p, q => ⟨p.1, AllE.app p.2 q⟩
  | [], _, _ :: _, _, p, _ => p.elim
  | _ :: _, _, [], _, p, _ => p.elim
theorem AllE.take {h : Hp} : ∀ {xs : List EnT} {ys : List EnL}, AllE h xs ys → ∀ i, AllE h (xs.take i) (ys.take i)
  | [], [], _, i => by rw [List.take_nil, List.take_nil]; trivial
  | _ :: _, _ :: _, _, 0 => trivial
  | _ :: _, _ :: _, p, i + 1 => ⟨p.1, AllE.take p.2 i⟩
  | [], _ :: _, h, _ => h.elim
  | _ :: _, [], h, _ => h.elim
theorem AllE.drop {h : Hp} : ∀ {xs : List EnT} {ys : List EnL}, AllE h xs ys → ∀ i, AllE h (xs.drop i) (ys.drop i)
  | [], [], _, i => by rw [List.drop_nil, List.drop_nil]; trivial
  | _ :: _, _ :: _, p, 0 => p
  | _ :: _, _ :: _, p, i + 1 => AllE.drop p.2 i
  | [], _ :: _, h, _ => h.elim
  | _ :: _, [], h, _ => h.elim
abbrev tsE (m : List EnL) : List Int := m.map (·.1)
abbrev opE (m : List EnL) : List OpL := m.map (·.2)
section
variable {h : Hp} {p : OA} {n c : Nat} {xs : List EnT} {m : List EnL}
theorem yayt (r : RdT tEn h p n xs) (al : AllE h xs m) {i : Int} {i' : Nat} (ei : i = (i' : Int)) (hi : i' < n) {Q : Int → Prop} (hq : Q (at_ (tsE m) i')) :
    (0 ≤ i ∧ i < (n : Int)) ∧ NN p fun a => ∃ n1, cell h (a.add (Int.toNat i * 3)) = some (.int .i64 n1) ∧ Q n1 := by
  subst ei
  have hl := r.len
  have ha := al.len
  refine r.idx (by omega) (by omega) fun a _ hc => ?_
  rw [Int.toNat_natCast] at hc ⊢
  refine ⟨_, hc 0 (by decide), ?_⟩
  rw [(al.get i' (by omega)).1]
  have : at_ (tsE m) i' = (m.getD i' dEn).1 := yabh (by omega)
  rwa [this] at hq
theorem ybbb (r : RdT tEn h p n xs) (al : AllE h xs m) (hinc : Inc (tsE m)) (hn : n ≤ 1000) (t : Int) :
    yaae Tryz.prog 45 #[.slice p n c, .int .i64 t] h (fun v h' => v = .int .i64 (if t ∈ tsE m then (lbI (tsE m) t : Int) else -1) ∧ h' = h) := by
  have hl := r.len
  have ha := al.len
  have htl : (tsE m).length = n := by rw [List.length_map]; omega
  have lb := yaob (z := t) hinc
  have lm := yasz hinc lb
  refine zdm_call ?_
  rw [zdm_b0]
  refine ⟨fun s h' => h' = h ∧ ∃ i : Nat, s.1 = i ∧ i ≤ n ∧ ∀ j, j < i → at_ (tsE m) j ≠ t, fun s _ => n - s.1.toNat, ⟨rfl, 0, rfl, by omega, fun j hj => by omega⟩, ?_⟩
  rintro ⟨_, _⟩ h1 ⟨rfl, i, rfl, hin, hall⟩
  dsimp only
  rw [zdm_b1]
  refine condP (fun hlt => ?_) (fun hge => ?_)
  · refine yayt r al rfl (by omega) (condP (fun he => ?_) (fun hne => ?_))
    · have hm : t ∈ tsE m := by rw [← he]; exact yaav (by omega)
      have hx := lm.2 hm
      have : i = lbI (tsE m) t := by
        rcases Nat.lt_trichotomy i (lbI (tsE m) t) with h | h | h
        · have := lb.2.1 i h; omega
        · exact h
        · exact absurd hx.2 (hall _ h)
      exact ⟨by rw [if_pos hm, this], rfl⟩
    · rw [zdm_b2]
      refine ⟨⟨by omega, by omega⟩, ⟨rfl, i + 1, by push_cast; rfl, by omega, fun j hj => ?_⟩, by simp only; omega⟩
      rcases Nat.lt_or_ge j i with h | h
      · exact hall j h
      · obtain rfl : j = i := by omega
        exact hne
  · rw [zdm_b3]
    have hno : t ∉ tsE m := fun hm => by
      have hx := lm.2 hm
      exact hall _ (by omega) hx.2
    exact ⟨by rw [if_neg hno], rfl⟩
theorem ybas (r : RdT tEn h p n xs) (al : AllE h xs m) (hinc : Inc (tsE m)) (hn : n ≤ 1000) (hc : n ≤ c) (x : EnT) :
    yaae Tryz.prog 43 #[.slice p n c, .agg #[.int .i64 x.1, .int .i64 x.2.1, .slice x.2.2.1 x.2.2.2.1 x.2.2.2.2]] h (fun v h' => ∃ q d B, v = .slice q (n + 1) d ∧ Sl tEn q (n + 1) d (putL (lbI (tsE m) x.1) x xs) B ∧ St h h' B) := by
  have hl := r.len
  have ha := al.len
  have htl : (tsE m).length = n := by rw [List.length_map]; omega
  have lb := yaob (z := x.1) hinc
  refine zdo_call ?_
  rw [zdo_b0]
  refine (St.start h).new (cs := [.int .i64 x.1, .int .i64 x.2.1, .slice x.2.2.1 x.2.2.2.1 x.2.2.2.2]) fun b1 h1 x1 s1 => ?_
  have kb := s1.blk
  refine ⟨fun s h' => h' = h1 ∧ ∃ i : Nat, s.1 = i ∧ i ≤ n ∧ ∀ j, j < i → at_ (tsE m) j < x.1, fun s _ => n - s.1.toNat, ⟨rfl, 0, rfl, by omega, fun j hj => by omega⟩, ?_⟩
  rintro ⟨_, _⟩ h2 ⟨rfl, i, rfl, hin, hall⟩
  dsimp only
  rw [zdo_b1]
  have fin : (i < n → x.1 ≤ at_ (tsE m) i) → zdo_b3 p n c (some ⟨b1, 0, none⟩) (i : Int) h2 (fun v h' => ∃ q d B, v = .slice q (n + 1) d ∧ Sl tEn q (n + 1) d (putL (lbI (tsE m) x.1) x xs) B ∧ St h h' B) := by
    intro hge
    have hi : lbI (tsE m) x.1 = i := by
      refine yaim lb ⟨by omega, hall, fun j h1 h2 => ?_⟩
      have := hge (by omega)
      rcases Nat.lt_or_ge i j with h | h
      · have := hinc i j h h2; omega
      · rw [show j = i by omega]; exact this
    rw [zdo_b3]
    have e0 : Int.toNat (0 : Int) = 0 := rfl
    rw [e0, Int.toNat_natCast, Int.toNat_natCast, yaaz, Nat.sub_zero, Nat.sub_zero]
    have ro : ∀ h' F', St h h' (F' + (cA b1 [.int .i64 x.1, .int .i64 x.2.1, .slice x.2.2.1 x.2.2.2.1 x.2.2.2.2] 77 + 0)) → RdT tEn h' p n xs := fun h' F' s' => r.ext s'.ext
    have hk : ∀ a d h' B', Sl tEn a (n + 1) d (xs.take i ++ x :: xs.drop i) B' → St h h' (B' + (cA b1 [.int .i64 x.1, .int .i64 x.2.1, .slice x.2.2.1 x.2.2.2.1 x.2.2.2.2] 77 + 0)) → ∃ q d' B, (.slice a (n + 1) d : Value) = .slice q (n + 1) d' ∧ Sl tEn q (n + 1) d' (putL (lbI (tsE m) x.1) x xs) B ∧ St h h' B := by
      intro a d h' B' o s'
      refine ⟨a, d, B', rfl, by unfold putL; rw [hi]; exact o, ?_⟩
      exact (s'.to (B := cA b1 [.int .i64 x.1, .int .i64 x.2.1, .slice x.2.2.1 x.2.2.2.1 x.2.2.2.2] 77 + B')).drop
    refine ⟨⟨by omega, by omega, by omega⟩, _, _, _, _, _, kb.cell 0, Blk.cellA kb 1, Blk.cellA kb 2, ⟨by omega, by omega, by omega⟩, ?_, ?_⟩
    · refine s1.new (cs := []) fun b3 h3 x3 s3 => ⟨⟨⟨by omega, by omega, by omega⟩, rfl⟩, ⟨_, _, _, _, _, (kb.ext x3).cell 0, Blk.cellA (kb.ext x3) 1, Blk.cellA (kb.ext x3) 2, rfl⟩, ⟨⟨by omega, by omega, by omega⟩, rfl⟩, ?_, ?_⟩
      · refine yaat ok_en s3 (Sl.of_blk (T := tEn) (xs := []) rfl rfl) ((r.ext s3.ext).take (i := i) hin) (by omega) fun a1 c1 h4 B1 o1 s4 => ?_
        rw [Nat.zero_add, List.nil_append] at o1
        rw [Nat.zero_add]
        have k4 := (s4.at (cA b1 [.int .i64 x.1, .int .i64 x.2.1, .slice x.2.2.1 x.2.2.2.1 x.2.2.2.2] 77)).blk
        refine ⟨⟨⟨by omega, by omega, by omega⟩, rfl⟩, ⟨_, _, _, _, _, k4.cell 0, Blk.cellA k4 1, Blk.cellA k4 2, rfl⟩, ?_⟩
        refine s4.new (cs := [.int .i64 x.1, .int .i64 x.2.1, .slice x.2.2.1 x.2.2.2.1 x.2.2.2.2]) fun b6 h5 x5 s5 => ⟨⟨⟨by omega, by omega, by omega⟩, rfl⟩, ?_⟩
        exact St.app2 (T := tEn) ok_en (s5.to (B := B1 + (cA b6 [.int .i64 x.1, .int .i64 x.2.1, .slice x.2.2.1 x.2.2.2.1 x.2.2.2.2] 77 + (cA b1 [.int .i64 x.1, .int .i64 x.2.1, .slice x.2.2.1 x.2.2.2.1 x.2.2.2.2] 77 + 0)))) o1 rfl ro hin hc (by omega) hk
      · refine s3.new (cs := [.int .i64 x.1, .int .i64 x.2.1, .slice x.2.2.1 x.2.2.2.1 x.2.2.2.2]) fun b7 h4 x4 s4 => ⟨⟨⟨by omega, by omega, by omega⟩, rfl⟩, ⟨⟨by omega, by omega, by omega⟩, rfl⟩, ?_⟩
        exact St.app3 (T := tEn) ok_en (s4.to (B := cA b3 [] 77 + (cA b7 [.int .i64 x.1, .int .i64 x.2.1, .slice x.2.2.1 x.2.2.2.1 x.2.2.2.2] 77 + (cA b1 [.int .i64 x.1, .int .i64 x.2.1, .slice x.2.2.1 x.2.2.2.1 x.2.2.2.2] 77 + 0)))) (Sl.of_blk (T := tEn) (xs := []) rfl rfl) rfl ro hin hc (by omega) hk
    · refine s1.new (cs := [.int .i64 x.1, .int .i64 x.2.1, .slice x.2.2.1 x.2.2.2.1 x.2.2.2.2]) fun b8 h3 x3 s3 => ⟨⟨⟨by omega, by omega, by omega⟩, rfl⟩, ⟨⟨by omega, by omega, by omega⟩, rfl⟩, ?_⟩
      refine s3.new (cs := []) fun b9 h4 x4 s4 => ⟨⟨⟨by omega, by omega, by omega⟩, rfl⟩, ⟨⟨by omega, by omega, by omega⟩, rfl⟩, ?_⟩
      exact St.app3 (T := tEn) ok_en (s4.to (B := cA b9 [] 77 + (cA b8 [.int .i64 x.1, .int .i64 x.2.1, .slice x.2.2.1 x.2.2.2.1 x.2.2.2.2] 77 + (cA b1 [.int .i64 x.1, .int .i64 x.2.1, .slice x.2.2.1 x.2.2.2.1 x.2.2.2.2] 77 + 0)))) (Sl.of_blk (T := tEn) (xs := []) rfl rfl) rfl ro hin hc (by omega) hk
  refine condP (fun hlt => ?_) (fun hge => fin fun h => by omega)
  refine yayt (r.ext x1) (al.ext x1) rfl (by omega) ⟨_, kb.cell 0, condP (fun he => ?_) (fun hne => fin fun h => Int.not_lt.1 hne)⟩
  rw [zdo_b2]
  refine ⟨⟨by omega, by omega⟩, ⟨rfl, i + 1, by simp only; omega, by omega, fun j hj => ?_⟩, by simp only; omega⟩
  rcases Nat.lt_or_ge j i with h | h
  · exact hall j h
  · obtain rfl : j = i := by omega
    exact he
theorem yayu (r : RdT tEn h p n xs) (hn : n ≤ 1000) (hc : n ≤ c) {i : Nat} (hi : i < n) : yaae Tryz.prog 46 #[.slice p n c, .int .i64 (i : Int)] h (fun v h' => ∃ q d B, v = .slice q (n - 1) d ∧ Sl tEn q (n - 1) d (cutL xs i) B ∧ St h h' B) := by
  have hl := r.len
  refine zdn_call ?_
  rw [zdn_b0]
  have e0 : Int.toNat (0 : Int) = 0 := rfl
  have e1 : Int.toNat ((i : Int) + 1) = i + 1 := by omega
  refine ⟨⟨by omega, by omega, by omega⟩, ⟨by omega, by omega⟩, ⟨by omega, by omega, by omega⟩, ?_⟩
  rw [e0, e1, Int.toNat_natCast, Int.toNat_natCast, yaaz, Nat.sub_zero, Nat.sub_zero]
  refine (St.start h).new (cs := []) fun b1 h1 _ s1 => ⟨⟨⟨by omega, by omega, by omega⟩, rfl⟩, ⟨⟨by omega, by omega, by omega⟩, rfl⟩, ?_⟩
  refine yaat ok_en s1 (Sl.of_blk (T := tEn) (xs := []) rfl rfl) ((r.ext s1.ext).take (i := i) (by omega)) (by omega) fun a1 c1 h2 B1 o1 s2 => ?_
  rw [Nat.zero_add, List.nil_append] at o1
  rw [Nat.zero_add]
  refine ⟨⟨⟨by omega, by omega, by omega⟩, rfl⟩, ?_⟩
  have rs := (r.ext s2.ext).sub (i := i + 1) (m := n - (i + 1)) (by omega) hc rfl
  refine yaat ok_en s2 o1 rs (by omega) fun a3 c3 h5 B3 o3 s5 => ?_
  have e : i + (n - (i + 1)) = n - 1 := by omega
  rw [e] at o3 ⊢
  exact ⟨_, _, B3, rfl, o3, s5.to⟩
end
end Go.Proofs.YtdlkohenamlnaaaGreat
