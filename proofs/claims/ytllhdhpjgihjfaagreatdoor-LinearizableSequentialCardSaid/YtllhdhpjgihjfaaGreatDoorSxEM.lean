/- Part LM LN LO LP LQ LR LS LT LU EA EB EC ED EE EF EG EH EI EJ EK EL EM of the proof: contracts of functions of the program, and what follows from them. -/
import Derived.Test.YtllhdhpjgihjfaaGreatDoorSxLL
import Derived.Lib.ItoaNum
import Derived.Test.YtllhdhpjgihjfaaGreatDoorSxV0
import Derived.Shelf.Lay
import Derived.Shelf.Strconv.AppendIntPublic10
import Derived.Shelf.LaysM
set_option maxRecDepth 100000
namespace Go.Proofs.YtllhdhpjgihjfaaGreatDoor
open Go Go.Sx
theorem opv1e {c : Int} {zs : List Int} (h : OpV 1 c zs) (h1 : c = 1) : zs.length = 2 := by
  subst h1
  have h2 : (zs.length : Int) = 2 := h.2.1
  omega
abbrev hdR (r : List Int) : Int := r.getD 0 0
def to1 (rows : List (List Int)) : List Int := rows.map hdR
def to2 (rows : List (List Int)) : List E := rows.map fun r => (r.getD 0 0, r.getD 1 0)
def to3 (rows : List (List Int)) : List Pt := rows.map fun r => (r.getD 0 0, r.getD 1 0, r.getD 2 0)
def toT (rows : List (List Int)) : List Int := rows.getD 0 []
theorem yast (l : List Int) : to1 (l.map row1) = l := by unfold to1; rw [List.map_map]; exact List.map_id' l
theorem yayq (l : List E) : to2 (l.map row2) = l := by unfold to2; rw [List.map_map]; exact List.map_id' l
theorem ybai (l : List Pt) : to3 (l.map row3) = l := by unfold to3; rw [List.map_map]; exact List.map_id' l
theorem yazc (l : List Int) : toT (textR l) = l := by
  unfold toT textR
  split
  · rename_i h; rw [h]; rfl
  · rfl
def stepR (k : Int) (rows : List (List Int)) (c : Int) (zs : List Int) : List (List Int) × Int × Int :=
  if k = 1 then ((dictS (to2 rows) c zs).1.map row2, (dictS (to2 rows) c zs).2)
  else if k = 2 then ((heapS (to1 rows) c zs).1.map row1, (heapS (to1 rows) c zs).2)
  else if k = 3 then ((seqS (to1 rows) c zs).1.map row1, (seqS (to1 rows) c zs).2)
  else if k = 4 then setsS rows c zs
  else if k = 5 then ((ptsS (to3 rows) c zs).1.map row3, (ptsS (to3 rows) c zs).2)
  else (textR (textS (toT rows) c zs).1, (textS (toT rows) c zs).2)
def PartR (rows : List (List Int)) : Prop := (∀ r ∈ rows, r ≠ [] ∧ r.Pairwise (· < ·)) ∧ (rows.map hdR).Pairwise (· < ·) ∧ rows.flatten.Perm ((List.range (tot rows)).map Int.ofNat) ∧ tot rows ≤ 500
abbrev PtV (x : Pt) : Prop := KeyP x.1 ∧ KeyP x.2.1 ∧ KeyP x.2.2
def OkR (k : Int) (rows : List (List Int)) : Prop :=
  (k = 1 ∧ ∃ l : List E, rows = l.map row2 ∧ Srt l ∧ KeysP l ∧ l.length ≤ 500) ∨
  (k = 2 ∧ ∃ l : List Int, rows = l.map row1 ∧ l.Pairwise (· ≤ ·) ∧ (∀ z ∈ l, KeyP z) ∧ l.length ≤ 500) ∨
  (k = 3 ∧ ∃ l : List Int, rows = l.map row1 ∧ (∀ z ∈ l, KeyP z) ∧ l.length ≤ 500) ∨
  (k = 4 ∧ PartR rows) ∨
  (k = 5 ∧ ∃ l : List Pt, rows = l.map row3 ∧ PtsS l ∧ (∀ z ∈ l, PtV z) ∧ l.length ≤ 500) ∨
  (k = 6 ∧ ∃ l : List Int, rows = textR l ∧ (∀ z ∈ l, ChP z) ∧ l.length ≤ 500)
theorem yaff {zs : List Int} (h : ∀ z ∈ zs, KeyP z) (i : Nat) : KeyP (zs.getD i 0) := yaxq h i
theorem yalg {α : Type} (l : List α) (i : Nat) : (cutL l i).Sublist l := by
  have h : (l.take i ++ l.drop (i + 1)).Sublist (l.take i ++ l.drop i) := by
    refine List.Sublist.append (List.Sublist.refl _) ?_
    rw [← List.drop_drop]
    exact List.drop_sublist _ _
  rwa [List.take_append_drop] at h
theorem yawj {α : Type} {l : List α} {a b : Nat} {z : α} (h : z ∈ revL l a b) : z ∈ l := by
  unfold revL at h
  rcases List.mem_append.1 h with h | h
  · exact List.mem_of_mem_take h
  · rcases List.mem_append.1 h with h | h
    · exact List.mem_of_mem_drop (List.mem_of_mem_take (List.mem_reverse.1 h))
    · exact List.mem_of_mem_drop h
theorem yayk {l : List E} {c : Int} {zs : List Int} (h : l.length ≤ 500) : (dictS l c zs).1.length ≤ 500 := by
  have hlen := congrArg List.length (yagr (xs := l) (key := zs.getD 0 0))
  rw [List.length_append] at hlen
  unfold dictS
  split
  · exact h
  split
  · split
    · rename_i hk
      have hu : 0 < (upS l (zs.getD 0 0)).length := by
        rcases hu : upS l (zs.getD 0 0) with _ | ⟨a, b⟩
        · rw [hu] at hk; exact absurd hk (by simp [yadk])
        · simp
      simp only [List.length_append, List.length_cons, List.length_tail]; omega
    · split
      · exact h
      · simp only [List.length_append, List.length_cons]; omega
  split
  · split <;> exact h
  split
  · split
    · simp only [List.length_append, List.length_tail]; omega
    · exact h
  split
  · split
    · exact h
    · split <;> exact h
  split
  · split <;> exact h
  split
  · exact h
  · split <;> exact h
theorem yatp {l : List Int} {c : Int} {zs : List Int} (so : l.Pairwise (· ≤ ·)) (hk : ∀ z ∈ l, KeyP z) (hl : l.length ≤ 500) (hz : ∀ z ∈ zs, KeyP z) : (heapS l c zs).1.Pairwise (· ≤ ·) ∧ (∀ z ∈ (heapS l c zs).1, KeyP z) ∧ (heapS l c zs).1.length ≤ 500 := by
  unfold heapS
  split
  · exact ⟨so, hk, hl⟩
  split
  · split
    · exact ⟨so, hk, hl⟩
    · have e := (List.takeWhile_append_dropWhile (p := fun z : Int => decide (z < zs.getD 0 0)) (l := l)).symm
      have hD := yaur (key := zs.getD 0 0) so
      have hT : ∀ x ∈ l.takeWhile (fun z => decide (z < zs.getD 0 0)), x < zs.getD 0 0 := fun x hx => of_decide_eq_true (List.all_eq_true.1 (List.all_takeWhile (p := fun z : Int => decide (z < zs.getD 0 0)) (l := l)) x hx)
      unfold insI
      generalize l.takeWhile (fun z => decide (z < zs.getD 0 0)) = T at *
      generalize l.dropWhile (fun z => decide (z < zs.getD 0 0)) = D at *
      subst e
      have so' := List.pairwise_append.1 so
      refine ⟨List.pairwise_append.2 ⟨so'.1, List.pairwise_cons.2 ⟨hD, so'.2.1⟩, fun a ha b hb => ?_⟩, fun z hz' => ?_, ?_⟩
      · rcases List.mem_cons.1 hb with rfl | hb
        · exact Int.le_of_lt (hT a ha)
        · exact so'.2.2 a ha b hb
      · rcases List.mem_append.1 hz' with h | h
        · exact hk z (List.mem_append_left _ h)
        · rcases List.mem_cons.1 h with rfl | h
          · exact yaff hz 0
          · exact hk z (List.mem_append_right _ h)
      · simp only [List.length_append, List.length_cons] at *; omega
  split
  · exact ⟨so, hk, hl⟩
  split
  · exact ⟨so.sublist (List.tail_sublist _), fun z hz => hk z (List.mem_of_mem_tail hz), by rw [List.length_tail]; omega⟩
  · exact ⟨so, hk, hl⟩
theorem yawm {l : List Int} {c : Int} {zs : List Int} (hk : ∀ z ∈ l, KeyP z) (hl : l.length ≤ 500) (hz : ∀ z ∈ zs, KeyP z) : (∀ z ∈ (seqS l c zs).1, KeyP z) ∧ (seqS l c zs).1.length ≤ 500 := by
  unfold seqS
  split
  · exact ⟨hk, hl⟩
  split
  · split
    · exact ⟨hk, hl⟩
    · split
      · exact ⟨fun z hz => hk z (yawj hz), by rw [yaio (by omega) (by omega)]; exact hl⟩
      · exact ⟨hk, hl⟩
  split
  · split
    · exact ⟨hk, hl⟩
    · split
      · exact ⟨hk, hl⟩
      · refine ⟨fun z hz' => ?_, ?_⟩
        · rcases List.mem_append.1 hz' with h | h
          · exact hk z (List.mem_of_mem_take h)
          · rcases List.mem_cons.1 h with rfl | h
            · exact yaff hz 1
            · exact hk z (List.mem_of_mem_drop h)
        · simp only [List.length_append, List.length_cons, List.length_take, List.length_drop]; omega
  split
  · exact ⟨hk, hl⟩
  split
  · refine ⟨fun z hz' => ?_, ?_⟩
    · rcases List.mem_append.1 hz' with h | h
      · exact hk z (List.mem_of_mem_take h)
      · exact hk z (List.mem_of_mem_drop h)
    · simp only [List.length_append, List.length_take, List.length_drop]; omega
  split
  · refine ⟨fun z hz' => ?_, by rw [List.length_set]; exact hl⟩
    rcases List.mem_or_eq_of_mem_set hz' with h | h
    · exact hk z h
    · rw [h]; exact yaff hz 1
  · exact ⟨hk, hl⟩
theorem yavt {l : List Pt} {c : Int} {zs : List Int} (so : PtsS l) (hk : ∀ z ∈ l, PtV z) (hl : l.length ≤ 500) (hz : ∀ z ∈ zs, KeyP z) : PtsS (ptsS l c zs).1 ∧ (∀ z ∈ (ptsS l c zs).1, PtV z) ∧ (ptsS l c zs).1.length ≤ 500 := by
  unfold ptsS
  split
  · exact ⟨so, hk, hl⟩
  split
  · exact ⟨so, hk, hl⟩
  split
  · exact ⟨so, hk, hl⟩
  split
  · split
    · exact ⟨so, hk, hl⟩
    · rename_i hno
      split
      · exact ⟨so, hk, hl⟩
      · obtain ⟨f1, f2, f3⟩ := yazw so (zs.getD 0 0) (zs.getD 1 0)
        unfold yaki at hno
        generalize posP l (zs.getD 0 0) (zs.getD 1 0) = t at *
        have hsplit := List.take_append_drop t l
        refine ⟨?_, fun z hz' => ?_, ?_⟩
        · have so' : PtsS (l.take t ++ l.drop t) := by rw [hsplit]; exact so
          have so' := List.pairwise_append.1 so'
          have hlt : ∀ a ∈ l.take t, ptLt a (zs.getD 0 0, zs.getD 1 0, 0) := fun a ha => by
            obtain ⟨j, hj, e⟩ := List.mem_iff_getElem.1 ha
            rw [List.length_take] at hj
            have := f2 j (by omega)
            rw [yaaf (by omega)] at this
            rw [List.getElem_take] at e
            rw [← e]; exact this
          have hgt : ∀ b ∈ l.drop t, ptLt (zs.getD 0 0, zs.getD 1 0, 0) b := fun b hb => by
            obtain ⟨j, hj, e⟩ := List.mem_iff_getElem.1 hb
            rw [List.length_drop] at hj
            rw [List.getElem_drop] at e
            have h1 := f3 (t + j) (by omega) (by omega)
            rw [yaaf (by omega), e] at h1
            have h2 := f3 t (by omega) (by omega)
            rcases Nat.eq_zero_or_pos j with rfl | hjp
            · have h3 : l.getD t dPt = b := by rw [yaaf (by omega)]; simpa using e
              rw [h3] at hno
              unfold ptLt at h1 ⊢
              dsimp only at h1 ⊢
              have : ¬ (b.1 = zs.getD 0 0 ∧ b.2.1 = zs.getD 1 0) := fun h => hno ⟨by omega, h.1, h.2⟩
              omega
            · have h3 := (List.pairwise_iff_getElem.1 so) t (t + j) (by omega) (by omega) (by omega)
              rw [e] at h3
              rw [yaaf (by omega)] at h2
              unfold ptLt at h1 h2 h3 ⊢
              dsimp only at h1 h2 h3 ⊢
              omega
          refine List.pairwise_append.2 ⟨so'.1, List.pairwise_cons.2 ⟨fun b hb => hgt b hb, so'.2.1⟩, fun a ha b hb => ?_⟩
          rcases List.mem_cons.1 hb with rfl | hb
          · exact hlt a ha
          · exact so'.2.2 a ha b hb
        · rcases List.mem_append.1 hz' with h | h
          · exact hk z (List.mem_of_mem_take h)
          · rcases List.mem_cons.1 h with rfl | h
            · exact ⟨yaff hz 0, yaff hz 1, yaff hz 2⟩
            · exact hk z (List.mem_of_mem_drop h)
        · simp only [List.length_append, List.length_cons, List.length_take, List.length_drop]; omega
  · split
    · exact ⟨so.sublist (yalg _ _), fun z hz => hk z ((yalg _ _).mem hz), Nat.le_trans (yalg _ _).length_le hl⟩
    · exact ⟨so, hk, hl⟩
theorem yatk {l : List Int} {c : Int} {zs : List Int} (hk : ∀ z ∈ l, ChP z) (hl : l.length ≤ 500) (hz : c = 1 → ∀ z ∈ zs, ChP z) : (∀ z ∈ (textS l c zs).1, ChP z) ∧ (textS l c zs).1.length ≤ 500 := by
  unfold textS
  split
  · exact ⟨hk, hl⟩
  split
  · rename_i h1
    split
    · exact ⟨hk, hl⟩
    · refine ⟨fun z hz' => ?_, by simp only [List.length_append]; omega⟩
      rcases List.mem_append.1 hz' with h | h
      · exact hk z h
      · exact hz h1 z h
  split
  · exact ⟨hk, hl⟩
  split <;> exact ⟨hk, hl⟩
theorem yarq {r : List Int} (h : r ≠ []) : hdR r ∈ r := yaap (List.length_pos_iff.2 h)
theorem yayl {r : List Int} (h : r.Pairwise (· ≤ ·)) : ∀ z ∈ r, hdR r ≤ z := by
  cases r with
  | nil => intro z hz; cases hz
  | cons a r =>
    intro z hz
    rcases List.mem_cons.1 hz with rfl | hz
    · exact Int.le_refl _
    · exact (List.pairwise_cons.1 h).1 z hz
theorem yakc (a b : List (List Int)) : tot (a ++ b) = tot a + tot b := by unfold tot; rw [List.map_append, List.sum_append]
theorem yaik (a : List Int) (b : List (List Int)) : tot (a :: b) = a.length + tot b := by unfold tot; rw [List.map_cons, List.sum_cons]
theorem pw_lt {r : List Int} (h : r.Pairwise (· < ·)) : r.Pairwise (· ≤ ·) := h.imp fun h => Int.le_of_lt h
theorem yatr {rows : List (List Int)} (h : PartR rows) (hn : tot rows ≠ 500) : PartR (rows ++ [[(tot rows : Int)]]) := by
  obtain ⟨h1, h2, h3, h4⟩ := h
  have ht : tot (rows ++ [[(tot rows : Int)]]) = tot rows + 1 := by rw [yakc]; rfl
  refine ⟨fun r hr => ?_, ?_, ?_, by omega⟩
  · rcases List.mem_append.1 hr with hr | hr
    · exact h1 r hr
    · rw [List.mem_singleton.1 hr]; exact ⟨by simp, List.pairwise_singleton _ _⟩
  · rw [List.map_append]
    refine List.pairwise_append.2 ⟨h2, List.pairwise_singleton _ _, fun a ha b hb => ?_⟩
    obtain ⟨r, hr, rfl⟩ := List.mem_map.1 ha
    obtain rfl : b = (tot rows : Int) := List.mem_singleton.1 hb
    have hm : hdR r ∈ rows.flatten := List.mem_flatten.2 ⟨r, hr, yarq (h1 r hr).1⟩
    obtain ⟨i, hi, e⟩ := List.mem_map.1 (h3.mem_iff.1 hm)
    have := List.mem_range.1 hi
    have e : (i : Int) = hdR r := e
    omega
  · rw [ht, List.range_succ, List.map_append, List.flatten_append]
    exact h3.append (by simp)
theorem ybbt {rows : List (List Int)} {i j : Nat} (hij : i < j) (hj : j < rows.length) : ∃ A B C, rows = A ++ rows.getD i [] :: (B ++ rows.getD j [] :: C) ∧ A.length = i ∧ A.length + 1 + B.length = j := by
  refine ⟨rows.take i, (rows.drop (i + 1)).take (j - (i + 1)), rows.drop (j + 1), ?_, by rw [List.length_take]; omega, by rw [List.length_take, List.length_take, List.length_drop]; omega⟩
  have e1 : rows.drop j = rows.getD j [] :: rows.drop (j + 1) := by rw [List.drop_eq_getElem_cons hj, yaaf hj]
  have e2 : rows.drop i = rows.getD i [] :: rows.drop (i + 1) := by rw [List.drop_eq_getElem_cons (by omega), yaaf (by omega)]
  have e3 : rows.drop (i + 1) = (rows.drop (i + 1)).take (j - (i + 1)) ++ rows.drop j := by
    have := (List.take_append_drop (j - (i + 1)) (rows.drop (i + 1))).symm
    rwa [List.drop_drop, show i + 1 + (j - (i + 1)) = j by omega] at this
  rw [← e1, ← e3, ← e2, List.take_append_drop]
theorem yawr {rows : List (List Int)} (h : PartR rows) {a b : Nat} (hab : a ≠ b) (ha : a < rows.length) (hb : b < rows.length) : PartR (uniR rows a b) ∧ tot (uniR rows a b) = tot rows := by
  obtain ⟨h1, h2, h3, h4⟩ := h
  unfold uniR
  have hmm : yadj (rows.getD a []) (rows.getD b []) = yadj (rows.getD (min a b) []) (rows.getD (max a b) []) := by
    rcases Nat.lt_or_ge a b with h | h
    · rw [show min a b = a by omega, show max a b = b by omega]
    · rw [show min a b = b by omega, show max a b = a by omega]
      have sa : (rows.getD a []).Pairwise (· ≤ ·) := pw_lt (h1 _ (yaap ha)).2
      have sb : (rows.getD b []).Pairwise (· ≤ ·) := pw_lt (h1 _ (yaap hb)).2
      exact yagq sb sa (yacj _ _ sa sb) ((yabk _ _).trans List.perm_append_comm)
  rw [hmm]
  obtain ⟨i, hi⟩ : ∃ i, min a b = i := ⟨_, rfl⟩
  obtain ⟨j, hj⟩ : ∃ j, max a b = j := ⟨_, rfl⟩
  rw [hi, hj]
  obtain ⟨A, B, C, e, l1, l2⟩ := ybbt (rows := rows) (i := i) (j := j) (by omega) (by omega)
  have hX := h1 _ (yaap (l := rows) (d := []) (i := i) (by omega))
  have hY := h1 _ (yaap (l := rows) (d := []) (i := j) (by omega))
  generalize rows.getD i [] = X at *
  generalize rows.getD j [] = Y at *
  have sM := yacj X Y (pw_lt hX.2) (pw_lt hY.2)
  have pM := yabk X Y
  have lM := yarn X Y
  generalize yadj X Y = M at *
  subst e
  have er : cutL ((A ++ X :: (B ++ Y :: C)).set i M) j = A ++ M :: (B ++ C) := by
    have e1 : (A ++ X :: (B ++ Y :: C)).set i M = (A ++ M :: B) ++ Y :: C := by
      subst l1
      rw [List.set_append_right _ _ (Nat.le_refl _), Nat.sub_self, List.set_cons_zero, List.append_assoc, List.cons_append]
    have hl : (A ++ M :: B).length = j := by rw [List.length_append, List.length_cons]; omega
    rw [e1]
    unfold cutL
    obtain ⟨t1, t2⟩ := yafg (xs := (A ++ M :: B) ++ Y :: C) rfl
    rw [hl] at t1 t2
    rw [← List.drop_drop, t1, t2]
    simp
  rw [er]
  have ht : tot (A ++ M :: (B ++ C)) = tot (A ++ X :: (B ++ Y :: C)) := by
    rw [yakc, yakc, yaik, yaik, yakc, yakc, yaik]; omega
  have hp : (A ++ M :: (B ++ C)).flatten.Perm (A ++ X :: (B ++ Y :: C)).flatten := by
    rw [List.flatten_append, List.flatten_append, List.flatten_cons, List.flatten_cons, List.flatten_append, List.flatten_append, List.flatten_cons]
    refine List.Perm.append_left _ ?_
    refine (pM.append_right _).trans ?_
    rw [List.append_assoc]
    refine List.Perm.append_left _ ?_
    rw [← List.append_assoc, ← List.append_assoc]
    exact List.perm_append_comm.append_right _
  have hnd : (A ++ M :: (B ++ C)).flatten.Nodup := (hp.trans h3).nodup_iff.2 (by
    rw [List.nodup_iff_pairwise_ne, List.pairwise_map]
    exact List.nodup_range.imp fun {a b} h e => h (by have : (a : Int) = b := e; omega))
  have hMs : M.Pairwise (· < ·) := by
    have hMn : M.Nodup := by
      rw [List.flatten_append, List.flatten_cons] at hnd
      exact ((List.nodup_append.1 hnd).2.1 |> fun h => (List.nodup_append.1 h).1)
    have := List.pairwise_and_iff.2 ⟨sM, List.nodup_iff_pairwise_ne.1 hMn⟩
    exact this.imp fun {a b} h => by omega
  have hM0 : M ≠ [] := fun h => by
    rw [h] at lM
    have := List.length_pos_iff.2 hX.1
    simp at lM; omega
  have hhd : hdR M = hdR X := by
    rw [List.map_append, List.map_cons, List.map_append, List.map_cons] at h2
    have hXY : hdR X < hdR Y := by
      have := (List.pairwise_append.1 h2).2.1
      exact (List.pairwise_cons.1 this).1 _ (by simp)
    have hlo : ∀ z ∈ X ++ Y, hdR X ≤ z := fun z hz => by
      rcases List.mem_append.1 hz with hz | hz
      · exact yayl (pw_lt hX.2) z hz
      · have := yayl (pw_lt hY.2) z hz; omega
    have g1 := hlo _ (pM.mem_iff.1 (yarq hM0))
    have g2 := yayl sM _ (pM.mem_iff.2 (List.mem_append_left _ (yarq hX.1)))
    omega
  refine ⟨⟨fun r hr => ?_, ?_, ?_, by omega⟩, ht⟩
  · rcases List.mem_append.1 hr with hr | hr
    · exact h1 r (by simp [hr])
    · rcases List.mem_cons.1 hr with rfl | hr
      · exact ⟨hM0, hMs⟩
      · rcases List.mem_append.1 hr with hr | hr
        · exact h1 r (by simp [hr])
        · exact h1 r (by simp [hr])
  · refine h2.sublist ?_
    rw [List.map_append, List.map_cons, List.map_append, hhd, List.map_append, List.map_cons, List.map_append, List.map_cons]
    exact List.Sublist.append (List.Sublist.refl _) (List.Sublist.cons_cons _ (List.Sublist.append (List.Sublist.refl _) (List.sublist_cons_self _ _)))
  · rw [ht]; exact hp.trans h3
theorem yaty {l : List (List Int)} {c : Int} {zs : List Int} (h : PartR l) : PartR (setsS l c zs).1 := by
  unfold setsS
  split
  · split
    · exact h
    · exact yatr h ‹_›
  split
  · exact h
  split
  · split <;> exact h
  split
  · exact h
  split
  · exact h
  split
  · exact h
  · rename_i hn _ hne
    have ha : ¬ clsZ l (zs.getD 0 0) < 0 := fun h => hn (Or.inl h)
    have hb : ¬ clsZ l (zs.getD 1 0) < 0 := fun h => hn (Or.inr h)
    exact (yawr h hne (yagf ha).2 (yagf hb).2).1
theorem yala {k : Int} {rows : List (List Int)} {c : Int} {zs : List Int} (h : OkR k rows) (hv : OpV k c zs) : OkR k (stepR k rows c zs).1 := by
  unfold stepR
  rcases h with ⟨rfl, l, rfl, h1, h2, h3⟩ | ⟨rfl, l, rfl, h1, h2, h3⟩ | ⟨rfl, l, rfl, h2, h3⟩ | ⟨rfl, h⟩ | ⟨rfl, l, rfl, h1, h2, h3⟩ | ⟨rfl, l, rfl, h2, h3⟩
  · rw [if_pos rfl, yayq]
    exact Or.inl ⟨rfl, _, rfl, (yapx h1).1, yaqc h2 hv, yayk h3⟩
  · rw [if_neg (by decide), if_pos rfl, yast]
    have := yatp (c := c) h1 h2 h3 (opv2 hv).2.2
    exact Or.inr (Or.inl ⟨rfl, _, rfl, this.1, this.2.1, this.2.2⟩)
  · rw [if_neg (by decide), if_neg (by decide), if_pos rfl, yast]
    have := yawm (c := c) h2 h3 (opv3 hv).2.2.2
    exact Or.inr (Or.inr (Or.inl ⟨rfl, _, rfl, this.1, this.2⟩))
  · rw [if_neg (by decide), if_neg (by decide), if_neg (by decide), if_pos rfl]
    exact Or.inr (Or.inr (Or.inr (Or.inl ⟨rfl, yaty h⟩)))
  · rw [if_neg (by decide), if_neg (by decide), if_neg (by decide), if_neg (by decide), if_pos rfl, ybai]
    have := yavt (c := c) h1 h2 h3 (opv5 hv).2.2.2.2
    exact Or.inr (Or.inr (Or.inr (Or.inr (Or.inl ⟨rfl, _, rfl, this.1, this.2.1, this.2.2⟩))))
  · rw [if_neg (by decide), if_neg (by decide), if_neg (by decide), if_neg (by decide), if_neg (by decide), yazc]
    have := yatk (c := c) h2 h3 (fun h => (opv6 hv).2.2.2 (by omega))
    exact Or.inr (Or.inr (Or.inr (Or.inr (Or.inr ⟨rfl, _, rfl, this.1, this.2⟩))))
def RowsR (h : Hp) (p : OA) (n : Nat) (rows : List (List Int)) : Prop := rows.length = n ∧ ∃ hs : List SH, RdT TR h p n hs ∧ ∀ i, i < n → RdT TI h (hs.getD i TR.d).1 (hs.getD i TR.d).2.1 (rows.getD i []) ∧ (hs.getD i TR.d).2.1 ≤ (hs.getD i TR.d).2.2
section
variable {h0 h h' : Hp} {p : OA} {n c : Nat} {rows : List (List Int)} {B G : Bag}
theorem RowsR.len (r : RowsR h p n rows) : rows.length = n := r.1
theorem RowsR.ext (r : RowsR h p n rows) (x : Ext h h') : RowsR h' p n rows := ⟨r.1, let ⟨hs, r1, r2⟩ := r.2; ⟨hs, r1.ext x, fun i hi => ⟨(r2 i hi).1.ext x, (r2 i hi).2⟩⟩⟩
theorem AllH.pickR : ∀ {hs : List SH} {xs : List (List Int)} {A F : Bag}, AllH RowP hs xs A → St h0 h (A + F) → ∀ i, i < hs.length → RdT TI h (hs.getD i TR.d).1 (hs.getD i TR.d).2.1 (xs.getD i []) ∧ (hs.getD i TR.d).2.1 ≤ (hs.getD i TR.d).2.2
  | [], _, _, _, _, _, i, hi => by simp at hi
  | _ :: _, [], _, _, h, _, _, _ => h.elim
  | b :: bs, t :: ts, A, F, ⟨A1, A2, e, h1, h2⟩, s, i, hi => by
    subst e
    cases i with
    | zero => exact ⟨Sl.rd (F := A2 + F) h1 s.to, Sl.cap h1⟩
    | succ i => exact AllH.pickR (F := A1 + F) h2 s.to i (by simpa using hi)
theorem yalm (na : RowsA (p, n, c) rows B) (s : St h0 h (B + G)) : RowsR h p n rows := by
  have hl : rows.length = n := yabh na
  obtain ⟨hs, B0, B1, rfl, h1, h2⟩ := na
  have hsl : hs.length = n := h1.len
  exact ⟨hl, hs, h1.rd (s.at B0), fun i hi => AllH.pickR (F := B0 + G) h2 s.to i (by omega)⟩
theorem RowsR.hdr {i : Int} {i' : Nat} {Q : OA → Nat → Nat → Prop} (r : RowsR h p n rows) (ei : i = (i' : Int)) (hi : i' < n)
    (hq : ∀ q d, RdT TI h q (rows.getD i' []).length (rows.getD i' []) → (rows.getD i' []).length ≤ d → Q q (rows.getD i' []).length d) : (0 ≤ i ∧ i < (n : Int)) ∧ NN p fun a => ∃ q l d, cell h (a.add (i.toNat * 1)) = some (.slice q l d) ∧ Q q l d := by
  subst ei
  refine ⟨⟨by omega, by omega⟩, ?_⟩
  obtain ⟨_, hs, r1, r2⟩ := r
  obtain ⟨ad, hp, hc⟩ := r1.at_ (i := i') hi
  obtain ⟨r3, r4⟩ := r2 i' hi
  have hl := r3.len
  refine yaan hp ⟨(hs.getD i' TR.d).1, (hs.getD i' TR.d).2.1, (hs.getD i' TR.d).2.2, by simpa [yadc] using hc 0 (by decide), ?_⟩
  rw [← hl] at r3 r4 ⊢
  exact hq _ _ r3 r4
theorem RowsR.get {i j : Int} {i' j' : Nat} {Q : Int → Prop} (r : RowsR h p n rows) (ei : i = (i' : Int)) (hi : i' < n) (ej : j = (j' : Int)) (hj : j' < (rows.getD i' []).length) (hq : Q ((rows.getD i' []).getD j' 0)) :
    (0 ≤ i ∧ i < (n : Int)) ∧ NN p fun a => ∃ a8 L5 C5, cell h (a.add (i.toNat * 1)) = some (.slice a8 L5 C5) ∧ (0 ≤ j ∧ j < (L5 : Int)) ∧ NN a8 fun a9 => ∃ n4, cell h (a9.add (j.toNat * 1)) = some (.int .i64 n4) ∧ Q n4 :=
  r.hdr ei hi fun _ _ rr _ => ldI rr ej hj hq
theorem yakr (r : RowsR h p n rows) (hn : n ≤ 1000) (hr : ∀ r ∈ rows, r.length ≤ 1000) :
    yaah Tryz.prog 58 #[.slice p n c] h (fun v h' => ∃ q d B', v = .slice q n d ∧ RowsA (q, n, d) rows B' ∧ St h h' B') := by
  have hl := r.len
  refine zbp_call ?_
  rw [zbp_b0]
  refine ⟨fun x h1 => ∃ (i : Nat) (B' : Bag), x.2.1 = i ∧ i ≤ n ∧ RowsA (x.1.1, x.1.2.1, x.1.2.2) (rows.take i) B' ∧ St h h1 B', fun x _ => n - x.2.1.toNat, ⟨0, 0, rfl, by omega, Nest.nil, St.start h⟩, ?_⟩
  rintro ⟨⟨q, m, d⟩, _, _⟩ h1 ⟨i, B', rfl, hin, na', s'⟩
  dsimp only at na' ⊢
  have hm := yabh na'
  rw [List.length_take] at hm
  dsimp only at hm
  rw [zbp_b1]
  refine condP (fun hlt => ?_) (fun hlt => ?_)
  · refine (r.ext s'.ext).hdr rfl (by omega) fun a L rr _ => ?_
    have hg : rows.getD i [] = rows[i] := by simp [List.getD, show i < rows.length by omega]
    have hlr := hr _ (List.getElem_mem (show i < rows.length by omega))
    rw [← hg] at hlr
    refine (yaeq rr (by omega)).mono fun v h2 ⟨q2, d2, A2, hv, o2, t2⟩ => ⟨_, _, _, hv, ?_⟩
    have s2 := s'.join t2
    refine yajq (G := 0) (s2.to (B := B' + (A2 + 0))) na' o2 rfl (by show m + 1 < _; omega) fun q3 d3 h3 B3 na3 s3 => ?_
    rw [zbp_b2]
    have e : rows.take i ++ [rows.getD i []] = rows.take (i + 1) := by rw [hg, List.take_succ_eq_append_getElem (by omega)]
    rw [e] at na3
    exact ⟨⟨by omega, by omega⟩, ⟨i + 1, B3, by push_cast; rfl, by omega, na3, by have := s3; rwa [Bag.add_zero] at this⟩, by simp only; omega⟩
  · obtain rfl : i = n := by omega
    rw [zbp_b3]
    rw [← hl, List.take_length] at na'
    obtain rfl : m = i := by omega
    exact ⟨q, d, B', rfl, na', s'⟩
end
theorem yapk {rows : List (List Int)} (h : ∀ r ∈ rows, r ≠ []) : rows.length ≤ tot rows := by
  induction rows with
  | nil => exact Nat.zero_le _
  | cons a rows ih =>
    have h1 := List.length_pos_iff.2 (h a List.mem_cons_self)
    have h2 := ih fun r hr => h r (List.mem_cons_of_mem _ hr)
    rw [yaik, List.length_cons]; omega
theorem yafu {k : Int} {rows : List (List Int)} (h : OkR k rows) : rows.length ≤ 500 ∧ ∀ r ∈ rows, r.length ≤ 500 := by
  have mp : ∀ {α : Type} {l : List α} {f : α → List Int} {m : Nat}, (∀ x, (f x).length = m) → m ≤ 500 → ∀ r ∈ l.map f, r.length ≤ 500 := fun hf hm r hr => by
    obtain ⟨x, _, rfl⟩ := List.mem_map.1 hr
    rw [hf]; exact hm
  rcases h with ⟨rfl, l, rfl, h1, h2, h3⟩ | ⟨rfl, l, rfl, h1, h2, h3⟩ | ⟨rfl, l, rfl, h2, h3⟩ | ⟨rfl, h⟩ | ⟨rfl, l, rfl, h1, h2, h3⟩ | ⟨rfl, l, rfl, h2, h3⟩
  · exact ⟨by rw [List.length_map]; exact h3, mp (m := 2) (fun _ => rfl) (by omega)⟩
  · exact ⟨by rw [List.length_map]; exact h3, mp (m := 1) (fun _ => rfl) (by omega)⟩
  · exact ⟨by rw [List.length_map]; exact h3, mp (m := 1) (fun _ => rfl) (by omega)⟩
  · have := yapk fun r hr => (h.1 r hr).1
    refine ⟨by have := h.2.2.2; omega, fun r hr => ?_⟩
    obtain ⟨i, hi, e⟩ := List.mem_iff_getElem.1 hr
    have := yamg h.2.2.2 i
    rwa [yaaf hi, e] at this
  · exact ⟨by rw [List.length_map]; exact h3, mp (m := 3) (fun _ => rfl) (by omega)⟩
  · unfold textR
    split
    · exact ⟨Nat.zero_le _, fun r hr => by cases hr⟩
    · exact ⟨by simp, fun r hr => by rw [List.mem_singleton.1 hr]; exact h3⟩
theorem ybbv {l : List E} {c : Int} {zs : List Int} : stepR 1 (l.map row2) c zs = ((dictS l c zs).1.map row2, (dictS l c zs).2) := by unfold stepR; rw [if_pos rfl, yayq]
theorem ybbw {l : List Int} {c : Int} {zs : List Int} : stepR 2 (l.map row1) c zs = ((heapS l c zs).1.map row1, (heapS l c zs).2) := by unfold stepR; rw [if_neg (by decide), if_pos rfl, yast]
theorem ybby {l : List Int} {c : Int} {zs : List Int} : stepR 3 (l.map row1) c zs = ((seqS l c zs).1.map row1, (seqS l c zs).2) := by unfold stepR; rw [if_neg (by decide), if_neg (by decide), if_pos rfl, yast]
theorem ybbu {l : List (List Int)} {c : Int} {zs : List Int} : stepR 4 l c zs = setsS l c zs := by unfold stepR; rw [if_neg (by decide), if_neg (by decide), if_neg (by decide), if_pos rfl]
theorem ybbm {l : List Pt} {c : Int} {zs : List Int} : stepR 5 (l.map row3) c zs = ((ptsS l c zs).1.map row3, (ptsS l c zs).2) := by unfold stepR; rw [if_neg (by decide), if_neg (by decide), if_neg (by decide), if_neg (by decide), if_pos rfl, ybai]
theorem ybba {l : List Int} {c : Int} {zs : List Int} : stepR 6 (textR l) c zs = (textR (textS l c zs).1, (textS l c zs).2) := by unfold stepR; rw [if_neg (by decide), if_neg (by decide), if_neg (by decide), if_neg (by decide), if_neg (by decide), yazc]
abbrev MRunP (h0 : Hp) (G : Bag) (k : Int) (rows : List (List Int)) (c : Int) (zs : List Int) : VK := yafm h0 G (stepR k rows c zs).1 (stepR k rows c zs).2.1 (stepR k rows c zs).2.2
section
variable {h0 h : Hp} {k : Int} {rows : List (List Int)} {p q : OA} {n c m cc : Nat} {code : Int} {zs : List Int} {B G : Bag}
theorem yari (ok : OkR k rows) (hv : OpV k code zs) (na : RowsA (p, n, c) rows B) (rz : RdS h0 G TI q m zs) (hmc : m ≤ cc) (hm : m ≤ 100) (s : St h0 h (B + G)) :
    yaah Tryz.prog 59 #[.int .i64 k, .slice p n c, .agg #[.int .i64 code, .slice q m cc]] h (MRunP h0 G k rows code zs) := by
  have hl : rows.length = n := yabh na
  have hcn : n ≤ c := by
    obtain ⟨hs, B0, B1, rfl, h1, h2⟩ := na
    exact h1.cap
  have hsm := yafu ok
  refine zbl_call ?_
  rw [zbl_b0]
  refine s.new (cs := [.int .i64 code, .slice q m cc]) fun b1 h1' _ s1 => ?_
  refine s1.new (cs := [.int .i64 0, .int .i64 0, .slice none 0 0]) fun b2 h2 _ s2 => ?_
  have s2 : St h0 h2 (cA b2 [.int .i64 0, .int .i64 0, .slice none 0 0] 58 + (cA b1 [.int .i64 code, .slice q m cc] 50 + (B + G))) := s2
  have kb1 := s2.atomBlk
  have sB : St h0 h2 (B + (cA b2 [.int .i64 0, .int .i64 0, .slice none 0 0] 58 + (cA b1 [.int .i64 code, .slice q m cc] 50 + G))) := s2.to
  have rz' : RdS h0 (cA b2 [.int .i64 0, .int .i64 0, .slice none 0 0] 58 + (cA b1 [.int .i64 code, .slice q m cc] 50 + G)) TI q m zs := fun h' A s' => rz h' (A + (cA b2 [.int .i64 0, .int .i64 0, .slice none 0 0] 58 + cA b1 [.int .i64 code, .slice q m cc] 50)) s'.to
  have key : ∀ {g : Nat}, yaah Tryz.prog g #[.slice p n c, .agg #[.int .i64 code, .slice q m cc]] h2 (MRunP h0 (cA b2 [.int .i64 0, .int .i64 0, .slice none 0 0] 58 + (cA b1 [.int .i64 code, .slice q m cc] 50 + G)) k rows code zs) →
      ∃ n5 : Int, ∃ a5 L5 C5, cell h2 ⟨b1, 0, none⟩ = some (.int .i64 n5) ∧ cell h2 ((⟨b1, 0, none⟩ : Addr).add 1) = some (.slice a5 L5 C5) ∧
      yaah Tryz.prog g #[.slice p n c, .agg #[.int .i64 n5, .slice a5 L5 C5]] h2 fun v5 h19 => ∃ (r29 : OA) (rL13 rC13 : Nat), ∃ r30 : Int, ∃ r31 : Int, ∃ (r32 : OA) (rL14 rC14 : Nat), v5 = .tuple #[.slice r29 rL13 rC13, .agg #[.int .i64 r30, .int .i64 r31, .slice r32 rL14 rC14]] ∧
      Wr h19 ⟨b2, 0, none⟩ (.int .i64 r30) fun h20 => Wr h20 ((⟨b2, 0, none⟩ : Addr).add 1) (.int .i64 r31) fun h21 => Wr h21 ((⟨b2, 0, none⟩ : Addr).add 2) (.slice r32 rL14 rC14) fun h22 =>
      ∃ r33 : Int, ∃ r34 : Int, ∃ r35 rL15 rC15, cell h22 ⟨b2, 0, none⟩ = some (.int .i64 r33) ∧ cell h22 ((⟨b2, 0, none⟩ : Addr).add 1) = some (.int .i64 r34) ∧ cell h22 ((⟨b2, 0, none⟩ : Addr).add 2) = some (.slice r35 rL15 rC15) ∧
      MRunP h0 G k rows code zs (.tuple #[.slice r29 rL13 rC13, .agg #[.int .i64 r33, .int .i64 r34, .slice r35 rL15 rC15]]) h22 := fun hc => by
    refine ⟨_, _, _, _, kb1.cell 0, Blk.cellA kb1 1, hc.mono fun v h3 ⟨q', m', d', B', hv, na', s3⟩ => ⟨_, _, _, _, _, _, _, _, hv, ?_⟩⟩
    have s3 := s3.to (B := cA b2 [.int .i64 0, .int .i64 0, .slice none 0 0] 58 + (cA b1 [.int .i64 code, .slice q m cc] 50 + (B' + G)))
    exact mboxW na' s3
  rcases ok with ⟨rfl, l, rfl, o1, o2, o3⟩ | ⟨rfl, l, rfl, o1, o2, o3⟩ | ⟨rfl, l, rfl, o2, o3⟩ | ⟨rfl, o⟩ | ⟨rfl, l, rfl, o1, o2, o3⟩ | ⟨rfl, l, rfl, o2, o3⟩
  · refine yaax rfl (key ?_)
    rw [MRunP, ybbv]
    obtain ⟨hc, hz1, _, _⟩ := opv1 hv
    exact yayf o1 na rz' hmc sB (by omega) hc hz1 (opv1e hv)
  · refine yaau rfl (yaax rfl (key ?_))
    rw [MRunP, ybbw]
    obtain ⟨hc, hz1, _⟩ := opv2 hv
    exact yaxb o1 na rz' hmc sB (by omega) hc hz1
  · refine yaau rfl (yaau rfl (yaax rfl (key ?_)))
    rw [MRunP, ybby]
    obtain ⟨hc, hz1, hz2, _⟩ := opv3 hv
    exact ybas o2 na rz' hmc sB (by omega) hcn hc hz1 hz2
  · refine yaau rfl (yaau rfl (yaau rfl (yaax rfl (key ?_))))
    rw [MRunP, ybbu]
    obtain ⟨hc, hz1, hz2⟩ := opv4 hv
    exact yayd (fun r hr => pw_lt (o.1 r hr).2) na rz' sB (by omega) o.2.2.2 hc hz1 hz2
  · refine yaau rfl (yaau rfl (yaau rfl (yaau rfl (yaax rfl (key ?_)))))
    rw [MRunP, ybbm]
    obtain ⟨hc, hz1, hz2, hz4, _⟩ := opv5 hv
    exact yaqv o1 (fun x hx => (o2 x hx).2.2) na rz' hmc sB (by omega) hc hz1 hz2 hz4
  · refine yaau rfl (yaau rfl (yaau rfl (yaau rfl (yaau rfl ?_))))
    obtain ⟨hc, hz1, _, _⟩ := opv6 hv
    have r := key (g := 97) (by rw [MRunP, ybba]; exact yaxj na rz' sB o3 hm hz1 hc)
    rw [zbl_b1]
    exact r
end
def VP (P : Prop) (h : Hp) (v : Value) (h' : Hp) : Prop := (∃ b : Bool, v = .bool b ∧ (b = true ↔ P)) ∧ Ext h h'
theorem VP.no {P : Prop} {h h' : Hp} (hn : ¬ P) (x : Ext h h') : VP P h (.bool false) h' := ⟨⟨false, rfl, by simp [hn]⟩, x⟩
theorem VP.yes {P : Prop} {h h' : Hp} (hp : P) (x : Ext h h') : VP P h (.bool true) h' := ⟨⟨true, rfl, by simp [hp]⟩, x⟩
theorem yayy {b : Bool} {X Y : Prop} (h0 : b = false → X) (h1 : b = true → Y) : cond (!b) X Y := by
  cases b
  · exact h0 rfl
  · exact h1 rfl
theorem yanh : ∀ {a b : List Int}, a.length = b.length → (cmpL a b < 0 ↔ befL a b = true) ∧ (0 < cmpL a b ↔ befL b a = true)
  | [], [], _ => by simp [cmpL, befL]
  | [], _ :: _, h => by simp at h
  | _ :: _, [], h => by simp at h
  | x :: a, y :: b, h => by
    have ih := yanh (a := a) (b := b) (by simpa using h)
    rw [cmpL, befL, befL]
    by_cases h1 : x < y
    · rw [if_pos h1, if_neg (by omega), if_neg (by omega)]
      constructor
      · simp [h1]
      · simp; omega
    · rw [if_neg h1]
      by_cases h2 : y < x
      · rw [if_pos h2, if_neg (by omega), if_neg (by omega)]
        constructor
        · simp; omega
        · simp [h2]
      · rw [if_neg h2, if_pos (by omega), if_pos (by omega)]
        exact ih
theorem yaxn {a b : List Int} (h : a.length = b.length) (h1 : befL a b = true) : befL b a = false := by
  have := yanh h
  cases hb : befL b a with
  | false => rfl
  | true => have := this.1.2 h1; have := (yanh h).2.2 hb; omega
def OrdV (ky : Nat) (st : Bool) (a b : List Int) : Prop := if st then befL (a.take ky) (b.take ky) = true else befL (b.take ky) (a.take ky) = false
structure TabV (w ky : Nat) (st : Bool) (rows : List (List Int)) : Prop where
  wid : ∀ i, i < rows.length → (rows.getD i []).length = w ∧ ∀ z ∈ rows.getD i [], KeyP z
  ord : ∀ i, i + 1 < rows.length → 0 < ky → OrdV ky st (rows.getD i []) (rows.getD (i + 1) [])
theorem ybay (z : Int) (h : Hp) (K : VK) (hk : K (.bool (!decide (KeyP z))) h) : callX Tryz.prog F 123 #[.int .i64 z] h K := by
  refine yadl (by kernel_rfl) (zcd_call ?_)
  rw [zcd_b0]
  exact (yavm z h).mono fun v h' ⟨hv, hh⟩ => ⟨_, hv, by rw [hh]; exact hk⟩
theorem yavk {l : List Int} : (l.any fun z => !decide (KeyP z)) = true ↔ ¬ ∀ z ∈ l, KeyP z := by
  rw [List.any_eq_true]
  constructor
  · rintro ⟨z, hz, h⟩ hn; rw [decide_eq_true (hn z hz)] at h; cases h
  · intro h
    refine Classical.byContradiction fun hc => h fun z hz => Classical.byContradiction fun hk => hc ⟨z, hz, by rw [decide_eq_false hk]; rfl⟩
section
variable {h : Hp} {p : OA} {n c : Nat} {rows : List (List Int)}
theorem yalw {k : Int} {w ky : Nat} (hW : ∀ h, yaah Tryz.prog 122 #[.int .i64 k] h (fun v h' => v = .tuple #[.int .i64 (w : Int), .int .i64 (ky : Int)] ∧ h' = h)) (hw : ky ≤ w ∧ w < 100) (r : RowsR h p n rows) (hrl : ∀ x ∈ rows, x.length ≤ 1000) :
    yaah Tryz.prog 84 #[.agg #[.int .i64 k, .slice p n c]] h (VP (rows.length ≤ 500 ∧ TabV w ky (!decide (k = 2)) rows) h) := by
  have hl := r.len
  refine zcc_call ?_
  rw [zcc_b0]
  refine (St.start h).new (cs := [.int .i64 k, .slice p n c]) fun b1 h1 x1 s1 => ?_
  refine ⟨_, _, _, Blk.cellA s1.blk 1, condP (fun h5 => VP.no (fun h => by omega) s1.ext) (fun h5 => ⟨_, s1.blk.cell 0, ?_⟩)⟩
  refine (hW h1).mono fun v h2 ⟨hv2, hh⟩ => ⟨_, _, hv2, ?_⟩
  subst hh
  refine ⟨_, _, _, Blk.cellA s1.blk 1, ?_⟩
  refine ⟨fun x h' => ∃ i : Nat, x.1 = (i : Int) ∧ i ≤ n ∧ h' = h2 ∧ (∀ j, j < i → (rows.getD j []).length = w ∧ ∀ z ∈ rows.getD j [], KeyP z) ∧ (∀ j, j + 1 < i → 0 < ky → OrdV ky (!decide (k = 2)) (rows.getD j []) (rows.getD (j + 1) [])), fun x _ => n - x.1.toNat, ⟨0, rfl, by omega, rfl, fun j hj => absurd hj (by omega), fun j hj => absurd hj (by omega)⟩, ?_⟩
  rintro ⟨_, _⟩ h3 ⟨i, rfl, hin, rfl, i1, i2⟩
  dsimp only
  have r3 := r.ext s1.ext
  have small : ∀ j, j < n → (rows.getD j []).length ≤ 1000 := fun j hj => hrl _ (yaap (by omega))
  rw [zcc_b1]
  refine condP (fun hlt => ?_) (fun hge => ?_)
  · refine r3.hdr rfl (by omega) fun a C rr hLC => ?_
    have hsm := small i (by omega)
    refine condN (fun hne => VP.no (fun h => hne (by have := (h.2.wid i (by omega)).1; omega)) s1.ext) (fun hw1 => ?_)
    refine (yadi ybay rr (by omega)).mono fun v h4 ⟨hh4, hv4⟩ => ⟨_, hv4, ?_⟩
    subst hh4
    refine yaat (fun hb => VP.no (fun h => yavk.1 hb (h.2.wid i (by omega)).2) s1.ext) (fun hb => ?_)
    have hk : ∀ z ∈ rows.getD i [], KeyP z := Classical.byContradiction fun hc => by rw [yavk.2 hc] at hb; cases hb
    have b4 : (0 < i → 0 < ky → OrdV ky (!decide (k = 2)) (rows.getD (i - 1) []) (rows.getD i [])) → zcc_b4 (some ⟨b1, 0, none⟩) (w : Int) (ky : Int) p n c (n : Int) (i : Int) h4 (fun s' h' => (∃ i : Nat, s'.1 = (i : Int) ∧ i ≤ n ∧ h' = h4 ∧ (∀ j, j < i → (rows.getD j []).length = w ∧ ∀ z ∈ rows.getD j [], KeyP z) ∧ (∀ j, j + 1 < i → 0 < ky → OrdV ky (!decide (k = 2)) (rows.getD j []) (rows.getD (j + 1) []))) ∧ n - s'.1.toNat < n - (i : Int).toNat) (VP (rows.length ≤ 500 ∧ TabV w ky (!decide (k = 2)) rows) h) := by
      intro ho
      rw [zcc_b4]
      refine ⟨⟨by omega, by omega⟩, ⟨i + 1, by push_cast; rfl, by omega, rfl, fun j hj => ?_, fun j hj hky => ?_⟩, by simp only; omega⟩
      · rcases Nat.lt_or_ge j i with h | h
        · exact i1 j h
        · obtain rfl : j = i := by omega
          exact ⟨by omega, hk⟩
      · rcases Nat.lt_or_ge (j + 1) i with h | h
        · exact i2 j h hky
        · obtain rfl : i = j + 1 := by omega
          exact ho (by omega) hky
    rw [zcc_b2]
    refine condP (fun h0 => b4 fun h => by omega) (fun hi0 => condP (fun h0 => b4 fun _ h => by omega) (fun hk0 => ?_))
    rw [zcc_b5]
    refine ⟨_, _, _, Blk.cellA s1.blk 1, ⟨by omega, by omega⟩, ?_⟩
    rw [show (i : Int) - 1 = ((i - 1 : Nat) : Int) by omega]
    refine r3.hdr rfl (by omega) fun a' C' rr' hLC' => ?_
    have w3 := (i1 (i - 1) (by omega)).1
    refine ⟨⟨by omega, by omega, by omega⟩, ⟨by omega, by omega, by omega⟩, ?_⟩
    rw [show Int.toNat (0 : Int) = 0 from rfl, yacu, yacu, Int.toNat_natCast, Nat.sub_zero]
    refine ⟨_, yaut (rr'.take (i := ky) (by omega)) (rr.take (i := ky) (by omega)) (by omega), ?_⟩
    have hc := yanh (a := (rows.getD (i - 1) []).take ky) (b := (rows.getD i []).take ky) (by rw [List.length_take, List.length_take]; omega)
    have ord : TabV w ky (!decide (k = 2)) rows → OrdV ky (!decide (k = 2)) (rows.getD (i - 1) []) (rows.getD i []) := fun h => by
      have := h.ord (i - 1) (by omega) (by omega)
      rwa [show i - 1 + 1 = i by omega] at this
    refine condP (fun h0 => VP.no (fun h => ?_) s1.ext) (fun h0 => condP (fun he => ⟨_, s1.blk.cell 0, condN (fun hne => VP.no (fun h => ?_) s1.ext) (fun hk2 => b4 fun _ _ => ?_)⟩) (fun hne => b4 fun _ _ => ?_))
    · have ho := ord h.2
      have hb := hc.2.1 h0
      unfold OrdV at ho
      split at ho
      · have := hc.1.2 ho; omega
      · rw [hb] at ho; cases ho
    · have ho := ord h.2
      unfold OrdV at ho
      rw [decide_eq_false hne, if_pos (by decide)] at ho
      have := hc.1.2 ho; omega
    · unfold OrdV
      rw [decide_eq_true hk2, if_neg (by decide)]
      cases hb : befL ((rows.getD i []).take ky) ((rows.getD (i - 1) []).take ky) with
      | false => rfl
      | true => have := hc.2.2 hb; omega
    · have hb : befL ((rows.getD (i - 1) []).take ky) ((rows.getD i []).take ky) = true := hc.1.1 (by omega)
      unfold OrdV
      split
      · exact hb
      · exact yaxn (by rw [List.length_take, List.length_take]; omega) hb
  · rw [zcc_b3]
    exact VP.yes ⟨by omega, fun i hi => i1 i (by omega), fun i hi hky => i2 i (by omega) hky⟩ s1.ext
end
theorem yaof {α : Type} {R : α → α → Prop} (tr : ∀ a b c, R a b → R b c → R a c) {d : α} : ∀ {l : List α}, (∀ i, i + 1 < l.length → R (l.getD i d) (l.getD (i + 1) d)) → l.Pairwise R
  | [], _ => List.Pairwise.nil
  | a :: l, h => by
    refine List.pairwise_cons.2 ⟨fun b hb => ?_, yaof tr fun i hi => h (i + 1) (by simpa using hi)⟩
    obtain ⟨j, hj, rfl⟩ := List.mem_iff_getElem.1 hb
    have key : ∀ j, j < l.length → R a (l.getD j d) := fun j => by
      induction j with
      | zero => intro hj; exact h 0 (by simpa using hj)
      | succ j ih => intro hj; exact tr _ _ _ (ih (by omega)) (h (j + 1) (by simpa using hj))
    have := key j hj
    rwa [yaaf hj] at this
theorem yaqe {α : Type} {R : α → α → Prop} {d : α} {l : List α} (h : l.Pairwise R) {i : Nat} (hi : i + 1 < l.length) : R (l.getD i d) (l.getD (i + 1) d) := by
  rw [yaaf (by omega), yaaf hi]
  exact List.pairwise_iff_getElem.1 h i (i + 1) (by omega) hi (by omega)
theorem yalb (n : Nat) : ((List.range n).map Int.ofNat).Pairwise (· ≤ ·) := by
  rw [List.pairwise_map]
  exact List.pairwise_lt_range.imp fun {a b} h => by show (a : Int) ≤ b; omega
theorem yanz {n i : Nat} (h : i < n) : ((List.range n).map Int.ofNat).getD i 0 = i := by
  rw [yaaf (by simpa using h), List.getElem_map, List.getElem_range]; rfl
def RowsF (rows : List (List Int)) (i : Nat) : Prop := (∀ j, j < i → rows.getD j [] ≠ [] ∧ (rows.getD j []).Pairwise (· < ·)) ∧ ∀ j, j + 1 < i → hdR (rows.getD j []) < hdR (rows.getD (j + 1) [])
theorem yavx {rows : List (List Int)} (h : PartR rows) : RowsF rows rows.length := by
  refine ⟨fun j hj => h.1 _ (yaap hj), fun j hj => ?_⟩
  have := yaqe (d := 0) h.2.1 (i := j) (by rw [List.length_map]; exact hj)
  rw [yaaf (by rw [List.length_map]; omega), yaaf (by rw [List.length_map]; omega), List.getElem_map, List.getElem_map] at this
  rwa [yaaf (by omega), yaaf hj]
theorem yazv {rows : List (List Int)} (h : RowsF rows rows.length) (hp : rows.flatten.Perm ((List.range (tot rows)).map Int.ofNat)) (ht : tot rows ≤ 500) : PartR rows := by
  refine ⟨fun r hr => ?_, yaof (α := Int) (R := (· < ·)) (d := 0) (fun a b c => Int.lt_trans) fun i hi => ?_, hp, ht⟩
  · obtain ⟨j, hj, rfl⟩ := List.mem_iff_getElem.1 hr
    have := h.1 j hj
    rwa [yaaf hj] at this
  · rw [List.length_map] at hi
    have := h.2 i hi
    rw [yaaf (by rw [List.length_map]; omega), yaaf (by rw [List.length_map]; omega), List.getElem_map, List.getElem_map]
    rwa [yaaf (by omega), yaaf hi] at this
theorem yatt {rows : List (List Int)} {i : Nat} (h : i < rows.length) : (rows.take (i + 1)).flatten = (rows.take i).flatten ++ rows.getD i [] := by
  rw [List.take_succ_eq_append_getElem h, List.flatten_append, yaaf h]; simp
section
variable {h : Hp} {p : OA} {n c : Nat} {rows : List (List Int)}
theorem yalj (r : RowsR h p n rows) (hrl : ∀ x ∈ rows, x.length ≤ 1000) :
    yaah Tryz.prog 85 #[.slice p n c] h (VP (PartR rows) h) := by
  have hl := r.len
  refine zce_call ?_
  rw [zce_b0]
  refine condP (fun h5 => VP.no (fun h => by have := yapk fun r hr => (h.1 r hr).1; have := h.2.2.2; omega) (Ext.refl _)) (fun h5 => ?_)
  refine ⟨fun x h' => ∃ (i : Nat) (A : Bag), x.2.1 = (i : Int) ∧ i ≤ n ∧ x.1.2.1 = tot (rows.take i) ∧ tot (rows.take i) ≤ 500 ∧ Sl TI x.1.1 x.1.2.1 x.1.2.2 (rows.take i).flatten A ∧ St h h' A ∧ RowsF rows i, fun x _ => n - x.2.1.toNat, ⟨0, 0, rfl, by omega, rfl, Nat.zero_le _, Sl.nil, St.start h, fun j hj => absurd hj (by omega), fun j hj => absurd hj (by omega)⟩, ?_⟩
  rintro ⟨⟨p1, m1, c1⟩, _, _⟩ h1 ⟨i, A, rfl, hin, hm, htl, o, s, hF⟩
  dsimp only at hm o ⊢
  subst hm
  have x := s.ext
  have r1 := r.ext x
  rw [zce_b1]
  refine condP (fun hlt => ?_) (fun hge => ?_)
  · have hil : i < rows.length := by omega
    have hrow := hrl _ (yaap (l := rows) (d := []) hil)
    have htk := yalu hil
    have htk2 := yaxk (rows := rows) (i + 1)
    refine r1.hdr rfl (by omega) fun a C rr hLC => ?_
    refine condP (fun h0 => VP.no (fun h => (h.1 _ (yaap (d := []) hil)).1 (List.length_eq_zero_iff.1 (by omega))) x) (fun h0 => ⟨⟨by omega, by omega⟩, ?_⟩)
    refine condP (fun h6 => VP.no (fun h => by have := h.2.2.2; omega) x) (fun h6 => ?_)
    have b2 : (0 < i → hdR (rows.getD (i - 1) []) < hdR (rows.getD i [])) → zce_b2 p n c p1 (tot (rows.take i)) c1 a (rows.getD i []).length C p n c (n : Int) (i : Int) h1 (fun s' h' => (∃ (i : Nat) (A : Bag), s'.2.1 = (i : Int) ∧ i ≤ n ∧ s'.1.2.1 = tot (rows.take i) ∧ tot (rows.take i) ≤ 500 ∧ Sl TI s'.1.1 s'.1.2.1 s'.1.2.2 (rows.take i).flatten A ∧ St h h' A ∧ RowsF rows i) ∧ n - s'.2.1.toNat < n - (i : Int).toNat) (VP (PartR rows) h) := by
      intro hfirst
      rw [zce_b2]
      refine ⟨fun x h' => ∃ k : Nat, x.1 = (k : Int) ∧ 1 ≤ k ∧ k ≤ (rows.getD i []).length ∧ h' = h1 ∧ ∀ j, j + 1 < k → (rows.getD i []).getD j 0 < (rows.getD i []).getD (j + 1) 0, fun x _ => (rows.getD i []).length - x.1.toNat, ⟨1, rfl, Nat.le_refl _, by omega, rfl, fun j hj => absurd hj (by omega)⟩, ?_⟩
      rintro ⟨_, _⟩ h2 ⟨k, rfl, hk1, hk2, rfl, hasc⟩
      dsimp only
      rw [zce_b4]
      refine condP (fun hlk => ?_) (fun hgk => ?_)
      · refine ⟨⟨by omega, by omega⟩, ldI (i' := k - 1) rr (by omega) (by omega) (ldI (i' := k) rr rfl (by omega) (condP (fun hle => VP.no (fun h => ?_) x) (fun hgt => ?_)))⟩
        · have := yaqe (d := 0) ((h.1 _ (yaap (d := []) hil)).2) (i := k - 1) (by omega)
          rw [show k - 1 + 1 = k by omega] at this
          omega
        · rw [zce_b6]
          refine ⟨⟨by omega, by omega⟩, ⟨k + 1, by push_cast; rfl, by omega, by omega, rfl, fun j hj => ?_⟩, by simp only; omega⟩
          rcases Nat.lt_or_ge (j + 1) k with h | h
          · exact hasc j h
          · obtain rfl : k = j + 1 := by omega
            rw [show j + 1 - 1 = j by omega] at hgt
            omega
      · obtain rfl : k = (rows.getD i []).length := by omega
        rw [zce_b7]
        have s0 : St h h2 (A + 0) := by rw [Bag.add_zero]; exact s
        refine yacb yaku s0 o rr (by omega) fun p' c' h3 A' o' s3 => ?_
        rw [zce_b10, ← htk]
        rw [← yatt hil, ← htk] at o'
        rw [Bag.add_zero] at s3
        refine ⟨⟨by omega, by omega⟩, ⟨i + 1, A', by push_cast; rfl, by omega, rfl, by omega, o', s3, fun j hj => ?_, fun j hj => ?_⟩, by simp only; omega⟩
        · rcases Nat.lt_or_ge j i with h | h
          · exact hF.1 j h
          · obtain rfl : j = i := by omega
            refine ⟨fun h => by rw [h] at h0; exact h0 rfl, yaof (α := Int) (R := (· < ·)) (d := 0) (fun a b c => Int.lt_trans) hasc⟩
        · rcases Nat.lt_or_ge (j + 1) i with h | h
          · exact hF.2 j h
          · obtain rfl : i = j + 1 := by omega
            exact hfirst (by omega)
    refine condP (fun hi0 => ⟨⟨by omega, by omega⟩, r1.get (i' := i - 1) (j' := 0) (by omega) (by omega) rfl (List.length_pos_iff.2 (hF.1 (i - 1) (by omega)).1) (ldI (i' := 0) rr rfl (by omega) (condP (fun hle => VP.no (fun h => ?_) x) (fun hgt => b2 fun _ => ?_)))⟩) (fun hi0 => b2 fun h => by omega)
    · have := (yavx h).2 (i - 1) (by omega)
      rw [show i - 1 + 1 = i by omega] at this
      unfold hdR at this
      omega
    · unfold hdR; omega
  · obtain rfl : i = n := by omega
    have ett : rows.take i = rows := List.take_of_length_le (by omega)
    rw [ett] at o htl ⊢
    rw [zce_b3]
    have s0 : St h h1 (A + 0) := by rw [Bag.add_zero]; exact s
    refine (yazi (P := fun _ => True) s0 o (fun _ _ => trivial) (by omega)).mono fun v h5 ⟨hv, ys, A5, o5, s5, hp, hsrt⟩ => ⟨hv, ?_⟩
    have x5 := s5.ext
    have rd5 := o5.rd s5
    have hyl := o5.len
    have hyl : ys.length = tot rows := hyl
    have hso := yamu hsrt
    refine ⟨fun x h' => ∃ k : Nat, x.1 = (k : Int) ∧ k ≤ tot rows ∧ h' = h5 ∧ ∀ j, j < k → ys.getD j 0 = j, fun x _ => tot rows - x.1.toNat, ⟨0, rfl, by omega, rfl, fun j hj => absurd hj (by omega)⟩, ?_⟩
    rintro ⟨_, _⟩ h6 ⟨k, rfl, hk, rfl, hys⟩
    dsimp only
    rw [zce_b5]
    refine condP (fun hlk => ldI (i' := k) rd5 rfl (by omega) (condN (fun hne => VP.no (fun h => hne ?_) x5) (fun heq => ?_))) (fun hgk => ?_)
    · have e : ys = (List.range (tot rows)).map Int.ofNat := List.Perm.eq_of_pairwise (fun a b _ _ h1 h2 => Int.le_antisymm h1 h2) hso (yalb _) (hp.trans h.2.2.1)
      rw [e, yanz (by omega)]
    · rw [zce_b8]
      refine ⟨⟨by omega, by omega⟩, ⟨k + 1, by push_cast; rfl, by omega, rfl, fun j hj => ?_⟩, by simp only; omega⟩
      rcases Nat.lt_or_ge j k with h | h
      · exact hys j h
      · rw [show j = k by omega]; exact heq
    · rw [zce_b9]
      refine VP.yes (yazv (by rw [hl]; exact hF) ?_ htl) x5
      have e : ys = (List.range (tot rows)).map Int.ofNat := by
        refine yaep (d := 0) (by rw [hyl]; simp) fun t ht => ?_
        have ht : t < tot rows := by simpa using ht
        rw [hys t (by omega), yanz (by omega)]
      rw [← e]
      exact hp.symm
end
abbrev tB : Ty Bool := ⟨4, 1, fun b => [.bool b], false, fun _ => rfl, by decide, fun _ v hv => by simp at hv; subst hv; rfl⟩
theorem ldB {h : Hp} {p : OA} {n : Nat} {l : List Bool} {i : Int} {i' : Nat} {Q : Bool → Prop} (r : RdT tB h p n l) (ei : i = (i' : Int)) (h1 : i' < n) (hq : Q (l.getD i' false)) :
    (0 ≤ i ∧ i < (n : Int)) ∧ NN p fun a => ∃ b : Bool, cell h (a.add (Int.toNat i * 1)) = some (.bool b) ∧ Q b := by
  subst ei
  refine r.idx (by omega) (by omega) fun a _ hc => ?_
  rw [Int.toNat_natCast] at hc ⊢
  exact ⟨_, hc 0 (by decide), hq⟩
section
variable {h : Hp} {p : OA} {n c : Nat} {rows : List (List Int)}
end
theorem len1 {r : List Int} (h : r.length = 1) : r = [r.getD 0 0] := by match r, h with | [_], _ => rfl
theorem len2 {r : List Int} (h : r.length = 2) : r = [r.getD 0 0, r.getD 1 0] := by match r, h with | [_, _], _ => rfl
theorem len3 {r : List Int} (h : r.length = 3) : r = [r.getD 0 0, r.getD 1 0, r.getD 2 0] := by match r, h with | [_, _, _], _ => rfl
theorem yaig {α : Type} {w : Nat} {rows : List (List Int)} (f : α → List Int) (g : List Int → α) (hfg : ∀ r : List Int, r.length = w → f (g r) = r) (h : ∀ i, i < rows.length → (rows.getD i []).length = w) : rows = (rows.map g).map f := by
  rw [List.map_map]
  conv => lhs; rw [← List.map_id rows]
  refine List.map_congr_left fun r hr => ?_
  obtain ⟨i, hi, e⟩ := List.mem_iff_getElem.1 hr
  have := h i hi
  rw [yaaf hi, e] at this
  exact (hfg r this).symm
theorem yabm {α β : Type} {f : α → β} {l : List α} {i : Nat} {d : α} {e : β} (h : i < l.length) : (l.map f).getD i e = f (l.getD i d) := by
  rw [yaaf (by rw [List.length_map]; exact h), List.getElem_map, yaaf h]
theorem ord1 {x y : Int} {a b : List Int} : OrdV 1 true (x :: a) (y :: b) ↔ x < y := by
  unfold OrdV
  rw [if_pos rfl]
  show befL [x] [y] = true ↔ _
  rw [befL]
  by_cases h : x = y
  · rw [if_pos h]; simp [befL]; omega
  · rw [if_neg h]; simp
theorem ord1f {x y : Int} {a b : List Int} : OrdV 1 false (x :: a) (y :: b) ↔ x ≤ y := by
  unfold OrdV
  rw [if_neg (by decide)]
  show befL [y] [x] = false ↔ _
  rw [befL]
  by_cases h : y = x
  · rw [if_pos h]; simp [befL]; omega
  · rw [if_neg h]; simp
theorem ord2 {p q : Pt} : OrdV 2 true (row3 p) (row3 q) ↔ ptLt p q := by
  unfold OrdV
  rw [if_pos rfl]
  show befL [p.1, p.2.1] [q.1, q.2.1] = true ↔ _
  rw [yazj, decide_eq_true_eq]
  rfl
section
variable {rows : List (List Int)}
theorem okR1 : OkR 1 rows ↔ rows.length ≤ 500 ∧ TabV 2 1 true rows := by
  constructor
  · rintro (⟨-, l, rfl, h1, h2, h3⟩ | ⟨h, -⟩ | ⟨h, -⟩ | ⟨h, -⟩ | ⟨h, -⟩ | ⟨h, -⟩) <;> first | omega | skip
    refine ⟨by rw [List.length_map]; exact h3, ⟨fun i hi => ?_, fun i hi _ => ?_⟩⟩
    · rw [List.length_map] at hi
      rw [yabm (d := (0, 0)) hi]
      have := h2 _ (yaap (d := (0, 0)) hi)
      refine ⟨rfl, fun z hz => ?_⟩
      rcases List.mem_cons.1 hz with rfl | hz
      · exact this.1
      · rw [List.mem_singleton.1 hz]; exact this.2
    · rw [List.length_map] at hi
      rw [yabm (d := (0, 0)) (by omega), yabm (d := (0, 0)) hi]
      exact ord1.2 (yaqe h1 hi)
  · rintro ⟨h1, h2⟩
    have e := yaig row2 (fun r => (r.getD 0 0, r.getD 1 0)) (fun r h => (len2 h).symm) fun i hi => (h2.wid i hi).1
    refine Or.inl ⟨rfl, to2 rows, e, yaof (α := E) (R := fun a b => a.1 < b.1) (d := (0, 0)) (fun a b c => Int.lt_trans) fun i hi => ?_, fun x hx => ?_, by unfold to2; rw [List.length_map]; exact h1⟩
    · unfold to2 at hi ⊢
      rw [List.length_map] at hi
      rw [yabm (d := []) (by omega), yabm (d := []) hi]
      have := h2.ord i hi Nat.one_pos
      rw [len2 (h2.wid i (by omega)).1, len2 (h2.wid (i + 1) hi).1] at this
      exact ord1.1 this
    · obtain ⟨r, hr, rfl⟩ := List.mem_map.1 hx
      obtain ⟨i, hi, e⟩ := List.mem_iff_getElem.1 hr
      have := h2.wid i hi
      rw [yaaf hi, e] at this
      exact ⟨this.2 _ (yaap (by omega)), this.2 _ (yaap (by omega))⟩
theorem okR2 : OkR 2 rows ↔ rows.length ≤ 500 ∧ TabV 1 1 false rows := by
  constructor
  · rintro (⟨h, -⟩ | ⟨-, l, rfl, h1, h2, h3⟩ | ⟨h, -⟩ | ⟨h, -⟩ | ⟨h, -⟩ | ⟨h, -⟩) <;> first | omega | skip
    refine ⟨by rw [List.length_map]; exact h3, ⟨fun i hi => ?_, fun i hi _ => ?_⟩⟩
    · rw [List.length_map] at hi
      rw [yabm (d := 0) hi]
      refine ⟨rfl, fun z hz => ?_⟩
      rw [List.mem_singleton.1 hz]; exact h2 _ (yaap hi)
    · rw [List.length_map] at hi
      rw [yabm (d := 0) (by omega), yabm (d := 0) hi]
      exact ord1f.2 (yaqe h1 hi)
  · rintro ⟨h1, h2⟩
    have e := yaig row1 hdR (fun r h => (len1 h).symm) fun i hi => (h2.wid i hi).1
    refine Or.inr (Or.inl ⟨rfl, to1 rows, e, yaof (α := Int) (R := (· ≤ ·)) (d := 0) (fun a b c => Int.le_trans) fun i hi => ?_, fun x hx => ?_, by unfold to1; rw [List.length_map]; exact h1⟩)
    · unfold to1 at hi ⊢
      rw [List.length_map] at hi
      rw [yabm (d := []) (by omega), yabm (d := []) hi]
      have := h2.ord i hi Nat.one_pos
      rw [len1 (h2.wid i (by omega)).1, len1 (h2.wid (i + 1) hi).1] at this
      exact ord1f.1 this
    · obtain ⟨r, hr, rfl⟩ := List.mem_map.1 hx
      obtain ⟨i, hi, e⟩ := List.mem_iff_getElem.1 hr
      have := h2.wid i hi
      rw [yaaf hi, e] at this
      exact this.2 _ (yaap (by omega))
theorem okR3 (st : Bool) : OkR 3 rows ↔ rows.length ≤ 500 ∧ TabV 1 0 st rows := by
  constructor
  · rintro (⟨h, -⟩ | ⟨h, -⟩ | ⟨-, l, rfl, h2, h3⟩ | ⟨h, -⟩ | ⟨h, -⟩ | ⟨h, -⟩) <;> first | omega | skip
    refine ⟨by rw [List.length_map]; exact h3, ⟨fun i hi => ?_, fun i hi h => absurd h (by omega)⟩⟩
    rw [List.length_map] at hi
    rw [yabm (d := 0) hi]
    refine ⟨rfl, fun z hz => ?_⟩
    rw [List.mem_singleton.1 hz]; exact h2 _ (yaap hi)
  · rintro ⟨h1, h2⟩
    have e := yaig row1 hdR (fun r h => (len1 h).symm) fun i hi => (h2.wid i hi).1
    refine Or.inr (Or.inr (Or.inl ⟨rfl, to1 rows, e, fun x hx => ?_, by unfold to1; rw [List.length_map]; exact h1⟩))
    obtain ⟨r, hr, rfl⟩ := List.mem_map.1 hx
    obtain ⟨i, hi, e⟩ := List.mem_iff_getElem.1 hr
    have := h2.wid i hi
    rw [yaaf hi, e] at this
    exact this.2 _ (yaap (by omega))
theorem okR4 : OkR 4 rows ↔ PartR rows := by
  constructor
  · rintro (⟨h, -⟩ | ⟨h, -⟩ | ⟨h, -⟩ | ⟨-, h⟩ | ⟨h, -⟩ | ⟨h, -⟩) <;> first | omega | exact h
  · exact fun h => Or.inr (Or.inr (Or.inr (Or.inl ⟨rfl, h⟩)))
theorem okR5 : OkR 5 rows ↔ rows.length ≤ 500 ∧ TabV 3 2 true rows := by
  constructor
  · rintro (⟨h, -⟩ | ⟨h, -⟩ | ⟨h, -⟩ | ⟨h, -⟩ | ⟨-, l, rfl, h1, h2, h3⟩ | ⟨h, -⟩) <;> first | omega | skip
    refine ⟨by rw [List.length_map]; exact h3, ⟨fun i hi => ?_, fun i hi _ => ?_⟩⟩
    · rw [List.length_map] at hi
      rw [yabm (d := dPt) hi]
      have := h2 _ (yaap (d := dPt) hi)
      refine ⟨rfl, fun z hz => ?_⟩
      rcases List.mem_cons.1 hz with rfl | hz
      · exact this.1
      · rcases List.mem_cons.1 hz with rfl | hz
        · exact this.2.1
        · rw [List.mem_singleton.1 hz]; exact this.2.2
    · rw [List.length_map] at hi
      rw [yabm (d := dPt) (by omega), yabm (d := dPt) hi]
      exact ord2.2 (yaqe h1 hi)
  · rintro ⟨h1, h2⟩
    have e := yaig row3 (fun r => (r.getD 0 0, r.getD 1 0, r.getD 2 0)) (fun r h => (len3 h).symm) fun i hi => (h2.wid i hi).1
    refine Or.inr (Or.inr (Or.inr (Or.inr (Or.inl ⟨rfl, to3 rows, e, yaof (α := Pt) (R := ptLt) (d := dPt) (fun a b c => yasj) fun i hi => ?_, fun x hx => ?_, by unfold to3; rw [List.length_map]; exact h1⟩))))
    · unfold to3 at hi ⊢
      rw [List.length_map] at hi
      rw [yabm (d := []) (by omega), yabm (d := []) hi]
      have := h2.ord i hi (by decide)
      rw [len3 (h2.wid i (by omega)).1, len3 (h2.wid (i + 1) hi).1] at this
      exact ord2.1 this
    · obtain ⟨r, hr, rfl⟩ := List.mem_map.1 hx
      obtain ⟨i, hi, e⟩ := List.mem_iff_getElem.1 hr
      have := h2.wid i hi
      rw [yaaf hi, e] at this
      exact ⟨this.2 _ (yaap (by omega)), this.2 _ (yaap (by omega)), this.2 _ (yaap (by omega))⟩
theorem okR6 : OkR 6 rows ↔ rows.length = 0 ∨ (rows.length = 1 ∧ 0 < (rows.getD 0 []).length ∧ (rows.getD 0 []).length ≤ 500 ∧ ∀ z ∈ rows.getD 0 [], ChP z) := by
  constructor
  · rintro (⟨h, -⟩ | ⟨h, -⟩ | ⟨h, -⟩ | ⟨h, -⟩ | ⟨h, -⟩ | ⟨-, l, rfl, h2, h3⟩) <;> first | omega | skip
    unfold textR
    split
    · exact Or.inl rfl
    · rename_i hne
      exact Or.inr ⟨rfl, List.length_pos_iff.2 hne, h3, h2⟩
  · rintro (h | ⟨h, h1, h2, h3⟩)
    · have e : rows = [] := List.length_eq_zero_iff.1 h
      subst e
      exact Or.inr (Or.inr (Or.inr (Or.inr (Or.inr ⟨rfl, [], rfl, fun z hz => (by cases hz), Nat.zero_le _⟩))))
    · refine Or.inr (Or.inr (Or.inr (Or.inr (Or.inr ⟨rfl, rows.getD 0 [], ?_, h3, h2⟩))))
      have hne : rows.getD 0 [] ≠ [] := List.length_pos_iff.1 h1
      unfold textR
      rw [if_neg hne]
      match rows, h with | [_], _ => rfl
theorem yapd {k : Int} (h : OkR k rows) : 1 ≤ k ∧ k ≤ 6 := by
  rcases h with ⟨rfl, -⟩ | ⟨rfl, -⟩ | ⟨rfl, -⟩ | ⟨rfl, -⟩ | ⟨rfl, -⟩ | ⟨rfl, -⟩ <;> decide
end
theorem VP.from {P : Prop} {h0 h h' : Hp} {v : Value} (e : Ext h0 h) (x : VP P h v h') : VP P h0 v h' := ⟨x.1, e.trans x.2⟩
theorem wch_x (z : Int) (h : Hp) (K : VK) (hk : K (.bool (!decide (ChP z))) h) : callX Tryz.prog F 87 #[.int .i64 z] h K := by
  refine yadl (by kernel_rfl) (zbk_call ?_)
  rw [zbk_b0]
  exact (yauf z h).mono fun v h' ⟨hv, hh⟩ => ⟨_, hv, by rw [hh]; exact hk⟩
section
variable {h : Hp} {p : OA} {n c : Nat} {rows : List (List Int)} {k : Int}
theorem yayb (k : Int) (h : Hp) : yaah Tryz.prog 122 #[.int .i64 k] h (fun v h' => v = .tuple #[.int .i64 ((if k = 1 then 2 else if k = 5 then 3 else 1 : Nat) : Int), .int .i64 ((if k = 1 then 1 else if k = 5 then 2 else if k = 2 then 1 else 0 : Nat) : Int)] ∧ h' = h) := by
  refine zcf_call ?_
  rw [zcf_b0]
  refine condP (fun h1 => ⟨by rw [if_pos h1, if_pos h1]; rfl, rfl⟩) (fun h1 => condP (fun h5 => ⟨by rw [if_neg h1, if_neg h1, if_pos h5, if_pos h5]; rfl, rfl⟩) (fun h5 => condP (fun h2 => ⟨by rw [if_neg h1, if_neg h1, if_neg h5, if_neg h5, if_pos h2]; rfl, rfl⟩) (fun h2 => ?_)))
  rw [zcf_b1]
  exact ⟨by rw [if_neg h1, if_neg h1, if_neg h5, if_neg h5, if_neg h2]; rfl, rfl⟩
theorem yadu (r : RowsR h p n rows) (hrl : ∀ x ∈ rows, x.length ≤ 1000) :
    yaah Tryz.prog 55 #[.agg #[.int .i64 k, .slice p n c]] h (VP (OkR k rows) h) := by
  have hl := r.len
  refine zbg_call ?_
  rw [zbg_b0_eq]
  refine (St.start h).new (cs := [.int .i64 k, .slice p n c]) fun b1 h1 _ s => ?_
  have x := s.ext
  have r1 := r.ext x
  have tab : ∀ {w ky : Nat}, (∀ h, yaah Tryz.prog 122 #[.int .i64 k] h (fun v h' => v = .tuple #[.int .i64 (w : Int), .int .i64 (ky : Int)] ∧ h' = h)) → ky ≤ w ∧ w < 100 → (OkR k rows ↔ rows.length ≤ 500 ∧ TabV w ky (!decide (k = 2)) rows) → zbg_b1 (some ⟨b1, 0, none⟩) k true h1 (VP (OkR k rows) h) := by
    intro w ky hW hw e
    rw [zbg_b1_eq]
    refine yaax rfl ⟨_, _, _, _, s.ld0, s.ldB, (yalw hW hw r1 hrl).mono fun v h2 hv => ?_⟩
    obtain ⟨b, hb, hv⟩ := hv.1
    exact ⟨b, hb, ⟨b, rfl, hv.trans e.symm⟩, x.trans ‹VP _ _ _ _›.2⟩
  have hwid := yayb k
  refine ⟨_, s.ld0, condP (fun hk => ?_) (fun hk1 => condP (fun hk => ?_) (fun hk2 => condP (fun hk => ?_) (fun hk3 => ?_)))⟩
  · subst hk; exact tab hwid (by decide) okR1
  · subst hk; exact tab hwid (by decide) okR2
  · subst hk; exact tab hwid (by decide) (okR3 _)
  by_cases hk5 : k = 5
  · subst hk5; exact tab hwid (by decide) okR5
  rw [decide_eq_false hk5, zbg_b1_eq]
  refine yaau rfl (condP (fun hk => ?_) (fun hk4 => condP (fun hk => ?_) (fun hk6 => ?_)))
  · subst hk
    refine ⟨_, _, _, s.ldB, (yalj r1 hrl).mono fun v h2 hv => ?_⟩
    obtain ⟨b, hb, hv'⟩ := hv.1
    exact ⟨b, hb, ⟨b, rfl, hv'.trans okR4.symm⟩, x.trans hv.2⟩
  · subst hk
    have hsm : 0 < n → (rows.getD 0 []).length ≤ 1000 := fun hn => hrl _ (yaap (by omega))
    refine ⟨_, _, _, s.ldB, condP (fun h0 => VP.yes (okR6.2 (Or.inl (by omega))) x) (fun h0 => ⟨_, _, _, s.ldB, condP (fun h1' => ?_) (fun h1' => VP.no (fun h => by rcases okR6.1 h with h | h <;> omega) x)⟩)⟩
    refine ⟨_, _, _, s.ldB, r1.hdr (i' := 0) rfl (by omega) fun q d rr _ => condP (fun hp => ?_) (fun hp => VP.no (fun h => by rcases okR6.1 h with h | h <;> omega) x)⟩
    refine ⟨_, _, _, s.ldB, r1.hdr (i' := 0) rfl (by omega) fun q d rr _ => condP (fun hp5 => ?_) (fun hp5 => VP.no (fun h => by rcases okR6.1 h with h | h <;> omega) x)⟩
    refine ⟨_, _, _, s.ldB, r1.hdr (i' := 0) rfl (by omega) fun q d rr _ => (yadi wch_x rr (by omega)).mono fun v h4 ⟨hh, hv⟩ => ⟨_, hv, ?_⟩⟩
    subst hh
    refine ⟨⟨_, rfl, ?_⟩, x⟩
    rw [yare, decide_eq_true_eq]
    constructor
    · exact fun h => okR6.2 (Or.inr ⟨by omega, by omega, by omega, h⟩)
    · intro h
      rcases okR6.1 h with h | h
      · omega
      · exact h.2.2.2
  · rw [zbg_b2_eq]
    exact VP.no (fun h => by have := yapd h; omega) x
end
def yaml (h0 : Hp) (G : Bag) (k : Int) (rows : List (List Int)) (e z : Int) (v : Value) (h' : Hp) : Prop :=
  ∃ q m d B', v = .tuple #[.agg #[.int .i64 k, .slice q m d], .agg #[.int .i64 e, .int .i64 z, .slice none 0 0], .int .i64 0] ∧ RowsA (q, m, d) rows B' ∧ St h0 h' (B' + G)
theorem yapc {h : Hp} {k : Int} {rows : List (List Int)} {p q : OA} {n c m cc : Nat} {code : Int} {zs : List Int} (ok : OkR k rows) (hv : OpV k code zs) (r : RowsR h p n rows) (rz : RdT TI h q m zs) (hmc : m ≤ cc) (hm : m ≤ 100) :
    yaah Tryz.prog 46 #[.agg #[.int .i64 k, .slice p n c], .agg #[.int .i64 code, .slice q m cc]] h (yaml h 0 k (stepR k rows code zs).1 (stepR k rows code zs).2.1 (stepR k rows code zs).2.2) := by
  have hl := r.len
  have hsm := yafu ok
  obtain ⟨R, hR⟩ : ∃ R, stepR k rows code zs = R := ⟨_, rfl⟩
  rw [hR]
  refine zbc_call ?_
  rw [zbc_b0]
  refine (St.start h).new (cs := [.int .i64 k, .slice p n c]) fun b1 h1' x1 s1 => ?_
  refine s1.new (cs := [.int .i64 code, .slice q m cc]) fun b2 h2 x2 s2 => ?_
  refine s2.new (cs := [.int .i64 0, .slice none 0 0]) fun b3 h3 x3 s3 => ?_
  refine s3.new (cs := [.int .i64 0, .int .i64 0, .slice none 0 0]) fun b4 h4 x4 s => ?_
  have s4 := s.to (B := cA b1 [.int .i64 k, .slice p n c] 24 + (cA b2 [.int .i64 code, .slice q m cc] 50 + (cA b3 [.int .i64 0, .slice none 0 0] 24 + (cA b4 [.int .i64 0, .int .i64 0, .slice none 0 0] 58 + 0))))
  have x5 := s.ext
  clear s s1 s2 s3
  refine ⟨_, _, _, _, s4.blk.cell 0, Blk.cellA s4.blk 1, ?_⟩
  refine (yadu (r.ext x5) (fun r hr => by have := hsm.2 r hr; omega)).mono fun v5 h5 hv5 => ?_
  obtain ⟨⟨bb, hv5, hbb⟩, x6⟩ := hv5
  have hbt := hbb.2 ok
  subst hbt
  refine ⟨_, hv5, yaau rfl ?_⟩
  have s5 := s4.grow x6
  refine ⟨_, s5.blk.cell 0, _, _, _, _, s5.atomBlk.cell 0, Blk.cellA s5.atomBlk 1, ?_⟩
  refine (yasd (rz.ext (x5.trans x6))).mono fun v6 h6 ⟨hv6, x7⟩ => ⟨_, hv6, yaau (by rw [decide_eq_true hv]; rfl) ?_⟩
  have s6 := s5.grow x7
  have r6 := r.ext s6.ext
  have rz6 := (rz.ext (x5.trans x6)).ext x7
  clear s5 s4
  rw [zbc_b1]
  have c1 : cell h6 ⟨b1, 0, none⟩ = some (.int .i64 k) := s6.blk.cell 0
  have c1' : cell h6 ((⟨b1, 0, none⟩ : Addr).add 1) = some (.slice p n c) := Blk.cellA s6.blk 1
  have c2 : cell h6 ⟨b2, 0, none⟩ = some (.int .i64 code) := s6.atomBlk.cell 0
  have c2' : cell h6 ((⟨b2, 0, none⟩ : Addr).add 1) = some (.slice q m cc) := Blk.cellA s6.atomBlk 1
  have cp : ∀ {h' : Hp}, Ext h6 h' → yaah Tryz.prog 58 #[.slice p n c] h' (fun v h'' => ∃ q d B', v = .slice q n d ∧ RowsA (q, n, d) rows B' ∧ St h' h'' B') := fun x => yakr (r6.ext x) (by omega) (fun r hr => by have := hsm.2 r hr; omega)
  have ap : ∀ {h' : Hp} {q1 : OA} {d1 : Nat} {B1 G1 : Bag}, RowsA (q1, n, d1) rows B1 → St h6 h' (B1 + G1) → yaah Tryz.prog 59 #[.int .i64 k, .slice q1 n d1, .agg #[.int .i64 code, .slice q m cc]] h' (yafm h6 G1 R.1 R.2.1 R.2.2) := fun na1 s => by
    have := yari (G := _) ok hv na1 (fun h' A s' => rz6.ext s'.ext) hmc hm s
    rw [MRunP, hR] at this
    exact this
  have fin : ∀ {h' : Hp} {bx : Nat} {q2 : OA} {m2 d2 : Nat} {B2 : Bag}, RowsA (q2, m2, d2) R.1 B2 → St h6 h' (cA bx [.int .i64 0, .int .i64 0, .slice none 0 0] 58 + B2) →
      Wr h' ⟨bx, 0, none⟩ (.int .i64 R.2.1) fun h20 => Wr h20 ((⟨bx, 0, none⟩ : Addr).add 1) (.int .i64 R.2.2) fun h21 => Wr h21 ((⟨bx, 0, none⟩ : Addr).add 2) (.slice none 0 0) fun h22 => zbc_b2 (some ⟨b1, 0, none⟩) (some ⟨b3, 0, none⟩) (some ⟨b4, 0, none⟩) q2 m2 d2 (some ⟨bx, 0, none⟩) h22 (yaml h 0 k R.1 R.2.1 R.2.2) := by
    intro h' bx q2 m2 d2 B2 na2 s'
    refine s'.wr rfl (by simp) fun h20 s' => ?_
    refine s'.wr (o := 1) (yabj _ _ _) (by simp) fun h21 s' => ?_
    refine s'.wr (o := 2) (yabj _ _ _) (by simp) fun h22 s' => ?_
    have s' : St h6 h22 (cA bx [.int .i64 R.2.1, .int .i64 R.2.2, .slice none 0 0] 58 + B2) := s'
    rw [zbc_b2]
    have cx := s'.blk
    have s := (s6.join s').to (B := cA b3 [.int .i64 0, .slice none 0 0] 24 + (cA b4 [.int .i64 0, .int .i64 0, .slice none 0 0] 58 + (cA bx [.int .i64 R.2.1, .int .i64 R.2.2, .slice none 0 0] 58 + (cA b1 [.int .i64 k, .slice p n c] 24 + (cA b2 [.int .i64 code, .slice q m cc] 50 + (B2 + 0))))))
    refine ⟨_, s'.ext.cell c1, _, _, _, _, _, cx.cell 0, Blk.cellA cx 1, Blk.cellA cx 2, ?_⟩
    refine s.wr rfl (by simp) fun h23 s => ?_
    refine s.wr (o := 1) (yabj _ _ _) (by simp) fun h24 s => ?_
    have s : St h h24 (cA b3 [.int .i64 k, .slice q2 m2 d2] 24 + (cA b4 [.int .i64 0, .int .i64 0, .slice none 0 0] 58 + (cA bx [.int .i64 R.2.1, .int .i64 R.2.2, .slice none 0 0] 58 + (cA b1 [.int .i64 k, .slice p n c] 24 + (cA b2 [.int .i64 code, .slice q m cc] 50 + (B2 + 0)))))) := s
    have cx := (s.to (B := cA bx [.int .i64 R.2.1, .int .i64 R.2.2, .slice none 0 0] 58 + (cA b4 [.int .i64 0, .int .i64 0, .slice none 0 0] 58 + (cA b3 [.int .i64 k, .slice q2 m2 d2] 24 + (cA b1 [.int .i64 k, .slice p n c] 24 + (cA b2 [.int .i64 code, .slice q m cc] 50 + (B2 + 0))))))).blk
    refine ⟨⟨_, _, _, _, _, cx.cell 0, Blk.cellA cx 1, Blk.cellA cx 2, rfl⟩, ?_⟩
    have s := s.to (B := cA b4 [.int .i64 0, .int .i64 0, .slice none 0 0] 58 + (cA b3 [.int .i64 k, .slice q2 m2 d2] 24 + (cA bx [.int .i64 R.2.1, .int .i64 R.2.2, .slice none 0 0] 58 + (cA b1 [.int .i64 k, .slice p n c] 24 + (cA b2 [.int .i64 code, .slice q m cc] 50 + (B2 + 0))))))
    refine s.wr rfl (by simp) fun h25 s => ?_
    refine s.wr (o := 1) (yabj _ _ _) (by simp) fun h26 s => ?_
    refine s.wr (o := 2) (yabj _ _ _) (by simp) fun h27 s => ?_
    have s : St h h27 (cA b4 [.int .i64 R.2.1, .int .i64 R.2.2, .slice none 0 0] 58 + (cA b3 [.int .i64 k, .slice q2 m2 d2] 24 + (cA bx [.int .i64 R.2.1, .int .i64 R.2.2, .slice none 0 0] 58 + (cA b1 [.int .i64 k, .slice p n c] 24 + (cA b2 [.int .i64 code, .slice q m cc] 50 + (B2 + 0)))))) := s
    refine ⟨_, _, _, _, s.atomBlk.cell 0, Blk.cellA s.atomBlk 1, _, _, _, _, _, s.blk.cell 0, Blk.cellA s.blk 1, Blk.cellA s.blk 2, q2, m2, d2, B2, rfl, na2, s.drop.drop.drop.drop.drop⟩
  refine ⟨_, c1, _, _, _, c1', _, _, _, _, c2, c2', ?_⟩
  have s := St.start h6
  repeat' first
    | (with_reducible refine fin na2 ?_); exact s.to
    | (with_reducible refine St.new s (cs := [.int .i64 0, .int .i64 0, .slice none 0 0]) ?_); intro _ _ _ s
    | (with_reducible refine yaah.mono (cp s.ext) ?_); rintro _ _ ⟨q1, d1, B1, hv1, na1, tt⟩; refine ⟨_, _, _, hv1, ?_⟩; have s := s.join tt; clear tt
    | (with_reducible refine yaah.mono (ap na1 (s.at _)) ?_); rintro _ _ ⟨q2, m2, d2, B2, hv2, na2, s⟩; refine ⟨_, _, _, _, _, _, _, _, hv2, ?_⟩
    | with_reducible refine ⟨⟨_, _, _, _, s.ext.cell c2, s.ext.cell c2', rfl⟩, ?_⟩
    | with_reducible refine ⟨⟨_, s.ext.cell c1, rfl⟩, ?_⟩
    | with_reducible refine ⟨⟨_, _, _, s.ext.cell c1', rfl⟩, ?_⟩
    | with_reducible refine ⟨?_, ?_⟩
abbrev ResL := Int × Int
abbrev tRes : Ty ResL := ⟨58, 3, fun x => [.int .i64 x.1, .int .i64 x.2, .slice none 0 0], (0, 0), fun _ => rfl, by decide, fun _ v hv => by simp at hv; rcases hv with rfl | rfl | rfl <;> rfl⟩
theorem ybbk : ElOk tRes Tryz.prog 54 := yafi (by kernel_rfl)
def runR (k : Int) (ops : List OpL) : List (List Int) × List ResL := ops.foldl (fun s o => ((stepR k s.1 o.1 o.2).1, s.2 ++ [(stepR k s.1 o.1 o.2).2])) ([], [])
theorem yaez {k : Int} {ops : List OpL} {i : Nat} (hi : i < ops.length) : runR k (ops.take (i + 1)) = ((stepR k (runR k (ops.take i)).1 (ops.getD i (0, [])).1 (ops.getD i (0, [])).2).1, (runR k (ops.take i)).2 ++ [(stepR k (runR k (ops.take i)).1 (ops.getD i (0, [])).1 (ops.getD i (0, [])).2).2]) := by
  rw [List.take_succ_eq_append_getElem hi, yaaf hi]
  unfold runR
  rw [List.foldl_append]
  rfl
theorem yalo {k : Int} : ∀ {ops : List OpL} {i : Nat}, i ≤ ops.length → (runR k (ops.take i)).2.length = i
  | _, 0, _ => by rw [List.take_zero]; rfl
  | _, i + 1, h => by rw [yaez (by omega), List.length_append, yalo (by omega)]; rfl
theorem yahp {k : Int} (hk : 1 ≤ k ∧ k ≤ 6) : OkR k [] := by
  have hc : k = 1 ∨ k = 2 ∨ k = 3 ∨ k = 4 ∨ k = 5 ∨ k = 6 := by omega
  rcases hc with rfl | rfl | rfl | rfl | rfl | rfl
  · exact Or.inl ⟨rfl, [], rfl, List.Pairwise.nil, fun e he => (by cases he), Nat.zero_le _⟩
  · exact Or.inr (Or.inl ⟨rfl, [], rfl, List.Pairwise.nil, fun e he => (by cases he), Nat.zero_le _⟩)
  · exact Or.inr (Or.inr (Or.inl ⟨rfl, [], rfl, fun e he => (by cases he), Nat.zero_le _⟩))
  · exact okR4.2 ⟨fun r hr => by (cases hr), List.Pairwise.nil, by exact List.Perm.refl _, Nat.zero_le _⟩
  · exact Or.inr (Or.inr (Or.inr (Or.inr (Or.inl ⟨rfl, [], rfl, List.Pairwise.nil, fun e he => (by cases he), Nat.zero_le _⟩))))
  · exact okR6.2 (Or.inl rfl)
theorem yauj {k : Int} (hk : 1 ≤ k ∧ k ≤ 6) {ops : List OpL} (hv : AllV k ops) : ∀ {i : Nat}, i ≤ ops.length → OkR k (runR k (ops.take i)).1
  | 0, _ => by rw [List.take_zero]; exact yahp hk
  | i + 1, h => by
    rw [yaez (by omega)]
    exact yala (yauj hk hv (by omega)) (hv _ (yaap (by omega)))
theorem yang {k c : Int} {zs : List Int} (hv : OpV k c zs) : zs.length ≤ 64 := by
  have h4 := yazg k (c - 1).toNat
  have := hv.2
  split at this
  · omega
  · omega
def RunAP (k : Int) (h : Hp) (ops : List OpL) (v : Value) (h' : Hp) : Prop :=
  ∃ q m d o od B C, v = .tuple #[.agg #[.int .i64 k, .slice q m d], .slice o ops.length od, .int .i64 0] ∧ RowsA (q, m, d) (runR k ops).1 B ∧ Sl tRes o ops.length od (runR k ops).2 C ∧ St h h' (B + (C + 0))
theorem ybaf {k : Int} (hk : 1 ≤ k ∧ k ≤ 6) {h : Hp} {p : OA} {n c : Nat} {ops : List OpL} (r : OpsR h p n ops) (hn : n ≤ 1000) (hv : AllV k ops) :
    yaah Tryz.prog 25 #[.agg #[.int .i64 k, .slice none 0 0], .slice p n c] h (RunAP k h ops) := by
  have hl := r.len
  have rn : ∀ h, RowsR h none 0 [] := fun h => ⟨rfl, [], ⟨rfl, Or.inl rfl⟩, fun i hi => absurd hi (by omega)⟩
  refine zbe_call ?_
  rw [zbe_b0]
  refine (St.start h).new (cs := [.int .i64 k, .slice none 0 0]) fun b1 h1 _ s1 => ?_
  refine s1.new (cs := [.int .i64 0, .slice none 0 0]) fun b2 h2 _ s2 => ?_
  have kb1 := s2.atomBlk
  refine ⟨_, _, _, _, kb1.cell 0, Blk.cellA kb1 1, ?_⟩
  refine (yadu (rn h2) (fun r hr => by cases hr)).mono fun v1 h3 hv1 => ?_
  obtain ⟨⟨bb, hv1, hbb⟩, x3⟩ := hv1
  have hbt := hbb.2 (yahp hk)
  subst hbt
  refine ⟨_, hv1, yaau rfl ?_⟩
  have s3 := s2.grow x3
  have kb1 := s3.atomBlk
  refine (yamk (r.ext s3.ext) (by omega) kb1).mono fun v2 h4 ⟨hv2, x4⟩ => ⟨_, hv2, yaau (by rw [decide_eq_true hv]; rfl) ?_⟩
  have s4 := s3.grow x4
  have kb1 := s4.atomBlk
  rw [zbe_b1]
  refine condP (fun h => by omega) (fun _ => ⟨_, _, _, Blk.cellA kb1 1, ?_⟩)
  refine (yakr (rn h4) (by omega) (fun r hr => by cases hr)).mono fun v3 h5 ⟨q0, d0, B0, hv3, na0, t5⟩ => ⟨_, _, _, hv3, ?_⟩
  have s5 := (s4.join t5).to (B := B0 + (0 + (cA b2 [.int .i64 0, .slice none 0 0] 24 + (cA b1 [.int .i64 k, .slice none 0 0] 24 + 0))))
  refine ⟨fun x h' => ∃ (i : Nat) (B C : Bag), x.2.2.1 = i ∧ i ≤ n ∧ RowsA (x.1.1, x.1.2.1, x.1.2.2) (runR k (ops.take i)).1 B ∧ Sl tRes x.2.1.1 x.2.1.2.1 x.2.1.2.2 (runR k (ops.take i)).2 C ∧ St h h' (B + (C + (cA b2 [.int .i64 0, .slice none 0 0] 24 + (cA b1 [.int .i64 k, .slice none 0 0] 24 + 0)))), fun x _ => n - x.2.2.1.toNat, ⟨0, B0, 0, rfl, by omega, na0, Sl.nil, s5⟩, ?_⟩
  rintro ⟨⟨rp, rn, rc⟩, ⟨op, on, oc⟩, _, _⟩ h6 ⟨i, B, C, rfl, hin, na, oa, s6⟩
  dsimp only at na oa ⊢
  have f1 := yauj hk hv (i := i) (by omega)
  have hrl : (runR k (ops.take i)).1.length = rn := yabh na
  have hol := oa.len
  rw [yalo (by omega)] at hol
  rw [zbe_b2]
  refine condP (fun hlt => ?_) (fun hge => ?_)
  · refine r.at_ s6.ext (by omega) (by omega) fun q m d hmd rz => ?_
    rw [Int.toNat_natCast] at rz ⊢
    have hov := hv _ (yaap (l := ops) (i := i) (d := (0, [])) (by omega))
    have hru := yaez (k := k) (ops := ops) (i := i) (by omega)
    generalize ops.getD i (0, []) = opx at rz hov hru ⊢
    have hzl := rz.len
    have h64 := yang hov
    obtain ⟨R, hR⟩ : ∃ R, stepR k (runR k (ops.take i)).1 opx.1 opx.2 = R := ⟨_, rfl⟩
    rw [hR] at hru
    refine s6.new (cs := [.int .i64 0, .slice none 0 0]) fun b3 h7 _ s7 => ?_
    refine s7.wr rfl (by simp) fun h8 s8 => ?_
    refine s8.wr (o := 1) (yabj _ _ _) (by simp) fun h9 s9 => ?_
    have s9 : St h h9 (cA b3 [.int .i64 opx.1, .slice q m d] 50 + (B + (C + (cA b2 [.int .i64 0, .slice none 0 0] 24 + (cA b1 [.int .i64 k, .slice none 0 0] 24 + 0))))) := s9
    have kb1 := (s9.at (cA b1 [.int .i64 k, .slice none 0 0] 24)).blk
    refine ⟨_, kb1.cell 0, _, _, _, _, s9.blk.cell 0, Blk.cellA s9.blk 1, ?_⟩
    have ap := yari f1 hov na (G := C + (cA b3 [.int .i64 opx.1, .slice q m d] 50 + (cA b2 [.int .i64 0, .slice none 0 0] 24 + (cA b1 [.int .i64 k, .slice none 0 0] 24 + 0)))) (fun h' A s' => rz.ext s'.ext) hmd (by omega) (s9.to (B := B + (C + (cA b3 [.int .i64 opx.1, .slice q m d] 50 + (cA b2 [.int .i64 0, .slice none 0 0] 24 + (cA b1 [.int .i64 k, .slice none 0 0] 24 + 0))))))
    rw [MRunP, hR] at ap
    refine ap.mono fun v4 h10 ⟨q', m', d', B', hv4, na', s10⟩ => ⟨_, _, _, _, _, _, _, _, hv4, ?_⟩
    refine s10.new (cs := [.int .i64 0, .int .i64 0, .slice none 0 0]) fun b4 h11 _ s11 => ?_
    refine s11.wr rfl (by simp) fun h12 s12 => ?_
    refine s12.wr (o := 1) (yabj _ _ _) (by simp) fun h13 s13 => ?_
    refine s13.wr (o := 2) (yabj _ _ _) (by simp) fun h14 s14 => ?_
    refine ⟨_, _, _, _, _, s14.blk.cell 0, Blk.cellA s14.blk 1, Blk.cellA s14.blk 2, ?_⟩
    have s14 := s14.drop
    refine s14.new (cs := [.int .i64 R.2.1, .int .i64 R.2.2, .slice none 0 0]) fun b5 h15 _ s15 => ?_
    have sx : Sl tRes (some ⟨b5, 0, none⟩) 1 1 [R.2] (cA b5 [.int .i64 R.2.1, .int .i64 R.2.2, .slice none 0 0] 58) := Sl.of_blk (T := tRes) (xs := [R.2]) rfl rfl
    have s15' := s15.to (B := C + (cA b5 [.int .i64 R.2.1, .int .i64 R.2.2, .slice none 0 0] 58 + (B' + (cA b3 [.int .i64 opx.1, .slice q m d] 50 + (cA b2 [.int .i64 0, .slice none 0 0] 24 + (cA b1 [.int .i64 k, .slice none 0 0] 24 + 0))))))
    refine yacb ybbk s15' oa (sx.rd s15) (by omega) fun a1 c1 h16 C' oa' s16 => ?_
    rw [zbe_b3]
    refine ⟨⟨by omega, by omega⟩, ⟨i + 1, B', C', by simp only; omega, by omega, by rw [hru]; exact na', by rw [hru]; exact oa', ?_⟩, by simp only; omega⟩
    exact (s16.to (B := (cA b5 [.int .i64 R.2.1, .int .i64 R.2.2, .slice none 0 0] 58 + cA b3 [.int .i64 opx.1, .slice q m d] 50) + (B' + (C' + (cA b2 [.int .i64 0, .slice none 0 0] 24 + (cA b1 [.int .i64 k, .slice none 0 0] 24 + 0)))))).drop
  · obtain rfl : i = n := by omega
    rw [List.take_of_length_le (by omega)] at na oa
    rw [zbe_b4]
    have kb1 := (s6.at (cA b1 [.int .i64 k, .slice none 0 0] 24)).blk
    refine ⟨_, kb1.cell 0, ?_⟩
    have s6 := s6.to (B := cA b2 [.int .i64 0, .slice none 0 0] 24 + (cA b1 [.int .i64 k, .slice none 0 0] 24 + (B + (C + 0))))
    refine s6.wr rfl (by simp) fun h7 s7 => ?_
    refine s7.wr (o := 1) (yabj _ _ _) (by simp) fun h8 s8 => ?_
    refine ⟨_, _, _, _, s8.blk.cell 0, Blk.cellA s8.blk 1, rp, rn, rc, op, oc, B, C, ?_, na, ?_, (s8.drop).drop⟩
    · subst hol; rw [hl]
    · subst hol; rw [hl]; exact oa
structure Ev where
  t : EvT
  zs : List Int
  ls : List Int
abbrev dEv : Ev := ⟨tEv.d, [], []⟩
abbrev Rows := List (List Int)
def precT (a b : EvT) : Prop := 0 ≤ a.en ∧ a.en < b.bg
instance (a b : EvT) : Decidable (precT a b) := inferInstanceAs (Decidable (_ ∧ _))
abbrev prec (a b : Ev) : Prop := precT a.t b.t
def One (e : Ev) : Prop := (0 ≤ e.t.th ∧ e.t.th < 8) ∧ (0 ≤ e.t.bg ∧ e.t.bg ≤ 65536) ∧ (e.t.en = -1 ∨ e.t.bg ≤ e.t.en ∧ e.t.en ≤ 65536) ∧ (e.t.en = -1 → e.t.er = 0 ∧ e.t.nu = 0 ∧ e.ls = [])
def ThrP (a b : Ev) : Prop := a.t.th = b.t.th → prec a b
def KindP (k : Int) (l : List Ev) : Prop := ∀ e ∈ l, OpV k e.t.co e.zs
def HistK (k : Int) (l : List Ev) : Prop := l.length ≤ 1000 ∧ (∀ e ∈ l, One e) ∧ l.Pairwise ThrP ∧ KindP k l
theorem yask {a b c : Ev} (hb : One b) (h1 : prec a b) (h2 : prec b c) : prec a c := by
  obtain ⟨_, _, h, _⟩ := hb
  unfold prec precT at *
  omega
theorem yayi {a : Ev} (ha : One a) : ¬ prec a a := by
  obtain ⟨_, _, h, _⟩ := ha
  unfold prec precT
  omega
def stepE (k : Int) (rows : Rows) (e : Ev) : Option Rows :=
  if 0 ≤ e.t.en ∧ ¬ ((stepR k rows e.t.co e.zs).2.1 = e.t.er ∧ (stepR k rows e.t.co e.zs).2.2 = e.t.nu ∧ e.ls = []) then none else some (stepR k rows e.t.co e.zs).1
def Nxt (l : List Ev) (D : Nat → Bool) (i : Nat) : Prop := D i = false ∧ ∀ j, j < l.length → D j = false → ¬ prec (l.getD j dEv) (l.getD i dEv)
def setD (D : Nat → Bool) (i : Nat) : Nat → Bool := fun j => decide (j = i) || D j
def Cpl (l : List Ev) (D : Nat → Bool) : Prop := ∀ j, j < l.length → 0 ≤ (l.getD j dEv).t.en → D j = true
def Lin (k : Int) (l : List Ev) : List Nat → (Nat → Bool) → Rows → Prop
  | [], D, _ => Cpl l D
  | i :: o, D, rows => i < l.length ∧ Nxt l D i ∧ ∃ r', stepE k rows (l.getD i dEv) = some r' ∧ Lin k l o (setD D i) r'
theorem yaiz {D : Nat → Bool} {i : Nat} : setD D i i = true := by simp [setD]
theorem yavh {D : Nat → Bool} {i j : Nat} (h : j ≠ i) : setD D i j = D j := by simp [setD, h]
def lft (n : Nat) (D : Nat → Bool) : Nat := (List.range n).countP fun i => !D i
theorem yats {k : Int} {rows r' : Rows} {e : Ev} (ok : OkR k rows) (hv : OpV k e.t.co e.zs) (h : stepE k rows e = some r') : OkR k r' := by
  unfold stepE at h
  split at h
  · cases h
  · cases h
    exact yala ok hv
def DirP (l : List Ev) (i j : Nat) : Prop := prec (l.getD i dEv) (l.getD j dEv) ∧ ∀ k, k < l.length → ¬ (prec (l.getD i dEv) (l.getD k dEv) ∧ prec (l.getD k dEv) (l.getD j dEv))
instance (l : List Ev) (i j : Nat) : Decidable (DirP l i j) := inferInstanceAs (Decidable (_ ∧ ∀ k, k < l.length → ¬ (_ ∧ _)))
def SeqT (l : List EvT) : Prop := l.Pairwise fun a b => precT a b ∨ precT b a
def OneT (e : EvT) : Prop := e.en = -1 ∨ e.bg ≤ e.en
theorem One.one {e : Ev} (h : One e) : OneT e.t := by
  obtain ⟨_, _, h, _⟩ := h
  unfold OneT
  omega
theorem yazz {α : Type} {R : α → α → Prop} {d : α} (tr : ∀ a b c, R a b → R b c → R a c) : ∀ {l : List α}, (∀ i, i + 1 < l.length → R (l.getD i d) (l.getD (i + 1) d)) → l.Pairwise R
  | [], _ => .nil
  | [_], _ => List.pairwise_singleton _ _
  | a :: b :: l, h => by
    have h0 : R a b := h 0 (by simp)
    have ih := yazz tr (l := b :: l) fun i hi => h (i + 1) (by simpa using hi)
    rw [List.pairwise_cons] at ih ⊢
    refine ⟨fun c hc => ?_, List.pairwise_cons.2 ih⟩
    rcases List.mem_cons.1 hc with rfl | hc
    · exact h0
    · exact tr _ _ _ h0 (ih.1 c hc)
theorem yapp {l s : List EvT} (hp : s.Perm l) (h1 : ∀ e ∈ l, OneT e) (hs : s.Pairwise fun a b => a.bg ≤ b.bg) : (∀ i, i + 1 < s.length → precT (s.getD i tEv.d) (s.getD (i + 1) tEv.d)) ↔ SeqT l := by
  have h1' : ∀ e ∈ s, OneT e := fun e he => h1 e (hp.mem_iff.1 he)
  have hsy : SeqT s ↔ SeqT l := hp.pairwise_iff fun h => h.symm
  rw [← hsy]
  constructor
  · intro h
    have : s.Pairwise fun a b => OneT b → precT a b := by
      have h2 : s.Pairwise fun a b => OneT a ∧ OneT b ∧ precT a b := yazz (d := tEv.d) (fun a b c ⟨x1, x2, x3⟩ ⟨_, y2, y3⟩ => ⟨x1, y2, by unfold OneT precT at *; omega⟩) fun i hi => ⟨h1' _ (yaap (by omega)), h1' _ (yaap (by omega)), h i hi⟩
      exact h2.imp fun h _ => h.2.2
    unfold SeqT
    rw [List.pairwise_iff_getElem] at this ⊢
    exact fun i j hi hj hij => .inl (this i j hi hj hij (h1' _ (List.getElem_mem hj)))
  · intro h i hi
    unfold SeqT at h
    rw [List.pairwise_iff_getElem] at h hs
    have h2 := h i (i + 1) (by omega) hi (by omega)
    have h3 := hs i (i + 1) (by omega) hi (by omega)
    rw [yaaf (by omega), yaaf hi]
    rcases h2 with h2 | h2
    · exact h2
    · have := h1' _ (List.getElem_mem hi)
      unfold OneT precT at *
      omega
abbrev Cf := List Bool × Rows
def dn (c : Cf) : Nat → Bool := fun i => c.1.getD i false
instance (l : List Ev) (D : Nat → Bool) (i : Nat) : Decidable (Nxt l D i) := inferInstanceAs (Decidable (_ ∧ ∀ j, j < l.length → _))
def sucC (k : Int) (l : List Ev) (c : Cf) (i : Nat) : Option Cf := if Nxt l (dn c) i then (stepE k c.2 (l.getD i dEv)).map fun r => (c.1.set i true, r) else none
def sucs (k : Int) (l : List Ev) (c : Cf) : List Cf := (List.range l.length).filterMap (sucC k l c)
def lev (k : Int) (l : List Ev) (c : Cf) : Nat → List Cf
  | 0 => [c]
  | d + 1 => (lev k l c d).flatMap (sucs k l)
theorem yawp {n : Nat} {D : Nat → Bool} {i : Nat} (hi : i < n) (h : D i = false) : lft n (setD D i) + 1 = lft n D := by
  unfold lft
  induction n with
  | zero => omega
  | succ n ih =>
    rw [List.range_succ, List.countP_append, List.countP_append, List.countP_singleton, List.countP_singleton]
    rcases Nat.lt_or_ge i n with h1 | h1
    · have := ih h1
      rw [yavh (by omega)]
      omega
    · obtain rfl : i = n := by omega
      rw [yaiz, h]
      have : (List.range i).countP (fun j => !setD D i j) = (List.range i).countP fun j => !D j := List.countP_congr fun j hj => by
        rw [yavh (by have := List.mem_range.1 hj; omega)]
      rw [this]
      simp
def allC (k : Int) (l : List Ev) (c : Cf) : List Cf := (List.range (l.length + 1)).flatMap (lev k l c)
instance (l : List Ev) (D : Nat → Bool) : Decidable (Cpl l D) := inferInstanceAs (Decidable (∀ j, j < l.length → _))
def wit (k : Int) (l : List Ev) : List Int → (Nat → Bool) → Rows → Int → Bool × Int
  | [], D, _, i => if Cpl l D then (true, -1) else (false, i)
  | o :: os, D, rows, i => if Nxt l D o.toNat then (match stepE k rows (l.getD o.toNat dEv) with | none => (false, i) | some r => wit k l os (setD D o.toNat) r (i + 1)) else (false, i)
def witR (k : Int) (l : List Ev) (os : List Int) (rows : Rows) : Bool × Int × Int :=
  if ∃ o ∈ os, o < 0 ∨ (l.length : Int) ≤ o then (false, 0, 2) else if ¬ os.Nodup then (false, 0, 10) else ((wit k l os (fun _ => false) rows 0).1, (wit k l os (fun _ => false) rows 0).2, 0)
open Go Go.Sx Go.Lib
def valD : List UInt8 → Nat := List.foldl (fun a b => a * 10 + (b.toNat - 48)) 0
def isD (b : UInt8) : Prop := 48 ≤ b.toNat ∧ b.toNat ≤ 57
theorem yayz : ∀ i : Fin 10, (UInt8.ofNat (48 + i.val)).toNat = 48 + i.val := by decide
theorem yalt (u : Nat) : valD (decDigits u) = u ∧ (∀ b ∈ decDigits u, isD b) ∧ decDigits u ≠ [] := by
  induction u using Nat.strongRecOn with
  | _ u ih =>
    rw [decDigits]
    split
    · rename_i h
      have := yayz ⟨u, h⟩
      simp only at this
      refine ⟨?_, fun b hb => ?_, by simp⟩
      · show 0 * 10 + ((UInt8.ofNat (48 + u)).toNat - 48) = u
        rw [this]; omega
      · rw [List.mem_singleton.1 hb]
        unfold isD
        rw [this]; omega
    · rename_i h
      obtain ⟨h1, h2, h3⟩ := ih (u / 10) (by omega)
      have := yayz ⟨u % 10, by omega⟩
      simp only at this
      refine ⟨?_, fun b hb => ?_, by simp⟩
      · unfold valD at h1 ⊢
        rw [List.foldl_append, h1]
        show u / 10 * 10 + ((UInt8.ofNat (48 + u % 10)).toNat - 48) = u
        rw [this]; omega
      · rcases List.mem_append.1 hb with hb | hb
        · exact h2 b hb
        · rw [List.mem_singleton.1 hb]
          unfold isD
          rw [this]; omega
theorem yasb {n m : Int} (h : itoa n = itoa m) : n = m := by
  have key : ∀ (u : Nat) (l : List UInt8), decDigits u ≠ 45 :: l := fun u l hc => by
    have := (yalt u).2.1 45 (by rw [hc]; exact List.mem_cons_self)
    unfold isD at this
    revert this
    decide
  unfold itoa at h
  split at h <;> split at h
  · injection h with _ h
    have := congrArg valD h
    rw [(yalt _).1, (yalt _).1] at this
    omega
  · exact absurd h.symm (key _ _)
  · exact absurd h (key _ _)
  · have := congrArg valD h
    rw [(yalt _).1, (yalt _).1] at this
    omega
theorem yajt {n : Int} : ∀ b ∈ itoa n, b ≠ 44 ∧ b ≠ 59 := by
  have key : ∀ b : UInt8, isD b → b ≠ 44 ∧ b ≠ 59 := fun b h => by
    unfold isD at h
    refine ⟨?_, ?_⟩ <;> rintro rfl <;> revert h <;> decide
  intro b hb
  unfold itoa at hb
  split at hb
  · rcases List.mem_cons.1 hb with rfl | hb
    · decide
    · exact key b ((yalt _).2.1 b hb)
  · exact key b ((yalt _).2.1 b hb)
def Beg (c : UInt8) : List UInt8 → Prop
  | [] => True
  | b :: _ => b = c
theorem yaey {c : UInt8} : ∀ {a b x y : List UInt8}, (∀ z ∈ a, z ≠ c) → (∀ z ∈ b, z ≠ c) → Beg c x → Beg c y → a ++ x = b ++ y → a = b ∧ x = y
  | [], [], _, _, _, _, _, _, h => ⟨rfl, h⟩
  | [], b :: br, x, y, _, hb, hx, _, h => by
    have h : x = b :: (br ++ y) := h
    subst h
    exact absurd hx (hb b List.mem_cons_self)
  | a :: ar, [], x, y, ha, _, _, hy, h => by
    have h : a :: (ar ++ x) = y := h
    subst h
    exact absurd hy (ha a List.mem_cons_self)
  | a :: ar, b :: br, x, y, ha, hb, hx, hy, h => by
    injection h with h1 h2
    obtain ⟨h3, h4⟩ := yaey (fun z hz => ha z (List.mem_cons_of_mem _ hz)) (fun z hz => hb z (List.mem_cons_of_mem _ hz)) hx hy h2
    exact ⟨by rw [h1, h3], h4⟩
def rowK (r : List Int) : List UInt8 := r.flatMap fun n => 44 :: itoa n
def rowsK (rows : Rows) : List UInt8 := rows.flatMap fun r => 59 :: rowK r
def keyK (mask : Int) (rows : Rows) : List UInt8 := itoa mask ++ rowsK rows
theorem yarg : ∀ {r : List Int}, Beg 44 (rowK r)
  | [] => trivial
  | _ :: _ => rfl
theorem yagb : ∀ {r : Rows}, Beg 59 (rowsK r)
  | [] => trivial
  | _ :: _ => rfl
theorem yavl {r : List Int} : ∀ b ∈ rowK r, b ≠ 59 := fun b hb => by
  obtain ⟨n, _, h⟩ := List.mem_flatMap.1 hb
  rcases List.mem_cons.1 h with rfl | h
  · decide
  · exact (yajt b h).2
theorem yarz : ∀ {r t : List Int}, rowK r = rowK t → r = t
  | [], [], _ => rfl
  | [], _ :: _, h => by cases h
  | _ :: _, [], h => by cases h
  | a :: r, b :: t, h => by
    have h : 44 :: (itoa a ++ rowK r) = 44 :: (itoa b ++ rowK t) := h
    injection h with _ h
    obtain ⟨h1, h2⟩ := yaey (fun z hz => (yajt z hz).1) (fun z hz => (yajt z hz).1) yarg yarg h
    rw [yasb h1, yarz h2]
theorem yanl : ∀ {r t : Rows}, rowsK r = rowsK t → r = t
  | [], [], _ => rfl
  | [], _ :: _, h => by cases h
  | _ :: _, [], h => by cases h
  | a :: r, b :: t, h => by
    have h : 59 :: (rowK a ++ rowsK r) = 59 :: (rowK b ++ rowsK t) := h
    injection h with _ h
    obtain ⟨h1, h2⟩ := yaey yavl yavl yagb yagb h
    rw [yarz h1, yanl h2]
theorem yaxy {m m' : Int} {r r' : Rows} (h : keyK m r = keyK m' r') : m = m' ∧ r = r' := by
  obtain ⟨h1, h2⟩ := yaey (fun z hz => (yajt z hz).2) (fun z hz => (yajt z hz).2) yagb yagb h
  exact ⟨yasb h1, yanl h2⟩
open Go Go.Sx Go.Lib
def kyS (m : Nat) (r : Rows) : ByteArray := ⟨(keyK (m : Int) r).toArray⟩
theorem yauy {m m' : Nat} {r r' : Rows} (h : kyS m r = kyS m' r') : m = m' ∧ r = r' := by
  have h1 := congrArg (fun b : ByteArray => b.data.toList) h
  have h2 : keyK (m : Int) r = keyK (m' : Int) r' := by simpa [kyS] using h1
  obtain ⟨h3, h4⟩ := yaxy h2
  exact ⟨by omega, h4⟩
def Fails (k : Int) (l : List Ev) (m : Nat) (r : Rows) : Prop := ¬ ∃ o, Lin k l o m.testBit r
def FailK (k : Int) (l : List Ev) (key : ByteArray) : Prop := ∃ m r, key = kyS m r ∧ Fails k l m r
def Memo (k : Int) (l : List Ev) (b : Nat) (ps : List (ByteArray × Bool)) : Prop := ∀ e ∈ ps, e.2 = true ∧ (FailK k l e.1 ∨ ∃ m r, e.1 = kyS m r ∧ b < lft l.length m.testBit)
def Grew (k : Int) (l : List Ev) (ps qs : List (ByteArray × Bool)) : Prop := ∀ e ∈ qs, e.2 = true ∧ (e ∈ ps ∨ FailK k l e.1)
theorem Grew.refl {k : Int} {l : List Ev} {b : Nat} {ps : List (ByteArray × Bool)} (h : Memo k l b ps) : Grew k l ps ps := fun e he => ⟨(h e he).1, .inl he⟩
theorem Grew.trans {k : Int} {l : List Ev} {ps qs rs : List (ByteArray × Bool)} (h : Grew k l ps qs) (g : Grew k l qs rs) : Grew k l ps rs := fun e he => ⟨(g e he).1, (g e he).2.elim (fun h1 => (h e h1).2) .inr⟩
theorem Grew.memo {k : Int} {l : List Ev} {b : Nat} {ps qs : List (ByteArray × Bool)} (h : Grew k l ps qs) (m : Memo k l b ps) : Memo k l b qs := fun e he => ⟨(h e he).1, (h e he).2.elim (fun h1 => (m e h1).2) .inl⟩
theorem yavz {k : Int} {l : List Ev} {b m : Nat} {r : Rows} {ps : List (ByteArray × Bool)} {v : Bool} (h : Memo k l b ps) (hb : b = lft l.length m.testBit) (hm : (kyS m r, v) ∈ ps) : v = true ∧ Fails k l m r := by
  obtain ⟨h1, h2⟩ := h _ hm
  refine ⟨h1, ?_⟩
  rcases h2 with ⟨m', r', h3, h4⟩ | ⟨m', r', h3, h4⟩
  · obtain ⟨rfl, rfl⟩ := yauy h3
    exact h4
  · obtain ⟨rfl, rfl⟩ := yauy h3
    omega
theorem yaii {κ ν : Type} [DecidableEq κ] {k : κ} {v : ν} {e : κ × ν} : ∀ {l : List (κ × ν)}, e ∈ setk l k v → e = (k, v) ∨ e ∈ l
  | [], h => .inl (List.mem_singleton.1 h)
  | (a, w) :: l, h => by
    unfold setk at h
    split at h
    · rcases List.mem_cons.1 h with h | h
      · exact .inl h
      · exact .inr (List.mem_cons_of_mem _ h)
    · rcases List.mem_cons.1 h with h | h
      · exact .inr (h ▸ List.mem_cons_self)
      · exact (yaii h).imp id (List.mem_cons_of_mem _)
theorem yavu {k : Int} {l : List Ev} {b b' m : Nat} {r : Rows} {ps : List (ByteArray × Bool)} (h : Memo k l b ps) (hb : b = lft l.length m.testBit) (hb' : b' < b) : Memo k l b' (setk ps (kyS m r) true) := fun e he => by
  rcases yaii he with rfl | he
  · exact ⟨rfl, .inr ⟨m, r, rfl, by omega⟩⟩
  · refine ⟨(h e he).1, (h e he).2.imp id ?_⟩
    rintro ⟨m', r', h1, h2⟩
    exact ⟨m', r', h1, by omega⟩
theorem yaxl {k : Int} {l : List Ev} {m : Nat} {r : Rows} {ps qs : List (ByteArray × Bool)} (g : Grew k l (setk ps (kyS m r) true) qs) (hf : Fails k l m r) : Grew k l ps qs := fun e he => by
  refine ⟨(g e he).1, ?_⟩
  rcases (g e he).2 with h1 | h1
  · rcases yaii h1 with rfl | h1
    · exact .inr ⟨m, r, rfl, hf⟩
    · exact .inl h1
  · exact .inr h1
theorem yajk {m i : Nat} : (m ||| 2 ^ i).testBit = setD m.testBit i := by
  funext j
  rw [Nat.testBit_or, Nat.testBit_two_pow]
  unfold setD
  by_cases h : i = j
  · subst h; simp
  · simp [h, Ne.symm h]
def AllM (l : List Ev) (n a : Nat) : Prop := ∀ j, a.testBit j = (decide (j < n) && decide (0 ≤ (l.getD j dEv).t.en))
theorem yauw {l : List Ev} {a m : Nat} (h : AllM l l.length a) : m &&& a = a ↔ Cpl l m.testBit := by
  constructor
  · intro e j hj hc
    have h1 := h j
    rw [← e, Nat.testBit_and, decide_eq_true hj, decide_eq_true hc] at h1
    simp at h1
    exact h1.1
  · intro hc
    refine Nat.eq_of_testBit_eq fun j => ?_
    rw [Nat.testBit_and, h j]
    by_cases hj : j < l.length
    · by_cases he : 0 ≤ (l.getD j dEv).t.en
      · rw [hc j hj he]; simp
      · rw [decide_eq_false he, Bool.and_false, Bool.and_false]
    · simp [hj]
theorem yate {l : List Ev} : AllM l 0 0 := fun j => by simp
theorem yayj {l : List Ev} {n a : Nat} (h : AllM l n a) (hc : 0 ≤ (l.getD n dEv).t.en) : AllM l (n + 1) (a ||| 2 ^ n) := fun j => by
  rw [yajk]
  unfold setD
  rw [h j]
  by_cases hj : j = n
  · subst hj; rw [decide_eq_true hc]; simp
  · simp [hj, show (j < n + 1) = (j < n) from propext ⟨fun h => by omega, fun h => by omega⟩]
theorem yayv {l : List Ev} {n a : Nat} (h : AllM l n a) (hc : ¬ 0 ≤ (l.getD n dEv).t.en) : AllM l (n + 1) a := fun j => by
  rw [h j]
  by_cases hj : j = n
  · subst hj; rw [decide_eq_false hc]; simp
  · simp [show (j < n + 1) = (j < n) from propext ⟨fun h => by omega, fun h => by omega⟩]
theorem yays {m i n : Nat} (hm : m < 2 ^ n) (hi : i < n) : m ||| 2 ^ i < 2 ^ n := Nat.or_lt_two_pow hm (Nat.pow_lt_pow_right (by decide) hi)
theorem yavd {l : List Ev} {n a : Nat} (h : AllM l n a) : a < 2 ^ n := Nat.lt_pow_two_of_testBit _ fun j hj => by rw [h j]; simp; omega
theorem yawq {n : Nat} : lft n (Nat.testBit 0) = n := by
  unfold lft
  rw [List.countP_eq_length.2 (fun i _ => by simp), List.length_range]
theorem yavj {m i : Nat} : ((m >>> i) &&& 1 = 1) ↔ m.testBit i = true := by
  rw [Nat.and_one_is_mod, Nat.testBit_eq_decide_div_mod_eq, Nat.shiftRight_eq_div_pow, decide_eq_true_eq]
abbrev evC (x : EvT) : List Value := [.int .i64 x.th, .int .i64 x.co, .slice x.ar.1 x.ar.2.1 x.ar.2.2, .int .i64 x.er, .int .i64 x.nu, .slice x.li.1 x.li.2.1 x.li.2.2, .int .i64 x.bg, .int .i64 x.en]
theorem ldEvB {h : Hp} {b : Nat} {x : EvT} {e : TypeId} {Q : Int → Int → OA → Nat → Nat → Int → Int → OA → Nat → Nat → Int → Int → Prop} (k : Blk h b (evC x) e) (hq : Q x.th x.co x.ar.1 x.ar.2.1 x.ar.2.2 x.er x.nu x.li.1 x.li.2.1 x.li.2.2 x.bg x.en) :
    ∃ x0 : Int, ∃ x1 : Int, ∃ (x2 : OA) (x2L x2C : Nat), ∃ x3 : Int, ∃ x4 : Int, ∃ (x5 : OA) (x5L x5C : Nat), ∃ x6 : Int, ∃ x7, cell h (⟨b, 0, none⟩ : Addr) = some (.int .i64 x0) ∧ cell h ((⟨b, 0, none⟩ : Addr).add 1) = some (.int .i64 x1) ∧ cell h ((⟨b, 0, none⟩ : Addr).add 2) = some (.slice x2 x2L x2C) ∧ cell h ((⟨b, 0, none⟩ : Addr).add 3) = some (.int .i64 x3) ∧ cell h ((⟨b, 0, none⟩ : Addr).add 4) = some (.int .i64 x4) ∧ cell h ((⟨b, 0, none⟩ : Addr).add 5) = some (.slice x5 x5L x5C) ∧ cell h ((⟨b, 0, none⟩ : Addr).add 6) = some (.int .i64 x6) ∧ cell h ((⟨b, 0, none⟩ : Addr).add 7) = some (.int .i64 x7) ∧ Q x0 x1 x2 x2L x2C x3 x4 x5 x5L x5C x6 x7 :=
  ⟨_, _, _, _, _, _, _, _, _, _, _, _, k.cell 0, k.cell 1, k.cell 2, k.cell 3, k.cell 4, k.cell 5, k.cell 6, k.cell 7, hq⟩
theorem cpEv {h0 h : Hp} {A : Bag} {p : OA} {n : Nat} {l : List EvT} {i : Int} {i' : Nat} {Q : Nat → Hp → Prop} (s : St h0 h A) (r : RdT tEv h p n l) (ei : i = (i' : Int)) (hi : i' < n)
    (hq : ∀ b h', Ext h h' → St h0 h' (cA b (evC (l.getD i' tEv.d)) 60 + A) → Q b h') :
    (0 ≤ i ∧ i < (n : Int)) ∧ NN p fun a => ∃ x0 : Int, ∃ x1 : Int, ∃ (x2 : OA) (x2L x2C : Nat), ∃ x3 : Int, ∃ x4 : Int, ∃ (x5 : OA) (x5L x5C : Nat), ∃ x6 : Int, ∃ x7, cell h (a.add (Int.toNat i * 8)) = some (.int .i64 x0) ∧ cell h ((a.add (Int.toNat i * 8)).add 1) = some (.int .i64 x1) ∧ cell h ((a.add (Int.toNat i * 8)).add 2) = some (.slice x2 x2L x2C) ∧ cell h ((a.add (Int.toNat i * 8)).add 3) = some (.int .i64 x3) ∧ cell h ((a.add (Int.toNat i * 8)).add 4) = some (.int .i64 x4) ∧ cell h ((a.add (Int.toNat i * 8)).add 5) = some (.slice x5 x5L x5C) ∧ cell h ((a.add (Int.toNat i * 8)).add 6) = some (.int .i64 x6) ∧ cell h ((a.add (Int.toNat i * 8)).add 7) = some (.int .i64 x7) ∧ New h (.cells #[.int .i64 0, .int .i64 0, .slice none 0 0, .int .i64 0, .int .i64 0, .slice none 0 0, .int .i64 0, .int .i64 0] 60) fun b g0 => Wr g0 (⟨b, 0, none⟩ : Addr) (.int .i64 x0) fun g1 => Wr g1 ((⟨b, 0, none⟩ : Addr).add 1) (.int .i64 x1) fun g2 => Wr g2 ((⟨b, 0, none⟩ : Addr).add 2) (.slice x2 x2L x2C) fun g3 => Wr g3 ((⟨b, 0, none⟩ : Addr).add 3) (.int .i64 x3) fun g4 => Wr g4 ((⟨b, 0, none⟩ : Addr).add 4) (.int .i64 x4) fun g5 => Wr g5 ((⟨b, 0, none⟩ : Addr).add 5) (.slice x5 x5L x5C) fun g6 => Wr g6 ((⟨b, 0, none⟩ : Addr).add 6) (.int .i64 x6) fun g7 => Wr g7 ((⟨b, 0, none⟩ : Addr).add 7) (.int .i64 x7) fun g8 => Q b g8 := by
  refine ldEV r ei hi ?_
  refine (St.start h).new (cs := [.int .i64 0, .int .i64 0, .slice none 0 0, .int .i64 0, .int .i64 0, .slice none 0 0, .int .i64 0, .int .i64 0]) fun b h1 _ s1 => s1.wr0 fun _ u => u.wrB fun _ u => u.wrB fun _ u => u.wrB fun _ u => u.wrB fun _ u => u.wrB fun _ u => u.wrB fun _ u => u.wrB fun h9 t => ?_
  have t : St h h9 (cA b (evC (l.getD i' tEv.d)) 60 + 0) := t
  rw [Bag.add_zero] at t
  exact hq b h9 t.ext (s.join t)
def EvM (h : Hp) (e : Ev) : Prop := (RdT TI h e.t.ar.1 e.t.ar.2.1 e.zs ∧ e.t.ar.2.1 ≤ e.t.ar.2.2) ∧ RdT TI h e.t.li.1 e.t.li.2.1 e.ls ∧ e.t.li.2.1 ≤ e.t.li.2.2
def EvsR (h : Hp) (p : OA) (n : Nat) (l : List Ev) : Prop := RdT tEv h p n (l.map Ev.t) ∧ ∀ e ∈ l, EvM h e
abbrev Sm (l : List Ev) : Prop := ∀ e ∈ l, e.zs.length ≤ 70 ∧ e.ls.length ≤ 20
theorem EvM.ext {h h' : Hp} {e : Ev} (m : EvM h e) (x : Ext h h') : EvM h' e := ⟨⟨m.1.1.ext x, m.1.2⟩, m.2.1.ext x, m.2.2⟩
theorem EvsR.ext {h h' : Hp} {p : OA} {n : Nat} {l : List Ev} (r : EvsR h p n l) (x : Ext h h') : EvsR h' p n l := ⟨r.1.ext x, fun e he => (r.2 e he).ext x⟩
theorem EvsR.len {h : Hp} {p : OA} {n : Nat} {l : List Ev} (r : EvsR h p n l) : l.length = n := by have := r.1.len; rwa [List.length_map] at this
theorem yafj {l : List Ev} {i : Nat} (hi : i < l.length) : (l.map Ev.t).getD i tEv.d = (l.getD i dEv).t := by simp [List.getD, hi]
theorem EvsR.cp {h0 h : Hp} {A : Bag} {p : OA} {n : Nat} {l : List Ev} {i : Int} {i' : Nat} {Q : Nat → Hp → Prop} (r : EvsR h p n l) (s : St h0 h A) (ei : i = (i' : Int)) (hi : i' < n)
    (hq : ∀ b h', Ext h h' → St h0 h' (cA b (evC (l.getD i' dEv).t) 60 + A) → Q b h') :
    (0 ≤ i ∧ i < (n : Int)) ∧ NN p fun a => ∃ x0 : Int, ∃ x1 : Int, ∃ (x2 : OA) (x2L x2C : Nat), ∃ x3 : Int, ∃ x4 : Int, ∃ (x5 : OA) (x5L x5C : Nat), ∃ x6 : Int, ∃ x7, cell h (a.add (Int.toNat i * 8)) = some (.int .i64 x0) ∧ cell h ((a.add (Int.toNat i * 8)).add 1) = some (.int .i64 x1) ∧ cell h ((a.add (Int.toNat i * 8)).add 2) = some (.slice x2 x2L x2C) ∧ cell h ((a.add (Int.toNat i * 8)).add 3) = some (.int .i64 x3) ∧ cell h ((a.add (Int.toNat i * 8)).add 4) = some (.int .i64 x4) ∧ cell h ((a.add (Int.toNat i * 8)).add 5) = some (.slice x5 x5L x5C) ∧ cell h ((a.add (Int.toNat i * 8)).add 6) = some (.int .i64 x6) ∧ cell h ((a.add (Int.toNat i * 8)).add 7) = some (.int .i64 x7) ∧ New h (.cells #[.int .i64 0, .int .i64 0, .slice none 0 0, .int .i64 0, .int .i64 0, .slice none 0 0, .int .i64 0, .int .i64 0] 60) fun b g0 => Wr g0 (⟨b, 0, none⟩ : Addr) (.int .i64 x0) fun g1 => Wr g1 ((⟨b, 0, none⟩ : Addr).add 1) (.int .i64 x1) fun g2 => Wr g2 ((⟨b, 0, none⟩ : Addr).add 2) (.slice x2 x2L x2C) fun g3 => Wr g3 ((⟨b, 0, none⟩ : Addr).add 3) (.int .i64 x3) fun g4 => Wr g4 ((⟨b, 0, none⟩ : Addr).add 4) (.int .i64 x4) fun g5 => Wr g5 ((⟨b, 0, none⟩ : Addr).add 5) (.slice x5 x5L x5C) fun g6 => Wr g6 ((⟨b, 0, none⟩ : Addr).add 6) (.int .i64 x6) fun g7 => Wr g7 ((⟨b, 0, none⟩ : Addr).add 7) (.int .i64 x7) fun g8 => Q b g8 :=
  cpEv s r.1 ei hi (by rw [yafj (by rw [r.len]; exact hi)]; exact hq)
theorem EvsR.ld {h : Hp} {p : OA} {n : Nat} {l : List Ev} {i : Int} {i' : Nat} {Q : Int → Int → OA → Nat → Nat → Int → Int → OA → Nat → Nat → Int → Int → Prop} (r : EvsR h p n l) (ei : i = (i' : Int)) (hi : i' < n) (hq : Q (l.getD i' dEv).t.th (l.getD i' dEv).t.co (l.getD i' dEv).t.ar.1 (l.getD i' dEv).t.ar.2.1 (l.getD i' dEv).t.ar.2.2 (l.getD i' dEv).t.er (l.getD i' dEv).t.nu (l.getD i' dEv).t.li.1 (l.getD i' dEv).t.li.2.1 (l.getD i' dEv).t.li.2.2 (l.getD i' dEv).t.bg (l.getD i' dEv).t.en) :
    (0 ≤ i ∧ i < (n : Int)) ∧ NN p fun a => ∃ x0 : Int, ∃ x1 : Int, ∃ (x2 : OA) (x2L x2C : Nat), ∃ x3 : Int, ∃ x4 : Int, ∃ (x5 : OA) (x5L x5C : Nat), ∃ x6 : Int, ∃ x7, cell h (a.add (Int.toNat i * 8)) = some (.int .i64 x0) ∧ cell h ((a.add (Int.toNat i * 8)).add 1) = some (.int .i64 x1) ∧ cell h ((a.add (Int.toNat i * 8)).add 2) = some (.slice x2 x2L x2C) ∧ cell h ((a.add (Int.toNat i * 8)).add 3) = some (.int .i64 x3) ∧ cell h ((a.add (Int.toNat i * 8)).add 4) = some (.int .i64 x4) ∧ cell h ((a.add (Int.toNat i * 8)).add 5) = some (.slice x5 x5L x5C) ∧ cell h ((a.add (Int.toNat i * 8)).add 6) = some (.int .i64 x6) ∧ cell h ((a.add (Int.toNat i * 8)).add 7) = some (.int .i64 x7) ∧ Q x0 x1 x2 x2L x2C x3 x4 x5 x5L x5C x6 x7 :=
  ldEV r.1 ei hi (by rw [yafj (by rw [r.len]; exact hi)]; exact hq)
theorem EvsR.at_ {h : Hp} {p : OA} {n : Nat} {l : List Ev} {i : Nat} (r : EvsR h p n l) (hi : i < n) : EvM h (l.getD i dEv) := r.2 _ (yaap (by rw [r.len]; exact hi))
theorem yadd (x : EvT) (h : Hp) : yaah Tryz.prog 47 #[encEv x] h (fun v h' => v = .bool (decide (0 ≤ x.en)) ∧ Ext h h') := by
  refine zap_call ?_
  rw [zap_b0]
  exact (St.start h).new (cs := evC x) fun b h1 x1 s => ⟨_, s.blk.cell 7, rfl, x1⟩
theorem yaeb (x y : EvT) (h : Hp) : yaah Tryz.prog 45 #[encEv x, encEv y] h (fun v h' => v = .bool (decide (precT x y)) ∧ Ext h h') := by
  refine zaw_call ?_
  rw [zaw_b0]
  refine (St.start h).new (cs := evC x) fun b1 h1 _ s => s.new (cs := evC y) fun b2 h2 _ s => ldEvB s.atomBlk ((yadd _ _).mono fun v h3 ⟨hv, x3⟩ => ⟨_, hv, ?_⟩)
  have s := s.grow x3
  refine condP (fun hc => ?_) (fun hc => ⟨?_, s.ext⟩)
  · exact ⟨_, s.atomBlk.cell 7, _, s.blk.cell 6, by rw [show decide (precT x y) = decide (x.en < y.bg) from decide_eq_decide.2 ⟨fun h => h.2, fun h => ⟨hc, h⟩⟩], s.ext⟩
  · rw [decide_eq_false fun h => hc h.1]
theorem yale {a b c d : Int} {p q : OA} {n m k l : Nat} {xs ys : List Int} {h : Hp} (r1 : RdT TI h p n xs) (r2 : RdT TI h q m ys) (hn : n ≤ 1000000) :
    yaah Tryz.prog 48 #[.agg #[.int .i64 a, .int .i64 b, .slice p n k], .agg #[.int .i64 c, .int .i64 d, .slice q m l]] h (fun v h' => v = .bool (decide (a = c ∧ b = d ∧ xs = ys)) ∧ Ext h h') := by
  refine zax_call ?_
  rw [zax_b0]
  refine (St.start h).new (cs := [.int .i64 a, .int .i64 b, .slice p n k]) fun b1 h1 _ s => s.new (cs := [.int .i64 c, .int .i64 d, .slice q m l]) fun b2 h2 _ s => ?_
  refine ⟨_, s.atomBlk.cell 0, _, s.blk.cell 0, condP (fun h1 => ?_) (fun h1 => ⟨by rw [decide_eq_false fun h => h1 h.1], s.ext⟩)⟩
  refine ⟨_, s.atomBlk.cell 1, _, s.blk.cell 1, condP (fun h2 => ?_) (fun h2 => ⟨by rw [decide_eq_false fun h => h2 h.2.1], s.ext⟩)⟩
  refine ⟨_, _, _, s.atomBlk.cell 2, _, _, _, s.blk.cell 2, (yass (r1.ext s.ext) (r2.ext s.ext) (by omega)).mono fun v h3 ⟨hh, hv⟩ => ⟨_, hv, ?_, hh ▸ s.ext⟩⟩
  rw [decide_eq_decide.2 (⟨fun h => ⟨h1, h2, h⟩, fun h => h.2.2⟩ : xs = ys ↔ a = c ∧ b = d ∧ xs = ys)]
theorem yalz {h : Hp} {p : OA} {n c : Nat} {l : List Ev} {f : Value} {g : Ev → Bool} (r : EvsR h p n l) (hn : n ≤ 1000000)
    (hf : ∀ e ∈ l, ∀ (h1 : Hp) (K : VK), Ext h h1 → (∀ h', Ext h1 h' → K (.bool (g e)) h') → funV f fun fg fa fc => callX Tryz.prog F fg (fa ++ (([encEv e.t] : List Value) ++ fc)).toArray h1 K) :
    yaah Tryz.prog 30 #[.slice p n c, f] h (fun v h' => v = .bool (l.any g) ∧ Ext h h') := by
  have hl := r.len
  refine zcn_call ?_
  rw [zcn_b0]
  refine zct_call ?_
  rw [zct_b0]
  refine ⟨fun s h' => Ext h h' ∧ ∃ i : Nat, s.1 = i ∧ i ≤ n ∧ (l.take i).any g = false, fun s _ => n - s.1.toNat, ⟨Ext.refl h, 0, rfl, by omega, rfl⟩, ?_⟩
  rintro ⟨_, _⟩ h1 ⟨x1, i, rfl, hin, hno⟩
  dsimp only
  rw [zct_b1]
  refine condP (fun hlt => ?_) (fun hge => ?_)
  · have hi : i < l.length := by omega
    refine (r.ext x1).ld rfl (by omega) (hf _ (yaap hi) h1 _ x1 fun h2 x2 => ⟨_, rfl, yaat (fun hy => ?_) (fun hy => ?_)⟩)
    · refine ⟨_, rfl, ?_, x1.trans x2⟩
      rw [List.any_eq_true.2 ⟨_, yaap hi, hy⟩, decide_eq_true (by omega)]
    · rw [zct_b2]
      refine ⟨⟨by omega, by omega⟩, ⟨x1.trans x2, i + 1, by simp only; omega, by omega, ?_⟩, by simp only; omega⟩
      rw [yaaf hi] at hy
      rw [List.take_succ_eq_append_getElem hi, List.any_append, hno]
      simp [hy]
  · rw [zct_b3]
    rw [List.take_of_length_le (by omega)] at hno
    exact ⟨_, rfl, by rw [hno]; rfl, x1⟩
instance (k : Int) (l : List Ev) : Decidable (KindP k l) := inferInstanceAs (Decidable (∀ e ∈ l, _))
theorem of_ok {h : Hp} {p : OA} {n c : Nat} {l : List Ev} {k : Int} (r : EvsR h p n l) (hn : n ≤ 1000000) :
    yaah Tryz.prog 52 #[.int .i64 k, .slice p n c] h (fun v h' => v = .bool (decide (KindP k l)) ∧ Ext h h') := by
  refine zau_call ?_
  rw [zau_b0]
  refine (St.start h).new (cs := [.int .i64 k]) fun b1 h1 x1 s => ?_
  refine (yalz (g := fun e => !decide (OpV k e.t.co e.zs)) (r.ext x1) hn fun e he h2 K x2 hK => ?_).mono fun v h2 ⟨hv, x2⟩ => ⟨_, hv, ?_, x1.trans x2⟩
  · refine yahq (args' := #[encEv e.t, .pointer (some ⟨b1, 0, none⟩)]) (by kernel_rfl) ?_ rfl
    refine zav_call ?_
    rw [zav_b0]
    refine (St.start h2).new (cs := evC e.t) fun b2 h3 x3 t => ?_
    have k1 := (s.blk.ext x2).ext x3
    refine yaan rfl ⟨_, k1.cell 0, _, _, _, _, t.blk.cell 1, t.blk.cell 2, (yasd (((r.2 e he).1.1.ext x1).ext (x2.trans x3))).mono fun v h4 ⟨hv, x4⟩ => ⟨_, hv, hK h4 (x3.trans x4)⟩⟩
  · congr 1
    by_cases hk : KindP k l
    · rw [decide_eq_true hk, Bool.not_eq_true', List.any_eq_false]
      exact fun e he => by rw [decide_eq_true (hk e he)]; decide
    · rw [decide_eq_false hk, Bool.not_eq_false', List.any_eq_true]
      refine Decidable.byContradiction fun hn => hk fun e he => Decidable.byContradiction fun h2 => hn ⟨e, he, ?_⟩
      rw [decide_eq_false h2]; rfl
abbrev TB : Ty Bool := ⟨4, 1, fun b => [.bool b], false, fun _ => rfl, by decide, fun _ v hv => by simp at hv; rw [hv]; rfl⟩
theorem ybce {α : Type} {R : α → α → Prop} {d : α} {l : List α} {i j : Nat} (h : l.Pairwise R) (hij : i < j) (hj : j < l.length) : R (l.getD i d) (l.getD j d) := by
  rw [yaaf (by omega), yaaf hj]
  exact List.pairwise_iff_getElem.1 h i j _ hj hij
section
variable {h : Hp} {p : OA} {n c : Nat} {l : List Ev} {k : Int}
end
def yadq (l : List Ev) : Prop := ∃ k, (1 ≤ k ∧ k ≤ 6) ∧ HistK k l
def LastP (l : List Ev) (la : List Int) (i : Nat) : Prop := la.length = 8 ∧ ∀ t : Nat, t < 8 →
  (la.getD t 0 = -1 ∧ ∀ j, j < i → (l.getD j dEv).t.th ≠ (t : Int)) ∨
  ∃ k, k < i ∧ la.getD t 0 = (k : Int) ∧ (l.getD k dEv).t.th = (t : Int) ∧ ∀ j, k < j → j < i → (l.getD j dEv).t.th ≠ (t : Int)
theorem LastP.set {l : List Ev} {la : List Int} {i t : Nat} (h : LastP l la i) (ht : (l.getD i dEv).t.th = (t : Int)) (h8 : t < 8) : LastP l (la.set t (i : Int)) (i + 1) := by
  obtain ⟨hl, h⟩ := h
  refine ⟨by rw [List.length_set]; exact hl, fun u hu => ?_⟩
  rw [yade (by omega)]
  by_cases e : u = t
  · subst e
    rw [if_pos rfl]
    exact .inr ⟨i, by omega, rfl, ht, fun j h1 h2 => by omega⟩
  · rw [if_neg e]
    rcases h u hu with ⟨h1, h2⟩ | ⟨k, h1, h2, h3, h4⟩
    · refine .inl ⟨h1, fun j hj => ?_⟩
      rcases Nat.lt_or_ge j i with h5 | h5
      · exact h2 j h5
      · obtain rfl : j = i := by omega
        rw [ht]; omega
    · refine .inr ⟨k, by omega, h2, h3, fun j h5 h6 => ?_⟩
      rcases Nat.lt_or_ge j i with h7 | h7
      · exact h4 j h5 h7
      · obtain rfl : j = i := by omega
        rw [ht]; omega
abbrev arrI (la : List Int) : List Value := la.map (Value.int .i64)
section
variable {h : Hp} {p : OA} {n c : Nat} {l : List Ev}
theorem ldArr {h0 h : Hp} {b m : Nat} {la : List Int} {F : Bag} {e : TypeId} {x : Int} {t : Nat} {Q : Int → Prop} (s : St h0 h (cA b (arrI la) e + F)) (hm : la.length = m) (hx : x = (t : Int)) (ht : t < m) (hq : Q (la.getD t 0)) :
    (0 ≤ x ∧ x < ((m : Nat) : Int)) ∧ NN (some ⟨b, 0, none⟩) fun a => ∃ z, cell h (a.add (Int.toNat x * 1)) = some (.int .i64 z) ∧ Q z := by
  subst hx
  refine ⟨⟨by omega, by omega⟩, yaan rfl ⟨_, ?_, hq⟩⟩
  rw [Int.toNat_natCast, Nat.mul_one, Blk.cellA s.blk t, List.getElem?_map, List.getElem?_eq_getElem (by omega), yaaf (by omega)]
  rfl
theorem wrArr {h0 h : Hp} {b m : Nat} {la : List Int} {F : Bag} {e : TypeId} {x v : Int} {t : Nat} {k : Hp → Prop} (s : St h0 h (cA b (arrI la) e + F)) (hm : la.length = m) (hx : x = (t : Int)) (ht : t < m) (hk : ∀ h', St h0 h' (cA b (arrI (la.set t v)) e + F) → k h') :
    (0 ≤ x ∧ x < ((m : Nat) : Int)) ∧ NN (some ⟨b, 0, none⟩) fun a => Wr h (a.add (Int.toNat x * 1)) (.int .i64 v) k := by
  subst hx
  refine ⟨⟨by omega, by omega⟩, yaan rfl ?_⟩
  refine s.wr (o := t) (by rw [Int.toNat_natCast, Nat.mul_one, yabj, Nat.zero_add]) (by rw [List.length_map]; omega) fun h' s' => hk h' ?_
  rwa [← List.map_set] at s'
theorem yaxr {h2 : Hp} {b1 b2 i : Nat} {la : List Int} {nx0 : Int × Unit → Hp → Prop} (r : EvsR h p n l) (hn : n ≤ 1000) (hi : i < n) (o1 : ∀ j, j ≤ i → One (l.getD j dEv)) (i2 : ∀ b, b < i → ∀ a, a < b → ThrP (l.getD a dEv) (l.getD b dEv))
    (s : St h h2 (cA b2 (evC (l.getD i dEv).t) 60 + (cA b1 (arrI la) 93 + 0))) (hla : LastP l la i)
    (hnx : ∀ h3 la', St h h3 (cA b1 (arrI la') 93 + 0) → LastP l la' (i + 1) → (∀ a, a < i → ThrP (l.getD a dEv) (l.getD i dEv)) → nx0 ((i : Int) + 1, ()) h3) :
    zan_b5 p n c (some ⟨b1, 0, none⟩) (i : Int) (some ⟨b2, 0, none⟩) p n c (n : Int) (i : Int) h2 nx0 (VP (yadq l) h) := by
  have hl := r.len
  obtain ⟨t, ht⟩ : ∃ t : Nat, (l.getD i dEv).t.th = (t : Int) := ⟨_, (Int.toNat_of_nonneg (o1 i (Nat.le_refl _)).1.1).symm⟩
  have h8 : t < 8 := by have := (o1 i (Nat.le_refl _)).1.2; omega
  have b7 : ∀ h3, Ext h2 h3 → (∀ a, a < i → ThrP (l.getD a dEv) (l.getD i dEv)) → zan_b7 p n c (some ⟨b1, 0, none⟩) (i : Int) (some ⟨b2, 0, none⟩) p n c (n : Int) (i : Int) h3 nx0 (VP (yadq l) h) := fun h3 x3 ha => by
    have s3 := s.grow x3
    rw [zan_b7]
    refine yaan rfl ⟨_, s3.blk.cell 0, ?_⟩
    refine wrArr (t := t) (s3.to (B := cA b1 (arrI la) 93 + (cA b2 (evC (l.getD i dEv).t) 60 + 0))) hla.1 ht h8 fun h4 s4 => ?_
    rw [zan_b9]
    exact ⟨⟨by omega, by omega⟩, hnx h4 _ (s4.to (B := cA b2 (evC (l.getD i dEv).t) 60 + (cA b1 (arrI (la.set t (i : Int))) 93 + 0))).drop (hla.set ht h8) ha⟩
  rw [zan_b5]
  refine yaan rfl ⟨_, s.blk.cell 0, ?_⟩
  refine ldArr (t := t) (s.to (B := cA b1 (arrI la) 93 + (cA b2 (evC (l.getD i dEv).t) 60 + 0))) hla.1 ht h8 ?_
  rcases hla.2 t h8 with ⟨h1, hno⟩ | ⟨k, hk, h1, h3, hno⟩
  · rw [h1]
    refine yaau rfl (b7 h2 (Ext.refl _) fun a ha e => absurd (e.trans ht) (hno a ha))
  · rw [h1]
    refine yaax (decide_eq_true (by omega)) ((r.ext s.ext).ld rfl (by omega) (yaan rfl (ldEvB s.blk ((yaeb _ _ _).mono fun v h4 ⟨hv, x4⟩ => ⟨_, hv, condN (fun hnp => VP.no (fun o => ?_) (s.ext.trans x4)) (fun hy => b7 h4 x4 fun a ha e => ?_)⟩))))
    · obtain ⟨_, _, o⟩ := o
      exact hnp (ybce o.2.2.1 hk (by omega) (h3.trans ht.symm))
    · rcases Nat.lt_trichotomy a k with h5 | h5 | h5
      · exact yask (o1 k (by omega)) (i2 k hk a h5 ((e.trans ht).trans h3.symm)) hy
      · subst h5; exact hy
      · exact absurd (e.trans ht) (hno a h5 ha)
theorem yaqa (r : EvsR h p n l) (sm : Sm l) : yaah Tryz.prog 18 #[.slice p n c] h (VP (yadq l) h) := by
  have hl := r.len
  refine zan_call ?_
  rw [zan_b0]
  refine condP (fun hc => VP.no (fun ⟨_, _, o⟩ => by have := o.1; omega) (Ext.refl _)) (fun hn => ?_)
  have hn : n ≤ 1000 := by omega
  refine (St.start h).new (cs := arrI [0, 0, 0, 0, 0, 0, 0, 0]) fun b1 h1 _ s => s.wr0 fun _ u => u.wrB fun _ u => u.wrB fun _ u => u.wrB fun _ u => u.wrB fun _ u => u.wrB fun _ u => u.wrB fun _ u => u.wrB fun h9 s9 => ?_
  have s9 : St h h9 (cA b1 (arrI [0, 0, 0, 0, 0, 0, 0, 0]) 93 + 0) := s9
  refine ⟨fun x h' => ∃ (t : Nat) (la : List Int), x.1 = (t : Int) ∧ t ≤ 8 ∧ la.length = 8 ∧ (∀ j, j < t → la.getD j 0 = -1) ∧ St h h' (cA b1 (arrI la) 93 + 0), fun x _ => 8 - x.1.toNat, ⟨0, _, rfl, by omega, rfl, fun j hj => absurd hj (by omega), s9⟩, ?_⟩
  rintro ⟨_, _⟩ h10 ⟨t, la, rfl, ht, hl8, h1, s10⟩
  dsimp only
  rw [zan_b1]
  refine condP (fun hlt => ?_) (fun hge => ?_)
  · refine wrArr (t := t) s10 hl8 rfl (by omega) fun h11 s11 => ?_
    rw [zan_b2]
    refine ⟨⟨by omega, by omega⟩, ⟨t + 1, _, by push_cast; rfl, by omega, by rw [List.length_set]; exact hl8, fun j hj => ?_, s11⟩, by simp only; omega⟩
    rw [yade (by omega)]
    by_cases e : j = t
    · rw [if_pos e]
    · rw [if_neg e]; exact h1 j (by omega)
  rw [zan_b3]
  have hla : LastP l la 0 := ⟨hl8, fun t ht => .inl ⟨h1 t (by omega), fun j hj => absurd hj (by omega)⟩⟩
  refine ⟨fun x h' => ∃ (i : Nat) (la : List Int), x.1 = (i : Int) ∧ i ≤ n ∧ LastP l la i ∧ (∀ j, j < i → One (l.getD j dEv)) ∧ (∀ b, b < i → ∀ a, a < b → ThrP (l.getD a dEv) (l.getD b dEv)) ∧ St h h' (cA b1 (arrI la) 93 + 0), fun x _ => n - x.1.toNat, ⟨0, la, rfl, by omega, hla, fun j hj => absurd hj (by omega), fun b hb => absurd hb (by omega), s10⟩, ?_⟩
  rintro ⟨_, _⟩ h12 ⟨i, la, rfl, hin, hla, i1, i2, s12⟩
  dsimp only
  rw [zan_b4]
  refine condP (fun hlt => ?_) (fun hge => ?_)
  · have hi : i < n := by omega
    have hm : l.getD i dEv ∈ l := yaap (by omega)
    refine (r.ext s12.ext).cp s12 rfl hi fun b2 h13 _ s13 => ?_
    have em : EvM h13 (l.getD i dEv) := (r.2 _ hm).ext s13.ext
    have hsl := (sm _ hm).2
    have hll := em.2.1.len
    have kb := s13.blk
    obtain ⟨nx, hnx⟩ : ∃ nx : Int × Unit → Hp → Prop, nx = fun s' h' => (∃ (i : Nat) (la : List Int), s'.1 = (i : Int) ∧ i ≤ n ∧ LastP l la i ∧ (∀ j, j < i → One (l.getD j dEv)) ∧ (∀ b, b < i → ∀ a, a < b → ThrP (l.getD a dEv) (l.getD b dEv)) ∧ St h h' (cA b1 (arrI la) 93 + 0)) ∧ n - s'.1.toNat < n - ((i : Nat) : Int).toNat := ⟨_, rfl⟩
    rw [← hnx]
    have b5 : ∀ h14, Ext h13 h14 → One (l.getD i dEv) → zan_b5 p n c (some ⟨b1, 0, none⟩) (i : Int) (some ⟨b2, 0, none⟩) p n c (n : Int) (i : Int) h14 nx (VP (yadq l) h) := fun h14 x14 ho => by
      refine yaxr r hn hi (fun j hj => ?_) i2 (s13.grow x14) hla fun h15 la' s15 hla' hth => ?_
      · rcases Nat.lt_or_ge j i with h | h
        · exact i1 j h
        · obtain rfl : j = i := by omega
          exact ho
      · rw [hnx]
        refine ⟨⟨i + 1, la', by push_cast; rfl, by omega, hla', fun j hj => ?_, fun b hb a ha => ?_, s15⟩, by simp only; omega⟩
        · rcases Nat.lt_or_ge j i with h | h
          · exact i1 j h
          · obtain rfl : j = i := by omega
            exact ho
        · rcases Nat.lt_or_ge b i with h | h
          · exact i2 b h a ha
          · obtain rfl : b = i := by omega
            exact hth a ha
    have no : ∀ h14, Ext h13 h14 → ¬ One (l.getD i dEv) → VP (yadq l) h (.bool false) h14 := fun h14 x14 ho => VP.no (fun ⟨_, _, o⟩ => ho (o.2.1 _ hm)) (s13.ext.trans x14)
    have b3 : (0 ≤ (l.getD i dEv).t.th ∧ (l.getD i dEv).t.th < 8) → (0 ≤ (l.getD i dEv).t.bg ∧ (l.getD i dEv).t.bg ≤ 65536) → (l.getD i dEv).t.en = -1 → yaah Tryz.prog 48 #[.agg #[.int .i64 (l.getD i dEv).t.er, .int .i64 (l.getD i dEv).t.nu, .slice (l.getD i dEv).t.li.1 (l.getD i dEv).t.li.2.1 (l.getD i dEv).t.li.2.2], .agg #[.int .i64 0, .int .i64 0, .slice none 0 0]] h13 (fun v1 h22 => ∃ r1 : Bool, v1 = .bool r1 ∧ cond (!r1) (VP (yadq l) h (.bool false) h22) (zan_b5 p n c (some ⟨b1, 0, none⟩) (i : Int) (some ⟨b2, 0, none⟩) p n c (n : Int) (i : Int) h22 nx (VP (yadq l) h))) := fun o1 o2 hen => by
      refine (yale em.2.1 (RdT.nil h13 none) (by omega)).mono fun v h22 ⟨hv, x22⟩ => ⟨_, hv, condN (fun hno => no h22 x22 fun o => hno (o.2.2.2 hen)) (fun hy => b5 h22 x22 ⟨o1, o2, .inl hen, fun _ => hy⟩)⟩
    refine ⟨_, kb.cell 0, condP (fun hc => no _ (Ext.refl _) fun o => absurd o.1.1 (by omega)) (fun c1 => ⟨_, kb.cell 0, condP (fun hc => no _ (Ext.refl _) fun o => absurd o.1.2 (by omega)) (fun c2 => ⟨_, kb.cell 6, condP (fun hc => no _ (Ext.refl _) fun o => absurd o.2.1.1 (by omega)) (fun c3 => ⟨_, kb.cell 6, condP (fun hc => no _ (Ext.refl _) fun o => absurd o.2.1.2 (by omega)) (fun c4 => ⟨_, kb.cell 7, ?_⟩)⟩)⟩)⟩)⟩
    refine condN (fun hne => ⟨_, kb.cell 7, _, kb.cell 6, condP (fun hc => no _ (Ext.refl _) fun o => by have := o.2.2.1; omega) (fun c5 => ⟨_, kb.cell 7, condP (fun hc => no _ (Ext.refl _) fun o => by have := o.2.2.1; omega) (fun c6 => ⟨_, kb.cell 7, condP (fun h => absurd h hne) (fun _ => b5 _ (Ext.refl _) ⟨⟨by omega, by omega⟩, ⟨by omega, by omega⟩, .inr ⟨by omega, by omega⟩, fun h => absurd h hne⟩)⟩)⟩)⟩) (fun hen => ⟨_, kb.cell 7, condP (fun _ => ⟨_, _, _, _, _, kb.cell 3, kb.cell 4, kb.cell 5, b3 ⟨by omega, by omega⟩ ⟨by omega, by omega⟩ hen⟩) (fun h => absurd hen h)⟩)
  · obtain rfl : i = n := by omega
    have hone : ∀ e ∈ l, One e := fun e he => by
      obtain ⟨j, hj, rfl⟩ := List.mem_iff_getElem.1 he
      have := i1 j (by omega)
      rwa [yaaf hj] at this
    have hpw : l.Pairwise ThrP := List.pairwise_iff_getElem.2 fun a b ha hb hab => by
      have := i2 b (by omega) a hab
      rwa [yaaf ha, yaaf hb] at this
    rw [zan_b6]
    refine condP (fun h0 => VP.yes ⟨1, by decide, by omega, hone, hpw, fun e he => ?_⟩ s12.ext) (fun h0 => ?_)
    · have : l = [] := List.length_eq_zero_iff.1 (by omega)
      rw [this] at he; cases he
    refine ⟨fun x h' => (1 ≤ x.1 ∧ x.1 ≤ 7) ∧ Ext h h' ∧ ∀ k, 1 ≤ k → k < x.1 → ¬ KindP k l, fun x _ => (7 - x.1).toNat, ⟨by decide, s12.ext, fun k h1 h2 => by dsimp only at h2; omega⟩, ?_⟩
    rintro ⟨k, _⟩ h14 ⟨hk, x14, i3⟩
    dsimp only at hk i3 ⊢
    rw [zan_b8]
    refine condP (fun hlt => ?_) (fun hge => ?_)
    · refine (of_ok (r.ext x14) (by omega)).mono fun v h15 ⟨hv, x15⟩ => ⟨_, hv, condP (fun hy => VP.yes ⟨k, ⟨hk.1, hlt⟩, by omega, hone, hpw, hy⟩ (x14.trans x15)) (fun hno => ?_)⟩
      rw [zan_b10]
      refine ⟨⟨by omega, by omega⟩, ⟨by simp only; omega, x14.trans x15, fun k' h3 h4 => ?_⟩, by simp only; omega⟩
      dsimp only at h4
      rcases Int.lt_or_le k' k with h5 | h5
      · exact i3 k' h3 h5
      · obtain rfl : k' = k := by omega
        exact hno
    · rw [zan_b11]
      exact VP.no (fun ⟨k', h2, h3⟩ => i3 k' h2.1 (by omega) h3.2.2.2) x14
end
section
variable {h : Hp} {p : OA} {n c : Nat} {l : List Ev}
end
theorem ok_ev : ElOk tEv Tryz.prog 25 := yafi (by kernel_rfl)
theorem yapq {h : Hp} {p : OA} {n c : Nat} {xs : List EvT} (r : RdT tEv h p n xs) (hn : n < 1000000) :
    yaah Tryz.prog 49 #[.slice p n c] h (fun v h' => ∃ q d A, v = .slice q n d ∧ Sl tEv q n d xs A ∧ St h h' A) := by
  refine zcj_call ?_
  rw [zcj_b0]
  refine yaat (fun h1 => ?_) (fun h1 => ?_)
  · have hp : p = none := by cases p with | none => rfl | some a => cases h1
    subst hp
    obtain rfl : n = 0 := by
      rcases r.2 with h2 | ⟨a, h2, _⟩
      · exact h2
      · cases h2
    have : xs = [] := List.eq_nil_of_length_eq_zero r.1
    subst this
    exact ⟨_, _, 0, rfl, Sl.nil, St.start h⟩
  · refine (St.start h).new (cs := []) fun b h1 x s1 => ?_
    have o : Sl tEv (some ⟨b, 0, none⟩) 0 0 [] (cA b [] tEv.e) := Sl.of_blk rfl rfl
    refine yacb ok_ev s1 o (r.ext x) (by omega) fun p' c' h' A' a' s' => ?_
    rw [List.nil_append, Nat.zero_add] at a'
    rw [Nat.zero_add]
    exact ⟨_, _, A', rfl, a', s'.to⟩
abbrev cfBg (x y : EvT) : Int := x.bg - y.bg
theorem ordBg : OrdP (fun x y : EvT => cfBg x y < 0) := ⟨fun x y h1 h2 => by unfold cfBg at *; omega, fun x y z h1 h2 => by unfold cfBg at *; omega⟩
theorem cmpBg (h0 : Hp) : CmpEV h0 (.func (.func 51) #[] #[]) cfBg (fun x => 0 ≤ x.bg ∧ x.bg ≤ 65536) := fun x y h K _ hx hy hK => by
  refine yahq (args' := #[encEv x, encEv y]) (by kernel_rfl) ?_ rfl
  refine zam_call ?_
  rw [zam_b0]
  exact (St.start h).new (cs := evC x) fun b1 h1 _ s => s.new (cs := evC y) fun b2 h2 _ s => ⟨_, s.atomBlk.cell 6, _, s.blk.cell 6, ⟨by omega, by omega⟩, hK _ s.ext⟩
section
variable {h : Hp} {p : OA} {n c : Nat} {l : List Ev}
theorem yazu (r : EvsR h p n l) (sm : Sm l) : yaah Tryz.prog 17 #[.slice p n c] h (fun v h' => Ext h h' ∧
    ((¬ yadq l ∧ v = .tuple #[.bool false, .int .i64 1]) ∨ (yadq l ∧ ∃ bb, v = .tuple #[.bool bb, .int .i64 0] ∧ (bb = true ↔ SeqT (l.map Ev.t))))) := by
  have hl := r.len
  refine zal_call ?_
  rw [zal_b0]
  refine (yaqa r sm).mono fun v h1 ⟨⟨bb, hv, hbb⟩, x1⟩ => ⟨_, hv, yaat (fun hno => ⟨x1, .inl ⟨fun o => (by rw [hbb.2 o] at hno; cases hno), rfl⟩⟩) (fun hyes => ?_)⟩
  have hv : yadq l := hbb.1 (by simpa using hyes)
  have hv' := hv
  obtain ⟨_, _, hn, hone, _⟩ := hv'
  refine (yapq (r.1.ext x1) (by omega)).mono fun v h2 ⟨q, d, A, hv2, o2, s2⟩ => ⟨_, _, _, hv2, ?_⟩
  refine (ybbl (F := 0) (cmpBg h1) ordBg (by rw [Bag.add_zero]; exact s2) o2 (fun k hk => ?_) (by omega)).mono fun v h3 ⟨hv3, ys, A', o3, s3, hp, hs⟩ => ⟨hv3, ?_⟩
  · rw [yafj (by omega)]
    exact (hone _ (yaap (by omega))).2.1
  have key := yapp hp (fun e he => by obtain ⟨x, hx, rfl⟩ := List.mem_map.1 he; exact (hone x hx).one) (hs.imp fun h => by unfold cfBg at h; omega)
  rw [o3.len] at key
  refine ⟨fun x h' => ∃ i : Nat, x.1 = (i : Int) ∧ 1 ≤ i ∧ (∀ j, j + 1 < i → precT (ys.getD j tEv.d) (ys.getD (j + 1) tEv.d)) ∧ St h1 h' (A' + 0), fun x _ => n - x.1.toNat, ⟨1, rfl, Nat.le_refl _, fun j hj => absurd hj (by omega), s3⟩, ?_⟩
  rintro ⟨_, _⟩ h4 ⟨i, rfl, hi, i1, s4⟩
  dsimp only
  rw [zal_b1]
  refine condP (fun hlt => ?_) (fun hge => ?_)
  · refine ⟨⟨by omega, by omega⟩, ldEV (o3.rd s4) (i' := i - 1) (by omega) (by omega) (ldEV (o3.rd s4) rfl (by omega) ((yaeb _ _ _).mono fun v h5 ⟨hv5, x5⟩ => ⟨_, hv5, condN (fun hno => ?_) (fun hy => ?_)⟩))⟩
    · refine ⟨x1.trans (s4.grow x5).ext, .inr ⟨hv, false, rfl, fun h => (by cases h), fun h => ?_⟩⟩
      have := key.2 h (i - 1) (by omega)
      rw [show i - 1 + 1 = i by omega] at this
      exact absurd this hno
    · rw [zal_b2]
      refine ⟨⟨by omega, by omega⟩, ⟨i + 1, by push_cast; rfl, by omega, fun j hj => ?_, s4.grow x5⟩, by simp only; omega⟩
      rcases Nat.lt_or_ge (j + 1) i with h | h
      · exact i1 j h
      · obtain rfl : j = i - 1 := by omega
        rw [show i - 1 + 1 = i by omega]
        exact hy
  · rw [zal_b3]
    exact ⟨x1.trans s4.ext, .inr ⟨hv, true, rfl, fun _ => key.1 fun j hj => i1 j (by omega), fun _ => rfl⟩⟩
end
abbrev ybag (h0 : Hp) : Prop := ∀ h : Hp, Ext h0 h → yaah Tryz.prog 7 #[] h (fun v h' => v = .bool true ∧ Ext h h')
abbrev TrueP (h : Hp) : VK := fun v h' => v = .bool true ∧ Ext h h'
theorem yaes (h : Hp) : RowsR h none 0 [] := ⟨rfl, [], RdT.nil h none, fun i hi => absurd hi (by omega)⟩
end Go.Proofs.YtllhdhpjgihjfaaGreatDoor
namespace Go.Proofs
open Go.Shelf
shelf_lay LaysM.n176 Nm 176 at Tryz as Tryz.laysM176
open Go.RowKit Go.Lib in
theorem Tryz.strconv_AppendInt (B n : Nat) (i : Int) (h0 : -9223372036854775808 ≤ i) (h1 : i ≤ 9223372036854775807) (sv : Value) (xs : List Value) (w : World) (hown : w.ownsRow B 5 1 sv n xs) (hBw : B ≤ w.heap.size) (hlim : n + 21 ≤ 140737488355328)
    (htab : Lib.TabBelow Tryz.prog B w "internal/strconv.uint64pow10" .u64 Lib.pow10Tab) :
    Calls Tryz.prog 99 #[sv, .int .i64 i, .int .i64 10] w fun e w' => ∃ v', e = .returned v' ∧ w'.ownsRow B 5 1 v' (n + (Lib.itoa i).length) (xs ++ Lib.byteCells (Lib.itoa i)) ∧ Below B w w' ∧ Lib.OthersKept 5 none w w' :=
  Any.strconv_AppendInt_10 Tryz.laysM176 B n i h0 h1 sv xs w hown hBw hlim htab
end Go.Proofs
namespace Go.Proofs.YtllhdhpjgihjfaaGreatDoor
open Go Go.Sx Go.Lib
abbrev tU8 : Ty UInt8 := ⟨5, 1, fun b => [byteV b], 0, fun _ => rfl, by decide, fun _ v hv => by simp at hv; rw [hv]; rfl⟩
theorem ok_u8 : ElOk tU8 Tryz.prog 124 := yafi (by kernel_rfl)
theorem yamx (xs : List UInt8) : tU8.cells xs = xs.map byteV := by
  induction xs with
  | nil => rfl
  | cons a xs ih => rw [Ty.cells_cons, ih]; rfl
def Tab10 (h : Hp) : Prop := ∃ (g : Nat) (e : TypeId) (fz : Nat × Nat), Tryz.prog.globalNamed "internal/strconv.uint64pow10" = some g ∧ h[g]? = some (.cells (Lib.pow10Tab.map fun z => Value.int .u64 z).toArray e fz)
theorem Tab10.ext {h h' : Hp} (t : Tab10 h) (x : Ext h h') : Tab10 h' := let ⟨g, e, fz, h1, h2⟩ := t; ⟨g, e, fz, h1, x.get h2⟩
theorem yagz {h0 h : Hp} {p : OA} {n c b1 : Nat} {xs : List UInt8} {A : Bag} {cs : List Value} {e : TypeId} {i : Int} (tab : Tab10 h0) (he : e ≠ 5) (hi : -9223372036854775808 ≤ i ∧ i ≤ 9223372036854775807) (hn : n ≤ 1000000000) (hc : c ≤ 9223372036854775807)
    (a : Sl tU8 p n c xs A) (s : St h0 h (A + cA b1 cs e)) :
    yaah Tryz.prog 99 #[.slice p n c, .int .i64 i, .int .i64 10] h (fun v h' => ∃ q d A', v = .slice q (n + (itoa i).length) d ∧ d ≤ 9223372036854775807 ∧ Sl tU8 q (n + (itoa i).length) d (xs ++ itoa i) A' ∧ St h0 h' (A' + cA b1 cs e)) := by
  intro w hw
  subst hw
  have hs := s.ext
  obtain ⟨kb1, kb2⟩ := (s.to (B := cA b1 cs e + A)).head
  have hown : w.ownsRow h0.size 5 1 (.slice p n c) n (xs.map byteV) := by
    rcases a with ⟨hl, ⟨rfl, rfl, rfl, rfl⟩ | ⟨b, rest, rfl, hnc, hr, rfl⟩⟩
    · exact ⟨by rw [List.length_map, hl], .inl ⟨rfl, rfl⟩⟩
    · obtain ⟨h1, h2⟩ := s.head
      have hr : rest.length = (c - n) * 1 := hr
      refine ⟨by rw [List.length_map, hl, Nat.mul_one], .inr ⟨b, c, _, rfl, h1, h2, hnc, by unfold maxLen; omega, ?_, ?_⟩⟩
      · rw [List.size_toArray, List.length_append, yamx, List.length_map, hl]; omega
      · rw [yamx, Nat.mul_one]
        show List.take n (xs.map byteV ++ rest) = _
        exact List.take_left' (by rw [List.length_map, hl])
  have htab : Lib.TabBelow Tryz.prog h0.size w "internal/strconv.uint64pow10" .u64 Lib.pow10Tab := fun w' hb => by
    obtain ⟨g, e, fz, h1, h2⟩ := tab
    have hg : g < h0.size := by
      rcases Nat.lt_or_ge g h0.size with h | h
      · exact h
      · rw [Array.getElem?_eq_none h] at h2; cases h2
    have h3 : w'.heap[g]? = some (.cells (Lib.pow10Tab.map fun z => Value.int .u64 z).toArray e fz) := by rw [hb.block g hg, hs.same g hg]; exact h2
    unfold Lib.TabIs World.var?
    rw [h1, Option.bind_some, h3]
  refine (Tryz.strconv_AppendInt h0.size n i hi.1 hi.2 _ _ w hown hs.size (by omega) htab).mono fun e' w' ⟨v', he', hown', hb, hk⟩ => ⟨v', he', ⟨hb.os, hb.tape, hb.output⟩, ?_⟩
  have hx : Ext h0 w'.heap := ⟨Nat.le_trans hs.size hb.size, fun j hj => by rw [hb.block j hj, hs.same j hj]⟩
  have k2 : w'.heap[b1]? = some (.cells cs.toArray e (0, 0)) := hk b1 _ kb2 (by simp) fun c fz h => by cases h; exact he rfl
  have hxs : xs.map byteV ++ Lib.byteCells (itoa i) = (xs ++ itoa i).map byteV := by rw [List.map_append]; rfl
  rw [hxs] at hown'
  obtain ⟨hl', hv'⟩ := hown'
  rw [List.length_map, Nat.mul_one] at hl'
  rcases hv' with ⟨rfl, hz⟩ | ⟨g, cap, cur, rfl, hg0, hgh, hle, hcm, hsz, htk⟩
  · have : xs ++ itoa i = [] := List.eq_nil_of_length_eq_zero (by omega)
    rw [this, hz]
    refine ⟨none, 0, 0, rfl, Nat.zero_le _, Sl.nil, ?_⟩
    rw [Bag.zero_add]
    exact St.mk' (l := [(b1, .cells cs.toArray e (0, 0))]) hx (by simp) fun a ha => by rw [List.mem_singleton.1 ha]; exact ⟨kb1, k2⟩
  · rw [Nat.mul_one] at htk hsz
    have hcur : (tU8.cells (xs ++ itoa i) ++ cur.toList.drop (n + (itoa i).length)).toArray = cur := by
      rw [yamx, ← htk, List.take_append_drop]
    refine ⟨some ⟨g, 0, none⟩, cap, cA g (tU8.cells (xs ++ itoa i) ++ cur.toList.drop (n + (itoa i).length)) 5, rfl, by unfold maxLen at hcm; omega, ⟨hl', .inr ⟨g, _, rfl, hle, ?_, rfl⟩⟩, ?_⟩
    · rw [List.length_drop, Array.length_toList, hsz]
      show _ = _ * 1
      omega
    · unfold cA
      rw [hcur]
      refine St.mk' (l := [(g, .cells cur 5 (0, 0)), (b1, .cells cs.toArray e (0, 0))]) hx ?_ fun a ha => ?_
      · simp only [List.map_cons, List.map_nil, List.nodup_cons, List.mem_singleton, List.not_mem_nil, not_false_eq_true, List.nodup_nil, and_true]
        rintro rfl
        rw [hgh] at k2
        cases k2
        exact he rfl
      · rcases List.mem_cons.1 ha with rfl | ha
        · exact ⟨hg0, hgh⟩
        · rw [List.mem_singleton.1 ha]; exact ⟨kb1, k2⟩
theorem yaqu : ∀ (k u : Nat), u < 10 ^ (k + 1) → (decDigits u).length ≤ k + 1
  | 0, u, h => by
    rw [decDigits, dif_pos (by simpa using h)]
    simp
  | k + 1, u, h => by
    rw [decDigits]
    split
    · simp
    · have := yaqu k (u / 10) (by rw [Nat.pow_succ] at h; omega)
      rw [List.length_append, List.length_singleton]
      omega
theorem yasa {z : Int} (h : -10000000 < z ∧ z < 10000000) : (itoa z).length ≤ 8 := by
  unfold itoa
  split
  · have := yaqu 6 z.natAbs (by omega)
    rw [List.length_cons]; omega
  · have := yaqu 6 z.toNat (by omega)
    omega
abbrev InK (z : Int) : Prop := -10000000 < z ∧ z < 10000000
theorem yall : ∀ {r : List Int}, (∀ z ∈ r, InK z) → (rowK r).length ≤ 9 * r.length
  | [], _ => Nat.le_refl _
  | a :: r, h => by
    have ih := yall (r := r) fun z hz => h z (List.mem_cons_of_mem _ hz)
    have := yasa (h a List.mem_cons_self)
    show (44 :: itoa a ++ rowK r).length ≤ _
    rw [List.length_append, List.length_cons, List.length_cons]
    omega
theorem yanx : ∀ {r : Rows}, (∀ w ∈ r, w.length ≤ 500 ∧ ∀ z ∈ w, InK z) → (rowsK r).length ≤ 4501 * r.length
  | [], _ => Nat.le_refl _
  | a :: r, h => by
    have ih := yanx (r := r) fun z hz => h z (List.mem_cons_of_mem _ hz)
    obtain ⟨h1, h2⟩ := h a List.mem_cons_self
    have := yall h2
    show (59 :: rowK a ++ rowsK r).length ≤ _
    rw [List.length_append, List.length_cons, List.length_cons]
    omega
theorem yatn {r : List Int} {i : Nat} (hi : i < r.length) : rowK (r.take (i + 1)) = rowK (r.take i) ++ 44 :: itoa (r.getD i 0) := by
  rw [List.take_succ_eq_append_getElem hi, yaaf hi]
  unfold rowK
  rw [List.flatMap_append]
  simp
theorem yaqk {r : Rows} {i : Nat} (hi : i < r.length) : rowsK (r.take (i + 1)) = rowsK (r.take i) ++ 59 :: rowK (r.getD i []) := by
  rw [List.take_succ_eq_append_getElem hi, yaaf hi]
  unfold rowsK
  rw [List.flatMap_append]
  simp
theorem RowsR.hdrX {h h' : Hp} {p : OA} {n : Nat} {rows : Rows} {i : Int} {i' : Nat} {Q : OA → Nat → Nat → Prop} (r : RowsR h p n rows) (x : Ext h h') (ei : i = (i' : Int)) (hi : i' < n)
    (hq : ∀ q d, RdT TI h q (rows.getD i' []).length (rows.getD i' []) → (rows.getD i' []).length ≤ d → Q q (rows.getD i' []).length d) : (0 ≤ i ∧ i < (n : Int)) ∧ NN p fun a => ∃ q l d, cell h' (a.add (i.toNat * 1)) = some (.slice q l d) ∧ Q q l d := by
  subst ei
  refine ⟨⟨by omega, by omega⟩, ?_⟩
  obtain ⟨_, hs, r1, r2⟩ := r
  obtain ⟨ad, hp, hc⟩ := (r1.ext x).at_ (i := i') hi
  obtain ⟨r3, r4⟩ := r2 i' hi
  have hl := r3.len
  refine yaan hp ⟨(hs.getD i' TR.d).1, (hs.getD i' TR.d).2.1, (hs.getD i' TR.d).2.2, by simpa [yadc] using hc 0 (by decide), ?_⟩
  rw [← hl] at r3 r4 ⊢
  exact hq _ _ r3 r4
theorem ybbx {h : Hp} {p : OA} {n c : Nat} {rows : Rows} {k : Int} {mask : Nat} (tab : Tab10 h) (r : RowsR h p n rows) (hn : n ≤ 500) (hr : ∀ w ∈ rows, w.length ≤ 500 ∧ ∀ z ∈ w, InK z) (hm : InK mask) :
    yaah Tryz.prog 67 #[.int .i64 mask, .agg #[.int .i64 k, .slice p n c]] h (fun v h' => v = .string (kyS mask rows) ∧ Ext h h') := by
  have hl := r.len
  refine zat_call ?_
  rw [zat_b0]
  refine (St.start h).new (cs := [.int .i64 k, .slice p n c]) fun b1 h1 _ s1 => ?_
  have ne : 24 ≠ 5 := by decide
  have s1 : St h h1 (0 + cA b1 [.int .i64 k, .slice p n c] 24) := s1.to
  refine (yagz tab ne (i := (mask : Int)) ⟨by omega, by omega⟩ (Nat.zero_le _) (Nat.zero_le _) Sl.nil s1).mono fun v h2 ⟨q, d, A, hv, hd, o2, s2⟩ => ⟨_, _, _, hv, ?_⟩
  rw [List.nil_append] at o2
  refine ⟨_, _, _, s2.ldB, ?_⟩
  have hml := yasa hm
  refine ⟨fun x h' => ∃ (i : Nat) (A : Bag), x.2.1 = (i : Int) ∧ i ≤ n ∧ x.1.2.2 ≤ 9223372036854775807 ∧ Sl tU8 x.1.1 x.1.2.1 x.1.2.2 (itoa mask ++ rowsK (rows.take i)) A ∧ St h h' (A + cA b1 [.int .i64 k, .slice p n c] 24), fun x _ => n - x.2.1.toNat, ⟨0, A, rfl, by omega, hd, by rw [Nat.zero_add] at o2; rw [show rowsK (rows.take 0) = [] from rfl, List.append_nil, Nat.zero_add]; exact o2, s2⟩, ?_⟩
  rintro ⟨⟨q, m, d⟩, _, _⟩ h3 ⟨i, A, rfl, hin, hd, o3, s3⟩
  dsimp only at hd o3 ⊢
  have hlen1 : (rowsK (rows.take i)).length ≤ 4501 * 500 := Nat.le_trans (yanx fun w hw => hr w (List.mem_of_mem_take hw)) (Nat.mul_le_mul_left _ (by rw [List.length_take]; omega))
  have hm3 := o3.len
  rw [List.length_append] at hm3
  rw [zat_b1]
  refine condP (fun hlt => ?_) (fun hge => ?_)
  · have hi : i < rows.length := by omega
    obtain ⟨hw1, hw2⟩ := hr _ (yaap (d := []) hi)
    refine r.hdrX s3.ext rfl (by omega) fun a3 C2 rr _ => ?_
    refine yaru ok_u8 (cs := [.int .u8 59]) s3 o3 (x := 59) rfl rfl (by omega) hd fun q4 d4 h5 A4 hd4 o4 s4 => ?_
    refine ⟨fun x h' => ∃ (j : Nat) (A : Bag), x.2.1 = (j : Int) ∧ j ≤ (rows.getD i []).length ∧ x.1.2.2 ≤ 9223372036854775807 ∧ Sl tU8 x.1.1 x.1.2.1 x.1.2.2 (itoa mask ++ rowsK (rows.take i) ++ 59 :: rowK ((rows.getD i []).take j)) A ∧ St h h' (A + cA b1 [.int .i64 k, .slice p n c] 24), fun x _ => (rows.getD i []).length - x.2.1.toNat, ⟨0, A4, rfl, by omega, hd4, o4, s4⟩, ?_⟩
    rintro ⟨⟨q, m2, d⟩, _, _⟩ h6 ⟨j, A, rfl, hj, hd6, o6, s6⟩
    dsimp only at hd6 o6 ⊢
    have hlen2 : (rowK ((rows.getD i []).take j)).length ≤ 9 * 500 := Nat.le_trans (yall fun z hz => hw2 z (List.mem_of_mem_take hz)) (Nat.mul_le_mul_left _ (by rw [List.length_take]; omega))
    have hm6 := o6.len
    rw [List.length_append, List.length_append, List.length_cons] at hm6
    rw [zat_b2]
    refine condP (fun hlj => ?_) (fun hgj => ?_)
    · have hj' : j < (rows.getD i []).length := by omega
      have hz := hw2 _ (yaap (d := 0) hj')
      refine ldI (rr.ext s6.ext) rfl hj' ?_
      refine yaru ok_u8 (cs := [.int .u8 44]) s6 o6 (x := 44) rfl rfl (by omega) hd6 fun q7 d7 h8 A7 hd7 o7 s7 => ?_
      refine (yagz tab ne ⟨by omega, by omega⟩ (by omega) hd7 o7 s7).mono fun v h9 ⟨q9, d9, A9, hv9, hd9, o9, s9⟩ => ⟨_, _, _, hv9, ?_⟩
      rw [zat_b4]
      refine ⟨⟨by omega, by omega⟩, ⟨j + 1, A9, by push_cast; rfl, by omega, hd9, ?_, s9⟩, by simp only; omega⟩
      rw [yatn hj']
      simpa using o9
    · obtain rfl : j = (rows.getD i []).length := by omega
      rw [zat_b5]
      refine ⟨⟨by omega, by omega⟩, ⟨i + 1, A, by push_cast; rfl, by omega, hd6, ?_, s6⟩, by simp only; omega⟩
      rw [List.take_length] at o6
      rw [yaqk hi, ← List.append_assoc]
      exact o6
  · obtain rfl : i = n := by omega
    rw [zat_b3]
    rw [List.take_of_length_le (by omega)] at o3
    refine yahi (e := 5) (by kernel_rfl) (by kernel_rfl) (by kernel_rfl) (bs := keyK mask rows) ?_ ⟨rfl, s3.ext⟩
    have := (o3.rd s3).rd
    rw [yamx, Nat.mul_one] at this
    exact this
end Go.Proofs.YtllhdhpjgihjfaaGreatDoor
