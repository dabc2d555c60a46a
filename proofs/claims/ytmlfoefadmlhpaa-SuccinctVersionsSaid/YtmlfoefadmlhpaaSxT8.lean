/- Part T8 of the proof: contracts of functions of the program, and what follows from them. -/
import Derived.Test.YtmlfoefadmlhpaaSxT7
set_option maxRecDepth 10000
namespace Go.Proofs.Ytmlfoefadmlhpaa
open Go Go.Sx

/-! ### the parentheses of a tree are balanced -/
theorem Ex_cons (x : Bool) (l : List Bool) (t : Nat) : Ex (x :: l) (t + 1) = (if x then 1 else -1) + Ex l t := by
  unfold Ex cntB
  rw [List.take_succ_cons]
  cases x
  · rw [List.filter_cons_of_neg (by decide)]
    simp only [Bool.false_eq_true, if_false]; omega
  · rw [List.filter_cons_of_pos (by decide), List.length_cons]
    simp only [if_true]; omega
theorem Ex_app_le (l m : List Bool) {t : Nat} (ht : t ≤ l.length) : Ex (l ++ m) t = Ex l t := by
  unfold Ex cntB
  rw [List.take_append_of_le_length ht]
theorem Ex_app (l m : List Bool) (t : Nat) : Ex (l ++ m) (l.length + t) = Ex l l.length + Ex m t := by
  unfold Ex cntB
  rw [List.take_length_add_append, List.take_length, List.filter_append, List.length_append]
  push_cast; omega
def BalM (m : List Bool) : Prop := Ex m m.length = 0 ∧ ∀ t, t ≤ m.length → 0 ≤ Ex m t
theorem BalM.nil : BalM [] := ⟨by simp [Ex, cntB], fun t ht => by have : t = 0 := by simpa using ht
                                                                  subst this; simp [Ex, cntB]⟩
theorem BalM.app {l m : List Bool} (h : BalM l) (g : BalM m) : BalM (l ++ m) := by
  refine ⟨by rw [List.length_append, Ex_app, h.1, g.1]; rfl, fun t ht => ?_⟩
  rcases Nat.lt_or_ge l.length t with h1 | h1
  · obtain ⟨u, rfl⟩ : ∃ u, t = l.length + u := ⟨t - l.length, by omega⟩
    rw [Ex_app, h.1]
    have := g.2 u (by rw [List.length_append] at ht; omega)
    omega
  · rw [Ex_app_le l m h1]; exact h.2 t h1
theorem Bal1.toM {b : List Bool} (B : Bal1 b) : BalM b := ⟨B.2.1, fun _ ht => B.nonneg ht⟩
theorem BalM.flat : ∀ {ls : List (List Bool)}, (∀ l ∈ ls, BalM l) → BalM ls.flatten
  | [], _ => BalM.nil
  | l :: ls, h => by rw [List.flatten_cons]; exact (h l (by simp)).app (BalM.flat fun l hl => h l (by simp [hl]))
theorem BalM.wrap {m : List Bool} (h : BalM m) : Bal1 (true :: (m ++ [false])) := by
  have hf : Ex (m ++ [false]) (m.length + 1) = -1 := by
    rw [Ex_app, h.1]
    have := Ex_cons false [] 0
    have h0 := Ex_zero []
    rw [h0] at this
    simpa using this
  refine ⟨by simp, ?_, fun t h0 ht => ?_⟩
  · simp only [List.length_cons, List.length_append, List.length_nil]
    rw [Ex_cons, hf]; rfl
  · obtain ⟨u, rfl⟩ : ∃ u, t = u + 1 := ⟨t - 1, by omega⟩
    simp only [List.length_cons, List.length_append, List.length_nil] at ht
    rw [Ex_cons, Ex_app_le m [false] (by omega)]
    have := h.2 u (by omega)
    simp only [if_true]; omega
theorem txt_bal {l : List Int} (ok : okP l) : ∀ (m v : Nat), l.length - v = m → v < l.length → Bal1 (txt l v) := by
  intro m
  induction m using Nat.strongRecOn with
  | _ m ih =>
    intro v hm hv
    rw [txt_eq ok hv]
    refine BalM.wrap (BalM.flat fun x hx => ?_)
    obtain ⟨c, hc, rfl⟩ := List.mem_map.1 hx
    have := kid_gt ok hc
    exact (ih (l.length - c) (by omega) c rfl this.2).toM
theorem txt_bal0 {l : List Int} (ok : okP l) : Bal1 (txt l 0) := txt_bal ok _ 0 rfl ok.1

/-! ### the tree's methods -/
section
variable {h : Hp} {a : Addr} {b : List Bool}
theorem TreeH.small (t : TreeH h a b) : b.length ≤ 65536 := by obtain ⟨v, _, h2⟩ := t.vec; obtain ⟨ws, v⟩ := h2; exact v.small
theorem open_ok (t : TreeH h a b) {v o : Nat} (s : IsSel b true v o) : HCalls Try.prog 60 #[.pointer (some a), .int .i64 (v : Int)] h (fun r h' => r = .int .i64 (o : Int) ∧ Ext h h') := by
  obtain ⟨x, h1, h2⟩ := t.vec
  refine succinct_Tree_open_call ?_
  rw [succinct_Tree_open_b0_eq]
  refine ⟨_, h1, (Select_at h2 s).mono fun r h' ⟨xx, hr⟩ => ⟨_, _, hr, rfl, xx⟩⟩
theorem before_ok (t : TreeH h a b) {i : Nat} (hi : i ≤ b.length) : HCalls Try.prog 61 #[.pointer (some a), .int .i64 (i : Int)] h (fun r h' => r = .int .i64 (cntB b true i : Nat) ∧ h' = h) := by
  obtain ⟨x, h1, h2⟩ := t.vec
  refine succinct_Tree_before_call ?_
  rw [succinct_Tree_before_b0_eq]
  refine ⟨_, h1, (Rank_ok h2 true (i : Int)).mono fun r h' ⟨hr, hh⟩ => ?_⟩
  subst hh
  rw [if_pos (by omega), show ((i : Nat) : Int).toNat = i by simp] at hr
  exact ⟨_, _, hr, rfl, rfl⟩
theorem getbit (t : TreeH h a b) {i : Nat} (hi : i < b.length) : ∃ v, cell h a = some (.pointer (some v)) ∧ HCalls Try.prog 64 #[.pointer (some v), .int .i64 (i : Int)] h (fun r h' => r = .tuple #[.bool (b.getD i false), .int .i64 0] ∧ h' = h) := by
  obtain ⟨x, h1, h2⟩ := t.vec
  refine ⟨x, h1, (Get_ok h2 (i : Int)).mono fun r h' ⟨hr, hh⟩ => ?_⟩
  rw [if_pos (by omega), show ((i : Nat) : Int).toNat = i by simp] at hr
  exact ⟨hr, hh⟩
/-- A number of a node. -/
def isN (b : List Bool) (v : Int) : Prop := 0 ≤ v ∧ v < ((b.length / 2 : Nat) : Int)
theorem check_ok (t : TreeH h a b) {p : Option Addr} {n c : Nat} {zs : List Int} (r : Rd h p n (ints zs)) (hn : n ≤ 10) :
    HCalls Try.prog 59 #[.pointer (some a), .slice p n c] h (fun v h' => h' = h ∧ (((∀ i, i < n → isN b (at_ zs i)) ∧ v = .int .i64 0) ∨ ((∃ i, i < n ∧ ¬ isN b (at_ zs i)) ∧ v = .int .i64 2))) := by
  refine succinct_Tree_check_call ?_
  rw [succinct_Tree_check_b0_eq]
  refine condNo rfl ?_
  refine ⟨fun s h' => h' = h ∧ ∃ i : Nat, s.1 = i ∧ i ≤ n ∧ ∀ t, t < i → isN b (at_ zs t), fun s _ => (n - s.1).toNat, ⟨rfl, 0, rfl, by omega, by omega⟩, ?_⟩
  rintro ⟨si, _⟩ h' ⟨rfl, i, hi, hin, hall⟩
  simp only at hi
  subst hi
  dsimp only
  rw [succinct_Tree_check_b1_eq]
  have e : ((i : Nat) : Int).toNat = i := by simp
  refine condP (fun hlt => ?_) (fun hge => ?_)
  · refine idx_int r (by omega) (by omega) ?_
    rw [e]
    refine condP (fun h1 => ⟨rfl, .inr ⟨⟨i, by omega, fun hn => by have := hn.1; have h9 : at_ zs i < 0 := h1; omega⟩, rfl⟩⟩) (fun h1 => ?_)
    refine ⟨_, t.n, ?_⟩
    refine condP (fun h2 => ⟨rfl, .inr ⟨⟨i, by omega, fun hn => by have := hn.2; have h9 : ((b.length / 2 : Nat) : Int) ≤ at_ zs i := h2; omega⟩, rfl⟩⟩) (fun h2 => ?_)
    rw [succinct_Tree_check_b2_eq]
    refine ⟨⟨by omega, by omega⟩, ⟨rfl, i + 1, by simp only; omega, by omega, fun t ht => ?_⟩, by simp only; omega⟩
    rcases Nat.lt_or_ge t i with h4 | h4
    · exact hall t h4
    · obtain rfl : t = i := by omega
      exact ⟨Int.not_lt.1 h1, Int.not_le.1 h2⟩
  · rw [succinct_Tree_check_b3_eq]
    exact ⟨rfl, .inl ⟨fun t ht => hall t (by omega), rfl⟩⟩
theorem check_nil {p : Option Addr} {n c : Nat} : HCalls Try.prog 59 #[.pointer none, .slice p n c] h (fun v h' => h' = h ∧ v = .int .i64 1) := by
  refine succinct_Tree_check_call ?_
  rw [succinct_Tree_check_b0_eq]
  exact condYes rfl ⟨rfl, rfl⟩

/-- What parent returns. -/
def ParV (b : List Bool) (v : Nat) (r : Int) : Prop := (v = 0 ∧ r = -1) ∨ ∃ p, ParN b v p ∧ r = (p : Int)
theorem ParV.unique {v : Nat} {r q : Int} (h : ParV b v r) (g : ParV b v q) : r = q := by
  rcases h with ⟨h1, h2⟩ | ⟨p, h1, h2⟩ <;> rcases g with ⟨g1, g2⟩ | ⟨p', g1, g2⟩
  · omega
  · have := g1.lt; omega
  · have := h1.lt; omega
  · have := h1.unique g1; omega
theorem parent_ok (t : TreeH h a b) (B : Bal1 b) {v : Nat} (hv : v < b.length / 2) : HCalls Try.prog 62 #[.pointer (some a), .int .i64 (v : Int)] h (fun r h' => Ext h h' ∧ ∃ q, r = .int .i64 q ∧ ParV b v q) := by
  have hs := t.small
  obtain ⟨o, j, d⟩ := nd_ex B hv
  have hol := d.sel.1
  refine succinct_Tree_parent_call ?_
  rw [succinct_Tree_parent_b0_eq]
  refine (open_ok t d.sel).mono fun r h1 ⟨hr, x1⟩ => ?_
  refine ⟨_, hr, ⟨by omega, by omega⟩, ?_⟩
  have t1 := t.ext x1
  refine ⟨fun s h' => h' = h1 ∧ ∃ k : Nat, s.2.1 = (k : Int) - 1 ∧ k ≤ o ∧ s.1 = Ex b k - Ex b o ∧ ∀ u, k ≤ u → u ≤ o → Ex b o ≤ Ex b u, fun s _ => (s.2.1 + 1).toNat,
    ⟨rfl, o, rfl, Nat.le_refl _, by simp only; omega, fun u h2 h3 => Int.le_of_eq (by rw [show u = o by omega])⟩, ?_⟩
  rintro ⟨sd, si, _⟩ h2 ⟨rfl, k, hk, hko, hd, hall⟩
  simp only at hk hd
  subst hk hd
  dsimp only
  rw [succinct_Tree_parent_b1_eq]
  have hko' := hall k (Nat.le_refl _) hko
  have hle := Ex_le b k
  have hge := Ex_ge b o
  have hno := B.nonneg (t := o) (by omega)
  refine condP (fun hpos => ?_) (fun hneg => ?_)
  · obtain ⟨k', rfl⟩ : ∃ k', k = k' + 1 := ⟨k - 1, by omega⟩
    have hki : ((k' + 1 : Nat) : Int) - 1 = (k' : Int) := by omega
    rw [hki]
    obtain ⟨x, hc, hg⟩ := getbit t1 (show k' < b.length by omega)
    refine ⟨_, hc, hg.mono fun r3 h3 ⟨hr3, hh⟩ => ?_⟩
    subst hh
    refine ⟨_, _, hr3, ?_⟩
    have next : ∀ {K : Value → Hp → Prop} (d' : Int), d' = Ex b k' - Ex b o → Ex b o ≤ Ex b k' → succinct_Tree_parent_b2 (some a) d' (k' : Int) h3 (fun s h' => (h' = h3 ∧ ∃ k : Nat, s.2.1 = (k : Int) - 1 ∧ k ≤ o ∧ s.1 = Ex b k - Ex b o ∧ ∀ u, k ≤ u → u ≤ o → Ex b o ≤ Ex b u) ∧ (s.2.1 + 1).toNat < ((k' : Int) + 1).toNat) K := by
      intro K d' hd' hle'
      rw [succinct_Tree_parent_b2_eq]
      refine ⟨⟨by omega, by omega⟩, ⟨rfl, k', rfl, by omega, hd', fun u h4 h5 => ?_⟩, by simp only; omega⟩
      rcases Nat.lt_or_ge k' u with h6 | h6
      · exact hall u (by omega) h5
      · have : u = k' := by omega
        subst this; exact hle'
    rcases Ex_step b (t := k') (by omega) with ⟨hb, hE⟩ | ⟨hb, hE⟩
    · refine condNo (by rw [hb]; rfl) ⟨⟨by omega, by omega⟩, ?_⟩
      refine condP (fun hfound => ?_) (fun hnot => next _ (by omega) (by omega))
      refine (before_ok t1 (show k' ≤ b.length by omega)).mono fun r4 h4 ⟨hr4, hh⟩ => ?_
      subst hh
      refine ⟨_, hr4, x1, _, rfl, .inr ⟨cntB b true k', ⟨o, k', d.sel, ⟨by omega, hb, rfl⟩, ?_⟩, rfl⟩⟩
      refine ⟨by omega, hb, by omega, fun u h5 h6 => ?_⟩
      have := hall u (by omega) h6
      omega
    · exact condYes (by rw [hb]; rfl) ⟨⟨by omega, by omega⟩, next _ (by omega) (by omega)⟩
  · rw [succinct_Tree_parent_b3_eq]
    have hk0 : k = 0 := by omega
    subst hk0
    rw [Ex_zero] at hko'
    have ho0 := B.zero hol (by omega)
    subst ho0
    refine ⟨x1, _, rfl, .inl ⟨?_, rfl⟩⟩
    have := d.sel.2.2
    simp [cntB] at this; omega
end
end Go.Proofs.Ytmlfoefadmlhpaa
