/- Part T9 of the proof: contracts of functions of the program, and what follows from them. -/
import Derived.Test.YtmlfoefadmlhpaaSxT8
set_option maxRecDepth 10000
namespace Go.Proofs.Ytmlfoefadmlhpaa
open Go Go.Sx
section
variable {h : Hp} {a : Addr} {b : List Bool}

theorem isN_nat {v : Int} (hv : isN b v) : ∃ k : Nat, v = (k : Int) ∧ k < b.length / 2 := by
  obtain ⟨k, rfl⟩ := Int.eq_ofNat_of_zero_le hv.1
  exact ⟨k, rfl, by have := hv.2; omega⟩
/-- The check of one node, of two. -/
theorem check1 (t : TreeH h a b) {p : Option Addr} {c : Nat} {v : Int} (r : Rd h p 1 [.int .i64 v]) :
    HCalls Try.prog 59 #[.pointer (some a), .slice p 1 c] h (fun x h' => h' = h ∧ ((isN b v ∧ x = .int .i64 0) ∨ (¬ isN b v ∧ x = .int .i64 2))) := by
  refine (check_ok t (zs := [v]) r (by omega)).mono fun x h' ⟨hh, hx⟩ => ⟨hh, ?_⟩
  rcases hx with ⟨h1, h2⟩ | ⟨⟨i, hi, h1⟩, h2⟩
  · exact .inl ⟨h1 0 (by omega), h2⟩
  · have : i = 0 := by omega
    subst this
    exact .inr ⟨h1, h2⟩
theorem check2 (t : TreeH h a b) {p : Option Addr} {c : Nat} {v w : Int} (r : Rd h p 2 [.int .i64 v, .int .i64 w]) :
    HCalls Try.prog 59 #[.pointer (some a), .slice p 2 c] h (fun x h' => h' = h ∧ ((isN b v ∧ isN b w ∧ x = .int .i64 0) ∨ (¬ (isN b v ∧ isN b w) ∧ x = .int .i64 2))) := by
  refine (check_ok t (zs := [v, w]) r (by omega)).mono fun x h' ⟨hh, hx⟩ => ⟨hh, ?_⟩
  rcases hx with ⟨h1, h2⟩ | ⟨⟨i, hi, h1⟩, h2⟩
  · exact .inl ⟨h1 0 (by omega), h1 1 (by omega), h2⟩
  · have : i = 0 ∨ i = 1 := by omega
    rcases this with rfl | rfl
    · exact .inr ⟨fun h3 => h1 h3.1, h2⟩
    · exact .inr ⟨fun h3 => h1 h3.2, h2⟩

theorem Parent_ok (t : TreeH h a b) (B : Bal1 b) (v : Int) : HCalls Try.prog 34 #[.pointer (some a), .int .i64 v] h (fun r h' => Ext h h' ∧ ((∃ k : Nat, v = k ∧ k < b.length / 2 ∧ ∃ q, r = .tuple #[.int .i64 q, .int .i64 0] ∧ ParV b k q) ∨ (¬ isN b v ∧ r = .tuple #[.int .i64 0, .int .i64 2]))) := by
  refine succinct_Tree_Parent_call ?_
  rw [succinct_Tree_Parent_b0_eq]
  refine New_intro (cs := [.int .i64 v]) fun b1 h1 hb1 x1 k1 z1 => ?_
  have t1 := t.ext x1
  refine (check1 t1 (Rd.of_blk k1 (n := 1) (by simp))).mono fun x h2 ⟨hh, hx⟩ => ?_
  subst hh
  rcases hx with ⟨hv, rfl⟩ | ⟨hv, rfl⟩
  · obtain ⟨k, rfl, hk⟩ := isN_nat hv
    refine ⟨_, rfl, condN (fun hne => absurd rfl hne) fun _ => ?_⟩
    refine (parent_ok t1 B hk).mono fun r h3 ⟨x3, q, hr, hq⟩ => ?_
    exact ⟨_, hr, x1.trans x3, .inl ⟨k, rfl, hk, q, rfl, hq⟩⟩
  · exact ⟨_, rfl, condN (fun _ => ⟨x1, .inr ⟨hv, rfl⟩⟩) fun he => absurd he (by decide)⟩

theorem Depth_ok (t : TreeH h a b) (B : Bal1 b) (v : Int) : HCalls Try.prog 32 #[.pointer (some a), .int .i64 v] h (fun r h' => Ext h h' ∧ ((∃ k o : Nat, v = k ∧ k < b.length / 2 ∧ IsSel b true k o ∧ r = .tuple #[.int .i64 (Ex b o), .int .i64 0]) ∨ (¬ isN b v ∧ r = .tuple #[.int .i64 0, .int .i64 2]))) := by
  have hs := t.small
  refine succinct_Tree_Depth_call ?_
  rw [succinct_Tree_Depth_b0_eq]
  refine New_intro (cs := [.int .i64 v]) fun b1 h1 hb1 x1 k1 z1 => ?_
  have t1 := t.ext x1
  refine (check1 t1 (Rd.of_blk k1 (n := 1) (by simp))).mono fun x h2 ⟨hh, hx⟩ => ?_
  subst hh
  rcases hx with ⟨hv, rfl⟩ | ⟨hv, rfl⟩
  · obtain ⟨k, rfl, hk⟩ := isN_nat hv
    obtain ⟨o, j, d⟩ := nd_ex B hk
    have hol := d.sel.1
    have hcl : cntB b true o ≤ o := by unfold cntB; exact Nat.le_trans (List.length_filter_le _ _) (by simp; omega)
    refine ⟨_, rfl, condN (fun hne => absurd rfl hne) fun _ => ?_⟩
    refine (open_ok t1 d.sel).mono fun r h3 ⟨hr, x3⟩ => ?_
    refine ⟨_, hr, ?_⟩
    refine (before_ok (t1.ext x3) (show o ≤ b.length by omega)).mono fun r4 h4 ⟨hr4, hh⟩ => ?_
    subst hh
    exact ⟨_, hr4, ⟨by omega, by omega⟩, ⟨by omega, by omega⟩, x1.trans x3, .inl ⟨k, o, rfl, hk, d.sel, rfl⟩⟩
  · exact ⟨_, rfl, condN (fun _ => ⟨x1, .inr ⟨hv, rfl⟩⟩) fun he => absurd he (by decide)⟩

theorem Size_ok (t : TreeH h a b) (B : Bal1 b) (v : Int) : HCalls Try.prog 41 #[.pointer (some a), .int .i64 v] h (fun r h' => Ext h h' ∧ ((∃ k o j : Nat, v = k ∧ k < b.length / 2 ∧ Nd b k o j ∧ r = .tuple #[.int .i64 (((j - o + 1) / 2 : Nat) : Int), .int .i64 0]) ∨ (¬ isN b v ∧ r = .tuple #[.int .i64 0, .int .i64 2]))) := by
  have hs := t.small
  refine succinct_Tree_Size_call ?_
  rw [succinct_Tree_Size_b0_eq]
  refine New_intro (cs := [.int .i64 v]) fun b1 h1 hb1 x1 k1 z1 => ?_
  have t1 := t.ext x1
  refine (check1 t1 (Rd.of_blk k1 (n := 1) (by simp))).mono fun x h2 ⟨hh, hx⟩ => ?_
  subst hh
  rcases hx with ⟨hv, rfl⟩ | ⟨hv, rfl⟩
  · obtain ⟨k, rfl, hk⟩ := isN_nat hv
    obtain ⟨o, j, d⟩ := nd_ex B hk
    have hoj := d.close.1
    have hjl := d.close.2.1
    refine ⟨_, rfl, condN (fun hne => absurd rfl hne) fun _ => ?_⟩
    refine (open_ok t1 d.sel).mono fun r h3 ⟨hr, x3⟩ => ?_
    refine ⟨_, hr, ?_⟩
    refine (closed_ok (t1.ext x3) d.close).mono fun r4 h4 ⟨hr4, hh⟩ => ?_
    subst hh
    refine ⟨_, hr4, ⟨by omega, by omega⟩, ⟨by omega, by omega⟩, ?_⟩
    refine quo_intro (by omega) (by omega) (by omega) ⟨x1.trans x3, .inl ⟨k, o, j, rfl, hk, d, ?_⟩⟩
    rw [show (((j - o + 1) / 2 : Nat) : Int) = ((j : Int) - o + 1) / 2 by omega]
  · exact ⟨_, rfl, condN (fun _ => ⟨x1, .inr ⟨hv, rfl⟩⟩) fun he => absurd he (by decide)⟩

/-- Siblings, one after the other. -/
inductive Sib (b : List Bool) (i : Nat) : Nat → Nat → Prop
  | zero : Sib b i 0 i
  | succ {m x c : Nat} : Sib b i m x → IsClose b x c → Sib b i (m + 1) (c + 1)
theorem Sib.unique {i m x y : Nat} (h : Sib b i m x) : Sib b i m y → x = y := by
  induction h generalizing y with
  | zero => intro g; cases g; rfl
  | succ _ hc ih =>
    intro g
    cases g with
    | succ g' gc =>
      have := ih g'
      subst this
      rw [hc.unique gc]
theorem Sib.before {i m x : Nat} (h : Sib b i m x) : ∀ {k : Nat}, k < m → ∃ y, Sib b i k y ∧ b.getD y false = true := by
  induction h with
  | zero => intro k hk; omega
  | succ h' hc ih =>
    intro k hk
    rename_i m x c
    rcases Nat.lt_or_ge k m with h1 | h1
    · exact ih h1
    · have : k = m := by omega
      subst this
      exact ⟨x, h', hc.2.2.1⟩
/-- A place between the children of what is opened at o. -/
def Btw (b : List Bool) (o j i : Nat) : Prop := o < i ∧ i ≤ j ∧ Ex b i = Ex b o + 1
theorem btw_first {o j : Nat} (c : IsClose b o j) : Btw b o j (o + 1) := by
  refine ⟨by omega, by have := c.1; omega, ?_⟩
  rcases Ex_step b (t := o) (by have := c.1; have := c.2.1; omega) with ⟨_, h⟩ | ⟨h, _⟩
  · exact h
  · rw [c.2.2.1] at h; cases h
theorem btw_next {o j i c : Nat} (cl : IsClose b o j) (h : Btw b o j i) (ci : IsClose b i c) : Btw b o j (c + 1) ∧ c + 1 ≤ j := by
  have h1 := ci.2.2.2.1
  have h2 := h.2.2
  have h3 : c < j := by
    rcases Nat.lt_or_ge c j with h4 | h4
    · exact h4
    · exfalso
      rcases Nat.lt_or_ge j c with h5 | h5
      · have h6 := ci.2.2.2.2 (j + 1) (by have := h.2.1; omega) (by omega)
        have := cl.2.2.2.1; omega
      · have : c = j := by omega
        subst this
        have := cl.2.2.2.1; omega
  exact ⟨⟨by have := h.1; have := ci.1; omega, by omega, by omega⟩, by omega⟩
theorem btw_end {o j i : Nat} (cl : IsClose b o j) (h : Btw b o j i) (hb : b.getD i false = false) : i = j := by
  rcases Ex_step b (t := i) (by have := h.2.1; have := cl.2.1; omega) with ⟨h1, _⟩ | ⟨_, h1⟩
  · rw [hb] at h1; cases h1
  · rcases Nat.lt_or_ge i j with h2 | h2
    · have := cl.2.2.2.2 (i + 1) (by have := h.1; omega) (by omega)
      have := h.2.2; omega
    · have := h.2.1; omega
theorem sib_btw {o j m x : Nat} (cl : IsClose b o j) (h : Sib b (o + 1) m x) : Btw b o j x := by
  induction h with
  | zero => exact btw_first cl
  | succ _ hc ih => exact (btw_next cl ih hc).1

/-- What Child returns. -/
def ChildR (b : List Bool) (o : Nat) (k : Int) (v : Value) : Prop :=
  (∃ m x : Nat, k = m ∧ Sib b (o + 1) m x ∧ b.getD x false = true ∧ v = .tuple #[.int .i64 (cntB b true x : Nat), .int .i64 0]) ∨
  ((k < 0 ∨ ∃ m x : Nat, (m : Int) ≤ k ∧ Sib b (o + 1) m x ∧ b.getD x false = false) ∧ v = .tuple #[.int .i64 0, .int .i64 12])
theorem ChildR.unique {o : Nat} {k : Int} {v w : Value} (h : ChildR b o k v) (g : ChildR b o k w) : v = w := by
  have cross : ∀ {v w : Value}, (∃ m x : Nat, k = m ∧ Sib b (o + 1) m x ∧ b.getD x false = true ∧ v = .tuple #[.int .i64 (cntB b true x : Nat), .int .i64 0]) →
      ((k < 0 ∨ ∃ m x : Nat, (m : Int) ≤ k ∧ Sib b (o + 1) m x ∧ b.getD x false = false) ∧ w = .tuple #[.int .i64 0, .int .i64 12]) → False := by
    rintro v w ⟨m, x, h1, h2, h3, _⟩ ⟨h5 | ⟨m', x', h5, h6, h7⟩, _⟩
    · omega
    · rcases Nat.lt_or_ge m' m with h8 | h8
      · obtain ⟨y, h9, h10⟩ := h2.before h8
        have := h9.unique h6
        subst this
        rw [h10] at h7; cases h7
      · have : m' = m := by omega
        subst this
        have := h2.unique h6
        subst this
        rw [h3] at h7; cases h7
  rcases h with h | h <;> rcases g with g | g
  · obtain ⟨m, x, h1, h2, h3, rfl⟩ := h
    obtain ⟨m', x', g1, g2, g3, rfl⟩ := g
    have : m = m' := by omega
    subst this
    rw [h2.unique g2]
  · exact (cross h g).elim
  · exact (cross g h).elim
  · rw [h.2, g.2]

theorem Child_ok (t : TreeH h a b) (B : Bal1 b) (v k : Int) (hkk : k ≤ 9223372036854775807) : HCalls Try.prog 39 #[.pointer (some a), .int .i64 v, .int .i64 k] h (fun r h' => Ext h h' ∧ ((∃ n o j : Nat, v = n ∧ n < b.length / 2 ∧ Nd b n o j ∧ ChildR b o k r) ∨ (¬ isN b v ∧ r = .tuple #[.int .i64 0, .int .i64 2]))) := by
  have hs := t.small
  refine succinct_Tree_Child_call ?_
  rw [succinct_Tree_Child_b0_eq]
  refine New_intro (cs := [.int .i64 v]) fun b1 h1 hb1 x1 k1 z1 => ?_
  have t1 := t.ext x1
  refine (check1 t1 (Rd.of_blk k1 (n := 1) (by simp))).mono fun x h2 ⟨hh, hx⟩ => ?_
  subst hh
  rcases hx with ⟨hv, rfl⟩ | ⟨hv, rfl⟩
  rotate_left
  · exact ⟨_, rfl, condN (fun _ => ⟨x1, .inr ⟨hv, rfl⟩⟩) fun he => absurd he (by decide)⟩
  obtain ⟨n, rfl, hn⟩ := isN_nat hv
  obtain ⟨o, j, d⟩ := nd_ex B hn
  have hoj := d.close.1
  have hjl := d.close.2.1
  refine ⟨_, rfl, condN (fun hne => absurd rfl hne) fun _ => ?_⟩
  refine (open_ok t1 d.sel).mono fun r h3 ⟨hr, x3⟩ => ?_
  have x13 := x1.trans x3
  have t3 := t1.ext x3
  refine ⟨_, hr, ⟨by omega, by omega⟩, ?_⟩
  refine ⟨fun s h' => h' = h3 ∧ ∃ m i : Nat, s.2.1 = i ∧ Sib b (o + 1) m i ∧ ((m = 0 ∧ s.1 = k) ∨ (s.1 = k - m ∧ 0 ≤ s.1)), fun s _ => (b.length - s.2.1).toNat, ⟨rfl, 0, o + 1, by simp only; omega, .zero, .inl ⟨rfl, rfl⟩⟩, ?_⟩
  rintro ⟨sk, si, _⟩ h4 ⟨rfl, m, i, hi, hsib, hkm⟩
  simp only at hi hkm
  subst hi
  dsimp only
  have bt := sib_btw d.close hsib
  have hij := bt.2.1
  rw [succinct_Tree_Child_b1_eq]
  obtain ⟨x, hc, hg⟩ := getbit t3 (show i < b.length by omega)
  refine ⟨_, hc, hg.mono fun r5 h5 ⟨hr5, hh⟩ => ?_⟩
  subst hh
  refine ⟨_, _, hr5, ?_⟩
  refine cond_intro (fun hb => ?_) (fun hb => ?_)
  · have hb' : b.getD i false = false := by simpa using hb
    refine ⟨x13, .inl ⟨n, o, j, rfl, hn, d, .inr ⟨?_, rfl⟩⟩⟩
    rcases hkm with ⟨h6, h7⟩ | ⟨h6, h7⟩
    · subst h6
      by_cases h8 : k < 0
      · exact .inl h8
      · exact .inr ⟨0, i, by omega, hsib, hb'⟩
    · exact .inr ⟨m, i, by omega, hsib, hb'⟩
  have hb' : b.getD i false = true := by simpa using hb
  refine condP (fun hk => ?_) (fun hk => ?_)
  · refine ⟨x13, .inl ⟨n, o, j, rfl, hn, d, .inr ⟨.inl ?_, rfl⟩⟩⟩
    omega
  have hkm' : sk = k - m := by omega
  rw [succinct_Tree_Child_b2_eq]
  refine condP (fun hk0 => ?_) (fun hk0 => ?_)
  · refine (before_ok t3 (show i ≤ b.length by omega)).mono fun r6 h6 ⟨hr6, hh⟩ => ?_
    subst hh
    exact ⟨_, hr6, x13, .inl ⟨n, o, j, rfl, hn, d, .inl ⟨m, i, by omega, hsib, hb', rfl⟩⟩⟩
  · obtain ⟨c, hc2⟩ := close_ex' B (show i < b.length by omega) hb'
    have hnx := btw_next d.close bt hc2
    have hic := hc2.1
    refine (closed_ok t3 hc2).mono fun r6 h6 ⟨hr6, hh⟩ => ?_
    subst hh
    refine ⟨_, hr6, ⟨by omega, by omega⟩, ⟨by omega, by omega⟩, ⟨rfl, m + 1, c + 1, by simp only; omega, hsib.succ hc2, .inr ⟨by simp only; omega, by simp only; omega⟩⟩, by simp only; omega⟩

theorem Common_ok (t : TreeH h a b) (B : Bal1 b) (v w : Int) : HCalls Try.prog 33 #[.pointer (some a), .int .i64 v, .int .i64 w] h (fun r h' => Ext h h' ∧ ((∃ n m q : Nat, v = n ∧ w = m ∧ n < b.length / 2 ∧ m < b.length / 2 ∧ LcaR b n m q ∧ r = .tuple #[.int .i64 (q : Int), .int .i64 0]) ∨ (¬ (isN b v ∧ isN b w) ∧ r = .tuple #[.int .i64 0, .int .i64 2]))) := by
  refine succinct_Tree_Common_call ?_
  rw [succinct_Tree_Common_b0_eq]
  refine New_intro (cs := [.int .i64 v, .int .i64 w]) fun b1 h1 hb1 x1 k1 z1 => ?_
  have t1 := t.ext x1
  refine (check2 t1 (Rd.of_blk k1 (n := 2) (by simp))).mono fun x h2 ⟨hh, hx⟩ => ?_
  subst hh
  rcases hx with ⟨hv, hw, rfl⟩ | ⟨hv, rfl⟩
  rotate_left
  · exact ⟨_, rfl, condN (fun _ => ⟨x1, .inr ⟨hv, rfl⟩⟩) fun he => absurd he (by decide)⟩
  obtain ⟨n, rfl, hn⟩ := isN_nat hv
  obtain ⟨m, rfl, hm⟩ := isN_nat hw
  refine ⟨_, rfl, condN (fun hne => absurd rfl hne) fun _ => ?_⟩
  refine ⟨fun s h' => Ext h2 h' ∧ ∃ n' m' : Nat, s.1 = n' ∧ s.2.1 = m' ∧ n' < b.length / 2 ∧ m' < b.length / 2 ∧ ∀ c, (Anc b c n ∧ Anc b c m) ↔ (Anc b c n' ∧ Anc b c m'), fun s _ => (s.1 + s.2.1).toNat, ⟨Ext.refl _, n, m, rfl, rfl, hn, hm, fun _ => Iff.rfl⟩, ?_⟩
  rintro ⟨sn, sm, _⟩ h3 ⟨x3, n', m', h4, h5, hn', hm', hall⟩
  simp only at h4 h5
  subst h4 h5
  dsimp only
  have t3 := t1.ext x3
  rw [succinct_Tree_Common_b1_eq]
  refine condN (fun hne => ?_) (fun heq => ?_)
  · have go : ∀ (x y : Nat), x < b.length / 2 → y < b.length / 2 → y < x → (∀ c, (Anc b c n ∧ Anc b c m) ↔ (Anc b c x ∧ Anc b c y)) → ((x : Int) + y) = (n' : Int) + m' →
        succinct_Tree_Common_b2 (some a) (x : Int) (y : Int) h3 (fun s h' => (Ext h2 h' ∧ ∃ n' m' : Nat, s.1 = n' ∧ s.2.1 = m' ∧ n' < b.length / 2 ∧ m' < b.length / 2 ∧ ∀ c, (Anc b c n ∧ Anc b c m) ↔ (Anc b c n' ∧ Anc b c m')) ∧ (s.1 + s.2.1).toNat < ((n' : Int) + m').toNat)
          (fun r h' => Ext h h' ∧ ((∃ n_1 m_1 q : Nat, (n : Int) = n_1 ∧ (m : Int) = m_1 ∧ n_1 < b.length / 2 ∧ m_1 < b.length / 2 ∧ LcaR b n_1 m_1 q ∧ r = .tuple #[.int .i64 (q : Int), .int .i64 0]) ∨ (¬ (isN b n ∧ isN b m) ∧ r = .tuple #[.int .i64 0, .int .i64 2]))) := by
      intro x y hx hy hyx hxy hsum
      rw [succinct_Tree_Common_b2_eq]
      refine (parent_ok t3 B hx).mono fun r h6 ⟨x6, q, hr, hq⟩ => ?_
      rcases hq with ⟨h7, _⟩ | ⟨p, hp, rfl⟩
      · omega
      have hpl := hp.lt
      refine ⟨_, hr, ⟨x3.trans x6, p, y, rfl, rfl, by omega, hy, fun c => (hxy c).trans ⟨fun ⟨g1, g2⟩ => ⟨g1.par B (fun e => ?_) hp, g2⟩, fun ⟨g1, g2⟩ => ⟨g1.trans (hp.anc B), g2⟩⟩⟩, by simp only; omega⟩
      have := g2.le; omega
    refine condP (fun hlt => ?_) (fun hge => ?_)
    · exact go m' n' hm' hn' (by omega) (fun c => (hall c).trans ⟨fun ⟨g1, g2⟩ => ⟨g2, g1⟩, fun ⟨g1, g2⟩ => ⟨g2, g1⟩⟩) (by omega)
    · exact go n' m' hn' hm' (by omega) hall rfl
  · rw [succinct_Tree_Common_b3_eq]
    have : n' = m' := by omega
    subst this
    obtain ⟨o, j, d⟩ := nd_ex B hn'
    exact ⟨x1.trans x3, .inl ⟨n, m, n', rfl, rfl, hn, hm, ⟨⟨o, j, d⟩, fun c => (hall c).trans ⟨fun g => g.1, fun g => ⟨g, g⟩⟩⟩, rfl⟩⟩

/-- What Close returns. -/
def CloseR (b : List Bool) (i : Int) (v : Value) : Prop := (¬ (0 ≤ i ∧ i < b.length) ∧ v = .tuple #[.int .i64 0, .int .i64 2]) ∨ (∃ k : Nat, i = k ∧ k < b.length ∧ b.getD k false = false ∧ v = .tuple #[.int .i64 0, .int .i64 7]) ∨
  (∃ k j : Nat, i = k ∧ IsClose b k j ∧ v = .tuple #[.int .i64 (j : Int), .int .i64 0])
theorem CloseR.unique {i : Int} {v w : Value} (h : CloseR b i v) (g : CloseR b i w) : v = w := by
  rcases h with ⟨h1, h2⟩ | ⟨k, h1, h2, h3, h4⟩ | ⟨k, j, h1, h2, h3⟩ <;> rcases g with ⟨g1, g2⟩ | ⟨k', g1, g2, g3, g4⟩ | ⟨k', j', g1, g2, g3⟩
  · rw [h2, g2]
  · omega
  · have := g2.1; have := g2.2.1; omega
  · omega
  · rw [h4, g4]
  · have : k = k' := by omega
    subst this
    rw [g2.2.2.1] at h3; cases h3
  · have := h2.1; have := h2.2.1; omega
  · have : k = k' := by omega
    subst this
    rw [h2.2.2.1] at g3; cases g3
  · have : k = k' := by omega
    subst this
    rw [h3, g3, h2.unique g2]
theorem Close_ok (t : TreeH h a b) (B : Bal1 b) (i : Int) : HCalls Try.prog 37 #[.pointer (some a), .int .i64 i] h (fun r h' => h' = h ∧ CloseR b i r) := by
  obtain ⟨v, h1, h2⟩ := t.vec
  by_cases hi : 0 ≤ i ∧ i < b.length
  · obtain ⟨k, rfl⟩ := Int.eq_ofNat_of_zero_le hi.1
    cases hb : b.getD k false
    · refine succinct_Tree_Close_call ?_
      rw [succinct_Tree_Close_b0_eq]
      refine condNo rfl ⟨_, h1, ?_⟩
      refine (Get_ok h2 (k : Int)).mono fun r h3 ⟨hr, hh⟩ => ?_
      subst hh
      rw [if_pos (by omega), show ((k : Nat) : Int).toNat = k by simp] at hr
      refine ⟨_, _, hr, condN (fun hne => absurd rfl hne) fun _ => ?_⟩
      exact condYes (by rw [hb]; rfl) ⟨rfl, .inr (.inl ⟨k, rfl, by omega, hb, rfl⟩)⟩
    · obtain ⟨j, hj⟩ := close_ex' B (show k < b.length by omega) hb
      exact (Close_at t hj).mono fun r h3 ⟨hr, hh⟩ => ⟨hh, .inr (.inr ⟨k, j, rfl, hj, hr⟩)⟩
  · refine succinct_Tree_Close_call ?_
    rw [succinct_Tree_Close_b0_eq]
    refine condNo rfl ⟨_, h1, ?_⟩
    refine (Get_ok h2 i).mono fun r h3 ⟨hr, hh⟩ => ?_
    subst hh
    rw [if_neg hi] at hr
    exact ⟨_, _, hr, condN (fun _ => ⟨rfl, .inl ⟨hi, rfl⟩⟩) fun he => absurd he (by decide)⟩
end
/-! ### no tree -/
section
variable {h : Hp}
theorem Close_nil (i : Int) : HCalls Try.prog 37 #[.pointer none, .int .i64 i] h (fun r h' => r = .tuple #[.int .i64 0, .int .i64 1] ∧ Ext h h') := by
  refine succinct_Tree_Close_call ?_
  rw [succinct_Tree_Close_b0_eq]
  exact condYes rfl ⟨rfl, Ext.refl _⟩
theorem Parent_nil (v : Int) : HCalls Try.prog 34 #[.pointer none, .int .i64 v] h (fun r h' => r = .tuple #[.int .i64 0, .int .i64 1] ∧ Ext h h') := by
  refine succinct_Tree_Parent_call ?_
  rw [succinct_Tree_Parent_b0_eq]
  refine New_intro (cs := [.int .i64 v]) fun b1 h1 hb1 x1 k1 z1 => ?_
  refine check_nil.mono fun x h2 ⟨hh, hx⟩ => ?_
  subst hh
  exact ⟨_, hx, condN (fun _ => ⟨rfl, x1⟩) fun he => absurd he (by decide)⟩
theorem Depth_nil (v : Int) : HCalls Try.prog 32 #[.pointer none, .int .i64 v] h (fun r h' => r = .tuple #[.int .i64 0, .int .i64 1] ∧ Ext h h') := by
  refine succinct_Tree_Depth_call ?_
  rw [succinct_Tree_Depth_b0_eq]
  refine New_intro (cs := [.int .i64 v]) fun b1 h1 hb1 x1 k1 z1 => ?_
  refine check_nil.mono fun x h2 ⟨hh, hx⟩ => ?_
  subst hh
  exact ⟨_, hx, condN (fun _ => ⟨rfl, x1⟩) fun he => absurd he (by decide)⟩
theorem Size_nil (v : Int) : HCalls Try.prog 41 #[.pointer none, .int .i64 v] h (fun r h' => r = .tuple #[.int .i64 0, .int .i64 1] ∧ Ext h h') := by
  refine succinct_Tree_Size_call ?_
  rw [succinct_Tree_Size_b0_eq]
  refine New_intro (cs := [.int .i64 v]) fun b1 h1 hb1 x1 k1 z1 => ?_
  refine check_nil.mono fun x h2 ⟨hh, hx⟩ => ?_
  subst hh
  exact ⟨_, hx, condN (fun _ => ⟨rfl, x1⟩) fun he => absurd he (by decide)⟩
theorem Child_nil (v k : Int) : HCalls Try.prog 39 #[.pointer none, .int .i64 v, .int .i64 k] h (fun r h' => r = .tuple #[.int .i64 0, .int .i64 1] ∧ Ext h h') := by
  refine succinct_Tree_Child_call ?_
  rw [succinct_Tree_Child_b0_eq]
  refine New_intro (cs := [.int .i64 v]) fun b1 h1 hb1 x1 k1 z1 => ?_
  refine check_nil.mono fun x h2 ⟨hh, hx⟩ => ?_
  subst hh
  exact ⟨_, hx, condN (fun _ => ⟨rfl, x1⟩) fun he => absurd he (by decide)⟩
theorem Common_nil (v w : Int) : HCalls Try.prog 33 #[.pointer none, .int .i64 v, .int .i64 w] h (fun r h' => r = .tuple #[.int .i64 0, .int .i64 1] ∧ Ext h h') := by
  refine succinct_Tree_Common_call ?_
  rw [succinct_Tree_Common_b0_eq]
  refine New_intro (cs := [.int .i64 v, .int .i64 w]) fun b1 h1 hb1 x1 k1 z1 => ?_
  refine check_nil.mono fun x h2 ⟨hh, hx⟩ => ?_
  subst hh
  exact ⟨_, hx, condN (fun _ => ⟨rfl, x1⟩) fun he => absurd he (by decide)⟩
end
end Go.Proofs.Ytmlfoefadmlhpaa
