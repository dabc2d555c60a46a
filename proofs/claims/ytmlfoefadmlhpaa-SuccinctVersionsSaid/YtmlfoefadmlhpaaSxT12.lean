/- Part T12 of the proof: contracts of functions of the program, and what follows from them. -/
import Derived.Test.YtmlfoefadmlhpaaSxT11
set_option maxRecDepth 10000
namespace Go.Proofs.Ytmlfoefadmlhpaa
open Go Go.Sx

section
variable {h : Hp} {p : Option Addr} {n c : Nat} {l : List Int}
theorem vValid_ok (r : Rd h p n (ints l)) (hn : n ≤ 4611686018427387904) : HCalls Try.prog 28 #[.agg #[.slice p n c]] h (fun v h' => Ext h h' ∧ ((okP l ∧ n ≤ 1000 ∧ v = .bool true) ∨ (¬ (okP l ∧ n ≤ 1000) ∧ v = .bool false))) := by
  have hzl : l.length = n := by have := r.len; simpa using this
  refine r32_Valid_call ?_
  rw [r32_Valid_b0_eq]
  refine New_intro (cs := [.slice p n c]) fun b1 h1 hb1 x1 k1 z1 => ?_
  have c1 : cell h1 ⟨b1, 0, none⟩ = some (.slice p n c) := k1.cell 0
  refine ⟨_, _, _, c1, condP (fun hc => ⟨x1, .inr ⟨fun ok => by have := ok.1.1; omega, rfl⟩⟩) fun h0 => ?_⟩
  refine ⟨_, _, _, c1, condP (fun hc => ⟨x1, .inr ⟨fun ok => by omega, rfl⟩⟩) fun hb => ?_⟩
  refine ⟨_, _, _, c1, ?_⟩
  refine idx_int (r.ext x1) (by omega) (by omega) ?_
  rw [show ((0 : Int)).toNat = 0 by rfl]
  refine condN (fun hne => ⟨x1, .inr ⟨fun ok => hne ok.1.2.1, rfl⟩⟩) fun h2 => ?_
  rw [r32_Valid_b1_eq]
  refine ⟨fun s h' => h' = h1 ∧ ∃ i : Nat, s.1 = i ∧ 1 ≤ i ∧ i ≤ n ∧ ∀ t, 0 < t → t < i → 0 ≤ at_ l t ∧ at_ l t < (t : Int), fun s _ => (n - s.1).toNat, ⟨rfl, 1, rfl, by omega, by omega, by omega⟩, ?_⟩
  rintro ⟨si, _⟩ h' ⟨rfl, i, hi, hi1, hin, hall⟩
  simp only at hi
  subst hi
  dsimp only
  rw [r32_Valid_b2_eq]
  have e : ((i : Nat) : Int).toNat = i := by simp
  refine ⟨_, _, _, c1, condP (fun hlt => ?_) (fun hge => ?_)⟩
  · refine ⟨_, _, _, c1, ?_⟩
    refine idx_int (r.ext x1) (by omega) (by omega) ?_
    rw [e]
    refine condP (fun h2 => ⟨x1, .inr ⟨fun ok => ?_, rfl⟩⟩) fun h2 => ?_
    · have := (ok.1.2.2 i (by omega) (by omega)).1
      exact absurd (show at_ l i < 0 from h2) (by omega)
    refine ⟨_, _, _, c1, ?_⟩
    refine idx_int (r.ext x1) (by omega) (by omega) ?_
    rw [e]
    refine condP (fun h3 => ⟨x1, .inr ⟨fun ok => ?_, rfl⟩⟩) fun h3 => ?_
    · have := (ok.1.2.2 i (by omega) (by omega)).2
      exact absurd (show (i : Int) ≤ at_ l i from h3) (by omega)
    rw [r32_Valid_b3_eq]
    refine ⟨⟨by omega, by omega⟩, ⟨rfl, i + 1, by simp only; omega, by omega, by omega, fun t ht0 ht => ?_⟩, by simp only; omega⟩
    rcases Nat.lt_or_ge t i with h4 | h4
    · exact hall t ht0 h4
    · obtain rfl : t = i := by omega
      exact ⟨Int.not_lt.1 h2, Int.not_le.1 h3⟩
  · rw [r32_Valid_b4_eq]
    exact ⟨x1, .inl ⟨⟨by omega, h2, fun t ht0 ht => hall t ht0 (by omega)⟩, by omega, rfl⟩⟩

theorem vIs_ok (v : Int) : HCalls Try.prog 29 #[.agg #[.slice p n c], .int .i64 v] h (fun x h' => Ext h h' ∧ x = .bool (decide (0 ≤ v ∧ v < (n : Int)))) := by
  refine r32_Is_call ?_
  rw [r32_Is_b0_eq]
  refine New_intro (cs := [.slice p n c]) fun b1 h1 hb1 x1 k1 z1 => ?_
  refine condP (fun h0 => ⟨_, _, _, k1.cell 0, x1, ?_⟩) (fun h0 => ⟨x1, ?_⟩)
  · congr 1; rw [decide_eq_decide]; omega
  · rw [decide_eq_false (by omega)]

theorem vChildren_ok (r : Rd h p n (ints l)) (_ok : okP l) (hn : n ≤ 1000) {v : Nat} (hv : v < n) : HCalls Try.prog 58 #[.agg #[.slice p n c], .int .i64 (v : Int)] h (fun x h' => Ext h h' ∧ ∃ q m d, x = .slice q m d ∧ Own h' h.size 3 q m d (natV (kids l v))) := by
  have hzl : l.length = n := by have := r.len; simpa using this
  refine r32_Children_call ?_
  rw [r32_Children_b0_eq]
  refine New_intro (cs := [.slice p n c]) fun b1 h1 hb1 x1 k1 z1 => ?_
  refine ⟨fun s h' => ∃ i : Nat, s.2.1 = i ∧ i ≤ n ∧ Ext h1 h' ∧ Own h' h1.size 3 s.1.1 s.1.2.1 s.1.2.2 (natV (kidsTo l v i)), fun s _ => (n - s.2.1).toNat, ⟨0, rfl, by omega, Ext.refl _, .inl ⟨rfl, rfl, rfl, rfl⟩⟩, ?_⟩
  rintro ⟨⟨sp, sn, sc⟩, si, _⟩ h2 ⟨i, hi, hin, x2, o⟩
  simp only at hi o
  subst hi
  dsimp only
  have c1 : cell h2 ⟨b1, 0, none⟩ = some (.slice p n c) := (k1.ext x2).cell 0
  have e : ((i : Nat) : Int).toNat = i := by simp
  have hkn : (kidsTo l v i).length ≤ i := by unfold kidsTo; exact Nat.le_trans (List.length_filter_le _ _) (by simp)
  have hkl : (kidsTo l v i).length = sn := by have := o.len; simpa using this
  have hks := kidsTo_succ l v i
  rw [r32_Children_b1_eq]
  refine ⟨_, _, _, c1, condP (fun hlt => ?_) (fun hge => ?_)⟩
  · refine ⟨_, _, _, c1, ?_⟩
    refine idx_int ((r.ext x1).ext x2) (by omega) (by omega) ?_
    rw [e]
    refine condP (fun h3 => ?_) (fun h3 => ?_)
    · have h3' : at_ l i = (v : Int) := h3
      rw [if_pos h3'] at hks
      refine push_own el_int o x2.size rfl (by omega) fun p' c' h4 o4 g4 => ?_
      rw [r32_Children_b2_eq]
      refine ⟨⟨by omega, by omega⟩, ⟨i + 1, by simp only; omega, by omega, ext_grow x2 o g4, ?_⟩, by simp only; omega⟩
      have : natV (kidsTo l v (i + 1)) = natV (kidsTo l v i) ++ [.int .i64 (i : Int)] := by rw [hks]; simp [natV]
      rw [this]; exact o4
    · have h3' : ¬ at_ l i = (v : Int) := h3
      rw [if_neg h3', List.append_nil] at hks
      rw [r32_Children_b2_eq]
      refine ⟨⟨by omega, by omega⟩, ⟨i + 1, by simp only; omega, by omega, x2, ?_⟩, by simp only; omega⟩
      rw [hks]; exact o
  · rw [r32_Children_b3_eq]
    have : kidsTo l v i = kids l v := by
      unfold kids kidsTo
      rw [show i = l.length by omega]
    rw [this] at o
    have hx1 := x1.size
    refine ⟨x1.trans x2, _, _, _, rfl, ?_⟩
    rcases o with h5 | ⟨b, rest, h5, h6⟩
    · exact .inl h5
    · exact .inr ⟨b, rest, by omega, h6⟩

theorem vAncestor_ok (r : Rd h p n (ints l)) (ok : okP l) (_hn : n ≤ 1000) {a b : Nat} (hb : b < n) : HCalls Try.prog 63 #[.agg #[.slice p n c], .int .i64 (a : Int), .int .i64 (b : Int)] h (fun x h' => Ext h h' ∧ ((AncL l a b ∧ x = .bool true) ∨ (¬ AncL l a b ∧ x = .bool false))) := by
  have hzl : l.length = n := by have := r.len; simpa using this
  refine r32_Ancestor_call ?_
  rw [r32_Ancestor_b0_eq]
  refine New_intro (cs := [.slice p n c]) fun b1 h1 hb1 x1 k1 z1 => ?_
  have c1 : cell h1 ⟨b1, 0, none⟩ = some (.slice p n c) := k1.cell 0
  refine ⟨fun s h' => h' = h1 ∧ ((s.1 = -1 ∧ ¬ AncL l a b) ∨ ∃ k : Nat, s.1 = k ∧ k < n ∧ (AncL l a k ↔ AncL l a b)), fun s _ => (s.1 + 1).toNat, ⟨rfl, .inr ⟨b, rfl, hb, Iff.rfl⟩⟩, ?_⟩
  rintro ⟨sk, _⟩ h2 ⟨rfl, hor⟩
  simp only at hor
  dsimp only
  rw [r32_Ancestor_b1_eq]
  rcases hor with ⟨rfl, hno⟩ | ⟨k, rfl, hk, hiff⟩
  · refine condP (fun hc => by omega) fun _ => ?_
    rw [r32_Ancestor_b3_eq]
    exact ⟨x1, .inr ⟨hno, rfl⟩⟩
  · refine condP (fun _ => ?_) (fun hc => by omega)
    refine condP (fun heq => ⟨x1, .inl ⟨hiff.1 (by rw [show a = k by omega]; exact .refl), rfl⟩⟩) fun hne => ?_
    rw [r32_Ancestor_b2_eq]
    refine ⟨_, _, _, c1, ?_⟩
    refine idx_int (r.ext x1) (by omega) (by omega) ?_
    rw [show ((k : Nat) : Int).toNat = k by simp]
    rcases Nat.eq_zero_or_pos k with h0 | h0
    · subst h0
      have h3 : l.getD 0 0 = -1 := ok.2.1
      refine ⟨⟨rfl, .inl ⟨h3, fun ha => ?_⟩⟩, by simp only; omega⟩
      have := (hiff.2 ha).le ok
      omega
    · have hpv := ok.2.2 k h0 (by omega)
      obtain ⟨q, hq⟩ := Int.eq_ofNat_of_zero_le hpv.1
      have hq' : l.getD k 0 = (q : Int) := hq
      rw [hq']
      refine ⟨⟨rfl, .inr ⟨q, rfl, by omega, ?_⟩⟩, by simp only; omega⟩
      refine Iff.trans ⟨fun h3 => .step (by omega) hq h3, fun h3 => ?_⟩ hiff
      cases h3 with
      | refl => omega
      | step g1 g2 g3 =>
        rw [hq] at g2
        obtain rfl := Int.ofNat.inj g2
        exact g3

theorem vCommon_ok (r : Rd h p n (ints l)) (ok : okP l) (hn : n ≤ 1000) {a b : Nat} (ha : a < n) (hb : b < n) : HCalls Try.prog 36 #[.agg #[.slice p n c], .int .i64 (a : Int), .int .i64 (b : Int)] h (fun x h' => Ext h h' ∧ ∃ k : Nat, k < n ∧ x = .int .i64 (k : Int) ∧ AncL l k a ∧ AncL l k b ∧ ∀ d, AncL l d a → AncL l d b → AncL l d k) := by
  have hzl : l.length = n := by have := r.len; simpa using this
  refine r32_Common_call ?_
  rw [r32_Common_b0_eq]
  refine New_intro (cs := [.slice p n c]) fun b1 h1 hb1 x1 k1 z1 => ?_
  refine ⟨fun s h' => Ext h1 h' ∧ ∃ k : Nat, s.1 = k ∧ k < n ∧ AncL l k a ∧ ∀ d, AncL l d a → AncL l d b → AncL l d k, fun s _ => s.1.toNat, ⟨Ext.refl _, a, rfl, ha, .refl, fun d h3 _ => h3⟩, ?_⟩
  rintro ⟨sk, _⟩ h2 ⟨x2, k, hk, hkn, hka, hall⟩
  simp only at hk
  subst hk
  dsimp only
  rw [r32_Common_b1_eq]
  have c1 : cell h2 ⟨b1, 0, none⟩ = some (.slice p n c) := (k1.ext x2).cell 0
  have r2 := (r.ext x1).ext x2
  refine ⟨_, _, _, c1, ?_⟩
  refine (vAncestor_ok r2 ok hn hb).mono fun x h3 ⟨x3, hx⟩ => ?_
  rcases hx with ⟨hanc, rfl⟩ | ⟨hno, rfl⟩
  · refine ⟨_, rfl, condNo rfl ?_⟩
    rw [r32_Common_b2_eq]
    exact ⟨(x1.trans x2).trans x3, k, hkn, rfl, hka, hanc, hall⟩
  · refine ⟨_, rfl, condYes rfl ⟨_, _, _, x3.cell c1, ?_⟩⟩
    refine idx_int (r2.ext x3) (by omega) (by omega) ?_
    rw [show ((k : Nat) : Int).toNat = k by simp]
    rcases Nat.eq_zero_or_pos k with h0 | h0
    · exfalso
      subst h0
      have root : ∀ y, y < l.length → AncL l 0 y := by
        intro y
        induction y using Nat.strongRecOn with
        | _ y ih =>
          intro hy
          rcases Nat.eq_zero_or_pos y with h5 | h5
          · subst h5; exact .refl
          · have hpv := ok.2.2 y h5 hy
            obtain ⟨q, hq⟩ := Int.eq_ofNat_of_zero_le hpv.1
            exact .step hy hq (ih q (by omega) (by omega))
      exact hno (root b (by omega))
    · have hpv := ok.2.2 k h0 (by omega)
      obtain ⟨q, hq⟩ := Int.eq_ofNat_of_zero_le hpv.1
      have hq' : l.getD k 0 = (q : Int) := hq
      rw [hq']
      refine ⟨⟨x2.trans x3, q, rfl, by omega, ?_, fun d h5 h6 => ?_⟩, by simp only; omega⟩
      · exact (AncL.step (by omega) hq .refl).trans hka
      · cases hall d h5 h6 with
        | refl => exact absurd h6 hno
        | step g1 g2 g3 =>
          rw [hq] at g2
          obtain rfl := Int.ofNat.inj g2
          exact g3

theorem vPath_ok (r : Rd h p n (ints l)) (ok : okP l) (hn : n ≤ 1000) {a : Nat} (ha : a < n) : HCalls Try.prog 35 #[.agg #[.slice p n c], .int .i64 (a : Int)] h (fun x h' => Ext h h' ∧ ∃ q d k, x = .slice q (d + 1) k ∧ DepL l a d) := by
  have hzl : l.length = n := by have := r.len; simpa using this
  refine r32_Path_call ?_
  rw [r32_Path_b0_eq]
  refine New_intro (cs := [.slice p n c]) fun b1 h1 hb1 x1 k1 z1 => ?_
  refine ⟨fun s h' => Ext h1 h' ∧ ∃ xs : List Int, Own h' h1.size 3 s.1.1 s.1.2.1 s.1.2.2 (ints xs) ∧ ((s.2.1 = -1 ∧ ∃ d, s.1.2.1 = d + 1 ∧ DepL l a d) ∨ ∃ k : Nat, s.2.1 = k ∧ k < n ∧ (∀ d, DepL l k d → DepL l a (d + s.1.2.1)) ∧ s.1.2.1 + k ≤ n), fun s _ => (s.2.1 + 1).toNat,
    ⟨Ext.refl _, [], .inl ⟨rfl, rfl, rfl, rfl⟩, .inr ⟨a, rfl, ha, fun d hd => hd, by simp only; omega⟩⟩, ?_⟩
  rintro ⟨⟨sp, sn, sc⟩, sk, _⟩ h2 ⟨x2, xs, o, hor⟩
  simp only at o hor
  dsimp only
  rw [r32_Path_b1_eq]
  have c1 : cell h2 ⟨b1, 0, none⟩ = some (.slice p n c) := (k1.ext x2).cell 0
  rcases hor with ⟨rfl, d, hsn, hd⟩ | ⟨k, rfl, hk, hdep, hlen⟩
  · refine condP (fun hc => by omega) fun _ => ?_
    rw [r32_Path_b3_eq]
    have hdn : sn < 1099511627776 := by
      have hdb : ∀ {u e : Nat}, DepL l u e → u < l.length → e ≤ u := by
        intro u e h5
        induction h5 with
        | zero => intro _; omega
        | succ g1 g2 _ ih => intro g4; have := kid_gt ok (mem_kids.2 ⟨g1, g2⟩); have := ih (by omega); omega
      have := hdb hd (by omega)
      omega
    refine ⟨⟨by omega, by omega⟩, ?_⟩
    refine ⟨fun s h' => Ext h2 h' ∧ ∃ (m : Nat) (ys : List Int), Own h' h2.size 3 s.1.1 s.1.2.1 s.1.2.2 (ints ys) ∧ s.2.1 = (m : Int) - 1 ∧ m + s.1.2.1 = sn, fun s _ => (s.2.1 + 1).toNat, ⟨Ext.refl _, sn, [], .inl ⟨rfl, rfl, rfl, rfl⟩, rfl, by simp⟩, ?_⟩
    rintro ⟨⟨tp, tn, tc⟩, si, _⟩ h3 ⟨x3, m, ys, o3, hm, hmt⟩
    simp only at o3 hm hmt
    subst hm
    dsimp only
    rw [r32_Path_b4_eq]
    refine condP (fun hpos => ?_) (fun hneg => ?_)
    · refine idx_int (o.ext x3).rd (by omega) (by omega) ?_
      refine push_own el_int o3 x3.size rfl (by omega) fun p' c' h4 o4 g4 => ?_
      rw [r32_Path_b5_eq]
      refine ⟨⟨by omega, by omega⟩, ⟨ext_grow x3 o3 g4, m - 1, ys ++ [xs.getD ((m : Int) - 1).toNat 0], ?_, by simp only; omega, by simp only; omega⟩, by simp only; omega⟩
      have : ints (ys ++ [xs.getD ((m : Int) - 1).toNat 0]) = ints ys ++ [.int .i64 (xs.getD ((m : Int) - 1).toNat 0)] := by simp [ints]
      rw [this]; exact o4
    · rw [r32_Path_b6_eq]
      have : tn = d + 1 := by omega
      subst this
      exact ⟨(x1.trans x2).trans x3, _, d, _, rfl, hd⟩
  · refine condP (fun _ => ?_) (fun hc => by omega)
    refine push_own el_int o x2.size rfl (by omega) fun p' c' h4 o4 g4 => ?_
    have x4 := ext_grow x2 o g4
    rw [r32_Path_b2_eq]
    refine ⟨_, _, _, (k1.ext x4).cell 0, ?_⟩
    refine idx_int ((r.ext x1).ext x4) (by omega) (by omega) ?_
    rw [show ((k : Nat) : Int).toNat = k by simp]
    have hints : ints (xs ++ [(k : Int)]) = ints xs ++ [.int .i64 (k : Int)] := by simp [ints]
    rw [← hints] at o4
    rcases Nat.eq_zero_or_pos k with h0 | h0
    · subst h0
      have h3 : l.getD 0 0 = -1 := ok.2.1
      have := hdep 0 .zero
      exact ⟨⟨x4, _, o4, .inl ⟨h3, sn, rfl, by simpa using this⟩⟩, by simp only; omega⟩
    · have hpv := ok.2.2 k h0 (by omega)
      obtain ⟨q, hq⟩ := Int.eq_ofNat_of_zero_le hpv.1
      have hq' : l.getD k 0 = (q : Int) := hq
      rw [hq']
      refine ⟨⟨x4, _, o4, .inr ⟨q, rfl, by omega, fun d hd => ?_, by simp only; omega⟩⟩, by simp only; omega⟩
      have := hdep (d + 1) (.succ (by omega) hq hd)
      rw [show d + (sn + 1) = d + 1 + sn by omega]; exact this
end
end Go.Proofs.Ytmlfoefadmlhpaa
