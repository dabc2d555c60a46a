/- Part W6 of the proof: contracts of functions of the program, and what follows from them. -/
import Derived.Test.YtomifmeccpconaaSxW5
set_option maxRecDepth 10000
namespace Go.Proofs.Ytomifmeccpconaa
open Go Go.Sx

theorem ext_grow {h h1 h2 : Hp} {E : TypeId} {p : Option Addr} {n c : Nat} {xs : List Value} (x : Ext h h1) (o : Own h1 h.size E p n c xs) (g : Grow h1 h2 p) : Ext h h2 :=
  ⟨Nat.le_trans x.size g.size, fun k hk => (g.same k (Nat.lt_of_lt_of_le hk x.size) fun a ha => by have := (o.lt a ha).1; omega).trans (x.same k hk)⟩

/-! ### slices.Equal -/
theorem list_eq_of {α : Type} {xs ys : List α} {d : α} (hl : xs.length = ys.length) (h : ∀ t, t < xs.length → xs.getD t d = ys.getD t d) : xs = ys := by
  apply List.ext_getElem hl
  intro i h1 h2
  have := h i h1
  simpa [List.getD, h1, h2] using this

theorem EqB_ok {h : Hp} {p q : Option Addr} {n c m d : Nat} {xs ys : List Bool} (r : Rd h p n (xs.map Value.bool)) (s : Rd h q m (ys.map Value.bool)) (hn : n ≤ 4611686018427387904) :
    HCalls Try.prog 22 #[.slice p n c, .slice q m d] h (fun v h' => v = .bool (decide (xs = ys)) ∧ h' = h) := by
  have hx : xs.length = n := by have := r.len; simpa using this
  have hy : ys.length = m := by have := s.len; simpa using this
  refine EqB_call ?_
  rw [EqB_b0_eq]
  refine condN (fun hne => ?_) (fun heq => ?_)
  · refine ⟨?_, rfl⟩
    rw [decide_eq_false (fun e => hne (by subst e; omega))]
  · have hnm : n = m := by omega
    refine ⟨fun s h' => h' = h ∧ ∃ i : Nat, i ≤ n ∧ s.1 = i ∧ ∀ t, t < i → xs.getD t false = ys.getD t false, fun s _ => (n - s.1).toNat, ⟨rfl, 0, by omega, rfl, by omega⟩, ?_⟩
    rintro ⟨si, _⟩ h' ⟨rfl, i, hi, hsi, ha⟩
    simp only at hsi
    subst hsi
    dsimp only
    rw [EqB_b1_eq]
    refine condP (fun hlt => ?_) (fun hge => ?_)
    · refine idx_bool r (by omega) (by omega) ?_
      refine idx_bool s (by omega) (by omega) ?_
      rw [show ((i : Nat) : Int).toNat = i by simp]
      refine cond_intro (fun hne => ?_) (fun heq' => ?_)
      · refine ⟨?_, rfl⟩
        rw [decide_eq_false]
        intro e
        subst e
        simp at hne
      · rw [EqB_b2_eq]
        refine ⟨⟨by omega, by omega⟩, ⟨rfl, i + 1, by omega, by simp only; omega, ?_⟩, by simp only; omega⟩
        intro t ht
        rcases Nat.lt_or_ge t i with h1 | h1
        · exact ha t h1
        · obtain rfl : t = i := by omega
          simpa using heq'
    · rw [EqB_b3_eq]
      refine ⟨?_, rfl⟩
      rw [decide_eq_true]
      exact list_eq_of (by omega) (fun t ht => ha t (by omega))

theorem EqI_ok {h : Hp} {p q : Option Addr} {n c m d : Nat} {xs ys : List Int} (r : Rd h p n (xs.map (Value.int .i64))) (s : Rd h q m (ys.map (Value.int .i64))) (hn : n ≤ 4611686018427387904) :
    HCalls Try.prog 24 #[.slice p n c, .slice q m d] h (fun v h' => v = .bool (decide (xs = ys)) ∧ h' = h) := by
  have hx : xs.length = n := by have := r.len; simpa using this
  have hy : ys.length = m := by have := s.len; simpa using this
  refine EqI_call ?_
  rw [EqI_b0_eq]
  refine condN (fun hne => ?_) (fun heq => ?_)
  · refine ⟨?_, rfl⟩
    rw [decide_eq_false (fun e => hne (by subst e; omega))]
  · have hnm : n = m := by omega
    refine ⟨fun s h' => h' = h ∧ ∃ i : Nat, i ≤ n ∧ s.1 = i ∧ ∀ t, t < i → xs.getD t 0 = ys.getD t 0, fun s _ => (n - s.1).toNat, ⟨rfl, 0, by omega, rfl, by omega⟩, ?_⟩
    rintro ⟨si, _⟩ h' ⟨rfl, i, hi, hsi, ha⟩
    simp only at hsi
    subst hsi
    dsimp only
    rw [EqI_b1_eq]
    refine condP (fun hlt => ?_) (fun hge => ?_)
    · refine idx_int r (by omega) (by omega) ?_
      refine idx_int s (by omega) (by omega) ?_
      rw [show ((i : Nat) : Int).toNat = i by simp]
      refine condN (fun hne => ?_) (fun heq' => ?_)
      · refine ⟨?_, rfl⟩
        rw [decide_eq_false]
        intro e
        subst e
        exact hne rfl
      · rw [EqI_b2_eq]
        refine ⟨⟨by omega, by omega⟩, ⟨rfl, i + 1, by omega, by simp only; omega, ?_⟩, by simp only; omega⟩
        intro t ht
        rcases Nat.lt_or_ge t i with h1 | h1
        · exact ha t h1
        · obtain rfl : t = i := by omega
          exact heq'
    · rw [EqI_b3_eq]
      refine ⟨?_, rfl⟩
      rw [decide_eq_true]
      exact list_eq_of (by omega) (fun t ht => ha t (by omega))

/-! ### Bits -/
theorem Bits_ok {h : Hp} {a : Addr} {bits : List Bool} (v : Vec h a bits) :
    HCalls Try.prog 23 #[.pointer (some a)] h (fun r h' => Ext h h' ∧ ∃ p c, r = .slice p bits.length c ∧ Rd h' p bits.length (bits.map Value.bool)) := by
  have hs : bits.length ≤ 65536 := by obtain ⟨ws, v⟩ := v; exact v.small
  refine Bits_call ?_
  rw [Bits_b0_eq]
  refine (Len_ok v).mono fun r h1 ⟨hr, hh⟩ => ?_
  subst hh
  refine ⟨_, hr, ?_⟩
  refine ⟨fun s h' => ∃ i : Nat, i ≤ bits.length ∧ s.2.1 = i ∧ i = s.1.2.1 ∧ Ext h1 h' ∧ Own h' h1.size 4 s.1.1 s.1.2.1 s.1.2.2 ((bits.take i).map Value.bool), fun s _ => (bits.length - s.2.1).toNat,
    ⟨0, by omega, rfl, rfl, Ext.refl _, .inl ⟨rfl, rfl, rfl, rfl⟩⟩, ?_⟩
  rintro ⟨⟨sp, sn, sc⟩, si, _⟩ h2 ⟨i, hi, hsi, hsn, x, o⟩
  simp only at hsi hsn o
  subst hsi hsn
  dsimp only
  rw [Bits_b1_eq]
  refine condP (fun hlt => ?_) (fun hge => ?_)
  · refine (get_ok (v.ext x) i (by omega)).mono fun r2 h3 ⟨hr2, hh⟩ => ?_
    subst hh
    refine ⟨_, hr2, ?_⟩
    refine push_own el_bool o x.size rfl (by omega) fun p' c' h4 o4 g => ?_
    rw [Bits_b2_eq]
    refine ⟨⟨by omega, by omega⟩, ⟨i + 1, by omega, by simp only; omega, rfl, ext_grow x o g, ?_⟩, by simp only; omega⟩
    have e : (bits.take (i + 1)).map Value.bool = (bits.take i).map Value.bool ++ [.bool (bits.getD i false)] := by
      rw [List.take_succ_eq_append_getElem (by omega)]
      have : bits.getD i false = bits[i]'(by omega) := by simp [List.getD, show i < bits.length by omega]
      rw [this, List.map_append]; rfl
    rw [e]; exact o4
  · rw [Bits_b3_eq]
    have : i = bits.length := by omega
    subst this
    refine ⟨x, sp, sc, rfl, ?_⟩
    have := o.rd
    rwa [List.take_of_length_le (Nat.le_refl _)] at this
theorem Bits_nil (h : Hp) : HCalls Try.prog 23 #[.pointer none] h (fun r h' => r = .slice none 0 0 ∧ h' = h) := by
  refine Bits_call ?_
  rw [Bits_b0_eq]
  refine (Len_nil h).mono fun r h1 ⟨hr, hh⟩ => ?_
  subst hh
  refine ⟨_, hr, ?_⟩
  refine ⟨fun s h' => h' = h1 ∧ s = ((none, 0, 0), 0, ()), fun _ _ => 0, ⟨rfl, rfl⟩, ?_⟩
  rintro _ h2 ⟨rfl, rfl⟩
  dsimp only
  rw [Bits_b1_eq]
  refine condP (fun hlt => by omega) (fun _ => ?_)
  rw [Bits_b3_eq]
  exact ⟨rfl, rfl⟩

/-! ### Runs -/
/-- The runs that are finished, the bit of the last one, and its length. -/
def runS (bits : List Bool) : Nat → List Int × Bool × Nat
  | 0 => ([], false, 0)
  | i + 1 => if bits.getD i false = (runS bits i).2.1 then ((runS bits i).1, (runS bits i).2.1, (runS bits i).2.2 + 1) else ((runS bits i).1 ++ [((runS bits i).2.2 : Int)], !(runS bits i).2.1, 1)
def runsB (bits : List Bool) : List Int := (runS bits bits.length).1 ++ if 0 < bits.length then [((runS bits bits.length).2.2 : Int)] else []
theorem runS_pos (bits : List Bool) : ∀ i, 0 < i → 0 < (runS bits i).2.2
  | i + 1, _ => by
    simp only [runS]
    split
    · simp only; omega
    · simp only; omega
theorem runS_le (bits : List Bool) : ∀ i, (runS bits i).2.2 ≤ i
  | 0 => Nat.le_refl _
  | i + 1 => by
    have := runS_le bits i
    simp only [runS]
    split
    · simp only; omega
    · simp only; omega
theorem runS_len (bits : List Bool) : ∀ i, (runS bits i).1.length ≤ i
  | 0 => Nat.le_refl _
  | i + 1 => by
    have := runS_len bits i
    simp only [runS]
    split
    · simp only; omega
    · simp only [List.length_append, List.length_cons, List.length_nil]; omega
theorem runS_sum (bits : List Bool) : ∀ i, (runS bits i).1.sum + (runS bits i).2.2 = i
  | 0 => rfl
  | i + 1 => by
    have := runS_sum bits i
    simp only [runS]
    split
    · simp only; omega
    · simp only [List.sum_append, List.sum_cons, List.sum_nil]; omega
theorem runsB_sum (bits : List Bool) : (runsB bits).sum = bits.length := by
  have := runS_sum bits bits.length
  unfold runsB
  split
  · simp only [List.sum_append, List.sum_cons, List.sum_nil]; omega
  · have h0 : bits.length = 0 := by omega
    rw [h0] at this ⊢
    simp [runS]
theorem runS_ge (bits : List Bool) : ∀ i, ∀ x ∈ (runS bits i).1, 0 ≤ x
  | 0 => by simp [runS]
  | i + 1 => by
    have := runS_ge bits i
    simp only [runS]
    split
    · exact this
    · intro x hx
      simp only [List.mem_append, List.mem_singleton] at hx
      rcases hx with hx | hx
      · exact this x hx
      · omega
theorem runsB_ge (bits : List Bool) : ∀ x ∈ runsB bits, 0 ≤ x := by
  intro x hx
  unfold runsB at hx
  split at hx
  · simp only [List.mem_append, List.mem_singleton] at hx
    rcases hx with hx | hx
    · exact runS_ge bits _ x hx
    · omega
  · simp only [List.append_nil] at hx; exact runS_ge bits _ x hx

theorem Runs_ok {h : Hp} {a : Addr} {bits : List Bool} (v : Vec h a bits) :
    HCalls Try.prog 25 #[.pointer (some a)] h (fun r h' => Ext h h' ∧ ∃ p c, r = .slice p (runsB bits).length c ∧ Rd h' p (runsB bits).length ((runsB bits).map (Value.int .i64))) := by
  have hs : bits.length ≤ 65536 := by obtain ⟨ws, v⟩ := v; exact v.small
  refine Runs_call ?_
  rw [Runs_b0_eq]
  refine (Len_ok v).mono fun r h1 ⟨hr, hh⟩ => ?_
  subst hh
  refine ⟨_, hr, ?_⟩
  refine ⟨fun s h' => ∃ i : Nat, i ≤ bits.length ∧ s.2.2.2.1 = i ∧ s.2.1 = (runS bits i).2.1 ∧ s.2.2.1 = (runS bits i).2.2 ∧ s.1.2.1 = (runS bits i).1.length ∧ Ext h1 h' ∧ Own h' h1.size 3 s.1.1 s.1.2.1 s.1.2.2 ((runS bits i).1.map (Value.int .i64)),
    fun s _ => (bits.length - s.2.2.2.1).toNat, ⟨0, by omega, rfl, rfl, rfl, rfl, Ext.refl _, .inl ⟨rfl, rfl, rfl, rfl⟩⟩, ?_⟩
  rintro ⟨⟨sp, sn, sc⟩, sb, sm, si, _⟩ h2 ⟨i, hi, hsi, hsb, hsm, hsn, x, o⟩
  simp only at hsi hsn hsb hsm o
  have hle := runS_le bits i
  have hln := runS_len bits i
  subst hsi hsn hsb hsm
  dsimp only
  rw [Runs_b1_eq]
  refine condP (fun hlt => ?_) (fun hge => ?_)
  · refine (get_ok (v.ext x) i (by omega)).mono fun r2 h3 ⟨hr2, hh⟩ => ?_
    subst hh
    refine ⟨_, hr2, ?_⟩
    refine cond_intro (fun hne => ?_) (fun heq => ?_)
    · have hne' : ¬ bits.getD i false = (runS bits i).2.1 := by simpa using hne
      refine push_own el_int o x.size rfl (by omega) fun p' c' h4 o4 g => ?_
      rw [Runs_b2_eq]
      refine ⟨⟨by omega, by omega⟩, ?_⟩
      rw [Runs_b4_eq]
      have e : runS bits (i + 1) = ((runS bits i).1 ++ [((runS bits i).2.2 : Int)], !(runS bits i).2.1, 1) := by simp only [runS]; rw [if_neg hne']
      refine ⟨⟨by omega, by omega⟩, ⟨i + 1, by omega, by simp only; omega, by rw [e], by rw [e]; rfl, by rw [e]; simp, ext_grow x o g, ?_⟩, by simp only; omega⟩
      rw [e]; simp only [List.map_append, List.map_cons, List.map_nil]; exact o4
    · have heq' : bits.getD i false = (runS bits i).2.1 := by simpa using heq
      rw [Runs_b2_eq]
      refine ⟨⟨by omega, by omega⟩, ?_⟩
      rw [Runs_b4_eq]
      have e : runS bits (i + 1) = ((runS bits i).1, (runS bits i).2.1, (runS bits i).2.2 + 1) := by simp only [runS]; rw [if_pos heq']
      refine ⟨⟨by omega, by omega⟩, ⟨i + 1, by omega, by simp only; omega, by rw [e], by rw [e]; rfl, by rw [e], x, ?_⟩, by simp only; omega⟩
      rw [e]; exact o
  · rw [Runs_b3_eq]
    have : i = bits.length := by omega
    subst this
    refine condP (fun hp => ?_) (fun hp => ?_)
    · refine push_own el_int o x.size rfl (by omega) fun p' c' h4 o4 g => ?_
      rw [Runs_b5_eq]
      have e : runsB bits = (runS bits bits.length).1 ++ [((runS bits bits.length).2.2 : Int)] := by unfold runsB; rw [if_pos (by omega)]
      refine ⟨ext_grow x o g, p', c', by rw [e]; simp, ?_⟩
      rw [e]; simp only [List.map_append, List.map_cons, List.map_nil, List.length_append, List.length_cons, List.length_nil]; exact o4.rd
    · rw [Runs_b5_eq]
      have h0 : bits.length = 0 := by
        rcases Nat.eq_zero_or_pos bits.length with h0 | h0
        · exact h0
        · have := runS_pos bits bits.length h0; omega
      have e : runsB bits = (runS bits bits.length).1 := by unfold runsB; rw [if_neg (by omega)]; simp
      refine ⟨x, sp, sc, by rw [e], ?_⟩
      rw [e]; exact o.rd
theorem Runs_nil (h : Hp) : HCalls Try.prog 25 #[.pointer none] h (fun r h' => r = .slice none 0 0 ∧ h' = h) := by
  refine Runs_call ?_
  rw [Runs_b0_eq]
  refine (Len_nil h).mono fun r h1 ⟨hr, hh⟩ => ?_
  subst hh
  refine ⟨_, hr, ?_⟩
  refine ⟨fun s h' => h' = h1 ∧ s = ((none, 0, 0), false, 0, 0, ()), fun _ _ => 0, ⟨rfl, rfl⟩, ?_⟩
  rintro _ h2 ⟨rfl, rfl⟩
  dsimp only
  rw [Runs_b1_eq]
  refine condP (fun hlt => by omega) (fun _ => ?_)
  rw [Runs_b3_eq]
  refine condP (fun hlt => by omega) (fun _ => ?_)
  rw [Runs_b5_eq]
  exact ⟨rfl, rfl⟩

theorem rRuns_ok {h : Hp} {p : Option Addr} {n c : Nat} {bits : List Bool} (r : Rd h p n (bits.map Value.bool)) (hn : n ≤ 65536) :
    HCalls Try.prog 26 #[.slice p n c] h (fun r h' => Ext h h' ∧ ∃ p c, r = .slice p (runsB bits).length c ∧ Rd h' p (runsB bits).length ((runsB bits).map (Value.int .i64))) := by
  have hbl : bits.length = n := by have := r.len; simpa using this
  refine rRuns_call ?_
  rw [rRuns_b0_eq]
  refine ⟨fun s h' => ∃ i : Nat, i ≤ n ∧ s.2.2.2.1 = i ∧ s.2.1 = (runS bits i).2.1 ∧ s.2.2.1 = (runS bits i).2.2 ∧ s.1.2.1 = (runS bits i).1.length ∧ Ext h h' ∧ Own h' h.size 3 s.1.1 s.1.2.1 s.1.2.2 ((runS bits i).1.map (Value.int .i64)),
    fun s _ => (n - s.2.2.2.1).toNat, ⟨0, by omega, rfl, rfl, rfl, rfl, Ext.refl _, .inl ⟨rfl, rfl, rfl, rfl⟩⟩, ?_⟩
  rintro ⟨⟨sp, sn, sc⟩, sb, sm, si, _⟩ h2 ⟨i, hi, hsi, hsb, hsm, hsn, x, o⟩
  simp only at hsi hsn hsb hsm o
  have hle := runS_le bits i
  have hln := runS_len bits i
  subst hsi hsn hsb hsm
  dsimp only
  rw [rRuns_b1_eq]
  refine condP (fun hlt => ?_) (fun hge => ?_)
  · refine idx_bool (r.ext x) (by omega) (by omega) ?_
    rw [show ((i : Nat) : Int).toNat = i by simp]
    refine cond_intro (fun hne => ?_) (fun heq => ?_)
    · have hne' : ¬ bits.getD i false = (runS bits i).2.1 := by simpa using hne
      refine push_own el_int o x.size rfl (by omega) fun p' c' h4 o4 g => ?_
      have x4 := ext_grow x o g
      refine idx_bool (r.ext x4) (by omega) (by omega) ?_
      rw [show ((i : Nat) : Int).toNat = i by simp]
      rw [rRuns_b2_eq]
      refine ⟨⟨by omega, by omega⟩, ?_⟩
      rw [rRuns_b4_eq]
      have e : runS bits (i + 1) = ((runS bits i).1 ++ [((runS bits i).2.2 : Int)], !(runS bits i).2.1, 1) := by simp only [runS]; rw [if_neg hne']
      refine ⟨⟨by omega, by omega⟩, ⟨i + 1, by omega, by simp only; omega, ?_, by rw [e]; rfl, by rw [e]; simp, x4, ?_⟩, by simp only; omega⟩
      · rw [e]; simp only
        revert hne'; cases bits.getD i false <;> cases (runS bits i).2.1 <;> simp
      · rw [e]; simp only [List.map_append, List.map_cons, List.map_nil]; exact o4
    · have heq' : bits.getD i false = (runS bits i).2.1 := by simpa using heq
      rw [rRuns_b2_eq]
      refine ⟨⟨by omega, by omega⟩, ?_⟩
      rw [rRuns_b4_eq]
      have e : runS bits (i + 1) = ((runS bits i).1, (runS bits i).2.1, (runS bits i).2.2 + 1) := by simp only [runS]; rw [if_pos heq']
      refine ⟨⟨by omega, by omega⟩, ⟨i + 1, by omega, by simp only; omega, by rw [e], by rw [e]; rfl, by rw [e], x, ?_⟩, by simp only; omega⟩
      rw [e]; exact o
  · rw [rRuns_b3_eq]
    have : i = n := by omega
    subst this
    refine condP (fun hp => ?_) (fun hp => ?_)
    · refine push_own el_int o x.size rfl (by omega) fun p' c' h4 o4 g => ?_
      rw [rRuns_b5_eq]
      have e : runsB bits = (runS bits i).1 ++ [((runS bits i).2.2 : Int)] := by unfold runsB; rw [if_pos (by omega), hbl]
      refine ⟨ext_grow x o g, p', c', by rw [e]; simp, ?_⟩
      rw [e]; simp only [List.map_append, List.map_cons, List.map_nil, List.length_append, List.length_cons, List.length_nil]; exact o4.rd
    · rw [rRuns_b5_eq]
      have e : runsB bits = (runS bits i).1 := by unfold runsB; rw [if_neg (by omega), hbl]; simp
      refine ⟨x, sp, sc, by rw [e], ?_⟩
      rw [e]; exact o.rd

theorem number_ok (nv e want none_ : Int) (h : Hp) :
    HCalls Try.prog 14 #[.int .i64 nv, .int .i64 e, .int .i64 want, .int .i64 none_] h (fun v h' => h' = h ∧ v = .bool (decide ((want < 0 ∧ nv = 0 ∧ e = none_) ∨ (0 ≤ want ∧ nv = want ∧ e = 0)))) := by
  refine number_call ?_
  rw [number_b0_eq]
  refine condP (fun hw => ?_) (fun hw => ?_)
  · refine condP (fun h0 => ⟨rfl, ?_⟩) (fun h0 => ⟨rfl, ?_⟩)
    · congr 1; rw [decide_eq_decide]; omega
    · congr 1; symm; rw [decide_eq_false_iff_not]; omega
  · refine condP (fun h0 => ⟨rfl, ?_⟩) (fun h0 => ⟨rfl, ?_⟩)
    · congr 1; rw [decide_eq_decide]; omega
    · congr 1; symm; rw [decide_eq_false_iff_not]; omega
end Go.Proofs.Ytomifmeccpconaa
