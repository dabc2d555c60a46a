/- Part U1 of the proof: contracts of functions of the program, and what follows from them. -/
import Derived.Test.YtaemnjblcpknpaaSxU0
set_option maxRecDepth 100000
namespace Go.Proofs.Ytaemnjblcpknpaa
open Go Go.Sx
theorem callX_of {P : Program} {F : Nat → Bool} {g : Nat} {args : Array Value} {h : Hp} {K : Value → Hp → Prop} (hF : F g = true) (hc : HCalls P g args h K) : callX P F g args h K := by
  unfold callX; rw [hF]; exact hc
theorem at_get {zs : List Int} {k : Nat} (hk : k < zs.length) : at_ zs k = zs[k] := by simp [at_, List.getD, hk]
abbrev KeyP (z : Int) : Prop := -1048576 ≤ z ∧ z ≤ 1048576
instance (z : Int) : Decidable (KeyP z) := inferInstanceAs (Decidable (_ ∧ _))
theorem number_c1_ok (z : Int) (h : Hp) : HCalls Try.prog 62 #[.int .i64 z] h (fun v h' => h' = h ∧ v = .bool (!decide (KeyP z))) := by
  refine btree_number_c1_call ?_
  rw [btree_number_c1_b0_eq]
  refine condP (fun h1 => ⟨rfl, ?_⟩) (fun h1 => ⟨rfl, ?_⟩)
  · rw [decide_eq_false (by omega)]; rfl
  · by_cases h2 : z ≤ 1048576
    · rw [decide_eq_true (p := KeyP z) (by omega), decide_eq_false (by omega)]; rfl
    · rw [decide_eq_false (p := KeyP z) (by omega), decide_eq_true (by omega)]; rfl
theorem numIndex_ok {h : Hp} {p : Option Addr} {n c : Nat} {zs : List Int} (r : Rd h p n (ints zs)) (hn : n ≤ 1000000) :
    HCalls Try.prog 86 #[.slice p n c, .func (.func 62) #[] #[]] h (fun v h' => h' = h ∧ ∃ x : Int, v = .int .i64 x ∧ ((x = -1 ∧ ∀ z ∈ zs, KeyP z) ∨ (0 ≤ x ∧ ∃ z ∈ zs, ¬ KeyP z))) := by
  have hzl : zs.length = n := by have := r.len; simpa using this
  refine slices_IndexFunc_Sint_int_call ?_
  rw [slices_IndexFunc_Sint_int_b0_eq]
  refine ⟨fun s h' => h' = h ∧ ∃ i : Nat, s.1 = i ∧ i ≤ n ∧ ∀ k, k < i → KeyP (at_ zs k), fun s _ => (n - s.1).toNat, ⟨rfl, 0, rfl, by omega, fun k hk => by omega⟩, ?_⟩
  rintro ⟨si, _⟩ h1 ⟨hh, i, hi, hin, ok⟩
  subst hh
  simp only at hi
  subst hi
  dsimp only
  have e : ((i : Nat) : Int).toNat = i := by simp
  rw [slices_IndexFunc_Sint_int_b1_eq]
  refine condP (fun hlt => ?_) (fun hge => ?_)
  · refine idx_int r (by omega) (by omega) ?_
    rw [e]
    show callX Try.prog F 62 #[.int .i64 (zs.getD i 0)] _ _
    refine callX_of (by kernel_rfl) ?_
    refine (number_c1_ok _ _).mono fun v h2 ⟨hh, hv⟩ => ?_
    subst hh
    refine ⟨_, hv, cond_intro (fun h3 => ?_) (fun h3 => ?_)⟩
    · have h3' : ¬ KeyP (at_ zs i) := fun h4 => by rw [decide_eq_true h4] at h3; cases h3
      refine ⟨rfl, _, rfl, .inr ⟨by omega, _, ?_, h3'⟩⟩
      rw [at_get (by omega)]; exact List.getElem_mem _
    · have h3' : KeyP (at_ zs i) := Classical.byContradiction fun h4 => by rw [decide_eq_false h4] at h3; cases h3
      rw [slices_IndexFunc_Sint_int_b2_eq]
      refine ⟨⟨by omega, by omega⟩, ⟨rfl, i + 1, by simp only; omega, by omega, fun k hk => ?_⟩, by simp only; omega⟩
      rcases Nat.lt_or_ge k i with h4 | h4
      · exact ok k h4
      · have : k = i := by omega
        subst this; exact h3'
  · rw [slices_IndexFunc_Sint_int_b3_eq]
    refine ⟨rfl, _, rfl, .inl ⟨rfl, fun z hz => ?_⟩⟩
    obtain ⟨k, hk, rfl⟩ := List.getElem_of_mem hz
    have := ok k (by omega)
    rwa [at_get hk] at this
theorem number_ok {h : Hp} {p : Option Addr} {n c : Nat} {zs : List Int} (r : Rd h p n (ints zs)) (hn : n ≤ 1000000) :
    HCalls Try.prog 33 #[.slice p n c] h (fun v h' => h' = h ∧ v = .bool (decide (∀ z ∈ zs, KeyP z))) := by
  refine btree_number_call ?_
  rw [btree_number_b0_eq]
  refine (HCalls.mono (K := fun v h' => h' = h ∧ v = .bool (!decide (∀ z ∈ zs, KeyP z))) ?_ ?_)
  · refine slices_ContainsFunc_Sint_int_call ?_
    rw [slices_ContainsFunc_Sint_int_b0_eq]
    refine (numIndex_ok r hn).mono fun v h1 ⟨hh, x, hv, hx⟩ => ?_
    subst hh
    refine ⟨_, hv, rfl, ?_⟩
    rcases hx with ⟨rfl, ha⟩ | ⟨h0, z, hz, hne⟩
    · rw [decide_eq_true ha]; rfl
    · rw [decide_eq_true h0, decide_eq_false (fun ha => hne (ha z hz))]; rfl
  · rintro v h1 ⟨hh, hv⟩
    subst hh
    exact ⟨_, hv, rfl, by simp⟩
theorem number1 {h : Hp} {b : Nat} {x : Int} {e : TypeId} (hb : Blk h b [.int .i64 x] e) : HCalls Try.prog 33 #[.slice (some ⟨b, 0, none⟩) 1 1] h (fun v h' => h' = h ∧ v = .bool (decide (KeyP x))) := by
  refine (number_ok (zs := [x]) (Rd.of_blk hb (n := 1) (by simp)) (by omega)).mono fun v h' ⟨hh, hv⟩ => ⟨hh, ?_⟩
  rw [hv]; congr 1; simp
theorem number2 {h : Hp} {b : Nat} {x y : Int} {e : TypeId} (hb : Blk h b [.int .i64 x, .int .i64 y] e) : HCalls Try.prog 33 #[.slice (some ⟨b, 0, none⟩) 2 2] h (fun v h' => h' = h ∧ v = .bool (decide (KeyP x ∧ KeyP y))) := by
  refine (number_ok (zs := [x, y]) (Rd.of_blk hb (n := 2) (by simp)) (by omega)).mono fun v h' ⟨hh, hv⟩ => ⟨hh, ?_⟩
  rw [hv]; congr 1; simp
end Go.Proofs.Ytaemnjblcpknpaa
