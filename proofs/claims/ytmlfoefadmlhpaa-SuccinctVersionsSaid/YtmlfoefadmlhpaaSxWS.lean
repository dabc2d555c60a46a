/- Part WS of the proof: contracts of functions of the program, and what follows from them. -/
import Derived.Test.YtmlfoefadmlhpaaSxW4
set_option maxRecDepth 10000
namespace Go.Proofs.Ytmlfoefadmlhpaa
open Go Go.Sx
theorem sel_lt {bits : List Bool} {b : Bool} {k i j : Nat} (h : IsSel bits b k i) (hij : i < j) : k < cntB bits b j := by
  obtain ⟨h1, h2, h3⟩ := h
  have := cntB_succ bits b i h1
  rw [if_pos h2] at this
  have hm := cntB_mono bits b (i := i + 1) (j := j) (by omega)
  omega
theorem sel_unique {bits : List Bool} {b : Bool} {k i j : Nat} (h : IsSel bits b k i) (g : IsSel bits b k j) : i = j := by
  rcases Nat.lt_trichotomy i j with hl | hl | hl
  · have := sel_lt h hl; have := g.2.2; omega
  · exact hl
  · have := sel_lt g hl; have := h.2.2; omega
theorem sel_cnt {bits : List Bool} {b : Bool} {k i : Nat} (h : IsSel bits b k i) : k < cntB bits b bits.length := sel_lt h h.1
/-- Select at a known place. -/
theorem Select_at {h : Hp} {a : Addr} {bits : List Bool} (v : Vec h a bits) {b : Bool} {k i : Nat} (s : IsSel bits b k i) :
    HCalls Try.prog 71 #[.pointer (some a), .bool b, .int .i64 (k : Int)] h (fun r h' => Ext h h' ∧ r = .tuple #[.int .i64 (i : Int), .int .i64 0]) := by
  refine (Select_ok v b k).mono fun r h' ⟨x, hr⟩ => ⟨x, ?_⟩
  rcases hr with ⟨h0, _⟩ | ⟨_, h0, _⟩ | ⟨_, j, hj, hr⟩
  · omega
  · have := sel_cnt s; omega
  · have : i = j := sel_unique s (by simpa using hj)
    subst this; exact hr
/-- Search, where the closure makes memory. -/
theorem Search_ext {n g : Nat} {first cap : Array Value} {h : Hp} (f : Nat → Bool) (hn : n < 4611686018427387904) (hg : F g = true)
    (hc : ∀ i h1, i < n → Ext h h1 → HCalls Try.prog g (first.toList ++ (([.int .i64 (i : Int)] : List Value) ++ cap.toList)).toArray h1 (fun v h' => v = .bool (f i) ∧ Ext h1 h')) :
    HCalls Try.prog 50 #[.int .i64 (n : Int), .func (.func g) first cap] h (fun v h' => Ext h h' ∧ ∃ i : Nat, i ≤ n ∧ v = .int .i64 (i : Int) ∧ (i = 0 ∨ f (i - 1) = false) ∧ (i = n ∨ f i = true)) := by
  refine Search_call ?_
  rw [Search_b0_eq]
  refine ⟨fun s h' => Ext h h' ∧ ∃ i j : Nat, s.1 = i ∧ s.2.1 = j ∧ i ≤ j ∧ j ≤ n ∧ (i = 0 ∨ f (i - 1) = false) ∧ (j = n ∨ f j = true), fun s _ => (s.2.1 - s.1).toNat,
    ⟨Ext.refl _, 0, n, rfl, rfl, by omega, by omega, .inl rfl, .inl rfl⟩, ?_⟩
  rintro ⟨si, sj, _⟩ h' ⟨x, i, j, hi, hj, hij, hjn, hfi, hfj⟩
  simp only at hi hj
  subst hi hj
  dsimp only
  rw [Search_b1_eq]
  refine condP (fun hlt => ?_) (fun hge => ?_)
  · refine ⟨⟨by omega, by omega⟩, ?_⟩
    refine shr_intro (x := i + j) (s := 1) (by rw [wrap_u64_in _ (by omega) (by omega)]; omega) rfl (by decide) ?_
    have e : (i + j) >>> 1 = (i + j) / 2 := by rw [Nat.shiftRight_eq_div_pow]
    rw [e]
    refine ⟨⟨by omega, by omega⟩, ?_⟩
    show chk (F g) _
    rw [hg]
    refine (hc ((i + j) / 2) h' (by omega) x).mono fun v h2 ⟨hv, x2⟩ => ?_
    refine ⟨_, hv, ?_⟩
    cases hf : f ((i + j) / 2) with
    | false =>
      refine ⟨⟨by omega, by omega⟩, ⟨x.trans x2, (i + j) / 2 + 1, j, by simp only; omega, rfl, by omega, hjn, .inr ?_, hfj⟩, by simp only; omega⟩
      rw [Nat.add_sub_cancel]; exact hf
    | true => exact ⟨⟨x.trans x2, i, (i + j) / 2, rfl, rfl, by omega, by omega, hfi, .inr hf⟩, by simp only; omega⟩
  · rw [Search_b2_eq]
    have : i = j := by omega
    subst this
    exact ⟨x, i, hjn, rfl, hfi, hfj⟩
end Go.Proofs.Ytmlfoefadmlhpaa
