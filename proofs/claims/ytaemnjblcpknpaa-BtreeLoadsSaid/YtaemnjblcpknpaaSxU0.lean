/- Part U0 of the proof: contracts of functions of the program, and what follows from them. -/
import Derived.Test.YtaemnjblcpknpaaSxV
import Derived.Test.YtaemnjblcpknpaaSxI4
set_option maxRecDepth 100000
namespace Go.Proofs.Ytaemnjblcpknpaa
open Go Go.Sx
theorem ovl_int : IsExt Try.prog 87 (Extern.SlicesOverlaps.overlaps Try.f87.params Try.f87.resultTypes) :=
  ⟨Try.f87, Try.func87, by kernel_rfl, by kernel_rfl, by kernel_rfl, by kernel_rfl⟩
theorem ovl_node : IsExt Try.prog 89 (Extern.SlicesOverlaps.overlaps Try.f89.params Try.f89.resultTypes) :=
  ⟨Try.f89, Try.func89, by kernel_rfl, by kernel_rfl, by kernel_rfl, by kernel_rfl⟩
abbrev ints (zs : List Int) : List Value := zs.map (Value.int .i64)
abbrev at_ (zs : List Int) (i : Nat) : Int := zs.getD i 0
theorem el_int : ElemOk Try.prog 38 3 := elemB_spec (by kernel_rfl)
theorem el_node : ElemOk Try.prog 86 73 := elemB_spec (by kernel_rfl)

theorem isNaN_ok (x : Int) (h : Hp) : HCalls Try.prog 94 #[.int .i64 x] h (fun v h' => h' = h ∧ v = .bool false) := by
  refine slices_isNaN_int_call ?_
  rw [slices_isNaN_int_b0_eq]
  exact ⟨rfl, by simp⟩
theorem cisNaN_ok (x : Int) (h : Hp) : HCalls Try.prog 108 #[.int .i64 x] h (fun v h' => h' = h ∧ v = .bool false) := by
  refine cmp_isNaN_int_call ?_
  rw [cmp_isNaN_int_b0_eq]
  exact ⟨rfl, by simp⟩
theorem Less_ok (x y : Int) (h : Hp) : HCalls Try.prog 93 #[.int .i64 x, .int .i64 y] h (fun v h' => h' = h ∧ v = .bool (decide (x < y))) := by
  refine cmp_Less_int_call ?_
  rw [cmp_Less_int_b0_eq]
  refine (cisNaN_ok x h).mono fun v h' ⟨hh, hv⟩ => ?_
  subst hh
  exact ⟨_, hv, rfl, rfl⟩

/-- The place of a key in a sorted list. -/
def IsLb (zs : List Int) (key : Int) (i : Nat) : Prop := i ≤ zs.length ∧ (∀ j, j < i → at_ zs j < key) ∧ ∀ j, i ≤ j → j < zs.length → key ≤ at_ zs j
def Inc (zs : List Int) : Prop := ∀ i j, i < j → j < zs.length → at_ zs i < at_ zs j

theorem Search_ok {h : Hp} {p : Option Addr} {n c : Nat} {zs : List Int} {key : Int} (r : Rd h p n (ints zs)) (hn : n ≤ 1000000) (inc : Inc zs) :
    HCalls Try.prog 67 #[.slice p n c, .int .i64 key] h (fun v h' => h' = h ∧ ∃ i : Nat, IsLb zs key i ∧ v = .tuple #[.int .i64 (i : Int), .bool (decide (i < n ∧ at_ zs i = key))]) := by
  have hzl : zs.length = n := by have := r.len; simpa using this
  refine slices_BinarySearch_Sint_int_call ?_
  rw [slices_BinarySearch_Sint_int_b0_eq]
  refine ⟨fun s h' => h' = h ∧ ∃ i j : Nat, s.1 = i ∧ s.2.1 = j ∧ i ≤ j ∧ j ≤ n ∧ (∀ k, k < i → at_ zs k < key) ∧ (∀ k, j ≤ k → k < n → key ≤ at_ zs k), fun s _ => (s.2.1 - s.1).toNat,
    ⟨rfl, 0, n, rfl, rfl, by omega, by omega, fun k hk => by omega, fun k h1 h2 => by omega⟩, ?_⟩
  rintro ⟨si, sj, _⟩ h1 ⟨hh, i, j, hi, hj, hij, hjn, lo, hi'⟩
  subst hh
  simp only at hi hj
  subst hi hj
  dsimp only
  rw [slices_BinarySearch_Sint_int_b1_eq]
  refine condP (fun hlt => ?_) (fun hge => ?_)
  · have hlt' : i < j := by omega
    have e1 : IntKind.u64.wrap ((i : Int) + (j : Int)) = ((i + j : Nat) : Int) := by
      show ((i : Int) + (j : Int)) % 18446744073709551616 = _
      rw [Int.emod_eq_of_lt (by omega) (by omega)]; push_cast; rfl
    refine ⟨⟨by omega, by omega⟩, (((i + j) / 2 : Nat) : Int), ⟨by omega, ?_⟩, ⟨by omega, by omega⟩, ?_⟩
    · rw [e1]
      have : (2 : Int) ^ (min (Int.toNat 1) IntKind.u64.bits) = 2 := by decide
      rw [this]
      rw [Int.fdiv_eq_ediv_of_nonneg _ (by omega)]
      omega
    refine idx_int r (by omega) (by omega) ?_
    have e2 : (((i + j) / 2 : Nat) : Int).toNat = (i + j) / 2 := Int.toNat_natCast _
    rw [e2]
    refine (Less_ok _ _ _).mono fun v h2 ⟨hh, hv⟩ => ?_
    subst hh
    refine ⟨_, hv, condP (fun h3 => ?_) (fun h3 => ?_)⟩
    · refine ⟨⟨by omega, by omega⟩, ⟨rfl, (i + j) / 2 + 1, j, by simp only; omega, rfl, by omega, hjn, fun k hk => ?_, hi'⟩, by simp only; omega⟩
      rcases Nat.lt_or_ge k ((i + j) / 2) with h4 | h4
      · exact Int.lt_trans (inc k ((i + j) / 2) h4 (by omega)) h3
      · have : k = (i + j) / 2 := by omega
        subst this; exact h3
    · refine ⟨⟨rfl, i, (i + j) / 2, rfl, rfl, by omega, by omega, lo, fun k hk hkn => ?_⟩, by simp only; omega⟩
      have h3' : key ≤ at_ zs ((i + j) / 2) := Int.not_lt.1 h3
      rcases Nat.lt_or_ge ((i + j) / 2) k with h4 | h4
      · exact Int.le_trans h3' (Int.le_of_lt (inc _ k h4 (by omega)))
      · have : k = (i + j) / 2 := by omega
        subst this; exact h3'
  · have hij' : i = j := by omega
    subst hij'
    have lb : IsLb zs key i := ⟨by omega, lo, fun k h1 h2 => hi' k h1 (by omega)⟩
    have e : ((i : Nat) : Int).toNat = i := by simp
    rw [slices_BinarySearch_Sint_int_b2_eq]
    refine condP (fun hl => ?_) (fun hl => ?_)
    · refine idx_int r (by omega) (by omega) ?_
      rw [e]
      refine condP (fun he => ?_) (fun he => ?_)
      · have he' : at_ zs i = key := he
        exact ⟨rfl, i, lb, by rw [decide_eq_true (p := i < n ∧ at_ zs i = key) ⟨by omega, he'⟩]⟩
      · have he' : ¬ at_ zs i = key := he
        refine idx_int r (by omega) (by omega) ?_
        refine (isNaN_ok _ _).mono fun v h2 ⟨hh, hv⟩ => ?_
        subst hh
        refine ⟨_, hv, rfl, i, lb, ?_⟩
        rw [decide_eq_false (p := i < n ∧ at_ zs i = key) (fun h4 => he' h4.2)]
    · exact ⟨rfl, i, lb, by rw [decide_eq_false (p := i < n ∧ at_ zs i = key) (fun h4 => by omega)]⟩
end Go.Proofs.Ytaemnjblcpknpaa
