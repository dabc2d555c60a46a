/- B-trees: the reference's Keys and Shaped; equality of pairs. -/
import Derived.Test.YtaemnjblcpknpaaSxB13
import Derived.Test.YtaemnjblcpknpaaSxI8
set_option maxRecDepth 100000
namespace Go.Proofs.Ytaemnjblcpknpaa
open Go Go.Sx
theorem neq_pair {xo yo : Operand} {a b c d : Int} {h : Hp} : eqC Try.prog .neq 40 xo yo (.agg #[.int .i64 a, .int .i64 b]) (.agg #[.int .i64 c, .int .i64 d]) h (!decide ((a, b) = (c, d))) := by
  have e : (!decide ((a, b) = (c, d))) = !(decide (a = c) && (decide (b = d) && true)) := by simp
  rw [e]
  exact (eqC_array (xs := [.int .i64 a, .int .i64 b]) (ys := [.int .i64 c, .int .i64 d]) (n := 2) (e := 3) (by kernel_rfl) (by kernel_rfl) (by kernel_rfl) (by kernel_rfl)).2 rfl
theorem eql_pair {xo yo : Operand} {a b c d : Int} {h : Hp} : eqC Try.prog .eql 40 xo yo (.agg #[.int .i64 a, .int .i64 b]) (.agg #[.int .i64 c, .int .i64 d]) h (decide ((a, b) = (c, d))) := by
  have e : (decide ((a, b) = (c, d))) = (decide (a = c) && (decide (b = d) && true)) := by simp
  rw [e]
  exact (eqC_array (xs := [.int .i64 a, .int .i64 b]) (ys := [.int .i64 c, .int .i64 d]) (n := 2) (e := 3) (by kernel_rfl) (by kernel_rfl) (by kernel_rfl) (by kernel_rfl)).1 rfl
theorem EqualP_ok {h : Hp} {p q : Option Addr} {n m c d : Nat} {xs ys : List E} (r1 : RdT TE h p n xs) (r2 : RdT TE h q m ys) (hn : n ≤ 1000000000) :
    HCalls Try.prog 18 #[.slice p n c, .slice q m d] h (fun v h' => h' = h ∧ v = .bool (decide (xs = ys))) := by
  have l1 := r1.len
  have l2 := r2.len
  refine slices_Equal_2_int_2_int_call ?_
  rw [slices_Equal_2_int_2_int_b0_eq]
  refine condN (fun hl => ?_) (fun hl => ?_)
  · exact ⟨rfl, by rw [decide_eq_false (fun h => hl (by subst h; omega))]⟩
  refine ⟨fun x h' => h' = h ∧ ∃ i : Nat, x.1 = i ∧ i ≤ n ∧ ∀ j, j < i → xs.getD j (0, 0) = ys.getD j (0, 0), fun x _ => n - x.1.toNat, ⟨rfl, 0, rfl, by omega, fun j hj => by omega⟩, ?_⟩
  rintro ⟨_, _⟩ h1 ⟨rfl, i, rfl, hin, heq⟩
  dsimp only
  rw [slices_Equal_2_int_2_int_b1_eq]
  refine condP (fun hlt => ?_) (fun hge => ?_)
  · refine pair_load r1 (by omega) (by omega) (pair_load r2 (by omega) (by omega) ?_)
    rw [Int.toNat_natCast]
    refine ⟨_, neq_pair, condN (fun hne => ?_) (fun he => ?_)⟩
    · exact ⟨rfl, by rw [decide_eq_false (fun h => hne (by rw [h]))]⟩
    · rw [slices_Equal_2_int_2_int_b2_eq]
      refine ⟨⟨by omega, by omega⟩, ⟨rfl, i + 1, by simp only; omega, by omega, fun j hj => ?_⟩, by simp only; omega⟩
      rcases Nat.lt_or_ge j i with h1 | h1
      · exact heq j h1
      · obtain rfl : j = i := by omega
        exact he
  · rw [slices_Equal_2_int_2_int_b3_eq]
    exact ⟨rfl, by rw [decide_eq_true (list_eq_of (d := (0, 0)) (by omega) (fun t ht => heq t (by omega)))]⟩
end Go.Proofs.Ytaemnjblcpknpaa
