/- slices.Clone, Insert of one element, Delete of one element. -/
import Derived.Test.YtaemnjblcpknpaaSxU1
import Derived.Test.YtaemnjblcpknpaaSxI7
set_option maxRecDepth 100000
namespace Go.Proofs.Ytaemnjblcpknpaa
open Go Go.Sx
theorem ok_int : ElOk (tI 3) Try.prog 38 := elB_spec (by kernel_rfl)
theorem cloneI_st {h : Hp} {p : Option Addr} {n c : Nat} {xs : List Int} (r : RdT (tI 3) h p n xs) (hn : n < 1000000) :
    HCalls Try.prog 40 #[.slice p n c] h (fun v h' => ∃ q d A, v = .slice q n d ∧ Sl (tI 3) q n d xs A ∧ St h h' A) := by
  refine slices_Clone_Sint_int_call ?_
  rw [slices_Clone_Sint_int_b0_eq]
  refine cond_intro (fun h1 => ?_) (fun h1 => ?_)
  · have hp : p = none := by cases p with | none => rfl | some a => cases h1
    subst hp
    obtain rfl : n = 0 := by
      rcases r.2 with h2 | ⟨a, h2, _⟩
      · exact h2
      · cases h2
    have : xs = [] := List.eq_nil_of_length_eq_zero r.1
    subst this
    exact ⟨_, _, 0, rfl, Sl.nil, St.start h⟩
  · refine (St.start h).new (cs := []) fun b h1 x s1 => ?_
    have o : Sl (tI 3) (some ⟨b, 0, none⟩) 0 0 [] (cA b [] (tI 3).e) := Sl.of_blk rfl rfl
    refine append_sl ok_int s1 o (r.ext x) (by omega) fun p' c' h' A' a' s' => ?_
    rw [List.nil_append, Nat.zero_add] at a'
    rw [Nat.zero_add]
    exact ⟨_, _, A', rfl, a', s'.to⟩
theorem insertI_st {h0 h : Hp} {p : Option Addr} {n c i bv : Nat} {xs : List Int} {x : Int} {cs : List Value} {A F : Bag} (s : St h0 h (A + (cA bv cs (tI 3).e + F))) (a : Sl (tI 3) p n c xs A)
    (hcs : cs = (tI 3).enc x) (hi : i ≤ n) (hn : n < 1000000) :
    HCalls Try.prog 63 #[.slice p n c, .int .i64 (i : Int), .slice (some ⟨bv, 0, none⟩) 1 1] h (fun v h' => ∃ p' c' A', v = .slice p' (n + 1) c' ∧ Sl (tI 3) p' (n + 1) c' (xs.take i ++ x :: xs.drop i) A' ∧ St h0 h' (A' + (cA bv cs (tI 3).e + F))) := by
  have hcap := a.cap
  have hlen := a.len
  have one : Sl (tI 3) (some ⟨bv, 0, none⟩) 1 1 [x] (cA bv cs (tI 3).e) := Sl.one hcs
  have rv : RdT (tI 3) h (some ⟨bv, 0, none⟩) 1 [x] := one.rd (s.to (B := cA bv cs (tI 3).e + (A + F)))
  refine slices_Insert_Sint_int_call ?_
  rw [slices_Insert_Sint_int_b0_eq]
  refine ⟨⟨by omega, by omega, by omega⟩, condNo (by decide) ?_⟩
  have e1 : Int.toNat (i : Int) = i := Int.toNat_natCast i
  have e0 : Int.toNat (0 : Int) = 0 := rfl
  refine condP (fun h1 => ?_) (fun h1 => ?_)
  · have : i = n := by omega
    subst this
    refine append_sl ok_int s a rv (by omega) fun p' c' h' A' a' s' => ?_
    refine ⟨p', c', A', rfl, ?_, s'⟩
    rw [List.take_of_length_le (by omega), List.drop_eq_nil_of_le (by omega)]
    exact a'
  have hin : i < n := by omega
  have hti : ((tI 3).cells (xs.take i)).length = i * (tI 3).sz := by rw [(tI 3).cells_len, List.length_take]; congr 1; omega
  refine ⟨⟨by omega, by omega⟩, condP (fun h2 => ?_) (fun h2 => ?_)⟩
  · -- a new block
    have hcn : c < n + 1 := by omega
    refine ⟨⟨by omega, by omega, by omega⟩, ⟨by omega, by omega⟩, ⟨by omega, by omega⟩, ?_⟩
    rw [e0, e1, subAddr_z, Nat.sub_zero, Nat.sub_zero]
    have rt : RdT (tI 3) h p i (xs.take i) := (a.rd s).take (by omega)
    have el : (((n : Int) + ((1 : Nat) : Int)) - (i : Int)).toNat = n + 1 - i := by omega
    refine append_make_st ok_int (by kernel_rfl) (by kernel_rfl) s rt (by omega) (by omega) (by omega) fun b c' h' mid rest hc' hm hr s1 => ?_
    rw [el] at hm hr hc' ⊢
    have hl2 : i + (n + 1 - i) = n + 1 := by omega
    rw [hl2] at hr hc' ⊢
    refine ⟨⟨by omega, by omega, by omega⟩, ?_⟩
    have e2 : Int.toNat (((n + 1 : Nat) : Nat) : Int) = n + 1 := Int.toNat_natCast _
    have e3 : Int.toNat ((i : Int) + ((1 : Nat) : Int)) = i + 1 := by omega
    have e4 : Int.toNat (n : Int) = n := Int.toNat_natCast _
    rw [e2, e3, e4]
    have es1 : subAddr (some ⟨b, 0, none⟩) c' i (tI 3).sz = some ⟨b, i * (tI 3).sz, none⟩ := by rw [subAddr_in' (by omega), Nat.zero_add]
    have es2 : subAddr (some ⟨b, 0, none⟩) c' (i + 1) (tI 3).sz = some ⟨b, (i + 1) * (tI 3).sz, none⟩ := by rw [subAddr_in' (by omega), Nat.zero_add]
    rw [show subAddr (some ⟨b, 0, none⟩) c' i 1 = some ⟨b, i * (tI 3).sz, none⟩ from es1, show subAddr (some ⟨b, 0, none⟩) c' (i + 1) 1 = some ⟨b, (i + 1) * (tI 3).sz, none⟩ from es2]
    have hm1 : mid.length = (tI 3).sz + (n - i) * (tI 3).sz := by rw [hm, show n + 1 - i = 1 + (n - i) by omega, Nat.add_mul, Nat.one_mul]
    have em : mid = mid.take (tI 3).sz ++ mid.drop (tI 3).sz := (List.take_append_drop _ _).symm
    have s2 : St h0 h' (cA b ((tI 3).cells (xs.take i) ++ mid.take (tI 3).sz ++ (mid.drop (tI 3).sz ++ rest)) (tI 3).e + (A + (cA bv cs (tI 3).e + F))) := by
      have e : (tI 3).cells (xs.take i) ++ mid.take (tI 3).sz ++ (mid.drop (tI 3).sz ++ rest) = (tI 3).cells (xs.take i) ++ mid ++ rest := by
        conv => rhs; rw [em]
        simp only [List.append_assoc]
      rw [e]; exact s1
    have rv2 : RdT (tI 3) h' (some ⟨bv, 0, none⟩) 1 [x] := one.rd (s2.to (B := cA bv cs (tI 3).e + (cA b _ _ + (A + F))))
    refine copy_st (j := 1) ok_int s2 rv2 hti (by omega) (by rw [List.length_take]; omega) fun v1 h3 s3 => ?_
    refine ⟨⟨by omega, by omega⟩, ⟨by omega, by omega, by omega⟩, ⟨by omega, by omega, by omega⟩, ?_⟩
    rw [(tI 3).cells_one] at s3
    have s4 : St h0 h3 (cA b (((tI 3).cells (xs.take i) ++ (tI 3).enc x) ++ mid.drop (tI 3).sz ++ rest) (tI 3).e + (A + (cA bv cs (tI 3).e + F))) := by
      have e : ((tI 3).cells (xs.take i) ++ (tI 3).enc x) ++ mid.drop (tI 3).sz ++ rest = (tI 3).cells (xs.take i) ++ (tI 3).enc x ++ (mid.drop (tI 3).sz ++ rest) := by simp only [List.append_assoc]
      rw [e]; exact s3
    have ra : RdT (tI 3) h3 p n xs := a.rd (s4.to (B := A + (cA b _ _ + (cA bv cs (tI 3).e + F))))
    have rs := ra.sub hi hcap rfl
    refine copy_st (j := n - i) ok_int s4 rs (by rw [List.length_append, hti, (tI 3).len, Nat.add_mul, Nat.one_mul]) (by omega) (by rw [List.length_drop, hm1, Nat.add_sub_cancel_left]) fun v2 h4 s5 => ?_
    refine ⟨_, _, _, rfl, ⟨by simp; omega, .inr ⟨b, rest, rfl, hc', hr, rfl⟩⟩, ?_⟩
    rw [(tI 3).cells_append, (tI 3).cells_cons]
    have e : (tI 3).cells (xs.take i) ++ ((tI 3).enc x ++ (tI 3).cells (xs.drop i)) ++ rest = (tI 3).cells (xs.take i) ++ (tI 3).enc x ++ (tI 3).cells (xs.drop i) ++ rest := by simp only [List.append_assoc]
    rw [e]
    exact (s5.to (B := A + (cA b _ _ + (cA bv cs (tI 3).e + F)))).drop
  · -- in place
    have hcn : n + 1 ≤ c := by omega
    rcases a with ⟨hl, ⟨rfl, h3, _, _⟩ | ⟨b, rest, rfl, hc, hr, rfl⟩⟩
    · omega
    have a : Sl (tI 3) (some ⟨b, 0, none⟩) n c xs (cA b ((tI 3).cells xs ++ rest) (tI 3).e) := ⟨hl, .inr ⟨b, rest, rfl, hc, hr, rfl⟩⟩
    have e3 : Int.toNat ((i : Int) + ((1 : Nat) : Int)) = i + 1 := by omega
    have e4 : Int.toNat (n : Int) = n := Int.toNat_natCast _
    have e5 : Int.toNat ((n : Int) + ((1 : Nat) : Int)) = n + 1 := by omega
    have e6 : Int.toNat (((n + 1 : Nat) : Nat) : Int) = n + 1 := Int.toNat_natCast _
    simp only [e0, e1, e3, e4, e5, e6, subAddr_z, Nat.sub_zero]
    refine ⟨⟨by omega, by omega⟩, ⟨by omega, by omega, by omega⟩, ⟨by omega, by omega⟩, ⟨by omega, by omega, by omega⟩, ?_⟩
    have es1 : subAddr (some ⟨b, 0, none⟩) c (i + 1) (tI 3).sz = some ⟨b, (i + 1) * (tI 3).sz, none⟩ := by rw [subAddr_in' (by omega), Nat.zero_add]
    rw [show subAddr (some ⟨b, 0, none⟩) c (i + 1) 1 = some ⟨b, (i + 1) * (tI 3).sz, none⟩ from es1]
    obtain ⟨i0, z, hi0, hz, hzs, hzc, hbt⟩ := (ok_int).info
    have hrl : (tI 3).sz ≤ rest.length := by rw [hr]; calc (tI 3).sz = 1 * (tI 3).sz := (Nat.one_mul _).symm
                                              _ ≤ (c - n) * (tI 3).sz := Nat.mul_le_mul_right _ (by omega)
    have er : rest = rest.take (tI 3).sz ++ rest.drop (tI 3).sz := (List.take_append_drop _ _).symm
    refine overlaps_st ovl_int (t := 38) (e := 3) (by kernel_rfl) (by kernel_rfl) hi0 (s.to (B := cA bv cs (tI 3).e + (cA b _ _ + F))) ⟨_, rfl, ?_⟩
    refine ⟨⟨by omega, by omega⟩, ⟨by omega, by omega, by omega⟩, ⟨by omega, by omega, by omega⟩, ?_⟩
    -- the elements from i on move by one
    have hdl : ((tI 3).cells (xs.drop i)).length = (n - i) * (tI 3).sz := by rw [(tI 3).cells_len, List.length_drop, hl]
    have hd1l : ((tI 3).cells (xs.drop (i + 1))).length = (n - (i + 1)) * (tI 3).sz := by rw [(tI 3).cells_len, List.length_drop, hl]
    have ht1 : ((tI 3).cells (xs.take (i + 1))).length = (i + 1) * (tI 3).sz := by rw [(tI 3).cells_len, List.length_take]; congr 1; omega
    have s1 : St h0 h (cA b ((tI 3).cells (xs.take (i + 1)) ++ ((tI 3).cells (xs.drop (i + 1)) ++ rest.take (tI 3).sz) ++ rest.drop (tI 3).sz) (tI 3).e + (cA bv cs (tI 3).e + F)) := by
      have e : (tI 3).cells (xs.take (i + 1)) ++ ((tI 3).cells (xs.drop (i + 1)) ++ rest.take (tI 3).sz) ++ rest.drop (tI 3).sz = (tI 3).cells xs ++ rest := by
        rw [List.append_assoc, List.append_assoc, ← er, ← List.append_assoc, ← (tI 3).cells_append, List.take_append_drop]
      rw [e]; exact s
    have rx : RdT (tI 3) h (some ⟨b, 0, none⟩) n xs := a.rd s
    have rs : RdT (tI 3) h (subAddr (some ⟨b, 0, none⟩) c i (tI 3).sz) (n - i) (xs.drop i) := rx.sub hi hcap rfl
    refine copy_st (j := n - i) ok_int s1 rs ht1 (by omega) (by rw [List.length_append, hd1l, List.length_take, Nat.min_eq_left hrl, show n - i = (n - (i + 1)) + 1 by omega, Nat.add_mul, Nat.one_mul]) fun v4 h5 s5 => ?_
    refine ⟨⟨by omega, by omega, by omega⟩, ?_⟩
    have es2 : subAddr (some ⟨b, 0, none⟩) c i (tI 3).sz = some ⟨b, i * (tI 3).sz, none⟩ := by rw [subAddr_in' (by omega), Nat.zero_add]
    rw [show subAddr (some ⟨b, 0, none⟩) c i 1 = some ⟨b, i * (tI 3).sz, none⟩ from es2]
    have s6 : St h0 h5 (cA b ((tI 3).cells (xs.take i) ++ (tI 3).enc xs[i] ++ ((tI 3).cells (xs.drop i) ++ rest.drop (tI 3).sz)) (tI 3).e + (cA bv cs (tI 3).e + F)) := by
      have e : (tI 3).cells (xs.take i) ++ (tI 3).enc xs[i] ++ ((tI 3).cells (xs.drop i) ++ rest.drop (tI 3).sz) = (tI 3).cells (xs.take (i + 1)) ++ (tI 3).cells (xs.drop i) ++ rest.drop (tI 3).sz := by
        rw [List.take_succ_eq_append_getElem (by omega), (tI 3).cells_append, (tI 3).cells_one]; simp only [List.append_assoc]
      rw [e]; exact s5
    have rv5 : RdT (tI 3) h5 (some ⟨bv, 0, none⟩) 1 [x] := one.rd (s6.to (B := cA bv cs (tI 3).e + (cA b _ _ + F)))
    refine copy_st (j := 1) ok_int s6 rv5 hti (by omega) (by rw [(tI 3).len, Nat.one_mul]) fun v5 h6 s7 => ?_
    refine ⟨_, _, _, rfl, ⟨by simp; omega, .inr ⟨b, rest.drop (tI 3).sz, rfl, hcn, ?_, rfl⟩⟩, ?_⟩
    · rw [List.length_drop, hr, show c - n = (c - (n + 1)) + 1 by omega, Nat.add_mul, Nat.one_mul]; omega
    · rw [(tI 3).cells_one] at s7
      rw [(tI 3).cells_append, (tI 3).cells_cons]
      have e : (tI 3).cells (xs.take i) ++ ((tI 3).enc x ++ (tI 3).cells (xs.drop i)) ++ rest.drop (tI 3).sz = (tI 3).cells (xs.take i) ++ (tI 3).enc x ++ ((tI 3).cells (xs.drop i) ++ rest.drop (tI 3).sz) := by simp only [List.append_assoc]
      rw [e]
      exact s7
theorem deleteI_st {h0 h : Hp} {p : Option Addr} {n c i : Nat} {j : Int} {xs : List Int} {A F : Bag} (s : St h0 h (A + F)) (a : Sl (tI 3) p n c xs A) (hi : i < n) (hj : j = (i : Int) + 1) (hn : n < 1000000) :
    HCalls Try.prog 68 #[.slice p n c, .int .i64 (i : Int), .int .i64 j] h (fun v h' => ∃ A', v = .slice p (n - 1) c ∧ Sl (tI 3) p (n - 1) c (xs.take i ++ xs.drop (i + 1)) A' ∧ St h0 h' (A' + F)) := by
  obtain rfl : j = ((i + 1 : Nat) : Int) := by omega
  have hcap := a.cap
  have hlen := a.len
  have rd := a.rd s
  refine slices_Delete_Sint_int_call ?_
  rw [slices_Delete_Sint_int_b0_eq]
  refine slC_st (ok_int).el (by omega) (by omega) hcap fun _ => condP (fun h1 => by omega) (fun _ => ?_)
  have e1 : Int.toNat (i : Int) = i := Int.toNat_natCast i
  have e2 : Int.toNat ((i + 1 : Nat) : Int) = i + 1 := Int.toNat_natCast _
  have e3 : Int.toNat (n : Int) = n := Int.toNat_natCast _
  have e0 : Int.toNat (0 : Int) = 0 := rfl
  refine ⟨⟨by omega, by omega, by omega⟩, ⟨by omega, by omega, by omega⟩, ?_⟩
  rw [e0, e1, e2, e3, subAddr_z, Nat.sub_zero, Nat.sub_zero]
  rcases a with ⟨hl, ⟨rfl, h3, _, _⟩ | ⟨b, rest, rfl, hc, hr, rfl⟩⟩
  · omega
  have hti : ((tI 3).cells (xs.take i)).length = i * (tI 3).sz := by rw [(tI 3).cells_len, List.length_take]; congr 1; omega
  have hdl : ((tI 3).cells (xs.drop i)).length = (n - i) * (tI 3).sz := by rw [(tI 3).cells_len, List.length_drop, hl]
  have hd1l : ((tI 3).cells (xs.drop (i + 1))).length = (n - (i + 1)) * (tI 3).sz := by rw [(tI 3).cells_len, List.length_drop, hl]
  have s1 : St h0 h (cA b ((tI 3).cells (xs.take i) ++ ((tI 3).cells (xs.drop i)).take ((n - (i + 1)) * (tI 3).sz) ++ (((tI 3).cells (xs.drop i)).drop ((n - (i + 1)) * (tI 3).sz) ++ rest)) (tI 3).e + F) := by
    have e : (tI 3).cells (xs.take i) ++ ((tI 3).cells (xs.drop i)).take ((n - (i + 1)) * (tI 3).sz) ++ (((tI 3).cells (xs.drop i)).drop ((n - (i + 1)) * (tI 3).sz) ++ rest) = (tI 3).cells xs ++ rest := by
      rw [List.append_assoc, ← List.append_assoc _ _ rest, List.take_append_drop, ← List.append_assoc, ← (tI 3).cells_append, List.take_append_drop]
    rw [e]; exact s
  have hle : (n - (i + 1)) * (tI 3).sz ≤ (n - i) * (tI 3).sz := Nat.mul_le_mul_right _ (by omega)
  refine append_fit_st ok_int s1 hti (by rw [List.length_take, hdl]; omega) (rd.sub (by omega) hcap rfl) (by omega) fun h' s2 => ?_
  refine ⟨⟨by omega, by omega, by omega⟩, ?_⟩
  have e4 : Int.toNat ((i + (n - (i + 1)) : Nat) : Int) = n - 1 := by omega
  have e5 : i + (n - (i + 1)) = n - 1 := by omega
  rw [e4, show subAddr (some ⟨b, 0, none⟩) c (n - 1) 1 = some ⟨b, (n - 1) * (tI 3).sz, none⟩ by rw [show subAddr (some ⟨b, 0, none⟩) c (n - 1) 1 = subAddr (some ⟨b, 0, none⟩) c (n - 1) (tI 3).sz from rfl, subAddr_in' (by omega), Nat.zero_add]]
  rw [← (tI 3).cells_append, ← List.append_assoc] at s2
  have hl1 : (xs.take i ++ xs.drop (i + 1)).length = n - 1 := by rw [List.length_append, List.length_take, List.length_drop]; omega
  have hn1 : n - (n - 1) = 1 := by omega
  refine clear_st ok_int s2 (by rw [(tI 3).cells_len, hl1]) (by
    rw [List.length_drop, hdl, ← Nat.sub_mul]; congr 1; omega) fun h2 zs hzl s3 => ?_
  rw [e5]
  refine ⟨_, rfl, ⟨hl1, .inr ⟨b, zs ++ rest, rfl, by omega, ?_, rfl⟩⟩, ?_⟩
  · rw [List.length_append, hzl, hr, ← Nat.add_mul]; congr 1; omega
  · rw [← List.append_assoc]; exact s3
theorem ok_node : ElOk (tP 73) Try.prog 86 := elB_spec (by kernel_rfl)
theorem cloneP_st {h : Hp} {p : Option Addr} {n c : Nat} {xs : List Nat} (r : RdT (tP 73) h p n xs) (hn : n < 1000000) :
    HCalls Try.prog 91 #[.slice p n c] h (fun v h' => ∃ q d A, v = .slice q n d ∧ Sl (tP 73) q n d xs A ∧ St h h' A) := by
  refine slices_Clone_btree_node_btree_node_call ?_
  rw [slices_Clone_btree_node_btree_node_b0_eq]
  refine cond_intro (fun h1 => ?_) (fun h1 => ?_)
  · have hp : p = none := by cases p with | none => rfl | some a => cases h1
    subst hp
    obtain rfl : n = 0 := by
      rcases r.2 with h2 | ⟨a, h2, _⟩
      · exact h2
      · cases h2
    have : xs = [] := List.eq_nil_of_length_eq_zero r.1
    subst this
    exact ⟨_, _, 0, rfl, Sl.nil, St.start h⟩
  · refine (St.start h).new (cs := []) fun b h1 x s1 => ?_
    have o : Sl (tP 73) (some ⟨b, 0, none⟩) 0 0 [] (cA b [] (tP 73).e) := Sl.of_blk rfl rfl
    refine append_sl ok_node s1 o (r.ext x) (by omega) fun p' c' h' A' a' s' => ?_
    rw [List.nil_append, Nat.zero_add] at a'
    rw [Nat.zero_add]
    exact ⟨_, _, A', rfl, a', s'.to⟩
theorem insertP_st {h0 h : Hp} {p : Option Addr} {n c i bv : Nat} {xs : List Nat} {x : Nat} {cs : List Value} {A F : Bag} (s : St h0 h (A + (cA bv cs (tP 73).e + F))) (a : Sl (tP 73) p n c xs A)
    (hcs : cs = (tP 73).enc x) (hi : i ≤ n) (hn : n < 1000000) :
    HCalls Try.prog 64 #[.slice p n c, .int .i64 (i : Int), .slice (some ⟨bv, 0, none⟩) 1 1] h (fun v h' => ∃ p' c' A', v = .slice p' (n + 1) c' ∧ Sl (tP 73) p' (n + 1) c' (xs.take i ++ x :: xs.drop i) A' ∧ St h0 h' (A' + (cA bv cs (tP 73).e + F))) := by
  have hcap := a.cap
  have hlen := a.len
  have one : Sl (tP 73) (some ⟨bv, 0, none⟩) 1 1 [x] (cA bv cs (tP 73).e) := Sl.one hcs
  have rv : RdT (tP 73) h (some ⟨bv, 0, none⟩) 1 [x] := one.rd (s.to (B := cA bv cs (tP 73).e + (A + F)))
  refine slices_Insert_btree_node_btree_node_call ?_
  rw [slices_Insert_btree_node_btree_node_b0_eq]
  refine ⟨⟨by omega, by omega, by omega⟩, condNo (by decide) ?_⟩
  have e1 : Int.toNat (i : Int) = i := Int.toNat_natCast i
  have e0 : Int.toNat (0 : Int) = 0 := rfl
  refine condP (fun h1 => ?_) (fun h1 => ?_)
  · have : i = n := by omega
    subst this
    refine append_sl ok_node s a rv (by omega) fun p' c' h' A' a' s' => ?_
    refine ⟨p', c', A', rfl, ?_, s'⟩
    rw [List.take_of_length_le (by omega), List.drop_eq_nil_of_le (by omega)]
    exact a'
  have hin : i < n := by omega
  have hti : ((tP 73).cells (xs.take i)).length = i * (tP 73).sz := by rw [(tP 73).cells_len, List.length_take]; congr 1; omega
  refine ⟨⟨by omega, by omega⟩, condP (fun h2 => ?_) (fun h2 => ?_)⟩
  · -- a new block
    have hcn : c < n + 1 := by omega
    refine ⟨⟨by omega, by omega, by omega⟩, ⟨by omega, by omega⟩, ⟨by omega, by omega⟩, ?_⟩
    rw [e0, e1, subAddr_z, Nat.sub_zero, Nat.sub_zero]
    have rt : RdT (tP 73) h p i (xs.take i) := (a.rd s).take (by omega)
    have el : (((n : Int) + ((1 : Nat) : Int)) - (i : Int)).toNat = n + 1 - i := by omega
    refine append_make_st ok_node (by kernel_rfl) (by kernel_rfl) s rt (by omega) (by omega) (by omega) fun b c' h' mid rest hc' hm hr s1 => ?_
    rw [el] at hm hr hc' ⊢
    have hl2 : i + (n + 1 - i) = n + 1 := by omega
    rw [hl2] at hr hc' ⊢
    refine ⟨⟨by omega, by omega, by omega⟩, ?_⟩
    have e2 : Int.toNat (((n + 1 : Nat) : Nat) : Int) = n + 1 := Int.toNat_natCast _
    have e3 : Int.toNat ((i : Int) + ((1 : Nat) : Int)) = i + 1 := by omega
    have e4 : Int.toNat (n : Int) = n := Int.toNat_natCast _
    rw [e2, e3, e4]
    have es1 : subAddr (some ⟨b, 0, none⟩) c' i (tP 73).sz = some ⟨b, i * (tP 73).sz, none⟩ := by rw [subAddr_in' (by omega), Nat.zero_add]
    have es2 : subAddr (some ⟨b, 0, none⟩) c' (i + 1) (tP 73).sz = some ⟨b, (i + 1) * (tP 73).sz, none⟩ := by rw [subAddr_in' (by omega), Nat.zero_add]
    rw [show subAddr (some ⟨b, 0, none⟩) c' i 1 = some ⟨b, i * (tP 73).sz, none⟩ from es1, show subAddr (some ⟨b, 0, none⟩) c' (i + 1) 1 = some ⟨b, (i + 1) * (tP 73).sz, none⟩ from es2]
    have hm1 : mid.length = (tP 73).sz + (n - i) * (tP 73).sz := by rw [hm, show n + 1 - i = 1 + (n - i) by omega, Nat.add_mul, Nat.one_mul]
    have em : mid = mid.take (tP 73).sz ++ mid.drop (tP 73).sz := (List.take_append_drop _ _).symm
    have s2 : St h0 h' (cA b ((tP 73).cells (xs.take i) ++ mid.take (tP 73).sz ++ (mid.drop (tP 73).sz ++ rest)) (tP 73).e + (A + (cA bv cs (tP 73).e + F))) := by
      have e : (tP 73).cells (xs.take i) ++ mid.take (tP 73).sz ++ (mid.drop (tP 73).sz ++ rest) = (tP 73).cells (xs.take i) ++ mid ++ rest := by
        conv => rhs; rw [em]
        simp only [List.append_assoc]
      rw [e]; exact s1
    have rv2 : RdT (tP 73) h' (some ⟨bv, 0, none⟩) 1 [x] := one.rd (s2.to (B := cA bv cs (tP 73).e + (cA b _ _ + (A + F))))
    refine copy_st (j := 1) ok_node s2 rv2 hti (by omega) (by rw [List.length_take]; omega) fun v1 h3 s3 => ?_
    refine ⟨⟨by omega, by omega⟩, ⟨by omega, by omega, by omega⟩, ⟨by omega, by omega, by omega⟩, ?_⟩
    rw [(tP 73).cells_one] at s3
    have s4 : St h0 h3 (cA b (((tP 73).cells (xs.take i) ++ (tP 73).enc x) ++ mid.drop (tP 73).sz ++ rest) (tP 73).e + (A + (cA bv cs (tP 73).e + F))) := by
      have e : ((tP 73).cells (xs.take i) ++ (tP 73).enc x) ++ mid.drop (tP 73).sz ++ rest = (tP 73).cells (xs.take i) ++ (tP 73).enc x ++ (mid.drop (tP 73).sz ++ rest) := by simp only [List.append_assoc]
      rw [e]; exact s3
    have ra : RdT (tP 73) h3 p n xs := a.rd (s4.to (B := A + (cA b _ _ + (cA bv cs (tP 73).e + F))))
    have rs := ra.sub hi hcap rfl
    refine copy_st (j := n - i) ok_node s4 rs (by rw [List.length_append, hti, (tP 73).len, Nat.add_mul, Nat.one_mul]) (by omega) (by rw [List.length_drop, hm1, Nat.add_sub_cancel_left]) fun v2 h4 s5 => ?_
    refine ⟨_, _, _, rfl, ⟨by simp; omega, .inr ⟨b, rest, rfl, hc', hr, rfl⟩⟩, ?_⟩
    rw [(tP 73).cells_append, (tP 73).cells_cons]
    have e : (tP 73).cells (xs.take i) ++ ((tP 73).enc x ++ (tP 73).cells (xs.drop i)) ++ rest = (tP 73).cells (xs.take i) ++ (tP 73).enc x ++ (tP 73).cells (xs.drop i) ++ rest := by simp only [List.append_assoc]
    rw [e]
    exact (s5.to (B := A + (cA b _ _ + (cA bv cs (tP 73).e + F)))).drop
  · -- in place
    have hcn : n + 1 ≤ c := by omega
    rcases a with ⟨hl, ⟨rfl, h3, _, _⟩ | ⟨b, rest, rfl, hc, hr, rfl⟩⟩
    · omega
    have a : Sl (tP 73) (some ⟨b, 0, none⟩) n c xs (cA b ((tP 73).cells xs ++ rest) (tP 73).e) := ⟨hl, .inr ⟨b, rest, rfl, hc, hr, rfl⟩⟩
    have e3 : Int.toNat ((i : Int) + ((1 : Nat) : Int)) = i + 1 := by omega
    have e4 : Int.toNat (n : Int) = n := Int.toNat_natCast _
    have e5 : Int.toNat ((n : Int) + ((1 : Nat) : Int)) = n + 1 := by omega
    have e6 : Int.toNat (((n + 1 : Nat) : Nat) : Int) = n + 1 := Int.toNat_natCast _
    simp only [e0, e1, e3, e4, e5, e6, subAddr_z, Nat.sub_zero]
    refine ⟨⟨by omega, by omega⟩, ⟨by omega, by omega, by omega⟩, ⟨by omega, by omega⟩, ⟨by omega, by omega, by omega⟩, ?_⟩
    have es1 : subAddr (some ⟨b, 0, none⟩) c (i + 1) (tP 73).sz = some ⟨b, (i + 1) * (tP 73).sz, none⟩ := by rw [subAddr_in' (by omega), Nat.zero_add]
    rw [show subAddr (some ⟨b, 0, none⟩) c (i + 1) 1 = some ⟨b, (i + 1) * (tP 73).sz, none⟩ from es1]
    obtain ⟨i0, z, hi0, hz, hzs, hzc, hbt⟩ := (ok_node).info
    have hrl : (tP 73).sz ≤ rest.length := by rw [hr]; calc (tP 73).sz = 1 * (tP 73).sz := (Nat.one_mul _).symm
                                              _ ≤ (c - n) * (tP 73).sz := Nat.mul_le_mul_right _ (by omega)
    have er : rest = rest.take (tP 73).sz ++ rest.drop (tP 73).sz := (List.take_append_drop _ _).symm
    refine overlaps_st ovl_node (t := 86) (e := 73) (by kernel_rfl) (by kernel_rfl) hi0 (s.to (B := cA bv cs (tP 73).e + (cA b _ _ + F))) ⟨_, rfl, ?_⟩
    refine ⟨⟨by omega, by omega⟩, ⟨by omega, by omega, by omega⟩, ⟨by omega, by omega, by omega⟩, ?_⟩
    -- the elements from i on move by one
    have hdl : ((tP 73).cells (xs.drop i)).length = (n - i) * (tP 73).sz := by rw [(tP 73).cells_len, List.length_drop, hl]
    have hd1l : ((tP 73).cells (xs.drop (i + 1))).length = (n - (i + 1)) * (tP 73).sz := by rw [(tP 73).cells_len, List.length_drop, hl]
    have ht1 : ((tP 73).cells (xs.take (i + 1))).length = (i + 1) * (tP 73).sz := by rw [(tP 73).cells_len, List.length_take]; congr 1; omega
    have s1 : St h0 h (cA b ((tP 73).cells (xs.take (i + 1)) ++ ((tP 73).cells (xs.drop (i + 1)) ++ rest.take (tP 73).sz) ++ rest.drop (tP 73).sz) (tP 73).e + (cA bv cs (tP 73).e + F)) := by
      have e : (tP 73).cells (xs.take (i + 1)) ++ ((tP 73).cells (xs.drop (i + 1)) ++ rest.take (tP 73).sz) ++ rest.drop (tP 73).sz = (tP 73).cells xs ++ rest := by
        rw [List.append_assoc, List.append_assoc, ← er, ← List.append_assoc, ← (tP 73).cells_append, List.take_append_drop]
      rw [e]; exact s
    have rx : RdT (tP 73) h (some ⟨b, 0, none⟩) n xs := a.rd s
    have rs : RdT (tP 73) h (subAddr (some ⟨b, 0, none⟩) c i (tP 73).sz) (n - i) (xs.drop i) := rx.sub hi hcap rfl
    refine copy_st (j := n - i) ok_node s1 rs ht1 (by omega) (by rw [List.length_append, hd1l, List.length_take, Nat.min_eq_left hrl, show n - i = (n - (i + 1)) + 1 by omega, Nat.add_mul, Nat.one_mul]) fun v4 h5 s5 => ?_
    refine ⟨⟨by omega, by omega, by omega⟩, ?_⟩
    have es2 : subAddr (some ⟨b, 0, none⟩) c i (tP 73).sz = some ⟨b, i * (tP 73).sz, none⟩ := by rw [subAddr_in' (by omega), Nat.zero_add]
    rw [show subAddr (some ⟨b, 0, none⟩) c i 1 = some ⟨b, i * (tP 73).sz, none⟩ from es2]
    have s6 : St h0 h5 (cA b ((tP 73).cells (xs.take i) ++ (tP 73).enc xs[i] ++ ((tP 73).cells (xs.drop i) ++ rest.drop (tP 73).sz)) (tP 73).e + (cA bv cs (tP 73).e + F)) := by
      have e : (tP 73).cells (xs.take i) ++ (tP 73).enc xs[i] ++ ((tP 73).cells (xs.drop i) ++ rest.drop (tP 73).sz) = (tP 73).cells (xs.take (i + 1)) ++ (tP 73).cells (xs.drop i) ++ rest.drop (tP 73).sz := by
        rw [List.take_succ_eq_append_getElem (by omega), (tP 73).cells_append, (tP 73).cells_one]; simp only [List.append_assoc]
      rw [e]; exact s5
    have rv5 : RdT (tP 73) h5 (some ⟨bv, 0, none⟩) 1 [x] := one.rd (s6.to (B := cA bv cs (tP 73).e + (cA b _ _ + F)))
    refine copy_st (j := 1) ok_node s6 rv5 hti (by omega) (by rw [(tP 73).len, Nat.one_mul]) fun v5 h6 s7 => ?_
    refine ⟨_, _, _, rfl, ⟨by simp; omega, .inr ⟨b, rest.drop (tP 73).sz, rfl, hcn, ?_, rfl⟩⟩, ?_⟩
    · rw [List.length_drop, hr, show c - n = (c - (n + 1)) + 1 by omega, Nat.add_mul, Nat.one_mul]; omega
    · rw [(tP 73).cells_one] at s7
      rw [(tP 73).cells_append, (tP 73).cells_cons]
      have e : (tP 73).cells (xs.take i) ++ ((tP 73).enc x ++ (tP 73).cells (xs.drop i)) ++ rest.drop (tP 73).sz = (tP 73).cells (xs.take i) ++ (tP 73).enc x ++ ((tP 73).cells (xs.drop i) ++ rest.drop (tP 73).sz) := by simp only [List.append_assoc]
      rw [e]
      exact s7
theorem deleteP_st {h0 h : Hp} {p : Option Addr} {n c i : Nat} {j : Int} {xs : List Nat} {A F : Bag} (s : St h0 h (A + F)) (a : Sl (tP 73) p n c xs A) (hi : i < n) (hj : j = (i : Int) + 1) (hn : n < 1000000) :
    HCalls Try.prog 95 #[.slice p n c, .int .i64 (i : Int), .int .i64 j] h (fun v h' => ∃ A', v = .slice p (n - 1) c ∧ Sl (tP 73) p (n - 1) c (xs.take i ++ xs.drop (i + 1)) A' ∧ St h0 h' (A' + F)) := by
  obtain rfl : j = ((i + 1 : Nat) : Int) := by omega
  have hcap := a.cap
  have hlen := a.len
  have rd := a.rd s
  refine slices_Delete_btree_node_btree_node_call ?_
  rw [slices_Delete_btree_node_btree_node_b0_eq]
  refine slC_st (ok_node).el (by omega) (by omega) hcap fun _ => condP (fun h1 => by omega) (fun _ => ?_)
  have e1 : Int.toNat (i : Int) = i := Int.toNat_natCast i
  have e2 : Int.toNat ((i + 1 : Nat) : Int) = i + 1 := Int.toNat_natCast _
  have e3 : Int.toNat (n : Int) = n := Int.toNat_natCast _
  have e0 : Int.toNat (0 : Int) = 0 := rfl
  refine ⟨⟨by omega, by omega, by omega⟩, ⟨by omega, by omega, by omega⟩, ?_⟩
  rw [e0, e1, e2, e3, subAddr_z, Nat.sub_zero, Nat.sub_zero]
  rcases a with ⟨hl, ⟨rfl, h3, _, _⟩ | ⟨b, rest, rfl, hc, hr, rfl⟩⟩
  · omega
  have hti : ((tP 73).cells (xs.take i)).length = i * (tP 73).sz := by rw [(tP 73).cells_len, List.length_take]; congr 1; omega
  have hdl : ((tP 73).cells (xs.drop i)).length = (n - i) * (tP 73).sz := by rw [(tP 73).cells_len, List.length_drop, hl]
  have hd1l : ((tP 73).cells (xs.drop (i + 1))).length = (n - (i + 1)) * (tP 73).sz := by rw [(tP 73).cells_len, List.length_drop, hl]
  have s1 : St h0 h (cA b ((tP 73).cells (xs.take i) ++ ((tP 73).cells (xs.drop i)).take ((n - (i + 1)) * (tP 73).sz) ++ (((tP 73).cells (xs.drop i)).drop ((n - (i + 1)) * (tP 73).sz) ++ rest)) (tP 73).e + F) := by
    have e : (tP 73).cells (xs.take i) ++ ((tP 73).cells (xs.drop i)).take ((n - (i + 1)) * (tP 73).sz) ++ (((tP 73).cells (xs.drop i)).drop ((n - (i + 1)) * (tP 73).sz) ++ rest) = (tP 73).cells xs ++ rest := by
      rw [List.append_assoc, ← List.append_assoc _ _ rest, List.take_append_drop, ← List.append_assoc, ← (tP 73).cells_append, List.take_append_drop]
    rw [e]; exact s
  have hle : (n - (i + 1)) * (tP 73).sz ≤ (n - i) * (tP 73).sz := Nat.mul_le_mul_right _ (by omega)
  refine append_fit_st ok_node s1 hti (by rw [List.length_take, hdl]; omega) (rd.sub (by omega) hcap rfl) (by omega) fun h' s2 => ?_
  refine ⟨⟨by omega, by omega, by omega⟩, ?_⟩
  have e4 : Int.toNat ((i + (n - (i + 1)) : Nat) : Int) = n - 1 := by omega
  have e5 : i + (n - (i + 1)) = n - 1 := by omega
  rw [e4, show subAddr (some ⟨b, 0, none⟩) c (n - 1) 1 = some ⟨b, (n - 1) * (tP 73).sz, none⟩ by rw [show subAddr (some ⟨b, 0, none⟩) c (n - 1) 1 = subAddr (some ⟨b, 0, none⟩) c (n - 1) (tP 73).sz from rfl, subAddr_in' (by omega), Nat.zero_add]]
  rw [← (tP 73).cells_append, ← List.append_assoc] at s2
  have hl1 : (xs.take i ++ xs.drop (i + 1)).length = n - 1 := by rw [List.length_append, List.length_take, List.length_drop]; omega
  have hn1 : n - (n - 1) = 1 := by omega
  refine clear_st ok_node s2 (by rw [(tP 73).cells_len, hl1]) (by
    rw [List.length_drop, hdl, ← Nat.sub_mul]; congr 1; omega) fun h2 zs hzl s3 => ?_
  rw [e5]
  refine ⟨_, rfl, ⟨hl1, .inr ⟨b, zs ++ rest, rfl, by omega, ?_, rfl⟩⟩, ?_⟩
  · rw [List.length_append, hzl, hr, ← Nat.add_mul]; congr 1; omega
  · rw [← List.append_assoc]; exact s3
end Go.Proofs.Ytaemnjblcpknpaa
