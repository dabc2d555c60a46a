/- Part M3 Y1 Y2 Y3 Q1 Q2 Q3 I10 Q4 Q5 Q6 M4 Q7 Q8 Q9 of the proof: contracts of functions of the program, and what follows from them. -/
import Derived.Test.YtdlkohenamlnaaaGreatSxB33
/- slices.Insert of one row, Delete of one row. -/
set_option maxRecDepth 100000
namespace Go.Proofs.YtdlkohenamlnaaaGreat
open Go Go.Sx
theorem ovl_row : IsExt Tryz.prog 181 (Extern.SlicesOverlaps.overlaps Tryz.f181.params Tryz.f181.resultTypes) :=
  ⟨Tryz.f181, Tryz.func181, by kernel_rfl, by kernel_rfl, by kernel_rfl, by kernel_rfl⟩
theorem ok_rows : ElOk (tS 23) Tryz.prog 64 := elB_spec (by kernel_rfl)
theorem insertR_st {h0 h : Hp} {p : Option Addr} {n c i bv : Nat} {xs : List SH} {x : SH} {cs : List Value} {A F : Bag} (s : St h0 h (A + (cA bv cs (tS 23).e + F))) (a : Sl (tS 23) p n c xs A)
    (hcs : cs = (tS 23).enc x) (hi : i ≤ n) (hn : n < 1000000) :
    HCalls Tryz.prog 166 #[.slice p n c, .int .i64 (i : Int), .slice (some ⟨bv, 0, none⟩) 1 1] h (fun v h' => ∃ p' c' A', v = .slice p' (n + 1) c' ∧ Sl (tS 23) p' (n + 1) c' (xs.take i ++ x :: xs.drop i) A' ∧ St h0 h' (A' + (cA bv cs (tS 23).e + F))) := by
  have hcap := a.cap
  have hlen := a.len
  have one : Sl (tS 23) (some ⟨bv, 0, none⟩) 1 1 [x] (cA bv cs (tS 23).e) := Sl.one hcs
  have rv : RdT (tS 23) h (some ⟨bv, 0, none⟩) 1 [x] := one.rd (s.to (B := cA bv cs (tS 23).e + (A + F)))
  refine slices_Insert_Sint_Sint_call ?_
  rw [slices_Insert_Sint_Sint_b0_eq]
  refine ⟨⟨by omega, by omega, by omega⟩, condNo (by decide) ?_⟩
  have e1 : Int.toNat (i : Int) = i := Int.toNat_natCast i
  have e0 : Int.toNat (0 : Int) = 0 := rfl
  refine condP (fun h1 => ?_) (fun h1 => ?_)
  · have : i = n := by omega
    subst this
    refine append_sl ok_rows s a rv (by omega) fun p' c' h' A' a' s' => ?_
    refine ⟨p', c', A', rfl, ?_, s'⟩
    rw [List.take_of_length_le (by omega), List.drop_eq_nil_of_le (by omega)]
    exact a'
  have hin : i < n := by omega
  have hti : ((tS 23).cells (xs.take i)).length = i * (tS 23).sz := by rw [(tS 23).cells_len, List.length_take]; congr 1; omega
  refine ⟨⟨by omega, by omega⟩, condP (fun h2 => ?_) (fun h2 => ?_)⟩
  · -- a new block
    have hcn : c < n + 1 := by omega
    refine ⟨⟨by omega, by omega, by omega⟩, ⟨by omega, by omega⟩, ⟨by omega, by omega⟩, ?_⟩
    rw [e0, e1, subAddr_z, Nat.sub_zero, Nat.sub_zero]
    have rt : RdT (tS 23) h p i (xs.take i) := (a.rd s).take (by omega)
    have el : (((n : Int) + ((1 : Nat) : Int)) - (i : Int)).toNat = n + 1 - i := by omega
    refine append_make_st ok_rows (by kernel_rfl) (by kernel_rfl) s rt (by omega) (by omega) (by omega) fun b c' h' mid rest hc' hm hr s1 => ?_
    rw [el] at hm hr hc' ⊢
    have hl2 : i + (n + 1 - i) = n + 1 := by omega
    rw [hl2] at hr hc' ⊢
    refine ⟨⟨by omega, by omega, by omega⟩, ?_⟩
    have e2 : Int.toNat (((n + 1 : Nat) : Nat) : Int) = n + 1 := Int.toNat_natCast _
    have e3 : Int.toNat ((i : Int) + ((1 : Nat) : Int)) = i + 1 := by omega
    have e4 : Int.toNat (n : Int) = n := Int.toNat_natCast _
    rw [e2, e3, e4]
    have es1 : subAddr (some ⟨b, 0, none⟩) c' i (tS 23).sz = some ⟨b, i * (tS 23).sz, none⟩ := by rw [subAddr_in' (by omega), Nat.zero_add]
    have es2 : subAddr (some ⟨b, 0, none⟩) c' (i + 1) (tS 23).sz = some ⟨b, (i + 1) * (tS 23).sz, none⟩ := by rw [subAddr_in' (by omega), Nat.zero_add]
    rw [show subAddr (some ⟨b, 0, none⟩) c' i 1 = some ⟨b, i * (tS 23).sz, none⟩ from es1, show subAddr (some ⟨b, 0, none⟩) c' (i + 1) 1 = some ⟨b, (i + 1) * (tS 23).sz, none⟩ from es2]
    have hm1 : mid.length = (tS 23).sz + (n - i) * (tS 23).sz := by rw [hm, show n + 1 - i = 1 + (n - i) by omega, Nat.add_mul, Nat.one_mul]
    have em : mid = mid.take (tS 23).sz ++ mid.drop (tS 23).sz := (List.take_append_drop _ _).symm
    have s2 : St h0 h' (cA b ((tS 23).cells (xs.take i) ++ mid.take (tS 23).sz ++ (mid.drop (tS 23).sz ++ rest)) (tS 23).e + (A + (cA bv cs (tS 23).e + F))) := by
      have e : (tS 23).cells (xs.take i) ++ mid.take (tS 23).sz ++ (mid.drop (tS 23).sz ++ rest) = (tS 23).cells (xs.take i) ++ mid ++ rest := by
        conv => rhs; rw [em]
        simp only [List.append_assoc]
      rw [e]; exact s1
    have rv2 : RdT (tS 23) h' (some ⟨bv, 0, none⟩) 1 [x] := one.rd (s2.to (B := cA bv cs (tS 23).e + (cA b _ _ + (A + F))))
    refine copy_st (j := 1) ok_rows s2 rv2 hti (by omega) (by rw [List.length_take]; omega) fun v1 h3 s3 => ?_
    refine ⟨⟨by omega, by omega⟩, ⟨by omega, by omega, by omega⟩, ⟨by omega, by omega, by omega⟩, ?_⟩
    rw [(tS 23).cells_one] at s3
    have s4 : St h0 h3 (cA b (((tS 23).cells (xs.take i) ++ (tS 23).enc x) ++ mid.drop (tS 23).sz ++ rest) (tS 23).e + (A + (cA bv cs (tS 23).e + F))) := by
      have e : ((tS 23).cells (xs.take i) ++ (tS 23).enc x) ++ mid.drop (tS 23).sz ++ rest = (tS 23).cells (xs.take i) ++ (tS 23).enc x ++ (mid.drop (tS 23).sz ++ rest) := by simp only [List.append_assoc]
      rw [e]; exact s3
    have ra : RdT (tS 23) h3 p n xs := a.rd (s4.to (B := A + (cA b _ _ + (cA bv cs (tS 23).e + F))))
    have rs := ra.sub hi hcap rfl
    refine copy_st (j := n - i) ok_rows s4 rs (by rw [List.length_append, hti, (tS 23).len, Nat.add_mul, Nat.one_mul]) (by omega) (by rw [List.length_drop, hm1, Nat.add_sub_cancel_left]) fun v2 h4 s5 => ?_
    refine ⟨_, _, _, rfl, ⟨by simp; omega, .inr ⟨b, rest, rfl, hc', hr, rfl⟩⟩, ?_⟩
    rw [(tS 23).cells_append, (tS 23).cells_cons]
    have e : (tS 23).cells (xs.take i) ++ ((tS 23).enc x ++ (tS 23).cells (xs.drop i)) ++ rest = (tS 23).cells (xs.take i) ++ (tS 23).enc x ++ (tS 23).cells (xs.drop i) ++ rest := by simp only [List.append_assoc]
    rw [e]
    exact (s5.to (B := A + (cA b _ _ + (cA bv cs (tS 23).e + F)))).drop
  · -- in place
    have hcn : n + 1 ≤ c := by omega
    rcases a with ⟨hl, ⟨rfl, h3, _, _⟩ | ⟨b, rest, rfl, hc, hr, rfl⟩⟩
    · omega
    have a : Sl (tS 23) (some ⟨b, 0, none⟩) n c xs (cA b ((tS 23).cells xs ++ rest) (tS 23).e) := ⟨hl, .inr ⟨b, rest, rfl, hc, hr, rfl⟩⟩
    have e3 : Int.toNat ((i : Int) + ((1 : Nat) : Int)) = i + 1 := by omega
    have e4 : Int.toNat (n : Int) = n := Int.toNat_natCast _
    have e5 : Int.toNat ((n : Int) + ((1 : Nat) : Int)) = n + 1 := by omega
    have e6 : Int.toNat (((n + 1 : Nat) : Nat) : Int) = n + 1 := Int.toNat_natCast _
    simp only [e0, e1, e3, e4, e5, e6, subAddr_z, Nat.sub_zero]
    refine ⟨⟨by omega, by omega⟩, ⟨by omega, by omega, by omega⟩, ⟨by omega, by omega⟩, ⟨by omega, by omega, by omega⟩, ?_⟩
    have es1 : subAddr (some ⟨b, 0, none⟩) c (i + 1) (tS 23).sz = some ⟨b, (i + 1) * (tS 23).sz, none⟩ := by rw [subAddr_in' (by omega), Nat.zero_add]
    rw [show subAddr (some ⟨b, 0, none⟩) c (i + 1) 1 = some ⟨b, (i + 1) * (tS 23).sz, none⟩ from es1]
    obtain ⟨i0, z, hi0, hz, hzs, hzc, hbt⟩ := (ok_rows).info
    have hrl : (tS 23).sz ≤ rest.length := by rw [hr]; calc (tS 23).sz = 1 * (tS 23).sz := (Nat.one_mul _).symm
                                              _ ≤ (c - n) * (tS 23).sz := Nat.mul_le_mul_right _ (by omega)
    have er : rest = rest.take (tS 23).sz ++ rest.drop (tS 23).sz := (List.take_append_drop _ _).symm
    refine overlaps_st ovl_row (t := 64) (e := 23) (by kernel_rfl) (by kernel_rfl) hi0 (s.to (B := cA bv cs (tS 23).e + (cA b _ _ + F))) ⟨_, rfl, ?_⟩
    refine ⟨⟨by omega, by omega⟩, ⟨by omega, by omega, by omega⟩, ⟨by omega, by omega, by omega⟩, ?_⟩
    -- the elements from i on move by one
    have hdl : ((tS 23).cells (xs.drop i)).length = (n - i) * (tS 23).sz := by rw [(tS 23).cells_len, List.length_drop, hl]
    have hd1l : ((tS 23).cells (xs.drop (i + 1))).length = (n - (i + 1)) * (tS 23).sz := by rw [(tS 23).cells_len, List.length_drop, hl]
    have ht1 : ((tS 23).cells (xs.take (i + 1))).length = (i + 1) * (tS 23).sz := by rw [(tS 23).cells_len, List.length_take]; congr 1; omega
    have s1 : St h0 h (cA b ((tS 23).cells (xs.take (i + 1)) ++ ((tS 23).cells (xs.drop (i + 1)) ++ rest.take (tS 23).sz) ++ rest.drop (tS 23).sz) (tS 23).e + (cA bv cs (tS 23).e + F)) := by
      have e : (tS 23).cells (xs.take (i + 1)) ++ ((tS 23).cells (xs.drop (i + 1)) ++ rest.take (tS 23).sz) ++ rest.drop (tS 23).sz = (tS 23).cells xs ++ rest := by
        rw [List.append_assoc, List.append_assoc, ← er, ← List.append_assoc, ← (tS 23).cells_append, List.take_append_drop]
      rw [e]; exact s
    have rx : RdT (tS 23) h (some ⟨b, 0, none⟩) n xs := a.rd s
    have rs : RdT (tS 23) h (subAddr (some ⟨b, 0, none⟩) c i (tS 23).sz) (n - i) (xs.drop i) := rx.sub hi hcap rfl
    refine copy_st (j := n - i) ok_rows s1 rs ht1 (by omega) (by rw [List.length_append, hd1l, List.length_take, Nat.min_eq_left hrl, show n - i = (n - (i + 1)) + 1 by omega, Nat.add_mul, Nat.one_mul]) fun v4 h5 s5 => ?_
    refine ⟨⟨by omega, by omega, by omega⟩, ?_⟩
    have es2 : subAddr (some ⟨b, 0, none⟩) c i (tS 23).sz = some ⟨b, i * (tS 23).sz, none⟩ := by rw [subAddr_in' (by omega), Nat.zero_add]
    rw [show subAddr (some ⟨b, 0, none⟩) c i 1 = some ⟨b, i * (tS 23).sz, none⟩ from es2]
    have s6 : St h0 h5 (cA b ((tS 23).cells (xs.take i) ++ (tS 23).enc xs[i] ++ ((tS 23).cells (xs.drop i) ++ rest.drop (tS 23).sz)) (tS 23).e + (cA bv cs (tS 23).e + F)) := by
      have e : (tS 23).cells (xs.take i) ++ (tS 23).enc xs[i] ++ ((tS 23).cells (xs.drop i) ++ rest.drop (tS 23).sz) = (tS 23).cells (xs.take (i + 1)) ++ (tS 23).cells (xs.drop i) ++ rest.drop (tS 23).sz := by
        rw [List.take_succ_eq_append_getElem (by omega), (tS 23).cells_append, (tS 23).cells_one]; simp only [List.append_assoc]
      rw [e]; exact s5
    have rv5 : RdT (tS 23) h5 (some ⟨bv, 0, none⟩) 1 [x] := one.rd (s6.to (B := cA bv cs (tS 23).e + (cA b _ _ + F)))
    refine copy_st (j := 1) ok_rows s6 rv5 hti (by omega) (by rw [(tS 23).len, Nat.one_mul]) fun v5 h6 s7 => ?_
    refine ⟨_, _, _, rfl, ⟨by simp; omega, .inr ⟨b, rest.drop (tS 23).sz, rfl, hcn, ?_, rfl⟩⟩, ?_⟩
    · rw [List.length_drop, hr, show c - n = (c - (n + 1)) + 1 by omega, Nat.add_mul, Nat.one_mul]; omega
    · rw [(tS 23).cells_one] at s7
      rw [(tS 23).cells_append, (tS 23).cells_cons]
      have e : (tS 23).cells (xs.take i) ++ ((tS 23).enc x ++ (tS 23).cells (xs.drop i)) ++ rest.drop (tS 23).sz = (tS 23).cells (xs.take i) ++ (tS 23).enc x ++ ((tS 23).cells (xs.drop i) ++ rest.drop (tS 23).sz) := by simp only [List.append_assoc]
      rw [e]
      exact s7
theorem deleteR_st {h0 h : Hp} {p : Option Addr} {n c i : Nat} {j : Int} {xs : List SH} {A F : Bag} (s : St h0 h (A + F)) (a : Sl (tS 23) p n c xs A) (hi : i < n) (hj : j = (i : Int) + 1) (hn : n < 1000000) :
    HCalls Tryz.prog 167 #[.slice p n c, .int .i64 (i : Int), .int .i64 j] h (fun v h' => ∃ A', v = .slice p (n - 1) c ∧ Sl (tS 23) p (n - 1) c (xs.take i ++ xs.drop (i + 1)) A' ∧ St h0 h' (A' + F)) := by
  obtain rfl : j = ((i + 1 : Nat) : Int) := by omega
  have hcap := a.cap
  have hlen := a.len
  have rd := a.rd s
  refine slices_Delete_Sint_Sint_call ?_
  rw [slices_Delete_Sint_Sint_b0_eq]
  refine slC_st (ok_rows).el (by omega) (by omega) hcap fun _ => condP (fun h1 => by omega) (fun _ => ?_)
  have e1 : Int.toNat (i : Int) = i := Int.toNat_natCast i
  have e2 : Int.toNat ((i + 1 : Nat) : Int) = i + 1 := Int.toNat_natCast _
  have e3 : Int.toNat (n : Int) = n := Int.toNat_natCast _
  have e0 : Int.toNat (0 : Int) = 0 := rfl
  refine ⟨⟨by omega, by omega, by omega⟩, ⟨by omega, by omega, by omega⟩, ?_⟩
  rw [e0, e1, e2, e3, subAddr_z, Nat.sub_zero, Nat.sub_zero]
  rcases a with ⟨hl, ⟨rfl, h3, _, _⟩ | ⟨b, rest, rfl, hc, hr, rfl⟩⟩
  · omega
  have hti : ((tS 23).cells (xs.take i)).length = i * (tS 23).sz := by rw [(tS 23).cells_len, List.length_take]; congr 1; omega
  have hdl : ((tS 23).cells (xs.drop i)).length = (n - i) * (tS 23).sz := by rw [(tS 23).cells_len, List.length_drop, hl]
  have hd1l : ((tS 23).cells (xs.drop (i + 1))).length = (n - (i + 1)) * (tS 23).sz := by rw [(tS 23).cells_len, List.length_drop, hl]
  have s1 : St h0 h (cA b ((tS 23).cells (xs.take i) ++ ((tS 23).cells (xs.drop i)).take ((n - (i + 1)) * (tS 23).sz) ++ (((tS 23).cells (xs.drop i)).drop ((n - (i + 1)) * (tS 23).sz) ++ rest)) (tS 23).e + F) := by
    have e : (tS 23).cells (xs.take i) ++ ((tS 23).cells (xs.drop i)).take ((n - (i + 1)) * (tS 23).sz) ++ (((tS 23).cells (xs.drop i)).drop ((n - (i + 1)) * (tS 23).sz) ++ rest) = (tS 23).cells xs ++ rest := by
      rw [List.append_assoc, ← List.append_assoc _ _ rest, List.take_append_drop, ← List.append_assoc, ← (tS 23).cells_append, List.take_append_drop]
    rw [e]; exact s
  have hle : (n - (i + 1)) * (tS 23).sz ≤ (n - i) * (tS 23).sz := Nat.mul_le_mul_right _ (by omega)
  refine append_fit_st ok_rows s1 hti (by rw [List.length_take, hdl]; omega) (rd.sub (by omega) hcap rfl) (by omega) fun h' s2 => ?_
  refine ⟨⟨by omega, by omega, by omega⟩, ?_⟩
  have e4 : Int.toNat ((i + (n - (i + 1)) : Nat) : Int) = n - 1 := by omega
  have e5 : i + (n - (i + 1)) = n - 1 := by omega
  rw [e4, show subAddr (some ⟨b, 0, none⟩) c (n - 1) 1 = some ⟨b, (n - 1) * (tS 23).sz, none⟩ by rw [show subAddr (some ⟨b, 0, none⟩) c (n - 1) 1 = subAddr (some ⟨b, 0, none⟩) c (n - 1) (tS 23).sz from rfl, subAddr_in' (by omega), Nat.zero_add]]
  rw [← (tS 23).cells_append, ← List.append_assoc] at s2
  have hl1 : (xs.take i ++ xs.drop (i + 1)).length = n - 1 := by rw [List.length_append, List.length_take, List.length_drop]; omega
  have hn1 : n - (n - 1) = 1 := by omega
  refine clear_st ok_rows s2 (by rw [(tS 23).cells_len, hl1]) (by
    rw [List.length_drop, hdl, ← Nat.sub_mul]; congr 1; omega) fun h2 zs hzl s3 => ?_
  rw [e5]
  refine ⟨_, rfl, ⟨hl1, .inr ⟨b, zs ++ rest, rfl, by omega, ?_, rfl⟩⟩, ?_⟩
  · rw [List.length_append, hzl, hr, ← Nat.add_mul]; congr 1; omega
  · rw [← List.append_assoc]; exact s3
end Go.Proofs.YtdlkohenamlnaaaGreat

/- Layer 3's model: comparing rows, finding a row. -/
set_option maxRecDepth 100000
namespace Go.Proofs.YtdlkohenamlnaaaGreat
open Go Go.Sx
def cmpS (x y : Int) : Int := if x < y then -1 else if y < x then 1 else 0
def cmpL : List Int → List Int → Int
  | [], [] => 0
  | [], _ :: _ => -1
  | _ :: _, [] => 1
  | x :: xs, y :: ys => if x < y then -1 else if y < x then 1 else cmpL xs ys
theorem cmp_ok (x y : Int) (h : Hp) : HCalls Tryz.prog 103 #[.int .i64 x, .int .i64 y] h (fun v h' => v = .int .i64 (cmpS x y) ∧ h' = h) := by
  refine cmp_Compare_int_call ?_
  rw [cmp_Compare_int_b0_eq]
  have nan : ∀ (z : Int) {K : Value → Hp → Prop}, K (.bool false) h → HCalls Tryz.prog 99 #[.int .i64 z] h K := fun z K hK => by
    refine cmp_isNaN_int_call ?_
    rw [cmp_isNaN_int_b0_eq, decide_eq_true rfl]
    exact hK
  refine nan x ⟨_, rfl, nan y ⟨_, rfl, condNo rfl (condNo rfl ?_)⟩⟩
  refine condP (fun h1 => ?_) (fun h1 => condP (fun h2 => ?_) (fun h2 => ?_))
  · exact ⟨by rw [cmpS, if_pos h1], rfl⟩
  · exact ⟨by rw [cmpS, if_neg h1, if_pos h2], rfl⟩
  · exact ⟨by rw [cmpS, if_neg h1, if_neg h2], rfl⟩
theorem cmpL_ok {h : Hp} {p q : Option Addr} {n m c d : Nat} {xs ys : List Int} (r1 : RdT TI h p n xs) (r2 : RdT TI h q m ys) (hn : n ≤ 1000000) :
    HCalls Tryz.prog 161 #[.slice p n c, .slice q m d] h (fun v h' => v = .int .i64 (cmpL xs ys) ∧ h' = h) := by
  have hx := r1.len
  have hy := r2.len
  refine slices_Compare_Sint_int_call ?_
  rw [slices_Compare_Sint_int_b0_eq]
  refine ⟨fun s h' => h' = h ∧ ∃ i : Nat, s.1 = i ∧ i ≤ n ∧ i ≤ m ∧ cmpL xs ys = cmpL (xs.drop i) (ys.drop i), fun s _ => n - s.1.toNat, ⟨rfl, 0, rfl, by omega, by omega, rfl⟩, ?_⟩
  rintro ⟨_, _⟩ h1 ⟨rfl, i, rfl, hin, him, heq⟩
  dsimp only
  rw [slices_Compare_Sint_int_b1_eq]
  refine condP (fun hlt => ?_) (fun hge => ?_)
  · refine r1.int (by omega) (by omega) ?_
    rw [Int.toNat_natCast]
    have hil : i < xs.length := by omega
    have hg : xs.getD i 0 = xs[i] := by simp [List.getD, hil]
    have hd : xs.drop i = xs.getD i 0 :: xs.drop (i + 1) := by rw [hg, ← List.drop_eq_getElem_cons hil]
    refine condP (fun hm => ?_) (fun hm => ?_)
    · refine ⟨?_, rfl⟩
      rw [heq, hd, List.drop_of_length_le (show ys.length ≤ i by omega)]
      rfl
    · refine r2.int (by omega) (by omega) ?_
      rw [Int.toNat_natCast]
      have hjl : i < ys.length := by omega
      have hg2 : ys.getD i 0 = ys[i] := by simp [List.getD, hjl]
      have hd2 : ys.drop i = ys.getD i 0 :: ys.drop (i + 1) := by rw [hg2, ← List.drop_eq_getElem_cons hjl]
      refine (cmp_ok _ _ h1).mono fun v h2 ⟨hv, hh⟩ => ⟨_, hv, ?_⟩
      subst hh
      rw [hd, hd2] at heq
      have hc : cmpL (xs.getD i 0 :: xs.drop (i + 1)) (ys.getD i 0 :: ys.drop (i + 1)) = if xs.getD i 0 < ys.getD i 0 then -1 else if ys.getD i 0 < xs.getD i 0 then 1 else cmpL (xs.drop (i + 1)) (ys.drop (i + 1)) := rfl
      rw [hc] at heq
      refine condN (fun hne => ?_) (fun h0 => ?_)
      · refine ⟨?_, rfl⟩
        rw [heq]
        unfold cmpS at hne ⊢
        split
        · rfl
        · split
          · rfl
          · rename_i a b; rw [if_neg a, if_neg b] at hne; exact absurd rfl hne
      · rw [slices_Compare_Sint_int_b2_eq]
        refine ⟨⟨by omega, by omega⟩, ⟨rfl, i + 1, by simp only; omega, by omega, by omega, ?_⟩, by simp only; omega⟩
        rw [heq]
        unfold cmpS at h0
        split
        · rename_i a; rw [if_pos a] at h0; omega
        · split
          · rename_i a b; rw [if_neg a, if_pos b] at h0; omega
          · rfl
  · rw [slices_Compare_Sint_int_b3_eq]
    have hxd : xs.drop i = [] := List.drop_of_length_le (by omega)
    rw [hxd] at heq
    refine condP (fun hlt => ⟨?_, rfl⟩) (fun hlt => ⟨?_, rfl⟩)
    · have hjl : i < ys.length := by omega
      rw [heq, List.drop_eq_getElem_cons hjl]; rfl
    · have : ys.drop i = [] := List.drop_of_length_le (by omega)
      rw [heq, this]; rfl
/-- A row's first elements against a key. -/
def cmpK (rows : List (List Int)) (ks : List Int) (j : Nat) : Int := cmpL ((rows.getD j []).take ks.length) ks
theorem find_ok {h0 h : Hp} {p q : Option Addr} {n c m d t : Nat} {rows : List (List Int)} {ks : List Int} {B G : Bag} (na : RowsA (p, n, c) rows B) (s : St h0 h (B + G)) (rk : RdT TI h q m ks) (hn : n ≤ 1000000) (hm : ∀ r ∈ rows, m ≤ r.length ∧ r.length ≤ 1000000)
    (ht : t ≤ n ∧ (∀ j, j < t → cmpK rows ks j < 0) ∧ ∀ j, t ≤ j → j < n → 0 ≤ cmpK rows ks j) :
    HCalls Tryz.prog 165 #[.slice p n c, .slice q m d] h (fun v h' => v = .tuple #[.int .i64 (t : Int), .bool (decide (t < n ∧ cmpK rows ks t = 0))] ∧ h' = h) := by
  have hrl : rows.length = n := rows_len na
  have hkl := rk.len
  obtain ⟨htn, hlo, hhi⟩ := ht
  -- a row is compared
  have one : ∀ {i : Int} {Q : Option Addr → Nat → Nat → Prop}, 0 ≤ i → i < n → (∀ a l e, (∀ K : Value → Hp → Prop, K (.int .i64 (cmpK rows ks i.toNat)) h → callX Tryz.prog F 180 #[.slice a l e, .slice q m d] h K) → Q a l e) →
      (0 ≤ i ∧ i < (n : Int)) ∧ NN p fun a1 => ∃ (a2 : Option Addr) (L1 C1 : Nat), cell h (a1.add (Int.toNat i * 1)) = some (.slice a2 L1 C1) ∧ Q a2 L1 C1 := by
    intro i Q hi0 hi hq
    refine Nest.at_ (d := []) na s hi0 hi fun a l e Bi Br o hB => hq a l e fun K hK => ?_
    have o : Sl TI a l e (rows.getD i.toNat []) Bi := o
    have hl1 := o.len
    have hcap := o.cap
    have st2 : St h0 h (Bi + (Br + G)) := by rw [hB] at s; exact s.to
    have hil : i.toNat < rows.length := by omega
    have hg : rows.getD i.toNat [] = rows[i.toNat] := by simp [List.getD, hil]
    have hmi := hm _ (List.getElem_mem hil)
    rw [← hg] at hmi
    refine callX_of (by kernel_rfl) (model_find_c1_call ?_)
    rw [model_find_c1_b0_eq]
    have e0 : Int.toNat (0 : Int) = 0 := rfl
    refine ⟨⟨by omega, by omega, by omega⟩, ?_⟩
    rw [e0, subAddr_z, Int.toNat_natCast, Nat.sub_zero, Nat.sub_zero]
    refine (cmpL_ok ((o.rd st2).take (i := m) (by omega)) rk (by omega)).mono fun v h2 ⟨hv, hh⟩ => ⟨_, hv, ?_⟩
    subst hh
    have : cmpK rows ks i.toNat = cmpL ((rows.getD i.toNat []).take m) ks := by rw [cmpK, hkl]
    rw [← this]
    exact hK
  refine model_find_call ?_
  rw [model_find_b0_eq]
  refine HCalls.mono (K := fun v h' => v = .tuple #[.int .i64 (t : Int), .bool (decide (t < n ∧ cmpK rows ks t = 0))] ∧ h' = h) ?_ (fun v h' ⟨hv, hh⟩ => ⟨_, _, hv, rfl, hh⟩)
  refine slices_BinarySearchFunc_Sint_Sint_Sint_call ?_
  rw [slices_BinarySearchFunc_Sint_Sint_Sint_b0_eq]
  refine ⟨fun x h' => h' = h ∧ ∃ i j : Nat, x.1 = i ∧ x.2.1 = j ∧ i ≤ t ∧ t ≤ j ∧ j ≤ n, fun x _ => (x.2.1 - x.1).toNat, ⟨rfl, 0, n, rfl, rfl, by omega, htn, by omega⟩, ?_⟩
  rintro ⟨_, _, _⟩ h1 ⟨rfl, i, j, rfl, rfl, hit, htj, hjn⟩
  dsimp only
  rw [slices_BinarySearchFunc_Sint_Sint_Sint_b1_eq]
  refine condP (fun hlt => ?_) (fun hge => ?_)
  · have e1 : IntKind.u64.wrap ((i : Int) + (j : Int)) = ((i + j : Nat) : Int) := by
      show ((i : Int) + (j : Int)) % 18446744073709551616 = _
      rw [Int.emod_eq_of_lt (by omega) (by omega)]; push_cast; rfl
    refine ⟨⟨by omega, by omega⟩, (((i + j) / 2 : Nat) : Int), ⟨by omega, ?_⟩, ⟨by omega, by omega⟩, ?_⟩
    · rw [e1]
      have : (2 : Int) ^ (min (Int.toNat 1) IntKind.u64.bits) = 2 := by decide
      rw [this]
      rw [Int.fdiv_eq_ediv_of_nonneg _ (by omega)]
      omega
    refine one (by omega) (by omega) fun a l e hX => ?_
    refine hX _ ⟨_, rfl, condP (fun h3 => ?_) (fun h3 => ?_)⟩
    · rw [Int.toNat_natCast] at h3
      have : (i + j) / 2 < t := by
        rcases Nat.lt_or_ge ((i + j) / 2) t with h | h
        · exact h
        · have := hhi _ h (by omega); omega
      exact ⟨⟨by omega, by omega⟩, ⟨rfl, (i + j) / 2 + 1, j, by simp only; omega, rfl, by omega, htj, hjn⟩, by simp only; omega⟩
    · rw [Int.toNat_natCast] at h3
      have : t ≤ (i + j) / 2 := by
        rcases Nat.lt_or_ge ((i + j) / 2) t with h | h
        · have := hlo _ h; omega
        · exact h
      exact ⟨⟨rfl, i, (i + j) / 2, rfl, rfl, hit, this, by omega⟩, by simp only; omega⟩
  · obtain rfl : i = t := by omega
    rw [slices_BinarySearchFunc_Sint_Sint_Sint_b2_eq]
    refine condP (fun hin => ?_) (fun hin => ?_)
    · refine one (by omega) (by omega) fun a l e hX => ?_
      refine hX _ ⟨_, rfl, ?_, rfl⟩
      rw [Int.toNat_natCast]
      rw [show decide (cmpK rows ks i = 0) = decide (i < n ∧ cmpK rows ks i = 0) from decide_eq_decide.2 ⟨fun h => ⟨by omega, h⟩, fun h => h.2⟩]
    · refine ⟨?_, rfl⟩
      rw [decide_eq_false (fun h => hin (by omega))]
theorem mresult_ok (z : Int) (h : Hp) : HCalls Tryz.prog 163 #[.int .i64 z] h (fun v h' => v = .agg #[.int .i64 0, .int .i64 z, .slice none 0 0] ∧ Ext h h') := by
  refine model_result_call ?_
  rw [model_result_b0_eq]
  refine (St.start h).new (cs := [.int .i64 0, .int .i64 0, .slice none 0 0]) fun b1 h1 _ s1 => ?_
  refine s1.wr rfl (by simp) fun h2 s2 => ?_
  refine s2.wr (o := 1) (add_mk _ _ _) (by simp) fun h3 s3 => ?_
  refine s3.wr (o := 2) (add_mk _ _ _) (by simp) fun h4 s4 => ?_
  exact ⟨_, _, _, _, _, s4.blk.cell 0, Blk.cellA s4.blk 1, Blk.cellA s4.blk 2, rfl, s4.ext⟩
theorem mfailed_ok (z : Int) (h : Hp) : HCalls Tryz.prog 164 #[.int .i64 z] h (fun v h' => v = .agg #[.int .i64 z, .int .i64 0, .slice none 0 0] ∧ Ext h h') := by
  refine model_failed_call ?_
  rw [model_failed_b0_eq]
  refine (St.start h).new (cs := [.int .i64 0, .int .i64 0, .slice none 0 0]) fun b1 h1 _ s1 => ?_
  refine s1.wr rfl (by simp) fun h2 s2 => ?_
  refine s2.wr (o := 1) (add_mk _ _ _) (by simp) fun h3 s3 => ?_
  refine s3.wr (o := 2) (add_mk _ _ _) (by simp) fun h4 s4 => ?_
  exact ⟨_, _, _, _, _, s4.blk.cell 0, Blk.cellA s4.blk 1, Blk.cellA s4.blk 2, rfl, s4.ext⟩
end Go.Proofs.YtdlkohenamlnaaaGreat

/- Layer 3's model: a dictionary's step. -/
set_option maxRecDepth 100000
namespace Go.Proofs.YtdlkohenamlnaaaGreat
open Go Go.Sx
/-- One more row. -/
theorem mrows_put {h0 h : Hp} {p : Option Addr} {n c i b : Nat} {rows : List (List Int)} {x : List Int} {q : Option Addr} {m d : Nat} {B Bx G : Bag} (na : RowsA (p, n, c) rows B) (o : Sl TI q m d x Bx) (s : St h0 h (cA b [.slice q m d] 23 + (B + (Bx + G)))) (hi : i ≤ n) (hn : n < 1000000) :
    HCalls Tryz.prog 166 #[.slice p n c, .int .i64 (i : Int), .slice (some ⟨b, 0, none⟩) 1 1] h (fun v h' => ∃ q' d' B', v = .slice q' (n + 1) d' ∧ RowsA (q', n + 1, d') (rows.take i ++ x :: rows.drop i) B' ∧ St h0 h' (B' + G)) := by
  obtain ⟨hs, B0, B1, rfl, h1, h2⟩ := na
  obtain ⟨C1, C2, rfl, c1, c2⟩ := AllH.cut h2 i
  have s1 : St h0 h (B0 + (cA b [.slice q m d] (tS 23).e + (C1 + C2 + (Bx + G)))) := s.to (B := B0 + (cA b [.slice q m d] 23 + (C1 + C2 + (Bx + G))))
  refine (insertR_st (x := (q, m, d)) s1 h1 rfl hi hn).mono fun v h' ⟨q', d', B', hv, o', s'⟩ => ⟨q', d', B' + (C1 + (Bx + C2)), hv, ⟨_, B', C1 + (Bx + C2), rfl, o', c1.append ⟨Bx, C2, rfl, o, c2⟩⟩, ?_⟩
  have s' : St h0 h' (B' + (cA b [.slice q m d] 23 + (C1 + C2 + (Bx + G)))) := s'
  exact (s'.to (B := cA b [.slice q m d] 23 + (B' + (C1 + (Bx + C2)) + G))).drop
/-- A row less. -/
theorem mrows_cut {h0 h : Hp} {p : Option Addr} {n c i : Nat} {j : Int} {rows : List (List Int)} {B G : Bag} (na : RowsA (p, n, c) rows B) (s : St h0 h (B + G)) (hi : i < n) (hj : j = (i : Int) + 1) (hn : n < 1000000) :
    HCalls Tryz.prog 167 #[.slice p n c, .int .i64 (i : Int), .int .i64 j] h (fun v h' => ∃ B', v = .slice p (n - 1) c ∧ RowsA (p, n - 1, c) (rows.take i ++ rows.drop (i + 1)) B' ∧ St h0 h' (B' + G)) := by
  obtain ⟨hs, B0, B1, rfl, h1, h2⟩ := na
  obtain ⟨C1, C2, rfl, c1, c2⟩ := AllH.cut h2 i
  obtain ⟨C3, C4, rfl, _, c4⟩ := AllH.cut c2 1
  rw [List.drop_drop, List.drop_drop] at c4
  refine (deleteR_st (s.to (B := B0 + (C1 + (C3 + C4) + G))) h1 hi hj hn).mono fun v h' ⟨B', hv, o, s'⟩ => ⟨B' + (C1 + C4), hv, ⟨_, B', C1 + C4, rfl, o, c1.append c4⟩, (s'.to (B := C3 + (B' + (C1 + C4) + G))).drop⟩
/-- What a step of the model leaves: rows and a result. -/
def MStepP (h0 : Hp) (G : Bag) (rows : List (List Int)) (e z : Int) (v : Value) (h' : Hp) : Prop :=
  ∃ q m d B', v = .tuple #[.slice q m d, .agg #[.int .i64 e, .int .i64 z, .slice none 0 0]] ∧ RowsA (q, m, d) rows B' ∧ St h0 h' (B' + G)
theorem mboxW {h0 h : Hp} {b2 : Nat} {y0 y1 y2 : Value} {D B G : Bag} {p : Option Addr} {n c : Nat} {e z : Int} {rows : List (List Int)} (na : RowsA (p, n, c) rows B)
    (s : St h0 h (cA b2 [y0, y1, y2] 61 + (D + (B + G)))) :
    Wr h ⟨b2, 0, none⟩ (.int .i64 e) fun h4 => Wr h4 ((⟨b2, 0, none⟩ : Addr).add 1) (.int .i64 z) fun h5 => Wr h5 ((⟨b2, 0, none⟩ : Addr).add 2) (.slice none 0 0) fun h6 =>
      ∃ r4 : Int, ∃ r5 : Int, ∃ (r6 : Option Addr) (rL2 rC2 : Nat), cell h6 ⟨b2, 0, none⟩ = some (.int .i64 r4) ∧ cell h6 ((⟨b2, 0, none⟩ : Addr).add 1) = some (.int .i64 r5) ∧ cell h6 ((⟨b2, 0, none⟩ : Addr).add 2) = some (.slice r6 rL2 rC2) ∧
      MStepP h0 G rows e z (.tuple #[.slice p n c, .agg #[.int .i64 r4, .int .i64 r5, .slice r6 rL2 rC2]]) h6 := by
  refine s.wr rfl (by simp) fun h8 s8 => ?_
  refine s8.wr (o := 1) (add_mk _ _ _) (by simp) fun h9 s9 => ?_
  refine s9.wr (o := 2) (add_mk _ _ _) (by simp) fun h10 s10 => ?_
  refine ⟨_, _, _, _, _, s10.blk.cell 0, Blk.cellA s10.blk 1, Blk.cellA s10.blk 2, p, n, c, B, rfl, na, ?_⟩
  exact (s10.drop).drop
theorem mboxT {g : Nat} {args : Array Value} {h0 h : Hp} {b2 : Nat} {y0 y1 y2 : Value} {D B G : Bag} {p : Option Addr} {n c : Nat} {e z : Int} {rows : List (List Int)} (na : RowsA (p, n, c) rows B)
    (s : St h0 h (cA b2 [y0, y1, y2] 61 + (D + (B + G))))
    (hc : HCalls Tryz.prog g args h (fun v h' => v = .agg #[.int .i64 e, .int .i64 z, .slice none 0 0] ∧ Ext h h')) :
    HCalls Tryz.prog g args h fun v1 h3 => ∃ r1 : Int, ∃ r2 : Int, ∃ (r3 : Option Addr) (rL1 rC1 : Nat), v1 = .agg #[.int .i64 r1, .int .i64 r2, .slice r3 rL1 rC1] ∧
      Wr h3 ⟨b2, 0, none⟩ (.int .i64 r1) fun h4 => Wr h4 ((⟨b2, 0, none⟩ : Addr).add 1) (.int .i64 r2) fun h5 => Wr h5 ((⟨b2, 0, none⟩ : Addr).add 2) (.slice r3 rL1 rC1) fun h6 =>
      ∃ r4 : Int, ∃ r5 : Int, ∃ (r6 : Option Addr) (rL2 rC2 : Nat), cell h6 ⟨b2, 0, none⟩ = some (.int .i64 r4) ∧ cell h6 ((⟨b2, 0, none⟩ : Addr).add 1) = some (.int .i64 r5) ∧ cell h6 ((⟨b2, 0, none⟩ : Addr).add 2) = some (.slice r6 rL2 rC2) ∧
      MStepP h0 G rows e z (.tuple #[.slice p n c, .agg #[.int .i64 r4, .int .i64 r5, .slice r6 rL2 rC2]]) h6 :=
  hc.mono fun _ _ ⟨hv, x⟩ => ⟨_, _, _, _, _, hv, mboxW na (s.grow x)⟩
/-- Where a key stands among rows of two. -/
theorem cmpK2 {l : List E} {k : Int} {j : Nat} (hj : j < l.length) : cmpK (l.map row2) [k] j = cmpS (l.getD j (0, 0)).1 k := by
  rw [cmpK, row2_get hj]
  show cmpL [(l.getD j (0, 0)).1] [k] = _
  show (if (l.getD j (0, 0)).1 < k then (-1 : Int) else if k < (l.getD j (0, 0)).1 then 1 else cmpL [] []) = _
  rfl
theorem find_cut {l : List E} {k : Int} (so : Srt l) : (lowS l k).length ≤ l.length ∧ (∀ j, j < (lowS l k).length → cmpK (l.map row2) [k] j < 0) ∧ (∀ j, (lowS l k).length ≤ j → j < l.length → 0 ≤ cmpK (l.map row2) [k] j) ∧
    decide ((lowS l k).length < l.length ∧ cmpK (l.map row2) [k] (lowS l k).length = 0) = hasKey (upS l k) k := by
  have hll := low_len (xs := l) (key := k)
  have hu := upS_len (xs := l) (key := k)
  refine ⟨hll, fun j hj => ?_, fun j hj hjl => ?_, ?_⟩
  · rw [cmpK2 (by omega)]
    have hm : l.getD j (0, 0) ∈ lowS l k := by
      have : l.getD j (0, 0) = (lowS l k)[j] := by
        conv => lhs; rw [hu]
        simp [List.getD, List.getElem?_append_left hj, hj]
      rw [this]; exact List.getElem_mem hj
    have := low_lt _ hm
    rw [cmpS, if_pos this]; decide
  · rw [cmpK2 hjl]
    have hm : l.getD j (0, 0) ∈ upS l k := by
      have hd := up_drop (xs := l) (key := k)
      have : l.getD j (0, 0) = l[j] := by simp [List.getD, hjl]
      rw [this, ← hd]
      exact List.mem_drop_iff_getElem.2 ⟨j - (lowS l k).length, by omega, by simp only [show (lowS l k).length + (j - (lowS l k).length) = j by omega]⟩
    have := up_ge so _ hm
    unfold cmpS
    split
    · omega
    · split <;> omega
  · by_cases hf : hasKey (upS l k) k = true
    · obtain ⟨u1, u2, _⟩ := up_head hf
      rw [hf]
      refine decide_eq_true ⟨u1, ?_⟩
      rw [cmpK2 u1, u2, cmpS, if_neg (by omega), if_neg (by omega)]
    · have hf' : hasKey (upS l k) k = false := by simpa using hf
      rw [hf']
      refine decide_eq_false fun ⟨h1, h2⟩ => hf ?_
      have hd := up_drop (xs := l) (key := k)
      rw [List.drop_eq_getElem_cons h1] at hd
      rw [cmpK2 h1] at h2
      have hg : l.getD (lowS l k).length (0, 0) = l[(lowS l k).length] := by simp [List.getD, h1]
      rw [hg] at h2
      rw [← hd]
      refine decide_eq_true ?_
      unfold cmpS at h2
      split at h2
      · cases h2
      · split at h2
        · cases h2
        · omega
section
variable {h0 h : Hp} {b1 b2 : Nat} {l : List E} {p q : Option Addr} {n c m cc : Nat} {code : Int} {zs : List Int} {B G : Bag}
abbrev MDictP (h0 : Hp) (G : Bag) (l : List E) (c : Int) (zs : List Int) : Value → Hp → Prop := MStepP h0 G ((dictS l c zs).1.map row2) (dictS l c zs).2.1 (dictS l c zs).2.2
theorem mdict_b2_ok (na : RowsA (p, n, c) (l.map row2) B) (s : St h0 h (cA b2 [.int .i64 0, .int .i64 0, .slice none 0 0] 61 + (cA b1 [.int .i64 code, .slice q m cc] 25 + (B + G)))) (hn : n ≤ 1000) (hc : code = 2 ∨ code = 3) :
    model_dict_b2 p n c (some ⟨b1, 0, none⟩) (some ⟨b2, 0, none⟩) ((lowS l (zs.getD 0 0)).length : Int) (hasKey (upS l (zs.getD 0 0)) (zs.getD 0 0)) h (MDictP h0 G l code zs) := by
  have hl : (l.map row2).length = n := rows_len na
  rw [List.length_map] at hl
  have kb1 := s.atomBlk
  have e : dictS l code zs = (if hasKey (upS l (zs.getD 0 0)) (zs.getD 0 0) = true then (if code = 3 then lowS l (zs.getD 0 0) ++ (upS l (zs.getD 0 0)).tail else l, 0, valOf (upS l (zs.getD 0 0))) else (l, 12, 0)) := by
    rcases hc with rfl | rfl <;> rfl
  rw [MDictP, e, model_dict_b2_eq]
  generalize zs.getD 0 0 = k
  by_cases hf : hasKey (upS l k) k = true
  · obtain ⟨u1, u2, u3⟩ := up_head hf
    rw [if_pos hf, hf]
    refine condNo rfl (e_val na (s.at B) (by omega) (by omega) ?_)
    rw [Int.toNat_natCast, u2]
    refine ⟨_, kb1.cell 0, condP (fun h3 => ?_) (fun h3 => ?_)⟩
    · rw [if_pos h3]
      refine ⟨⟨by omega, by omega⟩, ?_⟩
      refine (mrows_cut na (s.to (B := B + (cA b2 [.int .i64 0, .int .i64 0, .slice none 0 0] 61 + (cA b1 [.int .i64 code, .slice q m cc] 25 + G)))) (by omega) rfl (by omega)).mono fun v h' ⟨B', hv, na', s'⟩ => ⟨_, _, _, hv, ?_⟩
      have hrow : (l.map row2).take (lowS l k).length ++ (l.map row2).drop ((lowS l k).length + 1) = (lowS l k ++ (upS l k).tail).map row2 := by
        rw [← List.map_take, ← List.map_drop, u3, low_take, ← List.map_append]
      rw [hrow] at na'
      rw [model_dict_b3_eq]
      exact mboxT na' (s'.to (B := cA b2 [.int .i64 0, .int .i64 0, .slice none 0 0] 61 + (cA b1 [.int .i64 code, .slice q m cc] 25 + (B' + G)))) (mresult_ok _ _)
    · rw [if_neg h3, model_dict_b3_eq]
      exact mboxT na s (mresult_ok _ _)
  · have hf' : hasKey (upS l k) k = false := by simpa using hf
    rw [if_neg hf, hf']
    exact condYes rfl (mboxT na s (mfailed_ok _ _))
theorem mdict_ok (so : Srt l) (na : RowsA (p, n, c) (l.map row2) B) (rz : RdS h0 G TI q m zs) (hmc : m ≤ cc) (s : St h0 h (B + G)) (hn : n ≤ 1000) (hc : 1 ≤ code ∧ code ≤ 8) (h1 : code ≠ 8 → 1 ≤ zs.length) (h2 : code = 1 → zs.length = 2) :
    HCalls Tryz.prog 137 #[.slice p n c, .agg #[.int .i64 code, .slice q m cc]] h (MDictP h0 G l code zs) := by
  have hl : (l.map row2).length = n := rows_len na
  rw [List.length_map] at hl
  refine model_dict_call ?_
  rw [model_dict_b0_eq]
  refine s.new (cs := [.int .i64 code, .slice q m cc]) fun b1 h3 _ s1 => ?_
  refine s1.new (cs := [.int .i64 0, .int .i64 0, .slice none 0 0]) fun b2 h4 _ s2 => ?_
  have s2 : St h0 h4 (cA b2 [.int .i64 0, .int .i64 0, .slice none 0 0] 61 + (cA b1 [.int .i64 code, .slice q m cc] 25 + (B + G))) := s2
  have kb1 := s2.atomBlk
  refine ⟨_, kb1.cell 0, condP (fun h8 => ?_) (fun h8 => ?_)⟩
  · have e : dictS l code zs = (l, 0, (l.length : Int)) := by subst h8; rfl
    rw [MDictP, e, hl]
    exact mboxT na s2 (mresult_ok _ _)
  have hrz : RdT TI h4 q m zs := rz h4 (cA b2 [.int .i64 0, .int .i64 0, .slice none 0 0] 61 + (cA b1 [.int .i64 code, .slice q m cc] 25 + B)) s2.to
  have hzl := hrz.len
  have h1 := h1 h8
  have e0 : Int.toNat (0 : Int) = 0 := rfl
  have e1 : Int.toNat (1 : Int) = 1 := rfl
  refine ⟨_, kb1.cell 0, condP (fun h7 => ?_) (fun h7 => ?_)⟩
  · have e : dictS l code zs = (if zs.getD 0 0 < 0 ∨ (l.length : Int) ≤ zs.getD 0 0 then (l, 2, 0) else (l, 0, (l.getD (zs.getD 0 0).toNat (0, 0)).1)) := by
      subst h7; rfl
    refine ⟨_, _, _, Blk.cellA kb1 1, hrz.int (by omega) (by omega) ?_⟩
    rw [MDictP, e, e0]
    generalize zs.getD 0 0 = k
    refine condP (fun h5 => condP (fun h6 => ?_) (fun h6 => ?_)) (fun h5 => ?_)
    · rw [if_neg (by omega)]
      refine e_key na (s2.at B) (by omega) (by omega) ?_
      exact mboxT na s2 (mresult_ok _ _)
    · rw [if_pos (.inr (by omega)), model_dict_b1_eq]
      exact mboxT na s2 (mfailed_ok _ _)
    · rw [if_pos (.inl (by omega)), model_dict_b1_eq]
      exact mboxT na s2 (mfailed_ok _ _)
  refine ⟨_, _, _, Blk.cellA kb1 1, ⟨by omega, by omega, by omega⟩, ?_⟩
  rw [e0, e1, subAddr_z, Nat.sub_zero]
  have hz1 : zs.take 1 = [zs.getD 0 0] := by
    cases zs with
    | nil => simp at h1
    | cons z zs => simp
  have rk : RdT TI h4 q 1 [zs.getD 0 0] := by rw [← hz1]; exact hrz.take (by omega)
  obtain ⟨f1, f2, f3, f4⟩ := find_cut (k := zs.getD 0 0) so
  refine (find_ok (t := (lowS l (zs.getD 0 0)).length) na (s2.to (B := B + (cA b2 [.int .i64 0, .int .i64 0, .slice none 0 0] 61 + (cA b1 [.int .i64 code, .slice q m cc] 25 + G)))) rk (by omega) (fun r hr => by obtain ⟨e, _, rfl⟩ := List.mem_map.1 hr; simp) ⟨by omega, f2, fun j h1 h2 => f3 j h1 (by omega)⟩).mono fun v h5 ⟨hv, hh⟩ => ⟨_, _, hv, ?_⟩
  subst hh
  rw [← hl, f4, hl]
  refine ⟨_, kb1.cell 0, condP (fun hp => ?_) (fun hp => ?_)⟩
  · have h2 := h2 hp
    have e : dictS l code zs = (if hasKey (upS l (zs.getD 0 0)) (zs.getD 0 0) = true then (lowS l (zs.getD 0 0) ++ (zs.getD 0 0, zs.getD 1 0) :: (upS l (zs.getD 0 0)).tail, 0, 1) else if l.length = 500 then (l, 4, 0) else (lowS l (zs.getD 0 0) ++ (zs.getD 0 0, zs.getD 1 0) :: upS l (zs.getD 0 0), 0, 0)) := by subst hp; rfl
    have hz2 : zs = [zs.getD 0 0, zs.getD 1 0] := by
      match zs, h2 with
      | [a, b], _ => rfl
    rw [MDictP, e]
    refine cond_intro (fun hf => ?_) (fun hf => ?_)
    · obtain ⟨u1, u2, u3⟩ := up_head hf
      rw [if_pos hf]
      refine rows_edit na (s2.at B) (by omega) (by omega) fun q1 l1 d1 Bi Br o hB hset => ⟨_, _, _, Blk.cellA kb1 1, hrz.int (by omega) (by omega) ?_⟩
      rw [Int.toNat_natCast] at o hset
      rw [row2_get (by omega)] at o
      have hl1 : 2 = l1 := o.len
      have s3 : St h0 h5 (Bi + (cA b2 [.int .i64 0, .int .i64 0, .slice none 0 0] 61 + (cA b1 [.int .i64 code, .slice q m cc] 25 + (Br + G)))) := by rw [hB] at s2; exact s2.to
      refine o.wrI s3 (by omega) (by omega) rfl rfl fun h' A' o' s' => ?_
      have na' := hset _ A' o'
      have hrow : (l.map row2).set (lowS l (zs.getD 0 0)).length ((row2 (l.getD (lowS l (zs.getD 0 0)).length (0, 0))).set (Int.toNat (1 : Int)) (zs.getD (Int.toNat (1 : Int)) 0)) = (lowS l (zs.getD 0 0) ++ (zs.getD 0 0, zs.getD 1 0) :: (upS l (zs.getD 0 0)).tail).map row2 := by
        have e1 : (row2 (l.getD (lowS l (zs.getD 0 0)).length (0, 0))).set (Int.toNat (1 : Int)) (zs.getD (Int.toNat (1 : Int)) 0) = row2 (zs.getD 0 0, zs.getD 1 0) := by rw [u2]; rfl
        rw [e1, List.set_eq_take_append_cons_drop, if_pos (by rw [List.length_map]; omega), ← List.map_take, ← List.map_drop, u3, low_take, List.map_append, List.map_cons]
      rw [hrow] at na'
      exact mboxT na' (s'.to (B := cA b2 [.int .i64 0, .int .i64 0, .slice none 0 0] 61 + (cA b1 [.int .i64 code, .slice q m cc] 25 + (A' + Br + G)))) (mresult_ok _ _)
    · rw [if_neg (by rw [hf]; simp)]
      refine condP (fun h5 => ?_) (fun h5 => ?_)
      · rw [if_pos (by omega)]
        exact mboxT na s2 (mfailed_ok _ _)
      · rw [if_neg (by omega)]
        refine ⟨_, _, _, Blk.cellA kb1 1, (cloneI_st hrz (by omega)).mono fun v6 h6 ⟨q6, d6, A6, hv6, o6, t6⟩ => ⟨_, _, _, hv6, ?_⟩⟩
        have s6 := s2.join t6
        refine s6.new (cs := [.slice q6 m d6]) fun b3 h7 x7 s7 => ?_
        have s7 := s7.to (B := cA b3 [.slice q6 m d6] 23 + (B + (A6 + (cA b2 [.int .i64 0, .int .i64 0, .slice none 0 0] 61 + (cA b1 [.int .i64 code, .slice q m cc] 25 + G)))))
        refine (mrows_put na o6 s7 (by omega) (by omega)).mono fun v8 h8 ⟨q', d', B', hv8, na', s8⟩ => ⟨_, _, _, hv8, ?_⟩
        have hrow : (l.map row2).take (lowS l (zs.getD 0 0)).length ++ zs :: (l.map row2).drop (lowS l (zs.getD 0 0)).length = (lowS l (zs.getD 0 0) ++ (zs.getD 0 0, zs.getD 1 0) :: upS l (zs.getD 0 0)).map row2 := by
          rw [← List.map_take, ← List.map_drop, up_drop, low_take, List.map_append, List.map_cons]
          show _ ++ zs :: _ = _ ++ [zs.getD 0 0, zs.getD 1 0] :: _
          rw [← hz2]
        rw [hrow] at na'
        exact mboxT na' (s8.to (B := cA b2 [.int .i64 0, .int .i64 0, .slice none 0 0] 61 + (cA b1 [.int .i64 code, .slice q m cc] 25 + (B' + G)))) (mresult_ok _ _)
  refine condP (fun h6 => ?_) (fun h6 => condP (fun h4 => ?_) (fun h4 => condP (fun h5 => ?_) (fun h5 => ?_)))
  · have e : dictS l code zs = (l, 0, ((lowS l (zs.getD 0 0)).length : Int)) := by subst h6; rfl
    rw [MDictP, e]
    exact mboxT na s2 (mresult_ok _ _)
  · have e : dictS l code zs = (if hasKey (upS l (zs.getD 0 0)) (zs.getD 0 0) = true then (l, 0, zs.getD 0 0) else if (lowS l (zs.getD 0 0)).length = 0 then (l, 12, 0) else (l, 0, (lastOf (lowS l (zs.getD 0 0))).1)) := by subst h4; rfl
    rw [MDictP, e]
    refine cond_intro (fun hf => ?_) (fun hf => ?_)
    · rw [if_pos hf]
      refine ⟨_, _, _, Blk.cellA kb1 1, hrz.int (by omega) (by omega) ?_⟩
      exact mboxT na s2 (mresult_ok _ _)
    · rw [if_neg (by rw [hf]; simp)]
      refine condP (fun h0 => ?_) (fun h0 => ?_)
      · rw [if_pos (by omega)]
        exact mboxT na s2 (mfailed_ok _ _)
      · rw [if_neg (by omega)]
        obtain ⟨w1, _, _⟩ := last_getD (xs := l) (key := zs.getD 0 0) (by omega)
        have ei : Int.toNat (((lowS l (zs.getD 0 0)).length : Int) - 1) = (lowS l (zs.getD 0 0)).length - 1 := by omega
        refine ⟨⟨by omega, by omega⟩, e_key na (s2.at B) (by omega) (by omega) ?_⟩
        rw [ei, ← w1]
        exact mboxT na s2 (mresult_ok _ _)
  · have e : dictS l code zs = (if (lowS l (zs.getD 0 0)).length = l.length then (l, 12, 0) else (l, 0, (headOf (upS l (zs.getD 0 0))).1)) := by subst h5; rfl
    rw [MDictP, e]
    refine condP (fun h0 => ?_) (fun h0 => ?_)
    · rw [if_pos (by omega)]
      exact mboxT na s2 (mfailed_ok _ _)
    · rw [if_neg (by omega)]
      refine e_key na (s2.at B) (by omega) (by omega) ?_
      rw [Int.toNat_natCast]
      have hud := up_drop (xs := l) (key := zs.getD 0 0)
      rw [List.drop_eq_getElem_cons (by omega)] at hud
      have hg : l.getD (lowS l (zs.getD 0 0)).length (0, 0) = l[(lowS l (zs.getD 0 0)).length]'(by omega) := by rw [List.getD_eq_getElem?_getD, List.getElem?_eq_getElem (by omega)]; rfl
      rw [hg, ← hud]
      exact mboxT na s2 (mresult_ok _ _)
  · exact mdict_b2_ok na s2 hn (by omega)
end
end Go.Proofs.YtdlkohenamlnaaaGreat

/- Layer 3's model: lists of operations, valid ones, Run of a dictionary. -/
set_option maxRecDepth 100000
namespace Go.Proofs.YtdlkohenamlnaaaGreat
open Go Go.Sx
abbrev OpT := Int × SH
abbrev tO : Ty OpT := ⟨25, 2, fun x => [.int .i64 x.1, .slice x.2.1 x.2.2.1 x.2.2.2], (0, none, 0, 0), fun _ => rfl, by decide, fun _ v hv => by simp at hv; rcases hv with rfl | rfl <;> rfl⟩
abbrev OpL := Int × List Int
/-- A slice of operations, with their arguments. -/
def OpsR (h : Hp) (p : Option Addr) (n : Nat) (ops : List OpL) : Prop :=
  ∃ l : List OpT, RdT tO h p n l ∧ ops.length = n ∧ ∀ i, i < n → (l.getD i tO.d).1 = (ops.getD i (0, [])).1 ∧ (l.getD i tO.d).2.2.1 ≤ (l.getD i tO.d).2.2.2 ∧ RdT TI h (l.getD i tO.d).2.1 (l.getD i tO.d).2.2.1 (ops.getD i (0, [])).2
theorem OpsR.len {h : Hp} {p : Option Addr} {n : Nat} {ops : List OpL} (r : OpsR h p n ops) : ops.length = n := let ⟨_, _, hl, _⟩ := r; hl
theorem OpsR.ext {h h' : Hp} {p : Option Addr} {n : Nat} {ops : List OpL} (r : OpsR h p n ops) (x : Ext h h') : OpsR h' p n ops :=
  let ⟨l, r1, hl, hk⟩ := r; ⟨l, r1.ext x, hl, fun i hi => ⟨(hk i hi).1, (hk i hi).2.1, (hk i hi).2.2.ext x⟩⟩
theorem OpsR.at_ {h h1 : Hp} {p : Option Addr} {n : Nat} {ops : List OpL} {i : Int} {Q : Int → Option Addr → Nat → Nat → Prop} (r : OpsR h p n ops) (x : Ext h h1) (h0 : 0 ≤ i) (hi : i < n)
    (hq : ∀ q m c, m ≤ c → RdT TI h q m (ops.getD i.toNat (0, [])).2 → Q (ops.getD i.toNat (0, [])).1 q m c) :
    (0 ≤ i ∧ i < (n : Int)) ∧ NN p fun a => ∃ x : Int, ∃ (y : Option Addr) (z w : Nat), cell h1 (a.add (Int.toNat i * 2)) = some (.int .i64 x) ∧ cell h1 ((a.add (Int.toNat i * 2)).add 1) = some (.slice y z w) ∧ Q x y z w := by
  obtain ⟨l, r1, hl, hk⟩ := r
  obtain ⟨k1, k2, k3⟩ := hk i.toNat (by omega)
  refine (r1.ext x).idx h0 hi fun _ _ hc => ⟨_, _, _, _, hc 0 (show 0 < 2 by decide), hc 1 (show 1 < 2 by decide), ?_⟩
  rw [k1]
  exact hq _ _ _ k2 k3
/-- Of slices that are readable, the arguments are chosen. -/
theorem OpsR.mk' {h : Hp} {p : Option Addr} {n : Nat} {l : List OpT} (r : RdT tO h p n l) (hz : ∀ x ∈ l, x.2.2.1 ≤ x.2.2.2 ∧ ∃ zs, RdT TI h x.2.1 x.2.2.1 zs) : ∃ ops, OpsR h p n ops := by
  have hl := r.len
  have : ∃ ops : List OpL, ops.length = l.length ∧ ∀ i, i < l.length → (l.getD i tO.d).1 = (ops.getD i (0, [])).1 ∧ (l.getD i tO.d).2.2.1 ≤ (l.getD i tO.d).2.2.2 ∧ RdT TI h (l.getD i tO.d).2.1 (l.getD i tO.d).2.2.1 (ops.getD i (0, [])).2 := by
    clear r hl
    induction l with
    | nil => exact ⟨[], rfl, fun i hi => by simp at hi⟩
    | cons x l ih =>
      obtain ⟨ops, e, hk⟩ := ih fun y hy => hz y (List.mem_cons_of_mem _ hy)
      obtain ⟨hc, zs, rz⟩ := hz x List.mem_cons_self
      refine ⟨(x.1, zs) :: ops, by simp [e], fun i hi => ?_⟩
      cases i with
      | zero => exact ⟨rfl, hc, rz⟩
      | succ i => simpa using hk i (by simpa using hi)
  obtain ⟨ops, e, hk⟩ := this
  exact ⟨ops, l, r, by omega, fun i hi => hk i (by omega)⟩
abbrev AllV (k : Int) (ops : List OpL) : Prop := ∀ o ∈ ops, OpV k o.1 o.2
theorem getD_mem {α : Type} {l : List α} {i : Nat} {d : α} (h : i < l.length) : l.getD i d ∈ l := by
  rw [List.getD_eq_getElem?_getD, List.getElem?_eq_getElem h]
  exact List.getElem_mem h
theorem allV_succ {k : Int} {ops : List OpL} {i : Nat} (hi : i < ops.length) (h : ∀ o ∈ ops.take i, OpV k o.1 o.2) (h1 : OpV k (ops.getD i (0, [])).1 (ops.getD i (0, [])).2) : ∀ o ∈ ops.take (i + 1), OpV k o.1 o.2 := by
  intro o ho
  have hg : ops.getD i (0, []) = ops[i] := by rw [List.getD_eq_getElem?_getD, List.getElem?_eq_getElem hi]; rfl
  rw [List.take_succ_eq_append_getElem hi, List.mem_append, List.mem_singleton, ← hg] at ho
  rcases ho with ho | rfl
  · exact h o ho
  · exact h1
theorem opsBad_ok {k : Int} {h : Hp} {p p0 : Option Addr} {n c n0 c0 b1 : Nat} {ops : List OpL} (r : OpsR h p n ops) (hn : n ≤ 1000000) (kb : Blk h b1 [.int .i64 k, .slice p0 n0 c0] 66) :
    HCalls Tryz.prog 151 #[.slice p n c, .func (.func 152) #[] #[.pointer (some ⟨b1, 0, none⟩)]] h (fun v h' => v = .bool (!decide (AllV k ops)) ∧ Ext h h') := by
  have hl := r.len
  refine slices_ContainsFunc_Sapi_Op_api_Op_call ?_
  rw [slices_ContainsFunc_Sapi_Op_api_Op_b0_eq]
  refine slices_IndexFunc_Sapi_Op_api_Op_call ?_
  rw [slices_IndexFunc_Sapi_Op_api_Op_b0_eq]
  refine ⟨fun s h' => Ext h h' ∧ ∃ i : Nat, s.1 = i ∧ i ≤ n ∧ ∀ o ∈ ops.take i, OpV k o.1 o.2, fun s _ => n - s.1.toNat, ⟨Ext.refl h, 0, rfl, by omega, by simp⟩, ?_⟩
  rintro ⟨_, _⟩ h1 ⟨x1, i, rfl, hin, hall⟩
  dsimp only
  rw [slices_IndexFunc_Sapi_Op_api_Op_b1_eq]
  refine condP (fun hlt => ?_) (fun hge => ?_)
  · refine r.at_ x1 (by omega) (by omega) fun q m d _ rz => ?_
    rw [Int.toNat_natCast] at rz ⊢
    generalize hop : ops.getD i (0, []) = op at rz ⊢
    show callX Tryz.prog F 152 #[.agg #[.int .i64 op.1, .slice q m d], .pointer (some ⟨b1, 0, none⟩)] _ _
    refine callX_of (by kernel_rfl) (model_Run_c1_call ?_)
    rw [model_Run_c1_b0_eq]
    refine (St.start h1).new (cs := [.int .i64 op.1, .slice q m d]) fun b3 h3 x3 s3 => ?_
    have kb1 := (kb.ext x1).ext x3
    refine ⟨_, kb1.cell 0, _, _, _, _, s3.blk.cell 0, Blk.cellA s3.blk 1, ?_⟩
    refine (mValid' ((rz.ext x1).ext x3)).mono fun v h4 ⟨hv, x4⟩ => ⟨_, hv, ⟨_, rfl, ?_⟩⟩
    have x5 : Ext h h4 := (x1.trans x3).trans x4
    refine condN (fun hno => ?_) (fun hyes => ?_)
    · refine ⟨_, rfl, ?_, x5⟩
      rw [decide_eq_true (by omega), decide_eq_false (fun h => hno (by rw [← hop]; exact h _ (getD_mem (by omega))))]
      rfl
    · rw [slices_IndexFunc_Sapi_Op_api_Op_b2_eq]
      exact ⟨⟨by omega, by omega⟩, ⟨x5, i + 1, by simp only; omega, by omega, allV_succ (by omega) hall (by rw [hop]; exact hyes)⟩, by simp only; omega⟩
  · rw [slices_IndexFunc_Sapi_Op_api_Op_b3_eq]
    rw [List.take_of_length_le (by omega)] at hall
    exact ⟨_, rfl, by rw [decide_eq_true hall]; rfl, x1⟩
/-! ### a new state -/
theorem mnew_ok {k : Int} (hk : 1 ≤ k ∧ k ≤ 6) (h : Hp) : HCalls Tryz.prog 52 #[.int .i64 k] h (fun v h' => v = .tuple #[.agg #[.int .i64 k, .slice none 0 0], .int .i64 0] ∧ Ext h h') := by
  refine model_New_call ?_
  rw [model_New_b0_eq]
  refine (St.start h).new (cs := [.int .i64 0, .slice none 0 0]) fun b1 h1 x1 s1 => ?_
  refine (words_ok k h1).mono fun v1 h2 ⟨q, d, hv1, rw1, x2⟩ => ⟨_, _, _, hv1, ?_⟩
  have hpos : 0 < (wdT k).length := by
    have hk' : k = 1 ∨ k = 2 ∨ k = 3 ∨ k = 4 ∨ k = 5 ∨ k = 6 := by omega
    rcases hk' with rfl | rfl | rfl | rfl | rfl | rfl <;> decide
  obtain ⟨a, rfl⟩ : ∃ a, q = some a := by
    have := (word_load (i := 0) (Q := fun _ _ _ => True) rw1 (by omega) (by omega) trivial).2
    cases q with
    | none => exact this.elim
    | some a => exact ⟨a, rfl⟩
  refine condNo rfl ?_
  have s2 := s1.grow x2
  refine s2.wr rfl (by simp) fun h3 s3 => ?_
  refine s3.wr (o := 1) (add_mk _ _ _) (by simp) fun h4 s4 => ?_
  exact ⟨_, _, _, _, s4.blk.cell 0, Blk.cellA s4.blk 1, rfl, s4.ext⟩
theorem mwidth_ok (h : Hp) : HCalls Tryz.prog 159 #[.int .i64 1] h (fun v h' => v = .tuple #[.int .i64 2, .int .i64 1] ∧ h' = h) := by
  refine model_width_call ?_
  rw [model_width_b0_eq]
  exact condYes rfl ⟨rfl, rfl⟩
/-- The empty dictionary is valid. -/
theorem mvalid0_ok (h : Hp) : HCalls Tryz.prog 91 #[.agg #[.int .i64 1, .slice none 0 0]] h (fun v h' => v = .bool true ∧ Ext h h') := by
  refine model_Valid_call ?_
  rw [model_Valid_b0_eq]
  refine (St.start h).new (cs := [.int .i64 1, .slice none 0 0]) fun b1 h1 x1 s1 => ?_
  refine ⟨_, s1.blk.cell 0, condYes rfl ?_⟩
  rw [model_Valid_b1_eq]
  refine condYes rfl ⟨_, _, _, _, s1.blk.cell 0, Blk.cellA s1.blk 1, ?_⟩
  refine HCalls.mono (K := fun v h' => v = .bool true ∧ Ext h h') ?_ fun v h' ⟨hv, x⟩ => ⟨_, hv, rfl, x⟩
  refine model_validRows_call ?_
  rw [model_validRows_b0_eq]
  refine s1.new (cs := [.int .i64 1, .slice none 0 0]) fun b2 h2 x2 s2 => ?_
  refine ⟨_, _, _, Blk.cellA s2.blk 1, condNo rfl ⟨_, s2.blk.cell 0, ?_⟩⟩
  refine (mwidth_ok h2).mono fun v h3 ⟨hv, hh⟩ => ⟨_, _, hv, ?_⟩
  subst hh
  refine ⟨_, _, _, Blk.cellA s2.blk 1, ?_⟩
  refine ⟨fun s h' => h' = h3 ∧ s.1 = 0, fun _ _ => 0, ⟨rfl, rfl⟩, ?_⟩
  rintro ⟨_, _⟩ h4 ⟨rfl, rfl⟩
  dsimp only
  rw [model_validRows_b1_eq]
  refine condNo rfl ?_
  rw [model_validRows_b3_eq]
  exact ⟨rfl, s2.ext⟩
theorem copied0_ok (h : Hp) : HCalls Tryz.prog 93 #[.slice none 0 0] h (fun v h' => v = .slice none 0 0 ∧ h' = h) := by
  refine model_copied_call ?_
  rw [model_copied_b0_eq]
  refine ⟨fun s h' => h' = h ∧ s = ((none, 0, 0), 0, ()), fun _ _ => 0, ⟨rfl, rfl⟩, ?_⟩
  rintro _ h4 ⟨rfl, rfl⟩
  dsimp only
  rw [model_copied_b1_eq]
  refine condNo rfl ?_
  rw [model_copied_b3_eq]
  exact ⟨rfl, rfl⟩
/-! ### Run -/
abbrev ResL := Int × Int
abbrev tRes : Ty ResL := ⟨61, 3, fun x => [.int .i64 x.1, .int .i64 x.2, .slice none 0 0], (0, 0), fun _ => rfl, by decide, fun _ v hv => by simp at hv; rcases hv with rfl | rfl | rfl <;> rfl⟩
theorem ok_res : ElOk tRes Tryz.prog 156 := elB_spec (by kernel_rfl)
/-- What a list of operations does to a dictionary: what is left, and the results. -/
def runS (ops : List OpL) : List E × List ResL := ops.foldl (fun s o => ((dictS s.1 o.1 o.2).1, s.2 ++ [(dictS s.1 o.1 o.2).2])) ([], [])
theorem runS_succ {ops : List OpL} {i : Nat} (hi : i < ops.length) : runS (ops.take (i + 1)) = ((dictS (runS (ops.take i)).1 (ops.getD i (0, [])).1 (ops.getD i (0, [])).2).1, (runS (ops.take i)).2 ++ [(dictS (runS (ops.take i)).1 (ops.getD i (0, [])).1 (ops.getD i (0, [])).2).2]) := by
  have hg : ops.getD i (0, []) = ops[i] := by rw [List.getD_eq_getElem?_getD, List.getElem?_eq_getElem hi]; rfl
  rw [List.take_succ_eq_append_getElem hi, ← hg]
  unfold runS
  rw [List.foldl_append]
  rfl
theorem runS_len : ∀ {ops : List OpL} {i : Nat}, i ≤ ops.length → (runS (ops.take i)).2.length = i
  | ops, 0, _ => by rw [List.take_zero]; rfl
  | ops, i + 1, h => by rw [runS_succ (by omega), List.length_append, runS_len (by omega)]; rfl
/-- An entry whose key and value may be ones. -/
abbrev KeysP (xs : List E) : Prop := ∀ e ∈ xs, KeyP e.1 ∧ KeyP e.2
theorem dictS_keys {xs : List E} {c : Int} {zs : List Int} (hx : KeysP xs) (hv : OpV 1 c zs) : KeysP (dictS xs c zs).1 := by
  obtain ⟨hc, hz1, hz2, hz⟩ := opv1 hv
  have lo : ∀ k, KeysP (lowS xs k) := fun k e he => hx e (low_sub.mem he)
  have up : ∀ k, KeysP (upS xs k) := fun k e he => hx e (up_sub.mem he)
  have tl : ∀ k, KeysP (upS xs k).tail := fun k e he => up k e (List.mem_of_mem_tail he)
  have hk : ∀ i, i < zs.length → KeyP (zs.getD i 0) := fun i hi => hz _ (getD_mem hi)
  have app : ∀ {a b : List E}, KeysP a → KeysP b → KeysP (a ++ b) := fun ha hb e he => (List.mem_append.1 he).elim (ha e) (hb e)
  have cons : ∀ {x : E} {b : List E}, KeyP x.1 ∧ KeyP x.2 → KeysP b → KeysP (x :: b) := fun hx hb e he => (List.mem_cons.1 he).elim (fun h => by rw [h]; exact hx) (hb e)
  unfold dictS
  split
  · exact hx
  split
  · rename_i h1
    have := hz2 h1
    split
    · exact app (lo _) (cons ⟨hk 0 (by omega), hk 1 (by omega)⟩ (tl _))
    · split
      · exact hx
      · exact app (lo _) (cons ⟨hk 0 (by omega), hk 1 (by omega)⟩ (up _))
  split
  · split <;> exact hx
  split
  · split
    · exact app (lo _) (tl _)
    · exact hx
  split
  · split
    · exact hx
    · split <;> exact hx
  split
  · split <;> exact hx
  split
  · exact hx
  · split <;> exact hx
theorem dictS_fact {xs : List E} {c : Int} {zs : List Int} (so : Srt xs) : Srt (dictS xs c zs).1 ∧ (dictS xs c zs).1.length ≤ xs.length + 1 := by
  have hX : Srt (lowS xs (zs.getD 0 0)) := so.sublist low_sub
  have hY : Srt (upS xs (zs.getD 0 0)) := so.sublist up_sub
  have hlen := congrArg List.length (upS_len (xs := xs) (key := zs.getD 0 0))
  rw [List.length_append] at hlen
  unfold dictS
  split
  · exact ⟨so, Nat.le_succ _⟩
  split
  · split
    · rename_i hk
      refine ⟨srt_ins hX (hY.sublist (List.tail_sublist _)) low_lt (up_tail_gt so hk), ?_⟩
      simp only [List.length_append, List.length_cons, List.length_tail]; omega
    · rename_i hk
      split
      · exact ⟨so, Nat.le_succ _⟩
      · refine ⟨srt_ins hX hY low_lt (key_gt hY (up_ge so) (by simpa using hk)), ?_⟩
        simp only [List.length_append, List.length_cons]; omega
  split
  · split <;> exact ⟨so, Nat.le_succ _⟩
  split
  · split
    · refine ⟨?_, ?_⟩
      · have h1 : Srt (lowS xs (zs.getD 0 0) ++ upS xs (zs.getD 0 0)) := by rw [← upS_len]; exact so
        exact h1.sublist (List.Sublist.append (List.Sublist.refl _) (List.tail_sublist _))
      · simp only [List.length_append, List.length_tail]; omega
    · exact ⟨so, Nat.le_succ _⟩
  split
  · split
    · exact ⟨so, Nat.le_succ _⟩
    · split <;> exact ⟨so, Nat.le_succ _⟩
  split
  · split <;> exact ⟨so, Nat.le_succ _⟩
  split
  · exact ⟨so, Nat.le_succ _⟩
  · split <;> exact ⟨so, Nat.le_succ _⟩
/-- Boxes written, and the end. -/
theorem runS_facts {ops : List OpL} (hv : AllV 1 ops) : ∀ {i : Nat}, i ≤ ops.length → Srt (runS (ops.take i)).1 ∧ (runS (ops.take i)).1.length ≤ i ∧ KeysP (runS (ops.take i)).1
  | 0, _ => by rw [List.take_zero]; exact ⟨List.Pairwise.nil, Nat.le_refl 0, fun e he => by cases he⟩
  | i + 1, h => by
    obtain ⟨h1, h2, h3⟩ := runS_facts hv (i := i) (by omega)
    rw [runS_succ (by omega)]
    have hd := dictS_fact (c := (ops.getD i (0, [])).1) (zs := (ops.getD i (0, [])).2) h1
    exact ⟨hd.1, by have := hd.2; simp only; omega, dictS_keys h3 (hv _ (getD_mem (by omega)))⟩
theorem mapply_ok {h0 h : Hp} {l : List E} {p q : Option Addr} {n c m cc : Nat} {code : Int} {zs : List Int} {B G : Bag} (so : Srt l) (na : RowsA (p, n, c) (l.map row2) B) (rz : RdT TI h0 q m zs) (hmc : m ≤ cc) (s : St h0 h (B + G)) (hn : n ≤ 1000) (hv : OpV 1 code zs) :
    HCalls Tryz.prog 92 #[.int .i64 1, .slice p n c, .agg #[.int .i64 code, .slice q m cc]] h (MDictP h0 G l code zs) := by
  obtain ⟨hc, hz1, hz2, _⟩ := opv1 hv
  have hlen : code = 1 → zs.length = 2 := fun h => by
    subst h
    have := hv.2
    rw [if_neg (by decide)] at this
    have := this.1
    have e : (arT 1).getD ((1 : Int) - 1).toNat 0 = 2 := rfl
    omega
  refine model_apply_call ?_
  rw [model_apply_b0_eq]
  refine s.new (cs := [.int .i64 code, .slice q m cc]) fun b1 h1 _ s1 => ?_
  refine s1.new (cs := [.int .i64 0, .int .i64 0, .slice none 0 0]) fun b2 h2 _ s2 => ?_
  have s2 : St h0 h2 (cA b2 [.int .i64 0, .int .i64 0, .slice none 0 0] 61 + (cA b1 [.int .i64 code, .slice q m cc] 25 + (B + G))) := s2
  have kb1 := s2.atomBlk
  refine condYes rfl ⟨_, _, _, _, kb1.cell 0, Blk.cellA kb1 1, ?_⟩
  refine (mdict_ok so na (G := cA b2 [.int .i64 0, .int .i64 0, .slice none 0 0] 61 + (cA b1 [.int .i64 code, .slice q m cc] 25 + G)) (fun h' A s' => rz.ext s'.ext) hmc s2.to hn hc hz1 hlen).mono fun v h3 ⟨q', m', d', B', hv, na', s3⟩ => ⟨_, _, _, _, _, _, _, _, hv, ?_⟩
  have s3 := s3.to (B := cA b2 [.int .i64 0, .int .i64 0, .slice none 0 0] 61 + (cA b1 [.int .i64 code, .slice q m cc] 25 + (B' + G)))
  exact mboxW na' s3
/-- The states and results that a run of a dictionary leaves. -/
def RunP (h : Hp) (ops : List OpL) (v : Value) (h' : Hp) : Prop :=
  ∃ q m d o od B C, v = .tuple #[.agg #[.int .i64 1, .slice q m d], .slice o ops.length od, .int .i64 0] ∧ RowsA (q, m, d) ((runS ops).1.map row2) B ∧ Sl tRes o ops.length od (runS ops).2 C ∧ St h h' (B + (C + 0))
theorem run_ok {h : Hp} {p : Option Addr} {n c : Nat} {ops : List OpL} (r : OpsR h p n ops) (hn : n ≤ 1000) (hv : AllV 1 ops) :
    HCalls Tryz.prog 121 #[.agg #[.int .i64 1, .slice none 0 0], .slice p n c] h (RunP h ops) := by
  have hl := r.len
  refine model_Run_call ?_
  rw [model_Run_b0_eq]
  refine (St.start h).new (cs := [.int .i64 1, .slice none 0 0]) fun b1 h1 _ s1 => ?_
  refine s1.new (cs := [.int .i64 0, .slice none 0 0]) fun b2 h2 _ s2 => ?_
  have kb1 := s2.atomBlk
  refine ⟨_, _, _, _, kb1.cell 0, Blk.cellA kb1 1, ?_⟩
  refine (mvalid0_ok h2).mono fun v1 h3 ⟨hv1, x3⟩ => ⟨_, hv1, condNo rfl ?_⟩
  have s3 := s2.grow x3
  have kb1 := s3.atomBlk
  refine (opsBad_ok (r.ext s3.ext) (by omega) kb1).mono fun v2 h4 ⟨hv2, x4⟩ => ⟨_, hv2, condNo (by rw [decide_eq_true hv]; rfl) ?_⟩
  have s4 := s3.grow x4
  have kb1 := s4.atomBlk
  rw [model_Run_b1_eq]
  refine condP (fun h => by omega) (fun _ => ⟨_, _, _, Blk.cellA kb1 1, ?_⟩)
  refine (copied0_ok h4).mono fun v3 h5 ⟨hv3, hh5⟩ => ⟨_, _, _, hv3, ?_⟩
  subst hh5
  have s5 : St h h5 (cA b2 [.int .i64 0, .slice none 0 0] 66 + (cA b1 [.int .i64 1, .slice none 0 0] 66 + 0)) := s4
  refine ⟨fun x h' => ∃ (i : Nat) (B C : Bag), x.2.2.1 = i ∧ i ≤ n ∧ RowsA (x.1.1, x.1.2.1, x.1.2.2) ((runS (ops.take i)).1.map row2) B ∧ Sl tRes x.2.1.1 x.2.1.2.1 x.2.1.2.2 (runS (ops.take i)).2 C ∧ St h h' (B + (C + (cA b2 [.int .i64 0, .slice none 0 0] 66 + (cA b1 [.int .i64 1, .slice none 0 0] 66 + 0)))), fun x _ => n - x.2.2.1.toNat, ⟨0, 0, 0, rfl, by omega, Nest.nil, Sl.nil, s5.to⟩, ?_⟩
  rintro ⟨⟨rp, rn, rc⟩, ⟨op, on, oc⟩, _, _⟩ h6 ⟨i, B, C, rfl, hin, na, oa, s6⟩
  dsimp only at na oa ⊢
  obtain ⟨f1, f2, f3⟩ := runS_facts hv (i := i) (by omega)
  have hrl : ((runS (ops.take i)).1.map row2).length = rn := rows_len na
  rw [List.length_map] at hrl
  have hol := oa.len
  rw [runS_len (by omega)] at hol
  rw [model_Run_b2_eq]
  refine condP (fun hlt => ?_) (fun hge => ?_)
  · refine r.at_ s6.ext (by omega) (by omega) fun q m d hmd rz => ?_
    rw [Int.toNat_natCast] at rz ⊢
    have hov := hv _ (getD_mem (l := ops) (i := i) (d := (0, [])) (by omega))
    have hru := runS_succ (ops := ops) (i := i) (by omega)
    generalize ops.getD i (0, []) = opx at rz hov hru ⊢
    refine s6.new (cs := [.int .i64 0, .slice none 0 0]) fun b3 h7 _ s7 => ?_
    refine s7.wr rfl (by simp) fun h8 s8 => ?_
    refine s8.wr (o := 1) (add_mk _ _ _) (by simp) fun h9 s9 => ?_
    have s9 : St h h9 (cA b3 [.int .i64 opx.1, .slice q m d] 25 + (B + (C + (cA b2 [.int .i64 0, .slice none 0 0] 66 + (cA b1 [.int .i64 1, .slice none 0 0] 66 + 0))))) := s9
    have kb1 := (s9.at (cA b1 [.int .i64 1, .slice none 0 0] 66)).blk
    refine ⟨_, kb1.cell 0, _, _, _, _, s9.blk.cell 0, Blk.cellA s9.blk 1, ?_⟩
    refine (mapply_ok f1 na rz hmd (s9.to (B := B + (C + (cA b3 [.int .i64 opx.1, .slice q m d] 25 + (cA b2 [.int .i64 0, .slice none 0 0] 66 + (cA b1 [.int .i64 1, .slice none 0 0] 66 + 0)))))) (by omega) hov).mono fun v4 h10 ⟨q', m', d', B', hv4, na', s10⟩ => ⟨_, _, _, _, _, _, _, _, hv4, ?_⟩
    refine s10.new (cs := [.int .i64 0, .int .i64 0, .slice none 0 0]) fun b4 h11 _ s11 => ?_
    refine s11.wr rfl (by simp) fun h12 s12 => ?_
    refine s12.wr (o := 1) (add_mk _ _ _) (by simp) fun h13 s13 => ?_
    refine s13.wr (o := 2) (add_mk _ _ _) (by simp) fun h14 s14 => ?_
    refine ⟨_, _, _, _, _, s14.blk.cell 0, Blk.cellA s14.blk 1, Blk.cellA s14.blk 2, ?_⟩
    have s14 := s14.drop
    refine s14.new (cs := [.int .i64 (dictS (runS (ops.take i)).1 opx.1 opx.2).2.1, .int .i64 (dictS (runS (ops.take i)).1 opx.1 opx.2).2.2, .slice none 0 0]) fun b5 h15 _ s15 => ?_
    have sx : Sl tRes (some ⟨b5, 0, none⟩) 1 1 [(dictS (runS (ops.take i)).1 opx.1 opx.2).2] (cA b5 [.int .i64 (dictS (runS (ops.take i)).1 opx.1 opx.2).2.1, .int .i64 (dictS (runS (ops.take i)).1 opx.1 opx.2).2.2, .slice none 0 0] 61) := Sl.of_blk (T := tRes) (xs := [(dictS (runS (ops.take i)).1 opx.1 opx.2).2]) rfl rfl
    have s15' := s15.to (B := C + (cA b5 [.int .i64 (dictS (runS (ops.take i)).1 opx.1 opx.2).2.1, .int .i64 (dictS (runS (ops.take i)).1 opx.1 opx.2).2.2, .slice none 0 0] 61 + (B' + (cA b3 [.int .i64 opx.1, .slice q m d] 25 + (cA b2 [.int .i64 0, .slice none 0 0] 66 + (cA b1 [.int .i64 1, .slice none 0 0] 66 + 0))))))
    refine append_sl ok_res s15' oa (sx.rd s15) (by omega) fun a1 c1 h16 C' oa' s16 => ?_
    rw [model_Run_b3_eq]
    refine ⟨⟨by omega, by omega⟩, ⟨i + 1, B', C', by simp only; omega, by omega, by rw [hru]; exact na', by rw [hru]; exact oa', ?_⟩, by simp only; omega⟩
    exact (s16.to (B := (cA b5 [.int .i64 (dictS (runS (ops.take i)).1 opx.1 opx.2).2.1, .int .i64 (dictS (runS (ops.take i)).1 opx.1 opx.2).2.2, .slice none 0 0] 61 + cA b3 [.int .i64 opx.1, .slice q m d] 25) + (B' + (C' + (cA b2 [.int .i64 0, .slice none 0 0] 66 + (cA b1 [.int .i64 1, .slice none 0 0] 66 + 0)))))).drop
  · obtain rfl : i = n := by omega
    rw [List.take_of_length_le (by omega)] at na oa
    rw [model_Run_b4_eq]
    have kb1 := (s6.at (cA b1 [.int .i64 1, .slice none 0 0] 66)).blk
    refine ⟨_, kb1.cell 0, ?_⟩
    have s6 := s6.to (B := cA b2 [.int .i64 0, .slice none 0 0] 66 + (cA b1 [.int .i64 1, .slice none 0 0] 66 + (B + (C + 0))))
    refine s6.wr rfl (by simp) fun h7 s7 => ?_
    refine s7.wr (o := 1) (add_mk _ _ _) (by simp) fun h8 s8 => ?_
    refine ⟨_, _, _, _, s8.blk.cell 0, Blk.cellA s8.blk 1, rp, rn, rc, op, oc, B, C, ?_, na, ?_, (s8.drop).drop⟩
    · subst hol; rw [hl]
    · subst hol; rw [hl]; exact oa
end Go.Proofs.YtdlkohenamlnaaaGreat

/- A queue of priorities in the past: finding, comparing. -/
set_option maxRecDepth 100000
namespace Go.Proofs.YtdlkohenamlnaaaGreat
open Go Go.Sx
abbrev TA : Ty Ev := tEv 106
abbrev TL : Ty El := tPP 101
theorem timed_ok (z : Int) (h : Hp) : HCalls Tryz.prog 65 #[.int .i64 z] h (fun v h' => v = .bool (decide (0 ≤ z ∧ z ≤ 1073741824)) ∧ h' = h) := by
  refine partialretro_timed_call ?_
  rw [partialretro_timed_b0_eq]
  refine condP (fun h1 => ⟨?_, rfl⟩) (fun h1 => ⟨?_, rfl⟩)
  · congr 1; exact decide_eq_decide.2 ⟨fun h => ⟨h1, h⟩, fun h => h.2⟩
  · rw [decide_eq_false (fun h => h1 h.1)]
/-- An element of three cells is loaded. -/
theorem ev_load {e : TypeId} {h : Hp} {p : Option Addr} {n : Nat} {l : List Ev} {i : Int} {Q : Int → Int → Bool → Prop} (r : RdT (tEv e) h p n l) (h0 : 0 ≤ i) (h1 : i < n) (hq : Q (l.getD i.toNat evD).1 (l.getD i.toNat evD).2.1 (l.getD i.toNat evD).2.2) :
    (0 ≤ i ∧ i < (n : Int)) ∧ NN p fun a => ∃ x : Int, ∃ y : Int, ∃ b : Bool, cell h (a.add (Int.toNat i * 3)) = some (.int .i64 x) ∧ cell h ((a.add (Int.toNat i * 3)).add 1) = some (.int .i64 y) ∧ cell h ((a.add (Int.toNat i * 3)).add 2) = some (.bool b) ∧ Q x y b :=
  r.idx h0 h1 fun _ _ hc => ⟨_, _, _, hc 0 (show 0 < 3 by decide), hc 1 (show 1 < 3 by decide), hc 2 (show 2 < 3 by decide), hq⟩
theorem el_load {e : TypeId} {h : Hp} {p : Option Addr} {n : Nat} {l : List El} {i : Int} {Q : Int → Int → Prop} (r : RdT (tPP e) h p n l) (h0 : 0 ≤ i) (h1 : i < n) (hq : Q (l.getD i.toNat (0, 0)).1 (l.getD i.toNat (0, 0)).2) :
    (0 ≤ i ∧ i < (n : Int)) ∧ NN p fun a => ∃ x : Int, ∃ y : Int, cell h (a.add (Int.toNat i * 2)) = some (.int .i64 x) ∧ cell h ((a.add (Int.toNat i * 2)).add 1) = some (.int .i64 y) ∧ Q x y :=
  r.idx h0 h1 fun _ _ hc => ⟨_, _, hc 0 (show 0 < 2 by decide), hc 1 (show 1 < 2 by decide), hq⟩
theorem cmpS_neg {x y : Int} : cmpS x y < 0 ↔ x < y := by
  unfold cmpS; split
  · simpa
  · split <;> simp <;> omega
theorem cmpS_zero {x y : Int} : cmpS x y = 0 ↔ x = y := by
  unfold cmpS; split
  · simp; omega
  · split <;> simp <;> omega
/-- find's comparison. -/
theorem find_c1_x {a b : Int} {d : Bool} {t : Int} {h : Hp} {K : Value → Hp → Prop} (hK : ∀ h', Ext h h' → K (.int .i64 (cmpS a t)) h') :
    callX Tryz.prog F 102 #[.agg #[.int .i64 a, .int .i64 b, .bool d], .int .i64 t] h K := by
  refine callX_of (by kernel_rfl) (partialretro_Queue_find_c1_call ?_)
  rw [partialretro_Queue_find_c1_b0_eq]
  refine (St.start h).new (cs := [.int .i64 a, .int .i64 b, .bool d]) fun b1 h1 x1 s1 => ?_
  refine ⟨_, s1.blk.cell 0, (cmp_ok _ _ h1).mono fun v h2 ⟨hv, hh⟩ => ⟨_, hv, ?_⟩⟩
  subst hh
  exact hK _ x1
/-- The place of a time among operations. -/
theorem bsA_ok {h : Hp} {p : Option Addr} {n c t : Nat} {time : Int} {l : List Ev} (r : RdT TA h p n l) (hn : n ≤ 1000000)
    (ht : t ≤ n ∧ (∀ j, j < t → (l.getD j evD).1 < time) ∧ ∀ j, t ≤ j → j < n → time ≤ (l.getD j evD).1) :
    HCalls Tryz.prog 101 #[.slice p n c, .int .i64 time, .func (.func 102) #[] #[]] h (fun v h' => v = .tuple #[.int .i64 (t : Int), .bool (decide (t < n ∧ (l.getD t evD).1 = time))] ∧ Ext h h') := by
  obtain ⟨htn, hlo, hhi⟩ := ht
  refine slices_BinarySearchFunc_Spartialretro_action_partialretro_action_int_call ?_
  rw [slices_BinarySearchFunc_Spartialretro_action_partialretro_action_int_b0_eq]
  refine ⟨fun x h' => Ext h h' ∧ ∃ i j : Nat, x.1 = i ∧ x.2.1 = j ∧ i ≤ t ∧ t ≤ j ∧ j ≤ n, fun x _ => (x.2.1 - x.1).toNat, ⟨Ext.refl h, 0, n, rfl, rfl, by omega, htn, by omega⟩, ?_⟩
  rintro ⟨_, _, _⟩ h1 ⟨x1, i, j, rfl, rfl, hit, htj, hjn⟩
  dsimp only
  rw [slices_BinarySearchFunc_Spartialretro_action_partialretro_action_int_b1_eq]
  refine condP (fun hlt => ?_) (fun hge => ?_)
  · have e1 : IntKind.u64.wrap ((i : Int) + (j : Int)) = ((i + j : Nat) : Int) := by
      show ((i : Int) + (j : Int)) % 18446744073709551616 = _
      rw [Int.emod_eq_of_lt (by omega) (by omega)]; push_cast; rfl
    refine ⟨⟨by omega, by omega⟩, (((i + j) / 2 : Nat) : Int), ⟨by omega, ?_⟩, ⟨by omega, by omega⟩, ?_⟩
    · rw [e1]
      have : (2 : Int) ^ (min (Int.toNat 1) IntKind.u64.bits) = 2 := by decide
      rw [this]
      rw [Int.fdiv_eq_ediv_of_nonneg _ (by omega)]
      omega
    refine ev_load (r.ext x1) (by omega) (by omega) ?_
    rw [Int.toNat_natCast]
    refine find_c1_x fun h2 x2 => ⟨_, rfl, condP (fun h3 => ?_) (fun h3 => ?_)⟩
    · have : (i + j) / 2 < t := by
        rcases Nat.lt_or_ge ((i + j) / 2) t with h | h
        · exact h
        · have := hhi _ h (by omega); have := cmpS_neg.1 h3; omega
      exact ⟨⟨by omega, by omega⟩, ⟨x1.trans x2, (i + j) / 2 + 1, j, by simp only; omega, rfl, by omega, htj, hjn⟩, by simp only; omega⟩
    · have : t ≤ (i + j) / 2 := by
        rcases Nat.lt_or_ge ((i + j) / 2) t with h | h
        · exact absurd (cmpS_neg.2 (hlo _ h)) h3
        · exact h
      exact ⟨⟨x1.trans x2, i, (i + j) / 2, rfl, rfl, hit, this, by omega⟩, by simp only; omega⟩
  · obtain rfl : i = t := by omega
    rw [slices_BinarySearchFunc_Spartialretro_action_partialretro_action_int_b2_eq]
    refine condP (fun hin => ?_) (fun hin => ?_)
    · refine ev_load (r.ext x1) (by omega) (by omega) ?_
      rw [Int.toNat_natCast]
      refine find_c1_x fun h2 x2 => ⟨_, rfl, ?_, x1.trans x2⟩
      congr 5
      exact decide_eq_decide.2 ⟨fun h => ⟨by omega, cmpS_zero.1 h⟩, fun h => cmpS_zero.2 h.2⟩
    · refine ⟨?_, x1⟩
      rw [decide_eq_false (fun h => hin (by omega))]
/-- How two elements compare. -/
def cmpE (a b : El) : Int := if cmpS a.1 b.1 = 0 then cmpS a.2 b.2 else cmpS a.1 b.1
theorem cmpE_neg {a b : El} : cmpE a b < 0 ↔ LtE a b := by
  unfold cmpE LtE
  split
  · rename_i h; rw [cmpS_neg]; have := cmpS_zero.1 h; omega
  · rename_i h; rw [cmpS_neg]; have : a.1 ≠ b.1 := fun e => h (cmpS_zero.2 e); omega
theorem or_ok {h : Hp} {b : Nat} {x y : Int} {e : TypeId} (kb : Blk h b [.int .i64 x, .int .i64 y] e) :
    HCalls Tryz.prog 172 #[.slice (some ⟨b, 0, none⟩) 2 2] h (fun v h' => v = .int .i64 (if x = 0 then y else x) ∧ h' = h) := by
  refine cmp_Or_int_call ?_
  rw [cmp_Or_int_b0_eq]
  refine ⟨fun s h' => h' = h ∧ (s.1 = 0 ∨ (s.1 = 1 ∧ x = 0) ∨ (s.1 = 2 ∧ x = 0 ∧ y = 0)), fun s _ => 2 - s.1.toNat, ⟨rfl, .inl rfl⟩, ?_⟩
  rintro ⟨i, _⟩ h1 ⟨rfl, hi⟩
  dsimp only at hi ⊢
  rw [cmp_Or_int_b1_eq]
  rcases hi with rfl | ⟨rfl, hx⟩ | ⟨rfl, hx, hy⟩
  · refine condYes rfl ⟨⟨by omega, by omega⟩, _, Blk.cellA kb 0, condN (fun hne => ?_) (fun he => ?_)⟩
    · exact ⟨by rw [if_neg hne], rfl⟩
    · rw [cmp_Or_int_b2_eq]
      exact ⟨⟨by omega, by omega⟩, ⟨rfl, .inr (.inl ⟨rfl, he⟩)⟩, by decide⟩
  · refine condYes rfl ⟨⟨by omega, by omega⟩, _, Blk.cellA kb 1, condN (fun hne => ?_) (fun he => ?_)⟩
    · exact ⟨by rw [if_pos hx], rfl⟩
    · rw [cmp_Or_int_b2_eq]
      exact ⟨⟨by omega, by omega⟩, ⟨rfl, .inr (.inr ⟨rfl, hx, he⟩)⟩, by decide⟩
  · refine condNo rfl ?_
    rw [cmp_Or_int_b3_eq]
    exact ⟨by rw [if_pos hx, hy], rfl⟩
theorem compare_x {a b : El} {h : Hp} {K : Value → Hp → Prop} (hK : ∀ h', Ext h h' → K (.int .i64 (cmpE a b)) h') :
    callX Tryz.prog F 148 #[.agg #[.int .i64 a.1, .int .i64 a.2], .agg #[.int .i64 b.1, .int .i64 b.2]] h K := by
  refine callX_of (by kernel_rfl) (partialretro_compare_call ?_)
  rw [partialretro_compare_b0_eq]
  refine (St.start h).new (cs := [.int .i64 a.1, .int .i64 a.2]) fun b1 h1 x1 s1 => ?_
  refine s1.new (cs := [.int .i64 b.1, .int .i64 b.2]) fun b2 h2 x2 s2 => ?_
  have k2 := s2.blk
  have k1 := s2.atomBlk
  refine ⟨_, k1.cell 0, _, k2.cell 0, _, cmp_ok _ _ h2, _, Blk.cellA k1 1, _, Blk.cellA k2 1, _, cmp_ok _ _ h2, ?_⟩
  refine s2.new (cs := [.int .i64 (cmpS a.1 b.1), .int .i64 (cmpS a.2 b.2)]) fun b3 h3 x3 s3 => ?_
  refine (or_ok s3.blk).mono fun v h4 ⟨hv, hh⟩ => ⟨_, hv, ?_⟩
  subst hh
  exact hK _ s3.ext
/-- The place of an element that is not there yet. -/
theorem bsE_ok {h : Hp} {p : Option Addr} {n c t : Nat} {x : El} {l : List El} (r : RdT TL h p n l) (hn : n ≤ 1000000)
    (ht : t ≤ n ∧ (∀ j, j < t → LtE (l.getD j (0, 0)) x) ∧ ∀ j, t ≤ j → j < n → ¬ LtE (l.getD j (0, 0)) x) :
    HCalls Tryz.prog 147 #[.slice p n c, .agg #[.int .i64 x.1, .int .i64 x.2], .func (.func 148) #[] #[]] h (fun v h' => ∃ b, v = .tuple #[.int .i64 (t : Int), .bool b] ∧ Ext h h') := by
  obtain ⟨htn, hlo, hhi⟩ := ht
  refine slices_BinarySearchFunc_Spartialretro_element_partialretro_element_partialretro_element_call ?_
  rw [slices_BinarySearchFunc_Spartialretro_element_partialretro_element_partialretro_element_b0_eq]
  refine (St.start h).new (cs := [.int .i64 x.1, .int .i64 x.2]) fun b1 h1 x1 s1 => ?_
  have kb := s1.blk
  refine ⟨fun s h' => Ext h1 h' ∧ ∃ i j : Nat, s.1 = i ∧ s.2.1 = j ∧ i ≤ t ∧ t ≤ j ∧ j ≤ n, fun s _ => (s.2.1 - s.1).toNat, ⟨Ext.refl h1, 0, n, rfl, rfl, by omega, htn, by omega⟩, ?_⟩
  rintro ⟨_, _, _⟩ h2 ⟨x2, i, j, rfl, rfl, hit, htj, hjn⟩
  dsimp only
  rw [slices_BinarySearchFunc_Spartialretro_element_partialretro_element_partialretro_element_b1_eq]
  have kb2 := kb.ext x2
  refine condP (fun hlt => ?_) (fun hge => ?_)
  · have e1 : IntKind.u64.wrap ((i : Int) + (j : Int)) = ((i + j : Nat) : Int) := by
      show ((i : Int) + (j : Int)) % 18446744073709551616 = _
      rw [Int.emod_eq_of_lt (by omega) (by omega)]; push_cast; rfl
    refine ⟨⟨by omega, by omega⟩, (((i + j) / 2 : Nat) : Int), ⟨by omega, ?_⟩, ⟨by omega, by omega⟩, ?_⟩
    · rw [e1]
      have : (2 : Int) ^ (min (Int.toNat 1) IntKind.u64.bits) = 2 := by decide
      rw [this]
      rw [Int.fdiv_eq_ediv_of_nonneg _ (by omega)]
      omega
    refine el_load (r.ext (x1.trans x2)) (by omega) (by omega) ⟨_, _, kb2.cell 0, Blk.cellA kb2 1, ?_⟩
    rw [Int.toNat_natCast]
    show callX Tryz.prog F 148 #[.agg #[.int .i64 (l.getD ((i + j) / 2) (0, 0)).1, .int .i64 (l.getD ((i + j) / 2) (0, 0)).2], .agg #[.int .i64 x.1, .int .i64 x.2]] _ _
    refine compare_x fun h3 x3 => ⟨_, rfl, condP (fun h4 => ?_) (fun h4 => ?_)⟩
    · have : (i + j) / 2 < t := by
        rcases Nat.lt_or_ge ((i + j) / 2) t with h | h
        · exact h
        · exact absurd (cmpE_neg.1 h4) (hhi _ h (by omega))
      exact ⟨⟨by omega, by omega⟩, ⟨x2.trans x3, (i + j) / 2 + 1, j, by simp only; omega, rfl, by omega, htj, hjn⟩, by simp only; omega⟩
    · have : t ≤ (i + j) / 2 := by
        rcases Nat.lt_or_ge ((i + j) / 2) t with h | h
        · exact absurd (cmpE_neg.2 (hlo _ h)) h4
        · exact h
      exact ⟨⟨x2.trans x3, i, (i + j) / 2, rfl, rfl, hit, this, by omega⟩, by simp only; omega⟩
  · obtain rfl : i = t := by omega
    rw [slices_BinarySearchFunc_Spartialretro_element_partialretro_element_partialretro_element_b2_eq]
    refine condP (fun hin => ?_) (fun hin => ?_)
    · refine el_load (r.ext (x1.trans x2)) (by omega) (by omega) ⟨_, _, kb2.cell 0, Blk.cellA kb2 1, ?_⟩
      rw [Int.toNat_natCast]
      show callX Tryz.prog F 148 #[.agg #[.int .i64 (l.getD i (0, 0)).1, .int .i64 (l.getD i (0, 0)).2], .agg #[.int .i64 x.1, .int .i64 x.2]] _ _
      exact compare_x fun h3 x3 => ⟨_, rfl, rfl, _, rfl, (x1.trans x2).trans x3⟩
    · exact ⟨rfl, _, rfl, x1.trans x2⟩
end Go.Proofs.YtdlkohenamlnaaaGreat

/- A queue of priorities in the past: replaying. -/
set_option maxRecDepth 100000
namespace Go.Proofs.YtdlkohenamlnaaaGreat
open Go Go.Sx
/-- A queue's blocks: its operations, what is in it now, its bridges. -/
def QueueA (b : Nat) (l : List Ev) (A : Bag) : Prop :=
  ∃ (p : Option Addr) (c : Nat) (e : Option Addr) (ec : Nat) (r : Option Addr) (rc : Nat) (A1 A2 A3 : Bag), A = cA b [.slice p l.length c, .slice e (nowD l l.length).length ec, .slice r (brS l).length rc] 96 + (A1 + (A2 + A3)) ∧
    Sl TA p l.length c l A1 ∧ Sl TL e (nowD l l.length).length ec (nowD l l.length) A2 ∧ Sl TI r (brS l).length rc (brS l) A3 ∧ nowAt l l.length = some (nowD l l.length)
/-- What replay leaves. -/
def ReplayP (h : Hp) (p : Option Addr) (c : Nat) (l : List Ev) (v : Value) (h' : Hp) : Prop :=
  (nowAt l l.length = none ∧ v = .tuple #[.pointer none, .bool false] ∧ Ext h h') ∨
  ∃ (b : Nat) (e : Option Addr) (ec : Nat) (r : Option Addr) (rc : Nat) (A2 A3 : Bag), v = .tuple #[.pointer (some ⟨b, 0, none⟩), .bool true] ∧ nowAt l l.length = some (nowD l l.length) ∧ Sl TL e (nowD l l.length).length ec (nowD l l.length) A2 ∧ Sl TI r (brS l).length rc (brS l) A3 ∧
    St h h' (cA b [.slice p l.length c, .slice e (nowD l l.length).length ec, .slice r (brS l).length rc] 96 + (A2 + A3))
theorem nowAt_none {l : List Ev} {i j : Nat} (h : i ≤ j) (hn : nowAt l i = none) : nowAt l j = none := by
  cases hj : nowAt l j with
  | none => rfl
  | some now => obtain ⟨prev, hp⟩ := nowAt_le h hj; rw [hn] at hp; cases hp
theorem nowAt_del0 {l : List Ev} {i : Nat} (hn : nowAt l i = some []) (hd : (l.getD i evD).2.2 = true) : nowAt l (i + 1) = none := by
  unfold nowAt; rw [hn]; change stepN [] i _ = _; unfold stepN; rw [hd]; rfl
theorem nowAt_del1 {l : List Ev} {i : Nat} {x : El} {xs : List El} (hn : nowAt l i = some (x :: xs)) (hd : (l.getD i evD).2.2 = true) : nowAt l (i + 1) = some xs := by
  unfold nowAt; rw [hn]; change stepN (x :: xs) i _ = _; unfold stepN; rw [hd]; rfl
theorem nowAt_ins {l : List Ev} {i : Nat} {now : List El} (hn : nowAt l i = some now) (hd : (l.getD i evD).2.2 = false) : nowAt l (i + 1) = some (insE ((l.getD i evD).2.1, (i : Int)) now) := by
  unfold nowAt; rw [hn]; change stepN now i _ = _; unfold stepN; rw [hd]; rfl
theorem ins_place {now : List El} {x : El} (hs : SrtE now) : (lowE x now).length ≤ now.length ∧ (∀ j, j < (lowE x now).length → LtE (now.getD j (0, 0)) x) ∧ ∀ j, (lowE x now).length ≤ j → j < now.length → ¬ LtE (now.getD j (0, 0)) x := by
  have hu := lowE_up (x := x) (l := now)
  refine ⟨lowE_len, fun j hj => ?_, fun j hj hjl => ?_⟩
  · have hm : now.getD j (0, 0) ∈ lowE x now := by
      have : now.getD j (0, 0) = (lowE x now)[j] := by
        conv => lhs; rw [hu]
        simp [List.getD, List.getElem?_append_left hj, hj]
      rw [this]; exact List.getElem_mem hj
    exact lowE_lt _ hm
  · have hm : now.getD j (0, 0) ∈ upE x now := by
      have hd := upE_drop (x := x) (l := now)
      have : now.getD j (0, 0) = now[j] := by simp [List.getD, hjl]
      rw [this, ← hd]
      exact List.mem_drop_iff_getElem.2 ⟨j - (lowE x now).length, by omega, by simp only [show (lowE x now).length + (j - (lowE x now).length) = j by omega]⟩
    exact upE_ge hs _ hm
section
variable {h : Hp} {p : Option Addr} {c : Nat} {l : List Ev} (r : RdT TA h p l.length l) (hn : l.length ≤ 2000)
include r hn
/-- The second loop: the bridges. -/
theorem replay_b3_ok {h1 : Hp} {b1 b2 : Nat} {e : Option Addr} {ec : Nat} {o : List Int} {now : List El} {O A : Bag} (hnow : nowAt l l.length = some now) (op : OpenP l l.length o) (os : Sl TI (some ⟨b2, 0, none⟩) (l.length + 1) (l.length + 1) o O) (es : Sl TL e now.length ec now A)
    (s : St h h1 (cA b1 [.slice p l.length c, .slice e now.length ec, .slice none 0 0] 96 + (O + A))) :
    partialretro_replay_b3 p l.length c (some ⟨b1, 0, none⟩) (some ⟨b2, 0, none⟩) (l.length + 1) (l.length + 1) h1 (ReplayP h p c l) := by
  have hnd := nowD_some hnow
  rw [partialretro_replay_b3_eq]
  refine ⟨fun x h' => ∃ (i : Nat) (q : Option Addr) (qc : Nat) (B : Bag), x.2.1 = i ∧ i ≤ l.length ∧ x.1 = (o.take i).sum ∧ Sl TI q (brP l i).length qc (brP l i) B ∧ St h h' (cA b1 [.slice p l.length c, .slice e now.length ec, .slice q (brP l i).length qc] 96 + (O + (A + B))), fun x _ => l.length - x.2.1.toNat, ⟨0, none, 0, 0, rfl, by omega, rfl, Sl.nil, s.to⟩, ?_⟩
  rintro ⟨_, _, _⟩ h2 ⟨i, q, qc, B, rfl, hin, rfl, qs, s2⟩
  dsimp only
  rw [partialretro_replay_b4_eq]
  have hol := op.len
  refine condP (fun hlt => ?_) (fun hge => ?_)
  · refine ev_load (r.ext s2.ext) (by omega) (by omega) ?_
    rw [Int.toNat_natCast]
    refine s2.new (cs := [.int .i64 0, .int .i64 0, .bool false]) fun b3 h3 _ s3 => ?_
    refine s3.wr rfl (by simp) fun h4 s4 => ?_
    refine s4.wr (o := 1) (add_mk _ _ _) (by simp) fun h5 s5 => ?_
    refine s5.wr (o := 2) (add_mk _ _ _) (by simp) fun h6 s6 => ?_
    have s6 : St h h6 (cA b3 [.int .i64 (l.getD i evD).1, .int .i64 (l.getD i evD).2.1, .bool (l.getD i evD).2.2] 106 + (cA b1 [.slice p l.length c, .slice e now.length ec, .slice q (brP l i).length qc] 96 + (O + (A + B)))) := s6
    refine (os.rd (s6.at O)).int (by omega) (by omega) ?_
    rw [Int.toNat_natCast]
    have hps : (o.take (i + 1)).sum = (o.take i).sum + o.getD i 0 := by
      have hg : o.getD i 0 = o[i]'(by omega) := by rw [List.getD_eq_getElem?_getD, List.getElem?_eq_getElem (by omega)]; rfl
      rw [List.take_succ_eq_append_getElem (by omega), List.sum_append, hg]
      simp
    have hg := op.ps i (by omega)
    unfold psum at hg
    rw [Nat.min_eq_left (by omega)] at hg
    have hgl := gone_le (a := nowD l (i + 1)) (b := nowD l l.length)
    obtain ⟨prev, hp⟩ := nowAt_le (i := i + 1) (by omega) hnow
    have hpl := (nowAt_inv hp).2.1
    rw [nowD_some hp] at hgl
    rw [← nowD_some hp] at hgl
    have hpl : (nowD l (i + 1)).length ≤ i + 1 := by rw [nowD_some hp]; exact hpl
    rw [← hps]
    have hbs := brP_succ (l := l) (i := i)
    have kq := (s6.at (cA b1 [.slice p l.length c, .slice e now.length ec, .slice q (brP l i).length qc] 96)).blk
    refine ⟨⟨by omega, by omega⟩, condP (fun h0 => ?_) (fun h0 => ?_)⟩
    · rw [if_pos (by omega)] at hbs
      refine ⟨_, _, _, Blk.cellA kq 2, _, s6.blk.cell 0, ?_⟩
      have s6 := s6.drop
      refine s6.new (cs := [.int .i64 (l.getD i evD).1]) fun b4 h7 x7 s7 => ⟨⟨_, _, _, Blk.cellA (kq.ext x7) 2, rfl⟩, ?_⟩
      have sx : Sl TI (some ⟨b4, 0, none⟩) 1 1 [(l.getD i evD).1] (cA b4 [.int .i64 (l.getD i evD).1] 3) := Sl.of_blk (T := TI) (xs := [(l.getD i evD).1]) rfl rfl
      have s7' := s7.to (B := B + (cA b4 [.int .i64 (l.getD i evD).1] 3 + (cA b1 [.slice p l.length c, .slice e now.length ec, .slice q (brP l i).length qc] 96 + (O + A))))
      have hbl := brP_len (l := l) (i := i)
      refine append_sl ok_int s7' qs (sx.rd s7) (by omega) fun a1 c1 h8 B' qs' s8 => ?_
      have e1 : (brP l (i + 1)).length = (brP l i).length + 1 := by rw [hbs, List.length_append]; rfl
      rw [← e1, ← hbs] at qs'
      rw [← e1]
      have s8 := s8.to (B := cA b1 [.slice p l.length c, .slice e now.length ec, .slice q (brP l i).length qc] 96 + (cA b4 [.int .i64 (l.getD i evD).1] 3 + (O + (A + B'))))
      refine s8.wr (o := 2) (add_mk _ _ _) (by simp) fun h9 s9 => ?_
      have s9 : St h h9 (cA b1 [.slice p l.length c, .slice e now.length ec, .slice a1 (brP l (i + 1)).length c1] 96 + (cA b4 [.int .i64 (l.getD i evD).1] 3 + (O + (A + B')))) := s9
      rw [partialretro_replay_b5_eq]
      refine ⟨⟨by omega, by omega⟩, ⟨i + 1, a1, c1, B', by simp only; omega, by omega, rfl, qs', ?_⟩, by simp only; omega⟩
      exact (s9.to (B := cA b4 [.int .i64 (l.getD i evD).1] 3 + (cA b1 [.slice p l.length c, .slice e now.length ec, .slice a1 (brP l (i + 1)).length c1] 96 + (O + (A + B'))))).drop
    · rw [if_neg (by omega), List.append_nil] at hbs
      rw [partialretro_replay_b5_eq]
      refine ⟨⟨by omega, by omega⟩, ⟨i + 1, q, qc, B, by simp only; omega, by omega, rfl, by rw [hbs]; exact qs, by rw [hbs]; exact s6.drop⟩, by simp only; omega⟩
  · obtain rfl : i = l.length := by omega
    rw [partialretro_replay_b6_eq]
    refine .inr ⟨b1, e, ec, q, qc, A, B, rfl, by rw [hnd]; exact hnow, by rw [hnd]; exact es, qs, ?_⟩
    rw [hnd]
    exact (s2.to (B := O + (cA b1 [.slice p l.length c, .slice e now.length ec, .slice q (brP l l.length).length qc] 96 + (A + B)))).drop
theorem replay_ok : HCalls Tryz.prog 104 #[.slice p l.length c] h (ReplayP h p c l) := by
  refine partialretro_replay_call ?_
  rw [partialretro_replay_b0_eq]
  refine (St.start h).new (cs := [.slice p l.length c, .slice none 0 0, .slice none 0 0]) fun b1 h1 _ s1 => ?_
  have e1 : Int.toNat ((l.length : Int) + 1) = l.length + 1 := by omega
  refine ⟨⟨by omega, by omega⟩, ⟨by omega, by omega, by omega, by omega⟩, ?_⟩
  rw [e1, Nat.mul_one]
  refine s1.new (cs := repL (l.length + 1) [.int .i64 0]) fun b2 h2 _ s2 => ?_
  have os0 : Sl TI (some ⟨b2, 0, none⟩) (l.length + 1) (l.length + 1) (List.replicate (l.length + 1) 0) (cA b2 (repL (l.length + 1) [.int .i64 0]) 3) :=
    Sl.of_blk (T := TI) (by rw [List.length_replicate]) (by rw [tI_cells, repL_one, List.map_replicate])
  refine ⟨fun x h' => ∃ (i : Nat) (now : List El) (o : List Int) (e : Option Addr) (ec : Nat) (O A : Bag), x.1 = i ∧ i ≤ l.length ∧ nowAt l i = some now ∧ OpenP l i o ∧ Sl TI (some ⟨b2, 0, none⟩) (l.length + 1) (l.length + 1) o O ∧ Sl TL e now.length ec now A ∧ St h h' (cA b1 [.slice p l.length c, .slice e now.length ec, .slice none 0 0] 96 + (O + A)), fun x _ => l.length - x.1.toNat, ⟨0, [], _, none, 0, _, 0, rfl, by omega, rfl, openP_zero, os0, Sl.nil, s2.to⟩, ?_⟩
  rintro ⟨_, _⟩ h3 ⟨i, now, o, e, ec, O, A, rfl, hin, hnow, op, os, es, s3⟩
  dsimp only
  rw [partialretro_replay_b1_eq]
  have hol := op.len
  obtain ⟨n1, n2, n3⟩ := nowAt_inv hnow
  refine condP (fun hlt => ?_) (fun hge => ?_)
  · refine ev_load (r.ext s3.ext) (by omega) (by omega) ?_
    rw [Int.toNat_natCast]
    refine s3.new (cs := [.int .i64 0, .int .i64 0, .bool false]) fun b3 h4 _ s4 => ?_
    refine s4.wr rfl (by simp) fun h5 s5 => ?_
    refine s5.wr (o := 1) (add_mk _ _ _) (by simp) fun h6 s6 => ?_
    refine s6.wr (o := 2) (add_mk _ _ _) (by simp) fun h7 s7 => ?_
    have s7 : St h h7 (cA b3 [.int .i64 (l.getD i evD).1, .int .i64 (l.getD i evD).2.1, .bool (l.getD i evD).2.2] 106 + (cA b1 [.slice p l.length c, .slice e now.length ec, .slice none 0 0] 96 + (O + A))) := s7
    have k3 := s7.blk
    refine ⟨_, Blk.cellA k3 2, cond_intro (fun hd => ?_) (fun hd => ?_)⟩
    · have s7 := s7.drop
      have kq := s7.blk
      refine ⟨_, _, _, Blk.cellA kq 1, condP (fun h0 => ?_) (fun h0 => ?_)⟩
      · have : now = [] := List.eq_nil_of_length_eq_zero (by omega)
        exact .inl ⟨nowAt_none (i := i + 1) (by omega) (nowAt_del0 (by rw [hnow, this]) hd), rfl, s7.ext⟩
      · obtain ⟨x, xs, rfl⟩ : ∃ x xs, now = x :: xs := by
          cases now with
          | nil => exact absurd rfl h0
          | cons x xs => exact ⟨x, xs, rfl⟩
        have hx := (n3 x List.mem_cons_self).1
        have hnx := nowAt_del1 hnow hd
        have op' := openP_del (by omega) hnow hd op
        refine ⟨_, _, _, Blk.cellA kq 1, ?_⟩
        have s8 := s7.to (B := A + (cA b1 [.slice p l.length c, .slice e (x :: xs).length ec, .slice none 0 0] 96 + O))
        refine (es.rd s8).idx (i := 0) (by omega) (by rw [List.length_cons]; omega) fun a _ hc => ⟨x.2, hc 1 (show 1 < 2 by decide), ?_⟩
        have s9 := s7.to (B := O + (cA b1 [.slice p l.length c, .slice e (x :: xs).length ec, .slice none 0 0] 96 + A))
        refine (os.rd s9).int (by omega) (by omega) ⟨?_, ?_⟩
        · have hm : o.getD x.2.toNat 0 ∈ o := getD_mem (by omega)
          have := op.bnd _ hm
          exact ⟨by omega, by omega⟩
        refine os.wrI (x := o.getD x.2.toNat 0 + 1) s9 (by omega) (by omega) rfl rfl fun h8 O1 os1 s10 => ?_
        refine (os1.rd s10).int (by omega) (by omega) ⟨?_, ?_⟩
        · rw [Int.toNat_natCast]
          have hm : (o.set x.2.toNat (o.getD x.2.toNat 0 + 1)).getD i 0 ∈ o.set x.2.toNat (o.getD x.2.toNat 0 + 1) := getD_mem (by rw [List.length_set]; omega)
          rcases List.mem_or_eq_of_mem_set hm with h | h
          · have := op.bnd _ h; exact ⟨by omega, by omega⟩
          · have hm' : o.getD x.2.toNat 0 ∈ o := getD_mem (by omega)
            have := op.bnd _ hm'
            exact ⟨by omega, by omega⟩
        rw [Int.toNat_natCast]
        refine os1.wrI (x := (o.set x.2.toNat (o.getD x.2.toNat 0 + 1)).getD i 0 - 1) s10 (by omega) (by omega) rfl rfl fun h9 O2 os2 s11 => ?_
        rw [Int.toNat_natCast] at os2
        have s11 := s11.to (B := cA b1 [.slice p l.length c, .slice e (x :: xs).length ec, .slice none 0 0] 96 + (O2 + A))
        refine ⟨_, _, _, Blk.cellA s11.blk 1, ?_⟩
        rw [List.length_cons] at es n2 ⊢
        refine (deleteE_st (i := 0) (j := 1) (s11.to (B := A + (cA b1 [.slice p l.length c, .slice e (x :: xs).length ec, .slice none 0 0] 96 + O2))) es (by omega) rfl (by omega)).mono fun v1 h10 ⟨A', hv1, es', s12⟩ => ⟨_, _, _, hv1, ?_⟩
        have s12 := s12.to (B := cA b1 [.slice p l.length c, .slice e (x :: xs).length ec, .slice none 0 0] 96 + (O2 + A'))
        refine s12.wr (o := 1) (add_mk _ _ _) (by simp) fun h11 s13 => ?_
        have s13 : St h h11 (cA b1 [.slice p l.length c, .slice e (xs.length + 1 - 1) ec, .slice none 0 0] 96 + (O2 + A')) := s13
        rw [Nat.add_sub_cancel] at es' s13
        rw [partialretro_replay_b2_eq]
        exact ⟨⟨by omega, by omega⟩, ⟨i + 1, xs, _, e, ec, O2, A', by simp only; omega, by omega, hnx, op', os2, es', s13⟩, by simp only; omega⟩
    · have hnx := nowAt_ins hnow hd
      have op' := openP_ins (by omega) hnow hd op
      refine ⟨_, Blk.cellA k3 1, ?_⟩
      have s7 := s7.drop
      refine s7.new (cs := [.int .i64 0, .int .i64 0]) fun b4 h8 _ s8 => ?_
      refine s8.wr rfl (by simp) fun h9 s9 => ?_
      refine s9.wr (o := 1) (add_mk _ _ _) (by simp) fun h10 s10 => ?_
      have s10 : St h h10 (cA b4 [.int .i64 (l.getD i evD).2.1, .int .i64 (i : Int)] 101 + (cA b1 [.slice p l.length c, .slice e now.length ec, .slice none 0 0] 96 + (O + A))) := s10
      have kq := s10.atomBlk
      have k4 := s10.blk
      refine ⟨_, _, _, Blk.cellA kq 1, _, _, k4.cell 0, Blk.cellA k4 1, ?_⟩
      have hpl := ins_place (x := ((l.getD i evD).2.1, (i : Int))) n1
      have s10' := s10.to (B := A + (cA b4 [.int .i64 (l.getD i evD).2.1, .int .i64 (i : Int)] 101 + (cA b1 [.slice p l.length c, .slice e now.length ec, .slice none 0 0] 96 + O)))
      refine (bsE_ok (x := ((l.getD i evD).2.1, (i : Int))) (es.rd s10') (by omega) hpl).mono fun v1 h11 ⟨bb, hv1, x11⟩ => ⟨_, _, hv1, ?_⟩
      have s11 := s10.grow x11
      have kq := s11.atomBlk
      have k4 := s11.blk
      refine ⟨_, _, _, Blk.cellA kq 1, _, _, k4.cell 0, Blk.cellA k4 1, ?_⟩
      refine s11.new (cs := [.int .i64 (l.getD i evD).2.1, .int .i64 (i : Int)]) fun b5 h12 x12 s12 => ⟨⟨_, _, _, Blk.cellA (kq.ext x12) 1, rfl⟩, ?_⟩
      have s12 : St h h12 (A + (cA b5 [.int .i64 (l.getD i evD).2.1, .int .i64 (i : Int)] (TL).e + (cA b4 [.int .i64 (l.getD i evD).2.1, .int .i64 (i : Int)] 101 + (cA b1 [.slice p l.length c, .slice e now.length ec, .slice none 0 0] 96 + O)))) := s12.to
      refine (insertE_st (x := ((l.getD i evD).2.1, (i : Int))) s12 es rfl hpl.1 (by omega)).mono fun v2 h13 ⟨e', ec', A', hv2, es', s13⟩ => ⟨_, _, _, hv2, ?_⟩
      have s13 := s13.to (B := cA b1 [.slice p l.length c, .slice e now.length ec, .slice none 0 0] 96 + ((cA b5 [.int .i64 (l.getD i evD).2.1, .int .i64 (i : Int)] (TL).e + cA b4 [.int .i64 (l.getD i evD).2.1, .int .i64 (i : Int)] 101) + (O + A')))
      refine s13.wr (o := 1) (add_mk _ _ _) (by simp) fun h14 s14 => ?_
      have s14 : St h h14 (cA b1 [.slice p l.length c, .slice e' (now.length + 1) ec', .slice none 0 0] 96 + ((cA b5 [.int .i64 (l.getD i evD).2.1, .int .i64 (i : Int)] (TL).e + cA b4 [.int .i64 (l.getD i evD).2.1, .int .i64 (i : Int)] 101) + (O + A'))) := s14
      rw [lowE_take, upE_drop] at es'
      rw [← insE_len (x := ((l.getD i evD).2.1, (i : Int))) (l := now)] at es' s14
      rw [partialretro_replay_b2_eq]
      refine ⟨⟨by omega, by omega⟩, ⟨i + 1, _, _, e', ec', O, A', by simp only; omega, by omega, hnx, op', os, es', ?_⟩, by simp only; omega⟩
      exact (s14.to (B := (cA b5 [.int .i64 (l.getD i evD).2.1, .int .i64 (i : Int)] (TL).e + cA b4 [.int .i64 (l.getD i evD).2.1, .int .i64 (i : Int)] 101) + (cA b1 [.slice p l.length c, .slice e' (insE ((l.getD i evD).2.1, (i : Int)) now).length ec', .slice none 0 0] 96 + (O + A')))).drop
  · obtain rfl : i = l.length := by omega
    exact replay_b3_ok r hn hnow op os es s3
end
end Go.Proofs.YtdlkohenamlnaaaGreat

/- A queue of priorities in the past: its methods. -/
set_option maxRecDepth 100000
namespace Go.Proofs.YtdlkohenamlnaaaGreat
open Go Go.Sx
/-- What a change of a queue leaves: the operations, and an error. -/
def QueueR (h0 : Hp) (G : Bag) (b : Nat) (R : List Ev × Int) (v : Value) (h' : Hp) : Prop := v = .int .i64 R.2 ∧ ∃ A', QueueA b R.1 A' ∧ St h0 h' (A' + G)
theorem newQueue_ok (h : Hp) : HCalls Tryz.prog 13 #[] h (fun v h' => ∃ b A, v = ptr b ∧ QueueA b [] A ∧ St h h' A) := by
  refine partialretro_NewQueue_call ?_
  rw [partialretro_NewQueue_b0_eq]
  refine (St.start h).new (cs := [.slice none 0 0, .slice none 0 0, .slice none 0 0]) fun b1 h1 _ s1 => ?_
  exact ⟨b1, _, rfl, ⟨none, 0, none, 0, none, 0, 0, 0, 0, rfl, Sl.nil, Sl.nil, Sl.nil, rfl⟩, s1.to⟩
section
variable {h0 h : Hp} {b : Nat} {l : List Ev} {A G : Bag} (qa : QueueA b l A)
include qa
theorem QueueA.good : nowAt l l.length = some (nowD l l.length) := by
  obtain ⟨_, _, _, _, _, _, _, _, _, _, _, _, _, hn⟩ := qa; exact hn
theorem change_ok {l' : List Ev} {p : Option Addr} {c : Nat} {B : Bag} (a : Sl TA p l'.length c l' B) (hl : l'.length ≤ 2000) (s : St h0 h (A + (B + G))) :
    HCalls Tryz.prog 67 #[ptr b, .slice p l'.length c] h (QueueR h0 G b (chgP l l')) := by
  refine partialretro_Queue_change_call ?_
  rw [partialretro_Queue_change_b0_eq]
  refine (replay_ok (a.rd (s.at B)) hl).mono fun v h1 hv => ?_
  rcases hv with ⟨hn, hv, x⟩ | ⟨nb, e, ec, r, rc, A2, A3, hv, hn, es, rs, t⟩
  · refine ⟨_, _, hv, condYes rfl ⟨?_, A, ?_, ?_⟩⟩
    · rw [chgP, hn]; rfl
    · rw [chgP, hn]; exact qa
    · exact ((s.grow x).to (B := B + (A + G))).drop
  · refine ⟨_, _, hv, condNo rfl ?_⟩
    obtain ⟨p0, c0, e0, ec0, r0, rc0, C1, C2, C3, rfl, _, _, _, _⟩ := qa
    have s1 := s.join t
    have kn := (s1.at (cA nb [.slice p l'.length c, .slice e (nowD l' l'.length).length ec, .slice r (brS l').length rc] 96)).blk
    refine ⟨_, _, _, _, _, _, _, _, _, kn.cell 0, Blk.cellA kn 1, Blk.cellA kn 2, ?_⟩
    have s1 := s1.to (B := cA b [.slice p0 l.length c0, .slice e0 (nowD l l.length).length ec0, .slice r0 (brS l).length rc0] 96 + ((cA nb [.slice p l'.length c, .slice e (nowD l' l'.length).length ec, .slice r (brS l').length rc] 96 + (C1 + (C2 + C3))) + (B + (A2 + A3) + G)))
    refine s1.wr rfl (by simp) fun h2 s2 => ?_
    refine s2.wr (o := 1) (add_mk _ _ _) (by simp) fun h3 s3 => ?_
    refine s3.wr (o := 2) (add_mk _ _ _) (by simp) fun h4 s4 => ?_
    have s4 : St h0 h4 (cA b [.slice p l'.length c, .slice e (nowD l' l'.length).length ec, .slice r (brS l').length rc] 96 + ((cA nb [.slice p l'.length c, .slice e (nowD l' l'.length).length ec, .slice r (brS l').length rc] 96 + (C1 + (C2 + C3))) + (B + (A2 + A3) + G))) := s4
    have e1 : chgP l l' = (l', 0) := by rw [chgP, hn]; rfl
    rw [e1]
    refine ⟨rfl, _, ⟨p, c, e, ec, r, rc, B, A2, A3, rfl, a, es, rs, hn⟩, ?_⟩
    exact (s4.to (B := (cA nb [.slice p l'.length c, .slice e (nowD l' l'.length).length ec, .slice r (brS l').length rc] 96 + (C1 + (C2 + C3))) + (cA b [.slice p l'.length c, .slice e (nowD l' l'.length).length ec, .slice r (brS l').length rc] 96 + (B + (A2 + A3)) + G))).drop
theorem qfind_ok (ht : TimesP l) (hl : l.length ≤ 2000) (t : Int) (s : St h0 h (A + G)) :
    HCalls Tryz.prog 66 #[ptr b, .int .i64 t] h (fun v h' => v = .tuple #[.int .i64 (lowT t l : Int), .bool (hasT t l)] ∧ Ext h h') := by
  obtain ⟨p0, c0, e0, ec0, r0, rc0, C1, C2, C3, rfl, a1, _, _, _⟩ := qa
  have s1 := s.to (B := cA b [.slice p0 l.length c0, .slice e0 (nowD l l.length).length ec0, .slice r0 (brS l).length rc0] 96 + (C1 + (C2 + C3 + G)))
  refine partialretro_Queue_find_call ?_
  rw [partialretro_Queue_find_b0_eq]
  refine ⟨_, _, _, s1.blk.cell 0, ?_⟩
  refine (bsA_ok (a1.rd (s1.at C1)) (by omega) (lowT_place (t := t) ht)).mono fun v h1 ⟨hv, x⟩ => ⟨_, _, hv, ?_, x⟩
  rfl
theorem acts_cell (s : St h0 h (A + G)) : ∃ p c C1 A', A = C1 + A' ∧ cell h ⟨b, 0, none⟩ = some (.slice p l.length c) ∧ Sl TA p l.length c l C1 := by
  obtain ⟨p0, c0, e0, ec0, r0, rc0, C1, C2, C3, rfl, a1, _, _, _⟩ := qa
  have s1 := s.to (B := cA b [.slice p0 l.length c0, .slice e0 (nowD l l.length).length ec0, .slice r0 (brS l).length rc0] 96 + (C1 + (C2 + C3 + G)))
  exact ⟨p0, c0, C1, cA b [.slice p0 l.length c0, .slice e0 (nowD l l.length).length ec0, .slice r0 (brS l).length rc0] 96 + (C2 + C3), by ac_rfl, s1.blk.cell 0, a1⟩
theorem add_tail {x : Ev} {p : Option Addr} {c nb : Nat} {C : Bag} (hl : l.length < 2000) (a : Sl TA p l.length c l C) (hi : lowT x.1 l ≤ l.length) (s : St h0 h (A + (C + (cA nb [.int .i64 x.1, .int .i64 x.2.1, .bool x.2.2] 106 + G)))) :
    HCalls Tryz.prog 98 #[.slice p l.length c, .int .i64 (lowT x.1 l : Int), .slice (some ⟨nb, 0, none⟩) 1 1] h fun v4 h6 => ∃ (r5 : Option Addr) (rL2 rC2 : Nat), v4 = .slice r5 rL2 rC2 ∧
      HCalls Tryz.prog 67 #[ptr b, .slice r5 rL2 rC2] h6 fun v5 h7 => ∃ r6 : Int, v5 = .int .i64 r6 ∧ QueueR h0 G b (chgP l (putT x l)) (.int .i64 r6) h7 := by
  have s1 : St h0 h (C + (cA nb [.int .i64 x.1, .int .i64 x.2.1, .bool x.2.2] (TA).e + (A + G))) := s.to
  refine (insertA_st (x := x) s1 a rfl hi (by omega)).mono fun v4 h1 ⟨p', c', A', hv4, a', s2⟩ => ⟨_, _, _, hv4, ?_⟩
  have e1 : l.length + 1 = (putT x l).length := putT_len.symm
  rw [e1] at a' ⊢
  have s2 := s2.to (B := cA nb [.int .i64 x.1, .int .i64 x.2.1, .bool x.2.2] (TA).e + (A + (A' + G)))
  exact (change_ok qa a' (by rw [← e1]; omega) s2.drop).mono fun v5 h2 hv => ⟨_, hv.1, rfl, hv.2⟩
theorem qadd_ok (ht : TimesP l) (hl : l.length ≤ 2000) {x : Ev} (s : St h0 h (A + G)) :
    HCalls Tryz.prog 60 #[ptr b, .agg #[.int .i64 x.1, .int .i64 x.2.1, .bool x.2.2]] h (QueueR h0 G b (addP l x)) := by
  refine partialretro_Queue_add_call ?_
  rw [partialretro_Queue_add_b0_eq]
  refine s.new (cs := [.int .i64 x.1, .int .i64 x.2.1, .bool x.2.2]) fun nb h1 _ s1 => ?_
  have k1 := s1.blk
  refine ⟨_, k1.cell 0, (timed_ok _ h1).mono fun v1 h2 ⟨hv1, hh⟩ => ⟨_, hv1, condN (fun hno => ?_) (fun hyes => ?_)⟩⟩
  · subst hh
    rw [addP, if_neg hno]
    exact ⟨rfl, A, qa, s1.drop⟩
  subst hh
  rw [addP, if_pos hyes]
  refine ⟨_, k1.cell 0, (qfind_ok qa ht hl x.1 (s1.at A)).mono fun v2 h3 ⟨hv2, x3⟩ => ⟨_, _, hv2, ?_⟩⟩
  have s3 := s1.grow x3
  refine cond_intro (fun hf => ?_) (fun hf => ?_)
  · rw [if_pos hf]
    exact ⟨rfl, A, qa, s3.drop⟩
  rw [if_neg (by rw [hf]; simp)]
  obtain ⟨p, c, C1, A', rfl, hcell, a1⟩ := acts_cell qa (s3.at A)
  have hp := lowT_place (t := x.1) ht
  refine ⟨_, _, _, hcell, condP (fun hfull => ?_) (fun hfull => ?_)⟩
  · rw [if_pos (by omega)]
    exact ⟨rfl, _, qa, s3.drop⟩
  rw [if_neg (by omega), partialretro_Queue_add_b1_eq]
  have k3 := s3.blk
  have r1 := a1.rd (s3.to (B := C1 + (A' + (cA nb [.int .i64 x.1, .int .i64 x.2.1, .bool x.2.2] 106 + G))))
  refine ⟨_, _, _, hcell, _, _, _, k3.cell 0, Blk.cellA k3 1, Blk.cellA k3 2, ?_, ?_⟩
  · refine (cloneA_st r1 (by omega)).mono fun v3 h4 ⟨q, d, C, hv3, a3, t3⟩ => ⟨_, _, _, hv3, ?_⟩
    have s4 := s3.join t3
    have k4 := (s4.at (cA nb [.int .i64 x.1, .int .i64 x.2.1, .bool x.2.2] 106)).blk
    refine ⟨⟨_, _, _, k4.cell 0, Blk.cellA k4 1, Blk.cellA k4 2, rfl⟩, ?_⟩
    refine s4.new (cs := [.int .i64 x.1, .int .i64 x.2.1, .bool x.2.2]) fun nb2 h5 _ s5 => ?_
    exact add_tail qa (by omega) a3 hp.1 ((s5.to (B := cA nb [.int .i64 x.1, .int .i64 x.2.1, .bool x.2.2] 106 + (C1 + A' + (C + (cA nb2 [.int .i64 x.1, .int .i64 x.2.1, .bool x.2.2] 106 + G))))).drop)
  · refine s3.new (cs := [.int .i64 x.1, .int .i64 x.2.1, .bool x.2.2]) fun nb2 h5 x5 s5 => ⟨⟨_, _, _, x5.cell hcell, rfl⟩, ?_⟩
    refine (cloneA_st (r1.ext x5) (by omega)).mono fun v3 h4 ⟨q, d, C, hv3, a3, t3⟩ => ⟨_, _, _, hv3, ?_⟩
    have s4 := s5.join t3
    exact add_tail qa (by omega) a3 hp.1 ((s4.to (B := cA nb [.int .i64 x.1, .int .i64 x.2.1, .bool x.2.2] 106 + (C1 + A' + (C + (cA nb2 [.int .i64 x.1, .int .i64 x.2.1, .bool x.2.2] 106 + G))))).drop)
theorem qinsert_ok (ht : TimesP l) (hl : l.length ≤ 2000) {t k : Int} (s : St h0 h (A + G)) :
    HCalls Tryz.prog 20 #[ptr b, .int .i64 t, .int .i64 k] h (QueueR h0 G b (insP l t k)) := by
  refine partialretro_Queue_Insert_call ?_
  rw [partialretro_Queue_Insert_b0_eq]
  refine condNo rfl (condP (fun h1 => ?_) (fun h1 => condP (fun h2 => ?_) (fun h2 => ?_)))
  · rw [insP, if_neg (fun h => by have := h.1; omega)]; exact ⟨rfl, A, qa, s⟩
  · rw [insP, if_neg (fun h => by have := h.2; omega)]; exact ⟨rfl, A, qa, s⟩
  · rw [insP, if_pos ⟨by omega, by omega⟩, partialretro_Queue_Insert_b1_eq]
    exact (qadd_ok qa ht hl (x := (t, k, false)) s).mono fun v h3 hv => ⟨_, hv.1, rfl, hv.2⟩
theorem qdelete_ok (ht : TimesP l) (hl : l.length ≤ 2000) {t : Int} (s : St h0 h (A + G)) :
    HCalls Tryz.prog 25 #[ptr b, .int .i64 t] h (QueueR h0 G b (delP l t)) := by
  refine partialretro_Queue_DeleteMin_call ?_
  rw [partialretro_Queue_DeleteMin_b0_eq]
  exact condNo rfl ((qadd_ok qa ht hl (x := (t, 0, true)) s).mono fun v h3 hv => ⟨_, hv.1, rfl, hv.2⟩)
theorem qkeys_ok (hl : l.length ≤ 2000) (s : St h0 h (A + G)) : HCalls Tryz.prog 16 #[ptr b] h (fun v h' => ∃ q d B, v = .slice q (nowD l l.length).length d ∧ Sl TI q (nowD l l.length).length d ((nowD l l.length).map Prod.fst) B ∧ St h h' B) := by
  have hlen := (nowAt_inv qa.good).2.1
  obtain ⟨p0, c0, e0, ec0, r0, rc0, C1, C2, C3, rfl, _, a2, _, _⟩ := qa
  have s1 := s.to (B := cA b [.slice p0 l.length c0, .slice e0 (nowD l l.length).length ec0, .slice r0 (brS l).length rc0] 96 + (C2 + (C1 + C3 + G)))
  have r2 := a2.rd (s1.at C2)
  have kb := s1.blk
  generalize nowD l l.length = now at r2 kb hlen
  refine partialretro_Queue_Keys_call ?_
  rw [partialretro_Queue_Keys_b0_eq]
  refine condNo rfl ⟨_, _, _, Blk.cellA kb 1, ?_⟩
  refine ⟨fun x h' => ∃ (i : Nat) (B : Bag), x.2.1 = i ∧ i ≤ now.length ∧ x.1.2.1 = i ∧ Sl TI x.1.1 i x.1.2.2 ((now.take i).map Prod.fst) B ∧ St h h' B, fun x _ => now.length - x.2.1.toNat, ⟨0, 0, rfl, by omega, rfl, Sl.nil, St.start h⟩, ?_⟩
  rintro ⟨⟨q, qn, d⟩, _, _⟩ h2 ⟨i, B, rfl, hin, hqn, o, t2⟩
  dsimp only at hqn o ⊢
  have hqn := hqn.symm
  subst hqn
  rw [partialretro_Queue_Keys_b1_eq]
  refine condP (fun hlt => ?_) (fun hge => ?_)
  · refine el_load (r2.ext t2.ext) (by omega) (by omega) ?_
    rw [Int.toNat_natCast]
    refine t2.new (cs := [.int .i64 0, .int .i64 0]) fun b3 h3 _ s3 => ?_
    refine s3.wr rfl (by simp) fun h4 s4 => ?_
    refine s4.wr (o := 1) (add_mk _ _ _) (by simp) fun h5 s5 => ?_
    refine ⟨_, s5.blk.cell 0, ?_⟩
    have s5 := s5.drop
    refine s5.new (cs := [.int .i64 (now.getD i (0, 0)).1]) fun b4 h6 _ s6 => ?_
    have sx : Sl TI (some ⟨b4, 0, none⟩) 1 1 [(now.getD i (0, 0)).1] (cA b4 [.int .i64 (now.getD i (0, 0)).1] 3) := Sl.of_blk (T := TI) (xs := [(now.getD i (0, 0)).1]) rfl rfl
    refine append_sl ok_int (s6.to (B := B + (cA b4 [.int .i64 (now.getD i (0, 0)).1] 3 + 0))) o (sx.rd (s6.to (B := cA b4 [.int .i64 (now.getD i (0, 0)).1] 3 + B))) (by omega) fun q' d' h7 B' o' s7 => ?_
    rw [partialretro_Queue_Keys_b2_eq]
    refine ⟨⟨by omega, by omega⟩, ⟨i + 1, B', by simp only; omega, by omega, rfl, ?_, (s7.to (B := cA b4 [.int .i64 (now.getD i (0, 0)).1] 3 + B')).drop⟩, by simp only; omega⟩
    have e1 : now.take (i + 1) = now.take i ++ [now.getD i (0, 0)] := by rw [getD_get (by omega)]; exact List.take_succ_eq_append_getElem (by omega)
    rw [e1, List.map_append]
    exact o'
  · obtain rfl : i = now.length := by omega
    rw [List.take_of_length_le (Nat.le_refl _)] at o
    rw [partialretro_Queue_Keys_b3_eq]
    exact ⟨_, _, B, rfl, o, t2⟩
theorem qtimes_ok (hl : l.length ≤ 2000) (s : St h0 h (A + G)) : HCalls Tryz.prog 27 #[ptr b] h (fun v h' => ∃ q d B, v = .slice q l.length d ∧ Sl TI q l.length d (l.map Prod.fst) B ∧ St h h' B) := by
  obtain ⟨p0, c0, C1, A', rfl, hcell, a1⟩ := acts_cell qa s
  have r2 := a1.rd (s.to (B := C1 + (A' + G)))
  refine partialretro_Queue_Times_call ?_
  rw [partialretro_Queue_Times_b0_eq]
  refine condNo rfl ⟨_, _, _, hcell, ?_⟩
  refine ⟨fun x h' => ∃ (i : Nat) (B : Bag), x.2.1 = i ∧ i ≤ l.length ∧ x.1.2.1 = i ∧ Sl TI x.1.1 i x.1.2.2 ((l.take i).map Prod.fst) B ∧ St h h' B, fun x _ => l.length - x.2.1.toNat, ⟨0, 0, rfl, by omega, rfl, Sl.nil, St.start h⟩, ?_⟩
  rintro ⟨⟨q, qn, d⟩, _, _⟩ h2 ⟨i, B, rfl, hin, hqn, o, t2⟩
  dsimp only at hqn o ⊢
  have hqn := hqn.symm
  subst hqn
  rw [partialretro_Queue_Times_b1_eq]
  refine condP (fun hlt => ?_) (fun hge => ?_)
  · refine ev_load (r2.ext t2.ext) (by omega) (by omega) ?_
    rw [Int.toNat_natCast]
    refine t2.new (cs := [.int .i64 0, .int .i64 0, .bool false]) fun b3 h3 _ s3 => ?_
    refine s3.wr rfl (by simp) fun h4 s4 => ?_
    refine s4.wr (o := 1) (add_mk _ _ _) (by simp) fun h5 s5 => ?_
    refine s5.wr (o := 2) (add_mk _ _ _) (by simp) fun h5 s5 => ?_
    refine ⟨_, s5.blk.cell 0, ?_⟩
    have s5 := s5.drop
    refine s5.new (cs := [.int .i64 (l.getD i evD).1]) fun b4 h6 _ s6 => ?_
    have sx : Sl TI (some ⟨b4, 0, none⟩) 1 1 [(l.getD i evD).1] (cA b4 [.int .i64 (l.getD i evD).1] 3) := Sl.of_blk (T := TI) (xs := [(l.getD i evD).1]) rfl rfl
    refine append_sl ok_int (s6.to (B := B + (cA b4 [.int .i64 (l.getD i evD).1] 3 + 0))) o (sx.rd (s6.to (B := cA b4 [.int .i64 (l.getD i evD).1] 3 + B))) (by omega) fun q' d' h7 B' o' s7 => ?_
    rw [partialretro_Queue_Times_b2_eq]
    refine ⟨⟨by omega, by omega⟩, ⟨i + 1, B', by simp only; omega, by omega, rfl, ?_, (s7.to (B := cA b4 [.int .i64 (l.getD i evD).1] 3 + B')).drop⟩, by simp only; omega⟩
    have e1 : l.take (i + 1) = l.take i ++ [l.getD i evD] := by rw [getD_get (by omega)]; exact List.take_succ_eq_append_getElem (by omega)
    rw [e1, List.map_append]
    exact o'
  · obtain rfl : i = l.length := by omega
    rw [List.take_of_length_le (Nat.le_refl _)] at o
    rw [partialretro_Queue_Times_b3_eq]
    exact ⟨_, _, B, rfl, o, t2⟩
theorem qbridges_ok (hl : l.length ≤ 2000) (s : St h0 h (A + G)) : HCalls Tryz.prog 17 #[ptr b] h (fun v h' => ∃ q d B, v = .slice q (brS l).length d ∧ Sl TI q (brS l).length d (brS l) B ∧ St h h' B) := by
  obtain ⟨p0, c0, e0, ec0, r0, rc0, C1, C2, C3, rfl, _, _, a3, _⟩ := qa
  have s1 := s.to (B := cA b [.slice p0 l.length c0, .slice e0 (nowD l l.length).length ec0, .slice r0 (brS l).length rc0] 96 + (C3 + (C1 + C2 + G)))
  have hbl := brP_len (l := l) (i := l.length)
  refine partialretro_Queue_Bridges_call ?_
  rw [partialretro_Queue_Bridges_b0_eq]
  refine condNo rfl ⟨_, _, _, Blk.cellA s1.blk 2, ?_⟩
  have : (brS l).length ≤ l.length := hbl
  exact (cloneI_st (a3.rd (s1.at C3)) (by omega)).mono fun v h1 ⟨q, d, B, hv, o, t⟩ => ⟨_, _, _, hv, q, d, B, rfl, o, t⟩
end
end Go.Proofs.YtdlkohenamlnaaaGreat

/- Steps on states: a write into the second block; a list with one more element, built of three appends. -/
namespace Go.Sx
open Go
variable {α : Type} {T : Ty α} {P : Program} {t : TypeId}
end Go.Sx

/- The reference's queue: finding, adding, removing, the least, what is in it. -/
set_option maxRecDepth 100000
namespace Go.Proofs.YtdlkohenamlnaaaGreat
open Go Go.Sx
abbrev TV : Ty Ev := tEv 41
section
variable {h : Hp} {p : Option Addr} {n c : Nat} {l : List Ev} (r : RdT TV h p n l) (ht : TimesP l) (hn : n ≤ 2000)
include r ht hn
end
end Go.Proofs.YtdlkohenamlnaaaGreat

/- The reference's queue: what is in it, changes, keys, bridges. -/
set_option maxRecDepth 100000
namespace Go.Proofs.YtdlkohenamlnaaaGreat
open Go Go.Sx
section
variable {h0 h : Hp} {p : Option Addr} {c : Nat} {l : List Ev} {M G : Bag} (a : Sl TV p l.length c l M) (g : GoodQ l)
include a g
end
end Go.Proofs.YtdlkohenamlnaaaGreat

/- The reference's queue: keys, bridges. -/
set_option maxRecDepth 100000
namespace Go.Proofs.YtdlkohenamlnaaaGreat
open Go Go.Sx
end Go.Proofs.YtdlkohenamlnaaaGreat

/- slices.Clone, Insert of one element, Delete of one element. -/
set_option maxRecDepth 100000
namespace Go.Proofs.YtdlkohenamlnaaaGreat
open Go Go.Sx
theorem ok_ops : ElOk (tO) Tryz.prog 113 := elB_spec (by kernel_rfl)
theorem cloneO_st {h : Hp} {p : Option Addr} {n c : Nat} {xs : List OpT} (r : RdT (tO) h p n xs) (hn : n < 1000000) :
    HCalls Tryz.prog 86 #[.slice p n c] h (fun v h' => ∃ q d A, v = .slice q n d ∧ Sl (tO) q n d xs A ∧ St h h' A) := by
  refine slices_Clone_Sapi_Op_api_Op_call ?_
  rw [slices_Clone_Sapi_Op_api_Op_b0_eq]
  refine cond_intro (fun h1 => ?_) (fun h1 => ?_)
  · have hp : p = none := by cases p with | none => rfl | some a => cases h1
    subst hp
    obtain rfl : n = 0 := by
      rcases r.2 with h2 | ⟨a, h2, _⟩
      · exact h2
      · cases h2
    have : xs = [] := List.eq_nil_of_length_eq_zero r.1
    subst this
    exact ⟨_, _, 0, rfl, Sl.nil, St.start h⟩
  · refine (St.start h).new (cs := []) fun b h1 x s1 => ?_
    have o : Sl (tO) (some ⟨b, 0, none⟩) 0 0 [] (cA b [] (tO).e) := Sl.of_blk rfl rfl
    refine append_sl ok_ops s1 o (r.ext x) (by omega) fun p' c' h' A' a' s' => ?_
    rw [List.nil_append, Nat.zero_add] at a'
    rw [Nat.zero_add]
    exact ⟨_, _, A', rfl, a', s'.to⟩
theorem insertO_st {h0 h : Hp} {p : Option Addr} {n c i bv : Nat} {xs : List OpT} {x : OpT} {cs : List Value} {A F : Bag} (s : St h0 h (A + (cA bv cs (tO).e + F))) (a : Sl (tO) p n c xs A)
    (hcs : cs = (tO).enc x) (hi : i ≤ n) (hn : n < 1000000) :
    HCalls Tryz.prog 85 #[.slice p n c, .int .i64 (i : Int), .slice (some ⟨bv, 0, none⟩) 1 1] h (fun v h' => ∃ p' c' A', v = .slice p' (n + 1) c' ∧ Sl (tO) p' (n + 1) c' (xs.take i ++ x :: xs.drop i) A' ∧ St h0 h' (A' + (cA bv cs (tO).e + F))) := by
  have hcap := a.cap
  have hlen := a.len
  have one : Sl (tO) (some ⟨bv, 0, none⟩) 1 1 [x] (cA bv cs (tO).e) := Sl.one hcs
  have rv : RdT (tO) h (some ⟨bv, 0, none⟩) 1 [x] := one.rd (s.to (B := cA bv cs (tO).e + (A + F)))
  refine slices_Insert_Sapi_Op_api_Op_call ?_
  rw [slices_Insert_Sapi_Op_api_Op_b0_eq]
  refine ⟨⟨by omega, by omega, by omega⟩, condNo (by decide) ?_⟩
  have e1 : Int.toNat (i : Int) = i := Int.toNat_natCast i
  have e0 : Int.toNat (0 : Int) = 0 := rfl
  refine condP (fun h1 => ?_) (fun h1 => ?_)
  · have : i = n := by omega
    subst this
    refine append_sl ok_ops s a rv (by omega) fun p' c' h' A' a' s' => ?_
    refine ⟨p', c', A', rfl, ?_, s'⟩
    rw [List.take_of_length_le (by omega), List.drop_eq_nil_of_le (by omega)]
    exact a'
  have hin : i < n := by omega
  have hti : ((tO).cells (xs.take i)).length = i * (tO).sz := by rw [(tO).cells_len, List.length_take]; congr 1; omega
  refine ⟨⟨by omega, by omega⟩, condP (fun h2 => ?_) (fun h2 => ?_)⟩
  · -- a new block
    have hcn : c < n + 1 := by omega
    refine ⟨⟨by omega, by omega, by omega⟩, ⟨by omega, by omega⟩, ⟨by omega, by omega⟩, ?_⟩
    rw [e0, e1, subAddr_z, Nat.sub_zero, Nat.sub_zero]
    have rt : RdT (tO) h p i (xs.take i) := (a.rd s).take (by omega)
    have el : (((n : Int) + ((1 : Nat) : Int)) - (i : Int)).toNat = n + 1 - i := by omega
    refine append_make_st ok_ops (by kernel_rfl) (by kernel_rfl) s rt (by omega) (by omega) (by omega) fun b c' h' mid rest hc' hm hr s1 => ?_
    rw [el] at hm hr hc' ⊢
    have hl2 : i + (n + 1 - i) = n + 1 := by omega
    rw [hl2] at hr hc' ⊢
    refine ⟨⟨by omega, by omega, by omega⟩, ?_⟩
    have e2 : Int.toNat (((n + 1 : Nat) : Nat) : Int) = n + 1 := Int.toNat_natCast _
    have e3 : Int.toNat ((i : Int) + ((1 : Nat) : Int)) = i + 1 := by omega
    have e4 : Int.toNat (n : Int) = n := Int.toNat_natCast _
    rw [e2, e3, e4]
    have es1 : subAddr (some ⟨b, 0, none⟩) c' i (tO).sz = some ⟨b, i * (tO).sz, none⟩ := by rw [subAddr_in' (by omega), Nat.zero_add]
    have es2 : subAddr (some ⟨b, 0, none⟩) c' (i + 1) (tO).sz = some ⟨b, (i + 1) * (tO).sz, none⟩ := by rw [subAddr_in' (by omega), Nat.zero_add]
    rw [show subAddr (some ⟨b, 0, none⟩) c' i 2 = some ⟨b, i * (tO).sz, none⟩ from es1, show subAddr (some ⟨b, 0, none⟩) c' (i + 1) 2 = some ⟨b, (i + 1) * (tO).sz, none⟩ from es2]
    have hm1 : mid.length = (tO).sz + (n - i) * (tO).sz := by rw [hm, show n + 1 - i = 1 + (n - i) by omega, Nat.add_mul, Nat.one_mul]
    have em : mid = mid.take (tO).sz ++ mid.drop (tO).sz := (List.take_append_drop _ _).symm
    have s2 : St h0 h' (cA b ((tO).cells (xs.take i) ++ mid.take (tO).sz ++ (mid.drop (tO).sz ++ rest)) (tO).e + (A + (cA bv cs (tO).e + F))) := by
      have e : (tO).cells (xs.take i) ++ mid.take (tO).sz ++ (mid.drop (tO).sz ++ rest) = (tO).cells (xs.take i) ++ mid ++ rest := by
        conv => rhs; rw [em]
        simp only [List.append_assoc]
      rw [e]; exact s1
    have rv2 : RdT (tO) h' (some ⟨bv, 0, none⟩) 1 [x] := one.rd (s2.to (B := cA bv cs (tO).e + (cA b _ _ + (A + F))))
    refine copy_st (j := 1) ok_ops s2 rv2 hti (by omega) (by rw [List.length_take]; omega) fun v1 h3 s3 => ?_
    refine ⟨⟨by omega, by omega⟩, ⟨by omega, by omega, by omega⟩, ⟨by omega, by omega, by omega⟩, ?_⟩
    rw [(tO).cells_one] at s3
    have s4 : St h0 h3 (cA b (((tO).cells (xs.take i) ++ (tO).enc x) ++ mid.drop (tO).sz ++ rest) (tO).e + (A + (cA bv cs (tO).e + F))) := by
      have e : ((tO).cells (xs.take i) ++ (tO).enc x) ++ mid.drop (tO).sz ++ rest = (tO).cells (xs.take i) ++ (tO).enc x ++ (mid.drop (tO).sz ++ rest) := by simp only [List.append_assoc]
      rw [e]; exact s3
    have ra : RdT (tO) h3 p n xs := a.rd (s4.to (B := A + (cA b _ _ + (cA bv cs (tO).e + F))))
    have rs := ra.sub hi hcap rfl
    refine copy_st (j := n - i) ok_ops s4 rs (by rw [List.length_append, hti, (tO).len, Nat.add_mul, Nat.one_mul]) (by omega) (by rw [List.length_drop, hm1, Nat.add_sub_cancel_left]) fun v2 h4 s5 => ?_
    refine ⟨_, _, _, rfl, ⟨by simp; omega, .inr ⟨b, rest, rfl, hc', hr, rfl⟩⟩, ?_⟩
    rw [(tO).cells_append, (tO).cells_cons]
    have e : (tO).cells (xs.take i) ++ ((tO).enc x ++ (tO).cells (xs.drop i)) ++ rest = (tO).cells (xs.take i) ++ (tO).enc x ++ (tO).cells (xs.drop i) ++ rest := by simp only [List.append_assoc]
    rw [e]
    exact (s5.to (B := A + (cA b _ _ + (cA bv cs (tO).e + F)))).drop
  · -- in place
    have hcn : n + 1 ≤ c := by omega
    rcases a with ⟨hl, ⟨rfl, h3, _, _⟩ | ⟨b, rest, rfl, hc, hr, rfl⟩⟩
    · omega
    have a : Sl (tO) (some ⟨b, 0, none⟩) n c xs (cA b ((tO).cells xs ++ rest) (tO).e) := ⟨hl, .inr ⟨b, rest, rfl, hc, hr, rfl⟩⟩
    have e3 : Int.toNat ((i : Int) + ((1 : Nat) : Int)) = i + 1 := by omega
    have e4 : Int.toNat (n : Int) = n := Int.toNat_natCast _
    have e5 : Int.toNat ((n : Int) + ((1 : Nat) : Int)) = n + 1 := by omega
    have e6 : Int.toNat (((n + 1 : Nat) : Nat) : Int) = n + 1 := Int.toNat_natCast _
    simp only [e0, e1, e3, e4, e5, e6, subAddr_z, Nat.sub_zero]
    refine ⟨⟨by omega, by omega⟩, ⟨by omega, by omega, by omega⟩, ⟨by omega, by omega⟩, ⟨by omega, by omega, by omega⟩, ?_⟩
    have es1 : subAddr (some ⟨b, 0, none⟩) c (i + 1) (tO).sz = some ⟨b, (i + 1) * (tO).sz, none⟩ := by rw [subAddr_in' (by omega), Nat.zero_add]
    rw [show subAddr (some ⟨b, 0, none⟩) c (i + 1) 2 = some ⟨b, (i + 1) * (tO).sz, none⟩ from es1]
    obtain ⟨i0, z, hi0, hz, hzs, hzc, hbt⟩ := (ok_ops).info
    have hrl : (tO).sz ≤ rest.length := by rw [hr]; calc (tO).sz = 1 * (tO).sz := (Nat.one_mul _).symm
                                              _ ≤ (c - n) * (tO).sz := Nat.mul_le_mul_right _ (by omega)
    have er : rest = rest.take (tO).sz ++ rest.drop (tO).sz := (List.take_append_drop _ _).symm
    refine overlaps_st ovl_op (t := 113) (e := 25) (by kernel_rfl) (by kernel_rfl) hi0 (s.to (B := cA bv cs (tO).e + (cA b _ _ + F))) ⟨_, rfl, ?_⟩
    refine ⟨⟨by omega, by omega⟩, ⟨by omega, by omega, by omega⟩, ⟨by omega, by omega, by omega⟩, ?_⟩
    -- the elements from i on move by one
    have hdl : ((tO).cells (xs.drop i)).length = (n - i) * (tO).sz := by rw [(tO).cells_len, List.length_drop, hl]
    have hd1l : ((tO).cells (xs.drop (i + 1))).length = (n - (i + 1)) * (tO).sz := by rw [(tO).cells_len, List.length_drop, hl]
    have ht1 : ((tO).cells (xs.take (i + 1))).length = (i + 1) * (tO).sz := by rw [(tO).cells_len, List.length_take]; congr 1; omega
    have s1 : St h0 h (cA b ((tO).cells (xs.take (i + 1)) ++ ((tO).cells (xs.drop (i + 1)) ++ rest.take (tO).sz) ++ rest.drop (tO).sz) (tO).e + (cA bv cs (tO).e + F)) := by
      have e : (tO).cells (xs.take (i + 1)) ++ ((tO).cells (xs.drop (i + 1)) ++ rest.take (tO).sz) ++ rest.drop (tO).sz = (tO).cells xs ++ rest := by
        rw [List.append_assoc, List.append_assoc, ← er, ← List.append_assoc, ← (tO).cells_append, List.take_append_drop]
      rw [e]; exact s
    have rx : RdT (tO) h (some ⟨b, 0, none⟩) n xs := a.rd s
    have rs : RdT (tO) h (subAddr (some ⟨b, 0, none⟩) c i (tO).sz) (n - i) (xs.drop i) := rx.sub hi hcap rfl
    refine copy_st (j := n - i) ok_ops s1 rs ht1 (by omega) (by rw [List.length_append, hd1l, List.length_take, Nat.min_eq_left hrl, show n - i = (n - (i + 1)) + 1 by omega, Nat.add_mul, Nat.one_mul]) fun v4 h5 s5 => ?_
    refine ⟨⟨by omega, by omega, by omega⟩, ?_⟩
    have es2 : subAddr (some ⟨b, 0, none⟩) c i (tO).sz = some ⟨b, i * (tO).sz, none⟩ := by rw [subAddr_in' (by omega), Nat.zero_add]
    rw [show subAddr (some ⟨b, 0, none⟩) c i 2 = some ⟨b, i * (tO).sz, none⟩ from es2]
    have s6 : St h0 h5 (cA b ((tO).cells (xs.take i) ++ (tO).enc xs[i] ++ ((tO).cells (xs.drop i) ++ rest.drop (tO).sz)) (tO).e + (cA bv cs (tO).e + F)) := by
      have e : (tO).cells (xs.take i) ++ (tO).enc xs[i] ++ ((tO).cells (xs.drop i) ++ rest.drop (tO).sz) = (tO).cells (xs.take (i + 1)) ++ (tO).cells (xs.drop i) ++ rest.drop (tO).sz := by
        rw [List.take_succ_eq_append_getElem (by omega), (tO).cells_append, (tO).cells_one]; simp only [List.append_assoc]
      rw [e]; exact s5
    have rv5 : RdT (tO) h5 (some ⟨bv, 0, none⟩) 1 [x] := one.rd (s6.to (B := cA bv cs (tO).e + (cA b _ _ + F)))
    refine copy_st (j := 1) ok_ops s6 rv5 hti (by omega) (by rw [(tO).len, Nat.one_mul]) fun v5 h6 s7 => ?_
    refine ⟨_, _, _, rfl, ⟨by simp; omega, .inr ⟨b, rest.drop (tO).sz, rfl, hcn, ?_, rfl⟩⟩, ?_⟩
    · rw [List.length_drop, hr, show c - n = (c - (n + 1)) + 1 by omega, Nat.add_mul, Nat.one_mul]; omega
    · rw [(tO).cells_one] at s7
      rw [(tO).cells_append, (tO).cells_cons]
      have e : (tO).cells (xs.take i) ++ ((tO).enc x ++ (tO).cells (xs.drop i)) ++ rest.drop (tO).sz = (tO).cells (xs.take i) ++ (tO).enc x ++ ((tO).cells (xs.drop i) ++ rest.drop (tO).sz) := by simp only [List.append_assoc]
      rw [e]
      exact s7
end Go.Proofs.YtdlkohenamlnaaaGreat

/- A log in the past: changes, adding. -/
set_option maxRecDepth 100000
namespace Go.Proofs.YtdlkohenamlnaaaGreat
open Go Go.Sx
/-- An operation's head, and what it is. -/
def PO (x : OpT) (y : OpL) (A : Bag) : Prop := x.1 = y.1 ∧ Sl TI x.2.1 x.2.2.1 x.2.2.2 y.2 A
theorem opsR_of {h0 h : Hp} {p : Option Addr} {n c : Nat} {hs : List OpT} {ops : List OpL} {B0 B1 F : Bag} (a : Sl tO p n c hs B0) (al : AllH PO hs ops B1) (s : St h0 h (B0 + (B1 + F))) : OpsR h p n ops := by
  have hl := a.len
  have hl2 := al.len
  refine ⟨hs, a.rd s, by omega, fun i hi => ?_⟩
  obtain ⟨Ai, B, rfl, hp⟩ := al.pick (d := (0, [])) (d' := tO.d) (i := i) (by omega)
  exact ⟨hp.1, hp.2.cap, hp.2.rd (s.to (B := Ai + (B0 + (B + F))))⟩
/-- The first failure among results: its time, and its error; zeroes, if there is none. -/
def bad : List ResL → List Int → Int × Int
  | r :: rs, t :: ts => if r.1 = 0 then bad rs ts else (t, r.1)
  | _, _ => (0, 0)
theorem bad_at : ∀ {rs : List ResL} {ts : List Int} {i : Nat}, rs.length = ts.length → i < rs.length → (∀ j, j < i → (rs.getD j (0, 0)).1 = 0) → (rs.getD i (0, 0)).1 ≠ 0 → bad rs ts = (ts.getD i 0, (rs.getD i (0, 0)).1)
  | [], _, _, _, hi, _, _ => by simp at hi
  | _ :: _, [], _, hl, _, _, _ => by simp at hl
  | r :: rs, t :: ts, 0, _, _, _, h => by
    have h : r.1 ≠ 0 := h
    rw [bad, if_neg h]; rfl
  | r :: rs, t :: ts, i + 1, hl, hi, ha, h => by
    have h0 : r.1 = 0 := ha 0 (by omega)
    rw [bad, if_pos h0, bad_at (by simpa using hl) (by simpa using hi) (fun j hj => by simpa using ha (j + 1) (by omega)) (by simpa using h)]
    rfl
theorem bad_none : ∀ {rs : List ResL} {ts : List Int}, rs.length = ts.length → (∀ j, j < rs.length → (rs.getD j (0, 0)).1 = 0) → bad rs ts = (0, 0)
  | [], [], _, _ => rfl
  | [], _ :: _, hl, _ => by simp at hl
  | _ :: _, [], hl, _ => by simp at hl
  | r :: rs, t :: ts, hl, ha => by
    have h0 : r.1 = 0 := ha 0 (by simp)
    rw [bad, if_pos h0]
    exact bad_none (by simpa using hl) (fun j hj => by simpa using ha (j + 1) (by simpa using hj))
/-- A log: its times, its operations, its rows, the first failure. -/
structure LogS where
  ts : List Int
  ops : List OpL
  rows : List (List Int)
  fl : Int
  wy : Int
abbrev logC (gb : Nat) (k : Int) (t o w : SH) (fl wy : Int) : Bag := cA gb [.int .i64 k, .slice t.1 t.2.1 t.2.2, .slice o.1 o.2.1 o.2.2, .int .i64 k, .slice w.1 w.2.1 w.2.2, .int .i64 fl, .int .i64 wy] 115
def LogA (k : Int) (gb : Nat) (L : LogS) (A : Bag) : Prop :=
  ∃ (t o w : SH) (hs : List OpT) (T B0 B1 R : Bag), A = logC gb k t o w L.fl L.wy + (T + (B0 + (B1 + R))) ∧ Sl TI t.1 t.2.1 t.2.2 L.ts T ∧ Sl tO o.1 o.2.1 o.2.2 hs B0 ∧ AllH PO hs L.ops B1 ∧ RowsA w L.rows R ∧ L.ts.length = L.ops.length
/-- What a run of operations leaves. -/
def RunK (k : Int) (runF : List OpL → List (List Int) × List ResL) (h : Hp) (ops : List OpL) (v : Value) (h' : Hp) : Prop :=
  ∃ q m d o od B C, v = .tuple #[.agg #[.int .i64 k, .slice q m d], .slice o ops.length od, .int .i64 0] ∧ RowsA (q, m, d) (runF ops).1 B ∧ Sl tRes o ops.length od (runF ops).2 C ∧ St h h' (B + (C + 0))
/-- A kind's run is known. -/
def RunOk (k : Int) (runF : List OpL → List (List Int) × List ResL) : Prop :=
  ∀ {h : Hp} {p : Option Addr} {n c : Nat} {ops : List OpL}, OpsR h p n ops → n ≤ 1000 → AllV k ops → HCalls Tryz.prog 121 #[.agg #[.int .i64 k, .slice none 0 0], .slice p n c] h (RunK k runF h ops)
theorem runOk1 : RunOk 1 (fun ops => ((runS ops).1.map row2, (runS ops).2)) := fun r hn hv => run_ok r hn hv
theorem newLog_ok {k : Int} (hk : 1 ≤ k ∧ k ≤ 6) (h : Hp) : HCalls Tryz.prog 34 #[.int .i64 k] h (fun v h' => ∃ gb A, v = .tuple #[ptr gb, .int .i64 0] ∧ LogA k gb ⟨[], [], [], 0, 0⟩ A ∧ St h h' A) := by
  refine partialretro_NewLog_call ?_
  rw [partialretro_NewLog_b0_eq]
  refine (mnew_ok hk h).mono fun v h1 ⟨hv, x1⟩ => ⟨_, _, _, _, _, hv, ?_⟩
  have s1 := (St.start h).grow x1
  refine s1.new (cs := [.int .i64 0, .slice none 0 0]) fun b1 h2 _ s2 => ?_
  refine s2.wr rfl (by simp) fun h3 s3 => ?_
  refine s3.wr (o := 1) (add_mk _ _ _) (by simp) fun h4 s4 => condNo rfl ?_
  refine ⟨_, _, _, _, s4.blk.cell 0, Blk.cellA s4.blk 1, ?_⟩
  refine s4.drop.new (cs := [.int .i64 k, .slice none 0 0, .slice none 0 0, .int .i64 k, .slice none 0 0, .int .i64 0, .int .i64 0]) fun b2 h5 _ s5 => ?_
  exact ⟨b2, _, rfl, ⟨(none, 0, 0), (none, 0, 0), (none, 0, 0), [], 0, 0, 0, 0, rfl, Sl.nil, Sl.nil, rfl, Nest.nil, rfl⟩, s5.to⟩
/-- What a change of a log leaves. -/
def LogR (h0 : Hp) (G : Bag) (k : Int) (gb : Nat) (R : LogS × Int) (v : Value) (h' : Hp) : Prop := v = .int .i64 R.2 ∧ ∃ A', LogA k gb R.1 A' ∧ St h0 h' (A' + G)
/-- A change, in plain lists. -/
def chgL (runF : List OpL → List (List Int) × List ResL) (L : LogS) (ts : List Int) (ops : List OpL) : LogS × Int :=
  if (bad (runF ops).2 ts).2 = 0 then (⟨ts, ops, (runF ops).1, L.fl, L.wy⟩, 0) else (⟨L.ts, L.ops, L.rows, (bad (runF ops).2 ts).1, (bad (runF ops).2 ts).2⟩, 13)
section
variable {h0 h : Hp} {k : Int} {gb : Nat} {L : LogS} {runF : List OpL → List (List Int) × List ResL} {t o w : SH} {hs : List OpT} {T B0 B1 R G : Bag}
theorem lchange_ok (hk : 1 ≤ k ∧ k ≤ 6) (hR : RunOk k runF) (a1 : Sl TI t.1 t.2.1 t.2.2 L.ts T) (a2 : Sl tO o.1 o.2.1 o.2.2 hs B0) (a3 : AllH PO hs L.ops B1) (a4 : RowsA w L.rows R) (hle : L.ts.length = L.ops.length)
    {tp op : Option Addr} {n tc oc : Nat} {ts' : List Int} {hs' : List OpT} {ops' : List OpL} {T' B0' X : Bag} (b1 : Sl TI tp n tc ts' T') (b2 : Sl tO op n oc hs' B0') (b3 : AllH PO hs' ops' (B1 + X)) (hn : n ≤ 1000) (hv : AllV k ops')
    (s : St h0 h (logC gb k t o w L.fl L.wy + (T' + (B0' + (B1 + X + (T + (B0 + (R + G)))))))) :
    HCalls Tryz.prog 84 #[ptr gb, .slice tp n tc, .slice op n oc] h (LogR h0 G k gb (chgL runF L ts' ops')) := by
  have l1 := b1.len
  have l2 := b2.len
  have l3 := b3.len
  refine partialretro_Log_change_call ?_
  rw [partialretro_Log_change_b0_eq]
  refine ⟨_, s.blk.cell 0, (mnew_ok hk h).mono fun v1 h1 ⟨hv1, x1⟩ => ⟨_, _, _, _, _, hv1, ?_⟩⟩
  have s1 := s.grow x1
  refine s1.new (cs := [.int .i64 0, .slice none 0 0]) fun bb1 h2 _ s2 => ?_
  refine s2.wr rfl (by simp) fun h3 s3 => ?_
  refine s3.wr (o := 1) (add_mk _ _ _) (by simp) fun h4 s4 => ?_
  refine ⟨_, _, _, _, s4.blk.cell 0, Blk.cellA s4.blk 1, ?_⟩
  have s4 := s4.drop
  refine (hR (opsR_of b2 b3 (s4.to (B := B0' + (B1 + X + (logC gb k t o w L.fl L.wy + (T' + (T + (B0 + (R + G))))))))) hn hv).mono fun v2 h5 ⟨q, m, d, ro, rod, RB, RC, hv2, na, oa, t5⟩ => ⟨_, _, _, _, _, _, _, _, hv2, ?_⟩
  have s5 := (s4.join t5).to (B := RB + (RC + (logC gb k t o w L.fl L.wy + (T' + (B0' + (B1 + X + (T + (B0 + (R + G)))))))))
  have hol := oa.len
  have hol : (runF ops').2.length = n := by omega
  refine s5.new (cs := [.int .i64 0, .slice none 0 0]) fun bb2 h6 _ s6 => ?_
  refine s6.wr rfl (by simp) fun h7 s7 => ?_
  refine s7.wr (o := 1) (add_mk _ _ _) (by simp) fun h8 s8 => condNo rfl ?_
  have s8 : St h0 h8 (cA bb2 [.int .i64 k, .slice q m d] 66 + (RB + (RC + (logC gb k t o w L.fl L.wy + (T' + (B0' + (B1 + X + (T + (B0 + (R + G)))))))))) := s8
  refine ⟨fun x h' => ∃ i : Nat, x.1 = i ∧ i ≤ n ∧ (∀ j, j < i → ((runF ops').2.getD j (0, 0)).1 = 0) ∧ St h0 h' (cA bb2 [.int .i64 k, .slice q m d] 66 + (RB + (RC + (logC gb k t o w L.fl L.wy + (T' + (B0' + (B1 + X + (T + (B0 + (R + G)))))))))), fun x _ => n - x.1.toNat, ⟨0, rfl, by omega, fun j hj => by omega, s8⟩, ?_⟩
  rintro ⟨_, _⟩ h9 ⟨i, rfl, hin, hall, s9⟩
  dsimp only
  rw [partialretro_Log_change_b1_eq]
  refine condP (fun hlt => ?_) (fun hge => ?_)
  · have sC := s9.to (B := RC + (cA bb2 [.int .i64 k, .slice q m d] 66 + (RB + (logC gb k t o w L.fl L.wy + (T' + (B0' + (B1 + X + (T + (B0 + (R + G))))))))))
    refine (oa.rd sC).idx (by omega) (by omega) fun a _ hcl => ⟨((runF ops').2.getD i (0, 0)).1, ((runF ops').2.getD i (0, 0)).2, none, 0, 0, ?_, ?_, ?_, ?_⟩
    · rw [Int.toNat_natCast] at hcl; exact hcl 0 (show 0 < 3 by decide)
    · rw [Int.toNat_natCast] at hcl; exact hcl 1 (show 1 < 3 by decide)
    · rw [Int.toNat_natCast] at hcl; exact hcl 2 (show 2 < 3 by decide)
    generalize hre : (runF ops').2.getD i (0, 0) = re
    refine s9.new (cs := [.int .i64 0, .int .i64 0, .slice none 0 0]) fun bb3 h10 _ s10 => ?_
    refine s10.wr rfl (by simp) fun h11 s11 => ?_
    refine s11.wr (o := 1) (add_mk _ _ _) (by simp) fun h12 s12 => ?_
    refine s12.wr (o := 2) (add_mk _ _ _) (by simp) fun h13 s13 => ?_
    have s13 : St h0 h13 (cA bb3 [.int .i64 re.1, .int .i64 re.2, .slice none 0 0] 61 + (cA bb2 [.int .i64 k, .slice q m d] 66 + (RB + (RC + (logC gb k t o w L.fl L.wy + (T' + (B0' + (B1 + X + (T + (B0 + (R + G))))))))))) := s13
    refine ⟨_, s13.blk.cell 0, condN (fun hne => ?_) (fun he => ?_)⟩
    · have hb := bad_at (rs := (runF ops').2) (ts := ts') (i := i) (by omega) (by omega) hall (by rw [hre]; exact hne)
      rw [hre] at hb
      have e : chgL runF L ts' ops' = (⟨L.ts, L.ops, L.rows, ts'.getD i 0, re.1⟩, 13) := by rw [chgL, hb, if_neg hne]
      rw [e]
      have sT := s13.to (B := T' + (cA bb3 [.int .i64 re.1, .int .i64 re.2, .slice none 0 0] 61 + (cA bb2 [.int .i64 k, .slice q m d] 66 + (RB + (RC + (logC gb k t o w L.fl L.wy + (B0' + (B1 + X + (T + (B0 + (R + G)))))))))))
      refine (b1.rd sT).int (by omega) (by omega) ?_
      rw [Int.toNat_natCast]
      refine ⟨_, s13.blk.cell 0, ?_⟩
      have s14 := s13.to (B := logC gb k t o w L.fl L.wy + (cA bb3 [.int .i64 re.1, .int .i64 re.2, .slice none 0 0] 61 + (cA bb2 [.int .i64 k, .slice q m d] 66 + (RB + (RC + (T' + (B0' + (B1 + X + (T + (B0 + (R + G)))))))))))
      refine s14.wr (o := 5) (add_mk _ _ _) (by simp) fun h14 s15 => ?_
      have k3 := (s15.at (cA bb3 [.int .i64 re.1, .int .i64 re.2, .slice none 0 0] 61)).blk
      refine ⟨⟨_, k3.cell 0, rfl⟩, ?_⟩
      refine s15.wr (o := 6) (add_mk _ _ _) (by simp) fun h15 s16 => ?_
      have s16 : St h0 h15 (logC gb k t o w (ts'.getD i 0) re.1 + (cA bb3 [.int .i64 re.1, .int .i64 re.2, .slice none 0 0] 61 + (cA bb2 [.int .i64 k, .slice q m d] 66 + (RB + (RC + (T' + (B0' + (B1 + X + (T + (B0 + (R + G))))))))))) := s16
      refine ⟨rfl, _, ⟨t, o, w, hs, T, B0, B1, R, rfl, a1, a2, a3, a4, hle⟩, ?_⟩
      exact (s16.to (B := (cA bb3 [.int .i64 re.1, .int .i64 re.2, .slice none 0 0] 61 + (cA bb2 [.int .i64 k, .slice q m d] 66 + (RB + (RC + (T' + (B0' + X)))))) + (logC gb k t o w (ts'.getD i 0) re.1 + (T + (B0 + (B1 + R))) + G))).drop
    · rw [partialretro_Log_change_b2_eq]
      refine ⟨⟨by omega, by omega⟩, ⟨i + 1, by simp only; omega, by omega, fun j hj => ?_, s13.drop⟩, by simp only; omega⟩
      rcases Nat.lt_or_ge j i with hj2 | hj2
      · exact hall j hj2
      · obtain rfl : j = i := by omega
        rw [hre]; exact he
  · obtain rfl : i = n := by omega
    have hb := bad_none (rs := (runF ops').2) (ts := ts') (by omega) (fun j hj => hall j (by omega))
    have e : chgL runF L ts' ops' = (⟨ts', ops', (runF ops').1, L.fl, L.wy⟩, 0) := by rw [chgL, hb, if_pos rfl]
    rw [e, partialretro_Log_change_b3_eq]
    refine ⟨_, _, _, _, s9.blk.cell 0, Blk.cellA s9.blk 1, ?_⟩
    have s10 := s9.to (B := logC gb k t o w L.fl L.wy + (cA bb2 [.int .i64 k, .slice q m d] 66 + (RB + (RC + (T' + (B0' + (B1 + X + (T + (B0 + (R + G))))))))))
    refine s10.wr (o := 1) (add_mk _ _ _) (by simp) fun h11 s11 => ?_
    have k2 := s11.atomBlk
    refine ⟨⟨_, _, _, _, k2.cell 0, Blk.cellA k2 1, rfl⟩, ?_⟩
    refine s11.wr (o := 2) (add_mk _ _ _) (by simp) fun h12 s12 => ?_
    have k2 := s12.atomBlk
    refine ⟨⟨_, _, _, _, k2.cell 0, Blk.cellA k2 1, rfl⟩, ?_⟩
    refine s12.wr (o := 3) (add_mk _ _ _) (by simp) fun h13 s13 => ?_
    refine s13.wr (o := 4) (by rw [add_mk, add_mk]) (by simp) fun h14 s14 => ?_
    have s14 : St h0 h14 (logC gb k (tp, i, tc) (op, i, oc) (q, m, d) L.fl L.wy + (cA bb2 [.int .i64 k, .slice q m d] 66 + (RB + (RC + (T' + (B0' + (B1 + X + (T + (B0 + (R + G)))))))))) := s14
    refine ⟨rfl, _, ⟨(tp, i, tc), (op, i, oc), (q, m, d), hs', T', B0', B1 + X, RB, rfl, b1, b2, b3, na, by show ts'.length = ops'.length; omega⟩, ?_⟩
    exact (s14.to (B := (cA bb2 [.int .i64 k, .slice q m d] 66 + (RC + (T + (B0 + R)))) + (logC gb k (tp, i, tc) (op, i, oc) (q, m, d) L.fl L.wy + (T' + (B0' + (B1 + X + RB))) + G))).drop
end
end Go.Proofs.YtdlkohenamlnaaaGreat

/- A log in the past: adding an operation that may be added. -/
set_option maxRecDepth 100000
namespace Go.Proofs.YtdlkohenamlnaaaGreat
open Go Go.Sx
/-- Whether an operation is an update. -/
def updT (k c : Int) : Bool := ((wdT k).getD (c - 1).toNat tW.d).2.2
theorem isUpdate_ok {k c : Int} (_ : 1 ≤ k ∧ k ≤ 6) (hc : 1 ≤ c ∧ c ≤ (arT k).length) (h : Hp) : HCalls Tryz.prog 110 #[.int .i64 k, .int .i64 c] h (fun v h' => v = .tuple #[.bool (updT k c), .int .i64 0] ∧ Ext h h') := by
  have hwl := wd_len k
  refine model_IsUpdate_call ?_
  rw [model_IsUpdate_b0_eq]
  refine (words_ok k h).mono fun v1 h2 ⟨q, d, hv1, rw1, x2⟩ => ⟨_, _, _, hv1, ?_⟩
  obtain ⟨a, rfl, _⟩ := rw1.at_ (i := 0) (by omega)
  refine condNo rfl (condP (fun h => by omega) (fun _ => condP (fun h => by omega) (fun _ => ?_)))
  have hl8 : (arT k).length ≤ 8 := by unfold arT; repeat' split
                                      all_goals decide
  rw [model_IsUpdate_b1_eq]
  refine ⟨⟨by omega, by omega⟩, ?_⟩
  exact rw1.idx (by omega) (by omega) fun a _ hcl => ⟨_, hcl 2 (show 2 < 3 by decide), rfl, x2⟩
theorem update_ok {k c : Int} (hk : 1 ≤ k ∧ k ≤ 6) (hc : 1 ≤ c ∧ c ≤ (arT k).length) {h : Hp} {gb : Nat} {q : Option Addr} {m d : Nat} (hg : cell h ⟨gb, 0, none⟩ = some (.int .i64 k)) :
    HCalls Tryz.prog 72 #[ptr gb, .agg #[.int .i64 c, .slice q m d]] h (fun v h' => v = .bool (updT k c) ∧ Ext h h') := by
  refine partialretro_Log_update_call ?_
  rw [partialretro_Log_update_b0_eq]
  refine (St.start h).new (cs := [.int .i64 c, .slice q m d]) fun b1 h1 x1 s1 => ?_
  refine ⟨_, x1.cell hg, _, s1.blk.cell 0, ?_⟩
  exact (isUpdate_ok hk hc h1).mono fun v h2 ⟨hv, x2⟩ => ⟨_, _, hv, rfl, x1.trans x2⟩
theorem AllH.cutO {hs : List OpT} {ops : List OpL} {A : Bag} (h : AllH PO hs ops A) (i : Nat) : ∃ A1 A2, A = A1 + A2 ∧ AllH PO (hs.take i) (ops.take i) A1 ∧ AllH PO (hs.drop i) (ops.drop i) A2 := by
  have hl := h.len
  refine AllH.split (hs.take i) (ops.take i) (by rw [List.length_take, List.length_take, hl]) ?_
  rw [List.take_append_drop, List.take_append_drop]
  exact h
/-- A log with one more operation. -/
def putL (i : Nat) {α : Type} (x : α) (l : List α) : List α := l.take i ++ x :: l.drop i
section
variable {h0 h : Hp} {k : Int} {gb : Nat} {L : LogS} {runF : List OpL → List (List Int) × List ResL} {t o w : SH} {hs : List OpT} {T B0 B1 R G : Bag}
theorem ladd_b3 (hk : 1 ≤ k ∧ k ≤ 6) (hR : RunOk k runF) (a1 : Sl TI t.1 t.2.1 t.2.2 L.ts T) (a2 : Sl tO o.1 o.2.1 o.2.2 hs B0) (a3 : AllH PO hs L.ops B1) (a4 : RowsA w L.rows R) (hle : L.ts.length = L.ops.length) (hn : L.ts.length < 1000)
    {time code : Int} {zs : List Int} {i bo : Nat} {q : Option Addr} {m d : Nat} {X : Bag} {K : Value → Hp → Prop} (hK : ∀ v h', LogR h0 G k gb (chgL runF L (putL i time L.ts) (putL i (code, zs) L.ops)) v h' → K v h') (hi : i ≤ L.ts.length) (ox : Sl TI q m d zs X) (hv : AllV k L.ops) (hv1 : OpV k code zs)
    (s : St h0 h (cA bo [.int .i64 code, .slice q m d] 25 + (logC gb k t o w L.fl L.wy + (X + (T + (B0 + (B1 + (R + G)))))))) :
    partialretro_Log_Add_b3 (some ⟨gb, 0, none⟩) time (i : Int) (some ⟨bo, 0, none⟩) h K := by
  have l1 := a1.len
  have l2 := a2.len
  have l3 := a3.len
  have ln : t.2.1 = o.2.1 := by omega
  have kg := s.atomBlk
  have ko := s.blk
  have c1 : cell h ((⟨gb, 0, none⟩ : Addr).add 1) = some (.slice t.1 t.2.1 t.2.2) := Blk.cellA kg 1
  have c2 : cell h ((⟨gb, 0, none⟩ : Addr).add 2) = some (.slice o.1 o.2.1 o.2.2) := Blk.cellA kg 2
  have e0 : cell h ⟨bo, 0, none⟩ = some (.int .i64 code) := ko.cell 0
  have e1 : cell h ((⟨bo, 0, none⟩ : Addr).add 1) = some (.slice q m d) := Blk.cellA ko 1
  have rt := a1.rd (s.to (B := T + (logC gb k t o w L.fl L.wy + (cA bo [.int .i64 code, .slice q m d] 25 + (X + (B0 + (B1 + (R + G))))))))
  have ro := a2.rd (s.to (B := B0 + (logC gb k t o w L.fl L.wy + (cA bo [.int .i64 code, .slice q m d] 25 + (X + (T + (B1 + (R + G))))))))
  have clone1 : ∀ {h' : Hp}, Ext h h' → HCalls Tryz.prog 24 #[.slice t.1 t.2.1 t.2.2] h' (fun v h'' => ∃ q d A, v = .slice q t.2.1 d ∧ Sl TI q t.2.1 d L.ts A ∧ St h' h'' A) := fun x => cloneI_st (rt.ext x) (by omega)
  have clone2 : ∀ {h' : Hp}, Ext h h' → HCalls Tryz.prog 86 #[.slice o.1 o.2.1 o.2.2] h' (fun v h'' => ∃ q d A, v = .slice q t.2.1 d ∧ Sl tO q t.2.1 d hs A ∧ St h' h'' A) := fun x => by
    rw [ln]; exact cloneO_st (ro.ext x) (by omega)
  have ins1 : ∀ {h' : Hp} {F : Bag} {p : Option Addr} {c bv : Nat} {A : Bag}, Sl TI p t.2.1 c L.ts A → St h h' (A + (cA bv [.int .i64 time] 3 + F)) → HCalls Tryz.prog 23 #[.slice p t.2.1 c, .int .i64 (i : Int), .slice (some ⟨bv, 0, none⟩) 1 1] h' (fun v h'' => ∃ p' c' A', v = .slice p' (t.2.1 + 1) c' ∧ Sl TI p' (t.2.1 + 1) c' (putL i time L.ts) A' ∧ St h h'' (A' + (cA bv [.int .i64 time] 3 + F))) :=
    fun a s => insertI_st (x := time) s a rfl (by omega) (by omega)
  have ins2 : ∀ {h' : Hp} {F : Bag} {p : Option Addr} {c bv : Nat} {A : Bag}, Sl tO p t.2.1 c hs A → St h h' (A + (cA bv [.int .i64 code, .slice q m d] 25 + F)) → HCalls Tryz.prog 85 #[.slice p t.2.1 c, .int .i64 (i : Int), .slice (some ⟨bv, 0, none⟩) 1 1] h' (fun v h'' => ∃ p' c' A', v = .slice p' (t.2.1 + 1) c' ∧ Sl tO p' (t.2.1 + 1) c' (putL i (code, q, m, d) hs) A' ∧ St h h'' (A' + (cA bv [.int .i64 code, .slice q m d] 25 + F))) :=
    fun a s => insertO_st (x := (code, q, m, d)) s a rfl (by omega) (by omega)
  have b3 : AllH PO (putL i (code, q, m, d) hs) (putL i (code, zs) L.ops) (B1 + X) := by
    obtain ⟨C1, C2, rfl, x1, x2⟩ := AllH.cutO a3 i
    have := x1.append (AllH.append (AllH.one (P := PO) (b := (code, q, m, d)) (t := (code, zs)) ⟨rfl, ox⟩) x2)
    rwa [show C1 + (X + C2) = C1 + C2 + X by ac_rfl] at this
  have hv' : AllV k (putL i (code, zs) L.ops) := fun y hy => by
    rcases List.mem_append.1 hy with hy | hy
    · exact hv y (List.mem_of_mem_take hy)
    · rcases List.mem_cons.1 hy with rfl | hy
      · exact hv1
      · exact hv y (List.mem_of_mem_drop hy)
  have fin : ∀ {h' : Hp} {p1 p2 : Option Addr} {c1' c2' : Nat} {A1 A2 J : Bag}, Sl TI p1 (t.2.1 + 1) c1' (putL i time L.ts) A1 → Sl tO p2 (t.2.1 + 1) c2' (putL i (code, q, m, d) hs) A2 → St h h' (A1 + (A2 + J)) →
      HCalls Tryz.prog 84 #[ptr gb, .slice p1 (t.2.1 + 1) c1', .slice p2 (t.2.1 + 1) c2'] h' (fun v h'' => ∃ r : Int, v = .int .i64 r ∧ K (.int .i64 r) h'') := by
    intro h' p1 p2 c1' c2' A1 A2 J f1 f2 s'
    have sj := (s.join s').to (B := (J + cA bo [.int .i64 code, .slice q m d] 25) + (logC gb k t o w L.fl L.wy + (A1 + (A2 + (B1 + X + (T + (B0 + (R + G))))))))
    exact (lchange_ok hk hR a1 a2 a3 a4 hle f1 f2 b3 (by omega) hv' sj.drop).mono fun v h'' ⟨hv, hA⟩ => ⟨_, hv, hK _ _ ⟨rfl, hA⟩⟩
  rw [partialretro_Log_Add_b3_eq]
  refine ⟨_, _, _, c1, _, _, _, c2, _, _, _, _, e0, e1, ?_⟩
  have s := St.start h
  repeat' first
    | (with_reducible refine St.new s (cs := [.int .i64 time]) ?_); intro bt _ _ s
    | (with_reducible refine St.new s (cs := [.int .i64 code, .slice q m d]) ?_); intro bp _ _ s
    | (with_reducible refine HCalls.mono (clone1 s.ext) ?_); rintro _ _ ⟨q1, d1, A1, hv, o1, tt⟩; refine ⟨_, _, _, hv, ?_⟩; have s := s.join tt; clear tt
    | (with_reducible refine HCalls.mono (clone2 s.ext) ?_); rintro _ _ ⟨q2, d2, A2, hv, o2, tt⟩; refine ⟨_, _, _, hv, ?_⟩; have s := s.join tt; clear tt
    | (with_reducible refine HCalls.mono (ins1 (F := 0) o1 ?_) ?_); (exact s.to); rintro _ _ ⟨q1, d1, A1, hv, o1, s⟩; refine ⟨_, _, _, hv, ?_⟩
    | (with_reducible refine HCalls.mono (ins1 (F := cA bp [.int .i64 code, .slice q m d] 25) o1 ?_) ?_); (exact s.to); rintro _ _ ⟨q1, d1, A1, hv, o1, s⟩; refine ⟨_, _, _, hv, ?_⟩
    | (with_reducible refine HCalls.mono (ins2 (F := A1 + cA bt [.int .i64 time] 3) o2 ?_) ?_); (exact s.to); rintro _ _ ⟨q2, d2, A2, hv, o2, s⟩; refine ⟨_, _, _, hv, ?_⟩
    | (with_reducible refine fin (J := cA bt [.int .i64 time] 3 + cA bp [.int .i64 code, .slice q m d] 25) o1 o2 ?_); exact s.to
    | with_reducible refine ⟨⟨_, _, _, s.ext.cell c1, rfl⟩, ?_⟩
    | with_reducible refine ⟨⟨_, _, _, s.ext.cell c2, rfl⟩, ?_⟩
    | with_reducible refine ⟨⟨_, _, _, _, s.ext.cell e0, s.ext.cell e1, rfl⟩, ?_⟩
    | with_reducible refine ⟨?_, ?_⟩
end
end Go.Proofs.YtdlkohenamlnaaaGreat

/- A log in the past: Add; comparing lists; the law's small functions. -/
set_option maxRecDepth 100000
namespace Go.Proofs.YtdlkohenamlnaaaGreat
open Go Go.Sx
section
variable {h0 h : Hp} {k : Int} {gb : Nat} {L : LogS} {runF : List OpL → List (List Int) × List ResL} {A G : Bag}
theorem opv_len {k c : Int} {zs : List Int} (hv : OpV k c zs) : zs.length ≤ 64 := by
  have h4 := arT_le k (c - 1).toNat
  have := hv.2
  split at this
  · omega
  · omega
theorem ladd_ok (hk : 1 ≤ k ∧ k ≤ 6) (hR : RunOk k runF) (la : LogA k gb L A) (hn : L.ts.length < 1000) (hinc : Inc L.ts) {time code : Int} {zs : List Int} {q : Option Addr} {m d : Nat} (hno : ∀ z ∈ L.ts, z ≠ time) (ht : timeP time) (hv : AllV k L.ops) (hv1 : OpV k code zs) (hu : updT k code = true)
    (rz : RdS h0 G TI q m zs) (s : St h0 h (A + G)) :
    HCalls Tryz.prog 41 #[ptr gb, .int .i64 time, .agg #[.int .i64 code, .slice q m d]] h (fun v h' => ∃ i : Nat, IsLb L.ts time i ∧ LogR h0 G k gb (chgL runF ⟨L.ts, L.ops, L.rows, 0, 0⟩ (putL i time L.ts) (putL i (code, zs) L.ops)) v h') := by
  obtain ⟨t, o, w, hs, T, B0, B1, R, rfl, a1, a2, a3, a4, hle⟩ := la
  have l1 := a1.len
  refine partialretro_Log_Add_call ?_
  rw [partialretro_Log_Add_b0_eq]
  refine s.new (cs := [.int .i64 code, .slice q m d]) fun b1 h1 _ s1 => condNo rfl ?_
  have s1 := s1.to (B := logC gb k t o w L.fl L.wy + (cA b1 [.int .i64 code, .slice q m d] 25 + (T + (B0 + (B1 + (R + G))))))
  refine s1.wr (o := 5) (add_mk _ _ _) (by simp) fun h2 s2 => ?_
  refine s2.wr (o := 6) (add_mk _ _ _) (by simp) fun h3 s3 => ?_
  have s3 : St h0 h3 (logC gb k t o w 0 0 + (cA b1 [.int .i64 code, .slice q m d] 25 + (T + (B0 + (B1 + (R + G)))))) := s3
  have rz3 := rz h3 (logC gb k t o w 0 0 + (cA b1 [.int .i64 code, .slice q m d] 25 + (T + (B0 + (B1 + R))))) s3.to
  have k1 := s3.atomBlk
  refine ⟨_, s3.blk.cell 0, _, _, _, _, k1.cell 0, Blk.cellA k1 1, ?_⟩
  refine (mValid' (k := k) (c := code) rz3).mono fun v1 h4 ⟨hv1', x4⟩ => ⟨_, hv1', condNo (by rw [decide_eq_true hv1]; rfl) ?_⟩
  have s4 := s3.grow x4
  have k1 := s4.atomBlk
  refine ⟨_, _, _, _, k1.cell 0, Blk.cellA k1 1, ?_⟩
  refine (update_ok hk hv1.1 (s4.blk.cell 0)).mono fun v2 h5 ⟨hv2, x5⟩ => ⟨_, hv2, condNo (by rw [hu]; rfl) ?_⟩
  have s5 := s4.grow x5
  refine (timed_ok time h5).mono fun v3 h6 ⟨hv3, hh⟩ => ⟨_, hv3, condNo (by rw [decide_eq_true (show 0 ≤ time ∧ time ≤ 1073741824 from ht)]; rfl) ?_⟩
  subst hh
  rw [partialretro_Log_Add_b1_eq]
  refine ⟨_, _, _, Blk.cellA s5.blk 1, ?_⟩
  have rT := a1.rd (s5.to (B := T + (logC gb k t o w 0 0 + (cA b1 [.int .i64 code, .slice q m d] 25 + (B0 + (B1 + (R + G)))))))
  refine (Search_ok (key := time) rT.ints (by omega) hinc).mono fun v4 h7 ⟨hh, i, hlb, hv4⟩ => ⟨_, _, hv4, ?_⟩
  subst hh
  have hilen := hlb.1
  refine condNo (decide_eq_false fun hx => ?_) ?_
  · exact hno _ (getD_mem' (l := L.ts) (i := i) (d := 0) (by omega)) hx.2
  refine ⟨_, _, _, Blk.cellA s5.blk 1, condP (fun h => by omega) (fun _ => ?_)⟩
  have k1 := s5.atomBlk
  rw [partialretro_Log_Add_b2_eq]
  refine ⟨_, k1.cell 0, _, _, _, Blk.cellA k1 1, ?_, ?_⟩
  · have rz5 := rz h7 (logC gb k t o w 0 0 + (cA b1 [.int .i64 code, .slice q m d] 25 + (T + (B0 + (B1 + R))))) s5.to
    have hlz := opv_len hv1
    have hzl := rz5.len
    refine (cloneI_st rz5 (by omega)).mono fun v5 h8 ⟨q5, d5, X, hv5, o5, t5⟩ => ⟨_, _, _, hv5, ?_⟩
    have s8 := s5.join t5
    have k1 := (s8.at (cA b1 [.int .i64 code, .slice q m d] 25)).blk
    refine ⟨⟨_, k1.cell 0, rfl⟩, ?_⟩
    refine s8.new (cs := [.int .i64 0, .slice none 0 0]) fun b2 h9 x9 s9 => ⟨rfl, ⟨_, (k1.ext x9).cell 0, rfl⟩, ?_⟩
    refine s9.wr rfl (by simp) fun h10 s10 => ?_
    refine s10.wr (o := 1) (add_mk _ _ _) (by simp) fun h11 s11 => ?_
    have s11 : St h0 h11 (cA b2 [.int .i64 code, .slice q5 m d5] 25 + (X + (logC gb k t o w 0 0 + (cA b1 [.int .i64 code, .slice q m d] 25 + (T + (B0 + (B1 + (R + G)))))))) := s11
    exact ladd_b3 (L := ⟨L.ts, L.ops, L.rows, 0, 0⟩) (G := G) hk hR a1 a2 a3 a4 hle hn (fun v h' hv => ⟨i, hlb, hv⟩) hilen o5 hv hv1 ((s11.to (B := cA b1 [.int .i64 code, .slice q m d] 25 + (cA b2 [.int .i64 code, .slice q5 m d5] 25 + (logC gb k t o w 0 0 + (X + (T + (B0 + (B1 + (R + G))))))))).drop)
  · refine s5.new (cs := [.int .i64 0, .slice none 0 0]) fun b2 h9 x9 s9 => ⟨⟨_, _, _, Blk.cellA (k1.ext x9) 1, rfl⟩, ⟨_, (k1.ext x9).cell 0, rfl⟩, ?_⟩
    have s9 := s9.to (B := cA b2 [.int .i64 0, .slice none 0 0] 25 + (logC gb k t o w 0 0 + (cA b1 [.int .i64 code, .slice q m d] 25 + (T + (B0 + (B1 + (R + G)))))))
    have rz5 := rz h9 (cA b2 [.int .i64 0, .slice none 0 0] 25 + (logC gb k t o w 0 0 + (cA b1 [.int .i64 code, .slice q m d] 25 + (T + (B0 + (B1 + R)))))) s9.to
    have hlz := opv_len hv1
    have hzl := rz5.len
    refine (cloneI_st rz5 (by omega)).mono fun v5 h8 ⟨q5, d5, X, hv5, o5, t5⟩ => ⟨_, _, _, hv5, ?_⟩
    have s8 := (s9.join t5).to (B := cA b2 [.int .i64 0, .slice none 0 0] 25 + (X + (logC gb k t o w 0 0 + (cA b1 [.int .i64 code, .slice q m d] 25 + (T + (B0 + (B1 + (R + G))))))))
    have k1 := (s8.at (cA b1 [.int .i64 code, .slice q m d] 25)).blk
    refine ⟨⟨_, k1.cell 0, rfl⟩, ?_⟩
    refine s8.wr rfl (by simp) fun h10 s10 => ?_
    refine s10.wr (o := 1) (add_mk _ _ _) (by simp) fun h11 s11 => ?_
    have s11 : St h0 h11 (cA b2 [.int .i64 code, .slice q5 m d5] 25 + (X + (logC gb k t o w 0 0 + (cA b1 [.int .i64 code, .slice q m d] 25 + (T + (B0 + (B1 + (R + G)))))))) := s11
    exact ladd_b3 (L := ⟨L.ts, L.ops, L.rows, 0, 0⟩) (G := G) hk hR a1 a2 a3 a4 hle hn (fun v h' hv => ⟨i, hlb, hv⟩) hilen o5 hv hv1 ((s11.to (B := cA b1 [.int .i64 code, .slice q m d] 25 + (cA b2 [.int .i64 code, .slice q5 m d5] 25 + (logC gb k t o w 0 0 + (X + (T + (B0 + (B1 + (R + G))))))))).drop)
end
end Go.Proofs.YtdlkohenamlnaaaGreat
