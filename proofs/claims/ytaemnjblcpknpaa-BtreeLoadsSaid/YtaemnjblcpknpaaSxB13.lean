/- B-trees: the reference: lists, and the right shape. -/
import Derived.Test.YtaemnjblcpknpaaSxB12
set_option maxRecDepth 100000
namespace Go.Proofs.Ytaemnjblcpknpaa
open Go Go.Sx
theorem Key_ok (z : Int) (h : Hp) : HCalls Try.prog 35 #[.int .i64 z] h (fun v h' => v = .bool (decide (KeyP z)) ∧ h' = h) := by
  refine r43_Key_call ?_
  rw [r43_Key_b0_eq]
  refine condP (fun h1 => ⟨?_, rfl⟩) (fun h1 => ⟨?_, rfl⟩)
  · congr 1; exact decide_eq_decide.2 ⟨fun h2 => ⟨h1, h2⟩, fun h2 => h2.2⟩
  · rw [decide_eq_false (fun h2 => h1 h2.1)]
theorem SameList_ok {h : Hp} {p q : Option Addr} {n m c d : Nat} {xs ys : List Int} (r1 : RdT TI h p n xs) (r2 : RdT TI h q m ys) (hn : n ≤ 1000000000) :
    HCalls Try.prog 39 #[.slice p n c, .slice q m d] h (fun v h' => h' = h ∧ v = .bool (decide (xs = ys))) := by
  have l1 := r1.len
  have l2 := r2.len
  refine r03_SameList_call ?_
  rw [r03_SameList_b0_eq]
  refine condN (fun hl => ?_) (fun hl => ?_)
  · exact ⟨rfl, by rw [decide_eq_false (fun h => hl (by subst h; omega))]⟩
  refine ⟨fun x h' => h' = h ∧ ∃ i : Nat, x.1 = i ∧ i ≤ n ∧ ∀ j, j < i → xs.getD j 0 = ys.getD j 0, fun x _ => n - x.1.toNat, ⟨rfl, 0, rfl, by omega, fun j hj => by omega⟩, ?_⟩
  rintro ⟨_, _⟩ h1 ⟨rfl, i, rfl, hin, heq⟩
  dsimp only
  rw [r03_SameList_b1_eq]
  refine condP (fun hlt => ?_) (fun hge => ?_)
  · refine r1.int (by omega) (by omega) (r2.int (by omega) (by omega) ?_)
    rw [Int.toNat_natCast]
    refine condN (fun hne => ?_) (fun he => ?_)
    · exact ⟨rfl, by rw [decide_eq_false (fun h => hne (by rw [h]))]⟩
    · rw [r03_SameList_b2_eq]
      refine ⟨⟨by omega, by omega⟩, ⟨rfl, i + 1, by simp only; omega, by omega, fun j hj => ?_⟩, by simp only; omega⟩
      rcases Nat.lt_or_ge j i with h1 | h1
      · exact heq j h1
      · obtain rfl : j = i := by omega
        exact he
  · rw [r03_SameList_b3_eq]
    exact ⟨rfl, by rw [decide_eq_true (list_eq_of (d := 0) (by omega) (fun t ht => heq t (by omega)))]⟩
theorem keys_ok {h : Hp} {p : Option Addr} {n c : Nat} {l : List E} (r : RdT TE h p n l) (hn : n ≤ 1000000) :
    HCalls Try.prog 17 #[.slice p n c] h (fun v h' => ∃ q d B, v = .slice q n d ∧ Sl TI q n d (l.map Prod.fst) B ∧ St h h' B) := by
  have hl := r.len
  refine l43_keys_call ?_
  rw [l43_keys_b0_eq]
  refine ⟨fun x h' => ∃ (i : Nat) (B : Bag), x.2.1 = i ∧ i ≤ n ∧ x.1.2.1 = i ∧ Sl TI x.1.1 i x.1.2.2 ((l.take i).map Prod.fst) B ∧ St h h' B, fun x _ => n - x.2.1.toNat, ⟨0, 0, rfl, by omega, rfl, Sl.nil, St.start h⟩, ?_⟩
  rintro ⟨⟨q, m, d⟩, _, _⟩ h1 ⟨i, B, rfl, hin, hm, hs, s1⟩
  dsimp only at hm hs ⊢
  subst hm
  rw [l43_keys_b1_eq]
  refine condP (fun hlt => ?_) (fun hge => ?_)
  · refine pair_load (r.ext s1.ext) (by omega) (by omega) ?_
    rw [Int.toNat_natCast]
    refine s1.new (cs := [.int .i64 0, .int .i64 0]) fun b1 h2 _ s2 => ?_
    refine s2.wr rfl (by simp) fun h3 s3 => ?_
    refine s3.wr (o := 1) (add_mk _ _ _) (by simp) fun h4 s4 => ?_
    have s4 : St h h4 (cA b1 [.int .i64 (l.getD m (0, 0)).1, .int .i64 (l.getD m (0, 0)).2] 40 + B) := s4
    refine ⟨⟨by omega, by omega⟩, _, s4.cellA 0, ?_⟩
    refine push_sl ok_int (s4.drop.to (B := B + 0)) hs (x := (l.getD m (0, 0)).1) rfl rfl (by omega) fun p' c' h' B' hs' s5 => ?_
    rw [l43_keys_b2_eq]
    refine ⟨⟨by omega, by omega⟩, ⟨m + 1, B', by simp only; omega, by omega, rfl, ?_, s5.to⟩, by simp only; omega⟩
    rw [take_one (by omega), List.map_append]; exact hs'
  · obtain rfl : n = m := by omega
    rw [List.take_of_length_le (by omega)] at hs
    rw [l43_keys_b3_eq]
    exact ⟨q, d, B, rfl, hs, s1⟩
theorem Loaded_ok {h : Hp} {p : Option Addr} {n c : Nat} {l : List E} (r : RdT TE h p n l) (hn : n ≤ 1000000) :
    HCalls Try.prog 12 #[.slice p n c] h (fun v h' => h' = h ∧ v = .int .i64 (if OkL l then (if 2000 < l.length then 4 else 0) else 1)) := by
  have hlen := r.len
  refine r43_Loaded_call ?_
  rw [r43_Loaded_b0_eq]
  refine ⟨fun x h' => h' = h ∧ ∃ i : Nat, x.1 = i ∧ i ≤ n ∧ OkL (l.take i), fun x _ => n - x.1.toNat, ⟨rfl, 0, rfl, by omega, ⟨fun x hx => by simp at hx, by simp⟩⟩, ?_⟩
  rintro ⟨_, _⟩ h1 ⟨rfl, i, rfl, hin, hok⟩
  dsimp only
  rw [r43_Loaded_b1_eq]
  refine condP (fun hlt => ?_) (fun hge => ?_)
  · have hil : i < l.length := by omega
    refine pair_at r (by omega) (by omega) ⟨_, Key_ok _ _, ?_⟩
    rw [Int.toNat_natCast]
    refine condN (fun hk => ?_) (fun hk => ?_)
    · rw [if_neg (fun hb => hk (hb.1 _ (mem_getD hil)).1)]; exact ⟨rfl, rfl⟩
    refine pair_at1 r (by omega) (by omega) ⟨_, Key_ok _ _, ?_⟩
    rw [Int.toNat_natCast]
    refine condN (fun hk2 => ?_) (fun hk2 => ?_)
    · rw [if_neg (fun hb => hk2 (hb.1 _ (mem_getD hil)).2)]; exact ⟨rfl, rfl⟩
    have all1 : ∀ x ∈ l.take (i + 1), KeyP x.1 ∧ KeyP x.2 := by
      rw [take_one hil]
      intro x hx
      rcases List.mem_append.1 hx with hx | hx
      · exact hok.1 x hx
      · simp at hx; subst hx; exact ⟨hk, hk2⟩
    refine condP (fun hpos => ?_) (fun hpos => ?_)
    · have ei : ((i : Int) - 1).toNat = i - 1 := by omega
      refine ⟨⟨by omega, by omega⟩, pair_at r (by omega) (by omega) (pair_at r (by omega) (by omega) ?_)⟩
      rw [Int.toNat_natCast, ei]
      refine condP (fun hle => ?_) (fun hgt => ?_)
      · rw [if_neg (fun hb => by have := srt_get hb.2 (i := i - 1) (j := i) (by omega) hil; omega)]; exact ⟨rfl, rfl⟩
      · rw [r43_Loaded_b2_eq]
        exact ⟨⟨by omega, by omega⟩, ⟨rfl, i + 1, by simp only; omega, by omega, ⟨all1, srt_take_one hil hok.2 (fun _ => by omega)⟩⟩, by simp only; omega⟩
    · rw [r43_Loaded_b2_eq]
      exact ⟨⟨by omega, by omega⟩, ⟨rfl, i + 1, by simp only; omega, by omega, ⟨all1, srt_take_one hil hok.2 (fun h => by omega)⟩⟩, by simp only; omega⟩
  · obtain rfl : n = i := by omega
    rw [List.take_of_length_le (by omega)] at hok
    rw [r43_Loaded_b3_eq, if_pos hok]
    refine condP (fun h2 => ?_) (fun h2 => ?_)
    · rw [if_pos (by omega)]; exact ⟨rfl, rfl⟩
    · rw [if_neg (by omega)]; exact ⟨rfl, rfl⟩
theorem node_ok {h : Hp} {order : Nat} {p : Option Addr} {n c : Nat} {root : Bool} (hor : 3 ≤ order) (h64 : order ≤ 64) (h1 : root = true → 1 ≤ n) (h2 : root = false → (order + 1) / 2 - 1 ≤ n) (h3 : n ≤ order - 1) :
    HCalls Try.prog 66 #[.int .i64 (order : Int), .slice p n c, .bool root] h (fun v h' => h' = h ∧ v = .bool true) := by
  have least : HCalls Try.prog 92 #[.int .i64 (order : Int)] h (fun v h' => h' = h ∧ v = .int .i64 (((order + 1) / 2 - 1 : Nat) : Int)) := by
    refine r43_Least_call ?_
    rw [r43_Least_b0_eq]
    refine ⟨⟨by omega, by omega⟩, quo_intro (by omega) (by omega) (by omega) ⟨⟨by omega, by omega⟩, rfl, ?_⟩⟩
    congr 1; omega
  refine r43_node_call ?_
  rw [r43_node_b0_eq]
  refine ⟨⟨by omega, by omega⟩, condNo (decide_eq_false (by omega)) ?_⟩
  have tail : cond (decide ((n : Int) < (((order + 1) / 2 - 1 : Nat) : Int))) (cond (!root) (h = h ∧ Value.bool false = Value.bool true) (r43_node_b1 h fun v h' => h' = h ∧ v = .bool true)) (r43_node_b1 h fun v h' => h' = h ∧ v = .bool true) := by
    have e : r43_node_b1 h fun v h' => h' = h ∧ v = .bool true := by rw [r43_node_b1_eq]; exact ⟨rfl, rfl⟩
    refine condP (fun h4 => ?_) (fun _ => e)
    cases root with
    | true => exact condNo rfl e
    | false => have := h2 rfl; omega
  refine condP (fun h5 => ?_) (fun h5 => ?_)
  · cases root with
    | true => have := h1 rfl; omega
    | false =>
      refine condNo rfl (least.mono fun v1 h' ⟨hh, hv⟩ => ⟨_, hv, ?_⟩)
      subst hh
      exact tail
  · refine least.mono fun v1 h' ⟨hh, hv⟩ => ⟨_, hv, ?_⟩
    subst hh
    exact tail
end Go.Proofs.Ytaemnjblcpknpaa
