/- Part W4 of the proof: contracts of functions of the program, and what follows from them. -/
import Derived.Test.YtmlfoefadmlhpaaSxW3
set_option maxRecDepth 10000
namespace Go.Proofs.Ytmlfoefadmlhpaa
open Go Go.Sx

theorem wbit_set (ws : List Nat) (i t : Nat) (hi : i / 64 < ws.length) (_ht : t / 64 < ws.length) :
    wbit (ws.set (i / 64) (ws.getD (i / 64) 0 ||| 2 ^ (i % 64))) t = (wbit ws t || decide (t = i)) := by
  unfold wbit
  by_cases h : i / 64 = t / 64
  · have e : (ws.set (i / 64) (ws.getD (i / 64) 0 ||| 2 ^ (i % 64))).getD (t / 64) 0 = ws.getD (t / 64) 0 ||| 2 ^ (i % 64) := by
      rw [← h]; simp [List.getD, hi]
    rw [e, Nat.testBit_or, Nat.testBit_two_pow]
    congr 1
    rw [Bool.eq_iff_iff]
    simp only [decide_eq_true_eq]
    omega
  · have e : (ws.set (i / 64) (ws.getD (i / 64) 0 ||| 2 ^ (i % 64))).getD (t / 64) 0 = ws.getD (t / 64) 0 := by
      simp [List.getD, List.getElem?_set_ne h]
    rw [e]
    have : ¬ t = i := by intro e; subst e; exact h rfl
    simp [this]

theorem pcs_cnt {bits : List Bool} {ws : List Nat} (hw : ∀ i, i < 64 * ws.length → wbit ws i = bits.getD i false) : ∀ j, j ≤ ws.length → pcs ws j = cntB bits true (64 * j)
  | 0, _ => by simp [pcs, cntB]
  | j + 1, hj => by
    simp only [pcs]
    rw [pcs_cnt hw j (by omega), show 64 * (j + 1) = 64 * j + 64 by omega, cntB_word hw (by omega) 64 (Nat.le_refl _)]

theorem Make_full {h : Hp} {p : Option Addr} {n c : Nat} (hn : 65536 < n) :
    HCalls Try.prog 48 #[.slice p n c] h (fun r h' => r = .tuple #[.pointer none, .int .i64 4] ∧ h' = h) := by
  refine Make_call ?_
  rw [Make_b0_eq]
  refine condP (fun _ => ⟨rfl, rfl⟩) (fun hx => by omega)

theorem Make_loc {h : Hp} {p : Option Addr} {n c : Nat} {bits : List Bool} (r : Rd h p n (bits.map Value.bool)) (hn : n ≤ 65536) :
    HCalls Try.prog 48 #[.slice p n c] h (fun r h' => Ext h h' ∧ ∃ a, r = .tuple #[.pointer (some a), .int .i64 0] ∧ LocH h.size h' (fun g => Vec g a bits)) := by
  have hbl : bits.length = n := by have := r.len; simpa using this
  refine Make_call ?_
  rw [Make_b0_eq]
  refine condP (fun hx => by omega) (fun _ => ?_)
  refine ⟨⟨by omega, by omega⟩, ?_⟩
  refine quo_intro (by omega) (by omega) (by omega) ?_
  refine ⟨⟨by omega, by omega, by omega, by omega⟩, ?_⟩
  have hq : ((n : Int) + 63) / 64 = (((n + 63) / 64 : Nat) : Int) := by omega
  rw [hq]
  generalize hW : (n + 63) / 64 = W
  rw [show ((W : Nat) : Int).toNat = W by simp, Nat.mul_one, repL_one]
  refine New_intro fun bw h1 hbw x1 k1 z1 => ?_
  refine New_intro (cs := [_, _, _]) fun bv h2 hbv x2 k2 z2 => ?_
  have x : Ext h h2 := x1.trans x2
  have hne : bw ≠ bv := by omega
  refine ⟨fun s h' => ∃ i : Nat, s.1 = i ∧ i ≤ n ∧ h'.size = h2.size ∧ (∀ k, k ≠ bw → h'[k]? = h2[k]?) ∧
      ∃ ws : List Nat, ws.length = W ∧ (∀ w ∈ ws, w < 18446744073709551616) ∧ (∀ t, t < 64 * W → wbit ws t = (decide (t < i) && bits.getD t false)) ∧ Blk h' bw ((ws.map (fun w : Nat => (w : Int))).map (Value.int .u64)) 93,
    fun s _ => (n - s.1).toNat, ⟨0, rfl, by omega, rfl, fun _ _ => rfl, List.replicate W 0, by simp, ?_, ?_, ?_⟩, ?_⟩
  · intro w hw
    rw [List.mem_replicate] at hw
    rw [hw.2]; decide
  · intro t ht
    have h0 : t / 64 < W := by omega
    simp [wbit, List.getD, h0]
  · have := k1.ext x2
    simpa using this
  rintro ⟨si, _⟩ h3 ⟨i, hsi, hin, hsz, hsame, ws, hwl, hwlt, hwb, hblk⟩
  simp only at hsi
  subst hsi
  dsimp only
  have hbvlt : bv < h2.size := k2.lt
  have kv : Blk h3 bv [.int .i64 (n : Int), .slice (some ⟨bw, 0, none⟩) W W, .slice none 0 0] 92 := k2.same (hsame bv (Ne.symm hne))
  rw [Make_b1_eq]
  refine condP (fun hlt => ?_) (fun hge => ?_)
  · have r3 : Rd h3 p n (bits.map Value.bool) := by
      rcases r.2 with h0 | ⟨a, ha, hc⟩
      · omega
      · refine (r.ext x).same fun a' ha' => ?_
        obtain rfl : a = a' := by rw [ha] at ha'; exact Option.some.inj ha'
        have hlt0 : a.block < h.size := by
          have := hc 0 (by omega)
          rw [List.getElem?_eq_getElem (by rw [r.1]; omega)] at this
          have := cell_lt this
          rwa [add_block] at this
        exact hsame _ (by omega)
    refine idx_bool r3 (by omega) (by omega) ?_
    rw [show ((i : Nat) : Int).toNat = i by simp]
    have hnext : ∀ (ws' : List Nat) (h4 : Hp), h4.size = h2.size → (∀ k, k ≠ bw → h4[k]? = h2[k]?) → ws'.length = W → (∀ w ∈ ws', w < 18446744073709551616) → (∀ t, t < 64 * W → wbit ws' t = (decide (t < i + 1) && bits.getD t false)) →
        Blk h4 bw ((ws'.map (fun w : Nat => (w : Int))).map (Value.int .u64)) 93 → ∃ i' : Nat, ((i : Int) + 1) = i' ∧ i' ≤ n ∧ h4.size = h2.size ∧ (∀ k, k ≠ bw → h4[k]? = h2[k]?) ∧
        ∃ ws : List Nat, ws.length = W ∧ (∀ w ∈ ws, w < 18446744073709551616) ∧ (∀ t, t < 64 * W → wbit ws t = (decide (t < i') && bits.getD t false)) ∧ Blk h4 bw ((ws.map (fun w : Nat => (w : Int))).map (Value.int .u64)) 93 :=
      fun ws' h4 a1 a2 a3 a4 a5 a6 => ⟨i + 1, by omega, by omega, a1, a2, ws', a3, a4, a5, a6⟩
    refine cond_intro (fun hbit => ?_) (fun hbit => ?_)
    · refine ⟨_, _, _, (by rw [add_mk]; exact kv.cell 1), ?_⟩
      refine quo_intro (by omega) (by omega) (by omega) ?_
      have e1 : ((i : Int) / 64).toNat = i / 64 := by omega
      have hj : i / 64 < ws.length := by omega
      have hrw : Rd h3 (some ⟨bw, 0, none⟩) W ((ws.map (fun w : Nat => (w : Int))).map (Value.int .u64)) := by
        have := Rd.of_blk hblk (n := W) (by simp; omega)
        rwa [List.take_of_length_le (by simp; omega)] at this
      refine idx_int hrw (by omega) (by omega) ?_
      rw [e1]
      have hwd : (List.map (fun w : Nat => (w : Int)) ws).getD (i / 64) 0 = (ws.getD (i / 64) 0 : Nat) := by simp [List.getD, hj]
      rw [hwd]
      have hw1 : ws.getD (i / 64) 0 < 18446744073709551616 := by
        have : ws.getD (i / 64) 0 = ws[i / 64] := by simp [List.getD, hj]
        rw [this]; exact hwlt _ (List.getElem_mem hj)
      refine rem_intro (by omega) (by omega) ?_
      have e2 : ((i : Int) % 64) = ((i % 64 : Nat) : Int) := by omega
      have hp : 2 ^ (i % 64) < 18446744073709551616 := Nat.lt_of_lt_of_le (Nat.pow_lt_pow_right (by decide) (Nat.mod_lt _ (by decide))) (by decide : 2 ^ 64 ≤ 18446744073709551616)
      have hp1 : 0 < 2 ^ (i % 64) := Nat.two_pow_pos _
      refine shl_intro (x := 1) (s := i % 64) rfl e2 (by simp [IntKind.bits]; omega) (by rw [Nat.one_mul]; exact wrap_u64_in _ (by omega) (by omega)) ?_
      rw [Nat.one_mul]
      refine or_u64 (x := ws.getD (i / 64) 0) (y := 2 ^ (i % 64)) rfl rfl hw1 hp ?_
      refine ⟨⟨by omega, by omega⟩, ?_⟩
      show Wr _ _ _ _
      refine Wr_intro (by rw [add_mk]) hblk (by simp; omega) fun h4 hz4 hs4 k4 => ?_
      rw [Make_b2_eq]
      refine ⟨⟨by omega, by omega⟩, hnext (ws.set (i / 64) (ws.getD (i / 64) 0 ||| 2 ^ (i % 64))) h4 (by omega) (fun k hk => (hs4 k hk).trans (hsame k hk)) (by simp; omega) ?_ ?_ ?_, by simp only; omega⟩
      · intro w hw
        rcases List.mem_or_eq_of_mem_set hw with hw | hw
        · exact hwlt w hw
        · rw [hw]
          have : ws.getD (i / 64) 0 ||| 2 ^ (i % 64) < 2 ^ 64 := Nat.or_lt_two_pow hw1 hp
          omega
      · intro t ht
        rw [wbit_set ws i t hj (by omega), hwb t ht]
        by_cases hti : t = i
        · subst hti; rw [hbit]; simp
        · have : (decide (t < i + 1)) = decide (t < i) := by rw [Bool.eq_iff_iff]; simp; omega
          rw [this]; simp [hti]
      · have e3 : (0 + i / 64 * 1) = i / 64 := by omega
        rw [e3] at k4
        have : ((ws.map (fun w : Nat => (w : Int))).map (Value.int .u64)).set (i / 64) (.int .u64 ((ws.getD (i / 64) 0 ||| 2 ^ (i % 64) : Nat) : Int)) = (((ws.set (i / 64) (ws.getD (i / 64) 0 ||| 2 ^ (i % 64))).map (fun w : Nat => (w : Int))).map (Value.int .u64)) := by
          rw [List.map_set, List.map_set]
        rw [← this]; exact k4
    · rw [Make_b2_eq]
      refine ⟨⟨by omega, by omega⟩, hnext ws h3 hsz hsame hwl hwlt ?_ hblk, by simp only; omega⟩
      intro t ht
      rw [hwb t ht]
      by_cases hti : t = i
      · subst hti; rw [hbit]; simp
      · have : (decide (t < i + 1)) = decide (t < i) := by rw [Bool.eq_iff_iff]; simp; omega
        rw [this]
  · have hi : i = n := by omega
    subst hi
    rw [Make_b3_eq]
    have hrw : Rd h3 (some ⟨bw, 0, none⟩) W ((ws.map (fun w : Nat => (w : Int))).map (Value.int .u64)) := by
      have := Rd.of_blk hblk (n := W) (by simp; omega)
      rwa [List.take_of_length_le (by simp; omega)] at this
    refine (build_ok kv hrw (fun a ha => by cases ha; exact hne) hwlt (by omega)).mono fun v h5 ⟨hv, hz5, hs5, p5, c5, k5, r5⟩ => ?_
    refine ⟨_, hv, ?_, ⟨bv, 0, none⟩, rfl, fun h6 hh => ⟨ws, ?_⟩⟩
    · refine ⟨by have := x.size; omega, fun k hk => ?_⟩
      have hsx := x.size
      rw [hs5 k (by omega) (by omega), hsame k (by omega)]
      exact x.same k hk
    · have hsx := x.size
      have k5 := k5.same (hh bv (by omega) k5.lt)
      have o5 := r5.same fun a ha => hh _ (by have := (r5.lt a ha).1; omega) (r5.lt a ha).2
      have hblk5 : Blk h5 bw ((ws.map (fun w : Nat => (w : Int))).map (Value.int .u64)) 93 := hblk.same (hs5 _ hblk.lt hne)
      have hblk6 := hblk5.same (hh bw (by omega) hblk5.lt)
      have r6 := Rd.of_blk hblk6 (n := W) (by simp; omega)
      rw [List.take_of_length_le (by simp; omega)] at r6
      have r5 := o5.rd
      have hwb' : ∀ t, t < 64 * ws.length → wbit ws t = bits.getD t false := by
        intro t ht
        rw [hwb t (by omega)]
        by_cases hti : t < i
        · simp [hti]
        · have : bits.getD t false = false := by simp [List.getD, List.getElem?_eq_none (show bits.length ≤ t by omega)]
          rw [this]; simp
      refine ⟨?_, ⟨some ⟨bw, 0, none⟩, W, ?_, ?_⟩, ⟨p5, c5, ?_, ?_⟩, by omega, hwlt, hwb', by omega⟩
      · rw [hbl]; exact k5.cell 0
      · rw [add_mk, hwl]; exact k5.cell 1
      · rw [hwl]; exact r6
      · rw [add_mk, hwl]; exact k5.cell 2
      · rw [hwl]
        have e : (List.range (W + 1)).map (fun j => ((pcs ws j : Nat) : Int)) = (List.range (W + 1)).map (fun j => ((cntB bits true (64 * j) : Nat) : Int)) := by
          refine List.map_congr_left fun j hj => ?_
          rw [pcs_cnt hwb' j (by have := List.mem_range.1 hj; omega)]
        rw [← e]; exact r5
theorem Make_ok {h : Hp} {p : Option Addr} {n c : Nat} {bits : List Bool} (r : Rd h p n (bits.map Value.bool)) (hn : n ≤ 65536) :
    HCalls Try.prog 48 #[.slice p n c] h (fun r h' => Ext h h' ∧ ∃ a, r = .tuple #[.pointer (some a), .int .i64 0] ∧ Vec h' a bits) :=
  (Make_loc r hn).mono fun _ _ ⟨x, a, hr, l⟩ => ⟨x, a, hr, l.self⟩
end Go.Proofs.Ytmlfoefadmlhpaa
