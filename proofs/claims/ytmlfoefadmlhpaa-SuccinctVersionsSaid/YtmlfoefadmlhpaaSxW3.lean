/- Part W3 of the proof: contracts of functions of the program, and what follows from them. -/
import Derived.Test.YtmlfoefadmlhpaaSxW2
set_option maxRecDepth 10000
namespace Go.Proofs.Ytmlfoefadmlhpaa
open Go Go.Sx

theorem el_int : ElemOk Try.prog 22 3 := elemB_spec (by kernel_rfl)
theorem el_bool : ElemOk Try.prog 52 4 := elemB_spec (by kernel_rfl)

/-- The ones of the first words. -/
def pcs (ws : List Nat) : Nat → Nat
  | 0 => 0
  | j + 1 => pcs ws j + pc (ws.getD j 0) 64
theorem pcs_le (ws : List Nat) : ∀ j, pcs ws j ≤ 64 * j
  | 0 => Nat.le_refl _
  | j + 1 => by have := pcs_le ws j; have := pc_le (ws.getD j 0) 64; simp only [pcs]; omega

theorem build_ok {h : Hp} {bv W cw : Nat} {pw : Option Addr} {n : Int} {ws : List Nat} (hb : Blk h bv [.int .i64 n, .slice pw W cw, .slice none 0 0] 92)
    (hr : Rd h pw W ((ws.map (fun w : Nat => (w : Int))).map (Value.int .u64))) (hpw : ∀ a, pw = some a → a.block ≠ bv) (hlt : ∀ w ∈ ws, w < 18446744073709551616) (hW : W ≤ 100000) :
    HCalls Try.prog 70 #[.pointer (some ⟨bv, 0, none⟩)] h (fun r h' => r = .pointer (some ⟨bv, 0, none⟩) ∧ h.size ≤ h'.size ∧ (∀ k, k < h.size → k ≠ bv → h'[k]? = h[k]?) ∧
      ∃ p c, Blk h' bv [.int .i64 n, .slice pw W cw, .slice p (W + 1) c] 92 ∧ Own h' h.size 3 p (W + 1) c (((List.range (W + 1)).map (fun j => ((pcs ws j : Nat) : Int))).map (Value.int .i64))) := by
  have hbv := hb.lt
  have hwl : ws.length = W := by have := hr.len; simpa using this
  refine build_call ?_
  rw [build_b0_eq]
  show ∃ _ _ _, _
  refine ⟨_, _, _, hb.cell 1, ?_⟩
  refine ⟨fun s h' => ∃ j : Nat, j ≤ W ∧ s.1 = (pcs ws j : Nat) ∧ s.2.1 = (j : Int) ∧ h.size ≤ h'.size ∧ (∀ k, k < h.size → k ≠ bv → h'[k]? = h[k]?) ∧
      ∃ p c, Blk h' bv [.int .i64 n, .slice pw W cw, .slice p j c] 92 ∧ Own h' h.size 3 p j c (((List.range j).map (fun j => ((pcs ws j : Nat) : Int))).map (Value.int .i64)),
    fun s _ => (W - s.2.1).toNat, ⟨0, by omega, rfl, rfl, Nat.le_refl _, fun _ _ _ => rfl, none, 0, hb, .inl ⟨rfl, rfl, rfl, rfl⟩⟩, ?_⟩
  rintro ⟨st, sj, _⟩ h1 ⟨j, hjW, hst, hsj, hsz, hsame, p, c, hblk, hown⟩
  simp only at hst hsj
  subst hst hsj
  dsimp only
  have hpl := pcs_le ws j
  rw [build_b1_eq]
  have hr1 : Rd h1 pw W ((ws.map (fun w : Nat => (w : Int))).map (Value.int .u64)) := by
    by_cases hW0 : W = 0
    · exact ⟨hr.1, .inl hW0⟩
    · rcases hr.2 with h0 | ⟨a, ha, hc⟩
      · exact ⟨hr.1, .inl h0⟩
      · refine hr.same fun a' ha' => ?_
        have hlt0 : a.block < h.size := by
          have := hc 0 (by omega)
          rw [List.getElem?_eq_getElem (by rw [hr.1]; omega)] at this
          have := cell_lt this
          rwa [add_block] at this
        obtain rfl : a = a' := by rw [ha] at ha'; exact Option.some.inj ha'
        exact hsame _ hlt0 (hpw _ ha)
  refine condP (fun hlt' => ?_) (fun hge => ?_)
  · refine idx_int hr1 (by omega) (by omega) ?_
    refine ⟨_, _, _, (by rw [add_mk]; exact hblk.cell 2), ?_⟩
    refine push_own el_int hown hsz rfl (by omega) fun p' c' h2 hown2 hg => ?_
    have hblk2 : Blk h2 bv [.int .i64 n, .slice pw W cw, .slice p j c] 92 := hblk.same (hg.same _ hblk.lt fun a ha => by have := (hown.lt a ha).1; omega)
    refine Wr_intro (add_mk bv 0 2) hblk2 (by simp) fun h3 hz3 hs3 hblk3 => ?_
    have hjl : j < ws.length := by omega
    have hwd : (List.map (fun w : Nat => (w : Int)) ws).getD ((j : Int)).toNat 0 = (ws.getD j 0 : Nat) := by simp [List.getD, hjl]
    rw [hwd]
    have hwlt : ws.getD j 0 < 18446744073709551616 := by
      have : ws.getD j 0 = ws[j] := by simp [List.getD, hjl]
      rw [this]; exact hlt _ (List.getElem_mem hjl)
    refine (ones64_ok _ hwlt h3).mono fun r h4 ⟨hr4, hh⟩ => ?_
    subst hh
    have hp64 := pc_le (ws.getD j 0) 64
    refine ⟨_, hr4, ⟨by omega, by omega⟩, ?_⟩
    rw [build_b2_eq]
    refine ⟨⟨by omega, by omega⟩, ⟨j + 1, by omega, by simp only [pcs]; omega, by simp only; omega, ?_, ?_, p', c', hblk3, ?_⟩, by simp only; omega⟩
    · have := hg.size; omega
    · intro k hk hne
      rw [hs3 k hne, hg.same k (by omega) fun a ha => by have := (hown.lt a ha).1; omega]
      exact hsame k hk hne
    · have e : List.map (Value.int IntKind.i64) (List.map (fun j => ((pcs ws j : Nat) : Int)) (List.range (j + 1))) = List.map (Value.int IntKind.i64) (List.map (fun j => ((pcs ws j : Nat) : Int)) (List.range j)) ++ [.int .i64 (pcs ws j : Nat)] := by
        rw [List.range_succ]; simp
      rw [e]
      exact hown2.same fun a ha => hs3 _ (by have := (hown2.lt a ha).1; omega)
  · have : j = W := by omega
    subst this
    rw [build_b3_eq]
    refine ⟨_, _, _, (by rw [add_mk]; exact hblk.cell 2), ?_⟩
    refine push_own el_int hown hsz rfl (by omega) fun p' c' h2 hown2 hg => ?_
    have hblk2 : Blk h2 bv [.int .i64 n, .slice pw j cw, .slice p j c] 92 := hblk.same (hg.same _ hblk.lt fun a ha => by have := (hown.lt a ha).1; omega)
    refine Wr_intro (add_mk bv 0 2) hblk2 (by simp) fun h3 hz3 hs3 hblk3 => ?_
    refine ⟨rfl, by have := hg.size; omega, ?_, p', c', hblk3, ?_⟩
    · intro k hk hne
      rw [hs3 k hne, hg.same k (by omega) fun a ha => by have := (hown.lt a ha).1; omega]
      exact hsame k hk hne
    · have e : List.map (Value.int IntKind.i64) (List.map (fun j => ((pcs ws j : Nat) : Int)) (List.range (j + 1))) = List.map (Value.int IntKind.i64) (List.map (fun j => ((pcs ws j : Nat) : Int)) (List.range j)) ++ [.int .i64 (pcs ws j : Nat)] := by
        rw [List.range_succ]; simp
      rw [e]
      exact hown2.same fun a ha => hs3 _ (by have := (hown2.lt a ha).1; omega)
end Go.Proofs.Ytmlfoefadmlhpaa
