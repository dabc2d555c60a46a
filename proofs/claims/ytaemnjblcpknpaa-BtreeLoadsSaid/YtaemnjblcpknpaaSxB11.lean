/- B-trees: Load. -/
import Derived.Test.YtaemnjblcpknpaaSxB10
set_option maxRecDepth 100000
namespace Go.Proofs.Ytaemnjblcpknpaa
open Go Go.Sx
/-- A slice that stays as it is while these blocks are there. -/
def RdS {α : Type} (h0 : Hp) (G : Bag) (T : Ty α) (p : Option Addr) (n : Nat) (xs : List α) : Prop := ∀ h' B, St h0 h' (B + G) → RdT T h' p n xs
theorem RdS.old {α : Type} {h0 : Hp} {G : Bag} {T : Ty α} {p : Option Addr} {n : Nat} {xs : List α} (r : RdT T h0 p n xs) : RdS h0 G T p n xs := fun _ _ s => r.ext s.ext
theorem RdS.own {α : Type} {h0 : Hp} {A G : Bag} {T : Ty α} {p : Option Addr} {n c : Nat} {xs : List α} (a : Sl T p n c xs A) : RdS h0 (A + G) T p n xs := fun _ B s => a.rd (s.to (B := A + (B + G)))
abbrev OkL (l : List E) : Prop := (∀ x ∈ l, KeyP x.1 ∧ KeyP x.2) ∧ Srt l
def loadS (xs l : List E) : List E × Int := if OkL l then (if 2000 < l.length then (xs, 4) else if xs ≠ [] then (xs, 13) else (l, 0)) else (xs, 1)
theorem pair_at {h : Hp} {p : Option Addr} {n : Nat} {l : List E} {i : Int} {Q : Int → Prop} (r : RdT TE h p n l) (h0 : 0 ≤ i) (h1 : i < n) (hq : Q (l.getD i.toNat (0, 0)).1) :
    (0 ≤ i ∧ i < (n : Int)) ∧ NN p fun a => (0 ≤ (0 : Int) ∧ (0 : Int) < ((2 : Nat) : Int)) ∧ ∃ x : Int, cell h ((a.add (Int.toNat i * 2)).add (Int.toNat (0 : Int) * 1)) = some (.int .i64 x) ∧ Q x :=
  r.idx h0 h1 fun _ _ hc => ⟨⟨by omega, by omega⟩, _, hc 0 (show 0 < 2 by decide), hq⟩
theorem pair_at1 {h : Hp} {p : Option Addr} {n : Nat} {l : List E} {i : Int} {Q : Int → Prop} (r : RdT TE h p n l) (h0 : 0 ≤ i) (h1 : i < n) (hq : Q (l.getD i.toNat (0, 0)).2) :
    (0 ≤ i ∧ i < (n : Int)) ∧ NN p fun a => (0 ≤ (1 : Int) ∧ (1 : Int) < ((2 : Nat) : Int)) ∧ ∃ x : Int, cell h ((a.add (Int.toNat i * 2)).add (Int.toNat (1 : Int) * 1)) = some (.int .i64 x) ∧ Q x :=
  r.idx h0 h1 fun _ _ hc => ⟨⟨by omega, by omega⟩, _, hc 1 (show 1 < 2 by decide), hq⟩
theorem pair_load {h : Hp} {p : Option Addr} {n : Nat} {l : List E} {i : Int} {Q : Int → Int → Prop} (r : RdT TE h p n l) (h0 : 0 ≤ i) (h1 : i < n) (hq : Q (l.getD i.toNat (0, 0)).1 (l.getD i.toNat (0, 0)).2) :
    (0 ≤ i ∧ i < (n : Int)) ∧ NN p fun a => ∃ x : Int, ∃ y : Int, cell h (a.add (Int.toNat i * 2)) = some (.int .i64 x) ∧ cell h ((a.add (Int.toNat i * 2)).add 1) = some (.int .i64 y) ∧ Q x y :=
  r.idx h0 h1 fun _ _ hc => ⟨_, _, hc 0 (show 0 < 2 by decide), hc 1 (show 1 < 2 by decide), hq⟩
theorem take_one {l : List E} {i : Nat} (h : i < l.length) : l.take (i + 1) = l.take i ++ [l.getD i (0, 0)] := by
  rw [List.take_succ_eq_append_getElem h]; simp [List.getD, h]
theorem mem_getD {l : List E} {i : Nat} (h : i < l.length) : l.getD i (0, 0) ∈ l := by
  have : l.getD i (0, 0) = l[i] := by simp [List.getD, h]
  rw [this]; exact List.getElem_mem h
theorem srt_get {l : List E} (hs : Srt l) {i j : Nat} (hij : i < j) (hj : j < l.length) : (l.getD i (0, 0)).1 < (l.getD j (0, 0)).1 := by
  have e1 : l.getD i (0, 0) = l[i] := by simp [List.getD, (show i < l.length by omega)]
  have e2 : l.getD j (0, 0) = l[j] := by simp [List.getD, hj]
  rw [e1, e2]
  exact List.pairwise_iff_getElem.1 hs i j (by omega) hj hij
theorem srt_take_one {l : List E} {i : Nat} (h : i < l.length) (hs : Srt (l.take i)) (hl : 0 < i → (l.getD (i - 1) (0, 0)).1 < (l.getD i (0, 0)).1) : Srt (l.take (i + 1)) := by
  rw [take_one h, Srt.app]
  refine ⟨hs, by simp, fun x hx y hy => ?_⟩
  simp at hy
  subst hy
  obtain ⟨j, hj, rfl⟩ := List.getElem_of_mem hx
  rw [List.length_take] at hj
  have h1 := hl (by omega)
  have e1 : (l.take i)[j]'(by rw [List.length_take]; omega) = l.getD j (0, 0) := by
    rw [List.getElem_take]; simp [List.getD, (show j < l.length by omega)]
  rw [e1]
  rcases Nat.lt_or_ge j (i - 1) with h2 | h2
  · have h3 := srt_get hs (i := j) (j := i - 1) h2 (by rw [List.length_take]; omega)
    have g : ∀ k, k < i → (l.take i).getD k (0, 0) = l.getD k (0, 0) := fun k hk => by simp [List.getD, hk]
    rw [g _ (by omega), g _ (by omega)] at h3
    exact Int.lt_trans h3 h1
  · have : j = i - 1 := by omega
    subst this; exact h1
theorem Load_ok {h0 h : Hp} {order tb : Nat} {xs l : List E} {vis : Int} {p : Option Addr} {n c : Nat} {A G : Bag} (hor : 3 ≤ order) (h64 : order ≤ 64) (ta : TreeA order xs tb vis A) (hl : RdS h0 G TE p n l) (hn : n ≤ 1000000) (s : St h0 h (A + G)) :
    HCalls Try.prog 11 #[ptr tb, .slice p n c] h (fun v h' => ∃ A', v = .int .i64 (loadS xs l).2 ∧ TreeA order (loadS xs l).1 tb vis A' ∧ St h0 h' (A' + G)) := by
  have hlen := (hl h A s).len
  refine btree_Tree_Load_call ?_
  rw [btree_Tree_Load_b0_eq]
  refine condNo rfl ?_
  have bad : ∀ h', ¬ OkL l → St h0 h' (A + G) → ∃ A', Value.int .i64 1 = .int .i64 (loadS xs l).2 ∧ TreeA order (loadS xs l).1 tb vis A' ∧ St h0 h' (A' + G) := by
    intro h' hb s'
    rw [loadS, if_neg hb]
    exact ⟨A, rfl, ta, s'⟩
  refine ⟨fun x h' => ∃ i : Nat, x.1 = i ∧ i ≤ n ∧ OkL (l.take i) ∧ St h0 h' (A + G), fun x _ => n - x.1.toNat, ⟨0, rfl, by omega, ⟨fun x hx => by simp at hx, by simp⟩, s⟩, ?_⟩
  rintro ⟨_, _⟩ h1 ⟨i, rfl, hin, hok, s1⟩
  dsimp only
  rw [btree_Tree_Load_b1_eq]
  refine condP (fun hlt => ?_) (fun hge => ?_)
  · have hil : i < l.length := by omega
    refine pair_load (hl h1 A s1) (by omega) (by omega) ?_
    rw [Int.toNat_natCast]
    refine s1.new (cs := [.int .i64 0, .int .i64 0]) fun b1 h2 _ s2 => ?_
    refine s2.wr rfl (by simp) fun h3 s3 => ?_
    refine s3.wr (o := 1) (add_mk _ _ _) (by simp) fun h4 s4 => ?_
    have s4 : St h0 h4 (cA b1 [.int .i64 (l.getD i (0, 0)).1, .int .i64 (l.getD i (0, 0)).2] 40 + (A + G)) := s4
    refine ⟨⟨by omega, by omega⟩, _, s4.cellA 0, ⟨by omega, by omega⟩, _, s4.cellA 1, ?_⟩
    refine s4.new (cs := [.int .i64 (l.getD i (0, 0)).1, .int .i64 (l.getD i (0, 0)).2]) fun b2 h5 _ s5 => ?_
    refine (number2 s5.blk).mono fun v1 h6 ⟨hh, hv⟩ => ?_
    subst hh
    have s6 := s5.drop
    refine ⟨_, hv, condN (fun hk => ?_) (fun hk => ?_)⟩
    · exact bad h6 (fun hb => hk (hb.1 _ (mem_getD hil))) s6.drop
    · have all1 : ∀ x ∈ l.take (i + 1), KeyP x.1 ∧ KeyP x.2 := by
        rw [take_one hil]
        intro x hx
        rcases List.mem_append.1 hx with hx | hx
        · exact hok.1 x hx
        · simp at hx; subst hx; exact hk
      refine condP (fun hpos => ?_) (fun hpos => ?_)
      · refine ⟨⟨by omega, by omega⟩, pair_at (hl h6 A s6.drop) (by omega) (by omega) ⟨⟨by omega, by omega⟩, _, s6.cellA 0, ?_⟩⟩
        have ei : ((i : Int) - 1).toNat = i - 1 := by omega
        rw [ei]
        refine condP (fun hle => ?_) (fun hgt => ?_)
        · exact bad h6 (fun hb => by have := srt_get hb.2 (i := i - 1) (j := i) (by omega) hil; omega) s6.drop
        · rw [btree_Tree_Load_b2_eq]
          exact ⟨⟨by omega, by omega⟩, ⟨i + 1, by simp only; omega, by omega, ⟨all1, srt_take_one hil hok.2 (fun _ => by omega)⟩, s6.drop⟩, by simp only; omega⟩
      · rw [btree_Tree_Load_b2_eq]
        exact ⟨⟨by omega, by omega⟩, ⟨i + 1, by simp only; omega, by omega, ⟨all1, srt_take_one hil hok.2 (fun h => by omega)⟩, s6.drop⟩, by simp only; omega⟩
  · obtain rfl : n = i := by omega
    rw [List.take_of_length_le (by omega)] at hok
    rw [btree_Tree_Load_b3_eq]
    refine condP (fun h2 => ?_) (fun h2 => ?_)
    · rw [loadS, if_pos hok, if_pos (by omega)]
      exact ⟨A, rfl, ta, s1⟩
    · obtain ⟨root, A1, hA, _⟩ := ta.vis
      have s2 : St h0 h1 (treeC tb order xs.length root vis + (A1 + G)) := by rw [hA] at s1; exact s1.to
      refine ⟨_, s2.cellA 1, condP (fun h3 => ?_) (fun h3 => ?_)⟩
      · have hne : xs ≠ [] := fun h => by rw [h] at h3; simp at h3
        rw [loadS, if_pos hok, if_neg (by omega), if_pos hne]
        exact ⟨A, rfl, ta, s1⟩
      · have hx : xs = [] := List.eq_nil_of_length_eq_zero (by omega)
        subst hx
        rw [btree_Tree_Load_b4_eq]
        rw [loadS, if_pos hok, if_neg (by omega), if_neg (by simp)]
        refine ⟨fun x h' => ∃ (i : Nat) (A' : Bag), x.1 = i ∧ i ≤ n ∧ TreeA order (l.take i) tb vis A' ∧ St h0 h' (A' + G), fun x _ => n - x.1.toNat, ⟨0, A, rfl, by omega, ta, s1⟩, ?_⟩
        rintro ⟨_, _⟩ h4 ⟨j, A', rfl, hjn, ta', s4⟩
        dsimp only
        rw [btree_Tree_Load_b5_eq]
        refine condP (fun hlt => ?_) (fun hge => ?_)
        · have hjl : j < l.length := by omega
          refine pair_load (hl h4 A' s4) (by omega) (by omega) ?_
          rw [Int.toNat_natCast]
          refine s4.new (cs := [.int .i64 0, .int .i64 0]) fun b1 h5 _ s5 => ?_
          refine s5.wr rfl (by simp) fun h6 s6 => ?_
          refine s6.wr (o := 1) (add_mk _ _ _) (by simp) fun h7 s7 => ?_
          have s7 : St h0 h7 (cA b1 [.int .i64 (l.getD j (0, 0)).1, .int .i64 (l.getD j (0, 0)).2] 40 + (A' + G)) := s7
          refine ⟨⟨by omega, by omega⟩, _, s7.cellA 0, ⟨by omega, by omega⟩, _, s7.cellA 1, ?_⟩
          have hst : Srt (l.take j) := hok.2.sublist (List.take_sublist _ _)
          have htl : (l.take j).length = j := by rw [List.length_take]; omega
          refine (put_ok (key := (l.getD j (0, 0)).1) (value := (l.getD j (0, 0)).2) hor h64 hst (by omega) ta' s7.drop).mono fun v8 h8 ⟨A8, X, Y, hxy, hX, hY, s8, hr⟩ => ?_
          have hY0 : Y = [] := by
            cases Y with
            | nil => rfl
            | cons y Y =>
              have hy : y ∈ l.take j := by rw [hxy]; simp
              obtain ⟨k, hk, hke⟩ := List.getElem_of_mem hy
              rw [List.length_take] at hk
              have e1 : (l.take j)[k]'(by rw [List.length_take]; omega) = l.getD k (0, 0) := by rw [List.getElem_take]; simp [List.getD, (show k < l.length by omega)]
              have h1 := srt_get hok.2 (i := k) (j := j) (by omega) hjl
              have h2 := hY y (by simp)
              rw [← hke, e1] at h2
              omega
          subst hY0
          rw [List.append_nil] at hxy
          subst hxy
          rcases hr with ⟨old, Y', w, hw, _⟩ | ⟨_, hle, _⟩ | ⟨_, _, w, _, hv8, ta8⟩
          · cases hw
          · omega
          · refine ⟨_, _, _, _, hv8, ?_⟩
            rw [btree_Tree_Load_b6_eq]
            refine ⟨⟨by omega, by omega⟩, ⟨j + 1, A8, by simp only; omega, by omega, ?_, s8⟩, by simp only; omega⟩
            rw [take_one hjl]; exact ta8
        · obtain rfl : n = j := by omega
          rw [List.take_of_length_le (by omega)] at ta'
          rw [btree_Tree_Load_b7_eq]
          exact ⟨A', rfl, ta', s4⟩
end Go.Proofs.Ytaemnjblcpknpaa
