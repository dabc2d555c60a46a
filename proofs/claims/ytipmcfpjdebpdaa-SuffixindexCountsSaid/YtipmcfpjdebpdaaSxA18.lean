/- Part P51 A10 A11 P52 A12 A13 A14 A15 R1 FBX P53 A17 A18 of the proof: contracts of functions of the program, and what follows from them. -/
import Derived.Test.YtipmcfpjdebpdaaSxP50
import Derived.Test.YtipmcfpjdebpdaaSxSI
import Derived.Deep.Slices
import Derived.OpenShut
import Derived.Test.YtipmcfpjdebpdaaRows
import Derived.WalkKit
import Derived.ProofKit
import Derived.ShutString
import Derived.ChangeOld
import Derived.Below
import Derived.ChangeMaps5
import Derived.Deep.Grids
/- Backward search in plain lists: from where to where a pattern's rows reach. -/
namespace Go.Sx
theorem ltL_cons (a b : Int) (r t : List Int) : ltL (a :: r) (b :: t) ↔ a < b ∨ (a = b ∧ ltL r t) := by simp only [ltL]
def loC (s O X : List Int) : Nat := O.countP fun i => decide (ltL (suf s i) X)
def hiC (s O X : List Int) : Nat := O.countP fun i => decide (¬ ltL X ((suf s i).take X.length))
theorem take_mono {a b : List Int} (m : Nat) (h : ltL a b) : ¬ ltL (b.take m) (a.take m) := fun hc => ltL_asymm h (ltL_of_take hc)
theorem lo_down {X a b : List Int} (h : ltL a b) (hb : decide (ltL b X) = true) : decide (ltL a X) = true := by
  rw [decide_eq_true_eq] at *
  exact ltL_trans h hb
theorem hi_down {X a b : List Int} (h : ltL a b) (hb : decide (¬ ltL X (b.take X.length)) = true) : decide (¬ ltL X (a.take X.length)) = true := by
  rw [decide_eq_true_eq] at *
  intro hc
  have h1 := take_mono X.length h
  rcases ltL_tri (a.take X.length) (b.take X.length) with h2 | h2 | h2
  · exact hb (ltL_trans hc h2)
  · rw [h2] at hc; exact hb hc
  · exact h1 h2
section
variable {s O : List Int} (hs : ∀ x ∈ s, 0 ≤ x) (hp : O.Perm (iota (s.length + 1))) (hw : SufS s O)
include hs hp hw
theorem lo_step {c : Int} (hc : 0 ≤ c) (X : List Int) : loC s O (c :: X) = 1 + (O.map (prevB s)).countP (fun x => decide (0 ≤ x ∧ x < c)) + ((O.map (prevB s)).take (loC s O X)).countP (fun x => decide (x = c)) :=
  back_step hs hp hw hc (D := fun a => decide (ltL a X)) (D' := fun a => decide (ltL a (c :: X))) (fun _ _ => lo_down) (by rw [decide_eq_true_eq]; exact trivial) fun y t => by
    rw [decide_eq_true_eq, decide_eq_true_eq, ltL_cons]
theorem hi_step {c : Int} (hc : 0 ≤ c) (X : List Int) : hiC s O (c :: X) = 1 + (O.map (prevB s)).countP (fun x => decide (0 ≤ x ∧ x < c)) + ((O.map (prevB s)).take (hiC s O X)).countP (fun x => decide (x = c)) :=
  back_step hs hp hw hc (D := fun a => decide (¬ ltL X (a.take X.length))) (D' := fun a => decide (¬ ltL (c :: X) (a.take (c :: X).length))) (fun _ _ => hi_down) (by rw [decide_eq_true_eq, List.take_nil]; exact ltL_nil' _) fun y t => by
    rw [decide_eq_true_eq, decide_eq_true_eq, List.length_cons, List.take_succ_cons, ltL_cons]
    constructor
    · intro h
      rcases Int.lt_trichotomy y c with h1 | h1 | h1
      · exact .inl h1
      · exact .inr ⟨h1, fun h2 => h (.inr ⟨h1.symm, h2⟩)⟩
      · exact absurd (.inl h1) h
    · rintro (h | ⟨rfl, h⟩) (h' | ⟨_, h'⟩)
      · omega
      · omega
      · omega
      · exact h h'
end
theorem lo_nil (s O : List Int) : loC s O [] = 0 := by
  unfold loC
  rw [List.countP_eq_zero]
  intro i _
  rw [decide_eq_true_eq]
  exact ltL_nil' _
theorem hi_nil (s O : List Int) : hiC s O [] = O.length := by
  unfold hiC
  rw [List.countP_eq_length]
  intro i _
  rw [decide_eq_true_eq]
  simp [ltL]
theorem pre_iff {a X : List Int} : (¬ ltL X (a.take X.length) ∧ ¬ ltL a X) ↔ a.take X.length = X := by
  constructor
  · rintro ⟨h1, h2⟩
    rcases ltL_tri (a.take X.length) X with h | h | h
    · refine absurd (ltL_of_take (m := X.length) ?_) h2
      rwa [List.take_length]
    · exact h
    · exact absurd h h1
  · intro h
    refine ⟨by rw [h]; exact ltL_irr _, fun hc => ?_⟩
    have h3 := ltL_take X.length a.length a X
    rw [List.take_of_length_le (l := a) (by omega), List.take_of_length_le (l := X) (by omega), List.take_length, h, List.drop_length, List.take_nil] at h3
    rcases h3.1 hc with h4 | ⟨_, h4⟩
    · exact ltL_irr _ h4
    · exact ltL_nil' _ h4
theorem not_lt_take : ∀ (a : List Int) (m : Nat), ¬ ltL a (a.take m)
  | a, 0 => by rw [List.take_zero]; exact ltL_nil' _
  | [], m + 1 => by rw [List.take_nil]; exact ltL_nil' _
  | x :: r, m + 1 => by
    rw [List.take_succ_cons, ltL_cons]
    rintro (h | ⟨_, h⟩)
    · omega
    · exact not_lt_take r m h
theorem lo_le (s O X : List Int) : loC s O X ≤ hiC s O X := by
  unfold loC hiC
  refine List.countP_mono_left fun i _ h => ?_
  rw [decide_eq_true_eq] at *
  exact fun hc => not_lt_take _ _ (ltL_trans h hc)
theorem hi_le (s O X : List Int) : hiC s O X ≤ O.length := List.countP_le_length
/-- The rows between are those with the pattern. -/
theorem rows_mem {s O : List Int} (hp : O.Perm (iota (s.length + 1))) (hw : SufS s O) (X : List Int) (x : Int) : x ∈ rng O (loC s O X) (hiC s O X) ↔ x ∈ O ∧ (suf s x).take X.length = X := by
  have e1 : O.take (loC s O X) = O.filter fun i => decide (ltL (suf s i) X) := take_countP (R := fun a b => ltL (suf s a) (suf s b)) (fun a b h hb => lo_down h hb) hw
  have e2 : O.take (hiC s O X) = O.filter fun i => decide (¬ ltL X ((suf s i).take X.length)) := take_countP (R := fun a b => ltL (suf s a) (suf s b)) (fun a b h hb => hi_down h hb) hw
  have e3 := rng_take O (lo_le s O X)
  have hnd : (O.take (hiC s O X)).Nodup := (hp.nodup_iff.2 (iota_nodup _)).sublist (List.take_sublist _ _)
  rw [e3] at hnd
  have h1 : x ∈ O.take (loC s O X) ↔ x ∈ O ∧ ltL (suf s x) X := by rw [e1, List.mem_filter, decide_eq_true_eq]
  have h2 : x ∈ O.take (hiC s O X) ↔ x ∈ O ∧ ¬ ltL X ((suf s x).take X.length) := by rw [e2, List.mem_filter, decide_eq_true_eq]
  rw [e3, List.mem_append] at h2
  rw [← pre_iff]
  constructor
  · intro h
    have h3 := h2.1 (.inr h)
    exact ⟨h3.1, h3.2, fun hc => (List.nodup_append.1 hnd).2.2 x (h1.2 ⟨h3.1, hc⟩) x h rfl⟩
  · rintro ⟨ho, h3, h4⟩
    rcases h2.2 ⟨ho, h3⟩ with h | h
    · exact absurd (h1.1 h).2 h4
    · exact h
end Go.Sx

/- The index: rank, rows. -/
set_option maxRecDepth 100000
namespace Go.Proofs.Ytipmcfpjdebpdaa
open Go Go.Sx
theorem blkA {h : Hp} {b : Nat} {cs : List Value} {e : TypeId} (cb : Blk h b cs e) (o : Nat) : cell h ((⟨b, 0, none⟩ : Addr).add o) = cs[o]? := by
  rw [add_mk, Nat.zero_add]; exact cb.cell o
theorem eqN_countP (l : List Int) (c : Int) : eqN l c = l.countP fun x => decide (x = c) := by unfold eqN; rw [List.countP_eq_length_filter]
theorem ltN_countP (l : List Int) (c : Int) : ltN l c = l.countP fun x => decide (0 ≤ x ∧ x < c) := by unfold ltN; rw [List.countP_eq_length_filter]
theorem cntU_eqN (l : List Int) (c : Int) (i : Nat) : cntU l 0 c i = eqN (l.take i) c := by
  unfold cntU eqN
  simp only [up_zero]
theorem eqN_app (l t : List Int) (c : Int) : eqN (l ++ t) c = eqN l c + eqN t c := by unfold eqN; rw [List.filter_append, List.length_append]
theorem del_eqN {L : List Int} {p i : Nat} {c : Int} (hp : p < L.length) (hv : L.getD p 0 = -1) (hc : 0 ≤ c) (hi : i ≤ L.length) : eqN ((delL L p).take (if p < i then i - 1 else i)) c = eqN (L.take i) c := by
  unfold delL
  by_cases h : p < i
  · rw [if_pos h, List.take_append, List.take_of_length_le (by rw [List.length_take]; omega), List.length_take]
    have e : L.take i = L.take p ++ (L.getD p 0 :: (L.drop (p + 1)).take (i - 1 - p)) := by
      conv => lhs; rw [show i = p + (i - p) by omega, List.take_add]
      congr 1
      rw [List.drop_eq_getElem_cons hp, show i - p = (i - 1 - p) + 1 by omega, List.take_succ_cons]
      simp [List.getD, hp]
    rw [e, eqN_app, eqN_app, show min p L.length = p by omega]
    congr 1
    rw [hv, show (-1 : Int) :: (L.drop (p + 1)).take (i - 1 - p) = [-1] ++ (L.drop (p + 1)).take (i - 1 - p) from rfl, eqN_app]
    have : eqN [-1] c = 0 := by
      unfold eqN
      rw [List.filter_cons, if_neg (by rw [decide_eq_true_eq]; omega)]; rfl
    omega
  · rw [if_neg h, List.take_append_of_le_length (by rw [List.length_take]; omega), List.take_take, show min i p = i by omega]
section
variable {h : Hp} {xb : Nat} {s : ByteArray} {O : List Int} {pl : Nat} {op : Option Addr} {oc tb H : Nat}
theorem IX.c0 (x : IX h xb s O pl op oc tb H) : cell h ⟨xb, 0, none⟩ = some (.string s) := x.blk.cell 0
theorem IX.c1 (x : IX h xb s O pl op oc tb H) : cell h ((⟨xb, 0, none⟩ : Addr).add 1) = some (.slice op (s.size + 1) oc) := blkA x.blk 1
theorem IX.c2 (x : IX h xb s O pl op oc tb H) : cell h ((⟨xb, 0, none⟩ : Addr).add 2) = some (.int .i64 (pl : Int)) := blkA x.blk 2
theorem IX.c260 (x : IX h xb s O pl op oc tb H) : cell h ((⟨xb, 0, none⟩ : Addr).add 260) = some (ptr tb) := by
  have := blkA x.blk 260
  rw [this, List.getElem?_append_right (by rw [List.length_append, List.length_map, firsts_len]; exact Nat.le_refl _), List.length_append, List.length_map, firsts_len]
  rfl
theorem IX.cf (x : IX h xb s O pl op oc tb H) {c : Nat} (hc : c < 257) : cell h (((⟨xb, 0, none⟩ : Addr).add 3).add (c * 1)) = some (.int .i64 ((1 + ltN (bwtL (bs s) O) c : Nat) : Int)) := by
  have := blkA x.blk (3 + c)
  rw [add_add, Nat.mul_one, this, List.getElem?_append_left (by rw [List.length_append, List.length_map, firsts_len]; show 3 + c < 3 + 257; omega), List.getElem?_append_right (by show 3 ≤ 3 + c; omega)]
  show ((firsts (bwtL (bs s) O)).map (Value.int .i64))[3 + c - 3]? = _
  rw [Nat.add_sub_cancel_left, List.getElem?_map]
  have h1 := firsts_get (l := bwtL (bs s) O) hc
  have h2 : c < (firsts (bwtL (bs s) O)).length := by rw [firsts_len]; exact hc
  rw [List.getElem?_eq_getElem h2]
  rw [List.getD_eq_getElem?_getD, List.getElem?_eq_getElem h2] at h1
  show some (Value.int .i64 _) = _
  rw [← h1]; rfl
theorem rank_x (x : IX h xb s O pl op oc tb H) {c i : Nat} (hc : c < 256) (hi : i ≤ s.size + 1) :
    HCalls Try.prog 58 #[ptr xb, .int .u8 (c : Int), .int .i64 (i : Int)] h (fun v h' => v = .int .i64 (eqN ((bwtL (bs s) O).take i) c : Nat) ∧ Ext h h') := by
  obtain ⟨hol, _⟩ := SA0_range x.sa
  rw [bs_len] at hol
  have hbw := bwtL_len (bs s) O
  have hpl := x.at_.1
  have hlen := x.len
  have hdl := delL_len (L := bwtL (bs s) O) (p := pl) (by omega)
  have hv : (bwtL (bs s) O).getD pl 0 = -1 := by rw [bwtL_get hpl, if_pos x.at_.2]
  have key := del_eqN (c := (c : Int)) (i := i) (show pl < (bwtL (bs s) O).length by omega) hv (by omega) (by omega)
  refine suffixindex_Index_rank_call ?_
  rw [suffixindex_Index_rank_b0_eq]
  have go : ∀ i' : Nat, i' ≤ s.size → eqN ((delL (bwtL (bs s) O) pl).take i') c = eqN ((bwtL (bs s) O).take i) c → suffixindex_Index_rank_b1 (some ⟨xb, 0, none⟩) c i' h (fun v h' => v = .int .i64 (eqN ((bwtL (bs s) O).take i) c : Nat) ∧ Ext h h') := fun i' hi' e => by
    rw [suffixindex_Index_rank_b1_eq]
    refine ⟨_, x.c260, ⟨by omega, by omega⟩, (Rank_w x.wt c i').mono fun v h1 ⟨hv, x1⟩ => ?_⟩
    rw [if_pos ⟨by omega, by omega, by omega, by omega⟩, Int.toNat_natCast, cntU_eqN, e] at hv
    exact ⟨_, _, hv, rfl, x1⟩
  refine ⟨_, x.c2, condP (fun h1 => ⟨⟨by omega, by omega⟩, ?_⟩) (fun h1 => ?_)⟩
  · rw [if_pos (by omega)] at key
    rw [show (i : Int) - 1 = ((i - 1 : Nat) : Int) by omega]
    exact go _ (by omega) key
  · rw [if_neg (by omega)] at key
    exact go _ (by omega) key
theorem rows_x (x : IX h xb s O pl op oc tb H) (p : ByteArray) (hp : p.size ≤ 4096) :
    HCalls Try.prog 43 #[ptr xb, .string p] h (fun v h' => ∃ f t : Nat, v = .tuple #[.int .i64 (f : Int), .int .i64 (t : Int)] ∧ t ≤ s.size + 1 ∧ Ext h h' ∧ ((f = loC (bs s) O (bs p) ∧ t = hiC (bs s) O (bs p)) ∨ (t ≤ f ∧ ∀ z ∈ O, (suf (bs s) z).take (bs p).length ≠ bs p))) := by
  obtain ⟨hol, _⟩ := SA0_range x.sa
  have hbl := bs_len s
  have hpl := bs_len p
  rw [hbl] at hol
  have hlen := x.len
  have hs0 : ∀ y ∈ bs s, 0 ≤ y := fun y hy => (bs_range hy).1
  refine suffixindex_Index_rows_call ?_
  rw [suffixindex_Index_rows_b0_eq]
  refine ⟨_, _, _, x.c1, ⟨by omega, by omega⟩, ?_⟩
  refine ⟨fun q h' => ∃ j : Nat, j ≤ p.size ∧ q.2.2.1 = (j : Int) - 1 ∧ q.1 = (loC (bs s) O ((bs p).drop j) : Nat) ∧ q.2.1 = (hiC (bs s) O ((bs p).drop j) : Nat) ∧ Ext h h', fun q _ => (q.2.2.1 + 1).toNat, ⟨p.size, Nat.le_refl _, rfl, ?_, ?_, .refl _⟩, ?_⟩
  · rw [List.drop_eq_nil_of_le (by omega), lo_nil]; rfl
  · rw [List.drop_eq_nil_of_le (by omega), hi_nil, hol]
  rintro ⟨_, _, _, _⟩ h1 ⟨j, hj, rfl, rfl, rfl, x1⟩
  dsimp only
  have hhi := hi_le (bs s) O ((bs p).drop j)
  have hlo := lo_le (bs s) O ((bs p).drop j)
  rw [suffixindex_Index_rows_b1_eq]
  refine condP (fun h0 => condP (fun hlt => ?_) (fun hge => ?_)) (fun h0 => ?_)
  · obtain ⟨k, rfl⟩ : ∃ k, j = k + 1 := ⟨j - 1, by omega⟩
    rw [suffixindex_Index_rows_b2_eq]
    rw [show ((k + 1 : Nat) : Int) - 1 = (k : Int) by omega]
    have hb := bs_byte (s := p) k
    have eb : ((p.data.toList.getD (Int.toNat (k : Int)) 0).toNat : Int) = (bs p).getD k 0 := by rw [Int.toNat_natCast]; exact bs_get (by omega)
    simp only [eb]
    obtain ⟨c, hc⟩ := Int.eq_ofNat_of_zero_le hb.1
    have hdk : (bs p).drop k = (c : Int) :: (bs p).drop (k + 1) := by
      rw [List.drop_eq_getElem_cons (by omega)]
      congr 1
      rw [← hc]
      simp [List.getD, show k < (bs p).length by omega]
    rw [hc] at hb ⊢
    have x0 := x.ext x1
    have l1 := lo_step hs0 x.sa.1 x.sa.2 (c := (c : Int)) (by omega) ((bs p).drop (k + 1))
    have l2 := hi_step hs0 x.sa.1 x.sa.2 (c := (c : Int)) (by omega) ((bs p).drop (k + 1))
    rw [← hdk] at l1 l2
    have eL : O.map (prevB (bs s)) = bwtL (bs s) O := rfl
    rw [eL, ← ltN_countP, ← eqN_countP] at l1 l2
    have n1 := ltN_le (bwtL (bs s) O) c
    have n2 := eqN_le ((bwtL (bs s) O).take (loC (bs s) O ((bs p).drop (k + 1)))) c
    have n3 := eqN_le ((bwtL (bs s) O).take (hiC (bs s) O ((bs p).drop (k + 1)))) c
    rw [List.length_take] at n2 n3
    have hbw := bwtL_len (bs s) O
    have cf := x0.cf (c := c) (by omega)
    refine ⟨⟨by omega, by omega⟩, ⟨by omega, by omega⟩, _, cf, ⟨by omega, by omega⟩, ⟨by omega, by omega⟩, ?_⟩
    refine (rank_x x0 (c := c) (i := loC (bs s) O ((bs p).drop (k + 1))) (by omega) (by omega)).mono fun v h2 ⟨hv, x2⟩ => ⟨_, hv, ⟨⟨by omega, by omega⟩, trivial⟩, ⟨by omega, by omega⟩, ?_⟩
    refine (rank_x (x0.ext x2) (c := c) (i := hiC (bs s) O ((bs p).drop (k + 1))) (by omega) (by omega)).mono fun v h3 ⟨hv, x3⟩ => ⟨_, hv, ⟨by omega, by omega⟩, ?_⟩
    rw [suffixindex_Index_rows_b4_eq]
    refine ⟨⟨by omega, by omega⟩, ⟨k, by omega, rfl, ?_, ?_, (x1.trans x2).trans x3⟩, by dsimp only; omega⟩
    · rw [l1]; push_cast; rfl
    · rw [l2]; push_cast; rfl
  · rw [suffixindex_Index_rows_b3_eq]
    refine ⟨_, _, rfl, by omega, x1, .inr ⟨by omega, fun z hz hc => ?_⟩⟩
    have hzr := mem_iota.1 (x.sa.1.mem_iff.1 hz)
    have hlz : p.size ≤ (suf (bs s) z).length := by
      have := congrArg List.length hc
      rw [List.length_take] at this
      omega
    have hsl := suf_len (bs s) (n := z) (by omega) (by omega)
    have hm : z + j ∈ O := x.sa.1.mem_iff.2 (mem_iota.2 (by omega))
    have e : (suf (bs s) (z + j)).take ((bs p).drop j).length = (bs p).drop j := by
      have e1 : suf (bs s) (z + j) = (suf (bs s) z).drop j := by
        unfold suf
        rw [List.drop_drop, show (z + j).toNat = z.toNat + j by omega]
      rw [e1, List.length_drop, ← List.drop_take, hc]
    have := (rows_mem x.sa.1 x.sa.2 ((bs p).drop j) (z + j)).2 ⟨hm, e⟩
    rw [show hiC (bs s) O ((bs p).drop j) = loC (bs s) O ((bs p).drop j) by omega] at this
    unfold rng at this
    rw [List.drop_eq_nil_of_le (by rw [List.length_take]; omega)] at this
    cases this
  · obtain rfl : j = 0 := by omega
    rw [suffixindex_Index_rows_b3_eq]
    exact ⟨_, _, rfl, by omega, x1, .inl ⟨rfl, rfl⟩⟩
end
end Go.Proofs.Ytipmcfpjdebpdaa

/- The index: Locate, Count, Extract, Len, Space; the reference's Locate. -/
set_option maxRecDepth 100000
namespace Go.Proofs.Ytipmcfpjdebpdaa
open Go Go.Sx
/-- Where a pattern occurs. -/
def LocIs (s P l : List Int) : Prop := l.Pairwise (· < ·) ∧ ∀ x, x ∈ l ↔ (0 ≤ x ∧ x ≤ s.length) ∧ (suf s x).take P.length = P
theorem locIs_uniq {s P l l' : List Int} (h : LocIs s P l) (h' : LocIs s P l') : l = l' :=
  strictExt (fun a b h1 h2 => by omega) h.1 h'.1 fun x => by rw [h.2, h'.2]
theorem inc_ge {l : List Int} (hw : l.Pairwise (· < ·)) (h0 : ∀ x ∈ l, 0 ≤ x) : ∀ i, (hi : i < l.length) → (i : Int) ≤ l[i] := by
  intro i
  induction i with
  | zero => intro hi; exact h0 _ (List.getElem_mem hi)
  | succ i ih =>
    intro hi
    have h1 := ih (by omega)
    have h2 := List.pairwise_iff_getElem.1 hw i (i + 1) (by omega) hi (by omega)
    push_cast
    omega
theorem locIs_len {s P l : List Int} (h : LocIs s P l) : l.length ≤ s.length + 1 := by
  rcases Nat.eq_zero_or_pos l.length with h0 | h0
  · omega
  · have h1 := inc_ge h.1 (fun x hx => ((h.2 x).1 hx).1.1) (l.length - 1) (by omega)
    have h2 := ((h.2 _).1 (List.getElem_mem (show l.length - 1 < l.length by omega))).1.2
    omega
section
variable {h : Hp} {xb : Nat} {s : ByteArray} {O : List Int} {pl : Nat} {op : Option Addr} {oc tb H : Nat}
theorem Locate_x (x : IX h xb s O pl op oc tb H) (p : ByteArray) :
    HCalls Try.prog 21 #[ptr xb, .string p] h (fun v h' => if 4096 < p.size then v = .tuple #[.slice none 0 0, .int .i64 4] ∧ h' = h else ∃ q n d A l, v = .tuple #[.slice q n d, .int .i64 0] ∧ Sl TI q n d l A ∧ St h h' A ∧ LocIs (bs s) (bs p) l) := by
  obtain ⟨hol, _⟩ := SA0_range x.sa
  have hbl := bs_len s
  rw [hbl] at hol
  have hlen := x.len
  refine suffixindex_Index_Locate_call ?_
  rw [suffixindex_Index_Locate_b0_eq]
  refine condNo rfl (suffixindex_long_call ?_)
  rw [suffixindex_long_b0_eq]
  refine ⟨_, rfl, condP (fun h1 => ?_) (fun h1 => ?_)⟩
  · rw [if_pos (by omega)]; exact ⟨rfl, rfl⟩
  simp only [if_neg (show ¬ 4096 < p.size by omega)]
  rw [suffixindex_Index_Locate_b1_eq]
  refine (rows_x x p (by omega)).mono fun v h2 ⟨f, t, hv, ht, x2, hft⟩ => ⟨_, _, hv, ?_⟩
  have hmem : ∀ z, z ∈ O ↔ 0 ≤ z ∧ z ≤ s.size := fun z => by
    rw [x.sa.1.mem_iff, mem_iota, hbl]; omega
  refine condP (fun hle => ?_) (fun hlt => ?_)
  · refine ⟨none, 0, 0, 0, [], rfl, Sl.nil, (St.start h).grow x2, List.Pairwise.nil, fun z => ⟨fun hz => (by cases hz), fun ⟨hz, hpz⟩ => ?_⟩⟩
    rw [hbl, ← hmem] at hz
    rcases hft with ⟨rfl, rfl⟩ | ⟨_, hno⟩
    · have := (rows_mem x.sa.1 x.sa.2 (bs p) z).2 ⟨hz, hpz⟩
      unfold rng at this
      rw [List.drop_eq_nil_of_le (by rw [List.length_take]; omega)] at this
      cases this
    · exact absurd hpz (hno z hz)
  · obtain ⟨rfl, rfl⟩ : f = loC (bs s) O (bs p) ∧ t = hiC (bs s) O (bs p) := by
      rcases hft with h | ⟨h, _⟩
      · exact h
      · omega
    generalize hf : loC (bs s) O (bs p) = f at *
    generalize htt : hiC (bs s) O (bs p) = t at *
    have hoc := x.oc
    have x0 := x.ext x2
    refine ⟨_, _, _, x0.c1, ⟨by omega, by omega, by omega⟩, ?_⟩
    simp only [Int.toNat_natCast]
    have rr : RdT TI h2 (subAddr op oc f 1) (t - f) (rng O f t) := by
      have r2 := (x0.rd.sub (c := oc) (i := f) (m := s.size + 1 - f) (by omega) x.oc rfl).take (i := t - f) (by omega)
      rw [show (O.drop f).take (t - f) = rng O f t by unfold rng; rw [List.drop_take]] at r2
      exact r2
    refine (cloneI_w rr (by omega)).mono fun v h3 ⟨q, d, A, hv, o, st⟩ => ⟨_, _, _, hv, ?_⟩
    refine (sortOI (P := fun _ => True) (st.to (B := A + 0)) o (fun _ _ => trivial) (by omega)).mono fun v h4 ⟨hv, ys, A', o', st', hp, hw⟩ => ⟨hv, ?_⟩
    have hnd : (rng O f t).Nodup := (x.sa.1.nodup_iff.2 (iota_nodup _)).sublist ((List.drop_sublist _ _).trans (List.take_sublist _ _))
    have hnd2 := hp.nodup_iff.2 hnd
    rw [List.nodup_iff_pairwise_ne] at hnd2
    refine ⟨q, t - f, d, A', ys, rfl, o', (st'.base x2).left, (hw.and hnd2).imp fun ⟨h1, h2⟩ => by omega, fun z => ?_⟩
    rw [hp.mem_iff, ← hf, ← htt, rows_mem x.sa.1 x.sa.2, hmem, hbl]
theorem Count_x (x : IX h xb s O pl op oc tb H) (p : ByteArray) :
    HCalls Try.prog 20 #[ptr xb, .string p] h (fun v h' => Ext h h' ∧ if 4096 < p.size then v = .tuple #[.int .i64 0, .int .i64 4] else ∃ l, LocIs (bs s) (bs p) l ∧ v = .tuple #[.int .i64 (l.length : Int), .int .i64 0]) := by
  refine suffixindex_Index_Count_call ?_
  rw [suffixindex_Index_Count_b0_eq]
  refine (Locate_x x p).mono fun v h1 hv => ?_
  by_cases hc : 4096 < p.size
  · rw [if_pos hc] at hv
    obtain ⟨hv, rfl⟩ := hv
    exact ⟨_, _, _, _, hv, .refl _, by rw [if_pos hc]; rfl⟩
  · rw [if_neg hc] at hv
    obtain ⟨q, n, d, A, l, hv, o, st, hl⟩ := hv
    exact ⟨_, _, _, _, hv, st.ext, by rw [if_neg hc]; exact ⟨l, hl, by rw [o.len]⟩⟩
theorem Extract_x (x : IX h xb s O pl op oc tb H) (a b : Int) :
    HCalls Try.prog 22 #[ptr xb, .int .i64 a, .int .i64 b] h (fun v h' => h' = h ∧ v = if 0 ≤ a ∧ a ≤ b ∧ b ≤ s.size then .tuple #[.string (s.extract a.toNat b.toNat), .int .i64 0] else .tuple #[.string (⟨#[]⟩ : ByteArray), .int .i64 2]) := by
  refine suffixindex_Index_Extract_call ?_
  rw [suffixindex_Index_Extract_b0_eq]
  refine condNo rfl (condP (fun h1 => ⟨rfl, by rw [if_neg (by omega)]⟩) (fun h1 => condP (fun h2 => ⟨rfl, by rw [if_neg (by omega)]⟩) (fun h2 => ⟨_, x.c0, condP (fun h3 => ⟨rfl, by rw [if_neg (by omega)]⟩) (fun h3 => ?_)⟩)))
  rw [suffixindex_Index_Extract_b1_eq, if_pos ⟨by omega, by omega, by omega⟩]
  exact ⟨_, x.c0, ⟨by omega, by omega, by omega⟩, rfl, rfl⟩
end
theorem take_pre {s : ByteArray} {p : ByteArray} {i : Nat} (h : i + p.size ≤ s.size) : strEq (s.extract i (i + p.size)) p = decide ((suf (bs s) (i : Int)).take (bs p).length = bs p) := by
  rw [strEq_bs, bs_ext]
  refine decide_eq_decide.2 ?_
  have : ((bs s).take (i + p.size)).drop i = (suf (bs s) (i : Int)).take (bs p).length := by
    unfold suf
    rw [Int.toNat_natCast, bs_len, List.drop_take, Nat.add_sub_cancel_left]
  rw [this]
end Go.Proofs.Ytipmcfpjdebpdaa

/- Common prefixes along a sorted order. -/
namespace Go.Sx
theorem lcp_ge : ∀ (a b : List Int) (m : Nat), m ≤ lcp a b ↔ (a.take m = b.take m ∧ m ≤ a.length ∧ m ≤ b.length)
  | [], b, m => by
    have : lcp [] b = 0 := by cases b <;> rfl
    rw [this]
    constructor
    · intro h; rw [show m = 0 by omega]; simp
    · intro h; simpa using h.2.1
  | x :: r, [], m => by
    have : lcp (x :: r) [] = 0 := rfl
    rw [this]
    constructor
    · intro h; rw [show m = 0 by omega]; simp
    · intro h; simpa using h.2.2
  | x :: r, y :: t, 0 => by simp
  | x :: r, y :: t, m + 1 => by
    rw [List.take_succ_cons, List.take_succ_cons, List.cons.injEq, List.length_cons, List.length_cons]
    have ih := lcp_ge r t m
    unfold lcp
    by_cases h : x = y
    · rw [if_pos h]
      constructor
      · intro h1
        obtain ⟨a, b, c⟩ := ih.1 (by omega)
        exact ⟨⟨h, a⟩, by omega, by omega⟩
      · rintro ⟨⟨_, a⟩, b, c⟩
        have := ih.2 ⟨a, by omega, by omega⟩
        omega
    · rw [if_neg h]
      constructor
      · intro h1; omega
      · rintro ⟨⟨a, _⟩, _⟩; exact absurd a h
/-- What lies between two lists with the same prefix has it. -/
theorem squeeze {a b c : List Int} {m : Nat} (h1 : ltL a b ∨ a = b) (h2 : ltL b c ∨ b = c) (h : a.take m = c.take m) : b.take m = a.take m := by
  have k1 : ¬ ltL (b.take m) (a.take m) := by
    rcases h1 with h1 | rfl
    · exact take_mono m h1
    · exact ltL_irr _
  have k2 : ¬ ltL (c.take m) (b.take m) := by
    rcases h2 with h2 | rfl
    · exact take_mono m h2
    · exact ltL_irr _
  rw [← h] at k2
  rcases ltL_tri (b.take m) (a.take m) with h3 | h3 | h3
  · exact absurd h3 k1
  · exact h3
  · exact absurd h3 k2
section
variable {s l : List Int} (hw : SufS s l)
include hw
theorem suf_le {i j : Nat} (hij : i ≤ j) (hj : j < l.length) : ltL (suf s (l.getD i 0)) (suf s (l.getD j 0)) ∨ suf s (l.getD i 0) = suf s (l.getD j 0) := by
  rcases Nat.lt_or_ge i j with h | h
  · have ei : l.getD i 0 = l[i] := by simp [List.getD, show i < l.length by omega]
    have ej : l.getD j 0 = l[j] := by simp [List.getD, hj]
    rw [ei, ej]
    exact .inl (List.pairwise_iff_getElem.1 hw i j (by omega) hj h)
  · rw [show i = j by omega]; exact .inr rfl
/-- The rows that have the prefix of the first greatest common one. -/
theorem run_rows {at_ run k : Nat} (h0 : 0 < at_) (hr : at_ + run ≤ l.length) (hrun : 0 < run) (hk : 0 < k)
    (hC : ∀ i, at_ ≤ i → i < at_ + run → k ≤ lcp (suf s (l.getD (i - 1) 0)) (suf s (l.getD i 0)))
    (hpre : ∀ i, 0 < i → i < at_ → lcp (suf s (l.getD (i - 1) 0)) (suf s (l.getD i 0)) < k)
    (hpost : at_ + run < l.length → lcp (suf s (l.getD (at_ + run - 1) 0)) (suf s (l.getD (at_ + run) 0)) < k)
    {j : Nat} (hj : j < l.length) : ((suf s (l.getD j 0)).take k = (suf s (l.getD at_ 0)).take k) ↔ (at_ - 1 ≤ j ∧ j < at_ + run) := by
  have chain : ∀ i, at_ - 1 ≤ i → i < at_ + run → (suf s (l.getD i 0)).take k = (suf s (l.getD at_ 0)).take k ∧ k ≤ (suf s (l.getD i 0)).length := by
    have h1 := (lcp_ge _ _ _).1 (hC at_ (Nat.le_refl _) (by omega))
    intro i hi
    induction i with
    | zero =>
      intro _
      have : at_ = 1 := by omega
      subst this
      exact ⟨h1.1, h1.2.1⟩
    | succ i ih =>
      intro hlt
      rcases Nat.lt_or_ge i (at_ - 1) with h | h
      · have : i + 1 = at_ - 1 := by omega
        rw [this]
        exact ⟨h1.1, h1.2.1⟩
      · have ih := ih h (by omega)
        have h2 := (lcp_ge _ _ _).1 (hC (i + 1) (by omega) hlt)
        rw [Nat.add_sub_cancel] at h2
        exact ⟨h2.1.symm.trans ih.1, h2.2.2⟩
  have hlen := (chain at_ (by omega) (by omega)).2
  constructor
  · intro he
    have hjl : k ≤ (suf s (l.getD j 0)).length := by
      have := congrArg List.length he
      rw [List.length_take, List.length_take] at this
      omega
    refine ⟨Classical.byContradiction fun hn => ?_, Classical.byContradiction fun hn => ?_⟩
    · -- before the run
      have c1 := chain (at_ - 1) (Nat.le_refl _) (by omega)
      have e : (suf s (l.getD j 0)).take k = (suf s (l.getD (at_ - 1) 0)).take k := he.trans c1.1.symm
      have sq := squeeze (suf_le hw (show j ≤ at_ - 2 by omega) (by omega)) (suf_le hw (show at_ - 2 ≤ at_ - 1 by omega) (by omega)) e
      have hl2 : k ≤ (suf s (l.getD (at_ - 2) 0)).length := by
        have := congrArg List.length sq
        rw [List.length_take, List.length_take] at this
        omega
      have h3 := (lcp_ge (suf s (l.getD (at_ - 2) 0)) (suf s (l.getD (at_ - 1) 0)) k).2 ⟨sq.trans e, hl2, c1.2⟩
      have h4 := hpre (at_ - 1) (by omega) (by omega)
      rw [show at_ - 1 - 1 = at_ - 2 by omega] at h4
      omega
    · have c1 := chain (at_ + run - 1) (by omega) (by omega)
      have e : (suf s (l.getD (at_ + run - 1) 0)).take k = (suf s (l.getD j 0)).take k := c1.1.trans he.symm
      have sq := squeeze (suf_le hw (show at_ + run - 1 ≤ at_ + run by omega) (by omega)) (suf_le hw (show at_ + run ≤ j by omega) hj) e
      have hl2 : k ≤ (suf s (l.getD (at_ + run) 0)).length := by
        have := congrArg List.length sq
        rw [List.length_take, List.length_take] at this
        have := c1.2
        omega
      have h3 := (lcp_ge (suf s (l.getD (at_ + run - 1) 0)) (suf s (l.getD (at_ + run) 0)) k).2 ⟨sq.symm, c1.2, hl2⟩
      have h4 := hpost (by omega)
      omega
  · rintro ⟨h1, h2⟩
    exact (chain j h1 h2).1
end
end Go.Sx

/- Repeated. -/
set_option maxRecDepth 100000
namespace Go.Proofs.Ytipmcfpjdebpdaa
open Go Go.Sx
theorem Max_ok {h : Hp} {p : Option Addr} {n c : Nat} {l : List Int} (r : RdT TI h p n l) (h0 : 0 < n) (hn : n < 1000000) :
    HCalls Try.prog 37 #[.slice p n c] h (fun v h' => h' = h ∧ ∃ m : Int, v = .int .i64 m ∧ (∃ i, i < n ∧ l.getD i 0 = m) ∧ ∀ i, i < n → l.getD i 0 ≤ m) := by
  refine slices_Max_Sint_int_call ?_
  rw [slices_Max_Sint_int_b0_eq]
  refine condP (fun h1 => by omega) (fun _ => ?_)
  rw [slices_Max_Sint_int_b1_eq]
  refine ldI (i' := 0) r rfl h0 ?_
  refine ⟨fun q h' => h' = h ∧ ∃ i : Nat, q.2.1 = i ∧ 1 ≤ i ∧ i ≤ n ∧ (∃ j, j < n ∧ l.getD j 0 = q.1) ∧ ∀ j, j < i → l.getD j 0 ≤ q.1, fun q _ => (n - q.2.1).toNat, ⟨rfl, 1, rfl, Nat.le_refl _, h0, ⟨0, h0, rfl⟩, fun j hj => by rw [show j = 0 by omega]; exact Int.le_refl _⟩, ?_⟩
  rintro ⟨m, _, _⟩ h1 ⟨rfl, i, rfl, hi1, hi2, hex, hall⟩
  dsimp only at hex hall ⊢
  rw [slices_Max_Sint_int_b2_eq]
  refine condP (fun hlt => ?_) (fun hge => ?_)
  · refine ldI (i' := i) r rfl (by omega) ?_
    rw [slices_Max_Sint_int_b3_eq]
    refine ⟨⟨by omega, by omega⟩, ⟨rfl, i + 1, by push_cast; rfl, by omega, by omega, ?_, fun j hj => ?_⟩, by dsimp only; omega⟩
    · dsimp only; split
      · exact ⟨i, by omega, rfl⟩
      · exact hex
    · dsimp only
      rcases Nat.lt_or_ge j i with h | h
      · have := hall j h; split <;> omega
      · rw [show j = i by omega]; split <;> omega
  · rw [slices_Max_Sint_int_b4_eq]
    exact ⟨rfl, m, rfl, hex, fun j hj => hall j (by omega)⟩
theorem Index_ok {h : Hp} {p : Option Addr} {n c : Nat} {l : List Int} (r : RdT TI h p n l) (hn : n < 1000000) {v : Int} (hex : ∃ i, i < n ∧ l.getD i 0 = v) :
    HCalls Try.prog 38 #[.slice p n c, .int .i64 v] h (fun w h' => h' = h ∧ ∃ a : Nat, w = .int .i64 (a : Int) ∧ a < n ∧ l.getD a 0 = v ∧ ∀ j, j < a → l.getD j 0 ≠ v) := by
  refine slices_Index_Sint_int_call ?_
  rw [slices_Index_Sint_int_b0_eq]
  refine ⟨fun q h' => h' = h ∧ ∃ i : Nat, q.1 = i ∧ i ≤ n ∧ ∀ j, j < i → l.getD j 0 ≠ v, fun q _ => (n - q.1).toNat, ⟨rfl, 0, rfl, Nat.zero_le _, fun j hj => by omega⟩, ?_⟩
  rintro ⟨_, _⟩ h1 ⟨rfl, i, rfl, hi, hall⟩
  dsimp only
  rw [slices_Index_Sint_int_b1_eq]
  refine condP (fun hlt => ldI (i' := i) r rfl (by omega) (condP (fun he => ⟨rfl, i, rfl, by omega, he.symm, hall⟩) (fun he => ?_))) (fun hge => ?_)
  · rw [slices_Index_Sint_int_b2_eq]
    refine ⟨⟨by omega, by omega⟩, ⟨rfl, i + 1, by push_cast; rfl, by omega, fun j hj => ?_⟩, by dsimp only; omega⟩
    rcases Nat.lt_or_ge j i with h | h
    · exact hall j h
    · rw [show j = i by omega]; exact fun h => he h.symm
  · obtain ⟨j, hj, he⟩ := hex
    exact absurd he (hall j (by omega))
/-- What Repeated answers. -/
def RepIs (s : ByteArray) (r : Value) : Prop := ∃ l, SA (bs s) l ∧ ((r = .tuple #[.string (⟨#[]⟩ : ByteArray), .int .i64 0, .int .i64 12] ∧ ∀ i, i < l.length → (comL (bs s) l).getD i 0 = 0) ∨
  ∃ (a k : Nat) (P : List Int), a < l.length ∧ (comL (bs s) l).getD a 0 = (k : Int) ∧ 0 < k ∧ (∀ i, i < l.length → (comL (bs s) l).getD i 0 ≤ k) ∧ (∀ i, i < a → (comL (bs s) l).getD i 0 < k) ∧ LocIs (bs s) (bs (s.extract (l.getD a 0).toNat (l.getD a 0 + k).toNat)) P ∧ l.getD a 0 + k ≤ s.size ∧
    r = .tuple #[.string (s.extract (l.getD a 0).toNat (l.getD a 0 + k).toNat), .int .i64 (P.length : Int), .int .i64 0])
theorem repIs_uniq {s : ByteArray} {r r' : Value} (h : RepIs s r) (h' : RepIs s r') : r = r' := by
  obtain ⟨l, hsa, h⟩ := h
  obtain ⟨l', hsa', h'⟩ := h'
  obtain rfl := SA_uniq hsa hsa'
  rcases h with ⟨rfl, h⟩ | ⟨a, k, P, h1, h2, h3, h4, h5, h6, _, rfl⟩ <;> rcases h' with ⟨rfl, h'⟩ | ⟨a', k', P', h1', h2', h3', h4', h5', h6', _, rfl⟩
  · rfl
  · have := h a' h1'; omega
  · have := h' a h1; omega
  · have e1 := h4 a' h1'
    have e2 := h4' a h1
    obtain rfl : k = k' := by omega
    obtain rfl : a = a' := by
      rcases Nat.lt_trichotomy a a' with h | h | h
      · have := h5' a h; omega
      · exact h
      · have := h5 a' h; omega
    obtain rfl := locIs_uniq h6 h6'
    rfl
theorem locIs_ex (s P : List Int) : ∃ l, LocIs s P l := by
  refine ⟨(iota (s.length + 1)).filter fun x => decide ((suf s x).take P.length = P), ?_, fun x => ?_⟩
  · refine List.Pairwise.filter _ ?_
    unfold iota
    rw [List.pairwise_map]
    exact List.pairwise_lt_range.imp fun h => Int.ofNat_lt.2 h
  · rw [List.mem_filter, mem_iota, decide_eq_true_eq]
    constructor
    · rintro ⟨h1, h2⟩; exact ⟨by omega, h2⟩
    · rintro ⟨h1, h2⟩; exact ⟨by omega, h2⟩
theorem Repeated_ok {s : ByteArray} (h : Hp) :
    HCalls Try.prog 18 #[.string s] h (fun v h' => Ext h h' ∧ if 4096 < s.size then v = .tuple #[.string (⟨#[]⟩ : ByteArray), .int .i64 0, .int .i64 4] else RepIs s v) := by
  have hbl := bs_len s
  refine suffixindex_Repeated_call ?_
  rw [suffixindex_Repeated_b0_eq]
  refine suffixindex_long_call ?_
  rw [suffixindex_long_b0_eq]
  refine ⟨_, rfl, condP (fun h1 => ?_) (fun h1 => ?_)⟩
  · exact ⟨.refl _, by rw [if_pos (by omega)]⟩
  simp only [if_neg (show ¬ 4096 < s.size by omega)]
  refine (suffixes_ok h (by omega)).mono fun v h2 ⟨q, d, A, l, hv, o, st, hsa⟩ => ⟨_, _, _, hv, ?_⟩
  obtain ⟨hll, hrg⟩ := SA_range hsa
  rw [hbl] at hrg hll
  have st := st.to (B := A + 0)
  have rl := o.rd st
  refine (common_ok rl (by omega) (by omega) fun i hi => by have := hrg i hi; omega).mono fun v h3 ⟨b, A2, hv, o2, st2⟩ => ⟨_, _, _, hv, ?_⟩
  have rc := o2.rd (st2.to (B := A2 + 0))
  have rl := rl.ext st2.ext
  have x3 := st.ext.trans st2.ext
  have hC0 : ∀ i, i < s.size → 0 ≤ (comL (bs s) l).getD i 0 := fun i hi => by
    rw [comL_get (by omega)]; split <;> omega
  refine condP (fun hn => ⟨x3, l, hsa, .inl ⟨rfl, fun i hi => by omega⟩⟩) (fun hn => ?_)
  refine (Max_ok rc (by omega) (by omega)).mono fun v h4 ⟨hh, m, hv, hex, hall⟩ => ⟨_, hv, ?_⟩
  subst hh
  refine condP (fun hm => ⟨x3, l, hsa, .inl ⟨rfl, fun i hi => ?_⟩⟩) (fun hm => ?_)
  · have := hall i (by omega)
    have := hC0 i (by omega)
    omega
  rw [suffixindex_Repeated_b1_eq]
  refine (Max_ok rc (by omega) (by omega)).mono fun v h5 ⟨hh, m2, hv, hex2, hall2⟩ => ⟨_, hv, ?_⟩
  subst hh
  obtain rfl : m = m2 := by
    obtain ⟨i, hi, e⟩ := hex
    obtain ⟨j, hj, e2⟩ := hex2
    have := hall j hj
    have := hall2 i hi
    omega
  refine (Index_ok rc (by omega) hex).mono fun v h5 ⟨hh, a, hv, ha, hae, hab⟩ => ⟨_, hv, ?_⟩
  subst hh
  have hmp : 0 < m := by have := hC0 a ha; omega
  obtain ⟨k, rfl⟩ := Int.eq_ofNat_of_zero_le (show 0 ≤ m by omega)
  have ha0 : 0 < a := by
    rcases Nat.eq_zero_or_pos a with h | h
    · subst h
      rw [comL_get (by omega), if_pos rfl] at hae
      omega
    · exact h
  have hCg : ∀ i, 0 < i → i < s.size → (comL (bs s) l).getD i 0 = (lcp (suf (bs s) (l.getD (i - 1) 0)) (suf (bs s) (l.getD i 0)) : Int) := fun i h0 h1 => comL_one h0 (by omega)
  refine ⟨fun q h' => h' = h5 ∧ ∃ run : Nat, q.1 = (run : Int) + 1 ∧ q.2.1 = ((a + run : Nat) : Int) ∧ a + run ≤ s.size ∧ ∀ i, a ≤ i → i < a + run → (comL (bs s) l).getD i 0 = k, fun q _ => (s.size - q.2.1).toNat, ⟨rfl, 0, rfl, rfl, by omega, fun i h1 h2 => by omega⟩, ?_⟩
  rintro ⟨_, _, _⟩ h6 ⟨rfl, run, rfl, rfl, hru, hrun⟩
  dsimp only
  have fin : (a + run = s.size ∨ (a + run < s.size ∧ (comL (bs s) l).getD (a + run) 0 < k)) → suffixindex_Repeated_b4 s q s.size d k a ((run : Int) + 1) h6 (fun v h' => Ext h h' ∧ RepIs s v) := fun hend => by
    have hrpos : 0 < run := by
      rcases Nat.eq_zero_or_pos run with h | h
      · subst h
        rcases hend with h | ⟨_, h⟩
        · omega
        · rw [Nat.add_zero, hae] at h; omega
      · exact h
    have hla := hrg a ha
    have hlc : k ≤ lcp (suf (bs s) (l.getD (a - 1) 0)) (suf (bs s) (l.getD a 0)) := by
      have := hCg a ha0 ha
      omega
    have hkl := ((lcp_ge _ _ _).1 hlc).2.2
    have hsl := suf_len (bs s) (n := l.getD a 0) (by omega) (by omega)
    have hw : bs (s.extract (l.getD a 0).toNat (l.getD a 0 + k).toNat) = (suf (bs s) (l.getD a 0)).take k := by
      rw [bs_ext]
      unfold suf
      rw [List.drop_take]
      congr 1
      omega
    have hwl : (bs (s.extract (l.getD a 0).toNat (l.getD a 0 + k).toNat)).length = k := by
      rw [hw, List.length_take]; omega
    obtain ⟨P, hP⟩ := locIs_ex (bs s) (bs (s.extract (l.getD a 0).toNat (l.getD a 0 + k).toNat))
    have hrows : ∀ j, j < l.length → ((suf (bs s) (l.getD j 0)).take k = (suf (bs s) (l.getD a 0)).take k ↔ (a - 1 ≤ j ∧ j < a + run)) := fun j hj =>
      run_rows hsa.2 ha0 (by omega) hrpos (by omega) (fun i h1 h2 => by
        have e1 := hrun i h1 h2
        rw [hCg i (by omega) (by omega)] at e1
        omega) (fun i h1 h2 => by
        have e1 := hab i h2
        have e2 := hall i (by omega)
        rw [hCg i h1 (by omega)] at e1 e2
        omega) (fun h1 => by
        rcases hend with h | ⟨h, h'⟩
        · omega
        · rw [hCg (a + run) (by omega) h] at h'
          omega) hj
    have hlen : P.length = run + 1 := by
      have hPn : P.Nodup := by rw [List.nodup_iff_pairwise_ne]; exact hP.1.imp fun h => by omega
      have hln := hsa.1.nodup_iff.2 (iota_nodup _)
      have hRn : (rng l (a - 1) (a + run)).Nodup := hln.sublist ((List.drop_sublist _ _).trans (List.take_sublist _ _))
      have hperm : P.Perm (rng l (a - 1) (a + run)) := (List.perm_ext_iff_of_nodup hPn hRn).2 fun x => by
        rw [hP.2, hwl, hw]
        constructor
        · rintro ⟨hx, he⟩
          have hxn : x < s.size := by
            have h1 := congrArg List.length he
            rw [List.length_take, List.length_take] at h1
            have h2 := suf_len (bs s) (n := x) (by omega) (by omega)
            omega
          obtain ⟨j, hj, rfl⟩ := List.getElem_of_mem (hsa.1.mem_iff.2 (mem_iota.2 ⟨hx.1, by omega⟩))
          have ej : l.getD j 0 = l[j] := by simp [List.getD, hj]
          have h1 := (hrows j hj).1 (by rw [ej]; exact he)
          unfold rng
          rw [List.mem_iff_getElem]
          exact ⟨j - (a - 1), by rw [List.length_drop, List.length_take]; omega, by rw [List.getElem_drop, List.getElem_take]; congr 1; omega⟩
        · intro hx
          obtain ⟨j, hj, rfl⟩ := List.getElem_of_mem hx
          unfold rng at hj ⊢
          rw [List.length_drop, List.length_take] at hj
          rw [List.getElem_drop, List.getElem_take]
          have hj2 : a - 1 + j < l.length := by omega
          have ej : l.getD (a - 1 + j) 0 = l[a - 1 + j] := by simp [List.getD, hj2]
          have h1 := (hrows (a - 1 + j) hj2).2 (by omega)
          have h2 := hrg (a - 1 + j) (by omega)
          rw [ej] at h1 h2
          exact ⟨by omega, h1⟩
      rw [hperm.length_eq, rng_len l (by omega)]
      omega
    rw [suffixindex_Repeated_b4_eq]
    refine ldI (i' := a) rl rfl ha (ldI (i' := a) rl rfl ha ⟨⟨by omega, by omega⟩, ⟨by omega, by omega, by omega⟩, x3, l, hsa, .inr ⟨a, k, P, by omega, hae, by omega, fun i hi => hall i (by omega), fun i hi => ?_, hP, by omega, ?_⟩⟩)
    · have := hall i (by omega)
      have := hab i hi
      omega
    · rw [hlen]; push_cast; rfl
  rw [suffixindex_Repeated_b2_eq]
  refine condP (fun hlt => ldI (i' := a + run) rc rfl (by omega) (condP (fun hge => ?_) (fun hl => ?_))) (fun hge => ?_)
  · rw [suffixindex_Repeated_b3_eq]
    refine ⟨⟨by omega, by omega⟩, ?_⟩
    rw [suffixindex_Repeated_b5_eq]
    refine ⟨⟨by omega, by omega⟩, ⟨rfl, run + 1, by push_cast; rfl, by push_cast; omega, by omega, fun i h1 h2 => ?_⟩, by dsimp only; omega⟩
    rcases Nat.lt_or_ge i (a + run) with h | h
    · exact hrun i h1 h
    · have := hall (a + run) (by omega)
      rw [show i = a + run by omega]
      omega
  · exact fin (.inr ⟨by omega, by omega⟩)
  · exact fin (.inl (by omega))
end Go.Proofs.Ytipmcfpjdebpdaa

/- The reference: Repeated; the example. -/
set_option maxRecDepth 100000
namespace Go.Proofs.Ytipmcfpjdebpdaa
open Go Go.Sx
end Go.Proofs.Ytipmcfpjdebpdaa

/- The example. -/
set_option maxRecDepth 100000
namespace Go.Proofs.Ytipmcfpjdebpdaa
open Go Go.Sx
abbrev banana : ByteArray := ⟨#[98, 97, 110, 97, 110, 97]⟩
abbrev ana : ByteArray := ⟨#[97, 110, 97]⟩
theorem ban_bs : bs banana = [98, 97, 110, 97, 110, 97] := rfl
theorem ana_bs : bs ana = [97, 110, 97] := rfl
theorem ban_SA : SA (bs banana) [5, 3, 1, 0, 4, 2] := by
  rw [ban_bs]
  refine ⟨?_, ?_⟩
  · decide
  · unfold SufS; decide
theorem ban_com : comL (bs banana) [5, 3, 1, 0, 4, 2] = [0, 1, 3, 0, 0, 2] := by rw [ban_bs]; decide
theorem ban_bwt : bwtL (bs banana) [6, 5, 3, 1, 0, 4, 2] = [97, 110, 110, 98, -1, 97, 97] := by rw [ban_bs]; decide
theorem ban_loc : LocIs (bs banana) (bs ana) [1, 3] := by
  rw [ban_bs, ana_bs]
  refine ⟨by decide, fun x => ?_⟩
  constructor
  · intro hx
    rcases List.mem_cons.1 hx with rfl | hx
    · exact ⟨by decide, by decide⟩
    · rw [List.mem_singleton.1 hx]; exact ⟨by decide, by decide⟩
  · rintro ⟨⟨h0, h1⟩, he⟩
    obtain ⟨k, rfl⟩ := Int.eq_ofNat_of_zero_le h0
    have h1 : k ≤ 6 := by
      have : (k : Int) ≤ 6 := h1
      omega
    rcases (by omega : k = 0 ∨ k = 1 ∨ k = 2 ∨ k = 3 ∨ k = 4 ∨ k = 5 ∨ k = 6) with rfl | rfl | rfl | rfl | rfl | rfl | rfl
    · exact absurd he (by decide)
    · decide
    · exact absurd he (by decide)
    · decide
    · exact absurd he (by decide)
    · exact absurd he (by decide)
    · exact absurd he (by decide)
theorem ban_rep : RepIs banana (.tuple #[.string ana, .int .i64 2, .int .i64 0]) := by
  refine ⟨_, ban_SA, .inr ⟨2, 3, [1, 3], by decide, ?_, by decide, ?_, ?_, ?_, by decide, rfl⟩⟩
  · rw [ban_com]; rfl
  · rw [ban_com]; decide
  · rw [ban_com]; decide
  · exact ban_loc
theorem Awake_s (h : Hp) : HCalls Try.prog 10 #[] h (fun v h' => Ext h h' ∧ v = .bool true) := by
  have hsz : banana.size = 6 := rfl
  refine l30_awake_call ?_
  rw [l30_awake_b0_eq]
  refine (Suffixes_ok (s := banana) h).mono fun v h1 hv => ?_
  rw [if_neg (by decide)] at hv
  obtain ⟨q1, d1, A1, l1, hv, o1, st1, sa1⟩ := hv
  obtain rfl := SA_uniq sa1 ban_SA
  refine ⟨_, _, _, _, hv, ?_⟩
  have r1 := o1.rd (st1.to (B := A1 + 0))
  have x1 := st1.ext
  refine (Common_ok (s := banana) h1).mono fun v h2 hv => ?_
  rw [if_neg (by decide)] at hv
  obtain ⟨q2, d2, l2, hv, sa2, r2, x2⟩ := hv
  obtain rfl := SA_uniq sa2 ban_SA
  rw [ban_com] at r2
  refine ⟨_, _, _, _, hv, ?_⟩
  refine (Transform_ok (s := banana) h2).mono fun v h3 hv => ?_
  rw [if_neg (by decide)] at hv
  obtain ⟨q3, d3, O3, pl, hv, _, sa3, r3, x3, hpl⟩ := hv
  obtain rfl := SA0_uniq sa3 (SA_cons ban_SA)
  obtain rfl := plAt_uniq sa3 hpl (q := 4) ⟨by decide, by decide⟩
  have eb : bwtL (bs banana) (((bs banana).length : Int) :: [5, 3, 1, 0, 4, 2]) = [97, 110, 110, 98, -1, 97, 97] := ban_bwt
  rw [eb] at r3
  refine ⟨_, _, _, _, _, hv, ?_⟩
  refine (Repeated_ok (s := banana) h3).mono fun v h4 ⟨x4, hv⟩ => ?_
  rw [if_neg (by decide)] at hv
  have hv := repIs_uniq hv ban_rep
  refine ⟨_, _, _, hv, ?_⟩
  refine (Make_x (s := banana) h4).mono fun v h5 hv => ?_
  rw [if_neg (by decide)] at hv
  obtain ⟨xb, O, pl, op, oc, tb, H, rfl, ix, x5⟩ := hv
  refine ⟨_, _, rfl, condNo rfl ?_⟩
  refine (Locate_x ix ana).mono fun v h6 hv => ?_
  rw [if_neg (by decide)] at hv
  obtain ⟨q6, n6, d6, A6, l6, rfl, o6, st6, loc6⟩ := hv
  obtain rfl := locIs_uniq loc6 ban_loc
  have r6 := o6.rd (st6.to (B := A6 + 0))
  have x6 := st6.ext
  have hn6 := r6.len
  refine ⟨_, _, _, _, rfl, condYes rfl ?_⟩
  have x26 := ((x3.trans x4).trans x5).trans x6
  have x36 := (x4.trans x5).trans x6
  have r1 := (r1.ext x2).ext x26
  have r2 := r2.ext x26
  have r3 := r3.ext x36
  have xx := (x1.trans x2).trans x26
  refine (St.start h6).new (cs := [_, _, _, _, _, _]) fun b1 h7 x7 s7 => ?_
  have k7 : Sl TI (some ⟨b1, 0, none⟩) 6 6 [5, 3, 1, 0, 4, 2] (cA b1 [.int .i64 5, .int .i64 3, .int .i64 1, .int .i64 0, .int .i64 4, .int .i64 2] 3) := Sl.of_blk (T := TI) (n := 6) (xs := [5, 3, 1, 0, 4, 2]) rfl (cs := [.int .i64 5, .int .i64 3, .int .i64 1, .int .i64 0, .int .i64 4, .int .i64 2]) rfl
  refine (EqualI (r1.ext x7) (k7.rd s7) (by decide)).mono fun v h8 ⟨hh, hv⟩ => ⟨_, hv, ?_⟩
  subst hh
  refine condYes (by decide) (condYes rfl ?_)
  refine (St.start h8).new (cs := [_, _, _, _, _, _]) fun b2 h9 x9 s9 => ?_
  have k9 : Sl TI (some ⟨b2, 0, none⟩) 6 6 [0, 1, 3, 0, 0, 2] (cA b2 [.int .i64 0, .int .i64 1, .int .i64 3, .int .i64 0, .int .i64 0, .int .i64 2] 3) := Sl.of_blk (T := TI) (n := 6) (xs := [0, 1, 3, 0, 0, 2]) rfl (cs := [.int .i64 0, .int .i64 1, .int .i64 3, .int .i64 0, .int .i64 0, .int .i64 2]) rfl
  have x79 := x7.trans x9
  refine (EqualI (r2.ext x79) (k9.rd s9) (by decide)).mono fun v h10 ⟨hh, hv⟩ => ⟨_, hv, ?_⟩
  subst hh
  refine condYes (by decide) (condYes rfl (condYes rfl ?_))
  refine (St.start h10).new (cs := [_, _, _, _, _, _, _]) fun b3 h11 x11 s11 => ?_
  have k11 : Sl TI (some ⟨b3, 0, none⟩) 7 7 [97, 110, 110, 98, -1, 97, 97] (cA b3 [.int .i64 97, .int .i64 110, .int .i64 110, .int .i64 98, .int .i64 (-1), .int .i64 97, .int .i64 97] 3) := Sl.of_blk (T := TI) (n := 7) (xs := [97, 110, 110, 98, -1, 97, 97]) rfl (cs := [.int .i64 97, .int .i64 110, .int .i64 110, .int .i64 98, .int .i64 (-1), .int .i64 97, .int .i64 97]) rfl
  have x711 := x79.trans x11
  refine (EqualI (r3.ext x711) (k11.rd s11) (by decide)).mono fun v h12 ⟨hh, hv⟩ => ⟨_, hv, ?_⟩
  subst hh
  refine condYes (by decide) (condYes rfl (condYes (by rw [strEq_bs]; decide) (condYes rfl (condYes rfl (condYes rfl ?_)))))
  refine (St.start h12).new (cs := [_, _]) fun b4 h13 x13 s13 => ?_
  have k13 : Sl TI (some ⟨b4, 0, none⟩) 2 2 [1, 3] (cA b4 [.int .i64 1, .int .i64 3] 3) := Sl.of_blk (T := TI) (n := 2) (xs := [1, 3]) rfl (cs := [.int .i64 1, .int .i64 3]) rfl
  have x713 := x711.trans x13
  refine (EqualI (r6.ext x713) (k13.rd s13) (by rw [← hn6]; decide)).mono fun v h14 ⟨hh, hv⟩ => ⟨_, hv, ?_⟩
  subst hh
  exact ⟨xx.trans x713, by rw [decide_eq_true rfl]⟩
end Go.Proofs.Ytipmcfpjdebpdaa

/- The laws SuffixindexSorts, SuffixIndexes. -/
set_option maxRecDepth 100000
namespace Go.Proofs.Ytipmcfpjdebpdaa
open Go Go.Sx
end Go.Proofs.Ytipmcfpjdebpdaa

/- How a slice that is handed in is read: elements of any number of cells. -/
namespace Go.Sx
open Go Go.ChangeShapes Go.WideShapes Go.Deep
section
variable {H : Type} {enc : TypeId × Value → H} {P : Program} {w : World} {base : Nat} {sp : Nat → Bool} {held : Bool} {α : Type}
end
end Go.Sx

/- How the law's arguments are read. -/
set_option maxRecDepth 10000
namespace Go.Proofs.Ytipmcfpjdebpdaa
open Go Go.Sx Go.ChangeShapes Go.WideShapes Go.ChangeAt Go.RowKit Go.Deep

theorem own : ownKnob Try.prog.godebug = none := by kernel_rfl
theorem below_of {P : Program} {f : FuncId} {args : Array Value} {w : World} (hc : HCalls P f args w.heap (fun v h' => v = .bool true ∧ Ext w.heap h')) :
    Calls P f args w fun e w' => e = .returned (.bool true) ∧ Below w.heap.size w w' :=
  (hc w rfl).mono fun e w' ⟨v, he, hs, hv, hx⟩ => ⟨by rw [he, hv], ⟨hs.os, hs.tape, hs.output, hx.size, hx.same⟩⟩
section
variable {H : Type} {enc : TypeId × Value → H} {w : World} {base : Nat} {held : Bool} {a : Option Addr} {len cap : Nat} {d : DataW H} {ps : List MemPlace}
end
end Go.Proofs.Ytipmcfpjdebpdaa

/- Suffixes in plain lists: the row of the suffix that is longer by one; occurrences and their continuations; nothing longer occurs twice. -/
namespace Go.Sx
section
variable {s O : List Int} (hs : ∀ x ∈ s, 0 ≤ x) (hp : O.Perm (iota (s.length + 1))) (hw : SufS s O)
end
/-- How often a pattern occurs. -/
def occ (s P : List Int) : Nat := (iota (s.length + 1)).countP fun x => decide ((suf s x).take P.length = P)
theorem countP_sum {α : Type} (g : α → Int) (l : List α) (D : α → Bool) (m : Nat) : l.countP (fun x => D x && decide (0 ≤ g x ∧ g x < m)) = ((List.range m).map fun (c : Nat) => l.countP fun x => D x && decide (g x = (c : Int))).sum := by
  induction m with
  | zero =>
    simp only [List.range_zero, List.map_nil, List.sum_nil]
    rw [List.countP_eq_zero]
    intro x _
    rw [Bool.and_eq_true, decide_eq_true_eq]
    omega
  | succ m ih =>
    rw [List.range_succ, List.map_append, List.sum_append, ← ih]
    simp only [List.map_cons, List.map_nil, List.sum_cons, List.sum_nil, Nat.add_zero]
    clear ih
    induction l with
    | nil => rfl
    | cons y l ih2 =>
      simp only [List.countP_cons]
      rw [ih2]
      by_cases hD : D y = true
      · simp only [hD, Bool.true_and, decide_eq_true_eq]
        by_cases h1 : g y = (m : Int)
        · rw [if_pos (by omega), if_neg (by omega), if_pos h1]; omega
        · rw [if_neg h1]
          by_cases h2 : 0 ≤ g y ∧ g y < m
          · rw [if_pos (by omega), if_pos h2]; omega
          · rw [if_neg (by omega), if_neg h2]; omega
      · simp [hD]
/-- A pattern occurs as often as its continuations, and once more at the end. -/
theorem occ_sum {s P : List Int} (hs : ∀ x ∈ s, 0 ≤ x ∧ x ≤ 255) :
    occ s P = (if P.length ≤ s.length ∧ s.drop (s.length - P.length) = P then 1 else 0) + ((List.range 256).map fun (c : Nat) => occ s (P ++ [(c : Int)])).sum := by
  unfold occ
  have e1 : ∀ c : Nat, (iota (s.length + 1)).countP (fun x => decide ((suf s x).take (P ++ [(c : Int)]).length = P ++ [(c : Int)])) = (iota (s.length + 1)).countP (fun x => decide ((suf s x).take P.length = P ∧ P.length < (suf s x).length) && decide ((suf s x).getD P.length 0 = (c : Int))) := fun c => by
    refine List.countP_congr fun x _ => ?_
    rw [decide_eq_true_eq, Bool.and_eq_true, decide_eq_true_eq, decide_eq_true_eq, List.length_append, List.length_singleton]
    constructor
    · intro h
      have hl := congrArg List.length h
      rw [List.length_take, List.length_append, List.length_singleton] at hl
      have hlt : P.length < (suf s x).length := by omega
      rw [List.take_succ_eq_append_getElem hlt] at h
      have := List.append_inj h (by rw [List.length_take]; omega)
      refine ⟨⟨this.1, hlt⟩, ?_⟩
      have h2 := this.2
      simp only [List.cons.injEq, and_true] at h2
      simp [List.getD, hlt, h2]
    · rintro ⟨⟨h, hlt⟩, h2⟩
      rw [List.take_succ_eq_append_getElem hlt, h]
      congr 2
      simpa [List.getD, hlt] using h2
  have e2 : ((List.range 256).map fun (c : Nat) => (iota (s.length + 1)).countP fun x => decide ((suf s x).take (P ++ [(c : Int)]).length = P ++ [(c : Int)])) = (List.range 256).map fun (c : Nat) => (iota (s.length + 1)).countP fun x => decide ((suf s x).take P.length = P ∧ P.length < (suf s x).length) && decide ((suf s x).getD P.length 0 = (c : Int)) :=
    List.map_congr_left fun c _ => e1 c
  rw [e2, ← countP_sum]
  have e3 : (iota (s.length + 1)).countP (fun x => decide ((suf s x).take P.length = P ∧ P.length < (suf s x).length) && decide (0 ≤ (suf s x).getD P.length 0 ∧ (suf s x).getD P.length 0 < (256 : Nat))) = (iota (s.length + 1)).countP (fun x => decide ((suf s x).take P.length = P ∧ P.length < (suf s x).length)) := by
    refine List.countP_congr fun x _ => ?_
    rw [Bool.and_eq_true, decide_eq_true_eq, decide_eq_true_eq]
    refine ⟨fun h => h.1, fun h => ⟨h, ?_⟩⟩
    have hm : (suf s x)[P.length] ∈ s := List.mem_of_mem_drop (List.getElem_mem h.2)
    have := hs _ hm
    have e : (suf s x).getD P.length 0 = (suf s x)[P.length] := by simp [List.getD, h.2]
    rw [e]
    omega
  rw [e3]
  have e4 : (iota (s.length + 1)).countP (fun x => decide ((suf s x).take P.length = P)) = (iota (s.length + 1)).countP (fun x => decide (suf s x = P)) + (iota (s.length + 1)).countP (fun x => decide ((suf s x).take P.length = P ∧ P.length < (suf s x).length)) := by
    generalize iota (s.length + 1) = l
    induction l with
    | nil => rfl
    | cons y l ih =>
      rw [List.countP_cons, List.countP_cons, List.countP_cons, ih]
      simp only [decide_eq_true_eq]
      by_cases h : (suf s y).take P.length = P
      · rw [if_pos h]
        have hl := congrArg List.length h
        rw [List.length_take] at hl
        by_cases h2 : P.length < (suf s y).length
        · rw [if_neg (fun hc => by rw [hc] at h2; omega), if_pos ⟨h, h2⟩]; omega
        · rw [if_pos (by rw [← h]; exact (List.take_of_length_le (by omega)).symm), if_neg (fun hc => h2 hc.2)]; omega
      · rw [if_neg h, if_neg (fun hc => h (by rw [hc, List.take_length])), if_neg (fun hc => h hc.1)]; omega
  rw [e4]
  congr 1
  by_cases h : P.length ≤ s.length ∧ s.drop (s.length - P.length) = P
  · rw [if_pos h]
    have : (iota (s.length + 1)).countP (fun x => decide (suf s x = P)) = (iota (s.length + 1)).countP (fun x => x == ((s.length - P.length : Nat) : Int)) := by
      refine List.countP_congr fun x hx => ?_
      have hx := mem_iota.1 hx
      rw [decide_eq_true_eq, beq_iff_eq]
      constructor
      · intro hc
        have := congrArg List.length hc
        unfold suf at this
        rw [List.length_drop] at this
        omega
      · rintro rfl
        unfold suf
        rw [Int.toNat_natCast]; exact h.2
    rw [this]
    have hc := List.nodup_iff_count.1 (iota_nodup (s.length + 1)) ((s.length - P.length : Nat) : Int)
    have hpos := List.count_pos_iff.2 (mem_iota.2 (show 0 ≤ ((s.length - P.length : Nat) : Int) ∧ ((s.length - P.length : Nat) : Int) < (s.length + 1 : Nat) by omega))
    unfold List.count at hc hpos
    omega
  · rw [if_neg h, List.countP_eq_zero]
    intro x hx hc
    have hx := mem_iota.1 hx
    rw [decide_eq_true_eq] at hc
    refine h ?_
    have hl := congrArg List.length hc
    unfold suf at hl hc
    rw [List.length_drop] at hl
    refine ⟨by omega, ?_⟩
    rw [show s.length - P.length = x.toNat by omega]; exact hc
section
variable {s l : List Int}
end
end Go.Sx

/- The laws SuffixindexOrder, SuffixindexLongest. -/
set_option maxRecDepth 100000
namespace Go.Proofs.Ytipmcfpjdebpdaa
open Go Go.Sx
end Go.Proofs.Ytipmcfpjdebpdaa

/- The law SuffixindexCounts. -/
set_option maxRecDepth 100000
namespace Go.Proofs.Ytipmcfpjdebpdaa
open Go Go.Sx
abbrev tY : Ty UInt8 := ⟨5, 1, fun b => [byteV b], 0, fun _ => rfl, by decide, fun _ v hv => by simp at hv; subst hv; rfl⟩
theorem tY_cells (zs : List UInt8) : tY.cells zs = zs.map byteV := by
  induction zs with
  | nil => rfl
  | cons z r ih => rw [Ty.cells_cons, ih]; rfl
theorem rd_bytes {h : Hp} {p : Option Addr} {n : Nat} {zs : List UInt8} (r : RdT tY h p n zs) : Rd h p n (zs.map byteV) := by
  have := r.rd
  rw [tY_cells] at this
  rwa [show n * tY.sz = n from Nat.mul_one n] at this
theorem str_y {h : Hp} {p : Option Addr} {n c : Nat} {zs : List UInt8} {K : ByteArray → Hp → Prop} (r : RdT tY h p n zs) (hk : K ⟨zs.toArray⟩ h) : hw Try.prog (convert 42 9 (.slice p n c)) h (strK K) :=
  hw_bytes_string (e := 5) (by kernel_rfl) (by kernel_rfl) (by kernel_rfl) (rd_bytes r) hk
theorem byteV_wrap {x : Int} (h0 : 0 ≤ x) (h1 : x ≤ 255) : Value.int .u8 (IntKind.u8.wrap x) = byteV (UInt8.ofNat x.toNat) := by
  unfold byteV
  rw [wrap_u8_in x h0 (by omega)]
  have : (UInt8.ofNat x.toNat).toNat = x.toNat := by
    rw [UInt8.toNat_ofNat']
    exact Nat.mod_eq_of_lt (by omega)
  rw [this]
  congr 1
  omega
theorem bs_mk (zs : List UInt8) : bs ⟨zs.toArray⟩ = zs.map fun b => (b.toNat : Int) := rfl
theorem occ_len {s P l : List Int} (h : LocIs s P l) : l.length = occ s P := by
  obtain ⟨l', h'⟩ : ∃ l', l' = (iota (s.length + 1)).filter fun x => decide ((suf s x).take P.length = P) := ⟨_, rfl⟩
  have hl : LocIs s P l' := by
    rw [h']
    refine ⟨?_, fun x => ?_⟩
    · refine List.Pairwise.filter _ ?_
      unfold iota
      rw [List.pairwise_map]
      exact List.pairwise_lt_range.imp fun h => Int.ofNat_lt.2 h
    · rw [List.mem_filter, mem_iota, decide_eq_true_eq]
      constructor
      · rintro ⟨h1, h2⟩; exact ⟨by omega, h2⟩
      · rintro ⟨h1, h2⟩; exact ⟨by omega, h2⟩
  rw [locIs_uniq h hl, h']
  unfold occ
  rw [List.countP_eq_length_filter]
theorem suffix_ok {s p : ByteArray} {h : Hp} (hs : s.size < 1000000) : HCalls Try.prog 23 #[.string s, .string p] h (fun v h' => h' = h ∧ v = .bool (decide ((bs p).length ≤ (bs s).length ∧ (bs s).drop ((bs s).length - (bs p).length) = bs p))) := by
  have hbl := bs_len s
  have hpl := bs_len p
  refine strings_HasSuffix_call ?_
  rw [strings_HasSuffix_b0_eq]
  refine internal_stringslite_HasSuffix_call ?_
  rw [internal_stringslite_HasSuffix_b0_eq]
  refine condP (fun h1 => ⟨⟨by omega, by omega⟩, ⟨by omega, by omega, by omega⟩, _, rfl, rfl, ?_⟩) (fun h1 => ⟨_, rfl, rfl, ?_⟩)
  · rw [strEq_bs, bs_ext, Int.toNat_natCast, List.take_of_length_le (by omega), show Int.toNat ((s.size : Int) - p.size) = (bs s).length - (bs p).length by omega]
    congr 1
    exact decide_eq_decide.2 ⟨fun h => ⟨by omega, h⟩, fun h => h.2⟩
  · rw [decide_eq_false (fun h => by omega)]
theorem counts_lawS {h : Hp} (s p : ByteArray) :
    HCalls Try.prog 6 #[.string s, .string p] h (fun v h' => v = .bool true ∧ Ext h h') := by
  have hbl := bs_len s
  have hpl := bs_len p
  refine l30_SuffixindexCounts_call ?_
  rw [l30_SuffixindexCounts_b0_eq]
  refine (Awake_s h).mono fun _ h1 ⟨x, hv⟩ => ⟨_, hv, condNo rfl (condP (fun _ => ⟨rfl, x⟩) fun hs => condP (fun _ => ⟨rfl, x⟩) fun hp => ?_)⟩
  rw [l30_SuffixindexCounts_b1_eq]
  refine (Make_x (s := s) _).mono fun v h4 hv => ?_
  rw [if_neg (by omega)] at hv
  obtain ⟨xb, O, pl, op, oc, tb, H, rfl, ix, x4⟩ := hv
  have x := x.trans x4
  refine ⟨_, _, rfl, condNo rfl (condNo rfl ?_)⟩
  rw [l30_SuffixindexCounts_b2_eq]
  refine (Count_x ix p).mono fun v h8 ⟨x8, hv8⟩ => ?_
  have ix := ix.ext x8
  have x := x.trans x8
  rw [if_neg (by omega)] at hv8
  obtain ⟨l, hl, rfl⟩ := hv8
  refine ⟨_, _, rfl, ?_⟩
  refine (Locate_x ix p).mono fun v h9 hv => ?_
  rw [if_neg (by omega)] at hv
  obtain ⟨q9, n9, d9, A9, l9, rfl, o9, st9, hl9⟩ := hv
  obtain rfl := locIs_uniq hl hl9
  have hn := o9.len
  have hle := locIs_len hl
  refine ⟨_, _, _, _, rfl, condNo rfl (condNo rfl (condNo (by rw [decide_eq_true (by omega)]; rfl) ?_))⟩
  have r9 := o9.rd (st9.to (B := A9 + 0))
  have ix := ix.ext st9.ext
  have x := x.trans st9.ext
  rw [l30_SuffixindexCounts_b3_eq]
  refine ⟨fun q h' => ∃ i : Nat, q.1 = i ∧ i ≤ n9 ∧ Ext h9 h', fun q _ => (n9 - q.1).toNat, ⟨0, rfl, Nat.zero_le _, .refl _⟩, ?_⟩
  rintro ⟨_, _⟩ h10 ⟨i, rfl, hi, x10⟩
  dsimp only
  rw [l30_SuffixindexCounts_b4_eq]
  have r10 := r9.ext x10
  have ix10 := ix.ext x10
  refine condP (fun hlt => ?_) (fun hge => ?_)
  · have hin : i < n9 := by omega
    have exi : l.getD i 0 = l[i] := by simp [List.getD, show i < l.length by omega]
    have hm := (hl.2 _).1 (List.getElem_mem (show i < l.length by omega))
    rw [← exi, hbl] at hm
    have hsl := suf_len (bs s) (n := l.getD i 0) hm.1.1 (by omega)
    have htk := congrArg List.length hm.2
    rw [List.length_take] at htk
    have b5 : ∀ {K}, l30_SuffixindexCounts_b5 s p (some ⟨xb, 0, none⟩) (l.length : Int) q9 n9 d9 (l.getD i 0) q9 n9 d9 (n9 : Int) (i : Int) h10 (fun p h' => (∃ i : Nat, p.1 = i ∧ i ≤ n9 ∧ Ext h9 h') ∧ ((n9 : Int) - p.1).toNat < ((n9 : Int) - (i : Int)).toNat) K := fun {K} => by
      rw [l30_SuffixindexCounts_b5_eq]
      refine ⟨⟨by omega, by omega⟩, (Extract_x ix10 _ _).mono fun v h11 ⟨hh, hv⟩ => ?_⟩
      subst hh
      rw [if_pos ⟨by omega, by omega, by omega⟩] at hv
      refine ⟨_, _, hv, condNo rfl (condNo ?_ ?_)⟩
      · have e := take_pre (s := s) (p := p) (i := (l.getD i 0).toNat) (by omega)
        rw [show (l.getD i 0 + (p.size : Int)).toNat = (l.getD i 0).toNat + p.size by omega, e, show ((l.getD i 0).toNat : Int) = l.getD i 0 by omega, decide_eq_true hm.2]; rfl
      · rw [l30_SuffixindexCounts_b7_eq]
        exact ⟨⟨by omega, by omega⟩, ⟨i + 1, by push_cast; rfl, by omega, x10⟩, by dsimp only; omega⟩
    refine ldI (i' := i) r10 rfl hin (condP (fun h => by omega) fun _ => condP (fun h0 => ?_) fun _ => b5)
    refine ⟨⟨by omega, by omega⟩, ldI (i' := i - 1) r10 (by omega) (by omega) (condP (fun h => ?_) fun _ => b5)⟩
    have e2 : l.getD (i - 1) 0 = l[i - 1] := by simp [List.getD, show i - 1 < l.length by omega]
    have := List.pairwise_iff_getElem.1 hl.1 (i - 1) i (by omega) (by omega) (by omega)
    omega
  clear r9 r10 hi
  rw [l30_SuffixindexCounts_b6_eq]
  have x := x.trans x10
  refine (suffix_ok (s := s) (p := p) (by omega)).mono fun v h11 ⟨hh, hv⟩ => ⟨_, hv, ?_⟩
  subst hh
  have hsum := occ_sum (s := bs s) (P := bs p) fun _ => bs_range
  rw [← occ_len hl] at hsum
  have go : ∀ d : Nat, (l.length = d + ((List.range 256).map fun (c : Nat) => occ (bs s) (bs p ++ [(c : Int)])).sum) → l30_SuffixindexCounts_b8 p (some ⟨xb, 0, none⟩) (l.length : Int) (d : Int) h11 (fun v h' => v = .bool true ∧ Ext h h') := fun d hd => by
    rw [l30_SuffixindexCounts_b8_eq]
    refine ⟨fun q h' => ∃ c : Nat, q.2.1 = c ∧ c ≤ 256 ∧ q.1 = ((d + ((List.range c).map fun (c : Nat) => occ (bs s) (bs p ++ [(c : Int)])).sum : Nat) : Int) ∧ Ext h11 h', fun q _ => (256 - q.2.1).toNat, ⟨0, rfl, by omega, by simp, .refl _⟩, ?_⟩
    rintro ⟨_, _, _⟩ h12 ⟨c, rfl, hc, rfl, x12⟩
    dsimp only
    rw [l30_SuffixindexCounts_b9_eq]
    have mono : ((List.range c).map fun (c : Nat) => occ (bs s) (bs p ++ [(c : Int)])).sum ≤ ((List.range 256).map fun (c : Nat) => occ (bs s) (bs p ++ [(c : Int)])).sum := by
      have e : List.range 256 = List.range c ++ (List.range (256 - c)).map (c + ·) := by rw [← List.range_add]; congr 1; omega
      rw [e, List.map_append, List.sum_append]
      omega
    refine condP (fun hlt => ?_) (fun hge => ?_)
    · rw [byteV_wrap (by omega) (by omega), Int.toNat_natCast]
      refine (St.start h12).new (cs := [byteV (UInt8.ofNat c)]) fun b h13 x13 st => ?_
      have k : Sl tY (some ⟨b, 0, none⟩) 1 1 [UInt8.ofNat c] (cA b [byteV (UInt8.ofNat c)] 5) := Sl.of_blk (T := tY) (n := 1) (xs := [UInt8.ofNat c]) rfl (cs := [byteV (UInt8.ofNat c)]) rfl
      refine str_y (k.rd st) ?_
      have esz : (p ++ (⟨[UInt8.ofNat c].toArray⟩ : ByteArray)).size = p.size + 1 := by rw [← bs_len, bs_app, List.length_append, bs_len]; rfl
      have ebs : bs (p ++ (⟨[UInt8.ofNat c].toArray⟩ : ByteArray)) = bs p ++ [(c : Int)] := by
        rw [bs_app, bs_mk [UInt8.ofNat c]]
        simp only [List.map_cons, List.map_nil]
        rw [UInt8.toNat_ofNat', Nat.mod_eq_of_lt (by omega)]
      refine ⟨by rw [show (⟨[UInt8.ofNat c].toArray⟩ : ByteArray).size = 1 from rfl]; exact ⟨by omega, by omega⟩, ?_⟩
      refine (Count_x ((ix10.ext x12).ext x13) _).mono fun v h14 ⟨x14, hv⟩ => ?_
      rw [esz, if_neg (by omega), ebs] at hv
      obtain ⟨L, hL, rfl⟩ := hv
      have hLl := occ_len hL
      refine ⟨_, _, rfl, condNo rfl (condP (fun h => by omega) fun _ => ?_)⟩
      rw [l30_SuffixindexCounts_b10_eq]
      have hLe := locIs_len hL
      refine ⟨⟨by omega, by omega⟩, ?_⟩
      rw [l30_SuffixindexCounts_b12_eq]
      refine ⟨⟨by omega, by omega⟩, ⟨c + 1, by push_cast; rfl, by omega, ?_, (x12.trans x13).trans x14⟩, by dsimp only; omega⟩
      rw [List.range_succ, List.map_append, List.sum_append, hLl]
      simp only [List.map_cons, List.map_nil, List.sum_cons, List.sum_nil, Nat.add_zero]
      push_cast
      omega
    · obtain rfl : c = 256 := by omega
      rw [l30_SuffixindexCounts_b11_eq]
      exact ⟨by rw [decide_eq_true (by omega)], x.trans x12⟩
  by_cases hsx : (bs p).length ≤ (bs s).length ∧ (bs s).drop ((bs s).length - (bs p).length) = bs p
  · rw [if_pos hsx] at hsum
    exact condYes (decide_eq_true hsx) (go 1 hsum)
  · rw [if_neg hsx] at hsum
    exact condNo (decide_eq_false hsx) (go 0 hsum)
end Go.Proofs.Ytipmcfpjdebpdaa
