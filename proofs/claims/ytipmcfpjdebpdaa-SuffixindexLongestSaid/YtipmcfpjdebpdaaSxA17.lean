/- Part P51 A10 A11 P52 A12 A13 A14 A15 R1 FBX P53 A17 of the proof: contracts of functions of the program, and what follows from them. -/
import Derived.Test.YtipmcfpjdebpdaaSxP50
import Derived.Test.YtipmcfpjdebpdaaSxSI
import Derived.Deep.Slices
import Derived.OpenShut
import Derived.Test.YtipmcfpjdebpdaaRows
import Derived.WalkKit
import Derived.ProofKit
import Derived.ShutString
import Derived.ChangeOld
import Derived.Below
import Derived.ChangeMaps5
import Derived.Deep.Grids
/- Backward search in plain lists: from where to where a pattern's rows reach. -/
namespace Go.Sx
theorem ltL_cons (a b : Int) (r t : List Int) : ltL (a :: r) (b :: t) ↔ a < b ∨ (a = b ∧ ltL r t) := by simp only [ltL]
def loC (s O X : List Int) : Nat := O.countP fun i => decide (ltL (suf s i) X)
def hiC (s O X : List Int) : Nat := O.countP fun i => decide (¬ ltL X ((suf s i).take X.length))
theorem take_mono {a b : List Int} (m : Nat) (h : ltL a b) : ¬ ltL (b.take m) (a.take m) := fun hc => ltL_asymm h (ltL_of_take hc)
theorem lo_down {X a b : List Int} (h : ltL a b) (hb : decide (ltL b X) = true) : decide (ltL a X) = true := by
  rw [decide_eq_true_eq] at *
  exact ltL_trans h hb
theorem hi_down {X a b : List Int} (h : ltL a b) (hb : decide (¬ ltL X (b.take X.length)) = true) : decide (¬ ltL X (a.take X.length)) = true := by
  rw [decide_eq_true_eq] at *
  intro hc
  have h1 := take_mono X.length h
  rcases ltL_tri (a.take X.length) (b.take X.length) with h2 | h2 | h2
  · exact hb (ltL_trans hc h2)
  · rw [h2] at hc; exact hb hc
  · exact h1 h2
section
variable {s O : List Int} (hs : ∀ x ∈ s, 0 ≤ x) (hp : O.Perm (iota (s.length + 1))) (hw : SufS s O)
include hs hp hw
theorem lo_step {c : Int} (hc : 0 ≤ c) (X : List Int) : loC s O (c :: X) = 1 + (O.map (prevB s)).countP (fun x => decide (0 ≤ x ∧ x < c)) + ((O.map (prevB s)).take (loC s O X)).countP (fun x => decide (x = c)) :=
  back_step hs hp hw hc (D := fun a => decide (ltL a X)) (D' := fun a => decide (ltL a (c :: X))) (fun _ _ => lo_down) (by rw [decide_eq_true_eq]; exact trivial) fun y t => by
    rw [decide_eq_true_eq, decide_eq_true_eq, ltL_cons]
theorem hi_step {c : Int} (hc : 0 ≤ c) (X : List Int) : hiC s O (c :: X) = 1 + (O.map (prevB s)).countP (fun x => decide (0 ≤ x ∧ x < c)) + ((O.map (prevB s)).take (hiC s O X)).countP (fun x => decide (x = c)) :=
  back_step hs hp hw hc (D := fun a => decide (¬ ltL X (a.take X.length))) (D' := fun a => decide (¬ ltL (c :: X) (a.take (c :: X).length))) (fun _ _ => hi_down) (by rw [decide_eq_true_eq, List.take_nil]; exact ltL_nil' _) fun y t => by
    rw [decide_eq_true_eq, decide_eq_true_eq, List.length_cons, List.take_succ_cons, ltL_cons]
    constructor
    · intro h
      rcases Int.lt_trichotomy y c with h1 | h1 | h1
      · exact .inl h1
      · exact .inr ⟨h1, fun h2 => h (.inr ⟨h1.symm, h2⟩)⟩
      · exact absurd (.inl h1) h
    · rintro (h | ⟨rfl, h⟩) (h' | ⟨_, h'⟩)
      · omega
      · omega
      · omega
      · exact h h'
end
theorem lo_nil (s O : List Int) : loC s O [] = 0 := by
  unfold loC
  rw [List.countP_eq_zero]
  intro i _
  rw [decide_eq_true_eq]
  exact ltL_nil' _
theorem hi_nil (s O : List Int) : hiC s O [] = O.length := by
  unfold hiC
  rw [List.countP_eq_length]
  intro i _
  rw [decide_eq_true_eq]
  simp [ltL]
theorem pre_iff {a X : List Int} : (¬ ltL X (a.take X.length) ∧ ¬ ltL a X) ↔ a.take X.length = X := by
  constructor
  · rintro ⟨h1, h2⟩
    rcases ltL_tri (a.take X.length) X with h | h | h
    · refine absurd (ltL_of_take (m := X.length) ?_) h2
      rwa [List.take_length]
    · exact h
    · exact absurd h h1
  · intro h
    refine ⟨by rw [h]; exact ltL_irr _, fun hc => ?_⟩
    have h3 := ltL_take X.length a.length a X
    rw [List.take_of_length_le (l := a) (by omega), List.take_of_length_le (l := X) (by omega), List.take_length, h, List.drop_length, List.take_nil] at h3
    rcases h3.1 hc with h4 | ⟨_, h4⟩
    · exact ltL_irr _ h4
    · exact ltL_nil' _ h4
theorem not_lt_take : ∀ (a : List Int) (m : Nat), ¬ ltL a (a.take m)
  | a, 0 => by rw [List.take_zero]; exact ltL_nil' _
  | [], m + 1 => by rw [List.take_nil]; exact ltL_nil' _
  | x :: r, m + 1 => by
    rw [List.take_succ_cons, ltL_cons]
    rintro (h | ⟨_, h⟩)
    · omega
    · exact not_lt_take r m h
theorem lo_le (s O X : List Int) : loC s O X ≤ hiC s O X := by
  unfold loC hiC
  refine List.countP_mono_left fun i _ h => ?_
  rw [decide_eq_true_eq] at *
  exact fun hc => not_lt_take _ _ (ltL_trans h hc)
theorem hi_le (s O X : List Int) : hiC s O X ≤ O.length := List.countP_le_length
/-- The rows between are those with the pattern. -/
theorem rows_mem {s O : List Int} (hp : O.Perm (iota (s.length + 1))) (hw : SufS s O) (X : List Int) (x : Int) : x ∈ rng O (loC s O X) (hiC s O X) ↔ x ∈ O ∧ (suf s x).take X.length = X := by
  have e1 : O.take (loC s O X) = O.filter fun i => decide (ltL (suf s i) X) := take_countP (R := fun a b => ltL (suf s a) (suf s b)) (fun a b h hb => lo_down h hb) hw
  have e2 : O.take (hiC s O X) = O.filter fun i => decide (¬ ltL X ((suf s i).take X.length)) := take_countP (R := fun a b => ltL (suf s a) (suf s b)) (fun a b h hb => hi_down h hb) hw
  have e3 := rng_take O (lo_le s O X)
  have hnd : (O.take (hiC s O X)).Nodup := (hp.nodup_iff.2 (iota_nodup _)).sublist (List.take_sublist _ _)
  rw [e3] at hnd
  have h1 : x ∈ O.take (loC s O X) ↔ x ∈ O ∧ ltL (suf s x) X := by rw [e1, List.mem_filter, decide_eq_true_eq]
  have h2 : x ∈ O.take (hiC s O X) ↔ x ∈ O ∧ ¬ ltL X ((suf s x).take X.length) := by rw [e2, List.mem_filter, decide_eq_true_eq]
  rw [e3, List.mem_append] at h2
  rw [← pre_iff]
  constructor
  · intro h
    have h3 := h2.1 (.inr h)
    exact ⟨h3.1, h3.2, fun hc => (List.nodup_append.1 hnd).2.2 x (h1.2 ⟨h3.1, hc⟩) x h rfl⟩
  · rintro ⟨ho, h3, h4⟩
    rcases h2.2 ⟨ho, h3⟩ with h | h
    · exact absurd (h1.1 h).2 h4
    · exact h
end Go.Sx

/- The index: rank, rows. -/
set_option maxRecDepth 100000
namespace Go.Proofs.Ytipmcfpjdebpdaa
open Go Go.Sx
theorem blkA {h : Hp} {b : Nat} {cs : List Value} {e : TypeId} (cb : Blk h b cs e) (o : Nat) : cell h ((⟨b, 0, none⟩ : Addr).add o) = cs[o]? := by
  rw [add_mk, Nat.zero_add]; exact cb.cell o
theorem eqN_countP (l : List Int) (c : Int) : eqN l c = l.countP fun x => decide (x = c) := by unfold eqN; rw [List.countP_eq_length_filter]
theorem ltN_countP (l : List Int) (c : Int) : ltN l c = l.countP fun x => decide (0 ≤ x ∧ x < c) := by unfold ltN; rw [List.countP_eq_length_filter]
theorem cntU_eqN (l : List Int) (c : Int) (i : Nat) : cntU l 0 c i = eqN (l.take i) c := by
  unfold cntU eqN
  simp only [up_zero]
theorem eqN_app (l t : List Int) (c : Int) : eqN (l ++ t) c = eqN l c + eqN t c := by unfold eqN; rw [List.filter_append, List.length_append]
theorem del_eqN {L : List Int} {p i : Nat} {c : Int} (hp : p < L.length) (hv : L.getD p 0 = -1) (hc : 0 ≤ c) (hi : i ≤ L.length) : eqN ((delL L p).take (if p < i then i - 1 else i)) c = eqN (L.take i) c := by
  unfold delL
  by_cases h : p < i
  · rw [if_pos h, List.take_append, List.take_of_length_le (by rw [List.length_take]; omega), List.length_take]
    have e : L.take i = L.take p ++ (L.getD p 0 :: (L.drop (p + 1)).take (i - 1 - p)) := by
      conv => lhs; rw [show i = p + (i - p) by omega, List.take_add]
      congr 1
      rw [List.drop_eq_getElem_cons hp, show i - p = (i - 1 - p) + 1 by omega, List.take_succ_cons]
      simp [List.getD, hp]
    rw [e, eqN_app, eqN_app, show min p L.length = p by omega]
    congr 1
    rw [hv, show (-1 : Int) :: (L.drop (p + 1)).take (i - 1 - p) = [-1] ++ (L.drop (p + 1)).take (i - 1 - p) from rfl, eqN_app]
    have : eqN [-1] c = 0 := by
      unfold eqN
      rw [List.filter_cons, if_neg (by rw [decide_eq_true_eq]; omega)]; rfl
    omega
  · rw [if_neg h, List.take_append_of_le_length (by rw [List.length_take]; omega), List.take_take, show min i p = i by omega]
section
variable {h : Hp} {xb : Nat} {s : ByteArray} {O : List Int} {pl : Nat} {op : Option Addr} {oc tb H : Nat}
theorem IX.c0 (x : IX h xb s O pl op oc tb H) : cell h ⟨xb, 0, none⟩ = some (.string s) := x.blk.cell 0
theorem IX.c1 (x : IX h xb s O pl op oc tb H) : cell h ((⟨xb, 0, none⟩ : Addr).add 1) = some (.slice op (s.size + 1) oc) := blkA x.blk 1
theorem IX.c2 (x : IX h xb s O pl op oc tb H) : cell h ((⟨xb, 0, none⟩ : Addr).add 2) = some (.int .i64 (pl : Int)) := blkA x.blk 2
theorem IX.c260 (x : IX h xb s O pl op oc tb H) : cell h ((⟨xb, 0, none⟩ : Addr).add 260) = some (ptr tb) := by
  have := blkA x.blk 260
  rw [this, List.getElem?_append_right (by rw [List.length_append, List.length_map, firsts_len]; exact Nat.le_refl _), List.length_append, List.length_map, firsts_len]
  rfl
theorem IX.cf (x : IX h xb s O pl op oc tb H) {c : Nat} (hc : c < 257) : cell h (((⟨xb, 0, none⟩ : Addr).add 3).add (c * 1)) = some (.int .i64 ((1 + ltN (bwtL (bs s) O) c : Nat) : Int)) := by
  have := blkA x.blk (3 + c)
  rw [add_add, Nat.mul_one, this, List.getElem?_append_left (by rw [List.length_append, List.length_map, firsts_len]; show 3 + c < 3 + 257; omega), List.getElem?_append_right (by show 3 ≤ 3 + c; omega)]
  show ((firsts (bwtL (bs s) O)).map (Value.int .i64))[3 + c - 3]? = _
  rw [Nat.add_sub_cancel_left, List.getElem?_map]
  have h1 := firsts_get (l := bwtL (bs s) O) hc
  have h2 : c < (firsts (bwtL (bs s) O)).length := by rw [firsts_len]; exact hc
  rw [List.getElem?_eq_getElem h2]
  rw [List.getD_eq_getElem?_getD, List.getElem?_eq_getElem h2] at h1
  show some (Value.int .i64 _) = _
  rw [← h1]; rfl
theorem rank_x (x : IX h xb s O pl op oc tb H) {c i : Nat} (hc : c < 256) (hi : i ≤ s.size + 1) :
    HCalls Try.prog 58 #[ptr xb, .int .u8 (c : Int), .int .i64 (i : Int)] h (fun v h' => v = .int .i64 (eqN ((bwtL (bs s) O).take i) c : Nat) ∧ Ext h h') := by
  obtain ⟨hol, _⟩ := SA0_range x.sa
  rw [bs_len] at hol
  have hbw := bwtL_len (bs s) O
  have hpl := x.at_.1
  have hlen := x.len
  have hdl := delL_len (L := bwtL (bs s) O) (p := pl) (by omega)
  have hv : (bwtL (bs s) O).getD pl 0 = -1 := by rw [bwtL_get hpl, if_pos x.at_.2]
  have key := del_eqN (c := (c : Int)) (i := i) (show pl < (bwtL (bs s) O).length by omega) hv (by omega) (by omega)
  refine suffixindex_Index_rank_call ?_
  rw [suffixindex_Index_rank_b0_eq]
  have go : ∀ i' : Nat, i' ≤ s.size → eqN ((delL (bwtL (bs s) O) pl).take i') c = eqN ((bwtL (bs s) O).take i) c → suffixindex_Index_rank_b1 (some ⟨xb, 0, none⟩) c i' h (fun v h' => v = .int .i64 (eqN ((bwtL (bs s) O).take i) c : Nat) ∧ Ext h h') := fun i' hi' e => by
    rw [suffixindex_Index_rank_b1_eq]
    refine ⟨_, x.c260, ⟨by omega, by omega⟩, (Rank_w x.wt c i').mono fun v h1 ⟨hv, x1⟩ => ?_⟩
    rw [if_pos ⟨by omega, by omega, by omega, by omega⟩, Int.toNat_natCast, cntU_eqN, e] at hv
    exact ⟨_, _, hv, rfl, x1⟩
  refine ⟨_, x.c2, condP (fun h1 => ⟨⟨by omega, by omega⟩, ?_⟩) (fun h1 => ?_)⟩
  · rw [if_pos (by omega)] at key
    rw [show (i : Int) - 1 = ((i - 1 : Nat) : Int) by omega]
    exact go _ (by omega) key
  · rw [if_neg (by omega)] at key
    exact go _ (by omega) key
theorem rows_x (x : IX h xb s O pl op oc tb H) (p : ByteArray) (hp : p.size ≤ 4096) :
    HCalls Try.prog 43 #[ptr xb, .string p] h (fun v h' => ∃ f t : Nat, v = .tuple #[.int .i64 (f : Int), .int .i64 (t : Int)] ∧ t ≤ s.size + 1 ∧ Ext h h' ∧ ((f = loC (bs s) O (bs p) ∧ t = hiC (bs s) O (bs p)) ∨ (t ≤ f ∧ ∀ z ∈ O, (suf (bs s) z).take (bs p).length ≠ bs p))) := by
  obtain ⟨hol, _⟩ := SA0_range x.sa
  have hbl := bs_len s
  have hpl := bs_len p
  rw [hbl] at hol
  have hlen := x.len
  have hs0 : ∀ y ∈ bs s, 0 ≤ y := fun y hy => (bs_range hy).1
  refine suffixindex_Index_rows_call ?_
  rw [suffixindex_Index_rows_b0_eq]
  refine ⟨_, _, _, x.c1, ⟨by omega, by omega⟩, ?_⟩
  refine ⟨fun q h' => ∃ j : Nat, j ≤ p.size ∧ q.2.2.1 = (j : Int) - 1 ∧ q.1 = (loC (bs s) O ((bs p).drop j) : Nat) ∧ q.2.1 = (hiC (bs s) O ((bs p).drop j) : Nat) ∧ Ext h h', fun q _ => (q.2.2.1 + 1).toNat, ⟨p.size, Nat.le_refl _, rfl, ?_, ?_, .refl _⟩, ?_⟩
  · rw [List.drop_eq_nil_of_le (by omega), lo_nil]; rfl
  · rw [List.drop_eq_nil_of_le (by omega), hi_nil, hol]
  rintro ⟨_, _, _, _⟩ h1 ⟨j, hj, rfl, rfl, rfl, x1⟩
  dsimp only
  have hhi := hi_le (bs s) O ((bs p).drop j)
  have hlo := lo_le (bs s) O ((bs p).drop j)
  rw [suffixindex_Index_rows_b1_eq]
  refine condP (fun h0 => condP (fun hlt => ?_) (fun hge => ?_)) (fun h0 => ?_)
  · obtain ⟨k, rfl⟩ : ∃ k, j = k + 1 := ⟨j - 1, by omega⟩
    rw [suffixindex_Index_rows_b2_eq]
    rw [show ((k + 1 : Nat) : Int) - 1 = (k : Int) by omega]
    have hb := bs_byte (s := p) k
    have eb : ((p.data.toList.getD (Int.toNat (k : Int)) 0).toNat : Int) = (bs p).getD k 0 := by rw [Int.toNat_natCast]; exact bs_get (by omega)
    simp only [eb]
    obtain ⟨c, hc⟩ := Int.eq_ofNat_of_zero_le hb.1
    have hdk : (bs p).drop k = (c : Int) :: (bs p).drop (k + 1) := by
      rw [List.drop_eq_getElem_cons (by omega)]
      congr 1
      rw [← hc]
      simp [List.getD, show k < (bs p).length by omega]
    rw [hc] at hb ⊢
    have x0 := x.ext x1
    have l1 := lo_step hs0 x.sa.1 x.sa.2 (c := (c : Int)) (by omega) ((bs p).drop (k + 1))
    have l2 := hi_step hs0 x.sa.1 x.sa.2 (c := (c : Int)) (by omega) ((bs p).drop (k + 1))
    rw [← hdk] at l1 l2
    have eL : O.map (prevB (bs s)) = bwtL (bs s) O := rfl
    rw [eL, ← ltN_countP, ← eqN_countP] at l1 l2
    have n1 := ltN_le (bwtL (bs s) O) c
    have n2 := eqN_le ((bwtL (bs s) O).take (loC (bs s) O ((bs p).drop (k + 1)))) c
    have n3 := eqN_le ((bwtL (bs s) O).take (hiC (bs s) O ((bs p).drop (k + 1)))) c
    rw [List.length_take] at n2 n3
    have hbw := bwtL_len (bs s) O
    have cf := x0.cf (c := c) (by omega)
    refine ⟨⟨by omega, by omega⟩, ⟨by omega, by omega⟩, _, cf, ⟨by omega, by omega⟩, ⟨by omega, by omega⟩, ?_⟩
    refine (rank_x x0 (c := c) (i := loC (bs s) O ((bs p).drop (k + 1))) (by omega) (by omega)).mono fun v h2 ⟨hv, x2⟩ => ⟨_, hv, ⟨⟨by omega, by omega⟩, trivial⟩, ⟨by omega, by omega⟩, ?_⟩
    refine (rank_x (x0.ext x2) (c := c) (i := hiC (bs s) O ((bs p).drop (k + 1))) (by omega) (by omega)).mono fun v h3 ⟨hv, x3⟩ => ⟨_, hv, ⟨by omega, by omega⟩, ?_⟩
    rw [suffixindex_Index_rows_b4_eq]
    refine ⟨⟨by omega, by omega⟩, ⟨k, by omega, rfl, ?_, ?_, (x1.trans x2).trans x3⟩, by dsimp only; omega⟩
    · rw [l1]; push_cast; rfl
    · rw [l2]; push_cast; rfl
  · rw [suffixindex_Index_rows_b3_eq]
    refine ⟨_, _, rfl, by omega, x1, .inr ⟨by omega, fun z hz hc => ?_⟩⟩
    have hzr := mem_iota.1 (x.sa.1.mem_iff.1 hz)
    have hlz : p.size ≤ (suf (bs s) z).length := by
      have := congrArg List.length hc
      rw [List.length_take] at this
      omega
    have hsl := suf_len (bs s) (n := z) (by omega) (by omega)
    have hm : z + j ∈ O := x.sa.1.mem_iff.2 (mem_iota.2 (by omega))
    have e : (suf (bs s) (z + j)).take ((bs p).drop j).length = (bs p).drop j := by
      have e1 : suf (bs s) (z + j) = (suf (bs s) z).drop j := by
        unfold suf
        rw [List.drop_drop, show (z + j).toNat = z.toNat + j by omega]
      rw [e1, List.length_drop, ← List.drop_take, hc]
    have := (rows_mem x.sa.1 x.sa.2 ((bs p).drop j) (z + j)).2 ⟨hm, e⟩
    rw [show hiC (bs s) O ((bs p).drop j) = loC (bs s) O ((bs p).drop j) by omega] at this
    unfold rng at this
    rw [List.drop_eq_nil_of_le (by rw [List.length_take]; omega)] at this
    cases this
  · obtain rfl : j = 0 := by omega
    rw [suffixindex_Index_rows_b3_eq]
    exact ⟨_, _, rfl, by omega, x1, .inl ⟨rfl, rfl⟩⟩
end
end Go.Proofs.Ytipmcfpjdebpdaa

/- The index: Locate, Count, Extract, Len, Space; the reference's Locate. -/
set_option maxRecDepth 100000
namespace Go.Proofs.Ytipmcfpjdebpdaa
open Go Go.Sx
/-- Where a pattern occurs. -/
def LocIs (s P l : List Int) : Prop := l.Pairwise (· < ·) ∧ ∀ x, x ∈ l ↔ (0 ≤ x ∧ x ≤ s.length) ∧ (suf s x).take P.length = P
theorem locIs_uniq {s P l l' : List Int} (h : LocIs s P l) (h' : LocIs s P l') : l = l' :=
  strictExt (fun a b h1 h2 => by omega) h.1 h'.1 fun x => by rw [h.2, h'.2]
section
variable {h : Hp} {xb : Nat} {s : ByteArray} {O : List Int} {pl : Nat} {op : Option Addr} {oc tb H : Nat}
theorem Locate_x (x : IX h xb s O pl op oc tb H) (p : ByteArray) :
    HCalls Try.prog 21 #[ptr xb, .string p] h (fun v h' => if 4096 < p.size then v = .tuple #[.slice none 0 0, .int .i64 4] ∧ h' = h else ∃ q n d A l, v = .tuple #[.slice q n d, .int .i64 0] ∧ Sl TI q n d l A ∧ St h h' A ∧ LocIs (bs s) (bs p) l) := by
  obtain ⟨hol, _⟩ := SA0_range x.sa
  have hbl := bs_len s
  rw [hbl] at hol
  have hlen := x.len
  refine suffixindex_Index_Locate_call ?_
  rw [suffixindex_Index_Locate_b0_eq]
  refine condNo rfl (suffixindex_long_call ?_)
  rw [suffixindex_long_b0_eq]
  refine ⟨_, rfl, condP (fun h1 => ?_) (fun h1 => ?_)⟩
  · rw [if_pos (by omega)]; exact ⟨rfl, rfl⟩
  simp only [if_neg (show ¬ 4096 < p.size by omega)]
  rw [suffixindex_Index_Locate_b1_eq]
  refine (rows_x x p (by omega)).mono fun v h2 ⟨f, t, hv, ht, x2, hft⟩ => ⟨_, _, hv, ?_⟩
  have hmem : ∀ z, z ∈ O ↔ 0 ≤ z ∧ z ≤ s.size := fun z => by
    rw [x.sa.1.mem_iff, mem_iota, hbl]; omega
  refine condP (fun hle => ?_) (fun hlt => ?_)
  · refine ⟨none, 0, 0, 0, [], rfl, Sl.nil, (St.start h).grow x2, List.Pairwise.nil, fun z => ⟨fun hz => (by cases hz), fun ⟨hz, hpz⟩ => ?_⟩⟩
    rw [hbl, ← hmem] at hz
    rcases hft with ⟨rfl, rfl⟩ | ⟨_, hno⟩
    · have := (rows_mem x.sa.1 x.sa.2 (bs p) z).2 ⟨hz, hpz⟩
      unfold rng at this
      rw [List.drop_eq_nil_of_le (by rw [List.length_take]; omega)] at this
      cases this
    · exact absurd hpz (hno z hz)
  · obtain ⟨rfl, rfl⟩ : f = loC (bs s) O (bs p) ∧ t = hiC (bs s) O (bs p) := by
      rcases hft with h | ⟨h, _⟩
      · exact h
      · omega
    generalize hf : loC (bs s) O (bs p) = f at *
    generalize htt : hiC (bs s) O (bs p) = t at *
    have hoc := x.oc
    have x0 := x.ext x2
    refine ⟨_, _, _, x0.c1, ⟨by omega, by omega, by omega⟩, ?_⟩
    simp only [Int.toNat_natCast]
    have rr : RdT TI h2 (subAddr op oc f 1) (t - f) (rng O f t) := by
      have r2 := (x0.rd.sub (c := oc) (i := f) (m := s.size + 1 - f) (by omega) x.oc rfl).take (i := t - f) (by omega)
      rw [show (O.drop f).take (t - f) = rng O f t by unfold rng; rw [List.drop_take]] at r2
      exact r2
    refine (cloneI_w rr (by omega)).mono fun v h3 ⟨q, d, A, hv, o, st⟩ => ⟨_, _, _, hv, ?_⟩
    refine (sortOI (P := fun _ => True) (st.to (B := A + 0)) o (fun _ _ => trivial) (by omega)).mono fun v h4 ⟨hv, ys, A', o', st', hp, hw⟩ => ⟨hv, ?_⟩
    have hnd : (rng O f t).Nodup := (x.sa.1.nodup_iff.2 (iota_nodup _)).sublist ((List.drop_sublist _ _).trans (List.take_sublist _ _))
    have hnd2 := hp.nodup_iff.2 hnd
    rw [List.nodup_iff_pairwise_ne] at hnd2
    refine ⟨q, t - f, d, A', ys, rfl, o', (st'.base x2).left, (hw.and hnd2).imp fun ⟨h1, h2⟩ => by omega, fun z => ?_⟩
    rw [hp.mem_iff, ← hf, ← htt, rows_mem x.sa.1 x.sa.2, hmem, hbl]
theorem Count_x (x : IX h xb s O pl op oc tb H) (p : ByteArray) :
    HCalls Try.prog 20 #[ptr xb, .string p] h (fun v h' => Ext h h' ∧ if 4096 < p.size then v = .tuple #[.int .i64 0, .int .i64 4] else ∃ l, LocIs (bs s) (bs p) l ∧ v = .tuple #[.int .i64 (l.length : Int), .int .i64 0]) := by
  refine suffixindex_Index_Count_call ?_
  rw [suffixindex_Index_Count_b0_eq]
  refine (Locate_x x p).mono fun v h1 hv => ?_
  by_cases hc : 4096 < p.size
  · rw [if_pos hc] at hv
    obtain ⟨hv, rfl⟩ := hv
    exact ⟨_, _, _, _, hv, .refl _, by rw [if_pos hc]; rfl⟩
  · rw [if_neg hc] at hv
    obtain ⟨q, n, d, A, l, hv, o, st, hl⟩ := hv
    exact ⟨_, _, _, _, hv, st.ext, by rw [if_neg hc]; exact ⟨l, hl, by rw [o.len]⟩⟩
end
end Go.Proofs.Ytipmcfpjdebpdaa

/- Common prefixes along a sorted order. -/
namespace Go.Sx
theorem lcp_ge : ∀ (a b : List Int) (m : Nat), m ≤ lcp a b ↔ (a.take m = b.take m ∧ m ≤ a.length ∧ m ≤ b.length)
  | [], b, m => by
    have : lcp [] b = 0 := by cases b <;> rfl
    rw [this]
    constructor
    · intro h; rw [show m = 0 by omega]; simp
    · intro h; simpa using h.2.1
  | x :: r, [], m => by
    have : lcp (x :: r) [] = 0 := rfl
    rw [this]
    constructor
    · intro h; rw [show m = 0 by omega]; simp
    · intro h; simpa using h.2.2
  | x :: r, y :: t, 0 => by simp
  | x :: r, y :: t, m + 1 => by
    rw [List.take_succ_cons, List.take_succ_cons, List.cons.injEq, List.length_cons, List.length_cons]
    have ih := lcp_ge r t m
    unfold lcp
    by_cases h : x = y
    · rw [if_pos h]
      constructor
      · intro h1
        obtain ⟨a, b, c⟩ := ih.1 (by omega)
        exact ⟨⟨h, a⟩, by omega, by omega⟩
      · rintro ⟨⟨_, a⟩, b, c⟩
        have := ih.2 ⟨a, by omega, by omega⟩
        omega
    · rw [if_neg h]
      constructor
      · intro h1; omega
      · rintro ⟨⟨a, _⟩, _⟩; exact absurd a h
/-- What lies between two lists with the same prefix has it. -/
theorem squeeze {a b c : List Int} {m : Nat} (h1 : ltL a b ∨ a = b) (h2 : ltL b c ∨ b = c) (h : a.take m = c.take m) : b.take m = a.take m := by
  have k1 : ¬ ltL (b.take m) (a.take m) := by
    rcases h1 with h1 | rfl
    · exact take_mono m h1
    · exact ltL_irr _
  have k2 : ¬ ltL (c.take m) (b.take m) := by
    rcases h2 with h2 | rfl
    · exact take_mono m h2
    · exact ltL_irr _
  rw [← h] at k2
  rcases ltL_tri (b.take m) (a.take m) with h3 | h3 | h3
  · exact absurd h3 k1
  · exact h3
  · exact absurd h3 k2
section
variable {s l : List Int} (hw : SufS s l)
include hw
theorem suf_le {i j : Nat} (hij : i ≤ j) (hj : j < l.length) : ltL (suf s (l.getD i 0)) (suf s (l.getD j 0)) ∨ suf s (l.getD i 0) = suf s (l.getD j 0) := by
  rcases Nat.lt_or_ge i j with h | h
  · have ei : l.getD i 0 = l[i] := by simp [List.getD, show i < l.length by omega]
    have ej : l.getD j 0 = l[j] := by simp [List.getD, hj]
    rw [ei, ej]
    exact .inl (List.pairwise_iff_getElem.1 hw i j (by omega) hj h)
  · rw [show i = j by omega]; exact .inr rfl
/-- The rows that have the prefix of the first greatest common one. -/
theorem run_rows {at_ run k : Nat} (h0 : 0 < at_) (hr : at_ + run ≤ l.length) (hrun : 0 < run) (hk : 0 < k)
    (hC : ∀ i, at_ ≤ i → i < at_ + run → k ≤ lcp (suf s (l.getD (i - 1) 0)) (suf s (l.getD i 0)))
    (hpre : ∀ i, 0 < i → i < at_ → lcp (suf s (l.getD (i - 1) 0)) (suf s (l.getD i 0)) < k)
    (hpost : at_ + run < l.length → lcp (suf s (l.getD (at_ + run - 1) 0)) (suf s (l.getD (at_ + run) 0)) < k)
    {j : Nat} (hj : j < l.length) : ((suf s (l.getD j 0)).take k = (suf s (l.getD at_ 0)).take k) ↔ (at_ - 1 ≤ j ∧ j < at_ + run) := by
  have chain : ∀ i, at_ - 1 ≤ i → i < at_ + run → (suf s (l.getD i 0)).take k = (suf s (l.getD at_ 0)).take k ∧ k ≤ (suf s (l.getD i 0)).length := by
    have h1 := (lcp_ge _ _ _).1 (hC at_ (Nat.le_refl _) (by omega))
    intro i hi
    induction i with
    | zero =>
      intro _
      have : at_ = 1 := by omega
      subst this
      exact ⟨h1.1, h1.2.1⟩
    | succ i ih =>
      intro hlt
      rcases Nat.lt_or_ge i (at_ - 1) with h | h
      · have : i + 1 = at_ - 1 := by omega
        rw [this]
        exact ⟨h1.1, h1.2.1⟩
      · have ih := ih h (by omega)
        have h2 := (lcp_ge _ _ _).1 (hC (i + 1) (by omega) hlt)
        rw [Nat.add_sub_cancel] at h2
        exact ⟨h2.1.symm.trans ih.1, h2.2.2⟩
  have hlen := (chain at_ (by omega) (by omega)).2
  constructor
  · intro he
    have hjl : k ≤ (suf s (l.getD j 0)).length := by
      have := congrArg List.length he
      rw [List.length_take, List.length_take] at this
      omega
    refine ⟨Classical.byContradiction fun hn => ?_, Classical.byContradiction fun hn => ?_⟩
    · -- before the run
      have c1 := chain (at_ - 1) (Nat.le_refl _) (by omega)
      have e : (suf s (l.getD j 0)).take k = (suf s (l.getD (at_ - 1) 0)).take k := he.trans c1.1.symm
      have sq := squeeze (suf_le hw (show j ≤ at_ - 2 by omega) (by omega)) (suf_le hw (show at_ - 2 ≤ at_ - 1 by omega) (by omega)) e
      have hl2 : k ≤ (suf s (l.getD (at_ - 2) 0)).length := by
        have := congrArg List.length sq
        rw [List.length_take, List.length_take] at this
        omega
      have h3 := (lcp_ge (suf s (l.getD (at_ - 2) 0)) (suf s (l.getD (at_ - 1) 0)) k).2 ⟨sq.trans e, hl2, c1.2⟩
      have h4 := hpre (at_ - 1) (by omega) (by omega)
      rw [show at_ - 1 - 1 = at_ - 2 by omega] at h4
      omega
    · have c1 := chain (at_ + run - 1) (by omega) (by omega)
      have e : (suf s (l.getD (at_ + run - 1) 0)).take k = (suf s (l.getD j 0)).take k := c1.1.trans he.symm
      have sq := squeeze (suf_le hw (show at_ + run - 1 ≤ at_ + run by omega) (by omega)) (suf_le hw (show at_ + run ≤ j by omega) hj) e
      have hl2 : k ≤ (suf s (l.getD (at_ + run) 0)).length := by
        have := congrArg List.length sq
        rw [List.length_take, List.length_take] at this
        have := c1.2
        omega
      have h3 := (lcp_ge (suf s (l.getD (at_ + run - 1) 0)) (suf s (l.getD (at_ + run) 0)) k).2 ⟨sq.symm, c1.2, hl2⟩
      have h4 := hpost (by omega)
      omega
  · rintro ⟨h1, h2⟩
    exact (chain j h1 h2).1
end
end Go.Sx

/- Repeated. -/
set_option maxRecDepth 100000
namespace Go.Proofs.Ytipmcfpjdebpdaa
open Go Go.Sx
theorem Max_ok {h : Hp} {p : Option Addr} {n c : Nat} {l : List Int} (r : RdT TI h p n l) (h0 : 0 < n) (hn : n < 1000000) :
    HCalls Try.prog 37 #[.slice p n c] h (fun v h' => h' = h ∧ ∃ m : Int, v = .int .i64 m ∧ (∃ i, i < n ∧ l.getD i 0 = m) ∧ ∀ i, i < n → l.getD i 0 ≤ m) := by
  refine slices_Max_Sint_int_call ?_
  rw [slices_Max_Sint_int_b0_eq]
  refine condP (fun h1 => by omega) (fun _ => ?_)
  rw [slices_Max_Sint_int_b1_eq]
  refine ldI (i' := 0) r rfl h0 ?_
  refine ⟨fun q h' => h' = h ∧ ∃ i : Nat, q.2.1 = i ∧ 1 ≤ i ∧ i ≤ n ∧ (∃ j, j < n ∧ l.getD j 0 = q.1) ∧ ∀ j, j < i → l.getD j 0 ≤ q.1, fun q _ => (n - q.2.1).toNat, ⟨rfl, 1, rfl, Nat.le_refl _, h0, ⟨0, h0, rfl⟩, fun j hj => by rw [show j = 0 by omega]; exact Int.le_refl _⟩, ?_⟩
  rintro ⟨m, _, _⟩ h1 ⟨rfl, i, rfl, hi1, hi2, hex, hall⟩
  dsimp only at hex hall ⊢
  rw [slices_Max_Sint_int_b2_eq]
  refine condP (fun hlt => ?_) (fun hge => ?_)
  · refine ldI (i' := i) r rfl (by omega) ?_
    rw [slices_Max_Sint_int_b3_eq]
    refine ⟨⟨by omega, by omega⟩, ⟨rfl, i + 1, by push_cast; rfl, by omega, by omega, ?_, fun j hj => ?_⟩, by dsimp only; omega⟩
    · dsimp only; split
      · exact ⟨i, by omega, rfl⟩
      · exact hex
    · dsimp only
      rcases Nat.lt_or_ge j i with h | h
      · have := hall j h; split <;> omega
      · rw [show j = i by omega]; split <;> omega
  · rw [slices_Max_Sint_int_b4_eq]
    exact ⟨rfl, m, rfl, hex, fun j hj => hall j (by omega)⟩
theorem Index_ok {h : Hp} {p : Option Addr} {n c : Nat} {l : List Int} (r : RdT TI h p n l) (hn : n < 1000000) {v : Int} (hex : ∃ i, i < n ∧ l.getD i 0 = v) :
    HCalls Try.prog 38 #[.slice p n c, .int .i64 v] h (fun w h' => h' = h ∧ ∃ a : Nat, w = .int .i64 (a : Int) ∧ a < n ∧ l.getD a 0 = v ∧ ∀ j, j < a → l.getD j 0 ≠ v) := by
  refine slices_Index_Sint_int_call ?_
  rw [slices_Index_Sint_int_b0_eq]
  refine ⟨fun q h' => h' = h ∧ ∃ i : Nat, q.1 = i ∧ i ≤ n ∧ ∀ j, j < i → l.getD j 0 ≠ v, fun q _ => (n - q.1).toNat, ⟨rfl, 0, rfl, Nat.zero_le _, fun j hj => by omega⟩, ?_⟩
  rintro ⟨_, _⟩ h1 ⟨rfl, i, rfl, hi, hall⟩
  dsimp only
  rw [slices_Index_Sint_int_b1_eq]
  refine condP (fun hlt => ldI (i' := i) r rfl (by omega) (condP (fun he => ⟨rfl, i, rfl, by omega, he.symm, hall⟩) (fun he => ?_))) (fun hge => ?_)
  · rw [slices_Index_Sint_int_b2_eq]
    refine ⟨⟨by omega, by omega⟩, ⟨rfl, i + 1, by push_cast; rfl, by omega, fun j hj => ?_⟩, by dsimp only; omega⟩
    rcases Nat.lt_or_ge j i with h | h
    · exact hall j h
    · rw [show j = i by omega]; exact fun h => he h.symm
  · obtain ⟨j, hj, he⟩ := hex
    exact absurd he (hall j (by omega))
/-- What Repeated answers. -/
def RepIs (s : ByteArray) (r : Value) : Prop := ∃ l, SA (bs s) l ∧ ((r = .tuple #[.string (⟨#[]⟩ : ByteArray), .int .i64 0, .int .i64 12] ∧ ∀ i, i < l.length → (comL (bs s) l).getD i 0 = 0) ∨
  ∃ (a k : Nat) (P : List Int), a < l.length ∧ (comL (bs s) l).getD a 0 = (k : Int) ∧ 0 < k ∧ (∀ i, i < l.length → (comL (bs s) l).getD i 0 ≤ k) ∧ (∀ i, i < a → (comL (bs s) l).getD i 0 < k) ∧ LocIs (bs s) (bs (s.extract (l.getD a 0).toNat (l.getD a 0 + k).toNat)) P ∧ l.getD a 0 + k ≤ s.size ∧
    r = .tuple #[.string (s.extract (l.getD a 0).toNat (l.getD a 0 + k).toNat), .int .i64 (P.length : Int), .int .i64 0])
theorem repIs_uniq {s : ByteArray} {r r' : Value} (h : RepIs s r) (h' : RepIs s r') : r = r' := by
  obtain ⟨l, hsa, h⟩ := h
  obtain ⟨l', hsa', h'⟩ := h'
  obtain rfl := SA_uniq hsa hsa'
  rcases h with ⟨rfl, h⟩ | ⟨a, k, P, h1, h2, h3, h4, h5, h6, _, rfl⟩ <;> rcases h' with ⟨rfl, h'⟩ | ⟨a', k', P', h1', h2', h3', h4', h5', h6', _, rfl⟩
  · rfl
  · have := h a' h1'; omega
  · have := h' a h1; omega
  · have e1 := h4 a' h1'
    have e2 := h4' a h1
    obtain rfl : k = k' := by omega
    obtain rfl : a = a' := by
      rcases Nat.lt_trichotomy a a' with h | h | h
      · have := h5' a h; omega
      · exact h
      · have := h5 a' h; omega
    obtain rfl := locIs_uniq h6 h6'
    rfl
theorem locIs_ex (s P : List Int) : ∃ l, LocIs s P l := by
  refine ⟨(iota (s.length + 1)).filter fun x => decide ((suf s x).take P.length = P), ?_, fun x => ?_⟩
  · refine List.Pairwise.filter _ ?_
    unfold iota
    rw [List.pairwise_map]
    exact List.pairwise_lt_range.imp fun h => Int.ofNat_lt.2 h
  · rw [List.mem_filter, mem_iota, decide_eq_true_eq]
    constructor
    · rintro ⟨h1, h2⟩; exact ⟨by omega, h2⟩
    · rintro ⟨h1, h2⟩; exact ⟨by omega, h2⟩
theorem Repeated_ok {s : ByteArray} (h : Hp) :
    HCalls Try.prog 18 #[.string s] h (fun v h' => Ext h h' ∧ if 4096 < s.size then v = .tuple #[.string (⟨#[]⟩ : ByteArray), .int .i64 0, .int .i64 4] else RepIs s v) := by
  have hbl := bs_len s
  refine suffixindex_Repeated_call ?_
  rw [suffixindex_Repeated_b0_eq]
  refine suffixindex_long_call ?_
  rw [suffixindex_long_b0_eq]
  refine ⟨_, rfl, condP (fun h1 => ?_) (fun h1 => ?_)⟩
  · exact ⟨.refl _, by rw [if_pos (by omega)]⟩
  simp only [if_neg (show ¬ 4096 < s.size by omega)]
  refine (suffixes_ok h (by omega)).mono fun v h2 ⟨q, d, A, l, hv, o, st, hsa⟩ => ⟨_, _, _, hv, ?_⟩
  obtain ⟨hll, hrg⟩ := SA_range hsa
  rw [hbl] at hrg hll
  have st := st.to (B := A + 0)
  have rl := o.rd st
  refine (common_ok rl (by omega) (by omega) fun i hi => by have := hrg i hi; omega).mono fun v h3 ⟨b, A2, hv, o2, st2⟩ => ⟨_, _, _, hv, ?_⟩
  have rc := o2.rd (st2.to (B := A2 + 0))
  have rl := rl.ext st2.ext
  have x3 := st.ext.trans st2.ext
  have hC0 : ∀ i, i < s.size → 0 ≤ (comL (bs s) l).getD i 0 := fun i hi => by
    rw [comL_get (by omega)]; split <;> omega
  refine condP (fun hn => ⟨x3, l, hsa, .inl ⟨rfl, fun i hi => by omega⟩⟩) (fun hn => ?_)
  refine (Max_ok rc (by omega) (by omega)).mono fun v h4 ⟨hh, m, hv, hex, hall⟩ => ⟨_, hv, ?_⟩
  subst hh
  refine condP (fun hm => ⟨x3, l, hsa, .inl ⟨rfl, fun i hi => ?_⟩⟩) (fun hm => ?_)
  · have := hall i (by omega)
    have := hC0 i (by omega)
    omega
  rw [suffixindex_Repeated_b1_eq]
  refine (Max_ok rc (by omega) (by omega)).mono fun v h5 ⟨hh, m2, hv, hex2, hall2⟩ => ⟨_, hv, ?_⟩
  subst hh
  obtain rfl : m = m2 := by
    obtain ⟨i, hi, e⟩ := hex
    obtain ⟨j, hj, e2⟩ := hex2
    have := hall j hj
    have := hall2 i hi
    omega
  refine (Index_ok rc (by omega) hex).mono fun v h5 ⟨hh, a, hv, ha, hae, hab⟩ => ⟨_, hv, ?_⟩
  subst hh
  have hmp : 0 < m := by have := hC0 a ha; omega
  obtain ⟨k, rfl⟩ := Int.eq_ofNat_of_zero_le (show 0 ≤ m by omega)
  have ha0 : 0 < a := by
    rcases Nat.eq_zero_or_pos a with h | h
    · subst h
      rw [comL_get (by omega), if_pos rfl] at hae
      omega
    · exact h
  have hCg : ∀ i, 0 < i → i < s.size → (comL (bs s) l).getD i 0 = (lcp (suf (bs s) (l.getD (i - 1) 0)) (suf (bs s) (l.getD i 0)) : Int) := fun i h0 h1 => comL_one h0 (by omega)
  refine ⟨fun q h' => h' = h5 ∧ ∃ run : Nat, q.1 = (run : Int) + 1 ∧ q.2.1 = ((a + run : Nat) : Int) ∧ a + run ≤ s.size ∧ ∀ i, a ≤ i → i < a + run → (comL (bs s) l).getD i 0 = k, fun q _ => (s.size - q.2.1).toNat, ⟨rfl, 0, rfl, rfl, by omega, fun i h1 h2 => by omega⟩, ?_⟩
  rintro ⟨_, _, _⟩ h6 ⟨rfl, run, rfl, rfl, hru, hrun⟩
  dsimp only
  have fin : (a + run = s.size ∨ (a + run < s.size ∧ (comL (bs s) l).getD (a + run) 0 < k)) → suffixindex_Repeated_b4 s q s.size d k a ((run : Int) + 1) h6 (fun v h' => Ext h h' ∧ RepIs s v) := fun hend => by
    have hrpos : 0 < run := by
      rcases Nat.eq_zero_or_pos run with h | h
      · subst h
        rcases hend with h | ⟨_, h⟩
        · omega
        · rw [Nat.add_zero, hae] at h; omega
      · exact h
    have hla := hrg a ha
    have hlc : k ≤ lcp (suf (bs s) (l.getD (a - 1) 0)) (suf (bs s) (l.getD a 0)) := by
      have := hCg a ha0 ha
      omega
    have hkl := ((lcp_ge _ _ _).1 hlc).2.2
    have hsl := suf_len (bs s) (n := l.getD a 0) (by omega) (by omega)
    have hw : bs (s.extract (l.getD a 0).toNat (l.getD a 0 + k).toNat) = (suf (bs s) (l.getD a 0)).take k := by
      rw [bs_ext]
      unfold suf
      rw [List.drop_take]
      congr 1
      omega
    have hwl : (bs (s.extract (l.getD a 0).toNat (l.getD a 0 + k).toNat)).length = k := by
      rw [hw, List.length_take]; omega
    obtain ⟨P, hP⟩ := locIs_ex (bs s) (bs (s.extract (l.getD a 0).toNat (l.getD a 0 + k).toNat))
    have hrows : ∀ j, j < l.length → ((suf (bs s) (l.getD j 0)).take k = (suf (bs s) (l.getD a 0)).take k ↔ (a - 1 ≤ j ∧ j < a + run)) := fun j hj =>
      run_rows hsa.2 ha0 (by omega) hrpos (by omega) (fun i h1 h2 => by
        have e1 := hrun i h1 h2
        rw [hCg i (by omega) (by omega)] at e1
        omega) (fun i h1 h2 => by
        have e1 := hab i h2
        have e2 := hall i (by omega)
        rw [hCg i h1 (by omega)] at e1 e2
        omega) (fun h1 => by
        rcases hend with h | ⟨h, h'⟩
        · omega
        · rw [hCg (a + run) (by omega) h] at h'
          omega) hj
    have hlen : P.length = run + 1 := by
      have hPn : P.Nodup := by rw [List.nodup_iff_pairwise_ne]; exact hP.1.imp fun h => by omega
      have hln := hsa.1.nodup_iff.2 (iota_nodup _)
      have hRn : (rng l (a - 1) (a + run)).Nodup := hln.sublist ((List.drop_sublist _ _).trans (List.take_sublist _ _))
      have hperm : P.Perm (rng l (a - 1) (a + run)) := (List.perm_ext_iff_of_nodup hPn hRn).2 fun x => by
        rw [hP.2, hwl, hw]
        constructor
        · rintro ⟨hx, he⟩
          have hxn : x < s.size := by
            have h1 := congrArg List.length he
            rw [List.length_take, List.length_take] at h1
            have h2 := suf_len (bs s) (n := x) (by omega) (by omega)
            omega
          obtain ⟨j, hj, rfl⟩ := List.getElem_of_mem (hsa.1.mem_iff.2 (mem_iota.2 ⟨hx.1, by omega⟩))
          have ej : l.getD j 0 = l[j] := by simp [List.getD, hj]
          have h1 := (hrows j hj).1 (by rw [ej]; exact he)
          unfold rng
          rw [List.mem_iff_getElem]
          exact ⟨j - (a - 1), by rw [List.length_drop, List.length_take]; omega, by rw [List.getElem_drop, List.getElem_take]; congr 1; omega⟩
        · intro hx
          obtain ⟨j, hj, rfl⟩ := List.getElem_of_mem hx
          unfold rng at hj ⊢
          rw [List.length_drop, List.length_take] at hj
          rw [List.getElem_drop, List.getElem_take]
          have hj2 : a - 1 + j < l.length := by omega
          have ej : l.getD (a - 1 + j) 0 = l[a - 1 + j] := by simp [List.getD, hj2]
          have h1 := (hrows (a - 1 + j) hj2).2 (by omega)
          have h2 := hrg (a - 1 + j) (by omega)
          rw [ej] at h1 h2
          exact ⟨by omega, h1⟩
      rw [hperm.length_eq, rng_len l (by omega)]
      omega
    rw [suffixindex_Repeated_b4_eq]
    refine ldI (i' := a) rl rfl ha (ldI (i' := a) rl rfl ha ⟨⟨by omega, by omega⟩, ⟨by omega, by omega, by omega⟩, x3, l, hsa, .inr ⟨a, k, P, by omega, hae, by omega, fun i hi => hall i (by omega), fun i hi => ?_, hP, by omega, ?_⟩⟩)
    · have := hall i (by omega)
      have := hab i hi
      omega
    · rw [hlen]; push_cast; rfl
  rw [suffixindex_Repeated_b2_eq]
  refine condP (fun hlt => ldI (i' := a + run) rc rfl (by omega) (condP (fun hge => ?_) (fun hl => ?_))) (fun hge => ?_)
  · rw [suffixindex_Repeated_b3_eq]
    refine ⟨⟨by omega, by omega⟩, ?_⟩
    rw [suffixindex_Repeated_b5_eq]
    refine ⟨⟨by omega, by omega⟩, ⟨rfl, run + 1, by push_cast; rfl, by push_cast; omega, by omega, fun i h1 h2 => ?_⟩, by dsimp only; omega⟩
    rcases Nat.lt_or_ge i (a + run) with h | h
    · exact hrun i h1 h
    · have := hall (a + run) (by omega)
      rw [show i = a + run by omega]
      omega
  · exact fin (.inr ⟨by omega, by omega⟩)
  · exact fin (.inl (by omega))
end Go.Proofs.Ytipmcfpjdebpdaa

/- The reference: Repeated; the example. -/
set_option maxRecDepth 100000
namespace Go.Proofs.Ytipmcfpjdebpdaa
open Go Go.Sx
end Go.Proofs.Ytipmcfpjdebpdaa

/- The example. -/
set_option maxRecDepth 100000
namespace Go.Proofs.Ytipmcfpjdebpdaa
open Go Go.Sx
abbrev banana : ByteArray := ⟨#[98, 97, 110, 97, 110, 97]⟩
abbrev ana : ByteArray := ⟨#[97, 110, 97]⟩
theorem ban_bs : bs banana = [98, 97, 110, 97, 110, 97] := rfl
theorem ana_bs : bs ana = [97, 110, 97] := rfl
theorem ban_SA : SA (bs banana) [5, 3, 1, 0, 4, 2] := by
  rw [ban_bs]
  refine ⟨?_, ?_⟩
  · decide
  · unfold SufS; decide
theorem ban_com : comL (bs banana) [5, 3, 1, 0, 4, 2] = [0, 1, 3, 0, 0, 2] := by rw [ban_bs]; decide
theorem ban_bwt : bwtL (bs banana) [6, 5, 3, 1, 0, 4, 2] = [97, 110, 110, 98, -1, 97, 97] := by rw [ban_bs]; decide
theorem ban_loc : LocIs (bs banana) (bs ana) [1, 3] := by
  rw [ban_bs, ana_bs]
  refine ⟨by decide, fun x => ?_⟩
  constructor
  · intro hx
    rcases List.mem_cons.1 hx with rfl | hx
    · exact ⟨by decide, by decide⟩
    · rw [List.mem_singleton.1 hx]; exact ⟨by decide, by decide⟩
  · rintro ⟨⟨h0, h1⟩, he⟩
    obtain ⟨k, rfl⟩ := Int.eq_ofNat_of_zero_le h0
    have h1 : k ≤ 6 := by
      have : (k : Int) ≤ 6 := h1
      omega
    rcases (by omega : k = 0 ∨ k = 1 ∨ k = 2 ∨ k = 3 ∨ k = 4 ∨ k = 5 ∨ k = 6) with rfl | rfl | rfl | rfl | rfl | rfl | rfl
    · exact absurd he (by decide)
    · decide
    · exact absurd he (by decide)
    · decide
    · exact absurd he (by decide)
    · exact absurd he (by decide)
    · exact absurd he (by decide)
theorem ban_rep : RepIs banana (.tuple #[.string ana, .int .i64 2, .int .i64 0]) := by
  refine ⟨_, ban_SA, .inr ⟨2, 3, [1, 3], by decide, ?_, by decide, ?_, ?_, ?_, by decide, rfl⟩⟩
  · rw [ban_com]; rfl
  · rw [ban_com]; decide
  · rw [ban_com]; decide
  · exact ban_loc
theorem Awake_s (h : Hp) : HCalls Try.prog 10 #[] h (fun v h' => Ext h h' ∧ v = .bool true) := by
  have hsz : banana.size = 6 := rfl
  refine l30_awake_call ?_
  rw [l30_awake_b0_eq]
  refine (Suffixes_ok (s := banana) h).mono fun v h1 hv => ?_
  rw [if_neg (by decide)] at hv
  obtain ⟨q1, d1, A1, l1, hv, o1, st1, sa1⟩ := hv
  obtain rfl := SA_uniq sa1 ban_SA
  refine ⟨_, _, _, _, hv, ?_⟩
  have r1 := o1.rd (st1.to (B := A1 + 0))
  have x1 := st1.ext
  refine (Common_ok (s := banana) h1).mono fun v h2 hv => ?_
  rw [if_neg (by decide)] at hv
  obtain ⟨q2, d2, l2, hv, sa2, r2, x2⟩ := hv
  obtain rfl := SA_uniq sa2 ban_SA
  rw [ban_com] at r2
  refine ⟨_, _, _, _, hv, ?_⟩
  refine (Transform_ok (s := banana) h2).mono fun v h3 hv => ?_
  rw [if_neg (by decide)] at hv
  obtain ⟨q3, d3, O3, pl, hv, _, sa3, r3, x3, hpl⟩ := hv
  obtain rfl := SA0_uniq sa3 (SA_cons ban_SA)
  obtain rfl := plAt_uniq sa3 hpl (q := 4) ⟨by decide, by decide⟩
  have eb : bwtL (bs banana) (((bs banana).length : Int) :: [5, 3, 1, 0, 4, 2]) = [97, 110, 110, 98, -1, 97, 97] := ban_bwt
  rw [eb] at r3
  refine ⟨_, _, _, _, _, hv, ?_⟩
  refine (Repeated_ok (s := banana) h3).mono fun v h4 ⟨x4, hv⟩ => ?_
  rw [if_neg (by decide)] at hv
  have hv := repIs_uniq hv ban_rep
  refine ⟨_, _, _, hv, ?_⟩
  refine (Make_x (s := banana) h4).mono fun v h5 hv => ?_
  rw [if_neg (by decide)] at hv
  obtain ⟨xb, O, pl, op, oc, tb, H, rfl, ix, x5⟩ := hv
  refine ⟨_, _, rfl, condNo rfl ?_⟩
  refine (Locate_x ix ana).mono fun v h6 hv => ?_
  rw [if_neg (by decide)] at hv
  obtain ⟨q6, n6, d6, A6, l6, rfl, o6, st6, loc6⟩ := hv
  obtain rfl := locIs_uniq loc6 ban_loc
  have r6 := o6.rd (st6.to (B := A6 + 0))
  have x6 := st6.ext
  have hn6 := r6.len
  refine ⟨_, _, _, _, rfl, condYes rfl ?_⟩
  have x26 := ((x3.trans x4).trans x5).trans x6
  have x36 := (x4.trans x5).trans x6
  have r1 := (r1.ext x2).ext x26
  have r2 := r2.ext x26
  have r3 := r3.ext x36
  have xx := (x1.trans x2).trans x26
  refine (St.start h6).new (cs := [_, _, _, _, _, _]) fun b1 h7 x7 s7 => ?_
  have k7 : Sl TI (some ⟨b1, 0, none⟩) 6 6 [5, 3, 1, 0, 4, 2] (cA b1 [.int .i64 5, .int .i64 3, .int .i64 1, .int .i64 0, .int .i64 4, .int .i64 2] 3) := Sl.of_blk (T := TI) (n := 6) (xs := [5, 3, 1, 0, 4, 2]) rfl (cs := [.int .i64 5, .int .i64 3, .int .i64 1, .int .i64 0, .int .i64 4, .int .i64 2]) rfl
  refine (EqualI (r1.ext x7) (k7.rd s7) (by decide)).mono fun v h8 ⟨hh, hv⟩ => ⟨_, hv, ?_⟩
  subst hh
  refine condYes (by decide) (condYes rfl ?_)
  refine (St.start h8).new (cs := [_, _, _, _, _, _]) fun b2 h9 x9 s9 => ?_
  have k9 : Sl TI (some ⟨b2, 0, none⟩) 6 6 [0, 1, 3, 0, 0, 2] (cA b2 [.int .i64 0, .int .i64 1, .int .i64 3, .int .i64 0, .int .i64 0, .int .i64 2] 3) := Sl.of_blk (T := TI) (n := 6) (xs := [0, 1, 3, 0, 0, 2]) rfl (cs := [.int .i64 0, .int .i64 1, .int .i64 3, .int .i64 0, .int .i64 0, .int .i64 2]) rfl
  have x79 := x7.trans x9
  refine (EqualI (r2.ext x79) (k9.rd s9) (by decide)).mono fun v h10 ⟨hh, hv⟩ => ⟨_, hv, ?_⟩
  subst hh
  refine condYes (by decide) (condYes rfl (condYes rfl ?_))
  refine (St.start h10).new (cs := [_, _, _, _, _, _, _]) fun b3 h11 x11 s11 => ?_
  have k11 : Sl TI (some ⟨b3, 0, none⟩) 7 7 [97, 110, 110, 98, -1, 97, 97] (cA b3 [.int .i64 97, .int .i64 110, .int .i64 110, .int .i64 98, .int .i64 (-1), .int .i64 97, .int .i64 97] 3) := Sl.of_blk (T := TI) (n := 7) (xs := [97, 110, 110, 98, -1, 97, 97]) rfl (cs := [.int .i64 97, .int .i64 110, .int .i64 110, .int .i64 98, .int .i64 (-1), .int .i64 97, .int .i64 97]) rfl
  have x711 := x79.trans x11
  refine (EqualI (r3.ext x711) (k11.rd s11) (by decide)).mono fun v h12 ⟨hh, hv⟩ => ⟨_, hv, ?_⟩
  subst hh
  refine condYes (by decide) (condYes rfl (condYes (by rw [strEq_bs]; decide) (condYes rfl (condYes rfl (condYes rfl ?_)))))
  refine (St.start h12).new (cs := [_, _]) fun b4 h13 x13 s13 => ?_
  have k13 : Sl TI (some ⟨b4, 0, none⟩) 2 2 [1, 3] (cA b4 [.int .i64 1, .int .i64 3] 3) := Sl.of_blk (T := TI) (n := 2) (xs := [1, 3]) rfl (cs := [.int .i64 1, .int .i64 3]) rfl
  have x713 := x711.trans x13
  refine (EqualI (r6.ext x713) (k13.rd s13) (by rw [← hn6]; decide)).mono fun v h14 ⟨hh, hv⟩ => ⟨_, hv, ?_⟩
  subst hh
  exact ⟨xx.trans x713, by rw [decide_eq_true rfl]⟩
end Go.Proofs.Ytipmcfpjdebpdaa

/- The laws SuffixindexSorts, SuffixIndexes. -/
set_option maxRecDepth 100000
namespace Go.Proofs.Ytipmcfpjdebpdaa
open Go Go.Sx
theorem rep_shape {s : ByteArray} {v : Value} (h : RepIs s v) : ∃ (w : ByteArray) (n e : Int), v = .tuple #[.string w, .int .i64 n, .int .i64 e] := by
  obtain ⟨l, _, ⟨h, _⟩ | ⟨_, _, _, _, _, _, _, _, _, _, h⟩⟩ := h <;> exact ⟨_, _, _, h⟩
theorem strEq_self (a : ByteArray) : strEq a a = true := by rw [strEq_bs]; exact decide_eq_true rfl
end Go.Proofs.Ytipmcfpjdebpdaa

/- How a slice that is handed in is read: elements of any number of cells. -/
namespace Go.Sx
open Go Go.ChangeShapes Go.WideShapes Go.Deep
section
variable {H : Type} {enc : TypeId × Value → H} {P : Program} {w : World} {base : Nat} {sp : Nat → Bool} {held : Bool} {α : Type}
end
end Go.Sx

/- How the law's arguments are read. -/
set_option maxRecDepth 10000
namespace Go.Proofs.Ytipmcfpjdebpdaa
open Go Go.Sx Go.ChangeShapes Go.WideShapes Go.ChangeAt Go.RowKit Go.Deep

theorem own : ownKnob Try.prog.godebug = none := by kernel_rfl
theorem below_of {P : Program} {f : FuncId} {args : Array Value} {w : World} (hc : HCalls P f args w.heap (fun v h' => v = .bool true ∧ Ext w.heap h')) :
    Calls P f args w fun e w' => e = .returned (.bool true) ∧ Below w.heap.size w w' :=
  (hc w rfl).mono fun e w' ⟨v, he, hs, hv, hx⟩ => ⟨by rw [he, hv], ⟨hs.os, hs.tape, hs.output, hx.size, hx.same⟩⟩
section
variable {H : Type} {enc : TypeId × Value → H} {w : World} {base : Nat} {held : Bool} {a : Option Addr} {len cap : Nat} {d : DataW H} {ps : List MemPlace}
end
end Go.Proofs.Ytipmcfpjdebpdaa

/- Suffixes in plain lists: the row of the suffix that is longer by one; occurrences and their continuations; nothing longer occurs twice. -/
namespace Go.Sx
theorem nodup_inj {α : Type} {l : List α} (h : l.Nodup) {i j : Nat} {hi : i < l.length} {hj : j < l.length} (e : l[i] = l[j]) : i = j := by
  rw [List.nodup_iff_pairwise_ne] at h
  have h := List.pairwise_iff_getElem.1 h
  rcases Nat.lt_trichotomy i j with h1 | h1 | h1
  · exact absurd e (h i j hi hj h1)
  · exact h1
  · exact absurd e.symm (h j i hj hi h1)
section
variable {s O : List Int} (hs : ∀ x ∈ s, 0 ≤ x) (hp : O.Perm (iota (s.length + 1))) (hw : SufS s O)
end
section
variable {s l : List Int}
/-- What occurs twice is in common to two neighbours. -/
theorem twice_row (hw : SufS s l) {P : List Int} {i j : Nat} (hi : i < j) (hj : j < l.length) (h1 : (suf s (l.getD i 0)).take P.length = P) (h2 : (suf s (l.getD j 0)).take P.length = P) :
    P.length ≤ lcp (suf s (l.getD (j - 1) 0)) (suf s (l.getD j 0)) := by
  have sq := squeeze (suf_le hw (show i ≤ j - 1 by omega) (by omega)) (suf_le hw (show j - 1 ≤ j by omega) hj) (h1.trans h2.symm)
  rw [h1] at sq
  have la := congrArg List.length sq
  have lb := congrArg List.length h2
  rw [List.length_take] at la lb
  exact (lcp_ge _ _ _).2 ⟨sq.trans h2.symm, by omega, by omega⟩
end
end Go.Sx

/- The laws SuffixindexOrder, SuffixindexLongest. -/
set_option maxRecDepth 100000
namespace Go.Proofs.Ytipmcfpjdebpdaa
open Go Go.Sx
theorem tup3 {w w' : ByteArray} {n n' e e' : Int} (h : (.tuple #[.string w, .int .i64 n, .int .i64 e] : Value) = .tuple #[.string w', .int .i64 n', .int .i64 e']) : w = w' ∧ n = n' ∧ e = e' := by simpa using h
theorem longest_lawS {h : Hp} (s : ByteArray) (a b : Int) (ha : 0 ≤ a ∧ a ≤ 255) (hb : 0 ≤ b ∧ b ≤ 255) :
    HCalls Try.prog 5 #[.string s, .int .u8 a, .int .u8 b] h (fun v h' => v = .bool true ∧ Ext h h') := by
  have hbl := bs_len s
  refine l30_SuffixindexLongest_call ?_
  rw [l30_SuffixindexLongest_b0_eq]
  refine (Awake_s h).mono fun _ h1 ⟨x, hv⟩ => ⟨_, hv, condNo rfl (condP (fun _ => ⟨rfl, x⟩) fun hs => ?_)⟩
  refine (Repeated_ok (s := s) _).mono fun v h3 ⟨x3, hv⟩ => ?_
  rw [if_neg (by omega)] at hv
  obtain ⟨w, nw, ew, rfl⟩ := rep_shape hv
  have hrep := hv
  refine ⟨_, _, _, rfl, ?_⟩
  have x := x.trans x3
  refine (Make_x (s := s) _).mono fun v h4 hv => ?_
  rw [if_neg (by omega)] at hv
  obtain ⟨xb, O, pl, op, oc, tb, H, rfl, ix, x4⟩ := hv
  refine ⟨_, _, rfl, ?_⟩
  have x := x.trans x4
  refine condNo rfl (condNo rfl ?_)
  obtain ⟨l, hsa, hrep⟩ := hrep
  obtain ⟨hll, hrg⟩ := SA_range hsa
  rw [hbl] at hll hrg
  -- what occurs twice is in common to neighbours
  have key : ∀ (P L : List Int), P ≠ [] → LocIs (bs s) P L → 2 ≤ L.length → ∃ j, 0 < j ∧ j < l.length ∧ (P.length : Int) ≤ (comL (bs s) l).getD j 0 ∧ (suf (bs s) (l.getD j 0)).take P.length = P := fun P L hP hL h2 => by
    have h0 := (hL.2 _).1 (List.getElem_mem (show 0 < L.length by omega))
    have h1 := (hL.2 _).1 (List.getElem_mem (show 1 < L.length by omega))
    have hlt := List.pairwise_iff_getElem.1 hL.1 0 1 (by omega) (by omega) (by omega)
    have row : ∀ x : Int, 0 ≤ x → x ≤ (bs s).length → (suf (bs s) x).take P.length = P → ∃ j, j < l.length ∧ l.getD j 0 = x := fun x hx0 hx1 hx2 => by
      have hne : x ≠ (bs s).length := by
        rintro rfl
        unfold suf at hx2
        rw [Int.toNat_natCast, List.drop_length, List.take_nil] at hx2
        exact hP hx2.symm
      obtain ⟨j, hj, e⟩ := List.getElem_of_mem (hsa.1.mem_iff.2 (mem_iota.2 (show 0 ≤ x ∧ x < (bs s).length by omega)))
      exact ⟨j, hj, by simp [List.getD, hj, e]⟩
    obtain ⟨i, hi, ei⟩ := row _ h0.1.1 h0.1.2 h0.2
    obtain ⟨j, hj, ej⟩ := row _ h1.1.1 h1.1.2 h1.2
    have hij : i ≠ j := by
      rintro rfl
      rw [ei] at ej
      omega
    have fi : (suf (bs s) (l.getD i 0)).take P.length = P := by rw [ei]; exact h0.2
    have fj : (suf (bs s) (l.getD j 0)).take P.length = P := by rw [ej]; exact h1.2
    rcases Nat.lt_or_ge i j with h | h
    · refine ⟨j, by omega, hj, ?_, fj⟩
      rw [comL_one (by omega) hj]
      exact Int.ofNat_le.2 (twice_row hsa.2 h hj fi fj)
    · refine ⟨i, by omega, hi, ?_, fi⟩
      rw [comL_one (by omega) hi]
      exact Int.ofNat_le.2 (twice_row hsa.2 (by omega) hi fj fi)
  have tail : ∀ h5, Ext h h5 → IX h5 xb s O pl op oc tb H → l30_SuffixindexLongest_b2 s a b w ew (some ⟨xb, 0, none⟩) h5 (fun v h' => v = .bool true ∧ Ext h h') := fun h5 x5 ix5 => by
    rw [l30_SuffixindexLongest_b2_eq]
    refine ⟨⟨by omega, by omega⟩, ⟨by omega, by omega⟩, rem_intro ha.1 (by omega) ⟨⟨by omega, by omega⟩, rem_intro hb.1 (by omega) ?_⟩⟩
    have m1 := Int.emod_nonneg a (show (s.size : Int) + 1 ≠ 0 by omega)
    have m2 := Int.emod_lt_of_pos a (show 0 < (s.size : Int) + 1 by omega)
    have m3 := Int.emod_nonneg b (show (61 : Int) ≠ 0 by omega)
    have m4 := Int.emod_lt_of_pos b (show (0 : Int) < 61 by omega)
    generalize hA : a % ((s.size : Int) + 1) = A at *
    generalize hB : b % 61 = B at *
    refine ⟨⟨by omega, by omega⟩, ⟨by omega, by split <;> omega, by split <;> omega⟩, ?_⟩
    generalize hC : (if A + B < (s.size : Int) then A + B else (s.size : Int)) = C at *
    have hC1 : A ≤ C ∧ C ≤ s.size := by rw [← hC]; split <;> omega
    have hP : bs (s.extract A.toNat C.toNat) = ((bs s).take C.toNat).drop A.toNat := bs_ext _ _ _
    have hPl := bs_len (s.extract A.toNat C.toNat)
    generalize s.extract A.toNat C.toNat = P at *
    have hPs : P.size = C.toNat - A.toNat := by rw [← hPl, hP, List.length_drop, List.length_take]; omega
    refine (Count_x ix5 P).mono fun v h6 ⟨x6, hv⟩ => ?_
    rw [if_neg (by omega)] at hv
    obtain ⟨L, hL, rfl⟩ := hv
    refine ⟨_, _, rfl, condNo rfl (condP (fun _ => ⟨rfl, x5.trans x6⟩) fun h2 => cond_intro (fun _ => ⟨rfl, x5.trans x6⟩) fun hne => ?_)⟩
    have hPne : bs P ≠ [] := by
      intro e
      rw [strEq_bs, decide_eq_false_iff_not] at hne
      exact hne (by rw [e]; rfl)
    obtain ⟨j, hj0, hj, hcj, hpj⟩ := key (bs P) L hPne hL (by omega)
    have hPp : 0 < (bs P).length := List.length_pos_iff.2 hPne
    rcases hrep with ⟨_, hz⟩ | ⟨at_, k, W, h1, h2', h3, h4', h5', h6', h7', hv⟩
    · have := hz j hj
      omega
    · replace hv := tup3 hv
      obtain ⟨hw, hn, he⟩ := hv
      subst he
      have hat := hrg at_ (by omega)
      have hwb : bs w = (suf (bs s) (l.getD at_ 0)).take k := by
        rw [hw, bs_ext]
        unfold suf
        rw [List.drop_take, show (l.getD at_ 0 + k).toNat - (l.getD at_ 0).toNat = k by omega]
      have hwl : w.size = k := by
        rw [← bs_len, hwb, List.length_take]
        have := suf_len (bs s) (n := l.getD at_ 0) (by omega) (by omega)
        omega
      have hjk := h4' j hj
      refine condYes rfl (condP (fun _ => ⟨rfl, x5.trans x6⟩) fun hge => condP (fun heq => ?_) fun hne2 => by omega)
      refine ⟨?_, x5.trans x6⟩
      rw [strLt_bs, decide_eq_false]; · rfl
      have hek : (bs P).length = k := by omega
      rw [← hpj, hek, hwb]
      have hle : at_ ≤ j := by
        rcases Nat.lt_or_ge j at_ with h | h
        · have := h5' j h; omega
        · exact h
      rcases suf_le hsa.2 hle hj with h | h
      · exact take_mono k h
      · rw [h]; exact ltL_irr _
  rw [l30_SuffixindexLongest_b1_eq]
  rcases hrep with ⟨hv, hz⟩ | ⟨at_, k, W, h1', h2', h3', h4', h5', h6', h7', hv⟩
  · replace hv := tup3 hv
    obtain ⟨rfl, rfl, rfl⟩ := hv
    exact condNo rfl (condNo rfl (condNo (by rw [strEq_self]; rfl) (condNo rfl (tail _ x ix))))
  · have hv2 := hv
    replace hv2 := tup3 hv2
    obtain ⟨hw, hn, he⟩ := hv2
    subst hw hn he
    have hat := hrg at_ (by omega)
    have hwb : bs (s.extract (l.getD at_ 0).toNat (l.getD at_ 0 + k).toNat) = (suf (bs s) (l.getD at_ 0)).take k := by
      rw [bs_ext]
      unfold suf
      rw [List.drop_take, show (l.getD at_ 0 + k).toNat - (l.getD at_ 0).toNat = k by omega]
    have hsl := suf_len (bs s) (n := l.getD at_ 0) (by omega) (by omega)
    have hwl : (bs (s.extract (l.getD at_ 0).toNat (l.getD at_ 0 + k).toNat)).length = k := by
      rw [hwb, List.length_take]; omega
    have hws := bs_len (s.extract (l.getD at_ 0).toNat (l.getD at_ 0 + k).toNat)
    have ha0 : 0 < at_ := by
      rcases Nat.eq_zero_or_pos at_ with h | h
      · subst h
        rw [comL_get h1', if_pos rfl] at h2'
        omega
      · exact h
    refine condYes rfl ?_
    refine (Count_x ix (s.extract (l.getD at_ 0).toNat (l.getD at_ 0 + k).toNat)).mono fun v h6 ⟨x6, hv6⟩ => ?_
    rw [if_neg (by omega)] at hv6
    obtain ⟨L, hL, rfl⟩ := hv6
    obtain rfl := locIs_uniq h6' hL
    refine ⟨_, _, rfl, condNo rfl (condNo (by rw [decide_eq_true rfl]; rfl) (condP (fun hlt => ?_) fun _ => condNo ?_ (tail _ (x.trans x6) (ix.ext x6))))⟩
    · exfalso
      -- two neighbours have it
      rw [comL_one ha0 h1'] at h2'
      have hc := (lcp_ge (suf (bs s) (l.getD (at_ - 1) 0)) (suf (bs s) (l.getD at_ 0)) k).1 (by omega)
      have hb1 := hrg (at_ - 1) (by omega)
      have m1 := (h6'.2 (l.getD at_ 0)).2 ⟨⟨by omega, by omega⟩, by rw [hwl, hwb]⟩
      have m2 := (h6'.2 (l.getD (at_ - 1) 0)).2 ⟨⟨by omega, by omega⟩, by rw [hwl, hwb]; exact hc.1⟩
      have hne : l.getD at_ 0 ≠ l.getD (at_ - 1) 0 := by
        have e1 : l.getD at_ 0 = l[at_] := by simp [List.getD, h1']
        have e2 : l.getD (at_ - 1) 0 = l[at_ - 1] := by simp [List.getD, show at_ - 1 < l.length by omega]
        rw [e1, e2]
        intro e
        have := nodup_inj (hsa.1.nodup_iff.2 (iota_nodup _)) e
        omega
      have : W.length = 0 ∨ W.length = 1 := by omega
      rcases this with h | h
      · rw [List.eq_nil_of_length_eq_zero h] at m1; cases m1
      · obtain ⟨z, rfl⟩ := List.length_eq_one_iff.1 h
        rw [List.mem_singleton] at m1 m2
        exact hne (m1.trans m2.symm)
    · rw [strEq_bs, decide_eq_false]
      intro e
      rw [e] at hwl
      have : (bs (⟨#[]⟩ : ByteArray)).length = 0 := rfl
      omega
end Go.Proofs.Ytipmcfpjdebpdaa
