/- Part A9 P50 P51 A10 A11 P52 A12 A13 A14 A15 R1 FBX P53 A17 A18 A19 A20 A21 of the proof: contracts of functions of the program, and what follows from them. -/
import Derived.Test.YtipmcfpjdebpdaaSxA8
import Derived.Test.YtipmcfpjdebpdaaSxSI
import Derived.Deep.Slices
import Derived.OpenShut
import Derived.Test.YtipmcfpjdebpdaaRows
import Derived.WalkKit
import Derived.ProofKit
import Derived.ShutString
import Derived.ChangeOld
import Derived.Below
import Derived.ChangeMaps5
import Derived.Deep.Grids
/- The index: Make. -/
set_option maxRecDepth 100000
namespace Go.Proofs.Ytipmcfpjdebpdaa
open Go Go.Sx
/-- The transform without the place. -/
def delL (L : List Int) (p : Nat) : List Int := L.take p ++ L.drop (p + 1)
theorem delL_len {L : List Int} {p : Nat} (h : p < L.length) : (delL L p).length = L.length - 1 := by
  unfold delL
  rw [List.length_append, List.length_take, List.length_drop]; omega
theorem bwt_byte {s : ByteArray} {O : List Int} (hO : SA0 (bs s) O) {i : Nat} (hi : i < O.length) : (O.getD i 0 = 0 ∧ (bwtL (bs s) O).getD i 0 = -1) ∨ (O.getD i 0 ≠ 0 ∧ 0 ≤ (bwtL (bs s) O).getD i 0 ∧ (bwtL (bs s) O).getD i 0 ≤ 255) := by
  rw [bwtL_get hi]
  by_cases h : O.getD i 0 = 0
  · exact .inl ⟨h, by rw [if_pos h]⟩
  · rw [if_neg h]
    have := bs_byte (s := s) (O.getD i 0 - 1).toNat
    exact .inr ⟨h, this.1, this.2⟩
theorem del_byte {s : ByteArray} {O : List Int} {p : Nat} (hO : SA0 (bs s) O) (hp : PlAt O p) : ∀ x ∈ delL (bwtL (bs s) O) p, 0 ≤ x ∧ x < 256 := by
  obtain ⟨hol, _⟩ := SA0_range hO
  have hL := bwtL_len (bs s) O
  have key : ∀ j, j < O.length → j ≠ p → 0 ≤ (bwtL (bs s) O).getD j 0 ∧ (bwtL (bs s) O).getD j 0 < 256 := fun j hj hjp => by
    rcases bwt_byte hO hj with ⟨h0, _⟩ | ⟨_, h1, h2⟩
    · exact absurd (SA0_inj hO (by omega) (by have := hp.1; omega) (by rw [h0, hp.2])) hjp
    · exact ⟨h1, by omega⟩
  intro x hx
  unfold delL at hx
  rcases List.mem_append.1 hx with hx | hx
  · obtain ⟨j, hj, rfl⟩ := List.getElem_of_mem hx
    rw [List.length_take] at hj
    have := key j (by omega) (by omega)
    rw [List.getElem_take]
    simpa [List.getD, show j < (bwtL (bs s) O).length by omega] using this
  · obtain ⟨j, hj, rfl⟩ := List.getElem_of_mem hx
    rw [List.length_drop] at hj
    have := key (p + 1 + j) (by omega) (by omega)
    rw [List.getElem_drop]
    simpa [List.getD, show p + 1 + j < (bwtL (bs s) O).length by omega] using this
/-- The index of a text in memory. -/
structure IX (h : Hp) (xb : Nat) (s : ByteArray) (O : List Int) (pl : Nat) (op : Option Addr) (oc tb H : Nat) : Prop where
  blk : Blk h xb ([.string s, .slice op (s.size + 1) oc, .int .i64 (pl : Int)] ++ (firsts (bwtL (bs s) O)).map (Value.int .i64) ++ [ptr tb]) 68
  rd : RdT TI h op (s.size + 1) O
  oc : s.size + 1 ≤ oc
  sa : SA0 (bs s) O
  at_ : PlAt O pl
  wt : WT h tb (delL (bwtL (bs s) O) pl) 256 H
  len : s.size ≤ 4096
theorem IX.ext {h h' : Hp} {xb : Nat} {s : ByteArray} {O : List Int} {pl : Nat} {op : Option Addr} {oc tb H : Nat} (x : IX h xb s O pl op oc tb H) (e : Ext h h') : IX h' xb s O pl op oc tb H :=
  ⟨e.get x.blk, x.rd.ext e, x.oc, x.sa, x.at_, x.wt.ext e, x.len⟩
theorem box_cells {a b c d : Value} {cs : List Value} (h : cs.length = 257) : (setB ((((aggCells (zeroOf Try.prog 68)).set 0 a).set 1 b).set 2 c) 3 cs).set 260 d = [a, b, c] ++ cs ++ [d] := by
  have e : aggCells (zeroOf Try.prog 68) = [.string (⟨#[]⟩ : ByteArray), .slice none 0 0, .int .i64 0] ++ (List.replicate 257 (.int .i64 0) ++ [.pointer none]) := by kernel_rfl
  rw [e]
  have e2 : ((([.string (⟨#[]⟩ : ByteArray), .slice none 0 0, .int .i64 0] ++ (List.replicate 257 (.int .i64 0) ++ [.pointer none]) : List Value).set 0 a).set 1 b).set 2 c = [a, b, c] ++ (List.replicate 257 (.int .i64 0) ++ [.pointer none]) := rfl
  rw [e2]
  unfold setB
  have t3 : ([a, b, c] ++ (List.replicate 257 (.int .i64 0) ++ [.pointer none]) : List Value).take 3 = [a, b, c] := rfl
  have d3 : ([a, b, c] ++ (List.replicate 257 (.int .i64 0) ++ [.pointer none]) : List Value).drop (3 + cs.length) = [.pointer none] := by
    rw [h, List.drop_append, show [a, b, c].length = 3 from rfl, List.drop_eq_nil_of_le (by show 3 ≤ _; omega), List.nil_append, List.drop_append, List.length_replicate]
    rw [List.drop_eq_nil_of_le (by rw [List.length_replicate]; omega)]
    rfl
  rw [t3, d3, List.set_append, if_neg (by rw [List.length_append, h]; show ¬ 260 < 3 + 257; omega)]
  rw [List.length_append, h]
  rfl
theorem Make_x {s : ByteArray} (h : Hp) :
    HCalls Try.prog 19 #[.string s] h (fun v h' => if 4096 < s.size then v = .tuple #[.pointer none, .int .i64 4] ∧ h' = h else ∃ xb O pl op oc tb H, v = .tuple #[ptr xb, .int .i64 0] ∧ IX h' xb s O pl op oc tb H ∧ Ext h h') := by
  refine suffixindex_Make_call ?_
  rw [suffixindex_Make_b0_eq]
  refine suffixindex_long_call ?_
  rw [suffixindex_long_b0_eq]
  refine ⟨_, rfl, condP (fun h1 => ?_) (fun h1 => ?_)⟩
  · rw [if_pos (by omega)]; exact ⟨rfl, rfl⟩
  simp only [if_neg (show ¬ 4096 < s.size by omega)]
  have hbl := bs_len s
  refine (suffixes_ok h (by omega)).mono fun v h1 ⟨q, d, A, l, hv, o, st, hsa⟩ => ⟨_, _, _, hv, ?_⟩
  have st := st.to (B := A + 0)
  have rl := o.rd st
  have x1 := st.ext
  have hO := SA_cons hsa
  rw [hbl] at hO
  obtain ⟨hol, hrg⟩ := SA0_range hO
  refine (transform_ok rl (by omega) hsa).mono fun v h2 ⟨q2, d2, A2, pl, hv, o2, st2, hp⟩ => ⟨_, _, _, _, hv, ?_⟩
  have rb := o2.rd (st2.to (B := A2 + 0))
  have x2 := st2.ext
  clear st2 o2 st o
  generalize hOd : (s.size : Int) :: l = O at *
  have hbw := bwtL_len (bs s) O
  rw [hbl] at hol
  have hpl := hp.1
  refine (cloneI_w rb (by omega)).mono fun v h3 ⟨q3, d3, A3, hv, o3, st3⟩ => ⟨_, _, _, hv, ⟨by omega, by omega⟩, ?_⟩
  refine (deleteI_st (i := pl) (st3.to (B := A3 + 0)) o3 (by omega) rfl (by omega)).mono fun v h4 ⟨A4, hv, o4, st4⟩ => ⟨_, _, _, hv, ?_⟩
  rw [Nat.add_sub_cancel] at o4
  have x3 := st4.ext
  refine (Make_w (o4.rd st4) (by omega) 256).mono fun v h5 ⟨x5, hv⟩ => ?_
  have hdb := del_byte hO hp
  rw [if_neg (by rintro (h | h | ⟨x, hx, h⟩) <;> first | omega | (have := hdb x hx; omega)), if_neg (by omega)] at hv
  obtain ⟨tb, H, rfl, hH, t, _⟩ := hv
  refine ⟨_, _, rfl, condNo rfl ?_⟩
  have x14 := (x2.trans x3).trans x5
  refine (St.start h5).new (cs := [_]) fun b1 h6 x6 st6 => ?_
  have o1 : Sl TI (some ⟨b1, 0, none⟩) 1 1 [(s.size : Int)] (cA b1 [.int .i64 (s.size : Int)] 3) := Sl.one rfl
  refine append_sl ok_int st6 o1 ((rl.ext x14).ext x6) (by omega) fun tp tc h7 At ot st7 => ?_
  rw [show [(s.size : Int)] ++ l = (s.size : Int) :: l from rfl, hOd, show 1 + s.size = s.size + 1 by omega] at ot
  rw [show 1 + s.size = s.size + 1 by omega]
  have x7 := st7.ext
  refine (starts_ok (((rb.ext x3).ext x5).ext x7) (by omega) fun i hi => ?_).mono fun v h8 ⟨hv, x8⟩ => ⟨_, hv, by rw [List.length_map, firsts_len], ?_⟩
  · rcases bwt_byte hO (i := i) (by omega) with ⟨_, h⟩ | ⟨_, h, h'⟩
    · rw [h]; omega
    · omega
  rw [box_cells (by rw [List.length_map, firsts_len])]
  refine (St.start h8).new fun xb h9 x9 st9 => ?_
  refine ⟨xb, O, pl, tp, tc, tb, H, rfl, ⟨st9.blk, ((ot.rd st7).ext x8).ext x9, ot.cap, hO, hp, ((t.ext x7).ext x8).ext x9, by omega⟩, ?_⟩
  exact ((((x1.trans x14).trans x7).trans x8).trans x9)
end Go.Proofs.Ytipmcfpjdebpdaa

/- Backward search in plain lists. -/
namespace Go.Sx
/-- Rows of a set that is closed downwards are the first ones. -/
theorem take_countP {α : Type} {R : α → α → Prop} {D : α → Bool} (hd : ∀ a b, R a b → D b = true → D a = true) : ∀ {O : List α}, O.Pairwise R → O.take (O.countP D) = O.filter D
  | [], _ => rfl
  | a :: t, h => by
    rw [List.pairwise_cons] at h
    have ih := take_countP hd h.2
    rw [List.countP_cons, List.filter_cons]
    by_cases ha : D a = true
    · rw [if_pos ha, if_pos ha, List.take_succ_cons, ih]
    · rw [if_neg ha, if_neg ha, Nat.add_zero]
      have h0 : ∀ b ∈ t, ¬ D b = true := fun b hb hD => ha (hd a b (h.1 b hb) hD)
      have hc : t.countP D = 0 := List.countP_eq_zero.2 h0
      rw [hc, List.take_zero, (List.filter_eq_nil_iff (p := D)).2 h0]
/-- The byte before a suffix. -/
def prevB (s : List Int) (i : Int) : Int := if i = 0 then -1 else s.getD (i - 1).toNat 0
theorem iota_shift (n : Nat) : iota (n + 1) = 0 :: (iota n).map (· + 1) := by
  unfold iota
  rw [List.range_succ_eq_map, List.map_cons, List.map_map, List.map_map]
  rfl
theorem suf_cons {s : List Int} {i : Int} (h0 : 0 ≤ i) (h1 : i < s.length) : suf s i = s.getD i.toNat 0 :: suf s (i + 1) := by
  unfold suf
  rw [List.drop_eq_getElem_cons (show i.toNat < s.length by omega), show (i + 1).toNat = i.toNat + 1 by omega]
  simp [List.getD, show i.toNat < s.length by omega]
/-- One step of the backward search. -/
theorem back_step {s O : List Int} (hs : ∀ x ∈ s, 0 ≤ x) (hp : O.Perm (iota (s.length + 1))) (hw : SufS s O) {c : Int} (hc : 0 ≤ c) {D D' : List Int → Bool}
    (hd : ∀ a b, ltL a b → D b = true → D a = true) (h0 : D' [] = true) (h1 : ∀ y t, D' (y :: t) = true ↔ y < c ∨ (y = c ∧ D t = true)) :
    O.countP (fun i => D' (suf s i)) = 1 + (O.map (prevB s)).countP (fun x => decide (0 ≤ x ∧ x < c)) + ((O.map (prevB s)).take (O.countP fun i => D (suf s i))).countP (fun x => decide (x = c)) := by
  have e1 : (O.take (O.countP fun i => D (suf s i))) = O.filter fun i => D (suf s i) := take_countP (R := fun a b => ltL (suf s a) (suf s b)) (fun a b h hb => hd _ _ h hb) hw
  rw [← List.map_take, e1, List.countP_map, List.countP_map, List.countP_filter, hp.countP_eq, hp.countP_eq, hp.countP_eq]
  have e2 : (iota (s.length + 1)).countP (fun i => D' (suf s i)) = (iota s.length).countP (fun i => D' (suf s i)) + 1 := by
    have : iota (s.length + 1) = iota s.length ++ [(s.length : Int)] := by
      unfold iota; rw [List.range_succ, List.map_append]; rfl
    rw [this, List.countP_append]
    have e : suf s (s.length : Int) = [] := by unfold suf; rw [Int.toNat_natCast, List.drop_length]
    simp [e, h0]
  have p0 : prevB s 0 = -1 := by unfold prevB; rw [if_pos rfl]
  have pj : ∀ i : Int, 0 ≤ i → prevB s (i + 1) = s.getD i.toNat 0 := fun i hi => by
    unfold prevB
    rw [if_neg (by omega), show i + 1 - 1 = i by omega]
  rw [e2, iota_shift, List.countP_cons, List.countP_cons, List.countP_map, List.countP_map]
  have n1 : ¬ ((fun x => decide (0 ≤ x ∧ x < c)) ∘ prevB s) 0 = true := by simp [p0]
  have n2 : ¬ (((fun x => decide (x = c)) ∘ prevB s) 0 && D (suf s 0)) = true := by
    simp only [Function.comp, p0, Bool.and_eq_true, decide_eq_true_eq]
    omega
  rw [if_neg n1, if_neg n2, Nat.add_zero, Nat.add_zero]
  have key : ∀ l : List Int, (∀ i ∈ l, 0 ≤ i ∧ i < s.length) → l.countP (fun i => D' (suf s i)) = l.countP (((fun x => decide (0 ≤ x ∧ x < c)) ∘ prevB s) ∘ fun x => x + 1) + l.countP ((fun a => ((fun x => decide (x = c)) ∘ prevB s) a && D (suf s a)) ∘ fun x => x + 1) := by
    intro l
    induction l with
    | nil => intro _; rfl
    | cons i l ih =>
      intro hl
      have hi := hl i List.mem_cons_self
      have ih := ih fun j hj => hl j (List.mem_cons_of_mem _ hj)
      rw [List.countP_cons, List.countP_cons, List.countP_cons, ih]
      have hsi : 0 ≤ s.getD i.toNat 0 := by
        have : s.getD i.toNat 0 = s[i.toNat] := by simp [List.getD, show i.toNat < s.length by omega]
        rw [this]; exact hs _ (List.getElem_mem _)
      have q1 : D' (suf s i) = true ↔ s.getD i.toNat 0 < c ∨ (s.getD i.toNat 0 = c ∧ D (suf s (i + 1)) = true) := by
        rw [suf_cons hi.1 hi.2]; exact h1 _ _
      have q2 : (((fun x => decide (0 ≤ x ∧ x < c)) ∘ prevB s) ∘ fun x => x + 1) i = true ↔ s.getD i.toNat 0 < c := by
        simp only [Function.comp, pj i hi.1, decide_eq_true_eq]; omega
      have q3 : ((fun a => ((fun x => decide (x = c)) ∘ prevB s) a && D (suf s a)) ∘ fun x => x + 1) i = true ↔ (s.getD i.toNat 0 = c ∧ D (suf s (i + 1)) = true) := by
        simp only [Function.comp, pj i hi.1, Bool.and_eq_true, decide_eq_true_eq]
      by_cases a1 : s.getD i.toNat 0 < c
      · rw [if_pos (q1.2 (.inl a1)), if_pos (q2.2 a1), if_neg (fun h => by have := (q3.1 h).1; omega)]; omega
      · by_cases a2 : s.getD i.toNat 0 = c ∧ D (suf s (i + 1)) = true
        · rw [if_pos (q1.2 (.inr a2)), if_neg (fun h => a1 (q2.1 h)), if_pos (q3.2 a2)]; omega
        · rw [if_neg (fun h => (q1.1 h).elim a1 a2), if_neg (fun h => a1 (q2.1 h)), if_neg (fun h => a2 (q3.1 h))]; omega
  rw [key _ fun i hi => mem_iota.1 hi]
  omega
end Go.Sx

/- Backward search in plain lists: from where to where a pattern's rows reach. -/
namespace Go.Sx
theorem ltL_cons (a b : Int) (r t : List Int) : ltL (a :: r) (b :: t) ↔ a < b ∨ (a = b ∧ ltL r t) := by simp only [ltL]
def loC (s O X : List Int) : Nat := O.countP fun i => decide (ltL (suf s i) X)
def hiC (s O X : List Int) : Nat := O.countP fun i => decide (¬ ltL X ((suf s i).take X.length))
theorem take_mono {a b : List Int} (m : Nat) (h : ltL a b) : ¬ ltL (b.take m) (a.take m) := fun hc => ltL_asymm h (ltL_of_take hc)
theorem lo_down {X a b : List Int} (h : ltL a b) (hb : decide (ltL b X) = true) : decide (ltL a X) = true := by
  rw [decide_eq_true_eq] at *
  exact ltL_trans h hb
theorem hi_down {X a b : List Int} (h : ltL a b) (hb : decide (¬ ltL X (b.take X.length)) = true) : decide (¬ ltL X (a.take X.length)) = true := by
  rw [decide_eq_true_eq] at *
  intro hc
  have h1 := take_mono X.length h
  rcases ltL_tri (a.take X.length) (b.take X.length) with h2 | h2 | h2
  · exact hb (ltL_trans hc h2)
  · rw [h2] at hc; exact hb hc
  · exact h1 h2
section
variable {s O : List Int} (hs : ∀ x ∈ s, 0 ≤ x) (hp : O.Perm (iota (s.length + 1))) (hw : SufS s O)
include hs hp hw
theorem lo_step {c : Int} (hc : 0 ≤ c) (X : List Int) : loC s O (c :: X) = 1 + (O.map (prevB s)).countP (fun x => decide (0 ≤ x ∧ x < c)) + ((O.map (prevB s)).take (loC s O X)).countP (fun x => decide (x = c)) :=
  back_step hs hp hw hc (D := fun a => decide (ltL a X)) (D' := fun a => decide (ltL a (c :: X))) (fun _ _ => lo_down) (by rw [decide_eq_true_eq]; exact trivial) fun y t => by
    rw [decide_eq_true_eq, decide_eq_true_eq, ltL_cons]
theorem hi_step {c : Int} (hc : 0 ≤ c) (X : List Int) : hiC s O (c :: X) = 1 + (O.map (prevB s)).countP (fun x => decide (0 ≤ x ∧ x < c)) + ((O.map (prevB s)).take (hiC s O X)).countP (fun x => decide (x = c)) :=
  back_step hs hp hw hc (D := fun a => decide (¬ ltL X (a.take X.length))) (D' := fun a => decide (¬ ltL (c :: X) (a.take (c :: X).length))) (fun _ _ => hi_down) (by rw [decide_eq_true_eq, List.take_nil]; exact ltL_nil' _) fun y t => by
    rw [decide_eq_true_eq, decide_eq_true_eq, List.length_cons, List.take_succ_cons, ltL_cons]
    constructor
    · intro h
      rcases Int.lt_trichotomy y c with h1 | h1 | h1
      · exact .inl h1
      · exact .inr ⟨h1, fun h2 => h (.inr ⟨h1.symm, h2⟩)⟩
      · exact absurd (.inl h1) h
    · rintro (h | ⟨rfl, h⟩) (h' | ⟨_, h'⟩)
      · omega
      · omega
      · omega
      · exact h h'
end
theorem lo_nil (s O : List Int) : loC s O [] = 0 := by
  unfold loC
  rw [List.countP_eq_zero]
  intro i _
  rw [decide_eq_true_eq]
  exact ltL_nil' _
theorem hi_nil (s O : List Int) : hiC s O [] = O.length := by
  unfold hiC
  rw [List.countP_eq_length]
  intro i _
  rw [decide_eq_true_eq]
  simp [ltL]
theorem pre_iff {a X : List Int} : (¬ ltL X (a.take X.length) ∧ ¬ ltL a X) ↔ a.take X.length = X := by
  constructor
  · rintro ⟨h1, h2⟩
    rcases ltL_tri (a.take X.length) X with h | h | h
    · refine absurd (ltL_of_take (m := X.length) ?_) h2
      rwa [List.take_length]
    · exact h
    · exact absurd h h1
  · intro h
    refine ⟨by rw [h]; exact ltL_irr _, fun hc => ?_⟩
    have h3 := ltL_take X.length a.length a X
    rw [List.take_of_length_le (l := a) (by omega), List.take_of_length_le (l := X) (by omega), List.take_length, h, List.drop_length, List.take_nil] at h3
    rcases h3.1 hc with h4 | ⟨_, h4⟩
    · exact ltL_irr _ h4
    · exact ltL_nil' _ h4
theorem not_lt_take : ∀ (a : List Int) (m : Nat), ¬ ltL a (a.take m)
  | a, 0 => by rw [List.take_zero]; exact ltL_nil' _
  | [], m + 1 => by rw [List.take_nil]; exact ltL_nil' _
  | x :: r, m + 1 => by
    rw [List.take_succ_cons, ltL_cons]
    rintro (h | ⟨_, h⟩)
    · omega
    · exact not_lt_take r m h
theorem lo_le (s O X : List Int) : loC s O X ≤ hiC s O X := by
  unfold loC hiC
  refine List.countP_mono_left fun i _ h => ?_
  rw [decide_eq_true_eq] at *
  exact fun hc => not_lt_take _ _ (ltL_trans h hc)
theorem hi_le (s O X : List Int) : hiC s O X ≤ O.length := List.countP_le_length
/-- The rows between are those with the pattern. -/
theorem rows_mem {s O : List Int} (hp : O.Perm (iota (s.length + 1))) (hw : SufS s O) (X : List Int) (x : Int) : x ∈ rng O (loC s O X) (hiC s O X) ↔ x ∈ O ∧ (suf s x).take X.length = X := by
  have e1 : O.take (loC s O X) = O.filter fun i => decide (ltL (suf s i) X) := take_countP (R := fun a b => ltL (suf s a) (suf s b)) (fun a b h hb => lo_down h hb) hw
  have e2 : O.take (hiC s O X) = O.filter fun i => decide (¬ ltL X ((suf s i).take X.length)) := take_countP (R := fun a b => ltL (suf s a) (suf s b)) (fun a b h hb => hi_down h hb) hw
  have e3 := rng_take O (lo_le s O X)
  have hnd : (O.take (hiC s O X)).Nodup := (hp.nodup_iff.2 (iota_nodup _)).sublist (List.take_sublist _ _)
  rw [e3] at hnd
  have h1 : x ∈ O.take (loC s O X) ↔ x ∈ O ∧ ltL (suf s x) X := by rw [e1, List.mem_filter, decide_eq_true_eq]
  have h2 : x ∈ O.take (hiC s O X) ↔ x ∈ O ∧ ¬ ltL X ((suf s x).take X.length) := by rw [e2, List.mem_filter, decide_eq_true_eq]
  rw [e3, List.mem_append] at h2
  rw [← pre_iff]
  constructor
  · intro h
    have h3 := h2.1 (.inr h)
    exact ⟨h3.1, h3.2, fun hc => (List.nodup_append.1 hnd).2.2 x (h1.2 ⟨h3.1, hc⟩) x h rfl⟩
  · rintro ⟨ho, h3, h4⟩
    rcases h2.2 ⟨ho, h3⟩ with h | h
    · exact absurd (h1.1 h).2 h4
    · exact h
end Go.Sx

/- The index: rank, rows. -/
set_option maxRecDepth 100000
namespace Go.Proofs.Ytipmcfpjdebpdaa
open Go Go.Sx
theorem blkA {h : Hp} {b : Nat} {cs : List Value} {e : TypeId} (cb : Blk h b cs e) (o : Nat) : cell h ((⟨b, 0, none⟩ : Addr).add o) = cs[o]? := by
  rw [add_mk, Nat.zero_add]; exact cb.cell o
theorem eqN_countP (l : List Int) (c : Int) : eqN l c = l.countP fun x => decide (x = c) := by unfold eqN; rw [List.countP_eq_length_filter]
theorem ltN_countP (l : List Int) (c : Int) : ltN l c = l.countP fun x => decide (0 ≤ x ∧ x < c) := by unfold ltN; rw [List.countP_eq_length_filter]
theorem cntU_eqN (l : List Int) (c : Int) (i : Nat) : cntU l 0 c i = eqN (l.take i) c := by
  unfold cntU eqN
  simp only [up_zero]
theorem eqN_app (l t : List Int) (c : Int) : eqN (l ++ t) c = eqN l c + eqN t c := by unfold eqN; rw [List.filter_append, List.length_append]
theorem del_eqN {L : List Int} {p i : Nat} {c : Int} (hp : p < L.length) (hv : L.getD p 0 = -1) (hc : 0 ≤ c) (hi : i ≤ L.length) : eqN ((delL L p).take (if p < i then i - 1 else i)) c = eqN (L.take i) c := by
  unfold delL
  by_cases h : p < i
  · rw [if_pos h, List.take_append, List.take_of_length_le (by rw [List.length_take]; omega), List.length_take]
    have e : L.take i = L.take p ++ (L.getD p 0 :: (L.drop (p + 1)).take (i - 1 - p)) := by
      conv => lhs; rw [show i = p + (i - p) by omega, List.take_add]
      congr 1
      rw [List.drop_eq_getElem_cons hp, show i - p = (i - 1 - p) + 1 by omega, List.take_succ_cons]
      simp [List.getD, hp]
    rw [e, eqN_app, eqN_app, show min p L.length = p by omega]
    congr 1
    rw [hv, show (-1 : Int) :: (L.drop (p + 1)).take (i - 1 - p) = [-1] ++ (L.drop (p + 1)).take (i - 1 - p) from rfl, eqN_app]
    have : eqN [-1] c = 0 := by
      unfold eqN
      rw [List.filter_cons, if_neg (by rw [decide_eq_true_eq]; omega)]; rfl
    omega
  · rw [if_neg h, List.take_append_of_le_length (by rw [List.length_take]; omega), List.take_take, show min i p = i by omega]
section
variable {h : Hp} {xb : Nat} {s : ByteArray} {O : List Int} {pl : Nat} {op : Option Addr} {oc tb H : Nat}
theorem IX.c0 (x : IX h xb s O pl op oc tb H) : cell h ⟨xb, 0, none⟩ = some (.string s) := x.blk.cell 0
theorem IX.c1 (x : IX h xb s O pl op oc tb H) : cell h ((⟨xb, 0, none⟩ : Addr).add 1) = some (.slice op (s.size + 1) oc) := blkA x.blk 1
theorem IX.c2 (x : IX h xb s O pl op oc tb H) : cell h ((⟨xb, 0, none⟩ : Addr).add 2) = some (.int .i64 (pl : Int)) := blkA x.blk 2
theorem IX.c260 (x : IX h xb s O pl op oc tb H) : cell h ((⟨xb, 0, none⟩ : Addr).add 260) = some (ptr tb) := by
  have := blkA x.blk 260
  rw [this, List.getElem?_append_right (by rw [List.length_append, List.length_map, firsts_len]; exact Nat.le_refl _), List.length_append, List.length_map, firsts_len]
  rfl
theorem IX.cf (x : IX h xb s O pl op oc tb H) {c : Nat} (hc : c < 257) : cell h (((⟨xb, 0, none⟩ : Addr).add 3).add (c * 1)) = some (.int .i64 ((1 + ltN (bwtL (bs s) O) c : Nat) : Int)) := by
  have := blkA x.blk (3 + c)
  rw [add_add, Nat.mul_one, this, List.getElem?_append_left (by rw [List.length_append, List.length_map, firsts_len]; show 3 + c < 3 + 257; omega), List.getElem?_append_right (by show 3 ≤ 3 + c; omega)]
  show ((firsts (bwtL (bs s) O)).map (Value.int .i64))[3 + c - 3]? = _
  rw [Nat.add_sub_cancel_left, List.getElem?_map]
  have h1 := firsts_get (l := bwtL (bs s) O) hc
  have h2 : c < (firsts (bwtL (bs s) O)).length := by rw [firsts_len]; exact hc
  rw [List.getElem?_eq_getElem h2]
  rw [List.getD_eq_getElem?_getD, List.getElem?_eq_getElem h2] at h1
  show some (Value.int .i64 _) = _
  rw [← h1]; rfl
theorem rank_x (x : IX h xb s O pl op oc tb H) {c i : Nat} (hc : c < 256) (hi : i ≤ s.size + 1) :
    HCalls Try.prog 58 #[ptr xb, .int .u8 (c : Int), .int .i64 (i : Int)] h (fun v h' => v = .int .i64 (eqN ((bwtL (bs s) O).take i) c : Nat) ∧ Ext h h') := by
  obtain ⟨hol, _⟩ := SA0_range x.sa
  rw [bs_len] at hol
  have hbw := bwtL_len (bs s) O
  have hpl := x.at_.1
  have hlen := x.len
  have hdl := delL_len (L := bwtL (bs s) O) (p := pl) (by omega)
  have hv : (bwtL (bs s) O).getD pl 0 = -1 := by rw [bwtL_get hpl, if_pos x.at_.2]
  have key := del_eqN (c := (c : Int)) (i := i) (show pl < (bwtL (bs s) O).length by omega) hv (by omega) (by omega)
  refine suffixindex_Index_rank_call ?_
  rw [suffixindex_Index_rank_b0_eq]
  have go : ∀ i' : Nat, i' ≤ s.size → eqN ((delL (bwtL (bs s) O) pl).take i') c = eqN ((bwtL (bs s) O).take i) c → suffixindex_Index_rank_b1 (some ⟨xb, 0, none⟩) c i' h (fun v h' => v = .int .i64 (eqN ((bwtL (bs s) O).take i) c : Nat) ∧ Ext h h') := fun i' hi' e => by
    rw [suffixindex_Index_rank_b1_eq]
    refine ⟨_, x.c260, ⟨by omega, by omega⟩, (Rank_w x.wt c i').mono fun v h1 ⟨hv, x1⟩ => ?_⟩
    rw [if_pos ⟨by omega, by omega, by omega, by omega⟩, Int.toNat_natCast, cntU_eqN, e] at hv
    exact ⟨_, _, hv, rfl, x1⟩
  refine ⟨_, x.c2, condP (fun h1 => ⟨⟨by omega, by omega⟩, ?_⟩) (fun h1 => ?_)⟩
  · rw [if_pos (by omega)] at key
    rw [show (i : Int) - 1 = ((i - 1 : Nat) : Int) by omega]
    exact go _ (by omega) key
  · rw [if_neg (by omega)] at key
    exact go _ (by omega) key
theorem rows_x (x : IX h xb s O pl op oc tb H) (p : ByteArray) (hp : p.size ≤ 4096) :
    HCalls Try.prog 43 #[ptr xb, .string p] h (fun v h' => ∃ f t : Nat, v = .tuple #[.int .i64 (f : Int), .int .i64 (t : Int)] ∧ t ≤ s.size + 1 ∧ Ext h h' ∧ ((f = loC (bs s) O (bs p) ∧ t = hiC (bs s) O (bs p)) ∨ (t ≤ f ∧ ∀ z ∈ O, (suf (bs s) z).take (bs p).length ≠ bs p))) := by
  obtain ⟨hol, _⟩ := SA0_range x.sa
  have hbl := bs_len s
  have hpl := bs_len p
  rw [hbl] at hol
  have hlen := x.len
  have hs0 : ∀ y ∈ bs s, 0 ≤ y := fun y hy => (bs_range hy).1
  refine suffixindex_Index_rows_call ?_
  rw [suffixindex_Index_rows_b0_eq]
  refine ⟨_, _, _, x.c1, ⟨by omega, by omega⟩, ?_⟩
  refine ⟨fun q h' => ∃ j : Nat, j ≤ p.size ∧ q.2.2.1 = (j : Int) - 1 ∧ q.1 = (loC (bs s) O ((bs p).drop j) : Nat) ∧ q.2.1 = (hiC (bs s) O ((bs p).drop j) : Nat) ∧ Ext h h', fun q _ => (q.2.2.1 + 1).toNat, ⟨p.size, Nat.le_refl _, rfl, ?_, ?_, .refl _⟩, ?_⟩
  · rw [List.drop_eq_nil_of_le (by omega), lo_nil]; rfl
  · rw [List.drop_eq_nil_of_le (by omega), hi_nil, hol]
  rintro ⟨_, _, _, _⟩ h1 ⟨j, hj, rfl, rfl, rfl, x1⟩
  dsimp only
  have hhi := hi_le (bs s) O ((bs p).drop j)
  have hlo := lo_le (bs s) O ((bs p).drop j)
  rw [suffixindex_Index_rows_b1_eq]
  refine condP (fun h0 => condP (fun hlt => ?_) (fun hge => ?_)) (fun h0 => ?_)
  · obtain ⟨k, rfl⟩ : ∃ k, j = k + 1 := ⟨j - 1, by omega⟩
    rw [suffixindex_Index_rows_b2_eq]
    rw [show ((k + 1 : Nat) : Int) - 1 = (k : Int) by omega]
    have hb := bs_byte (s := p) k
    have eb : ((p.data.toList.getD (Int.toNat (k : Int)) 0).toNat : Int) = (bs p).getD k 0 := by rw [Int.toNat_natCast]; exact bs_get (by omega)
    simp only [eb]
    obtain ⟨c, hc⟩ := Int.eq_ofNat_of_zero_le hb.1
    have hdk : (bs p).drop k = (c : Int) :: (bs p).drop (k + 1) := by
      rw [List.drop_eq_getElem_cons (by omega)]
      congr 1
      rw [← hc]
      simp [List.getD, show k < (bs p).length by omega]
    rw [hc] at hb ⊢
    have x0 := x.ext x1
    have l1 := lo_step hs0 x.sa.1 x.sa.2 (c := (c : Int)) (by omega) ((bs p).drop (k + 1))
    have l2 := hi_step hs0 x.sa.1 x.sa.2 (c := (c : Int)) (by omega) ((bs p).drop (k + 1))
    rw [← hdk] at l1 l2
    have eL : O.map (prevB (bs s)) = bwtL (bs s) O := rfl
    rw [eL, ← ltN_countP, ← eqN_countP] at l1 l2
    have n1 := ltN_le (bwtL (bs s) O) c
    have n2 := eqN_le ((bwtL (bs s) O).take (loC (bs s) O ((bs p).drop (k + 1)))) c
    have n3 := eqN_le ((bwtL (bs s) O).take (hiC (bs s) O ((bs p).drop (k + 1)))) c
    rw [List.length_take] at n2 n3
    have hbw := bwtL_len (bs s) O
    have cf := x0.cf (c := c) (by omega)
    refine ⟨⟨by omega, by omega⟩, ⟨by omega, by omega⟩, _, cf, ⟨by omega, by omega⟩, ⟨by omega, by omega⟩, ?_⟩
    refine (rank_x x0 (c := c) (i := loC (bs s) O ((bs p).drop (k + 1))) (by omega) (by omega)).mono fun v h2 ⟨hv, x2⟩ => ⟨_, hv, ⟨⟨by omega, by omega⟩, trivial⟩, ⟨by omega, by omega⟩, ?_⟩
    refine (rank_x (x0.ext x2) (c := c) (i := hiC (bs s) O ((bs p).drop (k + 1))) (by omega) (by omega)).mono fun v h3 ⟨hv, x3⟩ => ⟨_, hv, ⟨by omega, by omega⟩, ?_⟩
    rw [suffixindex_Index_rows_b4_eq]
    refine ⟨⟨by omega, by omega⟩, ⟨k, by omega, rfl, ?_, ?_, (x1.trans x2).trans x3⟩, by dsimp only; omega⟩
    · rw [l1]; push_cast; rfl
    · rw [l2]; push_cast; rfl
  · rw [suffixindex_Index_rows_b3_eq]
    refine ⟨_, _, rfl, by omega, x1, .inr ⟨by omega, fun z hz hc => ?_⟩⟩
    have hzr := mem_iota.1 (x.sa.1.mem_iff.1 hz)
    have hlz : p.size ≤ (suf (bs s) z).length := by
      have := congrArg List.length hc
      rw [List.length_take] at this
      omega
    have hsl := suf_len (bs s) (n := z) (by omega) (by omega)
    have hm : z + j ∈ O := x.sa.1.mem_iff.2 (mem_iota.2 (by omega))
    have e : (suf (bs s) (z + j)).take ((bs p).drop j).length = (bs p).drop j := by
      have e1 : suf (bs s) (z + j) = (suf (bs s) z).drop j := by
        unfold suf
        rw [List.drop_drop, show (z + j).toNat = z.toNat + j by omega]
      rw [e1, List.length_drop, ← List.drop_take, hc]
    have := (rows_mem x.sa.1 x.sa.2 ((bs p).drop j) (z + j)).2 ⟨hm, e⟩
    rw [show hiC (bs s) O ((bs p).drop j) = loC (bs s) O ((bs p).drop j) by omega] at this
    unfold rng at this
    rw [List.drop_eq_nil_of_le (by rw [List.length_take]; omega)] at this
    cases this
  · obtain rfl : j = 0 := by omega
    rw [suffixindex_Index_rows_b3_eq]
    exact ⟨_, _, rfl, by omega, x1, .inl ⟨rfl, rfl⟩⟩
end
end Go.Proofs.Ytipmcfpjdebpdaa

/- The index: Locate, Count, Extract, Len, Space; the reference's Locate. -/
set_option maxRecDepth 100000
namespace Go.Proofs.Ytipmcfpjdebpdaa
open Go Go.Sx
/-- Where a pattern occurs. -/
def LocIs (s P l : List Int) : Prop := l.Pairwise (· < ·) ∧ ∀ x, x ∈ l ↔ (0 ≤ x ∧ x ≤ s.length) ∧ (suf s x).take P.length = P
theorem locIs_uniq {s P l l' : List Int} (h : LocIs s P l) (h' : LocIs s P l') : l = l' :=
  strictExt (fun a b h1 h2 => by omega) h.1 h'.1 fun x => by rw [h.2, h'.2]
section
variable {h : Hp} {xb : Nat} {s : ByteArray} {O : List Int} {pl : Nat} {op : Option Addr} {oc tb H : Nat}
theorem Locate_x (x : IX h xb s O pl op oc tb H) (p : ByteArray) :
    HCalls Try.prog 21 #[ptr xb, .string p] h (fun v h' => if 4096 < p.size then v = .tuple #[.slice none 0 0, .int .i64 4] ∧ h' = h else ∃ q n d A l, v = .tuple #[.slice q n d, .int .i64 0] ∧ Sl TI q n d l A ∧ St h h' A ∧ LocIs (bs s) (bs p) l) := by
  obtain ⟨hol, _⟩ := SA0_range x.sa
  have hbl := bs_len s
  rw [hbl] at hol
  have hlen := x.len
  refine suffixindex_Index_Locate_call ?_
  rw [suffixindex_Index_Locate_b0_eq]
  refine condNo rfl (suffixindex_long_call ?_)
  rw [suffixindex_long_b0_eq]
  refine ⟨_, rfl, condP (fun h1 => ?_) (fun h1 => ?_)⟩
  · rw [if_pos (by omega)]; exact ⟨rfl, rfl⟩
  simp only [if_neg (show ¬ 4096 < p.size by omega)]
  rw [suffixindex_Index_Locate_b1_eq]
  refine (rows_x x p (by omega)).mono fun v h2 ⟨f, t, hv, ht, x2, hft⟩ => ⟨_, _, hv, ?_⟩
  have hmem : ∀ z, z ∈ O ↔ 0 ≤ z ∧ z ≤ s.size := fun z => by
    rw [x.sa.1.mem_iff, mem_iota, hbl]; omega
  refine condP (fun hle => ?_) (fun hlt => ?_)
  · refine ⟨none, 0, 0, 0, [], rfl, Sl.nil, (St.start h).grow x2, List.Pairwise.nil, fun z => ⟨fun hz => (by cases hz), fun ⟨hz, hpz⟩ => ?_⟩⟩
    rw [hbl, ← hmem] at hz
    rcases hft with ⟨rfl, rfl⟩ | ⟨_, hno⟩
    · have := (rows_mem x.sa.1 x.sa.2 (bs p) z).2 ⟨hz, hpz⟩
      unfold rng at this
      rw [List.drop_eq_nil_of_le (by rw [List.length_take]; omega)] at this
      cases this
    · exact absurd hpz (hno z hz)
  · obtain ⟨rfl, rfl⟩ : f = loC (bs s) O (bs p) ∧ t = hiC (bs s) O (bs p) := by
      rcases hft with h | ⟨h, _⟩
      · exact h
      · omega
    generalize hf : loC (bs s) O (bs p) = f at *
    generalize htt : hiC (bs s) O (bs p) = t at *
    have hoc := x.oc
    have x0 := x.ext x2
    refine ⟨_, _, _, x0.c1, ⟨by omega, by omega, by omega⟩, ?_⟩
    simp only [Int.toNat_natCast]
    have rr : RdT TI h2 (subAddr op oc f 1) (t - f) (rng O f t) := by
      have r2 := (x0.rd.sub (c := oc) (i := f) (m := s.size + 1 - f) (by omega) x.oc rfl).take (i := t - f) (by omega)
      rw [show (O.drop f).take (t - f) = rng O f t by unfold rng; rw [List.drop_take]] at r2
      exact r2
    refine (cloneI_w rr (by omega)).mono fun v h3 ⟨q, d, A, hv, o, st⟩ => ⟨_, _, _, hv, ?_⟩
    refine (sortOI (P := fun _ => True) (st.to (B := A + 0)) o (fun _ _ => trivial) (by omega)).mono fun v h4 ⟨hv, ys, A', o', st', hp, hw⟩ => ⟨hv, ?_⟩
    have hnd : (rng O f t).Nodup := (x.sa.1.nodup_iff.2 (iota_nodup _)).sublist ((List.drop_sublist _ _).trans (List.take_sublist _ _))
    have hnd2 := hp.nodup_iff.2 hnd
    rw [List.nodup_iff_pairwise_ne] at hnd2
    refine ⟨q, t - f, d, A', ys, rfl, o', (st'.base x2).left, (hw.and hnd2).imp fun ⟨h1, h2⟩ => by omega, fun z => ?_⟩
    rw [hp.mem_iff, ← hf, ← htt, rows_mem x.sa.1 x.sa.2, hmem, hbl]
end
end Go.Proofs.Ytipmcfpjdebpdaa

/- Common prefixes along a sorted order. -/
namespace Go.Sx
theorem lcp_ge : ∀ (a b : List Int) (m : Nat), m ≤ lcp a b ↔ (a.take m = b.take m ∧ m ≤ a.length ∧ m ≤ b.length)
  | [], b, m => by
    have : lcp [] b = 0 := by cases b <;> rfl
    rw [this]
    constructor
    · intro h; rw [show m = 0 by omega]; simp
    · intro h; simpa using h.2.1
  | x :: r, [], m => by
    have : lcp (x :: r) [] = 0 := rfl
    rw [this]
    constructor
    · intro h; rw [show m = 0 by omega]; simp
    · intro h; simpa using h.2.2
  | x :: r, y :: t, 0 => by simp
  | x :: r, y :: t, m + 1 => by
    rw [List.take_succ_cons, List.take_succ_cons, List.cons.injEq, List.length_cons, List.length_cons]
    have ih := lcp_ge r t m
    unfold lcp
    by_cases h : x = y
    · rw [if_pos h]
      constructor
      · intro h1
        obtain ⟨a, b, c⟩ := ih.1 (by omega)
        exact ⟨⟨h, a⟩, by omega, by omega⟩
      · rintro ⟨⟨_, a⟩, b, c⟩
        have := ih.2 ⟨a, by omega, by omega⟩
        omega
    · rw [if_neg h]
      constructor
      · intro h1; omega
      · rintro ⟨⟨a, _⟩, _⟩; exact absurd a h
/-- What lies between two lists with the same prefix has it. -/
theorem squeeze {a b c : List Int} {m : Nat} (h1 : ltL a b ∨ a = b) (h2 : ltL b c ∨ b = c) (h : a.take m = c.take m) : b.take m = a.take m := by
  have k1 : ¬ ltL (b.take m) (a.take m) := by
    rcases h1 with h1 | rfl
    · exact take_mono m h1
    · exact ltL_irr _
  have k2 : ¬ ltL (c.take m) (b.take m) := by
    rcases h2 with h2 | rfl
    · exact take_mono m h2
    · exact ltL_irr _
  rw [← h] at k2
  rcases ltL_tri (b.take m) (a.take m) with h3 | h3 | h3
  · exact absurd h3 k1
  · exact h3
  · exact absurd h3 k2
section
variable {s l : List Int} (hw : SufS s l)
include hw
theorem suf_le {i j : Nat} (hij : i ≤ j) (hj : j < l.length) : ltL (suf s (l.getD i 0)) (suf s (l.getD j 0)) ∨ suf s (l.getD i 0) = suf s (l.getD j 0) := by
  rcases Nat.lt_or_ge i j with h | h
  · have ei : l.getD i 0 = l[i] := by simp [List.getD, show i < l.length by omega]
    have ej : l.getD j 0 = l[j] := by simp [List.getD, hj]
    rw [ei, ej]
    exact .inl (List.pairwise_iff_getElem.1 hw i j (by omega) hj h)
  · rw [show i = j by omega]; exact .inr rfl
/-- The rows that have the prefix of the first greatest common one. -/
theorem run_rows {at_ run k : Nat} (h0 : 0 < at_) (hr : at_ + run ≤ l.length) (hrun : 0 < run) (hk : 0 < k)
    (hC : ∀ i, at_ ≤ i → i < at_ + run → k ≤ lcp (suf s (l.getD (i - 1) 0)) (suf s (l.getD i 0)))
    (hpre : ∀ i, 0 < i → i < at_ → lcp (suf s (l.getD (i - 1) 0)) (suf s (l.getD i 0)) < k)
    (hpost : at_ + run < l.length → lcp (suf s (l.getD (at_ + run - 1) 0)) (suf s (l.getD (at_ + run) 0)) < k)
    {j : Nat} (hj : j < l.length) : ((suf s (l.getD j 0)).take k = (suf s (l.getD at_ 0)).take k) ↔ (at_ - 1 ≤ j ∧ j < at_ + run) := by
  have chain : ∀ i, at_ - 1 ≤ i → i < at_ + run → (suf s (l.getD i 0)).take k = (suf s (l.getD at_ 0)).take k ∧ k ≤ (suf s (l.getD i 0)).length := by
    have h1 := (lcp_ge _ _ _).1 (hC at_ (Nat.le_refl _) (by omega))
    intro i hi
    induction i with
    | zero =>
      intro _
      have : at_ = 1 := by omega
      subst this
      exact ⟨h1.1, h1.2.1⟩
    | succ i ih =>
      intro hlt
      rcases Nat.lt_or_ge i (at_ - 1) with h | h
      · have : i + 1 = at_ - 1 := by omega
        rw [this]
        exact ⟨h1.1, h1.2.1⟩
      · have ih := ih h (by omega)
        have h2 := (lcp_ge _ _ _).1 (hC (i + 1) (by omega) hlt)
        rw [Nat.add_sub_cancel] at h2
        exact ⟨h2.1.symm.trans ih.1, h2.2.2⟩
  have hlen := (chain at_ (by omega) (by omega)).2
  constructor
  · intro he
    have hjl : k ≤ (suf s (l.getD j 0)).length := by
      have := congrArg List.length he
      rw [List.length_take, List.length_take] at this
      omega
    refine ⟨Classical.byContradiction fun hn => ?_, Classical.byContradiction fun hn => ?_⟩
    · -- before the run
      have c1 := chain (at_ - 1) (Nat.le_refl _) (by omega)
      have e : (suf s (l.getD j 0)).take k = (suf s (l.getD (at_ - 1) 0)).take k := he.trans c1.1.symm
      have sq := squeeze (suf_le hw (show j ≤ at_ - 2 by omega) (by omega)) (suf_le hw (show at_ - 2 ≤ at_ - 1 by omega) (by omega)) e
      have hl2 : k ≤ (suf s (l.getD (at_ - 2) 0)).length := by
        have := congrArg List.length sq
        rw [List.length_take, List.length_take] at this
        omega
      have h3 := (lcp_ge (suf s (l.getD (at_ - 2) 0)) (suf s (l.getD (at_ - 1) 0)) k).2 ⟨sq.trans e, hl2, c1.2⟩
      have h4 := hpre (at_ - 1) (by omega) (by omega)
      rw [show at_ - 1 - 1 = at_ - 2 by omega] at h4
      omega
    · have c1 := chain (at_ + run - 1) (by omega) (by omega)
      have e : (suf s (l.getD (at_ + run - 1) 0)).take k = (suf s (l.getD j 0)).take k := c1.1.trans he.symm
      have sq := squeeze (suf_le hw (show at_ + run - 1 ≤ at_ + run by omega) (by omega)) (suf_le hw (show at_ + run ≤ j by omega) hj) e
      have hl2 : k ≤ (suf s (l.getD (at_ + run) 0)).length := by
        have := congrArg List.length sq
        rw [List.length_take, List.length_take] at this
        have := c1.2
        omega
      have h3 := (lcp_ge (suf s (l.getD (at_ + run - 1) 0)) (suf s (l.getD (at_ + run) 0)) k).2 ⟨sq.symm, c1.2, hl2⟩
      have h4 := hpost (by omega)
      omega
  · rintro ⟨h1, h2⟩
    exact (chain j h1 h2).1
end
end Go.Sx

/- Repeated. -/
set_option maxRecDepth 100000
namespace Go.Proofs.Ytipmcfpjdebpdaa
open Go Go.Sx
theorem Max_ok {h : Hp} {p : Option Addr} {n c : Nat} {l : List Int} (r : RdT TI h p n l) (h0 : 0 < n) (hn : n < 1000000) :
    HCalls Try.prog 37 #[.slice p n c] h (fun v h' => h' = h ∧ ∃ m : Int, v = .int .i64 m ∧ (∃ i, i < n ∧ l.getD i 0 = m) ∧ ∀ i, i < n → l.getD i 0 ≤ m) := by
  refine slices_Max_Sint_int_call ?_
  rw [slices_Max_Sint_int_b0_eq]
  refine condP (fun h1 => by omega) (fun _ => ?_)
  rw [slices_Max_Sint_int_b1_eq]
  refine ldI (i' := 0) r rfl h0 ?_
  refine ⟨fun q h' => h' = h ∧ ∃ i : Nat, q.2.1 = i ∧ 1 ≤ i ∧ i ≤ n ∧ (∃ j, j < n ∧ l.getD j 0 = q.1) ∧ ∀ j, j < i → l.getD j 0 ≤ q.1, fun q _ => (n - q.2.1).toNat, ⟨rfl, 1, rfl, Nat.le_refl _, h0, ⟨0, h0, rfl⟩, fun j hj => by rw [show j = 0 by omega]; exact Int.le_refl _⟩, ?_⟩
  rintro ⟨m, _, _⟩ h1 ⟨rfl, i, rfl, hi1, hi2, hex, hall⟩
  dsimp only at hex hall ⊢
  rw [slices_Max_Sint_int_b2_eq]
  refine condP (fun hlt => ?_) (fun hge => ?_)
  · refine ldI (i' := i) r rfl (by omega) ?_
    rw [slices_Max_Sint_int_b3_eq]
    refine ⟨⟨by omega, by omega⟩, ⟨rfl, i + 1, by push_cast; rfl, by omega, by omega, ?_, fun j hj => ?_⟩, by dsimp only; omega⟩
    · dsimp only; split
      · exact ⟨i, by omega, rfl⟩
      · exact hex
    · dsimp only
      rcases Nat.lt_or_ge j i with h | h
      · have := hall j h; split <;> omega
      · rw [show j = i by omega]; split <;> omega
  · rw [slices_Max_Sint_int_b4_eq]
    exact ⟨rfl, m, rfl, hex, fun j hj => hall j (by omega)⟩
theorem Index_ok {h : Hp} {p : Option Addr} {n c : Nat} {l : List Int} (r : RdT TI h p n l) (hn : n < 1000000) {v : Int} (hex : ∃ i, i < n ∧ l.getD i 0 = v) :
    HCalls Try.prog 38 #[.slice p n c, .int .i64 v] h (fun w h' => h' = h ∧ ∃ a : Nat, w = .int .i64 (a : Int) ∧ a < n ∧ l.getD a 0 = v ∧ ∀ j, j < a → l.getD j 0 ≠ v) := by
  refine slices_Index_Sint_int_call ?_
  rw [slices_Index_Sint_int_b0_eq]
  refine ⟨fun q h' => h' = h ∧ ∃ i : Nat, q.1 = i ∧ i ≤ n ∧ ∀ j, j < i → l.getD j 0 ≠ v, fun q _ => (n - q.1).toNat, ⟨rfl, 0, rfl, Nat.zero_le _, fun j hj => by omega⟩, ?_⟩
  rintro ⟨_, _⟩ h1 ⟨rfl, i, rfl, hi, hall⟩
  dsimp only
  rw [slices_Index_Sint_int_b1_eq]
  refine condP (fun hlt => ldI (i' := i) r rfl (by omega) (condP (fun he => ⟨rfl, i, rfl, by omega, he.symm, hall⟩) (fun he => ?_))) (fun hge => ?_)
  · rw [slices_Index_Sint_int_b2_eq]
    refine ⟨⟨by omega, by omega⟩, ⟨rfl, i + 1, by push_cast; rfl, by omega, fun j hj => ?_⟩, by dsimp only; omega⟩
    rcases Nat.lt_or_ge j i with h | h
    · exact hall j h
    · rw [show j = i by omega]; exact fun h => he h.symm
  · obtain ⟨j, hj, he⟩ := hex
    exact absurd he (hall j (by omega))
/-- What Repeated answers. -/
def RepIs (s : ByteArray) (r : Value) : Prop := ∃ l, SA (bs s) l ∧ ((r = .tuple #[.string (⟨#[]⟩ : ByteArray), .int .i64 0, .int .i64 12] ∧ ∀ i, i < l.length → (comL (bs s) l).getD i 0 = 0) ∨
  ∃ (a k : Nat) (P : List Int), a < l.length ∧ (comL (bs s) l).getD a 0 = (k : Int) ∧ 0 < k ∧ (∀ i, i < l.length → (comL (bs s) l).getD i 0 ≤ k) ∧ (∀ i, i < a → (comL (bs s) l).getD i 0 < k) ∧ LocIs (bs s) (bs (s.extract (l.getD a 0).toNat (l.getD a 0 + k).toNat)) P ∧ l.getD a 0 + k ≤ s.size ∧
    r = .tuple #[.string (s.extract (l.getD a 0).toNat (l.getD a 0 + k).toNat), .int .i64 (P.length : Int), .int .i64 0])
theorem repIs_uniq {s : ByteArray} {r r' : Value} (h : RepIs s r) (h' : RepIs s r') : r = r' := by
  obtain ⟨l, hsa, h⟩ := h
  obtain ⟨l', hsa', h'⟩ := h'
  obtain rfl := SA_uniq hsa hsa'
  rcases h with ⟨rfl, h⟩ | ⟨a, k, P, h1, h2, h3, h4, h5, h6, _, rfl⟩ <;> rcases h' with ⟨rfl, h'⟩ | ⟨a', k', P', h1', h2', h3', h4', h5', h6', _, rfl⟩
  · rfl
  · have := h a' h1'; omega
  · have := h' a h1; omega
  · have e1 := h4 a' h1'
    have e2 := h4' a h1
    obtain rfl : k = k' := by omega
    obtain rfl : a = a' := by
      rcases Nat.lt_trichotomy a a' with h | h | h
      · have := h5' a h; omega
      · exact h
      · have := h5 a' h; omega
    obtain rfl := locIs_uniq h6 h6'
    rfl
theorem locIs_ex (s P : List Int) : ∃ l, LocIs s P l := by
  refine ⟨(iota (s.length + 1)).filter fun x => decide ((suf s x).take P.length = P), ?_, fun x => ?_⟩
  · refine List.Pairwise.filter _ ?_
    unfold iota
    rw [List.pairwise_map]
    exact List.pairwise_lt_range.imp fun h => Int.ofNat_lt.2 h
  · rw [List.mem_filter, mem_iota, decide_eq_true_eq]
    constructor
    · rintro ⟨h1, h2⟩; exact ⟨by omega, h2⟩
    · rintro ⟨h1, h2⟩; exact ⟨by omega, h2⟩
theorem Repeated_ok {s : ByteArray} (h : Hp) :
    HCalls Try.prog 18 #[.string s] h (fun v h' => Ext h h' ∧ if 4096 < s.size then v = .tuple #[.string (⟨#[]⟩ : ByteArray), .int .i64 0, .int .i64 4] else RepIs s v) := by
  have hbl := bs_len s
  refine suffixindex_Repeated_call ?_
  rw [suffixindex_Repeated_b0_eq]
  refine suffixindex_long_call ?_
  rw [suffixindex_long_b0_eq]
  refine ⟨_, rfl, condP (fun h1 => ?_) (fun h1 => ?_)⟩
  · exact ⟨.refl _, by rw [if_pos (by omega)]⟩
  simp only [if_neg (show ¬ 4096 < s.size by omega)]
  refine (suffixes_ok h (by omega)).mono fun v h2 ⟨q, d, A, l, hv, o, st, hsa⟩ => ⟨_, _, _, hv, ?_⟩
  obtain ⟨hll, hrg⟩ := SA_range hsa
  rw [hbl] at hrg hll
  have st := st.to (B := A + 0)
  have rl := o.rd st
  refine (common_ok rl (by omega) (by omega) fun i hi => by have := hrg i hi; omega).mono fun v h3 ⟨b, A2, hv, o2, st2⟩ => ⟨_, _, _, hv, ?_⟩
  have rc := o2.rd (st2.to (B := A2 + 0))
  have rl := rl.ext st2.ext
  have x3 := st.ext.trans st2.ext
  have hC0 : ∀ i, i < s.size → 0 ≤ (comL (bs s) l).getD i 0 := fun i hi => by
    rw [comL_get (by omega)]; split <;> omega
  refine condP (fun hn => ⟨x3, l, hsa, .inl ⟨rfl, fun i hi => by omega⟩⟩) (fun hn => ?_)
  refine (Max_ok rc (by omega) (by omega)).mono fun v h4 ⟨hh, m, hv, hex, hall⟩ => ⟨_, hv, ?_⟩
  subst hh
  refine condP (fun hm => ⟨x3, l, hsa, .inl ⟨rfl, fun i hi => ?_⟩⟩) (fun hm => ?_)
  · have := hall i (by omega)
    have := hC0 i (by omega)
    omega
  rw [suffixindex_Repeated_b1_eq]
  refine (Max_ok rc (by omega) (by omega)).mono fun v h5 ⟨hh, m2, hv, hex2, hall2⟩ => ⟨_, hv, ?_⟩
  subst hh
  obtain rfl : m = m2 := by
    obtain ⟨i, hi, e⟩ := hex
    obtain ⟨j, hj, e2⟩ := hex2
    have := hall j hj
    have := hall2 i hi
    omega
  refine (Index_ok rc (by omega) hex).mono fun v h5 ⟨hh, a, hv, ha, hae, hab⟩ => ⟨_, hv, ?_⟩
  subst hh
  have hmp : 0 < m := by have := hC0 a ha; omega
  obtain ⟨k, rfl⟩ := Int.eq_ofNat_of_zero_le (show 0 ≤ m by omega)
  have ha0 : 0 < a := by
    rcases Nat.eq_zero_or_pos a with h | h
    · subst h
      rw [comL_get (by omega), if_pos rfl] at hae
      omega
    · exact h
  have hCg : ∀ i, 0 < i → i < s.size → (comL (bs s) l).getD i 0 = (lcp (suf (bs s) (l.getD (i - 1) 0)) (suf (bs s) (l.getD i 0)) : Int) := fun i h0 h1 => comL_one h0 (by omega)
  refine ⟨fun q h' => h' = h5 ∧ ∃ run : Nat, q.1 = (run : Int) + 1 ∧ q.2.1 = ((a + run : Nat) : Int) ∧ a + run ≤ s.size ∧ ∀ i, a ≤ i → i < a + run → (comL (bs s) l).getD i 0 = k, fun q _ => (s.size - q.2.1).toNat, ⟨rfl, 0, rfl, rfl, by omega, fun i h1 h2 => by omega⟩, ?_⟩
  rintro ⟨_, _, _⟩ h6 ⟨rfl, run, rfl, rfl, hru, hrun⟩
  dsimp only
  have fin : (a + run = s.size ∨ (a + run < s.size ∧ (comL (bs s) l).getD (a + run) 0 < k)) → suffixindex_Repeated_b4 s q s.size d k a ((run : Int) + 1) h6 (fun v h' => Ext h h' ∧ RepIs s v) := fun hend => by
    have hrpos : 0 < run := by
      rcases Nat.eq_zero_or_pos run with h | h
      · subst h
        rcases hend with h | ⟨_, h⟩
        · omega
        · rw [Nat.add_zero, hae] at h; omega
      · exact h
    have hla := hrg a ha
    have hlc : k ≤ lcp (suf (bs s) (l.getD (a - 1) 0)) (suf (bs s) (l.getD a 0)) := by
      have := hCg a ha0 ha
      omega
    have hkl := ((lcp_ge _ _ _).1 hlc).2.2
    have hsl := suf_len (bs s) (n := l.getD a 0) (by omega) (by omega)
    have hw : bs (s.extract (l.getD a 0).toNat (l.getD a 0 + k).toNat) = (suf (bs s) (l.getD a 0)).take k := by
      rw [bs_ext]
      unfold suf
      rw [List.drop_take]
      congr 1
      omega
    have hwl : (bs (s.extract (l.getD a 0).toNat (l.getD a 0 + k).toNat)).length = k := by
      rw [hw, List.length_take]; omega
    obtain ⟨P, hP⟩ := locIs_ex (bs s) (bs (s.extract (l.getD a 0).toNat (l.getD a 0 + k).toNat))
    have hrows : ∀ j, j < l.length → ((suf (bs s) (l.getD j 0)).take k = (suf (bs s) (l.getD a 0)).take k ↔ (a - 1 ≤ j ∧ j < a + run)) := fun j hj =>
      run_rows hsa.2 ha0 (by omega) hrpos (by omega) (fun i h1 h2 => by
        have e1 := hrun i h1 h2
        rw [hCg i (by omega) (by omega)] at e1
        omega) (fun i h1 h2 => by
        have e1 := hab i h2
        have e2 := hall i (by omega)
        rw [hCg i h1 (by omega)] at e1 e2
        omega) (fun h1 => by
        rcases hend with h | ⟨h, h'⟩
        · omega
        · rw [hCg (a + run) (by omega) h] at h'
          omega) hj
    have hlen : P.length = run + 1 := by
      have hPn : P.Nodup := by rw [List.nodup_iff_pairwise_ne]; exact hP.1.imp fun h => by omega
      have hln := hsa.1.nodup_iff.2 (iota_nodup _)
      have hRn : (rng l (a - 1) (a + run)).Nodup := hln.sublist ((List.drop_sublist _ _).trans (List.take_sublist _ _))
      have hperm : P.Perm (rng l (a - 1) (a + run)) := (List.perm_ext_iff_of_nodup hPn hRn).2 fun x => by
        rw [hP.2, hwl, hw]
        constructor
        · rintro ⟨hx, he⟩
          have hxn : x < s.size := by
            have h1 := congrArg List.length he
            rw [List.length_take, List.length_take] at h1
            have h2 := suf_len (bs s) (n := x) (by omega) (by omega)
            omega
          obtain ⟨j, hj, rfl⟩ := List.getElem_of_mem (hsa.1.mem_iff.2 (mem_iota.2 ⟨hx.1, by omega⟩))
          have ej : l.getD j 0 = l[j] := by simp [List.getD, hj]
          have h1 := (hrows j hj).1 (by rw [ej]; exact he)
          unfold rng
          rw [List.mem_iff_getElem]
          exact ⟨j - (a - 1), by rw [List.length_drop, List.length_take]; omega, by rw [List.getElem_drop, List.getElem_take]; congr 1; omega⟩
        · intro hx
          obtain ⟨j, hj, rfl⟩ := List.getElem_of_mem hx
          unfold rng at hj ⊢
          rw [List.length_drop, List.length_take] at hj
          rw [List.getElem_drop, List.getElem_take]
          have hj2 : a - 1 + j < l.length := by omega
          have ej : l.getD (a - 1 + j) 0 = l[a - 1 + j] := by simp [List.getD, hj2]
          have h1 := (hrows (a - 1 + j) hj2).2 (by omega)
          have h2 := hrg (a - 1 + j) (by omega)
          rw [ej] at h1 h2
          exact ⟨by omega, h1⟩
      rw [hperm.length_eq, rng_len l (by omega)]
      omega
    rw [suffixindex_Repeated_b4_eq]
    refine ldI (i' := a) rl rfl ha (ldI (i' := a) rl rfl ha ⟨⟨by omega, by omega⟩, ⟨by omega, by omega, by omega⟩, x3, l, hsa, .inr ⟨a, k, P, by omega, hae, by omega, fun i hi => hall i (by omega), fun i hi => ?_, hP, by omega, ?_⟩⟩)
    · have := hall i (by omega)
      have := hab i hi
      omega
    · rw [hlen]; push_cast; rfl
  rw [suffixindex_Repeated_b2_eq]
  refine condP (fun hlt => ldI (i' := a + run) rc rfl (by omega) (condP (fun hge => ?_) (fun hl => ?_))) (fun hge => ?_)
  · rw [suffixindex_Repeated_b3_eq]
    refine ⟨⟨by omega, by omega⟩, ?_⟩
    rw [suffixindex_Repeated_b5_eq]
    refine ⟨⟨by omega, by omega⟩, ⟨rfl, run + 1, by push_cast; rfl, by push_cast; omega, by omega, fun i h1 h2 => ?_⟩, by dsimp only; omega⟩
    rcases Nat.lt_or_ge i (a + run) with h | h
    · exact hrun i h1 h
    · have := hall (a + run) (by omega)
      rw [show i = a + run by omega]
      omega
  · exact fin (.inr ⟨by omega, by omega⟩)
  · exact fin (.inl (by omega))
end Go.Proofs.Ytipmcfpjdebpdaa

/- The reference: Repeated; the example. -/
set_option maxRecDepth 100000
namespace Go.Proofs.Ytipmcfpjdebpdaa
open Go Go.Sx
end Go.Proofs.Ytipmcfpjdebpdaa

/- The example. -/
set_option maxRecDepth 100000
namespace Go.Proofs.Ytipmcfpjdebpdaa
open Go Go.Sx
abbrev banana : ByteArray := ⟨#[98, 97, 110, 97, 110, 97]⟩
abbrev ana : ByteArray := ⟨#[97, 110, 97]⟩
theorem ban_bs : bs banana = [98, 97, 110, 97, 110, 97] := rfl
theorem ana_bs : bs ana = [97, 110, 97] := rfl
theorem ban_SA : SA (bs banana) [5, 3, 1, 0, 4, 2] := by
  rw [ban_bs]
  refine ⟨?_, ?_⟩
  · decide
  · unfold SufS; decide
theorem ban_com : comL (bs banana) [5, 3, 1, 0, 4, 2] = [0, 1, 3, 0, 0, 2] := by rw [ban_bs]; decide
theorem ban_bwt : bwtL (bs banana) [6, 5, 3, 1, 0, 4, 2] = [97, 110, 110, 98, -1, 97, 97] := by rw [ban_bs]; decide
theorem ban_loc : LocIs (bs banana) (bs ana) [1, 3] := by
  rw [ban_bs, ana_bs]
  refine ⟨by decide, fun x => ?_⟩
  constructor
  · intro hx
    rcases List.mem_cons.1 hx with rfl | hx
    · exact ⟨by decide, by decide⟩
    · rw [List.mem_singleton.1 hx]; exact ⟨by decide, by decide⟩
  · rintro ⟨⟨h0, h1⟩, he⟩
    obtain ⟨k, rfl⟩ := Int.eq_ofNat_of_zero_le h0
    have h1 : k ≤ 6 := by
      have : (k : Int) ≤ 6 := h1
      omega
    rcases (by omega : k = 0 ∨ k = 1 ∨ k = 2 ∨ k = 3 ∨ k = 4 ∨ k = 5 ∨ k = 6) with rfl | rfl | rfl | rfl | rfl | rfl | rfl
    · exact absurd he (by decide)
    · decide
    · exact absurd he (by decide)
    · decide
    · exact absurd he (by decide)
    · exact absurd he (by decide)
    · exact absurd he (by decide)
theorem ban_rep : RepIs banana (.tuple #[.string ana, .int .i64 2, .int .i64 0]) := by
  refine ⟨_, ban_SA, .inr ⟨2, 3, [1, 3], by decide, ?_, by decide, ?_, ?_, ?_, by decide, rfl⟩⟩
  · rw [ban_com]; rfl
  · rw [ban_com]; decide
  · rw [ban_com]; decide
  · exact ban_loc
theorem Awake_s (h : Hp) : HCalls Try.prog 10 #[] h (fun v h' => Ext h h' ∧ v = .bool true) := by
  have hsz : banana.size = 6 := rfl
  refine l30_awake_call ?_
  rw [l30_awake_b0_eq]
  refine (Suffixes_ok (s := banana) h).mono fun v h1 hv => ?_
  rw [if_neg (by decide)] at hv
  obtain ⟨q1, d1, A1, l1, hv, o1, st1, sa1⟩ := hv
  obtain rfl := SA_uniq sa1 ban_SA
  refine ⟨_, _, _, _, hv, ?_⟩
  have r1 := o1.rd (st1.to (B := A1 + 0))
  have x1 := st1.ext
  refine (Common_ok (s := banana) h1).mono fun v h2 hv => ?_
  rw [if_neg (by decide)] at hv
  obtain ⟨q2, d2, l2, hv, sa2, r2, x2⟩ := hv
  obtain rfl := SA_uniq sa2 ban_SA
  rw [ban_com] at r2
  refine ⟨_, _, _, _, hv, ?_⟩
  refine (Transform_ok (s := banana) h2).mono fun v h3 hv => ?_
  rw [if_neg (by decide)] at hv
  obtain ⟨q3, d3, O3, pl, hv, _, sa3, r3, x3, hpl⟩ := hv
  obtain rfl := SA0_uniq sa3 (SA_cons ban_SA)
  obtain rfl := plAt_uniq sa3 hpl (q := 4) ⟨by decide, by decide⟩
  have eb : bwtL (bs banana) (((bs banana).length : Int) :: [5, 3, 1, 0, 4, 2]) = [97, 110, 110, 98, -1, 97, 97] := ban_bwt
  rw [eb] at r3
  refine ⟨_, _, _, _, _, hv, ?_⟩
  refine (Repeated_ok (s := banana) h3).mono fun v h4 ⟨x4, hv⟩ => ?_
  rw [if_neg (by decide)] at hv
  have hv := repIs_uniq hv ban_rep
  refine ⟨_, _, _, hv, ?_⟩
  refine (Make_x (s := banana) h4).mono fun v h5 hv => ?_
  rw [if_neg (by decide)] at hv
  obtain ⟨xb, O, pl, op, oc, tb, H, rfl, ix, x5⟩ := hv
  refine ⟨_, _, rfl, condNo rfl ?_⟩
  refine (Locate_x ix ana).mono fun v h6 hv => ?_
  rw [if_neg (by decide)] at hv
  obtain ⟨q6, n6, d6, A6, l6, rfl, o6, st6, loc6⟩ := hv
  obtain rfl := locIs_uniq loc6 ban_loc
  have r6 := o6.rd (st6.to (B := A6 + 0))
  have x6 := st6.ext
  have hn6 := r6.len
  refine ⟨_, _, _, _, rfl, condYes rfl ?_⟩
  have x26 := ((x3.trans x4).trans x5).trans x6
  have x36 := (x4.trans x5).trans x6
  have r1 := (r1.ext x2).ext x26
  have r2 := r2.ext x26
  have r3 := r3.ext x36
  have xx := (x1.trans x2).trans x26
  refine (St.start h6).new (cs := [_, _, _, _, _, _]) fun b1 h7 x7 s7 => ?_
  have k7 : Sl TI (some ⟨b1, 0, none⟩) 6 6 [5, 3, 1, 0, 4, 2] (cA b1 [.int .i64 5, .int .i64 3, .int .i64 1, .int .i64 0, .int .i64 4, .int .i64 2] 3) := Sl.of_blk (T := TI) (n := 6) (xs := [5, 3, 1, 0, 4, 2]) rfl (cs := [.int .i64 5, .int .i64 3, .int .i64 1, .int .i64 0, .int .i64 4, .int .i64 2]) rfl
  refine (EqualI (r1.ext x7) (k7.rd s7) (by decide)).mono fun v h8 ⟨hh, hv⟩ => ⟨_, hv, ?_⟩
  subst hh
  refine condYes (by decide) (condYes rfl ?_)
  refine (St.start h8).new (cs := [_, _, _, _, _, _]) fun b2 h9 x9 s9 => ?_
  have k9 : Sl TI (some ⟨b2, 0, none⟩) 6 6 [0, 1, 3, 0, 0, 2] (cA b2 [.int .i64 0, .int .i64 1, .int .i64 3, .int .i64 0, .int .i64 0, .int .i64 2] 3) := Sl.of_blk (T := TI) (n := 6) (xs := [0, 1, 3, 0, 0, 2]) rfl (cs := [.int .i64 0, .int .i64 1, .int .i64 3, .int .i64 0, .int .i64 0, .int .i64 2]) rfl
  have x79 := x7.trans x9
  refine (EqualI (r2.ext x79) (k9.rd s9) (by decide)).mono fun v h10 ⟨hh, hv⟩ => ⟨_, hv, ?_⟩
  subst hh
  refine condYes (by decide) (condYes rfl (condYes rfl ?_))
  refine (St.start h10).new (cs := [_, _, _, _, _, _, _]) fun b3 h11 x11 s11 => ?_
  have k11 : Sl TI (some ⟨b3, 0, none⟩) 7 7 [97, 110, 110, 98, -1, 97, 97] (cA b3 [.int .i64 97, .int .i64 110, .int .i64 110, .int .i64 98, .int .i64 (-1), .int .i64 97, .int .i64 97] 3) := Sl.of_blk (T := TI) (n := 7) (xs := [97, 110, 110, 98, -1, 97, 97]) rfl (cs := [.int .i64 97, .int .i64 110, .int .i64 110, .int .i64 98, .int .i64 (-1), .int .i64 97, .int .i64 97]) rfl
  have x711 := x79.trans x11
  refine (EqualI (r3.ext x711) (k11.rd s11) (by decide)).mono fun v h12 ⟨hh, hv⟩ => ⟨_, hv, ?_⟩
  subst hh
  refine condYes (by decide) (condYes rfl (condYes (by rw [strEq_bs]; decide) (condYes rfl (condYes rfl (condYes rfl ?_)))))
  refine (St.start h12).new (cs := [_, _]) fun b4 h13 x13 s13 => ?_
  have k13 : Sl TI (some ⟨b4, 0, none⟩) 2 2 [1, 3] (cA b4 [.int .i64 1, .int .i64 3] 3) := Sl.of_blk (T := TI) (n := 2) (xs := [1, 3]) rfl (cs := [.int .i64 1, .int .i64 3]) rfl
  have x713 := x711.trans x13
  refine (EqualI (r6.ext x713) (k13.rd s13) (by rw [← hn6]; decide)).mono fun v h14 ⟨hh, hv⟩ => ⟨_, hv, ?_⟩
  subst hh
  exact ⟨xx.trans x713, by rw [decide_eq_true rfl]⟩
end Go.Proofs.Ytipmcfpjdebpdaa

/- The laws SuffixindexSorts, SuffixIndexes. -/
set_option maxRecDepth 100000
namespace Go.Proofs.Ytipmcfpjdebpdaa
open Go Go.Sx
theorem strEq_self (a : ByteArray) : strEq a a = true := by rw [strEq_bs]; exact decide_eq_true rfl
end Go.Proofs.Ytipmcfpjdebpdaa

/- How a slice that is handed in is read: elements of any number of cells. -/
namespace Go.Sx
open Go Go.ChangeShapes Go.WideShapes Go.Deep
section
variable {H : Type} {enc : TypeId × Value → H} {P : Program} {w : World} {base : Nat} {sp : Nat → Bool} {held : Bool} {α : Type}
theorem rd_flat {t : TypeId} (T : Ty α) {W : α → Prop} {a : Option Addr} {len cap : Nat} {d : DataW H} {ps : List MemPlace} (ht : P.underlying t = some (.slice T.e)) (hc : P.cellsOf T.e = T.sz)
    (dec : ∀ n cs x, DataW.trod enc P w base sp held n T.e cs = some x → ∃ a, cs = T.enc a ∧ W a) (h : DataW.Trod enc P w base sp held t (.slice a len cap) d ps) :
    ∃ xs : List α, RdT T w.heap a len xs ∧ len ≤ cap ∧ ∀ x ∈ xs, W x := by
  obtain ⟨fuel, hf⟩ := h
  have e0 : (Value.slice a len cap).cells.toList = [.slice a len cap] := rfl
  rw [e0] at hf
  rcases open_slice ht hf with ⟨hcs, _⟩ | ⟨x, l, c, m, n, D, Pl, hcs, _, hl, _, hm, _, hx⟩
  · injection hcs with h1 _
    injection h1 with h1 h2 h3
    subst h1 h2 h3
    exact ⟨[], RdT.nil _ _, Nat.le_refl _, fun _ h => nomatch h⟩
  · injection hcs with h1 _
    injection h1 with h1 h2 h3
    subst h1 h2 h3
    have hlm : len ≤ m := by rw [hm]; split <;> omega
    haveI : Inhabited α := ⟨T.d⟩
    obtain ⟨f, hf⟩ := choose_lt (α := α) (n := len) (p := fun i z => w.cells? base (x.add (i * T.sz)) T.sz = some (T.enc z) ∧ W z) (fun i hi => by
      obtain ⟨cs, h1, h2⟩ := hx i (by omega)
      obtain ⟨z, hz, hw⟩ := dec n cs _ h2
      rw [hc] at h1
      exact ⟨z, by rw [h1, hz], hw⟩)
    refine ⟨(List.range len).map f, ⟨by simp, .inr ⟨x, rfl, fun i hi => ?_⟩⟩, hl, fun z hz => ?_⟩
    · have hp := T.pos
      have hdm : T.sz * (i / T.sz) + i % T.sz = i := Nat.div_add_mod i T.sz
      have hq : i / T.sz < len := (Nat.div_lt_iff_lt_mul hp).2 hi
      have hr : i % T.sz < T.sz := Nat.mod_lt _ hp
      obtain ⟨_, _, h3⟩ := World.cells?_some (hf _ hq).1
      have h4 := h3 _ hr
      have e1 : i / T.sz * T.sz + i % T.sz = i := by rw [Nat.mul_comm]; exact hdm
      rw [add_add, e1] at h4
      show cell w.heap (x.add i) = _
      rw [← cell_eq, h4]
      have := T.cells_get ((List.range len).map f) (i := i / T.sz) (j := i % T.sz) (by simpa using hq) hr
      rw [e1] at this
      rw [this]
      simp [List.getD, hq]
    · obtain ⟨i, hi, rfl⟩ := List.mem_map.1 hz
      exact (hf i (List.mem_range.1 hi)).2
theorem dec_int {e : TypeId} {k : IntKind} (he : P.underlying e = some (.int k)) (n : Nat) (cs : List Value) (x : DataW H × List MemPlace) (h : DataW.trod enc P w base sp held n e cs = some x) : ∃ z, cs = [.int k z] ∧ (Lit.int k z).wf = true := by
  obtain ⟨z, h1, _, h2⟩ := DataW.trod_int he h
  exact ⟨z, h1, h2⟩
end
end Go.Sx

/- How the law's arguments are read. -/
set_option maxRecDepth 10000
namespace Go.Proofs.Ytipmcfpjdebpdaa
open Go Go.Sx Go.ChangeShapes Go.WideShapes Go.ChangeAt Go.RowKit Go.Deep

theorem own : ownKnob Try.prog.godebug = none := by kernel_rfl
theorem laidOut : laidOutB Try.prog = true := by kernel_rfl
theorem below_of {P : Program} {f : FuncId} {args : Array Value} {w : World} (hc : HCalls P f args w.heap (fun v h' => v = .bool true ∧ Ext w.heap h')) :
    Calls P f args w fun e w' => e = .returned (.bool true) ∧ Below w.heap.size w w' :=
  (hc w rfl).mono fun e w' ⟨v, he, hs, hv, hx⟩ => ⟨by rw [he, hv], ⟨hs.os, hs.tape, hs.output, hx.size, hx.same⟩⟩
section
variable {H : Type} {enc : TypeId × Value → H} {w : World} {base : Nat} {held : Bool} {a : Option Addr} {len cap : Nat} {d : DataW H} {ps : List MemPlace}
theorem rd_ints (h : DataW.Trod enc Try.prog w base (fun _ => true) held 24 (.slice a len cap) d ps) : ∃ l : List Int, RdT TI w.heap a len l ∧ len ≤ cap := by
  obtain ⟨l, h1, h2, _⟩ := rd_flat (W := fun _ => True) TI Try.underlying24 (by kernel_rfl) (fun n cs x h => by
    obtain ⟨z, h1, h2⟩ := dec_int (k := .i64) (by kernel_rfl) n cs x h
    exact ⟨z, h1, trivial⟩) h
  exact ⟨l, h1, h2⟩
end
end Go.Proofs.Ytipmcfpjdebpdaa

/- Suffixes in plain lists: the row of the suffix that is longer by one; occurrences and their continuations; nothing longer occurs twice. -/
namespace Go.Sx
section
variable {s O : List Int} (hs : ∀ x ∈ s, 0 ≤ x) (hp : O.Perm (iota (s.length + 1))) (hw : SufS s O)
include hw in
theorem lo_idx {r : Nat} (hr : r < O.length) : loC s O (suf s (O.getD r 0)) = r := by
  have e : O.getD r 0 = O[r] := by simp [List.getD, hr]
  rw [e]
  unfold loC
  have h1 : O.countP (fun i => decide (ltL (suf s i) (suf s O[r]))) = (O.take r).countP (fun i => decide (ltL (suf s i) (suf s O[r]))) + (O.drop r).countP (fun i => decide (ltL (suf s i) (suf s O[r]))) := by
    rw [← List.countP_append, List.take_append_drop]
  have hpw := List.pairwise_iff_getElem.1 hw
  have h2 : (O.take r).countP (fun i => decide (ltL (suf s i) (suf s O[r]))) = (O.take r).length := by
    rw [List.countP_eq_length]
    intro x hx
    obtain ⟨j, hj, rfl⟩ := List.getElem_of_mem hx
    rw [List.length_take] at hj
    rw [List.getElem_take, decide_eq_true_eq]
    exact hpw j r (by omega) hr (by omega)
  have h3 : (O.drop r).countP (fun i => decide (ltL (suf s i) (suf s O[r]))) = 0 := by
    rw [List.countP_eq_zero]
    intro x hx
    obtain ⟨j, hj, rfl⟩ := List.getElem_of_mem hx
    rw [List.length_drop] at hj
    rw [List.getElem_drop, decide_eq_true_eq]
    intro hc
    rcases Nat.eq_zero_or_pos j with h | h
    · subst h; exact ltL_irr _ hc
    · exact ltL_asymm hc (hpw r (r + j) hr (by omega) (by omega))
  rw [h1, h2, h3, List.length_take]
  omega
include hs hp hw in
/-- From the row of a suffix to the row of the one that is longer by one. -/
theorem lf_row {r : Nat} (hr : r < O.length) (h0 : O.getD r 0 ≠ 0) :
    1 + (O.map (prevB s)).countP (fun x => decide (0 ≤ x ∧ x < s.getD (O.getD r 0 - 1).toNat 0)) + ((O.map (prevB s)).take r).countP (fun x => decide (x = s.getD (O.getD r 0 - 1).toNat 0)) < O.length ∧
    O.getD (1 + (O.map (prevB s)).countP (fun x => decide (0 ≤ x ∧ x < s.getD (O.getD r 0 - 1).toNat 0)) + ((O.map (prevB s)).take r).countP (fun x => decide (x = s.getD (O.getD r 0 - 1).toNat 0))) 0 = O.getD r 0 - 1 := by
  have e : O.getD r 0 = O[r] := by simp [List.getD, hr]
  have hm := mem_iota.1 (hp.mem_iff.1 (List.getElem_mem hr))
  rw [← e] at hm
  have hi0 : 0 ≤ O.getD r 0 - 1 := by omega
  have hi1 : O.getD r 0 - 1 < s.length := by omega
  have hc := suf_cons (s := s) hi0 hi1
  rw [show O.getD r 0 - 1 + 1 = O.getD r 0 by omega] at hc
  have hc0 : 0 ≤ s.getD (O.getD r 0 - 1).toNat 0 := by
    generalize (O.getD r 0 - 1) = z at *
    have : s.getD z.toNat 0 = s[z.toNat] := by simp [List.getD, show z.toNat < s.length by omega]
    rw [this]; exact hs _ (List.getElem_mem _)
  have h1 := lo_step hs hp hw hc0 (suf s (O.getD r 0))
  rw [lo_idx hw hr, ← hc] at h1
  obtain ⟨q, hq, eq⟩ := List.getElem_of_mem (hp.mem_iff.2 (mem_iota.2 (show 0 ≤ O.getD r 0 - 1 ∧ O.getD r 0 - 1 < (s.length + 1 : Nat) by omega)))
  have e2 : O.getD q 0 = O.getD r 0 - 1 := by simp only [List.getD, hq, List.getElem?_eq_getElem, Option.getD_some]; rw [eq]; simp [List.getD]
  have h2 := lo_idx hw hq
  rw [e2, h1] at h2
  rw [h2]
  exact ⟨hq, e2⟩
end
section
variable {s l : List Int}
end
end Go.Sx

/- The laws SuffixindexOrder, SuffixindexLongest. -/
set_option maxRecDepth 100000
namespace Go.Proofs.Ytipmcfpjdebpdaa
open Go Go.Sx
end Go.Proofs.Ytipmcfpjdebpdaa

/- The law SuffixindexCounts. -/
set_option maxRecDepth 100000
namespace Go.Proofs.Ytipmcfpjdebpdaa
open Go Go.Sx
abbrev tY : Ty UInt8 := ⟨5, 1, fun b => [byteV b], 0, fun _ => rfl, by decide, fun _ v hv => by simp at hv; subst hv; rfl⟩
theorem ok_bytes : ElOk tY Try.prog 42 := elB_spec (by kernel_rfl)
theorem tY_cells (zs : List UInt8) : tY.cells zs = zs.map byteV := by
  induction zs with
  | nil => rfl
  | cons z r ih => rw [Ty.cells_cons, ih]; rfl
theorem rd_bytes {h : Hp} {p : Option Addr} {n : Nat} {zs : List UInt8} (r : RdT tY h p n zs) : Rd h p n (zs.map byteV) := by
  have := r.rd
  rw [tY_cells] at this
  rwa [show n * tY.sz = n from Nat.mul_one n] at this
theorem str_y {h : Hp} {p : Option Addr} {n c : Nat} {zs : List UInt8} {K : ByteArray → Hp → Prop} (r : RdT tY h p n zs) (hk : K ⟨zs.toArray⟩ h) : hw Try.prog (convert 42 9 (.slice p n c)) h (strK K) :=
  hw_bytes_string (e := 5) (by kernel_rfl) (by kernel_rfl) (by kernel_rfl) (rd_bytes r) hk
theorem byteV_wrap {x : Int} (h0 : 0 ≤ x) (h1 : x ≤ 255) : Value.int .u8 (IntKind.u8.wrap x) = byteV (UInt8.ofNat x.toNat) := by
  unfold byteV
  rw [wrap_u8_in x h0 (by omega)]
  have : (UInt8.ofNat x.toNat).toNat = x.toNat := by
    rw [UInt8.toNat_ofNat']
    exact Nat.mod_eq_of_lt (by omega)
  rw [this]
  congr 1
  omega
end Go.Proofs.Ytipmcfpjdebpdaa

/- The text with a transform: what both answer. -/
set_option maxRecDepth 100000
namespace Go.Proofs.Ytipmcfpjdebpdaa
open Go Go.Sx
/-- A text has this transform. -/
def Good (l : List Int) (at_ : Int) (s : List Int) : Prop := ∃ O pl, SA0 s O ∧ bwtL s O = l ∧ PlAt O pl ∧ at_ = ((pl : Nat) : Int)
def rowN (l : List Int) (c : Int) (r : Nat) : Nat := 1 + ltN l c + eqN (l.take r) c
def ltA (l : List Int) (c : Int) : Nat := l.countP fun x => decide (x < c)
theorem bwt_perm {s O : List Int} (h : SA0 s O) : (bwtL s O).Perm (-1 :: s) := by
  have e : bwtL s O = O.map (prevB s) := rfl
  rw [e]
  refine (h.1.map _).trans ?_
  rw [iota_shift, List.map_cons, List.map_map]
  have e2 : (iota s.length).map (prevB s ∘ fun x => x + 1) = s := by
    refine List.ext_getElem (by simp [iota_len]) fun i h1 h2 => ?_
    rw [List.getElem_map]
    have : (iota s.length)[i]'(by rw [iota_len]; exact h2) = (i : Int) := by simp [iota]
    rw [this]
    show prevB s ((i : Int) + 1) = _
    unfold prevB
    rw [if_neg (by omega), show ((i : Int) + 1 - 1).toNat = i by omega]
    simp [List.getD, h2]
  rw [e2]
  exact List.Perm.refl _
theorem ltA_good {s O : List Int} (hs : ∀ x ∈ s, 0 ≤ x) (h : SA0 s O) {c : Int} (hc : 0 ≤ c) : ltA (bwtL s O) c = 1 + ltN (bwtL s O) c := by
  rw [ltN_countP]
  unfold ltA
  rw [(bwt_perm h).countP_eq, (bwt_perm h).countP_eq, List.countP_cons, List.countP_cons, if_pos (by rw [decide_eq_true_eq]; omega), if_neg (by rw [decide_eq_true_eq]; omega)]
  have : s.countP (fun x => decide (x < c)) = s.countP (fun x => decide (0 ≤ x ∧ x < c)) := List.countP_congr fun x hx => by
    have := hs x hx
    rw [decide_eq_true_eq, decide_eq_true_eq]
    omega
  omega
theorem good_len {l : List Int} {a : Int} {s : List Int} (h : Good l a s) : l.length = s.length + 1 := by
  obtain ⟨O, pl, h1, rfl, _⟩ := h
  rw [bwtL_len]; exact (SA0_range h1).1
/-- A step back in the text. -/
theorem good_step {s O : List Int} (hs : ∀ x ∈ s, 0 ≤ x) (h : SA0 s O) {r : Nat} {i : Nat} (hr : r < O.length) (ho : O.getD r 0 = ((i + 1 : Nat) : Int)) :
    i < s.length ∧ (bwtL s O).getD r 0 = s.getD i 0 ∧ 0 ≤ s.getD i 0 ∧ rowN (bwtL s O) (s.getD i 0) r < O.length ∧ O.getD (rowN (bwtL s O) (s.getD i 0) r) 0 = (i : Int) := by
  obtain ⟨hol, hrg⟩ := SA0_range h
  have h1 := hrg r (by omega)
  have hi : i < s.length := by omega
  have h2 := lf_row hs h.1 h.2 hr (by omega)
  rw [ho, show ((i + 1 : Nat) : Int) - 1 = (i : Int) by omega, Int.toNat_natCast] at h2
  have e : O.map (prevB s) = bwtL s O := rfl
  rw [e, ← ltN_countP, ← eqN_countP] at h2
  have hg := bwtL_get (s := s) (O := O) hr
  rw [if_neg (by omega), ho, show ((i + 1 : Nat) : Int) - 1 = (i : Int) by omega, Int.toNat_natCast] at hg
  have e3 : s.getD i 0 = s[i] := by simp [List.getD, hi]
  exact ⟨hi, hg, by rw [e3]; exact hs _ (List.getElem_mem hi), h2⟩
/-- The first row is that of the empty suffix. -/
theorem good_zero {s O : List Int} (h : SA0 s O) : O.getD 0 0 = (s.length : Int) := by
  obtain ⟨hol, hrg⟩ := SA0_range h
  have h0 := lo_idx h.2 (show 0 < O.length by omega)
  obtain ⟨q, hq, e⟩ := List.getElem_of_mem (h.1.mem_iff.2 (mem_iota.2 (show 0 ≤ (s.length : Int) ∧ (s.length : Int) < (s.length + 1 : Nat) by omega)))
  have e2 : O.getD q 0 = (s.length : Int) := by simp [List.getD, hq, e]
  have hq0 := lo_idx h.2 hq
  rw [e2] at hq0
  have hn : suf s (s.length : Int) = [] := by unfold suf; rw [Int.toNat_natCast, List.drop_length]
  rw [hn, lo_nil] at hq0
  rw [hq0]; exact e2
theorem good_uniq {l : List Int} {a b : Int} {s t : List Int} (hs : ∀ x ∈ s, 0 ≤ x) (ht : ∀ x ∈ t, 0 ≤ x) (h1 : Good l a s) (h2 : Good l b t) : s = t := by
  have l1 := good_len h1
  have l2 := good_len h2
  obtain ⟨O, pl, hO, e1, _⟩ := h1
  obtain ⟨Q, ql, hQ, e2, _⟩ := h2
  have o1 := (SA0_range hO).1
  have o2 := (SA0_range hQ).1
  have key : ∀ k, k ≤ s.length → ∃ r, r < l.length ∧ O.getD r 0 = ((s.length - k : Nat) : Int) ∧ Q.getD r 0 = ((s.length - k : Nat) : Int) ∧ s.drop (s.length - k) = t.drop (s.length - k) := by
    intro k
    induction k with
    | zero =>
      intro _
      refine ⟨0, by omega, good_zero hO, ?_, ?_⟩
      · rw [good_zero hQ]; show _ = (s.length : Int); omega
      · rw [List.drop_eq_nil_of_le (by omega), List.drop_eq_nil_of_le (by omega)]
    | succ k ih =>
      intro hk
      obtain ⟨r, hr, g1, g2, hd⟩ := ih (by omega)
      obtain ⟨i, hi⟩ : ∃ i, i = s.length - (k + 1) := ⟨_, rfl⟩
      rw [show s.length - k = i + 1 by omega] at g1 g2 hd
      rw [← hi]
      obtain ⟨a1, a2, a3, a4, a5⟩ := good_step hs hO (by omega) g1
      obtain ⟨b1, b2, b3, b4, b5⟩ := good_step ht hQ (by omega) g2
      rw [e1] at a2 a4 a5
      rw [e2] at b2 b4 b5
      have hst : s.getD i 0 = t.getD i 0 := a2.symm.trans b2
      refine ⟨_, by omega, a5, ?_, ?_⟩
      · rw [hst]; exact b5
      · rw [List.drop_eq_getElem_cons a1, List.drop_eq_getElem_cons b1, hd]
        congr 1
        simpa [List.getD, a1, b1] using hst
  obtain ⟨r, _, _, _, h⟩ := key s.length (Nat.le_refl _)
  rw [Nat.sub_self, List.drop_zero, List.drop_zero] at h
  exact h
/-- What Inverse answers. -/
def InvIs (l : List Int) (a : Int) (v : Value) : Prop :=
  if 4097 < l.length then v = .tuple #[.string (⟨#[]⟩ : ByteArray), .int .i64 4] else
  if a < 0 ∨ l.length ≤ a ∨ ∃ x ∈ l, x < -1 ∨ 255 < x then v = .tuple #[.string (⟨#[]⟩ : ByteArray), .int .i64 2] else
  (∃ s : ByteArray, Good l a (bs s) ∧ v = .tuple #[.string s, .int .i64 0]) ∨ ((∀ s : ByteArray, ¬ Good l a (bs s)) ∧ v = .tuple #[.string (⟨#[]⟩ : ByteArray), .int .i64 12])
theorem invIs_uniq {l : List Int} {a : Int} {v v' : Value} (h : InvIs l a v) (h' : InvIs l a v') : v = v' := by
  unfold InvIs at h h'
  split at h
  · rename_i hc; rw [if_pos hc] at h'; rw [h, h']
  · rename_i hc
    rw [if_neg hc] at h'
    split at h
    · rename_i hd; rw [if_pos hd] at h'; rw [h, h']
    · rename_i hd
      rw [if_neg hd] at h'
      rcases h with ⟨s, g, rfl⟩ | ⟨g, rfl⟩ <;> rcases h' with ⟨s', g', rfl⟩ | ⟨g', rfl⟩
      · have := good_uniq (fun x hx => (bs_range hx).1) (fun x hx => (bs_range hx).1) g g'
        rw [bs_inj this]
      · exact absurd g (g' s)
      · exact absurd g' (g s')
      · rfl
/-- What is known on the way: the row, and the bytes from here on. -/
def Way (l : List Int) (a : Int) (row i : Nat) (b : List UInt8) : Prop := ∀ s : ByteArray, ∀ O, SA0 (bs s) O → bwtL (bs s) O = l → row < O.length ∧ O.getD row 0 = (i : Int) ∧ b.map (fun x => (x.toNat : Int)) = (bs s).drop i
theorem way_zero (l : List Int) (a : Int) : Way l a 0 (l.length - 1) [] := fun s O hO e => by
  have h1 := (SA0_range hO).1
  have hl := congrArg List.length e
  rw [bwtL_len] at hl
  refine ⟨by omega, ?_, ?_⟩
  · rw [good_zero hO]; omega
  · rw [List.drop_eq_nil_of_le (by omega)]; rfl
/-- No text, if the mark comes too early. -/
theorem way_stop {l : List Int} {a : Int} {row i : Nat} {b : List UInt8} (w : Way l a row (i + 1) b) (h : l.getD row 0 < 0 ∨ l.length ≤ row) (s : ByteArray) : ¬ Good l a (bs s) := by
  rintro ⟨O, pl, hO, e, _⟩
  obtain ⟨h1, h2, _⟩ := w s O hO e
  obtain ⟨_, h4, h5, _⟩ := good_step (fun x hx => (bs_range hx).1) hO h1 h2
  rw [e] at h4
  have hl := congrArg List.length e
  rw [bwtL_len] at hl
  omega
theorem way_step {l : List Int} {a : Int} {row i : Nat} {b : List UInt8} (w : Way l a row (i + 1) b) (h0 : 0 ≤ l.getD row 0) (h1 : l.getD row 0 ≤ 255) : Way l a (rowN l (l.getD row 0) row) i (UInt8.ofNat (l.getD row 0).toNat :: b) := fun s O hO e => by
  obtain ⟨g1, g2, g3⟩ := w s O hO e
  obtain ⟨k1, k2, k3, k4, k5⟩ := good_step (fun x hx => (bs_range hx).1) hO g1 g2
  rw [e] at k2 k4 k5
  rw [k2]
  refine ⟨k4, k5, ?_⟩
  rw [List.map_cons, g3, List.drop_eq_getElem_cons k1]
  congr 1
  have hb := bs_byte (s := s) i
  have e2 : (bs s).getD i 0 = (bs s)[i] := by simp [List.getD, k1]
  rw [← e2, UInt8.toNat_ofNat', Nat.mod_eq_of_lt (by omega)]
  omega
theorem way_ref {l : List Int} {a : Int} {row i : Nat} {b : List UInt8} (w : Way l a row (i + 1) b) (h0 : 0 ≤ l.getD row 0) (h1 : l.getD row 0 ≤ 255) : Way l a (ltA l (l.getD row 0) + eqN (l.take row) (l.getD row 0)) i (UInt8.ofNat (l.getD row 0).toNat :: b) := fun s O hO e => by
  have h := way_step w h0 h1 s O hO e
  have h2 := ltA_good (fun x hx => (bs_range hx).1) hO h0
  rw [e] at h2
  rw [h2]; exact h
/-- At the end: the text has the transform, or no text has. -/
theorem way_end {l : List Int} {a : Int} {row : Nat} {b : List UInt8} (w : Way l a row 0 b) {O : List Int} {pl : Nat} (hO : SA0 (bs ⟨b.toArray⟩) O) (hp : PlAt O pl) :
    (((pl : Nat) : Int) = a ∧ bwtL (bs ⟨b.toArray⟩) O = l → Good l a (bs ⟨b.toArray⟩)) ∧ (¬ (((pl : Nat) : Int) = a ∧ bwtL (bs ⟨b.toArray⟩) O = l) → ∀ s : ByteArray, ¬ Good l a (bs s)) := by
  refine ⟨fun ⟨h1, h2⟩ => ⟨O, pl, hO, h2, hp, h1.symm⟩, fun hn s ⟨Q, ql, hQ, e, hq, ha⟩ => hn ?_⟩
  have h3 := (w s Q hQ e).2.2
  rw [List.drop_zero] at h3
  have e2 : bs ⟨b.toArray⟩ = bs s := h3
  rw [e2] at hO ⊢
  obtain rfl := SA0_uniq hO hQ
  exact ⟨by rw [ha, plAt_uniq hO hp hq], e⟩
end Go.Proofs.Ytipmcfpjdebpdaa

/- Inverse: the program and the reference. -/
set_option maxRecDepth 100000
namespace Go.Proofs.Ytipmcfpjdebpdaa
open Go Go.Sx
abbrev T74 : Ty Int := tI 74
theorem bad_c1 (z : Int) (h : Hp) : HCalls Try.prog 47 #[.int .i64 z] h (fun v h' => h' = h ∧ v = .bool (decide (z < -1 ∨ 255 < z))) := by
  refine suffixindex_Inverse_c1_call ?_
  rw [suffixindex_Inverse_c1_b0_eq]
  refine condP (fun h1 => ⟨rfl, ?_⟩) (fun h1 => ⟨rfl, ?_⟩)
  · rw [decide_eq_true (.inl h1)]
  · congr 1
    exact decide_eq_decide.2 ⟨fun h => .inr h, fun h => by omega⟩
theorem bad_ok {h : Hp} {p : Option Addr} {n c : Nat} {l : List Int} (r : RdT TI h p n l) (hn : n ≤ 1000000) :
    HCalls Try.prog 46 #[.slice p n c, .func (.func 47) #[] #[]] h (fun v h' => h' = h ∧ v = .bool (decide (∃ x ∈ l, x < -1 ∨ 255 < x))) := by
  have hll := r.len
  refine slices_ContainsFunc_Sint_int_call ?_
  rw [slices_ContainsFunc_Sint_int_b0_eq]
  refine slices_IndexFunc_Sint_int_call ?_
  rw [slices_IndexFunc_Sint_int_b0_eq]
  refine ⟨fun q h' => h' = h ∧ ∃ i : Nat, q.1 = i ∧ i ≤ n ∧ ∀ k, k < i → ¬ (l.getD k 0 < -1 ∨ 255 < l.getD k 0), fun q _ => (n - q.1).toNat, ⟨rfl, 0, rfl, Nat.zero_le _, fun k hk => by omega⟩, ?_⟩
  rintro ⟨_, _⟩ h1 ⟨hh, i, rfl, hi, hall⟩
  subst hh
  dsimp only
  rw [slices_IndexFunc_Sint_int_b1_eq]
  refine condP (fun hlt => ?_) (fun hge => ?_)
  · have hin : i < n := by omega
    have e1 : l.getD i 0 = l[i] := by simp [List.getD, show i < l.length by omega]
    refine ldI (i' := i) r rfl hin (funX_of (by kernel_rfl) ((bad_c1 (l.getD i 0) _).mono fun v h2 ⟨hh, hv⟩ => ?_))
    subst hh
    refine ⟨_, hv, condP (fun h3 => ⟨_, rfl, rfl, ?_⟩) (fun h3 => ?_)⟩
    · rw [decide_eq_true (by omega), decide_eq_true ⟨_, List.getElem_mem (show i < l.length by omega), by rw [← e1]; exact h3⟩]
    · rw [slices_IndexFunc_Sint_int_b2_eq]
      refine ⟨⟨by omega, by omega⟩, ⟨rfl, i + 1, by push_cast; rfl, by omega, fun k hk => ?_⟩, by dsimp only; omega⟩
      rcases Nat.lt_or_ge k i with h | h
      · exact hall k h
      · rw [show k = i by omega]; exact h3
  · rw [slices_IndexFunc_Sint_int_b3_eq]
    refine ⟨_, rfl, rfl, ?_⟩
    rw [decide_eq_false (by omega), decide_eq_false]
    rintro ⟨x, hx, hb⟩
    obtain ⟨j, hj, rfl⟩ := List.getElem_of_mem hx
    refine hall j (by omega) ?_
    have e1 : l.getD j 0 = l[j] := by simp [List.getD, hj]
    rw [e1]; exact hb
theorem invIs_in {l : List Int} {a : Int} {v : Value} (h1 : l.length ≤ 4097) (h2 : 0 ≤ a) (h3 : a < l.length) (h4 : ¬ ∃ x ∈ l, x < -1 ∨ 255 < x)
    (h : (∃ s : ByteArray, Good l a (bs s) ∧ v = .tuple #[.string s, .int .i64 0]) ∨ ((∀ s : ByteArray, ¬ Good l a (bs s)) ∧ v = .tuple #[.string (⟨#[]⟩ : ByteArray), .int .i64 12])) : InvIs l a v := by
  unfold InvIs
  rw [if_neg (by omega), if_neg]
  · exact h
  · rintro (h | h | h)
    · omega
    · omega
    · exact h4 h
theorem Inverse_ok {h : Hp} {p : Option Addr} {n c : Nat} {l : List Int} (r : RdT TI h p n l) (hn : n ≤ 1000000) (a : Int) :
    HCalls Try.prog 29 #[.slice p n c, .int .i64 a] h (fun v h' => InvIs l a v ∧ Ext h h') := by
  have hll := r.len
  refine suffixindex_Inverse_call ?_
  rw [suffixindex_Inverse_b0_eq]
  refine condP (fun h1 => ⟨?_, .refl _⟩) (fun h1 => condP (fun h2 => ⟨?_, .refl _⟩) (fun h2 => condP (fun h3 => ⟨?_, .refl _⟩) (fun h3 => ?_)))
  · unfold InvIs; rw [if_pos (by omega)]
  · unfold InvIs; rw [if_neg (by omega), if_pos (.inl h2)]
  · unfold InvIs; rw [if_neg (by omega), if_pos (.inr (.inl (by omega)))]
  refine (bad_ok r hn).mono fun v h1' ⟨hh, hv⟩ => ⟨_, hv, condP (fun h4 => ⟨?_, by rw [hh]; exact .refl _⟩) (fun h4 => ?_)⟩
  · unfold InvIs; rw [if_neg (by omega), if_pos (.inr (.inr h4))]
  subst hh
  have hrg : ∀ i, i < n → -1 ≤ l.getD i 0 ∧ l.getD i 0 ≤ 255 := fun i hi => by
    have e1 : l.getD i 0 = l[i] := by simp [List.getD, show i < l.length by omega]
    rw [e1]
    refine Classical.byContradiction fun hc => h4 ⟨_, List.getElem_mem (show i < l.length by omega), by omega⟩
  suffices hk : suffixindex_Inverse_b1 p n c a h1' (fun v h' => ((∃ s : ByteArray, Good l a (bs s) ∧ v = .tuple #[.string s, .int .i64 0]) ∨ ((∀ s : ByteArray, ¬ Good l a (bs s)) ∧ v = .tuple #[.string (⟨#[]⟩ : ByteArray), .int .i64 12])) ∧ Ext h1' h') by
    have e : (fun (v : Value) h' => ((∃ s : ByteArray, Good l a (bs s) ∧ v = .tuple #[.string s, .int .i64 0]) ∨ ((∀ s : ByteArray, ¬ Good l a (bs s)) ∧ v = .tuple #[.string (⟨#[]⟩ : ByteArray), .int .i64 12])) ∧ Ext h1' h') = (fun v h' => InvIs l a v ∧ Ext h1' h') := by
      funext v h'
      unfold InvIs
      rw [if_neg (by omega), if_neg]
      rintro (h | h | h)
      · omega
      · omega
      · exact h4 h
    rw [← e]; exact hk
  clear hv
  rw [suffixindex_Inverse_b1_eq]
  refine (starts_ok r (by omega) hrg).mono fun v h2' ⟨hv, x2⟩ => ⟨_, hv, ?_⟩
  have r := r.ext x2
  refine (St.start h2').new (cs := List.replicate 257 (.int .i64 0)) fun b1 h3' _ st => ?_
  have hfl : ((firsts l).map (Value.int .i64)).length = 257 := by rw [List.length_map, firsts_len]
  refine ⟨hfl, ?_⟩
  unfold StL
  have st := st.to (B := cA b1 ([] ++ List.replicate 257 (.int .i64 0) ++ []) 65 + 0) (by simp)
  refine st.storesV _ 0 [] (List.replicate 257 (.int .i64 0)) [] (fun v hv => by obtain ⟨x, _, rfl⟩ := List.mem_map.1 hv; rfl) rfl (by rw [hfl]; simp) fun h4' st => ?_
  have st := st.to (B := cA b1 ((firsts l).map (Value.int .i64)) 65 + 0) (by simp)
  have o1 : Sl T65 (some ⟨b1, 0, none⟩) 257 257 (firsts l) (cA b1 ((firsts l).map (Value.int .i64)) 65) := Sl.of_blk (T := T65) (firsts_len l) (tI_cells _ _).symm
  refine st.new (cs := List.replicate 256 (.int .i64 0)) fun b2 h5' _ st => ⟨⟨by omega, by omega, by omega, by omega⟩, ?_⟩
  simp only [Int.toNat_natCast, Nat.mul_one, repL_one]
  refine st.new (cs := List.replicate n (.int .i64 0)) fun b3 h6' _ st => ?_
  have rep : ∀ m j, (List.replicate m (0 : Int)).getD j 0 = 0 := fun m j => by
    rw [List.getD_eq_getElem?_getD, List.getElem?_replicate]; split <;> rfl
  have o2 : Sl T74 (some ⟨b2, 0, none⟩) 256 256 (List.replicate 256 0) (cA b2 (List.replicate 256 (.int .i64 0)) 74) := Sl.of_blk (T := T74) (by simp) (by rw [tI_cells]; simp)
  have o3 : Sl TI (some ⟨b3, 0, none⟩) n n (List.replicate n 0) (cA b3 (List.replicate n (.int .i64 0)) 3) := Sl.of_blk (T := TI) (by simp) (by rw [tI_cells]; simp)
  generalize cA b1 ((firsts l).map (Value.int .i64)) 65 = A1 at *
  generalize cA b2 (List.replicate 256 (.int .i64 0)) 74 = A2 at *
  generalize cA b3 (List.replicate n (.int .i64 0)) 3 = A3 at *
  refine ⟨fun q h' => ∃ (i : Nat) (seen next : List Int) (A2 A3 : Bag), q.1 = i ∧ i ≤ n ∧ Sl T74 (some ⟨b2, 0, none⟩) 256 256 seen A2 ∧ (∀ j : Nat, j < 256 → seen.getD j 0 = (eqN (l.take i) j : Nat)) ∧ Sl TI (some ⟨b3, 0, none⟩) n n next A3 ∧ (∀ j, j < i → 0 ≤ l.getD j 0 → next.getD j 0 = (rowN l (l.getD j 0) j : Nat)) ∧ St h2' h' (A2 + (A3 + (A1 + 0))), fun q _ => (n - q.1).toNat, ⟨0, _, _, A2, A3, rfl, Nat.zero_le _, o2, fun j hj => by rw [rep]; rfl, o3, fun j hj => by omega, st.to⟩, ?_⟩
  clear st o2 o3
  rintro ⟨_, _⟩ h7' ⟨i, seen, next, A2, A3, rfl, hi, o2, hseen, o3, hnext, st⟩
  dsimp only
  have s2l := o2.len
  have s3l := o3.len
  rw [suffixindex_Inverse_b2_eq]
  refine condP (fun hlt => ?_) (fun hge => ?_)
  · have hin : i < n := by omega
    have hb := hrg i hin
    refine ldI (i' := i) (r.ext st.ext) rfl hin (condP (fun h0 => ?_) (fun h0 => ?_))
    · obtain ⟨k, hk⟩ := Int.eq_ofNat_of_zero_le h0
      rw [hk] at hb ⊢
      have hfk := firsts_get (l := l) (c := k) (by omega)
      have hsk := hseen k (by omega)
      have n1 := ltN_le l k
      have n2 := eqN_le (l.take i) k
      rw [List.length_take] at n2
      refine (o1.rd (st.to (B := A1 + (A2 + (A3 + 0))))).int (by omega) (by omega) ?_
      rw [show (firsts l).getD (Int.toNat (k : Int)) 0 = (firsts l).getD k 0 by rw [Int.toNat_natCast], hfk]
      refine (o2.rd st).int (by omega) (by omega) ?_
      rw [show seen.getD (Int.toNat (k : Int)) 0 = seen.getD k 0 by rw [Int.toNat_natCast], hsk]
      refine ⟨⟨by omega, by omega⟩, o3.wrI (x := ((1 + ltN l k : Nat) : Int) + ((eqN (l.take i) k : Nat) : Int)) (st.to (B := A3 + (A2 + (A1 + 0)))) (by omega) (by omega) rfl rfl fun h8 B3 q3 st => ?_⟩
      rw [Int.toNat_natCast] at q3
      refine (o2.rd (st.to (B := A2 + (B3 + (A1 + 0))))).int (by omega) (by omega) ?_
      rw [show seen.getD (Int.toNat (k : Int)) 0 = seen.getD k 0 by rw [Int.toNat_natCast], hsk]
      refine ⟨⟨by omega, by omega⟩, o2.wrI (x := ((eqN (l.take i) k : Nat) : Int) + 1) (st.to (B := A2 + (B3 + (A1 + 0)))) (by omega) (by omega) rfl rfl fun h9 B2 q2 st => ?_⟩
      rw [Int.toNat_natCast] at q2
      rw [suffixindex_Inverse_b3_eq]
      refine ⟨⟨by omega, by omega⟩, ⟨i + 1, _, _, B2, B3, by push_cast; rfl, by omega, q2, fun j hj => ?_, q3, fun j hj hj0 => ?_, st⟩, by dsimp only; omega⟩
      · rw [getD_set (by omega), eqN_take (by omega), hk]
        by_cases hjk : j = k
        · subst hjk
          rw [if_pos rfl, if_pos rfl]; push_cast; rfl
        · rw [if_neg hjk, if_neg (by omega), hseen j hj]; rfl
      · rw [getD_set (by omega)]
        by_cases hji : j = i
        · subst hji
          rw [if_pos rfl, hk]
          unfold rowN
          push_cast; omega
        · rw [if_neg hji]
          exact hnext j (by omega) hj0
    · rw [suffixindex_Inverse_b3_eq]
      refine ⟨⟨by omega, by omega⟩, ⟨i + 1, seen, next, A2, A3, by push_cast; rfl, by omega, o2, fun j hj => ?_, o3, fun j hj hj0 => ?_, st⟩, by dsimp only; omega⟩
      · rw [eqN_take (by omega), if_neg (by omega), hseen j hj]; rfl
      · rcases Nat.lt_or_ge j i with h | h
        · exact hnext j h hj0
        · rw [show j = i by omega] at hj0; omega
  obtain rfl : i = n := by omega
  clear hseen
  have st := st.to (B := A3 + (A2 + (A1 + 0)))
  rw [suffixindex_Inverse_b4_eq]
  obtain ⟨m, rfl⟩ : ∃ m, i = m + 1 := ⟨i - 1, by omega⟩
  have em : ((m + 1 : Nat) : Int) - 1 = (m : Int) := by omega
  refine ⟨⟨by omega, by omega⟩, ⟨by omega, by omega, by omega, by omega⟩, ?_⟩
  rw [em]
  simp only [Int.toNat_natCast, Nat.mul_one, repL_one]
  refine st.new (cs := List.replicate m (.int .u8 0)) fun b4 h8' _ st => ⟨⟨by omega, by omega⟩, ?_⟩
  have o4 : Sl tY (some ⟨b4, 0, none⟩) m m (List.replicate m 0) (cA b4 (List.replicate m (.int .u8 0)) 5) := Sl.of_blk (T := tY) (by simp) (by rw [tY_cells]; simp [byteV])
  generalize cA b4 (List.replicate m (.int .u8 0)) 5 = A4 at *
  have w0 := way_zero l a
  rw [hll, Nat.add_sub_cancel] at w0
  refine ⟨fun q h' => ∃ (row k : Nat) (bl : List UInt8) (A4 : Bag), q.1 = row ∧ q.2.1 = (k : Int) - 1 ∧ k ≤ m ∧ Sl tY (some ⟨b4, 0, none⟩) m m bl A4 ∧ Way l a row k (bl.drop k) ∧ St h2' h' (A4 + (A3 + (A2 + (A1 + 0)))), fun q _ => (q.2.1 + 1).toNat, ⟨0, m, _, A4, rfl, rfl, Nat.le_refl _, o4, by rw [List.drop_eq_nil_of_le (by simp)]; exact w0, st⟩, ?_⟩
  clear st o4 w0
  rintro ⟨_, _, _⟩ h9' ⟨row, k, bl, A4, rfl, rfl, hk, o4, hw, st⟩
  dsimp only
  have s4l := o4.len
  have rl := r.ext st.ext
  rw [suffixindex_Inverse_b5_eq]
  refine condP (fun h0 => ?_) (fun h0 => ?_)
  · obtain ⟨j, rfl⟩ : ∃ j, k = j + 1 := ⟨k - 1, by omega⟩
    refine condP (fun hr => ⟨.inr ⟨fun s => way_stop hw (.inr (by omega)) s, rfl⟩, x2.trans st.ext⟩) (fun hr => ?_)
    refine ldI (i' := row) rl rfl (by omega) (condP (fun hneg => ⟨.inr ⟨fun s => way_stop hw (.inl hneg) s, rfl⟩, x2.trans st.ext⟩) (fun hneg => ?_))
    have hb := hrg row (by omega)
    rw [suffixindex_Inverse_b6_eq]
    refine ldI (i' := row) rl rfl (by omega) ?_
    rw [byteV_wrap (by omega) (by omega)]
    refine o4.wrI (x := UInt8.ofNat (l.getD row 0).toNat) st (by omega) (by omega) rfl rfl fun h10 B4 q4 st => ?_
    rw [show Int.toNat (((j + 1 : Nat) : Int) - 1) = j by omega] at q4
    refine ldI (i' := row) (o3.rd (st.to (B := A3 + (B4 + (A2 + (A1 + 0)))))) rfl (by omega) ?_
    rw [hnext row (by omega) (by omega), suffixindex_Inverse_b8_eq]
    refine ⟨⟨by omega, by omega⟩, ⟨_, j, _, B4, rfl, by dsimp only; omega, by omega, q4, ?_, st⟩, by dsimp only; omega⟩
    have w1 := way_step hw (by omega) hb.2
    have e : (bl.set j (UInt8.ofNat (l.getD row 0).toNat)).drop j = UInt8.ofNat (l.getD row 0).toNat :: bl.drop (j + 1) := by
      rw [List.drop_set, if_neg (Nat.lt_irrefl _), Nat.sub_self, List.drop_eq_getElem_cons (by omega), List.set_cons_zero]
    rw [e]; exact w1
  obtain rfl : k = 0 := by omega
  rw [List.drop_zero] at hw
  rw [suffixindex_Inverse_b7_eq]
  refine str_y (o4.rd st) ?_
  have hsz : (⟨bl.toArray⟩ : ByteArray).size = m := s4l
  have hwe := @way_end l a row bl hw
  have x9 := x2.trans st.ext
  generalize (⟨bl.toArray⟩ : ByteArray) = S at *
  have hSl := bs_len S
  refine (suffixes_ok (s := S) h9' (by omega)).mono fun v h10 ⟨q, d, A, L, hv, o, st10, hsa⟩ => ⟨_, _, _, hv, ?_⟩
  have st10 := st10.to (B := A + 0)
  have hO := SA_cons hsa
  rw [hSl] at hO
  refine (transform_ok (o.rd st10) (by omega) hsa).mono fun v h11 ⟨q2, d2, B, pl, hv, o2', st11, hp⟩ => ⟨_, _, _, _, hv, ?_⟩
  have rl11 := (rl.ext st10.ext).ext st11.ext
  have x11 := (x9.trans st10.ext).trans st11.ext
  obtain ⟨g1, g2⟩ := hwe hO hp
  refine condN (fun hne => ⟨.inr ⟨g2 fun h => hne h.1, rfl⟩, x11⟩) (fun heq => ?_)
  refine (EqualI (o2'.rd (st11.to (B := B + 0))) rl11 (by omega)).mono fun v h12 ⟨hh, hv⟩ => ⟨_, hv, ?_⟩
  subst hh
  refine condN (fun hne => ⟨.inr ⟨g2 fun h => hne h.2, rfl⟩, x11⟩) (fun heq2 => ?_)
  rw [suffixindex_Inverse_b9_eq]
  exact ⟨.inl ⟨S, g1 ⟨heq, heq2⟩, rfl⟩, x11⟩
theorem Same_r {h : Hp} {p q : Option Addr} {n m c d : Nat} {xs ys : List Int} (r1 : RdT TI h p n xs) (r2 : RdT TI h q m ys) (hn : n ≤ 1000000000) :
    HCalls Try.prog 48 #[.slice p n c, .slice q m d] h (fun v h' => h' = h ∧ v = .bool (decide (xs = ys))) := by
  have l1 := r1.len
  have l2 := r2.len
  refine r30_Same_call ?_
  rw [r30_Same_b0_eq]
  refine condN (fun hne => ⟨rfl, by rw [decide_eq_false fun h => by subst h; omega]⟩) (fun heq => ?_)
  obtain rfl : n = m := by omega
  refine ⟨fun q h' => h' = h ∧ ∃ i : Nat, q.1 = i ∧ i ≤ n ∧ ∀ j, j < i → xs.getD j 0 = ys.getD j 0, fun q _ => (n - q.1).toNat, ⟨rfl, 0, rfl, Nat.zero_le _, fun j hj => by omega⟩, ?_⟩
  rintro ⟨_, _⟩ h1 ⟨hh, i, rfl, hi, hall⟩
  subst hh
  dsimp only
  rw [r30_Same_b1_eq]
  refine condP (fun hlt => ?_) (fun hge => ?_)
  · refine ldI (i' := i) r1 rfl (by omega) (ldI (i' := i) r2 rfl (by omega) (condN (fun hne => ⟨rfl, ?_⟩) (fun he => ?_)))
    · rw [decide_eq_false fun h => hne (by rw [h])]
    · rw [r30_Same_b2_eq]
      refine ⟨⟨by omega, by omega⟩, ⟨rfl, i + 1, by push_cast; rfl, by omega, fun j hj => ?_⟩, by dsimp only; omega⟩
      rcases Nat.lt_or_ge j i with h | h
      · exact hall j h
      · rw [show j = i by omega]; exact he
  · rw [r30_Same_b3_eq]
    exact ⟨rfl, by rw [decide_eq_true (list_eq_of (d := 0) (by omega) fun j hj => hall j (by omega))]⟩
end Go.Proofs.Ytipmcfpjdebpdaa

/- Inverse: the reference; the law SuffixindexTransforms. -/
set_option maxRecDepth 100000
namespace Go.Proofs.Ytipmcfpjdebpdaa
open Go Go.Sx
theorem ltA_take {l : List Int} {i : Nat} (h : i < l.length) (c : Int) : ltA (l.take (i + 1)) c = ltA (l.take i) c + if l.getD i 0 < c then 1 else 0 := by
  unfold ltA
  rw [take_snocI h, List.countP_append, List.countP_cons, List.countP_nil, Nat.zero_add]
  simp only [decide_eq_true_eq]
theorem Inverse_r {h : Hp} {p : Option Addr} {n c : Nat} {l : List Int} (r : RdT TI h p n l) (hn : n ≤ 1000000) (a : Int) :
    HCalls Try.prog 30 #[.slice p n c, .int .i64 a] h (fun v h' => InvIs l a v ∧ Ext h h') := by
  have hll := r.len
  refine r30_Inverse_call ?_
  rw [r30_Inverse_b0_eq]
  refine condP (fun h1 => ⟨?_, .refl _⟩) (fun h1 => condP (fun h2 => ⟨?_, .refl _⟩) (fun h2 => condP (fun h3 => ⟨?_, .refl _⟩) (fun h3 => ?_)))
  · unfold InvIs; rw [if_pos (by omega)]
  · unfold InvIs; rw [if_neg (by omega), if_pos (.inl h2)]
  · unfold InvIs; rw [if_neg (by omega), if_pos (.inr (.inl (by omega)))]
  rw [r30_Inverse_b1_eq]
  refine ⟨fun q h' => h' = h ∧ ∃ i : Nat, q.1 = i ∧ i ≤ n ∧ ∀ k, k < i → -1 ≤ l.getD k 0 ∧ l.getD k 0 ≤ 255, fun q _ => (n - q.1).toNat, ⟨rfl, 0, rfl, Nat.zero_le _, fun k hk => by omega⟩, ?_⟩
  rintro ⟨_, _⟩ h1' ⟨hh, i, rfl, hi, hall⟩
  subst hh
  dsimp only
  rw [r30_Inverse_b2_eq]
  have bad : ∀ {i}, i < n → (l.getD i 0 < -1 ∨ 255 < l.getD i 0) → InvIs l a (.tuple #[.string (⟨#[]⟩ : ByteArray), .int .i64 2]) := fun {i} hi hb => by
    unfold InvIs
    have e1 : l.getD i 0 = l[i] := by simp [List.getD, show i < l.length by omega]
    rw [if_neg (by omega), if_pos (.inr (.inr ⟨_, List.getElem_mem (show i < l.length by omega), by rw [← e1]; exact hb⟩))]
  refine condP (fun hlt => ?_) (fun hge => ?_)
  · have hin : i < n := by omega
    refine ldI (i' := i) r rfl hin (condP (fun hb => ⟨bad hin (.inl hb), .refl _⟩) (fun hb => ldI (i' := i) r rfl hin (condP (fun hb => ⟨bad hin (.inr hb), .refl _⟩) (fun hb => ?_))))
    rw [r30_Inverse_b3_eq]
    refine ⟨⟨by omega, by omega⟩, ⟨rfl, i + 1, by push_cast; rfl, by omega, fun j hj => ?_⟩, by dsimp only; omega⟩
    rcases Nat.lt_or_ge j i with h | h
    · exact hall j h
    · rw [show j = i by omega]; omega
  obtain rfl : i = n := by omega
  have h4 : ¬ ∃ x ∈ l, x < -1 ∨ 255 < x := by
    rintro ⟨x, hx, hb⟩
    obtain ⟨j, hj, rfl⟩ := List.getElem_of_mem hx
    have e1 : l.getD j 0 = l[j] := by simp [List.getD, hj]
    have := hall j (by omega)
    rw [e1] at this
    omega
  suffices hk : r30_Inverse_b4 p i c a h1' (fun v h' => ((∃ s : ByteArray, Good l a (bs s) ∧ v = .tuple #[.string s, .int .i64 0]) ∨ ((∀ s : ByteArray, ¬ Good l a (bs s)) ∧ v = .tuple #[.string (⟨#[]⟩ : ByteArray), .int .i64 12])) ∧ Ext h1' h') by
    have e : (fun (v : Value) h' => ((∃ s : ByteArray, Good l a (bs s) ∧ v = .tuple #[.string s, .int .i64 0]) ∨ ((∀ s : ByteArray, ¬ Good l a (bs s)) ∧ v = .tuple #[.string (⟨#[]⟩ : ByteArray), .int .i64 12])) ∧ Ext h1' h') = (fun v h' => InvIs l a v ∧ Ext h1' h') := by
      funext v h'
      unfold InvIs
      rw [if_neg (by omega), if_neg]
      rintro (h | h | h)
      · omega
      · omega
      · exact h4 h
    rw [← e]; exact hk
  rw [r30_Inverse_b4_eq]
  obtain ⟨m, rfl⟩ : ∃ m, i = m + 1 := ⟨i - 1, by omega⟩
  have em : ((m + 1 : Nat) : Int) - 1 = (m : Int) := by omega
  refine (St.start h1').new (cs := []) fun b1 h2' _ st => ?_
  have o : Sl tY (some ⟨b1, 0, none⟩) 0 0 [] (cA b1 [] 5) := Sl.of_blk (T := tY) (n := 0) (xs := []) rfl (cs := []) rfl
  have w0 := way_zero l a
  rw [hll, Nat.add_sub_cancel] at w0
  refine ⟨fun q h' => ∃ (row k : Nat) (bl : List UInt8) (A : Bag), q.2.1 = row ∧ row ≤ m ∧ k + q.1.2.1 = m ∧ Sl tY q.1.1 q.1.2.1 q.1.2.2 bl A ∧ Way l a row k bl ∧ St h1' h' (A + 0), fun q _ => (m - q.1.2.1 : Nat), ⟨0, m, [], _, rfl, Nat.zero_le _, rfl, o, w0, st⟩, ?_⟩
  clear st o w0
  rintro ⟨⟨q, bL, bC⟩, _, _⟩ h3' ⟨row, k, bl, A, rfl, hrow, hk, o, hw, st⟩
  dsimp only at *
  have rl := r.ext st.ext
  have hbl := o.len
  rw [r30_Inverse_b5_eq]
  rw [em]
  refine ⟨⟨by omega, by omega⟩, condP (fun h0 => ?_) (fun h0 => ?_)⟩
  · obtain ⟨j, rfl⟩ : ∃ j, k = j + 1 := ⟨k - 1, by omega⟩
    have hb := hall row (by omega)
    refine ldI (i' := row) rl rfl (by omega) (condP (fun hneg => ⟨.inr ⟨fun s => way_stop hw (.inl hneg) s, rfl⟩, st.ext⟩) (fun hneg => ?_))
    rw [byteV_wrap (by omega) (by omega)]
    refine st.new (cs := [byteV (UInt8.ofNat (l.getD row 0).toNat)]) fun b2 h4' x4 st => ?_
    have k2 : Sl tY (some ⟨b2, 0, none⟩) 1 1 [UInt8.ofNat (l.getD row 0).toNat] (cA b2 [byteV (UInt8.ofNat (l.getD row 0).toNat)] 5) := Sl.of_blk (T := tY) (n := 1) (xs := [_]) rfl (cs := [_]) rfl
    refine append_sl ok_bytes st k2 (o.rd (st.to (B := A + (cA b2 [byteV (UInt8.ofNat (l.getD row 0).toNat)] 5 + 0)))) (by omega) fun q5 c5 h5' A5 o5 st => ?_
    have st := (st.to (B := A + (A5 + 0))).drop
    have rl := r.ext st.ext
    refine ⟨fun q h' => h' = h5' ∧ ∃ i : Nat, q.2.1 = i ∧ i ≤ m + 1 ∧ q.1 = ((ltA (l.take i) (l.getD row 0) + eqN (l.take (min i row)) (l.getD row 0) : Nat) : Int) ∧ ltA (l.take i) (l.getD row 0) + eqN (l.take (min i row)) (l.getD row 0) + (if row < i then 1 else 0) ≤ i, fun q _ => (m + 1 - q.2.1).toNat, ⟨rfl, 0, rfl, Nat.zero_le _, by rw [Nat.zero_min]; rfl, by rw [Nat.zero_min]; simp [ltA, eqN]⟩, ?_⟩
    rintro ⟨_, _, _⟩ h6' ⟨hh, i, rfl, hi, rfl, hle⟩
    subst hh
    dsimp only
    rw [r30_Inverse_b6_eq]
    refine condP (fun hlt => ?_) (fun hge => ?_)
    · have hin : i < m + 1 := by omega
      have s1 := ltA_take (l := l) (i := i) (by omega) (l.getD row 0)
      have s2 := eqN_take (l := l) (i := i) (by omega) (l.getD row 0)
      have s3 : eqN (l.take (min (i + 1) row)) (l.getD row 0) = eqN (l.take (min i row)) (l.getD row 0) + if i < row ∧ l.getD i 0 = l.getD row 0 then 1 else 0 := by
        by_cases hir : i < row
        · rw [Nat.min_eq_left (by omega), Nat.min_eq_left (by omega), s2]
          simp only [hir, true_and]
        · rw [Nat.min_eq_right (by omega), Nat.min_eq_right (by omega), if_neg (fun h => hir h.1)]; rfl
      have hself : i = row → ¬ l.getD i 0 < l.getD row 0 := fun e => by rw [e]; omega
      have next : ∀ z : Int, z = ((ltA (l.take (i + 1)) (l.getD row 0) + eqN (l.take (min (i + 1) row)) (l.getD row 0) : Nat) : Int) → ∀ {nx0 K}, r30_Inverse_b8 p (m + 1) c a q5 (1 + bL) c5 (row : Int) (l.getD row 0) z (i : Int) h6' nx0 (fun s' h' => (h' = h6' ∧ ∃ i : Nat, s'.2.1 = i ∧ i ≤ m + 1 ∧ s'.1 = ((ltA (l.take i) (l.getD row 0) + eqN (l.take (min i row)) (l.getD row 0) : Nat) : Int) ∧ ltA (l.take i) (l.getD row 0) + eqN (l.take (min i row)) (l.getD row 0) + (if row < i then 1 else 0) ≤ i) ∧ ((m : Int) + 1 - s'.2.1).toNat < ((m : Int) + 1 - (i : Int)).toNat) K := fun z hz {nx0 K} => by
        rw [r30_Inverse_b8_eq]
        refine ⟨⟨by omega, by omega⟩, ⟨rfl, i + 1, by push_cast; rfl, by omega, hz, ?_⟩, by dsimp only; omega⟩
        rw [s1, s3]
        rcases Nat.lt_trichotomy i row with h | h | h
        · rw [if_neg (by omega)] at hle
          rw [if_neg (c := row < i + 1) (by omega)]
          split <;> split <;> omega
        · have := hself h
          rw [if_neg (by omega)] at hle
          rw [if_neg this, if_neg (c := i < row ∧ _) (fun hc => by omega), if_pos (by omega)]; omega
        · rw [if_pos (by omega)] at hle
          rw [if_pos (c := row < i + 1) (by omega), if_neg (c := i < row ∧ _) (fun hc => by omega)]
          split <;> omega
      have hbnd : ltA (l.take i) (l.getD row 0) + eqN (l.take (min i row)) (l.getD row 0) ≤ i := by omega
      refine ldI (i' := i) rl rfl hin (condP (fun hc => ⟨⟨by omega, by omega⟩, next _ ?_⟩) (fun hc => ldI (i' := i) rl rfl hin (condP (fun he => condP (fun hir => ⟨⟨by omega, by omega⟩, next _ ?_⟩) (fun hir => next _ ?_)) (fun he => next _ ?_))))
      · rw [s1, s3, if_pos hc, if_neg (fun h => by omega)]; push_cast; omega
      · rw [s1, s3, if_neg hc, if_pos ⟨by omega, he⟩]; push_cast; omega
      · rw [s1, s3, if_neg hc, if_neg (fun h => by omega)]; push_cast; omega
      · rw [s1, s3, if_neg hc, if_neg (fun h => he h.2)]; push_cast; omega
    · obtain rfl : i = m + 1 := by omega
      rw [if_pos (by omega)] at hle
      rw [← hll, List.take_length] at hle ⊢
      rw [Nat.min_eq_right (by omega)] at hle ⊢
      rw [r30_Inverse_b9_eq]
      refine ⟨⟨_, j, _, A5, rfl, by omega, by dsimp only; omega, o5, ?_, st⟩, by dsimp only; omega⟩
      exact way_ref hw (by omega) hb.2
  obtain rfl : k = 0 := by omega
  obtain rfl : bL = m := by omega
  rw [r30_Inverse_b7_eq]
  refine str_y (o.rd st) ?_
  have hsz : (⟨bl.toArray⟩ : ByteArray).size = bL := hbl
  have hwe := @way_end l a row bl hw
  have x9 := st.ext
  generalize (⟨bl.toArray⟩ : ByteArray) = S at *
  refine (Transform_r (s := S) (by omega)).mono fun v h11 ⟨q2, d2, O, pl, hv, hO, r2, x11, hp⟩ => ⟨_, _, _, _, hv, ?_⟩
  obtain ⟨g1, g2⟩ := hwe hO hp
  have x11 := x9.trans x11
  refine condN (fun hne => ⟨.inr ⟨g2 fun h => hne h.1, rfl⟩, x11⟩) (fun heq => ?_)
  refine (Same_r r2 (r.ext x11) (by omega)).mono fun v h12 ⟨hh, hv⟩ => ⟨_, hv, ?_⟩
  subst hh
  refine condN (fun hne => ⟨.inr ⟨g2 fun h => hne h.2, rfl⟩, x11⟩) (fun heq2 => ?_)
  rw [r30_Inverse_b10_eq]
  exact ⟨.inl ⟨S, g1 ⟨heq, heq2⟩, rfl⟩, x11⟩
theorem inv_shape {l : List Int} {a : Int} {v : Value} (h : InvIs l a v) : ∃ (w : ByteArray) (e : Int), v = .tuple #[.string w, .int .i64 e] := by
  unfold InvIs at h
  split at h
  · exact ⟨_, _, h⟩
  · split at h
    · exact ⟨_, _, h⟩
    · rcases h with ⟨s, _, h⟩ | ⟨_, h⟩ <;> exact ⟨_, _, h⟩
theorem transforms_lawS {h : Hp} {p : Option Addr} {n c : Nat} {l : List Int} (r : RdT TI h p n l) (s : ByteArray) (a : Int) :
    HCalls Try.prog 9 #[.string s, .slice p n c, .int .i64 a] h (fun v h' => v = .bool true ∧ Ext h h') := by
  have hbl := bs_len s
  refine l30_SuffixindexTransforms_call ?_
  rw [l30_SuffixindexTransforms_b0_eq]
  refine (Awake_s h).mono fun _ h1 ⟨x, hv⟩ => ⟨_, hv, condNo rfl ?_⟩
  refine Long_s.mono fun _ h2 ⟨hh, hv⟩ => ⟨_, hv, condP (fun _ => ⟨rfl, by rw [hh]; exact x⟩) (fun hlong => ?_)⟩
  subst hh
  have r := r.ext x
  have main : n ≤ 1000000 → l30_SuffixindexTransforms_b1 s p n c a h2 (fun v h' => v = .bool true ∧ Ext h h') := fun hn => by
    rw [l30_SuffixindexTransforms_b1_eq]
    refine (Inverse_ok r hn a).mono fun v h3 ⟨hi, x3⟩ => ?_
    obtain ⟨w, e, rfl⟩ := inv_shape hi
    refine ⟨_, _, rfl, ?_⟩
    refine (Inverse_r (r.ext x3) hn a).mono fun v h4 ⟨hi', x4⟩ => ?_
    obtain rfl := invIs_uniq hi' hi
    refine ⟨_, _, rfl, ?_⟩
    have x := (x.trans x3).trans x4
    refine (Transform_ok (s := s) h4).mono fun v h5 hv => ?_
    by_cases hbig : 4096 < s.size
    · rw [if_pos hbig] at hv
      obtain ⟨hv, rfl⟩ := hv
      refine ⟨_, _, _, _, _, hv, condNo (by rw [strEq_self]; rfl) (condNo (by rw [decide_eq_true rfl]; rfl) ?_)⟩
      rw [l30_SuffixindexTransforms_b2_eq]
      refine Full_s.mono fun _ h6 ⟨hh, hv⟩ => ⟨_, hv, condYes (decide_eq_true hbig) (condYes rfl (condYes rfl ⟨rfl, by rw [hh]; exact x⟩))⟩
    · rw [if_neg hbig] at hv
      obtain ⟨q, d, O, pl, hv, hcap, hO, rO, x5, hpl⟩ := hv
      refine ⟨_, _, _, _, _, hv, condNo (by rw [strEq_self]; rfl) (condNo (by rw [decide_eq_true rfl]; rfl) ?_)⟩
      rw [l30_SuffixindexTransforms_b2_eq]
      refine Full_s.mono fun _ h6 ⟨hh, hv⟩ => ⟨_, hv, condNo (decide_eq_false hbig) ?_⟩
      subst hh
      refine (Transform_r (s := s) (by omega)).mono fun v h7 ⟨q2, d2, O2, pl2, hv, hO2, rO2, x7, hpl2⟩ => ⟨_, _, _, _, hv, ?_⟩
      obtain rfl := SA0_uniq hO hO2
      obtain rfl := plAt_uniq hO hpl hpl2
      have rO := rO.ext x7
      have hol := (SA0_range hO).1
      refine (Inverse_ok rO (by omega) _).mono fun v h8 ⟨hi, x8⟩ => ?_
      have hpl' := hpl.1
      have hrg : ¬ ∃ x ∈ bwtL (bs s) O, x < -1 ∨ 255 < x := by
        rintro ⟨x, hx, hb⟩
        rcases List.mem_cons.1 ((bwt_perm hO).mem_iff.1 hx) with rfl | hx
        · omega
        · have := bs_range hx; omega
      have hgood : Good (bwtL (bs s) O) ((pl : Nat) : Int) (bs s) := ⟨O, pl, hO, rfl, hpl, rfl⟩
      have hbwl := bwtL_len (bs s) O
      have hv : v = .tuple #[.string s, .int .i64 0] := by
        refine invIs_uniq hi ?_
        exact invIs_in (by omega) (by omega) (by omega) hrg (.inl ⟨s, hgood, rfl⟩)
      refine ⟨_, _, hv, condYes rfl ?_⟩
      refine (EqualI (rO.ext x8) (rO2.ext x8) (by omega)).mono fun v h9 ⟨hh, hv⟩ => ⟨_, hv, condYes (decide_eq_true rfl) (condYes (decide_eq_true rfl) (condYes rfl ⟨by rw [strEq_self], ?_⟩))⟩
      subst hh
      exact ((x.trans x5).trans x7).trans x8
  refine condP (fun _ => condP (fun _ => ⟨rfl, x⟩) fun _ => condP (fun _ => ⟨rfl, x⟩) fun _ => main (by omega)) (fun _ => condP (fun _ => ⟨rfl, x⟩) fun _ => main (by omega))
end Go.Proofs.Ytipmcfpjdebpdaa
