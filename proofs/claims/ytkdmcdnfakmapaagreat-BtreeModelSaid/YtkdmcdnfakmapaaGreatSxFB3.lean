/- Part X1 X2 X3 X4 X5 B31 B32 B33 M3 Y1 Y2 Y3 R1 FB3 of the proof: contracts of functions of the program, and what follows from them. -/
import Derived.Test.YtkdmcdnfakmapaaGreatSxX0
import Derived.Test.YtkdmcdnfakmapaaGreatSxB5
import Derived.Test.YtkdmcdnfakmapaaGreatSxB16
import Derived.Deep.Slices
import Derived.OpenShut
import Derived.Test.YtkdmcdnfakmapaaGreatRows
import Derived.WalkKit
import Derived.ProofKit
import Derived.ShutString
import Derived.ChangeOld
import Derived.Below
import Derived.ChangeMaps5
import Derived.Deep.Grids
/- Layer 3: which operations are valid. -/
set_option maxRecDepth 100000
namespace Go.Proofs.YtkdmcdnfakmapaaGreat
open Go Go.Sx
theorem int_index_ok {g : Nat} {q : Int → Bool} (hX : ∀ (z : Int) (h : Hp) (K : Value → Hp → Prop), K (.bool (q z)) h → callX Tryz.prog F g #[.int .i64 z] h K) {h : Hp} {p : Option Addr} {n c : Nat} {zs : List Int} (r : RdT TI h p n zs) (hn : n ≤ 1000000) :
    HCalls Tryz.prog 46 #[.slice p n c, .func (.func g) #[] #[]] h (fun v h' => h' = h ∧ v = .bool (zs.any q)) := by
  have hzl := r.len
  refine slices_ContainsFunc_Sint_int_call ?_
  rw [slices_ContainsFunc_Sint_int_b0_eq]
  refine slices_IndexFunc_Sint_int_call ?_
  rw [slices_IndexFunc_Sint_int_b0_eq]
  refine ⟨fun s h' => h' = h ∧ ∃ i : Nat, s.1 = i ∧ i ≤ n ∧ (zs.take i).any q = false, fun s _ => n - s.1.toNat, ⟨rfl, 0, rfl, by omega, rfl⟩, ?_⟩
  rintro ⟨_, _⟩ h1 ⟨rfl, i, rfl, hin, hno⟩
  dsimp only
  rw [slices_IndexFunc_Sint_int_b1_eq]
  refine condP (fun hlt => ?_) (fun hge => ?_)
  · refine r.int (by omega) (by omega) ?_
    rw [Int.toNat_natCast]
    refine hX _ _ _ ⟨_, rfl, ?_⟩
    have hil : i < zs.length := by omega
    have hg : zs.getD i 0 = zs[i] := by simp [List.getD, hil]
    refine cond_intro (fun h3 => ?_) (fun h3 => ?_)
    · refine ⟨_, rfl, rfl, ?_⟩
      rw [decide_eq_true (by omega), List.any_eq_true.2 ⟨_, List.getElem_mem hil, by rw [← hg]; exact h3⟩]
    · rw [slices_IndexFunc_Sint_int_b2_eq]
      refine ⟨⟨by omega, by omega⟩, ⟨rfl, i + 1, by simp only; omega, by omega, ?_⟩, by simp only; omega⟩
      rw [List.take_succ_eq_append_getElem hil, List.any_append, hno, ← hg]
      show (false || (q (zs.getD i 0) || false)) = false
      rw [h3]
      rfl
  · rw [slices_IndexFunc_Sint_int_b3_eq]
    refine ⟨_, rfl, rfl, ?_⟩
    rw [List.take_of_length_le (by omega)] at hno
    rw [hno]
    rfl
abbrev ChP (z : Int) : Prop := 0 ≤ z ∧ z ≤ 255
instance (z : Int) : Decidable (ChP z) := inferInstanceAs (Decidable (_ ∧ _))
abbrev W3 := ByteArray × Int × Bool
abbrev tW : Ty W3 := ⟨92, 3, fun w => [.string w.1, .int .i64 w.2.1, .bool w.2.2], (⟨#[]⟩, 0, false), fun _ => rfl, by decide, fun _ v hv => by simp at hv; rcases hv with rfl | rfl | rfl <;> rfl⟩
def wd1 : List W3 := [(⟨#[112, 117, 116]⟩, 2, true), (⟨#[103, 101, 116]⟩, 1, false), (⟨#[114, 101, 109, 111, 118, 101]⟩, 1, true), (⟨#[102, 108, 111, 111, 114]⟩, 1, false), (⟨#[99, 101, 105, 108, 105, 110, 103]⟩, 1, false), (⟨#[114, 97, 110, 107]⟩, 1, false), (⟨#[115, 101, 108, 101, 99, 116]⟩, 1, false), (⟨#[115, 105, 122, 101]⟩, 0, false)]
def wd2 : List W3 := [(⟨#[105, 110, 115, 101, 114, 116]⟩, 1, true), (⟨#[109, 105, 110]⟩, 0, false), (⟨#[100, 101, 108, 101, 116, 101, 109, 105, 110]⟩, 0, true), (⟨#[115, 105, 122, 101]⟩, 0, false)]
def wd3 : List W3 := [(⟨#[105, 110, 115, 101, 114, 116]⟩, 2, true), (⟨#[114, 101, 109, 111, 118, 101]⟩, 1, true), (⟨#[103, 101, 116]⟩, 1, false), (⟨#[115, 101, 116]⟩, 2, true), (⟨#[115, 117, 109]⟩, 2, false), (⟨#[114, 101, 118, 101, 114, 115, 101]⟩, 2, true), (⟨#[115, 105, 122, 101]⟩, 0, false)]
def wd4 : List W3 := [(⟨#[109, 97, 107, 101]⟩, 0, true), (⟨#[117, 110, 105, 111, 110]⟩, 2, true), (⟨#[115, 97, 109, 101]⟩, 2, false), (⟨#[115, 105, 122, 101]⟩, 1, false), (⟨#[99, 111, 117, 110, 116]⟩, 0, false)]
def wd5 : List W3 := [(⟨#[97, 100, 100]⟩, 3, true), (⟨#[114, 101, 109, 111, 118, 101]⟩, 2, true), (⟨#[99, 111, 117, 110, 116]⟩, 4, false), (⟨#[115, 117, 109]⟩, 4, false), (⟨#[115, 105, 122, 101]⟩, 0, false)]
def wd6 : List W3 := [(⟨#[97, 112, 112, 101, 110, 100]⟩, (-1), true), (⟨#[99, 111, 117, 110, 116]⟩, (-1), false), (⟨#[102, 105, 110, 100]⟩, (-1), false), (⟨#[115, 105, 122, 101]⟩, 0, false)]
def ar1 : List Int := [2, 1, 1, 1, 1, 1, 1, 0]
def ar2 : List Int := [1, 0, 0, 0]
def ar3 : List Int := [2, 1, 1, 2, 2, 2, 0]
def ar4 : List Int := [0, 2, 2, 1, 0]
def ar5 : List Int := [3, 2, 4, 4, 0]
def ar6 : List Int := [(-1), (-1), (-1), 0]
/-- The arities of a kind of structure, by its operation. -/
def arT (k : Int) : List Int := if k = 1 then ar1 else if k = 2 then ar2 else if k = 3 then ar3 else if k = 4 then ar4 else if k = 5 then ar5 else if k = 6 then ar6 else []
def wdT (k : Int) : List W3 := if k = 1 then wd1 else if k = 2 then wd2 else if k = 3 then wd3 else if k = 4 then wd4 else if k = 5 then wd5 else if k = 6 then wd6 else []
theorem wd_ar (k : Int) : (wdT k).map (fun w => w.2.1) = arT k := by
  unfold wdT arT
  repeat' split
  all_goals rfl
theorem words_ok (k : Int) (h : Hp) : HCalls Tryz.prog 21 #[.int .i64 k] h (fun v h' => ∃ p c, v = .slice p (wdT k).length c ∧ RdT tW h' p (wdT k).length (wdT k) ∧ Ext h h') := by
  refine model_words_call ?_
  rw [model_words_b0_eq]
  unfold wdT
  refine condP (fun hk => ?_) (fun hk1 => ?_)
  · rw [if_pos hk]
    refine (St.start h).new (cs := tW.cells wd1) fun b1 h1 x1 s1 => ?_
    exact ⟨_, _, rfl, (Sl.of_blk (T := tW) (xs := wd1) rfl rfl).rd s1, x1⟩
  rw [if_neg hk1]
  refine condP (fun hk => ?_) (fun hk2 => ?_)
  · rw [if_pos hk]
    refine (St.start h).new (cs := tW.cells wd2) fun b1 h1 x1 s1 => ?_
    exact ⟨_, _, rfl, (Sl.of_blk (T := tW) (xs := wd2) rfl rfl).rd s1, x1⟩
  rw [if_neg hk2]
  refine condP (fun hk => ?_) (fun hk3 => ?_)
  · rw [if_pos hk]
    refine (St.start h).new (cs := tW.cells wd3) fun b1 h1 x1 s1 => ?_
    exact ⟨_, _, rfl, (Sl.of_blk (T := tW) (xs := wd3) rfl rfl).rd s1, x1⟩
  rw [if_neg hk3]
  refine condP (fun hk => ?_) (fun hk4 => ?_)
  · rw [if_pos hk]
    refine (St.start h).new (cs := tW.cells wd4) fun b1 h1 x1 s1 => ?_
    exact ⟨_, _, rfl, (Sl.of_blk (T := tW) (xs := wd4) rfl rfl).rd s1, x1⟩
  rw [if_neg hk4]
  refine condP (fun hk => ?_) (fun hk5 => ?_)
  · rw [if_pos hk]
    refine (St.start h).new (cs := tW.cells wd5) fun b1 h1 x1 s1 => ?_
    exact ⟨_, _, rfl, (Sl.of_blk (T := tW) (xs := wd5) rfl rfl).rd s1, x1⟩
  rw [if_neg hk5]
  refine condP (fun hk => ?_) (fun hk6 => ?_)
  · rw [if_pos hk]
    refine (St.start h).new (cs := tW.cells wd6) fun b1 h1 x1 s1 => ?_
    exact ⟨_, _, rfl, (Sl.of_blk (T := tW) (xs := wd6) rfl rfl).rd s1, x1⟩
  rw [if_neg hk6]
  rw [model_words_b1_eq]
  exact ⟨_, _, rfl, RdT.nil _ _, Ext.refl h⟩
theorem r_words_ok (k : Int) (h : Hp) : HCalls Tryz.prog 41 #[.int .i64 k] h (fun v h' => ∃ p c, v = .slice p (arT k).length c ∧ Ext h h') := by
  refine r03_Words_call ?_
  rw [r03_Words_b0_eq]
  unfold arT
  refine condP (fun hk => ?_) (fun hk1 => ?_)
  · rw [if_pos hk]
    exact New_intro fun b1 h1 _ x1 _ _ => ⟨_, _, rfl, x1⟩
  rw [if_neg hk1]
  refine condP (fun hk => ?_) (fun hk2 => ?_)
  · rw [if_pos hk]
    exact New_intro fun b1 h1 _ x1 _ _ => ⟨_, _, rfl, x1⟩
  rw [if_neg hk2]
  refine condP (fun hk => ?_) (fun hk3 => ?_)
  · rw [if_pos hk]
    exact New_intro fun b1 h1 _ x1 _ _ => ⟨_, _, rfl, x1⟩
  rw [if_neg hk3]
  refine condP (fun hk => ?_) (fun hk4 => ?_)
  · rw [if_pos hk]
    exact New_intro fun b1 h1 _ x1 _ _ => ⟨_, _, rfl, x1⟩
  rw [if_neg hk4]
  refine condP (fun hk => ?_) (fun hk5 => ?_)
  · rw [if_pos hk]
    exact New_intro fun b1 h1 _ x1 _ _ => ⟨_, _, rfl, x1⟩
  rw [if_neg hk5]
  refine condP (fun hk => ?_) (fun hk6 => ?_)
  · rw [if_pos hk]
    exact New_intro fun b1 h1 _ x1 _ _ => ⟨_, _, rfl, x1⟩
  rw [if_neg hk6]
  rw [r03_Words_b1_eq]
  exact ⟨_, _, rfl, Ext.refl h⟩
theorem arity_ok {k c : Int} (h : Hp) (hk : 1 ≤ k ∧ k ≤ 6) (hc : 1 ≤ c ∧ c ≤ (arT k).length) : HCalls Tryz.prog 42 #[.int .i64 k, .int .i64 c] h (fun v h' => v = .int .i64 ((arT k).getD (c - 1).toNat 0) ∧ Ext h h') := by
  refine r03_Arity_call ?_
  rw [r03_Arity_b0_eq]
  have rd : ∀ {xs : List Int} {b : Nat} {h' : Hp}, St h h' (cA b (TI.cells xs) 3 + 0) → (xs.length ≤ 100 ∧ 1 ≤ c ∧ c ≤ (xs.length : Int)) → InR (c - 1) ∧ (0 ≤ c - 1 ∧ c - 1 < ((xs.length : Nat) : Int)) ∧ ∃ n1 : Int, cell h' ((⟨b, 0, none⟩ : Addr).add (Int.toNat (c - 1) * 1)) = some (.int .i64 n1) ∧ (Value.int .i64 n1 = .int .i64 (xs.getD (c - 1).toNat 0) ∧ Ext h h') := by
    intro xs b h' s hc
    have := s.ext
    refine ⟨⟨by omega, by omega⟩, ⟨by omega, by omega⟩, ?_⟩
    obtain ⟨a, ha, hcell⟩ := ((Sl.of_blk (T := TI) (xs := xs) rfl rfl).rd s).at_ (i := (c - 1).toNat) (by omega)
    cases ha
    exact ⟨_, hcell 0 Nat.one_pos, rfl, s.ext⟩
  refine condP (fun e => ?_) (fun hk1 => ?_)
  · subst e
    exact (St.start h).new (cs := TI.cells ar1) fun b1 h1 _ s1 => rd (xs := ar1) s1 ⟨by decide, hc⟩
  refine condP (fun e => ?_) (fun hk2 => ?_)
  · subst e
    exact (St.start h).new (cs := TI.cells ar2) fun b1 h1 _ s1 => rd (xs := ar2) s1 ⟨by decide, hc⟩
  refine condP (fun e => ?_) (fun hk3 => ?_)
  · subst e
    exact (St.start h).new (cs := TI.cells ar3) fun b1 h1 _ s1 => rd (xs := ar3) s1 ⟨by decide, hc⟩
  refine condP (fun e => ?_) (fun hk4 => ?_)
  · subst e
    exact (St.start h).new (cs := TI.cells ar4) fun b1 h1 _ s1 => rd (xs := ar4) s1 ⟨by decide, hc⟩
  refine condP (fun e => ?_) (fun hk5 => ?_)
  · subst e
    exact (St.start h).new (cs := TI.cells ar5) fun b1 h1 _ s1 => rd (xs := ar5) s1 ⟨by decide, hc⟩
  obtain rfl : k = 6 := by omega
  rw [r03_Arity_b1_eq]
  exact (St.start h).new (cs := TI.cells ar6) fun b1 h1 _ s1 => rd (xs := ar6) s1 ⟨by decide, hc⟩
/-- A valid operation of a kind of structure. -/
def OpV (k c : Int) (zs : List Int) : Prop := (1 ≤ c ∧ c ≤ (arT k).length) ∧ (if (arT k).getD (c - 1).toNat 0 < 0 then (1 ≤ zs.length ∧ zs.length ≤ 64) ∧ ∀ z ∈ zs, ChP z else (zs.length : Int) = (arT k).getD (c - 1).toNat 0 ∧ ∀ z ∈ zs, KeyP z)
instance (k c : Int) (zs : List Int) : Decidable (OpV k c zs) := by unfold OpV; infer_instance
end Go.Proofs.YtkdmcdnfakmapaaGreat

/- Layer 3: the two judges of an operation. -/
set_option maxRecDepth 100000
namespace Go.Proofs.YtkdmcdnfakmapaaGreat
open Go Go.Sx
theorem char_ok (z : Int) (h : Hp) : HCalls Tryz.prog 48 #[.int .i64 z] h (fun v h' => v = .bool (decide (ChP z)) ∧ h' = h) := by
  refine model_character_call ?_
  rw [model_character_b0_eq]
  refine condP (fun h1 => ⟨?_, rfl⟩) (fun h1 => ⟨?_, rfl⟩)
  · congr 1; exact decide_eq_decide.2 ⟨fun h2 => ⟨h1, h2⟩, fun h2 => h2.2⟩
  · rw [decide_eq_false (fun h2 => h1 h2.1)]
theorem numb_ok (z : Int) (h : Hp) : HCalls Tryz.prog 52 #[.int .i64 z] h (fun v h' => v = .bool (decide (KeyP z)) ∧ h' = h) := by
  refine model_number_call ?_
  rw [model_number_b0_eq]
  refine condP (fun h1 => ⟨?_, rfl⟩) (fun h1 => ⟨?_, rfl⟩)
  · congr 1; exact decide_eq_decide.2 ⟨fun h2 => ⟨h1, h2⟩, fun h2 => h2.2⟩
  · rw [decide_eq_false (fun h2 => h1 h2.1)]
theorem rkey_ok (z : Int) (h : Hp) : HCalls Tryz.prog 43 #[.int .i64 z] h (fun v h' => v = .bool (decide (KeyP z)) ∧ h' = h) := by
  refine r03_key_call ?_
  rw [r03_key_b0_eq]
  refine condP (fun h1 => ⟨?_, rfl⟩) (fun h1 => ⟨?_, rfl⟩)
  · congr 1; exact decide_eq_decide.2 ⟨fun h2 => ⟨h1, h2⟩, fun h2 => h2.2⟩
  · rw [decide_eq_false (fun h2 => h1 h2.1)]
theorem char_x (z : Int) (h : Hp) (K : Value → Hp → Prop) (hk : K (.bool (!decide (ChP z))) h) : callX Tryz.prog F 50 #[.int .i64 z] h K := by
  refine callX_of (by kernel_rfl) (model_ValidOp_c1_call ?_)
  rw [model_ValidOp_c1_b0_eq]
  exact (char_ok z h).mono fun v h' ⟨hv, hh⟩ => ⟨_, hv, by rw [hh]; exact hk⟩
theorem numb_x (z : Int) (h : Hp) (K : Value → Hp → Prop) (hk : K (.bool (!decide (KeyP z))) h) : callX Tryz.prog F 51 #[.int .i64 z] h K := by
  refine callX_of (by kernel_rfl) (model_ValidOp_c2_call ?_)
  rw [model_ValidOp_c2_b0_eq]
  exact (numb_ok z h).mono fun v h' ⟨hv, hh⟩ => ⟨_, hv, by rw [hh]; exact hk⟩
theorem any_not {P : Int → Prop} [DecidablePred P] {zs : List Int} : (!zs.any fun z => !decide (P z)) = decide (∀ z ∈ zs, P z) := by
  induction zs with
  | nil => rfl
  | cons z zs ih =>
    rw [List.any_cons, Bool.not_or, ih, Bool.not_not]
    by_cases h1 : P z <;> by_cases h2 : ∀ z ∈ zs, P z <;> simp [h1, h2]
theorem word_load {h : Hp} {p : Option Addr} {n : Nat} {l : List W3} {i : Int} {Q : ByteArray → Int → Bool → Prop} (r : RdT tW h p n l) (h0 : 0 ≤ i) (h1 : i < n) (hq : Q (l.getD i.toNat tW.d).1 (l.getD i.toNat tW.d).2.1 (l.getD i.toNat tW.d).2.2) :
    (0 ≤ i ∧ i < (n : Int)) ∧ NN p fun a => ∃ x : ByteArray, ∃ y : Int, ∃ z : Bool, cell h (a.add (Int.toNat i * 3)) = some (.string x) ∧ cell h ((a.add (Int.toNat i * 3)).add 1) = some (.int .i64 y) ∧ cell h ((a.add (Int.toNat i * 3)).add 2) = some (.bool z) ∧ Q x y z :=
  r.idx h0 h1 fun _ _ hc => ⟨_, _, _, hc 0 (show 0 < 3 by decide), hc 1 (show 1 < 3 by decide), hc 2 (show 2 < 3 by decide), hq⟩
theorem wd_len (k : Int) : (wdT k).length = (arT k).length := by rw [← wd_ar, List.length_map]
theorem wd_get (k : Int) (i : Nat) : ((wdT k).getD i tW.d).2.1 = (arT k).getD i 0 := by
  rw [← wd_ar]
  simp only [List.getD, List.getElem?_map]
  cases (wdT k)[i]? <;> rfl
theorem arT_le (k : Int) (j : Nat) : (arT k).getD j 0 ≤ 4 := by
  have h : ∀ x ∈ arT k, x ≤ 4 := by
    unfold arT
    repeat' split
    all_goals decide
  rw [List.getD_eq_getElem?_getD]
  cases hj : (arT k)[j]? with
  | none => simp
  | some x => exact h x (List.mem_of_getElem? hj)
theorem mValid' {k c : Int} {zs : List Int} {h : Hp} {p : Option Addr} {n cc : Nat} (r : RdT TI h p n zs) :
    HCalls Tryz.prog 25 #[.int .i64 k, .agg #[.int .i64 c, .slice p n cc]] h (fun v h' => v = .bool (decide (OpV k c zs)) ∧ Ext h h') := by
  have hzl := r.len
  refine model_ValidOp_call ?_
  rw [model_ValidOp_b0_eq]
  refine (St.start h).new (cs := [.int .i64 c, .slice p n cc]) fun b1 h1 x1 s1 => ?_
  refine (words_ok k h1).mono fun v1 h2 ⟨q, d, hv1, rw1, x2⟩ => ⟨_, _, _, hv1, ?_⟩
  have s2 := s1.grow x2
  have kb := s2.blk
  have hx2 : Ext h h2 := x1.trans x2
  have hwl := wd_len k
  refine ⟨_, kb.cell 0, condP (fun hc => ?_) (fun hc => ⟨_, kb.cell 0, condP (fun hc2 => ?_) (fun hc2 => ?_)⟩)⟩
  · exact ⟨by rw [decide_eq_false (fun h => by have := h.1; omega)], hx2⟩
  · exact ⟨by rw [decide_eq_false (fun h => by have := h.1; omega)], hx2⟩
  have hlen8 : (arT k).length ≤ 8 := by unfold arT; repeat' split
                                        all_goals decide
  rw [model_ValidOp_b1_eq]
  refine ⟨_, kb.cell 0, ⟨by omega, by omega⟩, word_load rw1 (by omega) (by omega) ?_⟩
  rw [wd_get]
  generalize ha : (arT k).getD (c - 1).toNat 0 = a
  refine s2.new (cs := [.string ⟨#[]⟩, .int .i64 0, .bool false]) fun b3 h3 _ s3 => ?_
  refine s3.wr rfl (by simp) fun h4 s4 => ?_
  refine s4.wr (o := 1) (add_mk _ _ _) (by simp) fun h5 s5 => ?_
  refine s5.wr (o := 2) (add_mk _ _ _) (by simp) fun h6 s6 => ?_
  have x6 : Ext h h6 := s6.ext
  have kb6 := s6.drop.blk
  have r6 := r.ext x6
  refine ⟨_, Blk.cellA s6.blk 1, condP (fun hneg => ?_) (fun hneg => ?_)⟩
  · have hiff : OpV k c zs ↔ (1 ≤ zs.length ∧ zs.length ≤ 64) ∧ ∀ z ∈ zs, ChP z := by
      unfold OpV
      rw [ha, if_pos hneg]
      exact ⟨fun h => h.2, fun h => ⟨⟨by omega, by omega⟩, h⟩⟩
    refine ⟨_, _, _, Blk.cellA kb6 1, condP (fun h1 => ?_) (fun h1 => ?_)⟩
    · refine ⟨_, _, _, Blk.cellA kb6 1, condP (fun h2 => ?_) (fun h2 => ?_)⟩
      · refine ⟨_, _, _, Blk.cellA kb6 1, (int_index_ok char_x r6 (by omega)).mono fun v2 h7 ⟨hh7, hv2⟩ => ⟨_, hv2, ?_, ?_⟩⟩
        · rw [any_not]
          congr 1
          exact decide_eq_decide.2 (by rw [hiff]; exact ⟨fun h => ⟨⟨by omega, by omega⟩, h⟩, fun h => h.2⟩)
        · rw [hh7]; exact x6
      · exact ⟨by rw [decide_eq_false (fun h => by have := (hiff.1 h).1; omega)], x6⟩
    · exact ⟨by rw [decide_eq_false (fun h => by have := (hiff.1 h).1; omega)], x6⟩
  · have hiff : OpV k c zs ↔ (zs.length : Int) = a ∧ ∀ z ∈ zs, KeyP z := by
      unfold OpV
      rw [ha, if_neg hneg]
      exact ⟨fun h => h.2, fun h => ⟨⟨by omega, by omega⟩, h⟩⟩
    refine ⟨_, _, _, Blk.cellA kb6 1, _, Blk.cellA s6.blk 1, condP (fun h1 => ?_) (fun h1 => ?_)⟩
    · refine ⟨_, _, _, Blk.cellA kb6 1, (int_index_ok numb_x r6 (by have := arT_le k (c - 1).toNat; omega)).mono fun v2 h7 ⟨hh7, hv2⟩ => ⟨_, hv2, ?_, ?_⟩⟩
      · rw [any_not]
        congr 1
        exact decide_eq_decide.2 (by rw [hiff]; exact ⟨fun h => ⟨by omega, h⟩, fun h => h.2⟩)
      · rw [hh7]; exact x6
    · exact ⟨by rw [decide_eq_false (fun h => by have := (hiff.1 h).1; omega)], x6⟩
theorem mValid_ok {k c : Int} {zs : List Int} {h : Hp} {p : Option Addr} {n cc : Nat} (r : RdT TI h p n zs) (_ : n ≤ 1000000) :
    HCalls Tryz.prog 25 #[.int .i64 k, .agg #[.int .i64 c, .slice p n cc]] h (fun v h' => v = .bool (decide (OpV k c zs)) ∧ Ext h h') := mValid' r
theorem arT_fact {k c : Int} (hk : 1 ≤ k ∧ k ≤ 6) (hc : 1 ≤ c ∧ c ≤ (arT k).length) : (k = 6 → (arT k).getD (c - 1).toNat 0 ≤ 0) ∧ (k ≠ 6 → 0 ≤ (arT k).getD (c - 1).toNat 0) ∧ (arT k).getD (c - 1).toNat 0 ≤ 4 := by
  have hlen8 : (arT k).length ≤ 8 := by unfold arT; repeat' split
                                        all_goals decide
  generalize hj : (c - 1).toNat = j
  have hj8 : j < 8 := by omega
  have hk' : k = 1 ∨ k = 2 ∨ k = 3 ∨ k = 4 ∨ k = 5 ∨ k = 6 := by omega
  rcases hk' with rfl | rfl | rfl | rfl | rfl | rfl
  · exact ⟨fun h => by omega, fun _ => (by decide : ∀ j < 8, 0 ≤ (arT 1).getD j 0) j hj8, (by decide : ∀ j < 8, (arT 1).getD j 0 ≤ 4) j hj8⟩
  · exact ⟨fun h => by omega, fun _ => (by decide : ∀ j < 8, 0 ≤ (arT 2).getD j 0) j hj8, (by decide : ∀ j < 8, (arT 2).getD j 0 ≤ 4) j hj8⟩
  · exact ⟨fun h => by omega, fun _ => (by decide : ∀ j < 8, 0 ≤ (arT 3).getD j 0) j hj8, (by decide : ∀ j < 8, (arT 3).getD j 0 ≤ 4) j hj8⟩
  · exact ⟨fun h => by omega, fun _ => (by decide : ∀ j < 8, 0 ≤ (arT 4).getD j 0) j hj8, (by decide : ∀ j < 8, (arT 4).getD j 0 ≤ 4) j hj8⟩
  · exact ⟨fun h => by omega, fun _ => (by decide : ∀ j < 8, 0 ≤ (arT 5).getD j 0) j hj8, (by decide : ∀ j < 8, (arT 5).getD j 0 ≤ 4) j hj8⟩
  · exact ⟨fun _ => (by decide : ∀ j < 8, (arT 6).getD j 0 ≤ 0) j hj8, fun h => absurd rfl h, (by decide : ∀ j < 8, (arT 6).getD j 0 ≤ 4) j hj8⟩
theorem rValid' {k c : Int} {zs : List Int} {h : Hp} {p : Option Addr} {n cc : Nat} (r : RdT TI h p n zs) :
    HCalls Tryz.prog 20 #[.int .i64 k, .agg #[.int .i64 c, .slice p n cc]] h (fun v h' => v = .bool (decide (OpV k c zs)) ∧ Ext h h') := by
  have hzl := r.len
  refine r03_ValidOp_call ?_
  rw [r03_ValidOp_b0_eq]
  refine (St.start h).new (cs := [.int .i64 c, .slice p n cc]) fun b1 h1 x1 s1 => ?_
  have kb := s1.blk
  have out : ¬ (1 ≤ k ∧ k ≤ 6) → ¬ OpV k c zs := by
    intro hk ⟨h, _⟩
    have : arT k = [] := by unfold arT; rw [if_neg (by omega), if_neg (by omega), if_neg (by omega), if_neg (by omega), if_neg (by omega), if_neg (by omega)]
    rw [this] at h
    simp at h
    omega
  refine condP (fun h2 => ?_) (fun h2 => condP (fun h3 => ?_) (fun h3 => ?_))
  · exact ⟨by rw [decide_eq_false (out (by omega))], x1⟩
  · exact ⟨by rw [decide_eq_false (out (by omega))], x1⟩
  clear out
  refine ⟨_, kb.cell 0, condP (fun hc => ?_) (fun hc => ⟨_, kb.cell 0, ?_⟩)⟩
  · exact ⟨by rw [decide_eq_false (fun h => by have := h.1; omega)], x1⟩
  refine (r_words_ok k h1).mono fun v1 h4 ⟨q, d, hv1, x4⟩ => ⟨_, _, _, hv1, ?_⟩
  have s4 := s1.grow x4
  have kb := s4.blk
  have hx4 : Ext h h4 := x1.trans x4
  refine ⟨⟨_, kb.cell 0, rfl⟩, condP (fun hc2 => ?_) (fun hc2 => ?_)⟩
  · exact ⟨by rw [decide_eq_false (fun h => by have := h.1; omega)], hx4⟩
  obtain ⟨f1, f2, f3⟩ := arT_fact (k := k) (c := c) (by omega) (by omega)
  have f4 : ∀ z ∈ zs, ChP z → KeyP z := fun z _ hz => ⟨by omega, by omega⟩
  have hiff : OpV k c zs ↔ zs.length ≤ 64 ∧ (0 ≤ (arT k).getD (c - 1).toNat 0 → (zs.length : Int) = (arT k).getD (c - 1).toNat 0) ∧ ((arT k).getD (c - 1).toNat 0 < 0 → zs.length ≠ 0) ∧ ∀ z ∈ zs, KeyP z ∧ (k = 6 → ChP z) := by
    unfold OpV
    by_cases hneg : (arT k).getD (c - 1).toNat 0 < 0
    · rw [if_pos hneg]
      have hk6 : k = 6 := by
        rcases Decidable.em (k = 6) with h | h
        · exact h
        · have := f2 h; omega
      refine ⟨fun h => ⟨h.2.1.2, fun h' => by omega, fun _ h' => by have := h.2.1.1; omega, fun z hz => ⟨f4 z hz (h.2.2 z hz), fun _ => h.2.2 z hz⟩⟩, fun h => ⟨⟨by omega, by omega⟩, ⟨by have := h.2.2.1 hneg; omega, h.1⟩, fun z hz => (h.2.2.2 z hz).2 hk6⟩⟩
    · rw [if_neg hneg]
      refine ⟨fun h => ⟨by have := h.2.1; omega, fun _ => h.2.1, fun h' => absurd h' hneg, fun z hz => ⟨h.2.2 z hz, fun hk6 => ?_⟩⟩, fun h => ⟨⟨by omega, by omega⟩, h.2.1 (by omega), fun z hz => (h.2.2.2 z hz).1⟩⟩
      have h1 := f1 hk6
      have h2 := h.2.1
      have : zs = [] := List.eq_nil_of_length_eq_zero (by omega)
      subst this
      cases hz
  refine ⟨_, _, _, Blk.cellA kb 1, condP (fun hl => ?_) (fun hl => ?_)⟩
  · exact ⟨by rw [decide_eq_false (fun h => by have := (hiff.1 h).1; omega)], hx4⟩
  rw [r03_ValidOp_b1_eq]
  refine ⟨_, kb.cell 0, ?_⟩
  refine (arity_ok h4 (by omega) (by omega)).mono fun v2 h5 ⟨hv2, x5⟩ => ⟨_, hv2, ?_⟩
  have s5 := s4.grow x5
  have kb := s5.blk
  have x5 : Ext h h5 := hx4.trans x5
  generalize (arT k).getD (c - 1).toNat 0 = a at f1 f2 f3 hiff
  have loop : (0 ≤ a → (zs.length : Int) = a) → (a < 0 → zs.length ≠ 0) → r03_ValidOp_b2 k (some ⟨b1, 0, none⟩) h5 fun v h' => v = .bool (decide (OpV k c zs)) ∧ Ext h h' := by
    intro g1 g2
    rw [r03_ValidOp_b2_eq]
    refine ⟨fun s h' => h' = h5 ∧ ∃ i : Nat, s.1 = i ∧ i ≤ n ∧ ∀ z ∈ zs.take i, KeyP z ∧ (k = 6 → ChP z), fun s _ => n - s.1.toNat, ⟨rfl, 0, rfl, by omega, by simp⟩, ?_⟩
    rintro ⟨_, _⟩ h6 ⟨rfl, i, rfl, hin, hall⟩
    dsimp only
    rw [r03_ValidOp_b3_eq]
    have r6 := r.ext x5
    refine ⟨_, _, _, Blk.cellA kb 1, condP (fun hlt => ?_) (fun hge => ?_)⟩
    · have hil : i < zs.length := by omega
      have hg : zs.getD i 0 = zs[i] := by simp [List.getD, hil]
      have hm : zs.getD i 0 ∈ zs := by rw [hg]; exact List.getElem_mem hil
      refine ⟨_, _, _, Blk.cellA kb 1, r6.int (by omega) (by omega) ?_⟩
      rw [Int.toNat_natCast]
      refine (rkey_ok _ h6).mono fun v3 h7 ⟨hv3, hh7⟩ => ⟨_, hv3, ?_⟩
      subst hh7
      refine condN (fun hno => ?_) (fun hyes => ?_)
      · exact ⟨by rw [decide_eq_false (fun h => hno ((hiff.1 h).2.2.2 _ hm).1)], x5⟩
      have next : (k = 6 → ChP (zs.getD i 0)) → r03_ValidOp_b4 k (some ⟨b1, 0, none⟩) (i : Int) h7 (fun s' h' => (h' = h7 ∧ ∃ i : Nat, s'.1 = i ∧ i ≤ n ∧ ∀ z ∈ zs.take i, KeyP z ∧ (k = 6 → ChP z)) ∧ n - s'.1.toNat < n - Int.toNat (i : Int)) (fun v h' => v = .bool (decide (OpV k c zs)) ∧ Ext h h') := by
        intro hch
        rw [r03_ValidOp_b4_eq]
        refine ⟨⟨by omega, by omega⟩, ⟨rfl, i + 1, by simp only; omega, by omega, fun z hz => ?_⟩, by simp only; omega⟩
        rw [List.take_succ_eq_append_getElem hil, List.mem_append, List.mem_singleton, ← hg] at hz
        rcases hz with hz | rfl
        · exact hall z hz
        · exact ⟨hyes, hch⟩
      refine condP (fun hk6 => ?_) (fun hk6 => next fun h => absurd h hk6)
      refine ⟨_, _, _, Blk.cellA kb 1, r6.int (by omega) (by omega) ?_⟩
      rw [Int.toNat_natCast]
      refine condP (fun hlow => ?_) (fun hlow => ?_)
      · exact ⟨by rw [decide_eq_false (fun h => by have := ((hiff.1 h).2.2.2 _ hm).2 hk6; omega)], x5⟩
      refine ⟨_, _, _, Blk.cellA kb 1, r6.int (by omega) (by omega) ?_⟩
      rw [Int.toNat_natCast]
      refine condP (fun hhi => ?_) (fun hhi => next fun _ => ⟨by omega, by omega⟩)
      exact ⟨by rw [decide_eq_false (fun h => by have := ((hiff.1 h).2.2.2 _ hm).2 hk6; omega)], x5⟩
    · rw [r03_ValidOp_b5_eq]
      rw [List.take_of_length_le (by omega)] at hall
      exact ⟨by rw [decide_eq_true (hiff.2 ⟨by omega, g1, g2, hall⟩)], x5⟩
  refine condP (fun ha => ?_) (fun ha => ?_)
  · refine ⟨_, _, _, Blk.cellA kb 1, condN (fun hne => ?_) (fun he => ?_)⟩
    · exact ⟨by rw [decide_eq_false (fun h => by have := (hiff.1 h).2.1; omega)], x5⟩
    · exact condNo (decide_eq_false (by omega)) (loop (fun _ => by omega) (fun h => by omega))
  · refine condP (fun hneg => ?_) (fun hneg => by omega)
    refine ⟨_, _, _, Blk.cellA kb 1, condP (fun h0 => ?_) (fun h0 => ?_)⟩
    · exact ⟨by rw [decide_eq_false (fun h => by have := (hiff.1 h).2.2.1 hneg; omega)], x5⟩
    · exact loop (fun h => by omega) (fun _ => by omega)
theorem rValid_ok {k c : Int} {zs : List Int} {h : Hp} {p : Option Addr} {n cc : Nat} (r : RdT TI h p n zs) (_ : n ≤ 1000000) :
    HCalls Tryz.prog 20 #[.int .i64 k, .agg #[.int .i64 c, .slice p n cc]] h (fun v h' => v = .bool (decide (OpV k c zs)) ∧ Ext h h') := rValid' r
end Go.Proofs.YtkdmcdnfakmapaaGreat

/- Layer 3: states, rows, the reference's small functions. -/
set_option maxRecDepth 100000
namespace Go.Proofs.YtkdmcdnfakmapaaGreat
open Go Go.Sx
abbrev RowP (s : SH) (l : List Int) (A : Bag) : Prop := Sl TI s.1 s.2.1 s.2.2 l A
abbrev RowsA : SH → List (List Int) → Bag → Prop := Nest 37 RowP
abbrev TR : Ty SH := tS 37
theorem ok_row : ElOk TR Tryz.prog 29 := elB_spec (by kernel_rfl)
/-- 'out = append(out, x)' of a slice x, with something read between. -/
theorem push_nestR {h0 h : Hp} {p : Option Addr} {n c : Nat} {q : Option Addr} {m d : Nat} {xs : List (List Int)} {x : List Int} {A B G : Bag} {R : Hp → Prop} {e' : TypeId} {k : Option Addr → Nat → Nat → Hp → Prop}
    (s : St h0 h (A + (B + G))) (a : RowsA (p, n, c) xs A) (b : RowP (q, m, d) x B) (he : e' = 37) (hn : n + 1 < 1073741824) (hR : ∀ h1, Ext h h1 → R h1)
    (hk : ∀ p' c' h' A', RowsA (p', n + 1, c') (xs ++ [x]) A' → St h0 h' (A' + G) → k p' (n + 1) c' h') :
    New h (.cells #[.slice q m d] e') fun b h1 => R h1 ∧ appendV Tryz.prog 29 29 (.slice p n c) (.slice (some ⟨b, 0, none⟩) 1 1) h1 (slK k) := by
  subst he
  obtain ⟨hs, B0, B1, rfl, h1, h2⟩ := a
  refine s.new (cs := [.slice q m d]) fun b h3 x3 s3 => ⟨hR h3 x3, ?_⟩
  have sx : Sl TR (some ⟨b, 0, none⟩) 1 1 [(q, m, d)] (cA b [.slice q m d] 37) := Sl.of_blk (T := TR) (xs := [(q, m, d)]) rfl rfl
  refine append_sl ok_row (s3.to (B := B0 + (cA b [.slice q m d] 37 + (B1 + (B + G))))) h1 (sx.rd s3) hn fun p' c' h' A' a' s' => ?_
  have s5 := (s'.to (B := cA b [.slice q m d] 37 + (A' + (B1 + B) + G))).drop
  exact hk p' c' h' (A' + (B1 + B)) ⟨hs ++ [(q, m, d)], A', B1 + B, rfl, a', h2.append (AllH.one ‹RowP (q, m, d) x B›)⟩ s5
theorem rows_len {s : SH} {xs : List (List Int)} {B : Bag} (n : RowsA s xs B) : xs.length = s.2.1 := Nest.len n
/-- An entry of a row is read. -/
theorem rows_get {h0 h : Hp} {p : Option Addr} {n c : Nat} {rows : List (List Int)} {B G : Bag} {i j : Int} {Q : Int → Prop} (na : RowsA (p, n, c) rows B) (st : St h0 h (B + G)) (hi0 : 0 ≤ i) (hi : i < n) (hj0 : 0 ≤ j) (hj : j < (rows.getD i.toNat []).length)
    (hq : Q ((rows.getD i.toNat []).getD j.toNat 0)) : (0 ≤ i ∧ i < (n : Int)) ∧ NN p fun a => ∃ (a8 : Option Addr) (L5 C5 : Nat), cell h (a.add (i.toNat * 1)) = some (.slice a8 L5 C5) ∧ (0 ≤ j ∧ j < (L5 : Int)) ∧ NN a8 fun a9 => ∃ n4 : Int, cell h (a9.add (j.toNat * 1)) = some (.int .i64 n4) ∧ Q n4 := by
  refine Nest.at_ (d := []) na st hi0 hi fun q l d Bi Br o hB => ?_
  have o : Sl TI q l d (rows.getD i.toNat []) Bi := o
  have hl := o.len
  have st2 : St h0 h (Bi + (Br + G)) := by rw [hB] at st; exact st.to
  exact (o.rd st2).int hj0 (by omega) hq
/-- The rows' lists, in two parts. -/
theorem AllH.cut {hs : List SH} {rows : List (List Int)} {A : Bag} (h : AllH RowP hs rows A) (i : Nat) : ∃ A1 A2, A = A1 + A2 ∧ AllH RowP (hs.take i) (rows.take i) A1 ∧ AllH RowP (hs.drop i) (rows.drop i) A2 := by
  have hl := h.len
  refine AllH.split (hs.take i) (rows.take i) (by rw [List.length_take, List.length_take, hl]) ?_
  rw [List.take_append_drop, List.take_append_drop]
  exact h
theorem same_ok {a b c d : Int} {p q : Option Addr} {n m k l : Nat} {xs ys : List Int} {h : Hp} (r1 : RdT TI h p n xs) (r2 : RdT TI h q m ys) (hn : n ≤ 1000000) :
    HCalls Tryz.prog 10 #[.agg #[.int .i64 a, .int .i64 b, .slice p n k], .agg #[.int .i64 c, .int .i64 d, .slice q m l]] h (fun v h' => Ext h h' ∧ v = .bool (decide ((a, b, xs) = (c, d, ys)))) := by
  refine r03_SameRes_call ?_
  rw [r03_SameRes_b0_eq]
  refine (St.start h).new (cs := [.int .i64 a, .int .i64 b, .slice p n k]) fun b1 h1 _ s1 => ?_
  refine s1.new (cs := [.int .i64 c, .int .i64 d, .slice q m l]) fun b2 h2 _ s2 => ?_
  have k2 := s2.blk
  have k1 := s2.atomBlk
  refine ⟨_, k1.cell 0, _, k2.cell 0, condP (fun e1 => ?_) (fun e1 => ⟨s2.ext, ?_⟩)⟩
  · refine ⟨_, Blk.cellA k1 1, _, Blk.cellA k2 1, condP (fun e2 => ?_) (fun e2 => ⟨s2.ext, ?_⟩)⟩
    · refine ⟨_, _, _, Blk.cellA k1 2, _, _, _, Blk.cellA k2 2, ?_⟩
      refine (SameList_ok (r1.ext s2.ext) (r2.ext s2.ext) (by omega)).mono fun v h3 ⟨hh, hv⟩ => ⟨_, hv, by rw [hh]; exact s2.ext, ?_⟩
      congr 1
      exact decide_eq_decide.2 ⟨fun h => by rw [e1, e2, h], fun h => by simpa using (Prod.mk.inj (Prod.mk.inj h).2).2⟩
    · rw [decide_eq_false (fun h => e2 (Prod.mk.inj (Prod.mk.inj h).2).1)]
  · rw [decide_eq_false (fun h => e1 (Prod.mk.inj h).1)]
end Go.Proofs.YtkdmcdnfakmapaaGreat

/- Layer 3: the reference's dictionary. -/
set_option maxRecDepth 100000
namespace Go.Proofs.YtkdmcdnfakmapaaGreat
open Go Go.Sx
abbrev row2 (e : E) : List Int := [e.1, e.2]
/-- What a step leaves: a state and a result. -/
def StepP (h0 : Hp) (G : Bag) (k : Int) (rows : List (List Int)) (e z : Int) (v : Value) (h' : Hp) : Prop :=
  ∃ q m d B', v = .tuple #[.agg #[.int .i64 k, .slice q m d], .agg #[.int .i64 e, .int .i64 z, .slice none 0 0]] ∧ RowsA (q, m, d) rows B' ∧ St h0 h' (B' + G)
/-- Two boxes are written, read and handed back. -/
theorem boxW {h0 h : Hp} {b3 b4 : Nat} {x0 x1 y0 y1 y2 : Value} {D B G : Bag} {p : Option Addr} {n c : Nat} {k e z : Int} {rows : List (List Int)} (na : RowsA (p, n, c) rows B)
    (s : St h0 h (cA b3 [x0, x1] 31 + (cA b4 [y0, y1, y2] 41 + (D + (B + G))))) :
    Wr h ⟨b3, 0, none⟩ (.int .i64 k) fun h6 => Wr h6 ((⟨b3, 0, none⟩ : Addr).add 1) (.slice p n c) fun h7 => Wr h7 ⟨b4, 0, none⟩ (.int .i64 e) fun h8 => Wr h8 ((⟨b4, 0, none⟩ : Addr).add 1) (.int .i64 z) fun h9 => Wr h9 ((⟨b4, 0, none⟩ : Addr).add 2) (.slice none 0 0) fun h10 =>
      ∃ r6 : Int, ∃ (r7 : Option Addr) (rL3 rC3 : Nat), cell h10 ⟨b3, 0, none⟩ = some (.int .i64 r6) ∧ cell h10 ((⟨b3, 0, none⟩ : Addr).add 1) = some (.slice r7 rL3 rC3) ∧
      ∃ r8 : Int, ∃ r9 : Int, ∃ (r10 : Option Addr) (rL4 rC4 : Nat), cell h10 ⟨b4, 0, none⟩ = some (.int .i64 r8) ∧ cell h10 ((⟨b4, 0, none⟩ : Addr).add 1) = some (.int .i64 r9) ∧ cell h10 ((⟨b4, 0, none⟩ : Addr).add 2) = some (.slice r10 rL4 rC4) ∧
      StepP h0 G k rows e z (.tuple #[.agg #[.int .i64 r6, .slice r7 rL3 rC3], .agg #[.int .i64 r8, .int .i64 r9, .slice r10 rL4 rC4]]) h10 := by
  refine s.wr rfl (by simp) fun h6 s6 => ?_
  refine s6.wr (o := 1) (add_mk _ _ _) (by simp) fun h7 s7 => ?_
  have s7 : St h0 h7 (cA b3 [.int .i64 k, .slice p n c] 31 + (cA b4 [y0, y1, y2] 41 + (D + (B + G)))) := s7
  have s7 := s7.to (B := cA b4 [y0, y1, y2] 41 + (cA b3 [.int .i64 k, .slice p n c] 31 + (D + (B + G))))
  refine s7.wr rfl (by simp) fun h8 s8 => ?_
  refine s8.wr (o := 1) (add_mk _ _ _) (by simp) fun h9 s9 => ?_
  refine s9.wr (o := 2) (add_mk _ _ _) (by simp) fun h10 s10 => ?_
  have kb := s10.atomBlk
  refine ⟨_, _, _, _, kb.cell 0, Blk.cellA kb 1, _, _, _, _, _, s10.blk.cell 0, Blk.cellA s10.blk 1, Blk.cellA s10.blk 2, p, n, c, B, rfl, na, ?_⟩
  have s10 : St h0 h10 (cA b4 [.int .i64 e, .int .i64 z, .slice none 0 0] 41 + (cA b3 [.int .i64 k, .slice p n c] 31 + (D + (B + G)))) := s10
  exact (s10.to (B := (cA b4 [.int .i64 e, .int .i64 z, .slice none 0 0] 41 + cA b3 [.int .i64 k, .slice p n c] 31 + D) + (B + G))).drop
/-- The end of a step: yield or fail, and the boxes. -/
theorem boxT {g : Nat} {args : Array Value} {h0 h : Hp} {b3 b4 : Nat} {x0 x1 y0 y1 y2 : Value} {D B G : Bag} {p : Option Addr} {n c : Nat} {k e z : Int} {rows : List (List Int)} (na : RowsA (p, n, c) rows B)
    (s : St h0 h (cA b3 [x0, x1] 31 + (cA b4 [y0, y1, y2] 41 + (D + (B + G)))))
    (hc : HCalls Tryz.prog g args h (fun v h' => v = .tuple #[.agg #[.int .i64 k, .slice p n c], .agg #[.int .i64 e, .int .i64 z, .slice none 0 0]] ∧ Ext h h')) :
    HCalls Tryz.prog g args h fun v1 h5 => ∃ r1 : Int, ∃ (r2 : Option Addr) (rL1 rC1 : Nat), ∃ r3 : Int, ∃ r4 : Int, ∃ (r5 : Option Addr) (rL2 rC2 : Nat), v1 = .tuple #[.agg #[.int .i64 r1, .slice r2 rL1 rC1], .agg #[.int .i64 r3, .int .i64 r4, .slice r5 rL2 rC2]] ∧
      Wr h5 ⟨b3, 0, none⟩ (.int .i64 r1) fun h6 => Wr h6 ((⟨b3, 0, none⟩ : Addr).add 1) (.slice r2 rL1 rC1) fun h7 => Wr h7 ⟨b4, 0, none⟩ (.int .i64 r3) fun h8 => Wr h8 ((⟨b4, 0, none⟩ : Addr).add 1) (.int .i64 r4) fun h9 => Wr h9 ((⟨b4, 0, none⟩ : Addr).add 2) (.slice r5 rL2 rC2) fun h10 =>
      ∃ r6 : Int, ∃ (r7 : Option Addr) (rL3 rC3 : Nat), cell h10 ⟨b3, 0, none⟩ = some (.int .i64 r6) ∧ cell h10 ((⟨b3, 0, none⟩ : Addr).add 1) = some (.slice r7 rL3 rC3) ∧
      ∃ r8 : Int, ∃ r9 : Int, ∃ (r10 : Option Addr) (rL4 rC4 : Nat), cell h10 ⟨b4, 0, none⟩ = some (.int .i64 r8) ∧ cell h10 ((⟨b4, 0, none⟩ : Addr).add 1) = some (.int .i64 r9) ∧ cell h10 ((⟨b4, 0, none⟩ : Addr).add 2) = some (.slice r10 rL4 rC4) ∧
      StepP h0 G k rows e z (.tuple #[.agg #[.int .i64 r6, .slice r7 rL3 rC3], .agg #[.int .i64 r8, .int .i64 r9, .slice r10 rL4 rC4]]) h10 :=
  hc.mono fun _ _ ⟨hv, x⟩ => ⟨_, _, _, _, _, _, _, _, _, hv, boxW na (s.grow x)⟩
theorem AllH.edit : ∀ {hs : List SH} {xs : List (List Int)} {A : Bag} {i : Nat}, AllH RowP hs xs A → i < hs.length → ∃ Ai Br, A = Ai + Br ∧ RowP (hs.getD i (none, 0, 0)) (xs.getD i []) Ai ∧ ∀ y A', RowP (hs.getD i (none, 0, 0)) y A' → AllH RowP hs (xs.set i y) (A' + Br)
  | [], _, _, _, _, h => by simp at h
  | _ :: _, [], _, _, h, _ => h.elim
  | b :: bs, t :: ts, _, 0, ⟨A1, A2, e, h1, h2⟩, _ => ⟨A1, A2, e, h1, fun y A' hy => ⟨A', A2, rfl, hy, h2⟩⟩
  | b :: bs, t :: ts, _, i + 1, ⟨A1, A2, e, h1, h2⟩, hi => by
    obtain ⟨Ai, Br, e2, h3, h4⟩ := AllH.edit h2 (i := i) (by simpa using hi)
    refine ⟨Ai, A1 + Br, by rw [e, e2]; ac_rfl, by simpa using h3, fun y A' hy => ?_⟩
    exact ⟨A1, A' + Br, by ac_rfl, h1, h4 y A' (by simpa using hy)⟩
/-- A row is reached, to be written. -/
theorem rows_edit {h0 h : Hp} {p : Option Addr} {n c : Nat} {rows : List (List Int)} {B G : Bag} {i : Int} {Q : Option Addr → Nat → Nat → Prop} (na : RowsA (p, n, c) rows B) (st : St h0 h (B + G)) (hi0 : 0 ≤ i) (hi : i < n)
    (hq : ∀ q l d Bi Br, Sl TI q l d (rows.getD i.toNat []) Bi → B = Bi + Br → (∀ y Bi', Sl TI q l d y Bi' → RowsA (p, n, c) (rows.set i.toNat y) (Bi' + Br)) → Q q l d) :
    (0 ≤ i ∧ i < (n : Int)) ∧ NN p fun a => ∃ (q : Option Addr) (l d : Nat), cell h (a.add (i.toNat * 1)) = some (.slice q l d) ∧ Q q l d := by
  obtain ⟨hs, B0, B1, rfl, h1, h2⟩ := na
  have r := h1.rd (st.to (B := B0 + (B1 + G)))
  refine r.idx hi0 hi fun a _ hc => ?_
  have hl : hs.length = n := h1.len
  obtain ⟨Bi, Br, hB, hp, hset⟩ := AllH.edit h2 (i := i.toNat) (by omega)
  refine ⟨_, _, _, hc 0 Nat.one_pos, hq _ _ _ Bi (B0 + Br) hp (by rw [hB]; ac_rfl) fun y Bi' hy => ?_⟩
  exact ⟨hs, B0, Bi' + Br, by ac_rfl, h1, hset y Bi' hy⟩
theorem row2_get {l : List E} {i : Nat} (h : i < l.length) : (l.map row2).getD i [] = row2 (l.getD i (0, 0)) := by
  simp [List.getD, h]
theorem e_key {h0 h : Hp} {p : Option Addr} {n c : Nat} {l : List E} {B G : Bag} {i : Int} {Q : Int → Prop} (na : RowsA (p, n, c) (l.map row2) B) (st : St h0 h (B + G)) (hi0 : 0 ≤ i) (hi : i < n) (hq : Q (l.getD i.toNat (0, 0)).1) :
    (0 ≤ i ∧ i < (n : Int)) ∧ NN p fun a => ∃ (a8 : Option Addr) (L5 C5 : Nat), cell h (a.add (i.toNat * 1)) = some (.slice a8 L5 C5) ∧ (0 ≤ (0 : Int) ∧ (0 : Int) < (L5 : Int)) ∧ NN a8 fun a9 => ∃ n4 : Int, cell h (a9.add (Int.toNat (0 : Int) * 1)) = some (.int .i64 n4) ∧ Q n4 := by
  have hl : (l.map row2).length = n := rows_len na
  rw [List.length_map] at hl
  have hg := row2_get (l := l) (i := i.toNat) (by omega)
  exact rows_get na st hi0 hi (by omega) (by rw [hg]; simp) (by rw [hg]; exact hq)
theorem e_val {h0 h : Hp} {p : Option Addr} {n c : Nat} {l : List E} {B G : Bag} {i : Int} {Q : Int → Prop} (na : RowsA (p, n, c) (l.map row2) B) (st : St h0 h (B + G)) (hi0 : 0 ≤ i) (hi : i < n) (hq : Q (l.getD i.toNat (0, 0)).2) :
    (0 ≤ i ∧ i < (n : Int)) ∧ NN p fun a => ∃ (a8 : Option Addr) (L5 C5 : Nat), cell h (a.add (i.toNat * 1)) = some (.slice a8 L5 C5) ∧ (0 ≤ (1 : Int) ∧ (1 : Int) < (L5 : Int)) ∧ NN a8 fun a9 => ∃ n4 : Int, cell h (a9.add (Int.toNat (1 : Int) * 1)) = some (.int .i64 n4) ∧ Q n4 := by
  have hl : (l.map row2).length = n := rows_len na
  rw [List.length_map] at hl
  have hg := row2_get (l := l) (i := i.toNat) (by omega)
  exact rows_get na st hi0 hi (by omega) (by rw [hg]; simp) (by rw [hg]; exact hq)
/-- A step of a dictionary, in plain lists: what is left, the error, the number. -/
def dictS (l : List E) (c : Int) (zs : List Int) : List E × Int × Int :=
  if c = 8 then (l, 0, l.length)
  else if c = 1 then (if hasKey (upS l (zs.getD 0 0)) (zs.getD 0 0) = true then (lowS l (zs.getD 0 0) ++ (zs.getD 0 0, zs.getD 1 0) :: (upS l (zs.getD 0 0)).tail, 0, 1) else if l.length = 500 then (l, 4, 0) else (lowS l (zs.getD 0 0) ++ (zs.getD 0 0, zs.getD 1 0) :: upS l (zs.getD 0 0), 0, 0))
  else if c = 2 then (if hasKey (upS l (zs.getD 0 0)) (zs.getD 0 0) = true then (l, 0, valOf (upS l (zs.getD 0 0))) else (l, 12, 0))
  else if c = 3 then (if hasKey (upS l (zs.getD 0 0)) (zs.getD 0 0) = true then (lowS l (zs.getD 0 0) ++ (upS l (zs.getD 0 0)).tail, 0, valOf (upS l (zs.getD 0 0))) else (l, 12, 0))
  else if c = 4 then (if hasKey (upS l (zs.getD 0 0)) (zs.getD 0 0) = true then (l, 0, zs.getD 0 0) else if (lowS l (zs.getD 0 0)).length = 0 then (l, 12, 0) else (l, 0, (lastOf (lowS l (zs.getD 0 0))).1))
  else if c = 5 then (if (lowS l (zs.getD 0 0)).length = l.length then (l, 12, 0) else (l, 0, (headOf (upS l (zs.getD 0 0))).1))
  else if c = 6 then (l, 0, (lowS l (zs.getD 0 0)).length)
  else (if zs.getD 0 0 < 0 ∨ (l.length : Int) ≤ zs.getD 0 0 then (l, 2, 0) else (l, 0, (l.getD (zs.getD 0 0).toNat (0, 0)).1))
abbrev DictP (h0 : Hp) (G : Bag) (l : List E) (c : Int) (zs : List Int) : Value → Hp → Prop := StepP h0 G 1 ((dictS l c zs).1.map row2) (dictS l c zs).2.1 (dictS l c zs).2.2
end Go.Proofs.YtkdmcdnfakmapaaGreat

/- Layer 3: a step of a dictionary. -/
set_option maxRecDepth 100000
namespace Go.Proofs.YtkdmcdnfakmapaaGreat
open Go Go.Sx
def cntK (l : List E) (k : Int) : Nat := (l.filter fun e => decide (e.1 < k)).length
def hasK (l : List E) (k : Int) : Bool := l.any fun e => decide (e.1 = k)
theorem cntK_low {l : List E} {k : Int} (so : Srt l) : cntK l k = (lowS l k).length := by
  unfold cntK
  rw [upS_len (xs := l) (key := k)]
  have h1 := upS_len (xs := l) (key := k)
  rw [← h1]
  conv => lhs; rw [h1]
  rw [List.filter_append, List.filter_eq_self.2 (fun e he => decide_eq_true (low_lt e he)), List.filter_eq_nil_iff.2 (fun e he => by have := up_ge so e he; simp; omega), List.append_nil]
theorem hasK_up {l : List E} {k : Int} (so : Srt l) : hasK l k = hasKey (upS l k) k := by
  have h1 := upS_len (xs := l) (key := k)
  by_cases hf : hasKey (upS l k) k = true
  · rw [hf]
    cases hu : upS l k with
    | nil => rw [hu] at hf; cases hf
    | cons e es =>
      rw [hu] at hf
      exact List.any_eq_true.2 ⟨e, up_sub.mem (by rw [hu]; simp), hf⟩
  · have hf' : hasKey (upS l k) k = false := by simpa using hf
    rw [hf']
    unfold hasK
    rw [List.any_eq_false]
    intro e he
    rw [h1] at he
    have hY : Srt (upS l k) := so.sublist up_sub
    have hgt := key_gt hY (up_ge so) hf'
    rcases List.mem_append.1 he with he | he
    · have := low_lt e he; simp; omega
    · have := hgt e he; simp; omega
end Go.Proofs.YtkdmcdnfakmapaaGreat

/- B-trees: a function is called for all entries, with a bound on the calls; Do. -/
set_option maxRecDepth 100000
namespace Go.Proofs.YtkdmcdnfakmapaaGreat
open Go Go.Sx
section
variable {σ : Type}
theorem okLe {Ok : Nat → σ → Prop} (hmo : ∀ j s, Ok (j + 1) s → Ok j s) {j k : Nat} {s : σ} (h : j ≤ k) (ho : Ok k s) : Ok j s := by
  induction k with
  | zero => obtain rfl : j = 0 := by omega
            exact ho
  | succ k ih =>
    rcases Nat.lt_or_ge k j with h1 | h1
    · obtain rfl : j = k + 1 := by omega
      exact ho
    · exact ih h1 (hmo _ _ ho)
theorem runW_okN {st : σ → E → σ × Bool} {Ok : Nat → σ → Prop} (hok : ∀ j s e, Ok (j + 1) s → (st s e).2 = true → Ok j (st s e).1) : ∀ (l : List E) (j : Nat) (s s' : σ), Ok (j + l.length) s → runW st s l = (s', true) → Ok j s'
  | [], _, s, s', h, hr => by cases hr; exact h
  | e :: l, j, s, s', h, hr => by
    simp only [runW] at hr
    have := hok (j + l.length) s e h
    rcases hst : st s e with ⟨s2, _ | _⟩
    · rw [hst] at hr; cases hr
    · rw [hst] at hr this; exact runW_okN hok l j s2 s' (this rfl) hr
theorem reachN {st : σ → E → σ × Bool} {Ok : Nat → σ → Prop} (hok : ∀ j s e, Ok (j + 1) s → (st s e).2 = true → Ok j (st s e).1) {a b l : List E} {s s' : σ} (hl : l = a ++ b) (h : Ok l.length s) (hr : runW st s a = (s', true)) : Ok b.length s' := by
  subst hl
  rw [List.length_append, Nat.add_comm] at h
  exact runW_okN hok a b.length s s' h hr
theorem walkN_ok {h0 : Hp} {g : Nat} {cap : Array Value} {st : σ → E → σ × Bool} {Inv : σ → Bag → Prop} {Ok : Nat → σ → Prop} (hmo : ∀ j s, Ok (j + 1) s → Ok j s) (hok : ∀ j s e, Ok (j + 1) s → (st s e).2 = true → Ok j (st s e).1) (hg : F g = true) (hf : Fun1 h0 g cap st Inv (Ok 1)) {lo hi : Nat} (hhi : hi ≤ 1000) :
    ∀ (n : Nat) {b : Nat} {t : BT} {A : Bag} {s : σ} {C : Bag} {h : Hp} {G : Bag}, Hold n b t A → Sz lo hi n t → Ok (flat n t).length s → Inv s C → St h0 h (A + (C + G)) →
      HCalls Tryz.prog 31 #[ptr b, .func (.func g) #[] cap] h (fun v h' => ∃ C', v = .bool (runW st s (flat n t)).2 ∧ Inv (runW st s (flat n t)).1 C' ∧ St h0 h' (A + (C' + G))) := by
  intro n
  induction n with
  | zero =>
    intro b t A s C h G hh hz hos hi0 hs
    obtain ⟨ht, hna⟩ := hh
    have hna0 := hna
    obtain ⟨p1, p2, p3, c1, c2, c3, C1, C2, C3, rfl, ns⟩ := hna
    have hze := hz.here
    refine btree_node_walk_call ?_
    rw [btree_node_walk_b0_eq]
    refine condNo rfl ⟨_, _, _, (hs.at (nodeC b t.es.length ([] : List Nat).length p1 p2 p3 c1 c2 c3)).cell 0, ?_⟩
    refine ⟨fun x h' => ∃ (i : Nat) (s' : σ) (C' : Bag), x.1 = i ∧ i ≤ t.es.length ∧ runW st s (t.es.take i) = (s', true) ∧ Inv s' C' ∧ St h0 h' (nodeC b t.es.length ([] : List Nat).length p1 p2 p3 c1 c2 c3 + (C1 + (C2 + C3)) + (C' + G)), fun x _ => t.es.length - x.1.toNat, ⟨0, s, C, rfl, by omega, rfl, hi0, hs⟩, ?_⟩
    rintro ⟨_, _⟩ h1 ⟨i, s1, D, rfl, hil, hrun, hi1, hs1⟩
    dsimp only
    rw [btree_node_walk_b1_eq]
    have k1 := (hs1.at (nodeC b t.es.length ([] : List Nat).length p1 p2 p3 c1 c2 c3))
    refine condP (fun hlt => ?_) (fun hge => ?_)
    · have hlt' : i < t.es.length := by omega
      refine (ns.s1.rd (hs1.at C1)).int (by omega) (by omega) ?_
      rw [Int.toNat_natCast]
      refine (leaf_ok hs1 hna0).mono fun v1 h2 ⟨hh2, hv1⟩ => ?_
      subst hh2
      refine ⟨_, hv1, condNo rfl ⟨_, _, _, k1.cellA 1, (ns.s2.rd (hs1.at C2)).int (by omega) (by omega) ?_⟩⟩
      rw [Int.toNat_natCast]
      show callX Tryz.prog F g _ _ _
      refine callX_of hg ?_
      have hg1 : (t.es.map Prod.fst).getD i 0 = (t.es.getD i (0, 0)).1 := by simp [List.getD, hlt']
      have hg2 : (t.es.map Prod.snd).getD i 0 = (t.es.getD i (0, 0)).2 := by simp [List.getD, hlt']
      rw [hg1, hg2]
      have e2 : t.es.take (i + 1) = t.es.take i ++ [t.es.getD i (0, 0)] := by
        rw [List.take_succ_eq_append_getElem hlt']; simp [List.getD, hlt']
      have e3 : t.es = t.es.take i ++ ([t.es.getD i (0, 0)] ++ t.es.drop (i + 1)) := by rw [← List.append_assoc, ← e2, List.take_append_drop]
      refine (hf s1 D h2 (t.es.getD i (0, 0)) (nodeC b t.es.length ([] : List Nat).length p1 p2 p3 c1 c2 c3 + (C1 + (C2 + C3)) + G) (okLe hmo (by simp) (reachN hok (l := t.es) e3 hos hrun)) hi1 (hs1.to (B := D + (nodeC b t.es.length ([] : List Nat).length p1 p2 p3 c1 c2 c3 + (C1 + (C2 + C3)) + G)))).mono fun v3 h3 ⟨D', hv3, hi3, hs3⟩ => ?_
      have hs3 := hs3.to (B := nodeC b t.es.length ([] : List Nat).length p1 p2 p3 c1 c2 c3 + (C1 + (C2 + C3)) + (D' + G))
      refine ⟨_, hv3, cond_intro (fun hb => ?_) (fun hb => ?_)⟩
      · have hb' : (st s1 (t.es.getD i (0, 0))).2 = false := by simpa using hb
        have hr : runW st s (flat 0 t) = ((st s1 (t.es.getD i (0, 0))).1, false) := by
          show runW st s t.es = _
          conv => lhs; rw [e3]
          rw [runW_true hrun]
          refine runW_false ?_
          simp only [runW]
          rcases hst : st s1 (t.es.getD i (0, 0)) with ⟨s2, _ | _⟩
          · rfl
          · rw [hst] at hb'; cases hb'
        rw [hr]
        exact ⟨D', rfl, hi3, hs3⟩
      · have hb' : (st s1 (t.es.getD i (0, 0))).2 = true := by simpa using hb
        rw [btree_node_walk_b2_eq]
        refine ⟨⟨by omega, by omega⟩, ⟨i + 1, _, D', by simp only; omega, by omega, ?_, hi3, hs3⟩, by simp only; omega⟩
        rw [e2, runW_true hrun]
        simp only [runW]
        rcases hst : st s1 (t.es.getD i (0, 0)) with ⟨s2, _ | _⟩
        · rw [hst] at hb'; cases hb'
        · rfl
    · have : i = t.es.length := by omega
      subst this
      rw [List.take_of_length_le (Nat.le_refl _)] at hrun
      have hrun' : runW st s (flat 0 t) = (s1, true) := hrun
      rw [btree_node_walk_b3_eq]
      refine ⟨true, (leaf_ok hs1 hna0).mono fun v5 h6 ⟨hh6, hv5⟩ => ⟨hv5, hh6⟩, condYes rfl ?_⟩
      rw [hrun']
      exact ⟨D, rfl, hi1, hs1⟩
  | succ n ih =>
    intro b t A s C h G hh hz hos hi0 hs
    have hlen := hh.len
    obtain ⟨ks, A1, A2, rfl, hna, hkl, hall⟩ := hh
    have hna0 := hna
    obtain ⟨p1, p2, p3, c1, c2, c3, C1, C2, C3, rfl, ns⟩ := hna
    have hze := hz.here
    refine btree_node_walk_call ?_
    rw [btree_node_walk_b0_eq]
    refine condNo rfl ⟨_, _, _, (hs.at (nodeC b t.es.length ks.length p1 p2 p3 c1 c2 c3)).cell 0, ?_⟩
    have kid : ∀ (i : Nat), i < ks.length → ∀ (s1 : σ) (D : Bag) (h1 : Hp), Ok (flat n (t.ts.getD i nilT)).length s1 → Inv s1 D → St h0 h1 (nodeC b t.es.length ks.length p1 p2 p3 c1 c2 c3 + (C1 + (C2 + C3)) + A2 + (D + G)) →
        HCalls Tryz.prog 31 #[ptr (ks.getD i 0), .func (.func g) #[] cap] h1 (fun v h' => ∃ C', v = .bool (runW st s1 (flat n (t.ts.getD i nilT))).2 ∧ Inv (runW st s1 (flat n (t.ts.getD i nilT))).1 C' ∧ St h0 h' (nodeC b t.es.length ks.length p1 p2 p3 c1 c2 c3 + (C1 + (C2 + C3)) + A2 + (C' + G))) := by
      intro i hi' s1 D h1 ho1 hi1 hs1
      obtain ⟨Ai, B2, hA2, hk⟩ := hall.pick (d := nilT) (d' := 0) hi'
      have hzk : Sz lo hi n (t.ts.getD i nilT) := by
        have h2 : i < t.ts.length := by omega
        have : t.ts.getD i nilT = t.ts[i] := by simp [List.getD, h2]
        rw [this]; exact hz.2 _ (List.getElem_mem h2)
      have hs2 : St h0 h1 (Ai + (D + (nodeC b t.es.length ks.length p1 p2 p3 c1 c2 c3 + (C1 + (C2 + C3)) + (B2 + G)))) := by rw [hA2] at hs1; exact hs1.to
      refine (ih hk hzk ho1 hi1 hs2).mono fun v h' ⟨C', hv, hi2, hs3⟩ => ⟨C', hv, hi2, ?_⟩
      rw [hA2]; exact hs3.to
    refine ⟨fun x h' => ∃ (i : Nat) (s' : σ) (C' : Bag), x.1 = i ∧ i ≤ t.es.length ∧ runW st s (pre (n + 1) t i) = (s', true) ∧ Inv s' C' ∧ St h0 h' (nodeC b t.es.length ks.length p1 p2 p3 c1 c2 c3 + (C1 + (C2 + C3)) + A2 + (C' + G)), fun x _ => t.es.length - x.1.toNat, ⟨0, s, C, rfl, by omega, rfl, hi0, hs⟩, ?_⟩
    rintro ⟨_, _⟩ h1 ⟨i, s1, D, rfl, hil, hrun, hi1, hs1⟩
    dsimp only
    rw [btree_node_walk_b1_eq]
    have lf : ∀ {h2 : Hp} {D : Bag}, St h0 h2 (nodeC b t.es.length ks.length p1 p2 p3 c1 c2 c3 + (C1 + (C2 + C3)) + A2 + (D + G)) → HCalls Tryz.prog 60 #[ptr b] h2 (fun v h' => h' = h2 ∧ v = .bool false) := fun {h2 D} hs2 =>
      (leaf_ok (hs2.to (B := nodeC b t.es.length ks.length p1 p2 p3 c1 c2 c3 + (C1 + (C2 + C3)) + (A2 + (D + G)))) hna0).mono fun v h' ⟨hh, hv⟩ => ⟨hh, by rw [hv, decide_eq_false (by omega)]⟩
    refine condP (fun hlt => ?_) (fun hge => ?_)
    · have hlt' : i < t.es.length := by omega
      refine (ns.s1.rd (hs1.at C1)).int (by omega) (by omega) ?_
      rw [Int.toNat_natCast]
      refine (lf hs1).mono fun v1 h2 ⟨hh2, hv1⟩ => ?_
      subst hh2
      refine ⟨_, hv1, condYes rfl ⟨_, _, _, (hs1.at (nodeC b t.es.length ks.length p1 p2 p3 c1 c2 c3)).cellA 2, (ns.s3.rd (hs1.at C3)).ptr (by omega) (by omega) ?_⟩⟩
      rw [Int.toNat_natCast]
      have hrp := pre_succ (n := n) hlen hlt'
      refine (kid i (by omega) s1 D h2 (okLe hmo (by simp) (reachN hok (pre_mid hlen hlt').choose_spec hos hrun)) hi1 hs1).mono fun v2 h3 ⟨D2, hv2, hi2, hs2⟩ => ?_
      refine ⟨_, hv2, cond_intro (fun hb => ?_) (fun hb => ?_)⟩
      · -- it ends in the child
        have hb' : (runW st s1 (flat n (t.ts.getD i nilT))).2 = false := by simpa using hb
        have hr : runW st s (flat (n + 1) t) = ((runW st s1 (flat n (t.ts.getD i nilT))).1, false) := by
          obtain ⟨rest, hrest⟩ : ∃ rest, flat (n + 1) t = pre (n + 1) t i ++ (flat n (t.ts.getD i nilT) ++ rest) := ⟨_, (pre_mid hlen hlt').choose_spec⟩
          rw [hrest, runW_true hrun]
          refine runW_false ?_
          rcases hst : runW st s1 (flat n (t.ts.getD i nilT)) with ⟨s2, _ | _⟩
          · rfl
          · rw [hst] at hb'; cases hb'
        rw [hr]
        exact ⟨D2, rfl, hi2, hs2⟩
      have hb' : (runW st s1 (flat n (t.ts.getD i nilT))).2 = true := by simpa using hb
      have hrk : runW st s (pre (n + 1) t i ++ flat n (t.ts.getD i nilT)) = ((runW st s1 (flat n (t.ts.getD i nilT))).1, true) := by
        rw [runW_true hrun]
        rcases hst : runW st s1 (flat n (t.ts.getD i nilT)) with ⟨s2, _ | _⟩
        · rw [hst] at hb'; cases hb'
        · rfl
      refine ⟨_, _, _, (hs2.at (nodeC b t.es.length ks.length p1 p2 p3 c1 c2 c3)).cellA 1, (ns.s2.rd (hs2.at C2)).int (by omega) (by omega) ?_⟩
      rw [Int.toNat_natCast]
      show callX Tryz.prog F g _ _ _
      refine callX_of hg ?_
      have hg1 : (t.es.map Prod.fst).getD i 0 = (t.es.getD i (0, 0)).1 := by simp [List.getD, hlt']
      have hg2 : (t.es.map Prod.snd).getD i 0 = (t.es.getD i (0, 0)).2 := by simp [List.getD, hlt']
      rw [hg1, hg2]
      generalize hs' : (runW st s1 (flat n (t.ts.getD i nilT))).1 = s2 at hi2 hrk
      refine (hf s2 D2 h3 (t.es.getD i (0, 0)) (nodeC b t.es.length ks.length p1 p2 p3 c1 c2 c3 + (C1 + (C2 + C3)) + A2 + G) (okLe hmo (Nat.succ_le_succ (Nat.zero_le _)) (reachN hok (b := t.es.getD i (0, 0) :: (pre_mid (n := n) hlen hlt').choose) (by rw [List.append_assoc]; exact (pre_mid hlen hlt').choose_spec) hos hrk)) hi2 (hs2.to (B := D2 + (nodeC b t.es.length ks.length p1 p2 p3 c1 c2 c3 + (C1 + (C2 + C3)) + A2 + G)))).mono fun v3 h4 ⟨D', hv3, hi3, hs3⟩ => ?_
      have hs3 := hs3.to (B := nodeC b t.es.length ks.length p1 p2 p3 c1 c2 c3 + (C1 + (C2 + C3)) + A2 + (D' + G))
      refine ⟨_, hv3, cond_intro (fun hb => ?_) (fun hb => ?_)⟩
      · have hb' : (st s2 (t.es.getD i (0, 0))).2 = false := by simpa using hb
        have hr : runW st s (flat (n + 1) t) = ((st s2 (t.es.getD i (0, 0))).1, false) := by
          obtain ⟨rest, hrest⟩ : ∃ rest, flat (n + 1) t = pre (n + 1) t i ++ flat n (t.ts.getD i nilT) ++ ([t.es.getD i (0, 0)] ++ rest) := by
            obtain ⟨rest, h⟩ := pre_mid (n := n) hlen hlt'
            exact ⟨rest, by rw [h]; simp⟩
          rw [hrest, runW_true hrk]
          refine runW_false ?_
          simp only [runW]
          rcases hst : st s2 (t.es.getD i (0, 0)) with ⟨s3, _ | _⟩
          · rfl
          · rw [hst] at hb'; cases hb'
        rw [hr]
        exact ⟨D', rfl, hi3, hs3⟩
      · have hb' : (st s2 (t.es.getD i (0, 0))).2 = true := by simpa using hb
        rw [btree_node_walk_b2_eq]
        refine ⟨⟨by omega, by omega⟩, ⟨i + 1, _, D', by simp only; omega, by omega, ?_, hi3, hs3⟩, by simp only; omega⟩
        rw [hrp, ← List.append_assoc, runW_true hrk]
        simp only [runW]
        rcases hst : st s2 (t.es.getD i (0, 0)) with ⟨s3, _ | _⟩
        · rw [hst] at hb'; cases hb'
        · rfl
    · have : i = t.es.length := by omega
      subst this
      rw [btree_node_walk_b3_eq]
      refine ⟨false, (lf hs1).mono fun v5 h6 ⟨hh6, hv5⟩ => ⟨hv5, hh6⟩, condNo rfl ?_⟩
      have k1 := (hs1.at (nodeC b t.es.length ks.length p1 p2 p3 c1 c2 c3))
      refine ⟨_, _, _, k1.cellA 2, _, _, _, k1.cell 0, (ns.s3.rd (hs1.at C3)).ptr (by omega) (by omega) ?_⟩
      rw [Int.toNat_natCast]
      refine (kid t.es.length (by omega) s1 D h1 (reachN hok (pre_last hlen) hos hrun) hi1 hs1).mono fun v2 h3 ⟨D2, hv2, hi2, hs2⟩ => ?_
      refine ⟨_, hv2, ?_⟩
      have hr : runW st s (flat (n + 1) t) = runW st s1 (flat n (t.ts.getD t.es.length nilT)) := by rw [pre_last hlen, runW_true hrun]
      rw [hr]
      exact ⟨D2, rfl, hi2, hs2⟩
end
/-- The root's pointer is read, and a function called for all entries. -/
theorem walkTN {σ : Type} {h0 : Hp} {g : Nat} {cap : Array Value} {st : σ → E → σ × Bool} {Inv : σ → Bag → Prop} {Ok : Nat → σ → Prop} (hmo : ∀ j s, Ok (j + 1) s → Ok j s) (hok : ∀ j s e, Ok (j + 1) s → (st s e).2 = true → Ok j (st s e).1) (hg : F g = true) (hf : Fun1 h0 g cap st Inv (Ok 1))
    {order tb : Nat} {xs : List E} {vis : Int} {A C G : Bag} {h : Hp} {s : σ} (hor : 3 ≤ order) (h64 : order ≤ 64) (ta : TreeA order xs tb vis A) (ho : Ok xs.length s) (hi : Inv s C) (hs : St h0 h (A + (C + G))) :
    ∃ p1 : Option Addr, cell h ((⟨tb, 0, none⟩ : Addr).add 2) = some (.pointer p1) ∧ HCalls Tryz.prog 31 #[.pointer p1, .func (.func g) #[] cap] h (fun v h' => ∃ C', v = .bool (runW st s xs).2 ∧ Inv (runW st s xs).1 C' ∧ St h0 h' (A + (C' + G))) := by
  rcases ta with ⟨rfl, rfl⟩ | ⟨n, root, t, A1, rfl, hh, hfl, hsz⟩
  · refine ⟨_, hs.cellA 2, walk_nil.mono fun v h' ⟨hh, hv⟩ => ?_⟩
    subst hh
    exact ⟨C, hv, hi, hs⟩
  · have s1 := hs.to (B := treeC tb order xs.length (some ⟨root, 0, none⟩) vis + (A1 + (C + G)))
    refine ⟨_, s1.cellA 2, ?_⟩
    have s2 := hs.to (B := A1 + (C + (treeC tb order xs.length (some ⟨root, 0, none⟩) vis + G)))
    refine (walkN_ok hmo hok hg hf (lo := 1) (hi := order - 1) (by omega) n hh (hsz.one (by omega)) (by rw [hfl]; exact ho) hi s2).mono fun v h' ⟨C', hv, hi', s3⟩ => ?_
    rw [hfl] at hv hi'
    exact ⟨C', hv, hi', s3.to⟩

end Go.Proofs.YtkdmcdnfakmapaaGreat

/- B-trees: Do. -/
set_option maxRecDepth 100000
namespace Go.Proofs.YtkdmcdnfakmapaaGreat
open Go Go.Sx
theorem opv1 {code : Int} {zs : List Int} (h : OpV 1 code zs) : (1 ≤ code ∧ code ≤ 8) ∧ (code ≠ 8 → 1 ≤ zs.length) ∧ (code = 1 → 2 ≤ zs.length) ∧ ∀ z ∈ zs, KeyP z := by
  obtain ⟨h1, h2⟩ := h
  have e8 : (arT 1).length = 8 := rfl
  rw [e8] at h1
  obtain ⟨f1, f2, f3⟩ := arT_fact (k := 1) (c := code) (by omega) (by rw [e8]; exact h1)
  have f2 := f2 (by decide)
  rw [if_neg (by omega)] at h2
  have hc : code = 1 ∨ code = 2 ∨ code = 3 ∨ code = 4 ∨ code = 5 ∨ code = 6 ∨ code = 7 ∨ code = 8 := by omega
  have e : (arT 1).getD (code - 1).toNat 0 = if code = 1 then 2 else if code = 8 then 0 else 1 := by
    rcases hc with rfl | rfl | rfl | rfl | rfl | rfl | rfl | rfl <;> rfl
  rw [e] at h2
  refine ⟨⟨by omega, by omega⟩, fun h8 => ?_, fun h1' => ?_, h2.2⟩
  · have := h2.1
    rw [if_neg h8] at this
    split at this <;> omega
  · have := h2.1
    rw [if_pos h1'] at this; omega
def rankSt (key : Int) (s : Nat) (e : E) : Nat × Bool := (if e.1 < key then s + 1 else s, decide (e.1 < key))
theorem rank_run {key : Int} : ∀ (l : List E) (s : Nat), (runW (rankSt key) s l).1 = s + (lowS l key).length
  | [], s => rfl
  | e :: l, s => by
    by_cases h : e.1 < key
    · have h1 : rankSt key s e = (s + 1, true) := by simp [rankSt, h]
      have h2 : lowS (e :: l) key = e :: lowS l key := by simp [lowS, h]
      simp only [runW, h1]
      rw [rank_run l (s + 1), h2, List.length_cons]; omega
    · have h1 : rankSt key s e = (s, false) := by simp [rankSt, h]
      have h2 : lowS (e :: l) key = [] := by simp [lowS, h]
      simp only [runW, h1, h2]
      rfl
def RankI (bo bn : Nat) (q : Option Addr) (m cc : Nat) (code : Int) (s : Nat) (C : Bag) : Prop := C = cA bn [.int .i64 (s : Int)] 3 + cA bo [.int .i64 code, .slice q m cc] 39
theorem do_c1_ok {h0 : Hp} {bo bn : Nat} {q : Option Addr} {m cc : Nat} {code : Int} {zs : List Int} (rz : RdT TI h0 q m zs) (h1 : 1 ≤ zs.length) :
    Fun1 h0 32 #[ptr bo, ptr bn] (rankSt (zs.getD 0 0)) (RankI bo bn q m cc code) (fun s => s + 1 ≤ 1000000) := by
  rintro n C h ⟨k, v⟩ G hok rfl s
  show HCalls Tryz.prog 32 #[.int .i64 k, .int .i64 v, ptr bo, ptr bn] h _
  have hzl := rz.len
  have fin : ∀ (h' : Hp) (n' : Nat), n' = (rankSt (zs.getD 0 0) n (k, v)).1 → St h0 h' (cA bn [.int .i64 (n' : Int)] 3 + cA bo [.int .i64 code, .slice q m cc] 39 + G) →
      btree_Tree_Do_c1_b1 k (some ⟨bo, 0, none⟩) h' (fun v' h' => ∃ C', v' = .bool (rankSt (zs.getD 0 0) n (k, v)).2 ∧ RankI bo bn q m cc code (rankSt (zs.getD 0 0) n (k, v)).1 C' ∧ St h0 h' (C' + G)) := by
    rintro h' _ rfl s
    rw [btree_Tree_Do_c1_b1_eq]
    have kb := (s.at (cA bo [.int .i64 code, .slice q m cc] 39)).blk
    exact ⟨_, _, _, Blk.cellA kb 1, (rz.ext s.ext).int (by omega) (by omega) ⟨_, rfl, rfl, s⟩⟩
  refine btree_Tree_Do_c1_call ?_
  rw [btree_Tree_Do_c1_b0_eq]
  have kb := (s.at (cA bo [.int .i64 code, .slice q m cc] 39)).blk
  refine ⟨_, _, _, Blk.cellA kb 1, (rz.ext s.ext).int (by omega) (by omega) ?_⟩
  rw [show Int.toNat (0 : Int) = 0 from rfl]
  refine condP (fun hk => ?_) (fun hk => ?_)
  · have s := s.to (B := cA bn [.int .i64 (n : Int)] 3 + (cA bo [.int .i64 code, .slice q m cc] 39 + G))
    refine ⟨_, s.cell 0, ⟨by omega, by omega⟩, ?_⟩
    refine s.wr rfl (by simp) fun h' s' => ?_
    refine fin h' (n + 1) (by simp only [rankSt]; rw [if_pos hk]) ?_
    have s' : St h0 h' (cA bn [.int .i64 ((n : Int) + 1)] 3 + (cA bo [.int .i64 code, .slice q m cc] 39 + G)) := s'
    have e : ((n + 1 : Nat) : Int) = (n : Int) + 1 := by omega
    rw [e]
    exact s'.to
  · exact fin h n (by simp only [rankSt]; rw [if_neg hk]) s
def atSt (s : Int × Int) (e : E) : (Int × Int) × Bool := ((e.1, s.2 - 1), decide (0 ≤ s.2 - 1))
theorem at_run : ∀ (l : List E) (i : Nat) (x : Int), i < l.length → (runW atSt (x, (i : Int)) l).1.1 = (l.getD i (0, 0)).1
  | [], i, x, h => by simp at h
  | e :: l, 0, x, _ => by
    have h1 : atSt (x, ((0 : Nat) : Int)) e = ((e.1, -1), false) := rfl
    simp only [runW, h1]
    rfl
  | e :: l, i + 1, x, h => by
    have h1 : atSt (x, ((i + 1 : Nat) : Int)) e = ((e.1, (i : Int)), true) := by
      have : ((i + 1 : Nat) : Int) - 1 = (i : Int) := by omega
      simp only [atSt, this]
      rw [decide_eq_true (by omega)]
    simp only [runW, h1]
    rw [at_run l i e.1 (by simpa using h)]
    simp
def AtI (bk bi : Nat) (s : Int × Int) (C : Bag) : Prop := C = cA bk [.int .i64 s.1] 3 + cA bi [.int .i64 s.2] 3
theorem at_c1_ok {h0 : Hp} {bk bi : Nat} : Fun1 h0 63 #[ptr bk, ptr bi] atSt (AtI bk bi) (fun s => 0 ≤ s.2 ∧ s.2 ≤ 1000000) := by
  rintro ⟨x, i⟩ C h ⟨k, v⟩ G hok rfl s
  show HCalls Tryz.prog 63 #[.int .i64 k, .int .i64 v, ptr bk, ptr bi] h _
  dsimp only at hok s
  refine btree_Tree_at_c1_call ?_
  rw [btree_Tree_at_c1_b0_eq]
  have s := s.to (B := cA bk [.int .i64 x] 3 + (cA bi [.int .i64 i] 3 + G))
  refine s.wr rfl (by simp) fun h' s' => ?_
  have s' : St h0 h' (cA bk [.int .i64 k] 3 + (cA bi [.int .i64 i] 3 + G)) := s'
  have s' := s'.to (B := cA bi [.int .i64 i] 3 + (cA bk [.int .i64 k] 3 + G))
  refine ⟨_, s'.cell 0, ⟨by omega, by omega⟩, ?_⟩
  refine s'.wr rfl (by simp) fun h2 s2 => ?_
  have s2 : St h0 h2 (cA bi [.int .i64 (i - 1)] 3 + (cA bk [.int .i64 k] 3 + G)) := s2
  exact ⟨_, s2.cell 0, _, rfl, rfl, s2.to⟩
section
variable {h0 h : Hp} {order tb : Nat} {xs : List E} {vis : Int} {A G : Bag} (hor : 3 ≤ order) (h64 : order ≤ 64) (ta : TreeA order xs tb vis A) (s : St h0 h (A + G))
include hor h64 ta s
theorem at_ok {i : Int} (hmost : xs.length ≤ 100000) : HCalls Tryz.prog 33 #[ptr tb, .int .i64 i] h (fun v h' => v = .tuple #[.int .i64 (if i < 0 ∨ (xs.length : Int) ≤ i then 0 else (xs.getD i.toNat (0, 0)).1), .int .i64 (if i < 0 ∨ (xs.length : Int) ≤ i then 2 else 0)] ∧ St h0 h' (A + G)) := by
  refine btree_Tree_at_call ?_
  rw [btree_Tree_at_b0_eq]
  refine s.new (cs := [.int .i64 i]) fun b1 h1 _ s1 => ?_
  have kb := s1.blk
  refine ⟨_, kb.cell 0, condP (fun hneg => ?_) (fun hneg => ⟨_, kb.cell 0, ?_⟩)⟩
  · rw [if_pos (.inl hneg), if_pos (.inl hneg)]
    exact ⟨rfl, s1.drop⟩
  obtain ⟨root, A1, rfl, _⟩ := ta.vis
  have kt := (s1.at (treeC tb order xs.length root vis)).blk
  refine ⟨_, Blk.cellA kt 1, condP (fun hbig => ?_) (fun hbig => ?_)⟩
  · rw [if_pos (.inr (by omega)), if_pos (.inr (by omega))]
    exact ⟨rfl, s1.drop⟩
  rw [if_neg (by omega), if_neg (by omega), btree_Tree_at_b1_eq]
  refine s1.new (cs := [.int .i64 0]) fun b2 h2 _ s2 => ?_
  refine s2.wr rfl (by simp) fun h3 s3 => ?_
  have s3 : St h0 h3 (cA b2 [.int .i64 0] 3 + (cA b1 [.int .i64 i] 3 + (treeC tb order xs.length root vis + A1 + G))) := s3
  obtain ⟨j, rfl⟩ : ∃ j : Nat, i = (j : Int) := ⟨i.toNat, by omega⟩
  obtain ⟨p1, hp1, hw⟩ := walkT (Ok := fun s : Int × Int => 0 ≤ s.2 ∧ s.2 ≤ 1000000) (fun s e ho hs => ⟨of_decide_eq_true hs, by have := ho.2; show s.2 - 1 ≤ 1000000; omega⟩) (by kernel_rfl) (at_c1_ok (h0 := h0) (bk := b2) (bi := b1)) hor h64 ta (s := (0, (j : Int))) (C := cA b2 [.int .i64 0] 3 + cA b1 [.int .i64 (j : Int)] 3) ⟨by omega, by simp only; omega⟩ rfl (s3.to (B := treeC tb order xs.length root vis + A1 + (cA b2 [.int .i64 0] 3 + cA b1 [.int .i64 (j : Int)] 3 + G)))
  refine ⟨p1, hp1, hw.mono fun v h4 ⟨C', hv, hi, s4⟩ => ⟨_, hv, ?_⟩⟩
  obtain rfl : C' = _ := hi
  have hr := at_run xs j 0 (by omega)
  have k2 := (s4.at (cA b2 [.int .i64 (runW atSt (0, (j : Int)) xs).1.1] 3)).blk
  refine ⟨_, k2.cell 0, ?_, (s4.to (B := (cA b2 [.int .i64 (runW atSt (0, (j : Int)) xs).1.1] 3 + cA b1 [.int .i64 (runW atSt (0, (j : Int)) xs).1.2] 3) + (treeC tb order xs.length root vis + A1 + G))).drop⟩
  rw [hr, Int.toNat_natCast]
end
/-- What Do leaves. -/
def DoP (h0 : Hp) (G : Bag) (order tb : Nat) (vis : Int) (xs : List E) (e z : Int) (v : Value) (h' : Hp) : Prop :=
  ∃ A' vis', (vis ≤ vis' ∧ vis' ≤ vis + 1000) ∧ v = .tuple #[.agg #[.int .i64 e, .int .i64 z, .slice none 0 0], .int .i64 0] ∧ TreeA order xs tb vis' A' ∧ St h0 h' (A' + G)
theorem do_fin {h0 h : Hp} {order tb b1 b2 b3 : Nat} {xs : List E} {vis vis' e z : Int} {A' G : Bag} {y0 y1 y2 : Value} {O : List Value} (hv : vis ≤ vis' ∧ vis' ≤ vis + 1000) (ta : TreeA order xs tb vis' A')
    (s : St h0 h (cA b3 [.int .i64 z] 3 + (cA b1 O 39 + (cA b2 [y0, y1, y2] 41 + (A' + G))))) : btree_Tree_Do_b2 (some ⟨b2, 0, none⟩) (some ⟨b3, 0, none⟩) e h (DoP h0 G order tb vis xs e z) := by
  rw [btree_Tree_Do_b2_eq]
  refine ⟨_, s.cell 0, ?_⟩
  have s := s.to (B := cA b2 [y0, y1, y2] 41 + (cA b1 O 39 + (cA b3 [.int .i64 z] 3 + (A' + G))))
  refine s.wr rfl (by simp) fun h6 s6 => ?_
  refine s6.wr (o := 1) (add_mk _ _ _) (by simp) fun h7 s7 => ?_
  refine s7.wr (o := 2) (add_mk _ _ _) (by simp) fun h8 s8 => ?_
  refine ⟨_, _, _, _, _, s8.blk.cell 0, Blk.cellA s8.blk 1, Blk.cellA s8.blk 2, A', vis', hv, rfl, ta, ?_⟩
  have s8 : St h0 h8 (cA b2 [.int .i64 e, .int .i64 z, .slice none 0 0] 41 + (cA b1 O 39 + (cA b3 [.int .i64 z] 3 + (A' + G)))) := s8
  exact (s8.to (B := (cA b2 [.int .i64 e, .int .i64 z, .slice none 0 0] 41 + cA b1 O 39 + cA b3 [.int .i64 z] 3) + (A' + G))).drop
end Go.Proofs.YtkdmcdnfakmapaaGreat

/- B-trees: Do, all operations. -/
set_option maxRecDepth 100000
namespace Go.Proofs.YtkdmcdnfakmapaaGreat
open Go Go.Sx
theorem put_eq {xs : List E} {zs : List Int} (hk : KeyP (zs.getD 0 0)) (hb : KeyP (zs.getD 1 0)) (hl : xs.length < 500) :
    dictS xs 1 zs = ((putS xs (zs.getD 0 0) (zs.getD 1 0)).1, (putS xs (zs.getD 0 0) (zs.getD 1 0)).2.2.2, if (putS xs (zs.getD 0 0) (zs.getD 1 0)).2.2.1 = true then 1 else 0) := by
  have e : dictS xs 1 zs = (if hasKey (upS xs (zs.getD 0 0)) (zs.getD 0 0) = true then (lowS xs (zs.getD 0 0) ++ (zs.getD 0 0, zs.getD 1 0) :: (upS xs (zs.getD 0 0)).tail, 0, 1) else if xs.length = 500 then (xs, 4, 0) else (lowS xs (zs.getD 0 0) ++ (zs.getD 0 0, zs.getD 1 0) :: upS xs (zs.getD 0 0), 0, 0)) := rfl
  by_cases hf : hasKey (upS xs (zs.getD 0 0)) (zs.getD 0 0) = true
  · have hp : putS xs (zs.getD 0 0) (zs.getD 1 0) = (lowS xs (zs.getD 0 0) ++ (zs.getD 0 0, zs.getD 1 0) :: (upS xs (zs.getD 0 0)).tail, valOf (upS xs (zs.getD 0 0)), true, 0) := by rw [putS, if_pos ⟨hk, hb⟩, if_pos hf]
    rw [hp, e, if_pos hf]; rfl
  · have hp : putS xs (zs.getD 0 0) (zs.getD 1 0) = (lowS xs (zs.getD 0 0) ++ (zs.getD 0 0, zs.getD 1 0) :: upS xs (zs.getD 0 0), 0, false, 0) := by rw [putS, if_pos ⟨hk, hb⟩, if_neg hf, if_neg (by omega)]
    rw [hp, e, if_neg hf, if_neg (by omega)]; rfl
theorem get_eq {xs : List E} {zs : List Int} (hk : KeyP (zs.getD 0 0)) : dictS xs 2 zs = (xs, (getS xs (zs.getD 0 0)).2, (getS xs (zs.getD 0 0)).1) := by
  have e : dictS xs 2 zs = (if hasKey (upS xs (zs.getD 0 0)) (zs.getD 0 0) = true then (xs, 0, valOf (upS xs (zs.getD 0 0))) else (xs, 12, 0)) := rfl
  rw [e, getS, if_pos hk]
  split <;> rfl
theorem rem_eq {xs : List E} {zs : List Int} (hk : KeyP (zs.getD 0 0)) : dictS xs 3 zs = ((removeS xs (zs.getD 0 0)).1, (removeS xs (zs.getD 0 0)).2.2, (removeS xs (zs.getD 0 0)).2.1) := by
  have e : dictS xs 3 zs = (if hasKey (upS xs (zs.getD 0 0)) (zs.getD 0 0) = true then (lowS xs (zs.getD 0 0) ++ (upS xs (zs.getD 0 0)).tail, 0, valOf (upS xs (zs.getD 0 0))) else (xs, 12, 0)) := rfl
  rw [e, removeS, if_pos hk]
  split <;> rfl
theorem floor_eq {xs : List E} {zs : List Int} (hk : KeyP (zs.getD 0 0)) : dictS xs 4 zs = (xs, (FloorS xs (zs.getD 0 0)).2.2, (FloorS xs (zs.getD 0 0)).1) := by
  have e : dictS xs 4 zs = (if hasKey (upS xs (zs.getD 0 0)) (zs.getD 0 0) = true then (xs, 0, zs.getD 0 0) else if (lowS xs (zs.getD 0 0)).length = 0 then (xs, 12, 0) else (xs, 0, (lastOf (lowS xs (zs.getD 0 0))).1)) := rfl
  rw [e, FloorS, if_pos hk, floorS]
  by_cases hf : hasKey (upS xs (zs.getD 0 0)) (zs.getD 0 0) = true
  · rw [if_pos hf, if_pos hf]; rfl
  · rw [if_neg hf, if_neg hf]
    by_cases h0 : (lowS xs (zs.getD 0 0)).length = 0
    · have hn : lowS xs (zs.getD 0 0) = [] := List.eq_nil_of_length_eq_zero h0
      rw [if_pos h0, hn]; rfl
    · obtain ⟨_, _, w3⟩ := last_getD (xs := xs) (key := zs.getD 0 0) (by omega)
      rw [if_neg h0, if_pos w3]
theorem ceil_eq {xs : List E} {zs : List Int} (hk : KeyP (zs.getD 0 0)) : dictS xs 5 zs = (xs, (CeilS xs (zs.getD 0 0)).2.2, (CeilS xs (zs.getD 0 0)).1) := by
  have e : dictS xs 5 zs = (if (lowS xs (zs.getD 0 0)).length = xs.length then (xs, 12, 0) else (xs, 0, (headOf (upS xs (zs.getD 0 0))).1)) := rfl
  have hlen := congrArg List.length (upS_len (xs := xs) (key := zs.getD 0 0))
  rw [List.length_append] at hlen
  rw [e, CeilS, if_pos hk, ceilS]
  cases hu : upS xs (zs.getD 0 0) with
  | nil => rw [hu, List.length_nil] at hlen; rw [if_pos (by omega)]; rfl
  | cons y ys => rw [hu, List.length_cons] at hlen; rw [if_neg (by omega)]; rfl
theorem TDo_valid {h0 h : Hp} {order tb b1 b2 : Nat} {xs : List E} {vis : Int} {code : Int} {q : Option Addr} {m cc : Nat} {zs : List Int} {A G : Bag} (hor : 3 ≤ order) (h64 : order ≤ 64) (so : Srt xs) (hmost : xs.length < 500) (hvis : 0 ≤ vis ∧ vis ≤ 1000000000) (ta : TreeA order xs tb vis A) (rz : RdT TI h0 q m zs) (hv : OpV 1 code zs)
    (s : St h0 h (cA b1 [.int .i64 code, .slice q m cc] 39 + (cA b2 [.int .i64 0, .int .i64 0, .slice none 0 0] 41 + (A + G)))) :
    btree_Tree_Do_b1 (some ⟨tb, 0, none⟩) (some ⟨b1, 0, none⟩) (some ⟨b2, 0, none⟩) h (DoP h0 G order tb vis (dictS xs code zs).1 (dictS xs code zs).2.1 (dictS xs code zs).2.2) := by
  obtain ⟨hc, hz1, hz2, hz⟩ := opv1 hv
  have hzl := rz.len
  have hgk : ∀ i, i < zs.length → KeyP (zs.getD i 0) := fun i hi => by
    have : zs.getD i 0 = zs[i] := by simp [List.getD, hi]
    rw [this]; exact hz _ (List.getElem_mem hi)
  have e0 : Int.toNat (0 : Int) = 0 := rfl
  have e1 : Int.toNat (1 : Int) = 1 := rfl
  rw [btree_Tree_Do_b1_eq]
  refine s.new (cs := [.int .i64 0]) fun b3 h3 _ s3 => ?_
  refine s3.wr rfl (by simp) fun h4 s4 => ?_
  have s4 : St h0 h4 (cA b3 [.int .i64 0] 3 + (cA b1 [.int .i64 code, .slice q m cc] 39 + (cA b2 [.int .i64 0, .int .i64 0, .slice none 0 0] 41 + (A + G)))) := s4
  have kb := s4.atomBlk
  have rz4 := rz.ext s4.ext
  -- the number is written, and the end
  have wfin : ∀ {h5 : Hp} {A' : Bag} {vis' e z z0 : Int} {ys : List E}, (vis ≤ vis' ∧ vis' ≤ vis + 1000) → TreeA order ys tb vis' A' → St h0 h5 (A' + (cA b3 [.int .i64 z0] 3 + (cA b1 [.int .i64 code, .slice q m cc] 39 + (cA b2 [.int .i64 0, .int .i64 0, .slice none 0 0] 41 + G)))) →
      Wr h5 ⟨b3, 0, none⟩ (.int .i64 z) fun h6 => btree_Tree_Do_b2 (some ⟨b2, 0, none⟩) (some ⟨b3, 0, none⟩) e h6 (DoP h0 G order tb vis ys e z) := by
    intro h5 A' vis' e z z0 ys hv' ta' s5
    have s5 := s5.to (B := cA b3 [.int .i64 z0] 3 + (cA b1 [.int .i64 code, .slice q m cc] 39 + (cA b2 [.int .i64 0, .int .i64 0, .slice none 0 0] 41 + (A' + G))))
    exact s5.wr rfl (by simp) fun h6 s6 => do_fin hv' ta' s6
  have sA := s4.to (B := A + (cA b3 [.int .i64 0] 3 + (cA b1 [.int .i64 code, .slice q m cc] 39 + (cA b2 [.int .i64 0, .int .i64 0, .slice none 0 0] 41 + G))))
  refine ⟨_, kb.cell 0, condP (fun hc1 => ?_) (fun hc1 => ?_)⟩
  · subst hc1
    have hz2 := hz2 rfl
    refine ⟨_, _, _, Blk.cellA kb 1, rz4.int (by omega) (by omega) ⟨_, _, _, Blk.cellA kb 1, rz4.int (by omega) (by omega) ?_⟩⟩
    rw [e0, e1]
    refine (Put_ok (key := zs.getD 0 0) (value := zs.getD 1 0) hor h64 so (by omega) ⟨by omega, by omega⟩ ta sA).mono fun v2 h5 ⟨A', vis', hvis', hv2, ta', s5⟩ => ⟨_, _, _, hv2, ?_⟩
    rw [put_eq (hgk 0 (by omega)) (hgk 1 (by omega)) hmost]
    refine cond_intro (fun hr => ?_) (fun hr => ?_)
    · rw [if_pos hr]
      exact wfin hvis'.1 ta' s5
    · rw [if_neg (by rw [hr]; simp)]
      exact do_fin hvis'.1 ta' (s5.to (B := cA b3 [.int .i64 0] 3 + (cA b1 [.int .i64 1, .slice q m cc] 39 + (cA b2 [.int .i64 0, .int .i64 0, .slice none 0 0] 41 + (A' + G)))))
  refine condP (fun hc2 => ?_) (fun hc2 => ?_)
  · subst hc2
    have hz1 := hz1 (by decide)
    refine ⟨_, _, _, Blk.cellA kb 1, rz4.int (by omega) (by omega) ?_⟩
    rw [e0]
    refine (Get_ok (key := zs.getD 0 0) hor h64 so (by omega) ⟨by omega, by omega⟩ ta sA).mono fun v2 h5 ⟨A', vis', hvis', hv2, ta', s5⟩ => ⟨_, _, hv2, ?_⟩
    rw [get_eq (hgk 0 (by omega))]
    exact wfin hvis' ta' s5
  refine condP (fun hc3 => ?_) (fun hc3 => ?_)
  · subst hc3
    have hz1 := hz1 (by decide)
    refine ⟨_, _, _, Blk.cellA kb 1, rz4.int (by omega) (by omega) ?_⟩
    rw [e0]
    refine (Remove_ok (key := zs.getD 0 0) hor h64 so (by omega) ⟨by omega, by omega⟩ ta sA).mono fun v2 h5 ⟨A', vis', hvis', hv2, ta', s5⟩ => ⟨_, _, hv2, ?_⟩
    rw [rem_eq (hgk 0 (by omega))]
    exact wfin hvis' ta' s5
  refine condP (fun hc4 => ?_) (fun hc4 => ?_)
  · subst hc4
    have hz1 := hz1 (by decide)
    refine ⟨_, _, _, Blk.cellA kb 1, rz4.int (by omega) (by omega) ?_⟩
    rw [e0]
    refine (Floor_ok (key := zs.getD 0 0) hor h64 so (by omega) ⟨by omega, by omega⟩ ta sA).mono fun v2 h5 ⟨A', vis', hvis', hv2, ta', s5⟩ => ⟨_, _, _, hv2, ?_⟩
    rw [floor_eq (hgk 0 (by omega))]
    exact wfin hvis' ta' s5
  refine condP (fun hc5 => ?_) (fun hc5 => ?_)
  · subst hc5
    have hz1 := hz1 (by decide)
    refine ⟨_, _, _, Blk.cellA kb 1, rz4.int (by omega) (by omega) ?_⟩
    rw [e0]
    refine (Ceil_ok (key := zs.getD 0 0) hor h64 so (by omega) ⟨by omega, by omega⟩ ta sA).mono fun v2 h5 ⟨A', vis', hvis', hv2, ta', s5⟩ => ⟨_, _, _, hv2, ?_⟩
    rw [ceil_eq (hgk 0 (by omega))]
    exact wfin hvis' ta' s5
  refine condP (fun hc6 => ?_) (fun hc6 => ?_)
  · subst hc6
    have hz1 := hz1 (by decide)
    have sW := s4.to (B := A + (cA b3 [.int .i64 ((0 : Nat) : Int)] 3 + cA b1 [.int .i64 6, .slice q m cc] 39 + (cA b2 [.int .i64 0, .int .i64 0, .slice none 0 0] 41 + G)))
    obtain ⟨p1, hp1, hw⟩ := walkTN (Ok := fun j (s : Nat) => s + j ≤ 1000000) (fun j s h => by omega) (fun j s e ho _ => by show (if e.1 < zs.getD 0 0 then s + 1 else s) + j ≤ 1000000; split <;> omega) (by kernel_rfl) (do_c1_ok (h0 := h0) (bo := b1) (bn := b3) (q := q) (m := m) (cc := cc) (code := 6) rz (by omega)) hor h64 ta (s := (0 : Nat)) (by show 0 + xs.length ≤ 1000000; omega) rfl sW
    refine ⟨p1, hp1, hw.mono fun v7 h5 ⟨C', hv7, hi, s5⟩ => ⟨_, hv7, ?_⟩⟩
    obtain rfl : C' = _ := hi
    have e : dictS xs 6 zs = (xs, 0, ((lowS xs (zs.getD 0 0)).length : Int)) := rfl
    rw [rank_run, Nat.zero_add] at s5
    rw [e]
    exact do_fin ⟨by omega, by omega⟩ ta (s5.to (B := cA b3 [.int .i64 ((lowS xs (zs.getD 0 0)).length : Int)] 3 + (cA b1 [.int .i64 6, .slice q m cc] 39 + (cA b2 [.int .i64 0, .int .i64 0, .slice none 0 0] 41 + (A + G)))))
  refine condP (fun hc7 => ?_) (fun hc7 => ?_)
  · subst hc7
    have hz1 := hz1 (by decide)
    refine ⟨_, _, _, Blk.cellA kb 1, rz4.int (by omega) (by omega) ?_⟩
    rw [e0]
    refine (at_ok (i := zs.getD 0 0) hor h64 ta sA (by omega)).mono fun v2 h5 ⟨hv2, s5⟩ => ⟨_, _, hv2, ?_⟩
    have e : dictS xs 7 zs = (if zs.getD 0 0 < 0 ∨ (xs.length : Int) ≤ zs.getD 0 0 then (xs, 2, 0) else (xs, 0, (xs.getD (zs.getD 0 0).toNat (0, 0)).1)) := rfl
    have e' : dictS xs 7 zs = (xs, (if zs.getD 0 0 < 0 ∨ (xs.length : Int) ≤ zs.getD 0 0 then 2 else 0), (if zs.getD 0 0 < 0 ∨ (xs.length : Int) ≤ zs.getD 0 0 then 0 else (xs.getD (zs.getD 0 0).toNat (0, 0)).1)) := by
      rw [e]; split <;> rfl
    rw [e']
    exact wfin ⟨by omega, by omega⟩ ta s5
  obtain rfl : code = 8 := by omega
  obtain ⟨root, A1, rfl, _⟩ := ta.vis
  have kt := (s4.at (treeC tb order xs.length root vis)).blk
  refine condYes rfl ⟨_, Blk.cellA kt 1, ?_⟩
  have e : dictS xs 8 zs = (xs, 0, (xs.length : Int)) := rfl
  rw [e]
  exact wfin ⟨by omega, by omega⟩ ta sA
theorem TDo_yes {h0 h : Hp} {order tb : Nat} {xs : List E} {vis : Int} {code : Int} {q : Option Addr} {m cc : Nat} {zs : List Int} {A G : Bag} (hor : 3 ≤ order) (h64 : order ≤ 64) (so : Srt xs) (hmost : xs.length < 500) (hvis : 0 ≤ vis ∧ vis ≤ 1000000000) (ta : TreeA order xs tb vis A) (rz : RdT TI h0 q m zs) (hm : m ≤ 1000000) (s : St h0 h (A + G)) (hv : OpV 1 code zs) :
    HCalls Tryz.prog 9 #[ptr tb, .agg #[.int .i64 code, .slice q m cc]] h (DoP h0 G order tb vis (dictS xs code zs).1 (dictS xs code zs).2.1 (dictS xs code zs).2.2) := by
  refine btree_Tree_Do_call ?_
  rw [btree_Tree_Do_b0_eq]
  refine s.new (cs := [.int .i64 code, .slice q m cc]) fun b1 h1 _ s1 => ?_
  refine s1.new (cs := [.int .i64 0, .int .i64 0, .slice none 0 0]) fun b2 h2 _ s2 => ?_
  have kb := s2.atomBlk
  refine condNo rfl ⟨_, _, _, _, kb.cell 0, Blk.cellA kb 1, (mValid_ok (rz.ext s2.ext) hm).mono fun v1 h3 ⟨hv1, x3⟩ => ⟨_, hv1, ?_⟩⟩
  have s3 := s2.grow x3
  exact condNo (by rw [decide_eq_true hv]; rfl) (TDo_valid hor h64 so hmost hvis ta rz hv s3.to)
theorem TDo_no {h0 h : Hp} {tb : Nat} {code : Int} {q : Option Addr} {m cc : Nat} {zs : List Int} {A : Bag} (rz : RdT TI h0 q m zs) (hm : m ≤ 1000000) (s : St h0 h A) (hv : ¬ OpV 1 code zs) :
    HCalls Tryz.prog 9 #[ptr tb, .agg #[.int .i64 code, .slice q m cc]] h (fun v h' => v = .tuple #[.agg #[.int .i64 0, .int .i64 0, .slice none 0 0], .int .i64 1] ∧ St h0 h' A) := by
  refine btree_Tree_Do_call ?_
  rw [btree_Tree_Do_b0_eq]
  refine s.new (cs := [.int .i64 code, .slice q m cc]) fun b1 h1 _ s1 => ?_
  refine s1.new (cs := [.int .i64 0, .int .i64 0, .slice none 0 0]) fun b2 h2 _ s2 => ?_
  have kb := s2.atomBlk
  refine condNo rfl ⟨_, _, _, _, kb.cell 0, Blk.cellA kb 1, (mValid_ok (rz.ext s2.ext) hm).mono fun v1 h3 ⟨hv1, x3⟩ => ⟨_, hv1, ?_⟩⟩
  have s3 := s2.grow x3
  refine condYes (by rw [decide_eq_false hv]; rfl) ?_
  refine s3.wr rfl (by simp) fun h4 s4 => ?_
  refine s4.wr (o := 1) (add_mk _ _ _) (by simp) fun h5 s5 => ?_
  refine s5.wr (o := 2) (add_mk _ _ _) (by simp) fun h6 s6 => ?_
  exact ⟨_, _, _, _, _, s6.blk.cell 0, Blk.cellA s6.blk 1, Blk.cellA s6.blk 2, rfl, s6.drop.drop⟩
end Go.Proofs.YtkdmcdnfakmapaaGreat

/- slices.Insert of one row, Delete of one row. -/
set_option maxRecDepth 100000
namespace Go.Proofs.YtkdmcdnfakmapaaGreat
open Go Go.Sx
theorem ovl_row : IsExt Tryz.prog 101 (Extern.SlicesOverlaps.overlaps Tryz.f101.params Tryz.f101.resultTypes) :=
  ⟨Tryz.f101, Tryz.func101, by kernel_rfl, by kernel_rfl, by kernel_rfl, by kernel_rfl⟩
theorem ok_rows : ElOk (tS 37) Tryz.prog 29 := elB_spec (by kernel_rfl)
theorem insertR_st {h0 h : Hp} {p : Option Addr} {n c i bv : Nat} {xs : List SH} {x : SH} {cs : List Value} {A F : Bag} (s : St h0 h (A + (cA bv cs (tS 37).e + F))) (a : Sl (tS 37) p n c xs A)
    (hcs : cs = (tS 37).enc x) (hi : i ≤ n) (hn : n < 1000000) :
    HCalls Tryz.prog 78 #[.slice p n c, .int .i64 (i : Int), .slice (some ⟨bv, 0, none⟩) 1 1] h (fun v h' => ∃ p' c' A', v = .slice p' (n + 1) c' ∧ Sl (tS 37) p' (n + 1) c' (xs.take i ++ x :: xs.drop i) A' ∧ St h0 h' (A' + (cA bv cs (tS 37).e + F))) := by
  have hcap := a.cap
  have hlen := a.len
  have one : Sl (tS 37) (some ⟨bv, 0, none⟩) 1 1 [x] (cA bv cs (tS 37).e) := Sl.one hcs
  have rv : RdT (tS 37) h (some ⟨bv, 0, none⟩) 1 [x] := one.rd (s.to (B := cA bv cs (tS 37).e + (A + F)))
  refine slices_Insert_Sint_Sint_call ?_
  rw [slices_Insert_Sint_Sint_b0_eq]
  refine ⟨⟨by omega, by omega, by omega⟩, condNo (by decide) ?_⟩
  have e1 : Int.toNat (i : Int) = i := Int.toNat_natCast i
  have e0 : Int.toNat (0 : Int) = 0 := rfl
  refine condP (fun h1 => ?_) (fun h1 => ?_)
  · have : i = n := by omega
    subst this
    refine append_sl ok_rows s a rv (by omega) fun p' c' h' A' a' s' => ?_
    refine ⟨p', c', A', rfl, ?_, s'⟩
    rw [List.take_of_length_le (by omega), List.drop_eq_nil_of_le (by omega)]
    exact a'
  have hin : i < n := by omega
  have hti : ((tS 37).cells (xs.take i)).length = i * (tS 37).sz := by rw [(tS 37).cells_len, List.length_take]; congr 1; omega
  refine ⟨⟨by omega, by omega⟩, condP (fun h2 => ?_) (fun h2 => ?_)⟩
  · -- a new block
    have hcn : c < n + 1 := by omega
    refine ⟨⟨by omega, by omega, by omega⟩, ⟨by omega, by omega⟩, ⟨by omega, by omega⟩, ?_⟩
    rw [e0, e1, subAddr_z, Nat.sub_zero, Nat.sub_zero]
    have rt : RdT (tS 37) h p i (xs.take i) := (a.rd s).take (by omega)
    have el : (((n : Int) + ((1 : Nat) : Int)) - (i : Int)).toNat = n + 1 - i := by omega
    refine append_make_st ok_rows (by kernel_rfl) (by kernel_rfl) s rt (by omega) (by omega) (by omega) fun b c' h' mid rest hc' hm hr s1 => ?_
    rw [el] at hm hr hc' ⊢
    have hl2 : i + (n + 1 - i) = n + 1 := by omega
    rw [hl2] at hr hc' ⊢
    refine ⟨⟨by omega, by omega, by omega⟩, ?_⟩
    have e2 : Int.toNat (((n + 1 : Nat) : Nat) : Int) = n + 1 := Int.toNat_natCast _
    have e3 : Int.toNat ((i : Int) + ((1 : Nat) : Int)) = i + 1 := by omega
    have e4 : Int.toNat (n : Int) = n := Int.toNat_natCast _
    rw [e2, e3, e4]
    have es1 : subAddr (some ⟨b, 0, none⟩) c' i (tS 37).sz = some ⟨b, i * (tS 37).sz, none⟩ := by rw [subAddr_in' (by omega), Nat.zero_add]
    have es2 : subAddr (some ⟨b, 0, none⟩) c' (i + 1) (tS 37).sz = some ⟨b, (i + 1) * (tS 37).sz, none⟩ := by rw [subAddr_in' (by omega), Nat.zero_add]
    rw [show subAddr (some ⟨b, 0, none⟩) c' i 1 = some ⟨b, i * (tS 37).sz, none⟩ from es1, show subAddr (some ⟨b, 0, none⟩) c' (i + 1) 1 = some ⟨b, (i + 1) * (tS 37).sz, none⟩ from es2]
    have hm1 : mid.length = (tS 37).sz + (n - i) * (tS 37).sz := by rw [hm, show n + 1 - i = 1 + (n - i) by omega, Nat.add_mul, Nat.one_mul]
    have em : mid = mid.take (tS 37).sz ++ mid.drop (tS 37).sz := (List.take_append_drop _ _).symm
    have s2 : St h0 h' (cA b ((tS 37).cells (xs.take i) ++ mid.take (tS 37).sz ++ (mid.drop (tS 37).sz ++ rest)) (tS 37).e + (A + (cA bv cs (tS 37).e + F))) := by
      have e : (tS 37).cells (xs.take i) ++ mid.take (tS 37).sz ++ (mid.drop (tS 37).sz ++ rest) = (tS 37).cells (xs.take i) ++ mid ++ rest := by
        conv => rhs; rw [em]
        simp only [List.append_assoc]
      rw [e]; exact s1
    have rv2 : RdT (tS 37) h' (some ⟨bv, 0, none⟩) 1 [x] := one.rd (s2.to (B := cA bv cs (tS 37).e + (cA b _ _ + (A + F))))
    refine copy_st (j := 1) ok_rows s2 rv2 hti (by omega) (by rw [List.length_take]; omega) fun v1 h3 s3 => ?_
    refine ⟨⟨by omega, by omega⟩, ⟨by omega, by omega, by omega⟩, ⟨by omega, by omega, by omega⟩, ?_⟩
    rw [(tS 37).cells_one] at s3
    have s4 : St h0 h3 (cA b (((tS 37).cells (xs.take i) ++ (tS 37).enc x) ++ mid.drop (tS 37).sz ++ rest) (tS 37).e + (A + (cA bv cs (tS 37).e + F))) := by
      have e : ((tS 37).cells (xs.take i) ++ (tS 37).enc x) ++ mid.drop (tS 37).sz ++ rest = (tS 37).cells (xs.take i) ++ (tS 37).enc x ++ (mid.drop (tS 37).sz ++ rest) := by simp only [List.append_assoc]
      rw [e]; exact s3
    have ra : RdT (tS 37) h3 p n xs := a.rd (s4.to (B := A + (cA b _ _ + (cA bv cs (tS 37).e + F))))
    have rs := ra.sub hi hcap rfl
    refine copy_st (j := n - i) ok_rows s4 rs (by rw [List.length_append, hti, (tS 37).len, Nat.add_mul, Nat.one_mul]) (by omega) (by rw [List.length_drop, hm1, Nat.add_sub_cancel_left]) fun v2 h4 s5 => ?_
    refine ⟨_, _, _, rfl, ⟨by simp; omega, .inr ⟨b, rest, rfl, hc', hr, rfl⟩⟩, ?_⟩
    rw [(tS 37).cells_append, (tS 37).cells_cons]
    have e : (tS 37).cells (xs.take i) ++ ((tS 37).enc x ++ (tS 37).cells (xs.drop i)) ++ rest = (tS 37).cells (xs.take i) ++ (tS 37).enc x ++ (tS 37).cells (xs.drop i) ++ rest := by simp only [List.append_assoc]
    rw [e]
    exact (s5.to (B := A + (cA b _ _ + (cA bv cs (tS 37).e + F)))).drop
  · -- in place
    have hcn : n + 1 ≤ c := by omega
    rcases a with ⟨hl, ⟨rfl, h3, _, _⟩ | ⟨b, rest, rfl, hc, hr, rfl⟩⟩
    · omega
    have a : Sl (tS 37) (some ⟨b, 0, none⟩) n c xs (cA b ((tS 37).cells xs ++ rest) (tS 37).e) := ⟨hl, .inr ⟨b, rest, rfl, hc, hr, rfl⟩⟩
    have e3 : Int.toNat ((i : Int) + ((1 : Nat) : Int)) = i + 1 := by omega
    have e4 : Int.toNat (n : Int) = n := Int.toNat_natCast _
    have e5 : Int.toNat ((n : Int) + ((1 : Nat) : Int)) = n + 1 := by omega
    have e6 : Int.toNat (((n + 1 : Nat) : Nat) : Int) = n + 1 := Int.toNat_natCast _
    simp only [e0, e1, e3, e4, e5, e6, subAddr_z, Nat.sub_zero]
    refine ⟨⟨by omega, by omega⟩, ⟨by omega, by omega, by omega⟩, ⟨by omega, by omega⟩, ⟨by omega, by omega, by omega⟩, ?_⟩
    have es1 : subAddr (some ⟨b, 0, none⟩) c (i + 1) (tS 37).sz = some ⟨b, (i + 1) * (tS 37).sz, none⟩ := by rw [subAddr_in' (by omega), Nat.zero_add]
    rw [show subAddr (some ⟨b, 0, none⟩) c (i + 1) 1 = some ⟨b, (i + 1) * (tS 37).sz, none⟩ from es1]
    obtain ⟨i0, z, hi0, hz, hzs, hzc, hbt⟩ := (ok_rows).info
    have hrl : (tS 37).sz ≤ rest.length := by rw [hr]; calc (tS 37).sz = 1 * (tS 37).sz := (Nat.one_mul _).symm
                                              _ ≤ (c - n) * (tS 37).sz := Nat.mul_le_mul_right _ (by omega)
    have er : rest = rest.take (tS 37).sz ++ rest.drop (tS 37).sz := (List.take_append_drop _ _).symm
    refine overlaps_st ovl_row (t := 29) (e := 37) (by kernel_rfl) (by kernel_rfl) hi0 (s.to (B := cA bv cs (tS 37).e + (cA b _ _ + F))) ⟨_, rfl, ?_⟩
    refine ⟨⟨by omega, by omega⟩, ⟨by omega, by omega, by omega⟩, ⟨by omega, by omega, by omega⟩, ?_⟩
    -- the elements from i on move by one
    have hdl : ((tS 37).cells (xs.drop i)).length = (n - i) * (tS 37).sz := by rw [(tS 37).cells_len, List.length_drop, hl]
    have hd1l : ((tS 37).cells (xs.drop (i + 1))).length = (n - (i + 1)) * (tS 37).sz := by rw [(tS 37).cells_len, List.length_drop, hl]
    have ht1 : ((tS 37).cells (xs.take (i + 1))).length = (i + 1) * (tS 37).sz := by rw [(tS 37).cells_len, List.length_take]; congr 1; omega
    have s1 : St h0 h (cA b ((tS 37).cells (xs.take (i + 1)) ++ ((tS 37).cells (xs.drop (i + 1)) ++ rest.take (tS 37).sz) ++ rest.drop (tS 37).sz) (tS 37).e + (cA bv cs (tS 37).e + F)) := by
      have e : (tS 37).cells (xs.take (i + 1)) ++ ((tS 37).cells (xs.drop (i + 1)) ++ rest.take (tS 37).sz) ++ rest.drop (tS 37).sz = (tS 37).cells xs ++ rest := by
        rw [List.append_assoc, List.append_assoc, ← er, ← List.append_assoc, ← (tS 37).cells_append, List.take_append_drop]
      rw [e]; exact s
    have rx : RdT (tS 37) h (some ⟨b, 0, none⟩) n xs := a.rd s
    have rs : RdT (tS 37) h (subAddr (some ⟨b, 0, none⟩) c i (tS 37).sz) (n - i) (xs.drop i) := rx.sub hi hcap rfl
    refine copy_st (j := n - i) ok_rows s1 rs ht1 (by omega) (by rw [List.length_append, hd1l, List.length_take, Nat.min_eq_left hrl, show n - i = (n - (i + 1)) + 1 by omega, Nat.add_mul, Nat.one_mul]) fun v4 h5 s5 => ?_
    refine ⟨⟨by omega, by omega, by omega⟩, ?_⟩
    have es2 : subAddr (some ⟨b, 0, none⟩) c i (tS 37).sz = some ⟨b, i * (tS 37).sz, none⟩ := by rw [subAddr_in' (by omega), Nat.zero_add]
    rw [show subAddr (some ⟨b, 0, none⟩) c i 1 = some ⟨b, i * (tS 37).sz, none⟩ from es2]
    have s6 : St h0 h5 (cA b ((tS 37).cells (xs.take i) ++ (tS 37).enc xs[i] ++ ((tS 37).cells (xs.drop i) ++ rest.drop (tS 37).sz)) (tS 37).e + (cA bv cs (tS 37).e + F)) := by
      have e : (tS 37).cells (xs.take i) ++ (tS 37).enc xs[i] ++ ((tS 37).cells (xs.drop i) ++ rest.drop (tS 37).sz) = (tS 37).cells (xs.take (i + 1)) ++ (tS 37).cells (xs.drop i) ++ rest.drop (tS 37).sz := by
        rw [List.take_succ_eq_append_getElem (by omega), (tS 37).cells_append, (tS 37).cells_one]; simp only [List.append_assoc]
      rw [e]; exact s5
    have rv5 : RdT (tS 37) h5 (some ⟨bv, 0, none⟩) 1 [x] := one.rd (s6.to (B := cA bv cs (tS 37).e + (cA b _ _ + F)))
    refine copy_st (j := 1) ok_rows s6 rv5 hti (by omega) (by rw [(tS 37).len, Nat.one_mul]) fun v5 h6 s7 => ?_
    refine ⟨_, _, _, rfl, ⟨by simp; omega, .inr ⟨b, rest.drop (tS 37).sz, rfl, hcn, ?_, rfl⟩⟩, ?_⟩
    · rw [List.length_drop, hr, show c - n = (c - (n + 1)) + 1 by omega, Nat.add_mul, Nat.one_mul]; omega
    · rw [(tS 37).cells_one] at s7
      rw [(tS 37).cells_append, (tS 37).cells_cons]
      have e : (tS 37).cells (xs.take i) ++ ((tS 37).enc x ++ (tS 37).cells (xs.drop i)) ++ rest.drop (tS 37).sz = (tS 37).cells (xs.take i) ++ (tS 37).enc x ++ ((tS 37).cells (xs.drop i) ++ rest.drop (tS 37).sz) := by simp only [List.append_assoc]
      rw [e]
      exact s7
theorem deleteR_st {h0 h : Hp} {p : Option Addr} {n c i : Nat} {j : Int} {xs : List SH} {A F : Bag} (s : St h0 h (A + F)) (a : Sl (tS 37) p n c xs A) (hi : i < n) (hj : j = (i : Int) + 1) (hn : n < 1000000) :
    HCalls Tryz.prog 79 #[.slice p n c, .int .i64 (i : Int), .int .i64 j] h (fun v h' => ∃ A', v = .slice p (n - 1) c ∧ Sl (tS 37) p (n - 1) c (xs.take i ++ xs.drop (i + 1)) A' ∧ St h0 h' (A' + F)) := by
  obtain rfl : j = ((i + 1 : Nat) : Int) := by omega
  have hcap := a.cap
  have hlen := a.len
  have rd := a.rd s
  refine slices_Delete_Sint_Sint_call ?_
  rw [slices_Delete_Sint_Sint_b0_eq]
  refine slC_st (ok_rows).el (by omega) (by omega) hcap fun _ => condP (fun h1 => by omega) (fun _ => ?_)
  have e1 : Int.toNat (i : Int) = i := Int.toNat_natCast i
  have e2 : Int.toNat ((i + 1 : Nat) : Int) = i + 1 := Int.toNat_natCast _
  have e3 : Int.toNat (n : Int) = n := Int.toNat_natCast _
  have e0 : Int.toNat (0 : Int) = 0 := rfl
  refine ⟨⟨by omega, by omega, by omega⟩, ⟨by omega, by omega, by omega⟩, ?_⟩
  rw [e0, e1, e2, e3, subAddr_z, Nat.sub_zero, Nat.sub_zero]
  rcases a with ⟨hl, ⟨rfl, h3, _, _⟩ | ⟨b, rest, rfl, hc, hr, rfl⟩⟩
  · omega
  have hti : ((tS 37).cells (xs.take i)).length = i * (tS 37).sz := by rw [(tS 37).cells_len, List.length_take]; congr 1; omega
  have hdl : ((tS 37).cells (xs.drop i)).length = (n - i) * (tS 37).sz := by rw [(tS 37).cells_len, List.length_drop, hl]
  have hd1l : ((tS 37).cells (xs.drop (i + 1))).length = (n - (i + 1)) * (tS 37).sz := by rw [(tS 37).cells_len, List.length_drop, hl]
  have s1 : St h0 h (cA b ((tS 37).cells (xs.take i) ++ ((tS 37).cells (xs.drop i)).take ((n - (i + 1)) * (tS 37).sz) ++ (((tS 37).cells (xs.drop i)).drop ((n - (i + 1)) * (tS 37).sz) ++ rest)) (tS 37).e + F) := by
    have e : (tS 37).cells (xs.take i) ++ ((tS 37).cells (xs.drop i)).take ((n - (i + 1)) * (tS 37).sz) ++ (((tS 37).cells (xs.drop i)).drop ((n - (i + 1)) * (tS 37).sz) ++ rest) = (tS 37).cells xs ++ rest := by
      rw [List.append_assoc, ← List.append_assoc _ _ rest, List.take_append_drop, ← List.append_assoc, ← (tS 37).cells_append, List.take_append_drop]
    rw [e]; exact s
  have hle : (n - (i + 1)) * (tS 37).sz ≤ (n - i) * (tS 37).sz := Nat.mul_le_mul_right _ (by omega)
  refine append_fit_st ok_rows s1 hti (by rw [List.length_take, hdl]; omega) (rd.sub (by omega) hcap rfl) (by omega) fun h' s2 => ?_
  refine ⟨⟨by omega, by omega, by omega⟩, ?_⟩
  have e4 : Int.toNat ((i + (n - (i + 1)) : Nat) : Int) = n - 1 := by omega
  have e5 : i + (n - (i + 1)) = n - 1 := by omega
  rw [e4, show subAddr (some ⟨b, 0, none⟩) c (n - 1) 1 = some ⟨b, (n - 1) * (tS 37).sz, none⟩ by rw [show subAddr (some ⟨b, 0, none⟩) c (n - 1) 1 = subAddr (some ⟨b, 0, none⟩) c (n - 1) (tS 37).sz from rfl, subAddr_in' (by omega), Nat.zero_add]]
  rw [← (tS 37).cells_append, ← List.append_assoc] at s2
  have hl1 : (xs.take i ++ xs.drop (i + 1)).length = n - 1 := by rw [List.length_append, List.length_take, List.length_drop]; omega
  have hn1 : n - (n - 1) = 1 := by omega
  refine clear_st ok_rows s2 (by rw [(tS 37).cells_len, hl1]) (by
    rw [List.length_drop, hdl, ← Nat.sub_mul]; congr 1; omega) fun h2 zs hzl s3 => ?_
  rw [e5]
  refine ⟨_, rfl, ⟨hl1, .inr ⟨b, zs ++ rest, rfl, by omega, ?_, rfl⟩⟩, ?_⟩
  · rw [List.length_append, hzl, hr, ← Nat.add_mul]; congr 1; omega
  · rw [← List.append_assoc]; exact s3
end Go.Proofs.YtkdmcdnfakmapaaGreat

/- Layer 3's model: comparing rows, finding a row. -/
set_option maxRecDepth 100000
namespace Go.Proofs.YtkdmcdnfakmapaaGreat
open Go Go.Sx
def cmpS (x y : Int) : Int := if x < y then -1 else if y < x then 1 else 0
def cmpL : List Int → List Int → Int
  | [], [] => 0
  | [], _ :: _ => -1
  | _ :: _, [] => 1
  | x :: xs, y :: ys => if x < y then -1 else if y < x then 1 else cmpL xs ys
theorem cmp_ok (x y : Int) (h : Hp) : HCalls Tryz.prog 96 #[.int .i64 x, .int .i64 y] h (fun v h' => v = .int .i64 (cmpS x y) ∧ h' = h) := by
  refine cmp_Compare_int_call ?_
  rw [cmp_Compare_int_b0_eq]
  have nan : ∀ (z : Int) {K : Value → Hp → Prop}, K (.bool false) h → HCalls Tryz.prog 109 #[.int .i64 z] h K := fun z K hK => by
    refine cmp_isNaN_int_call ?_
    rw [cmp_isNaN_int_b0_eq, decide_eq_true rfl]
    exact hK
  refine nan x ⟨_, rfl, nan y ⟨_, rfl, condNo rfl (condNo rfl ?_)⟩⟩
  refine condP (fun h1 => ?_) (fun h1 => condP (fun h2 => ?_) (fun h2 => ?_))
  · exact ⟨by rw [cmpS, if_pos h1], rfl⟩
  · exact ⟨by rw [cmpS, if_neg h1, if_pos h2], rfl⟩
  · exact ⟨by rw [cmpS, if_neg h1, if_neg h2], rfl⟩
theorem cmpL_ok {h : Hp} {p q : Option Addr} {n m c d : Nat} {xs ys : List Int} (r1 : RdT TI h p n xs) (r2 : RdT TI h q m ys) (hn : n ≤ 1000000) :
    HCalls Tryz.prog 72 #[.slice p n c, .slice q m d] h (fun v h' => v = .int .i64 (cmpL xs ys) ∧ h' = h) := by
  have hx := r1.len
  have hy := r2.len
  refine slices_Compare_Sint_int_call ?_
  rw [slices_Compare_Sint_int_b0_eq]
  refine ⟨fun s h' => h' = h ∧ ∃ i : Nat, s.1 = i ∧ i ≤ n ∧ i ≤ m ∧ cmpL xs ys = cmpL (xs.drop i) (ys.drop i), fun s _ => n - s.1.toNat, ⟨rfl, 0, rfl, by omega, by omega, rfl⟩, ?_⟩
  rintro ⟨_, _⟩ h1 ⟨rfl, i, rfl, hin, him, heq⟩
  dsimp only
  rw [slices_Compare_Sint_int_b1_eq]
  refine condP (fun hlt => ?_) (fun hge => ?_)
  · refine r1.int (by omega) (by omega) ?_
    rw [Int.toNat_natCast]
    have hil : i < xs.length := by omega
    have hg : xs.getD i 0 = xs[i] := by simp [List.getD, hil]
    have hd : xs.drop i = xs.getD i 0 :: xs.drop (i + 1) := by rw [hg, ← List.drop_eq_getElem_cons hil]
    refine condP (fun hm => ?_) (fun hm => ?_)
    · refine ⟨?_, rfl⟩
      rw [heq, hd, List.drop_of_length_le (show ys.length ≤ i by omega)]
      rfl
    · refine r2.int (by omega) (by omega) ?_
      rw [Int.toNat_natCast]
      have hjl : i < ys.length := by omega
      have hg2 : ys.getD i 0 = ys[i] := by simp [List.getD, hjl]
      have hd2 : ys.drop i = ys.getD i 0 :: ys.drop (i + 1) := by rw [hg2, ← List.drop_eq_getElem_cons hjl]
      refine (cmp_ok _ _ h1).mono fun v h2 ⟨hv, hh⟩ => ⟨_, hv, ?_⟩
      subst hh
      rw [hd, hd2] at heq
      have hc : cmpL (xs.getD i 0 :: xs.drop (i + 1)) (ys.getD i 0 :: ys.drop (i + 1)) = if xs.getD i 0 < ys.getD i 0 then -1 else if ys.getD i 0 < xs.getD i 0 then 1 else cmpL (xs.drop (i + 1)) (ys.drop (i + 1)) := rfl
      rw [hc] at heq
      refine condN (fun hne => ?_) (fun h0 => ?_)
      · refine ⟨?_, rfl⟩
        rw [heq]
        unfold cmpS at hne ⊢
        split
        · rfl
        · split
          · rfl
          · rename_i a b; rw [if_neg a, if_neg b] at hne; exact absurd rfl hne
      · rw [slices_Compare_Sint_int_b2_eq]
        refine ⟨⟨by omega, by omega⟩, ⟨rfl, i + 1, by simp only; omega, by omega, by omega, ?_⟩, by simp only; omega⟩
        rw [heq]
        unfold cmpS at h0
        split
        · rename_i a; rw [if_pos a] at h0; omega
        · split
          · rename_i a b; rw [if_neg a, if_pos b] at h0; omega
          · rfl
  · rw [slices_Compare_Sint_int_b3_eq]
    have hxd : xs.drop i = [] := List.drop_of_length_le (by omega)
    rw [hxd] at heq
    refine condP (fun hlt => ⟨?_, rfl⟩) (fun hlt => ⟨?_, rfl⟩)
    · have hjl : i < ys.length := by omega
      rw [heq, List.drop_eq_getElem_cons hjl]; rfl
    · have : ys.drop i = [] := List.drop_of_length_le (by omega)
      rw [heq, this]; rfl
/-- A row's first elements against a key. -/
def cmpK (rows : List (List Int)) (ks : List Int) (j : Nat) : Int := cmpL ((rows.getD j []).take ks.length) ks
theorem find_ok {h0 h : Hp} {p q : Option Addr} {n c m d t : Nat} {rows : List (List Int)} {ks : List Int} {B G : Bag} (na : RowsA (p, n, c) rows B) (s : St h0 h (B + G)) (rk : RdT TI h q m ks) (hn : n ≤ 1000000) (hm : ∀ r ∈ rows, m ≤ r.length ∧ r.length ≤ 1000000)
    (ht : t ≤ n ∧ (∀ j, j < t → cmpK rows ks j < 0) ∧ ∀ j, t ≤ j → j < n → 0 ≤ cmpK rows ks j) :
    HCalls Tryz.prog 77 #[.slice p n c, .slice q m d] h (fun v h' => v = .tuple #[.int .i64 (t : Int), .bool (decide (t < n ∧ cmpK rows ks t = 0))] ∧ h' = h) := by
  have hrl : rows.length = n := rows_len na
  have hkl := rk.len
  obtain ⟨htn, hlo, hhi⟩ := ht
  -- a row is compared
  have one : ∀ {i : Int} {Q : Option Addr → Nat → Nat → Prop}, 0 ≤ i → i < n → (∀ a l e, (∀ K : Value → Hp → Prop, K (.int .i64 (cmpK rows ks i.toNat)) h → callX Tryz.prog F 100 #[.slice a l e, .slice q m d] h K) → Q a l e) →
      (0 ≤ i ∧ i < (n : Int)) ∧ NN p fun a1 => ∃ (a2 : Option Addr) (L1 C1 : Nat), cell h (a1.add (Int.toNat i * 1)) = some (.slice a2 L1 C1) ∧ Q a2 L1 C1 := by
    intro i Q hi0 hi hq
    refine Nest.at_ (d := []) na s hi0 hi fun a l e Bi Br o hB => hq a l e fun K hK => ?_
    have o : Sl TI a l e (rows.getD i.toNat []) Bi := o
    have hl1 := o.len
    have hcap := o.cap
    have st2 : St h0 h (Bi + (Br + G)) := by rw [hB] at s; exact s.to
    have hil : i.toNat < rows.length := by omega
    have hg : rows.getD i.toNat [] = rows[i.toNat] := by simp [List.getD, hil]
    have hmi := hm _ (List.getElem_mem hil)
    rw [← hg] at hmi
    refine callX_of (by kernel_rfl) (model_find_c1_call ?_)
    rw [model_find_c1_b0_eq]
    have e0 : Int.toNat (0 : Int) = 0 := rfl
    refine ⟨⟨by omega, by omega, by omega⟩, ?_⟩
    rw [e0, subAddr_z, Int.toNat_natCast, Nat.sub_zero, Nat.sub_zero]
    refine (cmpL_ok ((o.rd st2).take (i := m) (by omega)) rk (by omega)).mono fun v h2 ⟨hv, hh⟩ => ⟨_, hv, ?_⟩
    subst hh
    have : cmpK rows ks i.toNat = cmpL ((rows.getD i.toNat []).take m) ks := by rw [cmpK, hkl]
    rw [← this]
    exact hK
  refine model_find_call ?_
  rw [model_find_b0_eq]
  refine HCalls.mono (K := fun v h' => v = .tuple #[.int .i64 (t : Int), .bool (decide (t < n ∧ cmpK rows ks t = 0))] ∧ h' = h) ?_ (fun v h' ⟨hv, hh⟩ => ⟨_, _, hv, rfl, hh⟩)
  refine slices_BinarySearchFunc_Sint_Sint_Sint_call ?_
  rw [slices_BinarySearchFunc_Sint_Sint_Sint_b0_eq]
  refine ⟨fun x h' => h' = h ∧ ∃ i j : Nat, x.1 = i ∧ x.2.1 = j ∧ i ≤ t ∧ t ≤ j ∧ j ≤ n, fun x _ => (x.2.1 - x.1).toNat, ⟨rfl, 0, n, rfl, rfl, by omega, htn, by omega⟩, ?_⟩
  rintro ⟨_, _, _⟩ h1 ⟨rfl, i, j, rfl, rfl, hit, htj, hjn⟩
  dsimp only
  rw [slices_BinarySearchFunc_Sint_Sint_Sint_b1_eq]
  refine condP (fun hlt => ?_) (fun hge => ?_)
  · have e1 : IntKind.u64.wrap ((i : Int) + (j : Int)) = ((i + j : Nat) : Int) := by
      show ((i : Int) + (j : Int)) % 18446744073709551616 = _
      rw [Int.emod_eq_of_lt (by omega) (by omega)]; push_cast; rfl
    refine ⟨⟨by omega, by omega⟩, (((i + j) / 2 : Nat) : Int), ⟨by omega, ?_⟩, ⟨by omega, by omega⟩, ?_⟩
    · rw [e1]
      have : (2 : Int) ^ (min (Int.toNat 1) IntKind.u64.bits) = 2 := by decide
      rw [this]
      rw [Int.fdiv_eq_ediv_of_nonneg _ (by omega)]
      omega
    refine one (by omega) (by omega) fun a l e hX => ?_
    refine hX _ ⟨_, rfl, condP (fun h3 => ?_) (fun h3 => ?_)⟩
    · rw [Int.toNat_natCast] at h3
      have : (i + j) / 2 < t := by
        rcases Nat.lt_or_ge ((i + j) / 2) t with h | h
        · exact h
        · have := hhi _ h (by omega); omega
      exact ⟨⟨by omega, by omega⟩, ⟨rfl, (i + j) / 2 + 1, j, by simp only; omega, rfl, by omega, htj, hjn⟩, by simp only; omega⟩
    · rw [Int.toNat_natCast] at h3
      have : t ≤ (i + j) / 2 := by
        rcases Nat.lt_or_ge ((i + j) / 2) t with h | h
        · have := hlo _ h; omega
        · exact h
      exact ⟨⟨rfl, i, (i + j) / 2, rfl, rfl, hit, this, by omega⟩, by simp only; omega⟩
  · obtain rfl : i = t := by omega
    rw [slices_BinarySearchFunc_Sint_Sint_Sint_b2_eq]
    refine condP (fun hin => ?_) (fun hin => ?_)
    · refine one (by omega) (by omega) fun a l e hX => ?_
      refine hX _ ⟨_, rfl, ?_, rfl⟩
      rw [Int.toNat_natCast]
      rw [show decide (cmpK rows ks i = 0) = decide (i < n ∧ cmpK rows ks i = 0) from decide_eq_decide.2 ⟨fun h => ⟨by omega, h⟩, fun h => h.2⟩]
    · refine ⟨?_, rfl⟩
      rw [decide_eq_false (fun h => hin (by omega))]
theorem mresult_ok (z : Int) (h : Hp) : HCalls Tryz.prog 75 #[.int .i64 z] h (fun v h' => v = .agg #[.int .i64 0, .int .i64 z, .slice none 0 0] ∧ Ext h h') := by
  refine model_result_call ?_
  rw [model_result_b0_eq]
  refine (St.start h).new (cs := [.int .i64 0, .int .i64 0, .slice none 0 0]) fun b1 h1 _ s1 => ?_
  refine s1.wr rfl (by simp) fun h2 s2 => ?_
  refine s2.wr (o := 1) (add_mk _ _ _) (by simp) fun h3 s3 => ?_
  refine s3.wr (o := 2) (add_mk _ _ _) (by simp) fun h4 s4 => ?_
  exact ⟨_, _, _, _, _, s4.blk.cell 0, Blk.cellA s4.blk 1, Blk.cellA s4.blk 2, rfl, s4.ext⟩
theorem mfailed_ok (z : Int) (h : Hp) : HCalls Tryz.prog 76 #[.int .i64 z] h (fun v h' => v = .agg #[.int .i64 z, .int .i64 0, .slice none 0 0] ∧ Ext h h') := by
  refine model_failed_call ?_
  rw [model_failed_b0_eq]
  refine (St.start h).new (cs := [.int .i64 0, .int .i64 0, .slice none 0 0]) fun b1 h1 _ s1 => ?_
  refine s1.wr rfl (by simp) fun h2 s2 => ?_
  refine s2.wr (o := 1) (add_mk _ _ _) (by simp) fun h3 s3 => ?_
  refine s3.wr (o := 2) (add_mk _ _ _) (by simp) fun h4 s4 => ?_
  exact ⟨_, _, _, _, _, s4.blk.cell 0, Blk.cellA s4.blk 1, Blk.cellA s4.blk 2, rfl, s4.ext⟩
end Go.Proofs.YtkdmcdnfakmapaaGreat

/- Layer 3's model: a dictionary's step. -/
set_option maxRecDepth 100000
namespace Go.Proofs.YtkdmcdnfakmapaaGreat
open Go Go.Sx
/-- One more row. -/
theorem mrows_put {h0 h : Hp} {p : Option Addr} {n c i b : Nat} {rows : List (List Int)} {x : List Int} {q : Option Addr} {m d : Nat} {B Bx G : Bag} (na : RowsA (p, n, c) rows B) (o : Sl TI q m d x Bx) (s : St h0 h (cA b [.slice q m d] 37 + (B + (Bx + G)))) (hi : i ≤ n) (hn : n < 1000000) :
    HCalls Tryz.prog 78 #[.slice p n c, .int .i64 (i : Int), .slice (some ⟨b, 0, none⟩) 1 1] h (fun v h' => ∃ q' d' B', v = .slice q' (n + 1) d' ∧ RowsA (q', n + 1, d') (rows.take i ++ x :: rows.drop i) B' ∧ St h0 h' (B' + G)) := by
  obtain ⟨hs, B0, B1, rfl, h1, h2⟩ := na
  obtain ⟨C1, C2, rfl, c1, c2⟩ := AllH.cut h2 i
  have s1 : St h0 h (B0 + (cA b [.slice q m d] (tS 37).e + (C1 + C2 + (Bx + G)))) := s.to (B := B0 + (cA b [.slice q m d] 37 + (C1 + C2 + (Bx + G))))
  refine (insertR_st (x := (q, m, d)) s1 h1 rfl hi hn).mono fun v h' ⟨q', d', B', hv, o', s'⟩ => ⟨q', d', B' + (C1 + (Bx + C2)), hv, ⟨_, B', C1 + (Bx + C2), rfl, o', c1.append ⟨Bx, C2, rfl, o, c2⟩⟩, ?_⟩
  have s' : St h0 h' (B' + (cA b [.slice q m d] 37 + (C1 + C2 + (Bx + G)))) := s'
  exact (s'.to (B := cA b [.slice q m d] 37 + (B' + (C1 + (Bx + C2)) + G))).drop
/-- A row less. -/
theorem mrows_cut {h0 h : Hp} {p : Option Addr} {n c i : Nat} {j : Int} {rows : List (List Int)} {B G : Bag} (na : RowsA (p, n, c) rows B) (s : St h0 h (B + G)) (hi : i < n) (hj : j = (i : Int) + 1) (hn : n < 1000000) :
    HCalls Tryz.prog 79 #[.slice p n c, .int .i64 (i : Int), .int .i64 j] h (fun v h' => ∃ B', v = .slice p (n - 1) c ∧ RowsA (p, n - 1, c) (rows.take i ++ rows.drop (i + 1)) B' ∧ St h0 h' (B' + G)) := by
  obtain ⟨hs, B0, B1, rfl, h1, h2⟩ := na
  obtain ⟨C1, C2, rfl, c1, c2⟩ := AllH.cut h2 i
  obtain ⟨C3, C4, rfl, _, c4⟩ := AllH.cut c2 1
  rw [List.drop_drop, List.drop_drop] at c4
  refine (deleteR_st (s.to (B := B0 + (C1 + (C3 + C4) + G))) h1 hi hj hn).mono fun v h' ⟨B', hv, o, s'⟩ => ⟨B' + (C1 + C4), hv, ⟨_, B', C1 + C4, rfl, o, c1.append c4⟩, (s'.to (B := C3 + (B' + (C1 + C4) + G))).drop⟩
/-- What a step of the model leaves: rows and a result. -/
def MStepP (h0 : Hp) (G : Bag) (rows : List (List Int)) (e z : Int) (v : Value) (h' : Hp) : Prop :=
  ∃ q m d B', v = .tuple #[.slice q m d, .agg #[.int .i64 e, .int .i64 z, .slice none 0 0]] ∧ RowsA (q, m, d) rows B' ∧ St h0 h' (B' + G)
theorem mboxW {h0 h : Hp} {b2 : Nat} {y0 y1 y2 : Value} {D B G : Bag} {p : Option Addr} {n c : Nat} {e z : Int} {rows : List (List Int)} (na : RowsA (p, n, c) rows B)
    (s : St h0 h (cA b2 [y0, y1, y2] 41 + (D + (B + G)))) :
    Wr h ⟨b2, 0, none⟩ (.int .i64 e) fun h4 => Wr h4 ((⟨b2, 0, none⟩ : Addr).add 1) (.int .i64 z) fun h5 => Wr h5 ((⟨b2, 0, none⟩ : Addr).add 2) (.slice none 0 0) fun h6 =>
      ∃ r4 : Int, ∃ r5 : Int, ∃ (r6 : Option Addr) (rL2 rC2 : Nat), cell h6 ⟨b2, 0, none⟩ = some (.int .i64 r4) ∧ cell h6 ((⟨b2, 0, none⟩ : Addr).add 1) = some (.int .i64 r5) ∧ cell h6 ((⟨b2, 0, none⟩ : Addr).add 2) = some (.slice r6 rL2 rC2) ∧
      MStepP h0 G rows e z (.tuple #[.slice p n c, .agg #[.int .i64 r4, .int .i64 r5, .slice r6 rL2 rC2]]) h6 := by
  refine s.wr rfl (by simp) fun h8 s8 => ?_
  refine s8.wr (o := 1) (add_mk _ _ _) (by simp) fun h9 s9 => ?_
  refine s9.wr (o := 2) (add_mk _ _ _) (by simp) fun h10 s10 => ?_
  refine ⟨_, _, _, _, _, s10.blk.cell 0, Blk.cellA s10.blk 1, Blk.cellA s10.blk 2, p, n, c, B, rfl, na, ?_⟩
  exact (s10.drop).drop
theorem mboxT {g : Nat} {args : Array Value} {h0 h : Hp} {b2 : Nat} {y0 y1 y2 : Value} {D B G : Bag} {p : Option Addr} {n c : Nat} {e z : Int} {rows : List (List Int)} (na : RowsA (p, n, c) rows B)
    (s : St h0 h (cA b2 [y0, y1, y2] 41 + (D + (B + G))))
    (hc : HCalls Tryz.prog g args h (fun v h' => v = .agg #[.int .i64 e, .int .i64 z, .slice none 0 0] ∧ Ext h h')) :
    HCalls Tryz.prog g args h fun v1 h3 => ∃ r1 : Int, ∃ r2 : Int, ∃ (r3 : Option Addr) (rL1 rC1 : Nat), v1 = .agg #[.int .i64 r1, .int .i64 r2, .slice r3 rL1 rC1] ∧
      Wr h3 ⟨b2, 0, none⟩ (.int .i64 r1) fun h4 => Wr h4 ((⟨b2, 0, none⟩ : Addr).add 1) (.int .i64 r2) fun h5 => Wr h5 ((⟨b2, 0, none⟩ : Addr).add 2) (.slice r3 rL1 rC1) fun h6 =>
      ∃ r4 : Int, ∃ r5 : Int, ∃ (r6 : Option Addr) (rL2 rC2 : Nat), cell h6 ⟨b2, 0, none⟩ = some (.int .i64 r4) ∧ cell h6 ((⟨b2, 0, none⟩ : Addr).add 1) = some (.int .i64 r5) ∧ cell h6 ((⟨b2, 0, none⟩ : Addr).add 2) = some (.slice r6 rL2 rC2) ∧
      MStepP h0 G rows e z (.tuple #[.slice p n c, .agg #[.int .i64 r4, .int .i64 r5, .slice r6 rL2 rC2]]) h6 :=
  hc.mono fun _ _ ⟨hv, x⟩ => ⟨_, _, _, _, _, hv, mboxW na (s.grow x)⟩
/-- Where a key stands among rows of two. -/
theorem cmpK2 {l : List E} {k : Int} {j : Nat} (hj : j < l.length) : cmpK (l.map row2) [k] j = cmpS (l.getD j (0, 0)).1 k := by
  rw [cmpK, row2_get hj]
  show cmpL [(l.getD j (0, 0)).1] [k] = _
  show (if (l.getD j (0, 0)).1 < k then (-1 : Int) else if k < (l.getD j (0, 0)).1 then 1 else cmpL [] []) = _
  rfl
theorem find_cut {l : List E} {k : Int} (so : Srt l) : (lowS l k).length ≤ l.length ∧ (∀ j, j < (lowS l k).length → cmpK (l.map row2) [k] j < 0) ∧ (∀ j, (lowS l k).length ≤ j → j < l.length → 0 ≤ cmpK (l.map row2) [k] j) ∧
    decide ((lowS l k).length < l.length ∧ cmpK (l.map row2) [k] (lowS l k).length = 0) = hasKey (upS l k) k := by
  have hll := low_len (xs := l) (key := k)
  have hu := upS_len (xs := l) (key := k)
  refine ⟨hll, fun j hj => ?_, fun j hj hjl => ?_, ?_⟩
  · rw [cmpK2 (by omega)]
    have hm : l.getD j (0, 0) ∈ lowS l k := by
      have : l.getD j (0, 0) = (lowS l k)[j] := by
        conv => lhs; rw [hu]
        simp [List.getD, List.getElem?_append_left hj, hj]
      rw [this]; exact List.getElem_mem hj
    have := low_lt _ hm
    rw [cmpS, if_pos this]; decide
  · rw [cmpK2 hjl]
    have hm : l.getD j (0, 0) ∈ upS l k := by
      have hd := up_drop (xs := l) (key := k)
      have : l.getD j (0, 0) = l[j] := by simp [List.getD, hjl]
      rw [this, ← hd]
      exact List.mem_drop_iff_getElem.2 ⟨j - (lowS l k).length, by omega, by simp only [show (lowS l k).length + (j - (lowS l k).length) = j by omega]⟩
    have := up_ge so _ hm
    unfold cmpS
    split
    · omega
    · split <;> omega
  · by_cases hf : hasKey (upS l k) k = true
    · obtain ⟨u1, u2, _⟩ := up_head hf
      rw [hf]
      refine decide_eq_true ⟨u1, ?_⟩
      rw [cmpK2 u1, u2, cmpS, if_neg (by omega), if_neg (by omega)]
    · have hf' : hasKey (upS l k) k = false := by simpa using hf
      rw [hf']
      refine decide_eq_false fun ⟨h1, h2⟩ => hf ?_
      have hd := up_drop (xs := l) (key := k)
      rw [List.drop_eq_getElem_cons h1] at hd
      rw [cmpK2 h1] at h2
      have hg : l.getD (lowS l k).length (0, 0) = l[(lowS l k).length] := by simp [List.getD, h1]
      rw [hg] at h2
      rw [← hd]
      refine decide_eq_true ?_
      unfold cmpS at h2
      split at h2
      · cases h2
      · split at h2
        · cases h2
        · omega
section
variable {h0 h : Hp} {b1 b2 : Nat} {l : List E} {p q : Option Addr} {n c m cc : Nat} {code : Int} {zs : List Int} {B G : Bag}
abbrev MDictP (h0 : Hp) (G : Bag) (l : List E) (c : Int) (zs : List Int) : Value → Hp → Prop := MStepP h0 G ((dictS l c zs).1.map row2) (dictS l c zs).2.1 (dictS l c zs).2.2
theorem mdict_b2_ok (na : RowsA (p, n, c) (l.map row2) B) (s : St h0 h (cA b2 [.int .i64 0, .int .i64 0, .slice none 0 0] 41 + (cA b1 [.int .i64 code, .slice q m cc] 39 + (B + G)))) (hn : n ≤ 1000) (hc : code = 2 ∨ code = 3) :
    model_dict_b2 p n c (some ⟨b1, 0, none⟩) (some ⟨b2, 0, none⟩) ((lowS l (zs.getD 0 0)).length : Int) (hasKey (upS l (zs.getD 0 0)) (zs.getD 0 0)) h (MDictP h0 G l code zs) := by
  have hl : (l.map row2).length = n := rows_len na
  rw [List.length_map] at hl
  have kb1 := s.atomBlk
  have e : dictS l code zs = (if hasKey (upS l (zs.getD 0 0)) (zs.getD 0 0) = true then (if code = 3 then lowS l (zs.getD 0 0) ++ (upS l (zs.getD 0 0)).tail else l, 0, valOf (upS l (zs.getD 0 0))) else (l, 12, 0)) := by
    rcases hc with rfl | rfl <;> rfl
  rw [MDictP, e, model_dict_b2_eq]
  generalize zs.getD 0 0 = k
  by_cases hf : hasKey (upS l k) k = true
  · obtain ⟨u1, u2, u3⟩ := up_head hf
    rw [if_pos hf, hf]
    refine condNo rfl (e_val na (s.at B) (by omega) (by omega) ?_)
    rw [Int.toNat_natCast, u2]
    refine ⟨_, kb1.cell 0, condP (fun h3 => ?_) (fun h3 => ?_)⟩
    · rw [if_pos h3]
      refine ⟨⟨by omega, by omega⟩, ?_⟩
      refine (mrows_cut na (s.to (B := B + (cA b2 [.int .i64 0, .int .i64 0, .slice none 0 0] 41 + (cA b1 [.int .i64 code, .slice q m cc] 39 + G)))) (by omega) rfl (by omega)).mono fun v h' ⟨B', hv, na', s'⟩ => ⟨_, _, _, hv, ?_⟩
      have hrow : (l.map row2).take (lowS l k).length ++ (l.map row2).drop ((lowS l k).length + 1) = (lowS l k ++ (upS l k).tail).map row2 := by
        rw [← List.map_take, ← List.map_drop, u3, low_take, ← List.map_append]
      rw [hrow] at na'
      rw [model_dict_b3_eq]
      exact mboxT na' (s'.to (B := cA b2 [.int .i64 0, .int .i64 0, .slice none 0 0] 41 + (cA b1 [.int .i64 code, .slice q m cc] 39 + (B' + G)))) (mresult_ok _ _)
    · rw [if_neg h3, model_dict_b3_eq]
      exact mboxT na s (mresult_ok _ _)
  · have hf' : hasKey (upS l k) k = false := by simpa using hf
    rw [if_neg hf, hf']
    exact condYes rfl (mboxT na s (mfailed_ok _ _))
theorem mdict_ok (so : Srt l) (na : RowsA (p, n, c) (l.map row2) B) (rz : RdS h0 G TI q m zs) (hmc : m ≤ cc) (s : St h0 h (B + G)) (hn : n ≤ 1000) (hc : 1 ≤ code ∧ code ≤ 8) (h1 : code ≠ 8 → 1 ≤ zs.length) (h2 : code = 1 → zs.length = 2) :
    HCalls Tryz.prog 53 #[.slice p n c, .agg #[.int .i64 code, .slice q m cc]] h (MDictP h0 G l code zs) := by
  have hl : (l.map row2).length = n := rows_len na
  rw [List.length_map] at hl
  refine model_dict_call ?_
  rw [model_dict_b0_eq]
  refine s.new (cs := [.int .i64 code, .slice q m cc]) fun b1 h3 _ s1 => ?_
  refine s1.new (cs := [.int .i64 0, .int .i64 0, .slice none 0 0]) fun b2 h4 _ s2 => ?_
  have s2 : St h0 h4 (cA b2 [.int .i64 0, .int .i64 0, .slice none 0 0] 41 + (cA b1 [.int .i64 code, .slice q m cc] 39 + (B + G))) := s2
  have kb1 := s2.atomBlk
  refine ⟨_, kb1.cell 0, condP (fun h8 => ?_) (fun h8 => ?_)⟩
  · have e : dictS l code zs = (l, 0, (l.length : Int)) := by subst h8; rfl
    rw [MDictP, e, hl]
    exact mboxT na s2 (mresult_ok _ _)
  have hrz : RdT TI h4 q m zs := rz h4 (cA b2 [.int .i64 0, .int .i64 0, .slice none 0 0] 41 + (cA b1 [.int .i64 code, .slice q m cc] 39 + B)) s2.to
  have hzl := hrz.len
  have h1 := h1 h8
  have e0 : Int.toNat (0 : Int) = 0 := rfl
  have e1 : Int.toNat (1 : Int) = 1 := rfl
  refine ⟨_, kb1.cell 0, condP (fun h7 => ?_) (fun h7 => ?_)⟩
  · have e : dictS l code zs = (if zs.getD 0 0 < 0 ∨ (l.length : Int) ≤ zs.getD 0 0 then (l, 2, 0) else (l, 0, (l.getD (zs.getD 0 0).toNat (0, 0)).1)) := by
      subst h7; rfl
    refine ⟨_, _, _, Blk.cellA kb1 1, hrz.int (by omega) (by omega) ?_⟩
    rw [MDictP, e, e0]
    generalize zs.getD 0 0 = k
    refine condP (fun h5 => condP (fun h6 => ?_) (fun h6 => ?_)) (fun h5 => ?_)
    · rw [if_neg (by omega)]
      refine e_key na (s2.at B) (by omega) (by omega) ?_
      exact mboxT na s2 (mresult_ok _ _)
    · rw [if_pos (.inr (by omega)), model_dict_b1_eq]
      exact mboxT na s2 (mfailed_ok _ _)
    · rw [if_pos (.inl (by omega)), model_dict_b1_eq]
      exact mboxT na s2 (mfailed_ok _ _)
  refine ⟨_, _, _, Blk.cellA kb1 1, ⟨by omega, by omega, by omega⟩, ?_⟩
  rw [e0, e1, subAddr_z, Nat.sub_zero]
  have hz1 : zs.take 1 = [zs.getD 0 0] := by
    cases zs with
    | nil => simp at h1
    | cons z zs => simp
  have rk : RdT TI h4 q 1 [zs.getD 0 0] := by rw [← hz1]; exact hrz.take (by omega)
  obtain ⟨f1, f2, f3, f4⟩ := find_cut (k := zs.getD 0 0) so
  refine (find_ok (t := (lowS l (zs.getD 0 0)).length) na (s2.to (B := B + (cA b2 [.int .i64 0, .int .i64 0, .slice none 0 0] 41 + (cA b1 [.int .i64 code, .slice q m cc] 39 + G)))) rk (by omega) (fun r hr => by obtain ⟨e, _, rfl⟩ := List.mem_map.1 hr; simp) ⟨by omega, f2, fun j h1 h2 => f3 j h1 (by omega)⟩).mono fun v h5 ⟨hv, hh⟩ => ⟨_, _, hv, ?_⟩
  subst hh
  rw [← hl, f4, hl]
  refine ⟨_, kb1.cell 0, condP (fun hp => ?_) (fun hp => ?_)⟩
  · have h2 := h2 hp
    have e : dictS l code zs = (if hasKey (upS l (zs.getD 0 0)) (zs.getD 0 0) = true then (lowS l (zs.getD 0 0) ++ (zs.getD 0 0, zs.getD 1 0) :: (upS l (zs.getD 0 0)).tail, 0, 1) else if l.length = 500 then (l, 4, 0) else (lowS l (zs.getD 0 0) ++ (zs.getD 0 0, zs.getD 1 0) :: upS l (zs.getD 0 0), 0, 0)) := by subst hp; rfl
    have hz2 : zs = [zs.getD 0 0, zs.getD 1 0] := by
      match zs, h2 with
      | [a, b], _ => rfl
    rw [MDictP, e]
    refine cond_intro (fun hf => ?_) (fun hf => ?_)
    · obtain ⟨u1, u2, u3⟩ := up_head hf
      rw [if_pos hf]
      refine rows_edit na (s2.at B) (by omega) (by omega) fun q1 l1 d1 Bi Br o hB hset => ⟨_, _, _, Blk.cellA kb1 1, hrz.int (by omega) (by omega) ?_⟩
      rw [Int.toNat_natCast] at o hset
      rw [row2_get (by omega)] at o
      have hl1 : 2 = l1 := o.len
      have s3 : St h0 h5 (Bi + (cA b2 [.int .i64 0, .int .i64 0, .slice none 0 0] 41 + (cA b1 [.int .i64 code, .slice q m cc] 39 + (Br + G)))) := by rw [hB] at s2; exact s2.to
      refine o.wrI s3 (by omega) (by omega) rfl rfl fun h' A' o' s' => ?_
      have na' := hset _ A' o'
      have hrow : (l.map row2).set (lowS l (zs.getD 0 0)).length ((row2 (l.getD (lowS l (zs.getD 0 0)).length (0, 0))).set (Int.toNat (1 : Int)) (zs.getD (Int.toNat (1 : Int)) 0)) = (lowS l (zs.getD 0 0) ++ (zs.getD 0 0, zs.getD 1 0) :: (upS l (zs.getD 0 0)).tail).map row2 := by
        have e1 : (row2 (l.getD (lowS l (zs.getD 0 0)).length (0, 0))).set (Int.toNat (1 : Int)) (zs.getD (Int.toNat (1 : Int)) 0) = row2 (zs.getD 0 0, zs.getD 1 0) := by rw [u2]; rfl
        rw [e1, List.set_eq_take_append_cons_drop, if_pos (by rw [List.length_map]; omega), ← List.map_take, ← List.map_drop, u3, low_take, List.map_append, List.map_cons]
      rw [hrow] at na'
      exact mboxT na' (s'.to (B := cA b2 [.int .i64 0, .int .i64 0, .slice none 0 0] 41 + (cA b1 [.int .i64 code, .slice q m cc] 39 + (A' + Br + G)))) (mresult_ok _ _)
    · rw [if_neg (by rw [hf]; simp)]
      refine condP (fun h5 => ?_) (fun h5 => ?_)
      · rw [if_pos (by omega)]
        exact mboxT na s2 (mfailed_ok _ _)
      · rw [if_neg (by omega)]
        refine ⟨_, _, _, Blk.cellA kb1 1, (cloneI_st hrz (by omega)).mono fun v6 h6 ⟨q6, d6, A6, hv6, o6, t6⟩ => ⟨_, _, _, hv6, ?_⟩⟩
        have s6 := s2.join t6
        refine s6.new (cs := [.slice q6 m d6]) fun b3 h7 x7 s7 => ?_
        have s7 := s7.to (B := cA b3 [.slice q6 m d6] 37 + (B + (A6 + (cA b2 [.int .i64 0, .int .i64 0, .slice none 0 0] 41 + (cA b1 [.int .i64 code, .slice q m cc] 39 + G)))))
        refine (mrows_put na o6 s7 (by omega) (by omega)).mono fun v8 h8 ⟨q', d', B', hv8, na', s8⟩ => ⟨_, _, _, hv8, ?_⟩
        have hrow : (l.map row2).take (lowS l (zs.getD 0 0)).length ++ zs :: (l.map row2).drop (lowS l (zs.getD 0 0)).length = (lowS l (zs.getD 0 0) ++ (zs.getD 0 0, zs.getD 1 0) :: upS l (zs.getD 0 0)).map row2 := by
          rw [← List.map_take, ← List.map_drop, up_drop, low_take, List.map_append, List.map_cons]
          show _ ++ zs :: _ = _ ++ [zs.getD 0 0, zs.getD 1 0] :: _
          rw [← hz2]
        rw [hrow] at na'
        exact mboxT na' (s8.to (B := cA b2 [.int .i64 0, .int .i64 0, .slice none 0 0] 41 + (cA b1 [.int .i64 code, .slice q m cc] 39 + (B' + G)))) (mresult_ok _ _)
  refine condP (fun h6 => ?_) (fun h6 => condP (fun h4 => ?_) (fun h4 => condP (fun h5 => ?_) (fun h5 => ?_)))
  · have e : dictS l code zs = (l, 0, ((lowS l (zs.getD 0 0)).length : Int)) := by subst h6; rfl
    rw [MDictP, e]
    exact mboxT na s2 (mresult_ok _ _)
  · have e : dictS l code zs = (if hasKey (upS l (zs.getD 0 0)) (zs.getD 0 0) = true then (l, 0, zs.getD 0 0) else if (lowS l (zs.getD 0 0)).length = 0 then (l, 12, 0) else (l, 0, (lastOf (lowS l (zs.getD 0 0))).1)) := by subst h4; rfl
    rw [MDictP, e]
    refine cond_intro (fun hf => ?_) (fun hf => ?_)
    · rw [if_pos hf]
      refine ⟨_, _, _, Blk.cellA kb1 1, hrz.int (by omega) (by omega) ?_⟩
      exact mboxT na s2 (mresult_ok _ _)
    · rw [if_neg (by rw [hf]; simp)]
      refine condP (fun h0 => ?_) (fun h0 => ?_)
      · rw [if_pos (by omega)]
        exact mboxT na s2 (mfailed_ok _ _)
      · rw [if_neg (by omega)]
        obtain ⟨w1, _, _⟩ := last_getD (xs := l) (key := zs.getD 0 0) (by omega)
        have ei : Int.toNat (((lowS l (zs.getD 0 0)).length : Int) - 1) = (lowS l (zs.getD 0 0)).length - 1 := by omega
        refine ⟨⟨by omega, by omega⟩, e_key na (s2.at B) (by omega) (by omega) ?_⟩
        rw [ei, ← w1]
        exact mboxT na s2 (mresult_ok _ _)
  · have e : dictS l code zs = (if (lowS l (zs.getD 0 0)).length = l.length then (l, 12, 0) else (l, 0, (headOf (upS l (zs.getD 0 0))).1)) := by subst h5; rfl
    rw [MDictP, e]
    refine condP (fun h0 => ?_) (fun h0 => ?_)
    · rw [if_pos (by omega)]
      exact mboxT na s2 (mfailed_ok _ _)
    · rw [if_neg (by omega)]
      refine e_key na (s2.at B) (by omega) (by omega) ?_
      rw [Int.toNat_natCast]
      have hud := up_drop (xs := l) (key := zs.getD 0 0)
      rw [List.drop_eq_getElem_cons (by omega)] at hud
      have hg : l.getD (lowS l (zs.getD 0 0)).length (0, 0) = l[(lowS l (zs.getD 0 0)).length]'(by omega) := by rw [List.getD_eq_getElem?_getD, List.getElem?_eq_getElem (by omega)]; rfl
      rw [hg, ← hud]
      exact mboxT na s2 (mresult_ok _ _)
  · exact mdict_b2_ok na s2 hn (by omega)
end
end Go.Proofs.YtkdmcdnfakmapaaGreat

/- Layer 3's model: lists of operations, valid ones, Run of a dictionary. -/
set_option maxRecDepth 100000
namespace Go.Proofs.YtkdmcdnfakmapaaGreat
open Go Go.Sx
abbrev OpT := Int × SH
abbrev tO : Ty OpT := ⟨39, 2, fun x => [.int .i64 x.1, .slice x.2.1 x.2.2.1 x.2.2.2], (0, none, 0, 0), fun _ => rfl, by decide, fun _ v hv => by simp at hv; rcases hv with rfl | rfl <;> rfl⟩
abbrev OpL := Int × List Int
/-- A slice of operations, with their arguments. -/
def OpsR (h : Hp) (p : Option Addr) (n : Nat) (ops : List OpL) : Prop :=
  ∃ l : List OpT, RdT tO h p n l ∧ ops.length = n ∧ ∀ i, i < n → (l.getD i tO.d).1 = (ops.getD i (0, [])).1 ∧ (l.getD i tO.d).2.2.1 ≤ (l.getD i tO.d).2.2.2 ∧ RdT TI h (l.getD i tO.d).2.1 (l.getD i tO.d).2.2.1 (ops.getD i (0, [])).2
theorem OpsR.len {h : Hp} {p : Option Addr} {n : Nat} {ops : List OpL} (r : OpsR h p n ops) : ops.length = n := let ⟨_, _, hl, _⟩ := r; hl
theorem OpsR.ext {h h' : Hp} {p : Option Addr} {n : Nat} {ops : List OpL} (r : OpsR h p n ops) (x : Ext h h') : OpsR h' p n ops :=
  let ⟨l, r1, hl, hk⟩ := r; ⟨l, r1.ext x, hl, fun i hi => ⟨(hk i hi).1, (hk i hi).2.1, (hk i hi).2.2.ext x⟩⟩
theorem OpsR.at_ {h h1 : Hp} {p : Option Addr} {n : Nat} {ops : List OpL} {i : Int} {Q : Int → Option Addr → Nat → Nat → Prop} (r : OpsR h p n ops) (x : Ext h h1) (h0 : 0 ≤ i) (hi : i < n)
    (hq : ∀ q m c, m ≤ c → RdT TI h q m (ops.getD i.toNat (0, [])).2 → Q (ops.getD i.toNat (0, [])).1 q m c) :
    (0 ≤ i ∧ i < (n : Int)) ∧ NN p fun a => ∃ x : Int, ∃ (y : Option Addr) (z w : Nat), cell h1 (a.add (Int.toNat i * 2)) = some (.int .i64 x) ∧ cell h1 ((a.add (Int.toNat i * 2)).add 1) = some (.slice y z w) ∧ Q x y z w := by
  obtain ⟨l, r1, hl, hk⟩ := r
  obtain ⟨k1, k2, k3⟩ := hk i.toNat (by omega)
  refine (r1.ext x).idx h0 hi fun _ _ hc => ⟨_, _, _, _, hc 0 (show 0 < 2 by decide), hc 1 (show 1 < 2 by decide), ?_⟩
  rw [k1]
  exact hq _ _ _ k2 k3
/-- Of slices that are readable, the arguments are chosen. -/
theorem OpsR.mk' {h : Hp} {p : Option Addr} {n : Nat} {l : List OpT} (r : RdT tO h p n l) (hz : ∀ x ∈ l, x.2.2.1 ≤ x.2.2.2 ∧ ∃ zs, RdT TI h x.2.1 x.2.2.1 zs) : ∃ ops, OpsR h p n ops := by
  have hl := r.len
  have : ∃ ops : List OpL, ops.length = l.length ∧ ∀ i, i < l.length → (l.getD i tO.d).1 = (ops.getD i (0, [])).1 ∧ (l.getD i tO.d).2.2.1 ≤ (l.getD i tO.d).2.2.2 ∧ RdT TI h (l.getD i tO.d).2.1 (l.getD i tO.d).2.2.1 (ops.getD i (0, [])).2 := by
    clear r hl
    induction l with
    | nil => exact ⟨[], rfl, fun i hi => by simp at hi⟩
    | cons x l ih =>
      obtain ⟨ops, e, hk⟩ := ih fun y hy => hz y (List.mem_cons_of_mem _ hy)
      obtain ⟨hc, zs, rz⟩ := hz x List.mem_cons_self
      refine ⟨(x.1, zs) :: ops, by simp [e], fun i hi => ?_⟩
      cases i with
      | zero => exact ⟨rfl, hc, rz⟩
      | succ i => simpa using hk i (by simpa using hi)
  obtain ⟨ops, e, hk⟩ := this
  exact ⟨ops, l, r, by omega, fun i hi => hk i (by omega)⟩
abbrev AllV (k : Int) (ops : List OpL) : Prop := ∀ o ∈ ops, OpV k o.1 o.2
theorem getD_mem {α : Type} {l : List α} {i : Nat} {d : α} (h : i < l.length) : l.getD i d ∈ l := by
  rw [List.getD_eq_getElem?_getD, List.getElem?_eq_getElem h]
  exact List.getElem_mem h
theorem allV_succ {k : Int} {ops : List OpL} {i : Nat} (hi : i < ops.length) (h : ∀ o ∈ ops.take i, OpV k o.1 o.2) (h1 : OpV k (ops.getD i (0, [])).1 (ops.getD i (0, [])).2) : ∀ o ∈ ops.take (i + 1), OpV k o.1 o.2 := by
  intro o ho
  have hg : ops.getD i (0, []) = ops[i] := by rw [List.getD_eq_getElem?_getD, List.getElem?_eq_getElem hi]; rfl
  rw [List.take_succ_eq_append_getElem hi, List.mem_append, List.mem_singleton, ← hg] at ho
  rcases ho with ho | rfl
  · exact h o ho
  · exact h1
theorem validAll_ok {k : Int} {h : Hp} {p : Option Addr} {n c : Nat} {ops : List OpL} (r : OpsR h p n ops) (hn : n ≤ 1000000) :
    HCalls Tryz.prog 5 #[.int .i64 k, .slice p n c] h (fun v h' => v = .bool (decide (AllV k ops)) ∧ Ext h h') := by
  have hl := r.len
  refine r03_ValidAll_call ?_
  rw [r03_ValidAll_b0_eq]
  refine ⟨fun s h' => Ext h h' ∧ ∃ i : Nat, s.1 = i ∧ i ≤ n ∧ ∀ o ∈ ops.take i, OpV k o.1 o.2, fun s _ => n - s.1.toNat, ⟨Ext.refl h, 0, rfl, by omega, by simp⟩, ?_⟩
  rintro ⟨_, _⟩ h1 ⟨x1, i, rfl, hin, hall⟩
  dsimp only
  rw [r03_ValidAll_b1_eq]
  refine condP (fun hlt => ?_) (fun hge => ?_)
  · refine r.at_ x1 (by omega) (by omega) fun q m d _ rz => ?_
    rw [Int.toNat_natCast] at rz ⊢
    refine (rValid' (rz.ext x1)).mono fun v h2 ⟨hv, x2⟩ => ⟨_, hv, condN (fun hno => ?_) (fun hyes => ?_)⟩
    · exact ⟨by rw [decide_eq_false (fun h => hno (h _ (getD_mem (by omega))))], x1.trans x2⟩
    · rw [r03_ValidAll_b2_eq]
      exact ⟨⟨by omega, by omega⟩, ⟨x1.trans x2, i + 1, by simp only; omega, by omega, allV_succ (by omega) hall hyes⟩, by simp only; omega⟩
  · rw [r03_ValidAll_b3_eq]
    rw [List.take_of_length_le (by omega)] at hall
    exact ⟨by rw [decide_eq_true hall], x1⟩
theorem opsBad_ok {k : Int} {h : Hp} {p p0 : Option Addr} {n c n0 c0 b1 : Nat} {ops : List OpL} (r : OpsR h p n ops) (hn : n ≤ 1000000) (kb : Blk h b1 [.int .i64 k, .slice p0 n0 c0] 31) :
    HCalls Tryz.prog 23 #[.slice p n c, .func (.func 24) #[] #[.pointer (some ⟨b1, 0, none⟩)]] h (fun v h' => v = .bool (!decide (AllV k ops)) ∧ Ext h h') := by
  have hl := r.len
  refine slices_ContainsFunc_Sapi_Op_api_Op_call ?_
  rw [slices_ContainsFunc_Sapi_Op_api_Op_b0_eq]
  refine slices_IndexFunc_Sapi_Op_api_Op_call ?_
  rw [slices_IndexFunc_Sapi_Op_api_Op_b0_eq]
  refine ⟨fun s h' => Ext h h' ∧ ∃ i : Nat, s.1 = i ∧ i ≤ n ∧ ∀ o ∈ ops.take i, OpV k o.1 o.2, fun s _ => n - s.1.toNat, ⟨Ext.refl h, 0, rfl, by omega, by simp⟩, ?_⟩
  rintro ⟨_, _⟩ h1 ⟨x1, i, rfl, hin, hall⟩
  dsimp only
  rw [slices_IndexFunc_Sapi_Op_api_Op_b1_eq]
  refine condP (fun hlt => ?_) (fun hge => ?_)
  · refine r.at_ x1 (by omega) (by omega) fun q m d _ rz => ?_
    rw [Int.toNat_natCast] at rz ⊢
    generalize hop : ops.getD i (0, []) = op at rz ⊢
    show callX Tryz.prog F 24 #[.agg #[.int .i64 op.1, .slice q m d], .pointer (some ⟨b1, 0, none⟩)] _ _
    refine callX_of (by kernel_rfl) (model_Run_c1_call ?_)
    rw [model_Run_c1_b0_eq]
    refine (St.start h1).new (cs := [.int .i64 op.1, .slice q m d]) fun b3 h3 x3 s3 => ?_
    have kb1 := (kb.ext x1).ext x3
    refine ⟨_, kb1.cell 0, _, _, _, _, s3.blk.cell 0, Blk.cellA s3.blk 1, ?_⟩
    refine (mValid' ((rz.ext x1).ext x3)).mono fun v h4 ⟨hv, x4⟩ => ⟨_, hv, ⟨_, rfl, ?_⟩⟩
    have x5 : Ext h h4 := (x1.trans x3).trans x4
    refine condN (fun hno => ?_) (fun hyes => ?_)
    · refine ⟨_, rfl, ?_, x5⟩
      rw [decide_eq_true (by omega), decide_eq_false (fun h => hno (by rw [← hop]; exact h _ (getD_mem (by omega))))]
      rfl
    · rw [slices_IndexFunc_Sapi_Op_api_Op_b2_eq]
      exact ⟨⟨by omega, by omega⟩, ⟨x5, i + 1, by simp only; omega, by omega, allV_succ (by omega) hall (by rw [hop]; exact hyes)⟩, by simp only; omega⟩
  · rw [slices_IndexFunc_Sapi_Op_api_Op_b3_eq]
    rw [List.take_of_length_le (by omega)] at hall
    exact ⟨_, rfl, by rw [decide_eq_true hall]; rfl, x1⟩
/-! ### a new state -/
theorem mnew_ok {k : Int} (hk : 1 ≤ k ∧ k ≤ 6) (h : Hp) : HCalls Tryz.prog 7 #[.int .i64 k] h (fun v h' => v = .tuple #[.agg #[.int .i64 k, .slice none 0 0], .int .i64 0] ∧ Ext h h') := by
  refine model_New_call ?_
  rw [model_New_b0_eq]
  refine (St.start h).new (cs := [.int .i64 0, .slice none 0 0]) fun b1 h1 x1 s1 => ?_
  refine (words_ok k h1).mono fun v1 h2 ⟨q, d, hv1, rw1, x2⟩ => ⟨_, _, _, hv1, ?_⟩
  have hpos : 0 < (wdT k).length := by
    have hk' : k = 1 ∨ k = 2 ∨ k = 3 ∨ k = 4 ∨ k = 5 ∨ k = 6 := by omega
    rcases hk' with rfl | rfl | rfl | rfl | rfl | rfl <;> decide
  obtain ⟨a, rfl⟩ : ∃ a, q = some a := by
    have := (word_load (i := 0) (Q := fun _ _ _ => True) rw1 (by omega) (by omega) trivial).2
    cases q with
    | none => exact this.elim
    | some a => exact ⟨a, rfl⟩
  refine condNo rfl ?_
  have s2 := s1.grow x2
  refine s2.wr rfl (by simp) fun h3 s3 => ?_
  refine s3.wr (o := 1) (add_mk _ _ _) (by simp) fun h4 s4 => ?_
  exact ⟨_, _, _, _, s4.blk.cell 0, Blk.cellA s4.blk 1, rfl, s4.ext⟩
theorem mwidth_ok (h : Hp) : HCalls Tryz.prog 70 #[.int .i64 1] h (fun v h' => v = .tuple #[.int .i64 2, .int .i64 1] ∧ h' = h) := by
  refine model_width_call ?_
  rw [model_width_b0_eq]
  exact condYes rfl ⟨rfl, rfl⟩
/-- The empty dictionary is valid. -/
theorem mvalid0_ok (h : Hp) : HCalls Tryz.prog 22 #[.agg #[.int .i64 1, .slice none 0 0]] h (fun v h' => v = .bool true ∧ Ext h h') := by
  refine model_Valid_call ?_
  rw [model_Valid_b0_eq]
  refine (St.start h).new (cs := [.int .i64 1, .slice none 0 0]) fun b1 h1 x1 s1 => ?_
  refine ⟨_, s1.blk.cell 0, condYes rfl ?_⟩
  rw [model_Valid_b1_eq]
  refine condYes rfl ⟨_, _, _, _, s1.blk.cell 0, Blk.cellA s1.blk 1, ?_⟩
  refine HCalls.mono (K := fun v h' => v = .bool true ∧ Ext h h') ?_ fun v h' ⟨hv, x⟩ => ⟨_, hv, rfl, x⟩
  refine model_validRows_call ?_
  rw [model_validRows_b0_eq]
  refine s1.new (cs := [.int .i64 1, .slice none 0 0]) fun b2 h2 x2 s2 => ?_
  refine ⟨_, _, _, Blk.cellA s2.blk 1, condNo rfl ⟨_, s2.blk.cell 0, ?_⟩⟩
  refine (mwidth_ok h2).mono fun v h3 ⟨hv, hh⟩ => ⟨_, _, hv, ?_⟩
  subst hh
  refine ⟨_, _, _, Blk.cellA s2.blk 1, ?_⟩
  refine ⟨fun s h' => h' = h3 ∧ s.1 = 0, fun _ _ => 0, ⟨rfl, rfl⟩, ?_⟩
  rintro ⟨_, _⟩ h4 ⟨rfl, rfl⟩
  dsimp only
  rw [model_validRows_b1_eq]
  refine condNo rfl ?_
  rw [model_validRows_b3_eq]
  exact ⟨rfl, s2.ext⟩
theorem copied0_ok (h : Hp) : HCalls Tryz.prog 26 #[.slice none 0 0] h (fun v h' => v = .slice none 0 0 ∧ h' = h) := by
  refine model_copied_call ?_
  rw [model_copied_b0_eq]
  refine ⟨fun s h' => h' = h ∧ s = ((none, 0, 0), 0, ()), fun _ _ => 0, ⟨rfl, rfl⟩, ?_⟩
  rintro _ h4 ⟨rfl, rfl⟩
  dsimp only
  rw [model_copied_b1_eq]
  refine condNo rfl ?_
  rw [model_copied_b3_eq]
  exact ⟨rfl, rfl⟩
/-! ### Run -/
abbrev ResL := Int × Int
abbrev tRes : Ty ResL := ⟨41, 3, fun x => [.int .i64 x.1, .int .i64 x.2, .slice none 0 0], (0, 0), fun _ => rfl, by decide, fun _ v hv => by simp at hv; rcases hv with rfl | rfl | rfl <;> rfl⟩
theorem ok_res : ElOk tRes Tryz.prog 34 := elB_spec (by kernel_rfl)
/-- What a list of operations does to a dictionary: what is left, and the results. -/
def runS (ops : List OpL) : List E × List ResL := ops.foldl (fun s o => ((dictS s.1 o.1 o.2).1, s.2 ++ [(dictS s.1 o.1 o.2).2])) ([], [])
theorem runS_succ {ops : List OpL} {i : Nat} (hi : i < ops.length) : runS (ops.take (i + 1)) = ((dictS (runS (ops.take i)).1 (ops.getD i (0, [])).1 (ops.getD i (0, [])).2).1, (runS (ops.take i)).2 ++ [(dictS (runS (ops.take i)).1 (ops.getD i (0, [])).1 (ops.getD i (0, [])).2).2]) := by
  have hg : ops.getD i (0, []) = ops[i] := by rw [List.getD_eq_getElem?_getD, List.getElem?_eq_getElem hi]; rfl
  rw [List.take_succ_eq_append_getElem hi, ← hg]
  unfold runS
  rw [List.foldl_append]
  rfl
theorem runS_len : ∀ {ops : List OpL} {i : Nat}, i ≤ ops.length → (runS (ops.take i)).2.length = i
  | ops, 0, _ => by rw [List.take_zero]; rfl
  | ops, i + 1, h => by rw [runS_succ (by omega), List.length_append, runS_len (by omega)]; rfl
/-- The results do not change later. -/
theorem runS_get {ops : List OpL} {i : Nat} (hi : i < ops.length) : ∀ {j : Nat}, i < j → j ≤ ops.length → (runS (ops.take j)).2.getD i (0, 0) = (dictS (runS (ops.take i)).1 (ops.getD i (0, [])).1 (ops.getD i (0, [])).2).2
  | 0, h, _ => by omega
  | j + 1, h, hj => by
    rw [runS_succ (by omega)]
    have hl := runS_len (ops := ops) (i := j) (by omega)
    rcases Nat.lt_or_ge i j with h1 | h1
    · rw [← runS_get hi h1 (by omega), List.getD_eq_getElem?_getD, List.getElem?_append_left (by omega), ← List.getD_eq_getElem?_getD]
    · obtain rfl : i = j := by omega
      rw [List.getD_eq_getElem?_getD, List.getElem?_append_right (by omega), hl, Nat.sub_self]
      rfl
/-- An entry whose key and value may be ones. -/
abbrev KeysP (xs : List E) : Prop := ∀ e ∈ xs, KeyP e.1 ∧ KeyP e.2
theorem dictS_keys {xs : List E} {c : Int} {zs : List Int} (hx : KeysP xs) (hv : OpV 1 c zs) : KeysP (dictS xs c zs).1 := by
  obtain ⟨hc, hz1, hz2, hz⟩ := opv1 hv
  have lo : ∀ k, KeysP (lowS xs k) := fun k e he => hx e (low_sub.mem he)
  have up : ∀ k, KeysP (upS xs k) := fun k e he => hx e (up_sub.mem he)
  have tl : ∀ k, KeysP (upS xs k).tail := fun k e he => up k e (List.mem_of_mem_tail he)
  have hk : ∀ i, i < zs.length → KeyP (zs.getD i 0) := fun i hi => hz _ (getD_mem hi)
  have app : ∀ {a b : List E}, KeysP a → KeysP b → KeysP (a ++ b) := fun ha hb e he => (List.mem_append.1 he).elim (ha e) (hb e)
  have cons : ∀ {x : E} {b : List E}, KeyP x.1 ∧ KeyP x.2 → KeysP b → KeysP (x :: b) := fun hx hb e he => (List.mem_cons.1 he).elim (fun h => by rw [h]; exact hx) (hb e)
  unfold dictS
  split
  · exact hx
  split
  · rename_i h1
    have := hz2 h1
    split
    · exact app (lo _) (cons ⟨hk 0 (by omega), hk 1 (by omega)⟩ (tl _))
    · split
      · exact hx
      · exact app (lo _) (cons ⟨hk 0 (by omega), hk 1 (by omega)⟩ (up _))
  split
  · split <;> exact hx
  split
  · split
    · exact app (lo _) (tl _)
    · exact hx
  split
  · split
    · exact hx
    · split <;> exact hx
  split
  · split <;> exact hx
  split
  · exact hx
  · split <;> exact hx
theorem dictS_fact {xs : List E} {c : Int} {zs : List Int} (so : Srt xs) : Srt (dictS xs c zs).1 ∧ (dictS xs c zs).1.length ≤ xs.length + 1 := by
  have hX : Srt (lowS xs (zs.getD 0 0)) := so.sublist low_sub
  have hY : Srt (upS xs (zs.getD 0 0)) := so.sublist up_sub
  have hlen := congrArg List.length (upS_len (xs := xs) (key := zs.getD 0 0))
  rw [List.length_append] at hlen
  unfold dictS
  split
  · exact ⟨so, Nat.le_succ _⟩
  split
  · split
    · rename_i hk
      refine ⟨srt_ins hX (hY.sublist (List.tail_sublist _)) low_lt (up_tail_gt so hk), ?_⟩
      simp only [List.length_append, List.length_cons, List.length_tail]; omega
    · rename_i hk
      split
      · exact ⟨so, Nat.le_succ _⟩
      · refine ⟨srt_ins hX hY low_lt (key_gt hY (up_ge so) (by simpa using hk)), ?_⟩
        simp only [List.length_append, List.length_cons]; omega
  split
  · split <;> exact ⟨so, Nat.le_succ _⟩
  split
  · split
    · refine ⟨?_, ?_⟩
      · have h1 : Srt (lowS xs (zs.getD 0 0) ++ upS xs (zs.getD 0 0)) := by rw [← upS_len]; exact so
        exact h1.sublist (List.Sublist.append (List.Sublist.refl _) (List.tail_sublist _))
      · simp only [List.length_append, List.length_tail]; omega
    · exact ⟨so, Nat.le_succ _⟩
  split
  · split
    · exact ⟨so, Nat.le_succ _⟩
    · split <;> exact ⟨so, Nat.le_succ _⟩
  split
  · split <;> exact ⟨so, Nat.le_succ _⟩
  split
  · exact ⟨so, Nat.le_succ _⟩
  · split <;> exact ⟨so, Nat.le_succ _⟩
/-- Boxes written, and the end. -/
theorem runS_facts {ops : List OpL} (hv : AllV 1 ops) : ∀ {i : Nat}, i ≤ ops.length → Srt (runS (ops.take i)).1 ∧ (runS (ops.take i)).1.length ≤ i ∧ KeysP (runS (ops.take i)).1
  | 0, _ => by rw [List.take_zero]; exact ⟨List.Pairwise.nil, Nat.le_refl 0, fun e he => by cases he⟩
  | i + 1, h => by
    obtain ⟨h1, h2, h3⟩ := runS_facts hv (i := i) (by omega)
    rw [runS_succ (by omega)]
    have hd := dictS_fact (c := (ops.getD i (0, [])).1) (zs := (ops.getD i (0, [])).2) h1
    exact ⟨hd.1, by have := hd.2; simp only; omega, dictS_keys h3 (hv _ (getD_mem (by omega)))⟩
theorem mapply_ok {h0 h : Hp} {l : List E} {p q : Option Addr} {n c m cc : Nat} {code : Int} {zs : List Int} {B G : Bag} (so : Srt l) (na : RowsA (p, n, c) (l.map row2) B) (rz : RdT TI h0 q m zs) (hmc : m ≤ cc) (s : St h0 h (B + G)) (hn : n ≤ 1000) (hv : OpV 1 code zs) :
    HCalls Tryz.prog 27 #[.int .i64 1, .slice p n c, .agg #[.int .i64 code, .slice q m cc]] h (MDictP h0 G l code zs) := by
  obtain ⟨hc, hz1, hz2, _⟩ := opv1 hv
  have hlen : code = 1 → zs.length = 2 := fun h => by
    subst h
    have := hv.2
    rw [if_neg (by decide)] at this
    have := this.1
    have e : (arT 1).getD ((1 : Int) - 1).toNat 0 = 2 := rfl
    omega
  refine model_apply_call ?_
  rw [model_apply_b0_eq]
  refine s.new (cs := [.int .i64 code, .slice q m cc]) fun b1 h1 _ s1 => ?_
  refine s1.new (cs := [.int .i64 0, .int .i64 0, .slice none 0 0]) fun b2 h2 _ s2 => ?_
  have s2 : St h0 h2 (cA b2 [.int .i64 0, .int .i64 0, .slice none 0 0] 41 + (cA b1 [.int .i64 code, .slice q m cc] 39 + (B + G))) := s2
  have kb1 := s2.atomBlk
  refine condYes rfl ⟨_, _, _, _, kb1.cell 0, Blk.cellA kb1 1, ?_⟩
  refine (mdict_ok so na (G := cA b2 [.int .i64 0, .int .i64 0, .slice none 0 0] 41 + (cA b1 [.int .i64 code, .slice q m cc] 39 + G)) (fun h' A s' => rz.ext s'.ext) hmc s2.to hn hc hz1 hlen).mono fun v h3 ⟨q', m', d', B', hv, na', s3⟩ => ⟨_, _, _, _, _, _, _, _, hv, ?_⟩
  have s3 := s3.to (B := cA b2 [.int .i64 0, .int .i64 0, .slice none 0 0] 41 + (cA b1 [.int .i64 code, .slice q m cc] 39 + (B' + G)))
  exact mboxW na' s3
/-- The states and results that a run of a dictionary leaves. -/
def RunP (h : Hp) (ops : List OpL) (v : Value) (h' : Hp) : Prop :=
  ∃ q m d o od B C, v = .tuple #[.agg #[.int .i64 1, .slice q m d], .slice o ops.length od, .int .i64 0] ∧ RowsA (q, m, d) ((runS ops).1.map row2) B ∧ Sl tRes o ops.length od (runS ops).2 C ∧ St h h' (B + (C + 0))
theorem run_ok {h : Hp} {p : Option Addr} {n c : Nat} {ops : List OpL} (r : OpsR h p n ops) (hn : n ≤ 1000) (hv : AllV 1 ops) :
    HCalls Tryz.prog 8 #[.agg #[.int .i64 1, .slice none 0 0], .slice p n c] h (RunP h ops) := by
  have hl := r.len
  refine model_Run_call ?_
  rw [model_Run_b0_eq]
  refine (St.start h).new (cs := [.int .i64 1, .slice none 0 0]) fun b1 h1 _ s1 => ?_
  refine s1.new (cs := [.int .i64 0, .slice none 0 0]) fun b2 h2 _ s2 => ?_
  have kb1 := s2.atomBlk
  refine ⟨_, _, _, _, kb1.cell 0, Blk.cellA kb1 1, ?_⟩
  refine (mvalid0_ok h2).mono fun v1 h3 ⟨hv1, x3⟩ => ⟨_, hv1, condNo rfl ?_⟩
  have s3 := s2.grow x3
  have kb1 := s3.atomBlk
  refine (opsBad_ok (r.ext s3.ext) (by omega) kb1).mono fun v2 h4 ⟨hv2, x4⟩ => ⟨_, hv2, condNo (by rw [decide_eq_true hv]; rfl) ?_⟩
  have s4 := s3.grow x4
  have kb1 := s4.atomBlk
  rw [model_Run_b1_eq]
  refine condP (fun h => by omega) (fun _ => ⟨_, _, _, Blk.cellA kb1 1, ?_⟩)
  refine (copied0_ok h4).mono fun v3 h5 ⟨hv3, hh5⟩ => ⟨_, _, _, hv3, ?_⟩
  subst hh5
  have s5 : St h h5 (cA b2 [.int .i64 0, .slice none 0 0] 31 + (cA b1 [.int .i64 1, .slice none 0 0] 31 + 0)) := s4
  refine ⟨fun x h' => ∃ (i : Nat) (B C : Bag), x.2.2.1 = i ∧ i ≤ n ∧ RowsA (x.1.1, x.1.2.1, x.1.2.2) ((runS (ops.take i)).1.map row2) B ∧ Sl tRes x.2.1.1 x.2.1.2.1 x.2.1.2.2 (runS (ops.take i)).2 C ∧ St h h' (B + (C + (cA b2 [.int .i64 0, .slice none 0 0] 31 + (cA b1 [.int .i64 1, .slice none 0 0] 31 + 0)))), fun x _ => n - x.2.2.1.toNat, ⟨0, 0, 0, rfl, by omega, Nest.nil, Sl.nil, s5.to⟩, ?_⟩
  rintro ⟨⟨rp, rn, rc⟩, ⟨op, on, oc⟩, _, _⟩ h6 ⟨i, B, C, rfl, hin, na, oa, s6⟩
  dsimp only at na oa ⊢
  obtain ⟨f1, f2, f3⟩ := runS_facts hv (i := i) (by omega)
  have hrl : ((runS (ops.take i)).1.map row2).length = rn := rows_len na
  rw [List.length_map] at hrl
  have hol := oa.len
  rw [runS_len (by omega)] at hol
  rw [model_Run_b2_eq]
  refine condP (fun hlt => ?_) (fun hge => ?_)
  · refine r.at_ s6.ext (by omega) (by omega) fun q m d hmd rz => ?_
    rw [Int.toNat_natCast] at rz ⊢
    have hov := hv _ (getD_mem (l := ops) (i := i) (d := (0, [])) (by omega))
    have hru := runS_succ (ops := ops) (i := i) (by omega)
    generalize ops.getD i (0, []) = opx at rz hov hru ⊢
    refine s6.new (cs := [.int .i64 0, .slice none 0 0]) fun b3 h7 _ s7 => ?_
    refine s7.wr rfl (by simp) fun h8 s8 => ?_
    refine s8.wr (o := 1) (add_mk _ _ _) (by simp) fun h9 s9 => ?_
    have s9 : St h h9 (cA b3 [.int .i64 opx.1, .slice q m d] 39 + (B + (C + (cA b2 [.int .i64 0, .slice none 0 0] 31 + (cA b1 [.int .i64 1, .slice none 0 0] 31 + 0))))) := s9
    have kb1 := (s9.at (cA b1 [.int .i64 1, .slice none 0 0] 31)).blk
    refine ⟨_, kb1.cell 0, _, _, _, _, s9.blk.cell 0, Blk.cellA s9.blk 1, ?_⟩
    refine (mapply_ok f1 na rz hmd (s9.to (B := B + (C + (cA b3 [.int .i64 opx.1, .slice q m d] 39 + (cA b2 [.int .i64 0, .slice none 0 0] 31 + (cA b1 [.int .i64 1, .slice none 0 0] 31 + 0)))))) (by omega) hov).mono fun v4 h10 ⟨q', m', d', B', hv4, na', s10⟩ => ⟨_, _, _, _, _, _, _, _, hv4, ?_⟩
    refine s10.new (cs := [.int .i64 0, .int .i64 0, .slice none 0 0]) fun b4 h11 _ s11 => ?_
    refine s11.wr rfl (by simp) fun h12 s12 => ?_
    refine s12.wr (o := 1) (add_mk _ _ _) (by simp) fun h13 s13 => ?_
    refine s13.wr (o := 2) (add_mk _ _ _) (by simp) fun h14 s14 => ?_
    refine ⟨_, _, _, _, _, s14.blk.cell 0, Blk.cellA s14.blk 1, Blk.cellA s14.blk 2, ?_⟩
    have s14 := s14.drop
    refine s14.new (cs := [.int .i64 (dictS (runS (ops.take i)).1 opx.1 opx.2).2.1, .int .i64 (dictS (runS (ops.take i)).1 opx.1 opx.2).2.2, .slice none 0 0]) fun b5 h15 _ s15 => ?_
    have sx : Sl tRes (some ⟨b5, 0, none⟩) 1 1 [(dictS (runS (ops.take i)).1 opx.1 opx.2).2] (cA b5 [.int .i64 (dictS (runS (ops.take i)).1 opx.1 opx.2).2.1, .int .i64 (dictS (runS (ops.take i)).1 opx.1 opx.2).2.2, .slice none 0 0] 41) := Sl.of_blk (T := tRes) (xs := [(dictS (runS (ops.take i)).1 opx.1 opx.2).2]) rfl rfl
    have s15' := s15.to (B := C + (cA b5 [.int .i64 (dictS (runS (ops.take i)).1 opx.1 opx.2).2.1, .int .i64 (dictS (runS (ops.take i)).1 opx.1 opx.2).2.2, .slice none 0 0] 41 + (B' + (cA b3 [.int .i64 opx.1, .slice q m d] 39 + (cA b2 [.int .i64 0, .slice none 0 0] 31 + (cA b1 [.int .i64 1, .slice none 0 0] 31 + 0))))))
    refine append_sl ok_res s15' oa (sx.rd s15) (by omega) fun a1 c1 h16 C' oa' s16 => ?_
    rw [model_Run_b3_eq]
    refine ⟨⟨by omega, by omega⟩, ⟨i + 1, B', C', by simp only; omega, by omega, by rw [hru]; exact na', by rw [hru]; exact oa', ?_⟩, by simp only; omega⟩
    exact (s16.to (B := (cA b5 [.int .i64 (dictS (runS (ops.take i)).1 opx.1 opx.2).2.1, .int .i64 (dictS (runS (ops.take i)).1 opx.1 opx.2).2.2, .slice none 0 0] 41 + cA b3 [.int .i64 opx.1, .slice q m d] 39) + (B' + (C' + (cA b2 [.int .i64 0, .slice none 0 0] 31 + (cA b1 [.int .i64 1, .slice none 0 0] 31 + 0)))))).drop
  · obtain rfl : i = n := by omega
    rw [List.take_of_length_le (by omega)] at na oa
    rw [model_Run_b4_eq]
    have kb1 := (s6.at (cA b1 [.int .i64 1, .slice none 0 0] 31)).blk
    refine ⟨_, kb1.cell 0, ?_⟩
    have s6 := s6.to (B := cA b2 [.int .i64 0, .slice none 0 0] 31 + (cA b1 [.int .i64 1, .slice none 0 0] 31 + (B + (C + 0))))
    refine s6.wr rfl (by simp) fun h7 s7 => ?_
    refine s7.wr (o := 1) (add_mk _ _ _) (by simp) fun h8 s8 => ?_
    refine ⟨_, _, _, _, s8.blk.cell 0, Blk.cellA s8.blk 1, rp, rn, rc, op, oc, B, C, ?_, na, ?_, (s8.drop).drop⟩
    · subst hol; rw [hl]
    · subst hol; rw [hl]; exact oa
end Go.Proofs.YtkdmcdnfakmapaaGreat

/- How a slice that is handed in is read: elements of any number of cells. -/
namespace Go.Sx
open Go Go.ChangeShapes Go.WideShapes Go.Deep
section
variable {H : Type} {enc : TypeId × Value → H} {P : Program} {w : World} {base : Nat} {sp : Nat → Bool} {held : Bool} {α : Type}
theorem rd_flat {t : TypeId} (T : Ty α) {W : α → Prop} {a : Option Addr} {len cap : Nat} {d : DataW H} {ps : List MemPlace} (ht : P.underlying t = some (.slice T.e)) (hc : P.cellsOf T.e = T.sz)
    (dec : ∀ n cs x, DataW.trod enc P w base sp held n T.e cs = some x → ∃ a, cs = T.enc a ∧ W a) (h : DataW.Trod enc P w base sp held t (.slice a len cap) d ps) :
    ∃ xs : List α, RdT T w.heap a len xs ∧ len ≤ cap ∧ ∀ x ∈ xs, W x := by
  obtain ⟨fuel, hf⟩ := h
  have e0 : (Value.slice a len cap).cells.toList = [.slice a len cap] := rfl
  rw [e0] at hf
  rcases open_slice ht hf with ⟨hcs, _⟩ | ⟨x, l, c, m, n, D, Pl, hcs, _, hl, _, hm, _, hx⟩
  · injection hcs with h1 _
    injection h1 with h1 h2 h3
    subst h1 h2 h3
    exact ⟨[], RdT.nil _ _, Nat.le_refl _, fun _ h => nomatch h⟩
  · injection hcs with h1 _
    injection h1 with h1 h2 h3
    subst h1 h2 h3
    have hlm : len ≤ m := by rw [hm]; split <;> omega
    haveI : Inhabited α := ⟨T.d⟩
    obtain ⟨f, hf⟩ := choose_lt (α := α) (n := len) (p := fun i z => w.cells? base (x.add (i * T.sz)) T.sz = some (T.enc z) ∧ W z) (fun i hi => by
      obtain ⟨cs, h1, h2⟩ := hx i (by omega)
      obtain ⟨z, hz, hw⟩ := dec n cs _ h2
      rw [hc] at h1
      exact ⟨z, by rw [h1, hz], hw⟩)
    refine ⟨(List.range len).map f, ⟨by simp, .inr ⟨x, rfl, fun i hi => ?_⟩⟩, hl, fun z hz => ?_⟩
    · have hp := T.pos
      have hdm : T.sz * (i / T.sz) + i % T.sz = i := Nat.div_add_mod i T.sz
      have hq : i / T.sz < len := (Nat.div_lt_iff_lt_mul hp).2 hi
      have hr : i % T.sz < T.sz := Nat.mod_lt _ hp
      obtain ⟨_, _, h3⟩ := World.cells?_some (hf _ hq).1
      have h4 := h3 _ hr
      have e1 : i / T.sz * T.sz + i % T.sz = i := by rw [Nat.mul_comm]; exact hdm
      rw [add_add, e1] at h4
      show cell w.heap (x.add i) = _
      rw [← cell_eq, h4]
      have := T.cells_get ((List.range len).map f) (i := i / T.sz) (j := i % T.sz) (by simpa using hq) hr
      rw [e1] at this
      rw [this]
      simp [List.getD, hq]
    · obtain ⟨i, hi, rfl⟩ := List.mem_map.1 hz
      exact (hf i (List.mem_range.1 hi)).2
theorem dec_int {e : TypeId} {k : IntKind} (he : P.underlying e = some (.int k)) (n : Nat) (cs : List Value) (x : DataW H × List MemPlace) (h : DataW.trod enc P w base sp held n e cs = some x) : ∃ z, cs = [.int k z] ∧ (Lit.int k z).wf = true := by
  obtain ⟨z, h1, _, h2⟩ := DataW.trod_int he h
  exact ⟨z, h1, h2⟩
/-- An array of two numbers. -/
theorem dec_arr2 {t e : TypeId} (ht : P.underlying t = some (.array 2 e)) (he : P.underlying e = some (.int .i64)) (ce : P.cellsOf e = 1) (ct : P.cellsOf t = 2) (n : Nat) (cs : List Value) (x : DataW H × List MemPlace) (h : DataW.trod enc P w base sp held n t cs = some x) :
    ∃ a : Int × Int, cs = [.int .i64 a.1, .int .i64 a.2] ∧ (InR a.1 ∧ InR a.2) := by
  obtain ⟨xs, m, _, _, hl, hxl, hx⟩ := DataW.trod_array ht h
  rw [ct] at hl
  match cs, hl with
  | [c0, c1], _ =>
    have h0 := hx 0 (by omega)
    have h1 := hx 1 (by omega)
    rw [ce] at h0 h1
    rw [List.getElem?_eq_getElem (by omega)] at h0 h1
    obtain ⟨z0, e0, _, w0⟩ := DataW.trod_int he h0
    obtain ⟨z1, e1, _, w1⟩ := DataW.trod_int he h1
    simp at e0 e1
    subst e0 e1
    have b0 := bounds_i64 w0
    have b1 := bounds_i64 w1
    exact ⟨(z0, z1), rfl, b0, b1⟩
end
end Go.Sx

/- How the law's arguments are read. -/
set_option maxRecDepth 10000
namespace Go.Proofs.YtkdmcdnfakmapaaGreat
open Go Go.Sx Go.ChangeShapes Go.WideShapes Go.ChangeAt Go.RowKit Go.Deep

theorem own : ownKnob Tryz.prog.godebug = none := by kernel_rfl
theorem laidOut : laidOutB Tryz.prog = true := by kernel_rfl
theorem below_of {P : Program} {f : FuncId} {args : Array Value} {w : World} (hc : HCalls P f args w.heap (fun v h' => v = .bool true ∧ Ext w.heap h')) :
    Calls P f args w fun e w' => e = .returned (.bool true) ∧ Below w.heap.size w w' :=
  (hc w rfl).mono fun e w' ⟨v, he, hs, hv, hx⟩ => ⟨by rw [he, hv], ⟨hs.os, hs.tape, hs.output, hx.size, hx.same⟩⟩
section
variable {H : Type} {enc : TypeId × Value → H} {w : World} {base : Nat} {held : Bool} {a : Option Addr} {len cap : Nat} {d : DataW H} {ps : List MemPlace}
theorem rd_ops (h : DataW.Trod enc Tryz.prog w base (fun _ => true) held 22 (.slice a len cap) d ps) : ∃ l : List OpT, RdT tO w.heap a len l ∧ len ≤ cap ∧ ∀ x ∈ l, x.2.2.1 ≤ x.2.2.2 ∧ ∃ zs, RdT TI w.heap x.2.1 x.2.2.1 zs :=
  rd_flat tO Tryz.underlying22 (by kernel_rfl) (fun n cs x h => by
    obtain ⟨xs, m, _, _, hl, hxl, hx⟩ := DataW.trod_struct Tryz.underlying39 h
    rw [show Tryz.prog.cellsOf 39 = 2 by kernel_rfl] at hl
    match cs, xs, hl, hxl with
    | [c0, c1], [y0, y1], _, _ =>
      obtain ⟨z0, e0, w0⟩ := dec_int (k := .i64) (by kernel_rfl) _ _ _ (hx 0 _ rfl)
      have f0 : c0 = .int .i64 z0 := (List.cons.inj (show [c0] = [Value.int .i64 z0] from e0)).1
      have h1 : DataW.trod enc Tryz.prog w base (fun _ => true) held m 37 [c1] = some y1 := hx 1 _ rfl
      have key : ∃ a' l' c', [c1] = [Value.slice a' l' c'] := by
        rcases open_slice Tryz.underlying37 h1 with ⟨hcs, _⟩ | ⟨_, _, _, _, _, _, _, hcs, _⟩
        · exact ⟨_, _, _, hcs⟩
        · exact ⟨_, _, _, hcs⟩
      obtain ⟨a', l', c', hc1⟩ := key
      have f1 : c1 = .slice a' l' c' := (List.cons.inj hc1).1
      rw [hc1] at h1
      obtain ⟨zs, hr, hle, _⟩ := rd_flat (W := InR) TI Tryz.underlying37 (by kernel_rfl) (fun n cs x h => by
        obtain ⟨z, h1, h2⟩ := dec_int (k := .i64) (by kernel_rfl) n cs x h
        exact ⟨z, h1, bounds_i64 h2⟩) (d := y1.1) (ps := y1.2) ⟨m, h1⟩
      rw [f0, f1]
      exact ⟨(z0, a', l', c'), rfl, hle, zs, hr⟩) h
end
end Go.Proofs.YtkdmcdnfakmapaaGreat
