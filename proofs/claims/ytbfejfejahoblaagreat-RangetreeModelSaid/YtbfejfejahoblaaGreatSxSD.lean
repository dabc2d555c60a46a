/- Part X1 X2 X3 B33 M3 Y1 Y2 Y3 R1 FB3 Z1 Z2 SH SI SA SL SB SC SD of the proof: contracts of functions of the program, and what follows from them. -/
import Derived.Test.YtbfejfejahoblaaGreatSxX0
import Derived.Deep.Slices
import Derived.OpenShut
import Derived.Test.YtbfejfejahoblaaGreatRows
import Derived.WalkKit
import Derived.ProofKit
import Derived.ShutString
import Derived.ChangeOld
import Derived.Below
import Derived.ChangeMaps5
import Derived.Deep.Grids
import Derived.Test.YtbfejfejahoblaaGreatSxV
/- Layer 3: which operations are valid. -/
set_option maxRecDepth 100000
namespace Go.Proofs.YtbfejfejahoblaaGreat
open Go Go.Sx
theorem int_index_ok {g : Nat} {q : Int → Bool} (hX : ∀ (z : Int) (h : Hp) (K : Value → Hp → Prop), K (.bool (q z)) h → callX Tryz.prog F g #[.int .i64 z] h K) {h : Hp} {p : Option Addr} {n c : Nat} {zs : List Int} (r : RdT TI h p n zs) (hn : n ≤ 1000000) :
    HCalls Tryz.prog 34 #[.slice p n c, .func (.func g) #[] #[]] h (fun v h' => h' = h ∧ v = .bool (zs.any q)) := by
  have hzl := r.len
  refine slices_ContainsFunc_Sint_int_call ?_
  rw [slices_ContainsFunc_Sint_int_b0_eq]
  refine slices_IndexFunc_Sint_int_call ?_
  rw [slices_IndexFunc_Sint_int_b0_eq]
  refine ⟨fun s h' => h' = h ∧ ∃ i : Nat, s.1 = i ∧ i ≤ n ∧ (zs.take i).any q = false, fun s _ => n - s.1.toNat, ⟨rfl, 0, rfl, by omega, rfl⟩, ?_⟩
  rintro ⟨_, _⟩ h1 ⟨rfl, i, rfl, hin, hno⟩
  dsimp only
  rw [slices_IndexFunc_Sint_int_b1_eq]
  refine condP (fun hlt => ?_) (fun hge => ?_)
  · refine r.int (by omega) (by omega) ?_
    rw [Int.toNat_natCast]
    refine hX _ _ _ ⟨_, rfl, ?_⟩
    have hil : i < zs.length := by omega
    have hg : zs.getD i 0 = zs[i] := by simp [List.getD, hil]
    refine cond_intro (fun h3 => ?_) (fun h3 => ?_)
    · refine ⟨_, rfl, rfl, ?_⟩
      rw [decide_eq_true (by omega), List.any_eq_true.2 ⟨_, List.getElem_mem hil, by rw [← hg]; exact h3⟩]
    · rw [slices_IndexFunc_Sint_int_b2_eq]
      refine ⟨⟨by omega, by omega⟩, ⟨rfl, i + 1, by simp only; omega, by omega, ?_⟩, by simp only; omega⟩
      rw [List.take_succ_eq_append_getElem hil, List.any_append, hno, ← hg]
      show (false || (q (zs.getD i 0) || false)) = false
      rw [h3]
      rfl
  · rw [slices_IndexFunc_Sint_int_b3_eq]
    refine ⟨_, rfl, rfl, ?_⟩
    rw [List.take_of_length_le (by omega)] at hno
    rw [hno]
    rfl
abbrev ChP (z : Int) : Prop := 0 ≤ z ∧ z ≤ 255
instance (z : Int) : Decidable (ChP z) := inferInstanceAs (Decidable (_ ∧ _))
abbrev W3 := ByteArray × Int × Bool
abbrev tW : Ty W3 := ⟨82, 3, fun w => [.string w.1, .int .i64 w.2.1, .bool w.2.2], (⟨#[]⟩, 0, false), fun _ => rfl, by decide, fun _ v hv => by simp at hv; rcases hv with rfl | rfl | rfl <;> rfl⟩
def wd1 : List W3 := [(⟨#[112, 117, 116]⟩, 2, true), (⟨#[103, 101, 116]⟩, 1, false), (⟨#[114, 101, 109, 111, 118, 101]⟩, 1, true), (⟨#[102, 108, 111, 111, 114]⟩, 1, false), (⟨#[99, 101, 105, 108, 105, 110, 103]⟩, 1, false), (⟨#[114, 97, 110, 107]⟩, 1, false), (⟨#[115, 101, 108, 101, 99, 116]⟩, 1, false), (⟨#[115, 105, 122, 101]⟩, 0, false)]
def wd2 : List W3 := [(⟨#[105, 110, 115, 101, 114, 116]⟩, 1, true), (⟨#[109, 105, 110]⟩, 0, false), (⟨#[100, 101, 108, 101, 116, 101, 109, 105, 110]⟩, 0, true), (⟨#[115, 105, 122, 101]⟩, 0, false)]
def wd3 : List W3 := [(⟨#[105, 110, 115, 101, 114, 116]⟩, 2, true), (⟨#[114, 101, 109, 111, 118, 101]⟩, 1, true), (⟨#[103, 101, 116]⟩, 1, false), (⟨#[115, 101, 116]⟩, 2, true), (⟨#[115, 117, 109]⟩, 2, false), (⟨#[114, 101, 118, 101, 114, 115, 101]⟩, 2, true), (⟨#[115, 105, 122, 101]⟩, 0, false)]
def wd4 : List W3 := [(⟨#[109, 97, 107, 101]⟩, 0, true), (⟨#[117, 110, 105, 111, 110]⟩, 2, true), (⟨#[115, 97, 109, 101]⟩, 2, false), (⟨#[115, 105, 122, 101]⟩, 1, false), (⟨#[99, 111, 117, 110, 116]⟩, 0, false)]
def wd5 : List W3 := [(⟨#[97, 100, 100]⟩, 3, true), (⟨#[114, 101, 109, 111, 118, 101]⟩, 2, true), (⟨#[99, 111, 117, 110, 116]⟩, 4, false), (⟨#[115, 117, 109]⟩, 4, false), (⟨#[115, 105, 122, 101]⟩, 0, false)]
def wd6 : List W3 := [(⟨#[97, 112, 112, 101, 110, 100]⟩, (-1), true), (⟨#[99, 111, 117, 110, 116]⟩, (-1), false), (⟨#[102, 105, 110, 100]⟩, (-1), false), (⟨#[115, 105, 122, 101]⟩, 0, false)]
def ar1 : List Int := [2, 1, 1, 1, 1, 1, 1, 0]
def ar2 : List Int := [1, 0, 0, 0]
def ar3 : List Int := [2, 1, 1, 2, 2, 2, 0]
def ar4 : List Int := [0, 2, 2, 1, 0]
def ar5 : List Int := [3, 2, 4, 4, 0]
def ar6 : List Int := [(-1), (-1), (-1), 0]
/-- The arities of a kind of structure, by its operation. -/
def arT (k : Int) : List Int := if k = 1 then ar1 else if k = 2 then ar2 else if k = 3 then ar3 else if k = 4 then ar4 else if k = 5 then ar5 else if k = 6 then ar6 else []
def wdT (k : Int) : List W3 := if k = 1 then wd1 else if k = 2 then wd2 else if k = 3 then wd3 else if k = 4 then wd4 else if k = 5 then wd5 else if k = 6 then wd6 else []
theorem wd_ar (k : Int) : (wdT k).map (fun w => w.2.1) = arT k := by
  unfold wdT arT
  repeat' split
  all_goals rfl
theorem words_ok (k : Int) (h : Hp) : HCalls Tryz.prog 20 #[.int .i64 k] h (fun v h' => ∃ p c, v = .slice p (wdT k).length c ∧ RdT tW h' p (wdT k).length (wdT k) ∧ Ext h h') := by
  refine model_words_call ?_
  rw [model_words_b0_eq]
  unfold wdT
  refine condP (fun hk => ?_) (fun hk1 => ?_)
  · rw [if_pos hk]
    refine (St.start h).new (cs := tW.cells wd1) fun b1 h1 x1 s1 => ?_
    exact ⟨_, _, rfl, (Sl.of_blk (T := tW) (xs := wd1) rfl rfl).rd s1, x1⟩
  rw [if_neg hk1]
  refine condP (fun hk => ?_) (fun hk2 => ?_)
  · rw [if_pos hk]
    refine (St.start h).new (cs := tW.cells wd2) fun b1 h1 x1 s1 => ?_
    exact ⟨_, _, rfl, (Sl.of_blk (T := tW) (xs := wd2) rfl rfl).rd s1, x1⟩
  rw [if_neg hk2]
  refine condP (fun hk => ?_) (fun hk3 => ?_)
  · rw [if_pos hk]
    refine (St.start h).new (cs := tW.cells wd3) fun b1 h1 x1 s1 => ?_
    exact ⟨_, _, rfl, (Sl.of_blk (T := tW) (xs := wd3) rfl rfl).rd s1, x1⟩
  rw [if_neg hk3]
  refine condP (fun hk => ?_) (fun hk4 => ?_)
  · rw [if_pos hk]
    refine (St.start h).new (cs := tW.cells wd4) fun b1 h1 x1 s1 => ?_
    exact ⟨_, _, rfl, (Sl.of_blk (T := tW) (xs := wd4) rfl rfl).rd s1, x1⟩
  rw [if_neg hk4]
  refine condP (fun hk => ?_) (fun hk5 => ?_)
  · rw [if_pos hk]
    refine (St.start h).new (cs := tW.cells wd5) fun b1 h1 x1 s1 => ?_
    exact ⟨_, _, rfl, (Sl.of_blk (T := tW) (xs := wd5) rfl rfl).rd s1, x1⟩
  rw [if_neg hk5]
  refine condP (fun hk => ?_) (fun hk6 => ?_)
  · rw [if_pos hk]
    refine (St.start h).new (cs := tW.cells wd6) fun b1 h1 x1 s1 => ?_
    exact ⟨_, _, rfl, (Sl.of_blk (T := tW) (xs := wd6) rfl rfl).rd s1, x1⟩
  rw [if_neg hk6]
  rw [model_words_b1_eq]
  exact ⟨_, _, rfl, RdT.nil _ _, Ext.refl h⟩
theorem r_words_ok (k : Int) (h : Hp) : HCalls Tryz.prog 28 #[.int .i64 k] h (fun v h' => ∃ p c, v = .slice p (arT k).length c ∧ Ext h h') := by
  refine r03_Words_call ?_
  rw [r03_Words_b0_eq]
  unfold arT
  refine condP (fun hk => ?_) (fun hk1 => ?_)
  · rw [if_pos hk]
    exact New_intro fun b1 h1 _ x1 _ _ => ⟨_, _, rfl, x1⟩
  rw [if_neg hk1]
  refine condP (fun hk => ?_) (fun hk2 => ?_)
  · rw [if_pos hk]
    exact New_intro fun b1 h1 _ x1 _ _ => ⟨_, _, rfl, x1⟩
  rw [if_neg hk2]
  refine condP (fun hk => ?_) (fun hk3 => ?_)
  · rw [if_pos hk]
    exact New_intro fun b1 h1 _ x1 _ _ => ⟨_, _, rfl, x1⟩
  rw [if_neg hk3]
  refine condP (fun hk => ?_) (fun hk4 => ?_)
  · rw [if_pos hk]
    exact New_intro fun b1 h1 _ x1 _ _ => ⟨_, _, rfl, x1⟩
  rw [if_neg hk4]
  refine condP (fun hk => ?_) (fun hk5 => ?_)
  · rw [if_pos hk]
    exact New_intro fun b1 h1 _ x1 _ _ => ⟨_, _, rfl, x1⟩
  rw [if_neg hk5]
  refine condP (fun hk => ?_) (fun hk6 => ?_)
  · rw [if_pos hk]
    exact New_intro fun b1 h1 _ x1 _ _ => ⟨_, _, rfl, x1⟩
  rw [if_neg hk6]
  rw [r03_Words_b1_eq]
  exact ⟨_, _, rfl, Ext.refl h⟩
theorem arity_ok {k c : Int} (h : Hp) (hk : 1 ≤ k ∧ k ≤ 6) (hc : 1 ≤ c ∧ c ≤ (arT k).length) : HCalls Tryz.prog 29 #[.int .i64 k, .int .i64 c] h (fun v h' => v = .int .i64 ((arT k).getD (c - 1).toNat 0) ∧ Ext h h') := by
  refine r03_Arity_call ?_
  rw [r03_Arity_b0_eq]
  have rd : ∀ {xs : List Int} {b : Nat} {h' : Hp}, St h h' (cA b (TI.cells xs) 3 + 0) → (xs.length ≤ 100 ∧ 1 ≤ c ∧ c ≤ (xs.length : Int)) → InR (c - 1) ∧ (0 ≤ c - 1 ∧ c - 1 < ((xs.length : Nat) : Int)) ∧ ∃ n1 : Int, cell h' ((⟨b, 0, none⟩ : Addr).add (Int.toNat (c - 1) * 1)) = some (.int .i64 n1) ∧ (Value.int .i64 n1 = .int .i64 (xs.getD (c - 1).toNat 0) ∧ Ext h h') := by
    intro xs b h' s hc
    have := s.ext
    refine ⟨⟨by omega, by omega⟩, ⟨by omega, by omega⟩, ?_⟩
    obtain ⟨a, ha, hcell⟩ := ((Sl.of_blk (T := TI) (xs := xs) rfl rfl).rd s).at_ (i := (c - 1).toNat) (by omega)
    cases ha
    exact ⟨_, hcell 0 Nat.one_pos, rfl, s.ext⟩
  refine condP (fun e => ?_) (fun hk1 => ?_)
  · subst e
    exact (St.start h).new (cs := TI.cells ar1) fun b1 h1 _ s1 => rd (xs := ar1) s1 ⟨by decide, hc⟩
  refine condP (fun e => ?_) (fun hk2 => ?_)
  · subst e
    exact (St.start h).new (cs := TI.cells ar2) fun b1 h1 _ s1 => rd (xs := ar2) s1 ⟨by decide, hc⟩
  refine condP (fun e => ?_) (fun hk3 => ?_)
  · subst e
    exact (St.start h).new (cs := TI.cells ar3) fun b1 h1 _ s1 => rd (xs := ar3) s1 ⟨by decide, hc⟩
  refine condP (fun e => ?_) (fun hk4 => ?_)
  · subst e
    exact (St.start h).new (cs := TI.cells ar4) fun b1 h1 _ s1 => rd (xs := ar4) s1 ⟨by decide, hc⟩
  refine condP (fun e => ?_) (fun hk5 => ?_)
  · subst e
    exact (St.start h).new (cs := TI.cells ar5) fun b1 h1 _ s1 => rd (xs := ar5) s1 ⟨by decide, hc⟩
  obtain rfl : k = 6 := by omega
  rw [r03_Arity_b1_eq]
  exact (St.start h).new (cs := TI.cells ar6) fun b1 h1 _ s1 => rd (xs := ar6) s1 ⟨by decide, hc⟩
/-- A valid operation of a kind of structure. -/
def OpV (k c : Int) (zs : List Int) : Prop := (1 ≤ c ∧ c ≤ (arT k).length) ∧ (if (arT k).getD (c - 1).toNat 0 < 0 then (1 ≤ zs.length ∧ zs.length ≤ 64) ∧ ∀ z ∈ zs, ChP z else (zs.length : Int) = (arT k).getD (c - 1).toNat 0 ∧ ∀ z ∈ zs, KeyP z)
instance (k c : Int) (zs : List Int) : Decidable (OpV k c zs) := by unfold OpV; infer_instance
end Go.Proofs.YtbfejfejahoblaaGreat

/- Layer 3: the two judges of an operation. -/
set_option maxRecDepth 100000
namespace Go.Proofs.YtbfejfejahoblaaGreat
open Go Go.Sx
theorem char_ok (z : Int) (h : Hp) : HCalls Tryz.prog 36 #[.int .i64 z] h (fun v h' => v = .bool (decide (ChP z)) ∧ h' = h) := by
  refine model_character_call ?_
  rw [model_character_b0_eq]
  refine condP (fun h1 => ⟨?_, rfl⟩) (fun h1 => ⟨?_, rfl⟩)
  · congr 1; exact decide_eq_decide.2 ⟨fun h2 => ⟨h1, h2⟩, fun h2 => h2.2⟩
  · rw [decide_eq_false (fun h2 => h1 h2.1)]
theorem numb_ok (z : Int) (h : Hp) : HCalls Tryz.prog 39 #[.int .i64 z] h (fun v h' => v = .bool (decide (KeyP z)) ∧ h' = h) := by
  refine model_number_call ?_
  rw [model_number_b0_eq]
  refine condP (fun h1 => ⟨?_, rfl⟩) (fun h1 => ⟨?_, rfl⟩)
  · congr 1; exact decide_eq_decide.2 ⟨fun h2 => ⟨h1, h2⟩, fun h2 => h2.2⟩
  · rw [decide_eq_false (fun h2 => h1 h2.1)]
theorem rkey_ok (z : Int) (h : Hp) : HCalls Tryz.prog 30 #[.int .i64 z] h (fun v h' => v = .bool (decide (KeyP z)) ∧ h' = h) := by
  refine r03_key_call ?_
  rw [r03_key_b0_eq]
  refine condP (fun h1 => ⟨?_, rfl⟩) (fun h1 => ⟨?_, rfl⟩)
  · congr 1; exact decide_eq_decide.2 ⟨fun h2 => ⟨h1, h2⟩, fun h2 => h2.2⟩
  · rw [decide_eq_false (fun h2 => h1 h2.1)]
theorem char_x (z : Int) (h : Hp) (K : Value → Hp → Prop) (hk : K (.bool (!decide (ChP z))) h) : callX Tryz.prog F 37 #[.int .i64 z] h K := by
  refine callX_of (by kernel_rfl) (model_ValidOp_c1_call ?_)
  rw [model_ValidOp_c1_b0_eq]
  exact (char_ok z h).mono fun v h' ⟨hv, hh⟩ => ⟨_, hv, by rw [hh]; exact hk⟩
theorem numb_x (z : Int) (h : Hp) (K : Value → Hp → Prop) (hk : K (.bool (!decide (KeyP z))) h) : callX Tryz.prog F 38 #[.int .i64 z] h K := by
  refine callX_of (by kernel_rfl) (model_ValidOp_c2_call ?_)
  rw [model_ValidOp_c2_b0_eq]
  exact (numb_ok z h).mono fun v h' ⟨hv, hh⟩ => ⟨_, hv, by rw [hh]; exact hk⟩
theorem any_not {P : Int → Prop} [DecidablePred P] {zs : List Int} : (!zs.any fun z => !decide (P z)) = decide (∀ z ∈ zs, P z) := by
  induction zs with
  | nil => rfl
  | cons z zs ih =>
    rw [List.any_cons, Bool.not_or, ih, Bool.not_not]
    by_cases h1 : P z <;> by_cases h2 : ∀ z ∈ zs, P z <;> simp [h1, h2]
theorem word_load {h : Hp} {p : Option Addr} {n : Nat} {l : List W3} {i : Int} {Q : ByteArray → Int → Bool → Prop} (r : RdT tW h p n l) (h0 : 0 ≤ i) (h1 : i < n) (hq : Q (l.getD i.toNat tW.d).1 (l.getD i.toNat tW.d).2.1 (l.getD i.toNat tW.d).2.2) :
    (0 ≤ i ∧ i < (n : Int)) ∧ NN p fun a => ∃ x : ByteArray, ∃ y : Int, ∃ z : Bool, cell h (a.add (Int.toNat i * 3)) = some (.string x) ∧ cell h ((a.add (Int.toNat i * 3)).add 1) = some (.int .i64 y) ∧ cell h ((a.add (Int.toNat i * 3)).add 2) = some (.bool z) ∧ Q x y z :=
  r.idx h0 h1 fun _ _ hc => ⟨_, _, _, hc 0 (show 0 < 3 by decide), hc 1 (show 1 < 3 by decide), hc 2 (show 2 < 3 by decide), hq⟩
theorem wd_len (k : Int) : (wdT k).length = (arT k).length := by rw [← wd_ar, List.length_map]
theorem wd_get (k : Int) (i : Nat) : ((wdT k).getD i tW.d).2.1 = (arT k).getD i 0 := by
  rw [← wd_ar]
  simp only [List.getD, List.getElem?_map]
  cases (wdT k)[i]? <;> rfl
theorem arT_le (k : Int) (j : Nat) : (arT k).getD j 0 ≤ 4 := by
  have h : ∀ x ∈ arT k, x ≤ 4 := by
    unfold arT
    repeat' split
    all_goals decide
  rw [List.getD_eq_getElem?_getD]
  cases hj : (arT k)[j]? with
  | none => simp
  | some x => exact h x (List.mem_of_getElem? hj)
theorem mValid' {k c : Int} {zs : List Int} {h : Hp} {p : Option Addr} {n cc : Nat} (r : RdT TI h p n zs) :
    HCalls Tryz.prog 22 #[.int .i64 k, .agg #[.int .i64 c, .slice p n cc]] h (fun v h' => v = .bool (decide (OpV k c zs)) ∧ Ext h h') := by
  have hzl := r.len
  refine model_ValidOp_call ?_
  rw [model_ValidOp_b0_eq]
  refine (St.start h).new (cs := [.int .i64 c, .slice p n cc]) fun b1 h1 x1 s1 => ?_
  refine (words_ok k h1).mono fun v1 h2 ⟨q, d, hv1, rw1, x2⟩ => ⟨_, _, _, hv1, ?_⟩
  have s2 := s1.grow x2
  have kb := s2.blk
  have hx2 : Ext h h2 := x1.trans x2
  have hwl := wd_len k
  refine ⟨_, kb.cell 0, condP (fun hc => ?_) (fun hc => ⟨_, kb.cell 0, condP (fun hc2 => ?_) (fun hc2 => ?_)⟩)⟩
  · exact ⟨by rw [decide_eq_false (fun h => by have := h.1; omega)], hx2⟩
  · exact ⟨by rw [decide_eq_false (fun h => by have := h.1; omega)], hx2⟩
  have hlen8 : (arT k).length ≤ 8 := by unfold arT; repeat' split
                                        all_goals decide
  rw [model_ValidOp_b1_eq]
  refine ⟨_, kb.cell 0, ⟨by omega, by omega⟩, word_load rw1 (by omega) (by omega) ?_⟩
  rw [wd_get]
  generalize ha : (arT k).getD (c - 1).toNat 0 = a
  refine s2.new (cs := [.string ⟨#[]⟩, .int .i64 0, .bool false]) fun b3 h3 _ s3 => ?_
  refine s3.wr rfl (by simp) fun h4 s4 => ?_
  refine s4.wr (o := 1) (add_mk _ _ _) (by simp) fun h5 s5 => ?_
  refine s5.wr (o := 2) (add_mk _ _ _) (by simp) fun h6 s6 => ?_
  have x6 : Ext h h6 := s6.ext
  have kb6 := s6.drop.blk
  have r6 := r.ext x6
  refine ⟨_, Blk.cellA s6.blk 1, condP (fun hneg => ?_) (fun hneg => ?_)⟩
  · have hiff : OpV k c zs ↔ (1 ≤ zs.length ∧ zs.length ≤ 64) ∧ ∀ z ∈ zs, ChP z := by
      unfold OpV
      rw [ha, if_pos hneg]
      exact ⟨fun h => h.2, fun h => ⟨⟨by omega, by omega⟩, h⟩⟩
    refine ⟨_, _, _, Blk.cellA kb6 1, condP (fun h1 => ?_) (fun h1 => ?_)⟩
    · refine ⟨_, _, _, Blk.cellA kb6 1, condP (fun h2 => ?_) (fun h2 => ?_)⟩
      · refine ⟨_, _, _, Blk.cellA kb6 1, (int_index_ok char_x r6 (by omega)).mono fun v2 h7 ⟨hh7, hv2⟩ => ⟨_, hv2, ?_, ?_⟩⟩
        · rw [any_not]
          congr 1
          exact decide_eq_decide.2 (by rw [hiff]; exact ⟨fun h => ⟨⟨by omega, by omega⟩, h⟩, fun h => h.2⟩)
        · rw [hh7]; exact x6
      · exact ⟨by rw [decide_eq_false (fun h => by have := (hiff.1 h).1; omega)], x6⟩
    · exact ⟨by rw [decide_eq_false (fun h => by have := (hiff.1 h).1; omega)], x6⟩
  · have hiff : OpV k c zs ↔ (zs.length : Int) = a ∧ ∀ z ∈ zs, KeyP z := by
      unfold OpV
      rw [ha, if_neg hneg]
      exact ⟨fun h => h.2, fun h => ⟨⟨by omega, by omega⟩, h⟩⟩
    refine ⟨_, _, _, Blk.cellA kb6 1, _, Blk.cellA s6.blk 1, condP (fun h1 => ?_) (fun h1 => ?_)⟩
    · refine ⟨_, _, _, Blk.cellA kb6 1, (int_index_ok numb_x r6 (by have := arT_le k (c - 1).toNat; omega)).mono fun v2 h7 ⟨hh7, hv2⟩ => ⟨_, hv2, ?_, ?_⟩⟩
      · rw [any_not]
        congr 1
        exact decide_eq_decide.2 (by rw [hiff]; exact ⟨fun h => ⟨by omega, h⟩, fun h => h.2⟩)
      · rw [hh7]; exact x6
    · exact ⟨by rw [decide_eq_false (fun h => by have := (hiff.1 h).1; omega)], x6⟩
theorem arT_fact {k c : Int} (hk : 1 ≤ k ∧ k ≤ 6) (hc : 1 ≤ c ∧ c ≤ (arT k).length) : (k = 6 → (arT k).getD (c - 1).toNat 0 ≤ 0) ∧ (k ≠ 6 → 0 ≤ (arT k).getD (c - 1).toNat 0) ∧ (arT k).getD (c - 1).toNat 0 ≤ 4 := by
  have hlen8 : (arT k).length ≤ 8 := by unfold arT; repeat' split
                                        all_goals decide
  generalize hj : (c - 1).toNat = j
  have hj8 : j < 8 := by omega
  have hk' : k = 1 ∨ k = 2 ∨ k = 3 ∨ k = 4 ∨ k = 5 ∨ k = 6 := by omega
  rcases hk' with rfl | rfl | rfl | rfl | rfl | rfl
  · exact ⟨fun h => by omega, fun _ => (by decide : ∀ j < 8, 0 ≤ (arT 1).getD j 0) j hj8, (by decide : ∀ j < 8, (arT 1).getD j 0 ≤ 4) j hj8⟩
  · exact ⟨fun h => by omega, fun _ => (by decide : ∀ j < 8, 0 ≤ (arT 2).getD j 0) j hj8, (by decide : ∀ j < 8, (arT 2).getD j 0 ≤ 4) j hj8⟩
  · exact ⟨fun h => by omega, fun _ => (by decide : ∀ j < 8, 0 ≤ (arT 3).getD j 0) j hj8, (by decide : ∀ j < 8, (arT 3).getD j 0 ≤ 4) j hj8⟩
  · exact ⟨fun h => by omega, fun _ => (by decide : ∀ j < 8, 0 ≤ (arT 4).getD j 0) j hj8, (by decide : ∀ j < 8, (arT 4).getD j 0 ≤ 4) j hj8⟩
  · exact ⟨fun h => by omega, fun _ => (by decide : ∀ j < 8, 0 ≤ (arT 5).getD j 0) j hj8, (by decide : ∀ j < 8, (arT 5).getD j 0 ≤ 4) j hj8⟩
  · exact ⟨fun _ => (by decide : ∀ j < 8, (arT 6).getD j 0 ≤ 0) j hj8, fun h => absurd rfl h, (by decide : ∀ j < 8, (arT 6).getD j 0 ≤ 4) j hj8⟩
theorem rValid' {k c : Int} {zs : List Int} {h : Hp} {p : Option Addr} {n cc : Nat} (r : RdT TI h p n zs) :
    HCalls Tryz.prog 15 #[.int .i64 k, .agg #[.int .i64 c, .slice p n cc]] h (fun v h' => v = .bool (decide (OpV k c zs)) ∧ Ext h h') := by
  have hzl := r.len
  refine r03_ValidOp_call ?_
  rw [r03_ValidOp_b0_eq]
  refine (St.start h).new (cs := [.int .i64 c, .slice p n cc]) fun b1 h1 x1 s1 => ?_
  have kb := s1.blk
  have out : ¬ (1 ≤ k ∧ k ≤ 6) → ¬ OpV k c zs := by
    intro hk ⟨h, _⟩
    have : arT k = [] := by unfold arT; rw [if_neg (by omega), if_neg (by omega), if_neg (by omega), if_neg (by omega), if_neg (by omega), if_neg (by omega)]
    rw [this] at h
    simp at h
    omega
  refine condP (fun h2 => ?_) (fun h2 => condP (fun h3 => ?_) (fun h3 => ?_))
  · exact ⟨by rw [decide_eq_false (out (by omega))], x1⟩
  · exact ⟨by rw [decide_eq_false (out (by omega))], x1⟩
  clear out
  refine ⟨_, kb.cell 0, condP (fun hc => ?_) (fun hc => ⟨_, kb.cell 0, ?_⟩)⟩
  · exact ⟨by rw [decide_eq_false (fun h => by have := h.1; omega)], x1⟩
  refine (r_words_ok k h1).mono fun v1 h4 ⟨q, d, hv1, x4⟩ => ⟨_, _, _, hv1, ?_⟩
  have s4 := s1.grow x4
  have kb := s4.blk
  have hx4 : Ext h h4 := x1.trans x4
  refine ⟨⟨_, kb.cell 0, rfl⟩, condP (fun hc2 => ?_) (fun hc2 => ?_)⟩
  · exact ⟨by rw [decide_eq_false (fun h => by have := h.1; omega)], hx4⟩
  obtain ⟨f1, f2, f3⟩ := arT_fact (k := k) (c := c) (by omega) (by omega)
  have f4 : ∀ z ∈ zs, ChP z → KeyP z := fun z _ hz => ⟨by omega, by omega⟩
  have hiff : OpV k c zs ↔ zs.length ≤ 64 ∧ (0 ≤ (arT k).getD (c - 1).toNat 0 → (zs.length : Int) = (arT k).getD (c - 1).toNat 0) ∧ ((arT k).getD (c - 1).toNat 0 < 0 → zs.length ≠ 0) ∧ ∀ z ∈ zs, KeyP z ∧ (k = 6 → ChP z) := by
    unfold OpV
    by_cases hneg : (arT k).getD (c - 1).toNat 0 < 0
    · rw [if_pos hneg]
      have hk6 : k = 6 := by
        rcases Decidable.em (k = 6) with h | h
        · exact h
        · have := f2 h; omega
      refine ⟨fun h => ⟨h.2.1.2, fun h' => by omega, fun _ h' => by have := h.2.1.1; omega, fun z hz => ⟨f4 z hz (h.2.2 z hz), fun _ => h.2.2 z hz⟩⟩, fun h => ⟨⟨by omega, by omega⟩, ⟨by have := h.2.2.1 hneg; omega, h.1⟩, fun z hz => (h.2.2.2 z hz).2 hk6⟩⟩
    · rw [if_neg hneg]
      refine ⟨fun h => ⟨by have := h.2.1; omega, fun _ => h.2.1, fun h' => absurd h' hneg, fun z hz => ⟨h.2.2 z hz, fun hk6 => ?_⟩⟩, fun h => ⟨⟨by omega, by omega⟩, h.2.1 (by omega), fun z hz => (h.2.2.2 z hz).1⟩⟩
      have h1 := f1 hk6
      have h2 := h.2.1
      have : zs = [] := List.eq_nil_of_length_eq_zero (by omega)
      subst this
      cases hz
  refine ⟨_, _, _, Blk.cellA kb 1, condP (fun hl => ?_) (fun hl => ?_)⟩
  · exact ⟨by rw [decide_eq_false (fun h => by have := (hiff.1 h).1; omega)], hx4⟩
  rw [r03_ValidOp_b1_eq]
  refine ⟨_, kb.cell 0, ?_⟩
  refine (arity_ok h4 (by omega) (by omega)).mono fun v2 h5 ⟨hv2, x5⟩ => ⟨_, hv2, ?_⟩
  have s5 := s4.grow x5
  have kb := s5.blk
  have x5 : Ext h h5 := hx4.trans x5
  generalize (arT k).getD (c - 1).toNat 0 = a at f1 f2 f3 hiff
  have loop : (0 ≤ a → (zs.length : Int) = a) → (a < 0 → zs.length ≠ 0) → r03_ValidOp_b2 k (some ⟨b1, 0, none⟩) h5 fun v h' => v = .bool (decide (OpV k c zs)) ∧ Ext h h' := by
    intro g1 g2
    rw [r03_ValidOp_b2_eq]
    refine ⟨fun s h' => h' = h5 ∧ ∃ i : Nat, s.1 = i ∧ i ≤ n ∧ ∀ z ∈ zs.take i, KeyP z ∧ (k = 6 → ChP z), fun s _ => n - s.1.toNat, ⟨rfl, 0, rfl, by omega, by simp⟩, ?_⟩
    rintro ⟨_, _⟩ h6 ⟨rfl, i, rfl, hin, hall⟩
    dsimp only
    rw [r03_ValidOp_b3_eq]
    have r6 := r.ext x5
    refine ⟨_, _, _, Blk.cellA kb 1, condP (fun hlt => ?_) (fun hge => ?_)⟩
    · have hil : i < zs.length := by omega
      have hg : zs.getD i 0 = zs[i] := by simp [List.getD, hil]
      have hm : zs.getD i 0 ∈ zs := by rw [hg]; exact List.getElem_mem hil
      refine ⟨_, _, _, Blk.cellA kb 1, r6.int (by omega) (by omega) ?_⟩
      rw [Int.toNat_natCast]
      refine (rkey_ok _ h6).mono fun v3 h7 ⟨hv3, hh7⟩ => ⟨_, hv3, ?_⟩
      subst hh7
      refine condN (fun hno => ?_) (fun hyes => ?_)
      · exact ⟨by rw [decide_eq_false (fun h => hno ((hiff.1 h).2.2.2 _ hm).1)], x5⟩
      have next : (k = 6 → ChP (zs.getD i 0)) → r03_ValidOp_b4 k (some ⟨b1, 0, none⟩) (i : Int) h7 (fun s' h' => (h' = h7 ∧ ∃ i : Nat, s'.1 = i ∧ i ≤ n ∧ ∀ z ∈ zs.take i, KeyP z ∧ (k = 6 → ChP z)) ∧ n - s'.1.toNat < n - Int.toNat (i : Int)) (fun v h' => v = .bool (decide (OpV k c zs)) ∧ Ext h h') := by
        intro hch
        rw [r03_ValidOp_b4_eq]
        refine ⟨⟨by omega, by omega⟩, ⟨rfl, i + 1, by simp only; omega, by omega, fun z hz => ?_⟩, by simp only; omega⟩
        rw [List.take_succ_eq_append_getElem hil, List.mem_append, List.mem_singleton, ← hg] at hz
        rcases hz with hz | rfl
        · exact hall z hz
        · exact ⟨hyes, hch⟩
      refine condP (fun hk6 => ?_) (fun hk6 => next fun h => absurd h hk6)
      refine ⟨_, _, _, Blk.cellA kb 1, r6.int (by omega) (by omega) ?_⟩
      rw [Int.toNat_natCast]
      refine condP (fun hlow => ?_) (fun hlow => ?_)
      · exact ⟨by rw [decide_eq_false (fun h => by have := ((hiff.1 h).2.2.2 _ hm).2 hk6; omega)], x5⟩
      refine ⟨_, _, _, Blk.cellA kb 1, r6.int (by omega) (by omega) ?_⟩
      rw [Int.toNat_natCast]
      refine condP (fun hhi => ?_) (fun hhi => next fun _ => ⟨by omega, by omega⟩)
      exact ⟨by rw [decide_eq_false (fun h => by have := ((hiff.1 h).2.2.2 _ hm).2 hk6; omega)], x5⟩
    · rw [r03_ValidOp_b5_eq]
      rw [List.take_of_length_le (by omega)] at hall
      exact ⟨by rw [decide_eq_true (hiff.2 ⟨by omega, g1, g2, hall⟩)], x5⟩
  refine condP (fun ha => ?_) (fun ha => ?_)
  · refine ⟨_, _, _, Blk.cellA kb 1, condN (fun hne => ?_) (fun he => ?_)⟩
    · exact ⟨by rw [decide_eq_false (fun h => by have := (hiff.1 h).2.1; omega)], x5⟩
    · exact condNo (decide_eq_false (by omega)) (loop (fun _ => by omega) (fun h => by omega))
  · refine condP (fun hneg => ?_) (fun hneg => by omega)
    refine ⟨_, _, _, Blk.cellA kb 1, condP (fun h0 => ?_) (fun h0 => ?_)⟩
    · exact ⟨by rw [decide_eq_false (fun h => by have := (hiff.1 h).2.2.1 hneg; omega)], x5⟩
    · exact loop (fun h => by omega) (fun _ => by omega)
end Go.Proofs.YtbfejfejahoblaaGreat

/- Layer 3: states, rows, the reference's small functions. -/
set_option maxRecDepth 100000
namespace Go.Proofs.YtbfejfejahoblaaGreat
open Go Go.Sx
abbrev RowP (s : SH) (l : List Int) (A : Bag) : Prop := Sl TI s.1 s.2.1 s.2.2 l A
abbrev RowsA : SH → List (List Int) → Bag → Prop := Nest 34 RowP
abbrev TR : Ty SH := tS 34
theorem ok_row : ElOk TR Tryz.prog 29 := elB_spec (by kernel_rfl)
theorem rows_len {s : SH} {xs : List (List Int)} {B : Bag} (n : RowsA s xs B) : xs.length = s.2.1 := Nest.len n
/-- The rows' lists, in two parts. -/
theorem AllH.cut {hs : List SH} {rows : List (List Int)} {A : Bag} (h : AllH RowP hs rows A) (i : Nat) : ∃ A1 A2, A = A1 + A2 ∧ AllH RowP (hs.take i) (rows.take i) A1 ∧ AllH RowP (hs.drop i) (rows.drop i) A2 := by
  have hl := h.len
  refine AllH.split (hs.take i) (rows.take i) (by rw [List.length_take, List.length_take, hl]) ?_
  rw [List.take_append_drop, List.take_append_drop]
  exact h
end Go.Proofs.YtbfejfejahoblaaGreat

/- A valid operation of a dictionary. -/
set_option maxRecDepth 100000
namespace Go.Proofs.YtbfejfejahoblaaGreat
open Go Go.Sx
end Go.Proofs.YtbfejfejahoblaaGreat

/- slices.Insert of one row, Delete of one row. -/
set_option maxRecDepth 100000
namespace Go.Proofs.YtbfejfejahoblaaGreat
open Go Go.Sx
theorem ovl_row : IsExt Tryz.prog 79 (Extern.SlicesOverlaps.overlaps Tryz.f79.params Tryz.f79.resultTypes) :=
  ⟨Tryz.f79, Tryz.func79, by kernel_rfl, by kernel_rfl, by kernel_rfl, by kernel_rfl⟩
theorem ok_rows : ElOk (tS 34) Tryz.prog 29 := elB_spec (by kernel_rfl)
theorem insertR_st {h0 h : Hp} {p : Option Addr} {n c i bv : Nat} {xs : List SH} {x : SH} {cs : List Value} {A F : Bag} (s : St h0 h (A + (cA bv cs (tS 34).e + F))) (a : Sl (tS 34) p n c xs A)
    (hcs : cs = (tS 34).enc x) (hi : i ≤ n) (hn : n < 1000000) :
    HCalls Tryz.prog 59 #[.slice p n c, .int .i64 (i : Int), .slice (some ⟨bv, 0, none⟩) 1 1] h (fun v h' => ∃ p' c' A', v = .slice p' (n + 1) c' ∧ Sl (tS 34) p' (n + 1) c' (xs.take i ++ x :: xs.drop i) A' ∧ St h0 h' (A' + (cA bv cs (tS 34).e + F))) := by
  have hcap := a.cap
  have hlen := a.len
  have one : Sl (tS 34) (some ⟨bv, 0, none⟩) 1 1 [x] (cA bv cs (tS 34).e) := Sl.one hcs
  have rv : RdT (tS 34) h (some ⟨bv, 0, none⟩) 1 [x] := one.rd (s.to (B := cA bv cs (tS 34).e + (A + F)))
  refine slices_Insert_Sint_Sint_call ?_
  rw [slices_Insert_Sint_Sint_b0_eq]
  refine ⟨⟨by omega, by omega, by omega⟩, condNo (by decide) ?_⟩
  have e1 : Int.toNat (i : Int) = i := Int.toNat_natCast i
  have e0 : Int.toNat (0 : Int) = 0 := rfl
  refine condP (fun h1 => ?_) (fun h1 => ?_)
  · have : i = n := by omega
    subst this
    refine append_sl ok_rows s a rv (by omega) fun p' c' h' A' a' s' => ?_
    refine ⟨p', c', A', rfl, ?_, s'⟩
    rw [List.take_of_length_le (by omega), List.drop_eq_nil_of_le (by omega)]
    exact a'
  have hin : i < n := by omega
  have hti : ((tS 34).cells (xs.take i)).length = i * (tS 34).sz := by rw [(tS 34).cells_len, List.length_take]; congr 1; omega
  refine ⟨⟨by omega, by omega⟩, condP (fun h2 => ?_) (fun h2 => ?_)⟩
  · -- a new block
    have hcn : c < n + 1 := by omega
    refine ⟨⟨by omega, by omega, by omega⟩, ⟨by omega, by omega⟩, ⟨by omega, by omega⟩, ?_⟩
    rw [e0, e1, subAddr_z, Nat.sub_zero, Nat.sub_zero]
    have rt : RdT (tS 34) h p i (xs.take i) := (a.rd s).take (by omega)
    have el : (((n : Int) + ((1 : Nat) : Int)) - (i : Int)).toNat = n + 1 - i := by omega
    refine append_make_st ok_rows (by kernel_rfl) (by kernel_rfl) s rt (by omega) (by omega) (by omega) fun b c' h' mid rest hc' hm hr s1 => ?_
    rw [el] at hm hr hc' ⊢
    have hl2 : i + (n + 1 - i) = n + 1 := by omega
    rw [hl2] at hr hc' ⊢
    refine ⟨⟨by omega, by omega, by omega⟩, ?_⟩
    have e2 : Int.toNat (((n + 1 : Nat) : Nat) : Int) = n + 1 := Int.toNat_natCast _
    have e3 : Int.toNat ((i : Int) + ((1 : Nat) : Int)) = i + 1 := by omega
    have e4 : Int.toNat (n : Int) = n := Int.toNat_natCast _
    rw [e2, e3, e4]
    have es1 : subAddr (some ⟨b, 0, none⟩) c' i (tS 34).sz = some ⟨b, i * (tS 34).sz, none⟩ := by rw [subAddr_in' (by omega), Nat.zero_add]
    have es2 : subAddr (some ⟨b, 0, none⟩) c' (i + 1) (tS 34).sz = some ⟨b, (i + 1) * (tS 34).sz, none⟩ := by rw [subAddr_in' (by omega), Nat.zero_add]
    rw [show subAddr (some ⟨b, 0, none⟩) c' i 1 = some ⟨b, i * (tS 34).sz, none⟩ from es1, show subAddr (some ⟨b, 0, none⟩) c' (i + 1) 1 = some ⟨b, (i + 1) * (tS 34).sz, none⟩ from es2]
    have hm1 : mid.length = (tS 34).sz + (n - i) * (tS 34).sz := by rw [hm, show n + 1 - i = 1 + (n - i) by omega, Nat.add_mul, Nat.one_mul]
    have em : mid = mid.take (tS 34).sz ++ mid.drop (tS 34).sz := (List.take_append_drop _ _).symm
    have s2 : St h0 h' (cA b ((tS 34).cells (xs.take i) ++ mid.take (tS 34).sz ++ (mid.drop (tS 34).sz ++ rest)) (tS 34).e + (A + (cA bv cs (tS 34).e + F))) := by
      have e : (tS 34).cells (xs.take i) ++ mid.take (tS 34).sz ++ (mid.drop (tS 34).sz ++ rest) = (tS 34).cells (xs.take i) ++ mid ++ rest := by
        conv => rhs; rw [em]
        simp only [List.append_assoc]
      rw [e]; exact s1
    have rv2 : RdT (tS 34) h' (some ⟨bv, 0, none⟩) 1 [x] := one.rd (s2.to (B := cA bv cs (tS 34).e + (cA b _ _ + (A + F))))
    refine copy_st (j := 1) ok_rows s2 rv2 hti (by omega) (by rw [List.length_take]; omega) fun v1 h3 s3 => ?_
    refine ⟨⟨by omega, by omega⟩, ⟨by omega, by omega, by omega⟩, ⟨by omega, by omega, by omega⟩, ?_⟩
    rw [(tS 34).cells_one] at s3
    have s4 : St h0 h3 (cA b (((tS 34).cells (xs.take i) ++ (tS 34).enc x) ++ mid.drop (tS 34).sz ++ rest) (tS 34).e + (A + (cA bv cs (tS 34).e + F))) := by
      have e : ((tS 34).cells (xs.take i) ++ (tS 34).enc x) ++ mid.drop (tS 34).sz ++ rest = (tS 34).cells (xs.take i) ++ (tS 34).enc x ++ (mid.drop (tS 34).sz ++ rest) := by simp only [List.append_assoc]
      rw [e]; exact s3
    have ra : RdT (tS 34) h3 p n xs := a.rd (s4.to (B := A + (cA b _ _ + (cA bv cs (tS 34).e + F))))
    have rs := ra.sub hi hcap rfl
    refine copy_st (j := n - i) ok_rows s4 rs (by rw [List.length_append, hti, (tS 34).len, Nat.add_mul, Nat.one_mul]) (by omega) (by rw [List.length_drop, hm1, Nat.add_sub_cancel_left]) fun v2 h4 s5 => ?_
    refine ⟨_, _, _, rfl, ⟨by simp; omega, .inr ⟨b, rest, rfl, hc', hr, rfl⟩⟩, ?_⟩
    rw [(tS 34).cells_append, (tS 34).cells_cons]
    have e : (tS 34).cells (xs.take i) ++ ((tS 34).enc x ++ (tS 34).cells (xs.drop i)) ++ rest = (tS 34).cells (xs.take i) ++ (tS 34).enc x ++ (tS 34).cells (xs.drop i) ++ rest := by simp only [List.append_assoc]
    rw [e]
    exact (s5.to (B := A + (cA b _ _ + (cA bv cs (tS 34).e + F)))).drop
  · -- in place
    have hcn : n + 1 ≤ c := by omega
    rcases a with ⟨hl, ⟨rfl, h3, _, _⟩ | ⟨b, rest, rfl, hc, hr, rfl⟩⟩
    · omega
    have a : Sl (tS 34) (some ⟨b, 0, none⟩) n c xs (cA b ((tS 34).cells xs ++ rest) (tS 34).e) := ⟨hl, .inr ⟨b, rest, rfl, hc, hr, rfl⟩⟩
    have e3 : Int.toNat ((i : Int) + ((1 : Nat) : Int)) = i + 1 := by omega
    have e4 : Int.toNat (n : Int) = n := Int.toNat_natCast _
    have e5 : Int.toNat ((n : Int) + ((1 : Nat) : Int)) = n + 1 := by omega
    have e6 : Int.toNat (((n + 1 : Nat) : Nat) : Int) = n + 1 := Int.toNat_natCast _
    simp only [e0, e1, e3, e4, e5, e6, subAddr_z, Nat.sub_zero]
    refine ⟨⟨by omega, by omega⟩, ⟨by omega, by omega, by omega⟩, ⟨by omega, by omega⟩, ⟨by omega, by omega, by omega⟩, ?_⟩
    have es1 : subAddr (some ⟨b, 0, none⟩) c (i + 1) (tS 34).sz = some ⟨b, (i + 1) * (tS 34).sz, none⟩ := by rw [subAddr_in' (by omega), Nat.zero_add]
    rw [show subAddr (some ⟨b, 0, none⟩) c (i + 1) 1 = some ⟨b, (i + 1) * (tS 34).sz, none⟩ from es1]
    obtain ⟨i0, z, hi0, hz, hzs, hzc, hbt⟩ := (ok_rows).info
    have hrl : (tS 34).sz ≤ rest.length := by rw [hr]; calc (tS 34).sz = 1 * (tS 34).sz := (Nat.one_mul _).symm
                                              _ ≤ (c - n) * (tS 34).sz := Nat.mul_le_mul_right _ (by omega)
    have er : rest = rest.take (tS 34).sz ++ rest.drop (tS 34).sz := (List.take_append_drop _ _).symm
    refine overlaps_st ovl_row (t := 29) (e := 34) (by kernel_rfl) (by kernel_rfl) hi0 (s.to (B := cA bv cs (tS 34).e + (cA b _ _ + F))) ⟨_, rfl, ?_⟩
    refine ⟨⟨by omega, by omega⟩, ⟨by omega, by omega, by omega⟩, ⟨by omega, by omega, by omega⟩, ?_⟩
    -- the elements from i on move by one
    have hdl : ((tS 34).cells (xs.drop i)).length = (n - i) * (tS 34).sz := by rw [(tS 34).cells_len, List.length_drop, hl]
    have hd1l : ((tS 34).cells (xs.drop (i + 1))).length = (n - (i + 1)) * (tS 34).sz := by rw [(tS 34).cells_len, List.length_drop, hl]
    have ht1 : ((tS 34).cells (xs.take (i + 1))).length = (i + 1) * (tS 34).sz := by rw [(tS 34).cells_len, List.length_take]; congr 1; omega
    have s1 : St h0 h (cA b ((tS 34).cells (xs.take (i + 1)) ++ ((tS 34).cells (xs.drop (i + 1)) ++ rest.take (tS 34).sz) ++ rest.drop (tS 34).sz) (tS 34).e + (cA bv cs (tS 34).e + F)) := by
      have e : (tS 34).cells (xs.take (i + 1)) ++ ((tS 34).cells (xs.drop (i + 1)) ++ rest.take (tS 34).sz) ++ rest.drop (tS 34).sz = (tS 34).cells xs ++ rest := by
        rw [List.append_assoc, List.append_assoc, ← er, ← List.append_assoc, ← (tS 34).cells_append, List.take_append_drop]
      rw [e]; exact s
    have rx : RdT (tS 34) h (some ⟨b, 0, none⟩) n xs := a.rd s
    have rs : RdT (tS 34) h (subAddr (some ⟨b, 0, none⟩) c i (tS 34).sz) (n - i) (xs.drop i) := rx.sub hi hcap rfl
    refine copy_st (j := n - i) ok_rows s1 rs ht1 (by omega) (by rw [List.length_append, hd1l, List.length_take, Nat.min_eq_left hrl, show n - i = (n - (i + 1)) + 1 by omega, Nat.add_mul, Nat.one_mul]) fun v4 h5 s5 => ?_
    refine ⟨⟨by omega, by omega, by omega⟩, ?_⟩
    have es2 : subAddr (some ⟨b, 0, none⟩) c i (tS 34).sz = some ⟨b, i * (tS 34).sz, none⟩ := by rw [subAddr_in' (by omega), Nat.zero_add]
    rw [show subAddr (some ⟨b, 0, none⟩) c i 1 = some ⟨b, i * (tS 34).sz, none⟩ from es2]
    have s6 : St h0 h5 (cA b ((tS 34).cells (xs.take i) ++ (tS 34).enc xs[i] ++ ((tS 34).cells (xs.drop i) ++ rest.drop (tS 34).sz)) (tS 34).e + (cA bv cs (tS 34).e + F)) := by
      have e : (tS 34).cells (xs.take i) ++ (tS 34).enc xs[i] ++ ((tS 34).cells (xs.drop i) ++ rest.drop (tS 34).sz) = (tS 34).cells (xs.take (i + 1)) ++ (tS 34).cells (xs.drop i) ++ rest.drop (tS 34).sz := by
        rw [List.take_succ_eq_append_getElem (by omega), (tS 34).cells_append, (tS 34).cells_one]; simp only [List.append_assoc]
      rw [e]; exact s5
    have rv5 : RdT (tS 34) h5 (some ⟨bv, 0, none⟩) 1 [x] := one.rd (s6.to (B := cA bv cs (tS 34).e + (cA b _ _ + F)))
    refine copy_st (j := 1) ok_rows s6 rv5 hti (by omega) (by rw [(tS 34).len, Nat.one_mul]) fun v5 h6 s7 => ?_
    refine ⟨_, _, _, rfl, ⟨by simp; omega, .inr ⟨b, rest.drop (tS 34).sz, rfl, hcn, ?_, rfl⟩⟩, ?_⟩
    · rw [List.length_drop, hr, show c - n = (c - (n + 1)) + 1 by omega, Nat.add_mul, Nat.one_mul]; omega
    · rw [(tS 34).cells_one] at s7
      rw [(tS 34).cells_append, (tS 34).cells_cons]
      have e : (tS 34).cells (xs.take i) ++ ((tS 34).enc x ++ (tS 34).cells (xs.drop i)) ++ rest.drop (tS 34).sz = (tS 34).cells (xs.take i) ++ (tS 34).enc x ++ ((tS 34).cells (xs.drop i) ++ rest.drop (tS 34).sz) := by simp only [List.append_assoc]
      rw [e]
      exact s7
theorem deleteR_st {h0 h : Hp} {p : Option Addr} {n c i : Nat} {j : Int} {xs : List SH} {A F : Bag} (s : St h0 h (A + F)) (a : Sl (tS 34) p n c xs A) (hi : i < n) (hj : j = (i : Int) + 1) (hn : n < 1000000) :
    HCalls Tryz.prog 60 #[.slice p n c, .int .i64 (i : Int), .int .i64 j] h (fun v h' => ∃ A', v = .slice p (n - 1) c ∧ Sl (tS 34) p (n - 1) c (xs.take i ++ xs.drop (i + 1)) A' ∧ St h0 h' (A' + F)) := by
  obtain rfl : j = ((i + 1 : Nat) : Int) := by omega
  have hcap := a.cap
  have hlen := a.len
  have rd := a.rd s
  refine slices_Delete_Sint_Sint_call ?_
  rw [slices_Delete_Sint_Sint_b0_eq]
  refine slC_st (ok_rows).el (by omega) (by omega) hcap fun _ => condP (fun h1 => by omega) (fun _ => ?_)
  have e1 : Int.toNat (i : Int) = i := Int.toNat_natCast i
  have e2 : Int.toNat ((i + 1 : Nat) : Int) = i + 1 := Int.toNat_natCast _
  have e3 : Int.toNat (n : Int) = n := Int.toNat_natCast _
  have e0 : Int.toNat (0 : Int) = 0 := rfl
  refine ⟨⟨by omega, by omega, by omega⟩, ⟨by omega, by omega, by omega⟩, ?_⟩
  rw [e0, e1, e2, e3, subAddr_z, Nat.sub_zero, Nat.sub_zero]
  rcases a with ⟨hl, ⟨rfl, h3, _, _⟩ | ⟨b, rest, rfl, hc, hr, rfl⟩⟩
  · omega
  have hti : ((tS 34).cells (xs.take i)).length = i * (tS 34).sz := by rw [(tS 34).cells_len, List.length_take]; congr 1; omega
  have hdl : ((tS 34).cells (xs.drop i)).length = (n - i) * (tS 34).sz := by rw [(tS 34).cells_len, List.length_drop, hl]
  have hd1l : ((tS 34).cells (xs.drop (i + 1))).length = (n - (i + 1)) * (tS 34).sz := by rw [(tS 34).cells_len, List.length_drop, hl]
  have s1 : St h0 h (cA b ((tS 34).cells (xs.take i) ++ ((tS 34).cells (xs.drop i)).take ((n - (i + 1)) * (tS 34).sz) ++ (((tS 34).cells (xs.drop i)).drop ((n - (i + 1)) * (tS 34).sz) ++ rest)) (tS 34).e + F) := by
    have e : (tS 34).cells (xs.take i) ++ ((tS 34).cells (xs.drop i)).take ((n - (i + 1)) * (tS 34).sz) ++ (((tS 34).cells (xs.drop i)).drop ((n - (i + 1)) * (tS 34).sz) ++ rest) = (tS 34).cells xs ++ rest := by
      rw [List.append_assoc, ← List.append_assoc _ _ rest, List.take_append_drop, ← List.append_assoc, ← (tS 34).cells_append, List.take_append_drop]
    rw [e]; exact s
  have hle : (n - (i + 1)) * (tS 34).sz ≤ (n - i) * (tS 34).sz := Nat.mul_le_mul_right _ (by omega)
  refine append_fit_st ok_rows s1 hti (by rw [List.length_take, hdl]; omega) (rd.sub (by omega) hcap rfl) (by omega) fun h' s2 => ?_
  refine ⟨⟨by omega, by omega, by omega⟩, ?_⟩
  have e4 : Int.toNat ((i + (n - (i + 1)) : Nat) : Int) = n - 1 := by omega
  have e5 : i + (n - (i + 1)) = n - 1 := by omega
  rw [e4, show subAddr (some ⟨b, 0, none⟩) c (n - 1) 1 = some ⟨b, (n - 1) * (tS 34).sz, none⟩ by rw [show subAddr (some ⟨b, 0, none⟩) c (n - 1) 1 = subAddr (some ⟨b, 0, none⟩) c (n - 1) (tS 34).sz from rfl, subAddr_in' (by omega), Nat.zero_add]]
  rw [← (tS 34).cells_append, ← List.append_assoc] at s2
  have hl1 : (xs.take i ++ xs.drop (i + 1)).length = n - 1 := by rw [List.length_append, List.length_take, List.length_drop]; omega
  have hn1 : n - (n - 1) = 1 := by omega
  refine clear_st ok_rows s2 (by rw [(tS 34).cells_len, hl1]) (by
    rw [List.length_drop, hdl, ← Nat.sub_mul]; congr 1; omega) fun h2 zs hzl s3 => ?_
  rw [e5]
  refine ⟨_, rfl, ⟨hl1, .inr ⟨b, zs ++ rest, rfl, by omega, ?_, rfl⟩⟩, ?_⟩
  · rw [List.length_append, hzl, hr, ← Nat.add_mul]; congr 1; omega
  · rw [← List.append_assoc]; exact s3
end Go.Proofs.YtbfejfejahoblaaGreat

/- Layer 3's model: comparing rows, finding a row. -/
set_option maxRecDepth 100000
namespace Go.Proofs.YtbfejfejahoblaaGreat
open Go Go.Sx
def cmpS (x y : Int) : Int := if x < y then -1 else if y < x then 1 else 0
def cmpL : List Int → List Int → Int
  | [], [] => 0
  | [], _ :: _ => -1
  | _ :: _, [] => 1
  | x :: xs, y :: ys => if x < y then -1 else if y < x then 1 else cmpL xs ys
theorem cmp_ok (x y : Int) (h : Hp) : HCalls Tryz.prog 70 #[.int .i64 x, .int .i64 y] h (fun v h' => v = .int .i64 (cmpS x y) ∧ h' = h) := by
  refine cmp_Compare_int_call ?_
  rw [cmp_Compare_int_b0_eq]
  have nan : ∀ (z : Int) {K : Value → Hp → Prop}, K (.bool false) h → HCalls Tryz.prog 86 #[.int .i64 z] h K := fun z K hK => by
    refine cmp_isNaN_int_call ?_
    rw [cmp_isNaN_int_b0_eq, decide_eq_true rfl]
    exact hK
  refine nan x ⟨_, rfl, nan y ⟨_, rfl, condNo rfl (condNo rfl ?_)⟩⟩
  refine condP (fun h1 => ?_) (fun h1 => condP (fun h2 => ?_) (fun h2 => ?_))
  · exact ⟨by rw [cmpS, if_pos h1], rfl⟩
  · exact ⟨by rw [cmpS, if_neg h1, if_pos h2], rfl⟩
  · exact ⟨by rw [cmpS, if_neg h1, if_neg h2], rfl⟩
theorem cmpL_ok {h : Hp} {p q : Option Addr} {n m c d : Nat} {xs ys : List Int} (r1 : RdT TI h p n xs) (r2 : RdT TI h q m ys) (hn : n ≤ 1000000) :
    HCalls Tryz.prog 53 #[.slice p n c, .slice q m d] h (fun v h' => v = .int .i64 (cmpL xs ys) ∧ h' = h) := by
  have hx := r1.len
  have hy := r2.len
  refine slices_Compare_Sint_int_call ?_
  rw [slices_Compare_Sint_int_b0_eq]
  refine ⟨fun s h' => h' = h ∧ ∃ i : Nat, s.1 = i ∧ i ≤ n ∧ i ≤ m ∧ cmpL xs ys = cmpL (xs.drop i) (ys.drop i), fun s _ => n - s.1.toNat, ⟨rfl, 0, rfl, by omega, by omega, rfl⟩, ?_⟩
  rintro ⟨_, _⟩ h1 ⟨rfl, i, rfl, hin, him, heq⟩
  dsimp only
  rw [slices_Compare_Sint_int_b1_eq]
  refine condP (fun hlt => ?_) (fun hge => ?_)
  · refine r1.int (by omega) (by omega) ?_
    rw [Int.toNat_natCast]
    have hil : i < xs.length := by omega
    have hg : xs.getD i 0 = xs[i] := by simp [List.getD, hil]
    have hd : xs.drop i = xs.getD i 0 :: xs.drop (i + 1) := by rw [hg, ← List.drop_eq_getElem_cons hil]
    refine condP (fun hm => ?_) (fun hm => ?_)
    · refine ⟨?_, rfl⟩
      rw [heq, hd, List.drop_of_length_le (show ys.length ≤ i by omega)]
      rfl
    · refine r2.int (by omega) (by omega) ?_
      rw [Int.toNat_natCast]
      have hjl : i < ys.length := by omega
      have hg2 : ys.getD i 0 = ys[i] := by simp [List.getD, hjl]
      have hd2 : ys.drop i = ys.getD i 0 :: ys.drop (i + 1) := by rw [hg2, ← List.drop_eq_getElem_cons hjl]
      refine (cmp_ok _ _ h1).mono fun v h2 ⟨hv, hh⟩ => ⟨_, hv, ?_⟩
      subst hh
      rw [hd, hd2] at heq
      have hc : cmpL (xs.getD i 0 :: xs.drop (i + 1)) (ys.getD i 0 :: ys.drop (i + 1)) = if xs.getD i 0 < ys.getD i 0 then -1 else if ys.getD i 0 < xs.getD i 0 then 1 else cmpL (xs.drop (i + 1)) (ys.drop (i + 1)) := rfl
      rw [hc] at heq
      refine condN (fun hne => ?_) (fun h0 => ?_)
      · refine ⟨?_, rfl⟩
        rw [heq]
        unfold cmpS at hne ⊢
        split
        · rfl
        · split
          · rfl
          · rename_i a b; rw [if_neg a, if_neg b] at hne; exact absurd rfl hne
      · rw [slices_Compare_Sint_int_b2_eq]
        refine ⟨⟨by omega, by omega⟩, ⟨rfl, i + 1, by simp only; omega, by omega, by omega, ?_⟩, by simp only; omega⟩
        rw [heq]
        unfold cmpS at h0
        split
        · rename_i a; rw [if_pos a] at h0; omega
        · split
          · rename_i a b; rw [if_neg a, if_pos b] at h0; omega
          · rfl
  · rw [slices_Compare_Sint_int_b3_eq]
    have hxd : xs.drop i = [] := List.drop_of_length_le (by omega)
    rw [hxd] at heq
    refine condP (fun hlt => ⟨?_, rfl⟩) (fun hlt => ⟨?_, rfl⟩)
    · have hjl : i < ys.length := by omega
      rw [heq, List.drop_eq_getElem_cons hjl]; rfl
    · have : ys.drop i = [] := List.drop_of_length_le (by omega)
      rw [heq, this]; rfl
/-- A row's first elements against a key. -/
def cmpK (rows : List (List Int)) (ks : List Int) (j : Nat) : Int := cmpL ((rows.getD j []).take ks.length) ks
theorem find_ok {h0 h : Hp} {p q : Option Addr} {n c m d t : Nat} {rows : List (List Int)} {ks : List Int} {B G : Bag} (na : RowsA (p, n, c) rows B) (s : St h0 h (B + G)) (rk : RdT TI h q m ks) (hn : n ≤ 1000000) (hm : ∀ r ∈ rows, m ≤ r.length ∧ r.length ≤ 1000000)
    (ht : t ≤ n ∧ (∀ j, j < t → cmpK rows ks j < 0) ∧ ∀ j, t ≤ j → j < n → 0 ≤ cmpK rows ks j) :
    HCalls Tryz.prog 58 #[.slice p n c, .slice q m d] h (fun v h' => v = .tuple #[.int .i64 (t : Int), .bool (decide (t < n ∧ cmpK rows ks t = 0))] ∧ h' = h) := by
  have hrl : rows.length = n := rows_len na
  have hkl := rk.len
  obtain ⟨htn, hlo, hhi⟩ := ht
  -- a row is compared
  have one : ∀ {i : Int} {Q : Option Addr → Nat → Nat → Prop}, 0 ≤ i → i < n → (∀ a l e, (∀ K : Value → Hp → Prop, K (.int .i64 (cmpK rows ks i.toNat)) h → callX Tryz.prog F 78 #[.slice a l e, .slice q m d] h K) → Q a l e) →
      (0 ≤ i ∧ i < (n : Int)) ∧ NN p fun a1 => ∃ (a2 : Option Addr) (L1 C1 : Nat), cell h (a1.add (Int.toNat i * 1)) = some (.slice a2 L1 C1) ∧ Q a2 L1 C1 := by
    intro i Q hi0 hi hq
    refine Nest.at_ (d := []) na s hi0 hi fun a l e Bi Br o hB => hq a l e fun K hK => ?_
    have o : Sl TI a l e (rows.getD i.toNat []) Bi := o
    have hl1 := o.len
    have hcap := o.cap
    have st2 : St h0 h (Bi + (Br + G)) := by rw [hB] at s; exact s.to
    have hil : i.toNat < rows.length := by omega
    have hg : rows.getD i.toNat [] = rows[i.toNat] := by simp [List.getD, hil]
    have hmi := hm _ (List.getElem_mem hil)
    rw [← hg] at hmi
    refine callX_of (by kernel_rfl) (model_find_c1_call ?_)
    rw [model_find_c1_b0_eq]
    have e0 : Int.toNat (0 : Int) = 0 := rfl
    refine ⟨⟨by omega, by omega, by omega⟩, ?_⟩
    rw [e0, subAddr_z, Int.toNat_natCast, Nat.sub_zero, Nat.sub_zero]
    refine (cmpL_ok ((o.rd st2).take (i := m) (by omega)) rk (by omega)).mono fun v h2 ⟨hv, hh⟩ => ⟨_, hv, ?_⟩
    subst hh
    have : cmpK rows ks i.toNat = cmpL ((rows.getD i.toNat []).take m) ks := by rw [cmpK, hkl]
    rw [← this]
    exact hK
  refine model_find_call ?_
  rw [model_find_b0_eq]
  refine HCalls.mono (K := fun v h' => v = .tuple #[.int .i64 (t : Int), .bool (decide (t < n ∧ cmpK rows ks t = 0))] ∧ h' = h) ?_ (fun v h' ⟨hv, hh⟩ => ⟨_, _, hv, rfl, hh⟩)
  refine slices_BinarySearchFunc_Sint_Sint_Sint_call ?_
  rw [slices_BinarySearchFunc_Sint_Sint_Sint_b0_eq]
  refine ⟨fun x h' => h' = h ∧ ∃ i j : Nat, x.1 = i ∧ x.2.1 = j ∧ i ≤ t ∧ t ≤ j ∧ j ≤ n, fun x _ => (x.2.1 - x.1).toNat, ⟨rfl, 0, n, rfl, rfl, by omega, htn, by omega⟩, ?_⟩
  rintro ⟨_, _, _⟩ h1 ⟨rfl, i, j, rfl, rfl, hit, htj, hjn⟩
  dsimp only
  rw [slices_BinarySearchFunc_Sint_Sint_Sint_b1_eq]
  refine condP (fun hlt => ?_) (fun hge => ?_)
  · have e1 : IntKind.u64.wrap ((i : Int) + (j : Int)) = ((i + j : Nat) : Int) := by
      show ((i : Int) + (j : Int)) % 18446744073709551616 = _
      rw [Int.emod_eq_of_lt (by omega) (by omega)]; push_cast; rfl
    refine ⟨⟨by omega, by omega⟩, (((i + j) / 2 : Nat) : Int), ⟨by omega, ?_⟩, ⟨by omega, by omega⟩, ?_⟩
    · rw [e1]
      have : (2 : Int) ^ (min (Int.toNat 1) IntKind.u64.bits) = 2 := by decide
      rw [this]
      rw [Int.fdiv_eq_ediv_of_nonneg _ (by omega)]
      omega
    refine one (by omega) (by omega) fun a l e hX => ?_
    refine hX _ ⟨_, rfl, condP (fun h3 => ?_) (fun h3 => ?_)⟩
    · rw [Int.toNat_natCast] at h3
      have : (i + j) / 2 < t := by
        rcases Nat.lt_or_ge ((i + j) / 2) t with h | h
        · exact h
        · have := hhi _ h (by omega); omega
      exact ⟨⟨by omega, by omega⟩, ⟨rfl, (i + j) / 2 + 1, j, by simp only; omega, rfl, by omega, htj, hjn⟩, by simp only; omega⟩
    · rw [Int.toNat_natCast] at h3
      have : t ≤ (i + j) / 2 := by
        rcases Nat.lt_or_ge ((i + j) / 2) t with h | h
        · have := hlo _ h; omega
        · exact h
      exact ⟨⟨rfl, i, (i + j) / 2, rfl, rfl, hit, this, by omega⟩, by simp only; omega⟩
  · obtain rfl : i = t := by omega
    rw [slices_BinarySearchFunc_Sint_Sint_Sint_b2_eq]
    refine condP (fun hin => ?_) (fun hin => ?_)
    · refine one (by omega) (by omega) fun a l e hX => ?_
      refine hX _ ⟨_, rfl, ?_, rfl⟩
      rw [Int.toNat_natCast]
      rw [show decide (cmpK rows ks i = 0) = decide (i < n ∧ cmpK rows ks i = 0) from decide_eq_decide.2 ⟨fun h => ⟨by omega, h⟩, fun h => h.2⟩]
    · refine ⟨?_, rfl⟩
      rw [decide_eq_false (fun h => hin (by omega))]
theorem mresult_ok (z : Int) (h : Hp) : HCalls Tryz.prog 56 #[.int .i64 z] h (fun v h' => v = .agg #[.int .i64 0, .int .i64 z, .slice none 0 0] ∧ Ext h h') := by
  refine model_result_call ?_
  rw [model_result_b0_eq]
  refine (St.start h).new (cs := [.int .i64 0, .int .i64 0, .slice none 0 0]) fun b1 h1 _ s1 => ?_
  refine s1.wr rfl (by simp) fun h2 s2 => ?_
  refine s2.wr (o := 1) (add_mk _ _ _) (by simp) fun h3 s3 => ?_
  refine s3.wr (o := 2) (add_mk _ _ _) (by simp) fun h4 s4 => ?_
  exact ⟨_, _, _, _, _, s4.blk.cell 0, Blk.cellA s4.blk 1, Blk.cellA s4.blk 2, rfl, s4.ext⟩
theorem mfailed_ok (z : Int) (h : Hp) : HCalls Tryz.prog 57 #[.int .i64 z] h (fun v h' => v = .agg #[.int .i64 z, .int .i64 0, .slice none 0 0] ∧ Ext h h') := by
  refine model_failed_call ?_
  rw [model_failed_b0_eq]
  refine (St.start h).new (cs := [.int .i64 0, .int .i64 0, .slice none 0 0]) fun b1 h1 _ s1 => ?_
  refine s1.wr rfl (by simp) fun h2 s2 => ?_
  refine s2.wr (o := 1) (add_mk _ _ _) (by simp) fun h3 s3 => ?_
  refine s3.wr (o := 2) (add_mk _ _ _) (by simp) fun h4 s4 => ?_
  exact ⟨_, _, _, _, _, s4.blk.cell 0, Blk.cellA s4.blk 1, Blk.cellA s4.blk 2, rfl, s4.ext⟩
end Go.Proofs.YtbfejfejahoblaaGreat

/- Layer 3's model: a dictionary's step. -/
set_option maxRecDepth 100000
namespace Go.Proofs.YtbfejfejahoblaaGreat
open Go Go.Sx
/-- One more row. -/
theorem mrows_put {h0 h : Hp} {p : Option Addr} {n c i b : Nat} {rows : List (List Int)} {x : List Int} {q : Option Addr} {m d : Nat} {B Bx G : Bag} (na : RowsA (p, n, c) rows B) (o : Sl TI q m d x Bx) (s : St h0 h (cA b [.slice q m d] 34 + (B + (Bx + G)))) (hi : i ≤ n) (hn : n < 1000000) :
    HCalls Tryz.prog 59 #[.slice p n c, .int .i64 (i : Int), .slice (some ⟨b, 0, none⟩) 1 1] h (fun v h' => ∃ q' d' B', v = .slice q' (n + 1) d' ∧ RowsA (q', n + 1, d') (rows.take i ++ x :: rows.drop i) B' ∧ St h0 h' (B' + G)) := by
  obtain ⟨hs, B0, B1, rfl, h1, h2⟩ := na
  obtain ⟨C1, C2, rfl, c1, c2⟩ := AllH.cut h2 i
  have s1 : St h0 h (B0 + (cA b [.slice q m d] (tS 34).e + (C1 + C2 + (Bx + G)))) := s.to (B := B0 + (cA b [.slice q m d] 34 + (C1 + C2 + (Bx + G))))
  refine (insertR_st (x := (q, m, d)) s1 h1 rfl hi hn).mono fun v h' ⟨q', d', B', hv, o', s'⟩ => ⟨q', d', B' + (C1 + (Bx + C2)), hv, ⟨_, B', C1 + (Bx + C2), rfl, o', c1.append ⟨Bx, C2, rfl, o, c2⟩⟩, ?_⟩
  have s' : St h0 h' (B' + (cA b [.slice q m d] 34 + (C1 + C2 + (Bx + G)))) := s'
  exact (s'.to (B := cA b [.slice q m d] 34 + (B' + (C1 + (Bx + C2)) + G))).drop
/-- A row less. -/
theorem mrows_cut {h0 h : Hp} {p : Option Addr} {n c i : Nat} {j : Int} {rows : List (List Int)} {B G : Bag} (na : RowsA (p, n, c) rows B) (s : St h0 h (B + G)) (hi : i < n) (hj : j = (i : Int) + 1) (hn : n < 1000000) :
    HCalls Tryz.prog 60 #[.slice p n c, .int .i64 (i : Int), .int .i64 j] h (fun v h' => ∃ B', v = .slice p (n - 1) c ∧ RowsA (p, n - 1, c) (rows.take i ++ rows.drop (i + 1)) B' ∧ St h0 h' (B' + G)) := by
  obtain ⟨hs, B0, B1, rfl, h1, h2⟩ := na
  obtain ⟨C1, C2, rfl, c1, c2⟩ := AllH.cut h2 i
  obtain ⟨C3, C4, rfl, _, c4⟩ := AllH.cut c2 1
  rw [List.drop_drop, List.drop_drop] at c4
  refine (deleteR_st (s.to (B := B0 + (C1 + (C3 + C4) + G))) h1 hi hj hn).mono fun v h' ⟨B', hv, o, s'⟩ => ⟨B' + (C1 + C4), hv, ⟨_, B', C1 + C4, rfl, o, c1.append c4⟩, (s'.to (B := C3 + (B' + (C1 + C4) + G))).drop⟩
/-- What a step of the model leaves: rows and a result. -/
def MStepP (h0 : Hp) (G : Bag) (rows : List (List Int)) (e z : Int) (v : Value) (h' : Hp) : Prop :=
  ∃ q m d B', v = .tuple #[.slice q m d, .agg #[.int .i64 e, .int .i64 z, .slice none 0 0]] ∧ RowsA (q, m, d) rows B' ∧ St h0 h' (B' + G)
theorem mboxW {h0 h : Hp} {b2 : Nat} {y0 y1 y2 : Value} {D B G : Bag} {p : Option Addr} {n c : Nat} {e z : Int} {rows : List (List Int)} (na : RowsA (p, n, c) rows B)
    (s : St h0 h (cA b2 [y0, y1, y2] 38 + (D + (B + G)))) :
    Wr h ⟨b2, 0, none⟩ (.int .i64 e) fun h4 => Wr h4 ((⟨b2, 0, none⟩ : Addr).add 1) (.int .i64 z) fun h5 => Wr h5 ((⟨b2, 0, none⟩ : Addr).add 2) (.slice none 0 0) fun h6 =>
      ∃ r4 : Int, ∃ r5 : Int, ∃ (r6 : Option Addr) (rL2 rC2 : Nat), cell h6 ⟨b2, 0, none⟩ = some (.int .i64 r4) ∧ cell h6 ((⟨b2, 0, none⟩ : Addr).add 1) = some (.int .i64 r5) ∧ cell h6 ((⟨b2, 0, none⟩ : Addr).add 2) = some (.slice r6 rL2 rC2) ∧
      MStepP h0 G rows e z (.tuple #[.slice p n c, .agg #[.int .i64 r4, .int .i64 r5, .slice r6 rL2 rC2]]) h6 := by
  refine s.wr rfl (by simp) fun h8 s8 => ?_
  refine s8.wr (o := 1) (add_mk _ _ _) (by simp) fun h9 s9 => ?_
  refine s9.wr (o := 2) (add_mk _ _ _) (by simp) fun h10 s10 => ?_
  refine ⟨_, _, _, _, _, s10.blk.cell 0, Blk.cellA s10.blk 1, Blk.cellA s10.blk 2, p, n, c, B, rfl, na, ?_⟩
  exact (s10.drop).drop
theorem mboxT {g : Nat} {args : Array Value} {h0 h : Hp} {b2 : Nat} {y0 y1 y2 : Value} {D B G : Bag} {p : Option Addr} {n c : Nat} {e z : Int} {rows : List (List Int)} (na : RowsA (p, n, c) rows B)
    (s : St h0 h (cA b2 [y0, y1, y2] 38 + (D + (B + G))))
    (hc : HCalls Tryz.prog g args h (fun v h' => v = .agg #[.int .i64 e, .int .i64 z, .slice none 0 0] ∧ Ext h h')) :
    HCalls Tryz.prog g args h fun v1 h3 => ∃ r1 : Int, ∃ r2 : Int, ∃ (r3 : Option Addr) (rL1 rC1 : Nat), v1 = .agg #[.int .i64 r1, .int .i64 r2, .slice r3 rL1 rC1] ∧
      Wr h3 ⟨b2, 0, none⟩ (.int .i64 r1) fun h4 => Wr h4 ((⟨b2, 0, none⟩ : Addr).add 1) (.int .i64 r2) fun h5 => Wr h5 ((⟨b2, 0, none⟩ : Addr).add 2) (.slice r3 rL1 rC1) fun h6 =>
      ∃ r4 : Int, ∃ r5 : Int, ∃ (r6 : Option Addr) (rL2 rC2 : Nat), cell h6 ⟨b2, 0, none⟩ = some (.int .i64 r4) ∧ cell h6 ((⟨b2, 0, none⟩ : Addr).add 1) = some (.int .i64 r5) ∧ cell h6 ((⟨b2, 0, none⟩ : Addr).add 2) = some (.slice r6 rL2 rC2) ∧
      MStepP h0 G rows e z (.tuple #[.slice p n c, .agg #[.int .i64 r4, .int .i64 r5, .slice r6 rL2 rC2]]) h6 :=
  hc.mono fun _ _ ⟨hv, x⟩ => ⟨_, _, _, _, _, hv, mboxW na (s.grow x)⟩
end Go.Proofs.YtbfejfejahoblaaGreat

/- Layer 3's model: lists of operations, valid ones, Run of a dictionary. -/
set_option maxRecDepth 100000
namespace Go.Proofs.YtbfejfejahoblaaGreat
open Go Go.Sx
abbrev OpT := Int × SH
abbrev tO : Ty OpT := ⟨36, 2, fun x => [.int .i64 x.1, .slice x.2.1 x.2.2.1 x.2.2.2], (0, none, 0, 0), fun _ => rfl, by decide, fun _ v hv => by simp at hv; rcases hv with rfl | rfl <;> rfl⟩
abbrev OpL := Int × List Int
/-- A slice of operations, with their arguments. -/
def OpsR (h : Hp) (p : Option Addr) (n : Nat) (ops : List OpL) : Prop :=
  ∃ l : List OpT, RdT tO h p n l ∧ ops.length = n ∧ ∀ i, i < n → (l.getD i tO.d).1 = (ops.getD i (0, [])).1 ∧ (l.getD i tO.d).2.2.1 ≤ (l.getD i tO.d).2.2.2 ∧ RdT TI h (l.getD i tO.d).2.1 (l.getD i tO.d).2.2.1 (ops.getD i (0, [])).2
theorem OpsR.len {h : Hp} {p : Option Addr} {n : Nat} {ops : List OpL} (r : OpsR h p n ops) : ops.length = n := let ⟨_, _, hl, _⟩ := r; hl
theorem OpsR.ext {h h' : Hp} {p : Option Addr} {n : Nat} {ops : List OpL} (r : OpsR h p n ops) (x : Ext h h') : OpsR h' p n ops :=
  let ⟨l, r1, hl, hk⟩ := r; ⟨l, r1.ext x, hl, fun i hi => ⟨(hk i hi).1, (hk i hi).2.1, (hk i hi).2.2.ext x⟩⟩
theorem OpsR.at_ {h h1 : Hp} {p : Option Addr} {n : Nat} {ops : List OpL} {i : Int} {Q : Int → Option Addr → Nat → Nat → Prop} (r : OpsR h p n ops) (x : Ext h h1) (h0 : 0 ≤ i) (hi : i < n)
    (hq : ∀ q m c, m ≤ c → RdT TI h q m (ops.getD i.toNat (0, [])).2 → Q (ops.getD i.toNat (0, [])).1 q m c) :
    (0 ≤ i ∧ i < (n : Int)) ∧ NN p fun a => ∃ x : Int, ∃ (y : Option Addr) (z w : Nat), cell h1 (a.add (Int.toNat i * 2)) = some (.int .i64 x) ∧ cell h1 ((a.add (Int.toNat i * 2)).add 1) = some (.slice y z w) ∧ Q x y z w := by
  obtain ⟨l, r1, hl, hk⟩ := r
  obtain ⟨k1, k2, k3⟩ := hk i.toNat (by omega)
  refine (r1.ext x).idx h0 hi fun _ _ hc => ⟨_, _, _, _, hc 0 (show 0 < 2 by decide), hc 1 (show 1 < 2 by decide), ?_⟩
  rw [k1]
  exact hq _ _ _ k2 k3
/-- Of slices that are readable, the arguments are chosen. -/
theorem OpsR.mk' {h : Hp} {p : Option Addr} {n : Nat} {l : List OpT} (r : RdT tO h p n l) (hz : ∀ x ∈ l, x.2.2.1 ≤ x.2.2.2 ∧ ∃ zs, RdT TI h x.2.1 x.2.2.1 zs) : ∃ ops, OpsR h p n ops := by
  have hl := r.len
  have : ∃ ops : List OpL, ops.length = l.length ∧ ∀ i, i < l.length → (l.getD i tO.d).1 = (ops.getD i (0, [])).1 ∧ (l.getD i tO.d).2.2.1 ≤ (l.getD i tO.d).2.2.2 ∧ RdT TI h (l.getD i tO.d).2.1 (l.getD i tO.d).2.2.1 (ops.getD i (0, [])).2 := by
    clear r hl
    induction l with
    | nil => exact ⟨[], rfl, fun i hi => by simp at hi⟩
    | cons x l ih =>
      obtain ⟨ops, e, hk⟩ := ih fun y hy => hz y (List.mem_cons_of_mem _ hy)
      obtain ⟨hc, zs, rz⟩ := hz x List.mem_cons_self
      refine ⟨(x.1, zs) :: ops, by simp [e], fun i hi => ?_⟩
      cases i with
      | zero => exact ⟨rfl, hc, rz⟩
      | succ i => simpa using hk i (by simpa using hi)
  obtain ⟨ops, e, hk⟩ := this
  exact ⟨ops, l, r, by omega, fun i hi => hk i (by omega)⟩
abbrev AllV (k : Int) (ops : List OpL) : Prop := ∀ o ∈ ops, OpV k o.1 o.2
theorem getD_mem {α : Type} {l : List α} {i : Nat} {d : α} (h : i < l.length) : l.getD i d ∈ l := by
  rw [List.getD_eq_getElem?_getD, List.getElem?_eq_getElem h]
  exact List.getElem_mem h
theorem allV_succ {k : Int} {ops : List OpL} {i : Nat} (hi : i < ops.length) (h : ∀ o ∈ ops.take i, OpV k o.1 o.2) (h1 : OpV k (ops.getD i (0, [])).1 (ops.getD i (0, [])).2) : ∀ o ∈ ops.take (i + 1), OpV k o.1 o.2 := by
  intro o ho
  have hg : ops.getD i (0, []) = ops[i] := by rw [List.getD_eq_getElem?_getD, List.getElem?_eq_getElem hi]; rfl
  rw [List.take_succ_eq_append_getElem hi, List.mem_append, List.mem_singleton, ← hg] at ho
  rcases ho with ho | rfl
  · exact h o ho
  · exact h1
theorem validAll_ok {k : Int} {h : Hp} {p : Option Addr} {n c : Nat} {ops : List OpL} (r : OpsR h p n ops) (hn : n ≤ 1000000) :
    HCalls Tryz.prog 5 #[.int .i64 k, .slice p n c] h (fun v h' => v = .bool (decide (AllV k ops)) ∧ Ext h h') := by
  have hl := r.len
  refine r03_ValidAll_call ?_
  rw [r03_ValidAll_b0_eq]
  refine ⟨fun s h' => Ext h h' ∧ ∃ i : Nat, s.1 = i ∧ i ≤ n ∧ ∀ o ∈ ops.take i, OpV k o.1 o.2, fun s _ => n - s.1.toNat, ⟨Ext.refl h, 0, rfl, by omega, by simp⟩, ?_⟩
  rintro ⟨_, _⟩ h1 ⟨x1, i, rfl, hin, hall⟩
  dsimp only
  rw [r03_ValidAll_b1_eq]
  refine condP (fun hlt => ?_) (fun hge => ?_)
  · refine r.at_ x1 (by omega) (by omega) fun q m d _ rz => ?_
    rw [Int.toNat_natCast] at rz ⊢
    refine (rValid' (rz.ext x1)).mono fun v h2 ⟨hv, x2⟩ => ⟨_, hv, condN (fun hno => ?_) (fun hyes => ?_)⟩
    · exact ⟨by rw [decide_eq_false (fun h => hno (h _ (getD_mem (by omega))))], x1.trans x2⟩
    · rw [r03_ValidAll_b2_eq]
      exact ⟨⟨by omega, by omega⟩, ⟨x1.trans x2, i + 1, by simp only; omega, by omega, allV_succ (by omega) hall hyes⟩, by simp only; omega⟩
  · rw [r03_ValidAll_b3_eq]
    rw [List.take_of_length_le (by omega)] at hall
    exact ⟨by rw [decide_eq_true hall], x1⟩
/-! ### a new state -/
theorem mnew_ok {k : Int} (hk : 1 ≤ k ∧ k ≤ 6) (h : Hp) : HCalls Tryz.prog 7 #[.int .i64 k] h (fun v h' => v = .tuple #[.agg #[.int .i64 k, .slice none 0 0], .int .i64 0] ∧ Ext h h') := by
  refine model_New_call ?_
  rw [model_New_b0_eq]
  refine (St.start h).new (cs := [.int .i64 0, .slice none 0 0]) fun b1 h1 x1 s1 => ?_
  refine (words_ok k h1).mono fun v1 h2 ⟨q, d, hv1, rw1, x2⟩ => ⟨_, _, _, hv1, ?_⟩
  have hpos : 0 < (wdT k).length := by
    have hk' : k = 1 ∨ k = 2 ∨ k = 3 ∨ k = 4 ∨ k = 5 ∨ k = 6 := by omega
    rcases hk' with rfl | rfl | rfl | rfl | rfl | rfl <;> decide
  obtain ⟨a, rfl⟩ : ∃ a, q = some a := by
    have := (word_load (i := 0) (Q := fun _ _ _ => True) rw1 (by omega) (by omega) trivial).2
    cases q with
    | none => exact this.elim
    | some a => exact ⟨a, rfl⟩
  refine condNo rfl ?_
  have s2 := s1.grow x2
  refine s2.wr rfl (by simp) fun h3 s3 => ?_
  refine s3.wr (o := 1) (add_mk _ _ _) (by simp) fun h4 s4 => ?_
  exact ⟨_, _, _, _, s4.blk.cell 0, Blk.cellA s4.blk 1, rfl, s4.ext⟩
end Go.Proofs.YtbfejfejahoblaaGreat

/- How a slice that is handed in is read: elements of any number of cells. -/
namespace Go.Sx
open Go Go.ChangeShapes Go.WideShapes Go.Deep
section
variable {H : Type} {enc : TypeId × Value → H} {P : Program} {w : World} {base : Nat} {sp : Nat → Bool} {held : Bool} {α : Type}
theorem rd_flat {t : TypeId} (T : Ty α) {W : α → Prop} {a : Option Addr} {len cap : Nat} {d : DataW H} {ps : List MemPlace} (ht : P.underlying t = some (.slice T.e)) (hc : P.cellsOf T.e = T.sz)
    (dec : ∀ n cs x, DataW.trod enc P w base sp held n T.e cs = some x → ∃ a, cs = T.enc a ∧ W a) (h : DataW.Trod enc P w base sp held t (.slice a len cap) d ps) :
    ∃ xs : List α, RdT T w.heap a len xs ∧ len ≤ cap ∧ ∀ x ∈ xs, W x := by
  obtain ⟨fuel, hf⟩ := h
  have e0 : (Value.slice a len cap).cells.toList = [.slice a len cap] := rfl
  rw [e0] at hf
  rcases open_slice ht hf with ⟨hcs, _⟩ | ⟨x, l, c, m, n, D, Pl, hcs, _, hl, _, hm, _, hx⟩
  · injection hcs with h1 _
    injection h1 with h1 h2 h3
    subst h1 h2 h3
    exact ⟨[], RdT.nil _ _, Nat.le_refl _, fun _ h => nomatch h⟩
  · injection hcs with h1 _
    injection h1 with h1 h2 h3
    subst h1 h2 h3
    have hlm : len ≤ m := by rw [hm]; split <;> omega
    haveI : Inhabited α := ⟨T.d⟩
    obtain ⟨f, hf⟩ := choose_lt (α := α) (n := len) (p := fun i z => w.cells? base (x.add (i * T.sz)) T.sz = some (T.enc z) ∧ W z) (fun i hi => by
      obtain ⟨cs, h1, h2⟩ := hx i (by omega)
      obtain ⟨z, hz, hw⟩ := dec n cs _ h2
      rw [hc] at h1
      exact ⟨z, by rw [h1, hz], hw⟩)
    refine ⟨(List.range len).map f, ⟨by simp, .inr ⟨x, rfl, fun i hi => ?_⟩⟩, hl, fun z hz => ?_⟩
    · have hp := T.pos
      have hdm : T.sz * (i / T.sz) + i % T.sz = i := Nat.div_add_mod i T.sz
      have hq : i / T.sz < len := (Nat.div_lt_iff_lt_mul hp).2 hi
      have hr : i % T.sz < T.sz := Nat.mod_lt _ hp
      obtain ⟨_, _, h3⟩ := World.cells?_some (hf _ hq).1
      have h4 := h3 _ hr
      have e1 : i / T.sz * T.sz + i % T.sz = i := by rw [Nat.mul_comm]; exact hdm
      rw [add_add, e1] at h4
      show cell w.heap (x.add i) = _
      rw [← cell_eq, h4]
      have := T.cells_get ((List.range len).map f) (i := i / T.sz) (j := i % T.sz) (by simpa using hq) hr
      rw [e1] at this
      rw [this]
      simp [List.getD, hq]
    · obtain ⟨i, hi, rfl⟩ := List.mem_map.1 hz
      exact (hf i (List.mem_range.1 hi)).2
theorem dec_int {e : TypeId} {k : IntKind} (he : P.underlying e = some (.int k)) (n : Nat) (cs : List Value) (x : DataW H × List MemPlace) (h : DataW.trod enc P w base sp held n e cs = some x) : ∃ z, cs = [.int k z] ∧ (Lit.int k z).wf = true := by
  obtain ⟨z, h1, _, h2⟩ := DataW.trod_int he h
  exact ⟨z, h1, h2⟩
end
end Go.Sx

/- How the law's arguments are read. -/
set_option maxRecDepth 10000
namespace Go.Proofs.YtbfejfejahoblaaGreat
open Go Go.Sx Go.ChangeShapes Go.WideShapes Go.ChangeAt Go.RowKit Go.Deep

theorem own : ownKnob Tryz.prog.godebug = none := by kernel_rfl
theorem laidOut : laidOutB Tryz.prog = true := by kernel_rfl
theorem below_of {P : Program} {f : FuncId} {args : Array Value} {w : World} (hc : HCalls P f args w.heap (fun v h' => v = .bool true ∧ Ext w.heap h')) :
    Calls P f args w fun e w' => e = .returned (.bool true) ∧ Below w.heap.size w w' :=
  (hc w rfl).mono fun e w' ⟨v, he, hs, hv, hx⟩ => ⟨by rw [he, hv], ⟨hs.os, hs.tape, hs.output, hx.size, hx.same⟩⟩
section
variable {H : Type} {enc : TypeId × Value → H} {w : World} {base : Nat} {held : Bool} {a : Option Addr} {len cap : Nat} {d : DataW H} {ps : List MemPlace}
theorem rd_ops (h : DataW.Trod enc Tryz.prog w base (fun _ => true) held 22 (.slice a len cap) d ps) : ∃ l : List OpT, RdT tO w.heap a len l ∧ len ≤ cap ∧ ∀ x ∈ l, x.2.2.1 ≤ x.2.2.2 ∧ ∃ zs, RdT TI w.heap x.2.1 x.2.2.1 zs :=
  rd_flat tO Tryz.underlying22 (by kernel_rfl) (fun n cs x h => by
    obtain ⟨xs, m, _, _, hl, hxl, hx⟩ := DataW.trod_struct Tryz.underlying36 h
    rw [show Tryz.prog.cellsOf 36 = 2 by kernel_rfl] at hl
    match cs, xs, hl, hxl with
    | [c0, c1], [y0, y1], _, _ =>
      obtain ⟨z0, e0, w0⟩ := dec_int (k := .i64) (by kernel_rfl) _ _ _ (hx 0 _ rfl)
      have f0 : c0 = .int .i64 z0 := (List.cons.inj (show [c0] = [Value.int .i64 z0] from e0)).1
      have h1 : DataW.trod enc Tryz.prog w base (fun _ => true) held m 34 [c1] = some y1 := hx 1 _ rfl
      have key : ∃ a' l' c', [c1] = [Value.slice a' l' c'] := by
        rcases open_slice Tryz.underlying34 h1 with ⟨hcs, _⟩ | ⟨_, _, _, _, _, _, _, hcs, _⟩
        · exact ⟨_, _, _, hcs⟩
        · exact ⟨_, _, _, hcs⟩
      obtain ⟨a', l', c', hc1⟩ := key
      have f1 : c1 = .slice a' l' c' := (List.cons.inj hc1).1
      rw [hc1] at h1
      obtain ⟨zs, hr, hle, _⟩ := rd_flat (W := InR) TI Tryz.underlying34 (by kernel_rfl) (fun n cs x h => by
        obtain ⟨z, h1, h2⟩ := dec_int (k := .i64) (by kernel_rfl) n cs x h
        exact ⟨z, h1, bounds_i64 h2⟩) (d := y1.1) (ps := y1.2) ⟨m, h1⟩
      rw [f0, f1]
      exact ⟨(z0, a', l', c'), rfl, hle, zs, hr⟩) h
end
end Go.Proofs.YtbfejfejahoblaaGreat

/- Layer 3's model: copies. -/
set_option maxRecDepth 100000
namespace Go.Proofs.YtbfejfejahoblaaGreat
open Go Go.Sx
/-- 'out = append(out, x)' of a slice x. -/
theorem push_nestS {h0 h : Hp} {p : Option Addr} {n c : Nat} {q : Option Addr} {m d : Nat} {xs : List (List Int)} {x : List Int} {A B G : Bag} {e' : TypeId} {k : Option Addr → Nat → Nat → Hp → Prop}
    (s : St h0 h (A + (B + G))) (a : RowsA (p, n, c) xs A) (b : RowP (q, m, d) x B) (he : e' = 34) (hn : n + 1 < 1073741824)
    (hk : ∀ p' c' h' A', RowsA (p', n + 1, c') (xs ++ [x]) A' → St h0 h' (A' + G) → k p' (n + 1) c' h') :
    New h (.cells #[.slice q m d] e') fun b h1 => appendV Tryz.prog 29 29 (.slice p n c) (.slice (some ⟨b, 0, none⟩) 1 1) h1 (slK k) := by
  subst he
  obtain ⟨hs, B0, B1, rfl, h1, h2⟩ := a
  refine s.new (cs := [.slice q m d]) fun b h3 x3 s3 => ?_
  have sx : Sl TR (some ⟨b, 0, none⟩) 1 1 [(q, m, d)] (cA b [.slice q m d] 34) := Sl.of_blk (T := TR) (xs := [(q, m, d)]) rfl rfl
  refine append_sl ok_row (s3.to (B := B0 + (cA b [.slice q m d] 34 + (B1 + (B + G))))) h1 (sx.rd s3) hn fun p' c' h' A' a' s' => ?_
  have s5 := (s'.to (B := cA b [.slice q m d] 34 + (A' + (B1 + B) + G))).drop
  exact hk p' c' h' (A' + (B1 + B)) ⟨hs ++ [(q, m, d)], A', B1 + B, rfl, a', h2.append (AllH.one ‹RowP (q, m, d) x B›)⟩ s5
/-- A copy of rows. -/
theorem copied_ok {h0 h : Hp} {p : Option Addr} {n c : Nat} {rows : List (List Int)} {B G : Bag} (na : RowsA (p, n, c) rows B) (s : St h0 h (B + G)) (hn : n < 1000000) (hr : ∀ r ∈ rows, r.length < 1000000) :
    HCalls Tryz.prog 24 #[.slice p n c] h (fun v h' => ∃ q d B', v = .slice q n d ∧ RowsA (q, n, d) rows B' ∧ St h h' B') := by
  have hl : rows.length = n := rows_len na
  refine model_copied_call ?_
  rw [model_copied_b0_eq]
  refine ⟨fun x h1 => ∃ (i : Nat) (B' : Bag), x.2.1 = i ∧ i ≤ n ∧ RowsA (x.1.1, x.1.2.1, x.1.2.2) (rows.take i) B' ∧ St h h1 B', fun x _ => n - x.2.1.toNat, ⟨0, 0, rfl, by omega, Nest.nil, St.start h⟩, ?_⟩
  rintro ⟨⟨q, m, d⟩, _, _⟩ h1 ⟨i, B', rfl, hin, na', s'⟩
  dsimp only at na' ⊢
  have hm := rows_len na'
  rw [List.length_take] at hm
  dsimp only at hm
  rw [model_copied_b1_eq]
  refine condP (fun hlt => ?_) (fun hlt => ?_)
  · refine Nest.at_ (d := []) na (s.grow s'.ext) (by omega) (by omega) fun a L C Bi Br o hB => ?_
    rw [Int.toNat_natCast] at o
    have o : Sl TI a L C (rows.getD i []) Bi := o
    have st2 : St h0 h1 (Bi + (Br + G)) := by have := s.grow s'.ext; rw [hB] at this; exact this.to
    have hg : rows.getD i [] = rows[i] := by simp [List.getD, show i < rows.length by omega]
    have hll := o.len
    have hlr := hr _ (List.getElem_mem (show i < rows.length by omega))
    rw [← hg] at hlr
    refine (cloneI_st (o.rd st2) (by omega)).mono fun v h2 ⟨q2, d2, A2, hv, o2, t2⟩ => ⟨_, _, _, hv, ?_⟩
    have s2 := s'.join t2
    refine push_nestS (G := 0) (s2.to (B := B' + (A2 + 0))) na' o2 rfl (by show m + 1 < _; omega) fun q3 d3 h3 B3 na3 s3 => ?_
    rw [model_copied_b2_eq]
    have e : rows.take i ++ [rows.getD i []] = rows.take (i + 1) := by rw [hg, List.take_succ_eq_append_getElem (by omega)]
    rw [e] at na3
    exact ⟨⟨by omega, by omega⟩, ⟨i + 1, B3, by push_cast; rfl, by omega, na3, by have := s3; rwa [Bag.add_zero] at this⟩, by simp only; omega⟩
  · obtain rfl : i = n := by omega
    rw [model_copied_b3_eq]
    rw [← hl, List.take_length] at na'
    obtain rfl : m = i := by omega
    exact ⟨q, d, B', rfl, na', s'⟩
end Go.Proofs.YtbfejfejahoblaaGreat

/- Layer 3's model: whether rows are valid; Apply to a heap. -/
set_option maxRecDepth 100000
namespace Go.Proofs.YtbfejfejahoblaaGreat
open Go Go.Sx
theorem rowv_x (z : Int) (h : Hp) (K : Value → Hp → Prop) (hk : K (.bool (!decide (KeyP z))) h) : callX Tryz.prog F 52 #[.int .i64 z] h K := by
  refine callX_of (by kernel_rfl) (model_validRows_c1_call ?_)
  rw [model_validRows_c1_b0_eq]
  exact (numb_ok z h).mono fun v h' ⟨hv, hh⟩ => ⟨_, hv, by rw [hh]; exact hk⟩
/-- Rows that are valid, of a kind whose rows have one width and are in order. -/
structure RowsV (k : Int) (w ky : Nat) (rows : List (List Int)) : Prop where
  len : rows.length ≤ 500
  wid : ∀ r ∈ rows, r.length = w ∧ ∀ z ∈ r, KeyP z
  ord : ∀ i, i + 1 < rows.length → 0 < ky → cmpL ((rows.getD i []).take ky) ((rows.getD (i + 1) []).take ky) < 0 ∨ (cmpL ((rows.getD i []).take ky) ((rows.getD (i + 1) []).take ky) = 0 ∧ k = 2)
theorem validRows_ok {k : Int} {w ky : Nat} {h0 h : Hp} {p : Option Addr} {n c : Nat} {rows : List (List Int)} {B G : Bag} (hW : ∀ h, HCalls Tryz.prog 51 #[.int .i64 k] h (fun v h' => v = .tuple #[.int .i64 (w : Int), .int .i64 (ky : Int)] ∧ h' = h)) (hw : ky ≤ w ∧ w < 100) (hv : RowsV k w ky rows) (na : RowsA (p, n, c) rows B) (s : St h0 h (B + G)) :
    HCalls Tryz.prog 32 #[.agg #[.int .i64 k, .slice p n c]] h (fun v h' => v = .bool true ∧ Ext h h') := by
  have hl : rows.length = n := rows_len na
  have hlen := hv.len
  refine model_validRows_call ?_
  rw [model_validRows_b0_eq]
  refine (St.start h).new (cs := [.int .i64 k, .slice p n c]) fun b1 h1 x1 s1 => ?_
  refine ⟨_, _, _, Blk.cellA s1.blk 1, condP (fun h5 => by omega) (fun _ => ⟨_, s1.blk.cell 0, ?_⟩)⟩
  refine (hW h1).mono fun v h2 ⟨hv2, hh⟩ => ⟨_, _, hv2, ?_⟩
  subst hh
  refine ⟨_, _, _, Blk.cellA s1.blk 1, ?_⟩
  refine ⟨fun x h' => ∃ i : Nat, x.1 = (i : Int) ∧ i ≤ n ∧ Ext h2 h', fun x _ => n - x.1.toNat, ⟨0, rfl, by omega, Ext.refl _⟩, ?_⟩
  rintro ⟨_, _⟩ h3 ⟨i, rfl, hin, x3⟩
  dsimp only
  have s3 := s1.grow x3
  have sb := s.grow s3.ext
  have rd : ∀ {j : Nat} {Q : Option Addr → Nat → Nat → Prop}, j < n → (∀ a L C, RdT TI h3 a L (rows.getD j []) → L ≤ C → Q a L C) → (0 ≤ (j : Int) ∧ (j : Int) < (n : Int)) ∧ NN p fun a1 => ∃ (a2 : Option Addr) (L1 C1 : Nat), cell h3 (a1.add (Int.toNat (j : Int) * 1)) = some (.slice a2 L1 C1) ∧ Q a2 L1 C1 := by
    intro j Q hj hq
    refine Nest.at_ (d := []) na sb (by omega) (by show (j : Int) < n; omega) fun a L C Bi Br o hB => ?_
    rw [Int.toNat_natCast] at o
    have o : Sl TI a L C (rows.getD j []) Bi := o
    have st2 : St h0 h3 (Bi + (Br + G)) := by rw [hB] at sb; exact sb.to
    exact hq a L C (o.rd st2) o.cap
  have wd : ∀ j, j < n → (rows.getD j []).length = w ∧ ∀ z ∈ rows.getD j [], KeyP z := fun j hj => by
    have hg : rows.getD j [] = rows[j] := by simp [List.getD, show j < rows.length by omega]
    rw [hg]; exact hv.wid _ (List.getElem_mem (by omega))
  rw [model_validRows_b1_eq]
  refine condP (fun hlt => ?_) (fun hge => ?_)
  · refine rd (by omega) fun a L C r hLC => ?_
    obtain ⟨w1, w2⟩ := wd i (by omega)
    have hL := r.len
    refine condN (fun hne => by omega) (fun _ => ?_)
    refine (int_index_ok rowv_x r (by omega)).mono fun v h4 ⟨hh4, hv4⟩ => ⟨_, hv4, ?_⟩
    subst hh4
    have hany : ((rows.getD i []).any fun z => !decide (KeyP z)) = false := by
      rw [List.any_eq_false]; intro z hz; rw [decide_eq_true (w2 z hz)]; simp
    refine condNo hany ?_
    have b4 : model_validRows_b4 (some ⟨b1, 0, none⟩) (w : Int) (ky : Int) p n c (n : Int) (i : Int) h4 (fun s' h' => (∃ i : Nat, s'.1 = (i : Int) ∧ i ≤ n ∧ Ext h2 h') ∧ n - s'.1.toNat < n - (i : Int).toNat) (fun v h' => v = .bool true ∧ Ext h h') := by
      rw [model_validRows_b4_eq]
      exact ⟨⟨by omega, by omega⟩, ⟨i + 1, by push_cast; rfl, by omega, x3⟩, by simp only; omega⟩
    rw [model_validRows_b2_eq]
    refine condP (fun _ => b4) (fun hi0 => condP (fun _ => b4) (fun hk0 => ?_))
    rw [model_validRows_b5_eq]
    refine ⟨_, _, _, Blk.cellA s3.blk 1, ⟨by omega, by omega⟩, ?_⟩
    rw [show (i : Int) - 1 = ((i - 1 : Nat) : Int) by omega]
    refine rd (by omega) fun a' L' C' r' hLC' => ?_
    obtain ⟨w3, _⟩ := wd (i - 1) (by omega)
    have hL' := r'.len
    refine ⟨⟨by omega, by omega, by omega⟩, ⟨by omega, by omega, by omega⟩, ?_⟩
    rw [show Int.toNat (0 : Int) = 0 from rfl, subAddr_z, subAddr_z, Int.toNat_natCast, Nat.sub_zero]
    refine ⟨_, cmpL_ok (r'.take (i := ky) (by omega)) (r.take (i := ky) (by omega)) (by omega), ?_⟩
    have ho := hv.ord (i - 1) (by omega) (by omega)
    rw [show i - 1 + 1 = i by omega] at ho
    refine condP (fun h0 => by omega) (fun _ => condP (fun he => ?_) (fun _ => b4))
    exact ⟨_, s3.blk.cell 0, condN (fun hne => by omega) (fun _ => b4)⟩
  · rw [model_validRows_b3_eq]
    exact ⟨rfl, s3.ext⟩
end Go.Proofs.YtbfejfejahoblaaGreat

/- Sorting: the elements' own lemmas (points). -/
set_option maxRecDepth 100000
namespace Go.Proofs.YtbfejfejahoblaaGreat
open Go Go.Sx
abbrev tPt : Ty Pt := ⟨43, 3, fun z => [.int .i64 z.1, .int .i64 z.2.1, .int .i64 z.2.2], (0, 0, 0), fun _ => rfl, by decide, fun _ v hv => by simp at hv; rcases hv with rfl | rfl | rfl <;> rfl⟩
abbrev encPt (x : Pt) : Value := .agg #[.int .i64 x.1, .int .i64 x.2.1, .int .i64 x.2.2]
theorem wrPt {h0 h : Hp} {ad : Addr} {n c i j : Nat} {xs : List Pt} {A F : Bag} {v : Value} {x : Pt} {k : Hp → Prop} (a : Sl tPt (some ad) n c xs A) (s : St h0 h (A + F)) (hi : i < n) (hj : j < tPt.sz) (hx : tPt.enc x = (tPt.enc (xs.getD i tPt.d)).set j v)
    (hk : ∀ h' A', Sl tPt (some ad) n c (xs.set i x) A' → St h0 h' (A' + F) → k h') : Wr h ((ad.add (i * tPt.sz)).add j) v k := by
  obtain ⟨ad', e, w⟩ := a.wr s hi hj hx hk
  cases e
  exact w
theorem getD_set_selfPt {xs : List Pt} {i : Nat} {x d : Pt} (hi : i < xs.length) : (xs.set i x).getD i d = x := by rw [getD_setS hi, if_pos rfl]
theorem wrPT {h0 h : Hp} {ad : Addr} {n c i : Nat} {xs : List Pt} {A F : Bag} {x : Pt} {k : Hp → Prop} (a : Sl tPt (some ad) n c xs A) (s : St h0 h (A + F)) (hi : i < n)
    (hk : ∀ h' A', Sl tPt (some ad) n c (xs.set i x) A' → St h0 h' (A' + F) → k h') :
    Wr h (ad.add (i * 3)) (.int .i64 x.1) fun h4 => Wr h4 ((ad.add (i * 3)).add 1) (.int .i64 x.2.1) fun h5 => Wr h5 ((ad.add (i * 3)).add 2) (.int .i64 x.2.2) k := by
  have hl := a.len
  obtain ⟨y, hy⟩ : ∃ y, xs.getD i tPt.d = y := ⟨_, rfl⟩
  refine wrPt (j := 0) (x := (x.1, y.2)) a s hi (by decide) (by rw [hy]; rfl) fun h1 A1 a1 s1 => ?_
  refine wrPt (j := 1) (x := (x.1, x.2.1, y.2.2)) a1 s1 hi (by decide) (by rw [getD_set_selfPt (by omega)]; rfl) fun h2 A2 a2 s2 => ?_
  rw [List.set_set] at a2
  refine wrPt (j := 2) (x := x) a2 s2 hi (by decide) (by rw [getD_set_selfPt (by omega)]; rfl) fun h3 A3 a3 s3 => ?_
  rw [List.set_set] at a3
  exact hk h3 A3 a3 s3
theorem ldPT {h : Hp} {p : Option Addr} {n : Nat} {l : List Pt} {i : Int} {i' : Nat} {Q : Int → Int → Int → Prop} (r : RdT tPt h p n l) (ei : i = (i' : Int)) (h1 : i' < n) (hq : Q (l.getD i' tPt.d).1 (l.getD i' tPt.d).2.1 (l.getD i' tPt.d).2.2) :
    (0 ≤ i ∧ i < (n : Int)) ∧ NN p fun a => ∃ x : Int, ∃ y : Int, ∃ z : Int, cell h (a.add (Int.toNat i * 3)) = some (.int .i64 x) ∧ cell h ((a.add (Int.toNat i * 3)).add 1) = some (.int .i64 y) ∧ cell h ((a.add (Int.toNat i * 3)).add 2) = some (.int .i64 z) ∧ Q x y z := by
  subst ei
  refine r.idx (by omega) (by omega) fun a _ hc => ?_
  rw [Int.toNat_natCast] at hc ⊢
  exact ⟨_, _, _, hc 0 (by decide), hc 1 (by decide), hc 2 (by decide), hq⟩
theorem swPT {h0 h : Hp} {p : Option Addr} {n c : Nat} {u v : Int} {u' v' : Nat} {xs : List Pt} {A F : Bag} {k : Hp → Prop} (a : Sl tPt p n c xs A) (s : St h0 h (A + F)) (eu : u = (u' : Int)) (ev : v = (v' : Int)) (hu1 : u' < n) (hv1 : v' < n)
    (hk : ∀ h' A', Sl tPt p n c (swapL tPt.d xs u' v') A' → St h0 h' (A' + F) → k h') :
    (0 ≤ v ∧ v < (n : Int)) ∧ NN p fun a5 => ∃ n9 : Int, ∃ n10 : Int, ∃ n11 : Int, cell h (a5.add (Int.toNat v * 3)) = some (.int .i64 n9) ∧ cell h ((a5.add (Int.toNat v * 3)).add 1) = some (.int .i64 n10) ∧ cell h ((a5.add (Int.toNat v * 3)).add 2) = some (.int .i64 n11) ∧
      (0 ≤ u ∧ u < (n : Int)) ∧ NN p fun a7 => ∃ n13 : Int, ∃ n14 : Int, ∃ n15 : Int, cell h (a7.add (Int.toNat u * 3)) = some (.int .i64 n13) ∧ cell h ((a7.add (Int.toNat u * 3)).add 1) = some (.int .i64 n14) ∧ cell h ((a7.add (Int.toNat u * 3)).add 2) = some (.int .i64 n15) ∧
      (0 ≤ u ∧ u < (n : Int)) ∧ NN p fun a9 => Wr h (a9.add (Int.toNat u * 3)) (.int .i64 n9) fun h4 => Wr h4 ((a9.add (Int.toNat u * 3)).add 1) (.int .i64 n10) fun h5 => Wr h5 ((a9.add (Int.toNat u * 3)).add 2) (.int .i64 n11) fun h8 =>
      (0 ≤ v ∧ v < (n : Int)) ∧ NN p fun a10 => Wr h8 (a10.add (Int.toNat v * 3)) (.int .i64 n13) fun h9 => Wr h9 ((a10.add (Int.toNat v * 3)).add 1) (.int .i64 n14) fun h10 => Wr h10 ((a10.add (Int.toNat v * 3)).add 2) (.int .i64 n15) k := by
  subst eu ev
  have r := a.rd s
  obtain ⟨ad, rfl, _⟩ := r.at_ (i := u') (by omega)
  refine ldPT r rfl hv1 (ldPT r rfl hu1 ⟨⟨by omega, by omega⟩, ?_⟩)
  rw [Int.toNat_natCast, Int.toNat_natCast]
  refine wrPT (x := xs.getD v' tPt.d) a s (by omega) fun h1 A1 a1 s1 => ⟨⟨by omega, by omega⟩, ?_⟩
  exact wrPT (x := xs.getD u' tPt.d) a1 s1 (by omega) hk
theorem swPTx {h0 h : Hp} {p : Option Addr} {n c : Nat} {u v : Int} {u' v' : Nat} {xs : List Pt} {A F : Bag} {k : Hp → Prop} {X : Prop} (hx : X) (a : Sl tPt p n c xs A) (s : St h0 h (A + F)) (eu : u = (u' : Int)) (ev : v = (v' : Int)) (hu1 : u' < n) (hv1 : v' < n)
    (hk : ∀ h' A', Sl tPt p n c (swapL tPt.d xs u' v') A' → St h0 h' (A' + F) → k h') :
    (0 ≤ v ∧ v < (n : Int)) ∧ NN p fun a5 => ∃ n9 : Int, ∃ n10 : Int, ∃ n11 : Int, cell h (a5.add (Int.toNat v * 3)) = some (.int .i64 n9) ∧ cell h ((a5.add (Int.toNat v * 3)).add 1) = some (.int .i64 n10) ∧ cell h ((a5.add (Int.toNat v * 3)).add 2) = some (.int .i64 n11) ∧
      X ∧ (0 ≤ u ∧ u < (n : Int)) ∧ NN p fun a7 => ∃ n13 : Int, ∃ n14 : Int, ∃ n15 : Int, cell h (a7.add (Int.toNat u * 3)) = some (.int .i64 n13) ∧ cell h ((a7.add (Int.toNat u * 3)).add 1) = some (.int .i64 n14) ∧ cell h ((a7.add (Int.toNat u * 3)).add 2) = some (.int .i64 n15) ∧
      (0 ≤ u ∧ u < (n : Int)) ∧ NN p fun a9 => Wr h (a9.add (Int.toNat u * 3)) (.int .i64 n9) fun h4 => Wr h4 ((a9.add (Int.toNat u * 3)).add 1) (.int .i64 n10) fun h5 => Wr h5 ((a9.add (Int.toNat u * 3)).add 2) (.int .i64 n11) fun h8 =>
      (0 ≤ v ∧ v < (n : Int)) ∧ NN p fun a10 => Wr h8 (a10.add (Int.toNat v * 3)) (.int .i64 n13) fun h9 => Wr h9 ((a10.add (Int.toNat v * 3)).add 1) (.int .i64 n14) fun h10 => Wr h10 ((a10.add (Int.toNat v * 3)).add 2) (.int .i64 n15) k := by
  subst eu ev
  have r := a.rd s
  obtain ⟨ad, rfl, _⟩ := r.at_ (i := u') (by omega)
  refine ldPT r rfl hv1 ⟨hx, ldPT r rfl hu1 ⟨⟨by omega, by omega⟩, ?_⟩⟩
  rw [Int.toNat_natCast, Int.toNat_natCast]
  refine wrPT (x := xs.getD v' tPt.d) a s (by omega) fun h1 A1 a1 s1 => ⟨⟨by omega, by omega⟩, ?_⟩
  exact wrPT (x := xs.getD u' tPt.d) a1 s1 (by omega) hk
/-- What the comparison does. -/
def CmpPT (h0 : Hp) (cmp : Value) (cf : Pt → Pt → Int) (P : Pt → Prop) : Prop := ∀ (x y : Pt) (h : Hp) (K : Value → Hp → Prop), Ext h0 h → P x → P y → (∀ h', Ext h h' → K (.int .i64 (cf x y)) h') → funV cmp fun fg fa fc => callX Tryz.prog F fg (fa ++ (([encPt x, encPt y] : List Value) ++ fc)).toArray h K
end Go.Proofs.YtbfejfejahoblaaGreat

/- Sorting: the elements' own lemmas (integers). -/
set_option maxRecDepth 100000
namespace Go.Proofs.YtbfejfejahoblaaGreat
open Go Go.Sx
end Go.Proofs.YtbfejfejahoblaaGreat

/- Sorting: insertionSort, siftDown, heapSort, reverseRange. -/
set_option maxRecDepth 100000
namespace Go.Proofs.YtbfejfejahoblaaGreat
open Go Go.Sx
/-- What a step of sorting leaves: the same elements in a range, in another order. -/
abbrev OutPT (h0 : Hp) (p : Option Addr) (n cp a b : Nat) (xs : List Pt) (F : Bag) (h' : Hp) (Q : List Pt → Prop) : Prop := ∃ ys A', Sl tPt p n cp ys A' ∧ St h0 h' (A' + F) ∧ Swp tPt.d a b xs ys ∧ Q ys
theorem insertionSortPT {h0 h : Hp} {p : Option Addr} {n cp a' b' : Nat} {a b : Int} {xs : List Pt} {A F : Bag} {cmp : Value} {cf : Pt → Pt → Int} {P : Pt → Prop} (hX : CmpPT h0 cmp cf P) (ho : OrdP (fun x y : Pt => cf x y < 0)) (s : St h0 h (A + F)) (o : Sl tPt p n cp xs A) (hP : ∀ k, k < n → P (xs.getD k tPt.d)) (ea : a = (a' : Int)) (eb : b = (b' : Int)) (ha : a' ≤ n) (hb : b' ≤ n) (hn : n < 1000000) :
    HCalls Tryz.prog 90 #[.slice p n cp, .int .i64 a, .int .i64 b, cmp] h (fun v h' => v = .tuple #[] ∧ OutPT h0 p n cp a' b' xs F h' (SrtR tPt.d (fun x y : Pt => cf x y < 0) a' b')) := by
  subst ea eb
  have hl0 := o.len
  refine slices_insertionSortCmpFunc_api_Point_call ?_
  rw [slices_insertionSortCmpFunc_api_Point_b0_eq]
  refine ⟨⟨by omega, by omega⟩, fun i h1 => ∃ i' : Nat, i.1 = i' ∧ a' + 1 ≤ i' ∧ OutPT h0 p n cp a' b' xs F h1 (SrtR tPt.d (fun x y : Pt => cf x y < 0) a' i'), fun i _ => (b' - i.1).toNat, ⟨a' + 1, rfl, Nat.le_refl _, xs, A, o, s, .refl _, srtR_one (by omega)⟩, ?_⟩
  rintro ⟨_, _⟩ h1 ⟨i', rfl, hi, ys, A1, o, s, w, hs⟩
  dsimp only
  rw [slices_insertionSortCmpFunc_api_Point_b1_eq]
  refine condP (fun hlt => ?_) (fun hge => ⟨rfl, ys, A1, o, s, w, SrtR.mono hs (Nat.le_refl _) (by omega)⟩)
  refine ⟨fun j h2 => ∃ j' : Nat, j.1 = j' ∧ a' ≤ j' ∧ j' ≤ i' ∧ OutPT h0 p n cp a' b' xs F h2 (InsR tPt.d (fun x y : Pt => cf x y < 0) a' j' i'), fun j _ => j.1.toNat, ⟨i', rfl, by omega, by omega, ys, A1, o, s, w, ins_start hs⟩, ?_⟩
  clear hs w s o ys
  rintro ⟨_, _⟩ h2 ⟨j', rfl, hj1, hj2, ys, A1, o, s, w, hs⟩
  dsimp only
  have hl := o.len
  have hP := w.allN hl0 hP
  have fin : ∀ h3, St h0 h3 (A1 + F) → (a' < j' → ¬ (fun x y : Pt => cf x y < 0) (ys.getD j' tPt.d) (ys.getD (j' - 1) tPt.d)) → slices_insertionSortCmpFunc_api_Point_b4 p n cp a' b' cmp i' h3 (fun s' h' => (∃ i' : Nat, s'.1 = i' ∧ a' + 1 ≤ i' ∧ OutPT h0 p n cp a' b' xs F h' (SrtR tPt.d (fun x y : Pt => cf x y < 0) a' i')) ∧ (b' - s'.1).toNat < (b' - (i' : Int)).toNat) (fun v h' => v = .tuple #[] ∧ OutPT h0 p n cp a' b' xs F h' (SrtR tPt.d (fun x y : Pt => cf x y < 0) a' b')) := by
    intro h3 s hx
    rw [slices_insertionSortCmpFunc_api_Point_b4_eq]
    exact ⟨⟨by omega, by omega⟩, ⟨i' + 1, by push_cast; rfl, by omega, ys, A1, o, s, w, ins_end ho hj1 hs hx⟩, by omega⟩
  rw [slices_insertionSortCmpFunc_api_Point_b2_eq]
  refine condP (fun hj => ?_) (fun hj => fin _ s fun h => by omega)
  have r := o.rd s
  refine ldPT (i' := j') r rfl (by omega) ⟨⟨by omega, by omega⟩, ldPT (i' := j' - 1) r (by omega) (by omega) ?_⟩
  refine hX _ _ _ _ s.ext (hP _ (by omega)) (hP _ (by omega)) fun h5 e5 => ⟨_, rfl, ?_⟩; have s := s.grow e5
  refine condP (fun hc => ?_) (fun hc => fin _ s fun _ => hc)
  rw [slices_insertionSortCmpFunc_api_Point_b3_eq]
  refine ⟨⟨by omega, by omega⟩, ⟨by omega, by omega⟩, ?_⟩
  refine swPT (u' := j') (v' := j' - 1) o s rfl (by omega) (by omega) (by omega) fun h6 A6 o6 s6 => ?_
  rw [slices_insertionSortCmpFunc_api_Point_b5_eq]
  exact ⟨⟨by omega, by omega⟩, ⟨j' - 1, by omega, by omega, by omega, _, A6, o6, s6, .step w (by omega) (by omega) (by omega) (by omega) (by omega), ins_swap ho (by omega) hj2 (by omega) hs hc⟩, by omega⟩
theorem siftDownPT {h0 h : Hp} {p : Option Addr} {n cp lo' hi' f' : Nat} {lo hi f : Int} {xs : List Pt} {A F : Bag} {cmp : Value} {cf : Pt → Pt → Int} {P : Pt → Prop} (hX : CmpPT h0 cmp cf P) (ho : OrdP (fun x y : Pt => cf x y < 0)) (s : St h0 h (A + F)) (o : Sl tPt p n cp xs A) (hP : ∀ k, k < n → P (xs.getD k tPt.d)) (el : lo = (lo' : Int)) (eh : hi = (hi' : Int)) (ef : f = (f' : Int)) (hf : f' + hi' ≤ n) (hlo : lo' ≤ n) (hn : n < 1000000)
    (hx : HeapX tPt.d (fun x y : Pt => cf x y < 0) f' lo' hi' lo' xs) :
    HCalls Tryz.prog 113 #[.slice p n cp, .int .i64 lo, .int .i64 hi, .int .i64 f, cmp] h (fun v h' => v = .tuple #[] ∧ OutPT h0 p n cp (f' + lo') (f' + hi') xs F h' (HeapR tPt.d (fun x y : Pt => cf x y < 0) f' lo' hi')) := by
  subst el eh ef
  have hl0 := o.len
  refine slices_siftDownCmpFunc_api_Point_call ?_
  rw [slices_siftDownCmpFunc_api_Point_b0_eq]
  refine ⟨fun i h1 => ∃ r : Nat, i.1 = r ∧ lo' ≤ r ∧ r ≤ n ∧ OutPT h0 p n cp (f' + lo') (f' + hi') xs F h1 (HeapX tPt.d (fun x y : Pt => cf x y < 0) f' lo' hi' r), fun i _ => (hi' - i.1).toNat, ⟨lo', rfl, Nat.le_refl _, hlo, xs, A, o, s, .refl _, hx⟩, ?_⟩
  rintro ⟨_, _⟩ h1 ⟨r, rfl, hr, hrn, ys, A1, o, s, w, hs⟩
  dsimp only
  have hl := o.len
  have hP := w.allN hl0 hP
  rw [slices_siftDownCmpFunc_api_Point_b1_eq]
  refine ⟨⟨by omega, by omega⟩, ⟨by omega, by omega⟩, condP (fun hle => ⟨rfl, ys, A1, o, s, w, heap_stop hs fun c h1 h2 => by omega⟩) (fun hle => ⟨⟨by omega, by omega⟩, ?_⟩)⟩
  have fin : ∀ (ch : Nat) (h3 : Hp) (ci : Int), ci = (ch : Int) → St h0 h3 (A1 + F) → (ch = 2 * r + 1 ∨ ch = 2 * r + 2) → ch < hi' → (∀ c, (c = 2 * r + 1 ∨ c = 2 * r + 2) → c < hi' → ¬ (fun x y : Pt => cf x y < 0) (ys.getD (f' + ch) tPt.d) (ys.getD (f' + c) tPt.d)) →
      slices_siftDownCmpFunc_api_Point_b2 p n cp hi' f' cmp r ci h3 (fun s' h' => (∃ r : Nat, s'.1 = r ∧ lo' ≤ r ∧ r ≤ n ∧ OutPT h0 p n cp (f' + lo') (f' + hi') xs F h' (HeapX tPt.d (fun x y : Pt => cf x y < 0) f' lo' hi' r)) ∧ (hi' - s'.1).toNat < (hi' - (r : Int)).toNat) (fun v h' => v = .tuple #[] ∧ OutPT h0 p n cp (f' + lo') (f' + hi') xs F h' (HeapR tPt.d (fun x y : Pt => cf x y < 0) f' lo' hi')) := by
    rintro ch h3 _ rfl s hc1 hc2 hmax
    rw [slices_siftDownCmpFunc_api_Point_b2_eq]
    have rd := o.rd s
    refine ⟨⟨by omega, by omega⟩, ldPT (i' := f' + r) rd (by omega) (by omega) ⟨⟨by omega, by omega⟩, ldPT (i' := f' + ch) rd (by omega) (by omega) ?_⟩⟩
    refine hX _ _ _ _ s.ext (hP _ (by omega)) (hP _ (by omega)) fun h5 e5 => ⟨_, rfl, ?_⟩; have s := s.grow e5
    refine condN (fun hc => ⟨rfl, ys, A1, o, s, w, heap_stop hs fun c k1 k2 k3 => ho.trans _ _ _ (hmax c k1 k2) hc k3⟩) (fun hc => ⟨⟨by omega, by omega⟩, ⟨by omega, by omega⟩, ⟨by omega, by omega⟩, ?_⟩)
    refine swPTx ⟨by omega, by omega⟩ (u' := f' + r) (v' := f' + ch) o s (by omega) (by omega) (by omega) (by omega) fun h6 A6 o6 s6 => ?_
    exact ⟨⟨ch, rfl, by omega, by omega, _, A6, o6, s6, .step (i := f' + r) (j := f' + ch) w (by omega) (by omega) (by omega) (by omega) (by omega), heap_swap ho hs hc1 hc2 (by omega) hc hmax hr⟩, by omega⟩
  refine condP (fun h2 => ?_) (fun h2 => fin (2 * r + 1) _ _ (by omega) s (.inl rfl) (by omega) fun c k1 k2 => ?_)
  · have rd := o.rd s
    refine ⟨⟨by omega, by omega⟩, ldPT (i' := f' + (2 * r + 1)) rd (by omega) (by omega) ⟨⟨by omega, by omega⟩, ⟨by omega, by omega⟩, ldPT (i' := f' + (2 * r + 2)) rd (by omega) (by omega) ?_⟩⟩
    refine hX _ _ _ _ s.ext (hP _ (by omega)) (hP _ (by omega)) fun h5 e5 => ⟨_, rfl, ?_⟩; have s := s.grow e5
    refine condP (fun hc => ⟨⟨by omega, by omega⟩, fin (2 * r + 2) _ _ (by push_cast; rfl) s (.inr rfl) (by omega) fun c k1 k2 => ?_⟩) (fun hc => fin (2 * r + 1) _ _ (by omega) s (.inl rfl) (by omega) fun c k1 k2 => ?_)
    · rcases k1 with rfl | rfl
      · exact ho.asymm _ _ hc
      · exact ho.irr _
    · rcases k1 with rfl | rfl
      · exact ho.irr _
      · exact hc
  · rcases k1 with rfl | rfl
    · exact ho.irr _
    · omega
theorem heapSortPT {h0 h : Hp} {p : Option Addr} {n cp a' b' : Nat} {a b : Int} {xs : List Pt} {A F : Bag} {cmp : Value} {cf : Pt → Pt → Int} {P : Pt → Prop} (hX : CmpPT h0 cmp cf P) (ho : OrdP (fun x y : Pt => cf x y < 0)) (s : St h0 h (A + F)) (o : Sl tPt p n cp xs A) (hP : ∀ k, k < n → P (xs.getD k tPt.d)) (ea : a = (a' : Int)) (eb : b = (b' : Int)) (hab : a' < b') (hb : b' ≤ n) (hn : n < 1000000) :
    HCalls Tryz.prog 91 #[.slice p n cp, .int .i64 a, .int .i64 b, cmp] h (fun v h' => v = .tuple #[] ∧ OutPT h0 p n cp a' b' xs F h' (SrtR tPt.d (fun x y : Pt => cf x y < 0) a' b')) := by
  subst ea eb
  have hl0 := o.len
  refine slices_heapSortCmpFunc_api_Point_call ?_
  rw [slices_heapSortCmpFunc_api_Point_b0_eq]
  refine ⟨⟨by omega, by omega⟩, ⟨by omega, by omega⟩, quo_intro (by omega) (by omega) (by omega) ?_⟩
  obtain ⟨q, hq⟩ : ∃ q : Nat, ((b' : Int) - a' - 1) / 2 + 1 = q := ⟨(((b' : Int) - a' - 1) / 2 + 1).toNat, by omega⟩
  refine ⟨fun i h1 => ∃ m : Nat, i.1 = (m : Int) - 1 ∧ m ≤ b' - a' ∧ OutPT h0 p n cp a' b' xs F h1 (HeapR tPt.d (fun x y : Pt => cf x y < 0) a' m (b' - a')), fun i _ => (i.1 + 1).toNat, ⟨q, by show _ / _ = _; omega, by omega, xs, A, o, s, .refl _, fun k c k1 k2 k3 => by omega⟩, ?_⟩
  rintro ⟨_, _⟩ h1 ⟨m, rfl, hm, ys, A1, o, s, w, hs⟩
  dsimp only
  have hl := o.len
  have hPy := w.allN hl0 hP
  rw [slices_heapSortCmpFunc_api_Point_b1_eq]
  refine condP (fun hi => ?_) (fun hi => ?_)
  · refine (siftDownPT hX ho s o hPy (lo' := m - 1) (hi' := b' - a') (f' := a') (by omega) (by omega) rfl (by omega) (by omega) hn ⟨fun k c k1 k2 k3 k4 => hs k c (by omega) k2 k3, fun k c k1 k2 => by omega⟩).mono fun v h2 ⟨hv, zs, A2, o2, s2, w2, hs2⟩ => ⟨hv, ?_⟩
    rw [slices_heapSortCmpFunc_api_Point_b2_eq]
    exact ⟨⟨by omega, by omega⟩, ⟨m - 1, by omega, by omega, zs, A2, o2, s2, w.trans (w2.mono (by omega) (by omega) (by omega)).1, hs2⟩, by omega⟩
  · obtain rfl : m = 0 := by omega
    rw [slices_heapSortCmpFunc_api_Point_b3_eq]
    refine ⟨⟨by omega, by omega⟩, ?_⟩
    refine ⟨fun i h1 => ∃ m : Nat, i.1 = (m : Int) - 1 ∧ m ≤ b' - a' ∧ OutPT h0 p n cp a' b' xs F h1 (fun ys => HeapR tPt.d (fun x y : Pt => cf x y < 0) a' 0 m ys ∧ OutR tPt.d (fun x y : Pt => cf x y < 0) a' b' a' (a' + m) ys), fun i _ => (i.1 + 1).toNat, ⟨b' - a', by show (_ : Int) - 1 = _; omega, by omega, ys, A1, o, s, w, hs, by rw [show a' + (b' - a') = b' by omega]; exact outR_start⟩, ?_⟩
    clear hs w s o hl hPy ys
    rintro ⟨_, _⟩ h2 ⟨m, rfl, hm, ys, A1, o, s, w, hs, ho2⟩
    dsimp only
    have hl := o.len
    rw [slices_heapSortCmpFunc_api_Point_b4_eq]
    refine condP (fun hi => ⟨⟨by omega, by omega⟩, ⟨by omega, by omega⟩, ?_⟩) (fun hi => ?_)
    · refine swPT (u' := a') (v' := a' + (m - 1)) o s rfl (by omega) (by omega) (by omega) fun h6 A6 o6 s6 => ?_
      have w1 : Swp tPt.d a' (a' + m) ys (swapL tPt.d ys a' (a' + (m - 1))) := .one (by omega) (by omega) (by omega) (by omega) (by omega)
      have w6 := w.trans (w1.mono (Nat.le_refl _) (by omega) (by omega)).1
      have hg : ∀ k, (swapL tPt.d ys a' (a' + (m - 1))).getD k tPt.d = if k = a' + (m - 1) then ys.getD a' tPt.d else if k = a' then ys.getD (a' + (m - 1)) tPt.d else ys.getD k tPt.d := swapL_get (by omega) (by omega)
      have ho6 : OutR tPt.d (fun x y : Pt => cf x y < 0) a' b' a' (a' + (m - 1)) (swapL tPt.d ys a' (a' + (m - 1))) := by
        intro p q k1 k2 k3 k4
        by_cases hq : q = a' + (m - 1)
        · rw [hq, hg, if_pos rfl]
          exact w1.all (P := fun x => ¬ (fun x y : Pt => cf x y < 0) (ys.getD a' tPt.d) x) (fun k j1 j2 => by
            have := heap_max ho hs (k - a') (by omega)
            rwa [show a' + (k - a') = k by omega] at this) p k1 (by omega)
        · exact outR_swp (Nat.le_refl _) (by omega) ho2 w1 p q k1 k2 k3 (by omega)
      generalize swapL tPt.d ys a' (a' + (m - 1)) = us at *
      refine (siftDownPT hX ho s6 o6 (w6.allN hl0 hP) (lo' := 0) (hi' := m - 1) (f' := a') (by rfl) (by omega) rfl (by omega) (by omega) hn ⟨fun k c k1 k2 k3 k4 => ?_, fun k c k1 k2 => by omega⟩).mono fun v h2 ⟨hv, zs, A2, o2, s2, w2, hs2⟩ => ⟨hv, ?_⟩
      · rw [hg, hg, if_neg (by omega), if_neg (by omega), if_neg (by omega), if_neg (by omega)]
        exact hs k c (by omega) k2 (by omega)
      · rw [slices_heapSortCmpFunc_api_Point_b5_eq]
        exact ⟨⟨by omega, by omega⟩, ⟨m - 1, by omega, by omega, zs, A2, o2, s2, w6.trans (w2.mono (by omega) (by omega) (by rw [w6.len]; omega)).1, hs2, outR_swp (Nat.le_refl _) (by omega) ho6 w2⟩, by omega⟩
    · obtain rfl : m = 0 := by omega
      exact ⟨rfl, ys, A1, o, s, w, outR_done ho2 (srtR_one (by omega))⟩
theorem reverseRangePT {h0 h : Hp} {p : Option Addr} {n cp a' b' : Nat} {a b : Int} {xs : List Pt} {A F : Bag} {cmp : Value} (s : St h0 h (A + F)) (o : Sl tPt p n cp xs A) (ea : a = (a' : Int)) (eb : b = (b' : Int)) (hab : a' ≤ b') (hb : b' ≤ n) (hn : n < 1000000) :
    HCalls Tryz.prog 94 #[.slice p n cp, .int .i64 a, .int .i64 b, cmp] h (fun v h' => v = .tuple #[] ∧ OutPT h0 p n cp a' b' xs F h' fun _ => True) := by
  subst ea eb
  have hl0 := o.len
  refine slices_reverseRangeCmpFunc_api_Point_call ?_
  rw [slices_reverseRangeCmpFunc_api_Point_b0_eq]
  refine ⟨⟨by omega, by omega⟩, fun i h1 => ∃ i' : Nat, i.1 = i' ∧ a' ≤ i' ∧ i.2.1 < b' ∧ i' ≤ n ∧ -1 ≤ i.2.1 ∧ OutPT h0 p n cp a' b' xs F h1 fun _ => True, fun i _ => (i.2.1 - i.1).toNat, ⟨a', rfl, Nat.le_refl _, by show (_ : Int) - 1 < _; omega, by omega, by show -1 ≤ (_ : Int) - 1; omega, xs, A, o, s, .refl _, trivial⟩, ?_⟩
  rintro ⟨_, j, _⟩ h1 ⟨i', rfl, hi, hj, hin, hj1, ys, A1, o, s, w, _⟩
  dsimp only at hj hj1 ⊢
  have hl := o.len
  rw [slices_reverseRangeCmpFunc_api_Point_b1_eq]
  refine condP (fun hlt => ?_) (fun hlt => ⟨rfl, ys, A1, o, s, w, trivial⟩)
  refine swPT (u' := i') (v' := j.toNat) o s rfl (by omega) (by omega) (by omega) fun h6 A6 o6 s6 => ?_
  exact ⟨⟨by omega, by omega⟩, ⟨by omega, by omega⟩, ⟨i' + 1, by push_cast; rfl, by omega, by show j - 1 < _; omega, by omega, by show -1 ≤ j - 1; omega, _, A6, o6, s6, .step w (by omega) (by omega) (by omega) (by omega) (by omega), trivial⟩, by dsimp only; omega⟩
end Go.Proofs.YtbfejfejahoblaaGreat

/- Numbers that sorting wants: bits.Len, xorshift, nextPowerOfTwo. -/
set_option maxRecDepth 100000
namespace Go.Proofs.YtbfejfejahoblaaGreat
open Go Go.Sx
/-! ### logarithms -/
/-- How many bits a number has. -/
def blen (x : Nat) : Nat := if x = 0 then 0 else x.log2 + 1
theorem blen_shift {x k : Nat} (h : 2 ^ k ≤ x) : blen x = blen (x / 2 ^ k) + k := by
  have hp : 0 < 2 ^ k := Nat.two_pow_pos k
  have hx : x ≠ 0 := by omega
  have hq : x / 2 ^ k ≠ 0 := by have := Nat.div_pos h hp; omega
  unfold blen
  rw [if_neg hx, if_neg hq]
  have : x.log2 = (x / 2 ^ k).log2 + k := by
    rw [Nat.log2_eq_iff hx]
    have h1 := Nat.log2_self_le hq
    have h2 := @Nat.lt_log2_self (x / 2 ^ k)
    constructor
    · rw [Nat.pow_add]
      exact Nat.le_trans (Nat.mul_le_mul_right _ h1) (Nat.div_mul_le_self _ _)
    · rw [show (x / 2 ^ k).log2 + k + 1 = ((x / 2 ^ k).log2 + 1) + k by omega, Nat.pow_add]
      exact (Nat.div_lt_iff_lt_mul hp).1 h2
  omega
theorem blen_le {x k : Nat} (h : x < 2 ^ k) : blen x ≤ k := by
  unfold blen
  split
  · omega
  · rename_i hx
    have h1 := Nat.log2_self_le hx
    have : 2 ^ x.log2 < 2 ^ k := Nat.lt_of_le_of_lt h1 h
    have := (Nat.pow_lt_pow_iff_right (by decide : 1 < 2)).1 this
    omega

theorem tab_step {s : ByteArray} {m : Nat} {nv : Int} {h : Hp} {K : Value → Hp → Prop} (hz : s.size = 256) (hs : ∀ n, n < 256 → (s.data.toList.getD n 0).toNat = blen n) (hm : m < 256) (h0 : 0 ≤ nv) (h1 : nv < 1000)
    (hk : K (.int .i64 (nv + (blen m : Nat))) h) : (0 ≤ IntKind.u8.wrap (m : Int) ∧ IntKind.u8.wrap (m : Int) < (s.size : Int)) ∧ InR (((s.data.toList.getD (Int.toNat (IntKind.u8.wrap (m : Int))) 0).toNat : Int)) ∧
      InR (nv + (((s.data.toList.getD (Int.toNat (IntKind.u8.wrap (m : Int))) 0).toNat : Int))) ∧ K (.int .i64 (nv + (((s.data.toList.getD (Int.toNat (IntKind.u8.wrap (m : Int))) 0).toNat : Int)))) h := by
  have hw : IntKind.u8.wrap (m : Int) = m := wrap_u8_in _ (by omega) (by omega)
  have hb : blen m ≤ 8 := blen_le (by omega)
  rw [hw, show ((m : Nat) : Int).toNat = m by simp, hs m hm, hz]
  exact ⟨⟨by omega, by omega⟩, ⟨by omega, by omega⟩, ⟨by omega, by omega⟩, hk⟩

theorem Len64_ok (x : Nat) (hx : x < 18446744073709551616) (h : Hp) : HCalls Tryz.prog 99 #[.int .u64 (x : Int)] h (fun r h' => r = .int .i64 (blen x : Nat) ∧ h' = h) := by
  refine math_bits_Len64_call ?_
  have shr : ∀ (y k : Nat), y >>> k = y / 2 ^ k := fun y k => Nat.shiftRight_eq_div_pow y k
  have b3 : ∀ (y : Nat) (nv : Int), y < 256 → 0 ≤ nv → nv < 100 → nv + (blen y : Nat) = (blen x : Nat) → math_bits_Len64_b3 (y : Int) nv h (fun r h' => r = .int .i64 (blen x : Nat) ∧ h' = h) := by
    intro y nv hy h0 h1 he
    rw [math_bits_Len64_b3_eq]
    refine tab_step (K := fun r h' => r = .int .i64 (blen x : Nat) ∧ h' = h) ?_ ?_ hy h0 (by omega) ?_
    · decide +kernel
    · decide +kernel
    · rw [he]; exact ⟨rfl, rfl⟩
  have b2 : ∀ (y : Nat) (nv : Int), y < 65536 → 0 ≤ nv → nv < 90 → nv + (blen y : Nat) = (blen x : Nat) → math_bits_Len64_b2 (y : Int) nv h (fun r h' => r = .int .i64 (blen x : Nat) ∧ h' = h) := by
    intro y nv hy h0 h1 he
    rw [math_bits_Len64_b2_eq]
    refine condP (fun hc => ?_) (fun hc => b3 y nv (by omega) h0 (by omega) he)
    refine shr_intro (x := y) (s := 8) rfl rfl (by decide) ⟨⟨by omega, by omega⟩, ?_⟩
    rw [shr]
    have := blen_shift (x := y) (k := 8) (by omega)
    exact b3 _ _ (by omega) (by omega) (by omega) (by omega)
  have b1 : ∀ (y : Nat) (nv : Int), y < 4294967296 → 0 ≤ nv → nv < 70 → nv + (blen y : Nat) = (blen x : Nat) → math_bits_Len64_b1 (y : Int) nv h (fun r h' => r = .int .i64 (blen x : Nat) ∧ h' = h) := by
    intro y nv hy h0 h1 he
    rw [math_bits_Len64_b1_eq]
    refine condP (fun hc => ?_) (fun hc => b2 y nv (by omega) h0 (by omega) he)
    refine shr_intro (x := y) (s := 16) rfl rfl (by decide) ⟨⟨by omega, by omega⟩, ?_⟩
    rw [shr]
    have := blen_shift (x := y) (k := 16) (by omega)
    exact b2 _ _ (by omega) (by omega) (by omega) (by omega)
  rw [math_bits_Len64_b0_eq]
  refine condP (fun hc => ?_) (fun hc => b1 x 0 (by omega) (by omega) (by omega) (by omega))
  refine shr_intro (x := x) (s := 32) rfl rfl (by decide) ?_
  rw [shr]
  have := blen_shift (x := x) (k := 32) (by omega)
  exact b1 _ _ (by omega) (by omega) (by omega) (by omega)

theorem bitsLen_ok (x : Nat) (hx : x < 18446744073709551616) (h : Hp) : HCalls Tryz.prog 74 #[.int .u64 (x : Int)] h (fun r h' => r = .int .i64 (blen x : Nat) ∧ h' = h) := by
  refine math_bits_Len_call ?_
  rw [math_bits_Len_b0_eq]
  refine (Len64_ok x hx h).mono fun v h' ⟨hv, hh⟩ => ?_
  exact ⟨_, hv, rfl, hh⟩
theorem blen_pow {x : Nat} (h : 1 ≤ x) : 2 ^ blen x ≤ 2 * x ∧ x < 2 ^ blen x := by
  unfold blen
  rw [if_neg (by omega)]
  have h1 := Nat.log2_self_le (show x ≠ 0 by omega)
  have h2 := @Nat.lt_log2_self x
  rw [Nat.pow_succ]
  rw [Nat.pow_succ] at h2
  omega
/-- A power of two beyond a length. -/
theorem nextPow_ok (x : Nat) (h1 : 1 ≤ x) (hx : x < 1000000) (h : Hp) : HCalls Tryz.prog 114 #[.int .i64 (x : Int)] h (fun r h' => r = .int .u64 ((2 ^ blen x : Nat) : Int) ∧ h' = h) := by
  refine slices_nextPowerOfTwo_call ?_
  rw [slices_nextPowerOfTwo_b0_eq, wrap_u64_in _ (by omega) (by omega)]
  refine (bitsLen_ok x (by omega) h).mono fun v h' ⟨hv, hh⟩ => ⟨_, hv, ?_⟩
  have hb := blen_pow h1
  have hl : blen x ≤ 20 := blen_le (by omega)
  refine shl_intro (x := 1) (s := blen x) rfl rfl (by show blen x ≤ 64; omega) ?_ ⟨?_, hh⟩
  · exact wrap_u64_in _ (by omega) (by omega)
  · rw [Nat.one_mul]
theorem Next_ok {h0 h : Hp} {b : Nat} {z : Int} {e : TypeId} {F : Bag} (s : St h0 h (cA b [.int .u64 z] e + F)) : HCalls Tryz.prog 115 #[.pointer (some ⟨b, 0, none⟩)] h (fun r h' => ∃ y : Int, r = .int .u64 y ∧ St h0 h' (cA b [.int .u64 y] e + F)) := by
  refine slices_xorshift_Next_call ?_
  rw [slices_xorshift_Next_b0_eq]
  refine ⟨_, s.cell 0, _, s.cell 0, _, ⟨by decide, rfl⟩, _, rfl, s.wr (o := 0) rfl Nat.zero_lt_one fun h1 s => ?_⟩
  refine ⟨_, s.cell 0, _, s.cell 0, _, ⟨by decide, rfl⟩, _, rfl, s.wr (o := 0) rfl Nat.zero_lt_one fun h2 s => ?_⟩
  refine ⟨_, s.cell 0, _, s.cell 0, _, ⟨by decide, rfl⟩, _, rfl, s.wr (o := 0) rfl Nat.zero_lt_one fun h3 s => ?_⟩
  exact ⟨_, s.cell 0, _, rfl, s⟩
/-- Bits of a mask. -/
theorem mask_lt (r : Int) (m : Nat) (h1 : 1 ≤ m) (hm : m < 10000000) {Q : Int → Prop} (hq : ∀ k : Nat, k < m → Q (k : Int)) : ∃ an1 : Int, Sx.And .u64 r (IntKind.u64.wrap ((m : Int) - 1)) an1 ∧ Q an1 := by
  refine ⟨_, rfl, ?_⟩
  rw [wrap_u64_in ((m : Int) - 1) (by omega) (by omega)]
  have h2 : ((BitVec.ofInt IntKind.u64.bits r) &&& (BitVec.ofInt IntKind.u64.bits ((m : Int) - 1))).toNat ≤ m - 1 := by
    rw [BitVec.toNat_and]
    refine Nat.le_trans Nat.and_le_right ?_
    rw [show ((m : Int) - 1) = ((m - 1 : Nat) : Int) by omega, BitVec.ofInt_natCast, BitVec.toNat_ofNat]
    exact Nat.mod_le _ _
  rw [wrap_u64_in _ (by omega) (by omega)]
  exact hq _ (by omega)
end Go.Proofs.YtbfejfejahoblaaGreat

/- Sorting: the choice of a pivot, breakPatterns. -/
set_option maxRecDepth 100000
namespace Go.Proofs.YtbfejfejahoblaaGreat
open Go Go.Sx
theorem order2PT {h0 h : Hp} {p : Option Addr} {n cp a' b' sb : Nat} {a b z : Int} {e : TypeId} {xs : List Pt} {A F : Bag} {cmp : Value} {cf : Pt → Pt → Int} {P : Pt → Prop} (hX : CmpPT h0 cmp cf P) (ho : OrdP (fun x y : Pt => cf x y < 0)) (s : St h0 h (A + (cA sb [.int .i64 z] e + F))) (o : Sl tPt p n cp xs A) (hP : ∀ k, k < n → P (xs.getD k tPt.d)) (ea : a = (a' : Int)) (eb : b = (b' : Int)) (ha : a' < n) (hb : b' < n) (hz : 0 ≤ z) (hz1 : z < 1000) :
    HCalls Tryz.prog 122 #[.slice p n cp, .int .i64 a, .int .i64 b, .pointer (some ⟨sb, 0, none⟩), cmp] h (fun v h' => ∃ u w z' : Int, v = .tuple #[.int .i64 u, .int .i64 w] ∧ (u = a ∧ w = b ∨ u = b ∧ w = a) ∧ z ≤ z' ∧ z' ≤ z + 1 ∧ St h0 h' (A + (cA sb [.int .i64 z'] e + F))) := by
  subst ea eb
  have hl0 := o.len
  refine slices_order2CmpFunc_api_Point_call ?_
  rw [slices_order2CmpFunc_api_Point_b0_eq]
  have r := o.rd s
  refine ldPT (i' := b') r rfl hb (ldPT (i' := a') r rfl ha ?_)
  refine hX _ _ _ _ s.ext (hP _ (by omega)) (hP _ (by omega)) fun h5 e5 => ⟨_, rfl, ?_⟩; have s := s.grow e5
  refine condP (fun hc => ?_) (fun hc => ⟨_, _, z, rfl, .inl ⟨rfl, rfl⟩, by omega, by omega, s⟩)
  have s := s.to (B := cA sb [.int .i64 z] e + (A + F))
  refine ⟨_, s.cell 0, ⟨by omega, by omega⟩, s.wr (o := 0) rfl Nat.zero_lt_one fun h2 s => ?_⟩
  exact ⟨_, _, z + 1, rfl, .inr ⟨rfl, rfl⟩, by omega, by omega, s.to⟩
theorem medianPT {h0 h : Hp} {p : Option Addr} {n cp sb : Nat} {a b c z : Int} {e : TypeId} {xs : List Pt} {A F : Bag} {cmp : Value} {cf : Pt → Pt → Int} {P : Pt → Prop} (hX : CmpPT h0 cmp cf P) (ho : OrdP (fun x y : Pt => cf x y < 0)) (s : St h0 h (A + (cA sb [.int .i64 z] e + F))) (o : Sl tPt p n cp xs A) (hP : ∀ k, k < n → P (xs.getD k tPt.d)) (ha : 0 ≤ a ∧ a < n) (hb : 0 ≤ b ∧ b < n) (hc : 0 ≤ c ∧ c < n) (hz : 0 ≤ z) (hz1 : z < 900) :
    HCalls Tryz.prog 117 #[.slice p n cp, .int .i64 a, .int .i64 b, .int .i64 c, .pointer (some ⟨sb, 0, none⟩), cmp] h (fun v h' => ∃ u z' : Int, v = .int .i64 u ∧ (u = a ∨ u = b ∨ u = c) ∧ z ≤ z' ∧ z' ≤ z + 3 ∧ St h0 h' (A + (cA sb [.int .i64 z'] e + F))) := by
  refine slices_medianCmpFunc_api_Point_call ?_
  rw [slices_medianCmpFunc_api_Point_b0_eq]
  refine (order2PT hX ho s o hP (a' := a.toNat) (b' := b.toNat) (by omega) (by omega) (by omega) (by omega) hz (by omega)).mono fun v1 h1 ⟨u1, w1, z1, hv1, hu1, g1, g2, s⟩ => ⟨_, _, hv1, ?_⟩
  refine (order2PT hX ho s o hP (a' := w1.toNat) (b' := c.toNat) (by omega) (by omega) (by omega) (by omega) (by omega) (by omega)).mono fun v2 h2 ⟨u2, w2, z2, hv2, hu2, g3, g4, s⟩ => ⟨_, _, hv2, ?_⟩
  refine (order2PT hX ho s o hP (a' := u1.toNat) (b' := u2.toNat) (by omega) (by omega) (by omega) (by omega) (by omega) (by omega)).mono fun v3 h3 ⟨u3, w3, z3, hv3, hu3, g5, g6, s⟩ => ⟨_, _, hv3, ?_⟩
  exact ⟨_, z3, rfl, by omega, by omega, by omega, s⟩
theorem medianAdjacentPT {h0 h : Hp} {p : Option Addr} {n cp sb : Nat} {a z : Int} {e : TypeId} {xs : List Pt} {A F : Bag} {cmp : Value} {cf : Pt → Pt → Int} {P : Pt → Prop} (hX : CmpPT h0 cmp cf P) (ho : OrdP (fun x y : Pt => cf x y < 0)) (s : St h0 h (A + (cA sb [.int .i64 z] e + F))) (o : Sl tPt p n cp xs A) (hP : ∀ k, k < n → P (xs.getD k tPt.d)) (ha : 1 ≤ a ∧ a + 1 < n) (hn : n < 1000000) (hz : 0 ≤ z) (hz1 : z < 900) :
    HCalls Tryz.prog 116 #[.slice p n cp, .int .i64 a, .pointer (some ⟨sb, 0, none⟩), cmp] h (fun v h' => ∃ u z' : Int, v = .int .i64 u ∧ (a - 1 ≤ u ∧ u ≤ a + 1) ∧ z ≤ z' ∧ z' ≤ z + 3 ∧ St h0 h' (A + (cA sb [.int .i64 z'] e + F))) := by
  refine slices_medianAdjacentCmpFunc_api_Point_call ?_
  rw [slices_medianAdjacentCmpFunc_api_Point_b0_eq]
  refine ⟨⟨by omega, by omega⟩, ⟨by omega, by omega⟩, (medianPT hX ho s o hP (by omega) (by omega) (by omega) hz hz1).mono fun v1 h1 ⟨u, z', hv, hu, g1, g2, s⟩ => ⟨_, hv, _, z', rfl, by omega, g1, g2, s⟩⟩
theorem choosePivotPT {h0 h : Hp} {p : Option Addr} {n cp a' b' : Nat} {a b : Int} {xs : List Pt} {A F : Bag} {cmp : Value} {cf : Pt → Pt → Int} {P : Pt → Prop} (hX : CmpPT h0 cmp cf P) (ho : OrdP (fun x y : Pt => cf x y < 0)) (s : St h0 h (A + F)) (o : Sl tPt p n cp xs A) (hP : ∀ k, k < n → P (xs.getD k tPt.d)) (ea : a = (a' : Int)) (eb : b = (b' : Int)) (hab : a' < b') (hb : b' ≤ n) (hn : n < 1000000) :
    HCalls Tryz.prog 93 #[.slice p n cp, .int .i64 a, .int .i64 b, cmp] h (fun v h' => ∃ u hint : Int, v = .tuple #[.int .i64 u, .int .i64 hint] ∧ a ≤ u ∧ u < b ∧ St h0 h' (A + F)) := by
  subst ea eb
  refine slices_choosePivotCmpFunc_api_Point_call ?_
  rw [slices_choosePivotCmpFunc_api_Point_b0_eq]
  refine ⟨⟨by omega, by omega⟩, s.new (cs := [.int .i64 0]) fun sb h1 _ s => ?_⟩
  have s := s.to (B := A + (cA sb [.int .i64 0] 3 + F))
  have b2 : ∀ (u z : Int) (h' : Hp), a' ≤ u → u < b' → St h0 h' (A + (cA sb [.int .i64 z] 3 + F)) → slices_choosePivotCmpFunc_api_Point_b2 (some ⟨sb, 0, none⟩) u h' (fun v h' => ∃ u hint : Int, v = .tuple #[.int .i64 u, .int .i64 hint] ∧ (a' : Int) ≤ u ∧ u < b' ∧ St h0 h' (A + F)) := by
    intro u z h' h1 h2 s
    rw [slices_choosePivotCmpFunc_api_Point_b2_eq]
    have s := s.to (B := cA sb [.int .i64 z] 3 + (A + F))
    exact ⟨_, s.cell 0, condP (fun _ => ⟨_, _, rfl, h1, h2, s.drop⟩) fun _ => condP (fun _ => ⟨_, _, rfl, h1, h2, s.drop⟩) fun _ => ⟨_, _, rfl, h1, h2, s.drop⟩⟩
  have b1 : ∀ (u v w z : Int) (h' : Hp), (a' ≤ u ∧ u < b') → (a' ≤ v ∧ v < b') → (a' ≤ w ∧ w < b') → 0 ≤ z → z < 100 → St h0 h' (A + (cA sb [.int .i64 z] 3 + F)) → slices_choosePivotCmpFunc_api_Point_b1 p n cp cmp (some ⟨sb, 0, none⟩) u v w h' (fun v h' => ∃ u hint : Int, v = .tuple #[.int .i64 u, .int .i64 hint] ∧ (a' : Int) ≤ u ∧ u < b' ∧ St h0 h' (A + F)) := by
    intro u v w z h' h1 h2 h3 hz hz1 s
    rw [slices_choosePivotCmpFunc_api_Point_b1_eq]
    refine (medianPT hX ho s o hP (by omega) (by omega) (by omega) hz (by omega)).mono fun v1 h1 ⟨u, z', hv, hu, g1, g2, s⟩ => ⟨_, hv, ?_⟩
    exact b2 _ _ _ (by omega) (by omega) s
  refine quo_intro (by omega) (by omega) (by omega) ⟨⟨by omega, by omega⟩, ⟨by omega, by omega⟩, ?_⟩
  refine quo_intro (by omega) (by omega) (by omega) ⟨⟨by omega, by omega⟩, ⟨by omega, by omega⟩, ?_⟩
  refine quo_intro (by omega) (by omega) (by omega) ⟨⟨by omega, by omega⟩, ⟨by omega, by omega⟩, ?_⟩
  refine condP (fun h8 => ?_) (fun h8 => b2 _ _ _ (by omega) (by omega) s)
  refine condP (fun h50 => ?_) (fun h50 => b1 _ _ _ _ _ (by omega) (by omega) (by omega) (by omega) (by omega) s)
  refine (medianAdjacentPT hX ho s o hP (by omega) hn (by omega) (by omega)).mono fun v1 h1 ⟨u1, z1, hv, hu, g1, g2, s⟩ => ⟨_, hv, ?_⟩
  refine (medianAdjacentPT hX ho s o hP (by omega) hn (by omega) (by omega)).mono fun v1 h1 ⟨u2, z2, hv, hu, g3, g4, s⟩ => ⟨_, hv, ?_⟩
  refine (medianAdjacentPT hX ho s o hP (by omega) hn (by omega) (by omega)).mono fun v1 h1 ⟨u3, z3, hv, hu, g5, g6, s⟩ => ⟨_, hv, ?_⟩
  exact b1 _ _ _ _ _ (by omega) (by omega) (by omega) (by omega) (by omega) s
theorem breakPatternsPT {h0 h : Hp} {p : Option Addr} {n cp a' b' : Nat} {a b : Int} {xs : List Pt} {A F : Bag} {cmp : Value} (s : St h0 h (A + F)) (o : Sl tPt p n cp xs A) (ea : a = (a' : Int)) (eb : b = (b' : Int)) (hab : a' ≤ b') (hb : b' ≤ n) (hn : n < 1000000) :
    HCalls Tryz.prog 92 #[.slice p n cp, .int .i64 a, .int .i64 b, cmp] h (fun v h' => v = .tuple #[] ∧ OutPT h0 p n cp a' b' xs F h' fun _ => True) := by
  subst ea eb
  have hl0 := o.len
  refine slices_breakPatternsCmpFunc_api_Point_call ?_
  rw [slices_breakPatternsCmpFunc_api_Point_b0_eq]
  refine ⟨⟨by omega, by omega⟩, condP (fun h8 => ?_) (fun h8 => ⟨rfl, xs, A, o, s, .refl _, trivial⟩)⟩
  refine s.new (cs := [.int .u64 0]) fun rb h1 _ s => ?_
  refine s.wr (o := 0) rfl Nat.zero_lt_one fun h2 s => ?_
  rw [show ((b' : Int) - a') = ((b' - a' : Nat) : Int) by omega]
  refine (nextPow_ok (b' - a') (by omega) (by omega) h2).mono fun v h3 ⟨hv, hh⟩ => ⟨_, hv, ?_⟩
  subst hh
  have hm := blen_pow (x := b' - a') (by omega)
  generalize 2 ^ blen (b' - a') = m at *
  refine quo_intro (by omega) (by omega) (by omega) ⟨⟨by omega, by omega⟩, ⟨by omega, by omega⟩, ⟨by omega, by omega⟩, ?_⟩
  obtain ⟨q, hq⟩ : ∃ q : Nat, ((b' - a' : Nat) : Int) / 4 = q := ⟨(b' - a') / 4, by omega⟩
  rw [hq]
  refine ⟨fun i h1 => ∃ (i' : Nat) (z : Int), i.1 = i' ∧ a' ≤ i' ∧ ∃ ys A1, Sl tPt p n cp ys A1 ∧ St h0 h1 (cA rb [.int .u64 z] 142 + (A1 + F)) ∧ Swp tPt.d a' b' xs ys, fun i _ => (b' - i.1).toNat, ⟨a' + 2 * q - 1, _, by show (_ : Int) - 1 = _; omega, by omega, xs, A, o, s, .refl _⟩, ?_⟩
  rintro ⟨_, _⟩ h1 ⟨i', z, rfl, hi, ys, A1, o, s, w⟩
  dsimp only
  have hl := o.len
  rw [slices_breakPatternsCmpFunc_api_Point_b1_eq]
  refine quo_intro (by omega) (by omega) (by omega) ?_
  rw [hq]
  refine ⟨⟨by omega, by omega⟩, ⟨by omega, by omega⟩, ⟨by omega, by omega⟩, condP (fun hlt => ?_) (fun hlt => ⟨rfl, ys, A1, o, s.drop, w, trivial⟩)⟩
  refine (Next_ok s).mono fun v h3 ⟨y, hv, s⟩ => ⟨_, hv, mask_lt y m (by omega) (by omega) fun k hk => ⟨⟨by omega, by omega⟩, ?_⟩⟩
  have fin : ∀ u : Nat, u < b' - a' → slices_breakPatternsCmpFunc_api_Point_b2 p n cp a' ((b' - a' : Nat) : Int) (some ⟨rb, 0, none⟩) m i' u h3 (fun s' h' => (∃ (i' : Nat) (z : Int), s'.1 = i' ∧ a' ≤ i' ∧ ∃ ys A1, Sl tPt p n cp ys A1 ∧ St h0 h' (cA rb [.int .u64 z] 142 + (A1 + F)) ∧ Swp tPt.d a' b' xs ys) ∧ (b' - s'.1).toNat < (b' - (i' : Int)).toNat) (fun v h' => v = .tuple #[] ∧ OutPT h0 p n cp a' b' xs F h' fun _ => True) := by
    intro u hu
    rw [slices_breakPatternsCmpFunc_api_Point_b2_eq]
    have s := s.to (B := A1 + (cA rb [.int .u64 y] 142 + F))
    refine ⟨⟨by omega, by omega⟩, ⟨by omega, by omega⟩, swPT (u' := i') (v' := a' + u) o s rfl (by push_cast; rfl) (by omega) (by omega) fun h6 A6 o6 s6 => ?_⟩
    rw [slices_breakPatternsCmpFunc_api_Point_b3_eq]
    exact ⟨⟨by omega, by omega⟩, ⟨i' + 1, y, by push_cast; rfl, by omega, _, A6, o6, s6.to, .step w (by omega) (by omega) (by omega) (by omega) (by omega)⟩, by omega⟩
  refine condP (fun hk2 => ⟨⟨by omega, by omega⟩, ?_⟩) (fun hk2 => fin k (by omega))
  have := fin (k - (b' - a')) (by omega)
  rwa [show ((k - (b' - a') : Nat) : Int) = (k : Int) - ((b' - a' : Nat) : Int) by omega] at this
end Go.Proofs.YtbfejfejahoblaaGreat

/- Sorting: partition, partitionEqual. -/
set_option maxRecDepth 100000
namespace Go.Proofs.YtbfejfejahoblaaGreat
open Go Go.Sx
abbrev PInvPT (cf : Pt → Pt → Int) (h0 : Hp) (p : Option Addr) (n cp a' b' : Nat) (xs : List Pt) (F : Bag) (i' J : Nat) (h : Hp) : Prop := a' + 1 ≤ i' ∧ i' ≤ b' ∧ a' + 1 ≤ J ∧ J ≤ b' ∧ OutPT h0 p n cp a' b' xs F h (fun ys => LoR tPt.d (fun x y : Pt => cf x y < 0) a' i' ys ∧ HiR tPt.d (fun x y : Pt => cf x y < 0) a' J b' ys)
abbrev PSt1PT (cf : Pt → Pt → Int) (h0 : Hp) (p : Option Addr) (n cp a' b' : Nat) (xs : List Pt) (F : Bag) (i' J : Nat) (h : Hp) : Prop := a' + 1 ≤ i' ∧ i' ≤ b' ∧ a' + 1 ≤ J ∧ J ≤ b' ∧ OutPT h0 p n cp a' b' xs F h (fun ys => LoR tPt.d (fun x y : Pt => cf x y < 0) a' i' ys ∧ HiR tPt.d (fun x y : Pt => cf x y < 0) a' J b' ys ∧ (i' < J → ¬ (fun x y : Pt => cf x y < 0) (ys.getD i' tPt.d) (ys.getD a' tPt.d)))
abbrev PSt2PT (cf : Pt → Pt → Int) (h0 : Hp) (p : Option Addr) (n cp a' b' : Nat) (xs : List Pt) (F : Bag) (i' J : Nat) (h : Hp) : Prop := a' + 1 ≤ i' ∧ i' ≤ b' ∧ a' + 1 ≤ J ∧ J ≤ b' ∧ OutPT h0 p n cp a' b' xs F h (fun ys => LoR tPt.d (fun x y : Pt => cf x y < 0) a' i' ys ∧ HiR tPt.d (fun x y : Pt => cf x y < 0) a' J b' ys ∧ (i' < J → ¬ (fun x y : Pt => cf x y < 0) (ys.getD i' tPt.d) (ys.getD a' tPt.d)) ∧ (i' < J → (fun x y : Pt => cf x y < 0) (ys.getD (J - 1) tPt.d) (ys.getD a' tPt.d)))
theorem partitionPT {h0 h : Hp} {p : Option Addr} {n cp a' b' pv' : Nat} {a b pv : Int} {xs : List Pt} {A F : Bag} {cmp : Value} {cf : Pt → Pt → Int} {P : Pt → Prop} (hX : CmpPT h0 cmp cf P) (ho : OrdP (fun x y : Pt => cf x y < 0)) (s : St h0 h (A + F)) (o : Sl tPt p n cp xs A) (hP : ∀ k, k < n → P (xs.getD k tPt.d)) (ea : a = (a' : Int)) (eb : b = (b' : Int)) (ev : pv = (pv' : Int)) (hpv : a' ≤ pv' ∧ pv' < b') (hb : b' ≤ n) (hn : n < 1000000) :
    HCalls Tryz.prog 97 #[.slice p n cp, .int .i64 a, .int .i64 b, .int .i64 pv, cmp] h (fun v h' => ∃ (m : Nat) (bb : Bool), v = .tuple #[.int .i64 (m : Int), .bool bb] ∧ a' ≤ m ∧ m < b' ∧ OutPT h0 p n cp a' b' xs F h' (PartR tPt.d (fun x y : Pt => cf x y < 0) a' b' m)) := by
  subst ea eb ev
  have hl0 := o.len
  refine slices_partitionCmpFunc_api_Point_call ?_
  generalize hR : (fun v h' => ∃ (m : Nat) (bb : Bool), v = Value.tuple #[.int .i64 (m : Int), .bool bb] ∧ a' ≤ m ∧ m < b' ∧ OutPT h0 p n cp a' b' xs F h' (PartR tPt.d (fun x y : Pt => cf x y < 0) a' b' m)) = R
  have hRi : ∀ (v : Value) (h' : Hp) (m : Nat) (bb : Bool), v = .tuple #[.int .i64 (m : Int), .bool bb] → a' ≤ m → m < b' → OutPT h0 p n cp a' b' xs F h' (PartR tPt.d (fun x y : Pt => cf x y < 0) a' b' m) → R v h' := by
    intro v h' m bb h1 h2 h3 h4; rw [← hR]; exact ⟨m, bb, h1, h2, h3, h4⟩
  clear hR
  have b13 : ∀ (i' J : Nat) (h' : Hp) (nx : Int × Int × Unit → Hp → Prop) , PSt2PT cf h0 p n cp a' b' xs F i' J h' → (∀ h', PInvPT cf h0 p n cp a' b' xs F (i' + 1) (J - 1) h' → i' < J → nx ((i' : Int) + 1, (J : Int) - 1 - 1, ()) h') → slices_partitionCmpFunc_api_Point_b13 p n cp a' cmp i' ((J : Int) - 1) h' nx R := by
    rintro i' J h' nx ⟨hi1, hi2, hJ1, hJ2, ys, A1, o, s, w, lo, hi, hst, hs2⟩ hnx 
    have hl := o.len
    rw [slices_partitionCmpFunc_api_Point_b13_eq]
    refine condP (fun hlt => ?_) (fun hlt => ?_)
    · rw [slices_partitionCmpFunc_api_Point_b14_eq]
      refine swPT (u' := J - 1) (v' := a') o s (by omega) rfl (by omega) (by omega) fun h6 A6 o6 s6 => ?_
      refine hRi _ _ (J - 1) false (by rw [show ((J - 1 : Nat) : Int) = (J : Int) - 1 by omega]) (by omega) (by omega) ⟨_, A6, o6, s6, .step w (by omega) (by omega) (by omega) (by omega) (by omega), part_end (by omega) hi2 (by omega) (by omega) lo hi⟩
    · refine swPT (u' := i') (v' := J - 1) o s rfl (by omega) (by omega) (by omega) fun h6 A6 o6 s6 => ⟨⟨by omega, by omega⟩, ⟨by omega, by omega⟩, ?_⟩
      have hs2 := hs2 (by omega)
      exact hnx _ ⟨by omega, by omega, by omega, by omega, _, A6, o6, s6, .step w (by omega) (by omega) (by omega) (by omega) (by omega), part_swap (by omega) (by omega) hJ2 (by omega) lo hi (hst (by omega)) hs2⟩ (by omega)
  have b10 : ∀ (i' J : Nat) (h' : Hp) (nx : Int × Int × Unit → Hp → Prop) , PSt1PT cf h0 p n cp a' b' xs F i' J h' → (∀ i2 J2 h', i' + 1 ≤ i2 → J2 + 1 ≤ J → PInvPT cf h0 p n cp a' b' xs F i2 J2 h' → nx ((i2 : Int), (J2 : Int) - 1, ()) h') → slices_partitionCmpFunc_api_Point_b10 p n cp a' cmp i' ((J : Int) - 1) h' nx R := by
    rintro i' J h' nx hI hnx 
    rw [slices_partitionCmpFunc_api_Point_b10_eq]
    refine ⟨fun j h2 => ∃ J2 : Nat, j.1 = (J2 : Int) - 1 ∧ J2 ≤ J ∧ PSt1PT cf h0 p n cp a' b' xs F i' J2 h2, fun j _ => (j.1 + 1).toNat, ⟨J, rfl, Nat.le_refl _, hI⟩, ?_⟩
    clear hI
    rintro ⟨_, _⟩ h2 ⟨J2, rfl, hJJ, hi1, hi2, hJ1, hJ2, ys, A1, o, s, w, lo, hi, hst⟩
    dsimp only
    have hl := o.len
    have hP := w.allN hl0 hP
    have ch := fun (h3 : Hp) (s : St h0 h3 (A1 + F)) (g : i' < J2 → (fun x y : Pt => cf x y < 0) (ys.getD (J2 - 1) tPt.d) (ys.getD a' tPt.d)) => b13 i' J2 h3 nx ⟨hi1, hi2, hJ1, hJ2, ys, A1, o, s, w, lo, hi, hst, g⟩ fun h' hp hq => by have := hnx (i' + 1) (J2 - 1) h' (by omega) (by omega) hp; rwa [show ((i' + 1 : Nat) : Int) = (i' : Int) + 1 by push_cast; rfl, show ((J2 - 1 : Nat) : Int) - 1 = (J2 : Int) - 1 - 1 by omega] at this
    rw [slices_partitionCmpFunc_api_Point_b11_eq]
    refine condP (fun hlt => ?_) (fun hlt => ch _ s fun h => by omega)
    have r := o.rd s
    refine ldPT (i' := J2 - 1) r (by omega) (by omega) (ldPT (i' := a') r rfl (by omega) ?_)
    refine hX _ _ _ _ s.ext (hP _ (by omega)) (hP _ (by omega)) fun h5 e5 => ⟨_, rfl, ?_⟩; have s := s.grow e5
    refine condN (fun hc => ?_) (fun hc => ch _ s fun _ => hc)
    rw [slices_partitionCmpFunc_api_Point_b12_eq]
    exact ⟨⟨by omega, by omega⟩, ⟨J2 - 1, by omega, by omega, hi1, hi2, by omega, by omega, ys, A1, o, s, w, lo, hi_next hi hc, fun h => hst (by omega)⟩, by omega⟩
  have b8 : ∀ (i' J : Nat) (h' : Hp) (nx : Int × Int × Unit → Hp → Prop) , PInvPT cf h0 p n cp a' b' xs F i' J h' → (∀ i2 J2 h', i' + 1 ≤ i2 → J2 + 1 ≤ J → PInvPT cf h0 p n cp a' b' xs F i2 J2 h' → nx ((i2 : Int), (J2 : Int) - 1, ()) h') → LoopVC (((i' : Int), ()) : Int × Unit) h' (fun (nx1 : Int × Unit → Hp → Prop) (s4 : Int × Unit) h36 => slices_partitionCmpFunc_api_Point_b8 s4.1 p n cp a' cmp ((J : Int) - 1) h36 nx nx1 R) := by
    rintro i' J h' nx hI hnx 
    refine ⟨fun i h2 => ∃ i2 : Nat, i.1 = (i2 : Int) ∧ i' ≤ i2 ∧ PInvPT cf h0 p n cp a' b' xs F i2 J h2, fun i _ => (b' - i.1).toNat, ⟨i', rfl, Nat.le_refl _, hI⟩, ?_⟩
    clear hI
    rintro ⟨_, _⟩ h2 ⟨i2, rfl, hii, hi1, hi2, hJ1, hJ2, ys, A1, o, s, w, lo, hi⟩
    dsimp only
    have hl := o.len
    have hP := w.allN hl0 hP
    have ch := fun (h3 : Hp) (s : St h0 h3 (A1 + F)) (g : i2 < J → ¬ (fun x y : Pt => cf x y < 0) (ys.getD i2 tPt.d) (ys.getD a' tPt.d)) => b10 i2 J h3 nx ⟨hi1, hi2, hJ1, hJ2, ys, A1, o, s, w, lo, hi, g⟩ fun i3 J3 h' g1 g2 g3 => hnx i3 J3 h' (by omega) (by omega) g3
    rw [slices_partitionCmpFunc_api_Point_b8_eq]
    refine condP (fun hlt => ?_) (fun hlt => ch _ s fun h => by omega)
    have r := o.rd s
    refine ldPT (i' := i2) r rfl (by omega) (ldPT (i' := a') r rfl (by omega) ?_)
    refine hX _ _ _ _ s.ext (hP _ (by omega)) (hP _ (by omega)) fun h5 e5 => ⟨_, rfl, ?_⟩; have s := s.grow e5
    refine condP (fun hc => ?_) (fun hc => ch _ s fun _ => hc)
    rw [slices_partitionCmpFunc_api_Point_b9_eq]
    exact ⟨⟨by omega, by omega⟩, ⟨i2 + 1, by push_cast; rfl, by omega, by omega, by omega, hJ1, hJ2, ys, A1, o, s, w, lo_next lo hc, hi⟩, by omega⟩
  have b7 : ∀ (i' J : Nat) (h' : Hp), PInvPT cf h0 p n cp a' b' xs F i' J h' → LoopVC ((i', (J : Int) - 1, ()) : Int × Int × Unit) h' (fun (nx0 : Int × Int × Unit → Hp → Prop) (s3 : Int × Int × Unit) h35 => slices_partitionCmpFunc_api_Point_b7 s3.1 s3.2.1 p n cp a' cmp h35 nx0 R) := by
    intro i' J h' hI
    refine ⟨fun ij h2 => ∃ i2 J2 : Nat, ij.1 = (i2 : Int) ∧ ij.2.1 = (J2 : Int) - 1 ∧ PInvPT cf h0 p n cp a' b' xs F i2 J2 h2, fun ij _ => (b' - ij.1).toNat + (ij.2.1 + 1).toNat, ⟨i', J, rfl, rfl, hI⟩, ?_⟩
    clear hI
    rintro ⟨_, _, _⟩ h2 ⟨i2, J2, rfl, rfl, hI⟩
    dsimp only
    rw [slices_partitionCmpFunc_api_Point_b7_eq]
    refine b8 i2 J2 h2 _ hI fun i3 J3 h3 g1 g2 hI3 => ⟨⟨i3, J3, rfl, rfl, hI3⟩, ?_⟩
    have := hI.1
    have := hI.2.1
    have := hI3.2.1
    dsimp only
    omega
  have b6 : ∀ (i' J : Nat) (h' : Hp) , PSt2PT cf h0 p n cp a' b' xs F i' J h' → slices_partitionCmpFunc_api_Point_b6 p n cp a' cmp i' ((J : Int) - 1) h' R := by
    rintro i' J h' ⟨hi1, hi2, hJ1, hJ2, ys, A1, o, s, w, lo, hi, hst, hs2⟩
    have hl := o.len
    rw [slices_partitionCmpFunc_api_Point_b6_eq]
    refine condP (fun hlt => ?_) (fun hlt => ?_)
    · refine swPT (u' := J - 1) (v' := a') o s (by omega) rfl (by omega) (by omega) fun h6 A6 o6 s6 => ?_
      refine hRi _ _ (J - 1) true (by rw [show ((J - 1 : Nat) : Int) = (J : Int) - 1 by omega]) (by omega) (by omega) ⟨_, A6, o6, s6, .step w (by omega) (by omega) (by omega) (by omega) (by omega), part_end (by omega) hi2 (by omega) (by omega) lo hi⟩
    · refine swPT (u' := i') (v' := J - 1) o s rfl (by omega) (by omega) (by omega) fun h6 A6 o6 s6 => ⟨⟨by omega, by omega⟩, ⟨by omega, by omega⟩, ?_⟩
      have hs2 := hs2 (by omega)
      have := b7 (i' + 1) (J - 1) h6 ⟨by omega, by omega, by omega, by omega, _, A6, o6, s6, .step w (by omega) (by omega) (by omega) (by omega) (by omega), part_swap (by omega) (by omega) hJ2 (by omega) lo hi (hst (by omega)) hs2⟩
      rwa [show ((i' + 1 : Nat) : Int) = (i' : Int) + 1 by push_cast; rfl, show ((J - 1 : Nat) : Int) - 1 = (J : Int) - 1 - 1 by omega] at this
  have b3 : ∀ (i' J : Nat) (h' : Hp) , PSt1PT cf h0 p n cp a' b' xs F i' J h' → slices_partitionCmpFunc_api_Point_b3 p n cp a' cmp i' ((J : Int) - 1) h' R := by
    rintro i' J h' hI 
    rw [slices_partitionCmpFunc_api_Point_b3_eq]
    refine ⟨fun j h2 => ∃ J2 : Nat, j.1 = (J2 : Int) - 1 ∧ J2 ≤ J ∧ PSt1PT cf h0 p n cp a' b' xs F i' J2 h2, fun j _ => (j.1 + 1).toNat, ⟨J, rfl, Nat.le_refl _, hI⟩, ?_⟩
    clear hI
    rintro ⟨_, _⟩ h2 ⟨J2, rfl, hJJ, hi1, hi2, hJ1, hJ2, ys, A1, o, s, w, lo, hi, hst⟩
    dsimp only
    have hl := o.len
    have hP := w.allN hl0 hP
    have ch := fun (h3 : Hp) (s : St h0 h3 (A1 + F)) (g : i' < J2 → (fun x y : Pt => cf x y < 0) (ys.getD (J2 - 1) tPt.d) (ys.getD a' tPt.d)) => b6 i' J2 h3  ⟨hi1, hi2, hJ1, hJ2, ys, A1, o, s, w, lo, hi, hst, g⟩ 
    rw [slices_partitionCmpFunc_api_Point_b4_eq]
    refine condP (fun hlt => ?_) (fun hlt => ch _ s fun h => by omega)
    have r := o.rd s
    refine ldPT (i' := J2 - 1) r (by omega) (by omega) (ldPT (i' := a') r rfl (by omega) ?_)
    refine hX _ _ _ _ s.ext (hP _ (by omega)) (hP _ (by omega)) fun h5 e5 => ⟨_, rfl, ?_⟩; have s := s.grow e5
    refine condN (fun hc => ?_) (fun hc => ch _ s fun _ => hc)
    rw [slices_partitionCmpFunc_api_Point_b5_eq]
    exact ⟨⟨by omega, by omega⟩, ⟨J2 - 1, by omega, by omega, hi1, hi2, by omega, by omega, ys, A1, o, s, w, lo, hi_next hi hc, fun h => hst (by omega)⟩, by omega⟩
  have b1 : ∀ (i' J : Nat) (h' : Hp) , PInvPT cf h0 p n cp a' b' xs F i' J h' → LoopVC (((i' : Int), ()) : Int × Unit) h' (fun (nx1 : Int × Unit → Hp → Prop) (s4 : Int × Unit) h36 => slices_partitionCmpFunc_api_Point_b1 s4.1 p n cp a' cmp ((J : Int) - 1) h36 nx1 R) := by
    rintro i' J h' hI 
    refine ⟨fun i h2 => ∃ i2 : Nat, i.1 = (i2 : Int) ∧ i' ≤ i2 ∧ PInvPT cf h0 p n cp a' b' xs F i2 J h2, fun i _ => (b' - i.1).toNat, ⟨i', rfl, Nat.le_refl _, hI⟩, ?_⟩
    clear hI
    rintro ⟨_, _⟩ h2 ⟨i2, rfl, hii, hi1, hi2, hJ1, hJ2, ys, A1, o, s, w, lo, hi⟩
    dsimp only
    have hl := o.len
    have hP := w.allN hl0 hP
    have ch := fun (h3 : Hp) (s : St h0 h3 (A1 + F)) (g : i2 < J → ¬ (fun x y : Pt => cf x y < 0) (ys.getD i2 tPt.d) (ys.getD a' tPt.d)) => b3 i2 J h3  ⟨hi1, hi2, hJ1, hJ2, ys, A1, o, s, w, lo, hi, g⟩ 
    rw [slices_partitionCmpFunc_api_Point_b1_eq]
    refine condP (fun hlt => ?_) (fun hlt => ch _ s fun h => by omega)
    have r := o.rd s
    refine ldPT (i' := i2) r rfl (by omega) (ldPT (i' := a') r rfl (by omega) ?_)
    refine hX _ _ _ _ s.ext (hP _ (by omega)) (hP _ (by omega)) fun h5 e5 => ⟨_, rfl, ?_⟩; have s := s.grow e5
    refine condP (fun hc => ?_) (fun hc => ch _ s fun _ => hc)
    rw [slices_partitionCmpFunc_api_Point_b2_eq]
    exact ⟨⟨by omega, by omega⟩, ⟨i2 + 1, by push_cast; rfl, by omega, by omega, by omega, hJ1, hJ2, ys, A1, o, s, w, lo_next lo hc, hi⟩, by omega⟩
  rw [slices_partitionCmpFunc_api_Point_b0_eq]
  refine swPT (u' := a') (v' := pv') o s rfl rfl (by omega) (by omega) fun h6 A6 o6 s6 => ⟨⟨by omega, by omega⟩, ⟨by omega, by omega⟩, ?_⟩
  have := b1 (a' + 1) b' h6 ⟨Nat.le_refl _, by omega, by omega, Nat.le_refl _, _, A6, o6, s6, .one (Nat.le_refl _) (by omega) (by omega) (by omega) (by omega), fun k h1 h2 => by omega, fun k h1 h2 => by omega⟩
  rwa [show ((a' + 1 : Nat) : Int) = (a' : Int) + 1 by push_cast; rfl] at this
end Go.Proofs.YtbfejfejahoblaaGreat

/- Sorting: partitionEqual, partialInsertionSort. -/
set_option maxRecDepth 100000
namespace Go.Proofs.YtbfejfejahoblaaGreat
open Go Go.Sx
abbrev EInvPT (cf : Pt → Pt → Int) (h0 : Hp) (p : Option Addr) (n cp a' b' : Nat) (x : Pt) (xs : List Pt) (F : Bag) (i' J : Nat) (h : Hp) : Prop := a' + 1 ≤ i' ∧ i' ≤ b' ∧ a' + 1 ≤ J ∧ J ≤ b' ∧ OutPT h0 p n cp a' b' xs F h (fun ys => EqR tPt.d (fun x y : Pt => cf x y < 0) x a' i' ys)
abbrev EStPT (cf : Pt → Pt → Int) (h0 : Hp) (p : Option Addr) (n cp a' b' : Nat) (x : Pt) (xs : List Pt) (F : Bag) (i' J : Nat) (h : Hp) : Prop := a' + 1 ≤ i' ∧ i' ≤ b' ∧ a' + 1 ≤ J ∧ J ≤ b' ∧ OutPT h0 p n cp a' b' xs F h (fun ys => EqR tPt.d (fun x y : Pt => cf x y < 0) x a' i' ys ∧ (i' < J → ¬ (fun x y : Pt => cf x y < 0) (ys.getD a' tPt.d) (ys.getD (J - 1) tPt.d)))
theorem partitionEqualPT {h0 h : Hp} {p : Option Addr} {n cp a' b' pv' : Nat} {a b pv : Int} {xs : List Pt} {A F : Bag} {cmp : Value} {cf : Pt → Pt → Int} {P : Pt → Prop} (hX : CmpPT h0 cmp cf P) (ho : OrdP (fun x y : Pt => cf x y < 0)) (s : St h0 h (A + F)) (o : Sl tPt p n cp xs A) (hP : ∀ k, k < n → P (xs.getD k tPt.d)) (ea : a = (a' : Int)) (eb : b = (b' : Int)) (ev : pv = (pv' : Int)) (hpv : a' ≤ pv' ∧ pv' < b') (hb : b' ≤ n) (hn : n < 1000000) :
    HCalls Tryz.prog 96 #[.slice p n cp, .int .i64 a, .int .i64 b, .int .i64 pv, cmp] h (fun v h' => ∃ m : Nat, v = .int .i64 (m : Int) ∧ a' + 1 ≤ m ∧ m ≤ b' ∧ OutPT h0 p n cp a' b' xs F h' (EqR tPt.d (fun x y : Pt => cf x y < 0) (xs.getD pv' tPt.d) a' m)) := by
  subst ea eb ev
  have hl0 := o.len
  refine slices_partitionEqualCmpFunc_api_Point_call ?_
  generalize hx : xs.getD pv' tPt.d = x
  generalize hR : (fun v h' => ∃ m : Nat, v = Value.int .i64 (m : Int) ∧ a' + 1 ≤ m ∧ m ≤ b' ∧ OutPT h0 p n cp a' b' xs F h' (EqR tPt.d (fun x y : Pt => cf x y < 0) x a' m)) = R
  have hRi : ∀ (v : Value) (h' : Hp) (m : Nat), v = .int .i64 (m : Int) → a' + 1 ≤ m → m ≤ b' → OutPT h0 p n cp a' b' xs F h' (EqR tPt.d (fun x y : Pt => cf x y < 0) x a' m) → R v h' := by
    intro v h' m h1 h2 h3 h4; rw [← hR]; exact ⟨m, h1, h2, h3, h4⟩
  clear hR
  have b7 : ∀ (i' J : Nat) (h' : Hp) (nx : Int × Int × Unit → Hp → Prop), EStPT cf h0 p n cp a' b' x xs F i' J h' → (∀ h', EInvPT cf h0 p n cp a' b' x xs F (i' + 1) (J - 1) h' → i' < J → nx ((i' : Int) + 1, (J : Int) - 1 - 1, ()) h') → slices_partitionEqualCmpFunc_api_Point_b7 p n cp a' cmp i' ((J : Int) - 1) h' nx R := by
    rintro i' J h' nx ⟨hi1, hi2, hJ1, hJ2, ys, A1, o, s, w, he, hs2⟩ hnx
    have hl := o.len
    rw [slices_partitionEqualCmpFunc_api_Point_b7_eq]
    refine condP (fun hlt => ?_) (fun hlt => ?_)
    · rw [slices_partitionEqualCmpFunc_api_Point_b8_eq]
      exact hRi _ _ i' rfl hi1 hi2 ⟨ys, A1, o, s, w, he⟩
    · refine swPT (u' := i') (v' := J - 1) o s rfl (by omega) (by omega) (by omega) fun h6 A6 o6 s6 => ⟨⟨by omega, by omega⟩, ⟨by omega, by omega⟩, ?_⟩
      exact hnx _ ⟨by omega, by omega, by omega, by omega, _, A6, o6, s6, .step w (by omega) (by omega) (by omega) (by omega) (by omega), eq_swap (by omega) (by omega) (by omega) he (hs2 (by omega))⟩ (by omega)
  have b4 : ∀ (i' J : Nat) (h' : Hp) (nx : Int × Int × Unit → Hp → Prop), EInvPT cf h0 p n cp a' b' x xs F i' J h' → (∀ i2 J2 h', i' + 1 ≤ i2 → J2 + 1 ≤ J → EInvPT cf h0 p n cp a' b' x xs F i2 J2 h' → nx ((i2 : Int), (J2 : Int) - 1, ()) h') → slices_partitionEqualCmpFunc_api_Point_b4 p n cp a' cmp i' ((J : Int) - 1) h' nx R := by
    rintro i' J h' nx hI hnx
    rw [slices_partitionEqualCmpFunc_api_Point_b4_eq]
    refine ⟨fun j h2 => ∃ J2 : Nat, j.1 = (J2 : Int) - 1 ∧ J2 ≤ J ∧ EInvPT cf h0 p n cp a' b' x xs F i' J2 h2, fun j _ => (j.1 + 1).toNat, ⟨J, rfl, Nat.le_refl _, hI⟩, ?_⟩
    clear hI
    rintro ⟨_, _⟩ h2 ⟨J2, rfl, hJJ, hi1, hi2, hJ1, hJ2, ys, A1, o, s, w, he⟩
    dsimp only
    have hl := o.len
    have hP := w.allN hl0 hP
    have ch := fun (h3 : Hp) (s : St h0 h3 (A1 + F)) (g : i' < J2 → ¬ (fun x y : Pt => cf x y < 0) (ys.getD a' tPt.d) (ys.getD (J2 - 1) tPt.d)) => b7 i' J2 h3 nx ⟨hi1, hi2, hJ1, hJ2, ys, A1, o, s, w, he, g⟩ fun h' hp hq => by have := hnx (i' + 1) (J2 - 1) h' (by omega) (by omega) hp; rwa [show ((i' + 1 : Nat) : Int) = (i' : Int) + 1 by push_cast; rfl, show ((J2 - 1 : Nat) : Int) - 1 = (J2 : Int) - 1 - 1 by omega] at this
    rw [slices_partitionEqualCmpFunc_api_Point_b5_eq]
    refine condP (fun hlt => ?_) (fun hlt => ch _ s fun h => by omega)
    have r := o.rd s
    refine ldPT (i' := a') r rfl (by omega) (ldPT (i' := J2 - 1) r (by omega) (by omega) ?_)
    refine hX _ _ _ _ s.ext (hP _ (by omega)) (hP _ (by omega)) fun h5 e5 => ⟨_, rfl, ?_⟩; have s := s.grow e5
    refine condP (fun hc => ?_) (fun hc => ch _ s fun _ => hc)
    rw [slices_partitionEqualCmpFunc_api_Point_b6_eq]
    exact ⟨⟨by omega, by omega⟩, ⟨J2 - 1, by omega, by omega, hi1, hi2, by omega, by omega, ys, A1, o, s, w, he⟩, by omega⟩
  have b2 : ∀ (i' J : Nat) (h' : Hp) (nx : Int × Int × Unit → Hp → Prop), EInvPT cf h0 p n cp a' b' x xs F i' J h' → (∀ i2 J2 h', i' + 1 ≤ i2 → J2 + 1 ≤ J → EInvPT cf h0 p n cp a' b' x xs F i2 J2 h' → nx ((i2 : Int), (J2 : Int) - 1, ()) h') → LoopVC (((i' : Int), ()) : Int × Unit) h' (fun (nx1 : Int × Unit → Hp → Prop) (s4 : Int × Unit) h36 => slices_partitionEqualCmpFunc_api_Point_b2 s4.1 p n cp a' cmp ((J : Int) - 1) h36 nx nx1 R) := by
    rintro i' J h' nx hI hnx
    refine ⟨fun i h2 => ∃ i2 : Nat, i.1 = (i2 : Int) ∧ i' ≤ i2 ∧ EInvPT cf h0 p n cp a' b' x xs F i2 J h2, fun i _ => (b' - i.1).toNat, ⟨i', rfl, Nat.le_refl _, hI⟩, ?_⟩
    clear hI
    rintro ⟨_, _⟩ h2 ⟨i2, rfl, hii, hi1, hi2, hJ1, hJ2, ys, A1, o, s, w, he⟩
    dsimp only
    have hl := o.len
    have hP := w.allN hl0 hP
    have ch := fun (h3 : Hp) (s : St h0 h3 (A1 + F)) => b4 i2 J h3 nx ⟨hi1, hi2, hJ1, hJ2, ys, A1, o, s, w, he⟩ fun i3 J3 h' g1 g2 g3 => hnx i3 J3 h' (by omega) (by omega) g3
    rw [slices_partitionEqualCmpFunc_api_Point_b2_eq]
    refine condP (fun hlt => ?_) (fun hlt => ch _ s)
    have r := o.rd s
    refine ldPT (i' := a') r rfl (by omega) (ldPT (i' := i2) r rfl (by omega) ?_)
    refine hX _ _ _ _ s.ext (hP _ (by omega)) (hP _ (by omega)) fun h5 e5 => ⟨_, rfl, ?_⟩; have s := s.grow e5
    refine condN (fun hc => ?_) (fun hc => ch _ s)
    rw [slices_partitionEqualCmpFunc_api_Point_b3_eq]
    exact ⟨⟨by omega, by omega⟩, ⟨i2 + 1, by push_cast; rfl, by omega, by omega, by omega, hJ1, hJ2, ys, A1, o, s, w, eq_next he hc⟩, by omega⟩
  rw [slices_partitionEqualCmpFunc_api_Point_b0_eq]
  refine swPT (u' := a') (v' := pv') o s rfl rfl (by omega) (by omega) fun h6 A6 o6 s6 => ⟨⟨by omega, by omega⟩, ⟨by omega, by omega⟩, ?_⟩
  have hx2 : (swapL tPt.d xs a' pv').getD a' tPt.d = x := by
    rw [swapL_get (by omega) (by omega)]
    by_cases hk : a' = pv'
    · rw [if_pos hk, hk, hx]
    · rw [if_neg hk, if_pos rfl, hx]
  refine ⟨fun ij h2 => ∃ i2 J2 : Nat, ij.1 = (i2 : Int) ∧ ij.2.1 = (J2 : Int) - 1 ∧ EInvPT cf h0 p n cp a' b' x xs F i2 J2 h2, fun ij _ => (b' - ij.1).toNat + (ij.2.1 + 1).toNat, ⟨a' + 1, b', by push_cast; rfl, rfl, Nat.le_refl _, by omega, by omega, Nat.le_refl _, _, A6, o6, s6, .one (Nat.le_refl _) (by omega) (by omega) (by omega) (by omega), hx2, fun k h1 h2 => by rw [show k = a' by omega, hx2]; exact ho.irr _⟩, ?_⟩
  rintro ⟨_, _, _⟩ h2 ⟨i2, J2, rfl, rfl, hI⟩
  dsimp only
  rw [slices_partitionEqualCmpFunc_api_Point_b1_eq]
  refine b2 i2 J2 h2 _ hI fun i3 J3 h3 g1 g2 hI3 => ⟨⟨i3, J3, rfl, rfl, hI3⟩, ?_⟩
  have := hI.1
  have := hI.2.1
  have := hI3.2.1
  dsimp only
  omega
theorem partialInsertionSortPT {h0 h : Hp} {p : Option Addr} {n cp a' b' : Nat} {a b : Int} {xs : List Pt} {A F : Bag} {cmp : Value} {cf : Pt → Pt → Int} {P : Pt → Prop} (hX : CmpPT h0 cmp cf P) (ho : OrdP (fun x y : Pt => cf x y < 0)) (s : St h0 h (A + F)) (o : Sl tPt p n cp xs A) (hP : ∀ k, k < n → P (xs.getD k tPt.d)) (ea : a = (a' : Int)) (eb : b = (b' : Int)) (hab : a' < b') (hb : b' ≤ n) (hn : n < 1000000)
    (hlow : 0 < a' → ∀ k, a' ≤ k → k < b' → ¬ (fun x y : Pt => cf x y < 0) (xs.getD k tPt.d) (xs.getD (a' - 1) tPt.d)) :
    HCalls Tryz.prog 95 #[.slice p n cp, .int .i64 a, .int .i64 b, cmp] h (fun v h' => ∃ bb : Bool, v = .bool bb ∧ OutPT h0 p n cp a' b' xs F h' (fun ys => bb = true → SrtR tPt.d (fun x y : Pt => cf x y < 0) a' b' ys)) := by
  subst ea eb
  have hl0 := o.len
  refine slices_partialInsertionSortCmpFunc_api_Point_call ?_
  generalize hR : (fun v h' => ∃ bb : Bool, v = Value.bool bb ∧ OutPT h0 p n cp a' b' xs F h' (fun ys => bb = true → SrtR tPt.d (fun x y : Pt => cf x y < 0) a' b' ys)) = R
  have hRf : ∀ (h' : Hp), OutPT h0 p n cp a' b' xs F h' (fun _ => True) → R (.bool false) h' := by
    rintro h' ⟨ys, A1, o, s, w, _⟩; rw [← hR]; exact ⟨false, rfl, ys, A1, o, s, w, fun h => by cases h⟩
  have hRt : ∀ (h' : Hp), OutPT h0 p n cp a' b' xs F h' (SrtR tPt.d (fun x y : Pt => cf x y < 0) a' b') → R (.bool true) h' := by
    rintro h' ⟨ys, A1, o, s, w, hs⟩; rw [← hR]; exact ⟨true, rfl, ys, A1, o, s, w, fun _ => hs⟩
  clear hR
  rw [slices_partialInsertionSortCmpFunc_api_Point_b0_eq]
  refine ⟨⟨by omega, by omega⟩, fun ic h1 => ∃ (i' c : Nat), ic.1 = (i' : Int) ∧ ic.2.1 = (c : Int) ∧ c ≤ 5 ∧ a' + 1 ≤ i' ∧ i' ≤ b' ∧ OutPT h0 p n cp a' b' xs F h1 (SrtR tPt.d (fun x y : Pt => cf x y < 0) a' i'), fun ic _ => (5 - ic.2.1).toNat, ⟨a' + 1, 0, by push_cast; rfl, rfl, by omega, Nat.le_refl _, by omega, xs, A, o, s, .refl _, srtR_one (by omega)⟩, ?_⟩
  rintro ⟨_, _, _⟩ h1 ⟨i0, c, rfl, rfl, hc5, hi01, hi02, hO⟩
  dsimp only
  rw [slices_partialInsertionSortCmpFunc_api_Point_b1_eq]
  refine condP (fun hc => ?_) (fun hc => ?_)
  · generalize hNX : (fun (s' : Int × Int × Unit) (h' : Hp) => (∃ (i' c : Nat), s'.1 = (i' : Int) ∧ s'.2.1 = (c : Int) ∧ c ≤ 5 ∧ a' + 1 ≤ i' ∧ i' ≤ b' ∧ OutPT h0 p n cp a' b' xs F h' (SrtR tPt.d (fun x y : Pt => cf x y < 0) a' i')) ∧ (5 - s'.2.1).toNat < (5 - (c : Int)).toNat) = NX
    have b10 : ∀ (i' : Nat) (h' : Hp), a' + 1 ≤ i' → i' ≤ b' → OutPT h0 p n cp a' b' xs F h' (SrtR tPt.d (fun x y : Pt => cf x y < 0) a' i') → slices_partialInsertionSortCmpFunc_api_Point_b10 p n cp a' b' cmp i' c h' NX R := by
      intro i' h' g1 g2 g3
      rw [slices_partialInsertionSortCmpFunc_api_Point_b10_eq, ← hNX]
      exact ⟨⟨by omega, by omega⟩, ⟨i', c + 1, rfl, by push_cast; rfl, by omega, g1, g2, g3⟩, by dsimp only; omega⟩
    clear hNX
    have b7 : ∀ (i' : Nat) (h' : Hp), a' + 1 ≤ i' → i' ≤ b' → OutPT h0 p n cp a' b' xs F h' (SrtR tPt.d (fun x y : Pt => cf x y < 0) a' i') → slices_partialInsertionSortCmpFunc_api_Point_b7 p n cp a' b' cmp i' c h' NX R := by
      intro i' h' g1 g2 g3
      rw [slices_partialInsertionSortCmpFunc_api_Point_b7_eq]
      refine ⟨⟨by omega, by omega⟩, condP (fun h2 => ⟨⟨by omega, by omega⟩, ?_⟩) (fun _ => b10 i' h' g1 g2 g3)⟩
      refine ⟨fun j h2 => ∃ j' : Nat, j.1 = (j' : Int) ∧ i' + 1 ≤ j' ∧ j' ≤ b' ∧ OutPT h0 p n cp a' b' xs F h2 (SrtR tPt.d (fun x y : Pt => cf x y < 0) a' i'), fun j _ => (b' - j.1).toNat, ⟨i' + 1, by push_cast; rfl, Nat.le_refl _, by omega, g3⟩, ?_⟩
      clear g3
      rintro ⟨_, _⟩ h2 ⟨j', rfl, hj1, hj2, ys, A1, o, s, w, hs⟩
      dsimp only
      have hl := o.len
      have hP := w.allN hl0 hP
      rw [slices_partialInsertionSortCmpFunc_api_Point_b9_eq]
      refine condP (fun hlt => ?_) (fun hlt => b10 i' _ g1 g2 ⟨ys, A1, o, s, w, hs⟩)
      have r := o.rd s
      refine ldPT (i' := j') r rfl (by omega) ⟨⟨by omega, by omega⟩, ldPT (i' := j' - 1) r (by omega) (by omega) ?_⟩
      refine hX _ _ _ _ s.ext (hP _ (by omega)) (hP _ (by omega)) fun h5 e5 => ⟨_, rfl, ?_⟩; have s := s.grow e5
      refine condN (fun hc => b10 i' _ g1 g2 ⟨ys, A1, o, s, w, hs⟩) (fun hc => ⟨⟨by omega, by omega⟩, ⟨by omega, by omega⟩, ?_⟩)
      refine swPT (u' := j') (v' := j' - 1) o s rfl (by omega) (by omega) (by omega) fun h6 A6 o6 s6 => ?_
      rw [slices_partialInsertionSortCmpFunc_api_Point_b11_eq]
      refine ⟨⟨by omega, by omega⟩, ⟨j' + 1, by push_cast; rfl, by omega, by omega, _, A6, o6, s6, .step w (by omega) (by omega) (by omega) (by omega) (by omega), fun x y k1 k2 k3 => ?_⟩, by omega⟩
      rw [swapL_get (by omega) (by omega), swapL_get (by omega) (by omega), if_neg (by omega), if_neg (by omega), if_neg (by omega), if_neg (by omega)]
      exact hs x y k1 k2 k3
    have b5 : ∀ (i' : Nat) (h' : Hp), a' + 1 ≤ i' → i' ≤ b' → OutPT h0 p n cp a' b' xs F h' (SrtR tPt.d (fun x y : Pt => cf x y < 0) a' i') → slices_partialInsertionSortCmpFunc_api_Point_b5 p n cp a' b' cmp i' c h' NX R := by
      rintro i' h' g1 g2 ⟨ys, A1, o, s, w, hs⟩
      have hl := o.len
      rw [slices_partialInsertionSortCmpFunc_api_Point_b5_eq]
      refine condP (fun he => hRt _ ⟨ys, A1, o, s, w, by rw [show i' = b' by omega] at hs; exact hs⟩) (fun hne => ⟨⟨by omega, by omega⟩, condP (fun _ => hRf _ ⟨ys, A1, o, s, w, trivial⟩) (fun _ => ⟨⟨by omega, by omega⟩, ⟨by omega, by omega⟩, ?_⟩)⟩)
      refine swPT (u' := i') (v' := i' - 1) o s rfl (by omega) (by omega) (by omega) fun h6 A6 o6 s6 => ⟨⟨by omega, by omega⟩, ?_⟩
      have w6 : Swp tPt.d a' b' xs (swapL tPt.d ys i' (i' - 1)) := .step w (by omega) (by omega) (by omega) (by omega) (by omega)
      have hs6 : SrtR tPt.d (fun x y : Pt => cf x y < 0) a' (i' - 1) (swapL tPt.d ys i' (i' - 1)) := fun x y k1 k2 k3 => by
        rw [swapL_get (by omega) (by omega), swapL_get (by omega) (by omega), if_neg (by omega), if_neg (by omega), if_neg (by omega), if_neg (by omega)]
        exact hs x y k1 k2 (by omega)
      generalize swapL tPt.d ys i' (i' - 1) = zs at *
      clear hs w s o hl
      refine condP (fun h2 => ⟨⟨by omega, by omega⟩, ?_⟩) (fun h2 => b7 i' _ g1 g2 ⟨zs, A6, o6, s6, w6, srtR_one (by omega)⟩)
      refine ⟨fun j h2 => ∃ j' : Nat, j.1 = (j' : Int) ∧ a' ≤ j' ∧ j' ≤ i' - 1 ∧ OutPT h0 p n cp a' b' xs F h2 (InsR tPt.d (fun x y : Pt => cf x y < 0) a' j' (i' - 1)), fun j _ => j.1.toNat, ⟨i' - 1, by dsimp only; omega, by omega, by omega, zs, A6, o6, s6, w6, ins_start hs6⟩, ?_⟩
      clear hs6 w6 s6 o6 zs
      rintro ⟨_, _⟩ h2 ⟨j', rfl, hj1, hj2, ys, A1, o, s, w, hs⟩
      dsimp only
      have hl := o.len
      have hP := w.allN hl0 hP
      have fin := fun (h3 : Hp) (s : St h0 h3 (A1 + F)) (hx : a' < j' → ¬ (fun x y : Pt => cf x y < 0) (ys.getD j' tPt.d) (ys.getD (j' - 1) tPt.d)) => b7 i' h3 g1 g2 ⟨ys, A1, o, s, w, by have := ins_end ho hj1 hs hx; rwa [show i' - 1 + 1 = i' by omega] at this⟩
      rw [slices_partialInsertionSortCmpFunc_api_Point_b6_eq]
      refine condP (fun hlt => ?_) (fun hlt => fin _ s fun h => by omega)
      have r := o.rd s
      refine ldPT (i' := j') r rfl (by omega) ⟨⟨by omega, by omega⟩, ldPT (i' := j' - 1) r (by omega) (by omega) ?_⟩
      refine hX _ _ _ _ s.ext (hP _ (by omega)) (hP _ (by omega)) fun h5 e5 => ⟨_, rfl, ?_⟩; have s := s.grow e5
      refine condN (fun hc => fin _ s fun _ => hc) (fun hc => ⟨⟨by omega, by omega⟩, ⟨by omega, by omega⟩, ?_⟩)
      have hja : a' < j' := by
        rcases Nat.lt_or_ge a' j' with h | h
        · exact h
        · obtain rfl : j' = a' := by omega
          rw [w.out (k := j' - 1) (.inl (by omega))] at hc
          exact absurd hc (w.all (P := fun x => ¬ (fun x y : Pt => cf x y < 0) x (xs.getD (j' - 1) tPt.d)) (hlow (by omega)) j' (Nat.le_refl _) (by omega))
      refine swPT (u' := j') (v' := j' - 1) o s rfl (by omega) (by omega) (by omega) fun h6 A6 o6 s6 => ?_
      rw [slices_partialInsertionSortCmpFunc_api_Point_b8_eq]
      exact ⟨⟨by omega, by omega⟩, ⟨j' - 1, by omega, by omega, by omega, _, A6, o6, s6, .step w (by omega) (by omega) (by omega) (by omega) (by omega), ins_swap ho (by omega) hj2 (by omega) hs hc⟩, by omega⟩
    refine ⟨fun i h2 => ∃ i' : Nat, i.1 = (i' : Int) ∧ a' + 1 ≤ i' ∧ i' ≤ b' ∧ OutPT h0 p n cp a' b' xs F h2 (SrtR tPt.d (fun x y : Pt => cf x y < 0) a' i'), fun i _ => (b' - i.1).toNat, ⟨i0, rfl, hi01, hi02, hO⟩, ?_⟩
    clear hO
    rintro ⟨_, _⟩ h2 ⟨i', rfl, g1, g2, ys, A1, o, s, w, hs⟩
    dsimp only
    have hl := o.len
    have hP := w.allN hl0 hP
    rw [slices_partialInsertionSortCmpFunc_api_Point_b2_eq]
    refine condP (fun hlt => ?_) (fun hlt => b5 i' _ g1 g2 ⟨ys, A1, o, s, w, hs⟩)
    have r := o.rd s
    refine ldPT (i' := i') r rfl (by omega) ⟨⟨by omega, by omega⟩, ldPT (i' := i' - 1) r (by omega) (by omega) ?_⟩
    refine hX _ _ _ _ s.ext (hP _ (by omega)) (hP _ (by omega)) fun h5 e5 => ⟨_, rfl, ?_⟩; have s := s.grow e5
    refine condN (fun hc => ?_) (fun hc => b5 i' _ g1 g2 ⟨ys, A1, o, s, w, hs⟩)
    rw [slices_partialInsertionSortCmpFunc_api_Point_b4_eq]
    exact ⟨⟨by omega, by omega⟩, ⟨i' + 1, by push_cast; rfl, by omega, by omega, ys, A1, o, s, w, ins_end ho (by omega) (ins_start hs) fun _ => hc⟩, by omega⟩
  · obtain ⟨ys, A1, o, s, w, hs⟩ := hO
    rw [slices_partialInsertionSortCmpFunc_api_Point_b3_eq]
    exact hRf _ ⟨ys, A1, o, s, w, trivial⟩
end Go.Proofs.YtbfejfejahoblaaGreat
