/- Part X0 X1 X2 X3 X4 X5 B33 M3 Y1 Y2 of the proof: contracts of functions of the program, and what follows from them. -/
import Derived.Test.YtdlkohenamlnaaaGreatSxM2
/- Sorted lists of pairs, in plain lists; what layer 3 needs. -/
set_option maxRecDepth 100000
namespace Go.Proofs.YtdlkohenamlnaaaGreat
open Go Go.Sx
abbrev TI : Ty Int := tI 3
abbrev E := Int × Int
abbrev ptr (b : Nat) : Value := .pointer (some ⟨b, 0, none⟩)
theorem Blk.cellA {h : Hp} {b : Nat} {cs : List Value} {e : TypeId} (hb : Blk h b cs e) (o : Nat) : cell h ((⟨b, 0, none⟩ : Addr).add o) = cs[o]? := by rw [add_mk, Nat.zero_add]; exact hb.cell o
abbrev Srt (l : List E) : Prop := l.Pairwise fun a b => a.1 < b.1
theorem Srt.app {a b : List E} : Srt (a ++ b) ↔ Srt a ∧ Srt b ∧ ∀ x ∈ a, ∀ y ∈ b, x.1 < y.1 := List.pairwise_append
theorem Srt.con {a : E} {b : List E} : Srt (a :: b) ↔ (∀ y ∈ b, a.1 < y.1) ∧ Srt b := List.pairwise_cons
def hasKey : List E → Int → Bool
  | [], _ => false
  | e :: _, key => decide (e.1 = key)
theorem key_gt {es : List E} {key : Int} (hs : Srt es) (hk : ∀ e ∈ es, key ≤ e.1) (hn : hasKey es key = false) : ∀ e ∈ es, key < e.1 := by
  cases es with
  | nil => simp
  | cons e es =>
    rw [Srt.con] at hs
    have h1 : e.1 ≠ key := by simpa [hasKey] using hn
    have h2 := hk e (by simp)
    intro x hx
    rcases List.mem_cons.1 hx with rfl | h
    · omega
    · have := hs.1 x h; omega
def lowS (xs : List E) (key : Int) : List E := xs.takeWhile fun e => decide (e.1 < key)
def upS (xs : List E) (key : Int) : List E := xs.dropWhile fun e => decide (e.1 < key)
theorem cut_uniq {X Y : List E} {key : Int} (hx : ∀ x ∈ X, x.1 < key) (hy : ∀ y ∈ Y, key ≤ y.1) : lowS (X ++ Y) key = X ∧ upS (X ++ Y) key = Y := by
  have h1 : ∀ x ∈ X, decide (x.1 < key) = true := fun x h => decide_eq_true (hx x h)
  have h2 : Y.takeWhile (fun e => decide (e.1 < key)) = [] ∧ Y.dropWhile (fun e => decide (e.1 < key)) = Y := by
    cases Y with
    | nil => exact ⟨rfl, rfl⟩
    | cons y Y =>
      have : ¬ y.1 < key := by have := hy y (by simp); omega
      simp [this]
  constructor
  · rw [lowS, List.takeWhile_append_of_pos h1, h2.1, List.append_nil]
  · rw [upS, List.dropWhile_append_of_pos h1, h2.2]
def valOf : List E → Int | [] => 0 | e :: _ => e.2
theorem cut_eq {X Y : List E} {key : Int} {xs : List E} (h : xs = X ++ Y) (hx : ∀ x ∈ X, x.1 < key) (hy : ∀ y ∈ Y, key ≤ y.1) : X = lowS xs key ∧ Y = upS xs key := by
  subst h
  exact ⟨(cut_uniq hx hy).1.symm, (cut_uniq hx hy).2.symm⟩
theorem upS_len {xs : List E} {key : Int} : xs = lowS xs key ++ upS xs key := (List.takeWhile_append_dropWhile).symm
def lastOf (l : List E) : Int × Int × Bool := match l.getLast? with | none => (0, 0, false) | some e => (e.1, e.2, true)
def headOf (l : List E) : Int × Int × Bool := match l with | [] => (0, 0, false) | e :: _ => (e.1, e.2, true)
theorem low_lt {xs : List E} {key : Int} : ∀ e ∈ lowS xs key, e.1 < key := fun e he => of_decide_eq_true (List.all_eq_true.1 List.all_takeWhile e he)
theorem low_sub {xs : List E} {key : Int} : (lowS xs key).Sublist xs := List.takeWhile_sublist _
theorem up_sub {xs : List E} {key : Int} : (upS xs key).Sublist xs := List.dropWhile_sublist _
theorem up_ge {xs : List E} {key : Int} (hs : Srt xs) : ∀ e ∈ upS xs key, key ≤ e.1 := by
  have h1 : Srt (upS xs key) := hs.sublist up_sub
  intro e he
  cases h : upS xs key with
  | nil => rw [h] at he; cases he
  | cons y ys =>
    have hy : ¬ y.1 < key := by
      have := List.head?_dropWhile_not (p := fun e : E => decide (e.1 < key)) xs
      rw [show xs.dropWhile (fun e => decide (e.1 < key)) = y :: ys from h] at this
      simpa using this
    rw [h] at he h1
    rcases List.mem_cons.1 he with rfl | he
    · omega
    · have := (Srt.con.1 h1).1 e he; omega
theorem low_len {xs : List E} {key : Int} : (lowS xs key).length ≤ xs.length := low_sub.length_le
theorem take_eq_of {α : Type} {xs X Y : List α} (h : xs = X ++ Y) : xs.take X.length = X ∧ xs.drop X.length = Y := by subst h; exact ⟨List.take_left' rfl, List.drop_left' rfl⟩
theorem low_take {xs : List E} {key : Int} : xs.take (lowS xs key).length = lowS xs key := (take_eq_of upS_len).1
theorem up_drop {xs : List E} {key : Int} : xs.drop (lowS xs key).length = upS xs key := (take_eq_of upS_len).2
theorem up_head {xs : List E} {key : Int} (h : hasKey (upS xs key) key = true) : (lowS xs key).length < xs.length ∧ xs.getD (lowS xs key).length (0, 0) = (key, valOf (upS xs key)) ∧ xs.drop ((lowS xs key).length + 1) = (upS xs key).tail := by
  have hu := up_drop (xs := xs) (key := key)
  cases hc : upS xs key with
  | nil => rw [hc] at h; cases h
  | cons e es =>
    rw [hc] at h hu
    have hk : e.1 = key := of_decide_eq_true h
    have hlt : (lowS xs key).length < xs.length := by
      rcases Nat.lt_or_ge (lowS xs key).length xs.length with h | h
      · exact h
      · rw [List.drop_of_length_le h] at hu; cases hu
    rw [List.drop_eq_getElem_cons hlt] at hu
    injection hu with h1 h2
    refine ⟨hlt, ?_, h2⟩
    have : xs.getD (lowS xs key).length (0, 0) = xs[(lowS xs key).length] := by simp [List.getD, hlt]
    rw [this, h1]
    show e = (key, e.2)
    rw [← hk]
theorem last_getD {xs : List E} {key : Int} (h : 0 < (lowS xs key).length) : (lastOf (lowS xs key)).1 = (xs.getD ((lowS xs key).length - 1) (0, 0)).1 ∧ (lastOf (lowS xs key)).2.1 = (xs.getD ((lowS xs key).length - 1) (0, 0)).2 ∧ (lastOf (lowS xs key)).2.2 = true := by
  have hl := low_len (xs := xs) (key := key)
  have h1 : xs.getD ((lowS xs key).length - 1) (0, 0) = (lowS xs key).getD ((lowS xs key).length - 1) (0, 0) := by
    have : ∀ {X Y : List E}, xs = X ++ Y → 0 < X.length → xs.getD (X.length - 1) (0, 0) = X.getD (X.length - 1) (0, 0) := by
      rintro X Y rfl hX
      simp [List.getD, List.getElem?_append, Nat.sub_lt hX]
    exact this upS_len h
  rw [h1]
  have hlast : (lowS xs key).getLast? = some ((lowS xs key).getD ((lowS xs key).length - 1) (0, 0)) := by
    rw [List.getLast?_eq_getElem?, List.getElem?_eq_getElem (by omega)]
    simp [List.getD, (show (lowS xs key).length - 1 < (lowS xs key).length by omega)]
  simp only [lastOf, hlast]
  exact ⟨trivial, trivial, trivial⟩
theorem take_one {l : List E} {i : Nat} (h : i < l.length) : l.take (i + 1) = l.take i ++ [l.getD i (0, 0)] := by
  rw [List.take_succ_eq_append_getElem h]; simp [List.getD, h]
theorem srt_ins {X Y : List E} {key v : Int} (hX : Srt X) (hY : Srt Y) (h1 : ∀ e ∈ X, e.1 < key) (h2 : ∀ e ∈ Y, key < e.1) : Srt (X ++ (key, v) :: Y) := by
  rw [Srt.app, Srt.con]
  refine ⟨hX, ⟨h2, hY⟩, fun x hx y hy => ?_⟩
  rcases List.mem_cons.1 hy with rfl | hy
  · exact h1 x hx
  · exact Int.lt_trans (h1 x hx) (h2 y hy)
theorem up_tail_gt {xs : List E} {key : Int} (hs : Srt xs) (hk : hasKey (upS xs key) key = true) : ∀ e ∈ (upS xs key).tail, key < e.1 := by
  have h1 : Srt (upS xs key) := hs.sublist up_sub
  cases h : upS xs key with
  | nil => simp
  | cons y ys =>
    rw [h] at h1 hk
    have hy : y.1 = key := of_decide_eq_true hk
    intro e he
    have := (Srt.con.1 h1).1 e he
    omega
theorem SameList_ok {h : Hp} {p q : Option Addr} {n m c d : Nat} {xs ys : List Int} (r1 : RdT TI h p n xs) (r2 : RdT TI h q m ys) (hn : n ≤ 1000000000) :
    HCalls Tryz.prog 83 #[.slice p n c, .slice q m d] h (fun v h' => h' = h ∧ v = .bool (decide (xs = ys))) := by
  have l1 := r1.len
  have l2 := r2.len
  refine r03_SameList_call ?_
  rw [r03_SameList_b0_eq]
  refine condN (fun hl => ?_) (fun hl => ?_)
  · exact ⟨rfl, by rw [decide_eq_false (fun h => hl (by subst h; omega))]⟩
  refine ⟨fun x h' => h' = h ∧ ∃ i : Nat, x.1 = i ∧ i ≤ n ∧ ∀ j, j < i → xs.getD j 0 = ys.getD j 0, fun x _ => n - x.1.toNat, ⟨rfl, 0, rfl, by omega, fun j hj => by omega⟩, ?_⟩
  rintro ⟨_, _⟩ h1 ⟨rfl, i, rfl, hin, heq⟩
  dsimp only
  rw [r03_SameList_b1_eq]
  refine condP (fun hlt => ?_) (fun hge => ?_)
  · refine r1.int (by omega) (by omega) (r2.int (by omega) (by omega) ?_)
    rw [Int.toNat_natCast]
    refine condN (fun hne => ?_) (fun he => ?_)
    · exact ⟨rfl, by rw [decide_eq_false (fun h => hne (by rw [h]))]⟩
    · rw [r03_SameList_b2_eq]
      refine ⟨⟨by omega, by omega⟩, ⟨rfl, i + 1, by simp only; omega, by omega, fun j hj => ?_⟩, by simp only; omega⟩
      rcases Nat.lt_or_ge j i with h1 | h1
      · exact heq j h1
      · obtain rfl : j = i := by omega
        exact he
  · rw [r03_SameList_b3_eq]
    exact ⟨rfl, by rw [decide_eq_true (list_eq_of (d := 0) (by omega) (fun t ht => heq t (by omega)))]⟩
/-- A slice that stays as it is while these blocks are there. -/
def RdS {α : Type} (h0 : Hp) (G : Bag) (T : Ty α) (p : Option Addr) (n : Nat) (xs : List α) : Prop := ∀ h' B, St h0 h' (B + G) → RdT T h' p n xs
theorem RdS.old {α : Type} {h0 : Hp} {G : Bag} {T : Ty α} {p : Option Addr} {n : Nat} {xs : List α} (r : RdT T h0 p n xs) : RdS h0 G T p n xs := fun _ _ s => r.ext s.ext
theorem RdS.own {α : Type} {h0 : Hp} {A G : Bag} {T : Ty α} {p : Option Addr} {n c : Nat} {xs : List α} (a : Sl T p n c xs A) : RdS h0 (A + G) T p n xs := fun _ B s => a.rd (s.to (B := A + (B + G)))
end Go.Proofs.YtdlkohenamlnaaaGreat

/- Layer 3: which operations are valid. -/
set_option maxRecDepth 100000
namespace Go.Proofs.YtdlkohenamlnaaaGreat
open Go Go.Sx
theorem int_index_ok {g : Nat} {q : Int → Bool} (hX : ∀ (z : Int) (h : Hp) (K : Value → Hp → Prop), K (.bool (q z)) h → callX Tryz.prog F g #[.int .i64 z] h K) {h : Hp} {p : Option Addr} {n c : Nat} {zs : List Int} (r : RdT TI h p n zs) (hn : n ≤ 1000000) :
    HCalls Tryz.prog 105 #[.slice p n c, .func (.func g) #[] #[]] h (fun v h' => h' = h ∧ v = .bool (zs.any q)) := by
  have hzl := r.len
  refine slices_ContainsFunc_Sint_int_call ?_
  rw [slices_ContainsFunc_Sint_int_b0_eq]
  refine slices_IndexFunc_Sint_int_call ?_
  rw [slices_IndexFunc_Sint_int_b0_eq]
  refine ⟨fun s h' => h' = h ∧ ∃ i : Nat, s.1 = i ∧ i ≤ n ∧ (zs.take i).any q = false, fun s _ => n - s.1.toNat, ⟨rfl, 0, rfl, by omega, rfl⟩, ?_⟩
  rintro ⟨_, _⟩ h1 ⟨rfl, i, rfl, hin, hno⟩
  dsimp only
  rw [slices_IndexFunc_Sint_int_b1_eq]
  refine condP (fun hlt => ?_) (fun hge => ?_)
  · refine r.int (by omega) (by omega) ?_
    rw [Int.toNat_natCast]
    refine hX _ _ _ ⟨_, rfl, ?_⟩
    have hil : i < zs.length := by omega
    have hg : zs.getD i 0 = zs[i] := by simp [List.getD, hil]
    refine cond_intro (fun h3 => ?_) (fun h3 => ?_)
    · refine ⟨_, rfl, rfl, ?_⟩
      rw [decide_eq_true (by omega), List.any_eq_true.2 ⟨_, List.getElem_mem hil, by rw [← hg]; exact h3⟩]
    · rw [slices_IndexFunc_Sint_int_b2_eq]
      refine ⟨⟨by omega, by omega⟩, ⟨rfl, i + 1, by simp only; omega, by omega, ?_⟩, by simp only; omega⟩
      rw [List.take_succ_eq_append_getElem hil, List.any_append, hno, ← hg]
      show (false || (q (zs.getD i 0) || false)) = false
      rw [h3]
      rfl
  · rw [slices_IndexFunc_Sint_int_b3_eq]
    refine ⟨_, rfl, rfl, ?_⟩
    rw [List.take_of_length_le (by omega)] at hno
    rw [hno]
    rfl
abbrev ChP (z : Int) : Prop := 0 ≤ z ∧ z ≤ 255
instance (z : Int) : Decidable (ChP z) := inferInstanceAs (Decidable (_ ∧ _))
abbrev W3 := ByteArray × Int × Bool
abbrev tW : Ty W3 := ⟨143, 3, fun w => [.string w.1, .int .i64 w.2.1, .bool w.2.2], (⟨#[]⟩, 0, false), fun _ => rfl, by decide, fun _ v hv => by simp at hv; rcases hv with rfl | rfl | rfl <;> rfl⟩
def wd1 : List W3 := [(⟨#[112, 117, 116]⟩, 2, true), (⟨#[103, 101, 116]⟩, 1, false), (⟨#[114, 101, 109, 111, 118, 101]⟩, 1, true), (⟨#[102, 108, 111, 111, 114]⟩, 1, false), (⟨#[99, 101, 105, 108, 105, 110, 103]⟩, 1, false), (⟨#[114, 97, 110, 107]⟩, 1, false), (⟨#[115, 101, 108, 101, 99, 116]⟩, 1, false), (⟨#[115, 105, 122, 101]⟩, 0, false)]
def wd2 : List W3 := [(⟨#[105, 110, 115, 101, 114, 116]⟩, 1, true), (⟨#[109, 105, 110]⟩, 0, false), (⟨#[100, 101, 108, 101, 116, 101, 109, 105, 110]⟩, 0, true), (⟨#[115, 105, 122, 101]⟩, 0, false)]
def wd3 : List W3 := [(⟨#[105, 110, 115, 101, 114, 116]⟩, 2, true), (⟨#[114, 101, 109, 111, 118, 101]⟩, 1, true), (⟨#[103, 101, 116]⟩, 1, false), (⟨#[115, 101, 116]⟩, 2, true), (⟨#[115, 117, 109]⟩, 2, false), (⟨#[114, 101, 118, 101, 114, 115, 101]⟩, 2, true), (⟨#[115, 105, 122, 101]⟩, 0, false)]
def wd4 : List W3 := [(⟨#[109, 97, 107, 101]⟩, 0, true), (⟨#[117, 110, 105, 111, 110]⟩, 2, true), (⟨#[115, 97, 109, 101]⟩, 2, false), (⟨#[115, 105, 122, 101]⟩, 1, false), (⟨#[99, 111, 117, 110, 116]⟩, 0, false)]
def wd5 : List W3 := [(⟨#[97, 100, 100]⟩, 3, true), (⟨#[114, 101, 109, 111, 118, 101]⟩, 2, true), (⟨#[99, 111, 117, 110, 116]⟩, 4, false), (⟨#[115, 117, 109]⟩, 4, false), (⟨#[115, 105, 122, 101]⟩, 0, false)]
def wd6 : List W3 := [(⟨#[97, 112, 112, 101, 110, 100]⟩, (-1), true), (⟨#[99, 111, 117, 110, 116]⟩, (-1), false), (⟨#[102, 105, 110, 100]⟩, (-1), false), (⟨#[115, 105, 122, 101]⟩, 0, false)]
def ar1 : List Int := [2, 1, 1, 1, 1, 1, 1, 0]
def ar2 : List Int := [1, 0, 0, 0]
def ar3 : List Int := [2, 1, 1, 2, 2, 2, 0]
def ar4 : List Int := [0, 2, 2, 1, 0]
def ar5 : List Int := [3, 2, 4, 4, 0]
def ar6 : List Int := [(-1), (-1), (-1), 0]
/-- The arities of a kind of structure, by its operation. -/
def arT (k : Int) : List Int := if k = 1 then ar1 else if k = 2 then ar2 else if k = 3 then ar3 else if k = 4 then ar4 else if k = 5 then ar5 else if k = 6 then ar6 else []
def wdT (k : Int) : List W3 := if k = 1 then wd1 else if k = 2 then wd2 else if k = 3 then wd3 else if k = 4 then wd4 else if k = 5 then wd5 else if k = 6 then wd6 else []
theorem wd_ar (k : Int) : (wdT k).map (fun w => w.2.1) = arT k := by
  unfold wdT arT
  repeat' split
  all_goals rfl
theorem words_ok (k : Int) (h : Hp) : HCalls Tryz.prog 90 #[.int .i64 k] h (fun v h' => ∃ p c, v = .slice p (wdT k).length c ∧ RdT tW h' p (wdT k).length (wdT k) ∧ Ext h h') := by
  refine model_words_call ?_
  rw [model_words_b0_eq]
  unfold wdT
  refine condP (fun hk => ?_) (fun hk1 => ?_)
  · rw [if_pos hk]
    refine (St.start h).new (cs := tW.cells wd1) fun b1 h1 x1 s1 => ?_
    exact ⟨_, _, rfl, (Sl.of_blk (T := tW) (xs := wd1) rfl rfl).rd s1, x1⟩
  rw [if_neg hk1]
  refine condP (fun hk => ?_) (fun hk2 => ?_)
  · rw [if_pos hk]
    refine (St.start h).new (cs := tW.cells wd2) fun b1 h1 x1 s1 => ?_
    exact ⟨_, _, rfl, (Sl.of_blk (T := tW) (xs := wd2) rfl rfl).rd s1, x1⟩
  rw [if_neg hk2]
  refine condP (fun hk => ?_) (fun hk3 => ?_)
  · rw [if_pos hk]
    refine (St.start h).new (cs := tW.cells wd3) fun b1 h1 x1 s1 => ?_
    exact ⟨_, _, rfl, (Sl.of_blk (T := tW) (xs := wd3) rfl rfl).rd s1, x1⟩
  rw [if_neg hk3]
  refine condP (fun hk => ?_) (fun hk4 => ?_)
  · rw [if_pos hk]
    refine (St.start h).new (cs := tW.cells wd4) fun b1 h1 x1 s1 => ?_
    exact ⟨_, _, rfl, (Sl.of_blk (T := tW) (xs := wd4) rfl rfl).rd s1, x1⟩
  rw [if_neg hk4]
  refine condP (fun hk => ?_) (fun hk5 => ?_)
  · rw [if_pos hk]
    refine (St.start h).new (cs := tW.cells wd5) fun b1 h1 x1 s1 => ?_
    exact ⟨_, _, rfl, (Sl.of_blk (T := tW) (xs := wd5) rfl rfl).rd s1, x1⟩
  rw [if_neg hk5]
  refine condP (fun hk => ?_) (fun hk6 => ?_)
  · rw [if_pos hk]
    refine (St.start h).new (cs := tW.cells wd6) fun b1 h1 x1 s1 => ?_
    exact ⟨_, _, rfl, (Sl.of_blk (T := tW) (xs := wd6) rfl rfl).rd s1, x1⟩
  rw [if_neg hk6]
  rw [model_words_b1_eq]
  exact ⟨_, _, rfl, RdT.nil _ _, Ext.refl h⟩
theorem r_words_ok (k : Int) (h : Hp) : HCalls Tryz.prog 73 #[.int .i64 k] h (fun v h' => ∃ p c, v = .slice p (arT k).length c ∧ Ext h h') := by
  refine r03_Words_call ?_
  rw [r03_Words_b0_eq]
  unfold arT
  refine condP (fun hk => ?_) (fun hk1 => ?_)
  · rw [if_pos hk]
    exact New_intro fun b1 h1 _ x1 _ _ => ⟨_, _, rfl, x1⟩
  rw [if_neg hk1]
  refine condP (fun hk => ?_) (fun hk2 => ?_)
  · rw [if_pos hk]
    exact New_intro fun b1 h1 _ x1 _ _ => ⟨_, _, rfl, x1⟩
  rw [if_neg hk2]
  refine condP (fun hk => ?_) (fun hk3 => ?_)
  · rw [if_pos hk]
    exact New_intro fun b1 h1 _ x1 _ _ => ⟨_, _, rfl, x1⟩
  rw [if_neg hk3]
  refine condP (fun hk => ?_) (fun hk4 => ?_)
  · rw [if_pos hk]
    exact New_intro fun b1 h1 _ x1 _ _ => ⟨_, _, rfl, x1⟩
  rw [if_neg hk4]
  refine condP (fun hk => ?_) (fun hk5 => ?_)
  · rw [if_pos hk]
    exact New_intro fun b1 h1 _ x1 _ _ => ⟨_, _, rfl, x1⟩
  rw [if_neg hk5]
  refine condP (fun hk => ?_) (fun hk6 => ?_)
  · rw [if_pos hk]
    exact New_intro fun b1 h1 _ x1 _ _ => ⟨_, _, rfl, x1⟩
  rw [if_neg hk6]
  rw [r03_Words_b1_eq]
  exact ⟨_, _, rfl, Ext.refl h⟩
theorem arity_ok {k c : Int} (h : Hp) (hk : 1 ≤ k ∧ k ≤ 6) (hc : 1 ≤ c ∧ c ≤ (arT k).length) : HCalls Tryz.prog 74 #[.int .i64 k, .int .i64 c] h (fun v h' => v = .int .i64 ((arT k).getD (c - 1).toNat 0) ∧ Ext h h') := by
  refine r03_Arity_call ?_
  rw [r03_Arity_b0_eq]
  have rd : ∀ {xs : List Int} {b : Nat} {h' : Hp}, St h h' (cA b (TI.cells xs) 3 + 0) → (xs.length ≤ 100 ∧ 1 ≤ c ∧ c ≤ (xs.length : Int)) → InR (c - 1) ∧ (0 ≤ c - 1 ∧ c - 1 < ((xs.length : Nat) : Int)) ∧ ∃ n1 : Int, cell h' ((⟨b, 0, none⟩ : Addr).add (Int.toNat (c - 1) * 1)) = some (.int .i64 n1) ∧ (Value.int .i64 n1 = .int .i64 (xs.getD (c - 1).toNat 0) ∧ Ext h h') := by
    intro xs b h' s hc
    have := s.ext
    refine ⟨⟨by omega, by omega⟩, ⟨by omega, by omega⟩, ?_⟩
    obtain ⟨a, ha, hcell⟩ := ((Sl.of_blk (T := TI) (xs := xs) rfl rfl).rd s).at_ (i := (c - 1).toNat) (by omega)
    cases ha
    exact ⟨_, hcell 0 Nat.one_pos, rfl, s.ext⟩
  refine condP (fun e => ?_) (fun hk1 => ?_)
  · subst e
    exact (St.start h).new (cs := TI.cells ar1) fun b1 h1 _ s1 => rd (xs := ar1) s1 ⟨by decide, hc⟩
  refine condP (fun e => ?_) (fun hk2 => ?_)
  · subst e
    exact (St.start h).new (cs := TI.cells ar2) fun b1 h1 _ s1 => rd (xs := ar2) s1 ⟨by decide, hc⟩
  refine condP (fun e => ?_) (fun hk3 => ?_)
  · subst e
    exact (St.start h).new (cs := TI.cells ar3) fun b1 h1 _ s1 => rd (xs := ar3) s1 ⟨by decide, hc⟩
  refine condP (fun e => ?_) (fun hk4 => ?_)
  · subst e
    exact (St.start h).new (cs := TI.cells ar4) fun b1 h1 _ s1 => rd (xs := ar4) s1 ⟨by decide, hc⟩
  refine condP (fun e => ?_) (fun hk5 => ?_)
  · subst e
    exact (St.start h).new (cs := TI.cells ar5) fun b1 h1 _ s1 => rd (xs := ar5) s1 ⟨by decide, hc⟩
  obtain rfl : k = 6 := by omega
  rw [r03_Arity_b1_eq]
  exact (St.start h).new (cs := TI.cells ar6) fun b1 h1 _ s1 => rd (xs := ar6) s1 ⟨by decide, hc⟩
/-- A valid operation of a kind of structure. -/
def OpV (k c : Int) (zs : List Int) : Prop := (1 ≤ c ∧ c ≤ (arT k).length) ∧ (if (arT k).getD (c - 1).toNat 0 < 0 then (1 ≤ zs.length ∧ zs.length ≤ 64) ∧ ∀ z ∈ zs, ChP z else (zs.length : Int) = (arT k).getD (c - 1).toNat 0 ∧ ∀ z ∈ zs, KeyP z)
instance (k c : Int) (zs : List Int) : Decidable (OpV k c zs) := by unfold OpV; infer_instance
end Go.Proofs.YtdlkohenamlnaaaGreat

/- Layer 3: the two judges of an operation. -/
set_option maxRecDepth 100000
namespace Go.Proofs.YtdlkohenamlnaaaGreat
open Go Go.Sx
theorem char_ok (z : Int) (h : Hp) : HCalls Tryz.prog 107 #[.int .i64 z] h (fun v h' => v = .bool (decide (ChP z)) ∧ h' = h) := by
  refine model_character_call ?_
  rw [model_character_b0_eq]
  refine condP (fun h1 => ⟨?_, rfl⟩) (fun h1 => ⟨?_, rfl⟩)
  · congr 1; exact decide_eq_decide.2 ⟨fun h2 => ⟨h1, h2⟩, fun h2 => h2.2⟩
  · rw [decide_eq_false (fun h2 => h1 h2.1)]
theorem numb_ok (z : Int) (h : Hp) : HCalls Tryz.prog 109 #[.int .i64 z] h (fun v h' => v = .bool (decide (KeyP z)) ∧ h' = h) := by
  refine model_number_call ?_
  rw [model_number_b0_eq]
  refine condP (fun h1 => ⟨?_, rfl⟩) (fun h1 => ⟨?_, rfl⟩)
  · congr 1; exact decide_eq_decide.2 ⟨fun h2 => ⟨h1, h2⟩, fun h2 => h2.2⟩
  · rw [decide_eq_false (fun h2 => h1 h2.1)]
theorem rkey_ok (z : Int) (h : Hp) : HCalls Tryz.prog 75 #[.int .i64 z] h (fun v h' => v = .bool (decide (KeyP z)) ∧ h' = h) := by
  refine r03_key_call ?_
  rw [r03_key_b0_eq]
  refine condP (fun h1 => ⟨?_, rfl⟩) (fun h1 => ⟨?_, rfl⟩)
  · congr 1; exact decide_eq_decide.2 ⟨fun h2 => ⟨h1, h2⟩, fun h2 => h2.2⟩
  · rw [decide_eq_false (fun h2 => h1 h2.1)]
theorem char_x (z : Int) (h : Hp) (K : Value → Hp → Prop) (hk : K (.bool (!decide (ChP z))) h) : callX Tryz.prog F 106 #[.int .i64 z] h K := by
  refine callX_of (by kernel_rfl) (model_ValidOp_c1_call ?_)
  rw [model_ValidOp_c1_b0_eq]
  exact (char_ok z h).mono fun v h' ⟨hv, hh⟩ => ⟨_, hv, by rw [hh]; exact hk⟩
theorem numb_x (z : Int) (h : Hp) (K : Value → Hp → Prop) (hk : K (.bool (!decide (KeyP z))) h) : callX Tryz.prog F 108 #[.int .i64 z] h K := by
  refine callX_of (by kernel_rfl) (model_ValidOp_c2_call ?_)
  rw [model_ValidOp_c2_b0_eq]
  exact (numb_ok z h).mono fun v h' ⟨hv, hh⟩ => ⟨_, hv, by rw [hh]; exact hk⟩
theorem any_not {P : Int → Prop} [DecidablePred P] {zs : List Int} : (!zs.any fun z => !decide (P z)) = decide (∀ z ∈ zs, P z) := by
  induction zs with
  | nil => rfl
  | cons z zs ih =>
    rw [List.any_cons, Bool.not_or, ih, Bool.not_not]
    by_cases h1 : P z <;> by_cases h2 : ∀ z ∈ zs, P z <;> simp [h1, h2]
theorem word_load {h : Hp} {p : Option Addr} {n : Nat} {l : List W3} {i : Int} {Q : ByteArray → Int → Bool → Prop} (r : RdT tW h p n l) (h0 : 0 ≤ i) (h1 : i < n) (hq : Q (l.getD i.toNat tW.d).1 (l.getD i.toNat tW.d).2.1 (l.getD i.toNat tW.d).2.2) :
    (0 ≤ i ∧ i < (n : Int)) ∧ NN p fun a => ∃ x : ByteArray, ∃ y : Int, ∃ z : Bool, cell h (a.add (Int.toNat i * 3)) = some (.string x) ∧ cell h ((a.add (Int.toNat i * 3)).add 1) = some (.int .i64 y) ∧ cell h ((a.add (Int.toNat i * 3)).add 2) = some (.bool z) ∧ Q x y z :=
  r.idx h0 h1 fun _ _ hc => ⟨_, _, _, hc 0 (show 0 < 3 by decide), hc 1 (show 1 < 3 by decide), hc 2 (show 2 < 3 by decide), hq⟩
theorem wd_len (k : Int) : (wdT k).length = (arT k).length := by rw [← wd_ar, List.length_map]
theorem wd_get (k : Int) (i : Nat) : ((wdT k).getD i tW.d).2.1 = (arT k).getD i 0 := by
  rw [← wd_ar]
  simp only [List.getD, List.getElem?_map]
  cases (wdT k)[i]? <;> rfl
theorem arT_le (k : Int) (j : Nat) : (arT k).getD j 0 ≤ 4 := by
  have h : ∀ x ∈ arT k, x ≤ 4 := by
    unfold arT
    repeat' split
    all_goals decide
  rw [List.getD_eq_getElem?_getD]
  cases hj : (arT k)[j]? with
  | none => simp
  | some x => exact h x (List.mem_of_getElem? hj)
theorem mValid' {k c : Int} {zs : List Int} {h : Hp} {p : Option Addr} {n cc : Nat} (r : RdT TI h p n zs) :
    HCalls Tryz.prog 71 #[.int .i64 k, .agg #[.int .i64 c, .slice p n cc]] h (fun v h' => v = .bool (decide (OpV k c zs)) ∧ Ext h h') := by
  have hzl := r.len
  refine model_ValidOp_call ?_
  rw [model_ValidOp_b0_eq]
  refine (St.start h).new (cs := [.int .i64 c, .slice p n cc]) fun b1 h1 x1 s1 => ?_
  refine (words_ok k h1).mono fun v1 h2 ⟨q, d, hv1, rw1, x2⟩ => ⟨_, _, _, hv1, ?_⟩
  have s2 := s1.grow x2
  have kb := s2.blk
  have hx2 : Ext h h2 := x1.trans x2
  have hwl := wd_len k
  refine ⟨_, kb.cell 0, condP (fun hc => ?_) (fun hc => ⟨_, kb.cell 0, condP (fun hc2 => ?_) (fun hc2 => ?_)⟩)⟩
  · exact ⟨by rw [decide_eq_false (fun h => by have := h.1; omega)], hx2⟩
  · exact ⟨by rw [decide_eq_false (fun h => by have := h.1; omega)], hx2⟩
  have hlen8 : (arT k).length ≤ 8 := by unfold arT; repeat' split
                                        all_goals decide
  rw [model_ValidOp_b1_eq]
  refine ⟨_, kb.cell 0, ⟨by omega, by omega⟩, word_load rw1 (by omega) (by omega) ?_⟩
  rw [wd_get]
  generalize ha : (arT k).getD (c - 1).toNat 0 = a
  refine s2.new (cs := [.string ⟨#[]⟩, .int .i64 0, .bool false]) fun b3 h3 _ s3 => ?_
  refine s3.wr rfl (by simp) fun h4 s4 => ?_
  refine s4.wr (o := 1) (add_mk _ _ _) (by simp) fun h5 s5 => ?_
  refine s5.wr (o := 2) (add_mk _ _ _) (by simp) fun h6 s6 => ?_
  have x6 : Ext h h6 := s6.ext
  have kb6 := s6.drop.blk
  have r6 := r.ext x6
  refine ⟨_, Blk.cellA s6.blk 1, condP (fun hneg => ?_) (fun hneg => ?_)⟩
  · have hiff : OpV k c zs ↔ (1 ≤ zs.length ∧ zs.length ≤ 64) ∧ ∀ z ∈ zs, ChP z := by
      unfold OpV
      rw [ha, if_pos hneg]
      exact ⟨fun h => h.2, fun h => ⟨⟨by omega, by omega⟩, h⟩⟩
    refine ⟨_, _, _, Blk.cellA kb6 1, condP (fun h1 => ?_) (fun h1 => ?_)⟩
    · refine ⟨_, _, _, Blk.cellA kb6 1, condP (fun h2 => ?_) (fun h2 => ?_)⟩
      · refine ⟨_, _, _, Blk.cellA kb6 1, (int_index_ok char_x r6 (by omega)).mono fun v2 h7 ⟨hh7, hv2⟩ => ⟨_, hv2, ?_, ?_⟩⟩
        · rw [any_not]
          congr 1
          exact decide_eq_decide.2 (by rw [hiff]; exact ⟨fun h => ⟨⟨by omega, by omega⟩, h⟩, fun h => h.2⟩)
        · rw [hh7]; exact x6
      · exact ⟨by rw [decide_eq_false (fun h => by have := (hiff.1 h).1; omega)], x6⟩
    · exact ⟨by rw [decide_eq_false (fun h => by have := (hiff.1 h).1; omega)], x6⟩
  · have hiff : OpV k c zs ↔ (zs.length : Int) = a ∧ ∀ z ∈ zs, KeyP z := by
      unfold OpV
      rw [ha, if_neg hneg]
      exact ⟨fun h => h.2, fun h => ⟨⟨by omega, by omega⟩, h⟩⟩
    refine ⟨_, _, _, Blk.cellA kb6 1, _, Blk.cellA s6.blk 1, condP (fun h1 => ?_) (fun h1 => ?_)⟩
    · refine ⟨_, _, _, Blk.cellA kb6 1, (int_index_ok numb_x r6 (by have := arT_le k (c - 1).toNat; omega)).mono fun v2 h7 ⟨hh7, hv2⟩ => ⟨_, hv2, ?_, ?_⟩⟩
      · rw [any_not]
        congr 1
        exact decide_eq_decide.2 (by rw [hiff]; exact ⟨fun h => ⟨by omega, h⟩, fun h => h.2⟩)
      · rw [hh7]; exact x6
    · exact ⟨by rw [decide_eq_false (fun h => by have := (hiff.1 h).1; omega)], x6⟩
theorem mValid_ok {k c : Int} {zs : List Int} {h : Hp} {p : Option Addr} {n cc : Nat} (r : RdT TI h p n zs) (_ : n ≤ 1000000) :
    HCalls Tryz.prog 71 #[.int .i64 k, .agg #[.int .i64 c, .slice p n cc]] h (fun v h' => v = .bool (decide (OpV k c zs)) ∧ Ext h h') := mValid' r
theorem arT_fact {k c : Int} (hk : 1 ≤ k ∧ k ≤ 6) (hc : 1 ≤ c ∧ c ≤ (arT k).length) : (k = 6 → (arT k).getD (c - 1).toNat 0 ≤ 0) ∧ (k ≠ 6 → 0 ≤ (arT k).getD (c - 1).toNat 0) ∧ (arT k).getD (c - 1).toNat 0 ≤ 4 := by
  have hlen8 : (arT k).length ≤ 8 := by unfold arT; repeat' split
                                        all_goals decide
  generalize hj : (c - 1).toNat = j
  have hj8 : j < 8 := by omega
  have hk' : k = 1 ∨ k = 2 ∨ k = 3 ∨ k = 4 ∨ k = 5 ∨ k = 6 := by omega
  rcases hk' with rfl | rfl | rfl | rfl | rfl | rfl
  · exact ⟨fun h => by omega, fun _ => (by decide : ∀ j < 8, 0 ≤ (arT 1).getD j 0) j hj8, (by decide : ∀ j < 8, (arT 1).getD j 0 ≤ 4) j hj8⟩
  · exact ⟨fun h => by omega, fun _ => (by decide : ∀ j < 8, 0 ≤ (arT 2).getD j 0) j hj8, (by decide : ∀ j < 8, (arT 2).getD j 0 ≤ 4) j hj8⟩
  · exact ⟨fun h => by omega, fun _ => (by decide : ∀ j < 8, 0 ≤ (arT 3).getD j 0) j hj8, (by decide : ∀ j < 8, (arT 3).getD j 0 ≤ 4) j hj8⟩
  · exact ⟨fun h => by omega, fun _ => (by decide : ∀ j < 8, 0 ≤ (arT 4).getD j 0) j hj8, (by decide : ∀ j < 8, (arT 4).getD j 0 ≤ 4) j hj8⟩
  · exact ⟨fun h => by omega, fun _ => (by decide : ∀ j < 8, 0 ≤ (arT 5).getD j 0) j hj8, (by decide : ∀ j < 8, (arT 5).getD j 0 ≤ 4) j hj8⟩
  · exact ⟨fun _ => (by decide : ∀ j < 8, (arT 6).getD j 0 ≤ 0) j hj8, fun h => absurd rfl h, (by decide : ∀ j < 8, (arT 6).getD j 0 ≤ 4) j hj8⟩
theorem rValid' {k c : Int} {zs : List Int} {h : Hp} {p : Option Addr} {n cc : Nat} (r : RdT TI h p n zs) :
    HCalls Tryz.prog 37 #[.int .i64 k, .agg #[.int .i64 c, .slice p n cc]] h (fun v h' => v = .bool (decide (OpV k c zs)) ∧ Ext h h') := by
  have hzl := r.len
  refine r03_ValidOp_call ?_
  rw [r03_ValidOp_b0_eq]
  refine (St.start h).new (cs := [.int .i64 c, .slice p n cc]) fun b1 h1 x1 s1 => ?_
  have kb := s1.blk
  have out : ¬ (1 ≤ k ∧ k ≤ 6) → ¬ OpV k c zs := by
    intro hk ⟨h, _⟩
    have : arT k = [] := by unfold arT; rw [if_neg (by omega), if_neg (by omega), if_neg (by omega), if_neg (by omega), if_neg (by omega), if_neg (by omega)]
    rw [this] at h
    simp at h
    omega
  refine condP (fun h2 => ?_) (fun h2 => condP (fun h3 => ?_) (fun h3 => ?_))
  · exact ⟨by rw [decide_eq_false (out (by omega))], x1⟩
  · exact ⟨by rw [decide_eq_false (out (by omega))], x1⟩
  clear out
  refine ⟨_, kb.cell 0, condP (fun hc => ?_) (fun hc => ⟨_, kb.cell 0, ?_⟩)⟩
  · exact ⟨by rw [decide_eq_false (fun h => by have := h.1; omega)], x1⟩
  refine (r_words_ok k h1).mono fun v1 h4 ⟨q, d, hv1, x4⟩ => ⟨_, _, _, hv1, ?_⟩
  have s4 := s1.grow x4
  have kb := s4.blk
  have hx4 : Ext h h4 := x1.trans x4
  refine ⟨⟨_, kb.cell 0, rfl⟩, condP (fun hc2 => ?_) (fun hc2 => ?_)⟩
  · exact ⟨by rw [decide_eq_false (fun h => by have := h.1; omega)], hx4⟩
  obtain ⟨f1, f2, f3⟩ := arT_fact (k := k) (c := c) (by omega) (by omega)
  have f4 : ∀ z ∈ zs, ChP z → KeyP z := fun z _ hz => ⟨by omega, by omega⟩
  have hiff : OpV k c zs ↔ zs.length ≤ 64 ∧ (0 ≤ (arT k).getD (c - 1).toNat 0 → (zs.length : Int) = (arT k).getD (c - 1).toNat 0) ∧ ((arT k).getD (c - 1).toNat 0 < 0 → zs.length ≠ 0) ∧ ∀ z ∈ zs, KeyP z ∧ (k = 6 → ChP z) := by
    unfold OpV
    by_cases hneg : (arT k).getD (c - 1).toNat 0 < 0
    · rw [if_pos hneg]
      have hk6 : k = 6 := by
        rcases Decidable.em (k = 6) with h | h
        · exact h
        · have := f2 h; omega
      refine ⟨fun h => ⟨h.2.1.2, fun h' => by omega, fun _ h' => by have := h.2.1.1; omega, fun z hz => ⟨f4 z hz (h.2.2 z hz), fun _ => h.2.2 z hz⟩⟩, fun h => ⟨⟨by omega, by omega⟩, ⟨by have := h.2.2.1 hneg; omega, h.1⟩, fun z hz => (h.2.2.2 z hz).2 hk6⟩⟩
    · rw [if_neg hneg]
      refine ⟨fun h => ⟨by have := h.2.1; omega, fun _ => h.2.1, fun h' => absurd h' hneg, fun z hz => ⟨h.2.2 z hz, fun hk6 => ?_⟩⟩, fun h => ⟨⟨by omega, by omega⟩, h.2.1 (by omega), fun z hz => (h.2.2.2 z hz).1⟩⟩
      have h1 := f1 hk6
      have h2 := h.2.1
      have : zs = [] := List.eq_nil_of_length_eq_zero (by omega)
      subst this
      cases hz
  refine ⟨_, _, _, Blk.cellA kb 1, condP (fun hl => ?_) (fun hl => ?_)⟩
  · exact ⟨by rw [decide_eq_false (fun h => by have := (hiff.1 h).1; omega)], hx4⟩
  rw [r03_ValidOp_b1_eq]
  refine ⟨_, kb.cell 0, ?_⟩
  refine (arity_ok h4 (by omega) (by omega)).mono fun v2 h5 ⟨hv2, x5⟩ => ⟨_, hv2, ?_⟩
  have s5 := s4.grow x5
  have kb := s5.blk
  have x5 : Ext h h5 := hx4.trans x5
  generalize (arT k).getD (c - 1).toNat 0 = a at f1 f2 f3 hiff
  have loop : (0 ≤ a → (zs.length : Int) = a) → (a < 0 → zs.length ≠ 0) → r03_ValidOp_b2 k (some ⟨b1, 0, none⟩) h5 fun v h' => v = .bool (decide (OpV k c zs)) ∧ Ext h h' := by
    intro g1 g2
    rw [r03_ValidOp_b2_eq]
    refine ⟨fun s h' => h' = h5 ∧ ∃ i : Nat, s.1 = i ∧ i ≤ n ∧ ∀ z ∈ zs.take i, KeyP z ∧ (k = 6 → ChP z), fun s _ => n - s.1.toNat, ⟨rfl, 0, rfl, by omega, by simp⟩, ?_⟩
    rintro ⟨_, _⟩ h6 ⟨rfl, i, rfl, hin, hall⟩
    dsimp only
    rw [r03_ValidOp_b3_eq]
    have r6 := r.ext x5
    refine ⟨_, _, _, Blk.cellA kb 1, condP (fun hlt => ?_) (fun hge => ?_)⟩
    · have hil : i < zs.length := by omega
      have hg : zs.getD i 0 = zs[i] := by simp [List.getD, hil]
      have hm : zs.getD i 0 ∈ zs := by rw [hg]; exact List.getElem_mem hil
      refine ⟨_, _, _, Blk.cellA kb 1, r6.int (by omega) (by omega) ?_⟩
      rw [Int.toNat_natCast]
      refine (rkey_ok _ h6).mono fun v3 h7 ⟨hv3, hh7⟩ => ⟨_, hv3, ?_⟩
      subst hh7
      refine condN (fun hno => ?_) (fun hyes => ?_)
      · exact ⟨by rw [decide_eq_false (fun h => hno ((hiff.1 h).2.2.2 _ hm).1)], x5⟩
      have next : (k = 6 → ChP (zs.getD i 0)) → r03_ValidOp_b4 k (some ⟨b1, 0, none⟩) (i : Int) h7 (fun s' h' => (h' = h7 ∧ ∃ i : Nat, s'.1 = i ∧ i ≤ n ∧ ∀ z ∈ zs.take i, KeyP z ∧ (k = 6 → ChP z)) ∧ n - s'.1.toNat < n - Int.toNat (i : Int)) (fun v h' => v = .bool (decide (OpV k c zs)) ∧ Ext h h') := by
        intro hch
        rw [r03_ValidOp_b4_eq]
        refine ⟨⟨by omega, by omega⟩, ⟨rfl, i + 1, by simp only; omega, by omega, fun z hz => ?_⟩, by simp only; omega⟩
        rw [List.take_succ_eq_append_getElem hil, List.mem_append, List.mem_singleton, ← hg] at hz
        rcases hz with hz | rfl
        · exact hall z hz
        · exact ⟨hyes, hch⟩
      refine condP (fun hk6 => ?_) (fun hk6 => next fun h => absurd h hk6)
      refine ⟨_, _, _, Blk.cellA kb 1, r6.int (by omega) (by omega) ?_⟩
      rw [Int.toNat_natCast]
      refine condP (fun hlow => ?_) (fun hlow => ?_)
      · exact ⟨by rw [decide_eq_false (fun h => by have := ((hiff.1 h).2.2.2 _ hm).2 hk6; omega)], x5⟩
      refine ⟨_, _, _, Blk.cellA kb 1, r6.int (by omega) (by omega) ?_⟩
      rw [Int.toNat_natCast]
      refine condP (fun hhi => ?_) (fun hhi => next fun _ => ⟨by omega, by omega⟩)
      exact ⟨by rw [decide_eq_false (fun h => by have := ((hiff.1 h).2.2.2 _ hm).2 hk6; omega)], x5⟩
    · rw [r03_ValidOp_b5_eq]
      rw [List.take_of_length_le (by omega)] at hall
      exact ⟨by rw [decide_eq_true (hiff.2 ⟨by omega, g1, g2, hall⟩)], x5⟩
  refine condP (fun ha => ?_) (fun ha => ?_)
  · refine ⟨_, _, _, Blk.cellA kb 1, condN (fun hne => ?_) (fun he => ?_)⟩
    · exact ⟨by rw [decide_eq_false (fun h => by have := (hiff.1 h).2.1; omega)], x5⟩
    · exact condNo (decide_eq_false (by omega)) (loop (fun _ => by omega) (fun h => by omega))
  · refine condP (fun hneg => ?_) (fun hneg => by omega)
    refine ⟨_, _, _, Blk.cellA kb 1, condP (fun h0 => ?_) (fun h0 => ?_)⟩
    · exact ⟨by rw [decide_eq_false (fun h => by have := (hiff.1 h).2.2.1 hneg; omega)], x5⟩
    · exact loop (fun h => by omega) (fun _ => by omega)
theorem rValid_ok {k c : Int} {zs : List Int} {h : Hp} {p : Option Addr} {n cc : Nat} (r : RdT TI h p n zs) (_ : n ≤ 1000000) :
    HCalls Tryz.prog 37 #[.int .i64 k, .agg #[.int .i64 c, .slice p n cc]] h (fun v h' => v = .bool (decide (OpV k c zs)) ∧ Ext h h') := rValid' r
end Go.Proofs.YtdlkohenamlnaaaGreat

/- Layer 3: states, rows, the reference's small functions. -/
set_option maxRecDepth 100000
namespace Go.Proofs.YtdlkohenamlnaaaGreat
open Go Go.Sx
abbrev RowP (s : SH) (l : List Int) (A : Bag) : Prop := Sl TI s.1 s.2.1 s.2.2 l A
abbrev RowsA : SH → List (List Int) → Bag → Prop := Nest 23 RowP
abbrev TR : Ty SH := tS 23
theorem ok_row : ElOk TR Tryz.prog 64 := elB_spec (by kernel_rfl)
/-- 'out = append(out, x)' of a slice x, with something read between. -/
theorem push_nestR {h0 h : Hp} {p : Option Addr} {n c : Nat} {q : Option Addr} {m d : Nat} {xs : List (List Int)} {x : List Int} {A B G : Bag} {R : Hp → Prop} {e' : TypeId} {k : Option Addr → Nat → Nat → Hp → Prop}
    (s : St h0 h (A + (B + G))) (a : RowsA (p, n, c) xs A) (b : RowP (q, m, d) x B) (he : e' = 23) (hn : n + 1 < 1073741824) (hR : ∀ h1, Ext h h1 → R h1)
    (hk : ∀ p' c' h' A', RowsA (p', n + 1, c') (xs ++ [x]) A' → St h0 h' (A' + G) → k p' (n + 1) c' h') :
    New h (.cells #[.slice q m d] e') fun b h1 => R h1 ∧ appendV Tryz.prog 64 64 (.slice p n c) (.slice (some ⟨b, 0, none⟩) 1 1) h1 (slK k) := by
  subst he
  obtain ⟨hs, B0, B1, rfl, h1, h2⟩ := a
  refine s.new (cs := [.slice q m d]) fun b h3 x3 s3 => ⟨hR h3 x3, ?_⟩
  have sx : Sl TR (some ⟨b, 0, none⟩) 1 1 [(q, m, d)] (cA b [.slice q m d] 23) := Sl.of_blk (T := TR) (xs := [(q, m, d)]) rfl rfl
  refine append_sl ok_row (s3.to (B := B0 + (cA b [.slice q m d] 23 + (B1 + (B + G))))) h1 (sx.rd s3) hn fun p' c' h' A' a' s' => ?_
  have s5 := (s'.to (B := cA b [.slice q m d] 23 + (A' + (B1 + B) + G))).drop
  exact hk p' c' h' (A' + (B1 + B)) ⟨hs ++ [(q, m, d)], A', B1 + B, rfl, a', h2.append (AllH.one ‹RowP (q, m, d) x B›)⟩ s5
theorem rows_len {s : SH} {xs : List (List Int)} {B : Bag} (n : RowsA s xs B) : xs.length = s.2.1 := Nest.len n
/-- An entry of a row is read. -/
theorem rows_get {h0 h : Hp} {p : Option Addr} {n c : Nat} {rows : List (List Int)} {B G : Bag} {i j : Int} {Q : Int → Prop} (na : RowsA (p, n, c) rows B) (st : St h0 h (B + G)) (hi0 : 0 ≤ i) (hi : i < n) (hj0 : 0 ≤ j) (hj : j < (rows.getD i.toNat []).length)
    (hq : Q ((rows.getD i.toNat []).getD j.toNat 0)) : (0 ≤ i ∧ i < (n : Int)) ∧ NN p fun a => ∃ (a8 : Option Addr) (L5 C5 : Nat), cell h (a.add (i.toNat * 1)) = some (.slice a8 L5 C5) ∧ (0 ≤ j ∧ j < (L5 : Int)) ∧ NN a8 fun a9 => ∃ n4 : Int, cell h (a9.add (j.toNat * 1)) = some (.int .i64 n4) ∧ Q n4 := by
  refine Nest.at_ (d := []) na st hi0 hi fun q l d Bi Br o hB => ?_
  have o : Sl TI q l d (rows.getD i.toNat []) Bi := o
  have hl := o.len
  have st2 : St h0 h (Bi + (Br + G)) := by rw [hB] at st; exact st.to
  exact (o.rd st2).int hj0 (by omega) hq
theorem row_ok {h : Hp} {p : Option Addr} {n c : Nat} {xs : List Int} (r : RdT TI h p n xs) (hn : n ≤ 1000000) : HCalls Tryz.prog 111 #[.slice p n c] h (fun v h' => ∃ q d A, v = .slice q n d ∧ Sl TI q n d xs A ∧ St h h' A) := by
  refine r03_row_call ?_
  rw [r03_row_b0_eq]
  refine (St.start h).new (cs := []) fun b1 h1 x1 s1 => ?_
  refine append_sl ok_int s1 (Sl.of_blk (T := TI) (xs := []) rfl rfl) (r.ext x1) (by omega) fun a1 c1 h2 A o s2 => ?_
  rw [Nat.zero_add, List.nil_append] at o
  rw [Nat.zero_add]
  exact ⟨_, _, A, rfl, o, s2.to⟩
theorem yield_ok {k z : Int} {h : Hp} {p : Option Addr} {n c : Nat} : HCalls Tryz.prog 112 #[.agg #[.int .i64 k, .slice p n c], .int .i64 z] h (fun v h' => v = .tuple #[.agg #[.int .i64 k, .slice p n c], .agg #[.int .i64 0, .int .i64 z, .slice none 0 0]] ∧ Ext h h') := by
  refine r03_yield_call ?_
  rw [r03_yield_b0_eq]
  refine (St.start h).new (cs := [.int .i64 k, .slice p n c]) fun b1 h1 _ s1 => ?_
  refine s1.new (cs := [.int .i64 0, .slice none 0 0]) fun b2 h2 _ s2 => ?_
  refine s2.new (cs := [.int .i64 0, .int .i64 0, .slice none 0 0]) fun b3 h3 _ s3 => ?_
  have kb1 := (s3.at (cA b1 [.int .i64 k, .slice p n c] 66)).blk
  refine ⟨_, _, _, _, kb1.cell 0, Blk.cellA kb1 1, ?_⟩
  have s3 := s3.to (B := cA b2 [.int .i64 0, .slice none 0 0] 66 + (cA b3 [.int .i64 0, .int .i64 0, .slice none 0 0] 61 + (cA b1 [.int .i64 k, .slice p n c] 66 + 0)))
  refine s3.wr rfl (by simp) fun h4 s4 => ?_
  refine s4.wr (o := 1) (add_mk _ _ _) (by simp) fun h5 s5 => ?_
  have s5 : St h h5 (cA b2 [.int .i64 k, .slice p n c] 66 + (cA b3 [.int .i64 0, .int .i64 0, .slice none 0 0] 61 + (cA b1 [.int .i64 k, .slice p n c] 66 + 0))) := s5
  have s5 := s5.to (B := cA b3 [.int .i64 0, .int .i64 0, .slice none 0 0] 61 + (cA b2 [.int .i64 k, .slice p n c] 66 + (cA b1 [.int .i64 k, .slice p n c] 66 + 0)))
  refine s5.wr rfl (by simp) fun h6 s6 => ?_
  refine s6.wr (o := 1) (add_mk _ _ _) (by simp) fun h7 s7 => ?_
  refine s7.wr (o := 2) (add_mk _ _ _) (by simp) fun h8 s8 => ?_
  have kb2 := s8.atomBlk
  exact ⟨_, _, _, _, kb2.cell 0, Blk.cellA kb2 1, _, _, _, _, _, s8.blk.cell 0, Blk.cellA s8.blk 1, Blk.cellA s8.blk 2, rfl, s8.ext⟩
theorem fail_ok {k z : Int} {h : Hp} {p : Option Addr} {n c : Nat} : HCalls Tryz.prog 113 #[.agg #[.int .i64 k, .slice p n c], .int .i64 z] h (fun v h' => v = .tuple #[.agg #[.int .i64 k, .slice p n c], .agg #[.int .i64 z, .int .i64 0, .slice none 0 0]] ∧ Ext h h') := by
  refine r03_fail_call ?_
  rw [r03_fail_b0_eq]
  refine (St.start h).new (cs := [.int .i64 k, .slice p n c]) fun b1 h1 _ s1 => ?_
  refine s1.new (cs := [.int .i64 0, .slice none 0 0]) fun b2 h2 _ s2 => ?_
  refine s2.new (cs := [.int .i64 0, .int .i64 0, .slice none 0 0]) fun b3 h3 _ s3 => ?_
  have kb1 := (s3.at (cA b1 [.int .i64 k, .slice p n c] 66)).blk
  refine ⟨_, _, _, _, kb1.cell 0, Blk.cellA kb1 1, ?_⟩
  have s3 := s3.to (B := cA b2 [.int .i64 0, .slice none 0 0] 66 + (cA b3 [.int .i64 0, .int .i64 0, .slice none 0 0] 61 + (cA b1 [.int .i64 k, .slice p n c] 66 + 0)))
  refine s3.wr rfl (by simp) fun h4 s4 => ?_
  refine s4.wr (o := 1) (add_mk _ _ _) (by simp) fun h5 s5 => ?_
  have s5 : St h h5 (cA b2 [.int .i64 k, .slice p n c] 66 + (cA b3 [.int .i64 0, .int .i64 0, .slice none 0 0] 61 + (cA b1 [.int .i64 k, .slice p n c] 66 + 0))) := s5
  have s5 := s5.to (B := cA b3 [.int .i64 0, .int .i64 0, .slice none 0 0] 61 + (cA b2 [.int .i64 k, .slice p n c] 66 + (cA b1 [.int .i64 k, .slice p n c] 66 + 0)))
  refine s5.wr rfl (by simp) fun h6 s6 => ?_
  refine s6.wr (o := 1) (add_mk _ _ _) (by simp) fun h7 s7 => ?_
  refine s7.wr (o := 2) (add_mk _ _ _) (by simp) fun h8 s8 => ?_
  have kb2 := s8.atomBlk
  exact ⟨_, _, _, _, kb2.cell 0, Blk.cellA kb2 1, _, _, _, _, _, s8.blk.cell 0, Blk.cellA s8.blk 1, Blk.cellA s8.blk 2, rfl, s8.ext⟩
/-- put: one more row. -/
theorem sput_ok {h0 h : Hp} {p : Option Addr} {n c i : Nat} {hs : List SH} {x : SH} {B0 G : Bag} (s : St h0 h (B0 + G)) (a : Sl TR p n c hs B0) (hi : i ≤ n) (hn : n ≤ 1000000) :
    HCalls Tryz.prog 114 #[.slice p n c, .int .i64 (i : Int), .slice x.1 x.2.1 x.2.2] h (fun v h' => ∃ q d B', v = .slice q (n + 1) d ∧ Sl TR q (n + 1) d (hs.take i ++ x :: hs.drop i) B' ∧ St h0 h' (B' + G)) := by
  have hlen := a.len
  have hcap := a.cap
  refine r03_put_call ?_
  rw [r03_put_b0_eq]
  refine s.new (cs := []) fun b1 h1 _ s1 => ⟨⟨by omega, by omega, by omega⟩, ?_⟩
  have e0 : Int.toNat (0 : Int) = 0 := rfl
  rw [e0, Int.toNat_natCast, subAddr_z, Nat.sub_zero, Nat.sub_zero, Int.toNat_natCast]
  refine append_sl ok_row s1 (Sl.of_blk (T := TR) (xs := []) rfl rfl) ((a.rd (s1.at B0)).take (i := i) (by omega)) (by omega) fun a1 c1 h2 B1 o1 s2 => ?_
  rw [Nat.zero_add, List.nil_append] at o1
  rw [Nat.zero_add]
  refine ⟨⟨by omega, by omega, by omega⟩, ?_⟩
  refine s2.new (cs := [.slice x.1 x.2.1 x.2.2]) fun b2 h3 _ s3 => ⟨⟨⟨by omega, by omega, by omega⟩, rfl⟩, ?_⟩
  have sx : Sl TR (some ⟨b2, 0, none⟩) 1 1 [x] (cA b2 [.slice x.1 x.2.1 x.2.2] 23) := Sl.of_blk (T := TR) (xs := [x]) rfl rfl
  refine append_sl ok_row (s3.to (B := B1 + (cA b2 [.slice x.1 x.2.1 x.2.2] 23 + (B0 + G)))) o1 (sx.rd s3) (by omega) fun a2 c2 h4 B2 o2 s4 => ?_
  refine ⟨⟨⟨by omega, by omega, by omega⟩, rfl⟩, ?_⟩
  have rs := (a.rd (s4.at B0)).sub (i := i) (m := n - i) (by omega) hcap rfl
  refine append_sl ok_row s4 o2 rs (by omega) fun a3 c3 h5 B3 o3 s5 => ?_
  have e : i + 1 + (n - i) = n + 1 := by omega
  rw [e] at o3 ⊢
  refine ⟨_, _, B3, rfl, ?_, (s5.to (B := (cA b2 [.slice x.1 x.2.1 x.2.2] 23 + B0) + (B3 + G))).drop⟩
  simpa using o3
/-- cut: a row less. -/
theorem scut_ok {h0 h : Hp} {p : Option Addr} {n c i : Nat} {hs : List SH} {B0 G : Bag} (s : St h0 h (B0 + G)) (a : Sl TR p n c hs B0) (hi : i < n) (hn : n ≤ 1000000) :
    HCalls Tryz.prog 115 #[.slice p n c, .int .i64 (i : Int)] h (fun v h' => ∃ q d B', v = .slice q (n - 1) d ∧ Sl TR q (n - 1) d (hs.take i ++ hs.drop (i + 1)) B' ∧ St h0 h' (B' + G)) := by
  have hlen := a.len
  have hcap := a.cap
  refine r03_cut_call ?_
  rw [r03_cut_b0_eq]
  refine ⟨⟨by omega, by omega, by omega⟩, ⟨by omega, by omega⟩, ⟨by omega, by omega, by omega⟩, ?_⟩
  refine s.new (cs := []) fun b1 h1 _ s1 => ⟨⟨⟨by omega, by omega, by omega⟩, rfl⟩, ⟨⟨by omega, by omega, by omega⟩, rfl⟩, ?_⟩
  have e0 : Int.toNat (0 : Int) = 0 := rfl
  have e1 : Int.toNat ((i : Int) + 1) = i + 1 := by omega
  rw [e0, e1, Int.toNat_natCast, subAddr_z, Nat.sub_zero, Nat.sub_zero, Int.toNat_natCast]
  refine append_sl ok_row s1 (Sl.of_blk (T := TR) (xs := []) rfl rfl) ((a.rd (s1.at B0)).take (i := i) (by omega)) (by omega) fun a1 c1 h2 B1 o1 s2 => ?_
  rw [Nat.zero_add, List.nil_append] at o1
  rw [Nat.zero_add]
  refine ⟨⟨⟨by omega, by omega, by omega⟩, rfl⟩, ?_⟩
  have rs := (a.rd (s2.at B0)).sub (i := i + 1) (m := n - (i + 1)) (by omega) hcap rfl
  refine append_sl ok_row s2 o1 rs (by omega) fun a3 c3 h5 B3 o3 s5 => ?_
  have e : i + (n - (i + 1)) = n - 1 := by omega
  rw [e] at o3 ⊢
  exact ⟨_, _, B3, rfl, o3, (s5.to (B := B0 + (B3 + G))).drop⟩
theorem copyState_ok {k : Int} {h0 h : Hp} {p : Option Addr} {n c : Nat} {rows : List (List Int)} {B G : Bag} (na : RowsA (p, n, c) rows B) (s : St h0 h (B + G)) (hn : n ≤ 1000000) (hr : ∀ r ∈ rows, r.length ≤ 1000000) :
    HCalls Tryz.prog 76 #[.agg #[.int .i64 k, .slice p n c]] h (fun v h' => ∃ q d B', v = .agg #[.int .i64 k, .slice q n d] ∧ RowsA (q, n, d) rows B' ∧ St h0 h' (B' + (B + G))) := by
  have hrl : rows.length = n := rows_len na
  refine r03_Copy_call ?_
  rw [r03_Copy_b0_eq]
  refine s.new (cs := [.int .i64 k, .slice p n c]) fun b1 h1 _ s1 => ?_
  refine s1.new (cs := [.int .i64 0, .slice none 0 0]) fun b2 h2 _ s2 => ?_
  refine ⟨_, (s2.at (cA b1 [.int .i64 k, .slice p n c] 66)).blk.cell 0, ?_⟩
  refine s2.new (cs := [.int .i64 0, .slice none 0 0]) fun b3 h3 _ s3 => ?_
  refine s3.wr rfl (by simp) fun h4 s4 => ?_
  refine s4.wr (o := 1) (add_mk _ _ _) (by simp) fun h5 s5 => ?_
  have s5 : St h0 h5 (cA b3 [.int .i64 k, .slice none 0 0] 66 + (cA b2 [.int .i64 0, .slice none 0 0] 66 + (cA b1 [.int .i64 k, .slice p n c] 66 + (B + G)))) := s5
  refine ⟨fun x h' => ∃ (i : Nat) (q : Option Addr) (d : Nat) (B' : Bag), x.1 = i ∧ i ≤ n ∧ RowsA (q, i, d) (rows.take i) B' ∧ St h0 h' (cA b3 [.int .i64 k, .slice q i d] 66 + (B' + (cA b2 [.int .i64 0, .slice none 0 0] 66 + (cA b1 [.int .i64 k, .slice p n c] 66 + (B + G))))), fun x _ => n - x.1.toNat, ⟨0, none, 0, 0, rfl, by omega, Nest.nil, s5.to⟩, ?_⟩
  rintro ⟨_, _⟩ h6 ⟨i, q, d, B', rfl, hin, nb, s6⟩
  dsimp only
  rw [r03_Copy_b1_eq]
  have kb1 := (s6.at (cA b1 [.int .i64 k, .slice p n c] 66)).blk
  refine ⟨_, _, _, Blk.cellA kb1 1, condP (fun hlt => ?_) (fun hge => ?_)⟩
  · refine ⟨_, _, _, Blk.cellA s6.blk 1, _, _, _, Blk.cellA kb1 1, ?_⟩
    have sB : St h0 h6 (B + (cA b3 [.int .i64 k, .slice q i d] 66 + (B' + (cA b2 [.int .i64 0, .slice none 0 0] 66 + (cA b1 [.int .i64 k, .slice p n c] 66 + G))))) := s6.to
    refine Nest.at_ (d := []) na sB (by omega) (by dsimp only; omega) fun q1 l1 d1 Bi Br o hB => ?_
    rw [Int.toNat_natCast] at o
    have o : Sl TI q1 l1 d1 (rows.getD i []) Bi := o
    have hl1 := o.len
    have hil : i < rows.length := by omega
    have hg : rows.getD i [] = rows[i] := by simp [List.getD, hil]
    have hsm := hr _ (List.getElem_mem hil)
    rw [← hg] at hsm
    have st2 : St h0 h6 (Bi + (Br + (cA b3 [.int .i64 k, .slice q i d] 66 + (B' + (cA b2 [.int .i64 0, .slice none 0 0] 66 + (cA b1 [.int .i64 k, .slice p n c] 66 + G)))))) := by rw [hB] at sB; exact sB.to
    refine (row_ok (o.rd st2) (by omega)).mono fun v1 h7 ⟨q2, d2, A2, hv1, o2, t7⟩ => ⟨_, _, _, hv1, ?_⟩
    have s7 := s6.join t7
    have kb3 := (s7.at (cA b3 [.int .i64 k, .slice q i d] 66)).blk
    refine ⟨⟨_, _, _, Blk.cellA kb3 1, rfl⟩, ?_⟩
    have s7 := s7.to (B := B' + (A2 + (cA b3 [.int .i64 k, .slice q i d] 66 + (cA b2 [.int .i64 0, .slice none 0 0] 66 + (cA b1 [.int .i64 k, .slice p n c] 66 + (B + G))))))
    refine push_nestR s7 nb o2 rfl (by omega) (fun h8 x8 => ⟨_, _, _, Blk.cellA (kb3.ext x8) 1, rfl⟩) fun q3 d3 h9 B3 nb3 s9 => ?_
    have s9 := s9.to (B := cA b3 [.int .i64 k, .slice q i d] 66 + (B3 + (cA b2 [.int .i64 0, .slice none 0 0] 66 + (cA b1 [.int .i64 k, .slice p n c] 66 + (B + G)))))
    refine s9.wr (o := 1) (add_mk _ _ _) (by simp) fun h10 s10 => ?_
    rw [r03_Copy_b2_eq]
    refine ⟨⟨by omega, by omega⟩, ⟨i + 1, q3, d3, B3, by simp only; omega, by omega, ?_, s10⟩, by simp only; omega⟩
    rw [List.take_succ_eq_append_getElem hil, ← hg]
    exact nb3
  · obtain rfl : n = i := by omega
    rw [r03_Copy_b3_eq]
    refine ⟨_, _, _, _, s6.blk.cell 0, Blk.cellA s6.blk 1, ?_⟩
    have s6 := s6.to (B := cA b2 [.int .i64 0, .slice none 0 0] 66 + (B' + (cA b3 [.int .i64 k, .slice q n d] 66 + (cA b1 [.int .i64 k, .slice p n c] 66 + (B + G)))))
    refine s6.wr rfl (by simp) fun h7 s7 => ?_
    refine s7.wr (o := 1) (add_mk _ _ _) (by simp) fun h8 s8 => ?_
    refine ⟨_, _, _, _, s8.blk.cell 0, Blk.cellA s8.blk 1, _, _, B', rfl, ?_, ?_⟩
    · rw [List.take_of_length_le (by omega)] at nb; exact nb
    · have s8 : St h0 h8 (cA b2 [.int .i64 k, .slice q n d] 66 + (B' + (cA b3 [.int .i64 k, .slice q n d] 66 + (cA b1 [.int .i64 k, .slice p n c] 66 + (B + G))))) := s8
      exact (s8.to (B := (cA b2 [.int .i64 k, .slice q n d] 66 + cA b3 [.int .i64 k, .slice q n d] 66 + cA b1 [.int .i64 k, .slice p n c] 66) + (B' + (B + G)))).drop
/-- The rows' lists, in two parts. -/
theorem AllH.cut {hs : List SH} {rows : List (List Int)} {A : Bag} (h : AllH RowP hs rows A) (i : Nat) : ∃ A1 A2, A = A1 + A2 ∧ AllH RowP (hs.take i) (rows.take i) A1 ∧ AllH RowP (hs.drop i) (rows.drop i) A2 := by
  have hl := h.len
  refine AllH.split (hs.take i) (rows.take i) (by rw [List.length_take, List.length_take, hl]) ?_
  rw [List.take_append_drop, List.take_append_drop]
  exact h
theorem same_ok {a b c d : Int} {p q : Option Addr} {n m k l : Nat} {xs ys : List Int} {h : Hp} (r1 : RdT TI h p n xs) (r2 : RdT TI h q m ys) (hn : n ≤ 1000000) :
    HCalls Tryz.prog 40 #[.agg #[.int .i64 a, .int .i64 b, .slice p n k], .agg #[.int .i64 c, .int .i64 d, .slice q m l]] h (fun v h' => Ext h h' ∧ v = .bool (decide ((a, b, xs) = (c, d, ys)))) := by
  refine r03_SameRes_call ?_
  rw [r03_SameRes_b0_eq]
  refine (St.start h).new (cs := [.int .i64 a, .int .i64 b, .slice p n k]) fun b1 h1 _ s1 => ?_
  refine s1.new (cs := [.int .i64 c, .int .i64 d, .slice q m l]) fun b2 h2 _ s2 => ?_
  have k2 := s2.blk
  have k1 := s2.atomBlk
  refine ⟨_, k1.cell 0, _, k2.cell 0, condP (fun e1 => ?_) (fun e1 => ⟨s2.ext, ?_⟩)⟩
  · refine ⟨_, Blk.cellA k1 1, _, Blk.cellA k2 1, condP (fun e2 => ?_) (fun e2 => ⟨s2.ext, ?_⟩)⟩
    · refine ⟨_, _, _, Blk.cellA k1 2, _, _, _, Blk.cellA k2 2, ?_⟩
      refine (SameList_ok (r1.ext s2.ext) (r2.ext s2.ext) (by omega)).mono fun v h3 ⟨hh, hv⟩ => ⟨_, hv, by rw [hh]; exact s2.ext, ?_⟩
      congr 1
      exact decide_eq_decide.2 ⟨fun h => by rw [e1, e2, h], fun h => by simpa using (Prod.mk.inj (Prod.mk.inj h).2).2⟩
    · rw [decide_eq_false (fun h => e2 (Prod.mk.inj (Prod.mk.inj h).2).1)]
  · rw [decide_eq_false (fun h => e1 (Prod.mk.inj h).1)]
end Go.Proofs.YtdlkohenamlnaaaGreat

/- Layer 3: the reference's dictionary. -/
set_option maxRecDepth 100000
namespace Go.Proofs.YtdlkohenamlnaaaGreat
open Go Go.Sx
abbrev row2 (e : E) : List Int := [e.1, e.2]
/-- What a step leaves: a state and a result. -/
def StepP (h0 : Hp) (G : Bag) (k : Int) (rows : List (List Int)) (e z : Int) (v : Value) (h' : Hp) : Prop :=
  ∃ q m d B', v = .tuple #[.agg #[.int .i64 k, .slice q m d], .agg #[.int .i64 e, .int .i64 z, .slice none 0 0]] ∧ RowsA (q, m, d) rows B' ∧ St h0 h' (B' + G)
/-- Two boxes are written, read and handed back. -/
theorem boxW {h0 h : Hp} {b3 b4 : Nat} {x0 x1 y0 y1 y2 : Value} {D B G : Bag} {p : Option Addr} {n c : Nat} {k e z : Int} {rows : List (List Int)} (na : RowsA (p, n, c) rows B)
    (s : St h0 h (cA b3 [x0, x1] 66 + (cA b4 [y0, y1, y2] 61 + (D + (B + G))))) :
    Wr h ⟨b3, 0, none⟩ (.int .i64 k) fun h6 => Wr h6 ((⟨b3, 0, none⟩ : Addr).add 1) (.slice p n c) fun h7 => Wr h7 ⟨b4, 0, none⟩ (.int .i64 e) fun h8 => Wr h8 ((⟨b4, 0, none⟩ : Addr).add 1) (.int .i64 z) fun h9 => Wr h9 ((⟨b4, 0, none⟩ : Addr).add 2) (.slice none 0 0) fun h10 =>
      ∃ r6 : Int, ∃ (r7 : Option Addr) (rL3 rC3 : Nat), cell h10 ⟨b3, 0, none⟩ = some (.int .i64 r6) ∧ cell h10 ((⟨b3, 0, none⟩ : Addr).add 1) = some (.slice r7 rL3 rC3) ∧
      ∃ r8 : Int, ∃ r9 : Int, ∃ (r10 : Option Addr) (rL4 rC4 : Nat), cell h10 ⟨b4, 0, none⟩ = some (.int .i64 r8) ∧ cell h10 ((⟨b4, 0, none⟩ : Addr).add 1) = some (.int .i64 r9) ∧ cell h10 ((⟨b4, 0, none⟩ : Addr).add 2) = some (.slice r10 rL4 rC4) ∧
      StepP h0 G k rows e z (.tuple #[.agg #[.int .i64 r6, .slice r7 rL3 rC3], .agg #[.int .i64 r8, .int .i64 r9, .slice r10 rL4 rC4]]) h10 := by
  refine s.wr rfl (by simp) fun h6 s6 => ?_
  refine s6.wr (o := 1) (add_mk _ _ _) (by simp) fun h7 s7 => ?_
  have s7 : St h0 h7 (cA b3 [.int .i64 k, .slice p n c] 66 + (cA b4 [y0, y1, y2] 61 + (D + (B + G)))) := s7
  have s7 := s7.to (B := cA b4 [y0, y1, y2] 61 + (cA b3 [.int .i64 k, .slice p n c] 66 + (D + (B + G))))
  refine s7.wr rfl (by simp) fun h8 s8 => ?_
  refine s8.wr (o := 1) (add_mk _ _ _) (by simp) fun h9 s9 => ?_
  refine s9.wr (o := 2) (add_mk _ _ _) (by simp) fun h10 s10 => ?_
  have kb := s10.atomBlk
  refine ⟨_, _, _, _, kb.cell 0, Blk.cellA kb 1, _, _, _, _, _, s10.blk.cell 0, Blk.cellA s10.blk 1, Blk.cellA s10.blk 2, p, n, c, B, rfl, na, ?_⟩
  have s10 : St h0 h10 (cA b4 [.int .i64 e, .int .i64 z, .slice none 0 0] 61 + (cA b3 [.int .i64 k, .slice p n c] 66 + (D + (B + G)))) := s10
  exact (s10.to (B := (cA b4 [.int .i64 e, .int .i64 z, .slice none 0 0] 61 + cA b3 [.int .i64 k, .slice p n c] 66 + D) + (B + G))).drop
/-- The end of a step: yield or fail, and the boxes. -/
theorem boxT {g : Nat} {args : Array Value} {h0 h : Hp} {b3 b4 : Nat} {x0 x1 y0 y1 y2 : Value} {D B G : Bag} {p : Option Addr} {n c : Nat} {k e z : Int} {rows : List (List Int)} (na : RowsA (p, n, c) rows B)
    (s : St h0 h (cA b3 [x0, x1] 66 + (cA b4 [y0, y1, y2] 61 + (D + (B + G)))))
    (hc : HCalls Tryz.prog g args h (fun v h' => v = .tuple #[.agg #[.int .i64 k, .slice p n c], .agg #[.int .i64 e, .int .i64 z, .slice none 0 0]] ∧ Ext h h')) :
    HCalls Tryz.prog g args h fun v1 h5 => ∃ r1 : Int, ∃ (r2 : Option Addr) (rL1 rC1 : Nat), ∃ r3 : Int, ∃ r4 : Int, ∃ (r5 : Option Addr) (rL2 rC2 : Nat), v1 = .tuple #[.agg #[.int .i64 r1, .slice r2 rL1 rC1], .agg #[.int .i64 r3, .int .i64 r4, .slice r5 rL2 rC2]] ∧
      Wr h5 ⟨b3, 0, none⟩ (.int .i64 r1) fun h6 => Wr h6 ((⟨b3, 0, none⟩ : Addr).add 1) (.slice r2 rL1 rC1) fun h7 => Wr h7 ⟨b4, 0, none⟩ (.int .i64 r3) fun h8 => Wr h8 ((⟨b4, 0, none⟩ : Addr).add 1) (.int .i64 r4) fun h9 => Wr h9 ((⟨b4, 0, none⟩ : Addr).add 2) (.slice r5 rL2 rC2) fun h10 =>
      ∃ r6 : Int, ∃ (r7 : Option Addr) (rL3 rC3 : Nat), cell h10 ⟨b3, 0, none⟩ = some (.int .i64 r6) ∧ cell h10 ((⟨b3, 0, none⟩ : Addr).add 1) = some (.slice r7 rL3 rC3) ∧
      ∃ r8 : Int, ∃ r9 : Int, ∃ (r10 : Option Addr) (rL4 rC4 : Nat), cell h10 ⟨b4, 0, none⟩ = some (.int .i64 r8) ∧ cell h10 ((⟨b4, 0, none⟩ : Addr).add 1) = some (.int .i64 r9) ∧ cell h10 ((⟨b4, 0, none⟩ : Addr).add 2) = some (.slice r10 rL4 rC4) ∧
      StepP h0 G k rows e z (.tuple #[.agg #[.int .i64 r6, .slice r7 rL3 rC3], .agg #[.int .i64 r8, .int .i64 r9, .slice r10 rL4 rC4]]) h10 :=
  hc.mono fun _ _ ⟨hv, x⟩ => ⟨_, _, _, _, _, _, _, _, _, hv, boxW na (s.grow x)⟩
theorem AllH.edit : ∀ {hs : List SH} {xs : List (List Int)} {A : Bag} {i : Nat}, AllH RowP hs xs A → i < hs.length → ∃ Ai Br, A = Ai + Br ∧ RowP (hs.getD i (none, 0, 0)) (xs.getD i []) Ai ∧ ∀ y A', RowP (hs.getD i (none, 0, 0)) y A' → AllH RowP hs (xs.set i y) (A' + Br)
  | [], _, _, _, _, h => by simp at h
  | _ :: _, [], _, _, h, _ => h.elim
  | b :: bs, t :: ts, _, 0, ⟨A1, A2, e, h1, h2⟩, _ => ⟨A1, A2, e, h1, fun y A' hy => ⟨A', A2, rfl, hy, h2⟩⟩
  | b :: bs, t :: ts, _, i + 1, ⟨A1, A2, e, h1, h2⟩, hi => by
    obtain ⟨Ai, Br, e2, h3, h4⟩ := AllH.edit h2 (i := i) (by simpa using hi)
    refine ⟨Ai, A1 + Br, by rw [e, e2]; ac_rfl, by simpa using h3, fun y A' hy => ?_⟩
    exact ⟨A1, A' + Br, by ac_rfl, h1, h4 y A' (by simpa using hy)⟩
/-- A row is reached, to be written. -/
theorem rows_edit {h0 h : Hp} {p : Option Addr} {n c : Nat} {rows : List (List Int)} {B G : Bag} {i : Int} {Q : Option Addr → Nat → Nat → Prop} (na : RowsA (p, n, c) rows B) (st : St h0 h (B + G)) (hi0 : 0 ≤ i) (hi : i < n)
    (hq : ∀ q l d Bi Br, Sl TI q l d (rows.getD i.toNat []) Bi → B = Bi + Br → (∀ y Bi', Sl TI q l d y Bi' → RowsA (p, n, c) (rows.set i.toNat y) (Bi' + Br)) → Q q l d) :
    (0 ≤ i ∧ i < (n : Int)) ∧ NN p fun a => ∃ (q : Option Addr) (l d : Nat), cell h (a.add (i.toNat * 1)) = some (.slice q l d) ∧ Q q l d := by
  obtain ⟨hs, B0, B1, rfl, h1, h2⟩ := na
  have r := h1.rd (st.to (B := B0 + (B1 + G)))
  refine r.idx hi0 hi fun a _ hc => ?_
  have hl : hs.length = n := h1.len
  obtain ⟨Bi, Br, hB, hp, hset⟩ := AllH.edit h2 (i := i.toNat) (by omega)
  refine ⟨_, _, _, hc 0 Nat.one_pos, hq _ _ _ Bi (B0 + Br) hp (by rw [hB]; ac_rfl) fun y Bi' hy => ?_⟩
  exact ⟨hs, B0, Bi' + Br, by ac_rfl, h1, hset y Bi' hy⟩
theorem row2_get {l : List E} {i : Nat} (h : i < l.length) : (l.map row2).getD i [] = row2 (l.getD i (0, 0)) := by
  simp [List.getD, h]
theorem e_key {h0 h : Hp} {p : Option Addr} {n c : Nat} {l : List E} {B G : Bag} {i : Int} {Q : Int → Prop} (na : RowsA (p, n, c) (l.map row2) B) (st : St h0 h (B + G)) (hi0 : 0 ≤ i) (hi : i < n) (hq : Q (l.getD i.toNat (0, 0)).1) :
    (0 ≤ i ∧ i < (n : Int)) ∧ NN p fun a => ∃ (a8 : Option Addr) (L5 C5 : Nat), cell h (a.add (i.toNat * 1)) = some (.slice a8 L5 C5) ∧ (0 ≤ (0 : Int) ∧ (0 : Int) < (L5 : Int)) ∧ NN a8 fun a9 => ∃ n4 : Int, cell h (a9.add (Int.toNat (0 : Int) * 1)) = some (.int .i64 n4) ∧ Q n4 := by
  have hl : (l.map row2).length = n := rows_len na
  rw [List.length_map] at hl
  have hg := row2_get (l := l) (i := i.toNat) (by omega)
  exact rows_get na st hi0 hi (by omega) (by rw [hg]; simp) (by rw [hg]; exact hq)
theorem e_val {h0 h : Hp} {p : Option Addr} {n c : Nat} {l : List E} {B G : Bag} {i : Int} {Q : Int → Prop} (na : RowsA (p, n, c) (l.map row2) B) (st : St h0 h (B + G)) (hi0 : 0 ≤ i) (hi : i < n) (hq : Q (l.getD i.toNat (0, 0)).2) :
    (0 ≤ i ∧ i < (n : Int)) ∧ NN p fun a => ∃ (a8 : Option Addr) (L5 C5 : Nat), cell h (a.add (i.toNat * 1)) = some (.slice a8 L5 C5) ∧ (0 ≤ (1 : Int) ∧ (1 : Int) < (L5 : Int)) ∧ NN a8 fun a9 => ∃ n4 : Int, cell h (a9.add (Int.toNat (1 : Int) * 1)) = some (.int .i64 n4) ∧ Q n4 := by
  have hl : (l.map row2).length = n := rows_len na
  rw [List.length_map] at hl
  have hg := row2_get (l := l) (i := i.toNat) (by omega)
  exact rows_get na st hi0 hi (by omega) (by rw [hg]; simp) (by rw [hg]; exact hq)
/-- A step of a dictionary, in plain lists: what is left, the error, the number. -/
def dictS (l : List E) (c : Int) (zs : List Int) : List E × Int × Int :=
  if c = 8 then (l, 0, l.length)
  else if c = 1 then (if hasKey (upS l (zs.getD 0 0)) (zs.getD 0 0) = true then (lowS l (zs.getD 0 0) ++ (zs.getD 0 0, zs.getD 1 0) :: (upS l (zs.getD 0 0)).tail, 0, 1) else if l.length = 500 then (l, 4, 0) else (lowS l (zs.getD 0 0) ++ (zs.getD 0 0, zs.getD 1 0) :: upS l (zs.getD 0 0), 0, 0))
  else if c = 2 then (if hasKey (upS l (zs.getD 0 0)) (zs.getD 0 0) = true then (l, 0, valOf (upS l (zs.getD 0 0))) else (l, 12, 0))
  else if c = 3 then (if hasKey (upS l (zs.getD 0 0)) (zs.getD 0 0) = true then (lowS l (zs.getD 0 0) ++ (upS l (zs.getD 0 0)).tail, 0, valOf (upS l (zs.getD 0 0))) else (l, 12, 0))
  else if c = 4 then (if hasKey (upS l (zs.getD 0 0)) (zs.getD 0 0) = true then (l, 0, zs.getD 0 0) else if (lowS l (zs.getD 0 0)).length = 0 then (l, 12, 0) else (l, 0, (lastOf (lowS l (zs.getD 0 0))).1))
  else if c = 5 then (if (lowS l (zs.getD 0 0)).length = l.length then (l, 12, 0) else (l, 0, (headOf (upS l (zs.getD 0 0))).1))
  else if c = 6 then (l, 0, (lowS l (zs.getD 0 0)).length)
  else (if zs.getD 0 0 < 0 ∨ (l.length : Int) ≤ zs.getD 0 0 then (l, 2, 0) else (l, 0, (l.getD (zs.getD 0 0).toNat (0, 0)).1))
abbrev DictP (h0 : Hp) (G : Bag) (l : List E) (c : Int) (zs : List Int) : Value → Hp → Prop := StepP h0 G 1 ((dictS l c zs).1.map row2) (dictS l c zs).2.1 (dictS l c zs).2.2
theorem rows_cut {h0 h : Hp} {p : Option Addr} {n c i : Nat} {rows : List (List Int)} {B G : Bag} (na : RowsA (p, n, c) rows B) (s : St h0 h (B + G)) (hi : i < n) (hn : n ≤ 1000000) :
    HCalls Tryz.prog 115 #[.slice p n c, .int .i64 (i : Int)] h (fun v h' => ∃ q d B', v = .slice q (n - 1) d ∧ RowsA (q, n - 1, d) (rows.take i ++ rows.drop (i + 1)) B' ∧ St h0 h' (B' + G)) := by
  obtain ⟨hs, B0, B1, rfl, h1, h2⟩ := na
  obtain ⟨C1, C2, rfl, c1, c2⟩ := AllH.cut h2 i
  obtain ⟨C3, C4, rfl, _, c4⟩ := AllH.cut c2 1
  rw [List.drop_drop, List.drop_drop] at c4
  refine (scut_ok (s.to (B := B0 + (C1 + (C3 + C4) + G))) h1 hi hn).mono fun v h' ⟨q, d, B', hv, o, s'⟩ => ⟨q, d, B' + (C1 + C4), hv, ⟨_, B', C1 + C4, rfl, o, c1.append c4⟩, (s'.to (B := C3 + (B' + (C1 + C4) + G))).drop⟩
theorem rows_put {h0 h : Hp} {p : Option Addr} {n c i : Nat} {rows : List (List Int)} {x : List Int} {q : Option Addr} {m d : Nat} {B Bx G : Bag} (na : RowsA (p, n, c) rows B) (o : Sl TI q m d x Bx) (s : St h0 h (B + (Bx + G))) (hi : i ≤ n) (hn : n ≤ 1000000) :
    HCalls Tryz.prog 114 #[.slice p n c, .int .i64 (i : Int), .slice q m d] h (fun v h' => ∃ q d B', v = .slice q (n + 1) d ∧ RowsA (q, n + 1, d) (rows.take i ++ x :: rows.drop i) B' ∧ St h0 h' (B' + G)) := by
  obtain ⟨hs, B0, B1, rfl, h1, h2⟩ := na
  obtain ⟨C1, C2, rfl, c1, c2⟩ := AllH.cut h2 i
  refine (sput_ok (x := (q, m, d)) (s.to (B := B0 + (C1 + C2 + (Bx + G)))) h1 hi hn).mono fun v h' ⟨q', d', B', hv, o', s'⟩ => ⟨q', d', B' + (C1 + (Bx + C2)), hv, ⟨_, B', C1 + (Bx + C2), rfl, o', c1.append ⟨Bx, C2, rfl, o, c2⟩⟩, s'.to⟩
theorem dict_b6_ok {h0 h : Hp} {b1 b2 b3 b4 : Nat} {l : List E} {p q : Option Addr} {n c m cc : Nat} {code : Int} {B G : Bag} (na : RowsA (p, n, c) (l.map row2) B) (s : St h0 h (cA b1 [.int .i64 1, .slice p n c] 66 + (cA b2 [.int .i64 code, .slice q m cc] 25 + (cA b3 [.int .i64 0, .slice none 0 0] 66 + (cA b4 [.int .i64 0, .int .i64 0, .slice none 0 0] 61 + (B + G)))))) {v : Int} {K : Value → Hp → Prop} {rows : List (List Int)} (hr : l.map row2 = rows) (hK : K = StepP h0 G 1 rows 0 v) : r03_dict_b6 (some ⟨b1, 0, none⟩) (some ⟨b3, 0, none⟩) (some ⟨b4, 0, none⟩) v h K := by
  subst hr hK
  rw [r03_dict_b6_eq]
  have kb1 := s.blk
  exact ⟨_, _, _, _, kb1.cell 0, Blk.cellA kb1 1, boxT na (D := cA b1 [.int .i64 1, .slice p n c] 66 + cA b2 [.int .i64 code, .slice q m cc] 25) s.to yield_ok⟩
theorem dict_b7_ok {h0 h : Hp} {b1 b2 b3 b4 : Nat} {l : List E} {p q : Option Addr} {n c m cc : Nat} {code : Int} {zs : List Int} {B G : Bag} (na : RowsA (p, n, c) (l.map row2) B) (s : St h0 h (cA b1 [.int .i64 1, .slice p n c] 66 + (cA b2 [.int .i64 code, .slice q m cc] 25 + (cA b3 [.int .i64 0, .slice none 0 0] 66 + (cA b4 [.int .i64 0, .int .i64 0, .slice none 0 0] 61 + (B + G)))))) (hc : code = 7) : r03_dict_b7 (some ⟨b1, 0, none⟩) (some ⟨b3, 0, none⟩) (some ⟨b4, 0, none⟩) (n : Int) (zs.getD 0 0) h (DictP h0 G l code zs) := by
  have hl : (l.map row2).length = n := rows_len na
  rw [List.length_map] at hl
  have kb1 := s.blk
  have e : dictS l code zs = (if zs.getD 0 0 < 0 ∨ (l.length : Int) ≤ zs.getD 0 0 then (l, 2, 0) else (l, 0, (l.getD (zs.getD 0 0).toNat (0, 0)).1)) := by
    subst hc; rfl
  rw [DictP, e, r03_dict_b7_eq]
  generalize zs.getD 0 0 = k
  have ss : St h0 h (cA b3 [.int .i64 0, .slice none 0 0] 66 + (cA b4 [.int .i64 0, .int .i64 0, .slice none 0 0] 61 + ((cA b1 [.int .i64 1, .slice p n c] 66 + cA b2 [.int .i64 code, .slice q m cc] 25) + (B + G)))) := s.to
  refine condP (fun h1 => ?_) (fun h1 => condP (fun h2 => ?_) (fun h2 => ?_))
  · rw [if_pos (.inl h1)]
    exact ⟨_, _, _, _, kb1.cell 0, Blk.cellA kb1 1, boxT na ss fail_ok⟩
  · rw [if_pos (.inr (by omega))]
    exact ⟨_, _, _, _, kb1.cell 0, Blk.cellA kb1 1, boxT na ss fail_ok⟩
  · rw [if_neg (by omega), r03_dict_b8_eq]
    refine ⟨_, _, _, _, kb1.cell 0, Blk.cellA kb1 1, _, _, _, Blk.cellA kb1 1, e_key na (s.at B) (by omega) (by omega) ?_⟩
    exact boxT na ss yield_ok
theorem dict_yes_ok {h0 h : Hp} {b1 b2 b3 b4 : Nat} {l : List E} {p q : Option Addr} {n c m cc : Nat} {code : Int} {zs : List Int} {B G : Bag} (na : RowsA (p, n, c) (l.map row2) B) (s : St h0 h (cA b1 [.int .i64 1, .slice p n c] 66 + (cA b2 [.int .i64 code, .slice q m cc] 25 + (cA b3 [.int .i64 0, .slice none 0 0] 66 + (cA b4 [.int .i64 0, .int .i64 0, .slice none 0 0] 61 + (B + G)))))) (hn : n ≤ 1000) (hc : code = 2 ∨ code = 3) : r03_dict_b5 (some ⟨b1, 0, none⟩) (some ⟨b2, 0, none⟩) (some ⟨b3, 0, none⟩) (some ⟨b4, 0, none⟩) (n : Int) (zs.getD 0 0) ((lowS l (zs.getD 0 0)).length : Int) (hasKey (upS l (zs.getD 0 0)) (zs.getD 0 0)) code true h (DictP h0 G l code zs) := by
  have hl : (l.map row2).length = n := rows_len na
  rw [List.length_map] at hl
  have kb1 := s.blk
  have kb2 := s.atomBlk
  have e : dictS l code zs = (if hasKey (upS l (zs.getD 0 0)) (zs.getD 0 0) = true then (if code = 3 then lowS l (zs.getD 0 0) ++ (upS l (zs.getD 0 0)).tail else l, 0, valOf (upS l (zs.getD 0 0))) else (l, 12, 0)) := by
    rcases hc with rfl | rfl <;> rfl
  rw [DictP, e, r03_dict_b5_eq]
  generalize zs.getD 0 0 = k
  have ss : St h0 h (cA b3 [.int .i64 0, .slice none 0 0] 66 + (cA b4 [.int .i64 0, .int .i64 0, .slice none 0 0] 61 + ((cA b1 [.int .i64 1, .slice p n c] 66 + cA b2 [.int .i64 code, .slice q m cc] 25) + (B + G)))) := s.to
  refine condYes rfl ?_
  by_cases hf : hasKey (upS l k) k = true
  · obtain ⟨u1, u2, u3⟩ := up_head hf
    rw [if_pos hf, hf]
    refine condNo rfl ⟨_, _, _, Blk.cellA kb1 1, e_val na (s.at B) (by omega) (by omega) ?_⟩
    rw [Int.toNat_natCast, u2]
    refine ⟨_, kb2.cell 0, condP (fun h3 => ?_) (fun h3 => ?_)⟩
    · rw [if_pos h3]
      refine ⟨_, _, _, Blk.cellA kb1 1, (rows_cut na (s.to (B := B + (cA b1 [.int .i64 1, .slice p n c] 66 + (cA b2 [.int .i64 code, .slice q m cc] 25 + (cA b3 [.int .i64 0, .slice none 0 0] 66 + (cA b4 [.int .i64 0, .int .i64 0, .slice none 0 0] 61 + G)))))) (by omega) (by omega)).mono fun v h' ⟨q', d', B', hv, na', s'⟩ => ⟨_, _, _, hv, ?_⟩⟩
      have s' := s'.to (B := cA b1 [.int .i64 1, .slice p n c] 66 + (cA b2 [.int .i64 code, .slice q m cc] 25 + (cA b3 [.int .i64 0, .slice none 0 0] 66 + (cA b4 [.int .i64 0, .int .i64 0, .slice none 0 0] 61 + (B' + G)))))
      refine s'.wr (o := 1) (add_mk _ _ _) (by simp) fun h6 s6 => ?_
      have hrow : (l.map row2).take (lowS l k).length ++ (l.map row2).drop ((lowS l k).length + 1) = (lowS l k ++ (upS l k).tail).map row2 := by
        rw [← List.map_take, ← List.map_drop, u3, low_take, ← List.map_append]
      rw [hrow] at na'
      exact dict_b6_ok na' s6 rfl rfl
    · rw [if_neg h3]
      exact dict_b6_ok na s rfl rfl
  · have hf' : hasKey (upS l k) k = false := by simpa using hf
    rw [if_neg hf, hf']
    exact condYes rfl ⟨_, _, _, _, kb1.cell 0, Blk.cellA kb1 1, boxT na ss fail_ok⟩
theorem dict_no_ok {h0 h : Hp} {b1 b2 b3 b4 : Nat} {l : List E} {p q : Option Addr} {n c m cc : Nat} {code : Int} {zs : List Int} {B G : Bag} (na : RowsA (p, n, c) (l.map row2) B) (s : St h0 h (cA b1 [.int .i64 1, .slice p n c] 66 + (cA b2 [.int .i64 code, .slice q m cc] 25 + (cA b3 [.int .i64 0, .slice none 0 0] 66 + (cA b4 [.int .i64 0, .int .i64 0, .slice none 0 0] 61 + (B + G)))))) (hn : n ≤ 1000) (hc : 4 ≤ code ∧ code ≤ 7) : r03_dict_b5 (some ⟨b1, 0, none⟩) (some ⟨b2, 0, none⟩) (some ⟨b3, 0, none⟩) (some ⟨b4, 0, none⟩) (n : Int) (zs.getD 0 0) ((lowS l (zs.getD 0 0)).length : Int) (hasKey (upS l (zs.getD 0 0)) (zs.getD 0 0)) code false h (DictP h0 G l code zs) := by
  have hl : (l.map row2).length = n := rows_len na
  rw [List.length_map] at hl
  have kb1 := s.blk
  have kb2 := s.atomBlk
  rw [r03_dict_b5_eq]
  have ss : St h0 h (cA b3 [.int .i64 0, .slice none 0 0] 66 + (cA b4 [.int .i64 0, .int .i64 0, .slice none 0 0] 61 + ((cA b1 [.int .i64 1, .slice p n c] 66 + cA b2 [.int .i64 code, .slice q m cc] 25) + (B + G)))) := s.to
  refine condNo rfl ?_
  have hll := low_len (xs := l) (key := zs.getD 0 0)
  refine condP (fun h4 => ?_) (fun h4 => condP (fun h5 => ?_) (fun h5 => condP (fun h6 => ?_) (fun h6 => ?_)))
  · have e : dictS l code zs = (if hasKey (upS l (zs.getD 0 0)) (zs.getD 0 0) = true then (l, 0, zs.getD 0 0) else if (lowS l (zs.getD 0 0)).length = 0 then (l, 12, 0) else (l, 0, (lastOf (lowS l (zs.getD 0 0))).1)) := by subst h4; rfl
    rw [DictP, e]
    generalize zs.getD 0 0 = k at hll
    refine cond_intro (fun hf => ?_) (fun hf => ?_)
    · rw [if_pos hf]
      exact ⟨_, _, _, _, kb1.cell 0, Blk.cellA kb1 1, boxT na ss yield_ok⟩
    · rw [if_neg (by rw [hf]; simp)]
      refine condP (fun h0 => ?_) (fun h0 => ?_)
      · rw [if_pos (by omega)]
        exact ⟨_, _, _, _, kb1.cell 0, Blk.cellA kb1 1, boxT na ss fail_ok⟩
      · rw [if_neg (by omega)]
        obtain ⟨w1, _, _⟩ := last_getD (xs := l) (key := k) (by omega)
        have ei : Int.toNat (((lowS l k).length : Int) - 1) = (lowS l k).length - 1 := by omega
        refine ⟨_, _, _, _, kb1.cell 0, Blk.cellA kb1 1, _, _, _, Blk.cellA kb1 1, ⟨by omega, by omega⟩, e_key na (s.at B) (by omega) (by omega) ?_⟩
        rw [ei, ← w1]
        exact boxT na ss yield_ok
  · have e : dictS l code zs = (if (lowS l (zs.getD 0 0)).length = l.length then (l, 12, 0) else (l, 0, (headOf (upS l (zs.getD 0 0))).1)) := by subst h5; rfl
    rw [DictP, e]
    generalize zs.getD 0 0 = k at hll
    refine condP (fun h0 => ?_) (fun h0 => ?_)
    · rw [if_pos (by omega)]
      exact ⟨_, _, _, _, kb1.cell 0, Blk.cellA kb1 1, boxT na ss fail_ok⟩
    · rw [if_neg (by omega)]
      refine ⟨_, _, _, _, kb1.cell 0, Blk.cellA kb1 1, _, _, _, Blk.cellA kb1 1, e_key na (s.at B) (by omega) (by omega) ?_⟩
      rw [Int.toNat_natCast]
      have hud := up_drop (xs := l) (key := k)
      rw [List.drop_eq_getElem_cons (by omega)] at hud
      have hg : l.getD (lowS l k).length (0, 0) = l[(lowS l k).length]'(by omega) := by simp [List.getD, (show (lowS l k).length < l.length by omega)]
      rw [hg, ← hud]
      exact boxT na ss yield_ok
  · have e : dictS l code zs = (l, 0, ((lowS l (zs.getD 0 0)).length : Int)) := by subst h6; rfl
    rw [DictP, e]
    exact ⟨_, _, _, _, kb1.cell 0, Blk.cellA kb1 1, boxT na ss yield_ok⟩
  · exact dict_b7_ok na s (by omega)
theorem dict_b3_ok {h0 h : Hp} {b1 b2 b3 b4 : Nat} {l : List E} {p q : Option Addr} {n c m cc : Nat} {code : Int} {zs : List Int} {B G : Bag} (na : RowsA (p, n, c) (l.map row2) B) (rz : RdS h0 G TI q m zs) (s : St h0 h (cA b1 [.int .i64 1, .slice p n c] 66 + (cA b2 [.int .i64 code, .slice q m cc] 25 + (cA b3 [.int .i64 0, .slice none 0 0] 66 + (cA b4 [.int .i64 0, .int .i64 0, .slice none 0 0] 61 + (B + G)))))) (hn : n ≤ 1000) (hc : 1 ≤ code ∧ code ≤ 7) (h2 : code = 1 → 2 ≤ zs.length) : r03_dict_b3 (some ⟨b1, 0, none⟩) (some ⟨b2, 0, none⟩) (some ⟨b3, 0, none⟩) (some ⟨b4, 0, none⟩) (n : Int) (zs.getD 0 0) ((lowS l (zs.getD 0 0)).length : Int) (hasKey (upS l (zs.getD 0 0)) (zs.getD 0 0)) h (DictP h0 G l code zs) := by
  have hl : (l.map row2).length = n := rows_len na
  rw [List.length_map] at hl
  have kb1 := s.blk
  have kb2 := s.atomBlk
  have hll := low_len (xs := l) (key := zs.getD 0 0)
  rw [r03_dict_b3_eq]
  have ss : St h0 h (cA b3 [.int .i64 0, .slice none 0 0] 66 + (cA b4 [.int .i64 0, .int .i64 0, .slice none 0 0] 61 + ((cA b1 [.int .i64 1, .slice p n c] 66 + cA b2 [.int .i64 code, .slice q m cc] 25) + (B + G)))) := s.to
  have hrz : RdT TI h q m zs := rz h (cA b1 [.int .i64 1, .slice p n c] 66 + (cA b2 [.int .i64 code, .slice q m cc] 25 + (cA b3 [.int .i64 0, .slice none 0 0] 66 + (cA b4 [.int .i64 0, .int .i64 0, .slice none 0 0] 61 + B)))) s.to
  have hzl := hrz.len
  refine ⟨_, kb2.cell 0, condP (fun h1 => ?_) (fun h1 => ?_)⟩
  · have h2 := h2 h1
    have e : dictS l code zs = (if hasKey (upS l (zs.getD 0 0)) (zs.getD 0 0) = true then (lowS l (zs.getD 0 0) ++ (zs.getD 0 0, zs.getD 1 0) :: (upS l (zs.getD 0 0)).tail, 0, 1) else if l.length = 500 then (l, 4, 0) else (lowS l (zs.getD 0 0) ++ (zs.getD 0 0, zs.getD 1 0) :: upS l (zs.getD 0 0), 0, 0)) := by subst h1; rfl
    rw [DictP, e]
    generalize zs.getD 0 0 = k at hll
    refine cond_intro (fun hf => ?_) (fun hf => ?_)
    · obtain ⟨u1, u2, u3⟩ := up_head hf
      rw [if_pos hf]
      refine ⟨_, _, _, Blk.cellA kb1 1, rows_edit na (s.at B) (by omega) (by omega) fun q1 l1 d1 Bi Br o hB hset => ⟨_, _, _, Blk.cellA kb2 1, hrz.int (by omega) (by omega) ?_⟩⟩
      rw [Int.toNat_natCast] at o hset
      rw [row2_get (by omega)] at o
      have hl1 : 2 = l1 := o.len
      have s1 : St h0 h (Bi + (cA b1 [.int .i64 1, .slice p n c] 66 + (cA b2 [.int .i64 code, .slice q m cc] 25 + (cA b3 [.int .i64 0, .slice none 0 0] 66 + (cA b4 [.int .i64 0, .int .i64 0, .slice none 0 0] 61 + (Br + G)))))) := by rw [hB] at s; exact s.to
      refine o.wrI s1 (by omega) (by omega) rfl rfl fun h' A' o' s' => ?_
      have na' := hset _ A' o'
      have hrow : (l.map row2).set (lowS l k).length ((row2 (l.getD (lowS l k).length (0, 0))).set (Int.toNat (1 : Int)) (zs.getD (Int.toNat (1 : Int)) 0)) = (lowS l k ++ (k, zs.getD 1 0) :: (upS l k).tail).map row2 := by
        have e1 : (row2 (l.getD (lowS l k).length (0, 0))).set (Int.toNat (1 : Int)) (zs.getD (Int.toNat (1 : Int)) 0) = row2 (k, zs.getD 1 0) := by rw [u2]; rfl
        rw [e1, List.set_eq_take_append_cons_drop, if_pos (by rw [List.length_map]; omega), ← List.map_take, ← List.map_drop, u3, low_take, List.map_append, List.map_cons]
      rw [hrow] at na'
      have s2 := s'.to (B := cA b3 [.int .i64 0, .slice none 0 0] 66 + (cA b4 [.int .i64 0, .int .i64 0, .slice none 0 0] 61 + ((cA b1 [.int .i64 1, .slice p n c] 66 + cA b2 [.int .i64 code, .slice q m cc] 25) + (A' + Br + G))))
      have kb1' := (s2.at (cA b1 [.int .i64 1, .slice p n c] 66)).blk
      exact ⟨_, _, _, _, kb1'.cell 0, Blk.cellA kb1' 1, boxT na' s2 yield_ok⟩
    · rw [if_neg (by rw [hf]; simp)]
      refine condP (fun h5 => ?_) (fun h5 => ?_)
      · rw [if_pos (by omega)]
        exact ⟨_, _, _, _, kb1.cell 0, Blk.cellA kb1 1, boxT na ss fail_ok⟩
      · rw [if_neg (by omega)]
        refine ⟨_, _, _, Blk.cellA kb1 1, _, _, _, Blk.cellA kb2 1, hrz.int (by omega) (by omega) ?_⟩
        refine s.new (cs := [.int .i64 k, .int .i64 (zs.getD (Int.toNat (1 : Int)) 0)]) fun b5 h5 x5 s5 => ⟨⟨_, _, _, Blk.cellA (kb1.ext x5) 1, rfl⟩, ?_⟩
        have o5 : Sl TI (some ⟨b5, 0, none⟩) 2 2 [k, zs.getD 1 0] (cA b5 [.int .i64 k, .int .i64 (zs.getD (Int.toNat (1 : Int)) 0)] 3) := Sl.of_blk (T := TI) (xs := [k, zs.getD 1 0]) rfl rfl
        have s6 := s5.to (B := B + (cA b5 [.int .i64 k, .int .i64 (zs.getD (Int.toNat (1 : Int)) 0)] 3 + (cA b1 [.int .i64 1, .slice p n c] 66 + (cA b2 [.int .i64 code, .slice q m cc] 25 + (cA b3 [.int .i64 0, .slice none 0 0] 66 + (cA b4 [.int .i64 0, .int .i64 0, .slice none 0 0] 61 + G))))))
        refine (rows_put na o5 s6 (by omega) (by omega)).mono fun v h' ⟨q', d', B', hv, na', s'⟩ => ⟨_, _, _, hv, ?_⟩
        have s' := s'.to (B := cA b1 [.int .i64 1, .slice p n c] 66 + (cA b2 [.int .i64 code, .slice q m cc] 25 + (cA b3 [.int .i64 0, .slice none 0 0] 66 + (cA b4 [.int .i64 0, .int .i64 0, .slice none 0 0] 61 + (B' + G)))))
        refine s'.wr (o := 1) (add_mk _ _ _) (by simp) fun h6 s6 => ?_
        have hrow : (l.map row2).take (lowS l k).length ++ [k, zs.getD 1 0] :: (l.map row2).drop (lowS l k).length = (lowS l k ++ (k, zs.getD 1 0) :: upS l k).map row2 := by
          rw [← List.map_take, ← List.map_drop, up_drop, low_take, List.map_append, List.map_cons]
        rw [hrow] at na'
        have s6 : St h0 h6 (cA b1 [.int .i64 1, .slice q' (n + 1) d'] 66 + (cA b2 [.int .i64 code, .slice q m cc] 25 + (cA b3 [.int .i64 0, .slice none 0 0] 66 + (cA b4 [.int .i64 0, .int .i64 0, .slice none 0 0] 61 + (B' + G))))) := s6
        have kb1' := s6.blk
        exact ⟨_, _, _, _, kb1'.cell 0, Blk.cellA kb1' 1, boxT na' (D := cA b1 [.int .i64 1, .slice q' (n + 1) d'] 66 + cA b2 [.int .i64 code, .slice q m cc] 25) s6.to yield_ok⟩
  · refine condP (fun h3 => ?_) (fun h3 => ?_)
    · rw [decide_eq_true h3]
      exact dict_yes_ok na s hn (.inl h3)
    · rcases Decidable.em (code = 3) with h4 | h4
      · rw [decide_eq_true h4]
        exact dict_yes_ok na s hn (.inr h4)
      · rw [decide_eq_false h4]
        exact dict_no_ok na s hn ⟨by omega, by omega⟩
end Go.Proofs.YtdlkohenamlnaaaGreat

/- Layer 3: a step of a dictionary. -/
set_option maxRecDepth 100000
namespace Go.Proofs.YtdlkohenamlnaaaGreat
open Go Go.Sx
def cntK (l : List E) (k : Int) : Nat := (l.filter fun e => decide (e.1 < k)).length
def hasK (l : List E) (k : Int) : Bool := l.any fun e => decide (e.1 = k)
theorem cntK_low {l : List E} {k : Int} (so : Srt l) : cntK l k = (lowS l k).length := by
  unfold cntK
  rw [upS_len (xs := l) (key := k)]
  have h1 := upS_len (xs := l) (key := k)
  rw [← h1]
  conv => lhs; rw [h1]
  rw [List.filter_append, List.filter_eq_self.2 (fun e he => decide_eq_true (low_lt e he)), List.filter_eq_nil_iff.2 (fun e he => by have := up_ge so e he; simp; omega), List.append_nil]
theorem hasK_up {l : List E} {k : Int} (so : Srt l) : hasK l k = hasKey (upS l k) k := by
  have h1 := upS_len (xs := l) (key := k)
  by_cases hf : hasKey (upS l k) k = true
  · rw [hf]
    cases hu : upS l k with
    | nil => rw [hu] at hf; cases hf
    | cons e es =>
      rw [hu] at hf
      exact List.any_eq_true.2 ⟨e, up_sub.mem (by rw [hu]; simp), hf⟩
  · have hf' : hasKey (upS l k) k = false := by simpa using hf
    rw [hf']
    unfold hasK
    rw [List.any_eq_false]
    intro e he
    rw [h1] at he
    have hY : Srt (upS l k) := so.sublist up_sub
    have hgt := key_gt hY (up_ge so) hf'
    rcases List.mem_append.1 he with he | he
    · have := low_lt e he; simp; omega
    · have := hgt e he; simp; omega
theorem dict_ok {h0 h : Hp} {l : List E} {p q : Option Addr} {n c m cc : Nat} {code : Int} {zs : List Int} {B G : Bag} (so : Srt l) (na : RowsA (p, n, c) (l.map row2) B) (rz : RdS h0 G TI q m zs) (s : St h0 h (B + G)) (hn : n ≤ 1000) (hc : 1 ≤ code ∧ code ≤ 8) (h1 : code ≠ 8 → 1 ≤ zs.length) (h2 : code = 1 → 2 ≤ zs.length) :
    HCalls Tryz.prog 77 #[.agg #[.int .i64 1, .slice p n c], .agg #[.int .i64 code, .slice q m cc]] h (DictP h0 G l code zs) := by
  have hl : (l.map row2).length = n := rows_len na
  rw [List.length_map] at hl
  refine r03_dict_call ?_
  rw [r03_dict_b0_eq]
  refine s.new (cs := [.int .i64 1, .slice p n c]) fun b1 h3 _ s1 => ?_
  refine s1.new (cs := [.int .i64 code, .slice q m cc]) fun b2 h4 _ s2 => ?_
  refine s2.new (cs := [.int .i64 0, .slice none 0 0]) fun b3 h5 _ s3 => ?_
  refine s3.new (cs := [.int .i64 0, .int .i64 0, .slice none 0 0]) fun b4 h6 _ s4 => ?_
  have s4 : St h0 h6 (cA b1 [.int .i64 1, .slice p n c] 66 + (cA b2 [.int .i64 code, .slice q m cc] 25 + (cA b3 [.int .i64 0, .slice none 0 0] 66 + (cA b4 [.int .i64 0, .int .i64 0, .slice none 0 0] 61 + (B + G))))) := s4.to
  have kb1 := s4.blk
  have kb2 := s4.atomBlk
  refine ⟨_, _, _, Blk.cellA kb1 1, _, kb2.cell 0, condP (fun h8 => ?_) (fun h8 => ?_)⟩
  · have e : dictS l code zs = (l, 0, (l.length : Int)) := by subst h8; rfl
    rw [DictP, e]
    rw [hl]
    exact ⟨_, _, _, _, kb1.cell 0, Blk.cellA kb1 1, boxT na (D := cA b1 [.int .i64 1, .slice p n c] 66 + cA b2 [.int .i64 code, .slice q m cc] 25) s4.to yield_ok⟩
  have hrz : RdT TI h6 q m zs := rz h6 (cA b1 [.int .i64 1, .slice p n c] 66 + (cA b2 [.int .i64 code, .slice q m cc] 25 + (cA b3 [.int .i64 0, .slice none 0 0] 66 + (cA b4 [.int .i64 0, .int .i64 0, .slice none 0 0] 61 + B)))) s4.to
  have hzl := hrz.len
  have h1 := h1 h8
  refine ⟨_, _, _, Blk.cellA kb2 1, hrz.int (by omega) (by omega) ?_⟩
  rw [show Int.toNat (0 : Int) = 0 from rfl]
  refine ⟨fun x h' => h' = h6 ∧ ∃ i : Nat, x.2.2.1 = i ∧ i ≤ n ∧ x.1 = (cntK (l.take i) (zs.getD 0 0) : Int) ∧ x.2.1 = hasK (l.take i) (zs.getD 0 0), fun x _ => n - x.2.2.1.toNat, ⟨rfl, 0, rfl, by omega, rfl, rfl⟩, ?_⟩
  rintro ⟨_, _, _, _⟩ h7 ⟨rfl, i, rfl, hin, rfl, rfl⟩
  dsimp only
  rw [r03_dict_b1_eq]
  refine condP (fun hlt => ?_) (fun hge => ?_)
  · have hil : i < l.length := by omega
    have hcl : cntK (l.take i) (zs.getD 0 0) ≤ i := by
      refine Nat.le_trans (List.length_filter_le _ _) ?_
      rw [List.length_take]; omega
    have e1 : ∀ k, cntK (l.take (i + 1)) k = cntK (l.take i) k + (if (l.getD i (0, 0)).1 < k then 1 else 0) := by
      intro k
      unfold cntK
      rw [take_one hil, List.filter_append, List.length_append]
      congr 1
      by_cases h : (l.getD i (0, 0)).1 < k
      · rw [if_pos h]; simp only [List.filter_cons, decide_eq_true h, if_true, List.filter_nil, List.length_singleton]
      · rw [if_neg h]; simp only [List.filter_cons, decide_eq_false h, Bool.false_eq_true, if_false, List.filter_nil, List.length_nil]
    have e2 : ∀ k, hasK (l.take (i + 1)) k = (hasK (l.take i) k || decide ((l.getD i (0, 0)).1 = k)) := by
      intro k
      unfold hasK
      rw [take_one hil, List.any_append]
      simp
    have sB := s4.at B
    have next : ∀ less : Int, less = (cntK (l.take (i + 1)) (zs.getD 0 0) : Int) → r03_dict_b2 (some ⟨b1, 0, none⟩) (some ⟨b2, 0, none⟩) (some ⟨b3, 0, none⟩) (some ⟨b4, 0, none⟩) (n : Int) (zs.getD 0 0) less (hasK (l.take i) (zs.getD 0 0)) (i : Int) h7 (fun s' h' => (h' = h7 ∧ ∃ i : Nat, s'.2.2.1 = i ∧ i ≤ n ∧ s'.1 = (cntK (l.take i) (zs.getD 0 0) : Int) ∧ s'.2.1 = hasK (l.take i) (zs.getD 0 0)) ∧ n - s'.2.2.1.toNat < n - Int.toNat (i : Int)) (DictP h0 G l code zs) := by
      rintro _ rfl
      rw [r03_dict_b2_eq]
      have b4' : ∀ there : Bool, there = hasK (l.take (i + 1)) (zs.getD 0 0) → r03_dict_b4 (some ⟨b1, 0, none⟩) (some ⟨b2, 0, none⟩) (some ⟨b3, 0, none⟩) (some ⟨b4, 0, none⟩) (n : Int) (zs.getD 0 0) (cntK (l.take (i + 1)) (zs.getD 0 0) : Int) there (i : Int) h7 (fun s' h' => (h' = h7 ∧ ∃ i : Nat, s'.2.2.1 = i ∧ i ≤ n ∧ s'.1 = (cntK (l.take i) (zs.getD 0 0) : Int) ∧ s'.2.1 = hasK (l.take i) (zs.getD 0 0)) ∧ n - s'.2.2.1.toNat < n - Int.toNat (i : Int)) (DictP h0 G l code zs) := by
        rintro _ rfl
        rw [r03_dict_b4_eq]
        exact ⟨⟨by omega, by omega⟩, ⟨rfl, i + 1, by simp only; omega, by omega, rfl, rfl⟩, by simp only; omega⟩
      refine cond_intro (fun ht => ?_) (fun ht => ?_)
      · exact b4' true (by rw [e2, ht]; rfl)
      · refine ⟨_, _, _, Blk.cellA kb1 1, e_key na sB (by omega) (by omega) ?_⟩
        rw [Int.toNat_natCast]
        exact b4' _ (by rw [e2, ht]; rfl)
    refine ⟨_, _, _, Blk.cellA kb1 1, e_key na sB (by omega) (by omega) ?_⟩
    rw [Int.toNat_natCast]
    refine condP (fun hk => ?_) (fun hk => ?_)
    · exact ⟨⟨by omega, by omega⟩, next _ (by rw [e1, if_pos hk]; push_cast; rfl)⟩
    · exact next _ (by rw [e1, if_neg hk]; rfl)
  · rw [List.take_of_length_le (by omega), cntK_low so, hasK_up so]
    exact dict_b3_ok na rz s4 hn ⟨by omega, by omega⟩ h2
/-- Step, of a dictionary: the state handed in stays. -/
theorem stepD_ok {h0 h : Hp} {l : List E} {p q : Option Addr} {n c m cc : Nat} {code : Int} {zs : List Int} {B G : Bag} (so : Srt l) (na : RowsA (p, n, c) (l.map row2) B) (rz : RdS h0 (B + G) TI q m zs) (s : St h0 h (B + G)) (hn : n ≤ 1000) (hc : 1 ≤ code ∧ code ≤ 8) (h1 : code ≠ 8 → 1 ≤ zs.length) (h2 : code = 1 → 2 ≤ zs.length) :
    HCalls Tryz.prog 39 #[.agg #[.int .i64 1, .slice p n c], .agg #[.int .i64 code, .slice q m cc]] h (DictP h0 (B + G) l code zs) := by
  refine r03_Step_call ?_
  rw [r03_Step_b0_eq]
  refine s.new (cs := [.int .i64 1, .slice p n c]) fun b1 h3 _ s1 => ?_
  refine s1.new (cs := [.int .i64 code, .slice q m cc]) fun b2 h4 _ s2 => ?_
  refine s2.new (cs := [.int .i64 0, .slice none 0 0]) fun b3 h5 _ s3 => ?_
  refine s3.new (cs := [.int .i64 0, .int .i64 0, .slice none 0 0]) fun b4 h6 _ s4 => ?_
  have kb1 := (s4.at (cA b1 [.int .i64 1, .slice p n c] 66)).blk
  refine ⟨_, _, _, _, kb1.cell 0, Blk.cellA kb1 1, ?_⟩
  have s4 : St h0 h6 (B + (cA b1 [.int .i64 1, .slice p n c] 66 + (cA b2 [.int .i64 code, .slice q m cc] 25 + (cA b3 [.int .i64 0, .slice none 0 0] 66 + (cA b4 [.int .i64 0, .int .i64 0, .slice none 0 0] 61 + G))))) := s4.to
  refine (copyState_ok na s4 (by omega) (fun r hr => by obtain ⟨e, _, rfl⟩ := List.mem_map.1 hr; simp)).mono fun v1 h7 ⟨p', c', B', hv1, na', s7⟩ => ⟨_, _, _, _, hv1, ?_⟩
  have s7 := s7.to (B := cA b1 [.int .i64 1, .slice p n c] 66 + (cA b2 [.int .i64 code, .slice q m cc] 25 + (cA b3 [.int .i64 0, .slice none 0 0] 66 + (cA b4 [.int .i64 0, .int .i64 0, .slice none 0 0] 61 + (B' + (B + G))))))
  refine s7.wr rfl (by simp) fun h8 s8 => ?_
  refine s8.wr (o := 1) (add_mk _ _ _) (by simp) fun h9 s9 => ?_
  have s9 : St h0 h9 (cA b1 [.int .i64 1, .slice p' n c'] 66 + (cA b2 [.int .i64 code, .slice q m cc] 25 + (cA b3 [.int .i64 0, .slice none 0 0] 66 + (cA b4 [.int .i64 0, .int .i64 0, .slice none 0 0] 61 + (B' + (B + G)))))) := s9
  have kb1 := s9.blk
  have kb2 := s9.atomBlk
  refine ⟨_, kb1.cell 0, condYes rfl ⟨_, _, _, _, kb1.cell 0, Blk.cellA kb1 1, _, _, _, _, kb2.cell 0, Blk.cellA kb2 1, ?_⟩⟩
  have s10 := s9.to (B := B' + ((cA b1 [.int .i64 1, .slice p' n c'] 66 + (cA b2 [.int .i64 code, .slice q m cc] 25 + (cA b3 [.int .i64 0, .slice none 0 0] 66 + cA b4 [.int .i64 0, .int .i64 0, .slice none 0 0] 61))) + (B + G)))
  have rz' : RdS h0 ((cA b1 [.int .i64 1, .slice p' n c'] 66 + (cA b2 [.int .i64 code, .slice q m cc] 25 + (cA b3 [.int .i64 0, .slice none 0 0] 66 + cA b4 [.int .i64 0, .int .i64 0, .slice none 0 0] 61))) + (B + G)) TI q m zs := fun h' A s' => rz h' (A + (cA b1 [.int .i64 1, .slice p' n c'] 66 + (cA b2 [.int .i64 code, .slice q m cc] 25 + (cA b3 [.int .i64 0, .slice none 0 0] 66 + cA b4 [.int .i64 0, .int .i64 0, .slice none 0 0] 61)))) (s'.to (B := A + (cA b1 [.int .i64 1, .slice p' n c'] 66 + (cA b2 [.int .i64 code, .slice q m cc] 25 + (cA b3 [.int .i64 0, .slice none 0 0] 66 + cA b4 [.int .i64 0, .int .i64 0, .slice none 0 0] 61))) + (B + G)))
  refine (dict_ok so na' rz' s10 hn hc h1 h2).mono fun v2 h11 ⟨q2, m2, d2, B2, hv2, na2, s11⟩ => ⟨_, _, _, _, _, _, _, _, _, hv2, ?_⟩
  have s11 : St h0 h11 (cA b3 [.int .i64 0, .slice none 0 0] 66 + (cA b4 [.int .i64 0, .int .i64 0, .slice none 0 0] 61 + ((cA b1 [.int .i64 1, .slice p' n c'] 66 + cA b2 [.int .i64 code, .slice q m cc] 25) + (B2 + (B + G))))) := s11.to
  exact boxW na2 s11
end Go.Proofs.YtdlkohenamlnaaaGreat

/- A valid operation of a dictionary. -/
set_option maxRecDepth 100000
namespace Go.Proofs.YtdlkohenamlnaaaGreat
open Go Go.Sx
theorem opv1 {code : Int} {zs : List Int} (h : OpV 1 code zs) : (1 ≤ code ∧ code ≤ 8) ∧ (code ≠ 8 → 1 ≤ zs.length) ∧ (code = 1 → 2 ≤ zs.length) ∧ ∀ z ∈ zs, KeyP z := by
  obtain ⟨h1, h2⟩ := h
  have e8 : (arT 1).length = 8 := rfl
  rw [e8] at h1
  obtain ⟨f1, f2, f3⟩ := arT_fact (k := 1) (c := code) (by omega) (by rw [e8]; exact h1)
  have f2 := f2 (by decide)
  rw [if_neg (by omega)] at h2
  have hc : code = 1 ∨ code = 2 ∨ code = 3 ∨ code = 4 ∨ code = 5 ∨ code = 6 ∨ code = 7 ∨ code = 8 := by omega
  have e : (arT 1).getD (code - 1).toNat 0 = if code = 1 then 2 else if code = 8 then 0 else 1 := by
    rcases hc with rfl | rfl | rfl | rfl | rfl | rfl | rfl | rfl <;> rfl
  rw [e] at h2
  refine ⟨⟨by omega, by omega⟩, fun h8 => ?_, fun h1' => ?_, h2.2⟩
  · have := h2.1
    rw [if_neg h8] at this
    split at this <;> omega
  · have := h2.1
    rw [if_pos h1'] at this; omega
end Go.Proofs.YtdlkohenamlnaaaGreat

/- slices.Insert of one row, Delete of one row. -/
set_option maxRecDepth 100000
namespace Go.Proofs.YtdlkohenamlnaaaGreat
open Go Go.Sx
theorem ovl_row : IsExt Tryz.prog 181 (Extern.SlicesOverlaps.overlaps Tryz.f181.params Tryz.f181.resultTypes) :=
  ⟨Tryz.f181, Tryz.func181, by kernel_rfl, by kernel_rfl, by kernel_rfl, by kernel_rfl⟩
theorem ok_rows : ElOk (tS 23) Tryz.prog 64 := elB_spec (by kernel_rfl)
theorem insertR_st {h0 h : Hp} {p : Option Addr} {n c i bv : Nat} {xs : List SH} {x : SH} {cs : List Value} {A F : Bag} (s : St h0 h (A + (cA bv cs (tS 23).e + F))) (a : Sl (tS 23) p n c xs A)
    (hcs : cs = (tS 23).enc x) (hi : i ≤ n) (hn : n < 1000000) :
    HCalls Tryz.prog 166 #[.slice p n c, .int .i64 (i : Int), .slice (some ⟨bv, 0, none⟩) 1 1] h (fun v h' => ∃ p' c' A', v = .slice p' (n + 1) c' ∧ Sl (tS 23) p' (n + 1) c' (xs.take i ++ x :: xs.drop i) A' ∧ St h0 h' (A' + (cA bv cs (tS 23).e + F))) := by
  have hcap := a.cap
  have hlen := a.len
  have one : Sl (tS 23) (some ⟨bv, 0, none⟩) 1 1 [x] (cA bv cs (tS 23).e) := Sl.one hcs
  have rv : RdT (tS 23) h (some ⟨bv, 0, none⟩) 1 [x] := one.rd (s.to (B := cA bv cs (tS 23).e + (A + F)))
  refine slices_Insert_Sint_Sint_call ?_
  rw [slices_Insert_Sint_Sint_b0_eq]
  refine ⟨⟨by omega, by omega, by omega⟩, condNo (by decide) ?_⟩
  have e1 : Int.toNat (i : Int) = i := Int.toNat_natCast i
  have e0 : Int.toNat (0 : Int) = 0 := rfl
  refine condP (fun h1 => ?_) (fun h1 => ?_)
  · have : i = n := by omega
    subst this
    refine append_sl ok_rows s a rv (by omega) fun p' c' h' A' a' s' => ?_
    refine ⟨p', c', A', rfl, ?_, s'⟩
    rw [List.take_of_length_le (by omega), List.drop_eq_nil_of_le (by omega)]
    exact a'
  have hin : i < n := by omega
  have hti : ((tS 23).cells (xs.take i)).length = i * (tS 23).sz := by rw [(tS 23).cells_len, List.length_take]; congr 1; omega
  refine ⟨⟨by omega, by omega⟩, condP (fun h2 => ?_) (fun h2 => ?_)⟩
  · -- a new block
    have hcn : c < n + 1 := by omega
    refine ⟨⟨by omega, by omega, by omega⟩, ⟨by omega, by omega⟩, ⟨by omega, by omega⟩, ?_⟩
    rw [e0, e1, subAddr_z, Nat.sub_zero, Nat.sub_zero]
    have rt : RdT (tS 23) h p i (xs.take i) := (a.rd s).take (by omega)
    have el : (((n : Int) + ((1 : Nat) : Int)) - (i : Int)).toNat = n + 1 - i := by omega
    refine append_make_st ok_rows (by kernel_rfl) (by kernel_rfl) s rt (by omega) (by omega) (by omega) fun b c' h' mid rest hc' hm hr s1 => ?_
    rw [el] at hm hr hc' ⊢
    have hl2 : i + (n + 1 - i) = n + 1 := by omega
    rw [hl2] at hr hc' ⊢
    refine ⟨⟨by omega, by omega, by omega⟩, ?_⟩
    have e2 : Int.toNat (((n + 1 : Nat) : Nat) : Int) = n + 1 := Int.toNat_natCast _
    have e3 : Int.toNat ((i : Int) + ((1 : Nat) : Int)) = i + 1 := by omega
    have e4 : Int.toNat (n : Int) = n := Int.toNat_natCast _
    rw [e2, e3, e4]
    have es1 : subAddr (some ⟨b, 0, none⟩) c' i (tS 23).sz = some ⟨b, i * (tS 23).sz, none⟩ := by rw [subAddr_in' (by omega), Nat.zero_add]
    have es2 : subAddr (some ⟨b, 0, none⟩) c' (i + 1) (tS 23).sz = some ⟨b, (i + 1) * (tS 23).sz, none⟩ := by rw [subAddr_in' (by omega), Nat.zero_add]
    rw [show subAddr (some ⟨b, 0, none⟩) c' i 1 = some ⟨b, i * (tS 23).sz, none⟩ from es1, show subAddr (some ⟨b, 0, none⟩) c' (i + 1) 1 = some ⟨b, (i + 1) * (tS 23).sz, none⟩ from es2]
    have hm1 : mid.length = (tS 23).sz + (n - i) * (tS 23).sz := by rw [hm, show n + 1 - i = 1 + (n - i) by omega, Nat.add_mul, Nat.one_mul]
    have em : mid = mid.take (tS 23).sz ++ mid.drop (tS 23).sz := (List.take_append_drop _ _).symm
    have s2 : St h0 h' (cA b ((tS 23).cells (xs.take i) ++ mid.take (tS 23).sz ++ (mid.drop (tS 23).sz ++ rest)) (tS 23).e + (A + (cA bv cs (tS 23).e + F))) := by
      have e : (tS 23).cells (xs.take i) ++ mid.take (tS 23).sz ++ (mid.drop (tS 23).sz ++ rest) = (tS 23).cells (xs.take i) ++ mid ++ rest := by
        conv => rhs; rw [em]
        simp only [List.append_assoc]
      rw [e]; exact s1
    have rv2 : RdT (tS 23) h' (some ⟨bv, 0, none⟩) 1 [x] := one.rd (s2.to (B := cA bv cs (tS 23).e + (cA b _ _ + (A + F))))
    refine copy_st (j := 1) ok_rows s2 rv2 hti (by omega) (by rw [List.length_take]; omega) fun v1 h3 s3 => ?_
    refine ⟨⟨by omega, by omega⟩, ⟨by omega, by omega, by omega⟩, ⟨by omega, by omega, by omega⟩, ?_⟩
    rw [(tS 23).cells_one] at s3
    have s4 : St h0 h3 (cA b (((tS 23).cells (xs.take i) ++ (tS 23).enc x) ++ mid.drop (tS 23).sz ++ rest) (tS 23).e + (A + (cA bv cs (tS 23).e + F))) := by
      have e : ((tS 23).cells (xs.take i) ++ (tS 23).enc x) ++ mid.drop (tS 23).sz ++ rest = (tS 23).cells (xs.take i) ++ (tS 23).enc x ++ (mid.drop (tS 23).sz ++ rest) := by simp only [List.append_assoc]
      rw [e]; exact s3
    have ra : RdT (tS 23) h3 p n xs := a.rd (s4.to (B := A + (cA b _ _ + (cA bv cs (tS 23).e + F))))
    have rs := ra.sub hi hcap rfl
    refine copy_st (j := n - i) ok_rows s4 rs (by rw [List.length_append, hti, (tS 23).len, Nat.add_mul, Nat.one_mul]) (by omega) (by rw [List.length_drop, hm1, Nat.add_sub_cancel_left]) fun v2 h4 s5 => ?_
    refine ⟨_, _, _, rfl, ⟨by simp; omega, .inr ⟨b, rest, rfl, hc', hr, rfl⟩⟩, ?_⟩
    rw [(tS 23).cells_append, (tS 23).cells_cons]
    have e : (tS 23).cells (xs.take i) ++ ((tS 23).enc x ++ (tS 23).cells (xs.drop i)) ++ rest = (tS 23).cells (xs.take i) ++ (tS 23).enc x ++ (tS 23).cells (xs.drop i) ++ rest := by simp only [List.append_assoc]
    rw [e]
    exact (s5.to (B := A + (cA b _ _ + (cA bv cs (tS 23).e + F)))).drop
  · -- in place
    have hcn : n + 1 ≤ c := by omega
    rcases a with ⟨hl, ⟨rfl, h3, _, _⟩ | ⟨b, rest, rfl, hc, hr, rfl⟩⟩
    · omega
    have a : Sl (tS 23) (some ⟨b, 0, none⟩) n c xs (cA b ((tS 23).cells xs ++ rest) (tS 23).e) := ⟨hl, .inr ⟨b, rest, rfl, hc, hr, rfl⟩⟩
    have e3 : Int.toNat ((i : Int) + ((1 : Nat) : Int)) = i + 1 := by omega
    have e4 : Int.toNat (n : Int) = n := Int.toNat_natCast _
    have e5 : Int.toNat ((n : Int) + ((1 : Nat) : Int)) = n + 1 := by omega
    have e6 : Int.toNat (((n + 1 : Nat) : Nat) : Int) = n + 1 := Int.toNat_natCast _
    simp only [e0, e1, e3, e4, e5, e6, subAddr_z, Nat.sub_zero]
    refine ⟨⟨by omega, by omega⟩, ⟨by omega, by omega, by omega⟩, ⟨by omega, by omega⟩, ⟨by omega, by omega, by omega⟩, ?_⟩
    have es1 : subAddr (some ⟨b, 0, none⟩) c (i + 1) (tS 23).sz = some ⟨b, (i + 1) * (tS 23).sz, none⟩ := by rw [subAddr_in' (by omega), Nat.zero_add]
    rw [show subAddr (some ⟨b, 0, none⟩) c (i + 1) 1 = some ⟨b, (i + 1) * (tS 23).sz, none⟩ from es1]
    obtain ⟨i0, z, hi0, hz, hzs, hzc, hbt⟩ := (ok_rows).info
    have hrl : (tS 23).sz ≤ rest.length := by rw [hr]; calc (tS 23).sz = 1 * (tS 23).sz := (Nat.one_mul _).symm
                                              _ ≤ (c - n) * (tS 23).sz := Nat.mul_le_mul_right _ (by omega)
    have er : rest = rest.take (tS 23).sz ++ rest.drop (tS 23).sz := (List.take_append_drop _ _).symm
    refine overlaps_st ovl_row (t := 64) (e := 23) (by kernel_rfl) (by kernel_rfl) hi0 (s.to (B := cA bv cs (tS 23).e + (cA b _ _ + F))) ⟨_, rfl, ?_⟩
    refine ⟨⟨by omega, by omega⟩, ⟨by omega, by omega, by omega⟩, ⟨by omega, by omega, by omega⟩, ?_⟩
    -- the elements from i on move by one
    have hdl : ((tS 23).cells (xs.drop i)).length = (n - i) * (tS 23).sz := by rw [(tS 23).cells_len, List.length_drop, hl]
    have hd1l : ((tS 23).cells (xs.drop (i + 1))).length = (n - (i + 1)) * (tS 23).sz := by rw [(tS 23).cells_len, List.length_drop, hl]
    have ht1 : ((tS 23).cells (xs.take (i + 1))).length = (i + 1) * (tS 23).sz := by rw [(tS 23).cells_len, List.length_take]; congr 1; omega
    have s1 : St h0 h (cA b ((tS 23).cells (xs.take (i + 1)) ++ ((tS 23).cells (xs.drop (i + 1)) ++ rest.take (tS 23).sz) ++ rest.drop (tS 23).sz) (tS 23).e + (cA bv cs (tS 23).e + F)) := by
      have e : (tS 23).cells (xs.take (i + 1)) ++ ((tS 23).cells (xs.drop (i + 1)) ++ rest.take (tS 23).sz) ++ rest.drop (tS 23).sz = (tS 23).cells xs ++ rest := by
        rw [List.append_assoc, List.append_assoc, ← er, ← List.append_assoc, ← (tS 23).cells_append, List.take_append_drop]
      rw [e]; exact s
    have rx : RdT (tS 23) h (some ⟨b, 0, none⟩) n xs := a.rd s
    have rs : RdT (tS 23) h (subAddr (some ⟨b, 0, none⟩) c i (tS 23).sz) (n - i) (xs.drop i) := rx.sub hi hcap rfl
    refine copy_st (j := n - i) ok_rows s1 rs ht1 (by omega) (by rw [List.length_append, hd1l, List.length_take, Nat.min_eq_left hrl, show n - i = (n - (i + 1)) + 1 by omega, Nat.add_mul, Nat.one_mul]) fun v4 h5 s5 => ?_
    refine ⟨⟨by omega, by omega, by omega⟩, ?_⟩
    have es2 : subAddr (some ⟨b, 0, none⟩) c i (tS 23).sz = some ⟨b, i * (tS 23).sz, none⟩ := by rw [subAddr_in' (by omega), Nat.zero_add]
    rw [show subAddr (some ⟨b, 0, none⟩) c i 1 = some ⟨b, i * (tS 23).sz, none⟩ from es2]
    have s6 : St h0 h5 (cA b ((tS 23).cells (xs.take i) ++ (tS 23).enc xs[i] ++ ((tS 23).cells (xs.drop i) ++ rest.drop (tS 23).sz)) (tS 23).e + (cA bv cs (tS 23).e + F)) := by
      have e : (tS 23).cells (xs.take i) ++ (tS 23).enc xs[i] ++ ((tS 23).cells (xs.drop i) ++ rest.drop (tS 23).sz) = (tS 23).cells (xs.take (i + 1)) ++ (tS 23).cells (xs.drop i) ++ rest.drop (tS 23).sz := by
        rw [List.take_succ_eq_append_getElem (by omega), (tS 23).cells_append, (tS 23).cells_one]; simp only [List.append_assoc]
      rw [e]; exact s5
    have rv5 : RdT (tS 23) h5 (some ⟨bv, 0, none⟩) 1 [x] := one.rd (s6.to (B := cA bv cs (tS 23).e + (cA b _ _ + F)))
    refine copy_st (j := 1) ok_rows s6 rv5 hti (by omega) (by rw [(tS 23).len, Nat.one_mul]) fun v5 h6 s7 => ?_
    refine ⟨_, _, _, rfl, ⟨by simp; omega, .inr ⟨b, rest.drop (tS 23).sz, rfl, hcn, ?_, rfl⟩⟩, ?_⟩
    · rw [List.length_drop, hr, show c - n = (c - (n + 1)) + 1 by omega, Nat.add_mul, Nat.one_mul]; omega
    · rw [(tS 23).cells_one] at s7
      rw [(tS 23).cells_append, (tS 23).cells_cons]
      have e : (tS 23).cells (xs.take i) ++ ((tS 23).enc x ++ (tS 23).cells (xs.drop i)) ++ rest.drop (tS 23).sz = (tS 23).cells (xs.take i) ++ (tS 23).enc x ++ ((tS 23).cells (xs.drop i) ++ rest.drop (tS 23).sz) := by simp only [List.append_assoc]
      rw [e]
      exact s7
theorem deleteR_st {h0 h : Hp} {p : Option Addr} {n c i : Nat} {j : Int} {xs : List SH} {A F : Bag} (s : St h0 h (A + F)) (a : Sl (tS 23) p n c xs A) (hi : i < n) (hj : j = (i : Int) + 1) (hn : n < 1000000) :
    HCalls Tryz.prog 167 #[.slice p n c, .int .i64 (i : Int), .int .i64 j] h (fun v h' => ∃ A', v = .slice p (n - 1) c ∧ Sl (tS 23) p (n - 1) c (xs.take i ++ xs.drop (i + 1)) A' ∧ St h0 h' (A' + F)) := by
  obtain rfl : j = ((i + 1 : Nat) : Int) := by omega
  have hcap := a.cap
  have hlen := a.len
  have rd := a.rd s
  refine slices_Delete_Sint_Sint_call ?_
  rw [slices_Delete_Sint_Sint_b0_eq]
  refine slC_st (ok_rows).el (by omega) (by omega) hcap fun _ => condP (fun h1 => by omega) (fun _ => ?_)
  have e1 : Int.toNat (i : Int) = i := Int.toNat_natCast i
  have e2 : Int.toNat ((i + 1 : Nat) : Int) = i + 1 := Int.toNat_natCast _
  have e3 : Int.toNat (n : Int) = n := Int.toNat_natCast _
  have e0 : Int.toNat (0 : Int) = 0 := rfl
  refine ⟨⟨by omega, by omega, by omega⟩, ⟨by omega, by omega, by omega⟩, ?_⟩
  rw [e0, e1, e2, e3, subAddr_z, Nat.sub_zero, Nat.sub_zero]
  rcases a with ⟨hl, ⟨rfl, h3, _, _⟩ | ⟨b, rest, rfl, hc, hr, rfl⟩⟩
  · omega
  have hti : ((tS 23).cells (xs.take i)).length = i * (tS 23).sz := by rw [(tS 23).cells_len, List.length_take]; congr 1; omega
  have hdl : ((tS 23).cells (xs.drop i)).length = (n - i) * (tS 23).sz := by rw [(tS 23).cells_len, List.length_drop, hl]
  have hd1l : ((tS 23).cells (xs.drop (i + 1))).length = (n - (i + 1)) * (tS 23).sz := by rw [(tS 23).cells_len, List.length_drop, hl]
  have s1 : St h0 h (cA b ((tS 23).cells (xs.take i) ++ ((tS 23).cells (xs.drop i)).take ((n - (i + 1)) * (tS 23).sz) ++ (((tS 23).cells (xs.drop i)).drop ((n - (i + 1)) * (tS 23).sz) ++ rest)) (tS 23).e + F) := by
    have e : (tS 23).cells (xs.take i) ++ ((tS 23).cells (xs.drop i)).take ((n - (i + 1)) * (tS 23).sz) ++ (((tS 23).cells (xs.drop i)).drop ((n - (i + 1)) * (tS 23).sz) ++ rest) = (tS 23).cells xs ++ rest := by
      rw [List.append_assoc, ← List.append_assoc _ _ rest, List.take_append_drop, ← List.append_assoc, ← (tS 23).cells_append, List.take_append_drop]
    rw [e]; exact s
  have hle : (n - (i + 1)) * (tS 23).sz ≤ (n - i) * (tS 23).sz := Nat.mul_le_mul_right _ (by omega)
  refine append_fit_st ok_rows s1 hti (by rw [List.length_take, hdl]; omega) (rd.sub (by omega) hcap rfl) (by omega) fun h' s2 => ?_
  refine ⟨⟨by omega, by omega, by omega⟩, ?_⟩
  have e4 : Int.toNat ((i + (n - (i + 1)) : Nat) : Int) = n - 1 := by omega
  have e5 : i + (n - (i + 1)) = n - 1 := by omega
  rw [e4, show subAddr (some ⟨b, 0, none⟩) c (n - 1) 1 = some ⟨b, (n - 1) * (tS 23).sz, none⟩ by rw [show subAddr (some ⟨b, 0, none⟩) c (n - 1) 1 = subAddr (some ⟨b, 0, none⟩) c (n - 1) (tS 23).sz from rfl, subAddr_in' (by omega), Nat.zero_add]]
  rw [← (tS 23).cells_append, ← List.append_assoc] at s2
  have hl1 : (xs.take i ++ xs.drop (i + 1)).length = n - 1 := by rw [List.length_append, List.length_take, List.length_drop]; omega
  have hn1 : n - (n - 1) = 1 := by omega
  refine clear_st ok_rows s2 (by rw [(tS 23).cells_len, hl1]) (by
    rw [List.length_drop, hdl, ← Nat.sub_mul]; congr 1; omega) fun h2 zs hzl s3 => ?_
  rw [e5]
  refine ⟨_, rfl, ⟨hl1, .inr ⟨b, zs ++ rest, rfl, by omega, ?_, rfl⟩⟩, ?_⟩
  · rw [List.length_append, hzl, hr, ← Nat.add_mul]; congr 1; omega
  · rw [← List.append_assoc]; exact s3
end Go.Proofs.YtdlkohenamlnaaaGreat

/- Layer 3's model: comparing rows, finding a row. -/
set_option maxRecDepth 100000
namespace Go.Proofs.YtdlkohenamlnaaaGreat
open Go Go.Sx
def cmpS (x y : Int) : Int := if x < y then -1 else if y < x then 1 else 0
def cmpL : List Int → List Int → Int
  | [], [] => 0
  | [], _ :: _ => -1
  | _ :: _, [] => 1
  | x :: xs, y :: ys => if x < y then -1 else if y < x then 1 else cmpL xs ys
theorem cmp_ok (x y : Int) (h : Hp) : HCalls Tryz.prog 103 #[.int .i64 x, .int .i64 y] h (fun v h' => v = .int .i64 (cmpS x y) ∧ h' = h) := by
  refine cmp_Compare_int_call ?_
  rw [cmp_Compare_int_b0_eq]
  have nan : ∀ (z : Int) {K : Value → Hp → Prop}, K (.bool false) h → HCalls Tryz.prog 99 #[.int .i64 z] h K := fun z K hK => by
    refine cmp_isNaN_int_call ?_
    rw [cmp_isNaN_int_b0_eq, decide_eq_true rfl]
    exact hK
  refine nan x ⟨_, rfl, nan y ⟨_, rfl, condNo rfl (condNo rfl ?_)⟩⟩
  refine condP (fun h1 => ?_) (fun h1 => condP (fun h2 => ?_) (fun h2 => ?_))
  · exact ⟨by rw [cmpS, if_pos h1], rfl⟩
  · exact ⟨by rw [cmpS, if_neg h1, if_pos h2], rfl⟩
  · exact ⟨by rw [cmpS, if_neg h1, if_neg h2], rfl⟩
theorem cmpL_ok {h : Hp} {p q : Option Addr} {n m c d : Nat} {xs ys : List Int} (r1 : RdT TI h p n xs) (r2 : RdT TI h q m ys) (hn : n ≤ 1000000) :
    HCalls Tryz.prog 161 #[.slice p n c, .slice q m d] h (fun v h' => v = .int .i64 (cmpL xs ys) ∧ h' = h) := by
  have hx := r1.len
  have hy := r2.len
  refine slices_Compare_Sint_int_call ?_
  rw [slices_Compare_Sint_int_b0_eq]
  refine ⟨fun s h' => h' = h ∧ ∃ i : Nat, s.1 = i ∧ i ≤ n ∧ i ≤ m ∧ cmpL xs ys = cmpL (xs.drop i) (ys.drop i), fun s _ => n - s.1.toNat, ⟨rfl, 0, rfl, by omega, by omega, rfl⟩, ?_⟩
  rintro ⟨_, _⟩ h1 ⟨rfl, i, rfl, hin, him, heq⟩
  dsimp only
  rw [slices_Compare_Sint_int_b1_eq]
  refine condP (fun hlt => ?_) (fun hge => ?_)
  · refine r1.int (by omega) (by omega) ?_
    rw [Int.toNat_natCast]
    have hil : i < xs.length := by omega
    have hg : xs.getD i 0 = xs[i] := by simp [List.getD, hil]
    have hd : xs.drop i = xs.getD i 0 :: xs.drop (i + 1) := by rw [hg, ← List.drop_eq_getElem_cons hil]
    refine condP (fun hm => ?_) (fun hm => ?_)
    · refine ⟨?_, rfl⟩
      rw [heq, hd, List.drop_of_length_le (show ys.length ≤ i by omega)]
      rfl
    · refine r2.int (by omega) (by omega) ?_
      rw [Int.toNat_natCast]
      have hjl : i < ys.length := by omega
      have hg2 : ys.getD i 0 = ys[i] := by simp [List.getD, hjl]
      have hd2 : ys.drop i = ys.getD i 0 :: ys.drop (i + 1) := by rw [hg2, ← List.drop_eq_getElem_cons hjl]
      refine (cmp_ok _ _ h1).mono fun v h2 ⟨hv, hh⟩ => ⟨_, hv, ?_⟩
      subst hh
      rw [hd, hd2] at heq
      have hc : cmpL (xs.getD i 0 :: xs.drop (i + 1)) (ys.getD i 0 :: ys.drop (i + 1)) = if xs.getD i 0 < ys.getD i 0 then -1 else if ys.getD i 0 < xs.getD i 0 then 1 else cmpL (xs.drop (i + 1)) (ys.drop (i + 1)) := rfl
      rw [hc] at heq
      refine condN (fun hne => ?_) (fun h0 => ?_)
      · refine ⟨?_, rfl⟩
        rw [heq]
        unfold cmpS at hne ⊢
        split
        · rfl
        · split
          · rfl
          · rename_i a b; rw [if_neg a, if_neg b] at hne; exact absurd rfl hne
      · rw [slices_Compare_Sint_int_b2_eq]
        refine ⟨⟨by omega, by omega⟩, ⟨rfl, i + 1, by simp only; omega, by omega, by omega, ?_⟩, by simp only; omega⟩
        rw [heq]
        unfold cmpS at h0
        split
        · rename_i a; rw [if_pos a] at h0; omega
        · split
          · rename_i a b; rw [if_neg a, if_pos b] at h0; omega
          · rfl
  · rw [slices_Compare_Sint_int_b3_eq]
    have hxd : xs.drop i = [] := List.drop_of_length_le (by omega)
    rw [hxd] at heq
    refine condP (fun hlt => ⟨?_, rfl⟩) (fun hlt => ⟨?_, rfl⟩)
    · have hjl : i < ys.length := by omega
      rw [heq, List.drop_eq_getElem_cons hjl]; rfl
    · have : ys.drop i = [] := List.drop_of_length_le (by omega)
      rw [heq, this]; rfl
/-- A row's first elements against a key. -/
def cmpK (rows : List (List Int)) (ks : List Int) (j : Nat) : Int := cmpL ((rows.getD j []).take ks.length) ks
theorem find_ok {h0 h : Hp} {p q : Option Addr} {n c m d t : Nat} {rows : List (List Int)} {ks : List Int} {B G : Bag} (na : RowsA (p, n, c) rows B) (s : St h0 h (B + G)) (rk : RdT TI h q m ks) (hn : n ≤ 1000000) (hm : ∀ r ∈ rows, m ≤ r.length ∧ r.length ≤ 1000000)
    (ht : t ≤ n ∧ (∀ j, j < t → cmpK rows ks j < 0) ∧ ∀ j, t ≤ j → j < n → 0 ≤ cmpK rows ks j) :
    HCalls Tryz.prog 165 #[.slice p n c, .slice q m d] h (fun v h' => v = .tuple #[.int .i64 (t : Int), .bool (decide (t < n ∧ cmpK rows ks t = 0))] ∧ h' = h) := by
  have hrl : rows.length = n := rows_len na
  have hkl := rk.len
  obtain ⟨htn, hlo, hhi⟩ := ht
  -- a row is compared
  have one : ∀ {i : Int} {Q : Option Addr → Nat → Nat → Prop}, 0 ≤ i → i < n → (∀ a l e, (∀ K : Value → Hp → Prop, K (.int .i64 (cmpK rows ks i.toNat)) h → callX Tryz.prog F 180 #[.slice a l e, .slice q m d] h K) → Q a l e) →
      (0 ≤ i ∧ i < (n : Int)) ∧ NN p fun a1 => ∃ (a2 : Option Addr) (L1 C1 : Nat), cell h (a1.add (Int.toNat i * 1)) = some (.slice a2 L1 C1) ∧ Q a2 L1 C1 := by
    intro i Q hi0 hi hq
    refine Nest.at_ (d := []) na s hi0 hi fun a l e Bi Br o hB => hq a l e fun K hK => ?_
    have o : Sl TI a l e (rows.getD i.toNat []) Bi := o
    have hl1 := o.len
    have hcap := o.cap
    have st2 : St h0 h (Bi + (Br + G)) := by rw [hB] at s; exact s.to
    have hil : i.toNat < rows.length := by omega
    have hg : rows.getD i.toNat [] = rows[i.toNat] := by simp [List.getD, hil]
    have hmi := hm _ (List.getElem_mem hil)
    rw [← hg] at hmi
    refine callX_of (by kernel_rfl) (model_find_c1_call ?_)
    rw [model_find_c1_b0_eq]
    have e0 : Int.toNat (0 : Int) = 0 := rfl
    refine ⟨⟨by omega, by omega, by omega⟩, ?_⟩
    rw [e0, subAddr_z, Int.toNat_natCast, Nat.sub_zero, Nat.sub_zero]
    refine (cmpL_ok ((o.rd st2).take (i := m) (by omega)) rk (by omega)).mono fun v h2 ⟨hv, hh⟩ => ⟨_, hv, ?_⟩
    subst hh
    have : cmpK rows ks i.toNat = cmpL ((rows.getD i.toNat []).take m) ks := by rw [cmpK, hkl]
    rw [← this]
    exact hK
  refine model_find_call ?_
  rw [model_find_b0_eq]
  refine HCalls.mono (K := fun v h' => v = .tuple #[.int .i64 (t : Int), .bool (decide (t < n ∧ cmpK rows ks t = 0))] ∧ h' = h) ?_ (fun v h' ⟨hv, hh⟩ => ⟨_, _, hv, rfl, hh⟩)
  refine slices_BinarySearchFunc_Sint_Sint_Sint_call ?_
  rw [slices_BinarySearchFunc_Sint_Sint_Sint_b0_eq]
  refine ⟨fun x h' => h' = h ∧ ∃ i j : Nat, x.1 = i ∧ x.2.1 = j ∧ i ≤ t ∧ t ≤ j ∧ j ≤ n, fun x _ => (x.2.1 - x.1).toNat, ⟨rfl, 0, n, rfl, rfl, by omega, htn, by omega⟩, ?_⟩
  rintro ⟨_, _, _⟩ h1 ⟨rfl, i, j, rfl, rfl, hit, htj, hjn⟩
  dsimp only
  rw [slices_BinarySearchFunc_Sint_Sint_Sint_b1_eq]
  refine condP (fun hlt => ?_) (fun hge => ?_)
  · have e1 : IntKind.u64.wrap ((i : Int) + (j : Int)) = ((i + j : Nat) : Int) := by
      show ((i : Int) + (j : Int)) % 18446744073709551616 = _
      rw [Int.emod_eq_of_lt (by omega) (by omega)]; push_cast; rfl
    refine ⟨⟨by omega, by omega⟩, (((i + j) / 2 : Nat) : Int), ⟨by omega, ?_⟩, ⟨by omega, by omega⟩, ?_⟩
    · rw [e1]
      have : (2 : Int) ^ (min (Int.toNat 1) IntKind.u64.bits) = 2 := by decide
      rw [this]
      rw [Int.fdiv_eq_ediv_of_nonneg _ (by omega)]
      omega
    refine one (by omega) (by omega) fun a l e hX => ?_
    refine hX _ ⟨_, rfl, condP (fun h3 => ?_) (fun h3 => ?_)⟩
    · rw [Int.toNat_natCast] at h3
      have : (i + j) / 2 < t := by
        rcases Nat.lt_or_ge ((i + j) / 2) t with h | h
        · exact h
        · have := hhi _ h (by omega); omega
      exact ⟨⟨by omega, by omega⟩, ⟨rfl, (i + j) / 2 + 1, j, by simp only; omega, rfl, by omega, htj, hjn⟩, by simp only; omega⟩
    · rw [Int.toNat_natCast] at h3
      have : t ≤ (i + j) / 2 := by
        rcases Nat.lt_or_ge ((i + j) / 2) t with h | h
        · have := hlo _ h; omega
        · exact h
      exact ⟨⟨rfl, i, (i + j) / 2, rfl, rfl, hit, this, by omega⟩, by simp only; omega⟩
  · obtain rfl : i = t := by omega
    rw [slices_BinarySearchFunc_Sint_Sint_Sint_b2_eq]
    refine condP (fun hin => ?_) (fun hin => ?_)
    · refine one (by omega) (by omega) fun a l e hX => ?_
      refine hX _ ⟨_, rfl, ?_, rfl⟩
      rw [Int.toNat_natCast]
      rw [show decide (cmpK rows ks i = 0) = decide (i < n ∧ cmpK rows ks i = 0) from decide_eq_decide.2 ⟨fun h => ⟨by omega, h⟩, fun h => h.2⟩]
    · refine ⟨?_, rfl⟩
      rw [decide_eq_false (fun h => hin (by omega))]
theorem mresult_ok (z : Int) (h : Hp) : HCalls Tryz.prog 163 #[.int .i64 z] h (fun v h' => v = .agg #[.int .i64 0, .int .i64 z, .slice none 0 0] ∧ Ext h h') := by
  refine model_result_call ?_
  rw [model_result_b0_eq]
  refine (St.start h).new (cs := [.int .i64 0, .int .i64 0, .slice none 0 0]) fun b1 h1 _ s1 => ?_
  refine s1.wr rfl (by simp) fun h2 s2 => ?_
  refine s2.wr (o := 1) (add_mk _ _ _) (by simp) fun h3 s3 => ?_
  refine s3.wr (o := 2) (add_mk _ _ _) (by simp) fun h4 s4 => ?_
  exact ⟨_, _, _, _, _, s4.blk.cell 0, Blk.cellA s4.blk 1, Blk.cellA s4.blk 2, rfl, s4.ext⟩
theorem mfailed_ok (z : Int) (h : Hp) : HCalls Tryz.prog 164 #[.int .i64 z] h (fun v h' => v = .agg #[.int .i64 z, .int .i64 0, .slice none 0 0] ∧ Ext h h') := by
  refine model_failed_call ?_
  rw [model_failed_b0_eq]
  refine (St.start h).new (cs := [.int .i64 0, .int .i64 0, .slice none 0 0]) fun b1 h1 _ s1 => ?_
  refine s1.wr rfl (by simp) fun h2 s2 => ?_
  refine s2.wr (o := 1) (add_mk _ _ _) (by simp) fun h3 s3 => ?_
  refine s3.wr (o := 2) (add_mk _ _ _) (by simp) fun h4 s4 => ?_
  exact ⟨_, _, _, _, _, s4.blk.cell 0, Blk.cellA s4.blk 1, Blk.cellA s4.blk 2, rfl, s4.ext⟩
end Go.Proofs.YtdlkohenamlnaaaGreat

/- Layer 3's model: a dictionary's step. -/
set_option maxRecDepth 100000
namespace Go.Proofs.YtdlkohenamlnaaaGreat
open Go Go.Sx
/-- One more row. -/
theorem mrows_put {h0 h : Hp} {p : Option Addr} {n c i b : Nat} {rows : List (List Int)} {x : List Int} {q : Option Addr} {m d : Nat} {B Bx G : Bag} (na : RowsA (p, n, c) rows B) (o : Sl TI q m d x Bx) (s : St h0 h (cA b [.slice q m d] 23 + (B + (Bx + G)))) (hi : i ≤ n) (hn : n < 1000000) :
    HCalls Tryz.prog 166 #[.slice p n c, .int .i64 (i : Int), .slice (some ⟨b, 0, none⟩) 1 1] h (fun v h' => ∃ q' d' B', v = .slice q' (n + 1) d' ∧ RowsA (q', n + 1, d') (rows.take i ++ x :: rows.drop i) B' ∧ St h0 h' (B' + G)) := by
  obtain ⟨hs, B0, B1, rfl, h1, h2⟩ := na
  obtain ⟨C1, C2, rfl, c1, c2⟩ := AllH.cut h2 i
  have s1 : St h0 h (B0 + (cA b [.slice q m d] (tS 23).e + (C1 + C2 + (Bx + G)))) := s.to (B := B0 + (cA b [.slice q m d] 23 + (C1 + C2 + (Bx + G))))
  refine (insertR_st (x := (q, m, d)) s1 h1 rfl hi hn).mono fun v h' ⟨q', d', B', hv, o', s'⟩ => ⟨q', d', B' + (C1 + (Bx + C2)), hv, ⟨_, B', C1 + (Bx + C2), rfl, o', c1.append ⟨Bx, C2, rfl, o, c2⟩⟩, ?_⟩
  have s' : St h0 h' (B' + (cA b [.slice q m d] 23 + (C1 + C2 + (Bx + G)))) := s'
  exact (s'.to (B := cA b [.slice q m d] 23 + (B' + (C1 + (Bx + C2)) + G))).drop
/-- A row less. -/
theorem mrows_cut {h0 h : Hp} {p : Option Addr} {n c i : Nat} {j : Int} {rows : List (List Int)} {B G : Bag} (na : RowsA (p, n, c) rows B) (s : St h0 h (B + G)) (hi : i < n) (hj : j = (i : Int) + 1) (hn : n < 1000000) :
    HCalls Tryz.prog 167 #[.slice p n c, .int .i64 (i : Int), .int .i64 j] h (fun v h' => ∃ B', v = .slice p (n - 1) c ∧ RowsA (p, n - 1, c) (rows.take i ++ rows.drop (i + 1)) B' ∧ St h0 h' (B' + G)) := by
  obtain ⟨hs, B0, B1, rfl, h1, h2⟩ := na
  obtain ⟨C1, C2, rfl, c1, c2⟩ := AllH.cut h2 i
  obtain ⟨C3, C4, rfl, _, c4⟩ := AllH.cut c2 1
  rw [List.drop_drop, List.drop_drop] at c4
  refine (deleteR_st (s.to (B := B0 + (C1 + (C3 + C4) + G))) h1 hi hj hn).mono fun v h' ⟨B', hv, o, s'⟩ => ⟨B' + (C1 + C4), hv, ⟨_, B', C1 + C4, rfl, o, c1.append c4⟩, (s'.to (B := C3 + (B' + (C1 + C4) + G))).drop⟩
/-- What a step of the model leaves: rows and a result. -/
def MStepP (h0 : Hp) (G : Bag) (rows : List (List Int)) (e z : Int) (v : Value) (h' : Hp) : Prop :=
  ∃ q m d B', v = .tuple #[.slice q m d, .agg #[.int .i64 e, .int .i64 z, .slice none 0 0]] ∧ RowsA (q, m, d) rows B' ∧ St h0 h' (B' + G)
theorem mboxW {h0 h : Hp} {b2 : Nat} {y0 y1 y2 : Value} {D B G : Bag} {p : Option Addr} {n c : Nat} {e z : Int} {rows : List (List Int)} (na : RowsA (p, n, c) rows B)
    (s : St h0 h (cA b2 [y0, y1, y2] 61 + (D + (B + G)))) :
    Wr h ⟨b2, 0, none⟩ (.int .i64 e) fun h4 => Wr h4 ((⟨b2, 0, none⟩ : Addr).add 1) (.int .i64 z) fun h5 => Wr h5 ((⟨b2, 0, none⟩ : Addr).add 2) (.slice none 0 0) fun h6 =>
      ∃ r4 : Int, ∃ r5 : Int, ∃ (r6 : Option Addr) (rL2 rC2 : Nat), cell h6 ⟨b2, 0, none⟩ = some (.int .i64 r4) ∧ cell h6 ((⟨b2, 0, none⟩ : Addr).add 1) = some (.int .i64 r5) ∧ cell h6 ((⟨b2, 0, none⟩ : Addr).add 2) = some (.slice r6 rL2 rC2) ∧
      MStepP h0 G rows e z (.tuple #[.slice p n c, .agg #[.int .i64 r4, .int .i64 r5, .slice r6 rL2 rC2]]) h6 := by
  refine s.wr rfl (by simp) fun h8 s8 => ?_
  refine s8.wr (o := 1) (add_mk _ _ _) (by simp) fun h9 s9 => ?_
  refine s9.wr (o := 2) (add_mk _ _ _) (by simp) fun h10 s10 => ?_
  refine ⟨_, _, _, _, _, s10.blk.cell 0, Blk.cellA s10.blk 1, Blk.cellA s10.blk 2, p, n, c, B, rfl, na, ?_⟩
  exact (s10.drop).drop
theorem mboxT {g : Nat} {args : Array Value} {h0 h : Hp} {b2 : Nat} {y0 y1 y2 : Value} {D B G : Bag} {p : Option Addr} {n c : Nat} {e z : Int} {rows : List (List Int)} (na : RowsA (p, n, c) rows B)
    (s : St h0 h (cA b2 [y0, y1, y2] 61 + (D + (B + G))))
    (hc : HCalls Tryz.prog g args h (fun v h' => v = .agg #[.int .i64 e, .int .i64 z, .slice none 0 0] ∧ Ext h h')) :
    HCalls Tryz.prog g args h fun v1 h3 => ∃ r1 : Int, ∃ r2 : Int, ∃ (r3 : Option Addr) (rL1 rC1 : Nat), v1 = .agg #[.int .i64 r1, .int .i64 r2, .slice r3 rL1 rC1] ∧
      Wr h3 ⟨b2, 0, none⟩ (.int .i64 r1) fun h4 => Wr h4 ((⟨b2, 0, none⟩ : Addr).add 1) (.int .i64 r2) fun h5 => Wr h5 ((⟨b2, 0, none⟩ : Addr).add 2) (.slice r3 rL1 rC1) fun h6 =>
      ∃ r4 : Int, ∃ r5 : Int, ∃ (r6 : Option Addr) (rL2 rC2 : Nat), cell h6 ⟨b2, 0, none⟩ = some (.int .i64 r4) ∧ cell h6 ((⟨b2, 0, none⟩ : Addr).add 1) = some (.int .i64 r5) ∧ cell h6 ((⟨b2, 0, none⟩ : Addr).add 2) = some (.slice r6 rL2 rC2) ∧
      MStepP h0 G rows e z (.tuple #[.slice p n c, .agg #[.int .i64 r4, .int .i64 r5, .slice r6 rL2 rC2]]) h6 :=
  hc.mono fun _ _ ⟨hv, x⟩ => ⟨_, _, _, _, _, hv, mboxW na (s.grow x)⟩
/-- Where a key stands among rows of two. -/
theorem cmpK2 {l : List E} {k : Int} {j : Nat} (hj : j < l.length) : cmpK (l.map row2) [k] j = cmpS (l.getD j (0, 0)).1 k := by
  rw [cmpK, row2_get hj]
  show cmpL [(l.getD j (0, 0)).1] [k] = _
  show (if (l.getD j (0, 0)).1 < k then (-1 : Int) else if k < (l.getD j (0, 0)).1 then 1 else cmpL [] []) = _
  rfl
theorem find_cut {l : List E} {k : Int} (so : Srt l) : (lowS l k).length ≤ l.length ∧ (∀ j, j < (lowS l k).length → cmpK (l.map row2) [k] j < 0) ∧ (∀ j, (lowS l k).length ≤ j → j < l.length → 0 ≤ cmpK (l.map row2) [k] j) ∧
    decide ((lowS l k).length < l.length ∧ cmpK (l.map row2) [k] (lowS l k).length = 0) = hasKey (upS l k) k := by
  have hll := low_len (xs := l) (key := k)
  have hu := upS_len (xs := l) (key := k)
  refine ⟨hll, fun j hj => ?_, fun j hj hjl => ?_, ?_⟩
  · rw [cmpK2 (by omega)]
    have hm : l.getD j (0, 0) ∈ lowS l k := by
      have : l.getD j (0, 0) = (lowS l k)[j] := by
        conv => lhs; rw [hu]
        simp [List.getD, List.getElem?_append_left hj, hj]
      rw [this]; exact List.getElem_mem hj
    have := low_lt _ hm
    rw [cmpS, if_pos this]; decide
  · rw [cmpK2 hjl]
    have hm : l.getD j (0, 0) ∈ upS l k := by
      have hd := up_drop (xs := l) (key := k)
      have : l.getD j (0, 0) = l[j] := by simp [List.getD, hjl]
      rw [this, ← hd]
      exact List.mem_drop_iff_getElem.2 ⟨j - (lowS l k).length, by omega, by simp only [show (lowS l k).length + (j - (lowS l k).length) = j by omega]⟩
    have := up_ge so _ hm
    unfold cmpS
    split
    · omega
    · split <;> omega
  · by_cases hf : hasKey (upS l k) k = true
    · obtain ⟨u1, u2, _⟩ := up_head hf
      rw [hf]
      refine decide_eq_true ⟨u1, ?_⟩
      rw [cmpK2 u1, u2, cmpS, if_neg (by omega), if_neg (by omega)]
    · have hf' : hasKey (upS l k) k = false := by simpa using hf
      rw [hf']
      refine decide_eq_false fun ⟨h1, h2⟩ => hf ?_
      have hd := up_drop (xs := l) (key := k)
      rw [List.drop_eq_getElem_cons h1] at hd
      rw [cmpK2 h1] at h2
      have hg : l.getD (lowS l k).length (0, 0) = l[(lowS l k).length] := by simp [List.getD, h1]
      rw [hg] at h2
      rw [← hd]
      refine decide_eq_true ?_
      unfold cmpS at h2
      split at h2
      · cases h2
      · split at h2
        · cases h2
        · omega
section
variable {h0 h : Hp} {b1 b2 : Nat} {l : List E} {p q : Option Addr} {n c m cc : Nat} {code : Int} {zs : List Int} {B G : Bag}
abbrev MDictP (h0 : Hp) (G : Bag) (l : List E) (c : Int) (zs : List Int) : Value → Hp → Prop := MStepP h0 G ((dictS l c zs).1.map row2) (dictS l c zs).2.1 (dictS l c zs).2.2
theorem mdict_b2_ok (na : RowsA (p, n, c) (l.map row2) B) (s : St h0 h (cA b2 [.int .i64 0, .int .i64 0, .slice none 0 0] 61 + (cA b1 [.int .i64 code, .slice q m cc] 25 + (B + G)))) (hn : n ≤ 1000) (hc : code = 2 ∨ code = 3) :
    model_dict_b2 p n c (some ⟨b1, 0, none⟩) (some ⟨b2, 0, none⟩) ((lowS l (zs.getD 0 0)).length : Int) (hasKey (upS l (zs.getD 0 0)) (zs.getD 0 0)) h (MDictP h0 G l code zs) := by
  have hl : (l.map row2).length = n := rows_len na
  rw [List.length_map] at hl
  have kb1 := s.atomBlk
  have e : dictS l code zs = (if hasKey (upS l (zs.getD 0 0)) (zs.getD 0 0) = true then (if code = 3 then lowS l (zs.getD 0 0) ++ (upS l (zs.getD 0 0)).tail else l, 0, valOf (upS l (zs.getD 0 0))) else (l, 12, 0)) := by
    rcases hc with rfl | rfl <;> rfl
  rw [MDictP, e, model_dict_b2_eq]
  generalize zs.getD 0 0 = k
  by_cases hf : hasKey (upS l k) k = true
  · obtain ⟨u1, u2, u3⟩ := up_head hf
    rw [if_pos hf, hf]
    refine condNo rfl (e_val na (s.at B) (by omega) (by omega) ?_)
    rw [Int.toNat_natCast, u2]
    refine ⟨_, kb1.cell 0, condP (fun h3 => ?_) (fun h3 => ?_)⟩
    · rw [if_pos h3]
      refine ⟨⟨by omega, by omega⟩, ?_⟩
      refine (mrows_cut na (s.to (B := B + (cA b2 [.int .i64 0, .int .i64 0, .slice none 0 0] 61 + (cA b1 [.int .i64 code, .slice q m cc] 25 + G)))) (by omega) rfl (by omega)).mono fun v h' ⟨B', hv, na', s'⟩ => ⟨_, _, _, hv, ?_⟩
      have hrow : (l.map row2).take (lowS l k).length ++ (l.map row2).drop ((lowS l k).length + 1) = (lowS l k ++ (upS l k).tail).map row2 := by
        rw [← List.map_take, ← List.map_drop, u3, low_take, ← List.map_append]
      rw [hrow] at na'
      rw [model_dict_b3_eq]
      exact mboxT na' (s'.to (B := cA b2 [.int .i64 0, .int .i64 0, .slice none 0 0] 61 + (cA b1 [.int .i64 code, .slice q m cc] 25 + (B' + G)))) (mresult_ok _ _)
    · rw [if_neg h3, model_dict_b3_eq]
      exact mboxT na s (mresult_ok _ _)
  · have hf' : hasKey (upS l k) k = false := by simpa using hf
    rw [if_neg hf, hf']
    exact condYes rfl (mboxT na s (mfailed_ok _ _))
theorem mdict_ok (so : Srt l) (na : RowsA (p, n, c) (l.map row2) B) (rz : RdS h0 G TI q m zs) (hmc : m ≤ cc) (s : St h0 h (B + G)) (hn : n ≤ 1000) (hc : 1 ≤ code ∧ code ≤ 8) (h1 : code ≠ 8 → 1 ≤ zs.length) (h2 : code = 1 → zs.length = 2) :
    HCalls Tryz.prog 137 #[.slice p n c, .agg #[.int .i64 code, .slice q m cc]] h (MDictP h0 G l code zs) := by
  have hl : (l.map row2).length = n := rows_len na
  rw [List.length_map] at hl
  refine model_dict_call ?_
  rw [model_dict_b0_eq]
  refine s.new (cs := [.int .i64 code, .slice q m cc]) fun b1 h3 _ s1 => ?_
  refine s1.new (cs := [.int .i64 0, .int .i64 0, .slice none 0 0]) fun b2 h4 _ s2 => ?_
  have s2 : St h0 h4 (cA b2 [.int .i64 0, .int .i64 0, .slice none 0 0] 61 + (cA b1 [.int .i64 code, .slice q m cc] 25 + (B + G))) := s2
  have kb1 := s2.atomBlk
  refine ⟨_, kb1.cell 0, condP (fun h8 => ?_) (fun h8 => ?_)⟩
  · have e : dictS l code zs = (l, 0, (l.length : Int)) := by subst h8; rfl
    rw [MDictP, e, hl]
    exact mboxT na s2 (mresult_ok _ _)
  have hrz : RdT TI h4 q m zs := rz h4 (cA b2 [.int .i64 0, .int .i64 0, .slice none 0 0] 61 + (cA b1 [.int .i64 code, .slice q m cc] 25 + B)) s2.to
  have hzl := hrz.len
  have h1 := h1 h8
  have e0 : Int.toNat (0 : Int) = 0 := rfl
  have e1 : Int.toNat (1 : Int) = 1 := rfl
  refine ⟨_, kb1.cell 0, condP (fun h7 => ?_) (fun h7 => ?_)⟩
  · have e : dictS l code zs = (if zs.getD 0 0 < 0 ∨ (l.length : Int) ≤ zs.getD 0 0 then (l, 2, 0) else (l, 0, (l.getD (zs.getD 0 0).toNat (0, 0)).1)) := by
      subst h7; rfl
    refine ⟨_, _, _, Blk.cellA kb1 1, hrz.int (by omega) (by omega) ?_⟩
    rw [MDictP, e, e0]
    generalize zs.getD 0 0 = k
    refine condP (fun h5 => condP (fun h6 => ?_) (fun h6 => ?_)) (fun h5 => ?_)
    · rw [if_neg (by omega)]
      refine e_key na (s2.at B) (by omega) (by omega) ?_
      exact mboxT na s2 (mresult_ok _ _)
    · rw [if_pos (.inr (by omega)), model_dict_b1_eq]
      exact mboxT na s2 (mfailed_ok _ _)
    · rw [if_pos (.inl (by omega)), model_dict_b1_eq]
      exact mboxT na s2 (mfailed_ok _ _)
  refine ⟨_, _, _, Blk.cellA kb1 1, ⟨by omega, by omega, by omega⟩, ?_⟩
  rw [e0, e1, subAddr_z, Nat.sub_zero]
  have hz1 : zs.take 1 = [zs.getD 0 0] := by
    cases zs with
    | nil => simp at h1
    | cons z zs => simp
  have rk : RdT TI h4 q 1 [zs.getD 0 0] := by rw [← hz1]; exact hrz.take (by omega)
  obtain ⟨f1, f2, f3, f4⟩ := find_cut (k := zs.getD 0 0) so
  refine (find_ok (t := (lowS l (zs.getD 0 0)).length) na (s2.to (B := B + (cA b2 [.int .i64 0, .int .i64 0, .slice none 0 0] 61 + (cA b1 [.int .i64 code, .slice q m cc] 25 + G)))) rk (by omega) (fun r hr => by obtain ⟨e, _, rfl⟩ := List.mem_map.1 hr; simp) ⟨by omega, f2, fun j h1 h2 => f3 j h1 (by omega)⟩).mono fun v h5 ⟨hv, hh⟩ => ⟨_, _, hv, ?_⟩
  subst hh
  rw [← hl, f4, hl]
  refine ⟨_, kb1.cell 0, condP (fun hp => ?_) (fun hp => ?_)⟩
  · have h2 := h2 hp
    have e : dictS l code zs = (if hasKey (upS l (zs.getD 0 0)) (zs.getD 0 0) = true then (lowS l (zs.getD 0 0) ++ (zs.getD 0 0, zs.getD 1 0) :: (upS l (zs.getD 0 0)).tail, 0, 1) else if l.length = 500 then (l, 4, 0) else (lowS l (zs.getD 0 0) ++ (zs.getD 0 0, zs.getD 1 0) :: upS l (zs.getD 0 0), 0, 0)) := by subst hp; rfl
    have hz2 : zs = [zs.getD 0 0, zs.getD 1 0] := by
      match zs, h2 with
      | [a, b], _ => rfl
    rw [MDictP, e]
    refine cond_intro (fun hf => ?_) (fun hf => ?_)
    · obtain ⟨u1, u2, u3⟩ := up_head hf
      rw [if_pos hf]
      refine rows_edit na (s2.at B) (by omega) (by omega) fun q1 l1 d1 Bi Br o hB hset => ⟨_, _, _, Blk.cellA kb1 1, hrz.int (by omega) (by omega) ?_⟩
      rw [Int.toNat_natCast] at o hset
      rw [row2_get (by omega)] at o
      have hl1 : 2 = l1 := o.len
      have s3 : St h0 h5 (Bi + (cA b2 [.int .i64 0, .int .i64 0, .slice none 0 0] 61 + (cA b1 [.int .i64 code, .slice q m cc] 25 + (Br + G)))) := by rw [hB] at s2; exact s2.to
      refine o.wrI s3 (by omega) (by omega) rfl rfl fun h' A' o' s' => ?_
      have na' := hset _ A' o'
      have hrow : (l.map row2).set (lowS l (zs.getD 0 0)).length ((row2 (l.getD (lowS l (zs.getD 0 0)).length (0, 0))).set (Int.toNat (1 : Int)) (zs.getD (Int.toNat (1 : Int)) 0)) = (lowS l (zs.getD 0 0) ++ (zs.getD 0 0, zs.getD 1 0) :: (upS l (zs.getD 0 0)).tail).map row2 := by
        have e1 : (row2 (l.getD (lowS l (zs.getD 0 0)).length (0, 0))).set (Int.toNat (1 : Int)) (zs.getD (Int.toNat (1 : Int)) 0) = row2 (zs.getD 0 0, zs.getD 1 0) := by rw [u2]; rfl
        rw [e1, List.set_eq_take_append_cons_drop, if_pos (by rw [List.length_map]; omega), ← List.map_take, ← List.map_drop, u3, low_take, List.map_append, List.map_cons]
      rw [hrow] at na'
      exact mboxT na' (s'.to (B := cA b2 [.int .i64 0, .int .i64 0, .slice none 0 0] 61 + (cA b1 [.int .i64 code, .slice q m cc] 25 + (A' + Br + G)))) (mresult_ok _ _)
    · rw [if_neg (by rw [hf]; simp)]
      refine condP (fun h5 => ?_) (fun h5 => ?_)
      · rw [if_pos (by omega)]
        exact mboxT na s2 (mfailed_ok _ _)
      · rw [if_neg (by omega)]
        refine ⟨_, _, _, Blk.cellA kb1 1, (cloneI_st hrz (by omega)).mono fun v6 h6 ⟨q6, d6, A6, hv6, o6, t6⟩ => ⟨_, _, _, hv6, ?_⟩⟩
        have s6 := s2.join t6
        refine s6.new (cs := [.slice q6 m d6]) fun b3 h7 x7 s7 => ?_
        have s7 := s7.to (B := cA b3 [.slice q6 m d6] 23 + (B + (A6 + (cA b2 [.int .i64 0, .int .i64 0, .slice none 0 0] 61 + (cA b1 [.int .i64 code, .slice q m cc] 25 + G)))))
        refine (mrows_put na o6 s7 (by omega) (by omega)).mono fun v8 h8 ⟨q', d', B', hv8, na', s8⟩ => ⟨_, _, _, hv8, ?_⟩
        have hrow : (l.map row2).take (lowS l (zs.getD 0 0)).length ++ zs :: (l.map row2).drop (lowS l (zs.getD 0 0)).length = (lowS l (zs.getD 0 0) ++ (zs.getD 0 0, zs.getD 1 0) :: upS l (zs.getD 0 0)).map row2 := by
          rw [← List.map_take, ← List.map_drop, up_drop, low_take, List.map_append, List.map_cons]
          show _ ++ zs :: _ = _ ++ [zs.getD 0 0, zs.getD 1 0] :: _
          rw [← hz2]
        rw [hrow] at na'
        exact mboxT na' (s8.to (B := cA b2 [.int .i64 0, .int .i64 0, .slice none 0 0] 61 + (cA b1 [.int .i64 code, .slice q m cc] 25 + (B' + G)))) (mresult_ok _ _)
  refine condP (fun h6 => ?_) (fun h6 => condP (fun h4 => ?_) (fun h4 => condP (fun h5 => ?_) (fun h5 => ?_)))
  · have e : dictS l code zs = (l, 0, ((lowS l (zs.getD 0 0)).length : Int)) := by subst h6; rfl
    rw [MDictP, e]
    exact mboxT na s2 (mresult_ok _ _)
  · have e : dictS l code zs = (if hasKey (upS l (zs.getD 0 0)) (zs.getD 0 0) = true then (l, 0, zs.getD 0 0) else if (lowS l (zs.getD 0 0)).length = 0 then (l, 12, 0) else (l, 0, (lastOf (lowS l (zs.getD 0 0))).1)) := by subst h4; rfl
    rw [MDictP, e]
    refine cond_intro (fun hf => ?_) (fun hf => ?_)
    · rw [if_pos hf]
      refine ⟨_, _, _, Blk.cellA kb1 1, hrz.int (by omega) (by omega) ?_⟩
      exact mboxT na s2 (mresult_ok _ _)
    · rw [if_neg (by rw [hf]; simp)]
      refine condP (fun h0 => ?_) (fun h0 => ?_)
      · rw [if_pos (by omega)]
        exact mboxT na s2 (mfailed_ok _ _)
      · rw [if_neg (by omega)]
        obtain ⟨w1, _, _⟩ := last_getD (xs := l) (key := zs.getD 0 0) (by omega)
        have ei : Int.toNat (((lowS l (zs.getD 0 0)).length : Int) - 1) = (lowS l (zs.getD 0 0)).length - 1 := by omega
        refine ⟨⟨by omega, by omega⟩, e_key na (s2.at B) (by omega) (by omega) ?_⟩
        rw [ei, ← w1]
        exact mboxT na s2 (mresult_ok _ _)
  · have e : dictS l code zs = (if (lowS l (zs.getD 0 0)).length = l.length then (l, 12, 0) else (l, 0, (headOf (upS l (zs.getD 0 0))).1)) := by subst h5; rfl
    rw [MDictP, e]
    refine condP (fun h0 => ?_) (fun h0 => ?_)
    · rw [if_pos (by omega)]
      exact mboxT na s2 (mfailed_ok _ _)
    · rw [if_neg (by omega)]
      refine e_key na (s2.at B) (by omega) (by omega) ?_
      rw [Int.toNat_natCast]
      have hud := up_drop (xs := l) (key := zs.getD 0 0)
      rw [List.drop_eq_getElem_cons (by omega)] at hud
      have hg : l.getD (lowS l (zs.getD 0 0)).length (0, 0) = l[(lowS l (zs.getD 0 0)).length]'(by omega) := by rw [List.getD_eq_getElem?_getD, List.getElem?_eq_getElem (by omega)]; rfl
      rw [hg, ← hud]
      exact mboxT na s2 (mresult_ok _ _)
  · exact mdict_b2_ok na s2 hn (by omega)
end
end Go.Proofs.YtdlkohenamlnaaaGreat
