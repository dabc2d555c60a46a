/- Part W7 of the proof: contracts of functions of the program, and what follows from them. -/
import Derived.Test.YtomifmeccpconaaSxW6
import Derived.Laws.Strings
set_option maxRecDepth 10000
namespace Go.Sx
open Go
/-- A store into a slice of the call's own. -/
theorem wr_own {h : Hp} {base : Nat} {E : TypeId} {p : Option Addr} {n c : Nat} {xs : List Value} {i : Int} {v : Value} {k : Hp → Prop} (o : Own h base E p n c xs) (h0 : 0 ≤ i) (h1 : i < n)
    (hk : ∀ h', h'.size = h.size → Own h' base E p n c (xs.set i.toNat v) → Grow h h' p → k h') : (0 ≤ i ∧ i < (n : Int)) ∧ NN p fun a => Wr h (a.add (i.toNat * 1)) v k := by
  refine ⟨⟨h0, h1⟩, ?_⟩
  rcases o with ⟨rfl, rfl, rfl, rfl⟩ | ⟨b, rest, hbs, rfl, hb, hl, hc⟩
  · omega
  · show Wr _ _ _ _
    refine Wr_intro (add_mk b 0 _) hb (by simp; omega) fun h' hz hs hb' => hk h' hz (.inr ⟨b, rest, hbs, rfl, ?_, by simpa using hl, by simpa using hc⟩) ⟨by omega, fun j _ hj => hs j (hj _ rfl)⟩
    rw [List.set_append_left _ _ (by omega)] at hb'
    rw [show 0 + i.toNat * 1 = i.toNat by omega] at hb'
    exact hb'
theorem own_of_blk {h : Hp} {base b : Nat} {E : TypeId} {xs : List Value} (hb : Blk h b xs E) (hbs : base ≤ b) {n : Nat} (hn : xs.length = n) : Own h base E (some ⟨b, 0, none⟩) n n xs :=
  .inr ⟨b, [], hbs, rfl, by simpa using hb, hn, by simpa using hn⟩
end Go.Sx
namespace Go.Proofs.Ytomifmeccpconaa
open Go Go.Sx

/-! ### bytes -/
def bytesV (xs : List Nat) : List Value := (xs.map (fun w : Nat => (w : Int))).map (Value.int .u8)
theorem bytesV_app (xs ys : List Nat) : bytesV (xs ++ ys) = bytesV xs ++ bytesV ys := by simp [bytesV]
theorem bytesV_len (xs : List Nat) : (bytesV xs).length = xs.length := by simp [bytesV]
theorem bytesV_byteV (xs : List Nat) (h : ∀ x ∈ xs, x < 256) : bytesV xs = (xs.map UInt8.ofNat).map byteV := by
  unfold bytesV
  rw [List.map_map, List.map_map]
  refine List.map_congr_left fun x hx => ?_
  have := h x hx
  simp only [Function.comp, byteV]
  congr 1
  simp [UInt8.toNat_ofNat']
  omega
theorem toL_mk (a b : List UInt8) : strEq ⟨a.toArray⟩ ⟨b.toArray⟩ = decide (a = b) := by
  unfold strEq
  rw [ByteArray.toList_eq, ByteArray.toList_eq]
  rw [Bool.eq_iff_iff, beq_iff_eq, decide_eq_true_iff]
theorem EqBy_ok {h : Hp} {p q : Option Addr} {n c m d : Nat} {xs ys : List Nat} (r : Rd h p n (bytesV xs)) (s : Rd h q m (bytesV ys)) (hx : ∀ x ∈ xs, x < 256) (hy : ∀ y ∈ ys, y < 256) :
    HCalls Try.prog 29 #[.slice p n c, .slice q m d] h (fun v h' => v = .bool (decide (xs = ys)) ∧ h' = h) := by
  refine EqBy_call ?_
  rw [EqBy_b0_eq]
  rw [bytesV_byteV _ hx] at r
  rw [bytesV_byteV _ hy] at s
  refine hw_bytes_string (e := 5) (by kernel_rfl) (by kernel_rfl) (by kernel_rfl) r ?_
  refine hw_bytes_string (e := 5) (by kernel_rfl) (by kernel_rfl) (by kernel_rfl) s ?_
  refine ⟨?_, rfl⟩
  rw [toL_mk]
  congr 1
  rw [decide_eq_decide]
  constructor
  · intro e
    have hl : xs.length = ys.length := by have := congrArg List.length e; simpa using this
    apply List.ext_getElem hl
    intro i h1 h2
    have := congrArg (fun l => l[i]?) e
    simp only [List.getElem?_map, List.getElem?_eq_getElem h1, List.getElem?_eq_getElem h2, Option.map_some, Option.some.injEq] at this
    have := congrArg UInt8.toNat this
    have a1 := hx _ (List.getElem_mem h1)
    have a2 := hy _ (List.getElem_mem h2)
    simp only [UInt8.toNat_ofNat'] at this
    omega
  · intro e; rw [e]

/-! ### Contains -/
theorem IdxB_ok {h : Hp} {p : Option Addr} {n c : Nat} {xs : List Bool} (r : Rd h p n (xs.map Value.bool)) (v : Bool) (hn : n ≤ 4611686018427387904) :
    HCalls Try.prog 41 #[.slice p n c, .bool v] h (fun r h' => h' = h ∧ ∃ i : Int, r = .int .i64 i ∧ (0 ≤ i ↔ ∃ t, t < n ∧ xs.getD t false = v)) := by
  refine IdxB_call ?_
  rw [IdxB_b0_eq]
  refine ⟨fun s h' => h' = h ∧ ∃ i : Nat, i ≤ n ∧ s.1 = i ∧ ∀ t, t < i → xs.getD t false ≠ v, fun s _ => (n - s.1).toNat, ⟨rfl, 0, by omega, rfl, by omega⟩, ?_⟩
  rintro ⟨si, _⟩ h' ⟨rfl, i, hi, hsi, ha⟩
  simp only at hsi
  subst hsi
  dsimp only
  rw [IdxB_b1_eq]
  refine condP (fun hlt => ?_) (fun hge => ?_)
  · refine idx_bool r (by omega) (by omega) ?_
    rw [show ((i : Nat) : Int).toNat = i by simp]
    refine cond_intro (fun heq => ?_) (fun hne => ?_)
    · exact ⟨rfl, _, rfl, ⟨fun _ => ⟨i, by omega, by have := eq_of_beq heq; exact this.symm⟩, fun _ => by omega⟩⟩
    · rw [IdxB_b2_eq]
      refine ⟨⟨by omega, by omega⟩, ⟨rfl, i + 1, by omega, by simp only; omega, ?_⟩, by simp only; omega⟩
      intro t ht
      rcases Nat.lt_or_ge t i with h1 | h1
      · exact ha t h1
      · obtain rfl : t = i := by omega
        intro e; rw [e] at hne; simp at hne
  · rw [IdxB_b3_eq]
    refine ⟨rfl, _, rfl, ⟨fun hx => by omega, ?_⟩⟩
    rintro ⟨t, ht, e⟩
    exact absurd e (ha t (by omega))
theorem ContB_ok {h : Hp} {p : Option Addr} {n c : Nat} {xs : List Bool} (r : Rd h p n (xs.map Value.bool)) (v : Bool) (hn : n ≤ 4611686018427387904) :
    HCalls Try.prog 38 #[.slice p n c, .bool v] h (fun r h' => h' = h ∧ ∃ b : Bool, r = .bool b ∧ (b = true ↔ ∃ t, t < n ∧ xs.getD t false = v)) := by
  refine ContB_call ?_
  rw [ContB_b0_eq]
  refine (IdxB_ok r v hn).mono fun r1 h1 ⟨hh, i, hr, hi⟩ => ?_
  subst hh
  exact ⟨i, hr, rfl, _, rfl, by rw [decide_eq_true_eq]; exact hi⟩

/-! ### the code -/
/-- The first k bits of the byte j. -/
def acc (l : List Bool) (j : Nat) : Nat → Nat
  | 0 => 0
  | k + 1 => 2 * acc l j k + if l.getD (8 * j + k) false then 1 else 0
theorem acc_lt (l : List Bool) (j : Nat) : ∀ k, acc l j k < 2 ^ k
  | 0 => by simp [acc]
  | k + 1 => by
    have := acc_lt l j k
    simp only [acc, Nat.pow_succ]
    split <;> omega
def hdr (n : Nat) : List Nat := [n / 16777216 % 256, n / 65536 % 256, n / 256 % 256, n % 256]
def packTo (l : List Bool) (m q : Nat) : List Nat := (List.range q).map (fun j => acc (l.take m) j 8)
def codeB (l : List Bool) : List Nat := hdr l.length ++ packTo l l.length ((l.length + 7) / 8)
theorem hdr_lt (n : Nat) : ∀ x ∈ hdr n, x < 256 := by
  intro x hx
  simp only [hdr, List.mem_cons, List.not_mem_nil, or_false] at hx
  omega
theorem codeB_lt (l : List Bool) : ∀ x ∈ codeB l, x < 256 := by
  intro x hx
  simp only [codeB, packTo, List.mem_append, List.mem_map] at hx
  rcases hx with hx | ⟨j, _, rfl⟩
  · exact hdr_lt _ x hx
  · exact acc_lt _ j 8
theorem acc_take (l : List Bool) (m j : Nat) : ∀ k, acc (l.take m) j k = acc l j (min k (m - 8 * j)) * 2 ^ (k - min k (m - 8 * j))
  | 0 => by simp [acc]
  | k + 1 => by
    have ih := acc_take l m j k
    simp only [acc]
    rw [ih]
    by_cases h : 8 * j + k < m
    · rw [show min k (m - 8 * j) = k by omega, show min (k + 1) (m - 8 * j) = k + 1 by omega]
      simp only [Nat.sub_self, Nat.pow_zero, Nat.mul_one, acc]
      congr 2
      have : (l.take m).getD (8 * j + k) false = l.getD (8 * j + k) false := by simp [List.getD, h]
      rw [this]
    · rw [show min (k + 1) (m - 8 * j) = min k (m - 8 * j) by omega]
      have : (l.take m).getD (8 * j + k) false = false := by simp [List.getD, List.getElem?_take, h]
      rw [this, show k + 1 - min k (m - 8 * j) = (k - min k (m - 8 * j)) + 1 by omega, Nat.pow_succ]
      simp only [Bool.false_eq_true, if_false, Nat.add_zero]
      rw [Nat.mul_left_comm, Nat.mul_comm 2]
theorem or_step (x r : Nat) (hr : r < 8) : (x * 2 ^ (8 - r)) ||| (128 >>> r) = (2 * x + 1) * 2 ^ (7 - r) := by
  have e : 128 >>> r = 2 ^ (7 - r) := by
    rw [Nat.shiftRight_eq_div_pow, show (128 : Nat) = 2 ^ 7 by rfl, Nat.pow_div (by omega) (by decide)]
  have hlt : 2 ^ (7 - r) < 2 ^ (8 - r) := Nat.pow_lt_pow_right (by decide) (by omega)
  rw [e, Nat.mul_comm x, ← Nat.two_pow_add_eq_or_of_lt hlt x, show 8 - r = (7 - r) + 1 by omega, Nat.pow_succ, Nat.add_mul, Nat.one_mul, Nat.mul_comm (2 * x), Nat.mul_assoc]
/-- One bit more. -/
theorem pack_step (l : List Bool) (i : Nat) : packTo l (i + 1) (i / 8 + 1) =
    if l.getD i false then (packTo l i (i / 8 + 1)).set (i / 8) ((packTo l i (i / 8 + 1)).getD (i / 8) 0 ||| (128 >>> (i % 8))) else packTo l i (i / 8 + 1) := by
  have hr : i % 8 < 8 := Nat.mod_lt _ (by decide)
  have hq : 8 * (i / 8) + i % 8 = i := by omega
  have e0 : acc (l.take i) (i / 8) 8 = acc l (i / 8) (i % 8) * 2 ^ (8 - i % 8) := by
    rw [acc_take, show min 8 (i - 8 * (i / 8)) = i % 8 by omega]
  have e1 : acc (l.take (i + 1)) (i / 8) 8 = (2 * acc l (i / 8) (i % 8) + if l.getD i false then 1 else 0) * 2 ^ (7 - i % 8) := by
    rw [acc_take, show min 8 (i + 1 - 8 * (i / 8)) = i % 8 + 1 by omega, show 8 - (i % 8 + 1) = 7 - i % 8 by omega]
    simp only [acc]
    rw [hq]
  have e2 : ∀ j, j < i / 8 → acc (l.take (i + 1)) j 8 = acc (l.take i) j 8 := by
    intro j hj
    rw [acc_take, acc_take, show min 8 (i + 1 - 8 * j) = 8 by omega, show min 8 (i - 8 * j) = 8 by omega]
  have hg : (packTo l i (i / 8 + 1)).getD (i / 8) 0 = acc (l.take i) (i / 8) 8 := by simp [packTo, List.getD]
  rw [hg]
  by_cases hb : l.getD i false = true
  · rw [if_pos hb]
    apply List.ext_getElem (by simp [packTo])
    intro j h1 h2
    have hj : j < i / 8 + 1 := by simpa [packTo] using h1
    rw [List.getElem_set]
    by_cases hji : i / 8 = j
    · rw [if_pos hji]
      subst hji
      simp only [packTo, List.getElem_map, List.getElem_range]
      rw [e1, if_pos hb, e0, or_step _ _ hr]
    · rw [if_neg hji]
      simp only [packTo, List.getElem_map, List.getElem_range]
      exact e2 j (by omega)
  · rw [if_neg hb]
    apply List.map_congr_left
    intro j hj
    have hj := List.mem_range.1 hj
    by_cases hji : j = i / 8
    · subst hji
      rw [e1, if_neg hb, e0, Nat.add_zero, show 8 - i % 8 = (7 - i % 8) + 1 by omega, Nat.pow_succ, Nat.mul_comm 2, Nat.mul_assoc, Nat.mul_comm 2]
    · exact e2 j (by omega)
/-- Before the bit: the byte is there, or is zero. -/
theorem pack_zero (l : List Bool) (i : Nat) (hr : i % 8 = 0) : packTo l i (i / 8 + 1) = packTo l i ((i + 7) / 8) ++ [0] := by
  have : (i + 7) / 8 = i / 8 := by omega
  rw [this]
  unfold packTo
  rw [List.range_succ, List.map_append]
  congr 1
  simp only [List.map_cons, List.map_nil]
  rw [acc_take, show min 8 (i - 8 * (i / 8)) = 0 by omega]
  simp [acc]
end Go.Proofs.Ytomifmeccpconaa
