/- B-trees: the node is split where it is full; the loop of put. -/
import Derived.Test.YtaemnjblcpknpaaSxB4
set_option maxRecDepth 100000
namespace Go.Proofs.Ytaemnjblcpknpaa
open Go Go.Sx
abbrev treeC (tb order len : Nat) (root : Option Addr) (vis : Int) : Bag := cA tb [.int .i64 order, .int .i64 len, .pointer root, .int .i64 vis] 75
def TreeA (order : Nat) (xs : List E) (tb : Nat) (vis : Int) (A : Bag) : Prop :=
  (xs = [] ∧ A = treeC tb order 0 none vis) ∨ ∃ n root t A1, A = treeC tb order xs.length (some ⟨root, 0, none⟩) vis + A1 ∧ Hold n root t A1 ∧ flat n t = xs ∧ SzR ((order + 1) / 2 - 1) (order - 1) n t
/-! ### how many entries -/
theorem wR_len {a c : Nat} : ∀ (es : List E) (ks : List (List E)), ks.length = es.length → (∀ k ∈ ks, a ≤ k.length + 1 ∧ k.length + 1 ≤ c) → es.length * a ≤ (wR es ks).length ∧ (wR es ks).length ≤ es.length * c
  | [], [], _, _ => by simp [wR]
  | [], _ :: _, h, _ => by simp at h
  | _ :: _, [], h, _ => by simp at h
  | e :: es, k :: ks, h, hk => by
    have h1 := wR_len es ks (by simpa using h) (fun k hk' => hk k (by simp [hk']))
    have h2 := hk k (by simp)
    simp only [wR, List.length_cons, List.length_append, Nat.add_mul, Nat.one_mul]
    omega
theorem weave_len {a c : Nat} (es : List E) (ks : List (List E)) (hl : ks.length = es.length + 1) (hk : ∀ k ∈ ks, a ≤ k.length + 1 ∧ k.length + 1 ≤ c) : (es.length + 1) * a ≤ (weave ks es).length + 1 ∧ (weave ks es).length + 1 ≤ (es.length + 1) * c := by
  cases ks with
  | nil => simp at hl
  | cons k ks =>
    have h1 := wR_len (a := a) (c := c) es ks (by simpa using hl) (fun k hk' => hk k (by simp [hk']))
    have h2 := hk k (by simp)
    simp only [weave, List.length_append, Nat.add_mul, Nat.one_mul]
    omega
theorem Sz.count {lo hi : Nat} : ∀ {n b : Nat} {t : BT} {A : Bag}, Hold n b t A → Sz lo hi n t → (lo + 1) ^ (n + 1) ≤ (flat n t).length + 1 ∧ (flat n t).length + 1 ≤ (hi + 1) ^ (n + 1)
  | 0, b, t, A, _, hs => by
    have : lo ≤ t.es.length ∧ t.es.length ≤ hi := hs
    simp only [flat, Nat.zero_add, Nat.pow_one]
    omega
  | n + 1, b, t, A, hh, hs => by
    have hl := hh.len
    obtain ⟨ks, A1, A2, rfl, h1, _, h2⟩ := hh
    have hk : ∀ k ∈ t.ts.map (flat n), (lo + 1) ^ (n + 1) ≤ k.length + 1 ∧ k.length + 1 ≤ (hi + 1) ^ (n + 1) := by
      intro k hk
      obtain ⟨c, hc, rfl⟩ := List.mem_map.1 hk
      have : ∀ {bs : List Nat} {ts : List BT} {B : Bag}, AllH (Hold n) bs ts B → ∀ c ∈ ts, ∃ b A, Hold n b c A := by
        intro bs
        induction bs with
        | nil => intro ts B h c hc; cases ts with | nil => cases hc | cons _ _ => exact h.elim
        | cons b bs ih =>
          intro ts B h c hc
          cases ts with
          | nil => cases hc
          | cons t ts =>
            obtain ⟨D1, D2, _, g1, g2⟩ := h
            rcases List.mem_cons.1 hc with rfl | hc
            · exact ⟨_, _, g1⟩
            · exact ih g2 c hc
      obtain ⟨b', A', hc'⟩ := this h2 c hc
      exact Sz.count hc' (hs.2 c hc)
    have := weave_len t.es (t.ts.map (flat n)) (by rw [List.length_map]; exact hl) hk
    have h3 := hs.1
    simp only [flat]
    refine ⟨Nat.le_trans ?_ this.1, Nat.le_trans this.2 ?_⟩
    · rw [Nat.pow_succ, Nat.mul_comm]; exact Nat.mul_le_mul_right _ (by omega)
    · rw [Nat.pow_succ (m := n + 1), Nat.mul_comm]; exact Nat.mul_le_mul_left _ (by omega)
theorem Sz.weaken {lo lo2 hi : Nat} (hle : lo2 ≤ lo) : ∀ {n : Nat} {t : BT}, Sz lo hi n t → Sz lo2 hi n t
  | 0, _, h => ⟨Nat.le_trans hle h.1, h.2⟩
  | _ + 1, _, h => ⟨⟨Nat.le_trans hle h.1.1, h.1.2⟩, fun c hc => (h.2 c hc).weaken hle⟩
theorem SzR.one {lo hi : Nat} (hle : 1 ≤ lo) {n : Nat} {t : BT} (h : SzR lo hi n t) : Sz 1 hi n t := by
  cases n with
  | zero => exact h
  | succ n => exact ⟨h.1, fun c hc => (h.2 c hc).weaken hle⟩
theorem SzR.low {lo hi n b : Nat} {t : BT} {A : Bag} (hh : Hold n b t A) (hle : 1 ≤ lo) (h : SzR lo hi n t) : 2 ^ (n + 1) ≤ (flat n t).length + 1 := (Sz.count hh (h.one hle)).1
theorem pow_bound {n m : Nat} (h : 2 ^ (n + 1) ≤ m + 1) (hm : m ≤ 4000) : n ≤ 11 := by
  rcases Nat.lt_or_ge n 12 with h1 | h1
  · omega
  · have : 2 ^ (12 + 1) ≤ 2 ^ (n + 1) := Nat.pow_le_pow_right (by decide) (by omega)
    have e : 2 ^ (12 + 1) = 8192 := by decide
    omega
/-! ### splitting -/
theorem weave_cut (k1 : List (List E)) (e1 : List E) (e : E) (k2 : List (List E)) (e2 : List E) (h1 : k1.length = e1.length + 1) (h2 : k2.length = e2.length + 1) : weave (k1 ++ k2) (e1 ++ e :: e2) = weave k1 e1 ++ e :: weave k2 e2 := by
  obtain ⟨kL, k, rfl⟩ : ∃ kL k, k1 = kL ++ [k] := by
    rcases List.eq_nil_or_concat k1 with h | ⟨kL, k, h⟩
    · rw [h] at h1; simp at h1
    · exact ⟨kL, k, by simpa using h⟩
  cases k2 with
  | nil => simp at h2
  | cons k' k2 =>
    have hl : kL.length = e1.length := by simpa using h1
    rw [List.append_assoc, List.singleton_append, weave_at kL e1 k (k' :: k2) (e :: e2) hl]
    have := weave_at kL e1 k [] [] hl
    rw [List.append_nil] at this
    rw [this]
    simp [wR, weave]
def tl (t : BT) : BT := .nd (t.es.take (t.es.length / 2)) (t.ts.take (t.es.length / 2 + 1))
def tr (t : BT) : BT := .nd (t.es.drop (t.es.length / 2 + 1)) (t.ts.drop (t.es.length / 2 + 1))
def mid (t : BT) : E := t.es.getD (t.es.length / 2) (0, 0)
theorem es_cut (es : List E) {i : Nat} (h : i < es.length) : es = es.take i ++ es.getD i (0, 0) :: es.drop (i + 1) := by
  have : es.getD i (0, 0) = es[i] := by simp [List.getD, h]
  rw [this, ← List.drop_eq_getElem_cons h, List.take_append_drop]
theorem flat_split {n b : Nat} {t : BT} {A : Bag} (hh : Hold n b t A) (h1 : 1 ≤ t.es.length) : flat n t = flat n (tl t) ++ mid t :: flat n (tr t) := by
  have hc := es_cut t.es (i := t.es.length / 2) (by omega)
  cases n with
  | zero => exact hc
  | succ n =>
    have hl := hh.len
    show weave (t.ts.map (flat n)) t.es = weave ((t.ts.take _).map (flat n)) (t.es.take _) ++ _ :: weave ((t.ts.drop _).map (flat n)) (t.es.drop _)
    rw [← weave_cut]
    · rw [← List.map_append, List.take_append_drop]
      exact congrArg _ hc
    · rw [List.length_map, List.length_take, List.length_take]; omega
    · rw [List.length_map, List.length_drop, List.length_drop]; omega
theorem hold_split {h0 h : Hp} {n b : Nat} {t : BT} {A F : Bag} (hh : Hold n b t A) (s : St h0 h (A + F)) (h1 : 1 ≤ t.es.length) (hsz : t.es.length < 1000) :
    HCalls Try.prog 65 #[ptr b] h (fun v h' => ∃ r A1 A2, v = .tuple #[.int .i64 (mid t).1, .int .i64 (mid t).2, ptr r] ∧ Hold n b (tl t) A1 ∧ Hold n r (tr t) A2 ∧ St h0 h' (A1 + (A2 + F))) := by
  cases n with
  | zero =>
    obtain ⟨ht, hn⟩ := hh
    refine (split_ok s hn h1 (.inl rfl) hsz).mono fun v h' ⟨r, A1, A2, hv, n1, n2, s'⟩ => ⟨r, A1, A2, hv, ⟨by show t.ts.take _ = []; rw [ht]; rfl, n1⟩, ⟨by show t.ts.drop _ = []; rw [ht]; rfl, n2⟩, s'⟩
  | succ n =>
    have hlen := hh.len
    obtain ⟨ks, A1, A2, rfl, hn, hl, ha⟩ := hh
    have s1 : St h0 h (A1 + (A2 + F)) := s.to
    refine (split_ok s1 hn h1 (.inr hl) hsz).mono fun v h' ⟨r, B1, B2, hv, n1, n2, s'⟩ => ?_
    rw [← List.take_append_drop (t.es.length / 2 + 1) ks, ← List.take_append_drop (t.es.length / 2 + 1) t.ts] at ha
    obtain ⟨C1, C2, rfl, a1, a2⟩ := AllH.split _ _ (by rw [List.length_take, List.length_take, hl, hlen]) ha
    refine ⟨r, B1 + C1, B2 + C2, hv, ⟨_, B1, C1, rfl, n1, ?_, a1⟩, ⟨_, B2, C2, rfl, n2, ?_, a2⟩, s'.to⟩
    · show (ks.take (t.es.length / 2 + 1)).length = (t.es.take (t.es.length / 2)).length + 1
      rw [List.length_take, List.length_take]; omega
    · show (ks.drop (t.es.length / 2 + 1)).length = (t.es.drop (t.es.length / 2 + 1)).length + 1
      rw [List.length_drop, List.length_drop]; omega
theorem Sz.tl {lo hi n : Nat} {t : BT} (h1 : lo ≤ t.es.length / 2) (h2 : t.es.length ≤ hi + 1) (h3 : 1 ≤ hi) (hk : ∀ m, n = m + 1 → ∀ c ∈ t.ts, Sz lo hi m c) : Sz lo hi n (tl t) := by
  have hl : (Go.Proofs.Ytaemnjblcpknpaa.tl t).es.length = t.es.length / 2 := by show (t.es.take (t.es.length / 2)).length = _; rw [List.length_take]; omega
  cases n with
  | zero => exact ⟨by rw [hl]; exact h1, by rw [hl]; omega⟩
  | succ n => exact ⟨⟨by rw [hl]; exact h1, by rw [hl]; omega⟩, fun c hc => hk n rfl c (List.mem_of_mem_take hc)⟩
theorem Sz.tr {lo hi n : Nat} {t : BT} (h1 : lo + (t.es.length / 2 + 1) ≤ t.es.length) (h2 : t.es.length ≤ hi + 1) (hk : ∀ m, n = m + 1 → ∀ c ∈ t.ts, Sz lo hi m c) : Sz lo hi n (tr t) := by
  have hl : (Go.Proofs.Ytaemnjblcpknpaa.tr t).es.length = t.es.length - (t.es.length / 2 + 1) := by show (t.es.drop (t.es.length / 2 + 1)).length = _; rw [List.length_drop]
  cases n with
  | zero => exact ⟨by rw [hl]; omega, by rw [hl]; omega⟩
  | succ n => exact ⟨⟨by rw [hl]; omega, by rw [hl]; omega⟩, fun c hc => hk n rfl c (List.mem_of_mem_drop hc)⟩
end Go.Proofs.Ytaemnjblcpknpaa
