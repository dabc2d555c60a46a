/- Part T6 of the proof: contracts of functions of the program, and what follows from them. -/
import Derived.Test.YtmlfoefadmlhpaaSxT5
set_option maxRecDepth 10000
namespace Go.Proofs.Ytmlfoefadmlhpaa
open Go Go.Sx

/-- Balanced, and nothing closes all but the last one. -/
def Bal1 (b : List Bool) : Prop := 0 < b.length ∧ Ex b b.length = 0 ∧ ∀ t, 0 < t → t < b.length → 0 < Ex b t
def decB (bs : List UInt8) : List Bool := bs.map fun x => decide (x = 40)
def allPar (bs : List UInt8) : Prop := ∀ i, i < bs.length → bs.getD i 0 = 40 ∨ bs.getD i 0 = 41
def okS (s : ByteArray) : Prop := allPar s.data.toList ∧ Bal1 (decB s.data.toList)
theorem decB_len (bs : List UInt8) : (decB bs).length = bs.length := by simp [decB]
theorem decB_get (bs : List UInt8) {i : Nat} (hi : i < bs.length) : (decB bs).getD i false = decide (bs.getD i 0 = 40) := by simp [decB, List.getD, hi]
theorem parS_decB {s : ByteArray} (h : allPar s.data.toList) : parS (decB s.data.toList) = s := by
  apply ByteArray.ext
  show (parB (decB s.data.toList)).toArray = s.data
  have : parB (decB s.data.toList) = s.data.toList := by
    unfold parB decB
    rw [List.map_map]
    refine (List.map_congr_left (g := id) fun x hx => ?_).trans (List.map_id _)
    obtain ⟨i, hi, rfl⟩ := List.getElem_of_mem hx
    have := h i hi
    have e : s.data.toList.getD i 0 = s.data.toList[i] := by rw [List.getD_eq_getElem?_getD, List.getElem?_eq_getElem hi]; rfl
    rw [e] at this
    rcases this with h1 | h1 <;> simp [h1]
  rw [this]
theorem byte_int (x : UInt8) (k : Nat) (hk : k < 256) : ((x.toNat : Nat) : Int) = (k : Int) ↔ x = UInt8.ofNat k := by
  constructor
  · intro h
    apply UInt8.toNat_inj.1
    rw [UInt8.toNat_ofNat']
    omega
  · rintro rfl
    rw [UInt8.toNat_ofNat']
    omega
theorem size_len (s : ByteArray) : s.size = s.data.toList.length := by show s.data.size = _; exact Array.length_toList.symm
theorem Ex_zero (b : List Bool) : Ex b 0 = 0 := by simp [Ex, cntB]
theorem Ex_ge (b : List Bool) (t : Nat) : -(t : Int) ≤ Ex b t := by unfold Ex; omega


theorem PT_b2 {nx : (Option Addr × Nat × Nat) × Int × Int × Unit → Hp → Prop} {K : Value → Hp → Prop} {h0 h : Hp} {s : ByteArray} {i c : Nat} {p : Option Addr} {o : Int} (hn : s.size ≤ 2000) (x : Ext h0 h) (hi : i < s.size)
    (ho : Own h h0.size 4 p i c (((decB s.data.toList).take i).map Value.bool))
    (hnx : ∀ p' c' h', Ext h0 h' → Own h' h0.size 4 p' (i + 1) c' (((decB s.data.toList).take (i + 1)).map Value.bool) → nx ((p', i + 1, c'), o, (i : Int) + 1, ()) h') :
    succinct_ParseTree_b2 s p i c o (i : Int) (s.size : Int) (i : Int) h nx K := by
  have hsl := size_len s
  rw [succinct_ParseTree_b2_eq]
  refine ⟨⟨by omega, by omega⟩, ?_⟩
  refine push_own el_bool ho x.size rfl (by omega) fun p' c' h3 o3 g3 => ?_
  rw [succinct_ParseTree_b4_eq]
  refine ⟨⟨by omega, by omega⟩, hnx p' c' h3 (ext_grow x ho g3) ?_⟩
  have hget := decB_get s.data.toList (i := i) (by omega)
  have hdl := decB_len s.data.toList
  have : ((decB s.data.toList).take (i + 1)).map Value.bool = ((decB s.data.toList).take i).map Value.bool ++ [.bool (decide (((s.data.toList.getD (Int.toNat (i : Int)) 0).toNat : Int) = 40))] := by
    rw [List.take_succ_eq_append_getElem (by omega), List.map_append]
    have hg : (decB s.data.toList)[i]'(by omega) = decide (s.data.toList.getD i 0 = 40) := by rw [← hget]; simp [List.getD, show i < (decB s.data.toList).length by omega]
    rw [hg, show ((i : Nat) : Int).toNat = i by simp]
    have h40 : (s.data.toList.getD i 0 = 40) ↔ (((s.data.toList.getD i 0).toNat : Nat) : Int) = 40 := (byte_int _ 40 (by decide)).symm
    rw [decide_eq_decide.2 h40]
    rfl
  rw [this]; exact o3

def PTPost (s : ByteArray) (h : Hp) (v : Value) (h' : Hp) : Prop := Ext h h' ∧ ((2000 < s.size ∧ v = .tuple #[.pointer none, .int .i64 4]) ∨
      (s.size ≤ 2000 ∧ okS s ∧ ∃ a, v = .tuple #[.pointer (some a), .int .i64 0] ∧ TreeH h' a (decB s.data.toList)) ∨ (s.size ≤ 2000 ∧ ¬ okS s ∧ v = .tuple #[.pointer none, .int .i64 7]))
theorem ParseTree_ok {s : ByteArray} (h : Hp) : HCalls Try.prog 25 #[.string s] h (PTPost s h) := by
  have hsl := size_len s
  refine succinct_ParseTree_call ?_
  rw [succinct_ParseTree_b0_eq]
  refine condP (fun h0 => ⟨Ext.refl _, .inl ⟨by omega, rfl⟩⟩) (fun h0 => ?_)
  have hdl := decB_len s.data.toList
  refine ⟨fun st h' => ∃ i : Nat, st.2.2.1 = i ∧ i ≤ s.size ∧ st.1.2.1 = i ∧ Ext h h' ∧ Own h' h.size 4 st.1.1 st.1.2.1 st.1.2.2 (((decB s.data.toList).take i).map Value.bool) ∧ st.2.1 = Ex (decB s.data.toList) i ∧ 0 ≤ st.2.1 ∧ (∀ t, t < i → s.data.toList.getD t 0 = 40 ∨ s.data.toList.getD t 0 = 41) ∧
      (∀ t, 0 < t → t < i → 0 < Ex (decB s.data.toList) t), fun st _ => (s.size - st.2.2.1).toNat,
    ⟨0, rfl, by omega, rfl, Ext.refl _, .inl ⟨rfl, rfl, rfl, rfl⟩, (Ex_zero _).symm, by simp only; omega, by omega, by omega⟩, ?_⟩
  rintro ⟨⟨sp, sn, sc⟩, so, si, _⟩ h1 ⟨i, hi, hin, hsn, x1, o, ho, hpos, hpar, hex⟩
  simp only at hi o ho hpos hsn
  subst hi ho hsn
  dsimp only
  have e : ((sn : Nat) : Int).toNat = sn := by simp
  have hEle := Ex_le (decB s.data.toList) sn
  have fail : ¬ okS s → PTPost s h (.tuple #[.pointer none, .int .i64 7]) h1 := fun hno => ⟨x1, .inr (.inr ⟨by omega, hno, rfl⟩)⟩
  rw [succinct_ParseTree_b1_eq]
  refine condP (fun hlt => ?_) (fun hge => ?_)
  · have hil : sn < s.data.toList.length := by omega
    have hget := decB_get s.data.toList hil
    have hes := Ex_succ (decB s.data.toList) (t := sn) (by omega)
    rw [hget] at hes
    have b40 := byte_int (s.data.toList.getD sn 0) 40 (by decide)
    have b41 := byte_int (s.data.toList.getD sn 0) 41 (by decide)
    have ext_ : ∀ {K : Value → Hp → Prop}, (s.data.toList.getD sn 0 = 40 ∨ s.data.toList.getD sn 0 = 41) → 0 ≤ Ex (decB s.data.toList) (sn + 1) → (0 < sn → 0 < Ex (decB s.data.toList) sn) → ∀ o', o' = Ex (decB s.data.toList) (sn + 1) →
        succinct_ParseTree_b2 s sp sn sc o' (sn : Int) (s.size : Int) (sn : Int) h1 (fun st h' => (∃ i : Nat, st.2.2.1 = i ∧ i ≤ s.size ∧ st.1.2.1 = i ∧ Ext h h' ∧ Own h' h.size 4 st.1.1 st.1.2.1 st.1.2.2 (((decB s.data.toList).take i).map Value.bool) ∧ st.2.1 = Ex (decB s.data.toList) i ∧ 0 ≤ st.2.1 ∧ (∀ t, t < i → s.data.toList.getD t 0 = 40 ∨ s.data.toList.getD t 0 = 41) ∧
      (∀ t, 0 < t → t < i → 0 < Ex (decB s.data.toList) t)) ∧ (s.size - st.2.2.1).toNat < (s.size - (sn : Int)).toNat) K := by
      rintro K hp hge hprev o' rfl
      refine PT_b2 (by omega) x1 (by omega) o fun p' c' h' x' o' => ⟨⟨sn + 1, by simp only; omega, by omega, rfl, x', o', rfl, hge, fun t ht => ?_, fun t ht0 ht => ?_⟩, by simp only; omega⟩
      · rcases Nat.lt_or_ge t sn with h4 | h4
        · exact hpar t h4
        · obtain rfl : t = sn := by omega
          exact hp
      · rcases Nat.lt_or_ge t sn with h4 | h4
        · exact hex t ht0 h4
        · obtain rfl : t = sn := by omega
          exact hprev ht0
    have notpar : ¬ (s.data.toList.getD sn 0 = 40 ∨ s.data.toList.getD sn 0 = 41) → ¬ okS s := fun hn ok => hn (ok.1 sn hil)
    have low : 0 < sn → Ex (decB s.data.toList) sn ≤ 0 → ¬ okS s := fun h1 h2 ok => by have := ok.2.2.2 sn h1 (by omega); omega
    refine ⟨⟨by omega, by omega⟩, ?_⟩
    rw [e]
    refine condP (fun h40 => ?_) (fun h40 => ?_)
    · have hc40 := b40.1 h40
      rw [if_pos (by simpa using hc40)] at hes
      refine condP (fun hop => ⟨⟨by omega, by omega⟩, ext_ (.inl hc40) (by omega) (fun _ => hop) _ (by omega)⟩) (fun hop => ?_)
      refine condP (fun hz => ⟨⟨by omega, by omega⟩, ext_ (.inl hc40) (by omega) (fun h5 => by omega) _ (by omega)⟩) (fun hz => ?_)
      refine ⟨⟨by omega, by omega⟩, ?_⟩
      refine condP (fun h41 => by have : ((40 : Int)) = 41 := h40.symm.trans h41; omega) (fun _ => fail (low (by omega) (by omega)))
    · have hn40 : ¬ s.data.toList.getD sn 0 = 40 := fun h5 => h40 (b40.2 h5)
      rw [if_neg (by simpa using hn40)] at hes
      refine ⟨⟨by omega, by omega⟩, ?_⟩
      refine condP (fun h41 => ?_) (fun h41 => ?_)
      · have hc41 := b41.1 h41
        refine condP (fun hop => ⟨⟨by omega, by omega⟩, ext_ (.inr hc41) (by omega) (fun _ => hop) _ (by omega)⟩) (fun hop => ?_)
        refine fail ?_
        rcases Nat.eq_zero_or_pos sn with h5 | h5
        · subst h5
          rw [Ex_zero, Nat.zero_add] at hes
          intro ok
          rcases Nat.lt_or_ge 1 s.size with h6 | h6
          · have := ok.2.2.2 1 (by omega) (by omega); omega
          · have h7 := ok.2.2.1
            have h8 : (decB s.data.toList).length = 1 := by omega
            rw [h8] at h7
            omega
        · exact low h5 (by omega)
      · exact fail (notpar fun h5 => h5.elim hn40 fun h6 => h41 (b41.2 h6))
  · have hsz : sn = s.size := by omega
    subst hsz
    rw [succinct_ParseTree_b3_eq]
    have hle : (decB s.data.toList).length = s.size := by omega
    refine condP (fun hop => fail fun ok => ?_) (fun hop => ?_)
    · have := ok.2.2.1; rw [hle] at this; omega
    refine condP (fun hz => fail fun ok => ?_) (fun hz => ?_)
    · have := ok.2.1; omega
    have ok : okS s := ⟨fun t ht => hpar t (by omega), by omega, by rw [hle]; omega, fun t h1 h2 => hex t h1 (by omega)⟩
    rw [succinct_ParseTree_b5_eq]
    rw [List.take_of_length_le (by omega)] at o
    refine (made_ok o.rd (by omega)).mono fun v h4 ⟨x4, a, hv, l4⟩ => ?_
    exact ⟨_, _, hv, x1.trans x4, .inr (.inl ⟨by omega, ok, a, rfl, l4.self⟩)⟩

theorem rTree_ok {s : ByteArray} (h : Hp) (hn : s.size ≤ 2000) : HCalls Try.prog 56 #[.string s] h (fun v h' => h' = h ∧ ((okS s ∧ v = .bool true) ∨ (¬ okS s ∧ v = .bool false))) := by
  have hsl := size_len s
  have hdl := decB_len s.data.toList
  refine r48_Tree_call ?_
  rw [r48_Tree_b0_eq]
  refine ⟨fun st h' => h' = h ∧ ∃ i : Nat, st.2.1 = i ∧ i ≤ s.size ∧ st.1 = Ex (decB s.data.toList) i ∧ (∀ t, t < i → s.data.toList.getD t 0 = 40 ∨ s.data.toList.getD t 0 = 41) ∧
      (∀ t, 0 < t → t ≤ i → t < s.size → 0 < Ex (decB s.data.toList) t) ∧ 0 ≤ st.1, fun st _ => (s.size - st.2.1).toNat,
    ⟨rfl, 0, rfl, by omega, (Ex_zero _).symm, by omega, by omega, by simp only; omega⟩, ?_⟩
  rintro ⟨so, si, _⟩ h1 ⟨rfl, i, hi, hin, ho, hpar, hex, hpos⟩
  simp only at hi ho hpos
  subst hi ho
  dsimp only
  have e : ((i : Nat) : Int).toNat = i := by simp
  have hEle := Ex_le (decB s.data.toList) i
  rw [r48_Tree_b1_eq]
  refine condP (fun hlt => ?_) (fun hge => ?_)
  · have hil : i < s.data.toList.length := by omega
    have hget := decB_get s.data.toList hil
    have hes := Ex_succ (decB s.data.toList) (t := i) (by omega)
    rw [hget] at hes
    have b40 := byte_int (s.data.toList.getD i 0) 40 (by decide)
    have b41 := byte_int (s.data.toList.getD i 0) 41 (by decide)
    have b4 : ∀ (d : Int), (s.data.toList.getD i 0 = 40 ∨ s.data.toList.getD i 0 = 41) → d = Ex (decB s.data.toList) (i + 1) → -1 ≤ d → r48_Tree_b4 s d (i : Int) h1 (fun st h' => (h' = h1 ∧ ∃ i : Nat, st.2.1 = i ∧ i ≤ s.size ∧ st.1 = Ex (decB s.data.toList) i ∧ (∀ t, t < i → s.data.toList.getD t 0 = 40 ∨ s.data.toList.getD t 0 = 41) ∧
      (∀ t, 0 < t → t ≤ i → t < s.size → 0 < Ex (decB s.data.toList) t) ∧ 0 ≤ st.1) ∧ (s.size - st.2.1).toNat < (s.size - (i : Int)).toNat) (fun v h' => h' = h1 ∧ ((okS s ∧ v = .bool true) ∨ (¬ okS s ∧ v = .bool false))) := by
      intro d hp hd hd1
      have b5 : (i + 1 < s.size → 0 < d) → 0 ≤ d → r48_Tree_b5 s d (i : Int) h1 (fun st h' => (h' = h1 ∧ ∃ i : Nat, st.2.1 = i ∧ i ≤ s.size ∧ st.1 = Ex (decB s.data.toList) i ∧ (∀ t, t < i → s.data.toList.getD t 0 = 40 ∨ s.data.toList.getD t 0 = 41) ∧
      (∀ t, 0 < t → t ≤ i → t < s.size → 0 < Ex (decB s.data.toList) t) ∧ 0 ≤ st.1) ∧ (s.size - st.2.1).toNat < (s.size - (i : Int)).toNat) (fun v h' => h' = h1 ∧ ((okS s ∧ v = .bool true) ∨ (¬ okS s ∧ v = .bool false))) := by
        intro h2 h3
        rw [r48_Tree_b5_eq]
        refine ⟨⟨by omega, by omega⟩, ⟨rfl, i + 1, by simp only; omega, by omega, hd, fun t ht => ?_, fun t h0 ht hts => ?_, h3⟩, by simp only; omega⟩
        · rcases Nat.lt_or_ge t i with h4 | h4
          · exact hpar t h4
          · obtain rfl : t = i := by omega
            exact hp
        · rcases Nat.lt_or_ge t (i + 1) with h4 | h4
          · exact hex t h0 (by omega) hts
          · obtain rfl : t = i + 1 := by omega
            rw [← hd]; exact h2 hts
      rw [r48_Tree_b4_eq]
      have bad : (i + 1 < s.size → d ≤ 0) → (i + 1 = s.size → d < 0) → ¬ okS s := by
        intro h2 h3 ok
        rcases Nat.lt_or_ge (i + 1) s.size with h4 | h4
        · have := ok.2.2.2 (i + 1) (by omega) (by omega); have := h2 h4; omega
        · have h5 := ok.2.2.1
          have h6 : (decB s.data.toList).length = i + 1 := by omega
          rw [h6] at h5
          have := h3 (by omega); omega
      refine condP (fun hneg => ⟨rfl, .inr ⟨bad (fun _ => by omega) (fun _ => by omega), rfl⟩⟩) (fun hneg => ?_)
      refine condP (fun hz => ?_) (fun hz => b5 (fun _ => by omega) (by omega))
      refine ⟨⟨by omega, by omega⟩, ?_⟩
      exact condP (fun hl => ⟨rfl, .inr ⟨bad (fun _ => by omega) (fun _ => by omega), rfl⟩⟩) (fun hl => b5 (fun _ => by omega) (by omega))
    have b2 : (s.data.toList.getD i 0 = 40 ∨ s.data.toList.getD i 0 = 41) → r48_Tree_b2 s (Ex (decB s.data.toList) i) (i : Int) h1 (fun st h' => (h' = h1 ∧ ∃ i : Nat, st.2.1 = i ∧ i ≤ s.size ∧ st.1 = Ex (decB s.data.toList) i ∧ (∀ t, t < i → s.data.toList.getD t 0 = 40 ∨ s.data.toList.getD t 0 = 41) ∧
      (∀ t, 0 < t → t ≤ i → t < s.size → 0 < Ex (decB s.data.toList) t) ∧ 0 ≤ st.1) ∧ (s.size - st.2.1).toNat < (s.size - (i : Int)).toNat) (fun v h' => h' = h1 ∧ ((okS s ∧ v = .bool true) ∨ (¬ okS s ∧ v = .bool false))) := by
      intro hp
      rw [r48_Tree_b2_eq, e]
      refine ⟨⟨by omega, by omega⟩, ?_⟩
      refine condP (fun h40 => ?_) (fun h40 => ?_)
      · rw [if_pos (by simpa using b40.1 h40)] at hes
        exact ⟨⟨by omega, by omega⟩, b4 _ hp (by omega) (by omega)⟩
      · rw [if_neg (by simpa using fun h5 => h40 (b40.2 h5))] at hes
        exact ⟨⟨by omega, by omega⟩, b4 _ hp (by omega) (by omega)⟩
    rw [e]
    refine ⟨⟨by omega, by omega⟩, condN (fun h40 => ?_) (fun h40 => b2 (.inl (b40.1 h40)))⟩
    refine ⟨⟨by omega, by omega⟩, condN (fun h41 => ?_) (fun h41 => b2 (.inr (b41.1 h41)))⟩
    exact ⟨rfl, .inr ⟨fun ok => (ok.1 i hil).elim (fun h5 => h40 (b40.2 h5)) (fun h5 => h41 (b41.2 h5)), rfl⟩⟩
  · rw [r48_Tree_b3_eq]
    have hsz : i = s.size := by omega
    subst hsz
    have hle : (decB s.data.toList).length = s.size := by omega
    refine condP (fun h0 => ?_) (fun h0 => ⟨rfl, .inr ⟨fun ok => by have := ok.2.1; omega, rfl⟩⟩)
    by_cases hE : Ex (decB s.data.toList) s.size = 0
    · exact ⟨rfl, .inl ⟨⟨fun t ht => hpar t (by omega), by omega, by rw [hle]; exact hE, fun t h1 h2 => hex t h1 (by omega) (by omega)⟩, by rw [decide_eq_true hE]⟩⟩
    · exact ⟨rfl, .inr ⟨fun ok => hE (by have := ok.2.2.1; rwa [hle] at this), by rw [decide_eq_false hE]⟩⟩
theorem rParse_ok {s : ByteArray} (h : Hp) (hn : s.size ≤ 4611686018427387904) : HCalls Try.prog 26 #[.string s] h (fun v h' => h' = h ∧ ((2000 < s.size ∧ v = .int .i64 4) ∨ (s.size ≤ 2000 ∧ okS s ∧ v = .int .i64 0) ∨ (s.size ≤ 2000 ∧ ¬ okS s ∧ v = .int .i64 7))) := by
  refine r48_ParseTree_call ?_
  rw [r48_ParseTree_b0_eq]
  refine condP (fun h0 => ⟨rfl, .inl ⟨by omega, rfl⟩⟩) (fun h0 => ?_)
  refine (rTree_ok h (by omega)).mono fun v h1 ⟨hh, hv⟩ => ?_
  subst hh
  rcases hv with ⟨ok, rfl⟩ | ⟨nok, rfl⟩
  · exact ⟨_, rfl, condNo rfl ⟨rfl, .inr (.inl ⟨by omega, ok, rfl⟩)⟩⟩
  · exact ⟨_, rfl, condYes rfl ⟨rfl, .inr (.inr ⟨by omega, nok, rfl⟩)⟩⟩
end Go.Proofs.Ytmlfoefadmlhpaa
