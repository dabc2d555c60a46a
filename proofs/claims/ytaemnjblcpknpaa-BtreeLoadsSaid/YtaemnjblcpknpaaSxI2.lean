/- Bytes and strings. -/
import Derived.Test.YtaemnjblcpknpaaSxI
namespace Go.Sx
open Go
section
variable {P : Program}
def byteV (b : UInt8) : Value := .int .u8 (b.toNat : Int)

theorem hq_bytes (h : Hp) (f : Value → ByteArray → Sem (ForInStep ByteArray))
    (hf : ∀ (b : UInt8) (s : ByteArray) (K : ForInStep ByteArray → Prop), K (.yield (s.push b)) → hq P (f (byteV b) s) h K) :
    ∀ (bs : List UInt8) (s : ByteArray) (K : ByteArray → Prop), K (bs.foldl ByteArray.push s) → hq P (forIn (bs.map byteV) s f) h K
  | [], s, K, hk => by simpa [hq_pure'] using hk
  | b :: bs, s, K, hk => by
    simp only [List.map_cons, List.forIn_cons, hq_bind']
    refine hf b s _ ?_
    exact hq_bytes h f hf bs (s.push b) K hk

theorem foldl_push (bs : List UInt8) : ∀ s : ByteArray, bs.foldl ByteArray.push s = ⟨(s.data.toList ++ bs).toArray⟩ := by
  induction bs with
  | nil => intro s; simp
  | cons b r ih =>
    intro s
    simp only [List.foldl_cons]
    rw [ih]
    simp [ByteArray.push]

/-- '[]byte' to string. -/
theorem hw_bytes_string {s d e : TypeId} {h : Hp} {p : Option Addr} {n c : Nat} {bs : List UInt8} {K : ByteArray → Hp → Prop} (hs : P.underlying s = some (.slice e)) (he : P.underlying e = some (.int .u8)) (hd : P.underlying d = some .string)
    (r : Rd h p n (bs.map byteV)) (hk : K ⟨bs.toArray⟩ h) : hw P (convert s d (.slice p n c)) h (strK K) := by
  refine hw_of_hq _ _ _ ?_
  simp only [convert, hq_bind', hq_underlying, hs, hd, he]
  have hl : bs.length = n := by have := r.len; simpa using this
  cases p with
  | none =>
    have hn : n = 0 := by
      rcases r.2 with h0 | ⟨a, ha, _⟩
      · exact h0
      · cases ha
    have : bs = [] := List.eq_nil_of_length_eq_zero (by omega)
    subst this
    exact hk
  | some a =>
    simp only [Conv.bytesToString, loadCells, hq_bind']
    have hld : ∀ (m i : Nat) (acc : Array Value) (K : Array Value → Prop), i + m = n → K (acc ++ ((bs.map byteV).drop i).toArray) → hq P (loadCellsFrom a i m acc) h K := by
      intro m
      induction m with
      | zero =>
        intro i acc K hi hk
        have e0 : (bs.map byteV).drop i = [] := List.drop_eq_nil_of_le (by simp; omega)
        rw [e0] at hk
        have e1 : acc ++ ([] : List Value).toArray = acc := by simp
        rw [e1] at hk
        exact hk
      | succ m ih =>
        intro i acc K hi hk
        simp only [loadCellsFrom, hq_bind']
        obtain ⟨a', ha, hx, hc⟩ := r.at_ (i := i) (by omega)
        obtain rfl := Option.some.inj ha
        rw [Nat.mul_one] at hc
        refine ⟨_, hc, ?_⟩
        refine ih (i + 1) _ K (by omega) ?_
        have e : acc.push (bs.map byteV)[i] ++ ((bs.map byteV).drop (i + 1)).toArray = acc ++ ((bs.map byteV).drop i).toArray := by
          apply Array.ext'; rw [List.drop_eq_getElem_cons hx]; simp
        rw [e]; exact hk
    refine hld n 0 #[] _ (by omega) ?_
    have e : (#[] : Array Value) ++ ((bs.map byteV).drop 0).toArray = (bs.map byteV).toArray := by simp
    rw [e, List.forIn_toArray]
    refine hq_bytes h _ ?_ bs ByteArray.empty _ ?_
    · intro b s K hk
      simp only [byteV, hq_pure']
      simpa using hk
    · rw [foldl_push]
      have e2 : (⟨((ByteArray.empty).data.toList ++ bs).toArray⟩ : ByteArray) = ⟨bs.toArray⟩ := by simp
      rw [e2]
      exact hk
end
end Go.Sx
