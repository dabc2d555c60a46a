/- How an argument of bytes is read. -/
import Derived.Test.YtomifmeccpconaaSxF1
set_option maxRecDepth 10000
namespace Go.Proofs.Ytomifmeccpconaa
open Go Go.Sx Go.ChangeShapes Go.WideShapes Go.ChangeAt Go.RowKit Go.Deep

theorem rd_bytes {H : Type} {enc : TypeId × Value → H} {w : World} {base : Nat} {held : Bool} {a : Option Addr} {len cap : Nat} {d : DataW H} {ps : List MemPlace}
    (h : DataW.Trod enc Try.prog w base (fun _ => true) held 43 (.slice a len cap) d ps) : ∃ b : List Nat, Rd w.heap a len (bytesV b) ∧ (∀ x ∈ b, x < 256) ∧ len ≤ cap := by
  obtain ⟨fuel, hf⟩ := h
  rcases open_ints Try.underlying43 Try.underlying5 (by kernel_rfl) hf with ⟨hcs, _⟩ | ⟨x, l, c, zs, hcs, _, hl, hm, hz, _, hcell, hwz⟩
  · simp [Value.cells] at hcs
    obtain ⟨rfl, rfl, rfl⟩ := hcs
    exact ⟨[], Rd.nil _ _, by simp, Nat.le_refl _⟩
  · simp [Value.cells] at hcs
    obtain ⟨rfl, rfl, rfl⟩ := hcs
    simp only [if_true] at hz
    have hw : ∀ n ∈ zs, 0 ≤ n ∧ n < 256 := by
      intro n hn
      have := hwz n hn
      simp only [Lit.wf, Bool.and_eq_true, decide_eq_true_eq] at this
      have e1 : IntKind.u8.min = 0 := by decide
      have e2 : IntKind.u8.max = 255 := by decide
      rw [e1, e2] at this
      omega
    refine ⟨(zs.take len).map Int.toNat, ⟨by simp [bytesV]; omega, .inr ⟨_, rfl, fun i hi => ?_⟩⟩, ?_, hl⟩
    · have hiz : i < zs.length := by omega
      have h1 : cell w.heap (x.add i) = some (.int .u8 (zs.getD i 0)) := hcell i hiz
      have h2 := hw _ (List.getElem_mem hiz)
      rw [h1]
      have h3 : zs.getD i 0 = zs[i] := by simp [List.getD, hiz]
      rw [h3]
      simp [bytesV, hi, hiz]
      omega
    · intro y hy
      simp only [List.mem_map] at hy
      obtain ⟨z, hz1, rfl⟩ := hy
      have := hw z (List.mem_of_mem_take hz1)
      omega
end Go.Proofs.Ytomifmeccpconaa
