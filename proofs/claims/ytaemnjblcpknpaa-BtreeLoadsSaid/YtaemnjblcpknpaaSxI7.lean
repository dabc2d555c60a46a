/- Lists of things that own blocks. -/
import Derived.Test.YtaemnjblcpknpaaSxI6
namespace Go.Sx
open Go
def AllH {α β : Type} (P : β → α → Bag → Prop) : List β → List α → Bag → Prop
  | [], [], A => A = 0
  | b :: bs, t :: ts, A => ∃ A1 A2, A = A1 + A2 ∧ P b t A1 ∧ AllH P bs ts A2
  | _, _, _ => False
section
variable {α β : Type} {P : β → α → Bag → Prop}
theorem AllH.len : ∀ {bs : List β} {ts : List α} {A : Bag}, AllH P bs ts A → bs.length = ts.length
  | [], [], _, _ => rfl
  | [], _ :: _, _, h => h.elim
  | _ :: _, [], _, h => h.elim
  | _ :: bs, _ :: ts, _, ⟨_, _, _, _, h⟩ => by simp [AllH.len h]
theorem AllH.append : ∀ {bs : List β} {ts : List α} {A : Bag} {bs' : List β} {ts' : List α} {A' : Bag}, AllH P bs ts A → AllH P bs' ts' A' → AllH P (bs ++ bs') (ts ++ ts') (A + A')
  | [], [], _, _, _, A', h, h' => by
    obtain rfl : _ = (0 : Bag) := h
    rw [Bag.zero_add]; exact h'
  | [], _ :: _, _, _, _, _, h, _ => h.elim
  | _ :: _, [], _, _, _, _, h, _ => h.elim
  | _ :: _, _ :: _, _, _, _, _, ⟨A1, A2, e, h1, h2⟩, h' => ⟨A1, _, by rw [e, Bag.assoc], h1, AllH.append h2 h'⟩
theorem AllH.split : ∀ (bs : List β) (ts : List α) {A : Bag} {bs' : List β} {ts' : List α}, bs.length = ts.length → AllH P (bs ++ bs') (ts ++ ts') A → ∃ A1 A2, A = A1 + A2 ∧ AllH P bs ts A1 ∧ AllH P bs' ts' A2
  | [], [], A, _, _, _, h => ⟨0, A, (Bag.zero_add A).symm, rfl, h⟩
  | [], _ :: _, _, _, _, hl, _ => by simp at hl
  | _ :: _, [], _, _, _, hl, _ => by simp at hl
  | _ :: bs, _ :: ts, _, _, _, hl, ⟨A1, A2, e, h1, h2⟩ => by
    obtain ⟨B1, B2, e2, k1, k2⟩ := AllH.split bs ts (by simpa using hl) h2
    exact ⟨A1 + B1, B2, by rw [e, e2, Bag.assoc], ⟨A1, B1, rfl, h1, k1⟩, k2⟩
theorem AllH.one {b : β} {t : α} {A : Bag} (h : P b t A) : AllH P [b] [t] A := ⟨A, 0, (Bag.add_zero A).symm, h, rfl⟩
theorem AllH.mono {Q : β → α → Bag → Prop} (hm : ∀ b t A, P b t A → Q b t A) : ∀ {bs : List β} {ts : List α} {A : Bag}, AllH P bs ts A → AllH Q bs ts A
  | [], [], _, h => h
  | [], _ :: _, _, h => h.elim
  | _ :: _, [], _, h => h.elim
  | _ :: _, _ :: _, _, ⟨A1, A2, e, h1, h2⟩ => ⟨A1, A2, e, hm _ _ _ h1, AllH.mono hm h2⟩
end
section
variable {α β : Type} {P : β → α → Bag → Prop}
theorem AllH.pick {d : α} {d' : β} : ∀ {bs : List β} {ts : List α} {A : Bag} {i : Nat}, AllH P bs ts A → i < bs.length → ∃ Ai B, A = Ai + B ∧ P (bs.getD i d') (ts.getD i d) Ai
  | [], _, _, _, _, h => by simp at h
  | _ :: _, [], _, _, h, _ => h.elim
  | b :: bs, t :: ts, _, 0, ⟨A1, A2, e, h1, _⟩, _ => ⟨A1, A2, e, h1⟩
  | b :: bs, t :: ts, _, i + 1, ⟨A1, A2, e, _, h2⟩, hi => by
    obtain ⟨Ai, B, e2, h3⟩ := AllH.pick (d := d) (d' := d') h2 (i := i) (by simpa using hi)
    exact ⟨Ai, A1 + B, by rw [e, e2]; ac_rfl, by simpa using h3⟩
end
/-- Slices as elements. -/
abbrev SH := Option Addr × Nat × Nat
abbrev tS (e : TypeId) : Ty SH := ⟨e, 1, fun s => [.slice s.1 s.2.1 s.2.2], (none, 0, 0), fun _ => rfl, by decide, fun _ v hv => by simp at hv; subst hv; rfl⟩
/-- A slice of things that own blocks. -/
def Nest {α : Type} (e : TypeId) (P : SH → α → Bag → Prop) (s : SH) (xs : List α) (B : Bag) : Prop :=
  ∃ hs B0 B1, B = B0 + B1 ∧ Sl (tS e) s.1 s.2.1 s.2.2 hs B0 ∧ AllH P hs xs B1
theorem Nest.nil {α : Type} {e : TypeId} {P : SH → α → Bag → Prop} : Nest e P (none, 0, 0) [] 0 := ⟨[], 0, 0, (Bag.add_zero 0).symm, Sl.nil, rfl⟩
theorem Nest.len {α : Type} {e : TypeId} {P : SH → α → Bag → Prop} {s : SH} {xs : List α} {B : Bag} (n : Nest e P s xs B) : xs.length = s.2.1 := by
  obtain ⟨hs, B0, B1, _, h1, h2⟩ := n
  rw [← h2.len, h1.len]
/-- 'out = append(out, x)' of a slice x. -/
theorem push_nest {α : Type} {P : Program} {t e e' : TypeId} {Q : SH → α → Bag → Prop} {h0 h : Hp} {p : Option Addr} {n c : Nat} {q : Option Addr} {m d : Nat} {xs : List α} {x : α} {A B G : Bag} {k : Option Addr → Nat → Nat → Hp → Prop}
    (ok : ElOk (tS e) P t) (s : St h0 h (A + (B + G))) (a : Nest e Q (p, n, c) xs A) (b : Q (q, m, d) x B) (he : e' = e) (hn : n + 1 < 1073741824)
    (hk : ∀ p' c' h' A', Nest e Q (p', n + 1, c') (xs ++ [x]) A' → St h0 h' (A' + G) → k p' (n + 1) c' h') :
    New h (.cells #[.slice q m d] e') fun b h1 => appendV P t t (.slice p n c) (.slice (some ⟨b, 0, none⟩) 1 1) h1 (slK k) := by
  obtain ⟨hs, B0, B1, rfl, h1, h2⟩ := a
  have s1 : St h0 h (B0 + (B1 + (B + G))) := s.to
  refine push_sl (cs := [.slice q m d]) ok s1 h1 (x := (q, m, d)) rfl he hn fun p' c' h' A' a' s' => ?_
  exact hk p' c' h' (A' + (B1 + B)) ⟨hs ++ [(q, m, d)], A', B1 + B, rfl, a', h2.append (AllH.one b)⟩ s'.to
/-- An element of such a slice. -/
theorem Nest.at_ {α : Type} {e : TypeId} {P : SH → α → Bag → Prop} {s : SH} {xs : List α} {B G : Bag} {h0 h : Hp} {i : Int} {d : α} {Q : Option Addr → Nat → Nat → Prop} (n : Nest e P s xs B) (st : St h0 h (B + G)) (hi0 : 0 ≤ i) (hi : i < s.2.1)
    (hq : ∀ p l c Bi Br, P (p, l, c) (xs.getD i.toNat d) Bi → B = Bi + Br → Q p l c) :
    (0 ≤ i ∧ i < (s.2.1 : Int)) ∧ NN s.1 fun a => ∃ (p : Option Addr) (l c : Nat), cell h (a.add (i.toNat * 1)) = some (.slice p l c) ∧ Q p l c := by
  obtain ⟨hs, B0, B1, rfl, h1, h2⟩ := n
  have r := h1.rd (st.to (B := B0 + (B1 + G)))
  refine r.idx hi0 hi fun a _ hc => ?_
  have hl := h1.len
  obtain ⟨Bi, Br, hB, hp⟩ := h2.pick (d := d) (d' := (none, 0, 0)) (i := i.toNat) (by omega)
  exact ⟨_, _, _, hc 0 Nat.one_pos, hq _ _ _ Bi (B0 + Br) hp (by rw [hB]; ac_rfl)⟩
end Go.Sx
