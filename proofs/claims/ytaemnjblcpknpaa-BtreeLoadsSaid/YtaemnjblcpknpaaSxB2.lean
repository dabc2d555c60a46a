/- B-trees: subtrees, their entries in order, frames of a path. -/
import Derived.Test.YtaemnjblcpknpaaSxB1
set_option maxRecDepth 100000
namespace Go.Proofs.Ytaemnjblcpknpaa
open Go Go.Sx
inductive BT where
  | nd (es : List E) (ts : List BT)
def BT.es : BT → List E | .nd es _ => es
def BT.ts : BT → List BT | .nd _ ts => ts
/-- The subtree of a height at a block. -/
def Hold : Nat → Nat → BT → Bag → Prop
  | 0, b, t, A => t.ts = [] ∧ NodeA b t.es [] A
  | n + 1, b, t, A => ∃ ks A1 A2, A = A1 + A2 ∧ NodeA b t.es ks A1 ∧ ks.length = t.es.length + 1 ∧ AllH (Hold n) ks t.ts A2
/-! ### entries in order -/
def wL : List (List E) → List E → List E
  | k :: ks, e :: es => k ++ e :: wL ks es
  | _, _ => []
def wR : List E → List (List E) → List E
  | e :: es, k :: ks => e :: (k ++ wR es ks)
  | _, _ => []
def weave : List (List E) → List E → List E
  | k :: ks, es => k ++ wR es ks
  | [], _ => []
def flat : Nat → BT → List E
  | 0, t => t.es
  | n + 1, t => weave (t.ts.map (flat n)) t.es
theorem wL_append : ∀ (ks ks' : List (List E)) (es es' : List E), ks.length = es.length → wL (ks ++ ks') (es ++ es') = wL ks es ++ wL ks' es'
  | [], _, [], _, _ => rfl
  | [], _, _ :: _, _, h => by simp at h
  | _ :: _, _, [], _, h => by simp at h
  | k :: ks, ks', e :: es, es', h => by simp only [List.cons_append, wL, wL_append ks ks' es es' (by simpa using h), List.append_assoc]
theorem wR_append : ∀ (es es' : List E) (ks ks' : List (List E)), ks.length = es.length → wR (es ++ es') (ks ++ ks') = wR es ks ++ wR es' ks'
  | [], _, [], _, _ => rfl
  | [], _, _ :: _, _, h => by simp at h
  | _ :: _, _, [], _, h => by simp at h
  | e :: es, es', k :: ks, ks', h => by simp only [List.cons_append, wR, wR_append es es' ks ks' (by simpa using h), List.append_assoc]
theorem weave_at : ∀ (kL : List (List E)) (eL : List E) (k : List E) (kR : List (List E)) (eR : List E), kL.length = eL.length → weave (kL ++ k :: kR) (eL ++ eR) = wL kL eL ++ (k ++ wR eR kR)
  | [], [], _, _, _, _ => rfl
  | [], _ :: _, _, _, _, h => by simp at h
  | _ :: _, [], _, _, _, h => by simp at h
  | x :: kL, e :: eL, k, kR, eR, h => by
    have ih := weave_at kL eL k kR eR (by simpa using h)
    cases kL with
    | nil =>
      cases eL with
      | nil => simp [weave, wR, wL]
      | cons _ _ => simp at h
    | cons y kL =>
      cases eL with
      | nil => simp at h
      | cons e' eL =>
        simp only [List.cons_append, weave, wR, wL, List.append_assoc] at ih ⊢
        rw [ih]
/-- A node with a hole in place of a child. -/
structure Fr where
  b : Nat
  eL : List E
  eR : List E
  kL : List Nat
  kR : List Nat
  tL : List BT
  tR : List BT
def fill (f : Fr) (t : BT) : BT := .nd (f.eL ++ f.eR) (f.tL ++ t :: f.tR)
def HoldF (n : Nat) (f : Fr) (k : Nat) (A : Bag) : Prop :=
  f.tL.length = f.eL.length ∧ f.tR.length = f.eR.length ∧ ∃ A1 A2 A3, A = A1 + (A2 + A3) ∧ NodeA f.b (f.eL ++ f.eR) (f.kL ++ k :: f.kR) A1 ∧ AllH (Hold n) f.kL f.tL A2 ∧ AllH (Hold n) f.kR f.tR A3
theorem HoldF.fill {n : Nat} {f : Fr} {k : Nat} {t : BT} {A A' : Bag} (h : HoldF n f k A) (ht : Hold n k t A') : Hold (n + 1) f.b (fill f t) (A + A') := by
  obtain ⟨l1, l2, A1, A2, A3, rfl, h1, h2, h3⟩ := h
  refine ⟨f.kL ++ k :: f.kR, A1, A2 + (A' + A3), by ac_rfl, h1, ?_, ?_⟩
  · have := h2.len
    have := h3.len
    simp only [BT.es, Go.Proofs.Ytaemnjblcpknpaa.fill, List.length_append, List.length_cons]
    omega
  · exact h2.append ⟨A', A3, rfl, ht, h3⟩
theorem Hold.down {n b i : Nat} {t : BT} {A : Bag} {eL eR : List E} (h : Hold (n + 1) b t A) (he : t.es = eL ++ eR) (hi : eL.length = i) :
    ∃ f k t' A1 A2, f.b = b ∧ f.eL = eL ∧ f.eR = eR ∧ Go.Proofs.Ytaemnjblcpknpaa.fill f t' = t ∧ A = A1 + A2 ∧ HoldF n f k A1 ∧ Hold n k t' A2 ∧ f.kL.length = i := by
  obtain ⟨ks, A1, A2, rfl, h1, hl, h2⟩ := h
  cases t with
  | nd es ts =>
  simp only [BT.es, BT.ts] at he hl h1 h2
  subst he
  have hlt := h2.len
  rw [List.length_append] at hl
  have d1 : ks = ks.take i ++ ks.drop i := (List.take_append_drop i ks).symm
  have d2 : ts = ts.take i ++ ts.drop i := (List.take_append_drop i ts).symm
  have l1 : (ks.take i).length = i := by rw [List.length_take]; omega
  have l2 : (ts.take i).length = i := by rw [List.length_take]; omega
  rw [d1, d2] at h2
  obtain ⟨B1, B2, rfl, k1, k2⟩ := AllH.split _ _ (by rw [l1, l2]) h2
  have m1 : (ks.drop i).length = eR.length + 1 := by rw [List.length_drop]; omega
  have m2 : (ts.drop i).length = eR.length + 1 := by rw [List.length_drop]; omega
  cases hk : ks.drop i with
  | nil => rw [hk] at m1; simp at m1
  | cons k kR =>
  cases ht : ts.drop i with
  | nil => rw [ht] at m2; simp at m2
  | cons t' tR =>
  rw [hk, ht] at k2
  obtain ⟨C1, C2, rfl, c1, c2⟩ := k2
  rw [hk] at m1
  rw [ht] at m2
  refine ⟨⟨b, eL, eR, ks.take i, kR, ts.take i, tR⟩, k, t', A1 + (B1 + C2), C1, rfl, rfl, rfl, ?_, by ac_rfl, ⟨by rw [hi]; exact l2, by simpa using m2, A1, B1, C2, rfl, ?_, k1, c2⟩, c1, l1⟩
  · simp only [Go.Proofs.Ytaemnjblcpknpaa.fill]
    rw [← ht, List.take_append_drop]
  · show NodeA b (eL ++ eR) (ks.take i ++ k :: kR) A1
    rw [← hk, List.take_append_drop]
    exact h1
/-- The way down to a hole, the innermost frame first. -/
def HoldC (root : Nat) : Nat → List Fr → Nat → Bag → Prop
  | _, [], k, A => k = root ∧ A = 0
  | n, f :: fs, k, A => ∃ A1 A2, A = A1 + A2 ∧ HoldF n f k A1 ∧ HoldC root (n + 1) fs f.b A2
def plug : List Fr → BT → BT
  | [], t => t
  | f :: fs, t => plug fs (fill f t)
theorem HoldC.plug {root : Nat} : ∀ {n : Nat} {fs : List Fr} {k : Nat} {t : BT} {A A' : Bag}, HoldC root n fs k A → Hold n k t A' → Hold (n + fs.length) root (plug fs t) (A + A')
  | _, [], _, _, _, _, ⟨rfl, rfl⟩, h => by rw [Bag.zero_add]; exact h
  | n, f :: fs, k, t, _, A', ⟨A1, A2, rfl, h1, h2⟩, h => by
    have := HoldC.plug h2 (h1.fill h)
    rw [show n + (f :: fs).length = n + 1 + fs.length by simp; omega]
    rw [show A1 + A2 + A' = A2 + (A1 + A') by ac_rfl]
    exact this
/-- What stands before a hole, and behind it. -/
def before (n : Nat) (f : Fr) : List E := wL (f.tL.map (flat n)) f.eL
def behind (n : Nat) (f : Fr) : List E := wR f.eR (f.tR.map (flat n))
theorem flat_fill {n : Nat} {f : Fr} (t : BT) (h : f.tL.length = f.eL.length) : flat (n + 1) (fill f t) = before n f ++ (flat n t ++ behind n f) := by
  show weave ((f.tL ++ t :: f.tR).map (flat n)) (f.eL ++ f.eR) = _
  rw [List.map_append, List.map_cons, weave_at _ _ _ _ _ (by simpa using h)]
  rfl
def Lb : Nat → List Fr → List E
  | _, [] => []
  | n, f :: fs => Lb (n + 1) fs ++ before n f
def Rb : Nat → List Fr → List E
  | _, [] => []
  | n, f :: fs => behind n f ++ Rb (n + 1) fs
def OkC : List Fr → Prop
  | [] => True
  | f :: fs => f.tL.length = f.eL.length ∧ f.tR.length = f.eR.length ∧ OkC fs
theorem HoldC.ok {root : Nat} : ∀ {n : Nat} {fs : List Fr} {k : Nat} {A : Bag}, HoldC root n fs k A → OkC fs
  | _, [], _, _, _ => trivial
  | _, _ :: _, _, _, ⟨_, _, _, h1, h2⟩ => ⟨h1.1, h1.2.1, h2.ok⟩
theorem flat_plug : ∀ {n : Nat} {fs : List Fr} (t : BT), OkC fs → flat (n + fs.length) (plug fs t) = Lb n fs ++ (flat n t ++ Rb n fs)
  | n, [], t, _ => by simp [plug, Lb, Rb]
  | n, f :: fs, t, h => by
    rw [show n + (f :: fs).length = n + 1 + fs.length by simp; omega]
    show flat (n + 1 + fs.length) (plug fs (fill f t)) = _
    rw [flat_plug (fill f t) h.2.2, flat_fill t h.1]
    simp only [Lb, Rb, List.append_assoc]
/-- The numbers of entries of all nodes. -/
def Sz (lo hi : Nat) : Nat → BT → Prop
  | 0, t => lo ≤ t.es.length ∧ t.es.length ≤ hi
  | n + 1, t => (lo ≤ t.es.length ∧ t.es.length ≤ hi) ∧ ∀ c ∈ t.ts, Sz lo hi n c
theorem Sz.here {lo hi n : Nat} {t : BT} (h : Sz lo hi n t) : lo ≤ t.es.length ∧ t.es.length ≤ hi := by cases n with | zero => exact h | succ n => exact h.1
/-- The root has one entry at least. -/
def SzR (lo hi : Nat) : Nat → BT → Prop
  | 0, t => 1 ≤ t.es.length ∧ t.es.length ≤ hi
  | n + 1, t => (1 ≤ t.es.length ∧ t.es.length ≤ hi) ∧ ∀ c ∈ t.ts, Sz lo hi n c
def SzC (lo hi : Nat) : Nat → List Fr → Prop
  | _, [] => True
  | n, f :: fs => ((match fs with | [] => 1 | _ => lo) ≤ (f.eL ++ f.eR).length ∧ (f.eL ++ f.eR).length ≤ hi) ∧ (∀ c ∈ f.tL, Sz lo hi n c) ∧ (∀ c ∈ f.tR, Sz lo hi n c) ∧ SzC lo hi (n + 1) fs
def lo' (lo : Nat) : List Fr → Nat | [] => 1 | _ => lo
/-- A subtree below a way down. -/
def SzB (lo hi : Nat) (n : Nat) (fs : List Fr) (t : BT) : Prop :=
  (lo' lo fs ≤ t.es.length ∧ t.es.length ≤ hi) ∧ ∀ m, n = m + 1 → ∀ c ∈ t.ts, Sz lo hi m c
theorem SzR.b {lo hi n : Nat} {t : BT} (h : SzR lo hi n t) : SzB lo hi n [] t := by
  cases n with
  | zero => exact ⟨h, fun m hm => by omega⟩
  | succ n => exact ⟨h.1, fun m hm c hc => by obtain rfl : n = m := by omega
                                              exact h.2 c hc⟩
theorem SzB.r {lo hi n : Nat} {t : BT} (h : SzB lo hi n [] t) : SzR lo hi n t := by
  cases n with
  | zero => exact h.1
  | succ n => exact ⟨h.1, h.2 n rfl⟩
theorem Sz.b {lo hi n : Nat} {t : BT} {f : Fr} {fs : List Fr} (h : Sz lo hi n t) : SzB lo hi n (f :: fs) t := by
  cases n with
  | zero => exact ⟨h, fun m hm => by omega⟩
  | succ n => exact ⟨h.1, fun m hm c hc => by obtain rfl : n = m := by omega
                                              exact h.2 c hc⟩
theorem SzB.s {lo hi n : Nat} {t : BT} {f : Fr} {fs : List Fr} (h : SzB lo hi n (f :: fs) t) : Sz lo hi n t := by
  cases n with
  | zero => exact h.1
  | succ n => exact ⟨h.1, h.2 n rfl⟩
theorem SzB.down {lo hi n : Nat} {t t' : BT} {f : Fr} {fs : List Fr} (h : SzB lo hi (n + 1) fs t) (hf : fill f t' = t) (hc : SzC lo hi (n + 1) fs) : SzC lo hi n (f :: fs) ∧ Sz lo hi n t' := by
  subst hf
  have h2 := h.2 n rfl
  refine ⟨⟨?_, fun c hc => h2 c (by simp [fill, BT.ts, hc]), fun c hc => h2 c (by simp [fill, BT.ts, hc]), hc⟩, h2 t' (by simp [fill, BT.ts])⟩
  have := h.1
  cases fs <;> exact this
theorem SzC.up {lo hi n : Nat} {t' : BT} {f : Fr} {fs : List Fr} (h : SzC lo hi n (f :: fs)) (ht : Sz lo hi n t') : SzB lo hi (n + 1) fs (fill f t') := by
  refine ⟨?_, fun m hm c hc => ?_⟩
  · have := h.1
    cases fs <;> exact this
  · obtain rfl : n = m := by omega
    simp only [fill, BT.ts, List.mem_append, List.mem_cons] at hc
    rcases hc with h1 | rfl | h1
    · exact h.2.1 c h1
    · exact ht
    · exact h.2.2.1 c h1
theorem SzC.plug {lo hi : Nat} : ∀ {n : Nat} {fs : List Fr} {t : BT}, SzC lo hi n fs → SzB lo hi n fs t → SzR lo hi (n + fs.length) (plug fs t)
  | _, [], _, _, h => h.r
  | n, f :: fs, t, hc, h => by
    rw [show n + (f :: fs).length = n + 1 + fs.length by simp; omega]
    exact SzC.plug hc.2.2.2 (hc.up h.s)
end Go.Proofs.Ytaemnjblcpknpaa
