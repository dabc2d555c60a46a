/- Part B15 B16 B17 B18 B19 B20 B21 B22 B23 B24 of the proof: contracts of functions of the program, and what follows from them. -/
import Derived.Test.YtaemnjblcpknpaaSxB14
/- B-trees: the reference's Keys and Shaped. -/
set_option maxRecDepth 100000
namespace Go.Proofs.Ytaemnjblcpknpaa
open Go Go.Sx
def Wf : Nat → BT → Prop
  | 0, t => t.ts = []
  | n + 1, t => t.ts.length = t.es.length + 1 ∧ ∀ c ∈ t.ts, Wf n c
theorem AllH.each {α β : Type} {P : β → α → Bag → Prop} : ∀ {bs : List β} {ts : List α} {A : Bag}, AllH P bs ts A → ∀ t ∈ ts, ∃ b B, P b t B
  | [], [], _, _, t, ht => nomatch ht
  | [], _ :: _, _, h, _, _ => h.elim
  | _ :: _, [], _, h, _, _ => h.elim
  | _ :: _, _ :: _, _, ⟨_, _, _, h1, h2⟩, t, ht => by
    rcases List.mem_cons.1 ht with rfl | ht
    · exact ⟨_, _, h1⟩
    · exact AllH.each h2 t ht
theorem Hold.wf : ∀ {n b : Nat} {t : BT} {A : Bag}, Hold n b t A → Wf n t
  | 0, _, _, _, h => h.1
  | n + 1, _, t, _, h => by
    refine ⟨h.len, ?_⟩
    obtain ⟨ks, A1, A2, _, _, _, h2⟩ := h
    intro c hc
    obtain ⟨b, B, hb⟩ := AllH.each h2 c hc
    exact hb.wf
theorem getD_set {α : Type} {l : List α} {i j : Nat} {x d : α} : (l.set i x).getD j d = if i = j ∧ j < l.length then x else l.getD j d := by
  simp only [List.getD, List.getElem?_set]
  by_cases h : i = j
  · subst h
    by_cases h2 : i < l.length
    · simp [h2]
    · simp [h2]
  · simp [h]
/-- What is left of a level. -/
def Rm (LL : List (List (List Int))) (nx : List Nat) (j : Nat) : List (List Int) := (LL.getD j []).drop (nx.getD j 0)
abbrev nums (nx : List Nat) : List Int := nx.map fun (x : Nat) => (x : Int)
theorem Rm_here {LL : List (List (List Int))} {nx : List Nat} {j : Nat} {l : List Int} {R : List (List Int)} (h : Rm LL nx j = l :: R) : nx.getD j 0 < (LL.getD j []).length ∧ (LL.getD j []).getD (nx.getD j 0) [] = l ∧ (j < nx.length → Rm LL (nx.set j (nx.getD j 0 + 1)) j = R) := by
  unfold Rm at h ⊢
  generalize nx.getD j 0 = a at h
  have hl : a < (LL.getD j []).length := by
    rcases Nat.lt_or_ge a (LL.getD j []).length with h1 | h1
    · exact h1
    · rw [List.drop_of_length_le h1] at h; cases h
  rw [List.drop_eq_getElem_cons hl] at h
  injection h with h1 h2
  refine ⟨hl, ?_, fun hj => ?_⟩
  · have e : (LL.getD j []).getD a [] = (LL.getD j [])[a] := by
      generalize LL.getD j [] = L at hl
      simp [List.getD, hl]
    rw [e]; exact h1
  · rw [getD_set, if_pos ⟨rfl, hj⟩]; exact h2
theorem Rm_other {LL : List (List (List Int))} {nx : List Nat} {i j v : Nat} (h : i ≠ j) : Rm LL (nx.set i v) j = Rm LL nx j := by
  unfold Rm
  rw [getD_set, if_neg (fun h1 => h h1.1)]
theorem nums_set (nx : List Nat) (i v : Nat) : (nums nx).set i (v : Int) = nums (nx.set i v) := by simp [nums, List.map_set]
theorem nums_get (nx : List Nat) (i : Nat) : (nums nx).getD i 0 = ((nx.getD i 0 : Nat) : Int) := by simp [nums, List.getD, List.getElem?_map]; cases nx[i]? <;> rfl
def KeysS (h0 : Hp) (order N : Nat) (LL : List (List (List Int))) (p : Option Addr) (c : Nat) (B : Bag) (m : Nat) : Prop :=
  ∀ (d : Nat) {t : BT} {h : Hp} {nx : List Nat} {q : Option Addr} {e : Nat} {A G : Bag} {R : Nat → List (List Int)}, d + m = N → Wf m t → (d = 0 → 1 ≤ t.es.length) → (d ≠ 0 → (order + 1) / 2 - 1 ≤ t.es.length) → t.es.length ≤ order - 1 →
      (∀ m', m = m' + 1 → ∀ u ∈ t.ts, Sz ((order + 1) / 2 - 1) (order - 1) m' u) → (flat m t).length ≤ 2000 →
      Sl TI q (N + 1) e (nums nx) A → St h0 h (A + (B + G)) → (∀ j, j ≤ m → Rm LL nx (d + j) = lv m j t ++ R j) → (∀ j, nx.getD j 0 ≤ 100000) →
      HCalls Try.prog 38 #[.int .i64 (order : Int), .slice p (N + 1) c, .int .i64 (d : Int), .slice q (N + 1) e] h (fun v h' => ∃ r k cc nx' A' D, v = .tuple #[.slice r k cc, .bool true] ∧ Sl TI r k cc ((flat m t).map Prod.fst) D ∧
        Sl TI q (N + 1) e (nums nx') A' ∧ St h0 h' (D + (A' + (B + G))) ∧ (∀ j, j ≤ m → Rm LL nx' (d + j) = R j) ∧ (∀ i, i < d → nx'.getD i 0 = nx.getD i 0) ∧ (∀ i, (nx.getD i 0 ≤ (LL.getD i []).length → nx'.getD i 0 ≤ (LL.getD i []).length)) ∧ (∀ j, nx'.getD j 0 ≤ 100000))
theorem lv_zero {n : Nat} {t : BT} : lv n 0 t = [t.es.map Prod.fst] := by cases n <;> rfl
theorem pre_len {n : Nat} {t : BT} {i : Nat} (hl : t.ts.length = t.es.length + 1) (hi : i ≤ t.es.length) : (pre (n + 1) t i).length ≤ (flat (n + 1) t).length := by
  rcases Nat.lt_or_ge i t.es.length with h | h
  · obtain ⟨r, hr⟩ := pre_mid (n := n) hl h
    rw [hr, List.length_append]; omega
  · obtain rfl : i = t.es.length := by omega
    rw [pre_last hl, List.length_append]; omega
theorem Keys_main {h0 : Hp} {order N : Nat} {LL : List (List (List Int))} {p : Option Addr} {c : Nat} {B : Bag} (hor : 3 ≤ order) (h64 : order ≤ 64) (hN : N ≤ 1000) (ho : OutA (p, N + 1, c) LL B) (hLb : ∀ j, (LL.getD j []).length ≤ 100000)
    (m : Nat) (ih : ∀ m', m = m' + 1 → KeysS h0 order N LL p c B m') : KeysS h0 order N LL p c B m := by
  intro d t h nx q e A G R hd hwf hz0 hz1 hz2 hzk hfl hnx s hR hb
  have hnl : nx.length = N + 1 := by have := hnx.len; simpa using this
  have hR0 := hR 0 (by omega)
  rw [Nat.add_zero, lv_zero, List.singleton_append] at hR0
  obtain ⟨g1, g2, g3⟩ := Rm_here hR0
  have g3 := g3 (by omega)
  have hbd := hb d
  refine r43_Keys_call ?_
  rw [r43_Keys_b0_eq]
  have sB : St h0 h (B + (A + G)) := s.to
  refine (hnx.rd s).int (by omega) (by omega) ?_
  rw [Int.toNat_natCast, nums_get]
  refine ho.at_ sB (d := []) (by omega) (by show (d : Int) < ((N + 1 : Nat) : Int); omega) fun a3 L1 C1 B1 Br1 hlev hB1 => ?_
  rw [Int.toNat_natCast] at hlev
  have hL1 := hlev.len
  dsimp only at hL1
  refine condNo (decide_eq_false (by omega)) ?_
  refine ho.at_ sB (d := []) (by omega) (by show (d : Int) < ((N + 1 : Nat) : Int); omega) fun a5 L2 C2 B2 Br2 hlev2 hB2 => ?_
  rw [Int.toNat_natCast] at hlev2
  have hL2 := hlev2.len
  dsimp only at hL2
  refine (hnx.rd s).int (by omega) (by omega) ?_
  rw [Int.toNat_natCast, nums_get]
  have sB2 : St h0 h (B2 + (Br2 + (A + G))) := by rw [hB2] at sB; exact sB.to
  refine hlev2.at_ sB2 (d := []) (by omega) (by show _ < (L2 : Int); omega) fun a8 L3 C3 B3 Br3 hl3 hB3 => ?_
  rw [Int.toNat_natCast, g2] at hl3
  have hL3 := hl3.len
  dsimp only at hL3
  rw [List.length_map] at hL3
  refine (hnx.rd s).int (by omega) (by omega) ?_
  rw [Int.toNat_natCast, nums_get]
  refine ⟨⟨by omega, by omega⟩, ?_⟩
  refine hnx.wrI s (x := ((nx.getD d 0 + 1 : Nat) : Int)) (by omega) (by omega) rfl (by show [_] = [_]; congr 2) fun h1 A1 hnx1 s1 => ?_
  rw [Int.toNat_natCast, nums_set] at hnx1
  have hroot : (decide ((d : Int) = 0)) = decide (d = 0) := decide_eq_decide.2 (by omega)
  rw [hroot]
  refine (node_ok hor h64 (root := decide (d = 0)) (n := L3) (fun h => by rw [← hL3]; exact hz0 (of_decide_eq_true h)) (fun h => by rw [← hL3]; exact hz1 (of_decide_eq_false h)) (by omega)).mono fun v1 h2 ⟨hh, hv1⟩ => ?_
  subst hh
  refine ⟨_, hv1, condNo rfl ⟨⟨by omega, by omega⟩, condP (fun hlast => ?_) (fun hnl' => ?_)⟩⟩
  · obtain rfl : m = 0 := by omega
    refine s1.new (cs := []) fun b1 h3 _ s3 => ?_
    have sl : St h0 h3 (cA b1 [] 3 + (B3 + (Br3 + (Br2 + (A1 + G))))) := by rw [hB2, hB3] at s3; exact s3.to
    refine append_sl ok_int sl (Sl.of_blk (T := TI) (xs := []) rfl rfl) (hl3.rd (sl.at B3)) (by omega) fun p' c' h' A' a' s' => ?_
    rw [Nat.zero_add, List.nil_append] at a'
    have s'' : St h0 h' (A' + (A1 + (B + G))) := by rw [hB2, hB3]; exact s'.to
    rw [Nat.zero_add]
    refine ⟨p', L3, c', nx.set d (nx.getD d 0 + 1), A1, A', rfl, a', hnx1, s'', ?_, ?_, ?_, ?_⟩
    · intro j hj
      obtain rfl : j = 0 := by omega
      exact g3
    · intro i hi; rw [getD_set, if_neg (by omega)]
    · intro i hi
      rw [getD_set]
      split
      · rename_i h5; rw [← h5.1]; omega
      · exact hi
    · intro j
      rw [getD_set]
      split
      · have := hLb d; omega
      · exact hb j
  · obtain ⟨m', rfl⟩ : ∃ m', m = m' + 1 := ⟨m - 1, by omega⟩
    have hlen := hwf.1
    refine ⟨fun x h' => ∃ (i : Nat) (nx' : List Nat) (out : List E) (D A' : Bag), x.2.1 = i ∧ i ≤ t.es.length + 1 ∧ ((i ≤ t.es.length ∧ out = pre (m' + 1) t i) ∨ (i = t.es.length + 1 ∧ out = flat (m' + 1) t)) ∧ Sl TI x.1.1 x.1.2.1 x.1.2.2 (out.map Prod.fst) D ∧ Sl TI q (N + 1) e (nums nx') A' ∧ St h0 h' (D + (A' + (B + G))) ∧
      Rm LL nx' d = R 0 ∧ (∀ j, j ≤ m' → Rm LL nx' (d + 1 + j) = (t.ts.drop i).flatMap (lv m' j) ++ R (j + 1)) ∧ (∀ i, i < d → nx'.getD i 0 = nx.getD i 0) ∧ (∀ i, (nx.getD i 0 ≤ (LL.getD i []).length → nx'.getD i 0 ≤ (LL.getD i []).length)) ∧ (∀ j, nx'.getD j 0 ≤ 100000), fun x _ => t.es.length + 2 - x.2.1.toNat, ?_, ?_⟩
    · refine ⟨0, nx.set d (nx.getD d 0 + 1), [], 0, A1, rfl, by omega, .inl ⟨by omega, ?_⟩, Sl.nil, hnx1, s1.to, g3, ?_, ?_, ?_, ?_⟩
      · simp [pre, wL]
      · intro j hj
        rw [Rm_other (by omega), show d + 1 + j = d + (j + 1) by omega, hR (j + 1) (by omega)]
        rfl
      · intro i hi; rw [getD_set, if_neg (by omega)]
      · intro i hi
        rw [getD_set]
        split
        · rename_i h5; rw [← h5.1]; omega
        · exact hi
      · intro j
        rw [getD_set]
        split
        · have := hLb d; omega
        · exact hb j
    rintro ⟨⟨pr, kr, cr⟩, _, _⟩ h4 ⟨i, nx', out, D, A', rfl, hi, hout, ho1, hnx', s4, k1, k2, k3, k4, k5⟩
    dsimp only at ho1 ⊢
    rw [r43_Keys_b1_eq]
    have hkr := ho1.len
    rw [List.length_map] at hkr
    have hnl4 : nx'.length = N + 1 := by have := hnx'.len; simpa using this
    refine condP (fun hle => ?_) (fun hgt => ?_)
    · have hie : i ≤ t.es.length := by omega
      obtain ⟨_, rfl⟩ : i ≤ t.es.length ∧ out = pre (m' + 1) t i := by rcases hout with h | h; exact h; omega
      have hpl := pre_len (n := m') hlen hie
      refine ⟨⟨by omega, by omega⟩, ?_⟩
      have e1 : ((d : Int) + 1) = ((d + 1 : Nat) : Int) := by omega
      rw [e1]
      have hit : i < t.ts.length := by omega
      have hge : t.ts.getD i nilT = t.ts[i] := by simp [List.getD, hit]
      have hu : t.ts.getD i nilT ∈ t.ts := by rw [hge]; exact List.getElem_mem hit
      have hdrop : t.ts.drop i = t.ts.getD i nilT :: t.ts.drop (i + 1) := by rw [hge]; exact List.drop_eq_getElem_cons hit
      have hsz := hzk m' rfl _ hu
      have hszh := hsz.here
      have s5 := s4.to (B := A' + (B + (D + G)))
      have hkl : (flat m' (t.ts.getD i nilT)).length ≤ (flat (m' + 1) t).length - (pre (m' + 1) t i).length := by
        rcases Nat.lt_or_ge i t.es.length with h | h
        · obtain ⟨r, hr⟩ := pre_mid (n := m') hlen h
          rw [hr, List.length_append, List.length_append]; omega
        · obtain rfl : i = t.es.length := by omega
          rw [pre_last hlen, List.length_append]; omega
      refine (ih m' rfl (d + 1) (t := t.ts.getD i nilT) (nx := nx') (G := D + G) (R := fun j => (t.ts.drop (i + 1)).flatMap (lv m' j) ++ R (j + 1)) (by omega) (hwf.2 _ hu) (fun h => by omega) (fun _ => hszh.1) hszh.2 (fun m'' hm u hu' => ?_) (by omega) hnx' s5 (fun j hj => ?_) k5).mono fun v2 h6 ⟨r2, k2', c2, nx2, A2, D2, hv2, hs2, hnx2, s6, w1, w2, w3, w4⟩ => ?_
      · subst hm; exact hsz.2 u hu'
      · rw [k2 j hj, hdrop, List.flatMap_cons, List.append_assoc]
      refine ⟨_, _, _, _, hv2, condNo rfl ?_⟩
      have hl2 := hs2.len
      rw [List.length_map] at hl2
      have s7 := s6.to (B := D + (D2 + (A2 + (B + G))))
      refine append_sl ok_int s7 ho1 (hs2.rd (s7.at D2)) (by omega) fun p8 c8 h8 D8 o8 s8 => ?_
      rw [← List.map_append] at o8
      have s8 := (s8.to (B := D2 + (D8 + (A2 + (B + G))))).drop
      have kd : Rm LL nx2 d = R 0 := by
        have := w2 d (by omega)
        unfold Rm at k1 ⊢
        rw [this]; exact k1
      have kr2 : ∀ j, j ≤ m' → Rm LL nx2 (d + 1 + j) = (t.ts.drop (i + 1)).flatMap (lv m' j) ++ R (j + 1) := fun j hj => w1 j hj
      refine condP (fun hlt => ?_) (fun hge' => ?_)
      · have hlt' : i < t.es.length := by omega
        have s9 : St h0 h8 (B3 + (Br3 + (Br2 + (D8 + (A2 + G))))) := by rw [hB2, hB3] at s8; exact s8.to
        refine (hl3.rd s9).int (by omega) (by show (i : Int) < (L3 : Int); omega) ?_
        rw [Int.toNat_natCast]
        have hg1 : (t.es.map Prod.fst).getD i 0 = (t.es.getD i (0, 0)).1 := by simp [List.getD, hlt']
        rw [hg1]
        have hpl2 := pre_len (n := m') (i := i + 1) hlen (by omega)
        rw [pre_succ hlen hlt', List.length_append, List.length_append] at hpl2
        simp at hpl2
        refine push_sl ok_int s8 o8 (x := (t.es.getD i (0, 0)).1) rfl rfl (by omega) fun p9 c9 h9 D9 o9 s10 => ?_
        rw [r43_Keys_b2_eq]
        refine ⟨⟨by omega, by omega⟩, ⟨i + 1, nx2, pre (m' + 1) t (i + 1), D9, A2, by simp only; omega, by omega, .inl ⟨by omega, rfl⟩, ?_, hnx2, s10, kd, kr2, fun j hj => (w2 j (by omega)).trans (k3 j hj), fun j hj => w3 j (k4 j hj), w4⟩, by simp only; omega⟩
        rw [pre_succ hlen hlt']
        simpa using o9
      · obtain rfl : i = t.es.length := by omega
        rw [r43_Keys_b2_eq]
        refine ⟨⟨by omega, by omega⟩, ⟨t.es.length + 1, nx2, flat (m' + 1) t, D8, A2, by simp only; omega, by omega, .inr ⟨rfl, rfl⟩, ?_, hnx2, s8, kd, kr2, fun j hj => (w2 j (by omega)).trans (k3 j hj), fun j hj => w3 j (k4 j hj), w4⟩, by simp only; omega⟩
        rw [pre_last hlen]; exact o8
    · obtain ⟨rfl, rfl⟩ : i = t.es.length + 1 ∧ out = flat (m' + 1) t := by rcases hout with h | h; omega; exact h
      rw [r43_Keys_b3_eq]
      have hdn : t.ts.drop (t.es.length + 1) = [] := List.drop_of_length_le (by omega)
      refine ⟨pr, kr, cr, nx', A', D, rfl, ho1, hnx', s4, ?_, k3, k4, k5⟩
      intro j hj
      cases j with
      | zero => exact k1
      | succ j =>
        have := k2 j (by omega)
        rw [hdn] at this
        rw [show d + (j + 1) = d + 1 + j by omega, this]
        rfl
theorem Keys_ok {h0 : Hp} {order N : Nat} {LL : List (List (List Int))} {p : Option Addr} {c : Nat} {B : Bag} (hor : 3 ≤ order) (h64 : order ≤ 64) (hN : N ≤ 1000) (ho : OutA (p, N + 1, c) LL B) (hLb : ∀ j, (LL.getD j []).length ≤ 100000) :
    ∀ m, KeysS h0 order N LL p c B m
  | 0 => Keys_main hor h64 hN ho hLb 0 fun m' h => by omega
  | m + 1 => Keys_main hor h64 hN ho hLb (m + 1) fun m' h => by
    obtain rfl : m = m' := by omega
    exact Keys_ok hor h64 hN ho hLb m
theorem nums_zero (n : Nat) : nums (List.replicate n 0) = List.replicate n (0 : Int) := by simp [nums]
theorem lv_one {n : Nat} {t : BT} : (lv n 0 t).length = 1 := by cases n <;> rfl
theorem levels_get {n : Nat} {t : BT} {j : Nat} (h : j ≤ n) : (levels n t).getD j [] = lv n j t := by simp [levels, List.getD, (show j < n + 1 by omega)]
theorem levels_len {n : Nat} {t : BT} : (levels n t).length = n + 1 := by simp [levels]
theorem row_len {n : Nat} {ts : List BT} {j hi : Nat} (hj : j ≤ n) (hw : ∀ t ∈ ts, Wf n t) (hz : ∀ t ∈ ts, Sz 1 hi n t) : (ts.flatMap (lv n j)).length ≤ tot n ts := by
  induction n generalizing ts j with
  | zero =>
    obtain rfl : j = 0 := by omega
    rw [lv_here, List.length_map]
    clear hw
    induction ts with
    | nil => simp
    | cons t ts ih =>
      have := ih (fun t h => hz t (by simp [h]))
      have h1 : 1 ≤ t.es.length ∧ t.es.length ≤ hi := hz t (by simp)
      simp only [tot, List.flatMap_cons, List.length_append, List.length_cons, flat] at this ⊢
      omega
  | succ n ih =>
    have hnext : tot n (ts.flatMap BT.ts) ≤ tot (n + 1) ts := by
      clear ih hz
      induction ts with
      | nil => simp [tot]
      | cons t ts ih2 =>
        have := ih2 (fun t h => hw t (by simp [h]))
        have h3 := weave_ge (t.ts.map (flat n)) t.es (by rw [List.length_map]; exact (hw t (by simp)).1)
        have h4 : ((t.ts.map (flat n)).flatMap id) = t.ts.flatMap (flat n) := by simp [List.flatMap_map]
        rw [h4] at h3
        simp only [tot, List.flatMap_cons, List.flatMap_append, List.length_append] at this ⊢
        have h5 : (flat (n + 1) t).length = (weave (t.ts.map (flat n)) t.es).length := rfl
        omega
    have hw' : ∀ t ∈ ts.flatMap BT.ts, Wf n t := by
      intro t ht
      obtain ⟨u, hu, htu⟩ := List.mem_flatMap.1 ht
      exact (hw u hu).2 t htu
    have hz' : ∀ t ∈ ts.flatMap BT.ts, Sz 1 hi n t := by
      intro t ht
      obtain ⟨u, hu, htu⟩ := List.mem_flatMap.1 ht
      exact (hz u hu).2 t htu
    cases j with
    | succ j =>
      rw [lv_next]
      exact Nat.le_trans (ih (by omega) hw' hz') hnext
    | zero =>
      have h1 := ih (j := 0) (by omega) hw' hz'
      rw [lv_here, List.length_map] at h1 ⊢
      have h2 : ts.length ≤ (ts.flatMap BT.ts).length := by
        clear h1 hz' hw' hnext ih hz
        induction ts with
        | nil => simp
        | cons t ts ih2 =>
          have := ih2 (fun t h => hw t (by simp [h]))
          have h3 := (hw t (by simp)).1
          simp only [List.flatMap_cons, List.length_append, List.length_cons]
          omega
      omega
theorem Shaped_ok {h0 h : Hp} {order : Nat} {xs : List E} {ls : List (List (List Int))} {p q : Option Addr} {n c m d : Nat} {B G : Bag} {ks : List Int} (hor : 3 ≤ order) (h64 : order ≤ 64) (hl : levelsT order xs ls) (hmost : xs.length ≤ 2000) (ho : OutA (p, n, c) ls B) (rk : RdS h0 G TI q m ks) (hk : ks = xs.map Prod.fst) (s : St h0 h (B + G)) :
    HCalls Try.prog 15 #[.int .i64 (order : Int), .slice p n c, .slice q m d] h (fun v h' => v = .bool true ∧ St h0 h' (B + G)) := by
  subst hk
  have hn := ho.len
  dsimp only at hn
  have hm := (rk h B s).len
  rw [List.length_map] at hm
  refine r43_Shaped_call ?_
  rw [r43_Shaped_b0_eq]
  rcases hl with ⟨rfl, rfl⟩ | ⟨N, t, b, A, rfl, hh, rfl, hsz⟩
  · subst hm hn
    exact condYes rfl (condYes rfl ⟨rfl, s⟩)
  · rw [levels_len] at hn
    subst hn
    have hlow := hsz.low hh (by omega)
    have hN := pow_bound (n := N) (m := (flat N t).length) hlow (by omega)
    have h2 : 2 ≤ 2 ^ (N + 1) := by
      rw [Nat.pow_succ]
      have : 1 ≤ 2 ^ N := Nat.one_le_pow _ _ (by decide)
      omega
    refine condNo (decide_eq_false (by omega)) (condNo (decide_eq_false (by omega)) ?_)
    rw [r43_Shaped_b1_eq]
    refine condNo (decide_eq_false (by omega)) ?_
    refine ho.at_ s (d := []) (by omega) (by show (0 : Int) < ((N + 1 : Nat) : Int); omega) fun a3 L1 C1 B1 Br1 hlev hB1 => ?_
    have hL1 := hlev.len
    dsimp only at hL1
    rw [show Int.toNat 0 = 0 from rfl, levels_get (by omega), lv_one] at hL1
    subst hL1
    refine condNo rfl ?_
    rw [r43_Shaped_b2_eq]
    refine ⟨⟨by omega, by omega, by omega, by omega⟩, ?_⟩
    rw [Int.toNat_natCast]
    refine s.new (cs := repL ((N + 1) * 1) [.int .i64 0]) fun b1 h1 _ s1 => ?_
    rw [Nat.mul_one, repL_one] at s1
    have hsl : Sl TI (some ⟨b1, 0, none⟩) (N + 1) (N + 1) (nums (List.replicate (N + 1) 0)) (cA b1 (List.replicate (N + 1) (Value.int .i64 0)) 3) := by
      refine Sl.of_blk (by simp) ?_
      rw [nums_zero, tI_cells, List.map_replicate]
    have hw := hh.wf
    have hz1 := hsz.one (by omega)
    have hLb : ∀ j, ((levels N t).getD j []).length ≤ 100000 := by
      intro j
      rcases Nat.lt_or_ge N j with h | h
      · have : (levels N t).getD j [] = [] := by simp [levels, List.getD, (show ¬ j < N + 1 by omega)]
        rw [this]; simp
      · rw [levels_get h]
        have := row_len (n := N) (ts := [t]) (j := j) (hi := order - 1) h (by simpa using hw) (by simpa using hz1)
        simp [tot] at this
        omega
    have hhere : 1 ≤ t.es.length ∧ t.es.length ≤ order - 1 := by
      cases N with
      | zero => exact hsz
      | succ N => exact hsz.1
    have hnx0 : ∀ j, (List.replicate (N + 1) 0).getD j 0 = 0 := by
      intro j
      simp only [List.getD, List.getElem?_replicate]
      split <;> rfl
    refine (Keys_ok hor h64 (by omega) ho hLb N 0 (t := t) (R := fun _ => []) (by omega) hw (fun _ => hhere.1) (fun h => absurd rfl h) hhere.2 (fun m' hm' u hu => ?_) hmost hsl s1 (fun j hj => ?_) (fun j => by rw [hnx0 j]; omega)).mono fun v1 h2 ⟨r, k, cc, nx', A', D, hv1, hs1, hnx, s2, w1, _, w3, _⟩ => ?_
    · subst hm'; exact hsz.2 u hu
    · unfold Rm
      rw [hnx0, Nat.zero_add, levels_get hj]
      simp
    refine ⟨_, _, _, _, hv1, condNo rfl ?_⟩
    have s3 := s2.to (B := D + (A' + B) + G)
    have hk1 := hs1.len
    rw [List.length_map] at hk1
    refine (SameList_ok (hs1.rd s2) (rk h2 _ s3) (by omega)).mono fun v2 h3 ⟨hh3, hv2⟩ => ?_
    subst hh3
    refine ⟨_, hv2, condNo (by simp) ?_⟩
    rw [r43_Shaped_b3_eq]
    have sB := s2.to (B := B + (A' + (D + G)))
    have hnxl : nx'.length = N + 1 := by have := hnx.len; simpa using this
    refine ⟨fun x h' => h' = h3 ∧ ∃ i : Nat, x.1 = i ∧ i ≤ N + 1, fun x _ => N + 1 - x.1.toNat, ⟨rfl, 0, rfl, by omega⟩, ?_⟩
    rintro ⟨_, _⟩ h4 ⟨rfl, i, rfl, hi⟩
    dsimp only
    rw [r43_Shaped_b4_eq]
    refine condP (fun hlt => ?_) (fun hge => ?_)
    · refine (hnx.rd (s2.at A')).int (by omega) (by omega) ?_
      rw [Int.toNat_natCast, nums_get]
      refine ho.at_ sB (d := []) (by omega) (by show (i : Int) < ((N + 1 : Nat) : Int); omega) fun a5 L2 C2 B2 Br2 hlev2 hB2 => ?_
      rw [Int.toNat_natCast] at hlev2
      have hL2 := hlev2.len
      dsimp only at hL2
      have hrm := w1 i (by omega)
      have hle := w3 i (by rw [hnx0]; omega)
      unfold Rm at hrm
      rw [Nat.zero_add] at hrm
      have hge := congrArg List.length hrm
      rw [List.length_drop] at hge
      simp only [List.length_nil] at hge
      refine condNo ?_ ?_
      · rw [decide_eq_true (by omega)]; rfl
      · rw [r43_Shaped_b5_eq]
        exact ⟨⟨by omega, by omega⟩, ⟨rfl, i + 1, by simp only; omega, by omega⟩, by simp only; omega⟩
    · rw [r43_Shaped_b6_eq]
      exact ⟨rfl, (s2.to (B := (D + A') + (B + G))).drop⟩
end Go.Proofs.Ytaemnjblcpknpaa

/- B-trees: the example of the chapter, and the law Loads. -/
set_option maxRecDepth 100000
namespace Go.Proofs.Ytaemnjblcpknpaa
open Go Go.Sx
theorem Blocks_ok {h0 h : Hp} {order tb : Nat} {xs : List E} {vis : Int} {A G : Bag} (ta : TreeA order xs tb vis A) (s : St h0 h (A + G)) : HCalls Try.prog 32 #[ptr tb] h (fun v h' => h' = h ∧ v = .int .i64 vis) := by
  refine btree_Tree_Blocks_call ?_
  rw [btree_Tree_Blocks_b0_eq]
  obtain ⟨root, A1, rfl, _⟩ := ta.vis
  exact condNo rfl ⟨_, (s.at (treeC tb order xs.length root vis)).cellA 3, rfl, rfl⟩
theorem awake_ok (h : Hp) : HCalls Try.prog 8 #[] h (fun v h' => v = .bool true ∧ Ext h h') := by
  refine l43_awake_call ?_
  rw [l43_awake_b0_eq]
  refine New_ok.mono fun v1 h1 hv => ?_
  rw [if_neg (by omega)] at hv
  obtain ⟨tb, A, hv1, ta, s1⟩ := hv
  have ta : TreeA 3 [] tb 0 A := ta
  refine ⟨_, _, hv1, condNo rfl (condNo rfl ?_)⟩
  rw [l43_awake_b1_eq]
  refine ⟨fun x h' => ∃ (i : Nat) (A' : Bag) (vis : Int), i ≤ 3 ∧ x.1 = (i : Int) + 1 ∧ (0 ≤ vis ∧ vis ≤ 1000 * i ∧ (0 < i → 0 < vis)) ∧ TreeA 3 (([(1, 10), (2, 20), (3, 30)] : List E).take i) tb vis A' ∧ St h h' A', fun x _ => (4 - x.1).toNat, ⟨0, A, 0, by omega, rfl, ⟨by omega, by omega, by omega⟩, ta, s1⟩, ?_⟩
  rintro ⟨_, _⟩ h2 ⟨i, A', vis, hi, rfl, hvis, ta', s2⟩
  dsimp only
  rw [l43_awake_b2_eq]
  have hsrt : Srt (([(1, 10), (2, 20), (3, 30)] : List E).take i) := List.Pairwise.sublist (List.take_sublist _ _) (by decide)
  have hlen : (([(1, 10), (2, 20), (3, 30)] : List E).take i).length ≤ 3 := by rw [List.length_take]; exact Nat.min_le_right _ _
  refine condP (fun hle => ?_) (fun hgt => ?_)
  · refine ⟨⟨by omega, by omega⟩, ?_⟩
    refine (Put_ok (key := (i : Int) + 1) (value := 10 * ((i : Int) + 1)) (F := 0) (by omega) (by omega) hsrt (by omega) ⟨by omega, by omega⟩ ta' s2.to).mono fun v2 h3 ⟨A2, vis2, hvis2, hv2, ta2, s3⟩ => ?_
    have hp : putS (([(1, 10), (2, 20), (3, 30)] : List E).take i) ((i : Int) + 1) (10 * ((i : Int) + 1)) = (([(1, 10), (2, 20), (3, 30)] : List E).take (i + 1), 0, false, 0) := by
      have : i = 0 ∨ i = 1 ∨ i = 2 := by omega
      rcases this with rfl | rfl | rfl <;> decide
    rw [hp] at hv2 ta2 hvis2
    refine ⟨_, _, _, hv2, condNo rfl (condNo rfl ?_)⟩
    rw [l43_awake_b3_eq]
    have hlt := hvis2.2 rfl
    exact ⟨⟨by omega, by omega⟩, ⟨i + 1, A2, vis2, by omega, by simp only; omega, ⟨by omega, by omega, by omega⟩, ta2, s3.to⟩, by simp only; omega⟩
  · obtain rfl : i = 3 := by omega
    have hvp := hvis.2.2 (by omega)
    have ta3 : TreeA 3 [(1, 10), (2, 20), (3, 30)] tb vis A' := ta'
    rw [l43_awake_b4_eq]
    refine (Get_ok (key := 2) (F := 0) (by omega) (by omega) (by decide) (by decide) ⟨by omega, by omega⟩ ta3 s2.to).mono fun v3 h4 ⟨A4, vis4, hvis4, hv4, ta4, s4⟩ => ?_
    have hg : getS [(1, 10), (2, 20), (3, 30)] 2 = (20, 0) := by decide
    rw [hg] at hv4
    refine ⟨_, _, hv4, (Len_ok ta4 s4).mono fun v5 h5 ⟨hh5, hv5⟩ => ⟨_, hv5, condYes rfl ?_⟩⟩
    subst hh5
    refine (Height_ok (by omega) (by omega) (by decide) ta4 s4).mono fun v6 h6 ⟨ls, hv6, hls, s6⟩ => ⟨_, hv6, ?_⟩
    have hht : ls.length = 2 := by
      rcases hls with ⟨h, _⟩ | ⟨N, t, b, D, rfl, hh, hfl, hsz⟩
      · cases h
      · have h1 := hsz.low hh (by decide)
        rw [hfl] at h1
        have h2 : N ≤ 1 := by
          rcases Nat.lt_or_ge 1 N with h | h
          · have : 2 ^ (2 + 1) ≤ 2 ^ (N + 1) := Nat.pow_le_pow_right (by decide) (by omega)
            simp at h1; omega
          · exact h
        have h3 : N ≠ 0 := by
          rintro rfl
          have h4 : 1 ≤ t.es.length ∧ t.es.length ≤ 2 := hsz
          have h5 : t.es.length = 3 := congrArg List.length hfl
          omega
        rw [levels_len]; omega
    rw [hht]
    refine condYes rfl (condYes rfl (condYes rfl ?_))
    refine (Levels_ok (by omega) (by omega) (by decide) ta4 s6).mono fun v7 h7 ⟨p, n, c, ls7, B7, hv7, ho7, hl7, s7⟩ => ⟨_, _, _, hv7, ?_⟩
    refine s7.new (cs := [.int .i64 1, .int .i64 2, .int .i64 3]) fun b8 h8 _ s8 => ?_
    have hk8 : Sl TI (some ⟨b8, 0, none⟩) 3 3 [1, 2, 3] (cA b8 [.int .i64 1, .int .i64 2, .int .i64 3] 3) := Sl.of_blk (xs := [1, 2, 3]) rfl rfl
    have s8' : St h h8 (B7 + (cA b8 [.int .i64 1, .int .i64 2, .int .i64 3] 3 + A4)) := s8.to
    refine (Shaped_ok (order := 3) (by omega) (by omega) hl7 (by decide) ho7 (RdS.own hk8) rfl s8').mono fun v9 h9 ⟨hv9, s9⟩ => ⟨_, hv9, condYes rfl ?_⟩
    have s10 : St h h9 (A4 + (B7 + cA b8 [.int .i64 1, .int .i64 2, .int .i64 3] 3)) := s9.to
    refine (Blocks_ok ta4 s10).mono fun v11 h11 ⟨hh11, hv11⟩ => ⟨_, hv11, ?_, ?_⟩
    · rw [decide_eq_true (by omega)]
    · subst hh11; exact s10.ext
/-- A scan of all but the greatest key. -/
theorem span_all {l : List E} (hok : OkL l) : (0 < l.length → (l.getD (l.length - 1) (0, 0)).1 = 1048576 → l.filter (inSpan (-1048576) 1048576) = l.take (l.length - 1)) ∧
    (l = [] ∨ (l.getD (l.length - 1) (0, 0)).1 ≠ 1048576 → l.filter (inSpan (-1048576) 1048576) = l) := by
  have key : ∀ x ∈ l, KeyP x.1 := fun x hx => (hok.1 x hx).1
  rcases List.eq_nil_or_concat l with rfl | ⟨l', e, rfl⟩
  · exact ⟨fun h => by simp at h, fun _ => rfl⟩
  · have hs := hok.2
    simp only [List.concat_eq_append] at hs key ⊢
    rw [Srt.app] at hs
    have hl' : ∀ x ∈ l', inSpan (-1048576) 1048576 x = true := by
      intro x hx
      have h1 := key x (by simp [hx])
      have h2 := key e (by simp)
      have h3 := hs.2.2 x hx e (by simp)
      exact decide_eq_true ⟨h1.1, by omega⟩
    have hf : l'.filter (inSpan (-1048576) 1048576) = l' := List.filter_eq_self.2 hl'
    have hg : (l' ++ [e]).getD ((l' ++ [e]).length - 1) (0, 0) = e := by simp [List.getD]
    rw [hg, List.filter_append, hf]
    refine ⟨fun _ h => ?_, fun h => ?_⟩
    · have : inSpan (-1048576) 1048576 e = false := decide_eq_false (by omega)
      simp [this]
    · have h1 := key e (by simp)
      have : inSpan (-1048576) 1048576 e = true := decide_eq_true ⟨h1.1, by rcases h with h | h; simp at h; omega⟩
      simp [this]
theorem loads_law {h : Hp} {order : Int} {p : Option Addr} {n c : Nat} {l : List E} {filled : Bool} (h0 : 0 ≤ order ∧ order ≤ 255) (r : RdT TE h p n l) (hnc : n ≤ c) (hk : ∀ x ∈ l, InR x.1 ∧ InR x.2) :
    HCalls Try.prog 3 #[.int .u8 order, .slice p n c, .bool filled] h (fun v h' => v = .bool true ∧ Ext h h') := by
  have hlen := r.len
  refine l43_BtreeLoads_call ?_
  rw [l43_BtreeLoads_b0_eq]
  refine (awake_ok h).mono fun v1 h1 ⟨hv1, x1⟩ => ⟨_, hv1, condNo rfl ?_⟩
  have again : ∀ {K : Value → Hp → Prop}, (∀ h', Ext h h' → K (.bool true) h') → HCalls Try.prog 8 #[] h1 fun v2 h2 => ∃ r2 : Bool, v2 = .bool r2 ∧ K (.bool r2) h2 := fun hK =>
    (awake_ok h1).mono fun v2 h2 ⟨hv2, x2⟩ => ⟨_, hv2, hK _ (x1.trans x2)⟩
  have main : (n : Int) ≤ 2005 → (n ≤ 150 ∨ 2000 < n) → l43_BtreeLoads_b1 order p n c filled h1 fun v h' => v = .bool true ∧ Ext h h' := by
    intro hn hn2
    rw [l43_BtreeLoads_b1_eq]
    refine ⟨⟨by omega, by omega⟩, rem_intro (by omega) (by omega) ⟨⟨by omega, by omega⟩, ?_⟩⟩
    obtain ⟨m, hm, hm1⟩ : ∃ m : Nat, 3 + order % 10 = (m : Int) ∧ (3 ≤ m ∧ m ≤ 12) := ⟨(3 + order % 10).toNat, by omega, by omega⟩
    rw [hm]
    refine New_ok.mono fun v6 h6 hv => ?_
    rw [if_neg (by omega)] at hv
    obtain ⟨tb, A, hv6, ta, s6⟩ := hv
    have ta : TreeA m [] tb 0 A := ta
    refine ⟨_, _, hv6, condNo rfl (condNo rfl ?_)⟩
    have s6 : St h h6 A := s6.base x1
    -- the rest, whatever is in the tree
    have rest : ∀ (xs : List E) (vis : Int) (h' : Hp) (A : Bag), (0 ≤ vis ∧ vis ≤ 10000) → xs = (if filled then [(5, 5)] else []) → TreeA m xs tb vis A → St h h' A → l43_BtreeLoads_b3 p n c filled (m : Int) (some ⟨tb, 0, none⟩) h' fun v h' => v = .bool true ∧ Ext h h' := by
      intro xs vis h7 A hvis hxs ta s7
      rw [l43_BtreeLoads_b3_eq]
      have hsx : Srt xs ∧ xs.length ≤ 1 := by subst hxs; cases filled <;> simp
      refine (Load_ok (by omega) (by omega) ta (RdS.old r) (by omega) (G := 0) s7.to).mono fun v8 h8 ⟨A8, hv8, ta8, s8⟩ => ⟨_, hv8, ?_⟩
      have r8 := r.ext s8.ext
      refine (Loaded_ok r8 (by omega)).mono fun v9 h9 ⟨hh9, hv9⟩ => ⟨_, hv9, ?_⟩
      subst hh9
      -- what is wanted
      have b5 : ∀ (e : Int), (loadS xs l).2 = e → e ≠ 0 → l43_BtreeLoads_b4 p n c filled (m : Int) (some ⟨tb, 0, none⟩) (loadS xs l).2 e h9 fun v h' => v = .bool true ∧ Ext h h' := by
        intro e he hne
        rw [l43_BtreeLoads_b4_eq]
        refine condYes (by rw [decide_eq_false hne]; rfl) ?_
        have hx8 : (loadS xs l).1 = xs := by
          unfold loadS at he ⊢
          by_cases h1 : OkL l
          · rw [if_pos h1] at he ⊢
            by_cases h2 : 2000 < l.length
            · rw [if_pos h2]
            · rw [if_neg h2] at he ⊢
              by_cases h3 : xs ≠ []
              · rw [if_pos h3]
              · rw [if_neg h3] at he; exact absurd he.symm hne
          · rw [if_neg h1]
        rw [hx8] at ta8
        have fin : ∀ left : Int, left = xs.length → l43_BtreeLoads_b5 (some ⟨tb, 0, none⟩) (loadS xs l).2 e left h9 fun v h' => v = .bool true ∧ Ext h h' := by
          intro left hleft
          rw [l43_BtreeLoads_b5_eq]
          refine condYes (decide_eq_true he) ((Len_ok ta8 s8).mono fun v15 h15 ⟨hh15, hv15⟩ => ⟨_, hv15, ?_, ?_⟩)
          · rw [hleft, decide_eq_true rfl]
          · subst hh15; exact s8.ext
        refine cond_intro (fun hfl => fin 1 ?_) (fun hfl => fin 0 ?_)
        · rw [hxs, hfl]; rfl
        · rw [hxs, hfl]; rfl
      by_cases hok : OkL l
      · by_cases hmany : 2000 < l.length
        · rw [if_pos hok, if_pos hmany]
          refine condNo rfl (b5 4 ?_ (by decide))
          rw [loadS, if_pos hok, if_pos hmany]
        · rw [if_pos hok, if_neg hmany]
          refine condYes rfl (cond_intro (fun hfl => ?_) (fun hfl => ?_))
          · refine b5 13 ?_ (by decide)
            have : xs ≠ [] := by rw [hxs, hfl]; simp
            rw [loadS, if_pos hok, if_neg hmany, if_pos this]
          · have hx0 : xs = [] := by rw [hxs, hfl]; rfl
            have hld : loadS xs l = (l, 0) := by rw [loadS, if_pos hok, if_neg hmany, if_neg (by rw [hx0]; simp)]
            rw [hld] at ta8 ⊢
            have ta8 : TreeA m l tb vis A8 := ta8
            rw [l43_BtreeLoads_b4_eq]
            refine condNo rfl ?_
            refine (Scan_ok (by omega) (by omega) hok.2 ta8 s8).mono fun v10 h10 ⟨p10, n10, c10, B10, hv10, o10, s10⟩ => ⟨_, _, _, _, hv10, condNo rfl ?_⟩
            have s10 := s10.to (B := A8 + B10)
            have hlt := span_all hok
            have hfl2 : (l.filter (inSpan (-1048576) 1048576)).length ≤ 1000 := Nat.le_trans (List.length_filter_le _ _) (by omega)
            have hs : scanS l (-1048576) 1048576 = (l.filter (inSpan (-1048576) 1048576), 0) := by rw [scanS, if_pos (by decide), if_neg (by omega)]
            rw [hs] at o10 ⊢
            have o10 : Sl TE p10 n10 c10 (l.filter (inSpan (-1048576) 1048576)) B10 := o10
            have hn10 := o10.len
            refine condNo rfl ((Len_ok ta8 (s10.to (B := A8 + (B10 + 0)))).mono fun v11 h11 ⟨hh11, hv11⟩ => ⟨_, hv11, condNo (by rw [decide_eq_true (by omega)]; rfl) ?_⟩)
            subst hh11
            refine (Levels_ok (by omega) (by omega) (by omega) ta8 s10).mono fun v12 h12 ⟨p12, n12, c12, ls, B12, hv12, o12, hls, s12⟩ => ⟨_, _, _, hv12, ?_⟩
            refine (keys_ok (r.ext s12.ext) (by omega)).mono fun v13 h13 ⟨q13, d13, B13, hv13, o13, t13⟩ => ⟨_, _, _, hv13, ?_⟩
            have s13 := (s12.join t13).to (B := B12 + (B13 + (A8 + B10)))
            refine (Shaped_ok (by omega) (by omega) hls (by omega) o12 (RdS.own o13) rfl s13).mono fun v14 h14 ⟨hv14, s14⟩ => ⟨_, hv14, condNo rfl ?_⟩
            have r14 := r.ext s14.ext
            have rx := o10.rd (s14.at B10)
            have b7 : l.filter (inSpan (-1048576) 1048576) = l → l43_BtreeLoads_b7 p n c p10 n10 c10 h14 fun v h' => v = .bool true ∧ Ext h h' := by
              intro he
              rw [l43_BtreeLoads_b7_eq]
              refine (EqualP_ok rx r14 (by omega)).mono fun v17 h17 ⟨hh17, hv17⟩ => ⟨_, hv17, ?_, ?_⟩
              · rw [decide_eq_true he]
              · subst hh17; exact s14.ext
            rw [l43_BtreeLoads_b6_eq]
            refine condP (fun hpos => ?_) (fun hpos => ?_)
            · refine ⟨⟨by omega, by omega⟩, pair_at r14 (by omega) (by omega) ?_⟩
              have ei : ((n : Int) - 1).toNat = n - 1 := by omega
              have e0 : Int.toNat (0 : Int) = 0 := rfl
              rw [ei]
              refine condP (fun hmx => ?_) (fun hmx => ?_)
              · refine ⟨⟨by omega, by omega⟩, ⟨by omega, by omega, by omega⟩, ?_⟩
                rw [e0, subAddr_z, Nat.sub_zero, Nat.sub_zero]
                refine (EqualP_ok rx (r14.take (i := n - 1) (by omega)) (by omega)).mono fun v16 h16 ⟨hh16, hv16⟩ => ⟨_, hv16, ?_, ?_⟩
                · rw [decide_eq_true (hlt.1 (by omega) (by rw [hlen]; exact hmx) |>.trans (by rw [hlen]))]
                · subst hh16; exact s14.ext
              · exact b7 (hlt.2 (.inr (by rw [hlen]; exact hmx)))
            · exact b7 (hlt.2 (.inl (List.eq_nil_of_length_eq_zero (by omega))))
      · rw [if_neg hok]
        refine condNo rfl (b5 1 ?_ (by decide))
        rw [loadS, if_neg hok]
    rw [l43_BtreeLoads_b2_eq]
    refine cond_intro (fun hfl => ?_) (fun hfl => ?_)
    · refine (Put_ok (key := 5) (value := 5) (F := 0) (by omega) (by omega) (by simp) (by simp) ⟨by omega, by omega⟩ ta s6.to).mono fun v7 h7 ⟨A7, vis7, hvis7, hv7, ta7, s7⟩ => ?_
      have hp : putS [] 5 5 = ([(5, 5)], 0, false, 0) := by decide
      rw [hp] at hv7 ta7
      refine ⟨_, _, _, hv7, condNo rfl ?_⟩
      exact rest [(5, 5)] vis7 h7 A7 ⟨by omega, by omega⟩ (by rw [hfl]; rfl) ta7 s7.to
    · exact rest [] 0 h6 A ⟨by omega, by omega⟩ (by rw [hfl]; rfl) ta s6
  refine condP (fun h2 => condP (fun h3 => ?_) (fun h3 => condP (fun h4 => ?_) (fun h4 => ?_))) (fun h2 => condP (fun h4 => ?_) (fun h4 => ?_))
  · exact again (K := fun v h' => v = .bool true ∧ Ext h h') fun h' x' => ⟨rfl, x'⟩
  · exact again (K := fun v h' => v = .bool true ∧ Ext h h') fun h' x' => ⟨rfl, x'⟩
  · exact main (by omega) (by omega)
  · omega
  · exact main (by omega) (by omega)
end Go.Proofs.Ytaemnjblcpknpaa

/- B-trees: two neighbouring nodes: merged, or an entry moved. -/
set_option maxRecDepth 100000
namespace Go.Proofs.Ytaemnjblcpknpaa
open Go Go.Sx
theorem getD_mid {α : Type} {a : List α} {x d : α} {b : List α} {i : Nat} (h : a.length = i) : (a ++ x :: b).getD i d = x := by subst h; simp [List.getD]
theorem getD_mid2 {α : Type} {a : List α} {x y d : α} {b : List α} {i : Nat} (h : a.length = i) : (a ++ x :: y :: b).getD (i + 1) d = y := by subst h; simp [List.getD]
theorem cut_mid {α : Type} {a : List α} {x : α} {b : List α} {i : Nat} (h : a.length = i) : (a ++ x :: b).take i ++ (a ++ x :: b).drop (i + 1) = a ++ b := by subst h; simp
theorem merge_ok {h0 h : Hp} {p l r i : Nat} {e1 e2 el er : List E} {e : E} {k1 k2 kl kr : List Nat} {Ap Al Ar F : Bag} (s : St h0 h (Ap + (Al + (Ar + F)))) (np : NodeA p (e1 ++ e :: e2) (k1 ++ l :: r :: k2) Ap) (nl : NodeA l el kl Al) (nr : NodeA r er kr Ar)
    (h1 : e1.length = i) (h2 : k1.length = i) (hs1 : (e1 ++ e :: e2).length ≤ 1000) (hs2 : el.length ≤ 1000) (hs3 : er.length ≤ 1000) (hs4 : (k1 ++ l :: r :: k2).length ≤ 2000) (hs5 : kl.length ≤ 2000) (hs6 : kr.length ≤ 2000) :
    HCalls Try.prog 71 #[ptr p, .int .i64 (i : Int)] h (fun v h' => v = .tuple #[] ∧ ∃ Bp Bl, NodeA p (e1 ++ e2) (k1 ++ l :: k2) Bp ∧ NodeA l (el ++ e :: er) (kl ++ kr) Bl ∧ St h0 h' (Bp + (Bl + F))) := by
  obtain ⟨p1, p2, p3, c1, c2, c3, P1, P2, P3, rfl, ⟨a1, a2, a3⟩⟩ := np
  obtain ⟨l1, l2, l3, d1, d2, d3, L1, L2, L3, rfl, ⟨b1, b2, b3⟩⟩ := nl
  obtain ⟨r1, r2, r3, f1, f2, f3, R1, R2, R3, rfl, ⟨g1, g2, g3⟩⟩ := nr
  have he : (e1 ++ e :: e2).length = i + 1 + e2.length := by simp; omega
  have hk : (k1 ++ l :: r :: k2).length = i + 2 + k2.length := by simp; omega
  have m1 : ((e1 ++ e :: e2).map Prod.fst).getD i 0 = e.1 := by rw [List.map_append, List.map_cons]; exact getD_mid (by simpa using h1)
  have m2 : ((e1 ++ e :: e2).map Prod.snd).getD i 0 = e.2 := by rw [List.map_append, List.map_cons]; exact getD_mid (by simpa using h1)
  generalize hne : (e1 ++ e :: e2).length = ne at *
  generalize hnk : (k1 ++ l :: r :: k2).length = nk at *
  refine btree_merge_call ?_
  rw [btree_merge_b0_eq]
  have kp := (s.at (nodeC p ne nk p1 p2 p3 c1 c2 c3)).blk
  have kl0 := (s.at (nodeC l el.length kl.length l1 l2 l3 d1 d2 d3)).blk
  have kr0 := (s.at (nodeC r er.length kr.length r1 r2 r3 f1 f2 f3)).blk
  refine ⟨_, _, _, Blk.cellA kp 2, (a3.rd (s.at P3)).ptr (by omega) (by omega) ?_⟩
  rw [Int.toNat_natCast, getD_mid h2]
  have ei : ((i : Int) + 1).toNat = i + 1 := by omega
  refine ⟨_, _, _, Blk.cellA kp 2, ⟨by omega, by omega⟩, (a3.rd (s.at P3)).ptr (by omega) (by omega) ?_⟩
  rw [ei, getD_mid2 h2]
  refine ⟨_, _, _, kl0.cell 0, _, _, _, kp.cell 0, (a1.rd (s.at P1)).int (by omega) (by omega) ?_⟩
  rw [Int.toNat_natCast, m1]
  refine ⟨_, _, _, kr0.cell 0, ?_⟩
  refine s.new (cs := [.int .i64 e.1]) fun bx h1' x1 s1 => ?_
  refine ⟨⟨_, _, _, (kr0.ext x1).cell 0, rfl⟩, ⟨_, _, _, (kl0.ext x1).cell 0, rfl⟩, ?_⟩
  have ox : Sl TI (some ⟨bx, 0, none⟩) 1 1 [e.1] (cA bx [.int .i64 e.1] 3) := Sl.one rfl
  refine append_sl ok_int (s1.at L1) b1 (ox.rd (s1.at (cA bx [.int .i64 e.1] 3))) (by omega) fun q1 w1 h2' L1' b1' s2 => ?_
  refine ⟨⟨_, _, _, (s2.at (nodeC r er.length kr.length r1 r2 r3 f1 f2 f3)).cell 0, rfl⟩, ?_⟩
  refine append_sl ok_int s2 b1' (g1.rd (s2.at R1)) (by omega) fun q2 w2 h3' L1'' b1'' s3 => ?_
  refine (s3.at (nodeC l el.length kl.length l1 l2 l3 d1 d2 d3)).wr rfl (by simp) fun h4' s4 => ?_
  have s4 : St h0 h4' (cA l [.slice q2 (el.length + 1 + er.length) w2, .slice l2 el.length d2, .slice l3 kl.length d3] 89 + _) := s4
  have kl4 := s4.blk
  have kp4 := (s4.at (nodeC p ne nk p1 p2 p3 c1 c2 c3)).blk
  have kr4 := (s4.at (nodeC r er.length kr.length r1 r2 r3 f1 f2 f3)).blk
  refine ⟨_, _, _, Blk.cellA kl4 1, _, _, _, Blk.cellA kp4 1, (a2.rd (s4.at P2)).int (by omega) (by omega) ?_⟩
  rw [Int.toNat_natCast, m2]
  refine ⟨_, _, _, Blk.cellA kr4 1, ?_⟩
  refine s4.new (cs := [.int .i64 e.2]) fun by_ h5' x5 s5 => ?_
  refine ⟨⟨_, _, _, Blk.cellA (kr4.ext x5) 1, rfl⟩, ⟨_, _, _, Blk.cellA (kl4.ext x5) 1, rfl⟩, ?_⟩
  have oy : Sl TI (some ⟨by_, 0, none⟩) 1 1 [e.2] (cA by_ [.int .i64 e.2] 3) := Sl.one rfl
  refine append_sl ok_int (s5.at L2) b2 (oy.rd (s5.at (cA by_ [.int .i64 e.2] 3))) (by omega) fun q3 w3 h6' L2' b2' s6 => ?_
  refine ⟨⟨_, _, _, (s6.at (nodeC r er.length kr.length r1 r2 r3 f1 f2 f3)).cellA 1, rfl⟩, ?_⟩
  refine append_sl ok_int s6 b2' (g2.rd (s6.at R2)) (by omega) fun q4 w4 h7' L2'' b2'' s7 => ?_
  refine (s7.at (cA l [.slice q2 (el.length + 1 + er.length) w2, .slice l2 el.length d2, .slice l3 kl.length d3] 89)).wr (o := 1) (add_mk _ _ _) (by simp) fun h8' s8 => ?_
  have s8 : St h0 h8' (cA l [.slice q2 (el.length + 1 + er.length) w2, .slice q4 (el.length + 1 + er.length) w4, .slice l3 kl.length d3] 89 + _) := s8
  refine ⟨_, _, _, s8.cellA 2, _, _, _, (s8.at (nodeC r er.length kr.length r1 r2 r3 f1 f2 f3)).cellA 2, ?_⟩
  refine append_sl ok_node (s8.at L3) b3 (g3.rd (s8.at R3)) (by omega) fun q5 w5 h9' L3' b3' s9 => ?_
  refine (s9.at (cA l [.slice q2 (el.length + 1 + er.length) w2, .slice q4 (el.length + 1 + er.length) w4, .slice l3 kl.length d3] 89)).wr (o := 2) (add_mk _ _ _) (by simp) fun h10' s10 => ?_
  have s10 : St h0 h10' (nodeC l (el.length + 1 + er.length) (kl.length + kr.length) q2 q4 q5 w2 w4 w5 + _) := s10
  have kp10 := (s10.at (nodeC p ne nk p1 p2 p3 c1 c2 c3)).blk
  refine ⟨_, _, _, kp10.cell 0, ⟨by omega, by omega⟩, _, _, _, Blk.cellA kp10 1, ⟨by omega, by omega⟩, ?_⟩
  refine (deleteI_st (s10.at P1) a1 (i := i) (by omega) rfl (by omega)).mono fun v1 h11' ⟨P1', hv1, a1', s11⟩ => ?_
  refine ⟨_, _, _, hv1, ⟨_, _, _, (s11.at (nodeC p ne nk p1 p2 p3 c1 c2 c3)).cellA 1, rfl⟩, ?_⟩
  refine (deleteI_st (s11.at P2) a2 (i := i) (by omega) rfl (by omega)).mono fun v2 h12' ⟨P2', hv2, a2', s12⟩ => ?_
  refine ⟨_, _, _, hv2, ?_⟩
  refine wr2 (n' := ne - 1) (s12.at (nodeC p ne nk p1 p2 p3 c1 c2 c3)) fun h14' s14 => ?_
  refine ⟨_, _, _, s14.cellA 2, ⟨by omega, by omega⟩, ⟨by omega, by omega⟩, ?_⟩
  have ei2 : ((i : Int) + 1) = ((i + 1 : Nat) : Int) := by omega
  rw [ei2]
  refine (deleteP_st (s14.at P3) a3 (i := i + 1) (by omega) (by omega) (by omega)).mono fun v3 h15' ⟨P3', hv3, a3', s15⟩ => ?_
  refine ⟨_, _, _, hv3, ?_⟩
  refine (s15.at (nodeC p (ne - 1) nk p1 p2 p3 c1 c2 c3)).wr (o := 2) (add_mk _ _ _) (by simp) fun h16' s16 => ?_
  have s16 : St h0 h16' (nodeC p (ne - 1) (nk - 1) p1 p2 p3 c1 c2 c3 + _) := s16
  have x1 : (e1 ++ e2).length = ne - 1 := by rw [← hne]; simp <;> omega
  have x2 : (k1 ++ l :: k2).length = nk - 1 := by rw [← hnk]; simp <;> omega
  have x3 : (el ++ e :: er).length = el.length + 1 + er.length := by simp; omega
  have x4 : (kl ++ kr).length = kl.length + kr.length := List.length_append
  have y1 : ((e1 ++ e :: e2).map Prod.fst).take i ++ ((e1 ++ e :: e2).map Prod.fst).drop (i + 1) = (e1 ++ e2).map Prod.fst := by rw [← List.map_take, ← List.map_drop, ← List.map_append, cut_mid h1]
  have y2 : ((e1 ++ e :: e2).map Prod.snd).take i ++ ((e1 ++ e :: e2).map Prod.snd).drop (i + 1) = (e1 ++ e2).map Prod.snd := by rw [← List.map_take, ← List.map_drop, ← List.map_append, cut_mid h1]
  have y3 : (k1 ++ l :: r :: k2).take (i + 1) ++ (k1 ++ l :: r :: k2).drop (i + 1 + 1) = k1 ++ l :: k2 := by
    have := cut_mid (a := k1 ++ [l]) (x := r) (b := k2) (i := i + 1) (by simp; omega)
    simpa using this
  refine ⟨rfl, nodeC p (e1 ++ e2).length (k1 ++ l :: k2).length p1 p2 p3 c1 c2 c3 + (P1' + (P2' + P3')), nodeC l (el ++ e :: er).length (kl ++ kr).length q2 q4 q5 w2 w4 w5 + (L1'' + (L2'' + L3')), ⟨p1, p2, p3, c1, c2, c3, P1', P2', P3', rfl, ⟨a1'.cast x1.symm y1, a2'.cast x1.symm y2, a3'.cast x2.symm y3⟩⟩, ⟨q2, q4, q5, w2, w4, w5, L1'', L2'', L3', rfl, ⟨b1''.cast x3.symm (by simp), b2''.cast x3.symm (by simp), b3'.cast x4.symm rfl⟩⟩, ?_⟩
  rw [x1, x2, x3, x4]
  exact (s16.to (B := (nodeC r er.length kr.length r1 r2 r3 f1 f2 f3 + (R1 + (R2 + R3)) + (cA bx [.int .i64 e.1] 3 + cA by_ [.int .i64 e.2] 3)) + (nodeC p (ne - 1) (nk - 1) p1 p2 p3 c1 c2 c3 + (P1' + (P2' + P3')) + (nodeC l (el.length + 1 + er.length) (kl.length + kr.length) q2 q4 q5 w2 w4 w5 + (L1'' + (L2'' + L3')) + F)))).drop
theorem set_mid {α : Type} {a : List α} {x y : α} {b : List α} {i : Nat} (h : a.length = i) : (a ++ x :: b).set i y = a ++ y :: b := by subst h; rw [List.set_append_right _ _ (Nat.le_refl _)]; simp
theorem take_last {α : Type} {a : List α} {x : α} {i : Nat} (h : a.length = i) : (a ++ [x]).take i = a := by subst h; simp
theorem toNat_sub1 {i : Nat} (h : 1 ≤ i) : ((i : Int) - 1).toNat = i - 1 := by omega
theorem map_mid {α β : Type} {f : α → β} {a : List α} {x : α} {b : List α} {i : Nat} {d' : β} (h : a.length = i) : ((a ++ x :: b).map f).getD i d' = f x := by rw [List.map_append, List.map_cons]; exact getD_mid (by simpa using h)
theorem fromLeft_b1_ok {h0 h : Hp} {p l n i : Nat} {e1 e2 el en : List E} {e x : E} {k1 k2 kl kn : List Nat} {Ap Al An F : Bag} (s : St h0 h (Ap + (Al + (An + F)))) (np : NodeA p (e1 ++ e :: e2) (k1 ++ l :: n :: k2) Ap) (nl : NodeA l (el ++ [x]) kl Al) (nn : NodeA n en kn An)
    (h1 : e1.length = i) (h2 : k1.length = i) (hs1 : (e1 ++ e :: e2).length ≤ 1000) (hs2 : el.length ≤ 1000) (hkl : kl = [] ∨ kl.length = el.length + 2) (hkn : kn.length ≤ 2000) (hq : kl = [] ↔ kn = []) {K : Value → Hp → Prop}
    (hk : ∀ h' Bp Bl Bn kl' kn', ((kl = [] ∧ kl' = [] ∧ kn' = []) ∨ ∃ z, kl = kl' ++ [z] ∧ kn' = z :: kn) → NodeA p (e1 ++ x :: e2) (k1 ++ l :: n :: k2) Bp → NodeA l el kl' Bl → NodeA n en kn' Bn → St h0 h' (Bp + (Bl + (Bn + F))) → K (.tuple #[]) h') :
    btree_fromLeft_b1 (some ⟨p, 0, none⟩) ((i : Int) + 1) (some ⟨l, 0, none⟩) (some ⟨n, 0, none⟩) (((el ++ [x]).length : Int) - 1) h K := by
  obtain ⟨p1, p2, p3, c1, c2, c3, P1, P2, P3, rfl, ⟨a1, a2, a3⟩⟩ := np
  have nl0 := nl
  obtain ⟨l1, l2, l3, d1, d2, d3, L1, L2, L3, rfl, ⟨b1, b2, b3⟩⟩ := nl
  obtain ⟨r1, r2, r3, f1, f2, f3, R1, R2, R3, rfl, ⟨g1, g2, g3⟩⟩ := nn
  have he : (e1 ++ e :: e2).length = i + 1 + e2.length := by simp; omega
  have hl : (el ++ [x]).length = el.length + 1 := by simp
  have hlx1 : ((el ++ [x]).map Prod.fst).getD el.length 0 = x.1 := map_mid rfl
  have hlx2 : ((el ++ [x]).map Prod.snd).getD el.length 0 = x.2 := map_mid rfl
  have y1 : ((e1 ++ e :: e2).map Prod.fst).set i x.1 = (e1 ++ x :: e2).map Prod.fst := by rw [List.map_append, List.map_cons, set_mid (by simpa using h1)]; simp
  have y2 : ((e1 ++ e :: e2).map Prod.snd).set i x.2 = (e1 ++ x :: e2).map Prod.snd := by rw [List.map_append, List.map_cons, set_mid (by simpa using h1)]; simp
  have xl : (e1 ++ x :: e2).length = (e1 ++ e :: e2).length := by simp
  have z1 : ((el ++ [x]).map Prod.fst).take el.length = el.map Prod.fst := by rw [← List.map_take, take_last rfl]
  have z2 : ((el ++ [x]).map Prod.snd).take el.length = el.map Prod.snd := by rw [← List.map_take, take_last rfl]
  have ek : (((el ++ [x]).length : Nat) : Int) - 1 = (el.length : Int) := by omega
  have ei1 : (i : Int) + 1 - 1 = (i : Int) := by omega
  rw [ek]
  generalize hne : (e1 ++ e :: e2).length = ne at *
  generalize hnl : (el ++ [x]).length = nl at *
  generalize hnk : (k1 ++ l :: n :: k2).length = nk at *
  rw [btree_fromLeft_b1_eq]
  rw [ei1]
  have kp := (s.at (nodeC p ne nk p1 p2 p3 c1 c2 c3)).blk
  have kl0 := (s.at (nodeC l nl kl.length l1 l2 l3 d1 d2 d3)).blk
  have b1c := b1.cap
  have b2c := b2.cap
  refine ⟨_, _, _, kp.cell 0, ⟨by omega, by omega⟩, _, _, _, Blk.cellA kp 1, ⟨by omega, by omega⟩, _, _, _, kl0.cell 0, (b1.rd (s.at L1)).int (by omega) (by omega) ?_⟩
  have enl : Int.toNat ((el.length : Nat) : Int) = el.length := Int.toNat_natCast _
  rw [enl, hlx1]
  refine ⟨_, _, _, Blk.cellA kl0 1, (b2.rd (s.at L2)).int (by omega) (by omega) ?_⟩
  rw [enl, hlx2]
  refine a1.wrI (s.at P1) (x := x.1) (by omega) (by omega) rfl rfl fun h18 P1' a1' s1 => ?_
  rw [Int.toNat_natCast, y1] at a1'
  refine a2.wrI (s1.at P2) (x := x.2) (by omega) (by omega) rfl rfl fun h19 P2' a2' s2 => ?_
  rw [Int.toNat_natCast, y2] at a2'
  have kl2 := (s2.at (nodeC l nl kl.length l1 l2 l3 d1 d2 d3)).blk
  have e0 : Int.toNat (0 : Int) = 0 := rfl
  refine ⟨_, _, _, kl2.cell 0, ⟨by omega, by omega, by omega⟩, _, _, _, Blk.cellA kl2 1, ⟨by omega, by omega, by omega⟩, ?_⟩
  rw [e0, Nat.sub_zero, Nat.sub_zero, Nat.sub_zero, subAddr_z, subAddr_z]
  refine (s2.at (nodeC l nl kl.length l1 l2 l3 d1 d2 d3)).wr rfl (by simp) fun h20 s3 => ?_
  refine ⟨⟨⟨by omega, by omega, by omega⟩, rfl⟩, ?_⟩
  refine s3.wr (o := 1) (add_mk _ _ _) (by simp) fun h21 s4 => ?_
  have s4 : St h0 h21 (nodeC l el.length kl.length l1 l2 l3 d1 d2 d3 + _) := s4
  have tl1 := b1.take (i := el.length) (by omega)
  have tl2 := b2.take (i := el.length) (by omega)
  rw [z1] at tl1
  rw [z2] at tl2
  have nl' : NodeA l el kl (nodeC l el.length kl.length l1 l2 l3 d1 d2 d3 + (L1 + (L2 + L3))) := ⟨l1, l2, l3, d1, d2, d3, L1, L2, L3, rfl, ⟨tl1, tl2, b3⟩⟩
  have np' : NodeA p (e1 ++ x :: e2) (k1 ++ l :: n :: k2) (nodeC p ne nk p1 p2 p3 c1 c2 c3 + (P1' + (P2' + P3))) := ⟨p1, p2, p3, c1, c2, c3, P1', P2', P3, by rw [xl, hnk], ⟨a1'.cast xl.symm rfl, a2'.cast xl.symm rfl, hnk ▸ a3⟩⟩
  have s5 := s4.to (B := nodeC l el.length kl.length l1 l2 l3 d1 d2 d3 + (L1 + (L2 + L3)) + (nodeC p ne nk p1 p2 p3 c1 c2 c3 + (P1' + (P2' + P3)) + (nodeC n en.length kn.length r1 r2 r3 f1 f2 f3 + (R1 + (R2 + R3)) + F)))
  refine (leaf_ok s5 nl').mono fun v7 h22 ⟨hh, hv⟩ => ?_
  subst hh
  refine ⟨_, hv, condN (fun hlf => ?_) (fun hlf => ?_)⟩
  · -- a node with children: the last one moves too
    rcases hkl with rfl | hkl
    · exact absurd rfl hlf
    obtain ⟨kl', z, rfl⟩ : ∃ kl' z, kl = kl' ++ [z] := by
      rcases List.eq_nil_or_concat kl with h | ⟨kl', z, h⟩
      · rw [h] at hkl; simp at hkl
      · exact ⟨kl', z, by simpa using h⟩
    have hkl' : kl'.length = el.length + 1 := by simpa using hkl
    have kn5 := (s5.at (nodeC n en.length kn.length r1 r2 r3 f1 f2 f3)).blk
    have ek1 : ((el.length : Int) + 1).toNat = el.length + 1 := by omega
    refine ⟨_, _, _, Blk.cellA kn5 2, _, _, _, (s5.at (nodeC l el.length (kl' ++ [z]).length l1 l2 l3 d1 d2 d3)).cellA 2, ⟨by omega, by omega⟩, (b3.rd (s5.at L3)).ptr (by omega) (by omega) ?_⟩
    rw [ek1, getD_mid hkl']
    refine s5.new (cs := [.pointer (some ⟨z, 0, none⟩)]) fun b6 h23 x6 s6 => ?_
    refine ⟨⟨_, _, _, Blk.cellA (kn5.ext x6) 2, rfl⟩, ?_⟩
    have s6 := s6.to (B := R3 + (cA b6 [.pointer (some ⟨z, 0, none⟩)] (TP).e + (nodeC l el.length (kl' ++ [z]).length l1 l2 l3 d1 d2 d3 + (L1 + (L2 + L3)) + (nodeC p ne nk p1 p2 p3 c1 c2 c3 + (P1' + (P2' + P3)) + (nodeC n en.length kn.length r1 r2 r3 f1 f2 f3 + (R1 + R2) + F)))))
    refine (insertP_st (x := z) (i := 0) s6 g3 rfl (by omega) (by omega)).mono fun v8 h24 ⟨r3', f3', R3', hv8, g3', s7⟩ => ?_
    refine ⟨_, _, _, hv8, ?_⟩
    have g3' : Sl TP r3' (kn.length + 1) f3' (z :: kn) R3' := g3'
    refine (s7.at (nodeC n en.length kn.length r1 r2 r3 f1 f2 f3)).wr (o := 2) (add_mk _ _ _) (by simp) fun h25 s8 => ?_
    have s8 : St h0 h25 (nodeC n en.length (kn.length + 1) r1 r2 r3' f1 f2 f3' + _) := s8
    refine ⟨_, _, _, (s8.at (nodeC l el.length (kl' ++ [z]).length l1 l2 l3 d1 d2 d3)).cellA 2, ⟨by omega, by omega⟩, ⟨by omega, by omega⟩, ?_⟩
    have ek2 : ((el.length : Int) + 1) = ((el.length + 1 : Nat) : Int) := by omega
    rw [ek2]
    refine (deleteP_st (s8.at L3) b3 (i := el.length + 1) (by omega) (by omega) (by omega)).mono fun v9 h26 ⟨L3', hv9, b3', s9⟩ => ?_
    refine ⟨_, _, _, hv9, ?_⟩
    refine (s9.at (nodeC l el.length (kl' ++ [z]).length l1 l2 l3 d1 d2 d3)).wr (o := 2) (add_mk _ _ _) (by simp) fun h27 s10 => ?_
    have s10 : St h0 h27 (nodeC l el.length ((kl' ++ [z]).length - 1) l1 l2 l3 d1 d2 d3 + _) := s10
    have w1 : (kl' ++ [z]).length - 1 = kl'.length := by simp
    have w2 : (kl' ++ [z]).take (el.length + 1) ++ (kl' ++ [z]).drop (el.length + 1 + 1) = kl' := by
      have := cut_mid (a := kl') (x := z) (b := []) hkl'
      simpa using this
    rw [w1] at s10
    refine hk h27 _ (nodeC l el.length kl'.length l1 l2 l3 d1 d2 d3 + (L1 + (L2 + L3'))) (nodeC n en.length (kn.length + 1) r1 r2 r3' f1 f2 f3' + (R1 + (R2 + R3'))) kl' (z :: kn) (.inr ⟨z, rfl, rfl⟩) np' ⟨l1, l2, l3, d1, d2, d3, L1, L2, L3', rfl, ⟨tl1, tl2, b3'.cast w1 w2⟩⟩ ⟨r1, r2, r3', f1, f2, f3', R1, R2, R3', rfl, ⟨g1, g2, g3'⟩⟩ ?_
    exact (s10.to (B := cA b6 [.pointer (some ⟨z, 0, none⟩)] (TP).e + (nodeC p ne nk p1 p2 p3 c1 c2 c3 + (P1' + (P2' + P3)) + (nodeC l el.length kl'.length l1 l2 l3 d1 d2 d3 + (L1 + (L2 + L3')) + (nodeC n en.length (kn.length + 1) r1 r2 r3' f1 f2 f3' + (R1 + (R2 + R3')) + F))))).drop
  · have hk0 : kl = [] := List.eq_nil_of_length_eq_zero hlf
    subst hk0
    have hn0 := hq.1 rfl
    subst hn0
    exact hk h22 _ _ (nodeC n en.length ([] : List Nat).length r1 r2 r3 f1 f2 f3 + (R1 + (R2 + R3))) [] [] (.inl ⟨rfl, rfl, rfl⟩) np' nl' ⟨r1, r2, r3, f1, f2, f3, R1, R2, R3, rfl, ⟨g1, g2, g3⟩⟩ s5.to
end Go.Proofs.Ytaemnjblcpknpaa

/- B-trees: an entry comes from the left, or from the right. -/
set_option maxRecDepth 100000
namespace Go.Proofs.Ytaemnjblcpknpaa
open Go Go.Sx
theorem fromLeft_ok {h0 h : Hp} {p l n i : Nat} {e1 e2 el en : List E} {e x : E} {k1 k2 kl kn : List Nat} {Ap Al An F : Bag} (s : St h0 h (Ap + (Al + (An + F)))) (np : NodeA p (e1 ++ e :: e2) (k1 ++ l :: n :: k2) Ap) (nl : NodeA l (el ++ [x]) kl Al) (nn : NodeA n en kn An)
    (h1 : e1.length = i) (h2 : k1.length = i) (hs1 : (e1 ++ e :: e2).length ≤ 1000) (hs2 : el.length ≤ 900) (hs3 : en.length ≤ 900) (hkl : kl = [] ∨ kl.length = el.length + 2) (hkn : kn.length ≤ 2000) (hq : kl = [] ↔ kn = []) :
    HCalls Try.prog 69 #[ptr p, .int .i64 ((i : Int) + 1)] h (fun v h' => v = .tuple #[] ∧ ∃ Bp Bl Bn kl' kn', ((kl = [] ∧ kl' = [] ∧ kn' = []) ∨ ∃ z, kl = kl' ++ [z] ∧ kn' = z :: kn) ∧ NodeA p (e1 ++ x :: e2) (k1 ++ l :: n :: k2) Bp ∧ NodeA l el kl' Bl ∧ NodeA n (e :: en) kn' Bn ∧ St h0 h' (Bp + (Bl + (Bn + F)))) := by
  have np0 := np
  have nl0 := nl
  obtain ⟨p1, p2, p3, c1, c2, c3, P1, P2, P3, rfl, ⟨a1, a2, a3⟩⟩ := np
  obtain ⟨l1, l2, l3, d1, d2, d3, L1, L2, L3, rfl, ⟨b1, b2, b3⟩⟩ := nl
  obtain ⟨r1, r2, r3, f1, f2, f3, R1, R2, R3, rfl, ⟨g1, g2, g3⟩⟩ := nn
  have he : (e1 ++ e :: e2).length = i + 1 + e2.length := by simp; omega
  have hk : (k1 ++ l :: n :: k2).length = i + 2 + k2.length := by simp; omega
  have hl : (el ++ [x]).length = el.length + 1 := by simp
  have m1 : ((e1 ++ e :: e2).map Prod.fst).getD i 0 = e.1 := map_mid h1
  have m2 : ((e1 ++ e :: e2).map Prod.snd).getD i 0 = e.2 := map_mid h1
  have ei1 : (i : Int) + 1 - 1 = (i : Int) := by omega
  have ei2 : ((i : Int) + 1).toNat = i + 1 := by omega
  refine btree_fromLeft_call ?_
  rw [btree_fromLeft_b0_eq]
  rw [ei1]
  have kp := (s.at (nodeC p (e1 ++ e :: e2).length (k1 ++ l :: n :: k2).length p1 p2 p3 c1 c2 c3)).blk
  have kl0 := (s.at (nodeC l (el ++ [x]).length kl.length l1 l2 l3 d1 d2 d3)).blk
  have kn0 := (s.at (nodeC n en.length kn.length r1 r2 r3 f1 f2 f3)).blk
  refine ⟨_, _, _, Blk.cellA kp 2, ⟨by omega, by omega⟩, (a3.rd (s.at P3)).ptr (by omega) (by omega) ?_⟩
  rw [Int.toNat_natCast, getD_mid h2]
  refine ⟨_, _, _, Blk.cellA kp 2, (a3.rd (s.at P3)).ptr (by omega) (by omega) ?_⟩
  rw [ei2, getD_mid2 h2]
  have rp1 := a1.rd (s.at P1)
  have rp2 := a2.rd (s.at P2)
  refine ⟨_, _, _, kl0.cell 0, ⟨by omega, by omega⟩, _, _, _, kn0.cell 0, _, _, _, kp.cell 0, ⟨by omega, by omega⟩, rp1.intA (by omega) (by omega) fun ax1 hax1 => ?_⟩
  rw [Int.toNat_natCast, m1]
  refine ⟨_, _, _, Blk.cellA kn0 1, _, _, _, Blk.cellA kp 1, ⟨by omega, by omega⟩, rp2.intA (by omega) (by omega) fun ax2 hax2 => ?_⟩
  rw [Int.toNat_natCast, m2]
  -- the end, whatever came first
  have fin : ∀ (h' : Hp) (q1 q2 : Option Addr) (w1 w2 : Nat) (D1 D2 G : Bag), St h0 h' (nodeC n en.length kn.length r1 r2 r3 f1 f2 f3 + (D1 + (D2 + (R3 + (nodeC p (e1 ++ e :: e2).length (k1 ++ l :: n :: k2).length p1 p2 p3 c1 c2 c3 + (P1 + (P2 + P3)) + (nodeC l (el ++ [x]).length kl.length l1 l2 l3 d1 d2 d3 + (L1 + (L2 + L3)) + (F + G))))))) →
      Sl TI q1 (en.length + 1) w1 ((en.map Prod.fst).take 0 ++ e.1 :: (en.map Prod.fst).drop 0) D1 → Sl TI q2 (en.length + 1) w2 ((en.map Prod.snd).take 0 ++ e.2 :: (en.map Prod.snd).drop 0) D2 →
      NN (some (⟨n, 0, none⟩ : Addr)) fun a => Wr h' a (.slice q1 (en.length + 1) w1) fun h1 => NN (some (⟨n, 0, none⟩ : Addr)) fun a => Wr h1 (a.add 1) (.slice q2 (en.length + 1) w2) fun h2 =>
      btree_fromLeft_b1 (some ⟨p, 0, none⟩) ((i : Int) + 1) (some ⟨l, 0, none⟩) (some ⟨n, 0, none⟩) (((el ++ [x]).length : Int) - 1) h2 (fun v h' => v = .tuple #[] ∧ ∃ Bp Bl Bn kl' kn', ((kl = [] ∧ kl' = [] ∧ kn' = []) ∨ ∃ z, kl = kl' ++ [z] ∧ kn' = z :: kn) ∧ NodeA p (e1 ++ x :: e2) (k1 ++ l :: n :: k2) Bp ∧ NodeA l el kl' Bl ∧ NodeA n (e :: en) kn' Bn ∧ St h0 h' (Bp + (Bl + (Bn + F)))) := by
    intro h' q1 q2 w1 w2 D1 D2 G s' o1 o2
    refine wr2 s' fun h2 s2 => ?_
    have nn' : NodeA n (e :: en) kn (nodeC n (en.length + 1) kn.length q1 q2 r3 w1 w2 f3 + (D1 + (D2 + R3))) := ⟨q1, q2, r3, w1, w2, f3, D1, D2, R3, rfl, ⟨o1, o2, g3⟩⟩
    refine fromLeft_b1_ok (F := F + G) s2.to np0 nl0 nn' h1 (by assumption) hs1 (by omega) hkl hkn hq fun h' Bp Bl Bn kl' kn' hkk n1 n2 n3 s3 => ⟨rfl, Bp, Bl, Bn, kl', kn', hkk, n1, n2, n3, ?_⟩
    exact (s3.to (B := G + (Bp + (Bl + (Bn + F))))).drop
  have g2c := g2.cap
  have c0 : (0 : Int) = ((0 : Nat) : Int) := rfl
  refine ⟨?_, ?_⟩
  · refine s.new (cs := [.int .i64 e.1]) fun bx hx x1 s1 => ?_
    refine ⟨(rp2.ext x1).again hax2 (by omega) m2, ⟨_, _, _, Blk.cellA (kp.ext x1) 1, rfl⟩, ⟨_, _, _, Blk.cellA (kn0.ext x1) 1, rfl⟩, ⟨_, _, _, (kn0.ext x1).cell 0, rfl⟩, ?_, ?_⟩
    · have s2 := s1.to (B := R1 + (cA bx [.int .i64 e.1] (TI).e + (nodeC n en.length kn.length r1 r2 r3 f1 f2 f3 + (R2 + R3) + (nodeC p (e1 ++ e :: e2).length (k1 ++ l :: n :: k2).length p1 p2 p3 c1 c2 c3 + (P1 + (P2 + P3)) + (nodeC l (el ++ [x]).length kl.length l1 l2 l3 d1 d2 d3 + (L1 + (L2 + L3)) + F)))))
      refine (insertI_st (x := e.1) (i := 0) s2 g1 rfl (by omega) (by omega)).mono fun v1 h2' ⟨q1, w1, D1, hv1, o1, s3⟩ => ?_
      refine ⟨_, _, _, hv1, (a2.rd (s3.at P2)).again hax2 (by omega) m2, ⟨_, _, _, (s3.at (nodeC p (e1 ++ e :: e2).length (k1 ++ l :: n :: k2).length p1 p2 p3 c1 c2 c3)).cellA 1, rfl⟩, ⟨_, _, _, (s3.at (nodeC n en.length kn.length r1 r2 r3 f1 f2 f3)).cellA 1, rfl⟩, ?_⟩
      refine s3.new (cs := [.int .i64 e.2]) fun by_ h3' _ s4 => ?_
      refine ⟨⟨_, _, _, (s4.at (nodeC n en.length kn.length r1 r2 r3 f1 f2 f3)).cellA 1, rfl⟩, ?_⟩
      have s5 := s4.to (B := R2 + (cA by_ [.int .i64 e.2] (TI).e + (nodeC n en.length kn.length r1 r2 r3 f1 f2 f3 + (D1 + R3) + (nodeC p (e1 ++ e :: e2).length (k1 ++ l :: n :: k2).length p1 p2 p3 c1 c2 c3 + (P1 + (P2 + P3)) + (nodeC l (el ++ [x]).length kl.length l1 l2 l3 d1 d2 d3 + (L1 + (L2 + L3)) + (F + cA bx [.int .i64 e.1] (TI).e))))))
      refine (insertI_st (x := e.2) (i := 0) s5 g2 rfl (by omega) (by omega)).mono fun v2 h4' ⟨q2, w2, D2, hv2, o2, s6⟩ => ?_
      exact ⟨_, _, _, hv2, fin h4' q1 q2 w1 w2 D1 D2 (cA bx [.int .i64 e.1] (TI).e + cA by_ [.int .i64 e.2] (TI).e) s6.to o1 o2⟩
    · refine s1.new (cs := [.int .i64 e.2]) fun by_ h3' x3 s4 => ?_
      refine ⟨⟨_, _, _, Blk.cellA ((kn0.ext x1).ext x3) 1, rfl⟩, ⟨_, _, _, ((kn0.ext x1).ext x3).cell 0, rfl⟩, ?_⟩
      have s2 := s4.to (B := R1 + (cA bx [.int .i64 e.1] (TI).e + (nodeC n en.length kn.length r1 r2 r3 f1 f2 f3 + (R2 + R3) + (nodeC p (e1 ++ e :: e2).length (k1 ++ l :: n :: k2).length p1 p2 p3 c1 c2 c3 + (P1 + (P2 + P3)) + (nodeC l (el ++ [x]).length kl.length l1 l2 l3 d1 d2 d3 + (L1 + (L2 + L3)) + (F + cA by_ [.int .i64 e.2] (TI).e))))))
      refine (insertI_st (x := e.1) (i := 0) s2 g1 rfl (by omega) (by omega)).mono fun v1 h2' ⟨q1, w1, D1, hv1, o1, s3⟩ => ?_
      refine ⟨_, _, _, hv1, ⟨_, _, _, (s3.at (nodeC n en.length kn.length r1 r2 r3 f1 f2 f3)).cellA 1, rfl⟩, ?_⟩
      have s5 := s3.to (B := R2 + (cA by_ [.int .i64 e.2] (TI).e + (nodeC n en.length kn.length r1 r2 r3 f1 f2 f3 + (D1 + R3) + (nodeC p (e1 ++ e :: e2).length (k1 ++ l :: n :: k2).length p1 p2 p3 c1 c2 c3 + (P1 + (P2 + P3)) + (nodeC l (el ++ [x]).length kl.length l1 l2 l3 d1 d2 d3 + (L1 + (L2 + L3)) + (F + cA bx [.int .i64 e.1] (TI).e))))))
      refine (insertI_st (x := e.2) (i := 0) s5 g2 rfl (by omega) (by omega)).mono fun v2 h4' ⟨q2, w2, D2, hv2, o2, s6⟩ => ?_
      exact ⟨_, _, _, hv2, fin h4' q1 q2 w1 w2 D1 D2 (cA bx [.int .i64 e.1] (TI).e + cA by_ [.int .i64 e.2] (TI).e) s6.to o1 o2⟩
  · refine s.new (cs := [.int .i64 e.2]) fun by_ hx x1 s1 => ?_
    refine ⟨⟨_, _, _, Blk.cellA (kn0.ext x1) 1, rfl⟩, (rp1.ext x1).again hax1 (by omega) m1, ⟨_, _, _, (kp.ext x1).cell 0, rfl⟩, ⟨_, _, _, (kn0.ext x1).cell 0, rfl⟩, ?_⟩
    refine s1.new (cs := [.int .i64 e.1]) fun bx h3' x3 s4 => ?_
    refine ⟨⟨_, _, _, Blk.cellA ((kn0.ext x1).ext x3) 1, rfl⟩, ⟨_, _, _, ((kn0.ext x1).ext x3).cell 0, rfl⟩, ?_⟩
    have s2 := s4.to (B := R1 + (cA bx [.int .i64 e.1] (TI).e + (nodeC n en.length kn.length r1 r2 r3 f1 f2 f3 + (R2 + R3) + (nodeC p (e1 ++ e :: e2).length (k1 ++ l :: n :: k2).length p1 p2 p3 c1 c2 c3 + (P1 + (P2 + P3)) + (nodeC l (el ++ [x]).length kl.length l1 l2 l3 d1 d2 d3 + (L1 + (L2 + L3)) + (F + cA by_ [.int .i64 e.2] (TI).e))))))
    refine (insertI_st (x := e.1) (i := 0) s2 g1 rfl (by omega) (by omega)).mono fun v1 h2' ⟨q1, w1, D1, hv1, o1, s3⟩ => ?_
    refine ⟨_, _, _, hv1, ⟨_, _, _, (s3.at (nodeC n en.length kn.length r1 r2 r3 f1 f2 f3)).cellA 1, rfl⟩, ?_⟩
    have s5 := s3.to (B := R2 + (cA by_ [.int .i64 e.2] (TI).e + (nodeC n en.length kn.length r1 r2 r3 f1 f2 f3 + (D1 + R3) + (nodeC p (e1 ++ e :: e2).length (k1 ++ l :: n :: k2).length p1 p2 p3 c1 c2 c3 + (P1 + (P2 + P3)) + (nodeC l (el ++ [x]).length kl.length l1 l2 l3 d1 d2 d3 + (L1 + (L2 + L3)) + (F + cA bx [.int .i64 e.1] (TI).e))))))
    refine (insertI_st (x := e.2) (i := 0) s5 g2 rfl (by omega) (by omega)).mono fun v2 h4' ⟨q2, w2, D2, hv2, o2, s6⟩ => ?_
    exact ⟨_, _, _, hv2, fin h4' q1 q2 w1 w2 D1 D2 (cA bx [.int .i64 e.1] (TI).e + cA by_ [.int .i64 e.2] (TI).e) s6.to o1 o2⟩
end Go.Proofs.Ytaemnjblcpknpaa

/- B-trees: an entry comes from the right. -/
set_option maxRecDepth 100000
namespace Go.Proofs.Ytaemnjblcpknpaa
open Go Go.Sx
theorem fromRight_b1_ok {h0 h : Hp} {p n r i : Nat} {e1 e2 en er : List E} {e x : E} {k1 k2 kn kr : List Nat} {Ap An Ar F : Bag} (s : St h0 h (Ap + (An + (Ar + F)))) (np : NodeA p (e1 ++ e :: e2) (k1 ++ n :: r :: k2) Ap) (nn : NodeA n en kn An) (nr : NodeA r (x :: er) kr Ar)
    (h1 : e1.length = i) (hs1 : (e1 ++ e :: e2).length ≤ 1000) (hs2 : er.length ≤ 1000) (hkr : kr = [] ∨ kr.length = er.length + 2) (hkn : kn.length ≤ 2000) (hq : kr = [] ↔ kn = []) {K : Value → Hp → Prop}
    (hk : ∀ h' Bp Bn Br kn' kr', ((kr = [] ∧ kr' = [] ∧ kn' = []) ∨ ∃ z, kr = z :: kr' ∧ kn' = kn ++ [z]) → NodeA p (e1 ++ x :: e2) (k1 ++ n :: r :: k2) Bp → NodeA n en kn' Bn → NodeA r er kr' Br → St h0 h' (Bp + (Bn + (Br + F))) → K (.tuple #[]) h') :
    btree_fromRight_b1 (some ⟨p, 0, none⟩) (i : Int) (some ⟨n, 0, none⟩) (some ⟨r, 0, none⟩) h K := by
  obtain ⟨p1, p2, p3, c1, c2, c3, P1, P2, P3, rfl, ⟨a1, a2, a3⟩⟩ := np
  obtain ⟨l1, l2, l3, d1, d2, d3, L1, L2, L3, rfl, ⟨b1, b2, b3⟩⟩ := nn
  obtain ⟨r1, r2, r3, f1, f2, f3, R1, R2, R3, rfl, ⟨g1, g2, g3⟩⟩ := nr
  have he : (e1 ++ e :: e2).length = i + 1 + e2.length := by simp; omega
  have hl : (x :: er).length = er.length + 1 := rfl
  have y1 : ((e1 ++ e :: e2).map Prod.fst).set i x.1 = (e1 ++ x :: e2).map Prod.fst := by rw [List.map_append, List.map_cons, set_mid (by simpa using h1)]; simp
  have y2 : ((e1 ++ e :: e2).map Prod.snd).set i x.2 = (e1 ++ x :: e2).map Prod.snd := by rw [List.map_append, List.map_cons, set_mid (by simpa using h1)]; simp
  have xl : (e1 ++ x :: e2).length = (e1 ++ e :: e2).length := by simp
  rw [btree_fromRight_b1_eq]
  have kp := (s.at (nodeC p (e1 ++ e :: e2).length (k1 ++ n :: r :: k2).length p1 p2 p3 c1 c2 c3)).blk
  have kr0 := (s.at (nodeC r (x :: er).length kr.length r1 r2 r3 f1 f2 f3)).blk
  have e0 : Int.toNat (0 : Int) = 0 := rfl
  refine ⟨_, _, _, kp.cell 0, _, _, _, Blk.cellA kp 1, _, _, _, kr0.cell 0, (g1.rd (s.at R1)).int (by omega) (by omega) ?_⟩
  refine ⟨_, _, _, Blk.cellA kr0 1, (g2.rd (s.at R2)).int (by omega) (by omega) ?_⟩
  rw [e0]
  refine a1.wrI (s.at P1) (x := x.1) (by omega) (by omega) rfl rfl fun h18 P1' a1' s1 => ?_
  rw [Int.toNat_natCast, y1] at a1'
  refine a2.wrI (s1.at P2) (x := x.2) (by omega) (by omega) rfl rfl fun h19 P2' a2' s2 => ?_
  rw [Int.toNat_natCast, y2] at a2'
  have kr2 := (s2.at (nodeC r (x :: er).length kr.length r1 r2 r3 f1 f2 f3)).blk
  refine ⟨_, _, _, kr2.cell 0, _, _, _, Blk.cellA kr2 1, ?_⟩
  refine (deleteI_st (s2.at R1) g1 (i := 0) (by omega) rfl (by omega)).mono fun v1 h20 ⟨R1', hv1, g1', s3⟩ => ?_
  refine ⟨_, _, _, hv1, ⟨_, _, _, (s3.at (nodeC r (x :: er).length kr.length r1 r2 r3 f1 f2 f3)).cellA 1, rfl⟩, ?_⟩
  refine (deleteI_st (s3.at R2) g2 (i := 0) (by omega) rfl (by omega)).mono fun v2 h21 ⟨R2', hv2, g2', s4⟩ => ?_
  refine ⟨_, _, _, hv2, ?_⟩
  have g1' : Sl TI r1 er.length f1 (er.map Prod.fst) R1' := g1'
  have g2' : Sl TI r2 er.length f2 (er.map Prod.snd) R2' := g2'
  refine wr2 (n' := er.length) (s4.at (nodeC r (x :: er).length kr.length r1 r2 r3 f1 f2 f3)) fun h23 s5 => ?_
  have nr' : NodeA r er kr (nodeC r er.length kr.length r1 r2 r3 f1 f2 f3 + (R1' + (R2' + R3))) := ⟨r1, r2, r3, f1, f2, f3, R1', R2', R3, rfl, ⟨g1', g2', g3⟩⟩
  have np' : NodeA p (e1 ++ x :: e2) (k1 ++ n :: r :: k2) (nodeC p (e1 ++ e :: e2).length (k1 ++ n :: r :: k2).length p1 p2 p3 c1 c2 c3 + (P1' + (P2' + P3))) := ⟨p1, p2, p3, c1, c2, c3, P1', P2', P3, by rw [xl], ⟨a1'.cast xl.symm rfl, a2'.cast xl.symm rfl, a3⟩⟩
  have s6 := s5.to (B := nodeC r er.length kr.length r1 r2 r3 f1 f2 f3 + (R1' + (R2' + R3)) + (nodeC p (e1 ++ e :: e2).length (k1 ++ n :: r :: k2).length p1 p2 p3 c1 c2 c3 + (P1' + (P2' + P3)) + (nodeC n en.length kn.length l1 l2 l3 d1 d2 d3 + (L1 + (L2 + L3)) + F)))
  refine (leaf_ok s6 nr').mono fun v7 h24 ⟨hh, hv⟩ => ?_
  subst hh
  refine ⟨_, hv, condN (fun hlf => ?_) (fun hlf => ?_)⟩
  · rcases hkr with rfl | hkr
    · exact absurd rfl hlf
    obtain ⟨z, kr', rfl⟩ : ∃ z kr', kr = z :: kr' := by
      cases kr with
      | nil => simp at hkr
      | cons z kr' => exact ⟨z, kr', rfl⟩
    have kn6 := (s6.at (nodeC n en.length kn.length l1 l2 l3 d1 d2 d3)).blk
    refine ⟨_, _, _, Blk.cellA kn6 2, _, _, _, (s6.at (nodeC r er.length (z :: kr').length r1 r2 r3 f1 f2 f3)).cellA 2, (g3.rd (s6.at R3)).ptr (by omega) (by rw [List.length_cons]; omega) ?_⟩
    refine s6.new (cs := [.pointer (some ⟨z, 0, none⟩)]) fun b6 h25 x6 s7 => ?_
    refine ⟨⟨_, _, _, Blk.cellA (kn6.ext x6) 2, rfl⟩, ?_⟩
    have oz : Sl TP (some ⟨b6, 0, none⟩) 1 1 [z] (cA b6 [.pointer (some ⟨z, 0, none⟩)] (TP).e) := Sl.one rfl
    refine append_sl ok_node (s7.at L3) b3 (oz.rd (s7.at (cA b6 [.pointer (some ⟨z, 0, none⟩)] (TP).e))) (by omega) fun l3' d3' h26 L3' b3' s8 => ?_
    refine (s8.at (nodeC n en.length kn.length l1 l2 l3 d1 d2 d3)).wr (o := 2) (add_mk _ _ _) (by simp) fun h27 s9 => ?_
    have s9 : St h0 h27 (nodeC n en.length (kn.length + 1) l1 l2 l3' d1 d2 d3' + _) := s9
    refine ⟨_, _, _, (s9.at (nodeC r er.length (z :: kr').length r1 r2 r3 f1 f2 f3)).cellA 2, ?_⟩
    refine (deleteP_st (s9.at R3) g3 (i := 0) (by rw [List.length_cons]; omega) rfl (by simp at hkr ⊢; omega)).mono fun v9 h28 ⟨R3', hv9, g3', s10⟩ => ?_
    refine ⟨_, _, _, hv9, ?_⟩
    refine (s10.at (nodeC r er.length (z :: kr').length r1 r2 r3 f1 f2 f3)).wr (o := 2) (add_mk _ _ _) (by simp) fun h29 s11 => ?_
    have s11 : St h0 h29 (nodeC r er.length kr'.length r1 r2 r3 f1 f2 f3 + _) := s11
    have g3' : Sl TP r3 kr'.length f3 kr' R3' := g3'
    refine hk h29 _ (nodeC n en.length (kn ++ [z]).length l1 l2 l3' d1 d2 d3' + (L1 + (L2 + L3'))) (nodeC r er.length kr'.length r1 r2 r3 f1 f2 f3 + (R1' + (R2' + R3'))) (kn ++ [z]) kr' (.inr ⟨z, rfl, rfl⟩) np' ⟨l1, l2, l3', d1, d2, d3', L1, L2, L3', rfl, ⟨b1, b2, b3'.cast (by simp) rfl⟩⟩ ⟨r1, r2, r3, f1, f2, f3, R1', R2', R3', rfl, ⟨g1', g2', g3'⟩⟩ ?_
    rw [show (kn ++ [z]).length = kn.length + 1 by simp]
    exact (s11.to (B := cA b6 [.pointer (some ⟨z, 0, none⟩)] (TP).e + (nodeC p (e1 ++ e :: e2).length (k1 ++ n :: r :: k2).length p1 p2 p3 c1 c2 c3 + (P1' + (P2' + P3)) + (nodeC n en.length (kn.length + 1) l1 l2 l3' d1 d2 d3' + (L1 + (L2 + L3')) + (nodeC r er.length kr'.length r1 r2 r3 f1 f2 f3 + (R1' + (R2' + R3')) + F))))).drop
  · have hk0 : kr = [] := List.eq_nil_of_length_eq_zero hlf
    subst hk0
    have hn0 := hq.1 rfl
    subst hn0
    exact hk h24 _ (nodeC n en.length ([] : List Nat).length l1 l2 l3 d1 d2 d3 + (L1 + (L2 + L3))) _ [] [] (.inl ⟨rfl, rfl, rfl⟩) np' ⟨l1, l2, l3, d1, d2, d3, L1, L2, L3, rfl, ⟨b1, b2, b3⟩⟩ nr' s6.to
theorem fromRight_ok {h0 h : Hp} {p n r i : Nat} {e1 e2 en er : List E} {e x : E} {k1 k2 kn kr : List Nat} {Ap An Ar F : Bag} (s : St h0 h (Ap + (An + (Ar + F)))) (np : NodeA p (e1 ++ e :: e2) (k1 ++ n :: r :: k2) Ap) (nn : NodeA n en kn An) (nr : NodeA r (x :: er) kr Ar)
    (h1 : e1.length = i) (h2 : k1.length = i) (hs1 : (e1 ++ e :: e2).length ≤ 1000) (hs2 : er.length ≤ 900) (hs3 : en.length ≤ 900) (hkr : kr = [] ∨ kr.length = er.length + 2) (hkn : kn.length ≤ 2000) (hq : kr = [] ↔ kn = []) :
    HCalls Try.prog 70 #[ptr p, .int .i64 (i : Int)] h (fun v h' => v = .tuple #[] ∧ ∃ Bp Bn Br kn' kr', ((kr = [] ∧ kr' = [] ∧ kn' = []) ∨ ∃ z, kr = z :: kr' ∧ kn' = kn ++ [z]) ∧ NodeA p (e1 ++ x :: e2) (k1 ++ n :: r :: k2) Bp ∧ NodeA n (en ++ [e]) kn' Bn ∧ NodeA r er kr' Br ∧ St h0 h' (Bp + (Bn + (Br + F)))) := by
  have np0 := np
  have nr0 := nr
  obtain ⟨p1, p2, p3, c1, c2, c3, P1, P2, P3, rfl, ⟨a1, a2, a3⟩⟩ := np
  obtain ⟨l1, l2, l3, d1, d2, d3, L1, L2, L3, rfl, ⟨b1, b2, b3⟩⟩ := nn
  obtain ⟨r1, r2, r3, f1, f2, f3, R1, R2, R3, rfl, ⟨g1, g2, g3⟩⟩ := nr
  have he : (e1 ++ e :: e2).length = i + 1 + e2.length := by simp; omega
  have hk : (k1 ++ n :: r :: k2).length = i + 2 + k2.length := by simp; omega
  have m1 : ((e1 ++ e :: e2).map Prod.fst).getD i 0 = e.1 := map_mid h1
  have m2 : ((e1 ++ e :: e2).map Prod.snd).getD i 0 = e.2 := map_mid h1
  have ei2 : ((i : Int) + 1).toNat = i + 1 := by omega
  refine btree_fromRight_call ?_
  rw [btree_fromRight_b0_eq]
  have kp := (s.at (nodeC p (e1 ++ e :: e2).length (k1 ++ n :: r :: k2).length p1 p2 p3 c1 c2 c3)).blk
  have kn0 := (s.at (nodeC n en.length kn.length l1 l2 l3 d1 d2 d3)).blk
  refine ⟨_, _, _, Blk.cellA kp 2, (a3.rd (s.at P3)).ptr (by omega) (by omega) ?_⟩
  rw [Int.toNat_natCast, getD_mid h2]
  refine ⟨_, _, _, Blk.cellA kp 2, ⟨by omega, by omega⟩, (a3.rd (s.at P3)).ptr (by omega) (by omega) ?_⟩
  rw [ei2, getD_mid2 h2]
  have rp1 := a1.rd (s.at P1)
  have rp2 := a2.rd (s.at P2)
  refine ⟨_, _, _, kn0.cell 0, _, _, _, kp.cell 0, rp1.intA (by omega) (by omega) fun ax1 hax1 => ?_⟩
  rw [Int.toNat_natCast, m1]
  refine ⟨_, _, _, Blk.cellA kn0 1, _, _, _, Blk.cellA kp 1, rp2.intA (by omega) (by omega) fun ax2 hax2 => ?_⟩
  rw [Int.toNat_natCast, m2]
  -- the end, whatever came first
  have fin : ∀ (h' : Hp) (q1 q2 : Option Addr) (w1 w2 : Nat) (D1 D2 G : Bag), St h0 h' (nodeC n en.length kn.length l1 l2 l3 d1 d2 d3 + (D1 + (D2 + (L3 + (nodeC p (e1 ++ e :: e2).length (k1 ++ n :: r :: k2).length p1 p2 p3 c1 c2 c3 + (P1 + (P2 + P3)) + (nodeC r (x :: er).length kr.length r1 r2 r3 f1 f2 f3 + (R1 + (R2 + R3)) + (F + G))))))) →
      Sl TI q1 (en.length + 1) w1 (en.map Prod.fst ++ [e.1]) D1 → Sl TI q2 (en.length + 1) w2 (en.map Prod.snd ++ [e.2]) D2 →
      NN (some (⟨n, 0, none⟩ : Addr)) fun a => Wr h' a (.slice q1 (en.length + 1) w1) fun h1 => NN (some (⟨n, 0, none⟩ : Addr)) fun a => Wr h1 (a.add 1) (.slice q2 (en.length + 1) w2) fun h2 =>
      btree_fromRight_b1 (some ⟨p, 0, none⟩) (i : Int) (some ⟨n, 0, none⟩) (some ⟨r, 0, none⟩) h2 (fun v h' => v = .tuple #[] ∧ ∃ Bp Bn Br kn' kr', ((kr = [] ∧ kr' = [] ∧ kn' = []) ∨ ∃ z, kr = z :: kr' ∧ kn' = kn ++ [z]) ∧ NodeA p (e1 ++ x :: e2) (k1 ++ n :: r :: k2) Bp ∧ NodeA n (en ++ [e]) kn' Bn ∧ NodeA r er kr' Br ∧ St h0 h' (Bp + (Bn + (Br + F)))) := by
    intro h' q1 q2 w1 w2 D1 D2 G s' o1 o2
    refine wr2 s' fun h2 s2 => ?_
    have hel : en.length + 1 = (en ++ [e]).length := by simp
    have nn' : NodeA n (en ++ [e]) kn (nodeC n (en.length + 1) kn.length q1 q2 l3 w1 w2 d3 + (D1 + (D2 + L3))) := ⟨q1, q2, l3, w1, w2, d3, D1, D2, L3, by rw [hel], ⟨o1.cast hel (by simp), o2.cast hel (by simp), b3⟩⟩
    refine fromRight_b1_ok (F := F + G) s2.to np0 nn' nr0 h1 hs1 (by omega) hkr hkn hq fun h' Bp Bn Br kn' kr' hkk n1 n2 n3 s3 => ⟨rfl, Bp, Bn, Br, kn', kr', hkk, n1, n2, n3, ?_⟩
    exact (s3.to (B := G + (Bp + (Bn + (Br + F))))).drop
  refine ⟨?_, ?_⟩
  · refine s.new (cs := [.int .i64 e.1]) fun bx hx x1 s1 => ?_
    have ox : Sl TI (some ⟨bx, 0, none⟩) 1 1 [e.1] (cA bx [.int .i64 e.1] 3) := Sl.one rfl
    refine ⟨(rp2.ext x1).again hax2 (by omega) m2, ⟨_, _, _, Blk.cellA (kp.ext x1) 1, rfl⟩, ⟨_, _, _, Blk.cellA (kn0.ext x1) 1, rfl⟩, ⟨_, _, _, (kn0.ext x1).cell 0, rfl⟩, ?_, ?_⟩
    · refine append_sl ok_int (s1.at L1) b1 (ox.rd (s1.at (cA bx [.int .i64 e.1] 3))) (by omega) fun q1 w1 h2' D1 o1 s3 => ?_
      refine ⟨(a2.rd (s3.at P2)).again hax2 (by omega) m2, ⟨_, _, _, (s3.at (nodeC p (e1 ++ e :: e2).length (k1 ++ n :: r :: k2).length p1 p2 p3 c1 c2 c3)).cellA 1, rfl⟩, ⟨_, _, _, (s3.at (nodeC n en.length kn.length l1 l2 l3 d1 d2 d3)).cellA 1, rfl⟩, ?_⟩
      refine s3.new (cs := [.int .i64 e.2]) fun by_ h3' _ s4 => ?_
      have oy : Sl TI (some ⟨by_, 0, none⟩) 1 1 [e.2] (cA by_ [.int .i64 e.2] 3) := Sl.one rfl
      refine ⟨⟨_, _, _, (s4.at (nodeC n en.length kn.length l1 l2 l3 d1 d2 d3)).cellA 1, rfl⟩, ?_⟩
      refine append_sl ok_int (s4.at L2) b2 (oy.rd (s4.at (cA by_ [.int .i64 e.2] 3))) (by omega) fun q2 w2 h4' D2 o2 s6 => ?_
      exact fin h4' q1 q2 w1 w2 D1 D2 (cA bx [.int .i64 e.1] 3 + cA by_ [.int .i64 e.2] 3) s6.to o1 o2
    · refine s1.new (cs := [.int .i64 e.2]) fun by_ h3' x3 s4 => ?_
      have oy : Sl TI (some ⟨by_, 0, none⟩) 1 1 [e.2] (cA by_ [.int .i64 e.2] 3) := Sl.one rfl
      refine ⟨⟨_, _, _, Blk.cellA ((kn0.ext x1).ext x3) 1, rfl⟩, ⟨_, _, _, ((kn0.ext x1).ext x3).cell 0, rfl⟩, ?_⟩
      refine append_sl ok_int (s4.at L1) b1 (ox.rd (s4.at (cA bx [.int .i64 e.1] 3))) (by omega) fun q1 w1 h2' D1 o1 s3 => ?_
      refine ⟨⟨_, _, _, (s3.at (nodeC n en.length kn.length l1 l2 l3 d1 d2 d3)).cellA 1, rfl⟩, ?_⟩
      refine append_sl ok_int (s3.at L2) b2 (oy.rd (s3.at (cA by_ [.int .i64 e.2] 3))) (by omega) fun q2 w2 h4' D2 o2 s6 => ?_
      exact fin h4' q1 q2 w1 w2 D1 D2 (cA bx [.int .i64 e.1] 3 + cA by_ [.int .i64 e.2] 3) s6.to o1 o2
  · refine s.new (cs := [.int .i64 e.2]) fun by_ hx x1 s1 => ?_
    have oy : Sl TI (some ⟨by_, 0, none⟩) 1 1 [e.2] (cA by_ [.int .i64 e.2] 3) := Sl.one rfl
    refine ⟨⟨_, _, _, Blk.cellA (kn0.ext x1) 1, rfl⟩, (rp1.ext x1).again hax1 (by omega) m1, ⟨_, _, _, (kp.ext x1).cell 0, rfl⟩, ⟨_, _, _, (kn0.ext x1).cell 0, rfl⟩, ?_⟩
    refine s1.new (cs := [.int .i64 e.1]) fun bx h3' x3 s4 => ?_
    have ox : Sl TI (some ⟨bx, 0, none⟩) 1 1 [e.1] (cA bx [.int .i64 e.1] 3) := Sl.one rfl
    refine ⟨⟨_, _, _, Blk.cellA ((kn0.ext x1).ext x3) 1, rfl⟩, ⟨_, _, _, ((kn0.ext x1).ext x3).cell 0, rfl⟩, ?_⟩
    refine append_sl ok_int (s4.at L1) b1 (ox.rd (s4.at (cA bx [.int .i64 e.1] 3))) (by omega) fun q1 w1 h2' D1 o1 s3 => ?_
    refine ⟨⟨_, _, _, (s3.at (nodeC n en.length kn.length l1 l2 l3 d1 d2 d3)).cellA 1, rfl⟩, ?_⟩
    refine append_sl ok_int (s3.at L2) b2 (oy.rd (s3.at (cA by_ [.int .i64 e.2] 3))) (by omega) fun q2 w2 h4' D2 o2 s6 => ?_
    exact fin h4' q1 q2 w1 w2 D1 D2 (cA bx [.int .i64 e.1] 3 + cA by_ [.int .i64 e.2] 3) s6.to o1 o2
end Go.Proofs.Ytaemnjblcpknpaa

/- B-trees: neighbouring subtrees. -/
set_option maxRecDepth 100000
namespace Go.Proofs.Ytaemnjblcpknpaa
open Go Go.Sx
def Kids : Nat → List Nat → BT → Bag → Prop
  | 0, ks, t, A => ks = [] ∧ t.ts = [] ∧ A = 0
  | m + 1, ks, t, A => ks.length = t.es.length + 1 ∧ AllH (Hold m) ks t.ts A
theorem Hold.open_ {m b : Nat} {t : BT} {A : Bag} (h : Hold m b t A) : ∃ ks A1 A2, A = A1 + A2 ∧ NodeA b t.es ks A1 ∧ Kids m ks t A2 := by
  cases m with
  | zero => exact ⟨[], A, 0, (Bag.add_zero A).symm, h.2, rfl, h.1, rfl⟩
  | succ m =>
    obtain ⟨ks, A1, A2, e, h1, h2, h3⟩ := h
    exact ⟨ks, A1, A2, e, h1, h2, h3⟩
theorem Kids.close {m b : Nat} {t : BT} {ks : List Nat} {A1 A2 : Bag} (k : Kids m ks t A2) (n : NodeA b t.es ks A1) : Hold m b t (A1 + A2) := by
  cases m with
  | zero =>
    obtain ⟨rfl, h1, rfl⟩ := k
    exact ⟨h1, by rw [Bag.add_zero]; exact n⟩
  | succ m => exact ⟨ks, A1, A2, rfl, n, k.1, k.2⟩
theorem Kids.nil_iff {m : Nat} {t : BT} {ks : List Nat} {A : Bag} (k : Kids m ks t A) : ks = [] ↔ m = 0 := by
  cases m with
  | zero => exact ⟨fun _ => rfl, fun _ => k.1⟩
  | succ m => exact ⟨fun h => (by have := k.1; rw [h] at this; simp at this), fun h => by omega⟩
theorem Kids.len {m : Nat} {t : BT} {ks : List Nat} {A : Bag} (k : Kids m ks t A) : ks = [] ∨ ks.length = t.es.length + 1 := by
  cases m with
  | zero => exact .inl k.1
  | succ m => exact .inr k.1
theorem Kids.le {m : Nat} {t : BT} {ks : List Nat} {A : Bag} (k : Kids m ks t A) : ks.length ≤ t.es.length + 1 := by
  rcases k.len with h | h
  · rw [h]; simp
  · omega
theorem Kids.ts {m : Nat} {t : BT} {ks : List Nat} {A : Bag} (k : Kids m ks t A) : t.ts.length = ks.length := by
  cases m with
  | zero => rw [k.1, k.2.1]; rfl
  | succ m => exact k.2.len.symm
/-! ### one node of two -/
def mg (a : BT) (e : E) (b : BT) : BT := .nd (a.es ++ e :: b.es) (a.ts ++ b.ts)
theorem Kids.mg {m : Nat} {a b : BT} {e : E} {ka kb : List Nat} {A B : Bag} (ha : Kids m ka a A) (hb : Kids m kb b B) : Kids m (ka ++ kb) (mg a e b) (A + B) := by
  cases m with
  | zero =>
    obtain ⟨rfl, h1, rfl⟩ := ha
    obtain ⟨rfl, h2, rfl⟩ := hb
    exact ⟨rfl, by show a.ts ++ b.ts = []; rw [h1, h2]; rfl, Bag.add_zero 0⟩
  | succ m =>
    refine ⟨?_, ha.2.append hb.2⟩
    show (ka ++ kb).length = (a.es ++ e :: b.es).length + 1
    simp [ha.1, hb.1]; omega
theorem flat_mg {m : Nat} {a b : BT} {e : E} {ka kb : List Nat} {A B : Bag} (ha : Kids m ka a A) (hb : Kids m kb b B) : flat m (mg a e b) = flat m a ++ e :: flat m b := by
  cases m with
  | zero => rfl
  | succ m =>
    show weave ((a.ts ++ b.ts).map (flat m)) (a.es ++ e :: b.es) = _
    rw [List.map_append, weave_cut _ _ _ _ _ (by rw [List.length_map, ha.ts, ha.1]) (by rw [List.length_map, hb.ts, hb.1])]
    rfl
theorem Sz.mg {lo hi m : Nat} {a b : BT} {e : E} (ha : ∀ m', m = m' + 1 → ∀ c ∈ a.ts, Sz lo hi m' c) (hb : ∀ m', m = m' + 1 → ∀ c ∈ b.ts, Sz lo hi m' c) (h1 : lo ≤ a.es.length + 1 + b.es.length) (h2 : a.es.length + 1 + b.es.length ≤ hi) : Sz lo hi m (mg a e b) := by
  have hl : (Go.Proofs.Ytaemnjblcpknpaa.mg a e b).es.length = a.es.length + 1 + b.es.length := by show (a.es ++ e :: b.es).length = _; simp; omega
  cases m with
  | zero => exact ⟨by rw [hl]; exact h1, by rw [hl]; exact h2⟩
  | succ m =>
    refine ⟨⟨by rw [hl]; exact h1, by rw [hl]; exact h2⟩, fun c hc => ?_⟩
    rcases List.mem_append.1 hc with h | h
    · exact ha m rfl c h
    · exact hb m rfl c h
/-! ### an entry from the left -/
theorem left_trees {lo hi m : Nat} {a b : BT} {e x : E} {ea : List E} {ka kb ka' kb' : List Nat} {A B : Bag} (hae : a.es = ea ++ [x]) (ha : Kids m ka a A) (hb : Kids m kb b B) (hk : (ka = [] ∧ ka' = [] ∧ kb' = []) ∨ ∃ z, ka = ka' ++ [z] ∧ kb' = z :: kb)
    (sa : ∀ m', m = m' + 1 → ∀ c ∈ a.ts, Sz lo hi m' c) (sb : ∀ m', m = m' + 1 → ∀ c ∈ b.ts, Sz lo hi m' c) :
    ∃ a' b' A' B', A + B = A' + B' ∧ a'.es = ea ∧ b'.es = e :: b.es ∧ Kids m ka' a' A' ∧ Kids m kb' b' B' ∧ flat m a ++ e :: flat m b = flat m a' ++ x :: flat m b' ∧ (∀ m', m = m' + 1 → ∀ c ∈ a'.ts, Sz lo hi m' c) ∧ (∀ m', m = m' + 1 → ∀ c ∈ b'.ts, Sz lo hi m' c) := by
  cases m with
  | zero =>
    obtain ⟨h1, h2, rfl⟩ := ha
    obtain ⟨h3, h4, rfl⟩ := hb
    rcases hk with ⟨_, rfl, rfl⟩ | ⟨z, h, _⟩
    · refine ⟨.nd ea [], .nd (e :: b.es) [], 0, 0, rfl, rfl, rfl, ⟨rfl, rfl, rfl⟩, ⟨rfl, rfl, rfl⟩, ?_, fun m' h => by omega, fun m' h => by omega⟩
      show a.es ++ e :: b.es = ea ++ x :: (e :: b.es)
      rw [hae]; simp
    · rw [h1] at h; simp at h
  | succ m =>
    have ha1 := ha.1
    have hb1 := hb.1
    rcases hk with ⟨h, _, _⟩ | ⟨z, rfl, rfl⟩
    · rw [h] at ha1; simp at ha1
    have hts := ha.ts
    obtain ⟨ta, tz, hta⟩ : ∃ ta tz, a.ts = ta ++ [tz] := by
      rcases List.eq_nil_or_concat a.ts with h | ⟨ta, tz, h⟩
      · rw [h] at hts; simp at hts
      · exact ⟨ta, tz, by simpa using h⟩
    have hlen : ka'.length = ta.length := by rw [hta] at hts; simpa using hts.symm
    have hall := ha.2
    rw [hta] at hall
    obtain ⟨A1, A2, rfl, g1, g2⟩ := AllH.split _ _ hlen hall
    obtain ⟨A3, A4, rfl, g3, g4⟩ := g2
    obtain rfl : A4 = 0 := g4
    rw [hae] at ha1
    refine ⟨.nd ea ta, .nd (e :: b.es) (tz :: b.ts), A1, A3 + B, by ac_rfl, rfl, rfl, ⟨?_, g1⟩, ⟨?_, A3, B, rfl, g3, hb.2⟩, ?_, fun m' h c hc => ?_, fun m' h c hc => ?_⟩
    · show ka'.length = ea.length + 1
      simpa using ha1
    · show (z :: kb).length = (e :: b.es).length + 1
      simp [hb1]
    · show weave (a.ts.map (flat m)) a.es ++ e :: weave (b.ts.map (flat m)) b.es = weave (ta.map (flat m)) ea ++ x :: weave ((tz :: b.ts).map (flat m)) (e :: b.es)
      have hcut := weave_cut (ta.map (flat m)) ea x [flat m tz] [] (by rw [List.length_map, ← hlen]; simpa using ha1) rfl
      have hcut2 := weave_cut [flat m tz] [] e (b.ts.map (flat m)) b.es rfl (by rw [List.length_map, hb.ts, hb1])
      rw [hae, hta, List.map_append, List.map_cons, List.map_nil, hcut, List.append_assoc]
      congr 1
      rw [List.map_cons, List.cons_append]
      congr 1
      exact hcut2.symm
    · obtain rfl : m = m' := by omega
      exact sa m rfl c (by rw [hta]; exact List.mem_append_left _ hc)
    · obtain rfl : m = m' := by omega
      rcases List.mem_cons.1 hc with rfl | hc
      · exact sa m rfl c (by rw [hta]; simp)
      · exact sb m rfl c hc
/-! ### an entry from the right -/
theorem right_trees {lo hi m : Nat} {a b : BT} {e x : E} {eb : List E} {ka kb ka' kb' : List Nat} {A B : Bag} (hbe : b.es = x :: eb) (ha : Kids m ka a A) (hb : Kids m kb b B) (hk : (kb = [] ∧ kb' = [] ∧ ka' = []) ∨ ∃ z, kb = z :: kb' ∧ ka' = ka ++ [z])
    (sa : ∀ m', m = m' + 1 → ∀ c ∈ a.ts, Sz lo hi m' c) (sb : ∀ m', m = m' + 1 → ∀ c ∈ b.ts, Sz lo hi m' c) :
    ∃ a' b' A' B', A + B = A' + B' ∧ a'.es = a.es ++ [e] ∧ b'.es = eb ∧ Kids m ka' a' A' ∧ Kids m kb' b' B' ∧ flat m a ++ e :: flat m b = flat m a' ++ x :: flat m b' ∧ (∀ m', m = m' + 1 → ∀ c ∈ a'.ts, Sz lo hi m' c) ∧ (∀ m', m = m' + 1 → ∀ c ∈ b'.ts, Sz lo hi m' c) := by
  cases m with
  | zero =>
    obtain ⟨h1, h2, rfl⟩ := ha
    obtain ⟨h3, h4, rfl⟩ := hb
    rcases hk with ⟨_, rfl, rfl⟩ | ⟨z, h, _⟩
    · refine ⟨.nd (a.es ++ [e]) [], .nd eb [], 0, 0, rfl, rfl, rfl, ⟨rfl, rfl, rfl⟩, ⟨rfl, rfl, rfl⟩, ?_, fun m' h => by omega, fun m' h => by omega⟩
      show a.es ++ e :: b.es = (a.es ++ [e]) ++ x :: eb
      rw [hbe]; simp
    · rw [h3] at h; simp at h
  | succ m =>
    have ha1 := ha.1
    have hb1 := hb.1
    rcases hk with ⟨h, _, _⟩ | ⟨z, rfl, rfl⟩
    · rw [h] at hb1; simp at hb1
    have hts := hb.ts
    obtain ⟨tz, tb, htb⟩ : ∃ tz tb, b.ts = tz :: tb := by
      cases h : b.ts with
      | nil => rw [h] at hts; simp at hts
      | cons tz tb => exact ⟨tz, tb, rfl⟩
    have hall := hb.2
    rw [htb] at hall
    obtain ⟨A1, A2, rfl, g1, g2⟩ := hall
    have hlen := g2.len
    rw [hbe] at hb1
    refine ⟨.nd (a.es ++ [e]) (a.ts ++ [tz]), .nd eb tb, A + A1, A2, by ac_rfl, rfl, rfl, ⟨?_, ha.2.append (AllH.one g1)⟩, ⟨?_, g2⟩, ?_, fun m' h c hc => ?_, fun m' h c hc => ?_⟩
    · show (ka ++ [z]).length = (a.es ++ [e]).length + 1
      simp [ha1]
    · show kb'.length = eb.length + 1
      simpa using hb1
    · show weave (a.ts.map (flat m)) a.es ++ e :: weave (b.ts.map (flat m)) b.es = weave ((a.ts ++ [tz]).map (flat m)) (a.es ++ [e]) ++ x :: weave (tb.map (flat m)) eb
      have hcut := weave_cut (a.ts.map (flat m)) a.es e [flat m tz] [] (by rw [List.length_map, ha.ts, ha1]) rfl
      have hcut2 := weave_cut [flat m tz] [] x (tb.map (flat m)) eb rfl (by rw [List.length_map, ← hlen]; simpa using hb1)
      rw [List.map_append, List.map_cons, List.map_nil, hcut, hbe, htb, List.append_assoc]
      congr 1
      rw [List.cons_append]
      congr 1
    · obtain rfl : m = m' := by omega
      rcases List.mem_append.1 hc with hc | hc
      · exact sa m rfl c hc
      · simp at hc; subst hc; exact sb m rfl _ (by rw [htb]; simp)
    · obtain rfl : m = m' := by omega
      exact sb m rfl c (by rw [htb]; exact List.mem_cons_of_mem _ hc)
/-- The number of entries, and those of the children. -/
theorem Sz.of {lo hi m : Nat} {t : BT} (h : lo ≤ t.es.length ∧ t.es.length ≤ hi) (hk : ∀ m', m = m' + 1 → ∀ c ∈ t.ts, Sz lo hi m' c) : Sz lo hi m t := by
  cases m with
  | zero => exact h
  | succ m => exact ⟨h, hk m rfl⟩
theorem Sz.kids {lo hi m : Nat} {t : BT} (h : Sz lo hi m t) : ∀ m', m = m' + 1 → ∀ c ∈ t.ts, Sz lo hi m' c := by
  intro m' hm c hc
  subst hm
  exact h.2 c hc
end Go.Proofs.Ytaemnjblcpknpaa

/- B-trees: nodes with too few entries are mended. -/
set_option maxRecDepth 100000
namespace Go.Proofs.Ytaemnjblcpknpaa
open Go Go.Sx
section
variable {h0 : Hp} {order tb : Nat} {target : List E}
/-- The root of the tree, which may have no entry left. -/
theorem shrink_b3_ok {h : Hp} {n root : Nat} {t : BT} {vis : Int} {A F : Bag} {K : Value → Hp → Prop} (hor : 3 ≤ order) (hh : Hold n root t A) (hf : flat n t = target) (hle : t.es.length ≤ order - 1) (hz : ∀ m, n = m + 1 → ∀ c ∈ t.ts, Sz ((order + 1) / 2 - 1) (order - 1) m c)
    (s : St h0 h (treeC tb order target.length (some ⟨root, 0, none⟩) vis + (A + F))) (hk : ∀ h' A', TreeA order target tb vis A' → St h0 h' (A' + F) → K (.tuple #[]) h') :
    btree_Tree_shrink_b3 (some ⟨tb, 0, none⟩) h K := by
  rw [btree_Tree_shrink_b3_eq]
  have sA : St h0 h (A + (treeC tb order target.length (some ⟨root, 0, none⟩) vis + F)) := s.to
  obtain ⟨p1, p2, p3, c1, c2, c3, m3, kb, _, _, hleaf⟩ := hh.read sA
  refine ⟨_, s.cellA 2, _, _, _, kb.cell 0, condP (fun h1 => ?_) (fun h1 => ?_)⟩
  · have he : t.es = [] := List.eq_nil_of_length_eq_zero (by omega)
    refine ⟨_, s.cellA 2, hleaf.mono fun v h2 ⟨hh2, hv⟩ => ?_⟩
    subst hh2
    refine ⟨_, hv, condP (fun hn0 => ?_) (fun hn0 => ?_)⟩
    · subst hn0
      refine s.wr (o := 2) (add_mk _ _ _) (by simp) fun h3 s3 => ?_
      have ht : target = [] := by rw [← hf]; exact he
      subst ht
      exact hk h3 _ (.inl ⟨rfl, rfl⟩) ((show St h0 h3 (treeC tb order 0 none vis + (A + F)) from s3).to (B := A + (treeC tb order 0 none vis + F))).drop
    · obtain ⟨m, rfl⟩ : ∃ m, n = m + 1 := ⟨n - 1, by omega⟩
      obtain ⟨ks, A1, A2, rfl, hna, hkl, hall⟩ := hh
      rw [he] at hkl
      obtain ⟨k, rfl⟩ := List.length_eq_one_iff.1 (show ks.length = 1 from hkl)
      have hlt := hall.len
      obtain ⟨c, hc⟩ := List.length_eq_one_iff.1 (show t.ts.length = 1 from hlt.symm)
      rw [hc] at hall
      obtain ⟨B1, B2, rfl, g1, g2⟩ := hall
      obtain rfl : B2 = 0 := g2
      obtain ⟨q1, q2, q3, d1, d2, d3, C1, C2, C3, rfl, ns⟩ := hna
      refine ⟨_, s.cellA 2, _, _, _, (s.at (nodeC root t.es.length [k].length q1 q2 q3 d1 d2 d3)).cellA 2, (ns.s3.rd (s.at C3)).ptr (by omega) (by simp) ?_⟩
      refine s.wr (o := 2) (add_mk _ _ _) (by simp) fun h3 s3 => ?_
      have s3 : St h0 h3 (treeC tb order target.length (some ⟨k, 0, none⟩) vis + (nodeC root t.es.length [k].length q1 q2 q3 d1 d2 d3 + (C1 + (C2 + C3)) + (B1 + 0) + F)) := s3
      have hfc : flat m c = target := by
        rw [← hf]
        show _ = weave (t.ts.map (flat m)) t.es
        rw [hc, he]
        simp [weave, wR]
      refine hk h3 _ (.inr ⟨m, k, c, B1, rfl, g1, hfc, ?_⟩) (s3.to (B := (nodeC root t.es.length [k].length q1 q2 q3 d1 d2 d3 + (C1 + (C2 + C3))) + (treeC tb order target.length (some ⟨k, 0, none⟩) vis + B1 + F))).drop
      have hzc := hz m rfl c (by rw [hc]; simp)
      cases m with
      | zero =>
        have : (order + 1) / 2 - 1 ≤ c.es.length ∧ c.es.length ≤ order - 1 := hzc
        exact ⟨by omega, this.2⟩
      | succ m => exact ⟨⟨by have := hzc.1.1; omega, hzc.1.2⟩, hzc.2⟩
  · refine hk h _ (.inr ⟨n, root, t, A, rfl, hh, hf, ?_⟩) s.to
    cases n with
    | zero => exact ⟨by omega, hle⟩
    | succ n => exact ⟨⟨by omega, hle⟩, hz n rfl⟩
end
/-- A node on a way that may have one entry too few. -/
def ShrS (h0 : Hp) (order n len root tb : Nat) (target : List E) (N : List Nat) (I : List Int) (B F : Bag) (d : Int) (vis : Int) (h : Hp) : Prop :=
  ∃ m fs k U Ac Au N' I', d = (fs.length : Int) ∧ N = blks fs ++ k :: N' ∧ I = idxs fs ++ I' ∧ HoldC root m fs k Ac ∧ Hold m k U Au ∧ St h0 h (treeC tb order len (some ⟨root, 0, none⟩) vis + (Ac + (Au + (B + F)))) ∧
    Lb m fs ++ (flat m U ++ Rb m fs) = target ∧ SzC ((order + 1) / 2 - 1) (order - 1) m fs ∧ (lo' ((order + 1) / 2 - 1) fs ≤ U.es.length + 1 ∧ U.es.length ≤ order - 1) ∧ (∀ m', m = m' + 1 → ∀ c ∈ U.ts, Sz ((order + 1) / 2 - 1) (order - 1) m' c) ∧ m + fs.length = n
/-- The same number of entries in the node above: the tree is whole again. -/
theorem whole {order n m k root : Nat} {fs : List Fr} {T : BT} {Ac A : Bag} {target : List E} (hc : HoldC root m fs k Ac) (hu : Hold m k T A) (hf : Lb m fs ++ (flat m T ++ Rb m fs) = target) (sc : SzC ((order + 1) / 2 - 1) (order - 1) m fs) (hT : lo' ((order + 1) / 2 - 1) fs ≤ T.es.length ∧ T.es.length ≤ order - 1) (hk : ∀ m', m = m' + 1 → ∀ c ∈ T.ts, Sz ((order + 1) / 2 - 1) (order - 1) m' c) (hn : m + fs.length = n) :
    Hold n root (plug fs T) (Ac + A) ∧ flat n (plug fs T) = target ∧ SzR ((order + 1) / 2 - 1) (order - 1) n (plug fs T) := by
  subst hn
  exact ⟨hc.plug hu, by rw [flat_plug T hc.ok]; exact hf, sc.plug ⟨hT, hk⟩⟩
end Go.Proofs.Ytaemnjblcpknpaa

/- B-trees: one step of mending. -/
set_option maxRecDepth 100000
namespace Go.Proofs.Ytaemnjblcpknpaa
open Go Go.Sx
theorem HoldF.left {m k : Nat} {f : Fr} {A : Bag} {eL' : List E} {e : E} (hf : HoldF m f k A) (he : f.eL = eL' ++ [e]) : ∃ kL' l tL' tl Ap B1 Al B2, A = Ap + (B1 + (Al + B2)) ∧ f.tL = tL' ++ [tl] ∧ kL'.length = eL'.length ∧ tL'.length = eL'.length ∧ f.tR.length = f.eR.length ∧
    f.kL = kL' ++ [l] ∧ NodeA f.b (eL' ++ e :: f.eR) (kL' ++ l :: k :: f.kR) Ap ∧ AllH (Hold m) kL' tL' B1 ∧ Hold m l tl Al ∧ AllH (Hold m) f.kR f.tR B2 := by
  obtain ⟨l1, l2, A1, A2, A3, rfl, hn, h1, h2⟩ := hf
  rw [he] at l1 hn
  simp only [List.length_append, List.length_cons, List.length_nil] at l1
  obtain ⟨tL', tl, htl⟩ : ∃ a x, f.tL = a ++ [x] := by
    rcases List.eq_nil_or_concat f.tL with h | ⟨a, x, h⟩
    · rw [h] at l1; simp at l1
    · exact ⟨a, x, by simpa using h⟩
  have hkl := h1.len
  obtain ⟨kL', l, hkl'⟩ : ∃ a x, f.kL = a ++ [x] := by
    rcases List.eq_nil_or_concat f.kL with h | ⟨a, x, h⟩
    · rw [h] at hkl; rw [htl] at hkl; simp at hkl
    · exact ⟨a, x, by simpa using h⟩
  rw [htl] at l1 hkl
  rw [hkl'] at hkl
  simp at l1 hkl
  rw [hkl', htl] at h1
  obtain ⟨B1, C, rfl, g1, g2⟩ := AllH.split kL' tL' (by omega) h1
  obtain ⟨Al, Z, rfl, g3, g4⟩ := g2
  obtain rfl : Z = 0 := g4
  refine ⟨kL', l, tL', tl, A1, B1, Al, A3, by ac_rfl, htl, by omega, by omega, l2, hkl', ?_, g1, g3, h2⟩
  rw [hkl'] at hn
  simpa using hn
theorem HoldF.right {m k : Nat} {f : Fr} {A : Bag} {eR' : List E} {e : E} (hf : HoldF m f k A) (he : f.eR = e :: eR') : ∃ r kR' tr tR' Ap B1 Ar B2, A = Ap + (B1 + (Ar + B2)) ∧ f.tR = tr :: tR' ∧ f.kL.length = f.eL.length ∧ f.tL.length = f.eL.length ∧ tR'.length = eR'.length ∧
    f.kR = r :: kR' ∧ NodeA f.b (f.eL ++ e :: eR') (f.kL ++ k :: r :: kR') Ap ∧ AllH (Hold m) f.kL f.tL B1 ∧ Hold m r tr Ar ∧ AllH (Hold m) kR' tR' B2 := by
  obtain ⟨l1, l2, A1, A2, A3, rfl, hn, h1, h2⟩ := hf
  rw [he] at l2 hn
  have hkl := h1.len
  have hkr := h2.len
  obtain ⟨tr, tR', htr⟩ : ∃ x a, f.tR = x :: a := by
    cases h : f.tR with
    | nil => rw [h] at l2; simp at l2
    | cons x a => exact ⟨x, a, rfl⟩
  obtain ⟨r, kR', hkr'⟩ : ∃ x a, f.kR = x :: a := by
    cases h : f.kR with
    | nil => rw [h, htr] at hkr; simp at hkr
    | cons x a => exact ⟨x, a, rfl⟩
  rw [htr] at l2
  simp at l2
  rw [htr, hkr'] at h2
  obtain ⟨Ar, B2, rfl, g1, g2⟩ := h2
  refine ⟨r, kR', tr, tR', A1, A2, Ar, B2, rfl, htr, by omega, l1, by omega, hkr', ?_, h1, g1, g2⟩
  rw [hkr'] at hn
  exact hn
theorem flat_two {m : Nat} {eL eR : List E} {e : E} {tL tR : List BT} {a b : BT} (h1 : tL.length = eL.length) : flat (m + 1) (.nd (eL ++ e :: eR) (tL ++ a :: b :: tR)) = wL (tL.map (flat m)) eL ++ ((flat m a ++ e :: flat m b) ++ wR eR (tR.map (flat m))) := by
  show weave ((tL ++ a :: b :: tR).map (flat m)) (eL ++ e :: eR) = _
  rw [List.map_append, List.map_cons, weave_at _ _ _ _ _ (by simpa using h1)]
  simp [wR]
theorem flat_one {m : Nat} {eL eR : List E} {tL tR : List BT} {a : BT} (h1 : tL.length = eL.length) : flat (m + 1) (.nd (eL ++ eR) (tL ++ a :: tR)) = wL (tL.map (flat m)) eL ++ (flat m a ++ wR eR (tR.map (flat m))) := by
  show weave ((tL ++ a :: tR).map (flat m)) (eL ++ eR) = _
  rw [List.map_append, List.map_cons, weave_at _ _ _ _ _ (by simpa using h1)]
theorem blks_cons (f : Fr) (fs : List Fr) (N : List Nat) : blks (f :: fs) ++ N = blks fs ++ f.b :: N := by simp [blks]
theorem idxs_cons (f : Fr) (fs : List Fr) (I : List Int) : idxs (f :: fs) ++ I = idxs fs ++ (f.eL.length : Int) :: I := by simp [idxs]
section
variable {h0 : Hp} {order n len root tb : Nat} {target : List E} {N : List Nat} {I : List Int} {B F : Bag} {nodes atv : Option Addr} {nC aC : Nat} {nx0 : Int × Unit → Hp → Prop} {K : Value → Hp → Prop}
/-- The nodes are merged. -/
theorem shrink_b5_ok {h : Hp} {vis : Int} {m k : Nat} {f : Fr} {fs : List Fr} {U : BT} {Af Ac Au : Bag} {N' : List Nat} {I' : List Int} (hor : 3 ≤ order) (h64 : order ≤ 64) (hfs : fs.length ≤ 1000)
    (hN : N = blks fs ++ f.b :: N') (hI : I = idxs fs ++ I') (hF : HoldF m f k Af) (hC : HoldC root (m + 1) fs f.b Ac) (hu : Hold m k U Au)
    (s : St h0 h (treeC tb order len (some ⟨root, 0, none⟩) vis + (Af + (Ac + (Au + (B + F)))))) (hf : Lb (m + 1) fs ++ (flat (m + 1) (fill f U) ++ Rb (m + 1) fs) = target) (sc : SzC ((order + 1) / 2 - 1) (order - 1) m (f :: fs))
    (hU : U.es.length + 1 = (order + 1) / 2 - 1) (hk : ∀ m', m = m' + 1 → ∀ c ∈ U.ts, Sz ((order + 1) / 2 - 1) (order - 1) m' c) (hn : m + 1 + fs.length = n)
    (hL : ∀ t ∈ f.tL.getLast?, t.es.length ≤ (order + 1) / 2 - 1) (hR : f.eL = [] → ∀ t ∈ f.tR.head?, t.es.length ≤ (order + 1) / 2 - 1)
    (hnx : ∀ h', ShrS h0 order n len root tb target N I B F (fs.length : Int) vis h' → nx0 ((fs.length : Int), ()) h') :
    btree_Tree_shrink_b5 (some ⟨tb, 0, none⟩) nodes N.length nC atv I.length aC ((fs.length : Int) + 1) (((order + 1) / 2 - 1 : Nat) : Int) (some ⟨f.b, 0, none⟩) (f.eL.length : Int) h nx0 K := by
  rw [btree_Tree_shrink_b5_eq]
  have hes := sc.1
  have hes2 : (f.eL ++ f.eR).length ≤ order - 1 := hes.2
  have hles : (f.eL ++ f.eR).length = f.eL.length + f.eR.length := List.length_append
  have hlo1 : 1 ≤ (match fs with | [] => 1 | _ => (order + 1) / 2 - 1) := by cases fs <;> simp <;> omega
  refine ⟨⟨by omega, by omega⟩, ?_⟩
  have b6 : ∀ h', ShrS h0 order n len root tb target N I B F (fs.length : Int) vis h' → btree_Tree_shrink_b6 (some ⟨tb, 0, none⟩) nodes N.length nC atv I.length aC ((fs.length : Int) + 1) (((order + 1) / 2 - 1 : Nat) : Int) h' nx0 K := by
    intro h' hs
    rw [btree_Tree_shrink_b6_eq]
    refine ⟨⟨by omega, by omega⟩, ?_⟩
    rw [show (fs.length : Int) + 1 - 1 = (fs.length : Int) by omega]
    exact hnx h' hs
  have szU := Sz.of (lo := U.es.length) (hi := order - 1) (m := 0) (t := U)
  rcases List.eq_nil_or_concat f.eL with h0' | ⟨eL', e, heL⟩
  · -- with the right one
    obtain ⟨e, eR', heR⟩ : ∃ e eR', f.eR = e :: eR' := by
      cases h : f.eR with
      | nil =>
        have h9 := Nat.le_trans hlo1 hes.1
        rw [hles, h0', h] at h9
        exact absurd h9 (by decide)
      | cons e eR' => exact ⟨e, eR', rfl⟩
    obtain ⟨r, kR', tr, tR', Ap, B1, Ar, B2, rfl, htR, q1, q2, q3, hkR, hnp, g1, g2, g3⟩ := hF.right heR
    have htr := hR h0' tr (by rw [htR]; rfl)
    have hsr : Sz ((order + 1) / 2 - 1) (order - 1) m tr := sc.2.2.1 tr (by rw [htR]; simp)
    have hsrh := hsr.here
    rw [h0'] at q1 q2
    have hkL0 : f.kL = [] := List.eq_nil_of_length_eq_zero q1
    have htL0 : f.tL = [] := List.eq_nil_of_length_eq_zero q2
    rw [hkL0, htL0] at g1
    obtain rfl : B1 = 0 := g1
    rw [h0', hkL0] at hnp
    rw [h0']
    have e0 : (if 0 < (([] : List E).length : Int) - 1 then (([] : List E).length : Int) - 1 else 0) = ((0 : Nat) : Int) := by simp
    rw [e0]
    obtain ⟨ku, U1, U2, rfl, nu, cu⟩ := hu.open_
    obtain ⟨kr, R1, R2, rfl, nr, cr⟩ := g2.open_
    have g3l := g3.len
    have hesr : ((([] : List E) ++ e :: eR')).length ≤ order - 1 := by rw [← heR, ← h0']; exact hes.2
    simp only [List.nil_append, List.length_cons] at hesr
    have cul := cu.le
    have crl := cr.le
    have s1 : St h0 h (Ap + (U1 + (R1 + (U2 + (R2 + (B2 + (treeC tb order len (some ⟨root, 0, none⟩) vis + (Ac + (B + F)))))))) ) := s.to
    refine (merge_ok (i := 0) s1 hnp nu nr rfl rfl (by simp; omega) (by omega) (by omega) (by simp; omega) (by omega) (by omega)).mono fun v h' ⟨hv, Bp, Bl, n1, n2, s2⟩ => ⟨hv, b6 h' ?_⟩
    have hmg := (cu.mg (e := e) cr)
    have hh : Hold m k (mg U e tr) (Bl + (U2 + R2)) := hmg.close n2
    refine ⟨m + 1, fs, f.b, .nd eR' (mg U e tr :: tR'), Ac, Bp + (Bl + (U2 + R2) + B2), N', I', rfl, hN, hI, hC, ⟨k :: kR', Bp, _, rfl, n1, ?_, ⟨_, _, rfl, hh, g3⟩⟩, s2.to, ?_, sc.2.2.2, ⟨?_, ?_⟩, ?_, hn⟩
    · show (k :: kR').length = eR'.length + 1
      simp; omega
    · rw [← hf]
      congr 2
      have t1 := flat_two (m := m) (eL := []) (eR := eR') (e := e) (tL := []) (tR := tR') (a := U) (b := tr) rfl
      have t2 := flat_one (m := m) (eL := []) (eR := eR') (tL := []) (tR := tR') (a := mg U e tr) rfl
      rw [flat_mg cu cr] at t2
      have hfill : fill f U = .nd ([] ++ e :: eR') ([] ++ U :: tr :: tR') := by rw [fill, h0', heR, htL0, htR]
      rw [hfill, t1]
      exact t2
    · have := sc.1.1
      rw [hles, h0', heR] at this
      simp only [List.length_nil, List.length_cons] at this
      show lo' _ fs ≤ eR'.length + 1
      cases fs <;> simp only [lo'] at this ⊢ <;> omega
    · show eR'.length ≤ _
      omega
    · intro m' hm' c hc
      obtain rfl : m = m' := by omega
      rcases List.mem_cons.1 hc with rfl | hc
      · exact Sz.mg hk hsr.kids (by omega) (by omega)
      · exact sc.2.2.1 c (by rw [htR]; simp [hc])
  · -- with the left one
    have heL : f.eL = eL' ++ [e] := by simpa using heL
    obtain ⟨kL', l, tL', tl, Ap, B1, Al, B2, rfl, htL, q1, q2, q3, hkL, hnp, g1, g2, g3⟩ := hF.left heL
    have htl := hL tl (by rw [htL]; simp)
    have hsl : Sz ((order + 1) / 2 - 1) (order - 1) m tl := sc.2.1 tl (by rw [htL]; simp)
    have hslh := hsl.here
    have el : (f.eL.length : Int) = (eL'.length : Int) + 1 := by rw [heL]; simp
    have e0 : (if 0 < (f.eL.length : Int) - 1 then (f.eL.length : Int) - 1 else 0) = ((eL'.length : Nat) : Int) := by
      rw [el]; split <;> omega
    rw [e0]
    obtain ⟨ku, U1, U2, rfl, nu, cu⟩ := hu.open_
    obtain ⟨kl, R1, R2, rfl, nl, cl⟩ := g2.open_
    have g3l := g3.len
    have hesr : (eL' ++ e :: f.eR).length ≤ order - 1 := by have := hes.2; rw [heL] at this; simpa using this
    have hesr' := hesr
    simp only [List.length_append, List.length_cons] at hesr'
    have cul := cu.le
    have cll := cl.le
    have s1 : St h0 h (Ap + (R1 + (U1 + (R2 + (U2 + (B1 + (B2 + (treeC tb order len (some ⟨root, 0, none⟩) vis + (Ac + (B + F))))))))) ) := s.to
    refine (merge_ok (i := eL'.length) s1 hnp nl nu rfl q1 (by omega) (by omega) (by omega) (by simp; omega) (by omega) (by omega)).mono fun v h' ⟨hv, Bp, Bl, n1, n2, s2⟩ => ⟨hv, b6 h' ?_⟩
    have hmg := (cl.mg (e := e) cu)
    have hh : Hold m l (mg tl e U) (Bl + (R2 + U2)) := hmg.close n2
    refine ⟨m + 1, fs, f.b, .nd (eL' ++ f.eR) (tL' ++ mg tl e U :: f.tR), Ac, Bp + (B1 + (Bl + (R2 + U2) + B2)), N', I', rfl, hN, hI, hC, ⟨kL' ++ l :: f.kR, Bp, _, rfl, n1, ?_, g1.append ⟨_, _, rfl, hh, g3⟩⟩, s2.to, ?_, sc.2.2.2, ⟨?_, ?_⟩, ?_, hn⟩
    · show (kL' ++ l :: f.kR).length = (eL' ++ f.eR).length + 1
      simp; omega
    · rw [← hf]
      congr 2
      have t1 := flat_two (m := m) (eL := eL') (eR := f.eR) (e := e) (tL := tL') (tR := f.tR) (a := tl) (b := U) q2
      have t2 := flat_one (m := m) (eL := eL') (eR := f.eR) (tL := tL') (tR := f.tR) (a := mg tl e U) q2
      rw [flat_mg cl cu] at t2
      have hfill : fill f U = .nd (eL' ++ e :: f.eR) (tL' ++ tl :: U :: f.tR) := by rw [fill, heL, htL]; simp
      rw [hfill, t1]
      exact t2
    · have := sc.1.1
      rw [hles, heL] at this
      simp only [List.length_append, List.length_cons, List.length_nil] at this
      show lo' _ fs ≤ (eL' ++ f.eR).length + 1
      rw [List.length_append]
      cases fs <;> simp only [lo'] at this ⊢ <;> omega
    · show (eL' ++ f.eR).length ≤ _
      rw [List.length_append]; omega
    · intro m' hm' c hc
      obtain rfl : m = m' := by omega
      rcases List.mem_append.1 hc with hc | hc
      · exact sc.2.1 c (by rw [htL]; simp [hc])
      · rcases List.mem_cons.1 hc with rfl | hc
        · exact Sz.mg hsl.kids hk (by omega) (by omega)
        · exact sc.2.2.1 c hc
end
end Go.Proofs.Ytaemnjblcpknpaa

/- B-trees: the loop of mending. -/
set_option maxRecDepth 100000
namespace Go.Proofs.Ytaemnjblcpknpaa
open Go Go.Sx
section
variable {h0 : Hp} {order n len root tb : Nat} {target : List E} {N : List Nat} {I : List Int} {B F : Bag} {nodes atv : Option Addr} {nC aC : Nat} {nx0 : Int × Unit → Hp → Prop} {K : Value → Hp → Prop}
/-- What is known where a node has one entry too few. -/
structure Def (h0 : Hp) (order n len root tb : Nat) (target : List E) (N : List Nat) (I : List Int) (B F : Bag) (vis : Int) (m k : Nat) (f : Fr) (fs : List Fr) (U : BT) (Af Ac Au : Bag) (h : Hp) : Prop where
  hN : ∃ N', N = blks fs ++ f.b :: k :: N'
  hI : ∃ I', I = idxs fs ++ (f.eL.length : Int) :: I'
  hF : HoldF m f k Af
  hC : HoldC root (m + 1) fs f.b Ac
  hu : Hold m k U Au
  s : St h0 h (treeC tb order len (some ⟨root, 0, none⟩) vis + (Af + (Ac + (Au + (B + F)))))
  hf : Lb (m + 1) fs ++ (flat (m + 1) (fill f U) ++ Rb (m + 1) fs) = target
  sc : SzC ((order + 1) / 2 - 1) (order - 1) m (f :: fs)
  hU : U.es.length + 1 = (order + 1) / 2 - 1
  hk : ∀ m', m = m' + 1 → ∀ c ∈ U.ts, Sz ((order + 1) / 2 - 1) (order - 1) m' c
  hn : m + 1 + fs.length = n
/-- The tree after an entry was moved between two children. -/
theorem moved {h : Hp} {vis : Int} {m : Nat} {fs : List Fr} {p l r : Nat} {eL eR : List E} {x : E} {kL kR : List Nat} {tL tR : List BT} {a b : BT} {ka kb : List Nat} {Bp B1 A1 A2 C1 C2 B2 Ac : Bag} (hlen : target.length = len)
    (np : NodeA p (eL ++ x :: eR) (kL ++ l :: r :: kR) Bp) (hkL : kL.length = eL.length) (htL : tL.length = eL.length) (hkR : kR.length = eR.length) (g1 : AllH (Hold m) kL tL B1) (na : NodeA l a.es ka A1) (ca : Kids m ka a A2) (nb : NodeA r b.es kb C1) (cb : Kids m kb b C2) (g3 : AllH (Hold m) kR tR B2)
    (hC : HoldC root (m + 1) fs p Ac) (hf : Lb (m + 1) fs ++ ((wL (tL.map (flat m)) eL ++ ((flat m a ++ x :: flat m b) ++ wR eR (tR.map (flat m)))) ++ Rb (m + 1) fs) = target)
    (sc : SzC ((order + 1) / 2 - 1) (order - 1) (m + 1) fs) (hes : lo' ((order + 1) / 2 - 1) fs ≤ (eL ++ x :: eR).length ∧ (eL ++ x :: eR).length ≤ order - 1)
    (zL : ∀ c ∈ tL, Sz ((order + 1) / 2 - 1) (order - 1) m c) (zR : ∀ c ∈ tR, Sz ((order + 1) / 2 - 1) (order - 1) m c) (za : Sz ((order + 1) / 2 - 1) (order - 1) m a) (zb : Sz ((order + 1) / 2 - 1) (order - 1) m b) (hn : m + 1 + fs.length = n)
    (s : St h0 h (treeC tb order len (some ⟨root, 0, none⟩) vis + (Bp + (B1 + (A1 + (A2 + (C1 + (C2 + (B2 + (Ac + F)))))))))) : ∃ A', TreeA order target tb vis A' ∧ St h0 h (A' + F) := by
  have hT : Hold (m + 1) p (.nd (eL ++ x :: eR) (tL ++ a :: b :: tR)) (Bp + (B1 + (A1 + A2 + (C1 + C2 + B2)))) := by
    refine ⟨_, Bp, _, rfl, np, ?_, g1.append ⟨_, _, rfl, ca.close na, _, _, rfl, cb.close nb, g3⟩⟩
    show (kL ++ l :: r :: kR).length = (eL ++ x :: eR).length + 1
    simp; omega
  obtain ⟨w1, w2, w3⟩ := whole hC hT (target := target) (by rw [flat_two htL]; exact hf) sc hes (fun m' hm' c hc => by
    obtain rfl : m = m' := by omega
    rcases List.mem_append.1 hc with hc | hc
    · exact zL c hc
    · rcases List.mem_cons.1 hc with rfl | hc
      · exact za
      · rcases List.mem_cons.1 hc with rfl | hc
        · exact zb
        · exact zR c hc) hn
  exact ⟨_, .inr ⟨n, root, _, _, by rw [hlen], w1, w2, w3⟩, s.to⟩
theorem shrink_b4_ok {h : Hp} {vis : Int} {m k : Nat} {f : Fr} {fs : List Fr} {U : BT} {Af Ac Au : Bag} (hor : 3 ≤ order) (h64 : order ≤ 64) (hfs : fs.length ≤ 1000) (hlen : target.length = len) (hvis : 0 ≤ vis ∧ vis ≤ 100000000000000)
    (D : Def h0 order n len root tb target N I B F vis m k f fs U Af Ac Au h) (hL : ∀ t ∈ f.tL.getLast?, t.es.length ≤ (order + 1) / 2 - 1)
    (hK : ∀ h' A' vis', vis ≤ vis' ∧ vis' ≤ vis + 1 → TreeA order target tb vis' A' → St h0 h' (A' + F) → K (.tuple #[]) h')
    (hnx : ∀ h' vis', vis ≤ vis' ∧ vis' ≤ vis + 1 → ShrS h0 order n len root tb target N I B F (fs.length : Int) vis' h' → nx0 ((fs.length : Int), ()) h') :
    btree_Tree_shrink_b4 (some ⟨tb, 0, none⟩) nodes N.length nC atv I.length aC ((fs.length : Int) + 1) (((order + 1) / 2 - 1 : Nat) : Int) (some ⟨f.b, 0, none⟩) (f.eL.length : Int) h nx0 K := by
  obtain ⟨⟨N', hN⟩, ⟨I', hI⟩, hF, hC, hu, s, hf, sc, hU, hk, hn⟩ := D
  have hes2 : (f.eL ++ f.eR).length ≤ order - 1 := sc.1.2
  have hles : (f.eL ++ f.eR).length = f.eL.length + f.eR.length := List.length_append
  have hF0 := hF
  obtain ⟨l1, l2, A1, A2, A3, rfl, hnp, g1, g2⟩ := hF
  have hlk := g1.len
  obtain ⟨p1, p2, p3, c1, c2, c3, P1, P2, P3, rfl, ns⟩ := hnp
  have s0 := s
  rw [btree_Tree_shrink_b4_eq]
  refine ⟨_, _, _, (s.at (nodeC f.b (f.eL ++ f.eR).length (f.kL ++ k :: f.kR).length p1 p2 p3 c1 c2 c3)).cell 0, condP (fun hlt => ?_) (fun hge => ?_)⟩
  · obtain ⟨e, eR', heR⟩ : ∃ e eR', f.eR = e :: eR' := by
      cases h : f.eR with
      | nil => rw [hles, h] at hlt; simp at hlt
      | cons e eR' => exact ⟨e, eR', rfl⟩
    refine ⟨_, s.cellA 3, ⟨by omega, by omega⟩, ?_⟩
    refine s.wr (o := 3) (add_mk _ _ _) (by simp) fun h11 s11 => ?_
    have s11 : St h0 h11 (treeC tb order len (some ⟨root, 0, none⟩) (vis + 1) + (nodeC f.b (f.eL ++ f.eR).length (f.kL ++ k :: f.kR).length p1 p2 p3 c1 c2 c3 + (P1 + (P2 + P3)) + (A2 + A3) + (Ac + (Au + (B + F))))) := s11
    obtain ⟨r, kR', tr, tR', Ap, B1, Ar, B2, hbag, htR, q1, q2, q3, hkR, hnp', w1, w2, w3⟩ := hF0.right heR
    have ei : ((f.eL.length : Int) + 1).toNat = f.eL.length + 1 := by omega
    have hkk : f.kL ++ k :: f.kR = f.kL ++ k :: r :: kR' := by rw [hkR]
    have hkll : (f.kL ++ k :: f.kR).length = f.kL.length + kR'.length + 2 := by rw [hkk]; simp; omega
    refine ⟨_, _, _, (s11.at (nodeC f.b (f.eL ++ f.eR).length (f.kL ++ k :: f.kR).length p1 p2 p3 c1 c2 c3)).cellA 2, ⟨by omega, by omega⟩, (ns.s3.rd (s11.at P3)).ptr (by omega) (by omega) ?_⟩
    rw [ei, hkk, getD_mid2 q1]
    have s12 : St h0 h11 (treeC tb order len (some ⟨root, 0, none⟩) (vis + 1) + (Ap + (B1 + (Ar + B2)) + (Ac + (Au + (B + F))))) := by rw [← hbag]; exact s11
    have sr := s12.to (B := Ar + (treeC tb order len (some ⟨root, 0, none⟩) (vis + 1) + (Ap + B1 + B2) + (Ac + (Au + (B + F)))))
    obtain ⟨_, _, _, _, _, _, _, kr, _, _, _⟩ := w2.read sr
    have hsr : Sz ((order + 1) / 2 - 1) (order - 1) m tr := sc.2.2.1 tr (by rw [htR]; simp)
    have hsrh := hsr.here
    refine ⟨_, _, _, kr.cell 0, condP (fun hbig => ?_) (fun hsm => ?_)⟩
    · obtain ⟨x, er, hxe⟩ : ∃ x er, tr.es = x :: er := by
        cases h : tr.es with
        | nil => rw [h] at hbig; simp at hbig; omega
        | cons x er => exact ⟨x, er, rfl⟩
      obtain ⟨ku, U1, U2, rfl, nu, cu⟩ := hu.open_
      obtain ⟨kr', R1, R2, rfl, nr, cr⟩ := w2.open_
      have cul := cu.le
      have crl := cr.le
      have w3l := w3.len
      have hesr : (f.eL ++ e :: eR').length ≤ order - 1 := by rw [← heR]; exact hes2
      have hesr' := hesr
      simp only [List.length_append, List.length_cons] at hesr'
      have hxl : tr.es.length = er.length + 1 := by rw [hxe]; rfl
      have s13 : St h0 h11 (Ap + (U1 + (R1 + (U2 + (R2 + (B1 + (B2 + (treeC tb order len (some ⟨root, 0, none⟩) (vis + 1) + (Ac + (B + F)))))))))) := s12.to
      rw [hxe] at nr
      refine (fromRight_ok s13 hnp' nu nr rfl q1 (by omega) (by omega) (by omega) (by rcases cr.len with h | h; exact .inl h; exact .inr (by omega)) (by omega) (by rw [cr.nil_iff, cu.nil_iff])).mono fun v h' ⟨hv, Bp, Bn, Br, kn', krr, hkk', n1, n2, n3, s14⟩ => ⟨hv, ?_⟩
      obtain ⟨a', b', A', C', hAC, ea', eb', ka', kb', hfl, za, zb⟩ := right_trees (e := e) hxe cu cr hkk' hk hsr.kids
      rw [← ea'] at n2
      rw [← eb'] at n3
      have la : a'.es.length = U.es.length + 1 := by rw [ea']; simp
      have lb : b'.es.length = er.length := by rw [eb']
      obtain ⟨A9, t9, s9⟩ := moved (h := h') (vis := vis + 1) (F := F) hlen n1 q1 q2 (by omega) w1 n2 ka' n3 kb' w3 hC (by
        rw [← hfl, ← hf]
        congr 2
        have hfill : fill f U = .nd (f.eL ++ e :: eR') (f.tL ++ U :: tr :: tR') := by rw [fill, heR, htR]
        rw [hfill, flat_two q2]) sc.2.2.2 (by
          have := sc.1
          rw [heR] at this
          have hl9 : (f.eL ++ x :: eR').length = (f.eL ++ e :: eR').length := by simp
          rw [hl9]
          cases fs <;> exact this) sc.2.1 (fun c hc => sc.2.2.1 c (by rw [htR]; simp [hc])) (Sz.of ⟨by omega, by omega⟩ za) (Sz.of ⟨by omega, by omega⟩ zb) hn (by
          have h1 := s14.to (B := B + (treeC tb order len (some ⟨root, 0, none⟩) (vis + 1) + (Bp + (B1 + (Bn + (Br + (U2 + R2 + (B2 + (Ac + F)))))))))
          rw [hAC] at h1
          exact h1.drop.to)
      exact hK h' A9 (vis + 1) ⟨by omega, by omega⟩ t9 s9
    · have s15 : St h0 h11 (treeC tb order len (some ⟨root, 0, none⟩) (vis + 1) + (Ap + (B1 + (Ar + B2)) + (Ac + (Au + (B + F))))) := s12
      refine shrink_b5_ok (vis := vis + 1) hor h64 hfs hN (N' := k :: N') (I' := (f.eL.length : Int) :: I') hI hF0 hC hu (by rw [hbag]; exact s15) hf sc hU hk hn hL (fun _ t ht => ?_) (fun h' hs => hnx h' (vis + 1) ⟨by omega, by omega⟩ hs)
      rw [htR] at ht
      simp at ht
      subst ht
      omega
  · have heR0 : f.eR = [] := List.eq_nil_of_length_eq_zero (by omega)
    refine shrink_b5_ok (vis := vis) hor h64 hfs hN (N' := k :: N') (I' := (f.eL.length : Int) :: I') hI hF0 hC hu s0 hf sc hU hk hn hL (fun _ t ht => ?_) (fun h' hs => hnx h' vis ⟨by omega, by omega⟩ hs)
    rw [heR0] at l2
    rw [List.eq_nil_of_length_eq_zero l2] at ht
    simp at ht
end
end Go.Proofs.Ytaemnjblcpknpaa

/- B-trees: shrink. -/
set_option maxRecDepth 100000
namespace Go.Proofs.Ytaemnjblcpknpaa
open Go Go.Sx
section
variable {h0 : Hp} {order n len root tb : Nat} {target : List E} {N : List Nat} {I : List Int} {B F : Bag} {nodes atv : Option Addr} {nC aC : Nat} {nx0 : Int × Unit → Hp → Prop} {K : Value → Hp → Prop}
theorem shrink_b2_ok {h : Hp} {vis : Int} {m k : Nat} {f : Fr} {fs : List Fr} {U : BT} {Af Ac Au B1' B2' : Bag} (hor : 3 ≤ order) (h64 : order ≤ 64) (hfs : fs.length ≤ 1000) (hlen : target.length = len) (hvis : 0 ≤ vis ∧ vis ≤ 10000000000000)
    (hB : B = B1' + B2') (oN : Sl TP nodes N.length nC N B1') (oI : Sl TI atv I.length aC I B2')
    (D : Def h0 order n len root tb target N I B F vis m k f fs U Af Ac Au h)
    (hK : ∀ h' A' vis', vis ≤ vis' ∧ vis' ≤ vis + 2 → TreeA order target tb vis' A' → St h0 h' (A' + F) → K (.tuple #[]) h')
    (hnx : ∀ h' vis', vis ≤ vis' ∧ vis' ≤ vis + 2 → ShrS h0 order n len root tb target N I B F (fs.length : Int) vis' h' → nx0 ((fs.length : Int), ()) h') :
    btree_Tree_shrink_b2 (some ⟨tb, 0, none⟩) nodes N.length nC atv I.length aC ((fs.length : Int) + 1) (((order + 1) / 2 - 1 : Nat) : Int) h nx0 K := by
  have D0 := D
  obtain ⟨⟨N', hN⟩, ⟨I', hI⟩, hF, hC, hu, s, hf, sc, hU, hk, hn⟩ := D
  have hes2 : (f.eL ++ f.eR).length ≤ order - 1 := sc.1.2
  have hles : (f.eL ++ f.eR).length = f.eL.length + f.eR.length := List.length_append
  have hF0 := hF
  rw [btree_Tree_shrink_b2_eq]
  have ed : ((fs.length : Int) + 1 - 1) = (fs.length : Int) := by omega
  rw [ed]
  have hNl : fs.length < N.length := by rw [hN]; simp [blks]
  have hIl : fs.length < I.length := by rw [hI]; simp [idxs]
  have sB : St h0 h (B1' + (B2' + (treeC tb order len (some ⟨root, 0, none⟩) vis + (Af + (Ac + (Au + F)))))) := by rw [hB] at s; exact s.to
  refine ⟨⟨by omega, by omega⟩, (oN.rd sB).ptr (by omega) (by omega) ?_⟩
  rw [Int.toNat_natCast, hN, blks_get]
  rw [← hN]
  refine ⟨⟨by omega, by omega⟩, (oI.rd (sB.at B2')).int (by omega) (by omega) ?_⟩
  rw [Int.toNat_natCast, hI, idxs_get]
  rw [← hI]
  refine ⟨_, s.cellA 3, ⟨by omega, by omega⟩, ?_⟩
  refine s.wr (o := 3) (add_mk _ _ _) (by simp) fun h6 s6 => ?_
  have s6 : St h0 h6 (treeC tb order len (some ⟨root, 0, none⟩) (vis + 1) + (Af + (Ac + (Au + (B + F))))) := s6
  have D6 : Def h0 order n len root tb target N I B F (vis + 1) m k f fs U Af Ac Au h6 := ⟨⟨N', hN⟩, ⟨I', hI⟩, hF, hC, hu, s6, hf, sc, hU, hk, hn⟩
  have b4 : (∀ t ∈ f.tL.getLast?, t.es.length ≤ (order + 1) / 2 - 1) → btree_Tree_shrink_b4 (some ⟨tb, 0, none⟩) nodes N.length nC atv I.length aC ((fs.length : Int) + 1) (((order + 1) / 2 - 1 : Nat) : Int) (some ⟨f.b, 0, none⟩) (f.eL.length : Int) h6 nx0 K := fun hL =>
    shrink_b4_ok hor h64 hfs hlen ⟨by omega, by omega⟩ D6 hL (fun h' A' vis' hv => hK h' A' vis' ⟨by omega, by omega⟩) (fun h' vis' hv => hnx h' vis' ⟨by omega, by omega⟩)
  refine condP (fun hpos => ?_) (fun hpos => ?_)
  · obtain ⟨eL', e, heL⟩ : ∃ a x, f.eL = a ++ [x] := by
      rcases List.eq_nil_or_concat f.eL with h | ⟨a, x, h⟩
      · rw [h] at hpos; simp at hpos
      · exact ⟨a, x, by simpa using h⟩
    obtain ⟨kL', l, tL', tl, Ap, B1, Al, B2, rfl, htL, q1, q2, q3, hkL, hnp, w1, w2, w3⟩ := hF.left heL
    have el : (f.eL.length : Int) = (eL'.length : Int) + 1 := by rw [heL]; simp
    have ei : ((f.eL.length : Int) - 1) = (eL'.length : Int) := by omega
    have hnp0 := hnp
    obtain ⟨p1, p2, p3, c1, c2, c3, P1, P2, P3, rfl, ns⟩ := hnp
    have hkll : (kL' ++ l :: k :: f.kR).length = eL'.length + f.kR.length + 2 := by simp; omega
    refine ⟨_, _, _, (s6.at (nodeC f.b (eL' ++ e :: f.eR).length (kL' ++ l :: k :: f.kR).length p1 p2 p3 c1 c2 c3)).cellA 2, ⟨by omega, by omega⟩, ?_⟩
    rw [ei]
    refine (ns.s3.rd (s6.at P3)).ptr (by omega) (by omega) ?_
    rw [Int.toNat_natCast, getD_mid q1]
    have sl := s6.to (B := Al + (treeC tb order len (some ⟨root, 0, none⟩) (vis + 1) + (nodeC f.b (eL' ++ e :: f.eR).length (kL' ++ l :: k :: f.kR).length p1 p2 p3 c1 c2 c3 + (P1 + (P2 + P3)) + B1 + B2) + (Ac + (Au + (B + F)))))
    obtain ⟨_, _, _, _, _, _, _, kl, _, _, _⟩ := w2.read sl
    have hsl : Sz ((order + 1) / 2 - 1) (order - 1) m tl := sc.2.1 tl (by rw [htL]; simp)
    have hslh := hsl.here
    refine ⟨_, _, _, kl.cell 0, condP (fun hbig => ?_) (fun hsm => ?_)⟩
    · obtain ⟨er, x, hxe⟩ : ∃ a x, tl.es = a ++ [x] := by
        rcases List.eq_nil_or_concat tl.es with h | ⟨a, x, h⟩
        · rw [h] at hbig; simp at hbig; omega
        · exact ⟨a, x, by simpa using h⟩
      obtain ⟨ku, U1, U2, rfl, nu, cu⟩ := hu.open_
      obtain ⟨kl', R1, R2, rfl, nl, cl⟩ := w2.open_
      have cul := cu.le
      have cll := cl.le
      have w3l := w3.len
      have hesr : (eL' ++ e :: f.eR).length ≤ order - 1 := by have := hes2; rw [heL] at this; simpa using this
      have hxl : tl.es.length = er.length + 1 := by rw [hxe]; simp
      have s13 : St h0 h6 (nodeC f.b (eL' ++ e :: f.eR).length (kL' ++ l :: k :: f.kR).length p1 p2 p3 c1 c2 c3 + (P1 + (P2 + P3)) + (R1 + (U1 + (U2 + (R2 + (B1 + (B2 + (treeC tb order len (some ⟨root, 0, none⟩) (vis + 1) + (Ac + (B + F)))))))))) := s6.to
      rw [hxe] at nl
      rw [el]
      refine (fromLeft_ok s13 hnp0 nl nu rfl q1 (by omega) (by omega) (by omega) (by rcases cl.len with h | h; exact .inl h; exact .inr (by omega)) (by omega) (by rw [cl.nil_iff, cu.nil_iff])).mono fun v h' ⟨hv, Bp, Bl, Bn, klr, kn', hkk', n1, n2, n3, s14⟩ => ⟨hv, ?_⟩
      obtain ⟨a', b', A', C', hAC, ea', eb', ka', kb', hfl, za, zb⟩ := left_trees (e := e) hxe cl cu hkk' hsl.kids hk
      rw [← ea'] at n2
      rw [← eb'] at n3
      have la : a'.es.length = er.length := by rw [ea']
      have lb : b'.es.length = U.es.length + 1 := by rw [eb']; rfl
      obtain ⟨A9, t9, s9⟩ := moved (h := h') (vis := vis + 1) (F := F) hlen n1 q1 q2 (by omega) w1 n2 ka' n3 kb' w3 hC (by
        rw [← hfl, ← hf]
        congr 2
        have hfill : fill f U = .nd (eL' ++ e :: f.eR) (tL' ++ tl :: U :: f.tR) := by rw [fill, heL, htL]; simp
        rw [hfill, flat_two q2]) sc.2.2.2 (by
          have := sc.1
          rw [heL] at this
          have hl9 : (eL' ++ x :: f.eR).length = (eL' ++ [e] ++ f.eR).length := by simp
          rw [hl9]
          cases fs <;> exact this) (fun c hc => sc.2.1 c (by rw [htL]; simp [hc])) sc.2.2.1 (Sz.of ⟨by omega, by omega⟩ za) (Sz.of ⟨by omega, by omega⟩ zb) hn (by
          have h1 := s14.to (B := B + (treeC tb order len (some ⟨root, 0, none⟩) (vis + 1) + (Bp + (B1 + (Bl + (Bn + (R2 + U2 + (B2 + (Ac + F)))))))))
          rw [hAC] at h1
          exact h1.drop.to)
      exact hK h' A9 (vis + 1) ⟨by omega, by omega⟩ t9 s9
    · refine b4 fun t ht => ?_
      rw [htL] at ht
      simp at ht
      subst ht
      omega
  · refine b4 fun t ht => ?_
    obtain ⟨l1, _⟩ := hF
    have : f.tL = [] := List.eq_nil_of_length_eq_zero (by omega)
    rw [this] at ht
    simp at ht
theorem shrink_b1_ok {h : Hp} {vis d : Int} {B1' B2' : Bag} (hor : 3 ≤ order) (h64 : order ≤ 64) (hnn : n ≤ 1000) (hlen : target.length = len) (hvis : 0 ≤ vis ∧ vis ≤ 10000000000000)
    (hB : B = B1' + B2') (oN : Sl TP nodes N.length nC N B1') (oI : Sl TI atv I.length aC I B2') (D : ShrS h0 order n len root tb target N I B F d vis h)
    (hK : ∀ h' A' vis', vis ≤ vis' ∧ vis' ≤ vis + 2 → TreeA order target tb vis' A' → St h0 h' (A' + F) → K (.tuple #[]) h')
    (hnx : ∀ h' vis', 0 < d → vis ≤ vis' ∧ vis' ≤ vis + 2 → ShrS h0 order n len root tb target N I B F (d - 1) vis' h' → nx0 (d - 1, ()) h') :
    btree_Tree_shrink_b1 d (some ⟨tb, 0, none⟩) nodes N.length nC atv I.length aC (((order + 1) / 2 - 1 : Nat) : Int) h nx0 K := by
  obtain ⟨m, fs, k, U, Ac, Au, N', I', rfl, hN, hI, hC, hu, s, hf, sc, hU, hk, hn⟩ := D
  rw [btree_Tree_shrink_b1_eq]
  have done : (fs = [] ∨ (order + 1) / 2 - 1 ≤ U.es.length) → btree_Tree_shrink_b3 (some ⟨tb, 0, none⟩) h K := by
    intro hor'
    cases fs with
    | nil =>
      obtain ⟨rfl, rfl⟩ := hC
      have hm : m = n := by simpa using hn
      subst hm
      have hft : flat m U = target := by rw [← hf]; simp [Lb, Rb]
      subst hlen
      exact shrink_b3_ok hor hu hft hU.2 hk (s.to (B := treeC tb order target.length (some ⟨k, 0, none⟩) vis + (Au + (B + F)))) fun h' A' ta s' => hK h' A' vis ⟨by omega, by omega⟩ ta (s'.to (B := B + (A' + F))).drop
    | cons f fs =>
      have hge : (order + 1) / 2 - 1 ≤ U.es.length := by rcases hor' with h | h; cases h; exact h
      obtain ⟨w1, w2, w3⟩ := whole hC hu hf sc ⟨hge, hU.2⟩ hk hn
      have hes1 : (plug (f :: fs) U).es.length ≤ order - 1 ∧ ∀ m', n = m' + 1 → ∀ c ∈ (plug (f :: fs) U).ts, Sz ((order + 1) / 2 - 1) (order - 1) m' c := by
        cases n with
        | zero => exact ⟨w3.2, fun m' h => by omega⟩
        | succ n => exact ⟨w3.1.2, fun m' h => by obtain rfl : n = m' := by omega
                                                  exact w3.2⟩
      subst hlen
      exact shrink_b3_ok hor w1 w2 hes1.1 hes1.2 (s.to (B := treeC tb order target.length (some ⟨root, 0, none⟩) vis + (Ac + Au + (B + F)))) fun h' A' ta s' => hK h' A' vis ⟨by omega, by omega⟩ ta (s'.to (B := B + (A' + F))).drop
  refine condP (fun hpos => ?_) (fun hpos => ?_)
  · cases fs with
    | nil => simp at hpos
    | cons f fs =>
      have hNl : (f :: fs).length < N.length := by rw [hN]; simp [blks]
      have sB : St h0 h (B1' + (B2' + (treeC tb order len (some ⟨root, 0, none⟩) vis + (Ac + (Au + F))))) := by rw [hB] at s; exact s.to
      refine (oN.rd sB).ptr (by omega) (by omega) ?_
      rw [Int.toNat_natCast, hN, blks_get]
      rw [← hN]
      have sU := s.to (B := Au + (treeC tb order len (some ⟨root, 0, none⟩) vis + (Ac + (B + F))))
      obtain ⟨_, _, _, _, _, _, _, ku, _, _, _⟩ := hu.read sU
      refine ⟨_, _, _, ku.cell 0, condP (fun hlt => ?_) (fun hge => done (.inr (by omega)))⟩
      have hlo : (order + 1) / 2 - 1 ≤ U.es.length + 1 := hU.1
      obtain ⟨Af, Ac', rfl, hF, hC'⟩ := hC
      have hflat := flat_fill (n := m) U hF.1
      have ed : (((f :: fs).length : Nat) : Int) = (fs.length : Int) + 1 := by simp
      rw [ed] at hnx ⊢
      have ed2 : ((fs.length : Int) + 1 - 1) = (fs.length : Int) := by omega
      rw [ed2] at hnx
      simp only [List.length_cons] at hn
      refine shrink_b2_ok hor h64 (by omega) hlen hvis hB oN oI ⟨⟨N', by rw [hN, blks_cons]⟩, ⟨I', by rw [hI, idxs_cons]⟩, hF, hC', hu, s.to, ?_, sc, by omega, hk, by omega⟩ hK fun h' vis' hv hs => hnx h' vis' (by omega) hv hs
      rw [hflat, ← hf]
      simp [Lb, Rb]
  · refine done (.inl (List.eq_nil_of_length_eq_zero (by omega)))
theorem shrink_ok {h : Hp} {vis : Int} {k j : Nat} {fs : List Fr} {u : BT} {Ac Au B1' B2' : Bag} (hor : 3 ≤ order) (h64 : order ≤ 64) (hnn : n ≤ 1000) (hvis : 0 ≤ vis ∧ vis ≤ 1000000000000)
    (oN : Sl TP nodes (fs.length + 1) nC (blks fs ++ [k]) B1') (oI : Sl TI atv (fs.length + 1) aC I B2') (hI : I = idxs fs ++ [(j : Int)]) (hj : j < u.es.length)
    (hC : HoldC root 0 fs k Ac) (hu : Hold 0 k u Au) (sc : SzC ((order + 1) / 2 - 1) (order - 1) 0 fs) (sb : SzB ((order + 1) / 2 - 1) (order - 1) 0 fs u) (hn : fs.length = n)
    (hf : Lb 0 fs ++ ((u.es.take j ++ u.es.drop (j + 1)) ++ Rb 0 fs) = target) (hlen : target.length = len)
    (s : St h0 h (treeC tb order len (some ⟨root, 0, none⟩) vis + (Ac + (Au + (B1' + (B2' + F)))))) :
    HCalls Try.prog 43 #[ptr tb, .slice nodes (fs.length + 1) nC, .slice atv (fs.length + 1) aC] h (fun v h' => v = .tuple #[] ∧ ∃ A' vis', (vis ≤ vis' ∧ vis' ≤ vis + 2 * (n + 1)) ∧ TreeA order target tb vis' A' ∧ St h0 h' (A' + F)) := by
  refine btree_Tree_shrink_call ?_
  rw [btree_Tree_shrink_b0_eq]
  obtain ⟨ht, hna⟩ := hu
  obtain ⟨p1, p2, p3, c1, c2, c3, C1, C2, C3, rfl, ns⟩ := hna
  have hule := sb.1.2
  have ed : ((fs.length + 1 : Nat) : Int) - 1 = (fs.length : Int) := by omega
  have rN := oN.rd (s.at B1')
  have rI := oI.rd (s.at B2')
  have gI : I.getD fs.length 0 = (j : Int) := by rw [hI]; exact idxs_get _ _ _
  have kb := (s.at (nodeC k u.es.length ([] : List Nat).length p1 p2 p3 c1 c2 c3)).blk
  rw [ed]
  have ej : Int.toNat (fs.length : Int) = fs.length := Int.toNat_natCast _
  refine ⟨⟨by omega, by omega⟩, rN.ptr (by omega) (by omega) ?_⟩
  rw [ej, blks_get]
  refine ⟨_, _, _, kb.cell 0, rI.int (by omega) (by omega) (rI.int (by omega) (by omega) ?_)⟩
  rw [ej, gI]
  refine ⟨⟨by omega, by omega⟩, _, _, _, Blk.cellA kb 1, rI.intA (by omega) (by omega) fun a8 ha8 => rI.intA (by omega) (by omega) fun a9 ha9 => ?_⟩
  rw [ej, gI]
  refine ⟨⟨by omega, by omega⟩, ?_⟩
  refine (deleteI_st (s.at C1) ns.s1 (i := j) (by omega) rfl (by omega)).mono fun v1 h1 ⟨C1', hv1, o1, s1⟩ => ?_
  have rI1 := oI.rd (s1.at B2')
  refine ⟨_, _, _, hv1, rI1.again ha9 (by omega) gI, rI1.again ha8 (by omega) gI, ⟨_, _, _, (s1.at (nodeC k u.es.length ([] : List Nat).length p1 p2 p3 c1 c2 c3)).cellA 1, rfl⟩, ?_⟩
  refine (deleteI_st (s1.at C2) ns.s2 (i := j) (by omega) rfl (by omega)).mono fun v2 h2 ⟨C2', hv2, o2, s2⟩ => ?_
  refine ⟨_, _, _, hv2, ?_⟩
  refine wr2 (n' := u.es.length - 1) (s2.at (nodeC k u.es.length ([] : List Nat).length p1 p2 p3 c1 c2 c3)) fun h4 s4 => ?_
  have hel : (u.es.take j ++ u.es.drop (j + 1)).length = u.es.length - 1 := by rw [List.length_append, List.length_take, List.length_drop]; omega
  have s5 := s4.to (B := treeC tb order len (some ⟨root, 0, none⟩) vis + (Ac + (nodeC k (u.es.length - 1) ([] : List Nat).length p1 p2 p3 c1 c2 c3 + (C1' + (C2' + C3)) + ((B1' + B2') + F))))
  refine ⟨_, s5.cell 0, ⟨by omega, by omega⟩, quo_intro (by omega) (by omega) (by omega) ⟨⟨by omega, by omega⟩, ?_⟩⟩
  have eq : ((order : Int) + 1) / 2 - 1 = (((order + 1) / 2 - 1 : Nat) : Int) := by omega
  rw [eq]
  have hu' : Hold 0 k (.nd (u.es.take j ++ u.es.drop (j + 1)) []) (nodeC k (u.es.length - 1) ([] : List Nat).length p1 p2 p3 c1 c2 c3 + (C1' + (C2' + C3))) := by
    refine ⟨rfl, p1, p2, p3, c1, c2, c3, C1', C2', C3, by show _ = nodeC k (u.es.take j ++ u.es.drop (j + 1)).length _ _ _ _ _ _ _ + _; rw [hel], ⟨?_, ?_, ns.s3⟩⟩
    · refine o1.cast hel.symm ?_
      rw [← List.map_take, ← List.map_drop, ← List.map_append]; rfl
    · refine o2.cast hel.symm ?_
      rw [← List.map_take, ← List.map_drop, ← List.map_append]; rfl
  have hNl : (blks fs ++ [k]).length = fs.length + 1 := by simp [blks]
  have hIl : I.length = fs.length + 1 := by rw [hI]; simp [idxs]
  refine ⟨fun st h' => ∃ vis', ShrS h0 order n len root tb target (blks fs ++ [k]) I (B1' + B2') F st.1 vis' h' ∧ (vis ≤ vis' ∧ vis' + 2 * st.1 ≤ vis + 2 * n) ∧ 0 ≤ st.1, fun st _ => st.1.toNat, ⟨vis, ⟨0, fs, k, _, Ac, _, [], [(j : Int)], rfl, rfl, hI, hC, hu', s5, hf, sc, ⟨?_, ?_⟩, fun m' h => by omega, by omega⟩, ⟨by omega, by simp only; omega⟩, by simp only; omega⟩, ?_⟩
  · have := sb.1.1
    show _ ≤ (u.es.take j ++ u.es.drop (j + 1)).length + 1
    omega
  · show (u.es.take j ++ u.es.drop (j + 1)).length ≤ _
    omega
  rintro ⟨d, _⟩ h5 ⟨vis5, D, hv5, hd⟩
  dsimp only at D hv5 hd ⊢
  have e1 : fs.length + 1 = (blks fs ++ [k]).length := hNl.symm
  have e2 : fs.length + 1 = I.length := hIl.symm
  have key := shrink_b1_ok (h := h5) (B := B1' + B2') (N := blks fs ++ [k]) (I := I) (nodes := nodes) (atv := atv) (nC := nC) (aC := aC) (F := F) hor h64 hnn hlen (vis := vis5) (d := d) ⟨by omega, by omega⟩ rfl (oN.cast e1 rfl) (oI.cast e2 rfl) D
    (K := fun v h' => v = .tuple #[] ∧ ∃ A' vis', (vis ≤ vis' ∧ vis' ≤ vis + 2 * (n + 1)) ∧ TreeA order target tb vis' A' ∧ St h0 h' (A' + F))
    (nx0 := fun s' h' => (∃ vis', ShrS h0 order n len root tb target (blks fs ++ [k]) I (B1' + B2') F s'.1 vis' h' ∧ (vis ≤ vis' ∧ vis' + 2 * s'.1 ≤ vis + 2 * n) ∧ 0 ≤ s'.1) ∧ s'.1.toNat < d.toNat)
    (fun h' A' vis' hv ta s' => ⟨rfl, A', vis', ⟨by omega, by omega⟩, ta, s'⟩) (fun h' vis' hd0 hv hs => ⟨⟨vis', hs, ⟨by omega, by simp only; omega⟩, by simp only; omega⟩, by simp only; omega⟩)
  rw [hNl, hIl] at key
  exact key
end
end Go.Proofs.Ytaemnjblcpknpaa
