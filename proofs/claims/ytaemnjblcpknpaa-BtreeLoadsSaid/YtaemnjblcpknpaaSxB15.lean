/- B-trees: the reference's Keys and Shaped. -/
import Derived.Test.YtaemnjblcpknpaaSxB14
set_option maxRecDepth 100000
namespace Go.Proofs.Ytaemnjblcpknpaa
open Go Go.Sx
def Wf : Nat → BT → Prop
  | 0, t => t.ts = []
  | n + 1, t => t.ts.length = t.es.length + 1 ∧ ∀ c ∈ t.ts, Wf n c
theorem AllH.each {α β : Type} {P : β → α → Bag → Prop} : ∀ {bs : List β} {ts : List α} {A : Bag}, AllH P bs ts A → ∀ t ∈ ts, ∃ b B, P b t B
  | [], [], _, _, t, ht => nomatch ht
  | [], _ :: _, _, h, _, _ => h.elim
  | _ :: _, [], _, h, _, _ => h.elim
  | _ :: _, _ :: _, _, ⟨_, _, _, h1, h2⟩, t, ht => by
    rcases List.mem_cons.1 ht with rfl | ht
    · exact ⟨_, _, h1⟩
    · exact AllH.each h2 t ht
theorem Hold.wf : ∀ {n b : Nat} {t : BT} {A : Bag}, Hold n b t A → Wf n t
  | 0, _, _, _, h => h.1
  | n + 1, _, t, _, h => by
    refine ⟨h.len, ?_⟩
    obtain ⟨ks, A1, A2, _, _, _, h2⟩ := h
    intro c hc
    obtain ⟨b, B, hb⟩ := AllH.each h2 c hc
    exact hb.wf
theorem getD_set {α : Type} {l : List α} {i j : Nat} {x d : α} : (l.set i x).getD j d = if i = j ∧ j < l.length then x else l.getD j d := by
  simp only [List.getD, List.getElem?_set]
  by_cases h : i = j
  · subst h
    by_cases h2 : i < l.length
    · simp [h2]
    · simp [h2]
  · simp [h]
/-- What is left of a level. -/
def Rm (LL : List (List (List Int))) (nx : List Nat) (j : Nat) : List (List Int) := (LL.getD j []).drop (nx.getD j 0)
abbrev nums (nx : List Nat) : List Int := nx.map fun (x : Nat) => (x : Int)
theorem Rm_here {LL : List (List (List Int))} {nx : List Nat} {j : Nat} {l : List Int} {R : List (List Int)} (h : Rm LL nx j = l :: R) : nx.getD j 0 < (LL.getD j []).length ∧ (LL.getD j []).getD (nx.getD j 0) [] = l ∧ (j < nx.length → Rm LL (nx.set j (nx.getD j 0 + 1)) j = R) := by
  unfold Rm at h ⊢
  generalize nx.getD j 0 = a at h
  have hl : a < (LL.getD j []).length := by
    rcases Nat.lt_or_ge a (LL.getD j []).length with h1 | h1
    · exact h1
    · rw [List.drop_of_length_le h1] at h; cases h
  rw [List.drop_eq_getElem_cons hl] at h
  injection h with h1 h2
  refine ⟨hl, ?_, fun hj => ?_⟩
  · have e : (LL.getD j []).getD a [] = (LL.getD j [])[a] := by
      generalize LL.getD j [] = L at hl
      simp [List.getD, hl]
    rw [e]; exact h1
  · rw [getD_set, if_pos ⟨rfl, hj⟩]; exact h2
theorem Rm_other {LL : List (List (List Int))} {nx : List Nat} {i j v : Nat} (h : i ≠ j) : Rm LL (nx.set i v) j = Rm LL nx j := by
  unfold Rm
  rw [getD_set, if_neg (fun h1 => h h1.1)]
theorem nums_set (nx : List Nat) (i v : Nat) : (nums nx).set i (v : Int) = nums (nx.set i v) := by simp [nums, List.map_set]
theorem nums_get (nx : List Nat) (i : Nat) : (nums nx).getD i 0 = ((nx.getD i 0 : Nat) : Int) := by simp [nums, List.getD, List.getElem?_map]; cases nx[i]? <;> rfl
def KeysS (h0 : Hp) (order N : Nat) (LL : List (List (List Int))) (p : Option Addr) (c : Nat) (B : Bag) (m : Nat) : Prop :=
  ∀ (d : Nat) {t : BT} {h : Hp} {nx : List Nat} {q : Option Addr} {e : Nat} {A G : Bag} {R : Nat → List (List Int)}, d + m = N → Wf m t → (d = 0 → 1 ≤ t.es.length) → (d ≠ 0 → (order + 1) / 2 - 1 ≤ t.es.length) → t.es.length ≤ order - 1 →
      (∀ m', m = m' + 1 → ∀ u ∈ t.ts, Sz ((order + 1) / 2 - 1) (order - 1) m' u) → (flat m t).length ≤ 2000 →
      Sl TI q (N + 1) e (nums nx) A → St h0 h (A + (B + G)) → (∀ j, j ≤ m → Rm LL nx (d + j) = lv m j t ++ R j) → (∀ j, nx.getD j 0 ≤ 100000) →
      HCalls Try.prog 38 #[.int .i64 (order : Int), .slice p (N + 1) c, .int .i64 (d : Int), .slice q (N + 1) e] h (fun v h' => ∃ r k cc nx' A' D, v = .tuple #[.slice r k cc, .bool true] ∧ Sl TI r k cc ((flat m t).map Prod.fst) D ∧
        Sl TI q (N + 1) e (nums nx') A' ∧ St h0 h' (D + (A' + (B + G))) ∧ (∀ j, j ≤ m → Rm LL nx' (d + j) = R j) ∧ (∀ i, i < d → nx'.getD i 0 = nx.getD i 0) ∧ (∀ i, (nx.getD i 0 ≤ (LL.getD i []).length → nx'.getD i 0 ≤ (LL.getD i []).length)) ∧ (∀ j, nx'.getD j 0 ≤ 100000))
theorem lv_zero {n : Nat} {t : BT} : lv n 0 t = [t.es.map Prod.fst] := by cases n <;> rfl
theorem pre_len {n : Nat} {t : BT} {i : Nat} (hl : t.ts.length = t.es.length + 1) (hi : i ≤ t.es.length) : (pre (n + 1) t i).length ≤ (flat (n + 1) t).length := by
  rcases Nat.lt_or_ge i t.es.length with h | h
  · obtain ⟨r, hr⟩ := pre_mid (n := n) hl h
    rw [hr, List.length_append]; omega
  · obtain rfl : i = t.es.length := by omega
    rw [pre_last hl, List.length_append]; omega
theorem Keys_main {h0 : Hp} {order N : Nat} {LL : List (List (List Int))} {p : Option Addr} {c : Nat} {B : Bag} (hor : 3 ≤ order) (h64 : order ≤ 64) (hN : N ≤ 1000) (ho : OutA (p, N + 1, c) LL B) (hLb : ∀ j, (LL.getD j []).length ≤ 100000)
    (m : Nat) (ih : ∀ m', m = m' + 1 → KeysS h0 order N LL p c B m') : KeysS h0 order N LL p c B m := by
  intro d t h nx q e A G R hd hwf hz0 hz1 hz2 hzk hfl hnx s hR hb
  have hnl : nx.length = N + 1 := by have := hnx.len; simpa using this
  have hR0 := hR 0 (by omega)
  rw [Nat.add_zero, lv_zero, List.singleton_append] at hR0
  obtain ⟨g1, g2, g3⟩ := Rm_here hR0
  have g3 := g3 (by omega)
  have hbd := hb d
  refine r43_Keys_call ?_
  rw [r43_Keys_b0_eq]
  have sB : St h0 h (B + (A + G)) := s.to
  refine (hnx.rd s).int (by omega) (by omega) ?_
  rw [Int.toNat_natCast, nums_get]
  refine ho.at_ sB (d := []) (by omega) (by show (d : Int) < ((N + 1 : Nat) : Int); omega) fun a3 L1 C1 B1 Br1 hlev hB1 => ?_
  rw [Int.toNat_natCast] at hlev
  have hL1 := hlev.len
  dsimp only at hL1
  refine condNo (decide_eq_false (by omega)) ?_
  refine ho.at_ sB (d := []) (by omega) (by show (d : Int) < ((N + 1 : Nat) : Int); omega) fun a5 L2 C2 B2 Br2 hlev2 hB2 => ?_
  rw [Int.toNat_natCast] at hlev2
  have hL2 := hlev2.len
  dsimp only at hL2
  refine (hnx.rd s).int (by omega) (by omega) ?_
  rw [Int.toNat_natCast, nums_get]
  have sB2 : St h0 h (B2 + (Br2 + (A + G))) := by rw [hB2] at sB; exact sB.to
  refine hlev2.at_ sB2 (d := []) (by omega) (by show _ < (L2 : Int); omega) fun a8 L3 C3 B3 Br3 hl3 hB3 => ?_
  rw [Int.toNat_natCast, g2] at hl3
  have hL3 := hl3.len
  dsimp only at hL3
  rw [List.length_map] at hL3
  refine (hnx.rd s).int (by omega) (by omega) ?_
  rw [Int.toNat_natCast, nums_get]
  refine ⟨⟨by omega, by omega⟩, ?_⟩
  refine hnx.wrI s (x := ((nx.getD d 0 + 1 : Nat) : Int)) (by omega) (by omega) rfl (by show [_] = [_]; congr 2) fun h1 A1 hnx1 s1 => ?_
  rw [Int.toNat_natCast, nums_set] at hnx1
  have hroot : (decide ((d : Int) = 0)) = decide (d = 0) := decide_eq_decide.2 (by omega)
  rw [hroot]
  refine (node_ok hor h64 (root := decide (d = 0)) (n := L3) (fun h => by rw [← hL3]; exact hz0 (of_decide_eq_true h)) (fun h => by rw [← hL3]; exact hz1 (of_decide_eq_false h)) (by omega)).mono fun v1 h2 ⟨hh, hv1⟩ => ?_
  subst hh
  refine ⟨_, hv1, condNo rfl ⟨⟨by omega, by omega⟩, condP (fun hlast => ?_) (fun hnl' => ?_)⟩⟩
  · obtain rfl : m = 0 := by omega
    refine s1.new (cs := []) fun b1 h3 _ s3 => ?_
    have sl : St h0 h3 (cA b1 [] 3 + (B3 + (Br3 + (Br2 + (A1 + G))))) := by rw [hB2, hB3] at s3; exact s3.to
    refine append_sl ok_int sl (Sl.of_blk (T := TI) (xs := []) rfl rfl) (hl3.rd (sl.at B3)) (by omega) fun p' c' h' A' a' s' => ?_
    rw [Nat.zero_add, List.nil_append] at a'
    have s'' : St h0 h' (A' + (A1 + (B + G))) := by rw [hB2, hB3]; exact s'.to
    rw [Nat.zero_add]
    refine ⟨p', L3, c', nx.set d (nx.getD d 0 + 1), A1, A', rfl, a', hnx1, s'', ?_, ?_, ?_, ?_⟩
    · intro j hj
      obtain rfl : j = 0 := by omega
      exact g3
    · intro i hi; rw [getD_set, if_neg (by omega)]
    · intro i hi
      rw [getD_set]
      split
      · rename_i h5; rw [← h5.1]; omega
      · exact hi
    · intro j
      rw [getD_set]
      split
      · have := hLb d; omega
      · exact hb j
  · obtain ⟨m', rfl⟩ : ∃ m', m = m' + 1 := ⟨m - 1, by omega⟩
    have hlen := hwf.1
    refine ⟨fun x h' => ∃ (i : Nat) (nx' : List Nat) (out : List E) (D A' : Bag), x.2.1 = i ∧ i ≤ t.es.length + 1 ∧ ((i ≤ t.es.length ∧ out = pre (m' + 1) t i) ∨ (i = t.es.length + 1 ∧ out = flat (m' + 1) t)) ∧ Sl TI x.1.1 x.1.2.1 x.1.2.2 (out.map Prod.fst) D ∧ Sl TI q (N + 1) e (nums nx') A' ∧ St h0 h' (D + (A' + (B + G))) ∧
      Rm LL nx' d = R 0 ∧ (∀ j, j ≤ m' → Rm LL nx' (d + 1 + j) = (t.ts.drop i).flatMap (lv m' j) ++ R (j + 1)) ∧ (∀ i, i < d → nx'.getD i 0 = nx.getD i 0) ∧ (∀ i, (nx.getD i 0 ≤ (LL.getD i []).length → nx'.getD i 0 ≤ (LL.getD i []).length)) ∧ (∀ j, nx'.getD j 0 ≤ 100000), fun x _ => t.es.length + 2 - x.2.1.toNat, ?_, ?_⟩
    · refine ⟨0, nx.set d (nx.getD d 0 + 1), [], 0, A1, rfl, by omega, .inl ⟨by omega, ?_⟩, Sl.nil, hnx1, s1.to, g3, ?_, ?_, ?_, ?_⟩
      · simp [pre, wL]
      · intro j hj
        rw [Rm_other (by omega), show d + 1 + j = d + (j + 1) by omega, hR (j + 1) (by omega)]
        rfl
      · intro i hi; rw [getD_set, if_neg (by omega)]
      · intro i hi
        rw [getD_set]
        split
        · rename_i h5; rw [← h5.1]; omega
        · exact hi
      · intro j
        rw [getD_set]
        split
        · have := hLb d; omega
        · exact hb j
    rintro ⟨⟨pr, kr, cr⟩, _, _⟩ h4 ⟨i, nx', out, D, A', rfl, hi, hout, ho1, hnx', s4, k1, k2, k3, k4, k5⟩
    dsimp only at ho1 ⊢
    rw [r43_Keys_b1_eq]
    have hkr := ho1.len
    rw [List.length_map] at hkr
    have hnl4 : nx'.length = N + 1 := by have := hnx'.len; simpa using this
    refine condP (fun hle => ?_) (fun hgt => ?_)
    · have hie : i ≤ t.es.length := by omega
      obtain ⟨_, rfl⟩ : i ≤ t.es.length ∧ out = pre (m' + 1) t i := by rcases hout with h | h; exact h; omega
      have hpl := pre_len (n := m') hlen hie
      refine ⟨⟨by omega, by omega⟩, ?_⟩
      have e1 : ((d : Int) + 1) = ((d + 1 : Nat) : Int) := by omega
      rw [e1]
      have hit : i < t.ts.length := by omega
      have hge : t.ts.getD i nilT = t.ts[i] := by simp [List.getD, hit]
      have hu : t.ts.getD i nilT ∈ t.ts := by rw [hge]; exact List.getElem_mem hit
      have hdrop : t.ts.drop i = t.ts.getD i nilT :: t.ts.drop (i + 1) := by rw [hge]; exact List.drop_eq_getElem_cons hit
      have hsz := hzk m' rfl _ hu
      have hszh := hsz.here
      have s5 := s4.to (B := A' + (B + (D + G)))
      have hkl : (flat m' (t.ts.getD i nilT)).length ≤ (flat (m' + 1) t).length - (pre (m' + 1) t i).length := by
        rcases Nat.lt_or_ge i t.es.length with h | h
        · obtain ⟨r, hr⟩ := pre_mid (n := m') hlen h
          rw [hr, List.length_append, List.length_append]; omega
        · obtain rfl : i = t.es.length := by omega
          rw [pre_last hlen, List.length_append]; omega
      refine (ih m' rfl (d + 1) (t := t.ts.getD i nilT) (nx := nx') (G := D + G) (R := fun j => (t.ts.drop (i + 1)).flatMap (lv m' j) ++ R (j + 1)) (by omega) (hwf.2 _ hu) (fun h => by omega) (fun _ => hszh.1) hszh.2 (fun m'' hm u hu' => ?_) (by omega) hnx' s5 (fun j hj => ?_) k5).mono fun v2 h6 ⟨r2, k2', c2, nx2, A2, D2, hv2, hs2, hnx2, s6, w1, w2, w3, w4⟩ => ?_
      · subst hm; exact hsz.2 u hu'
      · rw [k2 j hj, hdrop, List.flatMap_cons, List.append_assoc]
      refine ⟨_, _, _, _, hv2, condNo rfl ?_⟩
      have hl2 := hs2.len
      rw [List.length_map] at hl2
      have s7 := s6.to (B := D + (D2 + (A2 + (B + G))))
      refine append_sl ok_int s7 ho1 (hs2.rd (s7.at D2)) (by omega) fun p8 c8 h8 D8 o8 s8 => ?_
      rw [← List.map_append] at o8
      have s8 := (s8.to (B := D2 + (D8 + (A2 + (B + G))))).drop
      have kd : Rm LL nx2 d = R 0 := by
        have := w2 d (by omega)
        unfold Rm at k1 ⊢
        rw [this]; exact k1
      have kr2 : ∀ j, j ≤ m' → Rm LL nx2 (d + 1 + j) = (t.ts.drop (i + 1)).flatMap (lv m' j) ++ R (j + 1) := fun j hj => w1 j hj
      refine condP (fun hlt => ?_) (fun hge' => ?_)
      · have hlt' : i < t.es.length := by omega
        have s9 : St h0 h8 (B3 + (Br3 + (Br2 + (D8 + (A2 + G))))) := by rw [hB2, hB3] at s8; exact s8.to
        refine (hl3.rd s9).int (by omega) (by show (i : Int) < (L3 : Int); omega) ?_
        rw [Int.toNat_natCast]
        have hg1 : (t.es.map Prod.fst).getD i 0 = (t.es.getD i (0, 0)).1 := by simp [List.getD, hlt']
        rw [hg1]
        have hpl2 := pre_len (n := m') (i := i + 1) hlen (by omega)
        rw [pre_succ hlen hlt', List.length_append, List.length_append] at hpl2
        simp at hpl2
        refine push_sl ok_int s8 o8 (x := (t.es.getD i (0, 0)).1) rfl rfl (by omega) fun p9 c9 h9 D9 o9 s10 => ?_
        rw [r43_Keys_b2_eq]
        refine ⟨⟨by omega, by omega⟩, ⟨i + 1, nx2, pre (m' + 1) t (i + 1), D9, A2, by simp only; omega, by omega, .inl ⟨by omega, rfl⟩, ?_, hnx2, s10, kd, kr2, fun j hj => (w2 j (by omega)).trans (k3 j hj), fun j hj => w3 j (k4 j hj), w4⟩, by simp only; omega⟩
        rw [pre_succ hlen hlt']
        simpa using o9
      · obtain rfl : i = t.es.length := by omega
        rw [r43_Keys_b2_eq]
        refine ⟨⟨by omega, by omega⟩, ⟨t.es.length + 1, nx2, flat (m' + 1) t, D8, A2, by simp only; omega, by omega, .inr ⟨rfl, rfl⟩, ?_, hnx2, s8, kd, kr2, fun j hj => (w2 j (by omega)).trans (k3 j hj), fun j hj => w3 j (k4 j hj), w4⟩, by simp only; omega⟩
        rw [pre_last hlen]; exact o8
    · obtain ⟨rfl, rfl⟩ : i = t.es.length + 1 ∧ out = flat (m' + 1) t := by rcases hout with h | h; omega; exact h
      rw [r43_Keys_b3_eq]
      have hdn : t.ts.drop (t.es.length + 1) = [] := List.drop_of_length_le (by omega)
      refine ⟨pr, kr, cr, nx', A', D, rfl, ho1, hnx', s4, ?_, k3, k4, k5⟩
      intro j hj
      cases j with
      | zero => exact k1
      | succ j =>
        have := k2 j (by omega)
        rw [hdn] at this
        rw [show d + (j + 1) = d + 1 + j by omega, this]
        rfl
theorem Keys_ok {h0 : Hp} {order N : Nat} {LL : List (List (List Int))} {p : Option Addr} {c : Nat} {B : Bag} (hor : 3 ≤ order) (h64 : order ≤ 64) (hN : N ≤ 1000) (ho : OutA (p, N + 1, c) LL B) (hLb : ∀ j, (LL.getD j []).length ≤ 100000) :
    ∀ m, KeysS h0 order N LL p c B m
  | 0 => Keys_main hor h64 hN ho hLb 0 fun m' h => by omega
  | m + 1 => Keys_main hor h64 hN ho hLb (m + 1) fun m' h => by
    obtain rfl : m = m' := by omega
    exact Keys_ok hor h64 hN ho hLb m
theorem nums_zero (n : Nat) : nums (List.replicate n 0) = List.replicate n (0 : Int) := by simp [nums]
theorem lv_one {n : Nat} {t : BT} : (lv n 0 t).length = 1 := by cases n <;> rfl
theorem levels_get {n : Nat} {t : BT} {j : Nat} (h : j ≤ n) : (levels n t).getD j [] = lv n j t := by simp [levels, List.getD, (show j < n + 1 by omega)]
theorem levels_len {n : Nat} {t : BT} : (levels n t).length = n + 1 := by simp [levels]
theorem row_len {n : Nat} {ts : List BT} {j hi : Nat} (hj : j ≤ n) (hw : ∀ t ∈ ts, Wf n t) (hz : ∀ t ∈ ts, Sz 1 hi n t) : (ts.flatMap (lv n j)).length ≤ tot n ts := by
  induction n generalizing ts j with
  | zero =>
    obtain rfl : j = 0 := by omega
    rw [lv_here, List.length_map]
    clear hw
    induction ts with
    | nil => simp
    | cons t ts ih =>
      have := ih (fun t h => hz t (by simp [h]))
      have h1 : 1 ≤ t.es.length ∧ t.es.length ≤ hi := hz t (by simp)
      simp only [tot, List.flatMap_cons, List.length_append, List.length_cons, flat] at this ⊢
      omega
  | succ n ih =>
    have hnext : tot n (ts.flatMap BT.ts) ≤ tot (n + 1) ts := by
      clear ih hz
      induction ts with
      | nil => simp [tot]
      | cons t ts ih2 =>
        have := ih2 (fun t h => hw t (by simp [h]))
        have h3 := weave_ge (t.ts.map (flat n)) t.es (by rw [List.length_map]; exact (hw t (by simp)).1)
        have h4 : ((t.ts.map (flat n)).flatMap id) = t.ts.flatMap (flat n) := by simp [List.flatMap_map]
        rw [h4] at h3
        simp only [tot, List.flatMap_cons, List.flatMap_append, List.length_append] at this ⊢
        have h5 : (flat (n + 1) t).length = (weave (t.ts.map (flat n)) t.es).length := rfl
        omega
    have hw' : ∀ t ∈ ts.flatMap BT.ts, Wf n t := by
      intro t ht
      obtain ⟨u, hu, htu⟩ := List.mem_flatMap.1 ht
      exact (hw u hu).2 t htu
    have hz' : ∀ t ∈ ts.flatMap BT.ts, Sz 1 hi n t := by
      intro t ht
      obtain ⟨u, hu, htu⟩ := List.mem_flatMap.1 ht
      exact (hz u hu).2 t htu
    cases j with
    | succ j =>
      rw [lv_next]
      exact Nat.le_trans (ih (by omega) hw' hz') hnext
    | zero =>
      have h1 := ih (j := 0) (by omega) hw' hz'
      rw [lv_here, List.length_map] at h1 ⊢
      have h2 : ts.length ≤ (ts.flatMap BT.ts).length := by
        clear h1 hz' hw' hnext ih hz
        induction ts with
        | nil => simp
        | cons t ts ih2 =>
          have := ih2 (fun t h => hw t (by simp [h]))
          have h3 := (hw t (by simp)).1
          simp only [List.flatMap_cons, List.length_append, List.length_cons]
          omega
      omega
theorem Shaped_ok {h0 h : Hp} {order : Nat} {xs : List E} {ls : List (List (List Int))} {p q : Option Addr} {n c m d : Nat} {B G : Bag} {ks : List Int} (hor : 3 ≤ order) (h64 : order ≤ 64) (hl : levelsT order xs ls) (hmost : xs.length ≤ 2000) (ho : OutA (p, n, c) ls B) (rk : RdS h0 G TI q m ks) (hk : ks = xs.map Prod.fst) (s : St h0 h (B + G)) :
    HCalls Try.prog 15 #[.int .i64 (order : Int), .slice p n c, .slice q m d] h (fun v h' => v = .bool true ∧ St h0 h' (B + G)) := by
  subst hk
  have hn := ho.len
  dsimp only at hn
  have hm := (rk h B s).len
  rw [List.length_map] at hm
  refine r43_Shaped_call ?_
  rw [r43_Shaped_b0_eq]
  rcases hl with ⟨rfl, rfl⟩ | ⟨N, t, b, A, rfl, hh, rfl, hsz⟩
  · subst hm hn
    exact condYes rfl (condYes rfl ⟨rfl, s⟩)
  · rw [levels_len] at hn
    subst hn
    have hlow := hsz.low hh (by omega)
    have hN := pow_bound (n := N) (m := (flat N t).length) hlow (by omega)
    have h2 : 2 ≤ 2 ^ (N + 1) := by
      rw [Nat.pow_succ]
      have : 1 ≤ 2 ^ N := Nat.one_le_pow _ _ (by decide)
      omega
    refine condNo (decide_eq_false (by omega)) (condNo (decide_eq_false (by omega)) ?_)
    rw [r43_Shaped_b1_eq]
    refine condNo (decide_eq_false (by omega)) ?_
    refine ho.at_ s (d := []) (by omega) (by show (0 : Int) < ((N + 1 : Nat) : Int); omega) fun a3 L1 C1 B1 Br1 hlev hB1 => ?_
    have hL1 := hlev.len
    dsimp only at hL1
    rw [show Int.toNat 0 = 0 from rfl, levels_get (by omega), lv_one] at hL1
    subst hL1
    refine condNo rfl ?_
    rw [r43_Shaped_b2_eq]
    refine ⟨⟨by omega, by omega, by omega, by omega⟩, ?_⟩
    rw [Int.toNat_natCast]
    refine s.new (cs := repL ((N + 1) * 1) [.int .i64 0]) fun b1 h1 _ s1 => ?_
    rw [Nat.mul_one, repL_one] at s1
    have hsl : Sl TI (some ⟨b1, 0, none⟩) (N + 1) (N + 1) (nums (List.replicate (N + 1) 0)) (cA b1 (List.replicate (N + 1) (Value.int .i64 0)) 3) := by
      refine Sl.of_blk (by simp) ?_
      rw [nums_zero, tI_cells, List.map_replicate]
    have hw := hh.wf
    have hz1 := hsz.one (by omega)
    have hLb : ∀ j, ((levels N t).getD j []).length ≤ 100000 := by
      intro j
      rcases Nat.lt_or_ge N j with h | h
      · have : (levels N t).getD j [] = [] := by simp [levels, List.getD, (show ¬ j < N + 1 by omega)]
        rw [this]; simp
      · rw [levels_get h]
        have := row_len (n := N) (ts := [t]) (j := j) (hi := order - 1) h (by simpa using hw) (by simpa using hz1)
        simp [tot] at this
        omega
    have hhere : 1 ≤ t.es.length ∧ t.es.length ≤ order - 1 := by
      cases N with
      | zero => exact hsz
      | succ N => exact hsz.1
    have hnx0 : ∀ j, (List.replicate (N + 1) 0).getD j 0 = 0 := by
      intro j
      simp only [List.getD, List.getElem?_replicate]
      split <;> rfl
    refine (Keys_ok hor h64 (by omega) ho hLb N 0 (t := t) (R := fun _ => []) (by omega) hw (fun _ => hhere.1) (fun h => absurd rfl h) hhere.2 (fun m' hm' u hu => ?_) hmost hsl s1 (fun j hj => ?_) (fun j => by rw [hnx0 j]; omega)).mono fun v1 h2 ⟨r, k, cc, nx', A', D, hv1, hs1, hnx, s2, w1, _, w3, _⟩ => ?_
    · subst hm'; exact hsz.2 u hu
    · unfold Rm
      rw [hnx0, Nat.zero_add, levels_get hj]
      simp
    refine ⟨_, _, _, _, hv1, condNo rfl ?_⟩
    have s3 := s2.to (B := D + (A' + B) + G)
    have hk1 := hs1.len
    rw [List.length_map] at hk1
    refine (SameList_ok (hs1.rd s2) (rk h2 _ s3) (by omega)).mono fun v2 h3 ⟨hh3, hv2⟩ => ?_
    subst hh3
    refine ⟨_, hv2, condNo (by simp) ?_⟩
    rw [r43_Shaped_b3_eq]
    have sB := s2.to (B := B + (A' + (D + G)))
    have hnxl : nx'.length = N + 1 := by have := hnx.len; simpa using this
    refine ⟨fun x h' => h' = h3 ∧ ∃ i : Nat, x.1 = i ∧ i ≤ N + 1, fun x _ => N + 1 - x.1.toNat, ⟨rfl, 0, rfl, by omega⟩, ?_⟩
    rintro ⟨_, _⟩ h4 ⟨rfl, i, rfl, hi⟩
    dsimp only
    rw [r43_Shaped_b4_eq]
    refine condP (fun hlt => ?_) (fun hge => ?_)
    · refine (hnx.rd (s2.at A')).int (by omega) (by omega) ?_
      rw [Int.toNat_natCast, nums_get]
      refine ho.at_ sB (d := []) (by omega) (by show (i : Int) < ((N + 1 : Nat) : Int); omega) fun a5 L2 C2 B2 Br2 hlev2 hB2 => ?_
      rw [Int.toNat_natCast] at hlev2
      have hL2 := hlev2.len
      dsimp only at hL2
      have hrm := w1 i (by omega)
      have hle := w3 i (by rw [hnx0]; omega)
      unfold Rm at hrm
      rw [Nat.zero_add] at hrm
      have hge := congrArg List.length hrm
      rw [List.length_drop] at hge
      simp only [List.length_nil] at hge
      refine condNo ?_ ?_
      · rw [decide_eq_true (by omega)]; rfl
      · rw [r43_Shaped_b5_eq]
        exact ⟨⟨by omega, by omega⟩, ⟨rfl, i + 1, by simp only; omega, by omega⟩, by simp only; omega⟩
    · rw [r43_Shaped_b6_eq]
      exact ⟨rfl, (s2.to (B := (D + A') + (B + G))).drop⟩
end Go.Proofs.Ytaemnjblcpknpaa
