/- Part UG P41 P44 P45 UH UI UJ UK UL UM R1 FBT UN UO UP of the proof: contracts of functions of the program, and what follows from them. -/
import Derived.Test.YtfkccighnkepgaaSxUF
import Derived.Test.YtfkccighnkepgaaSxSL
import Derived.Deep.Slices
import Derived.OpenShut
import Derived.Test.YtfkccighnkepgaaRows
import Derived.WalkKit
import Derived.ProofKit
import Derived.ShutString
import Derived.ChangeOld
import Derived.Below
import Derived.ChangeMaps5
import Derived.Deep.Grids
import Derived.HandedShaped
/- The reference: Batch, from its start. -/
set_option maxRecDepth 100000
namespace Go.Proofs.Ytfkccighnkepgaa
open Go Go.Sx
theorem has_any {M : List LRow} {nx : Int} (o : LOk M nx) (k : Int) : (M.any fun x => decide (x.2.1 = k ∧ x.1 ≠ -1)) = decide (k ∈ keysL M) := by
  rw [Bool.eq_iff_iff, List.any_eq_true, decide_eq_true_eq]
  constructor
  · rintro ⟨x, hx, hc⟩
    exact List.mem_map.2 ⟨x, hx, (of_decide_eq_true hc).1⟩
  · intro hc
    obtain ⟨x, hx, he⟩ := List.mem_map.1 hc
    exact ⟨x, hx, decide_eq_true ⟨he, by have := (o.lt x hx).1; omega⟩⟩
theorem mem_take_getD {α : Type} {d x : α} {l : List α} {i : Nat} (hi : i ≤ l.length) : x ∈ l.take i ↔ ∃ j, j < i ∧ l.getD j d = x := by
  rw [List.mem_take_iff_getElem]
  constructor
  · rintro ⟨j, hj, rfl⟩; exact ⟨j, by omega, getD_get (by omega)⟩
  · rintro ⟨j, hj, rfl⟩; exact ⟨j, by omega, (getD_get (by omega)).symm⟩
section
variable {h h1 : Hp} {p q : Option Addr} {n c m d : Nat} {nx nu : Int} {L Lu : List LRow} {G : Bag} {b1 b2 b3 : Nat} {ds : List Int} {ins : List Rec} {dp ip : Option Addr} {dn dc im ic : Nat}
theorem UIn.grow {h2 : Hp} (u : UIn h b1 b2 b3 p n c q m d L nx Lu nu G h1) (x : Ext h1 h2) : UIn h b1 b2 b3 p n c q m d L nx Lu nu G h2 := by
  obtain ⟨p', n', c', q', m', d', O, w, s⟩ := u
  exact ⟨p', n', c', q', m', d', O, w, s.grow x⟩
theorem btR15 (LO : LOk L nx) (r1 : RdT TI h p n (L.map Prod.fst)) (r2 : RdT tRec h q m (L.map Prod.snd)) (hc : n ≤ c) (hdm : m ≤ d) (ri : RdT tRec h ip im ins) (hnx : nx ≤ 900000) (him : im ≤ 1000000) (h1v : ∀ r ∈ ins, vRec r = true) (h2v : ds.Nodup) (h3v : ∀ d ∈ ds, d ∈ L.map Prod.fst) (h4v : (keysL (delA L ds) ++ ins.map fun r => r.1).Nodup) (u : UIn h b1 b2 b3 p n c q m d L nx (delA L ds) nx G h1) :
    r50_Batch_b15 ip im ic (some ⟨b1, 0, none⟩) (some ⟨b2, 0, none⟩) (some ⟨b3, 0, none⟩) h1 (BatRQ h p n c q m d L nx ds ins) := by
  have hli := ri.len
  have hol := (delA_ok LO ds).len
  have u0 := u
  obtain ⟨p', n', c', q', m', d', O, w, s⟩ := u
  obtain ⟨q1, q2, q3, q4⟩ := w.rd r1 r2 hc hdm (s.at O)
  have hl := q1.len
  rw [List.length_map] at hl
  rw [r50_Batch_b15_eq]
  refine ⟨_, _, _, s.ld0, ⟨by omega, by omega⟩, condP (fun hf => ?_) (fun hf => ?_)⟩
  · exact ⟨_, _, _, _, _, _, _, s.ld0, s.ldB, s.ldB, s.wr3 fun h5 s => ⟨_, _, _, _, _, _, _, s.ld0, s.ldB, s.ldB, .inl ⟨4, BE.ful h1v h2v h3v h4v (by omega), by decide, rfl, s.ext⟩⟩⟩
  · exact btR18 (LO := LO) r1 r2 hc hdm ri (BE.okk h1v h2v h3v h4v (by omega)) hnx u0
theorem btR11 (LO : LOk L nx) (r1 : RdT TI h p n (L.map Prod.fst)) (r2 : RdT tRec h q m (L.map Prod.snd)) (hc : n ≤ c) (hdm : m ≤ d) (ri : RdT tRec h ip im ins) (hnx : nx ≤ 900000) (him : im ≤ 1000000) (hkn : (keysL L).Nodup) (h1v : ∀ r ∈ ins, vRec r = true) (h2v : ds.Nodup) (h3v : ∀ d ∈ ds, d ∈ L.map Prod.fst) (u : UIn h b1 b2 b3 p n c q m d L nx (delA L ds) nx G h1) :
    r50_Batch_b11 ip im ic (some ⟨b1, 0, none⟩) (some ⟨b2, 0, none⟩) (some ⟨b3, 0, none⟩) h1 (BatRQ h p n c q m d L nx ds ins) := by
  have hli := ri.len
  have lo := delA_ok LO ds
  have hol := lo.len
  rw [r50_Batch_b11_eq]
  refine ⟨fun x h' => ∃ i : Nat, x.1 = i ∧ i ≤ im ∧ (∀ j, j < i → (ins.getD j tRec.d).1 ∉ keysL (delA L ds) ∧ (ins.getD j tRec.d).1 ∉ (ins.take j).map fun r => r.1) ∧ UIn h b1 b2 b3 p n c q m d L nx (delA L ds) nx G h', fun x _ => (im - x.1).toNat, ⟨0, rfl, Nat.zero_le _, fun j hj => absurd hj (Nat.not_lt_zero _), u⟩, ?_⟩
  clear u
  rintro ⟨z, _⟩ h2 ⟨i, hz, hi, hok, u⟩
  dsimp only at hz ⊢
  subst hz
  rw [r50_Batch_b13_eq]
  refine condP (fun hlt => ?_) (fun hge => ?_)
  · have hil : i < ins.length := by omega
    have hbad := fun hc => BE.exi h1v h2v h3v (keys_bad (L := L) (ds := ds) (ins := ins) hil hc)
    have u0 := u
    obtain ⟨p', n', c', q', m', d', O, w, s⟩ := u
    obtain ⟨q1, q2, q3, q4⟩ := w.rd r1 r2 hc hdm (s.at O)
    have hl := q1.len
    rw [List.length_map] at hl
    refine ⟨_, _, _, _, _, _, _, s.ld0, s.ldB, s.ldB, rec_key (ri.ext s.ext) (by omega) ?_⟩
    refine (Has_r (L := delA L ds) q1 q2 (by omega) (ins.getD i tRec.d).1 (-1)).mono fun v h3 ⟨x3, hv⟩ => ⟨_, hv, ?_⟩
    have s := s.grow x3
    rw [has_any lo]
    refine condP (fun hk => ?_) (fun hk => ?_)
    · exact ⟨_, _, _, _, _, _, _, s.ld0, s.ldB, s.ldB, s.wr3 fun h5 s => ⟨_, _, _, _, _, _, _, s.ld0, s.ldB, s.ldB, .inl ⟨15, hbad (.inl hk), by decide, rfl, s.ext⟩⟩⟩
    refine ⟨fun x h' => h' = h3 ∧ ∃ k : Nat, x.1 = k ∧ k ≤ i ∧ ∀ j, j < k → (ins.getD j tRec.d).1 ≠ (ins.getD i tRec.d).1, fun x _ => (i - x.1).toNat, ⟨rfl, 0, rfl, Nat.zero_le _, fun j hj => absurd hj (Nat.not_lt_zero _)⟩, ?_⟩
    rintro ⟨z, _⟩ h4 ⟨rfl, k, hz, hki, hno⟩
    dsimp only at hz ⊢
    subst hz
    rw [r50_Batch_b14_eq]
    refine condP (fun hlt2 => ?_) (fun hge2 => ?_)
    · refine rec_key (ri.ext s.ext) (by omega) (rec_key (ri.ext s.ext) (by omega) (condP (fun he => ?_) (fun he => ?_)))
      · refine ⟨_, _, _, _, _, _, _, s.ld0, s.ldB, s.ldB, s.wr3 fun h5 s => ⟨_, _, _, _, _, _, _, s.ld0, s.ldB, s.ldB, .inl ⟨15, hbad (.inr ?_), by decide, rfl, s.ext⟩⟩⟩
        exact List.mem_map.2 ⟨ins.getD k tRec.d, (mem_take_getD (by omega)).2 ⟨k, by omega, rfl⟩, he⟩
      · rw [r50_Batch_b16_eq]
        refine ⟨⟨by omega, by omega⟩, ⟨rfl, k + 1, by push_cast; rfl, by omega, fun j hj => ?_⟩, by dsimp only; omega⟩
        rcases Nat.lt_or_ge j k with h | h
        · exact hno j h
        · obtain rfl : j = k := by omega
          exact he
    · obtain rfl : k = i := by omega
      rw [r50_Batch_b17_eq]
      refine ⟨⟨by omega, by omega⟩, ⟨k + 1, by push_cast; rfl, by omega, fun j hj => ?_, u0.grow x3⟩, by dsimp only; omega⟩
      rcases Nat.lt_or_ge j k with h | h
      · exact hok j h
      · obtain rfl : j = k := by omega
        refine ⟨hk, fun hc => ?_⟩
        obtain ⟨y, hy, hye⟩ := List.mem_map.1 hc
        obtain ⟨t, ht, rfl⟩ := (mem_take_getD (d := tRec.d) (by omega)).1 hy
        exact hno t ht hye
  · obtain rfl : i = im := by omega
    rw [← hli] at hok
    exact btR15 LO r1 r2 hc hdm ri hnx him h1v h2v h3v (keys_good hkn hok) u
theorem btR6 (LO : LOk L nx) (r1 : RdT TI h p n (L.map Prod.fst)) (r2 : RdT tRec h q m (L.map Prod.snd)) (hc : n ≤ c) (hdm : m ≤ d) (rd : RdT TI h dp dn ds) (ri : RdT tRec h ip im ins) (hnx : nx ≤ 900000) (hdn : dn ≤ 1000000) (him : im ≤ 1000000) (hkn : (keysL L).Nodup) (h1v : ∀ r ∈ ins, vRec r = true) (h2v : ds.Nodup)
    (s : St h h1 (cA b1 (tb50 p n c q m d nx) 29 + (cA b2 (tb50 none 0 0 none 0 0 0) 29 + G))) :
    r50_Batch_b6 dp dn dc ip im ic (some ⟨b1, 0, none⟩) (some ⟨b2, 0, none⟩) h1 (BatRQ h p n c q m d L nx ds ins) := by
  have hld := rd.len
  rw [r50_Batch_b6_eq]
  refine ⟨_, _, _, _, _, _, _, s.ld0, s.ldB, s.ldB, s.new (cs := [_, _, _]) fun b3 h2 _ s => s.wr3 fun h3 s => ?_⟩
  have u : UIn h b1 b2 b3 p n c q m d L nx L nx G h3 := ⟨p, n, c, q, m, d, 0, .inl ⟨rfl, rfl, rfl, rfl, rfl, rfl, rfl, rfl, rfl⟩, by rw [Bag.zero_add]; exact s.to⟩
  clear s
  refine ⟨fun x h' => ∃ i : Nat, x.1 = i ∧ i ≤ dn ∧ (∀ j, j < i → ds.getD j 0 ∈ L.map Prod.fst) ∧ UIn h b1 b2 b3 p n c q m d L nx (delA L (ds.take i)) nx G h', fun x _ => (dn - x.1).toNat, ⟨0, rfl, Nat.zero_le _, fun j hj => absurd hj (Nat.not_lt_zero _), by rw [List.take_zero, delA_nil]; exact u⟩, ?_⟩
  clear u
  rintro ⟨z, _⟩ h2 ⟨i, hz, hi, hok, u⟩
  dsimp only at hz ⊢
  subst hz
  rw [r50_Batch_b9_eq]
  refine condP (fun hlt => ?_) (fun hge => ?_)
  · have hil : i < ds.length := by omega
    have htk : ds.take (i + 1) = ds.take i ++ [ds.getD i 0] := by rw [getD_get hil, List.take_succ_eq_append_getElem hil]
    have hnt : ds.getD i 0 ∉ ds.take i := fun hc => by
      have h2' : (ds.take (i + 1)).Nodup := h2v.sublist (List.take_sublist _ _)
      rw [htk, List.nodup_append] at h2'
      exact h2'.2.2 _ hc _ (List.mem_singleton.2 rfl) rfl
    have lo := delA_ok LO (ds.take i)
    have hol := lo.len
    obtain ⟨p', n', c', q', m', d', O, w, s⟩ := u
    have e10 : ∀ (nb : Nat) (h' : Hp) (p2 : Option Addr) (n2 c2 : Nat) (q2 : Option Addr) (m2 d2 : Nat) (O1 O2 : Bag), ds.getD i 0 ∈ L.map Prod.fst → Sl TI p2 n2 c2 ((delA L (ds.take (i + 1))).map Prod.fst) O1 → Sl tRec q2 m2 d2 ((delA L (ds.take (i + 1))).map Prod.snd) O2 →
        St h h' (cA nb (tb50 p2 n2 c2 q2 m2 d2 nx) 29 + ((O1 + O2) + (cA b3 (tb50 p' n' c' q' m' d' nx) 29 + (O + (cA b1 (tb50 p n c q m d nx) 29 + (cA b2 (tb50 none 0 0 none 0 0 0) 29 + G)))))) →
        r50_Batch_b10 dp dn dc ip im ic (some ⟨b1, 0, none⟩) (some ⟨b2, 0, none⟩) (some ⟨b3, 0, none⟩) (i : Int) (some ⟨nb, 0, none⟩) 0 h' (fun s' h' => (∃ i : Nat, s'.1 = i ∧ i ≤ dn ∧ (∀ j, j < i → ds.getD j 0 ∈ L.map Prod.fst) ∧ UIn h b1 b2 b3 p n c q m d L nx (delA L (ds.take i)) nx G h') ∧ (dn - s'.1).toNat < (dn - (i : Int)).toNat) (BatRQ h p n c q m d L nx ds ins) := fun nb h' p2 n2 c2 q2 m2 d2 O1 O2 hm o1 o2 s => by
      rw [r50_Batch_b10_eq]
      refine condNo rfl ⟨_, _, _, _, _, _, _, s.ld0, s.ldB, s.ldB, s.wr3 fun h3 s => ?_⟩
      rw [r50_Batch_b12_eq]
      refine ⟨⟨by omega, by omega⟩, ⟨i + 1, by push_cast; rfl, by omega, fun j hj => ?_, p2, n2, c2, q2, m2, d2, O1 + O2, .inr ⟨O1, O2, o1, o2, rfl⟩, ?_⟩, by dsimp only; omega⟩
      · rcases Nat.lt_or_ge j i with h | h
        · exact hok j h
        · obtain rfl : j = i := by omega
          exact hm
      · exact ((((s.find nb).drop).to (B := O + (cA b3 (tb50 p2 n2 c2 q2 m2 d2 nx) 29 + ((O1 + O2) + (cA b1 (tb50 p n c q m d nx) 29 + (cA b2 (tb50 none 0 0 none 0 0 0) 29 + G)))))).drop)
    have er : ∀ (nb : Nat) (h' : Hp), ds.getD i 0 ∉ L.map Prod.fst → St h h' (cA nb (tb50 p' n' c' q' m' d' nx) 29 + (cA b3 (tb50 p' n' c' q' m' d' nx) 29 + (O + (cA b1 (tb50 p n c q m d nx) 29 + (cA b2 (tb50 none 0 0 none 0 0 0) 29 + G))))) →
        r50_Batch_b10 dp dn dc ip im ic (some ⟨b1, 0, none⟩) (some ⟨b2, 0, none⟩) (some ⟨b3, 0, none⟩) (i : Int) (some ⟨nb, 0, none⟩) 12 h' (fun s' h' => (∃ i : Nat, s'.1 = i ∧ i ≤ dn ∧ (∀ j, j < i → ds.getD j 0 ∈ L.map Prod.fst) ∧ UIn h b1 b2 b3 p n c q m d L nx (delA L (ds.take i)) nx G h') ∧ (dn - s'.1).toNat < (dn - (i : Int)).toNat) (BatRQ h p n c q m d L nx ds ins) := fun nb h' hm s => by
      rw [r50_Batch_b10_eq]
      refine condYes rfl ⟨_, _, _, _, _, _, _, s.ld0, s.ldB, s.ldB, s.wr3 fun h5 s => ⟨_, _, _, _, _, _, _, s.ld0, s.ldB, s.ldB, .inl ⟨12, BE.non h1v h2v ⟨ds.getD i 0, by rw [getD_get hil]; exact List.getElem_mem hil, hm⟩, by decide, rfl, s.ext⟩⟩⟩
    rw [htk, delA_snoc] at e10
    obtain ⟨q1, q2, q3, q4⟩ := w.rd r1 r2 hc hdm (s.at O)
    have hl := q1.len
    rw [List.length_map] at hl
    refine ⟨_, _, _, _, _, _, _, s.ld0, s.ldB, s.ldB, ldIc (rd.ext s.ext) (by omega) fun ad c0 => ⟨?_, ?_⟩⟩
    · refine (Delete_r q1 q2 q3 q4 (by omega) lo.ids (ds.getD i 0)).mono fun w1 h3 hw => ?_
      rcases hw with ⟨hno, rfl, x3⟩ | ⟨hm, p2, n2, c2, q2, m2, d2, O1, O2, rfl, o1, o2, st⟩
      · have s := s.grow x3
        exact ⟨_, _, _, _, _, _, _, _, rfl, s.new (cs := [_, _, _]) fun nb h4 _ s => s.wr3 fun h5 s => er nb h5 (fun hm => hno (delA_ids.2 ⟨hm, hnt⟩)) s⟩
      · have s := s.join st
        exact ⟨_, _, _, _, _, _, _, _, rfl, s.new (cs := [_, _, _]) fun nb h4 _ s => s.wr3 fun h5 s => e10 nb h5 p2 n2 c2 q2 m2 d2 O1 O2 (delA_ids.1 hm).1 o1 o2 s⟩
    · refine s.new (cs := [_, _, _]) fun nb h4 x4 s => ⟨⟨_, x4.cell c0, rfl⟩, ⟨_, _, _, _, _, _, _, s.ld0, s.ldB, s.ldB, rfl⟩, ?_⟩
      refine (Delete_r (q1.ext x4) (q2.ext x4) q3 q4 (by omega) lo.ids (ds.getD i 0)).mono fun w1 h3 hw => ?_
      rcases hw with ⟨hno, rfl, x3⟩ | ⟨hm, p2, n2, c2, q2, m2, d2, O1, O2, rfl, o1, o2, st⟩
      · have s := s.grow x3
        exact ⟨_, _, _, _, _, _, _, _, rfl, s.wr3 fun h5 s => er nb h5 (fun hm => hno (delA_ids.2 ⟨hm, hnt⟩)) s⟩
      · have s := s.join st
        exact ⟨_, _, _, _, _, _, _, _, rfl, s.wr3 fun h5 s => e10 nb h5 p2 n2 c2 q2 m2 d2 O1 O2 (delA_ids.1 hm).1 o1 o2 s.to⟩
  · obtain rfl : i = dn := by omega
    rw [List.take_of_length_le (by omega)] at u
    refine btR11 LO r1 r2 hc hdm ri hnx him hkn h1v h2v (fun d hd => ?_) u
    obtain ⟨j, hj, rfl⟩ := List.getElem_of_mem hd
    have := hok j (by omega)
    rwa [getD_get hj] at this
theorem btR3 (LO : LOk L nx) (r1 : RdT TI h p n (L.map Prod.fst)) (r2 : RdT tRec h q m (L.map Prod.snd)) (hc : n ≤ c) (hdm : m ≤ d) (rd : RdT TI h dp dn ds) (ri : RdT tRec h ip im ins) (hnx : nx ≤ 900000) (hdn : dn ≤ 1000000) (him : im ≤ 1000000) (hkn : (keysL L).Nodup) (h1v : ∀ r ∈ ins, vRec r = true)
    (s : St h h1 (cA b1 (tb50 p n c q m d nx) 29 + (cA b2 (tb50 none 0 0 none 0 0 0) 29 + G))) :
    r50_Batch_b3 dp dn dc ip im ic (some ⟨b1, 0, none⟩) (some ⟨b2, 0, none⟩) h1 (BatRQ h p n c q m d L nx ds ins) := by
  have hld := rd.len
  rw [r50_Batch_b3_eq]
  refine ⟨fun x h' => h' = h1 ∧ ∃ i : Nat, x.1 = i ∧ i ≤ dn ∧ ∀ j, j < i → ∀ k, k < j → ds.getD k 0 ≠ ds.getD j 0, fun x _ => (dn - x.1).toNat, ⟨rfl, 0, rfl, Nat.zero_le _, fun j hj => absurd hj (Nat.not_lt_zero _)⟩, ?_⟩
  rintro ⟨z, _⟩ h2 ⟨rfl, i, hz, hi, hok⟩
  dsimp only at hz ⊢
  subst hz
  rw [r50_Batch_b4_eq]
  refine condP (fun hlt => ?_) (fun hge => ?_)
  · refine ⟨fun x h' => h' = h2 ∧ ∃ k : Nat, x.1 = k ∧ k ≤ i ∧ ∀ j, j < k → ds.getD j 0 ≠ ds.getD i 0, fun x _ => (i - x.1).toNat, ⟨rfl, 0, rfl, Nat.zero_le _, fun j hj => absurd hj (Nat.not_lt_zero _)⟩, ?_⟩
    rintro ⟨z, _⟩ h4 ⟨rfl, k, hz, hki, hno⟩
    dsimp only at hz ⊢
    subst hz
    rw [r50_Batch_b5_eq]
    refine condP (fun hlt2 => ?_) (fun hge2 => ?_)
    · refine ldI (i' := k) (rd.ext s.ext) rfl (by omega) (ldI (i' := i) (rd.ext s.ext) rfl (by omega) (condP (fun he => ?_) (fun he => ?_)))
      · refine ⟨_, _, _, _, _, _, _, s.ld0, s.ldB, s.ldB, s.wr3 fun h5 s => ⟨_, _, _, _, _, _, _, s.ld0, s.ldB, s.ldB, .inl ⟨10, BE.twice h1v fun hn => ?_, by decide, rfl, s.ext⟩⟩⟩
        have := List.pairwise_iff_getElem.1 (List.nodup_iff_pairwise_ne.1 hn) k i (by omega) (by omega) (by omega)
        rw [getD_get (by omega), getD_get (by omega)] at he
        exact this he
      · rw [r50_Batch_b7_eq]
        refine ⟨⟨by omega, by omega⟩, ⟨rfl, k + 1, by push_cast; rfl, by omega, fun j hj => ?_⟩, by dsimp only; omega⟩
        rcases Nat.lt_or_ge j k with h | h
        · exact hno j h
        · obtain rfl : j = k := by omega
          exact he
    · obtain rfl : k = i := by omega
      rw [r50_Batch_b8_eq]
      refine ⟨⟨by omega, by omega⟩, ⟨rfl, k + 1, by push_cast; rfl, by omega, fun j hj => ?_⟩, by dsimp only; omega⟩
      rcases Nat.lt_or_ge j k with h | h
      · exact hok j h
      · obtain rfl : j = k := by omega
        exact hno
  · obtain rfl : i = dn := by omega
    refine btR6 LO r1 r2 hc hdm rd ri hnx hdn him hkn h1v ?_ s
    rw [List.nodup_iff_pairwise_ne, List.pairwise_iff_getElem]
    intro k j hk hj hkj
    have := hok j (by omega) k hkj
    rwa [getD_get hk, getD_get hj] at this
theorem Batch_r (LO : LOk L nx) (r1 : RdT TI h p n (L.map Prod.fst)) (r2 : RdT tRec h q m (L.map Prod.snd)) (hc : n ≤ c) (hdm : m ≤ d) (rd : RdT TI h dp dn ds) (ri : RdT tRec h ip im ins) (hnx : nx ≤ 900000) (hdn : dn ≤ 1000000) (him : im ≤ 1000000) (hkn : (keysL L).Nodup) :
    HCalls Try.prog 66 #[encT p n c q m d nx, .slice dp dn dc, .slice ip im ic] h (BatRQ h p n c q m d L nx ds ins) := by
  have hli := ri.len
  refine r50_Batch_call ?_
  rw [r50_Batch_b0_eq]
  refine (St.start h).new (cs := [_, _, _]) fun b1 h1 _ s => s.new (cs := [_, _, _]) fun b2 h2 _ s => ?_
  refine ⟨fun x h' => ∃ i : Nat, x.1 = i ∧ i ≤ im ∧ (∀ r ∈ ins.take i, vRec r = true) ∧ St h h' (cA b1 (tb50 p n c q m d nx) 29 + (cA b2 (tb50 none 0 0 none 0 0 0) 29 + 0)), fun x _ => (im - x.1).toNat, ⟨0, rfl, Nat.zero_le _, fun r hr => by simp at hr, s.to⟩, ?_⟩
  clear s
  rintro ⟨z, _⟩ h3 ⟨i, hz, hi, hok, s⟩
  dsimp only at hz ⊢
  subst hz
  rw [r50_Batch_b1_eq]
  refine condP (fun hlt => ?_) (fun hge => ?_)
  · have hil : i < ins.length := by omega
    have htk : ins.take (i + 1) = ins.take i ++ [ins.getD i tRec.d] := by rw [getD_get hil, List.take_succ_eq_append_getElem hil]
    refine rec_rd (ri.ext s.ext) (by omega) fun ad _ => ?_
    refine (Valid_r (ins.getD i tRec.d) h3).mono fun v h4 ⟨x4, hv⟩ => ⟨_, hv, ?_⟩
    have s := s.grow x4
    refine cond_intro (fun hb => ?_) (fun hb => ?_)
    · exact ⟨_, _, _, _, _, _, _, s.ld0, s.ldB, s.ldB, s.wr3 fun h5 s => ⟨_, _, _, _, _, _, _, s.ld0, s.ldB, s.ldB, .inl ⟨1, BE.arg ⟨ins.getD i tRec.d, by rw [getD_get hil]; exact List.getElem_mem hil, by simpa using hb⟩, by decide, rfl, s.ext⟩⟩⟩
    · rw [r50_Batch_b2_eq]
      refine ⟨⟨by omega, by omega⟩, ⟨i + 1, by push_cast; rfl, by omega, fun r hr => ?_, s⟩, by dsimp only; omega⟩
      rw [htk, List.mem_append, List.mem_singleton] at hr
      rcases hr with hr | rfl
      · exact hok r hr
      · simpa using hb
  · obtain rfl : i = im := by omega
    rw [List.take_of_length_le (by omega)] at hok
    exact btR3 LO r1 r2 hc hdm rd ri hnx hdn him hkn hok s
end
end Go.Proofs.Ytfkccighnkepgaa

/- Plain lists: stable sorting. -/
namespace Go.Sx
variable {α : Type} {d : α}
/-- Whether an element is like another one. -/
noncomputable def like (lt : α → α → Prop) (z y : α) : Bool := @decide (¬ lt y z ∧ ¬ lt z y) (Classical.propDecidable _)
/-- The same elements; those that are alike in the same order. -/
def Stb (lt : α → α → Prop) (xs ys : List α) : Prop := ys.Perm xs ∧ ∀ z, ys.filter (like lt z) = xs.filter (like lt z)
theorem Stb.refl {lt : α → α → Prop} (xs : List α) : Stb lt xs xs := ⟨.refl _, fun _ => rfl⟩
theorem Stb.trans {lt : α → α → Prop} {xs ys zs : List α} (h1 : Stb lt xs ys) (h2 : Stb lt ys zs) : Stb lt xs zs := ⟨h2.1.trans h1.1, fun z => (h2.2 z).trans (h1.2 z)⟩
section
variable {lt : α → α → Prop} (o : OrdP lt)
end
end Go.Sx

/- Plain lists: merging of sorted ranges, the steps. -/
namespace Go.Sx
variable {α : Type} {d : α} {lt : α → α → Prop}
end Go.Sx
namespace Go.Sx
variable {α : Type} {d : α} {lt : α → α → Prop}
end Go.Sx

/- Sorting by insertion, in plain lists. -/
namespace Go.Sx
end Go.Sx

/- The reference: by key; Join. -/
set_option maxRecDepth 100000
namespace Go.Proofs.Ytfkccighnkepgaa
open Go Go.Sx
section
variable {h : Hp} {p q : Option Addr} {n c m d : Nat} {nx : Int} {L : List LRow}
end
end Go.Proofs.Ytfkccighnkepgaa

/- The reference: Join; the chapter's example; great calls. -/
set_option maxRecDepth 100000
namespace Go.Proofs.Ytfkccighnkepgaa
open Go Go.Sx
theorem ByK.uniq {L : List LRow} {nx fr to : Int} {l l' : List Int} (o : LOk L nx) (hk : (keysL L).Nodup) (a : ByK L fr to l) (b : ByK L fr to l') : l = l' := by
  refine List.Perm.eq_of_pairwise (fun x y hx hy h1 h2 => ?_) a.2 b.2 (a.1.trans b.1.symm)
  obtain ⟨ex, hex, rfl⟩ := List.mem_map.1 (a.1.mem_iff.1 hx)
  obtain ⟨ey, hey, rfl⟩ := List.mem_map.1 (b.1.mem_iff.1 hy)
  have hex := (List.mem_filter.1 hex).1
  have hey := (List.mem_filter.1 hey).1
  rw [recL_mem o.ids hex, recL_mem o.ids hey] at h1 h2
  rw [nodup_inj (f := fun x : LRow => x.2.1) hk hex hey (Int.le_antisymm h1 h2)]
section
variable {h : Hp} {p q : Option Addr} {n c m d : Nat} {nx : Int} {L : List LRow} {p' q' : Option Addr} {n' c' m' d' : Nat} {ny : Int} {M : List LRow}
end
end Go.Proofs.Ytfkccighnkepgaa

/- What each change does, as a function; of the table and of the reference. -/
set_option maxRecDepth 100000
namespace Go.Proofs.Ytfkccighnkepgaa
open Go Go.Sx
abbrev LS := List LRow × Int
def insP (L : List LRow) (nx : Int) (r : Rec) : LS × Int × Int :=
  if vRec r = false then ((L, nx), 0, 1) else if r.1 ∈ keysL L then ((L, nx), 0, 15) else if 1000 ≤ L.length then ((L, nx), 0, 4) else ((L ++ [(nx, r)], nx + 1), nx, 0)
def updP (L : List LRow) (id : Int) (r : Rec) : List LRow × Int :=
  if vRec r = false then (L, 1) else if id ∉ L.map Prod.fst then (L, 12) else if (∃ x ∈ L, x.2.1 = r.1 ∧ x.1 ≠ id) then (L, 15) else (updL L id r, 0)
def delP (L : List LRow) (id : Int) : List LRow × Int := if id ∉ L.map Prod.fst then (L, 12) else (delL L id, 0)
def batE (L : List LRow) (ds : List Int) (ins : List Rec) : Int :=
  if (∃ r ∈ ins, vRec r = false) then 1 else if ¬ ds.Nodup then 10 else if (∃ d ∈ ds, d ∉ L.map Prod.fst) then 12 else if ¬ (keysL (delA L ds) ++ ins.map fun r => r.1).Nodup then 15 else if 1000 < (delA L ds).length + ins.length then 4 else 0
theorem batE_ok (L : List LRow) (ds : List Int) (ins : List Rec) : BE L ds ins (batE L ds ins) := by
  unfold batE
  by_cases h1 : ∃ r ∈ ins, vRec r = false
  · rw [if_pos h1]; exact BE.arg h1
  rw [if_neg h1]
  have h1' : ∀ r ∈ ins, vRec r = true := fun r hr => Classical.byContradiction fun hc => h1 ⟨r, hr, by simpa using hc⟩
  by_cases h2 : ds.Nodup
  · rw [if_neg (fun h => h h2)]
    by_cases h3 : ∃ d ∈ ds, d ∉ L.map Prod.fst
    · rw [if_pos h3]; exact BE.non h1' h2 h3
    rw [if_neg h3]
    have h3' : ∀ d ∈ ds, d ∈ L.map Prod.fst := fun d hd => Classical.byContradiction fun hc => h3 ⟨d, hd, hc⟩
    by_cases h4 : (keysL (delA L ds) ++ ins.map fun r => r.1).Nodup
    · rw [if_neg (fun h => h h4)]
      by_cases h5 : 1000 < (delA L ds).length + ins.length
      · rw [if_pos h5]; exact BE.ful h1' h2 h3' h4 h5
      · rw [if_neg h5]; exact BE.okk h1' h2 h3' h4 (by omega)
    · rw [if_pos h4]; exact BE.exi h1' h2 h3' h4
  · rw [if_pos h2]; exact BE.twice h1' h2
def batP (L : List LRow) (nx : Int) (ds : List Int) (ins : List Rec) : LS × List Int := if batE L ds ins = 0 then ((batL L nx ds ins, nx + (ins.length : Nat)), (numL nx ins).map Prod.fst) else ((L, nx), [])
abbrev Stp := Int × Int × Rec × List Int × List Rec
def stepP (s : LS) (x : Stp) : LS :=
  if x.1 % 4 = 0 then (insP s.1 s.2 x.2.2.1).1 else if x.1 % 4 = 1 then ((updP s.1 x.2.1 x.2.2.1).1, s.2) else if x.1 % 4 = 2 then ((delP s.1 x.2.1).1, s.2) else (batP s.1 s.2 x.2.2.2.1 x.2.2.2.2).1
section
variable {h0 h : Hp} {tb : Nat} {L : List LRow} {nx : Int} {A G : Bag}
theorem vnot1 {r : Rec} (h : vRec r = true) : ¬ vRec r = false := by rw [h]; decide
theorem Insert_S (a : TabS tb L nx A) (s : St h0 h (A + G)) (hnx : nx ≤ 1000000) (r : Rec) :
    HCalls Try.prog 21 #[ptr tb, encR r] h (fun v h' => v = .tuple #[.int .i64 (insP L nx r).2.1, .int .i64 (insP L nx r).2.2] ∧ ∃ A', TabS tb (insP L nx r).1.1 (insP L nx r).1.2 A' ∧ St h0 h' (A' + G)) := by
  refine (Insert_s a s hnx r).mono fun v h' hv => ?_
  unfold insP
  rcases hv with ⟨h1, rfl, s⟩ | ⟨h1, h2, rfl, s⟩ | ⟨h1, h2, h3, rfl, s⟩ | ⟨h1, h2, h3, rfl, A', a', s⟩
  · rw [if_pos h1]; exact ⟨rfl, A, a, s⟩
  · rw [if_neg (vnot1 h1), if_pos (show r.1 ∈ keysL L from h2)]; exact ⟨rfl, A, a, s⟩
  · rw [if_neg (vnot1 h1), if_neg (show r.1 ∉ keysL L from h2), if_pos h3]; exact ⟨rfl, A, a, s⟩
  · rw [if_neg (vnot1 h1), if_neg (show r.1 ∉ keysL L from h2), if_neg (by omega)]; exact ⟨rfl, A', a', s⟩
theorem Update_S (a : TabS tb L nx A) (s : St h0 h (A + G)) (id : Int) (r : Rec) :
    HCalls Try.prog 64 #[ptr tb, .int .i64 id, encR r] h (fun v h' => v = .int .i64 (updP L id r).2 ∧ ∃ A', TabS tb (updP L id r).1 nx A' ∧ St h0 h' (A' + G)) := by
  refine (Update_s a s id r).mono fun v h' hv => ?_
  unfold updP
  rcases hv with ⟨h1, rfl, s⟩ | ⟨h1, h2, rfl, s⟩ | ⟨h1, h2, h3, rfl, s⟩ | ⟨h1, h2, h3, rfl, A', a', s⟩
  · rw [if_pos h1]; exact ⟨rfl, A, a, s⟩
  · rw [if_neg (vnot1 h1), if_pos h2]; exact ⟨rfl, A, a, s⟩
  · rw [if_neg (vnot1 h1), if_neg (fun h => h h2), if_pos h3]; exact ⟨rfl, A, a, s⟩
  · rw [if_neg (vnot1 h1), if_neg (fun h => h h2), if_neg (by rintro ⟨x, hx, hk, hne⟩; exact hne (h3 x hx hk))]; exact ⟨rfl, A', a', s⟩
theorem Delete_S (a : TabS tb L nx A) (s : St h0 h (A + G)) (id : Int) :
    HCalls Try.prog 22 #[ptr tb, .int .i64 id] h (fun v h' => v = .int .i64 (delP L id).2 ∧ ∃ A', TabS tb (delP L id).1 nx A' ∧ St h0 h' (A' + G)) := by
  refine (Delete_s a s id).mono fun v h' hv => ?_
  unfold delP
  rcases hv with ⟨h1, rfl, rfl⟩ | ⟨h1, rfl, A', a', s⟩
  · rw [if_pos h1]; exact ⟨rfl, A, a, s⟩
  · rw [if_neg (fun h => h h1)]; exact ⟨rfl, A', a', s⟩
variable {ds : List Int} {ins : List Rec} {dp ip : Option Addr} {dn dc im ic : Nat}
theorem Batch_S (a : TabS tb L nx A) (s : St h0 h (A + G)) (r1 : RdT TI h0 dp dn ds) (r2 : RdT tRec h0 ip im ins) (hnx : nx ≤ 1000000) (hdn : dn ≤ 1000000) (him : im ≤ 1000000) :
    HCalls Try.prog 19 #[ptr tb, .slice dp dn dc, .slice ip im ic] h (fun v h' => ∃ q m d B A', v = .tuple #[.slice q m d, .int .i64 (batE L ds ins)] ∧ Sl TI q m d (batP L nx ds ins).2 B ∧ TabS tb (batP L nx ds ins).1.1 (batP L nx ds ins).1.2 A' ∧ St h0 h' (B + (A' + G))) := by
  refine (Batch_s a s r1 r2 hnx hdn him).mono fun v h' hv => ?_
  unfold batP
  rcases hv with ⟨e, h1, h2, rfl, s⟩ | ⟨h1, q, m, d, B, A', rfl, o, a', s⟩
  · obtain rfl := h1.uniq (batE_ok L ds ins)
    rw [if_neg h2]
    exact ⟨_, _, _, 0, A, rfl, Sl.nil, a, by rw [Bag.zero_add]; exact s⟩
  · have := h1.uniq (batE_ok L ds ins)
    rw [← this, if_pos rfl]
    exact ⟨q, m, d, B, A', rfl, o, a', s⟩
variable {v : Value} {O : Bag}
theorem Insert_R (rs : RefS v L nx O) (o : LOk L nx) (s : St h0 h (O + G)) (hnx : nx ≤ 1000000) (r : Rec) :
    HCalls Try.prog 62 #[v, encR r] h (fun w h' => ∃ v' O', w = .tuple #[v', .int .i64 (insP L nx r).2.1, .int .i64 (insP L nx r).2.2] ∧ RefS v' (insP L nx r).1.1 (insP L nx r).1.2 O' ∧ St h0 h' (O' + G)) := by
  refine (Insert_r (rs.rd s) o hnx r).mono fun w h' hw => ?_
  unfold insP
  rcases hw with ⟨h1, rfl, x⟩ | ⟨h1, h2, rfl, x⟩ | ⟨h1, h2, h3, rfl, x⟩ | ⟨h1, h2, h3, v', O', rfl, rs', st⟩
  · rw [if_pos h1]; exact ⟨v, O, rfl, rs, s.grow x⟩
  · rw [if_neg (vnot1 h1), if_pos h2]; exact ⟨v, O, rfl, rs, s.grow x⟩
  · rw [if_neg (vnot1 h1), if_neg h2, if_pos h3]; exact ⟨v, O, rfl, rs, s.grow x⟩
  · rw [if_neg (vnot1 h1), if_neg h2, if_neg (by omega)]
    exact ⟨v', O', rfl, rs', ((s.join st).to (B := O + (O' + G))).drop⟩
theorem Update_R (rs : RefS v L nx O) (o : LOk L nx) (s : St h0 h (O + G)) (id : Int) (r : Rec) :
    HCalls Try.prog 63 #[v, .int .i64 id, encR r] h (fun w h' => ∃ v' O', w = .tuple #[v', .int .i64 (updP L id r).2] ∧ RefS v' (updP L id r).1 nx O' ∧ St h0 h' (O' + G)) := by
  have rs0 := rs
  obtain ⟨p, n, c, q, m, d, O1, O2, rfl, o1, o2, rfl⟩ := rs
  refine (Update_r (o1.rd (s.to (B := O1 + (O2 + G)))) (o2.rd (s.to (B := O2 + (O1 + G)))) o id r).mono fun w h' hw => ?_
  unfold updP
  rcases hw with ⟨h1, rfl, x⟩ | ⟨h1, h2, rfl, x⟩ | ⟨h1, h2, h3, rfl, x⟩ | ⟨h1, h2, h3, q', m', d', O3, rfl, o3, st⟩
  · rw [if_pos h1]; exact ⟨_, _, rfl, rs0, s.grow x⟩
  · rw [if_neg (vnot1 h1), if_pos h2]; exact ⟨_, _, rfl, rs0, s.grow x⟩
  · rw [if_neg (vnot1 h1), if_neg (fun h => h h2), if_pos h3]; exact ⟨_, _, rfl, rs0, s.grow x⟩
  · rw [if_neg (vnot1 h1), if_neg (fun h => h h2), if_neg (by rintro ⟨x, hx, hk, hne⟩; exact hne (h3 x hx hk))]
    exact ⟨_, _, rfl, ⟨_, _, _, _, _, _, O1, O3, rfl, by rw [upd_ids]; exact o1, o3, rfl⟩, ((s.join st).to (B := O2 + (O1 + O3 + G))).drop⟩
theorem Delete_R (rs : RefS v L nx O) (o : LOk L nx) (s : St h0 h (O + G)) (id : Int) :
    HCalls Try.prog 65 #[v, .int .i64 id] h (fun w h' => ∃ v' O', w = .tuple #[v', .int .i64 (delP L id).2] ∧ RefS v' (delP L id).1 nx O' ∧ St h0 h' (O' + G)) := by
  have rs0 := rs
  have hol := o.len
  obtain ⟨p, n, c, q, m, d, O1, O2, rfl, o1, o2, rfl⟩ := rs
  have hl := o1.len
  rw [List.length_map] at hl
  refine (Delete_r (o1.rd (s.to (B := O1 + (O2 + G)))) (o2.rd (s.to (B := O2 + (O1 + G)))) o1.cap o2.cap (by omega) o.ids id).mono fun w h' hw => ?_
  unfold delP
  rcases hw with ⟨h1, rfl, x⟩ | ⟨h1, p', n', c', q', m', d', O3, O4, rfl, o3, o4, st⟩
  · rw [if_pos h1]; exact ⟨_, _, rfl, rs0, s.grow x⟩
  · rw [if_neg (fun h => h h1)]
    exact ⟨_, _, rfl, ⟨_, _, _, _, _, _, O3, O4, rfl, o3, o4, rfl⟩, ((s.join st).to (B := (O1 + O2) + (O3 + O4 + G))).drop⟩
theorem Batch_R (rs : RefS v L nx O) (o : LOk L nx) (hkn : (keysL L).Nodup) (s : St h0 h (O + G)) (r1 : RdT TI h0 dp dn ds) (r2 : RdT tRec h0 ip im ins) (hnx : nx ≤ 900000) (hdn : dn ≤ 1000000) (him : im ≤ 1000000) :
    HCalls Try.prog 66 #[v, .slice dp dn dc, .slice ip im ic] h (fun w h' => ∃ v' O' q m d B, w = .tuple #[v', .slice q m d, .int .i64 (batE L ds ins)] ∧ Sl TI q m d (batP L nx ds ins).2 B ∧ RefS v' (batP L nx ds ins).1.1 (batP L nx ds ins).1.2 O' ∧ St h0 h' (B + (O' + G))) := by
  have rs0 := rs
  obtain ⟨p, n, c, q, m, d, O1, O2, rfl, o1, o2, rfl⟩ := rs
  refine (Batch_r o (o1.rd (s.to (B := O1 + (O2 + G)))) (o2.rd (s.to (B := O2 + (O1 + G)))) o1.cap o2.cap (r1.ext s.ext) (r2.ext s.ext) hnx hdn him hkn).mono fun w h' hw => ?_
  unfold batP
  rcases hw with ⟨e, h1, h2, rfl, x⟩ | ⟨h1, p', n', c', q', m', d', O', oq, om, od, B, rfl, ob, hw, st⟩
  · obtain rfl := h1.uniq (batE_ok L ds ins)
    rw [if_neg h2]
    exact ⟨_, _, _, _, _, 0, rfl, Sl.nil, rs0, by rw [Bag.zero_add]; exact s.grow x⟩
  · have := h1.uniq (batE_ok L ds ins)
    rw [← this, if_pos rfl]
    have s := s.join st
    rcases hw with ⟨rfl, rfl, rfl, rfl, rfl, rfl, hL, hn, rfl⟩ | ⟨O3, O4, o3, o4, rfl⟩
    · refine ⟨_, O1 + O2, _, _, _, B, rfl, ob, ?_, s.to⟩
      dsimp only
      rw [hL]
      rw [hn]
      exact rs0
    · exact ⟨_, _, _, _, _, B, rfl, ob, ⟨_, _, _, _, _, _, O3, O4, rfl, o3, o4, rfl⟩, (s.to (B := (O1 + O2) + (B + (O3 + O4 + G)))).drop⟩
end
end Go.Proofs.Ytfkccighnkepgaa

/- A call does with a table what it does with the reference. -/
set_option maxRecDepth 100000
namespace Go.Proofs.Ytfkccighnkepgaa
open Go Go.Sx
def DoQ (h0 : Hp) (tb : Nat) (st : LS) (G : Bag) (w : Value) (h' : Hp) : Prop := ∃ v' O' A', w = .tuple #[v', .bool true] ∧ RefS v' st.1 st.2 O' ∧ TabS tb st.1 st.2 A' ∧ St h0 h' (A' + (O' + G))
theorem bat_len (L : List LRow) (nx : Int) (ds : List Int) (ins : List Rec) : (batP L nx ds ins).2.length ≤ ins.length := by
  unfold batP
  split
  · rw [List.length_map, numL_len]; exact Nat.le_refl _
  · exact Nat.zero_le _
abbrev encSt (k id : Int) (r : Rec) (dp : Option Addr) (dn dc : Nat) (ip : Option Addr) (im ic : Nat) : Value := .agg #[.int .u8 k, .int .i64 id, .int .i64 r.1, .int .i64 r.2.1, .int .i64 r.2.2.1, .int .i64 r.2.2.2.1, .string r.2.2.2.2, .slice dp dn dc, .slice ip im ic]
section
variable {h0 h : Hp} {tb : Nat} {L : List LRow} {nx : Int} {A O G : Bag} {v : Value} {k id : Int} {r : Rec} {ds : List Int} {ins : List Rec} {dp ip : Option Addr} {dn dc im ic : Nat}
set_option maxHeartbeats 8000000 in
theorem do_ok (a : TabS tb L nx A) (rs : RefS v L nx O) (s : St h0 h (A + (O + G))) (hnx : nx ≤ 800000) (hk0 : 0 ≤ k) (r1 : RdT TI h0 dp dn ds) (r2 : RdT tRec h0 ip im ins) (hdn : dn ≤ 20) (him : im ≤ 20) :
    HCalls Try.prog 37 #[ptr tb, v, encSt k id r dp dn dc ip im ic] h (DoQ h0 tb (stepP (L, nx) (k, id, r, ds, ins)) G) := by
  have lo := a.ok
  have hkn := a.keys
  have rs0 := rs
  obtain ⟨p, n, c, q, m, d, O1, O2, rfl, o1, o2, hO⟩ := rs
  refine l50_do_call ?_
  rw [l50_do_b0_eq]
  refine s.new (cs := [_, _, _]) fun b1 h1 _ s => s.new (cs := [_, _, _, _, _, _, _, _, _]) fun b2 h2 _ s => s.new (cs := [_, _, _]) fun b3 h3 _ s => ⟨_, s.ld0, rem_intro hk0 (by decide) (condP (fun c0 => ?_) (fun c0 => condP (fun c1 => ?_) (fun c1 => condP (fun c2 => ?_) (fun c2 => ?_))))⟩
  · have e : stepP (L, nx) (k, id, r, ds, ins) = (insP L nx r).1 := if_pos c0
    rw [e]
    refine ⟨_, _, _, _, _, _, _, s.ld0, s.ldB, s.ldB, _, _, _, _, _, s.ldB, ldC s, ldC s, ldC s, ldC s, (Insert_R rs0 lo (s.at O) (by omega) r).mono fun w1 h4 ⟨v', O', hw1, rs', s⟩ => ?_⟩
    have rs1 := rs'
    obtain ⟨p2, n2, c2, q2, m2, d2, X1, X2, rfl, x1, x2, hX⟩ := rs'
    refine ⟨_, _, _, _, _, _, _, _, _, hw1, s.new (cs := [_, _, _]) fun b4 h5 _ s => s.wr3 fun h6 s => ?_⟩
    refine ⟨_, _, _, _, _, s.ldB, ldC s, ldC s, ldC s, ldC s, (Insert_S a (s.at A) (by omega) r).mono fun w2 h7 ⟨hw2, A', a', s⟩ => ⟨_, _, hw2, _, _, _, _, _, _, _, s.ld0, s.ldB, s.ldB, condYes (decide_eq_true rfl) ?_⟩⟩
    refine s.wr3 fun h8 s => ⟨_, _, _, _, _, _, _, s.ld0, s.ldB, s.ldB, _, O', A', by rw [decide_eq_true rfl], rs1, a', ?_⟩
    exact ((((s.find b1).drop.find b2).drop.find b3).drop.find b4).drop.to
  · have e : stepP (L, nx) (k, id, r, ds, ins) = ((updP L id r).1, nx) := (if_neg c0).trans (if_pos c1)
    rw [e]
    refine ⟨_, _, _, _, _, _, _, s.ld0, s.ldB, s.ldB, _, s.ldB, _, _, _, _, _, s.ldB, ldC s, ldC s, ldC s, ldC s, (Update_R rs0 lo (s.at O) id r).mono fun w1 h4 ⟨v', O', hw1, rs', s⟩ => ?_⟩
    have rs1 := rs'
    obtain ⟨p2, n2, c2, q2, m2, d2, X1, X2, rfl, x1, x2, hX⟩ := rs'
    refine ⟨_, _, _, _, _, _, _, _, hw1, s.new (cs := [_, _, _]) fun b4 h5 _ s => s.wr3 fun h6 s => ?_⟩
    refine ⟨_, _, _, _, _, _, _, s.ld0, s.ldB, s.ldB, _, s.ldB, _, _, _, _, _, s.ldB, ldC s, ldC s, ldC s, ldC s, (Update_S a (s.at A) id r).mono fun w2 h7 ⟨hw2, A', a', s⟩ => ⟨_, hw2, ⟨_, _, _, _, _, _, _, s.ld0, s.ldB, s.ldB, rfl⟩, ?_⟩⟩
    refine s.wr3 fun h8 s => ⟨_, _, _, _, _, _, _, s.ld0, s.ldB, s.ldB, _, O', A', by rw [decide_eq_true rfl], rs1, a', ?_⟩
    exact ((((s.find b1).drop.find b2).drop.find b3).drop.find b4).drop.to
  · have e : stepP (L, nx) (k, id, r, ds, ins) = ((delP L id).1, nx) := (if_neg c0).trans ((if_neg c1).trans (if_pos c2))
    rw [e]
    refine ⟨_, _, _, _, _, _, _, s.ld0, s.ldB, s.ldB, _, s.ldB, (Delete_R rs0 lo (s.at O) id).mono fun w1 h4 ⟨v', O', hw1, rs', s⟩ => ?_⟩
    have rs1 := rs'
    obtain ⟨p2, n2, c2, q2, m2, d2, X1, X2, rfl, x1, x2, hX⟩ := rs'
    refine ⟨_, _, _, _, _, _, _, _, hw1, s.new (cs := [_, _, _]) fun b4 h5 _ s => s.wr3 fun h6 s => ?_⟩
    refine ⟨_, _, _, _, _, _, _, s.ld0, s.ldB, s.ldB, _, s.ldB, (Delete_S a (s.at A) id).mono fun w2 h7 ⟨hw2, A', a', s⟩ => ⟨_, hw2, ⟨_, _, _, _, _, _, _, s.ld0, s.ldB, s.ldB, rfl⟩, ?_⟩⟩
    refine s.wr3 fun h8 s => ⟨_, _, _, _, _, _, _, s.ld0, s.ldB, s.ldB, _, O', A', by rw [decide_eq_true rfl], rs1, a', ?_⟩
    exact ((((s.find b1).drop.find b2).drop.find b3).drop.find b4).drop.to
  · have e : stepP (L, nx) (k, id, r, ds, ins) = (batP L nx ds ins).1 := (if_neg c0).trans ((if_neg c1).trans (if_neg c2))
    rw [e, l50_do_b1_eq]
    have hbl := bat_len L nx ds ins
    have hil := r2.len
    refine ⟨_, _, _, _, _, _, _, s.ld0, s.ldB, s.ldB, _, _, _, s.ldB, _, _, _, s.ldB, (Batch_R rs0 lo hkn (s.at O) r1 r2 (by omega) (by omega) (by omega)).mono fun w1 h4 ⟨v', O', q3, m3, d3, B1, hw1, ob, rs', s⟩ => ?_⟩
    have rs1 := rs'
    obtain ⟨p2, n2, c2, q2, m2, d2, X1, X2, rfl, x1, x2, hX⟩ := rs'
    refine ⟨_, _, _, _, _, _, _, _, _, _, _, hw1, s.new (cs := [_, _, _]) fun b4 h5 _ s => s.wr3 fun h6 s => ?_⟩
    refine ⟨_, _, _, s.ldB, _, _, _, s.ldB, (Batch_S a (s.at A) r1 r2 (by omega) (by omega) (by omega)).mono fun w2 h7 ⟨q4, m4, d4, B2, A', hw2, ob2, a', s⟩ => ⟨_, _, _, _, hw2, _, _, _, _, _, _, _, s.ld0, s.ldB, s.ldB, ?_⟩⟩
    have hl3 := ob.len
    refine (EqualI (ob.rd (s.at B1)) (ob2.rd (s.at B2)) (by omega)).mono fun w3 h8 ⟨hh, hw3⟩ => ⟨_, hw3, ?_⟩
    subst hh
    refine ⟨⟨_, _, _, _, _, _, _, s.ld0, s.ldB, s.ldB, rfl⟩, condYes (decide_eq_true rfl) (s.wr3 fun h8 s => ⟨rfl, _, _, _, _, _, _, _, s.ld0, s.ldB, s.ldB, _, O', A', by rw [decide_eq_true rfl], rs1, a', ?_⟩)⟩
    exact (((((s.find b1).drop.find b2).drop.find b3).drop.find b4).drop.to (B := (B1 + B2) + (A' + (O' + G)))).drop
end
end Go.Proofs.Ytfkccighnkepgaa

/- The chapter's example; great calls; what is played. -/
set_option maxRecDepth 100000
namespace Go.Proofs.Ytfkccighnkepgaa
open Go Go.Sx
abbrev ann : Rec := (5, 1, 2, 3, ⟨#[97, 110, 110]⟩)
abbrev anna : Rec := (4, 2, 2, 1, ⟨#[97, 110, 110, 97]⟩)
abbrev LA : List LRow := [(0, ann), (1, anna)]
theorem ins_ann : insP [] 0 ann = (([(0, ann)], 1), 0, 0) := by kernel_rfl
theorem ins_anna : insP [(0, ann)] 1 anna = ((LA, 2), 1, 0) := by kernel_rfl
theorem byk_LA : ByK LA 0 9 [1, 0] := by
  refine ⟨?_, ?_⟩
  · have e : (LA.filter fun x => decide (0 ≤ x.2.1 ∧ x.2.1 ≤ 9)).map Prod.fst = [0, 1] := by kernel_rfl
    rw [e]
    exact List.Perm.swap _ _ _
  · have e0 : (recL LA 0).1 = 5 := by kernel_rfl
    have e1 : (recL LA 1).1 = 4 := by kernel_rfl
    simp only [List.pairwise_cons, List.mem_singleton, List.not_mem_nil, List.Pairwise.nil, and_true, forall_eq, false_implies, implies_true]
    rw [e0, e1]
    decide
theorem Awake_r (h : Hp) (hm : MaxL h) : HCalls Try.prog 7 #[] h (fun v h' => Ext h h' ∧ v = .bool true) := by
  refine l50_awake_call ?_
  rw [l50_awake_b0_eq]
  refine (New_s h).mono fun v h1 ⟨tb, A, hv, a, s⟩ => ⟨_, hv, condNo rfl ?_⟩
  have s : St h h1 (A + 0) := s.to
  refine (Insert_S a s (by decide) ann).mono fun v h2 ⟨hv, A, a, s⟩ => ?_
  rw [ins_ann] at hv a
  refine ⟨_, _, hv, (Insert_S a s (by decide) anna).mono fun v h3 ⟨hv, A, a, s⟩ => ?_⟩
  rw [ins_anna] at hv a
  dsimp only at a
  refine ⟨_, _, hv, (ByKey_s a s 0 9).mono fun v h4 ⟨q1, m1, d1, B1, l1, hv, o1, b1, s⟩ => ⟨_, _, _, _, hv, ?_⟩⟩
  obtain rfl := b1.uniq a.ok a.keys byk_LA
  have s := s.to (B := A + (B1 + 0))
  refine (ByName_s a hm _ s).mono fun v h5 ⟨q2, m2, d2, B2, hv, o2, s⟩ => ⟨_, _, _, _, hv, ?_⟩
  have s := s.to (B := A + (B2 + (B1 + 0)))
  refine (ByName_s a hm _ s).mono fun v h6 ⟨q3, m3, d3, B3, hv, o3, s⟩ => ⟨_, _, _, _, hv, ?_⟩
  have s := s.to (B := A + (B3 + (B2 + (B1 + 0))))
  refine (Weight_s a s 0 5 0 5).mono fun v h7 ⟨hv, s⟩ => ⟨_, _, hv, ?_⟩
  have ew : wgt (LA.filter fun x => inR 0 5 0 5 x.2) = 4 := by kernel_rfl
  have e2 : (LA.filter fun x => Lib.contains x.2.2.2.2.2.data.toList (⟨#[110, 110]⟩ : ByteArray).data.toList).map Prod.fst = [0, 1] := by kernel_rfl
  have e3 : (LA.filter fun x => Lib.contains x.2.2.2.2.2.data.toList (⟨#[110, 97]⟩ : ByteArray).data.toList).map Prod.fst = [1] := by kernel_rfl
  rw [e2] at o2
  rw [e3] at o3
  have hl1 := o1.len
  have hl2 := o2.len
  have hl3 := o3.len
  simp only [List.length_cons, List.length_nil] at hl1 hl2 hl3
  refine condYes rfl (condYes rfl (condYes rfl (condYes rfl (condYes rfl (s.new (cs := [_, _]) fun b h8 _ s => ?_)))))
  have ob : Sl TI (some ⟨b, 0, none⟩) 2 2 [1, 0] (cA b [.int .i64 1, .int .i64 0] 3) := Sl.of_blk (T := TI) rfl rfl
  refine (EqualI (o1.rd (s.at B1)) (ob.rd (s.at (cA b _ _))) (by omega)).mono fun v h9 ⟨hh, hv⟩ => ⟨_, hv, ?_⟩
  subst hh
  refine condYes rfl (condYes rfl (s.new (cs := [_, _]) fun b h8 _ s => ?_))
  have ob : Sl TI (some ⟨b, 0, none⟩) 2 2 [0, 1] (cA b [.int .i64 0, .int .i64 1] 3) := Sl.of_blk (T := TI) rfl rfl
  refine (EqualI (o2.rd (s.at B2)) (ob.rd (s.at (cA b _ _))) (by omega)).mono fun v h9 ⟨hh, hv⟩ => ⟨_, hv, ?_⟩
  subst hh
  refine condYes rfl (condYes rfl (s.new (cs := [_]) fun b h8 _ s => ?_))
  have ob : Sl TI (some ⟨b, 0, none⟩) 1 1 [1] (cA b [.int .i64 1] 3) := Sl.of_blk (T := TI) rfl rfl
  refine (EqualI (o3.rd (s.at B3)) (ob.rd (s.at (cA b _ _))) (by omega)).mono fun v h9 ⟨hh, hv⟩ => ⟨_, hv, ?_⟩
  subst hh
  exact condYes rfl (condYes rfl ⟨s.ext, by rw [ew]; rfl⟩)
/-! ### calls -/
abbrev S9 := Int × Int × Rec × SH × SH
abbrev tS9 : Ty S9 := ⟨48, 9, fun z => [.int .u8 z.1, .int .i64 z.2.1, .int .i64 z.2.2.1.1, .int .i64 z.2.2.1.2.1, .int .i64 z.2.2.1.2.2.1, .int .i64 z.2.2.1.2.2.2.1, .string z.2.2.1.2.2.2.2, .slice z.2.2.2.1.1 z.2.2.2.1.2.1 z.2.2.2.1.2.2, .slice z.2.2.2.2.1 z.2.2.2.2.2.1 z.2.2.2.2.2.2],
  (0, 0, (0, 0, 0, 0, ⟨#[]⟩), (none, 0, 0), (none, 0, 0)), fun _ => rfl, by decide, fun _ v hv => by simp at hv; rcases hv with rfl | rfl | rfl | rfl | rfl | rfl | rfl | rfl | rfl <;> rfl⟩
abbrev dStp : Stp := (0, 0, (0, 0, 0, 0, ⟨#[]⟩), [], [])
def StpIs (h : Hp) (x : S9) (y : Stp) : Prop := y.1 = x.1 ∧ y.2.1 = x.2.1 ∧ y.2.2.1 = x.2.2.1 ∧ RdT TI h x.2.2.2.1.1 x.2.2.2.1.2.1 y.2.2.2.1 ∧ RdT tRec h x.2.2.2.2.1 x.2.2.2.2.2.1 y.2.2.2.2 ∧ 0 ≤ x.1
def small (x : S9) : Prop := x.2.2.2.1.2.1 ≤ 20 ∧ x.2.2.2.2.2.1 ≤ 20
theorem great_c1_c1 (r : Rec) (h : Hp) : HCalls Try.prog 36 #[encR r] h (fun v h' => Ext h h' ∧ v = .bool (decide ((100 : Int) < (r.2.2.2.2.size : Int)))) := by
  refine l50_great_c1_c1_call ?_
  rw [l50_great_c1_c1_b0_eq]
  exact (St.start h).new (cs := [_, _, _, _, _]) fun b h1 _ s => ⟨_, s.ldB, s.ext, rfl⟩
theorem great_c1 {h : Hp} (x : S9) {ins : List Rec} (r : RdT tRec h x.2.2.2.2.1 x.2.2.2.2.2.1 ins) :
    HCalls Try.prog 34 #[.agg (tS9.enc x).toArray] h (fun v h' => Ext h h' ∧ ∃ b : Bool, v = .bool b ∧ (b = false → small x)) := by
  refine l50_great_c1_call ?_
  rw [l50_great_c1_b0_eq]
  refine (St.start h).new (cs := [_, _, _, _, _, _, _, _, _]) fun b h1 _ s => ⟨_, _, _, s.ldB, condP (fun c1 => ⟨s.ext, true, rfl, fun h => by cases h⟩) (fun c1 => ⟨_, _, _, s.ldB, condP (fun c2 => ⟨s.ext, true, rfl, fun h => by cases h⟩) (fun c2 => ⟨_, ldC s, condP (fun c3 => ⟨s.ext, true, rfl, fun h => by cases h⟩) (fun c3 => ⟨_, _, _, s.ldB, ?_⟩)⟩)⟩)⟩
  refine (ContRec_ok (r.ext s.ext) (by omega) rfl great_c1_c1).mono fun v h2 ⟨x2, hv⟩ => ⟨_, hv, s.ext.trans x2, _, rfl, fun _ => ⟨by omega, by omega⟩⟩
theorem ldS9 {h : Hp} {p : Option Addr} {n i : Nat} {l : List S9} {Q : S9 → Prop} (r : RdT tS9 h p n l) (hi : i < n) (hq : Q (l.getD i tS9.d)) :
    (0 ≤ (i : Int) ∧ (i : Int) < (n : Int)) ∧ NN p fun a => ∃ x : S9, cell h (a.add (Int.toNat (i : Int) * 9)) = some (.int .u8 x.1) ∧ cell h ((a.add (Int.toNat (i : Int) * 9)).add 1) = some (.int .i64 x.2.1) ∧ cell h ((a.add (Int.toNat (i : Int) * 9)).add 2) = some (.int .i64 x.2.2.1.1) ∧ cell h ((a.add (Int.toNat (i : Int) * 9)).add 3) = some (.int .i64 x.2.2.1.2.1) ∧
      cell h ((a.add (Int.toNat (i : Int) * 9)).add 4) = some (.int .i64 x.2.2.1.2.2.1) ∧ cell h ((a.add (Int.toNat (i : Int) * 9)).add 5) = some (.int .i64 x.2.2.1.2.2.2.1) ∧ cell h ((a.add (Int.toNat (i : Int) * 9)).add 6) = some (.string x.2.2.1.2.2.2.2) ∧
      cell h ((a.add (Int.toNat (i : Int) * 9)).add 7) = some (.slice x.2.2.2.1.1 x.2.2.2.1.2.1 x.2.2.2.1.2.2) ∧ cell h ((a.add (Int.toNat (i : Int) * 9)).add 8) = some (.slice x.2.2.2.2.1 x.2.2.2.2.2.1 x.2.2.2.2.2.2) ∧ Q x := by
  refine r.idx (i := (i : Int)) (by omega) (by omega) fun a _ hc => ?_
  have e : Int.toNat (i : Int) = i := Int.toNat_natCast i
  rw [e] at hc ⊢
  exact ⟨_, by simpa [add_add] using hc 0 (by decide), hc 1 (by decide), hc 2 (by decide), hc 3 (by decide), hc 4 (by decide), hc 5 (by decide), hc 6 (by decide), hc 7 (by decide), hc 8 (by decide), hq⟩
theorem Great_r {h : Hp} {p : Option Addr} {n c : Nat} {l : List S9} (r : RdT tS9 h p n l) (hr : ∀ x ∈ l, ∃ ins, RdT tRec h x.2.2.2.2.1 x.2.2.2.2.2.1 ins) :
    HCalls Try.prog 8 #[.slice p n c] h (fun v h' => Ext h h' ∧ ∃ b : Bool, v = .bool b ∧ (b = false → n ≤ 40 ∧ ∀ x ∈ l, small x)) := by
  have hl := r.len
  refine l50_great_call ?_
  rw [l50_great_b0_eq]
  refine condP (fun hn => ⟨Ext.refl h, true, rfl, fun h => by cases h⟩) (fun hn => ?_)
  refine HCalls.mono (K := fun v h' => Ext h h' ∧ ∃ b : Bool, v = .bool b ∧ (b = false → ∀ x ∈ l, small x)) ?_ fun v h1 ⟨x1, b, hv, hb⟩ => ⟨b, hv, x1, b, rfl, fun h => ⟨by omega, hb h⟩⟩
  refine slices_ContainsFunc_Sl50_Step_l50_Step_call ?_
  rw [slices_ContainsFunc_Sl50_Step_l50_Step_b0_eq]
  refine HCalls.mono (K := fun v h' => Ext h h' ∧ ∃ x : Int, v = .int .i64 x ∧ (x < 0 → ∀ x ∈ l, small x)) ?_ fun v h1 ⟨x1, x, hv, hx⟩ => ⟨x, hv, x1, _, rfl, fun h => hx (by have := of_decide_eq_false h; omega)⟩
  refine slices_IndexFunc_Sl50_Step_l50_Step_call ?_
  rw [slices_IndexFunc_Sl50_Step_l50_Step_b0_eq]
  refine ⟨fun x h' => Ext h h' ∧ ∃ i : Nat, x.1 = i ∧ i ≤ n ∧ ∀ j, j < i → small (l.getD j tS9.d), fun x _ => (n - x.1).toNat, ⟨Ext.refl h, 0, rfl, Nat.zero_le _, fun j hj => absurd hj (Nat.not_lt_zero _)⟩, ?_⟩
  rintro ⟨_, _⟩ h1 ⟨x1, i, rfl, hi, hno⟩
  dsimp only
  rw [slices_IndexFunc_Sl50_Step_l50_Step_b1_eq]
  refine condP (fun hlt => ?_) (fun hge => ?_)
  · have hil : i < l.length := by omega
    obtain ⟨ins, hri⟩ := hr (l.getD i tS9.d) (by rw [getD_get hil]; exact List.getElem_mem hil)
    obtain ⟨hb, hN⟩ := ldS9 (Q := fun x => x = l.getD i tS9.d) (r.ext x1) (by omega) rfl
    refine ⟨hb, ?_⟩
    revert hN
    cases p with
    | none => exact fun h => h.elim
    | some a =>
      rintro ⟨x, q0, q1, q2, q3, q4, q5, q6, q7, q8, rfl⟩
      refine ⟨_, _, _, _, _, _, _, _, _, _, _, _, _, q0, q1, q2, q3, q4, q5, q6, q7, q8, funX_of rfl ((great_c1 _ (hri.ext x1)).mono fun v h2 ⟨x2, b, hv, hb⟩ => ⟨b, hv, cond_intro (fun hbt => ?_) (fun hbf => ?_)⟩)⟩
      · exact ⟨x1.trans x2, _, rfl, fun h => by omega⟩
      · rw [slices_IndexFunc_Sl50_Step_l50_Step_b2_eq]
        refine ⟨⟨by omega, by omega⟩, ⟨x1.trans x2, i + 1, by push_cast; rfl, by omega, fun j hj => ?_⟩, by dsimp only; omega⟩
        rcases Nat.lt_or_ge j i with h | h
        · exact hno j h
        · obtain rfl : j = i := by omega
          exact hb hbf
  · rw [slices_IndexFunc_Sl50_Step_l50_Step_b3_eq]
    refine ⟨x1, _, rfl, fun _ x hx => ?_⟩
    obtain ⟨j, hj, rfl⟩ := List.getElem_of_mem hx
    have := hno j (by omega)
    rwa [getD_get hj] at this
def playL (ys : List Stp) : LS := ys.foldl stepP ([], 0)
theorem play_snoc (ys : List Stp) (y : Stp) : playL (ys ++ [y]) = stepP (playL ys) y := by unfold playL; rw [List.foldl_append]; rfl
theorem step_nx (s : LS) (y : Stp) (h : y.2.2.2.2.length ≤ 20) : (stepP s y).2 ≤ s.2 + 20 := by
  unfold stepP
  split
  · unfold insP
    split
    · dsimp only; omega
    split
    · dsimp only; omega
    split <;> dsimp only <;> omega
  split
  · dsimp only; omega
  split
  · dsimp only; omega
  · unfold batP
    split <;> dsimp only <;> omega
section
variable {h0 h : Hp} {p : Option Addr} {n c : Nat} {l : List S9} {ys : List Stp} {G : Bag}
theorem play3 {b1 b2 tb : Nat} {p2 q2 : Option Addr} {n2 c2 m2 d2 : Nat} {st : LS} {A O : Bag} (a : TabS tb st.1 st.2 A) (rs : RefS (encT p2 n2 c2 q2 m2 d2 st.2) st.1 st.2 O) (s : St h0 h (cA b2 (tb50 p2 n2 c2 q2 m2 d2 st.2) 29 + (cA b1 (tb50 none 0 0 none 0 0 0) 29 + (A + (O + G))))) :
    l50_played_b3 (some ⟨b1, 0, none⟩) (some ⟨tb, 0, none⟩) (some ⟨b2, 0, none⟩) h (fun w h' => ∃ tb v O A, w = .tuple #[ptr tb, v, .bool true] ∧ RefS v st.1 st.2 O ∧ TabS tb st.1 st.2 A ∧ St h0 h' (A + (O + G))) := by
  rw [l50_played_b3_eq]
  refine ⟨_, _, _, _, _, _, _, s.ld0, s.ldB, s.ldB, s.wr3 fun h1 s => ⟨_, _, _, _, _, _, _, s.ld0, s.ldB, s.ldB, tb, _, O, A, rfl, rs, a, ?_⟩⟩
  exact ((s.find b1).drop.find b2).drop.to
theorem Played_r (r : RdT tS9 h0 p n l) (hyl : ys.length = n) (hy : ∀ i, i < n → StpIs h0 (l.getD i tS9.d) (ys.getD i dStp)) (hn : n ≤ 40) (hs : ∀ x ∈ l, small x) (s : St h0 h G) :
    HCalls Try.prog 9 #[.slice p n c] h (fun w h' => ∃ tb v O A, w = .tuple #[ptr tb, v, .bool true] ∧ RefS v (playL ys).1 (playL ys).2 O ∧ TabS tb (playL ys).1 (playL ys).2 A ∧ St h0 h' (A + (O + G))) := by
  have hl := r.len
  refine l50_played_call ?_
  rw [l50_played_b0_eq]
  refine s.new (cs := [_, _, _]) fun b1 h1 _ s => (New_s h1).mono fun v h2 ⟨tb, A, hv, a, st⟩ => ⟨_, hv, ?_⟩
  have s := s.join st
  refine s.new (cs := [_, _, _]) fun b2 h3 _ s => condNo rfl ?_
  refine ⟨fun x h' => ∃ (i : Nat) (p2 : Option Addr) (n2 c2 : Nat) (q2 : Option Addr) (m2 d2 : Nat) (A O : Bag), x.1 = i ∧ i ≤ n ∧ (playL (ys.take i)).2 ≤ 20 * i ∧ TabS tb (playL (ys.take i)).1 (playL (ys.take i)).2 A ∧ RefS (encT p2 n2 c2 q2 m2 d2 (playL (ys.take i)).2) (playL (ys.take i)).1 (playL (ys.take i)).2 O ∧ St h0 h' (cA b2 (tb50 p2 n2 c2 q2 m2 d2 (playL (ys.take i)).2) 29 + (cA b1 (tb50 none 0 0 none 0 0 0) 29 + (A + (O + G)))), fun x _ => (n - x.1).toNat, ⟨0, none, 0, 0, none, 0, 0, A, 0, rfl, Nat.zero_le _, Int.le_refl _, a, ⟨none, 0, 0, none, 0, 0, 0, 0, rfl, Sl.nil, Sl.nil, (Bag.add_zero 0).symm⟩, ?_⟩, ?_⟩
  · rw [Bag.zero_add]; exact s.to
  clear s a
  rintro ⟨z, _⟩ h4 ⟨i, p2, n2, c2, q2, m2, d2, A, O, hz, hi, hnx, a, rs, s⟩
  dsimp only at hz ⊢
  subst hz
  rw [l50_played_b1_eq]
  refine condP (fun hlt => ?_) (fun hge => ?_)
  · have hil : i < l.length := by omega
    have hiy : i < ys.length := by omega
    have htk : ys.take (i + 1) = ys.take i ++ [ys.getD i dStp] := by rw [getD_get hiy, List.take_succ_eq_append_getElem hiy]
    have hyi := hy i (by omega)
    have hsm := hs (l.getD i tS9.d) (by rw [getD_get hil]; exact List.getElem_mem hil)
    obtain ⟨hb, hN⟩ := ldS9 (Q := fun x => x = l.getD i tS9.d) (r.ext s.ext) (by omega) rfl
    refine ⟨hb, ?_⟩
    revert hN
    cases p with
    | none => exact fun h => h.elim
    | some ad =>
      rintro ⟨x, e0, e1, e2, e3, e4, e5, e6, e7, e8, hx⟩
      rw [← hx] at hyi hsm
      generalize hyv : ys.getD i dStp = y at hyi htk
      obtain ⟨yk, yid, yr, yds, yins⟩ := y
      obtain ⟨hk, hid, hr, rd, ri, hk0⟩ := hyi
      dsimp only at hk hid hr rd ri
      have hril := ri.len
      refine ⟨_, _, _, _, _, _, _, _, _, _, _, _, _, e0, e1, e2, e3, e4, e5, e6, e7, e8, s.new (cs := [_, _, _, _, _, _, _, _, _]) fun b3 h5 _ s => ?_⟩
      refine s.wr0 fun _ s => s.wrB fun _ s => s.wrB fun _ s => s.wrB fun _ s => s.wrB fun _ s => s.wrB fun _ s => s.wrB fun _ s => s.wrB fun _ s => s.wrB fun _ s => ?_
      refine ⟨_, _, _, _, _, _, _, s.ld0, s.ldB, s.ldB, _, _, _, _, _, _, _, _, _, _, _, _, _, s.ld0, s.ldB, s.ldB, s.ldB, s.ldB, s.ldB, s.ldB, s.ldB, s.ldB, ?_⟩
      have s' := s.to (B := A + (O + (cA b3 [.int .u8 x.1, .int .i64 x.2.1, .int .i64 x.2.2.1.1, .int .i64 x.2.2.1.2.1, .int .i64 x.2.2.1.2.2.1, .int .i64 x.2.2.1.2.2.2.1, .string x.2.2.1.2.2.2.2, .slice x.2.2.2.1.1 x.2.2.2.1.2.1 x.2.2.2.1.2.2, .slice x.2.2.2.2.1 x.2.2.2.2.2.1 x.2.2.2.2.2.2] 48 + (cA b2 (tb50 p2 n2 c2 q2 m2 d2 (playL (ys.take i)).2) 29 + (cA b1 (tb50 none 0 0 none 0 0 0) 29 + G)))))
      refine (do_ok (k := x.1) (id := x.2.1) (r := x.2.2.1) a rs s' (by omega) hk0 rd ri hsm.1 hsm.2).mono fun w h6 ⟨v', O', A', hw, rs', a', s⟩ => ?_
      rw [← hk, ← hid, ← hr, ← play_snoc, ← htk] at rs' a'
      have hnx' : (playL (ys.take (i + 1))).2 ≤ 20 * ((i + 1 : Nat) : Int) := by
        have := step_nx (playL (ys.take i)) (yk, yid, yr, yds, yins) (by rw [hril]; exact hsm.2)
        rw [← play_snoc, ← htk] at this
        push_cast; omega
      have rs0 := rs'
      obtain ⟨p3, n3, c3, q3, m3, d3, X1, X2, rfl, x1, x2, hX⟩ := rs'
      refine ⟨_, _, _, _, _, _, _, _, hw, s.new (cs := [_, _, _]) fun b4 h7 _ s => s.wr3 fun h8 s => condNo rfl ?_⟩
      have hx1 := x1.len
      rw [List.length_map] at hx1
      refine ⟨_, (Len_s a' (s.at A')).mono fun v h9 ⟨hh, hv⟩ => ⟨hv, hh⟩, _, _, _, s.ld0, condNo (by rw [hx1, decide_eq_true rfl]; rfl) ?_⟩
      rw [l50_played_b2_eq]
      refine ⟨_, _, _, _, _, _, _, s.ld0, s.ldB, s.ldB, s.wr3 fun h10 s => ?_⟩
      rw [l50_played_b4_eq]
      refine ⟨⟨by omega, by omega⟩, ⟨i + 1, p3, n3, c3, q3, m3, d3, A', O', by push_cast; rfl, by omega, hnx', a', rs0, ?_⟩, by dsimp only; omega⟩
      exact ((s.find b3).drop.find b4).drop.to
  · obtain rfl : i = n := by omega
    rw [List.take_of_length_le (by omega)] at a rs s
    exact play3 a rs s
end
end Go.Proofs.Ytfkccighnkepgaa

/- The law: queries. -/
set_option maxRecDepth 100000
namespace Go.Proofs.Ytfkccighnkepgaa
open Go Go.Sx
theorem steps_ys {h : Hp} : ∀ {l : List S9}, (∀ x ∈ l, ∃ y, StpIs h x y) → ∃ ys : List Stp, ys.length = l.length ∧ ∀ i, i < l.length → StpIs h (l.getD i tS9.d) (ys.getD i dStp)
  | [], _ => ⟨[], rfl, fun i hi => absurd hi (Nat.not_lt_zero _)⟩
  | x :: l, hx => by
    obtain ⟨y, hy⟩ := hx x List.mem_cons_self
    obtain ⟨ys, h1, h2⟩ := steps_ys (l := l) fun x h => hx x (List.mem_cons_of_mem _ h)
    refine ⟨y :: ys, by rw [List.length_cons, List.length_cons, h1], fun i hi => ?_⟩
    cases i with
    | zero => exact hy
    | succ i => exact h2 i (by rw [List.length_cons] at hi; omega)
/-- What is played, in a state. -/
theorem Played_l {h0 h : Hp} {p : Option Addr} {n c : Nat} {l : List S9} {G : Bag} (r : RdT tS9 h0 p n l) {ys : List Stp} (hyl : ys.length = l.length) (hy : ∀ i, i < l.length → StpIs h0 (l.getD i tS9.d) (ys.getD i dStp)) (hs : n ≤ 40 ∧ ∀ x ∈ l, small x) (s : St h0 h G) {K : Value → Hp → Prop}
    (hK : ∀ tb p n c q m d O1 O2 A h', Sl TI p n c ((playL ys).1.map Prod.fst) O1 → Sl tRec q m d ((playL ys).1.map Prod.snd) O2 → TabS tb (playL ys).1 (playL ys).2 A → St h0 h' (A + (O1 + (O2 + G))) → K (.tuple #[ptr tb, encT p n c q m d (playL ys).2, .bool true]) h') :
    HCalls Try.prog 9 #[.slice p n c] h K := by
  have hln := r.len
  refine (Played_r (ys := ys) r (by omega) (fun i hi => hy i (by omega)) hs.1 hs.2 s).mono fun w h' ⟨tb, v, O, A, hw, rs, a, s⟩ => ?_
  obtain ⟨p, n, c, q, m, d, O1, O2, rfl, o1, o2, rfl⟩ := rs
  subst hw
  exact hK _ _ _ _ _ _ _ _ _ _ _ o1 o2 a s.to
theorem play_nx {ys : List Stp} (hs : ∀ y ∈ ys, y.2.2.2.2.length ≤ 20) : (playL ys).2 ≤ 20 * ys.length := by
  have : ∀ (ys : List Stp) (s : LS), (∀ y ∈ ys, y.2.2.2.2.length ≤ 20) → (ys.foldl stepP s).2 ≤ s.2 + 20 * ys.length := by
    intro ys
    induction ys with
    | nil => intro s _; simp
    | cons y ys ih =>
      intro s h
      rw [List.foldl_cons, List.length_cons]
      have h1 := ih (stepP s y) fun x hx => h x (List.mem_cons_of_mem _ hx)
      have h2 := step_nx s y (h y List.mem_cons_self)
      push_cast
      omega
  have := this ys ([], 0) hs
  simpa [playL] using this
section
variable {h : Hp} {p : Option Addr} {n c : Nat} {l : List S9}
end
end Go.Proofs.Ytfkccighnkepgaa

/- How a slice that is handed in is read: elements of any number of cells. -/
namespace Go.Sx
open Go Go.ChangeShapes Go.WideShapes Go.Deep
section
variable {H : Type} {enc : TypeId × Value → H} {P : Program} {w : World} {base : Nat} {sp : Nat → Bool} {held : Bool} {α : Type}
theorem rd_flat {t : TypeId} (T : Ty α) {W : α → Prop} {a : Option Addr} {len cap : Nat} {d : DataW H} {ps : List MemPlace} (ht : P.underlying t = some (.slice T.e)) (hc : P.cellsOf T.e = T.sz)
    (dec : ∀ n cs x, DataW.trod enc P w base sp held n T.e cs = some x → ∃ a, cs = T.enc a ∧ W a) (h : DataW.Trod enc P w base sp held t (.slice a len cap) d ps) :
    ∃ xs : List α, RdT T w.heap a len xs ∧ len ≤ cap ∧ ∀ x ∈ xs, W x := by
  obtain ⟨fuel, hf⟩ := h
  have e0 : (Value.slice a len cap).cells.toList = [.slice a len cap] := rfl
  rw [e0] at hf
  rcases open_slice ht hf with ⟨hcs, _⟩ | ⟨x, l, c, m, n, D, Pl, hcs, _, hl, _, hm, _, hx⟩
  · injection hcs with h1 _
    injection h1 with h1 h2 h3
    subst h1 h2 h3
    exact ⟨[], RdT.nil _ _, Nat.le_refl _, fun _ h => nomatch h⟩
  · injection hcs with h1 _
    injection h1 with h1 h2 h3
    subst h1 h2 h3
    have hlm : len ≤ m := by rw [hm]; split <;> omega
    haveI : Inhabited α := ⟨T.d⟩
    obtain ⟨f, hf⟩ := choose_lt (α := α) (n := len) (p := fun i z => w.cells? base (x.add (i * T.sz)) T.sz = some (T.enc z) ∧ W z) (fun i hi => by
      obtain ⟨cs, h1, h2⟩ := hx i (by omega)
      obtain ⟨z, hz, hw⟩ := dec n cs _ h2
      rw [hc] at h1
      exact ⟨z, by rw [h1, hz], hw⟩)
    refine ⟨(List.range len).map f, ⟨by simp, .inr ⟨x, rfl, fun i hi => ?_⟩⟩, hl, fun z hz => ?_⟩
    · have hp := T.pos
      have hdm : T.sz * (i / T.sz) + i % T.sz = i := Nat.div_add_mod i T.sz
      have hq : i / T.sz < len := (Nat.div_lt_iff_lt_mul hp).2 hi
      have hr : i % T.sz < T.sz := Nat.mod_lt _ hp
      obtain ⟨_, _, h3⟩ := World.cells?_some (hf _ hq).1
      have h4 := h3 _ hr
      have e1 : i / T.sz * T.sz + i % T.sz = i := by rw [Nat.mul_comm]; exact hdm
      rw [add_add, e1] at h4
      show cell w.heap (x.add i) = _
      rw [← cell_eq, h4]
      have := T.cells_get ((List.range len).map f) (i := i / T.sz) (j := i % T.sz) (by simpa using hq) hr
      rw [e1] at this
      rw [this]
      simp [List.getD, hq]
    · obtain ⟨i, hi, rfl⟩ := List.mem_map.1 hz
      exact (hf i (List.mem_range.1 hi)).2
theorem dec_int {e : TypeId} {k : IntKind} (he : P.underlying e = some (.int k)) (n : Nat) (cs : List Value) (x : DataW H × List MemPlace) (h : DataW.trod enc P w base sp held n e cs = some x) : ∃ z, cs = [.int k z] ∧ (Lit.int k z).wf = true := by
  obtain ⟨z, h1, _, h2⟩ := DataW.trod_int he h
  exact ⟨z, h1, h2⟩
end
end Go.Sx

/- How the law's arguments are read: calls, records. -/
set_option maxRecDepth 10000
namespace Go.Proofs.Ytfkccighnkepgaa
open Go Go.Sx Go.ChangeShapes Go.WideShapes Go.ChangeAt Go.RowKit Go.Deep

theorem own : ownKnob Try.prog.godebug = none := by kernel_rfl
theorem laidOut : laidOutB Try.prog = true := by kernel_rfl
theorem maxL_of {W : World} (h : W.ShapedOpen Try.prog) : MaxL W.heap := by
  obtain ⟨m, hm⟩ := Try.laysM144.s1_3 W h
  exact ⟨m, hm⟩
theorem below_of {P : Program} {f : FuncId} {args : Array Value} {w : World} (hc : HCalls P f args w.heap (fun v h' => v = .bool true ∧ Ext w.heap h')) :
    Calls P f args w fun e w' => e = .returned (.bool true) ∧ Below w.heap.size w w' :=
  (hc w rfl).mono fun e w' ⟨v, he, hs, hv, hx⟩ => ⟨by rw [he, hv], ⟨hs.os, hs.tape, hs.output, hx.size, hx.same⟩⟩
section
variable {H : Type} {enc : TypeId × Value → H} {w : World} {base : Nat} {held : Bool} {a : Option Addr} {len cap : Nat} {d : DataW H} {ps : List MemPlace}
theorem dec_rec (n : Nat) (cs : List Value) (x : DataW H × List MemPlace) (h : DataW.trod enc Try.prog w base (fun _ => true) held n 46 cs = some x) : ∃ r : Rec, cs = tRec.enc r ∧ (InR r.1 ∧ InR r.2.1 ∧ InR r.2.2.1 ∧ InR r.2.2.2.1) := by
  obtain ⟨xs, m, _, _, hl, hxl, hx⟩ := DataW.trod_struct Try.underlying46 h
  rw [show Try.prog.cellsOf 46 = 5 by kernel_rfl] at hl
  match cs, xs, hl, hxl with
  | [c0, c1, c2, c3, c4], [y0, y1, y2, y3, y4], _, _ =>
    obtain ⟨z0, e0, w0⟩ := dec_int (k := .i64) (by kernel_rfl) _ _ _ (hx 0 _ rfl)
    obtain ⟨z1, e1, w1⟩ := dec_int (k := .i64) (by kernel_rfl) _ _ _ (hx 1 _ rfl)
    obtain ⟨z2, e2, w2⟩ := dec_int (k := .i64) (by kernel_rfl) _ _ _ (hx 2 _ rfl)
    obtain ⟨z3, e3, w3⟩ := dec_int (k := .i64) (by kernel_rfl) _ _ _ (hx 3 _ rfl)
    obtain ⟨z4, e4, _⟩ := DataW.trod_string (t := 9) (by kernel_rfl) (hx 4 _ rfl)
    have f0 : c0 = .int .i64 z0 := (List.cons.inj (show [c0] = [Value.int .i64 z0] from e0)).1
    have f1 : c1 = .int .i64 z1 := (List.cons.inj (show [c1] = [Value.int .i64 z1] from e1)).1
    have f2 : c2 = .int .i64 z2 := (List.cons.inj (show [c2] = [Value.int .i64 z2] from e2)).1
    have f3 : c3 = .int .i64 z3 := (List.cons.inj (show [c3] = [Value.int .i64 z3] from e3)).1
    have f4 : c4 = .string z4 := (List.cons.inj (show [c4] = [Value.string z4] from e4)).1
    exact ⟨(z0, z1, z2, z3, z4), by rw [f0, f1, f2, f3, f4], bounds_i64 w0, bounds_i64 w1, bounds_i64 w2, bounds_i64 w3⟩
theorem rd_recs (h : DataW.Trod enc Try.prog w base (fun _ => true) held 27 (.slice a len cap) d ps) : ∃ l : List Rec, RdT tRec w.heap a len l ∧ len ≤ cap ∧ ∀ x ∈ l, InR x.1 ∧ InR x.2.1 ∧ InR x.2.2.1 ∧ InR x.2.2.2.1 :=
  rd_flat tRec Try.underlying27 (by kernel_rfl) dec_rec h
theorem rd_intsT (h : DataW.Trod enc Try.prog w base (fun _ => true) held 26 (.slice a len cap) d ps) : ∃ l : List Int, RdT TI w.heap a len l ∧ len ≤ cap ∧ ∀ x ∈ l, InR x :=
  rd_flat (W := InR) TI Try.underlying26 (by kernel_rfl) (fun n cs x h => by
    obtain ⟨z, h1, h2⟩ := dec_int (k := .i64) (by kernel_rfl) n cs x h
    exact ⟨z, h1, bounds_i64 h2⟩) h
theorem rd_st50 (h : DataW.Trod enc Try.prog w base (fun _ => true) held 22 (.slice a len cap) d ps) : ∃ l : List S9, RdT tS9 w.heap a len l ∧ len ≤ cap ∧ ∀ x ∈ l, ∃ y, StpIs w.heap x y :=
  rd_flat tS9 Try.underlying22 (by kernel_rfl) (fun n cs x h => by
    obtain ⟨xs, m, _, _, hl, hxl, hx⟩ := DataW.trod_struct Try.underlying48 h
    rw [show Try.prog.cellsOf 48 = 9 by kernel_rfl] at hl
    match cs, xs, hl, hxl with
    | [c0, c1, c2, c3, c4, c5, c6, c7, c8], [y0, y1, y2, y3, y4], _, _ =>
      obtain ⟨z0, e0, w0⟩ := dec_int (k := .u8) (by kernel_rfl) _ _ _ (hx 0 _ rfl)
      obtain ⟨z1, e1, w1⟩ := dec_int (k := .i64) (by kernel_rfl) _ _ _ (hx 1 _ rfl)
      have f0 : c0 = .int .u8 z0 := (List.cons.inj (show [c0] = [Value.int .u8 z0] from e0)).1
      have f1 : c1 = .int .i64 z1 := (List.cons.inj (show [c1] = [Value.int .i64 z1] from e1)).1
      have h2 : DataW.trod enc Try.prog w base (fun _ => true) held m 46 [c2, c3, c4, c5, c6] = some y2 := hx 2 _ rfl
      obtain ⟨r, e2, _⟩ := dec_rec _ _ _ h2
      have h3 : DataW.trod enc Try.prog w base (fun _ => true) held m 26 [c7] = some y3 := hx 3 _ rfl
      have h4 : DataW.trod enc Try.prog w base (fun _ => true) held m 27 [c8] = some y4 := hx 4 _ rfl
      have k3 : ∃ a' l' c', [c7] = [Value.slice a' l' c'] := by
        rcases open_slice Try.underlying26 h3 with ⟨hcs, _⟩ | ⟨_, _, _, _, _, _, _, hcs, _⟩
        · exact ⟨_, _, _, hcs⟩
        · exact ⟨_, _, _, hcs⟩
      have k4 : ∃ a' l' c', [c8] = [Value.slice a' l' c'] := by
        rcases open_slice Try.underlying27 h4 with ⟨hcs, _⟩ | ⟨_, _, _, _, _, _, _, hcs, _⟩
        · exact ⟨_, _, _, hcs⟩
        · exact ⟨_, _, _, hcs⟩
      obtain ⟨a3, l3, q3, hc3⟩ := k3
      obtain ⟨a4, l4, q4, hc4⟩ := k4
      have f7 : c7 = .slice a3 l3 q3 := (List.cons.inj hc3).1
      have f8 : c8 = .slice a4 l4 q4 := (List.cons.inj hc4).1
      rw [hc3] at h3
      rw [hc4] at h4
      obtain ⟨zs, r3, _, _⟩ := rd_intsT (d := y3.1) (ps := y3.2) ⟨m, h3⟩
      obtain ⟨rs, r4, _, _⟩ := rd_recs (d := y4.1) (ps := y4.2) ⟨m, h4⟩
      have g2 : [c2, c3, c4, c5, c6] = [Value.int .i64 r.1, .int .i64 r.2.1, .int .i64 r.2.2.1, .int .i64 r.2.2.2.1, .string r.2.2.2.2] := e2
      injection g2 with g2 g3
      injection g3 with g3 g4
      injection g4 with g4 g5
      injection g5 with g5 g6
      injection g6 with g6 _
      refine ⟨(z0, z1, r, (a3, l3, q3), (a4, l4, q4)), by rw [f0, f1, f7, f8, g2, g3, g4, g5, g6], (z0, z1, r, zs, rs), rfl, rfl, rfl, r3, r4, ?_⟩
      exact (bounds_u8 w0).1) h
end
end Go.Proofs.Ytfkccighnkepgaa

/- The laws: joins, plays. -/
set_option maxRecDepth 100000
namespace Go.Proofs.Ytfkccighnkepgaa
open Go Go.Sx
theorem eq_rec (a b : Rec) : (decide (a.1 = b.1) && (decide (a.2.1 = b.2.1) && (decide (a.2.2.1 = b.2.2.1) && (decide (a.2.2.2.1 = b.2.2.2.1) && ((a.2.2.2.2 == b.2.2.2.2) && true))))) = decide (a = b) := by
  rw [beq_bytes, Bool.and_true, ← Bool.decide_and, ← Bool.decide_and, ← Bool.decide_and, ← Bool.decide_and]
  refine decide_eq_decide.2 ⟨fun ⟨h1, h2, h3, h4, h5⟩ => Prod.ext h1 (Prod.ext h2 (Prod.ext h3 (Prod.ext h4 h5.symm))), fun h => by subst h; exact ⟨rfl, rfl, rfl, rfl, rfl⟩⟩
theorem neq_rec {xo yo : Operand} (a b : Rec) {h : Hp} : eqC Try.prog .neq 46 xo yo (encR a) (encR b) h (!decide (a = b)) := by
  rw [← eq_rec]
  exact (eqC_struct (xs := tRec.enc a) (ys := tRec.enc b) (fs := structFs Try.prog 46) (by kernel_rfl) (by kernel_rfl) (by kernel_rfl) (by kernel_rfl)).2 rfl
section
variable {h : Hp} {p q : Option Addr} {n c m d : Nat} {l k : List S9}
end
end Go.Proofs.Ytfkccighnkepgaa

/- The law: plays. -/
set_option maxRecDepth 100000
namespace Go.Proofs.Ytfkccighnkepgaa
open Go Go.Sx
theorem mem_uniq {L : List LRow} {nx : Int} (o : LOk L nx) {id : Int} {r r' : Rec} (h1 : (id, r) ∈ L) (h2 : (id, r') ∈ L) : r = r' := by
  have := nodup_inj (f := Prod.fst) o.ids h1 h2 rfl
  exact congrArg Prod.snd this
section
variable {h : Hp} {p : Option Addr} {n c : Nat} {l : List S9}
end
end Go.Proofs.Ytfkccighnkepgaa

/- The law: batches. -/
set_option maxRecDepth 100000
namespace Go.Proofs.Ytfkccighnkepgaa
open Go Go.Sx
theorem numL_id : ∀ (l : List Rec) (nx : Int) (i : Nat), i < l.length → ((numL nx l).map Prod.fst).getD i 0 = nx + (i : Nat)
  | r :: l, nx, 0, _ => by show nx = _; simp
  | r :: l, nx, i + 1, h => by
    rw [List.length_cons] at h
    have := numL_id l (nx + 1) i (by omega)
    show ((numL (nx + 1) l).map Prod.fst).getD i 0 = _
    rw [this]; push_cast; omega
theorem at2 {h0 h : Hp} {B C D : Bag} (s : St h0 h B) (A M : Bag) [x : Bag.Sub A B C] [y : Bag.Sub M C D] : St h0 h (A + (M + D)) := by
  have h1 := x.eq
  have h2 := y.eq
  rw [h1, h2] at s
  exact s
section
variable {h0 h : Hp} {p : Option Addr} {n c : Nat} {l : List S9}
theorem same_b4 {h1 : Hp} {tb ub : Nat} {L : List LRow} {nx ny : Int} {A B G : Bag} (a : TabS tb L nx A) (b : TabS ub L ny B) (s : St h0 h1 (A + (B + G))) :
    l50_same_b4 (some ⟨tb, 0, none⟩) (some ⟨ub, 0, none⟩) h1 (fun v h' => v = .bool true ∧ Ext h0 h') := by
  have hol := a.ok.len
  rw [l50_same_b4_eq]
  refine (ByKey_s a (s.at A) _ _).mono fun v h2 ⟨q1, m1, d1, B1, l1, hv, o1, k1, s⟩ => ⟨_, _, _, _, hv, ?_⟩
  refine (ByKey_s b (s.at B) _ _).mono fun v h3 ⟨q2, m2, d2, B2, l2, hv, o2, k2, s⟩ => ⟨_, _, _, _, hv, condYes rfl (condYes rfl ?_)⟩
  have hl := k1.1.length_eq
  rw [all_key a.ok, List.length_map] at hl
  have hm := o1.len
  obtain rfl := k1.uniq a.ok a.keys k2
  exact (EqualI (o1.rd (s.at B1)) (o2.rd (s.at B2)) (by omega)).mono fun v h4 ⟨hh, hv⟩ => ⟨_, hv, by rw [decide_eq_true rfl], by rw [hh]; exact s.ext⟩
theorem same_s {h1 : Hp} {tb ub : Nat} {L : List LRow} {nx ny : Int} {A B G : Bag} (a : TabS tb L nx A) (b : TabS ub L ny B) (s : St h0 h1 (A + (B + G))) :
    HCalls Try.prog 23 #[ptr tb, ptr ub] h1 (fun v h' => v = .bool true ∧ Ext h0 h') := by
  have lo := a.ok
  have hol := lo.len
  refine l50_same_call ?_
  rw [l50_same_b0_eq]
  refine (List_s a (s.at A)).mono fun v h2 ⟨q1, m1, d1, B1, hv, o1, s⟩ => ⟨_, _, _, hv, ?_⟩
  refine (List_s b (s.at B)).mono fun v h3 ⟨q2, m2, d2, B2, hv, o2, s⟩ => ⟨_, _, _, hv, ?_⟩
  have hm := o1.len
  rw [List.length_map] at hm
  refine (EqualI (o1.rd (s.at B1)) (o2.rd (s.at B2)) (by omega)).mono fun v h4 ⟨hh, hv⟩ => ⟨_, hv, condNo (by simp) (condNo (decide_eq_false (by omega)) ?_)⟩
  subst hh
  rw [l50_same_b1_eq]
  have s := s.to (B := A + (B + (B1 + (B2 + G))))
  refine ⟨fun x h' => ∃ i : Nat, x.1 = i ∧ i ≤ m1 ∧ St h0 h' (A + (B + (B1 + (B2 + G)))), fun x _ => (m1 - x.1).toNat, ⟨0, rfl, Nat.zero_le _, s⟩, ?_⟩
  clear s
  rintro ⟨z, _⟩ h5 ⟨i, hz, hi, s⟩
  dsimp only at hz ⊢
  subst hz
  rw [l50_same_b2_eq]
  refine condP (fun hlt => ?_) (fun hge => ?_)
  · have hil : i < L.length := by omega
    have g1 : (L.map Prod.fst).getD i 0 = L[i].1 := by rw [getD_get (by rw [List.length_map]; exact hil), List.getElem_map]
    refine ldI (i' := i) (o1.rd (s.at B1)) rfl (by omega) ?_
    rw [g1]
    refine (Get_s a (s.at A) L[i].1).mono fun v h6 ⟨s, hv⟩ => ?_
    rcases hv with ⟨hno, hv⟩ | ⟨r, hr, hv⟩
    · exact absurd (List.mem_map.2 ⟨_, List.getElem_mem hil, rfl⟩) hno
    obtain rfl : r = L[i].2 := mem_uniq lo hr (List.getElem_mem hil)
    refine ⟨_, _, _, _, _, _, hv, s.new (cs := [_, _, _, _, _]) fun b1 h7 _ s => wr5 s fun h8 s => ?_⟩
    refine (Get_s b (s.at B) L[i].1).mono fun v h9 ⟨s, hv⟩ => ?_
    rcases hv with ⟨hno, hv⟩ | ⟨r, hr, hv⟩
    · exact absurd (List.mem_map.2 ⟨_, List.getElem_mem hil, rfl⟩) hno
    obtain rfl : r = L[i].2 := mem_uniq lo hr (List.getElem_mem hil)
    refine ⟨_, _, _, _, _, _, hv, s.new (cs := [_, _, _, _, _]) fun b2 h7 _ s => wr5 s fun h8 s => condNo rfl (condNo rfl ?_)⟩
    refine ⟨_, _, _, _, _, s.ld0, s.ldB, s.ldB, s.ldB, s.ldB, _, _, _, _, _, s.ld0, s.ldB, s.ldB, s.ldB, s.ldB, _, neq_rec _ _, condNo (by simp) ?_⟩
    rw [l50_same_b3_eq]
    exact ⟨⟨by omega, by omega⟩, ⟨i + 1, by push_cast; rfl, by omega, ((s.find b1).drop.find b2).drop.to⟩, by dsimp only; omega⟩
  · exact same_b4 a b s
variable {ds : List Int} {ins : List Rec} {dp ip : Option Addr} {dn dc im ic : Nat}
theorem batches_b6 {h1 : Hp} {tb ub : Nat} {L : List LRow} {nx : Int} {q : Option Addr} {m d : Nat} {A A2 B G : Bag} (LO : LOk L nx) (a : TabS tb (batL L nx ds ins) (nx + (ins.length : Nat)) A) (u : TabS ub (delA L ds) nx A2) (hb : BE L ds ins 0) (o : Sl TI q m d ((numL nx ins).map Prod.fst) B) (r2 : RdT tRec h0 ip im ins) (hnx : nx ≤ 900000) (s : St h0 h1 (A + (A2 + (B + G)))) :
    l50_TableBatches_b6 ip im ic (some ⟨tb, 0, none⟩) (some ⟨ub, 0, none⟩) q m d h1 (fun v h' => v = .bool true ∧ Ext h0 h') := by
  obtain ⟨h1v, h2v, h3v, h4v, h5v⟩ := hb.okd
  have hl2 := r2.len
  have hn0 := LO.n0
  have hml := o.len
  rw [List.length_map, numL_len] at hml
  rw [l50_TableBatches_b6_eq]
  refine ⟨fun x h' => ∃ (i : Nat) (A2 : Bag), x.1 = i ∧ i ≤ im ∧ TabS ub (delA L ds ++ numL nx (ins.take i)) (nx + (i : Nat)) A2 ∧ St h0 h' (A + (A2 + (B + G))), fun x _ => (im - x.1).toNat, ⟨0, A2, rfl, Nat.zero_le _, ?_, s⟩, ?_⟩
  · rw [List.take_zero]
    show TabS ub (delA L ds ++ []) _ A2
    rw [List.append_nil, show nx + ((0 : Nat) : Int) = nx by omega]
    exact u
  clear s u
  rintro ⟨z, _⟩ h2 ⟨i, A2, hz, hi, u, s⟩
  dsimp only at hz ⊢
  subst hz
  rw [l50_TableBatches_b7_eq]
  refine condP (fun hlt => ?_) (fun hge => ?_)
  · have hil : i < ins.length := by omega
    have htk : ins.take (i + 1) = ins.take i ++ [ins.getD i tRec.d] := by rw [getD_get hil, List.take_succ_eq_append_getElem hil]
    have hlen : (ins.take i).length = i := by rw [List.length_take]; omega
    have hk := keys_take h4v hil nx
    have hv : vRec (ins.getD i tRec.d) = true := by rw [getD_get hil]; exact h1v _ (List.getElem_mem hil)
    have hll : (delA L ds ++ numL nx (ins.take i)).length < 1000 := by rw [List.length_append, numL_len, hlen]; omega
    refine rec_rd (r2.ext s.ext) (by omega) fun ad _ => ?_
    generalize ins.getD i tRec.d = r at htk hk hv
    have e : insP (delA L ds ++ numL nx (ins.take i)) (nx + (i : Nat)) r = (((delA L ds ++ numL nx (ins.take i)) ++ [(nx + (i : Nat), r)], nx + (i : Nat) + 1), nx + (i : Nat), 0) := by
      unfold insP
      rw [if_neg (vnot1 hv), if_neg hk, if_neg (by omega)]
    refine s.new (cs := [_, _, _, _, _]) fun b4 h3 _ s => wr5 s fun h4 s => ⟨_, _, _, _, _, s.ld0, s.ldB, s.ldB, s.ldB, s.ldB, ?_⟩
    refine (Insert_S u (s.at A2) (by omega) r).mono fun v h5 ⟨hv5, A3, a3, s⟩ => ?_
    rw [e] at hv5 a3
    refine ⟨_, _, hv5, condNo rfl (ldI (i' := i) (o.rd (s.at B)) rfl (by omega) ?_)⟩
    rw [numL_id ins nx i hil]
    refine condNo (by simp) ?_
    rw [l50_TableBatches_b8_eq]
    refine ⟨⟨by omega, by omega⟩, ⟨i + 1, A3, by push_cast; rfl, by omega, ?_, ((s.find b4).drop).to⟩, by dsimp only; omega⟩
    rw [htk, numL_app, ← List.append_assoc, hlen]
    rw [show nx + ((i + 1 : Nat) : Int) = nx + (i : Nat) + 1 by push_cast; omega]
    exact a3
  · obtain rfl : i = im := by omega
    rw [List.take_of_length_le (by omega)] at u
    rw [l50_TableBatches_b9_eq]
    exact (same_s a u s).mono fun v h' hv => ⟨_, hv.1, rfl, hv.2⟩
theorem batches_b2 {h1 : Hp} {tb ub : Nat} {L : List LRow} {nx : Int} {A A2 G : Bag} (a : TabS tb L nx A) (u : TabS ub L nx A2) (r1 : RdT TI h0 dp dn ds) (r2 : RdT tRec h0 ip im ins) (hdn : dn ≤ 20) (him : im ≤ 20) (hnx : nx ≤ 800000) (s : St h0 h1 (A + (A2 + G))) :
    l50_TableBatches_b2 dp dn dc ip im ic (some ⟨tb, 0, none⟩) (some ⟨ub, 0, none⟩) h1 (fun v h' => v = .bool true ∧ Ext h0 h') := by
  have lo := a.ok
  have hol := lo.len
  have hl1 := r1.len
  have hl2 := r2.len
  rw [l50_TableBatches_b2_eq]
  refine (Batch_S a s r1 r2 (by omega) (by omega) (by omega)).mono fun v h2 ⟨q, m, d, B, A', hv, o, a', s⟩ => ⟨_, _, _, _, hv, ?_⟩
  clear a
  have hbe := batE_ok L ds ins
  by_cases he : batE L ds ins = 0
  · have eP : batP L nx ds ins = ((batL L nx ds ins, nx + (ins.length : Nat)), (numL nx ins).map Prod.fst) := if_pos he
    rw [eP] at o a'
    rw [he] at hbe
    obtain ⟨h1v, h2v, h3v, h4v, h5v⟩ := hbe.okd
    have hm := o.len
    rw [List.length_map, numL_len] at hm
    refine condNo (by rw [he]; rfl) (condNo (by rw [← hm, hl2]; simp) ?_)
    have s := s.to (B := A' + (A2 + (B + G)))
    refine ⟨fun x h' => ∃ (i : Nat) (A2 : Bag), x.1 = i ∧ i ≤ dn ∧ TabS ub (delA L (ds.take i)) nx A2 ∧ St h0 h' (A' + (A2 + (B + G))), fun x _ => (dn - x.1).toNat, ⟨0, A2, rfl, Nat.zero_le _, by rw [List.take_zero, delA_nil]; exact u, s⟩, ?_⟩
    clear s u
    rintro ⟨z, _⟩ h3 ⟨i, A2, hz, hi, u, s⟩
    dsimp only at hz ⊢
    subst hz
    rw [l50_TableBatches_b4_eq]
    refine condP (fun hlt => ?_) (fun hge => ?_)
    · have hil : i < ds.length := by omega
      have htk : ds.take (i + 1) = ds.take i ++ [ds.getD i 0] := by rw [getD_get hil, List.take_succ_eq_append_getElem hil]
      have hm : ds.getD i 0 ∈ (delA L (ds.take i)).map Prod.fst := delA_ids.2 ⟨h3v _ (by rw [getD_get hil]; exact List.getElem_mem hil), fun hc => by
        have h2' : (ds.take (i + 1)).Nodup := h2v.sublist (List.take_sublist _ _)
        rw [htk, List.nodup_append] at h2'
        exact h2'.2.2 _ hc _ (List.mem_singleton.2 rfl) rfl⟩
      refine ldI (i' := i) (r1.ext s.ext) rfl (by omega) ?_
      have e : delP (delA L (ds.take i)) (ds.getD i 0) = (delA L (ds.take (i + 1)), 0) := by
        unfold delP
        rw [if_neg (fun h => h hm), htk, delA_snoc]
      refine (Delete_S u (s.at A2) (ds.getD i 0)).mono fun v h4 ⟨hv4, A3, a3, s⟩ => ?_
      rw [e] at hv4 a3
      refine ⟨_, hv4, condNo rfl ?_⟩
      rw [l50_TableBatches_b5_eq]
      exact ⟨⟨by omega, by omega⟩, ⟨i + 1, A3, by push_cast; rfl, by omega, a3, s.to⟩, by dsimp only; omega⟩
    · obtain rfl : i = dn := by omega
      rw [List.take_of_length_le (by omega)] at u
      exact batches_b6 lo a' u hbe o r2 (by omega) s
  · have eP : batP L nx ds ins = ((L, nx), []) := if_neg he
    rw [eP] at o a'
    have a' : TabS tb L nx A' := a'
    have hm := o.len
    obtain rfl : m = 0 := by simpa using hm.symm
    refine condYes (by simp [he]) (condNo (by simp) ?_)
    refine (List_s a' (s.at A')).mono fun v h3 ⟨q1, m1, d1, B1, hv, o1, s⟩ => ⟨_, _, _, hv, ?_⟩
    refine (List_s u (s.at A2)).mono fun v h4 ⟨q2, m2, d2, B2, hv, o2, s⟩ => ⟨_, _, _, hv, ?_⟩
    have hm := o1.len
    rw [List.length_map] at hm
    refine (EqualI (o1.rd (s.at B1)) (o2.rd (s.at B2)) (by omega)).mono fun v h5 ⟨hh, hv⟩ => ⟨_, hv, condNo (by simp) ?_⟩
    subst hh
    rw [l50_TableBatches_b3_eq]
    refine (Insert_S a' (s.at A') (by omega) (1048576, 0, 0, 0, ⟨#[]⟩)).mono fun v h6 ⟨hv6, A3, a3, s⟩ => ⟨_, _, hv6, ?_⟩
    refine (Insert_S u (s.at A2) (by omega) (1048576, 0, 0, 0, ⟨#[]⟩)).mono fun v h7 ⟨hv7, A4, a4, s⟩ => ⟨_, _, hv7, condYes (decide_eq_true rfl) ⟨by rw [decide_eq_true rfl], s.ext⟩⟩
theorem batches_law (r : RdT tS9 h p n l) (hl : ∀ x ∈ l, ∃ y, StpIs h x y) (r1 : RdT TI h dp dn ds) (r2 : RdT tRec h ip im ins) (hm : MaxL h) :
    HCalls Try.prog 4 #[.slice p n c, .slice dp dn dc, .slice ip im ic] h (fun v h' => v = .bool true ∧ Ext h h') := by
  have hrl := r.len
  refine l50_TableBatches_call ?_
  rw [l50_TableBatches_b0_eq]
  refine (Awake_r h hm).mono fun v h1 ⟨x1, hv⟩ => ⟨_, hv, condNo rfl ?_⟩
  refine (Great_r (r.ext x1) fun x hx => by obtain ⟨y, _, _, _, _, hr, _⟩ := hl x hx; exact ⟨_, hr.ext x1⟩).mono fun v h2 ⟨x2, b, hv, hb⟩ => ⟨b, hv, cond_intro (fun hbt => ⟨rfl, x1.trans x2⟩) (fun hbf => ?_)⟩
  have s := (St.start h).grow (x1.trans x2)
  refine s.new (cs := [_, _, _, _, _, _, _, _, _]) fun b1 h3 x3 s => ?_
  have ob : Sl tS9 (some ⟨b1, 0, none⟩) 1 1 [(0, 0, (0, 0, 0, 0, ⟨#[]⟩), (dp, dn, dc), (ip, im, ic))] (cA b1 [.int .u8 0, .int .i64 0, .int .i64 0, .int .i64 0, .int .i64 0, .int .i64 0, .string (⟨#[]⟩ : ByteArray), .slice dp dn dc, .slice ip im ic] 48) := Sl.one (T := tS9) rfl
  refine (Great_r (ob.rd s) fun x hx => by rw [List.mem_singleton] at hx; subst hx; exact ⟨ins, r2.ext s.ext⟩).mono fun v h4 ⟨x4, b, hv, hb4⟩ => ⟨b, hv, cond_intro (fun hbt => ⟨rfl, s.ext.trans x4⟩) (fun hbf4 => ?_)⟩
  have hsm := (hb4 hbf4).2 _ (List.mem_singleton.2 rfl)
  have hs := hb hbf
  have s := s.grow x4
  obtain ⟨ys, hyl, hy⟩ := steps_ys hl
  rw [l50_TableBatches_b1_eq]
  refine Played_l r hyl hy hs s fun tb p n c q' m' d' O1 O2 A h5 o1 o2 a s => ⟨_, _, _, _, _, _, _, _, _, rfl, ?_⟩
  refine s.new (cs := [_, _, _]) fun b2 h6 _ s => s.wr3 fun h7 s => ?_
  refine Played_l r hyl hy hs s fun ub p2 n2 c2 q2 m2 d2 O3 O4 A2 h8 o3 o4 a2 s => ⟨_, _, _, _, _, _, _, _, _, rfl, ?_⟩
  refine s.new (cs := [_, _, _]) fun b3 h9 _ s => s.wr3 fun h10 s => condNo rfl (condNo rfl ?_)
  have hnx : (playL ys).2 ≤ 800000 := by
    have := play_nx (ys := ys) fun y hy' => by
      obtain ⟨i, hi, rfl⟩ := List.getElem_of_mem hy'
      have hil : i < l.length := by omega
      have h1 := hy i hil
      rw [getD_get hi] at h1
      have h2 := hs.2 (l.getD i tS9.d) (by rw [getD_get hil]; exact List.getElem_mem hil)
      have h3 := h1.2.2.2.2.1.len
      rw [h3]; exact h2.2
    have := hs.1
    omega
  exact batches_b2 a a2 r1 r2 hsm.1 hsm.2 hnx (at2 s A A2)
end
end Go.Proofs.Ytfkccighnkepgaa
