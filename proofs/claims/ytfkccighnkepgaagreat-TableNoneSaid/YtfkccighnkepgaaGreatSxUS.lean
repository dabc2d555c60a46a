/- Part UG P41 P44 P45 UH UI UJ UK UL UM R1 FBT UN UO UP UQ UR US of the proof: contracts of functions of the program, and what follows from them. -/
import Derived.Test.YtfkccighnkepgaaGreatSxUF
import Derived.Test.YtfkccighnkepgaaGreatSxSL
import Derived.Deep.Slices
import Derived.OpenShut
import Derived.Test.YtfkccighnkepgaaGreatRows
import Derived.WalkKit
import Derived.ProofKit
import Derived.ShutString
import Derived.ChangeOld
import Derived.Below
import Derived.ChangeMaps5
import Derived.Deep.Grids
import Derived.HandedShaped
/- The reference: Batch, from its start. -/
set_option maxRecDepth 100000
namespace Go.Proofs.YtfkccighnkepgaaGreat
open Go Go.Sx
theorem has_any {M : List LRow} {nx : Int} (o : LOk M nx) (k : Int) : (M.any fun x => decide (x.2.1 = k ∧ x.1 ≠ -1)) = decide (k ∈ keysL M) := by
  rw [Bool.eq_iff_iff, List.any_eq_true, decide_eq_true_eq]
  constructor
  · rintro ⟨x, hx, hc⟩
    exact List.mem_map.2 ⟨x, hx, (of_decide_eq_true hc).1⟩
  · intro hc
    obtain ⟨x, hx, he⟩ := List.mem_map.1 hc
    exact ⟨x, hx, decide_eq_true ⟨he, by have := (o.lt x hx).1; omega⟩⟩
theorem mem_take_getD {α : Type} {d x : α} {l : List α} {i : Nat} (hi : i ≤ l.length) : x ∈ l.take i ↔ ∃ j, j < i ∧ l.getD j d = x := by
  rw [List.mem_take_iff_getElem]
  constructor
  · rintro ⟨j, hj, rfl⟩; exact ⟨j, by omega, getD_get (by omega)⟩
  · rintro ⟨j, hj, rfl⟩; exact ⟨j, by omega, (getD_get (by omega)).symm⟩
section
variable {h h1 : Hp} {p q : Option Addr} {n c m d : Nat} {nx nu : Int} {L Lu : List LRow} {G : Bag} {b1 b2 b3 : Nat} {ds : List Int} {ins : List Rec} {dp ip : Option Addr} {dn dc im ic : Nat}
theorem UIn.grow {h2 : Hp} (u : UIn h b1 b2 b3 p n c q m d L nx Lu nu G h1) (x : Ext h1 h2) : UIn h b1 b2 b3 p n c q m d L nx Lu nu G h2 := by
  obtain ⟨p', n', c', q', m', d', O, w, s⟩ := u
  exact ⟨p', n', c', q', m', d', O, w, s.grow x⟩
theorem btR15 (LO : LOk L nx) (r1 : RdT TI h p n (L.map Prod.fst)) (r2 : RdT tRec h q m (L.map Prod.snd)) (hc : n ≤ c) (hdm : m ≤ d) (ri : RdT tRec h ip im ins) (hnx : nx ≤ 900000) (him : im ≤ 1000000) (h1v : ∀ r ∈ ins, vRec r = true) (h2v : ds.Nodup) (h3v : ∀ d ∈ ds, d ∈ L.map Prod.fst) (h4v : (keysL (delA L ds) ++ ins.map fun r => r.1).Nodup) (u : UIn h b1 b2 b3 p n c q m d L nx (delA L ds) nx G h1) :
    r50_Batch_b15 ip im ic (some ⟨b1, 0, none⟩) (some ⟨b2, 0, none⟩) (some ⟨b3, 0, none⟩) h1 (BatRQ h p n c q m d L nx ds ins) := by
  have hli := ri.len
  have hol := (delA_ok LO ds).len
  have u0 := u
  obtain ⟨p', n', c', q', m', d', O, w, s⟩ := u
  obtain ⟨q1, q2, q3, q4⟩ := w.rd r1 r2 hc hdm (s.at O)
  have hl := q1.len
  rw [List.length_map] at hl
  rw [r50_Batch_b15_eq]
  refine ⟨_, _, _, s.ld0, ⟨by omega, by omega⟩, condP (fun hf => ?_) (fun hf => ?_)⟩
  · exact ⟨_, _, _, _, _, _, _, s.ld0, s.ldB, s.ldB, s.wr3 fun h5 s => ⟨_, _, _, _, _, _, _, s.ld0, s.ldB, s.ldB, .inl ⟨4, BE.ful h1v h2v h3v h4v (by omega), by decide, rfl, s.ext⟩⟩⟩
  · exact btR18 (LO := LO) r1 r2 hc hdm ri (BE.okk h1v h2v h3v h4v (by omega)) hnx u0
theorem btR11 (LO : LOk L nx) (r1 : RdT TI h p n (L.map Prod.fst)) (r2 : RdT tRec h q m (L.map Prod.snd)) (hc : n ≤ c) (hdm : m ≤ d) (ri : RdT tRec h ip im ins) (hnx : nx ≤ 900000) (him : im ≤ 1000000) (hkn : (keysL L).Nodup) (h1v : ∀ r ∈ ins, vRec r = true) (h2v : ds.Nodup) (h3v : ∀ d ∈ ds, d ∈ L.map Prod.fst) (u : UIn h b1 b2 b3 p n c q m d L nx (delA L ds) nx G h1) :
    r50_Batch_b11 ip im ic (some ⟨b1, 0, none⟩) (some ⟨b2, 0, none⟩) (some ⟨b3, 0, none⟩) h1 (BatRQ h p n c q m d L nx ds ins) := by
  have hli := ri.len
  have lo := delA_ok LO ds
  have hol := lo.len
  rw [r50_Batch_b11_eq]
  refine ⟨fun x h' => ∃ i : Nat, x.1 = i ∧ i ≤ im ∧ (∀ j, j < i → (ins.getD j tRec.d).1 ∉ keysL (delA L ds) ∧ (ins.getD j tRec.d).1 ∉ (ins.take j).map fun r => r.1) ∧ UIn h b1 b2 b3 p n c q m d L nx (delA L ds) nx G h', fun x _ => (im - x.1).toNat, ⟨0, rfl, Nat.zero_le _, fun j hj => absurd hj (Nat.not_lt_zero _), u⟩, ?_⟩
  clear u
  rintro ⟨z, _⟩ h2 ⟨i, hz, hi, hok, u⟩
  dsimp only at hz ⊢
  subst hz
  rw [r50_Batch_b13_eq]
  refine condP (fun hlt => ?_) (fun hge => ?_)
  · have hil : i < ins.length := by omega
    have hbad := fun hc => BE.exi h1v h2v h3v (keys_bad (L := L) (ds := ds) (ins := ins) hil hc)
    have u0 := u
    obtain ⟨p', n', c', q', m', d', O, w, s⟩ := u
    obtain ⟨q1, q2, q3, q4⟩ := w.rd r1 r2 hc hdm (s.at O)
    have hl := q1.len
    rw [List.length_map] at hl
    refine ⟨_, _, _, _, _, _, _, s.ld0, s.ldB, s.ldB, rec_key (ri.ext s.ext) (by omega) ?_⟩
    refine (Has_r (L := delA L ds) q1 q2 (by omega) (ins.getD i tRec.d).1 (-1)).mono fun v h3 ⟨x3, hv⟩ => ⟨_, hv, ?_⟩
    have s := s.grow x3
    rw [has_any lo]
    refine condP (fun hk => ?_) (fun hk => ?_)
    · exact ⟨_, _, _, _, _, _, _, s.ld0, s.ldB, s.ldB, s.wr3 fun h5 s => ⟨_, _, _, _, _, _, _, s.ld0, s.ldB, s.ldB, .inl ⟨15, hbad (.inl hk), by decide, rfl, s.ext⟩⟩⟩
    refine ⟨fun x h' => h' = h3 ∧ ∃ k : Nat, x.1 = k ∧ k ≤ i ∧ ∀ j, j < k → (ins.getD j tRec.d).1 ≠ (ins.getD i tRec.d).1, fun x _ => (i - x.1).toNat, ⟨rfl, 0, rfl, Nat.zero_le _, fun j hj => absurd hj (Nat.not_lt_zero _)⟩, ?_⟩
    rintro ⟨z, _⟩ h4 ⟨rfl, k, hz, hki, hno⟩
    dsimp only at hz ⊢
    subst hz
    rw [r50_Batch_b14_eq]
    refine condP (fun hlt2 => ?_) (fun hge2 => ?_)
    · refine rec_key (ri.ext s.ext) (by omega) (rec_key (ri.ext s.ext) (by omega) (condP (fun he => ?_) (fun he => ?_)))
      · refine ⟨_, _, _, _, _, _, _, s.ld0, s.ldB, s.ldB, s.wr3 fun h5 s => ⟨_, _, _, _, _, _, _, s.ld0, s.ldB, s.ldB, .inl ⟨15, hbad (.inr ?_), by decide, rfl, s.ext⟩⟩⟩
        exact List.mem_map.2 ⟨ins.getD k tRec.d, (mem_take_getD (by omega)).2 ⟨k, by omega, rfl⟩, he⟩
      · rw [r50_Batch_b16_eq]
        refine ⟨⟨by omega, by omega⟩, ⟨rfl, k + 1, by push_cast; rfl, by omega, fun j hj => ?_⟩, by dsimp only; omega⟩
        rcases Nat.lt_or_ge j k with h | h
        · exact hno j h
        · obtain rfl : j = k := by omega
          exact he
    · obtain rfl : k = i := by omega
      rw [r50_Batch_b17_eq]
      refine ⟨⟨by omega, by omega⟩, ⟨k + 1, by push_cast; rfl, by omega, fun j hj => ?_, u0.grow x3⟩, by dsimp only; omega⟩
      rcases Nat.lt_or_ge j k with h | h
      · exact hok j h
      · obtain rfl : j = k := by omega
        refine ⟨hk, fun hc => ?_⟩
        obtain ⟨y, hy, hye⟩ := List.mem_map.1 hc
        obtain ⟨t, ht, rfl⟩ := (mem_take_getD (d := tRec.d) (by omega)).1 hy
        exact hno t ht hye
  · obtain rfl : i = im := by omega
    rw [← hli] at hok
    exact btR15 LO r1 r2 hc hdm ri hnx him h1v h2v h3v (keys_good hkn hok) u
theorem btR6 (LO : LOk L nx) (r1 : RdT TI h p n (L.map Prod.fst)) (r2 : RdT tRec h q m (L.map Prod.snd)) (hc : n ≤ c) (hdm : m ≤ d) (rd : RdT TI h dp dn ds) (ri : RdT tRec h ip im ins) (hnx : nx ≤ 900000) (hdn : dn ≤ 1000000) (him : im ≤ 1000000) (hkn : (keysL L).Nodup) (h1v : ∀ r ∈ ins, vRec r = true) (h2v : ds.Nodup)
    (s : St h h1 (cA b1 (tb50 p n c q m d nx) 29 + (cA b2 (tb50 none 0 0 none 0 0 0) 29 + G))) :
    r50_Batch_b6 dp dn dc ip im ic (some ⟨b1, 0, none⟩) (some ⟨b2, 0, none⟩) h1 (BatRQ h p n c q m d L nx ds ins) := by
  have hld := rd.len
  rw [r50_Batch_b6_eq]
  refine ⟨_, _, _, _, _, _, _, s.ld0, s.ldB, s.ldB, s.new (cs := [_, _, _]) fun b3 h2 _ s => s.wr3 fun h3 s => ?_⟩
  have u : UIn h b1 b2 b3 p n c q m d L nx L nx G h3 := ⟨p, n, c, q, m, d, 0, .inl ⟨rfl, rfl, rfl, rfl, rfl, rfl, rfl, rfl, rfl⟩, by rw [Bag.zero_add]; exact s.to⟩
  clear s
  refine ⟨fun x h' => ∃ i : Nat, x.1 = i ∧ i ≤ dn ∧ (∀ j, j < i → ds.getD j 0 ∈ L.map Prod.fst) ∧ UIn h b1 b2 b3 p n c q m d L nx (delA L (ds.take i)) nx G h', fun x _ => (dn - x.1).toNat, ⟨0, rfl, Nat.zero_le _, fun j hj => absurd hj (Nat.not_lt_zero _), by rw [List.take_zero, delA_nil]; exact u⟩, ?_⟩
  clear u
  rintro ⟨z, _⟩ h2 ⟨i, hz, hi, hok, u⟩
  dsimp only at hz ⊢
  subst hz
  rw [r50_Batch_b9_eq]
  refine condP (fun hlt => ?_) (fun hge => ?_)
  · have hil : i < ds.length := by omega
    have htk : ds.take (i + 1) = ds.take i ++ [ds.getD i 0] := by rw [getD_get hil, List.take_succ_eq_append_getElem hil]
    have hnt : ds.getD i 0 ∉ ds.take i := fun hc => by
      have h2' : (ds.take (i + 1)).Nodup := h2v.sublist (List.take_sublist _ _)
      rw [htk, List.nodup_append] at h2'
      exact h2'.2.2 _ hc _ (List.mem_singleton.2 rfl) rfl
    have lo := delA_ok LO (ds.take i)
    have hol := lo.len
    obtain ⟨p', n', c', q', m', d', O, w, s⟩ := u
    have e10 : ∀ (nb : Nat) (h' : Hp) (p2 : Option Addr) (n2 c2 : Nat) (q2 : Option Addr) (m2 d2 : Nat) (O1 O2 : Bag), ds.getD i 0 ∈ L.map Prod.fst → Sl TI p2 n2 c2 ((delA L (ds.take (i + 1))).map Prod.fst) O1 → Sl tRec q2 m2 d2 ((delA L (ds.take (i + 1))).map Prod.snd) O2 →
        St h h' (cA nb (tb50 p2 n2 c2 q2 m2 d2 nx) 29 + ((O1 + O2) + (cA b3 (tb50 p' n' c' q' m' d' nx) 29 + (O + (cA b1 (tb50 p n c q m d nx) 29 + (cA b2 (tb50 none 0 0 none 0 0 0) 29 + G)))))) →
        r50_Batch_b10 dp dn dc ip im ic (some ⟨b1, 0, none⟩) (some ⟨b2, 0, none⟩) (some ⟨b3, 0, none⟩) (i : Int) (some ⟨nb, 0, none⟩) 0 h' (fun s' h' => (∃ i : Nat, s'.1 = i ∧ i ≤ dn ∧ (∀ j, j < i → ds.getD j 0 ∈ L.map Prod.fst) ∧ UIn h b1 b2 b3 p n c q m d L nx (delA L (ds.take i)) nx G h') ∧ (dn - s'.1).toNat < (dn - (i : Int)).toNat) (BatRQ h p n c q m d L nx ds ins) := fun nb h' p2 n2 c2 q2 m2 d2 O1 O2 hm o1 o2 s => by
      rw [r50_Batch_b10_eq]
      refine condNo rfl ⟨_, _, _, _, _, _, _, s.ld0, s.ldB, s.ldB, s.wr3 fun h3 s => ?_⟩
      rw [r50_Batch_b12_eq]
      refine ⟨⟨by omega, by omega⟩, ⟨i + 1, by push_cast; rfl, by omega, fun j hj => ?_, p2, n2, c2, q2, m2, d2, O1 + O2, .inr ⟨O1, O2, o1, o2, rfl⟩, ?_⟩, by dsimp only; omega⟩
      · rcases Nat.lt_or_ge j i with h | h
        · exact hok j h
        · obtain rfl : j = i := by omega
          exact hm
      · exact ((((s.find nb).drop).to (B := O + (cA b3 (tb50 p2 n2 c2 q2 m2 d2 nx) 29 + ((O1 + O2) + (cA b1 (tb50 p n c q m d nx) 29 + (cA b2 (tb50 none 0 0 none 0 0 0) 29 + G)))))).drop)
    have er : ∀ (nb : Nat) (h' : Hp), ds.getD i 0 ∉ L.map Prod.fst → St h h' (cA nb (tb50 p' n' c' q' m' d' nx) 29 + (cA b3 (tb50 p' n' c' q' m' d' nx) 29 + (O + (cA b1 (tb50 p n c q m d nx) 29 + (cA b2 (tb50 none 0 0 none 0 0 0) 29 + G))))) →
        r50_Batch_b10 dp dn dc ip im ic (some ⟨b1, 0, none⟩) (some ⟨b2, 0, none⟩) (some ⟨b3, 0, none⟩) (i : Int) (some ⟨nb, 0, none⟩) 12 h' (fun s' h' => (∃ i : Nat, s'.1 = i ∧ i ≤ dn ∧ (∀ j, j < i → ds.getD j 0 ∈ L.map Prod.fst) ∧ UIn h b1 b2 b3 p n c q m d L nx (delA L (ds.take i)) nx G h') ∧ (dn - s'.1).toNat < (dn - (i : Int)).toNat) (BatRQ h p n c q m d L nx ds ins) := fun nb h' hm s => by
      rw [r50_Batch_b10_eq]
      refine condYes rfl ⟨_, _, _, _, _, _, _, s.ld0, s.ldB, s.ldB, s.wr3 fun h5 s => ⟨_, _, _, _, _, _, _, s.ld0, s.ldB, s.ldB, .inl ⟨12, BE.non h1v h2v ⟨ds.getD i 0, by rw [getD_get hil]; exact List.getElem_mem hil, hm⟩, by decide, rfl, s.ext⟩⟩⟩
    rw [htk, delA_snoc] at e10
    obtain ⟨q1, q2, q3, q4⟩ := w.rd r1 r2 hc hdm (s.at O)
    have hl := q1.len
    rw [List.length_map] at hl
    refine ⟨_, _, _, _, _, _, _, s.ld0, s.ldB, s.ldB, ldIc (rd.ext s.ext) (by omega) fun ad c0 => ⟨?_, ?_⟩⟩
    · refine (Delete_r q1 q2 q3 q4 (by omega) lo.ids (ds.getD i 0)).mono fun w1 h3 hw => ?_
      rcases hw with ⟨hno, rfl, x3⟩ | ⟨hm, p2, n2, c2, q2, m2, d2, O1, O2, rfl, o1, o2, st⟩
      · have s := s.grow x3
        exact ⟨_, _, _, _, _, _, _, _, rfl, s.new (cs := [_, _, _]) fun nb h4 _ s => s.wr3 fun h5 s => er nb h5 (fun hm => hno (delA_ids.2 ⟨hm, hnt⟩)) s⟩
      · have s := s.join st
        exact ⟨_, _, _, _, _, _, _, _, rfl, s.new (cs := [_, _, _]) fun nb h4 _ s => s.wr3 fun h5 s => e10 nb h5 p2 n2 c2 q2 m2 d2 O1 O2 (delA_ids.1 hm).1 o1 o2 s⟩
    · refine s.new (cs := [_, _, _]) fun nb h4 x4 s => ⟨⟨_, x4.cell c0, rfl⟩, ⟨_, _, _, _, _, _, _, s.ld0, s.ldB, s.ldB, rfl⟩, ?_⟩
      refine (Delete_r (q1.ext x4) (q2.ext x4) q3 q4 (by omega) lo.ids (ds.getD i 0)).mono fun w1 h3 hw => ?_
      rcases hw with ⟨hno, rfl, x3⟩ | ⟨hm, p2, n2, c2, q2, m2, d2, O1, O2, rfl, o1, o2, st⟩
      · have s := s.grow x3
        exact ⟨_, _, _, _, _, _, _, _, rfl, s.wr3 fun h5 s => er nb h5 (fun hm => hno (delA_ids.2 ⟨hm, hnt⟩)) s⟩
      · have s := s.join st
        exact ⟨_, _, _, _, _, _, _, _, rfl, s.wr3 fun h5 s => e10 nb h5 p2 n2 c2 q2 m2 d2 O1 O2 (delA_ids.1 hm).1 o1 o2 s.to⟩
  · obtain rfl : i = dn := by omega
    rw [List.take_of_length_le (by omega)] at u
    refine btR11 LO r1 r2 hc hdm ri hnx him hkn h1v h2v (fun d hd => ?_) u
    obtain ⟨j, hj, rfl⟩ := List.getElem_of_mem hd
    have := hok j (by omega)
    rwa [getD_get hj] at this
theorem btR3 (LO : LOk L nx) (r1 : RdT TI h p n (L.map Prod.fst)) (r2 : RdT tRec h q m (L.map Prod.snd)) (hc : n ≤ c) (hdm : m ≤ d) (rd : RdT TI h dp dn ds) (ri : RdT tRec h ip im ins) (hnx : nx ≤ 900000) (hdn : dn ≤ 1000000) (him : im ≤ 1000000) (hkn : (keysL L).Nodup) (h1v : ∀ r ∈ ins, vRec r = true)
    (s : St h h1 (cA b1 (tb50 p n c q m d nx) 29 + (cA b2 (tb50 none 0 0 none 0 0 0) 29 + G))) :
    r50_Batch_b3 dp dn dc ip im ic (some ⟨b1, 0, none⟩) (some ⟨b2, 0, none⟩) h1 (BatRQ h p n c q m d L nx ds ins) := by
  have hld := rd.len
  rw [r50_Batch_b3_eq]
  refine ⟨fun x h' => h' = h1 ∧ ∃ i : Nat, x.1 = i ∧ i ≤ dn ∧ ∀ j, j < i → ∀ k, k < j → ds.getD k 0 ≠ ds.getD j 0, fun x _ => (dn - x.1).toNat, ⟨rfl, 0, rfl, Nat.zero_le _, fun j hj => absurd hj (Nat.not_lt_zero _)⟩, ?_⟩
  rintro ⟨z, _⟩ h2 ⟨rfl, i, hz, hi, hok⟩
  dsimp only at hz ⊢
  subst hz
  rw [r50_Batch_b4_eq]
  refine condP (fun hlt => ?_) (fun hge => ?_)
  · refine ⟨fun x h' => h' = h2 ∧ ∃ k : Nat, x.1 = k ∧ k ≤ i ∧ ∀ j, j < k → ds.getD j 0 ≠ ds.getD i 0, fun x _ => (i - x.1).toNat, ⟨rfl, 0, rfl, Nat.zero_le _, fun j hj => absurd hj (Nat.not_lt_zero _)⟩, ?_⟩
    rintro ⟨z, _⟩ h4 ⟨rfl, k, hz, hki, hno⟩
    dsimp only at hz ⊢
    subst hz
    rw [r50_Batch_b5_eq]
    refine condP (fun hlt2 => ?_) (fun hge2 => ?_)
    · refine ldI (i' := k) (rd.ext s.ext) rfl (by omega) (ldI (i' := i) (rd.ext s.ext) rfl (by omega) (condP (fun he => ?_) (fun he => ?_)))
      · refine ⟨_, _, _, _, _, _, _, s.ld0, s.ldB, s.ldB, s.wr3 fun h5 s => ⟨_, _, _, _, _, _, _, s.ld0, s.ldB, s.ldB, .inl ⟨10, BE.twice h1v fun hn => ?_, by decide, rfl, s.ext⟩⟩⟩
        have := List.pairwise_iff_getElem.1 (List.nodup_iff_pairwise_ne.1 hn) k i (by omega) (by omega) (by omega)
        rw [getD_get (by omega), getD_get (by omega)] at he
        exact this he
      · rw [r50_Batch_b7_eq]
        refine ⟨⟨by omega, by omega⟩, ⟨rfl, k + 1, by push_cast; rfl, by omega, fun j hj => ?_⟩, by dsimp only; omega⟩
        rcases Nat.lt_or_ge j k with h | h
        · exact hno j h
        · obtain rfl : j = k := by omega
          exact he
    · obtain rfl : k = i := by omega
      rw [r50_Batch_b8_eq]
      refine ⟨⟨by omega, by omega⟩, ⟨rfl, k + 1, by push_cast; rfl, by omega, fun j hj => ?_⟩, by dsimp only; omega⟩
      rcases Nat.lt_or_ge j k with h | h
      · exact hok j h
      · obtain rfl : j = k := by omega
        exact hno
  · obtain rfl : i = dn := by omega
    refine btR6 LO r1 r2 hc hdm rd ri hnx hdn him hkn h1v ?_ s
    rw [List.nodup_iff_pairwise_ne, List.pairwise_iff_getElem]
    intro k j hk hj hkj
    have := hok j (by omega) k hkj
    rwa [getD_get hk, getD_get hj] at this
theorem Batch_r (LO : LOk L nx) (r1 : RdT TI h p n (L.map Prod.fst)) (r2 : RdT tRec h q m (L.map Prod.snd)) (hc : n ≤ c) (hdm : m ≤ d) (rd : RdT TI h dp dn ds) (ri : RdT tRec h ip im ins) (hnx : nx ≤ 900000) (hdn : dn ≤ 1000000) (him : im ≤ 1000000) (hkn : (keysL L).Nodup) :
    HCalls Tryz.prog 62 #[encT p n c q m d nx, .slice dp dn dc, .slice ip im ic] h (BatRQ h p n c q m d L nx ds ins) := by
  have hli := ri.len
  refine r50_Batch_call ?_
  rw [r50_Batch_b0_eq]
  refine (St.start h).new (cs := [_, _, _]) fun b1 h1 _ s => s.new (cs := [_, _, _]) fun b2 h2 _ s => ?_
  refine ⟨fun x h' => ∃ i : Nat, x.1 = i ∧ i ≤ im ∧ (∀ r ∈ ins.take i, vRec r = true) ∧ St h h' (cA b1 (tb50 p n c q m d nx) 29 + (cA b2 (tb50 none 0 0 none 0 0 0) 29 + 0)), fun x _ => (im - x.1).toNat, ⟨0, rfl, Nat.zero_le _, fun r hr => by simp at hr, s.to⟩, ?_⟩
  clear s
  rintro ⟨z, _⟩ h3 ⟨i, hz, hi, hok, s⟩
  dsimp only at hz ⊢
  subst hz
  rw [r50_Batch_b1_eq]
  refine condP (fun hlt => ?_) (fun hge => ?_)
  · have hil : i < ins.length := by omega
    have htk : ins.take (i + 1) = ins.take i ++ [ins.getD i tRec.d] := by rw [getD_get hil, List.take_succ_eq_append_getElem hil]
    refine rec_rd (ri.ext s.ext) (by omega) fun ad _ => ?_
    refine (Valid_r (ins.getD i tRec.d) h3).mono fun v h4 ⟨x4, hv⟩ => ⟨_, hv, ?_⟩
    have s := s.grow x4
    refine cond_intro (fun hb => ?_) (fun hb => ?_)
    · exact ⟨_, _, _, _, _, _, _, s.ld0, s.ldB, s.ldB, s.wr3 fun h5 s => ⟨_, _, _, _, _, _, _, s.ld0, s.ldB, s.ldB, .inl ⟨1, BE.arg ⟨ins.getD i tRec.d, by rw [getD_get hil]; exact List.getElem_mem hil, by simpa using hb⟩, by decide, rfl, s.ext⟩⟩⟩
    · rw [r50_Batch_b2_eq]
      refine ⟨⟨by omega, by omega⟩, ⟨i + 1, by push_cast; rfl, by omega, fun r hr => ?_, s⟩, by dsimp only; omega⟩
      rw [htk, List.mem_append, List.mem_singleton] at hr
      rcases hr with hr | rfl
      · exact hok r hr
      · simpa using hb
  · obtain rfl : i = im := by omega
    rw [List.take_of_length_le (by omega)] at hok
    exact btR3 LO r1 r2 hc hdm rd ri hnx hdn him hkn hok s
end
end Go.Proofs.YtfkccighnkepgaaGreat

/- Plain lists: stable sorting. -/
namespace Go.Sx
variable {α : Type} {d : α}
/-- Whether an element is like another one. -/
noncomputable def like (lt : α → α → Prop) (z y : α) : Bool := @decide (¬ lt y z ∧ ¬ lt z y) (Classical.propDecidable _)
/-- The same elements; those that are alike in the same order. -/
def Stb (lt : α → α → Prop) (xs ys : List α) : Prop := ys.Perm xs ∧ ∀ z, ys.filter (like lt z) = xs.filter (like lt z)
theorem Stb.refl {lt : α → α → Prop} (xs : List α) : Stb lt xs xs := ⟨.refl _, fun _ => rfl⟩
theorem Stb.trans {lt : α → α → Prop} {xs ys zs : List α} (h1 : Stb lt xs ys) (h2 : Stb lt ys zs) : Stb lt xs zs := ⟨h2.1.trans h1.1, fun z => (h2.2 z).trans (h1.2 z)⟩
section
variable {lt : α → α → Prop} (o : OrdP lt)
end
end Go.Sx

/- Plain lists: merging of sorted ranges, the steps. -/
namespace Go.Sx
variable {α : Type} {d : α} {lt : α → α → Prop}
end Go.Sx
namespace Go.Sx
variable {α : Type} {d : α} {lt : α → α → Prop}
end Go.Sx

/- Sorting by insertion, in plain lists. -/
namespace Go.Sx
theorem getD_at {α : Type} (P Q : List α) (y d : α) {i : Nat} (h : i = P.length) : (P ++ y :: Q).getD i d = y := by
  subst h; simp [List.getD]
theorem getD_at1 {α : Type} (P Q : List α) (y x d : α) {i : Nat} (h : i = P.length + 1) : (P ++ y :: x :: Q).getD i d = x := by
  subst h; simp [List.getD]
theorem set_swap {α : Type} (P Q : List α) (y x : α) {i j : Nat} (h : i = P.length) (hj : j = P.length + 1) : ((P ++ y :: x :: Q).set i x).set j y = P ++ x :: y :: Q := by
  subst h hj
  rw [List.set_append, if_neg (Nat.lt_irrefl _), Nat.sub_self]
  rw [List.set_append, if_neg (by omega), Nat.add_sub_cancel_left]
  rfl
/-- An element has found its place. -/
theorem ins_fin {α : Type} {R : α → α → Prop} (ht : ∀ a b c, R a b → R b c → R a c) {pre post : List α} {x : α} (hs : (pre ++ post).Pairwise R) (h1 : ∀ y ∈ post, R x y) (h2 : ∀ P y, pre = P ++ [y] → R y x) : (pre ++ x :: post).Pairwise R := by
  rw [List.pairwise_append] at hs ⊢
  obtain ⟨a, b, c⟩ := hs
  refine ⟨a, List.pairwise_cons.2 ⟨h1, b⟩, fun z hz w hw => ?_⟩
  have hzx : R z x := by
    rcases List.eq_nil_or_concat pre with rfl | ⟨P, y, rfl⟩
    · cases hz
    · rw [List.concat_eq_append] at *
      have hy := h2 P y rfl
      rw [List.pairwise_append] at a
      rcases List.mem_append.1 hz with h | h
      · exact ht _ _ _ (a.2.2 z h y (List.mem_singleton.2 rfl)) hy
      · rw [List.mem_singleton.1 h]; exact hy
  rcases List.mem_cons.1 hw with rfl | hw
  · exact hzx
  · exact c z hz w hw
end Go.Sx

/- The reference: by key; Join. -/
set_option maxRecDepth 100000
namespace Go.Proofs.YtfkccighnkepgaaGreat
open Go Go.Sx
abbrev dL : LRow := (0, 0, 0, 0, 0, ⟨#[]⟩)
def kA (L : List LRow) (x : Int) : Int := ((L.map Prod.snd).getD x.toNat tRec.d).1
def idA (L : List LRow) (x : Int) : Int := (L.map Prod.fst).getD x.toNat 0
def inK (L : List LRow) (fr to : Int) (j : Nat) : Bool := decide (fr ≤ kA L j ∧ kA L j ≤ to)
theorem kA_get {L : List LRow} {j : Nat} (h : j < L.length) : kA L j = L[j].2.1 := by
  unfold kA
  rw [Int.toNat_natCast, getD_get (by rw [List.length_map]; exact h), List.getElem_map]
theorem idA_get {L : List LRow} {j : Nat} (h : j < L.length) : idA L j = L[j].1 := by
  unfold idA
  rw [Int.toNat_natCast, getD_get (by rw [List.length_map]; exact h), List.getElem_map]
theorem range_getD (L : List LRow) : (List.range L.length).map (fun j => L.getD j dL) = L := by
  refine List.ext_getElem (by simp) fun i h1 h2 => ?_
  rw [List.getElem_map, List.getElem_range]
  exact getD_get h2
theorem range_ids (L : List LRow) (fr to : Int) : (((List.range L.length).filter (inK L fr to)).map fun j : Nat => (j : Int)).map (idA L) = (L.filter fun x => decide (fr ≤ x.2.1 ∧ x.2.1 ≤ to)).map Prod.fst := by
  conv => rhs; rw [← range_getD L, List.filter_map, List.map_map]
  rw [List.map_map]
  have : (List.range L.length).filter (inK L fr to) = (List.range L.length).filter ((fun x : LRow => decide (fr ≤ x.2.1 ∧ x.2.1 ≤ to)) ∘ fun j => L.getD j dL) := List.filter_congr fun j hj => by
    have hj := List.mem_range.1 hj
    show decide (fr ≤ kA L j ∧ kA L j ≤ to) = decide (fr ≤ (L.getD j dL).2.1 ∧ (L.getD j dL).2.1 ≤ to)
    rw [kA_get hj, getD_get hj]
  rw [this]
  refine List.map_congr_left fun j hj => ?_
  have hj := List.mem_range.1 (List.mem_filter.1 hj).1
  show idA L j = (L.getD j dL).1
  rw [idA_get hj, getD_get hj]
theorem rec_keyI {h : Hp} {q : Option Addr} {m : Nat} {x : Int} {rows : List Rec} {Q : Int → Prop} (r : RdT tRec h q m rows) (h0 : 0 ≤ x) (h1 : x < m) (hq : Q (rows.getD x.toNat tRec.d).1) :
    (0 ≤ x ∧ x < (m : Int)) ∧ NN q fun a => ∃ n1 : Int, cell h (a.add (Int.toNat x * 5)) = some (.int .i64 n1) ∧ Q n1 :=
  r.idx h0 h1 fun a _ hc => ⟨_, by simpa [add_add] using hc 0 (by decide), hq⟩
theorem ldIx {h : Hp} {p : Option Addr} {n : Nat} {x : Int} {l : List Int} {Q : Int → Prop} (r : RdT TI h p n l) (h0 : 0 ≤ x) (h1 : x < n) (hq : Q (l.getD x.toNat 0)) :
    (0 ≤ x ∧ x < (n : Int)) ∧ NN p fun a => ∃ z : Int, cell h (a.add (Int.toNat x * 1)) = some (.int .i64 z) ∧ Q z := r.int h0 h1 hq
section
variable {h : Hp} {p q : Option Addr} {n c m d : Nat} {nx : Int} {L : List LRow}
theorem byk_mem {L : List LRow} {fr to : Int} {i : Nat} {zs : List Int} (hp : zs.Perm (((List.range i).filter (inK L fr to)).map fun j : Nat => (j : Int))) {x : Int} (hx : x ∈ zs) : 0 ≤ x ∧ x < i := by
  obtain ⟨j, hj, rfl⟩ := List.mem_map.1 (hp.mem_iff.1 hx)
  have := List.mem_range.1 (List.mem_filter.1 hj).1
  omega
theorem ByKey_r (r1 : RdT TI h p n (L.map Prod.fst)) (r2 : RdT tRec h q m (L.map Prod.snd)) (hn : n ≤ 100000) (o : LOk L nx) (fr to : Int) :
    HCalls Tryz.prog 29 #[encT p n c q m d nx, .int .i64 fr, .int .i64 to] h (fun v h' => ∃ q m d A l, v = .slice q m d ∧ Sl TI q m d l A ∧ ByK L fr to l ∧ St h h' A) := by
  have hl1 := r1.len
  have hl2 := r2.len
  have hl1' := hl1
  have hl2' := hl2
  rw [List.length_map] at hl1 hl2
  refine r50_ByKey_call ?_
  rw [r50_ByKey_b0_eq]
  refine (St.start h).new (cs := [_, _, _]) fun b h1 _ s => ?_
  refine ⟨fun x h' => ∃ (i : Nat) (A : Bag) (zs : List Int), x.2.1 = i ∧ i ≤ m ∧ Sl TI x.1.1 x.1.2.1 x.1.2.2 zs A ∧ St h h' (A + cA b (tb50 p n c q m d nx) 29) ∧ zs.Perm (((List.range i).filter (inK L fr to)).map fun j : Nat => (j : Int)) ∧ zs.Pairwise fun x y => kA L x ≤ kA L y, fun x _ => (m - x.2.1).toNat, ⟨0, 0, [], rfl, Nat.zero_le _, Sl.nil, s.to, by simp, List.Pairwise.nil⟩, ?_⟩
  clear s
  rintro ⟨⟨ap, an, ac⟩, z, _⟩ h2 ⟨i, A, zs, hz, hi, oz, s, hp, hpw⟩
  dsimp only at hz oz ⊢
  subst hz
  have hzn := oz.len
  have hzl := hp.length_eq
  have hfl := List.length_filter_le (inK L fr to) (List.range i)
  rw [List.length_map] at hzl
  rw [List.length_range] at hfl
  rw [r50_ByKey_b1_eq]
  refine ⟨_, _, _, s.ldB, condP (fun hlt => ?_) (fun hge => ?_)⟩
  · have hil : i < m := by omega
    have hkx : ((L.map Prod.snd).getD i tRec.d).1 = kA L i := by unfold kA; rw [Int.toNat_natCast]
    have hrs : List.range (i + 1) = List.range i ++ [i] := List.range_succ
    have hno : ¬ (fr ≤ kA L i ∧ kA L i ≤ to) → zs.Perm (((List.range (i + 1)).filter (inK L fr to)).map fun j : Nat => (j : Int)) := fun hc => by
      rw [hrs, List.filter_append, List.filter_cons, if_neg (by unfold inK; simpa using hc)]
      simpa using hp
    have b2 : ∀ {K : Value → Hp → Prop} {ap' : Option Addr} {an' ac' : Nat} {zs' : List Int} {A' : Bag} {h' : Hp}, Sl TI ap' an' ac' zs' A' → St h h' (A' + cA b (tb50 p n c q m d nx) 29) → zs'.Perm (((List.range (i + 1)).filter (inK L fr to)).map fun j : Nat => (j : Int)) → (zs'.Pairwise fun x y => kA L x ≤ kA L y) →
        r50_ByKey_b2 fr to (some ⟨b, 0, none⟩) ap' an' ac' (i : Int) h' (fun s' h' => (∃ (i : Nat) (A : Bag) (zs : List Int), s'.2.1 = i ∧ i ≤ m ∧ Sl TI s'.1.1 s'.1.2.1 s'.1.2.2 zs A ∧ St h h' (A + cA b (tb50 p n c q m d nx) 29) ∧ zs.Perm (((List.range i).filter (inK L fr to)).map fun j : Nat => (j : Int)) ∧ zs.Pairwise fun x y => kA L x ≤ kA L y) ∧ (m - s'.2.1).toNat < (m - (i : Int)).toNat) K := fun o' s' hp' hw' => by
      rw [r50_ByKey_b2_eq]
      exact ⟨⟨by omega, by omega⟩, ⟨i + 1, _, _, by push_cast; rfl, by omega, o', s', hp', hw'⟩, by dsimp only; omega⟩
    refine ⟨_, _, _, s.ldB, rec_key (r2.ext s.ext) hil (condP (fun h3 => b2 oz s (hno (by omega)) hpw) (fun h3 => ⟨_, _, _, s.ldB, rec_key (r2.ext s.ext) hil (condP (fun h4 => b2 oz s (hno (by omega)) hpw) (fun h4 => ?_))⟩))⟩
    rw [r50_ByKey_b3_eq]
    refine push_sl ok_int s oz (x := (i : Int)) rfl rfl (by omega) fun out oc h5 A o1 s1 => ?_
    have hpi : ((i : Int) :: zs).Perm (((List.range (i + 1)).filter (inK L fr to)).map fun j : Nat => (j : Int)) := by
      rw [hrs, List.filter_append, List.filter_cons, if_pos (by unfold inK; exact decide_eq_true (by omega))]
      rw [List.filter_nil, List.map_append]
      exact (List.Perm.cons _ hp).trans (List.perm_append_comm (l₁ := [(i : Int)]))
    refine ⟨fun x h' => ∃ (A : Bag) (pre post : List Int), Sl TI out (an + 1) oc (pre ++ (i : Int) :: post) A ∧ St h h' (A + cA b (tb50 p n c q m d nx) 29) ∧ x.1 = pre.length ∧ pre ++ post = zs ∧ ∀ y ∈ post, kA L i ≤ kA L y, fun x _ => x.1.toNat, ⟨A, zs, [], o1, s1, by rw [hzn], by simp, by simp⟩, ?_⟩
    clear o1 s1 oz s
    rintro ⟨k, _⟩ h6 ⟨A, pre, post, o, s, hk, rfl, hpo⟩
    dsimp only at hk ⊢
    subst hk
    have hmem : ∀ x ∈ pre ++ post, 0 ≤ x ∧ x < i := fun x hx => byk_mem hp hx
    have hfin : (∀ P y, pre = P ++ [y] → kA L y ≤ kA L i) → (pre ++ (i : Int) :: post).Perm (((List.range (i + 1)).filter (inK L fr to)).map fun j : Nat => (j : Int)) ∧ (pre ++ (i : Int) :: post).Pairwise fun x y => kA L x ≤ kA L y := fun hP =>
      ⟨List.perm_middle.trans hpi, ins_fin (R := fun a b : Int => kA L a ≤ kA L b) (fun _ _ _ h h' => Int.le_trans h h') hpw hpo hP⟩
    rw [r50_ByKey_b5_eq]
    refine condP (fun hk0 => ?_) (fun hk0 => ?_)
    · rcases List.eq_nil_or_concat pre with rfl | ⟨P, y, rfl⟩
      · simp at hk0
      · rw [List.concat_eq_append] at *
        have hlen : P.length + 1 + post.length = an := by rw [← hzn]; simp; omega
        have ek : (((P ++ [y]).length : Nat) : Int) = ((P.length + 1 : Nat) : Int) := by simp
        have hy := hmem y (by simp)
        simp only [ek, show ((P.length + 1 : Nat) : Int) - 1 = ((P.length : Nat) : Int) by omega]
        have el : P ++ [y] ++ (i : Int) :: post = P ++ y :: (i : Int) :: post := by simp
        rw [el] at o hfin
        have e1 : (P ++ y :: (i : Int) :: post).getD P.length 0 = y := getD_at P _ y 0 rfl
        have e2 : (P ++ y :: (i : Int) :: post).getD (P.length + 1) 0 = (i : Int) := getD_at1 P _ y i 0 rfl
        refine ⟨_, _, _, s.ldB, ⟨by omega, by omega⟩, (o.rd s).int (by omega) (by omega) ?_⟩
        simp only [Int.toNat_natCast]
        simp only [e1]
        refine rec_keyI (r2.ext s.ext) hy.1 (by omega) ⟨_, _, _, s.ldB, ?_⟩
        refine (o.rd s).int (by omega) (by omega) ?_
        simp only [Int.toNat_natCast]
        simp only [e2]
        refine rec_keyI (r2.ext s.ext) (by omega) (by omega) ?_
        refine condP (fun hxy => ?_) (fun hxy => ?_)
        · rw [r50_ByKey_b7_eq]
          simp only [show ((P.length + 1 : Nat) : Int) - 1 = ((P.length : Nat) : Int) by omega]
          refine ⟨⟨by omega, by omega⟩, (o.rd s).int (by omega) (by omega) ?_⟩
          simp only [Int.toNat_natCast]
          simp only [e2]
          refine ⟨⟨by omega, by omega⟩, (o.rd s).int (by omega) (by omega) ?_⟩
          simp only [Int.toNat_natCast]
          simp only [e1]
          refine o.wrI (x := (i : Int)) s (by omega) (by omega) rfl rfl fun h5 A o s => ?_
          refine o.wrI (x := y) s (by omega) (by omega) rfl rfl fun h6 A o s => ?_
          simp only [Int.toNat_natCast] at o
          rw [set_swap P _ y (i : Int) rfl rfl] at o
          refine ⟨⟨by omega, by omega⟩, ⟨A, P, y :: post, o, s, rfl, by simp, ?_⟩, by omega⟩
          intro z hz
          rcases List.mem_cons.1 hz with rfl | hz
          · exact Int.le_of_lt hxy
          · exact hpo z hz
        · obtain ⟨f1, f2⟩ := hfin (by
            intro P' y' h
            have := List.append_inj' h rfl
            simp at this
            rw [← this.2]
            exact Int.not_lt.1 hxy)
          exact b2 o s f1 f2
    · obtain ⟨f1, f2⟩ := hfin fun P y h => by
        subst h
        simp at hk0
      exact b2 o s f1 f2
  · obtain rfl : i = m := by omega
    rw [r50_ByKey_b4_eq]
    refine ⟨fun x h' => ∃ (j : Nat) (O : Bag), x.2.1 = j ∧ j ≤ an ∧ Sl TI x.1.1 x.1.2.1 x.1.2.2 ((zs.take j).map (idA L)) O ∧ St h h' (O + (A + cA b (tb50 p n c q i d nx) 29)), fun x _ => (an - x.2.1).toNat, ⟨0, 0, rfl, Nat.zero_le _, Sl.nil, by rw [Bag.zero_add]; exact s⟩, ?_⟩
    clear s
    rintro ⟨⟨oq, om, od⟩, z, _⟩ h3 ⟨j, O, hz, hj, oo, s⟩
    dsimp only at hz oo ⊢
    subst hz
    have hom := oo.len
    rw [List.length_map, List.length_take] at hom
    rw [r50_ByKey_b6_eq]
    refine condP (fun hlt => ?_) (fun hge => ?_)
    · have hjl : j < zs.length := by omega
      have htk : zs.take (j + 1) = zs.take j ++ [zs.getD j 0] := by rw [getD_get hjl, List.take_succ_eq_append_getElem hjl]
      have hm := byk_mem hp (x := zs.getD j 0) (by rw [getD_get hjl]; exact List.getElem_mem hjl)
      refine ⟨_, _, _, s.ld0, ldI (i' := j) (oz.rd (s.at A)) rfl (by omega) (ldIx (r1.ext s.ext) hm.1 (by omega) ?_)⟩
      refine push_sl (cs := [_]) ok_int s oo (x := idA L (zs.getD j 0)) rfl rfl (by omega) fun p' c' h6 O2 o2 s => ?_
      rw [r50_ByKey_b8_eq]
      refine ⟨⟨by omega, by omega⟩, ⟨j + 1, O2, by push_cast; rfl, by omega, ?_, s⟩, by dsimp only; omega⟩
      rw [htk, List.map_append]
      exact o2
    · obtain rfl : j = an := by omega
      rw [List.take_of_length_le (by omega)] at oo
      rw [r50_ByKey_b9_eq]
      refine ⟨oq, om, od, O, _, rfl, oo, ⟨?_, ?_⟩, s.to (B := (A + cA b (tb50 p n c q i d nx) 29) + O) |>.drop⟩
      · rw [← range_ids L fr to, hl2]
        exact hp.map _
      · refine List.pairwise_map.2 (hpw.imp_of_mem fun {x y} hx hy hxy => ?_)
        have hx := byk_mem hp hx
        have hy := byk_mem hp hy
        obtain ⟨x, rfl⟩ := Int.eq_ofNat_of_zero_le hx.1
        obtain ⟨y, rfl⟩ := Int.eq_ofNat_of_zero_le hy.1
        rw [idA_get (by omega), idA_get (by omega), recL_mem o.ids (List.getElem_mem _), recL_mem o.ids (List.getElem_mem _)]
        rwa [kA_get (by omega), kA_get (by omega)] at hxy
end
end Go.Proofs.YtfkccighnkepgaaGreat

/- The reference: Join; the chapter's example; great calls. -/
set_option maxRecDepth 100000
namespace Go.Proofs.YtfkccighnkepgaaGreat
open Go Go.Sx
theorem ByK.uniq {L : List LRow} {nx fr to : Int} {l l' : List Int} (o : LOk L nx) (hk : (keysL L).Nodup) (a : ByK L fr to l) (b : ByK L fr to l') : l = l' := by
  refine List.Perm.eq_of_pairwise (fun x y hx hy h1 h2 => ?_) a.2 b.2 (a.1.trans b.1.symm)
  obtain ⟨ex, hex, rfl⟩ := List.mem_map.1 (a.1.mem_iff.1 hx)
  obtain ⟨ey, hey, rfl⟩ := List.mem_map.1 (b.1.mem_iff.1 hy)
  have hex := (List.mem_filter.1 hex).1
  have hey := (List.mem_filter.1 hey).1
  rw [recL_mem o.ids hex, recL_mem o.ids hey] at h1 h2
  rw [nodup_inj (f := fun x : LRow => x.2.1) hk hex hey (Int.le_antisymm h1 h2)]
section
variable {h : Hp} {p q : Option Addr} {n c m d : Nat} {nx : Int} {L : List LRow} {p' q' : Option Addr} {n' c' m' d' : Nat} {ny : Int} {M : List LRow}
end
end Go.Proofs.YtfkccighnkepgaaGreat

/- What each change does, as a function; of the table and of the reference. -/
set_option maxRecDepth 100000
namespace Go.Proofs.YtfkccighnkepgaaGreat
open Go Go.Sx
abbrev LS := List LRow × Int
def insP (L : List LRow) (nx : Int) (r : Rec) : LS × Int × Int :=
  if vRec r = false then ((L, nx), 0, 1) else if r.1 ∈ keysL L then ((L, nx), 0, 15) else if 1000 ≤ L.length then ((L, nx), 0, 4) else ((L ++ [(nx, r)], nx + 1), nx, 0)
def updP (L : List LRow) (id : Int) (r : Rec) : List LRow × Int :=
  if vRec r = false then (L, 1) else if id ∉ L.map Prod.fst then (L, 12) else if (∃ x ∈ L, x.2.1 = r.1 ∧ x.1 ≠ id) then (L, 15) else (updL L id r, 0)
def delP (L : List LRow) (id : Int) : List LRow × Int := if id ∉ L.map Prod.fst then (L, 12) else (delL L id, 0)
def batE (L : List LRow) (ds : List Int) (ins : List Rec) : Int :=
  if (∃ r ∈ ins, vRec r = false) then 1 else if ¬ ds.Nodup then 10 else if (∃ d ∈ ds, d ∉ L.map Prod.fst) then 12 else if ¬ (keysL (delA L ds) ++ ins.map fun r => r.1).Nodup then 15 else if 1000 < (delA L ds).length + ins.length then 4 else 0
theorem batE_ok (L : List LRow) (ds : List Int) (ins : List Rec) : BE L ds ins (batE L ds ins) := by
  unfold batE
  by_cases h1 : ∃ r ∈ ins, vRec r = false
  · rw [if_pos h1]; exact BE.arg h1
  rw [if_neg h1]
  have h1' : ∀ r ∈ ins, vRec r = true := fun r hr => Classical.byContradiction fun hc => h1 ⟨r, hr, by simpa using hc⟩
  by_cases h2 : ds.Nodup
  · rw [if_neg (fun h => h h2)]
    by_cases h3 : ∃ d ∈ ds, d ∉ L.map Prod.fst
    · rw [if_pos h3]; exact BE.non h1' h2 h3
    rw [if_neg h3]
    have h3' : ∀ d ∈ ds, d ∈ L.map Prod.fst := fun d hd => Classical.byContradiction fun hc => h3 ⟨d, hd, hc⟩
    by_cases h4 : (keysL (delA L ds) ++ ins.map fun r => r.1).Nodup
    · rw [if_neg (fun h => h h4)]
      by_cases h5 : 1000 < (delA L ds).length + ins.length
      · rw [if_pos h5]; exact BE.ful h1' h2 h3' h4 h5
      · rw [if_neg h5]; exact BE.okk h1' h2 h3' h4 (by omega)
    · rw [if_pos h4]; exact BE.exi h1' h2 h3' h4
  · rw [if_pos h2]; exact BE.twice h1' h2
def batP (L : List LRow) (nx : Int) (ds : List Int) (ins : List Rec) : LS × List Int := if batE L ds ins = 0 then ((batL L nx ds ins, nx + (ins.length : Nat)), (numL nx ins).map Prod.fst) else ((L, nx), [])
abbrev Stp := Int × Int × Rec × List Int × List Rec
def stepP (s : LS) (x : Stp) : LS :=
  if x.1 % 4 = 0 then (insP s.1 s.2 x.2.2.1).1 else if x.1 % 4 = 1 then ((updP s.1 x.2.1 x.2.2.1).1, s.2) else if x.1 % 4 = 2 then ((delP s.1 x.2.1).1, s.2) else (batP s.1 s.2 x.2.2.2.1 x.2.2.2.2).1
section
variable {h0 h : Hp} {tb : Nat} {L : List LRow} {nx : Int} {A G : Bag}
theorem vnot1 {r : Rec} (h : vRec r = true) : ¬ vRec r = false := by rw [h]; decide
theorem Insert_S (a : TabS tb L nx A) (s : St h0 h (A + G)) (hnx : nx ≤ 1000000) (r : Rec) :
    HCalls Tryz.prog 21 #[ptr tb, encR r] h (fun v h' => v = .tuple #[.int .i64 (insP L nx r).2.1, .int .i64 (insP L nx r).2.2] ∧ ∃ A', TabS tb (insP L nx r).1.1 (insP L nx r).1.2 A' ∧ St h0 h' (A' + G)) := by
  refine (Insert_s a s hnx r).mono fun v h' hv => ?_
  unfold insP
  rcases hv with ⟨h1, rfl, s⟩ | ⟨h1, h2, rfl, s⟩ | ⟨h1, h2, h3, rfl, s⟩ | ⟨h1, h2, h3, rfl, A', a', s⟩
  · rw [if_pos h1]; exact ⟨rfl, A, a, s⟩
  · rw [if_neg (vnot1 h1), if_pos (show r.1 ∈ keysL L from h2)]; exact ⟨rfl, A, a, s⟩
  · rw [if_neg (vnot1 h1), if_neg (show r.1 ∉ keysL L from h2), if_pos h3]; exact ⟨rfl, A, a, s⟩
  · rw [if_neg (vnot1 h1), if_neg (show r.1 ∉ keysL L from h2), if_neg (by omega)]; exact ⟨rfl, A', a', s⟩
theorem Update_S (a : TabS tb L nx A) (s : St h0 h (A + G)) (id : Int) (r : Rec) :
    HCalls Tryz.prog 19 #[ptr tb, .int .i64 id, encR r] h (fun v h' => v = .int .i64 (updP L id r).2 ∧ ∃ A', TabS tb (updP L id r).1 nx A' ∧ St h0 h' (A' + G)) := by
  refine (Update_s a s id r).mono fun v h' hv => ?_
  unfold updP
  rcases hv with ⟨h1, rfl, s⟩ | ⟨h1, h2, rfl, s⟩ | ⟨h1, h2, h3, rfl, s⟩ | ⟨h1, h2, h3, rfl, A', a', s⟩
  · rw [if_pos h1]; exact ⟨rfl, A, a, s⟩
  · rw [if_neg (vnot1 h1), if_pos h2]; exact ⟨rfl, A, a, s⟩
  · rw [if_neg (vnot1 h1), if_neg (fun h => h h2), if_pos h3]; exact ⟨rfl, A, a, s⟩
  · rw [if_neg (vnot1 h1), if_neg (fun h => h h2), if_neg (by rintro ⟨x, hx, hk, hne⟩; exact hne (h3 x hx hk))]; exact ⟨rfl, A', a', s⟩
theorem Delete_S (a : TabS tb L nx A) (s : St h0 h (A + G)) (id : Int) :
    HCalls Tryz.prog 26 #[ptr tb, .int .i64 id] h (fun v h' => v = .int .i64 (delP L id).2 ∧ ∃ A', TabS tb (delP L id).1 nx A' ∧ St h0 h' (A' + G)) := by
  refine (Delete_s a s id).mono fun v h' hv => ?_
  unfold delP
  rcases hv with ⟨h1, rfl, rfl⟩ | ⟨h1, rfl, A', a', s⟩
  · rw [if_pos h1]; exact ⟨rfl, A, a, s⟩
  · rw [if_neg (fun h => h h1)]; exact ⟨rfl, A', a', s⟩
variable {ds : List Int} {ins : List Rec} {dp ip : Option Addr} {dn dc im ic : Nat}
theorem Batch_S (a : TabS tb L nx A) (s : St h0 h (A + G)) (r1 : RdT TI h0 dp dn ds) (r2 : RdT tRec h0 ip im ins) (hnx : nx ≤ 1000000) (hdn : dn ≤ 1000000) (him : im ≤ 1000000) :
    HCalls Tryz.prog 22 #[ptr tb, .slice dp dn dc, .slice ip im ic] h (fun v h' => ∃ q m d B A', v = .tuple #[.slice q m d, .int .i64 (batE L ds ins)] ∧ Sl TI q m d (batP L nx ds ins).2 B ∧ TabS tb (batP L nx ds ins).1.1 (batP L nx ds ins).1.2 A' ∧ St h0 h' (B + (A' + G))) := by
  refine (Batch_s a s r1 r2 hnx hdn him).mono fun v h' hv => ?_
  unfold batP
  rcases hv with ⟨e, h1, h2, rfl, s⟩ | ⟨h1, q, m, d, B, A', rfl, o, a', s⟩
  · obtain rfl := h1.uniq (batE_ok L ds ins)
    rw [if_neg h2]
    exact ⟨_, _, _, 0, A, rfl, Sl.nil, a, by rw [Bag.zero_add]; exact s⟩
  · have := h1.uniq (batE_ok L ds ins)
    rw [← this, if_pos rfl]
    exact ⟨q, m, d, B, A', rfl, o, a', s⟩
variable {v : Value} {O : Bag}
theorem Insert_R (rs : RefS v L nx O) (o : LOk L nx) (s : St h0 h (O + G)) (hnx : nx ≤ 1000000) (r : Rec) :
    HCalls Tryz.prog 59 #[v, encR r] h (fun w h' => ∃ v' O', w = .tuple #[v', .int .i64 (insP L nx r).2.1, .int .i64 (insP L nx r).2.2] ∧ RefS v' (insP L nx r).1.1 (insP L nx r).1.2 O' ∧ St h0 h' (O' + G)) := by
  refine (Insert_r (rs.rd s) o hnx r).mono fun w h' hw => ?_
  unfold insP
  rcases hw with ⟨h1, rfl, x⟩ | ⟨h1, h2, rfl, x⟩ | ⟨h1, h2, h3, rfl, x⟩ | ⟨h1, h2, h3, v', O', rfl, rs', st⟩
  · rw [if_pos h1]; exact ⟨v, O, rfl, rs, s.grow x⟩
  · rw [if_neg (vnot1 h1), if_pos h2]; exact ⟨v, O, rfl, rs, s.grow x⟩
  · rw [if_neg (vnot1 h1), if_neg h2, if_pos h3]; exact ⟨v, O, rfl, rs, s.grow x⟩
  · rw [if_neg (vnot1 h1), if_neg h2, if_neg (by omega)]
    exact ⟨v', O', rfl, rs', ((s.join st).to (B := O + (O' + G))).drop⟩
theorem Update_R (rs : RefS v L nx O) (o : LOk L nx) (s : St h0 h (O + G)) (id : Int) (r : Rec) :
    HCalls Tryz.prog 60 #[v, .int .i64 id, encR r] h (fun w h' => ∃ v' O', w = .tuple #[v', .int .i64 (updP L id r).2] ∧ RefS v' (updP L id r).1 nx O' ∧ St h0 h' (O' + G)) := by
  have rs0 := rs
  obtain ⟨p, n, c, q, m, d, O1, O2, rfl, o1, o2, rfl⟩ := rs
  refine (Update_r (o1.rd (s.to (B := O1 + (O2 + G)))) (o2.rd (s.to (B := O2 + (O1 + G)))) o id r).mono fun w h' hw => ?_
  unfold updP
  rcases hw with ⟨h1, rfl, x⟩ | ⟨h1, h2, rfl, x⟩ | ⟨h1, h2, h3, rfl, x⟩ | ⟨h1, h2, h3, q', m', d', O3, rfl, o3, st⟩
  · rw [if_pos h1]; exact ⟨_, _, rfl, rs0, s.grow x⟩
  · rw [if_neg (vnot1 h1), if_pos h2]; exact ⟨_, _, rfl, rs0, s.grow x⟩
  · rw [if_neg (vnot1 h1), if_neg (fun h => h h2), if_pos h3]; exact ⟨_, _, rfl, rs0, s.grow x⟩
  · rw [if_neg (vnot1 h1), if_neg (fun h => h h2), if_neg (by rintro ⟨x, hx, hk, hne⟩; exact hne (h3 x hx hk))]
    exact ⟨_, _, rfl, ⟨_, _, _, _, _, _, O1, O3, rfl, by rw [upd_ids]; exact o1, o3, rfl⟩, ((s.join st).to (B := O2 + (O1 + O3 + G))).drop⟩
theorem Delete_R (rs : RefS v L nx O) (o : LOk L nx) (s : St h0 h (O + G)) (id : Int) :
    HCalls Tryz.prog 61 #[v, .int .i64 id] h (fun w h' => ∃ v' O', w = .tuple #[v', .int .i64 (delP L id).2] ∧ RefS v' (delP L id).1 nx O' ∧ St h0 h' (O' + G)) := by
  have rs0 := rs
  have hol := o.len
  obtain ⟨p, n, c, q, m, d, O1, O2, rfl, o1, o2, rfl⟩ := rs
  have hl := o1.len
  rw [List.length_map] at hl
  refine (Delete_r (o1.rd (s.to (B := O1 + (O2 + G)))) (o2.rd (s.to (B := O2 + (O1 + G)))) o1.cap o2.cap (by omega) o.ids id).mono fun w h' hw => ?_
  unfold delP
  rcases hw with ⟨h1, rfl, x⟩ | ⟨h1, p', n', c', q', m', d', O3, O4, rfl, o3, o4, st⟩
  · rw [if_pos h1]; exact ⟨_, _, rfl, rs0, s.grow x⟩
  · rw [if_neg (fun h => h h1)]
    exact ⟨_, _, rfl, ⟨_, _, _, _, _, _, O3, O4, rfl, o3, o4, rfl⟩, ((s.join st).to (B := (O1 + O2) + (O3 + O4 + G))).drop⟩
theorem Batch_R (rs : RefS v L nx O) (o : LOk L nx) (hkn : (keysL L).Nodup) (s : St h0 h (O + G)) (r1 : RdT TI h0 dp dn ds) (r2 : RdT tRec h0 ip im ins) (hnx : nx ≤ 900000) (hdn : dn ≤ 1000000) (him : im ≤ 1000000) :
    HCalls Tryz.prog 62 #[v, .slice dp dn dc, .slice ip im ic] h (fun w h' => ∃ v' O' q m d B, w = .tuple #[v', .slice q m d, .int .i64 (batE L ds ins)] ∧ Sl TI q m d (batP L nx ds ins).2 B ∧ RefS v' (batP L nx ds ins).1.1 (batP L nx ds ins).1.2 O' ∧ St h0 h' (B + (O' + G))) := by
  have rs0 := rs
  obtain ⟨p, n, c, q, m, d, O1, O2, rfl, o1, o2, rfl⟩ := rs
  refine (Batch_r o (o1.rd (s.to (B := O1 + (O2 + G)))) (o2.rd (s.to (B := O2 + (O1 + G)))) o1.cap o2.cap (r1.ext s.ext) (r2.ext s.ext) hnx hdn him hkn).mono fun w h' hw => ?_
  unfold batP
  rcases hw with ⟨e, h1, h2, rfl, x⟩ | ⟨h1, p', n', c', q', m', d', O', oq, om, od, B, rfl, ob, hw, st⟩
  · obtain rfl := h1.uniq (batE_ok L ds ins)
    rw [if_neg h2]
    exact ⟨_, _, _, _, _, 0, rfl, Sl.nil, rs0, by rw [Bag.zero_add]; exact s.grow x⟩
  · have := h1.uniq (batE_ok L ds ins)
    rw [← this, if_pos rfl]
    have s := s.join st
    rcases hw with ⟨rfl, rfl, rfl, rfl, rfl, rfl, hL, hn, rfl⟩ | ⟨O3, O4, o3, o4, rfl⟩
    · refine ⟨_, O1 + O2, _, _, _, B, rfl, ob, ?_, s.to⟩
      dsimp only
      rw [hL]
      rw [hn]
      exact rs0
    · exact ⟨_, _, _, _, _, B, rfl, ob, ⟨_, _, _, _, _, _, O3, O4, rfl, o3, o4, rfl⟩, (s.to (B := (O1 + O2) + (B + (O3 + O4 + G)))).drop⟩
end
end Go.Proofs.YtfkccighnkepgaaGreat

/- A call does with a table what it does with the reference. -/
set_option maxRecDepth 100000
namespace Go.Proofs.YtfkccighnkepgaaGreat
open Go Go.Sx
def DoQ (h0 : Hp) (tb : Nat) (st : LS) (G : Bag) (w : Value) (h' : Hp) : Prop := ∃ v' O' A', w = .tuple #[v', .bool true] ∧ RefS v' st.1 st.2 O' ∧ TabS tb st.1 st.2 A' ∧ St h0 h' (A' + (O' + G))
theorem bat_len (L : List LRow) (nx : Int) (ds : List Int) (ins : List Rec) : (batP L nx ds ins).2.length ≤ ins.length := by
  unfold batP
  split
  · rw [List.length_map, numL_len]; exact Nat.le_refl _
  · exact Nat.zero_le _
abbrev encSt (k id : Int) (r : Rec) (dp : Option Addr) (dn dc : Nat) (ip : Option Addr) (im ic : Nat) : Value := .agg #[.int .u8 k, .int .i64 id, .int .i64 r.1, .int .i64 r.2.1, .int .i64 r.2.2.1, .int .i64 r.2.2.2.1, .string r.2.2.2.2, .slice dp dn dc, .slice ip im ic]
section
variable {h0 h : Hp} {tb : Nat} {L : List LRow} {nx : Int} {A O G : Bag} {v : Value} {k id : Int} {r : Rec} {ds : List Int} {ins : List Rec} {dp ip : Option Addr} {dn dc im ic : Nat}
set_option maxHeartbeats 8000000 in
theorem do_ok (a : TabS tb L nx A) (rs : RefS v L nx O) (s : St h0 h (A + (O + G))) (hnx : nx ≤ 800000) (hk0 : 0 ≤ k) (r1 : RdT TI h0 dp dn ds) (r2 : RdT tRec h0 ip im ins) (hdn : dn ≤ 20) (him : im ≤ 20) :
    HCalls Tryz.prog 34 #[ptr tb, v, encSt k id r dp dn dc ip im ic] h (DoQ h0 tb (stepP (L, nx) (k, id, r, ds, ins)) G) := by
  have lo := a.ok
  have hkn := a.keys
  have rs0 := rs
  obtain ⟨p, n, c, q, m, d, O1, O2, rfl, o1, o2, hO⟩ := rs
  refine l50_do_call ?_
  rw [l50_do_b0_eq]
  refine s.new (cs := [_, _, _]) fun b1 h1 _ s => s.new (cs := [_, _, _, _, _, _, _, _, _]) fun b2 h2 _ s => s.new (cs := [_, _, _]) fun b3 h3 _ s => ⟨_, s.ld0, rem_intro hk0 (by decide) (condP (fun c0 => ?_) (fun c0 => condP (fun c1 => ?_) (fun c1 => condP (fun c2 => ?_) (fun c2 => ?_))))⟩
  · have e : stepP (L, nx) (k, id, r, ds, ins) = (insP L nx r).1 := if_pos c0
    rw [e]
    refine ⟨_, _, _, _, _, _, _, s.ld0, s.ldB, s.ldB, _, _, _, _, _, s.ldB, ldC s, ldC s, ldC s, ldC s, (Insert_R rs0 lo (s.at O) (by omega) r).mono fun w1 h4 ⟨v', O', hw1, rs', s⟩ => ?_⟩
    have rs1 := rs'
    obtain ⟨p2, n2, c2, q2, m2, d2, X1, X2, rfl, x1, x2, hX⟩ := rs'
    refine ⟨_, _, _, _, _, _, _, _, _, hw1, s.new (cs := [_, _, _]) fun b4 h5 _ s => s.wr3 fun h6 s => ?_⟩
    refine ⟨_, _, _, _, _, s.ldB, ldC s, ldC s, ldC s, ldC s, (Insert_S a (s.at A) (by omega) r).mono fun w2 h7 ⟨hw2, A', a', s⟩ => ⟨_, _, hw2, _, _, _, _, _, _, _, s.ld0, s.ldB, s.ldB, condYes (decide_eq_true rfl) ?_⟩⟩
    refine s.wr3 fun h8 s => ⟨_, _, _, _, _, _, _, s.ld0, s.ldB, s.ldB, _, O', A', by rw [decide_eq_true rfl], rs1, a', ?_⟩
    exact ((((s.find b1).drop.find b2).drop.find b3).drop.find b4).drop.to
  · have e : stepP (L, nx) (k, id, r, ds, ins) = ((updP L id r).1, nx) := (if_neg c0).trans (if_pos c1)
    rw [e]
    refine ⟨_, _, _, _, _, _, _, s.ld0, s.ldB, s.ldB, _, s.ldB, _, _, _, _, _, s.ldB, ldC s, ldC s, ldC s, ldC s, (Update_R rs0 lo (s.at O) id r).mono fun w1 h4 ⟨v', O', hw1, rs', s⟩ => ?_⟩
    have rs1 := rs'
    obtain ⟨p2, n2, c2, q2, m2, d2, X1, X2, rfl, x1, x2, hX⟩ := rs'
    refine ⟨_, _, _, _, _, _, _, _, hw1, s.new (cs := [_, _, _]) fun b4 h5 _ s => s.wr3 fun h6 s => ?_⟩
    refine ⟨_, _, _, _, _, _, _, s.ld0, s.ldB, s.ldB, _, s.ldB, _, _, _, _, _, s.ldB, ldC s, ldC s, ldC s, ldC s, (Update_S a (s.at A) id r).mono fun w2 h7 ⟨hw2, A', a', s⟩ => ⟨_, hw2, ⟨_, _, _, _, _, _, _, s.ld0, s.ldB, s.ldB, rfl⟩, ?_⟩⟩
    refine s.wr3 fun h8 s => ⟨_, _, _, _, _, _, _, s.ld0, s.ldB, s.ldB, _, O', A', by rw [decide_eq_true rfl], rs1, a', ?_⟩
    exact ((((s.find b1).drop.find b2).drop.find b3).drop.find b4).drop.to
  · have e : stepP (L, nx) (k, id, r, ds, ins) = ((delP L id).1, nx) := (if_neg c0).trans ((if_neg c1).trans (if_pos c2))
    rw [e]
    refine ⟨_, _, _, _, _, _, _, s.ld0, s.ldB, s.ldB, _, s.ldB, (Delete_R rs0 lo (s.at O) id).mono fun w1 h4 ⟨v', O', hw1, rs', s⟩ => ?_⟩
    have rs1 := rs'
    obtain ⟨p2, n2, c2, q2, m2, d2, X1, X2, rfl, x1, x2, hX⟩ := rs'
    refine ⟨_, _, _, _, _, _, _, _, hw1, s.new (cs := [_, _, _]) fun b4 h5 _ s => s.wr3 fun h6 s => ?_⟩
    refine ⟨_, _, _, _, _, _, _, s.ld0, s.ldB, s.ldB, _, s.ldB, (Delete_S a (s.at A) id).mono fun w2 h7 ⟨hw2, A', a', s⟩ => ⟨_, hw2, ⟨_, _, _, _, _, _, _, s.ld0, s.ldB, s.ldB, rfl⟩, ?_⟩⟩
    refine s.wr3 fun h8 s => ⟨_, _, _, _, _, _, _, s.ld0, s.ldB, s.ldB, _, O', A', by rw [decide_eq_true rfl], rs1, a', ?_⟩
    exact ((((s.find b1).drop.find b2).drop.find b3).drop.find b4).drop.to
  · have e : stepP (L, nx) (k, id, r, ds, ins) = (batP L nx ds ins).1 := (if_neg c0).trans ((if_neg c1).trans (if_neg c2))
    rw [e, l50_do_b1_eq]
    have hbl := bat_len L nx ds ins
    have hil := r2.len
    refine ⟨_, _, _, _, _, _, _, s.ld0, s.ldB, s.ldB, _, _, _, s.ldB, _, _, _, s.ldB, (Batch_R rs0 lo hkn (s.at O) r1 r2 (by omega) (by omega) (by omega)).mono fun w1 h4 ⟨v', O', q3, m3, d3, B1, hw1, ob, rs', s⟩ => ?_⟩
    have rs1 := rs'
    obtain ⟨p2, n2, c2, q2, m2, d2, X1, X2, rfl, x1, x2, hX⟩ := rs'
    refine ⟨_, _, _, _, _, _, _, _, _, _, _, hw1, s.new (cs := [_, _, _]) fun b4 h5 _ s => s.wr3 fun h6 s => ?_⟩
    refine ⟨_, _, _, s.ldB, _, _, _, s.ldB, (Batch_S a (s.at A) r1 r2 (by omega) (by omega) (by omega)).mono fun w2 h7 ⟨q4, m4, d4, B2, A', hw2, ob2, a', s⟩ => ⟨_, _, _, _, hw2, _, _, _, _, _, _, _, s.ld0, s.ldB, s.ldB, ?_⟩⟩
    have hl3 := ob.len
    refine (EqualI (ob.rd (s.at B1)) (ob2.rd (s.at B2)) (by omega)).mono fun w3 h8 ⟨hh, hw3⟩ => ⟨_, hw3, ?_⟩
    subst hh
    refine ⟨⟨_, _, _, _, _, _, _, s.ld0, s.ldB, s.ldB, rfl⟩, condYes (decide_eq_true rfl) (s.wr3 fun h8 s => ⟨rfl, _, _, _, _, _, _, _, s.ld0, s.ldB, s.ldB, _, O', A', by rw [decide_eq_true rfl], rs1, a', ?_⟩)⟩
    exact (((((s.find b1).drop.find b2).drop.find b3).drop.find b4).drop.to (B := (B1 + B2) + (A' + (O' + G)))).drop
end
end Go.Proofs.YtfkccighnkepgaaGreat

/- The chapter's example; great calls; what is played. -/
set_option maxRecDepth 100000
namespace Go.Proofs.YtfkccighnkepgaaGreat
open Go Go.Sx
abbrev ann : Rec := (5, 1, 2, 3, ⟨#[97, 110, 110]⟩)
abbrev anna : Rec := (4, 2, 2, 1, ⟨#[97, 110, 110, 97]⟩)
abbrev LA : List LRow := [(0, ann), (1, anna)]
theorem ins_ann : insP [] 0 ann = (([(0, ann)], 1), 0, 0) := by kernel_rfl
theorem ins_anna : insP [(0, ann)] 1 anna = ((LA, 2), 1, 0) := by kernel_rfl
theorem byk_LA : ByK LA 0 9 [1, 0] := by
  refine ⟨?_, ?_⟩
  · have e : (LA.filter fun x => decide (0 ≤ x.2.1 ∧ x.2.1 ≤ 9)).map Prod.fst = [0, 1] := by kernel_rfl
    rw [e]
    exact List.Perm.swap _ _ _
  · have e0 : (recL LA 0).1 = 5 := by kernel_rfl
    have e1 : (recL LA 1).1 = 4 := by kernel_rfl
    simp only [List.pairwise_cons, List.mem_singleton, List.not_mem_nil, List.Pairwise.nil, and_true, forall_eq, false_implies, implies_true]
    rw [e0, e1]
    decide
theorem Awake_r (h : Hp) (hm : MaxL h) : HCalls Tryz.prog 5 #[] h (fun v h' => Ext h h' ∧ v = .bool true) := by
  refine l50_awake_call ?_
  rw [l50_awake_b0_eq]
  refine (New_s h).mono fun v h1 ⟨tb, A, hv, a, s⟩ => ⟨_, hv, condNo rfl ?_⟩
  have s : St h h1 (A + 0) := s.to
  refine (Insert_S a s (by decide) ann).mono fun v h2 ⟨hv, A, a, s⟩ => ?_
  rw [ins_ann] at hv a
  refine ⟨_, _, hv, (Insert_S a s (by decide) anna).mono fun v h3 ⟨hv, A, a, s⟩ => ?_⟩
  rw [ins_anna] at hv a
  dsimp only at a
  refine ⟨_, _, hv, (ByKey_s a s 0 9).mono fun v h4 ⟨q1, m1, d1, B1, l1, hv, o1, b1, s⟩ => ⟨_, _, _, _, hv, ?_⟩⟩
  obtain rfl := b1.uniq a.ok a.keys byk_LA
  have s := s.to (B := A + (B1 + 0))
  refine (ByName_s a hm _ s).mono fun v h5 ⟨q2, m2, d2, B2, hv, o2, s⟩ => ⟨_, _, _, _, hv, ?_⟩
  have s := s.to (B := A + (B2 + (B1 + 0)))
  refine (ByName_s a hm _ s).mono fun v h6 ⟨q3, m3, d3, B3, hv, o3, s⟩ => ⟨_, _, _, _, hv, ?_⟩
  have s := s.to (B := A + (B3 + (B2 + (B1 + 0))))
  refine (Weight_s a s 0 5 0 5).mono fun v h7 ⟨hv, s⟩ => ⟨_, _, hv, ?_⟩
  have ew : wgt (LA.filter fun x => inR 0 5 0 5 x.2) = 4 := by kernel_rfl
  have e2 : (LA.filter fun x => Lib.contains x.2.2.2.2.2.data.toList (⟨#[110, 110]⟩ : ByteArray).data.toList).map Prod.fst = [0, 1] := by kernel_rfl
  have e3 : (LA.filter fun x => Lib.contains x.2.2.2.2.2.data.toList (⟨#[110, 97]⟩ : ByteArray).data.toList).map Prod.fst = [1] := by kernel_rfl
  rw [e2] at o2
  rw [e3] at o3
  have hl1 := o1.len
  have hl2 := o2.len
  have hl3 := o3.len
  simp only [List.length_cons, List.length_nil] at hl1 hl2 hl3
  refine condYes rfl (condYes rfl (condYes rfl (condYes rfl (condYes rfl (s.new (cs := [_, _]) fun b h8 _ s => ?_)))))
  have ob : Sl TI (some ⟨b, 0, none⟩) 2 2 [1, 0] (cA b [.int .i64 1, .int .i64 0] 3) := Sl.of_blk (T := TI) rfl rfl
  refine (EqualI (o1.rd (s.at B1)) (ob.rd (s.at (cA b _ _))) (by omega)).mono fun v h9 ⟨hh, hv⟩ => ⟨_, hv, ?_⟩
  subst hh
  refine condYes rfl (condYes rfl (s.new (cs := [_, _]) fun b h8 _ s => ?_))
  have ob : Sl TI (some ⟨b, 0, none⟩) 2 2 [0, 1] (cA b [.int .i64 0, .int .i64 1] 3) := Sl.of_blk (T := TI) rfl rfl
  refine (EqualI (o2.rd (s.at B2)) (ob.rd (s.at (cA b _ _))) (by omega)).mono fun v h9 ⟨hh, hv⟩ => ⟨_, hv, ?_⟩
  subst hh
  refine condYes rfl (condYes rfl (s.new (cs := [_]) fun b h8 _ s => ?_))
  have ob : Sl TI (some ⟨b, 0, none⟩) 1 1 [1] (cA b [.int .i64 1] 3) := Sl.of_blk (T := TI) rfl rfl
  refine (EqualI (o3.rd (s.at B3)) (ob.rd (s.at (cA b _ _))) (by omega)).mono fun v h9 ⟨hh, hv⟩ => ⟨_, hv, ?_⟩
  subst hh
  exact condYes rfl (condYes rfl ⟨s.ext, by rw [ew]; rfl⟩)
/-! ### calls -/
abbrev S9 := Int × Int × Rec × SH × SH
abbrev tS9 : Ty S9 := ⟨68, 9, fun z => [.int .u8 z.1, .int .i64 z.2.1, .int .i64 z.2.2.1.1, .int .i64 z.2.2.1.2.1, .int .i64 z.2.2.1.2.2.1, .int .i64 z.2.2.1.2.2.2.1, .string z.2.2.1.2.2.2.2, .slice z.2.2.2.1.1 z.2.2.2.1.2.1 z.2.2.2.1.2.2, .slice z.2.2.2.2.1 z.2.2.2.2.2.1 z.2.2.2.2.2.2],
  (0, 0, (0, 0, 0, 0, ⟨#[]⟩), (none, 0, 0), (none, 0, 0)), fun _ => rfl, by decide, fun _ v hv => by simp at hv; rcases hv with rfl | rfl | rfl | rfl | rfl | rfl | rfl | rfl | rfl <;> rfl⟩
abbrev dStp : Stp := (0, 0, (0, 0, 0, 0, ⟨#[]⟩), [], [])
def StpIs (h : Hp) (x : S9) (y : Stp) : Prop := y.1 = x.1 ∧ y.2.1 = x.2.1 ∧ y.2.2.1 = x.2.2.1 ∧ RdT TI h x.2.2.2.1.1 x.2.2.2.1.2.1 y.2.2.2.1 ∧ RdT tRec h x.2.2.2.2.1 x.2.2.2.2.2.1 y.2.2.2.2 ∧ 0 ≤ x.1
def small (x : S9) : Prop := x.2.2.2.1.2.1 ≤ 20 ∧ x.2.2.2.2.2.1 ≤ 20
theorem great_c1_c1 (r : Rec) (h : Hp) : HCalls Tryz.prog 33 #[encR r] h (fun v h' => Ext h h' ∧ v = .bool (decide ((100 : Int) < (r.2.2.2.2.size : Int)))) := by
  refine l50_great_c1_c1_call ?_
  rw [l50_great_c1_c1_b0_eq]
  exact (St.start h).new (cs := [_, _, _, _, _]) fun b h1 _ s => ⟨_, s.ldB, s.ext, rfl⟩
theorem great_c1 {h : Hp} (x : S9) {ins : List Rec} (r : RdT tRec h x.2.2.2.2.1 x.2.2.2.2.2.1 ins) :
    HCalls Tryz.prog 31 #[.agg (tS9.enc x).toArray] h (fun v h' => Ext h h' ∧ ∃ b : Bool, v = .bool b ∧ (b = false → small x)) := by
  refine l50_great_c1_call ?_
  rw [l50_great_c1_b0_eq]
  refine (St.start h).new (cs := [_, _, _, _, _, _, _, _, _]) fun b h1 _ s => ⟨_, _, _, s.ldB, condP (fun c1 => ⟨s.ext, true, rfl, fun h => by cases h⟩) (fun c1 => ⟨_, _, _, s.ldB, condP (fun c2 => ⟨s.ext, true, rfl, fun h => by cases h⟩) (fun c2 => ⟨_, ldC s, condP (fun c3 => ⟨s.ext, true, rfl, fun h => by cases h⟩) (fun c3 => ⟨_, _, _, s.ldB, ?_⟩)⟩)⟩)⟩
  refine (ContRec_ok (r.ext s.ext) (by omega) rfl great_c1_c1).mono fun v h2 ⟨x2, hv⟩ => ⟨_, hv, s.ext.trans x2, _, rfl, fun _ => ⟨by omega, by omega⟩⟩
theorem ldS9 {h : Hp} {p : Option Addr} {n i : Nat} {l : List S9} {Q : S9 → Prop} (r : RdT tS9 h p n l) (hi : i < n) (hq : Q (l.getD i tS9.d)) :
    (0 ≤ (i : Int) ∧ (i : Int) < (n : Int)) ∧ NN p fun a => ∃ x : S9, cell h (a.add (Int.toNat (i : Int) * 9)) = some (.int .u8 x.1) ∧ cell h ((a.add (Int.toNat (i : Int) * 9)).add 1) = some (.int .i64 x.2.1) ∧ cell h ((a.add (Int.toNat (i : Int) * 9)).add 2) = some (.int .i64 x.2.2.1.1) ∧ cell h ((a.add (Int.toNat (i : Int) * 9)).add 3) = some (.int .i64 x.2.2.1.2.1) ∧
      cell h ((a.add (Int.toNat (i : Int) * 9)).add 4) = some (.int .i64 x.2.2.1.2.2.1) ∧ cell h ((a.add (Int.toNat (i : Int) * 9)).add 5) = some (.int .i64 x.2.2.1.2.2.2.1) ∧ cell h ((a.add (Int.toNat (i : Int) * 9)).add 6) = some (.string x.2.2.1.2.2.2.2) ∧
      cell h ((a.add (Int.toNat (i : Int) * 9)).add 7) = some (.slice x.2.2.2.1.1 x.2.2.2.1.2.1 x.2.2.2.1.2.2) ∧ cell h ((a.add (Int.toNat (i : Int) * 9)).add 8) = some (.slice x.2.2.2.2.1 x.2.2.2.2.2.1 x.2.2.2.2.2.2) ∧ Q x := by
  refine r.idx (i := (i : Int)) (by omega) (by omega) fun a _ hc => ?_
  have e : Int.toNat (i : Int) = i := Int.toNat_natCast i
  rw [e] at hc ⊢
  exact ⟨_, by simpa [add_add] using hc 0 (by decide), hc 1 (by decide), hc 2 (by decide), hc 3 (by decide), hc 4 (by decide), hc 5 (by decide), hc 6 (by decide), hc 7 (by decide), hc 8 (by decide), hq⟩
theorem Great_r {h : Hp} {p : Option Addr} {n c : Nat} {l : List S9} (r : RdT tS9 h p n l) (hr : ∀ x ∈ l, ∃ ins, RdT tRec h x.2.2.2.2.1 x.2.2.2.2.2.1 ins) :
    HCalls Tryz.prog 6 #[.slice p n c] h (fun v h' => Ext h h' ∧ ∃ b : Bool, v = .bool b ∧ (b = false → n ≤ 40 ∧ ∀ x ∈ l, small x)) := by
  have hl := r.len
  refine l50_great_call ?_
  rw [l50_great_b0_eq]
  refine condP (fun hn => ⟨Ext.refl h, true, rfl, fun h => by cases h⟩) (fun hn => ?_)
  refine HCalls.mono (K := fun v h' => Ext h h' ∧ ∃ b : Bool, v = .bool b ∧ (b = false → ∀ x ∈ l, small x)) ?_ fun v h1 ⟨x1, b, hv, hb⟩ => ⟨b, hv, x1, b, rfl, fun h => ⟨by omega, hb h⟩⟩
  refine slices_ContainsFunc_Sl50_Step_l50_Step_call ?_
  rw [slices_ContainsFunc_Sl50_Step_l50_Step_b0_eq]
  refine HCalls.mono (K := fun v h' => Ext h h' ∧ ∃ x : Int, v = .int .i64 x ∧ (x < 0 → ∀ x ∈ l, small x)) ?_ fun v h1 ⟨x1, x, hv, hx⟩ => ⟨x, hv, x1, _, rfl, fun h => hx (by have := of_decide_eq_false h; omega)⟩
  refine slices_IndexFunc_Sl50_Step_l50_Step_call ?_
  rw [slices_IndexFunc_Sl50_Step_l50_Step_b0_eq]
  refine ⟨fun x h' => Ext h h' ∧ ∃ i : Nat, x.1 = i ∧ i ≤ n ∧ ∀ j, j < i → small (l.getD j tS9.d), fun x _ => (n - x.1).toNat, ⟨Ext.refl h, 0, rfl, Nat.zero_le _, fun j hj => absurd hj (Nat.not_lt_zero _)⟩, ?_⟩
  rintro ⟨_, _⟩ h1 ⟨x1, i, rfl, hi, hno⟩
  dsimp only
  rw [slices_IndexFunc_Sl50_Step_l50_Step_b1_eq]
  refine condP (fun hlt => ?_) (fun hge => ?_)
  · have hil : i < l.length := by omega
    obtain ⟨ins, hri⟩ := hr (l.getD i tS9.d) (by rw [getD_get hil]; exact List.getElem_mem hil)
    obtain ⟨hb, hN⟩ := ldS9 (Q := fun x => x = l.getD i tS9.d) (r.ext x1) (by omega) rfl
    refine ⟨hb, ?_⟩
    revert hN
    cases p with
    | none => exact fun h => h.elim
    | some a =>
      rintro ⟨x, q0, q1, q2, q3, q4, q5, q6, q7, q8, rfl⟩
      refine ⟨_, _, _, _, _, _, _, _, _, _, _, _, _, q0, q1, q2, q3, q4, q5, q6, q7, q8, funX_of rfl ((great_c1 _ (hri.ext x1)).mono fun v h2 ⟨x2, b, hv, hb⟩ => ⟨b, hv, cond_intro (fun hbt => ?_) (fun hbf => ?_)⟩)⟩
      · exact ⟨x1.trans x2, _, rfl, fun h => by omega⟩
      · rw [slices_IndexFunc_Sl50_Step_l50_Step_b2_eq]
        refine ⟨⟨by omega, by omega⟩, ⟨x1.trans x2, i + 1, by push_cast; rfl, by omega, fun j hj => ?_⟩, by dsimp only; omega⟩
        rcases Nat.lt_or_ge j i with h | h
        · exact hno j h
        · obtain rfl : j = i := by omega
          exact hb hbf
  · rw [slices_IndexFunc_Sl50_Step_l50_Step_b3_eq]
    refine ⟨x1, _, rfl, fun _ x hx => ?_⟩
    obtain ⟨j, hj, rfl⟩ := List.getElem_of_mem hx
    have := hno j (by omega)
    rwa [getD_get hj] at this
def playL (ys : List Stp) : LS := ys.foldl stepP ([], 0)
theorem play_snoc (ys : List Stp) (y : Stp) : playL (ys ++ [y]) = stepP (playL ys) y := by unfold playL; rw [List.foldl_append]; rfl
theorem step_nx (s : LS) (y : Stp) (h : y.2.2.2.2.length ≤ 20) : (stepP s y).2 ≤ s.2 + 20 := by
  unfold stepP
  split
  · unfold insP
    split
    · dsimp only; omega
    split
    · dsimp only; omega
    split <;> dsimp only <;> omega
  split
  · dsimp only; omega
  split
  · dsimp only; omega
  · unfold batP
    split <;> dsimp only <;> omega
section
variable {h0 h : Hp} {p : Option Addr} {n c : Nat} {l : List S9} {ys : List Stp} {G : Bag}
theorem play3 {b1 b2 tb : Nat} {p2 q2 : Option Addr} {n2 c2 m2 d2 : Nat} {st : LS} {A O : Bag} (a : TabS tb st.1 st.2 A) (rs : RefS (encT p2 n2 c2 q2 m2 d2 st.2) st.1 st.2 O) (s : St h0 h (cA b2 (tb50 p2 n2 c2 q2 m2 d2 st.2) 29 + (cA b1 (tb50 none 0 0 none 0 0 0) 29 + (A + (O + G))))) :
    l50_played_b3 (some ⟨b1, 0, none⟩) (some ⟨tb, 0, none⟩) (some ⟨b2, 0, none⟩) h (fun w h' => ∃ tb v O A, w = .tuple #[ptr tb, v, .bool true] ∧ RefS v st.1 st.2 O ∧ TabS tb st.1 st.2 A ∧ St h0 h' (A + (O + G))) := by
  rw [l50_played_b3_eq]
  refine ⟨_, _, _, _, _, _, _, s.ld0, s.ldB, s.ldB, s.wr3 fun h1 s => ⟨_, _, _, _, _, _, _, s.ld0, s.ldB, s.ldB, tb, _, O, A, rfl, rs, a, ?_⟩⟩
  exact ((s.find b1).drop.find b2).drop.to
theorem Played_r (r : RdT tS9 h0 p n l) (hyl : ys.length = n) (hy : ∀ i, i < n → StpIs h0 (l.getD i tS9.d) (ys.getD i dStp)) (hn : n ≤ 40) (hs : ∀ x ∈ l, small x) (s : St h0 h G) :
    HCalls Tryz.prog 7 #[.slice p n c] h (fun w h' => ∃ tb v O A, w = .tuple #[ptr tb, v, .bool true] ∧ RefS v (playL ys).1 (playL ys).2 O ∧ TabS tb (playL ys).1 (playL ys).2 A ∧ St h0 h' (A + (O + G))) := by
  have hl := r.len
  refine l50_played_call ?_
  rw [l50_played_b0_eq]
  refine s.new (cs := [_, _, _]) fun b1 h1 _ s => (New_s h1).mono fun v h2 ⟨tb, A, hv, a, st⟩ => ⟨_, hv, ?_⟩
  have s := s.join st
  refine s.new (cs := [_, _, _]) fun b2 h3 _ s => condNo rfl ?_
  refine ⟨fun x h' => ∃ (i : Nat) (p2 : Option Addr) (n2 c2 : Nat) (q2 : Option Addr) (m2 d2 : Nat) (A O : Bag), x.1 = i ∧ i ≤ n ∧ (playL (ys.take i)).2 ≤ 20 * i ∧ TabS tb (playL (ys.take i)).1 (playL (ys.take i)).2 A ∧ RefS (encT p2 n2 c2 q2 m2 d2 (playL (ys.take i)).2) (playL (ys.take i)).1 (playL (ys.take i)).2 O ∧ St h0 h' (cA b2 (tb50 p2 n2 c2 q2 m2 d2 (playL (ys.take i)).2) 29 + (cA b1 (tb50 none 0 0 none 0 0 0) 29 + (A + (O + G)))), fun x _ => (n - x.1).toNat, ⟨0, none, 0, 0, none, 0, 0, A, 0, rfl, Nat.zero_le _, Int.le_refl _, a, ⟨none, 0, 0, none, 0, 0, 0, 0, rfl, Sl.nil, Sl.nil, (Bag.add_zero 0).symm⟩, ?_⟩, ?_⟩
  · rw [Bag.zero_add]; exact s.to
  clear s a
  rintro ⟨z, _⟩ h4 ⟨i, p2, n2, c2, q2, m2, d2, A, O, hz, hi, hnx, a, rs, s⟩
  dsimp only at hz ⊢
  subst hz
  rw [l50_played_b1_eq]
  refine condP (fun hlt => ?_) (fun hge => ?_)
  · have hil : i < l.length := by omega
    have hiy : i < ys.length := by omega
    have htk : ys.take (i + 1) = ys.take i ++ [ys.getD i dStp] := by rw [getD_get hiy, List.take_succ_eq_append_getElem hiy]
    have hyi := hy i (by omega)
    have hsm := hs (l.getD i tS9.d) (by rw [getD_get hil]; exact List.getElem_mem hil)
    obtain ⟨hb, hN⟩ := ldS9 (Q := fun x => x = l.getD i tS9.d) (r.ext s.ext) (by omega) rfl
    refine ⟨hb, ?_⟩
    revert hN
    cases p with
    | none => exact fun h => h.elim
    | some ad =>
      rintro ⟨x, e0, e1, e2, e3, e4, e5, e6, e7, e8, hx⟩
      rw [← hx] at hyi hsm
      generalize hyv : ys.getD i dStp = y at hyi htk
      obtain ⟨yk, yid, yr, yds, yins⟩ := y
      obtain ⟨hk, hid, hr, rd, ri, hk0⟩ := hyi
      dsimp only at hk hid hr rd ri
      have hril := ri.len
      refine ⟨_, _, _, _, _, _, _, _, _, _, _, _, _, e0, e1, e2, e3, e4, e5, e6, e7, e8, s.new (cs := [_, _, _, _, _, _, _, _, _]) fun b3 h5 _ s => ?_⟩
      refine s.wr0 fun _ s => s.wrB fun _ s => s.wrB fun _ s => s.wrB fun _ s => s.wrB fun _ s => s.wrB fun _ s => s.wrB fun _ s => s.wrB fun _ s => s.wrB fun _ s => ?_
      refine ⟨_, _, _, _, _, _, _, s.ld0, s.ldB, s.ldB, _, _, _, _, _, _, _, _, _, _, _, _, _, s.ld0, s.ldB, s.ldB, s.ldB, s.ldB, s.ldB, s.ldB, s.ldB, s.ldB, ?_⟩
      have s' := s.to (B := A + (O + (cA b3 [.int .u8 x.1, .int .i64 x.2.1, .int .i64 x.2.2.1.1, .int .i64 x.2.2.1.2.1, .int .i64 x.2.2.1.2.2.1, .int .i64 x.2.2.1.2.2.2.1, .string x.2.2.1.2.2.2.2, .slice x.2.2.2.1.1 x.2.2.2.1.2.1 x.2.2.2.1.2.2, .slice x.2.2.2.2.1 x.2.2.2.2.2.1 x.2.2.2.2.2.2] 68 + (cA b2 (tb50 p2 n2 c2 q2 m2 d2 (playL (ys.take i)).2) 29 + (cA b1 (tb50 none 0 0 none 0 0 0) 29 + G)))))
      refine (do_ok (k := x.1) (id := x.2.1) (r := x.2.2.1) a rs s' (by omega) hk0 rd ri hsm.1 hsm.2).mono fun w h6 ⟨v', O', A', hw, rs', a', s⟩ => ?_
      rw [← hk, ← hid, ← hr, ← play_snoc, ← htk] at rs' a'
      have hnx' : (playL (ys.take (i + 1))).2 ≤ 20 * ((i + 1 : Nat) : Int) := by
        have := step_nx (playL (ys.take i)) (yk, yid, yr, yds, yins) (by rw [hril]; exact hsm.2)
        rw [← play_snoc, ← htk] at this
        push_cast; omega
      have rs0 := rs'
      obtain ⟨p3, n3, c3, q3, m3, d3, X1, X2, rfl, x1, x2, hX⟩ := rs'
      refine ⟨_, _, _, _, _, _, _, _, hw, s.new (cs := [_, _, _]) fun b4 h7 _ s => s.wr3 fun h8 s => condNo rfl ?_⟩
      have hx1 := x1.len
      rw [List.length_map] at hx1
      refine ⟨_, (Len_s a' (s.at A')).mono fun v h9 ⟨hh, hv⟩ => ⟨hv, hh⟩, _, _, _, s.ld0, condNo (by rw [hx1, decide_eq_true rfl]; rfl) ?_⟩
      rw [l50_played_b2_eq]
      refine ⟨_, _, _, _, _, _, _, s.ld0, s.ldB, s.ldB, s.wr3 fun h10 s => ?_⟩
      rw [l50_played_b4_eq]
      refine ⟨⟨by omega, by omega⟩, ⟨i + 1, p3, n3, c3, q3, m3, d3, A', O', by push_cast; rfl, by omega, hnx', a', rs0, ?_⟩, by dsimp only; omega⟩
      exact ((s.find b3).drop.find b4).drop.to
  · obtain rfl : i = n := by omega
    rw [List.take_of_length_le (by omega)] at a rs s
    exact play3 a rs s
end
end Go.Proofs.YtfkccighnkepgaaGreat

/- The law: queries. -/
set_option maxRecDepth 100000
namespace Go.Proofs.YtfkccighnkepgaaGreat
open Go Go.Sx
theorem steps_ys {h : Hp} : ∀ {l : List S9}, (∀ x ∈ l, ∃ y, StpIs h x y) → ∃ ys : List Stp, ys.length = l.length ∧ ∀ i, i < l.length → StpIs h (l.getD i tS9.d) (ys.getD i dStp)
  | [], _ => ⟨[], rfl, fun i hi => absurd hi (Nat.not_lt_zero _)⟩
  | x :: l, hx => by
    obtain ⟨y, hy⟩ := hx x List.mem_cons_self
    obtain ⟨ys, h1, h2⟩ := steps_ys (l := l) fun x h => hx x (List.mem_cons_of_mem _ h)
    refine ⟨y :: ys, by rw [List.length_cons, List.length_cons, h1], fun i hi => ?_⟩
    cases i with
    | zero => exact hy
    | succ i => exact h2 i (by rw [List.length_cons] at hi; omega)
/-- What is played, in a state. -/
theorem Played_l {h0 h : Hp} {p : Option Addr} {n c : Nat} {l : List S9} {G : Bag} (r : RdT tS9 h0 p n l) {ys : List Stp} (hyl : ys.length = l.length) (hy : ∀ i, i < l.length → StpIs h0 (l.getD i tS9.d) (ys.getD i dStp)) (hs : n ≤ 40 ∧ ∀ x ∈ l, small x) (s : St h0 h G) {K : Value → Hp → Prop}
    (hK : ∀ tb p n c q m d O1 O2 A h', Sl TI p n c ((playL ys).1.map Prod.fst) O1 → Sl tRec q m d ((playL ys).1.map Prod.snd) O2 → TabS tb (playL ys).1 (playL ys).2 A → St h0 h' (A + (O1 + (O2 + G))) → K (.tuple #[ptr tb, encT p n c q m d (playL ys).2, .bool true]) h') :
    HCalls Tryz.prog 7 #[.slice p n c] h K := by
  have hln := r.len
  refine (Played_r (ys := ys) r (by omega) (fun i hi => hy i (by omega)) hs.1 hs.2 s).mono fun w h' ⟨tb, v, O, A, hw, rs, a, s⟩ => ?_
  obtain ⟨p, n, c, q, m, d, O1, O2, rfl, o1, o2, rfl⟩ := rs
  subst hw
  exact hK _ _ _ _ _ _ _ _ _ _ _ o1 o2 a s.to
section
variable {h : Hp} {p : Option Addr} {n c : Nat} {l : List S9}
end
end Go.Proofs.YtfkccighnkepgaaGreat

/- How a slice that is handed in is read: elements of any number of cells. -/
namespace Go.Sx
open Go Go.ChangeShapes Go.WideShapes Go.Deep
section
variable {H : Type} {enc : TypeId × Value → H} {P : Program} {w : World} {base : Nat} {sp : Nat → Bool} {held : Bool} {α : Type}
theorem rd_flat {t : TypeId} (T : Ty α) {W : α → Prop} {a : Option Addr} {len cap : Nat} {d : DataW H} {ps : List MemPlace} (ht : P.underlying t = some (.slice T.e)) (hc : P.cellsOf T.e = T.sz)
    (dec : ∀ n cs x, DataW.trod enc P w base sp held n T.e cs = some x → ∃ a, cs = T.enc a ∧ W a) (h : DataW.Trod enc P w base sp held t (.slice a len cap) d ps) :
    ∃ xs : List α, RdT T w.heap a len xs ∧ len ≤ cap ∧ ∀ x ∈ xs, W x := by
  obtain ⟨fuel, hf⟩ := h
  have e0 : (Value.slice a len cap).cells.toList = [.slice a len cap] := rfl
  rw [e0] at hf
  rcases open_slice ht hf with ⟨hcs, _⟩ | ⟨x, l, c, m, n, D, Pl, hcs, _, hl, _, hm, _, hx⟩
  · injection hcs with h1 _
    injection h1 with h1 h2 h3
    subst h1 h2 h3
    exact ⟨[], RdT.nil _ _, Nat.le_refl _, fun _ h => nomatch h⟩
  · injection hcs with h1 _
    injection h1 with h1 h2 h3
    subst h1 h2 h3
    have hlm : len ≤ m := by rw [hm]; split <;> omega
    haveI : Inhabited α := ⟨T.d⟩
    obtain ⟨f, hf⟩ := choose_lt (α := α) (n := len) (p := fun i z => w.cells? base (x.add (i * T.sz)) T.sz = some (T.enc z) ∧ W z) (fun i hi => by
      obtain ⟨cs, h1, h2⟩ := hx i (by omega)
      obtain ⟨z, hz, hw⟩ := dec n cs _ h2
      rw [hc] at h1
      exact ⟨z, by rw [h1, hz], hw⟩)
    refine ⟨(List.range len).map f, ⟨by simp, .inr ⟨x, rfl, fun i hi => ?_⟩⟩, hl, fun z hz => ?_⟩
    · have hp := T.pos
      have hdm : T.sz * (i / T.sz) + i % T.sz = i := Nat.div_add_mod i T.sz
      have hq : i / T.sz < len := (Nat.div_lt_iff_lt_mul hp).2 hi
      have hr : i % T.sz < T.sz := Nat.mod_lt _ hp
      obtain ⟨_, _, h3⟩ := World.cells?_some (hf _ hq).1
      have h4 := h3 _ hr
      have e1 : i / T.sz * T.sz + i % T.sz = i := by rw [Nat.mul_comm]; exact hdm
      rw [add_add, e1] at h4
      show cell w.heap (x.add i) = _
      rw [← cell_eq, h4]
      have := T.cells_get ((List.range len).map f) (i := i / T.sz) (j := i % T.sz) (by simpa using hq) hr
      rw [e1] at this
      rw [this]
      simp [List.getD, hq]
    · obtain ⟨i, hi, rfl⟩ := List.mem_map.1 hz
      exact (hf i (List.mem_range.1 hi)).2
theorem dec_int {e : TypeId} {k : IntKind} (he : P.underlying e = some (.int k)) (n : Nat) (cs : List Value) (x : DataW H × List MemPlace) (h : DataW.trod enc P w base sp held n e cs = some x) : ∃ z, cs = [.int k z] ∧ (Lit.int k z).wf = true := by
  obtain ⟨z, h1, _, h2⟩ := DataW.trod_int he h
  exact ⟨z, h1, h2⟩
end
end Go.Sx

/- How the law's arguments are read: calls, records. -/
set_option maxRecDepth 10000
namespace Go.Proofs.YtfkccighnkepgaaGreat
open Go Go.Sx Go.ChangeShapes Go.WideShapes Go.ChangeAt Go.RowKit Go.Deep

theorem own : ownKnob Tryz.prog.godebug = none := by kernel_rfl
theorem laidOut : laidOutB Tryz.prog = true := by kernel_rfl
theorem maxL_of {W : World} (h : W.ShapedOpen Tryz.prog) : MaxL W.heap := by
  obtain ⟨m, hm⟩ := Tryz.laysM144.s1_3 W h
  exact ⟨m, hm⟩
theorem below_of {P : Program} {f : FuncId} {args : Array Value} {w : World} (hc : HCalls P f args w.heap (fun v h' => v = .bool true ∧ Ext w.heap h')) :
    Calls P f args w fun e w' => e = .returned (.bool true) ∧ Below w.heap.size w w' :=
  (hc w rfl).mono fun e w' ⟨v, he, hs, hv, hx⟩ => ⟨by rw [he, hv], ⟨hs.os, hs.tape, hs.output, hx.size, hx.same⟩⟩
section
variable {H : Type} {enc : TypeId × Value → H} {w : World} {base : Nat} {held : Bool} {a : Option Addr} {len cap : Nat} {d : DataW H} {ps : List MemPlace}
theorem dec_rec (n : Nat) (cs : List Value) (x : DataW H × List MemPlace) (h : DataW.trod enc Tryz.prog w base (fun _ => true) held n 49 cs = some x) : ∃ r : Rec, cs = tRec.enc r ∧ (InR r.1 ∧ InR r.2.1 ∧ InR r.2.2.1 ∧ InR r.2.2.2.1) := by
  obtain ⟨xs, m, _, _, hl, hxl, hx⟩ := DataW.trod_struct Tryz.underlying49 h
  rw [show Tryz.prog.cellsOf 49 = 5 by kernel_rfl] at hl
  match cs, xs, hl, hxl with
  | [c0, c1, c2, c3, c4], [y0, y1, y2, y3, y4], _, _ =>
    obtain ⟨z0, e0, w0⟩ := dec_int (k := .i64) (by kernel_rfl) _ _ _ (hx 0 _ rfl)
    obtain ⟨z1, e1, w1⟩ := dec_int (k := .i64) (by kernel_rfl) _ _ _ (hx 1 _ rfl)
    obtain ⟨z2, e2, w2⟩ := dec_int (k := .i64) (by kernel_rfl) _ _ _ (hx 2 _ rfl)
    obtain ⟨z3, e3, w3⟩ := dec_int (k := .i64) (by kernel_rfl) _ _ _ (hx 3 _ rfl)
    obtain ⟨z4, e4, _⟩ := DataW.trod_string (t := 9) (by kernel_rfl) (hx 4 _ rfl)
    have f0 : c0 = .int .i64 z0 := (List.cons.inj (show [c0] = [Value.int .i64 z0] from e0)).1
    have f1 : c1 = .int .i64 z1 := (List.cons.inj (show [c1] = [Value.int .i64 z1] from e1)).1
    have f2 : c2 = .int .i64 z2 := (List.cons.inj (show [c2] = [Value.int .i64 z2] from e2)).1
    have f3 : c3 = .int .i64 z3 := (List.cons.inj (show [c3] = [Value.int .i64 z3] from e3)).1
    have f4 : c4 = .string z4 := (List.cons.inj (show [c4] = [Value.string z4] from e4)).1
    exact ⟨(z0, z1, z2, z3, z4), by rw [f0, f1, f2, f3, f4], bounds_i64 w0, bounds_i64 w1, bounds_i64 w2, bounds_i64 w3⟩
theorem rd_recs (h : DataW.Trod enc Tryz.prog w base (fun _ => true) held 27 (.slice a len cap) d ps) : ∃ l : List Rec, RdT tRec w.heap a len l ∧ len ≤ cap ∧ ∀ x ∈ l, InR x.1 ∧ InR x.2.1 ∧ InR x.2.2.1 ∧ InR x.2.2.2.1 :=
  rd_flat tRec Tryz.underlying27 (by kernel_rfl) dec_rec h
theorem rd_intsT (h : DataW.Trod enc Tryz.prog w base (fun _ => true) held 26 (.slice a len cap) d ps) : ∃ l : List Int, RdT TI w.heap a len l ∧ len ≤ cap ∧ ∀ x ∈ l, InR x :=
  rd_flat (W := InR) TI Tryz.underlying26 (by kernel_rfl) (fun n cs x h => by
    obtain ⟨z, h1, h2⟩ := dec_int (k := .i64) (by kernel_rfl) n cs x h
    exact ⟨z, h1, bounds_i64 h2⟩) h
theorem rd_rec1 {cs : Array Value} (h : DataW.Trod enc Tryz.prog w base (fun _ => true) held 49 (.agg cs) d ps) : ∃ r : Rec, cs = (tRec.enc r).toArray := by
  obtain ⟨m, h⟩ := h
  obtain ⟨p, hp, _⟩ := dec_rec _ _ _ h
  obtain ⟨cl⟩ := cs
  have hp : cl = _ := hp
  exact ⟨p, by rw [hp]⟩
theorem rd_st50 (h : DataW.Trod enc Tryz.prog w base (fun _ => true) held 22 (.slice a len cap) d ps) : ∃ l : List S9, RdT tS9 w.heap a len l ∧ len ≤ cap ∧ ∀ x ∈ l, ∃ y, StpIs w.heap x y :=
  rd_flat tS9 Tryz.underlying22 (by kernel_rfl) (fun n cs x h => by
    obtain ⟨xs, m, _, _, hl, hxl, hx⟩ := DataW.trod_struct Tryz.underlying68 h
    rw [show Tryz.prog.cellsOf 68 = 9 by kernel_rfl] at hl
    match cs, xs, hl, hxl with
    | [c0, c1, c2, c3, c4, c5, c6, c7, c8], [y0, y1, y2, y3, y4], _, _ =>
      obtain ⟨z0, e0, w0⟩ := dec_int (k := .u8) (by kernel_rfl) _ _ _ (hx 0 _ rfl)
      obtain ⟨z1, e1, w1⟩ := dec_int (k := .i64) (by kernel_rfl) _ _ _ (hx 1 _ rfl)
      have f0 : c0 = .int .u8 z0 := (List.cons.inj (show [c0] = [Value.int .u8 z0] from e0)).1
      have f1 : c1 = .int .i64 z1 := (List.cons.inj (show [c1] = [Value.int .i64 z1] from e1)).1
      have h2 : DataW.trod enc Tryz.prog w base (fun _ => true) held m 49 [c2, c3, c4, c5, c6] = some y2 := hx 2 _ rfl
      obtain ⟨r, e2, _⟩ := dec_rec _ _ _ h2
      have h3 : DataW.trod enc Tryz.prog w base (fun _ => true) held m 26 [c7] = some y3 := hx 3 _ rfl
      have h4 : DataW.trod enc Tryz.prog w base (fun _ => true) held m 27 [c8] = some y4 := hx 4 _ rfl
      have k3 : ∃ a' l' c', [c7] = [Value.slice a' l' c'] := by
        rcases open_slice Tryz.underlying26 h3 with ⟨hcs, _⟩ | ⟨_, _, _, _, _, _, _, hcs, _⟩
        · exact ⟨_, _, _, hcs⟩
        · exact ⟨_, _, _, hcs⟩
      have k4 : ∃ a' l' c', [c8] = [Value.slice a' l' c'] := by
        rcases open_slice Tryz.underlying27 h4 with ⟨hcs, _⟩ | ⟨_, _, _, _, _, _, _, hcs, _⟩
        · exact ⟨_, _, _, hcs⟩
        · exact ⟨_, _, _, hcs⟩
      obtain ⟨a3, l3, q3, hc3⟩ := k3
      obtain ⟨a4, l4, q4, hc4⟩ := k4
      have f7 : c7 = .slice a3 l3 q3 := (List.cons.inj hc3).1
      have f8 : c8 = .slice a4 l4 q4 := (List.cons.inj hc4).1
      rw [hc3] at h3
      rw [hc4] at h4
      obtain ⟨zs, r3, _, _⟩ := rd_intsT (d := y3.1) (ps := y3.2) ⟨m, h3⟩
      obtain ⟨rs, r4, _, _⟩ := rd_recs (d := y4.1) (ps := y4.2) ⟨m, h4⟩
      have g2 : [c2, c3, c4, c5, c6] = [Value.int .i64 r.1, .int .i64 r.2.1, .int .i64 r.2.2.1, .int .i64 r.2.2.2.1, .string r.2.2.2.2] := e2
      injection g2 with g2 g3
      injection g3 with g3 g4
      injection g4 with g4 g5
      injection g5 with g5 g6
      injection g6 with g6 _
      refine ⟨(z0, z1, r, (a3, l3, q3), (a4, l4, q4)), by rw [f0, f1, f7, f8, g2, g3, g4, g5, g6], (z0, z1, r, zs, rs), rfl, rfl, rfl, r3, r4, ?_⟩
      exact (bounds_u8 w0).1) h
end
end Go.Proofs.YtfkccighnkepgaaGreat

/- The laws: joins, plays. -/
set_option maxRecDepth 100000
namespace Go.Proofs.YtfkccighnkepgaaGreat
open Go Go.Sx
section
variable {h : Hp} {p q : Option Addr} {n c m d : Nat} {l k : List S9}
end
end Go.Proofs.YtfkccighnkepgaaGreat

/- The law: plays. -/
set_option maxRecDepth 100000
namespace Go.Proofs.YtfkccighnkepgaaGreat
open Go Go.Sx
section
variable {h : Hp} {p : Option Addr} {n c : Nat} {l : List S9}
end
end Go.Proofs.YtfkccighnkepgaaGreat

/- The law: batches. -/
set_option maxRecDepth 100000
namespace Go.Proofs.YtfkccighnkepgaaGreat
open Go Go.Sx
section
variable {h0 h : Hp} {p : Option Addr} {n c : Nat} {l : List S9}
variable {ds : List Int} {ins : List Rec} {dp ip : Option Addr} {dn dc im ic : Nat}
end
end Go.Proofs.YtfkccighnkepgaaGreat

/- Values of a slice, sorted; concatenation; the greatest; repetition. -/
set_option maxRecDepth 100000
namespace Go.Proofs.YtfkccighnkepgaaGreat
open Go Go.Sx
/-! ### error numbers -/
abbrev tEr : Ty Int := tI 33
theorem ldE {h : Hp} {p : Option Addr} {n : Nat} {l : List Int} {i : Int} {i' : Nat} {Q : Int → Prop} (r : RdT tEr h p n l) (ei : i = (i' : Int)) (h1 : i' < n) (hq : Q (l.getD i' 0)) :
    (0 ≤ i ∧ i < (n : Int)) ∧ NN p fun a => ∃ x : Int, cell h (a.add (Int.toNat i * 1)) = some (.int .i64 x) ∧ Q x := by
  subst ei
  exact r.int (by omega) (by omega) (by rw [Int.toNat_natCast]; exact hq)
theorem EqualE {h : Hp} {p q : Option Addr} {n m c d : Nat} {xs ys : List Int} (r1 : RdT tEr h p n xs) (r2 : RdT tEr h q m ys) (hn : n ≤ 1000000000) :
    HCalls Tryz.prog 25 #[.slice p n c, .slice q m d] h (fun v h' => h' = h ∧ v = .bool (decide (xs = ys))) := by
  have l1 := r1.len
  have l2 := r2.len
  refine slices_Equal_Sapi_Errno_api_Errno_call ?_
  rw [slices_Equal_Sapi_Errno_api_Errno_b0_eq]
  refine condN (fun hl => ?_) (fun hl => ?_)
  · exact ⟨rfl, by rw [decide_eq_false (fun h => hl (by subst h; omega))]⟩
  refine ⟨fun x h' => h' = h ∧ ∃ i : Nat, x.1 = i ∧ i ≤ n ∧ ∀ j, j < i → xs.getD j 0 = ys.getD j 0, fun x _ => n - x.1.toNat, ⟨rfl, 0, rfl, by omega, fun j hj => by omega⟩, ?_⟩
  rintro ⟨_, _⟩ h1 ⟨rfl, i, rfl, hin, heq⟩
  dsimp only
  rw [slices_Equal_Sapi_Errno_api_Errno_b1_eq]
  refine condP (fun hlt => ?_) (fun hge => ?_)
  · refine ldE (i' := i) r1 rfl (by omega) (ldE (i' := i) r2 rfl (by omega) (condN (fun hne => ?_) (fun he => ?_)))
    · exact ⟨rfl, by rw [decide_eq_false (fun h => hne (by rw [h]))]⟩
    · rw [slices_Equal_Sapi_Errno_api_Errno_b2_eq]
      refine ⟨⟨by omega, by omega⟩, ⟨rfl, i + 1, by simp only; omega, by omega, fun j hj => ?_⟩, by simp only; omega⟩
      rcases Nat.lt_or_ge j i with h1 | h1
      · exact heq j h1
      · obtain rfl : j = i := by omega
        exact he
  · rw [slices_Equal_Sapi_Errno_api_Errno_b3_eq]
    exact ⟨rfl, by rw [decide_eq_true (list_eq_of (d := 0) (by omega) (fun t ht => heq t (by omega)))]⟩
end Go.Proofs.YtfkccighnkepgaaGreat

/- The law: all indexes agree. -/
set_option maxRecDepth 100000
namespace Go.Proofs.YtfkccighnkepgaaGreat
open Go Go.Sx
section
variable {h0 h : Hp} {tb : Nat} {L : List LRow} {nx w cut : Int} {part : ByteArray} {kq sq : Option Addr} {km kd sm sd : Nat} {l1 : List Int} {A B1 B2 G : Bag}
end
section
variable {h : Hp} {p : Option Addr} {n c : Nat} {l : List S9}
end
end Go.Proofs.YtfkccighnkepgaaGreat

/- The law: nil tables; results are one's own. -/
set_option maxRecDepth 100000
namespace Go.Proofs.YtfkccighnkepgaaGreat
open Go Go.Sx
theorem ok_er : ElOk tEr Tryz.prog 41 := elB_spec (by kernel_rfl)
theorem Mul_1_10 (h : Hp) : HCalls Tryz.prog 56 #[.int .u64 (IntKind.u64.wrap ((1 : Nat) : Int)), .int .u64 (IntKind.u64.wrap 10)] h (fun v h' => h' = h ∧ v = .tuple #[.int .u64 0, .int .u64 10]) := by
  have e1 : IntKind.u64.wrap ((1 : Nat) : Int) = 1 := by decide
  have e2 : IntKind.u64.wrap 10 = 10 := by decide
  rw [e1, e2]
  refine math_bits_Mul_call ?_
  rw [math_bits_Mul_b0_eq]
  refine HCalls.mono (K := fun v h' => h' = h ∧ v = .tuple #[.int .u64 0, .int .u64 10]) ?_ fun v h' ⟨hh, hv⟩ => ⟨_, _, hv, hh, rfl⟩
  refine math_bits_Mul64_call ?_
  rw [math_bits_Mul64_b0_eq]
  refine and_u64 (x := 1) (y := 4294967295) rfl rfl (by decide) (by decide) ?_
  refine shr_intro (x := 1) (s := 32) rfl rfl (by decide) ?_
  refine and_u64 (x := 10) (y := 4294967295) rfl rfl (by decide) (by decide) ?_
  refine shr_intro (x := 10) (s := 32) rfl rfl (by decide) ?_
  refine shr_intro (x := 10) (s := 32) (by decide) rfl (by decide) ?_
  refine and_u64 (x := 0) (y := 4294967295) (by decide) rfl (by decide) (by decide) ?_
  refine shr_intro (x := 0) (s := 32) (by decide) rfl (by decide) ?_
  refine shr_intro (x := 0) (s := 32) (by decide) rfl (by decide) ?_
  exact ⟨rfl, by kernel_rfl⟩
/-- 'copy' behind the elements that are there. -/
theorem copy_tail {α : Type} {T : Ty α} {P : Program} {t : TypeId} {h0 h : Hp} {b k c m c2 j : Nat} {q : Option Addr} {xs ys : List α} {A F : Bag} {K : Int → Hp → Prop} (ok : ElOk T P t) (a : Sl T (some ⟨b, 0, none⟩) k c xs A) (s : St h0 h (A + F)) (r : RdT T h q j ys) (hk : k < c) (hj : j = min m (c - k))
    (hK : ∀ h' A', Sl T (some ⟨b, 0, none⟩) (k + j) c (xs ++ ys) A' → St h0 h' (A' + F) → K (j : Int) h') :
    copyV P t (.slice (subAddr (some ⟨b, 0, none⟩) c k T.sz) (c - k) (c - k)) (.slice q m c2) h (fun v h => ∃ n : Int, v = .int .i64 n ∧ K n h) := by
  rcases a with ⟨hl, ⟨h1, _⟩ | ⟨b', rest, hb, hc, hr, rfl⟩⟩
  · cases h1
  cases hb
  have hyl := r.len
  have hjr : j * T.sz ≤ rest.length := by rw [hr]; exact Nat.mul_le_mul_right _ (by omega)
  have hrest : rest = rest.take (j * T.sz) ++ rest.drop (j * T.sz) := (List.take_append_drop _ rest).symm
  rw [hrest, ← List.append_assoc] at s
  rw [subAddr_in' (by omega)]
  refine copy_st (j := j) ok s r (by rw [T.cells_len, hl]; omega) hj (by rw [List.length_take]; omega) fun v h' s' hv => ?_
  subst hv
  refine hK h' _ ⟨by simp; omega, .inr ⟨b, rest.drop (j * T.sz), rfl, by omega, ?_, rfl⟩⟩ ?_
  · rw [List.length_drop, hr, ← Nat.sub_mul]; congr 1; omega
  · rwa [T.cells_append]
theorem Repeat_ok {h : Hp} {p : Option Addr} {c : Nat} (r : RdT tEr h p 1 [1]) :
    HCalls Tryz.prog 27 #[.slice p 1 c, .int .i64 10] h (fun v h' => ∃ q A, v = .slice q 10 10 ∧ Sl tEr q 10 10 (List.replicate 10 1) A ∧ St h h' A) := by
  refine slices_Repeat_Sapi_Errno_api_Errno_call ?_
  rw [slices_Repeat_Sapi_Errno_api_Errno_b0_eq]
  refine condNo rfl ?_
  rw [slices_Repeat_Sapi_Errno_api_Errno_b1_eq]
  refine (Mul_1_10 h).mono fun v h1 ⟨hh, hv⟩ => ⟨_, _, hv, condNo rfl (condNo rfl ?_)⟩
  subst hh
  rw [slices_Repeat_Sapi_Errno_api_Errno_b2_eq]
  refine ⟨⟨by decide, by decide⟩, ⟨by decide, by decide, by decide, by decide⟩, (St.start h1).new (cs := repL (Int.toNat 10 * 1) [.int .i64 0]) fun b1 h2 x2 s => ?_⟩
  have o0 : Sl tEr (some ⟨b1, 0, none⟩) 0 10 [] (cA b1 (repL (Int.toNat 10 * 1) [.int .i64 0]) 33) := ⟨rfl, .inr ⟨b1, repL (Int.toNat 10 * 1) [.int .i64 0], rfl, by decide, rfl, rfl⟩⟩
  have key := copy_tail (P := Tryz.prog) (t := 41) (m := 1) (c2 := c) (j := 1) (K := fun n1 h6 => LoopVC ((n1, ()) : Int × Unit) h6 (fun (nx0 : Int × Unit → Hp → Prop) (s1 : Int × Unit) h7 => slices_Repeat_Sapi_Errno_api_Errno_b3 s1.1 (some ⟨b1, 0, none⟩) (Int.toNat 10) (Int.toNat 10) h7 nx0 (fun v h' => ∃ q A, v = .slice q 10 10 ∧ Sl tEr q 10 10 (List.replicate 10 1) A ∧ St h1 h' A))) ok_er o0 s (r.ext x2) (by decide) (by decide) fun h3 A1 o1 s => ?_
  · rw [subAddr_z] at key
    exact key
  clear o0
  refine ⟨fun x h' => ∃ (k : Nat) (A : Bag), x.1 = k ∧ 1 ≤ k ∧ k ≤ 10 ∧ Sl tEr (some ⟨b1, 0, none⟩) k 10 (List.replicate k 1) A ∧ St h1 h' (A + 0), fun x _ => (10 - x.1).toNat, ⟨1, A1, rfl, by decide, by decide, o1, s⟩, ?_⟩
  clear o1 s
  rintro ⟨z, _⟩ h4 ⟨k, A, hz, hk1, hk10, o, s⟩
  dsimp only at hz ⊢
  subst hz
  rw [slices_Repeat_Sapi_Errno_api_Errno_b3_eq]
  have e10 : Int.toNat 10 = 10 := rfl
  have e0 : Int.toNat 0 = 0 := rfl
  have ek : Int.toNat (k : Int) = k := Int.toNat_natCast k
  have e10' : Int.toNat ((10 : Nat) : Int) = 10 := rfl
  simp only [e10, e0, ek, e10', Nat.sub_zero, subAddr_z]
  refine condP (fun hlt => ⟨⟨by omega, by omega, by omega⟩, ⟨by omega, by omega, by omega⟩, ?_⟩) (fun hge => ?_)
  · have rk := (o.rd s).take (i := min k (10 - k)) (by omega)
    rw [List.take_replicate, show min (min k (10 - k)) k = min k (10 - k) by omega] at rk
    refine copy_tail (T := tEr) ok_er o s rk (by omega) rfl fun h5 A' o' s => ⟨⟨by omega, by omega⟩, ⟨k + min k (10 - k), A', by push_cast; rfl, by omega, by omega, ?_, s⟩, by omega⟩
    rw [List.replicate_append_replicate] at o'
    exact o'
  · obtain rfl : k = 10 := by omega
    rw [slices_Repeat_Sapi_Errno_api_Errno_b4_eq]
    exact ⟨_, A, rfl, o, s.to⟩
/-! ### nil -/
theorem Insert_n (r : Rec) (h : Hp) : HCalls Tryz.prog 21 #[.pointer none, encR r] h (fun v h' => Ext h h' ∧ v = .tuple #[.int .i64 0, .int .i64 1]) := by
  refine table_Table_Insert_call ?_
  rw [table_Table_Insert_b0_eq]
  exact (St.start h).new (cs := [_, _, _, _, _]) fun b h1 _ s => condYes rfl ⟨s.ext, rfl⟩
theorem Update_n (id : Int) (r : Rec) (h : Hp) : HCalls Tryz.prog 19 #[.pointer none, .int .i64 id, encR r] h (fun v h' => Ext h h' ∧ v = .int .i64 1) := by
  refine table_Table_Update_call ?_
  rw [table_Table_Update_b0_eq]
  exact (St.start h).new (cs := [_, _, _, _, _]) fun b h1 _ s => condYes rfl ⟨s.ext, rfl⟩
theorem Delete_n (id : Int) (h : Hp) : HCalls Tryz.prog 26 #[.pointer none, .int .i64 id] h (fun v h' => Ext h h' ∧ v = .int .i64 1) := by
  refine table_Table_Delete_call ?_
  rw [table_Table_Delete_b0_eq]
  exact condYes rfl ⟨Ext.refl h, rfl⟩
theorem Get_n (id : Int) (h : Hp) : HCalls Tryz.prog 18 #[.pointer none, .int .i64 id] h (fun v h' => Ext h h' ∧ v = .tuple #[encR (0, 0, 0, 0, ⟨#[]⟩), .int .i64 1]) := by
  refine table_Table_Get_call ?_
  rw [table_Table_Get_b0_eq]
  exact (St.start h).new (cs := [_, _, _, _, _]) fun b h1 _ s => condYes rfl (wr5 s fun h2 s => ⟨_, _, _, _, _, s.ld0, s.ldB, s.ldB, s.ldB, s.ldB, s.ext, rfl⟩)
theorem ByKey_n (x y : Int) (h : Hp) : HCalls Tryz.prog 9 #[.pointer none, .int .i64 x, .int .i64 y] h (fun v h' => Ext h h' ∧ v = .tuple #[.slice none 0 0, .int .i64 1]) := by
  refine table_Table_ByKey_call ?_
  rw [table_Table_ByKey_b0_eq]
  exact (St.start h).new (cs := [_]) fun b h1 _ s => ⟨none, s.ld0, condYes rfl ⟨s.ext, rfl⟩⟩
theorem ByPlace_n (x y z u : Int) (h : Hp) : HCalls Tryz.prog 10 #[.pointer none, .int .i64 x, .int .i64 y, .int .i64 z, .int .i64 u] h (fun v h' => Ext h h' ∧ v = .tuple #[.slice none 0 0, .int .i64 1]) := by
  refine table_Table_ByPlace_call ?_
  rw [table_Table_ByPlace_b0_eq]
  exact (St.start h).new (cs := [_]) fun b h1 _ s => s.new (cs := [_]) fun b h1 _ s => condYes rfl ⟨s.ext, rfl⟩
theorem ByName_n (s : ByteArray) (h : Hp) : HCalls Tryz.prog 11 #[.pointer none, .string s] h (fun v h' => Ext h h' ∧ v = .tuple #[.slice none 0 0, .int .i64 1]) := by
  refine table_Table_ByName_call ?_
  rw [table_Table_ByName_b0_eq]
  exact (St.start h).new (cs := [_]) fun b h1 _ s => condYes rfl ⟨s.ext, rfl⟩
theorem Weight_n (x y z u : Int) (h : Hp) : HCalls Tryz.prog 12 #[.pointer none, .int .i64 x, .int .i64 y, .int .i64 z, .int .i64 u] h (fun v h' => Ext h h' ∧ v = .tuple #[.int .i64 0, .int .i64 1]) := by
  refine table_Table_Weight_call ?_
  rw [table_Table_Weight_b0_eq]
  refine (ByPlace_n x y z u h).mono fun v h1 ⟨x1, hv⟩ => ⟨_, _, _, _, hv, ?_⟩
  refine ⟨fun x h' => h' = h1 ∧ x.1 = 0 ∧ x.2.1 = 0, fun x _ => 0, ⟨rfl, rfl, rfl⟩, ?_⟩
  rintro ⟨sum, z, _⟩ h2 ⟨rfl, hs, hz⟩
  dsimp only at hs hz ⊢
  subst hs hz
  rw [table_Table_Weight_b1_eq]
  refine condNo rfl ?_
  rw [table_Table_Weight_b3_eq]
  exact ⟨x1, rfl⟩
theorem Batch_n (h : Hp) : HCalls Tryz.prog 22 #[.pointer none, .slice none 0 0, .slice none 0 0] h (fun v h' => Ext h h' ∧ v = .tuple #[.slice none 0 0, .int .i64 1]) := by
  refine table_Table_Batch_call ?_
  rw [table_Table_Batch_b0_eq]
  exact condYes rfl ⟨Ext.refl h, rfl⟩
theorem Join_n (u : Option Addr) (h : Hp) : HCalls Tryz.prog 23 #[.pointer none, .pointer u] h (fun v h' => Ext h h' ∧ v = .tuple #[.slice none 0 0, .int .i64 1]) := by
  refine table_Table_Join_call ?_
  rw [table_Table_Join_b0_eq]
  exact condYes rfl ⟨Ext.refl h, rfl⟩
theorem Len_n (h : Hp) : HCalls Tryz.prog 28 #[.pointer none] h (fun v h' => Ext h h' ∧ v = .int .i64 0) := by
  refine table_Table_Len_call ?_
  rw [table_Table_Len_b0_eq]
  exact condYes rfl ⟨Ext.refl h, rfl⟩
theorem List_n (h : Hp) : HCalls Tryz.prog 8 #[.pointer none] h (fun v h' => Ext h h' ∧ v = .slice none 0 0) := by
  refine table_Table_List_call ?_
  rw [table_Table_List_b0_eq]
  exact condYes rfl ⟨Ext.refl h, rfl⟩
theorem Check_n (h : Hp) : HCalls Tryz.prog 20 #[.pointer none] h (fun v h' => Ext h h' ∧ v = .bool false) := by
  refine table_Table_Check_call ?_
  rw [table_Table_Check_b0_eq]
  exact condYes rfl ⟨Ext.refl h, rfl⟩
/-! ### the law -/
theorem clear_all {h0 h : Hp} {p : Option Addr} {n c : Nat} {xs : List Int} {A F : Bag} {k : Hp → Prop} (a : Sl TI p n c xs A) (s : St h0 h (A + F)) (hk : ∀ h', St h0 h' F → k h') : clearV Tryz.prog 26 (.slice p n c) h k := by
  have := clear_tail (i := 0) (k := k) ok_int a s (Nat.zero_le _) fun h' A' _ s => hk h' s.drop
  rw [subAddr_z] at this
  exact this
section
variable {h : Hp} {p : Option Addr} {n c : Nat} {l : List S9}
theorem none_b2 {h1 : Hp} (rl : RdT tS9 h p n l) (hl : ∀ x ∈ l, ∃ y, StpIs h x y) (hm : MaxL h) (hs : n ≤ 40 ∧ ∀ x ∈ l, small x) (x0 : Ext h h1) :
    l50_TableNone_b2 p n c h1 (fun v h' => v = .bool true ∧ Ext h h') := by
  obtain ⟨ys, hyl, hy⟩ := steps_ys hl
  have s := (St.start h).grow x0
  rw [l50_TableNone_b2_eq]
  refine Played_l rl hyl hy hs s fun tb p n c q m d O1 O2 A h2 o1 o2 a s => ⟨_, _, _, _, _, _, _, _, _, rfl, ?_⟩
  have lo := a.ok
  have hkn := a.keys
  have hol := lo.len
  have hl1 := o1.len
  generalize (playL ys).1 = L at *
  generalize (playL ys).2 = nx at *
  rw [List.length_map] at hl1
  refine s.new (cs := [_, _, _]) fun b5 h3 _ s => s.wr3 fun h4 s => condNo rfl ?_
  refine (List_s a (s.at A)).mono fun v h5 ⟨q1, m1, d1, B1, hv, ob1, s⟩ => ⟨_, _, _, hv, clear_all ob1 s fun h6 s => ?_⟩
  refine (ByKey_s a s _ _).mono fun v h7 ⟨q2, m2, d2, B2, l2, hv, ob2, _, s⟩ => ⟨_, _, _, _, hv, clear_all ob2 s fun h8 s => ?_⟩
  refine (ByName_s a hm _ s).mono fun v h9 ⟨q3, m3, d3, B3, hv, ob3, s⟩ => ⟨_, _, _, _, hv, clear_all ob3 s fun h10 s => ?_⟩
  refine (ByKey_s a s _ _).mono fun v h11 ⟨q4, m4, d4, B4, l4, hv, ob4, bk4, s⟩ => ⟨_, _, _, _, hv, condYes rfl ⟨_, _, _, s.ld0, ?_⟩⟩
  refine (List_s a (s.at A)).mono fun v h12 ⟨q5, m5, d5, B5, hv, ob5, s⟩ => ⟨_, _, _, hv, ⟨_, _, _, s.ld0, rfl⟩, ?_⟩
  have hm5 := ob5.len
  rw [List.length_map] at hm5
  refine (EqualI (ob5.rd (s.at B5)) (o1.rd (s.at O1)) (by omega)).mono fun v h13 ⟨hh, hv⟩ => ⟨_, hv, condYes (decide_eq_true rfl) ?_⟩
  subst hh
  have hb4 := bk4.1.length_eq
  rw [all_key lo, List.length_map] at hb4
  have hm4 := ob4.len
  refine ⟨_, _, _, _, _, _, _, s.ld0, s.ldB, s.ldB, (ByKey_r (L := L) (o1.rd (s.at O1)) (o2.rd (s.at O2)) (by omega) lo _ _).mono fun v h14 ⟨q6, m6, d6, B6, l6, hv, ob6, bk6, st⟩ => ⟨_, _, _, hv, ?_⟩⟩
  have s := s.join st
  obtain rfl := bk4.uniq lo hkn bk6
  exact (EqualI (ob4.rd (s.at B4)) (ob6.rd (s.at B6)) (by omega)).mono fun v h15 ⟨hh, hv⟩ => ⟨_, hv, by rw [decide_eq_true rfl], by rw [hh]; exact s.ext⟩
theorem none_b1 {h1 : Hp} {b1 : Nat} {r : Rec} (rl : RdT tS9 h p n l) (hl : ∀ x ∈ l, ∃ y, StpIs h x y) (hm : MaxL h) (hs : n ≤ 40 ∧ ∀ x ∈ l, small x) (s : St h h1 (cA b1 (recC r) 49 + 0)) :
    l50_TableNone_b1 p n c (some ⟨b1, 0, none⟩) h1 (fun v h' => v = .bool true ∧ Ext h h') := by
  rw [l50_TableNone_b1_eq]
  refine ⟨_, _, _, _, _, s.ld0, s.ldB, s.ldB, s.ldB, s.ldB, (Insert_n r h1).mono fun v h2 ⟨x, hv⟩ => ⟨_, _, hv, ?_⟩⟩
  have s := s.grow x
  refine (Get_n 0 h2).mono fun v h3 ⟨x, hv⟩ => ⟨_, _, _, _, _, _, hv, ?_⟩
  have s := s.grow x
  refine s.new (cs := [_, _, _, _, _]) fun b2 h4 _ s => wr5 s fun h5 s => ?_
  refine (ByKey_n 0 1 h5).mono fun v h6 ⟨x, hv⟩ => ⟨_, _, _, _, hv, ?_⟩
  have s := s.grow x
  refine (ByPlace_n 0 1 0 1 h6).mono fun v h7 ⟨x, hv⟩ => ⟨_, _, _, _, hv, ?_⟩
  have s := s.grow x
  refine (ByName_n _ h7).mono fun v h8 ⟨x, hv⟩ => ⟨_, _, _, _, hv, ?_⟩
  have s := s.grow x
  refine (Weight_n 0 1 0 1 h8).mono fun v h9 ⟨x, hv⟩ => ⟨_, _, hv, ?_⟩
  have s := s.grow x
  refine (Batch_n h9).mono fun v h10 ⟨x, hv⟩ => ⟨_, _, _, _, hv, ?_⟩
  have s := s.grow x
  refine (New_s h10).mono fun v h11 ⟨tb, A, hv, a, st⟩ => ⟨_, hv, ?_⟩
  have s := s.join st
  refine (Join_n _ h11).mono fun v h12 ⟨x, hv⟩ => ⟨_, _, _, _, hv, ?_⟩
  have s := s.grow x
  refine ⟨_, _, _, _, _, s.ld0, s.ldB, s.ldB, s.ldB, s.ldB, (Update_n 0 r h12).mono fun v h13 ⟨x, hv⟩ => ⟨_, hv, ?_⟩⟩
  have s := s.grow x
  refine (Delete_n 0 h13).mono fun v h14 ⟨x, hv⟩ => ⟨_, hv, ?_⟩
  have s := s.grow x
  refine s.new (cs := [_, _, _, _, _, _, _, _, _, _]) fun b3 h15 _ s => s.new (cs := [_]) fun b4 h16 _ s => ?_
  have o3 : Sl tEr (some ⟨b3, 0, none⟩) 10 10 (List.replicate 10 1) (cA b3 [.int .i64 1, .int .i64 1, .int .i64 1, .int .i64 1, .int .i64 1, .int .i64 1, .int .i64 1, .int .i64 1, .int .i64 1, .int .i64 1] 33) := Sl.of_blk (T := tEr) rfl rfl
  have o4 : Sl tEr (some ⟨b4, 0, none⟩) 1 1 [1] (cA b4 [.int .i64 1] 33) := Sl.of_blk (T := tEr) rfl rfl
  refine (Repeat_ok (o4.rd s)).mono fun v h17 ⟨q, B, hv, o5, st⟩ => ⟨_, _, _, hv, ?_⟩
  have s := s.join st
  refine (EqualE (o3.rd (s.at (cA b3 _ _))) (o5.rd s) (by decide)).mono fun v h18 ⟨hh, hv⟩ => ⟨_, hv, condNo (by simp) ?_⟩
  subst hh
  refine (Len_n h18).mono fun v h19 ⟨x, hv⟩ => ⟨_, hv, condNo rfl ?_⟩
  have s := s.grow x
  refine (List_n h19).mono fun v h20 ⟨x, hv⟩ => ⟨_, _, _, hv, condNo rfl ?_⟩
  have s := s.grow x
  refine (Check_n h20).mono fun v h21 ⟨x, hv⟩ => ⟨_, hv, condNo rfl ?_⟩
  have s := s.grow x
  exact none_b2 rl hl hm hs s.ext
theorem none_law {r : Rec} (rl : RdT tS9 h p n l) (hl : ∀ x ∈ l, ∃ y, StpIs h x y) (hm : MaxL h) :
    HCalls Tryz.prog 4 #[.slice p n c, encR r] h (fun v h' => v = .bool true ∧ Ext h h') := by
  refine l50_TableNone_call ?_
  rw [l50_TableNone_b0_eq]
  refine (St.start h).new (cs := [_, _, _, _, _]) fun b1 h1 x1 s => ?_
  refine (Awake_r h1 (hm.ext x1)).mono fun v h2 ⟨x2, hv⟩ => ⟨_, hv, condNo rfl ?_⟩
  have s := s.grow x2
  refine (Great_r (rl.ext s.ext) fun x hx => by obtain ⟨y, _, _, _, _, hr, _⟩ := hl x hx; exact ⟨_, hr.ext s.ext⟩).mono fun v h3 ⟨x3, b, hv, hb⟩ => ⟨b, hv, cond_intro (fun hbt => ⟨rfl, s.ext.trans x3⟩) (fun hbf => ?_)⟩
  have s := s.grow x3
  exact ⟨_, s.ldB, condP (fun _ => ⟨rfl, s.ext⟩) (fun _ => none_b1 rl hl hm (hb hbf) s)⟩
end
end Go.Proofs.YtfkccighnkepgaaGreat
