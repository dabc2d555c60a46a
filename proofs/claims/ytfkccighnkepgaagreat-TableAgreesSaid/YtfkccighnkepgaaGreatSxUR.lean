/- Part UF UG P41 P44 P45 UH UI UJ UK UL UM R1 FBT UN UO UP UQ UR of the proof: contracts of functions of the program, and what follows from them. -/
import Derived.Test.YtfkccighnkepgaaGreatSxUE
import Derived.Test.YtfkccighnkepgaaGreatSxSL
import Derived.Deep.Slices
import Derived.OpenShut
import Derived.Test.YtfkccighnkepgaaGreatRows
import Derived.WalkKit
import Derived.ProofKit
import Derived.ShutString
import Derived.ChangeOld
import Derived.Below
import Derived.ChangeMaps5
import Derived.Deep.Grids
import Derived.HandedShaped
/- The reference: Batch. -/
set_option maxRecDepth 100000
namespace Go.Proofs.YtfkccighnkepgaaGreat
open Go Go.Sx
abbrev tb50 (p : Option Addr) (n c : Nat) (q : Option Addr) (m d : Nat) (nx : Int) : List Value := [.slice p n c, .slice q m d, .int .i64 nx]
theorem rec_key {h : Hp} {q : Option Addr} {m i : Nat} {rows : List Rec} {Q : Int → Prop} (r : RdT tRec h q m rows) (hi : i < m) (hq : Q (rows.getD i tRec.d).1) :
    (0 ≤ (i : Int) ∧ (i : Int) < (m : Int)) ∧ NN q fun a => ∃ n1 : Int, cell h (a.add (Int.toNat (i : Int) * 5)) = some (.int .i64 n1) ∧ Q n1 := by
  refine r.idx (i := (i : Int)) (by omega) (by omega) fun a _ hc => ?_
  have e : Int.toNat (i : Int) = i := Int.toNat_natCast i
  rw [e] at hc ⊢
  exact ⟨_, by simpa [add_add] using hc 0 (by decide), hq⟩
theorem rec_rd2 {h : Hp} {q : Option Addr} {m i : Nat} {rows : List Rec} {Q : Int → Int → Int → Int → ByteArray → Addr → Prop} (r : RdT tRec h q m rows) (hi : i < m)
    (hq : ∀ a, cell h (a.add (Int.toNat (i : Int) * 5)) = some (.int .i64 (rows.getD i tRec.d).1) → cell h ((a.add (Int.toNat (i : Int) * 5)).add 1) = some (.int .i64 (rows.getD i tRec.d).2.1) → cell h ((a.add (Int.toNat (i : Int) * 5)).add 2) = some (.int .i64 (rows.getD i tRec.d).2.2.1) → cell h ((a.add (Int.toNat (i : Int) * 5)).add 3) = some (.int .i64 (rows.getD i tRec.d).2.2.2.1) → cell h ((a.add (Int.toNat (i : Int) * 5)).add 4) = some (.string (rows.getD i tRec.d).2.2.2.2) → Q (rows.getD i tRec.d).1 (rows.getD i tRec.d).2.1 (rows.getD i tRec.d).2.2.1 (rows.getD i tRec.d).2.2.2.1 (rows.getD i tRec.d).2.2.2.2 a) :
    (0 ≤ (i : Int) ∧ (i : Int) < (m : Int)) ∧ NN q fun a => ∃ n1 : Int, ∃ n2 : Int, ∃ n3 : Int, ∃ n4 : Int, ∃ s2 : ByteArray, cell h (a.add (Int.toNat (i : Int) * 5)) = some (.int .i64 n1) ∧ cell h ((a.add (Int.toNat (i : Int) * 5)).add 1) = some (.int .i64 n2) ∧ cell h ((a.add (Int.toNat (i : Int) * 5)).add 2) = some (.int .i64 n3) ∧ cell h ((a.add (Int.toNat (i : Int) * 5)).add 3) = some (.int .i64 n4) ∧ cell h ((a.add (Int.toNat (i : Int) * 5)).add 4) = some (.string s2) ∧ Q n1 n2 n3 n4 s2 a := by
  refine r.idx (i := (i : Int)) (by omega) (by omega) fun a _ hc => ?_
  have e : Int.toNat (i : Int) = i := Int.toNat_natCast i
  rw [e] at hc hq ⊢
  have c0 : cell h (a.add (i * 5)) = some (.int .i64 (rows.getD i tRec.d).1) := by simpa [add_add] using hc 0 (by decide)
  exact ⟨_, _, _, _, _, c0, hc 1 (by decide), hc 2 (by decide), hc 3 (by decide), hc 4 (by decide), hq a c0 (hc 1 (by decide)) (hc 2 (by decide)) (hc 3 (by decide)) (hc 4 (by decide))⟩
theorem ldIc {h : Hp} {p : Option Addr} {n i : Nat} {l : List Int} {Q : Addr → Int → Prop} (r : RdT TI h p n l) (h1 : i < n) (hq : ∀ a, cell h (a.add (Int.toNat (i : Int) * 1)) = some (.int .i64 (l.getD i 0)) → Q a (l.getD i 0)) :
    (0 ≤ (i : Int) ∧ (i : Int) < (n : Int)) ∧ NN p fun a => ∃ x : Int, cell h (a.add (Int.toNat (i : Int) * 1)) = some (.int .i64 x) ∧ Q a x := by
  refine r.idx (i := (i : Int)) (by omega) (by omega) fun a _ hc => ?_
  have e : Int.toNat (i : Int) = i := Int.toNat_natCast i
  rw [e] at hc hq ⊢
  have c0 : cell h (a.add (i * 1)) = some (.int .i64 (l.getD i 0)) := by simpa [add_add] using hc 0 (by decide)
  exact ⟨_, c0, hq a c0⟩
theorem num_ok : ∀ (l : List Rec) {M : List LRow} {nx : Int}, LOk M nx → (∀ r ∈ l, vRec r = true) → M.length + l.length ≤ 1000 → LOk (M ++ numL nx l) (nx + (l.length : Nat))
  | [], M, nx, o, _, _ => by
    show LOk (M ++ []) _
    rw [List.append_nil, show nx + (([] : List Rec).length : Int) = nx by simp]
    exact o
  | r :: l, M, nx, o, hv, hl => by
    rw [List.length_cons] at hl
    have := num_ok l (ins_ok o (hv r List.mem_cons_self) (by omega)) (fun x hx => hv x (List.mem_cons_of_mem _ hx)) (by rw [List.length_append, List.length_singleton]; omega)
    rw [List.append_assoc] at this
    rw [show nx + ((r :: l).length : Int) = nx + 1 + (l.length : Nat) by rw [List.length_cons]; push_cast; omega]
    exact this
theorem delA_ok {L : List LRow} {nx : Int} (o : LOk L nx) (ds : List Int) : LOk (delA L ds) nx :=
  ⟨o.so.filter _, fun x hx => o.lt x (List.mem_filter.1 hx).1, o.n0, Nat.le_trans (List.length_filter_le _ _) o.len, fun x hx => o.val x (List.mem_filter.1 hx).1⟩
/-- The reference's table as it was, or with slices of its own. -/
def RefW (p : Option Addr) (n c : Nat) (q : Option Addr) (m d : Nat) (L : List LRow) (nx : Int) (p' : Option Addr) (n' c' : Nat) (q' : Option Addr) (m' d' : Nat) (Lu : List LRow) (nu : Int) (O : Bag) : Prop :=
  (p' = p ∧ n' = n ∧ c' = c ∧ q' = q ∧ m' = m ∧ d' = d ∧ Lu = L ∧ nu = nx ∧ O = 0) ∨ ∃ O1 O2, Sl TI p' n' c' (Lu.map Prod.fst) O1 ∧ Sl tRec q' m' d' (Lu.map Prod.snd) O2 ∧ O = O1 + O2
/-- The copy that is worked on. -/
def UIn (h : Hp) (b1 b2 b3 : Nat) (p : Option Addr) (n c : Nat) (q : Option Addr) (m d : Nat) (L : List LRow) (nx : Int) (Lu : List LRow) (nu : Int) (G : Bag) (h' : Hp) : Prop :=
  ∃ p' n' c' q' m' d' O, RefW p n c q m d L nx p' n' c' q' m' d' Lu nu O ∧ St h h' (cA b3 (tb50 p' n' c' q' m' d' nu) 29 + (O + (cA b1 (tb50 p n c q m d nx) 29 + (cA b2 (tb50 none 0 0 none 0 0 0) 29 + G))))
def BatRQ (h : Hp) (p : Option Addr) (n c : Nat) (q : Option Addr) (m d : Nat) (L : List LRow) (nx : Int) (ds : List Int) (ins : List Rec) (w : Value) (h' : Hp) : Prop :=
  (∃ e, BE L ds ins e ∧ e ≠ 0 ∧ w = .tuple #[encT p n c q m d nx, .slice none 0 0, .int .i64 e] ∧ Ext h h') ∨
  (BE L ds ins 0 ∧ ∃ p' n' c' q' m' d' O oq om od B, w = .tuple #[encT p' n' c' q' m' d' (nx + (ins.length : Nat)), .slice oq om od, .int .i64 0] ∧ Sl TI oq om od ((numL nx ins).map Prod.fst) B ∧ RefW p n c q m d L nx p' n' c' q' m' d' (batL L nx ds ins) (nx + (ins.length : Nat)) O ∧ St h h' (B + O))
section
variable {h h1 : Hp} {p q : Option Addr} {n c m d : Nat} {nx nu : Int} {L Lu : List LRow} {G : Bag} {b1 b2 b3 : Nat} {ds : List Int} {ins : List Rec} {dp ip : Option Addr} {dn dc im ic : Nat}
theorem RefW.rd {p' q' : Option Addr} {n' c' m' d' : Nat} {O F : Bag} (w : RefW p n c q m d L nx p' n' c' q' m' d' Lu nu O) (r1 : RdT TI h p n (L.map Prod.fst)) (r2 : RdT tRec h q m (L.map Prod.snd)) (hc : n ≤ c) (hdm : m ≤ d) (s : St h h1 (O + F)) :
    RdT TI h1 p' n' (Lu.map Prod.fst) ∧ RdT tRec h1 q' m' (Lu.map Prod.snd) ∧ n' ≤ c' ∧ m' ≤ d' := by
  rcases w with ⟨rfl, rfl, rfl, rfl, rfl, rfl, rfl, rfl, rfl⟩ | ⟨O1, O2, o1, o2, rfl⟩
  · exact ⟨r1.ext s.ext, r2.ext s.ext, hc, hdm⟩
  · exact ⟨o1.rd (s.to (B := O1 + (O2 + F))), o2.rd (s.to (B := O2 + (O1 + F))), o1.cap, o2.cap⟩
theorem btR18 {LO : LOk L nx} (r1 : RdT TI h p n (L.map Prod.fst)) (r2 : RdT tRec h q m (L.map Prod.snd)) (hc : n ≤ c) (hdm : m ≤ d) (ri : RdT tRec h ip im ins) (hb : BE L ds ins 0) (hnx : nx ≤ 900000) (u : UIn h b1 b2 b3 p n c q m d L nx (delA L ds) nx G h1) :
    LoopVC (((none, 0, 0), 0, ()) : (Option Addr × Nat × Nat) × Int × Unit) h1 (fun (nx0 : (Option Addr × Nat × Nat) × Int × Unit → Hp → Prop) (s8 : (Option Addr × Nat × Nat) × Int × Unit) h46 => r50_Batch_b18 s8.1.1 s8.1.2.1 s8.1.2.2 s8.2.1 ip im ic (some ⟨b2, 0, none⟩) (some ⟨b3, 0, none⟩) h46 nx0 (BatRQ h p n c q m d L nx ds ins)) := by
  obtain ⟨h1v, h2v, h3v, h4v, h5v⟩ := hb.okd
  have hli := ri.len
  have hn0 := LO.n0
  refine ⟨fun x h' => ∃ (i : Nat) (B : Bag), x.2.1 = i ∧ i ≤ im ∧ Sl TI x.1.1 x.1.2.1 x.1.2.2 ((numL nx (ins.take i)).map Prod.fst) B ∧ UIn h b1 b2 b3 p n c q m d L nx (delA L ds ++ numL nx (ins.take i)) (nx + (i : Nat)) (B + G) h', fun x _ => (im - x.2.1).toNat, ⟨0, 0, rfl, Nat.zero_le _, Sl.nil, ?_⟩, ?_⟩
  · rw [List.take_zero, Bag.zero_add]
    show UIn h b1 b2 b3 p n c q m d L nx (delA L ds ++ []) _ G h1
    rw [List.append_nil, show nx + ((0 : Nat) : Int) = nx by omega]
    exact u
  clear u
  rintro ⟨⟨oq, om, od⟩, z, _⟩ h2 ⟨i, B, hz, hi, oo, p', n', c', q', m', d', O, w, s⟩
  dsimp only at hz oo ⊢
  subst hz
  rw [r50_Batch_b18_eq]
  have hom := oo.len
  rw [List.length_map, numL_len, List.length_take] at hom
  refine condP (fun hlt => ?_) (fun hge => ?_)
  · have hil : i < ins.length := by omega
    have htk : ins.take (i + 1) = ins.take i ++ [ins.getD i tRec.d] := by rw [getD_get hil, List.take_succ_eq_append_getElem hil]
    have hlen : (ins.take i).length = i := by rw [List.length_take]; omega
    have hk := keys_take h4v hil nx
    have hv : vRec (ins.getD i tRec.d) = true := by rw [getD_get hil]; exact h1v _ (List.getElem_mem hil)
    have lo := num_ok (ins.take i) (delA_ok LO ds) (fun r hr => h1v r (List.mem_of_mem_take hr)) (by rw [hlen]; omega)
    rw [hlen] at lo
    have hll : (delA L ds ++ numL nx (ins.take i)).length < 1000 := by rw [List.length_append, numL_len, hlen]; omega
    have e19 : ∀ (nb : Nat) (h' : Hp) (p2 : Option Addr) (n2 c2 : Nat) (q2 : Option Addr) (m2 d2 : Nat) (O1 O2 : Bag), Sl TI p2 n2 c2 ((delA L ds ++ numL nx (ins.take (i + 1))).map Prod.fst) O1 → Sl tRec q2 m2 d2 ((delA L ds ++ numL nx (ins.take (i + 1))).map Prod.snd) O2 →
        St h h' (cA nb (tb50 p2 n2 c2 q2 m2 d2 (nx + ((i + 1 : Nat) : Int))) 29 + ((O1 + O2) + (cA b3 (tb50 p' n' c' q' m' d' (nx + (i : Nat))) 29 + (O + (cA b1 (tb50 p n c q m d nx) 29 + (cA b2 (tb50 none 0 0 none 0 0 0) 29 + (B + G))))))) →
        r50_Batch_b19 ip im ic (some ⟨b2, 0, none⟩) (some ⟨b3, 0, none⟩) oq om od (i : Int) (some ⟨nb, 0, none⟩) (nx + (i : Nat)) h' (fun s' h' => (∃ (i : Nat) (B : Bag), s'.2.1 = i ∧ i ≤ im ∧ Sl TI s'.1.1 s'.1.2.1 s'.1.2.2 ((numL nx (ins.take i)).map Prod.fst) B ∧ UIn h b1 b2 b3 p n c q m d L nx (delA L ds ++ numL nx (ins.take i)) (nx + (i : Nat)) (B + G) h') ∧ (im - s'.2.1).toNat < (im - (i : Int)).toNat) (BatRQ h p n c q m d L nx ds ins) := fun nb h' p2 n2 c2 q2 m2 d2 O1 O2 o1 o2 s => by
      rw [r50_Batch_b19_eq]
      refine ⟨_, _, _, _, _, _, _, s.ld0, s.ldB, s.ldB, s.wr3 fun h3 s => ?_⟩
      refine push_sl ok_int (s.at B) (cs := [_]) oo (x := nx + (i : Nat)) rfl rfl (by omega) fun p3 c3 h4 B2 ob s => ?_
      rw [r50_Batch_b21_eq]
      refine ⟨⟨by omega, by omega⟩, ⟨i + 1, B2, by push_cast; rfl, by omega, ?_, p2, n2, c2, q2, m2, d2, O1 + O2, .inr ⟨O1, O2, o1, o2, rfl⟩, ?_⟩, by dsimp only; omega⟩
      · rw [htk, numL_app, List.map_append, hlen]
        exact ob
      · exact ((((s.find nb).drop).to (B := O + (cA b3 (tb50 p2 n2 c2 q2 m2 d2 (nx + ((i + 1 : Nat) : Int))) 29 + ((O1 + O2) + (cA b1 (tb50 p n c q m d nx) 29 + (cA b2 (tb50 none 0 0 none 0 0 0) 29 + (B2 + G))))))).drop)
    have eL : delA L ds ++ numL nx (ins.take (i + 1)) = (delA L ds ++ numL nx (ins.take i)) ++ [(nx + (i : Nat), ins.getD i tRec.d)] := by rw [htk, numL_app, hlen, List.append_assoc]
    have enx : nx + ((i + 1 : Nat) : Int) = nx + (i : Nat) + 1 := by push_cast; omega
    rw [eL, enx] at e19
    obtain ⟨q1, q2, q3, q4⟩ := w.rd r1 r2 hc hdm (s.at O)
    refine ⟨_, _, _, _, _, _, _, s.ld0, s.ldB, s.ldB, rec_rd2 (ri.ext s.ext) (by omega) fun ad c0 c1 c2 c3 c4 => ⟨?_, ?_⟩⟩
    · refine (Insert_r (v := encT p' n' c' q' m' d' (nx + (i : Nat))) ⟨p', n', c', q', m', d', rfl, q1, q2, q3, q4⟩ lo (by omega) (ins.getD i tRec.d)).mono fun w1 h3 hw => ?_
      rcases hw with ⟨hw, _⟩ | ⟨_, hw, _⟩ | ⟨_, _, hw, _⟩ | ⟨_, _, _, v', O', rfl, ⟨p2, n2, c2, q2, m2, d2, O1, O2, rfl, o1, o2, rfl⟩, st⟩
      · rw [hv] at hw; cases hw
      · exact absurd hw hk
      · omega
      have s := s.join st
      refine ⟨_, _, _, _, _, _, _, _, _, rfl, s.new (cs := [_, _, _]) fun nb h4 _ s => s.wr3 fun h5 s => e19 nb h5 p2 n2 c2 q2 m2 d2 O1 O2 o1 o2 s⟩
    · refine s.new (cs := [_, _, _]) fun nb h4 x4 s => ⟨⟨_, _, _, _, _, x4.cell c0, x4.cell c1, x4.cell c2, x4.cell c3, x4.cell c4, rfl⟩, ⟨_, _, _, _, _, _, _, s.ld0, s.ldB, s.ldB, rfl⟩, ?_⟩
      refine (Insert_r (v := encT p' n' c' q' m' d' (nx + (i : Nat))) ⟨p', n', c', q', m', d', rfl, q1.ext x4, q2.ext x4, q3, q4⟩ lo (by omega) (ins.getD i tRec.d)).mono fun w1 h3 hw => ?_
      rcases hw with ⟨hw, _⟩ | ⟨_, hw, _⟩ | ⟨_, _, hw, _⟩ | ⟨_, _, _, v', O', rfl, ⟨p2, n2, c2, q2, m2, d2, O1, O2, rfl, o1, o2, rfl⟩, st⟩
      · rw [hv] at hw; cases hw
      · exact absurd hw hk
      · omega
      have s := s.join st
      exact ⟨_, _, _, _, _, _, _, _, _, rfl, s.wr3 fun h5 s => e19 nb h5 p2 n2 c2 q2 m2 d2 O1 O2 o1 o2 s.to⟩
  · obtain rfl : i = im := by omega
    rw [List.take_of_length_le (by omega)] at oo w
    rw [r50_Batch_b20_eq]
    refine ⟨_, _, _, _, _, _, _, s.ld0, s.ldB, s.ldB, s.wr3 fun h3 s => ⟨_, _, _, _, _, _, _, s.ld0, s.ldB, s.ldB, .inr ⟨hb, p', n', c', q', m', d', O, oq, om, od, B, by rw [hli], oo, by rw [hli]; exact w, ?_⟩⟩⟩
    exact (((((s.find b1).drop).find b2).drop).find b3).drop.to (B := G + (B + O)) |>.drop
end
end Go.Proofs.YtfkccighnkepgaaGreat

/- The reference: Batch, from its start. -/
set_option maxRecDepth 100000
namespace Go.Proofs.YtfkccighnkepgaaGreat
open Go Go.Sx
theorem has_any {M : List LRow} {nx : Int} (o : LOk M nx) (k : Int) : (M.any fun x => decide (x.2.1 = k ∧ x.1 ≠ -1)) = decide (k ∈ keysL M) := by
  rw [Bool.eq_iff_iff, List.any_eq_true, decide_eq_true_eq]
  constructor
  · rintro ⟨x, hx, hc⟩
    exact List.mem_map.2 ⟨x, hx, (of_decide_eq_true hc).1⟩
  · intro hc
    obtain ⟨x, hx, he⟩ := List.mem_map.1 hc
    exact ⟨x, hx, decide_eq_true ⟨he, by have := (o.lt x hx).1; omega⟩⟩
theorem mem_take_getD {α : Type} {d x : α} {l : List α} {i : Nat} (hi : i ≤ l.length) : x ∈ l.take i ↔ ∃ j, j < i ∧ l.getD j d = x := by
  rw [List.mem_take_iff_getElem]
  constructor
  · rintro ⟨j, hj, rfl⟩; exact ⟨j, by omega, getD_get (by omega)⟩
  · rintro ⟨j, hj, rfl⟩; exact ⟨j, by omega, (getD_get (by omega)).symm⟩
section
variable {h h1 : Hp} {p q : Option Addr} {n c m d : Nat} {nx nu : Int} {L Lu : List LRow} {G : Bag} {b1 b2 b3 : Nat} {ds : List Int} {ins : List Rec} {dp ip : Option Addr} {dn dc im ic : Nat}
theorem UIn.grow {h2 : Hp} (u : UIn h b1 b2 b3 p n c q m d L nx Lu nu G h1) (x : Ext h1 h2) : UIn h b1 b2 b3 p n c q m d L nx Lu nu G h2 := by
  obtain ⟨p', n', c', q', m', d', O, w, s⟩ := u
  exact ⟨p', n', c', q', m', d', O, w, s.grow x⟩
theorem btR15 (LO : LOk L nx) (r1 : RdT TI h p n (L.map Prod.fst)) (r2 : RdT tRec h q m (L.map Prod.snd)) (hc : n ≤ c) (hdm : m ≤ d) (ri : RdT tRec h ip im ins) (hnx : nx ≤ 900000) (him : im ≤ 1000000) (h1v : ∀ r ∈ ins, vRec r = true) (h2v : ds.Nodup) (h3v : ∀ d ∈ ds, d ∈ L.map Prod.fst) (h4v : (keysL (delA L ds) ++ ins.map fun r => r.1).Nodup) (u : UIn h b1 b2 b3 p n c q m d L nx (delA L ds) nx G h1) :
    r50_Batch_b15 ip im ic (some ⟨b1, 0, none⟩) (some ⟨b2, 0, none⟩) (some ⟨b3, 0, none⟩) h1 (BatRQ h p n c q m d L nx ds ins) := by
  have hli := ri.len
  have hol := (delA_ok LO ds).len
  have u0 := u
  obtain ⟨p', n', c', q', m', d', O, w, s⟩ := u
  obtain ⟨q1, q2, q3, q4⟩ := w.rd r1 r2 hc hdm (s.at O)
  have hl := q1.len
  rw [List.length_map] at hl
  rw [r50_Batch_b15_eq]
  refine ⟨_, _, _, s.ld0, ⟨by omega, by omega⟩, condP (fun hf => ?_) (fun hf => ?_)⟩
  · exact ⟨_, _, _, _, _, _, _, s.ld0, s.ldB, s.ldB, s.wr3 fun h5 s => ⟨_, _, _, _, _, _, _, s.ld0, s.ldB, s.ldB, .inl ⟨4, BE.ful h1v h2v h3v h4v (by omega), by decide, rfl, s.ext⟩⟩⟩
  · exact btR18 (LO := LO) r1 r2 hc hdm ri (BE.okk h1v h2v h3v h4v (by omega)) hnx u0
theorem btR11 (LO : LOk L nx) (r1 : RdT TI h p n (L.map Prod.fst)) (r2 : RdT tRec h q m (L.map Prod.snd)) (hc : n ≤ c) (hdm : m ≤ d) (ri : RdT tRec h ip im ins) (hnx : nx ≤ 900000) (him : im ≤ 1000000) (hkn : (keysL L).Nodup) (h1v : ∀ r ∈ ins, vRec r = true) (h2v : ds.Nodup) (h3v : ∀ d ∈ ds, d ∈ L.map Prod.fst) (u : UIn h b1 b2 b3 p n c q m d L nx (delA L ds) nx G h1) :
    r50_Batch_b11 ip im ic (some ⟨b1, 0, none⟩) (some ⟨b2, 0, none⟩) (some ⟨b3, 0, none⟩) h1 (BatRQ h p n c q m d L nx ds ins) := by
  have hli := ri.len
  have lo := delA_ok LO ds
  have hol := lo.len
  rw [r50_Batch_b11_eq]
  refine ⟨fun x h' => ∃ i : Nat, x.1 = i ∧ i ≤ im ∧ (∀ j, j < i → (ins.getD j tRec.d).1 ∉ keysL (delA L ds) ∧ (ins.getD j tRec.d).1 ∉ (ins.take j).map fun r => r.1) ∧ UIn h b1 b2 b3 p n c q m d L nx (delA L ds) nx G h', fun x _ => (im - x.1).toNat, ⟨0, rfl, Nat.zero_le _, fun j hj => absurd hj (Nat.not_lt_zero _), u⟩, ?_⟩
  clear u
  rintro ⟨z, _⟩ h2 ⟨i, hz, hi, hok, u⟩
  dsimp only at hz ⊢
  subst hz
  rw [r50_Batch_b13_eq]
  refine condP (fun hlt => ?_) (fun hge => ?_)
  · have hil : i < ins.length := by omega
    have hbad := fun hc => BE.exi h1v h2v h3v (keys_bad (L := L) (ds := ds) (ins := ins) hil hc)
    have u0 := u
    obtain ⟨p', n', c', q', m', d', O, w, s⟩ := u
    obtain ⟨q1, q2, q3, q4⟩ := w.rd r1 r2 hc hdm (s.at O)
    have hl := q1.len
    rw [List.length_map] at hl
    refine ⟨_, _, _, _, _, _, _, s.ld0, s.ldB, s.ldB, rec_key (ri.ext s.ext) (by omega) ?_⟩
    refine (Has_r (L := delA L ds) q1 q2 (by omega) (ins.getD i tRec.d).1 (-1)).mono fun v h3 ⟨x3, hv⟩ => ⟨_, hv, ?_⟩
    have s := s.grow x3
    rw [has_any lo]
    refine condP (fun hk => ?_) (fun hk => ?_)
    · exact ⟨_, _, _, _, _, _, _, s.ld0, s.ldB, s.ldB, s.wr3 fun h5 s => ⟨_, _, _, _, _, _, _, s.ld0, s.ldB, s.ldB, .inl ⟨15, hbad (.inl hk), by decide, rfl, s.ext⟩⟩⟩
    refine ⟨fun x h' => h' = h3 ∧ ∃ k : Nat, x.1 = k ∧ k ≤ i ∧ ∀ j, j < k → (ins.getD j tRec.d).1 ≠ (ins.getD i tRec.d).1, fun x _ => (i - x.1).toNat, ⟨rfl, 0, rfl, Nat.zero_le _, fun j hj => absurd hj (Nat.not_lt_zero _)⟩, ?_⟩
    rintro ⟨z, _⟩ h4 ⟨rfl, k, hz, hki, hno⟩
    dsimp only at hz ⊢
    subst hz
    rw [r50_Batch_b14_eq]
    refine condP (fun hlt2 => ?_) (fun hge2 => ?_)
    · refine rec_key (ri.ext s.ext) (by omega) (rec_key (ri.ext s.ext) (by omega) (condP (fun he => ?_) (fun he => ?_)))
      · refine ⟨_, _, _, _, _, _, _, s.ld0, s.ldB, s.ldB, s.wr3 fun h5 s => ⟨_, _, _, _, _, _, _, s.ld0, s.ldB, s.ldB, .inl ⟨15, hbad (.inr ?_), by decide, rfl, s.ext⟩⟩⟩
        exact List.mem_map.2 ⟨ins.getD k tRec.d, (mem_take_getD (by omega)).2 ⟨k, by omega, rfl⟩, he⟩
      · rw [r50_Batch_b16_eq]
        refine ⟨⟨by omega, by omega⟩, ⟨rfl, k + 1, by push_cast; rfl, by omega, fun j hj => ?_⟩, by dsimp only; omega⟩
        rcases Nat.lt_or_ge j k with h | h
        · exact hno j h
        · obtain rfl : j = k := by omega
          exact he
    · obtain rfl : k = i := by omega
      rw [r50_Batch_b17_eq]
      refine ⟨⟨by omega, by omega⟩, ⟨k + 1, by push_cast; rfl, by omega, fun j hj => ?_, u0.grow x3⟩, by dsimp only; omega⟩
      rcases Nat.lt_or_ge j k with h | h
      · exact hok j h
      · obtain rfl : j = k := by omega
        refine ⟨hk, fun hc => ?_⟩
        obtain ⟨y, hy, hye⟩ := List.mem_map.1 hc
        obtain ⟨t, ht, rfl⟩ := (mem_take_getD (d := tRec.d) (by omega)).1 hy
        exact hno t ht hye
  · obtain rfl : i = im := by omega
    rw [← hli] at hok
    exact btR15 LO r1 r2 hc hdm ri hnx him h1v h2v h3v (keys_good hkn hok) u
theorem btR6 (LO : LOk L nx) (r1 : RdT TI h p n (L.map Prod.fst)) (r2 : RdT tRec h q m (L.map Prod.snd)) (hc : n ≤ c) (hdm : m ≤ d) (rd : RdT TI h dp dn ds) (ri : RdT tRec h ip im ins) (hnx : nx ≤ 900000) (hdn : dn ≤ 1000000) (him : im ≤ 1000000) (hkn : (keysL L).Nodup) (h1v : ∀ r ∈ ins, vRec r = true) (h2v : ds.Nodup)
    (s : St h h1 (cA b1 (tb50 p n c q m d nx) 29 + (cA b2 (tb50 none 0 0 none 0 0 0) 29 + G))) :
    r50_Batch_b6 dp dn dc ip im ic (some ⟨b1, 0, none⟩) (some ⟨b2, 0, none⟩) h1 (BatRQ h p n c q m d L nx ds ins) := by
  have hld := rd.len
  rw [r50_Batch_b6_eq]
  refine ⟨_, _, _, _, _, _, _, s.ld0, s.ldB, s.ldB, s.new (cs := [_, _, _]) fun b3 h2 _ s => s.wr3 fun h3 s => ?_⟩
  have u : UIn h b1 b2 b3 p n c q m d L nx L nx G h3 := ⟨p, n, c, q, m, d, 0, .inl ⟨rfl, rfl, rfl, rfl, rfl, rfl, rfl, rfl, rfl⟩, by rw [Bag.zero_add]; exact s.to⟩
  clear s
  refine ⟨fun x h' => ∃ i : Nat, x.1 = i ∧ i ≤ dn ∧ (∀ j, j < i → ds.getD j 0 ∈ L.map Prod.fst) ∧ UIn h b1 b2 b3 p n c q m d L nx (delA L (ds.take i)) nx G h', fun x _ => (dn - x.1).toNat, ⟨0, rfl, Nat.zero_le _, fun j hj => absurd hj (Nat.not_lt_zero _), by rw [List.take_zero, delA_nil]; exact u⟩, ?_⟩
  clear u
  rintro ⟨z, _⟩ h2 ⟨i, hz, hi, hok, u⟩
  dsimp only at hz ⊢
  subst hz
  rw [r50_Batch_b9_eq]
  refine condP (fun hlt => ?_) (fun hge => ?_)
  · have hil : i < ds.length := by omega
    have htk : ds.take (i + 1) = ds.take i ++ [ds.getD i 0] := by rw [getD_get hil, List.take_succ_eq_append_getElem hil]
    have hnt : ds.getD i 0 ∉ ds.take i := fun hc => by
      have h2' : (ds.take (i + 1)).Nodup := h2v.sublist (List.take_sublist _ _)
      rw [htk, List.nodup_append] at h2'
      exact h2'.2.2 _ hc _ (List.mem_singleton.2 rfl) rfl
    have lo := delA_ok LO (ds.take i)
    have hol := lo.len
    obtain ⟨p', n', c', q', m', d', O, w, s⟩ := u
    have e10 : ∀ (nb : Nat) (h' : Hp) (p2 : Option Addr) (n2 c2 : Nat) (q2 : Option Addr) (m2 d2 : Nat) (O1 O2 : Bag), ds.getD i 0 ∈ L.map Prod.fst → Sl TI p2 n2 c2 ((delA L (ds.take (i + 1))).map Prod.fst) O1 → Sl tRec q2 m2 d2 ((delA L (ds.take (i + 1))).map Prod.snd) O2 →
        St h h' (cA nb (tb50 p2 n2 c2 q2 m2 d2 nx) 29 + ((O1 + O2) + (cA b3 (tb50 p' n' c' q' m' d' nx) 29 + (O + (cA b1 (tb50 p n c q m d nx) 29 + (cA b2 (tb50 none 0 0 none 0 0 0) 29 + G)))))) →
        r50_Batch_b10 dp dn dc ip im ic (some ⟨b1, 0, none⟩) (some ⟨b2, 0, none⟩) (some ⟨b3, 0, none⟩) (i : Int) (some ⟨nb, 0, none⟩) 0 h' (fun s' h' => (∃ i : Nat, s'.1 = i ∧ i ≤ dn ∧ (∀ j, j < i → ds.getD j 0 ∈ L.map Prod.fst) ∧ UIn h b1 b2 b3 p n c q m d L nx (delA L (ds.take i)) nx G h') ∧ (dn - s'.1).toNat < (dn - (i : Int)).toNat) (BatRQ h p n c q m d L nx ds ins) := fun nb h' p2 n2 c2 q2 m2 d2 O1 O2 hm o1 o2 s => by
      rw [r50_Batch_b10_eq]
      refine condNo rfl ⟨_, _, _, _, _, _, _, s.ld0, s.ldB, s.ldB, s.wr3 fun h3 s => ?_⟩
      rw [r50_Batch_b12_eq]
      refine ⟨⟨by omega, by omega⟩, ⟨i + 1, by push_cast; rfl, by omega, fun j hj => ?_, p2, n2, c2, q2, m2, d2, O1 + O2, .inr ⟨O1, O2, o1, o2, rfl⟩, ?_⟩, by dsimp only; omega⟩
      · rcases Nat.lt_or_ge j i with h | h
        · exact hok j h
        · obtain rfl : j = i := by omega
          exact hm
      · exact ((((s.find nb).drop).to (B := O + (cA b3 (tb50 p2 n2 c2 q2 m2 d2 nx) 29 + ((O1 + O2) + (cA b1 (tb50 p n c q m d nx) 29 + (cA b2 (tb50 none 0 0 none 0 0 0) 29 + G)))))).drop)
    have er : ∀ (nb : Nat) (h' : Hp), ds.getD i 0 ∉ L.map Prod.fst → St h h' (cA nb (tb50 p' n' c' q' m' d' nx) 29 + (cA b3 (tb50 p' n' c' q' m' d' nx) 29 + (O + (cA b1 (tb50 p n c q m d nx) 29 + (cA b2 (tb50 none 0 0 none 0 0 0) 29 + G))))) →
        r50_Batch_b10 dp dn dc ip im ic (some ⟨b1, 0, none⟩) (some ⟨b2, 0, none⟩) (some ⟨b3, 0, none⟩) (i : Int) (some ⟨nb, 0, none⟩) 12 h' (fun s' h' => (∃ i : Nat, s'.1 = i ∧ i ≤ dn ∧ (∀ j, j < i → ds.getD j 0 ∈ L.map Prod.fst) ∧ UIn h b1 b2 b3 p n c q m d L nx (delA L (ds.take i)) nx G h') ∧ (dn - s'.1).toNat < (dn - (i : Int)).toNat) (BatRQ h p n c q m d L nx ds ins) := fun nb h' hm s => by
      rw [r50_Batch_b10_eq]
      refine condYes rfl ⟨_, _, _, _, _, _, _, s.ld0, s.ldB, s.ldB, s.wr3 fun h5 s => ⟨_, _, _, _, _, _, _, s.ld0, s.ldB, s.ldB, .inl ⟨12, BE.non h1v h2v ⟨ds.getD i 0, by rw [getD_get hil]; exact List.getElem_mem hil, hm⟩, by decide, rfl, s.ext⟩⟩⟩
    rw [htk, delA_snoc] at e10
    obtain ⟨q1, q2, q3, q4⟩ := w.rd r1 r2 hc hdm (s.at O)
    have hl := q1.len
    rw [List.length_map] at hl
    refine ⟨_, _, _, _, _, _, _, s.ld0, s.ldB, s.ldB, ldIc (rd.ext s.ext) (by omega) fun ad c0 => ⟨?_, ?_⟩⟩
    · refine (Delete_r q1 q2 q3 q4 (by omega) lo.ids (ds.getD i 0)).mono fun w1 h3 hw => ?_
      rcases hw with ⟨hno, rfl, x3⟩ | ⟨hm, p2, n2, c2, q2, m2, d2, O1, O2, rfl, o1, o2, st⟩
      · have s := s.grow x3
        exact ⟨_, _, _, _, _, _, _, _, rfl, s.new (cs := [_, _, _]) fun nb h4 _ s => s.wr3 fun h5 s => er nb h5 (fun hm => hno (delA_ids.2 ⟨hm, hnt⟩)) s⟩
      · have s := s.join st
        exact ⟨_, _, _, _, _, _, _, _, rfl, s.new (cs := [_, _, _]) fun nb h4 _ s => s.wr3 fun h5 s => e10 nb h5 p2 n2 c2 q2 m2 d2 O1 O2 (delA_ids.1 hm).1 o1 o2 s⟩
    · refine s.new (cs := [_, _, _]) fun nb h4 x4 s => ⟨⟨_, x4.cell c0, rfl⟩, ⟨_, _, _, _, _, _, _, s.ld0, s.ldB, s.ldB, rfl⟩, ?_⟩
      refine (Delete_r (q1.ext x4) (q2.ext x4) q3 q4 (by omega) lo.ids (ds.getD i 0)).mono fun w1 h3 hw => ?_
      rcases hw with ⟨hno, rfl, x3⟩ | ⟨hm, p2, n2, c2, q2, m2, d2, O1, O2, rfl, o1, o2, st⟩
      · have s := s.grow x3
        exact ⟨_, _, _, _, _, _, _, _, rfl, s.wr3 fun h5 s => er nb h5 (fun hm => hno (delA_ids.2 ⟨hm, hnt⟩)) s⟩
      · have s := s.join st
        exact ⟨_, _, _, _, _, _, _, _, rfl, s.wr3 fun h5 s => e10 nb h5 p2 n2 c2 q2 m2 d2 O1 O2 (delA_ids.1 hm).1 o1 o2 s.to⟩
  · obtain rfl : i = dn := by omega
    rw [List.take_of_length_le (by omega)] at u
    refine btR11 LO r1 r2 hc hdm ri hnx him hkn h1v h2v (fun d hd => ?_) u
    obtain ⟨j, hj, rfl⟩ := List.getElem_of_mem hd
    have := hok j (by omega)
    rwa [getD_get hj] at this
theorem btR3 (LO : LOk L nx) (r1 : RdT TI h p n (L.map Prod.fst)) (r2 : RdT tRec h q m (L.map Prod.snd)) (hc : n ≤ c) (hdm : m ≤ d) (rd : RdT TI h dp dn ds) (ri : RdT tRec h ip im ins) (hnx : nx ≤ 900000) (hdn : dn ≤ 1000000) (him : im ≤ 1000000) (hkn : (keysL L).Nodup) (h1v : ∀ r ∈ ins, vRec r = true)
    (s : St h h1 (cA b1 (tb50 p n c q m d nx) 29 + (cA b2 (tb50 none 0 0 none 0 0 0) 29 + G))) :
    r50_Batch_b3 dp dn dc ip im ic (some ⟨b1, 0, none⟩) (some ⟨b2, 0, none⟩) h1 (BatRQ h p n c q m d L nx ds ins) := by
  have hld := rd.len
  rw [r50_Batch_b3_eq]
  refine ⟨fun x h' => h' = h1 ∧ ∃ i : Nat, x.1 = i ∧ i ≤ dn ∧ ∀ j, j < i → ∀ k, k < j → ds.getD k 0 ≠ ds.getD j 0, fun x _ => (dn - x.1).toNat, ⟨rfl, 0, rfl, Nat.zero_le _, fun j hj => absurd hj (Nat.not_lt_zero _)⟩, ?_⟩
  rintro ⟨z, _⟩ h2 ⟨rfl, i, hz, hi, hok⟩
  dsimp only at hz ⊢
  subst hz
  rw [r50_Batch_b4_eq]
  refine condP (fun hlt => ?_) (fun hge => ?_)
  · refine ⟨fun x h' => h' = h2 ∧ ∃ k : Nat, x.1 = k ∧ k ≤ i ∧ ∀ j, j < k → ds.getD j 0 ≠ ds.getD i 0, fun x _ => (i - x.1).toNat, ⟨rfl, 0, rfl, Nat.zero_le _, fun j hj => absurd hj (Nat.not_lt_zero _)⟩, ?_⟩
    rintro ⟨z, _⟩ h4 ⟨rfl, k, hz, hki, hno⟩
    dsimp only at hz ⊢
    subst hz
    rw [r50_Batch_b5_eq]
    refine condP (fun hlt2 => ?_) (fun hge2 => ?_)
    · refine ldI (i' := k) (rd.ext s.ext) rfl (by omega) (ldI (i' := i) (rd.ext s.ext) rfl (by omega) (condP (fun he => ?_) (fun he => ?_)))
      · refine ⟨_, _, _, _, _, _, _, s.ld0, s.ldB, s.ldB, s.wr3 fun h5 s => ⟨_, _, _, _, _, _, _, s.ld0, s.ldB, s.ldB, .inl ⟨10, BE.twice h1v fun hn => ?_, by decide, rfl, s.ext⟩⟩⟩
        have := List.pairwise_iff_getElem.1 (List.nodup_iff_pairwise_ne.1 hn) k i (by omega) (by omega) (by omega)
        rw [getD_get (by omega), getD_get (by omega)] at he
        exact this he
      · rw [r50_Batch_b7_eq]
        refine ⟨⟨by omega, by omega⟩, ⟨rfl, k + 1, by push_cast; rfl, by omega, fun j hj => ?_⟩, by dsimp only; omega⟩
        rcases Nat.lt_or_ge j k with h | h
        · exact hno j h
        · obtain rfl : j = k := by omega
          exact he
    · obtain rfl : k = i := by omega
      rw [r50_Batch_b8_eq]
      refine ⟨⟨by omega, by omega⟩, ⟨rfl, k + 1, by push_cast; rfl, by omega, fun j hj => ?_⟩, by dsimp only; omega⟩
      rcases Nat.lt_or_ge j k with h | h
      · exact hok j h
      · obtain rfl : j = k := by omega
        exact hno
  · obtain rfl : i = dn := by omega
    refine btR6 LO r1 r2 hc hdm rd ri hnx hdn him hkn h1v ?_ s
    rw [List.nodup_iff_pairwise_ne, List.pairwise_iff_getElem]
    intro k j hk hj hkj
    have := hok j (by omega) k hkj
    rwa [getD_get hk, getD_get hj] at this
theorem Batch_r (LO : LOk L nx) (r1 : RdT TI h p n (L.map Prod.fst)) (r2 : RdT tRec h q m (L.map Prod.snd)) (hc : n ≤ c) (hdm : m ≤ d) (rd : RdT TI h dp dn ds) (ri : RdT tRec h ip im ins) (hnx : nx ≤ 900000) (hdn : dn ≤ 1000000) (him : im ≤ 1000000) (hkn : (keysL L).Nodup) :
    HCalls Tryz.prog 62 #[encT p n c q m d nx, .slice dp dn dc, .slice ip im ic] h (BatRQ h p n c q m d L nx ds ins) := by
  have hli := ri.len
  refine r50_Batch_call ?_
  rw [r50_Batch_b0_eq]
  refine (St.start h).new (cs := [_, _, _]) fun b1 h1 _ s => s.new (cs := [_, _, _]) fun b2 h2 _ s => ?_
  refine ⟨fun x h' => ∃ i : Nat, x.1 = i ∧ i ≤ im ∧ (∀ r ∈ ins.take i, vRec r = true) ∧ St h h' (cA b1 (tb50 p n c q m d nx) 29 + (cA b2 (tb50 none 0 0 none 0 0 0) 29 + 0)), fun x _ => (im - x.1).toNat, ⟨0, rfl, Nat.zero_le _, fun r hr => by simp at hr, s.to⟩, ?_⟩
  clear s
  rintro ⟨z, _⟩ h3 ⟨i, hz, hi, hok, s⟩
  dsimp only at hz ⊢
  subst hz
  rw [r50_Batch_b1_eq]
  refine condP (fun hlt => ?_) (fun hge => ?_)
  · have hil : i < ins.length := by omega
    have htk : ins.take (i + 1) = ins.take i ++ [ins.getD i tRec.d] := by rw [getD_get hil, List.take_succ_eq_append_getElem hil]
    refine rec_rd (ri.ext s.ext) (by omega) fun ad _ => ?_
    refine (Valid_r (ins.getD i tRec.d) h3).mono fun v h4 ⟨x4, hv⟩ => ⟨_, hv, ?_⟩
    have s := s.grow x4
    refine cond_intro (fun hb => ?_) (fun hb => ?_)
    · exact ⟨_, _, _, _, _, _, _, s.ld0, s.ldB, s.ldB, s.wr3 fun h5 s => ⟨_, _, _, _, _, _, _, s.ld0, s.ldB, s.ldB, .inl ⟨1, BE.arg ⟨ins.getD i tRec.d, by rw [getD_get hil]; exact List.getElem_mem hil, by simpa using hb⟩, by decide, rfl, s.ext⟩⟩⟩
    · rw [r50_Batch_b2_eq]
      refine ⟨⟨by omega, by omega⟩, ⟨i + 1, by push_cast; rfl, by omega, fun r hr => ?_, s⟩, by dsimp only; omega⟩
      rw [htk, List.mem_append, List.mem_singleton] at hr
      rcases hr with hr | rfl
      · exact hok r hr
      · simpa using hb
  · obtain rfl : i = im := by omega
    rw [List.take_of_length_le (by omega)] at hok
    exact btR3 LO r1 r2 hc hdm rd ri hnx hdn him hkn hok s
end
end Go.Proofs.YtfkccighnkepgaaGreat

/- Plain lists: stable sorting. -/
namespace Go.Sx
variable {α : Type} {d : α}
/-- Whether an element is like another one. -/
noncomputable def like (lt : α → α → Prop) (z y : α) : Bool := @decide (¬ lt y z ∧ ¬ lt z y) (Classical.propDecidable _)
/-- The same elements; those that are alike in the same order. -/
def Stb (lt : α → α → Prop) (xs ys : List α) : Prop := ys.Perm xs ∧ ∀ z, ys.filter (like lt z) = xs.filter (like lt z)
theorem Stb.refl {lt : α → α → Prop} (xs : List α) : Stb lt xs xs := ⟨.refl _, fun _ => rfl⟩
theorem Stb.trans {lt : α → α → Prop} {xs ys zs : List α} (h1 : Stb lt xs ys) (h2 : Stb lt ys zs) : Stb lt xs zs := ⟨h2.1.trans h1.1, fun z => (h2.2 z).trans (h1.2 z)⟩
section
variable {lt : α → α → Prop} (o : OrdP lt)
end
end Go.Sx

/- Plain lists: merging of sorted ranges, the steps. -/
namespace Go.Sx
variable {α : Type} {d : α} {lt : α → α → Prop}
end Go.Sx
namespace Go.Sx
variable {α : Type} {d : α} {lt : α → α → Prop}
end Go.Sx

/- Sorting by insertion, in plain lists. -/
namespace Go.Sx
end Go.Sx

/- The reference: by key; Join. -/
set_option maxRecDepth 100000
namespace Go.Proofs.YtfkccighnkepgaaGreat
open Go Go.Sx
section
variable {h : Hp} {p q : Option Addr} {n c m d : Nat} {nx : Int} {L : List LRow}
end
end Go.Proofs.YtfkccighnkepgaaGreat

/- The reference: Join; the chapter's example; great calls. -/
set_option maxRecDepth 100000
namespace Go.Proofs.YtfkccighnkepgaaGreat
open Go Go.Sx
theorem ByK.uniq {L : List LRow} {nx fr to : Int} {l l' : List Int} (o : LOk L nx) (hk : (keysL L).Nodup) (a : ByK L fr to l) (b : ByK L fr to l') : l = l' := by
  refine List.Perm.eq_of_pairwise (fun x y hx hy h1 h2 => ?_) a.2 b.2 (a.1.trans b.1.symm)
  obtain ⟨ex, hex, rfl⟩ := List.mem_map.1 (a.1.mem_iff.1 hx)
  obtain ⟨ey, hey, rfl⟩ := List.mem_map.1 (b.1.mem_iff.1 hy)
  have hex := (List.mem_filter.1 hex).1
  have hey := (List.mem_filter.1 hey).1
  rw [recL_mem o.ids hex, recL_mem o.ids hey] at h1 h2
  rw [nodup_inj (f := fun x : LRow => x.2.1) hk hex hey (Int.le_antisymm h1 h2)]
section
variable {h : Hp} {p q : Option Addr} {n c m d : Nat} {nx : Int} {L : List LRow} {p' q' : Option Addr} {n' c' m' d' : Nat} {ny : Int} {M : List LRow}
end
end Go.Proofs.YtfkccighnkepgaaGreat

/- What each change does, as a function; of the table and of the reference. -/
set_option maxRecDepth 100000
namespace Go.Proofs.YtfkccighnkepgaaGreat
open Go Go.Sx
abbrev LS := List LRow × Int
def insP (L : List LRow) (nx : Int) (r : Rec) : LS × Int × Int :=
  if vRec r = false then ((L, nx), 0, 1) else if r.1 ∈ keysL L then ((L, nx), 0, 15) else if 1000 ≤ L.length then ((L, nx), 0, 4) else ((L ++ [(nx, r)], nx + 1), nx, 0)
def updP (L : List LRow) (id : Int) (r : Rec) : List LRow × Int :=
  if vRec r = false then (L, 1) else if id ∉ L.map Prod.fst then (L, 12) else if (∃ x ∈ L, x.2.1 = r.1 ∧ x.1 ≠ id) then (L, 15) else (updL L id r, 0)
def delP (L : List LRow) (id : Int) : List LRow × Int := if id ∉ L.map Prod.fst then (L, 12) else (delL L id, 0)
def batE (L : List LRow) (ds : List Int) (ins : List Rec) : Int :=
  if (∃ r ∈ ins, vRec r = false) then 1 else if ¬ ds.Nodup then 10 else if (∃ d ∈ ds, d ∉ L.map Prod.fst) then 12 else if ¬ (keysL (delA L ds) ++ ins.map fun r => r.1).Nodup then 15 else if 1000 < (delA L ds).length + ins.length then 4 else 0
theorem batE_ok (L : List LRow) (ds : List Int) (ins : List Rec) : BE L ds ins (batE L ds ins) := by
  unfold batE
  by_cases h1 : ∃ r ∈ ins, vRec r = false
  · rw [if_pos h1]; exact BE.arg h1
  rw [if_neg h1]
  have h1' : ∀ r ∈ ins, vRec r = true := fun r hr => Classical.byContradiction fun hc => h1 ⟨r, hr, by simpa using hc⟩
  by_cases h2 : ds.Nodup
  · rw [if_neg (fun h => h h2)]
    by_cases h3 : ∃ d ∈ ds, d ∉ L.map Prod.fst
    · rw [if_pos h3]; exact BE.non h1' h2 h3
    rw [if_neg h3]
    have h3' : ∀ d ∈ ds, d ∈ L.map Prod.fst := fun d hd => Classical.byContradiction fun hc => h3 ⟨d, hd, hc⟩
    by_cases h4 : (keysL (delA L ds) ++ ins.map fun r => r.1).Nodup
    · rw [if_neg (fun h => h h4)]
      by_cases h5 : 1000 < (delA L ds).length + ins.length
      · rw [if_pos h5]; exact BE.ful h1' h2 h3' h4 h5
      · rw [if_neg h5]; exact BE.okk h1' h2 h3' h4 (by omega)
    · rw [if_pos h4]; exact BE.exi h1' h2 h3' h4
  · rw [if_pos h2]; exact BE.twice h1' h2
def batP (L : List LRow) (nx : Int) (ds : List Int) (ins : List Rec) : LS × List Int := if batE L ds ins = 0 then ((batL L nx ds ins, nx + (ins.length : Nat)), (numL nx ins).map Prod.fst) else ((L, nx), [])
abbrev Stp := Int × Int × Rec × List Int × List Rec
def stepP (s : LS) (x : Stp) : LS :=
  if x.1 % 4 = 0 then (insP s.1 s.2 x.2.2.1).1 else if x.1 % 4 = 1 then ((updP s.1 x.2.1 x.2.2.1).1, s.2) else if x.1 % 4 = 2 then ((delP s.1 x.2.1).1, s.2) else (batP s.1 s.2 x.2.2.2.1 x.2.2.2.2).1
section
variable {h0 h : Hp} {tb : Nat} {L : List LRow} {nx : Int} {A G : Bag}
theorem vnot1 {r : Rec} (h : vRec r = true) : ¬ vRec r = false := by rw [h]; decide
theorem Insert_S (a : TabS tb L nx A) (s : St h0 h (A + G)) (hnx : nx ≤ 1000000) (r : Rec) :
    HCalls Tryz.prog 21 #[ptr tb, encR r] h (fun v h' => v = .tuple #[.int .i64 (insP L nx r).2.1, .int .i64 (insP L nx r).2.2] ∧ ∃ A', TabS tb (insP L nx r).1.1 (insP L nx r).1.2 A' ∧ St h0 h' (A' + G)) := by
  refine (Insert_s a s hnx r).mono fun v h' hv => ?_
  unfold insP
  rcases hv with ⟨h1, rfl, s⟩ | ⟨h1, h2, rfl, s⟩ | ⟨h1, h2, h3, rfl, s⟩ | ⟨h1, h2, h3, rfl, A', a', s⟩
  · rw [if_pos h1]; exact ⟨rfl, A, a, s⟩
  · rw [if_neg (vnot1 h1), if_pos (show r.1 ∈ keysL L from h2)]; exact ⟨rfl, A, a, s⟩
  · rw [if_neg (vnot1 h1), if_neg (show r.1 ∉ keysL L from h2), if_pos h3]; exact ⟨rfl, A, a, s⟩
  · rw [if_neg (vnot1 h1), if_neg (show r.1 ∉ keysL L from h2), if_neg (by omega)]; exact ⟨rfl, A', a', s⟩
theorem Update_S (a : TabS tb L nx A) (s : St h0 h (A + G)) (id : Int) (r : Rec) :
    HCalls Tryz.prog 19 #[ptr tb, .int .i64 id, encR r] h (fun v h' => v = .int .i64 (updP L id r).2 ∧ ∃ A', TabS tb (updP L id r).1 nx A' ∧ St h0 h' (A' + G)) := by
  refine (Update_s a s id r).mono fun v h' hv => ?_
  unfold updP
  rcases hv with ⟨h1, rfl, s⟩ | ⟨h1, h2, rfl, s⟩ | ⟨h1, h2, h3, rfl, s⟩ | ⟨h1, h2, h3, rfl, A', a', s⟩
  · rw [if_pos h1]; exact ⟨rfl, A, a, s⟩
  · rw [if_neg (vnot1 h1), if_pos h2]; exact ⟨rfl, A, a, s⟩
  · rw [if_neg (vnot1 h1), if_neg (fun h => h h2), if_pos h3]; exact ⟨rfl, A, a, s⟩
  · rw [if_neg (vnot1 h1), if_neg (fun h => h h2), if_neg (by rintro ⟨x, hx, hk, hne⟩; exact hne (h3 x hx hk))]; exact ⟨rfl, A', a', s⟩
theorem Delete_S (a : TabS tb L nx A) (s : St h0 h (A + G)) (id : Int) :
    HCalls Tryz.prog 26 #[ptr tb, .int .i64 id] h (fun v h' => v = .int .i64 (delP L id).2 ∧ ∃ A', TabS tb (delP L id).1 nx A' ∧ St h0 h' (A' + G)) := by
  refine (Delete_s a s id).mono fun v h' hv => ?_
  unfold delP
  rcases hv with ⟨h1, rfl, rfl⟩ | ⟨h1, rfl, A', a', s⟩
  · rw [if_pos h1]; exact ⟨rfl, A, a, s⟩
  · rw [if_neg (fun h => h h1)]; exact ⟨rfl, A', a', s⟩
variable {ds : List Int} {ins : List Rec} {dp ip : Option Addr} {dn dc im ic : Nat}
theorem Batch_S (a : TabS tb L nx A) (s : St h0 h (A + G)) (r1 : RdT TI h0 dp dn ds) (r2 : RdT tRec h0 ip im ins) (hnx : nx ≤ 1000000) (hdn : dn ≤ 1000000) (him : im ≤ 1000000) :
    HCalls Tryz.prog 22 #[ptr tb, .slice dp dn dc, .slice ip im ic] h (fun v h' => ∃ q m d B A', v = .tuple #[.slice q m d, .int .i64 (batE L ds ins)] ∧ Sl TI q m d (batP L nx ds ins).2 B ∧ TabS tb (batP L nx ds ins).1.1 (batP L nx ds ins).1.2 A' ∧ St h0 h' (B + (A' + G))) := by
  refine (Batch_s a s r1 r2 hnx hdn him).mono fun v h' hv => ?_
  unfold batP
  rcases hv with ⟨e, h1, h2, rfl, s⟩ | ⟨h1, q, m, d, B, A', rfl, o, a', s⟩
  · obtain rfl := h1.uniq (batE_ok L ds ins)
    rw [if_neg h2]
    exact ⟨_, _, _, 0, A, rfl, Sl.nil, a, by rw [Bag.zero_add]; exact s⟩
  · have := h1.uniq (batE_ok L ds ins)
    rw [← this, if_pos rfl]
    exact ⟨q, m, d, B, A', rfl, o, a', s⟩
variable {v : Value} {O : Bag}
theorem Insert_R (rs : RefS v L nx O) (o : LOk L nx) (s : St h0 h (O + G)) (hnx : nx ≤ 1000000) (r : Rec) :
    HCalls Tryz.prog 59 #[v, encR r] h (fun w h' => ∃ v' O', w = .tuple #[v', .int .i64 (insP L nx r).2.1, .int .i64 (insP L nx r).2.2] ∧ RefS v' (insP L nx r).1.1 (insP L nx r).1.2 O' ∧ St h0 h' (O' + G)) := by
  refine (Insert_r (rs.rd s) o hnx r).mono fun w h' hw => ?_
  unfold insP
  rcases hw with ⟨h1, rfl, x⟩ | ⟨h1, h2, rfl, x⟩ | ⟨h1, h2, h3, rfl, x⟩ | ⟨h1, h2, h3, v', O', rfl, rs', st⟩
  · rw [if_pos h1]; exact ⟨v, O, rfl, rs, s.grow x⟩
  · rw [if_neg (vnot1 h1), if_pos h2]; exact ⟨v, O, rfl, rs, s.grow x⟩
  · rw [if_neg (vnot1 h1), if_neg h2, if_pos h3]; exact ⟨v, O, rfl, rs, s.grow x⟩
  · rw [if_neg (vnot1 h1), if_neg h2, if_neg (by omega)]
    exact ⟨v', O', rfl, rs', ((s.join st).to (B := O + (O' + G))).drop⟩
theorem Update_R (rs : RefS v L nx O) (o : LOk L nx) (s : St h0 h (O + G)) (id : Int) (r : Rec) :
    HCalls Tryz.prog 60 #[v, .int .i64 id, encR r] h (fun w h' => ∃ v' O', w = .tuple #[v', .int .i64 (updP L id r).2] ∧ RefS v' (updP L id r).1 nx O' ∧ St h0 h' (O' + G)) := by
  have rs0 := rs
  obtain ⟨p, n, c, q, m, d, O1, O2, rfl, o1, o2, rfl⟩ := rs
  refine (Update_r (o1.rd (s.to (B := O1 + (O2 + G)))) (o2.rd (s.to (B := O2 + (O1 + G)))) o id r).mono fun w h' hw => ?_
  unfold updP
  rcases hw with ⟨h1, rfl, x⟩ | ⟨h1, h2, rfl, x⟩ | ⟨h1, h2, h3, rfl, x⟩ | ⟨h1, h2, h3, q', m', d', O3, rfl, o3, st⟩
  · rw [if_pos h1]; exact ⟨_, _, rfl, rs0, s.grow x⟩
  · rw [if_neg (vnot1 h1), if_pos h2]; exact ⟨_, _, rfl, rs0, s.grow x⟩
  · rw [if_neg (vnot1 h1), if_neg (fun h => h h2), if_pos h3]; exact ⟨_, _, rfl, rs0, s.grow x⟩
  · rw [if_neg (vnot1 h1), if_neg (fun h => h h2), if_neg (by rintro ⟨x, hx, hk, hne⟩; exact hne (h3 x hx hk))]
    exact ⟨_, _, rfl, ⟨_, _, _, _, _, _, O1, O3, rfl, by rw [upd_ids]; exact o1, o3, rfl⟩, ((s.join st).to (B := O2 + (O1 + O3 + G))).drop⟩
theorem Delete_R (rs : RefS v L nx O) (o : LOk L nx) (s : St h0 h (O + G)) (id : Int) :
    HCalls Tryz.prog 61 #[v, .int .i64 id] h (fun w h' => ∃ v' O', w = .tuple #[v', .int .i64 (delP L id).2] ∧ RefS v' (delP L id).1 nx O' ∧ St h0 h' (O' + G)) := by
  have rs0 := rs
  have hol := o.len
  obtain ⟨p, n, c, q, m, d, O1, O2, rfl, o1, o2, rfl⟩ := rs
  have hl := o1.len
  rw [List.length_map] at hl
  refine (Delete_r (o1.rd (s.to (B := O1 + (O2 + G)))) (o2.rd (s.to (B := O2 + (O1 + G)))) o1.cap o2.cap (by omega) o.ids id).mono fun w h' hw => ?_
  unfold delP
  rcases hw with ⟨h1, rfl, x⟩ | ⟨h1, p', n', c', q', m', d', O3, O4, rfl, o3, o4, st⟩
  · rw [if_pos h1]; exact ⟨_, _, rfl, rs0, s.grow x⟩
  · rw [if_neg (fun h => h h1)]
    exact ⟨_, _, rfl, ⟨_, _, _, _, _, _, O3, O4, rfl, o3, o4, rfl⟩, ((s.join st).to (B := (O1 + O2) + (O3 + O4 + G))).drop⟩
theorem Batch_R (rs : RefS v L nx O) (o : LOk L nx) (hkn : (keysL L).Nodup) (s : St h0 h (O + G)) (r1 : RdT TI h0 dp dn ds) (r2 : RdT tRec h0 ip im ins) (hnx : nx ≤ 900000) (hdn : dn ≤ 1000000) (him : im ≤ 1000000) :
    HCalls Tryz.prog 62 #[v, .slice dp dn dc, .slice ip im ic] h (fun w h' => ∃ v' O' q m d B, w = .tuple #[v', .slice q m d, .int .i64 (batE L ds ins)] ∧ Sl TI q m d (batP L nx ds ins).2 B ∧ RefS v' (batP L nx ds ins).1.1 (batP L nx ds ins).1.2 O' ∧ St h0 h' (B + (O' + G))) := by
  have rs0 := rs
  obtain ⟨p, n, c, q, m, d, O1, O2, rfl, o1, o2, rfl⟩ := rs
  refine (Batch_r o (o1.rd (s.to (B := O1 + (O2 + G)))) (o2.rd (s.to (B := O2 + (O1 + G)))) o1.cap o2.cap (r1.ext s.ext) (r2.ext s.ext) hnx hdn him hkn).mono fun w h' hw => ?_
  unfold batP
  rcases hw with ⟨e, h1, h2, rfl, x⟩ | ⟨h1, p', n', c', q', m', d', O', oq, om, od, B, rfl, ob, hw, st⟩
  · obtain rfl := h1.uniq (batE_ok L ds ins)
    rw [if_neg h2]
    exact ⟨_, _, _, _, _, 0, rfl, Sl.nil, rs0, by rw [Bag.zero_add]; exact s.grow x⟩
  · have := h1.uniq (batE_ok L ds ins)
    rw [← this, if_pos rfl]
    have s := s.join st
    rcases hw with ⟨rfl, rfl, rfl, rfl, rfl, rfl, hL, hn, rfl⟩ | ⟨O3, O4, o3, o4, rfl⟩
    · refine ⟨_, O1 + O2, _, _, _, B, rfl, ob, ?_, s.to⟩
      dsimp only
      rw [hL]
      rw [hn]
      exact rs0
    · exact ⟨_, _, _, _, _, B, rfl, ob, ⟨_, _, _, _, _, _, O3, O4, rfl, o3, o4, rfl⟩, (s.to (B := (O1 + O2) + (B + (O3 + O4 + G)))).drop⟩
end
end Go.Proofs.YtfkccighnkepgaaGreat

/- A call does with a table what it does with the reference. -/
set_option maxRecDepth 100000
namespace Go.Proofs.YtfkccighnkepgaaGreat
open Go Go.Sx
def DoQ (h0 : Hp) (tb : Nat) (st : LS) (G : Bag) (w : Value) (h' : Hp) : Prop := ∃ v' O' A', w = .tuple #[v', .bool true] ∧ RefS v' st.1 st.2 O' ∧ TabS tb st.1 st.2 A' ∧ St h0 h' (A' + (O' + G))
theorem bat_len (L : List LRow) (nx : Int) (ds : List Int) (ins : List Rec) : (batP L nx ds ins).2.length ≤ ins.length := by
  unfold batP
  split
  · rw [List.length_map, numL_len]; exact Nat.le_refl _
  · exact Nat.zero_le _
abbrev encSt (k id : Int) (r : Rec) (dp : Option Addr) (dn dc : Nat) (ip : Option Addr) (im ic : Nat) : Value := .agg #[.int .u8 k, .int .i64 id, .int .i64 r.1, .int .i64 r.2.1, .int .i64 r.2.2.1, .int .i64 r.2.2.2.1, .string r.2.2.2.2, .slice dp dn dc, .slice ip im ic]
section
variable {h0 h : Hp} {tb : Nat} {L : List LRow} {nx : Int} {A O G : Bag} {v : Value} {k id : Int} {r : Rec} {ds : List Int} {ins : List Rec} {dp ip : Option Addr} {dn dc im ic : Nat}
set_option maxHeartbeats 8000000 in
theorem do_ok (a : TabS tb L nx A) (rs : RefS v L nx O) (s : St h0 h (A + (O + G))) (hnx : nx ≤ 800000) (hk0 : 0 ≤ k) (r1 : RdT TI h0 dp dn ds) (r2 : RdT tRec h0 ip im ins) (hdn : dn ≤ 20) (him : im ≤ 20) :
    HCalls Tryz.prog 34 #[ptr tb, v, encSt k id r dp dn dc ip im ic] h (DoQ h0 tb (stepP (L, nx) (k, id, r, ds, ins)) G) := by
  have lo := a.ok
  have hkn := a.keys
  have rs0 := rs
  obtain ⟨p, n, c, q, m, d, O1, O2, rfl, o1, o2, hO⟩ := rs
  refine l50_do_call ?_
  rw [l50_do_b0_eq]
  refine s.new (cs := [_, _, _]) fun b1 h1 _ s => s.new (cs := [_, _, _, _, _, _, _, _, _]) fun b2 h2 _ s => s.new (cs := [_, _, _]) fun b3 h3 _ s => ⟨_, s.ld0, rem_intro hk0 (by decide) (condP (fun c0 => ?_) (fun c0 => condP (fun c1 => ?_) (fun c1 => condP (fun c2 => ?_) (fun c2 => ?_))))⟩
  · have e : stepP (L, nx) (k, id, r, ds, ins) = (insP L nx r).1 := if_pos c0
    rw [e]
    refine ⟨_, _, _, _, _, _, _, s.ld0, s.ldB, s.ldB, _, _, _, _, _, s.ldB, ldC s, ldC s, ldC s, ldC s, (Insert_R rs0 lo (s.at O) (by omega) r).mono fun w1 h4 ⟨v', O', hw1, rs', s⟩ => ?_⟩
    have rs1 := rs'
    obtain ⟨p2, n2, c2, q2, m2, d2, X1, X2, rfl, x1, x2, hX⟩ := rs'
    refine ⟨_, _, _, _, _, _, _, _, _, hw1, s.new (cs := [_, _, _]) fun b4 h5 _ s => s.wr3 fun h6 s => ?_⟩
    refine ⟨_, _, _, _, _, s.ldB, ldC s, ldC s, ldC s, ldC s, (Insert_S a (s.at A) (by omega) r).mono fun w2 h7 ⟨hw2, A', a', s⟩ => ⟨_, _, hw2, _, _, _, _, _, _, _, s.ld0, s.ldB, s.ldB, condYes (decide_eq_true rfl) ?_⟩⟩
    refine s.wr3 fun h8 s => ⟨_, _, _, _, _, _, _, s.ld0, s.ldB, s.ldB, _, O', A', by rw [decide_eq_true rfl], rs1, a', ?_⟩
    exact ((((s.find b1).drop.find b2).drop.find b3).drop.find b4).drop.to
  · have e : stepP (L, nx) (k, id, r, ds, ins) = ((updP L id r).1, nx) := (if_neg c0).trans (if_pos c1)
    rw [e]
    refine ⟨_, _, _, _, _, _, _, s.ld0, s.ldB, s.ldB, _, s.ldB, _, _, _, _, _, s.ldB, ldC s, ldC s, ldC s, ldC s, (Update_R rs0 lo (s.at O) id r).mono fun w1 h4 ⟨v', O', hw1, rs', s⟩ => ?_⟩
    have rs1 := rs'
    obtain ⟨p2, n2, c2, q2, m2, d2, X1, X2, rfl, x1, x2, hX⟩ := rs'
    refine ⟨_, _, _, _, _, _, _, _, hw1, s.new (cs := [_, _, _]) fun b4 h5 _ s => s.wr3 fun h6 s => ?_⟩
    refine ⟨_, _, _, _, _, _, _, s.ld0, s.ldB, s.ldB, _, s.ldB, _, _, _, _, _, s.ldB, ldC s, ldC s, ldC s, ldC s, (Update_S a (s.at A) id r).mono fun w2 h7 ⟨hw2, A', a', s⟩ => ⟨_, hw2, ⟨_, _, _, _, _, _, _, s.ld0, s.ldB, s.ldB, rfl⟩, ?_⟩⟩
    refine s.wr3 fun h8 s => ⟨_, _, _, _, _, _, _, s.ld0, s.ldB, s.ldB, _, O', A', by rw [decide_eq_true rfl], rs1, a', ?_⟩
    exact ((((s.find b1).drop.find b2).drop.find b3).drop.find b4).drop.to
  · have e : stepP (L, nx) (k, id, r, ds, ins) = ((delP L id).1, nx) := (if_neg c0).trans ((if_neg c1).trans (if_pos c2))
    rw [e]
    refine ⟨_, _, _, _, _, _, _, s.ld0, s.ldB, s.ldB, _, s.ldB, (Delete_R rs0 lo (s.at O) id).mono fun w1 h4 ⟨v', O', hw1, rs', s⟩ => ?_⟩
    have rs1 := rs'
    obtain ⟨p2, n2, c2, q2, m2, d2, X1, X2, rfl, x1, x2, hX⟩ := rs'
    refine ⟨_, _, _, _, _, _, _, _, hw1, s.new (cs := [_, _, _]) fun b4 h5 _ s => s.wr3 fun h6 s => ?_⟩
    refine ⟨_, _, _, _, _, _, _, s.ld0, s.ldB, s.ldB, _, s.ldB, (Delete_S a (s.at A) id).mono fun w2 h7 ⟨hw2, A', a', s⟩ => ⟨_, hw2, ⟨_, _, _, _, _, _, _, s.ld0, s.ldB, s.ldB, rfl⟩, ?_⟩⟩
    refine s.wr3 fun h8 s => ⟨_, _, _, _, _, _, _, s.ld0, s.ldB, s.ldB, _, O', A', by rw [decide_eq_true rfl], rs1, a', ?_⟩
    exact ((((s.find b1).drop.find b2).drop.find b3).drop.find b4).drop.to
  · have e : stepP (L, nx) (k, id, r, ds, ins) = (batP L nx ds ins).1 := (if_neg c0).trans ((if_neg c1).trans (if_neg c2))
    rw [e, l50_do_b1_eq]
    have hbl := bat_len L nx ds ins
    have hil := r2.len
    refine ⟨_, _, _, _, _, _, _, s.ld0, s.ldB, s.ldB, _, _, _, s.ldB, _, _, _, s.ldB, (Batch_R rs0 lo hkn (s.at O) r1 r2 (by omega) (by omega) (by omega)).mono fun w1 h4 ⟨v', O', q3, m3, d3, B1, hw1, ob, rs', s⟩ => ?_⟩
    have rs1 := rs'
    obtain ⟨p2, n2, c2, q2, m2, d2, X1, X2, rfl, x1, x2, hX⟩ := rs'
    refine ⟨_, _, _, _, _, _, _, _, _, _, _, hw1, s.new (cs := [_, _, _]) fun b4 h5 _ s => s.wr3 fun h6 s => ?_⟩
    refine ⟨_, _, _, s.ldB, _, _, _, s.ldB, (Batch_S a (s.at A) r1 r2 (by omega) (by omega) (by omega)).mono fun w2 h7 ⟨q4, m4, d4, B2, A', hw2, ob2, a', s⟩ => ⟨_, _, _, _, hw2, _, _, _, _, _, _, _, s.ld0, s.ldB, s.ldB, ?_⟩⟩
    have hl3 := ob.len
    refine (EqualI (ob.rd (s.at B1)) (ob2.rd (s.at B2)) (by omega)).mono fun w3 h8 ⟨hh, hw3⟩ => ⟨_, hw3, ?_⟩
    subst hh
    refine ⟨⟨_, _, _, _, _, _, _, s.ld0, s.ldB, s.ldB, rfl⟩, condYes (decide_eq_true rfl) (s.wr3 fun h8 s => ⟨rfl, _, _, _, _, _, _, _, s.ld0, s.ldB, s.ldB, _, O', A', by rw [decide_eq_true rfl], rs1, a', ?_⟩)⟩
    exact (((((s.find b1).drop.find b2).drop.find b3).drop.find b4).drop.to (B := (B1 + B2) + (A' + (O' + G)))).drop
end
end Go.Proofs.YtfkccighnkepgaaGreat

/- The chapter's example; great calls; what is played. -/
set_option maxRecDepth 100000
namespace Go.Proofs.YtfkccighnkepgaaGreat
open Go Go.Sx
abbrev ann : Rec := (5, 1, 2, 3, ⟨#[97, 110, 110]⟩)
abbrev anna : Rec := (4, 2, 2, 1, ⟨#[97, 110, 110, 97]⟩)
abbrev LA : List LRow := [(0, ann), (1, anna)]
theorem ins_ann : insP [] 0 ann = (([(0, ann)], 1), 0, 0) := by kernel_rfl
theorem ins_anna : insP [(0, ann)] 1 anna = ((LA, 2), 1, 0) := by kernel_rfl
theorem byk_LA : ByK LA 0 9 [1, 0] := by
  refine ⟨?_, ?_⟩
  · have e : (LA.filter fun x => decide (0 ≤ x.2.1 ∧ x.2.1 ≤ 9)).map Prod.fst = [0, 1] := by kernel_rfl
    rw [e]
    exact List.Perm.swap _ _ _
  · have e0 : (recL LA 0).1 = 5 := by kernel_rfl
    have e1 : (recL LA 1).1 = 4 := by kernel_rfl
    simp only [List.pairwise_cons, List.mem_singleton, List.not_mem_nil, List.Pairwise.nil, and_true, forall_eq, false_implies, implies_true]
    rw [e0, e1]
    decide
theorem Awake_r (h : Hp) (hm : MaxL h) : HCalls Tryz.prog 5 #[] h (fun v h' => Ext h h' ∧ v = .bool true) := by
  refine l50_awake_call ?_
  rw [l50_awake_b0_eq]
  refine (New_s h).mono fun v h1 ⟨tb, A, hv, a, s⟩ => ⟨_, hv, condNo rfl ?_⟩
  have s : St h h1 (A + 0) := s.to
  refine (Insert_S a s (by decide) ann).mono fun v h2 ⟨hv, A, a, s⟩ => ?_
  rw [ins_ann] at hv a
  refine ⟨_, _, hv, (Insert_S a s (by decide) anna).mono fun v h3 ⟨hv, A, a, s⟩ => ?_⟩
  rw [ins_anna] at hv a
  dsimp only at a
  refine ⟨_, _, hv, (ByKey_s a s 0 9).mono fun v h4 ⟨q1, m1, d1, B1, l1, hv, o1, b1, s⟩ => ⟨_, _, _, _, hv, ?_⟩⟩
  obtain rfl := b1.uniq a.ok a.keys byk_LA
  have s := s.to (B := A + (B1 + 0))
  refine (ByName_s a hm _ s).mono fun v h5 ⟨q2, m2, d2, B2, hv, o2, s⟩ => ⟨_, _, _, _, hv, ?_⟩
  have s := s.to (B := A + (B2 + (B1 + 0)))
  refine (ByName_s a hm _ s).mono fun v h6 ⟨q3, m3, d3, B3, hv, o3, s⟩ => ⟨_, _, _, _, hv, ?_⟩
  have s := s.to (B := A + (B3 + (B2 + (B1 + 0))))
  refine (Weight_s a s 0 5 0 5).mono fun v h7 ⟨hv, s⟩ => ⟨_, _, hv, ?_⟩
  have ew : wgt (LA.filter fun x => inR 0 5 0 5 x.2) = 4 := by kernel_rfl
  have e2 : (LA.filter fun x => Lib.contains x.2.2.2.2.2.data.toList (⟨#[110, 110]⟩ : ByteArray).data.toList).map Prod.fst = [0, 1] := by kernel_rfl
  have e3 : (LA.filter fun x => Lib.contains x.2.2.2.2.2.data.toList (⟨#[110, 97]⟩ : ByteArray).data.toList).map Prod.fst = [1] := by kernel_rfl
  rw [e2] at o2
  rw [e3] at o3
  have hl1 := o1.len
  have hl2 := o2.len
  have hl3 := o3.len
  simp only [List.length_cons, List.length_nil] at hl1 hl2 hl3
  refine condYes rfl (condYes rfl (condYes rfl (condYes rfl (condYes rfl (s.new (cs := [_, _]) fun b h8 _ s => ?_)))))
  have ob : Sl TI (some ⟨b, 0, none⟩) 2 2 [1, 0] (cA b [.int .i64 1, .int .i64 0] 3) := Sl.of_blk (T := TI) rfl rfl
  refine (EqualI (o1.rd (s.at B1)) (ob.rd (s.at (cA b _ _))) (by omega)).mono fun v h9 ⟨hh, hv⟩ => ⟨_, hv, ?_⟩
  subst hh
  refine condYes rfl (condYes rfl (s.new (cs := [_, _]) fun b h8 _ s => ?_))
  have ob : Sl TI (some ⟨b, 0, none⟩) 2 2 [0, 1] (cA b [.int .i64 0, .int .i64 1] 3) := Sl.of_blk (T := TI) rfl rfl
  refine (EqualI (o2.rd (s.at B2)) (ob.rd (s.at (cA b _ _))) (by omega)).mono fun v h9 ⟨hh, hv⟩ => ⟨_, hv, ?_⟩
  subst hh
  refine condYes rfl (condYes rfl (s.new (cs := [_]) fun b h8 _ s => ?_))
  have ob : Sl TI (some ⟨b, 0, none⟩) 1 1 [1] (cA b [.int .i64 1] 3) := Sl.of_blk (T := TI) rfl rfl
  refine (EqualI (o3.rd (s.at B3)) (ob.rd (s.at (cA b _ _))) (by omega)).mono fun v h9 ⟨hh, hv⟩ => ⟨_, hv, ?_⟩
  subst hh
  exact condYes rfl (condYes rfl ⟨s.ext, by rw [ew]; rfl⟩)
/-! ### calls -/
abbrev S9 := Int × Int × Rec × SH × SH
abbrev tS9 : Ty S9 := ⟨68, 9, fun z => [.int .u8 z.1, .int .i64 z.2.1, .int .i64 z.2.2.1.1, .int .i64 z.2.2.1.2.1, .int .i64 z.2.2.1.2.2.1, .int .i64 z.2.2.1.2.2.2.1, .string z.2.2.1.2.2.2.2, .slice z.2.2.2.1.1 z.2.2.2.1.2.1 z.2.2.2.1.2.2, .slice z.2.2.2.2.1 z.2.2.2.2.2.1 z.2.2.2.2.2.2],
  (0, 0, (0, 0, 0, 0, ⟨#[]⟩), (none, 0, 0), (none, 0, 0)), fun _ => rfl, by decide, fun _ v hv => by simp at hv; rcases hv with rfl | rfl | rfl | rfl | rfl | rfl | rfl | rfl | rfl <;> rfl⟩
abbrev dStp : Stp := (0, 0, (0, 0, 0, 0, ⟨#[]⟩), [], [])
def StpIs (h : Hp) (x : S9) (y : Stp) : Prop := y.1 = x.1 ∧ y.2.1 = x.2.1 ∧ y.2.2.1 = x.2.2.1 ∧ RdT TI h x.2.2.2.1.1 x.2.2.2.1.2.1 y.2.2.2.1 ∧ RdT tRec h x.2.2.2.2.1 x.2.2.2.2.2.1 y.2.2.2.2 ∧ 0 ≤ x.1
def small (x : S9) : Prop := x.2.2.2.1.2.1 ≤ 20 ∧ x.2.2.2.2.2.1 ≤ 20
theorem great_c1_c1 (r : Rec) (h : Hp) : HCalls Tryz.prog 33 #[encR r] h (fun v h' => Ext h h' ∧ v = .bool (decide ((100 : Int) < (r.2.2.2.2.size : Int)))) := by
  refine l50_great_c1_c1_call ?_
  rw [l50_great_c1_c1_b0_eq]
  exact (St.start h).new (cs := [_, _, _, _, _]) fun b h1 _ s => ⟨_, s.ldB, s.ext, rfl⟩
theorem great_c1 {h : Hp} (x : S9) {ins : List Rec} (r : RdT tRec h x.2.2.2.2.1 x.2.2.2.2.2.1 ins) :
    HCalls Tryz.prog 31 #[.agg (tS9.enc x).toArray] h (fun v h' => Ext h h' ∧ ∃ b : Bool, v = .bool b ∧ (b = false → small x)) := by
  refine l50_great_c1_call ?_
  rw [l50_great_c1_b0_eq]
  refine (St.start h).new (cs := [_, _, _, _, _, _, _, _, _]) fun b h1 _ s => ⟨_, _, _, s.ldB, condP (fun c1 => ⟨s.ext, true, rfl, fun h => by cases h⟩) (fun c1 => ⟨_, _, _, s.ldB, condP (fun c2 => ⟨s.ext, true, rfl, fun h => by cases h⟩) (fun c2 => ⟨_, ldC s, condP (fun c3 => ⟨s.ext, true, rfl, fun h => by cases h⟩) (fun c3 => ⟨_, _, _, s.ldB, ?_⟩)⟩)⟩)⟩
  refine (ContRec_ok (r.ext s.ext) (by omega) rfl great_c1_c1).mono fun v h2 ⟨x2, hv⟩ => ⟨_, hv, s.ext.trans x2, _, rfl, fun _ => ⟨by omega, by omega⟩⟩
theorem ldS9 {h : Hp} {p : Option Addr} {n i : Nat} {l : List S9} {Q : S9 → Prop} (r : RdT tS9 h p n l) (hi : i < n) (hq : Q (l.getD i tS9.d)) :
    (0 ≤ (i : Int) ∧ (i : Int) < (n : Int)) ∧ NN p fun a => ∃ x : S9, cell h (a.add (Int.toNat (i : Int) * 9)) = some (.int .u8 x.1) ∧ cell h ((a.add (Int.toNat (i : Int) * 9)).add 1) = some (.int .i64 x.2.1) ∧ cell h ((a.add (Int.toNat (i : Int) * 9)).add 2) = some (.int .i64 x.2.2.1.1) ∧ cell h ((a.add (Int.toNat (i : Int) * 9)).add 3) = some (.int .i64 x.2.2.1.2.1) ∧
      cell h ((a.add (Int.toNat (i : Int) * 9)).add 4) = some (.int .i64 x.2.2.1.2.2.1) ∧ cell h ((a.add (Int.toNat (i : Int) * 9)).add 5) = some (.int .i64 x.2.2.1.2.2.2.1) ∧ cell h ((a.add (Int.toNat (i : Int) * 9)).add 6) = some (.string x.2.2.1.2.2.2.2) ∧
      cell h ((a.add (Int.toNat (i : Int) * 9)).add 7) = some (.slice x.2.2.2.1.1 x.2.2.2.1.2.1 x.2.2.2.1.2.2) ∧ cell h ((a.add (Int.toNat (i : Int) * 9)).add 8) = some (.slice x.2.2.2.2.1 x.2.2.2.2.2.1 x.2.2.2.2.2.2) ∧ Q x := by
  refine r.idx (i := (i : Int)) (by omega) (by omega) fun a _ hc => ?_
  have e : Int.toNat (i : Int) = i := Int.toNat_natCast i
  rw [e] at hc ⊢
  exact ⟨_, by simpa [add_add] using hc 0 (by decide), hc 1 (by decide), hc 2 (by decide), hc 3 (by decide), hc 4 (by decide), hc 5 (by decide), hc 6 (by decide), hc 7 (by decide), hc 8 (by decide), hq⟩
theorem Great_r {h : Hp} {p : Option Addr} {n c : Nat} {l : List S9} (r : RdT tS9 h p n l) (hr : ∀ x ∈ l, ∃ ins, RdT tRec h x.2.2.2.2.1 x.2.2.2.2.2.1 ins) :
    HCalls Tryz.prog 6 #[.slice p n c] h (fun v h' => Ext h h' ∧ ∃ b : Bool, v = .bool b ∧ (b = false → n ≤ 40 ∧ ∀ x ∈ l, small x)) := by
  have hl := r.len
  refine l50_great_call ?_
  rw [l50_great_b0_eq]
  refine condP (fun hn => ⟨Ext.refl h, true, rfl, fun h => by cases h⟩) (fun hn => ?_)
  refine HCalls.mono (K := fun v h' => Ext h h' ∧ ∃ b : Bool, v = .bool b ∧ (b = false → ∀ x ∈ l, small x)) ?_ fun v h1 ⟨x1, b, hv, hb⟩ => ⟨b, hv, x1, b, rfl, fun h => ⟨by omega, hb h⟩⟩
  refine slices_ContainsFunc_Sl50_Step_l50_Step_call ?_
  rw [slices_ContainsFunc_Sl50_Step_l50_Step_b0_eq]
  refine HCalls.mono (K := fun v h' => Ext h h' ∧ ∃ x : Int, v = .int .i64 x ∧ (x < 0 → ∀ x ∈ l, small x)) ?_ fun v h1 ⟨x1, x, hv, hx⟩ => ⟨x, hv, x1, _, rfl, fun h => hx (by have := of_decide_eq_false h; omega)⟩
  refine slices_IndexFunc_Sl50_Step_l50_Step_call ?_
  rw [slices_IndexFunc_Sl50_Step_l50_Step_b0_eq]
  refine ⟨fun x h' => Ext h h' ∧ ∃ i : Nat, x.1 = i ∧ i ≤ n ∧ ∀ j, j < i → small (l.getD j tS9.d), fun x _ => (n - x.1).toNat, ⟨Ext.refl h, 0, rfl, Nat.zero_le _, fun j hj => absurd hj (Nat.not_lt_zero _)⟩, ?_⟩
  rintro ⟨_, _⟩ h1 ⟨x1, i, rfl, hi, hno⟩
  dsimp only
  rw [slices_IndexFunc_Sl50_Step_l50_Step_b1_eq]
  refine condP (fun hlt => ?_) (fun hge => ?_)
  · have hil : i < l.length := by omega
    obtain ⟨ins, hri⟩ := hr (l.getD i tS9.d) (by rw [getD_get hil]; exact List.getElem_mem hil)
    obtain ⟨hb, hN⟩ := ldS9 (Q := fun x => x = l.getD i tS9.d) (r.ext x1) (by omega) rfl
    refine ⟨hb, ?_⟩
    revert hN
    cases p with
    | none => exact fun h => h.elim
    | some a =>
      rintro ⟨x, q0, q1, q2, q3, q4, q5, q6, q7, q8, rfl⟩
      refine ⟨_, _, _, _, _, _, _, _, _, _, _, _, _, q0, q1, q2, q3, q4, q5, q6, q7, q8, funX_of rfl ((great_c1 _ (hri.ext x1)).mono fun v h2 ⟨x2, b, hv, hb⟩ => ⟨b, hv, cond_intro (fun hbt => ?_) (fun hbf => ?_)⟩)⟩
      · exact ⟨x1.trans x2, _, rfl, fun h => by omega⟩
      · rw [slices_IndexFunc_Sl50_Step_l50_Step_b2_eq]
        refine ⟨⟨by omega, by omega⟩, ⟨x1.trans x2, i + 1, by push_cast; rfl, by omega, fun j hj => ?_⟩, by dsimp only; omega⟩
        rcases Nat.lt_or_ge j i with h | h
        · exact hno j h
        · obtain rfl : j = i := by omega
          exact hb hbf
  · rw [slices_IndexFunc_Sl50_Step_l50_Step_b3_eq]
    refine ⟨x1, _, rfl, fun _ x hx => ?_⟩
    obtain ⟨j, hj, rfl⟩ := List.getElem_of_mem hx
    have := hno j (by omega)
    rwa [getD_get hj] at this
def playL (ys : List Stp) : LS := ys.foldl stepP ([], 0)
theorem play_snoc (ys : List Stp) (y : Stp) : playL (ys ++ [y]) = stepP (playL ys) y := by unfold playL; rw [List.foldl_append]; rfl
theorem step_nx (s : LS) (y : Stp) (h : y.2.2.2.2.length ≤ 20) : (stepP s y).2 ≤ s.2 + 20 := by
  unfold stepP
  split
  · unfold insP
    split
    · dsimp only; omega
    split
    · dsimp only; omega
    split <;> dsimp only <;> omega
  split
  · dsimp only; omega
  split
  · dsimp only; omega
  · unfold batP
    split <;> dsimp only <;> omega
section
variable {h0 h : Hp} {p : Option Addr} {n c : Nat} {l : List S9} {ys : List Stp} {G : Bag}
theorem play3 {b1 b2 tb : Nat} {p2 q2 : Option Addr} {n2 c2 m2 d2 : Nat} {st : LS} {A O : Bag} (a : TabS tb st.1 st.2 A) (rs : RefS (encT p2 n2 c2 q2 m2 d2 st.2) st.1 st.2 O) (s : St h0 h (cA b2 (tb50 p2 n2 c2 q2 m2 d2 st.2) 29 + (cA b1 (tb50 none 0 0 none 0 0 0) 29 + (A + (O + G))))) :
    l50_played_b3 (some ⟨b1, 0, none⟩) (some ⟨tb, 0, none⟩) (some ⟨b2, 0, none⟩) h (fun w h' => ∃ tb v O A, w = .tuple #[ptr tb, v, .bool true] ∧ RefS v st.1 st.2 O ∧ TabS tb st.1 st.2 A ∧ St h0 h' (A + (O + G))) := by
  rw [l50_played_b3_eq]
  refine ⟨_, _, _, _, _, _, _, s.ld0, s.ldB, s.ldB, s.wr3 fun h1 s => ⟨_, _, _, _, _, _, _, s.ld0, s.ldB, s.ldB, tb, _, O, A, rfl, rs, a, ?_⟩⟩
  exact ((s.find b1).drop.find b2).drop.to
theorem Played_r (r : RdT tS9 h0 p n l) (hyl : ys.length = n) (hy : ∀ i, i < n → StpIs h0 (l.getD i tS9.d) (ys.getD i dStp)) (hn : n ≤ 40) (hs : ∀ x ∈ l, small x) (s : St h0 h G) :
    HCalls Tryz.prog 7 #[.slice p n c] h (fun w h' => ∃ tb v O A, w = .tuple #[ptr tb, v, .bool true] ∧ RefS v (playL ys).1 (playL ys).2 O ∧ TabS tb (playL ys).1 (playL ys).2 A ∧ St h0 h' (A + (O + G))) := by
  have hl := r.len
  refine l50_played_call ?_
  rw [l50_played_b0_eq]
  refine s.new (cs := [_, _, _]) fun b1 h1 _ s => (New_s h1).mono fun v h2 ⟨tb, A, hv, a, st⟩ => ⟨_, hv, ?_⟩
  have s := s.join st
  refine s.new (cs := [_, _, _]) fun b2 h3 _ s => condNo rfl ?_
  refine ⟨fun x h' => ∃ (i : Nat) (p2 : Option Addr) (n2 c2 : Nat) (q2 : Option Addr) (m2 d2 : Nat) (A O : Bag), x.1 = i ∧ i ≤ n ∧ (playL (ys.take i)).2 ≤ 20 * i ∧ TabS tb (playL (ys.take i)).1 (playL (ys.take i)).2 A ∧ RefS (encT p2 n2 c2 q2 m2 d2 (playL (ys.take i)).2) (playL (ys.take i)).1 (playL (ys.take i)).2 O ∧ St h0 h' (cA b2 (tb50 p2 n2 c2 q2 m2 d2 (playL (ys.take i)).2) 29 + (cA b1 (tb50 none 0 0 none 0 0 0) 29 + (A + (O + G)))), fun x _ => (n - x.1).toNat, ⟨0, none, 0, 0, none, 0, 0, A, 0, rfl, Nat.zero_le _, Int.le_refl _, a, ⟨none, 0, 0, none, 0, 0, 0, 0, rfl, Sl.nil, Sl.nil, (Bag.add_zero 0).symm⟩, ?_⟩, ?_⟩
  · rw [Bag.zero_add]; exact s.to
  clear s a
  rintro ⟨z, _⟩ h4 ⟨i, p2, n2, c2, q2, m2, d2, A, O, hz, hi, hnx, a, rs, s⟩
  dsimp only at hz ⊢
  subst hz
  rw [l50_played_b1_eq]
  refine condP (fun hlt => ?_) (fun hge => ?_)
  · have hil : i < l.length := by omega
    have hiy : i < ys.length := by omega
    have htk : ys.take (i + 1) = ys.take i ++ [ys.getD i dStp] := by rw [getD_get hiy, List.take_succ_eq_append_getElem hiy]
    have hyi := hy i (by omega)
    have hsm := hs (l.getD i tS9.d) (by rw [getD_get hil]; exact List.getElem_mem hil)
    obtain ⟨hb, hN⟩ := ldS9 (Q := fun x => x = l.getD i tS9.d) (r.ext s.ext) (by omega) rfl
    refine ⟨hb, ?_⟩
    revert hN
    cases p with
    | none => exact fun h => h.elim
    | some ad =>
      rintro ⟨x, e0, e1, e2, e3, e4, e5, e6, e7, e8, hx⟩
      rw [← hx] at hyi hsm
      generalize hyv : ys.getD i dStp = y at hyi htk
      obtain ⟨yk, yid, yr, yds, yins⟩ := y
      obtain ⟨hk, hid, hr, rd, ri, hk0⟩ := hyi
      dsimp only at hk hid hr rd ri
      have hril := ri.len
      refine ⟨_, _, _, _, _, _, _, _, _, _, _, _, _, e0, e1, e2, e3, e4, e5, e6, e7, e8, s.new (cs := [_, _, _, _, _, _, _, _, _]) fun b3 h5 _ s => ?_⟩
      refine s.wr0 fun _ s => s.wrB fun _ s => s.wrB fun _ s => s.wrB fun _ s => s.wrB fun _ s => s.wrB fun _ s => s.wrB fun _ s => s.wrB fun _ s => s.wrB fun _ s => ?_
      refine ⟨_, _, _, _, _, _, _, s.ld0, s.ldB, s.ldB, _, _, _, _, _, _, _, _, _, _, _, _, _, s.ld0, s.ldB, s.ldB, s.ldB, s.ldB, s.ldB, s.ldB, s.ldB, s.ldB, ?_⟩
      have s' := s.to (B := A + (O + (cA b3 [.int .u8 x.1, .int .i64 x.2.1, .int .i64 x.2.2.1.1, .int .i64 x.2.2.1.2.1, .int .i64 x.2.2.1.2.2.1, .int .i64 x.2.2.1.2.2.2.1, .string x.2.2.1.2.2.2.2, .slice x.2.2.2.1.1 x.2.2.2.1.2.1 x.2.2.2.1.2.2, .slice x.2.2.2.2.1 x.2.2.2.2.2.1 x.2.2.2.2.2.2] 68 + (cA b2 (tb50 p2 n2 c2 q2 m2 d2 (playL (ys.take i)).2) 29 + (cA b1 (tb50 none 0 0 none 0 0 0) 29 + G)))))
      refine (do_ok (k := x.1) (id := x.2.1) (r := x.2.2.1) a rs s' (by omega) hk0 rd ri hsm.1 hsm.2).mono fun w h6 ⟨v', O', A', hw, rs', a', s⟩ => ?_
      rw [← hk, ← hid, ← hr, ← play_snoc, ← htk] at rs' a'
      have hnx' : (playL (ys.take (i + 1))).2 ≤ 20 * ((i + 1 : Nat) : Int) := by
        have := step_nx (playL (ys.take i)) (yk, yid, yr, yds, yins) (by rw [hril]; exact hsm.2)
        rw [← play_snoc, ← htk] at this
        push_cast; omega
      have rs0 := rs'
      obtain ⟨p3, n3, c3, q3, m3, d3, X1, X2, rfl, x1, x2, hX⟩ := rs'
      refine ⟨_, _, _, _, _, _, _, _, hw, s.new (cs := [_, _, _]) fun b4 h7 _ s => s.wr3 fun h8 s => condNo rfl ?_⟩
      have hx1 := x1.len
      rw [List.length_map] at hx1
      refine ⟨_, (Len_s a' (s.at A')).mono fun v h9 ⟨hh, hv⟩ => ⟨hv, hh⟩, _, _, _, s.ld0, condNo (by rw [hx1, decide_eq_true rfl]; rfl) ?_⟩
      rw [l50_played_b2_eq]
      refine ⟨_, _, _, _, _, _, _, s.ld0, s.ldB, s.ldB, s.wr3 fun h10 s => ?_⟩
      rw [l50_played_b4_eq]
      refine ⟨⟨by omega, by omega⟩, ⟨i + 1, p3, n3, c3, q3, m3, d3, A', O', by push_cast; rfl, by omega, hnx', a', rs0, ?_⟩, by dsimp only; omega⟩
      exact ((s.find b3).drop.find b4).drop.to
  · obtain rfl : i = n := by omega
    rw [List.take_of_length_le (by omega)] at a rs s
    exact play3 a rs s
end
end Go.Proofs.YtfkccighnkepgaaGreat

/- The law: queries. -/
set_option maxRecDepth 100000
namespace Go.Proofs.YtfkccighnkepgaaGreat
open Go Go.Sx
theorem steps_ys {h : Hp} : ∀ {l : List S9}, (∀ x ∈ l, ∃ y, StpIs h x y) → ∃ ys : List Stp, ys.length = l.length ∧ ∀ i, i < l.length → StpIs h (l.getD i tS9.d) (ys.getD i dStp)
  | [], _ => ⟨[], rfl, fun i hi => absurd hi (Nat.not_lt_zero _)⟩
  | x :: l, hx => by
    obtain ⟨y, hy⟩ := hx x List.mem_cons_self
    obtain ⟨ys, h1, h2⟩ := steps_ys (l := l) fun x h => hx x (List.mem_cons_of_mem _ h)
    refine ⟨y :: ys, by rw [List.length_cons, List.length_cons, h1], fun i hi => ?_⟩
    cases i with
    | zero => exact hy
    | succ i => exact h2 i (by rw [List.length_cons] at hi; omega)
/-- What is played, in a state. -/
theorem Played_l {h0 h : Hp} {p : Option Addr} {n c : Nat} {l : List S9} {G : Bag} (r : RdT tS9 h0 p n l) {ys : List Stp} (hyl : ys.length = l.length) (hy : ∀ i, i < l.length → StpIs h0 (l.getD i tS9.d) (ys.getD i dStp)) (hs : n ≤ 40 ∧ ∀ x ∈ l, small x) (s : St h0 h G) {K : Value → Hp → Prop}
    (hK : ∀ tb p n c q m d O1 O2 A h', Sl TI p n c ((playL ys).1.map Prod.fst) O1 → Sl tRec q m d ((playL ys).1.map Prod.snd) O2 → TabS tb (playL ys).1 (playL ys).2 A → St h0 h' (A + (O1 + (O2 + G))) → K (.tuple #[ptr tb, encT p n c q m d (playL ys).2, .bool true]) h') :
    HCalls Tryz.prog 7 #[.slice p n c] h K := by
  have hln := r.len
  refine (Played_r (ys := ys) r (by omega) (fun i hi => hy i (by omega)) hs.1 hs.2 s).mono fun w h' ⟨tb, v, O, A, hw, rs, a, s⟩ => ?_
  obtain ⟨p, n, c, q, m, d, O1, O2, rfl, o1, o2, rfl⟩ := rs
  subst hw
  exact hK _ _ _ _ _ _ _ _ _ _ _ o1 o2 a s.to
theorem play_nx {ys : List Stp} (hs : ∀ y ∈ ys, y.2.2.2.2.length ≤ 20) : (playL ys).2 ≤ 20 * ys.length := by
  have : ∀ (ys : List Stp) (s : LS), (∀ y ∈ ys, y.2.2.2.2.length ≤ 20) → (ys.foldl stepP s).2 ≤ s.2 + 20 * ys.length := by
    intro ys
    induction ys with
    | nil => intro s _; simp
    | cons y ys ih =>
      intro s h
      rw [List.foldl_cons, List.length_cons]
      have h1 := ih (stepP s y) fun x hx => h x (List.mem_cons_of_mem _ hx)
      have h2 := step_nx s y (h y List.mem_cons_self)
      push_cast
      omega
  have := this ys ([], 0) hs
  simpa [playL] using this
section
variable {h : Hp} {p : Option Addr} {n c : Nat} {l : List S9}
end
end Go.Proofs.YtfkccighnkepgaaGreat

/- How a slice that is handed in is read: elements of any number of cells. -/
namespace Go.Sx
open Go Go.ChangeShapes Go.WideShapes Go.Deep
section
variable {H : Type} {enc : TypeId × Value → H} {P : Program} {w : World} {base : Nat} {sp : Nat → Bool} {held : Bool} {α : Type}
theorem rd_flat {t : TypeId} (T : Ty α) {W : α → Prop} {a : Option Addr} {len cap : Nat} {d : DataW H} {ps : List MemPlace} (ht : P.underlying t = some (.slice T.e)) (hc : P.cellsOf T.e = T.sz)
    (dec : ∀ n cs x, DataW.trod enc P w base sp held n T.e cs = some x → ∃ a, cs = T.enc a ∧ W a) (h : DataW.Trod enc P w base sp held t (.slice a len cap) d ps) :
    ∃ xs : List α, RdT T w.heap a len xs ∧ len ≤ cap ∧ ∀ x ∈ xs, W x := by
  obtain ⟨fuel, hf⟩ := h
  have e0 : (Value.slice a len cap).cells.toList = [.slice a len cap] := rfl
  rw [e0] at hf
  rcases open_slice ht hf with ⟨hcs, _⟩ | ⟨x, l, c, m, n, D, Pl, hcs, _, hl, _, hm, _, hx⟩
  · injection hcs with h1 _
    injection h1 with h1 h2 h3
    subst h1 h2 h3
    exact ⟨[], RdT.nil _ _, Nat.le_refl _, fun _ h => nomatch h⟩
  · injection hcs with h1 _
    injection h1 with h1 h2 h3
    subst h1 h2 h3
    have hlm : len ≤ m := by rw [hm]; split <;> omega
    haveI : Inhabited α := ⟨T.d⟩
    obtain ⟨f, hf⟩ := choose_lt (α := α) (n := len) (p := fun i z => w.cells? base (x.add (i * T.sz)) T.sz = some (T.enc z) ∧ W z) (fun i hi => by
      obtain ⟨cs, h1, h2⟩ := hx i (by omega)
      obtain ⟨z, hz, hw⟩ := dec n cs _ h2
      rw [hc] at h1
      exact ⟨z, by rw [h1, hz], hw⟩)
    refine ⟨(List.range len).map f, ⟨by simp, .inr ⟨x, rfl, fun i hi => ?_⟩⟩, hl, fun z hz => ?_⟩
    · have hp := T.pos
      have hdm : T.sz * (i / T.sz) + i % T.sz = i := Nat.div_add_mod i T.sz
      have hq : i / T.sz < len := (Nat.div_lt_iff_lt_mul hp).2 hi
      have hr : i % T.sz < T.sz := Nat.mod_lt _ hp
      obtain ⟨_, _, h3⟩ := World.cells?_some (hf _ hq).1
      have h4 := h3 _ hr
      have e1 : i / T.sz * T.sz + i % T.sz = i := by rw [Nat.mul_comm]; exact hdm
      rw [add_add, e1] at h4
      show cell w.heap (x.add i) = _
      rw [← cell_eq, h4]
      have := T.cells_get ((List.range len).map f) (i := i / T.sz) (j := i % T.sz) (by simpa using hq) hr
      rw [e1] at this
      rw [this]
      simp [List.getD, hq]
    · obtain ⟨i, hi, rfl⟩ := List.mem_map.1 hz
      exact (hf i (List.mem_range.1 hi)).2
theorem dec_int {e : TypeId} {k : IntKind} (he : P.underlying e = some (.int k)) (n : Nat) (cs : List Value) (x : DataW H × List MemPlace) (h : DataW.trod enc P w base sp held n e cs = some x) : ∃ z, cs = [.int k z] ∧ (Lit.int k z).wf = true := by
  obtain ⟨z, h1, _, h2⟩ := DataW.trod_int he h
  exact ⟨z, h1, h2⟩
end
end Go.Sx

/- How the law's arguments are read: calls, records. -/
set_option maxRecDepth 10000
namespace Go.Proofs.YtfkccighnkepgaaGreat
open Go Go.Sx Go.ChangeShapes Go.WideShapes Go.ChangeAt Go.RowKit Go.Deep

theorem own : ownKnob Tryz.prog.godebug = none := by kernel_rfl
theorem laidOut : laidOutB Tryz.prog = true := by kernel_rfl
theorem maxL_of {W : World} (h : W.ShapedOpen Tryz.prog) : MaxL W.heap := by
  obtain ⟨m, hm⟩ := Tryz.laysM144.s1_3 W h
  exact ⟨m, hm⟩
theorem below_of {P : Program} {f : FuncId} {args : Array Value} {w : World} (hc : HCalls P f args w.heap (fun v h' => v = .bool true ∧ Ext w.heap h')) :
    Calls P f args w fun e w' => e = .returned (.bool true) ∧ Below w.heap.size w w' :=
  (hc w rfl).mono fun e w' ⟨v, he, hs, hv, hx⟩ => ⟨by rw [he, hv], ⟨hs.os, hs.tape, hs.output, hx.size, hx.same⟩⟩
section
variable {H : Type} {enc : TypeId × Value → H} {w : World} {base : Nat} {held : Bool} {a : Option Addr} {len cap : Nat} {d : DataW H} {ps : List MemPlace}
theorem dec_rec (n : Nat) (cs : List Value) (x : DataW H × List MemPlace) (h : DataW.trod enc Tryz.prog w base (fun _ => true) held n 49 cs = some x) : ∃ r : Rec, cs = tRec.enc r ∧ (InR r.1 ∧ InR r.2.1 ∧ InR r.2.2.1 ∧ InR r.2.2.2.1) := by
  obtain ⟨xs, m, _, _, hl, hxl, hx⟩ := DataW.trod_struct Tryz.underlying49 h
  rw [show Tryz.prog.cellsOf 49 = 5 by kernel_rfl] at hl
  match cs, xs, hl, hxl with
  | [c0, c1, c2, c3, c4], [y0, y1, y2, y3, y4], _, _ =>
    obtain ⟨z0, e0, w0⟩ := dec_int (k := .i64) (by kernel_rfl) _ _ _ (hx 0 _ rfl)
    obtain ⟨z1, e1, w1⟩ := dec_int (k := .i64) (by kernel_rfl) _ _ _ (hx 1 _ rfl)
    obtain ⟨z2, e2, w2⟩ := dec_int (k := .i64) (by kernel_rfl) _ _ _ (hx 2 _ rfl)
    obtain ⟨z3, e3, w3⟩ := dec_int (k := .i64) (by kernel_rfl) _ _ _ (hx 3 _ rfl)
    obtain ⟨z4, e4, _⟩ := DataW.trod_string (t := 9) (by kernel_rfl) (hx 4 _ rfl)
    have f0 : c0 = .int .i64 z0 := (List.cons.inj (show [c0] = [Value.int .i64 z0] from e0)).1
    have f1 : c1 = .int .i64 z1 := (List.cons.inj (show [c1] = [Value.int .i64 z1] from e1)).1
    have f2 : c2 = .int .i64 z2 := (List.cons.inj (show [c2] = [Value.int .i64 z2] from e2)).1
    have f3 : c3 = .int .i64 z3 := (List.cons.inj (show [c3] = [Value.int .i64 z3] from e3)).1
    have f4 : c4 = .string z4 := (List.cons.inj (show [c4] = [Value.string z4] from e4)).1
    exact ⟨(z0, z1, z2, z3, z4), by rw [f0, f1, f2, f3, f4], bounds_i64 w0, bounds_i64 w1, bounds_i64 w2, bounds_i64 w3⟩
theorem rd_recs (h : DataW.Trod enc Tryz.prog w base (fun _ => true) held 27 (.slice a len cap) d ps) : ∃ l : List Rec, RdT tRec w.heap a len l ∧ len ≤ cap ∧ ∀ x ∈ l, InR x.1 ∧ InR x.2.1 ∧ InR x.2.2.1 ∧ InR x.2.2.2.1 :=
  rd_flat tRec Tryz.underlying27 (by kernel_rfl) dec_rec h
theorem rd_intsT (h : DataW.Trod enc Tryz.prog w base (fun _ => true) held 26 (.slice a len cap) d ps) : ∃ l : List Int, RdT TI w.heap a len l ∧ len ≤ cap ∧ ∀ x ∈ l, InR x :=
  rd_flat (W := InR) TI Tryz.underlying26 (by kernel_rfl) (fun n cs x h => by
    obtain ⟨z, h1, h2⟩ := dec_int (k := .i64) (by kernel_rfl) n cs x h
    exact ⟨z, h1, bounds_i64 h2⟩) h
theorem rd_st50 (h : DataW.Trod enc Tryz.prog w base (fun _ => true) held 22 (.slice a len cap) d ps) : ∃ l : List S9, RdT tS9 w.heap a len l ∧ len ≤ cap ∧ ∀ x ∈ l, ∃ y, StpIs w.heap x y :=
  rd_flat tS9 Tryz.underlying22 (by kernel_rfl) (fun n cs x h => by
    obtain ⟨xs, m, _, _, hl, hxl, hx⟩ := DataW.trod_struct Tryz.underlying68 h
    rw [show Tryz.prog.cellsOf 68 = 9 by kernel_rfl] at hl
    match cs, xs, hl, hxl with
    | [c0, c1, c2, c3, c4, c5, c6, c7, c8], [y0, y1, y2, y3, y4], _, _ =>
      obtain ⟨z0, e0, w0⟩ := dec_int (k := .u8) (by kernel_rfl) _ _ _ (hx 0 _ rfl)
      obtain ⟨z1, e1, w1⟩ := dec_int (k := .i64) (by kernel_rfl) _ _ _ (hx 1 _ rfl)
      have f0 : c0 = .int .u8 z0 := (List.cons.inj (show [c0] = [Value.int .u8 z0] from e0)).1
      have f1 : c1 = .int .i64 z1 := (List.cons.inj (show [c1] = [Value.int .i64 z1] from e1)).1
      have h2 : DataW.trod enc Tryz.prog w base (fun _ => true) held m 49 [c2, c3, c4, c5, c6] = some y2 := hx 2 _ rfl
      obtain ⟨r, e2, _⟩ := dec_rec _ _ _ h2
      have h3 : DataW.trod enc Tryz.prog w base (fun _ => true) held m 26 [c7] = some y3 := hx 3 _ rfl
      have h4 : DataW.trod enc Tryz.prog w base (fun _ => true) held m 27 [c8] = some y4 := hx 4 _ rfl
      have k3 : ∃ a' l' c', [c7] = [Value.slice a' l' c'] := by
        rcases open_slice Tryz.underlying26 h3 with ⟨hcs, _⟩ | ⟨_, _, _, _, _, _, _, hcs, _⟩
        · exact ⟨_, _, _, hcs⟩
        · exact ⟨_, _, _, hcs⟩
      have k4 : ∃ a' l' c', [c8] = [Value.slice a' l' c'] := by
        rcases open_slice Tryz.underlying27 h4 with ⟨hcs, _⟩ | ⟨_, _, _, _, _, _, _, hcs, _⟩
        · exact ⟨_, _, _, hcs⟩
        · exact ⟨_, _, _, hcs⟩
      obtain ⟨a3, l3, q3, hc3⟩ := k3
      obtain ⟨a4, l4, q4, hc4⟩ := k4
      have f7 : c7 = .slice a3 l3 q3 := (List.cons.inj hc3).1
      have f8 : c8 = .slice a4 l4 q4 := (List.cons.inj hc4).1
      rw [hc3] at h3
      rw [hc4] at h4
      obtain ⟨zs, r3, _, _⟩ := rd_intsT (d := y3.1) (ps := y3.2) ⟨m, h3⟩
      obtain ⟨rs, r4, _, _⟩ := rd_recs (d := y4.1) (ps := y4.2) ⟨m, h4⟩
      have g2 : [c2, c3, c4, c5, c6] = [Value.int .i64 r.1, .int .i64 r.2.1, .int .i64 r.2.2.1, .int .i64 r.2.2.2.1, .string r.2.2.2.2] := e2
      injection g2 with g2 g3
      injection g3 with g3 g4
      injection g4 with g4 g5
      injection g5 with g5 g6
      injection g6 with g6 _
      refine ⟨(z0, z1, r, (a3, l3, q3), (a4, l4, q4)), by rw [f0, f1, f7, f8, g2, g3, g4, g5, g6], (z0, z1, r, zs, rs), rfl, rfl, rfl, r3, r4, ?_⟩
      exact (bounds_u8 w0).1) h
end
end Go.Proofs.YtfkccighnkepgaaGreat

/- The laws: joins, plays. -/
set_option maxRecDepth 100000
namespace Go.Proofs.YtfkccighnkepgaaGreat
open Go Go.Sx
section
variable {h : Hp} {p q : Option Addr} {n c m d : Nat} {l k : List S9}
end
end Go.Proofs.YtfkccighnkepgaaGreat

/- The law: plays. -/
set_option maxRecDepth 100000
namespace Go.Proofs.YtfkccighnkepgaaGreat
open Go Go.Sx
section
variable {h : Hp} {p : Option Addr} {n c : Nat} {l : List S9}
end
end Go.Proofs.YtfkccighnkepgaaGreat

/- The law: batches. -/
set_option maxRecDepth 100000
namespace Go.Proofs.YtfkccighnkepgaaGreat
open Go Go.Sx
section
variable {h0 h : Hp} {p : Option Addr} {n c : Nat} {l : List S9}
variable {ds : List Int} {ins : List Rec} {dp ip : Option Addr} {dn dc im ic : Nat}
end
end Go.Proofs.YtfkccighnkepgaaGreat

/- Values of a slice, sorted; concatenation; the greatest; repetition. -/
set_option maxRecDepth 100000
namespace Go.Proofs.YtfkccighnkepgaaGreat
open Go Go.Sx
theorem funY_of {P : Program} {F : Nat → Bool} {l : Nat} {args : List Value} {h : Hp} {K : Value → Hp → Prop} (hc : YCalls P l args.toArray h K) : callVY P F (.func (.yield l) #[] #[]) args h K := hc
theorem Values_ok (p : Option Addr) (n c : Nat) (h : Hp) : HCalls Tryz.prog 15 #[.slice p n c] h (fun v h' => ∃ b, v = .func (.func 49) #[] #[ptr b] ∧ St h h' (cA b [.slice p n c] 26)) := by
  refine slices_Values_Sint_int_call ?_
  rw [slices_Values_Sint_int_b0_eq]
  exact (St.start h).new (cs := [_]) fun b h1 _ s => ⟨b, rfl, s.to⟩
theorem Values_c1_ok {h0 h : Hp} {l b : Nat} {p : Option Addr} {n c : Nat} {xs : List Int} {J : Nat → Bag → Prop} {Jx : Bag → Prop} {A F0 : Bag} (Y : Yld Tryz.prog h0 l (xs.map (Value.int .i64)) J Jx)
    (hR : RdT TI h0 p n xs) (hb : cell h0 ⟨b, 0, none⟩ = some (.slice p n c)) (hn : n ≤ 1000000) (hJ : J 0 A) (s : St h0 h (A + F0)) :
    HCalls Tryz.prog 49 #[.func (.yield l) #[] #[], ptr b] h (fun _ h' => ∃ A', (J xs.length A' ∨ Jx A') ∧ St h0 h' (A' + F0)) := by
  have hl := hR.len
  refine slices_Values_Sint_int__c1_call ?_
  rw [slices_Values_Sint_int__c1_b0_eq]
  refine ⟨_, _, _, s.ext.cell hb, fun x h' => ∃ (i : Nat) (A : Bag), x.1 = i ∧ i ≤ n ∧ J i A ∧ St h0 h' (A + F0), fun x _ => (n - x.1).toNat, ⟨0, A, rfl, Nat.zero_le _, hJ, s⟩, ?_⟩
  clear s hJ A
  rintro ⟨z, _⟩ h2 ⟨i, A, hz, hi, hJ, s⟩
  dsimp only at hz ⊢
  subst hz
  rw [slices_Values_Sint_int__c1_b1_eq]
  refine condP (fun hlt => ?_) (fun hge => ?_)
  · have hil : i < xs.length := by omega
    refine ldI (i' := i) (hR.ext s.ext) rfl (by omega) (funY_of ?_)
    have hy := Y i A F0 h2 (by rw [List.length_map]; exact hil) hJ s
    have eg : (xs.map (Value.int .i64)).getD i .nilFunc = .int .i64 (xs.getD i 0) := by simp [List.getD, hil]
    rw [eg] at hy
    refine hy.mono fun v h3 hv => ?_
    rcases hv with ⟨rfl, A', hJ', s'⟩ | ⟨rfl, A', hJ', s'⟩
    · refine ⟨_, rfl, condNo rfl ?_⟩
      rw [slices_Values_Sint_int__c1_b2_eq]
      exact ⟨⟨by omega, by omega⟩, ⟨i + 1, A', by push_cast; rfl, by omega, hJ', s'⟩, by dsimp only; omega⟩
    · exact ⟨_, rfl, condYes rfl ⟨A', .inr hJ', s'⟩⟩
  · obtain rfl : i = n := by omega
    exact ⟨A, .inl (by rw [hl]; exact hJ), s⟩
theorem AppendSeq_ok {h : Hp} {b : Nat} {p : Option Addr} {n c : Nat} {xs : List Int} (hR : RdT TI h p n xs) (hb : cell h ⟨b, 0, none⟩ = some (.slice p n c)) (hn : n ≤ 1000000) :
    HCalls Tryz.prog 68 #[.slice none 0 0, .func (.func 49) #[] #[ptr b]] h (fun v h' => ∃ q d A, v = .slice q n d ∧ Sl TI q n d xs A ∧ St h h' A) := by
  have hl := hR.len
  refine slices_AppendSeq_Sint_int_call ?_
  rw [slices_AppendSeq_Sint_int_b0_eq]
  refine (St.start h).new (cs := [_]) fun b1 h1 x1 s => ⟨49, #[ptr b], rfl, by kernel_rfl, fun rec HR => ?_⟩
  have s := s.range rec
  refine HCalls.mono (K := fun _ h' => ∃ A', ((∃ po co Ao, Sl TI po n co xs Ao ∧ A' = lA rec (h1.size + 1) .ready none + (dA h1.size + (cA b1 [.slice po n co] 26 + Ao))) ∨ False) ∧ St h h' (A' + 0)) ?_ ?_
  · refine (Values_c1_ok (h0 := h) (p := p) (n := n) (c := c) (xs := xs) (F0 := 0) (J := fun i A => ∃ po co Ao, Sl TI po i co (xs.take i) Ao ∧ A = lA rec (h1.size + 1) .ready none + (dA h1.size + (cA b1 [.slice po i co] 26 + Ao))) (Jx := fun _ => False) ?_ hR hb hn ⟨none, 0, 0, Sl.nil, rfl⟩ s.to).mono fun v h' ⟨A', hA, s⟩ => ⟨A', ?_, s⟩
    · rintro i _ F h5 hi ⟨po, co, Ao, oo, rfl⟩ s
      rw [List.length_map] at hi
      have eg : (xs.map (Value.int .i64)).getD i .nilFunc = .int .i64 (xs.getD i 0) := by simp [List.getD, hi]
      rw [eg]
      refine HR _ h5 _ s.lpB ⟨s.lpB, ?_⟩
      have s := s.setLpB (rec := rec) (st := .ready) (pe := none) (st' := .busy) (pe' := none) (l := h1.size + 1)
      refine ⟨_, _, _, s.ld0, ?_⟩
      have s := s.to (B := Ao + (lA rec (h1.size + 1) .busy none + (dA h1.size + (cA b1 [.slice po i co] 26 + F))))
      refine push_sl ok_int s oo (x := xs.getD i 0) rfl rfl (by omega) fun p' c' h6 Ao' oo' s => s.wr1 fun h7 s => ⟨s.lpB, .inl ⟨rfl, _, ⟨p', c', Ao', ?_, rfl⟩, ?_⟩⟩
      · rw [List.take_succ_eq_append_getElem hi]
        have : xs[i] = xs.getD i 0 := by simp [List.getD, hi]
        rw [this]
        exact oo'
      · exact (s.setLpB (rec := rec) (st := .busy) (pe := none) (st' := .ready) (pe' := none) (l := h1.size + 1)).to
    · rcases hA with ⟨po, co, Ao, o, hA⟩ | hf
      · rw [hl, List.take_of_length_le (by omega)] at o
        rw [hl] at hA
        exact .inl ⟨po, co, Ao, o, hA⟩
      · exact hf.elim
  · rintro v h6 ⟨A', ⟨po, co, Ao, oo, rfl⟩ | hf, s⟩
    · have s2 := s.setLpB (rec := rec) (st := .ready) (pe := none) (st' := .exhausted) (pe' := none) (l := h1.size + 1)
      refine ⟨.ready, none, s.lpB, by simp, .inl ⟨rfl, _, _, _, s2.ld0, (s2.defB (d := h1.size)).1, po, co, Ao, rfl, oo, ?_⟩⟩
      have s3 := (s2.defB (d := h1.size)).2
      exact (s3.to (B := (cA b1 [.slice po n co] 26 + (lA rec (h1.size + 1) .exhausted none + Bag.one (h1.size, .deferred none))) + Ao)).drop
    · exact hf.elim
theorem Sorted_ok {h : Hp} {b : Nat} {p : Option Addr} {n c : Nat} {xs : List Int} (hR : RdT TI h p n xs) (hb : cell h ⟨b, 0, none⟩ = some (.slice p n c)) (hn : n ≤ 100000) :
    HCalls Tryz.prog 14 #[.func (.func 49) #[] #[ptr b]] h (fun v h' => ∃ q d A ys, v = .slice q n d ∧ Sl TI q n d ys A ∧ ys.Perm xs ∧ ys.Pairwise (fun x y => x ≤ y) ∧ St h h' A) := by
  refine slices_Sorted_int_call ?_
  rw [slices_Sorted_int_b0_eq]
  refine HCalls.mono (K := fun v h' => ∃ q d A, v = .slice q n d ∧ Sl TI q n d xs A ∧ St h h' A) ?_ ?_
  · refine slices_Collect_int_call ?_
    rw [slices_Collect_int_b0_eq]
    exact (AppendSeq_ok hR hb (by omega)).mono fun v h1 ⟨q, d, A, hv, o, s⟩ => ⟨_, _, _, hv, q, d, A, rfl, o, s⟩
  · rintro v h1 ⟨q, d, A, hv, o, s⟩
    refine ⟨_, _, _, hv, (sortOI (P := fun _ => True) (s.to (B := A + 0)) o (fun _ _ => trivial) (by omega)).mono fun v2 h2 ⟨hv2, ys, O', oy, s, hq, hw⟩ => ⟨hv2, q, d, O', ys, rfl, oy, hq, hw.imp fun h => by omega, s.to⟩⟩
abbrev tSH : Ty SH := tS 26
theorem Grow0_ok (size : Int) (h : Hp) (h0 : 0 ≤ size) (h1 : size ≤ 100000) : HCalls Tryz.prog 50 #[.slice none 0 0, .int .i64 size] h (fun v h' => ∃ q d A, v = .slice q 0 d ∧ Sl TI q 0 d [] A ∧ St h h' A) := by
  refine slices_Grow_Sint_int_call ?_
  rw [slices_Grow_Sint_int_b0_eq]
  refine condNo (decide_eq_false (by omega)) ?_
  rw [slices_Grow_Sint_int_b1_eq]
  refine ⟨⟨by omega, by omega⟩, ⟨by omega, by omega⟩, condP (fun hp => ⟨⟨by omega, by omega, by omega⟩, ?_⟩) (fun hp => ?_)⟩
  · have e : size - (((0 : Nat) : Int) - ((0 : Nat) : Int)) = size := by omega
    rw [e]
    refine append_make_st (T := TI) (xs := []) ok_int (by kernel_rfl) (by kernel_rfl) (St.start h) (RdT.nil _ _) (by omega) h0 (by omega) fun b c' h2 mid rest hc hm hr s => ⟨⟨by omega, by omega, by omega⟩, ?_⟩
    rw [slices_Grow_Sint_int_b2_eq]
    have es : subAddr (some ⟨b, 0, none⟩) c' (Int.toNat (0 : Int)) 1 = some ⟨b, 0, none⟩ := subAddr_z
    rw [es]
    refine ⟨_, _, cA b (mid ++ rest) 3, rfl, ⟨rfl, .inr ⟨b, mid ++ rest, rfl, Nat.zero_le _, ?_, rfl⟩⟩, s.to⟩
    rw [List.length_append, hm, hr]
    show size.toNat * 1 + (c' - (0 + size.toNat)) * 1 = (c' - 0 - 0) * 1
    omega
  · rw [slices_Grow_Sint_int_b2_eq]
    exact ⟨none, 0, 0, rfl, Sl.nil, St.start h⟩
theorem Concat_ok {h : Hp} {p : Option Addr} {q1 q2 : Option Addr} {m1 d1 m2 d2 c : Nat} {xs ys : List Int} (r : RdT tSH h p 2 [(q1, m1, d1), (q2, m2, d2)]) (r1 : RdT TI h q1 m1 xs) (r2 : RdT TI h q2 m2 ys) (h1 : m1 ≤ 10000) (h2 : m2 ≤ 10000) :
    HCalls Tryz.prog 16 #[.slice p 2 c] h (fun v h' => ∃ q m d A, v = .slice q m d ∧ Sl TI q m d (xs ++ ys) A ∧ St h h' A) := by
  have hl1 := r1.len
  have hl2 := r2.len
  have rdA : ∀ (h' : Hp) (Q : Option Addr → Nat → Nat → Prop), Ext h h' → Q q1 m1 d1 → (0 ≤ ((0 : Nat) : Int) ∧ ((0 : Nat) : Int) < ((2 : Nat) : Int)) ∧ NN p fun a => ∃ (a2 : Option Addr) (L1 C1 : Nat), cell h' (a.add (Int.toNat ((0 : Nat) : Int) * 1)) = some (.slice a2 L1 C1) ∧ Q a2 L1 C1 := fun h' Q x hQ =>
    (r.ext x).idx (i := ((0 : Nat) : Int)) (by omega) (by omega) fun a _ hc => ⟨_, _, _, by simpa [add_add] using hc 0 (by decide), hQ⟩
  have rdB : ∀ (h' : Hp) (Q : Option Addr → Nat → Nat → Prop), Ext h h' → Q q2 m2 d2 → (0 ≤ ((1 : Nat) : Int) ∧ ((1 : Nat) : Int) < ((2 : Nat) : Int)) ∧ NN p fun a => ∃ (a2 : Option Addr) (L1 C1 : Nat), cell h' (a.add (Int.toNat ((1 : Nat) : Int) * 1)) = some (.slice a2 L1 C1) ∧ Q a2 L1 C1 := fun h' Q x hQ =>
    (r.ext x).idx (i := ((1 : Nat) : Int)) (by omega) (by omega) fun a _ hc => ⟨_, _, _, by simpa [add_add] using hc 0 (by decide), hQ⟩
  refine slices_Concat_Sint_int_call ?_
  rw [slices_Concat_Sint_int_b0_eq]
  refine ⟨fun x h' => h' = h ∧ ∃ i : Nat, x.2.1 = i ∧ i ≤ 2 ∧ x.1 = ((if i = 0 then 0 else if i = 1 then m1 else m1 + m2 : Nat) : Int), fun x _ => (2 - x.2.1).toNat, ⟨rfl, 0, rfl, by omega, rfl⟩, ?_⟩
  rintro ⟨sz, z, _⟩ h3 ⟨rfl, i, hz, hi, hsz⟩
  dsimp only at hz hsz ⊢
  subst hz hsz
  rw [slices_Concat_Sint_int_b1_eq]
  refine condP (fun hlt => ?_) (fun hge => ?_)
  · rcases (by omega : i = 0 ∨ i = 1) with rfl | rfl
    · refine rdA _ _ (Ext.refl _) ⟨⟨by rw [if_pos rfl]; omega, by rw [if_pos rfl]; omega⟩, condNo (decide_eq_false (by rw [if_pos rfl]; omega)) ?_⟩
      rw [slices_Concat_Sint_int_b2_eq]
      exact ⟨⟨by omega, by omega⟩, ⟨rfl, 1, rfl, by omega, by simp⟩, by simp⟩
    · refine rdB _ _ (Ext.refl _) ⟨⟨by rw [if_neg (by decide), if_pos rfl]; omega, by rw [if_neg (by decide), if_pos rfl]; omega⟩, condNo (decide_eq_false (by rw [if_neg (by decide), if_pos rfl]; omega)) ?_⟩
      rw [slices_Concat_Sint_int_b2_eq]
      exact ⟨⟨by omega, by omega⟩, ⟨rfl, 2, rfl, by omega, by simp⟩, by simp⟩
  · obtain rfl : i = 2 := by omega
    rw [slices_Concat_Sint_int_b3_eq]
    refine (Grow0_ok _ h3 (by omega) (by simp; omega)).mono fun v h4 ⟨q, d, A, hv, o, s⟩ => ⟨_, _, _, hv, ?_⟩
    refine ⟨fun x h' => ∃ (i : Nat) (A : Bag), x.2.1 = i ∧ i ≤ 2 ∧ Sl TI x.1.1 x.1.2.1 x.1.2.2 (if i = 0 then [] else if i = 1 then xs else xs ++ ys) A ∧ St h3 h' (A + 0), fun x _ => (2 - x.2.1).toNat, ⟨0, A, rfl, by omega, o, s.to⟩, ?_⟩
    clear s o hv
    rintro ⟨⟨oq, om, od⟩, z, _⟩ h5 ⟨i, A, hz, hi, o, s⟩
    dsimp only at hz o ⊢
    subst hz
    rw [slices_Concat_Sint_int_b4_eq]
    refine condP (fun hlt => ?_) (fun hge => ?_)
    · have hom := o.len
      rcases (by omega : i = 0 ∨ i = 1) with rfl | rfl
      · rw [if_pos rfl] at o hom
        rw [List.length_nil] at hom
        refine rdA _ _ s.ext (append_sl ok_int s o (r1.ext s.ext) (by omega) fun p' c' h6 A1 o1 s => ?_)
        rw [slices_Concat_Sint_int_b5_eq]
        exact ⟨⟨by omega, by omega⟩, ⟨1, A1, rfl, by omega, by simpa using o1, s⟩, by simp⟩
      · rw [if_neg (by decide), if_pos rfl] at o hom
        refine rdB _ _ s.ext (append_sl ok_int s o (r2.ext s.ext) (by omega) fun p' c' h6 A1 o1 s => ?_)
        rw [slices_Concat_Sint_int_b5_eq]
        exact ⟨⟨by omega, by omega⟩, ⟨2, A1, rfl, by omega, by simpa using o1, s⟩, by simp⟩
    · obtain rfl : i = 2 := by omega
      rw [slices_Concat_Sint_int_b6_eq]
      exact ⟨oq, om, od, A, rfl, by simpa using o, s.to⟩
/-! ### error numbers -/
abbrev tEr : Ty Int := tI 33
theorem ldE {h : Hp} {p : Option Addr} {n : Nat} {l : List Int} {i : Int} {i' : Nat} {Q : Int → Prop} (r : RdT tEr h p n l) (ei : i = (i' : Int)) (h1 : i' < n) (hq : Q (l.getD i' 0)) :
    (0 ≤ i ∧ i < (n : Int)) ∧ NN p fun a => ∃ x : Int, cell h (a.add (Int.toNat i * 1)) = some (.int .i64 x) ∧ Q x := by
  subst ei
  exact r.int (by omega) (by omega) (by rw [Int.toNat_natCast]; exact hq)
theorem Max_ok {h : Hp} {p : Option Addr} {n c : Nat} {xs : List Int} (r : RdT tEr h p n xs) (h1 : 1 ≤ n) (hn : n ≤ 1000000) (hz : ∀ i, i < n → xs.getD i 0 = 0) :
    HCalls Tryz.prog 13 #[.slice p n c] h (fun v h' => h' = h ∧ v = .int .i64 0) := by
  refine slices_Max_Sapi_Errno_api_Errno_call ?_
  rw [slices_Max_Sapi_Errno_api_Errno_b0_eq]
  refine condNo (decide_eq_false (by omega)) ?_
  rw [slices_Max_Sapi_Errno_api_Errno_b1_eq]
  refine ldE (i' := 0) r rfl (by omega) ?_
  rw [hz 0 (by omega)]
  refine ⟨fun x h' => h' = h ∧ ∃ i : Nat, x.2.1 = i ∧ i ≤ n ∧ x.1 = 0, fun x _ => (n - x.2.1).toNat, ⟨rfl, 1, rfl, h1, rfl⟩, ?_⟩
  rintro ⟨m, z, _⟩ h2 ⟨rfl, i, hz', hi, hm⟩
  dsimp only at hz' hm ⊢
  subst hz' hm
  rw [slices_Max_Sapi_Errno_api_Errno_b2_eq]
  refine condP (fun hlt => ?_) (fun hge => ?_)
  · refine ldE (i' := i) r rfl (by omega) ?_
    rw [hz i (by omega), slices_Max_Sapi_Errno_api_Errno_b3_eq]
    exact ⟨⟨by omega, by omega⟩, ⟨rfl, i + 1, by push_cast; rfl, by omega, by simp⟩, by dsimp only; omega⟩
  · rw [slices_Max_Sapi_Errno_api_Errno_b4_eq]
    exact ⟨rfl, rfl⟩
end Go.Proofs.YtfkccighnkepgaaGreat

/- The law: all indexes agree. -/
set_option maxRecDepth 100000
namespace Go.Proofs.YtfkccighnkepgaaGreat
open Go Go.Sx
theorem wgt_split {p q r : LRow → Bool} : ∀ {L : List LRow}, (∀ x ∈ L, r x = (p x || q x) ∧ (p x && q x) = false) → wgt (L.filter p) + wgt (L.filter q) = wgt (L.filter r) ∧ ((L.filter p).map Prod.fst ++ (L.filter q).map Prod.fst).Perm ((L.filter r).map Prod.fst)
  | [], _ => ⟨rfl, .refl _⟩
  | x :: L, h => by
    obtain ⟨h1, h2⟩ := h x List.mem_cons_self
    obtain ⟨i1, i2⟩ := wgt_split (L := L) (p := p) (q := q) (r := r) fun y hy => h y (List.mem_cons_of_mem _ hy)
    have hw : ∀ (l : List LRow), wgt (x :: l) = x.2.2.2.2.1 + wgt l := fun l => by unfold wgt; rw [List.map_cons, List.sum_cons]
    rw [List.filter_cons, List.filter_cons, List.filter_cons, h1]
    cases hp : p x <;> cases hq : q x <;> simp only [Bool.or_false, Bool.or_true, if_true, if_false, Bool.false_eq_true]
    · exact ⟨i1, i2⟩
    · refine ⟨?_, ?_⟩
      · rw [hw, hw, ← i1]; omega
      · exact List.perm_middle.trans (.cons _ i2)
    · refine ⟨?_, ?_⟩
      · rw [hw, hw, ← i1]; omega
      · exact List.Perm.cons _ i2
    · rw [hp, hq] at h2; cases h2
theorem wgt_le : ∀ {L : List LRow}, (∀ x ∈ L, vRec x.2 = true) → -(1048576 * (L.length : Int)) ≤ wgt L ∧ wgt L ≤ 1048576 * (L.length : Int)
  | [], _ => by decide
  | x :: L, h => by
    obtain ⟨i1, i2⟩ := wgt_le (L := L) fun y hy => h y (List.mem_cons_of_mem _ hy)
    have hx := h x List.mem_cons_self
    unfold vRec at hx
    rw [Bool.and_eq_true, decide_eq_true_eq] at hx
    have := hx.1.2.2.2.1
    have hw : wgt (x :: L) = x.2.2.2.2.1 + wgt L := by unfold wgt; rw [List.map_cons, List.sum_cons]
    rw [hw, List.length_cons]
    push_cast
    omega
theorem perm_sum {l m : List Int} (h : l.Perm m) : l.sum = m.sum := by
  induction h with
  | nil => rfl
  | cons a _ ih => rw [List.sum_cons, List.sum_cons, ih]
  | swap a b l => simp only [List.sum_cons]; omega
  | trans _ _ h1 h2 => rw [h1, h2]
def sumK (L : List LRow) (l : List Int) : Int := (l.map fun id => (recL L id).2.2.2.1).sum
theorem sumK_all {L : List LRow} {nx : Int} (o : LOk L nx) {l : List Int} (h : l.Perm (L.map Prod.fst)) : sumK L l = wgt L := by
  unfold sumK
  rw [perm_sum (h.map _), List.map_map]
  unfold wgt
  congr 1
  exact List.map_congr_left fun x hx => by
    show (recL L x.1).2.2.2.1 = _
    rw [recL_mem o.ids hx]
theorem sumK_snoc (L : List LRow) (l : List Int) (id : Int) : sumK L (l ++ [id]) = sumK L l + (recL L id).2.2.2.1 := by
  unfold sumK
  rw [List.map_append, List.sum_append]
  simp
theorem sorted_eq {l m : List Int} (h : l.Perm m) (h1 : l.Pairwise fun x y => x ≤ y) (h2 : m.Pairwise fun x y => x ≤ y) : l = m :=
  List.Perm.eq_of_pairwise (fun _ _ _ _ a b => Int.le_antisymm a b) h1 h2 h
theorem ids_le {L : List LRow} {nx : Int} (o : LOk L nx) : (L.map Prod.fst).Pairwise fun x y => x ≤ y := List.pairwise_map.2 (o.so.imp fun h => Int.le_of_lt h)
theorem contains_nil (s : List UInt8) : Lib.contains s [] = true := by
  unfold Lib.contains
  rcases Lib.index_spec s [] with ⟨h1, h2⟩ | ⟨k, h1, _, _, _⟩
  · have := h2 0 (Nat.zero_le _)
    simp [Lib.occAt] at this
  · rw [h1]; exact decide_eq_true (by omega)
theorem upd_same {L : List LRow} {nx : Int} (o : LOk L nx) (hkn : (keysL L).Nodup) {id : Int} {r : Rec} (h : (id, r) ∈ L) : updP L id r = (L, 0) := by
  have hm : id ∈ L.map Prod.fst := List.mem_map.2 ⟨_, h, rfl⟩
  have hu : updL L id r = L := by
    unfold updL
    conv => rhs; rw [← List.map_id L]
    refine List.map_congr_left fun x hx => ?_
    split
    · rename_i hxe
      exact (nodup_inj (f := Prod.fst) o.ids hx h hxe).symm
    · rfl
  unfold updP
  rw [if_neg (vnot1 (o.val _ h)), if_neg (fun hc => hc hm), if_neg, hu]
  rintro ⟨x, hx, hk, hne⟩
  exact hne (congrArg Prod.fst (nodup_inj (f := fun x : LRow => x.2.1) hkn hx h hk))
section
variable {h0 h : Hp} {tb : Nat} {L : List LRow} {nx w cut : Int} {part : ByteArray} {kq sq : Option Addr} {km kd sm sd : Nat} {l1 : List Int} {A B1 B2 G : Bag}
theorem agrees_b6 {h1 : Hp} (hm : MaxL h0) (a : TabS tb L nx A) (os : Sl TI sq sm sd ((L.filter fun x => Lib.contains x.2.2.2.2.2.data.toList part.data.toList).map Prod.fst) B2) (s : St h0 h1 (A + (B2 + G))) :
    l50_TableAgrees_b6 part (some ⟨tb, 0, none⟩) sq sm sd w w h1 (fun v h' => v = .bool true ∧ Ext h0 h') := by
  have hol := a.ok.len
  have hsl := os.len
  have hfl := List.length_filter_le (fun x : LRow => Lib.contains x.2.2.2.2.2.data.toList part.data.toList) L
  rw [List.length_map] at hsl
  rw [l50_TableAgrees_b6_eq]
  refine (ByName_s a hm part (s.at A)).mono fun v h2 ⟨q, m, d, B3, hv, o3, s⟩ => ⟨_, _, _, _, hv, condYes (decide_eq_true rfl) (condYes rfl ?_)⟩
  refine (EqualI (os.rd (s.at B2)) (o3.rd (s.at B3)) (by omega)).mono fun v h3 ⟨hh, hv⟩ => ⟨_, hv, condYes (decide_eq_true rfl) ?_⟩
  subst hh
  exact (Check_s a (s.at A)).mono fun v h4 ⟨hv, s⟩ => ⟨_, hv, rfl, s.ext⟩
theorem agrees_b3 {h1 : Hp} (hm : MaxL h0) (a : TabS tb L nx A) (hnx : nx ≤ 900000) (ok : Sl TI kq km kd l1 B1) (hb : ByK L (-1048576) 1048576 l1) (os : Sl TI sq sm sd ((L.filter fun x => Lib.contains x.2.2.2.2.2.data.toList part.data.toList).map Prod.fst) B2) (s : St h0 h1 (A + (B1 + (B2 + G)))) :
    l50_TableAgrees_b3 part (some ⟨tb, 0, none⟩) kq km kd sq sm sd (wgt L) h1 (fun v h' => v = .bool true ∧ Ext h0 h') := by
  have lo := a.ok
  have hkn := a.keys
  have hol := lo.len
  have hkl := ok.len
  have hp := hb.1
  rw [all_key lo] at hp
  have hpl := hp.length_eq
  rw [List.length_map] at hpl
  have hnd : l1.Nodup := hp.nodup_iff.2 lo.ids
  rw [l50_TableAgrees_b3_eq]
  refine ⟨fun x h' => ∃ (i : Nat) (A : Bag), x.2.2.1 = i ∧ i ≤ km ∧ (∀ j, j < i → (recL L (l1.getD j 0)).1 ≤ x.1) ∧ (∀ j, i ≤ j → j < km → x.1 < (recL L (l1.getD j 0)).1) ∧ x.2.1 = sumK L (l1.take i) ∧ (-(1048576 * (i : Int)) ≤ x.2.1 ∧ x.2.1 ≤ 1048576 * (i : Int)) ∧ TabS tb L nx A ∧ St h0 h' (A + (B1 + (B2 + G))), fun x _ => (km - x.2.2.1).toNat, ⟨0, A, rfl, Nat.zero_le _, fun j hj => absurd hj (Nat.not_lt_zero _), fun j _ hj => ?_, rfl, ⟨by decide, by decide⟩, a, s⟩, ?_⟩
  · have hjl : j < l1.length := by omega
    have hmem := hp.mem_iff.1 (show l1.getD j 0 ∈ l1 by rw [getD_get hjl]; exact List.getElem_mem hjl)
    obtain ⟨x, hx, hxe⟩ := List.mem_map.1 hmem
    rw [← hxe, recL_mem lo.ids hx]
    have hv := lo.val x hx
    unfold vRec at hv
    rw [Bool.and_eq_true, decide_eq_true_eq] at hv
    have := hv.1.1
    dsimp only
    omega
  clear a s
  rintro ⟨last, sum, z, _⟩ h2 ⟨i, A, hz, hi, hlo, hhi, hsum, hsb, a, s⟩
  dsimp only at hz hlo hhi hsum hsb ⊢
  subst hz
  rw [l50_TableAgrees_b4_eq]
  refine condP (fun hlt => ?_) (fun hge => ?_)
  · have hil : i < l1.length := by omega
    have htk : l1.take (i + 1) = l1.take i ++ [l1.getD i 0] := by rw [getD_get hil, List.take_succ_eq_append_getElem hil]
    have hmem := hp.mem_iff.1 (show l1.getD i 0 ∈ l1 by rw [getD_get hil]; exact List.getElem_mem hil)
    refine ldI (i' := i) (ok.rd (s.at B1)) rfl (by omega) ?_
    refine (Get_s a (s.at A) (l1.getD i 0)).mono fun v h3 ⟨s, hv⟩ => ?_
    rcases hv with ⟨hno, hv⟩ | ⟨r, hr, hv⟩
    · exact absurd hmem hno
    have er : recL L (l1.getD i 0) = r := recL_mem lo.ids (e := (l1.getD i 0, r)) hr
    have hlast := hhi i (Nat.le_refl _) (by omega)
    have hvr := lo.val _ hr
    unfold vRec at hvr
    rw [Bool.and_eq_true, decide_eq_true_eq] at hvr
    have hW : KeyP r.2.2.2.1 := hvr.1.2.2.2.1
    rw [er] at hlast
    refine ⟨_, _, _, _, _, _, hv, s.new (cs := [_, _, _, _, _]) fun b4 h4 _ s => wr5 s fun h5 s => condNo rfl ⟨_, s.ld0, condNo (decide_eq_false (by omega)) ⟨_, _, _, _, _, s.ld0, s.ldB, s.ldB, s.ldB, s.ldB, ?_⟩⟩⟩
    refine (Update_S a (s.at A) (l1.getD i 0) r).mono fun v h6 ⟨hv6, A', a', s⟩ => ?_
    rw [upd_same lo hkn hr] at hv6 a'
    refine ⟨_, hv6, condNo rfl ?_⟩
    rw [l50_TableAgrees_b5_eq]
    refine ⟨_, s.ld0, _, s.ldB, ⟨by omega, by omega⟩, ?_⟩
    rw [l50_TableAgrees_b7_eq]
    refine ⟨⟨by omega, by omega⟩, ⟨i + 1, A', by push_cast; rfl, by omega, fun j hj => ?_, fun j hj hjm => ?_, ?_, ⟨by push_cast; omega, by push_cast; omega⟩, a', ((s.find b4).drop).to⟩, by dsimp only; omega⟩
    · rcases Nat.lt_or_ge j i with h | h
      · exact Int.le_trans (hlo j h) (Int.le_of_lt hlast)
      · obtain rfl : j = i := by omega
        rw [er]; exact Int.le_refl _
    · have hjl : j < l1.length := by omega
      have hpw := List.pairwise_iff_getElem.1 hb.2 i j hil hjl (by omega)
      rw [getD_get hil] at er
      rw [er] at hpw
      rw [getD_get hjl]
      refine Int.lt_iff_le_and_ne.2 ⟨hpw, fun hc => ?_⟩
      have hmj := hp.mem_iff.1 (List.getElem_mem hjl)
      obtain ⟨x, hx, hxe⟩ := List.mem_map.1 hmj
      rw [← hxe, recL_mem lo.ids hx] at hc
      have := nodup_inj (f := fun x : LRow => x.2.1) hkn hr hx hc
      have hne := List.pairwise_iff_getElem.1 (List.nodup_iff_pairwise_ne.1 hnd) i j hil hjl (by omega)
      exact hne (by rw [← hxe, ← this, getD_get hil])
    · rw [htk, sumK_snoc, er, hsum]
  · obtain rfl : i = km := by omega
    rw [List.take_of_length_le (by omega), sumK_all lo hp] at hsum
    rw [hsum]
    exact agrees_b6 hm a os (s.to (B := A + (B2 + (B1 + G))))
theorem agrees_b2 {h1 : Hp} {aq pq nq lq rq : Option Addr} {am ad pm pd nm nd lm ld rm rd : Nat} {Ba Bp Bn Bl Br : Bag} {L1 L2 : List Int} (hm : MaxL h0) (a : TabS tb L nx A) (hnx : nx ≤ 900000) (oa : Sl TI aq am ad (L.map Prod.fst) Ba) (ok : Sl TI kq km kd l1 B1) (hb : ByK L (-1048576) 1048576 l1) (op : Sl TI pq pm pd (L.map Prod.fst) Bp) (on : Sl TI nq nm nd (L.map Prod.fst) Bn) (os : Sl TI sq sm sd ((L.filter fun x => Lib.contains x.2.2.2.2.2.data.toList part.data.toList).map Prod.fst) B2) (ol : Sl TI lq lm ld L1 Bl) (or : Sl TI rq rm rd L2 Br) (hlr : (L1 ++ L2).Perm (L.map Prod.fst))
    (s : St h0 h1 (A + (B1 + (B2 + (Ba + (Bp + (Bn + (Bl + (Br + G))))))))) :
    l50_TableAgrees_b2 part (some ⟨tb, 0, none⟩) aq am ad kq km kd pq pm pd nq nm nd sq sm sd lq lm ld rq rm rd (wgt L) h1 (fun v h' => v = .bool true ∧ Ext h0 h') := by
  have lo := a.ok
  have hol := lo.len
  have hp := hb.1
  rw [all_key lo] at hp
  have hpl := hp.length_eq
  rw [List.length_map] at hpl
  have hkl := ok.len
  have hal := oa.len
  have hll := ol.len
  have hrl := or.len
  have hlrl := hlr.length_eq
  rw [List.length_append, List.length_map] at hlrl
  rw [List.length_map] at hal
  rw [l50_TableAgrees_b2_eq]
  refine (Values_ok kq km kd h1).mono fun v h2 ⟨b, hv, st⟩ => ⟨_, hv, ?_⟩
  have s := s.join st
  refine (Sorted_ok (ok.rd (s.at B1)) (s.ld0 (b := b)) (by omega)).mono fun v h3 ⟨q3, d3, B3, ys, hv, o3, hy, hyp, st⟩ => ⟨_, _, _, hv, ?_⟩
  have s := s.join st
  refine s.new (cs := [_, _]) fun b3 h4 _ s => ?_
  have ob : Sl tSH (some ⟨b3, 0, none⟩) 2 2 [(lq, lm, ld), (rq, rm, rd)] (cA b3 [.slice lq lm ld, .slice rq rm rd] 26) := Sl.of_blk (T := tSH) rfl rfl
  refine (Concat_ok (ob.rd (s.at (cA b3 _ _))) (ol.rd (s.at Bl)) (or.rd (s.at Br)) (by omega) (by omega)).mono fun v h5 ⟨q4, m4, d4, B4, hv, o4, st⟩ => ⟨_, _, _, hv, ?_⟩
  have s := s.join st
  have h4l := o4.len
  rw [List.length_append] at h4l
  refine (Values_ok q4 m4 d4 h5).mono fun v h6 ⟨b', hv, st⟩ => ⟨_, hv, ?_⟩
  have s := s.join st
  refine (Sorted_ok (o4.rd (s.at B4)) (s.ld0 (b := b')) (by omega)).mono fun v h7 ⟨q5, d5, B5, zs, hv, o5, hz, hzp, st⟩ => ⟨_, _, _, hv, ?_⟩
  have s := s.join st
  have ey := sorted_eq (hy.trans hp) hyp (ids_le lo)
  have ez := sorted_eq (hz.trans hlr) hzp (ids_le lo)
  subst ey ez
  refine (EqualI (o3.rd (s.at B3)) (oa.rd (s.at Ba)) (by omega)).mono fun v h8 ⟨hh, hv⟩ => ⟨_, hv, condNo (by simp) ?_⟩
  subst hh
  have hpm := op.len
  have hnm := on.len
  rw [List.length_map] at hpm hnm
  refine (EqualI (op.rd (s.at Bp)) (oa.rd (s.at Ba)) (by omega)).mono fun v h9 ⟨hh, hv⟩ => ⟨_, hv, condNo (by simp) ?_⟩
  subst hh
  refine (EqualI (on.rd (s.at Bn)) (oa.rd (s.at Ba)) (by omega)).mono fun v h10 ⟨hh, hv⟩ => ⟨_, hv, condNo (by simp) ?_⟩
  subst hh
  refine (EqualI (o5.rd (s.at B5)) (oa.rd (s.at Ba)) (by omega)).mono fun v h11 ⟨hh, hv⟩ => ⟨_, hv, condNo (by simp) ?_⟩
  subst hh
  exact agrees_b3 (G := Ba + (Bp + (Bn + (Bl + (Br + (G + (cA b [.slice kq km kd] 26 + (B3 + (cA b3 [.slice lq lm ld, .slice rq rm rd] 26 + (B4 + (cA b' [.slice q4 m4 d4] 26 + B5))))))))))) hm a hnx ok hb os s.to
end
section
variable {h : Hp} {p : Option Addr} {n c : Nat} {l : List S9}
theorem agrees_b1 {h1 : Hp} {cut : Int} {part : ByteArray} (r : RdT tS9 h p n l) (hl : ∀ x ∈ l, ∃ y, StpIs h x y) (hm : MaxL h) (hs : n ≤ 40 ∧ ∀ x ∈ l, small x) (hc1 : -1048576 ≤ cut) (hc2 : cut < 1048576) (x0 : Ext h h1) :
    l50_TableAgrees_b1 p n c cut part h1 (fun v h' => v = .bool true ∧ Ext h h') := by
  obtain ⟨ys, hyl, hy⟩ := steps_ys hl
  have s := (St.start h).grow x0
  have hnx : (playL ys).2 ≤ 900000 := by
    have := play_nx (ys := ys) fun y hy' => by
      obtain ⟨i, hi, rfl⟩ := List.getElem_of_mem hy'
      have hil : i < l.length := by omega
      have h1 := hy i hil
      rw [getD_get hi] at h1
      have h2 := hs.2 (l.getD i tS9.d) (by rw [getD_get hil]; exact List.getElem_mem hil)
      have h3 := h1.2.2.2.2.1.len
      rw [h3]; exact h2.2
    have := hs.1
    have := r.len
    omega
  rw [l50_TableAgrees_b1_eq]
  refine Played_l r hyl hy hs s fun tb p n c q m d O1 O2 A h2 o1 o2 a s => ⟨_, _, _, _, _, _, _, _, _, rfl, ?_⟩
  have lo := a.ok
  have hol := lo.len
  generalize (playL ys).1 = L at *
  generalize (playL ys).2 = nx at *
  refine s.new (cs := [_, _, _]) fun b1 h3 _ s => s.wr3 fun h4 s => condNo rfl ?_
  refine (List_s a (s.at A)).mono fun v h5 ⟨aq, am, ad, Ba, hv, oa, s⟩ => ⟨_, _, _, hv, ?_⟩
  refine (ByKey_s a (s.at A) _ _).mono fun v h6 ⟨kq, km, kd, B1, l1, hv, ok, hb, s⟩ => ⟨_, _, _, _, hv, ?_⟩
  refine (ByPlace_s a (s.at A) _ _ _ _).mono fun v h7 ⟨pq, pm, pd, Bp, hv, op, s⟩ => ⟨_, _, _, _, hv, ?_⟩
  rw [all_place lo] at op
  refine (ByName_s a hm _ (s.at A)).mono fun v h8 ⟨nq, nm, nd, Bn, hv, on, s⟩ => ⟨_, _, _, _, hv, ?_⟩
  rw [List.filter_eq_self.2 fun x _ => contains_nil x.2.2.2.2.2.data.toList] at on
  refine (ByName_s a hm part (s.at A)).mono fun v h9 ⟨sq, sm, sd, B2, hv, os, s⟩ => ⟨_, _, _, _, hv, ?_⟩
  refine (ByPlace_s a (s.at A) _ _ _ _).mono fun v h10 ⟨lq, lm, ld, Bl, hv, ol, s⟩ => ⟨_, _, _, _, hv, ⟨by omega, by omega⟩, ?_⟩
  refine (ByPlace_s a (s.at A) _ _ _ _).mono fun v h11 ⟨rq, rm, rd, Br, hv, or, s⟩ => ⟨_, _, _, _, hv, ?_⟩
  refine (Weight_s a (s.at A) _ _ _ _).mono fun v h12 ⟨hv, s⟩ => ⟨_, _, hv, ?_⟩
  refine (Weight_s a (s.at A) _ _ _ _).mono fun v h13 ⟨hv, s⟩ => ⟨_, _, hv, ⟨by omega, by omega⟩, ?_⟩
  refine (Weight_s a (s.at A) _ _ _ _).mono fun v h14 ⟨hv, s⟩ => ⟨_, _, hv, ?_⟩
  obtain ⟨e1, e2⟩ := wgt_split (L := L) (p := fun x => inR (-1048576) cut (-1048576) 1048576 x.2) (q := fun x => inR (cut + 1) 1048576 (-1048576) 1048576 x.2) (r := fun x => inR (-1048576) 1048576 (-1048576) 1048576 x.2) fun x hx => by
    have hv := lo.val x hx
    unfold vRec at hv
    rw [Bool.and_eq_true, decide_eq_true_eq] at hv
    have k1 := hv.1.2.1
    have k2 := hv.1.2.2.1
    unfold inR
    rw [decide_eq_true (show -1048576 ≤ x.2.2.2.1 ∧ x.2.2.2.1 ≤ 1048576 from k2), Bool.and_true, Bool.and_true, Bool.and_true]
    by_cases hc : x.2.2.1 ≤ cut
    · rw [decide_eq_true (show -1048576 ≤ x.2.2.1 ∧ x.2.2.1 ≤ 1048576 from k1), decide_eq_true (show -1048576 ≤ x.2.2.1 ∧ x.2.2.1 ≤ cut from ⟨k1.1, hc⟩), decide_eq_false (by omega)]
      exact ⟨rfl, rfl⟩
    · rw [decide_eq_true (show -1048576 ≤ x.2.2.1 ∧ x.2.2.1 ≤ 1048576 from k1), decide_eq_false (by omega), decide_eq_true (show cut + 1 ≤ x.2.2.1 ∧ x.2.2.1 ≤ 1048576 from ⟨by omega, k1.2⟩)]
      exact ⟨rfl, rfl⟩
  rw [all_place lo] at e1 e2
  have w1 := wgt_le (L := L.filter fun x => inR (-1048576) cut (-1048576) 1048576 x.2) fun x hx => lo.val x (List.mem_filter.1 hx).1
  have w2 := wgt_le (L := L.filter fun x => inR (cut + 1) 1048576 (-1048576) 1048576 x.2) fun x hx => lo.val x (List.mem_filter.1 hx).1
  have f1 := List.length_filter_le (fun x : LRow => inR (-1048576) cut (-1048576) 1048576 x.2) L
  have f2 := List.length_filter_le (fun x : LRow => inR (cut + 1) 1048576 (-1048576) 1048576 x.2) L
  have hal := oa.len
  rw [List.length_map] at hal
  refine s.new (cs := [_, _, _, _, _, _, _, _, _]) fun b2 h15 _ s => ?_
  have ob : Sl tEr (some ⟨b2, 0, none⟩) 9 9 [0, 0, 0, 0, 0, 0, 0, 0, 0] (cA b2 [.int .i64 0, .int .i64 0, .int .i64 0, .int .i64 0, .int .i64 0, .int .i64 0, .int .i64 0, .int .i64 0, .int .i64 0] 33) := Sl.of_blk (T := tEr) rfl rfl
  refine (Max_ok (ob.rd s) (by decide) (by decide) (by decide)).mono fun v h16 ⟨hh, hv⟩ => ⟨_, hv, condNo rfl (condNo (decide_eq_false (by omega)) ⟨⟨by omega, by omega⟩, condNo (by rw [e1, all_place lo]; simp) ?_⟩)⟩
  subst hh
  rw [all_place lo]
  exact agrees_b2 (G := cA b2 [.int .i64 0, .int .i64 0, .int .i64 0, .int .i64 0, .int .i64 0, .int .i64 0, .int .i64 0, .int .i64 0, .int .i64 0] 33 + (cA b1 (tb50 p n c q m d nx) 29 + (O1 + (O2 + 0)))) hm a hnx oa ok hb op on os ol or e2 s.to
theorem agrees_law {cut : Int} {part : ByteArray} (r : RdT tS9 h p n l) (hl : ∀ x ∈ l, ∃ y, StpIs h x y) (hm : MaxL h) :
    HCalls Tryz.prog 3 #[.slice p n c, .int .i64 cut, .string part] h (fun v h' => v = .bool true ∧ Ext h h') := by
  refine l50_TableAgrees_call ?_
  rw [l50_TableAgrees_b0_eq]
  refine (Awake_r h hm).mono fun v h1 ⟨x1, hv⟩ => ⟨_, hv, condNo rfl ?_⟩
  refine (Great_r (r.ext x1) fun x hx => by obtain ⟨y, _, _, _, _, hr, _⟩ := hl x hx; exact ⟨_, hr.ext x1⟩).mono fun v h2 ⟨x2, b, hv, hb⟩ => ⟨b, hv, cond_intro (fun hbt => ⟨rfl, x1.trans x2⟩) (fun hbf => condP (fun _ => ⟨rfl, x1.trans x2⟩) (fun hp => condP (fun _ => ⟨rfl, x1.trans x2⟩) (fun hc1 => condP (fun _ => ⟨rfl, x1.trans x2⟩) (fun hc2 => ?_))))⟩
  exact agrees_b1 r hl hm (hb hbf) (by omega) (by omega) (x1.trans x2)
end
end Go.Proofs.YtfkccighnkepgaaGreat
