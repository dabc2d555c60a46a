/- Part QD QE QF QH QG of the proof: contracts of functions of the program, and what follows from them. -/
import Derived.Test.YtdlkohenamlnaaaGreatSxQC
set_option maxRecDepth 100000
/- The reference's log: replaying, whether an operation may be added; comparing states. -/
namespace Go.Proofs.YtdlkohenamlnaaaGreat
open Go Go.Sx
def RepP (k : Int) (m : List EnL) (h : Hp) (v : Value) (h' : Hp) : Prop :=
  ((bad (runR k (opE m)).2 (tsE m)).2 = 0 ∧ ∃ q n d B, v = .tuple #[.agg #[.int .i64 k, .slice q n d], .int .i64 0, .int .i64 0] ∧ RowsA (q, n, d) (runR k (opE m)).1 B ∧ St h h' (B + 0)) ∨
  ((bad (runR k (opE m)).2 (tsE m)).2 ≠ 0 ∧ v = .tuple #[.agg #[.int .i64 0, .slice none 0 0], .int .i64 (bad (runR k (opE m)).2 (tsE m)).1, .int .i64 (bad (runR k (opE m)).2 (tsE m)).2] ∧ Ext h h')
theorem yaqb {k : Int} {ops : List OpL} {i : Nat} (hi : i < ops.length) : ∀ {j : Nat}, i < j → j ≤ ops.length → (runR k (ops.take j)).2.getD i (0, 0) = (stepR k (runR k (ops.take i)).1 (ops.getD i (0, [])).1 (ops.getD i (0, [])).2).2
  | 0, h, _ => absurd h (by omega)
  | j + 1, h, hj => by
    have hlen := yahz (k := k) (ops := ops) (i := j) (by omega)
    rw [yaew (by omega)]
    rcases Nat.lt_or_ge i j with hij | hij
    · have := yaqb (k := k) hi hij (by omega)
      rw [← this, yaaf (by rw [List.length_append]; omega), List.getElem_append_left (by omega)]
      exact (yaaf (by omega)).symm
    · obtain rfl : i = j := by omega
      rw [yaaf (by rw [List.length_append, hlen]; simp), List.getElem_append_right (by omega)]
      simp [hlen]
section
variable {h : Hp} {p : OA} {n c : Nat} {xs : List EnT} {m : List EnL} {k : Int}
theorem yags (hk : 1 ≤ k ∧ k ≤ 6) (hv : AllV k (opE m)) (r : RdT tEn h p n xs) (al : AllE h xs m) (hn : n ≤ 1000) :
    yaae Tryz.prog 36 #[.int .i64 k, .slice p n c] h (RepP k m h) := by
  have hl := r.len
  have ha := al.len
  have hol : (opE m).length = n := by rw [List.length_map]; omega
  have htl : (tsE m).length = n := by rw [List.length_map]; omega
  have hrl : (runR k (opE m)).2.length = n := by have := yahz (k := k) (ops := opE m) (i := n) (by omega); rwa [List.take_of_length_le (by omega)] at this
  refine zdp_call ?_
  rw [zdp_b0]
  refine (St.start h).new (cs := [.int .i64 0, .slice none 0 0]) fun b1 h1 _ s => s.new (cs := [.int .i64 0, .slice none 0 0]) fun b2 h2 _ s => ?_
  refine s.wr rfl (by simp) fun h4 s => ?_
  refine s.wr (o := 1) (yaaj _ _ _) (by simp) fun h5 s => ?_
  have s5 : St h h5 (cA b2 [.int .i64 k, .slice none 0 0] 66 + (cA b1 [.int .i64 0, .slice none 0 0] 66 + 0)) := s
  refine ⟨fun x h' => ∃ (i : Nat) (q : OA) (nr d : Nat) (B : Bag), x.1 = i ∧ i ≤ n ∧ RowsA (q, nr, d) (runR k ((opE m).take i)).1 B ∧ (∀ j, j < i → ((runR k (opE m)).2.getD j (0, 0)).1 = 0) ∧ St h h' (cA b2 [.int .i64 k, .slice q nr d] 66 + (B + (cA b1 [.int .i64 0, .slice none 0 0] 66 + 0))), fun x _ => n - x.1.toNat, ⟨0, none, 0, 0, 0, rfl, by omega, by rw [List.take_zero]; exact Nest.nil, fun j hj => by omega, s5.to⟩, ?_⟩
  clear s s5
  rintro ⟨_, _⟩ h6 ⟨i, q, nr, d, B, rfl, hin, na, hall, s6⟩
  dsimp only
  have f1 := yame hk hv (i := i) (by omega)
  rw [zdp_b1]
  refine condP (fun hlt => ?_) (fun hge => ?_)
  · have r6 := r.ext s6.ext
    have pe := (al.ext s6.ext).get i (by omega)
    have hov := hv _ (yaav (l := opE m) (i := i) (d := (0, [])) (by omega))
    have hru := yaew (k := k) (ops := opE m) (i := i) (by omega)
    have hge := yaqb (k := k) (ops := opE m) (i := i) (by omega) (j := n) (by omega) (by omega)
    rw [List.take_of_length_le (by omega)] at hge
    have eo : (opE m).getD i (0, []) = (m.getD i dEn).2 := yabh (by omega)
    have et : at_ (tsE m) i = (m.getD i dEn).1 := yabh (by omega)
    rw [eo] at hov hru hge
    generalize m.getD i dEn = mi at pe hov hru hge et
    obtain ⟨pe1, pe2, pe3, pe4⟩ := pe
    have hzl := pe4.len
    have h64 := yafx hov
    obtain ⟨S, hS⟩ : ∃ S, stepR k (runR k ((opE m).take i)).1 mi.2.1 mi.2.2 = S := ⟨_, rfl⟩
    rw [hS] at hru hge
    have rr := yafi na (s6.to (B := B + (cA b2 [.int .i64 k, .slice q nr d] 66 + (cA b1 [.int .i64 0, .slice none 0 0] 66 + 0))))
    obtain ⟨ad, rfl, hc⟩ := r.at_ (i := i) (by omega)
    have k0 := hc 0 (by decide)
    have k1 := hc 1 (by decide)
    have k2 := hc 2 (by decide)
    generalize xs.getD i tEn.d = xi at pe1 pe2 pe3 pe4 hzl k0 k1 k2
    have k0 : cell h (ad.add (i * 3)) = some (.int .i64 xi.1) := by simpa [yacj] using k0
    have k1 : cell h ((ad.add (i * 3)).add 1) = some (.int .i64 xi.2.1) := k1
    have k2 : cell h (((ad.add (i * 3)).add 1).add 1) = some (.slice xi.2.2.1 xi.2.2.2.1 xi.2.2.2.2) := by rw [yacj (ad.add (i * 3))]; exact k2
    have k3 : cell h6 ((ad.add (i * 3)).add 1) = some (.int .i64 xi.2.1) := s6.ext.cell k1
    have k4 : cell h6 (((ad.add (i * 3)).add 1).add 1) = some (.slice xi.2.2.1 xi.2.2.2.1 xi.2.2.2.2) := s6.ext.cell k2
    have c1 : cell h6 ⟨b2, 0, none⟩ = some (.int .i64 k) := s6.ld0
    have c2 : cell h6 ((⟨b2, 0, none⟩ : Addr).add 1) = some (.slice q nr d) := s6.ldB
    have st : ∀ {h' : Hp}, Ext h6 h' → yaae Tryz.prog 39 #[.agg #[.int .i64 k, .slice q nr d], .agg #[.int .i64 xi.2.1, .slice xi.2.2.1 xi.2.2.2.1 xi.2.2.2.2]] h' (StepP h' 0 k S.1 S.2.1 S.2.2) := fun x => by
      have := yauy (c := d) (cc := xi.2.2.2.2) f1 hov (rr.ext x) (pe4.ext x) (by omega)
      rw [RunRP, hS] at this
      rw [pe2]; exact this
    have fin : ∀ {h' : Hp} {bt br : Nat} {q2 : OA} {m2 d2 : Nat} {B2 : Bag}, RowsA (q2, m2, d2) S.1 B2 → St h6 h' (cA bt [.int .i64 0, .slice none 0 0] 66 + (cA br [.int .i64 0, .int .i64 0, .slice none 0 0] 61 + (B2 + 0))) →
        Wr h' ⟨bt, 0, none⟩ (.int .i64 k) fun h9 => Wr h9 ((⟨bt, 0, none⟩ : Addr).add 1) (.slice q2 m2 d2) fun h10 => Wr h10 ⟨br, 0, none⟩ (.int .i64 S.2.1) fun h11 => Wr h11 ((⟨br, 0, none⟩ : Addr).add 1) (.int .i64 S.2.2) fun h12 => Wr h12 ((⟨br, 0, none⟩ : Addr).add 2) (.slice none 0 0) fun h13 =>
        zdp_b2 (some ad) n c (some ⟨b1, 0, none⟩) (some ⟨b2, 0, none⟩) (i : Int) (some ⟨bt, 0, none⟩) (some ⟨br, 0, none⟩) h13 (fun s' h' => (∃ (i : Nat) (q : OA) (nr d : Nat) (B : Bag), s'.1 = i ∧ i ≤ n ∧ RowsA (q, nr, d) (runR k ((opE m).take i)).1 B ∧ (∀ j, j < i → ((runR k (opE m)).2.getD j (0, 0)).1 = 0) ∧ St h h' (cA b2 [.int .i64 k, .slice q nr d] 66 + (B + (cA b1 [.int .i64 0, .slice none 0 0] 66 + 0)))) ∧ n - s'.1.toNat < n - i) (RepP k m h) := by
      intro h' bt br q2 m2 d2 B2 na2 s'
      refine s'.wr rfl (by simp) fun h9 s' => ?_
      refine s'.wr (o := 1) (yaaj _ _ _) (by simp) fun h10 s' => ?_
      have s' := s'.to (B := cA br [.int .i64 0, .int .i64 0, .slice none 0 0] 61 + (cA bt [.int .i64 k, .slice q2 m2 d2] 66 + (B2 + 0)))
      refine s'.wr rfl (by simp) fun h11 s' => ?_
      refine s'.wr (o := 1) (yaaj _ _ _) (by simp) fun h12 s' => ?_
      refine s'.wr (o := 2) (yaaj _ _ _) (by simp) fun h13 s' => ?_
      have s' : St h6 h13 (cA br [.int .i64 S.2.1, .int .i64 S.2.2, .slice none 0 0] 61 + (cA bt [.int .i64 k, .slice q2 m2 d2] 66 + (B2 + 0))) := s'
      rw [zdp_b2]
      refine ⟨_, s'.ld0, condN (fun hne => ?_) (fun he => ?_)⟩
      · have hb := yayb (rs := (runR k (opE m)).2) (ts := tsE m) (i := i) (by omega) (by omega) hall (by rw [hge]; exact hne)
        rw [hge] at hb
        refine ⟨⟨by omega, by omega⟩, _, by rw [Int.toNat_natCast]; exact (s6.ext.trans s'.ext).cell k0, _, s'.ld0, ?_⟩
        have sj := (s6.join s').to (B := cA b1 [.int .i64 0, .slice none 0 0] 66 + (cA br [.int .i64 S.2.1, .int .i64 S.2.2, .slice none 0 0] 61 + (cA bt [.int .i64 k, .slice q2 m2 d2] 66 + (B2 + 0) + (cA b2 [.int .i64 k, .slice q nr d] 66 + (B + 0)))))
        refine sj.wr rfl (by simp) fun h14 s14 => ?_
        refine s14.wr (o := 1) (yaaj _ _ _) (by simp) fun h15 s15 => ?_
        have s15 : St h h15 (cA b1 [.int .i64 0, .slice none 0 0] 66 + (cA br [.int .i64 S.2.1, .int .i64 S.2.2, .slice none 0 0] 61 + (cA bt [.int .i64 k, .slice q2 m2 d2] 66 + (B2 + 0) + (cA b2 [.int .i64 k, .slice q nr d] 66 + (B + 0))))) := s15
        refine ⟨⟨_, s15.ld0, rfl⟩, ⟨_, by rw [Int.toNat_natCast]; exact s15.ext.cell k0, rfl⟩, ⟨_, s15.ld0, rfl⟩, _, _, _, _, s15.ld0, s15.ldB, Or.inr ⟨by rw [hb]; exact hne, ?_, s15.ext⟩⟩
        rw [hb, pe1, ← et]
      · refine ⟨_, _, _, _, s'.ld0, s'.ldB, ?_⟩
        have sj := (s6.join s').to (B := cA b2 [.int .i64 k, .slice q nr d] 66 + ((cA br [.int .i64 S.2.1, .int .i64 S.2.2, .slice none 0 0] 61 + cA bt [.int .i64 k, .slice q2 m2 d2] 66 + B) + (B2 + (cA b1 [.int .i64 0, .slice none 0 0] 66 + 0)) + 0))
        refine sj.wr rfl (by simp) fun h14 s14 => ?_
        refine s14.wr (o := 1) (yaaj _ _ _) (by simp) fun h15 s15 => ?_
        have s15 : St h h15 (cA b2 [.int .i64 k, .slice q2 m2 d2] 66 + ((cA br [.int .i64 S.2.1, .int .i64 S.2.2, .slice none 0 0] 61 + cA bt [.int .i64 k, .slice q2 m2 d2] 66 + B) + (B2 + (cA b1 [.int .i64 0, .slice none 0 0] 66 + 0)) + 0)) := s15
        have s16 := (s15.to (B := (cA br [.int .i64 S.2.1, .int .i64 S.2.2, .slice none 0 0] 61 + cA bt [.int .i64 k, .slice q2 m2 d2] 66 + B) + (cA b2 [.int .i64 k, .slice q2 m2 d2] 66 + (B2 + (cA b1 [.int .i64 0, .slice none 0 0] 66 + 0)) + 0))).drop
        rw [Bag.yaqx] at s16
        rw [zdp_b4]
        refine ⟨⟨by omega, by omega⟩, ⟨i + 1, q2, m2, d2, B2, by push_cast; rfl, by omega, by rw [hru]; exact na2, fun j hj => ?_, s16⟩, by simp only; omega⟩
        rcases Nat.lt_or_ge j i with h | h
        · exact hall j h
        · obtain rfl : j = i := by omega
          rw [hge]; exact he
    refine ⟨_, _, _, _, c1, c2, ⟨by omega, by omega⟩, _, _, _, _, by rw [Int.toNat_natCast]; exact k3, by rw [Int.toNat_natCast]; exact k4, ?_⟩
    rw [Int.toNat_natCast]
    have s := St.start h6
    repeat' first
      | (with_reducible refine fin na2 ?_); exact s.to
      | (with_reducible refine St.new s (cs := [.int .i64 0, .slice none 0 0]) ?_); intro ba _ _ s
      | (with_reducible refine St.new s (cs := [.int .i64 0, .int .i64 0, .slice none 0 0]) ?_); intro bc _ _ s
      | (with_reducible refine yaae.mono (st s.ext) ?_); rintro _ _ ⟨q2', m2', d2', B2, hv2', na2, tt⟩; refine ⟨_, _, _, _, _, _, _, _, _, hv2', ?_⟩; have s := s.join tt; clear tt
      | with_reducible refine ⟨⟨_, _, _, _, s.ext.cell k3, s.ext.cell k4, rfl⟩, ?_⟩
      | with_reducible refine ⟨⟨_, _, _, _, s.ext.cell c1, s.ext.cell c2, rfl⟩, ?_⟩
      | with_reducible refine ⟨?_, ?_⟩
  · obtain rfl : i = n := by omega
    rw [List.take_of_length_le (by omega)] at na
    have hb := yalg (rs := (runR k (opE m)).2) (ts := tsE m) (by omega) (fun j hj => hall j (by omega))
    rw [zdp_b3]
    refine ⟨_, _, _, _, s6.ld0, s6.ldB, ?_⟩
    have s6 := s6.to (B := cA b1 [.int .i64 0, .slice none 0 0] 66 + (cA b2 [.int .i64 k, .slice q nr d] 66 + (B + 0)))
    refine s6.wr rfl (by simp) fun h7 s7 => ?_
    refine s7.wr (o := 1) (yaaj _ _ _) (by simp) fun h8 s8 => ?_
    refine ⟨_, _, _, _, s8.blk.cell 0, Blk.cellA s8.blk 1, Or.inl ⟨by rw [hb], q, nr, d, B, rfl, na, s8.drop.drop⟩⟩
end
end Go.Proofs.YtdlkohenamlnaaaGreat
/- The reference's log: whether an operation may be added; comparing states. -/
namespace Go.Proofs.YtdlkohenamlnaaaGreat
open Go Go.Sx
def isU (k c : Int) : Bool := if k = 1 ∨ k = 2 then decide (c = 1 ∨ c = 3) else if k = 3 then decide (c = 1 ∨ c = 2 ∨ c = 4 ∨ c = 6) else if k = 4 ∨ k = 5 then decide (c = 1 ∨ c = 2) else decide (c = 1)
theorem yazg {k c : Int} (hk : 1 ≤ k ∧ k ≤ 6) (hc : 1 ≤ c ∧ c ≤ (arT k).length) : isU k c = updT k c := by
  have hk' : k = 1 ∨ k = 2 ∨ k = 3 ∨ k = 4 ∨ k = 5 ∨ k = 6 := by omega
  rcases hk' with rfl | rfl | rfl | rfl | rfl | rfl
  · have e : (arT 1).length = 8 := rfl
    have : c = 1 ∨ c = 2 ∨ c = 3 ∨ c = 4 ∨ c = 5 ∨ c = 6 ∨ c = 7 ∨ c = 8 := by omega
    rcases this with rfl | rfl | rfl | rfl | rfl | rfl | rfl | rfl <;> rfl
  · have e : (arT 2).length = 4 := rfl
    have : c = 1 ∨ c = 2 ∨ c = 3 ∨ c = 4 := by omega
    rcases this with rfl | rfl | rfl | rfl <;> rfl
  · have e : (arT 3).length = 7 := rfl
    have : c = 1 ∨ c = 2 ∨ c = 3 ∨ c = 4 ∨ c = 5 ∨ c = 6 ∨ c = 7 := by omega
    rcases this with rfl | rfl | rfl | rfl | rfl | rfl | rfl <;> rfl
  · have e : (arT 4).length = 5 := rfl
    have : c = 1 ∨ c = 2 ∨ c = 3 ∨ c = 4 ∨ c = 5 := by omega
    rcases this with rfl | rfl | rfl | rfl | rfl <;> rfl
  · have e : (arT 5).length = 5 := rfl
    have : c = 1 ∨ c = 2 ∨ c = 3 ∨ c = 4 ∨ c = 5 := by omega
    rcases this with rfl | rfl | rfl | rfl | rfl <;> rfl
  · have e : (arT 6).length = 4 := rfl
    have : c = 1 ∨ c = 2 ∨ c = 3 ∨ c = 4 := by omega
    rcases this with rfl | rfl | rfl | rfl <;> rfl
theorem yazw {k c : Int} (h : Hp) : yaae Tryz.prog 38 #[.int .i64 k, .int .i64 c] h (fun v h' => v = .bool (isU k c) ∧ h' = h) := by
  have two : ∀ {a b : Int} {X : Bool}, (X = decide (c = a ∨ c = b)) → (cond (decide (c = a)) ((Value.bool true = .bool X) ∧ h = h) ((Value.bool (decide (c = b)) = .bool X) ∧ h = h)) := by
    intro a b X hX
    subst hX
    refine condP (fun h1 => ⟨by rw [decide_eq_true (Or.inl h1)], rfl⟩) (fun h1 => ⟨?_, rfl⟩)
    congr 1
    exact decide_eq_decide.2 ⟨Or.inr, fun h => h.resolve_left h1⟩
  refine zcn_call ?_
  rw [zcn_b0]
  refine condP (fun hk => two (by unfold isU; rw [if_pos (Or.inl hk)])) (fun hk1 => condP (fun hk => two (by unfold isU; rw [if_pos (Or.inr hk)])) (fun hk2 => condP (fun hk => ?_) (fun hk3 => condP (fun hk => two (by unfold isU; rw [if_neg (by omega), if_neg hk3, if_pos (Or.inl hk)])) (fun hk4 => condP (fun hk => two (by unfold isU; rw [if_neg (by omega), if_neg hk3, if_pos (Or.inr hk)])) (fun hk5 => ?_)))))
  · have e : isU k c = decide (c = 1 ∨ c = 2 ∨ c = 4 ∨ c = 6) := by unfold isU; rw [if_neg (by omega), if_pos hk]
    rw [e]
    refine condP (fun h1 => ⟨by rw [decide_eq_true (by omega)], rfl⟩) (fun h1 => condP (fun h2 => ⟨by rw [decide_eq_true (by omega)], rfl⟩) (fun h2 => condP (fun h4 => ⟨by rw [decide_eq_true (by omega)], rfl⟩) (fun h4 => ⟨?_, rfl⟩)))
    congr 1
    exact decide_eq_decide.2 ⟨fun h => by omega, fun h => by omega⟩
  · rw [zcn_b1]
    exact ⟨by unfold isU; rw [if_neg (by omega), if_neg hk3, if_neg (by omega)], rfl⟩
theorem yalv {k c : Int} (hk : 1 ≤ k ∧ k ≤ 6) (hc : 1 ≤ c ∧ c ≤ (arT k).length) (h : Hp) : yaae Tryz.prog 38 #[.int .i64 k, .int .i64 c] h (fun v h' => v = .bool (updT k c) ∧ h' = h) := by
  rw [← yazg hk hc]; exact yazw h
def addE (k : Int) (ts : List Int) (time code : Int) (zs : List Int) : Int :=
  if ¬ OpV k code zs then 1 else if updT k code = false then 30 else if ¬ timeP time then 2 else if time ∈ ts then 15 else 0
section
variable {h : Hp} {p : OA} {n c : Nat} {xs : List EnT} {m : List EnL} {k : Int}
theorem yauk (hk : 1 ≤ k ∧ k ≤ 6) (r : RdT tEn h p n xs) (al : AllE h xs m) (hinc : Inc (tsE m)) (hn : n ≤ 1000) {time code : Int} {zs : List Int} {q : OA} {l d : Nat} (rz : RdT TI h q l zs) :
    yaae Tryz.prog 42 #[.int .i64 k, .slice p n c, .agg #[.int .i64 time, .int .i64 code, .slice q l d]] h (fun v h' => v = .int .i64 (addE k (tsE m) time code zs) ∧ Ext h h') := by
  refine zdl_call ?_
  rw [zdl_b0]
  refine (St.start h).new (cs := [.int .i64 time, .int .i64 code, .slice q l d]) fun b1 h1 _ s => ?_
  have e1 : cell h1 (((⟨b1, 0, none⟩ : Addr).add 1).add 1) = some (.slice q l d) := by rw [yacj]; exact s.ldB
  refine ⟨_, _, _, _, s.ldB, e1, (yaup (k := k) (c := code) (rz.ext s.ext)).mono fun v h2 ⟨hv, x2⟩ => ⟨_, hv, ?_⟩⟩
  have s := s.grow x2
  refine condN (fun hno => ⟨by unfold addE; rw [if_pos hno], s.ext⟩) (fun v1 => ⟨_, s.ldB, (yalv hk v1.1 h2).mono fun v h3 ⟨hv, hh⟩ => ⟨_, hv, ?_⟩⟩)
  subst hh
  refine yapv (fun hu => ⟨by unfold addE; rw [if_neg (fun h => h v1), if_pos hu], s.ext⟩) (fun hu => ⟨_, s.ld0, (yapo time h3).mono fun v h4 ⟨hv, hh⟩ => ⟨_, hv, ?_⟩⟩)
  subst hh
  refine condN (fun hno => ⟨by unfold addE; rw [if_neg (fun h => h v1), if_neg (by rw [hu]; decide), if_pos hno], s.ext⟩) (fun ht => ⟨_, s.ld0, (ybbb (r.ext s.ext) (al.ext s.ext) hinc hn time).mono fun v h5 ⟨hv, hh⟩ => ⟨_, hv, ?_⟩⟩)
  subst hh
  have e0 : ∀ e : Int, (if time ∈ tsE m then (15 : Int) else 0) = e → addE k (tsE m) time code zs = e := fun e he => by
    unfold addE; rw [if_neg (fun h => h v1), if_neg (by rw [hu]; decide), if_neg (fun h => h ht)]; exact he
  by_cases hm : time ∈ tsE m
  · rw [if_pos hm]
    exact yaax (decide_eq_true (by omega)) ⟨by rw [e0 15 (if_pos hm)], s.ext⟩
  · rw [if_neg hm]
    exact yaam (by decide) (yaam (decide_eq_false (by omega)) ⟨by rw [e0 0 (if_neg hm)], s.ext⟩)
theorem yawz {a b : Int} {q : OA} {l d : Nat} {r1 r2 : List (List Int)} (ra : RowsR h p n r1) (rb : RowsR h q l r2) (hn : n ≤ 1000) (hr : ∀ x ∈ r1, x.length ≤ 1000) :
    yaae Tryz.prog 48 #[.agg #[.int .i64 a, .slice p n c], .agg #[.int .i64 b, .slice q l d]] h (fun v h' => v = .bool (decide (a = b ∧ r1 = r2)) ∧ Ext h h') := by
  have l1 := ra.len
  have l2 := rb.len
  refine zco_call ?_
  rw [zco_b0]
  refine (St.start h).new (cs := [_, _]) fun b1 h1 _ s => s.new (cs := [_, _]) fun b2 h2 _ s => ?_
  refine ⟨_, s.ld0, _, s.ld0, condN (fun hne => ⟨by rw [decide_eq_false (fun h => hne h.1)], s.ext⟩) (fun he => ⟨_, _, _, s.ldB, _, _, _, s.ldB, condN (fun hne => ⟨by rw [decide_eq_false (fun h => hne (by rw [← l1, ← l2, h.2]))], s.ext⟩) (fun hel => ?_)⟩)⟩
  rw [zco_b1]
  refine ⟨fun x h' => h' = h2 ∧ ∃ i : Nat, x.1 = i ∧ i ≤ n ∧ ∀ j, j < i → r1.getD j [] = r2.getD j [], fun x _ => n - x.1.toNat, ⟨rfl, 0, rfl, Nat.zero_le _, fun j hj => absurd hj (by omega)⟩, ?_⟩
  rintro ⟨_, _⟩ h3 ⟨rfl, i, rfl, hi, hall⟩
  dsimp only
  rw [zco_b2]
  refine ⟨_, _, _, s.ldB, condP (fun hlt => ?_) (fun hge => ?_)⟩
  · have hsm := hr _ (yaav (l := r1) (d := []) (i := i) (by omega))
    refine ⟨_, _, _, s.ldB, (ra.ext s.ext).hdr rfl (by omega) fun q1 d1 rr1 _ => ⟨_, _, _, s.ldB, (rb.ext s.ext).hdr rfl (by omega) fun q2 d2 rr2 _ => ⟨decide (r1.getD i [] = r2.getD i []), ?_, ?_⟩⟩⟩
    · exact (yahg rr1 rr2 (by omega)).mono fun v h4 hv => by first | exact ⟨hv.2, hv.1⟩ | exact hv
    · refine condN (fun hne => ⟨by rw [decide_eq_false (fun h => hne (by rw [h.2]))], s.ext⟩) (fun heq => ?_)
      rw [zco_b3]
      refine ⟨⟨by omega, by omega⟩, ⟨rfl, i + 1, by push_cast; rfl, by omega, fun j hj => ?_⟩, by simp only; omega⟩
      rcases Nat.lt_or_ge j i with h | h
      · exact hall j h
      · rw [show j = i by omega]; exact heq
  · rw [zco_b4]
    refine ⟨by rw [decide_eq_true ⟨he, ?_⟩], s.ext⟩
    exact yadm (d := []) (by omega) fun j hj => hall j (by omega)
end
theorem yayq {zs : List Int} (h : zs.Pairwise (· < ·)) : Inc zs := by
  intro i j hij hj
  unfold at_
  rw [yaaf (by omega), yaaf hj]
  exact List.pairwise_iff_getElem.1 h i j (by omega) hj hij
theorem ybal {ts : List Int} {z : Int} (h : Inc ts) (hz : z ∉ ts) : Inc (putL (lbI ts z) z ts) := by
  have hp := yawf h
  have lb := yaob (z := z) h
  refine yayq (List.pairwise_append.2 ⟨hp.sublist (List.take_sublist _ _), List.pairwise_cons.2 ⟨fun b hb => ?_, hp.sublist (List.drop_sublist _ _)⟩, fun a ha b hb => ?_⟩)
  · obtain ⟨j, hj, e⟩ := List.mem_iff_getElem.1 hb
    rw [List.length_drop] at hj
    rw [List.getElem_drop] at e
    have := lb.2.2 (lbI ts z + j) (by omega) (by omega)
    unfold at_ at this
    rw [yaaf (by omega), e] at this
    have hne : z ≠ b := fun h => hz (by rw [h]; exact List.mem_of_mem_drop hb)
    omega
  · obtain ⟨j, hj, e⟩ := List.mem_iff_getElem.1 ha
    rw [List.length_take] at hj
    rw [List.getElem_take] at e
    have h1 := lb.2.1 j (by omega)
    unfold at_ at h1
    rw [yaaf (by omega), e] at h1
    rcases List.mem_cons.1 hb with rfl | hb
    · exact h1
    · obtain ⟨j2, hj2, e2⟩ := List.mem_iff_getElem.1 hb
      rw [List.length_drop] at hj2
      rw [List.getElem_drop] at e2
      have := lb.2.2 (lbI ts z + j2) (by omega) (by omega)
      unfold at_ at this
      rw [yaaf (by omega), e2] at this
      omega
theorem yaym {ts : List Int} (h : Inc ts) (i : Nat) : Inc (cutL ts i) := yayq ((yawf h).sublist (yafh _ _))
theorem ybbm (i : Nat) (x : EnL) (m : List EnL) : tsE (putL i x m) = putL i x.1 (tsE m) := by unfold putL; rw [tsE, List.map_append, List.map_cons, List.map_take, List.map_drop]
theorem ybbh (i : Nat) (x : EnL) (m : List EnL) : opE (putL i x m) = putL i x.2 (opE m) := by unfold putL; rw [opE, List.map_append, List.map_cons, List.map_take, List.map_drop]
theorem yayy (i : Nat) (m : List EnL) : tsE (cutL m i) = cutL (tsE m) i := by unfold cutL; rw [tsE, List.map_append, List.map_take, List.map_drop]
theorem ybat (i : Nat) (m : List EnL) : opE (cutL m i) = cutL (opE m) i := by unfold cutL; rw [opE, List.map_append, List.map_take, List.map_drop]
end Go.Proofs.YtdlkohenamlnaaaGreat
/- The law Log. -/
namespace Go.Proofs.YtdlkohenamlnaaaGreat
open Go Go.Sx
structure GoodL (k : Int) (L : LogS) (m : List EnL) : Prop where
  ts : L.ts = tsE m
  ops : L.ops = opE m
  rows : L.rows = (runR k (opE m)).1
  bd : (bad (runR k (opE m)).2 (tsE m)).2 = 0
  inc : Inc (tsE m)
  val : AllV k (opE m)
theorem GoodL.zl {k : Int} {L : LogS} {m : List EnL} (g : GoodL k L m) : GoodL k (zL L) m := ⟨g.ts, g.ops, g.rows, g.bd, g.inc, g.val⟩
theorem GoodL.ok {k : Int} {L : LogS} {m : List EnL} (hk : 1 ≤ k ∧ k ≤ 6) (g : GoodL k L m) : OkR k L.rows := by
  rw [g.rows]
  have := yame hk g.val (i := (opE m).length) (Nat.le_refl _)
  rwa [List.take_length] at this
def LawI (h0 : Hp) (k : Int) (gb : Nat) (mp : OA) (mn mc i : Nat) (hh : Hp) : Prop :=
  ∃ (L : LogS) (m : List EnL) (xs : List EnT) (A M J : Bag), LogA k gb L A ∧ Sl tEn mp mn mc xs M ∧ AllE h0 xs m ∧ GoodL k L m ∧ mn ≤ i ∧ St h0 hh (A + (M + J))
abbrev LawN (h0 : Hp) (k : Int) (gb n i : Nat) (s' : (OA × Nat × Nat) × Int × Unit) (h' : Hp) : Prop := (∃ i : Nat, s'.2.1 = i ∧ i ≤ n ∧ LawI h0 k gb s'.1.1 s'.1.2.1 s'.1.2.2 i h') ∧ n - s'.2.1.toNat < n - i
abbrev LawK (h : Hp) (v : Value) (h' : Hp) : Prop := v = .bool true ∧ Ext h h'
section
variable {hs h0 hh : Hp} {k : Int} {gb : Nat} {p : OA} {n c i : Nat} {mp : OA} {mn mc : Nat}
theorem yavo (hin : i < n) (hn : n ≤ 30) (hI : LawI h0 k gb mp mn mc (i + 1) hh) : zaf_b10 k (some ⟨gb, 0, none⟩) mp mn mc p n c n i hh (LawN h0 k gb n i) (LawK hs) := by
  rw [zaf_b10_eq]
  exact ⟨⟨by omega, by omega⟩, ⟨i + 1, by push_cast; rfl, by omega, hI⟩, by simp only; omega⟩
variable {L : LogS} {m : List EnL} {xs : List EnT} {A M J : Bag}
theorem yaor (hk : 1 ≤ k ∧ k ≤ 6) (hin : i < n) (hn : n ≤ 30) (la : LogA k gb L A) (o : Sl tEn mp mn mc xs M) (al : AllE h0 xs m) (g : GoodL k L m) (hm : mn ≤ i + 1) (s : St h0 hh (A + (M + J))) {time failed want f : Int} (e1 : L.fl = time) (e2 : L.wy = failed) (e3 : f = want) :
    zaf_b11 k (some ⟨gb, 0, none⟩) mp mn mc time failed want f p n c n i hh (LawN h0 k gb n i) (LawK hs) := by
  subst e1 e2 e3
  have ok := g.ok hk
  rw [zaf_b11_eq]
  refine (yaos la s).mono fun v h1 ⟨hv, hh1⟩ => ⟨_, _, hv, ?_⟩
  subst hh1
  have hrd := o.rd (s.to (B := M + (A + J)))
  refine (yags hk g.val hrd (al.ext s.ext) (by omega)).mono fun v h2 hr => ?_
  rcases hr with ⟨_, q, nr, d, B, hv, na, t2⟩ | ⟨hb, _⟩
  · refine ⟨_, _, _, _, _, _, hv, ?_⟩
    have s := s.join t2
    refine s.new (cs := [.int .i64 0, .slice none 0 0]) fun b5 h3 _ s => ?_
    refine s.wr rfl (by simp) fun h4 s => ?_
    refine s.wr (o := 1) (yaaj _ _ _) (by simp) fun h5 s => ?_
    have s : St h0 h5 (cA b5 [.int .i64 k, .slice q nr d] 66 + (B + 0 + (A + (M + J)))) := s
    refine condN (fun hne => absurd rfl hne) (fun _ => condN (fun hne => absurd rfl hne) (fun _ => condN (fun hne => absurd rfl hne) (fun _ => ?_)))
    refine ⟨_, _, _, _, s.ld0, s.ldB, (yatm ok la (s.to (B := A + (cA b5 [.int .i64 k, .slice q nr d] 66 + (B + 0 + (M + J)))))).mono fun v h6 ⟨q6, d6, B6, hv6, na6, t6⟩ => ⟨_, _, _, _, hv6, ?_⟩⟩
    have s := s.join t6
    have s : St h0 h6 (cA b5 [.int .i64 k, .slice q nr d] 66 + (B6 + (B + 0 + (A + (M + J))))) := s.to
    refine ⟨⟨_, _, _, _, s.ld0, s.ldB, rfl⟩, ?_⟩
    have r1 := yafi na6 (s.to (B := B6 + (cA b5 [.int .i64 k, .slice q nr d] 66 + (B + 0 + (A + (M + J))))))
    have r2 := yafi na (s.to (B := B + (cA b5 [.int .i64 k, .slice q nr d] 66 + (B6 + 0 + (A + (M + J))))))
    have hsm := yaey ok
    refine (yawz r1 r2 (by omega) (fun x hx => by have := hsm.2 x hx; omega)).mono fun v h7 ⟨hv7, x7⟩ => ⟨_, hv7, condN (fun hne => absurd ⟨rfl, g.rows⟩ hne) (fun _ => ?_)⟩
    exact yavo hin hn ⟨L, m, xs, A, M, _, la, o, al, g, hm, (s.grow x7).to (B := A + (M + (cA b5 [.int .i64 k, .slice q nr d] 66 + (B6 + (B + 0) + J))))⟩
  · exact absurd g.bd hb
theorem yavb (hk : 1 ≤ k ∧ k ≤ 6) (hin : i < n) (hn : n ≤ 30) (la : LogA k gb (zL L) A) (o : Sl tEn mp mn mc xs M) (al : AllE h0 xs m) (g : GoodL k L m) (hm : mn ≤ i) (s : St h0 hh (A + (M + J))) {want : Int} (hw : want ≠ 0) {np : OA} {nn nc : Nat} :
    zaf_b9 k (some ⟨gb, 0, none⟩) mp mn mc np nn nc want want p n c n i hh (LawN h0 k gb n i) (LawK hs) := by
  rw [zaf_b9_eq]
  exact yaam (decide_eq_false hw) (yaor hk hin hn la o al g.zl (by omega) s rfl rfl rfl)
theorem yavm (hk : 1 ≤ k ∧ k ≤ 6) (hin : i < n) (hn : n ≤ 30) (o : Sl tEn mp mn mc xs M) (al : AllE h0 xs m) (g : GoodL k L m) (hm : mn ≤ i)
    {np : OA} {nn nc : Nat} {xs2 : List EnT} {m2 : List EnL} {M2 : Bag} (o2 : Sl tEn np nn nc xs2 M2) (al2 : AllE h0 xs2 m2) (hn2 : nn ≤ i + 1) (hinc : Inc (tsE m2)) (hval : AllV k (opE m2))
    (la : LogA k gb (chgL (runR k) (zL L) (tsE m2) (opE m2)).1 A) (s : St h0 hh (A + (M + (M2 + J)))) :
    zaf_b9 k (some ⟨gb, 0, none⟩) mp mn mc np nn nc 0 (chgL (runR k) (zL L) (tsE m2) (opE m2)).2 p n c n i hh (LawN h0 k gb n i) (LawK hs) := by
  rw [zaf_b9_eq]
  have hrd := o2.rd (s.to (B := M2 + (A + (M + J))))
  refine yaax rfl ((yags hk hval hrd (al2.ext s.ext) (by omega)).mono fun v h2 hr => ?_)
  rcases hr with ⟨hb, q, nr, d, B, hv, na, t2⟩ | ⟨hb, hv, x2⟩
  · refine ⟨_, _, _, _, _, _, hv, condN (fun hne => absurd rfl hne) (fun _ => ?_)⟩
    have e : chgL (runR k) (zL L) (tsE m2) (opE m2) = (⟨tsE m2, opE m2, (runR k (opE m2)).1, 0, 0⟩, 0) := by unfold chgL; rw [if_pos hb]; rfl
    rw [e] at la ⊢
    exact yaor hk hin hn la o2 al2 ⟨rfl, rfl, rfl, hb, hinc, hval⟩ hn2 ((s.join t2).to (B := A + (M2 + (B + 0 + (M + J))))) rfl rfl rfl
  · refine ⟨_, _, _, _, _, _, hv, condN (fun _ => ?_) (fun he => absurd he hb)⟩
    have e : chgL (runR k) (zL L) (tsE m2) (opE m2) = (⟨L.ts, L.ops, L.rows, (bad (runR k (opE m2)).2 (tsE m2)).1, (bad (runR k (opE m2)).2 (tsE m2)).2⟩, 13) := by unfold chgL; rw [if_neg hb]; rfl
    rw [e] at la ⊢
    exact yaor hk hin hn la o al ⟨g.ts, g.ops, g.rows, g.bd, g.inc, g.val⟩ (by omega) ((s.grow x2).to (B := A + (M + (M2 + J)))) rfl rfl rfl
end
end Go.Proofs.YtdlkohenamlnaaaGreat
/- The chapter's example, by the run of any kind. Printed by mkqh.py. -/
namespace Go.Proofs.YtdlkohenamlnaaaGreat
open Go Go.Sx
theorem yamt (h : Hp) : yaae Tryz.prog 9 #[] h (fun v h' => v = .bool true ∧ Ext h h') := by
  refine zag_call ?_
  rw [zag_b0]
  refine (yaoa h).mono fun v1 h1 ⟨qb, A1, hv1, q1, s1⟩ => ⟨_, hv1, yaam rfl ?_⟩
  have s1 := s1.to (B := A1 + 0)
  refine (yaes (t := 1) (k := 5) q1 .nil (by decide) s1).mono fun v2 h2 ⟨hv2, A2, q2, s2⟩ => ⟨_, hv2, ?_⟩
  have e2 : insP [] 1 5 = ([(1, 5, false)], 0) := by decide
  rw [e2] at q2 ⊢
  refine yaam rfl ((yaes (t := 2) (k := 3) q2 (by decide) (by decide) s2).mono fun v3 h3 ⟨hv3, A3, q3, s3⟩ => ⟨_, hv3, ?_⟩)
  have e3 : insP [(1, 5, false)] 2 3 = ([(1, 5, false), (2, 3, false)], 0) := by decide
  rw [e3] at q3 ⊢
  refine yaam rfl ((yaes (t := 4) (k := 8) q3 (by decide) (by decide) s3).mono fun v4 h4 ⟨hv4, A4, q4, s4⟩ => ⟨_, hv4, ?_⟩)
  have e4 : insP [(1, 5, false), (2, 3, false)] 4 8 = ([(1, 5, false), (2, 3, false), (4, 8, false)], 0) := by decide
  rw [e4] at q4 ⊢
  refine yaam rfl ((yakd (t := 3) q4 (by decide) (by decide) s4).mono fun v5 h5 ⟨hv5, A5, q5, s5⟩ => ⟨_, hv5, ?_⟩)
  have e5 : delP [(1, 5, false), (2, 3, false), (4, 8, false)] 3 = ([(1, 5, false), (2, 3, false), (3, 0, true), (4, 8, false)], 0) := by decide
  rw [e5] at q5 ⊢
  refine yaam rfl ((yakd (t := 6) q5 (by decide) (by decide) s5).mono fun v6 h6 ⟨hv6, A6, q6, s6⟩ => ⟨_, hv6, ?_⟩)
  have e6 : delP [(1, 5, false), (2, 3, false), (3, 0, true), (4, 8, false)] 6 = ([(1, 5, false), (2, 3, false), (3, 0, true), (4, 8, false), (6, 0, true)], 0) := by decide
  rw [e6] at q6 ⊢
  refine yaam rfl ?_
  rw [zag_b1]
  refine (yasa q6 (by decide) s6).mono fun v7 h7 ⟨p7, d7, B7, hv7, o7, t7⟩ => ⟨_, _, _, hv7, ?_⟩
  have s7 := s6.join t7
  refine s7.new (cs := [.int .i64 8]) fun b1 h8 _ s8 => ?_
  have o8 : Sl TI (some ⟨b1, 0, none⟩) 1 1 [8] (cA b1 [.int .i64 8] 3) := Sl.of_blk (T := TI) (xs := [8]) rfl rfl
  refine (yask (o7.rd (s8.to (B := B7 + (cA b1 [.int .i64 8] 3 + (A6 + 0))))) (o8.rd s8) (by decide)).mono fun v8 h9 ⟨hh9, hv8⟩ => ⟨_, hv8, yaam (by decide) ?_⟩
  subst hh9
  have s8 := s8.drop.to (B := A6 + B7)
  refine (yani q6 (by decide) s8).mono fun v9 h10 ⟨p9, d9, B9, hv9, o9, t9⟩ => ⟨_, _, _, hv9, ?_⟩
  have s10 := s8.join t9
  refine s10.new (cs := [.int .i64 6]) fun b2 h11 _ s11 => ?_
  have o11 : Sl TI (some ⟨b2, 0, none⟩) 1 1 [6] (cA b2 [.int .i64 6] 3) := Sl.of_blk (T := TI) (xs := [6]) rfl rfl
  refine (yask (o9.rd (s11.to (B := B9 + (cA b2 [.int .i64 6] 3 + (A6 + B7))))) (o11.rd s11) (by decide)).mono fun v10 h12 ⟨hh12, hv10⟩ => ⟨_, hv10, yaam (by decide) ?_⟩
  subst hh12
  have s11 := s11.drop.drop
  refine (yaes (t := 5) (k := 4) q6 (by decide) (by decide) s11).mono fun v11 h13 ⟨hv11, A13, q13, s13⟩ => ⟨_, hv11, ?_⟩
  have e13 : insP [(1, 5, false), (2, 3, false), (3, 0, true), (4, 8, false), (6, 0, true)] 5 4 = ([(1, 5, false), (2, 3, false), (3, 0, true), (4, 8, false), (5, 4, false), (6, 0, true)], 0) := by decide
  rw [e13] at q13 ⊢
  refine yaam rfl ?_
  rw [zag_b2]
  refine (yaml (k := 1) (by decide) h13).mono fun v12 h14 ⟨gb, L0, hv12, la, t14⟩ => ⟨_, _, hv12, ?_⟩
  have s14 := (s13.join t14).to (B := A13 + (L0 + B7))
  refine (yasa q13 (by decide) s14).mono fun v13 h15 ⟨p13, d13, B13, hv13, o13, t15⟩ => ⟨_, _, _, hv13, ?_⟩
  have s15 := s14.join t15
  refine s15.new (cs := [.int .i64 5, .int .i64 8]) fun b3 h16 _ s16 => ?_
  have o16 : Sl TI (some ⟨b3, 0, none⟩) 2 2 [5, 8] (cA b3 [.int .i64 5, .int .i64 8] 3) := Sl.of_blk (T := TI) (xs := [5, 8]) rfl rfl
  refine (yask (o13.rd (s16.to (B := B13 + (cA b3 [.int .i64 5, .int .i64 8] 3 + (A13 + (L0 + B7)))))) (o16.rd s16) (by decide)).mono fun v14 h17 ⟨hh17, hv14⟩ => ⟨_, hv14, yaax (by decide) (yaax rfl (yaax rfl ?_))⟩
  subst hh17
  have s16 := s16.drop.to (B := (A13 + (B7 + B13)) + L0)
  have s16 := s16.drop
  refine s16.new (cs := [.int .i64 1, .int .i64 2]) fun b4 h18 _ s18 => ?_
  have o18 : Sl TI (some ⟨b4, 0, none⟩) 2 2 [1, 2] (cA b4 [.int .i64 1, .int .i64 2] 3) := Sl.of_blk (T := TI) (xs := [1, 2]) rfl rfl
  have s18 := s18.to (B := L0 + (cA b4 [.int .i64 1, .int .i64 2] 3 + 0))
  refine (yapr (k := 1) (L := ⟨[], [], [], 0, 0⟩) (by decide) (yath (by decide)) la (by decide) (fun i j _ hj => by simp at hj) (time := 3) (code := 1) (zs := [1, 2]) (fun z hz => nomatch hz) (by decide) (fun y hy => nomatch hy) (by decide) (by decide) (RdS.own o18) s18).mono fun v15 h19 ⟨i, hlb, hv15, L1, la1, s19⟩ => ⟨_, hv15, ?_⟩
  obtain rfl := yaye hlb
  have e19 : chgL (runR 1) ⟨[], [], [], 0, 0⟩ (putL 0 3 []) (putL 0 (1, [1, 2]) []) = (⟨[3], [(1, [1, 2])], [[1, 2]], 0, 0⟩, 0) := rfl
  rw [e19] at la1 ⊢
  refine yaax rfl ?_
  refine s19.new (cs := [.int .i64 1]) fun b5 h20 _ s20 => ?_
  have o20 : Sl TI (some ⟨b5, 0, none⟩) 1 1 [1] (cA b5 [.int .i64 1] 3) := Sl.of_blk (T := TI) (xs := [1]) rfl rfl
  have s20 := s20.to (B := L1 + (cA b5 [.int .i64 1] 3 + (cA b4 [.int .i64 1, .int .i64 2] 3 + 0)))
  refine (yapr (k := 1) (L := ⟨[3], [(1, [1, 2])], [[1, 2]], 0, 0⟩) (by decide) (yath (by decide)) la1 (by decide) (fun i j _ hj => by simp at hj; omega) (time := 2) (code := 3) (zs := [1]) (by decide) (by decide) (by decide) (by decide) (by decide) (RdS.own o20) s20).mono fun v16 h21 ⟨i, hlb, hv16, L2, la2, s21⟩ => ⟨_, hv16, ?_, s21.ext⟩
  obtain rfl : i = 0 := by
    obtain ⟨c1, c2, _⟩ := hlb
    rcases Nat.eq_zero_or_pos i with h | h
    · exact h
    · have : (3 : Int) < 2 := c2 0 h
      omega
  have e21 : (chgL (runR 1) ⟨[3], [(1, [1, 2])], [[1, 2]], 0, 0⟩ (putL 0 2 [3]) (putL 0 (3, [1]) [(1, [1, 2])])).2 = 13 := rfl
  rw [e21]
  rfl
end Go.Proofs.YtdlkohenamlnaaaGreat
/- The law Log: a step. -/
namespace Go.Proofs.YtdlkohenamlnaaaGreat
open Go Go.Sx
section
variable {hs h0 hh : Hp} {k : Int} {gb : Nat} {p : OA} {n c i : Nat} {mp : OA} {mn mc : Nat} {L : LogS} {m : List EnL} {xs : List EnT} {A M J : Bag}
theorem yaxz {xs : List EnT} {m : List EnL} {h : Hp} (al : AllE h xs m) {x : EnT} {y : EnL} (pe : PE h x y) (j : Nat) : AllE h (putL j x xs) (putL j y m) := (al.take j).app (AllE.app (xs := [x]) (ys := [y]) ⟨pe, trivial⟩ (al.drop j))
theorem yaxk {xs : List EnT} {m : List EnL} {h : Hp} (al : AllE h xs m) (j : Nat) : AllE h (cutL xs j) (cutL m j) := (al.take j).app (al.drop (j + 1))
theorem ybaa (hk : 1 ≤ k ∧ k ≤ 6) (hin : i < n) (hn : n ≤ 30) (la : LogA k gb L A) (o : Sl tEn mp mn mc xs M) (al : AllE h0 xs m) (g : GoodL k L m) (hm : mn ≤ i) {b1 : Nat} {kd time key code : Int} {q : OA} {l d : Nat} {zs : List Int} (rz : RdT TI h0 q l zs) (hld : l ≤ d)
    (s : St h0 hh (cA b1 [.int .i64 kd, .int .i64 time, .int .i64 key, .int .i64 code, .slice q l d] 27 + (A + (M + J)))) :
    zaf_b6 k (some ⟨gb, 0, none⟩) mp mn mc (some ⟨b1, 0, none⟩) p n c n i hh (LawN h0 k gb n i) (LawK hs) := by
  have hml := o.len
  have hal := al.len
  have hts : L.ts.length < 1000 := by rw [g.ts, List.length_map]; omega
  have hinc : Inc L.ts := by rw [g.ts]; exact g.inc
  have hval : AllV k L.ops := by rw [g.ops]; exact g.val
  have add2 : ∀ {h' : Hp} {B : Bag}, St h0 h' (cA b1 [.int .i64 kd, .int .i64 time, .int .i64 key, .int .i64 code, .slice q l d] 27 + B) → cell h' (((⟨b1, 0, none⟩ : Addr).add 3).add 1) = some (.slice q l d) := fun s => by rw [yacj]; exact s.ldB
  rw [zaf_b6_eq]
  refine ⟨_, s.ld0, condP (fun h0' => ?_) (fun h1' => ?_)⟩
  · refine ⟨_, s.ldB, _, _, _, _, s.ldB, add2 s, ?_⟩
    refine (ybam (G := cA b1 [.int .i64 kd, .int .i64 time, .int .i64 key, .int .i64 code, .slice q l d] 27 + (M + J)) hk la hts hinc hval (fun h' A' s' => rz.ext s'.ext) s.to).mono fun v h2 ⟨hv, A', la', s2⟩ => ⟨_, hv, ?_⟩
    have s2 : St h0 h2 (cA b1 [.int .i64 kd, .int .i64 time, .int .i64 key, .int .i64 code, .slice q l d] 27 + (A' + (M + J))) := s2.to
    refine ⟨_, s2.ldB, _, _, _, _, s2.ldB, add2 s2, ?_⟩
    have hrd := o.rd (s2.at M)
    refine (yauk hk hrd (al.ext s2.ext) g.inc (by omega) (rz.ext s2.ext)).mono fun v h3 ⟨hv3, x3⟩ => ⟨_, hv3, ?_⟩
    have s3 := s2.grow x3
    have hE : (addE k (tsE m) time code zs ≠ 0 → addL k L time code zs = (zL L, addE k (tsE m) time code zs)) ∧ (addE k (tsE m) time code zs = 0 → OpV k code zs ∧ time ∉ tsE m ∧ addL k L time code zs = chgL (runR k) (zL L) (putL (lbI (tsE m) time) time (tsE m)) (putL (lbI (tsE m) time) (code, zs) (opE m))) := by
      unfold addE addL
      rw [g.ts, g.ops]
      by_cases v1 : OpV k code zs
      · rw [if_neg (show ¬ ¬ OpV k code zs from fun h => h v1), if_neg (show ¬ ¬ OpV k code zs from fun h => h v1)]
        by_cases v2 : updT k code = false
        · rw [if_pos v2, if_pos v2]; exact ⟨fun _ => rfl, fun h => absurd h (by decide)⟩
        · rw [if_neg v2, if_neg v2]
          by_cases v3 : timeP time
          · rw [if_neg (show ¬ ¬ timeP time from fun h => h v3), if_neg (show ¬ ¬ timeP time from fun h => h v3)]
            by_cases v4 : time ∈ tsE m
            · rw [if_pos v4, if_pos v4]; exact ⟨fun _ => rfl, fun h => absurd h (by decide)⟩
            · rw [if_neg v4, if_neg v4]; exact ⟨fun h => absurd rfl h, fun _ => ⟨v1, v4, rfl⟩⟩
          · rw [if_pos v3, if_pos v3]; exact ⟨fun _ => rfl, fun h => absurd h (by decide)⟩
      · rw [if_pos v1, if_pos v1]; exact ⟨fun _ => rfl, fun h => absurd h (by decide)⟩
    generalize addE k (tsE m) time code zs = e at hE
    refine condP (fun he => ?_) (fun hne => ?_)
    · obtain ⟨v1, v4, eA⟩ := hE.2 he
      subst he
      refine ⟨_, s3.ldB, _, _, _, _, s3.ldB, add2 s3, ?_⟩
      have hrd3 := o.rd (s3.at M)
      refine (ybas hrd3 (al.ext s3.ext) g.inc (by omega) o.cap (time, code, q, l, d)).mono fun v h4 ⟨q4, d4, M2, hv4, o4, t4⟩ => ⟨_, _, _, hv4, ?_⟩
      have eT := ybbm (lbI (tsE m) time) (time, code, zs) m
      have eO := ybbh (lbI (tsE m) time) (time, code, zs) m
      rw [eA, ← eT, ← eO] at la' ⊢
      refine yavm hk hin hn o al g hm o4 (yaxz al (y := (time, code, zs)) ⟨rfl, rfl, hld, rz⟩ _) (by omega) (by rw [eT]; exact ybal g.inc v4) (by
        rw [eO]
        intro y hy
        rcases List.mem_append.1 hy with hy | hy
        · exact g.val y (List.mem_of_mem_take hy)
        · rcases List.mem_cons.1 hy with rfl | hy
          · exact v1
          · exact g.val y (List.mem_of_mem_drop hy)) la' ((s3.join t4).to (B := A' + (M + (M2 + (cA b1 [.int .i64 kd, .int .i64 time, .int .i64 key, .int .i64 code, .slice q l d] 27 + J)))))
    · have eA := hE.1 hne
      rw [eA] at la' ⊢
      exact yavb hk hin hn la' o al g hm (s3.to (B := A' + (M + (cA b1 [.int .i64 kd, .int .i64 time, .int .i64 key, .int .i64 code, .slice q l d] 27 + J)))) hne
  · refine ⟨_, s.ldB, ?_⟩
    refine (yapi (G := cA b1 [.int .i64 kd, .int .i64 time, .int .i64 key, .int .i64 code, .slice q l d] 27 + (M + J)) hk la hts hinc hval s.to).mono fun v h2 ⟨hv, A', la', s2⟩ => ⟨_, hv, ?_⟩
    have s2 : St h0 h2 (cA b1 [.int .i64 kd, .int .i64 time, .int .i64 key, .int .i64 code, .slice q l d] 27 + (A' + (M + J))) := s2.to
    have hrd := o.rd (s2.at M)
    refine ⟨_, s2.ldB, (ybbb hrd (al.ext s2.ext) g.inc (by omega) time).mono fun v h3 ⟨hv3, hh3⟩ => ⟨_, hv3, ?_⟩⟩
    subst hh3
    refine ⟨_, s2.ldB, (yapo time h3).mono fun v h4 ⟨hv4, hh4⟩ => ⟨_, hv4, ?_⟩⟩
    subst hh4
    have fin : ∀ {want : Int} {np : OA} {nn nc : Nat}, want ≠ 0 → revoL k L time = (zL L, want) → zaf_b9 k (some ⟨gb, 0, none⟩) mp mn mc np nn nc want (revoL k L time).2 p n c n i h4 (LawN h0 k gb n i) (LawK hs) := by
      intro want np nn nc hw e
      rw [e] at la' ⊢
      exact yavb hk hin hn la' o al g hm (s2.to (B := A' + (M + (cA b1 [.int .i64 kd, .int .i64 time, .int .i64 key, .int .i64 code, .slice q l d] 27 + J)))) hw
    have lb := yaob (z := time) g.inc
    have lm := yasz g.inc lb
    refine condN (fun ht => fin (by decide) (by unfold revoL; rw [if_pos ht])) (fun ht => ?_)
    by_cases hmem : time ∈ tsE m
    · have hx := lm.2 hmem
      have hxl : lbI (tsE m) time < m.length := by have := hx.1; rwa [List.length_map] at this
      rw [if_pos hmem]
      refine yaam (decide_eq_false (by omega)) ?_
      refine (yayu hrd (by omega) o.cap (i := lbI (tsE m) time) (by omega)).mono fun v h5 ⟨q5, d5, M2, hv5, o5, t5⟩ => ⟨_, _, _, hv5, ?_⟩
      have eA : revoL k L time = chgL (runR k) (zL L) (tsE (cutL m (lbI (tsE m) time))) (opE (cutL m (lbI (tsE m) time))) := by
        rw [yayy, ybat]
        unfold revoL
        rw [if_neg (fun h => h ht), g.ts, g.ops, if_pos hmem]
      rw [eA] at la' ⊢
      refine yavm hk hin hn o al g hm o5 (yaxk al _) (by omega) (by rw [yayy]; exact yaym g.inc _) (by rw [ybat]; exact fun y hy => g.val y ((yafh _ _).mem hy)) la' ((s2.join t5).to (B := A' + (M + (M2 + (cA b1 [.int .i64 kd, .int .i64 time, .int .i64 key, .int .i64 code, .slice q l d] 27 + J)))))
    · rw [if_neg hmem]
      refine yaax (by decide) (fin (by decide) (by unfold revoL; rw [if_neg (fun h => h ht), g.ts, if_neg hmem]))
theorem yazf (hin : i < n) (hn : n ≤ 30) (la : LogA k gb L A) (o : Sl tEn mp mn mc xs M) (al : AllE h0 xs m) (g : GoodL k L m) (hm : mn ≤ i) {b2 b4 : Nat} {e z f : Int}
    (s : St h0 hh (cA b2 [.int .i64 e, .int .i64 z, .slice none 0 0] 61 + (cA b4 [.int .i64 e, .int .i64 z, .slice none 0 0] 61 + (A + (M + J))))) :
    zaf_b8 k (some ⟨gb, 0, none⟩) mp mn mc (some ⟨b2, 0, none⟩) f f (some ⟨b4, 0, none⟩) p n c n i hh (LawN h0 k gb n i) (LawK hs) := by
  rw [zaf_b8_eq]
  refine condN (fun hne => absurd rfl hne) (fun _ => ?_)
  refine ⟨_, _, _, _, _, s.ld0, s.ldB, s.ldB, _, _, _, _, _, s.ld0, s.ldB, s.ldB, ?_⟩
  refine (ybaf (n := 0) (m := 0) (xs := []) (ys := []) ⟨rfl, Or.inl rfl⟩ ⟨rfl, Or.inl rfl⟩ (by omega)).mono fun v h1 ⟨x1, hv⟩ => ⟨_, hv, condN (fun hne => absurd rfl hne) (fun _ => ?_)⟩
  exact yavo hin hn ⟨L, m, xs, A, M, _, la, o, al, g, by omega, (s.grow x1).to (B := A + (M + (cA b2 [.int .i64 e, .int .i64 z, .slice none 0 0] 61 + (cA b4 [.int .i64 e, .int .i64 z, .slice none 0 0] 61 + J))))⟩
theorem ybbr (hk : 1 ≤ k ∧ k ≤ 6) (hin : i < n) (hn : n ≤ 30) (la : LogA k gb L A) (o : Sl tEn mp mn mc xs M) (al : AllE h0 xs m) (g : GoodL k L m) (hm : mn ≤ i) {l : List S5} (r : RdT tS5 h0 p n l) (hz : ∀ x ∈ l, x.2.2.2.2.2.1 ≤ x.2.2.2.2.2.2 ∧ ∃ zs, RdT TI h0 x.2.2.2.2.1 x.2.2.2.2.2.1 zs) (s : St h0 hh (A + (M + J))) :
    zaf_b4 mp mn mc i k (some ⟨gb, 0, none⟩) p n c n hh (LawN h0 k gb n i) (LawK hs) := by
  have hl := r.len
  have hml := o.len
  have hal := al.len
  have ok := g.ok hk
  obtain ⟨hld, zs, rz⟩ := hz _ (yaav (l := l) (i := i) (d := tS5.d) (by omega))
  rw [zaf_b4_eq]
  refine yaax (decide_eq_true (by omega)) (yavg (r.ext s.ext) (by omega) (by omega) ?_)
  rw [Int.toNat_natCast]
  generalize l.getD i tS5.d = x at hld rz ⊢
  obtain ⟨kd, time, key, code, q, ln, d⟩ := x
  dsimp only at hld rz ⊢
  refine s.new (cs := [.int .i64 0, .int .i64 0, .int .i64 0, .int .i64 0, .slice none 0 0]) fun b1 h7 _ s => ?_
  refine s.wr rfl (by simp) fun h8 s => ?_
  refine s.wr (o := 1) (yaaj _ _ _) (by simp) fun h9 s => ?_
  refine s.wr (o := 2) (yaaj _ _ _) (by simp) fun h10 s => ?_
  refine s.wr (o := 3) (yaaj _ _ _) (by simp) fun h11 s => ?_
  refine s.wr (o := 4) (yaaj _ _ _) (by simp) fun h12 s => ?_
  have s : St h0 h12 (cA b1 [.int .i64 kd, .int .i64 time, .int .i64 key, .int .i64 code, .slice q ln d] 27 + (A + (M + J))) := s
  have add2 : ∀ {h' : Hp} {B C : Bag}, St h0 h' B → [Bag.Sub (cA b1 [.int .i64 kd, .int .i64 time, .int .i64 key, .int .i64 code, .slice q ln d] 27) B C] → cell h' (((⟨b1, 0, none⟩ : Addr).add 3).add 1) = some (.slice q ln d) := fun s => by rw [yacj]; exact Blk.cellA (s.at (cA b1 [.int .i64 kd, .int .i64 time, .int .i64 key, .int .i64 code, .slice q ln d] 27)).blk 4
  refine ⟨_, s.ld0, condN (fun hne => ⟨_, s.ld0, condN (fun hne2 => ?_) (fun _ => ybaa hk hin hn la o al g hm rz hld s)⟩) (fun _ => ybaa hk hin hn la o al g hm rz hld s)⟩
  refine ⟨_, _, _, _, s.ldB, add2 s, ?_⟩
  refine (yauc hk ok la (code := code) (rz.ext s.ext) hld (s.to (B := A + (cA b1 [.int .i64 kd, .int .i64 time, .int .i64 key, .int .i64 code, .slice q ln d] 27 + (M + J))))).mono fun v h13 ⟨hv, x13⟩ => ⟨_, _, _, _, _, _, hv, ?_⟩
  have s := s.grow x13
  obtain ⟨Q, hQ⟩ : ∃ Q, qryL k L code zs = Q := ⟨_, rfl⟩
  rw [hQ]
  refine s.new (cs := [.int .i64 0, .int .i64 0, .slice none 0 0]) fun b2 h14 _ s => ?_
  refine s.wr rfl (by simp) fun h15 s => ?_
  refine s.wr (o := 1) (yaaj _ _ _) (by simp) fun h16 s => ?_
  refine s.wr (o := 2) (yaaj _ _ _) (by simp) fun h17 s => ?_
  have s : St h0 h17 (cA b2 [.int .i64 Q.1, .int .i64 Q.2.1, .slice none 0 0] 61 + (cA b1 [.int .i64 kd, .int .i64 time, .int .i64 key, .int .i64 code, .slice q ln d] 27 + (A + (M + J)))) := s
  have hrd := o.rd (s.to (B := M + (cA b2 [.int .i64 Q.1, .int .i64 Q.2.1, .slice none 0 0] 61 + (cA b1 [.int .i64 kd, .int .i64 time, .int .i64 key, .int .i64 code, .slice q ln d] 27 + (A + J)))))
  refine (yags hk g.val hrd (al.ext s.ext) (by omega)).mono fun v h18 hr => ?_
  have hr := hr.resolve_right fun h => absurd g.bd h.1
  obtain ⟨_, q2, nr, d2, B, hv, na, t2⟩ := hr
  refine ⟨_, _, _, _, _, _, hv, ?_⟩
  have s := s.join t2
  refine s.new (cs := [.int .i64 0, .slice none 0 0]) fun b3 h19 _ s => ?_
  refine s.wr rfl (by simp) fun h20 s => ?_
  refine s.wr (o := 1) (yaaj _ _ _) (by simp) fun h21 s => ?_
  have s : St h0 h21 (cA b3 [.int .i64 k, .slice q2 nr d2] 66 + (B + 0 + (cA b2 [.int .i64 Q.1, .int .i64 Q.2.1, .slice none 0 0] 61 + (cA b1 [.int .i64 kd, .int .i64 time, .int .i64 key, .int .i64 code, .slice q ln d] 27 + (A + (M + J)))))) := s
  have s : St h0 h21 (cA b1 [.int .i64 kd, .int .i64 time, .int .i64 key, .int .i64 code, .slice q ln d] 27 + (cA b2 [.int .i64 Q.1, .int .i64 Q.2.1, .slice none 0 0] 61 + (cA b3 [.int .i64 k, .slice q2 nr d2] 66 + (B + (A + (M + J)))))) := by
    have s := s.to (B := (cA b1 [.int .i64 kd, .int .i64 time, .int .i64 key, .int .i64 code, .slice q ln d] 27 + (cA b2 [.int .i64 Q.1, .int .i64 Q.2.1, .slice none 0 0] 61 + (cA b3 [.int .i64 k, .slice q2 nr d2] 66 + (B + (A + (M + J)))))) + 0)
    rwa [Bag.yaqx] at s
  -- what is wanted, and the last part
  have b5 : ∀ {h22 : Hp} {want : Int}, Ext h21 h22 → Q.2.2 = want → (want = 0 → OpV k code zs ∧ Q.1 = (stepR k L.rows code zs).2.1 ∧ Q.2.1 = (stepR k L.rows code zs).2.2) → (want ≠ 0 → Q.1 = 0 ∧ Q.2.1 = 0) →
      zaf_b5 k (some ⟨gb, 0, none⟩) mp mn mc (some ⟨b1, 0, none⟩) (some ⟨b2, 0, none⟩) Q.2.2 (some ⟨b3, 0, none⟩) want p n c n i h22 (LawN h0 k gb n i) (LawK hs) := by
    intro h22 want x22 hw h0w h1w
    subst hw
    have s := s.grow x22
    rw [zaf_b5_eq]
    refine s.new (cs := [.int .i64 0, .int .i64 0, .slice none 0 0]) fun b4 h24 _ s => ?_
    refine s.wr rfl (by simp) fun h25 s => ?_
    refine s.wr (o := 1) (yaaj _ _ _) (by simp) fun h26 s => ?_
    refine s.wr (o := 2) (yaaj _ _ _) (by simp) fun h27 s => ?_
    have s : St h0 h27 (cA b4 [.int .i64 0, .int .i64 0, .slice none 0 0] 61 + (cA b1 [.int .i64 kd, .int .i64 time, .int .i64 key, .int .i64 code, .slice q ln d] 27 + (cA b2 [.int .i64 Q.1, .int .i64 Q.2.1, .slice none 0 0] 61 + (cA b3 [.int .i64 k, .slice q2 nr d2] 66 + (B + (A + (M + J))))))) := s
    refine condP (fun hw => ?_) (fun hw => ?_)
    · obtain ⟨v1, eq1, eq2⟩ := h0w hw
      have h64 := yafx v1
      have hzl := rz.len
      refine ⟨_, _, _, _, s.ld0, s.ldB, _, _, _, _, s.ldB, add2 s, ?_⟩
      have rr := yafi na (s.to (B := B + (cA b4 [.int .i64 0, .int .i64 0, .slice none 0 0] 61 + (cA b1 [.int .i64 kd, .int .i64 time, .int .i64 key, .int .i64 code, .slice q ln d] 27 + (cA b2 [.int .i64 Q.1, .int .i64 Q.2.1, .slice none 0 0] 61 + (cA b3 [.int .i64 k, .slice q2 nr d2] 66 + (A + (M + J))))))))
      have ok' : OkR k (runR k (opE m)).1 := by rw [← g.rows]; exact ok
      refine (yauy (c := d2) (cc := d) ok' v1 rr (rz.ext s.ext) (by omega)).mono fun v h28 ⟨q8, m8, d8, B8, hv8, na8, t8⟩ => ⟨_, _, _, _, _, _, _, _, _, hv8, ?_⟩
      rw [← g.rows, ← eq1, ← eq2]
      have s := (s.join t8).to (B := cA b4 [.int .i64 0, .int .i64 0, .slice none 0 0] 61 + (cA b1 [.int .i64 kd, .int .i64 time, .int .i64 key, .int .i64 code, .slice q ln d] 27 + (cA b2 [.int .i64 Q.1, .int .i64 Q.2.1, .slice none 0 0] 61 + (cA b3 [.int .i64 k, .slice q2 nr d2] 66 + (B8 + 0 + (B + (A + (M + J))))))))
      refine s.wr rfl (by simp) fun h29 s => ?_
      refine s.wr (o := 1) (yaaj _ _ _) (by simp) fun h30 s => ?_
      refine s.wr (o := 2) (yaaj _ _ _) (by simp) fun h31 s => ?_
      have s : St h0 h31 (cA b4 [.int .i64 Q.1, .int .i64 Q.2.1, .slice none 0 0] 61 + (cA b1 [.int .i64 kd, .int .i64 time, .int .i64 key, .int .i64 code, .slice q ln d] 27 + (cA b2 [.int .i64 Q.1, .int .i64 Q.2.1, .slice none 0 0] 61 + (cA b3 [.int .i64 k, .slice q2 nr d2] 66 + (B8 + 0 + (B + (A + (M + J)))))))) := s
      exact yazf (L := L) (J := cA b1 [.int .i64 kd, .int .i64 time, .int .i64 key, .int .i64 code, .slice q ln d] 27 + (cA b3 [.int .i64 k, .slice q2 nr d2] 66 + (B8 + 0 + (B + J)))) hin hn la o al g hm s.to
    · obtain ⟨e1, e2⟩ := h1w hw
      rw [e1, e2] at s
      exact yazf (L := L) (J := cA b1 [.int .i64 kd, .int .i64 time, .int .i64 key, .int .i64 code, .slice q ln d] 27 + (cA b3 [.int .i64 k, .slice q2 nr d2] 66 + (B + J))) hin hn la o al g hm s.to
  refine ⟨_, _, _, _, s.ldB, add2 s, (yaup (k := k) (c := code) (rz.ext s.ext)).mono fun v h22 ⟨hv22, x22⟩ => ⟨_, hv22, ?_⟩⟩
  unfold qryL at hQ
  refine condN (fun hno => ?_) (fun v1 => ?_)
  · rw [if_neg hno] at hQ
    subst hQ
    exact b5 x22 rfl (fun h => absurd h (by decide)) (fun _ => ⟨rfl, rfl⟩)
  · rw [if_pos v1] at hQ
    have s22 := s.grow x22
    refine ⟨_, s22.ldB, (yalv hk v1.1 h22).mono fun v h23 ⟨hv23, hh23⟩ => ⟨_, hv23, ?_⟩⟩
    subst hh23
    refine yaay (fun hu => ?_) (fun hu => ?_)
    · rw [if_pos hu] at hQ
      subst hQ
      exact b5 x22 rfl (fun h => absurd h (by decide)) (fun _ => ⟨rfl, rfl⟩)
    · rw [if_neg (by rw [hu]; decide)] at hQ
      subst hQ
      exact b5 x22 rfl (fun _ => ⟨v1, rfl, rfl⟩) (fun h => absurd rfl h)
end
theorem yazl {h : Hp} {kind : Int} {p : OA} {n c : Nat} {l : List S5} (r : RdT tS5 h p n l) (hz : ∀ x ∈ l, x.2.2.2.2.2.1 ≤ x.2.2.2.2.2.2 ∧ ∃ zs, RdT TI h x.2.2.2.2.1 x.2.2.2.2.2.1 zs) :
    yaae Tryz.prog 6 #[.int .i64 kind, .slice p n c] h (fun v h' => v = .bool true ∧ Ext h h') := by
  refine zaf_call ?_
  rw [zaf_b0_eq]
  refine (yamt h).mono fun v1 h1 ⟨hv1, x1⟩ => ⟨_, hv1, yaam rfl ?_⟩
  refine (ybbg (r.ext x1)).mono fun v2 h2 ⟨x2, b, hv2, hb⟩ => ⟨_, hv2, yapv (fun hf => ?_) (fun ht => ?_)⟩
  · exact (yamt h2).mono fun v3 h3 ⟨hv3, x3⟩ => ⟨_, hv3, rfl, (x1.trans x2).trans x3⟩
  have hn := (hb ht).1
  rw [zaf_b1_eq]
  by_cases hk : 1 ≤ kind ∧ kind ≤ 6
  · refine (yaml hk h2).mono fun v3 h3 ⟨gb, A, hv3, la, s⟩ => ⟨_, _, hv3, ?_⟩
    refine yaam (decide_eq_false (by omega)) (yaam (decide_eq_false (by omega)) ?_)
    rw [zaf_b2_eq]
    refine yaam rfl (condN (fun hne => absurd rfl hne) (fun _ => ?_))
    rw [zaf_b3_eq]
    have x02 := x1.trans x2
    have r2 := r.ext x02
    have hl := r.len
    have s0 : St h2 h3 (A + (0 + 0)) := by rw [Bag.yaqx, Bag.yaqx]; exact s
    refine ⟨fun s' h' => ∃ i : Nat, s'.2.1 = i ∧ i ≤ n ∧ LawI h2 kind gb s'.1.1 s'.1.2.1 s'.1.2.2 i h', fun s' _ => n - s'.2.1.toNat, ⟨0, rfl, by omega, ⟨[], [], [], 0, 0⟩, [], [], A, 0, 0, la, Sl.nil, trivial, ⟨rfl, rfl, rfl, rfl, fun i j _ h => absurd h (by simp), fun y hy => by cases hy⟩, Nat.le_refl _, s0⟩, ?_⟩
    rintro ⟨⟨mp, mn, mc⟩, _, _⟩ h4 ⟨i, rfl, hi, L, m, xs, A', M, J, la', o, al, g, hm, s'⟩
    dsimp only at hm o ⊢
    rcases Nat.lt_or_ge i n with hin | hge
    · have := ybbr (hs := h) (c := c) hk hin hn la' o al g hm r2 (fun x hx => ⟨(hz x hx).1, let ⟨zs, hr⟩ := (hz x hx).2; ⟨zs, hr.ext x02⟩⟩) s'
      rw [← Int.toNat_natCast i] at this
      simpa using this
    · rw [zaf_b4_eq]
      refine yaam (decide_eq_false (by omega)) ?_
      rw [zaf_b7_eq]
      exact ⟨rfl, x02.trans s'.ext⟩
  · refine (yatt hk h2).mono fun v3 h3 ⟨hv3, x3⟩ => ⟨_, _, hv3, ?_⟩
    refine condP (fun _ => yaax rfl ⟨rfl, (x1.trans x2).trans x3⟩) (fun h1' => condP (fun _ => yaax rfl ⟨rfl, (x1.trans x2).trans x3⟩) (fun h6 => by omega))
end Go.Proofs.YtdlkohenamlnaaaGreat
