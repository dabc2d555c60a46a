/- Part OT N9 N10 Q1 Q2 Q3 Q4 Q8 Q9 Q10 Q11 Q12 Q5 Q6 Q7 U1 M2 of the proof: contracts of functions of the program, and what follows from them. -/
import Derived.Test.YtbhofnaipkkbeaaGreatDoorSxOS
import Derived.Test.YtbhofnaipkkbeaaGreatDoorSxKA
import Derived.Test.YtbhofnaipkkbeaaGreatDoorSxCH
set_option maxRecDepth 100000
namespace Go.Proofs.YtbhofnaipkkbeaaGreatDoor
open Go Go.Sx
theorem yazk {h0 h : Hp} {p : OA} {n cp : Nat} {xs : List Int} {A F : Bag} {cmp : Value} {cf : Int → Int → Int} {P : Int → Prop} (hX : CmpCI h0 F cmp cf P) (ho : OrdP (fun x y : Int => cf x y < 0)) (s : St h0 h (A + F)) (o : Sl (tI 3) p n cp xs A) (hP : ∀ k, k < n → P (xs.getD k (tI 3).d)) (hn : n ≤ 12) :
    yaak Tryz.prog 77 #[.slice p n cp, .int .i64 (n : Int), cmp] h (fun v h' => v = .tuple #[] ∧ OutCI h0 p n cp 0 n xs F h' (fun ys => SrtR (tI 3).d (fun x y : Int => cf x y < 0) 0 n ys ∧ Stb (fun x y : Int => cf x y < 0) xs ys)) := by
  refine zcu_call ?_
  rw [zcu_b0]
  refine ⟨fun s h1 => s = (0, 20, ()) ∧ h1 = h, fun _ _ => 0, ⟨rfl, rfl⟩, ?_⟩
  rintro _ h1 ⟨rfl, rfl⟩
  dsimp only
  rw [zcu_b1]
  refine condP (fun hlt => by omega) (fun _ => ?_)
  rw [zcu_b2]
  refine (yadz hX ho s o hP (by rfl) rfl (Nat.zero_le _) (Nat.le_refl _) (by omega)).mono fun v h3 ⟨hv, hout⟩ => ⟨hv, ?_⟩
  refine ⟨fun s h1 => s = (20, ()) ∧ h1 = h3, fun _ _ => 0, ⟨rfl, rfl⟩, ?_⟩
  rintro _ h4 ⟨rfl, rfl⟩
  dsimp only
  rw [zcu_b3]
  exact condP (fun hlt => by omega) (fun _ => ⟨rfl, hout⟩)
theorem yamk {h0 h : Hp} {p : OA} {n cp : Nat} {xs : List Int} {A F : Bag} {cmp : Value} {cf : Int → Int → Int} {P : Int → Prop} (hX : CmpCI h0 F cmp cf P) (ho : OrdP (fun x y : Int => cf x y < 0)) (s : St h0 h (A + F)) (o : Sl (tI 3) p n cp xs A) (hP : ∀ k, k < n → P (xs.getD k (tI 3).d)) (hn : n ≤ 12) :
    yaak Tryz.prog 44 #[.slice p n cp, cmp] h (fun v h' => v = .tuple #[] ∧ ∃ ys A', Sl (tI 3) p n cp ys A' ∧ St h0 h' (A' + F) ∧ ys.Pairwise (fun x y => ¬ (fun x y : Int => cf x y < 0) y x) ∧ Stb (fun x y : Int => cf x y < 0) xs ys) := by
  refine zcq_call ?_
  rw [zcq_b0]
  exact (yazk hX ho s o hP hn).mono fun v h' ⟨hv, ys, A', o2, s2, w, hs, hst⟩ => ⟨hv, rfl, ys, A', o2, s2, yagn o2.len hs, hst⟩
noncomputable def isAny (r : RV) : Bool := match r with | .ok (.int .i64 _) _ => true | _ => false
theorem yban : allN (fun n => isAny (callK PP TA 100 107 [.int .u64 (.ofNat n)] ⟨1000, eT Bk 6⟩)) 13 = true := by kernel_rfl
theorem yarm (n : Nat) (hn : n ≤ 12) (h : Hp) : yaak Tryz.prog 107 #[.int .u64 (n : Int)] h (fun v h' => Ext h h' ∧ ∃ r : Int, v = .int .i64 r) := by
  have h1 := yakn yban (show n < 13 by omega)
  obtain ⟨r, H1, e⟩ : ∃ r H1, callK PP TA 100 107 [.int .u64 (.ofNat n)] ⟨1000, eT Bk 6⟩ = .ok (.int .i64 r) H1 := by
    unfold isAny at h1
    split at h1
    · exact ⟨_, _, by assumption⟩
    · cases h1
  let φ : Phi := fun b => if b = 2 then some ⟨2, 0, 0⟩ else none
  have hg : yacl φ [2] := fun g hg => by
    have hg : g = 2 := by simpa using hg
    subst hg
    exact ⟨_, if_pos rfl, rfl⟩
  have hr : HR φ h ⟨1000, eT Bk 6⟩ h := by
    refine ⟨fun b hb => if_neg fun e => ?_, Nat.le_refl _, fun _ _ => rfl, fun b k g => ?_, fun b b' k k' m g _ _ _ _ _ => ?_⟩
    · subst e; exact absurd hb (by decide)
    · rw [yamj] at g; cases g
    · rw [yamj] at g; cases g
  have hc := yaho (T := TA) (by kernel_rfl) (fun g f hf => yauc h g f hf) 100 φ hg 107 _ _ _ H1 h [.int .u64 (n : Int)] hr (.cons (.int _ _) .nil) e
  rcases hc with ⟨_, hc⟩ | ⟨_, ⟨fn, h1, _, h2, _⟩, _⟩
  · refine hc.mono fun v h' ⟨ψ, hs, hv⟩ => ⟨⟨hs.size, fun r hr => hs.hr.old r hr⟩, r, hv.int_inv⟩
  · obtain ⟨fn', g1, _, g2⟩ := F_ok 107 (by kernel_rfl)
    have g1 : PP.funcs[107]? = some fn' := g1
    rw [g1] at h1
    cases h1
    rw [g2] at h2; cases h2
theorem ybex {h0 h : Hp} {p : OA} {n cp : Nat} {xs : List Int} {A F : Bag} {cmp : Value} {cf : Int → Int → Int} {P : Int → Prop} (hX : CmpCI h0 F cmp cf P) (ho : OrdP (fun x y : Int => cf x y < 0)) (s : St h0 h (A + F)) (o : Sl (tI 3) p n cp xs A) (hP : ∀ k, k < n → P (xs.getD k (tI 3).d)) (hn : n ≤ 12) :
    yaak Tryz.prog 70 #[.slice p n cp, cmp] h (fun v h' => v = .tuple #[] ∧ ∃ ys A', Sl (tI 3) p n cp ys A' ∧ St h0 h' (A' + F) ∧ ys.Perm xs ∧ ys.Pairwise (fun x y => ¬ (fun x y : Int => cf x y < 0) y x)) := by
  refine zcp_call ?_
  rw [zcp_b0, yabz _ (by omega) (by omega)]
  refine (yarm n hn h).mono fun v h1 ⟨he, r, hv⟩ => ⟨r, hv, ?_⟩
  have s := s.grow he
  refine yaak.mono (K := fun v h' => v = .tuple #[] ∧ OutCI h0 p n cp 0 n xs F h' (fun ys => SrtR (tI 3).d (fun x y : Int => cf x y < 0) 0 n ys ∧ Stb (fun x y : Int => cf x y < 0) xs ys)) ?_ fun v h' ⟨hv, ys, A', o2, s2, w, hs, hst⟩ => ⟨hv, rfl, ys, A', o2, s2, w.perm, yagn o2.len hs⟩
  refine zct_call ?_
  rw [zct_b0_eq]
  refine ⟨fun s h2 => s = (0, (n : Int), r, true, true, ()) ∧ h2 = h1, fun _ _ => 0, ⟨rfl, rfl⟩, ?_⟩
  rintro _ h2 ⟨rfl, rfl⟩
  dsimp only
  rw [zct_b1_eq]
  refine ⟨⟨by omega, by omega⟩, condP (fun _ => ?_) (fun hlt => by omega)⟩
  exact (yadz hX ho s o hP rfl rfl (Nat.zero_le _) (Nat.le_refl _) (by omega)).mono fun v h3 ⟨hv, hout⟩ => ⟨hv, rfl, hout⟩
def IsH (sg : Int) (H : Nat) : Prop := sg ≤ 2 ^ H ∧ (H = 0 ∨ (2 : Int) ^ (H - 1) < sg)
theorem ybcf {sg : Int} {H : Nat} (h : IsH sg H) (hs : sg ≤ 1024) : H ≤ 10 := by
  rcases h.2 with h0 | h0
  · omega
  · refine Classical.byContradiction fun hn => ?_
    have h1 : (2 : Nat) ^ 10 ≤ 2 ^ (H - 1) := Nat.pow_le_pow_right (by decide) (by omega)
    have h2 : (2 : Int) ^ (H - 1) = ((2 ^ (H - 1) : Nat) : Int) := by push_cast; rfl
    have h3 : (2 : Nat) ^ 10 = 1024 := by decide
    omega
def PV (a : Addr) (x : List Bool) (A : Bag) : Prop := Held A fun h => Vec h a x
theorem AllH.held {bs : List Addr} {xs : List (List Bool)} {A F : Bag} {h0 h : Hp} (a : AllH PV bs xs A) (s : St h0 h (A + F)) : ∀ i, i < bs.length → Vec h (bs.getD i tV.d) (xs.getD i []) := by
  intro i hi
  obtain ⟨Ai, B, rfl, hp⟩ := AllH.pick (d := []) (d' := tV.d) a hi
  exact hp h0 h (B + F) s.to
theorem yazt {h : Hp} {p : OA} {n c : Nat} {bits : List Bool} (r : RdT tB h p n bits) (hn : n ≤ 65536) : yaak Tryz.prog 43 #[.slice p n c] h fun v h' => ∃ a B, v = .tuple #[.pointer (some a), .int .i64 0] ∧ PV a bits B ∧ St h h' B :=
  (yayu (ybaq r) hn).mono fun v h' ⟨x, a, hv, l⟩ => by
    obtain ⟨B, s, hd⟩ := yapx x l
    exact ⟨a, B, hv, hd, s⟩
section
variable {h : Hp} {b1 tb q0 : Nat} {l : List Int} {sg : Int} {H : Nat} {q : OA} {n e : Nat}
def MkInv (h : Hp) (tb : Nat) (l : List Int) (sg : Int) (H : Nat) (q : OA) (n e d : Nat) (h' : Hp) : Prop :=
  ∃ ys Aq lp lc bs Al lvls V, Sl TI q n e ys Aq ∧ LvP l (H - d) ys ∧ Sl tV lp d lc bs Al ∧ AllH PV bs lvls V ∧ (∀ i, i < d → ∃ z, LvP l (H - i) z ∧ lvls.getD i [] = z.map (bitU (H - 1 - i))) ∧
    St h h' (Aq + (cA tb [.int .i64 (n : Int), .int .i64 sg, .int .i64 (H : Int), .slice lp d lc] 106 + (Al + V)))
theorem ybbc (hl : l.length = n) (hn : n ≤ 4096) (hval : ∀ x ∈ l, 0 ≤ x ∧ x < sg) (h1 : 1 ≤ sg) (h2 : sg ≤ 1024) (hH : IsH sg H) {h' : Hp} (m : MkInv h tb l sg H q n e H h') : Ext h h' ∧ WT h' tb l sg H ∧ ∃ A, St h h' A ∧ Held A fun g => WT g tb l sg H := by
  obtain ⟨ys, Aq, lp, lc, bs, Al, lvls, V, o, lv, ol, av, hv, s0⟩ := m
  have hbl := ol.len
  have key : Held (Aq + (cA tb [.int .i64 (n : Int), .int .i64 sg, .int .i64 (H : Int), .slice lp H lc] 106 + (Al + V))) fun g => WT g tb l sg H := by
    intro h0 g F0 s0
    have s := s0.to (B := Aq + (cA tb [.int .i64 (n : Int), .int .i64 sg, .int .i64 (H : Int), .slice lp H lc] 106 + (Al + (V + F0))))
    refine ⟨?_, s.ldB, s.ldB, ⟨lp, lc, bs, s.ldB, ol.rd (s.to (B := Al + (Aq + (cA tb [.int .i64 (n : Int), .int .i64 sg, .int .i64 (H : Int), .slice lp H lc] 106 + (V + F0))))), fun d hd => ?_⟩, by omega, hval, h1, hH.1, ybcf hH h2⟩
    · rw [hl]; exact s.ld0
    · obtain ⟨z, hz, he⟩ := hv d hd
      refine ⟨z, hz, ?_⟩
      rw [← he]
      exact AllH.held av (s.to (B := V + (Aq + (cA tb [.int .i64 (n : Int), .int .i64 sg, .int .i64 (H : Int), .slice lp H lc] 106 + (Al + F0))))) d (by omega)
  exact ⟨s0.ext, key h h' 0 (s0.to), _, s0, key⟩
end
theorem ybbq (x k : Nat) : bitU k (x : Int) = decide ((((x >>> k) % 2 : Nat) : Int) = 1) := by
  unfold bitU
  rw [yaht]
  congr 1
theorem ybgo {h : Hp} {p : OA} {n c : Nat} {l : List Int} (r : RdT TI h p n l) (hn : n ≤ 12) (sg : Int) :
    yaak Tryz.prog 12 #[.slice p n c, .int .i64 sg] h (fun v h' => Ext h h' ∧ (if sg < 1 ∨ 1024 < sg ∨ (∃ x ∈ l, x < 0 ∨ sg ≤ x) then v = .tuple #[.pointer none, .int .i64 2] else if 4096 < n then v = .tuple #[.pointer none, .int .i64 4] else ∃ tb H, v = .tuple #[ptr tb, .int .i64 0] ∧ IsH sg H ∧ WT h' tb l sg H ∧ ∃ A, St h h' A ∧ Held A fun g => WT g tb l sg H)) := by
  have hll := r.len
  refine zcw_call ?_
  rw [zcw_b0]
  have s := St.start h
  refine s.new (cs := [_]) fun b1 h1 x1 s => ?_
  refine ⟨_, s.ld0, condP (fun c1 => ⟨x1, by rw [if_pos (.inl c1)]⟩) (fun c1 => ⟨_, s.ld0, condP (fun c2 => ⟨x1, by rw [if_pos (.inr (.inl c2))]⟩) (fun c2 => ?_)⟩)⟩
  refine (yasi (sg := sg) (r.ext x1) (by omega) s.ld0).mono fun v h2 ⟨hh, hv⟩ => ⟨_, hv, ?_⟩
  subst hh
  refine condP (fun c3 => ⟨x1, by rw [if_pos (.inr (.inr c3))]⟩) (fun c3 => ?_)
  have hno : ¬ (sg < 1 ∨ 1024 < sg ∨ (∃ x ∈ l, x < 0 ∨ sg ≤ x)) := fun hx => hx.elim c1 fun hx => hx.elim c2 c3
  simp only [if_neg hno]
  rw [zcw_b1]
  refine condP (fun c4 => ⟨x1, by rw [if_pos (by omega)]⟩) (fun c4 => ?_)
  have hn4 : ¬ 4096 < n := by omega
  simp only [if_neg hn4]
  have hval : ∀ x ∈ l, 0 ≤ x ∧ x < sg := fun x hx => by
    have : ¬ (x < 0 ∨ sg ≤ x) := fun hb => c3 ⟨x, hx, hb⟩
    omega
  refine ⟨_, s.ld0, s.new (cs := [_, _, _, _]) fun tb h3 x3 s => ?_⟩
  -- the height
  refine ⟨fun _ h' => ∃ H : Nat, (H = 0 ∨ (2 : Int) ^ (H - 1) < sg) ∧ St h h' (cA tb [.int .i64 (n : Int), .int .i64 sg, .int .i64 (H : Int), .slice none 0 0] 106 + cA b1 [.int .i64 sg] 3), fun _ h' => match cell h' ((⟨tb, 0, none⟩ : Addr).add 2) with | some (.int _ z) => (100 - z).toNat | _ => 0, ⟨0, .inl rfl, s.to⟩, ?_⟩
  clear s x3
  rintro ⟨⟩ h4 ⟨H, hH0, s⟩
  dsimp only
  have hH11 : H ≤ 11 := by
    rcases hH0 with h0 | h0
    · omega
    · refine Classical.byContradiction fun hn => ?_
      have h1 : (2 : Nat) ^ 10 ≤ 2 ^ (H - 1) := Nat.pow_le_pow_right (by decide) (by omega)
      have h2 : (2 : Int) ^ (H - 1) = ((2 ^ (H - 1) : Nat) : Int) := by push_cast; rfl
      have h3 : (2 : Nat) ^ 10 = 1024 := by decide
      omega
  have hp11 : (2 : Nat) ^ H ≤ 2048 := Nat.le_trans (Nat.pow_le_pow_right (by decide) hH11) (by decide)
  have hp0 : 0 < (2 : Nat) ^ H := Nat.two_pow_pos H
  have ch4 : cell h4 ((⟨tb, 0, none⟩ : Addr).add 2) = some (.int .i64 (H : Int)) := s.ldB
  rw [zcw_b2]
  refine ⟨_, s.ldB, yacw (x := 1) (s := H) rfl rfl (by show H ≤ 64; omega) (by rw [Nat.one_mul]; exact yabn _ ⟨by omega, by omega⟩) ⟨_, s.ld0, condP (fun c5 => ?_) (fun c5 => ?_)⟩⟩
  · rw [Nat.one_mul] at c5
    refine ⟨_, s.ldB, ⟨by omega, by omega⟩, s.wrB fun h5 s => ⟨⟨H + 1, .inr ?_, s⟩, ?_⟩⟩
    · rw [Nat.add_sub_cancel]; exact_mod_cast c5
    · have c5' : cell h5 ((⟨tb, 0, none⟩ : Addr).add 2) = some (.int .i64 ((H : Int) + 1)) := s.ldB
      rw [c5', ch4]
      dsimp only
      omega
  rw [Nat.one_mul] at c5
  have hH : IsH sg H := ⟨by have h2 : (2 : Int) ^ H = ((2 ^ H : Nat) : Int) := by { push_cast; rfl }
                            omega, hH0⟩
  have h10 := ybcf hH (by omega)
  rw [zcw_b3]
  refine (yatk (r.ext s.ext) (by omega)).mono fun v h5 ⟨q, e, Aq, hv, oq, s5⟩ => ⟨_, _, _, hv, _, (s5.ext.cell s.ldB), ?_⟩
  have s := s.join s5
  have hpl := r.len
  -- the levels
  refine ⟨fun d h' => ∃ d' : Nat, d.1 = (d' : Int) ∧ d' ≤ H ∧ MkInv h tb l sg H q n e d' h', fun d _ => (H - d.1).toNat, ⟨0, rfl, by omega, l, Aq, none, 0, [], 0, [], 0, oq, ybbh fun x hx => ⟨(hval x hx).1, by have := (hval x hx).2; have := hH.1; simp; omega⟩, Sl.nil, rfl, fun i hi => by omega, ?_⟩, ?_⟩
  · exact (s.find b1).drop.to
  clear s s5 oq hv
  rintro ⟨_, _⟩ h6 ⟨d, rfl, hd, ys, Aq, lp, lc, bs, Al, lvls, V, oq, lv, ol, av, hlv, s⟩
  dsimp only
  rw [zcw_b4]
  refine condP (fun c6 => ?_) (fun c6 => ?_)
  rotate_left
  · obtain rfl : d = H := by omega
    rw [zcw_b6]
    have := ybbc r.len (by omega) hval (by omega) (by omega) hH ⟨ys, Aq, lp, lc, bs, Al, lvls, V, oq, lv, ol, av, hlv, s⟩
    exact ⟨this.1, tb, d, rfl, hH, this.2⟩
  have hdH : d < H := by omega
  obtain ⟨k, hk⟩ : ∃ k, H - 1 - d = k := ⟨_, rfl⟩
  have ek : (H : Int) - 1 - (d : Int) = (k : Int) := by omega
  refine ⟨_, s.ldB, ⟨by omega, by omega⟩, ⟨by omega, by omega⟩, s.new (cs := [_]) fun sb _ _ s => s.wr1 fun _ s => ⟨⟨by omega, by omega, by omega, by omega⟩, ?_⟩⟩
  rw [ek] at s
  simp only [Int.toNat_natCast, Nat.mul_one, yakr]
  refine s.new (cs := List.replicate n (.bool false)) fun bb h8 _ s => ?_
  have ob : Sl tB (some ⟨bb, 0, none⟩) n n (List.replicate n false) (cA bb (List.replicate n (.bool false)) 4) := Sl.of_blk (by simp) (by rw [yarq]; simp)
  have hyl := oq.len
  have hypos : ∀ j, j < n → 0 ≤ ys.getD j 0 := fun j hj => by
    have hm : ys.getD j 0 ∈ ys := by simp [List.getD, show j < ys.length by omega]
    exact (hval _ (lv.perm.mem_iff.1 hm)).1
  refine ⟨fun z h' => ∃ (i : Nat) (bits : List Bool) (Ab : Bag), z.1 = (i : Int) ∧ i ≤ n ∧ Sl tB (some ⟨bb, 0, none⟩) n n bits Ab ∧ (∀ j, j < i → bits.getD j false = bitU k (ys.getD j 0)) ∧ St h h' (Ab + (cA sb [.int .i64 (k : Int)] 3 + (Aq + (cA tb [.int .i64 (n : Int), .int .i64 sg, .int .i64 (H : Int), .slice lp d lc] 106 + (Al + V))))), fun z _ => (n - z.1).toNat, ⟨0, _, _, rfl, by omega, ob, fun j hj => by omega, s⟩, ?_⟩
  clear s ob
  rintro ⟨_, _⟩ h9 ⟨i, bits, Ab, rfl, hi, ob, hbits, s⟩
  dsimp only
  have hbl := ob.len
  rw [zcw_b5]
  refine condP (fun c7 => ?_) (fun c7 => ?_)
  · obtain ⟨u, hu⟩ := Int.eq_ofNat_of_zero_le (hypos i (by omega))
    refine (oq.rd (s.to (B := Aq + (Ab + (cA sb [.int .i64 (k : Int)] 3 + (cA tb [.int .i64 (n : Int), .int .i64 sg, .int .i64 (H : Int), .slice lp d lc] 106 + (Al + V))))))).int (by omega) (by omega) ?_
    rw [show ys.getD (Int.toNat (i : Int)) 0 = (u : Int) by rw [Int.toNat_natCast]; exact hu]
    refine ⟨_, s.ld0, yacz (x := u) (s := k) rfl rfl (by show k ≤ 64; omega) ?_⟩
    have hub : u ≤ 1024 := by
      have hm : ys.getD i 0 ∈ ys := by simp [List.getD, show i < ys.length by omega]
      have := (hval _ (lv.perm.mem_iff.1 hm)).2
      omega
    have hus : u >>> k ≤ 1024 := Nat.le_trans (by rw [Nat.shiftRight_eq_div_pow]; exact Nat.div_le_self _ _) hub
    refine yaxg (x := u >>> k) (y := 1) rfl rfl (by omega) (by omega) ?_
    rw [Nat.and_one_is_mod]
    refine ob.wrI (x := bitU k (u : Int)) s (by omega) (by omega) rfl (by rw [ybbq]) fun h12 Ab' ob' s' => ?_
    rw [zcw_b7]
    rw [Int.toNat_natCast] at ob'
    refine ⟨⟨by omega, by omega⟩, ⟨i + 1, _, Ab', by push_cast; rfl, by omega, ob', fun j hj => ?_, s'⟩, by dsimp only; omega⟩
    rcases Nat.lt_or_ge j i with h13 | h13
    · rw [List.getD_eq_getElem?_getD, List.getElem?_set_ne (by omega), ← List.getD_eq_getElem?_getD]
      exact hbits j h13
    · obtain rfl : j = i := by omega
      rw [hu]
      simp [List.getD, show j < bits.length by omega]
  · obtain rfl : i = n := by omega
    have hbm : bits = ys.map (bitU k) := by
      refine List.ext_getElem (by simp; omega) fun j g1 g2 => ?_
      have := hbits j (by omega)
      simp [List.getD, g1, show j < ys.length by omega] at this
      simp [this]
    rw [zcw_b8]
    refine (yazt (ob.rd s) (by omega)).mono fun v h13 ⟨a, B, hv, hpv, s13⟩ => ⟨_, _, hv, yabb rfl ?_⟩
    have s := s.join s13
    have s := (s.to (B := Ab + (cA tb [.int .i64 (i : Int), .int .i64 sg, .int .i64 (H : Int), .slice lp d lc] 106 + (Al + (cA sb [.int .i64 (k : Int)] 3 + (Aq + (V + B))))))).drop
    refine ⟨_, _, _, s.ldB, ?_⟩
    refine yahv ybic (s.to (B := Al + (cA tb [.int .i64 (i : Int), .int .i64 sg, .int .i64 (H : Int), .slice lp d lc] 106 + (cA sb [.int .i64 (k : Int)] 3 + (Aq + (V + B)))))) ol (x := a) rfl rfl (by omega) fun p' c' h15 Al' ol' s => ?_
    have s := s.to (B := cA tb [.int .i64 (i : Int), .int .i64 sg, .int .i64 (H : Int), .slice lp d lc] 106 + (Al' + (cA sb [.int .i64 (k : Int)] 3 + (Aq + (V + B)))))
    refine s.wr (o := 3) rfl (by simp) fun h16 s => ?_
    have s : St h h16 (Aq + (cA sb [.int .i64 (k : Int)] 3 + (cA tb [.int .i64 (i : Int), .int .i64 sg, .int .i64 (H : Int), .slice p' (d + 1) c'] 106 + (Al' + (V + B))))) :=
      St.to (A := cA tb [.int .i64 (i : Int), .int .i64 sg, .int .i64 (H : Int), .slice p' (d + 1) c'] 106 + (Al' + (cA sb [.int .i64 (k : Int)] 3 + (Aq + (V + B))))) s
    refine (yamk (ybcl (sb := sb) (k := k) (by omega)) (ordU k) s oq hypos (by omega)).mono fun v h17 ⟨hv, ys', Aq', oq', s, hpw, hst⟩ => ⟨hv, ?_⟩
    rw [zcw_b9]
    have e1 : H - d = k + 1 := by omega
    have e2 : H - (d + 1) = k := by omega
    rw [e1] at lv
    have erel : (fun x y : Int => cfU k x y < 0) = fun x y => up k x < up k y := by
      funext x y
      exact propext yafz
    rw [erel] at hst
    have lv' := ybam lv hst (hpw.imp fun h => fun h2 => h (yafz.2 h2))
    refine ⟨⟨by omega, by omega⟩, ⟨d + 1, by push_cast; rfl, by omega, ys', Aq', p', c', bs ++ [a], Al', lvls ++ [bits], V + B, oq', by rw [e2]; exact lv', ol', av.append (AllH.one hpv), fun j hj => ?_, ?_⟩, by dsimp only; omega⟩
    · have hvl := av.len
      have hbl2 := ol.len
      rcases Nat.lt_or_ge j d with h18 | h18
      · obtain ⟨z, hz1, hz2⟩ := hlv j h18
        refine ⟨z, hz1, ?_⟩
        rw [← hz2, List.getD_eq_getElem?_getD, List.getElem?_append_left (by omega), ← List.getD_eq_getElem?_getD]
      · obtain rfl : j = d := by omega
        refine ⟨ys, by rw [e1]; exact lv, ?_⟩
        rw [hk, List.getD_eq_getElem?_getD, List.getElem?_append_right (by omega), show j - lvls.length = 0 by omega]
        simpa using hbm
    · have := (s.find sb).drop
      exact this.to
structure IsV (t : Int × Int) : Prop where
  d1 : 1 ≤ t.2
  d2 : t.2 ≤ 1073741824
  n1 : -1073741824 ≤ t.1
  n2 : t.1 ≤ 1073741824
  g : Nat.gcd t.1.natAbs t.2.natAbs = 1
theorem gcd_q (a b : Nat) (h : Hp) : yaak Tryz.prog 89 #[.int .u64 (a : Int), .int .u64 (b : Int)] h (fun v h' => v = .int .u64 ((Nat.gcd a b : Nat) : Int) ∧ h' = h) := by
  refine zcd_call ?_
  rw [zcd_b0]
  refine ⟨fun s h1 => h1 = h ∧ ∃ x y : Nat, s.1 = (x : Int) ∧ s.2.1 = (y : Int) ∧ Nat.gcd x y = Nat.gcd a b, fun s _ => s.2.1.toNat, ⟨rfl, a, b, rfl, rfl, rfl⟩, ?_⟩
  rintro ⟨_, _, _⟩ h1 ⟨rfl, x, y, rfl, rfl, e⟩
  dsimp only
  rw [zcd_b1]
  refine condN (fun h2 => ?_) (fun h2 => ?_)
  · have hy : 0 < y := by omega
    refine ⟨((x % y : Nat) : Int), ⟨h2, by rw [Int.tmod_eq_emod_of_nonneg (by omega)]; rfl⟩, ⟨rfl, y, x % y, rfl, rfl, ?_⟩, ?_⟩
    · rw [← e, Nat.gcd_comm x y, Nat.gcd_rec y x, Nat.gcd_comm]
    · have := Nat.mod_lt x hy
      dsimp only
      omega
  · rw [zcd_b2]
    obtain rfl : y = 0 := by omega
    rw [Nat.gcd_zero_right] at e
    exact ⟨by rw [e], rfl⟩
theorem yapw (n : Int) (h1 : -4611686018427387904 ≤ n) (h2 : n ≤ 4611686018427387904) (h : Hp) : yaak Tryz.prog 88 #[.int .i64 n] h (fun v h' => v = .int .u64 ((n.natAbs : Nat) : Int) ∧ h' = h) := by
  refine zce_call ?_
  rw [zce_b0]
  refine condP (fun h3 => ⟨?_, rfl⟩) (fun h3 => ⟨?_, rfl⟩)
  · congr 1
    simp [IntKind.wrap, IntKind.bits, IntKind.signed]
    omega
  · rw [yabz _ (by omega) (by omega)]
    congr 1
    omega
theorem yata {t : Int × Int} (v : IsV t) (h : Hp) : yaak Tryz.prog 68 #[.agg #[.int .i64 t.1, .int .i64 t.2]] h (fun r h' => r = .bool true ∧ Ext h h') := by
  obtain ⟨h1, h2, h3, h4, h5⟩ := v
  refine zcc_call ?_
  rw [zcc_b0]
  have s := St.start h
  refine s.new (cs := [_, _]) fun b hh x s => ?_
  refine ⟨_, s.ldB, condP (fun _ => ?_) (fun h => absurd h1 h)⟩
  refine ⟨_, s.ldB, condP (fun _ => ?_) (fun h => absurd h2 h)⟩
  refine ⟨_, s.ld0, condP (fun _ => ?_) (fun h => absurd h3 h)⟩
  refine ⟨_, s.ld0, condP (fun _ => ?_) (fun h => absurd h4 h)⟩
  refine ⟨_, s.ld0, _, yapw _ (by omega) (by omega) _, _, s.ldB, _, yapw _ (by omega) (by omega) _, _, gcd_q _ _ _, ?_⟩
  rw [h5]
  exact ⟨rfl, x⟩
theorem ybei {num den : Int} (h1 : -1073741824 ≤ num) (h2 : num ≤ 1073741824) (h3 : -1073741824 ≤ den) (h4 : den ≤ 1073741824) (h5 : den ≠ 0) (h : Hp) :
    yaak Tryz.prog 51 #[.int .i64 num, .int .i64 den] h (fun v h' => Ext h h' ∧ ∃ x : Int × Int, v = .tuple #[.agg #[.int .i64 x.1, .int .i64 x.2], .int .i64 0] ∧ IsV x ∧ x.1 * den = num * x.2) := by
  refine zcb_call ?_
  rw [zcb_b0]
  have s := St.start h
  refine s.new (cs := [_, _]) fun b1 _ _ s => ?_
  refine condP (fun c => absurd c h5) (fun _ => ?_)
  refine (yapw num (by omega) (by omega) _).mono fun v h2' ⟨hv, hh⟩ => ⟨_, hv, ?_⟩
  subst hh
  refine (yapw den (by omega) (by omega) _).mono fun v h3' ⟨hv, hh⟩ => ⟨_, hv, ?_⟩
  subst hh
  refine (gcd_q _ _ _).mono fun v h4' ⟨hv, hh⟩ => ⟨_, hv, ?_⟩
  subst hh
  have hg : 0 < Nat.gcd num.natAbs den.natAbs := Nat.gcd_pos_of_pos_right _ (by omega)
  have hc := Nat.gcd_div_gcd_div_gcd_of_pos_right (n := num.natAbs) (m := den.natAbs) (by omega)
  obtain ⟨n, hn⟩ := Nat.gcd_dvd_left num.natAbs den.natAbs
  obtain ⟨d, hd⟩ := Nat.gcd_dvd_right num.natAbs den.natAbs
  generalize Nat.gcd num.natAbs den.natAbs = g at *
  have en : num.natAbs / g = n := by rw [hn]; exact Nat.mul_div_cancel_left _ hg
  have ed : den.natAbs / g = d := by rw [hd]; exact Nat.mul_div_cancel_left _ hg
  rw [en, ed] at hc
  have ln : n ≤ num.natAbs := by rw [hn]; exact Nat.le_mul_of_pos_left _ hg
  have ld : d ≤ den.natAbs := by rw [hd]; exact Nat.le_mul_of_pos_left _ hg
  have hd0 : 0 < d := by
    rcases Nat.eq_zero_or_pos d with h | h
    · subst h; omega
    · exact h
  have quo : ∀ (x y : Nat), x ≤ 1073741824 → x / g = y → Sx.Quo .u64 (x : Int) (g : Int) (y : Int) := fun x y hx hy => ⟨by omega, by
    rw [Int.tdiv_eq_ediv_of_nonneg (by omega), ← Int.natCast_ediv, hy, yabz _ (by omega) (by have := Nat.div_le_self x g; omega)]⟩
  refine ⟨(n : Int), quo _ _ (by omega) en, (d : Int), quo _ _ (by omega) ed, condP (fun c => by omega) (fun _ => condP (fun c => by omega) (fun _ => ?_))⟩
  rw [zcb_b1]
  refine ⟨⟨by omega, by omega⟩, ⟨by omega, by omega⟩, s.new (cs := [_, _]) fun b2 _ _ s => s.wr0 fun _ s => s.wrB fun h5' s => ?_⟩
  have fin : ∀ (z : Int) (h' : Hp), St h h' (cA b2 [.int .i64 z, .int .i64 (d : Int)] 26 + (cA b1 [.int .i64 0, .int .i64 0] 26 + 0)) → z.natAbs = n → z * den = num * d → zcb_b2 (some ⟨b1, 0, none⟩) (some ⟨b2, 0, none⟩) h' (fun v h' => Ext h h' ∧ ∃ x : Int × Int, v = .tuple #[.agg #[.int .i64 x.1, .int .i64 x.2], .int .i64 0] ∧ IsV x ∧ x.1 * den = num * x.2) := by
    intro z h' s hz hv
    rw [zcb_b2]
    refine ⟨_, _, s.ld0, s.ldB, s.wr0 fun _ s => s.wrB fun _ s => ⟨_, _, s.ld0, s.ldB, s.ext, (z, d), rfl, ⟨by dsimp only; omega, by dsimp only; omega, by dsimp only; omega, by dsimp only; omega, ?_⟩, hv⟩⟩
    dsimp only
    rw [hz, Int.natAbs_natCast]
    exact hc
  have key : ∀ (s1 s2 z : Int), num = s1 * (g * n) → den = s2 * (g * d) → z * s2 = s1 * n → z * den = num * d := by
    intro s1 s2 z e1 e2 e3
    rw [e1, e2]
    calc z * (s2 * (g * d)) = (z * s2) * (g * d) := by ac_rfl
      _ = s1 * n * (g * d) := by rw [e3]
      _ = s1 * (g * n) * d := by ac_rfl
  have hn' : ((num.natAbs : Nat) : Int) = (g : Int) * n := by rw [hn]; push_cast; rfl
  have hd' : ((den.natAbs : Nat) : Int) = (g : Int) * d := by rw [hd]; push_cast; rfl
  refine yaar (fun c => ?_) (fun c => ?_)
  · have c : decide (num < 0) ≠ decide (den < 0) := by simpa using c
    refine ⟨_, s.ld0, ⟨by omega, by omega⟩, s.wr0 fun _ s => ?_⟩
    refine fin (0 - n) _ s (by omega) ?_
    by_cases c1 : num < 0
    · have c2 : ¬ den < 0 := fun c2 => c (by simp [c1, c2])
      exact key (-1) 1 _ (by omega) (by omega) (by omega)
    · have c2 : den < 0 := Classical.byContradiction fun c2 => c (by simp [c1, c2])
      exact key 1 (-1) _ (by omega) (by omega) (by omega)
  · have c : decide (num < 0) = decide (den < 0) := by simpa using c
    refine fin n _ s (by omega) ?_
    by_cases c1 : num < 0
    · have c2 : den < 0 := by rw [decide_eq_decide] at c; exact c.1 c1
      exact key (-1) (-1) _ (by omega) (by omega) (by omega)
    · have c2 : ¬ den < 0 := by rw [decide_eq_decide] at c; exact fun h => c1 (c.2 h)
      exact key 1 1 _ (by omega) (by omega) (by omega)
theorem ybfx {a b : Int × Int} (va : IsV a) (vb : IsV b) (h : Hp) : yaak Tryz.prog 69 #[.agg #[.int .i64 a.1, .int .i64 a.2], .agg #[.int .i64 b.1, .int .i64 b.2]] h (fun v h' => v = .tuple #[.int .i64 (cmpI (a.1 * b.2) (b.1 * a.2)), .int .i64 0] ∧ Ext h h') := by
  refine zca_call ?_
  rw [zca_b0]
  have s := St.start h
  refine s.new (cs := [_, _]) fun b1 _ _ s => s.new (cs := [_, _]) fun b2 _ _ s => ?_
  refine ⟨_, _, s.ld0, s.ldB, ?_⟩
  refine (yata va _).mono fun v h3 ⟨hv, x3⟩ => ⟨_, hv, yabb rfl ?_⟩
  have s := s.grow x3
  refine ⟨_, _, s.ld0, s.ldB, ?_⟩
  refine (yata vb _).mono fun v h4 ⟨hv, x4⟩ => ⟨_, hv, yabb rfl ?_⟩
  have s := s.grow x4
  rw [zca_b1]
  have m : ∀ x y : Int, -1073741824 ≤ x → x ≤ 1073741824 → 1 ≤ y → y ≤ 1073741824 → InR (x * y) := by
    intro x y h1 h2 h3 h4
    have g1 : x * y ≤ 1073741824 * 1073741824 := by
      rcases Int.le_total 0 x with h | h
      · exact Int.mul_le_mul h2 h4 (by omega) (by omega)
      · have := Int.mul_nonpos_of_nonpos_of_nonneg h (show 0 ≤ y by omega); omega
    have g2 : -(1073741824 * 1073741824) ≤ x * y := by
      rcases Int.le_total 0 x with h | h
      · have := Int.mul_nonneg h (show 0 ≤ y by omega); omega
      · have := Int.mul_le_mul (a := -x) (b := y) (c := 1073741824) (d := 1073741824) (by omega) h4 (by omega) (by omega)
        rw [Int.neg_mul] at this; omega
    exact ⟨by omega, by omega⟩
  obtain ⟨a1, a2, a3, a4, _⟩ := va
  obtain ⟨d1, d2, d3, d4, _⟩ := vb
  refine ⟨_, s.ld0, _, s.ldB, m _ _ a3 a4 d1 d2, _, s.ld0, _, s.ldB, m _ _ d3 d4 a1 a2, ?_⟩
  refine (yadg _ _ _).mono fun v h5 ⟨hv, hh⟩ => ⟨_, hv, ?_⟩
  subst hh
  exact ⟨rfl, s.ext⟩
abbrev TM : Ty (Int × Int) := tPP 49
structure IsM (m : Int × Int) : Prop where
  a1 : -1048576 ≤ m.1
  a2 : m.1 ≤ 1048576
  s1 : -1000 ≤ m.2
  s2 : m.2 ≤ 1000
def IsT (t : Int × Int) : Prop := IsV t ∧ 0 ≤ t.1
def sc (m t : Int × Int) : Int := m.1 * t.2 + m.2 * t.1
abbrev vF (t : Int × Int) : Value := .agg #[.int .i64 t.1, .int .i64 t.2]
theorem yagq {e : TypeId} {h : Hp} {p : OA} {n : Nat} {l : List (Int × Int)} {i : Int} {Q : Addr → Int → Int → Prop} (r : RdT (tPP e) h p n l) (h0 : 0 ≤ i) (h1 : i < n) (hq : ∀ a, p = some a → cell h (a.add (Int.toNat i * 2)) = some (.int .i64 (l.getD i.toNat (0, 0)).1) → cell h ((a.add (Int.toNat i * 2)).add 1) = some (.int .i64 (l.getD i.toNat (0, 0)).2) → Q a (l.getD i.toNat (0, 0)).1 (l.getD i.toNat (0, 0)).2) :
    (0 ≤ i ∧ i < (n : Int)) ∧ NN p fun a => ∃ x y : Int, cell h (a.add (Int.toNat i * 2)) = some (.int .i64 x) ∧ cell h ((a.add (Int.toNat i * 2)).add 1) = some (.int .i64 y) ∧ Q a x y := by
  refine r.idx h0 h1 fun a ha hc => ?_
  have c0 := hc 0 (show 0 < 2 by decide)
  have c1 := hc 1 (show 1 < 2 by decide)
  exact ⟨_, _, c0, c1, hq a ha c0 c1⟩
theorem mulR {x y a b : Int} (h1 : -a ≤ x) (h2 : x ≤ a) (h3 : -b ≤ y) (h4 : y ≤ b) : -(a * b) ≤ x * y ∧ x * y ≤ a * b := by
  have ha : 0 ≤ a := by omega
  have hb : 0 ≤ b := by omega
  have e1 : x * y ≤ a * b := by
    rcases Int.le_total 0 x with h | h <;> rcases Int.le_total 0 y with g | g
    · exact Int.mul_le_mul h2 h4 g ha
    · have := Int.mul_nonpos_of_nonneg_of_nonpos h g; have := Int.mul_nonneg ha hb; omega
    · have := Int.mul_nonpos_of_nonpos_of_nonneg h g; have := Int.mul_nonneg ha hb; omega
    · have := Int.mul_le_mul (a := -x) (b := -y) (c := a) (d := b) (by omega) (by omega) (by omega) ha
      rw [Int.neg_mul_neg] at this; exact this
  have e2 : -(a * b) ≤ x * y := by
    rcases Int.le_total 0 x with h | h <;> rcases Int.le_total 0 y with g | g
    · have := Int.mul_nonneg h g; have := Int.mul_nonneg ha hb; omega
    · have := Int.mul_le_mul (a := x) (b := -y) (c := a) (d := b) (by omega) (by omega) (by omega) ha
      rw [Int.mul_neg] at this; omega
    · have := Int.mul_le_mul (a := -x) (b := y) (c := a) (d := b) (by omega) (by omega) (by omega) ha
      rw [Int.neg_mul] at this; omega
    · have := Int.mul_nonneg_of_nonpos_of_nonpos h g; have := Int.mul_nonneg ha hb; omega
  exact ⟨e2, e1⟩
theorem yawg (h : Hp) : yaak Tryz.prog 27 #[] h (fun v h' => v = vF (0, 1) ∧ Ext h h') := by
  refine zbs_call ?_
  rw [zbs_b0]
  have s := St.start h
  exact s.new (cs := [_, _]) fun b _ _ s => s.wr0 fun _ s => s.wrB fun _ s => ⟨_, _, s.ld0, s.ldB, rfl, s.ext⟩
theorem isT0 : IsT (0, 1) := ⟨⟨by decide, by decide, by decide, by decide, by decide⟩, by decide⟩
theorem bad_q {m : Int × Int} (hm : IsM m) (h : Hp) : yaak Tryz.prog 30 #[vF m] h (fun v h' => v = .bool false ∧ Ext h h') := by
  obtain ⟨h1, h2, h3, h4⟩ := hm
  refine zbe_call ?_
  rw [zbe_b0]
  have s := St.start h
  refine s.new (cs := [_, _]) fun b _ x s => ?_
  refine ⟨_, s.ld0, condP (fun c => by omega) (fun _ => ⟨_, s.ld0, condP (fun c => by omega) (fun _ => ⟨_, s.ldB, condP (fun c => by omega) (fun _ => ⟨_, s.ldB, ?_, x⟩)⟩)⟩)⟩
  rw [decide_eq_false (by omega)]
theorem yavd {t : Int × Int} (ht : IsT t) (h : Hp) : yaak Tryz.prog 33 #[vF t] h (fun v h' => v = .bool true ∧ Ext h h') := by
  refine zbr_call ?_
  rw [zbr_b0]
  have s := St.start h
  refine s.new (cs := [_, _]) fun b _ x s => ⟨_, _, s.ld0, s.ldB, ?_⟩
  refine (yata ht.1 _).mono fun v h3 ⟨hv, x3⟩ => ⟨_, hv, yacv rfl ?_⟩
  have s := s.grow x3
  refine ⟨_, s.ld0, ?_, s.ext⟩
  rw [decide_eq_true ht.2]
theorem yahi {a b : Int × Int} (va : IsV a) (vb : IsV b) (h : Hp) : yaak Tryz.prog 34 #[vF a, vF b] h (fun v h' => v = .bool (decide (a.1 * b.2 < b.1 * a.2)) ∧ Ext h h') := by
  refine zbf_call ?_
  rw [zbf_b0]
  have s := St.start h
  refine s.new (cs := [_, _]) fun b1 _ _ s => s.new (cs := [_, _]) fun b2 _ _ s => ?_
  refine ⟨_, _, s.ld0, s.ldB, _, _, s.ld0, s.ldB, ?_⟩
  refine (ybfx va vb _).mono fun v h3 ⟨hv, x3⟩ => ⟨_, _, hv, ?_, (s.grow x3).ext⟩
  rw [decide_eq_decide.2 yafz]
theorem yanm {m t : Int × Int} (hm : IsM m) (ht : IsT t) (h : Hp) : yaak Tryz.prog 52 #[vF m, vF t] h (fun v h' => v = .int .i64 (sc m t) ∧ Ext h h') := by
  refine zbq_call ?_
  rw [zbq_b0]
  obtain ⟨h1, h2, h3, h4⟩ := hm
  obtain ⟨⟨d1, d2, n1, n2, _⟩, n0⟩ := ht
  have s := St.start h
  have b1 := mulR (x := m.1) (y := t.2) (a := 1048576) (b := 1073741824) (by omega) (by omega) (by omega) (by omega)
  have b2 := mulR (x := m.2) (y := t.1) (a := 1000) (b := 1073741824) (by omega) (by omega) (by omega) (by omega)
  refine s.new (cs := [_, _]) fun b1 _ _ s => s.new (cs := [_, _]) fun b2 _ _ s => ?_
  exact ⟨_, s.ld0, _, s.ldB, ⟨by omega, by omega⟩, _, s.ldB, _, s.ld0, ⟨by omega, by omega⟩, ⟨by omega, by omega⟩, rfl, s.ext⟩
def Meets (a b x : Int × Int) : Prop := x.1 * (a.2 - b.2) = (b.1 - a.1) * x.2
theorem yavl {a b t : Int × Int} (ha : IsM a) (hb : IsM b) (ht : IsT t) (h : Hp) : yaak Tryz.prog 36 #[vF a, vF b, vF t] h (fun v h' => Ext h h' ∧ ∃ (x : Int × Int) (ok : Bool), v = .tuple #[vF x, .bool ok] ∧ (ok = true → IsT x ∧ Meets a b x ∧ t.1 * x.2 < x.1 * t.2 ∧ a.2 ≠ b.2) ∧ (ok = false → a.2 = b.2 ∨ ∃ y, IsV y ∧ Meets a b y ∧ ¬ t.1 * y.2 < y.1 * t.2)) := by
  refine zbn_call ?_
  rw [zbn_b0]
  obtain ⟨h1, h2, h3, h4⟩ := ha
  obtain ⟨g1, g2, g3, g4⟩ := hb
  have s := St.start h
  refine s.new (cs := [_, _]) fun b1 _ _ s => s.new (cs := [_, _]) fun b2 _ _ s => s.new (cs := [_, _]) fun b3 _ _ s => s.new (cs := [_, _]) fun b4 _ _ s => ?_
  refine ⟨_, s.ldB, _, s.ldB, condP (fun c => ?_) (fun c => ?_)⟩
  · exact s.wr0 fun _ s => s.wrB fun _ s => ⟨_, _, s.ld0, s.ldB, s.ext, (0, 0), false, rfl, fun h => by simp at h, fun _ => .inl c⟩
  refine ⟨_, s.ld0, _, s.ld0, ⟨by omega, by omega⟩, _, s.ldB, _, s.ldB, ⟨by omega, by omega⟩, ?_⟩
  refine (ybei (num := b.1 - a.1) (den := a.2 - b.2) (by omega) (by omega) (by omega) (by omega) (by omega) _).mono fun v h7 ⟨x7, x, hv, vx, ex⟩ => ⟨_, _, _, hv, ?_⟩
  have s := s.grow x7
  refine s.new (cs := [_, _]) fun b5 _ _ s => s.wr0 fun _ s => s.wrB fun h10 s => yabb rfl ?_
  refine ⟨_, _, s.ld0, s.ldB, _, _, s.ld0, s.ldB, ?_⟩
  refine (yahi ht.1 vx _).mono fun v h13 ⟨hv, x13⟩ => ⟨_, hv, ?_⟩
  have s := s.grow x13
  refine condN (fun c2 => ?_) (fun c2 => ?_)
  · exact s.wr0 fun _ s => s.wrB fun _ s => ⟨_, _, s.ld0, s.ldB, s.ext, (0, 0), false, rfl, fun h => by simp at h, fun _ => .inr ⟨x, vx, ex, c2⟩⟩
  rw [zbn_b1]
  refine ⟨_, _, s.ld0, s.ldB, s.wr0 fun _ s => s.wrB fun _ s => ⟨_, _, s.ld0, s.ldB, s.ext, x, true, rfl, fun _ => ⟨⟨vx, ?_⟩, ex, c2, c⟩, fun h => by simp at h⟩⟩
  have p1 := Int.mul_nonneg ht.2 (show 0 ≤ x.2 by have := vx.d1; omega)
  refine Classical.byContradiction fun hn => ?_
  have p2 := Int.mul_nonpos_of_nonpos_of_nonneg (show x.1 ≤ 0 by omega) (show 0 ≤ t.2 by have := ht.1.d1; omega)
  omega
theorem At_q {m : Int × Int} (hm : IsM m) {z : Int} (h0 : 0 ≤ z) (hz : z ≤ 255) (h : Hp) : yaak Tryz.prog 15 #[vF m, vF (z, 1)] h (fun v h' => Ext h h' ∧ ∃ y : Int × Int, v = .tuple #[vF y, .int .i64 0] ∧ IsV y ∧ y.1 = (m.1 + m.2 * z) * y.2) := by
  have ht : IsT (z, 1) := ⟨⟨by dsimp only; omega, by dsimp only; omega, by dsimp only; omega, by dsimp only; omega, by simp⟩, h0⟩
  refine zaw_call ?_
  rw [zaw_b0]
  have s := St.start h
  refine s.new (cs := [_, _]) fun b1 _ _ s => s.new (cs := [_, _]) fun b2 _ _ s => s.new (cs := [_, _]) fun b3 _ _ s => ?_
  refine ⟨_, _, s.ld0, s.ldB, (bad_q hm _).mono fun v h4 ⟨hv, x4⟩ => ⟨_, hv, yabb rfl ?_⟩⟩
  have s := s.grow x4
  refine ⟨_, _, s.ld0, s.ldB, (yavd ht _).mono fun v h7 ⟨hv, x7⟩ => ⟨_, hv, yabb rfl ?_⟩⟩
  have s := s.grow x7
  rw [zaw_b1]
  refine ⟨_, _, s.ld0, s.ldB, _, _, s.ld0, s.ldB, _, s.ldB, (yanm hm ht _).mono fun v h10 ⟨hv, x10⟩ => ⟨_, hv, ?_⟩⟩
  have s := s.grow x10
  have e : sc m (z, 1) = m.1 + m.2 * z := by unfold sc; dsimp only; rw [Int.mul_one]
  have b1 := mulR (x := m.2) (y := z) (a := 1000) (b := 255) (by have := hm.s1; omega) hm.s2 (by omega) hz
  have := hm.a1
  have := hm.a2
  refine ⟨yacu s.ldB, (ybei (num := sc m (z, 1)) (den := 1) (by omega) (by omega) (by decide) (by decide) (by decide) _).mono fun v h11 ⟨x11, y, hv, vy, ey⟩ => ⟨_, _, _, hv, ?_⟩⟩
  have s := s.grow x11
  refine s.wr0 fun _ s => s.wrB fun _ s => ⟨_, _, s.ld0, s.ldB, s.ext, y, rfl, vy, ?_⟩
  rw [e, Int.mul_one] at ey
  exact ey
theorem rOf_q (n : Int) (h : Hp) : yaak Tryz.prog 17 #[.int .i64 n] h (fun v h' => v = vF (n, 1) ∧ Ext h h') := by
  refine zbw_call ?_
  rw [zbw_b0]
  have s := St.start h
  exact s.new (cs := [_, _]) fun b _ _ s => s.wr0 fun _ s => s.wrB fun _ s => ⟨_, _, s.ld0, s.ldB, rfl, s.ext⟩
theorem ybgs {y : Int × Int} {n : Int} (vy : IsV y) (e : y.1 = n * y.2) (h : Hp) : yaak Tryz.prog 16 #[vF y, vF (n, 1)] h (fun v h' => v = .int .i64 0 ∧ Ext h h') := by
  refine zbv_call ?_
  rw [zbv_b0]
  have s := St.start h
  have := vy.n1
  have := vy.n2
  refine s.new (cs := [_, _]) fun b1 _ _ s => s.new (cs := [_, _]) fun b2 _ _ s => ?_
  refine ⟨_, s.ld0, _, s.ldB, ⟨by dsimp only; omega, by dsimp only; omega⟩, _, s.ld0, _, s.ldB, ⟨by dsimp only; omega, by dsimp only; omega⟩, condP (fun c => by dsimp only at c; omega) (fun _ => condP (fun c => by dsimp only at c; omega) (fun _ => ⟨rfl, s.ext⟩))⟩
theorem ybac (m : Int × Int) (h : Hp) : yaak Tryz.prog 26 #[vF m] h (fun v h' => ∃ b, v = .bool b ∧ (b = true → IsM m) ∧ Ext h h') := by
  refine zbx_call ?_
  rw [zbx_b0]
  have s := St.start h
  refine s.new (cs := [_, _]) fun b1 _ x s => ⟨_, s.ld0, condP (fun c1 => ⟨_, s.ld0, condP (fun c2 => ⟨_, s.ldB, condP (fun c3 => ⟨_, s.ldB, ?_⟩) (fun _ => ?_)⟩) (fun _ => ?_)⟩) (fun _ => ?_)⟩
  · exact ⟨_, rfl, fun h => ⟨c1, c2, c3, of_decide_eq_true h⟩, x⟩
  all_goals exact ⟨false, rfl, fun h => by simp at h, x⟩
theorem yavq {h : Hp} {p : OA} {n c : Nat} {l : List (Int × Int)} (r : RdT TM h p n l) (hn : n < 1000000) : yaak Tryz.prog 5 #[.slice p n c] h (fun v h' => ∃ b, v = .bool b ∧ (b = true → ∀ m ∈ l, IsM m) ∧ Ext h h') := by
  have hl := r.len
  refine zby_call ?_
  rw [zby_b0]
  refine ⟨fun i h1 => Ext h h1 ∧ ∃ i' : Nat, i.1 = i' ∧ i' ≤ n ∧ ∀ k, k < i' → IsM (l.getD k (0, 0)), fun i _ => (n - i.1).toNat, ⟨.refl _, 0, rfl, by omega, fun k hk => by omega⟩, ?_⟩
  rintro ⟨_, _⟩ h1 ⟨x1, i, rfl, hi, hall⟩
  dsimp only
  rw [zby_b1]
  refine condP (fun c => ?_) (fun c => ?_)
  · refine yagq (r.ext x1) (by omega) (by omega) fun a _ _ _ => ?_
    rw [Int.toNat_natCast]
    refine (ybac (l.getD i (0, 0)) _).mono fun v h2 ⟨b, hv, hb, x2⟩ => ⟨_, hv, ?_⟩
    refine yaar (fun c => ⟨false, rfl, fun h => by simp at h, x1.trans x2⟩) (fun c => ?_)
    have hb' := hb (by simpa using c)
    rw [zby_b2]
    refine ⟨⟨by omega, by omega⟩, ⟨x1.trans x2, i + 1, by push_cast; rfl, by omega, fun k hk => ?_⟩, by dsimp only; omega⟩
    rcases Nat.lt_or_ge k i with h4 | h4
    · exact hall k h4
    · rw [show k = i by omega]; exact hb'
  · rw [zby_b3]
    refine ⟨true, rfl, fun _ m hm => ?_, x1⟩
    obtain ⟨k, hk, rfl⟩ := List.getElem_of_mem hm
    have := hall k (by omega)
    simpa [List.getD, hk] using this
theorem getM {l : List (Int × Int)} (hm : ∀ m ∈ l, IsM m) {i : Nat} (hi : i < l.length) : IsM (l.getD i (0, 0)) := by
  refine hm _ ?_
  simp [List.getD, hi]
theorem yago {h : Hp} {p : OA} {n c : Nat} {l : List (Int × Int)} (r : RdT TM h p n l) (hn : n < 1000000) (hm : ∀ m ∈ l, IsM m) : yaak Tryz.prog 29 #[.slice p n c, .func (.func 30) #[] #[]] h (fun v h' => v = .bool false ∧ Ext h h') := by
  have hl := r.len
  refine zcj_call ?_
  rw [zcj_b0]
  refine yaak.mono (K := fun v h' => v = .int .i64 (-1) ∧ Ext h h') ?_ fun v h1 ⟨hv, hx⟩ => ⟨_, hv, rfl, hx⟩
  refine zcl_call ?_
  rw [zcl_b0]
  refine ⟨fun i h1 => Ext h h1 ∧ ∃ i' : Nat, i.1 = i' ∧ i' ≤ n, fun i _ => (n - i.1).toNat, ⟨.refl _, 0, rfl, by omega⟩, ?_⟩
  rintro ⟨_, _⟩ h1 ⟨x1, i, rfl, hi⟩
  dsimp only
  rw [zcl_b1]
  refine condP (fun c => ?_) (fun c => ?_)
  · refine yagq (r.ext x1) (by omega) (by omega) fun a _ _ _ => ?_
    rw [Int.toNat_natCast]
    refine yafg (by kernel_rfl) ((bad_q (getM hm (i := i) (by omega)) _).mono fun v h2 ⟨hv, x2⟩ => ⟨_, hv, yabb rfl ?_⟩)
    rw [zcl_b2]
    exact ⟨⟨by omega, by omega⟩, ⟨x1.trans x2, i + 1, by push_cast; rfl, by omega⟩, by dsimp only; omega⟩
  · rw [zcl_b3]
    exact ⟨rfl, x1⟩
theorem ybft : ElOk TM Tryz.prog 22 := yaeh (by kernel_rfl)
theorem yasg {h : Hp} {p : OA} {n c : Nat} {xs : List (Int × Int)} (r : RdT TM h p n xs) (hn : n < 1000000) :
    yaak Tryz.prog 28 #[.slice p n c] h (fun v h' => ∃ q d A, v = .slice q n d ∧ Sl TM q n d xs A ∧ St h h' A) := by
  refine zcg_call ?_
  rw [zcg_b0]
  have s := St.start h
  refine yaar (fun h1 => ?_) (fun h1 => ?_)
  · have hp : p = none := by simpa using h1
    subst hp
    have hn0 : n = 0 := by
      rcases r.2 with h0 | ⟨a, ha, _⟩
      · exact h0
      · cases ha
    subst hn0
    have : xs = [] := List.eq_nil_of_length_eq_zero r.len
    subst this
    exact ⟨none, 0, 0, rfl, Sl.nil, s⟩
  · refine s.new (cs := []) fun b h2 x2 s => ?_
    have o : Sl TM (some ⟨b, 0, none⟩) 0 0 [] (cA b [] 49) := Sl.of_blk (T := TM) (xs := []) rfl rfl
    refine yadi ybft s o (r.ext x2) (by omega) fun p' c' h3 A' o' s' => ?_
    rw [Nat.zero_add, List.nil_append] at o'
    exact ⟨p', c', A', by rw [Nat.zero_add], o', s'.to⟩
def or3 (x y z : Int) : Int := if x ≠ 0 then x else if y ≠ 0 then y else z
theorem Or3_w {h : Hp} {b : Nat} {x y z : Int} (cb : Blk h b [.int .i64 x, .int .i64 y, .int .i64 z] 3) : yaak Tryz.prog 72 #[.slice (some ⟨b, 0, none⟩) 3 3] h (fun v h' => v = .int .i64 (or3 x y z) ∧ h' = h) := by
  refine zaq_call ?_
  rw [zaq_b0]
  refine ⟨fun i h1 => h1 = h ∧ ∃ i' : Nat, i.1 = i' ∧ i' ≤ 3 ∧ (0 < i' → x = 0) ∧ (1 < i' → y = 0) ∧ (2 < i' → z = 0), fun i _ => (3 - i.1).toNat, ⟨rfl, 0, rfl, by omega, fun h => by omega, fun h => by omega, fun h => by omega⟩, ?_⟩
  rintro ⟨_, _⟩ h1 ⟨rfl, i, rfl, hi, hx, hy, hz⟩
  dsimp only
  rw [zaq_b1]
  refine condP (fun hlt => ?_) (fun hge => ?_)
  · refine ⟨⟨by omega, by omega⟩, ?_⟩
    rcases (by omega : i = 0 ∨ i = 1 ∨ i = 2) with rfl | rfl | rfl
    · refine ⟨x, cb.cell 0, condN (fun h2 => ⟨by unfold or3; rw [if_pos h2], rfl⟩) (fun h2 => ?_)⟩
      rw [zaq_b2]
      exact ⟨⟨by omega, by omega⟩, ⟨rfl, 1, rfl, by omega, fun _ => h2, fun h => by omega, fun h => by omega⟩, by dsimp only; omega⟩
    · have hx0 := hx (by omega)
      refine ⟨y, cb.cell 1, condN (fun h2 => ⟨by unfold or3; rw [if_neg (by omega), if_pos h2], rfl⟩) (fun h2 => ?_)⟩
      rw [zaq_b2]
      exact ⟨⟨by omega, by omega⟩, ⟨rfl, 2, rfl, by omega, fun _ => hx0, fun _ => h2, fun h => by omega⟩, by dsimp only; omega⟩
    · have hx0 := hx (by omega)
      have hy0 := hy (by omega)
      refine ⟨z, cb.cell 2, condN (fun h2 => ⟨by unfold or3; rw [if_neg (by omega), if_neg (by omega)], rfl⟩) (fun h2 => ?_)⟩
      rw [zaq_b2]
      exact ⟨⟨by omega, by omega⟩, ⟨rfl, 3, rfl, by omega, fun _ => hx0, fun _ => hy0, fun _ => h2⟩, by dsimp only; omega⟩
  · obtain rfl : i = 3 := by omega
    rw [zaq_b3]
    exact ⟨by unfold or3; rw [if_neg (by rw [hx (by omega)]; simp), if_neg (by rw [hy (by omega)]; simp), hz (by omega)], rfl⟩
def LessN (l : List (Int × Int)) (t : Int × Int) (a b : Nat) : Prop :=
  sc (l.getD a (0, 0)) t < sc (l.getD b (0, 0)) t ∨ (sc (l.getD a (0, 0)) t = sc (l.getD b (0, 0)) t ∧ ((l.getD a (0, 0)).2 < (l.getD b (0, 0)).2 ∨ ((l.getD a (0, 0)).2 = (l.getD b (0, 0)).2 ∧ a < b)))
def cfK (l : List (Int × Int)) (t : Int × Int) (x y : Int) : Int :=
  or3 (cmpI (sc (l.getD x.toNat (0, 0)) t) (sc (l.getD y.toNat (0, 0)) t)) (cmpI (l.getD x.toNat (0, 0)).2 (l.getD y.toNat (0, 0)).2) (cmpI x y)
theorem yaro {x1 y1 x2 y2 x3 y3 : Int} : or3 (cmpI x1 y1) (cmpI x2 y2) (cmpI x3 y3) < 0 ↔ x1 < y1 ∨ (x1 = y1 ∧ (x2 < y2 ∨ (x2 = y2 ∧ x3 < y3))) := by
  unfold or3 cmpI
  repeat' split
  all_goals omega
theorem ordK (l : List (Int × Int)) (t : Int × Int) : OrdP (fun x y : Int => cfK l t x y < 0) := by
  constructor
  · intro x y h1 h2
    unfold cfK at h1 h2
    rw [yaro] at h1 h2
    omega
  · intro x y z h1 h2 h3
    unfold cfK at h1 h2 h3
    rw [yaro] at h1 h2 h3
    omega
theorem ybbm {h0 : Hp} {G : Bag} {b1 b2 : Nat} {p : OA} {n c : Nat} {l : List (Int × Int)} {t : Int × Int} {D D2 : Bag} [x1 : Bag.Has b1 G [.slice p n c] 22 D] [x2 : Bag.Has b2 G [.int .i64 t.1, .int .i64 t.2] 26 D2] (r : RdT TM h0 p n l) (hm : ∀ m ∈ l, IsM m) (ht : IsT t) :
    CmpCI h0 G (.func (.func 71) #[] #[ptr b1, ptr b2]) (cfK l t) (fun x => 0 ≤ x ∧ x < n) := by
  have hl := r.len
  rintro x y h B K s ⟨hx0, hx1⟩ ⟨hy0, hy1⟩ hK
  obtain ⟨x, rfl⟩ := Int.eq_ofNat_of_zero_le hx0
  obtain ⟨y, rfl⟩ := Int.eq_ofNat_of_zero_le hy0
  have r := r.ext s.ext
  have c1 : cell h ⟨b1, 0, none⟩ = some (.slice p n c) := by
    have s' : St h0 h (cA b1 [.slice p n c] 22 + (D + B)) := by
      rw [x1.eq] at s
      exact s.to
    exact s'.cell 0
  have s' : St h0 h (cA b2 [.int .i64 t.1, .int .i64 t.2] 26 + (D2 + B)) := by
    rw [x2.eq] at s
    exact s.to
  have t0 : cell h ⟨b2, 0, none⟩ = some (.int .i64 t.1) := s'.cell 0
  have t1 : cell h ((⟨b2, 0, none⟩ : Addr).add 1) = some (.int .i64 t.2) := s'.cellA 1
  clear s'
  obtain ⟨a, ha, ec⟩ := r.at_ (i := x) (by omega)
  obtain ⟨a', ha', ed⟩ := r.at_ (i := y) (by omega)
  subst ha
  cases ha'
  have ex0 : cell h (a.add (x * 2)) = some (.int .i64 (l.getD x (0, 0)).1) := ec 0 (show 0 < 2 by decide)
  have ex1 : cell h ((a.add (x * 2)).add 1) = some (.int .i64 (l.getD x (0, 0)).2) := ec 1 (show 1 < 2 by decide)
  have ey0 : cell h (a.add (y * 2)) = some (.int .i64 (l.getD y (0, 0)).1) := ed 0 (show 0 < 2 by decide)
  have ey1 : cell h ((a.add (y * 2)).add 1) = some (.int .i64 (l.getD y (0, 0)).2) := ed 1 (show 1 < 2 by decide)
  have mx := getM hm (i := x) (by omega)
  have my := getM hm (i := y) (by omega)
  refine yafg (by kernel_rfl) (zbp_call ?_)
  rw [zbp_b0]
  simp only [Int.toNat_natCast]
  have ix : 0 ≤ (x : Int) ∧ (x : Int) < n := ⟨by omega, by omega⟩
  have iy : 0 ≤ (y : Int) ∧ (y : Int) < n := ⟨by omega, by omega⟩
  refine ⟨_, _, _, c1, ix, _, _, ex0, ex1, _, _, t0, t1, _, _, _, c1, iy, _, _, ey0, ey1, _, _, t0, t1, _, _, _, c1, ix, _, ex1, _, _, _, c1, iy, _, ey1, ?_⟩
  refine (yanm mx ht h).mono fun v h1 ⟨hv, x1⟩ => ⟨_, hv, yacu (x1.cell ey1), ⟨_, _, _, x1.cell c1, rfl⟩, yacu (x1.cell ex1), ⟨_, _, _, x1.cell c1, rfl⟩, ⟨_, _, x1.cell t0, x1.cell t1, rfl⟩, ⟨_, _, x1.cell ey0, x1.cell ey1, rfl⟩, ⟨_, _, _, x1.cell c1, rfl⟩, ?_⟩
  refine (yanm my ht h1).mono fun v h2 ⟨hv, x2⟩ => ⟨_, hv, ?_⟩
  have x2 := x1.trans x2
  refine ⟨yacu (x2.cell ey1), ⟨_, _, _, x2.cell c1, rfl⟩, yacu (x2.cell ex1), ⟨_, _, _, x2.cell c1, rfl⟩, ?_⟩
  refine (yadg _ _ _).mono fun v h3 ⟨hv, hh⟩ => ⟨_, hv, ?_⟩
  subst hh
  refine ⟨yacu (x2.cell ey1), ⟨_, _, _, x2.cell c1, rfl⟩, yacu (x2.cell ex1), ⟨_, _, _, x2.cell c1, rfl⟩, ?_⟩
  refine (yadg _ _ _).mono fun v h4 ⟨hv, hh⟩ => ⟨_, hv, ?_⟩
  subst hh
  refine (yadg _ _ _).mono fun v h5 ⟨hv, hh⟩ => ⟨_, hv, ?_⟩
  subst hh
  refine (St.start _).new (cs := [_, _, _]) fun b h6 x6 s6 => ?_
  refine (Or3_w (s6.find b).blk).mono fun v h7 ⟨hv, hh⟩ => ⟨_, hv, ?_⟩
  subst hh
  exact hK _ (x2.trans x6)
structure IsOrd (l : List (Int × Int)) (t : Int × Int) (os : List Nat) : Prop where
  perm : os.Perm (List.range l.length)
  srt : os.Pairwise (LessN l t)
theorem yayy {l : List (Int × Int)} {t : Int × Int} {ys : List Int} (hp : ys.Perm ((List.range l.length).map fun i : Nat => (i : Int))) (hs : ys.Pairwise fun x y => ¬ cfK l t y x < 0) : ∃ os : List Nat, ys = os.map (fun i : Nat => (i : Int)) ∧ IsOrd l t os := by
  have hmem : ∀ y ∈ ys, ∃ i : Nat, y = (i : Int) := by
    intro y hy
    have := hp.mem_iff.1 hy
    obtain ⟨i, _, e⟩ := List.mem_map.1 this
    exact ⟨i, e.symm⟩
  have e : (ys.map Int.toNat).map (fun i : Nat => (i : Int)) = ys := by
    rw [List.map_map]
    conv => rhs; rw [← List.map_id ys]
    refine List.map_congr_left fun y hy => ?_
    obtain ⟨i, rfl⟩ := hmem y hy
    simp
  have hnd : ys.Nodup := by
    rw [hp.nodup_iff]
    refine List.Pairwise.map _ (fun a b h => ?_) (List.nodup_range (n := l.length))
    intro h2
    exact h (by omega)
  refine ⟨ys.map Int.toNat, e.symm, ?_, ?_⟩
  · have := hp.map Int.toNat
    rw [List.map_map] at this
    refine this.trans (List.Perm.of_eq ?_)
    conv => rhs; rw [← List.map_id (List.range l.length)]
    refine List.map_congr_left fun y _ => ?_
    simp
  · rw [List.pairwise_map]
    refine List.Pairwise.imp_of_mem ?_ (hs.and hnd)
    rintro x y hx hy ⟨h1, h2⟩
    obtain ⟨x, rfl⟩ := hmem x hx
    obtain ⟨y, rfl⟩ := hmem y hy
    unfold cfK at h1
    rw [yaro] at h1
    simp only [Int.toNat_natCast] at *
    unfold LessN
    omega
theorem yasd {h : Hp} {p : OA} {n c : Nat} {l : List (Int × Int)} {t : Int × Int} (r : RdT TM h p n l) (hn : n ≤ 12) (hm : ∀ m ∈ l, IsM m) (ht : IsT t) :
    yaak Tryz.prog 35 #[.slice p n c, vF t] h (fun v h' => ∃ q d A os, v = .slice q n d ∧ Sl (tI 3) q n d (os.map fun i : Nat => (i : Int)) A ∧ St h h' A ∧ IsOrd l t os) := by
  have hl := r.len
  refine zbo_call ?_
  rw [zbo_b0]
  have s := St.start h
  refine s.new (cs := [_]) fun b1 _ _ s => s.new (cs := [_, _]) fun b2 h2 _ s => ⟨_, _, _, s.ld0, ?_⟩
  refine ⟨fun z h' => ∃ (i : Nat) (A : Bag), z.2.1 = (i : Int) ∧ i ≤ n ∧ z.1.2.1 = i ∧ Sl (tI 3) z.1.1 i z.1.2.2 ((List.range i).map fun i : Nat => (i : Int)) A ∧ St h h' (A + (cA b1 [.slice p n c] 22 + cA b2 [.int .i64 t.1, .int .i64 t.2] 26)), fun z _ => (n - z.2.1).toNat, ⟨0, 0, rfl, by omega, rfl, Sl.nil, s.to⟩, ?_⟩
  clear s
  rintro ⟨⟨q, m, d⟩, _, _⟩ h3 ⟨i, A, rfl, hi, hmi, o, s⟩
  dsimp only at hmi o ⊢
  obtain rfl : i = m := hmi.symm
  rw [zbo_b1]
  refine condP (fun c1 => ?_) (fun c1 => ?_)
  · refine yahv yaya s o (x := (i : Int)) rfl rfl (by omega) fun p' c' h5 A' o' s => ?_
    rw [zbo_b2]
    refine ⟨⟨by omega, by omega⟩, ⟨i + 1, A', by push_cast; rfl, by omega, rfl, ?_, s⟩, by dsimp only; omega⟩
    rw [List.range_succ, List.map_append]
    exact o'
  · obtain rfl : i = n := by omega
    rw [zbo_b3]
    refine (ybex (ybbm (b1 := b1) (b2 := b2) r hm ht) (ordK l t) s o (fun k hk => ?_) (by omega)).mono fun v h6 ⟨hv, ys, A', o2, s2, hp, hs⟩ => ⟨hv, ?_⟩
    · simp [List.getD, hk]
    rw [← hl] at hp
    obtain ⟨os, rfl, ho⟩ := yayy hp hs
    exact ⟨q, d, A', os, rfl, o2, s2.left, ho⟩
abbrev nI (i : Nat) : Int := (i : Int)
theorem yaif (os : List Nat) (i : Nat) : (os.map nI).getD i 0 = ((os.getD i 0 : Nat) : Int) := by
  simp only [List.getD_eq_getElem?_getD, List.getElem?_map]
  cases os[i]? <;> rfl
theorem IsOrd.len {l : List (Int × Int)} {t : Int × Int} {os : List Nat} (o : IsOrd l t os) : os.length = l.length := by
  rw [o.perm.length_eq, List.length_range]
theorem IsOrd.lt {l : List (Int × Int)} {t : Int × Int} {os : List Nat} (o : IsOrd l t os) {i : Nat} (hi : i < l.length) : os.getD i 0 < l.length := by
  have h := o.len
  have : os.getD i 0 ∈ os := by simp [List.getD, show i < os.length by omega]
  simpa using o.perm.mem_iff.1 this
def KL (l : List (Int × Int)) (t : Int × Int) (os : List Nat) (kb : Nat) (A : Bag) : Prop :=
  ∃ (q : OA) (n d : Nat) (qo : OA) (e : Nat) (Am Ao : Bag), A = cA kb [.slice q n d, .int .i64 t.1, .int .i64 t.2, .slice qo n e] 80 + (Am + Ao) ∧ Sl TM q n d l Am ∧ Sl (tI 3) qo n e (os.map nI) Ao ∧ IsOrd l t os
def KT (l : List (Int × Int)) (t : Int × Int) (w : Nat) (ev : Int) (kb : Nat) (A : Bag) : Prop :=
  ∃ (q : OA) (n d : Nat) (Am : Bag), A = cA kb [.slice q n d, .int .i64 t.1, .int .i64 t.2, .int .i64 (w : Int), .int .i64 ev] 84 + Am ∧ Sl TM q n d l Am
theorem ybep {h : Hp} {p : OA} {n c : Nat} {l : List (Int × Int)} {t : Int × Int} (r : RdT TM h p n l) (hn : n ≤ 12) (hm : ∀ m ∈ l, IsM m) (ht : IsT t) :
    yaak Tryz.prog 22 #[.slice p n c, vF t] h (fun v h' => ∃ q d A os, v = .tuple #[.slice q n d, .int .i64 0] ∧ Sl (tI 3) q n d (os.map nI) A ∧ St h h' A ∧ IsOrd l t os) := by
  refine zbb_call ?_
  rw [zbb_b0]
  have s := St.start h
  refine s.new (cs := [_, _]) fun b1 _ x1 s => ?_
  refine (yago (r.ext x1) (by omega) hm).mono fun v h2 ⟨hv, x2⟩ => ⟨_, hv, yabb rfl ?_⟩
  have s := s.grow x2
  refine ⟨_, _, s.ld0, s.ldB, (yavd ht _).mono fun v h3 ⟨hv, x3⟩ => ⟨_, hv, yabb rfl (condP (fun c => by omega) (fun _ => ?_))⟩⟩
  have s := s.grow x3
  rw [zbb_b1]
  refine ⟨_, _, s.ld0, s.ldB, (yasd (r.ext s.ext) hn hm ht).mono fun v h4 ⟨q, d, A, os, hv, o, s4, ho⟩ => ⟨_, _, _, hv, q, d, A, os, rfl, o, (s.join s4).left, ho⟩⟩
theorem ybch {h : Hp} {p : OA} {n c : Nat} {l : List (Int × Int)} {t : Int × Int} (r : RdT TM h p n l) (hn : n ≤ 12) (h0 : 0 < n) (hm : ∀ m ∈ l, IsM m) (ht : IsT t) :
    yaak Tryz.prog 31 #[.slice p n c, vF t] h (fun v h' => ∃ os, v = .int .i64 (nI (os.getD (n - 1) 0)) ∧ Ext h h' ∧ IsOrd l t os) := by
  refine zbm_call ?_
  rw [zbm_b0]
  have s := St.start h
  refine s.new (cs := [_, _]) fun b1 _ x1 s => ⟨_, _, s.ld0, s.ldB, ?_⟩
  refine (yasd (r.ext x1) hn hm ht).mono fun v h2 ⟨q, d, A, os, hv, o, s2, ho⟩ => ⟨_, _, _, hv, ⟨by omega, by omega⟩, ?_⟩
  refine (o.rd (s2.to (B := A + 0))).int (by omega) (by omega) ⟨os, ?_, (s.join s2).ext, ho⟩
  rw [show Int.toNat ((n : Int) - 1) = n - 1 by omega]
  exact congrArg _ (yaif os (n - 1))
theorem yavm {h : Hp} {p : OA} {n c : Nat} {l : List (Int × Int)} (r : RdT TM h p n l) (hn : n ≤ 12) (hm : ∀ m ∈ l, IsM m) :
    yaak Tryz.prog 6 #[.slice p n c] h (fun v h' => ∃ kb os A, v = .tuple #[ptr kb, .int .i64 0] ∧ KL l (0, 1) os kb A ∧ St h h' A) := by
  refine zaz_call ?_
  rw [zaz_b0]
  have s := St.start h
  refine (yawg _).mono fun v h1 ⟨hv, x1⟩ => ⟨_, _, hv, ?_⟩
  have s := s.grow x1
  refine (ybep (r.ext s.ext) hn hm isT0).mono fun v h2 ⟨qo, e, Ao, os, hv, oo, s2, ho⟩ => ⟨_, _, _, _, hv, yabb rfl ?_⟩
  have s := s.join s2
  refine (yasg (r.ext s.ext) (by omega)).mono fun v h3 ⟨q, d, Am, hv, om, s3⟩ => ⟨_, _, _, hv, ?_⟩
  have s := s.join s3
  refine (yawg _).mono fun v h4 ⟨hv, x4⟩ => ⟨_, _, hv, ?_⟩
  have s := s.grow x4
  exact s.new (cs := [_, _, _, _]) fun kb h5 _ s => ⟨kb, os, _, rfl, ⟨q, n, d, qo, e, Am, Ao, rfl, om, oo, ho⟩, s.to⟩
theorem yajg {h0 h : Hp} {l : List (Int × Int)} {t : Int × Int} {os : List Nat} {kb : Nat} {A F : Bag} (k : KL l t os kb A) (s : St h0 h (A + F)) (hn : l.length ≤ 12) :
    yaak Tryz.prog 9 #[ptr kb] h (fun v h' => ∃ q d A', v = .slice q l.length d ∧ Sl (tI 3) q l.length d (os.map nI) A' ∧ St h h' A') := by
  obtain ⟨q, n, d, qo, e, Am, Ao, rfl, om, oo, ho⟩ := k
  have hl := om.len
  subst hl
  refine zay_call ?_
  rw [zay_b0]
  have s := s.to (B := cA kb [.slice q l.length d, .int .i64 t.1, .int .i64 t.2, .slice qo l.length e] 80 + (Ao + (Am + F)))
  refine yabb rfl ⟨_, _, _, s.ldB, ?_⟩
  exact (yatk (oo.rd (s.at Ao)) (by omega)).mono fun v h1 ⟨q', d', A', hv, o', s'⟩ => ⟨_, _, _, hv, q', d', A', rfl, o', s'⟩
theorem yaiw {h : Hp} {p : OA} {n c : Nat} {l : List (Int × Int)} (r : RdT TM h p n l) (hn : n ≤ 12) (h0 : 0 < n) (hm : ∀ m ∈ l, IsM m) :
    yaak Tryz.prog 7 #[.slice p n c] h (fun v h' => ∃ kb os A, v = .tuple #[ptr kb, .int .i64 0] ∧ IsOrd l (0, 1) os ∧ KT l (0, 1) (os.getD (n - 1) 0) 0 kb A ∧ St h h' A) := by
  refine zba_call ?_
  rw [zba_b0]
  have s := St.start h
  refine (yago r (by omega) hm).mono fun v h1 ⟨hv, x1⟩ => ⟨_, hv, yabb rfl (condP (fun c => by omega) (fun _ => condP (fun c => by omega) (fun _ => ?_)))⟩
  have s := s.grow x1
  rw [zba_b1]
  refine (yasg (r.ext s.ext) (by omega)).mono fun v h2 ⟨q, d, Am, hv, om, s2⟩ => ⟨_, _, _, hv, ?_⟩
  have s := s.join s2
  refine (yawg _).mono fun v h3 ⟨hv, x3⟩ => ⟨_, _, hv, ?_⟩
  have s := s.grow x3
  refine (yawg _).mono fun v h4 ⟨hv, x4⟩ => ⟨_, _, hv, ?_⟩
  have s := s.grow x4
  refine (ybch (r.ext s.ext) hn h0 hm isT0).mono fun v h5 ⟨os, hv, x5, ho⟩ => ⟨_, hv, ?_⟩
  have s := s.grow x5
  exact s.new (cs := [_, _, _, _, _]) fun kb h6 _ s => ⟨kb, os, _, rfl, ho, ⟨q, n, d, Am, rfl, om⟩, s.to⟩
def methB (P : Program) (t : TypeId) (name : String) (f : FuncId) (pr : Bool) (e : TypeId) : Bool :=
  (match P.info? t with | some i => (match i.methods.find? (·.name == name) with | some m => (match m.path.toList with | [] => (match m.func with | some (f', pr') => f' == f && pr' == pr | none => false) | _ => false) | none => false) | none => false) && (match P.underlying t with | some (.pointer e') => e' == e | _ => false) && (match yacx P e with | some b => !b | none => false) && (match P.funcs[f]? with | some fn => !(fn.name == "runtime.NumGoroutine") && !fn.body.isNone | none => false)
theorem yalm {P : Program} {t : TypeId} {name : String} {f : FuncId} {pr : Bool} {e : TypeId} (h : methB P t name f pr e = true) :
    (∃ i m, P.info? t = some i ∧ i.methods.find? (·.name == name) = some m ∧ m.path.toList = [] ∧ m.func = some (f, pr)) ∧ P.underlying t = some (.pointer e) ∧ yacx P e = some false ∧ yaau P f := by
  unfold methB at h
  simp only [Bool.and_eq_true] at h
  obtain ⟨⟨⟨h1, h2⟩, h3⟩, h4⟩ := h
  refine ⟨?_, ?_, ?_, ?_⟩
  · split at h1
    · rename_i i hi
      split at h1
      · rename_i m hm
        split at h1
        · rename_i hp
          split at h1
          · rename_i f' pr' hf
            simp at h1
            obtain ⟨rfl, rfl⟩ := h1
            exact ⟨i, m, hi, hm, hp, hf⟩
          · cases h1
        · cases h1
      · cases h1
    · cases h1
  · split at h2
    · rename_i e' he
      simp at h2
      subst h2
      exact he
    · cases h2
  · split at h3
    · rename_i b hb
      rw [hb]
      simpa using h3
    · cases h3
  · split at h4
    · rename_i fn hf
      simp at h4
      exact ⟨fn, hf, by simpa using h4.1, by simpa using h4.2⟩
    · cases h4
theorem fuelE (P : Program) : P.types.size + Made.depth = P.types.size + Made.depth - 1 + 1 := by
  have : 0 < Made.depth := by decide
  omega
theorem yawo {P : Program} {t : TypeId} {name : String} {f : FuncId} {e : TypeId} {v : Value} {args : List Value} {h : Hp} {K : VK} (hm : methB P t name f true e = true) (hc : yaak P f (#[v] ++ args.toArray) h K) : invC P (.iface t v) name args h K := by
  obtain ⟨⟨i, m, h1, h2, h3, h4⟩, h5, h6, h7⟩ := yalm hm
  unfold invC callMethod
  simp only [program, yaac, hw]
  refine yacc _ _ _ ?_
  obtain ⟨n, hn⟩ : ∃ n, P.types.size + Made.depth = n + 1 := ⟨P.types.size + Made.depth - 1, fuelE P⟩
  rw [hn]
  unfold method
  simp only [yaab, yabf, h1, h2, h3, h4, follow, yaah, receiverAt, yaaf, h5, Place.get]
  exact yadp h7 _ _ (nextK P K) hc
theorem yatq {P : Program} {t : TypeId} {name : String} {f : FuncId} {e : TypeId} {a : Addr} {x : Value} {args : List Value} {h : Hp} {K : VK} (hm : methB P t name f false e = true) (hx : cell h a = some x) (hc : yaak P f (#[x] ++ args.toArray) h K) : invC P (.iface t (.pointer (some a))) name args h K := by
  obtain ⟨⟨i, m, h1, h2, h3, h4⟩, h5, h6, h7⟩ := yalm hm
  unfold invC callMethod
  simp only [program, yaac, hw]
  refine yacc _ _ _ ?_
  obtain ⟨n, hn⟩ : ∃ n, P.types.size + Made.depth = n + 1 := ⟨P.types.size + Made.depth - 1, fuelE P⟩
  rw [hn]
  unfold method
  have hp : m.path.isEmpty = true := by
    have : m.path = #[] := Array.toList_inj.1 h3
    rw [this]; rfl
  have hw : ∀ s1 s2, Builtin.ssaWrapNilChk_ #[t] t #[.pointer (some a), strVal s1, strVal s2] = pure (.pointer (some a)) := fun _ _ => rfl
  simp only [yaab, yabf, h1, h2, h3, h4, follow, yaah, receiverAt, yaaf, h5, Place.get, hp, if_true, hw, asAddr, loadVar, yaij, h6]
  exact ⟨x, hx, yadp h7 _ _ (nextK P K) hc⟩
theorem mkI_q {P : Program} {t : TypeId} {d : TypeDesc} {x : Value} {h : Hp} {K : VK} (hu : P.underlying t = some d) (hd : ∀ m, d ≠ .interface m) (hk : K (.iface t x) h) : hw P (Instr.makeInterface t x) h K := by
  unfold Instr.makeInterface
  simp only [yaac, yaao, hu]
  exact hk
theorem asI_q {P : Program} {t t0 : TypeId} {d : TypeDesc} {x : Value} {h : Hp} {K : Value → Prop} (hu : P.underlying t = some d) (hd : ∀ m, d ≠ .interface m) (hk : K x) : hq P (Instr.typeAssert (.iface t x) t0 t false) h K := by
  unfold Instr.typeAssert
  simp only [yaab, yaaf, hu]
  split
  · exact hk
  · rename_i h1; exact absurd trivial h1
def noIfc (P : Program) (t : TypeId) : Bool := match P.underlying t with | some (.interface _) => false | some _ => true | none => false
theorem yafq {P : Program} {t : TypeId} (h : noIfc P t = true) : ∃ d, P.underlying t = some d ∧ ∀ m, d ≠ .interface m := by
  unfold noIfc at h
  split at h
  · cases h
  · rename_i d hn hd
    exact ⟨d, hd, fun m e => by subst e; exact hn m rfl⟩
  · cases h
abbrev evI (q : Nat) : Value := .iface 92 (ptr q)
theorem m_len : methB Tryz.prog 92 "Len" 38 false 93 = true := by kernel_rfl
theorem ybgq : methB Tryz.prog 92 "Less" 341 false 93 = true := by kernel_rfl
theorem ybfk : methB Tryz.prog 92 "Swap" 344 false 93 = true := by kernel_rfl
theorem ybgt : methB Tryz.prog 92 "Push" 343 true 93 = true := by kernel_rfl
theorem m_pop : methB Tryz.prog 92 "Pop" 342 true 93 = true := by kernel_rfl
abbrev I4 := Int × Int × Int × Int
abbrev T4 : Ty I4 := ⟨98, 4, fun z => [.int .i64 z.1, .int .i64 z.2.1, .int .i64 z.2.2.1, .int .i64 z.2.2.2], (0, 0, 0, 0), fun _ => rfl, by decide, fun _ v hv => by simp at hv; rcases hv with rfl | rfl | rfl | rfl <;> rfl⟩
abbrev vS (z : I4) : Value := .agg #[.int .i64 z.1, .int .i64 z.2.1, .int .i64 z.2.2.1, .int .i64 z.2.2.2]
theorem ok_ev : ElOk T4 Tryz.prog 93 := yaeh (by kernel_rfl)
theorem ybfb : ElOk T4 Tryz.prog 39 := yaeh (by kernel_rfl)
theorem yame (t : Int × Int) (h : Hp) : yaak Tryz.prog 68 #[vF t] h (fun r h' => ∃ b, r = .bool b ∧ (b = true → 1 ≤ t.2 ∧ t.2 ≤ 1073741824 ∧ -1073741824 ≤ t.1 ∧ t.1 ≤ 1073741824) ∧ Ext h h') := by
  refine zcc_call ?_
  rw [zcc_b0]
  have s := St.start h
  refine s.new (cs := [_, _]) fun b hh x s => ?_
  refine ⟨_, s.ldB, condP (fun h1 => ⟨_, s.ldB, condP (fun h2 => ⟨_, s.ld0, condP (fun h3 => ⟨_, s.ld0, condP (fun h4 => ?_) (fun _ => ?_)⟩) (fun _ => ?_)⟩) (fun _ => ?_)⟩) (fun _ => ?_)⟩
  · exact ⟨_, s.ld0, _, yapw _ (by omega) (by omega) _, _, s.ldB, _, yapw _ (by omega) (by omega) _, _, gcd_q _ _ _, _, rfl, fun _ => ⟨h1, h2, h3, h4⟩, x⟩
  all_goals exact ⟨false, rfl, fun h => by simp at h, x⟩
theorem yavs (a b : Int × Int) (h : Hp) : yaak Tryz.prog 69 #[vF a, vF b] h (fun v h' => ∃ n e : Int, v = .tuple #[.int .i64 n, .int .i64 e] ∧ Ext h h') := by
  refine zca_call ?_
  rw [zca_b0]
  have s := St.start h
  refine s.new (cs := [_, _]) fun b1 _ _ s => s.new (cs := [_, _]) fun b2 _ _ s => ?_
  refine ⟨_, _, s.ld0, s.ldB, ?_⟩
  refine (yame a _).mono fun v h3 ⟨f, hv, va, x3⟩ => ⟨_, hv, ?_⟩
  have s := s.grow x3
  refine yaar (fun _ => ⟨_, _, rfl, s.ext⟩) (fun c1 => ⟨_, _, s.ld0, s.ldB, ?_⟩)
  refine (yame b _).mono fun v h4 ⟨f, hv, vb, x4⟩ => ⟨_, hv, ?_⟩
  have s := s.grow x4
  refine yaar (fun _ => ⟨_, _, rfl, s.ext⟩) (fun c2 => ?_)
  obtain ⟨a1, a2, a3, a4⟩ := va (by simpa using c1)
  obtain ⟨d1, d2, d3, d4⟩ := vb (by simpa using c2)
  rw [zca_b1]
  have m1 := mulR (x := a.1) (y := b.2) (a := 1073741824) (b := 1073741824) (by omega) a4 (by omega) d2
  have m2 := mulR (x := b.1) (y := a.2) (a := 1073741824) (b := 1073741824) (by omega) d4 (by omega) a2
  refine ⟨_, s.ld0, _, s.ldB, ⟨by omega, by omega⟩, _, s.ld0, _, s.ldB, ⟨by omega, by omega⟩, ?_⟩
  refine (yadg _ _ _).mono fun v h5 ⟨hv, hh⟩ => ⟨_, hv, ?_⟩
  subst hh
  exact ⟨_, _, rfl, s.ext⟩
theorem yauy (a b : I4) (h : Hp) : yaak Tryz.prog 345 #[vS a, vS b] h (fun v h' => ∃ n : Int, v = .int .i64 n ∧ Ext h h') := by
  refine zbg_call ?_
  rw [zbg_b0]
  have s := St.start h
  refine s.new (cs := [_, _, _, _]) fun b1 _ _ s => s.new (cs := [_, _, _, _]) fun b2 _ _ s => ?_
  refine ⟨_, _, s.ld0, s.ldB, _, _, s.ld0, s.ldB, ?_⟩
  refine (yavs (a.1, a.2.1) (b.1, b.2.1) _).mono fun v h3 ⟨n, e, hv, x3⟩ => ⟨_, _, hv, ?_⟩
  have s := s.grow x3
  refine ⟨_, s.ldB, _, s.ldB, _, yadg _ _ _, _, s.ldB, _, s.ldB, _, yadg _ _ _, s.new (cs := [_, _, _]) fun b3 h6 x6 s => ?_⟩
  refine (Or3_w (s.find b3).blk).mono fun v h7 ⟨hv, hh⟩ => ⟨_, hv, ?_⟩
  subst hh
  exact ⟨_, rfl, s.ext⟩
theorem rd4 {h : Hp} {p : OA} {n : Nat} {l : List I4} {i : Int} {Q : Addr → Int → Int → Int → Int → Prop} (r : RdT T4 h p n l) (h0 : 0 ≤ i) (h1 : i < n) (hq : ∀ a, p = some a → Q a (l.getD i.toNat (0, 0, 0, 0)).1 (l.getD i.toNat (0, 0, 0, 0)).2.1 (l.getD i.toNat (0, 0, 0, 0)).2.2.1 (l.getD i.toNat (0, 0, 0, 0)).2.2.2) :
    (0 ≤ i ∧ i < (n : Int)) ∧ NN p fun a => ∃ x y z w : Int, cell h (a.add (Int.toNat i * 4)) = some (.int .i64 x) ∧ cell h ((a.add (Int.toNat i * 4)).add 1) = some (.int .i64 y) ∧ cell h ((a.add (Int.toNat i * 4)).add 2) = some (.int .i64 z) ∧ cell h ((a.add (Int.toNat i * 4)).add 3) = some (.int .i64 w) ∧ Q a x y z w :=
  r.idx h0 h1 fun a ha hc => ⟨_, _, _, _, hc 0 (show 0 < 4 by decide), hc 1 (show 1 < 4 by decide), hc 2 (show 2 < 4 by decide), hc 3 (show 3 < 4 by decide), hq a ha⟩
theorem yain {α : Type} {xs : List α} {i : Nat} {x d : α} (h : i < xs.length) : (xs.set i x).getD i d = x := by simp [List.getD, h]
theorem wrA {h0 h : Hp} {a : Addr} {n c i : Nat} (j : Nat) {xs : List I4} {A F : Bag} {v : Value} (x : I4) {k : Hp → Prop} (o : Sl T4 (some a) n c xs A) (s : St h0 h (A + F)) (hi : i < n) (hj : j < 4) (hx : T4.enc x = (T4.enc (xs.getD i T4.d)).set j v)
    (hk : ∀ h' A', Sl T4 (some a) n c (xs.set i x) A' → St h0 h' (A' + F) → k h') : Wr h ((a.add (i * 4)).add j) v k := by
  obtain ⟨_, e, w⟩ := o.wr s hi hj hx hk
  cases e
  exact w
theorem wr4 {h0 h : Hp} {a : Addr} {n c i : Nat} {xs : List I4} {A F : Bag} (x : I4) {k : Hp → Prop} (o : Sl T4 (some a) n c xs A) (s : St h0 h (A + F)) (hi : i < n)
    (hk : ∀ h' A', Sl T4 (some a) n c (xs.set i x) A' → St h0 h' (A' + F) → k h') :
    Wr h (a.add (i * 4)) (.int .i64 x.1) fun h1 => Wr h1 ((a.add (i * 4)).add 1) (.int .i64 x.2.1) fun h2 => Wr h2 ((a.add (i * 4)).add 2) (.int .i64 x.2.2.1) fun h3 => Wr h3 ((a.add (i * 4)).add 3) (.int .i64 x.2.2.2) k := by
  have hl := o.len
  refine wrA 0 (x.1, (xs.getD i T4.d).2) o s hi (by decide) rfl fun h1 A1 o1 s1 => ?_
  refine wrA 1 (x.1, x.2.1, (xs.getD i T4.d).2.2) o1 s1 hi (by decide) (by rw [yain (by omega)]; rfl) fun h2 A2 o2 s2 => ?_
  rw [List.set_set] at o2
  refine wrA 2 (x.1, x.2.1, x.2.2.1, (xs.getD i T4.d).2.2.2) o2 s2 hi (by decide) (by rw [yain (by omega)]; rfl) fun h3 A3 o3 s3 => ?_
  rw [List.set_set] at o3
  refine wrA 3 x o3 s3 hi (by decide) (by rw [yain (by omega)]; rfl) fun h4 A4 o4 s4 => ?_
  rw [List.set_set] at o4
  exact hk _ _ o4 s4
def HpQ (qb n : Nat) (A : Bag) : Prop := ∃ (p : OA) (c : Nat) (zs : List I4) (As : Bag), A = cA qb [.slice p n c] 93 + As ∧ Sl T4 p n c zs As
theorem yawx {h0 h : Hp} {qb n : Nat} {A F : Bag} {K : VK} (q : HpQ qb n A) (s : St h0 h (A + F)) (hK : K (.int .i64 (n : Int)) h) : invC Tryz.prog (evI qb) "Len" [] h K := by
  obtain ⟨p, c, zs, As, rfl, o⟩ := q
  have s := s.to (B := cA qb [.slice p n c] 93 + (As + F))
  refine yatq m_len s.ld0 (zbh_call ?_)
  rw [zbh_b0]
  exact hK
theorem yano {h0 h : Hp} {qb n : Nat} {i j : Int} {A F : Bag} {K : VK} (q : HpQ qb n A) (s : St h0 h (A + F)) (hi0 : 0 ≤ i) (hi : i < n) (hj0 : 0 ≤ j) (hj : j < n) (hK : ∀ b h', Ext h h' → K (.bool b) h') : invC Tryz.prog (evI qb) "Less" [.int .i64 i, .int .i64 j] h K := by
  obtain ⟨p, c, zs, As, rfl, o⟩ := q
  have s := s.to (B := cA qb [.slice p n c] 93 + (As + F))
  have r := o.rd (s.at As)
  refine yatq ybgq s.ld0 (zbi_call ?_)
  rw [zbi_b0]
  refine rd4 r hi0 hi fun a ha => rd4 r hj0 hj fun a' ha' => ?_
  exact (yauy _ _ _).mono fun v h1 ⟨n, hv, x1⟩ => ⟨_, hv, hK _ _ x1⟩
theorem yamo {h0 h : Hp} {qb n : Nat} {i j : Int} {A F : Bag} {K : VK} (q : HpQ qb n A) (s : St h0 h (A + F)) (hi0 : 0 ≤ i) (hi : i < n) (hj0 : 0 ≤ j) (hj : j < n) (hK : ∀ h' A', HpQ qb n A' → St h0 h' (A' + F) → K (.tuple #[]) h') : invC Tryz.prog (evI qb) "Swap" [.int .i64 i, .int .i64 j] h K := by
  obtain ⟨p, c, zs, As, rfl, o⟩ := q
  have s := s.to (B := As + (cA qb [.slice p n c] 93 + F))
  have r := o.rd s
  refine yatq ybfk s.ld0 (zbl_call ?_)
  rw [zbl_b0]
  refine rd4 r hj0 hj fun a ha => rd4 r hi0 hi fun a' ha' => ⟨⟨hi0, hi⟩, ?_⟩
  subst ha
  refine wr4 (zs.getD j.toNat (0, 0, 0, 0)) o s (by omega) fun h4 A4 o4 s4 => ⟨⟨hj0, hj⟩, ?_⟩
  refine wr4 (zs.getD i.toNat (0, 0, 0, 0)) o4 s4 (by omega) fun h8 A8 o8 s8 => ?_
  exact hK _ _ ⟨_, _, _, _, rfl, o8⟩ s8.to
theorem yayl {h0 h : Hp} {qb n : Nat} {z : I4} {A F : Bag} {K : VK} (q : HpQ qb n A) (s : St h0 h (A + F)) (hn : n < 1000) (hK : ∀ h' A', HpQ qb (n + 1) A' → St h0 h' (A' + F) → K (.tuple #[]) h') : invC Tryz.prog (evI qb) "Push" [.iface 98 (vS z)] h K := by
  obtain ⟨p, c, zs, As, rfl, o⟩ := q
  obtain ⟨d, hd1, hd2⟩ := yafq (P := Tryz.prog) (t := 98) (by kernel_rfl)
  have s := s.to (B := As + (cA qb [.slice p n c] 93 + F))
  refine yawo ybgt (zbk_call ?_)
  rw [zbk_b0]
  refine ⟨_, _, _, s.ld0, asI_q hd1 hd2 ⟨_, _, _, _, rfl, ⟨_, _, _, s.ld0, rfl⟩, ?_⟩⟩
  refine s.new (cs := [_, _, _, _]) fun b1 h1 x1 s => ⟨⟨_, _, _, s.ld0, rfl⟩, ?_⟩
  have one : Sl T4 (some ⟨b1, 0, none⟩) 1 1 [z] (cA b1 _ T4.e) := Sl.one rfl
  have r1 := one.rd s
  have s := s.to (B := As + (cA b1 [.int .i64 z.1, .int .i64 z.2.1, .int .i64 z.2.2.1, .int .i64 z.2.2.2] 98 + (cA qb [.slice p n c] 93 + F)))
  refine yadi ok_ev s o r1 (by omega) fun p' c' h2 A' o' s => ?_
  refine s.wr0 fun h3 s => hK _ _ ⟨p', c', _, A', rfl, o'⟩ ?_
  exact (s.to (B := cA b1 [.int .i64 z.1, .int .i64 z.2.1, .int .i64 z.2.2.1, .int .i64 z.2.2.2] 98 + (cA qb [.slice p' (n + 1) c'] 93 + A' + F))).drop
theorem ybdg {h0 h : Hp} {qb n : Nat} {A F : Bag} {K : VK} (q : HpQ qb (n + 1) A) (s : St h0 h (A + F)) (hn : n < 1000) (hK : ∀ z h' A', HpQ qb n A' → St h0 h' (A' + F) → K (.iface 98 (vS z)) h') : invC Tryz.prog (evI qb) "Pop" [] h K := by
  obtain ⟨p, c, zs, As, rfl, o⟩ := q
  have hl := o.len
  have hc := o.cap
  obtain ⟨d, hd1, hd2⟩ := yafq (P := Tryz.prog) (t := 98) (by kernel_rfl)
  have s := s.to (B := As + (cA qb [.slice p (n + 1) c] 93 + F))
  refine yawo m_pop (zbj_call ?_)
  rw [zbj_b0]
  have e1 : (((n + 1 : Nat) : Int)) - 1 = (n : Int) := by omega
  refine ⟨_, _, _, s.ld0, ?_⟩
  rw [e1]
  refine ⟨⟨by omega, by omega⟩, _, _, _, s.ld0, ?_⟩
  refine rd4 (o.rd s) (by omega) (by omega) fun a ha => ?_
  refine s.new (cs := [_, _, _, _]) fun b1 h1 x1 s => s.wr0 fun _ s => s.wrB fun _ s => s.wrB fun _ s => s.wrB fun h5 s => ?_
  refine ⟨_, _, _, s.ld0, ⟨by omega, by omega, by omega⟩, s.wr0 fun h6 s => ?_⟩
  refine ⟨_, _, _, _, s.ld0, s.ldB, s.ldB, s.ldB, mkI_q hd1 hd2 ?_⟩
  have e2 : Int.toNat (n : Int) - Int.toNat 0 = n := by omega
  have e3 : c - Int.toNat 0 = c := by simp
  have e4 : yaai p c (Int.toNat 0) 4 = p := yadh
  rw [e2, e3, e4] at s
  refine hK (_, _, _, _) _ _ ⟨p, c, _, As, rfl, o.take (i := n) (by omega)⟩ ?_
  exact (s.to (B := cA b1 _ 98 + (cA qb [.slice p n c] 93 + As + F))).drop
theorem up_q {h0 h : Hp} {qb n : Nat} {j : Int} {A F : Bag} (q : HpQ qb n A) (s : St h0 h (A + F)) (hj0 : 0 ≤ j) (hj : j < n) (hn : n < 1000) :
    yaak Tryz.prog 73 #[evI qb, .int .i64 j] h (fun v h' => v = .tuple #[] ∧ ∃ A', HpQ qb n A' ∧ St h0 h' (A' + F)) := by
  refine zav_call ?_
  rw [zav_b0]
  refine ⟨fun z h' => 0 ≤ z.1 ∧ z.1 < n ∧ ∃ A', HpQ qb n A' ∧ St h0 h' (A' + F), fun z _ => z.1.toNat, ⟨hj0, hj, A, q, s⟩, ?_⟩
  clear q s hj hj0
  rintro ⟨j, _⟩ h1 ⟨hj0, hj, A, q, s⟩
  dsimp only at hj0 hj ⊢
  rw [zav_b1]
  refine ⟨⟨by omega, by omega⟩, ?_⟩
  by_cases hz : j = 0
  · subst hz
    exact ⟨0, ⟨by decide, by decide⟩, yacv (by decide) ⟨rfl, A, q, s⟩⟩
  · refine yaep (by omega) (by omega) (by decide) (yabb (decide_eq_false (by omega)) ?_)
    refine yano q s (by omega) hj (by omega) (by omega) fun b h2 x2 => ⟨_, rfl, ?_⟩
    have s := s.grow x2
    refine yaar (fun _ => ⟨rfl, A, q, s⟩) (fun _ => ?_)
    rw [zav_b2]
    exact yamo q s (by omega) (by omega) (by omega) hj fun h3 A3 q3 s3 => ⟨rfl, ⟨by omega, by omega, A3, q3, s3⟩, by dsimp only; omega⟩
theorem ybhi {h0 h : Hp} {qb n : Nat} {nv : Int} {A F : Bag} (q : HpQ qb n A) (s : St h0 h (A + F)) (hv : nv ≤ n) (hn : n < 1000) :
    yaak Tryz.prog 74 #[evI qb, .int .i64 0, .int .i64 nv] h (fun v h' => ∃ b, v = .bool b ∧ ∃ A', HpQ qb n A' ∧ St h0 h' (A' + F)) := by
  refine zau_call ?_
  rw [zau_b0]
  refine ⟨fun z h' => 0 ≤ z.1 ∧ z.1 ≤ n ∧ ∃ A', HpQ qb n A' ∧ St h0 h' (A' + F), fun z _ => (n - z.1).toNat, ⟨by simp, by simp, A, q, s⟩, ?_⟩
  clear q s
  rintro ⟨i, _⟩ h1 ⟨hi0, hi, A, q, s⟩
  dsimp only at hi0 hi ⊢
  rw [zau_b1]
  have stop : ∀ (h' : Hp) (A' : Bag), HpQ qb n A' → St h0 h' (A' + F) → zau_b2 0 i h' (fun v h' => ∃ b, v = .bool b ∧ ∃ A', HpQ qb n A' ∧ St h0 h' (A' + F)) := by
    intro h' A' q s
    rw [zau_b2]
    exact ⟨_, rfl, A', q, s⟩
  refine ⟨⟨by omega, by omega⟩, ⟨by omega, by omega⟩, condP (fun _ => stop _ _ q s) (fun c1 => condP (fun c2 => by omega) (fun _ => ?_))⟩
  have swp : ∀ (j : Int) (h' : Hp), i < j → j < nv → St h0 h' (A + F) → zau_b4 (evI qb) 0 nv i j h' (fun (z : Int × Unit) h' => (0 ≤ z.1 ∧ z.1 ≤ n ∧ ∃ A', HpQ qb n A' ∧ St h0 h' (A' + F)) ∧ (n - z.1).toNat < (n - i).toNat) (fun v h' => ∃ b, v = .bool b ∧ ∃ A', HpQ qb n A' ∧ St h0 h' (A' + F)) := by
    intro j h' hij hjn s
    rw [zau_b4]
    refine yano q s (by omega) (by omega) (by omega) (by omega) fun b h3 x3 => ⟨_, rfl, ?_⟩
    have s := s.grow x3
    refine yaar (fun _ => stop _ _ q s) (fun _ => ?_)
    exact yamo q s (by omega) (by omega) (by omega) (by omega) fun h4 A4 q4 s4 => ⟨rfl, ⟨by dsimp only; omega, by dsimp only; omega, A4, q4, s4⟩, by dsimp only; omega⟩
  rw [zau_b3]
  refine ⟨⟨by omega, by omega⟩, condP (fun c3 => ?_) (fun _ => swp _ _ (by omega) (by omega) s)⟩
  refine yano q s (by omega) (by omega) (by omega) (by omega) fun b h2 x2 => ⟨_, rfl, ?_⟩
  have s := s.grow x2
  exact yaar (fun _ => swp _ _ (by omega) (by omega) s) (fun _ => swp _ _ (by omega) (by omega) s)
theorem ybeh {h0 h : Hp} {qb n : Nat} {z : I4} {A F : Bag} (q : HpQ qb n A) (s : St h0 h (A + F)) (hn : n + 1 < 1000) :
    yaak Tryz.prog 37 #[evI qb, .iface 98 (vS z)] h (fun v h' => v = .tuple #[] ∧ ∃ A', HpQ qb (n + 1) A' ∧ St h0 h' (A' + F)) := by
  refine zat_call ?_
  rw [zat_b0]
  refine yayl q s (by omega) fun h1 A1 q1 s1 => ⟨rfl, ?_⟩
  refine yawx q1 s1 ⟨_, rfl, ⟨by omega, by omega⟩, ?_⟩
  exact (up_q q1 s1 (by omega) (by omega) hn).mono fun v h3 ⟨hv, A3, q3, s3⟩ => ⟨hv, rfl, A3, q3, s3⟩
theorem ybho {h0 h : Hp} {qb n : Nat} {A F : Bag} (q : HpQ qb (n + 1) A) (s : St h0 h (A + F)) (hn : n + 1 < 1000) :
    yaak Tryz.prog 39 #[evI qb] h (fun v h' => ∃ z, v = .iface 98 (vS z) ∧ ∃ A', HpQ qb n A' ∧ St h0 h' (A' + F)) := by
  refine zas_call ?_
  rw [zas_b0]
  refine yawx q s ⟨_, rfl, ⟨by omega, by omega⟩, ?_⟩
  refine yamo q s (by omega) (by omega) (by omega) (by omega) fun h2 A2 q2 s2 => ⟨rfl, ?_⟩
  refine (ybhi q2 s2 (by omega) hn).mono fun v h3 ⟨b, hv, A3, q3, s3⟩ => ⟨_, hv, ?_⟩
  exact ybdg q3 s3 (by omega) fun z h4 A4 q4 s4 => ⟨_, rfl, z, rfl, A4, q4, s4⟩
def invs : List Int → Nat
  | [] => 0
  | w :: r => r.countP (fun z => decide (z < w)) + invs r
theorem yash : ∀ l : List Int, invs l ≤ l.length * l.length
  | [] => Nat.le_refl _
  | w :: r => by
    have h1 := yash r
    have h2 := List.countP_le_length (p := fun z => decide (z < w)) (l := r)
    show r.countP (fun z => decide (z < w)) + invs r ≤ (r.length + 1) * (r.length + 1)
    have : (r.length + 1) * (r.length + 1) = r.length * r.length + r.length + r.length + 1 := by grind
    omega
theorem yapa {l : List Int} {i : Nat} (h : i < l.length) : invs (l.drop i) = (l.drop (i + 1)).countP (fun z => decide (z < l.getD i 0)) + invs (l.drop (i + 1)) := by
  rw [List.drop_eq_getElem_cons h]
  simp [invs, List.getD, h]
theorem yajh {l : List Int} {p : Int → Bool} {i : Nat} (h : i < l.length) : (l.drop i).countP p = (if p (l.getD i 0) then 1 else 0) + (l.drop (i + 1)).countP p := by
  rw [List.drop_eq_getElem_cons h, List.countP_cons]
  simp [List.getD, h]
  omega
def dbl {α β : Type} (xs : List α) (ys : List β) (p : α → β → Bool) : Nat := (xs.map fun x => ys.countP (p x)).sum
theorem yarf {α β : Type} (x : α) (xs : List α) (ys : List β) (p : α → β → Bool) : dbl (x :: xs) ys p = ys.countP (p x) + dbl xs ys p := by simp [dbl]
theorem yasm {α β : Type} (xs : List α) : ∀ (ys : List β) (p : α → β → Bool), dbl xs ys p = dbl ys xs (fun y x => p x y)
  | [], p => by
    unfold dbl
    induction xs with
    | nil => rfl
    | cons x r ih => simpa using ih
  | y :: ys, p => by
    rw [yarf, ← yasm xs ys p]
    unfold dbl
    induction xs with
    | nil => rfl
    | cons x r ih =>
      simp only [List.map_cons, List.sum_cons, List.countP_cons] at *
      omega
theorem yazv {α β : Type} {xs xs' : List α} {ys ys' : List β} (h1 : xs.Perm xs') (h2 : ys.Perm ys') (p : α → β → Bool) : dbl xs ys p = dbl xs' ys' p := by
  unfold dbl
  have e : (fun x => ys.countP (p x)) = fun x => ys'.countP (p x) := by
    funext x
    exact h2.countP_eq _
  rw [e]
  exact (h1.map _).sum_nat
theorem yavh {α β : Type} {xs : List α} {ys : List β} {p q : α → β → Bool} (h : ∀ x ∈ xs, ∀ y ∈ ys, p x y = q x y) : dbl xs ys p = dbl xs ys q := by
  unfold dbl
  congr 1
  refine List.map_congr_left fun x hx => ?_
  exact List.countP_congr fun y hy => by rw [h x hx y hy]
theorem yani {α : Type} (f g : α → Int) : ∀ os : List α, os.Pairwise (fun x y => g x < g y) → invs (os.map f) = dbl os os (fun x y => decide (g x < g y) && decide (f y < f x))
  | [], _ => rfl
  | x :: r, h => by
    obtain ⟨h1, h2⟩ := List.pairwise_cons.1 h
    have ih := yani f g r h2
    rw [yarf]
    show (r.map f).countP (fun z => decide (z < f x)) + invs (r.map f) = _
    rw [ih, List.countP_map, List.countP_cons]
    have e1 : (decide (g x < g x) && decide (f x < f x)) = false := by simp
    rw [e1]
    have e2 : r.countP ((fun z => decide (z < f x)) ∘ f) = r.countP (fun y => decide (g x < g y) && decide (f y < f x)) := by
      refine List.countP_congr fun y hy => ?_
      simp [h1 y hy]
    have e3 : dbl r (x :: r) (fun x y => decide (g x < g y) && decide (f y < f x)) = dbl r r (fun x y => decide (g x < g y) && decide (f y < f x)) := by
      unfold dbl
      congr 1
      refine List.map_congr_left fun y hy => ?_
      rw [List.countP_cons]
      have : ¬ g y < g x := by have := h1 y hy; omega
      simp [this]
    rw [e2, e3]
    simp
theorem yawa {os os' : List Nat} {f g : Nat → Int} (hp : os.Perm os') (hg : os.Pairwise fun x y => g x < g y) (hf : os'.Pairwise fun x y => f x < f y) : invs (os.map f) = invs (os'.map g) := by
  rw [yani f g os hg, yani g f os' hf, yasm]
  rw [yazv hp hp]
  refine yavh fun x _ y _ => ?_
  rw [Bool.and_comm]
theorem yajf {os : List Nat} {f : Nat → Int} (h : ∀ k, k < os.length → f (os.getD k 0) = (k : Int)) : os.Pairwise fun x y => f x < f y := by
  rw [List.pairwise_iff_getElem]
  intro i j hi hj hij
  have h1 := h i hi
  have h2 := h j hj
  simp [List.getD, hi] at h1
  simp [List.getD, hj] at h2
  omega
def yaku (pl : List Int) (os : List Nat) : Prop := pl.length = os.length ∧ ∀ k, k < os.length → pl.getD (os.getD k 0) 0 = (k : Int)
theorem yawc {l : List Int} {i k : Nat} : (l.drop i).getD k 0 = l.getD (i + k) 0 := by
  simp [List.getD, List.getElem?_drop]
theorem yatf {h0 h : Hp} {l : List (Int × Int)} {now t : Int × Int} {os : List Nat} {kb : Nat} {A F : Bag} (k : KL l now os kb A) (s : St h0 h (A + F)) (hn : l.length ≤ 12) (hm : ∀ m ∈ l, IsM m) (hnow : IsT now) (ht : IsT t) (hle : now.1 * t.2 ≤ t.1 * now.2) :
    yaak Tryz.prog 10 #[ptr kb, vF t] h (fun v h' => ∃ (q : OA) (c : Nat) (os' : List Nat) (pl : List Int) (A' : Bag), v = .tuple #[.slice q (invs (os.map fun x => pl.getD x 0)) c, .int .i64 0] ∧ yaku pl os' ∧ KL l t os' kb A' ∧ St h0 h' (A' + F)) := by
  obtain ⟨q, n, d, qo, e, Am, Ao, rfl, om, oo, ho⟩ := k
  have hl := om.len
  subst hl
  have hol := ho.len
  refine zax_call ?_
  rw [zax_b0]
  refine s.new (cs := [_, _]) fun b1 h1 x1 s => yabb rfl ⟨_, _, s.ld0, s.ldB, ?_⟩
  refine (yavd ht _).mono fun v h2 ⟨hv, x2⟩ => ⟨_, hv, yabb rfl ?_⟩
  have s := s.grow x2
  refine ⟨_, _, s.ld0, s.ldB, _, _, s.ldB, s.ldB (b := kb) (k := 2), ?_⟩
  refine (yahi ht.1 hnow.1 _).mono fun v h3 ⟨hv, x3⟩ => ⟨_, hv, condP (fun c => by omega) (fun _ => ?_)⟩
  have s := s.grow x3
  rw [zax_b1]
  refine ⟨_, _, _, s.ld0, _, _, s.ld0, s.ldB, ?_⟩
  refine (yasd (om.rd (s.at Am)) hn hm ht).mono fun v h4 ⟨qn, cn, An, os', hv, on, s4, ho'⟩ => ⟨_, _, _, hv, ⟨by omega, by omega, by omega, by omega⟩, ?_⟩
  have s := s.join s4
  have hol' := ho'.len
  simp only [Int.toNat_natCast, Nat.mul_one, yakr]
  refine s.new (cs := List.replicate l.length (.int .i64 0)) fun pb h5 _ s => ?_
  have op : Sl (tI 3) (some ⟨pb, 0, none⟩) l.length l.length (List.replicate l.length 0) (cA pb (List.replicate l.length (.int .i64 0)) 3) := Sl.of_blk (by simp) (by rw [yamr]; simp)
  refine ⟨fun z h' => ∃ (i : Nat) (pl : List Int) (Ap : Bag), z.1 = (i : Int) ∧ i ≤ l.length ∧ Sl (tI 3) (some ⟨pb, 0, none⟩) l.length l.length pl Ap ∧ (∀ k, k < i → pl.getD (os'.getD k 0) 0 = (k : Int)) ∧ St h0 h' (Ap + (cA kb [.slice q l.length d, .int .i64 now.1, .int .i64 now.2, .slice qo l.length e] 80 + (cA b1 [.int .i64 t.1, .int .i64 t.2] 26 + (Am + (Ao + (An + F)))))), fun z _ => (l.length - z.1).toNat, ⟨0, _, _, rfl, by omega, op, fun k hk => by omega, s.to⟩, ?_⟩
  clear s op
  rintro ⟨_, _⟩ h6 ⟨i, pl, Ap, rfl, hi, op, hpl, s⟩
  dsimp only
  have hpll := op.len
  rw [zax_b2]
  refine condP (fun c1 => ?_) (fun c1 => ?_)
  · refine (on.rd (s.at An)).int (by omega) (by omega) ?_
    rw [Int.toNat_natCast, yaif]
    have hlt := ho'.lt (i := i) (by omega)
    refine op.wrI (x := (i : Int)) s (by omega) (by omega) rfl rfl fun h7 Ap' op' s' => ?_
    rw [zax_b3]
    rw [Int.toNat_natCast] at op'
    refine ⟨⟨by omega, by omega⟩, ⟨i + 1, _, Ap', by push_cast; rfl, by omega, op', fun k hk => ?_, s'⟩, by dsimp only; omega⟩
    rcases Nat.lt_or_ge k i with h13 | h13
    · rw [List.getD_eq_getElem?_getD, List.getElem?_set_ne ?_, ← List.getD_eq_getElem?_getD]
      · exact hpl k h13
      · intro he
        have hnd : os'.Nodup := ho'.perm.nodup_iff.2 List.nodup_range
        have e1 : os'.getD i 0 = os'[i]'(by omega) := by simp [List.getD, show i < os'.length by omega]
        have e2 : os'.getD k 0 = os'[k]'(by omega) := by simp [List.getD, show k < os'.length by omega]
        rw [e1, e2] at he
        exact List.pairwise_iff_getElem.1 hnd k i (by omega) (by omega) h13 he.symm
    · obtain rfl : k = i := by omega
      exact yain (by omega)
  obtain rfl : i = l.length := by omega
  obtain ⟨ed, ev1, ev2⟩ := yafq (P := Tryz.prog) (t := 92) (by kernel_rfl)
  obtain ⟨sd, sw1, sw2⟩ := yafq (P := Tryz.prog) (t := 98) (by kernel_rfl)
  have hP : yaku pl os' := ⟨by omega, fun k hk => hpl k (by omega)⟩
  rw [zax_b4]
  refine s.new (cs := []) fun eb h8 _ s => s.new (cs := [_]) fun qb h9 _ s => ⟨_, _, _, s.ldB, ?_⟩
  have hq0 : HpQ qb 0 (cA qb [.slice (some ⟨eb, 0, none⟩) 0 0] 93 + cA eb [] 98) := ⟨_, _, [], _, rfl, Sl.of_blk (T := T4) (xs := []) rfl rfl⟩
  let ws : List Int := os.map fun x => pl.getD x 0
  have hws : ws.length = l.length := by simp [ws, hol]
  have hwi := yash ws
  have hwg : ∀ j, j < l.length → ws.getD j 0 = pl.getD (os.getD j 0) 0 := by
    intro j hj
    have e1 : os.getD j 0 = os[j]'(by omega) := by simp [List.getD, show j < os.length by omega]
    rw [e1]
    simp [ws, List.getD, show j < os.length by omega]
  have hb144 : invs ws ≤ 144 := Nat.le_trans hwi (by rw [hws]; exact Nat.mul_le_mul hn hn)
  refine ⟨fun z h' => ∃ (i m : Nat) (Aq : Bag), z.1 = (i : Int) ∧ i ≤ l.length ∧ HpQ qb m Aq ∧ m + invs (ws.drop i) = invs ws ∧ St h0 h' (Aq + (Ap + (cA kb [.slice q l.length d, .int .i64 now.1, .int .i64 now.2, .slice qo l.length e] 80 + (cA b1 [.int .i64 t.1, .int .i64 t.2] 26 + (Am + (Ao + (An + F))))))), fun z _ => (l.length - z.1).toNat, ⟨0, 0, _, rfl, by omega, hq0, by simp, s.to⟩, ?_⟩
  clear s hq0
  rintro ⟨_, _⟩ h10 ⟨i, m, Aq, rfl, hi, hq, hmi, s⟩
  dsimp only
  rw [zax_b5]
  refine condP (fun c2 => ?_) (fun c2 => ?_)
  · refine (oo.rd (s.at Ao)).int (by omega) (by omega) ⟨_, _, _, s.ldB, ⟨by omega, by omega⟩, ⟨by omega, by omega, by have := oo.cap; omega⟩, ?_⟩
    rw [Int.toNat_natCast, yaif]
    have hlta := ho.lt (i := i) (by omega)
    have e1 : Int.toNat ((i : Int) + 1) = i + 1 := by omega
    rw [e1, Int.toNat_natCast]
    have hdr := yapa (l := ws) (i := i) (by omega)
    have hmem : IsM (l.getD (os.getD i 0) (0, 0)) := getM hm hlta
    refine ⟨fun z h' => ∃ (j m : Nat) (Aq : Bag), z.1 = (j : Int) ∧ j ≤ l.length - (i + 1) ∧ HpQ qb m Aq ∧ m + ((ws.drop (i + 1 + j)).countP (fun z => decide (z < ws.getD i 0)) + invs (ws.drop (i + 1))) = invs ws ∧ St h0 h' (Aq + (Ap + (cA kb [.slice q l.length d, .int .i64 now.1, .int .i64 now.2, .slice qo l.length e] 80 + (cA b1 [.int .i64 t.1, .int .i64 t.2] 26 + (Am + (Ao + (An + F))))))), fun z _ => ((l.length - (i + 1) : Nat) - z.1).toNat, ⟨0, m, Aq, rfl, by omega, hq, by rw [Nat.add_zero]; omega, s⟩, ?_⟩
    clear s hq hmi Aq m
    rintro ⟨_, _⟩ h11 ⟨j, m, Aq, rfl, hj, hq, hmj, s⟩
    dsimp only
    rw [zax_b6]
    have nxt : ∀ (h' : Hp) (m' : Nat) (Aq' : Bag), HpQ qb m' Aq' → m' + ((ws.drop (i + 1 + (j + 1))).countP (fun z => decide (z < ws.getD i 0)) + invs (ws.drop (i + 1))) = invs ws → j < l.length - (i + 1) → St h0 h' (Aq' + (Ap + (cA kb [.slice q l.length d, .int .i64 now.1, .int .i64 now.2, .slice qo l.length e] 80 + (cA b1 [.int .i64 t.1, .int .i64 t.2] 26 + (Am + (Ao + (An + F))))))) → InR ((j : Int) + 1) ∧ (∃ (j2 m : Nat) (Aq : Bag), (j : Int) + 1 = (j2 : Int) ∧ j2 ≤ l.length - (i + 1) ∧ HpQ qb m Aq ∧ m + ((ws.drop (i + 1 + j2)).countP (fun z => decide (z < ws.getD i 0)) + invs (ws.drop (i + 1))) = invs ws ∧ St h0 h' (Aq + (Ap + (cA kb [.slice q l.length d, .int .i64 now.1, .int .i64 now.2, .slice qo l.length e] 80 + (cA b1 [.int .i64 t.1, .int .i64 t.2] 26 + (Am + (Ao + (An + F)))))))) ∧ ((l.length - (i + 1) : Nat) - ((j : Int) + 1)).toNat < ((l.length - (i + 1) : Nat) - (j : Int)).toNat := by
      intro h' m' Aq' hq' hm' hjl s
      exact ⟨⟨by omega, by omega⟩, ⟨j + 1, m', Aq', by push_cast; rfl, by omega, hq', hm', s⟩, by omega⟩
    refine condP (fun c3 => ?_) (fun c3 => ?_)
    · have rsub := (oo.rd (s.at Ao)).sub (c := e) (i := i + 1) (m := l.length - (i + 1)) (by omega) oo.cap rfl
      refine rsub.int (by omega) (by omega) ?_
      simp only [Int.toNat_natCast, yawc, yaif]
      have hltb := ho.lt (i := i + 1 + j) (by omega)
      refine (op.rd (s.at Ap)).int (by omega) (by omega) ?_
      refine (op.rd (s.at Ap)).int (by omega) (by omega) ?_
      simp only [Int.toNat_natCast]
      have ca := hwg i (by omega)
      have cb := hwg (i + 1 + j) (by omega)
      have hcd := yajh (l := ws) (p := fun z => decide (z < ws.getD i 0)) (i := i + 1 + j) (by omega)
      have hj1 : i + 1 + (j + 1) = i + 1 + j + 1 := by omega
      refine condP (fun c4 => ?_) (fun c4 => ?_)
      · have c4 : ws.getD (i + 1 + j) 0 < ws.getD i 0 := by rw [ca, cb]; exact c4
        rw [decide_eq_true c4, if_pos rfl] at hcd
        have hmb : IsM (l.getD (os.getD (i + 1 + j) 0) (0, 0)) := getM hm hltb
        have rm := om.rd (s.at Am)
        have fin : ∀ (h' : Hp) (xb : Nat) (x : Int × Int), St h0 h' (cA xb [.int .i64 x.1, .int .i64 x.2] 26 + (Aq + (Ap + (cA kb [.slice q l.length d, .int .i64 now.1, .int .i64 now.2, .slice qo l.length e] 80 + (cA b1 [.int .i64 t.1, .int .i64 t.2] 26 + (Am + (Ao + (An + F)))))))) → zax_b8 (some ⟨kb, 0, none⟩) (some ⟨b1, 0, none⟩) qn l.length cn (some ⟨pb, 0, none⟩) l.length l.length (some ⟨qb, 0, none⟩) ((os.getD i 0 : Nat) : Int) ((os.getD (i + 1 + j) 0 : Nat) : Int) (some ⟨xb, 0, none⟩) qo l.length e l.length i (yaai qo e (i + 1) 1) (l.length - (i + 1)) (e - (i + 1)) ((l.length - (i + 1) : Nat) : Int) j h' (fun (z : Int × Unit) h' => (∃ (i m : Nat) (Aq : Bag), z.1 = (i : Int) ∧ i ≤ l.length ∧ HpQ qb m Aq ∧ m + invs (ws.drop i) = invs ws ∧ St h0 h' (Aq + (Ap + (cA kb [.slice q l.length d, .int .i64 now.1, .int .i64 now.2, .slice qo l.length e] 80 + (cA b1 [.int .i64 t.1, .int .i64 t.2] 26 + (Am + (Ao + (An + F)))))))) ∧ ((l.length : Int) - z.1).toNat < ((l.length : Int) - (i : Int)).toNat) (fun (z : Int × Unit) h' => (∃ (j m : Nat) (Aq : Bag), z.1 = (j : Int) ∧ j ≤ l.length - (i + 1) ∧ HpQ qb m Aq ∧ m + ((ws.drop (i + 1 + j)).countP (fun z => decide (z < ws.getD i 0)) + invs (ws.drop (i + 1))) = invs ws ∧ St h0 h' (Aq + (Ap + (cA kb [.slice q l.length d, .int .i64 now.1, .int .i64 now.2, .slice qo l.length e] 80 + (cA b1 [.int .i64 t.1, .int .i64 t.2] 26 + (Am + (Ao + (An + F)))))))) ∧ (((l.length - (i + 1) : Nat) : Int) - z.1).toNat < (((l.length - (i + 1) : Nat) : Int) - (j : Int)).toNat) (fun v h' => ∃ (q : OA) (c : Nat) (os' : List Nat) (pl : List Int) (A' : Bag), v = .tuple #[.slice q (invs (os.map fun x => pl.getD x 0)) c, .int .i64 0] ∧ yaku pl os' ∧ KL l t os' kb A' ∧ St h0 h' (A' + F)) := by
          intro h' xb x s
          rw [zax_b8]
          refine mkI_q ev1 ev2 ⟨_, _, s.ld0, s.ldB, mkI_q sw1 sw2 ?_⟩
          refine (ybeh (z := (_, _, _, _)) (F := cA xb [.int .i64 x.1, .int .i64 x.2] 26 + (Ap + (cA kb [.slice q l.length d, .int .i64 now.1, .int .i64 now.2, .slice qo l.length e] 80 + (cA b1 [.int .i64 t.1, .int .i64 t.2] 26 + (Am + (Ao + (An + F))))))) hq s.to (by omega)).mono fun v h23 ⟨hv, Aq', hq', s⟩ => ⟨hv, ?_⟩
          rw [zax_b9]
          exact nxt _ (m + 1) Aq' hq' (by rw [hj1]; omega) (by omega) (s.to (B := cA xb [.int .i64 x.1, .int .i64 x.2] 26 + (Aq' + (Ap + (cA kb [.slice q l.length d, .int .i64 now.1, .int .i64 now.2, .slice qo l.length e] 80 + (cA b1 [.int .i64 t.1, .int .i64 t.2] 26 + (Am + (Ao + (An + F))))))))).drop
        refine ⟨_, _, _, s.ld0, yagq rm (by omega) (by omega) fun a1 ha1 f0 f1 => ⟨_, _, _, s.ld0, yagq rm (by omega) (by omega) fun a2 ha2 g0 g1 => ⟨_, _, s.ldB, s.ldB (b := kb) (k := 2), ?_, ?_⟩⟩⟩
        all_goals rw [Int.toNat_natCast] at f0 f1 g0 g1
        · rw [Int.toNat_natCast, Int.toNat_natCast]
          refine (yavl hmem hmb hnow _).mono fun v h12 ⟨x12, x, ok, hv, _⟩ => ⟨_, _, _, hv, ?_⟩
          have s := s.grow x12
          exact s.new (cs := [_, _]) fun b5 _ _ s => s.wr0 fun _ s => s.wrB fun h15 s => fin _ b5 x s
        · rw [Int.toNat_natCast, Int.toNat_natCast]
          refine s.new (cs := [_, _]) fun b6 h16 x16 s => ?_
          refine ⟨⟨_, _, s.ldB, s.ldB (b := kb) (k := 2), rfl⟩, ⟨_, _, x16.cell g0, x16.cell g1, rfl⟩, ⟨_, _, _, s.ld0, rfl⟩, ⟨_, _, x16.cell f0, x16.cell f1, rfl⟩, ⟨_, _, _, s.ld0, rfl⟩, ?_⟩
          refine (yavl hmem hmb hnow _).mono fun v h17 ⟨x17, x, ok, hv, _⟩ => ⟨_, _, _, hv, ?_⟩
          have s := s.grow x17
          exact s.wr0 fun _ s => s.wrB fun h19 s => fin _ b6 x s
      · have c4 : ¬ ws.getD (i + 1 + j) 0 < ws.getD i 0 := by rw [ca, cb]; exact c4
        have hf : decide (ws.getD (i + 1 + j) 0 < ws.getD i 0) = false := decide_eq_false c4
        rw [hf] at hcd
        simp only [Bool.false_eq_true, if_false, Nat.zero_add] at hcd
        rw [zax_b9]
        exact nxt _ m Aq hq (by rw [hj1]; omega) (by omega) s
    · rw [zax_b10]
      obtain rfl : j = l.length - (i + 1) := by omega
      have he : ws.drop (i + 1 + (l.length - (i + 1))) = [] := List.drop_eq_nil_of_le (by omega)
      rw [he] at hmj
      exact ⟨⟨by omega, by omega⟩, ⟨i + 1, m, Aq, by push_cast; rfl, by omega, hq, by simpa using hmj, s⟩, by dsimp only; omega⟩
  · obtain rfl : i = l.length := by omega
    have he : ws.drop l.length = [] := List.drop_eq_nil_of_le (by omega)
    rw [he] at hmi
    obtain rfl : m = invs ws := hmi
    rw [zax_b7]
    refine ⟨fun z h' => ∃ (g m : Nat) (zs : List I4) (Az Aq : Bag), g + m = invs ws ∧ z.1.2.1 = g ∧ Sl T4 z.1.1 g z.1.2.2 zs Az ∧ HpQ qb m Aq ∧ St h0 h' (Az + (Aq + (Ap + (cA kb [.slice q l.length d, .int .i64 now.1, .int .i64 now.2, .slice qo l.length e] 80 + (cA b1 [.int .i64 t.1, .int .i64 t.2] 26 + (Am + (Ao + (An + F)))))))), fun z _ => invs ws - z.1.2.1, ⟨0, invs ws, [], 0, Aq, by omega, rfl, Sl.nil, hq, s.to⟩, ?_⟩
    clear s hq
    rintro ⟨⟨qz, g', cz⟩, _⟩ h20 ⟨g, m, zs, Az, Aq, hgm, hg, oz, hq, s⟩
    dsimp only at hg oz ⊢
    obtain rfl : g = g' := hg.symm
    rw [zax_b11]
    obtain ⟨p, c, zs', As, rfl, o⟩ := hq
    refine ⟨_, _, _, s.ld0, zbh_call ?_⟩
    rw [zbh_b0]
    refine ⟨_, rfl, condP (fun c5 => ?_) (fun c5 => ?_)⟩
    · obtain ⟨m, rfl⟩ : ∃ m', m = m' + 1 := ⟨m - 1, by omega⟩
      refine mkI_q ev1 ev2 ?_
      refine (ybho (n := m) (F := Az + (Ap + (cA kb [.slice q l.length d, .int .i64 now.1, .int .i64 now.2, .slice qo l.length e] 80 + (cA b1 [.int .i64 t.1, .int .i64 t.2] 26 + (Am + (Ao + (An + F))))))) ⟨p, c, zs', As, rfl, o⟩ s.to (by omega)).mono fun v h26 ⟨z, hv, Aq', hq', s⟩ => ⟨_, rfl, ?_⟩
      subst hv
      refine asI_q sw1 sw2 ⟨_, _, _, _, rfl, ?_⟩
      refine yahv ybfb (s.to (B := Az + (Aq' + (Ap + (cA kb [.slice q l.length d, .int .i64 now.1, .int .i64 now.2, .slice qo l.length e] 80 + (cA b1 [.int .i64 t.1, .int .i64 t.2] 26 + (Am + (Ao + (An + F))))))))) oz (x := z) rfl rfl (by omega) fun p' c' h28 Az' oz' s => ?_
      exact ⟨⟨g + 1, m, _, Az', Aq', by omega, rfl, oz', hq', s⟩, by dsimp only; omega⟩
    · obtain rfl : m = 0 := by omega
      obtain rfl : g = invs ws := by omega
      rw [zax_b12]
      refine ⟨_, _, s.ld0, s.ldB, s.wrB fun _ s => s.wrB (b := kb) (k := 2) fun _ s => s.wrB fun h31 s => ⟨qz, cz, os', pl, _, rfl, hP, ⟨q, l.length, d, qn, cn, Am, An, rfl, om, on, ho'⟩, ?_⟩⟩
      exact (s.to (B := (cA kb [.slice q l.length d, .int .i64 t.1, .int .i64 t.2, .slice qn l.length cn] 80 + (Am + An) + F) + (Az + (cA qb [.slice p 0 c] 93 + As + (Ap + (cA b1 [.int .i64 t.1, .int .i64 t.2] 26 + Ao)))))).left
theorem yawb {a b c : Int × Int} (hb : 1 ≤ b.2) (ha : 1 ≤ a.2) (hc : 1 ≤ c.2) (h1 : a.1 * b.2 ≤ b.1 * a.2) (h2 : b.1 * c.2 ≤ c.1 * b.2) : a.1 * c.2 ≤ c.1 * a.2 := by
  have e1 := Int.mul_le_mul_of_nonneg_right h1 (show 0 ≤ c.2 by omega)
  have e2 := Int.mul_le_mul_of_nonneg_right h2 (show 0 ≤ a.2 by omega)
  refine Int.le_of_mul_le_mul_right (a := b.2) ?_ (by omega)
  grind
theorem ybhc {a b c : Int × Int} (hb : 1 ≤ b.2) (ha : 1 ≤ a.2) (hc : 1 ≤ c.2) (h1 : a.1 * b.2 < b.1 * a.2) (h2 : b.1 * c.2 ≤ c.1 * b.2) : a.1 * c.2 < c.1 * a.2 := by
  have e1 := Int.mul_lt_mul_of_pos_right h1 (show 0 < c.2 by omega)
  have e2 := Int.mul_le_mul_of_nonneg_right h2 (show 0 ≤ a.2 by omega)
  refine Int.lt_of_mul_lt_mul_right (a := b.2) ?_ (by omega)
  grind
def Last (l : List (Int × Int)) (t : Int × Int) (w : Nat) : Prop := ∀ j, j < l.length → j ≠ w → LessN l t j w
def Fast (l : List (Int × Int)) (w j : Nat) : Prop := j < l.length ∧ (l.getD w (0, 0)).2 < (l.getD j (0, 0)).2
theorem yasu {a1 a2 s1 s2 n1 n2 t1 t2 : Int} (hn : 1 ≤ n2) (ht : 1 ≤ t2) (hs : s1 ≤ s2) (hle : n1 * t2 ≤ t1 * n2) :
    (a1 * n2 + s1 * n1 < a2 * n2 + s2 * n1 → a1 * t2 + s1 * t1 < a2 * t2 + s2 * t1) ∧ (a1 * n2 + s1 * n1 = a2 * n2 + s2 * n1 → a1 * t2 + s1 * t1 ≤ a2 * t2 + s2 * t1 ∧ (s1 = s2 → a1 * t2 + s1 * t1 = a2 * t2 + s2 * t1)) := by
  have hp := Int.mul_nonneg (show 0 ≤ s2 - s1 by omega) (show 0 ≤ t1 * n2 - n1 * t2 by omega)
  refine ⟨fun h => ?_, fun h => ⟨?_, fun e => ?_⟩⟩
  · have e1 := Int.mul_lt_mul_of_pos_right h (show 0 < t2 by omega)
    refine Int.lt_of_mul_lt_mul_right (a := n2) ?_ (by omega)
    grind
  · have e1 : (a1 * n2 + s1 * n1) * t2 = (a2 * n2 + s2 * n1) * t2 := by rw [h]
    refine Int.le_of_mul_le_mul_right (a := n2) ?_ (by omega)
    grind
  · subst e
    have h1 : (a1 - a2) * n2 = 0 := by grind
    rcases Int.mul_eq_zero.1 h1 with h2 | h2
    · have : a1 = a2 := by omega
      rw [this]
    · omega
theorem yaxy {aw aj sw sj x1 x2 t1 t2 : Int} (hx : 1 ≤ x2) (hs : sw < sj) (hm : x1 * (sw - sj) = (aj - aw) * x2) (hlt : t1 * x2 < x1 * t2) : aj * t2 + sj * t1 < aw * t2 + sw * t1 := by
  have hp := Int.mul_pos (show 0 < sj - sw by omega) (show 0 < x1 * t2 - t1 * x2 by omega)
  refine Int.lt_of_mul_lt_mul_right (a := x2) ?_ (by omega)
  have h2 : aj * x2 = x1 * (sw - sj) + aw * x2 := by grind
  have h3 : aj * x2 * t2 = (x1 * (sw - sj) + aw * x2) * t2 := by rw [h2]
  clear hm h2 hlt hs
  grind
theorem level {aw aj sw sj x1 x2 : Int} (hm : x1 * (sw - sj) = (aj - aw) * x2) : aj * x2 + sj * x1 = aw * x2 + sw * x1 := by grind
theorem ahead {aw av sw sv n1 n2 b1 b2 : Int} (hn : 1 ≤ n2) (hb : 1 ≤ b2) (hlt : n1 * b2 < b1 * n2) (h1 : av * n2 + sv * n1 ≤ aw * n2 + sw * n1) (h2 : aw * b2 + sw * b1 < av * b2 + sv * b1) : sw < sv := by
  have e1 := Int.mul_le_mul_of_nonneg_right h1 (show 0 ≤ b2 by omega)
  have e2 := Int.mul_lt_mul_of_pos_right h2 (show 0 < n2 by omega)
  refine Classical.byContradiction fun hn => ?_
  have hp := Int.mul_nonneg (show 0 ≤ sw - sv by omega) (show 0 ≤ b1 * n2 - n1 * b2 by omega)
  grind
def OvI (l : List (Int × Int)) (t : Int × Int) (w : Nat) (b : Int × Int) (f : Bool) (i : Nat) : Prop :=
  (f = false → ∀ j, j < i → ¬ Fast l w j) ∧ (f = true → IsT b ∧ t.1 * b.2 < b.1 * t.2 ∧ (∃ j, Fast l w j ∧ Meets (l.getD w (0, 0)) (l.getD j (0, 0)) b) ∧ ∀ j, j < i → Fast l w j → ∃ x, IsT x ∧ Meets (l.getD w (0, 0)) (l.getD j (0, 0)) x ∧ b.1 * x.2 ≤ x.1 * b.2)
theorem OvI.start {l : List (Int × Int)} {t b : Int × Int} {w : Nat} : OvI l t w b false 0 := ⟨fun _ j h => by omega, fun h => by simp at h⟩
theorem OvI.slow {l : List (Int × Int)} {t b : Int × Int} {w : Nat} {f : Bool} {i : Nat} (o : OvI l t w b f i) (hi : ¬ Fast l w i) : OvI l t w b f (i + 1) := by
  refine ⟨fun hf j hj => ?_, fun hf => ?_⟩
  · rcases Nat.lt_or_ge j i with h | h
    · exact o.1 hf j h
    · rw [show j = i by omega]; exact hi
  · obtain ⟨h1, h2, h3, h4⟩ := o.2 hf
    refine ⟨h1, h2, h3, fun j hj hF => ?_⟩
    rcases Nat.lt_or_ge j i with h | h
    · exact h4 j h hF
    · rw [show j = i by omega] at hF; exact absurd hF hi
theorem OvI.keep {l : List (Int × Int)} {t b x : Int × Int} {w i : Nat} (o : OvI l t w b true i) (hx : IsT x) (hm : Meets (l.getD w (0, 0)) (l.getD i (0, 0)) x) (hb : ¬ x.1 * b.2 < b.1 * x.2) : OvI l t w b true (i + 1) := by
  refine ⟨fun hf => by simp at hf, fun hf => ?_⟩
  obtain ⟨h1, h2, h3, h4⟩ := o.2 hf
  refine ⟨h1, h2, h3, fun j hj hF => ?_⟩
  rcases Nat.lt_or_ge j i with h | h
  · exact h4 j h hF
  · rw [show j = i by omega]; exact ⟨x, hx, hm, by omega⟩
theorem OvI.take {l : List (Int × Int)} {t b x : Int × Int} {w i : Nat} {f : Bool} (o : OvI l t w b f i) (hF : Fast l w i) (hx : IsT x) (hm : Meets (l.getD w (0, 0)) (l.getD i (0, 0)) x) (ht : t.1 * x.2 < x.1 * t.2) (hb : f = true → x.1 * b.2 < b.1 * x.2) : OvI l t w x true (i + 1) := by
  refine ⟨fun hf => by simp at hf, fun _ => ⟨hx, ht, ⟨i, hF, hm⟩, fun j hj hFj => ?_⟩⟩
  rcases Nat.lt_or_ge j i with h | h
  · cases f with
    | false => exact absurd hFj (o.1 rfl j h)
    | true =>
      obtain ⟨h1, h2, h3, h4⟩ := o.2 rfl
      obtain ⟨y, hy, hmy, hle⟩ := h4 j h hFj
      exact ⟨y, hy, hmy, yawb h1.1.d1 hx.1.d1 hy.1.d1 (by have := hb rfl; omega) hle⟩
  · rw [show j = i by omega]; exact ⟨x, hx, hm, by omega⟩
theorem later {l : List (Int × Int)} {t y : Int × Int} {w j : Nat} (hL : Last l t w) (hF : Fast l w j) (hy : IsV y) (hm : Meets (l.getD w (0, 0)) (l.getD j (0, 0)) y) : t.1 * y.2 < y.1 * t.2 := by
  have h1 := hL j hF.1 (fun e => by subst e; exact absurd hF.2 (by omega))
  unfold LessN sc at h1
  unfold Meets at hm
  have h2 := hF.2
  have h3 := hy.d1
  generalize l.getD w (0, 0) = W at *
  generalize l.getD j (0, 0) = J at *
  have h4 : J.1 * t.2 + J.2 * t.1 < W.1 * t.2 + W.2 * t.1 := by omega
  refine Classical.byContradiction fun hn => ?_
  have hp := Int.mul_nonneg (show 0 ≤ J.2 - W.2 by omega) (show 0 ≤ t.1 * y.2 - y.1 * t.2 by omega)
  have h5 := Int.mul_lt_mul_of_pos_right h4 (show 0 < y.2 by omega)
  have h6 : J.1 * y.2 = y.1 * (W.2 - J.2) + W.1 * y.2 := by grind
  have h7 : J.1 * y.2 * t.2 = (y.1 * (W.2 - J.2) + W.1 * y.2) * t.2 := by rw [h6]
  grind
theorem yaqd {l : List (Int × Int)} {t b : Int × Int} {w v : Nat} {f : Bool} (hL : Last l t w) (o : OvI l t w b true f.toNat) (hv : v < l.length) (hLv : Last l b v) (ht : 1 ≤ t.2) : (l.getD w (0, 0)).2 < (l.getD v (0, 0)).2 := by
  obtain ⟨hb, hlt, ⟨j, hF, hm⟩, _⟩ := o.2 rfl
  have hjv : j = v ∨ LessN l b j v := by
    by_cases e : j = v
    · exact .inl e
    · exact .inr (hLv j hF.1 e)
  rcases hjv with e | h1
  · subst e; exact hF.2
  have hvw : v = w ∨ LessN l t v w := by
    by_cases e : v = w
    · exact .inl e
    · exact .inr (hL v hv e)
  have e1 := level hm
  have h2 := hF.2
  have h3 := hb.1.d1
  unfold LessN sc at h1 hvw
  by_cases e : v = w
  · subst e
    omega
  have hvw := hvw.resolve_left e
  by_cases h5 : (l.getD w (0, 0)).1 * b.2 + (l.getD w (0, 0)).2 * b.1 < (l.getD v (0, 0)).1 * b.2 + (l.getD v (0, 0)).2 * b.1
  · exact ahead ht h3 hlt (by omega) h5
  · omega
theorem yalz {l : List (Int × Int)} {n t : Int × Int} {w : Nat} (hL : Last l n w) (hn : 1 ≤ n.2) (ht : 1 ≤ t.2) (hle : n.1 * t.2 ≤ t.1 * n.2) (hF : ∀ j, Fast l w j → ∃ x : Int × Int, 1 ≤ x.2 ∧ Meets (l.getD w (0, 0)) (l.getD j (0, 0)) x ∧ t.1 * x.2 < x.1 * t.2) : Last l t w := by
  intro j hj hjw
  have h1 := hL j hj hjw
  by_cases hs : (l.getD w (0, 0)).2 < (l.getD j (0, 0)).2
  · obtain ⟨x, hx, hm, hlt⟩ := hF j ⟨hj, hs⟩
    exact .inl (yaxy hx hs hm hlt)
  · have h2 := yasu (a1 := (l.getD j (0, 0)).1) (a2 := (l.getD w (0, 0)).1) hn ht (show (l.getD j (0, 0)).2 ≤ (l.getD w (0, 0)).2 by omega) hle
    unfold LessN sc at h1 ⊢
    omega
theorem IsOrd.last {l : List (Int × Int)} {t : Int × Int} {os : List Nat} (o : IsOrd l t os) (h0 : 0 < l.length) : Last l t (os.getD (l.length - 1) 0) := by
  intro j hj hne
  have hl := o.len
  have hm := o.perm.mem_iff.2 (List.mem_range.2 hj)
  obtain ⟨i, hi, rfl⟩ := List.getElem_of_mem hm
  have e : os.getD (l.length - 1) 0 = os[l.length - 1]'(by omega) := by simp [List.getD, show l.length - 1 < os.length by omega]
  rw [e] at hne ⊢
  have hil : i < l.length - 1 := by
    rcases Nat.lt_or_ge i (l.length - 1) with h | h
    · exact h
    · exfalso
      apply hne
      congr 1
      omega
  exact List.pairwise_iff_getElem.1 o.srt i (l.length - 1) _ _ hil
theorem OvI.meet {l : List (Int × Int)} {t b x : Int × Int} {w i : Nat} {f ok : Bool} (hL : Last l t w) (hF : Fast l w i) (_ : OvI l t w b f i) (h1 : ok = true → IsT x ∧ Meets (l.getD w (0, 0)) (l.getD i (0, 0)) x ∧ t.1 * x.2 < x.1 * t.2 ∧ (l.getD w (0, 0)).2 ≠ (l.getD i (0, 0)).2) (h2 : ok = false → (l.getD w (0, 0)).2 = (l.getD i (0, 0)).2 ∨ ∃ y, IsV y ∧ Meets (l.getD w (0, 0)) (l.getD i (0, 0)) y ∧ ¬ t.1 * y.2 < y.1 * t.2) : ok = true ∧ IsT x ∧ Meets (l.getD w (0, 0)) (l.getD i (0, 0)) x ∧ t.1 * x.2 < x.1 * t.2 := by
  cases ok with
  | true => exact ⟨rfl, (h1 rfl).1, (h1 rfl).2.1, (h1 rfl).2.2.1⟩
  | false =>
    rcases h2 rfl with h3 | ⟨y, hy, hm, hn⟩
    · have := hF.2; omega
    · exact absurd (later hL hF hy hm) hn
theorem yapz {h0 h : Hp} {l : List (Int × Int)} {t : Int × Int} {w tb : Nat} {ev : Int} {A F : Bag} (k : KT l t w ev tb A) (s0 : St h0 h (A + F)) (hn : l.length ≤ 12) (hm : ∀ m ∈ l, IsM m) (ht : IsT t) (hw : w < l.length) (hL : Last l t w) :
    yaak Tryz.prog 40 #[ptr tb] h (fun v h' => ∃ (b : Int × Int) (f : Bool), v = .tuple #[vF b, .bool f] ∧ Ext h h' ∧ OvI l t w b f l.length) := by
  obtain ⟨q, n, d, Am, rfl, om⟩ := k
  have hl := om.len
  subst hl
  have s0 := s0.to (B := Am + (cA tb [.slice q l.length d, .int .i64 t.1, .int .i64 t.2, .int .i64 (w : Int), .int .i64 ev] 84 + F))
  have r := om.rd s0
  have k0 : cell h ⟨tb, 0, none⟩ = some (.slice q l.length d) := s0.ld0
  have k1 : cell h ((⟨tb, 0, none⟩ : Addr).add 1) = some (.int .i64 t.1) := s0.ldB
  have k2 : cell h (((⟨tb, 0, none⟩ : Addr).add 1).add 1) = some (.int .i64 t.2) := s0.ldB (b := tb) (k := 2)
  have k3 : cell h ((⟨tb, 0, none⟩ : Addr).add 3) = some (.int .i64 (w : Int)) := s0.ldB
  clear s0 om
  refine zbd_call ?_
  rw [zbd_b0]
  have s := St.start h
  refine s.new (cs := [_, _]) fun b1 _ _ s => s.new (cs := [_, _]) fun b2 h2 _ s => ?_
  refine ⟨_, _, _, s.ext.cell k0, _, s.ext.cell k3, ?_⟩
  have x2 := s.ext
  refine yagq (r.ext x2) (by omega) (by omega) fun aq ha e0 e1 => ?_
  subst ha
  rw [Int.toNat_natCast] at e0 e1 ⊢
  have mw := getM hm hw
  refine s.new (cs := [_, _]) fun b3 h3 x3 s => ?_
  refine ⟨⟨_, _, x3.cell e0, x3.cell e1, rfl⟩, yacu (s.ext.cell k3), ⟨_, _, _, s.ext.cell k0, rfl⟩, ?_⟩
  refine s.wr0 fun _ s => s.wrB fun h5 s => ⟨_, _, _, s.ext.cell k0, ?_⟩
  refine ⟨fun z h' => ∃ (i : Nat) (b : Int × Int), z.2.1 = (i : Int) ∧ i ≤ l.length ∧ OvI l t w b z.1 i ∧ St h h' (cA b2 [.int .i64 b.1, .int .i64 b.2] 26 + (cA b1 [.int .i64 0, .int .i64 0] 26 + cA b3 [.int .i64 (l.getD w (0, 0)).1, .int .i64 (l.getD w (0, 0)).2] 49)), fun z _ => (l.length - z.2.1).toNat, ⟨0, (0, 0), rfl, by omega, .start, s.to⟩, ?_⟩
  clear s x3 e0 e1 x2
  rintro ⟨f, _, _⟩ h6 ⟨i, b, rfl, hi, ho, s⟩
  dsimp only at ho ⊢
  rw [zbd_b1]
  refine condP (fun c1 => ?_) (fun c1 => ?_)
  · refine yagq (r.ext s.ext) (by omega) (by omega) fun a _ _ _ => ?_
    rw [Int.toNat_natCast]
    refine s.new (cs := [_, _]) fun b4 h7 _ s => s.wr0 fun _ s => s.wrB fun h9 s => ?_
    have nxt : ∀ (h' : Hp) (E : Bag) (b' : Int × Int) (f' : Bool), St h h' (cA b2 [.int .i64 b'.1, .int .i64 b'.2] 26 + (cA b1 [.int .i64 0, .int .i64 0] 26 + (cA b3 [.int .i64 (l.getD w (0, 0)).1, .int .i64 (l.getD w (0, 0)).2] 49 + E))) → OvI l t w b' f' (i + 1) → zbd_b2 (some ⟨tb, 0, none⟩) (some ⟨b1, 0, none⟩) (some ⟨b2, 0, none⟩) f' (some ⟨b3, 0, none⟩) (some aq) l.length d l.length i h' (fun (z : Bool × Int × Unit) h' => (∃ (i : Nat) (b : Int × Int), z.2.1 = (i : Int) ∧ i ≤ l.length ∧ OvI l t w b z.1 i ∧ St h h' (cA b2 [.int .i64 b.1, .int .i64 b.2] 26 + (cA b1 [.int .i64 0, .int .i64 0] 26 + cA b3 [.int .i64 (l.getD w (0, 0)).1, .int .i64 (l.getD w (0, 0)).2] 49))) ∧ (l.length - z.2.1).toNat < (l.length - (i : Int)).toNat) (fun v h' => ∃ (b : Int × Int) (f : Bool), v = .tuple #[vF b, .bool f] ∧ Ext h h' ∧ OvI l t w b f l.length) := by
      intro h' E b' f' s ho
      rw [zbd_b2]
      exact ⟨⟨by omega, by omega⟩, ⟨i + 1, b', by push_cast; rfl, by omega, ho, (s.to (B := (cA b2 [.int .i64 b'.1, .int .i64 b'.2] 26 + (cA b1 [.int .i64 0, .int .i64 0] 26 + cA b3 [.int .i64 (l.getD w (0, 0)).1, .int .i64 (l.getD w (0, 0)).2] 49)) + E)).left⟩, by dsimp only; omega⟩
    refine ⟨_, s.ldB, _, s.ldB, condP (fun c2 => ?_) (fun c2 => ?_)⟩
    · exact nxt _ (cA b4 _ _) b f (s.to) (ho.slow fun hF => by have := hF.2; omega)
    have hF : Fast l w i := ⟨by omega, by omega⟩
    have mi := getM hm (i := i) (by omega)
    -- the meeting, in a block b5
    have fin : ∀ (h' : Hp) (E : Bag) (b5 : Nat) (x : Int × Int) (ok : Bool), St h h' (cA b5 [.int .i64 x.1, .int .i64 x.2] 26 + (cA b2 [.int .i64 b.1, .int .i64 b.2] 26 + (cA b1 [.int .i64 0, .int .i64 0] 26 + (cA b3 [.int .i64 (l.getD w (0, 0)).1, .int .i64 (l.getD w (0, 0)).2] 49 + E)))) → (ok = true ∧ IsT x ∧ Meets (l.getD w (0, 0)) (l.getD i (0, 0)) x ∧ t.1 * x.2 < x.1 * t.2) → zbd_b3 (some ⟨tb, 0, none⟩) (some ⟨b1, 0, none⟩) (some ⟨b2, 0, none⟩) f (some ⟨b3, 0, none⟩) (some ⟨b5, 0, none⟩) ok (some aq) l.length d l.length i h' (fun (z : Bool × Int × Unit) h' => (∃ (i : Nat) (b : Int × Int), z.2.1 = (i : Int) ∧ i ≤ l.length ∧ OvI l t w b z.1 i ∧ St h h' (cA b2 [.int .i64 b.1, .int .i64 b.2] 26 + (cA b1 [.int .i64 0, .int .i64 0] 26 + cA b3 [.int .i64 (l.getD w (0, 0)).1, .int .i64 (l.getD w (0, 0)).2] 49))) ∧ (l.length - z.2.1).toNat < (l.length - (i : Int)).toNat) (fun v h' => ∃ (b : Int × Int) (f : Bool), v = .tuple #[vF b, .bool f] ∧ Ext h h' ∧ OvI l t w b f l.length) := by
      rintro h' E b5 x ok s ⟨rfl, hx, hmx, hlt⟩
      rw [zbd_b3]
      refine yacv rfl ?_
      cases f with
      | false =>
        refine yacv rfl ⟨_, _, s.ld0, s.ldB, s.wr0 fun _ s => s.wrB fun _ s => ?_⟩
        exact nxt _ (E + cA b5 _ _) x true s.to (ho.take hF hx hmx hlt fun h => by simp at h)
      | true =>
        refine yabb rfl ⟨_, _, s.ld0, s.ldB, _, _, s.ld0, s.ldB, ?_⟩
        refine (yahi hx.1 (ho.2 rfl).1.1 _).mono fun v h20 ⟨hv, x20⟩ => ⟨_, hv, ?_⟩
        have s := s.grow x20
        refine condP (fun c3 => ?_) (fun c3 => ?_)
        · refine ⟨_, _, s.ld0, s.ldB, s.wr0 fun _ s => s.wrB fun _ s => ?_⟩
          exact nxt _ (E + cA b5 _ _) x true s.to (ho.take hF hx hmx hlt fun _ => c3)
        · exact nxt _ (E + cA b5 _ _) b true s.to (ho.keep hx hmx c3)
    refine ⟨_, _, s.ld0, s.ldB, _, _, s.ld0, s.ldB, _, _, s.ext.cell k1, s.ext.cell k2, ?_, ?_⟩
    · refine (yavl mw mi ht _).mono fun v h10 ⟨x10, x, ok, hv, g1, g2⟩ => ⟨_, _, _, hv, ?_⟩
      have s := s.grow x10
      refine s.new (cs := [_, _]) fun b5 _ _ s => s.wr0 fun _ s => s.wrB fun h13 s => ?_
      exact fin _ (cA b4 _ _) b5 x ok s.to (ho.meet hL hF g1 g2)
    · refine s.new (cs := [_, _]) fun b6 h14 x14 s => ?_
      refine ⟨⟨_, _, s.ext.cell k1, s.ext.cell k2, rfl⟩, ⟨_, _, s.ld0, s.ldB, rfl⟩, ⟨_, _, s.ld0, s.ldB, rfl⟩, ?_⟩
      refine (yavl mw mi ht _).mono fun v h15 ⟨x15, x, ok, hv, g1, g2⟩ => ⟨_, _, _, hv, ?_⟩
      have s := s.grow x15
      refine s.wr0 fun _ s => s.wrB fun h17 s => ?_
      exact fin _ (cA b4 _ _) b6 x ok s.to (ho.meet hL hF g1 g2)
  · obtain rfl : i = l.length := by omega
    rw [zbd_b4]
    exact ⟨_, _, s.ld0, s.ldB, s.wr0 fun _ s => s.wrB fun _ s => ⟨_, _, s.ld0, s.ldB, b, f, rfl, s.ext, ho⟩⟩
theorem yati {h0 h : Hp} {l : List (Int × Int)} {now t : Int × Int} {w tb : Nat} {A F : Bag} (k : KT l now w 0 tb A) (s : St h0 h (A + F)) (hn : l.length ≤ 12) (hm : ∀ m ∈ l, IsM m) (hnow : IsT now) (ht : IsT t) (hle : now.1 * t.2 ≤ t.1 * now.2) (hw : w < l.length) (hL : Last l now w) :
    yaak Tryz.prog 11 #[ptr tb, vF t] h (fun v h' => ∃ (w' : Nat) (ev : Int) (A' : Bag), v = .tuple #[.int .i64 (w' : Int), .int .i64 0] ∧ w' < l.length ∧ Last l t w' ∧ KT l t w' ev tb A' ∧ St h0 h' (A' + F)) := by
  obtain ⟨q, n, d, Am, rfl, om⟩ := k
  have hl := om.len
  subst hl
  refine zbc_call ?_
  rw [zbc_b0]
  refine s.new (cs := [_, _]) fun b1 h1 x1 s => yabb rfl ⟨_, _, s.ld0, s.ldB, ?_⟩
  refine (yavd ht _).mono fun v h2 ⟨hv, x2⟩ => ⟨_, hv, yabb rfl ?_⟩
  have s := s.grow x2
  refine ⟨_, _, s.ld0, s.ldB, _, _, s.ldB, s.ldB (b := tb) (k := 2), ?_⟩
  refine (yahi ht.1 hnow.1 _).mono fun v h3 ⟨hv, x3⟩ => ⟨_, hv, condP (fun c => by omega) (fun _ => ?_)⟩
  have s := s.grow x3
  rw [zbc_b1]
  refine ⟨fun _ h' => ∃ (u : Int × Int) (w' : Nat) (ev : Int), IsT u ∧ u.1 * t.2 ≤ t.1 * u.2 ∧ w' < l.length ∧ Last l u w' ∧ 0 ≤ ev ∧ ev ≤ (l.getD w' (0, 0)).2 + 1000 ∧ St h0 h' (cA tb [.slice q l.length d, .int .i64 u.1, .int .i64 u.2, .int .i64 (w' : Int), .int .i64 ev] 84 + (cA b1 [.int .i64 t.1, .int .i64 t.2] 26 + (Am + F))), fun _ h' => match cell h' ((⟨tb, 0, none⟩ : Addr).add 3) with | some (.int _ z) => (1000 - (l.getD z.toNat (0, 0)).2).toNat | _ => 0, ⟨now, w, 0, hnow, hle, hw, hL, by omega, by have := (getM hm hw).s1; omega, s.to⟩, ?_⟩
  clear s hL hw hnow hle
  rintro _ h4 ⟨u, w', ev, hu, hle, hw, hL, he0, he1, s⟩
  have cw : cell h4 ((⟨tb, 0, none⟩ : Addr).add 3) = some (.int .i64 (w' : Int)) := s.ldB
  rw [zbc_b2]
  refine (yapz (F := cA b1 [.int .i64 t.1, .int .i64 t.2] 26 + F) ⟨q, l.length, d, Am, rfl, om⟩ (s.to) hn hm hu hw hL).mono fun v h5 ⟨x, f, hv, x5, ho⟩ => ⟨_, _, _, hv, ?_⟩
  have s := s.grow x5
  refine s.new (cs := [_, _]) fun b2 h6 x6 s => s.wr0 fun _ s => s.wrB fun h8 s => ?_
  have fin : ∀ h', St h0 h' (cA tb [.slice q l.length d, .int .i64 u.1, .int .i64 u.2, .int .i64 (w' : Int), .int .i64 ev] 84 + (cA b1 [.int .i64 t.1, .int .i64 t.2] 26 + (cA b2 [.int .i64 x.1, .int .i64 x.2] 26 + (Am + F)))) → Last l t w' → zbc_b3 (some ⟨tb, 0, none⟩) (some ⟨b1, 0, none⟩) h' (fun v h' => ∃ (w' : Nat) (ev : Int) (A' : Bag), v = .tuple #[.int .i64 (w' : Int), .int .i64 0] ∧ w' < l.length ∧ Last l t w' ∧ KT l t w' ev tb A' ∧ St h0 h' (A' + F)) := by
    intro h' s hL'
    rw [zbc_b3]
    refine ⟨_, _, s.ld0, s.ldB, s.wrB fun _ s => s.wrB (b := tb) (k := 2) fun _ s => ⟨_, s.ldB, w', ev, _, rfl, hw, hL', ⟨q, l.length, d, Am, rfl, om⟩, ?_⟩⟩
    exact (s.to (B := (cA tb [.slice q l.length d, .int .i64 t.1, .int .i64 t.2, .int .i64 (w' : Int), .int .i64 ev] 84 + Am + F) + (cA b1 [.int .i64 t.1, .int .i64 t.2] 26 + cA b2 [.int .i64 x.1, .int .i64 x.2] 26))).left
  cases f with
  | false =>
    refine yacv rfl (fin _ s.to ?_)
    refine yalz hL hu.1.d1 ht.1.d1 hle fun j hF => ?_
    exact absurd hF (ho.1 rfl j hF.1)
  | true =>
    refine yabb rfl ⟨_, _, s.ld0, s.ldB, _, _, s.ld0, s.ldB, ?_⟩
    obtain ⟨hx, hux, _, hall⟩ := ho.2 rfl
    refine (yahi ht.1 hx.1 _).mono fun v h9 ⟨hv, x9⟩ => ⟨_, hv, condP (fun c => ?_) (fun c => ?_)⟩
    · have s := s.grow x9
      refine fin _ s.to ?_
      refine yalz hL hu.1.d1 ht.1.d1 hle fun j hF => ?_
      obtain ⟨y, hy, hmy, hxy⟩ := hall j hF.1 hF
      exact ⟨y, hy.1.d1, hmy, ybhc hx.1.d1 ht.1.d1 hy.1.d1 c hxy⟩
    · have s := s.grow x9
      rw [zbc_b4]
      refine ⟨_, _, s.ld0, s.ldB, _, _, _, s.ld0, _, _, s.ld0, s.ldB, ?_⟩
      refine (ybch (om.rd (s.at Am)) hn (by omega) hm hx).mono fun v h12 ⟨os, hv, x12, hos⟩ => ⟨_, hv, ?_⟩
      have s := s.grow x12
      have hv2 := hos.lt (i := l.length - 1) (by omega)
      have hL2 := hos.last (by omega)
      have hf := yaqd (f := false) hL (w := w') (v := os.getD (l.length - 1) 0) (b := x) ⟨fun h => by simp at h, fun _ => ⟨hx, hux, (ho.2 rfl).2.2.1, fun j hj _ => absurd hj (Nat.not_lt_zero _)⟩⟩ hv2 hL2 hu.1.d1
      have hs2 := (getM hm hv2).s2
      refine ⟨⟨_, _, s.ld0, s.ldB, rfl⟩, s.wrB fun _ s => s.wrB (b := tb) (k := 2) fun _ s => s.wrB fun _ s => ⟨_, s.ldB, ⟨by omega, by omega⟩, s.wrB fun h16 s => ?_⟩⟩
      have cw' : cell h16 ((⟨tb, 0, none⟩ : Addr).add 3) = some (.int .i64 (nI (os.getD (l.length - 1) 0))) := s.ldB
      refine ⟨⟨x, os.getD (l.length - 1) 0, ev + 1, hx, by omega, hv2, hL2, by omega, by omega, ?_⟩, ?_⟩
      · exact (s.to (B := (cA tb [.slice q l.length d, .int .i64 x.1, .int .i64 x.2, .int .i64 (nI (os.getD (l.length - 1) 0)), .int .i64 (ev + 1)] 84 + (cA b1 [.int .i64 t.1, .int .i64 t.2] 26 + (Am + F))) + cA b2 [.int .i64 x.1, .int .i64 x.2] 26)).left
      · dsimp only
        rw [cw, cw']
        dsimp only [nI]
        rw [Int.toNat_natCast, Int.toNat_natCast]
        omega
theorem yanr {zs : List Int} {k : Nat} (hk : k < zs.length) : at_ zs k = zs[k] := by simp [at_, List.getD, hk]
abbrev KeyP (z : Int) : Prop := -1048576 ≤ z ∧ z ≤ 1048576
instance (z : Int) : Decidable (KeyP z) := inferInstanceAs (Decidable (_ ∧ _))
theorem yamn (z : Int) (h : Hp) : yaak Tryz.prog 83 #[.int .i64 z] h (fun v h' => h' = h ∧ v = .bool (!decide (KeyP z))) := by
  refine zal_call ?_
  rw [zal_b0]
  refine condP (fun h1 => ⟨rfl, ?_⟩) (fun h1 => ⟨rfl, ?_⟩)
  · rw [decide_eq_false (by omega)]; rfl
  · by_cases h2 : z ≤ 1048576
    · rw [decide_eq_true (p := KeyP z) (by omega), decide_eq_false (by omega)]; rfl
    · rw [decide_eq_false (p := KeyP z) (by omega), decide_eq_true (by omega)]; rfl
theorem yaql {h : Hp} {p : OA} {n c : Nat} {zs : List Int} (r : Rd h p n (ints zs)) (hn : n ≤ 1000000) :
    yaak Tryz.prog 75 #[.slice p n c, .func (.func 83) #[] #[]] h (fun v h' => h' = h ∧ ∃ x : Int, v = .int .i64 x ∧ ((x = -1 ∧ ∀ z ∈ zs, KeyP z) ∨ (0 ≤ x ∧ ∃ z ∈ zs, ¬ KeyP z))) := by
  have hzl : zs.length = n := by have := r.len; simpa using this
  refine zcm_call ?_
  rw [zcm_b0]
  refine ⟨fun s h' => h' = h ∧ ∃ i : Nat, s.1 = i ∧ i ≤ n ∧ ∀ k, k < i → KeyP (at_ zs k), fun s _ => (n - s.1).toNat, ⟨rfl, 0, rfl, by omega, fun k hk => by omega⟩, ?_⟩
  rintro ⟨si, _⟩ h1 ⟨hh, i, hi, hin, ok⟩
  subst hh
  simp only at hi
  subst hi
  dsimp only
  have e : ((i : Nat) : Int).toNat = i := by simp
  rw [zcm_b1]
  refine condP (fun hlt => ?_) (fun hge => ?_)
  · refine yafn r (by omega) (by omega) ?_
    rw [e]
    show callX Tryz.prog F 83 #[.int .i64 (zs.getD i 0)] _ _
    refine yamy (by kernel_rfl) ?_
    refine (yamn _ _).mono fun v h2 ⟨hh, hv⟩ => ?_
    subst hh
    refine ⟨_, hv, yaar (fun h3 => ?_) (fun h3 => ?_)⟩
    · have h3' : ¬ KeyP (at_ zs i) := fun h4 => by rw [decide_eq_true h4] at h3; cases h3
      refine ⟨rfl, _, rfl, .inr ⟨by omega, _, ?_, h3'⟩⟩
      rw [yanr (by omega)]; exact List.getElem_mem _
    · have h3' : KeyP (at_ zs i) := Classical.byContradiction fun h4 => by rw [decide_eq_false h4] at h3; cases h3
      rw [zcm_b2]
      refine ⟨⟨by omega, by omega⟩, ⟨rfl, i + 1, by simp only; omega, by omega, fun k hk => ?_⟩, by simp only; omega⟩
      rcases Nat.lt_or_ge k i with h4 | h4
      · exact ok k h4
      · have : k = i := by omega
        subst this; exact h3'
  · rw [zcm_b3]
    refine ⟨rfl, _, rfl, .inl ⟨rfl, fun z hz => ?_⟩⟩
    obtain ⟨k, hk, rfl⟩ := List.getElem_of_mem hz
    have := ok k (by omega)
    rwa [yanr hk] at this
theorem yaux {h : Hp} {p : OA} {n c : Nat} {zs : List Int} (r : Rd h p n (ints zs)) (hn : n ≤ 1000000) :
    yaak Tryz.prog 49 #[.slice p n c] h (fun v h' => h' = h ∧ v = .bool (decide (∀ z ∈ zs, KeyP z))) := by
  refine zak_call ?_
  rw [zak_b0]
  refine (yaak.mono (K := fun v h' => h' = h ∧ v = .bool (!decide (∀ z ∈ zs, KeyP z))) ?_ ?_)
  · refine zck_call ?_
    rw [zck_b0]
    refine (yaql r hn).mono fun v h1 ⟨hh, x, hv, hx⟩ => ?_
    subst hh
    refine ⟨_, hv, rfl, ?_⟩
    rcases hx with ⟨rfl, ha⟩ | ⟨h0, z, hz, hne⟩
    · rw [decide_eq_true ha]; rfl
    · rw [decide_eq_true h0, decide_eq_false (fun ha => hne (ha z hz))]; rfl
  · rintro v h1 ⟨hh, hv⟩
    subst hh
    exact ⟨_, hv, rfl, by simp⟩
theorem yawv {h : Hp} {b : Nat} {x y : Int} {e : TypeId} (hb : Blk h b [.int .i64 x, .int .i64 y] e) : yaak Tryz.prog 49 #[.slice (some ⟨b, 0, none⟩) 2 2] h (fun v h' => h' = h ∧ v = .bool (decide (KeyP x ∧ KeyP y))) := by
  refine (yaux (zs := [x, y]) (Rd.of_blk hb (n := 2) (by simp)) (by omega)).mono fun v h' ⟨hh, hv⟩ => ⟨hh, ?_⟩
  rw [hv]; congr 1; simp
theorem yaiv : ElOk (tI 3) Tryz.prog 37 := yaeh (by kernel_rfl)
theorem yaha {h : Hp} {p : OA} {n c : Nat} {xs : List Int} (r : RdT (tI 3) h p n xs) (hn : n < 1000000) :
    yaak Tryz.prog 32 #[.slice p n c] h (fun v h' => ∃ q d A, v = .slice q n d ∧ Sl (tI 3) q n d xs A ∧ St h h' A) := by
  refine zch_call ?_
  rw [zch_b0]
  refine yaar (fun h1 => ?_) (fun h1 => ?_)
  · have hp : p = none := by cases p with | none => rfl | some a => cases h1
    subst hp
    obtain rfl : n = 0 := by
      rcases r.2 with h2 | ⟨a, h2, _⟩
      · exact h2
      · cases h2
    have : xs = [] := List.eq_nil_of_length_eq_zero r.1
    subst this
    exact ⟨_, _, 0, rfl, Sl.nil, St.start h⟩
  · refine (St.start h).new (cs := []) fun b h1 x s1 => ?_
    have o : Sl (tI 3) (some ⟨b, 0, none⟩) 0 0 [] (cA b [] (tI 3).e) := Sl.of_blk rfl rfl
    refine yadi yaiv s1 o (r.ext x) (by omega) fun p' c' h' A' a' s' => ?_
    rw [List.nil_append, Nat.zero_add] at a'
    rw [Nat.zero_add]
    exact ⟨_, _, A', rfl, a', s'.to⟩
theorem yadr {h0 h : Hp} {p : OA} {n c i bv : Nat} {xs : List Int} {x : Int} {cs : List Value} {A F : Bag} (s : St h0 h (A + (cA bv cs (tI 3).e + F))) (a : Sl (tI 3) p n c xs A)
    (hcs : cs = (tI 3).enc x) (hi : i ≤ n) (hn : n < 1000000) :
    yaak Tryz.prog 85 #[.slice p n c, .int .i64 (i : Int), .slice (some ⟨bv, 0, none⟩) 1 1] h (fun v h' => ∃ p' c' A', v = .slice p' (n + 1) c' ∧ Sl (tI 3) p' (n + 1) c' (xs.take i ++ x :: xs.drop i) A' ∧ St h0 h' (A' + (cA bv cs (tI 3).e + F))) := by
  have hcap := a.cap
  have hlen := a.len
  have one : Sl (tI 3) (some ⟨bv, 0, none⟩) 1 1 [x] (cA bv cs (tI 3).e) := Sl.one hcs
  have rv : RdT (tI 3) h (some ⟨bv, 0, none⟩) 1 [x] := one.rd (s.to (B := cA bv cs (tI 3).e + (A + F)))
  refine zcn_call ?_
  rw [zcn_b0]
  refine ⟨⟨by omega, by omega, by omega⟩, yabb (by decide) ?_⟩
  have e1 : Int.toNat (i : Int) = i := Int.toNat_natCast i
  have e0 : Int.toNat (0 : Int) = 0 := rfl
  refine condP (fun h1 => ?_) (fun h1 => ?_)
  · have : i = n := by omega
    subst this
    refine yadi yaiv s a rv (by omega) fun p' c' h' A' a' s' => ?_
    refine ⟨p', c', A', rfl, ?_, s'⟩
    rw [List.take_of_length_le (by omega), List.drop_eq_nil_of_le (by omega)]
    exact a'
  have hin : i < n := by omega
  have hti : ((tI 3).cells (xs.take i)).length = i * (tI 3).sz := by rw [(tI 3).cells_len, List.length_take]; congr 1; omega
  refine ⟨⟨by omega, by omega⟩, condP (fun h2 => ?_) (fun h2 => ?_)⟩
  · -- a new block
    have hcn : c < n + 1 := by omega
    refine ⟨⟨by omega, by omega, by omega⟩, ⟨by omega, by omega⟩, ⟨by omega, by omega⟩, ?_⟩
    rw [e0, e1, yadh, Nat.sub_zero, Nat.sub_zero]
    have rt : RdT (tI 3) h p i (xs.take i) := (a.rd s).take (by omega)
    have el : (((n : Int) + ((1 : Nat) : Int)) - (i : Int)).toNat = n + 1 - i := by omega
    refine yafp yaiv (by kernel_rfl) (by kernel_rfl) s rt (by omega) (by omega) (by omega) fun b c' h' mid rest hc' hm hr s1 => ?_
    rw [el] at hm hr hc' ⊢
    have hl2 : i + (n + 1 - i) = n + 1 := by omega
    rw [hl2] at hr hc' ⊢
    refine ⟨⟨by omega, by omega, by omega⟩, ?_⟩
    have e2 : Int.toNat (((n + 1 : Nat) : Nat) : Int) = n + 1 := Int.toNat_natCast _
    have e3 : Int.toNat ((i : Int) + ((1 : Nat) : Int)) = i + 1 := by omega
    have e4 : Int.toNat (n : Int) = n := Int.toNat_natCast _
    rw [e2, e3, e4]
    have es1 : yaai (some ⟨b, 0, none⟩) c' i (tI 3).sz = some ⟨b, i * (tI 3).sz, none⟩ := by rw [yace (by omega), Nat.zero_add]
    have es2 : yaai (some ⟨b, 0, none⟩) c' (i + 1) (tI 3).sz = some ⟨b, (i + 1) * (tI 3).sz, none⟩ := by rw [yace (by omega), Nat.zero_add]
    rw [show yaai (some ⟨b, 0, none⟩) c' i 1 = some ⟨b, i * (tI 3).sz, none⟩ from es1, show yaai (some ⟨b, 0, none⟩) c' (i + 1) 1 = some ⟨b, (i + 1) * (tI 3).sz, none⟩ from es2]
    have hm1 : mid.length = (tI 3).sz + (n - i) * (tI 3).sz := by rw [hm, show n + 1 - i = 1 + (n - i) by omega, Nat.add_mul, Nat.one_mul]
    have em : mid = mid.take (tI 3).sz ++ mid.drop (tI 3).sz := (List.take_append_drop _ _).symm
    have s2 : St h0 h' (cA b ((tI 3).cells (xs.take i) ++ mid.take (tI 3).sz ++ (mid.drop (tI 3).sz ++ rest)) (tI 3).e + (A + (cA bv cs (tI 3).e + F))) := by
      have e : (tI 3).cells (xs.take i) ++ mid.take (tI 3).sz ++ (mid.drop (tI 3).sz ++ rest) = (tI 3).cells (xs.take i) ++ mid ++ rest := by
        conv => rhs; rw [em]
        simp only [List.append_assoc]
      rw [e]; exact s1
    have rv2 : RdT (tI 3) h' (some ⟨bv, 0, none⟩) 1 [x] := one.rd (s2.to (B := cA bv cs (tI 3).e + (cA b _ _ + (A + F))))
    refine yagm (j := 1) yaiv s2 rv2 hti (by omega) (by rw [List.length_take]; omega) fun v1 h3 s3 _ => ?_
    refine ⟨⟨by omega, by omega⟩, ⟨by omega, by omega, by omega⟩, ⟨by omega, by omega, by omega⟩, ?_⟩
    rw [(tI 3).cells_one] at s3
    have s4 : St h0 h3 (cA b (((tI 3).cells (xs.take i) ++ (tI 3).enc x) ++ mid.drop (tI 3).sz ++ rest) (tI 3).e + (A + (cA bv cs (tI 3).e + F))) := by
      have e : ((tI 3).cells (xs.take i) ++ (tI 3).enc x) ++ mid.drop (tI 3).sz ++ rest = (tI 3).cells (xs.take i) ++ (tI 3).enc x ++ (mid.drop (tI 3).sz ++ rest) := by simp only [List.append_assoc]
      rw [e]; exact s3
    have ra : RdT (tI 3) h3 p n xs := a.rd (s4.to (B := A + (cA b _ _ + (cA bv cs (tI 3).e + F))))
    have rs := ra.sub hi hcap rfl
    refine yagm (j := n - i) yaiv s4 rs (by rw [List.length_append, hti, (tI 3).len, Nat.add_mul, Nat.one_mul]) (by omega) (by rw [List.length_drop, hm1, Nat.add_sub_cancel_left]) fun v2 h4 s5 _ => ?_
    refine ⟨_, _, _, rfl, ⟨by simp; omega, .inr ⟨b, rest, rfl, hc', hr, rfl⟩⟩, ?_⟩
    rw [(tI 3).cells_append, (tI 3).cells_cons]
    have e : (tI 3).cells (xs.take i) ++ ((tI 3).enc x ++ (tI 3).cells (xs.drop i)) ++ rest = (tI 3).cells (xs.take i) ++ (tI 3).enc x ++ (tI 3).cells (xs.drop i) ++ rest := by simp only [List.append_assoc]
    rw [e]
    exact (s5.to (B := A + (cA b _ _ + (cA bv cs (tI 3).e + F)))).drop
  · -- in place
    have hcn : n + 1 ≤ c := by omega
    rcases a with ⟨hl, ⟨rfl, h3, _, _⟩ | ⟨b, rest, rfl, hc, hr, rfl⟩⟩
    · omega
    have a : Sl (tI 3) (some ⟨b, 0, none⟩) n c xs (cA b ((tI 3).cells xs ++ rest) (tI 3).e) := ⟨hl, .inr ⟨b, rest, rfl, hc, hr, rfl⟩⟩
    have e3 : Int.toNat ((i : Int) + ((1 : Nat) : Int)) = i + 1 := by omega
    have e4 : Int.toNat (n : Int) = n := Int.toNat_natCast _
    have e5 : Int.toNat ((n : Int) + ((1 : Nat) : Int)) = n + 1 := by omega
    have e6 : Int.toNat (((n + 1 : Nat) : Nat) : Int) = n + 1 := Int.toNat_natCast _
    simp only [e0, e1, e3, e4, e5, e6, yadh, Nat.sub_zero]
    refine ⟨⟨by omega, by omega⟩, ⟨by omega, by omega, by omega⟩, ⟨by omega, by omega⟩, ⟨by omega, by omega, by omega⟩, ?_⟩
    have es1 : yaai (some ⟨b, 0, none⟩) c (i + 1) (tI 3).sz = some ⟨b, (i + 1) * (tI 3).sz, none⟩ := by rw [yace (by omega), Nat.zero_add]
    rw [show yaai (some ⟨b, 0, none⟩) c (i + 1) 1 = some ⟨b, (i + 1) * (tI 3).sz, none⟩ from es1]
    obtain ⟨i0, z, hi0, hz, hzs, hzc, hbt⟩ := (yaiv).info
    have hrl : (tI 3).sz ≤ rest.length := by rw [hr]; calc (tI 3).sz = 1 * (tI 3).sz := (Nat.one_mul _).symm
                                              _ ≤ (c - n) * (tI 3).sz := Nat.mul_le_mul_right _ (by omega)
    have er : rest = rest.take (tI 3).sz ++ rest.drop (tI 3).sz := (List.take_append_drop _ _).symm
    refine yajc ybdk (t := 37) (e := 3) (by kernel_rfl) (by kernel_rfl) hi0 (s.to (B := cA bv cs (tI 3).e + (cA b _ _ + F))) ⟨_, rfl, ?_⟩
    refine ⟨⟨by omega, by omega⟩, ⟨by omega, by omega, by omega⟩, ⟨by omega, by omega, by omega⟩, ?_⟩
    -- the elements from i on move by one
    have hdl : ((tI 3).cells (xs.drop i)).length = (n - i) * (tI 3).sz := by rw [(tI 3).cells_len, List.length_drop, hl]
    have hd1l : ((tI 3).cells (xs.drop (i + 1))).length = (n - (i + 1)) * (tI 3).sz := by rw [(tI 3).cells_len, List.length_drop, hl]
    have ht1 : ((tI 3).cells (xs.take (i + 1))).length = (i + 1) * (tI 3).sz := by rw [(tI 3).cells_len, List.length_take]; congr 1; omega
    have s1 : St h0 h (cA b ((tI 3).cells (xs.take (i + 1)) ++ ((tI 3).cells (xs.drop (i + 1)) ++ rest.take (tI 3).sz) ++ rest.drop (tI 3).sz) (tI 3).e + (cA bv cs (tI 3).e + F)) := by
      have e : (tI 3).cells (xs.take (i + 1)) ++ ((tI 3).cells (xs.drop (i + 1)) ++ rest.take (tI 3).sz) ++ rest.drop (tI 3).sz = (tI 3).cells xs ++ rest := by
        rw [List.append_assoc, List.append_assoc, ← er, ← List.append_assoc, ← (tI 3).cells_append, List.take_append_drop]
      rw [e]; exact s
    have rx : RdT (tI 3) h (some ⟨b, 0, none⟩) n xs := a.rd s
    have rs : RdT (tI 3) h (yaai (some ⟨b, 0, none⟩) c i (tI 3).sz) (n - i) (xs.drop i) := rx.sub hi hcap rfl
    refine yagm (j := n - i) yaiv s1 rs ht1 (by omega) (by rw [List.length_append, hd1l, List.length_take, Nat.min_eq_left hrl, show n - i = (n - (i + 1)) + 1 by omega, Nat.add_mul, Nat.one_mul]) fun v4 h5 s5 _ => ?_
    refine ⟨⟨by omega, by omega, by omega⟩, ?_⟩
    have es2 : yaai (some ⟨b, 0, none⟩) c i (tI 3).sz = some ⟨b, i * (tI 3).sz, none⟩ := by rw [yace (by omega), Nat.zero_add]
    rw [show yaai (some ⟨b, 0, none⟩) c i 1 = some ⟨b, i * (tI 3).sz, none⟩ from es2]
    have s6 : St h0 h5 (cA b ((tI 3).cells (xs.take i) ++ (tI 3).enc xs[i] ++ ((tI 3).cells (xs.drop i) ++ rest.drop (tI 3).sz)) (tI 3).e + (cA bv cs (tI 3).e + F)) := by
      have e : (tI 3).cells (xs.take i) ++ (tI 3).enc xs[i] ++ ((tI 3).cells (xs.drop i) ++ rest.drop (tI 3).sz) = (tI 3).cells (xs.take (i + 1)) ++ (tI 3).cells (xs.drop i) ++ rest.drop (tI 3).sz := by
        rw [List.take_succ_eq_append_getElem (by omega), (tI 3).cells_append, (tI 3).cells_one]; simp only [List.append_assoc]
      rw [e]; exact s5
    have rv5 : RdT (tI 3) h5 (some ⟨bv, 0, none⟩) 1 [x] := one.rd (s6.to (B := cA bv cs (tI 3).e + (cA b _ _ + F)))
    refine yagm (j := 1) yaiv s6 rv5 hti (by omega) (by rw [(tI 3).len, Nat.one_mul]) fun v5 h6 s7 _ => ?_
    refine ⟨_, _, _, rfl, ⟨by simp; omega, .inr ⟨b, rest.drop (tI 3).sz, rfl, hcn, ?_, rfl⟩⟩, ?_⟩
    · rw [List.length_drop, hr, show c - n = (c - (n + 1)) + 1 by omega, Nat.add_mul, Nat.one_mul]; omega
    · rw [(tI 3).cells_one] at s7
      rw [(tI 3).cells_append, (tI 3).cells_cons]
      have e : (tI 3).cells (xs.take i) ++ ((tI 3).enc x ++ (tI 3).cells (xs.drop i)) ++ rest.drop (tI 3).sz = (tI 3).cells (xs.take i) ++ (tI 3).enc x ++ ((tI 3).cells (xs.drop i) ++ rest.drop (tI 3).sz) := by simp only [List.append_assoc]
      rw [e]
      exact s7
theorem yafa : ElOk (tP 85) Tryz.prog 173 := yaeh (by kernel_rfl)
theorem yapg {h : Hp} {p : OA} {n c : Nat} {xs : List Nat} (r : RdT (tP 85) h p n xs) (hn : n < 1000000) :
    yaak Tryz.prog 119 #[.slice p n c] h (fun v h' => ∃ q d A, v = .slice q n d ∧ Sl (tP 85) q n d xs A ∧ St h h' A) := by
  refine zci_call ?_
  rw [zci_b0]
  refine yaar (fun h1 => ?_) (fun h1 => ?_)
  · have hp : p = none := by cases p with | none => rfl | some a => cases h1
    subst hp
    obtain rfl : n = 0 := by
      rcases r.2 with h2 | ⟨a, h2, _⟩
      · exact h2
      · cases h2
    have : xs = [] := List.eq_nil_of_length_eq_zero r.1
    subst this
    exact ⟨_, _, 0, rfl, Sl.nil, St.start h⟩
  · refine (St.start h).new (cs := []) fun b h1 x s1 => ?_
    have o : Sl (tP 85) (some ⟨b, 0, none⟩) 0 0 [] (cA b [] (tP 85).e) := Sl.of_blk rfl rfl
    refine yadi yafa s1 o (r.ext x) (by omega) fun p' c' h' A' a' s' => ?_
    rw [List.nil_append, Nat.zero_add] at a'
    rw [Nat.zero_add]
    exact ⟨_, _, A', rfl, a', s'.to⟩
theorem yare {h0 h : Hp} {p : OA} {n c i bv : Nat} {xs : List Nat} {x : Nat} {cs : List Value} {A F : Bag} (s : St h0 h (A + (cA bv cs (tP 85).e + F))) (a : Sl (tP 85) p n c xs A)
    (hcs : cs = (tP 85).enc x) (hi : i ≤ n) (hn : n < 1000000) :
    yaak Tryz.prog 86 #[.slice p n c, .int .i64 (i : Int), .slice (some ⟨bv, 0, none⟩) 1 1] h (fun v h' => ∃ p' c' A', v = .slice p' (n + 1) c' ∧ Sl (tP 85) p' (n + 1) c' (xs.take i ++ x :: xs.drop i) A' ∧ St h0 h' (A' + (cA bv cs (tP 85).e + F))) := by
  have hcap := a.cap
  have hlen := a.len
  have one : Sl (tP 85) (some ⟨bv, 0, none⟩) 1 1 [x] (cA bv cs (tP 85).e) := Sl.one hcs
  have rv : RdT (tP 85) h (some ⟨bv, 0, none⟩) 1 [x] := one.rd (s.to (B := cA bv cs (tP 85).e + (A + F)))
  refine zco_call ?_
  rw [zco_b0]
  refine ⟨⟨by omega, by omega, by omega⟩, yabb (by decide) ?_⟩
  have e1 : Int.toNat (i : Int) = i := Int.toNat_natCast i
  have e0 : Int.toNat (0 : Int) = 0 := rfl
  refine condP (fun h1 => ?_) (fun h1 => ?_)
  · have : i = n := by omega
    subst this
    refine yadi yafa s a rv (by omega) fun p' c' h' A' a' s' => ?_
    refine ⟨p', c', A', rfl, ?_, s'⟩
    rw [List.take_of_length_le (by omega), List.drop_eq_nil_of_le (by omega)]
    exact a'
  have hin : i < n := by omega
  have hti : ((tP 85).cells (xs.take i)).length = i * (tP 85).sz := by rw [(tP 85).cells_len, List.length_take]; congr 1; omega
  refine ⟨⟨by omega, by omega⟩, condP (fun h2 => ?_) (fun h2 => ?_)⟩
  · -- a new block
    have hcn : c < n + 1 := by omega
    refine ⟨⟨by omega, by omega, by omega⟩, ⟨by omega, by omega⟩, ⟨by omega, by omega⟩, ?_⟩
    rw [e0, e1, yadh, Nat.sub_zero, Nat.sub_zero]
    have rt : RdT (tP 85) h p i (xs.take i) := (a.rd s).take (by omega)
    have el : (((n : Int) + ((1 : Nat) : Int)) - (i : Int)).toNat = n + 1 - i := by omega
    refine yafp yafa (by kernel_rfl) (by kernel_rfl) s rt (by omega) (by omega) (by omega) fun b c' h' mid rest hc' hm hr s1 => ?_
    rw [el] at hm hr hc' ⊢
    have hl2 : i + (n + 1 - i) = n + 1 := by omega
    rw [hl2] at hr hc' ⊢
    refine ⟨⟨by omega, by omega, by omega⟩, ?_⟩
    have e2 : Int.toNat (((n + 1 : Nat) : Nat) : Int) = n + 1 := Int.toNat_natCast _
    have e3 : Int.toNat ((i : Int) + ((1 : Nat) : Int)) = i + 1 := by omega
    have e4 : Int.toNat (n : Int) = n := Int.toNat_natCast _
    rw [e2, e3, e4]
    have es1 : yaai (some ⟨b, 0, none⟩) c' i (tP 85).sz = some ⟨b, i * (tP 85).sz, none⟩ := by rw [yace (by omega), Nat.zero_add]
    have es2 : yaai (some ⟨b, 0, none⟩) c' (i + 1) (tP 85).sz = some ⟨b, (i + 1) * (tP 85).sz, none⟩ := by rw [yace (by omega), Nat.zero_add]
    rw [show yaai (some ⟨b, 0, none⟩) c' i 1 = some ⟨b, i * (tP 85).sz, none⟩ from es1, show yaai (some ⟨b, 0, none⟩) c' (i + 1) 1 = some ⟨b, (i + 1) * (tP 85).sz, none⟩ from es2]
    have hm1 : mid.length = (tP 85).sz + (n - i) * (tP 85).sz := by rw [hm, show n + 1 - i = 1 + (n - i) by omega, Nat.add_mul, Nat.one_mul]
    have em : mid = mid.take (tP 85).sz ++ mid.drop (tP 85).sz := (List.take_append_drop _ _).symm
    have s2 : St h0 h' (cA b ((tP 85).cells (xs.take i) ++ mid.take (tP 85).sz ++ (mid.drop (tP 85).sz ++ rest)) (tP 85).e + (A + (cA bv cs (tP 85).e + F))) := by
      have e : (tP 85).cells (xs.take i) ++ mid.take (tP 85).sz ++ (mid.drop (tP 85).sz ++ rest) = (tP 85).cells (xs.take i) ++ mid ++ rest := by
        conv => rhs; rw [em]
        simp only [List.append_assoc]
      rw [e]; exact s1
    have rv2 : RdT (tP 85) h' (some ⟨bv, 0, none⟩) 1 [x] := one.rd (s2.to (B := cA bv cs (tP 85).e + (cA b _ _ + (A + F))))
    refine yagm (j := 1) yafa s2 rv2 hti (by omega) (by rw [List.length_take]; omega) fun v1 h3 s3 _ => ?_
    refine ⟨⟨by omega, by omega⟩, ⟨by omega, by omega, by omega⟩, ⟨by omega, by omega, by omega⟩, ?_⟩
    rw [(tP 85).cells_one] at s3
    have s4 : St h0 h3 (cA b (((tP 85).cells (xs.take i) ++ (tP 85).enc x) ++ mid.drop (tP 85).sz ++ rest) (tP 85).e + (A + (cA bv cs (tP 85).e + F))) := by
      have e : ((tP 85).cells (xs.take i) ++ (tP 85).enc x) ++ mid.drop (tP 85).sz ++ rest = (tP 85).cells (xs.take i) ++ (tP 85).enc x ++ (mid.drop (tP 85).sz ++ rest) := by simp only [List.append_assoc]
      rw [e]; exact s3
    have ra : RdT (tP 85) h3 p n xs := a.rd (s4.to (B := A + (cA b _ _ + (cA bv cs (tP 85).e + F))))
    have rs := ra.sub hi hcap rfl
    refine yagm (j := n - i) yafa s4 rs (by rw [List.length_append, hti, (tP 85).len, Nat.add_mul, Nat.one_mul]) (by omega) (by rw [List.length_drop, hm1, Nat.add_sub_cancel_left]) fun v2 h4 s5 _ => ?_
    refine ⟨_, _, _, rfl, ⟨by simp; omega, .inr ⟨b, rest, rfl, hc', hr, rfl⟩⟩, ?_⟩
    rw [(tP 85).cells_append, (tP 85).cells_cons]
    have e : (tP 85).cells (xs.take i) ++ ((tP 85).enc x ++ (tP 85).cells (xs.drop i)) ++ rest = (tP 85).cells (xs.take i) ++ (tP 85).enc x ++ (tP 85).cells (xs.drop i) ++ rest := by simp only [List.append_assoc]
    rw [e]
    exact (s5.to (B := A + (cA b _ _ + (cA bv cs (tP 85).e + F)))).drop
  · -- in place
    have hcn : n + 1 ≤ c := by omega
    rcases a with ⟨hl, ⟨rfl, h3, _, _⟩ | ⟨b, rest, rfl, hc, hr, rfl⟩⟩
    · omega
    have a : Sl (tP 85) (some ⟨b, 0, none⟩) n c xs (cA b ((tP 85).cells xs ++ rest) (tP 85).e) := ⟨hl, .inr ⟨b, rest, rfl, hc, hr, rfl⟩⟩
    have e3 : Int.toNat ((i : Int) + ((1 : Nat) : Int)) = i + 1 := by omega
    have e4 : Int.toNat (n : Int) = n := Int.toNat_natCast _
    have e5 : Int.toNat ((n : Int) + ((1 : Nat) : Int)) = n + 1 := by omega
    have e6 : Int.toNat (((n + 1 : Nat) : Nat) : Int) = n + 1 := Int.toNat_natCast _
    simp only [e0, e1, e3, e4, e5, e6, yadh, Nat.sub_zero]
    refine ⟨⟨by omega, by omega⟩, ⟨by omega, by omega, by omega⟩, ⟨by omega, by omega⟩, ⟨by omega, by omega, by omega⟩, ?_⟩
    have es1 : yaai (some ⟨b, 0, none⟩) c (i + 1) (tP 85).sz = some ⟨b, (i + 1) * (tP 85).sz, none⟩ := by rw [yace (by omega), Nat.zero_add]
    rw [show yaai (some ⟨b, 0, none⟩) c (i + 1) 1 = some ⟨b, (i + 1) * (tP 85).sz, none⟩ from es1]
    obtain ⟨i0, z, hi0, hz, hzs, hzc, hbt⟩ := (yafa).info
    have hrl : (tP 85).sz ≤ rest.length := by rw [hr]; calc (tP 85).sz = 1 * (tP 85).sz := (Nat.one_mul _).symm
                                              _ ≤ (c - n) * (tP 85).sz := Nat.mul_le_mul_right _ (by omega)
    have er : rest = rest.take (tP 85).sz ++ rest.drop (tP 85).sz := (List.take_append_drop _ _).symm
    refine yajc yazb (t := 173) (e := 85) (by kernel_rfl) (by kernel_rfl) hi0 (s.to (B := cA bv cs (tP 85).e + (cA b _ _ + F))) ⟨_, rfl, ?_⟩
    refine ⟨⟨by omega, by omega⟩, ⟨by omega, by omega, by omega⟩, ⟨by omega, by omega, by omega⟩, ?_⟩
    -- the elements from i on move by one
    have hdl : ((tP 85).cells (xs.drop i)).length = (n - i) * (tP 85).sz := by rw [(tP 85).cells_len, List.length_drop, hl]
    have hd1l : ((tP 85).cells (xs.drop (i + 1))).length = (n - (i + 1)) * (tP 85).sz := by rw [(tP 85).cells_len, List.length_drop, hl]
    have ht1 : ((tP 85).cells (xs.take (i + 1))).length = (i + 1) * (tP 85).sz := by rw [(tP 85).cells_len, List.length_take]; congr 1; omega
    have s1 : St h0 h (cA b ((tP 85).cells (xs.take (i + 1)) ++ ((tP 85).cells (xs.drop (i + 1)) ++ rest.take (tP 85).sz) ++ rest.drop (tP 85).sz) (tP 85).e + (cA bv cs (tP 85).e + F)) := by
      have e : (tP 85).cells (xs.take (i + 1)) ++ ((tP 85).cells (xs.drop (i + 1)) ++ rest.take (tP 85).sz) ++ rest.drop (tP 85).sz = (tP 85).cells xs ++ rest := by
        rw [List.append_assoc, List.append_assoc, ← er, ← List.append_assoc, ← (tP 85).cells_append, List.take_append_drop]
      rw [e]; exact s
    have rx : RdT (tP 85) h (some ⟨b, 0, none⟩) n xs := a.rd s
    have rs : RdT (tP 85) h (yaai (some ⟨b, 0, none⟩) c i (tP 85).sz) (n - i) (xs.drop i) := rx.sub hi hcap rfl
    refine yagm (j := n - i) yafa s1 rs ht1 (by omega) (by rw [List.length_append, hd1l, List.length_take, Nat.min_eq_left hrl, show n - i = (n - (i + 1)) + 1 by omega, Nat.add_mul, Nat.one_mul]) fun v4 h5 s5 _ => ?_
    refine ⟨⟨by omega, by omega, by omega⟩, ?_⟩
    have es2 : yaai (some ⟨b, 0, none⟩) c i (tP 85).sz = some ⟨b, i * (tP 85).sz, none⟩ := by rw [yace (by omega), Nat.zero_add]
    rw [show yaai (some ⟨b, 0, none⟩) c i 1 = some ⟨b, i * (tP 85).sz, none⟩ from es2]
    have s6 : St h0 h5 (cA b ((tP 85).cells (xs.take i) ++ (tP 85).enc xs[i] ++ ((tP 85).cells (xs.drop i) ++ rest.drop (tP 85).sz)) (tP 85).e + (cA bv cs (tP 85).e + F)) := by
      have e : (tP 85).cells (xs.take i) ++ (tP 85).enc xs[i] ++ ((tP 85).cells (xs.drop i) ++ rest.drop (tP 85).sz) = (tP 85).cells (xs.take (i + 1)) ++ (tP 85).cells (xs.drop i) ++ rest.drop (tP 85).sz := by
        rw [List.take_succ_eq_append_getElem (by omega), (tP 85).cells_append, (tP 85).cells_one]; simp only [List.append_assoc]
      rw [e]; exact s5
    have rv5 : RdT (tP 85) h5 (some ⟨bv, 0, none⟩) 1 [x] := one.rd (s6.to (B := cA bv cs (tP 85).e + (cA b _ _ + F)))
    refine yagm (j := 1) yafa s6 rv5 hti (by omega) (by rw [(tP 85).len, Nat.one_mul]) fun v5 h6 s7 _ => ?_
    refine ⟨_, _, _, rfl, ⟨by simp; omega, .inr ⟨b, rest.drop (tP 85).sz, rfl, hcn, ?_, rfl⟩⟩, ?_⟩
    · rw [List.length_drop, hr, show c - n = (c - (n + 1)) + 1 by omega, Nat.add_mul, Nat.one_mul]; omega
    · rw [(tP 85).cells_one] at s7
      rw [(tP 85).cells_append, (tP 85).cells_cons]
      have e : (tP 85).cells (xs.take i) ++ ((tP 85).enc x ++ (tP 85).cells (xs.drop i)) ++ rest.drop (tP 85).sz = (tP 85).cells (xs.take i) ++ (tP 85).enc x ++ ((tP 85).cells (xs.drop i) ++ rest.drop (tP 85).sz) := by simp only [List.append_assoc]
      rw [e]
      exact s7
end Go.Proofs.YtbhofnaipkkbeaaGreatDoor
