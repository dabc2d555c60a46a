/- Part EX EY of the proof: contracts of functions of the program, and what follows from them. -/
import Derived.Test.YtllhdhpjgihjfaaGreatDoorSxEW
set_option maxRecDepth 100000
namespace Go.Proofs.YtllhdhpjgihjfaaGreatDoor
open Go Go.Sx
def PosP (os : List Int) (t : Nat) (ws : List Int) (n : Nat) : Prop := ∀ j : Nat, j < n → (ws.getD j 0 = 0 ∧ (j : Int) ∉ os.take t) ∨ ∃ u : Nat, u < t ∧ ws.getD j 0 = (u : Int) + 1 ∧ os.getD u 0 = (j : Int)
def dAt (ws : List Int) (n i : Nat) : Nat → Bool := fun j => decide (j < n ∧ 0 < ws.getD j 0 ∧ ws.getD j 0 ≤ (i : Int))
theorem yanc {os : List Int} {u t : Nat} (h : u < t) (ht : t ≤ os.length) : os.getD u 0 ∈ os.take t := by
  rw [yaac (by omega)]
  exact List.mem_take_iff_getElem.2 ⟨u, by omega, rfl⟩
theorem yapw {os : List Int} (hn : os.Nodup) {u i : Nat} (hu : u < os.length) (hi : i < os.length) (h : os.getD u 0 = os.getD i 0) : u = i := by
  rw [yaac hu, yaac hi] at h
  have := List.pairwise_iff_getElem.1 hn
  rcases Nat.lt_trichotomy u i with h1 | h1 | h1
  · exact absurd h (this u i hu hi h1)
  · exact h1
  · exact absurd h.symm (this i u hi hu h1)
theorem yavy {ws : List Int} {n : Nat} : dAt ws n 0 = D0 := by
  funext j
  exact decide_eq_false fun h => by omega
theorem yavg {os ws : List Int} {n i y : Nat} (hp : PosP os os.length ws n) (hn : os.Nodup) (hi : i < os.length) (hy : os.getD i 0 = (y : Int)) (hyn : y < n) : ws.getD y 0 = (i : Int) + 1 := by
  rcases hp y hyn with ⟨_, h⟩ | ⟨u, h1, h2, h3⟩
  · exact absurd (by rw [List.take_length, ← hy]; exact yaal hi) h
  · rw [yapw hn h1 hi (by rw [h3, hy])] at h2
    exact h2
theorem yawq {os ws : List Int} {n i y : Nat} (hp : PosP os os.length ws n) (hn : os.Nodup) (hi : i < os.length) (hy : os.getD i 0 = (y : Int)) (hyn : y < n) : setD (dAt ws n i) y = dAt ws n (i + 1) := by
  have ha := yavg hp hn hi hy hyn
  funext j
  unfold setD dAt
  rw [Bool.eq_iff_iff, Bool.or_eq_true, decide_eq_true_iff, decide_eq_true_iff, decide_eq_true_iff]
  constructor
  · rintro (rfl | ⟨h1, h2, h3⟩)
    · exact ⟨hyn, by omega, by push_cast; omega⟩
    · exact ⟨h1, h2, by push_cast; omega⟩
  · rintro ⟨h1, h2, h3⟩
    push_cast at h3
    by_cases h4 : ws.getD j 0 = (i : Int) + 1
    · rcases hp j h1 with ⟨h5, _⟩ | ⟨u, h5, h6, h7⟩
      · omega
      · obtain rfl : u = i := by omega
        exact .inl (by omega)
    · exact .inr ⟨h1, h2, by omega⟩
theorem yban (n : Nat) : TI.cells (List.replicate n 0) = List.replicate n (.int .i64 0) := by
  induction n with
  | zero => rfl
  | succ n ih => rw [List.replicate_succ, Ty.cells_cons, ih]; rfl
theorem yaoy {ws : List Int} {x j : Nat} {z : Int} (hx : x < ws.length) : (ws.set x z).getD j 0 = if j = x then z else ws.getD j 0 := by
  by_cases h : j = x
  · subst h
    rw [if_pos rfl]
    simp [List.getD, hx]
  · rw [if_neg h]
    simp [List.getD, Ne.symm h]
abbrev FitP (k : Int) (l : List Ev) (rows : Rows) : Prop := OkR k rows ∧ yafa l ∧ KindP k l
section
variable {h : Hp} {p : OA} {n c : Nat} {l : List Ev} {k : Int} {sp : OA} {sn sc : Nat} {rows : Rows}
theorem ybap {q : OA} {m d : Nat} {os : List Int} (r : EvsR h p n l) (sm : Sm l) (rr : RowsR h sp sn rows) (hr : ∀ r ∈ rows, r.length ≤ 1000) (ro : RdT TI h q m os) (hm : m ≤ 1000) :
    yaae Tryz.prog 14 #[.agg #[.int .i64 k, .slice sp sn sc], .slice p n c, .slice q m d] h (fun v h' => (¬ FitP k l rows ∧ v = .tuple #[.bool false, .int .i64 0, .int .i64 1] ∧ Ext h h') ∨ (FitP k l rows ∧ WitP (witR k l os rows) h v h')) := by
  have hl := r.len
  have hol := ro.len
  refine zao_call ?_
  rw [zao_b0, Int.toNat_natCast, Nat.mul_one, yain]
  refine (St.start h).new (cs := [.int .i64 k, .slice sp sn sc]) fun b1 h1 x1 s1 => ⟨_, _, _, _, s1.ld0, s1.ldB, ?_⟩
  refine (yavr yafy (r.ext s1.ext) sm (rr.ext s1.ext) hr).mono fun v h2 ⟨⟨bf, hv, hbf⟩, x2⟩ => ⟨_, hv, yaqb (fun hf => .inl ⟨fun o => (by rw [hbf.2 o] at hf; cases hf), rfl, (s1.grow x2).ext⟩) (fun hy => ?_)⟩
  have hfit := hbf.1 hy
  have s1 := s1.grow x2
  have key : ∀ v h', WitP (witR k l os rows) h v h' → (fun v h' => (¬ FitP k l rows ∧ v = .tuple #[.bool false, .int .i64 0, .int .i64 1] ∧ Ext h h') ∨ (FitP k l rows ∧ WitP (witR k l os rows) h v h')) v h' := fun v h' w => .inr ⟨hfit, w⟩
  generalize (fun v h' => (¬ FitP k l rows ∧ v = Value.tuple #[.bool false, .int .i64 0, .int .i64 1] ∧ Ext h h') ∨ (FitP k l rows ∧ WitP (witR k l os rows) h v h')) = K at key ⊢
  obtain ⟨ok, ⟨_, _, hn, o1, _⟩, hk⟩ := hfit
  refine ⟨⟨by omega, by omega, by omega, by omega⟩, ?_⟩
  rw [← yban]
  refine s1.new fun b2 h3 _ s3 => ?_
  have oD : Sl TI (some ⟨b2, 0, none⟩) n n (List.replicate n 0) (cA b2 (TI.cells (List.replicate n 0)) 3) := Sl.of_blk (by simp) rfl
  refine ⟨fun x h' => ∃ i : Nat, x.1 = (i : Int) ∧ i ≤ m ∧ h' = h3 ∧ ∀ o ∈ os.take i, 0 ≤ o ∧ o < (l.length : Int), fun x _ => m - x.1.toNat, ⟨0, rfl, by omega, rfl, by simp⟩, ?_⟩
  rintro ⟨_, _⟩ _ ⟨i, rfl, hi, rfl, i1⟩
  dsimp only
  rw [zao_b1]
  refine condP (fun hlt => ?_) (fun hge => ?_)
  · have hmem : os.getD i 0 ∈ os := yaal (by omega)
    refine ldI (ro.ext s3.ext) rfl (by omega) (condP (fun hneg => key _ _ (WitP.of (yama ⟨_, hmem, .inl hneg⟩) s3.ext)) (fun hnn => condP (fun hbig => key _ _ (WitP.of (yama ⟨_, hmem, .inr (by omega)⟩) s3.ext)) (fun hok => ?_)))
    rw [zao_b2]
    refine ⟨⟨by omega, by omega⟩, ⟨i + 1, by push_cast; rfl, by omega, rfl, fun o ho => ?_⟩, by simp only; omega⟩
    rw [yadt (by omega)] at ho
    rcases List.mem_append.1 ho with ho | ho
    · exact i1 o ho
    · rw [List.mem_singleton.1 ho]; omega
  obtain rfl : i = m := by omega
  rw [List.take_of_length_le (by omega)] at i1
  clear hge hi
  rw [zao_b3]
  refine ⟨fun x h' => ∃ (t : Nat) (ws : List Int) (D : Bag), x.1 = (t : Int) ∧ t ≤ i ∧ Sl TI (some ⟨b2, 0, none⟩) n n ws D ∧ St h h' (D + (cA b1 [.int .i64 k, .slice sp sn sc] 24 + 0)) ∧ (os.take t).Nodup ∧ PosP os t ws n, fun x _ => i - x.1.toNat, ⟨0, _, _, rfl, by omega, oD, s3, by simp, fun j hj => .inl ⟨by simp [List.getD, hj], by simp⟩⟩, ?_⟩
  clear s3 oD
  rintro ⟨_, _⟩ h3 ⟨t, ws, D, rfl, ht, oD, s3, hnd, hps⟩
  dsimp only
  have hwl := oD.len
  rw [zao_b4]
  refine condP (fun hlt => ?_) (fun hge => ?_)
  · have hmem : os.getD t 0 ∈ os := yaal (by omega)
    have hin := i1 _ hmem
    obtain ⟨y, hy⟩ : ∃ y : Nat, os.getD t 0 = (y : Int) := ⟨(os.getD t 0).toNat, by omega⟩
    have hyn : y < n := by omega
    refine ldI (ro.ext s3.ext) rfl (by omega) ?_
    rw [hy]
    refine ldI (oD.rd s3) rfl hyn (condP (fun hpos => ?_) (fun hno => ⟨⟨by omega, by omega⟩, ?_⟩))
    · refine key _ _ (WitP.of (yani i1 (yann (i := t) (by omega) ?_)) s3.ext)
      rcases hps y hyn with ⟨h1, _⟩ | ⟨u, h1, h2, h3⟩
      · omega
      · rw [hy, ← h3]
        exact yanc h1 (by omega)
    · refine Sl.wrI oD s3 (by omega) (by omega) rfl (x := (t : Int) + 1) rfl fun h4 D4 o4 s4 => ?_
      rw [Int.toNat_natCast] at o4
      have hny : (y : Int) ∉ os.take t := by
        rcases hps y hyn with ⟨_, h1⟩ | ⟨u, h1, h2, h3⟩
        · exact h1
        · omega
      rw [zao_b5]
      refine ⟨⟨by omega, by omega⟩, ⟨t + 1, _, D4, by push_cast; rfl, by omega, o4, s4, yakf (by omega) hnd (by rw [hy]; exact hny), fun j hj => ?_⟩, by simp only; omega⟩
      rw [yaoy (by omega), yadt (by omega), hy]
      by_cases h : j = y
      · exact .inr ⟨t, by omega, if_pos h, by rw [hy, h]⟩
      · rw [if_neg h]
        rcases hps j hj with ⟨h1, h2⟩ | ⟨u, h1, h2⟩
        · exact .inl ⟨h1, fun hc => (List.mem_append.1 hc).elim h2 fun hc => h (by have := List.mem_singleton.1 hc; omega)⟩
        · exact .inr ⟨u, by omega, h2⟩
  obtain rfl : t = i := by omega
  rw [List.take_of_length_le (by omega)] at hnd
  clear hge ht
  rw [← hol] at hps
  rw [zao_b6]
  rw [yavc i1 hnd] at key
  obtain ⟨W, hW⟩ : ∃ W, wit k l os D0 rows 0 = W := ⟨_, rfl⟩
  rw [hW] at key
  refine ⟨fun x h' => ∃ (i : Nat) (B : Bag) (sp : OA) (sn sc : Nat) (rs : Rows), x.1 = (i : Int) ∧ i ≤ t ∧ RowsX h (sp, sn, sc) rs B ∧ OkR k rs ∧ St h h' (D + (B + (cA b1 [.int .i64 k, .slice sp sn sc] 24 + 0))) ∧ wit k l (os.drop i) (dAt ws n i) rs (i : Int) = W, fun x _ => t - x.1.toNat,
    ⟨0, 0, sp, sn, sc, rows, rfl, by omega, .inr ⟨rfl, rr⟩, ok, by rw [Bag.zero_add]; exact s3, by rw [yavy]; exact hW⟩, ?_⟩
  clear s3 rr ok hW
  rintro ⟨_, _⟩ h5 ⟨i, B, sp, sn, sc, rs, rfl, hi, rx, ok, s5, hW⟩
  dsimp only
  rw [zao_b7]
  refine condP (fun hlt => ?_) (fun hge => ?_)
  rotate_left
  · obtain rfl : i = t := by omega
    rw [List.drop_of_length_le (by omega)] at hW
    rw [zao_b9]
    refine ⟨fun x h' => ∃ j : Nat, x.1 = (j : Int) ∧ j ≤ n ∧ (∀ t, t < j → 0 ≤ (l.getD t dEv).t.en → dAt ws n i t = true) ∧ St h h' (D + (B + (cA b1 [.int .i64 k, .slice sp sn sc] 24 + 0))), fun x _ => n - x.1.toNat, ⟨0, rfl, by omega, fun t ht => absurd ht (by omega), s5⟩, ?_⟩
    clear s5
    rintro ⟨_, _⟩ h6 ⟨j, rfl, hj, i2, s6⟩
    dsimp only
    rw [zao_b12]
    refine condP (fun hlt => ?_) (fun hge => ?_)
    rotate_left
    · rw [zao_b15]
      have : W = (true, -1) := by
        rw [← hW]
        exact if_pos fun t ht he => i2 t (by omega) he
      exact key _ _ (WitP.of (by rw [this]) s6.ext)
    · have hjn : j < n := by omega
      have nx : ∀ {h7 : Hp}, St h h7 (D + (B + (cA b1 [.int .i64 k, .slice sp sn sc] 24 + 0))) → (0 ≤ (l.getD j dEv).t.en → dAt ws n i j = true) → zao_b14 q i d (some ⟨b2, 0, none⟩) n n p n c (n : Int) (j : Int) h7 (fun s' h' => (∃ j : Nat, s'.1 = (j : Int) ∧ j ≤ n ∧ (∀ t, t < j → 0 ≤ (l.getD t dEv).t.en → dAt ws n i t = true) ∧ St h h' (D + (B + (cA b1 [.int .i64 k, .slice sp sn sc] 24 + 0)))) ∧ n - s'.1.toNat < n - ((j : Nat) : Int).toNat) K := fun s7 hd => by
        rw [zao_b14]
        refine ⟨⟨by omega, by omega⟩, ⟨j + 1, by push_cast; rfl, by omega, fun t ht he => ?_, s7⟩, by simp only; omega⟩
        rcases Nat.lt_or_ge t j with h | h
        · exact i2 t h he
        · obtain rfl : t = j := by omega
          exact hd he
      refine (r.ext s6.ext).cp s6 rfl hjn fun b3 h7 _ s7 => ldEvB s7.blk ((yacv _ _).mono fun v h8 ⟨hv, x8⟩ => ⟨_, hv, ?_⟩)
      have s8 := (s7.grow x8).drop
      refine condP (fun he => ldI (oD.rd s8) rfl hjn (condP (fun hz => ?_) (fun hnz => nx s8 fun _ => ?_))) (fun hne => nx s8 fun he => absurd he hne)
      · have : W = (false, (i : Int)) := by
          rw [← hW]
          refine if_neg fun h => ?_
          have := of_decide_eq_true (h j (by omega) he)
          omega
        exact key _ _ (WitP.of (by rw [this]) s8.ext)
      · refine decide_eq_true ⟨hjn, ?_⟩
        rcases hps j hjn with ⟨h1, _⟩ | ⟨u, h1, h2, _⟩
        · exact absurd h1 hnz
        · omega
  have hin := i1 _ (yaal (l := os) (i := i) (d := 0) (by omega))
  obtain ⟨y, hy⟩ : ∃ y : Nat, os.getD i 0 = (y : Int) := ⟨(os.getD i 0).toNat, by omega⟩
  have hyn : y < n := by omega
  have hay := yavg hps hnd (by omega) hy hyn
  rw [yano (by omega), hy] at hW
  refine ldI (ro.ext s5.ext) rfl (by omega) ?_
  rw [hy]
  generalize hnx : (fun (s' : Int × Unit) (h' : Hp) => (∃ (i : Nat) (B : Bag) (sp : OA) (sn sc : Nat) (rs : Rows), s'.1 = (i : Int) ∧ i ≤ t ∧ RowsX h (sp, sn, sc) rs B ∧ OkR k rs ∧ St h h' (D + (B + (cA b1 [.int .i64 k, .slice sp sn sc] 24 + 0))) ∧ wit k l (os.drop i) (dAt ws n i) rs (i : Int) = W) ∧ t - s'.1.toNat < t - ((i : Nat) : Int).toNat) = nx
  refine ⟨fun x h' => ∃ j : Nat, x.1 = (j : Int) ∧ j ≤ n ∧ (∀ t, t < j → dAt ws n i t = false → ¬ prec (l.getD t dEv) (l.getD y dEv)) ∧ St h h' (D + (B + (cA b1 [.int .i64 k, .slice sp sn sc] 24 + 0))), fun x _ => n - x.1.toNat, ⟨0, rfl, by omega, fun t ht => absurd ht (by omega), s5⟩, ?_⟩
  clear s5
  rintro ⟨_, _⟩ h6 ⟨j, rfl, hj, i2, s6⟩
  dsimp only
  rw [zao_b8]
  refine condP (fun hlt => ?_) (fun hge => ?_)
  · have hjn : j < n := by omega
    have nx1 : ∀ {h7 : Hp}, St h h7 (D + (B + (cA b1 [.int .i64 k, .slice sp sn sc] 24 + 0))) → (dAt ws n i j = false → ¬ prec (l.getD j dEv) (l.getD y dEv)) → zao_b10 p n c q t d (some ⟨b1, 0, none⟩) (some ⟨b2, 0, none⟩) n n (i : Int) (y : Int) q t d (t : Int) (i : Int) p n c (n : Int) (j : Int) h7 nx (fun s' h' => (∃ j : Nat, s'.1 = (j : Int) ∧ j ≤ n ∧ (∀ t, t < j → dAt ws n i t = false → ¬ prec (l.getD t dEv) (l.getD y dEv)) ∧ St h h' (D + (B + (cA b1 [.int .i64 k, .slice sp sn sc] 24 + 0)))) ∧ n - s'.1.toNat < n - ((j : Nat) : Int).toNat) K := fun s7 hd => by
      rw [zao_b10]
      refine ⟨⟨by omega, by omega⟩, ⟨j + 1, by push_cast; rfl, by omega, fun t ht he => ?_, s7⟩, by simp only; omega⟩
      rcases Nat.lt_or_ge t j with h | h
      · exact i2 t h he
      · obtain rfl : t = j := by omega
        exact hd he
    refine (r.ext s6.ext).cp s6 rfl hjn fun b3 h7 _ s7 => ldEvB s7.blk ((r.ext s7.ext).ld rfl hyn ((yaez _ _ _).mono fun v h8 ⟨hv, x8⟩ => ⟨_, hv, ?_⟩))
    have s8 := (s7.grow x8).drop
    have bad : precT (l.getD j dEv).t (l.getD y dEv).t → dAt ws n i j = false → ∀ {h9 : Hp}, Ext h h9 → K (.tuple #[.bool false, .int .i64 (i : Int), .int .i64 0]) h9 := fun hp hd {h9} x9 => by
      rw [ybar (fun h => h.2 j (by omega) hd hp)] at hW
      exact key _ _ (WitP.of (by rw [← hW]) x9)
    refine condP (fun hp => ldI (oD.rd s8) rfl hjn (condP (fun hz => bad hp (decide_eq_false fun h => by omega) s8.ext) (fun hnz => ldI (oD.rd s8) rfl hjn (condP (fun hlt => bad hp (decide_eq_false fun h => by omega) s8.ext) (fun hge => nx1 s8 fun hd => ?_))))) (fun hnp => nx1 s8 fun _ => hnp)
    have h0 : 0 < ws.getD j 0 := by
      rcases hps j hjn with ⟨h1, _⟩ | ⟨u, h1, h2, _⟩
      · exact absurd h1 hnz
      · omega
    exact absurd ⟨hjn, h0, by omega⟩ (of_decide_eq_false hd)
  obtain rfl : j = n := by omega
  have hnxt : Nxt l (dAt ws j i) y := ⟨decide_eq_false fun h => by omega, fun t ht hd => i2 t (by omega) hd⟩
  clear i2 hge hj
  obtain ⟨ad, hp, hcell⟩ := (r.ext s6.ext).1.at_ (i := y) hyn
  rw [yahq (by omega)] at hcell
  have em := (r.ext s6.ext).at_ hyn
  have hov : OpV k (l.getD y dEv).t.co (l.getD y dEv).zs := hk _ (yaal (by omega))
  have hsz := sm _ (yaal (l := l) (i := y) (d := dEv) (by omega))
  have cX1 : cell h6 (⟨b1, 0, none⟩ : Addr) = some (.int .i64 k) := s6.ld0
  have cX2 : cell h6 ((⟨b1, 0, none⟩ : Addr).add 1) = some (.slice sp sn sc) := s6.ldB
  have cO1 : cell h6 ((ad.add (Int.toNat (y : Int) * 8)).add 1) = some (.int .i64 (l.getD y dEv).t.co) := hcell 1 (by decide)
  have cO2 : cell h6 (((ad.add (Int.toNat (y : Int) * 8)).add 1).add 1) = some (.slice (l.getD y dEv).t.ar.1 (l.getD y dEv).t.ar.2.1 (l.getD y dEv).t.ar.2.2) := by have := hcell 2 (by decide); simpa [yach] using this
  have cR3 : cell h6 ((ad.add (Int.toNat (y : Int) * 8)).add 3) = some (.int .i64 (l.getD y dEv).t.er) := hcell 3 (by decide)
  have cR4 : cell h6 (((ad.add (Int.toNat (y : Int) * 8)).add 3).add 1) = some (.int .i64 (l.getD y dEv).t.nu) := by have := hcell 4 (by decide); simpa [yach] using this
  have cR5 : cell h6 (((ad.add (Int.toNat (y : Int) * 8)).add 3).add 2) = some (.slice (l.getD y dEv).t.li.1 (l.getD y dEv).t.li.2.1 (l.getD y dEv).t.li.2.2) := by have := hcell 5 (by decide); simpa [yach] using this
  clear hcell
  obtain ⟨R, hR⟩ : ∃ R, stepR k rs (l.getD y dEv).t.co (l.getD y dEv).zs = R := ⟨_, rfl⟩
  have hzl := em.1.1.len
  have k3 : RowsR h6 sp sn rs := rx.r (s6.to (B := B + (D + (cA b1 [.int .i64 k, .slice sp sn sc] 24 + 0))))
  have stp : ∀ {h' : Hp}, Ext h6 h' → yaae Tryz.prog 46 #[.agg #[.int .i64 k, .slice sp sn sc], .agg #[.int .i64 (l.getD y dEv).t.co, .slice (l.getD y dEv).t.ar.1 (l.getD y dEv).t.ar.2.1 (l.getD y dEv).t.ar.2.2]] h' (yanl h' 0 k R.1 R.2.1 R.2.2) := fun x => by
    have := yarr (cc := (l.getD y dEv).t.ar.2.2) (c := sc) ok hov (k3.ext x) (em.1.1.ext x) em.1.2 (by omega)
    rwa [hR] at this
  have fin16 : ∀ {h' : Hp} {bt br : Nat} {q2 : OA} {m2 d2 : Nat} {B' : Bag}, RowsA (q2, m2, d2) R.1 B' → St h6 h' (cA bt [.int .i64 k, .slice q2 m2 d2] 24 + (cA br [.int .i64 R.2.1, .int .i64 R.2.2, .slice none 0 0] 58 + B')) → stepE k rs (l.getD y dEv) = some R.1 →
      zao_b16 p j c q t d (some ⟨b1, 0, none⟩) (some ⟨b2, 0, none⟩) j j (some ⟨bt, 0, none⟩) q t d (t : Int) (i : Int) h' nx K := fun {h' bt br q2 m2 d2 B'} na s' hst => by
    have s7 := (s6.join s').to (B := cA bt [.int .i64 k, .slice q2 m2 d2] 24 + (cA br [.int .i64 R.2.1, .int .i64 R.2.2, .slice none 0 0] 58 + (B' + (B + D)) + (cA b1 [.int .i64 k, .slice sp sn sc] 24 + 0)))
    rw [zao_b16]
    refine yaap rfl ⟨_, _, _, _, s7.ld0, s7.ldB, yaap rfl (s7.wr0 fun h8 s8 => s8.wrB fun h9 s9 => ?_)⟩
    have s9 : St h h9 ((cA bt [.int .i64 k, .slice q2 m2 d2] 24 + (cA br [.int .i64 R.2.1, .int .i64 R.2.2, .slice none 0 0] 58 + B)) + (D + (B' + (cA b1 [.int .i64 k, .slice q2 m2 d2] 24 + 0)))) := s9.to
    rw [zao_b17, ← hnx]
    refine ⟨⟨by omega, by omega⟩, ⟨i + 1, B', q2, m2, d2, R.1, by push_cast; rfl, by omega, .inl na, yanh ok hov hst, s9.drop, ?_⟩, by simp only; omega⟩
    rw [← yawq hps hnd (by omega) hy hyn, ← hW, yapc hnxt hst]
    push_cast
    rfl
  have fin13 : ∀ {h' : Hp} {bt br : Nat} {q2 : OA} {m2 d2 : Nat} {B' : Bag}, RowsA (q2, m2, d2) R.1 B' → St h6 h' (cA bt [.int .i64 k, .slice q2 m2 d2] 24 + (cA br [.int .i64 R.2.1, .int .i64 R.2.2, .slice none 0 0] 58 + B')) →
      zao_b13 p j c q t d (some ⟨b1, 0, none⟩) (some ⟨b2, 0, none⟩) j j (i : Int) (y : Int) (some ⟨bt, 0, none⟩) (some ⟨br, 0, none⟩) 0 q t d (t : Int) (i : Int) h' nx K := fun {h' bt br q2 m2 d2 B'} na s' => by
    rw [zao_b13]
    have x := s6.ext.trans s'.ext
    refine yaat rfl ((r.ext x).ld rfl hyn ((yacv _ _).mono fun v h7 ⟨hv, x7⟩ => ⟨_, hv, condP (fun he => ?_) (fun he => fin16 na (s'.grow x7) (by unfold stepE; rw [if_neg (fun h => he h.1), hR]))⟩))
    have s' := s'.grow x7
    refine yaap rfl ⟨_, _, _, _, _, s'.ld0, s'.ldB, s'.ldB, ⟨by omega, by omega⟩, yaap hp ⟨_, _, _, _, _, s'.ext.cell cR3, s'.ext.cell cR4, s'.ext.cell cR5, ?_⟩⟩
    refine (yalg (RdT.nil _ none) (em.2.1.ext s'.ext) (Nat.zero_le _)).mono fun v h8 ⟨hv, x8⟩ => ⟨_, hv, condN (fun hne => ?_) (fun heq => fin16 na (s'.grow x8) ?_)⟩
    · rw [yaoz hnxt (by
        unfold stepE
        rw [hR]
        exact if_pos ⟨he, fun h => hne ⟨h.1, h.2.1, h.2.2.symm⟩⟩)] at hW
      exact key _ _ (WitP.of (by rw [← hW]) (s6.ext.trans (s'.ext.trans x8)))
    · unfold stepE
      rw [hR]
      exact if_neg fun h => h.2 ⟨heq.1, heq.2.1, heq.2.2.symm⟩
  have fin : ∀ {h' : Hp} {bt br : Nat} {q2 : OA} {m2 d2 : Nat} {B' : Bag}, RowsA (q2, m2, d2) R.1 B' → St h6 h' (cA bt [.int .i64 0, .slice none 0 0] 24 + (cA br [.int .i64 0, .int .i64 0, .slice none 0 0] 58 + B')) →
      Wr h' ⟨bt, 0, none⟩ (.int .i64 k) fun h1 => Wr h1 ((⟨bt, 0, none⟩ : Addr).add 1) (.slice q2 m2 d2) fun h2 => Wr h2 ⟨br, 0, none⟩ (.int .i64 R.2.1) fun h3 => Wr h3 ((⟨br, 0, none⟩ : Addr).add 1) (.int .i64 R.2.2) fun h4 => Wr h4 ((⟨br, 0, none⟩ : Addr).add 2) (.slice none 0 0) fun h5 =>
        zao_b13 p j c q t d (some ⟨b1, 0, none⟩) (some ⟨b2, 0, none⟩) j j (i : Int) (y : Int) (some ⟨bt, 0, none⟩) (some ⟨br, 0, none⟩) 0 q t d (t : Int) (i : Int) h5 nx K := fun {h' bt br q2 m2 d2 B'} na s' =>
    s'.wr0 fun g1 t1 => t1.wrB fun g2 t2 => t2.wr0 fun g3 t3 => t3.wrB fun g4 t4 => t4.wrB fun g5 t5 => fin13 na t5.to
  rw [zao_b11]
  refine yaap rfl ⟨_, _, _, _, cX1, cX2, ⟨by omega, by omega⟩, yaap hp ⟨_, _, _, _, cO1, cO2, ?_⟩⟩
  clear s6
  have s := St.start h6
  repeat' first
    | (with_reducible refine fin na2 ?_); exact s.to
    | (with_reducible refine St.new s (cs := [.int .i64 0, .int .i64 0, .slice none 0 0]) ?_); intro _ _ _ s
    | (with_reducible refine St.new s (cs := [.int .i64 0, .slice none 0 0]) ?_); intro _ _ _ s
    | (with_reducible refine yaae.mono (stp s.ext) ?_); rintro _ _ ⟨q2, m2, d2, B2, hv2, na2, tt⟩; refine ⟨_, _, _, _, _, _, _, _, _, _, hv2, ?_⟩; have s := s.join tt; clear tt
    | with_reducible refine ⟨⟨_, _, _, _, s.ext.cell cO1, s.ext.cell cO2, rfl⟩, ?_⟩
    | with_reducible refine ⟨yaap rfl ⟨_, _, _, _, s.ext.cell cX1, s.ext.cell cX2, rfl⟩, ?_⟩
    | with_reducible refine ⟨?_, ?_⟩
end
section
variable {h : Hp} {p : OA} {n c : Nat} {l : List Ev} {k : Int} {sp : OA} {sn sc : Nat} {rows : Rows}
theorem ybau : OkR k rows ∧ HistK k l ↔ FitP k l rows := by
  constructor
  · rintro ⟨ok, hh⟩
    exact ⟨ok, ⟨k, yakt ok, hh⟩, hh.2.2.2⟩
  · rintro ⟨ok, ⟨_, _, h1, h2, h3, _⟩, h4⟩
    exact ⟨ok, h1, h2, h3, h4⟩
theorem yals (r : EvsR h p n l) (sm : Sm l) (rr : RowsR h sp sn rows) (hr : ∀ r ∈ rows, r.length ≤ 1000) :
    yaae Tryz.prog 11 #[.agg #[.int .i64 k, .slice sp sn sc], .slice p n c] h (VP (FitP k l rows) h) := by
  refine zaj_call ?_
  rw [zaj_b0]
  refine (St.start h).new (cs := [.int .i64 k, .slice sp sn sc]) fun b1 h1 _ s => ⟨_, _, _, _, s.ld0, s.ldB, ?_⟩
  refine (yasw (rr.ext s.ext) hr).mono fun v h2 ⟨⟨b2, hv2, hb2⟩, x2⟩ => ⟨_, hv2, ?_⟩
  have s2 := s.grow x2
  refine yaar (fun hy => ⟨_, s2.ld0, ?_⟩) (fun hno => VP.no (fun o => by rw [hb2.2 o.1] at hno; cases hno) s2.ext)
  refine (yaok (r.ext s2.ext) sm).mono fun v h3 ⟨⟨b3, hv3, hb3⟩, x3⟩ => ⟨_, hv3, ⟨_, rfl, ?_⟩, (s2.grow x3).ext⟩
  rw [hb3, ← ybau]
  exact ⟨fun o => ⟨hb2.1 hy, o⟩, fun o => o.2⟩
theorem yanx {q : OA} {m d : Nat} {os : List Int} (aw : yazg h) (r : EvsR h p n l) (rr : RowsR h sp sn rows) (ro : RdT TI h q m os) :
    yaae Tryz.prog 4 #[.agg #[.int .i64 k, .slice sp sn sc], .slice p n c, .slice q m d] h (TrueP h) := by
  have hl := r.len
  refine zae_call ?_
  rw [zae_b0]
  refine (St.start h).new (cs := [.int .i64 k, .slice sp sn sc]) fun b1 h1 _ s1 => ?_
  have awk : ∀ {h' : Hp}, Ext h h' → yaae Tryz.prog 7 #[] h' (fun v h' => ∃ r : Bool, v = .bool r ∧ TrueP h (.bool r) h') := fun x => (aw _ x).mono fun v h2 ⟨hv, x2⟩ => ⟨_, hv, rfl, x.trans x2⟩
  refine (aw h1 s1.ext).mono fun v h2 ⟨hv, x2⟩ => ⟨_, hv, yaat rfl ?_⟩
  have s2 := s1.grow x2
  refine ⟨_, _, _, _, s2.ld0, s2.ldB, (ybbx (r.ext s2.ext) (rr.ext s2.ext)).mono fun v h3 ⟨⟨bf, hv, hbf⟩, x3⟩ => ⟨_, hv, ?_⟩⟩
  have s3 := s2.grow x3
  refine yaqb (fun _ => awk s3.ext) (fun hy => condP (fun _ => awk s3.ext) (fun h30 => ?_))
  obtain ⟨h12, sm, hr20, hr40⟩ := hbf.1 hy
  have hr : ∀ r ∈ rows, r.length ≤ 1000 := fun w hw => by have := hr40 w hw; omega
  rw [zae_b1]
  refine yaap rfl ⟨_, _, _, _, s3.ld0, s3.ldB, (ybap (r.ext s3.ext) sm (rr.ext s3.ext) hr (ro.ext s3.ext) (by omega)).mono fun v h4 hw => ?_⟩
  rcases hw with ⟨hno, hv, x4⟩ | ⟨hf, hv, x4⟩
  · have s4 := s3.grow x4
    refine ⟨_, _, _, hv, yaap rfl ⟨_, _, _, _, s4.ld0, s4.ldB, (yals (k := k) (sc := sc) (c := c) (r.ext s4.ext) sm (rr.ext s4.ext) hr).mono fun v h5 ⟨⟨bv, hv, hbv⟩, x5⟩ => ⟨_, hv, ?_⟩⟩⟩
    have : bv = false := by
      cases bv with
      | false => rfl
      | true => exact absurd (hbv.1 rfl) hno
    subst this
    exact yaaw rfl (yaaw rfl (yaaw rfl ⟨rfl, (s4.grow x5).ext⟩))
  · have s4 := s3.grow x4
    refine ⟨_, _, _, hv, yaap rfl ⟨_, _, _, _, s4.ld0, s4.ldB, (yals (k := k) (sc := sc) (c := c) (r.ext s4.ext) sm (rr.ext s4.ext) hr).mono fun v h5 ⟨⟨bv, hv, hbv⟩, x5⟩ => ⟨_, hv, ?_⟩⟩⟩
    have : bv = true := hbv.2 hf
    subst this
    have s5 := s4.grow x5
    obtain ⟨ok, ⟨_, _, hn, o1, _⟩, hk⟩ := hf
    refine yaat rfl (yaap rfl ⟨_, _, _, _, s5.ld0, s5.ldB, (yayq (r.ext s5.ext) o1 (by omega) sm hk ok (rr.ext s5.ext) (ro.ext s5.ext) (by omega)).mono fun v h6 ⟨hv, x6⟩ => ⟨_, _, _, hv, yaaw (by simp) (yaaw (decide_eq_true rfl) ⟨by rw [decide_eq_true rfl], (s5.grow x6).ext⟩)⟩⟩)
end
end Go.Proofs.YtllhdhpjgihjfaaGreatDoor
