/- The law Back. -/
import Derived.Test.YtdlkohenamlnaaaGreatSxFB5
import Derived.Test.YtdlkohenamlnaaaGreatSxP36
set_option maxRecDepth 100000
namespace Go.Proofs.YtdlkohenamlnaaaGreat
open Go Go.Sx
section
variable {h h1 : Hp} {b1 bq qb bk bt bb : Nat} {k t y u : Int} {xp : Option Addr} {xn xc : Nat} {p1 p2 p3 : Option Addr} {d1 d2 d3 : Nat} {l0 : List Ev} {K1 K2 K3 A : Bag}
  (g0 : GoodQ l0) (o1 : Sl TI p1 (nowD l0 l0.length).length d1 (keysL (nowD l0 l0.length)) K1) (o2 : Sl TI p2 l0.length d2 (l0.map Prod.fst) K2) (o3 : Sl TI p3 (brS l0).length d3 (brS l0) K3)
include g0 o1 o2 o3
/-- The queue is as it was. -/
theorem same35_ok (qa : QueueA qb l0 A) (s : St h h1 (A + (cA bk [.slice p1 (nowD l0 l0.length).length d1] 23 + (cA bt [.slice p2 l0.length d2] 23 + (cA bb [.slice p3 (brS l0).length d3] 23 + (K1 + (K2 + (K3 + (cA bq [ptr qb] 31 + (cA b1 [.int .i64 k, .int .i64 t, .int .i64 y, .int .i64 u, .slice xp xn xc] 27 + (0))))))))))) :
    HCalls Tryz.prog 28 #[.pointer (some ⟨bq, 0, none⟩), .pointer (some ⟨bk, 0, none⟩), .pointer (some ⟨bt, 0, none⟩), .pointer (some ⟨bb, 0, none⟩)] h1 (fun v h' => v = .bool true ∧ Ext h h') := by
  have hl := g0.len
  have hnl := (nowAt_inv g0.ok).2.1
  have hbl : (brS l0).length ≤ l0.length := brP_len
  have cq := (s.to (B := cA bq [ptr qb] 31 + (A + (cA bk [.slice p1 (nowD l0 l0.length).length d1] 23 + (cA bt [.slice p2 l0.length d2] 23 + (cA bb [.slice p3 (brS l0).length d3] 23 + (K1 + (K2 + (K3 + (cA b1 [.int .i64 k, .int .i64 t, .int .i64 y, .int .i64 u, .slice xp xn xc] 27 + (0))))))))))).blk.cell 0
  have ck := (s.to (B := cA bk [.slice p1 (nowD l0 l0.length).length d1] 23 + (A + (cA bt [.slice p2 l0.length d2] 23 + (cA bb [.slice p3 (brS l0).length d3] 23 + (K1 + (K2 + (K3 + (cA bq [ptr qb] 31 + (cA b1 [.int .i64 k, .int .i64 t, .int .i64 y, .int .i64 u, .slice xp xn xc] 27 + (0))))))))))).blk.cell 0
  have ct := (s.to (B := cA bt [.slice p2 l0.length d2] 23 + (A + (cA bk [.slice p1 (nowD l0 l0.length).length d1] 23 + (cA bb [.slice p3 (brS l0).length d3] 23 + (K1 + (K2 + (K3 + (cA bq [ptr qb] 31 + (cA b1 [.int .i64 k, .int .i64 t, .int .i64 y, .int .i64 u, .slice xp xn xc] 27 + (0))))))))))).blk.cell 0
  have cb := (s.to (B := cA bb [.slice p3 (brS l0).length d3] 23 + (A + (cA bk [.slice p1 (nowD l0 l0.length).length d1] 23 + (cA bt [.slice p2 l0.length d2] 23 + (K1 + (K2 + (K3 + (cA bq [ptr qb] 31 + (cA b1 [.int .i64 k, .int .i64 t, .int .i64 y, .int .i64 u, .slice xp xn xc] 27 + (0))))))))))).blk.cell 0
  have r1 := o1.rd (s.to (B := K1 + (A + (cA bk [.slice p1 (nowD l0 l0.length).length d1] 23 + (cA bt [.slice p2 l0.length d2] 23 + (cA bb [.slice p3 (brS l0).length d3] 23 + (K2 + (K3 + (cA bq [ptr qb] 31 + (cA b1 [.int .i64 k, .int .i64 t, .int .i64 y, .int .i64 u, .slice xp xn xc] 27 + (0)))))))))))
  have r2 := o2.rd (s.to (B := K2 + (A + (cA bk [.slice p1 (nowD l0 l0.length).length d1] 23 + (cA bt [.slice p2 l0.length d2] 23 + (cA bb [.slice p3 (brS l0).length d3] 23 + (K1 + (K3 + (cA bq [ptr qb] 31 + (cA b1 [.int .i64 k, .int .i64 t, .int .i64 y, .int .i64 u, .slice xp xn xc] 27 + (0)))))))))))
  have r3 := o3.rd (s.to (B := K3 + (A + (cA bk [.slice p1 (nowD l0 l0.length).length d1] 23 + (cA bt [.slice p2 l0.length d2] 23 + (cA bb [.slice p3 (brS l0).length d3] 23 + (K1 + (K2 + (cA bq [ptr qb] 31 + (cA b1 [.int .i64 k, .int .i64 t, .int .i64 y, .int .i64 u, .slice xp xn xc] 27 + (0)))))))))))
  refine l35_PartialretroBack_c1_call ?_
  rw [l35_PartialretroBack_c1_b0_eq]
  refine ⟨_, cq, _, _, _, ck, ?_⟩
  refine (qkeys_ok qa hl s).mono fun v2 h2 ⟨q2, e2, B2, hv2, f2, t2⟩ => ⟨_, _, _, hv2, ⟨_, _, _, t2.ext.cell ck, rfl⟩, ?_⟩
  have s2 := s.join t2
  refine (eqI_ok (f2.rd (t2.to (B := B2 + 0))) (r1.ext t2.ext) (by omega)).mono fun v3 h3 ⟨hh3, hv3⟩ => ⟨_, hv3, condYes (decide_eq_true rfl) ?_⟩
  subst hh3
  refine ⟨_, t2.ext.cell cq, _, _, _, t2.ext.cell ct, ?_⟩
  have s2 := s2.to (B := A + (B2 + (cA bk [.slice p1 (nowD l0 l0.length).length d1] 23 + (cA bt [.slice p2 l0.length d2] 23 + (cA bb [.slice p3 (brS l0).length d3] 23 + (K1 + (K2 + (K3 + (cA bq [ptr qb] 31 + (cA b1 [.int .i64 k, .int .i64 t, .int .i64 y, .int .i64 u, .slice xp xn xc] 27 + (0)))))))))))
  refine (qtimes_ok qa hl s2).mono fun v4 h4 ⟨q4, e4, B4, hv4, f4, t4⟩ => ⟨_, _, _, hv4, ⟨_, _, _, (t2.ext.trans t4.ext).cell ct, rfl⟩, ?_⟩
  refine (eqI_ok (f4.rd (t4.to (B := B4 + 0))) (r2.ext (t2.ext.trans t4.ext)) (by omega)).mono fun v5 h5 ⟨hh5, hv5⟩ => ⟨_, hv5, condYes (decide_eq_true rfl) ?_⟩
  subst hh5
  refine ⟨_, (t2.ext.trans t4.ext).cell cq, _, _, _, (t2.ext.trans t4.ext).cell cb, ?_⟩
  have s4 := (s2.join t4).to (B := A + (B4 + (B2 + (cA bk [.slice p1 (nowD l0 l0.length).length d1] 23 + (cA bt [.slice p2 l0.length d2] 23 + (cA bb [.slice p3 (brS l0).length d3] 23 + (K1 + (K2 + (K3 + (cA bq [ptr qb] 31 + (cA b1 [.int .i64 k, .int .i64 t, .int .i64 y, .int .i64 u, .slice xp xn xc] 27 + (0))))))))))))
  refine (qbridges_ok qa hl s4).mono fun v6 h6 ⟨q6, e6, B6, hv6, f6, t6⟩ => ⟨_, _, _, hv6, ⟨_, _, _, ((t2.ext.trans t4.ext).trans t6.ext).cell cb, rfl⟩, ?_⟩
  refine (eqI_ok (f6.rd (t6.to (B := B6 + 0))) (r3.ext ((t2.ext.trans t4.ext).trans t6.ext)) (by omega)).mono fun v7 h7 ⟨hh7, hv7⟩ => ⟨_, hv7, by rw [decide_eq_true rfl], ?_⟩
  subst hh7
  exact (s4.join t6).ext
/-- What comes after a success: one more key, or one less; and revoking. -/
theorem back_b7 {l : List Ev} {x : Ev} (qa : QueueA qb l A) (gl : GoodQ l) (hx : x.1 = t) (hlen : l.length = l0.length + 1) (hrev : revP l x.1 = (l0, 0)) {pm pl : Option Addr} {nm nl cm cl : Nat} {Mo Le : List Int} {C : Bag}
    (rm : RdT TI h1 pm nm Mo) (rl : RdT TI h1 pl nl Le) (hp : Plus Le Mo) (sL : Le.Pairwise (· ≤ ·)) (sM : Mo.Pairwise (· ≤ ·)) (hb : nm ≤ 3000 ∧ nl ≤ 3000) (s : St h h1 (A + (C + (cA bk [.slice p1 (nowD l0 l0.length).length d1] 23 + (cA bt [.slice p2 l0.length d2] 23 + (cA bb [.slice p3 (brS l0).length d3] 23 + (K1 + (K2 + (K3 + (cA bq [ptr qb] 31 + (cA b1 [.int .i64 k, .int .i64 t, .int .i64 y, .int .i64 u, .slice xp xn xc] 27 + (0)))))))))))) :
    l35_PartialretroBack_b7 (some ⟨b1, 0, none⟩) (some ⟨bq, 0, none⟩) (some ⟨bt, 0, none⟩) (.func (.func 28) #[] #[.pointer (some ⟨bq, 0, none⟩), .pointer (some ⟨bk, 0, none⟩), .pointer (some ⟨bt, 0, none⟩), .pointer (some ⟨bb, 0, none⟩)]) pm nm cm pl nl cl h1 (fun v h' => v = .bool true ∧ Ext h h') := by
  have hl := g0.len
  have hl1 := gl.len
  have l1 := rm.len
  have l2 := rl.len
  rw [l35_PartialretroBack_b7_eq]
  refine ⟨fun x h' => h' = h1 ∧ ∃ i : Nat, x.1 = i ∧ i ≤ nl ∧ ∀ j, j < i → Le.getD j 0 = Mo.getD j 0, fun x _ => nl - x.1.toNat, ⟨rfl, 0, rfl, by omega, fun j hj => by omega⟩, ?_⟩
  rintro ⟨_, _⟩ h2 ⟨rfl, i, rfl, hin, hall⟩
  dsimp only
  rw [l35_PartialretroBack_b8_eq]
  have fin : (i < nl → Le.getD i 0 ≠ Mo.getD i 0) → l35_PartialretroBack_b10 (some ⟨b1, 0, none⟩) (some ⟨bq, 0, none⟩) (some ⟨bt, 0, none⟩) (.func (.func 28) #[] #[.pointer (some ⟨bq, 0, none⟩), .pointer (some ⟨bk, 0, none⟩), .pointer (some ⟨bt, 0, none⟩), .pointer (some ⟨bb, 0, none⟩)]) pm nm cm pl nl cl (i : Int) h2 (fun v h' => v = .bool true ∧ Ext h h') := by
    intro hne
    obtain ⟨c1, c2⟩ := plus_cut sL sM hp (by omega) hall (fun h => hne (by omega))
    rw [l35_PartialretroBack_b10_eq]
    refine ⟨⟨by omega, by omega⟩, condNo (by rw [decide_eq_true (by omega)]; rfl) ⟨⟨by omega, by omega⟩, ?_⟩⟩
    refine (cloneI_st rm (by omega)).mono fun v3 h3 ⟨q3, e3, C3, hv3, f3, t3⟩ => ⟨_, _, _, hv3, ?_⟩
    refine (deleteI_st (i := i) (t3.to (B := C3 + 0)) f3 (by omega) rfl (by omega)).mono fun v4 h4 ⟨C4, hv4, f4, t4⟩ => ⟨_, _, _, hv4, ?_⟩
    have t4 : St h2 h4 (C4 + 0) := t4
    rw [c2] at f4
    refine (eqI_ok (f4.rd t4) (rl.ext t4.ext) (by omega)).mono fun v5 h5 ⟨hh5, hv5⟩ => ⟨_, hv5, condNo (by rw [decide_eq_true rfl]; rfl) ?_⟩
    subst hh5
    have s5 := (s.join t4).to (B := A + (C4 + (C + (cA bk [.slice p1 (nowD l0 l0.length).length d1] 23 + (cA bt [.slice p2 l0.length d2] 23 + (cA bb [.slice p3 (brS l0).length d3] 23 + (K1 + (K2 + (K3 + (cA bq [ptr qb] 31 + (cA b1 [.int .i64 k, .int .i64 t, .int .i64 y, .int .i64 u, .slice xp xn xc] 27 + (0))))))))))))
    have cq := (s5.to (B := cA bq [ptr qb] 31 + (A + (C4 + (C + (cA bk [.slice p1 (nowD l0 l0.length).length d1] 23 + (cA bt [.slice p2 l0.length d2] 23 + (cA bb [.slice p3 (brS l0).length d3] 23 + (K1 + (K2 + (K3 + (cA b1 [.int .i64 k, .int .i64 t, .int .i64 y, .int .i64 u, .slice xp xn xc] 27 + (0))))))))))))).blk.cell 0
    have ct := (s5.to (B := cA bt [.slice p2 l0.length d2] 23 + (A + (C4 + (C + (cA bk [.slice p1 (nowD l0 l0.length).length d1] 23 + (cA bb [.slice p3 (brS l0).length d3] 23 + (K1 + (K2 + (K3 + (cA bq [ptr qb] 31 + (cA b1 [.int .i64 k, .int .i64 t, .int .i64 y, .int .i64 u, .slice xp xn xc] 27 + (0))))))))))))).blk.cell 0
    refine ⟨_, cq, _, _, _, ct, ⟨by omega, by omega⟩, ?_⟩
    refine (qtimes_ok qa hl1 s5).mono fun v6 h6 ⟨q6, e6, C6, hv6, f6, t6⟩ => ⟨_, _, _, hv6, ⟨_, _, _, t6.ext.cell ct, rfl⟩, ?_⟩
    refine condNo (by rw [decide_eq_true (by omega)]; rfl) ?_
    have s6 := (s5.join t6).to (B := A + (C6 + (C4 + (C + (cA bk [.slice p1 (nowD l0 l0.length).length d1] 23 + (cA bt [.slice p2 l0.length d2] 23 + (cA bb [.slice p3 (brS l0).length d3] 23 + (K1 + (K2 + (K3 + (cA bq [ptr qb] 31 + (cA b1 [.int .i64 k, .int .i64 t, .int .i64 y, .int .i64 u, .slice xp xn xc] 27 + (0)))))))))))))
    have cq := (s6.to (B := cA bq [ptr qb] 31 + (A + (C6 + (C4 + (C + (cA bk [.slice p1 (nowD l0 l0.length).length d1] 23 + (cA bt [.slice p2 l0.length d2] 23 + (cA bb [.slice p3 (brS l0).length d3] 23 + (K1 + (K2 + (K3 + (cA b1 [.int .i64 k, .int .i64 t, .int .i64 y, .int .i64 u, .slice xp xn xc] 27 + (0)))))))))))))).blk.cell 0
    have kx := (s6.to (B := cA b1 [.int .i64 k, .int .i64 t, .int .i64 y, .int .i64 u, .slice xp xn xc] 27 + (A + (C6 + (C4 + (C + (cA bk [.slice p1 (nowD l0 l0.length).length d1] 23 + (cA bt [.slice p2 l0.length d2] 23 + (cA bb [.slice p3 (brS l0).length d3] 23 + (K1 + (K2 + (K3 + (cA bq [ptr qb] 31 + (0)))))))))))))).blk
    rw [l35_PartialretroBack_b11_eq]
    refine ⟨_, cq, _, Blk.cellA kx 1, ?_⟩
    refine (qrevoke_ok (t := t) qa gl.times gl.len s6).mono fun v7 h7 ⟨hv7, A7, qa7, s7⟩ => ⟨_, hv7, ?_⟩
    rw [← hx, hrev] at qa7 ⊢
    refine condYes rfl ?_
    have s7 := s7.to (B := (C6 + (C4 + C)) + (A7 + (cA bk [.slice p1 (nowD l0 l0.length).length d1] 23 + (cA bt [.slice p2 l0.length d2] 23 + (cA bb [.slice p3 (brS l0).length d3] 23 + (K1 + (K2 + (K3 + (cA bq [ptr qb] 31 + (cA b1 [.int .i64 k, .int .i64 t, .int .i64 y, .int .i64 u, .slice xp xn xc] 27 + (0)))))))))))
    show callX Tryz.prog F 28 #[.pointer (some ⟨bq, 0, none⟩), .pointer (some ⟨bk, 0, none⟩), .pointer (some ⟨bt, 0, none⟩), .pointer (some ⟨bb, 0, none⟩)] _ _
    exact callX_of (by kernel_rfl) ((same35_ok g0 o1 o2 o3 qa7 s7.drop).mono fun v8 h8 ⟨hv8, x8⟩ => ⟨_, hv8, rfl, x8⟩)
  refine condP (fun hlt => condP (fun hlt2 => ?_) (fun hge2 => ?_)) (fun hge => fin fun h => by omega)
  · refine rl.int (by omega) (by omega) (rm.int (by omega) (by omega) ?_)
    rw [Int.toNat_natCast]
    refine condP (fun he => ?_) (fun hne => fin fun _ => hne)
    rw [l35_PartialretroBack_b9_eq]
    refine ⟨⟨by omega, by omega⟩, ⟨rfl, i + 1, by simp only; omega, by omega, fun j hj => ?_⟩, by simp only; omega⟩
    rcases Nat.lt_or_ge j i with h | h
    · exact hall j h
    · obtain rfl : j = i := by omega
      exact he
  · exfalso
    obtain ⟨z, hz⟩ := hp
    have := hz.length_eq
    simp only [List.length_cons] at this
    omega
/-- A change, and what is asked of it. -/
theorem back_b5 (qa : QueueA qb l0 A) (s : St h h1 (A + (cA bk [.slice p1 (nowD l0 l0.length).length d1] 23 + (cA bt [.slice p2 l0.length d2] 23 + (cA bb [.slice p3 (brS l0).length d3] 23 + (K1 + (K2 + (K3 + (cA bq [ptr qb] 31 + (cA b1 [.int .i64 k, .int .i64 t, .int .i64 y, .int .i64 u, .slice xp xn xc] 27 + (0))))))))))) :
    l35_PartialretroBack_b5 (some ⟨b1, 0, none⟩) (some ⟨bq, 0, none⟩) (some ⟨bk, 0, none⟩) (some ⟨bt, 0, none⟩) (some ⟨bb, 0, none⟩) h1 (fun v h' => v = .bool true ∧ Ext h h') := by
  have cq := (s.to (B := cA bq [ptr qb] 31 + (A + (cA bk [.slice p1 (nowD l0 l0.length).length d1] 23 + (cA bt [.slice p2 l0.length d2] 23 + (cA bb [.slice p3 (brS l0).length d3] 23 + (K1 + (K2 + (K3 + (cA b1 [.int .i64 k, .int .i64 t, .int .i64 y, .int .i64 u, .slice xp xn xc] 27 + (0))))))))))).blk.cell 0
  have kx := (s.to (B := cA b1 [.int .i64 k, .int .i64 t, .int .i64 y, .int .i64 u, .slice xp xn xc] 27 + (A + (cA bk [.slice p1 (nowD l0 l0.length).length d1] 23 + (cA bt [.slice p2 l0.length d2] 23 + (cA bb [.slice p3 (brS l0).length d3] 23 + (K1 + (K2 + (K3 + (cA bq [ptr qb] 31 + (0))))))))))).blk
  have b6 : ∀ {h2 : Hp} {R : List Ev × Int} {x : Ev} {A2 : Bag}, (R = addP l0 x ∧ x.1 = t ∧ keyQ x.2.1 ∧ (x.2.2 = true ↔ k ≠ 0)) ∨ (R = (l0, 1)) → QueueA qb R.1 A2 → St h h2 (A2 + (cA bk [.slice p1 (nowD l0 l0.length).length d1] 23 + (cA bt [.slice p2 l0.length d2] 23 + (cA bb [.slice p3 (brS l0).length d3] 23 + (K1 + (K2 + (K3 + (cA bq [ptr qb] 31 + (cA b1 [.int .i64 k, .int .i64 t, .int .i64 y, .int .i64 u, .slice xp xn xc] 27 + (0)))))))))) → l35_PartialretroBack_b6 (some ⟨b1, 0, none⟩) (some ⟨bq, 0, none⟩) (some ⟨bk, 0, none⟩) (some ⟨bt, 0, none⟩) (some ⟨bb, 0, none⟩) R.2 h2 (fun v h' => v = .bool true ∧ Ext h h') := by
    intro h2 R x A2 hR qa2 s2
    rw [l35_PartialretroBack_b6_eq]
    have cq := (s2.to (B := cA bq [ptr qb] 31 + (A2 + (cA bk [.slice p1 (nowD l0 l0.length).length d1] 23 + (cA bt [.slice p2 l0.length d2] 23 + (cA bb [.slice p3 (brS l0).length d3] 23 + (K1 + (K2 + (K3 + (cA b1 [.int .i64 k, .int .i64 t, .int .i64 y, .int .i64 u, .slice xp xn xc] 27 + (0))))))))))).blk.cell 0
    have kx := (s2.to (B := cA b1 [.int .i64 k, .int .i64 t, .int .i64 y, .int .i64 u, .slice xp xn xc] 27 + (A2 + (cA bk [.slice p1 (nowD l0 l0.length).length d1] 23 + (cA bt [.slice p2 l0.length d2] 23 + (cA bb [.slice p3 (brS l0).length d3] 23 + (K1 + (K2 + (K3 + (cA bq [ptr qb] 31 + (0))))))))))).blk
    have ck := (s2.to (B := cA bk [.slice p1 (nowD l0 l0.length).length d1] 23 + (A2 + (cA bt [.slice p2 l0.length d2] 23 + (cA bb [.slice p3 (brS l0).length d3] 23 + (K1 + (K2 + (K3 + (cA bq [ptr qb] 31 + (cA b1 [.int .i64 k, .int .i64 t, .int .i64 y, .int .i64 u, .slice xp xn xc] 27 + (0))))))))))).blk.cell 0
    have hsame : R.2 ≠ 0 → R.1 = l0 := fun hne => by
      rcases hR with ⟨rfl, _, _⟩ | rfl
      · exact addP_keep hne
      · rfl
    refine condN (fun hne => ?_) (fun he => ?_)
    · rw [hsame hne] at qa2
      exact (same35_ok g0 o1 o2 o3 qa2 s2).mono fun v3 h3 ⟨hv3, x3⟩ => ⟨_, hv3, rfl, x3⟩
    obtain ⟨rfl, hxt, hkey, hxd⟩ : R = addP l0 x ∧ x.1 = t ∧ keyQ x.2.1 ∧ (x.2.2 = true ↔ k ≠ 0) := by
      rcases hR with h | rfl
      · exact h
      · cases he
    obtain ⟨c1, c2, c3, c4, c5⟩ := addP_ok he
    have gl : GoodQ (addP l0 x).1 := addP_good g0 hkey
    have hrev := rev_put g0 he
    rw [c5] at qa2 gl
    have gl : GoodQ (putT x l0) := gl
    have qa2 : QueueA qb (putT x l0) A2 := qa2
    have hpl := (lowT_place (t := x.1) g0.times).1
    have hok := gl.ok
    have hplus := plus_at (x := x) hpl hpl g0.ok (show nowAt (l0.take (lowT x.1 l0) ++ x :: l0.drop (lowT x.1 l0)) (l0.length + 1) = some (nowD (putT x l0) (putT x l0).length) by rw [← hok]; rw [putT_len])
    have hnl := (nowAt_inv g0.ok).2.1
    have hnl2 := (nowAt_inv hok).2.1
    have hlenp := putT_len (x := x) (l := l0)
    have hg := g0.len
    have sA := keysL_srt (nowAt_inv g0.ok).1
    have sB := keysL_srt (nowAt_inv hok).1
    refine ⟨_, cq, _, _, _, ck, ?_⟩
    refine (qkeys_ok qa2 gl.len s2).mono fun v3 h3 ⟨q3, e3, C3, hv3, f3, t3⟩ => ⟨_, _, _, hv3, ⟨_, _, _, t3.ext.cell ck, rfl⟩, ⟨_, _, _, t3.ext.cell ck, rfl⟩, ?_⟩
    have s3 := (s2.join t3).to (B := A2 + (C3 + (cA bk [.slice p1 (nowD l0 l0.length).length d1] 23 + (cA bt [.slice p2 l0.length d2] 23 + (cA bb [.slice p3 (brS l0).length d3] 23 + (K1 + (K2 + (K3 + (cA bq [ptr qb] 31 + (cA b1 [.int .i64 k, .int .i64 t, .int .i64 y, .int .i64 u, .slice xp xn xc] 27 + (0)))))))))))
    have r1 := o1.rd (s3.to (B := K1 + (A2 + (C3 + (cA bk [.slice p1 (nowD l0 l0.length).length d1] 23 + (cA bt [.slice p2 l0.length d2] 23 + (cA bb [.slice p3 (brS l0).length d3] 23 + (K2 + (K3 + (cA bq [ptr qb] 31 + (cA b1 [.int .i64 k, .int .i64 t, .int .i64 y, .int .i64 u, .slice xp xn xc] 27 + (0))))))))))))
    have r3 := f3.rd (s3.to (B := C3 + (A2 + (cA bk [.slice p1 (nowD l0 l0.length).length d1] 23 + (cA bt [.slice p2 l0.length d2] 23 + (cA bb [.slice p3 (brS l0).length d3] 23 + (K1 + (K2 + (K3 + (cA bq [ptr qb] 31 + (cA b1 [.int .i64 k, .int .i64 t, .int .i64 y, .int .i64 u, .slice xp xn xc] 27 + (0))))))))))))
    refine ⟨_, t3.ext.cell (kx.cell 0), condN (fun hk => ?_) (fun hk => ?_)⟩
    · rw [if_pos (hxd.2 hk)] at hplus
      refine ⟨_, _, _, t3.ext.cell ck, ?_⟩
      exact back_b7 g0 o1 o2 o3 qa2 gl hxt hlenp hrev r1 r3 hplus sB sA ⟨by omega, by omega⟩ s3
    · rw [if_neg (fun h => hxd.1 h hk)] at hplus
      exact back_b7 g0 o1 o2 o3 qa2 gl hxt hlenp hrev r3 r1 hplus sA sB ⟨by omega, by omega⟩ s3
  rw [l35_PartialretroBack_b5_eq]
  refine ⟨_, kx.cell 0, condP (fun hk => ?_) (fun hk => ?_)⟩
  · refine ⟨_, cq, _, Blk.cellA kx 1, _, Blk.cellA kx 2, ?_⟩
    refine (qinsert_ok (t := t) (k := y) qa g0.times g0.len s).mono fun v2 h2 ⟨hv2, A2, qa2, s2⟩ => ⟨_, hv2, ?_⟩
    refine b6 (x := (t, y, false)) ?_ qa2 s2
    by_cases hy : keyQ y
    · exact .inl ⟨by rw [insP, if_pos hy], rfl, hy, ⟨fun h => (by cases h), fun h => absurd hk h⟩⟩
    · exact .inr (by rw [insP, if_neg hy])
  · refine ⟨_, cq, _, Blk.cellA kx 1, ?_⟩
    refine (qdelete_ok (t := t) qa g0.times g0.len s).mono fun v2 h2 ⟨hv2, A2, qa2, s2⟩ => ⟨_, hv2, ?_⟩
    exact b6 (x := (t, 0, true)) (.inl ⟨rfl, rfl, show keyQ 0 by decide, ⟨fun _ => hk, fun _ => rfl⟩⟩) qa2 s2
end
theorem back_law {h : Hp} {p : Option Addr} {n c : Nat} {l : List S5} {k t y u : Int} {xp : Option Addr} {xn xc : Nat} (r : RdT tS5 h p n l) :
    HCalls Tryz.prog 4 #[.slice p n c, .agg #[.int .i64 k, .int .i64 t, .int .i64 y, .int .i64 u, .slice xp xn xc]] h (fun v h' => v = .bool true ∧ Ext h h') := by
  have hlen := r.len
  refine l35_PartialretroBack_call ?_
  rw [l35_PartialretroBack_b0_eq]
  refine (St.start h).new (cs := [.int .i64 k, .int .i64 t, .int .i64 y, .int .i64 u, .slice xp xn xc]) fun b1 h1 x1 s1 => ?_
  refine (awake_ok h1).mono fun v1 h2 ⟨hv1, x2⟩ => ⟨_, hv1, condNo rfl ?_⟩
  have s2 := s1.grow x2
  refine (few_ok (r.ext s2.ext)).mono fun v3 h3 ⟨x3, b, hv3, hb⟩ => ⟨_, hv3, cond_intro (fun hf => ?_) (fun hf => ?_)⟩
  · exact (awake_ok h3).mono fun v2 h4 ⟨hv2, x4⟩ => ⟨_, hv2, rfl, (s2.ext.trans x3).trans x4⟩
  have hn := (hb (by simpa using hf)).1
  have s3 := s2.grow x3
  rw [l35_PartialretroBack_b1_eq]
  refine (newQueue_ok h3).mono fun v5 h5 ⟨qb, A0, hv5, q0, t5⟩ => ⟨_, hv5, ?_⟩
  have s5 := s3.join t5
  refine s5.new (cs := [.pointer none]) fun bq h6 _ s6 => ?_
  refine s6.wr rfl (by simp) fun h7 s7 => ?_
  have s7 : St h h7 (cA bq [ptr qb] 31 + (A0 + (cA b1 [.int .i64 k, .int .i64 t, .int .i64 y, .int .i64 u, .slice xp xn xc] 27 + 0))) := s7
  refine ⟨fun x h' => ∃ (i : Nat) (l' : List Ev) (A : Bag), x.1 = i ∧ i ≤ n ∧ QueueA qb l' A ∧ GoodQ l' ∧ St h h' (A + (cA bq [ptr qb] 31 + (cA b1 [.int .i64 k, .int .i64 t, .int .i64 y, .int .i64 u, .slice xp xn xc] 27 + 0))), fun x _ => n - x.1.toNat, ⟨0, [], A0, rfl, by omega, q0, goodQ_nil, s7.to⟩, ?_⟩
  rintro ⟨_, _⟩ h8 ⟨i, m, A, rfl, hin, qa, g, s8⟩
  dsimp only
  rw [l35_PartialretroBack_b2_eq]
  refine condP (fun hlt => ?_) (fun hge => ?_)
  · refine s5_load (r.ext s8.ext) (by omega) (by omega) ?_
    rw [Int.toNat_natCast]
    generalize l.getD i tS5.d = st
    obtain ⟨k', t', y', u', ap, an, ac⟩ := st
    dsimp only
    refine s8.new (cs := [.int .i64 0, .int .i64 0, .int .i64 0, .int .i64 0, .slice none 0 0]) fun b3 h9 _ s9 => ?_
    refine s9.wr rfl (by simp) fun h10 s10 => ?_
    refine s10.wr (o := 1) (add_mk _ _ _) (by simp) fun h11 s11 => ?_
    refine s11.wr (o := 2) (add_mk _ _ _) (by simp) fun h12 s12 => ?_
    refine s12.wr (o := 3) (add_mk _ _ _) (by simp) fun h13 s13 => ?_
    refine s13.wr (o := 4) (add_mk _ _ _) (by simp) fun h14 s14 => ?_
    have cq := (s14.drop.to (B := cA bq [ptr qb] 31 + (A + (cA b1 [.int .i64 k, .int .i64 t, .int .i64 y, .int .i64 u, .slice xp xn xc] 27 + 0)))).blk.cell 0
    refine ⟨_, cq, _, _, _, _, _, _, _, s14.blk.cell 0, Blk.cellA s14.blk 1, Blk.cellA s14.blk 2, Blk.cellA s14.blk 3, Blk.cellA s14.blk 4, ?_⟩
    have s14 := s14.drop.to (B := A + (0 + (cA bq [ptr qb] 31 + (cA b1 [.int .i64 k, .int .i64 t, .int .i64 y, .int .i64 u, .slice xp xn xc] 27 + 0))))
    refine (queue_ok (m := []) (p := none) (c := 0) qa g Sl.nil goodQ_nil k' t' y' u' ap an ac s14).mono fun v6 h15 ⟨p6, c6, M6, A6, hv6, qa6, ma6, s15⟩ => ⟨_, _, _, _, hv6, ?_⟩
    rw [l35_PartialretroBack_b3_eq]
    exact ⟨⟨by omega, by omega⟩, ⟨i + 1, _, A6, by simp only; omega, by omega, qa6, stepQ_good g k' t' y', (s15.to (B := M6 + (A6 + (cA bq [ptr qb] 31 + (cA b1 [.int .i64 k, .int .i64 t, .int .i64 y, .int .i64 u, .slice xp xn xc] 27 + 0))))).drop⟩, by simp only; omega⟩
  · have hl := g.len
    have cq : cell h8 ⟨bq, 0, none⟩ = some (.pointer (some ⟨qb, 0, none⟩)) := (s8.to (B := cA bq [ptr qb] 31 + (A + (cA b1 [.int .i64 k, .int .i64 t, .int .i64 y, .int .i64 u, .slice xp xn xc] 27 + 0)))).blk.cell 0
    have keys : ∀ {h' : Hp}, Ext h8 h' → HCalls Tryz.prog 16 #[.pointer (some ⟨qb, 0, none⟩)] h' (fun v h'' => ∃ q d B, v = .slice q (nowD m m.length).length d ∧ Sl TI q (nowD m m.length).length d (keysL (nowD m m.length)) B ∧ St h' h'' B) := fun x => qkeys_ok qa hl (s8.grow x)
    have timez : ∀ {h' : Hp}, Ext h8 h' → HCalls Tryz.prog 27 #[.pointer (some ⟨qb, 0, none⟩)] h' (fun v h'' => ∃ q d B, v = .slice q m.length d ∧ Sl TI q m.length d (m.map Prod.fst) B ∧ St h' h'' B) := fun x => qtimes_ok qa hl (s8.grow x)
    have bridg : ∀ {h' : Hp}, Ext h8 h' → HCalls Tryz.prog 17 #[.pointer (some ⟨qb, 0, none⟩)] h' (fun v h'' => ∃ q d B, v = .slice q (brS m).length d ∧ Sl TI q (brS m).length d (brS m) B ∧ St h' h'' B) := fun x => qbridges_ok qa hl (s8.grow x)
    have fin : ∀ {h' : Hp} {bk bt bb : Nat} {q1 q2 q3 : Option Addr} {e1 e2 e3 : Nat} {K1 K2 K3 : Bag}, Sl TI q1 (nowD m m.length).length e1 (keysL (nowD m m.length)) K1 → Sl TI q2 m.length e2 (m.map Prod.fst) K2 → Sl TI q3 (brS m).length e3 (brS m) K3 →
        St h8 h' (cA bk [.slice none 0 0] 23 + (cA bt [.slice none 0 0] 23 + (cA bb [.slice none 0 0] 23 + (K1 + (K2 + K3))))) →
        Wr h' ⟨bk, 0, none⟩ (.slice q1 (nowD m m.length).length e1) fun h23 => Wr h23 ⟨bt, 0, none⟩ (.slice q2 m.length e2) fun h24 => Wr h24 ⟨bb, 0, none⟩ (.slice q3 (brS m).length e3) fun h25 => l35_PartialretroBack_b5 (some ⟨b1, 0, none⟩) (some ⟨bq, 0, none⟩) (some ⟨bk, 0, none⟩) (some ⟨bt, 0, none⟩) (some ⟨bb, 0, none⟩) h25 (fun v h' => v = .bool true ∧ Ext h h') := by
      intro h' bk bt bb q1 q2 q3 e1 e2 e3 K1 K2 K3 f1 f2 f3 s'
      have sj := (s8.join s').to (B := cA bk [.slice none 0 0] 23 + (cA bt [.slice none 0 0] 23 + (cA bb [.slice none 0 0] 23 + (K1 + (K2 + (K3 + (A + (cA bq [ptr qb] 31 + (cA b1 [.int .i64 k, .int .i64 t, .int .i64 y, .int .i64 u, .slice xp xn xc] 27 + 0)))))))))
      refine sj.wr rfl (by simp) fun h9 s9 => ?_
      have s9 := s9.to (B := cA bt [.slice none 0 0] 23 + (cA bk [.slice q1 (nowD m m.length).length e1] 23 + (cA bb [.slice none 0 0] 23 + (K1 + (K2 + (K3 + (A + (cA bq [ptr qb] 31 + (cA b1 [.int .i64 k, .int .i64 t, .int .i64 y, .int .i64 u, .slice xp xn xc] 27 + 0)))))))))
      refine s9.wr rfl (by simp) fun h10 s10 => ?_
      have s10 := s10.to (B := cA bb [.slice none 0 0] 23 + (cA bt [.slice q2 m.length e2] 23 + (cA bk [.slice q1 (nowD m m.length).length e1] 23 + (K1 + (K2 + (K3 + (A + (cA bq [ptr qb] 31 + (cA b1 [.int .i64 k, .int .i64 t, .int .i64 y, .int .i64 u, .slice xp xn xc] 27 + 0)))))))))
      refine s10.wr rfl (by simp) fun h11 s11 => ?_
      have s11 : St h h11 (cA bb [.slice q3 (brS m).length e3] 23 + (cA bt [.slice q2 m.length e2] 23 + (cA bk [.slice q1 (nowD m m.length).length e1] 23 + (K1 + (K2 + (K3 + (A + (cA bq [ptr qb] 31 + (cA b1 [.int .i64 k, .int .i64 t, .int .i64 y, .int .i64 u, .slice xp xn xc] 27 + 0))))))))) := s11
      exact back_b5 g f1 f2 f3 qa s11.to
    rw [l35_PartialretroBack_b4_eq]
    refine ⟨_, cq, _, cq, _, cq, ?_⟩
    have s := St.start h8
    clear hlen
    repeat' first
      | (with_reducible refine fin o1 o2 o3 ?_); exact s.to
      | (with_reducible refine St.new s (cs := [.slice none 0 0]) ?_); intro _ _ _ s
      | (with_reducible refine HCalls.mono (keys s.ext) ?_); rintro _ _ ⟨q1, e1, K1, hv, o1, tt⟩; refine ⟨_, _, _, hv, ?_⟩; have s := s.join tt; clear tt
      | (with_reducible refine HCalls.mono (timez s.ext) ?_); rintro _ _ ⟨q2, e2, K2, hv, o2, tt⟩; refine ⟨_, _, _, hv, ?_⟩; have s := s.join tt; clear tt
      | (with_reducible refine HCalls.mono (bridg s.ext) ?_); rintro _ _ ⟨q3, e3, K3, hv, o3, tt⟩; refine ⟨_, _, _, hv, ?_⟩; have s := s.join tt; clear tt
      | with_reducible refine ⟨⟨_, s.ext.cell cq, rfl⟩, ?_⟩
      | with_reducible refine And.intro ?_ ?_
end Go.Proofs.YtdlkohenamlnaaaGreat
