/- Part EN EO EP EQ ER R1 FBL ES ET EU EV EW EX EY NA NB NC ND of the proof: contracts of functions of the program, and what follows from them. -/
import Derived.Test.YtllhdhpjgihjfaaGreatDoorSxEM
import Derived.Test.YtllhdhpjgihjfaaGreatDoorSxY2
import Derived.Deep.Slices
import Derived.OpenShut
import Derived.Test.YtllhdhpjgihjfaaGreatDoorCards
import Derived.Test.YtllhdhpjgihjfaaGreatDoorTie
import Derived.WalkKit
import Derived.ProofKit
import Derived.ShutString
import Derived.ChangeOld
import Derived.Below
import Derived.ChangeMaps5
import Derived.Deep.Grids
import Derived.LaidMore
import Derived.Stop.LaidErr
import Derived.Stop.Joined
import Derived.Lib.LaidTab
import Derived.MakeChecks
import Derived.SevenTiedAt
set_option maxRecDepth 100000
namespace Go.Proofs.YtllhdhpjgihjfaaGreatDoor
open Go Go.Sx
structure KindOk (k : Int) : Prop where
  va : ∀ {h : Hp} {rows : Rows} {p : OA} {n c : Nat}, RowsR h p n rows → (∀ r ∈ rows, r.length ≤ 1000) → yaah Tryz.prog 55 #[.agg #[.int .i64 k, .slice p n c]] h (VP (OkR k rows) h)
  ap : ∀ {h : Hp} {rows : Rows} {p q : OA} {n c m cc : Nat} {code : Int} {zs : List Int}, OkR k rows → OpV k code zs → RowsR h p n rows → RdT TI h q m zs → m ≤ cc → m ≤ 100 →
    yaah Tryz.prog 46 #[.agg #[.int .i64 k, .slice p n c], .agg #[.int .i64 code, .slice q m cc]] h (yaml h 0 k (stepR k rows code zs).1 (stepR k rows code zs).2.1 (stepR k rows code zs).2.2)
  st : ∀ {rows : Rows} {code : Int} {zs : List Int}, OkR k rows → OpV k code zs → OkR k (stepR k rows code zs).1
  sm : ∀ {rows : Rows}, OkR k rows → rows.length ≤ 500 ∧ ∀ w ∈ rows, w.length ≤ 500 ∧ ∀ z ∈ w, InK z
theorem yaxe {k : Int} {rows : Rows} (h : OkR k rows) : ∀ w ∈ rows, ∀ z ∈ w, InK z := by
  have ky : ∀ z, KeyP z → InK z := fun z h => by unfold KeyP at h; unfold InK; omega
  rcases h with ⟨rfl, l, rfl, h1, h2, h3⟩ | ⟨rfl, l, rfl, h1, h2, h3⟩ | ⟨rfl, l, rfl, h2, h3⟩ | ⟨rfl, h⟩ | ⟨rfl, l, rfl, h1, h2, h3⟩ | ⟨rfl, l, rfl, h2, h3⟩
  · intro w hw z hz
    obtain ⟨x, hx, rfl⟩ := List.mem_map.1 hw
    have := h2 x hx
    rcases List.mem_cons.1 hz with rfl | hz
    · exact ky _ this.1
    · rw [List.mem_singleton.1 hz]; exact ky _ this.2
  · intro w hw z hz
    obtain ⟨x, hx, rfl⟩ := List.mem_map.1 hw
    rw [List.mem_singleton.1 hz]; exact ky _ (h2 x hx)
  · intro w hw z hz
    obtain ⟨x, hx, rfl⟩ := List.mem_map.1 hw
    rw [List.mem_singleton.1 hz]; exact ky _ (h2 x hx)
  · intro w hw z hz
    have h1 : z ∈ rows.flatten := List.mem_flatten.2 ⟨w, hw, hz⟩
    have h2 := h.2.2.1.mem_iff.1 h1
    obtain ⟨i, hi, rfl⟩ := List.mem_map.1 h2
    have := List.mem_range.1 hi
    have h3 := h.2.2.2
    unfold InK
    simp only [Int.ofNat_eq_natCast]
    omega
  · intro w hw z hz
    obtain ⟨x, hx, rfl⟩ := List.mem_map.1 hw
    have := h2 x hx
    rcases List.mem_cons.1 hz with rfl | hz
    · exact ky _ this.1
    rcases List.mem_cons.1 hz with rfl | hz
    · exact ky _ this.2.1
    · rw [List.mem_singleton.1 hz]; exact ky _ this.2.2
  · intro w hw z hz
    unfold textR at hw
    split at hw
    · cases hw
    · rw [List.mem_singleton.1 hw] at hz
      have := h2 z hz
      unfold ChP at this
      unfold InK
      omega
theorem ybbg {k : Int} {rows : Rows} (h : OkR k rows) : rows.length ≤ 500 ∧ ∀ w ∈ rows, w.length ≤ 500 ∧ ∀ z ∈ w, InK z :=
  ⟨(yafu h).1, fun w hw => ⟨(yafu h).2 w hw, yaxe h w hw⟩⟩
theorem maskB {m i : Nat} {Q : Int → Prop} (hm : m < 9223372036854775808) (hi : i ≤ 64) (hq : Q ((m >>> i &&& 1 : Nat) : Int)) : ∃ sr : Int, Sx.Shr .i64 (m : Int) (i : Int) sr ∧ ∃ an : Int, Sx.And .i64 sr 1 an ∧ Q an :=
  yafz rfl rfl hi (yaue rfl rfl (Nat.lt_of_le_of_lt (by rw [Nat.shiftRight_eq_div_pow]; exact Nat.div_le_self _ _) hm) (y := 1) (by decide) hq)
theorem maskS {m i : Nat} {Q : Int → Prop} (hm : m < 2 ^ 20) (hi : i < 20) (hq : Q ((m ||| 2 ^ i : Nat) : Int)) : ∃ sl : Int, Sx.Shl .i64 1 (i : Int) sl ∧ ∃ r : Int, Sx.Or .i64 (m : Int) sl r ∧ Q r := by
  have h2 : 2 ^ i < 2 ^ 20 := Nat.pow_lt_pow_right (by decide) hi
  refine yanr (x := 1) rfl rfl (show i ≤ 64 by omega) ?_ (ybbb rfl (y := 2 ^ i) (by rw [Nat.one_mul]) (by omega) (by omega) hq)
  rw [Nat.one_mul]
  generalize 2 ^ i = w at *
  exact yabv _ ⟨by omega, by omega⟩
theorem yauk {m i : Nat} : (((m >>> i &&& 1 : Nat) : Int) = 1) ↔ m.testBit i = true := by
  rw [← yavj]
  omega
theorem yaqo {m i : Nat} : (((m >>> i &&& 1 : Nat) : Int) = 0) ↔ m.testBit i = false := by
  have h1 := @yavj m i
  have h2 : m >>> i &&& 1 < 2 := by rw [Nat.and_one_is_mod]; omega
  constructor
  · intro h
    cases hb : m.testBit i with
    | false => rfl
    | true => have := h1.2 hb; omega
  · intro h
    have : ¬ m >>> i &&& 1 = 1 := fun e => by rw [h1.1 e] at h; cases h
    omega
section
variable {h : Hp} {p : OA} {n c : Nat} {l : List Ev} {k : Int}
theorem yavp {m : Nat} {e : EvT} (r : EvsR h p n l) (hn : n ≤ 20) (hm : m < 2 ^ 20) :
    yaah Tryz.prog 68 #[.slice p n c, .int .i64 (m : Int), encEv e] h (VP (∀ j, j < n → m.testBit j = false → ¬ precT (l.getD j dEv).t e) h) := by
  have hl := r.len
  refine zaq_call ?_
  rw [zaq_b0]
  refine (St.start h).new (cs := evC e) fun b1 h1 x1 s1 => ?_
  refine ⟨fun x h' => ∃ j : Nat, x.1 = (j : Int) ∧ j ≤ n ∧ (∀ t, t < j → m.testBit t = false → ¬ precT (l.getD t dEv).t e) ∧ St h h' (cA b1 (evC e) 60 + 0), fun x _ => n - x.1.toNat, ⟨0, rfl, by omega, fun t ht => absurd ht (by omega), s1⟩, ?_⟩
  rintro ⟨_, _⟩ h2 ⟨j, rfl, hj, i1, s2⟩
  dsimp only
  rw [zaq_b1]
  refine condP (fun hlt => ?_) (fun hge => ?_)
  · refine (r.ext s2.ext).cp s2 rfl (by omega) fun b2 h3 _ s3 => maskB (by omega) (by omega) ?_
    refine condP (fun hb => ?_) (fun hb => ?_)
    · refine ldEvB s3.blk (yaan rfl (ldEvB s3.atomBlk ((yaeb _ _ _).mono fun v h4 ⟨hv, x4⟩ => ⟨_, hv, condP (fun hp => VP.no (fun o => o j (by omega) (yaqo.1 hb) hp) (s3.grow x4).ext) (fun hp => ?_)⟩)))
      rw [zaq_b2]
      refine ⟨⟨by omega, by omega⟩, ⟨j + 1, by push_cast; rfl, by omega, fun t ht hf => ?_, (s3.grow x4).drop⟩, by simp only; omega⟩
      rcases Nat.lt_or_ge t j with h | h
      · exact i1 t h hf
      · obtain rfl : t = j := by omega
        exact hp
    · rw [zaq_b2]
      refine ⟨⟨by omega, by omega⟩, ⟨j + 1, by push_cast; rfl, by omega, fun t ht hf => ?_, s3.drop⟩, by simp only; omega⟩
      rcases Nat.lt_or_ge t j with h | h
      · exact i1 t h hf
      · obtain rfl : t = j := by omega
        exact absurd (yaqo.2 hf) hb
  · rw [zaq_b3]
    exact VP.yes (fun t ht => i1 t (by omega)) s2.ext
theorem yauz {sp : OA} {sn sc : Nat} {rows : Rows} (va : ∀ {h : Hp} {rows : Rows} {p : OA} {n c : Nat}, RowsR h p n rows → (∀ r ∈ rows, r.length ≤ 1000) → yaah Tryz.prog 55 #[.agg #[.int .i64 k, .slice p n c]] h (VP (OkR k rows) h))
    (r : EvsR h p n l) (sm : Sm l) (rr : RowsR h sp sn rows) (hr : ∀ r ∈ rows, r.length ≤ 1000) :
    yaah Tryz.prog 44 #[.agg #[.int .i64 k, .slice sp sn sc], .slice p n c] h (VP (OkR k rows ∧ yadq l ∧ KindP k l) h) := by
  refine zar_call ?_
  rw [zar_b0]
  refine (St.start h).new (cs := [.int .i64 k, .slice sp sn sc]) fun b1 h1 _ s => ⟨_, _, _, _, s.ld0, s.ldB, ?_⟩
  refine (va (rr.ext s.ext) hr).mono fun v h2 ⟨⟨b2, hv2, hb2⟩, x2⟩ => ⟨_, hv2, ?_⟩
  have s2 := s.grow x2
  refine yaat (fun h2t => ?_) (fun h2f => VP.no (fun o => by rw [hb2.2 o.1] at h2f; cases h2f) s2.ext)
  refine (yaqa (r.ext s2.ext) sm).mono fun v h3 ⟨⟨b3, hv3, hb3⟩, x3⟩ => ⟨_, hv3, ?_⟩
  have s3 := s2.grow x3
  refine yaat (fun h3t => ⟨_, s3.ld0, ?_⟩) (fun h3f => VP.no (fun o => by rw [hb3.2 o.2.1] at h3f; cases h3f) s3.ext)
  have hn : n ≤ 1000 := by
    obtain ⟨_, _, o⟩ := hb3.1 h3t
    have := o.1
    have := r.len
    omega
  refine (of_ok (r.ext s3.ext) (by omega)).mono fun v h4 ⟨hv4, x4⟩ => ⟨_, hv4, ⟨_, rfl, ?_⟩, (s3.grow x4).ext⟩
  rw [decide_eq_true_iff]
  exact ⟨fun o => ⟨hb2.1 h2t, hb3.1 h3t, o⟩, fun o => o.2.2⟩
def givE (l : List Ev) (rows : Rows) (k most e : Int) : Prop :=
  (¬ (OkR k rows ∧ yadq l ∧ KindP k l) ∧ e = 1) ∨ ((OkR k rows ∧ yadq l ∧ KindP k l) ∧
    (((most < 1 ∨ 14 < most) ∧ e = 2) ∨ ((1 ≤ most ∧ most ≤ 14) ∧ ((most < (l.length : Int) ∧ e = 6) ∨ ((l.length : Int) ≤ most ∧ e = 0)))))
theorem yaqw {sp : OA} {sn sc : Nat} {rows : Rows} {most : Int} (va : ∀ {h : Hp} {rows : Rows} {p : OA} {n c : Nat}, RowsR h p n rows → (∀ r ∈ rows, r.length ≤ 1000) → yaah Tryz.prog 55 #[.agg #[.int .i64 k, .slice p n c]] h (VP (OkR k rows) h))
    (r : EvsR h p n l) (sm : Sm l) (rr : RowsR h sp sn rows) (hr : ∀ r ∈ rows, r.length ≤ 1000) :
    yaah Tryz.prog 35 #[.agg #[.int .i64 k, .slice sp sn sc], .slice p n c, .int .i64 most] h (fun v h' => ∃ e, v = .int .i64 e ∧ givE l rows k most e ∧ Ext h h') := by
  have hl := r.len
  refine zas_call ?_
  rw [zas_b0]
  refine (St.start h).new (cs := [.int .i64 k, .slice sp sn sc]) fun b1 h1 _ s => ⟨_, _, _, _, s.ld0, s.ldB, ?_⟩
  refine (yauz va (r.ext s.ext) sm (rr.ext s.ext) hr).mono fun v h2 ⟨⟨b2, hv2, hb2⟩, x2⟩ => ⟨_, hv2, ?_⟩
  have x := (s.grow x2).ext
  refine yaat (fun hno => ⟨_, rfl, .inl ⟨fun o => (by rw [hb2.2 o] at hno; cases hno), rfl⟩, x⟩) (fun hyes => ?_)
  have hf := hb2.1 (by simpa using hyes)
  refine condP (fun h1 => ⟨_, rfl, .inr ⟨hf, .inl ⟨.inl h1, rfl⟩⟩, x⟩) (fun h1 => condP (fun h14 => ⟨_, rfl, .inr ⟨hf, .inl ⟨.inr h14, rfl⟩⟩, x⟩) (fun h14 => condP (fun hlt => ⟨_, rfl, .inr ⟨hf, .inr ⟨⟨by omega, by omega⟩, .inl ⟨by omega, rfl⟩⟩⟩, x⟩) (fun hge => ?_)))
  rw [zas_b1]
  exact ⟨_, rfl, .inr ⟨hf, .inr ⟨⟨by omega, by omega⟩, .inr ⟨by omega, rfl⟩⟩⟩, x⟩
end
abbrev MS : MTy ByteArray Bool := ⟨fun k => .string k, fun b => .bool b, .bool false⟩
theorem yars : MapOk MS Tryz.prog 107 := yatc (kt := 9) (et := 4) (fun _ => rfl) (by kernel_rfl) (by kernel_rfl) (by kernel_rfl)
abbrev natI (o : List Nat) : List Int := o.map fun x => ((x : Nat) : Int)
def SrA (ab mb lb ob fb mm a : Nat) (p : OA) (n c : Nat) (o : List Nat) (ps : List (ByteArray × Bool)) (A : Bag) : Prop :=
  ∃ (q : OA) (d : Nat) (Ao Am : Bag), A = cA ab [.int .i64 (a : Int)] 3 + (cA mb [.map (some mm)] 107 + (cA lb [.slice p n c] 25 + (cA ob [.slice q o.length d] 29 +
    (cA fb [.func (.func 66) #[] #[ptr ab, ptr mb, ptr lb, ptr ob, ptr fb]] 108 + (Ao + Am))))) ∧ Sl TI q o.length d (natI o) Ao ∧ MapA MS mm ps Am
section
variable {h0 : Hp} {p : OA} {n c : Nat} {l : List Ev} {k : Int} {ab mb lb ob fb mm a : Nat}
def RowsS (h0 : Hp) (F : Bag) (p : OA) (n : Nat) (rows : Rows) : Prop := ∀ h' B, St h0 h' (B + F) → RowsR h' p n rows
theorem RowsS.add {F G : Bag} {sp : OA} {sn : Nat} {rows : Rows} (r : RowsS h0 F sp sn rows) : RowsS h0 (G + F) sp sn rows := fun h' B s => r h' (B + G) (s.to (B := B + G + F))
theorem RowsS.u1 {F A : Bag} {h : Hp} {sp : OA} {sn : Nat} {rows : Rows} (r : RowsS h0 F sp sn rows) (s : St h0 h (A + F)) : RowsR h sp sn rows := r h A s
theorem RowsS.u2 {F A B : Bag} {h : Hp} {sp : OA} {sn : Nat} {rows : Rows} (r : RowsS h0 F sp sn rows) (s : St h0 h (A + (B + F))) : RowsR h sp sn rows := r h (A + B) s.to
theorem RowsS.u3 {F A B C : Bag} {h : Hp} {sp : OA} {sn : Nat} {rows : Rows} (r : RowsS h0 F sp sn rows) (s : St h0 h (A + (B + (C + F)))) : RowsR h sp sn rows := r h (A + (B + C)) s.to
theorem RowsS.of {q : OA} {m d : Nat} {rows : Rows} {B G : Bag} (na : RowsA (q, m, d) rows B) : RowsS h0 (B + G) q m rows := fun _ B' s => yalm na (s.to (B := B + (B' + G)))
theorem stMid {h0 h : Hp} {A B C : Bag} (s : St h0 h (A + (B + C))) : St h0 h (A + C) := St.drop (A := B) s.to
theorem yamd (o : List Nat) (i : Nat) : natI (o ++ [i]) = natI o ++ [(i : Int)] := by simp [natI]
def FromP (h0 : Hp) (k : Int) (l : List Ev) (ab mb lb ob fb mm a : Nat) (p : OA) (n c m : Nat) (rows : Rows) (cur : List Nat) (ps : List (ByteArray × Bool)) (F : Bag) (v : Value) (h' : Hp) : Prop :=
  ∃ (bb : Bool) (A' : Bag) (cur' : List Nat) (ps' : List (ByteArray × Bool)), v = .bool bb ∧ SrA ab mb lb ob fb mm a p n c cur' ps' A' ∧ St h0 h' (A' + F) ∧
    (bb = true → ∃ o, cur' = cur ++ o ∧ Lin k l o m.testBit rows) ∧ (bb = false → cur' = cur ∧ Grew k l ps ps' ∧ Fails k l m rows)
theorem yazp (ko : KindOk k) (tab : Tab10 h0) (r : EvsR h0 p n l) (hn : n ≤ 14) (sm : Sm l) (hk : KindP k l) (hall : AllM l l.length a) :
    ∀ (N m : Nat) (rows : Rows) (cur : List Nat) (ps : List (ByteArray × Bool)) (h : Hp) (A F : Bag) (sp : OA) (sn sc : Nat), lft n m.testBit < N → m < 2 ^ n → OkR k rows → RowsS h0 F sp sn rows → cur.length + lft n m.testBit ≤ n → Memo k l (lft n m.testBit) ps →
    SrA ab mb lb ob fb mm a p n c cur ps A → St h0 h (A + F) →
    yaah Tryz.prog 66 #[.int .i64 (m : Int), .agg #[.int .i64 k, .slice sp sn sc], ptr ab, ptr mb, ptr lb, ptr ob, ptr fb] h (FromP h0 k l ab mb lb ob fb mm a p n c m rows cur ps F) := by
  have hl := r.len
  have h2n : 2 ^ n ≤ 2 ^ 14 := Nat.pow_le_pow_right (by decide) hn
  have ha := yavd hall
  rw [hl] at ha
  intro N
  induction N with
  | zero => intro m rows cur ps h A F sp sn sc hlt; omega
  | succ N ih =>
    intro m rows cur ps h A F sp sn sc hlt hm ok rs hcl hmemo sa s
    obtain ⟨q, d, Ao, Am, rfl, oo, ma⟩ := sa
    refine zaz_call ?_
    rw [zaz_b0]
    refine s.new (cs := [.int .i64 k, .slice sp sn sc]) fun b1 h1 _ s1 => ?_
    refine yaan rfl ⟨_, s1.ld0, yaue rfl rfl (by omega) (by omega) (yaan rfl ⟨_, s1.ld0, ?_⟩)⟩
    refine condP (fun hall' => ?_) (fun hnall => ?_)
    · refine ⟨true, _, cur, ps, rfl, ⟨q, d, Ao, Am, rfl, oo, ma⟩, s1.drop, fun _ => ⟨[], by simp, ?_⟩, fun h => (by cases h)⟩
      rw [← hl] at hlt
      exact (yauw hall).1 (by omega)
    have hnc : ¬ Cpl l m.testBit := fun hc => hnall (by rw [(yauw hall).2 hc])
    have hsm := ko.sm ok
    refine ⟨_, _, _, _, s1.ld0, s1.ldB, ?_⟩
    have rr := rs.u2 s1
    refine (ybbx (tab.ext s1.ext) rr (by have := rr.len; omega) hsm.2 ⟨by omega, by omega⟩).mono fun v1 h2 ⟨hv1, x2⟩ => ⟨_, hv1, ?_⟩
    have s2 := s1.grow x2
    refine yaan rfl ⟨_, s2.ld0, ?_⟩
    have s2m : St h0 h2 (Am + (cA b1 [.int .i64 k, .slice sp sn sc] 24 + (cA ab [.int .i64 (a : Int)] 3 + (cA mb [.map (some mm)] 107 + (cA lb [.slice p n c] 25 + (cA ob [.slice q cur.length d] 29 +
      (cA fb [.func (.func 66) #[] #[ptr ab, ptr mb, ptr lb, ptr ob, ptr fb]] 108 + (Ao + F)))))))) := s2.to
    refine ma.look yars s2m fun v b hvb => ?_
    rcases hvb with ⟨hno, rfl, rfl⟩ | ⟨x, hyes, rfl, rfl⟩
    rotate_left
    · obtain ⟨hx, hf⟩ := yavz hmemo (by rw [hl]) ((yaxd ma.kd).1 hyes)
      subst hx
      refine ⟨_, rfl, yaax rfl ?_⟩
      exact ⟨false, _, cur, ps, rfl, ⟨q, d, Ao, Am, rfl, oo, ma⟩, s2.drop, fun h => (by cases h), fun _ => ⟨rfl, Grew.refl hmemo, hf⟩⟩
    refine ⟨_, rfl, yaau rfl (yaan rfl ⟨_, s2.ld0, ?_⟩)⟩
    refine ma.set yars s2m rfl fun h3 Am3 ma3 s3m => ?_
    have s3 : St h0 h3 ((cA ab [.int .i64 (a : Int)] 3 + (cA mb [.map (some mm)] 107 + (cA lb [.slice p n c] 25 + (cA ob [.slice q cur.length d] 29 +
      (cA fb [.func (.func 66) #[] #[ptr ab, ptr mb, ptr lb, ptr ob, ptr fb]] 108 + (Ao + Am3)))))) + (cA b1 [.int .i64 k, .slice sp sn sc] 24 + F)) := s3m.to
    refine yaan rfl ⟨_, _, _, s3.ld0, ?_⟩
    clear s3m s2m s2 s1 s
    refine ⟨fun x h' => ∃ (i : Nat) (A : Bag) (ps' : List (ByteArray × Bool)), x.1 = (i : Int) ∧ i ≤ n ∧ SrA ab mb lb ob fb mm a p n c cur ps' A ∧ St h0 h' (A + (cA b1 [.int .i64 k, .slice sp sn sc] 24 + F)) ∧ Grew k l (setk ps (kyS m rows) true) ps' ∧ ∀ j, j < i → ∀ o, ¬ Lin k l (j :: o) m.testBit rows,
      fun x _ => n - x.1.toNat, ⟨0, _, _, rfl, by omega, ⟨q, d, Ao, Am3, rfl, oo, ma3⟩, s3, fun e he => ⟨?_, .inl he⟩, fun j hj => absurd hj (by omega)⟩, ?_⟩
    · rcases yaii he with rfl | he
      · rfl
      · exact (hmemo e he).1
    rintro ⟨_, _⟩ h4 ⟨i, A4, ps4, rfl, hin, ⟨q, d, Ao, Am, rfl, oo, ma⟩, s4, g4, i4⟩
    dsimp only
    rw [zaz_b1]
    refine condP (fun hlt' => ?_) (fun hge => ?_)
    rotate_left
    · obtain rfl : i = n := by omega
      rw [zaz_b4]
      have hf : Fails k l m rows := fun ⟨o, ho⟩ => by
        cases o with
        | nil => exact hnc ho
        | cons j o => exact i4 j (by have := ho.1; omega) o ho
      exact ⟨false, _, cur, ps4, rfl, ⟨q, d, Ao, Am, rfl, oo, ma⟩, (St.drop (A := cA b1 [.int .i64 k, .slice sp sn sc] 24) s4.to), fun h => (by cases h), fun _ => ⟨rfl, yaxl g4 hf, hf⟩⟩
    have hi : i < n := by omega
    have hmem : l.getD i dEv ∈ l := yaap (by omega)
    have hov : OpV k (l.getD i dEv).t.co (l.getD i dEv).zs := hk _ hmem
    -- the next event
    have skip : ∀ {h5 : Hp} {A5 : Bag} {ps5 : List (ByteArray × Bool)}, SrA ab mb lb ob fb mm a p n c cur ps5 A5 → St h0 h5 (A5 + (cA b1 [.int .i64 k, .slice sp sn sc] 24 + F)) → Grew k l (setk ps (kyS m rows) true) ps5 → (∀ o, ¬ Lin k l (i :: o) m.testBit rows) →
        zaz_b2 (m : Int) (some ⟨lb, 0, none⟩) (some ⟨ob, 0, none⟩) (some ⟨fb, 0, none⟩) (some ⟨b1, 0, none⟩) p n c (n : Int) (i : Int) h5 (fun s' h' => (∃ (i : Nat) (A : Bag) (ps' : List (ByteArray × Bool)), s'.1 = (i : Int) ∧ i ≤ n ∧ SrA ab mb lb ob fb mm a p n c cur ps' A ∧ St h0 h' (A + (cA b1 [.int .i64 k, .slice sp sn sc] 24 + F)) ∧ Grew k l (setk ps (kyS m rows) true) ps' ∧ ∀ j, j < i → ∀ o, ¬ Lin k l (j :: o) m.testBit rows) ∧ n - s'.1.toNat < n - ((i : Nat) : Int).toNat) (FromP h0 k l ab mb lb ob fb mm a p n c m rows cur ps F) := fun sa5 s5 g5 hno5 => by
      rw [zaz_b2]
      refine ⟨⟨by omega, by omega⟩, ⟨i + 1, _, _, by push_cast; rfl, by omega, sa5, s5, g5, fun j hj o => ?_⟩, by simp only; omega⟩
      rcases Nat.lt_or_ge j i with h | h
      · exact i4 j h o
      · obtain rfl : j = i := by omega
        exact hno5 o
    generalize hnx : (fun (s' : Int × Unit) (h' : Hp) => (∃ (i : Nat) (A : Bag) (ps' : List (ByteArray × Bool)), s'.1 = (i : Int) ∧ i ≤ n ∧ SrA ab mb lb ob fb mm a p n c cur ps' A ∧ St h0 h' (A + (cA b1 [.int .i64 k, .slice sp sn sc] 24 + F)) ∧ Grew k l (setk ps (kyS m rows) true) ps' ∧ ∀ j, j < i → ∀ o, ¬ Lin k l (j :: o) m.testBit rows) ∧ n - s'.1.toNat < n - ((i : Nat) : Int).toNat) = nx at skip ⊢
    clear hnx
    refine (r.ext s4.ext).cp s4 rfl hi fun b2 h5 _ s5 => maskB (by omega) (by omega) ?_
    refine condP (fun hb => skip ⟨q, d, Ao, Am, rfl, oo, ma⟩ s5.drop g4 fun o ho => ?_) (fun hb => ?_)
    · have := ho.2.1.1
      rw [yauk.1 hb] at this; cases this
    have hb0 : m.testBit i = false := by
      cases hc : m.testBit i with
      | false => rfl
      | true => exact absurd (yauk.2 hc) hb
    refine yaan rfl ⟨_, _, _, s5.ld0, ldEvB s5.blk ?_⟩
    refine (yavp (r.ext s5.ext) (by omega) (by omega)).mono fun v5 h6 ⟨⟨bf, hv5, hbf⟩, x6⟩ => ⟨_, hv5, ?_⟩
    have s6 := s5.grow x6
    refine yaat (fun hf => skip ⟨q, d, Ao, Am, rfl, oo, ma⟩ s6.drop g4 fun o ho => ?_) (fun hf => ?_)
    · have := hbf.2 fun j hj hd => ho.2.1.2 j (by omega) hd
      rw [this] at hf; cases hf
    have hnxt : Nxt l m.testBit i := ⟨hb0, fun j hj hd => hbf.1 (by simpa using hf) j (by omega) hd⟩
    rw [zaz_b3]
    refine yaan rfl ⟨_, _, _, _, s6.ld0, s6.ldB, yaan rfl ⟨_, _, _, _, s6.blk.cell 1, s6.blk.cell 2, ?_⟩⟩
    have em := r.at_ hi
    have hz := (sm _ hmem).1
    have hzl := em.1.1.len
    have rr6 := rs.u3 s6
    refine (ko.ap ok hov rr6 (em.1.1.ext s6.ext) em.1.2 (by omega)).mono fun v6 h7 ⟨q7, m7, d7, B7, hv6, na7, t7⟩ => ⟨_, _, _, _, _, _, _, _, _, _, hv6, ?_⟩
    have s7 := s6.join t7
    rw [Bag.add_zero] at s7
    refine s7.new (cs := [.int .i64 0, .slice none 0 0]) fun b3 h8 _ s8 => s8.new (cs := [.int .i64 0, .int .i64 0, .slice none 0 0]) fun b4 h9 _ s9 => ?_
    refine s9.wr0 fun h10 s10 => s10.wrB fun h11 s11 => s11.wr0 fun h12 s12 => s12.wrB fun h13 s13 => s13.wrB fun h14 s14 => yaau rfl ?_
    have s14 : St h0 h14 (cA b4 [.int .i64 (stepR k rows (l.getD i dEv).t.co (l.getD i dEv).zs).2.1, .int .i64 (stepR k rows (l.getD i dEv).t.co (l.getD i dEv).zs).2.2, .slice none 0 0] 58 + (cA b3 [.int .i64 k, .slice q7 m7 d7] 24 + (B7 + (cA b2 (evC (l.getD i dEv).t) 60 + ((cA ab [.int .i64 (a : Int)] 3 + (cA mb [.map (some mm)] 107 + (cA lb [.slice p n c] 25 + (cA ob [.slice q cur.length d] 29 +
      (cA fb [.func (.func 66) #[] #[ptr ab, ptr mb, ptr lb, ptr ob, ptr fb]] 108 + (Ao + Am)))))) + (cA b1 [.int .i64 k, .slice sp sn sc] 24 + F)))))) := s14.to
    have fin : ∀ h', Ext h14 h' → stepE k rows (l.getD i dEv) = some (stepR k rows (l.getD i dEv).t.co (l.getD i dEv).zs).1 →
        zaz_b5 (m : Int) (some ⟨lb, 0, none⟩) (some ⟨ob, 0, none⟩) (some ⟨fb, 0, none⟩) (some ⟨b1, 0, none⟩) (i : Int) (some ⟨b3, 0, none⟩) p n c (n : Int) (i : Int) h' nx (FromP h0 k l ab mb lb ob fb mm a p n c m rows cur ps F) := fun h' x' hst => by
      have t := s14.grow x'
      rw [zaz_b5]
      refine yaan rfl ⟨_, _, _, t.ld0, ?_⟩
      have t1 : St h0 h' (Ao + (cA b4 [.int .i64 (stepR k rows (l.getD i dEv).t.co (l.getD i dEv).zs).2.1, .int .i64 (stepR k rows (l.getD i dEv).t.co (l.getD i dEv).zs).2.2, .slice none 0 0] 58 + (cA b3 [.int .i64 k, .slice q7 m7 d7] 24 + (B7 + (cA b2 (evC (l.getD i dEv).t) 60 + ((cA ab [.int .i64 (a : Int)] 3 + (cA mb [.map (some mm)] 107 + (cA lb [.slice p n c] 25 + (cA ob [.slice q cur.length d] 29 +
        (cA fb [.func (.func 66) #[] #[ptr ab, ptr mb, ptr lb, ptr ob, ptr fb]] 108 + Am))))) + (cA b1 [.int .i64 k, .slice sp sn sc] 24 + F))))))) := t.to
      refine yank yaku t1 oo (x := (i : Int)) rfl rfl (by omega) fun q' d' h8 Ao' oo' t8 => yaan rfl (t8.wr0 fun h9 t9 => yaan rfl ⟨_, t9.ld0, ?_⟩)
      refine maskS (by omega) (by omega) (yaan rfl ⟨_, _, _, _, t9.ld0, t9.ldB, ?_⟩)
      have e1 : (cur ++ [i]).length = cur.length + 1 := by simp
      have t9 : St h0 h9 ((cA ab [.int .i64 (a : Int)] 3 + (cA mb [.map (some mm)] 107 + (cA lb [.slice p n c] 25 + (cA ob [.slice q' (cur.length + 1) d'] 29 +
        (cA fb [.func (.func 66) #[] #[ptr ab, ptr mb, ptr lb, ptr ob, ptr fb]] 108 + (Ao' + Am)))))) +
        ((cA b4 [.int .i64 (stepR k rows (l.getD i dEv).t.co (l.getD i dEv).zs).2.1, .int .i64 (stepR k rows (l.getD i dEv).t.co (l.getD i dEv).zs).2.2, .slice none 0 0] 58 + (cA b3 [.int .i64 k, .slice q7 m7 d7] 24 + (B7 + cA b2 (evC (l.getD i dEv).t) 60))) + (cA b1 [.int .i64 k, .slice sp sn sc] 24 + F))) := t9.to
      have sa9 : SrA ab mb lb ob fb mm a p n c (cur ++ [i]) ps4 (cA ab [.int .i64 (a : Int)] 3 + (cA mb [.map (some mm)] 107 + (cA lb [.slice p n c] 25 + (cA ob [.slice q' (cur.length + 1) d'] 29 +
        (cA fb [.func (.func 66) #[] #[ptr ab, ptr mb, ptr lb, ptr ob, ptr fb]] 108 + (Ao' + Am)))))) := ⟨q', d', Ao', Am, by rw [e1], by rw [e1, yamd]; exact oo', ma⟩
      have hlf := yawp hi hb0
      rw [← yajk] at hlf
      have rs9 : RowsS h0 ((cA b4 [.int .i64 (stepR k rows (l.getD i dEv).t.co (l.getD i dEv).zs).2.1, .int .i64 (stepR k rows (l.getD i dEv).t.co (l.getD i dEv).zs).2.2, .slice none 0 0] 58 + (cA b3 [.int .i64 k, .slice q7 m7 d7] 24 + (B7 + cA b2 (evC (l.getD i dEv).t) 60))) + (cA b1 [.int .i64 k, .slice sp sn sc] 24 + F)) q7 m7 (stepR k rows (l.getD i dEv).t.co (l.getD i dEv).zs).1 := fun h2 B2 s2 => yalm (G := B2 + ((cA b4 [.int .i64 (stepR k rows (l.getD i dEv).t.co (l.getD i dEv).zs).2.1, .int .i64 (stepR k rows (l.getD i dEv).t.co (l.getD i dEv).zs).2.2, .slice none 0 0] 58 + (cA b3 [.int .i64 k, .slice q7 m7 d7] 24 + cA b2 (evC (l.getD i dEv).t) 60)) + (cA b1 [.int .i64 k, .slice sp sn sc] 24 + F))) na7 s2.to
      have hm9 : m ||| 2 ^ i < 2 ^ n := yays hm hi
      refine yahq (args' := #[.int .i64 ((m ||| 2 ^ i : Nat) : Int), .agg #[.int .i64 k, .slice q7 m7 d7], ptr ab, ptr mb, ptr lb, ptr ob, ptr fb]) (by kernel_rfl) ((ih (m ||| 2 ^ i) _ (cur ++ [i]) ps4 h9 _ _ q7 m7 d7 (by omega) hm9 (ko.st ok hov) rs9 (by rw [e1]; omega) (g4.memo (yavu hmemo (by rw [hl]) (by omega))) sa9 t9).mono ?_) rfl
      rintro v10 h28 ⟨bb, A10, cur10, ps10, hv10, sa10, t10, ht10, hf10⟩
      refine ⟨_, hv10, yaat (fun hb => ?_) (fun hb => ?_)⟩
      · obtain ⟨o, ho1, ho2⟩ := ht10 hb
        refine ⟨true, A10, cur10, ps10, rfl, sa10, stMid (stMid t10), fun _ => ⟨i :: o, by rw [ho1, List.append_assoc]; rfl, by omega, hnxt, _, hst, ?_⟩, fun h => (by cases h)⟩
        rw [← yajk]
        exact ho2
      · obtain ⟨rfl, hg10, hfl⟩ := hf10 hb
        obtain ⟨q11, d11, Ao11, Am11, rfl, oo11, ma11⟩ := sa10
        rw [e1] at t10 oo11
        refine yaan rfl ⟨_, _, _, t10.ld0, yaan rfl ⟨_, _, _, t10.ld0, ⟨by omega, by omega⟩, ⟨Int.le_refl _, by omega, by have := oo11.cap; omega⟩, yaan rfl ?_⟩⟩
        rw [show Int.toNat (0 : Int) = 0 from rfl, yaej, Nat.sub_zero, Nat.sub_zero, show Int.toNat (((cur.length + 1 : Nat) : Int) - 1) = cur.length by omega]
        refine t10.wr0 fun h29 t29 => ?_
        have oo29 := oo11.take (i := cur.length) (by omega)
        rw [yamd, List.take_left' (by simp)] at oo29
        have t29 : St h0 h29 ((cA ab [.int .i64 (a : Int)] 3 + (cA mb [.map (some mm)] 107 + (cA lb [.slice p n c] 25 + (cA ob [.slice q11 cur.length d11] 29 +
          (cA fb [.func (.func 66) #[] #[ptr ab, ptr mb, ptr lb, ptr ob, ptr fb]] 108 + (Ao11 + Am11)))))) + ((cA b4 [.int .i64 (stepR k rows (l.getD i dEv).t.co (l.getD i dEv).zs).2.1, .int .i64 (stepR k rows (l.getD i dEv).t.co (l.getD i dEv).zs).2.2, .slice none 0 0] 58 + (cA b3 [.int .i64 k, .slice q7 m7 d7] 24 + (B7 + cA b2 (evC (l.getD i dEv).t) 60))) + (cA b1 [.int .i64 k, .slice sp sn sc] 24 + F))) := t29.to
        refine skip ⟨q11, d11, Ao11, Am11, rfl, oo29, ma11⟩ (stMid t29) (g4.trans hg10) fun o ho => hfl ⟨o, ?_⟩
        obtain ⟨_, _, r', h1, h2⟩ := ho
        rw [hst] at h1
        cases h1
        rw [yajk]
        exact h2
    have no : ∀ h', Ext h14 h' → stepE k rows (l.getD i dEv) = none → zaz_b2 (m : Int) (some ⟨lb, 0, none⟩) (some ⟨ob, 0, none⟩) (some ⟨fb, 0, none⟩) (some ⟨b1, 0, none⟩) p n c (n : Int) (i : Int) h' nx (FromP h0 k l ab mb lb ob fb mm a p n c m rows cur ps F) := fun h' x' hst =>
      skip ⟨q, d, Ao, Am, rfl, oo, ma⟩ (s14.grow x').drop.drop.drop.drop g4 fun o ho => by
        obtain ⟨_, _, r', h1, _⟩ := ho
        rw [hst] at h1; cases h1
    have k2 : Blk h14 b2 (evC (l.getD i dEv).t) 60 := (s14.find b2).blk
    refine yaan rfl (ldEvB k2 ((yadd _ _).mono fun v7 h23 ⟨hv7, x23⟩ => ⟨_, hv7, ?_⟩))
    have s23 := s14.grow x23
    refine condP (fun hc => ⟨_, _, _, _, _, s23.ld0, s23.ldB, s23.ldB, yaan rfl ⟨_, _, _, _, _, (k2.ext x23).cell 3, (k2.ext x23).cell 4, (k2.ext x23).cell 5, ?_⟩⟩) (fun hc => fin h23 x23 (if_neg fun h => hc h.1))
    refine (yale (RdT.nil _ none) (em.2.1.ext s23.ext) (Nat.zero_le _)).mono fun v8 h24 ⟨hv8, x24⟩ => ⟨_, hv8, condN (fun hne => no h24 (x23.trans x24) (if_pos ⟨hc, fun h => hne ⟨h.1, h.2.1, h.2.2.symm⟩⟩)) (fun heq => fin h24 (x23.trans x24) (if_neg fun h => h.2 ⟨heq.1, heq.2.1, heq.2.2.symm⟩))⟩
end
abbrev D0 : Nat → Bool := fun _ => false
theorem tb0 : Nat.testBit 0 = D0 := by funext i; exact Nat.zero_testBit i
section
variable {h : Hp} {p : OA} {n c : Nat} {l : List Ev} {k : Int} {sp : OA} {sn sc : Nat} {rows : Rows}
def SrP (k : Int) (l : List Ev) (rows : Rows) (h : Hp) (bb : Bool) (q : OA) (m d : Nat) (h' : Hp) : Prop :=
  (bb = true ∧ ∃ A o, m = o.length ∧ Sl TI q m d (natI o) A ∧ St h h' A ∧ Lin k l o D0 rows) ∨ (bb = false ∧ q = none ∧ m = 0 ∧ d = 0 ∧ Ext h h' ∧ ∀ o, ¬ Lin k l o D0 rows)
theorem yaiq (ko : KindOk k) (tab : Tab10 h) (r : EvsR h p n l) (hn : n ≤ 14) (sm : Sm l) (hk : KindP k l) (ok : OkR k rows) (rr : RowsR h sp sn rows) :
    yaah Tryz.prog 36 #[.agg #[.int .i64 k, .slice sp sn sc], .slice p n c] h (fun v h' => ∃ bb q m d, v = .tuple #[.bool bb, .slice q m d] ∧ SrP k l rows h bb q m d h') := by
  have hl := r.len
  refine zay_call ?_
  rw [zay_b0]
  refine (St.start h).new (cs := [.int .i64 k, .slice sp sn sc]) fun b1 h1 _ s => s.new (cs := [.slice p n c]) fun b2 h2 _ s => s.new (cs := [.int .i64 0]) fun b3 h3 _ s => s.wr0 fun h4 s => ?_
  refine ⟨_, _, _, s.ld0, ?_⟩
  have s4 : St h h4 (cA b3 [.int .i64 ((0 : Nat) : Int)] 3 + (cA b2 [.slice p n c] 25 + (cA b1 [.int .i64 k, .slice sp sn sc] 24 + 0))) := s
  refine ⟨fun x h' => ∃ i a : Nat, x.1 = (i : Int) ∧ i ≤ n ∧ AllM l i a ∧ St h h' (cA b3 [.int .i64 (a : Int)] 3 + (cA b2 [.slice p n c] 25 + (cA b1 [.int .i64 k, .slice sp sn sc] 24 + 0))), fun x _ => n - x.1.toNat, ⟨0, 0, rfl, by omega, yate, s4⟩, ?_⟩
  rintro ⟨_, _⟩ h5 ⟨i, a, rfl, hin, hall, s5⟩
  dsimp only
  rw [zay_b1]
  refine condP (fun hlt => ?_) (fun hge => ?_)
  · have h2i : 2 ^ i ≤ 2 ^ 14 := Nat.pow_le_pow_right (by decide) (by omega)
    have ha := yavd hall
    refine (r.ext s5.ext).cp s5 rfl (by omega) fun b4 h6 _ s6 => ldEvB s6.blk ((yadd _ _).mono fun v h7 ⟨hv, x7⟩ => ⟨_, hv, ?_⟩)
    have s7 := (s6.grow x7).drop
    refine condP (fun hc => ?_) (fun hc => ?_)
    · refine yaan rfl ⟨_, s7.ld0, maskS (by omega) (by omega) (yaan rfl (s7.wr0 fun h8 s8 => ?_))⟩
      rw [zay_b2]
      exact ⟨⟨by omega, by omega⟩, ⟨i + 1, _, by push_cast; rfl, by omega, yayj hall hc, s8⟩, by simp only; omega⟩
    · rw [zay_b2]
      exact ⟨⟨by omega, by omega⟩, ⟨i + 1, a, by push_cast; rfl, by omega, yayv hall hc, s7⟩, by simp only; omega⟩
  · obtain rfl : i = n := by omega
    rw [← hl] at hall
    rw [zay_b3]
    refine s5.newMap MS fun mm h6 Am _ ma s6 => s6.new (cs := [.map none]) fun mb h7 _ s7 => s7.wr0 fun h8 s8 => s8.new (cs := [.slice none 0 0]) fun ob h9 _ s9 => s9.new (cs := [.nilFunc]) fun fb h10 _ s10 => s10.wr0 fun h11 s11 => ?_
    refine ⟨_, s11.ld0, yaan rfl ⟨_, _, _, _, s11.ld0, s11.ldB, ?_⟩⟩
    have s11 : St h h11 ((cA b3 [.int .i64 (a : Int)] 3 + (cA mb [.map (some mm)] 107 + (cA b2 [.slice p i c] 25 + (cA ob [.slice none ([] : List Nat).length 0] 29 +
      (cA fb [.func (.func 66) #[] #[ptr b3, ptr mb, ptr b2, ptr ob, ptr fb]] 108 + (0 + Am)))))) + (cA b1 [.int .i64 k, .slice sp sn sc] 24 + 0)) := s11.to (by simp only [Bag.zero_add, List.length_nil]; ac_rfl)
    have hz : lft i (Nat.testBit 0) = i := yawq
    refine yahq (args' := #[.int .i64 ((0 : Nat) : Int), .agg #[.int .i64 k, .slice sp sn sc], ptr b3, ptr mb, ptr b2, ptr ob, ptr fb]) (by kernel_rfl) ((yazp ko tab r hn sm hk hall (i + 1) 0 rows [] [] h11 _ _ sp sn sc (by omega) (Nat.two_pow_pos _) ok (fun h' B s => rr.ext s.ext) (by rw [hz]; simp) (fun e he => nomatch he) ⟨none, 0, 0, Am, rfl, Sl.nil, ma⟩ s11).mono ?_) rfl
    rintro v h12 ⟨bb, A, cur, ps, hv, sa, s12, ht, hf⟩
    refine ⟨_, hv, ?_⟩
    rw [tb0] at ht
    cases bb with
    | true =>
      obtain ⟨o, ho1, ho2⟩ := ht rfl
      rw [List.nil_append] at ho1
      subst ho1
      obtain ⟨q, d, Ao, Am', rfl, oo, _⟩ := sa
      refine yaau rfl ⟨_, _, _, s12.ld0, true, q, cur.length, d, rfl, .inl ⟨rfl, Ao, cur, rfl, oo, ?_, ho2⟩⟩
      have := (s12.to (B := (cA b3 [.int .i64 (a : Int)] 3 + (cA mb [.map (some mm)] 107 + (cA b2 [.slice p i c] 25 + (cA ob [.slice q cur.length d] 29 +
        (cA fb [.func (.func 66) #[] #[ptr b3, ptr mb, ptr b2, ptr ob, ptr fb]] 108 + (Am' + (cA b1 [.int .i64 k, .slice sp sn sc] 24 + 0))))))) + Ao)).drop
      exact this
    | false =>
      obtain ⟨_, _, hfl⟩ := hf rfl
      refine yaax rfl ⟨false, none, 0, 0, rfl, .inr ⟨rfl, rfl, rfl, rfl, s12.ext, fun o ho => hfl ⟨o, ?_⟩⟩⟩
      rw [tb0]
      exact ho
def ChkP (k : Int) (l : List Ev) (rows : Rows) (most : Int) (h : Hp) (v : Value) (h' : Hp) : Prop :=
  ∃ bb q m d e, v = .tuple #[.bool bb, .slice q m d, .int .i64 e] ∧ givE l rows k most e ∧ ((e ≠ 0 ∧ bb = false ∧ m = 0 ∧ Ext h h') ∨ (e = 0 ∧ SrP k l rows h bb q m d h'))
theorem SrP.base {h h1 h' : Hp} {bb : Bool} {q : OA} {m d : Nat} (s : SrP k l rows h1 bb q m d h') (x : Ext h h1) : SrP k l rows h bb q m d h' := by
  rcases s with ⟨h1, A, o, h2, h3, h4, h5⟩ | ⟨h1, h2, h3, h4, h5, h6⟩
  · exact .inl ⟨h1, A, o, h2, h3, h4.base x, h5⟩
  · exact .inr ⟨h1, h2, h3, h4, x.trans h5, h6⟩
theorem SrP.ext {h h' : Hp} {bb : Bool} {q : OA} {m d : Nat} (s : SrP k l rows h bb q m d h') : Ext h h' := by
  rcases s with ⟨_, _, _, _, _, s, _⟩ | ⟨_, _, _, _, x, _⟩
  · exact s.ext
  · exact x
theorem yajh {most : Int} (ko : KindOk k) (tab : Tab10 h) (r : EvsR h p n l) (sm : Sm l) (rr : RowsR h sp sn rows) (hr : ∀ r ∈ rows, r.length ≤ 1000) :
    yaah Tryz.prog 10 #[.agg #[.int .i64 k, .slice sp sn sc], .slice p n c, .int .i64 most] h (ChkP k l rows most h) := by
  have hl := r.len
  refine zai_call ?_
  rw [zai_b0]
  refine (St.start h).new (cs := [.int .i64 k, .slice sp sn sc]) fun b1 h1 _ s => ⟨_, _, _, _, s.ld0, s.ldB, ?_⟩
  refine (yaqw ko.va (r.ext s.ext) sm (rr.ext s.ext) hr).mono fun v h2 ⟨e, hv, hg, x2⟩ => ⟨_, hv, ?_⟩
  have s2 := s.grow x2
  refine condN (fun hne => ⟨false, none, 0, 0, e, rfl, hg, .inl ⟨hne, rfl, rfl, s2.ext⟩⟩) (fun he => ⟨_, _, _, _, s2.ld0, s2.ldB, ?_⟩)
  subst he
  have hg' := hg
  rcases hg' with ⟨_, h0⟩ | ⟨⟨ok, hv, hk⟩, ⟨_, h0⟩ | ⟨hm, ⟨_, h0⟩ | ⟨hlen, _⟩⟩⟩
  · cases h0
  · cases h0
  · cases h0
  refine (yaiq ko (tab.ext s2.ext) (r.ext s2.ext) (by omega) sm hk ok (rr.ext s2.ext)).mono fun v h3 ⟨bb, q, m, d, hv3, hs⟩ => ⟨_, _, _, _, hv3, bb, q, m, d, 0, rfl, hg, .inr ⟨rfl, hs.base s2.ext⟩⟩
end
abbrev del (iv : Int) (xs : List Int) : List Int := xs.filter fun z => decide (z ≠ iv)
abbrev isV (ib : Nat) : Value := .func (.func 63) #[] #[ptr ib]
theorem yayt {ib : Nat} {iv z : Int} {h : Hp} (hc : cell h ⟨ib, 0, none⟩ = some (.int .i64 iv)) : yaah Tryz.prog 63 #[.int .i64 z, ptr ib] h (fun v h' => v = .bool (decide (z = iv)) ∧ h' = h) := by
  refine zak_call ?_
  rw [zak_b0]
  exact yaan rfl ⟨_, hc, rfl, rfl⟩
theorem ybad {ib : Nat} {iv : Int} {h : Hp} {p : OA} {n c : Nat} {xs : List Int} (hc : cell h ⟨ib, 0, none⟩ = some (.int .i64 iv)) (r : RdT TI h p n xs) (hn : n ≤ 1000000) :
    yaah Tryz.prog 98 #[.slice p n c, isV ib] h (fun v h' => h' = h ∧ ∃ x : Int, v = .int .i64 x ∧ ((x = -1 ∧ ∀ z ∈ xs, z ≠ iv) ∨ ∃ i : Nat, i < n ∧ x = (i : Int) ∧ xs.getD i 0 = iv ∧ ∀ z ∈ xs.take i, z ≠ iv)) := by
  have hl := r.len
  refine zcw_call ?_
  rw [zcw_b0]
  refine ⟨fun s h' => h' = h ∧ ∃ i : Nat, s.1 = i ∧ i ≤ n ∧ ∀ z ∈ xs.take i, z ≠ iv, fun s _ => n - s.1.toNat, ⟨rfl, 0, rfl, by omega, fun z hz => by simp at hz⟩, ?_⟩
  rintro ⟨_, _⟩ h1 ⟨rfl, i, rfl, hin, hno⟩
  dsimp only
  rw [zcw_b1]
  refine condP (fun hlt => ?_) (fun hge => ?_)
  · have hi : i < xs.length := by omega
    refine ldI r rfl (by omega) (yahq (args' := #[.int .i64 (xs.getD i 0), ptr ib]) (by kernel_rfl) ((yayt (iv := iv) hc).mono fun v h2 ⟨hv, hh⟩ => ⟨_, hv, ?_⟩) rfl)
    subst hh
    refine condP (fun hy => ⟨rfl, _, rfl, .inr ⟨i, by omega, rfl, hy, hno⟩⟩) (fun hy => ?_)
    rw [zcw_b2]
    refine ⟨⟨by omega, by omega⟩, ⟨rfl, i + 1, by simp only; omega, by omega, fun z hz => ?_⟩, by simp only; omega⟩
    rw [List.take_succ_eq_append_getElem hi] at hz
    rcases List.mem_append.1 hz with hz | hz
    · exact hno z hz
    · rw [List.mem_singleton.1 hz, ← yaaf (d := 0) hi]; exact hy
  · rw [zcw_b3]
    rw [List.take_of_length_le (by omega)] at hno
    exact ⟨rfl, _, rfl, .inl ⟨rfl, hno⟩⟩
theorem yaqp {h0 h : Hp} {ib : Nat} {iv : Int} {p : OA} {n c : Nat} {xs : List Int} {A G : Bag} {e : TypeId} (s : St h0 h (A + (cA ib [.int .i64 iv] e + G))) (a : Sl TI p n c xs A) (hn : n ≤ 1000000) :
    yaah Tryz.prog 61 #[.slice p n c, isV ib] h (fun v h' => ∃ m A', v = .slice p m c ∧ Sl TI p m c (del iv xs) A' ∧ St h0 h' (A' + (cA ib [.int .i64 iv] e + G))) := by
  have hl := a.len
  have hcap := a.cap
  refine zcr_call ?_
  rw [zcr_b0]
  refine (ybad (iv := iv) s.ld0 (a.rd s) hn).mono fun v h1 ⟨hh, x, hv, hx⟩ => ⟨_, hv, ?_⟩
  subst hh
  rcases hx with ⟨rfl, hno⟩ | ⟨i, hi, rfl, hiv, hno⟩
  · refine yaax rfl ⟨n, A, rfl, ?_, s⟩
    rw [show del iv xs = xs from List.filter_eq_self.2 fun z hz => decide_eq_true (hno z hz)]
    exact a
  refine yaau (decide_eq_false (by omega)) ⟨⟨by omega, by omega⟩, ?_⟩
  refine ⟨fun x h' => ∃ (i j : Nat) (ys : List Int) (A : Bag), x.1 = (i : Int) ∧ x.2.1 = (j : Int) ∧ i < j ∧ j ≤ n ∧ ys.take i = del iv (xs.take j) ∧ ys.drop j = xs.drop j ∧ Sl TI p n c ys A ∧ St h0 h' (A + (cA ib [.int .i64 iv] e + G)), fun x _ => n - x.2.1.toNat,
    ⟨i, i + 1, xs, A, rfl, by push_cast; rfl, by omega, by omega, ?_, rfl, a, s⟩, ?_⟩
  · rw [List.take_succ_eq_append_getElem (by omega)]
    unfold del
    rw [List.filter_append, List.filter_eq_self.2 fun z hz => decide_eq_true (hno z hz)]
    rw [yaaf (by omega)] at hiv
    simp [hiv]
  rintro ⟨_, _, _⟩ h2 ⟨i, j, ys, A, rfl, rfl, hij, hj, hy1, hy2, a, s⟩
  dsimp only
  have hyl := a.len
  rw [zcr_b1]
  refine condP (fun hlt => ?_) (fun hge => ?_)
  · have hj' : j < n := by omega
    have hz : ys.getD j 0 = xs.getD j 0 := by
      have : (ys.drop j).getD 0 0 = (xs.drop j).getD 0 0 := by rw [hy2]
      simpa [List.getD] using this
    have hd : ys.drop (j + 1) = xs.drop (j + 1) := by
      have : (ys.drop j).drop 1 = (xs.drop j).drop 1 := by rw [hy2]
      simpa using this
    refine ldI (a.rd s) rfl hj' (yahq (args' := #[.int .i64 (ys.getD j 0), ptr ib]) (by kernel_rfl) ((yayt (iv := iv) s.ld0).mono fun v h3 ⟨hv, hh⟩ => ⟨_, hv, ?_⟩) rfl)
    subst hh
    rw [hz]
    refine condN (fun hne => ?_) (fun heq => ?_)
    · refine Sl.wrI a s (by omega) (by omega) rfl (x := xs.getD j 0) rfl fun h4 A4 a4 s4 => ⟨⟨by omega, by omega⟩, ?_⟩
      rw [zcr_b2]
      refine ⟨⟨by omega, by omega⟩, ⟨i + 1, j + 1, _, A4, by push_cast; rfl, by push_cast; rfl, by omega, by omega, ?_, ?_, a4, s4⟩, by simp only; omega⟩
      · rw [Int.toNat_natCast, List.set_eq_take_append_cons_drop, if_pos (by omega), show ys.take i ++ xs.getD j 0 :: ys.drop (i + 1) = (ys.take i ++ [xs.getD j 0]) ++ ys.drop (i + 1) by simp, List.take_left' (by rw [List.length_append, List.length_take, List.length_singleton]; omega),
          show xs.take (j + 1) = xs.take j ++ [xs.getD j 0] by rw [yaaf (by omega)]; exact List.take_succ_eq_append_getElem (by omega)]
        unfold del at hy1 ⊢
        rw [List.filter_append, ← hy1]
        congr 1
        have : decide (xs.getD j 0 ≠ iv) = true := decide_eq_true hne
        unfold List.filter
        simp only [this, List.filter_nil]
      · rw [Int.toNat_natCast, List.drop_set_of_lt (by omega), hd]
    · rw [zcr_b2]
      refine ⟨⟨by omega, by omega⟩, ⟨i, j + 1, ys, A, rfl, by push_cast; rfl, by omega, by omega, ?_, hd, a, s⟩, by simp only; omega⟩
      rw [hy1, List.take_succ_eq_append_getElem (by omega)]
      unfold del
      rw [List.filter_append]
      rw [yaaf (by omega)] at heq
      simp [heq]
  · obtain rfl : j = n := by omega
    rw [zcr_b3]
    refine ⟨⟨by omega, by omega, by omega⟩, ?_⟩
    rw [Int.toNat_natCast, Int.toNat_natCast]
    refine yard yaku a s (by omega) fun h3 A3 a3 s3 => ⟨⟨by omega, by omega, by omega⟩, ?_⟩
    rw [show Int.toNat (0 : Int) = 0 from rfl, yaej, Nat.sub_zero, Nat.sub_zero]
    rw [hy1, List.take_of_length_le (by omega)] at a3
    exact ⟨i, A3, rfl, a3, s3⟩
def mval (h : Hp) (p : OA) : Nat := match p with
  | some a => match cell h a with | some (.int _ z) => (z + 1).toNat | _ => 0
  | none => 0
theorem yaun {h : Hp} {a : Addr} {z : Int} (hc : cell h a = some (.int .i64 z)) : mval h (some a) = (z + 1).toNat := by unfold mval; simp only; rw [hc]
theorem yaox {h : Hp} {p : OA} {c : Nat} {e0 e1 : Ev} {k : Int} {sp : OA} {sn sc : Nat} {rows : Rows} (ko : KindOk k) (tab : Tab10 h) (r : EvsR h p 2 [e0, e1]) (sm : Sm [e0, e1]) (ok : OkR k rows) (hv : yadq [e0, e1]) (hk : KindP k [e0, e1]) (rr : RowsR h sp sn rows) (hr : ∀ r ∈ rows, r.length ≤ 1000)
    (hno : ∀ o, ¬ Lin k [e0, e1] o D0 rows) (h0 : ∃ o, Lin k [e0] o D0 rows) (h1 : ∃ o, Lin k [e1] o D0 rows) :
    yaah Tryz.prog 28 #[.agg #[.int .i64 k, .slice sp sn sc], .slice p 2 c, .int .i64 5] h (fun v h' => ∃ q d A, v = .tuple #[.slice q 2 d, .int .i64 0] ∧ Sl TI q 2 d [0, 1] A ∧ St h h' A) := by
  refine zaj_call ?_
  rw [zaj_b0]
  refine (St.start h).new (cs := [.int .i64 k, .slice sp sn sc]) fun b1 g1 _ s => ⟨_, _, _, _, s.ld0, s.ldB, ?_⟩
  refine (yaqw ko.va (r.ext s.ext) sm (rr.ext s.ext) hr).mono fun v g2 ⟨e, hv2, hg, x2⟩ => ⟨_, hv2, ?_⟩
  have he : e = 0 := by
    rcases hg with ⟨hn, _⟩ | ⟨_, ⟨hm, _⟩ | ⟨_, ⟨hm, _⟩ | ⟨_, he⟩⟩⟩
    · exact absurd ⟨ok, hv, hk⟩ hn
    · omega
    · simp at hm
    · exact he
  subst he
  have s2 := s.grow x2
  refine yaau rfl ⟨_, _, _, _, s2.ld0, s2.ldB, ?_⟩
  refine (yaiq ko (tab.ext s2.ext) (r.ext s2.ext) (by decide) sm hk ok (rr.ext s2.ext)).mono fun v g3 ⟨bb, q3, m3, d3, hv3, hs⟩ => ⟨_, _, _, _, hv3, ?_⟩
  have s3 := s2.grow hs.ext
  rcases hs with ⟨_, _, o, _, _, _, ho⟩ | ⟨rfl, _⟩
  · exact absurd ho (hno o)
  refine yaau rfl ?_
  clear s s2
  refine ⟨fun x h' => ∃ (i : Nat) (A : Bag), x.2.1 = (i : Int) ∧ i ≤ 2 ∧ Sl TI x.1.1 x.1.2.1 x.1.2.2 (natI (List.range i)) A ∧ St h h' (A + (cA b1 [.int .i64 k, .slice sp sn sc] 24 + 0)), fun x _ => 2 - x.2.1.toNat, ⟨0, 0, rfl, by omega, Sl.nil, by rw [Bag.zero_add]; exact s3⟩, ?_⟩
  rintro ⟨⟨q, m, d⟩, _, _⟩ g4 ⟨i, A, rfl, hi, o4, s4⟩
  dsimp only at o4 ⊢
  have hm4 := o4.len
  rw [List.length_map, List.length_range] at hm4
  rw [zaj_b1]
  refine condP (fun hlt => ?_) (fun hge => ?_)
  · refine yank yaku s4 o4 (x := (i : Int)) rfl rfl (by omega) fun q5 d5 g5 A5 o5 s5 => ?_
    rw [zaj_b2]
    exact ⟨⟨by omega, by omega⟩, ⟨i + 1, A5, by push_cast; rfl, by omega, by rw [List.range_succ, yamd]; exact o5, s5⟩, by simp only; omega⟩
  obtain rfl : i = 2 := by omega
  subst hm4
  rw [zaj_b3]
  refine ⟨⟨by decide, by decide⟩, ?_⟩
  have o4 : Sl TI q 2 d [0, 1] A := o4
  clear hge
  refine ⟨fun x h' => ∃ A : Bag, (x.2.1 = 3 ∨ x.2.1 = 2) ∧ x.1.2.1 = 2 ∧ Sl TI x.1.1 2 x.1.2.2 [0, 1] A ∧ St h h' (A + (cA b1 [.int .i64 k, .slice sp sn sc] 24 + 0)), fun x _ => x.2.1.toNat, ⟨A, .inl rfl, rfl, o4, s4⟩, ?_⟩
  clear o4 s4
  rintro ⟨⟨q, m, d⟩, nv, _⟩ g5 ⟨A, hnv, rfl, o5, s5⟩
  dsimp only at hnv o5 ⊢
  rw [zaj_b4]
  refine condP (fun hlt => ⟨⟨by decide, by decide⟩, ?_⟩) (fun hge => ?_)
  rotate_left
  · rw [zaj_b6]
    exact ⟨q, d, A, rfl, o5, (s5.to (B := (cA b1 [.int .i64 k, .slice sp sn sc] 24) + A) (by rw [Bag.add_zero]; ac_rfl)).drop⟩
  obtain rfl : nv = 3 := by omega
  refine s5.new (cs := [.int .i64 0]) fun ib g6 _ s6 => s6.wr0 fun g7 s7 => ?_
  have s7 : St h g7 (cA ib [.int .i64 1] 3 + (A + (cA b1 [.int .i64 k, .slice sp sn sc] 24 + 0))) := s7
  refine ⟨fun x h' => ∃ (ib : Nat) (iv : Int) (A : Bag), x.2.1 = some ⟨ib, 0, none⟩ ∧ (iv = -1 ∨ iv = 0 ∨ iv = 1) ∧ x.1.2.1 = 2 ∧ Sl TI x.1.1 2 x.1.2.2 [0, 1] A ∧ St h h' (cA ib [.int .i64 iv] 3 + (A + (cA b1 [.int .i64 k, .slice sp sn sc] 24 + 0))), fun x h' => mval h' x.2.1, ⟨ib, 1, A, rfl, .inr (.inr rfl), rfl, o5, s7⟩, ?_⟩
  clear s7 s5 o5
  rintro ⟨⟨q, m, d⟩, _, _⟩ g8 ⟨ib, iv, A, rfl, hiv, rfl, o8, s8⟩
  dsimp only at o8 ⊢
  rw [zaj_b5, yaun s8.ld0]
  refine yaan rfl ⟨_, s8.ld0, condP (fun hpos => ?_) (fun hneg => ?_)⟩
  rotate_left
  · exact ⟨⟨A, .inr rfl, rfl, o8, s8.drop⟩, by simp⟩
  have hiv : iv = 0 ∨ iv = 1 := by omega
  have s8' : St h g8 (A + (cA ib [.int .i64 iv] 3 + (cA b1 [.int .i64 k, .slice sp sn sc] 24 + 0))) := s8.to
  refine (yaeq (o8.rd s8') (by decide)).mono fun v g9 ⟨q9, d9, A9, hv9, o9, t9⟩ => ⟨_, _, _, hv9, ?_⟩
  have s9 := s8'.join t9
  have s9 : St h g9 (A9 + (cA ib [.int .i64 iv] 3 + (A + (cA b1 [.int .i64 k, .slice sp sn sc] 24 + 0)))) := s9.to
  refine (yaqp s9 o9 (by decide)).mono fun v g10 ⟨m10, A10, hv10, o10, s10⟩ => ⟨_, _, _, hv10, ?_⟩
  have hdl : del iv [0, 1] = [1 - iv] := by rcases hiv with rfl | rfl <;> rfl
  rw [hdl] at o10
  obtain rfl : 1 = m10 := o10.len
  refine yaau rfl ?_
  obtain ⟨ev, hev, hevm⟩ : ∃ ev, ev = ([e0, e1] : List Ev).getD (1 - iv).toNat dEv ∧ ∃ o, Lin k [ev] o D0 rows := ⟨_, rfl, by rcases hiv with rfl | rfl <;> assumption⟩
  have hmem : ev ∈ [e0, e1] := by rw [hev]; exact yaap (by rcases hiv with rfl | rfl <;> simp)
  refine ⟨fun x h' => ∃ (t : Nat) (E : Bag), x.2.1 = (t : Int) ∧ t ≤ 1 ∧ Sl tEv x.1.1 x.1.2.1 x.1.2.2 (([ev] : List Ev).take t |>.map Ev.t) E ∧ St h h' (E + (A10 + (cA ib [.int .i64 iv] 3 + (A + (cA b1 [.int .i64 k, .slice sp sn sc] 24 + 0))))), fun x _ => 1 - x.2.1.toNat, ⟨0, 0, rfl, by omega, Sl.nil, by rw [Bag.zero_add]; exact s10⟩, ?_⟩
  rintro ⟨⟨q11, m11, d11⟩, _, _⟩ g11 ⟨t, E, rfl, ht, o11, s11⟩
  dsimp only at o11 ⊢
  rw [zaj_b8]
  refine condP (fun hlt => ?_) (fun hge => ?_)
  · obtain rfl : t = 0 := by omega
    have hm11 := o11.len
    refine ldI (o10.rd (s11.to (B := A10 + (E + (cA ib [.int .i64 iv] 3 + (A + (cA b1 [.int .i64 k, .slice sp sn sc] 24 + 0))))))) (i' := 0) rfl (by decide) ?_
    refine (r.ext s11.ext).ld (i' := (1 - iv).toNat) (by show (1 - iv : Int) = _; omega) (by omega) ?_
    rw [← hev]
    refine yank (cs := evC ev.t) ok_ev s11 o11 (x := ev.t) rfl rfl (by simp at hm11; omega) fun q12 d12 g12 E12 o12 s12 => ?_
    rw [zaj_b9]
    exact ⟨⟨by decide, by decide⟩, ⟨1, E12, rfl, by omega, o12, s12⟩, by simp⟩
  obtain rfl : t = 1 := by omega
  rw [zaj_b10]
  have o11 : Sl tEv q11 m11 d11 [ev.t] E := o11
  obtain rfl : 1 = m11 := o11.len
  refine yaan rfl ⟨_, _, _, _, s11.ld0, s11.ldB, ?_⟩
  have re : EvsR g11 q11 1 [ev] := ⟨o11.rd s11, fun e he => by rw [List.mem_singleton.1 he]; exact (r.2 _ hmem).ext s11.ext⟩
  refine (yaiq ko (tab.ext s11.ext) re (by decide) (fun e he => by rw [List.mem_singleton.1 he]; exact sm _ hmem) (fun e he => by rw [List.mem_singleton.1 he]; exact hk _ hmem) ok (rr.ext s11.ext)).mono fun v g13 ⟨bb, q13, m13, d13, hv13, hs⟩ => ⟨_, _, _, _, hv13, ?_⟩
  have s13 := (s11.grow hs.ext).drop.drop
  rcases hs with ⟨rfl, _⟩ | ⟨_, _, _, _, _, hn13⟩
  rotate_left
  · obtain ⟨o, ho⟩ := hevm
    exact absurd ho (hn13 o)
  refine yaau rfl ?_
  rw [zaj_b7]
  refine yaan rfl ⟨_, s13.ld0, s13.new (cs := [.int .i64 0]) fun b4 g14 _ s14 => s14.wr0 fun g15 s15 => ⟨_, s15.ld0, ⟨by omega, by omega⟩, s15.wr0 fun g16 s16 => ?_⟩⟩
  have s16 : St h g16 (cA b4 [.int .i64 (iv - 1)] 3 + (cA ib [.int .i64 iv] 3 + (A + (cA b1 [.int .i64 k, .slice sp sn sc] 24 + 0)))) := s16
  refine ⟨⟨b4, iv - 1, A, rfl, by omega, rfl, o8, stMid s16⟩, ?_⟩
  rw [yaun s16.ld0]
  omega
theorem yasl (k : Int) : KindOk k := ⟨yadu, yapc, yala, ybbg⟩
abbrev ev0 (a : SH) : Ev := ⟨⟨0, 1, a, 0, 0, (none, 0, 0), 0, 3⟩, [1, 5], []⟩
abbrev ev1 (a : SH) (g : Int) : Ev := ⟨⟨1, 2, a, 12, 0, (none, 0, 0), g, 4⟩, [1], []⟩
theorem yaxv {a b : SH} {g : Int} (hg : g = 2 ∨ g = 4) : HistK 1 [ev0 a, ev1 b g] := by
  refine ⟨by simp, fun e he => ?_, ?_, fun e he => ?_⟩
  · rcases List.mem_cons.1 he with rfl | he
    · refine ⟨?_, ?_, .inr ?_, fun h => absurd h ?_⟩
      · show 0 ≤ (0 : Int) ∧ (0 : Int) < 8; decide
      · show 0 ≤ (0 : Int) ∧ (0 : Int) ≤ 65536; decide
      · show (0 : Int) ≤ 3 ∧ (3 : Int) ≤ 65536; decide
      · show ¬ (3 : Int) = -1; decide
    · rw [List.mem_singleton.1 he]
      refine ⟨?_, ?_, .inr ?_, fun h => absurd h ?_⟩
      · show 0 ≤ (1 : Int) ∧ (1 : Int) < 8; decide
      · show 0 ≤ g ∧ g ≤ 65536
        omega
      · show g ≤ 4 ∧ (4 : Int) ≤ 65536
        omega
      · show ¬ (4 : Int) = -1; decide
  · refine List.pairwise_cons.2 ⟨fun e he => ?_, List.pairwise_singleton _ _⟩
    rw [List.mem_singleton.1 he]
    exact fun h => absurd h (show ¬ (0 : Int) = 1 by decide)
  · rcases List.mem_cons.1 he with rfl | he
    · show OpV 1 1 [1, 5]
      decide
    · rw [List.mem_singleton.1 he]
      show OpV 1 2 [1]
      decide
theorem yaxx {a : SH} : stepE 1 [] (ev0 a) = some [[1, 5]] := by
  unfold stepE
  rw [show stepR 1 [] (ev0 a).t.co (ev0 a).zs = ([[1, 5]], 0, 0) from by show stepR 1 [] 1 [1, 5] = _; decide]
  exact if_neg fun h => h.2 ⟨rfl, rfl, rfl⟩
theorem ybab {a : SH} {g : Int} : stepE 1 [] (ev1 a g) = some [] := by
  unfold stepE
  rw [show stepR 1 [] (ev1 a g).t.co (ev1 a g).zs = ([], 12, 0) from by show stepR 1 [] 2 [1] = _; decide]
  exact if_neg fun h => h.2 ⟨rfl, rfl, rfl⟩
theorem ybbo {a : SH} {g : Int} : stepE 1 [[1, 5]] (ev1 a g) = none := by
  unfold stepE
  rw [show stepR 1 [[1, 5]] (ev1 a g).t.co (ev1 a g).zs = ([[1, 5]], 0, 5) from by show stepR 1 [[1, 5]] 2 [1] = _; decide]
  exact if_pos ⟨by show (0 : Int) ≤ 4; decide, fun h => absurd h.1 (by show ¬ (0 : Int) = 12; decide)⟩
theorem ybae {a b : SH} {g : Int} {o : List Nat} (h : Lin 1 [ev0 a, ev1 b g] o D0 []) : o = [1, 0] := by
  have cpl : ∀ {D : Nat → Bool} {j : Nat}, j < 2 → D j = false → ¬ Cpl [ev0 a, ev1 b g] D := fun {D j} hj hd hc => by
    have := hc j hj (by
      obtain rfl | rfl : j = 0 ∨ j = 1 := by omega
      · show (0 : Int) ≤ 3; decide
      · show (0 : Int) ≤ 4; decide)
    rw [hd] at this; cases this
  cases o with
  | nil => exact absurd h (cpl (j := 0) (by decide) rfl)
  | cons i o =>
    obtain ⟨hi, hn, r, hr, hl⟩ := h
    obtain rfl | rfl : i = 0 ∨ i = 1 := by simp at hi; omega
    · rw [show stepE 1 [] (([ev0 a, ev1 b g] : List Ev).getD 0 dEv) = some [[1, 5]] from yaxx] at hr
      cases hr
      cases o with
      | nil => exact absurd hl (cpl (j := 1) (by decide) rfl)
      | cons i o =>
        obtain ⟨hi, hn, r, hr, hl⟩ := hl
        obtain rfl | rfl : i = 0 ∨ i = 1 := by simp at hi; omega
        · have := hn.1
          rw [yaiz] at this; cases this
        · rw [show stepE 1 [[1, 5]] (([ev0 a, ev1 b g] : List Ev).getD 1 dEv) = none from ybbo] at hr
          cases hr
    · cases o with
      | nil => exact absurd hl (cpl (j := 0) (by decide) rfl)
      | cons i o =>
        obtain ⟨hi, hn, r, hr, hl⟩ := hl
        obtain rfl | rfl : i = 0 ∨ i = 1 := by simp at hi; omega
        · cases o with
          | nil => rfl
          | cons i o =>
            obtain ⟨hi, hn, _⟩ := hl
            have := hn.1
            obtain rfl | rfl : i = 0 ∨ i = 1 := by simp at hi; omega
            · cases this
            · cases this
        · have := hn.1
          rw [yaiz] at this; cases this
theorem ybcb {a b : SH} : Lin 1 [ev0 a, ev1 b 2] [1, 0] D0 [] := by
  have np : ∀ {x y : EvT}, x.en < 0 ∨ y.bg ≤ x.en → ¬ precT x y := fun h hp => by unfold precT at hp; omega
  refine ⟨show 1 < 2 by decide, ⟨rfl, fun j hj _ => ?_⟩, [], ybab, show 0 < 2 by decide, ⟨rfl, fun j hj hd => ?_⟩, [[1, 5]], yaxx, fun j hj _ => ?_⟩
  · obtain rfl | rfl : j = 0 ∨ j = 1 := by simp at hj; omega
    · exact np (.inr (show (2 : Int) ≤ 3 by decide))
    · exact np (.inr (show (2 : Int) ≤ 4 by decide))
  · obtain rfl | rfl : j = 0 ∨ j = 1 := by simp at hj; omega
    · exact np (.inr (show (0 : Int) ≤ 3 by decide))
    · cases hd
  · obtain rfl | rfl : j = 0 ∨ j = 1 := by simp at hj; omega
    · rfl
    · rfl
theorem ybac {a b : SH} {o : List Nat} (h : Lin 1 [ev0 a, ev1 b 4] o D0 []) : False := by
  have := ybae h
  subst this
  obtain ⟨_, hn, _⟩ := h
  exact hn.2 0 (show 0 < 2 by decide) rfl ⟨show (0 : Int) ≤ 3 by decide, show (3 : Int) < 4 by decide⟩
theorem yauo {e : Ev} {r : Rows} (h1 : One e) (h : stepE 1 [] e = some r) : Lin 1 [e] [0] D0 [] := by
  refine ⟨show 0 < 1 by decide, ⟨rfl, fun j hj _ => ?_⟩, r, h, fun j hj _ => ?_⟩
  · obtain rfl : j = 0 := by simpa using hj
    exact yayi h1
  · obtain rfl : j = 0 := by simpa using hj
    rfl
theorem yawb {h0 : Hp} (tab : Tab10 h0) : ybag h0 := fun h x => by
  have tab := tab.ext x
  refine zah_call ?_
  rw [zah_b0]
  refine (St.start h).new (cs := [.int .i64 0, .slice none 0 0]) fun b1 h1 _ s => s.wr0 fun h2 s => s.wrB fun h3 s => s.new (cs := [.int .i64 1, .int .i64 5]) fun b2 h4 _ s => s.new (cs := [.int .i64 1]) fun b3 h5 _ s => ?_
  obtain ⟨x0, hx0⟩ : ∃ x0 : SH, x0 = (some ⟨b2, 0, none⟩, 2, 2) := ⟨_, rfl⟩
  obtain ⟨x1, hx1⟩ : ∃ x1 : SH, x1 = (some ⟨b3, 0, none⟩, 1, 1) := ⟨_, rfl⟩
  have e1 : ∀ g : Int, tEv.cells [(ev0 x0).t, (ev1 x1 g).t] = [.int .i64 0, .int .i64 1, .slice (some ⟨b2, 0, none⟩) 2 2, .int .i64 0, .int .i64 0, .slice none 0 0, .int .i64 0, .int .i64 3, .int .i64 1, .int .i64 2, .slice (some ⟨b3, 0, none⟩) 1 1, .int .i64 12, .int .i64 0, .slice none 0 0, .int .i64 g, .int .i64 4] := fun g => by subst hx0 hx1; rfl
  refine s.new (cs := [.int .i64 0, .int .i64 1, .slice (some ⟨b2, 0, none⟩) 2 2, .int .i64 0, .int .i64 0, .slice none 0 0, .int .i64 0, .int .i64 3, .int .i64 1, .int .i64 2, .slice (some ⟨b3, 0, none⟩) 1 1, .int .i64 12, .int .i64 0, .slice none 0 0, .int .i64 2, .int .i64 4]) fun b4 h6 _ s => ?_
  have hk : ∀ g : Int, (g = 2 ∨ g = 4) → yadq [ev0 x0, ev1 x1 g] := fun g hg => ⟨1, by decide, yaxv hg⟩
  have sm : ∀ g : Int, Sm [ev0 x0, ev1 x1 g] := fun g e he => by
    rcases List.mem_cons.1 he with rfl | he
    · exact ⟨by show (2 : Nat) ≤ 70; decide, by show (0 : Nat) ≤ 20; decide⟩
    · rw [List.mem_singleton.1 he]; exact ⟨by show (1 : Nat) ≤ 70; decide, by show (0 : Nat) ≤ 20; decide⟩
  -- the events in memory
  have evs : ∀ {h' : Hp} {g : Int} {D : Bag}, St h h' (cA b4 (tEv.cells [(ev0 x0).t, (ev1 x1 g).t]) 60 + (cA b3 [.int .i64 1] 3 + (cA b2 [.int .i64 1, .int .i64 5] 3 + D))) → EvsR h' (some ⟨b4, 0, none⟩) 2 [ev0 x0, ev1 x1 g] := fun {h' g D} s => by
    have o4 : Sl tEv (some ⟨b4, 0, none⟩) 2 2 [(ev0 x0).t, (ev1 x1 g).t] (cA b4 (tEv.cells [(ev0 x0).t, (ev1 x1 g).t]) 60) := Sl.of_blk (T := tEv) (xs := [(ev0 x0).t, (ev1 x1 g).t]) rfl rfl
    have o3 : Sl TI (some ⟨b3, 0, none⟩) 1 1 [1] (cA b3 [.int .i64 1] 3) := Sl.of_blk (T := TI) (xs := [1]) rfl rfl
    have o2 : Sl TI (some ⟨b2, 0, none⟩) 2 2 [1, 5] (cA b2 [.int .i64 1, .int .i64 5] 3) := Sl.of_blk (T := TI) (xs := [1, 5]) rfl rfl
    have r4 := o4.rd s
    have r3 := o3.rd s.drop
    have r2 := o2.rd s.drop.drop
    refine ⟨r4, fun e he => ?_⟩
    rcases List.mem_cons.1 he with rfl | he
    · subst hx0
      exact ⟨⟨r2, by show (2 : Nat) ≤ 2; decide⟩, RdT.nil _ _, by show (0 : Nat) ≤ 0; decide⟩
    · rw [List.mem_singleton.1 he]
      subst hx1
      exact ⟨⟨r3, by show (1 : Nat) ≤ 1; decide⟩, RdT.nil _ _, by show (0 : Nat) ≤ 0; decide⟩
  have kb : ∀ {g most e : Int}, (g = 2 ∨ g = 4) → most = 5 → givE [ev0 x0, ev1 x1 g] [] 1 most e → e = 0 := fun {g most e} hg hm he => by
    subst hm
    rcases he with ⟨hn, _⟩ | ⟨_, ⟨hm, _⟩ | ⟨_, ⟨hm, _⟩ | ⟨_, he⟩⟩⟩
    · exact absurd ⟨yahp (by decide), hk g hg, (yaxv hg).2.2.2⟩ hn
    · omega
    · simp at hm
    · exact he
  have s : St h h6 (cA b4 [.int .i64 0, .int .i64 1, .slice (some ⟨b2, 0, none⟩) 2 2, .int .i64 0, .int .i64 0, .slice none 0 0, .int .i64 0, .int .i64 3, .int .i64 1, .int .i64 2, .slice (some ⟨b3, 0, none⟩) 1 1, .int .i64 12, .int .i64 0, .slice none 0 0, .int .i64 2, .int .i64 4] 60 + (cA b3 [.int .i64 1] 3 + (cA b2 [.int .i64 1, .int .i64 5] 3 + (cA b1 [.int .i64 1, .slice none 0 0] 24 + 0)))) := s
  have rr := yaes
  have hr0 : ∀ r ∈ ([] : Rows), r.length ≤ 1000 := fun r hr => nomatch hr
  refine ⟨_, _, _, _, s.ld0, s.ldB, ?_⟩
  refine (yajh (yasl 1) (tab.ext s.ext) (evs (g := 2) (by rw [e1]; exact s)) (sm 2) (rr h6) hr0).mono fun v h7 ⟨bb, q, m, d, e, hv, hg, hs⟩ => ⟨_, _, _, _, _, hv, ?_⟩
  obtain rfl := kb (.inl rfl) rfl hg
  obtain ⟨A, rfl, rfl, oA, tA⟩ : ∃ A, bb = true ∧ m = 2 ∧ Sl TI q m d [1, 0] A ∧ St h6 h7 A := by
    rcases hs with ⟨hn, _⟩ | ⟨_, ⟨hb, A, o, hm, oA, tA, hl⟩ | ⟨_, _, _, _, _, hn⟩⟩
    · exact absurd rfl hn
    · have := ybae hl
      subst this
      exact ⟨A, hb, hm, oA, tA⟩
    · exact absurd ybcb (hn _)
  have s := s.join tA
  have s : St h h7 (cA b4 [.int .i64 0, .int .i64 1, .slice (some ⟨b2, 0, none⟩) 2 2, .int .i64 0, .int .i64 0, .slice none 0 0, .int .i64 0, .int .i64 3, .int .i64 1, .int .i64 2, .slice (some ⟨b3, 0, none⟩) 1 1, .int .i64 12, .int .i64 0, .slice none 0 0, .int .i64 2, .int .i64 4] 60 + (cA b3 [.int .i64 1] 3 + (cA b2 [.int .i64 1, .int .i64 5] 3 + (cA b1 [.int .i64 1, .slice none 0 0] 24 + (A + 0))))) := s.to
  refine ⟨⟨by decide, by decide⟩, s.wr (o := 14) rfl (by simp) fun h8 s => ?_⟩
  have s : St h h8 (cA b4 [.int .i64 0, .int .i64 1, .slice (some ⟨b2, 0, none⟩) 2 2, .int .i64 0, .int .i64 0, .slice none 0 0, .int .i64 0, .int .i64 3, .int .i64 1, .int .i64 2, .slice (some ⟨b3, 0, none⟩) 1 1, .int .i64 12, .int .i64 0, .slice none 0 0, .int .i64 4, .int .i64 4] 60 + (cA b3 [.int .i64 1] 3 + (cA b2 [.int .i64 1, .int .i64 5] 3 + (cA b1 [.int .i64 1, .slice none 0 0] 24 + (A + 0))))) := s
  refine ⟨_, _, _, _, s.ld0, s.ldB, ?_⟩
  refine (yajh (yasl 1) (tab.ext s.ext) (evs (g := 4) (by rw [e1]; exact s)) (sm 4) (rr h8) hr0).mono fun v h9 ⟨bb, q9, m9, d9, e, hv, hg, hs⟩ => ⟨_, _, _, _, _, hv, ?_⟩
  obtain rfl := kb (.inr rfl) rfl hg
  obtain ⟨rfl, x9⟩ : bb = false ∧ Ext h8 h9 := by
    rcases hs with ⟨hn, _⟩ | ⟨_, ⟨_, _, _, _, _, _, hl⟩ | ⟨hb, _, _, _, x, _⟩⟩
    · exact absurd rfl hn
    · exact (ybac hl).elim
    · exact ⟨hb, x⟩
  have s := s.grow x9
  refine ⟨_, _, _, _, s.ld0, s.ldB, ?_⟩
  have h4 := yaxv (a := x0) (b := x1) (g := 4) (.inr rfl)
  refine (yaox (yasl 1) (tab.ext s.ext) (evs (g := 4) (by rw [e1]; exact s)) (sm 4) (yahp (by decide)) (hk 4 (.inr rfl)) h4.2.2.2 (rr h9) hr0 (fun o ho => ybac ho) ⟨_, yauo (h4.2.1 _ (by simp)) yaxx⟩ ⟨_, yauo (h4.2.1 _ (by simp)) ybab⟩).mono fun v h10 ⟨q10, d10, A10, hv, o10, t10⟩ => ⟨_, _, _, _, hv, ?_⟩
  have s := s.join t10
  refine yaax rfl (s.new (cs := [.int .i64 1, .int .i64 0]) fun b5 h11 _ s => ?_)
  have k5 : Sl TI (some ⟨b5, 0, none⟩) 2 2 [1, 0] (cA b5 [.int .i64 1, .int .i64 0] 3) := Sl.of_blk (T := TI) (xs := [1, 0]) rfl rfl
  refine (yass (oA.rd (s.to (B := A + (cA b5 [.int .i64 1, .int .i64 0] 3 + (A10 + (cA b4 [.int .i64 0, .int .i64 1, .slice (some ⟨b2, 0, none⟩) 2 2, .int .i64 0, .int .i64 0, .slice none 0 0, .int .i64 0, .int .i64 3, .int .i64 1, .int .i64 2, .slice (some ⟨b3, 0, none⟩) 1 1, .int .i64 12, .int .i64 0, .slice none 0 0, .int .i64 4, .int .i64 4] 60 + (cA b3 [.int .i64 1] 3 + (cA b2 [.int .i64 1, .int .i64 5] 3 + (cA b1 [.int .i64 1, .slice none 0 0] 24 + 0))))))))) (k5.rd s) (by decide)).mono fun v h12 ⟨hh, hv⟩ => ⟨_, hv, yaax (by decide) (yaax rfl (yaax rfl (yaax rfl ?_)))⟩
  subst hh
  refine s.new (cs := [.int .i64 0, .int .i64 1]) fun b6 h13 _ s => ?_
  have k6 : Sl TI (some ⟨b6, 0, none⟩) 2 2 [0, 1] (cA b6 [.int .i64 0, .int .i64 1] 3) := Sl.of_blk (T := TI) (xs := [0, 1]) rfl rfl
  refine (yass (o10.rd (s.to (B := A10 + (cA b6 [.int .i64 0, .int .i64 1] 3 + (cA b5 [.int .i64 1, .int .i64 0] 3 + (cA b4 [.int .i64 0, .int .i64 1, .slice (some ⟨b2, 0, none⟩) 2 2, .int .i64 0, .int .i64 0, .slice none 0 0, .int .i64 0, .int .i64 3, .int .i64 1, .int .i64 2, .slice (some ⟨b3, 0, none⟩) 1 1, .int .i64 12, .int .i64 0, .slice none 0 0, .int .i64 4, .int .i64 4] 60 + (cA b3 [.int .i64 1] 3 + (cA b2 [.int .i64 1, .int .i64 5] 3 + (cA b1 [.int .i64 1, .slice none 0 0] 24 + (A + 0)))))))))) (k6.rd s) (by decide)).mono fun v h14 ⟨hh, hv⟩ => ⟨_, hv, yaax (by decide) ⟨rfl, ?_⟩⟩
  subst hh
  exact s.ext
end Go.Proofs.YtllhdhpjgihjfaaGreatDoor
namespace Go.Sx
open Go Go.ChangeShapes Go.WideShapes Go.Deep
section
variable {H : Type} {enc : TypeId × Value → H} {P : Program} {w : World} {base : Nat} {sp : Nat → Bool} {held : Bool} {α : Type}
theorem yauv {t : TypeId} (T : Ty α) {W : α → Prop} {a : Option Addr} {len cap : Nat} {d : DataW H} {ps : List MemPlace} (ht : P.underlying t = some (.slice T.e)) (hc : P.cellsOf T.e = T.sz)
    (dec : ∀ n cs x, DataW.trod enc P w base sp held n T.e cs = some x → ∃ a, cs = T.enc a ∧ W a) (h : DataW.Trod enc P w base sp held t (.slice a len cap) d ps) :
    ∃ xs : List α, RdT T w.heap a len xs ∧ len ≤ cap ∧ ∀ x ∈ xs, W x := by
  obtain ⟨fuel, hf⟩ := h
  have e0 : (Value.slice a len cap).cells.toList = [.slice a len cap] := rfl
  rw [e0] at hf
  rcases open_slice ht hf with ⟨hcs, _⟩ | ⟨x, l, c, m, n, D, Pl, hcs, _, hl, _, hm, _, hx⟩
  · injection hcs with h1 _
    injection h1 with h1 h2 h3
    subst h1 h2 h3
    exact ⟨[], RdT.nil _ _, Nat.le_refl _, fun _ h => nomatch h⟩
  · injection hcs with h1 _
    injection h1 with h1 h2 h3
    subst h1 h2 h3
    have hlm : len ≤ m := by rw [hm]; split <;> omega
    haveI : Inhabited α := ⟨T.d⟩
    obtain ⟨f, hf⟩ := choose_lt (α := α) (n := len) (p := fun i z => w.cells? base (x.add (i * T.sz)) T.sz = some (T.enc z) ∧ W z) (fun i hi => by
      obtain ⟨cs, h1, h2⟩ := hx i (by omega)
      obtain ⟨z, hz, hw⟩ := dec n cs _ h2
      rw [hc] at h1
      exact ⟨z, by rw [h1, hz], hw⟩)
    refine ⟨(List.range len).map f, ⟨by simp, .inr ⟨x, rfl, fun i hi => ?_⟩⟩, hl, fun z hz => ?_⟩
    · have hp := T.pos
      have hdm : T.sz * (i / T.sz) + i % T.sz = i := Nat.div_add_mod i T.sz
      have hq : i / T.sz < len := (Nat.div_lt_iff_lt_mul hp).2 hi
      have hr : i % T.sz < T.sz := Nat.mod_lt _ hp
      obtain ⟨_, _, h3⟩ := World.cells?_some (hf _ hq).1
      have h4 := h3 _ hr
      have e1 : i / T.sz * T.sz + i % T.sz = i := by rw [Nat.mul_comm]; exact hdm
      rw [yadc, e1] at h4
      show cell w.heap (x.add i) = _
      rw [← yamz, h4]
      have := T.cells_get ((List.range len).map f) (i := i / T.sz) (j := i % T.sz) (by simpa using hq) hr
      rw [e1] at this
      rw [this]
      simp [List.getD, hq]
    · obtain ⟨i, hi, rfl⟩ := List.mem_map.1 hz
      exact (hf i (List.mem_range.1 hi)).2
theorem yaux {e : TypeId} {k : IntKind} (he : P.underlying e = some (.int k)) (n : Nat) (cs : List Value) (x : DataW H × List MemPlace) (h : DataW.trod enc P w base sp held n e cs = some x) : ∃ z, cs = [.int k z] ∧ (Lit.int k z).wf = true := by
  obtain ⟨z, h1, _, h2⟩ := DataW.trod_int he h
  exact ⟨z, h1, h2⟩
end
end Go.Sx
namespace Go.Proofs.YtllhdhpjgihjfaaGreatDoor
open Go Go.Sx Go.ChangeShapes Go.WideShapes Go.ChangeAt Go.RowKit Go.Deep
theorem own : ownKnob Tryz.prog.godebug = none := by kernel_rfl
theorem yazh : laidOutB Tryz.prog = true := by kernel_rfl
abbrev laid3 : List (String × DataW Unit) := [("math/bits.deBruijn32tab", Rows.laid_math_bits_deBruijn32tab), ("math/bits.deBruijn64tab", Rows.laid_math_bits_deBruijn64tab), ("internal/strconv.uint64pow10", Rows.laid_internal_strconv_uint64pow10)]
theorem yaye (os : Os) (args : Array Value) : laidMetH Tryz.prog laid3 ((World.doorLaid Tryz.prog 24 os).forCall (fun _ _ => 0) ⟨#[], args, []⟩).memory := by
  rw [MakeChecks.laidMetH_plain _ _ _ (by kernel_rfl)]
  exact laidMet_of_run' 8 (by kernel_rfl) (by kernel_rfl)
theorem ybbe {W : World} (hL : laidMetH Tryz.prog laid3 W) : Tab10 W.heap := by
  rw [MakeChecks.laidMetH_plain _ _ _ (by kernel_rfl)] at hL
  have h := Lib.tabIs_of_head (k := .u64) (zs := Lib.pow10Tab) Tryz.laysM176.m17 (t := 191) (e := 146) (n := 20) (by kernel_rfl) (by kernel_rfl) (by kernel_rfl) (by kernel_rfl) (by kernel_rfl)
    (show laidMet Tryz.prog (("internal/strconv.uint64pow10", Lib.tabData .u64 Lib.pow10Tab) :: []) W from hL.tail.tail)
  unfold Lib.TabIs World.var? at h
  rw [Tryz.laysM176.m17, Option.bind_some] at h
  split at h
  · rename_i cs e fz hg
    cases h
    exact ⟨_, e, fz, Tryz.laysM176.m17, hg⟩
  · cases h
theorem yaww {P : Program} {f : FuncId} {args : Array Value} {w : World} (hc : yaah P f args w.heap (fun v h' => v = .bool true ∧ Ext w.heap h')) :
    Calls P f args w fun e w' => e = .returned (.bool true) ∧ Below w.heap.size w w' :=
  (hc w rfl).mono fun e w' ⟨v, he, hs, hv, hx⟩ => ⟨by rw [he, hv], ⟨hs.os, hs.tape, hs.output, hx.size, hx.same⟩⟩
section
variable {H : Type} {enc : TypeId × Value → H} {w : World} {base : Nat} {held : Bool} {a : OA} {len cap : Nat} {d : DataW H} {ps : List MemPlace}
theorem yawi (h : DataW.Trod enc Tryz.prog w base (fun _ => true) held 29 (.slice a len cap) d ps) : ∃ l : List Int, RdT TI w.heap a len l ∧ len ≤ cap ∧ ∀ x ∈ l, InR x :=
  yauv (W := InR) TI Tryz.underlying29 (by kernel_rfl) (fun n cs x h => by
    obtain ⟨z, h1, h2⟩ := yaux (k := .i64) (by kernel_rfl) n cs x h
    exact ⟨z, h1, bounds_i64 h2⟩) h
theorem ybbc {t : TypeId} {e : TypeId} (ht : Tryz.prog.underlying t = some (.slice e)) {n : Nat} {c : Value} {y : DataW H × List MemPlace} (h : DataW.trod enc Tryz.prog w base (fun _ => true) held n t [c] = some y) : ∃ a l q, c = .slice a l q := by
  rcases open_slice ht h with ⟨hcs, _⟩ | ⟨_, _, _, _, _, _, _, hcs, _⟩
  · exact ⟨_, _, _, (List.cons.inj hcs).1⟩
  · exact ⟨_, _, _, (List.cons.inj hcs).1⟩
theorem yawl {n : Nat} {c : Value} {y : DataW H × List MemPlace} (h : DataW.trod enc Tryz.prog w base (fun _ => true) held n 29 [c] = some y) : ∃ a l q zs, c = .slice a l q ∧ l ≤ q ∧ RdT TI w.heap a l zs := by
  obtain ⟨a, l, q, rfl⟩ := ybbc Tryz.underlying29 h
  obtain ⟨zs, hr, hle, _⟩ := yawi (d := y.1) (ps := y.2) ⟨n, h⟩
  exact ⟨a, l, q, zs, rfl, hle, hr⟩
theorem ybcc (n : Nat) (c0 c1 : Value) (y : DataW H × List MemPlace) (h : DataW.trod enc Tryz.prog w base (fun _ => true) held n 50 [c0, c1] = some y) : ∃ z a l q zs, c0 = .int .i64 z ∧ c1 = .slice a l q ∧ l ≤ q ∧ RdT TI w.heap a l zs := by
  obtain ⟨xs, m, _, _, hl, hxl, hx⟩ := DataW.trod_struct Tryz.underlying50 h
  match xs, hxl with
  | [y0, y1], _ =>
    obtain ⟨z0, e0, _⟩ := yaux (k := .i64) (by kernel_rfl) _ _ _ (hx 0 _ rfl)
    have f0 : c0 = .int .i64 z0 := (List.cons.inj (show [c0] = [Value.int .i64 z0] from e0)).1
    obtain ⟨a, l, q, zs, e1, hle, hr⟩ := yawl (show DataW.trod enc Tryz.prog w base (fun _ => true) held m 29 [c1] = some y1 from hx 1 _ rfl)
    exact ⟨z0, a, l, q, zs, f0, e1, hle, hr⟩
theorem ybca (h : DataW.Trod enc Tryz.prog w base (fun _ => true) held 47 (.slice a len cap) d ps) : ∃ ops, OpsR w.heap a len ops := by
  obtain ⟨l, r, _, hz⟩ := yauv (W := fun x : OpT => x.2.2.1 ≤ x.2.2.2 ∧ ∃ zs, RdT TI w.heap x.2.1 x.2.2.1 zs) tO Tryz.underlying47 (by kernel_rfl) (fun n cs x h => by
    obtain ⟨xs, m, _, _, hl, hxl, hx⟩ := DataW.trod_struct Tryz.underlying50 h
    rw [show Tryz.prog.cellsOf 50 = 2 by kernel_rfl] at hl
    match cs, hl with
    | [c0, c1], _ =>
      obtain ⟨z, a, l, q, zs, e0, e1, hle, hr⟩ := ybcc _ _ _ _ h
      exact ⟨(z, a, l, q), by rw [e0, e1], hle, zs, hr⟩) h
  exact OpsR.mk' r hz
end
section
variable {h : Hp} {p : OA} {n c : Nat}
end
abbrev Sn := SH × Int × SH
abbrev tSn : Ty Sn := ⟨80, 3, fun x => [.slice x.1.1 x.1.2.1 x.1.2.2, .int .i64 x.2.1, .slice x.2.2.1 x.2.2.2.1 x.2.2.2.2], ((none, 0, 0), 0, (none, 0, 0)), fun _ => rfl, by decide, fun _ v hv => by simp at hv; rcases hv with rfl | rfl | rfl <;> rfl⟩
def SnR (h : Hp) (k : Int) (x : Sn) (c : Cf) : Prop := x.2.1 = k ∧ RdT TB h x.1.1 x.1.2.1 c.1 ∧ RowsR h x.2.2.1 x.2.2.2.1 c.2
def RowsX (h0 : Hp) (x : SH) (rows : Rows) (A : Bag) : Prop := RowsA x rows A ∨ (A = 0 ∧ RowsR h0 x.1 x.2.1 rows)
def SnP (h0 : Hp) (k : Int) (x : Sn) (c : Cf) (A : Bag) : Prop := x.2.1 = k ∧ ∃ A1 A2, A = A1 + A2 ∧ Sl TB x.1.1 x.1.2.1 x.1.2.2 c.1 A1 ∧ RowsX h0 x.2.2 c.2 A2
theorem RowsX.r {h0 h : Hp} {x : SH} {rows : Rows} {A F : Bag} (a : RowsX h0 x rows A) (s : St h0 h (A + F)) : RowsR h x.1 x.2.1 rows := by
  rcases a with a | ⟨rfl, r⟩
  · exact yalm (c := x.2.2) a s
  · exact r.ext s.ext
theorem SnP.r {h0 h : Hp} {k : Int} {x : Sn} {c : Cf} {A F : Bag} (a : SnP h0 k x c A) (s : St h0 h (A + F)) : SnR h k x c := by
  obtain ⟨e, A1, A2, rfl, o, rx⟩ := a
  exact ⟨e, o.rd (s.to (B := A1 + (A2 + F))), rx.r (s.to (B := A2 + (A1 + F)))⟩
theorem SnP.all {h0 h : Hp} {k : Int} {hs : List Sn} {cs : List Cf} {A F : Bag} (a : AllH (SnP h0 k) hs cs A) (s : St h0 h (A + F)) : cs.length = hs.length ∧ ∀ i, i < hs.length → SnR h k (hs.getD i tSn.d) (cs.getD i ([], [])) := by
  refine ⟨a.len.symm, fun i hi => ?_⟩
  obtain ⟨Ai, B, rfl, hp⟩ := a.pick (d := ([], [])) (d' := tSn.d) hi
  exact hp.r (s.to (B := Ai + (B + F)))
theorem yaqy {α : Type} {a b : List α} {d : α} {i : Nat} (h : i < a.length) : (a ++ b).getD i d = a.getD i d := by
  rw [List.getD_eq_getElem?_getD, List.getD_eq_getElem?_getD, List.getElem?_append_left h]
section
variable {h : Hp} {p : OA} {n c : Nat} {l : List Ev} {k : Int} {sp : OA} {sn sc : Nat} {rows : Rows}
end
section
variable {h : Hp} {p : OA} {n c : Nat} {l : List Ev} {k : Int} {sp : OA} {sn sc : Nat} {rows : Rows}
end
theorem yavf {k : Int} {l : List Ev} {os : List Int} {rows : Rows} (h : ∃ o ∈ os, o < 0 ∨ (l.length : Int) ≤ o) : witR k l os rows = (false, 0, 2) := if_pos h
theorem yatl {k : Int} {l : List Ev} {os : List Int} {rows : Rows} (h : ∀ o ∈ os, 0 ≤ o ∧ o < (l.length : Int)) (h2 : ¬ os.Nodup) : witR k l os rows = (false, 0, 10) := by
  unfold witR
  rw [if_neg (fun ⟨o, ho, hc⟩ => by have := h o ho; omega), if_pos h2]
theorem yavb {k : Int} {l : List Ev} {os : List Int} {rows : Rows} (h : ∀ o ∈ os, 0 ≤ o ∧ o < (l.length : Int)) (h2 : os.Nodup) : witR k l os rows = ((wit k l os D0 rows 0).1, (wit k l os D0 rows 0).2, 0) := by
  unfold witR
  rw [if_neg (fun ⟨o, ho, hc⟩ => by have := h o ho; omega), if_neg (fun h => h h2)]
theorem yasp {os : List Int} {i : Nat} (h : i < os.length) : os.drop i = os.getD i 0 :: os.drop (i + 1) := by rw [yaaf h]; exact List.drop_eq_getElem_cons h
theorem yafx {os : List Int} {i : Nat} (h : i < os.length) : os.take (i + 1) = os.take i ++ [os.getD i 0] := by rw [yaaf h]; exact List.take_succ_eq_append_getElem h
theorem yaph {os : List Int} {i : Nat} (h : i < os.length) (hn : (os.take i).Nodup) (hm : os.getD i 0 ∉ os.take i) : (os.take (i + 1)).Nodup := by
  rw [yafx h]
  exact List.nodup_append.2 ⟨hn, by simp, fun a ha b hb e => hm (by rw [List.mem_singleton.1 hb] at e; exact e ▸ ha)⟩
theorem yatd {os : List Int} {i : Nat} (h : i < os.length) (hm : os.getD i 0 ∈ os.take i) : ¬ os.Nodup := fun hn => by
  have h2 : (os.take (i + 1)).Nodup := hn.sublist (List.take_sublist _ _)
  rw [yafx h] at h2
  exact (List.nodup_append.1 h2).2.2 _ hm _ (List.mem_singleton.2 rfl) rfl
theorem ybbd {k : Int} {l : List Ev} {x : Nat} {os : List Int} {D : Nat → Bool} {rows : Rows} {i : Int} (h : ¬ Nxt l D x) : wit k l ((x : Int) :: os) D rows i = (false, i) := by
  show (if Nxt l D (x : Int).toNat then _ else _) = _
  rw [Int.toNat_natCast, if_neg h]
theorem yaqr {k : Int} {l : List Ev} {x : Nat} {os : List Int} {D : Nat → Bool} {rows : Rows} {i : Int} (h : Nxt l D x) (h2 : stepE k rows (l.getD x dEv) = none) : wit k l ((x : Int) :: os) D rows i = (false, i) := by
  show (if Nxt l D (x : Int).toNat then _ else _) = _
  rw [Int.toNat_natCast, if_pos h, h2]
theorem yarv {k : Int} {l : List Ev} {x : Nat} {os : List Int} {D : Nat → Bool} {rows r : Rows} {i : Int} (h : Nxt l D x) (h2 : stepE k rows (l.getD x dEv) = some r) : wit k l ((x : Int) :: os) D rows i = wit k l os (setD D x) r (i + 1) := by
  show (if Nxt l D (x : Int).toNat then _ else _) = _
  rw [Int.toNat_natCast, if_pos h, h2]
def WitP (W : Bool × Int × Int) (h : Hp) (v : Value) (h' : Hp) : Prop := v = .tuple #[.bool W.1, .int .i64 W.2.1, .int .i64 W.2.2] ∧ Ext h h'
theorem WitP.of {W : Bool × Int × Int} {a : Bool} {b c : Int} {h h' : Hp} (e : W = (a, b, c)) (x : Ext h h') : WitP W h (.tuple #[.bool a, .int .i64 b, .int .i64 c]) h' := ⟨by rw [e], x⟩
section
variable {h : Hp} {p : OA} {n c : Nat} {l : List Ev} {k : Int} {sp : OA} {sn sc : Nat} {rows : Rows}
end
def PosP (os : List Int) (t : Nat) (ws : List Int) (n : Nat) : Prop := ∀ j : Nat, j < n → (ws.getD j 0 = 0 ∧ (j : Int) ∉ os.take t) ∨ ∃ u : Nat, u < t ∧ ws.getD j 0 = (u : Int) + 1 ∧ os.getD u 0 = (j : Int)
def dAt (ws : List Int) (n i : Nat) : Nat → Bool := fun j => decide (j < n ∧ 0 < ws.getD j 0 ∧ ws.getD j 0 ≤ (i : Int))
theorem yamw {os : List Int} {u t : Nat} (h : u < t) (ht : t ≤ os.length) : os.getD u 0 ∈ os.take t := by
  rw [yaaf (by omega)]
  exact List.mem_take_iff_getElem.2 ⟨u, by omega, rfl⟩
theorem yasc {os : List Int} (hn : os.Nodup) {u i : Nat} (hu : u < os.length) (hi : i < os.length) (h : os.getD u 0 = os.getD i 0) : u = i := by
  rw [yaaf hu, yaaf hi] at h
  have := List.pairwise_iff_getElem.1 hn
  rcases Nat.lt_trichotomy u i with h1 | h1 | h1
  · exact absurd h (this u i hu hi h1)
  · exact h1
  · exact absurd h.symm (this i u hi hu h1)
theorem yavv {ws : List Int} {n : Nat} : dAt ws n 0 = D0 := by
  funext j
  exact decide_eq_false fun h => by omega
theorem yavc {os ws : List Int} {n i y : Nat} (hp : PosP os os.length ws n) (hn : os.Nodup) (hi : i < os.length) (hy : os.getD i 0 = (y : Int)) (hyn : y < n) : ws.getD y 0 = (i : Int) + 1 := by
  rcases hp y hyn with ⟨_, h⟩ | ⟨u, h1, h2, h3⟩
  · exact absurd (by rw [List.take_length, ← hy]; exact yaap hi) h
  · rw [yasc hn h1 hi (by rw [h3, hy])] at h2
    exact h2
theorem yaxh {os ws : List Int} {n i y : Nat} (hp : PosP os os.length ws n) (hn : os.Nodup) (hi : i < os.length) (hy : os.getD i 0 = (y : Int)) (hyn : y < n) : setD (dAt ws n i) y = dAt ws n (i + 1) := by
  have ha := yavc hp hn hi hy hyn
  funext j
  unfold setD dAt
  rw [Bool.eq_iff_iff, Bool.or_eq_true, decide_eq_true_iff, decide_eq_true_iff, decide_eq_true_iff]
  constructor
  · rintro (rfl | ⟨h1, h2, h3⟩)
    · exact ⟨hyn, by omega, by push_cast; omega⟩
    · exact ⟨h1, h2, by push_cast; omega⟩
  · rintro ⟨h1, h2, h3⟩
    push_cast at h3
    by_cases h4 : ws.getD j 0 = (i : Int) + 1
    · rcases hp j h1 with ⟨h5, _⟩ | ⟨u, h5, h6, h7⟩
      · omega
      · obtain rfl : u = i := by omega
        exact .inl (by omega)
    · exact .inr ⟨h1, h2, by omega⟩
theorem ybaq (n : Nat) : TI.cells (List.replicate n 0) = List.replicate n (.int .i64 0) := by
  induction n with
  | zero => rfl
  | succ n ih => rw [List.replicate_succ, Ty.cells_cons, ih]; rfl
theorem yarh {ws : List Int} {x j : Nat} {z : Int} (hx : x < ws.length) : (ws.set x z).getD j 0 = if j = x then z else ws.getD j 0 := by
  by_cases h : j = x
  · subst h
    rw [if_pos rfl]
    simp [List.getD, hx]
  · rw [if_neg h]
    simp [List.getD, Ne.symm h]
abbrev FitP (k : Int) (l : List Ev) (rows : Rows) : Prop := OkR k rows ∧ yadq l ∧ KindP k l
section
variable {h : Hp} {p : OA} {n c : Nat} {l : List Ev} {k : Int} {sp : OA} {sn sc : Nat} {rows : Rows}
theorem yayr {q : OA} {m d : Nat} {os : List Int} (r : EvsR h p n l) (sm : Sm l) (rr : RowsR h sp sn rows) (hr : ∀ r ∈ rows, r.length ≤ 1000) (ro : RdT TI h q m os) (hm : m ≤ 1000) :
    yaah Tryz.prog 14 #[.agg #[.int .i64 k, .slice sp sn sc], .slice p n c, .slice q m d] h (fun v h' => (¬ FitP k l rows ∧ v = .tuple #[.bool false, .int .i64 0, .int .i64 1] ∧ Ext h h') ∨ (FitP k l rows ∧ WitP (witR k l os rows) h v h')) := by
  have hl := r.len
  have hol := ro.len
  refine zao_call ?_
  rw [zao_b0, Int.toNat_natCast, Nat.mul_one, yawv]
  refine (St.start h).new (cs := [.int .i64 k, .slice sp sn sc]) fun b1 h1 x1 s1 => ⟨_, _, _, _, s1.ld0, s1.ldB, ?_⟩
  refine (yauz yadu (r.ext s1.ext) sm (rr.ext s1.ext) hr).mono fun v h2 ⟨⟨bf, hv, hbf⟩, x2⟩ => ⟨_, hv, yayy (fun hf => .inl ⟨fun o => (by rw [hbf.2 o] at hf; cases hf), rfl, (s1.grow x2).ext⟩) (fun hy => ?_)⟩
  have hfit := hbf.1 hy
  have s1 := s1.grow x2
  have key : ∀ v h', WitP (witR k l os rows) h v h' → (fun v h' => (¬ FitP k l rows ∧ v = .tuple #[.bool false, .int .i64 0, .int .i64 1] ∧ Ext h h') ∨ (FitP k l rows ∧ WitP (witR k l os rows) h v h')) v h' := fun v h' w => .inr ⟨hfit, w⟩
  generalize (fun v h' => (¬ FitP k l rows ∧ v = Value.tuple #[.bool false, .int .i64 0, .int .i64 1] ∧ Ext h h') ∨ (FitP k l rows ∧ WitP (witR k l os rows) h v h')) = K at key ⊢
  obtain ⟨ok, ⟨_, _, hn, o1, _⟩, hk⟩ := hfit
  refine ⟨⟨by omega, by omega, by omega, by omega⟩, ?_⟩
  rw [← ybaq]
  refine s1.new fun b2 h3 _ s3 => ?_
  have oD : Sl TI (some ⟨b2, 0, none⟩) n n (List.replicate n 0) (cA b2 (TI.cells (List.replicate n 0)) 3) := Sl.of_blk (by simp) rfl
  refine ⟨fun x h' => ∃ i : Nat, x.1 = (i : Int) ∧ i ≤ m ∧ h' = h3 ∧ ∀ o ∈ os.take i, 0 ≤ o ∧ o < (l.length : Int), fun x _ => m - x.1.toNat, ⟨0, rfl, by omega, rfl, by simp⟩, ?_⟩
  rintro ⟨_, _⟩ _ ⟨i, rfl, hi, rfl, i1⟩
  dsimp only
  rw [zao_b1]
  refine condP (fun hlt => ?_) (fun hge => ?_)
  · have hmem : os.getD i 0 ∈ os := yaap (by omega)
    refine ldI (ro.ext s3.ext) rfl (by omega) (condP (fun hneg => key _ _ (WitP.of (yavf ⟨_, hmem, .inl hneg⟩) s3.ext)) (fun hnn => condP (fun hbig => key _ _ (WitP.of (yavf ⟨_, hmem, .inr (by omega)⟩) s3.ext)) (fun hok => ?_)))
    rw [zao_b2]
    refine ⟨⟨by omega, by omega⟩, ⟨i + 1, by push_cast; rfl, by omega, rfl, fun o ho => ?_⟩, by simp only; omega⟩
    rw [yafx (by omega)] at ho
    rcases List.mem_append.1 ho with ho | ho
    · exact i1 o ho
    · rw [List.mem_singleton.1 ho]; omega
  obtain rfl : i = m := by omega
  rw [List.take_of_length_le (by omega)] at i1
  clear hge hi
  rw [zao_b3]
  refine ⟨fun x h' => ∃ (t : Nat) (ws : List Int) (D : Bag), x.1 = (t : Int) ∧ t ≤ i ∧ Sl TI (some ⟨b2, 0, none⟩) n n ws D ∧ St h h' (D + (cA b1 [.int .i64 k, .slice sp sn sc] 24 + 0)) ∧ (os.take t).Nodup ∧ PosP os t ws n, fun x _ => i - x.1.toNat, ⟨0, _, _, rfl, by omega, oD, s3, by simp, fun j hj => .inl ⟨by simp [List.getD, hj], by simp⟩⟩, ?_⟩
  clear s3 oD
  rintro ⟨_, _⟩ h3 ⟨t, ws, D, rfl, ht, oD, s3, hnd, hps⟩
  dsimp only
  have hwl := oD.len
  rw [zao_b4]
  refine condP (fun hlt => ?_) (fun hge => ?_)
  · have hmem : os.getD t 0 ∈ os := yaap (by omega)
    have hin := i1 _ hmem
    obtain ⟨y, hy⟩ : ∃ y : Nat, os.getD t 0 = (y : Int) := ⟨(os.getD t 0).toNat, by omega⟩
    have hyn : y < n := by omega
    refine ldI (ro.ext s3.ext) rfl (by omega) ?_
    rw [hy]
    refine ldI (oD.rd s3) rfl hyn (condP (fun hpos => ?_) (fun hno => ⟨⟨by omega, by omega⟩, ?_⟩))
    · refine key _ _ (WitP.of (yatl i1 (yatd (i := t) (by omega) ?_)) s3.ext)
      rcases hps y hyn with ⟨h1, _⟩ | ⟨u, h1, h2, h3⟩
      · omega
      · rw [hy, ← h3]
        exact yamw h1 (by omega)
    · refine Sl.wrI oD s3 (by omega) (by omega) rfl (x := (t : Int) + 1) rfl fun h4 D4 o4 s4 => ?_
      rw [Int.toNat_natCast] at o4
      have hny : (y : Int) ∉ os.take t := by
        rcases hps y hyn with ⟨_, h1⟩ | ⟨u, h1, h2, h3⟩
        · exact h1
        · omega
      rw [zao_b5]
      refine ⟨⟨by omega, by omega⟩, ⟨t + 1, _, D4, by push_cast; rfl, by omega, o4, s4, yaph (by omega) hnd (by rw [hy]; exact hny), fun j hj => ?_⟩, by simp only; omega⟩
      rw [yarh (by omega), yafx (by omega), hy]
      by_cases h : j = y
      · exact .inr ⟨t, by omega, if_pos h, by rw [hy, h]⟩
      · rw [if_neg h]
        rcases hps j hj with ⟨h1, h2⟩ | ⟨u, h1, h2⟩
        · exact .inl ⟨h1, fun hc => (List.mem_append.1 hc).elim h2 fun hc => h (by have := List.mem_singleton.1 hc; omega)⟩
        · exact .inr ⟨u, by omega, h2⟩
  obtain rfl : t = i := by omega
  rw [List.take_of_length_le (by omega)] at hnd
  clear hge ht
  rw [← hol] at hps
  rw [zao_b6]
  rw [yavb i1 hnd] at key
  obtain ⟨W, hW⟩ : ∃ W, wit k l os D0 rows 0 = W := ⟨_, rfl⟩
  rw [hW] at key
  refine ⟨fun x h' => ∃ (i : Nat) (B : Bag) (sp : OA) (sn sc : Nat) (rs : Rows), x.1 = (i : Int) ∧ i ≤ t ∧ RowsX h (sp, sn, sc) rs B ∧ OkR k rs ∧ St h h' (D + (B + (cA b1 [.int .i64 k, .slice sp sn sc] 24 + 0))) ∧ wit k l (os.drop i) (dAt ws n i) rs (i : Int) = W, fun x _ => t - x.1.toNat,
    ⟨0, 0, sp, sn, sc, rows, rfl, by omega, .inr ⟨rfl, rr⟩, ok, by rw [Bag.zero_add]; exact s3, by rw [yavv]; exact hW⟩, ?_⟩
  clear s3 rr ok hW
  rintro ⟨_, _⟩ h5 ⟨i, B, sp, sn, sc, rs, rfl, hi, rx, ok, s5, hW⟩
  dsimp only
  rw [zao_b7]
  refine condP (fun hlt => ?_) (fun hge => ?_)
  rotate_left
  · obtain rfl : i = t := by omega
    rw [List.drop_of_length_le (by omega)] at hW
    rw [zao_b9]
    refine ⟨fun x h' => ∃ j : Nat, x.1 = (j : Int) ∧ j ≤ n ∧ (∀ t, t < j → 0 ≤ (l.getD t dEv).t.en → dAt ws n i t = true) ∧ St h h' (D + (B + (cA b1 [.int .i64 k, .slice sp sn sc] 24 + 0))), fun x _ => n - x.1.toNat, ⟨0, rfl, by omega, fun t ht => absurd ht (by omega), s5⟩, ?_⟩
    clear s5
    rintro ⟨_, _⟩ h6 ⟨j, rfl, hj, i2, s6⟩
    dsimp only
    rw [zao_b12]
    refine condP (fun hlt => ?_) (fun hge => ?_)
    rotate_left
    · rw [zao_b15]
      have : W = (true, -1) := by
        rw [← hW]
        exact if_pos fun t ht he => i2 t (by omega) he
      exact key _ _ (WitP.of (by rw [this]) s6.ext)
    · have hjn : j < n := by omega
      have nx : ∀ {h7 : Hp}, St h h7 (D + (B + (cA b1 [.int .i64 k, .slice sp sn sc] 24 + 0))) → (0 ≤ (l.getD j dEv).t.en → dAt ws n i j = true) → zao_b14 q i d (some ⟨b2, 0, none⟩) n n p n c (n : Int) (j : Int) h7 (fun s' h' => (∃ j : Nat, s'.1 = (j : Int) ∧ j ≤ n ∧ (∀ t, t < j → 0 ≤ (l.getD t dEv).t.en → dAt ws n i t = true) ∧ St h h' (D + (B + (cA b1 [.int .i64 k, .slice sp sn sc] 24 + 0)))) ∧ n - s'.1.toNat < n - ((j : Nat) : Int).toNat) K := fun s7 hd => by
        rw [zao_b14]
        refine ⟨⟨by omega, by omega⟩, ⟨j + 1, by push_cast; rfl, by omega, fun t ht he => ?_, s7⟩, by simp only; omega⟩
        rcases Nat.lt_or_ge t j with h | h
        · exact i2 t h he
        · obtain rfl : t = j := by omega
          exact hd he
      refine (r.ext s6.ext).cp s6 rfl hjn fun b3 h7 _ s7 => ldEvB s7.blk ((yadd _ _).mono fun v h8 ⟨hv, x8⟩ => ⟨_, hv, ?_⟩)
      have s8 := (s7.grow x8).drop
      refine condP (fun he => ldI (oD.rd s8) rfl hjn (condP (fun hz => ?_) (fun hnz => nx s8 fun _ => ?_))) (fun hne => nx s8 fun he => absurd he hne)
      · have : W = (false, (i : Int)) := by
          rw [← hW]
          refine if_neg fun h => ?_
          have := of_decide_eq_true (h j (by omega) he)
          omega
        exact key _ _ (WitP.of (by rw [this]) s8.ext)
      · refine decide_eq_true ⟨hjn, ?_⟩
        rcases hps j hjn with ⟨h1, _⟩ | ⟨u, h1, h2, _⟩
        · exact absurd h1 hnz
        · omega
  have hin := i1 _ (yaap (l := os) (i := i) (d := 0) (by omega))
  obtain ⟨y, hy⟩ : ∃ y : Nat, os.getD i 0 = (y : Int) := ⟨(os.getD i 0).toNat, by omega⟩
  have hyn : y < n := by omega
  have hay := yavc hps hnd (by omega) hy hyn
  rw [yasp (by omega), hy] at hW
  refine ldI (ro.ext s5.ext) rfl (by omega) ?_
  rw [hy]
  generalize hnx : (fun (s' : Int × Unit) (h' : Hp) => (∃ (i : Nat) (B : Bag) (sp : OA) (sn sc : Nat) (rs : Rows), s'.1 = (i : Int) ∧ i ≤ t ∧ RowsX h (sp, sn, sc) rs B ∧ OkR k rs ∧ St h h' (D + (B + (cA b1 [.int .i64 k, .slice sp sn sc] 24 + 0))) ∧ wit k l (os.drop i) (dAt ws n i) rs (i : Int) = W) ∧ t - s'.1.toNat < t - ((i : Nat) : Int).toNat) = nx
  refine ⟨fun x h' => ∃ j : Nat, x.1 = (j : Int) ∧ j ≤ n ∧ (∀ t, t < j → dAt ws n i t = false → ¬ prec (l.getD t dEv) (l.getD y dEv)) ∧ St h h' (D + (B + (cA b1 [.int .i64 k, .slice sp sn sc] 24 + 0))), fun x _ => n - x.1.toNat, ⟨0, rfl, by omega, fun t ht => absurd ht (by omega), s5⟩, ?_⟩
  clear s5
  rintro ⟨_, _⟩ h6 ⟨j, rfl, hj, i2, s6⟩
  dsimp only
  rw [zao_b8]
  refine condP (fun hlt => ?_) (fun hge => ?_)
  · have hjn : j < n := by omega
    have nx1 : ∀ {h7 : Hp}, St h h7 (D + (B + (cA b1 [.int .i64 k, .slice sp sn sc] 24 + 0))) → (dAt ws n i j = false → ¬ prec (l.getD j dEv) (l.getD y dEv)) → zao_b10 p n c q t d (some ⟨b1, 0, none⟩) (some ⟨b2, 0, none⟩) n n (i : Int) (y : Int) q t d (t : Int) (i : Int) p n c (n : Int) (j : Int) h7 nx (fun s' h' => (∃ j : Nat, s'.1 = (j : Int) ∧ j ≤ n ∧ (∀ t, t < j → dAt ws n i t = false → ¬ prec (l.getD t dEv) (l.getD y dEv)) ∧ St h h' (D + (B + (cA b1 [.int .i64 k, .slice sp sn sc] 24 + 0)))) ∧ n - s'.1.toNat < n - ((j : Nat) : Int).toNat) K := fun s7 hd => by
      rw [zao_b10]
      refine ⟨⟨by omega, by omega⟩, ⟨j + 1, by push_cast; rfl, by omega, fun t ht he => ?_, s7⟩, by simp only; omega⟩
      rcases Nat.lt_or_ge t j with h | h
      · exact i2 t h he
      · obtain rfl : t = j := by omega
        exact hd he
    refine (r.ext s6.ext).cp s6 rfl hjn fun b3 h7 _ s7 => ldEvB s7.blk ((r.ext s7.ext).ld rfl hyn ((yaeb _ _ _).mono fun v h8 ⟨hv, x8⟩ => ⟨_, hv, ?_⟩))
    have s8 := (s7.grow x8).drop
    have bad : precT (l.getD j dEv).t (l.getD y dEv).t → dAt ws n i j = false → ∀ {h9 : Hp}, Ext h h9 → K (.tuple #[.bool false, .int .i64 (i : Int), .int .i64 0]) h9 := fun hp hd {h9} x9 => by
      rw [ybbd (fun h => h.2 j (by omega) hd hp)] at hW
      exact key _ _ (WitP.of (by rw [← hW]) x9)
    refine condP (fun hp => ldI (oD.rd s8) rfl hjn (condP (fun hz => bad hp (decide_eq_false fun h => by omega) s8.ext) (fun hnz => ldI (oD.rd s8) rfl hjn (condP (fun hlt => bad hp (decide_eq_false fun h => by omega) s8.ext) (fun hge => nx1 s8 fun hd => ?_))))) (fun hnp => nx1 s8 fun _ => hnp)
    have h0 : 0 < ws.getD j 0 := by
      rcases hps j hjn with ⟨h1, _⟩ | ⟨u, h1, h2, _⟩
      · exact absurd h1 hnz
      · omega
    exact absurd ⟨hjn, h0, by omega⟩ (of_decide_eq_false hd)
  obtain rfl : j = n := by omega
  have hnxt : Nxt l (dAt ws j i) y := ⟨decide_eq_false fun h => by omega, fun t ht hd => i2 t (by omega) hd⟩
  clear i2 hge hj
  obtain ⟨ad, hp, hcell⟩ := (r.ext s6.ext).1.at_ (i := y) hyn
  rw [yafj (by omega)] at hcell
  have em := (r.ext s6.ext).at_ hyn
  have hov : OpV k (l.getD y dEv).t.co (l.getD y dEv).zs := hk _ (yaap (by omega))
  have hsz := sm _ (yaap (l := l) (i := y) (d := dEv) (by omega))
  have cX1 : cell h6 (⟨b1, 0, none⟩ : Addr) = some (.int .i64 k) := s6.ld0
  have cX2 : cell h6 ((⟨b1, 0, none⟩ : Addr).add 1) = some (.slice sp sn sc) := s6.ldB
  have cO1 : cell h6 ((ad.add (Int.toNat (y : Int) * 8)).add 1) = some (.int .i64 (l.getD y dEv).t.co) := hcell 1 (by decide)
  have cO2 : cell h6 (((ad.add (Int.toNat (y : Int) * 8)).add 1).add 1) = some (.slice (l.getD y dEv).t.ar.1 (l.getD y dEv).t.ar.2.1 (l.getD y dEv).t.ar.2.2) := by have := hcell 2 (by decide); simpa [yadc] using this
  have cR3 : cell h6 ((ad.add (Int.toNat (y : Int) * 8)).add 3) = some (.int .i64 (l.getD y dEv).t.er) := hcell 3 (by decide)
  have cR4 : cell h6 (((ad.add (Int.toNat (y : Int) * 8)).add 3).add 1) = some (.int .i64 (l.getD y dEv).t.nu) := by have := hcell 4 (by decide); simpa [yadc] using this
  have cR5 : cell h6 (((ad.add (Int.toNat (y : Int) * 8)).add 3).add 2) = some (.slice (l.getD y dEv).t.li.1 (l.getD y dEv).t.li.2.1 (l.getD y dEv).t.li.2.2) := by have := hcell 5 (by decide); simpa [yadc] using this
  clear hcell
  obtain ⟨R, hR⟩ : ∃ R, stepR k rs (l.getD y dEv).t.co (l.getD y dEv).zs = R := ⟨_, rfl⟩
  have hzl := em.1.1.len
  have k3 : RowsR h6 sp sn rs := rx.r (s6.to (B := B + (D + (cA b1 [.int .i64 k, .slice sp sn sc] 24 + 0))))
  have stp : ∀ {h' : Hp}, Ext h6 h' → yaah Tryz.prog 46 #[.agg #[.int .i64 k, .slice sp sn sc], .agg #[.int .i64 (l.getD y dEv).t.co, .slice (l.getD y dEv).t.ar.1 (l.getD y dEv).t.ar.2.1 (l.getD y dEv).t.ar.2.2]] h' (yaml h' 0 k R.1 R.2.1 R.2.2) := fun x => by
    have := yapc (cc := (l.getD y dEv).t.ar.2.2) (c := sc) ok hov (k3.ext x) (em.1.1.ext x) em.1.2 (by omega)
    rwa [hR] at this
  have fin16 : ∀ {h' : Hp} {bt br : Nat} {q2 : OA} {m2 d2 : Nat} {B' : Bag}, RowsA (q2, m2, d2) R.1 B' → St h6 h' (cA bt [.int .i64 k, .slice q2 m2 d2] 24 + (cA br [.int .i64 R.2.1, .int .i64 R.2.2, .slice none 0 0] 58 + B')) → stepE k rs (l.getD y dEv) = some R.1 →
      zao_b16 p j c q t d (some ⟨b1, 0, none⟩) (some ⟨b2, 0, none⟩) j j (some ⟨bt, 0, none⟩) q t d (t : Int) (i : Int) h' nx K := fun {h' bt br q2 m2 d2 B'} na s' hst => by
    have s7 := (s6.join s').to (B := cA bt [.int .i64 k, .slice q2 m2 d2] 24 + (cA br [.int .i64 R.2.1, .int .i64 R.2.2, .slice none 0 0] 58 + (B' + (B + D)) + (cA b1 [.int .i64 k, .slice sp sn sc] 24 + 0)))
    rw [zao_b16]
    refine yaan rfl ⟨_, _, _, _, s7.ld0, s7.ldB, yaan rfl (s7.wr0 fun h8 s8 => s8.wrB fun h9 s9 => ?_)⟩
    have s9 : St h h9 ((cA bt [.int .i64 k, .slice q2 m2 d2] 24 + (cA br [.int .i64 R.2.1, .int .i64 R.2.2, .slice none 0 0] 58 + B)) + (D + (B' + (cA b1 [.int .i64 k, .slice q2 m2 d2] 24 + 0)))) := s9.to
    rw [zao_b17, ← hnx]
    refine ⟨⟨by omega, by omega⟩, ⟨i + 1, B', q2, m2, d2, R.1, by push_cast; rfl, by omega, .inl na, yats ok hov hst, s9.drop, ?_⟩, by simp only; omega⟩
    rw [← yaxh hps hnd (by omega) hy hyn, ← hW, yarv hnxt hst]
    push_cast
    rfl
  have fin13 : ∀ {h' : Hp} {bt br : Nat} {q2 : OA} {m2 d2 : Nat} {B' : Bag}, RowsA (q2, m2, d2) R.1 B' → St h6 h' (cA bt [.int .i64 k, .slice q2 m2 d2] 24 + (cA br [.int .i64 R.2.1, .int .i64 R.2.2, .slice none 0 0] 58 + B')) →
      zao_b13 p j c q t d (some ⟨b1, 0, none⟩) (some ⟨b2, 0, none⟩) j j (i : Int) (y : Int) (some ⟨bt, 0, none⟩) (some ⟨br, 0, none⟩) 0 q t d (t : Int) (i : Int) h' nx K := fun {h' bt br q2 m2 d2 B'} na s' => by
    rw [zao_b13]
    have x := s6.ext.trans s'.ext
    refine yaau rfl ((r.ext x).ld rfl hyn ((yadd _ _).mono fun v h7 ⟨hv, x7⟩ => ⟨_, hv, condP (fun he => ?_) (fun he => fin16 na (s'.grow x7) (by unfold stepE; rw [if_neg (fun h => he h.1), hR]))⟩))
    have s' := s'.grow x7
    refine yaan rfl ⟨_, _, _, _, _, s'.ld0, s'.ldB, s'.ldB, ⟨by omega, by omega⟩, yaan hp ⟨_, _, _, _, _, s'.ext.cell cR3, s'.ext.cell cR4, s'.ext.cell cR5, ?_⟩⟩
    refine (yale (RdT.nil _ none) (em.2.1.ext s'.ext) (Nat.zero_le _)).mono fun v h8 ⟨hv, x8⟩ => ⟨_, hv, condN (fun hne => ?_) (fun heq => fin16 na (s'.grow x8) ?_)⟩
    · rw [yaqr hnxt (by
        unfold stepE
        rw [hR]
        exact if_pos ⟨he, fun h => hne ⟨h.1, h.2.1, h.2.2.symm⟩⟩)] at hW
      exact key _ _ (WitP.of (by rw [← hW]) (s6.ext.trans (s'.ext.trans x8)))
    · unfold stepE
      rw [hR]
      exact if_neg fun h => h.2 ⟨heq.1, heq.2.1, heq.2.2.symm⟩
  have fin : ∀ {h' : Hp} {bt br : Nat} {q2 : OA} {m2 d2 : Nat} {B' : Bag}, RowsA (q2, m2, d2) R.1 B' → St h6 h' (cA bt [.int .i64 0, .slice none 0 0] 24 + (cA br [.int .i64 0, .int .i64 0, .slice none 0 0] 58 + B')) →
      Wr h' ⟨bt, 0, none⟩ (.int .i64 k) fun h1 => Wr h1 ((⟨bt, 0, none⟩ : Addr).add 1) (.slice q2 m2 d2) fun h2 => Wr h2 ⟨br, 0, none⟩ (.int .i64 R.2.1) fun h3 => Wr h3 ((⟨br, 0, none⟩ : Addr).add 1) (.int .i64 R.2.2) fun h4 => Wr h4 ((⟨br, 0, none⟩ : Addr).add 2) (.slice none 0 0) fun h5 =>
        zao_b13 p j c q t d (some ⟨b1, 0, none⟩) (some ⟨b2, 0, none⟩) j j (i : Int) (y : Int) (some ⟨bt, 0, none⟩) (some ⟨br, 0, none⟩) 0 q t d (t : Int) (i : Int) h5 nx K := fun {h' bt br q2 m2 d2 B'} na s' =>
    s'.wr0 fun g1 t1 => t1.wrB fun g2 t2 => t2.wr0 fun g3 t3 => t3.wrB fun g4 t4 => t4.wrB fun g5 t5 => fin13 na t5.to
  rw [zao_b11]
  refine yaan rfl ⟨_, _, _, _, cX1, cX2, ⟨by omega, by omega⟩, yaan hp ⟨_, _, _, _, cO1, cO2, ?_⟩⟩
  clear s6
  have s := St.start h6
  repeat' first
    | (with_reducible refine fin na2 ?_); exact s.to
    | (with_reducible refine St.new s (cs := [.int .i64 0, .int .i64 0, .slice none 0 0]) ?_); intro _ _ _ s
    | (with_reducible refine St.new s (cs := [.int .i64 0, .slice none 0 0]) ?_); intro _ _ _ s
    | (with_reducible refine yaah.mono (stp s.ext) ?_); rintro _ _ ⟨q2, m2, d2, B2, hv2, na2, tt⟩; refine ⟨_, _, _, _, _, _, _, _, _, _, hv2, ?_⟩; have s := s.join tt; clear tt
    | with_reducible refine ⟨⟨_, _, _, _, s.ext.cell cO1, s.ext.cell cO2, rfl⟩, ?_⟩
    | with_reducible refine ⟨yaan rfl ⟨_, _, _, _, s.ext.cell cX1, s.ext.cell cX2, rfl⟩, ?_⟩
    | with_reducible refine ⟨?_, ?_⟩
end
section
variable {h : Hp} {p : OA} {n c : Nat} {l : List Ev} {k : Int} {sp : OA} {sn sc : Nat} {rows : Rows}
end
structure SeqE (es : List Ev) : Prop where
  fwd : ∀ i j, i < j → j < es.length → prec (es.getD i dEv) (es.getD j dEv)
  bwd : ∀ i j, i ≤ j → j < es.length → ¬ prec (es.getD j dEv) (es.getD i dEv)
  cpl : ∀ i, i < es.length → 0 ≤ (es.getD i dEv).t.en
def dlt (t : Nat) : Nat → Bool := fun j => decide (j < t)
theorem yans (t : Nat) : setD (dlt t) t = dlt (t + 1) := by
  funext j
  unfold setD dlt
  rw [Bool.eq_iff_iff, Bool.or_eq_true, decide_eq_true_iff, decide_eq_true_iff, decide_eq_true_iff]
  omega
theorem yaic : dlt 0 = D0 := by
  funext j
  exact decide_eq_false (by omega)
section
variable {k : Int} {es : List Ev} {rs : Nat → Rows}
theorem yanb (q : SeqE es) {t i : Nat} (ht : t < es.length) (hi : i < es.length) : Nxt es (dlt t) i ↔ i = t := by
  constructor
  · rintro ⟨h1, h2⟩
    have h1 := of_decide_eq_false h1
    rcases Nat.lt_or_ge t i with h | h
    · exact absurd (q.fwd t i h hi) (h2 t ht (decide_eq_false (by omega)))
    · omega
  · rintro rfl
    exact ⟨decide_eq_false (by omega), fun j hj hd => q.bwd i j (by have := of_decide_eq_false hd; omega) hj⟩
theorem yaug (q : SeqE es) (g : ∀ t, t < es.length → stepE k (rs t) (es.getD t dEv) = some (rs (t + 1))) : ∀ (m t : Nat), t + m = es.length → Lin k es (List.range' t m) (dlt t) (rs t)
  | 0, t, h => fun j hj _ => decide_eq_true (by omega)
  | m + 1, t, h => by
    rw [List.range'_succ]
    refine ⟨by omega, (yanb q (by omega) (by omega)).2 rfl, _, g t (by omega), ?_⟩
    rw [yans]
    exact yaug q g m (t + 1) (by omega)
theorem yava (q : SeqE es) (g : ∀ t, t < es.length → stepE k (rs t) (es.getD t dEv) = some (rs (t + 1))) : ∀ (o : List Nat) (t : Nat), t ≤ es.length → Lin k es o (dlt t) (rs t) → o = List.range' t (es.length - t)
  | [], t, ht, h => by
    by_cases he : t = es.length
    · rw [he, Nat.sub_self]; rfl
    · have := of_decide_eq_true (h t (by omega) (q.cpl t (by omega)))
      omega
  | i :: o, t, ht, ⟨hi, hn, r, hr, hl⟩ => by
    have htl : t < es.length := by
      have := of_decide_eq_false hn.1
      omega
    obtain rfl := (yanb q htl hi).1 hn
    rw [g i htl] at hr
    cases hr
    rw [yans] at hl
    rw [yava q g o (i + 1) htl hl, show es.length - i = (es.length - (i + 1)) + 1 by omega, List.range'_succ]
theorem yaup (q : SeqE es) {b : Nat} (hb : b < es.length) (g : ∀ t, t < b → stepE k (rs t) (es.getD t dEv) = some (rs (t + 1))) (gb : stepE k (rs b) (es.getD b dEv) = none) : ∀ (o : List Nat) (t : Nat), t ≤ b → ¬ Lin k es o (dlt t) (rs t)
  | [], t, ht, h => by
    have := of_decide_eq_true (h t (by omega) (q.cpl t (by omega)))
    omega
  | i :: o, t, ht, ⟨hi, hn, r, hr, hl⟩ => by
    obtain rfl := (yanb q (by omega) hi).1 hn
    rcases Nat.lt_or_ge i b with h | h
    · rw [g i h] at hr
      cases hr
      rw [yans] at hl
      exact yaup q hb g gb o (i + 1) h hl
    · obtain rfl : i = b := by omega
      rw [gb] at hr
      cases hr
theorem yauu (q : SeqE es) {b : Nat} (hb : b < es.length) (g : ∀ t, t < b → stepE k (rs t) (es.getD t dEv) = some (rs (t + 1))) (gb : stepE k (rs b) (es.getD b dEv) = none) : ∀ (m t : Nat), t + m = es.length → t ≤ b → wit k es (natI (List.range' t m)) (dlt t) (rs t) (t : Int) = (false, (b : Int))
  | 0, t, h, ht => by omega
  | m + 1, t, h, ht => by
    rw [List.range'_succ]
    show wit k es ((t : Int) :: natI (List.range' (t + 1) m)) (dlt t) (rs t) (t : Int) = _
    have hx := (yanb q (i := t) (t := t) (by omega) (by omega)).2 rfl
    rcases Nat.lt_or_ge t b with h1 | h1
    · rw [yarv hx (g t h1), yans]
      have := yauu q hb g gb m (t + 1) (by omega) h1
      push_cast at this
      exact this
    · obtain rfl : t = b := by omega
      rw [yaqr hx gb]
theorem yawt (q : SeqE es) {b : Nat} (hb : b < es.length) (g : ∀ t, t < b → stepE k (rs t) (es.getD t dEv) = some (rs (t + 1))) (gb : stepE k (rs b) (es.getD b dEv) = none) : witR k es (natI (List.range es.length)) (rs 0) = (false, (b : Int), 0) := by
  rw [yavb, ← yaic]
  · have := yauu q hb g gb es.length 0 (by omega) (by omega)
    rw [← List.range_eq_range'] at this
    rw [show ((0 : Nat) : Int) = 0 from rfl] at this
    rw [this]
  · intro o ho
    obtain ⟨x, hx, rfl⟩ := List.mem_map.1 ho
    have := List.mem_range.1 hx
    omega
  · exact List.pairwise_map.2 ((List.nodup_range).imp fun h e => h (by exact_mod_cast e))
end
theorem yaqn {h : Hp} {p : OA} {n c : Nat} {ops : List OpL} (r : OpsR h p n ops) (hn : n ≤ 1000000) :
    yaah Tryz.prog 22 #[.slice p n c, .func (.func 23) #[] #[]] h (fun v h' => (∃ b, v = .bool b) ∧ Ext h h') := by
  refine zco_call ?_
  rw [zco_b0]
  refine zcu_call ?_
  rw [zcu_b0]
  refine ⟨fun s h' => Ext h h' ∧ ∃ i : Nat, s.1 = i ∧ i ≤ n, fun s _ => n - s.1.toNat, ⟨Ext.refl h, 0, rfl, by omega⟩, ?_⟩
  rintro ⟨_, _⟩ h1 ⟨x1, i, rfl, hin⟩
  dsimp only
  rw [zcu_b1]
  refine condP (fun hlt => ?_) (fun hge => ?_)
  · refine r.at_ x1 (by omega) (by omega) fun q m d _ rz => ?_
    rw [Int.toNat_natCast] at rz ⊢
    generalize hop : ops.getD i (0, []) = op at rz ⊢
    show callX Tryz.prog F 23 #[.agg #[.int .i64 op.1, .slice q m d]] _ _
    refine yadl (by kernel_rfl) (zaf_call ?_)
    rw [zaf_b0]
    refine (St.start h1).new (cs := [.int .i64 op.1, .slice q m d]) fun b3 h3 x3 s3 => ⟨_, _, _, s3.ldB, _, rfl, condP (fun hy => ⟨_, rfl, ⟨_, rfl⟩, x1.trans x3⟩) (fun hno => ?_)⟩
    rw [zcu_b2]
    exact ⟨⟨by omega, by omega⟩, ⟨x1.trans x3, i + 1, by simp only; omega, by omega⟩, by simp only; omega⟩
  · rw [zcu_b3]
    exact ⟨_, rfl, ⟨_, rfl⟩, x1⟩
theorem yaxa {k : Int} (hk : ¬ (1 ≤ k ∧ k ≤ 6)) (h : Hp) : yaah Tryz.prog 54 #[.int .i64 k] h (fun v h' => v = .slice none 0 0 ∧ Ext h h') := by
  refine zcg_call ?_
  rw [zcg_b0]
  refine yaau (decide_eq_false (by omega)) (yaau (decide_eq_false (by omega)) (yaau (decide_eq_false (by omega)) (yaau (decide_eq_false (by omega)) (yaau (decide_eq_false (by omega)) (yaau (decide_eq_false (by omega)) ?_)))))
  rw [zcg_b1]
  exact ⟨rfl, Ext.refl h⟩
theorem yazt {k : Int} (hk : ¬ (1 ≤ k ∧ k ≤ 6)) (h : Hp) : yaah Tryz.prog 24 #[.int .i64 k] h (fun v h' => v = .tuple #[.agg #[.int .i64 0, .slice none 0 0], .int .i64 1] ∧ Ext h h') := by
  refine zbd_call ?_
  rw [zbd_b0]
  refine (St.start h).new (cs := [.int .i64 0, .slice none 0 0]) fun b1 h1 x1 s1 => (yaxa hk h1).mono fun v h2 ⟨hv, x2⟩ => ⟨_, _, _, hv, ?_⟩
  have s2 := s1.grow x2
  refine yaax rfl (s2.wr0 fun h3 s3 => s3.wrB fun h4 s4 => ⟨_, _, _, _, s4.ld0, s4.ldB, rfl, s4.ext⟩)
theorem yazq {k : Int} {h : Hp} {p : OA} {n c : Nat} {ops : List OpL} (r : OpsR h p n ops) (hn : n ≤ 1000000) (hno : ¬ ((1 ≤ k ∧ k ≤ 6) ∧ AllV k ops)) :
    yaah Tryz.prog 25 #[.agg #[.int .i64 k, .slice none 0 0], .slice p n c] h (fun v h' => v = .tuple #[.agg #[.int .i64 0, .slice none 0 0], .slice none 0 0, .int .i64 1] ∧ Ext h h') := by
  refine zbe_call ?_
  rw [zbe_b0]
  refine (St.start h).new (cs := [.int .i64 k, .slice none 0 0]) fun b1 h1 _ s1 => s1.new (cs := [.int .i64 0, .slice none 0 0]) fun b2 h2 _ s2 => ⟨_, _, _, _, s2.ld0, s2.ldB, ?_⟩
  refine (yadu (yaes h2) (fun r hr => by cases hr)).mono fun v1 h3 ⟨⟨bb, hv1, hbb⟩, x3⟩ => ⟨_, hv1, ?_⟩
  have s3 := s2.grow x3
  refine yayy (fun hf => s3.wr0 fun h4 s4 => s4.wrB fun h5 s5 => ⟨_, _, _, _, s5.ld0, s5.ldB, rfl, s5.ext⟩) (fun hy => ?_)
  have hk := yapd (hbb.1 hy)
  refine (yamk (r.ext s3.ext) hn s3.atomBlk).mono fun v2 h4 ⟨hv2, x4⟩ => ⟨_, hv2, yaax (by rw [decide_eq_false fun h => hno ⟨hk, h⟩]; rfl) ?_⟩
  have s4 := s3.grow x4
  exact s4.wr0 fun h5 s5 => s5.wrB fun h6 s6 => ⟨_, _, _, _, s6.ld0, s6.ldB, rfl, s6.ext⟩
theorem ybap {P : Program} {F : Nat → Bool} {l : Nat} {args : List Value} {h : Hp} {K : VK} (hc : yahl P l args.toArray h K) : yato P F (.func (.yield l) #[] #[]) args h K := hc
theorem ybaj {n i : Nat} (hi : i < n) : ((natI (List.range n)).map (Value.int .i64)).getD i .nilFunc = .int .i64 (i : Int) := by simp [List.getD, hi]
theorem yarw {n : Nat} : (natI (List.range n)).length = n := by rw [List.length_map, List.length_range]
theorem ybbp {h0 h : Hp} {l b : Nat} {p : OA} {n c : Nat} {J : Nat → Bag → Prop} {Jx : Bag → Prop} {A F0 : Bag} (Y : Yld Tryz.prog h0 l ((natI (List.range n)).map (Value.int .i64)) J Jx)
    (hb : cell h0 ⟨b, 0, none⟩ = some (.slice p n c)) (hn : n ≤ 1000000) (hJ : J 0 A) (s : St h0 h (A + F0)) :
    yaah Tryz.prog 27 #[.func (.yield l) #[] #[], ptr b] h (fun _ h' => ∃ A', (J n A' ∨ Jx A') ∧ St h0 h' (A' + F0)) := by
  refine zag_call ?_
  rw [zag_b0]
  refine yaan rfl ⟨_, _, _, s.ext.cell hb, fun x h' => ∃ (i : Nat) (A : Bag), x.1 = i ∧ i ≤ n ∧ J i A ∧ St h0 h' (A + F0), fun x _ => (n - x.1).toNat, ⟨0, A, rfl, Nat.zero_le _, hJ, s⟩, ?_⟩
  clear s hJ A
  rintro ⟨z, _⟩ h2 ⟨i, A, hz, hi, hJ, s⟩
  dsimp only at hz ⊢
  subst hz
  rw [zag_b1]
  refine condP (fun hlt => ?_) (fun hge => ?_)
  · have hin : i < n := by omega
    refine ybap ?_
    have hy := Y i A F0 h2 (by rw [List.length_map, yarw]; exact hin) hJ s
    rw [ybaj hin] at hy
    refine hy.mono fun v h3 hv => ?_
    rcases hv with ⟨rfl, A', hJ', s'⟩ | ⟨rfl, A', hJ', s'⟩
    · refine ⟨_, rfl, yaau rfl ?_⟩
      rw [zag_b2]
      exact ⟨⟨by omega, by omega⟩, ⟨i + 1, A', by push_cast; rfl, by omega, hJ', s'⟩, by dsimp only; omega⟩
    · exact ⟨_, rfl, yaax rfl ⟨A', .inr hJ', s'⟩⟩
  · obtain rfl : i = n := by omega
    exact ⟨A, .inl hJ, s⟩
theorem yaql {h : Hp} {b : Nat} {p : OA} {n c : Nat} (hb : cell h ⟨b, 0, none⟩ = some (.slice p n c)) (hn : n ≤ 1000000) :
    yaah Tryz.prog 26 #[.func (.func 27) #[] #[ptr b]] h (fun v h' => ∃ q d A, v = .slice q n d ∧ Sl TI q n d (natI (List.range n)) A ∧ St h h' A) := by
  have hl := @yarw n
  refine zcl_call ?_
  rw [zcl_b0]
  refine yaah.mono (K := fun v h' => ∃ q d A, v = .slice q n d ∧ Sl TI q n d (natI (List.range n)) A ∧ St h h' A) ?_ fun v h1 ⟨q, d, A, hv, o, s⟩ => ⟨_, _, _, hv, q, d, A, rfl, o, s⟩
  refine zch_call ?_
  rw [zch_b0_eq]
  refine (St.start h).new (cs := [_]) fun b1 h1 x1 s => ⟨27, #[ptr b], rfl, by kernel_rfl, fun rec HR => ?_⟩
  have s := s.range rec
  refine yaah.mono (K := fun _ h' => ∃ A', ((∃ po co Ao, Sl TI po n co (natI (List.range n)) Ao ∧ A' = lA rec (h1.size + 1) .ready none + (dA h1.size + (cA b1 [.slice po n co] 29 + Ao))) ∨ False) ∧ St h h' (A' + 0)) ?_ ?_
  · refine (ybbp (h0 := h) (p := p) (n := n) (c := c) (F0 := 0) (J := fun i A => ∃ po co Ao, Sl TI po i co ((natI (List.range n)).take i) Ao ∧ A = lA rec (h1.size + 1) .ready none + (dA h1.size + (cA b1 [.slice po i co] 29 + Ao))) (Jx := fun _ => False) ?_ hb hn ⟨none, 0, 0, Sl.nil, rfl⟩ s.to).mono fun v h' ⟨A', hA, s⟩ => ⟨A', ?_, s⟩
    · rintro i _ F h5 hi ⟨po, co, Ao, oo, rfl⟩ s
      rw [List.length_map, hl] at hi
      rw [ybaj hi]
      refine HR _ h5 _ s.lpB ⟨s.lpB, ?_⟩
      have s := s.setLpB (rec := rec) (st := .ready) (pe := none) (st' := .busy) (pe' := none) (l := h1.size + 1)
      refine ⟨_, _, _, s.ld0, ?_⟩
      have s := s.to (B := Ao + (lA rec (h1.size + 1) .busy none + (dA h1.size + (cA b1 [.slice po i co] 29 + F))))
      refine yank yaku s oo (x := (i : Int)) rfl rfl (by omega) fun p' c' h6 Ao' oo' s => s.wr1 fun h7 s => ⟨s.lpB, .inl ⟨rfl, _, ⟨p', c', Ao', ?_, rfl⟩, ?_⟩⟩
      · rw [List.take_succ_eq_append_getElem (by omega)]
        have : (natI (List.range n))[i]'(by omega) = (i : Int) := by simp
        rw [this]
        exact oo'
      · exact (s.setLpB (rec := rec) (st := .busy) (pe := none) (st' := .ready) (pe' := none) (l := h1.size + 1)).to
    · rcases hA with ⟨po, co, Ao, o, hA⟩ | hf
      · rw [List.take_of_length_le (by omega)] at o
        exact .inl ⟨po, co, Ao, o, hA⟩
      · exact hf.elim
  · rintro v h6 ⟨A', ⟨po, co, Ao, oo, rfl⟩ | hf, s⟩
    · have s2 := s.setLpB (rec := rec) (st := .ready) (pe := none) (st' := .exhausted) (pe' := none) (l := h1.size + 1)
      refine ⟨.ready, none, s.lpB, by simp, .inl ⟨rfl, _, _, _, s2.ld0, (s2.defB (d := h1.size)).1, po, co, Ao, rfl, oo, ?_⟩⟩
      have s3 := (s2.defB (d := h1.size)).2
      exact (s3.to (B := (cA b1 [.slice po n co] 29 + (lA rec (h1.size + 1) .exhausted none + Bag.one (h1.size, .deferred none))) + Ao)).drop
    · exact hf.elim
def sqE (hs : List OpT) (ops : List OpL) (res : Nat → ResL) (i : Nat) : Ev := ⟨⟨(i : Int) % 3, (hs.getD i tO.d).1, (hs.getD i tO.d).2, (res i).1, (res i).2, (none, 0, 0), 2 * (i : Int), 2 * (i : Int) + 1⟩, (ops.getD i (0, [])).2, []⟩
def sqL (hs : List OpT) (ops : List OpL) (res : Nat → ResL) (n : Nat) : List Ev := (List.range n).map (sqE hs ops res)
section
variable {hs : List OpT} {ops : List OpL} {res : Nat → ResL} {n : Nat} {k : Int}
theorem yabt : (sqL hs ops res n).length = n := by unfold sqL; rw [List.length_map, List.length_range]
theorem yafn {i : Nat} (h : i < n) : (sqL hs ops res n).getD i dEv = sqE hs ops res i := by
  unfold sqL
  simp [List.getD, h]
theorem yayh : sqL hs ops res (n + 1) = sqL hs ops res n ++ [sqE hs ops res n] := by
  unfold sqL
  rw [List.range_succ, List.map_append]
  rfl
theorem yahn : SeqE (sqL hs ops res n) where
  fwd := fun i j hij hj => by
    rw [yabt] at hj
    rw [yafn (by omega), yafn hj]
    exact ⟨by show (0 : Int) ≤ 2 * (i : Int) + 1; omega, by show 2 * (i : Int) + 1 < 2 * (j : Int); omega⟩
  bwd := fun i j hij hj h => by
    rw [yabt] at hj
    rw [yafn hj, yafn (i := i) (by omega)] at h
    have : 2 * (j : Int) + 1 < 2 * (i : Int) := h.2
    omega
  cpl := fun i hi => by
    rw [yabt] at hi
    rw [yafn hi]
    show (0 : Int) ≤ 2 * (i : Int) + 1
    omega
theorem yavw : SeqT ((sqL hs ops res n).map Ev.t) := by
  refine List.pairwise_map.2 (List.pairwise_iff_getElem.2 fun i j hi hj hij => .inl ?_)
  have := (yahn (hs := hs) (ops := ops) (res := res) (n := n)).fwd i j hij hj
  rwa [yaaf hi, yaaf hj] at this
theorem yawz (hn : n ≤ 10) (ho : ops.length = n) (hh : ∀ i, i < n → (hs.getD i tO.d).1 = (ops.getD i (0, [])).1) (hv : AllV k ops) : HistK k (sqL hs ops res n) := by
  refine ⟨by rw [yabt]; omega, fun e he => ?_, ?_, fun e he => ?_⟩
  · obtain ⟨i, hi, rfl⟩ := List.mem_map.1 he
    have hi := List.mem_range.1 hi
    refine ⟨?_, ?_, .inr ?_, fun h => ?_⟩
    · show 0 ≤ (i : Int) % 3 ∧ (i : Int) % 3 < 8
      omega
    · show 0 ≤ 2 * (i : Int) ∧ 2 * (i : Int) ≤ 65536
      omega
    · show 2 * (i : Int) ≤ 2 * (i : Int) + 1 ∧ 2 * (i : Int) + 1 ≤ 65536
      omega
    · have : 2 * (i : Int) + 1 = -1 := h
      omega
  · refine List.pairwise_iff_getElem.2 fun i j hi hj hij _ => ?_
    have := (yahn (hs := hs) (ops := ops) (res := res) (n := n)).fwd i j hij hj
    rwa [yaaf hi, yaaf hj] at this
  · obtain ⟨i, hi, rfl⟩ := List.mem_map.1 he
    have hi := List.mem_range.1 hi
    show OpV k (hs.getD i tO.d).1 (ops.getD i (0, [])).2
    rw [hh i hi]
    exact hv _ (yaap (by omega))
theorem ybcf (hv : AllV k ops) (ho : ops.length = n) : Sm (sqL hs ops res n) := fun e he => by
  obtain ⟨i, hi, rfl⟩ := List.mem_map.1 he
  have hi := List.mem_range.1 hi
  have := yang (hv _ (yaap (l := ops) (i := i) (d := (0, [])) (by omega)))
  exact ⟨by show (ops.getD i (0, [])).2.length ≤ 70; omega, Nat.zero_le _⟩
theorem yamb : ∀ {m i : Nat}, i < m → m ≤ ops.length → (runR k (ops.take m)).2.getD i (0, 0) = (stepR k (runR k (ops.take i)).1 (ops.getD i (0, [])).1 (ops.getD i (0, [])).2).2
  | m + 1, i, h, hm => by
    have hl := yalo (k := k) (ops := ops) (i := m) (by omega)
    rw [yaez (by omega)]
    show ((runR k (ops.take m)).2 ++ [_]).getD i (0, 0) = _
    rcases Nat.lt_or_ge i m with h1 | h1
    · rw [yaqy (by omega)]
      exact yamb h1 (by omega)
    · obtain rfl : i = m := by omega
      rw [List.getD_eq_getElem?_getD, List.getElem?_append_right (by omega), hl, Nat.sub_self]
      rfl
theorem yaud (ho : ops.length = n) (hh : ∀ i, i < n → (hs.getD i tO.d).1 = (ops.getD i (0, [])).1) {t : Nat} (ht : t < n) (hr : res t = (runR k ops).2.getD t (0, 0)) :
    stepE k (runR k (ops.take t)).1 (sqE hs ops res t) = some (runR k (ops.take (t + 1))).1 := by
  have h1 := yamb (k := k) (ops := ops) (m := n) (i := t) ht (by omega)
  rw [List.take_of_length_le (by omega), ← hr] at h1
  have h2 : stepR k (runR k (ops.take t)).1 (sqE hs ops res t).t.co (sqE hs ops res t).zs = stepR k (runR k (ops.take t)).1 (ops.getD t (0, [])).1 (ops.getD t (0, [])).2 := by
    show stepR k _ (hs.getD t tO.d).1 _ = _
    rw [hh t ht]
    rfl
  unfold stepE
  rw [h2, yaez (by omega)]
  refine if_neg fun h => h.2 ⟨?_, ?_, rfl⟩
  · rw [← h1]; rfl
  · rw [← h1]; rfl
theorem ybau (ho : ops.length = n) (hh : ∀ i, i < n → (hs.getD i tO.d).1 = (ops.getD i (0, [])).1) {t : Nat} (ht : t < n) (hr : (res t).2 ≠ ((runR k ops).2.getD t (0, 0)).2) :
    stepE k (runR k (ops.take t)).1 (sqE hs ops res t) = none := by
  have h1 := yamb (k := k) (ops := ops) (m := n) (i := t) ht (by omega)
  rw [List.take_of_length_le (by omega)] at h1
  have h2 : stepR k (runR k (ops.take t)).1 (sqE hs ops res t).t.co (sqE hs ops res t).zs = stepR k (runR k (ops.take t)).1 (ops.getD t (0, [])).1 (ops.getD t (0, [])).2 := by
    show stepR k _ (hs.getD t tO.d).1 _ = _
    rw [hh t ht]
    rfl
  unfold stepE
  rw [h2]
  refine if_pos ⟨by show (0 : Int) ≤ 2 * (t : Int) + 1; omega, fun h => hr ?_⟩
  rw [h1]
  exact h.2.1.symm
theorem yatq {res' : Nat → ResL} {i : Nat} (h : res i = res' i) : sqE hs ops res i = sqE hs ops res' i := by unfold sqE; rw [h]
end
section
variable {h : Hp} {p : OA} {n c : Nat} {k : Int} {hs : List OpT} {ops : List OpL}
theorem sqL_r {res : Nat → ResL} {h' : Hp} {q : OA} (r2 : ∀ i, i < n → (hs.getD i tO.d).1 = (ops.getD i (0, [])).1 ∧ (hs.getD i tO.d).2.2.1 ≤ (hs.getD i tO.d).2.2.2 ∧ RdT TI h (hs.getD i tO.d).2.1 (hs.getD i tO.d).2.2.1 (ops.getD i (0, [])).2)
    (x : Ext h h') (o : RdT tEv h' q n ((sqL hs ops res n).map Ev.t)) : EvsR h' q n (sqL hs ops res n) := by
  refine ⟨o, fun e he => ?_⟩
  obtain ⟨i, hi, rfl⟩ := List.mem_map.1 he
  have hi := List.mem_range.1 hi
  obtain ⟨_, k2, k3⟩ := r2 i hi
  exact ⟨⟨k3.ext x, k2⟩, RdT.nil _ _, Nat.zero_le _⟩
theorem yayp {b1 b3 : Nat} {rp : OA} {rc : Nat} {rs : List ResL} {C G : Bag} {h1 : Hp} {wrong nv : Int} {K : VK} (r1 : RdT tO h p n hs) (hn : n ≤ 10) (hol : ops.length = n) (hrl : rs.length = n)
    (oc : Sl tRes rp n rc rs C) (s : St h h1 (cA b3 [.slice none 0 0] 25 + (C + G)))
    (hK : ∀ (h' : Hp) (q : OA) (d : Nat) (A : Bag), Sl tEv q n d ((sqL hs ops (fun i => rs.getD i (0, 0)) n).map Ev.t) A → St h h' (A + (cA b3 [.slice q n d] 25 + (C + G))) → zae_b5 wrong nv (some ⟨b1, 0, none⟩) (some ⟨b3, 0, none⟩) h' K) :
    yaaq ((0, ()) : Int × Unit) h1 (fun (nx0 : Int × Unit → Hp → Prop) (s1 : Int × Unit) h15 => zae_b3 s1.1 wrong nv (some ⟨b1, 0, none⟩) rp n rc (some ⟨b3, 0, none⟩) p n c (n : Int) h15 nx0 K) := by
  refine ⟨fun x h' => ∃ (i : Nat) (q : OA) (d : Nat) (A : Bag), x.1 = (i : Int) ∧ i ≤ n ∧ Sl tEv q i d ((sqL hs ops (fun i => rs.getD i (0, 0)) i).map Ev.t) A ∧ St h h' (A + (cA b3 [.slice q i d] 25 + (C + G))), fun x _ => n - x.1.toNat, ⟨0, none, 0, 0, rfl, by omega, Sl.nil, by rw [Bag.zero_add]; exact s⟩, ?_⟩
  clear s
  rintro ⟨_, _⟩ h2 ⟨i, q, d, A, rfl, hi, o, s⟩
  dsimp only
  rw [zae_b3]
  refine condP (fun hlt => ?_) (fun hge => ?_)
  rotate_left
  · obtain rfl : i = n := by omega
    exact hK h2 q d A o s
  have hin : i < n := by omega
  obtain ⟨ad, hp, hc⟩ := (r1.ext s.ext).at_ hin
  refine ⟨⟨by omega, by omega⟩, yaan hp ⟨_, _, _, _, hc 0 (by decide), hc 1 (by decide), ?_⟩⟩
  refine s.new (cs := [.int .i64 0, .slice none 0 0]) fun b4 h3 _ s3 => s3.wr0 fun h4 s4 => s4.wrB fun h5 s5 => yaan rfl ⟨_, _, _, s5.ld0, ?_⟩
  refine yamt (by omega) (by omega) ⟨_, _, _, _, s5.ld0, s5.ldB, ⟨by omega, by omega⟩, ?_⟩
  obtain ⟨ad2, hp2, hc2⟩ := (oc.rd (s5.to (B := C + (cA b4 [.int .i64 (hs.getD i tO.d).1, .slice (hs.getD i tO.d).2.1 (hs.getD i tO.d).2.2.1 (hs.getD i tO.d).2.2.2] 50 + (A + (cA b3 [.slice q i d] 25 + G)))))).at_ hin
  refine yaan hp2 ⟨_, _, _, _, _, hc2 0 (by decide), hc2 1 (by decide), hc2 2 (by decide), ⟨by omega, by omega⟩, ⟨by omega, by omega⟩, ⟨by omega, by omega⟩, ?_⟩
  refine s5.new (cs := tEv.enc (sqE hs ops (fun i => rs.getD i (0, 0)) i).t) fun b5 h6 _ s6 => ⟨yaan rfl ⟨_, _, _, s6.ld0, rfl⟩, ?_⟩
  have sx : Sl tEv (some ⟨b5, 0, none⟩) 1 1 [(sqE hs ops (fun i => rs.getD i (0, 0)) i).t] (cA b5 (tEv.enc (sqE hs ops (fun i => rs.getD i (0, 0)) i).t) 60) := Sl.of_blk (T := tEv) (xs := [(sqE hs ops (fun i => rs.getD i (0, 0)) i).t]) rfl (Ty.cells_one tEv _).symm
  refine yacb ok_ev (s6.to (B := A + (cA b3 [.slice q i d] 25 + (C + G) + (cA b4 [.int .i64 (hs.getD i tO.d).1, .slice (hs.getD i tO.d).2.1 (hs.getD i tO.d).2.2.1 (hs.getD i tO.d).2.2.2] 50 + cA b5 (tEv.enc (sqE hs ops (fun i => rs.getD i (0, 0)) i).t) 60)))) o (sx.rd s6) (by omega) fun q7 d7 h7 A7 o7 s7 => yaan rfl (s7.wr0 fun h8 s8 => ?_)
  have s8 : St h h8 ((cA b4 [.int .i64 (hs.getD i tO.d).1, .slice (hs.getD i tO.d).2.1 (hs.getD i tO.d).2.2.1 (hs.getD i tO.d).2.2.2] 50 + cA b5 (tEv.enc (sqE hs ops (fun i => rs.getD i (0, 0)) i).t) 60) + (A7 + (cA b3 [.slice q7 (i + 1) d7] 25 + (C + G)))) := s8.to
  rw [zae_b4]
  refine ⟨⟨by omega, by omega⟩, ⟨i + 1, q7, d7, A7, by push_cast; rfl, by omega, ?_, s8.drop⟩, by simp only; omega⟩
  rw [yayh, List.map_append]
  exact o7
theorem wrNu {h0 h : Hp} {q : OA} {n d b : Nat} {xs : List EvT} {A F : Bag} {x : EvT} {v : Value} {k : Hp → Prop} (a : Sl tEv q n d xs A) (s : St h0 h (A + F)) (hb : b < n) (hx : tEv.enc x = (tEv.enc (xs.getD b tEv.d)).set 4 v)
    (hk : ∀ h' A', Sl tEv q n d (xs.set b x) A' → St h0 h' (A' + F) → k h') : NN q fun ad => Wr h (((ad.add (Int.toNat (b : Int) * 8)).add 3).add 1) v k := by
  obtain ⟨ad, hp, w⟩ := a.wr s hb (j := 4) (by decide) hx hk
  refine yaan hp ?_
  have e : ((ad.add (Int.toNat (b : Int) * 8)).add 3).add 1 = (ad.add (b * tEv.sz)).add 4 := by simp [yadc]
  rw [e]
  exact w
theorem yazm {wrong nv : Int} (aw : ybag h) (tab : Tab10 h) (r : OpsR h p n ops) (hw : 0 ≤ wrong ∧ wrong ≤ 255) :
    yaah Tryz.prog 6 #[.int .i64 k, .slice p n c, .int .u8 wrong, .int .i64 nv] h (TrueP h) := by
  have hol := r.len
  refine zae_call ?_
  rw [zae_b0]
  have awk : ∀ {h' : Hp}, Ext h h' → yaah Tryz.prog 7 #[] h' (fun v h' => ∃ r : Bool, v = .bool r ∧ TrueP h (.bool r) h') := fun x => (aw _ x).mono fun v h2 ⟨hv, x2⟩ => ⟨_, hv, rfl, x.trans x2⟩
  refine (aw h (Ext.refl h)).mono fun v h1 ⟨hv, x1⟩ => ⟨_, hv, yaau rfl (condP (fun _ => awk x1) (fun h10 => ?_))⟩
  have hn : n ≤ 10 := by omega
  refine (yaqn (r.ext x1) (by omega)).mono fun v h2 ⟨⟨b2, hv⟩, x2⟩ => ⟨_, hv, yaat (fun _ => awk (x1.trans x2)) (fun _ => ?_)⟩
  have x2 := x1.trans x2
  rw [zae_b1]
  by_cases hgood : (1 ≤ k ∧ k ≤ 6) ∧ AllV k ops
  rotate_left
  · -- nothing is run
    by_cases hk : 1 ≤ k ∧ k ≤ 6
    · refine (yavi hk h2).mono fun v h3 ⟨hv, x3⟩ => ⟨_, _, _, _, _, hv, ?_⟩
      have x3 := x2.trans x3
      refine ((St.start h).grow x3).new (cs := [.int .i64 0, .slice none 0 0]) fun b1 h4 _ s4 => s4.wr0 fun h5 s5 => s5.wrB fun h6 s6 => ⟨_, _, _, _, s6.ld0, s6.ldB, ?_⟩
      refine (yazq (r.ext s6.ext) (by omega) hgood).mono fun v h7 ⟨hv, x7⟩ => ⟨_, _, _, _, _, _, _, _, hv, ?_⟩
      exact (s6.grow x7).new (cs := [.int .i64 0, .slice none 0 0]) fun b2 h8 _ s8 => s8.wr0 fun h9 s9 => s9.wrB fun h10 s10 => yaau rfl (yaax rfl ⟨rfl, s10.ext⟩)
    · refine (yazt hk h2).mono fun v h3 ⟨hv, x3⟩ => ⟨_, _, _, _, _, hv, ?_⟩
      have x3 := x2.trans x3
      refine ((St.start h).grow x3).new (cs := [.int .i64 0, .slice none 0 0]) fun b1 h4 _ s4 => s4.wr0 fun h5 s5 => s5.wrB fun h6 s6 => ⟨_, _, _, _, s6.ld0, s6.ldB, ?_⟩
      refine (yazq (k := 0) (r.ext s6.ext) (by omega) (fun h => by omega)).mono fun v h7 ⟨hv, x7⟩ => ⟨_, _, _, _, _, _, _, _, hv, ?_⟩
      exact (s6.grow x7).new (cs := [.int .i64 0, .slice none 0 0]) fun b2 h8 _ s8 => s8.wr0 fun h9 s9 => s9.wrB fun h10 s10 => yaax rfl ⟨rfl, s10.ext⟩
  obtain ⟨hk, hv6⟩ := hgood
  refine (yavi hk h2).mono fun v h3 ⟨hv, x3⟩ => ⟨_, _, _, _, _, hv, ?_⟩
  have x3 := x2.trans x3
  refine ((St.start h).grow x3).new (cs := [.int .i64 0, .slice none 0 0]) fun b1 h4 _ s4 => s4.wr0 fun h5 s5 => s5.wrB fun h6 s6 => ⟨_, _, _, _, s6.ld0, s6.ldB, ?_⟩
  refine (ybaf hk (r.ext s6.ext) (by omega) hv6).mono fun v h7 ⟨q7, m7, d7, rp, rc, B7, C, hv, _, oc, t7⟩ => ⟨_, _, _, _, _, _, _, _, hv, ?_⟩
  have s7 := s6.join t7
  refine s7.new (cs := [.int .i64 0, .slice none 0 0]) fun b2 h8 _ s8 => s8.wr0 fun h9 s9 => s9.wrB fun h10 s10 => yaau rfl (yaau rfl ?_)
  have s10 : St h h10 ((cA b2 [.int .i64 k, .slice q7 m7 d7] 24 + B7) + (C + (cA b1 [.int .i64 k, .slice none 0 0] 24 + 0))) := s10.to (by simp only [Bag.add_zero]; ac_rfl)
  have s10 := s10.drop
  have oc : Sl tRes rp n rc (runR k ops).2 C := by rw [← hol]; exact oc
  rw [hol]
  rw [zae_b2]
  refine s10.new (cs := [.slice none 0 0]) fun b3 h11 _ s11 => ?_
  have hrl : (runR k ops).2.length = n := oc.len
  obtain ⟨hs, r1, _, r2⟩ := r
  refine yayp r1 hn hol hrl oc s11 fun h12 q d A o s => ?_
  clear s11 s10 s7 s6 s5 s4 t7 s8 s9
  have hh : ∀ i, i < n → (hs.getD i tO.d).1 = (ops.getD i (0, [])).1 := fun i hi => (r2 i hi).1
  have kfit : ∀ res, HistK k (sqL hs ops res n) := fun res => yawz hn hol hh hv6
  have sm : ∀ res, Sm (sqL hs ops res n) := fun res => ybcf hv6 hol
  have g0 : ∀ {e : Int} {res : Nat → ResL}, givE (sqL hs ops res n) [] k 10 e → e = 0 := fun {e res} hg => by
    rcases hg with ⟨hno, _⟩ | ⟨_, ⟨hm, _⟩ | ⟨_, ⟨hm, _⟩ | ⟨_, he⟩⟩⟩
    · exact absurd ⟨yahp hk, ⟨k, hk, kfit res⟩, (kfit res).2.2.2⟩ hno
    · omega
    · rw [yabt] at hm; omega
    · exact he
  have hr0 : ∀ r ∈ ([] : Rows), r.length ≤ 1000 := fun r hr => nomatch hr
  obtain ⟨res, hres⟩ : ∃ res : Nat → ResL, res = fun i => (runR k ops).2.getD i (0, 0) := ⟨_, rfl⟩
  rw [← hres] at o
  have evs := sqL_r r2 s.ext (o.rd s)
  rw [zae_b5]
  refine yaan rfl ⟨_, _, _, s.ld0, (yazu evs (sm res)).mono fun v h13 ⟨x13, hsq⟩ => ?_⟩
  have hvalid : yadq (sqL hs ops res n) := ⟨k, hk, kfit res⟩
  rcases hsq with ⟨hno, _⟩ | ⟨_, bb, hv, hbb⟩
  · exact absurd hvalid hno
  obtain rfl := hbb.2 yavw
  refine ⟨_, _, hv, ?_⟩
  have s := s.grow x13
  have evs := evs.ext x13
  have good : ∀ t, t < (sqL hs ops res n).length → stepE k (runR k (ops.take t)).1 ((sqL hs ops res n).getD t dEv) = some (runR k (ops.take (t + 1))).1 := fun t ht => by
    rw [yabt] at ht
    rw [yafn ht]
    exact yaud hol hh ht (by rw [hres])
  refine yaan rfl ⟨_, _, _, _, s.ld0, s.ldB, yaan rfl ⟨_, _, _, s.ld0, (yajh (yasl k) (tab.ext s.ext) evs (sm res) (yaes h13) hr0).mono fun v h14 ⟨bb, q14, m14, d14, e, hv, hg, hc⟩ => ⟨_, _, _, _, _, hv, yaau rfl (yaau rfl ?_)⟩⟩⟩
  obtain rfl := g0 hg
  obtain ⟨A14, rfl, rfl, o14, t14⟩ : ∃ A14, bb = true ∧ m14 = n ∧ Sl TI q14 n d14 (natI (List.range n)) A14 ∧ St h13 h14 A14 := by
    rcases hc with ⟨hn0, _⟩ | ⟨_, ⟨hb, A', o', hm, oA, tA, hl⟩ | ⟨_, _, _, _, _, hno⟩⟩
    · exact absurd rfl hn0
    · have := yava (rs := fun t => (runR k (ops.take t)).1) yahn good o' 0 (Nat.zero_le _) (by rw [yaic]; exact hl)
      rw [yabt, Nat.sub_zero, ← List.range_eq_range'] at this
      subst this
      rw [List.length_range] at hm
      subst hm
      exact ⟨A', hb, rfl, oA, tA⟩
    · have := yaug (rs := fun t => (runR k (ops.take t)).1) yahn good n 0 (by rw [yabt]; omega)
      rw [yaic] at this
      exact absurd this (hno _)
  have s := s.join t14
  refine yaau rfl (yaau rfl (yaan rfl ⟨_, _, _, s.ld0, yaau (by rw [decide_eq_true rfl]; rfl) ?_⟩))
  rw [zae_b6]
  have hi14 : (natI (List.range m14)).length = m14 := yarw
  refine ⟨fun x h' => h' = h14 ∧ ∃ i : Nat, x.1 = (i : Int) ∧ i ≤ m14, fun x _ => m14 - x.1.toNat, ⟨rfl, 0, rfl, by omega⟩, ?_⟩
  rintro ⟨_, _⟩ h14 ⟨rfl, i, rfl, hi⟩
  dsimp only
  rw [zae_b7]
  refine condP (fun hlt => ?_) (fun hge => ?_)
  · have hin : i < m14 := by omega
    refine ldI (o14.rd (s.to (B := A14 + (A + (cA b3 [.slice q m14 d] 25 + (C + (cA b1 [.int .i64 k, .slice none 0 0] 24 + 0))))) )) rfl hin (yaau ?_ ?_)
    · have : (natI (List.range m14)).getD i 0 = (i : Int) := by simp [List.getD, hin]
      rw [this, decide_eq_true rfl]
      rfl
    · rw [zae_b8]
      exact ⟨⟨by omega, by omega⟩, ⟨rfl, i + 1, by push_cast; rfl, by omega⟩, by simp only; omega⟩
  clear hge hi
  rw [zae_b9]
  refine yaan rfl ⟨_, _, _, s.ld0, condP (fun h0 => ⟨rfl, s.ext⟩) (fun hpos => ⟨⟨by omega, by omega⟩, yaan rfl ⟨_, _, _, s.ld0, ?_⟩⟩)⟩
  have s := s.drop
  obtain ⟨b, hb, hbn⟩ : ∃ b : Nat, wrong % (m14 : Int) = (b : Int) ∧ b < m14 := by
    have h1 := Int.emod_nonneg wrong (b := (m14 : Int)) (by omega)
    have h2 := Int.emod_lt_of_pos wrong (b := (m14 : Int)) (by omega)
    exact ⟨(wrong % (m14 : Int)).toNat, by omega, by omega⟩
  refine yamt hw.1 (by omega) (yaan rfl ⟨_, _, _, s.ld0, ?_⟩)
  rw [hb]
  obtain ⟨ad, hp, hcell⟩ := (o.rd s).at_ (i := b) hbn
  rw [yafj (by rw [yabt]; exact hbn), yafn hbn] at hcell
  have c4 : cell h14 (((ad.add (Int.toNat (b : Int) * 8)).add 3).add 1) = some (.int .i64 (sqE hs ops res b).t.nu) := by have := hcell 4 (by decide); simpa [yadc] using this
  refine ⟨⟨by omega, by omega⟩, yaan hp ⟨_, c4, condP (fun _ => ⟨rfl, s.ext⟩) (fun hne => yaan rfl ⟨_, _, _, s.ld0, ⟨by omega, by omega⟩, ?_⟩)⟩⟩
  -- one result is changed
  obtain ⟨res', hres'⟩ : ∃ res' : Nat → ResL, res' = fun i => if i = b then ((res b).1, nv) else res i := ⟨_, rfl⟩
  have rb : res' b = ((res b).1, nv) := by rw [hres']; exact if_pos rfl
  have rn : ∀ i, i ≠ b → res' i = res i := fun i hi => by rw [hres']; exact if_neg hi
  have eset : ((sqL hs ops res m14).map Ev.t).set b (sqE hs ops res' b).t = (sqL hs ops res' m14).map Ev.t := by
    refine yaep (d := tEv.d) (by simp [yabt]) fun i hi => ?_
    rw [List.length_map, yabt] at hi
    rw [yafj (by rw [yabt]; exact hi), yafn hi, yade (by rw [List.length_map, yabt]; exact hbn)]
    by_cases hib : i = b
    · rw [if_pos hib, hib]
    · rw [if_neg hib, yafj (by rw [yabt]; exact hi), yafn hi, yatq (res' := res') (by rw [hres']; exact (if_neg hib).symm)]
  have ebit : tEv.enc (sqE hs ops res' b).t = (tEv.enc (((sqL hs ops res m14).map Ev.t).getD b tEv.d)).set 4 (.int .i64 nv) := by
    rw [yafj (by rw [yabt]; exact hbn), yafn hbn]
    have : res' b = ((res b).1, nv) := by rw [hres']; exact if_pos rfl
    unfold sqE
    rw [this]
    rfl
  refine wrNu o s hbn ebit fun h15 A15 o15 s => yaan rfl ⟨_, _, _, _, s.ld0, s.ldB, yaan rfl ⟨_, _, _, s.ld0, ?_⟩⟩
  rw [eset] at o15
  have evs := sqL_r r2 s.ext (o15.rd s)
  have good' : ∀ t, t < b → stepE k (runR k (ops.take t)).1 ((sqL hs ops res' m14).getD t dEv) = some (runR k (ops.take (t + 1))).1 := fun t ht => by
    rw [yafn (by omega)]
    refine yaud hol hh (by omega) ?_
    rw [rn t (by omega), hres]
  have bad' : stepE k (runR k (ops.take b)).1 ((sqL hs ops res' m14).getD b dEv) = none := by
    rw [yafn hbn]
    refine ybau hol hh hbn ?_
    rw [rb]
    have e : (res b).2 = ((runR k ops).2.getD b (0, 0)).2 := by rw [hres]
    rw [← e]
    exact fun h => hne h.symm
  refine (yajh (yasl k) (tab.ext s.ext) evs (sm res') (yaes h15) hr0).mono fun v h16 ⟨bb, q16, m16, d16, e, hv, hg, hc⟩ => ⟨_, _, _, _, _, hv, ?_⟩
  obtain rfl := g0 hg
  obtain ⟨rfl, rfl, x16⟩ : bb = false ∧ m16 = 0 ∧ Ext h15 h16 := by
    rcases hc with ⟨hn0, _⟩ | ⟨_, ⟨_, _, o', _, _, _, hl⟩ | ⟨hb, _, hm, _, x, _⟩⟩
    · exact absurd rfl hn0
    · exact absurd hl (by
        have := yaup (rs := fun t => (runR k (ops.take t)).1) (yahn (hs := hs) (ops := ops) (res := res') (n := m14)) (by rw [yabt]; exact hbn) good' bad' o' 0 (Nat.zero_le _)
        rw [yaic] at this
        exact this)
    · exact ⟨hb, hm, x⟩
  have s := s.grow x16
  refine yaan rfl ⟨_, _, _, _, s.ld0, s.ldB, yaan rfl ⟨_, _, _, s.ld0, ?_⟩⟩
  refine (yaql (b := b3) (p := q) (n := m14) (c := d) s.ld0 (by omega)).mono fun v h17 ⟨q17, d17, A17, hv, o17, t17⟩ => ⟨_, _, _, hv, ?_⟩
  have s := s.join t17
  refine ⟨yaan rfl ⟨_, _, _, s.ld0, rfl⟩, yaan rfl ⟨_, _, _, _, s.ld0, s.ldB, rfl⟩, ?_⟩
  refine (yayr ((evs.ext x16).ext t17.ext) (sm res') (yaes h17) hr0 (o17.rd s) (by omega)).mono fun v h18 hw' => ?_
  rcases hw' with ⟨hno, _⟩ | ⟨_, hv, x18⟩
  · exact absurd ⟨yahp hk, ⟨k, hk, kfit res'⟩, (kfit res').2.2.2⟩ hno
  have hwr := yawt (rs := fun t => (runR k (ops.take t)).1) (yahn (hs := hs) (ops := ops) (res := res') (n := m14)) (by rw [yabt]; exact hbn) good' bad'
  rw [yabt] at hwr
  rw [show witR k (sqL hs ops res' m14) (natI (List.range m14)) [] = (false, (b : Int), 0) from hwr] at hv
  exact ⟨_, _, _, hv, yaax rfl (yaax rfl (yaax rfl (yaax rfl (yaax rfl ⟨by rw [decide_eq_true rfl], (s.grow x18).ext⟩))))⟩
end
end Go.Proofs.YtllhdhpjgihjfaaGreatDoor
