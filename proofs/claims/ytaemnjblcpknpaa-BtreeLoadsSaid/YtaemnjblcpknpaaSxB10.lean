/- B-trees: Scan and Load. -/
import Derived.Test.YtaemnjblcpknpaaSxB9
set_option maxRecDepth 100000
namespace Go.Proofs.Ytaemnjblcpknpaa
open Go Go.Sx
abbrev TE : Ty E := tPP 40
theorem ok_pair : ElOk TE Try.prog 22 := elB_spec (by kernel_rfl)
def inSpan (fr to : Int) (e : E) : Bool := decide (fr ≤ e.1 ∧ e.1 < to)
def scanSt (fr to : Int) (out : List E) (e : E) : List E × Bool :=
  let o := if fr ≤ e.1 ∧ e.1 < to then out ++ [e] else out
  (o, decide (e.1 < to ∧ o.length ≤ 1000))
def scanS (xs : List E) (fr to : Int) : List E × Int := if KeyP fr ∧ KeyP to then (if 1000 < (xs.filter (inSpan fr to)).length then ([], 4) else (xs.filter (inSpan fr to), 0)) else ([], 1)
theorem scan_run {fr to : Int} : ∀ (xs out : List E), Srt xs → out.length ≤ 1000 →
    if (out ++ xs.filter (inSpan fr to)).length ≤ 1000 then (runW (scanSt fr to) out xs).1 = out ++ xs.filter (inSpan fr to) else 1000 < (runW (scanSt fr to) out xs).1.length
  | [], out, _, hl => by simp [runW, hl]
  | e :: xs, out, hs, hl => by
    have hs := Srt.con.1 hs
    by_cases hto : e.1 < to
    · by_cases hfr : fr ≤ e.1
      · have hin : inSpan fr to e = true := decide_eq_true ⟨hfr, hto⟩
        have hst : scanSt fr to out e = (out ++ [e], decide (e.1 < to ∧ (out ++ [e]).length ≤ 1000)) := by simp only [scanSt]; rw [if_pos ⟨hfr, hto⟩]
        rw [List.filter_cons_of_pos hin]
        by_cases hle : (out ++ [e]).length ≤ 1000
        · have ih := scan_run (fr := fr) (to := to) xs (out ++ [e]) hs.2 hle
          have hr : runW (scanSt fr to) out (e :: xs) = runW (scanSt fr to) (out ++ [e]) xs := by
            simp only [runW, hst]
            rw [decide_eq_true ⟨hto, hle⟩]
          rw [hr]
          simpa using ih
        · have hr : runW (scanSt fr to) out (e :: xs) = (out ++ [e], false) := by
            simp only [runW, hst]
            rw [decide_eq_false (fun h => hle h.2)]
          rw [if_neg (by simp at hle ⊢; omega), hr]
          simp at hle ⊢; omega
      · have hin : ¬ inSpan fr to e = true := fun h => hfr (of_decide_eq_true h).1
        have hst : scanSt fr to out e = (out, decide (e.1 < to ∧ out.length ≤ 1000)) := by simp only [scanSt]; rw [if_neg (fun h => hfr h.1)]
        rw [List.filter_cons_of_neg hin]
        have ih := scan_run (fr := fr) (to := to) xs out hs.2 hl
        have hr : runW (scanSt fr to) out (e :: xs) = runW (scanSt fr to) out xs := by
          simp only [runW, hst]
          rw [decide_eq_true ⟨hto, hl⟩]
        rw [hr]; exact ih
    · have hin : ¬ inSpan fr to e = true := fun h => hto (of_decide_eq_true h).2
      have hnil : xs.filter (inSpan fr to) = [] := by
        rw [List.filter_eq_nil_iff]
        intro x hx h
        have := hs.1 x hx
        have := (of_decide_eq_true h).2
        omega
      have hst : scanSt fr to out e = (out, false) := by
        simp only [scanSt]
        rw [if_neg (fun h => hto h.2), decide_eq_false (fun h => hto h.1)]
      have hr : runW (scanSt fr to) out (e :: xs) = (out, false) := by simp only [runW, hst]
      rw [List.filter_cons_of_neg hin, hnil, List.append_nil, if_pos hl, hr]
/-- What Scan's function keeps. -/
def ScanI (bf bt bo : Nat) (fr to : Int) (out : List E) (C : Bag) : Prop := ∃ p n c B, C = cA bo [.slice p n c] 22 + (B + (cA bf [.int .i64 fr] 3 + cA bt [.int .i64 to] 3)) ∧ Sl TE p n c out B
theorem scan_c1_ok {h0 : Hp} {bf bt bo : Nat} {fr to : Int} : Fun1 h0 37 #[ptr bf, ptr bt, ptr bo] (scanSt fr to) (ScanI bf bt bo fr to) (fun out => out.length ≤ 1000) := by
  rintro out C h ⟨k, v⟩ G hok ⟨p, n, c, B, rfl, hsl⟩ s
  show HCalls Try.prog 37 #[.int .i64 k, .int .i64 v, ptr bf, ptr bt, ptr bo] h _
  have hn := hsl.len
  have fin : ∀ (h' : Hp) (p : Option Addr) (n c : Nat) (B : Bag) (out' : List E), out' = (scanSt fr to out (k, v)).1 → Sl TE p n c out' B → St h0 h' (cA bo [.slice p n c] 22 + (B + (cA bf [.int .i64 fr] 3 + cA bt [.int .i64 to] 3)) + G) →
      btree_Tree_Scan_c1_b1 k (some ⟨bt, 0, none⟩) (some ⟨bo, 0, none⟩) h' (fun v' h' => ∃ C', v' = .bool (scanSt fr to out (k, v)).2 ∧ ScanI bf bt bo fr to (scanSt fr to out (k, v)).1 C' ∧ St h0 h' (C' + G)) := by
    intro h' p n c B out' ho hsl s
    rw [btree_Tree_Scan_c1_b1_eq]
    have hn := hsl.len
    have e2 : (scanSt fr to out (k, v)).2 = decide (k < to ∧ (scanSt fr to out (k, v)).1.length ≤ 1000) := rfl
    refine ⟨_, (s.at (cA bt [.int .i64 to] 3)).cell 0, condP (fun h1 => ?_) (fun h1 => ?_)⟩
    · refine ⟨_, _, _, (s.at (cA bo [.slice p n c] 22)).cell 0, _, ?_, ⟨p, n, c, B, rfl, ho ▸ hsl⟩, s⟩
      rw [e2, ← ho]
      congr 1
      exact decide_eq_decide.2 ⟨fun h => ⟨h1, by omega⟩, fun h => by omega⟩
    · refine ⟨_, ?_, ⟨p, n, c, B, rfl, ho ▸ hsl⟩, s⟩
      rw [e2, decide_eq_false (fun h => h1 h.1)]
  refine btree_Tree_Scan_c1_call ?_
  rw [btree_Tree_Scan_c1_b0_eq]
  refine ⟨_, (s.at (cA bf [.int .i64 fr] 3)).cell 0, condP (fun h1 => ?_) (fun h1 => ?_)⟩
  · refine ⟨_, (s.at (cA bt [.int .i64 to] 3)).cell 0, condP (fun h2 => ?_) (fun h2 => ?_)⟩
    · refine ⟨_, _, _, (s.at (cA bo [.slice p n c] 22)).cell 0, ?_⟩
      have s1 : St h0 h (B + (cA bo [.slice p n c] 22 + (cA bf [.int .i64 fr] 3 + (cA bt [.int .i64 to] 3 + G)))) := s.to
      refine push_sl ok_pair s1 hsl (x := (k, v)) rfl rfl (by omega) fun p' c' h2' B' o2 s2 => ?_
      have s3 := s2.to (B := cA bo [.slice p n c] 22 + (B' + (cA bf [.int .i64 fr] 3 + cA bt [.int .i64 to] 3) + G))
      refine s3.wr rfl (by simp) fun h3 s4 => ?_
      have s4 : St h0 h3 (cA bo [.slice p' (n + 1) c'] 22 + (B' + (cA bf [.int .i64 fr] 3 + cA bt [.int .i64 to] 3) + G)) := s4
      refine fin h3 p' (n + 1) c' B' (out ++ [(k, v)]) ?_ o2 s4.to
      simp only [scanSt]
      rw [if_pos ⟨h1, h2⟩]
    · refine fin h p n c B out ?_ hsl s
      simp only [scanSt]
      rw [if_neg (fun h => h2 h.2)]
  · refine fin h p n c B out ?_ hsl s
    simp only [scanSt]
    rw [if_neg (fun h => h1 h.1)]
theorem walk_nil {h : Hp} {g : Nat} {cap : Array Value} : HCalls Try.prog 36 #[.pointer none, .func (.func g) #[] cap] h (fun v h' => h' = h ∧ v = .bool true) := by
  refine btree_node_walk_call ?_
  rw [btree_node_walk_b0_eq]
  exact condYes rfl ⟨rfl, rfl⟩
/-- The root's pointer is read, and a function called for all entries. -/
theorem walkT {σ : Type} {h0 : Hp} {g : Nat} {cap : Array Value} {st : σ → E → σ × Bool} {Inv : σ → Bag → Prop} {Ok : σ → Prop} (hok : ∀ s e, Ok s → (st s e).2 = true → Ok (st s e).1) (hg : F g = true) (hf : Fun1 h0 g cap st Inv Ok)
    {order tb : Nat} {xs : List E} {vis : Int} {A C G : Bag} {h : Hp} {s : σ} (hor : 3 ≤ order) (h64 : order ≤ 64) (ta : TreeA order xs tb vis A) (ho : Ok s) (hi : Inv s C) (hs : St h0 h (A + (C + G))) :
    ∃ p1 : Option Addr, cell h ((⟨tb, 0, none⟩ : Addr).add 2) = some (.pointer p1) ∧ HCalls Try.prog 36 #[.pointer p1, .func (.func g) #[] cap] h (fun v h' => ∃ C', v = .bool (runW st s xs).2 ∧ Inv (runW st s xs).1 C' ∧ St h0 h' (A + (C' + G))) := by
  rcases ta with ⟨rfl, rfl⟩ | ⟨n, root, t, A1, rfl, hh, hfl, hsz⟩
  · refine ⟨_, hs.cellA 2, walk_nil.mono fun v h' ⟨hh, hv⟩ => ?_⟩
    subst hh
    exact ⟨C, hv, hi, hs⟩
  · have s1 := hs.to (B := treeC tb order xs.length (some ⟨root, 0, none⟩) vis + (A1 + (C + G)))
    refine ⟨_, s1.cellA 2, ?_⟩
    have s2 := hs.to (B := A1 + (C + (treeC tb order xs.length (some ⟨root, 0, none⟩) vis + G)))
    refine (walk_ok hok hg hf (lo := 1) (hi := order - 1) (by omega) n hh (hsz.one (by omega)) ho hi s2).mono fun v h' ⟨C', hv, hi', s3⟩ => ?_
    rw [hfl] at hv hi'
    exact ⟨C', hv, hi', s3.to⟩
theorem Scan_ok {h0 h : Hp} {order tb : Nat} {xs : List E} {vis fr to : Int} {A G : Bag} (hor : 3 ≤ order) (h64 : order ≤ 64) (so : Srt xs) (ta : TreeA order xs tb vis A) (s : St h0 h (A + G)) :
    HCalls Try.prog 14 #[ptr tb, .int .i64 fr, .int .i64 to] h (fun v h' => ∃ p n c B, v = .tuple #[.slice p n c, .int .i64 (scanS xs fr to).2] ∧ Sl TE p n c (scanS xs fr to).1 B ∧ St h0 h' (A + (B + G))) := by
  refine btree_Tree_Scan_call ?_
  rw [btree_Tree_Scan_b0_eq]
  refine s.new (cs := [.int .i64 fr]) fun b1 h1 _ s1 => ?_
  refine s1.new (cs := [.int .i64 to]) fun b2 h2 _ s2 => ?_
  refine condNo rfl ⟨_, s2.atomBlk.cell 0, _, s2.cell 0, ?_⟩
  refine s2.new (cs := [.int .i64 fr, .int .i64 to]) fun b3 h3 _ s3 => ?_
  refine (number2 s3.blk).mono fun v1 h4 ⟨hh, hv⟩ => ?_
  subst hh
  refine ⟨_, hv, condN (fun hk => ?_) (fun hk => ?_)⟩
  · rw [scanS, if_neg hk]
    exact ⟨none, 0, 0, 0, rfl, Sl.nil, ((s3.to (B := cA b3 [.int .i64 fr, .int .i64 to] 3 + (cA b2 [.int .i64 to] 3 + cA b1 [.int .i64 fr] 3) + (A + G))).drop).to⟩
  · rw [btree_Tree_Scan_b1_eq]
    refine s3.drop.new (cs := [.slice none 0 0]) fun b4 h5 _ s5 => ?_
    have s6 : St h0 h5 (A + (cA b4 [.slice none 0 0] 22 + (0 + (cA b1 [.int .i64 fr] 3 + cA b2 [.int .i64 to] 3)) + G)) := s5.to
    obtain ⟨p1, hc, hw⟩ := walkT (Ok := fun out : List E => out.length ≤ 1000) (by
      intro out e _ h
      have : (scanSt fr to out e).2 = decide (e.1 < to ∧ (scanSt fr to out e).1.length ≤ 1000) := rfl
      rw [this] at h
      exact (of_decide_eq_true h).2) (by kernel_rfl) (scan_c1_ok (bf := b1) (bt := b2) (bo := b4) (fr := fr) (to := to)) hor h64 ta (s := []) (by simp) ⟨none, 0, 0, 0, rfl, Sl.nil⟩ s6
    refine ⟨_, hc, hw.mono fun v2 h6 ⟨C', hv2, hI, s7⟩ => ⟨_, hv2, ?_⟩⟩
    obtain ⟨p, n, c, B, rfl, hsl⟩ := hI
    have hrun := scan_run (fr := fr) (to := to) xs [] so (by simp)
    rw [List.nil_append] at hrun
    have hb := (s7.at (cA b4 [.slice p n c] 22)).blk
    have hn := hsl.len
    have s8 : St h0 h6 (cA b4 [.slice p n c] 22 + (cA b1 [.int .i64 fr] 3 + cA b2 [.int .i64 to] 3) + (A + (B + G))) := s7.to
    refine ⟨_, _, _, hb.cell 0, condP (fun hl => ?_) (fun hl => ?_)⟩
    · have : 1000 < (xs.filter (inSpan fr to)).length := by
        rcases Nat.lt_or_ge 1000 (xs.filter (inSpan fr to)).length with h | h
        · exact h
        · rw [if_pos h] at hrun; rw [hrun] at hn; omega
      rw [scanS, if_pos hk, if_pos this]
      exact ⟨none, 0, 0, 0, rfl, Sl.nil, (s8.drop.to (B := B + (A + G))).drop.to⟩
    · have : ¬ 1000 < (xs.filter (inSpan fr to)).length := fun h => by
        rw [if_neg (by omega)] at hrun; omega
      rw [if_pos (by omega)] at hrun
      rw [scanS, if_pos hk, if_neg this]
      refine ⟨_, _, _, hb.cell 0, p, n, c, B, rfl, ?_, s8.drop⟩
      rw [← hrun]; exact hsl
end Go.Proofs.Ytaemnjblcpknpaa
