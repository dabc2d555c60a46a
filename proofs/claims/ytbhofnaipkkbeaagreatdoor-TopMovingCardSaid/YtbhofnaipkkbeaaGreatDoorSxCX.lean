/- Part CM CN CO CP CQ CB CR CS CT CU CX of the proof: contracts of functions of the program, and what follows from them. -/
import Derived.Test.YtbhofnaipkkbeaaGreatDoorSxCL
import Derived.Lib.UnsafeStr
namespace Go.Sx
open Go
section
variable {P : Program} {φ : Phi} {h : Hp} {L : Lay} {st : Stk} {e : En} {ρ : Operand → Value}
theorem gL_ok : ∀ {xs : List Operand} (_ : ∀ x ∈ xs, VR φ ((gE L x).run st e) (ρ x)), VRL φ ((gL L xs).run st e) (xs.map ρ)
  | [], _ => .nil
  | x :: r, hx => by
    have h1 := hx x (by simp)
    have h2 := gL_ok (xs := r) fun y hy => hx y (by simp [hy])
    unfold gL
    cases hg : gE L x with
    | mk f =>
      cases hl : gL L r with
      | mk g =>
        rw [hg] at h1
        rw [hl] at h2
        exact .cons h1 h2
theorem ybdh {v : Value} {off sz : Nat} {cells cs : List Value} (e : putP v off sz cells = some cs) : v.cells.size = sz ∧ cs = wrL v.cells.toList off cells := by
  have oneV : ∀ v : Value, v.cells = #[v] → @Bool.rec (fun _ => Nat → Value → List Value → Option (List Value)) (fun _ _ _ => none) (fun off v cells => some (setR cells off v)) (Nat.beq sz 1) off v cells = some cs → v.cells.size = sz ∧ cs = wrL v.cells.toList off cells := fun v hv e => by
    cases hb : Nat.beq sz 1 with
    | false => rw [hb] at e; cases e
    | true =>
      rw [hb] at e
      obtain rfl := Option.some.inj e
      rw [hv]
      exact ⟨(Nat.eq_of_beq_eq_true hb).symm, rfl⟩
  cases v <;> first | exact oneV _ rfl e | skip
  · rename_i vs
    have e : @Bool.rec (fun _ => Nat → List Value → List Value → Option (List Value)) (fun _ _ _ => none) (fun off v cells => some (wrL v off cells)) (Nat.beq (lenV0 vs.toList) sz) off vs.toList cells = some cs := e
    cases hb : Nat.beq (lenV0 vs.toList) sz with
    | false => rw [hb] at e; cases e
    | true =>
      rw [hb] at e
      obtain rfl := Option.some.inj e
      have := Nat.eq_of_beq_eq_true hb
      rw [yabe] at this
      exact ⟨by rw [← this]; rfl, rfl⟩
  · cases e
theorem VRL.wrL {vs us : List Value} (hv : VRL φ vs us) : ∀ {cs ds : List Value} (off : Nat), VRL φ cs ds → VRL φ (Sx.wrL vs off cs) (setL ds off us) := by
  induction vs generalizing us with
  | nil => cases hv; exact fun off h => h
  | cons v r ih =>
    cases hv with
    | cons hv hr =>
      intro cs ds off hc
      show VRL φ (Sx.wrL r (off + 1) (setR cs off v)) _
      rw [yaow]
      exact ih hr (off + 1) (hc.set hv off)
theorem VR.cells {v u : Value} (hv : VR φ v u) : VRL φ v.cells.toList u.cells.toList := by
  have key : VRL φ [v] [u] := .cons hv .nil
  cases hv with
  | agg hvs => exact hvs
  | _ => exact key
theorem ybgm {p : Nat × Nat} {ps : List (Nat × Nat)} {v : Value} {vs cells : List Value} : bldR (p :: ps) (v :: vs) cells = (match putP v p.1 p.2 cells with | some cells => bldR ps vs cells | none => none) := by
  have e : bldR (p :: ps) (v :: vs) cells = @Option.rec (List Value) (fun _ => List Value → (List Value → List Value → Option (List Value)) → Option (List Value)) (fun _ _ => none) (fun cells r ih => ih r cells) (putP v p.1 p.2 cells) vs (bldR ps) := rfl
  rw [e]
  cases putP v p.1 p.2 cells <;> rfl
theorem yalp {place : Nat → Option (Nat × Nat)} {N : Nat} : ∀ {parts : List (Nat × Value)} {ps : List (Nat × Nat)} {vs : List Value} {cells ds cs : List Value} (_ : parts.map (fun p => place p.1) = ps.map some) (_ : okP N ps = true) (_ : VRL φ vs (parts.map (·.2)))
    (_ : VRL φ cells ds) (_ : ds.length = N) (_ : bldR ps vs cells = some cs), ∃ ds', Instr.fill place ds.toArray parts = some ds'.toArray ∧ VRL φ cs ds' ∧ ds'.length = N
  | [], [], vs, cells, ds, cs, _, _, _, hc, hl, e => by
    have e : some cells = some cs := e
    obtain rfl := Option.some.inj e
    exact ⟨ds, rfl, hc, hl⟩
  | [], _ :: _, _, _, _, _, hp, _, _, _, _, _ => by simp at hp
  | _ :: _, [], _, _, _, _, hp, _, _, _, _, _ => by simp at hp
  | (i, u) :: parts, (off, sz) :: ps, [], _, _, _, _, _, hv, _, _, _ => by cases hv
  | (i, u) :: parts, (off, sz) :: ps, v :: vs, cells, ds, cs, hp, hok, hv, hc, hl, e => by
    simp only [List.map_cons, List.cons.injEq] at hp
    obtain ⟨hp1, hp⟩ := hp
    simp only [List.map_cons] at hv
    cases hv with
    | cons hv hvs =>
      unfold okP at hok
      split at hok
      · rename_i hle
        have hle := Nat.le_of_ble_eq_true hle
        rw [ybgm] at e
        split at e
        · rename_i cells' hput
          obtain ⟨h1, rfl⟩ := ybdh hput
          have hcs := hv.cells
          have h1 : v.cells.size = sz := h1
          have hus : u.cells.size = sz := by rw [← h1, ← Array.length_toList, ← Array.length_toList, hcs.len]
          have h3 := hcs.wrL off hc
          have hle' : off + sz ≤ N := hle
          have hll : (setL ds off u.cells.toList).length = N := by rw [yanp]; exact hl
          obtain ⟨ds', h4, h5⟩ := yalp hp hok hvs h3 hll e
          refine ⟨ds', ?_, h5⟩
          unfold Instr.fill
          simp only [hp1]
          rw [if_neg (by simp [hus, hl]; omega)]
          have e3 : u.cells.zipIdx.foldl (fun cs (c, j) => cs.setIfInBounds (off + j) c) ds.toArray = (setL ds off u.cells.toList).toArray := by
            apply Array.ext'
            have := yafh off u.cells.toList 0 ds.toArray
            rw [← Array.foldl_toList, Array.toList_zipIdx]
            simpa using this
          rw [e3]
          exact h4
        · cases e
      · cases hok
theorem yaxl {fs : List Field} : ∀ {parts : List (Nat × Operand)} {ps : List (Nat × Nat)}, plcS P fs parts = some ps → parts.map (fun p => (fs.map (fun f => (f.offset, yaan P f.type)))[p.1]?) = ps.map some
  | [], ps, e => by obtain rfl := Option.some.inj e; rfl
  | (i, x) :: r, ps, e => by
    unfold plcS at e
    split at e
    · rename_i f ps' hf hps
      obtain rfl := Option.some.inj e
      rw [yacg] at hf
      have ih := yaxl hps
      simp only [List.map_cons]
      rw [ih, List.getElem?_map, hf]
      rfl
    · cases e
theorem yaod {sz : Nat} : ∀ {parts : List (Nat × Operand)}, parts.map (fun p => some (p.1 * sz, sz)) = (plcA sz parts).map some
  | [] => rfl
  | (i, x) :: r => by simp only [List.map_cons, plcA, yaod (parts := r)]; rfl
theorem ybdb {o : Option (List Value)} {v : Value} (e : bldO o = .ok v) : ∃ cs, o = some cs ∧ v = .agg ⟨cs⟩ := by
  cases o with
  | none => cases e
  | some cs => cases e; exact ⟨cs, rfl, rfl⟩
theorem yana {t : TypeId} {parts : List (Nat × Operand)} {ps : List (Nat × Nat)} {vs cs : List Value} (hp : plcT P t parts = some ps) (hok : okP (lenV0 (yach (yadx P t))) ps = true) (hz : yajk P t = true) (hpl : plains (yach (yadx P t)) = true)
    (hty : ∀ fs, P.underlying t = some (.struct fs) → fs.toList.all (fun f => (P.info? f.type).isSome) = true) (hte : ∀ n e, P.underlying t = some (.array n e) → (P.info? e).isSome = true)
    (hv : VRL φ vs (parts.map fun p => ρ p.2)) (e : bldR ps vs (yach (yadx P t)) = some cs) :
    hq P (Instr.build t (parts.map fun p => (p.1, ρ p.2)).toArray) h (VR φ (.agg ⟨cs⟩)) := by
  obtain ⟨i, zs, hi, hzz, he⟩ := yaeu hz
  rw [he] at hok hpl e
  rw [yabe] at hok
  have hv' : VRL φ vs ((parts.map fun p => (p.1, ρ p.2)).map (·.2)) := by rw [List.map_map]; exact hv
  unfold plcT at hp
  split at hp
  · rename_i fs hu
    simp only [Instr.build, zeroValue, yaab, yabf, hi, hzz, yaah, yaaf, hu]
    rw [Array.mapM_eq_mapM_toList, map_eq_pure_bind, yaab]
    refine yauf _ (fun f => (f.offset, yaan P f.type)) h fs.toList _ (fun f hf K hK => ?_) ?_
    · have := List.all_eq_true.1 (hty fs hu) f hf
      obtain ⟨inf, hinf⟩ := Option.isSome_iff_exists.1 this
      simp only [yaab, yabp, hinf, yaah]
      simpa [yaan, hinf] using hK
    · rw [yaah]
      obtain ⟨ds', h1, h2, _⟩ := yalp (place := fun i => (fs.toList.map (fun f => (f.offset, yaan P f.type))).toArray[i]?) (parts := parts.map fun p => (p.1, ρ p.2)) (by have := yaxl hp; simpa [Function.comp_def] using this) hok hv' (VRL.plains hpl) rfl e
      simp only [Value.cells]
      rw [show zs.toList.toArray = zs by simp] at h1
      rw [h1]
      simpa [yaah] using VR.agg h2
  · rename_i n el hu
    obtain rfl := Option.some.inj hp
    obtain ⟨inf, hinf⟩ := Option.isSome_iff_exists.1 (hte n el hu)
    simp only [Instr.build, zeroValue, yaab, yabf, hi, hzz, yaah, yaaf, hu, yabp, hinf]
    obtain ⟨ds', h1, h2, _⟩ := yalp (place := fun i => some (i * inf.size, inf.size)) (parts := parts.map fun p => (p.1, ρ p.2)) (by have := yaod (sz := yaan P el) (parts := parts); simpa [Function.comp_def, yaan, hinf] using this) hok hv' (VRL.plains hpl) rfl e
    simp only [Value.cells]
    rw [show zs.toList.toArray = zs by simp] at h1
    rw [h1]
    simpa [yaah] using VR.agg h2
  · cases hp
end
open Go
section
variable {P : Program} {φ : Phi} {h : Hp} {L : Lay} {st : Stk} {e : En} {ρ : Operand → Value}
theorem yabi {x : Operand} (hx : VR φ ((gE L x).run st e) (ρ x)) : ∃ f, gE L x = .mk f ∧ VR φ (f st e) (ρ x) := by
  cases hg : gE L x with | mk f => rw [hg] at hx; exact ⟨f, rfl, hx⟩
theorem yabt {β : Type} {f : β} {F : Bx β} (e : some (Bx.mk f) = some F) : F.run = f := by cases e; rfl
theorem ybhe {k : IntKind} {n : Int} {H H' : AH} {v : Value} (e : arC k n H = .ok v H') (ψ : Phi) : VR ψ v v := by
  cases k <;> simp only [arC] at e <;> first
    | (obtain ⟨rfl, rfl⟩ := yaax e; exact .int _ _)
    | skip
  split at e
  · obtain ⟨rfl, rfl⟩ := yaax e; exact .int _ _
  · cases e
theorem ybhu {op : UnOp} {x x' v : Value} {H' : AH} (hx : VR φ x x') (e : unC op x H00 = .ok v H') : hq P (Op.unary op x') h (VR φ v) := by
  unfold unC at e
  split at e
  · obtain rfl := hx.int_inv
    refine yail ?_
    obtain ⟨_, h2⟩ := yazy e
    refine h2 _ ?_
    exact ybhe e φ
  · obtain rfl := hx.bool_inv
    obtain ⟨_, rfl⟩ := bb_ok e
    rw [yasc]
    exact yail (VR.bool _)
  · obtain rfl := hx.int_inv
    obtain ⟨rfl, rfl⟩ := yaax e
    exact yail ⟨_, rfl, VR.int _ _⟩
  · cases e
theorem ybbj {o : Option Value} {d : Nat} {k : Nat → RV} {v : Value} {H' : AH} (e : optN o d k = .ok v H') : ∃ n, k n = .ok v H' ∧ ((o = none ∧ n = d) ∨ ∃ kd, o = some (.int kd (.ofNat n))) := by
  unfold optN at e
  split at e
  · exact ⟨d, e, .inl ⟨rfl, rfl⟩⟩
  · rename_i kd n
    split at e
    · rename_i m hm
      cases n with
      | ofNat n => obtain rfl := Option.some.inj hm; exact ⟨_, e, .inr ⟨kd, rfl⟩⟩
      | negSucc n => cases hm
    · cases e
  · cases e
theorem yami {t : TypeId} {x i x' i' v : Value} {H H' : AH} (hx : VR φ x x') (hi : VR φ i i') (e : yahs P t x i H = .ok v H') : H' = H ∧ hq P (Instr.indexAt t x' i') h (VR φ v) := by
  unfold yahs at e
  split at e
  · obtain rfl := hi.int_inv
    split at e
    · cases e
    · rename_i kd i0 n hn
      have hn := yady hn
      subst hn
      split at e
      · rename_i a len c
        split at e
        · rename_i el sz he
          split at e
          · rename_i hlt
            have hlt := Nat.le_of_ble_eq_true hlt
            obtain ⟨rfl, rfl⟩ := yaax e
            obtain ⟨b, o, sp⟩ := a
            cases sp with
            | some s => obtain ⟨_, _, h0, _⟩ := hx.sle_inv; omega
            | none =>
              obtain ⟨m, c', hm, rfl, _⟩ := hx.sl_inv
              refine ⟨rfl, yadl ?_⟩
              simp only [yacb, he, NN]
              refine ⟨⟨by omega, by omega⟩, ?_⟩
              rw [yaxr, addMk, Int.toNat_natCast]
              exact .ptr _ _ hm
          · cases e
        · cases e
      · rename_i a
        split at e
        · rename_i nn el sz he
          split at e
          · rename_i hlt
            have hlt := Nat.le_of_ble_eq_true hlt
            obtain ⟨rfl, rfl⟩ := yaax e
            obtain ⟨m, hm, rfl⟩ := hx.ptr_inv
            refine ⟨rfl, yadl ?_⟩
            simp only [yacb, he, NN]
            refine ⟨⟨by omega, by omega⟩, ?_⟩
            rw [Int.toNat_natCast]
            obtain ⟨b, o, sp⟩ := a
            by_cases h0 : n * sz = 0
            · have e1 : addA ⟨b, o, sp⟩ (Nat.mul n sz) = ⟨b, o, sp⟩ := by show addA _ (n * sz) = _; rw [h0]; rfl
              have e2 : (⟨m.r, o, sp⟩ : Addr).add (n * sz) = ⟨m.r, o, sp⟩ := by rw [h0]; rfl
              rw [e1, e2]
              exact .ptr _ _ hm
            · have e1 : addA ⟨b, o, sp⟩ (Nat.mul n sz) = ⟨b, o + n * sz, none⟩ := by
                show addA _ (n * sz) = _
                cases hq : n * sz with
                | zero => exact absurd hq h0
                | succ j => rfl
              have e2 : (⟨m.r, o, sp⟩ : Addr).add (n * sz) = ⟨m.r, o + n * sz, none⟩ := by unfold Addr.add; rw [if_neg h0]
              rw [e1, e2]
              exact .ptr _ _ hm
          · cases e
        · cases e
      · cases e
  · cases e
theorem yazg {o : Oper} {F : Bx PF} {v : Value} (hρ : ∀ x ∈ opds o.op, VR φ ((gE L x).run st e) (ρ x)) (hp : pOp P L o.op = some F) (he : F.run st e = .ok v) :
    hq P (execOp ρ o) h (valK (VR φ v)) := by
  have op2 : ∀ {op : Op}, o.op = op → oq P op ρ h (VR φ v) → hq P (execOp ρ o) h (valK (VR φ v)) := fun ho hk => yakx ho hk
  generalize ho : o.op = op at hρ hp
  unfold pOp at hp
  split at hp
  · -- move
    rename_i x
    obtain ⟨f, hg, hx⟩ := yabi (hρ x (by simp [opds]))
    simp only [hg] at hp
    rw [yabt hp] at he
    obtain rfl := yasy he
    exact op2 ho hx
  · rename_i x
    obtain ⟨f, hg, hx⟩ := yabi (hρ x (by simp [opds]))
    simp only [hg] at hp
    rw [yabt hp] at he
    obtain rfl := yasy he
    exact op2 ho hx
  · -- pick
    rename_i c a b
    obtain ⟨fc, hgc, hc⟩ := yabi (hρ c (by simp [opds]))
    obtain ⟨fa, hga, ha⟩ := yabi (hρ a (by simp [opds]))
    obtain ⟨fb, hgb, hb⟩ := yabi (hρ b (by simp [opds]))
    simp only [hgc, hga, hgb] at hp
    rw [yabt hp] at he
    obtain ⟨t, h1, h2⟩ := yaym he
    rw [h1] at hc
    have hc := hc.bool_inv
    refine op2 ho ?_
    simp only [oq, pickV, hc]
    have fin : ∀ w, (if t then ρ a else ρ b) = w → VR φ v w := fun w hw => by
      rw [← hw, h2]
      cases t <;> assumption
    split
    · rename_i x y hx hy
      rw [hx, hy] at fin
      cases t <;> exact fin _ rfl
    · cases t <;> exact fin _ rfl
  · -- nilCheck
    rename_i x
    obtain ⟨f, hg, hx⟩ := yabi (hρ x (by simp [opds]))
    simp only [hg] at hp
    rw [yabt hp] at he
    obtain ⟨rfl, h1⟩ := ybcy he
    refine op2 ho ?_
    rcases h1 with ⟨a, h1⟩ | ⟨f', a, b, h1⟩
    · simp only [h1] at hx ⊢
      obtain ⟨m, hm, hr⟩ := hx.ptr_inv
      simp only [oq, nilV, hr, NN]
      rw [← hr]; exact hx
    · simp only [h1] at hx ⊢
      obtain ⟨a', b', hr, _⟩ := hx.func_inv
      simp only [oq, nilV, hr]
      rw [← hr]; exact hx
  · -- against nil
    rename_i op t x ty
    have hy := hρ (.const .nilIface) (by simp [opds])
    have hy : ρ (.const .nilIface) = .nilIface := by
      have hy : VR φ .nilIface (ρ (.const .nilIface)) := hy
      generalize ρ (.const .nilIface) = w at hy
      cases hy; rfl
    obtain ⟨f, hg, hx⟩ := yabi (hρ x (by simp [opds]))
    have fin : ∀ {op}, o.op = .binOp op t x (.const .nilIface) ty → isIfT P t = true → ((op = .eql ∧ nifE (f st e) = .ok v) ∨ (op = .neq ∧ nifN (f st e) = .ok v)) → hq P (execOp ρ o) h (valK (VR φ v)) := fun {op} ho ht e => by
      have := ybfn (P := P) (h := h) (t := t) (xo := x) (yv := .nilIface) hx ht e
      unfold execOp
      rw [ho]
      simp only []
      rw [hy]
      exact yaaq _ h _ this
    cases hi : isIfT P t <;> cases op <;> simp only [hg, hi] at hp <;> first | (cases hp; done) | skip
    · rw [yabt hp] at he
      exact fin ho hi (.inl ⟨rfl, he⟩)
    · rw [yabt hp] at he
      exact fin ho hi (.inr ⟨rfl, he⟩)
  · -- two operands
    rename_i op t x y ty _
    obtain ⟨fx, hgx, hx⟩ := yabi (hρ x (by simp [opds]))
    obtain ⟨fy, hgy, hy⟩ := yabi (hρ y (by simp [opds]))
    cases hb : binO P op t with | mk f =>
    simp only [hgx, hgy, hb] at hp
    rw [yabt hp] at he
    have := ybcc (P := P) (h := h) (xo := x) (yo := y) hx hy (by rw [hb]; exact he)
    unfold execOp
    rw [ho]
    exact yaaq _ h _ this
  · -- oneV operand
    rename_i op t x
    obtain ⟨f, hg, hx⟩ := yabi (hρ x (by simp [opds]))
    have fin : hq P (Op.unary op (ρ x)) h (VR φ v) := by
      cases op <;> simp only [hg] at hp <;> rw [yabt hp] at he <;> first
        | (obtain ⟨b, h1, rfl⟩ := ybdq he; rw [h1] at hx; rw [hx.bool_inv]; exact yail (VR.bool _))
        | (obtain ⟨H', he⟩ := yalw he; exact ybhu hx he)
    unfold execOp
    rw [ho]
    exact yaaq _ h _ fin
  · -- conversion
    rename_i sr ds x
    obtain ⟨f, hg, hx⟩ := yabi (hρ x (by simp [opds]))
    refine op2 ho ?_
    simp only [oq]
    have str : (match yaap P sr && yaap P ds with | true => some (.mk fun st e => toRO (convC P sr ds (f st e) H00)) | false => none) = some F → convV P sr ds (ρ x) (VR φ v) := fun hp => by
      split at hp
      · rename_i hs
        rw [yabt hp] at he
        obtain ⟨H', he⟩ := yalw he
        rw [Bool.and_eq_true] at hs
        have n1 : yabu P sr = none := by unfold yabu; rw [yabg hs.1]
        have n2 : yabu P ds = none := by unfold yabu; rw [yabg hs.2]
        unfold convC at he
        rw [n1, n2] at he
        cases hfe : f st e <;> rw [hfe] at he hx <;> first | (cases he; done) | skip
        simp only [hs.1, hs.2, Bool.and_self] at he
        obtain ⟨rfl, rfl⟩ := yaax he
        rw [hx.str_inv]
        simp only [convV, n1, n2, hs.1, hs.2, Bool.and_self]
        exact .str _
      · cases hp
    cases hs : yabu P sr with
    | none => simp only [hg, hs] at hp; exact str hp
    | some k0 =>
      cases hd : yabu P ds with
      | none => simp only [hg, hs, hd] at hp; exact str hp
      | some k =>
        simp only [hg, hs, hd] at hp
        rw [yabt hp] at he
        obtain ⟨k0, n, h1, h2, h3⟩ := ybbi he
        rw [h1] at hx
        rw [hx.int_inv]
        simp only [convV, hs, hd]
        exact h3 _ (h2 φ)
  · -- a field's address
    rename_i s x fi
    obtain ⟨f, hg, hx⟩ := yabi (hρ x (by simp [opds]))
    cases hf : yaed P s fi with
    | none => simp only [hf] at hp; cases hp
    | some fd =>
      cases hz : yaan P fd.type with
      | zero => simp only [hg, hf, hz] at hp; cases hp
      | succ k =>
        simp only [hg, hf, hz] at hp
        rw [yabt hp] at he
        obtain ⟨a, h1, rfl⟩ := ybcm he
        rw [h1] at hx
        obtain ⟨m, hm, hr⟩ := hx.ptr_inv
        refine op2 ho ?_
        simp only [oq, hf, hz, hr, addrV, NN]
        show VR φ _ _
        obtain ⟨b, oo, sp⟩ := a
        cases hn : fd.offset with
        | zero => exact .ptr _ _ hm
        | succ j => exact .ptr _ _ hm
  · -- a field
    rename_i s x fi
    obtain ⟨f, hg, hx⟩ := yabi (hρ x (by simp [opds]))
    cases hf : yaed P s fi with
    | none => simp only [hf] at hp; cases hp
    | some fd =>
      cases ha : yacx P fd.type with
      | none => simp only [hg, hf, ha] at hp; cases hp
      | some b =>
        refine op2 ho ?_
        cases b with
        | false =>
          simp only [hg, hf, ha] at hp
          rw [yabt hp] at he
          obtain ⟨cs, h1, h2⟩ := ybca he
          rw [h1] at hx
          obtain ⟨ys, hr, hxs⟩ := hx.agg_inv
          obtain ⟨u, hu, hv⟩ := hxs.get h2
          simp only [oq, hf, hr, partV, ha, yacg, hu]
          exact hv
        | true =>
          simp only [hg, hf, ha] at hp
          rw [yabt hp] at he
          obtain ⟨cs, h1, rfl⟩ := ybdy he
          rw [h1] at hx
          obtain ⟨ys, hr, hxs⟩ := hx.agg_inv
          simp only [oq, hf, hr, partV, ha]
          exact .agg ((hxs.drop _).take _)
  · -- an element's address
    rename_i t x i
    obtain ⟨fx, hgx, hx⟩ := yabi (hρ x (by simp [opds]))
    obtain ⟨fi, hgi, hi⟩ := yabi (hρ i (by simp [opds]))
    cases hel : elemT P t with
    | none =>
      simp only [hgx, hgi, hel] at hp
      rw [yabt hp] at he
      obtain ⟨H', he⟩ := yalw he
      unfold execOp
      rw [ho]
      exact yaaq _ h _ (yami hx hi he).2
    | some r =>
      obtain ⟨el, sz⟩ := r
      simp only [hgx, hgi, hel] at hp
      rw [yabt hp] at he
      obtain ⟨a, n, c, k, m, h1, h2, hlt, rfl⟩ := ybeu he
      rw [h1] at hx
      rw [h2] at hi
      have hi := hi.int_inv
      refine op2 ho ?_
      obtain ⟨b, oo, sp⟩ := a
      cases sp with
      | some s => obtain ⟨_, _, h0, _⟩ := hx.sle_inv; omega
      | none =>
        obtain ⟨mm, c', hm, hr, _⟩ := hx.sl_inv
        simp only [oq, yacb, hi, hr, hel, NN]
        refine ⟨⟨Int.natCast_nonneg _, by rw [Int.ofNat_eq_natCast]; omega⟩, ?_⟩
        rw [yaxr, addMk]
        exact .ptr _ _ hm
  · -- an element
    rename_i t x i
    obtain ⟨fx, hgx, hx⟩ := yabi (hρ x (by simp [opds]))
    obtain ⟨fi, hgi, hi⟩ := yabi (hρ i (by simp [opds]))
    refine op2 ho ?_
    cases hst : yaap P t with
    | true =>
      simp only [hgx, hgi, hst] at hp
      rw [yabt hp] at he
      obtain ⟨s, k, m, b, h1, h2, h3, rfl⟩ := ybaj he
      rw [h1] at hx
      rw [h2] at hi
      have hlt := (List.getElem?_eq_some_iff.1 h3).1
      rw [yaia] at hlt
      simp only [oq, yaqk, hi.int_inv, hx.str_inv, hst]
      refine ⟨⟨Int.natCast_nonneg _, by rw [Int.ofNat_eq_natCast]; omega⟩, ?_⟩
      have : s.data.toList.getD (Int.toNat (.ofNat m)) 0 = b := by
        rw [List.getD_eq_getElem?_getD]
        have h3 : s.data.toList[m]? = some b := h3
        show (s.data.toList[m]?).getD 0 = b
        rw [h3]; rfl
      rw [this]
      exact .int _ _
    | false =>
      cases ha : arrT P t with
      | none => simp only [hgx, hgi, hst, ha] at hp; cases hp
      | some r =>
        obtain ⟨n, el, sz⟩ := r
        cases hag : yacx P el with
        | none => simp only [hgx, hgi, hst, ha, hag] at hp; cases hp
        | some bb =>
          cases bb with
          | false =>
            simp only [hgx, hgi, hst, ha, hag] at hp
            rw [yabt hp] at he
            obtain ⟨cs, k, m, h1, h2, hlt, h3⟩ := yben he
            rw [h1] at hx
            rw [h2] at hi
            obtain ⟨ys, hr, hxs⟩ := hx.agg_inv
            obtain ⟨u, hu, hv⟩ := hxs.get h3
            simp only [oq, yaqk, hi.int_inv, hr, ha, partV, hag, yacg]
            refine ⟨⟨Int.natCast_nonneg _, by rw [Int.ofNat_eq_natCast]; omega⟩, ?_⟩
            have : ys[(Int.toNat (.ofNat m)) * sz]? = some u := hu
            rw [this]
            exact hv
          | true =>
            simp only [hgx, hgi, hst, ha, hag] at hp
            rw [yabt hp] at he
            obtain ⟨cs, k, m, h1, h2, hlt, rfl⟩ := ybef he
            rw [h1] at hx
            rw [h2] at hi
            obtain ⟨ys, hr, hxs⟩ := hx.agg_inv
            obtain ⟨hu, inf, hinf, hsz⟩ := yafl ha
            simp only [oq, yaqk, hi.int_inv, hr, ha, partV, hag]
            refine ⟨⟨Int.natCast_nonneg _, by rw [Int.ofNat_eq_natCast]; omega⟩, ?_⟩
            have e1 : yaan P el = sz := by simp only [yaan, hinf, hsz]
            rw [e1]
            exact .agg ((hxs.drop _).take _)
  · -- a part of a tuple
    rename_i x i
    obtain ⟨f, hg, hx⟩ := yabi (hρ x (by simp [opds]))
    simp only [hg] at hp
    rw [yabt hp] at he
    obtain ⟨vs, h1, h2⟩ := ybcs he
    rw [h1] at hx
    obtain ⟨ys, hr, hxs⟩ := hx.tup_inv
    obtain ⟨u, hu, hv⟩ := hxs.get h2
    refine op2 ho ?_
    simp only [oq, hr, yacg, hu]
    exact hv
  · -- a function value
    rename_i fn first cap
    have h1 := gL_ok (xs := first.toList) (φ := φ) (L := L) (st := st) (e := e) (ρ := ρ) fun x hx => hρ x (by simp only [opds]; exact List.mem_append_left _ hx)
    have h2 := gL_ok (xs := cap.toList) (φ := φ) (L := L) (st := st) (e := e) (ρ := ρ) fun x hx => hρ x (by simp only [opds]; exact List.mem_append_right _ hx)
    cases hg1 : gL L first.toList with | mk f1 =>
    cases hg2 : gL L cap.toList with | mk f2 =>
    rw [hg1] at h1
    rw [hg2] at h2
    simp only [hg1, hg2] at hp
    rw [yabt hp] at he
    obtain rfl := yasy he
    refine op2 ho ?_
    simp only [oq]
    exact .func fn h1 h2
  · -- a struct or an array
    rename_i t parts
    have h1 := gL_ok (xs := parts.toList.map (·.2)) (φ := φ) (L := L) (st := st) (e := e) (ρ := ρ) fun x hx => hρ x (by simpa only [opds] using hx)
    cases hps : plcT P t parts.toList with
    | none => simp only [hps] at hp; cases hp
    | some ps =>
      cases hg : gL L (parts.toList.map (·.2)) with | mk f =>
      rw [hg] at h1
      cases hok : okP (lenV0 (yach (yadx P t))) ps with
      | false => simp only [hps, hg, hok] at hp; cases hp
      | true =>
        cases hz : okZ P t with
        | false => simp only [hps, hg, hok, hz] at hp; cases hp
        | true =>
          simp only [hps, hg, hok, hz] at hp
          rw [yabt hp] at he
          obtain ⟨cs, hb, rfl⟩ := ybdb he
          unfold okZ at hz
          simp only [Bool.and_eq_true] at hz
          obtain ⟨⟨hz1, hz2⟩, hz3⟩ := hz
          have := yana (P := P) (h := h) (ρ := ρ) hps hok hz1 hz2 (fun fs hu => by rw [hu] at hz3; exact hz3) (fun n el hu => by rw [hu] at hz3; exact hz3) (by simpa [Function.comp_def] using h1) hb
          unfold execOp
          rw [ho]
          refine yaaq _ h _ ?_
          have e1 : (parts.toList.map fun p => (p.1, ρ p.2)).toArray = parts.map fun p => (p.1, ρ p.2) := by apply Array.ext'; simp
          rw [e1] at this
          exact this
  · -- a length
    rename_i args tys
    cases ht : tys.toList with
    | nil => simp only [ht] at hp; cases hp
    | cons t ts =>
      cases hx : args.toList with
      | nil => simp only [ht, hx] at hp; cases hp
      | cons x xs =>
        cases xs with
        | cons y ys => simp only [ht, hx] at hp; cases hp
        | nil =>
          obtain ⟨f, hg, hv⟩ := yabi (hρ x (by simp [opds, yadv, hx]))
          refine op2 ho ?_
          simp only [oq, yacd, ht, hx, List.map_cons, List.map_nil]
          cases h1 : yaap P t with
          | true =>
            simp only [ht, hx, hg, h1] at hp
            rw [yabt hp] at he
            obtain ⟨s, h2, rfl⟩ := ybbg he
            rw [h2] at hv
            rw [hv.str_inv]
            simp only [lenV, h1]
            exact .int _ _
          | false =>
            cases h3 : yacp P t with
            | false => simp only [ht, hx, hg, h1, h3] at hp; cases hp
            | true =>
              simp only [ht, hx, hg, h1, h3] at hp
              rw [yabt hp] at he
              obtain ⟨p, n, c, h2, rfl⟩ := ybcq he
              rw [h2] at hv
              have : ∃ p' c', ρ x = .slice p' n c' := by
                generalize ρ x = u at hv
                cases hv with
                | sl0 => exact ⟨_, _, rfl⟩
                | sl => exact ⟨_, _, rfl⟩
                | sle => exact ⟨_, _, rfl⟩
              obtain ⟨p', c', hr⟩ := this
              rw [hr]
              simp only [lenV, h3]
              exact .int _ _
  · cases hp
end
open Go
section
variable {P : Program} {φ : Phi} {h0 : Hp} {H : AH} {h : Hp} {L : Lay} {st : Stk} {e : En} {ρ : Operand → Value}
theorem yanh {x : Value} {k : Addr → AH → RV} {v : Value} {H' : AH} (e : onPtr x H k = .ok v H') : ∃ a, x = .pointer (some a) ∧ k a H = .ok v H' := by
  cases x <;> first | (cases e; done) | skip
  rename_i p
  cases p with
  | none => cases e
  | some a => exact ⟨a, rfl, e⟩
theorem yavx {x y : Value} {k : Addr → Value → AH → RV} {v : Value} {H' : AH} (e : yavj x y H k = .ok v H') : ∃ a, x = .pointer (some a) ∧ k a y H = .ok v H' := by
  cases x <;> first | (cases e; done) | skip
  rename_i p
  cases p with
  | none => cases e
  | some a => exact ⟨a, rfl, e⟩
theorem yahr (zs : List Value) : ∀ n, (repC zs n).length = n * zs.length
  | 0 => by simp [repC]
  | n + 1 => by rw [repC, yahq, List.length_append, yahr zs n, Nat.succ_mul, Nat.add_comm]
theorem yatj (zs : List Value) (hz : 0 < zs.length) : ∀ n i, i < n * zs.length → (repC zs n)[i]? = zs[i % zs.length]?
  | 0, i, h => by simp at h
  | n + 1, i, h => by
    rw [repC, yahq]
    by_cases hi : i < zs.length
    · rw [List.getElem?_append_left hi, Nat.mod_eq_of_lt hi]
    · have hm : (n + 1) * zs.length = n * zs.length + zs.length := Nat.succ_mul _ _
      rw [List.getElem?_append_right (by omega), yatj zs hz n _ (by omega)]
      have := Nat.mod_eq_sub_mod (a := i) (b := zs.length) (by omega)
      rw [this]
theorem yajw (zs : List Value) (n : Nat) : repL (n * zs.length) zs = repC zs n := by
  rcases Nat.eq_zero_or_pos zs.length with hz | hz
  · rw [hz, Nat.mul_zero]
    have : (repC zs n).length = 0 := by rw [yahr, hz, Nat.mul_zero]
    rw [List.eq_nil_of_length_eq_zero this]
    rfl
  · apply List.ext_getElem?
    intro i
    by_cases hi : i < n * zs.length
    · rw [yatj zs hz n i hi]
      unfold repL
      rw [List.getElem?_map, List.getElem?_range hi]
      have hm := Nat.mod_lt i hz
      rw [List.getElem?_eq_getElem hm]
      simp [yacg, List.getElem?_eq_getElem hm]
    · have e1 : (repL (n * zs.length) zs)[i]? = none := List.getElem?_eq_none (by unfold repL; simp; omega)
      have e2 : (repC zs n)[i]? = none := List.getElem?_eq_none (by rw [yahr]; omega)
      rw [e1, e2]
theorem yahl {t : TypeId} {zs : List Value} (hz : zerL P t = some zs) : ∃ i z, P.info? t = some i ∧ i.zero = some z ∧ z.cells.toList = zs ∧ plains zs = true := by
  unfold zerL at hz
  split at hz
  · rename_i i hi
    split at hz
    · rename_i cs hc
      split at hz
      · rename_i hp
        obtain rfl := Option.some.inj hz
        exact ⟨i, _, hi, hc, rfl, hp⟩
      · cases hz
    · rename_i z hz' hc
      split at hz
      · rename_i hp
        obtain rfl := Option.some.inj hz
        refine ⟨i, z, hi, hc, ?_, by simp [plains, hp]⟩
        cases z <;> first | rfl | (cases hp; done)
      · cases hz
    · cases hz
  · cases hz
theorem yagl {z : Nat} {ty : TypeId} {vs : List Value} {k : Nat → Value} {v : Value} {H' : AH} (e : newC z ty vs H k = .ok v H') : v = k H.nx ∧ H' = ⟨H.nx + 1, TT.set H.m H.nx (some (.row (lenV0 vs) z ty (mkT vs)))⟩ := by
  unfold newC at e
  obtain ⟨rfl, rfl⟩ := yaax e
  exact ⟨rfl, rfl⟩
theorem ybdo {t : TypeId} {us vs : List Value} {v : Value} {H' : AH} (hr : HR φ h0 H h) (hv : VRL φ vs us) (e : boxN t vs H = .ok v H') : New h (.cells us.toArray t) fun b h' => Out φ h0 H h v H' (.pointer (some ⟨b, 0, none⟩)) h' := by
  obtain ⟨rfl, rfl⟩ := yagl e
  obtain ⟨ψ, hψ, hs⟩ := hr.row hv 0 t [] us.length (by simp) (fun _ => rfl)
  rw [List.append_nil] at hs
  exact ⟨ψ, hs, .ptr _ _ hψ⟩
theorem yawz {t : TypeId} {u w v : Value} {H' : AH} (hv : VR φ w u) (e : boxC t w H = .ok v H') : boxN t w.cells.toList H = .ok v H' ∧ (scalar u = true ∨ ∃ cs, u = .agg cs) := by
  cases hv with
  | agg hvs => exact ⟨e, .inr ⟨_, rfl⟩⟩
  | tup _ => cases e
  | _ => exact ⟨e, .inl rfl⟩
theorem yaja (c m : Nat) (h : c < m) : Builtin.nextslicecap m c ≤ 2 * m := by
  unfold Builtin.nextslicecap
  split
  · omega
  · split
    · omega
    · simp only [Builtin.growBy]
      split
      · omega
      · split
        · omega
        · split
          · omega
          · split <;> omega
theorem yald {t el : TypeId} {n sz : Nat} {parts : List (Nat × Operand)} {zs vs : List Value} {v : Value} {H' : AH} (hr : HR φ h0 H h) (he : elemT P t = some (el, sz)) (hz : zerL P el = some zs) (hl : lenV0 zs = sz) (hok : okP (n * sz) (plcA sz parts) = true) (hlim : n * sz ≤ 100000)
    (hv : VRL φ vs (parts.map fun p => ρ p.2)) (e : bldS n sz el (bldR (plcA sz parts) vs (repC zs n)) H = .ok v H') :
    hw P (Instr.buildSlice t n (parts.map fun p => (p.1, ρ p.2)).toArray) h (Out φ h0 H h v H') := by
  obtain ⟨hu, inf, hinf, hsz⟩ := yabk he
  obtain ⟨i, z, hi, hzz, hzc, hpl⟩ := yahl hz
  obtain rfl : inf = i := by rw [hinf] at hi; exact Option.some.inj hi
  rw [yabe] at hl
  have hv' : VRL φ vs ((parts.map fun p => (p.1, ρ p.2)).map (·.2)) := by rw [List.map_map]; exact hv
  cases hb : bldR (plcA sz parts) vs (repC zs n) with
  | none => rw [hb] at e; cases e
  | some cs =>
    rw [hb] at e
    obtain ⟨rfl, rfl⟩ := yagl (show newC sz el cs H (slX n (capX n)) = .ok v H' from e)
    have hzz0 : VRL φ (repC zs n) (repC zs n) := (VRL.plains hpl).rep n
    obtain ⟨ds', h1, h2, h3⟩ := yalp (place := fun i => some (i * inf.size, inf.size)) (parts := parts.map fun p => (p.1, ρ p.2)) (by have := yaod (sz := sz) (parts := parts); rw [← hsz] at this; simpa [Function.comp_def, ← hsz] using this) hok hv' hzz0 (by rw [yahr, hl]) hb
    have fin : hw P (do pure (Value.slice (some (← newRow el ds'.toArray)) n n) : Sem Value) h (Out φ h0 H h (slX n (capX n) H.nx) ⟨H.nx + 1, TT.set H.m H.nx (some (.row (lenV0 cs) sz el (mkT cs)))⟩) := by
      obtain ⟨ψ, hψ, hs⟩ := hr.row h2 sz el [] ds'.length (by simp) (fun _ => rfl)
      rw [List.append_nil] at hs
      simp only [yaac, newRow, newObj, yaam]
      refine ⟨ψ, hs, VR.sl hψ (fun _ => ?_) (fun hc => ?_) ?_ (Nat.le_refl _)⟩
      · show n = Nat.succ (2 * n) / 2; omega
      · exfalso; have : Nat.succ (2 * n) % 2 = 0 := hc; omega
      · show Nat.succ (2 * n) / 2 ≤ n; omega
    have hrep : ((Array.range (n * inf.size)).map (z.cells[· % z.cells.size]!)) = (repC zs n).toArray := by
      rw [yalf, hzc]
      have : n * inf.size = n * zs.length := by rw [hsz, hl]
      rw [this, yajw]
    simp only [Instr.buildSlice, yaac, yaao, hu, yacj, hinf]
    rw [if_neg (by rw [hsz]; omega)]
    by_cases hn0 : n * inf.size = 0
    · have e0 : ∀ zs : Array Value, (Array.range (n * inf.size)).map (zs[· % zs.size]!) = #[] := by rw [hn0]; simp
      simp only [if_pos hn0, yaam, yaac]
      rw [e0, ← e0 z.cells, hrep, h1]
      exact fin
    · simp only [if_neg hn0, yaac, yaaw hi hzz, yaam]
      rw [hrep, h1]
      exact fin
theorem yajv {z : Value} {zs : List Value} {k : List Value → Prop} (hp : plains zs = true) (hc : z.cells.toList = zs) (hk : k zs) : yaft z k := by
  subst hc
  cases z with
  | agg cs => exact hk
  | tuple vs => cases hp
  | _ => exact hk
theorem yand {t : TypeId} {l c l' c' v : Value} {H' : AH} (hr : HR φ h0 H h) (hl : VR φ l l') (hc : VR φ c c') (e : yahz P t l c H = .ok v H') : hw P (Instr.makeSlice t l' c') h (Out φ h0 H h v H') := by
  unfold yahz at e
  split at e
  · rename_i el sz kl l kc c he
    obtain rfl := hl.int_inv
    obtain rfl := hc.int_inv
    split at e
    · rename_i ln cn zs hln hcn hz
      have hln := yady hln
      have hcn := yady hcn
      subst hln
      subst hcn
      split at e
      · rename_i hb
        simp only [Bool.and_eq_true] at hb
        obtain ⟨⟨⟨b1, b2⟩, b3⟩, b4⟩ := hb
        have b1 := Nat.le_of_ble_eq_true b1
        have b2 := Nat.le_of_ble_eq_true b2
        have b3 : cn * yacs P el ≤ 281474976710656 := Nat.le_of_ble_eq_true b3
        have b4 := Nat.eq_of_beq_eq_true b4
        rw [yabe] at b4
        obtain ⟨rfl, rfl⟩ := yagl e
        obtain ⟨i, z, hi, hzz, hzc, hpl⟩ := yahl hz
        refine yaer ?_
        simp only [yafb, he]
        refine ⟨⟨by omega, by omega, by omega, ?_⟩, ?_⟩
        · have h3 : ((cn * yacs P el : Nat) : Int) ≤ ((281474976710656 : Nat) : Int) := Int.ofNat_le.2 b3
          rw [Int.natCast_mul] at h3
          exact h3
        · simp only [zeroV, hi, hzz]
          refine yajv hpl hzc ?_
          obtain ⟨ψ, hψ, hs⟩ := hr.row ((VRL.plains hpl).rep cn) sz el [] (repC zs cn).length (by simp) (fun _ => rfl)
          rw [List.append_nil] at hs
          have e1 : repL ((Int.toNat (cn : Int)) * sz) zs = repC zs cn := by rw [Int.toNat_natCast, ← b4, yajw]
          rw [e1]
          show Out φ h0 H h _ _ (.slice (some ⟨h.size, 0, none⟩) (Int.toNat (ln : Int)) (Int.toNat (cn : Int))) (h.push _)
          rw [Int.toNat_natCast, Int.toNat_natCast]
          refine ⟨ψ, hs, VR.sl hψ (fun _ => ?_) (fun hc => ?_) ?_ b1⟩
          · show cn = Nat.succ (2 * cn) / 2; omega
          · exfalso; have : Nat.succ (2 * cn) % 2 = 0 := hc; omega
          · show Nat.succ (2 * cn) / 2 ≤ cn; omega
      · cases e
    · cases e
  · cases e
end
open Go
section
variable {P : Program} {φ : Phi} {h0 : Hp} {H : AH} {h : Hp}
def optR (φ : Phi) (o o' : Option Value) : Prop := match o, o' with | none, none => True | some v, some u => VR φ v u | _, _ => False
theorem yasn {o o' : Option Value} {d : Nat} {k : Nat → RV} {v : Value} {H' : AH} (ho : optR φ o o') (e : optN o d k = .ok v H') : ∃ n : Nat, k n = .ok v H' ∧ ∀ K : Int → Prop, K n → yafu o' d K := by
  obtain ⟨n, hk, h1⟩ := ybbj e
  refine ⟨n, hk, fun K hK => ?_⟩
  rcases h1 with ⟨rfl, rfl⟩ | ⟨kd, rfl⟩
  · cases o' with
    | none => exact hK
    | some u => exact ho.elim
  · cases o' with
    | none => exact ho.elim
    | some u =>
      have ho : VR φ (.int kd (.ofNat n)) u := ho
      rw [ho.int_inv]
      exact hK
theorem yalc {r o c a sz : Nat} (h : a ≠ c ∨ a = 0) : yaai (some ⟨r, o, none⟩) c a sz = some ⟨r, o + a * sz, none⟩ := by
  unfold yaai
  split
  · rename_i e
    rcases h with h | h
    · exact absurd e.symm h
    · subst h; simp
  · show some ((⟨r, o, none⟩ : Addr).add (a * sz)) = _
    rw [addMk]
theorem yany {t : TypeId} {x x' v : Value} {lo lo' hi hi' : Option Value} {H' : AH} (hr : HR φ h0 H h) (hx : VR φ x x') (hlo : optR φ lo lo') (hhi : optR φ hi hi') (e : yazn P t x lo hi H = .ok v H') :
    H' = H ∧ hq P (Instr.sliceAt t x' lo' hi' none) h (VR φ v) := by
  unfold yazn at e
  split at e
  · rename_i p len cap el sz he
    obtain ⟨b, e, hb⟩ := yasn hhi e
    obtain ⟨a, e, ha⟩ := yasn hlo e
    have go : ∀ (len' c' : Nat) (p' : Option Addr), x' = .slice p' len' c' → len' = len → a ≤ b → b ≤ c' → VR φ v (.slice (yaai p' c' a sz) (b - a) (c' - a)) → hq P (Instr.sliceAt t x' lo' hi' none) h (VR φ v) := fun len' c' p' h1 h2 h3 h4 hv => by
      subst h2
      rw [h1]
      refine yagc ?_
      simp only [yaqx, he]
      refine hb _ (ha _ ⟨⟨Int.natCast_nonneg _, by omega, by omega⟩, ?_⟩)
      simpa using hv
    cases hc : (Nat.ble a b && Nat.ble b (Nat.div cap 2)) with
    | false => rw [hc] at e; cases p <;> cases e
    | true =>
    rw [hc] at e
    rw [Bool.and_eq_true] at hc
    have h1 := Nat.le_of_ble_eq_true hc.1
    have h2 : b ≤ cap / 2 := Nat.le_of_ble_eq_true hc.2
    match p, hx, e with
    | none, hx, e =>
      obtain ⟨h3, h4⟩ := hx.sl0_inv
      subst h3
      cases b with
      | succ b => cases e
      | zero =>
        obtain ⟨rfl, rfl⟩ := yaax (show RV.ok (Value.slice none 0 0) H = .ok v H' from e)
        have : a = 0 := by omega
        subst this
        exact ⟨rfl, go _ _ _ h4 rfl (Nat.le_refl _) (Nat.le_refl _) (.sl0 _)⟩
    | some ⟨_, _, some _⟩, _, e => cases e
    | some ⟨bl, o, none⟩, hx, e =>
      obtain ⟨m, c', hm, hx', e1, e2, e3, e4⟩ := hx.sl_inv
      simp only [] at e
      split at e
      · obtain ⟨rfl, rfl⟩ := yaax e
        refine ⟨rfl, go _ _ _ hx' rfl (Nat.zero_le _) (by omega) ?_⟩
        rw [yalc (.inr rfl)]
        simp only [Nat.zero_mul, Nat.add_zero, Nat.sub_zero]
        exact .sl hm e1 e2 e3 (by omega)
      · split at e
        · rename_i n z ty cs hlt hg
          have hlt : a < cap / 2 := Nat.le_of_ble_eq_true hlt
          split at e
          · rename_i hz
            have hz := Nat.eq_of_beq_eq_true hz
            obtain ⟨rfl, rfl⟩ := yaax e
            obtain ⟨m', hm', _, _, hbr⟩ := hr.blk bl _ hg
            rw [hm] at hm'
            obtain rfl := Option.some.inj hm'
            obtain ⟨c0, f, _, _, _, hmz, _, _⟩ := hbr
            refine ⟨rfl, go _ _ _ hx' rfl h1 (by omega) ?_⟩
            rw [yalc (.inl (by omega))]
            refine .sl hm (fun hc => ?_) (fun hc => ?_) ?_ (show b - a ≤ c' - a by omega)
            · have hc : (cap - 2 * a) % 2 = 1 := hc
              have := e1 (by omega)
              show c' - a = (cap - 2 * a) / 2
              omega
            · have hc : (cap - 2 * a) % 2 = 0 := hc
              obtain ⟨e7, this⟩ := e2 (by omega)
              have e5 : (c' - a) * m.z = c' * m.z - a * m.z := Nat.sub_mul _ _ _
              have e6 : a * m.z ≤ c' * m.z := Nat.mul_le_mul_right _ (by omega)
              refine ⟨e7, ?_⟩
              show o + a * sz + (c' - a) * m.z = m.s
              rw [e5, hmz, hz] at *
              omega
            · show (cap - 2 * a) / 2 ≤ c' - a
              omega
          · cases e
        · cases e
        · rename_i hlt
          have hlt : ¬ a < cap / 2 := fun hh => by
            have : Nat.ble (Nat.succ a) (cap / 2) = true := by rw [Nat.ble_eq]; exact hh
            have hlt : Nat.ble (Nat.succ a) (cap / 2) = false := hlt
            rw [this] at hlt; cases hlt
          obtain ⟨rfl, rfl⟩ := yaax e
          refine ⟨rfl, go _ _ _ hx' rfl h1 (by omega) ?_⟩
          have hba : b - a = 0 := by omega
          rw [hba]
          have : ∃ ad, yaai (some ⟨m.r, o, none⟩) c' a sz = some ad := by unfold yaai; split <;> exact ⟨_, rfl⟩
          obtain ⟨ad, had⟩ := this
          rw [had]
          exact .sle _ _ _ _ _ _
  · cases e
theorem ybfy {x x' : Value} {sz : Nat} {k : List Value → RV} {v : Value} {H' : AH} (hr : HR φ h0 H h) (hx : VR φ x x') (e : rdS x sz H k = .ok v H') : ∃ q n c xs us, slLen x = some n ∧ x' = .slice q n c ∧ VRL φ xs us ∧ xs.length = n * sz ∧ readsL h q us ∧ k xs = .ok v H' := by
  unfold rdS at e
  split at e
  · rename_i b o n c
    obtain ⟨m, c', hm, rfl, _⟩ := hx.sl_inv
    cases hc : rds (csO (TT.get H.m b)) (Nat.mul n sz) o with
    | none => rw [hc] at e; cases e
    | some vs =>
      rw [hc] at e
      obtain ⟨hl, us, hus, hcs⟩ := hr.rds hm hc
      exact ⟨_, n, c', vs, us, rfl, rfl, hus, hl, yaju hcs, e⟩
  · cases e
theorem Step.out {ψ : Phi} {H' : AH} {h' : Hp} {v u : Value} (s : Step φ ψ h0 H H' h h') (hv : VR ψ v u) : Out φ h0 H h v H' u h' := ⟨ψ, s, hv⟩
theorem yawt {el : TypeId} {sz n k : Nat} {os xs us ws zs : List Value} {v : Value} {H' : AH} (hr : HR φ h0 H h) (ho : VRL φ os us) (hx : VRL φ xs ws) (hn : us.length + ws.length = n * sz) (hz : zs.length = sz) (e : appN sz el os xs n H = .ok v H') (hk : n ≤ k) (hsz : 0 < sz) :
    New h (.cells (us ++ ws ++ repL ((k - n) * sz) zs).toArray el) fun b h' => Out φ h0 H h v H' (.slice (some ⟨b, 0, none⟩) n k) h' := by
  obtain ⟨rfl, rfl⟩ := yagl e
  rw [yahq]
  have hl : (repL ((k - n) * sz) zs).length = (k - n) * sz := by simp [repL]
  have hks : (k - n) * sz = k * sz - n * sz := Nat.sub_mul _ _ _
  have hle : n * sz ≤ k * sz := Nat.mul_le_mul_right _ hk
  obtain ⟨ψ, hψ, hs⟩ := hr.row (ho.app hx) sz el (repL ((k - n) * sz) zs) (k * sz) (by rw [hl, List.length_append, hn, hks]; omega) (fun h0 => by omega)
  refine ⟨ψ, hs, VR.sl hψ (fun hc => ?_) (fun _ => ?_) ?_ hk⟩
  · exfalso; have hc : (2 * n) % 2 = 1 := hc; omega
  · exact ⟨hsz, by simp⟩
  · show 2 * n / 2 ≤ k; omega
theorem HR.move (hr : HR φ h0 H h) {b : Nat} {k k' : Bk} {m : Ph} (hk : TT.get H.m b = some k) (ho : OwnB k) (ho' : OwnB k') (hm : φ b = some m) {h' : Hp} (hsz : h'.size = h.size) (hot : ∀ r, r ≠ m.r → h'[r]? = h[r]?) (hb : BR φ m h' k') :
    Step φ (upd φ H.nx m) h0 H ⟨H.nx + 1, TT.set (TT.set H.m b none) H.nx (some k')⟩ h h' := by
  obtain ⟨m0, hm0, hge, _, hbr⟩ := hr.blk b k hk
  rw [hm] at hm0
  obtain rfl := Option.some.inj hm0
  have hge := hge ho
  have hsub := yaol (hr.fresh H.nx (Nat.le_refl _)) m
  have hbn := hr.dom hm
  have gg : ∀ c kc, TT.get (TT.set (TT.set H.m b none) H.nx (some k')) c = some kc → (c = H.nx ∧ kc = k') ∨ (c ≠ H.nx ∧ c ≠ b ∧ TT.get H.m c = some kc) := fun c kc g => by
    rcases (TT.set_get _ _ _ _).2 _ g with ⟨e, he⟩ | ⟨hn, g⟩
    · exact .inl ⟨e, (Option.some.inj he).symm⟩
    · rcases (TT.set_get _ _ _ _).2 _ g with ⟨_, he⟩ | ⟨hn2, g⟩
      · cases he
      · exact .inr ⟨hn, hn2, g⟩
  have oth : ∀ c kc mc, c ≠ b → TT.get H.m c = some kc → φ c = some mc → mc.r ≠ m.r := fun c kc mc hne g e he => by
    obtain ⟨mc', hmc, h1, h2, _⟩ := hr.blk c kc g
    rw [e] at hmc
    obtain rfl := Option.some.inj hmc
    rcases OwnB.em kc with oc | oc
    · exact hne (hr.inj c b _ _ mc g hk oc ho e ⟨m, hm, he⟩)
    · have := h2 oc; omega
  refine ⟨hsub, ?_, ⟨?_, by rw [hsz]; exact hr.size, fun r hlt => by rw [hot r (by omega)]; exact hr.old r hlt, ?_, ?_⟩, Nat.le_succ _, by omega, ?_, ?_⟩
  · intro c mc e
    by_cases hc : c = H.nx
    · subst hc
      rw [yabs] at e
      obtain rfl := Option.some.inj e
      exact .inr ⟨Nat.le_refl _, .inr ⟨b, k, m, hk, ho, hm, rfl⟩⟩
    · rw [yaeb hc] at e; exact .inl e
  · intro c hle
    simp only [] at hle
    rw [yaeb (by omega)]
    exact hr.fresh c (by omega)
  · intro c kc hc
    rcases gg c kc hc with ⟨rfl, rfl⟩ | ⟨hne, hnb, hc⟩
    · exact ⟨_, yabs _ _ _, fun _ => hge, fun hno => absurd ho' hno, hb.mono hsub⟩
    · obtain ⟨mc, hmc, h1, h2, hbrc⟩ := hr.blk c kc hc
      exact ⟨mc, hsub _ _ hmc, h1, h2, (hbrc.mono hsub).heap (hot _ (oth c kc mc hnb hc hmc))⟩
  · intro c c' k1 k2 m1 g1 g2 o1 o2 e1 ⟨m2, e2, he⟩
    rcases gg _ _ g1 with ⟨rfl, _⟩ | ⟨n1, b1, g1⟩ <;> rcases gg _ _ g2 with ⟨e', _⟩ | ⟨n2, b2, g2⟩
    · exact e'.symm
    · rw [yabs] at e1
      obtain rfl := Option.some.inj e1
      rw [yaeb n2] at e2
      exact absurd he.symm (oth c' _ m2 b2 g2 e2)
    · subst e'
      rw [yabs] at e2
      obtain rfl := Option.some.inj e2
      rw [yaeb n1] at e1
      exact absurd he (oth c _ m1 b1 g1 e1)
    · rw [yaeb n1] at e1
      rw [yaeb n2] at e2
      exact hr.inj c c' _ _ m1 g1 g2 o1 o2 e1 ⟨m2, e2, he⟩
  · intro r _ hn
    exact hot r fun e => hn b k m hk ho hm e.symm
  · intro c kc g o hlt
    rcases gg c kc g with ⟨rfl, _⟩ | ⟨_, _, g⟩
    · omega
    · exact ⟨kc, g, o⟩
def appB (P : Program) (e : TypeId) (sz : Nat) (p : Option Addr) (n c m : Nat) (xs : List Value) (h : Hp) (K : Value → Hp → Prop) : Prop :=
  (n + m ≤ c → yagj p (n * sz) (fun h => K (.slice p (n + m) c) h) xs h) ∧
      (c < n + m → (Builtin.nextslicecap (n + m) c * yacs P e ≤ 281474976710656 ∧ n + m ≤ 9223372036854775807) ∧ ∃ os : List Value, os.length = n * sz ∧ readsL h p os ∧ zeroV P e fun z =>
        ∀ c' : Nat, n + m ≤ c' → c' ≤ 9223372036854775807 → New h (.cells (os ++ xs ++ repL ((c' - (n + m)) * z.cells.size) z.cells.toList).toArray e) fun b h => K (.slice (some ⟨b, 0, none⟩) (n + m) c') h)
theorem yaww {el : TypeId} {sz n m cs' : Nat} {p' : Option Addr} {s v : Value} {zs xs ws : List Value} {i0 : TypeInfo} {z : Value} {H' : AH} {K : Value → Hp → Prop} (hr : HR φ h0 H h) (hs : VR φ s (.slice p' n cs')) (hn : slLen s = some n) (hxs : VRL φ xs ws) (hxl : xs.length = m * sz) (hm0 : m ≠ 0) (c2 : 1 ≤ sz) (c3 : zs.length = sz) (c4 : n + m ≤ 100000)
    (hi : P.info? el = some i0) (hzz : i0.zero = some z) (hzc : z.cells.toList = zs) (hnc : n ≤ cs') (c5 : 2 * (n + m) * yacs P el ≤ 281474976710656)
    (e : appX sz el s xs m H = .ok v H') (hK : ∀ u h', Out φ h0 H h v H' u h' → K u h') : appB P el sz p' n cs' m ws h (slK fun a l c h => K (.slice a l c) h) := by
  have hzs : z.cells.size = sz := by rw [← Array.length_toList, hzc]; exact c3
  have bound : ∀ c, c < n + m → Builtin.nextslicecap (n + m) c * yacs P el ≤ 281474976710656 ∧ n + m ≤ 9223372036854775807 := fun c hlt => by
    refine ⟨Nat.le_trans (Nat.mul_le_mul_right _ (yaja c (n + m) hlt)) c5, by omega⟩
  have hwl : ws.length = m * sz := by rw [← hxs.len, hxl]
  have hmpos : 0 < m := Nat.pos_of_ne_zero hm0
  unfold appX at e
  split at e
  · -- to nil
    obtain ⟨h3, h4⟩ := hs.sl0_inv
    cases h4
    refine ⟨fun hle => by omega, fun hlt => ⟨bound _ hlt, [], by simp, rfl, ?_⟩⟩
    simp only [zeroV, hi, hzz]
    intro k hk _
    rw [Nat.zero_add] at hk ⊢
    have := yawt (us := []) hr .nil hxs (by simp [hwl]) c3 e hk c2
    rw [hzs, hzc]
    exact hK _ _ this
  · rename_i b o n' c
    cases hn
    obtain ⟨mm, c', hm', h4, e1, e2, e3, e4⟩ := hs.sl_inv
    simp only [Value.slice.injEq] at h4
    obtain ⟨rfl, _, rfl⟩ := h4
    split at e
    · -- room is sure
      rename_i hroom
      have hroom : n + m ≤ c / 2 := Nat.le_of_ble_eq_true hroom
      split at e
      · rename_i kn zz ty cs hg
        split at e
        · rename_i hb
          rw [Bool.and_eq_true] at hb
          have hb1 : o + (n + m) * sz ≤ kn := Nat.le_of_ble_eq_true hb.1
          obtain ⟨rfl, rfl⟩ := yaax e
          refine ⟨fun hle => ?_, fun hlt => by omega⟩
          show storesV ((⟨mm.r, o, none⟩ : Addr).add (n * sz)) _ ws 0 h
          rw [addMk]
          have hms : (n + m) * sz = n * sz + m * sz := Nat.add_mul _ _ _
          refine hr.wrs hg hm' (by rw [hxl]; omega) hb.2 hxs fun h' hst => ?_
          exact hK _ _ (hst.out (.sl hm' e1 e2 e3 (show n + m ≤ cs' by omega)))
        · cases e
      · cases e
    · split at e
      · -- it may be there or not
        rename_i hmod
        have hmod : c % 2 = 0 := hmod
        split at e
        · rename_i kn zz ty cs hg
          split at e
          · rename_i hb
            simp only [Bool.and_eq_true] at hb
            obtain ⟨⟨⟨⟨b1, b2⟩, b3⟩, b5⟩, b4⟩ := hb
            have b5 : el = ty := (Nat.eq_of_beq_eq_true b5).symm
            subst b5
            have b1 := Nat.eq_of_beq_eq_true b1
            have b2 : kn = n * sz := Nat.eq_of_beq_eq_true b2
            have b3 := Nat.eq_of_beq_eq_true b3
            subst b1
            obtain ⟨rfl, rfl⟩ := yaax e
            obtain ⟨mx, hmx, hge, _, hbr⟩ := hr.blk b _ hg
            rw [hm'] at hmx
            obtain rfl := Option.some.inj hmx
            obtain ⟨ca, f, g1, g2, g3, g4, ⟨g5, g50⟩, g6⟩ := hbr
            have hsz' : mm.s = cs' * sz := by rw [← (e2 hmod).2, g4, b3]; omega
            have hms : (n + m) * sz = n * sz + m * sz := Nat.add_mul _ _ _
            have hns : n * sz ≤ cs' * sz := Nat.mul_le_mul_right _ e4
            refine ⟨fun hle => ?_, fun hlt => ⟨bound _ hlt, ca.toList.take (n * sz), ?_, ?_, ?_⟩⟩
            · -- in place
              have hle' : (n + m) * sz ≤ cs' * sz := Nat.mul_le_mul_right _ hle
              show storesV ((⟨mm.r, 0, none⟩ : Addr).add (n * sz)) _ ws 0 h
              rw [addMk, Nat.zero_add]
              refine yaib g1 g2 (by omega) (yako hxs b4) fun h' f1 f2 f3 => ?_
              have hst := hr.move (k' := .row ((n + m) * sz) sz el (grow cs (n * sz) xs)) hg trivial trivial hm' f1 f2 ⟨_, f, f3, by rw [yafk]; exact g2, by rw [yafk]; exact g3, by rw [g4, b3], ⟨by omega, fun h0 => by omega⟩, fun i w hw => ?_⟩
              · exact hK _ _ (hst.out (.sl (yabs _ _ _) (fun hc => by have hc : (2 * (n + m)) % 2 = 1 := hc; omega) (fun _ => by rw [hsz', g4, b3]; omega) (show 2 * (n + m) / 2 ≤ cs' by omega) hle))
              · rcases yatt (fun i x hx => by have := (g6 i x hx).1; omega) hw with ⟨j1, j2⟩ | ⟨j1, j2⟩
                · obtain ⟨u, hu, hv⟩ := (g6 i w j2).2
                  refine ⟨by omega, u, ?_, hv⟩
                  rw [yakh _ _ _ _ (by omega), if_neg (by omega)]
                  exact hu
                · obtain ⟨u, hu, hv⟩ := hxs.get j2
                  have hlt := (List.getElem?_eq_some_iff.1 hu).1
                  refine ⟨by omega, u, ?_, hv⟩
                  rw [yakh _ _ _ _ (by omega), if_pos (by omega)]
                  rw [Nat.add_zero]
                  exact hu
            · rw [List.length_take, Array.length_toList]; omega
            · refine yaju fun j hj => ?_
              rw [Nat.zero_add, yaln g1]
              rw [List.length_take] at hj
              rw [List.getElem?_take_of_lt (by omega), Array.getElem?_toList]
            · simp only [zeroV, hi, hzz]
              intro k hk _
              rw [hzs, hzc]
              have hd := hr.drop b
              have hl : (repL ((k - (n + m)) * sz) zs).length = (k - (n + m)) * sz := by simp [repL]
              have hks : (k - (n + m)) * sz = k * sz - (n + m) * sz := Nat.sub_mul _ _ _
              have hle' : (n + m) * sz ≤ k * sz := Nat.mul_le_mul_right _ hk
              have htk : (ca.toList.take (n * sz)).length = n * sz := by rw [List.length_take, Array.length_toList]; omega
              have hbr : ∀ ψ, Sub φ ψ → BR ψ ⟨h.size, k * sz, sz⟩ (h.push (.cells (ca.toList.take (n * sz) ++ ws ++ repL ((k - (n + m)) * sz) zs).toArray el)) (.row ((n + m) * sz) sz el (grow cs (n * sz) xs)) := fun ψ hsub => by
                refine ⟨_, (0, 0), Array.getElem?_push_size, fun i _ hx => by simp at hx, ?_, rfl, ⟨?_, fun h0 => by omega⟩, fun i w hw => ?_⟩
                · rw [List.size_toArray, List.length_append, List.length_append, hl, hwl, htk]
                  show _ = k * sz
                  omega
                · show (n + m) * sz ≤ k * sz
                  omega
                · rcases yatt (fun i x hx => by have := (g6 i x hx).1; omega) hw with ⟨j1, j2⟩ | ⟨j1, j2⟩
                  · obtain ⟨u, hu, hv⟩ := (g6 i w j2).2
                    refine ⟨by omega, u, ?_, hv.mono hsub⟩
                    rw [List.getElem?_toArray, List.getElem?_append_left (by rw [List.length_append, htk]; omega), List.getElem?_append_left (by rw [htk]; exact j1), List.getElem?_take_of_lt j1, Array.getElem?_toList]
                    exact hu
                  · obtain ⟨u, hu, hv⟩ := hxs.get j2
                    have hlt := (List.getElem?_eq_some_iff.1 hu).1
                    refine ⟨by omega, u, ?_, hv.mono hsub⟩
                    rw [List.getElem?_toArray, List.getElem?_append_left (by rw [List.length_append, htk]; omega), List.getElem?_append_right (by rw [htk]; exact j1), htk]
                    exact hu
              obtain ⟨ψ, hψ, hst⟩ := hd.hr.new (k := .row ((n + m) * sz) sz el (grow cs (n * sz) xs)) trivial hbr
              exact hK _ _ ((hd.trans hr hst).out (.sl hψ (fun hc => by have hc : (2 * (n + m)) % 2 = 1 := hc; omega) (fun _ => ⟨c2, by show 0 + k * sz = k * sz; omega⟩) (show 2 * (n + m) / 2 ≤ k by omega) hk))
          · cases e
        · cases e
      · -- no room, for sure
        rename_i hnr _ hmod
        have hnr : ¬ n + m ≤ c / 2 := fun hh => by
          have h1 : Nat.ble (n + m) (c / 2) = true := by rw [Nat.ble_eq]; exact hh
          have hnr : Nat.ble (n + m) (c / 2) = false := hnr
          rw [h1] at hnr; cases hnr
        have hmod : c % 2 = 1 := by have : ¬ c % 2 = 0 := hmod; omega
        have hcc := e1 hmod
        split at e
        · rename_i os hos
          obtain ⟨hl, us, hus, hcs⟩ := hr.rds hm' hos
          have hl : os.length = n * sz := hl
          have hul : us.length = n * sz := by rw [← hus.len, hl]
          refine ⟨fun hle => by omega, fun hlt => ⟨bound _ hlt, us, hul, yaju hcs, ?_⟩⟩
          simp only [zeroV, hi, hzz]
          intro k hk _
          have := yawt hr hus hxs (by have := Nat.add_mul n m sz; show _ = (n + m) * sz; omega) c3 e hk c2
          rw [hzs, hzc]
          exact hK _ _ this
        · cases e
  · cases e
theorem yats {t t2 : TypeId} {s x s' x' v : Value} {H' : AH} {K : Value → Hp → Prop} (hr : HR φ h0 H h) (hs : VR φ s s') (hx : VR φ x x') (e : yasb P t t2 s x H = .ok v H') (hK : ∀ u h', Out φ h0 H h v H' u h' → K u h') :
    yaba P t t2 s' x' h (slK fun a l c h => K (.slice a l c) h) := by
  unfold yasb at e
  split at e
  · rename_i el sz n m he hn hm
    split at e
    · rename_i zs hz
      split at e
      · rename_i hc
        simp only [Bool.and_eq_true] at hc
        obtain ⟨⟨⟨⟨c1, c2⟩, c3⟩, c4⟩, c5⟩ := hc
        have c2 : 1 ≤ sz := Nat.le_of_ble_eq_true c2
        have c3 := Nat.eq_of_beq_eq_true c3
        rw [yabe] at c3
        have c4 : n + m ≤ 100000 := Nat.le_of_ble_eq_true c4
        have c5 : 2 * (n + m) * yacs P el ≤ 281474976710656 := Nat.le_of_ble_eq_true c5
        obtain ⟨i0, z, hi, hzz, hzc, hpl⟩ := yahl hz
        have hzs : z.cells.size = sz := by rw [← Array.length_toList, hzc]; exact c3
        obtain ⟨p', cs', rfl, hnc⟩ : ∃ p' c', s' = .slice p' n c' ∧ n ≤ c' := by
          cases hs with
          | sl0 => cases hn; exact ⟨_, _, rfl, Nat.le_refl _⟩
          | sl h1 h2 h3 h4 h5 => cases hn; exact ⟨_, _, rfl, h5⟩
          | sle => cases hn; exact ⟨_, _, rfl, Nat.zero_le _⟩
          | _ => cases hn
        obtain ⟨q', cx, rfl⟩ : ∃ q' c', x' = .slice q' m c' := by
          cases hx with
          | sl0 => cases hm; exact ⟨_, _, rfl⟩
          | sl h1 h2 h3 h4 h5 => cases hm; exact ⟨_, _, rfl⟩
          | sle => cases hm; exact ⟨_, _, rfl⟩
          | _ => cases hm
        have bound : ∀ c, c < n + m → Builtin.nextslicecap (n + m) c * yacs P el ≤ 281474976710656 ∧ n + m ≤ 9223372036854775807 := fun c hlt => by
          refine ⟨Nat.le_trans (Nat.mul_le_mul_right _ (yaja c (n + m) hlt)) c5, by omega⟩
        simp only [yaba, he, c1]
        split at e
        · -- nothing is appended
          obtain ⟨rfl, rfl⟩ := yaax e
          refine ⟨[], by simp, ?_, fun _ => ?_, fun hlt => absurd hlt (by omega)⟩
          · cases q' with
            | none => rfl
            | some a => intro i hi; cases hi
          · have : K (.slice p' n cs') h := hK _ _ (Out.of hs hr)
            cases p' with
            | none => exact this
            | some a => exact this
        · rename_i hm0
          unfold appS at e
          obtain ⟨q, nx, cq, xs, ws, g1, g2, hxs, hxl, hxr, e⟩ := ybfy hr hx e
          rw [hm] at g1
          obtain rfl := Option.some.inj g1
          simp only [Value.slice.injEq] at g2
          obtain ⟨rfl, _, rfl⟩ := g2
          have hwl : ws.length = m * sz := by rw [← hxs.len, hxl]
          have hmpos : 0 < m := Nat.pos_of_ne_zero hm0
          exact ⟨ws, hwl, hxr, yaww hr hs hn hxs hxl hm0 c2 c3 c4 hi hzz hzc hnc c5 e hK⟩
      · cases e
    · cases e
  · cases e
end
open Go
section
variable {P : Program} {φ : Phi} {h0 : Hp} {H : AH} {h : Hp}
theorem yasp : ∀ (l : List UInt8) (i : Nat), drpB l i = l.drop i
  | _, 0 => rfl
  | [], _ + 1 => rfl
  | _ :: r, i + 1 => by rw [List.drop_succ_cons, ← yasp r i]; rfl
theorem yawq (l : List UInt8) : ∀ q, chkB l q = l.drop (16 * q)
  | 0 => rfl
  | q + 1 => by
    show drpB (chkB l q) 16 = _
    rw [yasp, yawq l q, List.drop_drop]
    congr 1
theorem yaxa (l : List UInt8) (i : Nat) : drpF l i = l.drop i := by
  unfold drpF
  rw [yaqs, yasp, yawq, List.drop_drop]
  congr 1
  show 16 * (i / 16) + i % 16 = i
  omega
theorem ybbx : ∀ (n : Nat) (l : List UInt8), tkB n l = l.take n
  | 0, _ => by rw [List.take_zero]; rfl
  | _ + 1, [] => rfl
  | n + 1, v :: r => by rw [List.take_succ_cons, ← ybbx n r]; rfl
theorem yart {o : Option Value} {d : Nat} {k : Nat → RV} {v : Value} {H' : AH} {o' : Option Value} (ho : optR φ o o') (e : nOpt o d k = .ok v H') : ∃ n : Nat, k n = .ok v H' ∧ (∀ K : Int → Prop, K n → yafu o' d K) ∧ ∀ w, o = some w → ∀ (d' : Int) (K : Int → Prop), K n → yafu o' d' K := by
  cases o with
  | none =>
    cases o' with
    | none => exact ⟨d, e, fun K hK => hK, fun w hw => by cases hw⟩
    | some u => exact ho.elim
  | some x =>
    cases o' with
    | none => exact ho.elim
    | some u =>
      cases x <;> first | (cases e; done) | skip
      rename_i kd n
      cases n with
      | negSucc n => cases e
      | ofNat n =>
        have ho : VR φ (.int kd (.ofNat n)) u := ho
        rw [ho.int_inv]
        exact ⟨n, e, fun K hK => hK, fun _ _ _ K hK => hK⟩
theorem yaxh {t : TypeId} {x x' v : Value} {lo lo' hi hi' : Option Value} {H' : AH} (ht : yaap P t = true) (hx : VR φ x x') (hlo : optR φ lo lo') (hhi : optR φ hi hi') (e : slcS x lo hi H = .ok v H') :
    H' = H ∧ hq P (Instr.sliceAt t x' lo' hi' none) h (VR φ v) := by
  cases x <;> first | (cases e; done) | skip
  rename_i s
  rw [hx.str_inv]
  have key : ∀ (a b : Nat) (l : List UInt8), (∀ K : Int → Prop, K b → yafu hi' s.size K) → (∀ K : Int → Prop, K a → yafu lo' 0 K) → a ≤ b → b ≤ s.size → l = ((bl s).drop a).take (b - a) → hq P (Instr.sliceAt t (.string s) lo' hi' none) h (VR φ (.string ⟨⟨l⟩⟩)) := fun a b l hb ha h1 h2 hl => by
    refine yagc ?_
    simp only [yaqx, ht]
    refine hb (fun b' => yafu lo' 0 fun a' => (0 ≤ a' ∧ a' ≤ b' ∧ b' ≤ s.size) ∧ VR φ (.string ⟨⟨l⟩⟩) (.string (s.extract a'.toNat b'.toNat))) ?_
    refine ha _ ?_
    refine ⟨⟨Int.natCast_nonneg _, by omega, by omega⟩, ?_⟩
    have : s.extract (Int.toNat a) (Int.toNat b) = ⟨⟨l⟩⟩ := by
      apply ByteArray.ext
      apply Array.ext'
      rw [ByteArray.data_extract, Array.toList_extract, Int.toNat_natCast, Int.toNat_natCast, hl]
      rfl
    rw [this]
    exact .str _
  have hlen : lenL (bl s) = s.size := by rw [yaor, yaia]
  cases hi with
  | none =>
    cases hi' with
    | some u => exact hhi.elim
    | none =>
      obtain ⟨a, e, ha, _⟩ := yart (φ := φ) (o' := lo') hlo (show nOpt lo 0 _ = .ok v H' from e)
      cases hc : Nat.ble a (lenL (bl s)) with
      | false => simp only [hc] at e; cases e
      | true =>
        simp only [hc] at e
        obtain ⟨rfl, rfl⟩ := yaax e
        have hc := Nat.le_of_ble_eq_true hc
        rw [hlen] at hc
        refine ⟨rfl, key a s.size _ (fun K hK => hK) ha hc (Nat.le_refl _) ?_⟩
        rw [yaxa, List.take_of_length_le]
        rw [List.length_drop, yaia]
        exact Nat.le_refl _
  | some w =>
    obtain ⟨b, e, _, hb⟩ := yart (φ := φ) (o' := hi') hhi (show nOpt (some w) 0 _ = .ok v H' from e)
    obtain ⟨a, e, ha, _⟩ := yart (φ := φ) (o' := lo') hlo e
    cases hc : andR (Nat.ble a b) (Nat.ble b (lenL (bl s))) with
    | false => simp only [hc] at e; cases e
    | true =>
      simp only [hc] at e
      obtain ⟨rfl, rfl⟩ := yaax e
      rw [yaov, Bool.and_eq_true] at hc
      have h1 := Nat.le_of_ble_eq_true hc.1
      have h2 := Nat.le_of_ble_eq_true hc.2
      rw [hlen] at h2
      exact ⟨rfl, key a b _ (fun K hK => hb _ rfl _ K hK) ha h1 h2 (by rw [ybbx, yaxa]; rfl)⟩
theorem yavo : ∀ l : List UInt8, byV l = l.map fun b => Value.int .u8 b.toNat
  | [] => rfl
  | b :: r => by rw [List.map_cons, ← yavo r]; rfl
theorem yaps {c : Array Value} {ty : TypeId} : yafw (h.push (.cells c ty)) ⟨h.size, c.size, none⟩ 1 = h.push (.cells c ty (c.size, c.size + 1)) := by
  unfold yafw
  rw [if_neg (by omega)]
  apply Array.ext'
  apply List.ext_getElem?
  intro i
  rw [Array.getElem?_toList, Array.getElem?_toList, Array.getElem?_modify, Array.getElem?_push, Array.getElem?_push]
  by_cases hi : h.size = i
  · subst hi
    simp
  · rw [if_neg hi, if_neg (Ne.symm hi), if_neg (Ne.symm hi)]
theorem ybfq {s d el : TypeId} {x x' v : Value} {H' : AH} (hr : HR φ h0 H h) (hx : VR φ x x') (hs : yaap P s = true) (hd : elemT P d = some (el, 1)) (hu8 : P.underlying el = some (.int .u8)) (e : s2b el x H = .ok v H') :
    hw P (convert s d x') h (Out φ h0 H h v H') := by
  cases x <;> first | (cases e; done) | skip
  rename_i b
  rw [hx.str_inv]
  obtain ⟨rfl, rfl⟩ := yagl (show newC 1 el (byV (bl b)) H (slX (lenL (bl b)) (Nat.mul 2 (lenL (bl b)))) = .ok v H' from e)
  obtain ⟨hu, inf, hinf, hsz⟩ := yabk hd
  have hlen : lenL (bl b) = b.size := by rw [yaor, yaia]
  simp only [convert, yaac, yaao, yabg hs, hu, hu8, Conv.stringToBytes]
  simp only [yaac, choose, hw]
  intro tp
  simp only [Question.forced, Question.cut, Bool.false_eq_true, if_false, newRow, newObj, yaac, hw, yaam, markStringish, shape]
  have hsh : ∀ c : Array Value, yags (h.push (.cells c el)) h.size = some (el, c.size) := fun c => by
    unfold yags
    rw [Array.getElem?_push_size]
  rw [hsh]
  show Out φ h0 H h _ _ _ (yafw _ _ _)
  rw [yaps]
  have hc : Array.map (fun b => Value.int IntKind.u8 (b.toNat : Int)) b.data = (byV (bl b)).toArray := by
    rw [yavo]
    apply Array.ext'
    simp [bl]
  have hbl : (byV (bl b)).length = b.size := by rw [yavo, List.length_map, yaia]
  have hpl : VRL φ (byV (bl b)) (byV (bl b)) := by
    rw [yavo]
    exact VRL.map (fun x => .int _ _) _
  rw [hc, hlen]
  generalize hk : b.size + tp % (2 ^ 63 - b.size) = k
  have hle : b.size ≤ k := by omega
  obtain ⟨ψ, hψ, hst⟩ := hr.new (o := .cells ((byV (bl b)).toArray ++ Array.replicate (k - b.size) (Value.int IntKind.u8 0)) el (((byV (bl b)).toArray ++ Array.replicate (k - b.size) (Value.int IntKind.u8 0)).size, ((byV (bl b)).toArray ++ Array.replicate (k - b.size) (Value.int IntKind.u8 0)).size + 1))
    (k := .row (lenV0 (byV (bl b))) 1 el (mkT (byV (bl b)))) (s := k) (z := 1) trivial fun ψ hsub => ⟨_, _, Array.getElem?_push_size, fun i hi hx => by simp only [] at hx; omega, by simp [hbl]; omega, rfl, ⟨by rw [yabe, hbl]; exact hle, fun h0 => by omega⟩, fun i w hw => by
      have a3 := yamb hw
      have hlt := (List.getElem?_eq_some_iff.1 a3).1
      obtain ⟨u, hu, hv⟩ := hpl.get a3
      exact ⟨by rw [yabe]; exact hlt, u, by rw [Array.getElem?_append_left (by simpa using hlt), List.getElem?_toArray]; exact hu, hv.mono hsub⟩⟩
  exact hst.out (.sl hψ (fun hc => by have hc : (2 * b.size) % 2 = 1 := hc; omega) (fun _ => by exact ⟨Nat.one_pos, by show 0 + k * 1 = k; omega⟩) (show 2 * b.size / 2 ≤ k by omega) hle)
theorem yakc {k : IntKind} {n : Int} {key : TypeId} : ∀ {es fs : List MapEntry} {r : Option Value} {i : Nat} (_ : ERel φ es fs) (_ : findC k n es = some r) (kd : IntKind),
    (∀ v, r = some v → ∃ j u, Instr.findNow (.int kd) (.int k n) fs i = some (some (j, u)) ∧ VR φ v u) ∧ (r = none → Instr.findNow (.int kd) (.int k n) fs i = some none)
  | [], [], r, i, _, e, kd => by cases e; exact ⟨fun v h => (by cases h), fun _ => rfl⟩
  | [], _ :: _, _, _, h, _, _ => h.elim
  | _ :: _, [], _, _, h, _, _ => h.elim
  | e1 :: es, f1 :: fs, r, i, h, e, kd => by
    obtain ⟨h1, h2, h3, h4⟩ := h
    unfold findC at e
    split at e
    · rename_i k' n' hk
      split at e
      · rename_i hkk
        have hkk := yans hkk
        subst hkk
        rw [hk] at h1
        have hf := h1.int_inv
        split at e
        · rename_i hz
          cases e
          rw [zeq_eq, decide_eq_true_iff] at hz
          refine ⟨fun v hv => ⟨i, f1.val, ?_, by cases hv; exact h2⟩, fun hv => by cases hv⟩
          simp only [Instr.findNow, hf, Instr.sameNow, if_true, hz, beq_self_eq_true]
        · rename_i hz
          rw [zeq_eq, decide_eq_false_iff_not] at hz
          have ih := yakc (i := i + 1) (key := key) h4 e kd
          have hne : (n == n') = false := by simpa using hz
          have e0 : Instr.findNow (.int kd) (.int k n) (f1 :: fs) i = Instr.findNow (.int kd) (.int k n) fs (i + 1) := by
            simp only [Instr.findNow, hf, Instr.sameNow, if_true, hne]
          rw [e0]
          exact ih
      · cases e
    · cases e
theorem yapq {t e : TypeId} (hm : mapT P t = some e) : ∃ k kd, P.underlying t = some (.map k e) ∧ P.underlying k = some (.int kd) := by
  unfold mapT at hm
  split at hm
  · rename_i k e' hu
    split at hm
    · rename_i kd hk; cases hm; exact ⟨k, kd, hu, hk⟩
    · cases hm
  · cases hm
theorem yavi {t : TypeId} {z : Value} (hz : zer1 P t = some z) : ∃ i, P.info? t = some i ∧ i.zero = some z ∧ plain z = true := by
  unfold zer1 at hz
  split at hz
  · rename_i i hi
    split at hz
    · rename_i z' hz'
      split at hz
      · rename_i hp; cases hz; exact ⟨i, hi, hz', hp⟩
      · cases hz
    · cases hz
  · cases hz
theorem HR.map (hr : HR φ h0 H h) {b : Nat} {es : List MapEntry} {clock : Nat} {m : Ph} (hg : TT.get H.m b = some (.map es clock)) (hm : φ b = some m) : ∃ fs, h[m.r]? = some (.map fs clock) ∧ ERel φ es fs.toList := by
  obtain ⟨m', hm', _, _, hb⟩ := hr.blk b _ hg
  rw [hm] at hm'
  obtain rfl := Option.some.inj hm'
  exact hb
theorem yaev {k : TypeId} {kd kd' : IntKind} {n : Int} {b : Bool} (hk : P.underlying k = some (.int kd)) (K : Unit → Prop) (hK : K ()) : hq P (Instr.checkKey b 10000 k (.int kd' n)) h K := by
  unfold Instr.checkKey
  rw [yaab, yaaf, hk]
  exact hK
theorem yaga {k : TypeId} {d : TypeDesc} {v : Value} {fs : List MapEntry} {r : Option (Nat × Value)} (hk : P.underlying k = some d) (hf : Instr.findNow d v fs 0 = some r) (K : Option (Nat × Value) → Prop) (hK : K r) : hq P (Instr.findKey k v fs) h K := by
  unfold Instr.findKey
  rw [yaab, yaaf, hk]
  simp only [hf]
  exact hK
theorem yard {t : TypeId} {m i m' i' v : Value} {ok : Bool} {H' : AH} (hr : HR φ h0 H h) (hm : VR φ m m') (hi : VR φ i i') (e : yark P t m i ok H = .ok v H') : H' = H ∧ hq P (Instr.lookup t m' i' ok) h (VR φ v) := by
  unfold yark at e
  split at e
  · rename_i el r k n hmt
    obtain ⟨mm, hmm, rfl⟩ := hm.map_inv
    obtain rfl := hi.int_inv
    obtain ⟨kt, kd, hu, hk⟩ := yapq hmt
    split at e
    · rename_i es clock hg
      obtain ⟨fs, hf, her⟩ := hr.map hg hmm
      have hob : objH h mm.r = some (.map fs clock) := yaof hf (fun _ _ _ hx => by cases hx)
      split at e
      · rename_i w hfc
        obtain ⟨j, u, h1, h2⟩ := (yakc (i := 0) (key := kt) her hfc kd).1 _ rfl
        obtain ⟨rfl, rfl⟩ := yaax e
        refine ⟨rfl, ?_⟩
        unfold Instr.lookup
        simp only [yaab, yaaf, hu, getObj, hq]
        refine ⟨_, hob, ?_⟩
        simp only [yaab, yaah]
        refine yaev hk _ ?_
        refine yaga hk h1 _ ?_
        simp only [yaab, yaah]
        cases ok
        · exact h2
        · exact .tup (.cons h2 (.cons (.bool _) .nil))
      · rename_i z hfc hz
        have h1 := (yakc (i := 0) (key := kt) her hfc kd).2 rfl
        obtain ⟨inf, hinf, hzz, hpl⟩ := yavi hz
        obtain ⟨rfl, rfl⟩ := yaax e
        refine ⟨rfl, ?_⟩
        unfold Instr.lookup
        simp only [yaab, yaaf, hu, getObj, hq]
        refine ⟨_, hob, ?_⟩
        simp only [yaab, yaah]
        refine yaev hk _ ?_
        refine yaga hk h1 _ ?_
        simp only [yaab, yaah, zeroValue, yabf, hinf, hzz]
        cases ok
        · exact VR.plain hpl
        · exact .tup (.cons (VR.plain hpl) (.cons (.bool _) .nil))
      · cases e
    · cases e
  · cases e
theorem ERel.app : ∀ {es fs es' fs' : List MapEntry}, ERel φ es fs → ERel φ es' fs' → ERel φ (es ++ es') (fs ++ fs')
  | [], [], _, _, _, h => h
  | _ :: _, _ :: _, _, _, h, k => ⟨h.1, h.2.1, h.2.2.1, ERel.app h.2.2.2 k⟩
  | [], _ :: _, _, _, h, _ => h.elim
  | _ :: _, [], _, _, h, _ => h.elim
theorem yalq {t : TypeId} {m i w m' i' w' v : Value} {H' : AH} (hr : HR φ h0 H h) (hm : VR φ m m') (hi : VR φ i i') (hw0 : VR φ w w') (e : yahp P t m i w H = .ok v H') : v = undef ∧ hw P (Instr.mapUpdate t m' i' w') h fun _ h' => Step φ φ h0 H H' h h' := by
  unfold yahp at e
  split at e
  · rename_i el r k n hmt
    obtain ⟨mm, hmm, rfl⟩ := hm.map_inv
    obtain rfl := hi.int_inv
    obtain ⟨kt, kd, hu, hk⟩ := yapq hmt
    split at e
    · rename_i es clock hg
      obtain ⟨fs, hf, her⟩ := hr.map hg hmm
      have hob : objH h mm.r = some (.map fs clock) := yaof hf (fun _ _ _ hx => by cases hx)
      split at e
      · rename_i hfc
        have h1 := (yakc (i := 0) (key := kt) her hfc kd).2 rfl
        obtain ⟨rfl, rfl⟩ := yaax e
        refine ⟨rfl, ?_⟩
        unfold Instr.mapUpdate
        simp only [yaac, yaao, hu, getObj, hw]
        refine ⟨_, hob, ?_⟩
        simp only [yaac]
        refine yacc _ _ _ (yaev hk _ ?_)
        refine yacc _ _ _ (yaga hk h1 _ ?_)
        simp only [setObj, hw]
        refine ⟨⟨_, hob⟩, ?_⟩
        have hlt : mm.r < h.size := (Array.getElem?_eq_some_iff.1 hf).1
        refine hr.chg hg trivial (k' := .map (es ++ [{ key := .int k n, val := w, born := clock }]) (clock + 1)) trivial hmm (h' := h.setIfInBounds mm.r (.map (fs.push { key := .int k n, val := w', born := clock }) (clock + 1))) (by simp) (fun r' hne => by rw [Array.getElem?_setIfInBounds_ne (Ne.symm hne)]) ⟨_, by rw [Array.getElem?_setIfInBounds_self, if_pos hlt], ?_⟩
        rw [Array.toList_push]
        exact her.app ⟨.int _ _, hw0, rfl, trivial⟩
      · cases e
    · cases e
  · cases e
end
open Go
section
variable {P : Program} {φ : Phi} {h0 : Hp} {H : AH} {h : Hp}
theorem yawi (b : ByteArray) : ((b.extract 0 b.size).data.map fun x => Value.int .u8 x.toNat) = (byteL b).toArray := by
  have e : b.extract 0 b.size = b := by ext1; simp
  rw [e]
  apply Array.ext'
  simp [byteL, bl, u8n]
theorem yaui (b : ByteArray) : (byteL b).length = b.size := by simp [byteL, yaia]
theorem yazh (b : ByteArray) : VRL φ (byteL b) (byteL b) := by
  unfold byteL
  exact VRL.map (fun x => .int _ _) _
theorem yaml {t t2 ty e : TypeId} {p : Option Addr} {n c sz : Nat} {b : ByteArray} {K : Value → Hp → Prop} (tys : Array TypeId) (args : Array Value) (h0 : tys[0]? = some t) (h1 : tys[1]? = some t2) (g0 : args[0]? = some (.slice p n c)) (g1 : args[1]? = some (.string b))
    (he : elemT P t = some (e, sz)) (hi2 : yadk P t2 = true) (hk : appB P e sz p n c b.size (byteL b) h K) : hw P (Builtin.append_ tys ty args) h K := by
  obtain ⟨hu, inf, hinf, rfl⟩ := yabk he
  obtain ⟨hin, hout⟩ := hk
  have hsome : (P.underlying t2).isSome = true := by unfold yadk at hi2; cases hd : P.underlying t2 <;> simp_all
  obtain ⟨d2, hd2⟩ := Option.isSome_iff_exists.1 hsome
  have first : ∀ {Q : Array Value → Hp → Prop} {h : Hp}, Q (byteL b).toArray h → hw P (Builtin.firstCells inf.size b.size (.string b)) h Q := by
    intro Q h hq
    show Q ((b.extract 0 b.size).data.map fun x => Value.int .u8 x.toNat) h
    rw [yawi]
    exact hq
  cases d2 with
  | int k => unfold yadk at hi2; rw [hd2] at hi2; cases hi2
  | _ =>
    simp only [Builtin.append_, h0, g0, g1, h1, yaac, yaao, hu, yacj, hinf, hd2, yaam, Bool.false_eq_true, if_false, Bool.not_false, if_true, Builtin.lenOf]
    by_cases hle : n + b.size ≤ c
    · rw [if_pos hle, yaac]
      refine first ?_
      have hs := hin hle
      cases p with
      | none => exact hs
      | some a =>
        simp only [yaac, yaam]
        exact yabh _ (byteL b) 0 h _ hs
    · rw [if_neg hle]
      obtain ⟨⟨hb, hmx⟩, os, hol, hor, hz0⟩ := hout (by omega)
      obtain ⟨i, z, hi, hzz, hk⟩ := yadd hz0
      obtain rfl : inf = i := by rw [hinf] at hi; exact Option.some.inj hi
      simp only [yacs, hinf] at hb
      have h3 : IntKind.i64.max = 9223372036854775807 := by decide
      simp only [yaac, yaay, hinf]
      rw [if_neg (by rw [h3]; omega)]
      simp only [yaac, yaay, hinf]
      rw [if_neg (by omega)]
      simp only [yaac, choose, hw]
      intro tp
      simp only [Question.forced, Question.cut, Bool.false_eq_true, if_false, yaay, hinf, yafj]
      refine yacm hor _ n n c _ hol ?_
      refine first ?_
      simp only [yaaw hi hzz, newRow, newObj, yaac, yaam, yade]
      have := hk (n + b.size + tp % (2 ^ 63 - (n + b.size))) (by omega) (by have := Nat.mod_lt tp (show 2 ^ 63 - (n + b.size) > 0 by omega); omega)
      have e1 : os.toArray ++ (byteL b).toArray ++ (repL ((n + b.size + tp % (2 ^ 63 - (n + b.size)) - (n + b.size)) * z.cells.size) z.cells.toList).toArray = (os ++ byteL b ++ repL ((n + b.size + tp % (2 ^ 63 - (n + b.size)) - (n + b.size)) * z.cells.size) z.cells.toList).toArray := by
        apply Array.ext'; simp
      rw [e1]
      exact this
theorem yawn {t t2 ty : TypeId} {s s' v : Value} {b : ByteArray} {H' : AH} {K : Value → Hp → Prop} (tys : Array TypeId) (args : Array Value) (e0 : tys[0]? = some t) (e1 : tys[1]? = some t2) (g0 : args[0]? = some s') (g1 : args[1]? = some (.string b))
    (hr : HR φ h0 H h) (hs : VR φ s s') (e : ybab P t t2 s b H = .ok v H') (hK : ∀ u h', Out φ h0 H h v H' u h' → K u h') : hw P (Builtin.append_ tys ty args) h K := by
  unfold ybab at e
  split at e
  · rename_i el sz n he hn
    split at e
    · rename_i zs hz
      split at e
      · rename_i hc
        simp only [Bool.and_eq_true] at hc
        obtain ⟨⟨⟨⟨⟨c1, c2⟩, c3⟩, c4⟩, c5⟩, c6⟩ := hc
        have c2 : sz = 1 := Nat.eq_of_beq_eq_true c2
        subst c2
        have c3 := Nat.eq_of_beq_eq_true c3
        rw [yabe] at c3
        have c4 : n + (bl b).length ≤ 100000 := Nat.le_of_ble_eq_true c4
        have c5 : 2 * (n + (bl b).length) * yacs P el ≤ 281474976710656 := Nat.le_of_ble_eq_true c5
        have c6 : 1 ≤ (bl b).length := Nat.le_of_ble_eq_true c6
        rw [yaia] at c4 c5 c6 e
        obtain ⟨i0, z, hi, hzz, hzc, hpl⟩ := yahl hz
        obtain ⟨p', cs', rfl, hnc⟩ : ∃ p' c', s' = .slice p' n c' ∧ n ≤ c' := by
          cases hs with
          | sl0 => cases hn; exact ⟨_, _, rfl, Nat.le_refl _⟩
          | sl h1 h2 h3 h4 h5 => cases hn; exact ⟨_, _, rfl, h5⟩
          | sle => cases hn; exact ⟨_, _, rfl, Nat.zero_le _⟩
          | _ => cases hn
        have := yaww hr hs hn (yazh b) (by rw [yaui]; omega) (by omega) (Nat.le_refl 1) c3 c4 hi hzz hzc hnc c5 e hK
        refine yabq _ _ _ _ (fun u h' hu => ?_) (yaml (ty := ty) tys args e0 e1 g0 g1 he c1 this)
        cases u <;> first | exact hu | exact hu.elim
      · cases e
    · cases e
  · cases e
theorem HR.lose (hr : HR φ h0 H h) {b : Nat} {k : Bk} {m : Ph} (hk : TT.get H.m b = some k) (ho : OwnB k) (hm : φ b = some m) {h' : Hp} (hsz : h'.size = h.size) (hot : ∀ r, r ≠ m.r → h'[r]? = h[r]?) :
    Step φ φ h0 H ⟨H.nx, TT.set H.m b none⟩ h h' := by
  obtain ⟨m0, hm0, hge, _, hbr⟩ := hr.blk b k hk
  rw [hm] at hm0
  obtain rfl := Option.some.inj hm0
  have hge := hge ho
  have old : ∀ d kd, TT.get (TT.set H.m b none) d = some kd → d ≠ b ∧ TT.get H.m d = some kd := by
    intro d kd g
    rcases (TT.set_get _ _ _ _).2 _ g with ⟨_, e⟩ | g
    · cases e
    · exact g
  refine ⟨Sub.refl φ, fun _ _ e => .inl e, ⟨hr.fresh, by rw [hsz]; exact hr.size, fun r hlt => by rw [hot r (by omega)]; exact hr.old r hlt, ?_, fun c c' k1 k2 m1 g1 g2 => hr.inj c c' k1 k2 m1 (old _ _ g1).2 (old _ _ g2).2⟩, Nat.le_refl _, by omega, fun r _ hn => hot r fun e => hn b k m hk ho hm e.symm, fun c kc g o _ => ⟨kc, (old _ _ g).2, o⟩⟩
  intro c kc hc
  obtain ⟨hne, hc⟩ := old c kc hc
  obtain ⟨mc, hmc, h1, h2, hbrc⟩ := hr.blk c kc hc
  refine ⟨mc, hmc, h1, h2, hbrc.heap (hot _ fun e => ?_)⟩
  rcases OwnB.em kc with oc | oc
  · exact hne (hr.inj c b _ _ mc hc hk oc ho hmc ⟨m, hm, e⟩)
  · have := h2 oc; omega
theorem ybfv {ty : TypeId} {tys : Array TypeId} {b o n c : Nat} {x' : Value} {args : Array Value} (ha : args.toList = [x']) (hr : HR φ h0 H h) (hx : VR φ (.slice (some ⟨b, o, none⟩) (n + 1) c) x') :
    hw P (Builtin.unsafeSliceData_ tys ty args) h (Out φ h0 H h (.pointer (some ⟨b, o, none⟩)) H) := by
  obtain ⟨m, c', hm, rfl, _, _, _, hn⟩ := hx.sl_inv
  have ha : args = #[.slice (some ⟨m.r, o, none⟩) (n + 1) c'] := by apply Array.ext'; rw [ha]
  subst ha
  obtain ⟨k, rfl⟩ : ∃ k, c' = k + 1 := ⟨c' - 1, by omega⟩
  show hw P (pure (Value.pointer (some ⟨m.r, o, none⟩))) h _
  exact Out.of (.ptr _ _ hm) hr
theorem yari : ∀ {vs : List Value} {l : List UInt8}, unbyL vs = some l → vs.length = l.length ∧ ∀ (j : Nat) (x : UInt8), l[j]? = some x → vs[j]? = some (Value.int .u8 (Int.ofNat x.toNat))
  | [], l, e => by cases e; exact ⟨rfl, fun j x h => by cases h⟩
  | v :: vs, l, e => by
    unfold unbyL at e
    split at e
    · rename_i h0
      cases h0
    · rename_i n r hv
      split at e
      · rename_i l' hb hl
        cases hv
        cases e
        obtain ⟨h1, h2⟩ := yari hl
        have hb := Nat.le_of_ble_eq_true hb
        refine ⟨by simp [h1], fun j x hj => ?_⟩
        cases j with
        | zero =>
          simp only [List.getElem?_cons_zero, Option.some.injEq] at hj
          subst hj
          simp only [List.getElem?_cons_zero]
          have : (UInt8.ofNat n).toNat = n := by simp; omega
          rw [this]
        | succ j => simpa using h2 j x (by simpa using hj)
      · cases e
    · cases e
theorem yaig : ∀ (l : List UInt8) (a : Addr) (acc : ByteArray) (K : ByteArray → Hp → Prop), (∀ j x, l[j]? = some x → cell h (a.add j) = some (.int .u8 x.toNat)) → K ⟨acc.data ++ l.toArray⟩ h → hw P (loadBytes a acc l.length) h K
  | [], a, acc, K, _, hk => by
    have : (⟨acc.data ++ #[]⟩ : ByteArray) = acc := by ext1; simp
    rw [show (([] : List UInt8).toArray) = #[] from rfl, this] at hk
    exact hk
  | x :: l, a, acc, K, hc, hk => by
    have h0 : cell h a = some (.int .u8 x.toNat) := by
      have := hc 0 x rfl
      simpa [Addr.add] using this
    have hx : ((x.toNat : Int).toNat).toUInt8 = x := by simp
    simp only [List.length_cons, loadBytes, yaac, load, hw]
    refine ⟨_, h0, ?_⟩
    simp only [hx]
    refine yaig l (a.add 1) (acc.push x) K (fun j y hy => ?_) ?_
    · have := hc (j + 1) y (by simpa using hy)
      have e : (a.add 1).add j = a.add (j + 1) := by
        unfold Addr.add
        by_cases hj : j = 0
        · subst hj; simp
        · simp [hj]; omega
      rw [e]; exact this
    · have : (⟨(acc.push x).data ++ l.toArray⟩ : ByteArray) = ⟨acc.data ++ (x :: l).toArray⟩ := by ext1; simp [ByteArray.push]
      rw [this]; exact hk
theorem ybar {pt it ty : TypeId} {tys : Array TypeId} {p l p' l' v : Value} {H' : AH} {args : Array Value} (ht : tys.toList = [pt, it]) (ha : args.toList = [p', l']) (hr : HR φ h0 H h) (hp : VR φ p p') (hl : VR φ l l') (e : usStr P pt p l H = .ok v H') :
    hw P (Builtin.unsafeString_ tys ty args) h (Out φ h0 H h v H') := by
  unfold usStr at e
  split at e
  · rename_i el b n hu
    obtain ⟨m, hm, rfl⟩ := hp.ptr_inv
    obtain rfl := hl.int_inv
    split at e
    · rename_i kn z ty' cs hg
      split at e
      · rename_i vs hc hrd
        split at e
        · rename_i bs hbs
          obtain ⟨rfl, rfl⟩ := yaax e
          simp only [Bool.and_eq_true] at hc
          obtain ⟨⟨⟨⟨c1, c2⟩, c3⟩, c4⟩, c5⟩ := hc
          have c1 := Nat.le_of_ble_eq_true c1
          have c2 := Nat.le_of_ble_eq_true c2
          have c3 := Nat.le_of_ble_eq_true c3
          have c4 := Nat.eq_of_beq_eq_true c4
          have c5 := Nat.eq_of_beq_eq_true c5
          subst c4
          obtain ⟨m', hm', hge, _, hbr⟩ := hr.blk b _ hg
          simp only [] at hm
          rw [hm] at hm'
          obtain rfl := Option.some.inj hm'
          obtain ⟨c, f, g1, g2, g3, g4, ⟨g5, g50⟩, g6⟩ := hbr
          have ha : args = #[.pointer (some ⟨m.r, 0, none⟩), .int .i64 (.ofNat n)] := by apply Array.ext'; rw [ha]
          subst ha
          obtain ⟨hvl, hvs⟩ := Cs.rds_spec hrd
          obtain ⟨hbl, hbc⟩ := yari hbs
          have hcell : ∀ j x, bs[j]? = some x → cell h ((⟨m.r, 0, none⟩ : Addr).add j) = some (.int .u8 x.toNat) := fun j x hj => by
            have hlt := (List.getElem?_eq_some_iff.1 hj).1
            have h1 := hvs j (by omega)
            rw [hbc j x hj, Nat.zero_add] at h1
            obtain ⟨_, u, hu2, hvr⟩ := g6 j _ h1
            have e1 : (⟨m.r, 0, none⟩ : Addr).add j = ⟨m.r, j, none⟩ := by rw [addMk, Nat.zero_add]
            rw [e1, yaln g1, hu2, hvr.int_inv]
            rfl
          have hn : bs.length = n := by omega
          have hmax : IntKind.i64.max = 9223372036854775807 := by decide
          have hsh : yags h m.r = some (ty', c.size) := by unfold yags; rw [g1]
          have hlie : liesAt P P.depth ty' (c.size / P.cellsOf ty') 0 ty' n = true := by
            rw [c5, Nat.div_one]
            exact Lib.liesAt_bytes c5 _ _ (by omega)
          have ht : tys = #[pt, it] := by apply Array.ext'; rw [ht]
          subst ht
          have hdef : Builtin.unsafeString_ #[pt, it] ty #[.pointer (some ⟨m.r, 0, none⟩), .int .i64 (.ofNat n)] =
              (do
                let n ← asInt (.int .i64 (.ofNat n))
                if n < 0 then runtimePanic (.error "unsafe.String: len out of range")
                if n > IntKind.i64.max then unsupported (.unsafePointer "String: a length above the largest int")
                if n = 0 then pure (.string .empty)
                else if ← variablesAt ⟨m.r, 0, none⟩ (← elemOf pt) n.toNat then do
                  let s ← loadBytes ⟨m.r, 0, none⟩ .empty n.toNat
                  freeze ⟨m.r, 0, none⟩ n.toNat
                  pure (.string s)
                else unsupported (.unsafePointer "String: not so many bytes at ptr")) := rfl
          rw [hdef]
          simp only [yaac, asInt, asIntOf, yaam]
          rw [if_neg (by rw [Int.ofNat_eq_natCast]; omega), if_neg (by rw [hmax, Int.ofNat_eq_natCast]; omega), if_neg (by rw [Int.ofNat_eq_natCast]; omega)]
          simp only [yaac, elemOf, yaao, hu, yaam, variablesAt, program, shape, hw, hsh]
          rw [show (Int.ofNat n).toNat = n from rfl, hlie, if_pos rfl, yaac]
          have hgo := yaig (P := P) (h := h) bs ⟨m.r, 0, none⟩ .empty (fun s h' => s = ⟨⟨bs⟩⟩ ∧ h' = h) hcell ⟨by ext1; simp, rfl⟩
          rw [hn] at hgo
          refine yabq _ _ _ _ (fun s h' hs => ?_) hgo
          obtain ⟨rfl, rfl⟩ := hs
          simp only [yaac, freeze, hw, yaam]
          refine ⟨φ, hr.lose hg trivial hm ?_ fun r hne => ?_, .str _⟩
          · unfold yafw
            split
            · rfl
            · simp
          · unfold yafw
            split
            · rfl
            · rw [Array.getElem?_modify, if_neg (Ne.symm hne)]
        · cases e
      · cases e
    · cases e
  · cases e
theorem ybeb {r o : Nat} {ty : TypeId} {n : Nat} {K : Addr → Prop} (hsh : yags h r = some (ty, n)) (hk : K ⟨r, o, none⟩) : hq P (Conv.seenAt ⟨r, o, none⟩) h K := by
  simp only [Conv.seenAt, viewAt, yaab, shape, hq, hsh, Option.isSome_some, if_true, yaah]
  exact hk
theorem yaxo {s d : TypeId} {x x' v : Value} {H' : AH} (hr : HR φ h0 H h) (hx : VR φ x x') (e : cvUP P s d x H = .ok v H') : H' = H ∧ hq P (convert s d x') h (VR φ v) := by
  have row : ∀ {b n z : Nat} {ty : TypeId} {cs : Cs} {m : Ph}, TT.get H.m b = some (.row n z ty cs) → φ b = some m → ∃ c, yags h m.r = some (ty, c) ∧ n ≤ c ∧ (z = 0 → n = c) := fun {b n z ty cs m} hg hm => by
    obtain ⟨m', hm', _, _, hbr⟩ := hr.blk b _ hg
    rw [hm] at hm'
    obtain rfl := Option.some.inj hm'
    obtain ⟨c, f, g1, g2, g3, g4, ⟨g5, g50⟩, g6⟩ := hbr
    exact ⟨c.size, by unfold yags; rw [g1], by omega, fun h0 => by rw [g3]; exact g50 h0⟩
  unfold cvUP at e
  split at e
  · rename_i t b o hs hd
    obtain ⟨m, hm, rfl⟩ := hx.ptr_inv
    simp only [] at hm
    split at e
    · rename_i n z ty cs hg
      split at e
      · rename_i hc
        obtain ⟨rfl, rfl⟩ := yaax e
        simp only [Bool.and_eq_true] at hc
        obtain ⟨⟨c1, c2⟩, c3⟩ := hc
        have c1 := Nat.le_of_ble_eq_true c1
        have c2 := Nat.le_of_ble_eq_true c2
        obtain ⟨inf, hinf⟩ := Option.isSome_iff_exists.1 c3
        simp only [yaan, hinf] at c2
        obtain ⟨c, hsh, hle, _⟩ := row hg hm
        refine ⟨rfl, ?_⟩
        simp only [convert, yaab, yaaf, hs, hd, Conv.unsafePointer]
        refine ybeb hsh ?_
        simp only [cellsIn, yaab, shape, hq, hsh, yaah, sizeOf, yabf, hinf]
        rw [if_neg (by simp; omega)]
        exact .ptr _ _ hm
      · cases e
    · cases e
  · rename_i u b o hs hd
    obtain ⟨m, hm, rfl⟩ := hx.ptr_inv
    simp only [] at hm
    split at e
    · rename_i n ty cs hg
      split at e
      · rename_i hc
        obtain ⟨rfl, rfl⟩ := yaax e
        simp only [Bool.and_eq_true] at hc
        obtain ⟨⟨c2, c3⟩, c1⟩ := hc
        obtain ⟨inf, hinf⟩ := Option.isSome_iff_exists.1 c3
        have c2 := Nat.le_of_ble_eq_true c2
        simp only [yaan, hinf] at c2
        obtain ⟨c, hsh, hle, hz⟩ := row hg hm
        obtain rfl := hz rfl
        refine ⟨rfl, ?_⟩
        simp only [convert, yaab, yaaf, hs, hd, Conv.unsafePointer]
        refine ybeb hsh ?_
        simp only [sizeOf, yaab, yabf, hinf, yaah, variablesAt, program, shape, hq, hsh, c1, Bool.or_true, if_true]
        exact .ptr _ _ hm
      · cases e
    · cases e
  · cases e
end
open Go
def yaiu (P : Program) (g : Nat) (us : List Value) (h : Hp) (K : Value → Hp → Prop) : Prop := (yaau P g ∧ yaak P g us.toArray h K) ∨ yahx P g us.toArray h fun v => K v h
def ybek (P : Program) (h0 : Hp) (φ : Phi) (call : CallC) : Prop := ∀ (g : Nat) (args : List Value) (H : AH) (v : Value) (H' : AH) (h : Hp) (us : List Value), HR φ h0 H h → VRL φ args us → call g args H = .ok v H' → yaiu P g us h (Out φ h0 H h v H')
def yacl (φ : Phi) (gl : List Nat) : Prop := ∀ g ∈ gl, ∃ m, φ g = some m ∧ m.r = g
theorem yacl.mono {φ ψ : Phi} {gl : List Nat} (h : yacl φ gl) (s : Sub φ ψ) : yacl ψ gl := fun g hg => by obtain ⟨m, h1, h2⟩ := h g hg; exact ⟨m, s _ _ h1, h2⟩
def CallS (P : Program) (h0 : Hp) (gl : List Nat) (call : CallC) : Prop := ∀ φ, yacl φ gl → ybek P h0 φ call
section
variable {P : Program} {φ : Phi} {h0 : Hp} {H : AH} {h : Hp} {L : Lay} {st : Stk} {e : En} {ρ : Operand → Value} {call : CallC}
theorem gO_ok {o : Option Operand} (ho : ∀ x ∈ optL o, VR φ ((gE L x).run st e) (ρ x)) : optR φ ((gO L o).run st e) (o.map ρ) := by
  cases o with
  | none => trivial
  | some x =>
    obtain ⟨f, hg, hx⟩ := yabi (ho x (by simp))
    have : gO L (some x) = (match gE L x with | .mk f => .mk fun st e => some (f st e)) := rfl
    rw [this, hg]
    exact hx
theorem ybed {t ty : TypeId} {x x' v : Value} {H' : AH} (hr : HR φ h0 H h) (hx : VR φ x x') (e : lenM P t x H = .ok v H') (tys : Array TypeId) (args : Array Value) (ht : tys[0]? = some t) (ha : args[0]? = some x') : H' = H ∧ hw P (Builtin.len_ tys ty args) h fun u h' => h' = h ∧ VR φ v u := by
  unfold lenM at e
  split at e
  · rename_i k el r hu
    obtain ⟨m, hm, rfl⟩ := hx.map_inv
    split at e
    · rename_i es clock hg
      obtain ⟨fs, hf, her⟩ := hr.map hg hm
      obtain ⟨rfl, rfl⟩ := yaax e
      refine ⟨rfl, ?_⟩
      have hob : objH h m.r = some (.map fs clock) := yaof hf (fun _ _ _ hx => by cases hx)
      simp only [Builtin.len_, ht, ha, yaac, yaao, hu, getObj, hw]
      refine ⟨_, hob, rfl, ?_⟩
      have hl : ∀ {es fs : List MapEntry}, ERel φ es fs → es.length = fs.length := by
        intro es
        induction es with
        | nil => intro fs h; cases fs with | nil => rfl | cons _ _ => exact h.elim
        | cons e es ih => intro fs h; cases fs with | nil => exact h.elim | cons f fs => simp [ih h.2.2.2]
      have := hl her
      rw [this, Array.length_toList]
      exact .int _ _
    · cases e
  · cases e
theorem yaqv {k : IntKind} : ∀ {vs us : List Value} {m r : Int} (_ : VRL φ vs us) (_ : maxL k vs m = some r) (K : Value → Prop), K (.int k r) → hq P (us.foldlM Builtin.max2 (.int k m)) h K
  | [], us, m, r, hv, e, K, hK => by
    cases hv
    cases e
    exact hK
  | v :: vs, us, m, r, hv, e, K, hK => by
    cases hv with
    | cons h1 h2 =>
      cases v <;> first | (cases e; done) | skip
      rename_i k' y
      have e : (match Nat.beq (kNum k) (kNum k') with | true => maxL k vs (match zlt m y with | true => y | false => m) | false => none) = some r := e
      rw [h1.int_inv]
      split at e
      · rw [zlt_eq] at e
        simp only [List.foldlM_cons, Builtin.max2, yaab, yaah]
        have e2 : (if y > m then y else m) = (match decide (m < y) with | true => y | false => m) := by
          by_cases hlt : m < y
          · rw [if_pos hlt, decide_eq_true hlt]
          · rw [if_neg hlt, decide_eq_false hlt]
        rw [e2]
        exact yaqv h2 e K hK
      · cases e
theorem yasx {k : IntKind} : ∀ {vs us : List Value} {m r : Int} (_ : VRL φ vs us) (_ : minL k vs m = some r) (K : Value → Prop), K (.int k r) → hq P (us.foldlM Builtin.min2 (.int k m)) h K
  | [], us, m, r, hv, e, K, hK => by
    cases hv
    cases e
    exact hK
  | v :: vs, us, m, r, hv, e, K, hK => by
    cases hv with
    | cons h1 h2 =>
      cases v <;> first | (cases e; done) | skip
      rename_i k' y
      have e : (match Nat.beq (kNum k) (kNum k') with | true => minL k vs (match zlt y m with | true => y | false => m) | false => none) = some r := e
      rw [h1.int_inv]
      split at e
      · rw [zlt_eq] at e
        simp only [List.foldlM_cons, Builtin.min2, yaab, yaah]
        have e2 : (if y < m then y else m) = (match decide (y < m) with | true => y | false => m) := by
          by_cases hlt : y < m
          · rw [if_pos hlt, decide_eq_true hlt]
          · rw [if_neg hlt, decide_eq_false hlt]
        rw [e2]
        exact yasx h2 e K hK
      · cases e
theorem ybeq {g : Nat} {us : List Value} {args : Array Value} {K : Value → Hp → Prop} (ha : args = us.toArray) (hc : yaiu P g us h K) : hw P (callFunc g args) h (nextK P K) := by
  subst ha
  rcases hc with ⟨h1, h2⟩ | h2
  · exact yadp h1 _ _ _ h2
  · exact yalb h2 fun v hv => hv
theorem yatc {o : Oper} {b : Builtin} {args : Array Operand} {tys : Array TypeId} {vs : List Value} {v : Value} {H' : AH} (ho : o.op = .call { callee := .builtin b, args := args, argTypes := tys }) (hr : HR φ h0 H h) (hv : VRL φ vs (args.toList.map ρ)) (e : yaik P b tys.toList vs H = .ok v H') :
    hw P (execOp ρ o) h (nextK P (Out φ h0 H h v H')) := by
  unfold yaik at e
  split at e
  · -- a text is appended
    rename_i t t2 s b ht
    have hx : ∃ s', args.toList.map ρ = [s', .string b] ∧ VR φ s s' := by
      generalize args.toList.map ρ = us at hv
      cases hv with | cons h1 h2 => cases h2 with | cons h2 h3 => cases h3; rw [h2.str_inv]; exact ⟨_, rfl, h1⟩
    obtain ⟨s', hx, hs⟩ := hx
    simp only [execOp, ho, resolve, yaac, yaam, invoke, builtin]
    have e1 := congrArg (fun l => l[0]?) ht
    have e2 := congrArg (fun l => l[1]?) ht
    have e3 := congrArg (fun l => l[0]?) hx
    have e4 := congrArg (fun l => l[1]?) hx
    simp only [Array.getElem?_toList, List.getElem?_cons_zero, List.getElem?_cons_succ] at e1 e2
    rw [← yack] at e3 e4
    simp only [List.getElem?_cons_zero, List.getElem?_cons_succ] at e3 e4
    exact yawn (ty := o.type) (K := Out φ h0 H h v H') tys (args.map ρ) e1 e2 e3 e4 hr hs e fun u h' hu => hu
  · -- append
    rename_i t t2 s x _ ht
    have hx : ∃ s' x', args.toList.map ρ = [s', x'] ∧ VR φ s s' ∧ VR φ x x' := by
      generalize args.toList.map ρ = us at hv
      cases hv with | cons h1 h2 => cases h2 with | cons h2 h3 => cases h3; exact ⟨_, _, rfl, h1, h2⟩
    obtain ⟨s', x', hx, hs, hx2⟩ := hx
    have h1 := yats (K := Out φ h0 H h v H') hr hs hx2 e fun u h' hu => hu
    simp only [execOp, ho, resolve, yaac, yaam, invoke, builtin]
    have e1 := congrArg (fun l => l[0]?) ht
    have e2 := congrArg (fun l => l[1]?) ht
    have e3 := congrArg (fun l => l[0]?) hx
    have e4 := congrArg (fun l => l[1]?) hx
    simp only [Array.getElem?_toList, List.getElem?_cons_zero, List.getElem?_cons_succ] at e1 e2
    rw [← yack] at e3 e4
    simp only [List.getElem?_cons_zero, List.getElem?_cons_succ] at e3 e4
    refine yabq _ _ _ _ (fun u h hu => ?_) (yahh (t := t) (t2 := t2) (s := s') (x := x') _ _ e1 e2 e3 e4 h1)
    cases u <;> first | exact hu | exact hu.elim
  · -- the address of a slice
    rename_i b o n c
    have hx : ∃ x', args.toList.map ρ = [x'] ∧ VR φ (.slice (some ⟨b, o, none⟩) (n + 1) c) x' := by
      generalize args.toList.map ρ = us at hv
      cases hv with | cons h1 h2 => cases h2; exact ⟨_, rfl, h1⟩
    obtain ⟨x', hx, hx2⟩ := hx
    obtain ⟨rfl, rfl⟩ := yaax e
    simp only [execOp, ho, resolve, yaac, yaam, invoke, builtin]
    exact ybfv (by rw [← hx]; simp) hr hx2
  · -- bytes as a text
    rename_i pt it p l ht
    have hx : ∃ p' l', args.toList.map ρ = [p', l'] ∧ VR φ p p' ∧ VR φ l l' := by
      generalize args.toList.map ρ = us at hv
      cases hv with | cons h1 h2 => cases h2 with | cons h2 h3 => cases h3; exact ⟨_, _, rfl, h1, h2⟩
    obtain ⟨p', l', hx, hp, hl⟩ := hx
    simp only [execOp, ho, resolve, yaac, yaam, invoke, builtin]
    exact ybar ht (by rw [← hx]; simp) hr hp hl e
  · -- the length of a map
    rename_i t x ht
    have hx : ∃ x', args.toList.map ρ = [x'] ∧ VR φ x x' := by
      generalize args.toList.map ρ = us at hv
      cases hv with | cons h1 h2 => cases h2; exact ⟨_, rfl, h1⟩
    obtain ⟨x', hx, hx2⟩ := hx
    simp only [execOp, ho, resolve, yaac, yaam, invoke, builtin]
    have e1 := congrArg (fun l => l[0]?) ht
    have e3 := congrArg (fun l => l[0]?) hx
    simp only [Array.getElem?_toList, List.getElem?_cons_zero] at e1
    rw [← yack] at e3
    simp only [List.getElem?_cons_zero] at e3
    obtain ⟨rfl, h1⟩ := ybed (P := P) (ty := o.type) hr hx2 e tys (args.map ρ) e1 e3
    exact yabq _ _ _ _ (fun u h' ⟨hh, hu⟩ => by subst hh; exact Out.of hu hr) h1
  · -- max
    rename_i k x r
    split at e
    · rename_i m hm
      obtain ⟨rfl, rfl⟩ := yaax e
      have hx : ∃ us, args.toList.map ρ = .int k x :: us ∧ VRL φ r us := by
        generalize args.toList.map ρ = us at hv
        cases hv with | cons h1 h2 => exact ⟨_, by rw [h1.int_inv], h2⟩
      obtain ⟨us, hx, hus⟩ := hx
      simp only [execOp, ho, resolve, yaac, yaam, invoke, builtin]
      have : (args.map ρ).toList = .int k x :: us := by rw [← hx]; simp
      refine yacc _ _ _ ?_
      simp only [Builtin.max_, this]
      exact yaqv hus hm _ (Out.of (.int _ _) hr)
    · cases e
  · -- min
    rename_i k x r
    split at e
    · rename_i m hm
      obtain ⟨rfl, rfl⟩ := yaax e
      have hx : ∃ us, args.toList.map ρ = .int k x :: us ∧ VRL φ r us := by
        generalize args.toList.map ρ = us at hv
        cases hv with | cons h1 h2 => exact ⟨_, by rw [h1.int_inv], h2⟩
      obtain ⟨us, hx, hus⟩ := hx
      simp only [execOp, ho, resolve, yaac, yaam, invoke, builtin]
      have : (args.map ρ).toList = .int k x :: us := by rw [← hx]; simp
      refine yacc _ _ _ ?_
      simp only [Builtin.min_, this]
      exact yasx hus hm _ (Out.of (.int _ _) hr)
    · cases e
  · cases e
end
open Go
section
variable {P : Program} {φ : Phi} {h0 : Hp} {H : AH} {h : Hp} {L : Lay} {st : Stk} {e : En} {ρ : Operand → Value} {call : CallC}
theorem yatv {xs : List Operand} (hx : ∀ x ∈ xs, VR φ ((gE L x).run st e) (ρ x)) : ∃ f, gL L xs = .mk f ∧ VRL φ (f st e) (xs.map ρ) := by
  have h1 := gL_ok hx
  cases hg : gL L xs with | mk f => rw [hg] at h1; exact ⟨f, rfl, h1⟩
theorem yaul {o : Option Operand} (hx : ∀ x ∈ optL o, VR φ ((gE L x).run st e) (ρ x)) : ∃ f, gO L o = .mk f ∧ optR φ (f st e) (o.map ρ) := by
  have h1 := gO_ok hx
  cases hg : gO L o with | mk f => rw [hg] at h1; exact ⟨f, rfl, h1⟩
theorem ybhl {o : Oper} {v : Value} {H' : AH} (hr : HR φ h0 H h) (hcall : ybek P h0 φ call) (hρ : ∀ x ∈ opds o.op, VR φ ((gE L x).run st e) (ρ x)) (he : (cOp P L o.op).run st e H call = .ok v H') :
    hw P (execOp ρ o) h (nextK P (Out φ h0 H h v H')) := by
  generalize ho : o.op = op at hρ he
  have val : ∀ {s : Sem Value}, execOp ρ o = (do pure (.value (← s)) : Sem Next) → hw P s h (Out φ h0 H h v H') → hw P (execOp ρ o) h (nextK P (Out φ h0 H h v H')) := fun {s} h1 h2 => by rw [h1]; exact yabj _ _ _ h2
  have quiet : ∀ {s : Sem Value} {v : Value} {H' : AH}, H' = H → hq P s h (VR φ v) → hw P s h (Out φ h0 H h v H') := fun {s v H'} h1 h2 => by
    subst h1
    exact yacc _ _ _ (yacf _ _ _ _ (fun u hu => Out.of hu hr) h2)
  unfold cOp at he
  split at he
  · -- load
    rename_i t a
    obtain ⟨f, hg, hx⟩ := yabi (hρ a (by simp [opds]))
    have fin : ∀ {k : Addr → AH → RV}, onPtr (f st e) H k = .ok v H' → (∀ b oo sp m, φ b = some m → k ⟨b, oo, sp⟩ H = .ok v H' → H' = H ∧ hq P (loadVar t ⟨m.r, oo, sp⟩) h (VR φ v)) → hw P (execOp ρ o) h (nextK P (Out φ h0 H h v H')) := fun {k} h1 h2 => by
      obtain ⟨ad, h3, h4⟩ := yanh h1
      rw [h3] at hx
      obtain ⟨m, hm, hr'⟩ := hx.ptr_inv
      obtain ⟨h5, h6⟩ := h2 ad.block ad.off ad.spot m hm h4
      refine val (s := loadVar t ⟨m.r, ad.off, ad.spot⟩) ?_ (quiet h5 h6)
      unfold execOp
      rw [ho]
      simp only [hr', Instr.loadAt, Instr.sureAddr]
      rfl
    cases ha : yacx P t with
    | none => simp only [hg, ha] at he; cases he
    | some b =>
      cases b with
      | false =>
        simp only [hg, ha] at he
        exact fin he fun b oo sp m hm hk => ybap hr hm ha hk
      | true =>
        simp only [hg, ha] at he
        exact fin he fun b oo sp m hm hk => ybae hr hm ha rfl hk
  · -- the bytes of a text
    rename_i s d x
    obtain ⟨f, hg, hx⟩ := yabi (hρ x (by simp [opds]))
    cases hs : yaap P s with
    | false =>
      cases hd : elemT P d with
      | some r => simp only [hg, hs, hd] at he; cases he
      | none =>
        simp only [hg, hs, hd] at he
        obtain ⟨h1, h2⟩ := yaxo (P := P) hr hx he
        refine val (s := convert s d (ρ x)) ?_ (quiet h1 h2)
        unfold execOp; rw [ho]
    | true =>
      cases hd : elemT P d with
      | none => simp only [hg, hs, hd] at he; cases he
      | some r =>
        obtain ⟨el, sz⟩ := r
        cases sz with
        | zero => simp only [hg, hs, hd] at he; cases he
        | succ n =>
          cases n with
          | succ n => simp only [hg, hs, hd] at he; cases he
          | zero =>
            simp only [hg, hs, hd] at he
            cases hu8 : isU8 P el with
            | false => simp only [hu8] at he; cases he
            | true =>
              simp only [hu8] at he
              have hu : P.underlying el = some (.int .u8) := by
                unfold isU8 at hu8
                split at hu8
                · assumption
                · cases hu8
              refine val (s := convert s d (ρ x)) ?_ (ybfq hr hx hs hd hu he)
              unfold execOp; rw [ho]
  · -- store
    rename_i t a x
    obtain ⟨f, hg, hp⟩ := yabi (hρ a (by simp [opds]))
    obtain ⟨fx, hgx, hx⟩ := yabi (hρ x (by simp [opds]))
    have fin : ∀ {k : Addr → Value → AH → RV}, yavj (f st e) (fx st e) H k = .ok v H' → (∀ b oo sp m, φ b = some m → k ⟨b, oo, sp⟩ (fx st e) H = .ok v H' → v = undef ∧ hw P (storeVar t ⟨m.r, oo, sp⟩ (ρ x)) h (fun _ h' => Step φ φ h0 H H' h h')) → hw P (execOp ρ o) h (nextK P (Out φ h0 H h v H')) := fun {k} h1 h2 => by
      obtain ⟨ad, h3, h4⟩ := yavx h1
      rw [h3] at hp
      obtain ⟨m, hm, hr'⟩ := hp.ptr_inv
      obtain ⟨rfl, h6⟩ := h2 ad.block ad.off ad.spot m hm h4
      simp only [execOp, ho, yaac, Instr.storeAt, hr', Instr.sureAddr, yaam]
      exact yabq _ _ _ _ (fun _ _ hst => hst.out (.tup .nil)) h6
    cases ha : yacx P t with
    | none => simp only [hg, hgx, ha] at he; cases he
    | some b =>
      cases b with
      | true =>
        simp only [hg, hgx, ha] at he
        exact fin he fun b oo sp m hm hk => ybdt hr hm hx ha rfl hk
      | false =>
        cases hz : yaan P t with
        | zero => simp only [hg, hgx, ha, hz] at he; cases he
        | succ n =>
          cases n with
          | succ n => simp only [hg, hgx, ha, hz] at he; cases he
          | zero =>
            simp only [hg, hgx, ha, hz] at he
            exact fin he fun b oo sp m hm hk => ybcr hr hm hx ha hz hk
  · -- a part
    rename_i t x lo hi
    obtain ⟨f, hg, hx⟩ := yabi (hρ x (by simp [opds]))
    obtain ⟨fl, hgl, hl⟩ := yaul (o := lo) fun y hy => hρ y (by simp only [opds]; exact List.mem_cons_of_mem _ (List.mem_append_left _ hy))
    obtain ⟨fh, hgh, hh⟩ := yaul (o := hi) fun y hy => hρ y (by simp only [opds]; exact List.mem_cons_of_mem _ (List.mem_append_right _ (List.mem_append_left _ hy)))
    have ex : execOp ρ o = (do pure (.value (← Instr.sliceAt t (ρ x) (lo.map ρ) (hi.map ρ) none)) : Sem Next) := by unfold execOp; rw [ho]; rfl
    cases ht : yaap P t with
    | true =>
      simp only [hg, hgl, hgh, ht] at he
      obtain ⟨h1, h2⟩ := yaxh ht hx hl hh he
      exact val ex (quiet h1 h2)
    | false =>
      simp only [hg, hgl, hgh, ht] at he
      obtain ⟨h1, h2⟩ := yany hr hx hl hh he
      exact val ex (quiet h1 h2)
  · -- a slice with its elements
    rename_i t n parts
    obtain ⟨f, hg, hx⟩ := yatv (xs := parts.toList.map (·.2)) fun y hy => hρ y (by simpa only [opds] using hy)
    cases hel : elemT P t with
    | none => simp only [hel] at he; cases he
    | some r =>
      obtain ⟨el, sz⟩ := r
      cases hz : zerL P el with
      | none => simp only [hg, hel, hz] at he; cases he
      | some zs =>
        simp only [hg, hel, hz] at he
        cases hc : (Nat.beq (lenV0 zs) sz && okP (Nat.mul n sz) (plcA sz parts.toList) && Nat.ble (Nat.mul n sz) 100000) with
        | false => simp only [hc] at he; cases he
        | true =>
          simp only [hc] at he
          simp only [Bool.and_eq_true] at hc
          obtain ⟨⟨c1, c2⟩, c3⟩ := hc
          have := yald (P := P) (ρ := ρ) hr hel hz (Nat.eq_of_beq_eq_true c1) c2 (Nat.le_of_ble_eq_true c3) (by simpa [Function.comp_def] using hx) he
          have e1 : (parts.toList.map fun p => (p.1, ρ p.2)).toArray = parts.map fun p => (p.1, ρ p.2) := by apply Array.ext'; simp
          rw [e1] at this
          refine val ?_ this
          unfold execOp; rw [ho]
  · -- a slice that is made
    rename_i t l c
    obtain ⟨fl, hgl, hl⟩ := yabi (hρ l (by simp [opds]))
    obtain ⟨fc, hgc, hc⟩ := yabi (hρ c (by simp [opds]))
    simp only [hgl, hgc] at he
    refine val ?_ (yand hr hl hc he)
    unfold execOp; rw [ho]
  · -- a new variable
    rename_i t
    cases hz : zerL P t with
    | none => simp only [hz] at he; cases he
    | some zs =>
      simp only [hz] at he
      obtain ⟨i, z, hi, hzz, hzc, hpl⟩ := yahl hz
      have hb := ybdo (t := t) (us := zs) hr (VRL.plains hpl) he
      have := yael (P := P) (e := t) (v := z) (h := h) (K := Out φ h0 H h v H') (yajv hpl hzc hb)
      simp only [execOp, ho]
      refine yabj _ _ _ ?_
      simp only [Instr.alloc, yaac, yaaw hi hzz]
      rwa [yaac] at this
  · -- a variable with its value
    rename_i t x
    obtain ⟨f, hg, hx⟩ := yabi (hρ x (by simp [opds]))
    simp only [hg] at he
    obtain ⟨h1, h2⟩ := yawz hx he
    have hb := ybdo hr hx.cells h1
    have hb2 : boxV t (ρ x) h (Out φ h0 H h v H') := by
      unfold boxV yaft
      rcases h2 with h2 | ⟨cs, h2⟩
      · rw [h2]
        have : (ρ x).cells.toList = [ρ x] := by
          generalize ρ x = u at h2
          cases u <;> first | rfl | cases h2
        rw [this] at hb
        exact hb
      · rw [h2] at hb ⊢
        exact hb
    have := yael (P := P) hb2
    simp only [execOp, ho]
    exact yabj _ _ _ this
  · -- a map
    rename_i t
    obtain ⟨rfl, rfl⟩ := yaax he
    refine val (s := Instr.makeMap t none) ?_ ?_
    · unfold execOp; rw [ho]; rfl
    · obtain ⟨ψ, hψ, hst⟩ := hr.new (o := .map #[] 0) (k := .map [] 0) (s := 0) (z := 0) trivial fun ψ _ => ⟨#[], Array.getElem?_push_size, trivial⟩
      exact hst.out (.map hψ)
  · -- an element of a map
    rename_i t m i ok
    obtain ⟨fm, hgm, hm⟩ := yabi (hρ m (by simp [opds]))
    obtain ⟨fi, hgi, hi⟩ := yabi (hρ i (by simp [opds]))
    simp only [hgm, hgi] at he
    obtain ⟨h1, h2⟩ := yard hr hm hi he
    refine val ?_ (quiet h1 h2)
    unfold execOp; rw [ho]
  · -- a map is changed
    rename_i t m i x
    obtain ⟨fm, hgm, hm⟩ := yabi (hρ m (by simp [opds]))
    obtain ⟨fi, hgi, hi⟩ := yabi (hρ i (by simp [opds]))
    obtain ⟨fx, hgx, hx⟩ := yabi (hρ x (by simp [opds]))
    simp only [hgm, hgi, hgx] at he
    obtain ⟨rfl, h2⟩ := yalq (P := P) hr hm hi hx he
    simp only [execOp, ho, yaac]
    exact yabq _ _ _ _ (fun _ _ hst => hst.out (.tup .nil)) h2
  · -- a call
    rename_i f args tys
    obtain ⟨fa, hga, ha⟩ := yatv (xs := args.toList) fun y hy => hρ y (by simp only [opds, yadv]; exact List.mem_append_right _ hy)
    have hf := hρ f (by simp [opds, yadv])
    have go : ∀ (g : Nat) (first cap : List Value) (first' cap' : List Value), ρ f = .func (.func g) ⟨first'⟩ ⟨cap'⟩ → VRL φ first first' → VRL φ cap cap' → call g (first ++ (fa st e ++ cap)) H = .ok v H' → hw P (execOp ρ o) h (nextK P (Out φ h0 H h v H')) := fun g first cap first' cap' h1 h2 h3 h4 => by
      have hc := hcall g _ H v H' h (first' ++ (args.toList.map ρ ++ cap')) hr (h2.app (ha.app h3)) h4
      simp only [execOp, ho, resolve, yaac, h1, Deferred.ofValue, yaam, invoke]
      refine ybeq ?_ hc
      apply Array.ext'
      simp
    obtain ⟨ff, hgf, hff⟩ := yabi hf
    cases f with
    | func g =>
      simp only [hga, hgf] at he
      have h1 : VR φ (.func (.func g) #[] #[]) (ρ (.func g)) := hf
      obtain ⟨xs', ys', h2, h3, h4⟩ := h1.func_inv
      cases h3
      cases h4
      exact go g [] [] [] [] h2 .nil .nil (by rw [List.nil_append, List.append_nil]; exact he)
    | _ =>
      simp only [hga, hgf] at he
      split at he
      · rename_i g first cap hfe
        rw [hfe] at hff
        obtain ⟨xs', ys', h2, h3, h4⟩ := hff.func_inv
        exact go g first.toList cap.toList xs' ys' h2 h3 h4 he
      · cases he
  · -- a built-in function
    rename_i b args tys
    obtain ⟨fa, hga, ha⟩ := yatv (xs := args.toList) fun y hy => hρ y (by simp only [opds, yadv]; exact List.mem_append_right _ hy)
    simp only [hga] at he
    exact yatc ho hr ha he
  · cases he
end
open Go
structure RelA (φ : Phi) (lc n : Nat) (L : Lay) (st : Stk) (e : En) (a : Act) : Prop where
  size : a.tmps.size = n
  df : a.defers = []
  len : st.length = L.h
  sh : ∀ t, Nat.testBit lc t = false → VR φ ((TT.get e t).getD undef) (a.tmps.getD t undef)
  lo : ∀ t p, posL L.l t = some p → Nat.testBit lc t = true ∧ (match p with
    | .st i => i < L.h ∧ VR φ (st.getD (L.h - 1 - i) undef) (a.tmps.getD t undef)
    | .en x => Nat.testBit lc x = false ∧ VR φ ((TT.get e x).getD undef) (a.tmps.getD t undef)
    | .no => True)
section
variable {P : Program} {φ : Phi} {h0 : Hp} {H : AH} {h : Hp} {lc n : Nat} {L : Lay} {st : Stk} {e : En} {a : Act} {gl : List Nat} {call : CallC}
theorem RelA.mono {ψ : Phi} (r : RelA φ lc n L st e a) (s : Sub φ ψ) : RelA ψ lc n L st e a where
  size := r.size
  df := r.df
  len := r.len
  sh := fun t ht => (r.sh t ht).mono s
  lo := fun t p hp => by
    obtain ⟨h1, h2⟩ := r.lo t p hp
    refine ⟨h1, ?_⟩
    cases p with
    | st i => exact ⟨h2.1, h2.2.mono s⟩
    | en x => exact ⟨h2.1, h2.2.mono s⟩
    | no => trivial
theorem gS_eq : ∀ (k : Nat) (st : Stk), (gS k).run st = st.getD k undef
  | 0, [] => rfl
  | 0, _ :: _ => rfl
  | k + 1, st => by
    have e : gS (k + 1) = .mk fun st => @List.rec Value (fun _ => Value) undef (fun _ r _ => (gS k).run r) st := by
      have e0 : gS (k + 1) = (match gS k with | .mk q => .mk fun st => @List.rec Value (fun _ => Value) undef (fun _ r _ => q r) st) := rfl
      rw [e0]
    rw [e]
    cases st with
    | nil => rfl
    | cons v r =>
      show (gS k).run r = _
      rw [gS_eq k r]
      simp
theorem gV_eq (t : Nat) (st : Stk) (e : En) : (gV t).run st e = (TT.get e t).getD undef := by
  have h1 : gV t = .mk fun _ e => @Option.rec Value (fun _ => Value) undef (fun v => v) ((gT Value 3 t).run e) := by
    unfold gV
    cases gT Value 3 t; rfl
  rw [h1, TT.get_eq]
  show @Option.rec Value (fun _ => Value) undef (fun v => v) ((gT Value 3 t).run e) = _
  cases (gT Value 3 t).run e <;> rfl
theorem ybgb {v : Value} (hv : okV v = true) : VR φ v v := by
  unfold okV at hv
  rw [Bool.or_eq_true] at hv
  rcases hv with hv | hv
  · exact VR.plain hv
  · split at hv
    · exact .agg (VRL.plains hv)
    · exact .tup (VRL.plains hv)
    · cases hv
theorem gE_ok (r : RelA φ lc n L st e a) (hg : yacl φ gl) {x : Operand} (hx : okX gl lc L x = true) : VR φ ((gE L x).run st e) (a.eval x) := by
  cases x with
  | const v => exact ybgb hx
  | func f => exact .func _ .nil .nil
  | global g =>
    obtain ⟨m, h1, h2⟩ := hg g (yafs hx)
    show VR φ (.pointer (some ⟨g, 0, none⟩)) (.pointer (some ⟨g, 0, none⟩))
    have := VR.ptr (φ := φ) 0 none h1
    rwa [h2] at this
  | tmp t =>
    show VR φ _ (a.tmps.getD t undef)
    have hx : (match posL L.l t with | some (.st _) => true | some (.en _) => true | some .no => false | none => (match Nat.testBit lc t with | true => false | false => true)) = true := hx
    have hge : gE L (.tmp t) = (match posL L.l t with
      | some (.st i) => (match gS (Nat.sub L.h (Nat.succ i)) with | .mk q => .mk fun st _ => q st)
      | some (.en x) => gV x
      | some .no => .mk fun _ _ => undef
      | none => gV t) := rfl
    rw [hge]
    cases hp : posL L.l t with
    | none =>
      rw [hp] at hx
      have hlc : Nat.testBit lc t = false := by
        cases hb : Nat.testBit lc t with
        | false => rfl
        | true => simp only [hb] at hx; cases hx
      simp only []
      rw [gV_eq]
      exact r.sh t hlc
    | some p =>
      rw [hp] at hx
      obtain ⟨_, h2⟩ := r.lo t p hp
      cases p with
      | no => cases hx
      | en x =>
        simp only []
        rw [gV_eq]
        exact h2.2
      | st i =>
        simp only []
        rw [gS_eq]
        have : L.h - (i + 1) = L.h - 1 - i := by omega
        rw [show Nat.sub L.h (Nat.succ i) = L.h - 1 - i from this]
        exact h2.2
theorem yaec {a : Act} {d t : Nat} {u : Value} (hd : d < a.tmps.size) : (a.put (some d) u).tmps.getD t undef = if t = d then u else a.tmps.getD t undef := by
  simp only [Act.put]
  rw [Array.getD_eq_getD_getElem?, Array.getD_eq_getD_getElem?]
  by_cases h : t = d
  · subst h
    rw [if_pos rfl, Array.getElem?_setIfInBounds_self, if_pos hd]; rfl
  · rw [if_neg h, Array.getElem?_setIfInBounds_ne (Ne.symm h)]
theorem yadu (j : Nat) (p : Loc) (l : List (Nat × Loc)) (t : Nat) : posL ((j, p) :: l) t = if j = t then some p else posL l t := by
  show (match Nat.beq j t with | true => some p | false => posL l t) = _
  by_cases h : j = t
  · subst h; simp
  · have : Nat.beq j t = false := by cases hb : Nat.beq j t with | false => rfl | true => exact absurd (Nat.eq_of_beq_eq_true hb) h
    rw [this, if_neg h]
theorem RelA.push (r : RelA φ lc n L st e a) {d : Nat} (hd : d < n) (hl : Nat.testBit lc d = true) {v u : Value} (hv : VR φ v u) : RelA φ lc n (L.push d) (v :: st) e (a.put (some d) u) := by
  have hs : d < a.tmps.size := by rw [r.size]; exact hd
  refine ⟨by simp [Act.put, r.size], r.df, by simp [Lay.push, r.len], fun t ht => ?_, fun t p hp => ?_⟩
  · rw [yaec hs, if_neg (fun e => by subst e; rw [hl] at ht; cases ht)]
    exact r.sh t ht
  · simp only [Lay.push] at hp ⊢
    rw [yadu] at hp
    split at hp
    · rename_i he
      subst he
      cases hp
      refine ⟨hl, Nat.lt_succ_self _, ?_⟩
      rw [yaec hs, if_pos rfl]
      have : Nat.succ L.h - 1 - L.h = 0 := by omega
      rw [this]
      exact hv
    · rename_i hne
      obtain ⟨h1, h2⟩ := r.lo t p hp
      refine ⟨h1, ?_⟩
      rw [yaec hs, if_neg (Ne.symm hne)]
      cases p with
      | no => trivial
      | en x => exact h2
      | st i =>
        refine ⟨Nat.lt_succ_of_lt h2.1, ?_⟩
        have e1 : Nat.succ L.h - 1 - i = (L.h - 1 - i) + 1 := by have := h2.1; omega
        rw [e1]
        simpa using h2.2
theorem yaff (x : Nat) : ∀ (l : List (Nat × Loc)) (t : Nat) (p : Loc), posL (noEn x l) t = some p → p = .no ∧ (∃ q, posL l t = some q) ∨ (posL l t = some p ∧ p ≠ .en x)
  | [], _, _, h => by cases h
  | (j, .en y) :: r, t, p, h => by
    have e : noEn x ((j, .en y) :: r) = (match Nat.beq x y with | true => (j, .no) :: noEn x r | false => (j, .en y) :: noEn x r) := rfl
    rw [e] at h
    rw [yadu]
    cases hb : Nat.beq x y with
    | true =>
      rw [hb] at h
      simp only [] at h
      rw [yadu] at h
      split at h
      · rename_i he; cases h; rw [if_pos he]; exact .inl ⟨rfl, _, rfl⟩
      · rename_i he; rw [if_neg he]; exact yaff x r t p h
    | false =>
      rw [hb] at h
      simp only [] at h
      rw [yadu] at h
      split at h
      · rename_i he
        cases h
        rw [if_pos he]
        refine .inr ⟨rfl, fun hc => ?_⟩
        cases hc
        simp at hb
      · rename_i he; rw [if_neg he]; exact yaff x r t p h
  | (j, .st i) :: r, t, p, h => by
    have h : posL ((j, .st i) :: noEn x r) t = some p := h
    rw [yadu] at h ⊢
    split at h
    · rename_i he; cases h; rw [if_pos he]; exact .inr ⟨rfl, fun hc => by cases hc⟩
    · rename_i he; rw [if_neg he]; exact yaff x r t p h
  | (j, .no) :: r, t, p, h => by
    have h : posL ((j, .no) :: noEn x r) t = some p := h
    rw [yadu] at h ⊢
    split at h
    · rename_i he; cases h; rw [if_pos he]; exact .inl ⟨rfl, _, rfl⟩
    · rename_i he; rw [if_neg he]; exact yaff x r t p h
theorem RelA.put (r : RelA φ lc n L st e a) {d : Nat} (hd : d < n) (h5 : d ≤ 511) (hl : Nat.testBit lc d = false) {v u : Value} (hv : VR φ v u) : RelA φ lc n (L.kill d) st (TT.set e d (some v)) (a.put (some d) u) := by
  have hs : d < a.tmps.size := by rw [r.size]; exact hd
  have hset := fun i => (TT.set_get e d i (some v)).1 (by omega)
  refine ⟨by simp [Act.put, r.size], r.df, r.len, fun t ht => ?_, fun t p hp => ?_⟩
  · rw [yaec hs, hset]
    by_cases he : t = d
    · rw [if_pos he, if_pos he]; exact hv
    · rw [if_neg he, if_neg he]; exact r.sh t ht
  · have key : ∀ q, posL L.l t = some q → Nat.testBit lc t = true := fun q hq => (r.lo t q hq).1
    have hne : ∀ q, posL L.l t = some q → t ≠ d := fun q hq he => by
      have := key q hq
      rw [he, hl] at this; cases this
    rcases yaff d L.l t p hp with ⟨rfl, q, hq⟩ | ⟨hq, hp2⟩
    · exact ⟨key q hq, trivial⟩
    · obtain ⟨h1, h2⟩ := r.lo t p hq
      refine ⟨h1, ?_⟩
      rw [yaec hs, if_neg (hne p hq)]
      cases p with
      | no => trivial
      | st i => exact h2
      | en x =>
        have hxd : x ≠ d := fun he => hp2 (by rw [he])
        refine ⟨h2.1, ?_⟩
        rw [hset, if_neg hxd]
        exact h2.2
theorem yasv {o : Oper} {rest : List Oper} {L' : Lay} (r : RelA φ lc n L st e a) (hm : moveL lc L o rest = some L') (hd : ∀ d, o.dst = some d → d < n) :
    o.guard = none ∧ ∃ x d, o.op = .move (.tmp x) ∧ o.dst = some d ∧ RelA φ lc n L' st e (a.put (some d) (a.tmps.getD x undef)) := by
  unfold moveL at hm
  split at hm
  · rename_i x d ho hg hdst
    refine ⟨hg, x, d, ho, hdst, ?_⟩
    have hdn := hd d hdst
    have hs : d < a.tmps.size := by rw [r.size]; exact hdn
    have fin : ∀ p, Nat.testBit lc d = true → L' = ⟨L.h, (d, p) :: L.l⟩ → (match p with
        | .st i => i < L.h ∧ VR φ (st.getD (L.h - 1 - i) undef) (a.tmps.getD x undef)
        | .en y => Nat.testBit lc y = false ∧ VR φ ((TT.get e y).getD undef) (a.tmps.getD x undef)
        | .no => True) → RelA φ lc n L' st e (a.put (some d) (a.tmps.getD x undef)) := fun p hl hL hp => by
      subst hL
      refine ⟨by simp [Act.put, r.size], r.df, r.len, fun t ht => ?_, fun t q hq => ?_⟩
      · rw [yaec hs, if_neg (fun e => by subst e; rw [hl] at ht; cases ht)]
        exact r.sh t ht
      · simp only [] at hq
        rw [yadu] at hq
        split at hq
        · rename_i he
          subst he
          cases hq
          refine ⟨hl, ?_⟩
          rw [yaec hs, if_pos rfl]
          exact hp
        · rename_i hne
          obtain ⟨h1, h2⟩ := r.lo t q hq
          refine ⟨h1, ?_⟩
          rw [yaec hs, if_neg (Ne.symm hne)]
          exact h2
    split at hm
    · rename_i p hl hp
      cases hm
      exact fin p hl rfl (r.lo x p hp).2
    · rename_i hl hp
      split at hm
      · cases hm
      · rename_i hc
        cases hm
        rw [Bool.or_eq_false_iff] at hc
        exact fin (.en x) hl rfl ⟨hc.2, r.sh x hc.2⟩
    · cases hm
  · cases hm
end
open Go
section
variable {P : Program} {φ : Phi} {h0 : Hp} {H : AH} {h : Hp} {lc n : Nat} {L : Lay} {st : Stk} {e : En} {a : Act} {gl : List Nat} {call : CallC} {all : List Oper}
def OkC (r : RC) : Prop := ∃ x e H, r = .ok x e H
def OpR (P : Program) (L : Lay) (st : Stk) (e : En) (H : AH) (call : CallC) (op : Op) (v : Value) (H' : AH) : Prop :=
  (∃ F, pOp P L op = some F ∧ F.run st e = .ok v ∧ H' = H) ∨ (pOp P L op = none ∧ (cOp P L op).run st e H call = .ok v H')
def GdY (L : Lay) (st : Stk) (e : En) (all : List Oper) (g : Option (Nat × Bool)) (y : Gd) : Prop := match g with
  | none => y = .yes
  | some _ => ∃ q want, grd L all g = some (.mk q, want) ∧ gdv (q st e) want = y
noncomputable def cont (P : Program) (gl : List Nat) (n lc : Nat) (all r : List Oper) (L : Lay) (k : Lay → Bx RF) (st : Stk) (e : En) (H : AH) (call : CallC) (dst : Option Nat) (v : Value) : RC :=
  match dst with
  | none => (cOps P gl n lc all r L k).run st e H call
  | some d => (match Nat.testBit lc d with
    | true => (cOps P gl n lc all r (L.push d) k).run (v :: st) e H call
    | false => (cOps P gl n lc all r (L.kill d) k).run st (TT.set e d (some v)) H call)
theorem yakq (L : Lay) (all : List Oper) (g : Nat × Bool) : ∃ q want, grd L all (some g) = some (.mk q, want) := by
  obtain ⟨j, want⟩ := g
  unfold grd
  split
  · cases ‹some _ = none›
  · rename_i j' w' heq
    cases heq
    split
    · split
      · rename_i d _
        cases hg : gE L (.tmp d) with | mk f => exact ⟨f, _, rfl⟩
      · exact ⟨_, _, rfl⟩
    · exact ⟨_, _, rfl⟩
theorem ybez (e : En) (d : Nat) (x : Option Value) : (sT Value 3 d).run e x = TT.set e d x := (TT.set_eq e d x).symm
theorem yapk {o : Oper} {r : List Oper} {k : Lay → Bx RF} {res : RC} (hres : OkC res) (hok : okS gl n lc L all o = true) (hm : moveL lc L o r = none) (hr : (cOps P gl n lc all (o :: r) L k).run st e H call = res) :
    (∃ v H', OpR P L st e H call o.op v H' ∧ GdY L st e all o.guard .yes ∧ cont P gl n lc all r L k st e H' call o.dst v = res) ∨ (GdY L st e all o.guard .no ∧ cont P gl n lc all r L k st e H call o.dst undef = res) := by
  obtain ⟨rx, re, rH, hres⟩ := hres
  subst hres
  unfold cOps at hr
  simp only [hok, hm] at hr
  -- what an effect or a value hands on
  have ro : ∀ {R : RO} {g : Value → RC}, @RO.rec (fun _ => RF) (fun v st e H call => g v) (fun l _ _ _ _ => .er l) R st e H call = .ok rx re rH → ∃ v, R = .ok v ∧ g v = .ok rx re rH := fun {R g} h => by
    cases R with
    | ok v => exact ⟨v, rfl, h⟩
    | er l => cases h
  cases hd : o.dst with
  | none =>
    simp only [hd] at hr
    cases hc : cOps P gl n lc all r L k with | mk g =>
    cases hp : pOp P L o.op with
    | some F => simp only [hc, hp] at hr; cases hr
    | none =>
      cases hco : cOp P L o.op with | mk f =>
      cases hgd : o.guard with
      | some gg =>
        obtain ⟨q, want, hq⟩ := yakq L all gg
        simp only [hc, hp, hco, hgd, hq] at hr
        cases hr
      | none =>
        have hg0 : grd L all none = none := rfl
        simp only [hc, hp, hco, hgd, hg0] at hr
        cases hf : f st e H call with
        | er l => simp only [hf] at hr; cases hr
        | ok v H' =>
          simp only [hf] at hr
          refine .inl ⟨v, H', .inr ⟨hp, by rw [hco]; exact hf⟩, rfl, ?_⟩
          simp only [cont, hc]
          exact hr
  | some d =>
    simp only [hd] at hr
    cases hl : Nat.testBit lc d with
    | true =>
      simp only [hl] at hr
      cases hc : cOps P gl n lc all r (L.push d) k with | mk g =>
      cases hgd : o.guard with
      | none =>
        have hg0 : grd L all none = none := rfl
        cases hp : pOp P L o.op with
        | some F =>
          obtain ⟨f⟩ := F
          simp only [hc, hp, hgd, hg0] at hr
          cases hf : f st e with
          | er l => simp only [hf] at hr; cases hr
          | ok v =>
            simp only [hf] at hr
            refine .inl ⟨v, H, .inl ⟨_, hp, hf, rfl⟩, rfl, ?_⟩
            simp only [cont, hl, hc]
            exact hr
        | none =>
          cases hco : cOp P L o.op with | mk f =>
          simp only [hc, hp, hco, hgd, hg0] at hr
          cases hf : f st e H call with
          | er l => simp only [hf] at hr; cases hr
          | ok v H' =>
            simp only [hf] at hr
            refine .inl ⟨v, H', .inr ⟨hp, by rw [hco]; exact hf⟩, rfl, ?_⟩
            simp only [cont, hl, hc]
            exact hr
      | some gg =>
        obtain ⟨q, want, hq⟩ := yakq L all gg
        cases hp : pOp P L o.op with
        | some F =>
          obtain ⟨f⟩ := F
          simp only [hc, hp, hgd, hq] at hr
          cases hy : gdv (q st e) want with
          | bad => simp only [hy] at hr; cases hr
          | no =>
            simp only [hy] at hr
            refine .inr ⟨⟨q, want, hq, hy⟩, ?_⟩
            simp only [cont, hl, hc]
            exact hr
          | yes =>
            simp only [hy] at hr
            cases hf : f st e with
            | er l => simp only [hf] at hr; cases hr
            | ok v =>
              simp only [hf] at hr
              refine .inl ⟨v, H, .inl ⟨_, hp, hf, rfl⟩, ⟨q, want, hq, hy⟩, ?_⟩
              simp only [cont, hl, hc]
              exact hr
        | none =>
          cases hco : cOp P L o.op with | mk f =>
          simp only [hc, hp, hco, hgd, hq] at hr
          cases hy : gdv (q st e) want with
          | bad => simp only [hy] at hr; cases hr
          | no =>
            simp only [hy] at hr
            refine .inr ⟨⟨q, want, hq, hy⟩, ?_⟩
            simp only [cont, hl, hc]
            exact hr
          | yes =>
            simp only [hy] at hr
            cases hf : f st e H call with
            | er l => simp only [hf] at hr; cases hr
            | ok v H' =>
              simp only [hf] at hr
              refine .inl ⟨v, H', .inr ⟨hp, by rw [hco]; exact hf⟩, ⟨q, want, hq, hy⟩, ?_⟩
              simp only [cont, hl, hc]
              exact hr
    | false =>
      simp only [hl] at hr
      cases hc : cOps P gl n lc all r (L.kill d) k with | mk g =>
      cases hs : sT Value 3 d with | mk s =>
      have hset : ∀ x, s e x = TT.set e d x := fun x => by rw [← ybez, hs]
      cases hgd : o.guard with
      | none =>
        have hg0 : grd L all none = none := rfl
        cases hp : pOp P L o.op with
        | some F =>
          obtain ⟨f⟩ := F
          simp only [hc, hp, hgd, hg0, hs] at hr
          cases hf : f st e with
          | er l => simp only [hf] at hr; cases hr
          | ok v =>
            simp only [hf] at hr
            refine .inl ⟨v, H, .inl ⟨_, hp, hf, rfl⟩, rfl, ?_⟩
            simp only [cont, hl, hc, ← hset]
            exact hr
        | none =>
          cases hco : cOp P L o.op with | mk f =>
          simp only [hc, hp, hco, hgd, hg0, hs] at hr
          cases hf : f st e H call with
          | er l => simp only [hf] at hr; cases hr
          | ok v H' =>
            simp only [hf] at hr
            refine .inl ⟨v, H', .inr ⟨hp, by rw [hco]; exact hf⟩, rfl, ?_⟩
            simp only [cont, hl, hc, ← hset]
            exact hr
      | some gg =>
        obtain ⟨q, want, hq⟩ := yakq L all gg
        cases hp : pOp P L o.op with
        | some F =>
          obtain ⟨f⟩ := F
          simp only [hc, hp, hgd, hq, hs] at hr
          cases hy : gdv (q st e) want with
          | bad => simp only [hy] at hr; cases hr
          | no =>
            simp only [hy] at hr
            refine .inr ⟨⟨q, want, hq, hy⟩, ?_⟩
            simp only [cont, hl, hc, ← hset]
            exact hr
          | yes =>
            simp only [hy] at hr
            cases hf : f st e with
            | er l => simp only [hf] at hr; cases hr
            | ok v =>
              simp only [hf] at hr
              refine .inl ⟨v, H, .inl ⟨_, hp, hf, rfl⟩, ⟨q, want, hq, hy⟩, ?_⟩
              simp only [cont, hl, hc, ← hset]
              exact hr
        | none =>
          cases hco : cOp P L o.op with | mk f =>
          simp only [hc, hp, hco, hgd, hq, hs] at hr
          cases hy : gdv (q st e) want with
          | bad => simp only [hy] at hr; cases hr
          | no =>
            simp only [hy] at hr
            refine .inr ⟨⟨q, want, hq, hy⟩, ?_⟩
            simp only [cont, hl, hc, ← hset]
            exact hr
          | yes =>
            simp only [hy] at hr
            cases hf : f st e H call with
            | er l => simp only [hf] at hr; cases hr
            | ok v H' =>
              simp only [hf] at hr
              refine .inl ⟨v, H', .inr ⟨hp, by rw [hco]; exact hf⟩, ⟨q, want, hq, hy⟩, ?_⟩
              simp only [cont, hl, hc, ← hset]
              exact hr
theorem op_hw {o : Oper} {v : Value} {H' : AH} (r : RelA φ lc n L st e a) (hg : yacl φ gl) (hr : HR φ h0 H h) (hcall : CallS P h0 gl call) (hok : okS gl n lc L all o = true) (hv : OpR P L st e H call o.op v H') : hw P (execOp a.eval o) h (nextK P (Out φ h0 H h v H')) := by
  unfold okS at hok
  simp only [Bool.and_eq_true] at hok
  have hρ : ∀ x ∈ opds o.op, VR φ ((gE L x).run st e) (a.eval x) := fun x hx => gE_ok r hg (yaat hok.1.1 x hx)
  rcases hv with ⟨F, hp, hf, rfl⟩ | ⟨_, hf⟩
  · refine yacc _ _ _ (yacf _ _ _ _ (fun x hx => ?_) (yazg (P := P) (h := h) hρ hp hf))
    obtain ⟨u, rfl, hu⟩ := hx
    exact Out.of hu hr
  · exact ybhl hr (hcall φ hg) hρ hf
theorem yaeq {o : Oper} (hok : okS gl n lc L all o = true) {d : Nat} (hd : o.dst = some d) : d < n ∧ d ≤ 511 := by
  unfold okS at hok
  simp only [Bool.and_eq_true, hd] at hok
  exact ⟨Nat.le_of_ble_eq_true hok.2.1, Nat.le_of_ble_eq_true hok.2.2⟩
def gdB : Gd → Bool | .yes => true | _ => false
theorem yahg {o : Oper} {y : Gd} (r : RelA φ lc n L st e a) (hg : yacl φ gl) (hok : okS gl n lc L all o = true) (hy : GdY L st e all o.guard y) (hyb : y ≠ .bad) : Region.wanted o (yielded all.toArray a.tmps) = gdB y := by
  unfold Region.wanted
  cases hgd : o.guard with
  | none => rw [hgd] at hy; cases hy; rfl
  | some gg =>
    obtain ⟨j, want⟩ := gg
    rw [hgd] at hy
    obtain ⟨q, w', hq, hv⟩ := hy
    simp only []
    unfold okS at hok
    simp only [Bool.and_eq_true] at hok
    have hokg := hok.1.2
    rw [hgd] at hokg
    unfold okG at hokg
    unfold grd at hq
    simp only [] at hokg hq
    have gtup : ∀ {w : Bool}, gdv (.tuple #[]) w = y → y = .no := fun h => h.symm
    cases hn : nth all j with
    | none =>
      rw [hn] at hq
      cases hq
      have hy0 := gtup hv
      subst hy0
      have : yielded all.toArray a.tmps j = none := by
        unfold yielded
        rw [yacg] at hn
        have : (all.toArray[j]?).bind (·.dst) = none := by simp [hn]
        rw [this]; rfl
      rw [this]
      cases want <;> rfl
    | some oj =>
      rw [hn] at hq hokg
      simp only [] at hq hokg
      cases hdj : oj.dst with
      | none =>
        rw [hdj] at hq
        cases hq
        have hy0 := gtup hv
        subst hy0
        have : yielded all.toArray a.tmps j = none := by
          unfold yielded
          rw [yacg] at hn
          have : (all.toArray[j]?).bind (·.dst) = none := by simp [hn, hdj]
          rw [this]; rfl
        rw [this]
        cases want <;> rfl
      | some d =>
        rw [hdj] at hq hokg
        simp only [] at hq hokg
        have hx := gE_ok r hg (x := .tmp d) hokg
        cases hge : gE L (.tmp d) with | mk f =>
        rw [hge] at hq hx
        cases hq
        have hx : VR φ (f st e) (a.tmps.getD d undef) := hx
        have hyl : yielded all.toArray a.tmps j = (match a.tmps[d]? with | some (.bool b) => some b | _ => none) := by
          unfold yielded
          rw [yacg] at hn
          have : (all.toArray[j]?).bind (·.dst) = some d := by simp [hn, hdj]
          rw [this]
          rfl
        rw [hyl]
        have hgd' : a.tmps.getD d undef = (a.tmps[d]?).getD undef := Array.getD_eq_getD_getElem? ..
        rw [hgd'] at hx
        have hv : gdv (f st e) want = y := hv
        cases hqe : f st e <;> rw [hqe] at hv hx <;> first | (exact absurd hv.symm hyb) | skip
        · rename_i b
          have hb := hx.bool_inv
          cases ht : a.tmps[d]? with
          | none => rw [ht] at hb; cases hb
          | some u =>
            rw [ht] at hb
            have hb : u = .bool b := hb
            subst hb
            cases b <;> cases want <;> (cases hv; rfl)
        · have hv : Gd.no = y := hv
          subst hv
          obtain ⟨ys, hys, _⟩ := hx.tup_inv
          cases ht : a.tmps[d]? with
          | none => rfl
          | some u =>
            rw [ht] at hys
            have hys : u = .tuple ⟨ys⟩ := hys
            subst hys
            rfl
theorem yaxx {k : Lay → Bx RF} {res : RC} (hres : OkC res) (hcall : CallS P h0 gl call) : ∀ (r : List Oper) (L : Lay) (st : Stk) (e : En) (H : AH) (φ : Phi) (a : Act) (w : World), RelA φ lc n L st e a → yacl φ gl → HR φ h0 H w.heap → (cOps P gl n lc all r L k).run st e H call = res →
    wpList P all.toArray (fun ex a1 w1 => ex = .normal ∧ Same w w1 ∧ ∃ φ1 L1 st1 e1 H1, Step φ φ1 h0 H H1 w.heap w1.heap ∧ RelA φ1 lc n L1 st1 e1 a1 ∧ (k L1).run st1 e1 H1 call = res) r a w
  | [], L, st, e, H, φ, a, w, ra, hg, hr, he => ⟨rfl, Same.refl w, φ, L, st, e, H, Step.refl hr, ra, he⟩
  | o :: r, L, st, e, H, φ, a, w, ra, hg, hr, he => by
    cases hok : okS gl n lc L all o with
    | false =>
      unfold cOps at he
      simp only [hok] at he
      obtain ⟨x, e', H', hres⟩ := hres
      rw [hres] at he; cases he
    | true =>
      have nxt : ∀ {ψ : Phi} {H2 : AH} {L2 : Lay} {st2 : Stk} {e2 : En} {a2 : Act} {w2 : World}, Same w w2 → Step φ ψ h0 H H2 w.heap w2.heap → RelA ψ lc n L2 st2 e2 a2 → (cOps P gl n lc all r L2 k).run st2 e2 H2 call = res →
          wpList P all.toArray (fun ex a1 w1 => ex = .normal ∧ Same w w1 ∧ ∃ φ1 L1 st1 e1 H1, Step φ φ1 h0 H H1 w.heap w1.heap ∧ RelA φ1 lc n L1 st1 e1 a1 ∧ (k L1).run st1 e1 H1 call = res) r a2 w2 := fun {ψ H2 L2 st2 e2 a2 w2} hs hst ra2 he2 => by
        refine yado (fun ex a1 w1 hp => ?_) _ _ _ (yaxx hres hcall r L2 st2 e2 H2 ψ a2 w2 ra2 (hg.mono hst.sub) hst.hr he2)
        obtain ⟨h1, h2, φ1, L1, st1, e1, H1, h3, h4, h5⟩ := hp
        exact ⟨h1, hs.trans h2, φ1, L1, st1, e1, H1, hst.trans hr h3, h4, h5⟩
      unfold wpList
      cases hm : moveL lc L o r with
      | some L' =>
        obtain ⟨hgd, x, d, hop, hd, ra2⟩ := yasv ra hm (fun d hd => (yaeq hok hd).1)
        have hw : Region.wanted o (yielded all.toArray a.tmps) = true := by unfold Region.wanted; rw [hgd]
        rw [if_pos hw]
        refine .inl (yagh (K := fun u h' => u = a.tmps.getD x undef ∧ h' = w.heap) ?_ fun u w' hs hk => ?_)
        · simp only [execOp, hop]
          exact ⟨rfl, rfl⟩
        · obtain ⟨rfl, hh⟩ := hk
          rw [hd]
          refine nxt hs (by rw [hh]; exact Step.refl hr) ra2 ?_
          unfold cOps at he
          simp only [hok, hm] at he
          exact he
      | none =>
        rcases yapk hres hok hm he with ⟨v, H', hv, hy, hc⟩ | ⟨hy, hc⟩
        · have hw : Region.wanted o (yielded all.toArray a.tmps) = true := yahg ra hg hok hy (by intro h; cases h)
          rw [if_pos hw]
          refine .inl (yagh (op_hw ra hg hr hcall hok hv) fun u w' hs hk => ?_)
          obtain ⟨ψ, hst, hvr⟩ := hk
          cases hd : o.dst with
          | none =>
            rw [hd] at hc
            exact nxt hs hst (ra.mono hst.sub) hc
          | some d =>
            rw [hd] at hc
            unfold cont at hc
            simp only [] at hc
            obtain ⟨d1, d2⟩ := yaeq hok hd
            cases hl : Nat.testBit lc d with
            | true => simp only [hl] at hc; exact nxt hs hst ((ra.mono hst.sub).push d1 hl hvr) hc
            | false => simp only [hl] at hc; exact nxt hs hst ((ra.mono hst.sub).put d1 d2 hl hvr) hc
        · have hw : Region.wanted o (yielded all.toArray a.tmps) = false := yahg ra hg hok hy (by intro h; cases h)
          rw [if_neg (by rw [hw]; simp)]
          cases hd : o.dst with
          | none =>
            rw [hd] at hc
            exact nxt (Same.refl w) (Step.refl hr) ra hc
          | some d =>
            rw [hd] at hc
            unfold cont at hc
            simp only [] at hc
            obtain ⟨d1, d2⟩ := yaeq hok hd
            cases hl : Nat.testBit lc d with
            | true => simp only [hl] at hc; exact nxt (Same.refl w) (Step.refl hr) (ra.push d1 hl (.tup .nil)) hc
            | false => simp only [hl] at hc; exact nxt (Same.refl w) (Step.refl hr) (ra.put d1 d2 hl (.tup .nil)) hc
end
open Go
theorem yabl {a b : Bool} (h : andR2 a b = true) : a = true ∧ b = true := by cases a <;> cases b <;> first | (cases h; done) | exact ⟨rfl, rfl⟩
theorem yaoe {a b : Bool} (h : eqBB a b = true) : a = b := by cases a <;> cases b <;> first | rfl | (cases h; done)
theorem ybat {a b : IntKind} (h : eqK a b = true) : a = b := by
  have h := Nat.eq_of_beq_eq_true h
  cases a <;> cases b <;> first | rfl | (cases h; done)
theorem yayv {a b : Int} (h : eqI a b = true) : a = b := by
  cases a <;> cases b <;> first | (have := Nat.eq_of_beq_eq_true h; subst this; rfl) | (cases h; done)
theorem yanw {a b : Option Nat} (h : eqON a b = true) : a = b := by
  cases a <;> cases b <;> first | rfl | (have := Nat.eq_of_beq_eq_true h; subst this; rfl) | (cases h; done)
theorem yayx {a b : Addr} (h : eqA a b = true) : a = b := by
  obtain ⟨x, o, s⟩ := a; obtain ⟨x', o', s'⟩ := b
  obtain ⟨h1, h2⟩ := yabl h
  obtain ⟨h2, h3⟩ := yabl h2
  have h1 := Nat.eq_of_beq_eq_true h1
  have h2 := Nat.eq_of_beq_eq_true h2
  have h3 := yanw h3
  subst h1; subst h2; subst h3; rfl
theorem yapf {a b : Option Addr} (h : eqOA a b = true) : a = b := by
  cases a <;> cases b <;> first | rfl | (have := yayx h; subst this; rfl) | (cases h; done)
theorem yasz : ∀ {a b : List UInt8}, eqU a b = true → a = b
  | [], [], _ => rfl
  | [], _ :: _, h => by cases h
  | _ :: _, [], h => by cases h
  | x :: a, y :: b, h => by
    unfold eqU at h
    split at h
    · rename_i hb
      have h1 := Nat.eq_of_beq_eq_true hb
      have : x = y := UInt8.toNat_inj.mp h1
      rw [this, yasz h]
    · cases h
theorem yaza {a b : List UInt8} (h : eqS a b = true) : a = b := yasz (by rw [← yavy]; exact h)
def Firm (φ : Phi) (v : Value) : Prop := ∀ u u', VR φ v u → VR φ v u' → u = u'
theorem ybav {φ : Phi} {p : Option Addr} {n c : Nat} (h : frS p c = true) : Firm φ (.slice p n c) := by
  intro u u' h1 h2
  cases p with
  | none =>
    obtain ⟨_, rfl⟩ := h1.sl0_inv
    obtain ⟨_, rfl⟩ := h2.sl0_inv
    rfl
  | some a =>
    obtain ⟨b, o, s⟩ := a
    cases s with
    | some s => cases h
    | none =>
      obtain ⟨m, c1, hm, rfl, h3⟩ := h1.sl_inv
      obtain ⟨m', c2, hm', rfl, h4⟩ := h2.sl_inv
      rw [hm] at hm'
      cases hm'
      have : c1 = c2 := by
        rcases Nat.mod_two_eq_zero_or_one c with hc | hc
        · obtain ⟨a1, a2⟩ := h3.2.1 hc
          obtain ⟨b1, b2⟩ := h4.2.1 hc
          exact Nat.eq_of_mul_eq_mul_right a1 (by omega)
        · rw [h3.1 hc, h4.1 hc]
      rw [this]
theorem yadm {φ : Phi} {a b : Value} (h : eq0 a b = true) : a = b ∧ Firm φ a := by
  cases a with
  | bool x =>
    cases b with
    | bool y => have := yaoe h; subst this; exact ⟨rfl, fun u u' h1 h2 => by rw [h1.bool_inv, h2.bool_inv]⟩
    | _ => cases h
  | int k n =>
    cases b with
    | int k' n' =>
      obtain ⟨h1, h2⟩ := yabl h
      have h1 := ybat h1; have h2 := yayv h2
      subst h1; subst h2
      exact ⟨rfl, fun u u' h1 h2 => by rw [h1.int_inv, h2.int_inv]⟩
    | _ => cases h
  | string s =>
    cases b with
    | string t =>
      have h1 := yaza (show eqS (bl s) (bl t) = true from h)
      have : s = t := by
        obtain ⟨⟨s⟩⟩ := s; obtain ⟨⟨t⟩⟩ := t
        have h1 : s = t := h1
        rw [h1]
      subst this
      exact ⟨rfl, fun u u' h1 h2 => by rw [h1.str_inv, h2.str_inv]⟩
    | _ => cases h
  | pointer p =>
    cases b with
    | pointer q =>
      have := yapf (show eqOA p q = true from h)
      subst this
      refine ⟨rfl, fun u u' h1 h2 => ?_⟩
      cases p with
      | none => rw [h1.ptr0_inv, h2.ptr0_inv]
      | some a =>
        obtain ⟨m, hm, rfl⟩ := h1.ptr_inv
        obtain ⟨m', hm', rfl⟩ := h2.ptr_inv
        rw [hm] at hm'
        cases hm'
        rfl
    | _ => cases h
  | slice p n c =>
    cases b with
    | slice p' n' c' =>
      obtain ⟨h1, h2⟩ := yabl h
      obtain ⟨h1, h3⟩ := yabl h1
      obtain ⟨h2, h4⟩ := yabl h2
      have h1 := yapf h1
      have h2 := Nat.eq_of_beq_eq_true h2
      have h4 := Nat.eq_of_beq_eq_true h4
      subst h1; subst h2; subst h4
      exact ⟨rfl, ybav h3⟩
    | _ => cases h
  | map p =>
    cases b with
    | map q =>
      have := yanw (show eqON p q = true from h)
      subst this
      refine ⟨rfl, fun u u' h1 h2 => ?_⟩
      cases p with
      | none => rw [h1.map0_inv, h2.map0_inv]
      | some a =>
        obtain ⟨m, hm, rfl⟩ := h1.map_inv
        obtain ⟨m', hm', rfl⟩ := h2.map_inv
        rw [hm] at hm'
        cases hm'
        rfl
    | _ => cases h
  | nilFunc =>
    cases b with
    | nilFunc => exact ⟨rfl, fun u u' h1 h2 => by cases h1; cases h2; rfl⟩
    | _ => cases h
  | nilIface =>
    cases b with
    | nilIface => exact ⟨rfl, fun u u' h1 h2 => by cases h1; cases h2; rfl⟩
    | _ => cases h
  | _ => cases h
theorem yagy {φ : Phi} : ∀ {a b : List Value}, eqL0 a b = true → a = b ∧ ∀ us us', VRL φ a us → VRL φ a us' → us = us'
  | [], [], _ => ⟨rfl, fun us us' h1 h2 => by cases h1; cases h2; rfl⟩
  | [], _ :: _, h => by cases h
  | _ :: _, [], h => by cases h
  | v :: a, u :: b, h => by
    obtain ⟨h1, h2⟩ := yabl (show andR2 (eq0 v u) (eqL0 a b) = true from h)
    obtain ⟨rfl, f1⟩ := yadm (φ := φ) h1
    obtain ⟨rfl, f2⟩ := yagy (φ := φ) h2
    refine ⟨rfl, fun us us' h1 h2 => ?_⟩
    cases h1 with
    | cons a1 a2 =>
      cases h2 with
      | cons b1 b2 => rw [f1 _ _ a1 b1, f2 _ _ a2 b2]
theorem yavr {a b : Fn} (h : eqFn a b = true) : a = b := by
  cases a with
  | func f => cases b with
    | func g => rw [Nat.eq_of_beq_eq_true (show Nat.beq f g = true from h)]
    | _ => cases h
  | _ => cases h
theorem yaru {φ : Phi} {f f2 : Fn} {x y x2 y2 : Array Value} (h : andR2 (eqFn f f2) (andR2 (eqL0 x.toList x2.toList) (eqL0 y.toList y2.toList)) = true) : Value.func f x y = .func f2 x2 y2 ∧ Firm φ (.func f x y) := by
  obtain ⟨h1, h2⟩ := yabl h
  obtain ⟨h2, h3⟩ := yabl h2
  have h1 := yavr h1
  obtain ⟨a1, a2⟩ := yagy (φ := φ) h2
  obtain ⟨b1, b2⟩ := yagy (φ := φ) h3
  subst h1
  refine ⟨?_, fun u u' h3 h4 => ?_⟩
  · cases x; cases y; cases x2; cases y2
    simp only at a1 b1
    rw [a1, b1]
  · obtain ⟨xs, ys, rfl, h5, h6⟩ := h3.func_inv
    obtain ⟨xs', ys', rfl, h7, h8⟩ := h4.func_inv
    rw [a2 _ _ h5 h7, b2 _ _ h6 h8]
theorem yadn {φ : Phi} {a b : Value} (h : eq1 a b = true) : a = b ∧ Firm φ a := by
  have agg : ∀ {x y : Array Value}, eqL0 x.toList y.toList = true → x = y ∧ (Firm φ (.agg x) ∧ Firm φ (.tuple x)) := fun {x y} h => by
    obtain ⟨h1, h2⟩ := yagy (φ := φ) h
    refine ⟨by cases x; cases y; simp only at h1; rw [h1], fun u u' h3 h4 => ?_, fun u u' h3 h4 => ?_⟩
    · obtain ⟨ys, rfl, h5⟩ := h3.agg_inv
      obtain ⟨zs, rfl, h6⟩ := h4.agg_inv
      rw [h2 _ _ h5 h6]
    · obtain ⟨ys, rfl, h5⟩ := h3.tup_inv
      obtain ⟨zs, rfl, h6⟩ := h4.tup_inv
      rw [h2 _ _ h5 h6]
  cases a with
  | agg x =>
    cases b with
    | agg y => obtain ⟨rfl, h1, _⟩ := agg (show eqL0 x.toList y.toList = true from h); exact ⟨rfl, h1⟩
    | _ => cases h
  | tuple x =>
    cases b with
    | tuple y => obtain ⟨rfl, _, h1⟩ := agg (show eqL0 x.toList y.toList = true from h); exact ⟨rfl, h1⟩
    | _ => cases h
  | iface t v =>
    cases b with
    | iface t' v' =>
      obtain ⟨h1, h2⟩ := yabl (show andR2 (Nat.beq t t') (eq0 v v') = true from h)
      have h1 := Nat.eq_of_beq_eq_true h1
      obtain ⟨rfl, f⟩ := yadm (φ := φ) h2
      subst h1
      refine ⟨rfl, fun u u' h1 h2 => ?_⟩
      cases h1 with
      | iface _ a1 =>
        cases h2 with
        | iface _ a2 => rw [f _ _ a1 a2]
    | _ => cases h
  | bool x => cases b with | bool y => exact yadm h | _ => cases h
  | int x x' => cases b with | int y y' => exact yadm h | _ => cases h
  | string x => cases b with | string y => exact yadm h | _ => cases h
  | pointer x => cases b with | pointer y => exact yadm h | _ => cases h
  | slice x y z => cases b with | slice _ _ _ => exact yadm h | _ => cases h
  | map x => cases b with | map y => exact yadm h | _ => cases h
  | func f x y => cases b with | func f2 x2 y2 => exact yaru h | _ => cases h
  | nilFunc => cases b with | nilFunc => exact yadm h | _ => cases h
  | nilIface => cases b with | nilIface => exact yadm h | _ => cases h
  | _ => cases h
theorem yafc {φ : Phi} : ∀ {a b : List Value}, eqL1 a b = true → a = b ∧ ∀ us us', VRL φ a us → VRL φ a us' → us = us'
  | [], [], _ => ⟨rfl, fun us us' h1 h2 => by cases h1; cases h2; rfl⟩
  | [], _ :: _, h => by cases h
  | _ :: _, [], h => by cases h
  | v :: a, u :: b, h => by
    obtain ⟨h1, h2⟩ := yabl (show andR2 (eq1 v u) (eqL1 a b) = true from h)
    obtain ⟨rfl, f1⟩ := yadn (φ := φ) h1
    obtain ⟨rfl, f2⟩ := yafc (φ := φ) h2
    refine ⟨rfl, fun us us' h1 h2 => ?_⟩
    cases h1 with
    | cons a1 a2 =>
      cases h2 with
      | cons b1 b2 => rw [f1 _ _ a1 b1, f2 _ _ a2 b2]
theorem yays {φ : Phi} {a b : Value} (h : eqV a b = true) : a = b ∧ Firm φ a := by
  have agg : ∀ {x y : Array Value}, eqL1 x.toList y.toList = true → x = y ∧ (Firm φ (.agg x) ∧ Firm φ (.tuple x)) := fun {x y} h => by
    obtain ⟨h1, h2⟩ := yafc (φ := φ) h
    refine ⟨by cases x; cases y; simp only at h1; rw [h1], fun u u' h3 h4 => ?_, fun u u' h3 h4 => ?_⟩
    · obtain ⟨ys, rfl, h5⟩ := h3.agg_inv
      obtain ⟨zs, rfl, h6⟩ := h4.agg_inv
      rw [h2 _ _ h5 h6]
    · obtain ⟨ys, rfl, h5⟩ := h3.tup_inv
      obtain ⟨zs, rfl, h6⟩ := h4.tup_inv
      rw [h2 _ _ h5 h6]
  cases a with
  | agg x =>
    cases b with
    | agg y => obtain ⟨rfl, h1, _⟩ := agg (show eqL1 x.toList y.toList = true from h); exact ⟨rfl, h1⟩
    | _ => cases h
  | tuple x =>
    cases b with
    | tuple y => obtain ⟨rfl, _, h1⟩ := agg (show eqL1 x.toList y.toList = true from h); exact ⟨rfl, h1⟩
    | _ => cases h
  | iface t v =>
    cases b with
    | iface t' v' =>
      obtain ⟨h1, h2⟩ := yabl (show andR2 (Nat.beq t t') (eq1 v v') = true from h)
      have h1 := Nat.eq_of_beq_eq_true h1
      obtain ⟨rfl, f⟩ := yadn (φ := φ) h2
      subst h1
      refine ⟨rfl, fun u u' h1 h2 => ?_⟩
      cases h1 with
      | iface _ a1 =>
        cases h2 with
        | iface _ a2 => rw [f _ _ a1 a2]
    | _ => cases h
  | bool x => cases b with | bool y => exact yadn h | _ => cases h
  | int x x' => cases b with | int y y' => exact yadn h | _ => cases h
  | string x => cases b with | string y => exact yadn h | _ => cases h
  | pointer x => cases b with | pointer y => exact yadn h | _ => cases h
  | slice x y z => cases b with | slice _ _ _ => exact yadn h | _ => cases h
  | map x => cases b with | map y => exact yadn h | _ => cases h
  | func f x y => cases b with | func f2 x2 y2 => exact yaru h | _ => cases h
  | nilFunc => cases b with | nilFunc => exact yadn h | _ => cases h
  | nilIface => cases b with | nilIface => exact yadn h | _ => cases h
  | _ => cases h
end Go.Sx
