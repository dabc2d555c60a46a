/- The example's small functions: answers that the kernel works out. Printed by gen/mkka.py. -/
import Derived.Test.YtbhofnaipkkbeaaGreatDoorSxC4
import Derived.Test.YtbhofnaipkkbeaaGreatDoorProg
import Derived.KernelRfl
set_option maxRecDepth 1000000
namespace Go.Proofs.YtbhofnaipkkbeaaGreatDoor
open Go Go.Sx
noncomputable section
noncomputable abbrev PP : Program := Tryz.prog
noncomputable def tbl : List Value := [0, 0, 0, 0, 0, 0, 0, 0, 0, 1, 1, 1, 1, 1, 0, 0, 0, 0, 0, 0, 0, 0, 0, 0, 0, 0, 0, 0, 0, 0, 0, 0, 1, 0, 0, 0, 0, 0, 0, 0, 0, 0, 0, 0, 0, 0, 0, 0, 0, 0, 0, 0, 0, 0, 0, 0, 0, 0, 0, 0, 0, 0, 0, 0, 0, 0, 0, 0, 0, 0, 0, 0, 0, 0, 0, 0, 0, 0, 0, 0, 0, 0, 0, 0, 0, 0, 0, 0, 0, 0, 0, 0, 0, 0, 0, 0, 0, 0, 0, 0, 0, 0, 0, 0, 0, 0, 0, 0, 0, 0, 0, 0, 0, 0, 0, 0, 0, 0, 0, 0, 0, 0, 0, 0, 0, 0, 0, 0, 0, 0, 0, 0, 0, 0, 0, 0, 0, 0, 0, 0, 0, 0, 0, 0, 0, 0, 0, 0, 0, 0, 0, 0, 0, 0, 0, 0, 0, 0, 0, 0, 0, 0, 0, 0, 0, 0, 0, 0, 0, 0, 0, 0, 0, 0, 0, 0, 0, 0, 0, 0, 0, 0, 0, 0, 0, 0, 0, 0, 0, 0, 0, 0, 0, 0, 0, 0, 0, 0, 0, 0, 0, 0, 0, 0, 0, 0, 0, 0, 0, 0, 0, 0, 0, 0, 0, 0, 0, 0, 0, 0, 0, 0, 0, 0, 0, 0, 0, 0, 0, 0, 0, 0, 0, 0, 0, 0, 0, 0, 0, 0, 0, 0, 0, 0, 0, 0, 0, 0, 0, 0, 0, 0, 0, 0, 0, 0].map fun n => .int .u8 (.ofNat n)
noncomputable def lcL : List (Nat × Nat) := [(2, 1), (3, 65155311848518967562054468706962967608361068393465093204464845822057985467339293779304644608), (4, 316912650057057350374175793152), (5, 65520), (6, 2097088), (7, 8388592), (8, 8176), (9, 1016), (10, 1393796574908163946275138247820222666702848), (11, 9223372036854775552), (12, 40564819206196504678274537865216), (13, 137707372544), (14, 4398046502912), (15, 4194240), (16, 8388480), (17, 24), (18, 268434944), (19, 262080), (20, 144115188075854848), (21, 137438949888), (22, 2097088), (23, 68656560384), (24, 17592186043904), (25, 67080128), (26, 2097144), (27, 2), (28, 248), (29, 480), (30, 2097144), (31, 32704), (32, 248), (33, 1016), (34, 32704), (35, 2095232), (36, 1099511626752), (37, 4080), (38, 24), (39, 32752), (40, 576460752051763200), (41, 480), (42, 2032), (43, 8796085157760), (44, 496), (45, 8128), (46, 1048448), (47, 4194176), (48, 2048), (49, 56), (50, 374144419156711147060143317175368453031918730477568), (51, 281474976709632), (52, 65504), (53, 36893488147419041664), (54, 1073741568), (55, 16320), (56, 2199023254272), (57, 504), (58, 16320), (59, 39614081257132168796771974144), (60, 77371252455336267181193728), (61, 68719476224), (62, 18010275340875776), (63, 524256), (64, 131056), (65, 5316911983139663491615228241121378048), (66, 8796093018112), (67, 523328), (68, 2147483640), (69, 33554368), (70, 16352), (71, 68719476608), (72, 261120), (73, 8388576), (74, 281474976708608), (75, 523328), (76, 2199023247808), (77, 9223372036854774784), (78, 56), (79, 32512), (80, 2361183241434822598656), (81, 75557863725914323415040), (82, 16256), (83, 504), (84, 1125899906841600), (85, 39614081257132168796771974144), (86, 39614081257132168796771974144), (87, 39614081257132168796771974656), (88, 1016), (89, 4064), (90, 504), (91, 523264), (92, 72057594037927808), (93, 134217600), (94, 295147905179352787968), (95, 562949953417216), (96, 480), (98, 1008), (99, 1099511627520), (100, 9007199254740936), (101, 562949953420800), (102, 523264), (103, 504), (104, 4398046511088), (105, 1099511627760), (106, 356811923176489970264571492362373784093589504), (107, 248), (108, 34359738360), (109, 9007199254739968), (110, 1684996666696914987166688442938726917102321526408785780068942086144), (111, 4194048), (112, 8128), (113, 8160), (114, 18014398509480960), (116, 1008), (118, 1008), (119, 248), (120, 8190), (121, 36028797018963952), (122, 56), (123, 504), (124, 56), (125, 504), (126, 34233908736), (127, 8064), (128, 2305843009213689856), (129, 134094592), (130, 16368), (131, 1008), (132, 18446744073701687040), (133, 1200071382459248589868544), (134, 56), (135, 11150372599265311570767859134072380939303936), (136, 144115188075854464), (137, 356811838105898240029955609224899357048807424), (138, 1329227995784915282607996701543229440), (139, 2722258935367507707706996859453891911680), (140, 1208925819614629174574080), (141, 1152921504606838784), (142, 147573952589676404736), (143, 9187343239835779072), (144, 17179868160), (145, 2787593149816327892691964784081045188239360), (146, 1237940039285380274899116032), (147, 383123885216472214589586756787577295904684780545884160), (148, 524280), (149, 33554424), (150, 288230376151707648), (151, 67108608), (152, 131040), (153, 56), (154, 16368), (155, 16368), (156, 524224), (157, 24), (158, 16376), (159, 8388352), (160, 170141183460469231731687303715884072960), (161, 2032), (162, 8796093022200), (163, 2787593149816327892691964784081045188247040), (164, 34359738336), (165, 137438953464), (166, 65528), (167, 268435440), (168, 2016), (169, 56), (170, 68719468544), (171, 2040), (172, 24), (173, 24), (174, 1984), (175, 39614081257132168796771974144), (176, 8589934336), (177, 268435440), (178, 224), (179, 8), (180, 4835703278458516698820608), (181, 120), (182, 8589934584), (183, 261632), (184, 2199023247360), (185, 274877904896), (186, 65280), (187, 268435440), (188, 268435440), (189, 1048572), (190, 24), (191, 11150372599265311570767859136324180752973824), (192, 34359734256), (193, 4194240), (194, 16776960), (195, 65504), (196, 68719475712), (197, 1008), (198, 137438953456), (199, 268435424), (200, 120), (201, 137438953408), (202, 4265607152), (203, 16352), (204, 10141132266272334878580615937536), (205, 480), (206, 8184), (207, 480), (208, 56), (209, 8589934584), (210, 248), (211, 1073740800), (212, 21778071482940061661655974875633165008896), (213, 562949953417216), (214, 2016), (216, 1008), (217, 523328), (218, 112), (219, 480), (220, 4294963200), (221, 17179869120), (223, 18014398509481216), (224, 224), (226, 56), (227, 2417851639229258349410304), (228, 4072), (229, 4398039170944), (230, 224), (231, 224), (232, 261632), (233, 4194288), (234, 8796093022200), (235, 24), (236, 480), (237, 8184), (238, 8184), (239, 120), (240, 504), (241, 480), (242, 8184), (243, 523328), (244, 523328), (245, 18014398508498432), (246, 4193280), (247, 562949953421056), (248, 72057594037925888), (249, 36893488147419101184), (250, 143552238122426368), (251, 4294967040), (252, 10889035741470030830827987437816582764544), (253, 19342813113834066795296768), (254, 374144419156711147060143317175368453031918730997760), (255, 16368), (256, 523328), (257, 32760), (258, 32752), (259, 187072209578355573530071658587684226515959365369856), (260, 5070602400912917605986812297216), (262, 549755813376), (263, 18014398509480960), (264, 2), (265, 262080), (266, 262112), (267, 158456325028528675187087900544), (268, 590295810358705651200), (269, 523328), (270, 144115188075855360), (271, 523328), (272, 32760), (273, 18889465509266115788768), (274, 480), (275, 56), (276, 75557863725914323418112), (277, 32640), (278, 68719474688), (279, 56), (280, 8), (281, 248), (282, 248), (283, 131040), (284, 56), (285, 81129638414606681695789005135872), (286, 151115725340766321506304), (287, 8796093018112), (288, 120), (289, 16368), (290, 524286), (291, 523328), (292, 240), (293, 67100608), (294, 1180590494817504460776), (295, 2016), (296, 523328), (297, 268434432), (298, 16376), (299, 16376), (300, 56), (301, 36891377085093654528), (302, 524088), (303, 9444732965739290357760), (304, 2016), (305, 2016), (306, 65408), (307, 65408), (308, 39614081257132168796770926560), (309, 576460752303423232), (310, 5986310706507378352952785656618557300331340831129600), (311, 262128), (312, 120), (313, 68719475712), (314, 4294909440), (315, 20769187434139310514121985313208320), (316, 633825300114114700748351371264), (317, 24), (318, 19807040628566084398385987520), (338, 504), (339, 504), (340, 1016), (341, 130944), (342, 33554400), (343, 8176), (344, 1048512), (345, 268435392), (346, 504), (348, 248), (366, 131071)]
noncomputable def lcW : List (Nat × Nat) → TT Nat 3 → TT Nat 3
  | [], t => t
  | (i, m) :: r, t => lcW r (TT.set t i (some m))
noncomputable def lcT : TT Nat 3 := lcW lcL (eT Nat 3)
noncomputable def lcF (g : Nat) : Nat := (TT.get lcT g).getD 0
noncomputable def roB : Cs := mkT tbl
noncomputable def HB (n : Nat) : AH := ⟨n, TT.set (eT Bk 6) 2 (some (.ro roB))⟩
noncomputable def bs (l : List Nat) : Value := .string ⟨⟨l.map UInt8.ofNat⟩⟩
noncomputable def noEsc : List Value → AH → RV
  | [.pointer p], H => .ok (.pointer p) H
  | _, _ => .er [300]
noncomputable def idxB : List UInt8 → Nat → Nat → Int
  | [], _, _ => -1
  | x :: r, c, i => match Nat.beq (u8n x) c with | true => .ofNat i | false => idxB r c (i + 1)
noncomputable def idxBy : List Value → AH → RV
  | [.string s, .int .u8 c], H => (match natI c with | some c => (match Nat.ble c 255 with | true => .ok (.int .i64 (idxB (bl s) c 0)) H | false => .er [303]) | none => .er [303])
  | _, _ => .er [304]
noncomputable def natA (g : Nat) : Option (List Value → AH → RV) := match Nat.beq g 222, Nat.beq g 261 with | true, _ => some noEsc | _, true => some idxBy | _, _ => none
noncomputable def TA : Tab := ⟨natA, lcF, [2]⟩
theorem ybhz : IsExt PP 222 Extern.AbiNoEscape.same := ⟨Tryz.f222, Tryz.func222, by kernel_rfl, by kernel_rfl, by kernel_rfl, by kernel_rfl⟩
theorem ybhj : IsExt PP 261 Extern.BytealgIndexByte.indexByte := ⟨Tryz.f261, Tryz.func261, by kernel_rfl, by kernel_rfl, by kernel_rfl, by kernel_rfl⟩
theorem yaoq (l : List UInt8) (c : UInt8) : ∀ (r : List UInt8) (i : Nat), l.drop i = r → i ≤ l.length → idxB r c.toNat i = (match ((List.range' i (l.length - i)).find? fun j => (l.toArray)[j]! == c) with | some j => (j : Int) | none => -1)
  | [], i, h, hi => by
    have : l.length - i = 0 := by have := congrArg List.length h; simpa using this
    rw [this]; rfl
  | x :: r, i, h, hi => by
    have hl : l.length - i = r.length + 1 := by have := congrArg List.length h; simpa using this
    have hx : (l.toArray)[i]! = x := by
      have := congrArg (fun l => l[0]?) h
      simp only [List.getElem?_drop, List.getElem?_cons_zero, Nat.add_zero] at this
      simp [this]
    have hd : l.drop (i + 1) = r := by
      have : l.drop (i + 1) = (l.drop i).drop 1 := by rw [List.drop_drop]
      rw [this, h]; rfl
    rw [hl, List.range'_succ, List.find?_cons, hx]
    have ih := yaoq l c r (i + 1) hd (by omega)
    have e1 : l.length - (i + 1) = r.length := by omega
    rw [e1] at ih
    show (match Nat.beq (u8n x) c.toNat with | true => Int.ofNat i | false => idxB r c.toNat (i + 1)) = _
    cases hb : Nat.beq (u8n x) c.toNat with
    | true =>
      have : x = c := yawm (Nat.eq_of_beq_eq_true hb)
      subst this
      simp
    | false =>
      have : (x == c) = false := by
        rw [beq_eq_false_iff_ne]
        intro e; subst e
        simp [u8n] at hb
      rw [this]
      exact ih
theorem yauc (h0 : Hp) : ∀ g f, TA.nat g = some f → NatOk PP h0 [2] g f := by
  intro g f hf φ hg args H v H' h us hr hv he
  have hf : natA g = some f := hf
  unfold natA at hf
  split at hf
  · rename_i hb
    cases hf
    obtain rfl := Nat.eq_of_beq_eq_true hb
    unfold noEsc at he
    split at he
    · rename_i p
      obtain ⟨rfl, rfl⟩ := yaax he
      cases hv with
      | cons h1 h2 =>
        cases h2
        exact .inr ⟨_, ybhz, Out.of h1 hr⟩
    · cases he
  · rename_i hb _
    cases hf
    obtain rfl := Nat.eq_of_beq_eq_true hb
    unfold idxBy at he
    split at he
    · rename_i s c
      split at he
      · rename_i c' hc
        have hc := yady hc
        subst hc
        split at he
        · rename_i hb
          have hb := Nat.le_of_ble_eq_true hb
          obtain ⟨rfl, rfl⟩ := yaax he
          cases hv with
          | cons h1 h2 =>
            cases h2 with
            | cons h2 h3 =>
              cases h3
              rw [h1.str_inv, h2.int_inv]
              refine .inr ⟨_, ybhj, ?_⟩
              have hu : ((c' : Int).toNat).toUInt8 = UInt8.ofNat c' := by simp
              have hn : (UInt8.ofNat c').toNat = c' := by simp; omega
              have key := yaoq (bl s) (UInt8.ofNat c') (bl s) 0 rfl (Nat.zero_le _)
              rw [hn] at key
              show hq PP (do
                let b ← Extern.Bytes.bytesOf (.string s)
                let c ← Extern.Bytes.asByte (.int .u8 c')
                match (List.range b.size).find? fun i => b[i]! == c with
                | some i => pure (goInt i)
                | none => pure (goInt (-1))) h _
              simp only [Extern.Bytes.bytesOf, Extern.Bytes.asByte, yaab, yaah, hu]
              rw [key]
              have e1 : (List.range s.size) = List.range' 0 ((bl s).length - 0) := by rw [List.range_eq_range', yaia]; rfl
              have e2 : ∀ i : Nat, s[i]! = ((bl s).toArray)[i]! := fun i => by
                unfold bl
                simp only [Array.toArray_toList]
                by_cases h : i < s.size
                · rw [getElem!_pos s i h, getElem!_pos s.data i h]; rfl
                · rw [getElem!_neg s i h, getElem!_neg s.data i h]
              simp only [e1, e2]
              cases (List.range' 0 ((bl s).length - 0)).find? fun i => ((bl s).toArray)[i]! == UInt8.ofNat c' with
              | some i => exact Out.of (.int _ _) hr
              | none => exact Out.of (.int _ _) hr
        · cases he
      · cases he
    · cases he
  · cases hf
noncomputable def clsN (n : Nat) : Nat := match Nat.ble 97 n && Nat.ble n 122 || Nat.ble 65 n && Nat.ble n 90 with | true => 2 | false => match Nat.ble 48 n && Nat.ble n 57 with | true => 3 | false => match Nat.beq n 95 with | true => 4 | false => match Nat.beq n 32 || Nat.beq n 9 || Nat.beq n 10 || Nat.beq n 13 with | true => 1 | false => 0
noncomputable def kwT : List (List Nat × Bool) := [([100, 101, 115, 99], true), ([108, 105, 115, 116], false), ([116, 121, 112, 101], true), ([78], false), ([107], false), ([105, 110, 116], true), ([118], false), ([110], false), ([118, 97, 114], true), ([114], false), ([99], false), ([112, 114, 111, 99], true), ([98, 101, 102, 111, 114, 101], false), ([108, 111, 99, 97, 108], true), ([112], false), ([113], false), ([119, 104, 105, 108, 101], true), ([110, 105, 108], true), ([97, 110, 100], true), ([114, 101, 116, 117, 114, 110], true), ([97, 102, 116, 101, 114], false), ([105, 102], true), ([112, 117, 116], false), ([49], false), ([109, 97, 107, 101], false), ([101, 108, 115, 101], true), ([48], false), ([120], false), ([110, 101, 119], true), ([103, 101, 116], false), ([49, 48, 57, 57, 53, 49, 49, 54, 50, 55, 55, 55, 54], false), ([114, 101, 109, 111, 118, 101], false), ([111, 114], true), ([102, 108, 111, 111, 114], false), ([99, 101, 105, 108, 105, 110, 103], false), ([114, 97, 110, 107], false), ([105], false), ([115, 101, 108, 101, 99, 116], false), ([115, 105, 122, 101], false), ([109, 101, 97, 115, 117, 114, 101], true), ([108, 101, 110, 103, 116, 104], false), ([116, 104, 105, 115], true), ([105, 110, 118, 97, 114, 105, 97, 110, 116], true), ([115, 111, 114, 116, 101, 100], false), ([99, 111, 117, 110, 116, 101, 100], false), ([98, 111, 117, 110, 100], true), ([50], false), ([49, 48], false), ([52], false), ([54], false)]
noncomputable def allN (p : Nat → Bool) : Nat → Bool
  | 0 => true
  | n + 1 => (match p n with | true => allN p n | false => false)
theorem yakn {p : Nat → Bool} : ∀ {n i : Nat}, allN p n = true → i < n → p i = true
  | n + 1, i, h, hi => by
    unfold allN at h
    split at h
    · rename_i hp
      by_cases he : i = n
      · subst he; exact hp
      · exact yakn h (by omega)
    · cases h
noncomputable def isB (r : RV) (b : Bool) : Bool := match r with | .ok (.bool c) _ => eqBB c b | _ => false
noncomputable def isI (r : RV) (n : Nat) : Bool := match r with | .ok (.int .i64 (.ofNat m)) _ => Nat.beq m n | _ => false
theorem kw_ok : allL (fun e => isB (callK PP TA 100 228 [bs e.1] (HB 200000)) e.2) kwT = true := by kernel_rfl
theorem ybfc : allN (fun n => isI (callK PP TA 100 192 [.int .u8 (.ofNat n)] (HB 200000)) (clsN n)) 256 = true := by kernel_rfl
end
end Go.Proofs.YtbhofnaipkkbeaaGreatDoor
