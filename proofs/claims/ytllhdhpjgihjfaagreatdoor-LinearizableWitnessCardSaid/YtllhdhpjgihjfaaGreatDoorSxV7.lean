/- Plain statements of what each block of code of this seat asks; printed by a program, checked by Lean. -/
import Derived.Test.YtllhdhpjgihjfaaGreatDoorSxV0
set_option maxRecDepth 10000
namespace Go.Proofs.YtllhdhpjgihjfaaGreatDoor
open Go Go.Sx
def zdd_an : Ann := N0 .leaf (N0 .leaf (.node (some [2, 3, 4, 5, 6]) .leaf (.node (some [2, 3, 4, 5, 6]) (N0 .leaf (N0 .leaf (N0 .leaf (N0 .leaf (N0 (N0 .leaf (N0 (.plan (.qu 0 (.qu 2 (.qu 3 (.wo 1 (.wo 4 (.wo 5 (.qu 6 (.wo 7 .fin .no)) .no) .no) .no))))) .leaf)) .leaf))))) (N0 .leaf (.node (some [2, 3, 4, 5, 7, 8]) (N0 .leaf (.loop [2, 3, 4, 5, 6] [(7, .int .i64), (8, .int .i64), (9, .int .i64)] (N0 .leaf (.node (some [2, 3, 4, 5, 6, 7, 8, 9]) .leaf .leaf)))) .leaf)))))
def zdd_b4 (s o t4 t5 l : OA) (lL lC : Nat) (count first i : Int) (h : Hp) (nx0 : Int × Int × Int × Unit → Hp → Prop) (K : VK) : Prop :=
 InR (i + 1) ∧ nx0 (count, first, i + 1, ()) h
def zdd_b5 (s o t4 t5 : OA) (count first : Int) (h : Hp) (K : VK) : Prop :=
 NN o fun a33 => ∃ n5, cell h a33 = some (.int .i64 n5) ∧ cond (decide (n5 = 2)) (NN s fun a34 => ∃ n6 a35 L11 C11, cell h a34 = some (.int .i64 n6) ∧ cell h (a34.add 1) = some (.slice a35 L11 C11) ∧ reB 104 #[.agg #[.int .i64 n6, .slice a35 L11 C11], .int .i64 count] h t4 t5 K) (cond (decide (first < 0)) (NN s fun a40 => ∃ n7 a41 L12 C12, cell h a40 = some (.int .i64 n7) ∧ cell h (a40.add 1) = some (.slice a41 L12 C12) ∧ reB 105 #[.agg #[.int .i64 n7, .slice a41 L12 C12], .int .i64 12] h t4 t5 K) (NN s fun a46 => ∃ n8 a47 L13 C13, cell h a46 = some (.int .i64 n8) ∧ cell h (a46.add 1) = some (.slice a47 L13 C13) ∧ reB 104 #[.agg #[.int .i64 n8, .slice a47 L13 C13], .int .i64 first] h t4 t5
 K))
def zdd_b3 (count first i : Int) (s o t4 t5 l : OA) (lL lC : Nat) (h : Hp) (nx0 : Int × Int × Int × Unit → Hp → Prop) (K : VK) : Prop :=
 cond (decide (i < (lL : Int))) (NN o fun a31 => ∃ a32 L10 C10, cell h (a31.add 1) = some (.slice a32 L10 C10) ∧ HC 111 #[.slice l lL lC, .int .i64 i, .slice a32 L10 C10] h fun v5 h28 => ∃ r32, v5 = .bool r32 ∧ cond r32 (InR (count + 1) ∧ cond (decide (first < 0)) (zdd_b4 s o t4 t5 l lL lC (count + 1) i i h28 nx0 K) (zdd_b4 s o t4 t5 l lL lC (count + 1) first i h28 nx0 K)) (zdd_b4 s o t4 t5 l lL lC count first i h28 nx0 K)) (zdd_b5 s o t4 t5 count first h K)
def zdd_b2 (s o t4 t5 l : OA) (lL lC : Nat) (h : Hp) (K : VK) : Prop :=
 yaaq ((0, (-1), 0, ()) : Int × Int × Int × Unit) h (fun (nx0 : Int × Int × Int × Unit → Hp → Prop) (s1 : Int × Int × Int × Unit) h27 => zdd_b3 s1.1 s1.2.1 s1.2.2.1 s o t4 t5 l lL lC h27 nx0 K)
def zdd_b1 (s o t4 t5 l : OA) (lL lC : Nat) (h : Hp) (K : VK) : Prop :=
 NN o fun a5 => ∃ n1, cell h a5 = some (.int .i64 n1) ∧ cond (decide (n1 = 4)) (NN s fun a6 => ∃ n2 a7 L4 C4, cell h a6 = some (.int .i64 n2) ∧ cell h (a6.add 1) = some (.slice a7 L4 C4) ∧ reB 104 #[.agg #[.int .i64 n2, .slice a7 L4 C4], .int .i64 (lL : Int)] h t4 t5 K) (cond (decide (n1 = 1)) (NN o fun a12 => ∃ a13 L5 C5, cell h (a12.add 1) = some (.slice a13 L5 C5) ∧ InR ((lL : Int) + (L5 : Int)) ∧ cond (decide ((500 : Int) < ((lL : Int) + (L5 : Int)))) (NN s fun a14 => ∃ n3 a15 L6 C6, cell h a14 = some (.int .i64 n3) ∧ cell h (a14.add 1) = some (.slice a15 L6 C6) ∧ reB 105 #[.agg #[.int .i64 n3, .slice a15 L6 C6], .int .i64 4] h t4 t5 K) (NN o fun a20 => ∃ a21 L7 C7, cell h (a20.add 1) =
 some (.slice a21 L7 C7) ∧ HC 103 #[.slice l lL lC] h fun v3 h17 => ∃ r21 rL9 rC9, v3 = .slice r21 rL9 rC9 ∧ (∃ a22 L8 C8, cell h17 (a20.add 1) = some (.slice a22 L8 C8) ∧ (.slice a22 L8 C8 : Value) = .slice a21 L7 C7) ∧ yaau Tryz.prog 29 29 (.slice r21 rL9 rC9) (.slice a21 L7 C7) h17 (slK fun a23 l1 c1 h18 => New h18 (.cells #[.slice a23 l1 c1] 29) fun b5 h19 => NN s fun a24 => Wr h19 (a24.add 1) (.slice (some ⟨b5, 0, none⟩) 1 1) fun h20 => NN s fun a25 => ∃ n4 a26 L9 C9, cell h20 a25 = some (.int .i64 n4) ∧ cell h20 (a25.add 1) = some (.slice a26 L9 C9) ∧ reB 104 #[.agg #[.int .i64 n4, .slice a26 L9 C9], .int .i64 0] h20 t4 t5 K))) (zdd_b2 s o t4 t5 l lL lC h K))
def zdd_b0 (s_0 : Int) (s_1 : OA) (s_1L s_1C : Nat) (o_0 : Int) (o_1 : OA) (o_1L o_1C : Nat) (h : Hp) (K : VK) : Prop :=
 New h (.cells #[.int .i64 s_0, .slice s_1 s_1L s_1C] 24) fun b1 h1 => New h1 (.cells #[.int .i64 o_0, .slice o_1 o_1L o_1C] 50) fun b2 h2 => New h2 (.cells #[.int .i64 0, .slice none 0 0] 24) fun b3 h3 => New h3 (.cells #[.int .i64 0, .int .i64 0, .slice none 0 0] 58) fun b4 h4 => ∃ a1 L1 C1, cell h4 ((⟨b1, 0, none⟩ : Addr).add 1) = some (.slice a1 L1 C1) ∧ cond (decide ((0 : Int) < (L1 : Int))) (∃ a2 L2 C2, cell h4 ((⟨b1, 0, none⟩ : Addr).add 1) = some (.slice a2 L2 C2) ∧ (0 ≤ (0 : Int) ∧ (0 : Int) < (L2 : Int)) ∧ NN a2 fun a3 => ∃ a4 L3 C3, cell h4 (a3.add (Int.toNat (0 : Int) * 1)) = some (.slice a4 L3 C3) ∧ zdd_b1 (some ⟨b1, 0, none⟩) (some ⟨b2, 0, none⟩) (some ⟨b3, 0, none⟩) (some
 ⟨b4, 0, none⟩) a4 L3 C3 h4 K) (zdd_b1 (some ⟨b1, 0, none⟩) (some ⟨b2, 0, none⟩) (some ⟨b3, 0, none⟩) (some ⟨b4, 0, none⟩) none 0 0 h4 K)
theorem zdd_sx (s_0 s_1 s_1L s_1C o_0 o_1 o_1L o_1C h K) : zdd_b0 s_0 s_1 s_1L s_1C o_0 o_1 o_1L o_1C h K = sx_5 Tryz.prog F 87 (cp [] (yaab Tryz.f78)) (ap [] zdd_an) [(0, .agg #[.int .i64 s_0, .slice s_1 s_1L s_1C]), (1, .agg #[.int .i64 o_0, .slice o_1 o_1L o_1C])] h (retK Tryz.prog Tryz.f78.results.toList K) := by kernel_rfl
theorem zdd_call {s_0 s_1 s_1L s_1C o_0 o_1 o_1L o_1C h K} (hk : zdd_b0 s_0 s_1 s_1L s_1C o_0 o_1 o_1L o_1C h K) : HC 78 #[.agg #[.int .i64 s_0, .slice s_1 s_1L s_1C], .agg #[.int .i64 o_0, .slice o_1 o_1L o_1C]] h K :=
 yaaa zdd_an Tryz.func78 (c := yaab Tryz.f78) rfl Tryz.ntmps78 (lb rfl) (snd_5 F_ok yaad) (Eq.mp (zdd_sx s_0 s_1 s_1L s_1C o_0 o_1 o_1L o_1C h K) hk)
def zcg_an : Ann := N0 .leaf (N0 .leaf (.node (some []) (N0 .leaf (.loop [0, 1] [(5, .int .i64)] (N0 .leaf (.node (some [0, 1, 5]) .leaf .leaf)))) .leaf))
def zcg_b2 (a : OA) (aL aC : Nat) (b : OA) (bL bC : Nat) (i : Int) (h : Hp) (nx0 : Int × Unit → Hp → Prop) (K : VK) : Prop :=
 InR (i + 1) ∧ nx0 (i + 1, ()) h
def zcg_b3 (h : Hp) (K : VK) : Prop :=
 K (.bool true) h
def zcg_b1 (i : Int) (a : OA) (aL aC : Nat) (b : OA) (bL bC : Nat) (h : Hp) (nx0 : Int × Unit → Hp → Prop) (K : VK) : Prop :=
 cond (decide (i < (aL : Int))) ((0 ≤ i ∧ i < (aL : Int)) ∧ NN a fun a1 => ∃ n1, cell h (a1.add (Int.toNat i * 1)) = some (.int .i64 n1) ∧ (0 ≤ i ∧ i < (bL : Int)) ∧ NN b fun a2 => ∃ n2, cell h (a2.add (Int.toNat i * 1)) = some (.int .i64 n2) ∧ cond (!decide (n1 = n2)) (K (.bool false) h) (zcg_b2 a aL aC b bL bC i h nx0 K)) (zcg_b3  h K)
def zcg_b0 (a : OA) (aL aC : Nat) (b : OA) (bL bC : Nat) (h : Hp) (K : VK) : Prop :=
 cond (!decide ((aL : Int) = (bL : Int))) (K (.bool false) h) (yaaq ((0, ()) : Int × Unit) h (fun (nx0 : Int × Unit → Hp → Prop) (s1 : Int × Unit) h1 => zcg_b1 s1.1 a aL aC b bL bC h1 nx0 K))
theorem zcg_sx (a aL aC b bL bC h K) : zcg_b0 a aL aC b bL bC h K = sx_3 Tryz.prog F 26 (cp [] (yaab Tryz.f79)) (ap [] zcg_an) [(0, .slice a aL aC), (1, .slice b bL bC)] h (retK Tryz.prog Tryz.f79.results.toList K) := by kernel_rfl
theorem zcg_call {a aL aC b bL bC h K} (hk : zcg_b0 a aL aC b bL bC h K) : HC 79 #[.slice a aL aC, .slice b bL bC] h K :=
 yaaa zcg_an Tryz.func79 (c := yaab Tryz.f79) rfl Tryz.ntmps79 (lb rfl) (snd_3 F_ok yaad) (Eq.mp (zcg_sx a aL aC b bL bC h K) hk)
def zba_an : Ann := .leaf
def zba_b0 (x : Int) (h : Hp) (K : VK) : Prop :=
 HC 121 #[.int .u64 x] h fun v1 h1 => ∃ r1, v1 = .int .i64 r1 ∧ K (.int .i64 r1) h1
theorem zba_sx (x h K) : zba_b0 x h K = sx_1 Tryz.prog F 8 (cp [] (yaab Tryz.f82)) (ap [] zba_an) [(0, .int .u64 x)] h (retK Tryz.prog Tryz.f82.results.toList K) := by kernel_rfl
theorem zba_call {x h K} (hk : zba_b0 x h K) : HC 82 #[.int .u64 x] h K :=
 yaaa zba_an Tryz.func82 (c := yaab Tryz.f82) rfl Tryz.ntmps82 (lb rfl) (snd_1 F_ok yaad) (Eq.mp (zba_sx x h K) hk)
def zav_an : Ann := .leaf
def zav_b0 (e_0 e_1 : Int) (e_2 : OA) (e_2L e_2C : Nat) (e_3 e_4 : Int) (e_5 : OA) (e_5L e_5C : Nat) (e_6 e_7 : Int) (t1 : OA) (h : Hp) (K : VK) : Prop :=
 New h (.cells #[.int .i64 e_0, .int .i64 e_1, .slice e_2 e_2L e_2C, .int .i64 e_3, .int .i64 e_4, .slice e_5 e_5L e_5C, .int .i64 e_6, .int .i64 e_7] 60) fun b1 h1 => NN t1 fun a1 => ∃ n1, cell h1 a1 = some (.int .i64 n1) ∧ ∃ n2 a2 L1 C1, cell h1 ((⟨b1, 0, none⟩ : Addr).add 1) = some (.int .i64 n2) ∧ cell h1 (((⟨b1, 0, none⟩ : Addr).add 1).add 1) = some (.slice a2 L1 C1) ∧ HC 57 #[.int .i64 n1, .agg #[.int .i64 n2, .slice a2 L1 C1]] h1 fun v1 h2 => ∃ r1, v1 = .bool r1 ∧ K (.bool (!r1)) h2
theorem zav_sx (e_0 e_1 e_2 e_2L e_2C e_3 e_4 e_5 e_5L e_5C e_6 e_7 t1 h K) : zav_b0 e_0 e_1 e_2 e_2L e_2C e_3 e_4 e_5 e_5L e_5C e_6 e_7 t1 h K = sx_1 Tryz.prog F 9 (cp [] (yaab Tryz.f83)) (ap [] zav_an) [(0, .agg #[.int .i64 e_0, .int .i64 e_1, .slice e_2 e_2L e_2C, .int .i64 e_3, .int .i64 e_4, .slice e_5 e_5L e_5C, .int .i64 e_6, .int .i64 e_7]), (1, .pointer t1)] h (retK Tryz.prog Tryz.f83.results.toList K) := by kernel_rfl
theorem zav_call {e_0 e_1 e_2 e_2L e_2C e_3 e_4 e_5 e_5L e_5C e_6 e_7 t1 h K} (hk : zav_b0 e_0 e_1 e_2 e_2L e_2C e_3 e_4 e_5 e_5L e_5C e_6 e_7 t1 h K) : HC 83 #[.agg #[.int .i64 e_0, .int .i64 e_1, .slice e_2 e_2L e_2C, .int .i64 e_3, .int .i64 e_4, .slice e_5 e_5L e_5C, .int .i64 e_6, .int .i64 e_7], .pointer t1] h K :=
 yaaa zav_an Tryz.func83 (c := yaab Tryz.f83) rfl Tryz.ntmps83 (lb rfl) (snd_1 F_ok yaad) (Eq.mp (zav_sx e_0 e_1 e_2 e_2L e_2C e_3 e_4 e_5 e_5L e_5C e_6 e_7 t1 h K) hk)
def zbz_an : Ann := N0 .leaf (N0 .leaf (N0 .leaf (.node (some []) (N0 .leaf (.loop [1, 3, 4, 19, 20] [(21, .int .i64)] (N0 .leaf (N0 .leaf (.node (some [1, 3, 4, 19, 20, 21]) (N0 .leaf (.node (some [1, 3, 4, 5, 6, 19, 20, 21]) .leaf (.node (some [1, 3, 4, 5, 6, 19, 20, 21]) .leaf .leaf))) .leaf))))) .leaf)))
def zbz_b4 (s : OA) (w keys : Int) (t19 : OA) (t19L t19C : Nat) (t20 t21 : Int) (h : Hp) (nx0 : Int × Unit → Hp → Prop) (K : VK) : Prop :=
 InR (t21 + 1) ∧ nx0 (t21 + 1, ()) h
def zbz_b5 (s : OA) (w keys i : Int) (row : OA) (rowL rowC : Nat) (t19 : OA) (t19L t19C : Nat) (t20 t21 : Int) (h : Hp) (nx0 : Int × Unit → Hp → Prop) (K : VK) : Prop :=
 NN s fun a5 => ∃ a6 L4 C4, cell h (a5.add 1) = some (.slice a6 L4 C4) ∧ InR (i - 1) ∧ (0 ≤ i - 1 ∧ i - 1 < (L4 : Int)) ∧ NN a6 fun a7 => ∃ a8 L5 C5, cell h (a7.add (Int.toNat (i - 1) * 1)) = some (.slice a8 L5 C5) ∧ (0 ≤ (0 : Int) ∧ (0 : Int) ≤ keys ∧ keys ≤ (C5 : Int)) ∧ (0 ≤ (0 : Int) ∧ (0 : Int) ≤ keys ∧ keys ≤ (rowC : Int)) ∧ ∃ r4, HC 124 #[.slice (yaak a8 C5 (Int.toNat (0 : Int)) 1) (Int.toNat keys - Int.toNat (0 : Int)) (C5 - Int.toNat (0 : Int)), .slice (yaak row rowC (Int.toNat (0 : Int)) 1) (Int.toNat keys - Int.toNat (0 : Int)) (rowC - Int.toNat (0 : Int))] h (fun v3 h5 => v3 = .int .i64 r4 ∧ h5 = h) ∧ cond (decide ((0 : Int) < r4)) (K (.bool false) h) (cond
 (decide (r4 = 0)) (NN s fun a9 => ∃ n2, cell h a9 = some (.int .i64 n2) ∧ cond (!decide (n2 = 2)) (K (.bool false) h) (zbz_b4 s w keys t19 t19L t19C t20 t21 h nx0 K)) (zbz_b4 s w keys t19 t19L t19C t20 t21 h nx0 K))
def zbz_b2 (s : OA) (w keys i : Int) (row : OA) (rowL rowC : Nat) (t19 : OA) (t19L t19C : Nat) (t20 t21 : Int) (h : Hp) (nx0 : Int × Unit → Hp → Prop) (K : VK) : Prop :=
 cond (decide (i = 0)) (zbz_b4 s w keys t19 t19L t19C t20 t21 h nx0 K) (cond (decide (keys = 0)) (zbz_b4 s w keys t19 t19L t19C t20 t21 h nx0 K) (zbz_b5 s w keys i row rowL rowC t19 t19L t19C t20 t21 h nx0 K))
def zbz_b3 (h : Hp) (K : VK) : Prop :=
 K (.bool true) h
def zbz_b1 (t21 : Int) (s : OA) (w keys : Int) (t19 : OA) (t19L t19C : Nat) (t20 : Int) (h : Hp) (nx0 : Int × Unit → Hp → Prop) (K : VK) : Prop :=
 cond (decide (t21 < t20)) ((0 ≤ t21 ∧ t21 < (t19L : Int)) ∧ NN t19 fun a3 => ∃ a4 L3 C3, cell h (a3.add (Int.toNat t21 * 1)) = some (.slice a4 L3 C3) ∧ cond (!decide ((L3 : Int) = w)) (K (.bool false) h) (HC 86 #[.slice a4 L3 C3, .func (.func 123) #[] #[]] h fun v2 h4 => ∃ r3, v2 = .bool r3 ∧ cond r3 (K (.bool false) h4) (zbz_b2 s w keys t21 a4 L3 C3 t19 t19L t19C t20 t21 h4 nx0 K))) (zbz_b3  h K)
def zbz_b0 (s_0 : Int) (s_1 : OA) (s_1L s_1C : Nat) (h : Hp) (K : VK) : Prop :=
 New h (.cells #[.int .i64 s_0, .slice s_1 s_1L s_1C] 24) fun b1 h1 => ∃ a1 L1 C1, cell h1 ((⟨b1, 0, none⟩ : Addr).add 1) = some (.slice a1 L1 C1) ∧ cond (decide ((500 : Int) < (L1 : Int))) (K (.bool false) h1) (∃ n1, cell h1 ⟨b1, 0, none⟩ = some (.int .i64 n1) ∧ HC 122 #[.int .i64 n1] h1 fun v1 h2 => ∃ r1 r2, v1 = .tuple #[.int .i64 r1, .int .i64 r2] ∧ ∃ a2 L2 C2, cell h2 ((⟨b1, 0, none⟩ : Addr).add 1) = some (.slice a2 L2 C2) ∧ yaaq ((0, ()) : Int × Unit) h2 (fun (nx0 : Int × Unit → Hp → Prop) (s1 : Int × Unit) h3 => zbz_b1 s1.1 (some ⟨b1, 0, none⟩) r1 r2 a2 L2 C2 (L2 : Int) h3 nx0 K))
theorem zbz_sx (s_0 s_1 s_1L s_1C h K) : zbz_b0 s_0 s_1 s_1L s_1C h K = sx_4 Tryz.prog F 64 (cp [] (yaab Tryz.f84)) (ap [] zbz_an) [(0, .agg #[.int .i64 s_0, .slice s_1 s_1L s_1C])] h (retK Tryz.prog Tryz.f84.results.toList K) := by kernel_rfl
theorem zbz_call {s_0 s_1 s_1L s_1C h K} (hk : zbz_b0 s_0 s_1 s_1L s_1C h K) : HC 84 #[.agg #[.int .i64 s_0, .slice s_1 s_1L s_1C]] h K :=
 yaaa zbz_an Tryz.func84 (c := yaab Tryz.f84) rfl Tryz.ntmps84 (lb rfl) (snd_4 F_ok yaad) (Eq.mp (zbz_sx s_0 s_1 s_1L s_1C h K) hk)
def zcb_an : Ann := N0 .leaf (N0 .leaf (N0 .leaf (.node (some [3]) (N0 .leaf (.loop [0, 12, 13] [(3, .slice), (14, .int .i64)] (N0 .leaf (N0 .leaf (.node (some [0, 3, 12, 13, 14]) (N0 .leaf (.node (some [0, 3, 5, 12, 13, 14]) .leaf (.node (some [0, 3, 5, 12, 13, 14]) (N0 .leaf (.loop [0, 3, 5, 12, 13, 14] [(6, .int .i64)] (N0 .leaf (.node (some [0, 3, 5, 6, 12, 13, 14]) .leaf .leaf)))) .leaf))) .leaf))))) (N0 .leaf (.node (some []) (N0 .leaf (.loop [69, 70] [(71, .int .i64)] (N0 .leaf (N0 .leaf (.node (some [69, 70, 71]) .leaf .leaf))))) .leaf)))))
def zcb_b6 (rows : OA) (rowsL rowsC : Nat) (all : OA) (allL allC : Nat) (row : OA) (rowL rowC : Nat) (k : Int) (t12 : OA) (t12L t12C : Nat) (t13 t14 : Int) (h : Hp) (nx0 : (OA × Nat × Nat) × Int × Unit → Hp → Prop) (nx1 : Int × Unit → Hp → Prop) (K : VK) : Prop :=
 InR (k + 1) ∧ nx1 (k + 1, ()) h
def zcb_b10 (rows : OA) (rowsL rowsC : Nat) (all : OA) (allL allC : Nat) (t12 : OA) (t12L t12C : Nat) (t13 t14 : Int) (h : Hp) (nx0 : (OA × Nat × Nat) × Int × Unit → Hp → Prop) (K : VK) : Prop :=
 InR (t14 + 1) ∧ nx0 ((all, allL, allC), t14 + 1, ()) h
def zcb_b7 (rows : OA) (rowsL rowsC : Nat) (all : OA) (allL allC : Nat) (row : OA) (rowL rowC : Nat) (t12 : OA) (t12L t12C : Nat) (t13 t14 : Int) (h : Hp) (nx0 : (OA × Nat × Nat) × Int × Unit → Hp → Prop) (K : VK) : Prop :=
 yaau Tryz.prog 29 29 (.slice all allL allC) (.slice row rowL rowC) h (slK fun a10 l1 c1 h5 => zcb_b10 rows rowsL rowsC a10 l1 c1 t12 t12L t12C t13 t14 h5 nx0 K)
def zcb_b4 (k : Int) (rows : OA) (rowsL rowsC : Nat) (all : OA) (allL allC : Nat) (row : OA) (rowL rowC : Nat) (t12 : OA) (t12L t12C : Nat) (t13 t14 : Int) (h : Hp) (nx0 : (OA × Nat × Nat) × Int × Unit → Hp → Prop) (nx1 : Int × Unit → Hp → Prop) (K : VK) : Prop :=
 cond (decide (k < (rowL : Int))) (InR (k - 1) ∧ (0 ≤ k - 1 ∧ k - 1 < (rowL : Int)) ∧ NN row fun a7 => ∃ n3, cell h (a7.add (Int.toNat (k - 1) * 1)) = some (.int .i64 n3) ∧ (0 ≤ k ∧ k < (rowL : Int)) ∧ NN row fun a8 => ∃ n4, cell h (a8.add (Int.toNat k * 1)) = some (.int .i64 n4) ∧ cond (decide (n4 ≤ n3)) (K (.bool false) h) (zcb_b6 rows rowsL rowsC all allL allC row rowL rowC k t12 t12L t12C t13 t14 h nx0 nx1 K)) (zcb_b7 rows rowsL rowsC all allL allC row rowL rowC t12 t12L t12C t13 t14 h nx0 K)
def zcb_b2 (rows : OA) (rowsL rowsC : Nat) (all : OA) (allL allC : Nat) (row : OA) (rowL rowC : Nat) (t12 : OA) (t12L t12C : Nat) (t13 t14 : Int) (h : Hp) (nx0 : (OA × Nat × Nat) × Int × Unit → Hp → Prop) (K : VK) : Prop :=
 yaaq ((1, ()) : Int × Unit) h (fun (nx1 : Int × Unit → Hp → Prop) (s2 : Int × Unit) h2 => zcb_b4 s2.1 rows rowsL rowsC all allL allC row rowL rowC t12 t12L t12C t13 t14 h2 nx0 nx1 K)
def zcb_b8 (t69 : OA) (t69L t69C : Nat) (t70 t71 : Int) (h : Hp) (nx0 : Int × Unit → Hp → Prop) (K : VK) : Prop :=
 InR (t71 + 1) ∧ nx0 (t71 + 1, ()) h
def zcb_b9 (h : Hp) (K : VK) : Prop :=
 K (.bool true) h
def zcb_b5 (t71 : Int) (t69 : OA) (t69L t69C : Nat) (t70 : Int) (h : Hp) (nx0 : Int × Unit → Hp → Prop) (K : VK) : Prop :=
 cond (decide (t71 < t70)) ((0 ≤ t71 ∧ t71 < (t69L : Int)) ∧ NN t69 fun a9 => ∃ n5, cell h (a9.add (Int.toNat t71 * 1)) = some (.int .i64 n5) ∧ cond (!decide (n5 = t71)) (K (.bool false) h) (zcb_b8 t69 t69L t69C t70 t71 h nx0 K)) (zcb_b9  h K)
def zcb_b3 (all : OA) (allL allC : Nat) (h : Hp) (K : VK) : Prop :=
 HC 125 #[.slice all allL allC] h fun v1 h3 => v1 = .tuple #[] ∧ yaaq ((0, ()) : Int × Unit) h3 (fun (nx0 : Int × Unit → Hp → Prop) (s3 : Int × Unit) h4 => zcb_b5 s3.1 all allL allC (allL : Int) h4 nx0 K)
def zcb_b1 (all : OA) (allL allC : Nat) (t14 : Int) (rows : OA) (rowsL rowsC : Nat) (t12 : OA) (t12L t12C : Nat) (t13 : Int) (h : Hp) (nx0 : (OA × Nat × Nat) × Int × Unit → Hp → Prop) (K : VK) : Prop :=
 cond (decide (t14 < t13)) ((0 ≤ t14 ∧ t14 < (t12L : Int)) ∧ NN t12 fun a1 => ∃ a2 L1 C1, cell h (a1.add (Int.toNat t14 * 1)) = some (.slice a2 L1 C1) ∧ cond (decide ((L1 : Int) = 0)) (K (.bool false) h) (InR ((allL : Int) + (L1 : Int)) ∧ cond (decide ((500 : Int) < ((allL : Int) + (L1 : Int)))) (K (.bool false) h) (cond (decide ((0 : Int) < t14)) (InR (t14 - 1) ∧ (0 ≤ t14 - 1 ∧ t14 - 1 < (rowsL : Int)) ∧ NN rows fun a3 => ∃ a4 L2 C2, cell h (a3.add (Int.toNat (t14 - 1) * 1)) = some (.slice a4 L2 C2) ∧ (0 ≤ (0 : Int) ∧ (0 : Int) < (L2 : Int)) ∧ NN a4 fun a5 => ∃ n1, cell h (a5.add (Int.toNat (0 : Int) * 1)) = some (.int .i64 n1) ∧ (0 ≤ (0 : Int) ∧ (0 : Int) < (L1 : Int)) ∧ NN a2 fun a6 => ∃
 n2, cell h (a6.add (Int.toNat (0 : Int) * 1)) = some (.int .i64 n2) ∧ cond (decide (n2 ≤ n1)) (K (.bool false) h) (zcb_b2 rows rowsL rowsC all allL allC a2 L1 C1 t12 t12L t12C t13 t14 h nx0 K)) (zcb_b2 rows rowsL rowsC all allL allC a2 L1 C1 t12 t12L t12C t13 t14 h nx0 K)))) (zcb_b3 all allL allC h K)
def zcb_b0 (rows : OA) (rowsL rowsC : Nat) (h : Hp) (K : VK) : Prop :=
 cond (decide ((500 : Int) < (rowsL : Int))) (K (.bool false) h) (yaaq (((none, 0, 0), 0, ()) : (OA × Nat × Nat) × Int × Unit) h (fun (nx0 : (OA × Nat × Nat) × Int × Unit → Hp → Prop) (s1 : (OA × Nat × Nat) × Int × Unit) h1 => zcb_b1 s1.1.1 s1.1.2.1 s1.1.2.2 s1.2.1 rows rowsL rowsC rows rowsL rowsC (rowsL : Int) h1 nx0 K))
theorem zcb_sx (rows rowsL rowsC h K) : zcb_b0 rows rowsL rowsC h K = sx_5 Tryz.prog F 80 (cp [] (yaab Tryz.f85)) (ap [] zcb_an) [(0, .slice rows rowsL rowsC)] h (retK Tryz.prog Tryz.f85.results.toList K) := by kernel_rfl
theorem zcb_call {rows rowsL rowsC h K} (hk : zcb_b0 rows rowsL rowsC h K) : HC 85 #[.slice rows rowsL rowsC] h K :=
 yaaa zcb_an Tryz.func85 (c := yaab Tryz.f85) rfl Tryz.ntmps85 (lb rfl) (snd_5 F_ok yaad) (Eq.mp (zcb_sx rows rowsL rowsC h K) hk)
def zdq_an : Ann := .leaf
def zdq_b0 (s : OA) (sL sC : Nat) (f : Value) (h : Hp) (K : VK) : Prop :=
 HC 98 #[.slice s sL sC, f] h fun v1 h1 => ∃ r1, v1 = .int .i64 r1 ∧ K (.bool (decide ((0 : Int) ≤ r1))) h1
theorem zdq_sx (s sL sC f h K) : zdq_b0 s sL sC f h K = sx_1 Tryz.prog F 9 (cp [] (yaab Tryz.f86)) (ap [] zdq_an) [(0, .slice s sL sC), (1, f)] h (retK Tryz.prog Tryz.f86.results.toList K) := by kernel_rfl
theorem zdq_call {s sL sC f h K} (hk : zdq_b0 s sL sC f h K) : HC 86 #[.slice s sL sC, f] h K :=
 yaaa zdq_an Tryz.func86 (c := yaab Tryz.f86) rfl Tryz.ntmps86 (lb rfl) (snd_1 F_ok yaad) (Eq.mp (zdq_sx s sL sC f h K) hk)
def zbh_an : Ann := .leaf
def zbh_b0 (c : Int) (h : Hp) (K : VK) : Prop :=
 HC 88 #[.int .i64 c] h fun v1 h1 => ∃ r1, v1 = .bool r1 ∧ K (.bool (!r1)) h1
theorem zbh_sx (c h K) : zbh_b0 c h K = sx_1 Tryz.prog F 6 (cp [] (yaab Tryz.f87)) (ap [] zbh_an) [(0, .int .i64 c)] h (retK Tryz.prog Tryz.f87.results.toList K) := by kernel_rfl
theorem zbh_call {c h K} (hk : zbh_b0 c h K) : HC 87 #[.int .i64 c] h K :=
 yaaa zbh_an Tryz.func87 (c := yaab Tryz.f87) rfl Tryz.ntmps87 (lb rfl) (snd_1 F_ok yaad) (Eq.mp (zbh_sx c h K) hk)
def zbj_an : Ann := .leaf
def zbj_b0 (nv : Int) (h : Hp) (K : VK) : Prop :=
 cond (decide ((0 : Int) ≤ nv)) (K (.bool (decide (nv ≤ 255))) h) (K (.bool false) h)
theorem zbj_sx (nv h K) : zbj_b0 nv h K = sx_1 Tryz.prog F 9 (cp [] (yaab Tryz.f88)) (ap [] zbj_an) [(0, .int .i64 nv)] h (retK Tryz.prog Tryz.f88.results.toList K) := by kernel_rfl
theorem zbj_call {nv h K} (hk : zbj_b0 nv h K) : HC 88 #[.int .i64 nv] h K :=
 yaaa zbj_an Tryz.func88 (c := yaab Tryz.f88) rfl Tryz.ntmps88 (lb rfl) (snd_1 F_ok yaad) (Eq.mp (zbj_sx nv h K) hk)
def zbf_an : Ann := .leaf
def zbf_b0 (c : Int) (h : Hp) (K : VK) : Prop :=
 HC 88 #[.int .i64 c] h fun v1 h1 => ∃ r1, v1 = .bool r1 ∧ K (.bool (!r1)) h1
theorem zbf_sx (c h K) : zbf_b0 c h K = sx_1 Tryz.prog F 6 (cp [] (yaab Tryz.f89)) (ap [] zbf_an) [(0, .int .i64 c)] h (retK Tryz.prog Tryz.f89.results.toList K) := by kernel_rfl
theorem zbf_call {c h K} (hk : zbf_b0 c h K) : HC 89 #[.int .i64 c] h K :=
 yaaa zbf_an Tryz.func89 (c := yaab Tryz.f89) rfl Tryz.ntmps89 (lb rfl) (snd_1 F_ok yaad) (Eq.mp (zbf_sx c h K) hk)
def zbg_an : Ann := .leaf
def zbg_b0 (nv : Int) (h : Hp) (K : VK) : Prop :=
 HC 91 #[.int .i64 nv] h fun v1 h1 => ∃ r1, v1 = .bool r1 ∧ K (.bool (!r1)) h1
theorem zbg_sx (nv h K) : zbg_b0 nv h K = sx_1 Tryz.prog F 6 (cp [] (yaab Tryz.f90)) (ap [] zbg_an) [(0, .int .i64 nv)] h (retK Tryz.prog Tryz.f90.results.toList K) := by kernel_rfl
theorem zbg_call {nv h K} (hk : zbg_b0 nv h K) : HC 90 #[.int .i64 nv] h K :=
 yaaa zbg_an Tryz.func90 (c := yaab Tryz.f90) rfl Tryz.ntmps90 (lb rfl) (snd_1 F_ok yaad) (Eq.mp (zbg_sx nv h K) hk)
def zbs_an : Ann := .leaf
def zbs_b0 (nv : Int) (h : Hp) (K : VK) : Prop :=
 cond (decide (((-1048576) : Int) ≤ nv)) (K (.bool (decide (nv ≤ 1048576))) h) (K (.bool false) h)
theorem zbs_sx (nv h K) : zbs_b0 nv h K = sx_1 Tryz.prog F 9 (cp [] (yaab Tryz.f91)) (ap [] zbs_an) [(0, .int .i64 nv)] h (retK Tryz.prog Tryz.f91.results.toList K) := by kernel_rfl
theorem zbs_call {nv h K} (hk : zbs_b0 nv h K) : HC 91 #[.int .i64 nv] h K :=
 yaaa zbs_an Tryz.func91 (c := yaab Tryz.f91) rfl Tryz.ntmps91 (lb rfl) (snd_1 F_ok yaad) (Eq.mp (zbs_sx nv h K) hk)
def zbn_an : Ann := N0 .leaf (N0 .leaf (N0 (N0 .leaf (N0 (.node (some [0, 5]) .leaf .leaf) .leaf)) (N0 .leaf (.node (some [0, 3, 5, 7, 8]) (N0 .leaf (N0 .leaf (N0 (N0 (N0 .leaf (N0 (N0 (.tail 9) .leaf) .leaf)) .leaf) .leaf))) (N0 .leaf (N0 .leaf (.node (some [0, 5, 9]) .leaf .leaf)))))))
def zbn_b1 (rows : OA) (rowsL rowsC : Nat) (t5 : OA) (h : Hp) (K : VK) : Prop :=
 moB 127 #[.int .i64 2] h t5 (.slice rows rowsL rowsC) K
def zbn_b3 (rows : OA) (rowsL rowsC : Nat) (t5 : OA) (v : Int) (h : Hp) (K : VK) : Prop :=
 moB 126 #[.int .i64 v] h t5 (.slice rows rowsL rowsC) K
def zbn_b2 (rows : OA) (rowsL rowsC : Nat) (o t5 : OA) (i : Int) (ok : Bool) (h : Hp) (K : VK) : Prop :=
 cond (!ok) (moB 127 #[.int .i64 12] h t5 (.slice rows rowsL rowsC) K) ((0 ≤ i ∧ i < (rowsL : Int)) ∧ NN rows fun a25 => ∃ a26 L10 C10, cell h (a25.add (Int.toNat i * 1)) = some (.slice a26 L10 C10) ∧ (0 ≤ (1 : Int) ∧ (1 : Int) < (L10 : Int)) ∧ NN a26 fun a27 => ∃ n10, cell h (a27.add (Int.toNat (1 : Int) * 1)) = some (.int .i64 n10) ∧ NN o fun a28 => ∃ n11, cell h a28 = some (.int .i64 n11) ∧ cond (decide (n11 = 3)) (InR (i + 1) ∧ HC 130 #[.slice rows rowsL rowsC, .int .i64 i, .int .i64 (i + 1)] h fun v17 h60 => ∃ r83 rL29 rC29, v17 = .slice r83 rL29 rC29 ∧ zbn_b3 r83 rL29 rC29 t5 n10 h60 K) (zbn_b3 rows rowsL rowsC t5 n10 h K))
def zbn_b0 (rows : OA) (rowsL rowsC : Nat) (o_0 : Int) (o_1 : OA) (o_1L o_1C : Nat) (h : Hp) (K : VK) : Prop :=
 New h (.cells #[.int .i64 o_0, .slice o_1 o_1L o_1C] 50) fun b1 h1 => New h1 (.cells #[.int .i64 0, .int .i64 0, .slice none 0 0] 58) fun b2 h2 => ∃ n1, cell h2 ⟨b1, 0, none⟩ = some (.int .i64 n1) ∧ cond (decide (n1 = 8)) (moB 126 #[.int .i64 (rowsL : Int)] h2 (some ⟨b2, 0, none⟩) (.slice rows rowsL rowsC) K) (∃ n2, cell h2 ⟨b1, 0, none⟩ = some (.int .i64 n2) ∧ cond (decide (n2 = 7)) (∃ a1 L1 C1, cell h2 ((⟨b1, 0, none⟩ : Addr).add 1) = some (.slice a1 L1 C1) ∧ (0 ≤ (0 : Int) ∧ (0 : Int) < (L1 : Int)) ∧ NN a1 fun a2 => ∃ n3, cell h2 (a2.add (Int.toNat (0 : Int) * 1)) = some (.int .i64 n3) ∧ cond (decide ((0 : Int) ≤ n3)) (cond (decide (n3 < (rowsL : Int))) ((0 ≤ n3 ∧ n3 < (rowsL : Int)) ∧ NN
 rows fun a3 => ∃ a4 L2 C2, cell h2 (a3.add (Int.toNat n3 * 1)) = some (.slice a4 L2 C2) ∧ (0 ≤ (0 : Int) ∧ (0 : Int) < (L2 : Int)) ∧ NN a4 fun a5 => ∃ n4, cell h2 (a5.add (Int.toNat (0 : Int) * 1)) = some (.int .i64 n4) ∧ moB 126 #[.int .i64 n4] h2 (some ⟨b2, 0, none⟩) (.slice rows rowsL rowsC) K) (zbn_b1 rows rowsL rowsC (some ⟨b2, 0, none⟩) h2 K)) (zbn_b1 rows rowsL rowsC (some ⟨b2, 0, none⟩) h2 K)) (∃ a6 L3 C3, cell h2 ((⟨b1, 0, none⟩ : Addr).add 1) = some (.slice a6 L3 C3) ∧ (0 ≤ (0 : Int) ∧ (0 : Int) ≤ (1 : Int) ∧ (1 : Int) ≤ (C3 : Int)) ∧ HC 128 #[.slice rows rowsL rowsC, .slice (yaak a6 C3 (Int.toNat (0 : Int)) 1) (Int.toNat (1 : Int) - Int.toNat (0 :
 Int)) (C3 - Int.toNat (0 : Int))] h2 fun v3 h11 => ∃ r13 r14, v3 = .tuple #[.int .i64 r13, .bool r14] ∧ ∃ n5, cell h11 ⟨b1, 0, none⟩ = some (.int .i64 n5) ∧ cond (decide (n5 = 1)) (cond r14 ((0 ≤ r13 ∧ r13 < (rowsL : Int)) ∧ NN rows fun a7 => ∃ a8 L4 C4, cell h11 (a7.add (Int.toNat r13 * 1)) = some (.slice a8 L4 C4) ∧ ∃ a9 L5 C5, cell h11 ((⟨b1, 0, none⟩ : Addr).add 1) = some (.slice a9 L5 C5) ∧ (0 ≤ (1 : Int) ∧ (1 : Int) < (L5 : Int)) ∧ NN a9 fun a10 => ∃ n6, cell h11 (a10.add (Int.toNat (1 : Int) * 1)) = some (.int .i64 n6) ∧ (0 ≤ (1 : Int) ∧ (1 : Int) < (L4 : Int)) ∧ NN a8 fun a11 => Wr h11 (a11.add (Int.toNat (1 : Int) * 1)) (.int .i64 n6) fun h12 => moB 126 #[.int .i64 1] h12 (some ⟨b2,
 0, none⟩) (.slice rows rowsL rowsC) K) (cond (decide ((rowsL : Int) = 500)) (moB 127 #[.int .i64 4] h11 (some ⟨b2, 0, none⟩) (.slice rows rowsL rowsC) K) (∃ a12 L6 C6, cell h11 ((⟨b1, 0, none⟩ : Addr).add 1) = some (.slice a12 L6 C6) ∧ HC 62 #[.slice a12 L6 C6] h11 fun v6 h21 => ∃ r27 rL9 rC9, v6 = .slice r27 rL9 rC9 ∧ New h21 (.cells #[.slice r27 rL9 rC9] 29) fun b3 h22 => HC 129 #[.slice rows rowsL rowsC, .int .i64 r13, .slice (some ⟨b3, 0, none⟩) 1 1] h22 fun v7 h23 => ∃ r28 rL10 rC10, v7 = .slice r28 rL10 rC10 ∧ moB 126 #[.int .i64 0] h23 (some ⟨b2, 0, none⟩) (.slice r28 rL10 rC10) K))) (cond (decide (n5 = 6)) (moB 126 #[.int .i64 r13] h11 (some ⟨b2, 0, none⟩)
 (.slice rows rowsL rowsC) K) (cond (decide (n5 = 4)) (cond r14 (∃ a13 L7 C7, cell h11 ((⟨b1, 0, none⟩ : Addr).add 1) = some (.slice a13 L7 C7) ∧ (0 ≤ (0 : Int) ∧ (0 : Int) < (L7 : Int)) ∧ NN a13 fun a14 => ∃ n7, cell h11 (a14.add (Int.toNat (0 : Int) * 1)) = some (.int .i64 n7) ∧ moB 126 #[.int .i64 n7] h11 (some ⟨b2, 0, none⟩) (.slice rows rowsL rowsC) K) (cond (decide (r13 = 0)) (moB 127 #[.int .i64 12] h11 (some ⟨b2, 0, none⟩) (.slice rows rowsL rowsC) K) (InR (r13 - 1) ∧ (0 ≤ r13 - 1 ∧ r13 - 1 < (rowsL : Int)) ∧ NN rows fun a15 => ∃ a16 L8 C8, cell h11 (a15.add (Int.toNat (r13 - 1) * 1)) = some (.slice a16 L8 C8) ∧ (0 ≤ (0 : Int) ∧ (0 : Int) < (L8 : Int)) ∧ NN a16 fun a17 => ∃ n8, cell
 h11 (a17.add (Int.toNat (0 : Int) * 1)) = some (.int .i64 n8) ∧ moB 126 #[.int .i64 n8] h11 (some ⟨b2, 0, none⟩) (.slice rows rowsL rowsC) K))) (cond (decide (n5 = 5)) (cond (decide (r13 = (rowsL : Int))) (moB 127 #[.int .i64 12] h11 (some ⟨b2, 0, none⟩) (.slice rows rowsL rowsC) K) ((0 ≤ r13 ∧ r13 < (rowsL : Int)) ∧ NN rows fun a18 => ∃ a19 L9 C9, cell h11 (a18.add (Int.toNat r13 * 1)) = some (.slice a19 L9 C9) ∧ (0 ≤ (0 : Int) ∧ (0 : Int) < (L9 : Int)) ∧ NN a19 fun a20 => ∃ n9, cell h11 (a20.add (Int.toNat (0 : Int) * 1)) = some (.int .i64 n9) ∧ moB 126 #[.int .i64 n9] h11 (some ⟨b2, 0, none⟩) (.slice rows rowsL rowsC) K)) (zbn_b2 rows rowsL rowsC (some ⟨b1, 0, none⟩) (some ⟨b2, 0,
 none⟩) r13 r14 h11 K))))))
theorem zbn_sx (rows rowsL rowsC o_0 o_1 o_1L o_1C h K) : zbn_b0 rows rowsL rowsC o_0 o_1 o_1L o_1C h K = sx_3 Tryz.prog F 143 (cp [] (yaab Tryz.f92)) (ap [] zbn_an) [(0, .slice rows rowsL rowsC), (1, .agg #[.int .i64 o_0, .slice o_1 o_1L o_1C])] h (retK Tryz.prog Tryz.f92.results.toList K) := by kernel_rfl
theorem zbn_call {rows rowsL rowsC o_0 o_1 o_1L o_1C h K} (hk : zbn_b0 rows rowsL rowsC o_0 o_1 o_1L o_1C h K) : HC 92 #[.slice rows rowsL rowsC, .agg #[.int .i64 o_0, .slice o_1 o_1L o_1C]] h K :=
 yaaa zbn_an Tryz.func92 (c := yaab Tryz.f92) rfl Tryz.ntmps92 (lb rfl) (snd_3 F_ok yaad) (Eq.mp (zbn_sx rows rowsL rowsC o_0 o_1 o_1L o_1C h K) hk)
def zbr_an : Ann := N0 .leaf (.node (some [0, 3, 5]) .leaf (N0 .leaf (N0 .leaf (.node (some [0, 5, 8]) .leaf .leaf))))
def zbr_b2 (rows : OA) (rowsL rowsC : Nat) (t5 : OA) (nv : Int) (h : Hp) (K : VK) : Prop :=
 moB 126 #[.int .i64 nv] h t5 (.slice rows rowsL rowsC) K
def zbr_b1 (rows : OA) (rowsL rowsC : Nat) (o t5 : OA) (h : Hp) (K : VK) : Prop :=
 cond (decide ((rowsL : Int) = 0)) (moB 127 #[.int .i64 14] h t5 (.slice rows rowsL rowsC) K) ((0 ≤ (0 : Int) ∧ (0 : Int) < (rowsL : Int)) ∧ NN rows fun a5 => ∃ a6 L3 C3, cell h (a5.add (Int.toNat (0 : Int) * 1)) = some (.slice a6 L3 C3) ∧ (0 ≤ (0 : Int) ∧ (0 : Int) < (L3 : Int)) ∧ NN a6 fun a7 => ∃ n2, cell h (a7.add (Int.toNat (0 : Int) * 1)) = some (.int .i64 n2) ∧ NN o fun a8 => ∃ n3, cell h a8 = some (.int .i64 n3) ∧ cond (decide (n3 = 3)) (HC 130 #[.slice rows rowsL rowsC, .int .i64 0, .int .i64 1] h fun v8 h23 => ∃ r29 rL11 rC11, v8 = .slice r29 rL11 rC11 ∧ zbr_b2 r29 rL11 rC11 t5 n2 h23 K) (zbr_b2 rows rowsL rowsC t5 n2 h K))
def zbr_b0 (rows : OA) (rowsL rowsC : Nat) (o_0 : Int) (o_1 : OA) (o_1L o_1C : Nat) (h : Hp) (K : VK) : Prop :=
 New h (.cells #[.int .i64 o_0, .slice o_1 o_1L o_1C] 50) fun b1 h1 => New h1 (.cells #[.int .i64 0, .int .i64 0, .slice none 0 0] 58) fun b2 h2 => ∃ n1, cell h2 ⟨b1, 0, none⟩ = some (.int .i64 n1) ∧ cond (decide (n1 = 4)) (moB 126 #[.int .i64 (rowsL : Int)] h2 (some ⟨b2, 0, none⟩) (.slice rows rowsL rowsC) K) (cond (decide (n1 = 1)) (cond (decide ((rowsL : Int) = 500)) (moB 127 #[.int .i64 4] h2 (some ⟨b2, 0, none⟩) (.slice rows rowsL rowsC) K) (∃ a1 L1 C1, cell h2 ((⟨b1, 0, none⟩ : Addr).add 1) = some (.slice a1 L1 C1) ∧ HC 128 #[.slice rows rowsL rowsC, .slice a1 L1 C1] h2 fun v3 h11 => ∃ r13 r14, v3 = .tuple #[.int .i64 r13, .bool r14] ∧ ∃ a2 L2 C2, cell h11 ((⟨b1, 0, none⟩
 : Addr).add 1) = some (.slice a2 L2 C2) ∧ HC 62 #[.slice a2 L2 C2] h11 fun v4 h12 => ∃ r15 rL5 rC5, v4 = .slice r15 rL5 rC5 ∧ New h12 (.cells #[.slice r15 rL5 rC5] 29) fun b3 h13 => HC 129 #[.slice rows rowsL rowsC, .int .i64 r13, .slice (some ⟨b3, 0, none⟩) 1 1] h13 fun v5 h14 => ∃ r16 rL6 rC6, v5 = .slice r16 rL6 rC6 ∧ moB 126 #[.int .i64 0] h14 (some ⟨b2, 0, none⟩) (.slice r16 rL6 rC6) K)) (zbr_b1 rows rowsL rowsC (some ⟨b1, 0, none⟩) (some ⟨b2, 0, none⟩) h2 K))
theorem zbr_sx (rows rowsL rowsC o_0 o_1 o_1L o_1C h K) : zbr_b0 rows rowsL rowsC o_0 o_1 o_1L o_1C h K = sx_3 Tryz.prog F 57 (cp [] (yaab Tryz.f93)) (ap [] zbr_an) [(0, .slice rows rowsL rowsC), (1, .agg #[.int .i64 o_0, .slice o_1 o_1L o_1C])] h (retK Tryz.prog Tryz.f93.results.toList K) := by kernel_rfl
theorem zbr_call {rows rowsL rowsC o_0 o_1 o_1L o_1C h K} (hk : zbr_b0 rows rowsL rowsC o_0 o_1 o_1L o_1C h K) : HC 93 #[.slice rows rowsL rowsC, .agg #[.int .i64 o_0, .slice o_1 o_1L o_1C]] h K :=
 yaaa zbr_an Tryz.func93 (c := yaab Tryz.f93) rfl Tryz.ntmps93 (lb rfl) (snd_3 F_ok yaad) (Eq.mp (zbr_sx rows rowsL rowsC o_0 o_1 o_1L o_1C h K) hk)
