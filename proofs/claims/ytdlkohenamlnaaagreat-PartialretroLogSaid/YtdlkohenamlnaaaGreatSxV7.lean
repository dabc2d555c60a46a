/- Plain statements of what each block of code of this seat asks; printed by a program, checked by Lean. -/
import Derived.Test.YtdlkohenamlnaaaGreatSxV0
set_option maxRecDepth 10000
namespace Go.Proofs.YtdlkohenamlnaaaGreat
open Go Go.Sx
def zcj_an : Ann := N0 .leaf (N0 .leaf (N0 .leaf (.node (some [0, 4, 5]) (N0 .leaf (.loop [0, 4, 5, 21, 22] [(23, .int .i64)] (N0 .leaf (N0 .leaf (.node (some [0, 4, 5, 21, 22, 23]) (N0 .leaf (N0 .leaf (N0 .leaf (N0 (.plan (.qu 0 (.qu 1 (.qu 2 (.qu 3 (.qu 4 (.wo 5 (.qu 6 (.qu 7 (.qu 8 (.wo 9 (.wo 10 .fin .no) .no)))) .no))))))) (.plan (.qu 0 (.qu 1 (.qu 2 (.qu 3 (.qu 4 (.qu 5 (.qu 6 (.wo 7 (.wo 8 (.qu 9 (.qu 10 (.wo 11 .fin .no))) .no) .no))))))))))))) .leaf))))) (N0 .leaf (.node (some [4]) (N0 .leaf (.loop [4, 5, 87, 88] [(11, .int .i64), (89, .int .i64)] (N0 .leaf (N0 .leaf (.node (some [4, 5, 11, 87, 88, 89]) (N0 .leaf (N0 .leaf (N0 .leaf (N0 (.plan (.qu 0 (.qu 1 (.qu 2 (.qu 3 (.qu 4 (.qu 5 (.qu 6 (.wo 7 (.wo 8 (.qu 9 (.qu 10 (.wo 11 .fin .no))) .no) .no))))))))) .leaf)))) .leaf))))) .leaf)))))
def zcj_b2 (l : OA) (lL lC : Nat) (q openv : OA) (openvL openvC : Nat) (t21 : OA) (t21L t21C : Nat) (t22 t23 : Int) (h : Hp) (nx0 : Int × Unit → Hp → Prop) (K : VK) : Prop :=
 InR (t23 + 1) ∧ nx0 (t23 + 1, ()) h
def zcj_b5 (q openv : OA) (openvL openvC : Nat) (nv : Int) (t87 : OA) (t87L t87C : Nat) (t88 t89 : Int) (h : Hp) (nx0 : Int × Int × Unit → Hp → Prop) (K : VK) : Prop :=
 InR (t89 + 1) ∧ nx0 (nv, t89 + 1, ()) h
def zcj_b6 (q : OA) (h : Hp) (K : VK) : Prop :=
 K (.tuple #[.pointer q, .bool true]) h
def zcj_b4 (nv t89 : Int) (q openv : OA) (openvL openvC : Nat) (t87 : OA) (t87L t87C : Nat) (t88 : Int) (h : Hp) (nx0 : Int × Int × Unit → Hp → Prop) (K : VK) : Prop :=
 cond (decide (t89 < t88)) ((0 ≤ t89 ∧ t89 < (t87L : Int)) ∧ NN t87 fun a20 => ∃ n11 n12 b8, cell h (a20.add (Int.toNat t89 * 3)) = some (.int .i64 n11) ∧ cell h ((a20.add (Int.toNat t89 * 3)).add 1) = some (.int .i64 n12) ∧ cell h ((a20.add (Int.toNat t89 * 3)).add 2) = some (.bool b8) ∧ New h (.cells #[.int .i64 0, .int .i64 0, .bool false] 106) fun b9 h20 => Wr h20 ⟨b9, 0, none⟩ (.int .i64 n11) fun h21 => Wr h21 ((⟨b9, 0, none⟩ : Addr).add 1) (.int .i64 n12) fun h22 => Wr h22 ((⟨b9, 0, none⟩ : Addr).add 2) (.bool b8) fun h23 => (0 ≤ t89 ∧ t89 < (openvL : Int)) ∧ NN openv fun a21 => ∃ n13, cell h23 (a21.add (Int.toNat t89 * 1)) = some (.int .i64 n13) ∧ InR (nv + n13) ∧ cond (decide ((nv +
 n13) = 0)) (NN q fun a22 => ∃ a23 L7 C7, cell h23 (a22.add 2) = some (.slice a23 L7 C7) ∧ ∃ n14, cell h23 ⟨b9, 0, none⟩ = some (.int .i64 n14) ∧ New h23 (.cells #[.int .i64 n14] 3) fun b10 h24 => (∃ a24 L8 C8, cell h24 (a22.add 2) = some (.slice a24 L8 C8) ∧ (.slice a24 L8 C8 : Value) = .slice a23 L7 C7) ∧ yaan Tryz.prog 23 23 (.slice a23 L7 C7) (.slice (some ⟨b10, 0, none⟩) 1 1) h24 (slK fun a25 l1 c1 h25 => NN q fun a26 => Wr h25 (a26.add 2) (.slice a25 l1 c1) fun h26 => zcj_b5 q openv openvL openvC (nv + n13) t87 t87L t87C t88 t89 h26 nx0 K)) (zcj_b5 q openv openvL openvC (nv + n13) t87 t87L t87C t88 t89 h23 nx0 K)) (zcj_b6 q h K)
def zcj_b3 (l : OA) (lL lC : Nat) (q openv : OA) (openvL openvC : Nat) (h : Hp) (K : VK) : Prop :=
 yaau ((0, 0, ()) : Int × Int × Unit) h (fun (nx0 : Int × Int × Unit → Hp → Prop) (s2 : Int × Int × Unit) h19 => zcj_b4 s2.1 s2.2.1 q openv openvL openvC l lL lC (lL : Int) h19 nx0 K)
def zcj_b1 (t23 : Int) (l : OA) (lL lC : Nat) (q openv : OA) (openvL openvC : Nat) (t21 : OA) (t21L t21C : Nat) (t22 : Int) (h : Hp) (nx0 : Int × Unit → Hp → Prop) (K : VK) : Prop :=
 cond (decide (t23 < t22)) ((0 ≤ t23 ∧ t23 < (t21L : Int)) ∧ NN t21 fun a1 => ∃ n1 n2 b3, cell h (a1.add (Int.toNat t23 * 3)) = some (.int .i64 n1) ∧ cell h ((a1.add (Int.toNat t23 * 3)).add 1) = some (.int .i64 n2) ∧ cell h ((a1.add (Int.toNat t23 * 3)).add 2) = some (.bool b3) ∧ New h (.cells #[.int .i64 0, .int .i64 0, .bool false] 106) fun b4 h4 => Wr h4 ⟨b4, 0, none⟩ (.int .i64 n1) fun h5 => Wr h5 ((⟨b4, 0, none⟩ : Addr).add 1) (.int .i64 n2) fun h6 => Wr h6 ((⟨b4, 0, none⟩ : Addr).add 2) (.bool b3) fun h7 => ∃ b5, cell h7 ((⟨b4, 0, none⟩ : Addr).add 2) = some (.bool b5) ∧ cond b5 (NN q fun a2 => ∃ a3 L1 C1, cell h7 (a2.add 1) = some (.slice a3 L1 C1) ∧ cond (decide ((L1 : Int) = 0)) (K
 (.tuple #[.pointer none, .bool false]) h7) (NN q fun a4 => ∃ a5 L2 C2, cell h7 (a4.add 1) = some (.slice a5 L2 C2) ∧ (0 ≤ (0 : Int) ∧ (0 : Int) < (L2 : Int)) ∧ NN a5 fun a6 => ∃ n3, cell h7 ((a6.add (Int.toNat (0 : Int) * 2)).add 1) = some (.int .i64 n3) ∧ (0 ≤ n3 ∧ n3 < (openvL : Int)) ∧ NN openv fun a7 => ∃ n4, cell h7 (a7.add (Int.toNat n3 * 1)) = some (.int .i64 n4) ∧ InR (n4 + 1) ∧ (0 ≤ n3 ∧ n3 < (openvL : Int)) ∧ NN openv fun a8 => Wr h7 (a8.add (Int.toNat n3 * 1)) (.int .i64 (n4 + 1)) fun h8 => (0 ≤ t23 ∧ t23 < (openvL : Int)) ∧ NN openv fun a9 => ∃ n5, cell h8 (a9.add (Int.toNat t23 * 1)) = some (.int .i64 n5) ∧ InR (n5 - 1) ∧ (0 ≤ t23 ∧ t23 < (openvL : Int)) ∧ NN openv fun a10 => Wr
 h8 (a10.add (Int.toNat t23 * 1)) (.int .i64 (n5 - 1)) fun h9 => NN q fun a11 => ∃ a12 L3 C3, cell h9 (a11.add 1) = some (.slice a12 L3 C3) ∧ HC 146 #[.slice a12 L3 C3, .int .i64 0, .int .i64 1] h9 fun v1 h10 => ∃ r1 rL1 rC1, v1 = .slice r1 rL1 rC1 ∧ NN q fun a13 => Wr h10 (a13.add 1) (.slice r1 rL1 rC1) fun h11 => zcj_b2 l lL lC q openv openvL openvC t21 t21L t21C t22 t23 h11 nx0 K)) (∃ n6, cell h7 ((⟨b4, 0, none⟩ : Addr).add 1) = some (.int .i64 n6) ∧ New h7 (.cells #[.int .i64 0, .int .i64 0] 101) fun b6 h12 => Wr h12 ⟨b6, 0, none⟩ (.int .i64 n6) fun h13 => Wr h13 ((⟨b6, 0, none⟩ : Addr).add 1) (.int .i64 t23) fun h14 => NN q fun a14 => ∃ a15 L4 C4, cell h14
 (a14.add 1) = some (.slice a15 L4 C4) ∧ ∃ n7 n8, cell h14 ⟨b6, 0, none⟩ = some (.int .i64 n7) ∧ cell h14 ((⟨b6, 0, none⟩ : Addr).add 1) = some (.int .i64 n8) ∧ HC 147 #[.slice a15 L4 C4, .agg #[.int .i64 n7, .int .i64 n8], .func (.func 148) #[] #[]] h14 fun v2 h15 => ∃ r2 r3, v2 = .tuple #[.int .i64 r2, .bool r3] ∧ NN q fun a16 => ∃ a17 L5 C5, cell h15 (a16.add 1) = some (.slice a17 L5 C5) ∧ ∃ n9 n10, cell h15 ⟨b6, 0, none⟩ = some (.int .i64 n9) ∧ cell h15 ((⟨b6, 0, none⟩ : Addr).add 1) = some (.int .i64 n10) ∧ New h15 (.cells #[.int .i64 n9, .int .i64 n10] 101) fun b7 h16 => (∃ a18 L6 C6, cell h16 (a16.add 1) = some (.slice a18 L6 C6) ∧ (.slice a18 L6 C6 : Value) = .slice a17
 L5 C5) ∧ HC 149 #[.slice a17 L5 C5, .int .i64 r2, .slice (some ⟨b7, 0, none⟩) 1 1] h16 fun v3 h17 => ∃ r4 rL2 rC2, v3 = .slice r4 rL2 rC2 ∧ NN q fun a19 => Wr h17 (a19.add 1) (.slice r4 rL2 rC2) fun h18 => zcj_b2 l lL lC q openv openvL openvC t21 t21L t21C t22 t23 h18 nx0 K)) (zcj_b3 l lL lC q openv openvL openvC h K)
def zcj_b0 (l : OA) (lL lC : Nat) (h : Hp) (K : VK) : Prop :=
 New h (.cells #[.slice l lL lC, .slice none 0 0, .slice none 0 0] 96) fun b1 h1 => InR ((lL : Int) + 1) ∧ (0 ≤ (lL : Int) + 1 ∧ (lL : Int) + 1 ≤ (lL : Int) + 1 ∧ (lL : Int) + 1 ≤ 281474976710656 ∧ ((lL : Int) + 1) * ((8 : Nat) : Int) ≤ 281474976710656) ∧ New h1 (.cells (repL (Int.toNat ((lL : Int) + 1) * 1) [.int .i64 0]).toArray 3) fun b2 h2 => yaau ((0, ()) : Int × Unit) h2 (fun (nx0 : Int × Unit → Hp → Prop) (s1 : Int × Unit) h3 => zcj_b1 s1.1 l lL lC (some ⟨b1, 0, none⟩) (some ⟨b2, 0, none⟩) (Int.toNat ((lL : Int) + 1)) (Int.toNat ((lL : Int) + 1)) l lL lC (lL : Int) h3 nx0 K)
theorem zcj_sx (l lL lC h K) : zcj_b0 l lL lC h K = sx_4 Tryz.prog F 115 (cp [] (yaac Tryz.f104)) (ap [] zcj_an) [(0, .slice l lL lC)] h (retK Tryz.prog Tryz.f104.results.toList K) := by kernel_rfl
theorem zcj_call {l lL lC h K} (hk : zcj_b0 l lL lC h K) : HC 104 #[.slice l lL lC] h K :=
 yaaa zcj_an Tryz.func104 (c := yaac Tryz.f104) rfl Tryz.ntmps104 (lb rfl) (snd_4 F_ok yaad) (Eq.mp (zcj_sx l lL lC h K) hk)
def zea_an : Ann := .leaf
def zea_b0 (s : OA) (sL sC : Nat) (f : Value) (h : Hp) (K : VK) : Prop :=
 HC 150 #[.slice s sL sC, f] h fun v1 h1 => ∃ r1, v1 = .int .i64 r1 ∧ K (.bool (decide ((0 : Int) ≤ r1))) h1
theorem zea_sx (s sL sC f h K) : zea_b0 s sL sC f h K = sx_1 Tryz.prog F 9 (cp [] (yaac Tryz.f105)) (ap [] zea_an) [(0, .slice s sL sC), (1, f)] h (retK Tryz.prog Tryz.f105.results.toList K) := by kernel_rfl
theorem zea_call {s sL sC f h K} (hk : zea_b0 s sL sC f h K) : HC 105 #[.slice s sL sC, f] h K :=
 yaaa zea_an Tryz.func105 (c := yaac Tryz.f105) rfl Tryz.ntmps105 (lb rfl) (snd_1 F_ok yaad) (Eq.mp (zea_sx s sL sC f h K) hk)
def zas_an : Ann := .leaf
def zas_b0 (c : Int) (h : Hp) (K : VK) : Prop :=
 HC 107 #[.int .i64 c] h fun v1 h1 => ∃ r1, v1 = .bool r1 ∧ K (.bool (!r1)) h1
theorem zas_sx (c h K) : zas_b0 c h K = sx_1 Tryz.prog F 6 (cp [] (yaac Tryz.f106)) (ap [] zas_an) [(0, .int .i64 c)] h (retK Tryz.prog Tryz.f106.results.toList K) := by kernel_rfl
theorem zas_call {c h K} (hk : zas_b0 c h K) : HC 106 #[.int .i64 c] h K :=
 yaaa zas_an Tryz.func106 (c := yaac Tryz.f106) rfl Tryz.ntmps106 (lb rfl) (snd_1 F_ok yaad) (Eq.mp (zas_sx c h K) hk)
def zaw_an : Ann := .leaf
def zaw_b0 (nv : Int) (h : Hp) (K : VK) : Prop :=
 cond (decide ((0 : Int) ≤ nv)) (K (.bool (decide (nv ≤ 255))) h) (K (.bool false) h)
theorem zaw_sx (nv h K) : zaw_b0 nv h K = sx_1 Tryz.prog F 9 (cp [] (yaac Tryz.f107)) (ap [] zaw_an) [(0, .int .i64 nv)] h (retK Tryz.prog Tryz.f107.results.toList K) := by kernel_rfl
theorem zaw_call {nv h K} (hk : zaw_b0 nv h K) : HC 107 #[.int .i64 nv] h K :=
 yaaa zaw_an Tryz.func107 (c := yaac Tryz.f107) rfl Tryz.ntmps107 (lb rfl) (snd_1 F_ok yaad) (Eq.mp (zaw_sx nv h K) hk)
def zat_an : Ann := .leaf
def zat_b0 (nv : Int) (h : Hp) (K : VK) : Prop :=
 HC 109 #[.int .i64 nv] h fun v1 h1 => ∃ r1, v1 = .bool r1 ∧ K (.bool (!r1)) h1
theorem zat_sx (nv h K) : zat_b0 nv h K = sx_1 Tryz.prog F 6 (cp [] (yaac Tryz.f108)) (ap [] zat_an) [(0, .int .i64 nv)] h (retK Tryz.prog Tryz.f108.results.toList K) := by kernel_rfl
theorem zat_call {nv h K} (hk : zat_b0 nv h K) : HC 108 #[.int .i64 nv] h K :=
 yaaa zat_an Tryz.func108 (c := yaac Tryz.f108) rfl Tryz.ntmps108 (lb rfl) (snd_1 F_ok yaad) (Eq.mp (zat_sx nv h K) hk)
def zbf_an : Ann := .leaf
def zbf_b0 (nv : Int) (h : Hp) (K : VK) : Prop :=
 cond (decide (((-1048576) : Int) ≤ nv)) (K (.bool (decide (nv ≤ 1048576))) h) (K (.bool false) h)
theorem zbf_sx (nv h K) : zbf_b0 nv h K = sx_1 Tryz.prog F 9 (cp [] (yaac Tryz.f109)) (ap [] zbf_an) [(0, .int .i64 nv)] h (retK Tryz.prog Tryz.f109.results.toList K) := by kernel_rfl
theorem zbf_call {nv h K} (hk : zbf_b0 nv h K) : HC 109 #[.int .i64 nv] h K :=
 yaaa zbf_an Tryz.func109 (c := yaac Tryz.f109) rfl Tryz.ntmps109 (lb rfl) (snd_1 F_ok yaad) (Eq.mp (zbf_sx nv h K) hk)
def zam_an : Ann := N0 .leaf (N0 .leaf (.node (some [1, 6]) .leaf .leaf))
def zam_b1 (code : Int) (l : OA) (lL lC : Nat) (h : Hp) (K : VK) : Prop :=
 InR (code - 1) ∧ (0 ≤ code - 1 ∧ code - 1 < (lL : Int)) ∧ NN l fun a1 => ∃ b1, cell h ((a1.add (Int.toNat (code - 1) * 3)).add 2) = some (.bool b1) ∧ K (.tuple #[.bool b1, .int .i64 0]) h
def zam_b0 (kind code : Int) (h : Hp) (K : VK) : Prop :=
 HC 90 #[.int .i64 kind] h fun v1 h1 => ∃ r1 rL1 rC1, v1 = .slice r1 rL1 rC1 ∧ cond (Option.isNone r1) (K (.tuple #[.bool false, .int .i64 1]) h1) (cond (decide (code < 1)) (K (.tuple #[.bool false, .int .i64 2]) h1) (cond (decide ((rL1 : Int) < code)) (K (.tuple #[.bool false, .int .i64 2]) h1) (zam_b1 code r1 rL1 rC1 h1 K)))
theorem zam_sx (kind code h K) : zam_b0 kind code h K = sx_2 Tryz.prog F 27 (cp [] (yaac Tryz.f110)) (ap [] zam_an) [(0, .int .i64 kind), (1, .int .i64 code)] h (retK Tryz.prog Tryz.f110.results.toList K) := by kernel_rfl
theorem zam_call {kind code h K} (hk : zam_b0 kind code h K) : HC 110 #[.int .i64 kind, .int .i64 code] h K :=
 yaaa zam_an Tryz.func110 (c := yaac Tryz.f110) rfl Tryz.ntmps110 (lb rfl) (snd_2 F_ok yaad) (Eq.mp (zam_sx kind code h K) hk)
def zdg_an : Ann := .leaf
def zdg_b0 (l : OA) (lL lC : Nat) (h : Hp) (K : VK) : Prop :=
 New h (.cells #[] 3) fun b1 h1 => yaan Tryz.prog 23 23 (.slice (some ⟨b1, 0, none⟩) 0 0) (.slice l lL lC) h1 (slK fun a1 l1 c1 h2 => K (.slice a1 l1 c1) h2)
theorem zdg_sx (l lL lC h K) : zdg_b0 l lL lC h K = sx_1 Tryz.prog F 6 (cp [] (yaac Tryz.f111)) (ap [] zdg_an) [(0, .slice l lL lC)] h (retK Tryz.prog Tryz.f111.results.toList K) := by kernel_rfl
theorem zdg_call {l lL lC h K} (hk : zdg_b0 l lL lC h K) : HC 111 #[.slice l lL lC] h K :=
 yaaa zdg_an Tryz.func111 (c := yaac Tryz.f111) rfl Tryz.ntmps111 (lb rfl) (snd_1 F_ok yaad) (Eq.mp (zdg_sx l lL lC h K) hk)
def zdk_an : Ann := .leaf
def zdk_b0 (s_0 : Int) (s_1 : OA) (s_1L s_1C : Nat) (nv : Int) (h : Hp) (K : VK) : Prop :=
 New h (.cells #[.int .i64 s_0, .slice s_1 s_1L s_1C] 66) fun b1 h1 => New h1 (.cells #[.int .i64 0, .slice none 0 0] 66) fun b2 h2 => New h2 (.cells #[.int .i64 0, .int .i64 0, .slice none 0 0] 61) fun b3 h3 => ∃ n1 a1 L1 C1, cell h3 ⟨b1, 0, none⟩ = some (.int .i64 n1) ∧ cell h3 ((⟨b1, 0, none⟩ : Addr).add 1) = some (.slice a1 L1 C1) ∧ Wr h3 ⟨b2, 0, none⟩ (.int .i64 n1) fun h4 => Wr h4 ((⟨b2, 0, none⟩ : Addr).add 1) (.slice a1 L1 C1) fun h5 => Wr h5 ⟨b3, 0, none⟩ (.int .i64 0) fun h6 => Wr h6 ((⟨b3, 0, none⟩ : Addr).add 1) (.int .i64 nv) fun h7 => Wr h7 ((⟨b3, 0, none⟩ : Addr).add 2) (.slice none 0 0) fun h8 => ∃ r1 r2 rL1 rC1, cell h8 ⟨b2, 0, none⟩ = some (.int .i64 r1) ∧ cell h8 ((⟨b2, 0,
 none⟩ : Addr).add 1) = some (.slice r2 rL1 rC1) ∧ ∃ r3 r4 r5 rL2 rC2, cell h8 ⟨b3, 0, none⟩ = some (.int .i64 r3) ∧ cell h8 ((⟨b3, 0, none⟩ : Addr).add 1) = some (.int .i64 r4) ∧ cell h8 ((⟨b3, 0, none⟩ : Addr).add 2) = some (.slice r5 rL2 rC2) ∧ K (.tuple #[.agg #[.int .i64 r1, .slice r2 rL1 rC1], .agg #[.int .i64 r3, .int .i64 r4, .slice r5 rL2 rC2]]) h8
theorem zdk_sx (s_0 s_1 s_1L s_1C nv h K) : zdk_b0 s_0 s_1 s_1L s_1C nv h K = sx_1 Tryz.prog F 9 (cp [] (yaac Tryz.f112)) (ap [] zdk_an) [(0, .agg #[.int .i64 s_0, .slice s_1 s_1L s_1C]), (1, .int .i64 nv)] h (retK Tryz.prog Tryz.f112.results.toList K) := by kernel_rfl
theorem zdk_call {s_0 s_1 s_1L s_1C nv h K} (hk : zdk_b0 s_0 s_1 s_1L s_1C nv h K) : HC 112 #[.agg #[.int .i64 s_0, .slice s_1 s_1L s_1C], .int .i64 nv] h K :=
 yaaa zdk_an Tryz.func112 (c := yaac Tryz.f112) rfl Tryz.ntmps112 (lb rfl) (snd_1 F_ok yaad) (Eq.mp (zdk_sx s_0 s_1 s_1L s_1C nv h K) hk)
def zcz_an : Ann := .leaf
def zcz_b0 (s_0 : Int) (s_1 : OA) (s_1L s_1C : Nat) (e : Int) (h : Hp) (K : VK) : Prop :=
 New h (.cells #[.int .i64 s_0, .slice s_1 s_1L s_1C] 66) fun b1 h1 => New h1 (.cells #[.int .i64 0, .slice none 0 0] 66) fun b2 h2 => New h2 (.cells #[.int .i64 0, .int .i64 0, .slice none 0 0] 61) fun b3 h3 => ∃ n1 a1 L1 C1, cell h3 ⟨b1, 0, none⟩ = some (.int .i64 n1) ∧ cell h3 ((⟨b1, 0, none⟩ : Addr).add 1) = some (.slice a1 L1 C1) ∧ Wr h3 ⟨b2, 0, none⟩ (.int .i64 n1) fun h4 => Wr h4 ((⟨b2, 0, none⟩ : Addr).add 1) (.slice a1 L1 C1) fun h5 => Wr h5 ⟨b3, 0, none⟩ (.int .i64 e) fun h6 => Wr h6 ((⟨b3, 0, none⟩ : Addr).add 1) (.int .i64 0) fun h7 => Wr h7 ((⟨b3, 0, none⟩ : Addr).add 2) (.slice none 0 0) fun h8 => ∃ r1 r2 rL1 rC1, cell h8 ⟨b2, 0, none⟩ = some (.int .i64 r1) ∧ cell h8 ((⟨b2, 0,
 none⟩ : Addr).add 1) = some (.slice r2 rL1 rC1) ∧ ∃ r3 r4 r5 rL2 rC2, cell h8 ⟨b3, 0, none⟩ = some (.int .i64 r3) ∧ cell h8 ((⟨b3, 0, none⟩ : Addr).add 1) = some (.int .i64 r4) ∧ cell h8 ((⟨b3, 0, none⟩ : Addr).add 2) = some (.slice r5 rL2 rC2) ∧ K (.tuple #[.agg #[.int .i64 r1, .slice r2 rL1 rC1], .agg #[.int .i64 r3, .int .i64 r4, .slice r5 rL2 rC2]]) h8
theorem zcz_sx (s_0 s_1 s_1L s_1C e h K) : zcz_b0 s_0 s_1 s_1L s_1C e h K = sx_1 Tryz.prog F 9 (cp [] (yaac Tryz.f113)) (ap [] zcz_an) [(0, .agg #[.int .i64 s_0, .slice s_1 s_1L s_1C]), (1, .int .i64 e)] h (retK Tryz.prog Tryz.f113.results.toList K) := by kernel_rfl
theorem zcz_call {s_0 s_1 s_1L s_1C e h K} (hk : zcz_b0 s_0 s_1 s_1L s_1C e h K) : HC 113 #[.agg #[.int .i64 s_0, .slice s_1 s_1L s_1C], .int .i64 e] h K :=
 yaaa zcz_an Tryz.func113 (c := yaac Tryz.f113) rfl Tryz.ntmps113 (lb rfl) (snd_1 F_ok yaad) (Eq.mp (zcz_sx s_0 s_1 s_1L s_1C e h K) hk)
def zdf_an : Ann := N0 .leaf (N0 .leaf (N0 (.plan (.qu 0 (.qu 1 (.qu 4 (.qu 5 (.qu 6 (.wo 2 (.wo 3 (.wo 7 (.wo 8 .fin .no) .no) .no) .no))))))) .leaf))
def zdf_b0 (l : OA) (lL lC : Nat) (i : Int) (x : OA) (xL xC : Nat) (h : Hp) (K : VK) : Prop :=
 New h (.cells #[] 23) fun b1 h1 => (0 ≤ (0 : Int) ∧ (0 : Int) ≤ i ∧ i ≤ (lC : Int)) ∧ yaan Tryz.prog 64 64 (.slice (some ⟨b1, 0, none⟩) 0 0) (.slice (yaab l lC (Int.toNat (0 : Int)) 1) (Int.toNat i - Int.toNat (0 : Int)) (lC - Int.toNat (0 : Int))) h1 (slK fun a1 l1 c1 h2 => (0 ≤ i ∧ i ≤ (lL : Int) ∧ (lL : Int) ≤ (lC : Int)) ∧ New h2 (.cells #[.slice x xL xC] 23) fun b2 h3 => ((0 ≤ i ∧ i ≤ (lL : Int) ∧ (lL : Int) ≤ (lC : Int)) ∧ (.slice (yaab l lC (Int.toNat i) 1) (Int.toNat (lL : Int) - Int.toNat i) (lC - Int.toNat i) : Value) = .slice (yaab l lC (Int.toNat i) 1) (Int.toNat (lL : Int) - Int.toNat i) (lC - Int.toNat i)) ∧ yaan Tryz.prog 64 64 (.slice a1 l1 c1) (.slice (some
 ⟨b2, 0, none⟩) 1 1) h3 (slK fun a2 l2 c2 h4 => ((0 ≤ i ∧ i ≤ (lL : Int) ∧ (lL : Int) ≤ (lC : Int)) ∧ (.slice (yaab l lC (Int.toNat i) 1) (Int.toNat (lL : Int) - Int.toNat i) (lC - Int.toNat i) : Value) = .slice (yaab l lC (Int.toNat i) 1) (Int.toNat (lL : Int) - Int.toNat i) (lC - Int.toNat i)) ∧ yaan Tryz.prog 64 64 (.slice a2 l2 c2) (.slice (yaab l lC (Int.toNat i) 1) (Int.toNat (lL : Int) - Int.toNat i) (lC - Int.toNat i)) h4 (slK fun a3 l3 c3 h5 => K (.slice a3 l3 c3) h5)))
theorem zdf_sx (l lL lC i x xL xC h K) : zdf_b0 l lL lC i x xL xC h K = sx_1 Tryz.prog F 21 (cp [] (yaac Tryz.f114)) (ap [] zdf_an) [(0, .slice l lL lC), (1, .int .i64 i), (2, .slice x xL xC)] h (retK Tryz.prog Tryz.f114.results.toList K) := by kernel_rfl
theorem zdf_call {l lL lC i x xL xC h K} (hk : zdf_b0 l lL lC i x xL xC h K) : HC 114 #[.slice l lL lC, .int .i64 i, .slice x xL xC] h K :=
 yaaa zdf_an Tryz.func114 (c := yaac Tryz.f114) rfl Tryz.ntmps114 (lb rfl) (snd_1 F_ok yaad) (Eq.mp (zdf_sx l lL lC i x xL xC h K) hk)
def zcx_an : Ann := N0 .leaf (N0 (.plan (.qu 1 (.qu 2 (.qu 3 (.qu 5 (.qu 6 (.qu 7 (.qu 8 (.wo 0 (.wo 4 (.wo 9 (.wo 10 .fin .no) .no) .no) .no))))))))) .leaf)
def zcx_b0 (l : OA) (lL lC : Nat) (i : Int) (h : Hp) (K : VK) : Prop :=
 (0 ≤ (0 : Int) ∧ (0 : Int) ≤ i ∧ i ≤ (lC : Int)) ∧ InR (i + 1) ∧ (0 ≤ i + 1 ∧ i + 1 ≤ (lL : Int) ∧ (lL : Int) ≤ (lC : Int)) ∧ New h (.cells #[] 23) fun b1 h1 => ((0 ≤ i + 1 ∧ i + 1 ≤ (lL : Int) ∧ (lL : Int) ≤ (lC : Int)) ∧ (.slice (yaab l lC (Int.toNat (i + 1)) 1) (Int.toNat (lL : Int) - Int.toNat (i + 1)) (lC - Int.toNat (i + 1)) : Value) = .slice (yaab l lC (Int.toNat (i + 1)) 1) (Int.toNat (lL : Int) - Int.toNat (i + 1)) (lC - Int.toNat (i + 1))) ∧ ((0 ≤ (0 : Int) ∧ (0 : Int) ≤ i ∧ i ≤ (lC : Int)) ∧ (.slice (yaab l lC (Int.toNat (0 : Int)) 1) (Int.toNat i - Int.toNat (0 : Int)) (lC - Int.toNat (0 : Int)) : Value) = .slice (yaab l lC (Int.toNat (0 : Int)) 1) (Int.toNat i -
 Int.toNat (0 : Int)) (lC - Int.toNat (0 : Int))) ∧ yaan Tryz.prog 64 64 (.slice (some ⟨b1, 0, none⟩) 0 0) (.slice (yaab l lC (Int.toNat (0 : Int)) 1) (Int.toNat i - Int.toNat (0 : Int)) (lC - Int.toNat (0 : Int))) h1 (slK fun a1 l1 c1 h2 => ((0 ≤ i + 1 ∧ i + 1 ≤ (lL : Int) ∧ (lL : Int) ≤ (lC : Int)) ∧ (.slice (yaab l lC (Int.toNat (i + 1)) 1) (Int.toNat (lL : Int) - Int.toNat (i + 1)) (lC - Int.toNat (i + 1)) : Value) = .slice (yaab l lC (Int.toNat (i + 1)) 1) (Int.toNat (lL : Int) - Int.toNat (i + 1)) (lC - Int.toNat (i + 1))) ∧ yaan Tryz.prog 64 64 (.slice a1 l1 c1) (.slice (yaab l lC (Int.toNat (i + 1)) 1) (Int.toNat (lL : Int) - Int.toNat (i + 1)) (lC - Int.toNat (i +
 1))) h2 (slK fun a2 l2 c2 h3 => K (.slice a2 l2 c2) h3))
theorem zcx_sx (l lL lC i h K) : zcx_b0 l lL lC i h K = sx_1 Tryz.prog F 15 (cp [] (yaac Tryz.f115)) (ap [] zcx_an) [(0, .slice l lL lC), (1, .int .i64 i)] h (retK Tryz.prog Tryz.f115.results.toList K) := by kernel_rfl
theorem zcx_call {l lL lC i h K} (hk : zcx_b0 l lL lC i h K) : HC 115 #[.slice l lL lC, .int .i64 i] h K :=
 yaaa zcx_an Tryz.func115 (c := yaac Tryz.f115) rfl Tryz.ntmps115 (lb rfl) (snd_1 F_ok yaad) (Eq.mp (zcx_sx l lL lC i h K) hk)
def zcr_an : Ann := N0 .leaf (.node (some [1]) .leaf (N0 .leaf (.node (some [3]) (N0 .leaf (.loop [1] [(3, .int .i64), (4, .int .i64)] (N0 .leaf (.node (some [1, 3, 4]) .leaf .leaf)))) .leaf)))
def zcr_b3 (s : OA) (nv i : Int) (h : Hp) (nx0 : Int × Int × Unit → Hp → Prop) (K : VK) : Prop :=
 InR (i + 1) ∧ nx0 (nv, i + 1, ()) h
def zcr_b4 (nv : Int) (h : Hp) (K : VK) : Prop :=
 K (.int .i64 nv) h
def zcr_b2 (nv i : Int) (s : OA) (h : Hp) (nx0 : Int × Int × Unit → Hp → Prop) (K : VK) : Prop :=
 NN s fun a2 => ∃ a3 L2 C2, cell h (a2.add 1) = some (.slice a3 L2 C2) ∧ cond (decide (i < (L2 : Int))) (NN s fun a4 => ∃ a5 L3 C3, cell h (a4.add 1) = some (.slice a5 L3 C3) ∧ (0 ≤ i ∧ i < (L3 : Int)) ∧ NN a5 fun a6 => ∃ a7 L4 C4, cell h (a6.add (Int.toNat i * 1)) = some (.slice a7 L4 C4) ∧ InR (nv + (L4 : Int)) ∧ zcr_b3 s (nv + (L4 : Int)) i h nx0 K) (zcr_b4 nv h K)
def zcr_b1 (s : OA) (h : Hp) (K : VK) : Prop :=
 yaau ((0, 0, ()) : Int × Int × Unit) h (fun (nx0 : Int × Int × Unit → Hp → Prop) (s1 : Int × Int × Unit) h2 => zcr_b2 s1.1 s1.2.1 s h2 nx0 K)
def zcr_b0 (s_0 : Int) (s_1 : OA) (s_1L s_1C : Nat) (h : Hp) (K : VK) : Prop :=
 New h (.cells #[.int .i64 s_0, .slice s_1 s_1L s_1C] 66) fun b1 h1 => ∃ n1, cell h1 ⟨b1, 0, none⟩ = some (.int .i64 n1) ∧ cond (!decide (n1 = 4)) (∃ n2, cell h1 ⟨b1, 0, none⟩ = some (.int .i64 n2) ∧ cond (!decide (n2 = 6)) (∃ a1 L1 C1, cell h1 ((⟨b1, 0, none⟩ : Addr).add 1) = some (.slice a1 L1 C1) ∧ K (.int .i64 (L1 : Int)) h1) (zcr_b1 (some ⟨b1, 0, none⟩) h1 K)) (zcr_b1 (some ⟨b1, 0, none⟩) h1 K)
theorem zcr_sx (s_0 s_1 s_1L s_1C h K) : zcr_b0 s_0 s_1 s_1L s_1C h K = sx_4 Tryz.prog F 32 (cp [] (yaac Tryz.f116)) (ap [] zcr_an) [(0, .agg #[.int .i64 s_0, .slice s_1 s_1L s_1C])] h (retK Tryz.prog Tryz.f116.results.toList K) := by kernel_rfl
theorem zcr_call {s_0 s_1 s_1L s_1C h K} (hk : zcr_b0 s_0 s_1 s_1L s_1C h K) : HC 116 #[.agg #[.int .i64 s_0, .slice s_1 s_1L s_1C]] h K :=
 yaaa zcr_an Tryz.func116 (c := yaac Tryz.f116) rfl Tryz.ntmps116 (lb rfl) (snd_4 F_ok yaad) (Eq.mp (zcr_sx s_0 s_1 s_1L s_1C h K) hk)
def zcw_an : Ann := N0 .leaf (.node (some []) (N0 .leaf (.loop [1, 2] [(5, .int .i64)] (N0 .leaf (.node (some [1, 2, 5]) (N0 .leaf (.loop [1, 2, 5] [(6, .int .i64)] (N0 .leaf (.node (some [1, 2, 5, 6]) .leaf .leaf)))) .leaf)))) .leaf)
def zcw_b4 (x : Int) (s : OA) (i k : Int) (h : Hp) (nx0 nx1 : Int × Unit → Hp → Prop) (K : VK) : Prop :=
 InR (k + 1) ∧ nx1 (k + 1, ()) h
def zcw_b5 (x : Int) (s : OA) (i : Int) (h : Hp) (nx0 : Int × Unit → Hp → Prop) (K : VK) : Prop :=
 InR (i + 1) ∧ nx0 (i + 1, ()) h
def zcw_b2 (k x : Int) (s : OA) (i : Int) (h : Hp) (nx0 nx1 : Int × Unit → Hp → Prop) (K : VK) : Prop :=
 NN s fun a3 => ∃ a4 L2 C2, cell h (a3.add 1) = some (.slice a4 L2 C2) ∧ (0 ≤ i ∧ i < (L2 : Int)) ∧ NN a4 fun a5 => ∃ a6 L3 C3, cell h (a5.add (Int.toNat i * 1)) = some (.slice a6 L3 C3) ∧ cond (decide (k < (L3 : Int))) (NN s fun a7 => ∃ a8 L4 C4, cell h (a7.add 1) = some (.slice a8 L4 C4) ∧ (0 ≤ i ∧ i < (L4 : Int)) ∧ NN a8 fun a9 => ∃ a10 L5 C5, cell h (a9.add (Int.toNat i * 1)) = some (.slice a10 L5 C5) ∧ (0 ≤ k ∧ k < (L5 : Int)) ∧ NN a10 fun a11 => ∃ n1, cell h (a11.add (Int.toNat k * 1)) = some (.int .i64 n1) ∧ cond (decide (n1 = x)) (K (.int .i64 i) h) (zcw_b4 x s i k h nx0 nx1 K)) (zcw_b5 x s i h nx0 K)
def zcw_b3 (h : Hp) (K : VK) : Prop :=
 K (.int .i64 (-1)) h
def zcw_b1 (i x : Int) (s : OA) (h : Hp) (nx0 : Int × Unit → Hp → Prop) (K : VK) : Prop :=
 NN s fun a1 => ∃ a2 L1 C1, cell h (a1.add 1) = some (.slice a2 L1 C1) ∧ cond (decide (i < (L1 : Int))) (yaau ((0, ()) : Int × Unit) h (fun (nx1 : Int × Unit → Hp → Prop) (s2 : Int × Unit) h3 => zcw_b2 s2.1 x s i h3 nx0 nx1 K)) (zcw_b3  h K)
def zcw_b0 (s_0 : Int) (s_1 : OA) (s_1L s_1C : Nat) (x : Int) (h : Hp) (K : VK) : Prop :=
 New h (.cells #[.int .i64 s_0, .slice s_1 s_1L s_1C] 66) fun b1 h1 => yaau ((0, ()) : Int × Unit) h1 (fun (nx0 : Int × Unit → Hp → Prop) (s1 : Int × Unit) h2 => zcw_b1 s1.1 x (some ⟨b1, 0, none⟩) h2 nx0 K)
theorem zcw_sx (s_0 s_1 s_1L s_1C x h K) : zcw_b0 s_0 s_1 s_1L s_1C x h K = sx_4 Tryz.prog F 35 (cp [] (yaac Tryz.f117)) (ap [] zcw_an) [(0, .agg #[.int .i64 s_0, .slice s_1 s_1L s_1C]), (1, .int .i64 x)] h (retK Tryz.prog Tryz.f117.results.toList K) := by kernel_rfl
theorem zcw_call {s_0 s_1 s_1L s_1C x h K} (hk : zcw_b0 s_0 s_1 s_1L s_1C x h K) : HC 117 #[.agg #[.int .i64 s_0, .slice s_1 s_1L s_1C], .int .i64 x] h K :=
 yaaa zcw_an Tryz.func117 (c := yaac Tryz.f117) rfl Tryz.ntmps117 (lb rfl) (snd_4 F_ok yaad) (Eq.mp (zcw_sx s_0 s_1 s_1L s_1C x h K) hk)
def zdc_an : Ann := N0 .leaf (N0 .leaf (N0 .leaf (.node (some [5]) (.loop [0, 1] [(5, .slice), (6, .int .i64), (7, .int .i64)] (.node (some [0, 1, 5, 6, 7]) .leaf .leaf)) .leaf)))
def zdc_b2 (a : OA) (aL aC : Nat) (b : OA) (bL bC : Nat) (out : OA) (outL outC : Nat) (i k : Int) (h : Hp) (nx0 : (OA × Nat × Nat) × Int × Int × Unit → Hp → Prop) (K : VK) : Prop :=
 cond (decide (k = (bL : Int))) ((0 ≤ i ∧ i < (aL : Int)) ∧ NN a fun a1 => ∃ n1, cell h (a1.add (Int.toNat i * 1)) = some (.int .i64 n1) ∧ New h (.cells #[.int .i64 n1] 3) fun b1 h2 => yaan Tryz.prog 23 23 (.slice out outL outC) (.slice (some ⟨b1, 0, none⟩) 1 1) h2 (slK fun a2 l1 c1 h3 => InR (i + 1) ∧ nx0 ((a2, l1, c1), i + 1, k, ()) h3)) (cond (decide (i < (aL : Int))) ((0 ≤ i ∧ i < (aL : Int)) ∧ NN a fun a3 => ∃ n2, cell h (a3.add (Int.toNat i * 1)) = some (.int .i64 n2) ∧ (0 ≤ k ∧ k < (bL : Int)) ∧ NN b fun a4 => ∃ n3, cell h (a4.add (Int.toNat k * 1)) = some (.int .i64 n3) ∧ cond (decide (n2 < n3)) ((0 ≤ i ∧ i < (aL : Int)) ∧ NN a fun a5 => ∃ n4, cell h (a5.add (Int.toNat i * 1)) =
 some (.int .i64 n4) ∧ New h (.cells #[.int .i64 n4] 3) fun b2 h4 => yaan Tryz.prog 23 23 (.slice out outL outC) (.slice (some ⟨b2, 0, none⟩) 1 1) h4 (slK fun a6 l2 c2 h5 => InR (i + 1) ∧ nx0 ((a6, l2, c2), i + 1, k, ()) h5)) ((0 ≤ k ∧ k < (bL : Int)) ∧ NN b fun a7 => ∃ n5, cell h (a7.add (Int.toNat k * 1)) = some (.int .i64 n5) ∧ New h (.cells #[.int .i64 n5] 3) fun b3 h6 => yaan Tryz.prog 23 23 (.slice out outL outC) (.slice (some ⟨b3, 0, none⟩) 1 1) h6 (slK fun a8 l3 c3 h7 => InR (k + 1) ∧ nx0 ((a8, l3, c3), i, k + 1, ()) h7))) ((0 ≤ k ∧ k < (bL : Int)) ∧ NN b fun a9 => ∃ n6, cell h (a9.add (Int.toNat k * 1)) = some (.int .i64 n6) ∧ New h (.cells #[.int .i64 n6] 3) fun b4 h8 =>
 yaan Tryz.prog 23 23 (.slice out outL outC) (.slice (some ⟨b4, 0, none⟩) 1 1) h8 (slK fun a10 l4 c4 h9 => InR (k + 1) ∧ nx0 ((a10, l4, c4), i, k + 1, ()) h9)))
def zdc_b3 (out : OA) (outL outC : Nat) (h : Hp) (K : VK) : Prop :=
 K (.slice out outL outC) h
def zdc_b1 (out : OA) (outL outC : Nat) (i k : Int) (a : OA) (aL aC : Nat) (b : OA) (bL bC : Nat) (h : Hp) (nx0 : (OA × Nat × Nat) × Int × Int × Unit → Hp → Prop) (K : VK) : Prop :=
 cond (decide (i < (aL : Int))) (zdc_b2 a aL aC b bL bC out outL outC i k h nx0 K) (cond (decide (k < (bL : Int))) (zdc_b2 a aL aC b bL bC out outL outC i k h nx0 K) (zdc_b3 out outL outC h K))
def zdc_b0 (a : OA) (aL aC : Nat) (b : OA) (bL bC : Nat) (h : Hp) (K : VK) : Prop :=
 yaau (((none, 0, 0), 0, 0, ()) : (OA × Nat × Nat) × Int × Int × Unit) h (fun (nx0 : (OA × Nat × Nat) × Int × Int × Unit → Hp → Prop) (s1 : (OA × Nat × Nat) × Int × Int × Unit) h1 => zdc_b1 s1.1.1 s1.1.2.1 s1.1.2.2 s1.2.1 s1.2.2.1 a aL aC b bL bC h1 nx0 K)
theorem zdc_sx (a aL aC b bL bC h K) : zdc_b0 a aL aC b bL bC h K = sx_3 Tryz.prog F 58 (cp [] (yaac Tryz.f118)) (ap [] zdc_an) [(0, .slice a aL aC), (1, .slice b bL bC)] h (retK Tryz.prog Tryz.f118.results.toList K) := by kernel_rfl
theorem zdc_call {a aL aC b bL bC h K} (hk : zdc_b0 a aL aC b bL bC h K) : HC 118 #[.slice a aL aC, .slice b bL bC] h K :=
 yaaa zdc_an Tryz.func118 (c := yaac Tryz.f118) rfl Tryz.ntmps118 (lb rfl) (snd_3 F_ok yaad) (Eq.mp (zdc_sx a aL aC b bL bC h K) hk)
def zcv_an : Ann := N0 .leaf (.node (some []) (N0 .leaf (.loop [0, 1, 2] [(7, .int .i64)] (N0 .leaf (.node (some [0, 1, 2, 7]) .leaf .leaf)))) .leaf)
def zcv_b2 (a : OA) (aL aC : Nat) (b : OA) (bL bC : Nat) (columns i : Int) (h : Hp) (nx0 : Int × Unit → Hp → Prop) (K : VK) : Prop :=
 InR (i + 1) ∧ nx0 (i + 1, ()) h
def zcv_b3 (h : Hp) (K : VK) : Prop :=
 K (.bool false) h
def zcv_b1 (i : Int) (a : OA) (aL aC : Nat) (b : OA) (bL bC : Nat) (columns : Int) (h : Hp) (nx0 : Int × Unit → Hp → Prop) (K : VK) : Prop :=
 cond (decide (i < columns)) ((0 ≤ i ∧ i < (aL : Int)) ∧ NN a fun a1 => ∃ n1, cell h (a1.add (Int.toNat i * 1)) = some (.int .i64 n1) ∧ (0 ≤ i ∧ i < (bL : Int)) ∧ NN b fun a2 => ∃ n2, cell h (a2.add (Int.toNat i * 1)) = some (.int .i64 n2) ∧ cond (!decide (n1 = n2)) ((0 ≤ i ∧ i < (aL : Int)) ∧ NN a fun a3 => ∃ n3, cell h (a3.add (Int.toNat i * 1)) = some (.int .i64 n3) ∧ (0 ≤ i ∧ i < (bL : Int)) ∧ NN b fun a4 => ∃ n4, cell h (a4.add (Int.toNat i * 1)) = some (.int .i64 n4) ∧ K (.bool (decide (n3 < n4))) h) (zcv_b2 a aL aC b bL bC columns i h nx0 K)) (zcv_b3  h K)
def zcv_b0 (a : OA) (aL aC : Nat) (b : OA) (bL bC : Nat) (columns : Int) (h : Hp) (K : VK) : Prop :=
 yaau ((0, ()) : Int × Unit) h (fun (nx0 : Int × Unit → Hp → Prop) (s1 : Int × Unit) h1 => zcv_b1 s1.1 a aL aC b bL bC columns h1 nx0 K)
theorem zcv_sx (a aL aC b bL bC columns h K) : zcv_b0 a aL aC b bL bC columns h K = sx_3 Tryz.prog F 31 (cp [] (yaac Tryz.f119)) (ap [] zcv_an) [(0, .slice a aL aC), (1, .slice b bL bC), (2, .int .i64 columns)] h (retK Tryz.prog Tryz.f119.results.toList K) := by kernel_rfl
theorem zcv_call {a aL aC b bL bC columns h K} (hk : zcv_b0 a aL aC b bL bC columns h K) : HC 119 #[.slice a aL aC, .slice b bL bC, .int .i64 columns] h K :=
 yaaa zcv_an Tryz.func119 (c := yaac Tryz.f119) rfl Tryz.ntmps119 (lb rfl) (snd_3 F_ok yaad) (Eq.mp (zcv_sx a aL aC b bL bC columns h K) hk)
def zdd_an : Ann := N0 .leaf (.node (some []) (N0 .leaf (.loop [0, 1, 2] [(7, .int .i64)] (N0 .leaf (.node (some [0, 1, 2, 7]) .leaf .leaf)))) .leaf)
def zdd_b2 (l : OA) (lL lC : Nat) (atv : Int) (p : OA) (pL pC : Nat) (i : Int) (h : Hp) (nx0 : Int × Unit → Hp → Prop) (K : VK) : Prop :=
 InR (i + 1) ∧ nx0 (i + 1, ()) h
def zdd_b3 (h : Hp) (K : VK) : Prop :=
 K (.bool true) h
def zdd_b1 (i : Int) (l : OA) (lL lC : Nat) (atv : Int) (p : OA) (pL pC : Nat) (h : Hp) (nx0 : Int × Unit → Hp → Prop) (K : VK) : Prop :=
 cond (decide (i < (pL : Int))) (InR (atv + i) ∧ cond (decide ((lL : Int) ≤ (atv + i))) (K (.bool false) h) (InR (atv + i) ∧ (0 ≤ atv + i ∧ atv + i < (lL : Int)) ∧ NN l fun a1 => ∃ n1, cell h (a1.add (Int.toNat (atv + i) * 1)) = some (.int .i64 n1) ∧ (0 ≤ i ∧ i < (pL : Int)) ∧ NN p fun a2 => ∃ n2, cell h (a2.add (Int.toNat i * 1)) = some (.int .i64 n2) ∧ cond (!decide (n1 = n2)) (K (.bool false) h) (zdd_b2 l lL lC atv p pL pC i h nx0 K))) (zdd_b3  h K)
def zdd_b0 (l : OA) (lL lC : Nat) (atv : Int) (p : OA) (pL pC : Nat) (h : Hp) (K : VK) : Prop :=
 yaau ((0, ()) : Int × Unit) h (fun (nx0 : Int × Unit → Hp → Prop) (s1 : Int × Unit) h1 => zdd_b1 s1.1 l lL lC atv p pL pC h1 nx0 K)
theorem zdd_sx (l lL lC atv p pL pC h K) : zdd_b0 l lL lC atv p pL pC h K = sx_3 Tryz.prog F 33 (cp [] (yaac Tryz.f120)) (ap [] zdd_an) [(0, .slice l lL lC), (1, .int .i64 atv), (2, .slice p pL pC)] h (retK Tryz.prog Tryz.f120.results.toList K) := by kernel_rfl
theorem zdd_call {l lL lC atv p pL pC h K} (hk : zdd_b0 l lL lC atv p pL pC h K) : HC 120 #[.slice l lL lC, .int .i64 atv, .slice p pL pC] h K :=
 yaaa zdd_an Tryz.func120 (c := yaac Tryz.f120) rfl Tryz.ntmps120 (lb rfl) (snd_3 F_ok yaad) (Eq.mp (zdd_sx l lL lC atv p pL pC h K) hk)
def zao_an : Ann := N0 .leaf (.node (some [1, 2, 4]) .leaf (N0 .leaf (N0 .leaf (N0 .leaf (.node (some [2, 4, 7, 8]) (N0 .leaf (.loop [2, 4, 29, 30] [(7, .slice), (8, .slice), (31, .int .i64)] (N0 .leaf (N0 .leaf (.node (some [2, 4, 7, 8, 29, 30, 31]) .leaf .leaf))))) .leaf)))))
def zao_b3 (s t4 rows : OA) (rowsL rowsC : Nat) (out : OA) (outL outC : Nat) (t29 : OA) (t29L t29C : Nat) (t30 t31 : Int) (h : Hp) (nx0 : (OA × Nat × Nat) × (OA × Nat × Nat) × Int × Unit → Hp → Prop) (K : VK) : Prop :=
 InR (t31 + 1) ∧ nx0 ((rows, rowsL, rowsC), (out, outL, outC), t31 + 1, ()) h
def zao_b4 (s t4 rows : OA) (rowsL rowsC : Nat) (out : OA) (outL outC : Nat) (h : Hp) (K : VK) : Prop :=
 NN s fun a12 => ∃ n7, cell h a12 = some (.int .i64 n7) ∧ NN t4 fun a13 => Wr h a13 (.int .i64 n7) fun h23 => Wr h23 (a13.add 1) (.slice rows rowsL rowsC) fun h24 => NN t4 fun a14 => ∃ r14 r15 rL7 rC7, cell h24 a14 = some (.int .i64 r14) ∧ cell h24 (a14.add 1) = some (.slice r15 rL7 rC7) ∧ K (.tuple #[.agg #[.int .i64 r14, .slice r15 rL7 rC7], .slice out outL outC, .int .i64 0]) h24
def zao_b2 (rows : OA) (rowsL rowsC : Nat) (out : OA) (outL outC : Nat) (t31 : Int) (s t4 t29 : OA) (t29L t29C : Nat) (t30 : Int) (h : Hp) (nx0 : (OA × Nat × Nat) × (OA × Nat × Nat) × Int × Unit → Hp → Prop) (K : VK) : Prop :=
 cond (decide (t31 < t30)) ((0 ≤ t31 ∧ t31 < (t29L : Int)) ∧ NN t29 fun a6 => ∃ n2 a7 L3 C3, cell h (a6.add (Int.toNat t31 * 2)) = some (.int .i64 n2) ∧ cell h ((a6.add (Int.toNat t31 * 2)).add 1) = some (.slice a7 L3 C3) ∧ New h (.cells #[.int .i64 0, .slice none 0 0] 25) fun b3 h13 => Wr h13 ⟨b3, 0, none⟩ (.int .i64 n2) fun h14 => Wr h14 ((⟨b3, 0, none⟩ : Addr).add 1) (.slice a7 L3 C3) fun h15 => NN s fun a8 => ∃ n3, cell h15 a8 = some (.int .i64 n3) ∧ ∃ n4 a9 L4 C4, cell h15 ⟨b3, 0, none⟩ = some (.int .i64 n4) ∧ cell h15 ((⟨b3, 0, none⟩ : Addr).add 1) = some (.slice a9 L4 C4) ∧ HC 92 #[.int .i64 n3, .slice rows rowsL rowsC, .agg #[.int .i64 n4, .slice a9 L4 C4]] h15 fun v4
 h16 => ∃ r10 rL5 rC5 r11 r12 r13 rL6 rC6, v4 = .tuple #[.slice r10 rL5 rC5, .agg #[.int .i64 r11, .int .i64 r12, .slice r13 rL6 rC6]] ∧ New h16 (.cells #[.int .i64 0, .int .i64 0, .slice none 0 0] 61) fun b4 h17 => Wr h17 ⟨b4, 0, none⟩ (.int .i64 r11) fun h18 => Wr h18 ((⟨b4, 0, none⟩ : Addr).add 1) (.int .i64 r12) fun h19 => Wr h19 ((⟨b4, 0, none⟩ : Addr).add 2) (.slice r13 rL6 rC6) fun h20 => ∃ n5 n6 a10 L5 C5, cell h20 ⟨b4, 0, none⟩ = some (.int .i64 n5) ∧ cell h20 ((⟨b4, 0, none⟩ : Addr).add 1) = some (.int .i64 n6) ∧ cell h20 ((⟨b4, 0, none⟩ : Addr).add 2) = some (.slice a10 L5 C5) ∧ New h20 (.cells #[.int .i64 n5, .int .i64 n6, .slice a10 L5 C5] 61) fun b5 h21 => yaan Tryz.prog 156
 156 (.slice out outL outC) (.slice (some ⟨b5, 0, none⟩) 1 1) h21 (slK fun a11 l1 c1 h22 => zao_b3 s t4 r10 rL5 rC5 a11 l1 c1 t29 t29L t29C t30 t31 h22 nx0 K)) (zao_b4 s t4 rows rowsL rowsC out outL outC h K)
def zao_b1 (l : OA) (lL lC : Nat) (s t4 : OA) (h : Hp) (K : VK) : Prop :=
 cond (decide ((2000 : Int) < (lL : Int))) (NN t4 fun a2 => Wr h a2 (.int .i64 0) fun h9 => Wr h9 (a2.add 1) (.slice none 0 0) fun h10 => NN t4 fun a3 => ∃ r7 r8 rL3 rC3, cell h10 a3 = some (.int .i64 r7) ∧ cell h10 (a3.add 1) = some (.slice r8 rL3 rC3) ∧ K (.tuple #[.agg #[.int .i64 r7, .slice r8 rL3 rC3], .slice none 0 0, .int .i64 4]) h10) (NN s fun a4 => ∃ a5 L2 C2, cell h (a4.add 1) = some (.slice a5 L2 C2) ∧ HC 93 #[.slice a5 L2 C2] h fun v3 h11 => ∃ r9 rL4 rC4, v3 = .slice r9 rL4 rC4 ∧ yaau (((r9, rL4, rC4), (none, 0, 0), 0, ()) : (OA × Nat × Nat) × (OA × Nat × Nat) × Int × Unit) h11 (fun (nx0 : (OA × Nat × Nat) × (OA × Nat × Nat) ×
 Int × Unit → Hp → Prop) (s1 : (OA × Nat × Nat) × (OA × Nat × Nat) × Int × Unit) h12 => zao_b2 s1.1.1 s1.1.2.1 s1.1.2.2 s1.2.1.1 s1.2.1.2.1 s1.2.1.2.2 s1.2.2.1 s t4 l lL lC (lL : Int) h12 nx0 K))
def zao_b0 (s_0 : Int) (s_1 : OA) (s_1L s_1C : Nat) (l : OA) (lL lC : Nat) (h : Hp) (K : VK) : Prop :=
 New h (.cells #[.int .i64 s_0, .slice s_1 s_1L s_1C] 66) fun b1 h1 => New h1 (.cells #[.int .i64 0, .slice none 0 0] 66) fun b2 h2 => ∃ n1 a1 L1 C1, cell h2 ⟨b1, 0, none⟩ = some (.int .i64 n1) ∧ cell h2 ((⟨b1, 0, none⟩ : Addr).add 1) = some (.slice a1 L1 C1) ∧ HC 91 #[.agg #[.int .i64 n1, .slice a1 L1 C1]] h2 fun v1 h3 => ∃ r1, v1 = .bool r1 ∧ cond (!r1) (Wr h3 ⟨b2, 0, none⟩ (.int .i64 0) fun h4 => Wr h4 ((⟨b2, 0, none⟩ : Addr).add 1) (.slice none 0 0) fun h5 => ∃ r2 r3 rL1 rC1, cell h5 ⟨b2, 0, none⟩ = some (.int .i64 r2) ∧ cell h5 ((⟨b2, 0, none⟩ : Addr).add 1) = some (.slice r3 rL1 rC1) ∧ K (.tuple #[.agg #[.int .i64 r2, .slice r3 rL1 rC1], .slice none 0 0, .int .i64 1]) h5)
 (HC 151 #[.slice l lL lC, .func (.func 152) #[] #[.pointer (some ⟨b1, 0, none⟩)]] h3 fun v2 h6 => ∃ r4, v2 = .bool r4 ∧ cond r4 (Wr h6 ⟨b2, 0, none⟩ (.int .i64 0) fun h7 => Wr h7 ((⟨b2, 0, none⟩ : Addr).add 1) (.slice none 0 0) fun h8 => ∃ r5 r6 rL2 rC2, cell h8 ⟨b2, 0, none⟩ = some (.int .i64 r5) ∧ cell h8 ((⟨b2, 0, none⟩ : Addr).add 1) = some (.slice r6 rL2 rC2) ∧ K (.tuple #[.agg #[.int .i64 r5, .slice r6 rL2 rC2], .slice none 0 0, .int .i64 1]) h8) (zao_b1 l lL lC (some ⟨b1, 0, none⟩) (some ⟨b2, 0, none⟩) h6 K))
theorem zao_sx (s_0 s_1 s_1L s_1C l lL lC h K) : zao_b0 s_0 s_1 s_1L s_1C l lL lC h K = sx_4 Tryz.prog F 54 (cp [] (yaac Tryz.f121)) (ap [] zao_an) [(0, .agg #[.int .i64 s_0, .slice s_1 s_1L s_1C]), (1, .slice l lL lC)] h (retK Tryz.prog Tryz.f121.results.toList K) := by kernel_rfl
theorem zao_call {s_0 s_1 s_1L s_1C l lL lC h K} (hk : zao_b0 s_0 s_1 s_1L s_1C l lL lC h K) : HC 121 #[.agg #[.int .i64 s_0, .slice s_1 s_1L s_1C], .slice l lL lC] h K :=
 yaaa zao_an Tryz.func121 (c := yaac Tryz.f121) rfl Tryz.ntmps121 (lb rfl) (snd_4 F_ok yaad) (Eq.mp (zao_sx s_0 s_1 s_1L s_1C l lL lC h K) hk)