/- Plain statements of what each block of code of this seat asks; printed by a program, checked by Lean. -/
import Derived.Test.YtbhofnaipkkbeaaGreatDoorSxV0
set_option maxRecDepth 10000
namespace Go.Proofs.YtbhofnaipkkbeaaGreatDoor
open Go Go.Sx
def zae_an : Ann := N0 .leaf (.node (some [0, 4, 5]) .leaf .leaf)
def zae_b1 (t fromv to : OA) (h : Hp) (K : VK) : Prop :=
 New h (.cells #[.slice none 0 0] 56) fun b4 h5 => NN t fun a1 => ∃ p1, cell h5 (a1.add 2) = some (.pointer p1) ∧ HC 53 #[.pointer p1, .func (.func 54) #[] #[.pointer fromv, .pointer to, .pointer (some ⟨b4, 0, none⟩)]] h5 fun v2 h6 => ∃ r2, v2 = .bool r2 ∧ ∃ a2 L1 C1, cell h6 ⟨b4, 0, none⟩ = some (.slice a2 L1 C1) ∧ cond (decide ((1000 : Int) < (L1 : Int))) (K (.tuple #[.slice none 0 0, .int .i64 4]) h6) (∃ a3 L2 C2, cell h6 ⟨b4, 0, none⟩ = some (.slice a3 L2 C2) ∧ K (.tuple #[.slice a3 L2 C2, .int .i64 0]) h6)
def zae_b0 (t : OA) (fromv to : Int) (h : Hp) (K : VK) : Prop :=
 New h (.cells #[.int .i64 fromv] 3) fun b1 h1 => New h1 (.cells #[.int .i64 to] 3) fun b2 h2 => cond t.isNone (K (.tuple #[.slice none 0 0, .int .i64 1]) h2) (∃ n1, cell h2 ⟨b1, 0, none⟩ = some (.int .i64 n1) ∧ ∃ n2, cell h2 ⟨b2, 0, none⟩ = some (.int .i64 n2) ∧ New h2 (.cells #[.int .i64 n1, .int .i64 n2] 3) fun b3 h3 => HC 49 #[.slice (some ⟨b3, 0, none⟩) 2 2] h3 fun v1 h4 => ∃ r1, v1 = .bool r1 ∧ cond (!r1) (K (.tuple #[.slice none 0 0, .int .i64 1]) h4) (zae_b1 t (some ⟨b1, 0, none⟩) (some ⟨b2, 0, none⟩) h4 K))
theorem zae_sx (t fromv to h K) : zae_b0 t fromv to h K = sx_2 Tryz.prog F 28 (cp [] (yaad Tryz.f18)) (ap [] zae_an) [(0, .pointer t), (1, .int .i64 fromv), (2, .int .i64 to)] h (retK Tryz.prog Tryz.f18.results.toList K) := by kernel_rfl
theorem zae_call {t fromv to h K} (hk : zae_b0 t fromv to h K) : HC 18 #[.pointer t, .int .i64 fromv, .int .i64 to] h K :=
 yaaa zae_an Tryz.func18 (c := yaad Tryz.f18) rfl Tryz.ntmps18 (lb rfl) (snd_2 F_ok yaaj) (Eq.mp (zae_sx t fromv to h K) hk)
def zbb_an : Ann := N0 .leaf (.node (some [0, 3]) .leaf .leaf)
def zbb_b1 (l : OA) (lL lC : Nat) (t : OA) (h : Hp) (K : VK) : Prop :=
 NN t fun a1 => ∃ n3 n4, cell h a1 = some (.int .i64 n3) ∧ cell h (a1.add 1) = some (.int .i64 n4) ∧ HC 35 #[.slice l lL lC, .agg #[.int .i64 n3, .int .i64 n4]] h fun v3 h4 => ∃ r3 rL1 rC1, v3 = .slice r3 rL1 rC1 ∧ K (.tuple #[.slice r3 rL1 rC1, .int .i64 0]) h4
def zbb_b0 (l : OA) (lL lC : Nat) (t_0 t_1 : Int) (h : Hp) (K : VK) : Prop :=
 New h (.cells #[.int .i64 t_0, .int .i64 t_1] 26) fun b1 h1 => HC 29 #[.slice l lL lC, .func (.func 30) #[] #[]] h1 fun v1 h2 => ∃ r1, v1 = .bool r1 ∧ cond r1 (K (.tuple #[.slice none 0 0, .int .i64 1]) h2) (∃ n1 n2, cell h2 ⟨b1, 0, none⟩ = some (.int .i64 n1) ∧ cell h2 ((⟨b1, 0, none⟩ : Addr).add 1) = some (.int .i64 n2) ∧ HC 33 #[.agg #[.int .i64 n1, .int .i64 n2]] h2 fun v2 h3 => ∃ r2, v2 = .bool r2 ∧ cond (!r2) (K (.tuple #[.slice none 0 0, .int .i64 1]) h3) (cond (decide ((64 : Int) < (lL : Int))) (K (.tuple #[.slice none 0 0, .int .i64 4]) h3) (zbb_b1 l lL lC (some ⟨b1, 0, none⟩) h3 K)))
theorem zbb_sx (l lL lC t_0 t_1 h K) : zbb_b0 l lL lC t_0 t_1 h K = sx_2 Tryz.prog F 21 (cp [] (yaad Tryz.f22)) (ap [] zbb_an) [(0, .slice l lL lC), (1, .agg #[.int .i64 t_0, .int .i64 t_1])] h (retK Tryz.prog Tryz.f22.results.toList K) := by kernel_rfl
theorem zbb_call {l lL lC t_0 t_1 h K} (hk : zbb_b0 l lL lC t_0 t_1 h K) : HC 22 #[.slice l lL lC, .agg #[.int .i64 t_0, .int .i64 t_1]] h K :=
 yaaa zbb_an Tryz.func22 (c := yaad Tryz.f22) rfl Tryz.ntmps22 (lb rfl) (snd_2 F_ok yaaj) (Eq.mp (zbb_sx l lL lC t_0 t_1 h K) hk)
def zbx_an : Ann := .leaf
def zbx_b0 (m_0 m_1 : Int) (h : Hp) (K : VK) : Prop :=
 New h (.cells #[.int .i64 m_0, .int .i64 m_1] 49) fun b1 h1 => ∃ n1, cell h1 ⟨b1, 0, none⟩ = some (.int .i64 n1) ∧ cond (decide (((-1048576) : Int) ≤ n1)) (∃ n2, cell h1 ⟨b1, 0, none⟩ = some (.int .i64 n2) ∧ cond (decide (n2 ≤ 1048576)) (∃ n3, cell h1 ((⟨b1, 0, none⟩ : Addr).add 1) = some (.int .i64 n3) ∧ cond (decide (((-1000) : Int) ≤ n3)) (∃ n4, cell h1 ((⟨b1, 0, none⟩ : Addr).add 1) = some (.int .i64 n4) ∧ K (.bool (decide (n4 ≤ 1000))) h1) (K (.bool false) h1)) (K (.bool false) h1)) (K (.bool false) h1)
theorem zbx_sx (m_0 m_1 h K) : zbx_b0 m_0 m_1 h K = sx_1 Tryz.prog F 21 (cp [] (yaad Tryz.f26)) (ap [] zbx_an) [(0, .agg #[.int .i64 m_0, .int .i64 m_1])] h (retK Tryz.prog Tryz.f26.results.toList K) := by kernel_rfl
theorem zbx_call {m_0 m_1 h K} (hk : zbx_b0 m_0 m_1 h K) : HC 26 #[.agg #[.int .i64 m_0, .int .i64 m_1]] h K :=
 yaaa zbx_an Tryz.func26 (c := yaad Tryz.f26) rfl Tryz.ntmps26 (lb rfl) (snd_1 F_ok yaaj) (Eq.mp (zbx_sx m_0 m_1 h K) hk)
def zbs_an : Ann := .leaf
def zbs_b0 (h : Hp) (K : VK) : Prop :=
 New h (.cells #[.int .i64 0, .int .i64 0] 26) fun b1 h1 => Wr h1 ⟨b1, 0, none⟩ (.int .i64 0) fun h2 => Wr h2 ((⟨b1, 0, none⟩ : Addr).add 1) (.int .i64 1) fun h3 => ∃ r1 r2, cell h3 ⟨b1, 0, none⟩ = some (.int .i64 r1) ∧ cell h3 ((⟨b1, 0, none⟩ : Addr).add 1) = some (.int .i64 r2) ∧ K (.agg #[.int .i64 r1, .int .i64 r2]) h3
theorem zbs_sx (h K) : zbs_b0 h K = sx_1 Tryz.prog F 2 (cp [] (yaad Tryz.f27)) (ap [] zbs_an) [] h (retK Tryz.prog Tryz.f27.results.toList K) := by kernel_rfl
theorem zbs_call {h K} (hk : zbs_b0  h K) : HC 27 #[] h K :=
 yaaa zbs_an Tryz.func27 (c := yaad Tryz.f27) rfl Tryz.ntmps27 (lb rfl) (snd_1 F_ok yaaj) (Eq.mp (zbs_sx h K) hk)
def zcg_an : Ann := .leaf
def zcg_b0 (s : OA) (sL sC : Nat) (h : Hp) (K : VK) : Prop :=
 cond (Option.isNone s) (K (.slice none 0 0) h) (New h (.cells #[] 49) fun b1 h1 => yaba Tryz.prog 22 22 (.slice (some ⟨b1, 0, none⟩) 0 0) (.slice s sL sC) h1 (slK fun a1 l1 c1 h2 => K (.slice a1 l1 c1) h2))
theorem zcg_sx (s sL sC h K) : zcg_b0 s sL sC h K = sx_1 Tryz.prog F 8 (cp [] (yaad Tryz.f28)) (ap [] zcg_an) [(0, .slice s sL sC)] h (retK Tryz.prog Tryz.f28.results.toList K) := by kernel_rfl
theorem zcg_call {s sL sC h K} (hk : zcg_b0 s sL sC h K) : HC 28 #[.slice s sL sC] h K :=
 yaaa zcg_an Tryz.func28 (c := yaad Tryz.f28) rfl Tryz.ntmps28 (lb rfl) (snd_1 F_ok yaaj) (Eq.mp (zcg_sx s sL sC h K) hk)
def zcj_an : Ann := .leaf
def zcj_b0 (s : OA) (sL sC : Nat) (f : Value) (h : Hp) (K : VK) : Prop :=
 HC 67 #[.slice s sL sC, f] h fun v1 h1 => ∃ r1, v1 = .int .i64 r1 ∧ K (.bool (decide ((0 : Int) ≤ r1))) h1
theorem zcj_sx (s sL sC f h K) : zcj_b0 s sL sC f h K = sx_1 Tryz.prog F 9 (cp [] (yaad Tryz.f29)) (ap [] zcj_an) [(0, .slice s sL sC), (1, f)] h (retK Tryz.prog Tryz.f29.results.toList K) := by kernel_rfl
theorem zcj_call {s sL sC f h K} (hk : zcj_b0 s sL sC f h K) : HC 29 #[.slice s sL sC, f] h K :=
 yaaa zcj_an Tryz.func29 (c := yaad Tryz.f29) rfl Tryz.ntmps29 (lb rfl) (snd_1 F_ok yaaj) (Eq.mp (zcj_sx s sL sC f h K) hk)
def zbe_an : Ann := .leaf
def zbe_b0 (m_0 m_1 : Int) (h : Hp) (K : VK) : Prop :=
 New h (.cells #[.int .i64 m_0, .int .i64 m_1] 49) fun b1 h1 => ∃ n1, cell h1 ⟨b1, 0, none⟩ = some (.int .i64 n1) ∧ cond (decide (n1 < (-1048576))) (K (.bool true) h1) (∃ n2, cell h1 ⟨b1, 0, none⟩ = some (.int .i64 n2) ∧ cond (decide ((1048576 : Int) < n2)) (K (.bool true) h1) (∃ n3, cell h1 ((⟨b1, 0, none⟩ : Addr).add 1) = some (.int .i64 n3) ∧ cond (decide (n3 < (-1000))) (K (.bool true) h1) (∃ n4, cell h1 ((⟨b1, 0, none⟩ : Addr).add 1) = some (.int .i64 n4) ∧ K (.bool (decide ((1000 : Int) < n4))) h1)))
theorem zbe_sx (m_0 m_1 h K) : zbe_b0 m_0 m_1 h K = sx_1 Tryz.prog F 21 (cp [] (yaad Tryz.f30)) (ap [] zbe_an) [(0, .agg #[.int .i64 m_0, .int .i64 m_1])] h (retK Tryz.prog Tryz.f30.results.toList K) := by kernel_rfl
theorem zbe_call {m_0 m_1 h K} (hk : zbe_b0 m_0 m_1 h K) : HC 30 #[.agg #[.int .i64 m_0, .int .i64 m_1]] h K :=
 yaaa zbe_an Tryz.func30 (c := yaad Tryz.f30) rfl Tryz.ntmps30 (lb rfl) (snd_1 F_ok yaaj) (Eq.mp (zbe_sx m_0 m_1 h K) hk)
def zbm_an : Ann := .leaf
def zbm_b0 (l : OA) (lL lC : Nat) (t_0 t_1 : Int) (h : Hp) (K : VK) : Prop :=
 New h (.cells #[.int .i64 t_0, .int .i64 t_1] 26) fun b1 h1 => ∃ n1 n2, cell h1 ⟨b1, 0, none⟩ = some (.int .i64 n1) ∧ cell h1 ((⟨b1, 0, none⟩ : Addr).add 1) = some (.int .i64 n2) ∧ HC 35 #[.slice l lL lC, .agg #[.int .i64 n1, .int .i64 n2]] h1 fun v1 h2 => ∃ r1 rL1 rC1, v1 = .slice r1 rL1 rC1 ∧ InR ((rL1 : Int) - 1) ∧ (0 ≤ (rL1 : Int) - 1 ∧ (rL1 : Int) - 1 < (rL1 : Int)) ∧ NN r1 fun a1 => ∃ n3, cell h2 (a1.add (Int.toNat ((rL1 : Int) - 1) * 1)) = some (.int .i64 n3) ∧ K (.int .i64 n3) h2
theorem zbm_sx (l lL lC t_0 t_1 h K) : zbm_b0 l lL lC t_0 t_1 h K = sx_1 Tryz.prog F 15 (cp [] (yaad Tryz.f31)) (ap [] zbm_an) [(0, .slice l lL lC), (1, .agg #[.int .i64 t_0, .int .i64 t_1])] h (retK Tryz.prog Tryz.f31.results.toList K) := by kernel_rfl
theorem zbm_call {l lL lC t_0 t_1 h K} (hk : zbm_b0 l lL lC t_0 t_1 h K) : HC 31 #[.slice l lL lC, .agg #[.int .i64 t_0, .int .i64 t_1]] h K :=
 yaaa zbm_an Tryz.func31 (c := yaad Tryz.f31) rfl Tryz.ntmps31 (lb rfl) (snd_1 F_ok yaaj) (Eq.mp (zbm_sx l lL lC t_0 t_1 h K) hk)
def zch_an : Ann := .leaf
def zch_b0 (s : OA) (sL sC : Nat) (h : Hp) (K : VK) : Prop :=
 cond (Option.isNone s) (K (.slice none 0 0) h) (New h (.cells #[] 3) fun b1 h1 => yaba Tryz.prog 37 37 (.slice (some ⟨b1, 0, none⟩) 0 0) (.slice s sL sC) h1 (slK fun a1 l1 c1 h2 => K (.slice a1 l1 c1) h2))
theorem zch_sx (s sL sC h K) : zch_b0 s sL sC h K = sx_1 Tryz.prog F 8 (cp [] (yaad Tryz.f32)) (ap [] zch_an) [(0, .slice s sL sC)] h (retK Tryz.prog Tryz.f32.results.toList K) := by kernel_rfl
theorem zch_call {s sL sC h K} (hk : zch_b0 s sL sC h K) : HC 32 #[.slice s sL sC] h K :=
 yaaa zch_an Tryz.func32 (c := yaad Tryz.f32) rfl Tryz.ntmps32 (lb rfl) (snd_1 F_ok yaaj) (Eq.mp (zch_sx s sL sC h K) hk)
def zbr_an : Ann := .leaf
def zbr_b0 (t_0 t_1 : Int) (h : Hp) (K : VK) : Prop :=
 New h (.cells #[.int .i64 t_0, .int .i64 t_1] 26) fun b1 h1 => ∃ n1 n2, cell h1 ⟨b1, 0, none⟩ = some (.int .i64 n1) ∧ cell h1 ((⟨b1, 0, none⟩ : Addr).add 1) = some (.int .i64 n2) ∧ HC 68 #[.agg #[.int .i64 n1, .int .i64 n2]] h1 fun v1 h2 => ∃ r1, v1 = .bool r1 ∧ cond r1 (∃ n3, cell h2 ⟨b1, 0, none⟩ = some (.int .i64 n3) ∧ K (.bool (decide ((0 : Int) ≤ n3))) h2) (K (.bool false) h2)
theorem zbr_sx (t_0 t_1 h K) : zbr_b0 t_0 t_1 h K = sx_1 Tryz.prog F 10 (cp [] (yaad Tryz.f33)) (ap [] zbr_an) [(0, .agg #[.int .i64 t_0, .int .i64 t_1])] h (retK Tryz.prog Tryz.f33.results.toList K) := by kernel_rfl
theorem zbr_call {t_0 t_1 h K} (hk : zbr_b0 t_0 t_1 h K) : HC 33 #[.agg #[.int .i64 t_0, .int .i64 t_1]] h K :=
 yaaa zbr_an Tryz.func33 (c := yaad Tryz.f33) rfl Tryz.ntmps33 (lb rfl) (snd_1 F_ok yaaj) (Eq.mp (zbr_sx t_0 t_1 h K) hk)
def zbf_an : Ann := .leaf
def zbf_b0 (a_0 a_1 b_0 b_1 : Int) (h : Hp) (K : VK) : Prop :=
 New h (.cells #[.int .i64 a_0, .int .i64 a_1] 26) fun b1 h1 => New h1 (.cells #[.int .i64 b_0, .int .i64 b_1] 26) fun b2 h2 => ∃ n1 n2, cell h2 ⟨b1, 0, none⟩ = some (.int .i64 n1) ∧ cell h2 ((⟨b1, 0, none⟩ : Addr).add 1) = some (.int .i64 n2) ∧ ∃ n3 n4, cell h2 ⟨b2, 0, none⟩ = some (.int .i64 n3) ∧ cell h2 ((⟨b2, 0, none⟩ : Addr).add 1) = some (.int .i64 n4) ∧ HC 69 #[.agg #[.int .i64 n1, .int .i64 n2], .agg #[.int .i64 n3, .int .i64 n4]] h2 fun v1 h3 => ∃ r1 r2, v1 = .tuple #[.int .i64 r1, .int .i64 r2] ∧ K (.bool (decide (r1 < 0))) h3
theorem zbf_sx (a_0 a_1 b_0 b_1 h K) : zbf_b0 a_0 a_1 b_0 b_1 h K = sx_1 Tryz.prog F 15 (cp [] (yaad Tryz.f34)) (ap [] zbf_an) [(0, .agg #[.int .i64 a_0, .int .i64 a_1]), (1, .agg #[.int .i64 b_0, .int .i64 b_1])] h (retK Tryz.prog Tryz.f34.results.toList K) := by kernel_rfl
theorem zbf_call {a_0 a_1 b_0 b_1 h K} (hk : zbf_b0 a_0 a_1 b_0 b_1 h K) : HC 34 #[.agg #[.int .i64 a_0, .int .i64 a_1], .agg #[.int .i64 b_0, .int .i64 b_1]] h K :=
 yaaa zbf_an Tryz.func34 (c := yaad Tryz.f34) rfl Tryz.ntmps34 (lb rfl) (snd_1 F_ok yaaj) (Eq.mp (zbf_sx a_0 a_1 b_0 b_1 h K) hk)
def zbo_an : Ann := N0 .leaf (N0 .leaf (.node (some [2, 3, 5]) (N0 .leaf (.loop [2, 3, 8] [(5, .slice), (9, .int .i64)] (N0 .leaf (N0 .leaf (.node (some [2, 3, 5, 8, 9]) .leaf .leaf))))) .leaf))
def zbo_b2 (_ _ out : OA) (outL outC : Nat) (_ t9 : Int) (h : Hp) (nx0 : (OA × Nat × Nat) × Int × Unit → Hp → Prop) (_ : VK) : Prop :=
 InR (t9 + 1) ∧ nx0 ((out, outL, outC), t9 + 1, ()) h
def zbo_b3 (l t out : OA) (outL outC : Nat) (h : Hp) (K : VK) : Prop :=
 HC 70 #[.slice out outL outC, .func (.func 71) #[] #[.pointer l, .pointer t]] h fun v1 h6 => v1 = .tuple #[] ∧ K (.slice out outL outC) h6
def zbo_b1 (out : OA) (outL outC : Nat) (t9 : Int) (l t : OA) (t8 : Int) (h : Hp) (nx0 : (OA × Nat × Nat) × Int × Unit → Hp → Prop) (K : VK) : Prop :=
 cond (decide (t9 < t8)) (New h (.cells #[.int .i64 t9] 3) fun b3 h4 => yaba Tryz.prog 37 37 (.slice out outL outC) (.slice (some ⟨b3, 0, none⟩) 1 1) h4 (slK fun a2 l1 c1 h5 => zbo_b2 l t a2 l1 c1 t8 t9 h5 nx0 K)) (zbo_b3 l t out outL outC h K)
def zbo_b0 (l : OA) (lL lC : Nat) (t_0 t_1 : Int) (h : Hp) (K : VK) : Prop :=
 New h (.cells #[.slice l lL lC] 22) fun b1 h1 => New h1 (.cells #[.int .i64 t_0, .int .i64 t_1] 26) fun b2 h2 => ∃ a1 L1 C1, cell h2 ⟨b1, 0, none⟩ = some (.slice a1 L1 C1) ∧ yabr (((none, 0, 0), 0, ()) : (OA × Nat × Nat) × Int × Unit) h2 (fun (nx0 : (OA × Nat × Nat) × Int × Unit → Hp → Prop) (s1 : (OA × Nat × Nat) × Int × Unit) h3 => zbo_b1 s1.1.1 s1.1.2.1 s1.1.2.2 s1.2.1 (some ⟨b1, 0, none⟩) (some ⟨b2, 0, none⟩) (L1 : Int) h3 nx0 K)
theorem zbo_sx (l lL lC t_0 t_1 h K) : zbo_b0 l lL lC t_0 t_1 h K = sx_3 Tryz.prog F 21 (cp [] (yaad Tryz.f35)) (ap [] zbo_an) [(0, .slice l lL lC), (1, .agg #[.int .i64 t_0, .int .i64 t_1])] h (retK Tryz.prog Tryz.f35.results.toList K) := by kernel_rfl
theorem zbo_call {l lL lC t_0 t_1 h K} (hk : zbo_b0 l lL lC t_0 t_1 h K) : HC 35 #[.slice l lL lC, .agg #[.int .i64 t_0, .int .i64 t_1]] h K :=
 yaaa zbo_an Tryz.func35 (c := yaad Tryz.f35) rfl Tryz.ntmps35 (lb rfl) (snd_3 F_ok yaaj) (Eq.mp (zbo_sx l lL lC t_0 t_1 h K) hk)
def zbn_an : Ann := N0 .leaf (N0 .leaf (N0 .leaf (.node (some [6, 8]) .leaf .leaf)))
def zbn_b1 (t6 x : OA) (h : Hp) (K : VK) : Prop :=
 NN x fun a1 => ∃ n11 n12, cell h a1 = some (.int .i64 n11) ∧ cell h (a1.add 1) = some (.int .i64 n12) ∧ NN t6 fun a2 => Wr h a2 (.int .i64 n11) fun h16 => Wr h16 (a2.add 1) (.int .i64 n12) fun h17 => NN t6 fun a3 => ∃ r11 r12, cell h17 a3 = some (.int .i64 r11) ∧ cell h17 (a3.add 1) = some (.int .i64 r12) ∧ K (.tuple #[.agg #[.int .i64 r11, .int .i64 r12], .bool true]) h17
def zbn_b0 (a_0 a_1 b_0 b_1 t_0 t_1 : Int) (h : Hp) (K : VK) : Prop :=
 New h (.cells #[.int .i64 a_0, .int .i64 a_1] 49) fun b1 h1 => New h1 (.cells #[.int .i64 b_0, .int .i64 b_1] 49) fun b2 h2 => New h2 (.cells #[.int .i64 t_0, .int .i64 t_1] 26) fun b3 h3 => New h3 (.cells #[.int .i64 0, .int .i64 0] 26) fun b4 h4 => ∃ n1, cell h4 ((⟨b1, 0, none⟩ : Addr).add 1) = some (.int .i64 n1) ∧ ∃ n2, cell h4 ((⟨b2, 0, none⟩ : Addr).add 1) = some (.int .i64 n2) ∧ cond (decide (n1 = n2)) (Wr h4 ⟨b4, 0, none⟩ (.int .i64 0) fun h5 => Wr h5 ((⟨b4, 0, none⟩ : Addr).add 1) (.int .i64 0) fun h6 => ∃ r1 r2, cell h6 ⟨b4, 0, none⟩ = some (.int .i64 r1) ∧ cell h6 ((⟨b4, 0, none⟩ : Addr).add 1) = some (.int .i64 r2) ∧ K (.tuple #[.agg #[.int .i64 r1, .int .i64 r2], .bool false])
 h6) (∃ n3, cell h4 ⟨b2, 0, none⟩ = some (.int .i64 n3) ∧ ∃ n4, cell h4 ⟨b1, 0, none⟩ = some (.int .i64 n4) ∧ InR (n3 - n4) ∧ ∃ n5, cell h4 ((⟨b1, 0, none⟩ : Addr).add 1) = some (.int .i64 n5) ∧ ∃ n6, cell h4 ((⟨b2, 0, none⟩ : Addr).add 1) = some (.int .i64 n6) ∧ InR (n5 - n6) ∧ HC 51 #[.int .i64 (n3 - n4), .int .i64 (n5 - n6)] h4 fun v1 h7 => ∃ r3 r4 r5, v1 = .tuple #[.agg #[.int .i64 r3, .int .i64 r4], .int .i64 r5] ∧ New h7 (.cells #[.int .i64 0, .int .i64 0] 26) fun b5 h8 => Wr h8 ⟨b5, 0, none⟩ (.int .i64 r3) fun h9 => Wr h9 ((⟨b5, 0, none⟩ : Addr).add 1) (.int .i64 r4) fun h10 => cond (!decide (r5 = 0)) (Wr h10 ⟨b4, 0, none⟩ (.int .i64 0) fun h11 => Wr h11 ((⟨b4, 0, none⟩ :
 Addr).add 1) (.int .i64 0) fun h12 => ∃ r6 r7, cell h12 ⟨b4, 0, none⟩ = some (.int .i64 r6) ∧ cell h12 ((⟨b4, 0, none⟩ : Addr).add 1) = some (.int .i64 r7) ∧ K (.tuple #[.agg #[.int .i64 r6, .int .i64 r7], .bool false]) h12) (∃ n7 n8, cell h10 ⟨b3, 0, none⟩ = some (.int .i64 n7) ∧ cell h10 ((⟨b3, 0, none⟩ : Addr).add 1) = some (.int .i64 n8) ∧ ∃ n9 n10, cell h10 ⟨b5, 0, none⟩ = some (.int .i64 n9) ∧ cell h10 ((⟨b5, 0, none⟩ : Addr).add 1) = some (.int .i64 n10) ∧ HC 34 #[.agg #[.int .i64 n7, .int .i64 n8], .agg #[.int .i64 n9, .int .i64 n10]] h10 fun v2 h13 => ∃ r8, v2 = .bool r8 ∧ cond (!r8) (Wr h13 ⟨b4, 0, none⟩ (.int .i64 0) fun h14 => Wr h14 ((⟨b4, 0, none⟩ : Addr).add 1)
 (.int .i64 0) fun h15 => ∃ r9 r10, cell h15 ⟨b4, 0, none⟩ = some (.int .i64 r9) ∧ cell h15 ((⟨b4, 0, none⟩ : Addr).add 1) = some (.int .i64 r10) ∧ K (.tuple #[.agg #[.int .i64 r9, .int .i64 r10], .bool false]) h15) (zbn_b1 (some ⟨b4, 0, none⟩) (some ⟨b5, 0, none⟩) h13 K)))
theorem zbn_sx (a_0 a_1 b_0 b_1 t_0 t_1 h K) : zbn_b0 a_0 a_1 b_0 b_1 t_0 t_1 h K = sx_2 Tryz.prog F 40 (cp [] (yaad Tryz.f36)) (ap [] zbn_an) [(0, .agg #[.int .i64 a_0, .int .i64 a_1]), (1, .agg #[.int .i64 b_0, .int .i64 b_1]), (2, .agg #[.int .i64 t_0, .int .i64 t_1])] h (retK Tryz.prog Tryz.f36.results.toList K) := by kernel_rfl
theorem zbn_call {a_0 a_1 b_0 b_1 t_0 t_1 h K} (hk : zbn_b0 a_0 a_1 b_0 b_1 t_0 t_1 h K) : HC 36 #[.agg #[.int .i64 a_0, .int .i64 a_1], .agg #[.int .i64 b_0, .int .i64 b_1], .agg #[.int .i64 t_0, .int .i64 t_1]] h K :=
 yaaa zbn_an Tryz.func36 (c := yaad Tryz.f36) rfl Tryz.ntmps36 (lb rfl) (snd_2 F_ok yaaj) (Eq.mp (zbn_sx a_0 a_1 b_0 b_1 t_0 t_1 h K) hk)
def zat_an : Ann := .leaf
def zat_b0 (hv x : Value) (h : Hp) (K : VK) : Prop :=
 invC Tryz.prog hv "Push" [x] h fun v1 h1 => v1 = .tuple #[] ∧ invC Tryz.prog hv "Len" [] h1 fun v2 h2 => ∃ r1, v2 = .int .i64 r1 ∧ InR (r1 - 1) ∧ HC 73 #[hv, .int .i64 (r1 - 1)] h2 fun v3 h3 => v3 = .tuple #[] ∧ K (.tuple #[]) h3
theorem zat_sx (hv x h K) : zat_b0 hv x h K = sx_1 Tryz.prog F 12 (cp [] (yaad Tryz.f37)) (ap [] zat_an) [(0, hv), (1, x)] h (retK Tryz.prog Tryz.f37.results.toList K) := by kernel_rfl
theorem zat_call {hv x h K} (hk : zat_b0 hv x h K) : HC 37 #[hv, x] h K :=
 yaaa zat_an Tryz.func37 (c := yaad Tryz.f37) rfl Tryz.ntmps37 (lb rfl) (snd_1 F_ok yaaj) (Eq.mp (zat_sx hv x h K) hk)
def zbh_an : Ann := .leaf
def zbh_b0 (_ : OA) (qL _ : Nat) (h : Hp) (K : VK) : Prop :=
 K (.int .i64 (qL : Int)) h
theorem zbh_sx (q qL qC h K) : zbh_b0 q qL qC h K = sx_1 Tryz.prog F 5 (cp [] (yaad Tryz.f38)) (ap [] zbh_an) [(0, .slice q qL qC)] h (retK Tryz.prog Tryz.f38.results.toList K) := by kernel_rfl
theorem zbh_call {q qL qC h K} (hk : zbh_b0 q qL qC h K) : HC 38 #[.slice q qL qC] h K :=
 yaaa zbh_an Tryz.func38 (c := yaad Tryz.f38) rfl Tryz.ntmps38 (lb rfl) (snd_1 F_ok yaaj) (Eq.mp (zbh_sx q qL qC h K) hk)
def zas_an : Ann := .leaf
def zas_b0 (hv : Value) (h : Hp) (K : VK) : Prop :=
 invC Tryz.prog hv "Len" [] h fun v1 h1 => ∃ r1, v1 = .int .i64 r1 ∧ InR (r1 - 1) ∧ invC Tryz.prog hv "Swap" [.int .i64 0, .int .i64 (r1 - 1)] h1 fun v2 h2 => v2 = .tuple #[] ∧ HC 74 #[hv, .int .i64 0, .int .i64 (r1 - 1)] h2 fun v3 h3 => ∃ r2, v3 = .bool r2 ∧ invC Tryz.prog hv "Pop" [] h3 fun v4 h4 => ∃ r3, v4 = r3 ∧ K (r3) h4
theorem zas_sx (hv h K) : zas_b0 hv h K = sx_1 Tryz.prog F 15 (cp [] (yaad Tryz.f39)) (ap [] zas_an) [(0, hv)] h (retK Tryz.prog Tryz.f39.results.toList K) := by kernel_rfl
theorem zas_call {hv h K} (hk : zas_b0 hv h K) : HC 39 #[hv] h K :=
 yaaa zas_an Tryz.func39 (c := yaad Tryz.f39) rfl Tryz.ntmps39 (lb rfl) (snd_1 F_ok yaaj) (Eq.mp (zas_sx hv h K) hk)
def zbd_an : Ann := N0 .leaf (N0 .leaf (N0 .leaf (N0 (.plan (.qu 0 (.qu 1 (.qu 2 (.qu 3 (.qu 4 (.qu 5 (.qu 6 (.qu 7 (.qu 8 (.qu 9 (.wo 10 (.wo 11 .fin .no) .no)))))))))))) (.node (some [2, 4, 5]) (N0 .leaf (.loop [0, 2, 4, 6, 24, 25] [(5, .bool), (26, .int .i64)] (N0 .leaf (N0 .leaf (.node (some [0, 2, 4, 5, 6, 24, 25, 26]) (N0 .leaf (N0 .leaf (.node (some [0, 2, 4, 5, 6, 9, 10, 24, 25, 26]) (.plan (.qu 0 (.qu 1 (.qu 2 (.qu 3 (.qu 4 (.qu 5 (.wo 6 (.qu 7 (.qu 8 (.qu 9 (.wo 10 (.wo 11 (.wo 12 .fin .no) .no) .no)))) (.wo 10 (.wo 6 (.qu 7 (.qu 8 (.qu 9 (.wo 11 (.wo 12 .fin .no) .no)))) .no) .no))))))))) .leaf))) .leaf))))) .leaf))))
def zbd_b2 (_ _ _ : OA) (found : Bool) (_ _ : OA) (_ _ : Nat) (_ t26 : Int) (h : Hp) (nx0 : Bool × Int × Unit → Hp → Prop) (_ : VK) : Prop :=
 InR (t26 + 1) ∧ nx0 (found, t26 + 1, ()) h
def zbd_b3 (k t2 best : OA) (found : Bool) (w t : OA) (ok : Bool) (t24 : OA) (t24L t24C : Nat) (t25 t26 : Int) (h : Hp) (nx0 : Bool × Int × Unit → Hp → Prop) (K : VK) : Prop :=
 cond ok (cond (!found) (NN t fun a13 => ∃ n23 n24, cell h a13 = some (.int .i64 n23) ∧ cell h (a13.add 1) = some (.int .i64 n24) ∧ NN best fun a14 => Wr h a14 (.int .i64 n23) fun h18 => Wr h18 (a14.add 1) (.int .i64 n24) fun h19 => zbd_b2 k t2 best true w t24 t24L t24C t25 t26 h19 nx0 K) (NN t fun a15 => ∃ n25 n26, cell h a15 = some (.int .i64 n25) ∧ cell h (a15.add 1) = some (.int .i64 n26) ∧ NN best fun a16 => ∃ n27 n28, cell h a16 = some (.int .i64 n27) ∧ cell h (a16.add 1) = some (.int .i64 n28) ∧ HC 34 #[.agg #[.int .i64 n25, .int .i64 n26], .agg #[.int .i64 n27, .int .i64 n28]] h fun v3 h20 => ∃ r7, v3 = .bool r7 ∧ cond r7 (NN t fun a17 => ∃ n29
 n30, cell h20 a17 = some (.int .i64 n29) ∧ cell h20 (a17.add 1) = some (.int .i64 n30) ∧ NN best fun a18 => Wr h20 a18 (.int .i64 n29) fun h21 => Wr h21 (a18.add 1) (.int .i64 n30) fun h22 => zbd_b2 k t2 best true w t24 t24L t24C t25 t26 h22 nx0 K) (zbd_b2 k t2 best found w t24 t24L t24C t25 t26 h20 nx0 K))) (zbd_b2 k t2 best found w t24 t24L t24C t25 t26 h nx0 K)
def zbd_b4 (t2 best : OA) (found : Bool) (h : Hp) (K : VK) : Prop :=
 NN best fun a19 => ∃ n31 n32, cell h a19 = some (.int .i64 n31) ∧ cell h (a19.add 1) = some (.int .i64 n32) ∧ NN t2 fun a20 => Wr h a20 (.int .i64 n31) fun h23 => Wr h23 (a20.add 1) (.int .i64 n32) fun h24 => NN t2 fun a21 => ∃ r8 r9, cell h24 a21 = some (.int .i64 r8) ∧ cell h24 (a21.add 1) = some (.int .i64 r9) ∧ K (.tuple #[.agg #[.int .i64 r8, .int .i64 r9], .bool found]) h24
def zbd_b1 (found : Bool) (t26 : Int) (k t2 best w t24 : OA) (t24L t24C : Nat) (t25 : Int) (h : Hp) (nx0 : Bool × Int × Unit → Hp → Prop) (K : VK) : Prop :=
 cond (decide (t26 < t25)) ((0 ≤ t26 ∧ t26 < (t24L : Int)) ∧ NN t24 fun a8 => ∃ n7 n8, cell h (a8.add (Int.toNat t26 * 2)) = some (.int .i64 n7) ∧ cell h ((a8.add (Int.toNat t26 * 2)).add 1) = some (.int .i64 n8) ∧ New h (.cells #[.int .i64 0, .int .i64 0] 49) fun b4 h7 => Wr h7 ⟨b4, 0, none⟩ (.int .i64 n7) fun h8 => Wr h8 ((⟨b4, 0, none⟩ : Addr).add 1) (.int .i64 n8) fun h9 => ∃ n9, cell h9 ((⟨b4, 0, none⟩ : Addr).add 1) = some (.int .i64 n9) ∧ NN w fun a9 => ∃ n10, cell h9 (a9.add 1) = some (.int .i64 n10) ∧ cond (decide (n9 ≤ n10)) (zbd_b2 k t2 best found w t24 t24L t24C t25 t26 h9 nx0 K) (NN w fun a10 => ∃ n11 n12, cell h9 a10 = some (.int .i64 n11) ∧ cell h9
 (a10.add 1) = some (.int .i64 n12) ∧ ∃ n13 n14, cell h9 ⟨b4, 0, none⟩ = some (.int .i64 n13) ∧ cell h9 ((⟨b4, 0, none⟩ : Addr).add 1) = some (.int .i64 n14) ∧ NN k fun a11 => ∃ n15 n16, cell h9 (a11.add 1) = some (.int .i64 n15) ∧ cell h9 ((a11.add 1).add 1) = some (.int .i64 n16) ∧ (HC 36 #[.agg #[.int .i64 n11, .int .i64 n12], .agg #[.int .i64 n13, .int .i64 n14], .agg #[.int .i64 n15, .int .i64 n16]] h9 fun v1 h10 => ∃ r1 r2 r3, v1 = .tuple #[.agg #[.int .i64 r1, .int .i64 r2], .bool r3] ∧ New h10 (.cells #[.int .i64 0, .int .i64 0] 26) fun b5 h11 => Wr h11 ⟨b5, 0, none⟩ (.int .i64 r1) fun h12 => Wr h12 ((⟨b5, 0, none⟩ : Addr).add 1) (.int .i64 r2) fun h13 =>
 zbd_b3 k t2 best found w (some ⟨b5, 0, none⟩) r3 t24 t24L t24C t25 t26 h13 nx0 K) ∧ (New h9 (.cells #[.int .i64 0, .int .i64 0] 26) fun b6 h14 => (∃ n17 n18, cell h14 (a11.add 1) = some (.int .i64 n17) ∧ cell h14 ((a11.add 1).add 1) = some (.int .i64 n18) ∧ (.agg #[.int .i64 n17, .int .i64 n18] : Value) = .agg #[.int .i64 n15, .int .i64 n16]) ∧ (∃ n19 n20, cell h14 ⟨b4, 0, none⟩ = some (.int .i64 n19) ∧ cell h14 ((⟨b4, 0, none⟩ : Addr).add 1) = some (.int .i64 n20) ∧ (.agg #[.int .i64 n19, .int .i64 n20] : Value) = .agg #[.int .i64 n13, .int .i64 n14]) ∧ (NN w fun a12 => ∃ n21 n22, cell h14 a12 = some (.int .i64 n21) ∧ cell h14 (a12.add 1) = some (.int .i64 n22) ∧
 (.agg #[.int .i64 n21, .int .i64 n22] : Value) = .agg #[.int .i64 n11, .int .i64 n12]) ∧ HC 36 #[.agg #[.int .i64 n11, .int .i64 n12], .agg #[.int .i64 n13, .int .i64 n14], .agg #[.int .i64 n15, .int .i64 n16]] h14 fun v2 h15 => ∃ r4 r5 r6, v2 = .tuple #[.agg #[.int .i64 r4, .int .i64 r5], .bool r6] ∧ Wr h15 ⟨b6, 0, none⟩ (.int .i64 r4) fun h16 => Wr h16 ((⟨b6, 0, none⟩ : Addr).add 1) (.int .i64 r5) fun h17 => zbd_b3 k t2 best found w (some ⟨b6, 0, none⟩) r6 t24 t24L t24C t25 t26 h17 nx0 K))) (zbd_b4 t2 best found h K)
def zbd_b0 (k : OA) (h : Hp) (K : VK) : Prop :=
 New h (.cells #[.int .i64 0, .int .i64 0] 26) fun b1 h1 => New h1 (.cells #[.int .i64 0, .int .i64 0] 26) fun b2 h2 => NN k fun a1 => ∃ a2 L1 C1, cell h2 a1 = some (.slice a2 L1 C1) ∧ NN k fun a3 => ∃ n1, cell h2 (a3.add 3) = some (.int .i64 n1) ∧ (0 ≤ n1 ∧ n1 < (L1 : Int)) ∧ NN a2 fun a4 => ∃ n2 n3, cell h2 (a4.add (Int.toNat n1 * 2)) = some (.int .i64 n2) ∧ cell h2 ((a4.add (Int.toNat n1 * 2)).add 1) = some (.int .i64 n3) ∧ New h2 (.cells #[.int .i64 0, .int .i64 0] 49) fun b3 h3 => (∃ n4 n5, cell h3 (a4.add (Int.toNat n1 * 2)) = some (.int .i64 n4) ∧ cell h3 ((a4.add (Int.toNat n1 * 2)).add 1) = some (.int .i64 n5) ∧ (.agg #[.int .i64 n4, .int .i64 n5] : Value) = .agg #[.int .i64 n2, .int
 .i64 n3]) ∧ (∃ n6, cell h3 (a3.add 3) = some (.int .i64 n6) ∧ (.int .i64 n6 : Value) = .int .i64 n1) ∧ (∃ a5 L2 C2, cell h3 a1 = some (.slice a5 L2 C2) ∧ (.slice a5 L2 C2 : Value) = .slice a2 L1 C1) ∧ Wr h3 ⟨b3, 0, none⟩ (.int .i64 n2) fun h4 => Wr h4 ((⟨b3, 0, none⟩ : Addr).add 1) (.int .i64 n3) fun h5 => NN k fun a6 => ∃ a7 L3 C3, cell h5 a6 = some (.slice a7 L3 C3) ∧ yabr ((false, 0, ()) : Bool × Int × Unit) h5 (fun (nx0 : Bool × Int × Unit → Hp → Prop) (s1 : Bool × Int × Unit) h6 => zbd_b1 s1.1 s1.2.1 k (some ⟨b1, 0, none⟩) (some ⟨b2, 0, none⟩) (some ⟨b3, 0, none⟩) a7 L3 C3 (L3 : Int) h6 nx0 K)
theorem zbd_sx (k h K) : zbd_b0 k h K = sx_3 Tryz.prog F 59 (cp [] (yaad Tryz.f40)) (ap [] zbd_an) [(0, .pointer k)] h (retK Tryz.prog Tryz.f40.results.toList K) := by kernel_rfl
theorem zbd_call {k h K} (hk : zbd_b0 k h K) : HC 40 #[.pointer k] h K :=
 yaaa zbd_an Tryz.func40 (c := yaad Tryz.f40) rfl Tryz.ntmps40 (lb rfl) (snd_3 F_ok yaaj) (Eq.mp (zbd_sx k h K) hk)
def zck_an : Ann := .leaf
def zck_b0 (s : OA) (sL sC : Nat) (f : Value) (h : Hp) (K : VK) : Prop :=
 HC 75 #[.slice s sL sC, f] h fun v1 h1 => ∃ r1, v1 = .int .i64 r1 ∧ K (.bool (decide ((0 : Int) ≤ r1))) h1
theorem zck_sx (s sL sC f h K) : zck_b0 s sL sC f h K = sx_1 Tryz.prog F 9 (cp [] (yaad Tryz.f41)) (ap [] zck_an) [(0, .slice s sL sC), (1, f)] h (retK Tryz.prog Tryz.f41.results.toList K) := by kernel_rfl
theorem zck_call {s sL sC f h K} (hk : zck_b0 s sL sC f h K) : HC 41 #[.slice s sL sC, f] h K :=
 yaaa zck_an Tryz.func41 (c := yaad Tryz.f41) rfl Tryz.ntmps41 (lb rfl) (snd_1 F_ok yaaj) (Eq.mp (zck_sx s sL sC f h K) hk)
def zcx_an : Ann := .leaf
def zcx_b0 (x : Int) (t1 : OA) (h : Hp) (K : VK) : Prop :=
 cond (decide (x < 0)) (K (.bool true) h) (NN t1 fun a1 => ∃ n1, cell h a1 = some (.int .i64 n1) ∧ K (.bool (decide (n1 ≤ x))) h)
theorem zcx_sx (x t1 h K) : zcx_b0 x t1 h K = sx_1 Tryz.prog F 11 (cp [] (yaad Tryz.f42)) (ap [] zcx_an) [(0, .int .i64 x), (1, .pointer t1)] h (retK Tryz.prog Tryz.f42.results.toList K) := by kernel_rfl
theorem zcx_call {x t1 h K} (hk : zcx_b0 x t1 h K) : HC 42 #[.int .i64 x, .pointer t1] h K :=
 yaaa zcx_an Tryz.func42 (c := yaad Tryz.f42) rfl Tryz.ntmps42 (lb rfl) (snd_1 F_ok yaaj) (Eq.mp (zcx_sx x t1 h K) hk)
def zaa_an : Ann := N0 .leaf (N0 .leaf (N0 .leaf (.node (some [4]) (N0 .leaf (.loop [4, 19, 20] [(21, .int .i64)] (N0 .leaf (N0 .leaf (.node (some [4, 19, 20, 21]) (N0 .leaf (N0 .leaf (N0 (.tail 13) .leaf))) .leaf))))) .leaf)))
def zaa_b2 (_ _ : OA) (_ _ : Nat) (_ t21 : Int) (h : Hp) (nx0 : Int × Unit → Hp → Prop) (_ : VK) : Prop :=
 InR (t21 + 1) ∧ nx0 (t21 + 1, ()) h
def zaa_b3 (v : OA) (h : Hp) (K : VK) : Prop :=
 HC 76 #[.pointer v] h fun v1 h5 => ∃ r2, v1 = .pointer r2 ∧ K (.tuple #[.pointer r2, .int .i64 0]) h5
def zaa_b1 (t21 : Int) (v t19 : OA) (t19L t19C : Nat) (t20 : Int) (h : Hp) (nx0 : Int × Unit → Hp → Prop) (K : VK) : Prop :=
 cond (decide (t21 < t20)) ((0 ≤ t21 ∧ t21 < (t19L : Int)) ∧ NN t19 fun a1 => ∃ b3, cell h (a1.add (Int.toNat t21 * 1)) = some (.bool b3) ∧ cond b3 (NN v fun a2 => ∃ a3 L1 C1, cell h (a2.add 1) = some (.slice a3 L1 C1) ∧ ∃ q2, Sx.Quo .i64 t21 64 q2 ∧ (0 ≤ q2 ∧ q2 < (L1 : Int)) ∧ NN a3 fun a4 => ∃ n1, cell h (a4.add (Int.toNat q2 * 1)) = some (.int .u64 n1) ∧ ∃ r1, Sx.Rem t21 64 r1 ∧ ∃ sl1, Sx.Shl .u64 1 r1 sl1 ∧ ∃ or1, Sx.Or .u64 n1 sl1 or1 ∧ (0 ≤ q2 ∧ q2 < (L1 : Int)) ∧ NN a3 fun a5 => Wr h (a5.add (Int.toNat q2 * 1)) (.int .u64 or1) fun h4 => zaa_b2 v t19 t19L t19C t20 t21 h4 nx0 K) (zaa_b2 v t19 t19L t19C t20 t21 h nx0 K)) (zaa_b3 v h K)
def zaa_b0 (l : OA) (lL lC : Nat) (h : Hp) (K : VK) : Prop :=
 cond (decide ((65536 : Int) < (lL : Int))) (K (.tuple #[.pointer none, .int .i64 4]) h) (InR ((lL : Int) + 63) ∧ ∃ q1, Sx.Quo .i64 ((lL : Int) + 63) 64 q1 ∧ (0 ≤ q1 ∧ q1 ≤ q1 ∧ q1 ≤ 281474976710656 ∧ q1 * ((8 : Nat) : Int) ≤ 281474976710656) ∧ New h (.cells (repL (Int.toNat q1 * 1) [.int .u64 0]).toArray 166) fun b1 h1 => New h1 (.cells #[.int .i64 (lL : Int), .slice (some ⟨b1, 0, none⟩) (Int.toNat q1) (Int.toNat q1), .slice none 0 0] 165) fun b2 h2 => yabr ((0, ()) : Int × Unit) h2 (fun (nx0 : Int × Unit → Hp → Prop) (s1 : Int × Unit) h3 => zaa_b1 s1.1 (some ⟨b2, 0, none⟩) l lL lC (lL : Int) h3 nx0 K))
theorem zaa_sx (l lL lC h K) : zaa_b0 l lL lC h K = sx_3 Tryz.prog F 43 (cp [] (yaad Tryz.f43)) (ap [] zaa_an) [(0, .slice l lL lC)] h (retK Tryz.prog Tryz.f43.results.toList K) := by kernel_rfl
theorem zaa_call {l lL lC h K} (hk : zaa_b0 l lL lC h K) : HC 43 #[.slice l lL lC] h K :=
 yaaa zaa_an Tryz.func43 (c := yaad Tryz.f43) rfl Tryz.ntmps43 (lb rfl) (snd_3 F_ok yaaj) (Eq.mp (zaa_sx l lL lC h K) hk)
def zcq_an : Ann := .leaf
def zcq_b0 (x : OA) (xL xC : Nat) (cmp : Value) (h : Hp) (K : VK) : Prop :=
 HC 77 #[.slice x xL xC, .int .i64 (xL : Int), cmp] h fun v1 h1 => v1 = .tuple #[] ∧ K (.tuple #[]) h1
theorem zcq_sx (x xL xC cmp h K) : zcq_b0 x xL xC cmp h K = sx_1 Tryz.prog F 9 (cp [] (yaad Tryz.f44)) (ap [] zcq_an) [(0, .slice x xL xC), (1, cmp)] h (retK Tryz.prog Tryz.f44.results.toList K) := by kernel_rfl
theorem zcq_call {x xL xC cmp h K} (hk : zcq_b0 x xL xC cmp h K) : HC 44 #[.slice x xL xC, cmp] h K :=
 yaaa zcq_an Tryz.func44 (c := yaad Tryz.f44) rfl Tryz.ntmps44 (lb rfl) (snd_1 F_ok yaaj) (Eq.mp (zcq_sx x xL xC cmp h K) hk)
def zcy_an : Ann := .leaf
def zcy_b0 (a b : Int) (t2 : OA) (h : Hp) (K : VK) : Prop :=
 NN t2 fun a1 => ∃ n1, cell h a1 = some (.int .i64 n1) ∧ ∃ sr1, Sx.Shr .i64 a n1 sr1 ∧ NN t2 fun a2 => ∃ n2, cell h a2 = some (.int .i64 n2) ∧ ∃ sr2, Sx.Shr .i64 b n2 sr2 ∧ ∃ r1, HC 46 #[.int .i64 sr1, .int .i64 sr2] h (fun v1 h1 => v1 = .int .i64 r1 ∧ h1 = h) ∧ K (.int .i64 r1) h
theorem zcy_sx (a b t2 h K) : zcy_b0 a b t2 h K = sx_1 Tryz.prog F 13 (cp [] (yaad Tryz.f45)) (ap [] zcy_an) [(0, .int .i64 a), (1, .int .i64 b), (2, .pointer t2)] h (retK Tryz.prog Tryz.f45.results.toList K) := by kernel_rfl
theorem zcy_call {a b t2 h K} (hk : zcy_b0 a b t2 h K) : HC 45 #[.int .i64 a, .int .i64 b, .pointer t2] h K :=
 yaaa zcy_an Tryz.func45 (c := yaad Tryz.f45) rfl Tryz.ntmps45 (lb rfl) (snd_1 F_ok yaaj) (Eq.mp (zcy_sx a b t2 h K) hk)
def zao_an : Ann := .leaf
def zao_b0 (x y : Int) (h : Hp) (K : VK) : Prop :=
 HC 78 #[.int .i64 x] h fun v1 h1 => ∃ r1, v1 = .bool r1 ∧ HC 78 #[.int .i64 y] h1 fun v2 h2 => ∃ r2, v2 = .bool r2 ∧ cond r1 (cond r2 (K (.int .i64 0) h2) (K (.int .i64 (-1)) h2)) (cond r2 (K (.int .i64 1) h2) (cond (decide (x < y)) (K (.int .i64 (-1)) h2) (cond (decide (y < x)) (K (.int .i64 1) h2) (K (.int .i64 0) h2))))
theorem zao_sx (x y h K) : zao_b0 x y h K = sx_1 Tryz.prog F 20 (cp [] (yaad Tryz.f46)) (ap [] zao_an) [(0, .int .i64 x), (1, .int .i64 y)] h (retK Tryz.prog Tryz.f46.results.toList K) := by kernel_rfl
theorem zao_call {x y h K} (hk : zao_b0 x y h K) : HC 46 #[.int .i64 x, .int .i64 y] h K :=
 yaaa zao_an Tryz.func46 (c := yaad Tryz.f46) rfl Tryz.ntmps46 (lb rfl) (snd_1 F_ok yaaj) (Eq.mp (zao_sx x y h K) hk)
def zde_an : Ann := .leaf
def zde_b0 (t : OA) (fromv to : Int) (h : Hp) (K : VK) : Prop :=
 cond (decide ((0 : Int) ≤ fromv)) (cond (decide (fromv ≤ to)) (NN t fun a1 => ∃ n1, cell h a1 = some (.int .i64 n1) ∧ K (.bool (decide (to ≤ n1))) h) (K (.bool false) h)) (K (.bool false) h)
theorem zde_sx (t fromv to h K) : zde_b0 t fromv to h K = sx_1 Tryz.prog F 22 (cp [] (yaad Tryz.f47)) (ap [] zde_an) [(0, .pointer t), (1, .int .i64 fromv), (2, .int .i64 to)] h (retK Tryz.prog Tryz.f47.results.toList K) := by kernel_rfl
theorem zde_call {t fromv to h K} (hk : zde_b0 t fromv to h K) : HC 47 #[.pointer t, .int .i64 fromv, .int .i64 to] h K :=
 yaaa zde_an Tryz.func47 (c := yaad Tryz.f47) rfl Tryz.ntmps47 (lb rfl) (snd_1 F_ok yaaj) (Eq.mp (zde_sx t fromv to h K) hk)
def zdf_an : Ann := .leaf
def zdf_b0 (t : OA) (fromv to low high : Int) (h : Hp) (K : VK) : Prop :=
 New h (.cells #[.pointer t] 44) fun b1 h1 => New h1 (.cells #[.int .i64 fromv] 3) fun b2 h2 => New h2 (.cells #[.int .i64 to] 3) fun b3 h3 => New h3 (.cells #[.int .i64 low] 3) fun b4 h4 => New h4 (.cells #[.int .i64 high] 3) fun b5 h5 => K (.func (.func 79) #[] #[.pointer (some ⟨b1, 0, none⟩), .pointer (some ⟨b4, 0, none⟩), .pointer (some ⟨b5, 0, none⟩), .pointer (some ⟨b2, 0, none⟩), .pointer (some ⟨b3, 0, none⟩)]) h5
theorem zdf_sx (t fromv to low high h K) : zdf_b0 t fromv to low high h K = sx_1 Tryz.prog F 12 (cp [] (yaad Tryz.f48)) (ap [] zdf_an) [(0, .pointer t), (1, .int .i64 fromv), (2, .int .i64 to), (3, .int .i64 low), (4, .int .i64 high)] h (retK Tryz.prog Tryz.f48.results.toList K) := by kernel_rfl
theorem zdf_call {t fromv to low high h K} (hk : zdf_b0 t fromv to low high h K) : HC 48 #[.pointer t, .int .i64 fromv, .int .i64 to, .int .i64 low, .int .i64 high] h K :=
 yaaa zdf_an Tryz.func48 (c := yaad Tryz.f48) rfl Tryz.ntmps48 (lb rfl) (snd_1 F_ok yaaj) (Eq.mp (zdf_sx t fromv to low high h K) hk)
def zak_an : Ann := .leaf
def zak_b0 (l : OA) (lL lC : Nat) (h : Hp) (K : VK) : Prop :=
 HC 41 #[.slice l lL lC, .func (.func 83) #[] #[]] h fun v1 h1 => ∃ r1, v1 = .bool r1 ∧ K (.bool (!r1)) h1
theorem zak_sx (l lL lC h K) : zak_b0 l lL lC h K = sx_1 Tryz.prog F 6 (cp [] (yaad Tryz.f49)) (ap [] zak_an) [(0, .slice l lL lC)] h (retK Tryz.prog Tryz.f49.results.toList K) := by kernel_rfl
theorem zak_call {l lL lC h K} (hk : zak_b0 l lL lC h K) : HC 49 #[.slice l lL lC] h K :=
 yaaa zak_an Tryz.func49 (c := yaad Tryz.f49) rfl Tryz.ntmps49 (lb rfl) (snd_1 F_ok yaaj) (Eq.mp (zak_sx l lL lC h K) hk)
def zah_an : Ann := N0 .leaf (N0 .leaf (N0 .leaf (N0 (N0 .leaf (N0 (N0 .leaf (N0 (.tail 15) .leaf)) .leaf)) (N0 .leaf (N0 .leaf (N0 .leaf (N0 .leaf (.node (some [0, 1, 2, 8, 15]) (N0 .leaf (.loop [0, 10, 11] [(1, .int .i64), (2, .int .i64), (8, .int .i64), (15, .ptr), (16, .int .i64)] (N0 .leaf (.node (some [0, 1, 2, 8, 10, 11, 15, 16]) (N0 .leaf (.node (some [0, 8, 10, 11, 15, 16, 17, 18]) (.plan (.qu 0 (.qu 1 (.qu 2 (.qu 3 (.qu 4 (.qu 5 (.qu 6 (.qu 7 (.qu 10 (.qu 11 (.qu 12 (.qu 13 (.qu 14 (.qu 15 (.wo 8 (.wo 9 (.wo 16 (.wo 17 (.qu 18 (.qu 19 (.wo 20 (.qu 21 (.qu 22 (.wo 23 .fin .no))) .no))) .no) .no) (.wo 16 (.wo 9 (.wo 17 (.qu 18 (.qu 19 (.wo 20 (.qu 21 (.qu 22 (.wo 23 .fin .no))) .no))) .no) .no) .no)) (.wo 16 (.wo 8 (.wo 9 (.wo 17 (.qu 18 (.qu 19 (.wo 20 (.qu 21 (.qu 22 (.wo 23 .fin .no))) .no))) .no) .no) .no) .no))))))))))))))))) (.node (some [0, 8, 10, 11, 16, 17]) .leaf .leaf))) .leaf)))) .leaf))))))))
def zah_b5 (_ : OA) (key value visits : Int) (_ : OA) (_ _ : Nat) (_ : OA) (_ _ : Nat) (right : OA) (d : Int) (h : Hp) (nx0 : Int × Int × Int × OA × Int × Unit → Hp → Prop) (_ : VK) : Prop :=
 InR (d - 1) ∧ nx0 (key, value, visits, right, d - 1, ()) h
def zah_b4 (t : OA) (visits : Int) (nodes : OA) (nodesL nodesC : Nat) (atv : OA) (atvL atvC : Nat) (d : Int) (nv : OA) (h : Hp) (nx0 : Int × Int × Int × OA × Int × Unit → Hp → Prop) (K : VK) : Prop :=
 NN nv fun a42 => ∃ a43 L18 C18, cell h a42 = some (.slice a43 L18 C18) ∧ NN t fun a44 => ∃ n6, cell h a44 = some (.int .i64 n6) ∧ cond (decide ((L18 : Int) < n6)) (K (.tuple #[.int .i64 0, .bool false, .int .i64 visits, .int .i64 0]) h) (HC 87 #[.pointer nv] h fun v9 h34 => ∃ r11 r12 r13, v9 = .tuple #[.int .i64 r11, .int .i64 r12, .pointer r13] ∧ InR (visits + 1) ∧ zah_b5 t r11 r12 (visits + 1) nodes nodesL nodesC atv atvL atvC r13 d h34 nx0 K)
def zah_b2 (t : OA) (visits : Int) (nodes : OA) (nodesL nodesC : Nat) (atv : OA) (atvL atvC : Nat) (right : OA) (d : Int) (nv : OA) (i : Int) (h : Hp) (nx0 : Int × Int × Int × OA × Int × Unit → Hp → Prop) (K : VK) : Prop :=
 cond (!right.isNone) (NN nv fun a37 => ∃ a38 L17 C17, cell h (a37.add 2) = some (.slice a38 L17 C17) ∧ InR (i + 1) ∧ New h (.cells #[.pointer right] 85) fun b9 h26 => HC 86 #[.slice a38 L17 C17, .int .i64 (i + 1), .slice (some ⟨b9, 0, none⟩) 1 1] h26 fun v8 h27 => ∃ r10 rL9 rC9, v8 = .slice r10 rL9 rC9 ∧ NN nv fun a39 => Wr h27 (a39.add 2) (.slice r10 rL9 rC9) fun h28 => zah_b4 t visits nodes nodesL nodesC atv atvL atvC d nv h28 nx0 K) (zah_b4 t visits nodes nodesL nodesC atv atvL atvC d nv h nx0 K)
def zah_b3 (t : OA) (key value visits : Int) (right : OA) (h : Hp) (K : VK) : Prop :=
 New h (.cells #[.int .i64 key] 3) fun b10 h29 => New h29 (.cells #[.int .i64 value] 3) fun b11 h30 => NN t fun a40 => ∃ p3, cell h30 (a40.add 2) = some (.pointer p3) ∧ New h30 (.cells #[.pointer p3, .pointer right] 85) fun b12 h31 => New h31 (.cells #[.slice (some ⟨b10, 0, none⟩) 1 1, .slice (some ⟨b11, 0, none⟩) 1 1, .slice (some ⟨b12, 0, none⟩) 2 2] 177) fun b13 h32 => NN t fun a41 => Wr h32 (a41.add 2) (.pointer (some ⟨b13, 0, none⟩)) fun h33 => InR (visits + 1) ∧ K (.tuple #[.int .i64 0, .bool false, .int .i64 (visits + 1), .int .i64 0]) h33
def zah_b1 (key value visits : Int) (right : OA) (d : Int) (t nodes : OA) (nodesL nodesC : Nat) (atv : OA) (atvL atvC : Nat) (h : Hp) (nx0 : Int × Int × Int × OA × Int × Unit → Hp → Prop) (K : VK) : Prop :=
 cond (decide ((0 : Int) ≤ d)) ((0 ≤ d ∧ d < (nodesL : Int)) ∧ NN nodes fun a13 => ∃ p2, cell h (a13.add (Int.toNat d * 1)) = some (.pointer p2) ∧ (0 ≤ d ∧ d < (atvL : Int)) ∧ NN atv fun a14 => ∃ n5, cell h (a14.add (Int.toNat d * 1)) = some (.int .i64 n5) ∧ NN p2 fun a15 => ∃ a16 L3 C3, cell h a15 = some (.slice a16 L3 C3) ∧ NN p2 fun a17 => ∃ a18 L4 C4, cell h (a17.add 1) = some (.slice a18 L4 C4) ∧ (New h (.cells #[.int .i64 key] 3) fun b4 h9 => (∃ a19 L5 C5, cell h9 (a17.add 1) = some (.slice a19 L5 C5) ∧ (.slice a19 L5 C5 : Value) = .slice a18 L4 C4) ∧ (∃ a20 L6 C6, cell h9 a15 = some (.slice a20 L6 C6) ∧ (.slice a20 L6 C6 : Value) = .slice a16 L3 C3) ∧ (HC 85 #[.slice a16
 L3 C3, .int .i64 n5, .slice (some ⟨b4, 0, none⟩) 1 1] h9 fun v2 h10 => ∃ r4 rL3 rC3, v2 = .slice r4 rL3 rC3 ∧ (∃ a21 L7 C7, cell h10 (a17.add 1) = some (.slice a21 L7 C7) ∧ (.slice a21 L7 C7 : Value) = .slice a18 L4 C4) ∧ New h10 (.cells #[.int .i64 value] 3) fun b5 h11 => (∃ a22 L8 C8, cell h11 (a17.add 1) = some (.slice a22 L8 C8) ∧ (.slice a22 L8 C8 : Value) = .slice a18 L4 C4) ∧ HC 85 #[.slice a18 L4 C4, .int .i64 n5, .slice (some ⟨b5, 0, none⟩) 1 1] h11 fun v3 h12 => ∃ r5 rL4 rC4, v3 = .slice r5 rL4 rC4 ∧ NN p2 fun a23 => Wr h12 a23 (.slice r4 rL3 rC3) fun h13 => NN p2 fun a24 => Wr h13 (a24.add 1) (.slice r5 rL4 rC4) fun h14 => zah_b2 t visits nodes nodesL
 nodesC atv atvL atvC right d p2 n5 h14 nx0 K) ∧ (New h9 (.cells #[.int .i64 value] 3) fun b6 h15 => (∃ a25 L9 C9, cell h15 (a17.add 1) = some (.slice a25 L9 C9) ∧ (.slice a25 L9 C9 : Value) = .slice a18 L4 C4) ∧ (∃ a26 L10 C10, cell h15 a15 = some (.slice a26 L10 C10) ∧ (.slice a26 L10 C10 : Value) = .slice a16 L3 C3) ∧ HC 85 #[.slice a16 L3 C3, .int .i64 n5, .slice (some ⟨b4, 0, none⟩) 1 1] h15 fun v4 h16 => ∃ r6 rL5 rC5, v4 = .slice r6 rL5 rC5 ∧ (∃ a27 L11 C11, cell h16 (a17.add 1) = some (.slice a27 L11 C11) ∧ (.slice a27 L11 C11 : Value) = .slice a18 L4 C4) ∧ HC 85 #[.slice a18 L4 C4, .int .i64 n5, .slice (some ⟨b6, 0, none⟩) 1 1] h16 fun v5 h17 => ∃ r7 rL6
 rC6, v5 = .slice r7 rL6 rC6 ∧ NN p2 fun a28 => Wr h17 a28 (.slice r6 rL5 rC5) fun h18 => NN p2 fun a29 => Wr h18 (a29.add 1) (.slice r7 rL6 rC6) fun h19 => zah_b2 t visits nodes nodesL nodesC atv atvL atvC right d p2 n5 h19 nx0 K)) ∧ (New h (.cells #[.int .i64 value] 3) fun b7 h20 => (∃ a30 L12 C12, cell h20 (a17.add 1) = some (.slice a30 L12 C12) ∧ (.slice a30 L12 C12 : Value) = .slice a18 L4 C4) ∧ (∃ a31 L13 C13, cell h20 a15 = some (.slice a31 L13 C13) ∧ (.slice a31 L13 C13 : Value) = .slice a16 L3 C3) ∧ New h20 (.cells #[.int .i64 key] 3) fun b8 h21 => (∃ a32 L14 C14, cell h21 (a17.add 1) = some (.slice a32 L14 C14) ∧ (.slice a32 L14 C14 : Value) = .slice a18 L4 C4) ∧ (∃ a33
 L15 C15, cell h21 a15 = some (.slice a33 L15 C15) ∧ (.slice a33 L15 C15 : Value) = .slice a16 L3 C3) ∧ HC 85 #[.slice a16 L3 C3, .int .i64 n5, .slice (some ⟨b8, 0, none⟩) 1 1] h21 fun v6 h22 => ∃ r8 rL7 rC7, v6 = .slice r8 rL7 rC7 ∧ (∃ a34 L16 C16, cell h22 (a17.add 1) = some (.slice a34 L16 C16) ∧ (.slice a34 L16 C16 : Value) = .slice a18 L4 C4) ∧ HC 85 #[.slice a18 L4 C4, .int .i64 n5, .slice (some ⟨b7, 0, none⟩) 1 1] h22 fun v7 h23 => ∃ r9 rL8 rC8, v7 = .slice r9 rL8 rC8 ∧ NN p2 fun a35 => Wr h23 a35 (.slice r8 rL7 rC7) fun h24 => NN p2 fun a36 => Wr h24 (a36.add 1) (.slice r9 rL8 rC8) fun h25 => zah_b2 t visits nodes nodesL nodesC atv atvL atvC
 right d p2 n5 h25 nx0 K)) (zah_b3 t key value visits right h K)
def zah_b0 (t : OA) (key value : Int) (h : Hp) (K : VK) : Prop :=
 HC 84 #[.pointer t, .int .i64 key] h fun v1 h1 => ∃ r1 rL1 rC1 r2 rL2 rC2 r3, v1 = .tuple #[.slice r1 rL1 rC1, .slice r2 rL2 rC2, .bool r3] ∧ cond r3 (InR ((rL1 : Int) - 1) ∧ (0 ≤ (rL1 : Int) - 1 ∧ (rL1 : Int) - 1 < (rL1 : Int)) ∧ NN r1 fun a1 => ∃ p1, cell h1 (a1.add (Int.toNat ((rL1 : Int) - 1) * 1)) = some (.pointer p1) ∧ InR ((rL2 : Int) - 1) ∧ (0 ≤ (rL2 : Int) - 1 ∧ (rL2 : Int) - 1 < (rL2 : Int)) ∧ NN r2 fun a2 => ∃ n1, cell h1 (a2.add (Int.toNat ((rL2 : Int) - 1) * 1)) = some (.int .i64 n1) ∧ NN p1 fun a3 => ∃ a4 L1 C1, cell h1 (a3.add 1) = some (.slice a4 L1 C1) ∧ NN p1 fun a5 => ∃ a6 L2 C2, cell h1 (a5.add 1) = some (.slice a6 L2 C2) ∧ (0 ≤ n1 ∧ n1 < (L2 : Int)) ∧ NN a6
 fun a7 => ∃ n2, cell h1 (a7.add (Int.toNat n1 * 1)) = some (.int .i64 n2) ∧ (0 ≤ n1 ∧ n1 < (L1 : Int)) ∧ NN a4 fun a8 => Wr h1 (a8.add (Int.toNat n1 * 1)) (.int .i64 value) fun h2 => K (.tuple #[.int .i64 n2, .bool true, .int .i64 (rL1 : Int), .int .i64 0]) h2) (NN t fun a9 => ∃ n3, cell h1 (a9.add 1) = some (.int .i64 n3) ∧ cond (decide ((2000 : Int) ≤ n3)) (K (.tuple #[.int .i64 0, .bool false, .int .i64 0, .int .i64 4]) h1) (NN t fun a10 => ∃ n4, cell h1 (a10.add 1) = some (.int .i64 n4) ∧ InR (n4 + 1) ∧ NN t fun a11 => Wr h1 (a11.add 1) (.int .i64 (n4 + 1)) fun h3 => cond (decide ((rL1 : Int) = 0)) (New h3 (.cells #[.int .i64 key] 3) fun b1 h4 => New h4 (.cells #[.int .i64 value] 3) fun
 b2 h5 => New h5 (.cells #[.slice (some ⟨b1, 0, none⟩) 1 1, .slice (some ⟨b2, 0, none⟩) 1 1, .slice none 0 0] 177) fun b3 h6 => NN t fun a12 => Wr h6 (a12.add 2) (.pointer (some ⟨b3, 0, none⟩)) fun h7 => K (.tuple #[.int .i64 0, .bool false, .int .i64 1, .int .i64 0]) h7) (InR ((rL1 : Int) - 1) ∧ yabr ((key, value, (rL1 : Int), none, (rL1 : Int) - 1, ()) : Int × Int × Int × OA × Int × Unit) h3 (fun (nx0 : Int × Int × Int × OA × Int × Unit → Hp → Prop) (s1 : Int × Int × Int × OA × Int × Unit) h8 => zah_b1 s1.1 s1.2.1 s1.2.2.1 s1.2.2.2.1 s1.2.2.2.2.1 t r1 rL1 rC1 r2 rL2 rC2 h8 nx0 K))))
theorem zah_sx (t key value h K) : zah_b0 t key value h K = sx_4 Tryz.prog F 168 (cp [] (yaad Tryz.f50)) (ap [] zah_an) [(0, .pointer t), (1, .int .i64 key), (2, .int .i64 value)] h (retK Tryz.prog Tryz.f50.results.toList K) := by kernel_rfl
theorem zah_call {t key value h K} (hk : zah_b0 t key value h K) : HC 50 #[.pointer t, .int .i64 key, .int .i64 value] h K :=
 yaaa zah_an Tryz.func50 (c := yaad Tryz.f50) rfl Tryz.ntmps50 (lb rfl) (snd_4 F_ok yaaj) (Eq.mp (zah_sx t key value h K) hk)
def zcb_an : Ann := N0 .leaf (N0 .leaf (N0 .leaf (N0 .leaf (N0 .leaf (.node (some [0, 1, 4, 6, 7]) .leaf (N0 .leaf (.node (some [4, 9]) .leaf .leaf)))))))
def zcb_b2 (t4 out : OA) (h : Hp) (K : VK) : Prop :=
 NN out fun a1 => ∃ n2 n3, cell h a1 = some (.int .i64 n2) ∧ cell h (a1.add 1) = some (.int .i64 n3) ∧ NN t4 fun a2 => Wr h a2 (.int .i64 n2) fun h15 => Wr h15 (a2.add 1) (.int .i64 n3) fun h16 => NN t4 fun a3 => ∃ r10 r11, cell h16 a3 = some (.int .i64 r10) ∧ cell h16 (a3.add 1) = some (.int .i64 r11) ∧ K (.tuple #[.agg #[.int .i64 r10, .int .i64 r11], .int .i64 0]) h16
def zcb_b1 (num den : Int) (t4 : OA) (nv d : Int) (h : Hp) (K : VK) : Prop :=
 InR nv ∧ InR d ∧ New h (.cells #[.int .i64 0, .int .i64 0] 26) fun b2 h11 => Wr h11 ⟨b2, 0, none⟩ (.int .i64 nv) fun h12 => Wr h12 ((⟨b2, 0, none⟩ : Addr).add 1) (.int .i64 d) fun h13 => cond (!((decide (num < 0)) == (decide (den < 0)))) (∃ n1, cell h13 ⟨b2, 0, none⟩ = some (.int .i64 n1) ∧ InR (0 - n1) ∧ Wr h13 ⟨b2, 0, none⟩ (.int .i64 (0 - n1)) fun h14 => zcb_b2 t4 (some ⟨b2, 0, none⟩) h14 K) (zcb_b2 t4 (some ⟨b2, 0, none⟩) h13 K)
def zcb_b0 (num den : Int) (h : Hp) (K : VK) : Prop :=
 New h (.cells #[.int .i64 0, .int .i64 0] 26) fun b1 h1 => cond (decide (den = 0)) (Wr h1 ⟨b1, 0, none⟩ (.int .i64 0) fun h2 => Wr h2 ((⟨b1, 0, none⟩ : Addr).add 1) (.int .i64 0) fun h3 => ∃ r1 r2, cell h3 ⟨b1, 0, none⟩ = some (.int .i64 r1) ∧ cell h3 ((⟨b1, 0, none⟩ : Addr).add 1) = some (.int .i64 r2) ∧ K (.tuple #[.agg #[.int .i64 r1, .int .i64 r2], .int .i64 18]) h3) (HC 88 #[.int .i64 num] h1 fun v1 h4 => ∃ r3, v1 = .int .u64 r3 ∧ HC 88 #[.int .i64 den] h4 fun v2 h5 => ∃ r4, v2 = .int .u64 r4 ∧ HC 89 #[.int .u64 r3, .int .u64 r4] h5 fun v3 h6 => ∃ r5, v3 = .int .u64 r5 ∧ ∃ q1, Sx.Quo .u64 r3 r5 q1 ∧ ∃ q2, Sx.Quo .u64 r4 r5 q2 ∧ cond (decide
 ((1073741824 : Int) < q1)) (Wr h6 ⟨b1, 0, none⟩ (.int .i64 0) fun h7 => Wr h7 ((⟨b1, 0, none⟩ : Addr).add 1) (.int .i64 0) fun h8 => ∃ r6 r7, cell h8 ⟨b1, 0, none⟩ = some (.int .i64 r6) ∧ cell h8 ((⟨b1, 0, none⟩ : Addr).add 1) = some (.int .i64 r7) ∧ K (.tuple #[.agg #[.int .i64 r6, .int .i64 r7], .int .i64 5]) h8) (cond (decide ((1073741824 : Int) < q2)) (Wr h6 ⟨b1, 0, none⟩ (.int .i64 0) fun h9 => Wr h9 ((⟨b1, 0, none⟩ : Addr).add 1) (.int .i64 0) fun h10 => ∃ r8 r9, cell h10 ⟨b1, 0, none⟩ = some (.int .i64 r8) ∧ cell h10 ((⟨b1, 0, none⟩ : Addr).add 1) = some (.int .i64 r9) ∧ K (.tuple #[.agg #[.int .i64 r8, .int .i64 r9], .int .i64 5]) h10) (zcb_b1 num den (some ⟨b1, 0, none⟩) q1
 q2 h6 K)))
theorem zcb_sx (num den h K) : zcb_b0 num den h K = sx_3 Tryz.prog F 48 (cp [] (yaad Tryz.f51)) (ap [] zcb_an) [(0, .int .i64 num), (1, .int .i64 den)] h (retK Tryz.prog Tryz.f51.results.toList K) := by kernel_rfl
theorem zcb_call {num den h K} (hk : zcb_b0 num den h K) : HC 51 #[.int .i64 num, .int .i64 den] h K :=
 yaaa zcb_an Tryz.func51 (c := yaad Tryz.f51) rfl Tryz.ntmps51 (lb rfl) (snd_3 F_ok yaaj) (Eq.mp (zcb_sx num den h K) hk)
def zbq_an : Ann := .leaf
def zbq_b0 (m_0 m_1 t_0 t_1 : Int) (h : Hp) (K : VK) : Prop :=
 New h (.cells #[.int .i64 m_0, .int .i64 m_1] 49) fun b1 h1 => New h1 (.cells #[.int .i64 t_0, .int .i64 t_1] 26) fun b2 h2 => ∃ n1, cell h2 ⟨b1, 0, none⟩ = some (.int .i64 n1) ∧ ∃ n2, cell h2 ((⟨b2, 0, none⟩ : Addr).add 1) = some (.int .i64 n2) ∧ InR (n1 * n2) ∧ ∃ n3, cell h2 ((⟨b1, 0, none⟩ : Addr).add 1) = some (.int .i64 n3) ∧ ∃ n4, cell h2 ⟨b2, 0, none⟩ = some (.int .i64 n4) ∧ InR (n3 * n4) ∧ InR ((n1 * n2) + (n3 * n4)) ∧ K (.int .i64 ((n1 * n2) + (n3 * n4))) h2
theorem zbq_sx (m_0 m_1 t_0 t_1 h K) : zbq_b0 m_0 m_1 t_0 t_1 h K = sx_1 Tryz.prog F 16 (cp [] (yaad Tryz.f52)) (ap [] zbq_an) [(0, .agg #[.int .i64 m_0, .int .i64 m_1]), (1, .agg #[.int .i64 t_0, .int .i64 t_1])] h (retK Tryz.prog Tryz.f52.results.toList K) := by kernel_rfl
theorem zbq_call {m_0 m_1 t_0 t_1 h K} (hk : zbq_b0 m_0 m_1 t_0 t_1 h K) : HC 52 #[.agg #[.int .i64 m_0, .int .i64 m_1], .agg #[.int .i64 t_0, .int .i64 t_1]] h K :=
 yaaa zbq_an Tryz.func52 (c := yaad Tryz.f52) rfl Tryz.ntmps52 (lb rfl) (snd_1 F_ok yaaj) (Eq.mp (zbq_sx m_0 m_1 t_0 t_1 h K) hk)
def zaj_an : Ann := N0 .leaf (N0 .leaf (.node (some [0, 1]) (N0 .leaf (.loop [0, 1, 12, 13] [(14, .int .i64)] (N0 .leaf (N0 .leaf (.node (some [0, 1, 12, 13, 14]) .leaf .leaf))))) (N0 (.tail 15) .leaf)))
def zaj_b2 (_ : OA) (_ : Value) (_ : OA) (_ _ : Nat) (_ t14 : Int) (h : Hp) (nx0 : Int × Unit → Hp → Prop) (_ : VK) : Prop :=
 InR (t14 + 1) ∧ nx0 (t14 + 1, ()) h
def zaj_b3 (nv : OA) (f : Value) (h : Hp) (K : VK) : Prop :=
 ∃ r5, HC 90 #[.pointer nv] h (fun v5 h6 => v5 = .bool r5 ∧ h6 = h) ∧ cond r5 (K (.bool true) h) (NN nv fun a13 => ∃ a14 L5 C5, cell h (a13.add 2) = some (.slice a14 L5 C5) ∧ NN nv fun a15 => ∃ a16 L6 C6, cell h a15 = some (.slice a16 L6 C6) ∧ (0 ≤ (L6 : Int) ∧ (L6 : Int) < (L5 : Int)) ∧ NN a14 fun a17 => ∃ p2, cell h (a17.add (Int.toNat (L6 : Int) * 1)) = some (.pointer p2) ∧ HC 53 #[.pointer p2, f] h fun v6 h7 => ∃ r6, v6 = .bool r6 ∧ K (.bool r6) h7)
def zaj_b1 (t14 : Int) (nv : OA) (f : Value) (t12 : OA) (t12L t12C : Nat) (t13 : Int) (h : Hp) (nx0 : Int × Unit → Hp → Prop) (K : VK) : Prop :=
 cond (decide (t14 < t13)) ((0 ≤ t14 ∧ t14 < (t12L : Int)) ∧ NN t12 fun a3 => ∃ n1, cell h (a3.add (Int.toNat t14 * 1)) = some (.int .i64 n1) ∧ HC 90 #[.pointer nv] h fun v1 h2 => ∃ r1, v1 = .bool r1 ∧ cond (!r1) (NN nv fun a4 => ∃ a5 L2 C2, cell h2 (a4.add 2) = some (.slice a5 L2 C2) ∧ (0 ≤ t14 ∧ t14 < (L2 : Int)) ∧ NN a5 fun a6 => ∃ p1, cell h2 (a6.add (Int.toNat t14 * 1)) = some (.pointer p1) ∧ HC 53 #[.pointer p1, f] h2 fun v2 h3 => ∃ r2, v2 = .bool r2 ∧ cond (!r2) (K (.bool false) h3) (NN nv fun a7 => ∃ a8 L3 C3, cell h3 (a7.add 1) = some (.slice a8 L3 C3) ∧ (0 ≤ t14 ∧ t14 < (L3 : Int)) ∧ NN a8 fun a9 => ∃ n2, cell h3 (a9.add (Int.toNat t14 * 1)) = some (.int
 .i64 n2) ∧ funV f fun fg1 fa1 fc1 => callX Tryz.prog F fg1 (fa1 ++ (([.int .i64 n1, .int .i64 n2] : List Value) ++ fc1)).toArray h3 fun v3 h4 => ∃ r3, v3 = .bool r3 ∧ cond (!r3) (K (.bool false) h4) (zaj_b2 nv f t12 t12L t12C t13 t14 h4 nx0 K))) (NN nv fun a10 => ∃ a11 L4 C4, cell h2 (a10.add 1) = some (.slice a11 L4 C4) ∧ (0 ≤ t14 ∧ t14 < (L4 : Int)) ∧ NN a11 fun a12 => ∃ n3, cell h2 (a12.add (Int.toNat t14 * 1)) = some (.int .i64 n3) ∧ funV f fun fg2 fa2 fc2 => callX Tryz.prog F fg2 (fa2 ++ (([.int .i64 n1, .int .i64 n3] : List Value) ++ fc2)).toArray h2 fun v4 h5 => ∃ r4, v4 = .bool r4 ∧ cond (!r4) (K (.bool false) h5) (zaj_b2 nv f t12 t12L t12C t13 t14 h5 nx0 K)))
 (zaj_b3 nv f h K)
def zaj_b0 (nv : OA) (f : Value) (h : Hp) (K : VK) : Prop :=
 cond nv.isNone (K (.bool true) h) (NN nv fun a1 => ∃ a2 L1 C1, cell h a1 = some (.slice a2 L1 C1) ∧ yabr ((0, ()) : Int × Unit) h (fun (nx0 : Int × Unit → Hp → Prop) (s1 : Int × Unit) h1 => zaj_b1 s1.1 nv f a2 L1 C1 (L1 : Int) h1 nx0 K))
theorem zaj_sx (nv f h K) : zaj_b0 nv f h K = sx_3 Tryz.prog F 65 (cp [] (yaad Tryz.f53)) (ap [] zaj_an) [(0, .pointer nv), (1, f)] h (retK Tryz.prog Tryz.f53.results.toList K) := by kernel_rfl
theorem zaj_call {nv f h K} (hk : zaj_b0 nv f h K) : HC 53 #[.pointer nv, f] h K :=
 yaaa zaj_an Tryz.func53 (c := yaad Tryz.f53) rfl Tryz.ntmps53 (lb rfl) (snd_3 F_ok yaaj) (Eq.mp (zaj_sx nv f h K) hk)
def zaf_an : Ann := N0 .leaf (.node (some [0, 3, 4]) .leaf .leaf)
def zaf_b1 (k : Int) (t3 t4 : OA) (h : Hp) (K : VK) : Prop :=
 NN t3 fun a7 => ∃ n3, cell h a7 = some (.int .i64 n3) ∧ cond (decide (k < n3)) (NN t4 fun a8 => ∃ a9 L2 C2, cell h a8 = some (.slice a9 L2 C2) ∧ K (.bool (decide ((L2 : Int) ≤ 1000))) h) (K (.bool false) h)
def zaf_b0 (k v : Int) (t2 t3 t4 : OA) (h : Hp) (K : VK) : Prop :=
 NN t2 fun a1 => ∃ n1, cell h a1 = some (.int .i64 n1) ∧ cond (decide (n1 ≤ k)) (NN t3 fun a2 => ∃ n2, cell h a2 = some (.int .i64 n2) ∧ cond (decide (k < n2)) (NN t4 fun a3 => ∃ a4 L1 C1, cell h a3 = some (.slice a4 L1 C1) ∧ New h (.cells #[.int .i64 k, .int .i64 v] 59) fun b1 h1 => yaba Tryz.prog 56 56 (.slice a4 L1 C1) (.slice (some ⟨b1, 0, none⟩) 1 1) h1 (slK fun a5 l1 c1 h2 => NN t4 fun a6 => Wr h2 a6 (.slice a5 l1 c1) fun h3 => zaf_b1 k t3 t4 h3 K)) (zaf_b1 k t3 t4 h K)) (zaf_b1 k t3 t4 h K)
theorem zaf_sx (k v t2 t3 t4 h K) : zaf_b0 k v t2 t3 t4 h K = sx_2 Tryz.prog F 30 (cp [] (yaad Tryz.f54)) (ap [] zaf_an) [(0, .int .i64 k), (1, .int .i64 v), (2, .pointer t2), (3, .pointer t3), (4, .pointer t4)] h (retK Tryz.prog Tryz.f54.results.toList K) := by kernel_rfl
theorem zaf_call {k v t2 t3 t4 h K} (hk : zaf_b0 k v t2 t3 t4 h K) : HC 54 #[.int .i64 k, .int .i64 v, .pointer t2, .pointer t3, .pointer t4] h K :=
 yaaa zaf_an Tryz.func54 (c := yaad Tryz.f54) rfl Tryz.ntmps54 (lb rfl) (snd_2 F_ok yaaj) (Eq.mp (zaf_sx k v t2 t3 t4 h K) hk)
def zcl_an : Ann := N0 .leaf (.node (some []) (N0 .leaf (.loop [0, 1, 7] [(8, .int .i64)] (N0 .leaf (N0 .leaf (.node (some [0, 1, 7, 8]) .leaf .leaf))))) .leaf)
def zcl_b2 (_ : OA) (_ _ : Nat) (_ : Value) (_ t8 : Int) (h : Hp) (nx0 : Int × Unit → Hp → Prop) (_ : VK) : Prop :=
 InR (t8 + 1) ∧ nx0 (t8 + 1, ()) h
def zcl_b3 (h : Hp) (K : VK) : Prop :=
 K (.int .i64 (-1)) h
def zcl_b1 (t8 : Int) (s : OA) (sL sC : Nat) (f : Value) (t7 : Int) (h : Hp) (nx0 : Int × Unit → Hp → Prop) (K : VK) : Prop :=
 cond (decide (t8 < t7)) ((0 ≤ t8 ∧ t8 < (sL : Int)) ∧ NN s fun a1 => ∃ n1 n2, cell h (a1.add (Int.toNat t8 * 2)) = some (.int .i64 n1) ∧ cell h ((a1.add (Int.toNat t8 * 2)).add 1) = some (.int .i64 n2) ∧ funV f fun fg1 fa1 fc1 => callX Tryz.prog F fg1 (fa1 ++ (([.agg #[.int .i64 n1, .int .i64 n2]] : List Value) ++ fc1)).toArray h fun v1 h2 => ∃ r1, v1 = .bool r1 ∧ cond r1 (K (.int .i64 t8) h2) (zcl_b2 s sL sC f t7 t8 h2 nx0 K)) (zcl_b3  h K)
def zcl_b0 (s : OA) (sL sC : Nat) (f : Value) (h : Hp) (K : VK) : Prop :=
 yabr ((0, ()) : Int × Unit) h (fun (nx0 : Int × Unit → Hp → Prop) (s1 : Int × Unit) h1 => zcl_b1 s1.1 s sL sC f (sL : Int) h1 nx0 K)
theorem zcl_sx (s sL sC f h K) : zcl_b0 s sL sC f h K = sx_3 Tryz.prog F 19 (cp [] (yaad Tryz.f67)) (ap [] zcl_an) [(0, .slice s sL sC), (1, f)] h (retK Tryz.prog Tryz.f67.results.toList K) := by kernel_rfl
theorem zcl_call {s sL sC f h K} (hk : zcl_b0 s sL sC f h K) : HC 67 #[.slice s sL sC, f] h K :=
 yaaa zcl_an Tryz.func67 (c := yaad Tryz.f67) rfl Tryz.ntmps67 (lb rfl) (snd_3 F_ok yaaj) (Eq.mp (zcl_sx s sL sC f h K) hk)
def zcc_an : Ann := .leaf
def zcc_b0 (a_0 a_1 : Int) (h : Hp) (K : VK) : Prop :=
 New h (.cells #[.int .i64 a_0, .int .i64 a_1] 26) fun b1 h1 => ∃ n1, cell h1 ((⟨b1, 0, none⟩ : Addr).add 1) = some (.int .i64 n1) ∧ cond (decide ((1 : Int) ≤ n1)) (∃ n2, cell h1 ((⟨b1, 0, none⟩ : Addr).add 1) = some (.int .i64 n2) ∧ cond (decide (n2 ≤ 1073741824)) (∃ n3, cell h1 ⟨b1, 0, none⟩ = some (.int .i64 n3) ∧ cond (decide (((-1073741824) : Int) ≤ n3)) (∃ n4, cell h1 ⟨b1, 0, none⟩ = some (.int .i64 n4) ∧ cond (decide (n4 ≤ 1073741824)) (∃ n5, cell h1 ⟨b1, 0, none⟩ = some (.int .i64 n5) ∧ ∃ r1, HC 88 #[.int .i64 n5] h1 (fun v1 h2 => v1 = .int .u64 r1 ∧ h2 = h1) ∧ ∃ n6, cell h1 ((⟨b1, 0, none⟩ : Addr).add 1) = some (.int .i64 n6) ∧ ∃ r2, HC 88 #[.int .i64 n6]
 h1 (fun v2 h3 => v2 = .int .u64 r2 ∧ h3 = h1) ∧ ∃ r3, HC 89 #[.int .u64 r1, .int .u64 r2] h1 (fun v3 h4 => v3 = .int .u64 r3 ∧ h4 = h1) ∧ K (.bool (decide (r3 = 1))) h1) (K (.bool false) h1)) (K (.bool false) h1)) (K (.bool false) h1)) (K (.bool false) h1)
theorem zcc_sx (a_0 a_1 h K) : zcc_b0 a_0 a_1 h K = sx_1 Tryz.prog F 31 (cp [] (yaad Tryz.f68)) (ap [] zcc_an) [(0, .agg #[.int .i64 a_0, .int .i64 a_1])] h (retK Tryz.prog Tryz.f68.results.toList K) := by kernel_rfl
theorem zcc_call {a_0 a_1 h K} (hk : zcc_b0 a_0 a_1 h K) : HC 68 #[.agg #[.int .i64 a_0, .int .i64 a_1]] h K :=
 yaaa zcc_an Tryz.func68 (c := yaad Tryz.f68) rfl Tryz.ntmps68 (lb rfl) (snd_1 F_ok yaaj) (Eq.mp (zcc_sx a_0 a_1 h K) hk)
def zca_an : Ann := N0 .leaf (.node (some [2, 3]) .leaf .leaf)
def zca_b1 (a b : OA) (h : Hp) (K : VK) : Prop :=
 NN a fun a1 => ∃ n5, cell h a1 = some (.int .i64 n5) ∧ NN b fun a2 => ∃ n6, cell h (a2.add 1) = some (.int .i64 n6) ∧ InR (n5 * n6) ∧ NN b fun a3 => ∃ n7, cell h a3 = some (.int .i64 n7) ∧ NN a fun a4 => ∃ n8, cell h (a4.add 1) = some (.int .i64 n8) ∧ InR (n7 * n8) ∧ HC 46 #[.int .i64 (n5 * n6), .int .i64 (n7 * n8)] h fun v3 h5 => ∃ r3, v3 = .int .i64 r3 ∧ K (.tuple #[.int .i64 r3, .int .i64 0]) h5
def zca_b0 (a_0 a_1 b_0 b_1 : Int) (h : Hp) (K : VK) : Prop :=
 New h (.cells #[.int .i64 a_0, .int .i64 a_1] 26) fun b1 h1 => New h1 (.cells #[.int .i64 b_0, .int .i64 b_1] 26) fun b2 h2 => ∃ n1 n2, cell h2 ⟨b1, 0, none⟩ = some (.int .i64 n1) ∧ cell h2 ((⟨b1, 0, none⟩ : Addr).add 1) = some (.int .i64 n2) ∧ HC 68 #[.agg #[.int .i64 n1, .int .i64 n2]] h2 fun v1 h3 => ∃ r1, v1 = .bool r1 ∧ cond (!r1) (K (.tuple #[.int .i64 0, .int .i64 1]) h3) (∃ n3 n4, cell h3 ⟨b2, 0, none⟩ = some (.int .i64 n3) ∧ cell h3 ((⟨b2, 0, none⟩ : Addr).add 1) = some (.int .i64 n4) ∧ HC 68 #[.agg #[.int .i64 n3, .int .i64 n4]] h3 fun v2 h4 => ∃ r2, v2 = .bool r2 ∧ cond (!r2) (K (.tuple #[.int .i64 0, .int .i64 1]) h4) (zca_b1 (some ⟨b1, 0, none⟩)
 (some ⟨b2, 0, none⟩) h4 K))
theorem zca_sx (a_0 a_1 b_0 b_1 h K) : zca_b0 a_0 a_1 b_0 b_1 h K = sx_2 Tryz.prog F 25 (cp [] (yaad Tryz.f69)) (ap [] zca_an) [(0, .agg #[.int .i64 a_0, .int .i64 a_1]), (1, .agg #[.int .i64 b_0, .int .i64 b_1])] h (retK Tryz.prog Tryz.f69.results.toList K) := by kernel_rfl
theorem zca_call {a_0 a_1 b_0 b_1 h K} (hk : zca_b0 a_0 a_1 b_0 b_1 h K) : HC 69 #[.agg #[.int .i64 a_0, .int .i64 a_1], .agg #[.int .i64 b_0, .int .i64 b_1]] h K :=
 yaaa zca_an Tryz.func69 (c := yaad Tryz.f69) rfl Tryz.ntmps69 (lb rfl) (snd_2 F_ok yaaj) (Eq.mp (zca_sx a_0 a_1 b_0 b_1 h K) hk)
def zcp_an : Ann := .leaf
def zcp_b0 (x : OA) (xL xC : Nat) (cmp : Value) (h : Hp) (K : VK) : Prop :=
 HC 107 #[.int .u64 (IntKind.u64.wrap (xL : Int))] h fun v1 h1 => ∃ r1, v1 = .int .i64 r1 ∧ HC 106 #[.slice x xL xC, .int .i64 0, .int .i64 (xL : Int), .int .i64 r1, cmp] h1 fun v2 h2 => v2 = .tuple #[] ∧ K (.tuple #[]) h2
theorem zcp_sx (x xL xC cmp h K) : zcp_b0 x xL xC cmp h K = sx_1 Tryz.prog F 14 (cp [] (yaad Tryz.f70)) (ap [] zcp_an) [(0, .slice x xL xC), (1, cmp)] h (retK Tryz.prog Tryz.f70.results.toList K) := by kernel_rfl
theorem zcp_call {x xL xC cmp h K} (hk : zcp_b0 x xL xC cmp h K) : HC 70 #[.slice x xL xC, cmp] h K :=
 yaaa zcp_an Tryz.func70 (c := yaad Tryz.f70) rfl Tryz.ntmps70 (lb rfl) (snd_1 F_ok yaaj) (Eq.mp (zcp_sx x xL xC cmp h K) hk)
def zbp_an : Ann := N0 .leaf (N0 (.plan (.qu 0 (.qu 1 (.qu 2 (.qu 3 (.qu 4 (.qu 6 (.qu 7 (.qu 8 (.qu 9 (.qu 10 (.qu 13 (.qu 14 (.qu 15 (.qu 16 (.qu 17 (.qu 18 (.qu 19 (.qu 20 (.qu 21 (.qu 22 (.qu 24 (.qu 25 (.wo 5 (.wo 11 (.wo 12 (.wo 23 (.wo 26 (.wo 27 (.wo 28 (.wo 29 .fin .no) .no) .no) .no) .no) .no) .no) .no)))))))))))))))))))))))) .leaf)
def zbp_b0 (a b : Int) (t2 t3 : OA) (h : Hp) (K : VK) : Prop :=
 NN t2 fun a1 => ∃ a2 L1 C1, cell h a1 = some (.slice a2 L1 C1) ∧ (0 ≤ a ∧ a < (L1 : Int)) ∧ NN a2 fun a3 => ∃ n1 n2, cell h (a3.add (Int.toNat a * 2)) = some (.int .i64 n1) ∧ cell h ((a3.add (Int.toNat a * 2)).add 1) = some (.int .i64 n2) ∧ NN t3 fun a4 => ∃ n3 n4, cell h a4 = some (.int .i64 n3) ∧ cell h (a4.add 1) = some (.int .i64 n4) ∧ NN t2 fun a5 => ∃ a6 L2 C2, cell h a5 = some (.slice a6 L2 C2) ∧ (0 ≤ b ∧ b < (L2 : Int)) ∧ NN a6 fun a7 => ∃ n5 n6, cell h (a7.add (Int.toNat b * 2)) = some (.int .i64 n5) ∧ cell h ((a7.add (Int.toNat b * 2)).add 1) = some (.int .i64 n6) ∧ NN t3 fun a8 => ∃ n7 n8, cell h a8 = some (.int .i64 n7) ∧ cell h (a8.add 1) = some (.int .i64 n8) ∧ NN t2 fun a9 =>
 ∃ a10 L3 C3, cell h a9 = some (.slice a10 L3 C3) ∧ (0 ≤ a ∧ a < (L3 : Int)) ∧ NN a10 fun a11 => ∃ n9, cell h ((a11.add (Int.toNat a * 2)).add 1) = some (.int .i64 n9) ∧ NN t2 fun a12 => ∃ a13 L4 C4, cell h a12 = some (.slice a13 L4 C4) ∧ (0 ≤ b ∧ b < (L4 : Int)) ∧ NN a13 fun a14 => ∃ n10, cell h ((a14.add (Int.toNat b * 2)).add 1) = some (.int .i64 n10) ∧ HC 52 #[.agg #[.int .i64 n1, .int .i64 n2], .agg #[.int .i64 n3, .int .i64 n4]] h fun v1 h1 => ∃ r1, v1 = .int .i64 r1 ∧ (∃ n11, cell h1 ((a14.add (Int.toNat b * 2)).add 1) = some (.int .i64 n11) ∧ (.int .i64 n11 : Value) = .int .i64 n10) ∧ (NN t2 fun a15 => ∃ a16 L5 C5, cell h1 a15 = some (.slice a16 L5 C5) ∧ (.slice a16 L5
 C5 : Value) = .slice a13 L4 C4) ∧ (∃ n12, cell h1 ((a11.add (Int.toNat a * 2)).add 1) = some (.int .i64 n12) ∧ (.int .i64 n12 : Value) = .int .i64 n9) ∧ (NN t2 fun a17 => ∃ a18 L6 C6, cell h1 a17 = some (.slice a18 L6 C6) ∧ (.slice a18 L6 C6 : Value) = .slice a10 L3 C3) ∧ (NN t3 fun a19 => ∃ n13 n14, cell h1 a19 = some (.int .i64 n13) ∧ cell h1 (a19.add 1) = some (.int .i64 n14) ∧ (.agg #[.int .i64 n13, .int .i64 n14] : Value) = .agg #[.int .i64 n7, .int .i64 n8]) ∧ (∃ n15 n16, cell h1 (a7.add (Int.toNat b * 2)) = some (.int .i64 n15) ∧ cell h1 ((a7.add (Int.toNat b * 2)).add 1) = some (.int .i64 n16) ∧ (.agg #[.int .i64 n15, .int .i64 n16] : Value) = .agg #[.int .i64 n5, .int .i64 n6]) ∧
 (NN t2 fun a20 => ∃ a21 L7 C7, cell h1 a20 = some (.slice a21 L7 C7) ∧ (.slice a21 L7 C7 : Value) = .slice a6 L2 C2) ∧ HC 52 #[.agg #[.int .i64 n5, .int .i64 n6], .agg #[.int .i64 n7, .int .i64 n8]] h1 fun v2 h2 => ∃ r2, v2 = .int .i64 r2 ∧ (∃ n17, cell h2 ((a14.add (Int.toNat b * 2)).add 1) = some (.int .i64 n17) ∧ (.int .i64 n17 : Value) = .int .i64 n10) ∧ (NN t2 fun a22 => ∃ a23 L8 C8, cell h2 a22 = some (.slice a23 L8 C8) ∧ (.slice a23 L8 C8 : Value) = .slice a13 L4 C4) ∧ (∃ n18, cell h2 ((a11.add (Int.toNat a * 2)).add 1) = some (.int .i64 n18) ∧ (.int .i64 n18 : Value) = .int .i64 n9) ∧ (NN t2 fun a24 => ∃ a25 L9 C9, cell h2 a24 = some (.slice a25 L9 C9) ∧ (.slice a25 L9
 C9 : Value) = .slice a10 L3 C3) ∧ HC 46 #[.int .i64 r1, .int .i64 r2] h2 fun v3 h3 => ∃ r3, v3 = .int .i64 r3 ∧ (∃ n19, cell h3 ((a14.add (Int.toNat b * 2)).add 1) = some (.int .i64 n19) ∧ (.int .i64 n19 : Value) = .int .i64 n10) ∧ (NN t2 fun a26 => ∃ a27 L10 C10, cell h3 a26 = some (.slice a27 L10 C10) ∧ (.slice a27 L10 C10 : Value) = .slice a13 L4 C4) ∧ (∃ n20, cell h3 ((a11.add (Int.toNat a * 2)).add 1) = some (.int .i64 n20) ∧ (.int .i64 n20 : Value) = .int .i64 n9) ∧ (NN t2 fun a28 => ∃ a29 L11 C11, cell h3 a28 = some (.slice a29 L11 C11) ∧ (.slice a29 L11 C11 : Value) = .slice a10 L3 C3) ∧ HC 46 #[.int .i64 n9, .int .i64 n10] h3 fun v4 h4 => ∃ r4, v4 = .int
 .i64 r4 ∧ HC 46 #[.int .i64 a, .int .i64 b] h4 fun v5 h5 => ∃ r5, v5 = .int .i64 r5 ∧ New h5 (.cells #[.int .i64 r3, .int .i64 r4, .int .i64 r5] 3) fun b1 h6 => HC 72 #[.slice (some ⟨b1, 0, none⟩) 3 3] h6 fun v6 h7 => ∃ r6, v6 = .int .i64 r6 ∧ K (.int .i64 r6) h7
theorem zbp_sx (a b t2 t3 h K) : zbp_b0 a b t2 t3 h K = sx_1 Tryz.prog F 36 (cp [] (yaad Tryz.f71)) (ap [] zbp_an) [(0, .int .i64 a), (1, .int .i64 b), (2, .pointer t2), (3, .pointer t3)] h (retK Tryz.prog Tryz.f71.results.toList K) := by kernel_rfl
theorem zbp_call {a b t2 t3 h K} (hk : zbp_b0 a b t2 t3 h K) : HC 71 #[.int .i64 a, .int .i64 b, .pointer t2, .pointer t3] h K :=
 yaaa zbp_an Tryz.func71 (c := yaad Tryz.f71) rfl Tryz.ntmps71 (lb rfl) (snd_1 F_ok yaaj) (Eq.mp (zbp_sx a b t2 t3 h K) hk)
def zaq_an : Ann := N0 .leaf (N0 .leaf (.node (some [3]) (N0 .leaf (.loop [3, 6, 7] [(8, .int .i64)] (N0 .leaf (N0 .leaf (.node (some [3, 6, 7, 8]) .leaf .leaf))))) .leaf))
def zaq_b2 (_ : Int) (_ : OA) (_ _ : Nat) (_ t8 : Int) (h : Hp) (nx0 : Int × Unit → Hp → Prop) (_ : VK) : Prop :=
 InR (t8 + 1) ∧ nx0 (t8 + 1, ()) h
def zaq_b3 (zero : Int) (h : Hp) (K : VK) : Prop :=
 K (.int .i64 zero) h
def zaq_b1 (t8 zero : Int) (t6 : OA) (t6L t6C : Nat) (t7 : Int) (h : Hp) (nx0 : Int × Unit → Hp → Prop) (K : VK) : Prop :=
 cond (decide (t8 < t7)) ((0 ≤ t8 ∧ t8 < (t6L : Int)) ∧ NN t6 fun a1 => ∃ n1, cell h (a1.add (Int.toNat t8 * 1)) = some (.int .i64 n1) ∧ cond (!decide (n1 = zero)) (K (.int .i64 n1) h) (zaq_b2 zero t6 t6L t6C t7 t8 h nx0 K)) (zaq_b3 zero h K)
def zaq_b0 (vals : OA) (valsL valsC : Nat) (h : Hp) (K : VK) : Prop :=
 yabr ((0, ()) : Int × Unit) h (fun (nx0 : Int × Unit → Hp → Prop) (s1 : Int × Unit) h1 => zaq_b1 s1.1 0 vals valsL valsC (valsL : Int) h1 nx0 K)
theorem zaq_sx (vals valsL valsC h K) : zaq_b0 vals valsL valsC h K = sx_3 Tryz.prog F 18 (cp [] (yaad Tryz.f72)) (ap [] zaq_an) [(0, .slice vals valsL valsC)] h (retK Tryz.prog Tryz.f72.results.toList K) := by kernel_rfl
theorem zaq_call {vals valsL valsC h K} (hk : zaq_b0 vals valsL valsC h K) : HC 72 #[.slice vals valsL valsC] h K :=
 yaaa zaq_an Tryz.func72 (c := yaad Tryz.f72) rfl Tryz.ntmps72 (lb rfl) (snd_3 F_ok yaaj) (Eq.mp (zaq_sx vals valsL valsC h K) hk)
def zav_an : Ann := .loop [0] [(1, .int .i64)] (N0 .leaf (.node (some [0, 1, 4]) .leaf .leaf))
def zav_b2 (hv : Value) (j i : Int) (h : Hp) (nx0 : Int × Unit → Hp → Prop) (_ : VK) : Prop :=
 invC Tryz.prog hv "Swap" [.int .i64 i, .int .i64 j] h fun v2 h3 => v2 = .tuple #[] ∧ nx0 (i, ()) h3
def zav_b1 (j : Int) (hv : Value) (h : Hp) (nx0 : Int × Unit → Hp → Prop) (K : VK) : Prop :=
 InR (j - 1) ∧ ∃ q1, Sx.Quo .i64 (j - 1) 2 q1 ∧ cond (decide (q1 = j)) (K (.tuple #[]) h) (invC Tryz.prog hv "Less" [.int .i64 j, .int .i64 q1] h fun v1 h2 => ∃ r1, v1 = .bool r1 ∧ cond (!r1) (K (.tuple #[]) h2) (zav_b2 hv j q1 h2 nx0 K))
def zav_b0 (hv : Value) (j : Int) (h : Hp) (K : VK) : Prop :=
 yabr ((j, ()) : Int × Unit) h (fun (nx0 : Int × Unit → Hp → Prop) (s1 : Int × Unit) h1 => zav_b1 s1.1 hv h1 nx0 K)
theorem zav_sx (hv j h K) : zav_b0 hv j h K = sx_3 Tryz.prog F 23 (cp [] (yaad Tryz.f73)) (ap [] zav_an) [(0, hv), (1, .int .i64 j)] h (retK Tryz.prog Tryz.f73.results.toList K) := by kernel_rfl
theorem zav_call {hv j h K} (hk : zav_b0 hv j h K) : HC 73 #[hv, .int .i64 j] h K :=
 yaaa zav_an Tryz.func73 (c := yaad Tryz.f73) rfl Tryz.ntmps73 (lb rfl) (snd_3 F_ok yaaj) (Eq.mp (zav_sx hv j h K) hk)
def zau_an : Ann := N0 .leaf (N0 .leaf (.node (some [1, 7]) (.loop [0, 1, 2] [(7, .int .i64)] (N0 .leaf (.node (some [0, 1, 2, 7, 8]) .leaf (N0 .leaf (.node (some [0, 1, 2, 7, 9]) .leaf .leaf))))) .leaf))
def zau_b2 (i0 i : Int) (h : Hp) (K : VK) : Prop :=
 K (.bool (decide (i0 < i))) h
def zau_b4 (hv : Value) (i0 _ i j : Int) (h : Hp) (nx0 : Int × Unit → Hp → Prop) (K : VK) : Prop :=
 invC Tryz.prog hv "Less" [.int .i64 j, .int .i64 i] h fun v2 h3 => ∃ r2, v2 = .bool r2 ∧ cond (!r2) (zau_b2 i0 i h3 K) (invC Tryz.prog hv "Swap" [.int .i64 i, .int .i64 j] h3 fun v3 h4 => v3 = .tuple #[] ∧ nx0 (j, ()) h4)
def zau_b3 (hv : Value) (i0 nv i j1 : Int) (h : Hp) (nx0 : Int × Unit → Hp → Prop) (K : VK) : Prop :=
 InR (j1 + 1) ∧ cond (decide ((j1 + 1) < nv)) (invC Tryz.prog hv "Less" [.int .i64 (j1 + 1), .int .i64 j1] h fun v1 h2 => ∃ r1, v1 = .bool r1 ∧ cond r1 (zau_b4 hv i0 nv i (j1 + 1) h2 nx0 K) (zau_b4 hv i0 nv i j1 h2 nx0 K)) (zau_b4 hv i0 nv i j1 h nx0 K)
def zau_b1 (i : Int) (hv : Value) (i0 nv : Int) (h : Hp) (nx0 : Int × Unit → Hp → Prop) (K : VK) : Prop :=
 InR (2 * i) ∧ InR ((2 * i) + 1) ∧ cond (decide (nv ≤ ((2 * i) + 1))) (zau_b2 i0 i h K) (cond (decide (((2 * i) + 1) < 0)) (zau_b2 i0 i h K) (zau_b3 hv i0 nv i ((2 * i) + 1) h nx0 K))
def zau_b0 (hv : Value) (i0 nv : Int) (h : Hp) (K : VK) : Prop :=
 yabr ((i0, ()) : Int × Unit) h (fun (nx0 : Int × Unit → Hp → Prop) (s1 : Int × Unit) h1 => zau_b1 s1.1 hv i0 nv h1 nx0 K)
theorem zau_sx (hv i0 nv h K) : zau_b0 hv i0 nv h K = sx_4 Tryz.prog F 48 (cp [] (yaad Tryz.f74)) (ap [] zau_an) [(0, hv), (1, .int .i64 i0), (2, .int .i64 nv)] h (retK Tryz.prog Tryz.f74.results.toList K) := by kernel_rfl
theorem zau_call {hv i0 nv h K} (hk : zau_b0 hv i0 nv h K) : HC 74 #[hv, .int .i64 i0, .int .i64 nv] h K :=
 yaaa zau_an Tryz.func74 (c := yaad Tryz.f74) rfl Tryz.ntmps74 (lb rfl) (snd_4 F_ok yaaj) (Eq.mp (zau_sx hv i0 nv h K) hk)
