/- Plain statements of what each block of code of this seat asks; printed by a program, checked by Lean. -/
import Derived.Test.YtdlkohenamlnaaaGreatSxV0
set_option maxRecDepth 10000
namespace Go.Proofs.YtdlkohenamlnaaaGreat
open Go Go.Sx
def zeq_an : Ann := N0 .leaf (N0 .leaf (N0 .leaf (N0 .leaf (N0 .leaf (N0 .leaf (N0 (N0 .leaf (N0 (N0 .leaf (N0 .leaf (N0 (.tail 8) .leaf))) .leaf)) (N0 .leaf (N0 (N0 .leaf (N0 (N0 (.tail 8) .leaf) .leaf)) .leaf))))))))
def zeq_b0 (s : OA) (sL sC : Nat) (i : Int) (v : OA) (vL vC : Nat) (h : Hp) (K : VK) : Prop :=
 (0 ≤ i ∧ i ≤ (sL : Int) ∧ (sL : Int) ≤ (sC : Int)) ∧ cond (decide ((vL : Int) = 0)) (K (.slice s sL sC) h) (cond (decide (i = (sL : Int))) (yaan Tryz.prog 94 94 (.slice s sL sC) (.slice v vL vC) h (slK fun a1 l1 c1 h1 => K (.slice a1 l1 c1) h1)) (InR ((sL : Int) + (vL : Int)) ∧ cond (decide ((sC : Int) < ((sL : Int) + (vL : Int)))) ((0 ≤ (0 : Int) ∧ (0 : Int) ≤ i ∧ i ≤ (sC : Int)) ∧ InR ((sL : Int) + (vL : Int)) ∧ InR (((sL : Int) + (vL : Int)) - i) ∧ yaan Tryz.prog 94 3 (.slice (yaab s sC (Int.toNat (0 : Int)) 2) (Int.toNat i - Int.toNat (0 : Int)) (sC - Int.toNat (0 : Int))) (.int .i64 (((sL : Int) + (vL : Int)) - i)) h (slK fun a2 l2 c2 h2 => (0 ≤ i ∧ i ≤ (l2 : Int) ∧ (l2 : Int)
 ≤ (c2 : Int)) ∧ copyV Tryz.prog 94 (.slice (yaab a2 c2 (Int.toNat i) 2) (Int.toNat (l2 : Int) - Int.toNat i) (c2 - Int.toNat i)) (.slice v vL vC) h2 fun v1 h3 => InR (i + (vL : Int)) ∧ (0 ≤ i + (vL : Int) ∧ i + (vL : Int) ≤ (l2 : Int) ∧ (l2 : Int) ≤ (c2 : Int)) ∧ (0 ≤ i ∧ i ≤ (sL : Int) ∧ (sL : Int) ≤ (sC : Int)) ∧ copyV Tryz.prog 94 (.slice (yaab a2 c2 (Int.toNat (i + (vL : Int))) 2) (Int.toNat (l2 : Int) - Int.toNat (i + (vL : Int))) (c2 - Int.toNat (i + (vL : Int)))) (.slice (yaab s sC (Int.toNat i) 2) (Int.toNat (sL : Int) - Int.toNat i) (sC - Int.toNat i)) h3 fun v2 h4 => K (.slice a2 l2 c2) h4)) (InR ((sL : Int) + (vL : Int)) ∧ (0 ≤ (0 : Int) ∧ (0 : Int) ≤ (sL : Int) + (vL :
 Int) ∧ (sL : Int) + (vL : Int) ≤ (sC : Int)) ∧ InR (i + (vL : Int)) ∧ (0 ≤ i + (vL : Int) ∧ i + (vL : Int) ≤ ((Int.toNat ((sL : Int) + (vL : Int)) - Int.toNat (0 : Int) : Nat) : Int) ∧ ((Int.toNat ((sL : Int) + (vL : Int)) - Int.toNat (0 : Int) : Nat) : Int) ≤ ((sC - Int.toNat (0 : Int) : Nat) : Int)) ∧ yaeq Tryz.prog 173 #[.slice v vL vC, .slice (yaab (yaab s sC (Int.toNat (0 : Int)) 2) (sC - Int.toNat (0 : Int)) (Int.toNat (i + (vL : Int))) 2) (Int.toNat ((Int.toNat ((sL : Int) + (vL : Int)) - Int.toNat (0 : Int) : Nat) : Int) - Int.toNat (i + (vL : Int))) ((sC - Int.toNat (0 : Int)) - Int.toNat (i + (vL : Int)))] h fun v3 => ∃ r1, v3 = .bool r1 ∧ cond (!r1) (InR (i + (vL : Int))
 ∧ (0 ≤ i + (vL : Int) ∧ i + (vL : Int) ≤ ((Int.toNat ((sL : Int) + (vL : Int)) - Int.toNat (0 : Int) : Nat) : Int) ∧ ((Int.toNat ((sL : Int) + (vL : Int)) - Int.toNat (0 : Int) : Nat) : Int) ≤ ((sC - Int.toNat (0 : Int) : Nat) : Int)) ∧ (0 ≤ i ∧ i ≤ ((Int.toNat ((sL : Int) + (vL : Int)) - Int.toNat (0 : Int) : Nat) : Int) ∧ ((Int.toNat ((sL : Int) + (vL : Int)) - Int.toNat (0 : Int) : Nat) : Int) ≤ ((sC - Int.toNat (0 : Int) : Nat) : Int)) ∧ copyV Tryz.prog 94 (.slice (yaab (yaab s sC (Int.toNat (0 : Int)) 2) (sC - Int.toNat (0 : Int)) (Int.toNat (i + (vL : Int))) 2) (Int.toNat ((Int.toNat ((sL : Int) + (vL : Int)) - Int.toNat (0 : Int) : Nat) : Int) - Int.toNat (i + (vL : Int))) ((sC
 - Int.toNat (0 : Int)) - Int.toNat (i + (vL : Int)))) (.slice (yaab (yaab s sC (Int.toNat (0 : Int)) 2) (sC - Int.toNat (0 : Int)) (Int.toNat i) 2) (Int.toNat ((Int.toNat ((sL : Int) + (vL : Int)) - Int.toNat (0 : Int) : Nat) : Int) - Int.toNat i) ((sC - Int.toNat (0 : Int)) - Int.toNat i)) h fun v4 h6 => (0 ≤ i ∧ i ≤ ((Int.toNat ((sL : Int) + (vL : Int)) - Int.toNat (0 : Int) : Nat) : Int) ∧ ((Int.toNat ((sL : Int) + (vL : Int)) - Int.toNat (0 : Int) : Nat) : Int) ≤ ((sC - Int.toNat (0 : Int) : Nat) : Int)) ∧ copyV Tryz.prog 94 (.slice (yaab (yaab s sC (Int.toNat (0 : Int)) 2) (sC - Int.toNat (0 : Int)) (Int.toNat i) 2) (Int.toNat ((Int.toNat ((sL : Int) + (vL : Int)) -
 Int.toNat (0 : Int) : Nat) : Int) - Int.toNat i) ((sC - Int.toNat (0 : Int)) - Int.toNat i)) (.slice v vL vC) h6 fun v5 h7 => K (.slice (yaab s sC (Int.toNat (0 : Int)) 2) (Int.toNat ((sL : Int) + (vL : Int)) - Int.toNat (0 : Int)) (sC - Int.toNat (0 : Int))) h7) ((0 ≤ (sL : Int) ∧ (sL : Int) ≤ ((Int.toNat ((sL : Int) + (vL : Int)) - Int.toNat (0 : Int) : Nat) : Int) ∧ ((Int.toNat ((sL : Int) + (vL : Int)) - Int.toNat (0 : Int) : Nat) : Int) ≤ ((sC - Int.toNat (0 : Int) : Nat) : Int)) ∧ copyV Tryz.prog 94 (.slice (yaab (yaab s sC (Int.toNat (0 : Int)) 2) (sC - Int.toNat (0 : Int)) (Int.toNat (sL : Int)) 2) (Int.toNat ((Int.toNat ((sL : Int) + (vL : Int)) - Int.toNat (0 : Int) : Nat)
 : Int) - Int.toNat (sL : Int)) ((sC - Int.toNat (0 : Int)) - Int.toNat (sL : Int))) (.slice v vL vC) h fun v6 h8 => (0 ≤ i ∧ i ≤ ((Int.toNat ((sL : Int) + (vL : Int)) - Int.toNat (0 : Int) : Nat) : Int) ∧ ((Int.toNat ((sL : Int) + (vL : Int)) - Int.toNat (0 : Int) : Nat) : Int) ≤ ((sC - Int.toNat (0 : Int) : Nat) : Int)) ∧ HC 174 #[.slice (yaab (yaab s sC (Int.toNat (0 : Int)) 2) (sC - Int.toNat (0 : Int)) (Int.toNat i) 2) (Int.toNat ((Int.toNat ((sL : Int) + (vL : Int)) - Int.toNat (0 : Int) : Nat) : Int) - Int.toNat i) ((sC - Int.toNat (0 : Int)) - Int.toNat i), .int .i64 (vL : Int)] h8 fun v7 h9 => v7 = .tuple #[] ∧ K (.slice (yaab s sC (Int.toNat (0 : Int)) 2)
 (Int.toNat ((sL : Int) + (vL : Int)) - Int.toNat (0 : Int)) (sC - Int.toNat (0 : Int))) h9))))
theorem zeq_sx (s sL sC i v vL vC h K) : zeq_b0 s sL sC i v vL vC h K = sx_1 Tryz.prog F 95 (cp [] (yaac Tryz.f149)) (ap [] zeq_an) [(0, .slice s sL sC), (1, .int .i64 i), (2, .slice v vL vC)] h (retK Tryz.prog Tryz.f149.results.toList K) := by kernel_rfl
theorem zeq_call {s sL sC i v vL vC h K} (hk : zeq_b0 s sL sC i v vL vC h K) : HC 149 #[.slice s sL sC, .int .i64 i, .slice v vL vC] h K :=
 yaaa zeq_an Tryz.func149 (c := yaac Tryz.f149) rfl Tryz.ntmps149 (lb rfl) (snd_1 F_ok yaad) (Eq.mp (zeq_sx s sL sC i v vL vC h K) hk)
def zej_an : Ann := N0 .leaf (.node (some []) (N0 .leaf (.loop [0, 1, 7] [(8, .int .i64)] (N0 .leaf (N0 .leaf (.node (some [0, 1, 7, 8]) .leaf .leaf))))) .leaf)
def zej_b2 (s : OA) (sL sC : Nat) (f : Value) (t7 t8 : Int) (h : Hp) (nx0 : Int × Unit → Hp → Prop) (K : VK) : Prop :=
 InR (t8 + 1) ∧ nx0 (t8 + 1, ()) h
def zej_b3 (h : Hp) (K : VK) : Prop :=
 K (.int .i64 (-1)) h
def zej_b1 (t8 : Int) (s : OA) (sL sC : Nat) (f : Value) (t7 : Int) (h : Hp) (nx0 : Int × Unit → Hp → Prop) (K : VK) : Prop :=
 cond (decide (t8 < t7)) ((0 ≤ t8 ∧ t8 < (sL : Int)) ∧ NN s fun a1 => ∃ n1, cell h (a1.add (Int.toNat t8 * 1)) = some (.int .i64 n1) ∧ funV f fun fg1 fa1 fc1 => callX Tryz.prog F fg1 (fa1 ++ (([.int .i64 n1] : List Value) ++ fc1)).toArray h fun v1 h2 => ∃ r1, v1 = .bool r1 ∧ cond r1 (K (.int .i64 t8) h2) (zej_b2 s sL sC f t7 t8 h2 nx0 K)) (zej_b3  h K)
def zej_b0 (s : OA) (sL sC : Nat) (f : Value) (h : Hp) (K : VK) : Prop :=
 yaau ((0, ()) : Int × Unit) h (fun (nx0 : Int × Unit → Hp → Prop) (s1 : Int × Unit) h1 => zej_b1 s1.1 s sL sC f (sL : Int) h1 nx0 K)
theorem zej_sx (s sL sC f h K) : zej_b0 s sL sC f h K = sx_3 Tryz.prog F 19 (cp [] (yaac Tryz.f150)) (ap [] zej_an) [(0, .slice s sL sC), (1, f)] h (retK Tryz.prog Tryz.f150.results.toList K) := by kernel_rfl
theorem zej_call {s sL sC f h K} (hk : zej_b0 s sL sC f h K) : HC 150 #[.slice s sL sC, f] h K :=
 yaaa zej_an Tryz.func150 (c := yaac Tryz.f150) rfl Tryz.ntmps150 (lb rfl) (snd_3 F_ok yaad) (Eq.mp (zej_sx s sL sC f h K) hk)
def zdz_an : Ann := .leaf
def zdz_b0 (s : OA) (sL sC : Nat) (f : Value) (h : Hp) (K : VK) : Prop :=
 HC 175 #[.slice s sL sC, f] h fun v1 h1 => ∃ r1, v1 = .int .i64 r1 ∧ K (.bool (decide ((0 : Int) ≤ r1))) h1
theorem zdz_sx (s sL sC f h K) : zdz_b0 s sL sC f h K = sx_1 Tryz.prog F 9 (cp [] (yaac Tryz.f151)) (ap [] zdz_an) [(0, .slice s sL sC), (1, f)] h (retK Tryz.prog Tryz.f151.results.toList K) := by kernel_rfl
theorem zdz_call {s sL sC f h K} (hk : zdz_b0 s sL sC f h K) : HC 151 #[.slice s sL sC, f] h K :=
 yaaa zdz_an Tryz.func151 (c := yaac Tryz.f151) rfl Tryz.ntmps151 (lb rfl) (snd_1 F_ok yaad) (Eq.mp (zdz_sx s sL sC f h K) hk)
def zap_an : Ann := .leaf
def zap_b0 (o_0 : Int) (o_1 : OA) (o_1L o_1C : Nat) (t1 : OA) (h : Hp) (K : VK) : Prop :=
 New h (.cells #[.int .i64 o_0, .slice o_1 o_1L o_1C] 25) fun b1 h1 => NN t1 fun a1 => ∃ n1, cell h1 a1 = some (.int .i64 n1) ∧ ∃ n2 a2 L1 C1, cell h1 ⟨b1, 0, none⟩ = some (.int .i64 n2) ∧ cell h1 ((⟨b1, 0, none⟩ : Addr).add 1) = some (.slice a2 L1 C1) ∧ HC 71 #[.int .i64 n1, .agg #[.int .i64 n2, .slice a2 L1 C1]] h1 fun v1 h2 => ∃ r1, v1 = .bool r1 ∧ K (.bool (!r1)) h2
theorem zap_sx (o_0 o_1 o_1L o_1C t1 h K) : zap_b0 o_0 o_1 o_1L o_1C t1 h K = sx_1 Tryz.prog F 9 (cp [] (yaac Tryz.f152)) (ap [] zap_an) [(0, .agg #[.int .i64 o_0, .slice o_1 o_1L o_1C]), (1, .pointer t1)] h (retK Tryz.prog Tryz.f152.results.toList K) := by kernel_rfl
theorem zap_call {o_0 o_1 o_1L o_1C t1 h K} (hk : zap_b0 o_0 o_1 o_1L o_1C t1 h K) : HC 152 #[.agg #[.int .i64 o_0, .slice o_1 o_1L o_1C], .pointer t1] h K :=
 yaaa zap_an Tryz.func152 (c := yaac Tryz.f152) rfl Tryz.ntmps152 (lb rfl) (snd_1 F_ok yaad) (Eq.mp (zap_sx o_0 o_1 o_1L o_1C t1 h K) hk)
def zfa_an : Ann := .leaf
def zfa_b0 (length : Int) (h : Hp) (K : VK) : Prop :=
 HC 89 #[.int .u64 (IntKind.u64.wrap length)] h fun v1 h1 => ∃ r1, v1 = .int .i64 r1 ∧ ∃ sl1, Sx.Shl .u64 1 r1 sl1 ∧ K (.int .u64 sl1) h1
theorem zfa_sx (length h K) : zfa_b0 length h K = sx_1 Tryz.prog F 7 (cp [] (yaac Tryz.f155)) (ap [] zfa_an) [(0, .int .i64 length)] h (retK Tryz.prog Tryz.f155.results.toList K) := by kernel_rfl
theorem zfa_call {length h K} (hk : zfa_b0 length h K) : HC 155 #[.int .i64 length] h K :=
 yaaa zfa_an Tryz.func155 (c := yaac Tryz.f155) rfl Tryz.ntmps155 (lb rfl) (snd_1 F_ok yaad) (Eq.mp (zfa_sx length h K) hk)
def zfi_an : Ann := N0 .leaf (N0 (.tail 9) (N0 (.tail 9) (N0 (.tail 9) .leaf)))
def zfi_b0 (r : OA) (h : Hp) (K : VK) : Prop :=
 NN r fun a1 => ∃ n1, cell h a1 = some (.int .u64 n1) ∧ NN r fun a2 => ∃ n2, cell h a2 = some (.int .u64 n2) ∧ ∃ sl1, Sx.Shl .u64 n2 13 sl1 ∧ ∃ xo1, Sx.Xor .u64 n1 sl1 xo1 ∧ NN r fun a3 => Wr h a3 (.int .u64 xo1) fun h1 => NN r fun a4 => ∃ n3, cell h1 a4 = some (.int .u64 n3) ∧ NN r fun a5 => ∃ n4, cell h1 a5 = some (.int .u64 n4) ∧ ∃ sr1, Sx.Shr .u64 n4 7 sr1 ∧ ∃ xo2, Sx.Xor .u64 n3 sr1 xo2 ∧ NN r fun a6 => Wr h1 a6 (.int .u64 xo2) fun h2 => NN r fun a7 => ∃ n5, cell h2 a7 = some (.int .u64 n5) ∧ NN r fun a8 => ∃ n6, cell h2 a8 = some (.int .u64 n6) ∧ ∃ sl2, Sx.Shl .u64 n6 17 sl2 ∧ ∃ xo3, Sx.Xor .u64 n5 sl2 xo3 ∧ NN r fun a9 => Wr h2 a9 (.int .u64 xo3) fun h3 => NN r fun a10 => ∃ n7, cell h3
 a10 = some (.int .u64 n7) ∧ K (.int .u64 n7) h3
theorem zfi_sx (r h K) : zfi_b0 r h K = sx_1 Tryz.prog F 33 (cp [] (yaac Tryz.f156)) (ap [] zfi_an) [(0, .pointer r)] h (retK Tryz.prog Tryz.f156.results.toList K) := by kernel_rfl
theorem zfi_call {r h K} (hk : zfi_b0 r h K) : HC 156 #[.pointer r] h K :=
 yaaa zfi_an Tryz.func156 (c := yaac Tryz.f156) rfl Tryz.ntmps156 (lb rfl) (snd_1 F_ok yaad) (Eq.mp (zfi_sx r h K) hk)
def zbp_an : Ann := N0 .leaf (.node (some []) .leaf .leaf)
def zbp_b1 (h : Hp) (K : VK) : Prop :=
 K (.tuple #[.int .i64 1, .int .i64 0]) h
def zbp_b0 (kind : Int) (h : Hp) (K : VK) : Prop :=
 cond (decide (kind = 1)) (K (.tuple #[.int .i64 2, .int .i64 1]) h) (cond (decide (kind = 5)) (K (.tuple #[.int .i64 3, .int .i64 2]) h) (cond (decide (kind = 2)) (K (.tuple #[.int .i64 1, .int .i64 1]) h) (zbp_b1  h K)))
theorem zbp_sx (kind h K) : zbp_b0 kind h K = sx_2 Tryz.prog F 11 (cp [] (yaac Tryz.f159)) (ap [] zbp_an) [(0, .int .i64 kind)] h (retK Tryz.prog Tryz.f159.results.toList K) := by kernel_rfl
theorem zbp_call {kind h K} (hk : zbp_b0 kind h K) : HC 159 #[.int .i64 kind] h K :=
 yaaa zbp_an Tryz.func159 (c := yaac Tryz.f159) rfl Tryz.ntmps159 (lb rfl) (snd_2 F_ok yaad) (Eq.mp (zbp_sx kind h K) hk)
def zbn_an : Ann := .leaf
def zbn_b0 (nv : Int) (h : Hp) (K : VK) : Prop :=
 HC 109 #[.int .i64 nv] h fun v1 h1 => ∃ r1, v1 = .bool r1 ∧ K (.bool (!r1)) h1
theorem zbn_sx (nv h K) : zbn_b0 nv h K = sx_1 Tryz.prog F 6 (cp [] (yaac Tryz.f160)) (ap [] zbn_an) [(0, .int .i64 nv)] h (retK Tryz.prog Tryz.f160.results.toList K) := by kernel_rfl
theorem zbn_call {nv h K} (hk : zbn_b0 nv h K) : HC 160 #[.int .i64 nv] h K :=
 yaaa zbn_an Tryz.func160 (c := yaac Tryz.f160) rfl Tryz.ntmps160 (lb rfl) (snd_1 F_ok yaad) (Eq.mp (zbn_sx nv h K) hk)
def zdy_an : Ann := N0 .leaf (.node (some [0, 1]) (N0 .leaf (.loop [0, 1, 9, 10] [(11, .int .i64)] (N0 .leaf (N0 .leaf (.node (some [0, 1, 9, 10, 11]) .leaf .leaf))))) .leaf)
def zdy_b2 (s1 : OA) (s1L s1C : Nat) (s2 : OA) (s2L s2C : Nat) (t9 : OA) (t9L t9C : Nat) (t10 t11 : Int) (h : Hp) (nx0 : Int × Unit → Hp → Prop) (K : VK) : Prop :=
 InR (t11 + 1) ∧ nx0 (t11 + 1, ()) h
def zdy_b3 (s1 : OA) (s1L s1C : Nat) (s2 : OA) (s2L s2C : Nat) (h : Hp) (K : VK) : Prop :=
 cond (decide ((s1L : Int) < (s2L : Int))) (K (.int .i64 (-1)) h) (K (.int .i64 0) h)
def zdy_b1 (t11 : Int) (s1 : OA) (s1L s1C : Nat) (s2 : OA) (s2L s2C : Nat) (t9 : OA) (t9L t9C : Nat) (t10 : Int) (h : Hp) (nx0 : Int × Unit → Hp → Prop) (K : VK) : Prop :=
 cond (decide (t11 < t10)) ((0 ≤ t11 ∧ t11 < (t9L : Int)) ∧ NN t9 fun a1 => ∃ n1, cell h (a1.add (Int.toNat t11 * 1)) = some (.int .i64 n1) ∧ cond (decide ((s2L : Int) ≤ t11)) (K (.int .i64 1) h) ((0 ≤ t11 ∧ t11 < (s2L : Int)) ∧ NN s2 fun a2 => ∃ n2, cell h (a2.add (Int.toNat t11 * 1)) = some (.int .i64 n2) ∧ HC 103 #[.int .i64 n1, .int .i64 n2] h fun v1 h2 => ∃ r1, v1 = .int .i64 r1 ∧ cond (!decide (r1 = 0)) (K (.int .i64 r1) h2) (zdy_b2 s1 s1L s1C s2 s2L s2C t9 t9L t9C t10 t11 h2 nx0 K))) (zdy_b3 s1 s1L s1C s2 s2L s2C h K)
def zdy_b0 (s1 : OA) (s1L s1C : Nat) (s2 : OA) (s2L s2C : Nat) (h : Hp) (K : VK) : Prop :=
 yaau ((0, ()) : Int × Unit) h (fun (nx0 : Int × Unit → Hp → Prop) (s3 : Int × Unit) h1 => zdy_b1 s3.1 s1 s1L s1C s2 s2L s2C s1 s1L s1C (s1L : Int) h1 nx0 K)
theorem zdy_sx (s1 s1L s1C s2 s2L s2C h K) : zdy_b0 s1 s1L s1C s2 s2L s2C h K = sx_3 Tryz.prog F 36 (cp [] (yaac Tryz.f161)) (ap [] zdy_an) [(0, .slice s1 s1L s1C), (1, .slice s2 s2L s2C)] h (retK Tryz.prog Tryz.f161.results.toList K) := by kernel_rfl
theorem zdy_call {s1 s1L s1C s2 s2L s2C h K} (hk : zdy_b0 s1 s1L s1C s2 s2L s2C h K) : HC 161 #[.slice s1 s1L s1C, .slice s2 s2L s2C] h K :=
 yaaa zdy_an Tryz.func161 (c := yaac Tryz.f161) rfl Tryz.ntmps161 (lb rfl) (snd_3 F_ok yaad) (Eq.mp (zdy_sx s1 s1L s1C s2 s2L s2C h K) hk)
def zes_an : Ann := .leaf
def zes_b0 (x : OA) (xL xC : Nat) (h : Hp) (K : VK) : Prop :=
 HC 89 #[.int .u64 (IntKind.u64.wrap (xL : Int))] h fun v1 h1 => ∃ r1, v1 = .int .i64 r1 ∧ HC 178 #[.slice x xL xC, .int .i64 0, .int .i64 (xL : Int), .int .i64 r1] h1 fun v2 h2 => v2 = .tuple #[] ∧ K (.tuple #[]) h2
theorem zes_sx (x xL xC h K) : zes_b0 x xL xC h K = sx_1 Tryz.prog F 11 (cp [] (yaac Tryz.f162)) (ap [] zes_an) [(0, .slice x xL xC)] h (retK Tryz.prog Tryz.f162.results.toList K) := by kernel_rfl
theorem zes_call {x xL xC h K} (hk : zes_b0 x xL xC h K) : HC 162 #[.slice x xL xC] h K :=
 yaaa zes_an Tryz.func162 (c := yaac Tryz.f162) rfl Tryz.ntmps162 (lb rfl) (snd_1 F_ok yaad) (Eq.mp (zes_sx x xL xC h K) hk)
def zbh_an : Ann := .leaf
def zbh_b0 (nv : Int) (h : Hp) (K : VK) : Prop :=
 New h (.cells #[.int .i64 0, .int .i64 0, .slice none 0 0] 61) fun b1 h1 => Wr h1 ⟨b1, 0, none⟩ (.int .i64 0) fun h2 => Wr h2 ((⟨b1, 0, none⟩ : Addr).add 1) (.int .i64 nv) fun h3 => Wr h3 ((⟨b1, 0, none⟩ : Addr).add 2) (.slice none 0 0) fun h4 => ∃ r1 r2 r3 rL1 rC1, cell h4 ⟨b1, 0, none⟩ = some (.int .i64 r1) ∧ cell h4 ((⟨b1, 0, none⟩ : Addr).add 1) = some (.int .i64 r2) ∧ cell h4 ((⟨b1, 0, none⟩ : Addr).add 2) = some (.slice r3 rL1 rC1) ∧ K (.agg #[.int .i64 r1, .int .i64 r2, .slice r3 rL1 rC1]) h4
theorem zbh_sx (nv h K) : zbh_b0 nv h K = sx_1 Tryz.prog F 5 (cp [] (yaac Tryz.f163)) (ap [] zbh_an) [(0, .int .i64 nv)] h (retK Tryz.prog Tryz.f163.results.toList K) := by kernel_rfl
theorem zbh_call {nv h K} (hk : zbh_b0 nv h K) : HC 163 #[.int .i64 nv] h K :=
 yaaa zbh_an Tryz.func163 (c := yaac Tryz.f163) rfl Tryz.ntmps163 (lb rfl) (snd_1 F_ok yaad) (Eq.mp (zbh_sx nv h K) hk)
def zbb_an : Ann := .leaf
def zbb_b0 (e : Int) (h : Hp) (K : VK) : Prop :=
 New h (.cells #[.int .i64 0, .int .i64 0, .slice none 0 0] 61) fun b1 h1 => Wr h1 ⟨b1, 0, none⟩ (.int .i64 e) fun h2 => Wr h2 ((⟨b1, 0, none⟩ : Addr).add 1) (.int .i64 0) fun h3 => Wr h3 ((⟨b1, 0, none⟩ : Addr).add 2) (.slice none 0 0) fun h4 => ∃ r1 r2 r3 rL1 rC1, cell h4 ⟨b1, 0, none⟩ = some (.int .i64 r1) ∧ cell h4 ((⟨b1, 0, none⟩ : Addr).add 1) = some (.int .i64 r2) ∧ cell h4 ((⟨b1, 0, none⟩ : Addr).add 2) = some (.slice r3 rL1 rC1) ∧ K (.agg #[.int .i64 r1, .int .i64 r2, .slice r3 rL1 rC1]) h4
theorem zbb_sx (e h K) : zbb_b0 e h K = sx_1 Tryz.prog F 5 (cp [] (yaac Tryz.f164)) (ap [] zbb_an) [(0, .int .i64 e)] h (retK Tryz.prog Tryz.f164.results.toList K) := by kernel_rfl
theorem zbb_call {e h K} (hk : zbb_b0 e h K) : HC 164 #[.int .i64 e] h K :=
 yaaa zbb_an Tryz.func164 (c := yaac Tryz.f164) rfl Tryz.ntmps164 (lb rfl) (snd_1 F_ok yaad) (Eq.mp (zbb_sx e h K) hk)
def zbc_an : Ann := .leaf
def zbc_b0 (rows : OA) (rowsL rowsC : Nat) (key : OA) (keyL keyC : Nat) (h : Hp) (K : VK) : Prop :=
 HC 179 #[.slice rows rowsL rowsC, .slice key keyL keyC, .func (.func 180) #[] #[]] h fun v1 h1 => ∃ r1 r2, v1 = .tuple #[.int .i64 r1, .bool r2] ∧ K (.tuple #[.int .i64 r1, .bool r2]) h1
theorem zbc_sx (rows rowsL rowsC key keyL keyC h K) : zbc_b0 rows rowsL rowsC key keyL keyC h K = sx_1 Tryz.prog F 11 (cp [] (yaac Tryz.f165)) (ap [] zbc_an) [(0, .slice rows rowsL rowsC), (1, .slice key keyL keyC)] h (retK Tryz.prog Tryz.f165.results.toList K) := by kernel_rfl
theorem zbc_call {rows rowsL rowsC key keyL keyC h K} (hk : zbc_b0 rows rowsL rowsC key keyL keyC h K) : HC 165 #[.slice rows rowsL rowsC, .slice key keyL keyC] h K :=
 yaaa zbc_an Tryz.func165 (c := yaac Tryz.f165) rfl Tryz.ntmps165 (lb rfl) (snd_1 F_ok yaad) (Eq.mp (zbc_sx rows rowsL rowsC key keyL keyC h K) hk)
def zen_an : Ann := N0 .leaf (N0 .leaf (N0 .leaf (N0 .leaf (N0 .leaf (N0 .leaf (N0 (N0 .leaf (N0 (N0 .leaf (N0 .leaf (N0 (.tail 8) .leaf))) .leaf)) (N0 .leaf (N0 (N0 .leaf (N0 (N0 (.tail 8) .leaf) .leaf)) .leaf))))))))
def zen_b0 (s : OA) (sL sC : Nat) (i : Int) (v : OA) (vL vC : Nat) (h : Hp) (K : VK) : Prop :=
 (0 ≤ i ∧ i ≤ (sL : Int) ∧ (sL : Int) ≤ (sC : Int)) ∧ cond (decide ((vL : Int) = 0)) (K (.slice s sL sC) h) (cond (decide (i = (sL : Int))) (yaan Tryz.prog 64 64 (.slice s sL sC) (.slice v vL vC) h (slK fun a1 l1 c1 h1 => K (.slice a1 l1 c1) h1)) (InR ((sL : Int) + (vL : Int)) ∧ cond (decide ((sC : Int) < ((sL : Int) + (vL : Int)))) ((0 ≤ (0 : Int) ∧ (0 : Int) ≤ i ∧ i ≤ (sC : Int)) ∧ InR ((sL : Int) + (vL : Int)) ∧ InR (((sL : Int) + (vL : Int)) - i) ∧ yaan Tryz.prog 64 3 (.slice (yaab s sC (Int.toNat (0 : Int)) 1) (Int.toNat i - Int.toNat (0 : Int)) (sC - Int.toNat (0 : Int))) (.int .i64 (((sL : Int) + (vL : Int)) - i)) h (slK fun a2 l2 c2 h2 => (0 ≤ i ∧ i ≤ (l2 : Int) ∧ (l2 : Int)
 ≤ (c2 : Int)) ∧ copyV Tryz.prog 64 (.slice (yaab a2 c2 (Int.toNat i) 1) (Int.toNat (l2 : Int) - Int.toNat i) (c2 - Int.toNat i)) (.slice v vL vC) h2 fun v1 h3 => InR (i + (vL : Int)) ∧ (0 ≤ i + (vL : Int) ∧ i + (vL : Int) ≤ (l2 : Int) ∧ (l2 : Int) ≤ (c2 : Int)) ∧ (0 ≤ i ∧ i ≤ (sL : Int) ∧ (sL : Int) ≤ (sC : Int)) ∧ copyV Tryz.prog 64 (.slice (yaab a2 c2 (Int.toNat (i + (vL : Int))) 1) (Int.toNat (l2 : Int) - Int.toNat (i + (vL : Int))) (c2 - Int.toNat (i + (vL : Int)))) (.slice (yaab s sC (Int.toNat i) 1) (Int.toNat (sL : Int) - Int.toNat i) (sC - Int.toNat i)) h3 fun v2 h4 => K (.slice a2 l2 c2) h4)) (InR ((sL : Int) + (vL : Int)) ∧ (0 ≤ (0 : Int) ∧ (0 : Int) ≤ (sL : Int) + (vL :
 Int) ∧ (sL : Int) + (vL : Int) ≤ (sC : Int)) ∧ InR (i + (vL : Int)) ∧ (0 ≤ i + (vL : Int) ∧ i + (vL : Int) ≤ ((Int.toNat ((sL : Int) + (vL : Int)) - Int.toNat (0 : Int) : Nat) : Int) ∧ ((Int.toNat ((sL : Int) + (vL : Int)) - Int.toNat (0 : Int) : Nat) : Int) ≤ ((sC - Int.toNat (0 : Int) : Nat) : Int)) ∧ yaeq Tryz.prog 181 #[.slice v vL vC, .slice (yaab (yaab s sC (Int.toNat (0 : Int)) 1) (sC - Int.toNat (0 : Int)) (Int.toNat (i + (vL : Int))) 1) (Int.toNat ((Int.toNat ((sL : Int) + (vL : Int)) - Int.toNat (0 : Int) : Nat) : Int) - Int.toNat (i + (vL : Int))) ((sC - Int.toNat (0 : Int)) - Int.toNat (i + (vL : Int)))] h fun v3 => ∃ r1, v3 = .bool r1 ∧ cond (!r1) (InR (i + (vL : Int))
 ∧ (0 ≤ i + (vL : Int) ∧ i + (vL : Int) ≤ ((Int.toNat ((sL : Int) + (vL : Int)) - Int.toNat (0 : Int) : Nat) : Int) ∧ ((Int.toNat ((sL : Int) + (vL : Int)) - Int.toNat (0 : Int) : Nat) : Int) ≤ ((sC - Int.toNat (0 : Int) : Nat) : Int)) ∧ (0 ≤ i ∧ i ≤ ((Int.toNat ((sL : Int) + (vL : Int)) - Int.toNat (0 : Int) : Nat) : Int) ∧ ((Int.toNat ((sL : Int) + (vL : Int)) - Int.toNat (0 : Int) : Nat) : Int) ≤ ((sC - Int.toNat (0 : Int) : Nat) : Int)) ∧ copyV Tryz.prog 64 (.slice (yaab (yaab s sC (Int.toNat (0 : Int)) 1) (sC - Int.toNat (0 : Int)) (Int.toNat (i + (vL : Int))) 1) (Int.toNat ((Int.toNat ((sL : Int) + (vL : Int)) - Int.toNat (0 : Int) : Nat) : Int) - Int.toNat (i + (vL : Int))) ((sC
 - Int.toNat (0 : Int)) - Int.toNat (i + (vL : Int)))) (.slice (yaab (yaab s sC (Int.toNat (0 : Int)) 1) (sC - Int.toNat (0 : Int)) (Int.toNat i) 1) (Int.toNat ((Int.toNat ((sL : Int) + (vL : Int)) - Int.toNat (0 : Int) : Nat) : Int) - Int.toNat i) ((sC - Int.toNat (0 : Int)) - Int.toNat i)) h fun v4 h6 => (0 ≤ i ∧ i ≤ ((Int.toNat ((sL : Int) + (vL : Int)) - Int.toNat (0 : Int) : Nat) : Int) ∧ ((Int.toNat ((sL : Int) + (vL : Int)) - Int.toNat (0 : Int) : Nat) : Int) ≤ ((sC - Int.toNat (0 : Int) : Nat) : Int)) ∧ copyV Tryz.prog 64 (.slice (yaab (yaab s sC (Int.toNat (0 : Int)) 1) (sC - Int.toNat (0 : Int)) (Int.toNat i) 1) (Int.toNat ((Int.toNat ((sL : Int) + (vL : Int)) -
 Int.toNat (0 : Int) : Nat) : Int) - Int.toNat i) ((sC - Int.toNat (0 : Int)) - Int.toNat i)) (.slice v vL vC) h6 fun v5 h7 => K (.slice (yaab s sC (Int.toNat (0 : Int)) 1) (Int.toNat ((sL : Int) + (vL : Int)) - Int.toNat (0 : Int)) (sC - Int.toNat (0 : Int))) h7) ((0 ≤ (sL : Int) ∧ (sL : Int) ≤ ((Int.toNat ((sL : Int) + (vL : Int)) - Int.toNat (0 : Int) : Nat) : Int) ∧ ((Int.toNat ((sL : Int) + (vL : Int)) - Int.toNat (0 : Int) : Nat) : Int) ≤ ((sC - Int.toNat (0 : Int) : Nat) : Int)) ∧ copyV Tryz.prog 64 (.slice (yaab (yaab s sC (Int.toNat (0 : Int)) 1) (sC - Int.toNat (0 : Int)) (Int.toNat (sL : Int)) 1) (Int.toNat ((Int.toNat ((sL : Int) + (vL : Int)) - Int.toNat (0 : Int) : Nat)
 : Int) - Int.toNat (sL : Int)) ((sC - Int.toNat (0 : Int)) - Int.toNat (sL : Int))) (.slice v vL vC) h fun v6 h8 => (0 ≤ i ∧ i ≤ ((Int.toNat ((sL : Int) + (vL : Int)) - Int.toNat (0 : Int) : Nat) : Int) ∧ ((Int.toNat ((sL : Int) + (vL : Int)) - Int.toNat (0 : Int) : Nat) : Int) ≤ ((sC - Int.toNat (0 : Int) : Nat) : Int)) ∧ HC 182 #[.slice (yaab (yaab s sC (Int.toNat (0 : Int)) 1) (sC - Int.toNat (0 : Int)) (Int.toNat i) 1) (Int.toNat ((Int.toNat ((sL : Int) + (vL : Int)) - Int.toNat (0 : Int) : Nat) : Int) - Int.toNat i) ((sC - Int.toNat (0 : Int)) - Int.toNat i), .int .i64 (vL : Int)] h8 fun v7 h9 => v7 = .tuple #[] ∧ K (.slice (yaab s sC (Int.toNat (0 : Int)) 1)
 (Int.toNat ((sL : Int) + (vL : Int)) - Int.toNat (0 : Int)) (sC - Int.toNat (0 : Int))) h9))))
theorem zen_sx (s sL sC i v vL vC h K) : zen_b0 s sL sC i v vL vC h K = sx_1 Tryz.prog F 95 (cp [] (yaac Tryz.f166)) (ap [] zen_an) [(0, .slice s sL sC), (1, .int .i64 i), (2, .slice v vL vC)] h (retK Tryz.prog Tryz.f166.results.toList K) := by kernel_rfl
theorem zen_call {s sL sC i v vL vC h K} (hk : zen_b0 s sL sC i v vL vC h K) : HC 166 #[.slice s sL sC, .int .i64 i, .slice v vL vC] h K :=
 yaaa zen_an Tryz.func166 (c := yaac Tryz.f166) rfl Tryz.ntmps166 (lb rfl) (snd_1 F_ok yaad) (Eq.mp (zen_sx s sL sC i v vL vC h K) hk)
def zee_an : Ann := N0 .leaf (N0 .leaf (N0 .leaf (N0 .leaf (N0 (.tail 6) .leaf))))
def zee_b0 (s : OA) (sL sC : Nat) (i j : Int) (h : Hp) (K : VK) : Prop :=
 ∃ a1 l1 c1, slC Tryz.prog 64 (.slice s sL sC) (some (.int .i64 i)) (some (.int .i64 j)) (.int .i64 (sL : Int)) h a1 l1 c1 ∧ cond (decide (i = j)) (K (.slice s sL sC) h) ((0 ≤ (0 : Int) ∧ (0 : Int) ≤ i ∧ i ≤ (sC : Int)) ∧ (0 ≤ j ∧ j ≤ (sL : Int) ∧ (sL : Int) ≤ (sC : Int)) ∧ yaan Tryz.prog 64 64 (.slice (yaab s sC (Int.toNat (0 : Int)) 1) (Int.toNat i - Int.toNat (0 : Int)) (sC - Int.toNat (0 : Int))) (.slice (yaab s sC (Int.toNat j) 1) (Int.toNat (sL : Int) - Int.toNat j) (sC - Int.toNat j)) h (slK fun a2 l2 c2 h1 => (0 ≤ (l2 : Int) ∧ (l2 : Int) ≤ (sL : Int) ∧ (sL : Int) ≤ (c2 : Int)) ∧ yahr Tryz.prog 64 (.slice (yaab a2 c2 (Int.toNat (l2 : Int)) 1) (Int.toNat (sL : Int) -
 Int.toNat (l2 : Int)) (c2 - Int.toNat (l2 : Int))) h1 fun h2 => K (.slice a2 l2 c2) h2))
theorem zee_sx (s sL sC i j h K) : zee_b0 s sL sC i j h K = sx_1 Tryz.prog F 33 (cp [] (yaac Tryz.f167)) (ap [] zee_an) [(0, .slice s sL sC), (1, .int .i64 i), (2, .int .i64 j)] h (retK Tryz.prog Tryz.f167.results.toList K) := by kernel_rfl
theorem zee_call {s sL sC i j h K} (hk : zee_b0 s sL sC i j h K) : HC 167 #[.slice s sL sC, .int .i64 i, .int .i64 j] h K :=
 yaaa zee_an Tryz.func167 (c := yaac Tryz.f167) rfl Tryz.ntmps167 (lb rfl) (snd_1 F_ok yaad) (Eq.mp (zee_sx s sL sC i j h K) hk)
def zer_an : Ann := N0 .leaf (.loop [0] [(2, .int .i64), (3, .int .i64)] (N0 .leaf (.node (some [0, 2, 3]) (.plan (.qu 0 (.qu 1 (.qu 2 (.qu 3 (.qu 4 (.qu 5 (.qu 6 (.qu 7 (.qu 8 (.qu 9 (.qu 10 (.qu 11 (.qu 12 (.wo 13 (.qu 14 (.wo 15 .fin .no)) .no))))))))))))))) .leaf)))
def zer_b2 (s : OA) (sL sC : Nat) (i j : Int) (h : Hp) (nx0 : Int × Int × Unit → Hp → Prop) (K : VK) : Prop :=
 InR (i + 1) ∧ InR (j - 1) ∧ nx0 (i + 1, j - 1, ()) h
def zer_b1 (i j : Int) (s : OA) (sL sC : Nat) (h : Hp) (nx0 : Int × Int × Unit → Hp → Prop) (K : VK) : Prop :=
 cond (decide (i < j)) ((0 ≤ j ∧ j < (sL : Int)) ∧ NN s fun a1 => ∃ a2 L1 C1, cell h (a1.add (Int.toNat j * 1)) = some (.slice a2 L1 C1) ∧ (0 ≤ i ∧ i < (sL : Int)) ∧ NN s fun a3 => ∃ a4 L2 C2, cell h (a3.add (Int.toNat i * 1)) = some (.slice a4 L2 C2) ∧ (0 ≤ i ∧ i < (sL : Int)) ∧ NN s fun a5 => Wr h (a5.add (Int.toNat i * 1)) (.slice a2 L1 C1) fun h2 => (0 ≤ j ∧ j < (sL : Int)) ∧ NN s fun a6 => Wr h2 (a6.add (Int.toNat j * 1)) (.slice a4 L2 C2) fun h3 => zer_b2 s sL sC i j h3 nx0 K) (K (.tuple #[]) h)
def zer_b0 (s : OA) (sL sC : Nat) (h : Hp) (K : VK) : Prop :=
 InR ((sL : Int) - 1) ∧ yaau ((0, (sL : Int) - 1, ()) : Int × Int × Unit) h (fun (nx0 : Int × Int × Unit → Hp → Prop) (s1 : Int × Int × Unit) h1 => zer_b1 s1.1 s1.2.1 s sL sC h1 nx0 K)
theorem zer_sx (s sL sC h K) : zer_b0 s sL sC h K = sx_3 Tryz.prog F 28 (cp [] (yaac Tryz.f168)) (ap [] zer_an) [(0, .slice s sL sC)] h (retK Tryz.prog Tryz.f168.results.toList K) := by kernel_rfl
theorem zer_call {s sL sC h K} (hk : zer_b0 s sL sC h K) : HC 168 #[.slice s sL sC] h K :=
 yaaa zer_an Tryz.func168 (c := yaac Tryz.f168) rfl Tryz.ntmps168 (lb rfl) (snd_3 F_ok yaad) (Eq.mp (zer_sx s sL sC h K) hk)
def zax_an : Ann := .leaf
def zax_b0 (rows : OA) (rowsL rowsC : Nat) (a : Int) (h : Hp) (K : VK) : Prop :=
 New h (.cells #[.int .i64 a] 3) fun b1 h1 => HC 183 #[.slice rows rowsL rowsC, .func (.func 184) #[] #[.pointer (some ⟨b1, 0, none⟩)]] h1 fun v1 h2 => ∃ r1, v1 = .int .i64 r1 ∧ K (.int .i64 r1) h2
theorem zax_sx (rows rowsL rowsC a h K) : zax_b0 rows rowsL rowsC a h K = sx_1 Tryz.prog F 8 (cp [] (yaac Tryz.f169)) (ap [] zax_an) [(0, .slice rows rowsL rowsC), (1, .int .i64 a)] h (retK Tryz.prog Tryz.f169.results.toList K) := by kernel_rfl
theorem zax_call {rows rowsL rowsC a h K} (hk : zax_b0 rows rowsL rowsC a h K) : HC 169 #[.slice rows rowsL rowsC, .int .i64 a] h K :=
 yaaa zax_an Tryz.func169 (c := yaac Tryz.f169) rfl Tryz.ntmps169 (lb rfl) (snd_1 F_ok yaad) (Eq.mp (zax_sx rows rowsL rowsC a h K) hk)
def zbl_an : Ann := .leaf
def zbl_b0 (b : Bool) (h : Hp) (K : VK) : Prop :=
 cond b (K (.int .i64 1) h) (K (.int .i64 0) h)
theorem zbl_sx (b h K) : zbl_b0 b h K = sx_1 Tryz.prog F 4 (cp [] (yaac Tryz.f170)) (ap [] zbl_an) [(0, .bool b)] h (retK Tryz.prog Tryz.f170.results.toList K) := by kernel_rfl
theorem zbl_call {b h K} (hk : zbl_b0 b h K) : HC 170 #[.bool b] h K :=
 yaaa zbl_an Tryz.func170 (c := yaac Tryz.f170) rfl Tryz.ntmps170 (lb rfl) (snd_1 F_ok yaad) (Eq.mp (zbl_sx b h K) hk)
def zad_an : Ann := N0 .leaf (N0 .leaf (.node (some [3]) (N0 .leaf (.loop [3, 6, 7] [(8, .int .i64)] (N0 .leaf (N0 .leaf (.node (some [3, 6, 7, 8]) .leaf .leaf))))) .leaf))
def zad_b2 (zero : Int) (t6 : OA) (t6L t6C : Nat) (t7 t8 : Int) (h : Hp) (nx0 : Int × Unit → Hp → Prop) (K : VK) : Prop :=
 InR (t8 + 1) ∧ nx0 (t8 + 1, ()) h
def zad_b3 (zero : Int) (h : Hp) (K : VK) : Prop :=
 K (.int .i64 zero) h
def zad_b1 (t8 zero : Int) (t6 : OA) (t6L t6C : Nat) (t7 : Int) (h : Hp) (nx0 : Int × Unit → Hp → Prop) (K : VK) : Prop :=
 cond (decide (t8 < t7)) ((0 ≤ t8 ∧ t8 < (t6L : Int)) ∧ NN t6 fun a1 => ∃ n1, cell h (a1.add (Int.toNat t8 * 1)) = some (.int .i64 n1) ∧ cond (!decide (n1 = zero)) (K (.int .i64 n1) h) (zad_b2 zero t6 t6L t6C t7 t8 h nx0 K)) (zad_b3 zero h K)
def zad_b0 (vals : OA) (valsL valsC : Nat) (h : Hp) (K : VK) : Prop :=
 yaau ((0, ()) : Int × Unit) h (fun (nx0 : Int × Unit → Hp → Prop) (s1 : Int × Unit) h1 => zad_b1 s1.1 0 vals valsL valsC (valsL : Int) h1 nx0 K)
theorem zad_sx (vals valsL valsC h K) : zad_b0 vals valsL valsC h K = sx_3 Tryz.prog F 18 (cp [] (yaac Tryz.f172)) (ap [] zad_an) [(0, .slice vals valsL valsC)] h (retK Tryz.prog Tryz.f172.results.toList K) := by kernel_rfl
theorem zad_call {vals valsL valsC h K} (hk : zad_b0 vals valsL valsC h K) : HC 172 #[.slice vals valsL valsC] h K :=
 yaaa zad_an Tryz.func172 (c := yaac Tryz.f172) rfl Tryz.ntmps172 (lb rfl) (snd_3 F_ok yaad) (Eq.mp (zad_sx vals valsL valsC h K) hk)
def zeh_an : Ann := N0 .leaf (.node (some []) (N0 .leaf (.loop [0, 1, 7] [(8, .int .i64)] (N0 .leaf (N0 .leaf (.node (some [0, 1, 7, 8]) .leaf .leaf))))) .leaf)
def zeh_b2 (s : OA) (sL sC : Nat) (f : Value) (t7 t8 : Int) (h : Hp) (nx0 : Int × Unit → Hp → Prop) (K : VK) : Prop :=
 InR (t8 + 1) ∧ nx0 (t8 + 1, ()) h
def zeh_b3 (h : Hp) (K : VK) : Prop :=
 K (.int .i64 (-1)) h
def zeh_b1 (t8 : Int) (s : OA) (sL sC : Nat) (f : Value) (t7 : Int) (h : Hp) (nx0 : Int × Unit → Hp → Prop) (K : VK) : Prop :=
 cond (decide (t8 < t7)) ((0 ≤ t8 ∧ t8 < (sL : Int)) ∧ NN s fun a1 => ∃ n1 a2 L1 C1, cell h (a1.add (Int.toNat t8 * 2)) = some (.int .i64 n1) ∧ cell h ((a1.add (Int.toNat t8 * 2)).add 1) = some (.slice a2 L1 C1) ∧ funV f fun fg1 fa1 fc1 => callX Tryz.prog F fg1 (fa1 ++ (([.agg #[.int .i64 n1, .slice a2 L1 C1]] : List Value) ++ fc1)).toArray h fun v1 h2 => ∃ r1, v1 = .bool r1 ∧ cond r1 (K (.int .i64 t8) h2) (zeh_b2 s sL sC f t7 t8 h2 nx0 K)) (zeh_b3  h K)
def zeh_b0 (s : OA) (sL sC : Nat) (f : Value) (h : Hp) (K : VK) : Prop :=
 yaau ((0, ()) : Int × Unit) h (fun (nx0 : Int × Unit → Hp → Prop) (s1 : Int × Unit) h1 => zeh_b1 s1.1 s sL sC f (sL : Int) h1 nx0 K)
theorem zeh_sx (s sL sC f h K) : zeh_b0 s sL sC f h K = sx_3 Tryz.prog F 19 (cp [] (yaac Tryz.f175)) (ap [] zeh_an) [(0, .slice s sL sC), (1, f)] h (retK Tryz.prog Tryz.f175.results.toList K) := by kernel_rfl
theorem zeh_call {s sL sC f h K} (hk : zeh_b0 s sL sC f h K) : HC 175 #[.slice s sL sC, f] h K :=
 yaaa zeh_an Tryz.func175 (c := yaac Tryz.f175) rfl Tryz.ntmps175 (lb rfl) (snd_3 F_ok yaad) (Eq.mp (zeh_sx s sL sC f h K) hk)
def zff_an : Ann := N0 .leaf (N0 .leaf (.loop [0] [(1, .int .i64), (2, .int .i64), (3, .int .i64), (8, .bool), (9, .bool)] (N0 .leaf (N0 .leaf (N0 .leaf (.node (some [0, 1, 2, 3, 8, 9, 10]) .leaf (N0 .leaf (.node (some [0, 1, 2, 3, 8, 9, 10, 11, 12]) .leaf (.node (some [0, 1, 2, 3, 8, 9, 10, 11]) .leaf (.node (some [0, 1, 2, 3, 10, 11]) .leaf .leaf))))))))))
def zff_K0 (K : VK) : EK := retK Tryz.prog Tryz.f178.results.toList K
def zff_K1 (K : VK) : EK := yada 0 (zff_K0  K)
def zff_K2 (nx0 : Int × Int × Int × Bool × Bool × Unit → Hp → Prop) (K : VK) : EK := thenE (fun env h => getV [(1, .int .i64), (2, .int .i64), (3, .int .i64), (8, .bool), (9, .bool)] env fun s => nx0 s h) (zff_K1  K)
def zff_K3 (nx0 : Int × Int × Int × Bool × Bool × Unit → Hp → Prop) (K : VK) : EK := yada 1 (zff_K2 nx0 K)
def zff_b0 (data : OA) (dataL dataC : Nat) (a b limit : Int) (h : Hp) (K : VK) : Prop :=
 sx_6 Tryz.prog F 134 (cp [] (yaac Tryz.f178)) (ap [] zff_an) [(0, .slice data dataL dataC), (1, .int .i64 a), (2, .int .i64 b), (3, .int .i64 limit)] h (zff_K0  K)
def zff_b1 (a b limit : Int) (wasBalanced wasPartitioned : Bool) (data : OA) (dataL dataC : Nat) (h : Hp) (nx0 : Int × Int × Int × Bool × Bool × Unit → Hp → Prop) (K : VK) : Prop :=
 sx_5 Tryz.prog F 134 (cp [1, 1, 2, 2] (yaac Tryz.f178)) (ap [1, 1, 2] zff_an) [(1, .int .i64 a), (2, .int .i64 b), (3, .int .i64 limit), (8, .bool wasBalanced), (9, .bool wasPartitioned), (0, .slice data dataL dataC)] h (zff_K2 nx0 K)
def zff_b2 (data : OA) (dataL dataC : Nat) (a b limit : Int) (wasBalanced wasPartitioned : Bool) (length : Int) (h : Hp) (nx0 : Int × Int × Int × Bool × Bool × Unit → Hp → Prop) (K : VK) : Prop :=
 sx_4 Tryz.prog F 134 (cp [1, 1, 2, 2, 2, 1, 1, 1, 1] (yaac Tryz.f178)) (ap [1, 1, 2, 1, 1, 1, 1] zff_an) [(0, .slice data dataL dataC), (1, .int .i64 a), (2, .int .i64 b), (3, .int .i64 limit), (8, .bool wasBalanced), (9, .bool wasPartitioned), (10, .int .i64 length)] h (zff_K3 nx0 K)
def zff_b3 (data : OA) (dataL dataC : Nat) (a b limit : Int) (wasBalanced wasPartitioned : Bool) (length pivot hint : Int) (h : Hp) (nx0 : Int × Int × Int × Bool × Bool × Unit → Hp → Prop) (K : VK) : Prop :=
 sx_3 Tryz.prog F 134 (cp [1, 1, 2, 2, 2, 1, 1, 1, 1, 1, 1] (yaac Tryz.f178)) (ap [1, 1, 2, 1, 1, 1, 1, 1, 1] zff_an) [(0, .slice data dataL dataC), (1, .int .i64 a), (2, .int .i64 b), (3, .int .i64 limit), (8, .bool wasBalanced), (9, .bool wasPartitioned), (10, .int .i64 length), (11, .int .i64 pivot), (12, .int .i64 hint)] h (zff_K3 nx0 K)
def zff_b4 (data : OA) (dataL dataC : Nat) (a b limit : Int) (wasBalanced wasPartitioned : Bool) (length pivot : Int) (h : Hp) (nx0 : Int × Int × Int × Bool × Bool × Unit → Hp → Prop) (K : VK) : Prop :=
 sx_2 Tryz.prog F 134 (cp [1, 1, 2, 2, 2, 1, 1, 1, 1, 1, 1, 1] (yaac Tryz.f178)) (ap [1, 1, 2, 1, 1, 1, 1, 1, 1, 1] zff_an) [(0, .slice data dataL dataC), (1, .int .i64 a), (2, .int .i64 b), (3, .int .i64 limit), (8, .bool wasBalanced), (9, .bool wasPartitioned), (10, .int .i64 length), (11, .int .i64 pivot)] h (zff_K3 nx0 K)
def zff_b5 (data : OA) (dataL dataC : Nat) (a b limit length pivot : Int) (h : Hp) (nx0 : Int × Int × Int × Bool × Bool × Unit → Hp → Prop) (K : VK) : Prop :=
 sx_1 Tryz.prog F 134 (cp [1, 1, 2, 2, 2, 1, 1, 1, 1, 1, 1, 1, 1] (yaac Tryz.f178)) (ap [1, 1, 2, 1, 1, 1, 1, 1, 1, 1, 1] zff_an) [(0, .slice data dataL dataC), (1, .int .i64 a), (2, .int .i64 b), (3, .int .i64 limit), (10, .int .i64 length), (11, .int .i64 pivot)] h (zff_K3 nx0 K)
theorem zff_b0_eq (data dataL dataC a b limit h K) : zff_b0 data dataL dataC a b limit h K = (
 yaau ((a, b, limit, true, true, ()) : Int × Int × Int × Bool × Bool × Unit) h (fun (nx0 : Int × Int × Int × Bool × Bool × Unit → Hp → Prop) (s1 : Int × Int × Int × Bool × Bool × Unit) h1 => zff_b1 s1.1 s1.2.1 s1.2.2.1 s1.2.2.2.1 s1.2.2.2.2.1 data dataL dataC h1 nx0 K)) := by kernel_rfl
theorem zff_b1_eq (a b limit wasBalanced wasPartitioned data dataL dataC h nx0 K) : zff_b1 a b limit wasBalanced wasPartitioned data dataL dataC h nx0 K = (
 InR (b - a) ∧ cond (decide ((b - a) ≤ 12)) (HC 187 #[.slice data dataL dataC, .int .i64 a, .int .i64 b] h fun v1 h2 => v1 = .tuple #[] ∧ K (.tuple #[]) h2) (cond (decide (limit = 0)) (HC 188 #[.slice data dataL dataC, .int .i64 a, .int .i64 b] h fun v2 h3 => v2 = .tuple #[] ∧ K (.tuple #[]) h3) (cond (!wasBalanced) (HC 189 #[.slice data dataL dataC, .int .i64 a, .int .i64 b] h fun v3 h4 => v3 = .tuple #[] ∧ InR (limit - 1) ∧ zff_b2 data dataL dataC a b (limit - 1) wasBalanced wasPartitioned (b - a) h4 nx0 K) (zff_b2 data dataL dataC a b limit wasBalanced wasPartitioned (b - a) h nx0 K)))) := by kernel_rfl
theorem zff_b2_eq (data dataL dataC a b limit wasBalanced wasPartitioned length h nx0 K) : zff_b2 data dataL dataC a b limit wasBalanced wasPartitioned length h nx0 K = (
 HC 190 #[.slice data dataL dataC, .int .i64 a, .int .i64 b] h fun v4 h5 => ∃ r1 r2, v4 = .tuple #[.int .i64 r1, .int .i64 r2] ∧ cond (decide (r2 = 2)) (HC 191 #[.slice data dataL dataC, .int .i64 a, .int .i64 b] h5 fun v5 h6 => v5 = .tuple #[] ∧ InR (b - 1) ∧ InR (r1 - a) ∧ InR ((b - 1) - (r1 - a)) ∧ zff_b3 data dataL dataC a b limit wasBalanced wasPartitioned length ((b - 1) - (r1 - a)) 1 h6 nx0 K) (zff_b3 data dataL dataC a b limit wasBalanced wasPartitioned length r1 r2 h5 nx0 K)) := by kernel_rfl
theorem zff_b3_eq (data dataL dataC a b limit wasBalanced wasPartitioned length pivot hint h nx0 K) : zff_b3 data dataL dataC a b limit wasBalanced wasPartitioned length pivot hint h nx0 K = (
 cond wasBalanced (cond wasPartitioned (cond (decide (hint = 1)) (HC 192 #[.slice data dataL dataC, .int .i64 a, .int .i64 b] h fun v6 h7 => ∃ r3, v6 = .bool r3 ∧ cond r3 (K (.tuple #[]) h7) (zff_b4 data dataL dataC a b limit wasBalanced wasPartitioned length pivot h7 nx0 K)) (zff_b4 data dataL dataC a b limit wasBalanced wasPartitioned length pivot h nx0 K)) (zff_b4 data dataL dataC a b limit wasBalanced wasPartitioned length pivot h nx0 K)) (zff_b4 data dataL dataC a b limit wasBalanced wasPartitioned length pivot h nx0 K)) := by kernel_rfl
theorem zff_b4_eq (data dataL dataC a b limit wasBalanced wasPartitioned length pivot h nx0 K) : zff_b4 data dataL dataC a b limit wasBalanced wasPartitioned length pivot h nx0 K = (
 cond (decide ((0 : Int) < a)) (InR (a - 1) ∧ (0 ≤ a - 1 ∧ a - 1 < (dataL : Int)) ∧ NN data fun a1 => ∃ n1, cell h (a1.add (Int.toNat (a - 1) * 1)) = some (.int .i64 n1) ∧ (0 ≤ pivot ∧ pivot < (dataL : Int)) ∧ NN data fun a2 => ∃ n2, cell h (a2.add (Int.toNat pivot * 1)) = some (.int .i64 n2) ∧ ∃ r4, HC 61 #[.int .i64 n1, .int .i64 n2] h (fun v7 h8 => v7 = .bool r4 ∧ h8 = h) ∧ cond (!r4) (HC 193 #[.slice data dataL dataC, .int .i64 a, .int .i64 b, .int .i64 pivot] h fun v8 h9 => ∃ r5, v8 = .int .i64 r5 ∧ nx0 (r5, b, limit, wasBalanced, wasPartitioned, ()) h9) (zff_b5 data dataL dataC a b limit length pivot h nx0 K))
 (zff_b5 data dataL dataC a b limit length pivot h nx0 K)) := by kernel_rfl
theorem zff_b5_eq (data dataL dataC a b limit length pivot h nx0 K) : zff_b5 data dataL dataC a b limit length pivot h nx0 K = (
 HC 194 #[.slice data dataL dataC, .int .i64 a, .int .i64 b, .int .i64 pivot] h fun v9 h10 => ∃ r6 r7, v9 = .tuple #[.int .i64 r6, .bool r7] ∧ InR (r6 - a) ∧ InR (b - r6) ∧ ∃ q1, Sx.Quo .i64 length 8 q1 ∧ cond (decide ((r6 - a) < (b - r6))) (HC 178 #[.slice data dataL dataC, .int .i64 a, .int .i64 r6, .int .i64 limit] h10 fun v10 h11 => v10 = .tuple #[] ∧ InR (r6 + 1) ∧ nx0 (r6 + 1, b, limit, decide (q1 ≤ (r6 - a)), r7, ()) h11) (InR (r6 + 1) ∧ HC 178 #[.slice data dataL dataC, .int .i64 (r6 + 1), .int .i64 b, .int .i64 limit] h10 fun v11 h12 => v11 = .tuple #[] ∧ nx0 (a, r6, limit, decide (q1 ≤ (b - r6)), r7, ()) h12)) := by kernel_rfl
theorem zff_call {data dataL dataC a b limit h K} (hk : zff_b0 data dataL dataC a b limit h K) : HC 178 #[.slice data dataL dataC, .int .i64 a, .int .i64 b, .int .i64 limit] h K :=
 yaaa zff_an Tryz.func178 (c := yaac Tryz.f178) rfl Tryz.ntmps178 (lb rfl) (snd_6 F_ok yaad) hk
def zdr_an : Ann := N0 .leaf (N0 .leaf (N0 .leaf (.node (some [0, 1, 2, 8, 9]) (.loop [0, 1, 2, 8] [(9, .int .i64), (10, .int .i64)] .leaf) .leaf)))
def zdr_b2 (x : OA) (xL xC : Nat) (target : OA) (targetL targetC : Nat) (cmp : Value) (nv i : Int) (h : Hp) (K : VK) : Prop :=
 cond (decide (i < nv)) ((0 ≤ i ∧ i < (xL : Int)) ∧ NN x fun a3 => ∃ a4 L2 C2, cell h (a3.add (Int.toNat i * 1)) = some (.slice a4 L2 C2) ∧ funV cmp fun fg2 fa2 fc2 => callX Tryz.prog F fg2 (fa2 ++ (([.slice a4 L2 C2, .slice target targetL targetC] : List Value) ++ fc2)).toArray h fun v2 h3 => ∃ r2, v2 = .int .i64 r2 ∧ K (.tuple #[.int .i64 i, .bool (decide (r2 = 0))]) h3) (K (.tuple #[.int .i64 i, .bool false]) h)
def zdr_b1 (i j : Int) (x : OA) (xL xC : Nat) (target : OA) (targetL targetC : Nat) (cmp : Value) (nv : Int) (h : Hp) (nx0 : Int × Int × Unit → Hp → Prop) (K : VK) : Prop :=
 cond (decide (i < j)) (InR (i + j) ∧ ∃ sr1, Sx.Shr .u64 (IntKind.u64.wrap (i + j)) 1 sr1 ∧ InR sr1 ∧ (0 ≤ sr1 ∧ sr1 < (xL : Int)) ∧ NN x fun a1 => ∃ a2 L1 C1, cell h (a1.add (Int.toNat sr1 * 1)) = some (.slice a2 L1 C1) ∧ funV cmp fun fg1 fa1 fc1 => callX Tryz.prog F fg1 (fa1 ++ (([.slice a2 L1 C1, .slice target targetL targetC] : List Value) ++ fc1)).toArray h fun v1 h2 => ∃ r1, v1 = .int .i64 r1 ∧ cond (decide (r1 < 0)) (InR (sr1 + 1) ∧ nx0 (sr1 + 1, j, ()) h2) (nx0 (i, sr1, ()) h2)) (zdr_b2 x xL xC target targetL targetC cmp nv i h K)
def zdr_b0 (x : OA) (xL xC : Nat) (target : OA) (targetL targetC : Nat) (cmp : Value) (h : Hp) (K : VK) : Prop :=
 yaau ((0, (xL : Int), ()) : Int × Int × Unit) h (fun (nx0 : Int × Int × Unit → Hp → Prop) (s1 : Int × Int × Unit) h1 => zdr_b1 s1.1 s1.2.1 x xL xC target targetL targetC cmp (xL : Int) h1 nx0 K)
theorem zdr_sx (x xL xC target targetL targetC cmp h K) : zdr_b0 x xL xC target targetL targetC cmp h K = sx_2 Tryz.prog F 49 (cp [] (yaac Tryz.f179)) (ap [] zdr_an) [(0, .slice x xL xC), (1, .slice target targetL targetC), (2, cmp)] h (retK Tryz.prog Tryz.f179.results.toList K) := by kernel_rfl
theorem zdr_call {x xL xC target targetL targetC cmp h K} (hk : zdr_b0 x xL xC target targetL targetC cmp h K) : HC 179 #[.slice x xL xC, .slice target targetL targetC, cmp] h K :=
 yaaa zdr_an Tryz.func179 (c := yaac Tryz.f179) rfl Tryz.ntmps179 (lb rfl) (snd_2 F_ok yaad) (Eq.mp (zdr_sx x xL xC target targetL targetC cmp h K) hk)
def zbd_an : Ann := .leaf
def zbd_b0 (row : OA) (rowL rowC : Nat) (key : OA) (keyL keyC : Nat) (h : Hp) (K : VK) : Prop :=
 (0 ≤ (0 : Int) ∧ (0 : Int) ≤ (keyL : Int) ∧ (keyL : Int) ≤ (rowC : Int)) ∧ HC 161 #[.slice (yaab row rowC (Int.toNat (0 : Int)) 1) (Int.toNat (keyL : Int) - Int.toNat (0 : Int)) (rowC - Int.toNat (0 : Int)), .slice key keyL keyC] h fun v1 h1 => ∃ r1, v1 = .int .i64 r1 ∧ K (.int .i64 r1) h1
theorem zbd_sx (row rowL rowC key keyL keyC h K) : zbd_b0 row rowL rowC key keyL keyC h K = sx_1 Tryz.prog F 11 (cp [] (yaac Tryz.f180)) (ap [] zbd_an) [(0, .slice row rowL rowC), (1, .slice key keyL keyC)] h (retK Tryz.prog Tryz.f180.results.toList K) := by kernel_rfl
theorem zbd_call {row rowL rowC key keyL keyC h K} (hk : zbd_b0 row rowL rowC key keyL keyC h K) : HC 180 #[.slice row rowL rowC, .slice key keyL keyC] h K :=
 yaaa zbd_an Tryz.func180 (c := yaac Tryz.f180) rfl Tryz.ntmps180 (lb rfl) (snd_1 F_ok yaad) (Eq.mp (zbd_sx row rowL rowC key keyL keyC h K) hk)
def zei_an : Ann := N0 .leaf (.node (some []) (N0 .leaf (.loop [0, 1, 7] [(8, .int .i64)] (N0 .leaf (N0 .leaf (.node (some [0, 1, 7, 8]) .leaf .leaf))))) .leaf)
def zei_b2 (s : OA) (sL sC : Nat) (f : Value) (t7 t8 : Int) (h : Hp) (nx0 : Int × Unit → Hp → Prop) (K : VK) : Prop :=
 InR (t8 + 1) ∧ nx0 (t8 + 1, ()) h
def zei_b3 (h : Hp) (K : VK) : Prop :=
 K (.int .i64 (-1)) h
def zei_b1 (t8 : Int) (s : OA) (sL sC : Nat) (f : Value) (t7 : Int) (h : Hp) (nx0 : Int × Unit → Hp → Prop) (K : VK) : Prop :=
 cond (decide (t8 < t7)) ((0 ≤ t8 ∧ t8 < (sL : Int)) ∧ NN s fun a1 => ∃ a2 L1 C1, cell h (a1.add (Int.toNat t8 * 1)) = some (.slice a2 L1 C1) ∧ funV f fun fg1 fa1 fc1 => callX Tryz.prog F fg1 (fa1 ++ (([.slice a2 L1 C1] : List Value) ++ fc1)).toArray h fun v1 h2 => ∃ r1, v1 = .bool r1 ∧ cond r1 (K (.int .i64 t8) h2) (zei_b2 s sL sC f t7 t8 h2 nx0 K)) (zei_b3  h K)
def zei_b0 (s : OA) (sL sC : Nat) (f : Value) (h : Hp) (K : VK) : Prop :=
 yaau ((0, ()) : Int × Unit) h (fun (nx0 : Int × Unit → Hp → Prop) (s1 : Int × Unit) h1 => zei_b1 s1.1 s sL sC f (sL : Int) h1 nx0 K)
theorem zei_sx (s sL sC f h K) : zei_b0 s sL sC f h K = sx_3 Tryz.prog F 19 (cp [] (yaac Tryz.f183)) (ap [] zei_an) [(0, .slice s sL sC), (1, f)] h (retK Tryz.prog Tryz.f183.results.toList K) := by kernel_rfl
theorem zei_call {s sL sC f h K} (hk : zei_b0 s sL sC f h K) : HC 183 #[.slice s sL sC, f] h K :=
 yaaa zei_an Tryz.func183 (c := yaac Tryz.f183) rfl Tryz.ntmps183 (lb rfl) (snd_3 F_ok yaad) (Eq.mp (zei_sx s sL sC f h K) hk)
def zay_an : Ann := .leaf
def zay_b0 (row : OA) (rowL rowC : Nat) (t1 : OA) (h : Hp) (K : VK) : Prop :=
 NN t1 fun a1 => ∃ n1, cell h a1 = some (.int .i64 n1) ∧ HC 19 #[.slice row rowL rowC, .int .i64 n1] h fun v1 h1 => ∃ r1, v1 = .bool r1 ∧ K (.bool r1) h1
theorem zay_sx (row rowL rowC t1 h K) : zay_b0 row rowL rowC t1 h K = sx_1 Tryz.prog F 7 (cp [] (yaac Tryz.f184)) (ap [] zay_an) [(0, .slice row rowL rowC), (1, .pointer t1)] h (retK Tryz.prog Tryz.f184.results.toList K) := by kernel_rfl
theorem zay_call {row rowL rowC t1 h K} (hk : zay_b0 row rowL rowC t1 h K) : HC 184 #[.slice row rowL rowC, .pointer t1] h K :=
 yaaa zay_an Tryz.func184 (c := yaac Tryz.f184) rfl Tryz.ntmps184 (lb rfl) (snd_1 F_ok yaad) (Eq.mp (zay_sx row rowL rowC t1 h K) hk)
def zew_an : Ann := N0 .leaf (.loop [0, 1, 2] [(6, .int .i64)] (N0 .leaf (.node (some [0, 1, 2, 6]) (N0 .leaf (.loop [0, 1, 2, 6] [(7, .int .i64)] (.node (some [0, 1, 2, 6, 7]) .leaf (.node (some [0, 1, 2, 6, 7]) (.plan (.qu 0 (.qu 1 (.qu 2 (.qu 3 (.qu 4 (.qu 5 (.qu 6 (.qu 7 (.qu 8 (.qu 9 (.qu 10 (.qu 11 (.qu 12 (.qu 13 (.qu 14 (.wo 15 (.qu 16 (.wo 17 .fin .no)) .no))))))))))))))))) .leaf)))) .leaf)))
def zew_b5 (data : OA) (dataL dataC : Nat) (a b i j : Int) (h : Hp) (nx0 nx1 : Int × Unit → Hp → Prop) (K : VK) : Prop :=
 InR (j - 1) ∧ nx1 (j - 1, ()) h
def zew_b3 (data : OA) (dataL dataC : Nat) (a b i j : Int) (h : Hp) (nx0 nx1 : Int × Unit → Hp → Prop) (K : VK) : Prop :=
 InR (j - 1) ∧ InR (j - 1) ∧ (0 ≤ j - 1 ∧ j - 1 < (dataL : Int)) ∧ NN data fun a3 => ∃ n3, cell h (a3.add (Int.toNat (j - 1) * 1)) = some (.int .i64 n3) ∧ (0 ≤ j ∧ j < (dataL : Int)) ∧ NN data fun a4 => ∃ n4, cell h (a4.add (Int.toNat j * 1)) = some (.int .i64 n4) ∧ (0 ≤ j ∧ j < (dataL : Int)) ∧ NN data fun a5 => Wr h (a5.add (Int.toNat j * 1)) (.int .i64 n3) fun h4 => (0 ≤ j - 1 ∧ j - 1 < (dataL : Int)) ∧ NN data fun a6 => Wr h4 (a6.add (Int.toNat (j - 1) * 1)) (.int .i64 n4) fun h5 => zew_b5 data dataL dataC a b i j h5 nx0 nx1 K
def zew_b4 (data : OA) (dataL dataC : Nat) (a b i : Int) (h : Hp) (nx0 : Int × Unit → Hp → Prop) (K : VK) : Prop :=
 InR (i + 1) ∧ nx0 (i + 1, ()) h
def zew_b2 (j : Int) (data : OA) (dataL dataC : Nat) (a b i : Int) (h : Hp) (nx0 nx1 : Int × Unit → Hp → Prop) (K : VK) : Prop :=
 cond (decide (a < j)) ((0 ≤ j ∧ j < (dataL : Int)) ∧ NN data fun a1 => ∃ n1, cell h (a1.add (Int.toNat j * 1)) = some (.int .i64 n1) ∧ InR (j - 1) ∧ (0 ≤ j - 1 ∧ j - 1 < (dataL : Int)) ∧ NN data fun a2 => ∃ n2, cell h (a2.add (Int.toNat (j - 1) * 1)) = some (.int .i64 n2) ∧ ∃ r1, HC 61 #[.int .i64 n1, .int .i64 n2] h (fun v1 h3 => v1 = .bool r1 ∧ h3 = h) ∧ cond r1 (zew_b3 data dataL dataC a b i j h nx0 nx1 K) (zew_b4 data dataL dataC a b i h nx0 K)) (zew_b4 data dataL dataC a b i h nx0 K)
def zew_b1 (i : Int) (data : OA) (dataL dataC : Nat) (a b : Int) (h : Hp) (nx0 : Int × Unit → Hp → Prop) (K : VK) : Prop :=
 cond (decide (i < b)) (yaau ((i, ()) : Int × Unit) h (fun (nx1 : Int × Unit → Hp → Prop) (s2 : Int × Unit) h2 => zew_b2 s2.1 data dataL dataC a b i h2 nx0 nx1 K)) (K (.tuple #[]) h)
def zew_b0 (data : OA) (dataL dataC : Nat) (a b : Int) (h : Hp) (K : VK) : Prop :=
 InR (a + 1) ∧ yaau ((a + 1, ()) : Int × Unit) h (fun (nx0 : Int × Unit → Hp → Prop) (s1 : Int × Unit) h1 => zew_b1 s1.1 data dataL dataC a b h1 nx0 K)
theorem zew_sx (data dataL dataC a b h K) : zew_b0 data dataL dataC a b h K = sx_5 Tryz.prog F 49 (cp [] (yaac Tryz.f187)) (ap [] zew_an) [(0, .slice data dataL dataC), (1, .int .i64 a), (2, .int .i64 b)] h (retK Tryz.prog Tryz.f187.results.toList K) := by kernel_rfl
theorem zew_call {data dataL dataC a b h K} (hk : zew_b0 data dataL dataC a b h K) : HC 187 #[.slice data dataL dataC, .int .i64 a, .int .i64 b] h K :=
 yaaa zew_an Tryz.func187 (c := yaac Tryz.f187) rfl Tryz.ntmps187 (lb rfl) (snd_5 F_ok yaad) (Eq.mp (zew_sx data dataL dataC a b h K) hk)
