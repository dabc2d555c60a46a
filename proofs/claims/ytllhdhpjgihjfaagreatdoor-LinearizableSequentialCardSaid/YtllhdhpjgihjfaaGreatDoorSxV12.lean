/- Plain statements of what each block of code of this seat asks; printed by a program, checked by Lean. -/
import Derived.Test.YtllhdhpjgihjfaaGreatDoorSxV0
set_option maxRecDepth 10000
namespace Go.Proofs.YtllhdhpjgihjfaaGreatDoor
open Go Go.Sx
def zcx_an : Ann := N0 .leaf (.node (some []) (N0 .leaf (.loop [0, 1, 7] [(8, .int .i64)] (N0 .leaf (N0 .leaf (.node (some [0, 1, 7, 8]) .leaf .leaf))))) .leaf)
def zcx_b2 (_ : OA) (_ _ : Nat) (_ _ t8 : Int) (h : Hp) (nx0 : Int × Unit → Hp → Prop) (_ : VK) : Prop :=
 InR (t8 + 1) ∧ nx0 (t8 + 1, ()) h
def zcx_b3 (h : Hp) (K : VK) : Prop :=
 K (.int .i64 (-1)) h
def zcx_b1 (t8 : Int) (s : OA) (sL sC : Nat) (v t7 : Int) (h : Hp) (nx0 : Int × Unit → Hp → Prop) (K : VK) : Prop :=
 cond (decide (t8 < t7)) ((0 ≤ t8 ∧ t8 < (sL : Int)) ∧ NN s fun a1 => ∃ n1, cell h (a1.add (Int.toNat t8 * 1)) = some (.int .i64 n1) ∧ cond (decide (v = n1)) (K (.int .i64 t8) h) (zcx_b2 s sL sC v t7 t8 h nx0 K)) (zcx_b3  h K)
def zcx_b0 (s : OA) (sL sC : Nat) (v : Int) (h : Hp) (K : VK) : Prop :=
 yaaq ((0, ()) : Int × Unit) h (fun (nx0 : Int × Unit → Hp → Prop) (s1 : Int × Unit) h1 => zcx_b1 s1.1 s sL sC v (sL : Int) h1 nx0 K)
theorem zcx_sx (s sL sC v h K) : zcx_b0 s sL sC v h K = sx_3 Tryz.prog F 19 (cp [] (yaab Tryz.f163)) (ap [] zcx_an) [(0, .slice s sL sC), (1, .int .i64 v)] h (retK Tryz.prog Tryz.f163.results.toList K) := by kernel_rfl
theorem zcx_call {s sL sC v h K} (hk : zcx_b0 s sL sC v h K) : HC 163 #[.slice s sL sC, .int .i64 v] h K :=
 yaaa zcx_an Tryz.func163 (c := yaab Tryz.f163) rfl Tryz.ntmps163 (lb rfl) (snd_3 F_ok yaad) (Eq.mp (zcx_sx s sL sC v h K) hk)
def zec_an : Ann := N0 .leaf (.loop [0, 2, 3] [(8, .int .i64)] (N0 .leaf (N0 .leaf (.node (some [0, 2, 3, 8, 9]) .leaf (N0 .leaf (N0 (.plan (.qu 0 (.qu 1 (.qu 2 (.qu 3 (.qu 4 (.qu 5 (.qu 6 (.qu 7 (.qu 8 (.qu 9 (.qu 10 (.qu 11 (.qu 12 (.qu 13 (.qu 14 (.qu 15 (.qu 16 (.qu 17 (.qu 18 (.qu 19 (.qu 20 (.wo 21 (.qu 22 (.wo 23 .fin .no)) .no))))))))))))))))))))))) .leaf))))))
def zec_b2 (data : OA) (dataL _ : Nat) (_ first root child : Int) (h : Hp) (nx0 : Int × Unit → Hp → Prop) (K : VK) : Prop :=
 InR (first + root) ∧ (0 ≤ first + root ∧ first + root < (dataL : Int)) ∧ NN data fun a3 => ∃ n3, cell h (a3.add (Int.toNat (first + root) * 1)) = some (.int .i64 n3) ∧ InR (first + child) ∧ (0 ≤ first + child ∧ first + child < (dataL : Int)) ∧ NN data fun a4 => ∃ n4, cell h (a4.add (Int.toNat (first + child) * 1)) = some (.int .i64 n4) ∧ ∃ r2, HC 159 #[.int .i64 n3, .int .i64 n4] h (fun v2 h3 => v2 = .bool r2 ∧ h3 = h) ∧ cond (!r2) (K (.tuple #[]) h) (InR (first + root) ∧ InR (first + child) ∧ InR (first + child) ∧ (0 ≤ first + child ∧ first + child < (dataL : Int)) ∧ NN data fun a5 => ∃ n5, cell h (a5.add (Int.toNat (first + child) * 1)) = some (.int .i64 n5) ∧ InR (first +
 root) ∧ (0 ≤ first + root ∧ first + root < (dataL : Int)) ∧ NN data fun a6 => ∃ n6, cell h (a6.add (Int.toNat (first + root) * 1)) = some (.int .i64 n6) ∧ (0 ≤ first + root ∧ first + root < (dataL : Int)) ∧ NN data fun a7 => Wr h (a7.add (Int.toNat (first + root) * 1)) (.int .i64 n5) fun h4 => (0 ≤ first + child ∧ first + child < (dataL : Int)) ∧ NN data fun a8 => Wr h4 (a8.add (Int.toNat (first + child) * 1)) (.int .i64 n6) fun h5 => nx0 (child, ()) h5)
def zec_b1 (root : Int) (data : OA) (dataL dataC : Nat) (hi first : Int) (h : Hp) (nx0 : Int × Unit → Hp → Prop) (K : VK) : Prop :=
 InR (2 * root) ∧ InR ((2 * root) + 1) ∧ cond (decide (hi ≤ ((2 * root) + 1))) (K (.tuple #[]) h) (InR (((2 * root) + 1) + 1) ∧ cond (decide ((((2 * root) + 1) + 1) < hi)) (InR (first + ((2 * root) + 1)) ∧ (0 ≤ first + ((2 * root) + 1) ∧ first + ((2 * root) + 1) < (dataL : Int)) ∧ NN data fun a1 => ∃ n1, cell h (a1.add (Int.toNat (first + ((2 * root) + 1)) * 1)) = some (.int .i64 n1) ∧ InR (first + ((2 * root) + 1)) ∧ InR ((first + ((2 * root) + 1)) + 1) ∧ (0 ≤ (first + ((2 * root) + 1)) + 1 ∧ (first + ((2 * root) + 1)) + 1 < (dataL : Int)) ∧ NN data fun a2 => ∃ n2, cell h (a2.add (Int.toNat ((first + ((2 * root) + 1)) + 1) * 1)) = some (.int .i64 n2) ∧ ∃ r1, HC 159 #[.int .i64
 n1, .int .i64 n2] h (fun v1 h2 => v1 = .bool r1 ∧ h2 = h) ∧ cond r1 (InR (((2 * root) + 1) + 1) ∧ zec_b2 data dataL dataC hi first root (((2 * root) + 1) + 1) h nx0 K) (zec_b2 data dataL dataC hi first root ((2 * root) + 1) h nx0 K)) (zec_b2 data dataL dataC hi first root ((2 * root) + 1) h nx0 K))
def zec_b0 (data : OA) (dataL dataC : Nat) (lo hi first : Int) (h : Hp) (K : VK) : Prop :=
 yaaq ((lo, ()) : Int × Unit) h (fun (nx0 : Int × Unit → Hp → Prop) (s1 : Int × Unit) h1 => zec_b1 s1.1 data dataL dataC hi first h1 nx0 K)
theorem zec_sx (data dataL dataC lo hi first h K) : zec_b0 data dataL dataC lo hi first h K = sx_3 Tryz.prog F 76 (cp [] (yaab Tryz.f168)) (ap [] zec_an) [(0, .slice data dataL dataC), (1, .int .i64 lo), (2, .int .i64 hi), (3, .int .i64 first)] h (retK Tryz.prog Tryz.f168.results.toList K) := by kernel_rfl
theorem zec_call {data dataL dataC lo hi first h K} (hk : zec_b0 data dataL dataC lo hi first h K) : HC 168 #[.slice data dataL dataC, .int .i64 lo, .int .i64 hi, .int .i64 first] h K :=
 yaaa zec_an Tryz.func168 (c := yaab Tryz.f168) rfl Tryz.ntmps168 (lb rfl) (snd_3 F_ok yaad) (Eq.mp (zec_sx data dataL dataC lo hi first h K) hk)
def zdl_an : Ann := .leaf
def zdl_b0 (data : OA) (dataL dataC : Nat) (a : Int) (swaps : OA) (h : Hp) (K : VK) : Prop :=
 InR (a - 1) ∧ InR (a + 1) ∧ HC 170 #[.slice data dataL dataC, .int .i64 (a - 1), .int .i64 a, .int .i64 (a + 1), .pointer swaps] h fun v1 h1 => ∃ r1, v1 = .int .i64 r1 ∧ K (.int .i64 r1) h1
theorem zdl_sx (data dataL dataC a swaps h K) : zdl_b0 data dataL dataC a swaps h K = sx_1 Tryz.prog F 15 (cp [] (yaab Tryz.f169)) (ap [] zdl_an) [(0, .slice data dataL dataC), (1, .int .i64 a), (2, .pointer swaps)] h (retK Tryz.prog Tryz.f169.results.toList K) := by kernel_rfl
theorem zdl_call {data dataL dataC a swaps h K} (hk : zdl_b0 data dataL dataC a swaps h K) : HC 169 #[.slice data dataL dataC, .int .i64 a, .pointer swaps] h K :=
 yaaa zdl_an Tryz.func169 (c := yaab Tryz.f169) rfl Tryz.ntmps169 (lb rfl) (snd_1 F_ok yaad) (Eq.mp (zdl_sx data dataL dataC a swaps h K) hk)
def zdn_an : Ann := .leaf
def zdn_b0 (data : OA) (dataL dataC : Nat) (a b c : Int) (swaps : OA) (h : Hp) (K : VK) : Prop :=
 HC 175 #[.slice data dataL dataC, .int .i64 a, .int .i64 b, .pointer swaps] h fun v1 h1 => ∃ r1 r2, v1 = .tuple #[.int .i64 r1, .int .i64 r2] ∧ HC 175 #[.slice data dataL dataC, .int .i64 r2, .int .i64 c, .pointer swaps] h1 fun v2 h2 => ∃ r3 r4, v2 = .tuple #[.int .i64 r3, .int .i64 r4] ∧ HC 175 #[.slice data dataL dataC, .int .i64 r1, .int .i64 r3, .pointer swaps] h2 fun v3 h3 => ∃ r5 r6, v3 = .tuple #[.int .i64 r5, .int .i64 r6] ∧ K (.int .i64 r6) h3
theorem zdn_sx (data dataL dataC a b c swaps h K) : zdn_b0 data dataL dataC a b c swaps h K = sx_1 Tryz.prog F 36 (cp [] (yaab Tryz.f170)) (ap [] zdn_an) [(0, .slice data dataL dataC), (1, .int .i64 a), (2, .int .i64 b), (3, .int .i64 c), (4, .pointer swaps)] h (retK Tryz.prog Tryz.f170.results.toList K) := by kernel_rfl
theorem zdn_call {data dataL dataC a b c swaps h K} (hk : zdn_b0 data dataL dataC a b c swaps h K) : HC 170 #[.slice data dataL dataC, .int .i64 a, .int .i64 b, .int .i64 c, .pointer swaps] h K :=
 yaaa zdn_an Tryz.func170 (c := yaab Tryz.f170) rfl Tryz.ntmps170 (lb rfl) (snd_1 F_ok yaad) (Eq.mp (zdn_sx data dataL dataC a b c swaps h K) hk)
def zdq_an : Ann := .leaf
def zdq_b0 (data : OA) (dataL _ : Nat) (a b : Int) (swaps : OA) (h : Hp) (K : VK) : Prop :=
 (0 ≤ b ∧ b < (dataL : Int)) ∧ NN data fun a1 => ∃ n1, cell h (a1.add (Int.toNat b * 1)) = some (.int .i64 n1) ∧ (0 ≤ a ∧ a < (dataL : Int)) ∧ NN data fun a2 => ∃ n2, cell h (a2.add (Int.toNat a * 1)) = some (.int .i64 n2) ∧ ∃ r1, HC 159 #[.int .i64 n1, .int .i64 n2] h (fun v1 h1 => v1 = .bool r1 ∧ h1 = h) ∧ cond r1 (NN swaps fun a3 => ∃ n3, cell h a3 = some (.int .i64 n3) ∧ InR (n3 + 1) ∧ NN swaps fun a4 => Wr h a4 (.int .i64 (n3 + 1)) fun h2 => K (.tuple #[.int .i64 b, .int .i64 a]) h2) (K (.tuple #[.int .i64 a, .int .i64 b]) h)
theorem zdq_sx (data dataL dataC a b swaps h K) : zdq_b0 data dataL dataC a b swaps h K = sx_1 Tryz.prog F 28 (cp [] (yaab Tryz.f175)) (ap [] zdq_an) [(0, .slice data dataL dataC), (1, .int .i64 a), (2, .int .i64 b), (3, .pointer swaps)] h (retK Tryz.prog Tryz.f175.results.toList K) := by kernel_rfl
theorem zdq_call {data dataL dataC a b swaps h K} (hk : zdq_b0 data dataL dataC a b swaps h K) : HC 175 #[.slice data dataL dataC, .int .i64 a, .int .i64 b, .pointer swaps] h K :=
 yaaa zdq_an Tryz.func175 (c := yaab Tryz.f175) rfl Tryz.ntmps175 (lb rfl) (snd_1 F_ok yaad) (Eq.mp (zdq_sx data dataL dataC a b swaps h K) hk)