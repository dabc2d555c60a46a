/- Plain statements of what each block of code of this seat asks; printed by a program, checked by Lean. -/
import Derived.Test.YtbhofnaipkkbeaaGreatDoorSxV0
set_option maxRecDepth 10000
namespace Go.Proofs.YtbhofnaipkkbeaaGreatDoor
open Go Go.Sx
def zcf_an : Ann := N0 .leaf (N0 .leaf (N0 .leaf (.node (some [0, 1, 6, 7]) (.loop [0, 1, 6] [(7, .int .i64), (8, .int .i64)] .leaf) .leaf)))
def zcf_b2 (x : OA) (xL _ : Nat) (target nv i : Int) (h : Hp) (K : VK) : Prop :=
 cond (decide (i < nv)) ((0 ≤ i ∧ i < (xL : Int)) ∧ NN x fun a2 => ∃ n2, cell h (a2.add (Int.toNat i * 1)) = some (.int .i64 n2) ∧ cond (decide (n2 = target)) (K (.tuple #[.int .i64 i, .bool true]) h) ((0 ≤ i ∧ i < (xL : Int)) ∧ NN x fun a3 => ∃ n3, cell h (a3.add (Int.toNat i * 1)) = some (.int .i64 n3) ∧ HC 153 #[.int .i64 n3] h fun v2 h3 => ∃ r2, v2 = .bool r2 ∧ cond r2 (HC 153 #[.int .i64 target] h3 fun v3 h4 => ∃ r3, v3 = .bool r3 ∧ K (.tuple #[.int .i64 i, .bool r3]) h4) (K (.tuple #[.int .i64 i, .bool false]) h3))) (K (.tuple #[.int .i64 i, .bool false]) h)
def zcf_b1 (i j : Int) (x : OA) (xL xC : Nat) (target nv : Int) (h : Hp) (nx0 : Int × Int × Unit → Hp → Prop) (K : VK) : Prop :=
 cond (decide (i < j)) (InR (i + j) ∧ ∃ sr1, Sx.Shr .u64 (IntKind.u64.wrap (i + j)) 1 sr1 ∧ InR sr1 ∧ (0 ≤ sr1 ∧ sr1 < (xL : Int)) ∧ NN x fun a1 => ∃ n1, cell h (a1.add (Int.toNat sr1 * 1)) = some (.int .i64 n1) ∧ HC 152 #[.int .i64 n1, .int .i64 target] h fun v1 h2 => ∃ r1, v1 = .bool r1 ∧ cond r1 (InR (sr1 + 1) ∧ nx0 (sr1 + 1, j, ()) h2) (nx0 (i, sr1, ()) h2)) (zcf_b2 x xL xC target nv i h K)
def zcf_b0 (x : OA) (xL xC : Nat) (target : Int) (h : Hp) (K : VK) : Prop :=
 yabr ((0, (xL : Int), ()) : Int × Int × Unit) h (fun (nx0 : Int × Int × Unit → Hp → Prop) (s1 : Int × Int × Unit) h1 => zcf_b1 s1.1 s1.2.1 x xL xC target (xL : Int) h1 nx0 K)
theorem zcf_sx (x xL xC target h K) : zcf_b0 x xL xC target h K = sx_2 Tryz.prog F 54 (cp [] (yaad Tryz.f114)) (ap [] zcf_an) [(0, .slice x xL xC), (1, .int .i64 target)] h (retK Tryz.prog Tryz.f114.results.toList K) := by kernel_rfl
theorem zcf_call {x xL xC target h K} (hk : zcf_b0 x xL xC target h K) : HC 114 #[.slice x xL xC, .int .i64 target] h K :=
 yaaa zcf_an Tryz.func114 (c := yaad Tryz.f114) rfl Tryz.ntmps114 (lb rfl) (snd_2 F_ok yaaj) (Eq.mp (zcf_sx x xL xC target h K) hk)
def zci_an : Ann := .leaf
def zci_b0 (s : OA) (sL sC : Nat) (h : Hp) (K : VK) : Prop :=
 cond (Option.isNone s) (K (.slice none 0 0) h) (New h (.cells #[] 85) fun b1 h1 => yaba Tryz.prog 173 173 (.slice (some ⟨b1, 0, none⟩) 0 0) (.slice s sL sC) h1 (slK fun a1 l1 c1 h2 => K (.slice a1 l1 c1) h2))
theorem zci_sx (s sL sC h K) : zci_b0 s sL sC h K = sx_1 Tryz.prog F 8 (cp [] (yaad Tryz.f119)) (ap [] zci_an) [(0, .slice s sL sC)] h (retK Tryz.prog Tryz.f119.results.toList K) := by kernel_rfl
theorem zci_call {s sL sC h K} (hk : zci_b0 s sL sC h K) : HC 119 #[.slice s sL sC] h K :=
 yaaa zci_an Tryz.func119 (c := yaad Tryz.f119) rfl Tryz.ntmps119 (lb rfl) (snd_1 F_ok yaaj) (Eq.mp (zci_sx s sL sC h K) hk)
def zab_an : Ann := N0 .leaf (.node (some [0, 1, 2]) .leaf .leaf)
def zab_b1 (v : OA) (bit : Bool) (i : Int) (h : Hp) (K : VK) : Prop :=
 HC 186 #[.pointer v, .bool bit, .int .i64 i] h fun v1 h1 => ∃ r1, v1 = .int .i64 r1 ∧ K (.tuple #[.int .i64 r1, .int .i64 0]) h1
def zab_b0 (v : OA) (bit : Bool) (i : Int) (h : Hp) (K : VK) : Prop :=
 cond v.isNone (K (.tuple #[.int .i64 0, .int .i64 1]) h) (cond (decide (i < 0)) (K (.tuple #[.int .i64 0, .int .i64 2]) h) (NN v fun a1 => ∃ n1, cell h a1 = some (.int .i64 n1) ∧ cond (decide (n1 < i)) (K (.tuple #[.int .i64 0, .int .i64 2]) h) (zab_b1 v bit i h K)))
theorem zab_sx (v bit i h K) : zab_b0 v bit i h K = sx_2 Tryz.prog F 26 (cp [] (yaad Tryz.f151)) (ap [] zab_an) [(0, .pointer v), (1, .bool bit), (2, .int .i64 i)] h (retK Tryz.prog Tryz.f151.results.toList K) := by kernel_rfl
theorem zab_call {v bit i h K} (hk : zab_b0 v bit i h K) : HC 151 #[.pointer v, .bool bit, .int .i64 i] h K :=
 yaaa zab_an Tryz.func151 (c := yaad Tryz.f151) rfl Tryz.ntmps151 (lb rfl) (snd_2 F_ok yaaj) (Eq.mp (zab_sx v bit i h K) hk)
def zap_an : Ann := .leaf
def zap_b0 (x y : Int) (h : Hp) (K : VK) : Prop :=
 HC 78 #[.int .i64 x] h fun v1 h1 => ∃ r1, v1 = .bool r1 ∧ cond r1 (HC 78 #[.int .i64 y] h1 fun v2 h2 => ∃ r2, v2 = .bool r2 ∧ cond (!r2) (K (.bool true) h2) (K (.bool (decide (x < y))) h2)) (K (.bool (decide (x < y))) h1)
theorem zap_sx (x y h K) : zap_b0 x y h K = sx_1 Tryz.prog F 17 (cp [] (yaad Tryz.f152)) (ap [] zap_an) [(0, .int .i64 x), (1, .int .i64 y)] h (retK Tryz.prog Tryz.f152.results.toList K) := by kernel_rfl
theorem zap_call {x y h K} (hk : zap_b0 x y h K) : HC 152 #[.int .i64 x, .int .i64 y] h K :=
 yaaa zap_an Tryz.func152 (c := yaad Tryz.f152) rfl Tryz.ntmps152 (lb rfl) (snd_1 F_ok yaaj) (Eq.mp (zap_sx x y h K) hk)
def zcs_an : Ann := .leaf
def zcs_b0 (x : Int) (h : Hp) (K : VK) : Prop :=
 K (.bool (!decide (x = x))) h
theorem zcs_sx (x h K) : zcs_b0 x h K = sx_1 Tryz.prog F 6 (cp [] (yaad Tryz.f153)) (ap [] zcs_an) [(0, .int .i64 x)] h (retK Tryz.prog Tryz.f153.results.toList K) := by kernel_rfl
theorem zcs_call {x h K} (hk : zcs_b0 x h K) : HC 153 #[.int .i64 x] h K :=
 yaaa zcs_an Tryz.func153 (c := yaad Tryz.f153) rfl Tryz.ntmps153 (lb rfl) (snd_1 F_ok yaaj) (Eq.mp (zcs_sx x h K) hk)
def zbz_an : Ann := .leaf
def zbz_b0 (v : OA) (bit : Bool) (i : Int) (h : Hp) (K : VK) : Prop :=
 HC 221 #[.pointer v, .int .i64 i] h fun v1 h1 => ∃ r1, v1 = .int .i64 r1 ∧ cond bit (K (.int .i64 r1) h1) (InR (i - r1) ∧ K (.int .i64 (i - r1)) h1)
theorem zbz_sx (v bit i h K) : zbz_b0 v bit i h K = sx_1 Tryz.prog F 16 (cp [] (yaad Tryz.f186)) (ap [] zbz_an) [(0, .pointer v), (1, .bool bit), (2, .int .i64 i)] h (retK Tryz.prog Tryz.f186.results.toList K) := by kernel_rfl
theorem zbz_call {v bit i h K} (hk : zbz_b0 v bit i h K) : HC 186 #[.pointer v, .bool bit, .int .i64 i] h K :=
 yaaa zbz_an Tryz.func186 (c := yaad Tryz.f186) rfl Tryz.ntmps186 (lb rfl) (snd_1 F_ok yaaj) (Eq.mp (zbz_sx v bit i h K) hk)
def zbt_an : Ann := N0 .leaf (N0 .leaf (.node (some [5]) .leaf .leaf))
def zbt_b1 (nv : Int) (h : Hp) (K : VK) : Prop :=
 K (.int .i64 nv) h
def zbt_b0 (v : OA) (i : Int) (h : Hp) (K : VK) : Prop :=
 NN v fun a1 => ∃ a2 L1 C1, cell h (a1.add 2) = some (.slice a2 L1 C1) ∧ ∃ q1, Sx.Quo .i64 i 64 q1 ∧ (0 ≤ q1 ∧ q1 < (L1 : Int)) ∧ NN a2 fun a3 => ∃ n1, cell h (a3.add (Int.toNat q1 * 1)) = some (.int .i64 n1) ∧ ∃ r1, Sx.Rem i 64 r1 ∧ cond (decide ((0 : Int) < r1)) (NN v fun a4 => ∃ a5 L2 C2, cell h (a4.add 1) = some (.slice a5 L2 C2) ∧ ∃ q2, Sx.Quo .i64 i 64 q2 ∧ (0 ≤ q2 ∧ q2 < (L2 : Int)) ∧ NN a5 fun a6 => ∃ n2, cell h (a6.add (Int.toNat q2 * 1)) = some (.int .u64 n2) ∧ ∃ r2, Sx.Rem i 64 r2 ∧ ∃ sl1, Sx.Shl .u64 1 r2 sl1 ∧ ∃ an1, Sx.And .u64 n2 (IntKind.u64.wrap (sl1 - 1)) an1 ∧ ∃ r3, HC 108 #[.int .u64 an1] h (fun v1 h1 => v1 = .int .i64 r3 ∧ h1 = h) ∧ InR (n1 + r3) ∧ zbt_b1
 (n1 + r3) h K) (zbt_b1 n1 h K)
theorem zbt_sx (v i h K) : zbt_b0 v i h K = sx_2 Tryz.prog F 34 (cp [] (yaad Tryz.f221)) (ap [] zbt_an) [(0, .pointer v), (1, .int .i64 i)] h (retK Tryz.prog Tryz.f221.results.toList K) := by kernel_rfl
theorem zbt_call {v i h K} (hk : zbt_b0 v i h K) : HC 221 #[.pointer v, .int .i64 i] h K :=
 yaaa zbt_an Tryz.func221 (c := yaad Tryz.f221) rfl Tryz.ntmps221 (lb rfl) (snd_2 F_ok yaaj) (Eq.mp (zbt_sx v i h K) hk)
def zbi_an : Ann := N0 .leaf (N0 (.tail 8) .leaf)
def zbi_b0 (q : OA) (qL _ : Nat) (i j : Int) (h : Hp) (K : VK) : Prop :=
 (0 ≤ i ∧ i < (qL : Int)) ∧ NN q fun a1 => ∃ n1 n2 n3 n4, cell h (a1.add (Int.toNat i * 4)) = some (.int .i64 n1) ∧ cell h ((a1.add (Int.toNat i * 4)).add 1) = some (.int .i64 n2) ∧ cell h ((a1.add (Int.toNat i * 4)).add 2) = some (.int .i64 n3) ∧ cell h ((a1.add (Int.toNat i * 4)).add 3) = some (.int .i64 n4) ∧ (0 ≤ j ∧ j < (qL : Int)) ∧ NN q fun a2 => ∃ n5 n6 n7 n8, cell h (a2.add (Int.toNat j * 4)) = some (.int .i64 n5) ∧ cell h ((a2.add (Int.toNat j * 4)).add 1) = some (.int .i64 n6) ∧ cell h ((a2.add (Int.toNat j * 4)).add 2) = some (.int .i64 n7) ∧ cell h ((a2.add (Int.toNat j * 4)).add 3) = some (.int .i64 n8) ∧ HC 345 #[.agg #[.int .i64 n1, .int .i64 n2, .int .i64 n3,
 .int .i64 n4], .agg #[.int .i64 n5, .int .i64 n6, .int .i64 n7, .int .i64 n8]] h fun v1 h1 => ∃ r1, v1 = .int .i64 r1 ∧ K (.bool (decide (r1 < 0))) h1
theorem zbi_sx (q qL qC i j h K) : zbi_b0 q qL qC i j h K = sx_1 Tryz.prog F 17 (cp [] (yaad Tryz.f341)) (ap [] zbi_an) [(0, .slice q qL qC), (1, .int .i64 i), (2, .int .i64 j)] h (retK Tryz.prog Tryz.f341.results.toList K) := by kernel_rfl
theorem zbi_call {q qL qC i j h K} (hk : zbi_b0 q qL qC i j h K) : HC 341 #[.slice q qL qC, .int .i64 i, .int .i64 j] h K :=
 yaaa zbi_an Tryz.func341 (c := yaad Tryz.f341) rfl Tryz.ntmps341 (lb rfl) (snd_1 F_ok yaaj) (Eq.mp (zbi_sx q qL qC i j h K) hk)
def zbj_an : Ann := .leaf
def zbj_b0 (q : OA) (h : Hp) (K : VK) : Prop :=
 NN q fun a1 => ∃ a2 L1 C1, cell h a1 = some (.slice a2 L1 C1) ∧ InR ((L1 : Int) - 1) ∧ NN q fun a3 => ∃ a4 L2 C2, cell h a3 = some (.slice a4 L2 C2) ∧ (0 ≤ (L1 : Int) - 1 ∧ (L1 : Int) - 1 < (L2 : Int)) ∧ NN a4 fun a5 => ∃ n1 n2 n3 n4, cell h (a5.add (Int.toNat ((L1 : Int) - 1) * 4)) = some (.int .i64 n1) ∧ cell h ((a5.add (Int.toNat ((L1 : Int) - 1) * 4)).add 1) = some (.int .i64 n2) ∧ cell h ((a5.add (Int.toNat ((L1 : Int) - 1) * 4)).add 2) = some (.int .i64 n3) ∧ cell h ((a5.add (Int.toNat ((L1 : Int) - 1) * 4)).add 3) = some (.int .i64 n4) ∧ New h (.cells #[.int .i64 0, .int .i64 0, .int .i64 0, .int .i64 0] 98) fun b1 h1 => Wr h1 ⟨b1, 0, none⟩ (.int .i64 n1) fun h2 => Wr h2 ((⟨b1, 0,
 none⟩ : Addr).add 1) (.int .i64 n2) fun h3 => Wr h3 ((⟨b1, 0, none⟩ : Addr).add 2) (.int .i64 n3) fun h4 => Wr h4 ((⟨b1, 0, none⟩ : Addr).add 3) (.int .i64 n4) fun h5 => NN q fun a6 => ∃ a7 L3 C3, cell h5 a6 = some (.slice a7 L3 C3) ∧ (0 ≤ (0 : Int) ∧ (0 : Int) ≤ (L1 : Int) - 1 ∧ (L1 : Int) - 1 ≤ (C3 : Int)) ∧ NN q fun a8 => Wr h5 a8 (.slice (yaai a7 C3 (Int.toNat (0 : Int)) 4) (Int.toNat ((L1 : Int) - 1) - Int.toNat (0 : Int)) (C3 - Int.toNat (0 : Int))) fun h6 => ∃ n5 n6 n7 n8, cell h6 ⟨b1, 0, none⟩ = some (.int .i64 n5) ∧ cell h6 ((⟨b1, 0, none⟩ : Addr).add 1) = some (.int .i64 n6) ∧ cell h6 ((⟨b1, 0, none⟩ : Addr).add 2) = some (.int .i64 n7) ∧ cell h6 ((⟨b1, 0, none⟩ : Addr).add 3) =
 some (.int .i64 n8) ∧ hw Tryz.prog (Instr.makeInterface 98 (.agg #[.int .i64 n5, .int .i64 n6, .int .i64 n7, .int .i64 n8])) h6 fun v1 h7 => K (v1) h7
theorem zbj_sx (q h K) : zbj_b0 q h K = sx_1 Tryz.prog F 25 (cp [] (yaad Tryz.f342)) (ap [] zbj_an) [(0, .pointer q)] h (retK Tryz.prog Tryz.f342.results.toList K) := by kernel_rfl
theorem zbj_call {q h K} (hk : zbj_b0 q h K) : HC 342 #[.pointer q] h K :=
 yaaa zbj_an Tryz.func342 (c := yaad Tryz.f342) rfl Tryz.ntmps342 (lb rfl) (snd_1 F_ok yaaj) (Eq.mp (zbj_sx q h K) hk)
def zbk_an : Ann := .plan (.qu 0 (.qu 1 (.qu 2 (.qu 3 (.qu 4 (.wo 5 (.wo 6 (.wo 7 (.qu 8 (.wo 9 .fin .no)) .no) .no) .no))))))
def zbk_b0 (q : OA) (x : Value) (h : Hp) (K : VK) : Prop :=
 NN q fun a1 => ∃ a2 L1 C1, cell h a1 = some (.slice a2 L1 C1) ∧ hq Tryz.prog (Instr.typeAssert x 20 98 false) h fun v1 => ∃ r1 r2 r3 r4, v1 = .agg #[.int .i64 r1, .int .i64 r2, .int .i64 r3, .int .i64 r4] ∧ (∃ a3 L2 C2, cell h a1 = some (.slice a3 L2 C2) ∧ (.slice a3 L2 C2 : Value) = .slice a2 L1 C1) ∧ New h (.cells #[.int .i64 r1, .int .i64 r2, .int .i64 r3, .int .i64 r4] 98) fun b1 h1 => (∃ a4 L3 C3, cell h1 a1 = some (.slice a4 L3 C3) ∧ (.slice a4 L3 C3 : Value) = .slice a2 L1 C1) ∧ yaba Tryz.prog 93 93 (.slice a2 L1 C1) (.slice (some ⟨b1, 0, none⟩) 1 1) h1 (slK fun a5 l1 c1 h2 => NN q fun a6 => Wr h2 a6 (.slice a5 l1 c1) fun h3 => K (.tuple #[]) h3)
theorem zbk_sx (q x h K) : zbk_b0 q x h K = sx_1 Tryz.prog F 13 (cp [] (yaad Tryz.f343)) (ap [] zbk_an) [(0, .pointer q), (1, x)] h (retK Tryz.prog Tryz.f343.results.toList K) := by kernel_rfl
theorem zbk_call {q x h K} (hk : zbk_b0 q x h K) : HC 343 #[.pointer q, x] h K :=
 yaaa zbk_an Tryz.func343 (c := yaad Tryz.f343) rfl Tryz.ntmps343 (lb rfl) (snd_1 F_ok yaaj) (Eq.mp (zbk_sx q x h K) hk)
def zbl_an : Ann := .plan (.qu 0 (.qu 1 (.qu 2 (.qu 3 (.qu 4 (.qu 5 (.qu 6 (.qu 7 (.qu 8 (.qu 9 (.qu 10 (.qu 11 (.qu 12 (.wo 13 (.qu 14 (.wo 15 .fin .no)) .no))))))))))))))
def zbl_b0 (q : OA) (qL _ : Nat) (i j : Int) (h : Hp) (K : VK) : Prop :=
 (0 ≤ j ∧ j < (qL : Int)) ∧ NN q fun a1 => ∃ n1 n2 n3 n4, cell h (a1.add (Int.toNat j * 4)) = some (.int .i64 n1) ∧ cell h ((a1.add (Int.toNat j * 4)).add 1) = some (.int .i64 n2) ∧ cell h ((a1.add (Int.toNat j * 4)).add 2) = some (.int .i64 n3) ∧ cell h ((a1.add (Int.toNat j * 4)).add 3) = some (.int .i64 n4) ∧ (0 ≤ i ∧ i < (qL : Int)) ∧ NN q fun a2 => ∃ n5 n6 n7 n8, cell h (a2.add (Int.toNat i * 4)) = some (.int .i64 n5) ∧ cell h ((a2.add (Int.toNat i * 4)).add 1) = some (.int .i64 n6) ∧ cell h ((a2.add (Int.toNat i * 4)).add 2) = some (.int .i64 n7) ∧ cell h ((a2.add (Int.toNat i * 4)).add 3) = some (.int .i64 n8) ∧ (0 ≤ i ∧ i < (qL : Int)) ∧ NN q fun a3 => Wr h (a3.add (Int.toNat i * 4))
 (.int .i64 n1) fun h1 => Wr h1 ((a3.add (Int.toNat i * 4)).add 1) (.int .i64 n2) fun h2 => Wr h2 ((a3.add (Int.toNat i * 4)).add 2) (.int .i64 n3) fun h3 => Wr h3 ((a3.add (Int.toNat i * 4)).add 3) (.int .i64 n4) fun h4 => (0 ≤ j ∧ j < (qL : Int)) ∧ NN q fun a4 => Wr h4 (a4.add (Int.toNat j * 4)) (.int .i64 n5) fun h5 => Wr h5 ((a4.add (Int.toNat j * 4)).add 1) (.int .i64 n6) fun h6 => Wr h6 ((a4.add (Int.toNat j * 4)).add 2) (.int .i64 n7) fun h7 => Wr h7 ((a4.add (Int.toNat j * 4)).add 3) (.int .i64 n8) fun h8 => K (.tuple #[]) h8
theorem zbl_sx (q qL qC i j h K) : zbl_b0 q qL qC i j h K = sx_1 Tryz.prog F 20 (cp [] (yaad Tryz.f344)) (ap [] zbl_an) [(0, .slice q qL qC), (1, .int .i64 i), (2, .int .i64 j)] h (retK Tryz.prog Tryz.f344.results.toList K) := by kernel_rfl
theorem zbl_call {q qL qC i j h K} (hk : zbl_b0 q qL qC i j h K) : HC 344 #[.slice q qL qC, .int .i64 i, .int .i64 j] h K :=
 yaaa zbl_an Tryz.func344 (c := yaad Tryz.f344) rfl Tryz.ntmps344 (lb rfl) (snd_1 F_ok yaaj) (Eq.mp (zbl_sx q qL qC i j h K) hk)
def zbg_an : Ann := N0 .leaf (N0 .leaf (N0 (.tail 11) .leaf))
def zbg_b0 (a_0 a_1 a_2 a_3 b_0 b_1 b_2 b_3 : Int) (h : Hp) (K : VK) : Prop :=
 New h (.cells #[.int .i64 a_0, .int .i64 a_1, .int .i64 a_2, .int .i64 a_3] 98) fun b1 h1 => New h1 (.cells #[.int .i64 b_0, .int .i64 b_1, .int .i64 b_2, .int .i64 b_3] 98) fun b2 h2 => ∃ n1 n2, cell h2 ⟨b1, 0, none⟩ = some (.int .i64 n1) ∧ cell h2 ((⟨b1, 0, none⟩ : Addr).add 1) = some (.int .i64 n2) ∧ ∃ n3 n4, cell h2 ⟨b2, 0, none⟩ = some (.int .i64 n3) ∧ cell h2 ((⟨b2, 0, none⟩ : Addr).add 1) = some (.int .i64 n4) ∧ HC 69 #[.agg #[.int .i64 n1, .int .i64 n2], .agg #[.int .i64 n3, .int .i64 n4]] h2 fun v1 h3 => ∃ r1 r2, v1 = .tuple #[.int .i64 r1, .int .i64 r2] ∧ ∃ n5, cell h3 ((⟨b1, 0, none⟩ : Addr).add 2) = some (.int .i64 n5) ∧ ∃ n6, cell h3 ((⟨b2, 0, none⟩ : Addr).add 2)
 = some (.int .i64 n6) ∧ ∃ r3, HC 46 #[.int .i64 n5, .int .i64 n6] h3 (fun v2 h4 => v2 = .int .i64 r3 ∧ h4 = h3) ∧ ∃ n7, cell h3 ((⟨b1, 0, none⟩ : Addr).add 3) = some (.int .i64 n7) ∧ ∃ n8, cell h3 ((⟨b2, 0, none⟩ : Addr).add 3) = some (.int .i64 n8) ∧ ∃ r4, HC 46 #[.int .i64 n7, .int .i64 n8] h3 (fun v3 h5 => v3 = .int .i64 r4 ∧ h5 = h3) ∧ New h3 (.cells #[.int .i64 r1, .int .i64 r3, .int .i64 r4] 3) fun b3 h6 => HC 72 #[.slice (some ⟨b3, 0, none⟩) 3 3] h6 fun v4 h7 => ∃ r5, v4 = .int .i64 r5 ∧ K (.int .i64 r5) h7
theorem zbg_sx (a_0 a_1 a_2 a_3 b_0 b_1 b_2 b_3 h K) : zbg_b0 a_0 a_1 a_2 a_3 b_0 b_1 b_2 b_3 h K = sx_1 Tryz.prog F 28 (cp [] (yaad Tryz.f345)) (ap [] zbg_an) [(0, .agg #[.int .i64 a_0, .int .i64 a_1, .int .i64 a_2, .int .i64 a_3]), (1, .agg #[.int .i64 b_0, .int .i64 b_1, .int .i64 b_2, .int .i64 b_3])] h (retK Tryz.prog Tryz.f345.results.toList K) := by kernel_rfl
theorem zbg_call {a_0 a_1 a_2 a_3 b_0 b_1 b_2 b_3 h K} (hk : zbg_b0 a_0 a_1 a_2 a_3 b_0 b_1 b_2 b_3 h K) : HC 345 #[.agg #[.int .i64 a_0, .int .i64 a_1, .int .i64 a_2, .int .i64 a_3], .agg #[.int .i64 b_0, .int .i64 b_1, .int .i64 b_2, .int .i64 b_3]] h K :=
 yaaa zbg_an Tryz.func345 (c := yaad Tryz.f345) rfl Tryz.ntmps345 (lb rfl) (snd_1 F_ok yaaj) (Eq.mp (zbg_sx a_0 a_1 a_2 a_3 b_0 b_1 b_2 b_3 h K) hk)
