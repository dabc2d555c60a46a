/- Plain statements of what each block of code of this seat asks; printed by a program, checked by Lean. -/
import Derived.Test.YtllhdhpjgihjfaaGreatDoorSxV0
set_option maxRecDepth 10000
namespace Go.Proofs.YtllhdhpjgihjfaaGreatDoor
open Go Go.Sx
def zbb_an : Ann := N0 .leaf (.node (some [0, 2]) .leaf (.node (some [0, 2]) .leaf (.node (some [0, 2]) .leaf .leaf)))
def zbb_K0 (K : VK) : EK := retK Tryz.prog Tryz.f121.results.toList K
def zbb_b0 (x : Int) (h : Hp) (K : VK) : Prop :=
 sx_4 Tryz.prog F 25 (cp [] (yaab Tryz.f121)) (ap [] zbb_an) [(0, .int .u64 x)] h (zbb_K0  K)
def zbb_b1 (x nv : Int) (h : Hp) (K : VK) : Prop :=
 sx_3 Tryz.prog F 25 (cp [1, 1] (yaab Tryz.f121)) (ap [1, 1] zbb_an) [(0, .int .u64 x), (2, .int .i64 nv)] h (zbb_K0  K)
def zbb_b2 (x nv : Int) (h : Hp) (K : VK) : Prop :=
 sx_2 Tryz.prog F 25 (cp [1, 1, 1] (yaab Tryz.f121)) (ap [1, 1, 1] zbb_an) [(0, .int .u64 x), (2, .int .i64 nv)] h (zbb_K0  K)
def zbb_b3 (x nv : Int) (h : Hp) (K : VK) : Prop :=
 sx_1 Tryz.prog F 25 (cp [1, 1, 1, 1] (yaab Tryz.f121)) (ap [1, 1, 1, 1] zbb_an) [(0, .int .u64 x), (2, .int .i64 nv)] h (zbb_K0  K)
theorem zbb_b0_eq (x h K) : zbb_b0 x h K = (
 cond (decide ((4294967296 : Int) ≤ x)) (∃ sr1, Sx.Shr .u64 x 32 sr1 ∧ zbb_b1 sr1 32 h K) (zbb_b1 x 0 h K)) := by kernel_rfl
theorem zbb_b1_eq (x nv h K) : zbb_b1 x nv h K = (
 cond (decide ((65536 : Int) ≤ x)) (∃ sr2, Sx.Shr .u64 x 16 sr2 ∧ InR (nv + 16) ∧ zbb_b2 sr2 (nv + 16) h K) (zbb_b2 x nv h K)) := by kernel_rfl
theorem zbb_b2_eq (x nv h K) : zbb_b2 x nv h K = (
 cond (decide ((256 : Int) ≤ x)) (∃ sr3, Sx.Shr .u64 x 8 sr3 ∧ InR (nv + 8) ∧ zbb_b3 sr3 (nv + 8) h K) (zbb_b3 x nv h K)) := by kernel_rfl
theorem zbb_b3_eq (x nv h K) : zbb_b3 x nv h K = (
 (0 ≤ IntKind.u8.wrap x ∧ IntKind.u8.wrap x < ((⟨#[0, 1, 2, 2, 3, 3, 3, 3, 4, 4, 4, 4, 4, 4, 4, 4, 5, 5, 5, 5, 5, 5, 5, 5, 5, 5, 5, 5, 5, 5, 5, 5, 6, 6, 6, 6, 6, 6, 6, 6, 6, 6, 6, 6, 6, 6, 6, 6, 6, 6, 6, 6, 6, 6, 6, 6, 6, 6, 6, 6, 6, 6, 6, 6, 7, 7, 7, 7, 7, 7, 7, 7, 7, 7, 7, 7, 7, 7, 7, 7, 7, 7, 7, 7, 7, 7, 7, 7, 7, 7, 7, 7, 7, 7, 7, 7, 7, 7, 7, 7, 7, 7, 7, 7, 7, 7, 7, 7, 7, 7, 7, 7, 7, 7, 7, 7, 7, 7, 7, 7, 7, 7, 7, 7, 7, 7, 7, 7, 8, 8, 8, 8, 8, 8, 8, 8, 8, 8, 8, 8, 8, 8, 8, 8, 8, 8, 8, 8, 8, 8, 8, 8, 8, 8, 8, 8, 8, 8, 8, 8, 8, 8, 8, 8, 8, 8, 8, 8, 8, 8, 8, 8, 8, 8, 8, 8, 8, 8, 8, 8, 8, 8, 8, 8, 8, 8, 8, 8, 8, 8, 8, 8, 8, 8, 8, 8, 8, 8, 8, 8, 8, 8, 8, 8, 8, 8, 8, 8, 8, 8, 8, 8, 8, 8, 8, 8, 8, 8, 8, 8, 8, 8, 8, 8, 8, 8, 8, 8, 8, 8, 8, 8, 8, 8, 8, 8, 8, 8, 8, 8, 8, 8, 8, 8, 8, 8, 8, 8, 8, 8, 8, 8, 8, 8, 8, 8]⟩ : ByteArray).size : Int)) ∧
 InR (((⟨#[0, 1, 2, 2, 3, 3, 3, 3, 4, 4, 4, 4, 4, 4, 4, 4, 5, 5, 5, 5, 5, 5, 5, 5, 5, 5, 5, 5, 5, 5, 5, 5, 6, 6, 6, 6, 6, 6, 6, 6, 6, 6, 6, 6, 6, 6, 6, 6, 6, 6, 6, 6, 6, 6, 6, 6, 6, 6, 6, 6, 6, 6, 6, 6, 7, 7, 7, 7, 7, 7, 7, 7, 7, 7, 7, 7, 7, 7, 7, 7, 7, 7, 7, 7, 7, 7, 7, 7, 7, 7, 7, 7, 7, 7, 7, 7, 7, 7, 7, 7, 7, 7, 7, 7, 7, 7, 7, 7, 7, 7, 7, 7, 7, 7, 7, 7, 7, 7, 7, 7, 7, 7, 7, 7, 7, 7, 7, 7, 8, 8, 8, 8, 8, 8, 8, 8, 8, 8, 8, 8, 8, 8, 8, 8, 8, 8, 8, 8, 8, 8, 8, 8, 8, 8, 8, 8, 8, 8, 8, 8, 8, 8, 8, 8, 8, 8, 8, 8, 8, 8, 8, 8, 8, 8, 8, 8, 8, 8, 8, 8, 8, 8, 8, 8, 8, 8, 8, 8, 8, 8, 8, 8, 8, 8, 8, 8, 8, 8, 8, 8, 8, 8, 8, 8, 8, 8, 8, 8, 8, 8, 8, 8, 8, 8, 8, 8, 8, 8, 8, 8, 8, 8, 8, 8, 8, 8, 8, 8, 8, 8, 8, 8, 8, 8, 8, 8, 8, 8, 8, 8, 8, 8, 8, 8, 8, 8, 8, 8, 8, 8, 8, 8, 8, 8, 8, 8]⟩ : ByteArray).data.toList.getD (Int.toNat (IntKind.u8.wrap x)) 0).toNat : Int) ∧
 InR (nv + (((⟨#[0, 1, 2, 2, 3, 3, 3, 3, 4, 4, 4, 4, 4, 4, 4, 4, 5, 5, 5, 5, 5, 5, 5, 5, 5, 5, 5, 5, 5, 5, 5, 5, 6, 6, 6, 6, 6, 6, 6, 6, 6, 6, 6, 6, 6, 6, 6, 6, 6, 6, 6, 6, 6, 6, 6, 6, 6, 6, 6, 6, 6, 6, 6, 6, 7, 7, 7, 7, 7, 7, 7, 7, 7, 7, 7, 7, 7, 7, 7, 7, 7, 7, 7, 7, 7, 7, 7, 7, 7, 7, 7, 7, 7, 7, 7, 7, 7, 7, 7, 7, 7, 7, 7, 7, 7, 7, 7, 7, 7, 7, 7, 7, 7, 7, 7, 7, 7, 7, 7, 7, 7, 7, 7, 7, 7, 7, 7, 7, 8, 8, 8, 8, 8, 8, 8, 8, 8, 8, 8, 8, 8, 8, 8, 8, 8, 8, 8, 8, 8, 8, 8, 8, 8, 8, 8, 8, 8, 8, 8, 8, 8, 8, 8, 8, 8, 8, 8, 8, 8, 8, 8, 8, 8, 8, 8, 8, 8, 8, 8, 8, 8, 8, 8, 8, 8, 8, 8, 8, 8, 8, 8, 8, 8, 8, 8, 8, 8, 8, 8, 8, 8, 8, 8, 8, 8, 8, 8, 8, 8, 8, 8, 8, 8, 8, 8, 8, 8, 8, 8, 8, 8, 8, 8, 8, 8, 8, 8, 8, 8, 8, 8, 8, 8, 8, 8, 8, 8, 8, 8, 8, 8, 8, 8, 8, 8, 8, 8, 8, 8, 8, 8, 8, 8, 8, 8, 8]⟩ : ByteArray).data.toList.getD (Int.toNat (IntKind.u8.wrap x)) 0).toNat : Int)) ∧
 K (.int .i64 (nv + (((⟨#[0, 1, 2, 2, 3, 3, 3, 3, 4, 4, 4, 4, 4, 4, 4, 4, 5, 5, 5, 5, 5, 5, 5, 5, 5, 5, 5, 5, 5, 5, 5, 5, 6, 6, 6, 6, 6, 6, 6, 6, 6, 6, 6, 6, 6, 6, 6, 6, 6, 6, 6, 6, 6, 6, 6, 6, 6, 6, 6, 6, 6, 6, 6, 6, 7, 7, 7, 7, 7, 7, 7, 7, 7, 7, 7, 7, 7, 7, 7, 7, 7, 7, 7, 7, 7, 7, 7, 7, 7, 7, 7, 7, 7, 7, 7, 7, 7, 7, 7, 7, 7, 7, 7, 7, 7, 7, 7, 7, 7, 7, 7, 7, 7, 7, 7, 7, 7, 7, 7, 7, 7, 7, 7, 7, 7, 7, 7, 7, 8, 8, 8, 8, 8, 8, 8, 8, 8, 8, 8, 8, 8, 8, 8, 8, 8, 8, 8, 8, 8, 8, 8, 8, 8, 8, 8, 8, 8, 8, 8, 8, 8, 8, 8, 8, 8, 8, 8, 8, 8, 8, 8, 8, 8, 8, 8, 8, 8, 8, 8, 8, 8, 8, 8, 8, 8, 8, 8, 8, 8, 8, 8, 8, 8, 8, 8, 8, 8, 8, 8, 8, 8, 8, 8, 8, 8, 8, 8, 8, 8, 8, 8, 8, 8, 8, 8, 8, 8, 8, 8, 8, 8, 8, 8, 8, 8, 8, 8, 8, 8, 8, 8, 8, 8, 8, 8, 8, 8, 8, 8, 8, 8, 8, 8, 8, 8, 8, 8, 8, 8, 8, 8, 8, 8, 8, 8, 8]⟩ : ByteArray).data.toList.getD (Int.toNat (IntKind.u8.wrap x)) 0).toNat : Int))) h) := by kernel_rfl
theorem zbb_call {x h K} (hk : zbb_b0 x h K) : HC 121 #[.int .u64 x] h K :=
 yaaa zbb_an Tryz.func121 (c := yaab Tryz.f121) rfl Tryz.ntmps121 (lb rfl) (snd_4 F_ok yaad) hk
def zcc_an : Ann := N0 .leaf (.node (some []) .leaf .leaf)
def zcc_b1 (h : Hp) (K : VK) : Prop :=
 K (.tuple #[.int .i64 1, .int .i64 0]) h
def zcc_b0 (kind : Int) (h : Hp) (K : VK) : Prop :=
 cond (decide (kind = 1)) (K (.tuple #[.int .i64 2, .int .i64 1]) h) (cond (decide (kind = 5)) (K (.tuple #[.int .i64 3, .int .i64 2]) h) (cond (decide (kind = 2)) (K (.tuple #[.int .i64 1, .int .i64 1]) h) (zcc_b1  h K)))
theorem zcc_sx (kind h K) : zcc_b0 kind h K = sx_2 Tryz.prog F 11 (cp [] (yaab Tryz.f122)) (ap [] zcc_an) [(0, .int .i64 kind)] h (retK Tryz.prog Tryz.f122.results.toList K) := by kernel_rfl
theorem zcc_call {kind h K} (hk : zcc_b0 kind h K) : HC 122 #[.int .i64 kind] h K :=
 yaaa zcc_an Tryz.func122 (c := yaab Tryz.f122) rfl Tryz.ntmps122 (lb rfl) (snd_2 F_ok yaad) (Eq.mp (zcc_sx kind h K) hk)
def zca_an : Ann := .leaf
def zca_b0 (nv : Int) (h : Hp) (K : VK) : Prop :=
 HC 91 #[.int .i64 nv] h fun v1 h1 => ∃ r1, v1 = .bool r1 ∧ K (.bool (!r1)) h1
theorem zca_sx (nv h K) : zca_b0 nv h K = sx_1 Tryz.prog F 6 (cp [] (yaab Tryz.f123)) (ap [] zca_an) [(0, .int .i64 nv)] h (retK Tryz.prog Tryz.f123.results.toList K) := by kernel_rfl
theorem zca_call {nv h K} (hk : zca_b0 nv h K) : HC 123 #[.int .i64 nv] h K :=
 yaaa zca_an Tryz.func123 (c := yaab Tryz.f123) rfl Tryz.ntmps123 (lb rfl) (snd_1 F_ok yaad) (Eq.mp (zca_sx nv h K) hk)
def zdn_an : Ann := N0 .leaf (.node (some [0, 1]) (N0 .leaf (.loop [0, 1, 9, 10] [(11, .int .i64)] (N0 .leaf (N0 .leaf (.node (some [0, 1, 9, 10, 11]) .leaf .leaf))))) .leaf)
def zdn_b2 (s1 : OA) (s1L s1C : Nat) (s2 : OA) (s2L s2C : Nat) (t9 : OA) (t9L t9C : Nat) (t10 t11 : Int) (h : Hp) (nx0 : Int × Unit → Hp → Prop) (K : VK) : Prop :=
 InR (t11 + 1) ∧ nx0 (t11 + 1, ()) h
def zdn_b3 (s1 : OA) (s1L s1C : Nat) (s2 : OA) (s2L s2C : Nat) (h : Hp) (K : VK) : Prop :=
 cond (decide ((s1L : Int) < (s2L : Int))) (K (.int .i64 (-1)) h) (K (.int .i64 0) h)
def zdn_b1 (t11 : Int) (s1 : OA) (s1L s1C : Nat) (s2 : OA) (s2L s2C : Nat) (t9 : OA) (t9L t9C : Nat) (t10 : Int) (h : Hp) (nx0 : Int × Unit → Hp → Prop) (K : VK) : Prop :=
 cond (decide (t11 < t10)) ((0 ≤ t11 ∧ t11 < (t9L : Int)) ∧ NN t9 fun a1 => ∃ n1, cell h (a1.add (Int.toNat t11 * 1)) = some (.int .i64 n1) ∧ cond (decide ((s2L : Int) ≤ t11)) (K (.int .i64 1) h) ((0 ≤ t11 ∧ t11 < (s2L : Int)) ∧ NN s2 fun a2 => ∃ n2, cell h (a2.add (Int.toNat t11 * 1)) = some (.int .i64 n2) ∧ HC 142 #[.int .i64 n1, .int .i64 n2] h fun v1 h2 => ∃ r1, v1 = .int .i64 r1 ∧ cond (!decide (r1 = 0)) (K (.int .i64 r1) h2) (zdn_b2 s1 s1L s1C s2 s2L s2C t9 t9L t9C t10 t11 h2 nx0 K))) (zdn_b3 s1 s1L s1C s2 s2L s2C h K)
def zdn_b0 (s1 : OA) (s1L s1C : Nat) (s2 : OA) (s2L s2C : Nat) (h : Hp) (K : VK) : Prop :=
 yaaq ((0, ()) : Int × Unit) h (fun (nx0 : Int × Unit → Hp → Prop) (s3 : Int × Unit) h1 => zdn_b1 s3.1 s1 s1L s1C s2 s2L s2C s1 s1L s1C (s1L : Int) h1 nx0 K)
theorem zdn_sx (s1 s1L s1C s2 s2L s2C h K) : zdn_b0 s1 s1L s1C s2 s2L s2C h K = sx_3 Tryz.prog F 36 (cp [] (yaab Tryz.f124)) (ap [] zdn_an) [(0, .slice s1 s1L s1C), (1, .slice s2 s2L s2C)] h (retK Tryz.prog Tryz.f124.results.toList K) := by kernel_rfl
theorem zdn_call {s1 s1L s1C s2 s2L s2C h K} (hk : zdn_b0 s1 s1L s1C s2 s2L s2C h K) : HC 124 #[.slice s1 s1L s1C, .slice s2 s2L s2C] h K :=
 yaaa zdn_an Tryz.func124 (c := yaab Tryz.f124) rfl Tryz.ntmps124 (lb rfl) (snd_3 F_ok yaad) (Eq.mp (zdn_sx s1 s1L s1C s2 s2L s2C h K) hk)
def zea_an : Ann := .leaf
def zea_b0 (x : OA) (xL xC : Nat) (h : Hp) (K : VK) : Prop :=
 HC 82 #[.int .u64 (IntKind.u64.wrap (xL : Int))] h fun v1 h1 => ∃ r1, v1 = .int .i64 r1 ∧ HC 143 #[.slice x xL xC, .int .i64 0, .int .i64 (xL : Int), .int .i64 r1] h1 fun v2 h2 => v2 = .tuple #[] ∧ K (.tuple #[]) h2
theorem zea_sx (x xL xC h K) : zea_b0 x xL xC h K = sx_1 Tryz.prog F 11 (cp [] (yaab Tryz.f125)) (ap [] zea_an) [(0, .slice x xL xC)] h (retK Tryz.prog Tryz.f125.results.toList K) := by kernel_rfl
theorem zea_call {x xL xC h K} (hk : zea_b0 x xL xC h K) : HC 125 #[.slice x xL xC] h K :=
 yaaa zea_an Tryz.func125 (c := yaab Tryz.f125) rfl Tryz.ntmps125 (lb rfl) (snd_1 F_ok yaad) (Eq.mp (zea_sx x xL xC h K) hk)
def zbu_an : Ann := .leaf
def zbu_b0 (nv : Int) (h : Hp) (K : VK) : Prop :=
 New h (.cells #[.int .i64 0, .int .i64 0, .slice none 0 0] 58) fun b1 h1 => Wr h1 ⟨b1, 0, none⟩ (.int .i64 0) fun h2 => Wr h2 ((⟨b1, 0, none⟩ : Addr).add 1) (.int .i64 nv) fun h3 => Wr h3 ((⟨b1, 0, none⟩ : Addr).add 2) (.slice none 0 0) fun h4 => ∃ r1 r2 r3 rL1 rC1, cell h4 ⟨b1, 0, none⟩ = some (.int .i64 r1) ∧ cell h4 ((⟨b1, 0, none⟩ : Addr).add 1) = some (.int .i64 r2) ∧ cell h4 ((⟨b1, 0, none⟩ : Addr).add 2) = some (.slice r3 rL1 rC1) ∧ K (.agg #[.int .i64 r1, .int .i64 r2, .slice r3 rL1 rC1]) h4
theorem zbu_sx (nv h K) : zbu_b0 nv h K = sx_1 Tryz.prog F 5 (cp [] (yaab Tryz.f126)) (ap [] zbu_an) [(0, .int .i64 nv)] h (retK Tryz.prog Tryz.f126.results.toList K) := by kernel_rfl
theorem zbu_call {nv h K} (hk : zbu_b0 nv h K) : HC 126 #[.int .i64 nv] h K :=
 yaaa zbu_an Tryz.func126 (c := yaab Tryz.f126) rfl Tryz.ntmps126 (lb rfl) (snd_1 F_ok yaad) (Eq.mp (zbu_sx nv h K) hk)
def zbo_an : Ann := .leaf
def zbo_b0 (e : Int) (h : Hp) (K : VK) : Prop :=
 New h (.cells #[.int .i64 0, .int .i64 0, .slice none 0 0] 58) fun b1 h1 => Wr h1 ⟨b1, 0, none⟩ (.int .i64 e) fun h2 => Wr h2 ((⟨b1, 0, none⟩ : Addr).add 1) (.int .i64 0) fun h3 => Wr h3 ((⟨b1, 0, none⟩ : Addr).add 2) (.slice none 0 0) fun h4 => ∃ r1 r2 r3 rL1 rC1, cell h4 ⟨b1, 0, none⟩ = some (.int .i64 r1) ∧ cell h4 ((⟨b1, 0, none⟩ : Addr).add 1) = some (.int .i64 r2) ∧ cell h4 ((⟨b1, 0, none⟩ : Addr).add 2) = some (.slice r3 rL1 rC1) ∧ K (.agg #[.int .i64 r1, .int .i64 r2, .slice r3 rL1 rC1]) h4
theorem zbo_sx (e h K) : zbo_b0 e h K = sx_1 Tryz.prog F 5 (cp [] (yaab Tryz.f127)) (ap [] zbo_an) [(0, .int .i64 e)] h (retK Tryz.prog Tryz.f127.results.toList K) := by kernel_rfl
theorem zbo_call {e h K} (hk : zbo_b0 e h K) : HC 127 #[.int .i64 e] h K :=
 yaaa zbo_an Tryz.func127 (c := yaab Tryz.f127) rfl Tryz.ntmps127 (lb rfl) (snd_1 F_ok yaad) (Eq.mp (zbo_sx e h K) hk)
def zbp_an : Ann := .leaf
def zbp_b0 (rows : OA) (rowsL rowsC : Nat) (key : OA) (keyL keyC : Nat) (h : Hp) (K : VK) : Prop :=
 HC 144 #[.slice rows rowsL rowsC, .slice key keyL keyC, .func (.func 145) #[] #[]] h fun v1 h1 => ∃ r1 r2, v1 = .tuple #[.int .i64 r1, .bool r2] ∧ K (.tuple #[.int .i64 r1, .bool r2]) h1
theorem zbp_sx (rows rowsL rowsC key keyL keyC h K) : zbp_b0 rows rowsL rowsC key keyL keyC h K = sx_1 Tryz.prog F 11 (cp [] (yaab Tryz.f128)) (ap [] zbp_an) [(0, .slice rows rowsL rowsC), (1, .slice key keyL keyC)] h (retK Tryz.prog Tryz.f128.results.toList K) := by kernel_rfl
theorem zbp_call {rows rowsL rowsC key keyL keyC h K} (hk : zbp_b0 rows rowsL rowsC key keyL keyC h K) : HC 128 #[.slice rows rowsL rowsC, .slice key keyL keyC] h K :=
 yaaa zbp_an Tryz.func128 (c := yaab Tryz.f128) rfl Tryz.ntmps128 (lb rfl) (snd_1 F_ok yaad) (Eq.mp (zbp_sx rows rowsL rowsC key keyL keyC h K) hk)
def zdy_an : Ann := N0 .leaf (N0 .leaf (N0 .leaf (N0 .leaf (N0 .leaf (N0 .leaf (N0 (N0 .leaf (N0 (N0 .leaf (N0 .leaf (N0 (.tail 8) .leaf))) .leaf)) (N0 .leaf (N0 (N0 .leaf (N0 (N0 (.tail 8) .leaf) .leaf)) .leaf))))))))
def zdy_b0 (s : OA) (sL sC : Nat) (i : Int) (v : OA) (vL vC : Nat) (h : Hp) (K : VK) : Prop :=
 (0 ≤ i ∧ i ≤ (sL : Int) ∧ (sL : Int) ≤ (sC : Int)) ∧ cond (decide ((vL : Int) = 0)) (K (.slice s sL sC) h) (cond (decide (i = (sL : Int))) (yaau Tryz.prog 22 22 (.slice s sL sC) (.slice v vL vC) h (slK fun a1 l1 c1 h1 => K (.slice a1 l1 c1) h1)) (InR ((sL : Int) + (vL : Int)) ∧ cond (decide ((sC : Int) < ((sL : Int) + (vL : Int)))) ((0 ≤ (0 : Int) ∧ (0 : Int) ≤ i ∧ i ≤ (sC : Int)) ∧ InR ((sL : Int) + (vL : Int)) ∧ InR (((sL : Int) + (vL : Int)) - i) ∧ yaau Tryz.prog 22 3 (.slice (yaak s sC (Int.toNat (0 : Int)) 1) (Int.toNat i - Int.toNat (0 : Int)) (sC - Int.toNat (0 : Int))) (.int .i64 (((sL : Int) + (vL : Int)) - i)) h (slK fun a2 l2 c2 h2 => (0 ≤ i ∧ i ≤ (l2 : Int) ∧ (l2 : Int)
 ≤ (c2 : Int)) ∧ copyV Tryz.prog 22 (.slice (yaak a2 c2 (Int.toNat i) 1) (Int.toNat (l2 : Int) - Int.toNat i) (c2 - Int.toNat i)) (.slice v vL vC) h2 fun v1 h3 => ∃ n1, v1 = .int .i64 n1 ∧ InR (i + (vL : Int)) ∧ (0 ≤ i + (vL : Int) ∧ i + (vL : Int) ≤ (l2 : Int) ∧ (l2 : Int) ≤ (c2 : Int)) ∧ (0 ≤ i ∧ i ≤ (sL : Int) ∧ (sL : Int) ≤ (sC : Int)) ∧ copyV Tryz.prog 22 (.slice (yaak a2 c2 (Int.toNat (i + (vL : Int))) 1) (Int.toNat (l2 : Int) - Int.toNat (i + (vL : Int))) (c2 - Int.toNat (i + (vL : Int)))) (.slice (yaak s sC (Int.toNat i) 1) (Int.toNat (sL : Int) - Int.toNat i) (sC - Int.toNat i)) h3 fun v2 h4 => ∃ n2, v2 = .int .i64 n2 ∧ K (.slice a2 l2 c2) h4)) (InR ((sL : Int) + (vL : Int))
 ∧ (0 ≤ (0 : Int) ∧ (0 : Int) ≤ (sL : Int) + (vL : Int) ∧ (sL : Int) + (vL : Int) ≤ (sC : Int)) ∧ InR (i + (vL : Int)) ∧ (0 ≤ i + (vL : Int) ∧ i + (vL : Int) ≤ ((Int.toNat ((sL : Int) + (vL : Int)) - Int.toNat (0 : Int) : Nat) : Int) ∧ ((Int.toNat ((sL : Int) + (vL : Int)) - Int.toNat (0 : Int) : Nat) : Int) ≤ ((sC - Int.toNat (0 : Int) : Nat) : Int)) ∧ yajc Tryz.prog 146 #[.slice v vL vC, .slice (yaak (yaak s sC (Int.toNat (0 : Int)) 1) (sC - Int.toNat (0 : Int)) (Int.toNat (i + (vL : Int))) 1) (Int.toNat ((Int.toNat ((sL : Int) + (vL : Int)) - Int.toNat (0 : Int) : Nat) : Int) - Int.toNat (i + (vL : Int))) ((sC - Int.toNat (0 : Int)) - Int.toNat (i + (vL : Int)))] h fun v3 => ∃ r1,
 v3 = .bool r1 ∧ cond (!r1) (InR (i + (vL : Int)) ∧ (0 ≤ i + (vL : Int) ∧ i + (vL : Int) ≤ ((Int.toNat ((sL : Int) + (vL : Int)) - Int.toNat (0 : Int) : Nat) : Int) ∧ ((Int.toNat ((sL : Int) + (vL : Int)) - Int.toNat (0 : Int) : Nat) : Int) ≤ ((sC - Int.toNat (0 : Int) : Nat) : Int)) ∧ (0 ≤ i ∧ i ≤ ((Int.toNat ((sL : Int) + (vL : Int)) - Int.toNat (0 : Int) : Nat) : Int) ∧ ((Int.toNat ((sL : Int) + (vL : Int)) - Int.toNat (0 : Int) : Nat) : Int) ≤ ((sC - Int.toNat (0 : Int) : Nat) : Int)) ∧ copyV Tryz.prog 22 (.slice (yaak (yaak s sC (Int.toNat (0 : Int)) 1) (sC - Int.toNat (0 : Int)) (Int.toNat (i + (vL : Int))) 1) (Int.toNat ((Int.toNat ((sL : Int) + (vL : Int)) - Int.toNat (0 : Int)
 : Nat) : Int) - Int.toNat (i + (vL : Int))) ((sC - Int.toNat (0 : Int)) - Int.toNat (i + (vL : Int)))) (.slice (yaak (yaak s sC (Int.toNat (0 : Int)) 1) (sC - Int.toNat (0 : Int)) (Int.toNat i) 1) (Int.toNat ((Int.toNat ((sL : Int) + (vL : Int)) - Int.toNat (0 : Int) : Nat) : Int) - Int.toNat i) ((sC - Int.toNat (0 : Int)) - Int.toNat i)) h fun v4 h6 => ∃ n3, v4 = .int .i64 n3 ∧ (0 ≤ i ∧ i ≤ ((Int.toNat ((sL : Int) + (vL : Int)) - Int.toNat (0 : Int) : Nat) : Int) ∧ ((Int.toNat ((sL : Int) + (vL : Int)) - Int.toNat (0 : Int) : Nat) : Int) ≤ ((sC - Int.toNat (0 : Int) : Nat) : Int)) ∧ copyV Tryz.prog 22 (.slice (yaak (yaak s sC (Int.toNat (0 : Int)) 1) (sC - Int.toNat (0 : Int))
 (Int.toNat i) 1) (Int.toNat ((Int.toNat ((sL : Int) + (vL : Int)) - Int.toNat (0 : Int) : Nat) : Int) - Int.toNat i) ((sC - Int.toNat (0 : Int)) - Int.toNat i)) (.slice v vL vC) h6 fun v5 h7 => ∃ n4, v5 = .int .i64 n4 ∧ K (.slice (yaak s sC (Int.toNat (0 : Int)) 1) (Int.toNat ((sL : Int) + (vL : Int)) - Int.toNat (0 : Int)) (sC - Int.toNat (0 : Int))) h7) ((0 ≤ (sL : Int) ∧ (sL : Int) ≤ ((Int.toNat ((sL : Int) + (vL : Int)) - Int.toNat (0 : Int) : Nat) : Int) ∧ ((Int.toNat ((sL : Int) + (vL : Int)) - Int.toNat (0 : Int) : Nat) : Int) ≤ ((sC - Int.toNat (0 : Int) : Nat) : Int)) ∧ copyV Tryz.prog 22 (.slice (yaak (yaak s sC (Int.toNat (0 : Int)) 1) (sC - Int.toNat (0 : Int))
 (Int.toNat (sL : Int)) 1) (Int.toNat ((Int.toNat ((sL : Int) + (vL : Int)) - Int.toNat (0 : Int) : Nat) : Int) - Int.toNat (sL : Int)) ((sC - Int.toNat (0 : Int)) - Int.toNat (sL : Int))) (.slice v vL vC) h fun v6 h8 => ∃ n5, v6 = .int .i64 n5 ∧ (0 ≤ i ∧ i ≤ ((Int.toNat ((sL : Int) + (vL : Int)) - Int.toNat (0 : Int) : Nat) : Int) ∧ ((Int.toNat ((sL : Int) + (vL : Int)) - Int.toNat (0 : Int) : Nat) : Int) ≤ ((sC - Int.toNat (0 : Int) : Nat) : Int)) ∧ HC 147 #[.slice (yaak (yaak s sC (Int.toNat (0 : Int)) 1) (sC - Int.toNat (0 : Int)) (Int.toNat i) 1) (Int.toNat ((Int.toNat ((sL : Int) + (vL : Int)) - Int.toNat (0 : Int) : Nat) : Int) - Int.toNat i) ((sC - Int.toNat (0 :
 Int)) - Int.toNat i), .int .i64 (vL : Int)] h8 fun v7 h9 => v7 = .tuple #[] ∧ K (.slice (yaak s sC (Int.toNat (0 : Int)) 1) (Int.toNat ((sL : Int) + (vL : Int)) - Int.toNat (0 : Int)) (sC - Int.toNat (0 : Int))) h9))))
theorem zdy_sx (s sL sC i v vL vC h K) : zdy_b0 s sL sC i v vL vC h K = sx_1 Tryz.prog F 95 (cp [] (yaab Tryz.f129)) (ap [] zdy_an) [(0, .slice s sL sC), (1, .int .i64 i), (2, .slice v vL vC)] h (retK Tryz.prog Tryz.f129.results.toList K) := by kernel_rfl
theorem zdy_call {s sL sC i v vL vC h K} (hk : zdy_b0 s sL sC i v vL vC h K) : HC 129 #[.slice s sL sC, .int .i64 i, .slice v vL vC] h K :=
 yaaa zdy_an Tryz.func129 (c := yaab Tryz.f129) rfl Tryz.ntmps129 (lb rfl) (snd_1 F_ok yaad) (Eq.mp (zdy_sx s sL sC i v vL vC h K) hk)
def zdt_an : Ann := N0 .leaf (N0 .leaf (N0 .leaf (N0 .leaf (N0 (.tail 6) .leaf))))
def zdt_b0 (s : OA) (sL sC : Nat) (i j : Int) (h : Hp) (K : VK) : Prop :=
 ∃ a1 l1 c1, slC Tryz.prog 22 (.slice s sL sC) (some (.int .i64 i)) (some (.int .i64 j)) (.int .i64 (sL : Int)) h a1 l1 c1 ∧ cond (decide (i = j)) (K (.slice s sL sC) h) ((0 ≤ (0 : Int) ∧ (0 : Int) ≤ i ∧ i ≤ (sC : Int)) ∧ (0 ≤ j ∧ j ≤ (sL : Int) ∧ (sL : Int) ≤ (sC : Int)) ∧ yaau Tryz.prog 22 22 (.slice (yaak s sC (Int.toNat (0 : Int)) 1) (Int.toNat i - Int.toNat (0 : Int)) (sC - Int.toNat (0 : Int))) (.slice (yaak s sC (Int.toNat j) 1) (Int.toNat (sL : Int) - Int.toNat j) (sC - Int.toNat j)) h (slK fun a2 l2 c2 h1 => (0 ≤ (l2 : Int) ∧ (l2 : Int) ≤ (sL : Int) ∧ (sL : Int) ≤ (c2 : Int)) ∧ yahw Tryz.prog 22 (.slice (yaak a2 c2 (Int.toNat (l2 : Int)) 1) (Int.toNat (sL : Int) -
 Int.toNat (l2 : Int)) (c2 - Int.toNat (l2 : Int))) h1 fun h2 => K (.slice a2 l2 c2) h2))
theorem zdt_sx (s sL sC i j h K) : zdt_b0 s sL sC i j h K = sx_1 Tryz.prog F 33 (cp [] (yaab Tryz.f130)) (ap [] zdt_an) [(0, .slice s sL sC), (1, .int .i64 i), (2, .int .i64 j)] h (retK Tryz.prog Tryz.f130.results.toList K) := by kernel_rfl
theorem zdt_call {s sL sC i j h K} (hk : zdt_b0 s sL sC i j h K) : HC 130 #[.slice s sL sC, .int .i64 i, .int .i64 j] h K :=
 yaaa zdt_an Tryz.func130 (c := yaab Tryz.f130) rfl Tryz.ntmps130 (lb rfl) (snd_1 F_ok yaad) (Eq.mp (zdt_sx s sL sC i j h K) hk)
def zdz_an : Ann := N0 .leaf (.loop [0] [(2, .int .i64), (3, .int .i64)] (N0 .leaf (.node (some [0, 2, 3]) (.plan (.qu 0 (.qu 1 (.qu 2 (.qu 3 (.qu 4 (.qu 5 (.qu 6 (.qu 7 (.qu 8 (.qu 9 (.qu 10 (.qu 11 (.qu 12 (.wo 13 (.qu 14 (.wo 15 .fin .no)) .no))))))))))))))) .leaf)))
def zdz_b2 (s : OA) (sL sC : Nat) (i j : Int) (h : Hp) (nx0 : Int × Int × Unit → Hp → Prop) (K : VK) : Prop :=
 InR (i + 1) ∧ InR (j - 1) ∧ nx0 (i + 1, j - 1, ()) h
def zdz_b1 (i j : Int) (s : OA) (sL sC : Nat) (h : Hp) (nx0 : Int × Int × Unit → Hp → Prop) (K : VK) : Prop :=
 cond (decide (i < j)) ((0 ≤ j ∧ j < (sL : Int)) ∧ NN s fun a1 => ∃ a2 L1 C1, cell h (a1.add (Int.toNat j * 1)) = some (.slice a2 L1 C1) ∧ (0 ≤ i ∧ i < (sL : Int)) ∧ NN s fun a3 => ∃ a4 L2 C2, cell h (a3.add (Int.toNat i * 1)) = some (.slice a4 L2 C2) ∧ (0 ≤ i ∧ i < (sL : Int)) ∧ NN s fun a5 => Wr h (a5.add (Int.toNat i * 1)) (.slice a2 L1 C1) fun h2 => (0 ≤ j ∧ j < (sL : Int)) ∧ NN s fun a6 => Wr h2 (a6.add (Int.toNat j * 1)) (.slice a4 L2 C2) fun h3 => zdz_b2 s sL sC i j h3 nx0 K) (K (.tuple #[]) h)
def zdz_b0 (s : OA) (sL sC : Nat) (h : Hp) (K : VK) : Prop :=
 InR ((sL : Int) - 1) ∧ yaaq ((0, (sL : Int) - 1, ()) : Int × Int × Unit) h (fun (nx0 : Int × Int × Unit → Hp → Prop) (s1 : Int × Int × Unit) h1 => zdz_b1 s1.1 s1.2.1 s sL sC h1 nx0 K)
theorem zdz_sx (s sL sC h K) : zdz_b0 s sL sC h K = sx_3 Tryz.prog F 28 (cp [] (yaab Tryz.f131)) (ap [] zdz_an) [(0, .slice s sL sC)] h (retK Tryz.prog Tryz.f131.results.toList K) := by kernel_rfl
theorem zdz_call {s sL sC h K} (hk : zdz_b0 s sL sC h K) : HC 131 #[.slice s sL sC] h K :=
 yaaa zdz_an Tryz.func131 (c := yaab Tryz.f131) rfl Tryz.ntmps131 (lb rfl) (snd_3 F_ok yaad) (Eq.mp (zdz_sx s sL sC h K) hk)
def zbk_an : Ann := .leaf
def zbk_b0 (rows : OA) (rowsL rowsC : Nat) (a : Int) (h : Hp) (K : VK) : Prop :=
 New h (.cells #[.int .i64 a] 3) fun b1 h1 => HC 65 #[.slice rows rowsL rowsC, .func (.func 148) #[] #[.pointer (some ⟨b1, 0, none⟩)]] h1 fun v1 h2 => ∃ r1, v1 = .int .i64 r1 ∧ K (.int .i64 r1) h2
theorem zbk_sx (rows rowsL rowsC a h K) : zbk_b0 rows rowsL rowsC a h K = sx_1 Tryz.prog F 8 (cp [] (yaab Tryz.f132)) (ap [] zbk_an) [(0, .slice rows rowsL rowsC), (1, .int .i64 a)] h (retK Tryz.prog Tryz.f132.results.toList K) := by kernel_rfl
theorem zbk_call {rows rowsL rowsC a h K} (hk : zbk_b0 rows rowsL rowsC a h K) : HC 132 #[.slice rows rowsL rowsC, .int .i64 a] h K :=
 yaaa zbk_an Tryz.func132 (c := yaab Tryz.f132) rfl Tryz.ntmps132 (lb rfl) (snd_1 F_ok yaad) (Eq.mp (zbk_sx rows rowsL rowsC a h K) hk)
def zby_an : Ann := .leaf
def zby_b0 (b : Bool) (h : Hp) (K : VK) : Prop :=
 cond b (K (.int .i64 1) h) (K (.int .i64 0) h)
theorem zby_sx (b h K) : zby_b0 b h K = sx_1 Tryz.prog F 4 (cp [] (yaab Tryz.f133)) (ap [] zby_an) [(0, .bool b)] h (retK Tryz.prog Tryz.f133.results.toList K) := by kernel_rfl
theorem zby_call {b h K} (hk : zby_b0 b h K) : HC 133 #[.bool b] h K :=
 yaaa zby_an Tryz.func133 (c := yaab Tryz.f133) rfl Tryz.ntmps133 (lb rfl) (snd_1 F_ok yaad) (Eq.mp (zby_sx b h K) hk)
def zcm_an : Ann := N0 .leaf (.node (some []) .leaf .leaf)
def zcm_b1 (h : Hp) (K : VK) : Prop :=
 K (.slice none 0 0) h
def zcm_b0 (kind : Int) (h : Hp) (K : VK) : Prop :=
 cond (decide (kind = 1)) (New h (.cells #[.string (⟨#[112, 117, 116]⟩ : ByteArray), .string (⟨#[103, 101, 116]⟩ : ByteArray), .string (⟨#[114, 101, 109, 111, 118, 101]⟩ : ByteArray), .string (⟨#[102, 108, 111, 111, 114]⟩ : ByteArray), .string (⟨#[99, 101, 105, 108, 105, 110, 103]⟩ : ByteArray), .string (⟨#[114, 97, 110, 107]⟩ : ByteArray), .string (⟨#[115, 101, 108, 101, 99, 116]⟩ : ByteArray), .string (⟨#[115, 105, 122, 101]⟩ : ByteArray)] 9) fun b1 h1 => K (.slice (some ⟨b1, 0, none⟩) 8 8) h1) (cond (decide (kind = 2)) (New h (.cells #[.string (⟨#[105, 110, 115, 101, 114, 116]⟩ : ByteArray), .string (⟨#[109, 105, 110]⟩ : ByteArray), .string (⟨#[100, 101, 108, 101, 116, 101, 109, 105, 110]⟩
 : ByteArray), .string (⟨#[115, 105, 122, 101]⟩ : ByteArray)] 9) fun b2 h2 => K (.slice (some ⟨b2, 0, none⟩) 4 4) h2) (cond (decide (kind = 3)) (New h (.cells #[.string (⟨#[105, 110, 115, 101, 114, 116]⟩ : ByteArray), .string (⟨#[114, 101, 109, 111, 118, 101]⟩ : ByteArray), .string (⟨#[103, 101, 116]⟩ : ByteArray), .string (⟨#[115, 101, 116]⟩ : ByteArray), .string (⟨#[115, 117, 109]⟩ : ByteArray), .string (⟨#[114, 101, 118, 101, 114, 115, 101]⟩ : ByteArray), .string (⟨#[115, 105, 122, 101]⟩ : ByteArray)] 9) fun b3 h3 => K (.slice (some ⟨b3, 0, none⟩) 7 7) h3) (cond (decide (kind = 4)) (New h (.cells #[.string (⟨#[109, 97, 107, 101]⟩ : ByteArray), .string (⟨#[117, 110, 105, 111, 110]⟩ :
 ByteArray), .string (⟨#[115, 97, 109, 101]⟩ : ByteArray), .string (⟨#[115, 105, 122, 101]⟩ : ByteArray), .string (⟨#[99, 111, 117, 110, 116]⟩ : ByteArray)] 9) fun b4 h4 => K (.slice (some ⟨b4, 0, none⟩) 5 5) h4) (cond (decide (kind = 5)) (New h (.cells #[.string (⟨#[97, 100, 100]⟩ : ByteArray), .string (⟨#[114, 101, 109, 111, 118, 101]⟩ : ByteArray), .string (⟨#[99, 111, 117, 110, 116]⟩ : ByteArray), .string (⟨#[115, 117, 109]⟩ : ByteArray), .string (⟨#[115, 105, 122, 101]⟩ : ByteArray)] 9) fun b5 h5 => K (.slice (some ⟨b5, 0, none⟩) 5 5) h5) (cond (decide (kind = 6)) (New h (.cells #[.string (⟨#[97, 112, 112, 101, 110, 100]⟩ : ByteArray), .string (⟨#[99, 111, 117, 110, 116]⟩ : ByteArray),
 .string (⟨#[102, 105, 110, 100]⟩ : ByteArray), .string (⟨#[115, 105, 122, 101]⟩ : ByteArray)] 9) fun b6 h6 => K (.slice (some ⟨b6, 0, none⟩) 4 4) h6) (zcm_b1  h K))))))
theorem zcm_sx (kind h K) : zcm_b0 kind h K = sx_2 Tryz.prog F 22 (cp [] (yaab Tryz.f135)) (ap [] zcm_an) [(0, .int .i64 kind)] h (retK Tryz.prog Tryz.f135.results.toList K) := by kernel_rfl
theorem zcm_call {kind h K} (hk : zcm_b0 kind h K) : HC 135 #[.int .i64 kind] h K :=
 yaaa zcm_an Tryz.func135 (c := yaab Tryz.f135) rfl Tryz.ntmps135 (lb rfl) (snd_2 F_ok yaad) (Eq.mp (zcm_sx kind h K) hk)
def zce_an : Ann := N0 .leaf (.node (some [1]) .leaf .leaf)
def zce_b1 (code : Int) (h : Hp) (K : VK) : Prop :=
 New h (.cells #[.int .i64 (-1), .int .i64 (-1), .int .i64 (-1), .int .i64 0] 3) fun b6 h6 => InR (code - 1) ∧ (0 ≤ code - 1 ∧ code - 1 < ((4 : Nat) : Int)) ∧ ∃ n6, cell h6 ((⟨b6, 0, none⟩ : Addr).add (Int.toNat (code - 1) * 1)) = some (.int .i64 n6) ∧ K (.int .i64 n6) h6
def zce_b0 (kind code : Int) (h : Hp) (K : VK) : Prop :=
 cond (decide (kind = 1)) (New h (.cells #[.int .i64 2, .int .i64 1, .int .i64 1, .int .i64 1, .int .i64 1, .int .i64 1, .int .i64 1, .int .i64 0] 3) fun b1 h1 => InR (code - 1) ∧ (0 ≤ code - 1 ∧ code - 1 < ((8 : Nat) : Int)) ∧ ∃ n1, cell h1 ((⟨b1, 0, none⟩ : Addr).add (Int.toNat (code - 1) * 1)) = some (.int .i64 n1) ∧ K (.int .i64 n1) h1) (cond (decide (kind = 2)) (New h (.cells #[.int .i64 1, .int .i64 0, .int .i64 0, .int .i64 0] 3) fun b2 h2 => InR (code - 1) ∧ (0 ≤ code - 1 ∧ code - 1 < ((4 : Nat) : Int)) ∧ ∃ n2, cell h2 ((⟨b2, 0, none⟩ : Addr).add (Int.toNat (code - 1) * 1)) = some (.int .i64 n2) ∧ K (.int .i64 n2) h2) (cond (decide (kind = 3)) (New h (.cells #[.int .i64 2, .int .i64
 1, .int .i64 1, .int .i64 2, .int .i64 2, .int .i64 2, .int .i64 0] 3) fun b3 h3 => InR (code - 1) ∧ (0 ≤ code - 1 ∧ code - 1 < ((7 : Nat) : Int)) ∧ ∃ n3, cell h3 ((⟨b3, 0, none⟩ : Addr).add (Int.toNat (code - 1) * 1)) = some (.int .i64 n3) ∧ K (.int .i64 n3) h3) (cond (decide (kind = 4)) (New h (.cells #[.int .i64 0, .int .i64 2, .int .i64 2, .int .i64 1, .int .i64 0] 3) fun b4 h4 => InR (code - 1) ∧ (0 ≤ code - 1 ∧ code - 1 < ((5 : Nat) : Int)) ∧ ∃ n4, cell h4 ((⟨b4, 0, none⟩ : Addr).add (Int.toNat (code - 1) * 1)) = some (.int .i64 n4) ∧ K (.int .i64 n4) h4) (cond (decide (kind = 5)) (New h (.cells #[.int .i64 3, .int .i64 2, .int .i64 4, .int .i64 4, .int .i64 0] 3) fun b5 h5 => InR
 (code - 1) ∧ (0 ≤ code - 1 ∧ code - 1 < ((5 : Nat) : Int)) ∧ ∃ n5, cell h5 ((⟨b5, 0, none⟩ : Addr).add (Int.toNat (code - 1) * 1)) = some (.int .i64 n5) ∧ K (.int .i64 n5) h5) (zce_b1 code h K)))))
theorem zce_sx (kind code h K) : zce_b0 kind code h K = sx_2 Tryz.prog F 46 (cp [] (yaab Tryz.f136)) (ap [] zce_an) [(0, .int .i64 kind), (1, .int .i64 code)] h (retK Tryz.prog Tryz.f136.results.toList K) := by kernel_rfl
theorem zce_call {kind code h K} (hk : zce_b0 kind code h K) : HC 136 #[.int .i64 kind, .int .i64 code] h K :=
 yaaa zce_an Tryz.func136 (c := yaab Tryz.f136) rfl Tryz.ntmps136 (lb rfl) (snd_2 F_ok yaad) (Eq.mp (zce_sx kind code h K) hk)
def zeh_an : Ann := .leaf
def zeh_b0 (length : Int) (h : Hp) (K : VK) : Prop :=
 HC 82 #[.int .u64 (IntKind.u64.wrap length)] h fun v1 h1 => ∃ r1, v1 = .int .i64 r1 ∧ ∃ sl1, Sx.Shl .u64 1 r1 sl1 ∧ K (.int .u64 sl1) h1
theorem zeh_sx (length h K) : zeh_b0 length h K = sx_1 Tryz.prog F 7 (cp [] (yaab Tryz.f138)) (ap [] zeh_an) [(0, .int .i64 length)] h (retK Tryz.prog Tryz.f138.results.toList K) := by kernel_rfl
theorem zeh_call {length h K} (hk : zeh_b0 length h K) : HC 138 #[.int .i64 length] h K :=
 yaaa zeh_an Tryz.func138 (c := yaab Tryz.f138) rfl Tryz.ntmps138 (lb rfl) (snd_1 F_ok yaad) (Eq.mp (zeh_sx length h K) hk)
def zep_an : Ann := N0 .leaf (N0 (.tail 9) (N0 (.tail 9) (N0 (.tail 9) .leaf)))
def zep_b0 (r : OA) (h : Hp) (K : VK) : Prop :=
 NN r fun a1 => ∃ n1, cell h a1 = some (.int .u64 n1) ∧ NN r fun a2 => ∃ n2, cell h a2 = some (.int .u64 n2) ∧ ∃ sl1, Sx.Shl .u64 n2 13 sl1 ∧ ∃ xo1, Sx.Xor .u64 n1 sl1 xo1 ∧ NN r fun a3 => Wr h a3 (.int .u64 xo1) fun h1 => NN r fun a4 => ∃ n3, cell h1 a4 = some (.int .u64 n3) ∧ NN r fun a5 => ∃ n4, cell h1 a5 = some (.int .u64 n4) ∧ ∃ sr1, Sx.Shr .u64 n4 7 sr1 ∧ ∃ xo2, Sx.Xor .u64 n3 sr1 xo2 ∧ NN r fun a6 => Wr h1 a6 (.int .u64 xo2) fun h2 => NN r fun a7 => ∃ n5, cell h2 a7 = some (.int .u64 n5) ∧ NN r fun a8 => ∃ n6, cell h2 a8 = some (.int .u64 n6) ∧ ∃ sl2, Sx.Shl .u64 n6 17 sl2 ∧ ∃ xo3, Sx.Xor .u64 n5 sl2 xo3 ∧ NN r fun a9 => Wr h2 a9 (.int .u64 xo3) fun h3 => NN r fun a10 => ∃ n7, cell h3
 a10 = some (.int .u64 n7) ∧ K (.int .u64 n7) h3
theorem zep_sx (r h K) : zep_b0 r h K = sx_1 Tryz.prog F 33 (cp [] (yaab Tryz.f139)) (ap [] zep_an) [(0, .pointer r)] h (retK Tryz.prog Tryz.f139.results.toList K) := by kernel_rfl
theorem zep_call {r h K} (hk : zep_b0 r h K) : HC 139 #[.pointer r] h K :=
 yaaa zep_an Tryz.func139 (c := yaab Tryz.f139) rfl Tryz.ntmps139 (lb rfl) (snd_1 F_ok yaad) (Eq.mp (zep_sx r h K) hk)
def zab_an : Ann := .leaf
def zab_b0 (x y : Int) (h : Hp) (K : VK) : Prop :=
 HC 152 #[.int .i64 x] h fun v1 h1 => ∃ r1, v1 = .bool r1 ∧ HC 152 #[.int .i64 y] h1 fun v2 h2 => ∃ r2, v2 = .bool r2 ∧ cond r1 (cond r2 (K (.int .i64 0) h2) (K (.int .i64 (-1)) h2)) (cond r2 (K (.int .i64 1) h2) (cond (decide (x < y)) (K (.int .i64 (-1)) h2) (cond (decide (y < x)) (K (.int .i64 1) h2) (K (.int .i64 0) h2))))
theorem zab_sx (x y h K) : zab_b0 x y h K = sx_1 Tryz.prog F 20 (cp [] (yaab Tryz.f142)) (ap [] zab_an) [(0, .int .i64 x), (1, .int .i64 y)] h (retK Tryz.prog Tryz.f142.results.toList K) := by kernel_rfl
theorem zab_call {x y h K} (hk : zab_b0 x y h K) : HC 142 #[.int .i64 x, .int .i64 y] h K :=
 yaaa zab_an Tryz.func142 (c := yaab Tryz.f142) rfl Tryz.ntmps142 (lb rfl) (snd_1 F_ok yaad) (Eq.mp (zab_sx x y h K) hk)
