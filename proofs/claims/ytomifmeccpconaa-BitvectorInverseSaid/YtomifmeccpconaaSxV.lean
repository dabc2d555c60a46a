/- Plain statements of what each block of code of this seat asks; printed by a program, checked by Lean. -/
import Derived.Test.YtomifmeccpconaaSxI2
import Derived.Test.YtomifmeccpconaaSxJ
import Derived.Test.YtomifmeccpconaaProg
import Derived.KernelRfl
namespace Go.Proofs.Ytomifmeccpconaa
open Go Go.Sx
def F (g : Nat) : Bool := memL g [9,10,11,12,13,14,15,16,17,18,19,20,21,22,23,24,25,26,27,28,29,30,31,32,33,34,35,36,37,38,39,40,41]
theorem F_all : allL (callableB Try.prog) [9,10,11,12,13,14,15,16,17,18,19,20,21,22,23,24,25,26,27,28,29,30,31,32,33,34,35,36,37,38,39,40,41] = true := by kernel_rfl
theorem F_ok : ∀ g, F g = true → Callable Try.prog g := fun g hg => callableB_spec (allL_spec F_all g (memL_spec hg))
theorem F_mixed : Try.prog.follows .mixedOrders = true := by kernel_rfl


/-! ### ones64 -/
def ones64_an : Ann := .leaf
def ones64_K0  (K : Value → Hp → Prop) : Exit → Env → Hp → Prop := retK Try.prog Try.f39.results.toList K
def ones64_b0 (x : Int) (h : Hp)  (K : Value → Hp → Prop) : Prop :=
  sx_1 Try.prog F 35 (cp [] (bodyOf Try.f39)) (ap [] ones64_an) [(0, .int .u64 x)] h (ones64_K0  K)
theorem ones64_b0_eq (x : Int) (h : Hp)  (K : Value → Hp → Prop) : ones64_b0 x h  K = (
  ∃ sr1 : Int, Sx.Shr .u64 x 1 sr1 ∧
  ∃ an1 : Int, Sx.And .u64 sr1 6148914691236517205 an1 ∧
  ∃ an2 : Int, Sx.And .u64 x 6148914691236517205 an2 ∧
  ∃ sr2 : Int, Sx.Shr .u64 (IntKind.u64.wrap (an1 + an2)) 2 sr2 ∧
  ∃ an3 : Int, Sx.And .u64 sr2 3689348814741910323 an3 ∧
  ∃ an4 : Int, Sx.And .u64 (IntKind.u64.wrap (an1 + an2)) 3689348814741910323 an4 ∧
  ∃ sr3 : Int, Sx.Shr .u64 (IntKind.u64.wrap (an3 + an4)) 4 sr3 ∧
  ∃ an5 : Int, Sx.And .u64 (IntKind.u64.wrap (sr3 + (IntKind.u64.wrap (an3 + an4)))) 1085102592571150095 an5 ∧
  ∃ sr4 : Int, Sx.Shr .u64 an5 8 sr4 ∧
  ∃ sr5 : Int, Sx.Shr .u64 (IntKind.u64.wrap (an5 + sr4)) 16 sr5 ∧
  ∃ sr6 : Int, Sx.Shr .u64 (IntKind.u64.wrap ((IntKind.u64.wrap (an5 + sr4)) + sr5)) 32 sr6 ∧
  InR (IntKind.u64.wrap ((IntKind.u64.wrap ((IntKind.u64.wrap (an5 + sr4)) + sr5)) + sr6)) ∧
  ∃ an6 : Int, Sx.And .i64 (IntKind.u64.wrap ((IntKind.u64.wrap ((IntKind.u64.wrap (an5 + sr4)) + sr5)) + sr6)) 127 an6 ∧
  K (.int .i64 an6) h) := by kernel_rfl
theorem ones64_call {x : Int} {h : Hp} {K : Value → Hp → Prop} (hk : ones64_b0 x h K) : HCalls Try.prog 39 #[.int .u64 x] h K :=
  calls_of_snd ones64_an Try.func39 (c := bodyOf Try.f39) rfl Try.ntmps39 (Nat.le_of_ble_eq_true rfl) (snd_1 F_ok F_mixed) hk

/-! ### ones -/
def ones_an : Ann := .node none (.leaf) (.node none (.leaf) (.node (some [5]) (.leaf) (.leaf)))
def ones_K0  (K : Value → Hp → Prop) : Exit → Env → Hp → Prop := retK Try.prog Try.f40.results.toList K
def ones_b0 (v : Option Addr) (i : Int) (h : Hp)  (K : Value → Hp → Prop) : Prop :=
  sx_2 Try.prog F 34 (cp [] (bodyOf Try.f40)) (ap [] ones_an) [(0, .pointer v), (1, .int .i64 i)] h (ones_K0  K)
def ones_b1 (nv : Int) (h : Hp)  (K : Value → Hp → Prop) : Prop :=
  sx_1 Try.prog F 34 (cp [1, 1, 1] (bodyOf Try.f40)) (ap [1, 1, 1] ones_an) [(5, .int .i64 nv)] h (ones_K0  K)
theorem ones_b0_eq (v : Option Addr) (i : Int) (h : Hp)  (K : Value → Hp → Prop) : ones_b0 v i h  K = (
  NN v fun a1 =>
  ∃ (a2 : Option Addr) (L1 C1 : Nat), cell h (a1.add 2) = some (.slice a2 L1 C1) ∧
  ∃ q1 : Int, Sx.Quo .i64 i 64 q1 ∧
  (0 ≤ q1 ∧ q1 < (L1 : Int)) ∧
  NN a2 fun a3 =>
  ∃ n1 : Int, cell h (a3.add (Int.toNat q1 * 1)) = some (.int .i64 n1) ∧
  ∃ r1 : Int, Sx.Rem i 64 r1 ∧
  cond (decide ((0 : Int) < r1))
  (NN v fun a4 =>
  ∃ (a5 : Option Addr) (L2 C2 : Nat), cell h (a4.add 1) = some (.slice a5 L2 C2) ∧
  ∃ q2 : Int, Sx.Quo .i64 i 64 q2 ∧
  (0 ≤ q2 ∧ q2 < (L2 : Int)) ∧
  NN a5 fun a6 =>
  ∃ n2 : Int, cell h (a6.add (Int.toNat q2 * 1)) = some (.int .u64 n2) ∧
  ∃ r2 : Int, Sx.Rem i 64 r2 ∧
  ∃ sl1 : Int, Sx.Shl .u64 1 r2 sl1 ∧
  ∃ an1 : Int, Sx.And .u64 n2 (IntKind.u64.wrap (sl1 - 1)) an1 ∧
  ∃ r3 : Int, HCalls Try.prog 39 #[.int .u64 an1] h (fun v1 h1 => v1 = .int .i64 r3 ∧ h1 = h) ∧
  InR (n1 + r3) ∧
  ones_b1 (n1 + r3) h  K)
  (ones_b1 n1 h  K)) := by kernel_rfl
theorem ones_b1_eq (nv : Int) (h : Hp)  (K : Value → Hp → Prop) : ones_b1 nv h  K = (
  K (.int .i64 nv) h) := by kernel_rfl
theorem ones_call {v : Option Addr} {i : Int} {h : Hp} {K : Value → Hp → Prop} (hk : ones_b0 v i h K) : HCalls Try.prog 40 #[.pointer v, .int .i64 i] h K :=
  calls_of_snd ones_an Try.func40 (c := bodyOf Try.f40) rfl Try.ntmps40 (Nat.le_of_ble_eq_true rfl) (snd_2 F_ok F_mixed) hk

/-! ### rank -/
def rank_an : Ann := .leaf
def rank_K0  (K : Value → Hp → Prop) : Exit → Env → Hp → Prop := retK Try.prog Try.f34.results.toList K
def rank_b0 (v : Option Addr) (bit : Bool) (i : Int) (h : Hp)  (K : Value → Hp → Prop) : Prop :=
  sx_1 Try.prog F 16 (cp [] (bodyOf Try.f34)) (ap [] rank_an) [(0, .pointer v), (1, .bool bit), (2, .int .i64 i)] h (rank_K0  K)
theorem rank_b0_eq (v : Option Addr) (bit : Bool) (i : Int) (h : Hp)  (K : Value → Hp → Prop) : rank_b0 v bit i h  K = (
  HCalls Try.prog 40 #[.pointer v, .int .i64 i] h fun v1 h1 => ∃ r1 : Int, v1 = .int .i64 r1 ∧
  cond bit
  (K (.int .i64 r1) h1)
  (InR (i - r1) ∧
  K (.int .i64 (i - r1)) h1)) := by kernel_rfl
theorem rank_call {v : Option Addr} {bit : Bool} {i : Int} {h : Hp} {K : Value → Hp → Prop} (hk : rank_b0 v bit i h K) : HCalls Try.prog 34 #[.pointer v, .bool bit, .int .i64 i] h K :=
  calls_of_snd rank_an Try.func34 (c := bodyOf Try.f34) rfl Try.ntmps34 (Nat.le_of_ble_eq_true rfl) (snd_1 F_ok F_mixed) hk

/-! ### get -/
def get_an : Ann := .leaf
def get_K0  (K : Value → Hp → Prop) : Exit → Env → Hp → Prop := retK Try.prog Try.f37.results.toList K
def get_b0 (v : Option Addr) (i : Int) (h : Hp)  (K : Value → Hp → Prop) : Prop :=
  sx_1 Try.prog F 18 (cp [] (bodyOf Try.f37)) (ap [] get_an) [(0, .pointer v), (1, .int .i64 i)] h (get_K0  K)
theorem get_b0_eq (v : Option Addr) (i : Int) (h : Hp)  (K : Value → Hp → Prop) : get_b0 v i h  K = (
  NN v fun a1 =>
  ∃ (a2 : Option Addr) (L1 C1 : Nat), cell h (a1.add 1) = some (.slice a2 L1 C1) ∧
  ∃ q1 : Int, Sx.Quo .i64 i 64 q1 ∧
  (0 ≤ q1 ∧ q1 < (L1 : Int)) ∧
  NN a2 fun a3 =>
  ∃ n1 : Int, cell h (a3.add (Int.toNat q1 * 1)) = some (.int .u64 n1) ∧
  ∃ r1 : Int, Sx.Rem i 64 r1 ∧
  ∃ sr1 : Int, Sx.Shr .u64 n1 r1 sr1 ∧
  ∃ an1 : Int, Sx.And .u64 sr1 1 an1 ∧
  K (.bool (decide (an1 = 1))) h) := by kernel_rfl
theorem get_call {v : Option Addr} {i : Int} {h : Hp} {K : Value → Hp → Prop} (hk : get_b0 v i h K) : HCalls Try.prog 37 #[.pointer v, .int .i64 i] h K :=
  calls_of_snd get_an Try.func37 (c := bodyOf Try.f37) rfl Try.ntmps37 (Nat.le_of_ble_eq_true rfl) (snd_1 F_ok F_mixed) hk

/-! ### build -/
def build_an : Ann := .node none (.leaf) (.node none (.leaf) (.node (some [0, 3]) (.node none (.leaf) (.loop [0, 9, 10] [(3, .int .i64), (11, .int .i64)] (.node none (.leaf) (.node none (.leaf) (.node (some [0, 3, 9, 10, 11]) (.leaf) (.leaf)))))) (.leaf)))
def build_K0  (K : Value → Hp → Prop) : Exit → Env → Hp → Prop := retK Try.prog Try.f33.results.toList K
def build_K1  (K : Value → Hp → Prop) : Exit → Env → Hp → Prop := thenE (fun env h => sx_2 Try.prog F 41 (cp [1, 1, 1] (bodyOf Try.f33)) (ap [1, 1, 1] build_an) (rs [0, 3] env) h (build_K0  K)) (build_K0  K)
def build_K2  (K : Value → Hp → Prop) : Exit → Env → Hp → Prop := blockE 0 (build_K1  K)
def build_K3 (nx0 : Int × Int × Unit → Hp → Prop) (K : Value → Hp → Prop) : Exit → Env → Hp → Prop := thenE (fun env h => getV [(3, .int .i64), (11, .int .i64)] env fun s => nx0 s h) (build_K2  K)
def build_b0 (v : Option Addr) (h : Hp)  (K : Value → Hp → Prop) : Prop :=
  sx_3 Try.prog F 41 (cp [] (bodyOf Try.f33)) (ap [] build_an) [(0, .pointer v)] h (build_K0  K)
def build_b1 (total : Int) (t11 : Int) (v : Option Addr) (t9 : Option Addr) (t9L : Nat) (t9C : Nat) (t10 : Int) (h : Hp) (nx0 : Int × Int × Unit → Hp → Prop) (K : Value → Hp → Prop) : Prop :=
  sx_2 Try.prog F 41 (cp [1, 1, 0, 1, 2, 2] (bodyOf Try.f33)) (ap [1, 1, 0, 1, 2] build_an) [(3, .int .i64 total), (11, .int .i64 t11), (0, .pointer v), (9, .slice t9 t9L t9C), (10, .int .i64 t10)] h (build_K3 nx0 K)
def build_b2 (v : Option Addr) (total : Int) (t9 : Option Addr) (t9L : Nat) (t9C : Nat) (t10 : Int) (t11 : Int) (h : Hp) (nx0 : Int × Int × Unit → Hp → Prop) (K : Value → Hp → Prop) : Prop :=
  sx_1 Try.prog F 41 (cp [1, 1, 0, 1, 2, 2, 1, 1, 1] (bodyOf Try.f33)) (ap [1, 1, 0, 1, 2, 1, 1, 1] build_an) [(0, .pointer v), (3, .int .i64 total), (9, .slice t9 t9L t9C), (10, .int .i64 t10), (11, .int .i64 t11)] h (build_K3 nx0 K)
def build_b3 (v : Option Addr) (total : Int) (h : Hp)  (K : Value → Hp → Prop) : Prop :=
  sx_2 Try.prog F 41 (cp [1, 1, 1] (bodyOf Try.f33)) (ap [1, 1, 1] build_an) [(0, .pointer v), (3, .int .i64 total)] h (build_K0  K)
theorem build_b0_eq (v : Option Addr) (h : Hp)  (K : Value → Hp → Prop) : build_b0 v h  K = (
  NN v fun a1 =>
  ∃ (a2 : Option Addr) (L1 C1 : Nat), cell h (a1.add 1) = some (.slice a2 L1 C1) ∧
  LoopVC ((0, 0, ()) : Int × Int × Unit) h (fun (nx0 : Int × Int × Unit → Hp → Prop) (s1 : Int × Int × Unit) h1 => build_b1 s1.1 s1.2.1 v a2 L1 C1 (L1 : Int) h1 nx0 K)) := by kernel_rfl
theorem build_b1_eq (total : Int) (t11 : Int) (v : Option Addr) (t9 : Option Addr) (t9L : Nat) (t9C : Nat) (t10 : Int) (h : Hp) (nx0 : Int × Int × Unit → Hp → Prop) (K : Value → Hp → Prop) : build_b1 total t11 v t9 t9L t9C t10 h nx0 K = (
  cond (decide (t11 < t10))
  ((0 ≤ t11 ∧ t11 < (t9L : Int)) ∧
  NN t9 fun a3 =>
  ∃ n1 : Int, cell h (a3.add (Int.toNat t11 * 1)) = some (.int .u64 n1) ∧
  NN v fun a4 =>
  ∃ (a5 : Option Addr) (L2 C2 : Nat), cell h (a4.add 2) = some (.slice a5 L2 C2) ∧
  New h (.cells #[.int .i64 total] 3) fun b1 h2 =>
  appendV Try.prog 37 37 (.slice a5 L2 C2) (.slice (some ⟨b1, 0, none⟩) 1 1) h2 (slK fun a6 l1 c1 h3 =>
  NN v fun a7 =>
  Wr h3 (a7.add 2) (.slice a6 l1 c1) fun h4 =>
  HCalls Try.prog 39 #[.int .u64 n1] h4 fun v1 h5 => ∃ r1 : Int, v1 = .int .i64 r1 ∧
  InR (total + r1) ∧
  build_b2 v (total + r1) t9 t9L t9C t10 t11 h5 nx0 K))
  (build_b3 v total h  K)) := by kernel_rfl
theorem build_b2_eq (v : Option Addr) (total : Int) (t9 : Option Addr) (t9L : Nat) (t9C : Nat) (t10 : Int) (t11 : Int) (h : Hp) (nx0 : Int × Int × Unit → Hp → Prop) (K : Value → Hp → Prop) : build_b2 v total t9 t9L t9C t10 t11 h nx0 K = (
  InR (t11 + 1) ∧
  nx0 (total, t11 + 1, ()) h) := by kernel_rfl
theorem build_b3_eq (v : Option Addr) (total : Int) (h : Hp)  (K : Value → Hp → Prop) : build_b3 v total h  K = (
  NN v fun a8 =>
  ∃ (a9 : Option Addr) (L3 C3 : Nat), cell h (a8.add 2) = some (.slice a9 L3 C3) ∧
  New h (.cells #[.int .i64 total] 3) fun b2 h6 =>
  appendV Try.prog 37 37 (.slice a9 L3 C3) (.slice (some ⟨b2, 0, none⟩) 1 1) h6 (slK fun a10 l2 c2 h7 =>
  NN v fun a11 =>
  Wr h7 (a11.add 2) (.slice a10 l2 c2) fun h8 =>
  K (.pointer v) h8)) := by kernel_rfl
theorem build_call {v : Option Addr} {h : Hp} {K : Value → Hp → Prop} (hk : build_b0 v h K) : HCalls Try.prog 33 #[.pointer v] h K :=
  calls_of_snd build_an Try.func33 (c := bodyOf Try.f33) rfl Try.ntmps33 (Nat.le_of_ble_eq_true rfl) (snd_3 F_ok F_mixed) hk

/-! ### Make -/
def Make_an : Ann := .node none (.leaf) (.node none (.leaf) (.node none (.leaf) (.node (some [4]) (.node none (.leaf) (.loop [4, 19, 20] [(21, .int .i64)] (.node none (.leaf) (.node none (.leaf) (.node (some [4, 19, 20, 21]) (.node none (.leaf) (.node none (.leaf) (.node none (.tail 13) (.leaf)))) (.leaf)))))) (.leaf))))
def Make_K0  (K : Value → Hp → Prop) : Exit → Env → Hp → Prop := retK Try.prog Try.f10.results.toList K
def Make_K1  (K : Value → Hp → Prop) : Exit → Env → Hp → Prop := thenE (fun env h => sx_2 Try.prog F 43 (cp [1, 1, 1, 1] (bodyOf Try.f10)) (ap [1, 1, 1, 1] Make_an) (rs [4] env) h (Make_K0  K)) (Make_K0  K)
def Make_K2  (K : Value → Hp → Prop) : Exit → Env → Hp → Prop := blockE 0 (Make_K1  K)
def Make_K3 (nx0 : Int × Unit → Hp → Prop) (K : Value → Hp → Prop) : Exit → Env → Hp → Prop := thenE (fun env h => getV [(21, .int .i64)] env fun s => nx0 s h) (Make_K2  K)
def Make_b0 (l : Option Addr) (lL : Nat) (lC : Nat) (h : Hp)  (K : Value → Hp → Prop) : Prop :=
  sx_3 Try.prog F 43 (cp [] (bodyOf Try.f10)) (ap [] Make_an) [(0, .slice l lL lC)] h (Make_K0  K)
def Make_b1 (t21 : Int) (v : Option Addr) (t19 : Option Addr) (t19L : Nat) (t19C : Nat) (t20 : Int) (h : Hp) (nx0 : Int × Unit → Hp → Prop) (K : Value → Hp → Prop) : Prop :=
  sx_2 Try.prog F 43 (cp [1, 1, 1, 0, 1, 2, 2] (bodyOf Try.f10)) (ap [1, 1, 1, 0, 1, 2] Make_an) [(21, .int .i64 t21), (4, .pointer v), (19, .slice t19 t19L t19C), (20, .int .i64 t20)] h (Make_K3 nx0 K)
def Make_b2 (v : Option Addr) (t19 : Option Addr) (t19L : Nat) (t19C : Nat) (t20 : Int) (t21 : Int) (h : Hp) (nx0 : Int × Unit → Hp → Prop) (K : Value → Hp → Prop) : Prop :=
  sx_1 Try.prog F 43 (cp [1, 1, 1, 0, 1, 2, 2, 1, 1, 1] (bodyOf Try.f10)) (ap [1, 1, 1, 0, 1, 2, 1, 1, 1] Make_an) [(4, .pointer v), (19, .slice t19 t19L t19C), (20, .int .i64 t20), (21, .int .i64 t21)] h (Make_K3 nx0 K)
def Make_b3 (v : Option Addr) (h : Hp)  (K : Value → Hp → Prop) : Prop :=
  sx_2 Try.prog F 43 (cp [1, 1, 1, 1] (bodyOf Try.f10)) (ap [1, 1, 1, 1] Make_an) [(4, .pointer v)] h (Make_K0  K)
theorem Make_b0_eq (l : Option Addr) (lL : Nat) (lC : Nat) (h : Hp)  (K : Value → Hp → Prop) : Make_b0 l lL lC h  K = (
  cond (decide ((65536 : Int) < (lL : Int)))
  (K (.tuple #[.pointer none, .int .i64 4]) h)
  (InR ((lL : Int) + 63) ∧
  ∃ q1 : Int, Sx.Quo .i64 ((lL : Int) + 63) 64 q1 ∧
  (0 ≤ q1 ∧ q1 ≤ q1 ∧ q1 ≤ 281474976710656 ∧ q1 * ((8 : Nat) : Int) ≤ 281474976710656) ∧
  New h (.cells (repL (Int.toNat q1 * 1) [.int .u64 0]).toArray 56) fun b1 h1 =>
  New h1 (.cells #[.int .i64 (lL : Int), .slice (some ⟨b1, 0, none⟩) (Int.toNat q1) (Int.toNat q1), .slice none 0 0] 55) fun b2 h2 =>
  LoopVC ((0, ()) : Int × Unit) h2 (fun (nx0 : Int × Unit → Hp → Prop) (s1 : Int × Unit) h3 => Make_b1 s1.1 (some ⟨b2, 0, none⟩) l lL lC (lL : Int) h3 nx0 K))) := by kernel_rfl
theorem Make_b1_eq (t21 : Int) (v : Option Addr) (t19 : Option Addr) (t19L : Nat) (t19C : Nat) (t20 : Int) (h : Hp) (nx0 : Int × Unit → Hp → Prop) (K : Value → Hp → Prop) : Make_b1 t21 v t19 t19L t19C t20 h nx0 K = (
  cond (decide (t21 < t20))
  ((0 ≤ t21 ∧ t21 < (t19L : Int)) ∧
  NN t19 fun a1 =>
  ∃ b3 : Bool, cell h (a1.add (Int.toNat t21 * 1)) = some (.bool b3) ∧
  cond b3
  (NN v fun a2 =>
  ∃ (a3 : Option Addr) (L1 C1 : Nat), cell h (a2.add 1) = some (.slice a3 L1 C1) ∧
  ∃ q2 : Int, Sx.Quo .i64 t21 64 q2 ∧
  (0 ≤ q2 ∧ q2 < (L1 : Int)) ∧
  NN a3 fun a4 =>
  ∃ n1 : Int, cell h (a4.add (Int.toNat q2 * 1)) = some (.int .u64 n1) ∧
  ∃ r1 : Int, Sx.Rem t21 64 r1 ∧
  ∃ sl1 : Int, Sx.Shl .u64 1 r1 sl1 ∧
  ∃ or1 : Int, Sx.Or .u64 n1 sl1 or1 ∧
  (0 ≤ q2 ∧ q2 < (L1 : Int)) ∧
  NN a3 fun a5 =>
  Wr h (a5.add (Int.toNat q2 * 1)) (.int .u64 or1) fun h4 =>
  Make_b2 v t19 t19L t19C t20 t21 h4 nx0 K)
  (Make_b2 v t19 t19L t19C t20 t21 h nx0 K))
  (Make_b3 v h  K)) := by kernel_rfl
theorem Make_b2_eq (v : Option Addr) (t19 : Option Addr) (t19L : Nat) (t19C : Nat) (t20 : Int) (t21 : Int) (h : Hp) (nx0 : Int × Unit → Hp → Prop) (K : Value → Hp → Prop) : Make_b2 v t19 t19L t19C t20 t21 h nx0 K = (
  InR (t21 + 1) ∧
  nx0 (t21 + 1, ()) h) := by kernel_rfl
theorem Make_b3_eq (v : Option Addr) (h : Hp)  (K : Value → Hp → Prop) : Make_b3 v h  K = (
  HCalls Try.prog 33 #[.pointer v] h fun v1 h5 => ∃ r2 : Option Addr, v1 = .pointer r2 ∧
  K (.tuple #[.pointer r2, .int .i64 0]) h5) := by kernel_rfl
theorem Make_call {l : Option Addr} {lL : Nat} {lC : Nat} {h : Hp} {K : Value → Hp → Prop} (hk : Make_b0 l lL lC h K) : HCalls Try.prog 10 #[.slice l lL lC] h K :=
  calls_of_snd Make_an Try.func10 (c := bodyOf Try.f10) rfl Try.ntmps10 (Nat.le_of_ble_eq_true rfl) (snd_3 F_ok F_mixed) hk

/-! ### Len -/
def Len_an : Ann := .leaf
def Len_K0  (K : Value → Hp → Prop) : Exit → Env → Hp → Prop := retK Try.prog Try.f20.results.toList K
def Len_b0 (v : Option Addr) (h : Hp)  (K : Value → Hp → Prop) : Prop :=
  sx_1 Try.prog F 9 (cp [] (bodyOf Try.f20)) (ap [] Len_an) [(0, .pointer v)] h (Len_K0  K)
theorem Len_b0_eq (v : Option Addr) (h : Hp)  (K : Value → Hp → Prop) : Len_b0 v h  K = (
  cond v.isNone
  (K (.int .i64 0) h)
  (NN v fun a1 =>
  ∃ n1 : Int, cell h a1 = some (.int .i64 n1) ∧
  K (.int .i64 n1) h)) := by kernel_rfl
theorem Len_call {v : Option Addr} {h : Hp} {K : Value → Hp → Prop} (hk : Len_b0 v h K) : HCalls Try.prog 20 #[.pointer v] h K :=
  calls_of_snd Len_an Try.func20 (c := bodyOf Try.f20) rfl Try.ntmps20 (Nat.le_of_ble_eq_true rfl) (snd_1 F_ok F_mixed) hk

/-! ### Ones -/
def Ones_an : Ann := .leaf
def Ones_K0  (K : Value → Hp → Prop) : Exit → Env → Hp → Prop := retK Try.prog Try.f21.results.toList K
def Ones_b0 (v : Option Addr) (h : Hp)  (K : Value → Hp → Prop) : Prop :=
  sx_1 Try.prog F 16 (cp [] (bodyOf Try.f21)) (ap [] Ones_an) [(0, .pointer v)] h (Ones_K0  K)
theorem Ones_b0_eq (v : Option Addr) (h : Hp)  (K : Value → Hp → Prop) : Ones_b0 v h  K = (
  cond v.isNone
  (K (.int .i64 0) h)
  (NN v fun a1 =>
  ∃ (a2 : Option Addr) (L1 C1 : Nat), cell h (a1.add 2) = some (.slice a2 L1 C1) ∧
  NN v fun a3 =>
  ∃ (a4 : Option Addr) (L2 C2 : Nat), cell h (a3.add 1) = some (.slice a4 L2 C2) ∧
  (0 ≤ (L2 : Int) ∧ (L2 : Int) < (L1 : Int)) ∧
  NN a2 fun a5 =>
  ∃ n1 : Int, cell h (a5.add (Int.toNat (L2 : Int) * 1)) = some (.int .i64 n1) ∧
  K (.int .i64 n1) h)) := by kernel_rfl
theorem Ones_call {v : Option Addr} {h : Hp} {K : Value → Hp → Prop} (hk : Ones_b0 v h K) : HCalls Try.prog 21 #[.pointer v] h K :=
  calls_of_snd Ones_an Try.func21 (c := bodyOf Try.f21) rfl Try.ntmps21 (Nat.le_of_ble_eq_true rfl) (snd_1 F_ok F_mixed) hk

/-! ### Get -/
def Get_an : Ann := .node none (.leaf) (.node (some [0, 1]) (.leaf) (.leaf))
def Get_K0  (K : Value → Hp → Prop) : Exit → Env → Hp → Prop := retK Try.prog Try.f27.results.toList K
def Get_b0 (v : Option Addr) (i : Int) (h : Hp)  (K : Value → Hp → Prop) : Prop :=
  sx_2 Try.prog F 23 (cp [] (bodyOf Try.f27)) (ap [] Get_an) [(0, .pointer v), (1, .int .i64 i)] h (Get_K0  K)
def Get_b1 (v : Option Addr) (i : Int) (h : Hp)  (K : Value → Hp → Prop) : Prop :=
  sx_1 Try.prog F 23 (cp [1, 1] (bodyOf Try.f27)) (ap [1, 1] Get_an) [(0, .pointer v), (1, .int .i64 i)] h (Get_K0  K)
theorem Get_b0_eq (v : Option Addr) (i : Int) (h : Hp)  (K : Value → Hp → Prop) : Get_b0 v i h  K = (
  cond v.isNone
  (K (.tuple #[.bool false, .int .i64 1]) h)
  (cond (decide (i < 0))
  (K (.tuple #[.bool false, .int .i64 2]) h)
  (NN v fun a1 =>
  ∃ n1 : Int, cell h a1 = some (.int .i64 n1) ∧
  cond (decide (n1 ≤ i))
  (K (.tuple #[.bool false, .int .i64 2]) h)
  (Get_b1 v i h  K)))) := by kernel_rfl
theorem Get_b1_eq (v : Option Addr) (i : Int) (h : Hp)  (K : Value → Hp → Prop) : Get_b1 v i h  K = (
  HCalls Try.prog 37 #[.pointer v, .int .i64 i] h fun v1 h1 => ∃ r1 : Bool, v1 = .bool r1 ∧
  K (.tuple #[.bool r1, .int .i64 0]) h1) := by kernel_rfl
theorem Get_call {v : Option Addr} {i : Int} {h : Hp} {K : Value → Hp → Prop} (hk : Get_b0 v i h K) : HCalls Try.prog 27 #[.pointer v, .int .i64 i] h K :=
  calls_of_snd Get_an Try.func27 (c := bodyOf Try.f27) rfl Try.ntmps27 (Nat.le_of_ble_eq_true rfl) (snd_2 F_ok F_mixed) hk

/-! ### Rank -/
def Rank_an : Ann := .node none (.leaf) (.node (some [0, 1, 2]) (.leaf) (.leaf))
def Rank_K0  (K : Value → Hp → Prop) : Exit → Env → Hp → Prop := retK Try.prog Try.f11.results.toList K
def Rank_b0 (v : Option Addr) (bit : Bool) (i : Int) (h : Hp)  (K : Value → Hp → Prop) : Prop :=
  sx_2 Try.prog F 26 (cp [] (bodyOf Try.f11)) (ap [] Rank_an) [(0, .pointer v), (1, .bool bit), (2, .int .i64 i)] h (Rank_K0  K)
def Rank_b1 (v : Option Addr) (bit : Bool) (i : Int) (h : Hp)  (K : Value → Hp → Prop) : Prop :=
  sx_1 Try.prog F 26 (cp [1, 1] (bodyOf Try.f11)) (ap [1, 1] Rank_an) [(0, .pointer v), (1, .bool bit), (2, .int .i64 i)] h (Rank_K0  K)
theorem Rank_b0_eq (v : Option Addr) (bit : Bool) (i : Int) (h : Hp)  (K : Value → Hp → Prop) : Rank_b0 v bit i h  K = (
  cond v.isNone
  (K (.tuple #[.int .i64 0, .int .i64 1]) h)
  (cond (decide (i < 0))
  (K (.tuple #[.int .i64 0, .int .i64 2]) h)
  (NN v fun a1 =>
  ∃ n1 : Int, cell h a1 = some (.int .i64 n1) ∧
  cond (decide (n1 < i))
  (K (.tuple #[.int .i64 0, .int .i64 2]) h)
  (Rank_b1 v bit i h  K)))) := by kernel_rfl
theorem Rank_b1_eq (v : Option Addr) (bit : Bool) (i : Int) (h : Hp)  (K : Value → Hp → Prop) : Rank_b1 v bit i h  K = (
  HCalls Try.prog 34 #[.pointer v, .bool bit, .int .i64 i] h fun v1 h1 => ∃ r1 : Int, v1 = .int .i64 r1 ∧
  K (.tuple #[.int .i64 r1, .int .i64 0]) h1) := by kernel_rfl
theorem Rank_call {v : Option Addr} {bit : Bool} {i : Int} {h : Hp} {K : Value → Hp → Prop} (hk : Rank_b0 v bit i h K) : HCalls Try.prog 11 #[.pointer v, .bool bit, .int .i64 i] h K :=
  calls_of_snd Rank_an Try.func11 (c := bodyOf Try.f11) rfl Try.ntmps11 (Nat.le_of_ble_eq_true rfl) (snd_2 F_ok F_mixed) hk

/-! ### Search -/
def Search_an : Ann := .node none (.leaf) (.node none (.leaf) (.node (some [5]) (.loop [1] [(5, .int .i64), (6, .int .i64)] (.leaf)) (.leaf)))
def Search_K0  (K : Value → Hp → Prop) : Exit → Env → Hp → Prop := retK Try.prog Try.f35.results.toList K
def Search_K1  (K : Value → Hp → Prop) : Exit → Env → Hp → Prop := thenE (fun env h => sx_1 Try.prog F 26 (cp [1, 1, 1] (bodyOf Try.f35)) (ap [1, 1, 1] Search_an) (rs [5] env) h (Search_K0  K)) (Search_K0  K)
def Search_K2  (K : Value → Hp → Prop) : Exit → Env → Hp → Prop := blockE 0 (Search_K1  K)
def Search_K3 (nx0 : Int × Int × Unit → Hp → Prop) (K : Value → Hp → Prop) : Exit → Env → Hp → Prop := thenE (fun env h => getV [(5, .int .i64), (6, .int .i64)] env fun s => nx0 s h) (Search_K2  K)
def Search_b0 (nv : Int) (f : Value) (h : Hp)  (K : Value → Hp → Prop) : Prop :=
  sx_2 Try.prog F 26 (cp [] (bodyOf Try.f35)) (ap [] Search_an) [(0, .int .i64 nv), (1, f)] h (Search_K0  K)
def Search_b1 (i : Int) (j : Int) (f : Value) (h : Hp) (nx0 : Int × Int × Unit → Hp → Prop) (K : Value → Hp → Prop) : Prop :=
  sx_1 Try.prog F 26 (cp [1, 1, 0, 2, 2] (bodyOf Try.f35)) (ap [1, 1, 0, 2] Search_an) [(5, .int .i64 i), (6, .int .i64 j), (1, f)] h (Search_K3 nx0 K)
def Search_b2 (i : Int) (h : Hp)  (K : Value → Hp → Prop) : Prop :=
  sx_1 Try.prog F 26 (cp [1, 1, 1] (bodyOf Try.f35)) (ap [1, 1, 1] Search_an) [(5, .int .i64 i)] h (Search_K0  K)
theorem Search_b0_eq (nv : Int) (f : Value) (h : Hp)  (K : Value → Hp → Prop) : Search_b0 nv f h  K = (
  LoopVC ((0, nv, ()) : Int × Int × Unit) h (fun (nx0 : Int × Int × Unit → Hp → Prop) (s1 : Int × Int × Unit) h1 => Search_b1 s1.1 s1.2.1 f h1 nx0 K)) := by kernel_rfl
theorem Search_b1_eq (i : Int) (j : Int) (f : Value) (h : Hp) (nx0 : Int × Int × Unit → Hp → Prop) (K : Value → Hp → Prop) : Search_b1 i j f h nx0 K = (
  cond (decide (i < j))
  (InR (i + j) ∧
  ∃ sr1 : Int, Sx.Shr .u64 (IntKind.u64.wrap (i + j)) 1 sr1 ∧
  InR sr1 ∧
  funV f fun fg1 fa1 fc1 => chk (F fg1) (HCalls Try.prog fg1 (fa1 ++ (([.int .i64 sr1] : List Value) ++ fc1)).toArray h fun v1 h2 => ∃ r1 : Bool, v1 = .bool r1 ∧
  cond (!r1)
  (InR (sr1 + 1) ∧
  nx0 (sr1 + 1, j, ()) h2)
  (nx0 (i, sr1, ()) h2)))
  (Search_b2 i h  K)) := by kernel_rfl
theorem Search_b2_eq (i : Int) (h : Hp)  (K : Value → Hp → Prop) : Search_b2 i h  K = (
  K (.int .i64 i) h) := by kernel_rfl
theorem Search_call {nv : Int} {f : Value} {h : Hp} {K : Value → Hp → Prop} (hk : Search_b0 nv f h K) : HCalls Try.prog 35 #[.int .i64 nv, f] h K :=
  calls_of_snd Search_an Try.func35 (c := bodyOf Try.f35) rfl Try.ntmps35 (Nat.le_of_ble_eq_true rfl) (snd_2 F_ok F_mixed) hk

/-! ### Select -/
def Select_an : Ann := .node none (.leaf) (.node (some [3, 4, 5]) (.leaf) (.leaf))
def Select_K0  (K : Value → Hp → Prop) : Exit → Env → Hp → Prop := retK Try.prog Try.f12.results.toList K
def Select_b0 (v : Option Addr) (bit : Bool) (k : Int) (h : Hp)  (K : Value → Hp → Prop) : Prop :=
  sx_2 Try.prog F 30 (cp [] (bodyOf Try.f12)) (ap [] Select_an) [(0, .pointer v), (1, .bool bit), (2, .int .i64 k)] h (Select_K0  K)
def Select_b1 (v : Option Addr) (bit : Option Addr) (k : Option Addr) (h : Hp)  (K : Value → Hp → Prop) : Prop :=
  sx_1 Try.prog F 30 (cp [1, 1] (bodyOf Try.f12)) (ap [1, 1] Select_an) [(3, .pointer v), (4, .pointer bit), (5, .pointer k)] h (Select_K0  K)
theorem Select_b0_eq (v : Option Addr) (bit : Bool) (k : Int) (h : Hp)  (K : Value → Hp → Prop) : Select_b0 v bit k h  K = (
  New h (.cells #[.pointer v] 24) fun b1 h1 =>
  New h1 (.cells #[.bool bit] 4) fun b2 h2 =>
  New h2 (.cells #[.int .i64 k] 3) fun b3 h3 =>
  ∃ p1 : Option Addr, cell h3 ⟨b1, 0, none⟩ = some (.pointer p1) ∧
  cond p1.isNone
  (K (.tuple #[.int .i64 0, .int .i64 1]) h3)
  (∃ n1 : Int, cell h3 ⟨b3, 0, none⟩ = some (.int .i64 n1) ∧
  cond (decide (n1 < 0))
  (K (.tuple #[.int .i64 0, .int .i64 2]) h3)
  (∃ n2 : Int, cell h3 ⟨b3, 0, none⟩ = some (.int .i64 n2) ∧
  ∃ p2 : Option Addr, cell h3 ⟨b1, 0, none⟩ = some (.pointer p2) ∧
  ∃ b4 : Bool, cell h3 ⟨b2, 0, none⟩ = some (.bool b4) ∧
  ∃ p3 : Option Addr, cell h3 ⟨b1, 0, none⟩ = some (.pointer p3) ∧
  NN p3 fun a1 =>
  ∃ n3 : Int, cell h3 a1 = some (.int .i64 n3) ∧
  ∃ r1 : Int, HCalls Try.prog 34 #[.pointer p2, .bool b4, .int .i64 n3] h3 (fun v1 h4 => v1 = .int .i64 r1 ∧ h4 = h3) ∧
  cond (decide (r1 ≤ n2))
  (K (.tuple #[.int .i64 0, .int .i64 12]) h3)
  (Select_b1 (some ⟨b1, 0, none⟩) (some ⟨b2, 0, none⟩) (some ⟨b3, 0, none⟩) h3  K)))) := by kernel_rfl
theorem Select_b1_eq (v : Option Addr) (bit : Option Addr) (k : Option Addr) (h : Hp)  (K : Value → Hp → Prop) : Select_b1 v bit k h  K = (
  NN v fun a2 =>
  ∃ p4 : Option Addr, cell h a2 = some (.pointer p4) ∧
  NN p4 fun a3 =>
  ∃ n4 : Int, cell h a3 = some (.int .i64 n4) ∧
  HCalls Try.prog 35 #[.int .i64 n4, .func (.func 36) #[] #[.pointer v, .pointer bit, .pointer k]] h fun v2 h5 => ∃ r2 : Int, v2 = .int .i64 r2 ∧
  K (.tuple #[.int .i64 r2, .int .i64 0]) h5) := by kernel_rfl
theorem Select_call {v : Option Addr} {bit : Bool} {k : Int} {h : Hp} {K : Value → Hp → Prop} (hk : Select_b0 v bit k h K) : HCalls Try.prog 12 #[.pointer v, .bool bit, .int .i64 k] h K :=
  calls_of_snd Select_an Try.func12 (c := bodyOf Try.f12) rfl Try.ntmps12 (Nat.le_of_ble_eq_true rfl) (snd_2 F_ok F_mixed) hk

/-! ### Sel1 -/
def Sel1_an : Ann := .leaf
def Sel1_K0  (K : Value → Hp → Prop) : Exit → Env → Hp → Prop := retK Try.prog Try.f36.results.toList K
def Sel1_b0 (i : Int) (t1 : Option Addr) (t2 : Option Addr) (t3 : Option Addr) (h : Hp)  (K : Value → Hp → Prop) : Prop :=
  sx_1 Try.prog F 13 (cp [] (bodyOf Try.f36)) (ap [] Sel1_an) [(0, .int .i64 i), (1, .pointer t1), (2, .pointer t2), (3, .pointer t3)] h (Sel1_K0  K)
theorem Sel1_b0_eq (i : Int) (t1 : Option Addr) (t2 : Option Addr) (t3 : Option Addr) (h : Hp)  (K : Value → Hp → Prop) : Sel1_b0 i t1 t2 t3 h  K = (
  NN t1 fun a1 =>
  ∃ p1 : Option Addr, cell h a1 = some (.pointer p1) ∧
  NN t2 fun a2 =>
  ∃ b1 : Bool, cell h a2 = some (.bool b1) ∧
  InR (i + 1) ∧
  ∃ r1 : Int, HCalls Try.prog 34 #[.pointer p1, .bool b1, .int .i64 (i + 1)] h (fun v1 h1 => v1 = .int .i64 r1 ∧ h1 = h) ∧
  NN t3 fun a3 =>
  ∃ n1 : Int, cell h a3 = some (.int .i64 n1) ∧
  K (.bool (decide (n1 < r1))) h) := by kernel_rfl
theorem Sel1_call {i : Int} {t1 : Option Addr} {t2 : Option Addr} {t3 : Option Addr} {h : Hp} {K : Value → Hp → Prop} (hk : Sel1_b0 i t1 t2 t3 h K) : HCalls Try.prog 36 #[.int .i64 i, .pointer t1, .pointer t2, .pointer t3] h K :=
  calls_of_snd Sel1_an Try.func36 (c := bodyOf Try.f36) rfl Try.ntmps36 (Nat.le_of_ble_eq_true rfl) (snd_1 F_ok F_mixed) hk

/-! ### Next -/
def Next_an : Ann := .leaf
def Next_K0  (K : Value → Hp → Prop) : Exit → Env → Hp → Prop := retK Try.prog Try.f16.results.toList K
def Next_b0 (v : Option Addr) (bit : Bool) (i : Int) (h : Hp)  (K : Value → Hp → Prop) : Prop :=
  sx_1 Try.prog F 26 (cp [] (bodyOf Try.f16)) (ap [] Next_an) [(0, .pointer v), (1, .bool bit), (2, .int .i64 i)] h (Next_K0  K)
theorem Next_b0_eq (v : Option Addr) (bit : Bool) (i : Int) (h : Hp)  (K : Value → Hp → Prop) : Next_b0 v bit i h  K = (
  HCalls Try.prog 11 #[.pointer v, .bool bit, .int .i64 i] h fun v1 h1 => ∃ r1 : Int, ∃ r2 : Int, v1 = .tuple #[.int .i64 r1, .int .i64 r2] ∧
  cond (!decide (r2 = 0))
  (K (.tuple #[.int .i64 0, .int .i64 r2]) h1)
  (HCalls Try.prog 12 #[.pointer v, .bool bit, .int .i64 r1] h1 fun v2 h2 => ∃ r3 : Int, ∃ r4 : Int, v2 = .tuple #[.int .i64 r3, .int .i64 r4] ∧
  K (.tuple #[.int .i64 r3, .int .i64 r4]) h2)) := by kernel_rfl
theorem Next_call {v : Option Addr} {bit : Bool} {i : Int} {h : Hp} {K : Value → Hp → Prop} (hk : Next_b0 v bit i h K) : HCalls Try.prog 16 #[.pointer v, .bool bit, .int .i64 i] h K :=
  calls_of_snd Next_an Try.func16 (c := bodyOf Try.f16) rfl Try.ntmps16 (Nat.le_of_ble_eq_true rfl) (snd_1 F_ok F_mixed) hk

/-! ### Prev -/
def Prev_an : Ann := .node none (.leaf) (.node none (.leaf) (.node (some [0, 1, 8]) (.leaf) (.leaf)))
def Prev_K0  (K : Value → Hp → Prop) : Exit → Env → Hp → Prop := retK Try.prog Try.f17.results.toList K
def Prev_b0 (v : Option Addr) (bit : Bool) (i : Int) (h : Hp)  (K : Value → Hp → Prop) : Prop :=
  sx_2 Try.prog F 31 (cp [] (bodyOf Try.f17)) (ap [] Prev_an) [(0, .pointer v), (1, .bool bit), (2, .int .i64 i)] h (Prev_K0  K)
def Prev_b1 (v : Option Addr) (bit : Bool) (nv : Int) (h : Hp)  (K : Value → Hp → Prop) : Prop :=
  sx_1 Try.prog F 31 (cp [1, 1, 1] (bodyOf Try.f17)) (ap [1, 1, 1] Prev_an) [(0, .pointer v), (1, .bool bit), (8, .int .i64 nv)] h (Prev_K0  K)
theorem Prev_b0_eq (v : Option Addr) (bit : Bool) (i : Int) (h : Hp)  (K : Value → Hp → Prop) : Prev_b0 v bit i h  K = (
  HCalls Try.prog 11 #[.pointer v, .bool bit, .int .i64 i] h fun v1 h1 => ∃ r1 : Int, ∃ r2 : Int, v1 = .tuple #[.int .i64 r1, .int .i64 r2] ∧
  cond (!decide (r2 = 0))
  (K (.tuple #[.int .i64 0, .int .i64 r2]) h1)
  (cond (decide (r1 = 0))
  (K (.tuple #[.int .i64 0, .int .i64 12]) h1)
  (Prev_b1 v bit r1 h1  K))) := by kernel_rfl
theorem Prev_b1_eq (v : Option Addr) (bit : Bool) (nv : Int) (h : Hp)  (K : Value → Hp → Prop) : Prev_b1 v bit nv h  K = (
  InR (nv - 1) ∧
  HCalls Try.prog 12 #[.pointer v, .bool bit, .int .i64 (nv - 1)] h fun v2 h2 => ∃ r3 : Int, ∃ r4 : Int, v2 = .tuple #[.int .i64 r3, .int .i64 r4] ∧
  K (.tuple #[.int .i64 r3, .int .i64 r4]) h2) := by kernel_rfl
theorem Prev_call {v : Option Addr} {bit : Bool} {i : Int} {h : Hp} {K : Value → Hp → Prop} (hk : Prev_b0 v bit i h K) : HCalls Try.prog 17 #[.pointer v, .bool bit, .int .i64 i] h K :=
  calls_of_snd Prev_an Try.func17 (c := bodyOf Try.f17) rfl Try.ntmps17 (Nat.le_of_ble_eq_true rfl) (snd_2 F_ok F_mixed) hk

/-! ### Bits -/
def Bits_an : Ann := .node none (.leaf) (.node none (.leaf) (.node (some [3]) (.node none (.leaf) (.loop [0, 6] [(3, .slice), (7, .int .i64)] (.node none (.leaf) (.node none (.leaf) (.node (some [0, 3, 6, 7]) (.leaf) (.leaf)))))) (.leaf)))
def Bits_K0  (K : Value → Hp → Prop) : Exit → Env → Hp → Prop := retK Try.prog Try.f23.results.toList K
def Bits_K1  (K : Value → Hp → Prop) : Exit → Env → Hp → Prop := thenE (fun env h => sx_2 Try.prog F 18 (cp [1, 1, 1] (bodyOf Try.f23)) (ap [1, 1, 1] Bits_an) (rs [3] env) h (Bits_K0  K)) (Bits_K0  K)
def Bits_K2  (K : Value → Hp → Prop) : Exit → Env → Hp → Prop := blockE 0 (Bits_K1  K)
def Bits_K3 (nx0 : (Option Addr × Nat × Nat) × Int × Unit → Hp → Prop) (K : Value → Hp → Prop) : Exit → Env → Hp → Prop := thenE (fun env h => getV [(3, .slice), (7, .int .i64)] env fun s => nx0 s h) (Bits_K2  K)
def Bits_b0 (v : Option Addr) (h : Hp)  (K : Value → Hp → Prop) : Prop :=
  sx_3 Try.prog F 18 (cp [] (bodyOf Try.f23)) (ap [] Bits_an) [(0, .pointer v)] h (Bits_K0  K)
def Bits_b1 (out : Option Addr) (outL : Nat) (outC : Nat) (t7 : Int) (v : Option Addr) (t6 : Int) (h : Hp) (nx0 : (Option Addr × Nat × Nat) × Int × Unit → Hp → Prop) (K : Value → Hp → Prop) : Prop :=
  sx_2 Try.prog F 18 (cp [1, 1, 0, 1, 2, 2] (bodyOf Try.f23)) (ap [1, 1, 0, 1, 2] Bits_an) [(3, .slice out outL outC), (7, .int .i64 t7), (0, .pointer v), (6, .int .i64 t6)] h (Bits_K3 nx0 K)
def Bits_b2 (v : Option Addr) (out : Option Addr) (outL : Nat) (outC : Nat) (t6 : Int) (t7 : Int) (h : Hp) (nx0 : (Option Addr × Nat × Nat) × Int × Unit → Hp → Prop) (K : Value → Hp → Prop) : Prop :=
  sx_1 Try.prog F 18 (cp [1, 1, 0, 1, 2, 2, 1, 1, 1] (bodyOf Try.f23)) (ap [1, 1, 0, 1, 2, 1, 1, 1] Bits_an) [(0, .pointer v), (3, .slice out outL outC), (6, .int .i64 t6), (7, .int .i64 t7)] h (Bits_K3 nx0 K)
def Bits_b3 (out : Option Addr) (outL : Nat) (outC : Nat) (h : Hp)  (K : Value → Hp → Prop) : Prop :=
  sx_2 Try.prog F 18 (cp [1, 1, 1] (bodyOf Try.f23)) (ap [1, 1, 1] Bits_an) [(3, .slice out outL outC)] h (Bits_K0  K)
theorem Bits_b0_eq (v : Option Addr) (h : Hp)  (K : Value → Hp → Prop) : Bits_b0 v h  K = (
  HCalls Try.prog 20 #[.pointer v] h fun v1 h1 => ∃ r1 : Int, v1 = .int .i64 r1 ∧
  LoopVC (((none, 0, 0), 0, ()) : (Option Addr × Nat × Nat) × Int × Unit) h1 (fun (nx0 : (Option Addr × Nat × Nat) × Int × Unit → Hp → Prop) (s1 : (Option Addr × Nat × Nat) × Int × Unit) h2 => Bits_b1 s1.1.1 s1.1.2.1 s1.1.2.2 s1.2.1 v r1 h2 nx0 K)) := by kernel_rfl
theorem Bits_b1_eq (out : Option Addr) (outL : Nat) (outC : Nat) (t7 : Int) (v : Option Addr) (t6 : Int) (h : Hp) (nx0 : (Option Addr × Nat × Nat) × Int × Unit → Hp → Prop) (K : Value → Hp → Prop) : Bits_b1 out outL outC t7 v t6 h nx0 K = (
  cond (decide (t7 < t6))
  (HCalls Try.prog 37 #[.pointer v, .int .i64 t7] h fun v2 h3 => ∃ r2 : Bool, v2 = .bool r2 ∧
  New h3 (.cells #[.bool r2] 4) fun b1 h4 =>
  appendV Try.prog 22 22 (.slice out outL outC) (.slice (some ⟨b1, 0, none⟩) 1 1) h4 (slK fun a1 l1 c1 h5 =>
  Bits_b2 v a1 l1 c1 t6 t7 h5 nx0 K))
  (Bits_b3 out outL outC h  K)) := by kernel_rfl
theorem Bits_b2_eq (v : Option Addr) (out : Option Addr) (outL : Nat) (outC : Nat) (t6 : Int) (t7 : Int) (h : Hp) (nx0 : (Option Addr × Nat × Nat) × Int × Unit → Hp → Prop) (K : Value → Hp → Prop) : Bits_b2 v out outL outC t6 t7 h nx0 K = (
  InR (t7 + 1) ∧
  nx0 ((out, outL, outC), t7 + 1, ()) h) := by kernel_rfl
theorem Bits_b3_eq (out : Option Addr) (outL : Nat) (outC : Nat) (h : Hp)  (K : Value → Hp → Prop) : Bits_b3 out outL outC h  K = (
  K (.slice out outL outC) h) := by kernel_rfl
theorem Bits_call {v : Option Addr} {h : Hp} {K : Value → Hp → Prop} (hk : Bits_b0 v h K) : HCalls Try.prog 23 #[.pointer v] h K :=
  calls_of_snd Bits_an Try.func23 (c := bodyOf Try.f23) rfl Try.ntmps23 (Nat.le_of_ble_eq_true rfl) (snd_3 F_ok F_mixed) hk

/-! ### Runs -/
def Runs_an : Ann := .node none (.leaf) (.node none (.leaf) (.node none (.leaf) (.node (some [3, 5]) (.node none (.leaf) (.loop [0, 8] [(3, .slice), (4, .bool), (5, .int .i64), (9, .int .i64)] (.node none (.leaf) (.node none (.leaf) (.node (some [0, 3, 4, 5, 8, 9]) (.node none (.leaf) (.node (some [0, 3, 4, 5, 8, 9]) (.leaf) (.leaf))) (.leaf)))))) (.node (some [3]) (.leaf) (.leaf)))))
def Runs_K0  (K : Value → Hp → Prop) : Exit → Env → Hp → Prop := retK Try.prog Try.f25.results.toList K
def Runs_K1  (K : Value → Hp → Prop) : Exit → Env → Hp → Prop := thenE (fun env h => sx_2 Try.prog F 33 (cp [1, 1, 1, 1] (bodyOf Try.f25)) (ap [1, 1, 1, 1] Runs_an) (rs [3, 5] env) h (Runs_K0  K)) (Runs_K0  K)
def Runs_K2  (K : Value → Hp → Prop) : Exit → Env → Hp → Prop := blockE 0 (Runs_K1  K)
def Runs_K3 (nx0 : (Option Addr × Nat × Nat) × Bool × Int × Int × Unit → Hp → Prop) (K : Value → Hp → Prop) : Exit → Env → Hp → Prop := thenE (fun env h => getV [(3, .slice), (4, .bool), (5, .int .i64), (9, .int .i64)] env fun s => nx0 s h) (Runs_K2  K)
def Runs_K4 (nx0 : (Option Addr × Nat × Nat) × Bool × Int × Int × Unit → Hp → Prop) (K : Value → Hp → Prop) : Exit → Env → Hp → Prop := thenE (fun env h => sx_1 Try.prog F 33 (cp [1, 1, 1, 0, 1, 2, 2, 1, 1, 1] (bodyOf Try.f25)) (ap [1, 1, 1, 0, 1, 2, 1, 1, 1] Runs_an) (rs [0, 3, 4, 5, 8, 9] env) h (Runs_K3 nx0 K)) (Runs_K3 nx0 K)
def Runs_K5 (nx0 : (Option Addr × Nat × Nat) × Bool × Int × Int × Unit → Hp → Prop) (K : Value → Hp → Prop) : Exit → Env → Hp → Prop := blockE 1 (Runs_K4 nx0 K)
def Runs_b0 (v : Option Addr) (h : Hp)  (K : Value → Hp → Prop) : Prop :=
  sx_3 Try.prog F 33 (cp [] (bodyOf Try.f25)) (ap [] Runs_an) [(0, .pointer v)] h (Runs_K0  K)
def Runs_b1 (out : Option Addr) (outL : Nat) (outC : Nat) (bit : Bool) (nv : Int) (t9 : Int) (v : Option Addr) (t8 : Int) (h : Hp) (nx0 : (Option Addr × Nat × Nat) × Bool × Int × Int × Unit → Hp → Prop) (K : Value → Hp → Prop) : Prop :=
  sx_2 Try.prog F 33 (cp [1, 1, 1, 0, 1, 2, 2] (bodyOf Try.f25)) (ap [1, 1, 1, 0, 1, 2] Runs_an) [(3, .slice out outL outC), (4, .bool bit), (5, .int .i64 nv), (9, .int .i64 t9), (0, .pointer v), (8, .int .i64 t8)] h (Runs_K3 nx0 K)
def Runs_b2 (v : Option Addr) (out : Option Addr) (outL : Nat) (outC : Nat) (bit : Bool) (nv : Int) (t8 : Int) (t9 : Int) (h : Hp) (nx0 : (Option Addr × Nat × Nat) × Bool × Int × Int × Unit → Hp → Prop) (K : Value → Hp → Prop) : Prop :=
  sx_1 Try.prog F 33 (cp [1, 1, 1, 0, 1, 2, 2, 1, 1, 0, 2, 1, 1] (bodyOf Try.f25)) (ap [1, 1, 1, 0, 1, 2, 1, 1, 0, 1, 1] Runs_an) [(0, .pointer v), (3, .slice out outL outC), (4, .bool bit), (5, .int .i64 nv), (8, .int .i64 t8), (9, .int .i64 t9)] h (Runs_K5 nx0 K)
def Runs_b3 (out : Option Addr) (outL : Nat) (outC : Nat) (nv : Int) (h : Hp)  (K : Value → Hp → Prop) : Prop :=
  sx_2 Try.prog F 33 (cp [1, 1, 1, 1] (bodyOf Try.f25)) (ap [1, 1, 1, 1] Runs_an) [(3, .slice out outL outC), (5, .int .i64 nv)] h (Runs_K0  K)
def Runs_b4 (v : Option Addr) (out : Option Addr) (outL : Nat) (outC : Nat) (bit : Bool) (nv : Int) (t8 : Int) (t9 : Int) (h : Hp) (nx0 : (Option Addr × Nat × Nat) × Bool × Int × Int × Unit → Hp → Prop) (K : Value → Hp → Prop) : Prop :=
  sx_1 Try.prog F 33 (cp [1, 1, 1, 0, 1, 2, 2, 1, 1, 1] (bodyOf Try.f25)) (ap [1, 1, 1, 0, 1, 2, 1, 1, 1] Runs_an) [(0, .pointer v), (3, .slice out outL outC), (4, .bool bit), (5, .int .i64 nv), (8, .int .i64 t8), (9, .int .i64 t9)] h (Runs_K3 nx0 K)
def Runs_b5 (out : Option Addr) (outL : Nat) (outC : Nat) (h : Hp)  (K : Value → Hp → Prop) : Prop :=
  sx_1 Try.prog F 33 (cp [1, 1, 1, 1, 1] (bodyOf Try.f25)) (ap [1, 1, 1, 1, 1] Runs_an) [(3, .slice out outL outC)] h (Runs_K0  K)
theorem Runs_b0_eq (v : Option Addr) (h : Hp)  (K : Value → Hp → Prop) : Runs_b0 v h  K = (
  HCalls Try.prog 20 #[.pointer v] h fun v1 h1 => ∃ r1 : Int, v1 = .int .i64 r1 ∧
  LoopVC (((none, 0, 0), false, 0, 0, ()) : (Option Addr × Nat × Nat) × Bool × Int × Int × Unit) h1 (fun (nx0 : (Option Addr × Nat × Nat) × Bool × Int × Int × Unit → Hp → Prop) (s1 : (Option Addr × Nat × Nat) × Bool × Int × Int × Unit) h2 => Runs_b1 s1.1.1 s1.1.2.1 s1.1.2.2 s1.2.1 s1.2.2.1 s1.2.2.2.1 v r1 h2 nx0 K)) := by kernel_rfl
theorem Runs_b1_eq (out : Option Addr) (outL : Nat) (outC : Nat) (bit : Bool) (nv : Int) (t9 : Int) (v : Option Addr) (t8 : Int) (h : Hp) (nx0 : (Option Addr × Nat × Nat) × Bool × Int × Int × Unit → Hp → Prop) (K : Value → Hp → Prop) : Runs_b1 out outL outC bit nv t9 v t8 h nx0 K = (
  cond (decide (t9 < t8))
  (HCalls Try.prog 37 #[.pointer v, .int .i64 t9] h fun v2 h3 => ∃ r2 : Bool, v2 = .bool r2 ∧
  cond (!(r2 == bit))
  (New h3 (.cells #[.int .i64 nv] 3) fun b1 h4 =>
  appendV Try.prog 37 37 (.slice out outL outC) (.slice (some ⟨b1, 0, none⟩) 1 1) h4 (slK fun a1 l1 c1 h5 =>
  Runs_b2 v a1 l1 c1 (!bit) 0 t8 t9 h5 nx0 K))
  (Runs_b2 v out outL outC bit nv t8 t9 h3 nx0 K))
  (Runs_b3 out outL outC nv h  K)) := by kernel_rfl
theorem Runs_b2_eq (v : Option Addr) (out : Option Addr) (outL : Nat) (outC : Nat) (bit : Bool) (nv : Int) (t8 : Int) (t9 : Int) (h : Hp) (nx0 : (Option Addr × Nat × Nat) × Bool × Int × Int × Unit → Hp → Prop) (K : Value → Hp → Prop) : Runs_b2 v out outL outC bit nv t8 t9 h nx0 K = (
  InR (nv + 1) ∧
  Runs_b4 v out outL outC bit (nv + 1) t8 t9 h nx0 K) := by kernel_rfl
theorem Runs_b3_eq (out : Option Addr) (outL : Nat) (outC : Nat) (nv : Int) (h : Hp)  (K : Value → Hp → Prop) : Runs_b3 out outL outC nv h  K = (
  cond (decide ((0 : Int) < nv))
  (New h (.cells #[.int .i64 nv] 3) fun b2 h6 =>
  appendV Try.prog 37 37 (.slice out outL outC) (.slice (some ⟨b2, 0, none⟩) 1 1) h6 (slK fun a2 l2 c2 h7 =>
  Runs_b5 a2 l2 c2 h7  K))
  (Runs_b5 out outL outC h  K)) := by kernel_rfl
theorem Runs_b4_eq (v : Option Addr) (out : Option Addr) (outL : Nat) (outC : Nat) (bit : Bool) (nv : Int) (t8 : Int) (t9 : Int) (h : Hp) (nx0 : (Option Addr × Nat × Nat) × Bool × Int × Int × Unit → Hp → Prop) (K : Value → Hp → Prop) : Runs_b4 v out outL outC bit nv t8 t9 h nx0 K = (
  InR (t9 + 1) ∧
  nx0 ((out, outL, outC), bit, nv, t9 + 1, ()) h) := by kernel_rfl
theorem Runs_b5_eq (out : Option Addr) (outL : Nat) (outC : Nat) (h : Hp)  (K : Value → Hp → Prop) : Runs_b5 out outL outC h  K = (
  K (.slice out outL outC) h) := by kernel_rfl
theorem Runs_call {v : Option Addr} {h : Hp} {K : Value → Hp → Prop} (hk : Runs_b0 v h K) : HCalls Try.prog 25 #[.pointer v] h K :=
  calls_of_snd Runs_an Try.func25 (c := bodyOf Try.f25) rfl Try.ntmps25 (Nat.le_of_ble_eq_true rfl) (snd_3 F_ok F_mixed) hk

/-! ### Encode -/
def Encode_an : Ann := .node none (.leaf) (.node none (.leaf) (.node none (.tail 23) (.node (some [3]) (.node none (.leaf) (.loop [0, 34] [(3, .slice), (35, .int .i64)] (.node none (.leaf) (.node none (.leaf) (.node (some [0, 3, 34, 35]) (.node none (.leaf) (.node (some [0, 3, 4, 34, 35]) (.leaf) (.node none (.leaf) (.node none (.tail 11) (.leaf))))) (.leaf)))))) (.leaf))))
def Encode_K0  (K : Value → Hp → Prop) : Exit → Env → Hp → Prop := retK Try.prog Try.f28.results.toList K
def Encode_K1  (K : Value → Hp → Prop) : Exit → Env → Hp → Prop := thenE (fun env h => sx_2 Try.prog F 60 (cp [1, 1, 1, 1] (bodyOf Try.f28)) (ap [1, 1, 1, 1] Encode_an) (rs [3] env) h (Encode_K0  K)) (Encode_K0  K)
def Encode_K2  (K : Value → Hp → Prop) : Exit → Env → Hp → Prop := blockE 0 (Encode_K1  K)
def Encode_K3 (nx0 : (Option Addr × Nat × Nat) × Int × Unit → Hp → Prop) (K : Value → Hp → Prop) : Exit → Env → Hp → Prop := thenE (fun env h => getV [(3, .slice), (35, .int .i64)] env fun s => nx0 s h) (Encode_K2  K)
def Encode_K4 (nx0 : (Option Addr × Nat × Nat) × Int × Unit → Hp → Prop) (K : Value → Hp → Prop) : Exit → Env → Hp → Prop := thenE (fun env h => sx_1 Try.prog F 60 (cp [1, 1, 1, 0, 1, 2, 2, 1, 1, 1] (bodyOf Try.f28)) (ap [1, 1, 1, 0, 1, 2, 1, 1, 1] Encode_an) (rs [0, 3, 34, 35] env) h (Encode_K3 nx0 K)) (Encode_K3 nx0 K)
def Encode_K5 (nx0 : (Option Addr × Nat × Nat) × Int × Unit → Hp → Prop) (K : Value → Hp → Prop) : Exit → Env → Hp → Prop := blockE 1 (Encode_K4 nx0 K)
def Encode_b0 (v : Option Addr) (h : Hp)  (K : Value → Hp → Prop) : Prop :=
  sx_3 Try.prog F 60 (cp [] (bodyOf Try.f28)) (ap [] Encode_an) [(0, .pointer v)] h (Encode_K0  K)
def Encode_b1 (out : Option Addr) (outL : Nat) (outC : Nat) (t35 : Int) (v : Option Addr) (t34 : Int) (h : Hp) (nx0 : (Option Addr × Nat × Nat) × Int × Unit → Hp → Prop) (K : Value → Hp → Prop) : Prop :=
  sx_2 Try.prog F 60 (cp [1, 1, 1, 0, 1, 2, 2] (bodyOf Try.f28)) (ap [1, 1, 1, 0, 1, 2] Encode_an) [(3, .slice out outL outC), (35, .int .i64 t35), (0, .pointer v), (34, .int .i64 t34)] h (Encode_K3 nx0 K)
def Encode_b2 (v : Option Addr) (out : Option Addr) (outL : Nat) (outC : Nat) (i : Int) (t34 : Int) (t35 : Int) (h : Hp) (nx0 : (Option Addr × Nat × Nat) × Int × Unit → Hp → Prop) (K : Value → Hp → Prop) : Prop :=
  sx_1 Try.prog F 60 (cp [1, 1, 1, 0, 1, 2, 2, 1, 1, 0, 2, 1, 1] (bodyOf Try.f28)) (ap [1, 1, 1, 0, 1, 2, 1, 1, 0, 1, 1] Encode_an) [(0, .pointer v), (3, .slice out outL outC), (4, .int .i64 i), (34, .int .i64 t34), (35, .int .i64 t35)] h (Encode_K5 nx0 K)
def Encode_b3 (out : Option Addr) (outL : Nat) (outC : Nat) (h : Hp)  (K : Value → Hp → Prop) : Prop :=
  sx_2 Try.prog F 60 (cp [1, 1, 1, 1] (bodyOf Try.f28)) (ap [1, 1, 1, 1] Encode_an) [(3, .slice out outL outC)] h (Encode_K0  K)
def Encode_b4 (v : Option Addr) (out : Option Addr) (outL : Nat) (outC : Nat) (t34 : Int) (t35 : Int) (h : Hp) (nx0 : (Option Addr × Nat × Nat) × Int × Unit → Hp → Prop) (K : Value → Hp → Prop) : Prop :=
  sx_1 Try.prog F 60 (cp [1, 1, 1, 0, 1, 2, 2, 1, 1, 1] (bodyOf Try.f28)) (ap [1, 1, 1, 0, 1, 2, 1, 1, 1] Encode_an) [(0, .pointer v), (3, .slice out outL outC), (34, .int .i64 t34), (35, .int .i64 t35)] h (Encode_K3 nx0 K)
theorem Encode_b0_eq (v : Option Addr) (h : Hp)  (K : Value → Hp → Prop) : Encode_b0 v h  K = (
  cond v.isNone
  (K (.slice none 0 0) h)
  (NN v fun a1 =>
  ∃ n1 : Int, cell h a1 = some (.int .i64 n1) ∧
  ∃ sr1 : Int, Sx.Shr .i64 n1 24 sr1 ∧
  NN v fun a2 =>
  ∃ n2 : Int, cell h a2 = some (.int .i64 n2) ∧
  ∃ sr2 : Int, Sx.Shr .i64 n2 16 sr2 ∧
  NN v fun a3 =>
  ∃ n3 : Int, cell h a3 = some (.int .i64 n3) ∧
  ∃ sr3 : Int, Sx.Shr .i64 n3 8 sr3 ∧
  NN v fun a4 =>
  ∃ n4 : Int, cell h a4 = some (.int .i64 n4) ∧
  New h (.cells #[.int .u8 (IntKind.u8.wrap sr1), .int .u8 (IntKind.u8.wrap sr2), .int .u8 (IntKind.u8.wrap sr3), .int .u8 (IntKind.u8.wrap n4)] 5) fun b1 h1 =>
  NN v fun a5 =>
  ∃ n5 : Int, cell h1 a5 = some (.int .i64 n5) ∧
  LoopVC (((some ⟨b1, 0, none⟩, 4, 4), 0, ()) : (Option Addr × Nat × Nat) × Int × Unit) h1 (fun (nx0 : (Option Addr × Nat × Nat) × Int × Unit → Hp → Prop) (s1 : (Option Addr × Nat × Nat) × Int × Unit) h2 => Encode_b1 s1.1.1 s1.1.2.1 s1.1.2.2 s1.2.1 v n5 h2 nx0 K))) := by kernel_rfl
theorem Encode_b1_eq (out : Option Addr) (outL : Nat) (outC : Nat) (t35 : Int) (v : Option Addr) (t34 : Int) (h : Hp) (nx0 : (Option Addr × Nat × Nat) × Int × Unit → Hp → Prop) (K : Value → Hp → Prop) : Encode_b1 out outL outC t35 v t34 h nx0 K = (
  cond (decide (t35 < t34))
  (∃ r1 : Int, Sx.Rem t35 8 r1 ∧
  cond (decide (r1 = 0))
  (New h (.cells #[.int .u8 0] 5) fun b2 h3 =>
  appendV Try.prog 43 43 (.slice out outL outC) (.slice (some ⟨b2, 0, none⟩) 1 1) h3 (slK fun a6 l1 c1 h4 =>
  Encode_b2 v a6 l1 c1 t35 t34 t35 h4 nx0 K))
  (Encode_b2 v out outL outC t35 t34 t35 h nx0 K))
  (Encode_b3 out outL outC h  K)) := by kernel_rfl
theorem Encode_b2_eq (v : Option Addr) (out : Option Addr) (outL : Nat) (outC : Nat) (i : Int) (t34 : Int) (t35 : Int) (h : Hp) (nx0 : (Option Addr × Nat × Nat) × Int × Unit → Hp → Prop) (K : Value → Hp → Prop) : Encode_b2 v out outL outC i t34 t35 h nx0 K = (
  HCalls Try.prog 37 #[.pointer v, .int .i64 i] h fun v1 h5 => ∃ r2 : Bool, v1 = .bool r2 ∧
  cond r2
  (InR ((outL : Int) - 1) ∧
  (0 ≤ (outL : Int) - 1 ∧ (outL : Int) - 1 < (outL : Int)) ∧
  NN out fun a7 =>
  ∃ n6 : Int, cell h5 (a7.add (Int.toNat ((outL : Int) - 1) * 1)) = some (.int .u8 n6) ∧
  ∃ r3 : Int, Sx.Rem i 8 r3 ∧
  ∃ sr4 : Int, Sx.Shr .u8 128 r3 sr4 ∧
  ∃ or1 : Int, Sx.Or .u8 n6 sr4 or1 ∧
  (0 ≤ (outL : Int) - 1 ∧ (outL : Int) - 1 < (outL : Int)) ∧
  NN out fun a8 =>
  Wr h5 (a8.add (Int.toNat ((outL : Int) - 1) * 1)) (.int .u8 or1) fun h6 =>
  Encode_b4 v out outL outC t34 t35 h6 nx0 K)
  (Encode_b4 v out outL outC t34 t35 h5 nx0 K)) := by kernel_rfl
theorem Encode_b3_eq (out : Option Addr) (outL : Nat) (outC : Nat) (h : Hp)  (K : Value → Hp → Prop) : Encode_b3 out outL outC h  K = (
  K (.slice out outL outC) h) := by kernel_rfl
theorem Encode_b4_eq (v : Option Addr) (out : Option Addr) (outL : Nat) (outC : Nat) (t34 : Int) (t35 : Int) (h : Hp) (nx0 : (Option Addr × Nat × Nat) × Int × Unit → Hp → Prop) (K : Value → Hp → Prop) : Encode_b4 v out outL outC t34 t35 h nx0 K = (
  InR (t35 + 1) ∧
  nx0 ((out, outL, outC), t35 + 1, ()) h) := by kernel_rfl
theorem Encode_call {v : Option Addr} {h : Hp} {K : Value → Hp → Prop} (hk : Encode_b0 v h K) : HCalls Try.prog 28 #[.pointer v] h K :=
  calls_of_snd Encode_an Try.func28 (c := bodyOf Try.f28) rfl Try.ntmps28 (Nat.le_of_ble_eq_true rfl) (snd_3 F_ok F_mixed) hk

/-! ### Decode -/
def Decode_an : Ann := .node none (.leaf) (.node none (.leaf) (.node none (.leaf) (.node none (.leaf) (.node none (.leaf) (.node none (.leaf) (.node (some [0, 4, 5]) (.leaf) (.node none (.leaf) (.node (some [4, 6]) (.node none (.leaf) (.loop [0, 4, 6, 54] [(55, .int .i64)] (.node none (.leaf) (.node none (.leaf) (.node (some [0, 4, 6, 54, 55]) (.leaf) (.leaf)))))) (.leaf)))))))))
def Decode_K0  (K : Value → Hp → Prop) : Exit → Env → Hp → Prop := retK Try.prog Try.f31.results.toList K
def Decode_K1  (K : Value → Hp → Prop) : Exit → Env → Hp → Prop := thenE (fun env h => sx_2 Try.prog F 83 (cp [1, 1, 1, 1, 1, 1, 1, 1, 1] (bodyOf Try.f31)) (ap [1, 1, 1, 1, 1, 1, 1, 1, 1] Decode_an) (rs [4, 6] env) h (Decode_K0  K)) (Decode_K0  K)
def Decode_K2  (K : Value → Hp → Prop) : Exit → Env → Hp → Prop := blockE 1 (Decode_K1  K)
def Decode_K3 (nx0 : Int × Unit → Hp → Prop) (K : Value → Hp → Prop) : Exit → Env → Hp → Prop := thenE (fun env h => getV [(55, .int .i64)] env fun s => nx0 s h) (Decode_K2  K)
def Decode_b0 (b : Option Addr) (bL : Nat) (bC : Nat) (h : Hp)  (K : Value → Hp → Prop) : Prop :=
  sx_4 Try.prog F 83 (cp [] (bodyOf Try.f31)) (ap [] Decode_an) [(0, .slice b bL bC)] h (Decode_K0  K)
def Decode_b1 (b : Option Addr) (bL : Nat) (bC : Nat) (nv : Int) (size : Int) (h : Hp)  (K : Value → Hp → Prop) : Prop :=
  sx_3 Try.prog F 83 (cp [1, 1, 1, 1, 1, 1, 1] (bodyOf Try.f31)) (ap [1, 1, 1, 1, 1, 1, 1] Decode_an) [(0, .slice b bL bC), (4, .int .i64 nv), (5, .int .i64 size)] h (Decode_K0  K)
def Decode_b2 (t55 : Int) (b : Option Addr) (bL : Nat) (bC : Nat) (nv : Int) (l : Option Addr) (lL : Nat) (lC : Nat) (t54 : Int) (h : Hp) (nx0 : Int × Unit → Hp → Prop) (K : Value → Hp → Prop) : Prop :=
  sx_2 Try.prog F 83 (cp [1, 1, 1, 1, 1, 1, 1, 1, 0, 1, 2, 2] (bodyOf Try.f31)) (ap [1, 1, 1, 1, 1, 1, 1, 1, 0, 1, 2] Decode_an) [(55, .int .i64 t55), (0, .slice b bL bC), (4, .int .i64 nv), (6, .slice l lL lC), (54, .int .i64 t54)] h (Decode_K3 nx0 K)
def Decode_b3 (b : Option Addr) (bL : Nat) (bC : Nat) (nv : Int) (l : Option Addr) (lL : Nat) (lC : Nat) (t54 : Int) (t55 : Int) (h : Hp) (nx0 : Int × Unit → Hp → Prop) (K : Value → Hp → Prop) : Prop :=
  sx_1 Try.prog F 83 (cp [1, 1, 1, 1, 1, 1, 1, 1, 0, 1, 2, 2, 1, 1, 1] (bodyOf Try.f31)) (ap [1, 1, 1, 1, 1, 1, 1, 1, 0, 1, 2, 1, 1, 1] Decode_an) [(0, .slice b bL bC), (4, .int .i64 nv), (6, .slice l lL lC), (54, .int .i64 t54), (55, .int .i64 t55)] h (Decode_K3 nx0 K)
def Decode_b4 (nv : Int) (l : Option Addr) (lL : Nat) (lC : Nat) (h : Hp)  (K : Value → Hp → Prop) : Prop :=
  sx_2 Try.prog F 83 (cp [1, 1, 1, 1, 1, 1, 1, 1, 1] (bodyOf Try.f31)) (ap [1, 1, 1, 1, 1, 1, 1, 1, 1] Decode_an) [(4, .int .i64 nv), (6, .slice l lL lC)] h (Decode_K0  K)
theorem Decode_b0_eq (b : Option Addr) (bL : Nat) (bC : Nat) (h : Hp)  (K : Value → Hp → Prop) : Decode_b0 b bL bC h  K = (
  cond (decide ((bL : Int) < 4))
  (K (.tuple #[.pointer none, .int .i64 8]) h)
  ((0 ≤ (0 : Int) ∧ (0 : Int) < (bL : Int)) ∧
  NN b fun a1 =>
  ∃ n1 : Int, cell h (a1.add (Int.toNat (0 : Int) * 1)) = some (.int .u8 n1) ∧
  InR n1 ∧
  ∃ sl1 : Int, Sx.Shl .i64 n1 24 sl1 ∧
  (0 ≤ (1 : Int) ∧ (1 : Int) < (bL : Int)) ∧
  NN b fun a2 =>
  ∃ n2 : Int, cell h (a2.add (Int.toNat (1 : Int) * 1)) = some (.int .u8 n2) ∧
  InR n2 ∧
  ∃ sl2 : Int, Sx.Shl .i64 n2 16 sl2 ∧
  ∃ or1 : Int, Sx.Or .i64 sl1 sl2 or1 ∧
  (0 ≤ (2 : Int) ∧ (2 : Int) < (bL : Int)) ∧
  NN b fun a3 =>
  ∃ n3 : Int, cell h (a3.add (Int.toNat (2 : Int) * 1)) = some (.int .u8 n3) ∧
  InR n3 ∧
  ∃ sl3 : Int, Sx.Shl .i64 n3 8 sl3 ∧
  ∃ or2 : Int, Sx.Or .i64 or1 sl3 or2 ∧
  (0 ≤ (3 : Int) ∧ (3 : Int) < (bL : Int)) ∧
  NN b fun a4 =>
  ∃ n4 : Int, cell h (a4.add (Int.toNat (3 : Int) * 1)) = some (.int .u8 n4) ∧
  InR n4 ∧
  ∃ or3 : Int, Sx.Or .i64 or2 n4 or3 ∧
  cond (decide ((65536 : Int) < or3))
  (K (.tuple #[.pointer none, .int .i64 4]) h)
  ((0 ≤ (4 : Int) ∧ (4 : Int) ≤ (bL : Int) ∧ (bL : Int) ≤ (bC : Int)) ∧
  InR (or3 + 7) ∧
  ∃ q1 : Int, Sx.Quo .i64 (or3 + 7) 8 q1 ∧
  cond (decide (((Int.toNat (bL : Int) - Int.toNat (4 : Int) : Nat) : Int) < q1))
  (K (.tuple #[.pointer none, .int .i64 8]) h)
  (cond (decide (q1 < ((Int.toNat (bL : Int) - Int.toNat (4 : Int) : Nat) : Int)))
  (K (.tuple #[.pointer none, .int .i64 7]) h)
  (Decode_b1 (subAddr b bC (Int.toNat (4 : Int)) 1) (Int.toNat (bL : Int) - Int.toNat (4 : Int)) (bC - Int.toNat (4 : Int)) or3 q1 h  K))))) := by kernel_rfl
theorem Decode_b1_eq (b : Option Addr) (bL : Nat) (bC : Nat) (nv : Int) (size : Int) (h : Hp)  (K : Value → Hp → Prop) : Decode_b1 b bL bC nv size h  K = (
  InR (8 * size) ∧
  (0 ≤ 8 * size ∧ 8 * size ≤ 8 * size ∧ 8 * size ≤ 281474976710656 ∧ (8 * size) * ((1 : Nat) : Int) ≤ 281474976710656) ∧
  New h (.cells (repL (Int.toNat (8 * size) * 1) [.bool false]).toArray 4) fun b1 h1 =>
  LoopVC ((0, ()) : Int × Unit) h1 (fun (nx0 : Int × Unit → Hp → Prop) (s1 : Int × Unit) h2 => Decode_b2 s1.1 b bL bC nv (some ⟨b1, 0, none⟩) (Int.toNat (8 * size)) (Int.toNat (8 * size)) ((Int.toNat (8 * size) : Nat) : Int) h2 nx0 K)) := by kernel_rfl
theorem Decode_b2_eq (t55 : Int) (b : Option Addr) (bL : Nat) (bC : Nat) (nv : Int) (l : Option Addr) (lL : Nat) (lC : Nat) (t54 : Int) (h : Hp) (nx0 : Int × Unit → Hp → Prop) (K : Value → Hp → Prop) : Decode_b2 t55 b bL bC nv l lL lC t54 h nx0 K = (
  cond (decide (t55 < t54))
  (∃ q2 : Int, Sx.Quo .i64 t55 8 q2 ∧
  (0 ≤ q2 ∧ q2 < (bL : Int)) ∧
  NN b fun a5 =>
  ∃ n5 : Int, cell h (a5.add (Int.toNat q2 * 1)) = some (.int .u8 n5) ∧
  ∃ r1 : Int, Sx.Rem t55 8 r1 ∧
  InR (7 - r1) ∧
  ∃ sr1 : Int, Sx.Shr .u8 n5 (7 - r1) sr1 ∧
  ∃ an1 : Int, Sx.And .u8 sr1 1 an1 ∧
  (0 ≤ t55 ∧ t55 < (lL : Int)) ∧
  NN l fun a6 =>
  Wr h (a6.add (Int.toNat t55 * 1)) (.bool (decide (an1 = 1))) fun h3 =>
  Decode_b3 b bL bC nv l lL lC t54 t55 h3 nx0 K)
  (Decode_b4 nv l lL lC h  K)) := by kernel_rfl
theorem Decode_b3_eq (b : Option Addr) (bL : Nat) (bC : Nat) (nv : Int) (l : Option Addr) (lL : Nat) (lC : Nat) (t54 : Int) (t55 : Int) (h : Hp) (nx0 : Int × Unit → Hp → Prop) (K : Value → Hp → Prop) : Decode_b3 b bL bC nv l lL lC t54 t55 h nx0 K = (
  InR (t55 + 1) ∧
  nx0 (t55 + 1, ()) h) := by kernel_rfl
theorem Decode_b4_eq (nv : Int) (l : Option Addr) (lL : Nat) (lC : Nat) (h : Hp)  (K : Value → Hp → Prop) : Decode_b4 nv l lL lC h  K = (
  (0 ≤ nv ∧ nv ≤ (lL : Int) ∧ (lL : Int) ≤ (lC : Int)) ∧
  HCalls Try.prog 38 #[.slice (subAddr l lC (Int.toNat nv) 1) (Int.toNat (lL : Int) - Int.toNat nv) (lC - Int.toNat nv), .bool true] h fun v1 h4 => ∃ r2 : Bool, v1 = .bool r2 ∧
  cond r2
  (K (.tuple #[.pointer none, .int .i64 7]) h4)
  ((0 ≤ (0 : Int) ∧ (0 : Int) ≤ nv ∧ nv ≤ (lC : Int)) ∧
  HCalls Try.prog 10 #[.slice (subAddr l lC (Int.toNat (0 : Int)) 1) (Int.toNat nv - Int.toNat (0 : Int)) (lC - Int.toNat (0 : Int))] h4 fun v2 h5 => ∃ r3 : Option Addr, ∃ r4 : Int, v2 = .tuple #[.pointer r3, .int .i64 r4] ∧
  K (.tuple #[.pointer r3, .int .i64 r4]) h5)) := by kernel_rfl
theorem Decode_call {b : Option Addr} {bL : Nat} {bC : Nat} {h : Hp} {K : Value → Hp → Prop} (hk : Decode_b0 b bL bC h K) : HCalls Try.prog 31 #[.slice b bL bC] h K :=
  calls_of_snd Decode_an Try.func31 (c := bodyOf Try.f31) rfl Try.ntmps31 (Nat.le_of_ble_eq_true rfl) (snd_4 F_ok F_mixed) hk

/-! ### EqB -/
def EqB_an : Ann := .node none (.leaf) (.node none (.leaf) (.node (some []) (.node none (.leaf) (.loop [0, 1, 12] [(13, .int .i64)] (.node none (.leaf) (.node none (.leaf) (.node (some [0, 1, 12, 13]) (.leaf) (.leaf)))))) (.leaf)))
def EqB_K0  (K : Value → Hp → Prop) : Exit → Env → Hp → Prop := retK Try.prog Try.f22.results.toList K
def EqB_K1  (K : Value → Hp → Prop) : Exit → Env → Hp → Prop := thenE (fun env h => sx_2 Try.prog F 26 (cp [1, 1, 1] (bodyOf Try.f22)) (ap [1, 1, 1] EqB_an) (rs [] env) h (EqB_K0  K)) (EqB_K0  K)
def EqB_K2  (K : Value → Hp → Prop) : Exit → Env → Hp → Prop := blockE 0 (EqB_K1  K)
def EqB_K3 (nx0 : Int × Unit → Hp → Prop) (K : Value → Hp → Prop) : Exit → Env → Hp → Prop := thenE (fun env h => getV [(13, .int .i64)] env fun s => nx0 s h) (EqB_K2  K)
def EqB_b0 (s1 : Option Addr) (s1L : Nat) (s1C : Nat) (s2 : Option Addr) (s2L : Nat) (s2C : Nat) (h : Hp)  (K : Value → Hp → Prop) : Prop :=
  sx_3 Try.prog F 26 (cp [] (bodyOf Try.f22)) (ap [] EqB_an) [(0, .slice s1 s1L s1C), (1, .slice s2 s2L s2C)] h (EqB_K0  K)
def EqB_b1 (t13 : Int) (s1 : Option Addr) (s1L : Nat) (s1C : Nat) (s2 : Option Addr) (s2L : Nat) (s2C : Nat) (t12 : Int) (h : Hp) (nx0 : Int × Unit → Hp → Prop) (K : Value → Hp → Prop) : Prop :=
  sx_2 Try.prog F 26 (cp [1, 1, 0, 1, 2, 2] (bodyOf Try.f22)) (ap [1, 1, 0, 1, 2] EqB_an) [(13, .int .i64 t13), (0, .slice s1 s1L s1C), (1, .slice s2 s2L s2C), (12, .int .i64 t12)] h (EqB_K3 nx0 K)
def EqB_b2 (s1 : Option Addr) (s1L : Nat) (s1C : Nat) (s2 : Option Addr) (s2L : Nat) (s2C : Nat) (t12 : Int) (t13 : Int) (h : Hp) (nx0 : Int × Unit → Hp → Prop) (K : Value → Hp → Prop) : Prop :=
  sx_1 Try.prog F 26 (cp [1, 1, 0, 1, 2, 2, 1, 1, 1] (bodyOf Try.f22)) (ap [1, 1, 0, 1, 2, 1, 1, 1] EqB_an) [(0, .slice s1 s1L s1C), (1, .slice s2 s2L s2C), (12, .int .i64 t12), (13, .int .i64 t13)] h (EqB_K3 nx0 K)
def EqB_b3  (h : Hp)  (K : Value → Hp → Prop) : Prop :=
  sx_2 Try.prog F 26 (cp [1, 1, 1] (bodyOf Try.f22)) (ap [1, 1, 1] EqB_an) [] h (EqB_K0  K)
theorem EqB_b0_eq (s1 : Option Addr) (s1L : Nat) (s1C : Nat) (s2 : Option Addr) (s2L : Nat) (s2C : Nat) (h : Hp)  (K : Value → Hp → Prop) : EqB_b0 s1 s1L s1C s2 s2L s2C h  K = (
  cond (!decide ((s1L : Int) = (s2L : Int)))
  (K (.bool false) h)
  (LoopVC ((0, ()) : Int × Unit) h (fun (nx0 : Int × Unit → Hp → Prop) (s3 : Int × Unit) h1 => EqB_b1 s3.1 s1 s1L s1C s2 s2L s2C (s1L : Int) h1 nx0 K))) := by kernel_rfl
theorem EqB_b1_eq (t13 : Int) (s1 : Option Addr) (s1L : Nat) (s1C : Nat) (s2 : Option Addr) (s2L : Nat) (s2C : Nat) (t12 : Int) (h : Hp) (nx0 : Int × Unit → Hp → Prop) (K : Value → Hp → Prop) : EqB_b1 t13 s1 s1L s1C s2 s2L s2C t12 h nx0 K = (
  cond (decide (t13 < t12))
  ((0 ≤ t13 ∧ t13 < (s1L : Int)) ∧
  NN s1 fun a1 =>
  ∃ b1 : Bool, cell h (a1.add (Int.toNat t13 * 1)) = some (.bool b1) ∧
  (0 ≤ t13 ∧ t13 < (s2L : Int)) ∧
  NN s2 fun a2 =>
  ∃ b2 : Bool, cell h (a2.add (Int.toNat t13 * 1)) = some (.bool b2) ∧
  cond (!(b1 == b2))
  (K (.bool false) h)
  (EqB_b2 s1 s1L s1C s2 s2L s2C t12 t13 h nx0 K))
  (EqB_b3  h  K)) := by kernel_rfl
theorem EqB_b2_eq (s1 : Option Addr) (s1L : Nat) (s1C : Nat) (s2 : Option Addr) (s2L : Nat) (s2C : Nat) (t12 : Int) (t13 : Int) (h : Hp) (nx0 : Int × Unit → Hp → Prop) (K : Value → Hp → Prop) : EqB_b2 s1 s1L s1C s2 s2L s2C t12 t13 h nx0 K = (
  InR (t13 + 1) ∧
  nx0 (t13 + 1, ()) h) := by kernel_rfl
theorem EqB_b3_eq  (h : Hp)  (K : Value → Hp → Prop) : EqB_b3  h  K = (
  K (.bool true) h) := by kernel_rfl
theorem EqB_call {s1 : Option Addr} {s1L : Nat} {s1C : Nat} {s2 : Option Addr} {s2L : Nat} {s2C : Nat} {h : Hp} {K : Value → Hp → Prop} (hk : EqB_b0 s1 s1L s1C s2 s2L s2C h K) : HCalls Try.prog 22 #[.slice s1 s1L s1C, .slice s2 s2L s2C] h K :=
  calls_of_snd EqB_an Try.func22 (c := bodyOf Try.f22) rfl Try.ntmps22 (Nat.le_of_ble_eq_true rfl) (snd_3 F_ok F_mixed) hk

/-! ### EqI -/
def EqI_an : Ann := .node none (.leaf) (.node none (.leaf) (.node (some []) (.node none (.leaf) (.loop [0, 1, 12] [(13, .int .i64)] (.node none (.leaf) (.node none (.leaf) (.node (some [0, 1, 12, 13]) (.leaf) (.leaf)))))) (.leaf)))
def EqI_K0  (K : Value → Hp → Prop) : Exit → Env → Hp → Prop := retK Try.prog Try.f24.results.toList K
def EqI_K1  (K : Value → Hp → Prop) : Exit → Env → Hp → Prop := thenE (fun env h => sx_2 Try.prog F 26 (cp [1, 1, 1] (bodyOf Try.f24)) (ap [1, 1, 1] EqI_an) (rs [] env) h (EqI_K0  K)) (EqI_K0  K)
def EqI_K2  (K : Value → Hp → Prop) : Exit → Env → Hp → Prop := blockE 0 (EqI_K1  K)
def EqI_K3 (nx0 : Int × Unit → Hp → Prop) (K : Value → Hp → Prop) : Exit → Env → Hp → Prop := thenE (fun env h => getV [(13, .int .i64)] env fun s => nx0 s h) (EqI_K2  K)
def EqI_b0 (s1 : Option Addr) (s1L : Nat) (s1C : Nat) (s2 : Option Addr) (s2L : Nat) (s2C : Nat) (h : Hp)  (K : Value → Hp → Prop) : Prop :=
  sx_3 Try.prog F 26 (cp [] (bodyOf Try.f24)) (ap [] EqI_an) [(0, .slice s1 s1L s1C), (1, .slice s2 s2L s2C)] h (EqI_K0  K)
def EqI_b1 (t13 : Int) (s1 : Option Addr) (s1L : Nat) (s1C : Nat) (s2 : Option Addr) (s2L : Nat) (s2C : Nat) (t12 : Int) (h : Hp) (nx0 : Int × Unit → Hp → Prop) (K : Value → Hp → Prop) : Prop :=
  sx_2 Try.prog F 26 (cp [1, 1, 0, 1, 2, 2] (bodyOf Try.f24)) (ap [1, 1, 0, 1, 2] EqI_an) [(13, .int .i64 t13), (0, .slice s1 s1L s1C), (1, .slice s2 s2L s2C), (12, .int .i64 t12)] h (EqI_K3 nx0 K)
def EqI_b2 (s1 : Option Addr) (s1L : Nat) (s1C : Nat) (s2 : Option Addr) (s2L : Nat) (s2C : Nat) (t12 : Int) (t13 : Int) (h : Hp) (nx0 : Int × Unit → Hp → Prop) (K : Value → Hp → Prop) : Prop :=
  sx_1 Try.prog F 26 (cp [1, 1, 0, 1, 2, 2, 1, 1, 1] (bodyOf Try.f24)) (ap [1, 1, 0, 1, 2, 1, 1, 1] EqI_an) [(0, .slice s1 s1L s1C), (1, .slice s2 s2L s2C), (12, .int .i64 t12), (13, .int .i64 t13)] h (EqI_K3 nx0 K)
def EqI_b3  (h : Hp)  (K : Value → Hp → Prop) : Prop :=
  sx_2 Try.prog F 26 (cp [1, 1, 1] (bodyOf Try.f24)) (ap [1, 1, 1] EqI_an) [] h (EqI_K0  K)
theorem EqI_b0_eq (s1 : Option Addr) (s1L : Nat) (s1C : Nat) (s2 : Option Addr) (s2L : Nat) (s2C : Nat) (h : Hp)  (K : Value → Hp → Prop) : EqI_b0 s1 s1L s1C s2 s2L s2C h  K = (
  cond (!decide ((s1L : Int) = (s2L : Int)))
  (K (.bool false) h)
  (LoopVC ((0, ()) : Int × Unit) h (fun (nx0 : Int × Unit → Hp → Prop) (s3 : Int × Unit) h1 => EqI_b1 s3.1 s1 s1L s1C s2 s2L s2C (s1L : Int) h1 nx0 K))) := by kernel_rfl
theorem EqI_b1_eq (t13 : Int) (s1 : Option Addr) (s1L : Nat) (s1C : Nat) (s2 : Option Addr) (s2L : Nat) (s2C : Nat) (t12 : Int) (h : Hp) (nx0 : Int × Unit → Hp → Prop) (K : Value → Hp → Prop) : EqI_b1 t13 s1 s1L s1C s2 s2L s2C t12 h nx0 K = (
  cond (decide (t13 < t12))
  ((0 ≤ t13 ∧ t13 < (s1L : Int)) ∧
  NN s1 fun a1 =>
  ∃ n1 : Int, cell h (a1.add (Int.toNat t13 * 1)) = some (.int .i64 n1) ∧
  (0 ≤ t13 ∧ t13 < (s2L : Int)) ∧
  NN s2 fun a2 =>
  ∃ n2 : Int, cell h (a2.add (Int.toNat t13 * 1)) = some (.int .i64 n2) ∧
  cond (!decide (n1 = n2))
  (K (.bool false) h)
  (EqI_b2 s1 s1L s1C s2 s2L s2C t12 t13 h nx0 K))
  (EqI_b3  h  K)) := by kernel_rfl
theorem EqI_b2_eq (s1 : Option Addr) (s1L : Nat) (s1C : Nat) (s2 : Option Addr) (s2L : Nat) (s2C : Nat) (t12 : Int) (t13 : Int) (h : Hp) (nx0 : Int × Unit → Hp → Prop) (K : Value → Hp → Prop) : EqI_b2 s1 s1L s1C s2 s2L s2C t12 t13 h nx0 K = (
  InR (t13 + 1) ∧
  nx0 (t13 + 1, ()) h) := by kernel_rfl
theorem EqI_b3_eq  (h : Hp)  (K : Value → Hp → Prop) : EqI_b3  h  K = (
  K (.bool true) h) := by kernel_rfl
theorem EqI_call {s1 : Option Addr} {s1L : Nat} {s1C : Nat} {s2 : Option Addr} {s2L : Nat} {s2C : Nat} {h : Hp} {K : Value → Hp → Prop} (hk : EqI_b0 s1 s1L s1C s2 s2L s2C h K) : HCalls Try.prog 24 #[.slice s1 s1L s1C, .slice s2 s2L s2C] h K :=
  calls_of_snd EqI_an Try.func24 (c := bodyOf Try.f24) rfl Try.ntmps24 (Nat.le_of_ble_eq_true rfl) (snd_3 F_ok F_mixed) hk

/-! ### EqBy -/
def EqBy_an : Ann := .leaf
def EqBy_K0  (K : Value → Hp → Prop) : Exit → Env → Hp → Prop := retK Try.prog Try.f29.results.toList K
def EqBy_b0 (a : Option Addr) (aL : Nat) (aC : Nat) (b : Option Addr) (bL : Nat) (bC : Nat) (h : Hp)  (K : Value → Hp → Prop) : Prop :=
  sx_1 Try.prog F 10 (cp [] (bodyOf Try.f29)) (ap [] EqBy_an) [(0, .slice a aL aC), (1, .slice b bL bC)] h (EqBy_K0  K)
theorem EqBy_b0_eq (a : Option Addr) (aL : Nat) (aC : Nat) (b : Option Addr) (bL : Nat) (bC : Nat) (h : Hp)  (K : Value → Hp → Prop) : EqBy_b0 a aL aC b bL bC h  K = (
  hw Try.prog (convert 43 9 (.slice a aL aC)) h (strK fun s1 h1 =>
  hw Try.prog (convert 43 9 (.slice b bL bC)) h1 (strK fun s2 h2 =>
  K (.bool (strEq s1 s2)) h2))) := by kernel_rfl
theorem EqBy_call {a : Option Addr} {aL : Nat} {aC : Nat} {b : Option Addr} {bL : Nat} {bC : Nat} {h : Hp} {K : Value → Hp → Prop} (hk : EqBy_b0 a aL aC b bL bC h K) : HCalls Try.prog 29 #[.slice a aL aC, .slice b bL bC] h K :=
  calls_of_snd EqBy_an Try.func29 (c := bodyOf Try.f29) rfl Try.ntmps29 (Nat.le_of_ble_eq_true rfl) (snd_1 F_ok F_mixed) hk

/-! ### ContB -/
def ContB_an : Ann := .leaf
def ContB_K0  (K : Value → Hp → Prop) : Exit → Env → Hp → Prop := retK Try.prog Try.f38.results.toList K
def ContB_b0 (s : Option Addr) (sL : Nat) (sC : Nat) (v : Bool) (h : Hp)  (K : Value → Hp → Prop) : Prop :=
  sx_1 Try.prog F 9 (cp [] (bodyOf Try.f38)) (ap [] ContB_an) [(0, .slice s sL sC), (1, .bool v)] h (ContB_K0  K)
theorem ContB_b0_eq (s : Option Addr) (sL : Nat) (sC : Nat) (v : Bool) (h : Hp)  (K : Value → Hp → Prop) : ContB_b0 s sL sC v h  K = (
  HCalls Try.prog 41 #[.slice s sL sC, .bool v] h fun v1 h1 => ∃ r1 : Int, v1 = .int .i64 r1 ∧
  K (.bool (decide ((0 : Int) ≤ r1))) h1) := by kernel_rfl
theorem ContB_call {s : Option Addr} {sL : Nat} {sC : Nat} {v : Bool} {h : Hp} {K : Value → Hp → Prop} (hk : ContB_b0 s sL sC v h K) : HCalls Try.prog 38 #[.slice s sL sC, .bool v] h K :=
  calls_of_snd ContB_an Try.func38 (c := bodyOf Try.f38) rfl Try.ntmps38 (Nat.le_of_ble_eq_true rfl) (snd_1 F_ok F_mixed) hk

/-! ### IdxB -/
def IdxB_an : Ann := .node none (.leaf) (.node (some []) (.node none (.leaf) (.loop [0, 1, 7] [(8, .int .i64)] (.node none (.leaf) (.node none (.leaf) (.node (some [0, 1, 7, 8]) (.leaf) (.leaf)))))) (.leaf))
def IdxB_K0  (K : Value → Hp → Prop) : Exit → Env → Hp → Prop := retK Try.prog Try.f41.results.toList K
def IdxB_K1  (K : Value → Hp → Prop) : Exit → Env → Hp → Prop := thenE (fun env h => sx_2 Try.prog F 19 (cp [1, 1] (bodyOf Try.f41)) (ap [1, 1] IdxB_an) (rs [] env) h (IdxB_K0  K)) (IdxB_K0  K)
def IdxB_K2  (K : Value → Hp → Prop) : Exit → Env → Hp → Prop := blockE 0 (IdxB_K1  K)
def IdxB_K3 (nx0 : Int × Unit → Hp → Prop) (K : Value → Hp → Prop) : Exit → Env → Hp → Prop := thenE (fun env h => getV [(8, .int .i64)] env fun s => nx0 s h) (IdxB_K2  K)
def IdxB_b0 (s : Option Addr) (sL : Nat) (sC : Nat) (v : Bool) (h : Hp)  (K : Value → Hp → Prop) : Prop :=
  sx_3 Try.prog F 19 (cp [] (bodyOf Try.f41)) (ap [] IdxB_an) [(0, .slice s sL sC), (1, .bool v)] h (IdxB_K0  K)
def IdxB_b1 (t8 : Int) (s : Option Addr) (sL : Nat) (sC : Nat) (v : Bool) (t7 : Int) (h : Hp) (nx0 : Int × Unit → Hp → Prop) (K : Value → Hp → Prop) : Prop :=
  sx_2 Try.prog F 19 (cp [1, 0, 1, 2, 2] (bodyOf Try.f41)) (ap [1, 0, 1, 2] IdxB_an) [(8, .int .i64 t8), (0, .slice s sL sC), (1, .bool v), (7, .int .i64 t7)] h (IdxB_K3 nx0 K)
def IdxB_b2 (s : Option Addr) (sL : Nat) (sC : Nat) (v : Bool) (t7 : Int) (t8 : Int) (h : Hp) (nx0 : Int × Unit → Hp → Prop) (K : Value → Hp → Prop) : Prop :=
  sx_1 Try.prog F 19 (cp [1, 0, 1, 2, 2, 1, 1, 1] (bodyOf Try.f41)) (ap [1, 0, 1, 2, 1, 1, 1] IdxB_an) [(0, .slice s sL sC), (1, .bool v), (7, .int .i64 t7), (8, .int .i64 t8)] h (IdxB_K3 nx0 K)
def IdxB_b3  (h : Hp)  (K : Value → Hp → Prop) : Prop :=
  sx_2 Try.prog F 19 (cp [1, 1] (bodyOf Try.f41)) (ap [1, 1] IdxB_an) [] h (IdxB_K0  K)
theorem IdxB_b0_eq (s : Option Addr) (sL : Nat) (sC : Nat) (v : Bool) (h : Hp)  (K : Value → Hp → Prop) : IdxB_b0 s sL sC v h  K = (
  LoopVC ((0, ()) : Int × Unit) h (fun (nx0 : Int × Unit → Hp → Prop) (s1 : Int × Unit) h1 => IdxB_b1 s1.1 s sL sC v (sL : Int) h1 nx0 K)) := by kernel_rfl
theorem IdxB_b1_eq (t8 : Int) (s : Option Addr) (sL : Nat) (sC : Nat) (v : Bool) (t7 : Int) (h : Hp) (nx0 : Int × Unit → Hp → Prop) (K : Value → Hp → Prop) : IdxB_b1 t8 s sL sC v t7 h nx0 K = (
  cond (decide (t8 < t7))
  ((0 ≤ t8 ∧ t8 < (sL : Int)) ∧
  NN s fun a1 =>
  ∃ b1 : Bool, cell h (a1.add (Int.toNat t8 * 1)) = some (.bool b1) ∧
  cond (v == b1)
  (K (.int .i64 t8) h)
  (IdxB_b2 s sL sC v t7 t8 h nx0 K))
  (IdxB_b3  h  K)) := by kernel_rfl
theorem IdxB_b2_eq (s : Option Addr) (sL : Nat) (sC : Nat) (v : Bool) (t7 : Int) (t8 : Int) (h : Hp) (nx0 : Int × Unit → Hp → Prop) (K : Value → Hp → Prop) : IdxB_b2 s sL sC v t7 t8 h nx0 K = (
  InR (t8 + 1) ∧
  nx0 (t8 + 1, ()) h) := by kernel_rfl
theorem IdxB_b3_eq  (h : Hp)  (K : Value → Hp → Prop) : IdxB_b3  h  K = (
  K (.int .i64 (-1)) h) := by kernel_rfl
theorem IdxB_call {s : Option Addr} {sL : Nat} {sC : Nat} {v : Bool} {h : Hp} {K : Value → Hp → Prop} (hk : IdxB_b0 s sL sC v h K) : HCalls Try.prog 41 #[.slice s sL sC, .bool v] h K :=
  calls_of_snd IdxB_an Try.func41 (c := bodyOf Try.f41) rfl Try.ntmps41 (Nat.le_of_ble_eq_true rfl) (snd_3 F_ok F_mixed) hk

/-! ### rRank -/
def rRank_an : Ann := .node none (.leaf) (.node none (.leaf) (.node (some [7]) (.node none (.leaf) (.loop [0, 1, 2] [(7, .int .i64), (8, .int .i64)] (.node none (.leaf) (.node (some [0, 1, 2, 7, 8]) (.leaf) (.leaf))))) (.leaf)))
def rRank_K0  (K : Value → Hp → Prop) : Exit → Env → Hp → Prop := retK Try.prog Try.f13.results.toList K
def rRank_K1  (K : Value → Hp → Prop) : Exit → Env → Hp → Prop := thenE (fun env h => sx_2 Try.prog F 23 (cp [1, 1, 1] (bodyOf Try.f13)) (ap [1, 1, 1] rRank_an) (rs [7] env) h (rRank_K0  K)) (rRank_K0  K)
def rRank_K2  (K : Value → Hp → Prop) : Exit → Env → Hp → Prop := blockE 0 (rRank_K1  K)
def rRank_K3 (nx0 : Int × Int × Unit → Hp → Prop) (K : Value → Hp → Prop) : Exit → Env → Hp → Prop := thenE (fun env h => getV [(7, .int .i64), (8, .int .i64)] env fun s => nx0 s h) (rRank_K2  K)
def rRank_b0 (l : Option Addr) (lL : Nat) (lC : Nat) (bit : Bool) (i : Int) (h : Hp)  (K : Value → Hp → Prop) : Prop :=
  sx_3 Try.prog F 23 (cp [] (bodyOf Try.f13)) (ap [] rRank_an) [(0, .slice l lL lC), (1, .bool bit), (2, .int .i64 i)] h (rRank_K0  K)
def rRank_b1 (nv : Int) (k : Int) (l : Option Addr) (lL : Nat) (lC : Nat) (bit : Bool) (i : Int) (h : Hp) (nx0 : Int × Int × Unit → Hp → Prop) (K : Value → Hp → Prop) : Prop :=
  sx_2 Try.prog F 23 (cp [1, 1, 0, 1, 2, 2] (bodyOf Try.f13)) (ap [1, 1, 0, 1, 2] rRank_an) [(7, .int .i64 nv), (8, .int .i64 k), (0, .slice l lL lC), (1, .bool bit), (2, .int .i64 i)] h (rRank_K3 nx0 K)
def rRank_b2 (l : Option Addr) (lL : Nat) (lC : Nat) (bit : Bool) (i : Int) (nv : Int) (k : Int) (h : Hp) (nx0 : Int × Int × Unit → Hp → Prop) (K : Value → Hp → Prop) : Prop :=
  sx_1 Try.prog F 23 (cp [1, 1, 0, 1, 2, 2, 1, 1] (bodyOf Try.f13)) (ap [1, 1, 0, 1, 2, 1, 1] rRank_an) [(0, .slice l lL lC), (1, .bool bit), (2, .int .i64 i), (7, .int .i64 nv), (8, .int .i64 k)] h (rRank_K3 nx0 K)
def rRank_b3 (nv : Int) (h : Hp)  (K : Value → Hp → Prop) : Prop :=
  sx_2 Try.prog F 23 (cp [1, 1, 1] (bodyOf Try.f13)) (ap [1, 1, 1] rRank_an) [(7, .int .i64 nv)] h (rRank_K0  K)
theorem rRank_b0_eq (l : Option Addr) (lL : Nat) (lC : Nat) (bit : Bool) (i : Int) (h : Hp)  (K : Value → Hp → Prop) : rRank_b0 l lL lC bit i h  K = (
  LoopVC ((0, 0, ()) : Int × Int × Unit) h (fun (nx0 : Int × Int × Unit → Hp → Prop) (s1 : Int × Int × Unit) h1 => rRank_b1 s1.1 s1.2.1 l lL lC bit i h1 nx0 K)) := by kernel_rfl
theorem rRank_b1_eq (nv : Int) (k : Int) (l : Option Addr) (lL : Nat) (lC : Nat) (bit : Bool) (i : Int) (h : Hp) (nx0 : Int × Int × Unit → Hp → Prop) (K : Value → Hp → Prop) : rRank_b1 nv k l lL lC bit i h nx0 K = (
  cond (decide (k < i))
  ((0 ≤ k ∧ k < (lL : Int)) ∧
  NN l fun a1 =>
  ∃ b1 : Bool, cell h (a1.add (Int.toNat k * 1)) = some (.bool b1) ∧
  cond (b1 == bit)
  (InR (nv + 1) ∧
  rRank_b2 l lL lC bit i (nv + 1) k h nx0 K)
  (rRank_b2 l lL lC bit i nv k h nx0 K))
  (rRank_b3 nv h  K)) := by kernel_rfl
theorem rRank_b2_eq (l : Option Addr) (lL : Nat) (lC : Nat) (bit : Bool) (i : Int) (nv : Int) (k : Int) (h : Hp) (nx0 : Int × Int × Unit → Hp → Prop) (K : Value → Hp → Prop) : rRank_b2 l lL lC bit i nv k h nx0 K = (
  InR (k + 1) ∧
  nx0 (nv, k + 1, ()) h) := by kernel_rfl
theorem rRank_b3_eq (nv : Int) (h : Hp)  (K : Value → Hp → Prop) : rRank_b3 nv h  K = (
  K (.int .i64 nv) h) := by kernel_rfl
theorem rRank_call {l : Option Addr} {lL : Nat} {lC : Nat} {bit : Bool} {i : Int} {h : Hp} {K : Value → Hp → Prop} (hk : rRank_b0 l lL lC bit i h K) : HCalls Try.prog 13 #[.slice l lL lC, .bool bit, .int .i64 i] h K :=
  calls_of_snd rRank_an Try.func13 (c := bodyOf Try.f13) rfl Try.ntmps13 (Nat.le_of_ble_eq_true rfl) (snd_3 F_ok F_mixed) hk

/-! ### rSelect -/
def rSelect_an : Ann := .node none (.leaf) (.node (some []) (.node none (.leaf) (.loop [0, 1] [(2, .int .i64), (7, .int .i64)] (.node none (.leaf) (.node (some [0, 1, 2, 7]) (.leaf) (.leaf))))) (.leaf))
def rSelect_K0  (K : Value → Hp → Prop) : Exit → Env → Hp → Prop := retK Try.prog Try.f15.results.toList K
def rSelect_K1  (K : Value → Hp → Prop) : Exit → Env → Hp → Prop := thenE (fun env h => sx_2 Try.prog F 25 (cp [1, 1] (bodyOf Try.f15)) (ap [1, 1] rSelect_an) (rs [] env) h (rSelect_K0  K)) (rSelect_K0  K)
def rSelect_K2  (K : Value → Hp → Prop) : Exit → Env → Hp → Prop := blockE 0 (rSelect_K1  K)
def rSelect_K3 (nx0 : Int × Int × Unit → Hp → Prop) (K : Value → Hp → Prop) : Exit → Env → Hp → Prop := thenE (fun env h => getV [(2, .int .i64), (7, .int .i64)] env fun s => nx0 s h) (rSelect_K2  K)
def rSelect_b0 (l : Option Addr) (lL : Nat) (lC : Nat) (bit : Bool) (k : Int) (h : Hp)  (K : Value → Hp → Prop) : Prop :=
  sx_3 Try.prog F 25 (cp [] (bodyOf Try.f15)) (ap [] rSelect_an) [(0, .slice l lL lC), (1, .bool bit), (2, .int .i64 k)] h (rSelect_K0  K)
def rSelect_b1 (k : Int) (i : Int) (l : Option Addr) (lL : Nat) (lC : Nat) (bit : Bool) (h : Hp) (nx0 : Int × Int × Unit → Hp → Prop) (K : Value → Hp → Prop) : Prop :=
  sx_2 Try.prog F 25 (cp [1, 0, 1, 2, 2] (bodyOf Try.f15)) (ap [1, 0, 1, 2] rSelect_an) [(2, .int .i64 k), (7, .int .i64 i), (0, .slice l lL lC), (1, .bool bit)] h (rSelect_K3 nx0 K)
def rSelect_b2 (l : Option Addr) (lL : Nat) (lC : Nat) (bit : Bool) (k : Int) (i : Int) (h : Hp) (nx0 : Int × Int × Unit → Hp → Prop) (K : Value → Hp → Prop) : Prop :=
  sx_1 Try.prog F 25 (cp [1, 0, 1, 2, 2, 1, 1] (bodyOf Try.f15)) (ap [1, 0, 1, 2, 1, 1] rSelect_an) [(0, .slice l lL lC), (1, .bool bit), (2, .int .i64 k), (7, .int .i64 i)] h (rSelect_K3 nx0 K)
def rSelect_b3  (h : Hp)  (K : Value → Hp → Prop) : Prop :=
  sx_2 Try.prog F 25 (cp [1, 1] (bodyOf Try.f15)) (ap [1, 1] rSelect_an) [] h (rSelect_K0  K)
theorem rSelect_b0_eq (l : Option Addr) (lL : Nat) (lC : Nat) (bit : Bool) (k : Int) (h : Hp)  (K : Value → Hp → Prop) : rSelect_b0 l lL lC bit k h  K = (
  LoopVC ((k, 0, ()) : Int × Int × Unit) h (fun (nx0 : Int × Int × Unit → Hp → Prop) (s1 : Int × Int × Unit) h1 => rSelect_b1 s1.1 s1.2.1 l lL lC bit h1 nx0 K)) := by kernel_rfl
theorem rSelect_b1_eq (k : Int) (i : Int) (l : Option Addr) (lL : Nat) (lC : Nat) (bit : Bool) (h : Hp) (nx0 : Int × Int × Unit → Hp → Prop) (K : Value → Hp → Prop) : rSelect_b1 k i l lL lC bit h nx0 K = (
  cond (decide (i < (lL : Int)))
  ((0 ≤ i ∧ i < (lL : Int)) ∧
  NN l fun a1 =>
  ∃ b1 : Bool, cell h (a1.add (Int.toNat i * 1)) = some (.bool b1) ∧
  cond (b1 == bit)
  (cond (decide (k = 0))
  (K (.int .i64 i) h)
  (InR (k - 1) ∧
  rSelect_b2 l lL lC bit (k - 1) i h nx0 K))
  (rSelect_b2 l lL lC bit k i h nx0 K))
  (rSelect_b3  h  K)) := by kernel_rfl
theorem rSelect_b2_eq (l : Option Addr) (lL : Nat) (lC : Nat) (bit : Bool) (k : Int) (i : Int) (h : Hp) (nx0 : Int × Int × Unit → Hp → Prop) (K : Value → Hp → Prop) : rSelect_b2 l lL lC bit k i h nx0 K = (
  InR (i + 1) ∧
  nx0 (k, i + 1, ()) h) := by kernel_rfl
theorem rSelect_b3_eq  (h : Hp)  (K : Value → Hp → Prop) : rSelect_b3  h  K = (
  K (.int .i64 (-1)) h) := by kernel_rfl
theorem rSelect_call {l : Option Addr} {lL : Nat} {lC : Nat} {bit : Bool} {k : Int} {h : Hp} {K : Value → Hp → Prop} (hk : rSelect_b0 l lL lC bit k h K) : HCalls Try.prog 15 #[.slice l lL lC, .bool bit, .int .i64 k] h K :=
  calls_of_snd rSelect_an Try.func15 (c := bodyOf Try.f15) rfl Try.ntmps15 (Nat.le_of_ble_eq_true rfl) (snd_3 F_ok F_mixed) hk

/-! ### rNext -/
def rNext_an : Ann := .node none (.leaf) (.node (some []) (.loop [0, 1] [(2, .int .i64)] (.leaf)) (.leaf))
def rNext_K0  (K : Value → Hp → Prop) : Exit → Env → Hp → Prop := retK Try.prog Try.f18.results.toList K
def rNext_K1  (K : Value → Hp → Prop) : Exit → Env → Hp → Prop := thenE (fun env h => sx_1 Try.prog F 20 (cp [1, 1] (bodyOf Try.f18)) (ap [1, 1] rNext_an) (rs [] env) h (rNext_K0  K)) (rNext_K0  K)
def rNext_K2  (K : Value → Hp → Prop) : Exit → Env → Hp → Prop := blockE 0 (rNext_K1  K)
def rNext_K3 (nx0 : Int × Unit → Hp → Prop) (K : Value → Hp → Prop) : Exit → Env → Hp → Prop := thenE (fun env h => getV [(2, .int .i64)] env fun s => nx0 s h) (rNext_K2  K)
def rNext_b0 (l : Option Addr) (lL : Nat) (lC : Nat) (bit : Bool) (i : Int) (h : Hp)  (K : Value → Hp → Prop) : Prop :=
  sx_2 Try.prog F 20 (cp [] (bodyOf Try.f18)) (ap [] rNext_an) [(0, .slice l lL lC), (1, .bool bit), (2, .int .i64 i)] h (rNext_K0  K)
def rNext_b1 (i : Int) (l : Option Addr) (lL : Nat) (lC : Nat) (bit : Bool) (h : Hp) (nx0 : Int × Unit → Hp → Prop) (K : Value → Hp → Prop) : Prop :=
  sx_1 Try.prog F 20 (cp [1, 0, 2, 2] (bodyOf Try.f18)) (ap [1, 0, 2] rNext_an) [(2, .int .i64 i), (0, .slice l lL lC), (1, .bool bit)] h (rNext_K3 nx0 K)
def rNext_b2  (h : Hp)  (K : Value → Hp → Prop) : Prop :=
  sx_1 Try.prog F 20 (cp [1, 1] (bodyOf Try.f18)) (ap [1, 1] rNext_an) [] h (rNext_K0  K)
theorem rNext_b0_eq (l : Option Addr) (lL : Nat) (lC : Nat) (bit : Bool) (i : Int) (h : Hp)  (K : Value → Hp → Prop) : rNext_b0 l lL lC bit i h  K = (
  LoopVC ((i, ()) : Int × Unit) h (fun (nx0 : Int × Unit → Hp → Prop) (s1 : Int × Unit) h1 => rNext_b1 s1.1 l lL lC bit h1 nx0 K)) := by kernel_rfl
theorem rNext_b1_eq (i : Int) (l : Option Addr) (lL : Nat) (lC : Nat) (bit : Bool) (h : Hp) (nx0 : Int × Unit → Hp → Prop) (K : Value → Hp → Prop) : rNext_b1 i l lL lC bit h nx0 K = (
  cond (decide (i < (lL : Int)))
  ((0 ≤ i ∧ i < (lL : Int)) ∧
  NN l fun a1 =>
  ∃ b1 : Bool, cell h (a1.add (Int.toNat i * 1)) = some (.bool b1) ∧
  cond (b1 == bit)
  (K (.int .i64 i) h)
  (InR (i + 1) ∧
  nx0 (i + 1, ()) h))
  (rNext_b2  h  K)) := by kernel_rfl
theorem rNext_b2_eq  (h : Hp)  (K : Value → Hp → Prop) : rNext_b2  h  K = (
  K (.int .i64 (-1)) h) := by kernel_rfl
theorem rNext_call {l : Option Addr} {lL : Nat} {lC : Nat} {bit : Bool} {i : Int} {h : Hp} {K : Value → Hp → Prop} (hk : rNext_b0 l lL lC bit i h K) : HCalls Try.prog 18 #[.slice l lL lC, .bool bit, .int .i64 i] h K :=
  calls_of_snd rNext_an Try.func18 (c := bodyOf Try.f18) rfl Try.ntmps18 (Nat.le_of_ble_eq_true rfl) (snd_2 F_ok F_mixed) hk

/-! ### rPrev -/
def rPrev_an : Ann := .node none (.leaf) (.node (some []) (.loop [0, 1] [(2, .int .i64)] (.leaf)) (.leaf))
def rPrev_K0  (K : Value → Hp → Prop) : Exit → Env → Hp → Prop := retK Try.prog Try.f19.results.toList K
def rPrev_K1  (K : Value → Hp → Prop) : Exit → Env → Hp → Prop := thenE (fun env h => sx_1 Try.prog F 18 (cp [1, 1] (bodyOf Try.f19)) (ap [1, 1] rPrev_an) (rs [] env) h (rPrev_K0  K)) (rPrev_K0  K)
def rPrev_K2  (K : Value → Hp → Prop) : Exit → Env → Hp → Prop := blockE 0 (rPrev_K1  K)
def rPrev_K3 (nx0 : Int × Unit → Hp → Prop) (K : Value → Hp → Prop) : Exit → Env → Hp → Prop := thenE (fun env h => getV [(2, .int .i64)] env fun s => nx0 s h) (rPrev_K2  K)
def rPrev_b0 (l : Option Addr) (lL : Nat) (lC : Nat) (bit : Bool) (i : Int) (h : Hp)  (K : Value → Hp → Prop) : Prop :=
  sx_2 Try.prog F 18 (cp [] (bodyOf Try.f19)) (ap [] rPrev_an) [(0, .slice l lL lC), (1, .bool bit), (2, .int .i64 i)] h (rPrev_K0  K)
def rPrev_b1 (i : Int) (l : Option Addr) (lL : Nat) (lC : Nat) (bit : Bool) (h : Hp) (nx0 : Int × Unit → Hp → Prop) (K : Value → Hp → Prop) : Prop :=
  sx_1 Try.prog F 18 (cp [1, 0, 2, 2] (bodyOf Try.f19)) (ap [1, 0, 2] rPrev_an) [(2, .int .i64 i), (0, .slice l lL lC), (1, .bool bit)] h (rPrev_K3 nx0 K)
def rPrev_b2  (h : Hp)  (K : Value → Hp → Prop) : Prop :=
  sx_1 Try.prog F 18 (cp [1, 1] (bodyOf Try.f19)) (ap [1, 1] rPrev_an) [] h (rPrev_K0  K)
theorem rPrev_b0_eq (l : Option Addr) (lL : Nat) (lC : Nat) (bit : Bool) (i : Int) (h : Hp)  (K : Value → Hp → Prop) : rPrev_b0 l lL lC bit i h  K = (
  LoopVC ((i, ()) : Int × Unit) h (fun (nx0 : Int × Unit → Hp → Prop) (s1 : Int × Unit) h1 => rPrev_b1 s1.1 l lL lC bit h1 nx0 K)) := by kernel_rfl
theorem rPrev_b1_eq (i : Int) (l : Option Addr) (lL : Nat) (lC : Nat) (bit : Bool) (h : Hp) (nx0 : Int × Unit → Hp → Prop) (K : Value → Hp → Prop) : rPrev_b1 i l lL lC bit h nx0 K = (
  cond (decide ((0 : Int) < i))
  (InR (i - 1) ∧
  (0 ≤ i - 1 ∧ i - 1 < (lL : Int)) ∧
  NN l fun a1 =>
  ∃ b1 : Bool, cell h (a1.add (Int.toNat (i - 1) * 1)) = some (.bool b1) ∧
  cond (b1 == bit)
  (K (.int .i64 (i - 1)) h)
  (nx0 (i - 1, ()) h))
  (rPrev_b2  h  K)) := by kernel_rfl
theorem rPrev_b2_eq  (h : Hp)  (K : Value → Hp → Prop) : rPrev_b2  h  K = (
  K (.int .i64 (-1)) h) := by kernel_rfl
theorem rPrev_call {l : Option Addr} {lL : Nat} {lC : Nat} {bit : Bool} {i : Int} {h : Hp} {K : Value → Hp → Prop} (hk : rPrev_b0 l lL lC bit i h K) : HCalls Try.prog 19 #[.slice l lL lC, .bool bit, .int .i64 i] h K :=
  calls_of_snd rPrev_an Try.func19 (c := bodyOf Try.f19) rfl Try.ntmps19 (Nat.le_of_ble_eq_true rfl) (snd_2 F_ok F_mixed) hk

/-! ### rRuns -/
def rRuns_an : Ann := .node none (.leaf) (.node none (.leaf) (.node none (.leaf) (.node none (.leaf) (.node (some [0, 3, 5]) (.node none (.leaf) (.loop [0] [(3, .slice), (4, .bool), (5, .int .i64), (6, .int .i64)] (.node none (.leaf) (.node (some [0, 3, 4, 5, 6]) (.node (some [0, 3, 4, 5, 6]) (.leaf) (.leaf)) (.leaf))))) (.node (some [3]) (.leaf) (.leaf))))))
def rRuns_K0  (K : Value → Hp → Prop) : Exit → Env → Hp → Prop := retK Try.prog Try.f26.results.toList K
def rRuns_K1  (K : Value → Hp → Prop) : Exit → Env → Hp → Prop := thenE (fun env h => sx_2 Try.prog F 37 (cp [1, 1, 1, 1, 1] (bodyOf Try.f26)) (ap [1, 1, 1, 1, 1] rRuns_an) (rs [0, 3, 5] env) h (rRuns_K0  K)) (rRuns_K0  K)
def rRuns_K2  (K : Value → Hp → Prop) : Exit → Env → Hp → Prop := blockE 0 (rRuns_K1  K)
def rRuns_K3 (nx0 : (Option Addr × Nat × Nat) × Bool × Int × Int × Unit → Hp → Prop) (K : Value → Hp → Prop) : Exit → Env → Hp → Prop := thenE (fun env h => getV [(3, .slice), (4, .bool), (5, .int .i64), (6, .int .i64)] env fun s => nx0 s h) (rRuns_K2  K)
def rRuns_K4 (nx0 : (Option Addr × Nat × Nat) × Bool × Int × Int × Unit → Hp → Prop) (K : Value → Hp → Prop) : Exit → Env → Hp → Prop := thenE (fun env h => sx_1 Try.prog F 37 (cp [1, 1, 1, 1, 0, 1, 2, 2, 1, 1] (bodyOf Try.f26)) (ap [1, 1, 1, 1, 0, 1, 2, 1, 1] rRuns_an) (rs [0, 3, 4, 5, 6] env) h (rRuns_K3 nx0 K)) (rRuns_K3 nx0 K)
def rRuns_K5 (nx0 : (Option Addr × Nat × Nat) × Bool × Int × Int × Unit → Hp → Prop) (K : Value → Hp → Prop) : Exit → Env → Hp → Prop := blockE 1 (rRuns_K4 nx0 K)
def rRuns_b0 (l : Option Addr) (lL : Nat) (lC : Nat) (h : Hp)  (K : Value → Hp → Prop) : Prop :=
  sx_3 Try.prog F 37 (cp [] (bodyOf Try.f26)) (ap [] rRuns_an) [(0, .slice l lL lC)] h (rRuns_K0  K)
def rRuns_b1 (out : Option Addr) (outL : Nat) (outC : Nat) (bit : Bool) (nv : Int) (i : Int) (l : Option Addr) (lL : Nat) (lC : Nat) (h : Hp) (nx0 : (Option Addr × Nat × Nat) × Bool × Int × Int × Unit → Hp → Prop) (K : Value → Hp → Prop) : Prop :=
  sx_2 Try.prog F 37 (cp [1, 1, 1, 1, 0, 1, 2, 2] (bodyOf Try.f26)) (ap [1, 1, 1, 1, 0, 1, 2] rRuns_an) [(3, .slice out outL outC), (4, .bool bit), (5, .int .i64 nv), (6, .int .i64 i), (0, .slice l lL lC)] h (rRuns_K3 nx0 K)
def rRuns_b2 (l : Option Addr) (lL : Nat) (lC : Nat) (out : Option Addr) (outL : Nat) (outC : Nat) (bit : Bool) (nv : Int) (i : Int) (h : Hp) (nx0 : (Option Addr × Nat × Nat) × Bool × Int × Int × Unit → Hp → Prop) (K : Value → Hp → Prop) : Prop :=
  sx_1 Try.prog F 37 (cp [1, 1, 1, 1, 0, 1, 2, 2, 1, 0, 2, 1] (bodyOf Try.f26)) (ap [1, 1, 1, 1, 0, 1, 2, 1, 0, 1] rRuns_an) [(0, .slice l lL lC), (3, .slice out outL outC), (4, .bool bit), (5, .int .i64 nv), (6, .int .i64 i)] h (rRuns_K5 nx0 K)
def rRuns_b3 (l : Option Addr) (lL : Nat) (lC : Nat) (out : Option Addr) (outL : Nat) (outC : Nat) (nv : Int) (h : Hp)  (K : Value → Hp → Prop) : Prop :=
  sx_2 Try.prog F 37 (cp [1, 1, 1, 1, 1] (bodyOf Try.f26)) (ap [1, 1, 1, 1, 1] rRuns_an) [(0, .slice l lL lC), (3, .slice out outL outC), (5, .int .i64 nv)] h (rRuns_K0  K)
def rRuns_b4 (l : Option Addr) (lL : Nat) (lC : Nat) (out : Option Addr) (outL : Nat) (outC : Nat) (bit : Bool) (nv : Int) (i : Int) (h : Hp) (nx0 : (Option Addr × Nat × Nat) × Bool × Int × Int × Unit → Hp → Prop) (K : Value → Hp → Prop) : Prop :=
  sx_1 Try.prog F 37 (cp [1, 1, 1, 1, 0, 1, 2, 2, 1, 1] (bodyOf Try.f26)) (ap [1, 1, 1, 1, 0, 1, 2, 1, 1] rRuns_an) [(0, .slice l lL lC), (3, .slice out outL outC), (4, .bool bit), (5, .int .i64 nv), (6, .int .i64 i)] h (rRuns_K3 nx0 K)
def rRuns_b5 (out : Option Addr) (outL : Nat) (outC : Nat) (h : Hp)  (K : Value → Hp → Prop) : Prop :=
  sx_1 Try.prog F 37 (cp [1, 1, 1, 1, 1, 1] (bodyOf Try.f26)) (ap [1, 1, 1, 1, 1, 1] rRuns_an) [(3, .slice out outL outC)] h (rRuns_K0  K)
theorem rRuns_b0_eq (l : Option Addr) (lL : Nat) (lC : Nat) (h : Hp)  (K : Value → Hp → Prop) : rRuns_b0 l lL lC h  K = (
  LoopVC (((none, 0, 0), false, 0, 0, ()) : (Option Addr × Nat × Nat) × Bool × Int × Int × Unit) h (fun (nx0 : (Option Addr × Nat × Nat) × Bool × Int × Int × Unit → Hp → Prop) (s1 : (Option Addr × Nat × Nat) × Bool × Int × Int × Unit) h1 => rRuns_b1 s1.1.1 s1.1.2.1 s1.1.2.2 s1.2.1 s1.2.2.1 s1.2.2.2.1 l lL lC h1 nx0 K)) := by kernel_rfl
theorem rRuns_b1_eq (out : Option Addr) (outL : Nat) (outC : Nat) (bit : Bool) (nv : Int) (i : Int) (l : Option Addr) (lL : Nat) (lC : Nat) (h : Hp) (nx0 : (Option Addr × Nat × Nat) × Bool × Int × Int × Unit → Hp → Prop) (K : Value → Hp → Prop) : rRuns_b1 out outL outC bit nv i l lL lC h nx0 K = (
  cond (decide (i < (lL : Int)))
  ((0 ≤ i ∧ i < (lL : Int)) ∧
  NN l fun a1 =>
  ∃ b1 : Bool, cell h (a1.add (Int.toNat i * 1)) = some (.bool b1) ∧
  cond (!(b1 == bit))
  (New h (.cells #[.int .i64 nv] 3) fun b2 h2 =>
  appendV Try.prog 37 37 (.slice out outL outC) (.slice (some ⟨b2, 0, none⟩) 1 1) h2 (slK fun a2 l1 c1 h3 =>
  (0 ≤ i ∧ i < (lL : Int)) ∧
  NN l fun a3 =>
  ∃ b3 : Bool, cell h3 (a3.add (Int.toNat i * 1)) = some (.bool b3) ∧
  rRuns_b2 l lL lC a2 l1 c1 b3 0 i h3 nx0 K))
  (rRuns_b2 l lL lC out outL outC bit nv i h nx0 K))
  (rRuns_b3 l lL lC out outL outC nv h  K)) := by kernel_rfl
theorem rRuns_b2_eq (l : Option Addr) (lL : Nat) (lC : Nat) (out : Option Addr) (outL : Nat) (outC : Nat) (bit : Bool) (nv : Int) (i : Int) (h : Hp) (nx0 : (Option Addr × Nat × Nat) × Bool × Int × Int × Unit → Hp → Prop) (K : Value → Hp → Prop) : rRuns_b2 l lL lC out outL outC bit nv i h nx0 K = (
  InR (nv + 1) ∧
  rRuns_b4 l lL lC out outL outC bit (nv + 1) i h nx0 K) := by kernel_rfl
theorem rRuns_b3_eq (l : Option Addr) (lL : Nat) (lC : Nat) (out : Option Addr) (outL : Nat) (outC : Nat) (nv : Int) (h : Hp)  (K : Value → Hp → Prop) : rRuns_b3 l lL lC out outL outC nv h  K = (
  cond (decide ((0 : Int) < (lL : Int)))
  (New h (.cells #[.int .i64 nv] 3) fun b4 h4 =>
  appendV Try.prog 37 37 (.slice out outL outC) (.slice (some ⟨b4, 0, none⟩) 1 1) h4 (slK fun a4 l2 c2 h5 =>
  rRuns_b5 a4 l2 c2 h5  K))
  (rRuns_b5 out outL outC h  K)) := by kernel_rfl
theorem rRuns_b4_eq (l : Option Addr) (lL : Nat) (lC : Nat) (out : Option Addr) (outL : Nat) (outC : Nat) (bit : Bool) (nv : Int) (i : Int) (h : Hp) (nx0 : (Option Addr × Nat × Nat) × Bool × Int × Int × Unit → Hp → Prop) (K : Value → Hp → Prop) : rRuns_b4 l lL lC out outL outC bit nv i h nx0 K = (
  InR (i + 1) ∧
  nx0 ((out, outL, outC), bit, nv, i + 1, ()) h) := by kernel_rfl
theorem rRuns_b5_eq (out : Option Addr) (outL : Nat) (outC : Nat) (h : Hp)  (K : Value → Hp → Prop) : rRuns_b5 out outL outC h  K = (
  K (.slice out outL outC) h) := by kernel_rfl
theorem rRuns_call {l : Option Addr} {lL : Nat} {lC : Nat} {h : Hp} {K : Value → Hp → Prop} (hk : rRuns_b0 l lL lC h K) : HCalls Try.prog 26 #[.slice l lL lC] h K :=
  calls_of_snd rRuns_an Try.func26 (c := bodyOf Try.f26) rfl Try.ntmps26 (Nat.le_of_ble_eq_true rfl) (snd_3 F_ok F_mixed) hk

/-! ### rEncode -/
def rEncode_an : Ann := .node none (.leaf) (.node none (.leaf) (.node none (.leaf) (.node (some [4]) (.node none (.leaf) (.loop [0, 3] [(4, .slice), (5, .int .i64)] (.node none (.leaf) (.node (some [0, 3, 4, 5]) (.node none (.leaf) (.node (some [0, 3, 4, 5, 6]) (.node none (.leaf) (.loop [0, 3, 4, 5] [(6, .int .i64), (7, .int .i64)] (.node none (.leaf) (.node (some [0, 3, 4, 5, 6, 7]) (.leaf) (.leaf))))) (.leaf))) (.leaf))))) (.leaf))))
def rEncode_K0  (K : Value → Hp → Prop) : Exit → Env → Hp → Prop := retK Try.prog Try.f30.results.toList K
def rEncode_K1  (K : Value → Hp → Prop) : Exit → Env → Hp → Prop := thenE (fun env h => sx_3 Try.prog F 54 (cp [1, 1, 1, 1] (bodyOf Try.f30)) (ap [1, 1, 1, 1] rEncode_an) (rs [4] env) h (rEncode_K0  K)) (rEncode_K0  K)
def rEncode_K2  (K : Value → Hp → Prop) : Exit → Env → Hp → Prop := blockE 0 (rEncode_K1  K)
def rEncode_K3 (nx0 : (Option Addr × Nat × Nat) × Int × Unit → Hp → Prop) (K : Value → Hp → Prop) : Exit → Env → Hp → Prop := thenE (fun env h => getV [(4, .slice), (5, .int .i64)] env fun s => nx0 s h) (rEncode_K2  K)
def rEncode_K4 (nx0 : (Option Addr × Nat × Nat) × Int × Unit → Hp → Prop) (K : Value → Hp → Prop) : Exit → Env → Hp → Prop := thenE (fun env h => sx_2 Try.prog F 54 (cp [1, 1, 1, 0, 1, 2, 2, 1, 1] (bodyOf Try.f30)) (ap [1, 1, 1, 0, 1, 2, 1, 1] rEncode_an) (rs [0, 3, 4, 5] env) h (rEncode_K3 nx0 K)) (rEncode_K3 nx0 K)
def rEncode_K5 (nx0 : (Option Addr × Nat × Nat) × Int × Unit → Hp → Prop) (K : Value → Hp → Prop) : Exit → Env → Hp → Prop := blockE 1 (rEncode_K4 nx0 K)
def rEncode_K6 (nx0 : (Option Addr × Nat × Nat) × Int × Unit → Hp → Prop) (K : Value → Hp → Prop) : Exit → Env → Hp → Prop := thenE (fun env h => sx_2 Try.prog F 54 (cp [1, 1, 1, 0, 1, 2, 2, 1, 0, 2, 1, 1] (bodyOf Try.f30)) (ap [1, 1, 1, 0, 1, 2, 1, 0, 1, 1] rEncode_an) (rs [0, 3, 4, 5, 6] env) h (rEncode_K5 nx0 K)) (rEncode_K5 nx0 K)
def rEncode_K7 (nx0 : (Option Addr × Nat × Nat) × Int × Unit → Hp → Prop) (K : Value → Hp → Prop) : Exit → Env → Hp → Prop := blockE 2 (rEncode_K6 nx0 K)
def rEncode_K8 (nx0 : (Option Addr × Nat × Nat) × Int × Unit → Hp → Prop) (nx1 : Int × Int × Unit → Hp → Prop) (K : Value → Hp → Prop) : Exit → Env → Hp → Prop := thenE (fun env h => getV [(6, .int .i64), (7, .int .i64)] env fun s => nx1 s h) (rEncode_K7 nx0 K)
def rEncode_b0 (l : Option Addr) (lL : Nat) (lC : Nat) (h : Hp)  (K : Value → Hp → Prop) : Prop :=
  sx_4 Try.prog F 54 (cp [] (bodyOf Try.f30)) (ap [] rEncode_an) [(0, .slice l lL lC)] h (rEncode_K0  K)
def rEncode_b1 (out : Option Addr) (outL : Nat) (outC : Nat) (i : Int) (l : Option Addr) (lL : Nat) (lC : Nat) (nv : Int) (h : Hp) (nx0 : (Option Addr × Nat × Nat) × Int × Unit → Hp → Prop) (K : Value → Hp → Prop) : Prop :=
  sx_3 Try.prog F 54 (cp [1, 1, 1, 0, 1, 2, 2] (bodyOf Try.f30)) (ap [1, 1, 1, 0, 1, 2] rEncode_an) [(4, .slice out outL outC), (5, .int .i64 i), (0, .slice l lL lC), (3, .int .i64 nv)] h (rEncode_K3 nx0 K)
def rEncode_b2 (b : Int) (k : Int) (l : Option Addr) (lL : Nat) (lC : Nat) (nv : Int) (out : Option Addr) (outL : Nat) (outC : Nat) (i : Int) (h : Hp) (nx0 : (Option Addr × Nat × Nat) × Int × Unit → Hp → Prop) (nx1 : Int × Int × Unit → Hp → Prop) (K : Value → Hp → Prop) : Prop :=
  sx_2 Try.prog F 54 (cp [1, 1, 1, 0, 1, 2, 2, 1, 0, 2, 1, 0, 1, 2, 2] (bodyOf Try.f30)) (ap [1, 1, 1, 0, 1, 2, 1, 0, 1, 0, 1, 2] rEncode_an) [(6, .int .i64 b), (7, .int .i64 k), (0, .slice l lL lC), (3, .int .i64 nv), (4, .slice out outL outC), (5, .int .i64 i)] h (rEncode_K8 nx0 nx1 K)
def rEncode_b3 (out : Option Addr) (outL : Nat) (outC : Nat) (h : Hp)  (K : Value → Hp → Prop) : Prop :=
  sx_3 Try.prog F 54 (cp [1, 1, 1, 1] (bodyOf Try.f30)) (ap [1, 1, 1, 1] rEncode_an) [(4, .slice out outL outC)] h (rEncode_K0  K)
def rEncode_b4 (l : Option Addr) (lL : Nat) (lC : Nat) (nv : Int) (out : Option Addr) (outL : Nat) (outC : Nat) (i : Int) (b : Int) (k : Int) (h : Hp) (nx0 : (Option Addr × Nat × Nat) × Int × Unit → Hp → Prop) (nx1 : Int × Int × Unit → Hp → Prop) (K : Value → Hp → Prop) : Prop :=
  sx_1 Try.prog F 54 (cp [1, 1, 1, 0, 1, 2, 2, 1, 0, 2, 1, 0, 1, 2, 2, 1, 1] (bodyOf Try.f30)) (ap [1, 1, 1, 0, 1, 2, 1, 0, 1, 0, 1, 2, 1, 1] rEncode_an) [(0, .slice l lL lC), (3, .int .i64 nv), (4, .slice out outL outC), (5, .int .i64 i), (6, .int .i64 b), (7, .int .i64 k)] h (rEncode_K8 nx0 nx1 K)
def rEncode_b5 (l : Option Addr) (lL : Nat) (lC : Nat) (nv : Int) (out : Option Addr) (outL : Nat) (outC : Nat) (i : Int) (b : Int) (h : Hp) (nx0 : (Option Addr × Nat × Nat) × Int × Unit → Hp → Prop) (K : Value → Hp → Prop) : Prop :=
  sx_2 Try.prog F 54 (cp [1, 1, 1, 0, 1, 2, 2, 1, 0, 2, 1, 1] (bodyOf Try.f30)) (ap [1, 1, 1, 0, 1, 2, 1, 0, 1, 1] rEncode_an) [(0, .slice l lL lC), (3, .int .i64 nv), (4, .slice out outL outC), (5, .int .i64 i), (6, .int .i64 b)] h (rEncode_K5 nx0 K)
def rEncode_b6 (l : Option Addr) (lL : Nat) (lC : Nat) (nv : Int) (out : Option Addr) (outL : Nat) (outC : Nat) (i : Int) (h : Hp) (nx0 : (Option Addr × Nat × Nat) × Int × Unit → Hp → Prop) (K : Value → Hp → Prop) : Prop :=
  sx_2 Try.prog F 54 (cp [1, 1, 1, 0, 1, 2, 2, 1, 1] (bodyOf Try.f30)) (ap [1, 1, 1, 0, 1, 2, 1, 1] rEncode_an) [(0, .slice l lL lC), (3, .int .i64 nv), (4, .slice out outL outC), (5, .int .i64 i)] h (rEncode_K3 nx0 K)
theorem rEncode_b0_eq (l : Option Addr) (lL : Nat) (lC : Nat) (h : Hp)  (K : Value → Hp → Prop) : rEncode_b0 l lL lC h  K = (
  ∃ q1 : Int, Sx.Quo .i64 (lL : Int) 16777216 q1 ∧
  ∃ q2 : Int, Sx.Quo .i64 (lL : Int) 65536 q2 ∧
  ∃ q3 : Int, Sx.Quo .i64 (lL : Int) 256 q3 ∧
  New h (.cells #[.int .u8 (IntKind.u8.wrap q1), .int .u8 (IntKind.u8.wrap q2), .int .u8 (IntKind.u8.wrap q3), .int .u8 (IntKind.u8.wrap (lL : Int))] 5) fun b1 h1 =>
  LoopVC (((some ⟨b1, 0, none⟩, 4, 4), 0, ()) : (Option Addr × Nat × Nat) × Int × Unit) h1 (fun (nx0 : (Option Addr × Nat × Nat) × Int × Unit → Hp → Prop) (s1 : (Option Addr × Nat × Nat) × Int × Unit) h2 => rEncode_b1 s1.1.1 s1.1.2.1 s1.1.2.2 s1.2.1 l lL lC (lL : Int) h2 nx0 K)) := by kernel_rfl
theorem rEncode_b1_eq (out : Option Addr) (outL : Nat) (outC : Nat) (i : Int) (l : Option Addr) (lL : Nat) (lC : Nat) (nv : Int) (h : Hp) (nx0 : (Option Addr × Nat × Nat) × Int × Unit → Hp → Prop) (K : Value → Hp → Prop) : rEncode_b1 out outL outC i l lL lC nv h nx0 K = (
  cond (decide (i < nv))
  (LoopVC ((0, 0, ()) : Int × Int × Unit) h (fun (nx1 : Int × Int × Unit → Hp → Prop) (s2 : Int × Int × Unit) h3 => rEncode_b2 s2.1 s2.2.1 l lL lC nv out outL outC i h3 nx0 nx1 K))
  (rEncode_b3 out outL outC h  K)) := by kernel_rfl
theorem rEncode_b2_eq (b : Int) (k : Int) (l : Option Addr) (lL : Nat) (lC : Nat) (nv : Int) (out : Option Addr) (outL : Nat) (outC : Nat) (i : Int) (h : Hp) (nx0 : (Option Addr × Nat × Nat) × Int × Unit → Hp → Prop) (nx1 : Int × Int × Unit → Hp → Prop) (K : Value → Hp → Prop) : rEncode_b2 b k l lL lC nv out outL outC i h nx0 nx1 K = (
  cond (decide (k < 8))
  (InR (b * 2) ∧
  InR (i + k) ∧
  cond (decide ((i + k) < nv))
  (InR (i + k) ∧
  (0 ≤ i + k ∧ i + k < (lL : Int)) ∧
  NN l fun a1 =>
  ∃ b2 : Bool, cell h (a1.add (Int.toNat (i + k) * 1)) = some (.bool b2) ∧
  cond b2
  (InR ((b * 2) + 1) ∧
  rEncode_b4 l lL lC nv out outL outC i ((b * 2) + 1) k h nx0 nx1 K)
  (rEncode_b4 l lL lC nv out outL outC i (b * 2) k h nx0 nx1 K))
  (rEncode_b4 l lL lC nv out outL outC i (b * 2) k h nx0 nx1 K))
  (rEncode_b5 l lL lC nv out outL outC i b h nx0 K)) := by kernel_rfl
theorem rEncode_b3_eq (out : Option Addr) (outL : Nat) (outC : Nat) (h : Hp)  (K : Value → Hp → Prop) : rEncode_b3 out outL outC h  K = (
  K (.slice out outL outC) h) := by kernel_rfl
theorem rEncode_b4_eq (l : Option Addr) (lL : Nat) (lC : Nat) (nv : Int) (out : Option Addr) (outL : Nat) (outC : Nat) (i : Int) (b : Int) (k : Int) (h : Hp) (nx0 : (Option Addr × Nat × Nat) × Int × Unit → Hp → Prop) (nx1 : Int × Int × Unit → Hp → Prop) (K : Value → Hp → Prop) : rEncode_b4 l lL lC nv out outL outC i b k h nx0 nx1 K = (
  InR (k + 1) ∧
  nx1 (b, k + 1, ()) h) := by kernel_rfl
theorem rEncode_b5_eq (l : Option Addr) (lL : Nat) (lC : Nat) (nv : Int) (out : Option Addr) (outL : Nat) (outC : Nat) (i : Int) (b : Int) (h : Hp) (nx0 : (Option Addr × Nat × Nat) × Int × Unit → Hp → Prop) (K : Value → Hp → Prop) : rEncode_b5 l lL lC nv out outL outC i b h nx0 K = (
  New h (.cells #[.int .u8 (IntKind.u8.wrap b)] 5) fun b3 h4 =>
  appendV Try.prog 43 43 (.slice out outL outC) (.slice (some ⟨b3, 0, none⟩) 1 1) h4 (slK fun a2 l1 c1 h5 =>
  rEncode_b6 l lL lC nv a2 l1 c1 i h5 nx0 K)) := by kernel_rfl
theorem rEncode_b6_eq (l : Option Addr) (lL : Nat) (lC : Nat) (nv : Int) (out : Option Addr) (outL : Nat) (outC : Nat) (i : Int) (h : Hp) (nx0 : (Option Addr × Nat × Nat) × Int × Unit → Hp → Prop) (K : Value → Hp → Prop) : rEncode_b6 l lL lC nv out outL outC i h nx0 K = (
  InR (i + 8) ∧
  nx0 ((out, outL, outC), i + 8, ()) h) := by kernel_rfl
theorem rEncode_call {l : Option Addr} {lL : Nat} {lC : Nat} {h : Hp} {K : Value → Hp → Prop} (hk : rEncode_b0 l lL lC h K) : HCalls Try.prog 30 #[.slice l lL lC] h K :=
  calls_of_snd rEncode_an Try.func30 (c := bodyOf Try.f30) rfl Try.ntmps30 (Nat.le_of_ble_eq_true rfl) (snd_4 F_ok F_mixed) hk

/-! ### rDecode -/
def rDecode_an : Ann := .node none (.leaf) (.node none (.leaf) (.node none (.leaf) (.node none (.leaf) (.node none (.leaf) (.node none (.leaf) (.node none (.leaf) (.node (some [5]) (.node none (.leaf) (.loop [0, 4] [(5, .slice), (6, .int .i64)] (.node none (.leaf) (.node (some [0, 4, 5, 6]) (.node none (.leaf) (.node none (.leaf) (.loop [0, 4, 6] [(5, .slice), (7, .int .i64), (8, .int .i64)] (.node none (.leaf) (.node (some [0, 4, 5, 6, 7, 8]) (.leaf) (.leaf)))))) (.leaf))))) (.leaf))))))))
def rDecode_K0  (K : Value → Hp → Prop) : Exit → Env → Hp → Prop := retK Try.prog Try.f32.results.toList K
def rDecode_K1  (K : Value → Hp → Prop) : Exit → Env → Hp → Prop := thenE (fun env h => sx_3 Try.prog F 81 (cp [1, 1, 1, 1, 1, 1, 1, 1] (bodyOf Try.f32)) (ap [1, 1, 1, 1, 1, 1, 1, 1] rDecode_an) (rs [5] env) h (rDecode_K0  K)) (rDecode_K0  K)
def rDecode_K2  (K : Value → Hp → Prop) : Exit → Env → Hp → Prop := blockE 0 (rDecode_K1  K)
def rDecode_K3 (nx0 : (Option Addr × Nat × Nat) × Int × Unit → Hp → Prop) (K : Value → Hp → Prop) : Exit → Env → Hp → Prop := thenE (fun env h => getV [(5, .slice), (6, .int .i64)] env fun s => nx0 s h) (rDecode_K2  K)
def rDecode_K4 (nx0 : (Option Addr × Nat × Nat) × Int × Unit → Hp → Prop) (K : Value → Hp → Prop) : Exit → Env → Hp → Prop := thenE (fun env h => sx_2 Try.prog F 81 (cp [1, 1, 1, 1, 1, 1, 1, 0, 1, 2, 2, 1, 1] (bodyOf Try.f32)) (ap [1, 1, 1, 1, 1, 1, 1, 0, 1, 2, 1, 1] rDecode_an) (rs [0, 4, 5, 6] env) h (rDecode_K3 nx0 K)) (rDecode_K3 nx0 K)
def rDecode_K5 (nx0 : (Option Addr × Nat × Nat) × Int × Unit → Hp → Prop) (K : Value → Hp → Prop) : Exit → Env → Hp → Prop := blockE 1 (rDecode_K4 nx0 K)
def rDecode_K6 (nx0 : (Option Addr × Nat × Nat) × Int × Unit → Hp → Prop) (K : Value → Hp → Prop) : Exit → Env → Hp → Prop := blockE 2 (rDecode_K5 nx0 K)
def rDecode_K7 (nx0 : (Option Addr × Nat × Nat) × Int × Unit → Hp → Prop) (nx1 : (Option Addr × Nat × Nat) × Int × Int × Unit → Hp → Prop) (K : Value → Hp → Prop) : Exit → Env → Hp → Prop := thenE (fun env h => getV [(5, .slice), (7, .int .i64), (8, .int .i64)] env fun s => nx1 s h) (rDecode_K6 nx0 K)
def rDecode_b0 (b : Option Addr) (bL : Nat) (bC : Nat) (h : Hp)  (K : Value → Hp → Prop) : Prop :=
  sx_4 Try.prog F 81 (cp [] (bodyOf Try.f32)) (ap [] rDecode_an) [(0, .slice b bL bC)] h (rDecode_K0  K)
def rDecode_b1 (out : Option Addr) (outL : Nat) (outC : Nat) (i : Int) (b : Option Addr) (bL : Nat) (bC : Nat) (nv : Int) (h : Hp) (nx0 : (Option Addr × Nat × Nat) × Int × Unit → Hp → Prop) (K : Value → Hp → Prop) : Prop :=
  sx_3 Try.prog F 81 (cp [1, 1, 1, 1, 1, 1, 1, 0, 1, 2, 2] (bodyOf Try.f32)) (ap [1, 1, 1, 1, 1, 1, 1, 0, 1, 2] rDecode_an) [(5, .slice out outL outC), (6, .int .i64 i), (0, .slice b bL bC), (4, .int .i64 nv)] h (rDecode_K3 nx0 K)
def rDecode_b2 (out : Option Addr) (outL : Nat) (outC : Nat) (c : Int) (k : Int) (b : Option Addr) (bL : Nat) (bC : Nat) (nv : Int) (i : Int) (h : Hp) (nx0 : (Option Addr × Nat × Nat) × Int × Unit → Hp → Prop) (nx1 : (Option Addr × Nat × Nat) × Int × Int × Unit → Hp → Prop) (K : Value → Hp → Prop) : Prop :=
  sx_2 Try.prog F 81 (cp [1, 1, 1, 1, 1, 1, 1, 0, 1, 2, 2, 1, 0, 2, 1, 1, 2, 2] (bodyOf Try.f32)) (ap [1, 1, 1, 1, 1, 1, 1, 0, 1, 2, 1, 0, 1, 1, 2] rDecode_an) [(5, .slice out outL outC), (7, .int .i64 c), (8, .int .i64 k), (0, .slice b bL bC), (4, .int .i64 nv), (6, .int .i64 i)] h (rDecode_K7 nx0 nx1 K)
def rDecode_b3 (out : Option Addr) (outL : Nat) (outC : Nat) (h : Hp)  (K : Value → Hp → Prop) : Prop :=
  sx_3 Try.prog F 81 (cp [1, 1, 1, 1, 1, 1, 1, 1] (bodyOf Try.f32)) (ap [1, 1, 1, 1, 1, 1, 1, 1] rDecode_an) [(5, .slice out outL outC)] h (rDecode_K0  K)
def rDecode_b4 (b : Option Addr) (bL : Nat) (bC : Nat) (nv : Int) (out : Option Addr) (outL : Nat) (outC : Nat) (i : Int) (c : Int) (k : Int) (h : Hp) (nx0 : (Option Addr × Nat × Nat) × Int × Unit → Hp → Prop) (nx1 : (Option Addr × Nat × Nat) × Int × Int × Unit → Hp → Prop) (K : Value → Hp → Prop) : Prop :=
  sx_1 Try.prog F 81 (cp [1, 1, 1, 1, 1, 1, 1, 0, 1, 2, 2, 1, 0, 2, 1, 1, 2, 2, 1, 1] (bodyOf Try.f32)) (ap [1, 1, 1, 1, 1, 1, 1, 0, 1, 2, 1, 0, 1, 1, 2, 1, 1] rDecode_an) [(0, .slice b bL bC), (4, .int .i64 nv), (5, .slice out outL outC), (6, .int .i64 i), (7, .int .i64 c), (8, .int .i64 k)] h (rDecode_K7 nx0 nx1 K)
def rDecode_b5 (b : Option Addr) (bL : Nat) (bC : Nat) (nv : Int) (out : Option Addr) (outL : Nat) (outC : Nat) (i : Int) (h : Hp) (nx0 : (Option Addr × Nat × Nat) × Int × Unit → Hp → Prop) (K : Value → Hp → Prop) : Prop :=
  sx_2 Try.prog F 81 (cp [1, 1, 1, 1, 1, 1, 1, 0, 1, 2, 2, 1, 1] (bodyOf Try.f32)) (ap [1, 1, 1, 1, 1, 1, 1, 0, 1, 2, 1, 1] rDecode_an) [(0, .slice b bL bC), (4, .int .i64 nv), (5, .slice out outL outC), (6, .int .i64 i)] h (rDecode_K3 nx0 K)
theorem rDecode_b0_eq (b : Option Addr) (bL : Nat) (bC : Nat) (h : Hp)  (K : Value → Hp → Prop) : rDecode_b0 b bL bC h  K = (
  cond (decide ((bL : Int) < 4))
  (K (.tuple #[.slice none 0 0, .int .i64 8]) h)
  ((0 ≤ (0 : Int) ∧ (0 : Int) < (bL : Int)) ∧
  NN b fun a1 =>
  ∃ n1 : Int, cell h (a1.add (Int.toNat (0 : Int) * 1)) = some (.int .u8 n1) ∧
  InR n1 ∧
  InR (n1 * 256) ∧
  (0 ≤ (1 : Int) ∧ (1 : Int) < (bL : Int)) ∧
  NN b fun a2 =>
  ∃ n2 : Int, cell h (a2.add (Int.toNat (1 : Int) * 1)) = some (.int .u8 n2) ∧
  InR n2 ∧
  InR ((n1 * 256) + n2) ∧
  InR (((n1 * 256) + n2) * 256) ∧
  (0 ≤ (2 : Int) ∧ (2 : Int) < (bL : Int)) ∧
  NN b fun a3 =>
  ∃ n3 : Int, cell h (a3.add (Int.toNat (2 : Int) * 1)) = some (.int .u8 n3) ∧
  InR n3 ∧
  InR ((((n1 * 256) + n2) * 256) + n3) ∧
  InR (((((n1 * 256) + n2) * 256) + n3) * 256) ∧
  (0 ≤ (3 : Int) ∧ (3 : Int) < (bL : Int)) ∧
  NN b fun a4 =>
  ∃ n4 : Int, cell h (a4.add (Int.toNat (3 : Int) * 1)) = some (.int .u8 n4) ∧
  InR n4 ∧
  InR ((((((n1 * 256) + n2) * 256) + n3) * 256) + n4) ∧
  cond (decide ((65536 : Int) < ((((((n1 * 256) + n2) * 256) + n3) * 256) + n4)))
  (K (.tuple #[.slice none 0 0, .int .i64 4]) h)
  (InR ((bL : Int) - 4) ∧
  InR (((((((n1 * 256) + n2) * 256) + n3) * 256) + n4) + 7) ∧
  ∃ q1 : Int, Sx.Quo .i64 (((((((n1 * 256) + n2) * 256) + n3) * 256) + n4) + 7) 8 q1 ∧
  cond (decide (((bL : Int) - 4) < q1))
  (K (.tuple #[.slice none 0 0, .int .i64 8]) h)
  (InR ((bL : Int) - 4) ∧
  InR (((((((n1 * 256) + n2) * 256) + n3) * 256) + n4) + 7) ∧
  ∃ q2 : Int, Sx.Quo .i64 (((((((n1 * 256) + n2) * 256) + n3) * 256) + n4) + 7) 8 q2 ∧
  cond (decide (q2 < ((bL : Int) - 4)))
  (K (.tuple #[.slice none 0 0, .int .i64 7]) h)
  (LoopVC (((none, 0, 0), 4, ()) : (Option Addr × Nat × Nat) × Int × Unit) h (fun (nx0 : (Option Addr × Nat × Nat) × Int × Unit → Hp → Prop) (s1 : (Option Addr × Nat × Nat) × Int × Unit) h1 => rDecode_b1 s1.1.1 s1.1.2.1 s1.1.2.2 s1.2.1 b bL bC ((((((n1 * 256) + n2) * 256) + n3) * 256) + n4) h1 nx0 K)))))) := by kernel_rfl
theorem rDecode_b1_eq (out : Option Addr) (outL : Nat) (outC : Nat) (i : Int) (b : Option Addr) (bL : Nat) (bC : Nat) (nv : Int) (h : Hp) (nx0 : (Option Addr × Nat × Nat) × Int × Unit → Hp → Prop) (K : Value → Hp → Prop) : rDecode_b1 out outL outC i b bL bC nv h nx0 K = (
  cond (decide (i < (bL : Int)))
  ((0 ≤ i ∧ i < (bL : Int)) ∧
  NN b fun a5 =>
  ∃ n5 : Int, cell h (a5.add (Int.toNat i * 1)) = some (.int .u8 n5) ∧
  InR n5 ∧
  LoopVC (((out, outL, outC), n5, 0, ()) : (Option Addr × Nat × Nat) × Int × Int × Unit) h (fun (nx1 : (Option Addr × Nat × Nat) × Int × Int × Unit → Hp → Prop) (s2 : (Option Addr × Nat × Nat) × Int × Int × Unit) h2 => rDecode_b2 s2.1.1 s2.1.2.1 s2.1.2.2 s2.2.1 s2.2.2.1 b bL bC nv i h2 nx0 nx1 K))
  (rDecode_b3 out outL outC h  K)) := by kernel_rfl
theorem rDecode_b2_eq (out : Option Addr) (outL : Nat) (outC : Nat) (c : Int) (k : Int) (b : Option Addr) (bL : Nat) (bC : Nat) (nv : Int) (i : Int) (h : Hp) (nx0 : (Option Addr × Nat × Nat) × Int × Unit → Hp → Prop) (nx1 : (Option Addr × Nat × Nat) × Int × Int × Unit → Hp → Prop) (K : Value → Hp → Prop) : rDecode_b2 out outL outC c k b bL bC nv i h nx0 nx1 K = (
  cond (decide (k < 8))
  (InR (c * 2) ∧
  ∃ r1 : Int, Sx.Rem (c * 2) 256 r1 ∧
  cond (decide ((outL : Int) < nv))
  (New h (.cells #[.bool (decide ((128 : Int) ≤ c))] 4) fun b1 h3 =>
  appendV Try.prog 22 22 (.slice out outL outC) (.slice (some ⟨b1, 0, none⟩) 1 1) h3 (slK fun a6 l1 c1 h4 =>
  rDecode_b4 b bL bC nv a6 l1 c1 i r1 k h4 nx0 nx1 K))
  (cond (decide ((128 : Int) ≤ c))
  (K (.tuple #[.slice none 0 0, .int .i64 7]) h)
  (rDecode_b4 b bL bC nv out outL outC i r1 k h nx0 nx1 K)))
  (rDecode_b5 b bL bC nv out outL outC i h nx0 K)) := by kernel_rfl
theorem rDecode_b3_eq (out : Option Addr) (outL : Nat) (outC : Nat) (h : Hp)  (K : Value → Hp → Prop) : rDecode_b3 out outL outC h  K = (
  K (.tuple #[.slice out outL outC, .int .i64 0]) h) := by kernel_rfl
theorem rDecode_b4_eq (b : Option Addr) (bL : Nat) (bC : Nat) (nv : Int) (out : Option Addr) (outL : Nat) (outC : Nat) (i : Int) (c : Int) (k : Int) (h : Hp) (nx0 : (Option Addr × Nat × Nat) × Int × Unit → Hp → Prop) (nx1 : (Option Addr × Nat × Nat) × Int × Int × Unit → Hp → Prop) (K : Value → Hp → Prop) : rDecode_b4 b bL bC nv out outL outC i c k h nx0 nx1 K = (
  InR (k + 1) ∧
  nx1 ((out, outL, outC), c, k + 1, ()) h) := by kernel_rfl
theorem rDecode_b5_eq (b : Option Addr) (bL : Nat) (bC : Nat) (nv : Int) (out : Option Addr) (outL : Nat) (outC : Nat) (i : Int) (h : Hp) (nx0 : (Option Addr × Nat × Nat) × Int × Unit → Hp → Prop) (K : Value → Hp → Prop) : rDecode_b5 b bL bC nv out outL outC i h nx0 K = (
  InR (i + 1) ∧
  nx0 ((out, outL, outC), i + 1, ()) h) := by kernel_rfl
theorem rDecode_call {b : Option Addr} {bL : Nat} {bC : Nat} {h : Hp} {K : Value → Hp → Prop} (hk : rDecode_b0 b bL bC h K) : HCalls Try.prog 32 #[.slice b bL bC] h K :=
  calls_of_snd rDecode_an Try.func32 (c := bodyOf Try.f32) rfl Try.ntmps32 (Nat.le_of_ble_eq_true rfl) (snd_4 F_ok F_mixed) hk

/-! ### number -/
def number_an : Ann := .leaf
def number_K0  (K : Value → Hp → Prop) : Exit → Env → Hp → Prop := retK Try.prog Try.f14.results.toList K
def number_b0 (nv : Int) (e : Int) (want : Int) (none : Int) (h : Hp)  (K : Value → Hp → Prop) : Prop :=
  sx_1 Try.prog F 25 (cp [] (bodyOf Try.f14)) (ap [] number_an) [(0, .int .i64 nv), (1, .int .i64 e), (2, .int .i64 want), (3, .int .i64 none)] h (number_K0  K)
theorem number_b0_eq (nv : Int) (e : Int) (want : Int) (none : Int) (h : Hp)  (K : Value → Hp → Prop) : number_b0 nv e want none h  K = (
  cond (decide (want < 0))
  (cond (decide (nv = 0))
  (K (.bool (decide (e = none))) h)
  (K (.bool false) h))
  (cond (decide (nv = want))
  (K (.bool (decide (e = 0))) h)
  (K (.bool false) h))) := by kernel_rfl
theorem number_call {nv : Int} {e : Int} {want : Int} {none : Int} {h : Hp} {K : Value → Hp → Prop} (hk : number_b0 nv e want none h K) : HCalls Try.prog 14 #[.int .i64 nv, .int .i64 e, .int .i64 want, .int .i64 none] h K :=
  calls_of_snd number_an Try.func14 (c := bodyOf Try.f14) rfl Try.ntmps14 (Nat.le_of_ble_eq_true rfl) (snd_1 F_ok F_mixed) hk

/-! ### awake -/
def awake_an : Ann := .node none (.leaf) (.node none (.leaf) (.node (some [1]) (.leaf) (.leaf)))
def awake_K0  (K : Value → Hp → Prop) : Exit → Env → Hp → Prop := retK Try.prog Try.f9.results.toList K
def awake_b0  (h : Hp)  (K : Value → Hp → Prop) : Prop :=
  sx_2 Try.prog F 54 (cp [] (bodyOf Try.f9)) (ap [] awake_an) [] h (awake_K0  K)
def awake_b1 (v : Option Addr) (h : Hp)  (K : Value → Hp → Prop) : Prop :=
  sx_1 Try.prog F 54 (cp [1, 1, 1] (bodyOf Try.f9)) (ap [1, 1, 1] awake_an) [(1, .pointer v)] h (awake_K0  K)
theorem awake_b0_eq  (h : Hp)  (K : Value → Hp → Prop) : awake_b0  h  K = (
  New h (.cells #[.bool false, .bool true, .bool true, .bool false, .bool true] 4) fun b1 h1 =>
  HCalls Try.prog 10 #[.slice (some ⟨b1, 0, none⟩) 5 5] h1 fun v1 h2 => ∃ r1 : Option Addr, ∃ r2 : Int, v1 = .tuple #[.pointer r1, .int .i64 r2] ∧
  cond (!decide (r2 = 0))
  (K (.bool false) h2)
  (cond r1.isNone
  (K (.bool false) h2)
  (awake_b1 r1 h2  K))) := by kernel_rfl
theorem awake_b1_eq (v : Option Addr) (h : Hp)  (K : Value → Hp → Prop) : awake_b1 v h  K = (
  HCalls Try.prog 11 #[.pointer v, .bool true, .int .i64 3] h fun v2 h3 => ∃ r3 : Int, ∃ r4 : Int, v2 = .tuple #[.int .i64 r3, .int .i64 r4] ∧
  HCalls Try.prog 12 #[.pointer v, .bool true, .int .i64 2] h3 fun v3 h4 => ∃ r5 : Int, ∃ r6 : Int, v3 = .tuple #[.int .i64 r5, .int .i64 r6] ∧
  cond (decide (r4 = 0))
  (cond (decide (r3 = 2))
  (cond (decide (r6 = 0))
  (cond (decide (r5 = 4))
  (HCalls Try.prog 25 #[.pointer v] h4 fun v4 h5 => ∃ (r7 : Option Addr) (rL1 rC1 : Nat), v4 = .slice r7 rL1 rC1 ∧
  New h5 (.cells #[.int .i64 1, .int .i64 2, .int .i64 1, .int .i64 1] 3) fun b2 h6 =>
  HCalls Try.prog 24 #[.slice r7 rL1 rC1, .slice (some ⟨b2, 0, none⟩) 4 4] h6 fun v5 h7 => ∃ r8 : Bool, v5 = .bool r8 ∧
  cond r8
  (HCalls Try.prog 28 #[.pointer v] h7 fun v6 h8 => ∃ (r9 : Option Addr) (rL2 rC2 : Nat), v6 = .slice r9 rL2 rC2 ∧
  New h8 (.cells #[.int .u8 0, .int .u8 0, .int .u8 0, .int .u8 5, .int .u8 104] 5) fun b3 h9 =>
  HCalls Try.prog 29 #[.slice r9 rL2 rC2, .slice (some ⟨b3, 0, none⟩) 5 5] h9 fun v7 h10 => ∃ r10 : Bool, v7 = .bool r10 ∧
  K (.bool r10) h10)
  (K (.bool false) h7))
  (K (.bool false) h4))
  (K (.bool false) h4))
  (K (.bool false) h4))
  (K (.bool false) h4)) := by kernel_rfl
theorem awake_call  {h : Hp} {K : Value → Hp → Prop} (hk : awake_b0  h K) : HCalls Try.prog 9 #[] h K :=
  calls_of_snd awake_an Try.func9 (c := bodyOf Try.f9) rfl Try.ntmps9 (Nat.le_of_ble_eq_true rfl) (snd_2 F_ok F_mixed) hk

/-! ### LRanks -/
def LRanks_an : Ann := .leaf
def LRanks_K0  (K : Value → Hp → Prop) : Exit → Env → Hp → Prop := retK Try.prog Try.f3.results.toList K
def LRanks_b0 (bits : Option Addr) (bitsL : Nat) (bitsC : Nat) (bit : Bool) (i : Int) (h : Hp)  (K : Value → Hp → Prop) : Prop :=
  sx_1 Try.prog F 92 (cp [] (bodyOf Try.f3)) (ap [] LRanks_an) [(0, .slice bits bitsL bitsC), (1, .bool bit), (2, .int .i64 i)] h (LRanks_K0  K)
theorem LRanks_b0_eq (bits : Option Addr) (bitsL : Nat) (bitsC : Nat) (bit : Bool) (i : Int) (h : Hp)  (K : Value → Hp → Prop) : LRanks_b0 bits bitsL bitsC bit i h  K = (
  HCalls Try.prog 9 #[] h fun v1 h1 => ∃ r1 : Bool, v1 = .bool r1 ∧
  cond (!r1)
  (K (.bool false) h1)
  (cond (decide ((2000 : Int) < (bitsL : Int)))
  (K (.bool true) h1)
  (HCalls Try.prog 10 #[.slice bits bitsL bitsC] h1 fun v2 h2 => ∃ r2 : Option Addr, ∃ r3 : Int, v2 = .tuple #[.pointer r2, .int .i64 r3] ∧
  cond (!decide (r3 = 0))
  (K (.bool false) h2)
  (HCalls Try.prog 11 #[.pointer r2, .bool bit, .int .i64 i] h2 fun v3 h3 => ∃ r4 : Int, ∃ r5 : Int, v3 = .tuple #[.int .i64 r4, .int .i64 r5] ∧
  HCalls Try.prog 12 #[.pointer r2, .bool bit, .int .i64 i] h3 fun v4 h4 => ∃ r6 : Int, ∃ r7 : Int, v4 = .tuple #[.int .i64 r6, .int .i64 r7] ∧
  cond (decide (i < 0))
  (cond (decide (r4 = 0))
  (cond (decide (r5 = 2))
  (cond (decide (r6 = 0))
  (K (.bool (decide (r7 = 2))) h4)
  (K (.bool false) h4))
  (K (.bool false) h4))
  (K (.bool false) h4))
  (cond (decide ((bitsL : Int) < i))
  (cond (decide (r4 = 0))
  (cond (decide (r5 = 2))
  (cond (decide (r6 = 0))
  (K (.bool (decide (r7 = 12))) h4)
  (K (.bool false) h4))
  (K (.bool false) h4))
  (K (.bool false) h4))
  (HCalls Try.prog 13 #[.slice bits bitsL bitsC, .bool bit, .int .i64 i] h4 fun v5 h5 => ∃ r8 : Int, v5 = .int .i64 r8 ∧
  cond (decide (r4 = r8))
  (cond (decide (r5 = 0))
  (HCalls Try.prog 15 #[.slice bits bitsL bitsC, .bool bit, .int .i64 i] h5 fun v6 h6 => ∃ r9 : Int, v6 = .int .i64 r9 ∧
  HCalls Try.prog 14 #[.int .i64 r6, .int .i64 r7, .int .i64 r9, .int .i64 12] h6 fun v7 h7 => ∃ r10 : Bool, v7 = .bool r10 ∧
  K (.bool r10) h7)
  (K (.bool false) h5))
  (K (.bool false) h5))))))) := by kernel_rfl
theorem LRanks_call {bits : Option Addr} {bitsL : Nat} {bitsC : Nat} {bit : Bool} {i : Int} {h : Hp} {K : Value → Hp → Prop} (hk : LRanks_b0 bits bitsL bitsC bit i h K) : HCalls Try.prog 3 #[.slice bits bitsL bitsC, .bool bit, .int .i64 i] h K :=
  calls_of_snd LRanks_an Try.func3 (c := bodyOf Try.f3) rfl Try.ntmps3 (Nat.le_of_ble_eq_true rfl) (snd_1 F_ok F_mixed) hk

/-! ### LSteps -/
def LSteps_an : Ann := .node none (.leaf) (.node none (.leaf) (.node none (.leaf) (.node none (.leaf) (.node none (.leaf) (.node none (.leaf) (.node none (.leaf) (.node (some [0, 1, 2, 9, 10, 11, 12]) (.leaf) (.leaf))))))))
def LSteps_K0  (K : Value → Hp → Prop) : Exit → Env → Hp → Prop := retK Try.prog Try.f4.results.toList K
def LSteps_b0 (bits : Option Addr) (bitsL : Nat) (bitsC : Nat) (bit : Bool) (i : Int) (h : Hp)  (K : Value → Hp → Prop) : Prop :=
  sx_2 Try.prog F 77 (cp [] (bodyOf Try.f4)) (ap [] LSteps_an) [(0, .slice bits bitsL bitsC), (1, .bool bit), (2, .int .i64 i)] h (LSteps_K0  K)
def LSteps_b1 (bits : Option Addr) (bitsL : Nat) (bitsC : Nat) (bit : Bool) (i : Int) (nv : Int) (f : Int) (p : Int) (g : Int) (h : Hp)  (K : Value → Hp → Prop) : Prop :=
  sx_1 Try.prog F 77 (cp [1, 1, 1, 1, 1, 1, 1, 1] (bodyOf Try.f4)) (ap [1, 1, 1, 1, 1, 1, 1, 1] LSteps_an) [(0, .slice bits bitsL bitsC), (1, .bool bit), (2, .int .i64 i), (9, .int .i64 nv), (10, .int .i64 f), (11, .int .i64 p), (12, .int .i64 g)] h (LSteps_K0  K)
theorem LSteps_b0_eq (bits : Option Addr) (bitsL : Nat) (bitsC : Nat) (bit : Bool) (i : Int) (h : Hp)  (K : Value → Hp → Prop) : LSteps_b0 bits bitsL bitsC bit i h  K = (
  HCalls Try.prog 9 #[] h fun v1 h1 => ∃ r1 : Bool, v1 = .bool r1 ∧
  cond (!r1)
  (K (.bool false) h1)
  (cond (decide ((2000 : Int) < (bitsL : Int)))
  (K (.bool true) h1)
  (HCalls Try.prog 10 #[.slice bits bitsL bitsC] h1 fun v2 h2 => ∃ r2 : Option Addr, ∃ r3 : Int, v2 = .tuple #[.pointer r2, .int .i64 r3] ∧
  cond (!decide (r3 = 0))
  (K (.bool false) h2)
  (HCalls Try.prog 16 #[.pointer r2, .bool bit, .int .i64 i] h2 fun v3 h3 => ∃ r4 : Int, ∃ r5 : Int, v3 = .tuple #[.int .i64 r4, .int .i64 r5] ∧
  HCalls Try.prog 17 #[.pointer r2, .bool bit, .int .i64 i] h3 fun v4 h4 => ∃ r6 : Int, ∃ r7 : Int, v4 = .tuple #[.int .i64 r6, .int .i64 r7] ∧
  cond (decide (i < 0))
  (cond (decide (r4 = 0))
  (cond (decide (r5 = 2))
  (cond (decide (r6 = 0))
  (K (.bool (decide (r7 = 2))) h4)
  (K (.bool false) h4))
  (K (.bool false) h4))
  (K (.bool false) h4))
  (cond (decide ((bitsL : Int) < i))
  (cond (decide (r4 = 0))
  (cond (decide (r5 = 2))
  (cond (decide (r6 = 0))
  (K (.bool (decide (r7 = 2))) h4)
  (K (.bool false) h4))
  (K (.bool false) h4))
  (K (.bool false) h4))
  (LSteps_b1 bits bitsL bitsC bit i r4 r5 r6 r7 h4  K)))))) := by kernel_rfl
theorem LSteps_b1_eq (bits : Option Addr) (bitsL : Nat) (bitsC : Nat) (bit : Bool) (i : Int) (nv : Int) (f : Int) (p : Int) (g : Int) (h : Hp)  (K : Value → Hp → Prop) : LSteps_b1 bits bitsL bitsC bit i nv f p g h  K = (
  HCalls Try.prog 18 #[.slice bits bitsL bitsC, .bool bit, .int .i64 i] h fun v5 h5 => ∃ r8 : Int, v5 = .int .i64 r8 ∧
  HCalls Try.prog 14 #[.int .i64 nv, .int .i64 f, .int .i64 r8, .int .i64 12] h5 fun v6 h6 => ∃ r9 : Bool, v6 = .bool r9 ∧
  cond r9
  (HCalls Try.prog 19 #[.slice bits bitsL bitsC, .bool bit, .int .i64 i] h6 fun v7 h7 => ∃ r10 : Int, v7 = .int .i64 r10 ∧
  HCalls Try.prog 14 #[.int .i64 p, .int .i64 g, .int .i64 r10, .int .i64 12] h7 fun v8 h8 => ∃ r11 : Bool, v8 = .bool r11 ∧
  K (.bool r11) h8)
  (K (.bool false) h6)) := by kernel_rfl
theorem LSteps_call {bits : Option Addr} {bitsL : Nat} {bitsC : Nat} {bit : Bool} {i : Int} {h : Hp} {K : Value → Hp → Prop} (hk : LSteps_b0 bits bitsL bitsC bit i h K) : HCalls Try.prog 4 #[.slice bits bitsL bitsC, .bool bit, .int .i64 i] h K :=
  calls_of_snd LSteps_an Try.func4 (c := bodyOf Try.f4) rfl Try.ntmps4 (Nat.le_of_ble_eq_true rfl) (snd_2 F_ok F_mixed) hk

/-! ### LMakes -/
def LMakes_an : Ann := .node none (.leaf) (.node none (.leaf) (.node (some [0, 1]) (.leaf) (.node none (.leaf) (.node none (.leaf) (.node (some [0, 1, 5]) (.leaf) (.node none (.leaf) (.node (some [0, 1, 7, 8]) (.leaf) (.leaf))))))))
def LMakes_K0  (K : Value → Hp → Prop) : Exit → Env → Hp → Prop := retK Try.prog Try.f5.results.toList K
def LMakes_b0 (bits : Option Addr) (bitsL : Nat) (bitsC : Nat) (i : Int) (h : Hp)  (K : Value → Hp → Prop) : Prop :=
  sx_4 Try.prog F 105 (cp [] (bodyOf Try.f5)) (ap [] LMakes_an) [(0, .slice bits bitsL bitsC), (1, .int .i64 i)] h (LMakes_K0  K)
def LMakes_b1 (bits : Option Addr) (bitsL : Nat) (bitsC : Nat) (i : Int) (h : Hp)  (K : Value → Hp → Prop) : Prop :=
  sx_3 Try.prog F 105 (cp [1, 1, 1] (bodyOf Try.f5)) (ap [1, 1, 1] LMakes_an) [(0, .slice bits bitsL bitsC), (1, .int .i64 i)] h (LMakes_K0  K)
def LMakes_b2 (bits : Option Addr) (bitsL : Nat) (bitsC : Nat) (i : Int) (v : Option Addr) (h : Hp)  (K : Value → Hp → Prop) : Prop :=
  sx_2 Try.prog F 105 (cp [1, 1, 1, 1, 1, 1] (bodyOf Try.f5)) (ap [1, 1, 1, 1, 1, 1] LMakes_an) [(0, .slice bits bitsL bitsC), (1, .int .i64 i), (5, .pointer v)] h (LMakes_K0  K)
def LMakes_b3 (bits : Option Addr) (bitsL : Nat) (bitsC : Nat) (i : Int) (b : Bool) (f : Int) (h : Hp)  (K : Value → Hp → Prop) : Prop :=
  sx_1 Try.prog F 105 (cp [1, 1, 1, 1, 1, 1, 1, 1] (bodyOf Try.f5)) (ap [1, 1, 1, 1, 1, 1, 1, 1] LMakes_an) [(0, .slice bits bitsL bitsC), (1, .int .i64 i), (7, .bool b), (8, .int .i64 f)] h (LMakes_K0  K)
theorem LMakes_b0_eq (bits : Option Addr) (bitsL : Nat) (bitsC : Nat) (i : Int) (h : Hp)  (K : Value → Hp → Prop) : LMakes_b0 bits bitsL bitsC i h  K = (
  HCalls Try.prog 9 #[] h fun v1 h1 => ∃ r1 : Bool, v1 = .bool r1 ∧
  cond (!r1)
  (K (.bool false) h1)
  (cond (decide ((2000 : Int) < (bitsL : Int)))
  (cond (decide ((bitsL : Int) ≤ 65536))
  (K (.bool true) h1)
  (cond (decide ((65546 : Int) < (bitsL : Int)))
  (K (.bool true) h1)
  (LMakes_b1 bits bitsL bitsC i h1  K)))
  (cond (decide ((65546 : Int) < (bitsL : Int)))
  (K (.bool true) h1)
  (LMakes_b1 bits bitsL bitsC i h1  K)))) := by kernel_rfl
theorem LMakes_b1_eq (bits : Option Addr) (bitsL : Nat) (bitsC : Nat) (i : Int) (h : Hp)  (K : Value → Hp → Prop) : LMakes_b1 bits bitsL bitsC i h  K = (
  HCalls Try.prog 10 #[.slice bits bitsL bitsC] h fun v2 h2 => ∃ r2 : Option Addr, ∃ r3 : Int, v2 = .tuple #[.pointer r2, .int .i64 r3] ∧
  cond (decide ((65536 : Int) < (bitsL : Int)))
  (cond r2.isNone
  (K (.bool (decide (r3 = 4))) h2)
  (K (.bool false) h2))
  (cond (!decide (r3 = 0))
  (K (.bool false) h2)
  (cond r2.isNone
  (K (.bool false) h2)
  (HCalls Try.prog 20 #[.pointer r2] h2 fun v3 h3 => ∃ r4 : Int, v3 = .int .i64 r4 ∧
  cond (!decide (r4 = (bitsL : Int)))
  (K (.bool false) h3)
  (HCalls Try.prog 21 #[.pointer r2] h3 fun v4 h4 => ∃ r5 : Int, v4 = .int .i64 r5 ∧
  HCalls Try.prog 13 #[.slice bits bitsL bitsC, .bool true, .int .i64 (bitsL : Int)] h4 fun v5 h5 => ∃ r6 : Int, v5 = .int .i64 r6 ∧
  cond (!decide (r5 = r6))
  (K (.bool false) h5)
  (HCalls Try.prog 23 #[.pointer r2] h5 fun v6 h6 => ∃ (r7 : Option Addr) (rL1 rC1 : Nat), v6 = .slice r7 rL1 rC1 ∧
  HCalls Try.prog 22 #[.slice r7 rL1 rC1, .slice bits bitsL bitsC] h6 fun v7 h7 => ∃ r8 : Bool, v7 = .bool r8 ∧
  cond (!r8)
  (K (.bool false) h7)
  (HCalls Try.prog 25 #[.pointer r2] h7 fun v8 h8 => ∃ (r9 : Option Addr) (rL2 rC2 : Nat), v8 = .slice r9 rL2 rC2 ∧
  HCalls Try.prog 26 #[.slice bits bitsL bitsC] h8 fun v9 h9 => ∃ (r10 : Option Addr) (rL3 rC3 : Nat), v9 = .slice r10 rL3 rC3 ∧
  HCalls Try.prog 24 #[.slice r9 rL2 rC2, .slice r10 rL3 rC3] h9 fun v10 h10 => ∃ r11 : Bool, v10 = .bool r11 ∧
  cond (!r11)
  (K (.bool false) h10)
  (LMakes_b2 bits bitsL bitsC i r2 h10  K)))))))) := by kernel_rfl
theorem LMakes_b2_eq (bits : Option Addr) (bitsL : Nat) (bitsC : Nat) (i : Int) (v : Option Addr) (h : Hp)  (K : Value → Hp → Prop) : LMakes_b2 bits bitsL bitsC i v h  K = (
  HCalls Try.prog 27 #[.pointer v, .int .i64 i] h fun v11 h11 => ∃ r12 : Bool, ∃ r13 : Int, v11 = .tuple #[.bool r12, .int .i64 r13] ∧
  cond (decide (i < 0))
  (cond (!r12)
  (K (.bool (decide (r13 = 2))) h11)
  (K (.bool false) h11))
  (cond (decide ((bitsL : Int) ≤ i))
  (cond (!r12)
  (K (.bool (decide (r13 = 2))) h11)
  (K (.bool false) h11))
  (LMakes_b3 bits bitsL bitsC i r12 r13 h11  K))) := by kernel_rfl
theorem LMakes_b3_eq (bits : Option Addr) (bitsL : Nat) (bitsC : Nat) (i : Int) (b : Bool) (f : Int) (h : Hp)  (K : Value → Hp → Prop) : LMakes_b3 bits bitsL bitsC i b f h  K = (
  (0 ≤ i ∧ i < (bitsL : Int)) ∧
  NN bits fun a1 =>
  ∃ b1 : Bool, cell h (a1.add (Int.toNat i * 1)) = some (.bool b1) ∧
  cond (b == b1)
  (K (.bool (decide (f = 0))) h)
  (K (.bool false) h)) := by kernel_rfl
theorem LMakes_call {bits : Option Addr} {bitsL : Nat} {bitsC : Nat} {i : Int} {h : Hp} {K : Value → Hp → Prop} (hk : LMakes_b0 bits bitsL bitsC i h K) : HCalls Try.prog 5 #[.slice bits bitsL bitsC, .int .i64 i] h K :=
  calls_of_snd LMakes_an Try.func5 (c := bodyOf Try.f5) rfl Try.ntmps5 (Nat.le_of_ble_eq_true rfl) (snd_4 F_ok F_mixed) hk

/-! ### LNil -/
def LNil_an : Ann := .leaf
def LNil_K0  (K : Value → Hp → Prop) : Exit → Env → Hp → Prop := retK Try.prog Try.f6.results.toList K
def LNil_b0 (bit : Bool) (i : Int) (h : Hp)  (K : Value → Hp → Prop) : Prop :=
  sx_1 Try.prog F 118 (cp [] (bodyOf Try.f6)) (ap [] LNil_an) [(0, .bool bit), (1, .int .i64 i)] h (LNil_K0  K)
theorem LNil_b0_eq (bit : Bool) (i : Int) (h : Hp)  (K : Value → Hp → Prop) : LNil_b0 bit i h  K = (
  HCalls Try.prog 9 #[] h fun v1 h1 => ∃ r1 : Bool, v1 = .bool r1 ∧
  cond (!r1)
  (K (.bool false) h1)
  (HCalls Try.prog 27 #[.pointer none, .int .i64 i] h1 fun v2 h2 => ∃ r2 : Bool, ∃ r3 : Int, v2 = .tuple #[.bool r2, .int .i64 r3] ∧
  HCalls Try.prog 11 #[.pointer none, .bool bit, .int .i64 i] h2 fun v3 h3 => ∃ r4 : Int, ∃ r5 : Int, v3 = .tuple #[.int .i64 r4, .int .i64 r5] ∧
  HCalls Try.prog 12 #[.pointer none, .bool bit, .int .i64 i] h3 fun v4 h4 => ∃ r6 : Int, ∃ r7 : Int, v4 = .tuple #[.int .i64 r6, .int .i64 r7] ∧
  HCalls Try.prog 16 #[.pointer none, .bool bit, .int .i64 i] h4 fun v5 h5 => ∃ r8 : Int, ∃ r9 : Int, v5 = .tuple #[.int .i64 r8, .int .i64 r9] ∧
  HCalls Try.prog 17 #[.pointer none, .bool bit, .int .i64 i] h5 fun v6 h6 => ∃ r10 : Int, ∃ r11 : Int, v6 = .tuple #[.int .i64 r10, .int .i64 r11] ∧
  cond (!r2)
  (cond (decide (r4 = 0))
  (cond (decide (r6 = 0))
  (cond (decide (r8 = 0))
  (cond (decide (r10 = 0))
  (cond (decide (r3 = 1))
  (cond (decide (r5 = 1))
  (cond (decide (r7 = 1))
  (cond (decide (r9 = 1))
  (cond (decide (r11 = 1))
  (HCalls Try.prog 20 #[.pointer none] h6 fun v7 h7 => ∃ r12 : Int, v7 = .int .i64 r12 ∧
  cond (decide (r12 = 0))
  (HCalls Try.prog 21 #[.pointer none] h7 fun v8 h8 => ∃ r13 : Int, v8 = .int .i64 r13 ∧
  cond (decide (r13 = 0))
  (HCalls Try.prog 23 #[.pointer none] h8 fun v9 h9 => ∃ (r14 : Option Addr) (rL1 rC1 : Nat), v9 = .slice r14 rL1 rC1 ∧
  cond (decide ((rL1 : Int) = 0))
  (HCalls Try.prog 25 #[.pointer none] h9 fun v10 h10 => ∃ (r15 : Option Addr) (rL2 rC2 : Nat), v10 = .slice r15 rL2 rC2 ∧
  cond (decide ((rL2 : Int) = 0))
  (HCalls Try.prog 28 #[.pointer none] h10 fun v11 h11 => ∃ (r16 : Option Addr) (rL3 rC3 : Nat), v11 = .slice r16 rL3 rC3 ∧
  K (.bool (decide ((rL3 : Int) = 0))) h11)
  (K (.bool false) h10))
  (K (.bool false) h9))
  (K (.bool false) h8))
  (K (.bool false) h7))
  (K (.bool false) h6))
  (K (.bool false) h6))
  (K (.bool false) h6))
  (K (.bool false) h6))
  (K (.bool false) h6))
  (K (.bool false) h6))
  (K (.bool false) h6))
  (K (.bool false) h6))
  (K (.bool false) h6))
  (K (.bool false) h6))) := by kernel_rfl
theorem LNil_call {bit : Bool} {i : Int} {h : Hp} {K : Value → Hp → Prop} (hk : LNil_b0 bit i h K) : HCalls Try.prog 6 #[.bool bit, .int .i64 i] h K :=
  calls_of_snd LNil_an Try.func6 (c := bodyOf Try.f6) rfl Try.ntmps6 (Nat.le_of_ble_eq_true rfl) (snd_1 F_ok F_mixed) hk

/-! ### LCodes -/
def LCodes_an : Ann := .node none (.leaf) (.node none (.leaf) (.node (some [0, 1]) (.leaf) (.node none (.leaf) (.node (some [1]) (.leaf) (.leaf)))))
def LCodes_K0  (K : Value → Hp → Prop) : Exit → Env → Hp → Prop := retK Try.prog Try.f7.results.toList K
def LCodes_b0 (bits : Option Addr) (bitsL : Nat) (bitsC : Nat) (b : Option Addr) (bL : Nat) (bC : Nat) (h : Hp)  (K : Value → Hp → Prop) : Prop :=
  sx_3 Try.prog F 69 (cp [] (bodyOf Try.f7)) (ap [] LCodes_an) [(0, .slice bits bitsL bitsC), (1, .slice b bL bC)] h (LCodes_K0  K)
def LCodes_b1 (bits : Option Addr) (bitsL : Nat) (bitsC : Nat) (b : Option Addr) (bL : Nat) (bC : Nat) (h : Hp)  (K : Value → Hp → Prop) : Prop :=
  sx_2 Try.prog F 69 (cp [1, 1, 1] (bodyOf Try.f7)) (ap [1, 1, 1] LCodes_an) [(0, .slice bits bitsL bitsC), (1, .slice b bL bC)] h (LCodes_K0  K)
def LCodes_b2 (b : Option Addr) (bL : Nat) (bC : Nat) (h : Hp)  (K : Value → Hp → Prop) : Prop :=
  sx_1 Try.prog F 69 (cp [1, 1, 1, 1, 1] (bodyOf Try.f7)) (ap [1, 1, 1, 1, 1] LCodes_an) [(1, .slice b bL bC)] h (LCodes_K0  K)
theorem LCodes_b0_eq (bits : Option Addr) (bitsL : Nat) (bitsC : Nat) (b : Option Addr) (bL : Nat) (bC : Nat) (h : Hp)  (K : Value → Hp → Prop) : LCodes_b0 bits bitsL bitsC b bL bC h  K = (
  HCalls Try.prog 9 #[] h fun v1 h1 => ∃ r1 : Bool, v1 = .bool r1 ∧
  cond (!r1)
  (K (.bool false) h1)
  (cond (decide ((2000 : Int) < (bitsL : Int)))
  (K (.bool true) h1)
  (cond (decide ((300 : Int) < (bL : Int)))
  (K (.bool true) h1)
  (LCodes_b1 bits bitsL bitsC b bL bC h1  K)))) := by kernel_rfl
theorem LCodes_b1_eq (bits : Option Addr) (bitsL : Nat) (bitsC : Nat) (b : Option Addr) (bL : Nat) (bC : Nat) (h : Hp)  (K : Value → Hp → Prop) : LCodes_b1 bits bitsL bitsC b bL bC h  K = (
  HCalls Try.prog 10 #[.slice bits bitsL bitsC] h fun v2 h2 => ∃ r2 : Option Addr, ∃ r3 : Int, v2 = .tuple #[.pointer r2, .int .i64 r3] ∧
  cond (!decide (r3 = 0))
  (K (.bool false) h2)
  (HCalls Try.prog 28 #[.pointer r2] h2 fun v3 h3 => ∃ (r4 : Option Addr) (rL1 rC1 : Nat), v3 = .slice r4 rL1 rC1 ∧
  HCalls Try.prog 30 #[.slice bits bitsL bitsC] h3 fun v4 h4 => ∃ (r5 : Option Addr) (rL2 rC2 : Nat), v4 = .slice r5 rL2 rC2 ∧
  HCalls Try.prog 29 #[.slice r4 rL1 rC1, .slice r5 rL2 rC2] h4 fun v5 h5 => ∃ r6 : Bool, v5 = .bool r6 ∧
  cond (!r6)
  (K (.bool false) h5)
  (LCodes_b2 b bL bC h5  K))) := by kernel_rfl
theorem LCodes_b2_eq (b : Option Addr) (bL : Nat) (bC : Nat) (h : Hp)  (K : Value → Hp → Prop) : LCodes_b2 b bL bC h  K = (
  HCalls Try.prog 31 #[.slice b bL bC] h fun v6 h6 => ∃ r7 : Option Addr, ∃ r8 : Int, v6 = .tuple #[.pointer r7, .int .i64 r8] ∧
  HCalls Try.prog 32 #[.slice b bL bC] h6 fun v7 h7 => ∃ (r9 : Option Addr) (rL3 rC3 : Nat), ∃ r10 : Int, v7 = .tuple #[.slice r9 rL3 rC3, .int .i64 r10] ∧
  cond (!decide (r8 = r10))
  (K (.bool false) h7)
  (cond (!decide (r10 = 0))
  (cond r7.isNone
  (K (.bool true) h7)
  (cond (decide (r10 = 0))
  (cond (!r7.isNone)
  (HCalls Try.prog 23 #[.pointer r7] h7 fun v8 h8 => ∃ (r11 : Option Addr) (rL4 rC4 : Nat), v8 = .slice r11 rL4 rC4 ∧
  HCalls Try.prog 22 #[.slice r11 rL4 rC4, .slice r9 rL3 rC3] h8 fun v9 h9 => ∃ r12 : Bool, v9 = .bool r12 ∧
  K (.bool r12) h9)
  (K (.bool false) h7))
  (K (.bool false) h7)))
  (cond (decide (r10 = 0))
  (cond (!r7.isNone)
  (HCalls Try.prog 23 #[.pointer r7] h7 fun v10 h10 => ∃ (r13 : Option Addr) (rL5 rC5 : Nat), v10 = .slice r13 rL5 rC5 ∧
  HCalls Try.prog 22 #[.slice r13 rL5 rC5, .slice r9 rL3 rC3] h10 fun v11 h11 => ∃ r14 : Bool, v11 = .bool r14 ∧
  K (.bool r14) h11)
  (K (.bool false) h7))
  (K (.bool false) h7)))) := by kernel_rfl
theorem LCodes_call {bits : Option Addr} {bitsL : Nat} {bitsC : Nat} {b : Option Addr} {bL : Nat} {bC : Nat} {h : Hp} {K : Value → Hp → Prop} (hk : LCodes_b0 bits bitsL bitsC b bL bC h K) : HCalls Try.prog 7 #[.slice bits bitsL bitsC, .slice b bL bC] h K :=
  calls_of_snd LCodes_an Try.func7 (c := bodyOf Try.f7) rfl Try.ntmps7 (Nat.le_of_ble_eq_true rfl) (snd_3 F_ok F_mixed) hk

/-! ### LInverse -/
def LInverse_an : Ann := .node none (.leaf) (.node none (.leaf) (.node none (.leaf) (.node none (.leaf) (.node (some [0, 1, 5]) (.leaf) (.node none (.leaf) (.node (some [0, 1, 5, 7]) (.leaf) (.node none (.leaf) (.node (some [0, 5]) (.node none (.leaf) (.loop [0, 1, 5, 68] [(9, .int .i64), (69, .int .i64)] (.node none (.leaf) (.node none (.leaf) (.node (some [0, 1, 5, 9, 68, 69]) (.node none (.leaf) (.node none (.leaf) (.node (some [0, 1, 5, 9, 10, 11, 68, 69]) (.leaf) (.node none (.leaf) (.node none (.leaf) (.node none (.leaf) (.node (some [0, 1, 5, 11, 68, 69]) (.leaf) (.leaf)))))))) (.leaf)))))) (.node (some [0, 5]) (.node none (.leaf) (.loop [0, 5, 152] [(153, .int .i64)] (.node none (.leaf) (.node none (.leaf) (.node (some [0, 5, 152, 153]) (.leaf) (.leaf)))))) (.node none (.leaf) (.node (some [0, 5, 24]) (.node none (.leaf) (.loop [0, 5, 183, 184] [(24, .int .i64), (185, .int .i64)] (.node none (.leaf) (.node none (.leaf) (.node (some [0, 5, 24, 183, 184, 185]) (.leaf) (.leaf)))))) (.leaf))))))))))))
def LInverse_K0  (K : Value → Hp → Prop) : Exit → Env → Hp → Prop := retK Try.prog Try.f8.results.toList K
def LInverse_K1  (K : Value → Hp → Prop) : Exit → Env → Hp → Prop := thenE (fun env h => sx_4 Try.prog F 217 (cp [1, 1, 1, 1, 1, 1, 1, 1, 1] (bodyOf Try.f8)) (ap [1, 1, 1, 1, 1, 1, 1, 1, 1] LInverse_an) (rs [0, 5] env) h (LInverse_K0  K)) (LInverse_K0  K)
def LInverse_K2  (K : Value → Hp → Prop) : Exit → Env → Hp → Prop := blockE 0 (LInverse_K1  K)
def LInverse_K3 (nx0 : Int × Int × Unit → Hp → Prop) (K : Value → Hp → Prop) : Exit → Env → Hp → Prop := thenE (fun env h => getV [(9, .int .i64), (69, .int .i64)] env fun s => nx0 s h) (LInverse_K2  K)
def LInverse_K4 (nx0 : Int × Int × Unit → Hp → Prop) (K : Value → Hp → Prop) : Exit → Env → Hp → Prop := thenE (fun env h => sx_3 Try.prog F 217 (cp [1, 1, 1, 1, 1, 1, 1, 1, 0, 1, 2, 2, 1, 1, 1] (bodyOf Try.f8)) (ap [1, 1, 1, 1, 1, 1, 1, 1, 0, 1, 2, 1, 1, 1] LInverse_an) (rs [0, 1, 5, 9, 68, 69] env) h (LInverse_K3 nx0 K)) (LInverse_K3 nx0 K)
def LInverse_K5 (nx0 : Int × Int × Unit → Hp → Prop) (K : Value → Hp → Prop) : Exit → Env → Hp → Prop := blockE 1 (LInverse_K4 nx0 K)
def LInverse_K6  (K : Value → Hp → Prop) : Exit → Env → Hp → Prop := thenE (fun env h => sx_3 Try.prog F 217 (cp [1, 1, 1, 1, 1, 1, 1, 1, 1, 1] (bodyOf Try.f8)) (ap [1, 1, 1, 1, 1, 1, 1, 1, 1, 1] LInverse_an) (rs [0, 5] env) h (LInverse_K0  K)) (LInverse_K0  K)
def LInverse_K7  (K : Value → Hp → Prop) : Exit → Env → Hp → Prop := blockE 2 (LInverse_K6  K)
def LInverse_K8 (nx0 : Int × Unit → Hp → Prop) (K : Value → Hp → Prop) : Exit → Env → Hp → Prop := thenE (fun env h => getV [(153, .int .i64)] env fun s => nx0 s h) (LInverse_K7  K)
def LInverse_K9  (K : Value → Hp → Prop) : Exit → Env → Hp → Prop := thenE (fun env h => sx_2 Try.prog F 217 (cp [1, 1, 1, 1, 1, 1, 1, 1, 1, 1, 1, 1] (bodyOf Try.f8)) (ap [1, 1, 1, 1, 1, 1, 1, 1, 1, 1, 1, 1] LInverse_an) (rs [0, 5, 24] env) h (LInverse_K0  K)) (LInverse_K0  K)
def LInverse_K10  (K : Value → Hp → Prop) : Exit → Env → Hp → Prop := blockE 4 (LInverse_K9  K)
def LInverse_K11 (nx0 : Int × Int × Unit → Hp → Prop) (K : Value → Hp → Prop) : Exit → Env → Hp → Prop := thenE (fun env h => getV [(24, .int .i64), (185, .int .i64)] env fun s => nx0 s h) (LInverse_K10  K)
def LInverse_b0 (bits : Option Addr) (bitsL : Nat) (bitsC : Nat) (bit : Bool) (h : Hp)  (K : Value → Hp → Prop) : Prop :=
  sx_7 Try.prog F 217 (cp [] (bodyOf Try.f8)) (ap [] LInverse_an) [(0, .slice bits bitsL bitsC), (1, .bool bit)] h (LInverse_K0  K)
def LInverse_b1 (bits : Option Addr) (bitsL : Nat) (bitsC : Nat) (bit : Bool) (v : Option Addr) (h : Hp)  (K : Value → Hp → Prop) : Prop :=
  sx_6 Try.prog F 217 (cp [1, 1, 1, 1, 1] (bodyOf Try.f8)) (ap [1, 1, 1, 1, 1] LInverse_an) [(0, .slice bits bitsL bitsC), (1, .bool bit), (5, .pointer v)] h (LInverse_K0  K)
def LInverse_b2 (bits : Option Addr) (bitsL : Nat) (bitsC : Nat) (bit : Bool) (v : Option Addr) (nv : Int) (h : Hp)  (K : Value → Hp → Prop) : Prop :=
  sx_5 Try.prog F 217 (cp [1, 1, 1, 1, 1, 1, 1] (bodyOf Try.f8)) (ap [1, 1, 1, 1, 1, 1, 1] LInverse_an) [(0, .slice bits bitsL bitsC), (1, .bool bit), (5, .pointer v), (7, .int .i64 nv)] h (LInverse_K0  K)
def LInverse_b3 (last : Int) (t69 : Int) (bits : Option Addr) (bitsL : Nat) (bitsC : Nat) (bit : Bool) (v : Option Addr) (t68 : Int) (h : Hp) (nx0 : Int × Int × Unit → Hp → Prop) (K : Value → Hp → Prop) : Prop :=
  sx_4 Try.prog F 217 (cp [1, 1, 1, 1, 1, 1, 1, 1, 0, 1, 2, 2] (bodyOf Try.f8)) (ap [1, 1, 1, 1, 1, 1, 1, 1, 0, 1, 2] LInverse_an) [(9, .int .i64 last), (69, .int .i64 t69), (0, .slice bits bitsL bitsC), (1, .bool bit), (5, .pointer v), (68, .int .i64 t68)] h (LInverse_K3 nx0 K)
def LInverse_b4 (bits : Option Addr) (bitsL : Nat) (bitsC : Nat) (bit : Bool) (v : Option Addr) (last : Int) (k : Int) (i : Int) (t68 : Int) (t69 : Int) (h : Hp) (nx0 : Int × Int × Unit → Hp → Prop) (K : Value → Hp → Prop) : Prop :=
  sx_3 Try.prog F 217 (cp [1, 1, 1, 1, 1, 1, 1, 1, 0, 1, 2, 2, 1, 1, 0, 2, 1, 1, 1] (bodyOf Try.f8)) (ap [1, 1, 1, 1, 1, 1, 1, 1, 0, 1, 2, 1, 1, 0, 1, 1, 1] LInverse_an) [(0, .slice bits bitsL bitsC), (1, .bool bit), (5, .pointer v), (9, .int .i64 last), (10, .int .i64 k), (11, .int .i64 i), (68, .int .i64 t68), (69, .int .i64 t69)] h (LInverse_K5 nx0 K)
def LInverse_b5 (bits : Option Addr) (bitsL : Nat) (bitsC : Nat) (v : Option Addr) (h : Hp)  (K : Value → Hp → Prop) : Prop :=
  sx_4 Try.prog F 217 (cp [1, 1, 1, 1, 1, 1, 1, 1, 1] (bodyOf Try.f8)) (ap [1, 1, 1, 1, 1, 1, 1, 1, 1] LInverse_an) [(0, .slice bits bitsL bitsC), (5, .pointer v)] h (LInverse_K0  K)
def LInverse_b6 (bits : Option Addr) (bitsL : Nat) (bitsC : Nat) (bit : Bool) (v : Option Addr) (i : Int) (t68 : Int) (t69 : Int) (h : Hp) (nx0 : Int × Int × Unit → Hp → Prop) (K : Value → Hp → Prop) : Prop :=
  sx_2 Try.prog F 217 (cp [1, 1, 1, 1, 1, 1, 1, 1, 0, 1, 2, 2, 1, 1, 0, 2, 1, 1, 1, 1, 1, 1, 1] (bodyOf Try.f8)) (ap [1, 1, 1, 1, 1, 1, 1, 1, 0, 1, 2, 1, 1, 0, 1, 1, 1, 1, 1, 1, 1] LInverse_an) [(0, .slice bits bitsL bitsC), (1, .bool bit), (5, .pointer v), (11, .int .i64 i), (68, .int .i64 t68), (69, .int .i64 t69)] h (LInverse_K5 nx0 K)
def LInverse_b7 (t153 : Int) (bits : Option Addr) (bitsL : Nat) (bitsC : Nat) (v : Option Addr) (t152 : Int) (h : Hp) (nx0 : Int × Unit → Hp → Prop) (K : Value → Hp → Prop) : Prop :=
  sx_3 Try.prog F 217 (cp [1, 1, 1, 1, 1, 1, 1, 1, 1, 0, 1, 2, 2] (bodyOf Try.f8)) (ap [1, 1, 1, 1, 1, 1, 1, 1, 1, 0, 1, 2] LInverse_an) [(153, .int .i64 t153), (0, .slice bits bitsL bitsC), (5, .pointer v), (152, .int .i64 t152)] h (LInverse_K8 nx0 K)
def LInverse_b8 (bits : Option Addr) (bitsL : Nat) (bitsC : Nat) (bit : Bool) (v : Option Addr) (last : Int) (t68 : Int) (t69 : Int) (h : Hp) (nx0 : Int × Int × Unit → Hp → Prop) (K : Value → Hp → Prop) : Prop :=
  sx_3 Try.prog F 217 (cp [1, 1, 1, 1, 1, 1, 1, 1, 0, 1, 2, 2, 1, 1, 1] (bodyOf Try.f8)) (ap [1, 1, 1, 1, 1, 1, 1, 1, 0, 1, 2, 1, 1, 1] LInverse_an) [(0, .slice bits bitsL bitsC), (1, .bool bit), (5, .pointer v), (9, .int .i64 last), (68, .int .i64 t68), (69, .int .i64 t69)] h (LInverse_K3 nx0 K)
def LInverse_b9 (bits : Option Addr) (bitsL : Nat) (bitsC : Nat) (v : Option Addr) (t152 : Int) (t153 : Int) (h : Hp) (nx0 : Int × Unit → Hp → Prop) (K : Value → Hp → Prop) : Prop :=
  sx_2 Try.prog F 217 (cp [1, 1, 1, 1, 1, 1, 1, 1, 1, 0, 1, 2, 2, 1, 1, 1] (bodyOf Try.f8)) (ap [1, 1, 1, 1, 1, 1, 1, 1, 1, 0, 1, 2, 1, 1, 1] LInverse_an) [(0, .slice bits bitsL bitsC), (5, .pointer v), (152, .int .i64 t152), (153, .int .i64 t153)] h (LInverse_K8 nx0 K)
def LInverse_b10 (bits : Option Addr) (bitsL : Nat) (bitsC : Nat) (v : Option Addr) (h : Hp)  (K : Value → Hp → Prop) : Prop :=
  sx_3 Try.prog F 217 (cp [1, 1, 1, 1, 1, 1, 1, 1, 1, 1] (bodyOf Try.f8)) (ap [1, 1, 1, 1, 1, 1, 1, 1, 1, 1] LInverse_an) [(0, .slice bits bitsL bitsC), (5, .pointer v)] h (LInverse_K0  K)
def LInverse_b11 (total : Int) (t185 : Int) (bits : Option Addr) (bitsL : Nat) (bitsC : Nat) (v : Option Addr) (t183 : Option Addr) (t183L : Nat) (t183C : Nat) (t184 : Int) (h : Hp) (nx0 : Int × Int × Unit → Hp → Prop) (K : Value → Hp → Prop) : Prop :=
  sx_2 Try.prog F 217 (cp [1, 1, 1, 1, 1, 1, 1, 1, 1, 1, 1, 0, 1, 2, 2] (bodyOf Try.f8)) (ap [1, 1, 1, 1, 1, 1, 1, 1, 1, 1, 1, 0, 1, 2] LInverse_an) [(24, .int .i64 total), (185, .int .i64 t185), (0, .slice bits bitsL bitsC), (5, .pointer v), (183, .slice t183 t183L t183C), (184, .int .i64 t184)] h (LInverse_K11 nx0 K)
def LInverse_b12 (bits : Option Addr) (bitsL : Nat) (bitsC : Nat) (v : Option Addr) (total : Int) (t183 : Option Addr) (t183L : Nat) (t183C : Nat) (t184 : Int) (t185 : Int) (h : Hp) (nx0 : Int × Int × Unit → Hp → Prop) (K : Value → Hp → Prop) : Prop :=
  sx_1 Try.prog F 217 (cp [1, 1, 1, 1, 1, 1, 1, 1, 1, 1, 1, 0, 1, 2, 2, 1, 1, 1] (bodyOf Try.f8)) (ap [1, 1, 1, 1, 1, 1, 1, 1, 1, 1, 1, 0, 1, 2, 1, 1, 1] LInverse_an) [(0, .slice bits bitsL bitsC), (5, .pointer v), (24, .int .i64 total), (183, .slice t183 t183L t183C), (184, .int .i64 t184), (185, .int .i64 t185)] h (LInverse_K11 nx0 K)
def LInverse_b13 (bits : Option Addr) (bitsL : Nat) (bitsC : Nat) (v : Option Addr) (total : Int) (h : Hp)  (K : Value → Hp → Prop) : Prop :=
  sx_2 Try.prog F 217 (cp [1, 1, 1, 1, 1, 1, 1, 1, 1, 1, 1, 1] (bodyOf Try.f8)) (ap [1, 1, 1, 1, 1, 1, 1, 1, 1, 1, 1, 1] LInverse_an) [(0, .slice bits bitsL bitsC), (5, .pointer v), (24, .int .i64 total)] h (LInverse_K0  K)
theorem LInverse_b0_eq (bits : Option Addr) (bitsL : Nat) (bitsC : Nat) (bit : Bool) (h : Hp)  (K : Value → Hp → Prop) : LInverse_b0 bits bitsL bitsC bit h  K = (
  HCalls Try.prog 9 #[] h fun v1 h1 => ∃ r1 : Bool, v1 = .bool r1 ∧
  cond (!r1)
  (K (.bool false) h1)
  (cond (decide ((300 : Int) < (bitsL : Int)))
  (K (.bool true) h1)
  (HCalls Try.prog 10 #[.slice bits bitsL bitsC] h1 fun v2 h2 => ∃ r2 : Option Addr, ∃ r3 : Int, v2 = .tuple #[.pointer r2, .int .i64 r3] ∧
  cond (!decide (r3 = 0))
  (K (.bool false) h2)
  (HCalls Try.prog 20 #[.pointer r2] h2 fun v3 h3 => ∃ r4 : Int, v3 = .int .i64 r4 ∧
  cond (!decide (r4 = (bitsL : Int)))
  (K (.bool false) h3)
  (LInverse_b1 bits bitsL bitsC bit r2 h3  K))))) := by kernel_rfl
theorem LInverse_b1_eq (bits : Option Addr) (bitsL : Nat) (bitsC : Nat) (bit : Bool) (v : Option Addr) (h : Hp)  (K : Value → Hp → Prop) : LInverse_b1 bits bitsL bitsC bit v h  K = (
  HCalls Try.prog 11 #[.pointer v, .bool bit, .int .i64 (bitsL : Int)] h fun v4 h4 => ∃ r5 : Int, ∃ r6 : Int, v4 = .tuple #[.int .i64 r5, .int .i64 r6] ∧
  cond (!decide (r6 = 0))
  (K (.bool false) h4)
  (cond (decide (r5 < 0))
  (K (.bool false) h4)
  (cond (decide ((bitsL : Int) < r5))
  (K (.bool false) h4)
  (LInverse_b2 bits bitsL bitsC bit v r5 h4  K)))) := by kernel_rfl
theorem LInverse_b2_eq (bits : Option Addr) (bitsL : Nat) (bitsC : Nat) (bit : Bool) (v : Option Addr) (nv : Int) (h : Hp)  (K : Value → Hp → Prop) : LInverse_b2 bits bitsL bitsC bit v nv h  K = (
  LoopVC (((-1), 0, ()) : Int × Int × Unit) h (fun (nx0 : Int × Int × Unit → Hp → Prop) (s1 : Int × Int × Unit) h5 => LInverse_b3 s1.1 s1.2.1 bits bitsL bitsC bit v nv h5 nx0 K)) := by kernel_rfl
theorem LInverse_b3_eq (last : Int) (t69 : Int) (bits : Option Addr) (bitsL : Nat) (bitsC : Nat) (bit : Bool) (v : Option Addr) (t68 : Int) (h : Hp) (nx0 : Int × Int × Unit → Hp → Prop) (K : Value → Hp → Prop) : LInverse_b3 last t69 bits bitsL bitsC bit v t68 h nx0 K = (
  cond (decide (t69 < t68))
  (HCalls Try.prog 12 #[.pointer v, .bool bit, .int .i64 t69] h fun v5 h6 => ∃ r7 : Int, ∃ r8 : Int, v5 = .tuple #[.int .i64 r7, .int .i64 r8] ∧
  cond (!decide (r8 = 0))
  (K (.bool false) h6)
  (cond (decide (r7 ≤ last))
  (K (.bool false) h6)
  (cond (decide ((bitsL : Int) ≤ r7))
  (K (.bool false) h6)
  ((0 ≤ r7 ∧ r7 < (bitsL : Int)) ∧
  NN bits fun a1 =>
  ∃ b1 : Bool, cell h6 (a1.add (Int.toNat r7 * 1)) = some (.bool b1) ∧
  cond (!(b1 == bit))
  (K (.bool false) h6)
  (LInverse_b4 bits bitsL bitsC bit v last t69 r7 t68 t69 h6 nx0 K)))))
  (LInverse_b5 bits bitsL bitsC v h  K)) := by kernel_rfl
theorem LInverse_b4_eq (bits : Option Addr) (bitsL : Nat) (bitsC : Nat) (bit : Bool) (v : Option Addr) (last : Int) (k : Int) (i : Int) (t68 : Int) (t69 : Int) (h : Hp) (nx0 : Int × Int × Unit → Hp → Prop) (K : Value → Hp → Prop) : LInverse_b4 bits bitsL bitsC bit v last k i t68 t69 h nx0 K = (
  HCalls Try.prog 11 #[.pointer v, .bool bit, .int .i64 i] h fun v6 h7 => ∃ r9 : Int, ∃ r10 : Int, v6 = .tuple #[.int .i64 r9, .int .i64 r10] ∧
  InR (last + 1) ∧
  HCalls Try.prog 16 #[.pointer v, .bool bit, .int .i64 (last + 1)] h7 fun v7 h8 => ∃ r11 : Int, ∃ r12 : Int, v7 = .tuple #[.int .i64 r11, .int .i64 r12] ∧
  InR (i + 1) ∧
  HCalls Try.prog 17 #[.pointer v, .bool bit, .int .i64 (i + 1)] h8 fun v8 h9 => ∃ r13 : Int, ∃ r14 : Int, v8 = .tuple #[.int .i64 r13, .int .i64 r14] ∧
  cond (!decide (r10 = 0))
  (K (.bool false) h9)
  (cond (!decide (r9 = k))
  (K (.bool false) h9)
  (cond (!decide (r12 = 0))
  (K (.bool false) h9)
  (cond (!decide (r11 = i))
  (K (.bool false) h9)
  (cond (!decide (r14 = 0))
  (K (.bool false) h9)
  (cond (!decide (r13 = i))
  (K (.bool false) h9)
  (LInverse_b6 bits bitsL bitsC bit v i t68 t69 h9 nx0 K))))))) := by kernel_rfl
theorem LInverse_b5_eq (bits : Option Addr) (bitsL : Nat) (bitsC : Nat) (v : Option Addr) (h : Hp)  (K : Value → Hp → Prop) : LInverse_b5 bits bitsL bitsC v h  K = (
  InR ((bitsL : Int) + 1) ∧
  LoopVC ((0, ()) : Int × Unit) h (fun (nx0 : Int × Unit → Hp → Prop) (s2 : Int × Unit) h10 => LInverse_b7 s2.1 bits bitsL bitsC v ((bitsL : Int) + 1) h10 nx0 K)) := by kernel_rfl
theorem LInverse_b6_eq (bits : Option Addr) (bitsL : Nat) (bitsC : Nat) (bit : Bool) (v : Option Addr) (i : Int) (t68 : Int) (t69 : Int) (h : Hp) (nx0 : Int × Int × Unit → Hp → Prop) (K : Value → Hp → Prop) : LInverse_b6 bits bitsL bitsC bit v i t68 t69 h nx0 K = (
  LInverse_b8 bits bitsL bitsC bit v i t68 t69 h nx0 K) := by kernel_rfl
theorem LInverse_b7_eq (t153 : Int) (bits : Option Addr) (bitsL : Nat) (bitsC : Nat) (v : Option Addr) (t152 : Int) (h : Hp) (nx0 : Int × Unit → Hp → Prop) (K : Value → Hp → Prop) : LInverse_b7 t153 bits bitsL bitsC v t152 h nx0 K = (
  cond (decide (t153 < t152))
  (HCalls Try.prog 11 #[.pointer v, .bool true, .int .i64 t153] h fun v9 h11 => ∃ r15 : Int, ∃ r16 : Int, v9 = .tuple #[.int .i64 r15, .int .i64 r16] ∧
  HCalls Try.prog 11 #[.pointer v, .bool false, .int .i64 t153] h11 fun v10 h12 => ∃ r17 : Int, ∃ r18 : Int, v10 = .tuple #[.int .i64 r17, .int .i64 r18] ∧
  cond (!decide (r16 = 0))
  (K (.bool false) h12)
  (cond (!decide (r18 = 0))
  (K (.bool false) h12)
  (InR (r15 + r17) ∧
  cond (!decide ((r15 + r17) = t153))
  (K (.bool false) h12)
  (LInverse_b9 bits bitsL bitsC v t152 t153 h12 nx0 K))))
  (LInverse_b10 bits bitsL bitsC v h  K)) := by kernel_rfl
theorem LInverse_b8_eq (bits : Option Addr) (bitsL : Nat) (bitsC : Nat) (bit : Bool) (v : Option Addr) (last : Int) (t68 : Int) (t69 : Int) (h : Hp) (nx0 : Int × Int × Unit → Hp → Prop) (K : Value → Hp → Prop) : LInverse_b8 bits bitsL bitsC bit v last t68 t69 h nx0 K = (
  InR (t69 + 1) ∧
  nx0 (last, t69 + 1, ()) h) := by kernel_rfl
theorem LInverse_b9_eq (bits : Option Addr) (bitsL : Nat) (bitsC : Nat) (v : Option Addr) (t152 : Int) (t153 : Int) (h : Hp) (nx0 : Int × Unit → Hp → Prop) (K : Value → Hp → Prop) : LInverse_b9 bits bitsL bitsC v t152 t153 h nx0 K = (
  InR (t153 + 1) ∧
  nx0 (t153 + 1, ()) h) := by kernel_rfl
theorem LInverse_b10_eq (bits : Option Addr) (bitsL : Nat) (bitsC : Nat) (v : Option Addr) (h : Hp)  (K : Value → Hp → Prop) : LInverse_b10 bits bitsL bitsC v h  K = (
  HCalls Try.prog 25 #[.pointer v] h fun v11 h13 => ∃ (r19 : Option Addr) (rL1 rC1 : Nat), v11 = .slice r19 rL1 rC1 ∧
  LoopVC ((0, 0, ()) : Int × Int × Unit) h13 (fun (nx0 : Int × Int × Unit → Hp → Prop) (s3 : Int × Int × Unit) h14 => LInverse_b11 s3.1 s3.2.1 bits bitsL bitsC v r19 rL1 rC1 (rL1 : Int) h14 nx0 K)) := by kernel_rfl
theorem LInverse_b11_eq (total : Int) (t185 : Int) (bits : Option Addr) (bitsL : Nat) (bitsC : Nat) (v : Option Addr) (t183 : Option Addr) (t183L : Nat) (t183C : Nat) (t184 : Int) (h : Hp) (nx0 : Int × Int × Unit → Hp → Prop) (K : Value → Hp → Prop) : LInverse_b11 total t185 bits bitsL bitsC v t183 t183L t183C t184 h nx0 K = (
  cond (decide (t185 < t184))
  ((0 ≤ t185 ∧ t185 < (t183L : Int)) ∧
  NN t183 fun a2 =>
  ∃ n1 : Int, cell h (a2.add (Int.toNat t185 * 1)) = some (.int .i64 n1) ∧
  InR (total + n1) ∧
  LInverse_b12 bits bitsL bitsC v (total + n1) t183 t183L t183C t184 t185 h nx0 K)
  (LInverse_b13 bits bitsL bitsC v total h  K)) := by kernel_rfl
theorem LInverse_b12_eq (bits : Option Addr) (bitsL : Nat) (bitsC : Nat) (v : Option Addr) (total : Int) (t183 : Option Addr) (t183L : Nat) (t183C : Nat) (t184 : Int) (t185 : Int) (h : Hp) (nx0 : Int × Int × Unit → Hp → Prop) (K : Value → Hp → Prop) : LInverse_b12 bits bitsL bitsC v total t183 t183L t183C t184 t185 h nx0 K = (
  InR (t185 + 1) ∧
  nx0 (total, t185 + 1, ()) h) := by kernel_rfl
theorem LInverse_b13_eq (bits : Option Addr) (bitsL : Nat) (bitsC : Nat) (v : Option Addr) (total : Int) (h : Hp)  (K : Value → Hp → Prop) : LInverse_b13 bits bitsL bitsC v total h  K = (
  HCalls Try.prog 28 #[.pointer v] h fun v12 h15 => ∃ (r20 : Option Addr) (rL2 rC2 : Nat), v12 = .slice r20 rL2 rC2 ∧
  HCalls Try.prog 31 #[.slice r20 rL2 rC2] h15 fun v13 h16 => ∃ r21 : Option Addr, ∃ r22 : Int, v13 = .tuple #[.pointer r21, .int .i64 r22] ∧
  cond (decide (total = (bitsL : Int)))
  (cond (decide (r22 = 0))
  (cond (!r21.isNone)
  (HCalls Try.prog 23 #[.pointer r21] h16 fun v14 h17 => ∃ (r23 : Option Addr) (rL3 rC3 : Nat), v14 = .slice r23 rL3 rC3 ∧
  HCalls Try.prog 22 #[.slice r23 rL3 rC3, .slice bits bitsL bitsC] h17 fun v15 h18 => ∃ r24 : Bool, v15 = .bool r24 ∧
  K (.bool r24) h18)
  (K (.bool false) h16))
  (K (.bool false) h16))
  (K (.bool false) h16)) := by kernel_rfl
theorem LInverse_call {bits : Option Addr} {bitsL : Nat} {bitsC : Nat} {bit : Bool} {h : Hp} {K : Value → Hp → Prop} (hk : LInverse_b0 bits bitsL bitsC bit h K) : HCalls Try.prog 8 #[.slice bits bitsL bitsC, .bool bit] h K :=
  calls_of_snd LInverse_an Try.func8 (c := bodyOf Try.f8) rfl Try.ntmps8 (Nat.le_of_ble_eq_true rfl) (snd_7 F_ok F_mixed) hk

end Go.Proofs.Ytomifmeccpconaa
