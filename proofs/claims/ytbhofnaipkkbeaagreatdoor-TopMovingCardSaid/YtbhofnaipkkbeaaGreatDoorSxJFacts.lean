/- TopMoving: closed facts of the row, one by one. -/
import Derived.Test.YtbhofnaipkkbeaaGreatDoorSxFBM
set_option maxRecDepth 100000
namespace Go.Proofs.YtbhofnaipkkbeaaGreatDoor
open Go Go.Sx
theorem andT {a b : Bool} (h1 : a = true) (h2 : b = true) : (a && b) = true := by rw [h1, h2]; rfl
theorem yahk : Tryz.pinned.checked.prog.funcNamed "heartwood/heartwoodtop.TopMoving" = some 3 := by kernel_rfl
theorem fact0 : (fun (_ : Program) (_ : FuncId) (_ : Func) (s : ChangeSpec) (c : OpenClaim) => c.wf (OpenSpec.ofChange s)) Tryz.pinned.checked.prog 3 Tryz.f3 Rows.topMovingSpec Rows.topMovingRow = true := by kernel_rfl
theorem fact1 : (fun (P : Program) (_ : FuncId) (_ : Func) (_ : ChangeSpec) (_ : OpenClaim) => laidOutB P) Tryz.pinned.checked.prog 3 Tryz.f3 Rows.topMovingSpec Rows.topMovingRow = true := by kernel_rfl
theorem fact2 : (fun (P : Program) (_ : FuncId) (_ : Func) (_ : ChangeSpec) (_ : OpenClaim) => mapsRowed P) Tryz.pinned.checked.prog 3 Tryz.f3 Rows.topMovingSpec Rows.topMovingRow = true := by kernel_rfl
theorem fact3 : (fun (P : Program) (_ : FuncId) (fn : Func) (_ : ChangeSpec) (_ : OpenClaim) => fn.params.all (P.readableRec ·)) Tryz.pinned.checked.prog 3 Tryz.f3 Rows.topMovingSpec Rows.topMovingRow = true := by kernel_rfl
theorem fact4 : (fun (P : Program) (_ : FuncId) (_ : Func) (s : ChangeSpec) (c : OpenClaim) => namedTie P c.named s.vars) Tryz.pinned.checked.prog 3 Tryz.f3 Rows.topMovingSpec Rows.topMovingRow = true := by kernel_rfl
theorem fact5 : (fun (_ : Program) (_ : FuncId) (_ : Func) (_ : ChangeSpec) (c : OpenClaim) => (c.stops == [])) Tryz.pinned.checked.prog 3 Tryz.f3 Rows.topMovingSpec Rows.topMovingRow = true := by kernel_rfl
theorem fact6 : (fun (P : Program) (_ : FuncId) (_ : Func) (_ : ChangeSpec) (_ : OpenClaim) => (P.stops == [])) Tryz.pinned.checked.prog 3 Tryz.f3 Rows.topMovingSpec Rows.topMovingRow = true := by kernel_rfl
theorem fact7 : (fun (_ : Program) (_ : FuncId) (_ : Func) (_ : ChangeSpec) (c : OpenClaim) => (c.knobs == [])) Tryz.pinned.checked.prog 3 Tryz.f3 Rows.topMovingSpec Rows.topMovingRow = true := by kernel_rfl
theorem fact8 : (fun (P : Program) (_ : FuncId) (_ : Func) (_ : ChangeSpec) (_ : OpenClaim) => (P.stopKnobs == [])) Tryz.pinned.checked.prog 3 Tryz.f3 Rows.topMovingSpec Rows.topMovingRow = true := by kernel_rfl
theorem fact9 : (fun (P : Program) (f : FuncId) (_ : Func) (_ : ChangeSpec) (c : OpenClaim) => (c.inPlace == P.inPlace f)) Tryz.pinned.checked.prog 3 Tryz.f3 Rows.topMovingSpec Rows.topMovingRow = true := by kernel_rfl
theorem ybhv : (fun (P : Program) (f : FuncId) (_ : Func) (_ : ChangeSpec) (c : OpenClaim) => (c.unfollowed == P.unfollowed f)) Tryz.pinned.checked.prog 3 Tryz.f3 Rows.topMovingSpec Rows.topMovingRow = true := by kernel_rfl
theorem ybgd : (fun (P : Program) (f : FuncId) (_ : Func) (_ : ChangeSpec) (c : OpenClaim) => (c.recurses == P.recurses f)) Tryz.pinned.checked.prog 3 Tryz.f3 Rows.topMovingSpec Rows.topMovingRow = true := by kernel_rfl
theorem ybgh : (fun (P : Program) (f : FuncId) (_ : Func) (_ : ChangeSpec) (c : OpenClaim) => (c.named == P.varsNamed f)) Tryz.pinned.checked.prog 3 Tryz.f3 Rows.topMovingSpec Rows.topMovingRow = true := by kernel_rfl
theorem ybfl : (fun (P : Program) (_ : FuncId) (fn : Func) (s : ChangeSpec) (c : OpenClaim) => (c.maps == (fn.params.toList ++ s.plain.varTypes P).any (P.mapsRec ·))) Tryz.pinned.checked.prog 3 Tryz.f3 Rows.topMovingSpec Rows.topMovingRow = true := by kernel_rfl
theorem ybhd : (fun (P : Program) (_ : FuncId) (fn : Func) (s : ChangeSpec) (c : OpenClaim) => (c.ifaces == (fn.params.toList ++ s.plain.varTypes P).any (P.ifacesRec ·))) Tryz.pinned.checked.prog 3 Tryz.f3 Rows.topMovingSpec Rows.topMovingRow = true := by kernel_rfl
theorem ybhp : (fun (P : Program) (_ : FuncId) (fn : Func) (_ : ChangeSpec) (c : OpenClaim) => (c.mapsOut == P.mapsAmong fn.resultTypes.toList)) Tryz.pinned.checked.prog 3 Tryz.f3 Rows.topMovingSpec Rows.topMovingRow = true := by kernel_rfl
theorem ybhg : (fun (P : Program) (_ : FuncId) (fn : Func) (s : ChangeSpec) (c : OpenClaim) => (c.loops == (fn.params.toList ++ s.plain.varTypes P).any (P.loopsFrom ·))) Tryz.pinned.checked.prog 3 Tryz.f3 Rows.topMovingSpec Rows.topMovingRow = true := by kernel_rfl
theorem ybhx : (fun (P : Program) (_ : FuncId) (fn : Func) (s : ChangeSpec) (c : OpenClaim) => (c.wideKeys == (fn.params.toList ++ s.plain.varTypes P ++ fn.resultTypes.toList).any (P.wideKeysFrom ·))) Tryz.pinned.checked.prog 3 Tryz.f3 Rows.topMovingSpec Rows.topMovingRow = true := by kernel_rfl
theorem ybid : (fun (P : Program) (_ : FuncId) (_ : Func) (s : ChangeSpec) (_ : OpenClaim) => s.vars.all (P.varReadable ·)) Tryz.pinned.checked.prog 3 Tryz.f3 Rows.topMovingSpec Rows.topMovingRow = true := by kernel_rfl
theorem ybfg : (fun (P : Program) (_ : FuncId) (fn : Func) (_ : ChangeSpec) (_ : OpenClaim) => fn.resultTypes.all (fun t => P.readableRec t && decide (t < P.types.size))) Tryz.pinned.checked.prog 3 Tryz.f3 Rows.topMovingSpec Rows.topMovingRow = true := by kernel_rfl
theorem ybhm : (fun (P : Program) (_ : FuncId) (fn : Func) (_ : ChangeSpec) (c : OpenClaim) => (c.ifacesOut == fn.resultTypes.toList.any (P.ifacesRec ·))) Tryz.pinned.checked.prog 3 Tryz.f3 Rows.topMovingSpec Rows.topMovingRow = true := by kernel_rfl
theorem ybgx : (fun (P : Program) (_ : FuncId) (fn : Func) (_ : ChangeSpec) (c : OpenClaim) => (c.loopsOut == fn.resultTypes.toList.any (P.loopsFrom ·))) Tryz.pinned.checked.prog 3 Tryz.f3 Rows.topMovingSpec Rows.topMovingRow = true := by kernel_rfl
theorem ybet : (fun (P : Program) (_ : FuncId) (_ : Func) (_ : ChangeSpec) (c : OpenClaim) => (c.plainKeys == P.plainKeys)) Tryz.pinned.checked.prog 3 Tryz.f3 Rows.topMovingSpec Rows.topMovingRow = true := by kernel_rfl
theorem ybhk : (fun (_ : Program) (_ : FuncId) (_ : Func) (_ : ChangeSpec) (c : OpenClaim) => c.shortTexts.isNone) Tryz.pinned.checked.prog 3 Tryz.f3 Rows.topMovingSpec Rows.topMovingRow = true := by kernel_rfl
theorem ybge : (fun (P : Program) (_ : FuncId) (_ : Func) (_ : ChangeSpec) (_ : OpenClaim) => P.stopsHeard) Tryz.pinned.checked.prog 3 Tryz.f3 Rows.topMovingSpec Rows.topMovingRow = true := by kernel_rfl
theorem ybfw : (fun (P : Program) (_ : FuncId) (_ : Func) (_ : ChangeSpec) (_ : OpenClaim) => P.mayEnter) Tryz.pinned.checked.prog 3 Tryz.f3 Rows.topMovingSpec Rows.topMovingRow = true := by kernel_rfl
theorem ybgz : (fun (P : Program) (_ : FuncId) (_ : Func) (_ : ChangeSpec) (c : OpenClaim) => (c.lifted == P.liftsFinal)) Tryz.pinned.checked.prog 3 Tryz.f3 Rows.topMovingSpec Rows.topMovingRow = true := by kernel_rfl
theorem ybey : (fun (P : Program) (_ : FuncId) (_ : Func) (_ : ChangeSpec) (c : OpenClaim) => (P.make == some c.make)) Tryz.pinned.checked.prog 3 Tryz.f3 Rows.topMovingSpec Rows.topMovingRow = true := by kernel_rfl
theorem ybfa : (fun (P : Program) (_ : FuncId) (fn : Func) (_ : ChangeSpec) (c : OpenClaim) => (c.kinds == (if c.domain.isEmpty then [] else fn.params.toList.map fun t => match P.underlying t with | some (.int k) => some k | _ => none))) Tryz.pinned.checked.prog 3 Tryz.f3 Rows.topMovingSpec Rows.topMovingRow = true := by kernel_rfl
theorem ybfs : (fun (_ : Program) (_ : FuncId) (_ : Func) (_ : ChangeSpec) (c : OpenClaim) => (c.pinned == c.pinnedBy)) Tryz.pinned.checked.prog 3 Tryz.f3 Rows.topMovingSpec Rows.topMovingRow = true := by kernel_rfl
theorem ybgw : (fun (P : Program) (_ : FuncId) (fn : Func) (s : ChangeSpec) (c : OpenClaim) => (c.veiled == (fn.params.toList ++ s.plain.varTypes P ++ fn.resultTypes.toList).any (P.veiledRec ·))) Tryz.pinned.checked.prog 3 Tryz.f3 Rows.topMovingSpec Rows.topMovingRow = true := by kernel_rfl
theorem ybgj : (fun (P : Program) (_ : FuncId) (fn : Func) (s : ChangeSpec) (c : OpenClaim) => c.veiledFits P fn.params.toList (fn.params.toList ++ s.plain.varTypes P ++ fn.resultTypes.toList)) Tryz.pinned.checked.prog 3 Tryz.f3 Rows.topMovingSpec Rows.topMovingRow = true := by kernel_rfl
theorem yajy : joinedFacts Tryz.pinned.checked.prog 3 Tryz.f3 Rows.topMovingSpec Rows.topMovingRow = true := by
  unfold joinedFacts
  exact (andT (andT (andT (andT (andT (andT (andT (andT (andT (andT (andT (andT (andT (andT (andT (andT (andT (andT (andT (andT (andT (andT (andT (andT (andT (andT (andT (andT (andT (andT (andT fact0 fact1) fact2) fact3) fact4) fact5) fact6) fact7) fact8) fact9) ybhv) ybgd) ybgh) ybfl) ybhd) ybhp) ybhg) ybhx) ybid) ybfg) ybhm) ybgx) ybet) ybhk) ybge) ybfw) ybgz) ybey) ybfa) ybfs) ybgw) ybgj)
end Go.Proofs.YtbhofnaipkkbeaaGreatDoor
