/- Written by px_row.py (this repo's wip/tools) for this seat: what each argument reads as, and the pure statement of WireHeadingsMatchSpec -/
import Derived.Test.YtgafgpnbignfdaaDoorPWireHeadingsMatchSpecx7
import Derived.Test.YtgafgpnbignfdaaDoorOpn
namespace Go.Proofs.YtgafgpnbignfdaaDoor.OWireHeadingsMatchSpec
open Go.RowKit Go.Proofs.YtgafgpnbignfdaaDoor.PWireHeadingsMatchSpec Go.Proofs.YtgafgpnbignfdaaDoorW.PrintWords Go.Proofs.YtgafgpnbignfdaaDoorW.PrintLast Go.Proofs.YtgafgpnbignfdaaDoor.Opn
set_option linter.unusedVariables false
theorem o5 : Opens Tryd.prog (Kd.int .u8) 5 (fun n => (Lit.int .u8 n).wf = true) := opens_int Tryd.underlying5 (by kernel_rfl)
def g23 (x : S23) : Prop := (Lit.int .u8 x.f0).wf = true ∧ (Lit.int .u8 x.f1).wf = true ∧ (Lit.int .u8 x.f2).wf = true ∧ (Lit.int .u8 x.f3).wf = true ∧ (Lit.int .u8 x.f4).wf = true
theorem o23 : Opens Tryd.prog k23 23 g23 := (opens_iso (fun p => ⟨p.1, p.2.1, p.2.2.1, p.2.2.2.1, p.2.2.2.2⟩) (fun _ => rfl) (opens_struct Tryd.underlying23 (by kernel_rfl) (opensF_cons rfl o5 (opensF_cons rfl o5 (opensF_cons rfl o5 (opensF_cons rfl o5 (opensF_one rfl o5))))))).weaken (fun _ h => h)
theorem o24 : Opens Tryd.prog (Kd.slice 5 (Kd.int .u8)) 24 (fun l => (l.length * 1 ≤ 140737488351232 ∧ ∀ y1 ∈ l, (Lit.int .u8 y1).wf = true)) := opens_slice (B := 1) Tryd.underlying24 (by kernel_rfl) (by kernel_rfl) o5
/-- THE ONE PURE STATEMENT of WireHeadingsMatchSpec. -/
def WireHeadingsMatchSpecPure : Prop := ∀ (x0 : S23) (x1 : List Int), g23 x0 → (x1.length * 1 ≤ 140737488351232 ∧ ∀ y1 ∈ x1, (Lit.int .u8 y1).wf = true) → ∃ k, interchangelaw2_WireHeadingsMatchSpec.f k x0.f0 x0.f1 x0.f2 x0.f3 x0.f4 x1 = some true
end Go.Proofs.YtgafgpnbignfdaaDoor.OWireHeadingsMatchSpec
