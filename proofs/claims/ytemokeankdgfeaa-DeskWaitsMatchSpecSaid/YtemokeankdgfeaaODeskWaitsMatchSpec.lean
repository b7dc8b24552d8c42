/- Written by px_row.py (this repo's wip/tools) for this seat: what each argument reads as, and the pure statement of DeskWaitsMatchSpec -/
import Derived.Test.YtemokeankdgfeaaPDeskWaitsMatchSpecx3
import Derived.Test.YtemokeankdgfeaaOpn
namespace Go.Proofs.Ytemokeankdgfeaa.ODeskWaitsMatchSpec
open Go.RowKit Go.Proofs.Ytemokeankdgfeaa.PDeskWaitsMatchSpec Go.Proofs.YtemokeankdgfeaaW.PrintWords Go.Proofs.YtemokeankdgfeaaW.PrintLast Go.Proofs.Ytemokeankdgfeaa.Opn
set_option linter.unusedVariables false
theorem o3 : Opens Try.prog (Kd.int .i64) 3 (fun n => (Lit.int .i64 n).wf = true) := opens_int Try.underlying3 (by kernel_rfl)
theorem o4 : Opens Try.prog Kd.bool 4 (fun _ => True) := opens_bool Try.underlying4 (by kernel_rfl)
def g23 (x : S23) : Prop := (Lit.int .i64 x.f0).wf = true ∧ (Lit.int .i64 x.f1).wf = true ∧ (Lit.int .i64 x.f2).wf = true ∧ (Lit.int .i64 x.f3).wf = true ∧ True
theorem o23 : Opens Try.prog k23 23 g23 := (opens_iso (fun p => ⟨p.1, p.2.1, p.2.2.1, p.2.2.2.1, p.2.2.2.2⟩) (fun _ => rfl) (opens_struct Try.underlying23 (by kernel_rfl) (opensF_cons rfl o3 (opensF_cons rfl o3 (opensF_cons rfl o3 (opensF_cons rfl o3 (opensF_one rfl o4))))))).weaken (fun _ h => h)
/-- THE ONE PURE STATEMENT of DeskWaitsMatchSpec. -/
def DeskWaitsMatchSpecPure : Prop := ∀ (x0 : S23), g23 x0 → ∃ k, interchangelaw12_DeskWaitsMatchSpec.f k x0.f0 x0.f1 x0.f2 x0.f3 x0.f4 = some true
end Go.Proofs.Ytemokeankdgfeaa.ODeskWaitsMatchSpec
