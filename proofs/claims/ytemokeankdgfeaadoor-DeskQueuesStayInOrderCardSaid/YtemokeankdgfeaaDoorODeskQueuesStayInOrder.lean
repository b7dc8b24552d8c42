/- Written by px_row.py (this repo's wip/tools) for this seat: what each argument reads as, and the pure statement of DeskQueuesStayInOrder -/
import Derived.Test.YtemokeankdgfeaaDoorPDeskQueuesStayInOrderx4
import Derived.Test.YtemokeankdgfeaaDoorOpn
namespace Go.Proofs.YtemokeankdgfeaaDoor.ODeskQueuesStayInOrder
open Go.Proofs.YtemokeankdgfeaaDoor.Mp
open Go.RowKit Go.Proofs.YtemokeankdgfeaaDoor.PDeskQueuesStayInOrder Go.Proofs.YtemokeankdgfeaaDoorW.PrintWords Go.Proofs.YtemokeankdgfeaaDoorW.PrintLast Go.Proofs.YtemokeankdgfeaaDoor.Opn
set_option linter.unusedVariables false
theorem o3 : Opens Tryd.prog (Kd.int .i64) 3 (fun n => (Lit.int .i64 n).wf = true) := opens_int Tryd.underlying3 (by kernel_rfl)
theorem o4 : Opens Tryd.prog Kd.bool 4 (fun _ => True) := opens_bool Tryd.underlying4 (by kernel_rfl)
def g23 (x : S23) : Prop := (Lit.int .i64 x.f0).wf = true ∧ (Lit.int .i64 x.f1).wf = true ∧ (Lit.int .i64 x.f2).wf = true ∧ (Lit.int .i64 x.f3).wf = true ∧ True
theorem o23 : Opens Tryd.prog k23 23 g23 := (opens_iso (fun p => ⟨p.1, p.2.1, p.2.2.1, p.2.2.2.1, p.2.2.2.2⟩) (fun _ => rfl) (opens_struct Tryd.underlying23 (by kernel_rfl) (opensF_cons rfl o3 (opensF_cons rfl o3 (opensF_cons rfl o3 (opensF_cons rfl o3 (opensF_one rfl o4))))))).weaken (fun _ h => h)
theorem o9 : Opens Tryd.prog Kd.string 9 (fun s => s.size ≤ 140737488351232) := opens_string Tryd.underlying9 (by kernel_rfl)
def g42 (x : S42) : Prop := x.f0.size ≤ 140737488351232 ∧ (Lit.int .i64 x.f1).wf = true
theorem o42 : Opens Tryd.prog k42 42 g42 := (opens_iso (fun p => ⟨p.1, p.2⟩) (fun _ => rfl) (opens_struct Tryd.underlying42 (by kernel_rfl) (opensF_cons rfl o9 (opensF_one rfl o3)))).weaken (fun _ h => h)
theorem o24 : Opens Tryd.prog (Kd.slice 42 k42) 24 (fun l => (l.length * 24 ≤ 140737488351232 ∧ ∀ y1 ∈ l, g42 y1)) := opens_slice (B := 24) Tryd.underlying24 (by kernel_rfl) (by kernel_rfl) o42
def g44 (x : S44) : Prop := x.f0.size ≤ 140737488351232 ∧ (Lit.int .i64 x.f1).wf = true ∧ (Lit.int .i64 x.f2).wf = true
theorem o44 : Opens Tryd.prog k44 44 g44 := (opens_iso (fun p => ⟨p.1, p.2.1, p.2.2⟩) (fun _ => rfl) (opens_struct Tryd.underlying44 (by kernel_rfl) (opensF_cons rfl o9 (opensF_cons rfl o3 (opensF_one rfl o3))))).weaken (fun _ h => h)
theorem o25 : Opens Tryd.prog (Kd.slice 44 k44) 25 (fun l => (l.length * 32 ≤ 140737488351232 ∧ ∀ y1 ∈ l, g44 y1)) := opens_slice (B := 32) Tryd.underlying25 (by kernel_rfl) (by kernel_rfl) o44
/-- THE ONE PURE STATEMENT of DeskQueuesStayInOrder. -/
def DeskQueuesStayInOrderPure : Prop := ∀ (x0 : S23) (x1 : List (S42)) (x2 : List (S44)) (x3 : Int) (x4 : Int), g23 x0 → (x1.length * 24 ≤ 140737488351232 ∧ ∀ y1 ∈ x1, g42 y1) → (x2.length * 32 ≤ 140737488351232 ∧ ∀ y1 ∈ x2, g44 y1) → (Lit.int .i64 x3).wf = true → (Lit.int .i64 x4).wf = true → ∃ k, interchangelaw12_DeskQueuesStayInOrder.f k x0.f0 x0.f1 x0.f2 x0.f3 x0.f4 x1 x2 x3 x4 = some true
end Go.Proofs.YtemokeankdgfeaaDoor.ODeskQueuesStayInOrder
