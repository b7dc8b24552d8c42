/- Written by px_row.py (this repo's wip/tools) for this seat: the row of DeskWaitsMatchSpec -/
import Derived.Test.YtemokeankdgfeaaRows
import Derived.Test.YtemokeankdgfeaaPureDeskWaitsMatchSpec
import Derived.WalkKit
import Derived.ProofKit
import Derived.OpenShut
import Derived.ShutString
import Derived.ChangeOld
import Derived.Below
import Derived.SizedLaws
import Derived.Deep.DeepHandedRow
import Derived.Lib.LaidTab
namespace Go.Proofs.Ytemokeankdgfeaa.deskWaitsMatchSpec
open Go.ChangeShapes Go.WideShapes Go.ChangeAt Go.RowKit
open Go.Proofs.Ytemokeankdgfeaa.PDeskWaitsMatchSpec Go.Proofs.YtemokeankdgfeaaW.PrintWords Go.Proofs.YtemokeankdgfeaaW.PrintLast Go.Proofs.Ytemokeankdgfeaa.Opn Go.Proofs.Ytemokeankdgfeaa.ODeskWaitsMatchSpec
set_option linter.unusedVariables false
theorem own : ownKnob Try.prog.godebug = none := by kernel_rfl
theorem laidOut : laidOutB Try.prog = true := by kernel_rfl
set_option maxRecDepth 100000 in
theorem contract (H : Type) (enc : TypeId × Value → H) (W : World) (base : Nat) (args : Array Value) (ds gs : List (DataW H)) (before : List MemPlace)
    (hval0 : ∀ (j : Nat) t v, Try.f3.params[j]? = some t → args[j]? = some v → Value.okWide Try.prog W .any base t v)
    (hW : DataW.Whole enc Try.prog Try.f3.params.toList Rows.deskWaitsMatchSpecSpec.vars false W args.toList ds gs before)
    (hsz0 : (DataW.weightsEach Try.prog (Try.f3.params.toList ++ Rows.deskWaitsMatchSpecSpec.plain.varTypes Try.prog) (ds ++ gs)).all (· ≤ reachBytes) = true) :
    Calls Try.prog 3 args W fun e W' => ∃ v, e = .returned v ∧ Rows.deskWaitsMatchSpecSpec.post enc Try.prog Try.f3 false true false false W args v W' := by
  have hsz := hsz0
  have hval := hval0
  have hW' := hW
  obtain ⟨p, q, hA0, hV, rfl, hfz, hnd⟩ := hW
  have hA : DataW.TrodAll enc Try.prog W 0 (fun _ => true) true Try.f3.params.toList args.toList ds p := hA0
  rw [Try.params3] at hA hval hsz
  obtain ⟨v0, vs0, d0, ds0, p0, q0, hargs, rfl, rfl, h0, r0⟩ := trodAll_cons hA
  obtain ⟨rfl, rfl, rfl⟩ := trodAll_nil r0
  obtain rfl : args = #[v0] := by cases args; simp_all
  obtain ⟨rfl, rfl⟩ := trodVars_none hV
  have hszl : ∀ n ∈ DataW.weightsEach Try.prog _ _, n ≤ reachBytes := fun n hn => by simpa using List.all_eq_true.1 hsz n hn
  have k0 := h0
  have lt0 : ∀ x ∈ p0, x.block < W.heap.size := by obtain ⟨m, hm⟩ := k0; exact DataW.trod_lt m _ _ _ hm
  have z0 : ∀ n ∈ d0.weights Try.prog 23, n ≤ reachBytes := fun n hn => hszl n (DataW.weights_mem_each (j := 0) (t := 23) rfl rfl n hn)
  obtain ⟨m0, f0⟩ := h0
  obtain ⟨x0, K0, G0⟩ := o23.read _ _ _ f0 z0
  obtain ⟨cs0, rfl, _⟩ := okWide_struct Try.underlying23 (hval 0 23 v0 rfl rfl)
  have hcs0 := k23_open K0
  obtain rfl := Array.toList_inj.1 (show cs0.toList = (#[.int .i64 x0.f0, .int .i64 x0.f1, .int .i64 x0.f2, .int .i64 x0.f3, .bool x0.f4] : Array Value).toList from hcs0)
  obtain ⟨k, h⟩ := Pure.DeskWaitsMatchSpec x0 G0
  clear hA0 hval0 hsz0 hsz hszl
  refine (interchangelaw12_DeskWaitsMatchSpec.calls k x0.f0 x0.f1 x0.f2 x0.f3 x0.f4 true W  h).mono fun e W' ⟨he, hb⟩ => ?_
  have bel : Below W.heap.size W W' := hb
  subst he
  exact ⟨_, rfl, _, _, _, [], _, [], hW', trodAll_mk1 (shut_bool Try.underlying4 _), (trodAll_cons_mk (Below.trod laidOut (by kernel_rfl) (of_decide_eq_true (by kernel_rfl)) k0 bel lt0) trodAll_mk0), rfl, bel.frame _, fun h => by cases h⟩
set_option maxRecDepth 100000 in
theorem lifted (os : Os) (started : os.Started) (H : Type) (enc : TypeId × Value → H) :
    ReturnsInHanded {} Try.checked os 3 .any (Rows.deskWaitsMatchSpecSpec.pre6 enc Try.prog Try.f3 Rows.deskWaitsMatchSpecRow.domain false) (Rows.deskWaitsMatchSpecSpec.post enc Try.prog Try.f3 false true false false) := by
  refine returnsInHanded_of_change_sized (C := Try.checked) own started (by kernel_rfl) Try.func3
    (ChangeSpec.witness6 (enc := enc) (C := Try.checked) false ⟨#[], #[.agg #[Value.int .i64 0, Value.int .i64 0, Value.int .i64 0, Value.int .i64 0, Value.bool false]], []⟩ 8 (by kernel_rfl) (by kernel_rfl) (by kernel_rfl) (by kernel_rfl)) ?_
  intro W base args ds gs before hval hW _ hsz _
  exact contract H enc W base args ds gs before hval hW hsz
theorem over : Rows.deskWaitsMatchSpecRow.holds Try.pinned (OpenSpec.ofChange Rows.deskWaitsMatchSpecSpec) :=
  OpenClaim.holds_of_wide 3 Try.f3 rfl rfl rfl rfl rfl rfl rfl ⟨rfl, rfl, rfl, rfl, rfl⟩ rfl rfl rfl rfl rfl (by kernel_rfl) Try.func3 (by kernel_rfl)
    (of_decide_eq_true (by kernel_rfl)) (by unfold Func.isWrapper; first | (rw [if_pos (by decide +kernel)]; kernel_rfl) | (rw [if_neg (by decide +kernel)]; exact ⟨rfl, rfl⟩))
    (fun os started H enc _ => lifted os started H enc)
theorem proved : Rows.DeskWaitsMatchSpecSaid := over
end Go.Proofs.Ytemokeankdgfeaa.deskWaitsMatchSpec
namespace Go.Proofs.Ytemokeankdgfeaa
/-- The row, under a short name, for the claim. -/
theorem deskWaitsMatchSpec_holds : Rows.DeskWaitsMatchSpecSaid := deskWaitsMatchSpec.proved
end Go.Proofs.Ytemokeankdgfeaa
#print axioms Go.Proofs.Ytemokeankdgfeaa.deskWaitsMatchSpec_holds
