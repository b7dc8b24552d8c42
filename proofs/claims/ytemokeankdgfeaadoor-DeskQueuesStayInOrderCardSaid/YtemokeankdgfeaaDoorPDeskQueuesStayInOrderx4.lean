-- Printed for this claim by px.py (this repo's wip/tools) over the kit's print; not the kit's own print.
import Derived.Test.YtemokeankdgfeaaDoorPDeskQueuesStayInOrderx0
import Derived.Test.YtemokeankdgfeaaDoorPDeskQueuesStayInOrderx2
import Derived.Test.YtemokeankdgfeaaDoorPDeskQueuesStayInOrderx3
namespace Go.Proofs.YtemokeankdgfeaaDoor.PDeskQueuesStayInOrder
open Go.Proofs.YtemokeankdgfeaaDoor.Sq
open Go.Proofs.YtemokeankdgfeaaDoor.Mp
open Go.RowKit Go.Proofs.YtemokeankdgfeaaDoorW.PrintWords Go.Proofs.YtemokeankdgfeaaDoorW.PrintLast Go.Proofs.YtemokeankdgfeaaDoorW.PrintMore
attribute [local go_sem] max2_int min2_int max_two min_two max_three min_three max_four min_four   -- for this text's walks alone
set_option linter.unusedVariables false
set_option linter.unusedSimpArgs false

/-! ### interchangelaw12_DeskQueuesStayInOrder: function 6 -/
mutual
def interchangelaw12_DeskQueuesStayInOrder.l0 : Nat → List (S42) → List (S44) → Int → Int → List (S34) → List (S34) → Int → Int → Int → Int → Int → Int → Bool → Option (Bool)
 | 0, _, _, _, _, _, _, _, _, _, _, _, _, _ => none
 | k + 1, x1, x2, x3, x4, x11, x37, x38, x39, x197000, x197001, x197002, x197003, x197004 => if x39 < x38 then (if 0 ≤ x39 then (if x39 < (x37.length : Int) then (interchangelaw12_DeskQueuesStayInOrder.l1 k x1 x2 x3 x4 x11 x39 x37 x38 x39 x39 0 x197000 x197001 x197002 x197003 x197004 ((rd_T34 x37 x39).f0) ((rd_T34 x37 x39).f1) ((rd_T34 x37 x39).f2)) else (none)) else (none)) else ((desk_PendingAt.f k x197000 x197001 x197002 x197003 x197004 x1 x2 x3).bind fun bt208 => ((desk_PendingAt.f k x197000 x197001 x197002 x197003 x197004 x1 x2 x4).bind fun bt212 => (if bt208.2 = 0 then (if bt212.2 = 0 then (interchangelaw12_DeskQueuesStayInOrder.j2 k x3 x4 x11 bt208.1 bt212.1 (decide (x4 < x3))) else (interchangelaw12_DeskQueuesStayInOrder.j2 k x3 x4 x11 bt208.1 bt212.1 true)) else (interchangelaw12_DeskQueuesStayInOrder.j2 k x3 x4 x11 bt208.1 bt212.1 true))))
def interchangelaw12_DeskQueuesStayInOrder.l1 : Nat → List (S42) → List (S44) → Int → Int → List (S34) → Int → List (S34) → Int → Int → Int → Int → Int → Int → Int → Int → Bool → Int → Int → Int → Option (Bool)
 | 0, _, _, _, _, _, _, _, _, _, _, _, _, _, _, _, _, _, _, _ => none
 | k + 1, x1, x2, x3, x4, x11, x13, x37, x38, x39, x44, x45, x197000, x197001, x197002, x197003, x197004, x204000, x204001, x204002 => if x45 < x44 then (if x197004 = true then (if 0 ≤ x45 then (if x45 < (x1.length : Int) then (if 0 ≤ x13 then (if x13 < (x1.length : Int) then (if ((rd_T42 x1 x45).f0).toList = ((rd_T42 x1 x13).f0).toList then (if x45 < (x11.length : Int) then (if (mx ((rd_T34 x11 x45).f1) ((rd_T34 x11 x45).f2)) > (mx x204001 x204002) then (some false) else (interchangelaw12_DeskQueuesStayInOrder.l1 k x1 x2 x3 x4 x11 x13 x37 x38 x39 x44 (wrap64 (x45 + 1)) x197000 x197001 x197002 x197003 x197004 x204000 x204001 x204002)) else (none)) else (interchangelaw12_DeskQueuesStayInOrder.l1 k x1 x2 x3 x4 x11 x13 x37 x38 x39 x44 (wrap64 (x45 + 1)) x197000 x197001 x197002 x197003 x197004 x204000 x204001 x204002)) else (none)) else (none)) else (none)) else (none)) else (interchangelaw12_DeskQueuesStayInOrder.l1 k x1 x2 x3 x4 x11 x13 x37 x38 x39 x44 (wrap64 (x45 + 1)) x197000 x197001 x197002 x197003 x197004 x204000 x204001 x204002)) else (interchangelaw12_DeskQueuesStayInOrder.l0 k x1 x2 x3 x4 x11 x37 x38 (wrap64 (x39 + 1)) x197000 x197001 x197002 x197003 x197004)
def interchangelaw12_DeskQueuesStayInOrder.j2 : Nat → Int → Int → List (S34) → List Int → List Int → Bool → Option (Bool)
 | 0, _, _, _, _, _, _ => none
 | k + 1, x3, x4, x11, x16, x17, x110 => if x110 = true then ((interchangelaw12_works.f k).bind fun t216 => (some t216)) else (interchangelaw12_DeskQueuesStayInOrder.l2 k x3 x4 x11 x17 x16 (x16.length : Int) 0)
def interchangelaw12_DeskQueuesStayInOrder.l2 : Nat → Int → Int → List (S34) → List Int → List Int → Int → Int → Option (Bool)
 | 0, _, _, _, _, _, _, _ => none
 | k + 1, x3, x4, x11, x17, x112, x113, x114 => if x114 < x113 then (if 0 ≤ x114 then (if x114 < (x112.length : Int) then (if (rd x112 x114) < 0 then (interchangelaw12_DeskQueuesStayInOrder.j4 k x3 x4 x11 x17 (rd x112 x114) x112 x113 x114 true) else (interchangelaw12_DeskQueuesStayInOrder.j4 k x3 x4 x11 x17 (rd x112 x114) x112 x113 x114 (decide ((rd x112 x114) ≥ (x11.length : Int))))) else (none)) else (none)) else ((interchangelaw12_works.f k).bind fun t217 => (some t217))
def interchangelaw12_DeskQueuesStayInOrder.j4 : Nat → Int → Int → List (S34) → List Int → Int → List Int → Int → Int → Bool → Option (Bool)
 | 0, _, _, _, _, _, _, _, _, _ => none
 | k + 1, x3, x4, x11, x17, x20, x112, x113, x114, x125 => if x125 = true then (some false) else (if 0 ≤ x20 then (if x20 < (x11.length : Int) then ((slices_Contains__int_int.f k x17 x20).bind fun t221 => (if (t221 != (decide ((mx ((rd_T34 x11 x20).f1) ((rd_T34 x11 x20).f2)) > x4))) = true then (some false) else (if (mx ((rd_T34 x11 x20).f1) ((rd_T34 x11 x20).f2)) ≤ x3 then (some false) else (interchangelaw12_DeskQueuesStayInOrder.l2 k x3 x4 x11 x17 x112 x113 (wrap64 (x114 + 1)))))) else (none)) else (none))
end
def interchangelaw12_DeskQueuesStayInOrder.f (k : Nat) (a0_0 : Int) (a0_1 : Int) (a0_2 : Int) (a0_3 : Int) (a0_4 : Bool) (l1 : List (S42)) (l2 : List (S44)) (a3 : Int) (a4 : Int) : Option (Bool) := (desk_Outbox.f k a0_0 a0_1 a0_2 a0_3 a0_4 l1 l2).bind fun bt197 => (if bt197.2 = 0 then (interchangelaw12_DeskQueuesStayInOrder.l0 k l1 l2 a3 a4 bt197.1 bt197.1 (bt197.1.length : Int) 0 a0_0 a0_1 a0_2 a0_3 a0_4) else (if (bt197.1.length : Int) = 0 then ((interchangelaw12_works.f k).bind fun t201 => (some t201)) else (some false)))
theorem interchangelaw12_DeskQueuesStayInOrder.mono_l : ∀ k, (∀ y0 y1 y2 y3 y4 y5 y6 y7 y8 y9 y10 y11 y12, LeO (interchangelaw12_DeskQueuesStayInOrder.l0 k y0 y1 y2 y3 y4 y5 y6 y7 y8 y9 y10 y11 y12) (interchangelaw12_DeskQueuesStayInOrder.l0 (k + 1) y0 y1 y2 y3 y4 y5 y6 y7 y8 y9 y10 y11 y12)) ∧ (∀ y0 y1 y2 y3 y4 y5 y6 y7 y8 y9 y10 y11 y12 y13 y14 y15 y16 y17 y18, LeO (interchangelaw12_DeskQueuesStayInOrder.l1 k y0 y1 y2 y3 y4 y5 y6 y7 y8 y9 y10 y11 y12 y13 y14 y15 y16 y17 y18) (interchangelaw12_DeskQueuesStayInOrder.l1 (k + 1) y0 y1 y2 y3 y4 y5 y6 y7 y8 y9 y10 y11 y12 y13 y14 y15 y16 y17 y18)) ∧ (∀ y0 y1 y2 y3 y4 y5, LeO (interchangelaw12_DeskQueuesStayInOrder.j2 k y0 y1 y2 y3 y4 y5) (interchangelaw12_DeskQueuesStayInOrder.j2 (k + 1) y0 y1 y2 y3 y4 y5)) ∧ (∀ y0 y1 y2 y3 y4 y5 y6, LeO (interchangelaw12_DeskQueuesStayInOrder.l2 k y0 y1 y2 y3 y4 y5 y6) (interchangelaw12_DeskQueuesStayInOrder.l2 (k + 1) y0 y1 y2 y3 y4 y5 y6)) ∧ (∀ y0 y1 y2 y3 y4 y5 y6 y7 y8, LeO (interchangelaw12_DeskQueuesStayInOrder.j4 k y0 y1 y2 y3 y4 y5 y6 y7 y8) (interchangelaw12_DeskQueuesStayInOrder.j4 (k + 1) y0 y1 y2 y3 y4 y5 y6 y7 y8))
 | 0 => ⟨fun _ _ _ _ _ _ _ _ _ _ _ _ _ r h => by simp [interchangelaw12_DeskQueuesStayInOrder.l0] at h, fun _ _ _ _ _ _ _ _ _ _ _ _ _ _ _ _ _ _ _ r h => by simp [interchangelaw12_DeskQueuesStayInOrder.l1] at h, fun _ _ _ _ _ _ r h => by simp [interchangelaw12_DeskQueuesStayInOrder.j2] at h, fun _ _ _ _ _ _ _ r h => by simp [interchangelaw12_DeskQueuesStayInOrder.l2] at h, fun _ _ _ _ _ _ _ _ _ r h => by simp [interchangelaw12_DeskQueuesStayInOrder.j4] at h⟩
 | k + 1 => by
  obtain ⟨ih0, ih1, ih2, ih3, ih4⟩ := interchangelaw12_DeskQueuesStayInOrder.mono_l k
  refine ⟨?_, ?_, ?_, ?_, ?_⟩
  ·intro y0 y1 y2 y3 y4 y5 y6 y7 y8 y9 y10 y11 y12
   unfold interchangelaw12_DeskQueuesStayInOrder.l0
   repeat' first
   | (with_reducible exact ih0 _ _ _ _ _ _ _ _ _ _ _ _ _)
   | (with_reducible exact ih1 _ _ _ _ _ _ _ _ _ _ _ _ _ _ _ _ _ _ _)
   | (with_reducible exact ih2 _ _ _ _ _ _)
   | (with_reducible exact ih3 _ _ _ _ _ _ _)
   | (with_reducible exact ih4 _ _ _ _ _ _ _ _ _)
   | (with_reducible exact desk_Outbox.mono _ _ _ _ _ _ _ _)
   | (with_reducible exact desk_PendingAt.mono _ _ _ _ _ _ _ _ _)
   | (with_reducible exact interchangelaw12_works.mono _)
   | (with_reducible exact slices_Contains__int_int.mono _ _ _)
   | (with_reducible exact LeO.refl _)
   | (with_reducible exact LeO.none _)
   | (with_reducible refine LeO.ite ?_ ?_)
   | (with_reducible refine LeO.bind ?_ (fun _ => ?_))
   | exact ih0 _ _ _ _ _ _ _ _ _ _ _ _ _
   | exact ih1 _ _ _ _ _ _ _ _ _ _ _ _ _ _ _ _ _ _ _
   | exact ih2 _ _ _ _ _ _
   | exact ih3 _ _ _ _ _ _ _
   | exact ih4 _ _ _ _ _ _ _ _ _
   | exact desk_Outbox.mono _ _ _ _ _ _ _ _
   | exact desk_PendingAt.mono _ _ _ _ _ _ _ _ _
   | exact interchangelaw12_works.mono _
   | exact slices_Contains__int_int.mono _ _ _
   | exact LeO.none _
   | refine LeO.ite ?_ ?_
   | refine LeO.bind ?_ (fun _ => ?_)
  ·intro y0 y1 y2 y3 y4 y5 y6 y7 y8 y9 y10 y11 y12 y13 y14 y15 y16 y17 y18
   unfold interchangelaw12_DeskQueuesStayInOrder.l1
   repeat' first
   | (with_reducible exact ih0 _ _ _ _ _ _ _ _ _ _ _ _ _)
   | (with_reducible exact ih1 _ _ _ _ _ _ _ _ _ _ _ _ _ _ _ _ _ _ _)
   | (with_reducible exact ih2 _ _ _ _ _ _)
   | (with_reducible exact ih3 _ _ _ _ _ _ _)
   | (with_reducible exact ih4 _ _ _ _ _ _ _ _ _)
   | (with_reducible exact desk_Outbox.mono _ _ _ _ _ _ _ _)
   | (with_reducible exact desk_PendingAt.mono _ _ _ _ _ _ _ _ _)
   | (with_reducible exact interchangelaw12_works.mono _)
   | (with_reducible exact slices_Contains__int_int.mono _ _ _)
   | (with_reducible exact LeO.refl _)
   | (with_reducible exact LeO.none _)
   | (with_reducible refine LeO.ite ?_ ?_)
   | (with_reducible refine LeO.bind ?_ (fun _ => ?_))
   | exact ih0 _ _ _ _ _ _ _ _ _ _ _ _ _
   | exact ih1 _ _ _ _ _ _ _ _ _ _ _ _ _ _ _ _ _ _ _
   | exact ih2 _ _ _ _ _ _
   | exact ih3 _ _ _ _ _ _ _
   | exact ih4 _ _ _ _ _ _ _ _ _
   | exact desk_Outbox.mono _ _ _ _ _ _ _ _
   | exact desk_PendingAt.mono _ _ _ _ _ _ _ _ _
   | exact interchangelaw12_works.mono _
   | exact slices_Contains__int_int.mono _ _ _
   | exact LeO.none _
   | refine LeO.ite ?_ ?_
   | refine LeO.bind ?_ (fun _ => ?_)
  ·intro y0 y1 y2 y3 y4 y5
   unfold interchangelaw12_DeskQueuesStayInOrder.j2
   repeat' first
   | (with_reducible exact ih0 _ _ _ _ _ _ _ _ _ _ _ _ _)
   | (with_reducible exact ih1 _ _ _ _ _ _ _ _ _ _ _ _ _ _ _ _ _ _ _)
   | (with_reducible exact ih2 _ _ _ _ _ _)
   | (with_reducible exact ih3 _ _ _ _ _ _ _)
   | (with_reducible exact ih4 _ _ _ _ _ _ _ _ _)
   | (with_reducible exact desk_Outbox.mono _ _ _ _ _ _ _ _)
   | (with_reducible exact desk_PendingAt.mono _ _ _ _ _ _ _ _ _)
   | (with_reducible exact interchangelaw12_works.mono _)
   | (with_reducible exact slices_Contains__int_int.mono _ _ _)
   | (with_reducible exact LeO.refl _)
   | (with_reducible exact LeO.none _)
   | (with_reducible refine LeO.ite ?_ ?_)
   | (with_reducible refine LeO.bind ?_ (fun _ => ?_))
   | exact ih0 _ _ _ _ _ _ _ _ _ _ _ _ _
   | exact ih1 _ _ _ _ _ _ _ _ _ _ _ _ _ _ _ _ _ _ _
   | exact ih2 _ _ _ _ _ _
   | exact ih3 _ _ _ _ _ _ _
   | exact ih4 _ _ _ _ _ _ _ _ _
   | exact desk_Outbox.mono _ _ _ _ _ _ _ _
   | exact desk_PendingAt.mono _ _ _ _ _ _ _ _ _
   | exact interchangelaw12_works.mono _
   | exact slices_Contains__int_int.mono _ _ _
   | exact LeO.none _
   | refine LeO.ite ?_ ?_
   | refine LeO.bind ?_ (fun _ => ?_)
  ·intro y0 y1 y2 y3 y4 y5 y6
   unfold interchangelaw12_DeskQueuesStayInOrder.l2
   repeat' first
   | (with_reducible exact ih0 _ _ _ _ _ _ _ _ _ _ _ _ _)
   | (with_reducible exact ih1 _ _ _ _ _ _ _ _ _ _ _ _ _ _ _ _ _ _ _)
   | (with_reducible exact ih2 _ _ _ _ _ _)
   | (with_reducible exact ih3 _ _ _ _ _ _ _)
   | (with_reducible exact ih4 _ _ _ _ _ _ _ _ _)
   | (with_reducible exact desk_Outbox.mono _ _ _ _ _ _ _ _)
   | (with_reducible exact desk_PendingAt.mono _ _ _ _ _ _ _ _ _)
   | (with_reducible exact interchangelaw12_works.mono _)
   | (with_reducible exact slices_Contains__int_int.mono _ _ _)
   | (with_reducible exact LeO.refl _)
   | (with_reducible exact LeO.none _)
   | (with_reducible refine LeO.ite ?_ ?_)
   | (with_reducible refine LeO.bind ?_ (fun _ => ?_))
   | exact ih0 _ _ _ _ _ _ _ _ _ _ _ _ _
   | exact ih1 _ _ _ _ _ _ _ _ _ _ _ _ _ _ _ _ _ _ _
   | exact ih2 _ _ _ _ _ _
   | exact ih3 _ _ _ _ _ _ _
   | exact ih4 _ _ _ _ _ _ _ _ _
   | exact desk_Outbox.mono _ _ _ _ _ _ _ _
   | exact desk_PendingAt.mono _ _ _ _ _ _ _ _ _
   | exact interchangelaw12_works.mono _
   | exact slices_Contains__int_int.mono _ _ _
   | exact LeO.none _
   | refine LeO.ite ?_ ?_
   | refine LeO.bind ?_ (fun _ => ?_)
  ·intro y0 y1 y2 y3 y4 y5 y6 y7 y8
   unfold interchangelaw12_DeskQueuesStayInOrder.j4
   repeat' first
   | (with_reducible exact ih0 _ _ _ _ _ _ _ _ _ _ _ _ _)
   | (with_reducible exact ih1 _ _ _ _ _ _ _ _ _ _ _ _ _ _ _ _ _ _ _)
   | (with_reducible exact ih2 _ _ _ _ _ _)
   | (with_reducible exact ih3 _ _ _ _ _ _ _)
   | (with_reducible exact ih4 _ _ _ _ _ _ _ _ _)
   | (with_reducible exact desk_Outbox.mono _ _ _ _ _ _ _ _)
   | (with_reducible exact desk_PendingAt.mono _ _ _ _ _ _ _ _ _)
   | (with_reducible exact interchangelaw12_works.mono _)
   | (with_reducible exact slices_Contains__int_int.mono _ _ _)
   | (with_reducible exact LeO.refl _)
   | (with_reducible exact LeO.none _)
   | (with_reducible refine LeO.ite ?_ ?_)
   | (with_reducible refine LeO.bind ?_ (fun _ => ?_))
   | exact ih0 _ _ _ _ _ _ _ _ _ _ _ _ _
   | exact ih1 _ _ _ _ _ _ _ _ _ _ _ _ _ _ _ _ _ _ _
   | exact ih2 _ _ _ _ _ _
   | exact ih3 _ _ _ _ _ _ _
   | exact ih4 _ _ _ _ _ _ _ _ _
   | exact desk_Outbox.mono _ _ _ _ _ _ _ _
   | exact desk_PendingAt.mono _ _ _ _ _ _ _ _ _
   | exact interchangelaw12_works.mono _
   | exact slices_Contains__int_int.mono _ _ _
   | exact LeO.none _
   | refine LeO.ite ?_ ?_
   | refine LeO.bind ?_ (fun _ => ?_)
theorem interchangelaw12_DeskQueuesStayInOrder.mono : ∀ a0 a1 a2 a3 a4 a5 a6 a7 a8 k, LeO (interchangelaw12_DeskQueuesStayInOrder.f k a0 a1 a2 a3 a4 a5 a6 a7 a8) (interchangelaw12_DeskQueuesStayInOrder.f (k + 1) a0 a1 a2 a3 a4 a5 a6 a7 a8) := by
 intro a0 a1 a2 a3 a4 a5 a6 a7 a8 k
 obtain ⟨ih0, ih1, ih2, ih3, ih4⟩ := interchangelaw12_DeskQueuesStayInOrder.mono_l k
 unfold interchangelaw12_DeskQueuesStayInOrder.f
 repeat' first
   | (with_reducible exact ih0 _ _ _ _ _ _ _ _ _ _ _ _ _)
   | (with_reducible exact ih1 _ _ _ _ _ _ _ _ _ _ _ _ _ _ _ _ _ _ _)
   | (with_reducible exact ih2 _ _ _ _ _ _)
   | (with_reducible exact ih3 _ _ _ _ _ _ _)
   | (with_reducible exact ih4 _ _ _ _ _ _ _ _ _)
   | (with_reducible exact desk_Outbox.mono _ _ _ _ _ _ _ _)
   | (with_reducible exact desk_PendingAt.mono _ _ _ _ _ _ _ _ _)
   | (with_reducible exact interchangelaw12_works.mono _)
   | (with_reducible exact slices_Contains__int_int.mono _ _ _)
   | (with_reducible exact LeO.refl _)
   | (with_reducible exact LeO.none _)
   | (with_reducible refine LeO.ite ?_ ?_)
   | (with_reducible refine LeO.bind ?_ (fun _ => ?_))
   | exact ih0 _ _ _ _ _ _ _ _ _ _ _ _ _
   | exact ih1 _ _ _ _ _ _ _ _ _ _ _ _ _ _ _ _ _ _ _
   | exact ih2 _ _ _ _ _ _
   | exact ih3 _ _ _ _ _ _ _
   | exact ih4 _ _ _ _ _ _ _ _ _
   | exact desk_Outbox.mono _ _ _ _ _ _ _ _
   | exact desk_PendingAt.mono _ _ _ _ _ _ _ _ _
   | exact interchangelaw12_works.mono _
   | exact slices_Contains__int_int.mono _ _ _
   | exact LeO.none _
   | refine LeO.ite ?_ ?_
   | refine LeO.bind ?_ (fun _ => ?_)
set_option maxHeartbeats 8000000 in
set_option maxRecDepth 100000 in
theorem interchangelaw12_DeskQueuesStayInOrder.calls (k : Nat) (a0_0 : Int) (a0_1 : Int) (a0_2 : Int) (a0_3 : Int) (a0_4 : Bool) (A1 : Option Addr) (c1 : Nat) (l1 : List (S42)) (A2 : Option Addr) (c2 : Nat) (l2 : List (S44)) (a3 : Int) (a4 : Int) (r : Bool) (w : World) (hr1 : Kd.C k42 w A1 l1.length l1) (hc1 : l1.length ≤ c1) (hr2 : Kd.C k44 w A2 l2.length l2) (hc2 : l2.length ≤ c2) (h : interchangelaw12_DeskQueuesStayInOrder.f k a0_0 a0_1 a0_2 a0_3 a0_4 l1 l2 a3 a4 = some r) (rt : r = true) :
  Calls Tryd.prog 6 #[.agg #[.int .i64 a0_0, .int .i64 a0_1, .int .i64 a0_2, .int .i64 a0_3, .bool a0_4], .slice A1 l1.length c1, .slice A2 l2.length c2, .int .i64 a3, .int .i64 a4] w fun e w' => e = .returned (.bool r) ∧ Below w.heap.size w w' := by
 have hu23 := Tryd.underlying23
 have hu34 := Tryd.underlying34
 have HR1 := Aside0.mk hr1
 have HC1 := Aside0.mk hc1
 clear hr1 hc1
 have HR2 := Aside0.mk hr2
 have HC2 := Aside0.mk hc2
 clear hr2 hc2
 have HB := Aside0.mk (Below.refl w.heap.size w)
 have H : ((desk_Outbox.f k a0_0 a0_1 a0_2 a0_3 a0_4 l1 l2).bind fun bt197 => (if bt197.2 = 0 then (interchangelaw12_DeskQueuesStayInOrder.l0 k l1 l2 a3 a4 bt197.1 bt197.1 (bt197.1.length : Int) 0 a0_0 a0_1 a0_2 a0_3 a0_4) else (if (bt197.1.length : Int) = 0 then ((interchangelaw12_works.f k).bind fun t201 => (some t201)) else (some false)))) = some r := h
 clear h
 have RT := Aside0.mk rt
 clear rt
 replace H := Option.bind_eq_some_iff.mp H
 obtain ⟨⟨t197, t200⟩, A60, H⟩ := H
 replace H : (if t200 = 0 then (interchangelaw12_DeskQueuesStayInOrder.l0 k l1 l2 a3 a4 t197 t197 (t197.length : Int) 0 a0_0 a0_1 a0_2 a0_3 a0_4) else (if (t197.length : Int) = 0 then ((interchangelaw12_works.f k).bind fun t201 => (some t201)) else (some false))) = some r := H
 have A6 := Aside0.mk A60
 clear A60
 by_cases c7 : t200 = 0
 ·rw [if_pos c7] at H
  have c7b0 : (t200 == 0) = true := beq_iff_eq.mpr c7
  have c7b1 : (t200 != 0) = false := bne_eq_false_iff_eq.mpr c7
  clear c7
  have H' := Aside0.mk H
  clear H
  go_enter Tryd.func6, Tryd.ntmps6
  go_wp2_with (first | ((with_reducible refine gate_dst (N := 5) rfl ?_); (try (refine gate_guard (by rfl) ?_; dsimp only)); refine box_event ?hg (N := 5) ?hd (cs := #[.int .i64 a0_0, .int .i64 a0_1, .int .i64 a0_2, .int .i64 a0_3, .bool a0_4]) (t := 23) ?hr ?_; (case hd => rfl); (case hg => rfl); (case hr => first | (go_simp; done) | (go_simp; rfl)); intro gb196 hg w8 hbox hb; have n0_ := Aside0.mk (below_step (bl HB) hb); have n1_ := Aside0.mk (hbox); have n2_ := Aside0.mk ((by rw [hg]; exact (below_size (bl HB)) : w.heap.size ≤ gb196)); have n3_ := Aside0.mk ((by rw [hg]; exact (below_size (bl HB)) : w.heap.size ≤ gb196)); clear HB; have HB := n0_; have BK196 := n1_; have GW196 := n2_; have GE196 := n3_; clear n0_ n1_ n2_ n3_; clear hb hbox hg; have hcz9_0 : w8.cell? ⟨gb196, 0, none⟩ = some (.int .i64 a0_0) := (blk_cell BK196.out 0).trans rfl; have hcz9_1 : w8.cell? ⟨gb196, 1, none⟩ = some (.int .i64 a0_1) := (blk_cell BK196.out 1).trans rfl; have hcz9_2 : w8.cell? ⟨gb196, 2, none⟩ = some (.int .i64 a0_2) := (blk_cell BK196.out 2).trans rfl; have hcz9_3 : w8.cell? ⟨gb196, 3, none⟩ = some (.int .i64 a0_3) := (blk_cell BK196.out 3).trans rfl; have hcz9_4 : w8.cell? ⟨gb196, 4, none⟩ = some (.bool a0_4) := (blk_cell BK196.out 4).trans rfl; have hfz9_0 := blk_frozen BK196.out 0; have hfz9_1 := blk_frozen BK196.out 1; have hfz9_2 := blk_frozen BK196.out 2; have hfz9_3 := blk_frozen BK196.out 3; have hfz9_4 := blk_frozen BK196.out 4) | (go_at_call 8; (with_reducible refine (desk_Outbox.calls k a0_0 a0_1 a0_2 a0_3 a0_4 _ _ l1 _ _ l2 t197 t200 _ ?side1 ?side2 ?side3 ?side4 A6.out).mono ?_); (case side1 => exact kc HR1 HB); (case side2 => exact HC1.out); (case side3 => exact kc HR2 HB); (case side4 => exact HC2.out); rintro e w10 ⟨v198, rfl, ho0, hb⟩; have n0_ := Aside0.mk (Kd.R_lower ho0 (below_size (bl HB))); have n1_ := Aside0.mk (blk_below (g := gb196) (o := .cells #[.int .i64 a0_0, .int .i64 a0_1, .int .i64 a0_2, .int .i64 a0_3, .bool a0_4] 23 (0, 0)) (bk BK196) hb); have n2_ := Aside0.mk (below_step (bl HB) hb); clear BK196; clear HB; have HO199 := n0_; have BK196 := n1_; have HB := n2_; clear n0_ n1_ n2_; (try clear hb); (try clear hb2); (try clear hk); (try clear hi); (try clear ho0); obtain ⟨Ao11, co11, eo11⟩ := Kd.R_slice HO199.out; subst eo11))
  repeat (go_quiet (first | ((with_reducible refine gate_dst (N := 5) rfl ?_); (try (refine gate_guard (by rfl) ?_; dsimp only)); refine box_event ?hg (N := 5) ?hd (cs := #[.int .i64 a0_0, .int .i64 a0_1, .int .i64 a0_2, .int .i64 a0_3, .bool a0_4]) (t := 23) ?hr ?_; (case hd => rfl); (case hg => rfl); (case hr => first | (go_simp; done) | (go_simp; rfl)); intro gb196 hg w8 hbox hb; have n0_ := Aside0.mk (below_step (bl HB) hb); have n1_ := Aside0.mk (hbox); have n2_ := Aside0.mk ((by rw [hg]; exact (below_size (bl HB)) : w.heap.size ≤ gb196)); have n3_ := Aside0.mk ((by rw [hg]; exact (below_size (bl HB)) : w.heap.size ≤ gb196)); clear HB; have HB := n0_; have BK196 := n1_; have GW196 := n2_; have GE196 := n3_; clear n0_ n1_ n2_ n3_; clear hb hbox hg; have hcz9_0 : w8.cell? ⟨gb196, 0, none⟩ = some (.int .i64 a0_0) := (blk_cell BK196.out 0).trans rfl; have hcz9_1 : w8.cell? ⟨gb196, 1, none⟩ = some (.int .i64 a0_1) := (blk_cell BK196.out 1).trans rfl; have hcz9_2 : w8.cell? ⟨gb196, 2, none⟩ = some (.int .i64 a0_2) := (blk_cell BK196.out 2).trans rfl; have hcz9_3 : w8.cell? ⟨gb196, 3, none⟩ = some (.int .i64 a0_3) := (blk_cell BK196.out 3).trans rfl; have hcz9_4 : w8.cell? ⟨gb196, 4, none⟩ = some (.bool a0_4) := (blk_cell BK196.out 4).trans rfl; have hfz9_0 := blk_frozen BK196.out 0; have hfz9_1 := blk_frozen BK196.out 1; have hfz9_2 := blk_frozen BK196.out 2; have hfz9_3 := blk_frozen BK196.out 3; have hfz9_4 := blk_frozen BK196.out 4) | (go_at_call 8; (with_reducible refine (desk_Outbox.calls k a0_0 a0_1 a0_2 a0_3 a0_4 _ _ l1 _ _ l2 t197 t200 _ ?side1 ?side2 ?side3 ?side4 A6.out).mono ?_); (case side1 => exact kc HR1 HB); (case side2 => exact HC1.out); (case side3 => exact kc HR2 HB); (case side4 => exact HC2.out); rintro e w10 ⟨v198, rfl, ho0, hb⟩; have n0_ := Aside0.mk (Kd.R_lower ho0 (below_size (bl HB))); have n1_ := Aside0.mk (blk_below (g := gb196) (o := .cells #[.int .i64 a0_0, .int .i64 a0_1, .int .i64 a0_2, .int .i64 a0_3, .bool a0_4] 23 (0, 0)) (bk BK196) hb); have n2_ := Aside0.mk (below_step (bl HB) hb); clear BK196; clear HB; have HO199 := n0_; have BK196 := n1_; have HB := n2_; clear n0_ n1_ n2_; (try clear hb); (try clear hb2); (try clear hk); (try clear hi); (try clear ho0); obtain ⟨Ao11, co11, eo11⟩ := Kd.R_slice HO199.out; subst eo11)); try go_wp2_with (first | ((with_reducible refine gate_dst (N := 5) rfl ?_); (try (refine gate_guard (by rfl) ?_; dsimp only)); refine box_event ?hg (N := 5) ?hd (cs := #[.int .i64 a0_0, .int .i64 a0_1, .int .i64 a0_2, .int .i64 a0_3, .bool a0_4]) (t := 23) ?hr ?_; (case hd => rfl); (case hg => rfl); (case hr => first | (go_simp; done) | (go_simp; rfl)); intro gb196 hg w8 hbox hb; have n0_ := Aside0.mk (below_step (bl HB) hb); have n1_ := Aside0.mk (hbox); have n2_ := Aside0.mk ((by rw [hg]; exact (below_size (bl HB)) : w.heap.size ≤ gb196)); have n3_ := Aside0.mk ((by rw [hg]; exact (below_size (bl HB)) : w.heap.size ≤ gb196)); clear HB; have HB := n0_; have BK196 := n1_; have GW196 := n2_; have GE196 := n3_; clear n0_ n1_ n2_ n3_; clear hb hbox hg; have hcz9_0 : w8.cell? ⟨gb196, 0, none⟩ = some (.int .i64 a0_0) := (blk_cell BK196.out 0).trans rfl; have hcz9_1 : w8.cell? ⟨gb196, 1, none⟩ = some (.int .i64 a0_1) := (blk_cell BK196.out 1).trans rfl; have hcz9_2 : w8.cell? ⟨gb196, 2, none⟩ = some (.int .i64 a0_2) := (blk_cell BK196.out 2).trans rfl; have hcz9_3 : w8.cell? ⟨gb196, 3, none⟩ = some (.int .i64 a0_3) := (blk_cell BK196.out 3).trans rfl; have hcz9_4 : w8.cell? ⟨gb196, 4, none⟩ = some (.bool a0_4) := (blk_cell BK196.out 4).trans rfl; have hfz9_0 := blk_frozen BK196.out 0; have hfz9_1 := blk_frozen BK196.out 1; have hfz9_2 := blk_frozen BK196.out 2; have hfz9_3 := blk_frozen BK196.out 3; have hfz9_4 := blk_frozen BK196.out 4) | (go_at_call 8; (with_reducible refine (desk_Outbox.calls k a0_0 a0_1 a0_2 a0_3 a0_4 _ _ l1 _ _ l2 t197 t200 _ ?side1 ?side2 ?side3 ?side4 A6.out).mono ?_); (case side1 => exact kc HR1 HB); (case side2 => exact HC1.out); (case side3 => exact kc HR2 HB); (case side4 => exact HC2.out); rintro e w10 ⟨v198, rfl, ho0, hb⟩; have n0_ := Aside0.mk (Kd.R_lower ho0 (below_size (bl HB))); have n1_ := Aside0.mk (blk_below (g := gb196) (o := .cells #[.int .i64 a0_0, .int .i64 a0_1, .int .i64 a0_2, .int .i64 a0_3, .bool a0_4] 23 (0, 0)) (bk BK196) hb); have n2_ := Aside0.mk (below_step (bl HB) hb); clear BK196; clear HB; have HO199 := n0_; have BK196 := n1_; have HB := n2_; clear n0_ n1_ n2_; (try clear hb); (try clear hb2); (try clear hk); (try clear hi); (try clear ho0); obtain ⟨Ao11, co11, eo11⟩ := Kd.R_slice HO199.out; subst eo11)))
  go_loopg [39] k (fun kq v39 w' => ∃ (x39_1 : Int), v39 = .int .i64 x39_1 ∧ Aside0 (interchangelaw12_DeskQueuesStayInOrder.l0 kq l1 l2 a3 a4 t197 t197 (t197.length : Int) x39_1 a0_0 a0_1 a0_2 a0_3 a0_4 = some r) ∧ Aside0 (kq ≤ k) ∧ Aside0 (Kd.R k34 34 w' w.heap.size (fun _ => True) (.slice Ao11 t197.length co11) t197) ∧ Aside0 (Kd.R k34 34 w' w.heap.size (fun _ => True) (.slice Ao11 t197.length co11) t197) ∧ Aside0 (w'.heap[gb196]? = some (.cells #[.int .i64 a0_0, .int .i64 a0_1, .int .i64 a0_2, .int .i64 a0_3, .bool a0_4] 23 (0, 0))) ∧ Aside0 (Below w.heap.size w w'))
  case atStart => exact ⟨(0), (by first | rfl | (simp; done) | (simp [*]; done)), H', ⟨Nat.le_refl _⟩, ⟨ra HO199⟩, ⟨ra HO199⟩, ⟨bk BK196⟩, ⟨bl HB⟩⟩
  case round =>
   clear H'
   try clear c1
   try clear c2
   try clear p2
   try clear c6
   try clear c7
   try clear c7b0
   try clear c7b1
   try clear hcz9_0
   try clear hcz9_1
   try clear hcz9_2
   try clear hcz9_3
   try clear hcz9_4
   try clear hfz9_0
   try clear hfz9_1
   try clear hfz9_2
   try clear hfz9_3
   try clear hfz9_4
   obtain ⟨x39_1, rfl, HA, HK1, HO_11, HO_37, BK196, HB⟩ := hrel
   cases gk with
   | zero => exact absurd HA.out (by simp [interchangelaw12_DeskQueuesStayInOrder.l0])
   | succ k1 =>
    have H := HA.out
    clear HA
    simp only [interchangelaw12_DeskQueuesStayInOrder.l0] at H
    by_cases c12 : x39_1 < (t197.length : Int)
    ·rw [if_pos c12] at H
     have c12b0 : decide (x39_1 < (t197.length : Int)) = true := decide_eq_true c12
     clear c12
     by_cases c13 : 0 ≤ x39_1
     ·rw [if_pos c13] at H
      have c13b0 : decide (0 ≤ x39_1) = true := decide_eq_true c13
      clear c13
      by_cases c14 : x39_1 < (t197.length : Int)
      ·rw [if_pos c14] at H
       have c14b0 : decide (x39_1 < (t197.length : Int)) = true := decide_eq_true c14
       clear c14
       have H' := Aside0.mk H
       clear H
       have p202 : 0 ≤ (x39_1 : Int) := of_decide_eq_true odt
       have q202 : x39_1 < (t197.length : Int) := of_decide_eq_true odt
       obtain ⟨ad202, e202, hx202_0, hx202_1, hx202_2⟩ := at_T34 (Kd.R_reads' HO_37.out).2.2 x39_1 p202 q202
       cases e202
       replace p202 := eq_true p202
       replace q202 := eq_true q202
       go_wp2_with (first | ((with_reducible refine gate_dst (N := 14) rfl ?_); (try (refine gate_guard (by rfl) ?_; dsimp only)); refine box_event ?hg (N := 14) ?hd (cs := #[.int .i64 0, .int .i64 0, .int .i64 0]) (t := 34) ?hr ?_; (case hd => rfl); (case hg => rfl); (case hr => first | (go_simp; done) | (go_simp; rfl)); intro gb203 hg w15 hbox hb; have n0_ := Aside0.mk (Kd.R_below (Kd.R_elderB (ra HO_11) gb203 (Nat.le_of_eq hg.symm)) hb); have n1_ := Aside0.mk (Kd.R_below (Kd.R_elderB (ra HO_37) gb203 (Nat.le_of_eq hg.symm)) hb); have n2_ := Aside0.mk (blk_below (g := gb196) (o := .cells #[.int .i64 a0_0, .int .i64 a0_1, .int .i64 a0_2, .int .i64 a0_3, .bool a0_4] 23 (0, 0)) (bk BK196) hb); have n3_ := Aside0.mk (below_step (bl HB) hb); have n4_ := Aside0.mk (hbox); have n5_ := Aside0.mk ((by rw [hg]; exact (below_size (bl HB)) : w.heap.size ≤ gb203)); have n6_ := Aside0.mk ((by rw [hg]; exact (below_size (bl HB)) : w.heap.size ≤ gb203)); have n7_ := Aside0.mk ((by rw [hg]; exact Nat.ne_of_lt (blk_lt (g := gb196) (o := .cells #[.int .i64 a0_0, .int .i64 a0_1, .int .i64 a0_2, .int .i64 a0_3, .bool a0_4] 23 (0, 0)) (bk BK196)) : gb196 ≠ gb203)); have n8_ := Aside0.mk ((by rw [hg]; exact Nat.ne_of_gt (blk_lt (g := gb196) (o := .cells #[.int .i64 a0_0, .int .i64 a0_1, .int .i64 a0_2, .int .i64 a0_3, .bool a0_4] 23 (0, 0)) (bk BK196)) : gb203 ≠ gb196)); clear HO_11; clear HO_37; clear BK196; clear HB; have HO_11 := n0_; have HO_37 := n1_; have BK196 := n2_; have HB := n3_; have BK203 := n4_; have GW203 := n5_; have GE203 := n6_; have NB196_203 := n7_; have NB203_196 := n8_; clear n0_ n1_ n2_ n3_ n4_ n5_ n6_ n7_ n8_; clear hb hbox hg; have hnb16 := NB203_196.out; have hnc16 := NB196_203.out; have hcz17_0 : w15.cell? ⟨gb203, 0, none⟩ = some (.int .i64 0) := (blk_cell BK203.out 0).trans rfl; have hcz17_1 : w15.cell? ⟨gb203, 1, none⟩ = some (.int .i64 0) := (blk_cell BK203.out 1).trans rfl; have hcz17_2 : w15.cell? ⟨gb203, 2, none⟩ = some (.int .i64 0) := (blk_cell BK203.out 2).trans rfl; have hfz17_0 := blk_frozen BK203.out 0; have hfz17_1 := blk_frozen BK203.out 1; have hfz17_2 := blk_frozen BK203.out 2))
       repeat (go_quiet (first | ((with_reducible refine gate_dst (N := 14) rfl ?_); (try (refine gate_guard (by rfl) ?_; dsimp only)); refine box_event ?hg (N := 14) ?hd (cs := #[.int .i64 0, .int .i64 0, .int .i64 0]) (t := 34) ?hr ?_; (case hd => rfl); (case hg => rfl); (case hr => first | (go_simp; done) | (go_simp; rfl)); intro gb203 hg w15 hbox hb; have n0_ := Aside0.mk (Kd.R_below (Kd.R_elderB (ra HO_11) gb203 (Nat.le_of_eq hg.symm)) hb); have n1_ := Aside0.mk (Kd.R_below (Kd.R_elderB (ra HO_37) gb203 (Nat.le_of_eq hg.symm)) hb); have n2_ := Aside0.mk (blk_below (g := gb196) (o := .cells #[.int .i64 a0_0, .int .i64 a0_1, .int .i64 a0_2, .int .i64 a0_3, .bool a0_4] 23 (0, 0)) (bk BK196) hb); have n3_ := Aside0.mk (below_step (bl HB) hb); have n4_ := Aside0.mk (hbox); have n5_ := Aside0.mk ((by rw [hg]; exact (below_size (bl HB)) : w.heap.size ≤ gb203)); have n6_ := Aside0.mk ((by rw [hg]; exact (below_size (bl HB)) : w.heap.size ≤ gb203)); have n7_ := Aside0.mk ((by rw [hg]; exact Nat.ne_of_lt (blk_lt (g := gb196) (o := .cells #[.int .i64 a0_0, .int .i64 a0_1, .int .i64 a0_2, .int .i64 a0_3, .bool a0_4] 23 (0, 0)) (bk BK196)) : gb196 ≠ gb203)); have n8_ := Aside0.mk ((by rw [hg]; exact Nat.ne_of_gt (blk_lt (g := gb196) (o := .cells #[.int .i64 a0_0, .int .i64 a0_1, .int .i64 a0_2, .int .i64 a0_3, .bool a0_4] 23 (0, 0)) (bk BK196)) : gb203 ≠ gb196)); clear HO_11; clear HO_37; clear BK196; clear HB; have HO_11 := n0_; have HO_37 := n1_; have BK196 := n2_; have HB := n3_; have BK203 := n4_; have GW203 := n5_; have GE203 := n6_; have NB196_203 := n7_; have NB203_196 := n8_; clear n0_ n1_ n2_ n3_ n4_ n5_ n6_ n7_ n8_; clear hb hbox hg; have hnb16 := NB203_196.out; have hnc16 := NB196_203.out; have hcz17_0 : w15.cell? ⟨gb203, 0, none⟩ = some (.int .i64 0) := (blk_cell BK203.out 0).trans rfl; have hcz17_1 : w15.cell? ⟨gb203, 1, none⟩ = some (.int .i64 0) := (blk_cell BK203.out 1).trans rfl; have hcz17_2 : w15.cell? ⟨gb203, 2, none⟩ = some (.int .i64 0) := (blk_cell BK203.out 2).trans rfl; have hfz17_0 := blk_frozen BK203.out 0; have hfz17_1 := blk_frozen BK203.out 1; have hfz17_2 := blk_frozen BK203.out 2)); try go_wp2_with (first | ((with_reducible refine gate_dst (N := 14) rfl ?_); (try (refine gate_guard (by rfl) ?_; dsimp only)); refine box_event ?hg (N := 14) ?hd (cs := #[.int .i64 0, .int .i64 0, .int .i64 0]) (t := 34) ?hr ?_; (case hd => rfl); (case hg => rfl); (case hr => first | (go_simp; done) | (go_simp; rfl)); intro gb203 hg w15 hbox hb; have n0_ := Aside0.mk (Kd.R_below (Kd.R_elderB (ra HO_11) gb203 (Nat.le_of_eq hg.symm)) hb); have n1_ := Aside0.mk (Kd.R_below (Kd.R_elderB (ra HO_37) gb203 (Nat.le_of_eq hg.symm)) hb); have n2_ := Aside0.mk (blk_below (g := gb196) (o := .cells #[.int .i64 a0_0, .int .i64 a0_1, .int .i64 a0_2, .int .i64 a0_3, .bool a0_4] 23 (0, 0)) (bk BK196) hb); have n3_ := Aside0.mk (below_step (bl HB) hb); have n4_ := Aside0.mk (hbox); have n5_ := Aside0.mk ((by rw [hg]; exact (below_size (bl HB)) : w.heap.size ≤ gb203)); have n6_ := Aside0.mk ((by rw [hg]; exact (below_size (bl HB)) : w.heap.size ≤ gb203)); have n7_ := Aside0.mk ((by rw [hg]; exact Nat.ne_of_lt (blk_lt (g := gb196) (o := .cells #[.int .i64 a0_0, .int .i64 a0_1, .int .i64 a0_2, .int .i64 a0_3, .bool a0_4] 23 (0, 0)) (bk BK196)) : gb196 ≠ gb203)); have n8_ := Aside0.mk ((by rw [hg]; exact Nat.ne_of_gt (blk_lt (g := gb196) (o := .cells #[.int .i64 a0_0, .int .i64 a0_1, .int .i64 a0_2, .int .i64 a0_3, .bool a0_4] 23 (0, 0)) (bk BK196)) : gb203 ≠ gb196)); clear HO_11; clear HO_37; clear BK196; clear HB; have HO_11 := n0_; have HO_37 := n1_; have BK196 := n2_; have HB := n3_; have BK203 := n4_; have GW203 := n5_; have GE203 := n6_; have NB196_203 := n7_; have NB203_196 := n8_; clear n0_ n1_ n2_ n3_ n4_ n5_ n6_ n7_ n8_; clear hb hbox hg; have hnb16 := NB203_196.out; have hnc16 := NB196_203.out; have hcz17_0 : w15.cell? ⟨gb203, 0, none⟩ = some (.int .i64 0) := (blk_cell BK203.out 0).trans rfl; have hcz17_1 : w15.cell? ⟨gb203, 1, none⟩ = some (.int .i64 0) := (blk_cell BK203.out 1).trans rfl; have hcz17_2 : w15.cell? ⟨gb203, 2, none⟩ = some (.int .i64 0) := (blk_cell BK203.out 2).trans rfl; have hfz17_0 := blk_frozen BK203.out 0; have hfz17_1 := blk_frozen BK203.out 1; have hfz17_2 := blk_frozen BK203.out 2)))
       go_loopg [45] k1 (fun kq v45 w' => ∃ (x45_2 : Int), v45 = .int .i64 x45_2 ∧ Aside0 (interchangelaw12_DeskQueuesStayInOrder.l1 kq l1 l2 a3 a4 t197 x39_1 t197 (t197.length : Int) x39_1 x39_1 x45_2 a0_0 a0_1 a0_2 a0_3 a0_4 ((rd_T34 t197 x39_1).f0) ((rd_T34 t197 x39_1).f1) ((rd_T34 t197 x39_1).f2) = some r) ∧ Aside0 (kq ≤ k1) ∧ Aside0 (Kd.R k34 34 w' w.heap.size (fun k_ => k_ ≠ gb203) (.slice (some ad202) t197.length co11) t197) ∧ Aside0 (Kd.R k34 34 w' w.heap.size (fun k_ => k_ ≠ gb203) (.slice (some ad202) t197.length co11) t197) ∧ Aside0 (w'.heap[gb196]? = some (.cells #[.int .i64 a0_0, .int .i64 a0_1, .int .i64 a0_2, .int .i64 a0_3, .bool a0_4] 23 (0, 0))) ∧ Aside0 (w'.heap[gb203]? = some (.cells #[.int .i64 ((rd_T34 t197 x39_1).f0), .int .i64 ((rd_T34 t197 x39_1).f1), .int .i64 ((rd_T34 t197 x39_1).f2)] 34 (0, 0))) ∧ Aside0 (Below w.heap.size w w'))
       case atStart => exact ⟨(0), (by first | rfl | (simp; done) | (simp [*]; done)), H', ⟨Nat.le_refl _⟩, ⟨by (with_reducible repeat (first | apply Kd.R_alloc | apply Kd.R_drewN | apply Kd.R_drew)); exact Kd.R_mono (Kd.R_far (p := ⟨gb203, 2, none⟩) (Kd.R_far (p := ⟨gb203, 1, none⟩) (Kd.R_far (p := ⟨gb203, 0, none⟩) (Kd.R_mono HO_11.out (fun k_ hk => (⟨hk, hk.2⟩ : _ ∧ k_ ≠ gb203))) (fun _ hk => hk.2) (.int .i64 ((rd_T34 t197 x39_1).f0))) (fun _ hk => hk.2) (.int .i64 ((rd_T34 t197 x39_1).f1))) (fun _ hk => hk.2) (.int .i64 ((rd_T34 t197 x39_1).f2))) (fun _ hk => hk.1.2)⟩, ⟨by (with_reducible repeat (first | apply Kd.R_alloc | apply Kd.R_drewN | apply Kd.R_drew)); exact Kd.R_mono (Kd.R_far (p := ⟨gb203, 2, none⟩) (Kd.R_far (p := ⟨gb203, 1, none⟩) (Kd.R_far (p := ⟨gb203, 0, none⟩) (Kd.R_mono HO_37.out (fun k_ hk => (⟨hk, hk.2⟩ : _ ∧ k_ ≠ gb203))) (fun _ hk => hk.2) (.int .i64 ((rd_T34 t197 x39_1).f0))) (fun _ hk => hk.2) (.int .i64 ((rd_T34 t197 x39_1).f1))) (fun _ hk => hk.2) (.int .i64 ((rd_T34 t197 x39_1).f2))) (fun _ hk => hk.1.2)⟩, ⟨by (with_reducible repeat (first | refine blk_drewN ?_ _ | refine blk_drew ?_ | refine blk_alloc ?_ _)); refine blk_far ?_ NB196_203.out _; (with_reducible repeat (first | refine blk_drewN ?_ _ | refine blk_drew ?_ | refine blk_alloc ?_ _)); refine blk_far ?_ NB196_203.out _; (with_reducible repeat (first | refine blk_drewN ?_ _ | refine blk_drew ?_ | refine blk_alloc ?_ _)); refine blk_far ?_ NB196_203.out _; (with_reducible repeat (first | refine blk_drewN ?_ _ | refine blk_drew ?_ | refine blk_alloc ?_ _)); exact BK196.out⟩, ⟨by (with_reducible repeat (first | refine blk_drewN ?_ _ | refine blk_drew ?_ | refine blk_alloc ?_ _)); refine blk_put (cs := #[.int .i64 ((rd_T34 t197 x39_1).f0), .int .i64 ((rd_T34 t197 x39_1).f1), .int .i64 0]) ?_ 2 _ rfl; (with_reducible repeat (first | refine blk_drewN ?_ _ | refine blk_drew ?_ | refine blk_alloc ?_ _)); refine blk_put (cs := #[.int .i64 ((rd_T34 t197 x39_1).f0), .int .i64 0, .int .i64 0]) ?_ 1 _ rfl; (with_reducible repeat (first | refine blk_drewN ?_ _ | refine blk_drew ?_ | refine blk_alloc ?_ _)); refine blk_put (cs := #[.int .i64 0, .int .i64 0, .int .i64 0]) ?_ 0 _ rfl; (with_reducible repeat (first | refine blk_drewN ?_ _ | refine blk_drew ?_ | refine blk_alloc ?_ _)); exact BK203.out⟩, ⟨bl HB⟩⟩
       case round =>
        clear H'
        try clear c1
        try clear c2
        try clear p2
        try clear q2
        try clear hx2
        try clear c6
        try clear c7
        try clear c7b0
        try clear c7b1
        try clear c12
        try clear c12b0
        try clear c13
        try clear c13b0
        try clear c14
        try clear c14b0
        try clear c16
        try clear hcz17_0
        try clear hcz17_1
        try clear hcz17_2
        try clear hcz9_0
        try clear hcz9_1
        try clear hcz9_2
        try clear hcz9_3
        try clear hcz9_4
        try clear hfz17_0
        try clear hfz17_1
        try clear hfz17_2
        try clear hfz9_0
        try clear hfz9_1
        try clear hfz9_2
        try clear hfz9_3
        try clear hfz9_4
        try clear hx202_0
        try clear hx202_1
        try clear hx202_2
        try clear p2
        try clear p202
        try clear q202
        obtain ⟨x45_2, rfl, HA, HK2, HO_11, HO_37, BK196, BK203, HB⟩ := hrel
        cases gk with
        | zero => exact absurd HA.out (by simp [interchangelaw12_DeskQueuesStayInOrder.l1])
        | succ k2 =>
         have H := HA.out
         clear HA
         simp only [interchangelaw12_DeskQueuesStayInOrder.l1] at H
         by_cases c18 : x45_2 < x39_1
         ·rw [if_pos c18] at H
          have c18b0 : decide (x45_2 < x39_1) = true := decide_eq_true c18
          clear c18
          by_cases c19 : a0_4 = true
          ·subst c19
           have H1 : (if 0 ≤ x45_2 then (if x45_2 < (l1.length : Int) then (if 0 ≤ x39_1 then (if x39_1 < (l1.length : Int) then (if ((rd_T42 l1 x45_2).f0).toList = ((rd_T42 l1 x39_1).f0).toList then (if x45_2 < (t197.length : Int) then (if (mx ((rd_T34 t197 x45_2).f1) ((rd_T34 t197 x45_2).f2)) > (mx ((rd_T34 t197 x39_1).f1) ((rd_T34 t197 x39_1).f2)) then (some false) else (interchangelaw12_DeskQueuesStayInOrder.l1 k2 l1 l2 a3 a4 t197 x39_1 t197 (t197.length : Int) x39_1 x39_1 (wrap64 (x45_2 + 1)) a0_0 a0_1 a0_2 a0_3 true ((rd_T34 t197 x39_1).f0) ((rd_T34 t197 x39_1).f1) ((rd_T34 t197 x39_1).f2))) else (none)) else (interchangelaw12_DeskQueuesStayInOrder.l1 k2 l1 l2 a3 a4 t197 x39_1 t197 (t197.length : Int) x39_1 x39_1 (wrap64 (x45_2 + 1)) a0_0 a0_1 a0_2 a0_3 true ((rd_T34 t197 x39_1).f0) ((rd_T34 t197 x39_1).f1) ((rd_T34 t197 x39_1).f2))) else (none)) else (none)) else (none)) else (none)) = some r := by rw [if_pos rfl] at H; exact H
           clear H
           have H := H1
           clear H1
           by_cases c20 : 0 ≤ x45_2
           ·rw [if_pos c20] at H
            have c20b0 : decide (0 ≤ x45_2) = true := decide_eq_true c20
            clear c20
            by_cases c21 : x45_2 < (l1.length : Int)
            ·rw [if_pos c21] at H
             have c21b0 : decide (x45_2 < (l1.length : Int)) = true := decide_eq_true c21
             clear c21
             by_cases c22 : 0 ≤ x39_1
             ·rw [if_pos c22] at H
              have c22b0 : decide (0 ≤ x39_1) = true := decide_eq_true c22
              clear c22
              by_cases c23 : x39_1 < (l1.length : Int)
              ·rw [if_pos c23] at H
               have c23b0 : decide (x39_1 < (l1.length : Int)) = true := decide_eq_true c23
               clear c23
               by_cases c24 : ((rd_T42 l1 x45_2).f0).toList = ((rd_T42 l1 x39_1).f0).toList
               ·rw [if_pos c24] at H
                have c24b0 : (((rd_T42 l1 x45_2).f0).toList == ((rd_T42 l1 x39_1).f0).toList) = true := beq_iff_eq.mpr c24
                have c24b1 : (((rd_T42 l1 x45_2).f0).toList != ((rd_T42 l1 x39_1).f0).toList) = false := bne_eq_false_iff_eq.mpr c24
                clear c24
                by_cases c25 : x45_2 < (t197.length : Int)
                ·rw [if_pos c25] at H
                 have c25b0 : decide (x45_2 < (t197.length : Int)) = true := decide_eq_true c25
                 clear c25
                 obtain ⟨ji26, hji26⟩ : ∃ j_ : Int, (mx ((rd_T34 t197 x45_2).f1) ((rd_T34 t197 x45_2).f2)) = j_ := ⟨_, rfl⟩
                 replace H : (if (ji26) > (mx ((rd_T34 t197 x39_1).f1) ((rd_T34 t197 x39_1).f2)) then (some false) else (interchangelaw12_DeskQueuesStayInOrder.l1 k2 l1 l2 a3 a4 t197 x39_1 t197 (t197.length : Int) x39_1 x39_1 (wrap64 (x45_2 + 1)) a0_0 a0_1 a0_2 a0_3 true ((rd_T34 t197 x39_1).f0) ((rd_T34 t197 x39_1).f1) ((rd_T34 t197 x39_1).f2))) = some r := by first | (rw [hji26] at H; exact H) | (simp only [hji26] at H ⊢; exact H)
                 have hji26_ : (if ((rd_T34 t197 x45_2).f1) < ((rd_T34 t197 x45_2).f2) then ((rd_T34 t197 x45_2).f2) else ((rd_T34 t197 x45_2).f1)) = ji26 := hji26
                 obtain ⟨ji27, hji27⟩ : ∃ j_ : Int, (mx ((rd_T34 t197 x39_1).f1) ((rd_T34 t197 x39_1).f2)) = j_ := ⟨_, rfl⟩
                 replace H : (if (ji26) > (ji27) then (some false) else (interchangelaw12_DeskQueuesStayInOrder.l1 k2 l1 l2 a3 a4 t197 x39_1 t197 (t197.length : Int) x39_1 x39_1 (wrap64 (x45_2 + 1)) a0_0 a0_1 a0_2 a0_3 true ((rd_T34 t197 x39_1).f0) ((rd_T34 t197 x39_1).f1) ((rd_T34 t197 x39_1).f2))) = some r := by first | (rw [hji27] at H; exact H) | (simp only [hji27] at H ⊢; exact H)
                 have hji27_ : (if ((rd_T34 t197 x39_1).f1) < ((rd_T34 t197 x39_1).f2) then ((rd_T34 t197 x39_1).f2) else ((rd_T34 t197 x39_1).f1)) = ji27 := hji27
                 by_cases c28 : (ji26) > (ji27)
                 ·rw [if_pos c28] at H
                  have c28b0 : decide ((ji27) < (ji26)) = true := decide_eq_true c28
                  clear c28
                  exact absurd ((Option.some.inj H).trans RT.out) Bool.false_ne_true
                 ·rw [if_neg c28] at H
                  have c28b0 : decide ((ji27) < (ji26)) = false := decide_eq_false c28
                  clear c28
                  have H' := Aside0.mk H
                  clear H
                  have hnb29 := NB196_203.out
                  have hnc29 := NB203_196.out
                  have hcz30_0 : wr.cell? ⟨gb196, 0, none⟩ = some (.int .i64 a0_0) := (blk_cell BK196.out 0).trans rfl
                  have hcz30_1 : wr.cell? ⟨gb196, 1, none⟩ = some (.int .i64 a0_1) := (blk_cell BK196.out 1).trans rfl
                  have hcz30_2 : wr.cell? ⟨gb196, 2, none⟩ = some (.int .i64 a0_2) := (blk_cell BK196.out 2).trans rfl
                  have hcz30_3 : wr.cell? ⟨gb196, 3, none⟩ = some (.int .i64 a0_3) := (blk_cell BK196.out 3).trans rfl
                  have hcz30_4 : wr.cell? ⟨gb196, 4, none⟩ = some (.bool true) := (blk_cell BK196.out 4).trans rfl
                  have hfz30_0 := blk_frozen BK196.out 0
                  have hfz30_1 := blk_frozen BK196.out 1
                  have hfz30_2 := blk_frozen BK196.out 2
                  have hfz30_3 := blk_frozen BK196.out 3
                  have hfz30_4 := blk_frozen BK196.out 4
                  have p204 : 0 ≤ (x45_2 : Int) := of_decide_eq_true odt
                  have q204 : x45_2 < (l1.length : Int) := of_decide_eq_true odt
                  obtain ⟨ad204, e204, hx204_0, hx204_1⟩ := at_T42 HR1.out x45_2 p204 q204
                  cases e204
                  replace hx204_0 := (HB.out.cell (World.block_lt_of_cell? w _ hx204_0)).trans hx204_0
                  replace hx204_1 := (HB.out.cell (World.block_lt_of_cell? w _ hx204_1)).trans hx204_1
                  replace p204 := eq_true p204
                  replace q204 := eq_true q204
                  have p205 : 0 ≤ (x39_1 : Int) := of_decide_eq_true odt
                  have q205 : x39_1 < (l1.length : Int) := of_decide_eq_true odt
                  obtain ⟨ad205, e205, hx205_0, hx205_1⟩ := at_T42 HR1.out x39_1 p205 q205
                  obtain rfl : ad204 = ad205 := (by injection e205)
                  replace hx205_0 := (HB.out.cell (World.block_lt_of_cell? w _ hx205_0)).trans hx205_0
                  replace hx205_1 := (HB.out.cell (World.block_lt_of_cell? w _ hx205_1)).trans hx205_1
                  replace p205 := eq_true p205
                  replace q205 := eq_true q205
                  have p206 : 0 ≤ (x45_2 : Int) := of_decide_eq_true odt
                  have q206 : x45_2 < (t197.length : Int) := of_decide_eq_true odt
                  obtain ⟨ad206, e206, hx206_0, hx206_1, hx206_2⟩ := at_T34 (Kd.R_reads' HO_11.out).2.2 x45_2 p206 q206
                  obtain rfl : ad202 = ad206 := (by injection e206)
                  replace p206 := eq_true p206
                  replace q206 := eq_true q206
                  have p207 : 0 ≤ (x45_2 : Int) := of_decide_eq_true odt
                  have q207 : x45_2 < (t197.length : Int) := of_decide_eq_true odt
                  obtain ⟨ad207, e207, hx207_0, hx207_1, hx207_2⟩ := at_T34 (Kd.R_reads' HO_11.out).2.2 x45_2 p207 q207
                  obtain rfl : ad202 = ad207 := (by injection e207)
                  replace p207 := eq_true p207
                  replace q207 := eq_true q207
                  have hcz31_0 : wr.cell? ⟨gb203, 0, none⟩ = some (.int .i64 ((rd_T34 t197 x39_1).f0)) := (blk_cell BK203.out 0).trans rfl
                  have hcz31_1 : wr.cell? ⟨gb203, 1, none⟩ = some (.int .i64 ((rd_T34 t197 x39_1).f1)) := (blk_cell BK203.out 1).trans rfl
                  have hcz31_2 : wr.cell? ⟨gb203, 2, none⟩ = some (.int .i64 ((rd_T34 t197 x39_1).f2)) := (blk_cell BK203.out 2).trans rfl
                  have hfz31_0 := blk_frozen BK203.out 0
                  have hfz31_1 := blk_frozen BK203.out 1
                  have hfz31_2 := blk_frozen BK203.out 2
                  go_wp2
                  repeat (go_quiet (fail); try go_wp2)
                  go_roundg k2
                  case measure => have := HK1.out; have := HK2.out; omega
                  case rel => exact ⟨(wrap64 (x45_2 + 1)), (by first | rfl | (simp; done) | (simp [*]; done)), H', ⟨by have := HK1.out; have := HK2.out; omega⟩, ⟨ra HO_11⟩, ⟨ra HO_37⟩, ⟨bk BK196⟩, ⟨bk BK203⟩, ⟨bl HB⟩⟩
                ·rw [if_neg c25] at H
                 exact absurd H (by simp)
               ·rw [if_neg c24] at H
                have c24b0 : (((rd_T42 l1 x45_2).f0).toList == ((rd_T42 l1 x39_1).f0).toList) = false := beq_eq_false_iff_ne.mpr c24
                have c24b1 : (((rd_T42 l1 x45_2).f0).toList != ((rd_T42 l1 x39_1).f0).toList) = true := bne_iff_ne.mpr c24
                have H' := Aside0.mk H
                clear H
                have hnb32 := NB196_203.out
                have hnc32 := NB203_196.out
                have hcz33_0 : wr.cell? ⟨gb196, 0, none⟩ = some (.int .i64 a0_0) := (blk_cell BK196.out 0).trans rfl
                have hcz33_1 : wr.cell? ⟨gb196, 1, none⟩ = some (.int .i64 a0_1) := (blk_cell BK196.out 1).trans rfl
                have hcz33_2 : wr.cell? ⟨gb196, 2, none⟩ = some (.int .i64 a0_2) := (blk_cell BK196.out 2).trans rfl
                have hcz33_3 : wr.cell? ⟨gb196, 3, none⟩ = some (.int .i64 a0_3) := (blk_cell BK196.out 3).trans rfl
                have hcz33_4 : wr.cell? ⟨gb196, 4, none⟩ = some (.bool true) := (blk_cell BK196.out 4).trans rfl
                have hfz33_0 := blk_frozen BK196.out 0
                have hfz33_1 := blk_frozen BK196.out 1
                have hfz33_2 := blk_frozen BK196.out 2
                have hfz33_3 := blk_frozen BK196.out 3
                have hfz33_4 := blk_frozen BK196.out 4
                have p204 : 0 ≤ (x45_2 : Int) := of_decide_eq_true odt
                have q204 : x45_2 < (l1.length : Int) := of_decide_eq_true odt
                obtain ⟨ad204, e204, hx204_0, hx204_1⟩ := at_T42 HR1.out x45_2 p204 q204
                cases e204
                replace hx204_0 := (HB.out.cell (World.block_lt_of_cell? w _ hx204_0)).trans hx204_0
                replace hx204_1 := (HB.out.cell (World.block_lt_of_cell? w _ hx204_1)).trans hx204_1
                replace p204 := eq_true p204
                replace q204 := eq_true q204
                have p205 : 0 ≤ (x39_1 : Int) := of_decide_eq_true odt
                have q205 : x39_1 < (l1.length : Int) := of_decide_eq_true odt
                obtain ⟨ad205, e205, hx205_0, hx205_1⟩ := at_T42 HR1.out x39_1 p205 q205
                obtain rfl : ad204 = ad205 := (by injection e205)
                replace hx205_0 := (HB.out.cell (World.block_lt_of_cell? w _ hx205_0)).trans hx205_0
                replace hx205_1 := (HB.out.cell (World.block_lt_of_cell? w _ hx205_1)).trans hx205_1
                replace p205 := eq_true p205
                replace q205 := eq_true q205
                go_wp2
                repeat (go_quiet (fail); try go_wp2)
                go_roundg k2
                case measure => have := HK1.out; have := HK2.out; omega
                case rel => exact ⟨(wrap64 (x45_2 + 1)), (by first | rfl | (simp; done) | (simp [*]; done)), H', ⟨by have := HK1.out; have := HK2.out; omega⟩, ⟨ra HO_11⟩, ⟨ra HO_37⟩, ⟨bk BK196⟩, ⟨bk BK203⟩, ⟨bl HB⟩⟩
              ·rw [if_neg c23] at H
               exact absurd H (by simp)
             ·rw [if_neg c22] at H
              exact absurd H (by simp)
            ·rw [if_neg c21] at H
             exact absurd H (by simp)
           ·rw [if_neg c20] at H
            exact absurd H (by simp)
          ·replace c19 := Bool.eq_false_iff.mpr c19
           subst c19
           have H1 : (interchangelaw12_DeskQueuesStayInOrder.l1 k2 l1 l2 a3 a4 t197 x39_1 t197 (t197.length : Int) x39_1 x39_1 (wrap64 (x45_2 + 1)) a0_0 a0_1 a0_2 a0_3 false ((rd_T34 t197 x39_1).f0) ((rd_T34 t197 x39_1).f1) ((rd_T34 t197 x39_1).f2)) = some r := by rw [if_neg (show ¬ (false = true) by decide)] at H; exact H
           clear H
           have H := H1
           clear H1
           have H' := Aside0.mk H
           clear H
           have hnb34 := NB196_203.out
           have hnc34 := NB203_196.out
           have hcz35_0 : wr.cell? ⟨gb196, 0, none⟩ = some (.int .i64 a0_0) := (blk_cell BK196.out 0).trans rfl
           have hcz35_1 : wr.cell? ⟨gb196, 1, none⟩ = some (.int .i64 a0_1) := (blk_cell BK196.out 1).trans rfl
           have hcz35_2 : wr.cell? ⟨gb196, 2, none⟩ = some (.int .i64 a0_2) := (blk_cell BK196.out 2).trans rfl
           have hcz35_3 : wr.cell? ⟨gb196, 3, none⟩ = some (.int .i64 a0_3) := (blk_cell BK196.out 3).trans rfl
           have hcz35_4 : wr.cell? ⟨gb196, 4, none⟩ = some (.bool false) := (blk_cell BK196.out 4).trans rfl
           have hfz35_0 := blk_frozen BK196.out 0
           have hfz35_1 := blk_frozen BK196.out 1
           have hfz35_2 := blk_frozen BK196.out 2
           have hfz35_3 := blk_frozen BK196.out 3
           have hfz35_4 := blk_frozen BK196.out 4
           go_wp2
           repeat (go_quiet (fail); try go_wp2)
           go_roundg k2
           case measure => have := HK1.out; have := HK2.out; omega
           case rel => exact ⟨(wrap64 (x45_2 + 1)), (by first | rfl | (simp; done) | (simp [*]; done)), H', ⟨by have := HK1.out; have := HK2.out; omega⟩, ⟨ra HO_11⟩, ⟨ra HO_37⟩, ⟨bk BK196⟩, ⟨bk BK203⟩, ⟨bl HB⟩⟩
         ·rw [if_neg c18] at H
          have c18b0 : decide (x45_2 < x39_1) = false := decide_eq_false c18
          clear c18
          have H' := Aside0.mk H
          clear H
          go_wp2
          repeat (go_quiet (fail); try go_wp2)
          go_roundg k2
          case measure => have := HK1.out; have := HK2.out; omega
          case rel => exact ⟨(wrap64 (x39_1 + 1)), (by first | rfl | (simp; done) | (simp [*]; done)), H', ⟨by have := HK1.out; have := HK2.out; omega⟩, ⟨by (with_reducible repeat (first | apply Kd.R_alloc | apply Kd.R_drewN | apply Kd.R_drew)); exact Kd.R_mono HO_11.out (fun _ hk => trivial)⟩, ⟨by (with_reducible repeat (first | apply Kd.R_alloc | apply Kd.R_drewN | apply Kd.R_drew)); exact Kd.R_mono HO_37.out (fun _ hk => trivial)⟩, ⟨bk BK196⟩, ⟨bl HB⟩⟩
      ·rw [if_neg c14] at H
       exact absurd H (by simp)
     ·rw [if_neg c13] at H
      exact absurd H (by simp)
    ·rw [if_neg c12] at H
     have c12b0 : decide (x39_1 < (t197.length : Int)) = false := decide_eq_false c12
     clear c12
     replace H := Option.bind_eq_some_iff.mp H
     obtain ⟨⟨t208, t211⟩, A360, H⟩ := H
     replace H : ((desk_PendingAt.f k1 a0_0 a0_1 a0_2 a0_3 a0_4 l1 l2 a4).bind fun bt212 => (if t211 = 0 then (if bt212.2 = 0 then (interchangelaw12_DeskQueuesStayInOrder.j2 k1 a3 a4 t197 t208 bt212.1 (decide (a4 < a3))) else (interchangelaw12_DeskQueuesStayInOrder.j2 k1 a3 a4 t197 t208 bt212.1 true)) else (interchangelaw12_DeskQueuesStayInOrder.j2 k1 a3 a4 t197 t208 bt212.1 true))) = some r := H
     have A36 := Aside0.mk A360
     clear A360
     replace H := Option.bind_eq_some_iff.mp H
     obtain ⟨⟨t212, t215⟩, A370, H⟩ := H
     replace H : (if t211 = 0 then (if t215 = 0 then (interchangelaw12_DeskQueuesStayInOrder.j2 k1 a3 a4 t197 t208 t212 (decide (a4 < a3))) else (interchangelaw12_DeskQueuesStayInOrder.j2 k1 a3 a4 t197 t208 t212 true)) else (interchangelaw12_DeskQueuesStayInOrder.j2 k1 a3 a4 t197 t208 t212 true)) = some r := H
     have A37 := Aside0.mk A370
     clear A370
     have HC38 := Aside0.mk H
     clear H
     have hcz39_0 : wr.cell? ⟨gb196, 0, none⟩ = some (.int .i64 a0_0) := (blk_cell BK196.out 0).trans rfl
     have hcz39_1 : wr.cell? ⟨gb196, 1, none⟩ = some (.int .i64 a0_1) := (blk_cell BK196.out 1).trans rfl
     have hcz39_2 : wr.cell? ⟨gb196, 2, none⟩ = some (.int .i64 a0_2) := (blk_cell BK196.out 2).trans rfl
     have hcz39_3 : wr.cell? ⟨gb196, 3, none⟩ = some (.int .i64 a0_3) := (blk_cell BK196.out 3).trans rfl
     have hcz39_4 : wr.cell? ⟨gb196, 4, none⟩ = some (.bool a0_4) := (blk_cell BK196.out 4).trans rfl
     have hfz39_0 := blk_frozen BK196.out 0
     have hfz39_1 := blk_frozen BK196.out 1
     have hfz39_2 := blk_frozen BK196.out 2
     have hfz39_3 := blk_frozen BK196.out 3
     have hfz39_4 := blk_frozen BK196.out 4
     go_upto_region 16 with (first | (go_at_call 19; (with_reducible refine (desk_PendingAt.calls k1 a0_0 a0_1 a0_2 a0_3 a0_4 _ _ l1 _ _ l2 a3 t208 t211 _ ?side1 ?side2 ?side3 ?side4 A36.out).mono ?_); (case side1 => exact kc HR1 HB); (case side2 => exact HC1.out); (case side3 => exact kc HR2 HB); (case side4 => exact HC2.out); rintro e w40 ⟨v209, rfl, ho0, hb⟩; have n0_ := Aside0.mk (Kd.R_below (ra HO_11) hb); have n1_ := Aside0.mk (Kd.R_below (ra HO_37) hb); have n2_ := Aside0.mk (Kd.R_lower ho0 (below_size (bl HB))); have n3_ := Aside0.mk (blk_below (g := gb196) (o := .cells #[.int .i64 a0_0, .int .i64 a0_1, .int .i64 a0_2, .int .i64 a0_3, .bool a0_4] 23 (0, 0)) (bk BK196) hb); have n4_ := Aside0.mk (below_step (bl HB) hb); clear HO_11; clear HO_37; clear BK196; clear HB; have HO_11 := n0_; have HO_37 := n1_; have HO210 := n2_; have BK196 := n3_; have HB := n4_; clear n0_ n1_ n2_ n3_ n4_; (try clear hb); (try clear hb2); (try clear hk); (try clear hi); (try clear ho0); have hcz41_0 : w40.cell? ⟨gb196, 0, none⟩ = some (.int .i64 a0_0) := (blk_cell BK196.out 0).trans rfl; have hcz41_1 : w40.cell? ⟨gb196, 1, none⟩ = some (.int .i64 a0_1) := (blk_cell BK196.out 1).trans rfl; have hcz41_2 : w40.cell? ⟨gb196, 2, none⟩ = some (.int .i64 a0_2) := (blk_cell BK196.out 2).trans rfl; have hcz41_3 : w40.cell? ⟨gb196, 3, none⟩ = some (.int .i64 a0_3) := (blk_cell BK196.out 3).trans rfl; have hcz41_4 : w40.cell? ⟨gb196, 4, none⟩ = some (.bool a0_4) := (blk_cell BK196.out 4).trans rfl; have hfz41_0 := blk_frozen BK196.out 0; have hfz41_1 := blk_frozen BK196.out 1; have hfz41_2 := blk_frozen BK196.out 2; have hfz41_3 := blk_frozen BK196.out 3; have hfz41_4 := blk_frozen BK196.out 4) | (go_at_call 19; (with_reducible refine (desk_PendingAt.calls k1 a0_0 a0_1 a0_2 a0_3 a0_4 _ _ l1 _ _ l2 a4 t212 t215 _ ?side1 ?side2 ?side3 ?side4 A37.out).mono ?_); (case side1 => exact kc HR1 HB); (case side2 => exact HC1.out); (case side3 => exact kc HR2 HB); (case side4 => exact HC2.out); rintro e w42 ⟨v213, rfl, ho0, hb⟩; have n0_ := Aside0.mk (Kd.R_below (ra HO_11) hb); have n1_ := Aside0.mk (Kd.R_below (ra HO_37) hb); have n2_ := Aside0.mk (Kd.R_elder' (ra HO210) (Kd.R_base ho0) hb); have n3_ := Aside0.mk (Kd.R_lower (Kd.R_new' ho0 (Kd.R_lt (ra HO210))) (below_size (bl HB))); have n4_ := Aside0.mk (blk_below (g := gb196) (o := .cells #[.int .i64 a0_0, .int .i64 a0_1, .int .i64 a0_2, .int .i64 a0_3, .bool a0_4] 23 (0, 0)) (bk BK196) hb); have n5_ := Aside0.mk (below_step (bl HB) hb); clear HO_11; clear HO_37; clear HO210; clear BK196; clear HB; have HO_11 := n0_; have HO_37 := n1_; have HO210 := n2_; have HO214 := n3_; have BK196 := n4_; have HB := n5_; clear n0_ n1_ n2_ n3_ n4_ n5_; (try clear hb); (try clear hb2); (try clear hk); (try clear hi); (try clear ho0)))
     repeat (go_quiet (first | (go_at_call 19; (with_reducible refine (desk_PendingAt.calls k1 a0_0 a0_1 a0_2 a0_3 a0_4 _ _ l1 _ _ l2 a3 t208 t211 _ ?side1 ?side2 ?side3 ?side4 A36.out).mono ?_); (case side1 => exact kc HR1 HB); (case side2 => exact HC1.out); (case side3 => exact kc HR2 HB); (case side4 => exact HC2.out); rintro e w40 ⟨v209, rfl, ho0, hb⟩; have n0_ := Aside0.mk (Kd.R_below (ra HO_11) hb); have n1_ := Aside0.mk (Kd.R_below (ra HO_37) hb); have n2_ := Aside0.mk (Kd.R_lower ho0 (below_size (bl HB))); have n3_ := Aside0.mk (blk_below (g := gb196) (o := .cells #[.int .i64 a0_0, .int .i64 a0_1, .int .i64 a0_2, .int .i64 a0_3, .bool a0_4] 23 (0, 0)) (bk BK196) hb); have n4_ := Aside0.mk (below_step (bl HB) hb); clear HO_11; clear HO_37; clear BK196; clear HB; have HO_11 := n0_; have HO_37 := n1_; have HO210 := n2_; have BK196 := n3_; have HB := n4_; clear n0_ n1_ n2_ n3_ n4_; (try clear hb); (try clear hb2); (try clear hk); (try clear hi); (try clear ho0); have hcz41_0 : w40.cell? ⟨gb196, 0, none⟩ = some (.int .i64 a0_0) := (blk_cell BK196.out 0).trans rfl; have hcz41_1 : w40.cell? ⟨gb196, 1, none⟩ = some (.int .i64 a0_1) := (blk_cell BK196.out 1).trans rfl; have hcz41_2 : w40.cell? ⟨gb196, 2, none⟩ = some (.int .i64 a0_2) := (blk_cell BK196.out 2).trans rfl; have hcz41_3 : w40.cell? ⟨gb196, 3, none⟩ = some (.int .i64 a0_3) := (blk_cell BK196.out 3).trans rfl; have hcz41_4 : w40.cell? ⟨gb196, 4, none⟩ = some (.bool a0_4) := (blk_cell BK196.out 4).trans rfl; have hfz41_0 := blk_frozen BK196.out 0; have hfz41_1 := blk_frozen BK196.out 1; have hfz41_2 := blk_frozen BK196.out 2; have hfz41_3 := blk_frozen BK196.out 3; have hfz41_4 := blk_frozen BK196.out 4) | (go_at_call 19; (with_reducible refine (desk_PendingAt.calls k1 a0_0 a0_1 a0_2 a0_3 a0_4 _ _ l1 _ _ l2 a4 t212 t215 _ ?side1 ?side2 ?side3 ?side4 A37.out).mono ?_); (case side1 => exact kc HR1 HB); (case side2 => exact HC1.out); (case side3 => exact kc HR2 HB); (case side4 => exact HC2.out); rintro e w42 ⟨v213, rfl, ho0, hb⟩; have n0_ := Aside0.mk (Kd.R_below (ra HO_11) hb); have n1_ := Aside0.mk (Kd.R_below (ra HO_37) hb); have n2_ := Aside0.mk (Kd.R_elder' (ra HO210) (Kd.R_base ho0) hb); have n3_ := Aside0.mk (Kd.R_lower (Kd.R_new' ho0 (Kd.R_lt (ra HO210))) (below_size (bl HB))); have n4_ := Aside0.mk (blk_below (g := gb196) (o := .cells #[.int .i64 a0_0, .int .i64 a0_1, .int .i64 a0_2, .int .i64 a0_3, .bool a0_4] 23 (0, 0)) (bk BK196) hb); have n5_ := Aside0.mk (below_step (bl HB) hb); clear HO_11; clear HO_37; clear HO210; clear BK196; clear HB; have HO_11 := n0_; have HO_37 := n1_; have HO210 := n2_; have HO214 := n3_; have BK196 := n4_; have HB := n5_; clear n0_ n1_ n2_ n3_ n4_ n5_; (try clear hb); (try clear hb2); (try clear hk); (try clear hi); (try clear ho0))); go_upto_region 16 with (first | (go_at_call 19; (with_reducible refine (desk_PendingAt.calls k1 a0_0 a0_1 a0_2 a0_3 a0_4 _ _ l1 _ _ l2 a3 t208 t211 _ ?side1 ?side2 ?side3 ?side4 A36.out).mono ?_); (case side1 => exact kc HR1 HB); (case side2 => exact HC1.out); (case side3 => exact kc HR2 HB); (case side4 => exact HC2.out); rintro e w40 ⟨v209, rfl, ho0, hb⟩; have n0_ := Aside0.mk (Kd.R_below (ra HO_11) hb); have n1_ := Aside0.mk (Kd.R_below (ra HO_37) hb); have n2_ := Aside0.mk (Kd.R_lower ho0 (below_size (bl HB))); have n3_ := Aside0.mk (blk_below (g := gb196) (o := .cells #[.int .i64 a0_0, .int .i64 a0_1, .int .i64 a0_2, .int .i64 a0_3, .bool a0_4] 23 (0, 0)) (bk BK196) hb); have n4_ := Aside0.mk (below_step (bl HB) hb); clear HO_11; clear HO_37; clear BK196; clear HB; have HO_11 := n0_; have HO_37 := n1_; have HO210 := n2_; have BK196 := n3_; have HB := n4_; clear n0_ n1_ n2_ n3_ n4_; (try clear hb); (try clear hb2); (try clear hk); (try clear hi); (try clear ho0); have hcz41_0 : w40.cell? ⟨gb196, 0, none⟩ = some (.int .i64 a0_0) := (blk_cell BK196.out 0).trans rfl; have hcz41_1 : w40.cell? ⟨gb196, 1, none⟩ = some (.int .i64 a0_1) := (blk_cell BK196.out 1).trans rfl; have hcz41_2 : w40.cell? ⟨gb196, 2, none⟩ = some (.int .i64 a0_2) := (blk_cell BK196.out 2).trans rfl; have hcz41_3 : w40.cell? ⟨gb196, 3, none⟩ = some (.int .i64 a0_3) := (blk_cell BK196.out 3).trans rfl; have hcz41_4 : w40.cell? ⟨gb196, 4, none⟩ = some (.bool a0_4) := (blk_cell BK196.out 4).trans rfl; have hfz41_0 := blk_frozen BK196.out 0; have hfz41_1 := blk_frozen BK196.out 1; have hfz41_2 := blk_frozen BK196.out 2; have hfz41_3 := blk_frozen BK196.out 3; have hfz41_4 := blk_frozen BK196.out 4) | (go_at_call 19; (with_reducible refine (desk_PendingAt.calls k1 a0_0 a0_1 a0_2 a0_3 a0_4 _ _ l1 _ _ l2 a4 t212 t215 _ ?side1 ?side2 ?side3 ?side4 A37.out).mono ?_); (case side1 => exact kc HR1 HB); (case side2 => exact HC1.out); (case side3 => exact kc HR2 HB); (case side4 => exact HC2.out); rintro e w42 ⟨v213, rfl, ho0, hb⟩; have n0_ := Aside0.mk (Kd.R_below (ra HO_11) hb); have n1_ := Aside0.mk (Kd.R_below (ra HO_37) hb); have n2_ := Aside0.mk (Kd.R_elder' (ra HO210) (Kd.R_base ho0) hb); have n3_ := Aside0.mk (Kd.R_lower (Kd.R_new' ho0 (Kd.R_lt (ra HO210))) (below_size (bl HB))); have n4_ := Aside0.mk (blk_below (g := gb196) (o := .cells #[.int .i64 a0_0, .int .i64 a0_1, .int .i64 a0_2, .int .i64 a0_3, .bool a0_4] 23 (0, 0)) (bk BK196) hb); have n5_ := Aside0.mk (below_step (bl HB) hb); clear HO_11; clear HO_37; clear HO210; clear BK196; clear HB; have HO_11 := n0_; have HO_37 := n1_; have HO210 := n2_; have HO214 := n3_; have BK196 := n4_; have HB := n5_; clear n0_ n1_ n2_ n3_ n4_ n5_; (try clear hb); (try clear hb2); (try clear hk); (try clear hi); (try clear ho0))))
     (try simp only [Act.put, List.setIfInBounds_toArray, List.set_cons_zero, List.set_cons_succ])
     go_cut [110] (fun v110 wc => ∃ (kq : Nat) (x110_37 : Bool), v110 = .bool x110_37 ∧ Aside0 (interchangelaw12_DeskQueuesStayInOrder.j2 kq a3 a4 t197 t208 t212 x110_37 = some r) ∧ Aside0 (kq ≤ k1) ∧ Aside0 (Kd.R k34 34 wc w.heap.size (fun _ => True) (.slice Ao11 t197.length co11) t197) ∧ Aside0 (Kd.R (Kd.int .i64) 3 wc w.heap.size (fun k_ => some k_ ≠ (v213 : Value).ownBlock) v209 t208) ∧ Aside0 (Kd.R (Kd.int .i64) 3 wc w.heap.size (fun k_ => some k_ ≠ (v209 : Value).ownBlock) v213 t212) ∧ Aside0 (wc.heap[gb196]? = some (.cells #[.int .i64 a0_0, .int .i64 a0_1, .int .i64 a0_2, .int .i64 a0_3, .bool a0_4] 23 (0, 0))) ∧ Aside0 (Below w.heap.size w wc))
     case first =>
      have H := HC38.out
      clear HC38
      by_cases c43 : t211 = 0
      ·rw [if_pos c43] at H
       have c43b0 : (t211 == 0) = true := beq_iff_eq.mpr c43
       have c43b1 : (t211 != 0) = false := bne_eq_false_iff_eq.mpr c43
       clear c43
       (first | rw [c43b0] | (simp only [i64_w, i32_w]; rw [c43b0]) | skip)
       by_cases c44 : t215 = 0
       ·rw [if_pos c44] at H
        have c44b0 : (t215 == 0) = true := beq_iff_eq.mpr c44
        have c44b1 : (t215 != 0) = false := bne_eq_false_iff_eq.mpr c44
        clear c44
        have H' := Aside0.mk H
        clear H
        go_wp2
        repeat (go_quiet (fail); try go_wp2)
        go_meet
        case rel => exact ⟨_, (decide (a4 < a3)), (by first | rfl | (simp; done) | (simp [*]; done)), H', ⟨by have := HK1.out; first | omega | exact Nat.le_refl _⟩, ⟨ra HO_11⟩, ⟨by (with_reducible repeat (first | apply Kd.R_alloc | apply Kd.R_drewN | apply Kd.R_drew)); exact Kd.R_mono HO210.out (fun _ hk => hk.2)⟩, ⟨by (with_reducible repeat (first | apply Kd.R_alloc | apply Kd.R_drewN | apply Kd.R_drew)); exact Kd.R_mono HO214.out (fun _ hk => hk.2)⟩, ⟨bk BK196⟩, ⟨bl HB⟩⟩
       ·rw [if_neg c44] at H
        have c44b0 : (t215 == 0) = false := beq_eq_false_iff_ne.mpr c44
        have c44b1 : (t215 != 0) = true := bne_iff_ne.mpr c44
        have H' := Aside0.mk H
        clear H
        go_wp2
        repeat (go_quiet (fail); try go_wp2)
        go_meet
        case rel => exact ⟨_, (true), (by first | rfl | (simp; done) | (simp [*]; done)), H', ⟨by have := HK1.out; first | omega | exact Nat.le_refl _⟩, ⟨ra HO_11⟩, ⟨by (with_reducible repeat (first | apply Kd.R_alloc | apply Kd.R_drewN | apply Kd.R_drew)); exact Kd.R_mono HO210.out (fun _ hk => hk.2)⟩, ⟨by (with_reducible repeat (first | apply Kd.R_alloc | apply Kd.R_drewN | apply Kd.R_drew)); exact Kd.R_mono HO214.out (fun _ hk => hk.2)⟩, ⟨bk BK196⟩, ⟨bl HB⟩⟩
      ·rw [if_neg c43] at H
       have c43b0 : (t211 == 0) = false := beq_eq_false_iff_ne.mpr c43
       have c43b1 : (t211 != 0) = true := bne_iff_ne.mpr c43
       (first | rw [c43b0] | (simp only [i64_w, i32_w]; rw [c43b0]) | skip)
       have H' := Aside0.mk H
       clear H
       go_wp2
       repeat (go_quiet (fail); try go_wp2)
       go_meet
       case rel => exact ⟨_, (true), (by first | rfl | (simp; done) | (simp [*]; done)), H', ⟨by have := HK1.out; first | omega | exact Nat.le_refl _⟩, ⟨ra HO_11⟩, ⟨by (with_reducible repeat (first | apply Kd.R_alloc | apply Kd.R_drewN | apply Kd.R_drew)); exact Kd.R_mono HO210.out (fun _ hk => hk.2)⟩, ⟨by (with_reducible repeat (first | apply Kd.R_alloc | apply Kd.R_drewN | apply Kd.R_drew)); exact Kd.R_mono HO214.out (fun _ hk => hk.2)⟩, ⟨bk BK196⟩, ⟨bl HB⟩⟩
     case rest =>
      clear HC38
      try clear c1
      try clear c2
      try clear p2
      try clear q2
      try clear hx2
      try clear c3
      try clear c4
      try clear c6
      try clear p6
      try clear c7
      try clear c7b0
      try clear c7b1
      try clear c12
      try clear c12b0
      try clear c13
      try clear c13b0
      try clear c14
      try clear c14b0
      try clear c16
      try clear c18
      try clear c18b0
      try clear c19
      try clear c20
      try clear c20b0
      try clear p20
      try clear q20
      try clear hx20
      try clear c21
      try clear c21b0
      try clear c22
      try clear c22b0
      try clear c23
      try clear c23b0
      try clear c24
      try clear c24b0
      try clear c24b1
      try clear c25
      try clear c25b0
      try clear c28
      try clear c28b0
      try clear c29
      try clear c32
      try clear c34
      try clear c43
      try clear c43b0
      try clear c43b1
      try clear c44
      try clear c44b0
      try clear c44b1
      try clear hcz17_0
      try clear hcz17_1
      try clear hcz17_2
      try clear hcz30_0
      try clear hcz30_1
      try clear hcz30_2
      try clear hcz30_3
      try clear hcz30_4
      try clear hcz31_0
      try clear hcz31_1
      try clear hcz31_2
      try clear hcz33_0
      try clear hcz33_1
      try clear hcz33_2
      try clear hcz33_3
      try clear hcz33_4
      try clear hcz35_0
      try clear hcz35_1
      try clear hcz35_2
      try clear hcz35_3
      try clear hcz35_4
      try clear hcz39_0
      try clear hcz39_1
      try clear hcz39_2
      try clear hcz39_3
      try clear hcz39_4
      try clear hcz41_0
      try clear hcz41_1
      try clear hcz41_2
      try clear hcz41_3
      try clear hcz41_4
      try clear hcz9_0
      try clear hcz9_1
      try clear hcz9_2
      try clear hcz9_3
      try clear hcz9_4
      try clear hfz17_0
      try clear hfz17_1
      try clear hfz17_2
      try clear hfz30_0
      try clear hfz30_1
      try clear hfz30_2
      try clear hfz30_3
      try clear hfz30_4
      try clear hfz31_0
      try clear hfz31_1
      try clear hfz31_2
      try clear hfz33_0
      try clear hfz33_1
      try clear hfz33_2
      try clear hfz33_3
      try clear hfz33_4
      try clear hfz35_0
      try clear hfz35_1
      try clear hfz35_2
      try clear hfz35_3
      try clear hfz35_4
      try clear hfz39_0
      try clear hfz39_1
      try clear hfz39_2
      try clear hfz39_3
      try clear hfz39_4
      try clear hfz41_0
      try clear hfz41_1
      try clear hfz41_2
      try clear hfz41_3
      try clear hfz41_4
      try clear hfz9_0
      try clear hfz9_1
      try clear hfz9_2
      try clear hfz9_3
      try clear hfz9_4
      try clear hx202_0
      try clear hx202_1
      try clear hx202_2
      try clear hx204_0
      try clear hx204_1
      try clear hx205_0
      try clear hx205_1
      try clear hx206_0
      try clear hx206_1
      try clear hx206_2
      try clear hx207_0
      try clear hx207_1
      try clear hx207_2
      try clear p2
      try clear p202
      try clear p204
      try clear p205
      try clear p206
      try clear p207
      try clear q2
      try clear q202
      try clear q204
      try clear q205
      try clear q206
      try clear q207
      obtain ⟨kq, x110_37, rfl, HA, HJ37, HO_11, HO_16, HO_17, BK196, HB⟩ := hcut
      cases kq with
      | zero => exact absurd HA.out (by simp [interchangelaw12_DeskQueuesStayInOrder.j2])
      | succ kj37 =>
       have H := HA.out
       clear HA
       simp only [interchangelaw12_DeskQueuesStayInOrder.j2] at H
       by_cases c45 : x110_37 = true
       ·subst c45
        have H1 : ((interchangelaw12_works.f kj37).bind fun t216 => (some t216)) = some r := by rw [if_pos rfl] at H; exact H
        clear H
        have H := H1
        clear H1
        replace H := Option.bind_eq_some_iff.mp H
        obtain ⟨t216, A460, H⟩ := H
        replace H : (some t216) = some r := H
        have A46 := Aside0.mk A460
        clear A460
        obtain rfl := Option.some.inj H
        go_wp2_with (first | (go_at_call 14; (with_reducible refine (interchangelaw12_works.calls kj37  t216 _ A46.out).mono ?_); rintro e w47 ⟨rfl, hb⟩; have n0_ := Aside0.mk (Kd.R_below (ra HO_11) hb); have n1_ := Aside0.mk (Kd.R_below (ra HO_16) hb); have n2_ := Aside0.mk (Kd.R_below (ra HO_17) hb); have n3_ := Aside0.mk (blk_below (g := gb196) (o := .cells #[.int .i64 a0_0, .int .i64 a0_1, .int .i64 a0_2, .int .i64 a0_3, .bool a0_4] 23 (0, 0)) (bk BK196) hb); have n4_ := Aside0.mk (below_step (bl HB) hb); clear HO_11; clear HO_16; clear HO_17; clear BK196; clear HB; have HO_11 := n0_; have HO_16 := n1_; have HO_17 := n2_; have BK196 := n3_; have HB := n4_; clear n0_ n1_ n2_ n3_ n4_; (try clear hb); (try clear hb2); (try clear hk); (try clear hi)))
        repeat (go_quiet (first | (go_at_call 14; (with_reducible refine (interchangelaw12_works.calls kj37  t216 _ A46.out).mono ?_); rintro e w47 ⟨rfl, hb⟩; have n0_ := Aside0.mk (Kd.R_below (ra HO_11) hb); have n1_ := Aside0.mk (Kd.R_below (ra HO_16) hb); have n2_ := Aside0.mk (Kd.R_below (ra HO_17) hb); have n3_ := Aside0.mk (blk_below (g := gb196) (o := .cells #[.int .i64 a0_0, .int .i64 a0_1, .int .i64 a0_2, .int .i64 a0_3, .bool a0_4] 23 (0, 0)) (bk BK196) hb); have n4_ := Aside0.mk (below_step (bl HB) hb); clear HO_11; clear HO_16; clear HO_17; clear BK196; clear HB; have HO_11 := n0_; have HO_16 := n1_; have HO_17 := n2_; have BK196 := n3_; have HB := n4_; clear n0_ n1_ n2_ n3_ n4_; (try clear hb); (try clear hb2); (try clear hk); (try clear hi))); try go_wp2_with (first | (go_at_call 14; (with_reducible refine (interchangelaw12_works.calls kj37  t216 _ A46.out).mono ?_); rintro e w47 ⟨rfl, hb⟩; have n0_ := Aside0.mk (Kd.R_below (ra HO_11) hb); have n1_ := Aside0.mk (Kd.R_below (ra HO_16) hb); have n2_ := Aside0.mk (Kd.R_below (ra HO_17) hb); have n3_ := Aside0.mk (blk_below (g := gb196) (o := .cells #[.int .i64 a0_0, .int .i64 a0_1, .int .i64 a0_2, .int .i64 a0_3, .bool a0_4] 23 (0, 0)) (bk BK196) hb); have n4_ := Aside0.mk (below_step (bl HB) hb); clear HO_11; clear HO_16; clear HO_17; clear BK196; clear HB; have HO_11 := n0_; have HO_16 := n1_; have HO_17 := n2_; have BK196 := n3_; have HB := n4_; clear n0_ n1_ n2_ n3_ n4_; (try clear hb); (try clear hb2); (try clear hk); (try clear hi))))
        go_ret
        exact ⟨er, bl HB⟩
       ·replace c45 := Bool.eq_false_iff.mpr c45
        subst c45
        have H1 : (interchangelaw12_DeskQueuesStayInOrder.l2 kj37 a3 a4 t197 t212 t208 (t208.length : Int) 0) = some r := by rw [if_neg (show ¬ (false = true) by decide)] at H; exact H
        clear H
        have H := H1
        clear H1
        have H' := Aside0.mk H
        clear H
        obtain ⟨Ao48, co48, eo48⟩ := Kd.R_slice HO_16.out
        subst eo48
        go_wp2
        repeat (go_quiet (fail); try go_wp2)
        go_loopg [114] kj37 (fun kq v114 w' => ∃ (x114_3 : Int), v114 = .int .i64 x114_3 ∧ Aside0 (interchangelaw12_DeskQueuesStayInOrder.l2 kq a3 a4 t197 t212 t208 (t208.length : Int) x114_3 = some r) ∧ Aside0 (kq ≤ kj37) ∧ Aside0 (Kd.R k34 34 w' w.heap.size (fun _ => True) (.slice Ao11 t197.length co11) t197) ∧ Aside0 (Kd.R (Kd.int .i64) 3 w' w.heap.size (fun k_ => some k_ ≠ ((.slice Ao48 t208.length co48) : Value).ownBlock) v213 t212) ∧ Aside0 (Kd.R (Kd.int .i64) 3 w' w.heap.size (fun k_ => some k_ ≠ (v213 : Value).ownBlock) (.slice Ao48 t208.length co48) t208) ∧ Aside0 (w'.heap[gb196]? = some (.cells #[.int .i64 a0_0, .int .i64 a0_1, .int .i64 a0_2, .int .i64 a0_3, .bool a0_4] 23 (0, 0))) ∧ Aside0 (Below w.heap.size w w'))
        case atStart => exact ⟨(0), (by first | rfl | (simp; done) | (simp [*]; done)), H', ⟨Nat.le_refl _⟩, ⟨ra HO_11⟩, ⟨ra HO_17⟩, ⟨ra HO_16⟩, ⟨bk BK196⟩, ⟨bl HB⟩⟩
        case round =>
         clear H'
         try clear c1
         try clear c2
         try clear p2
         try clear q2
         try clear hx2
         try clear c3
         try clear c4
         try clear c6
         try clear p6
         try clear c7
         try clear c7b0
         try clear c7b1
         try clear c12
         try clear c12b0
         try clear c13
         try clear c13b0
         try clear c14
         try clear c14b0
         try clear c16
         try clear c18
         try clear c18b0
         try clear c19
         try clear c20
         try clear c20b0
         try clear p20
         try clear q20
         try clear hx20
         try clear c21
         try clear c21b0
         try clear c22
         try clear c22b0
         try clear c23
         try clear c23b0
         try clear c24
         try clear c24b0
         try clear c24b1
         try clear c25
         try clear c25b0
         try clear c28
         try clear c28b0
         try clear c29
         try clear c32
         try clear c34
         try clear c43
         try clear c43b0
         try clear c43b1
         try clear c44
         try clear c44b0
         try clear c44b1
         try clear c45
         try clear hcz17_0
         try clear hcz17_1
         try clear hcz17_2
         try clear hcz30_0
         try clear hcz30_1
         try clear hcz30_2
         try clear hcz30_3
         try clear hcz30_4
         try clear hcz31_0
         try clear hcz31_1
         try clear hcz31_2
         try clear hcz33_0
         try clear hcz33_1
         try clear hcz33_2
         try clear hcz33_3
         try clear hcz33_4
         try clear hcz35_0
         try clear hcz35_1
         try clear hcz35_2
         try clear hcz35_3
         try clear hcz35_4
         try clear hcz39_0
         try clear hcz39_1
         try clear hcz39_2
         try clear hcz39_3
         try clear hcz39_4
         try clear hcz41_0
         try clear hcz41_1
         try clear hcz41_2
         try clear hcz41_3
         try clear hcz41_4
         try clear hcz9_0
         try clear hcz9_1
         try clear hcz9_2
         try clear hcz9_3
         try clear hcz9_4
         try clear hfz17_0
         try clear hfz17_1
         try clear hfz17_2
         try clear hfz30_0
         try clear hfz30_1
         try clear hfz30_2
         try clear hfz30_3
         try clear hfz30_4
         try clear hfz31_0
         try clear hfz31_1
         try clear hfz31_2
         try clear hfz33_0
         try clear hfz33_1
         try clear hfz33_2
         try clear hfz33_3
         try clear hfz33_4
         try clear hfz35_0
         try clear hfz35_1
         try clear hfz35_2
         try clear hfz35_3
         try clear hfz35_4
         try clear hfz39_0
         try clear hfz39_1
         try clear hfz39_2
         try clear hfz39_3
         try clear hfz39_4
         try clear hfz41_0
         try clear hfz41_1
         try clear hfz41_2
         try clear hfz41_3
         try clear hfz41_4
         try clear hfz9_0
         try clear hfz9_1
         try clear hfz9_2
         try clear hfz9_3
         try clear hfz9_4
         try clear hx202_0
         try clear hx202_1
         try clear hx202_2
         try clear hx204_0
         try clear hx204_1
         try clear hx205_0
         try clear hx205_1
         try clear hx206_0
         try clear hx206_1
         try clear hx206_2
         try clear hx207_0
         try clear hx207_1
         try clear hx207_2
         try clear p2
         try clear p20
         try clear p202
         try clear p204
         try clear p205
         try clear p206
         try clear p207
         try clear p6
         try clear q2
         try clear q20
         try clear q202
         try clear q204
         try clear q205
         try clear q206
         try clear q207
         obtain ⟨x114_3, rfl, HA, HK3, HO_11, HO_17, HO_112, BK196, HB⟩ := hrel
         cases gk with
         | zero => exact absurd HA.out (by simp [interchangelaw12_DeskQueuesStayInOrder.l2])
         | succ k3 =>
          have H := HA.out
          clear HA
          simp only [interchangelaw12_DeskQueuesStayInOrder.l2] at H
          by_cases c49 : x114_3 < (t208.length : Int)
          ·rw [if_pos c49] at H
           have c49b0 : decide (x114_3 < (t208.length : Int)) = true := decide_eq_true c49
           clear c49
           by_cases c50 : 0 ≤ x114_3
           ·rw [if_pos c50] at H
            have c50b0 : decide (0 ≤ x114_3) = true := decide_eq_true c50
            clear c50
            by_cases c51 : x114_3 < (t208.length : Int)
            ·rw [if_pos c51] at H
             have c51b0 : decide (x114_3 < (t208.length : Int)) = true := decide_eq_true c51
             clear c51
             have HC52 := Aside0.mk H
             clear H
             have p218 : 0 ≤ (x114_3 : Int) := of_decide_eq_true odt
             have q218 : x114_3 < (t208.length : Int) := of_decide_eq_true odt
             obtain ⟨ad218, e218, hx218_0⟩ := Kd.at_int (Kd.R_reads' HO_112.out).2.2 x114_3 p218 q218
             cases e218
             replace p218 := eq_true p218
             replace q218 := eq_true q218
             go_upto_region 21 with (fail)
             repeat (go_quiet (fail); go_upto_region 21 with (fail))
             go_cut [125] (fun v125 wc => ∃ (kq : Nat) (x125_51 : Bool), v125 = .bool x125_51 ∧ Aside0 (interchangelaw12_DeskQueuesStayInOrder.j4 kq a3 a4 t197 t212 (rd t208 x114_3) t208 (t208.length : Int) x114_3 x125_51 = some r) ∧ Aside0 (kq ≤ k3) ∧ Aside0 (Kd.R k34 34 wc w.heap.size (fun _ => True) (.slice Ao11 t197.length co11) t197) ∧ Aside0 (Kd.R (Kd.int .i64) 3 wc w.heap.size (fun k_ => some k_ ≠ ((.slice (some ad218) t208.length co48) : Value).ownBlock) v213 t212) ∧ Aside0 (Kd.R (Kd.int .i64) 3 wc w.heap.size (fun k_ => some k_ ≠ (v213 : Value).ownBlock) (.slice (some ad218) t208.length co48) t208) ∧ Aside0 (wc.heap[gb196]? = some (.cells #[.int .i64 a0_0, .int .i64 a0_1, .int .i64 a0_2, .int .i64 a0_3, .bool a0_4] 23 (0, 0))) ∧ Aside0 (Below w.heap.size w wc))
             case first =>
              have H := HC52.out
              clear HC52
              by_cases c53 : (rd t208 x114_3) < 0
              ·rw [if_pos c53] at H
               have c53b0 : decide ((rd t208 x114_3) < 0) = true := decide_eq_true c53
               clear c53
               (first | rw [c53b0] | (simp only [i64_w, i32_w]; rw [c53b0]) | skip)
               cases k3 with
               | zero => exact absurd H (by simp [interchangelaw12_DeskQueuesStayInOrder.j4])
               | succ kz_ => exact absurd ((Option.some.inj (show some false = some r from by simpa [interchangelaw12_DeskQueuesStayInOrder.j4] using H)).trans RT.out) Bool.false_ne_true
              ·rw [if_neg c53] at H
               have c53b0 : decide ((rd t208 x114_3) < 0) = false := decide_eq_false c53
               clear c53
               (first | rw [c53b0] | (simp only [i64_w, i32_w]; rw [c53b0]) | skip)
               have H' := Aside0.mk H
               clear H
               go_wp2
               repeat (go_quiet (fail); try go_wp2)
               go_meet
               case rel => exact ⟨_, (decide ((rd t208 x114_3) ≥ (t197.length : Int))), (by first | rfl | (simp; done) | (simp [*]; done)), H', ⟨by have := HK1.out; have := HJ37.out; have := HK3.out; first | omega | exact Nat.le_refl _⟩, ⟨ra HO_11⟩, ⟨ra HO_17⟩, ⟨ra HO_112⟩, ⟨bk BK196⟩, ⟨bl HB⟩⟩
             case rest =>
              clear HC52
              try clear c1
              try clear c2
              try clear p2
              try clear q2
              try clear hx2
              try clear c3
              try clear c4
              try clear c5
              try clear c6
              try clear p6
              try clear c7
              try clear c7b0
              try clear c7b1
              try clear c12
              try clear c12b0
              try clear c13
              try clear c13b0
              try clear c14
              try clear c14b0
              try clear c16
              try clear c18
              try clear c18b0
              try clear c19
              try clear c20
              try clear c20b0
              try clear p20
              try clear q20
              try clear hx20
              try clear c21
              try clear c21b0
              try clear p21
              try clear q21
              try clear hx21
              try clear c22
              try clear c22b0
              try clear c23
              try clear c23b0
              try clear c24
              try clear c24b0
              try clear c24b1
              try clear c25
              try clear c25b0
              try clear c28
              try clear c28b0
              try clear c29
              try clear c32
              try clear c34
              try clear c43
              try clear c43b0
              try clear c43b1
              try clear c44
              try clear c44b0
              try clear c44b1
              try clear c45
              try clear c49
              try clear c49b0
              try clear c50
              try clear c50b0
              try clear c51
              try clear c51b0
              try clear c53
              try clear c53b0
              try clear hcz17_0
              try clear hcz17_1
              try clear hcz17_2
              try clear hcz30_0
              try clear hcz30_1
              try clear hcz30_2
              try clear hcz30_3
              try clear hcz30_4
              try clear hcz31_0
              try clear hcz31_1
              try clear hcz31_2
              try clear hcz33_0
              try clear hcz33_1
              try clear hcz33_2
              try clear hcz33_3
              try clear hcz33_4
              try clear hcz35_0
              try clear hcz35_1
              try clear hcz35_2
              try clear hcz35_3
              try clear hcz35_4
              try clear hcz39_0
              try clear hcz39_1
              try clear hcz39_2
              try clear hcz39_3
              try clear hcz39_4
              try clear hcz41_0
              try clear hcz41_1
              try clear hcz41_2
              try clear hcz41_3
              try clear hcz41_4
              try clear hcz9_0
              try clear hcz9_1
              try clear hcz9_2
              try clear hcz9_3
              try clear hcz9_4
              try clear hfz17_0
              try clear hfz17_1
              try clear hfz17_2
              try clear hfz30_0
              try clear hfz30_1
              try clear hfz30_2
              try clear hfz30_3
              try clear hfz30_4
              try clear hfz31_0
              try clear hfz31_1
              try clear hfz31_2
              try clear hfz33_0
              try clear hfz33_1
              try clear hfz33_2
              try clear hfz33_3
              try clear hfz33_4
              try clear hfz35_0
              try clear hfz35_1
              try clear hfz35_2
              try clear hfz35_3
              try clear hfz35_4
              try clear hfz39_0
              try clear hfz39_1
              try clear hfz39_2
              try clear hfz39_3
              try clear hfz39_4
              try clear hfz41_0
              try clear hfz41_1
              try clear hfz41_2
              try clear hfz41_3
              try clear hfz41_4
              try clear hfz9_0
              try clear hfz9_1
              try clear hfz9_2
              try clear hfz9_3
              try clear hfz9_4
              try clear hx202_0
              try clear hx202_1
              try clear hx202_2
              try clear hx204_0
              try clear hx204_1
              try clear hx205_0
              try clear hx205_1
              try clear hx206_0
              try clear hx206_1
              try clear hx206_2
              try clear hx207_0
              try clear hx207_1
              try clear hx207_2
              try clear hx218_0
              try clear p2
              try clear p20
              try clear p202
              try clear p204
              try clear p205
              try clear p206
              try clear p207
              try clear p218
              try clear p6
              try clear q2
              try clear q20
              try clear q202
              try clear q204
              try clear q205
              try clear q206
              try clear q207
              try clear q218
              obtain ⟨kq, x125_51, rfl, HA, HJ51, HO_11, HO_17, HO_112, BK196, HB⟩ := hcut
              cases kq with
              | zero => exact absurd HA.out (by simp [interchangelaw12_DeskQueuesStayInOrder.j4])
              | succ kj51 =>
               have H := HA.out
               clear HA
               simp only [interchangelaw12_DeskQueuesStayInOrder.j4] at H
               by_cases c54 : x125_51 = true
               ·subst c54
                have H1 : (some false) = some r := by rw [if_pos rfl] at H; exact H
                clear H
                have H := H1
                clear H1
                exact absurd ((Option.some.inj H).trans RT.out) Bool.false_ne_true
               ·replace c54 := Bool.eq_false_iff.mpr c54
                subst c54
                have H1 : (if 0 ≤ (rd t208 x114_3) then (if (rd t208 x114_3) < (t197.length : Int) then ((slices_Contains__int_int.f kj51 t212 (rd t208 x114_3)).bind fun t221 => (if (t221 != (decide ((mx ((rd_T34 t197 (rd t208 x114_3)).f1) ((rd_T34 t197 (rd t208 x114_3)).f2)) > a4))) = true then (some false) else (if (mx ((rd_T34 t197 (rd t208 x114_3)).f1) ((rd_T34 t197 (rd t208 x114_3)).f2)) ≤ a3 then (some false) else (interchangelaw12_DeskQueuesStayInOrder.l2 kj51 a3 a4 t197 t212 t208 (t208.length : Int) (wrap64 (x114_3 + 1)))))) else (none)) else (none)) = some r := by rw [if_neg (show ¬ (false = true) by decide)] at H; exact H
                clear H
                have H := H1
                clear H1
                by_cases c55 : 0 ≤ (rd t208 x114_3)
                ·rw [if_pos c55] at H
                 have c55b0 : decide (0 ≤ (rd t208 x114_3)) = true := decide_eq_true c55
                 clear c55
                 by_cases c56 : (rd t208 x114_3) < (t197.length : Int)
                 ·rw [if_pos c56] at H
                  have c56b0 : decide ((rd t208 x114_3) < (t197.length : Int)) = true := decide_eq_true c56
                  clear c56
                  obtain ⟨ji57, hji57⟩ : ∃ j_ : Int, (mx ((rd_T34 t197 (rd t208 x114_3)).f1) ((rd_T34 t197 (rd t208 x114_3)).f2)) = j_ := ⟨_, rfl⟩
                  replace H : ((slices_Contains__int_int.f kj51 t212 (rd t208 x114_3)).bind fun t221 => (if (t221 != (decide ((ji57) > a4))) = true then (some false) else (if (ji57) ≤ a3 then (some false) else (interchangelaw12_DeskQueuesStayInOrder.l2 kj51 a3 a4 t197 t212 t208 (t208.length : Int) (wrap64 (x114_3 + 1)))))) = some r := by first | (rw [hji57] at H; exact H) | (simp only [hji57] at H ⊢; exact H)
                  have hji57_ : (if ((rd_T34 t197 (rd t208 x114_3)).f1) < ((rd_T34 t197 (rd t208 x114_3)).f2) then ((rd_T34 t197 (rd t208 x114_3)).f2) else ((rd_T34 t197 (rd t208 x114_3)).f1)) = ji57 := hji57
                  replace H := Option.bind_eq_some_iff.mp H
                  obtain ⟨t221, A580, H⟩ := H
                  replace H : (if (t221 != (decide ((ji57) > a4))) = true then (some false) else (if (ji57) ≤ a3 then (some false) else (interchangelaw12_DeskQueuesStayInOrder.l2 kj51 a3 a4 t197 t212 t208 (t208.length : Int) (wrap64 (x114_3 + 1))))) = some r := H
                  have A58 := Aside0.mk A580
                  clear A580
                  by_cases c59 : (t221 != (decide ((ji57) > a4))) = true
                  ·rw [if_pos c59] at H
                   have c59b0 : (t221 != (decide ((ji57) > a4))) = true := c59
                   (try (have c59b1 : decide (t221 = (decide ((ji57) > a4))) = false := by simpa using c59))
                   (try (have c59b2 : (t221 == (decide ((ji57) > a4))) = false := by simpa using c59))
                   (try (have c59b3 : ¬ (t221 = (decide ((ji57) > a4))) := by simpa using c59))
                   clear c59
                   exact absurd ((Option.some.inj H).trans RT.out) Bool.false_ne_true
                  ·rw [if_neg c59] at H
                   have c59b0 : (t221 != (decide ((ji57) > a4))) = false := by simpa using c59
                   (try (have c59b1 : decide (t221 = (decide ((ji57) > a4))) = true := by simpa using c59))
                   (try (have c59b2 : (t221 == (decide ((ji57) > a4))) = true := by simpa using c59))
                   clear c59
                   by_cases c60 : (ji57) ≤ a3
                   ·rw [if_pos c60] at H
                    have c60b0 : decide ((ji57) ≤ a3) = true := decide_eq_true c60
                    clear c60
                    exact absurd ((Option.some.inj H).trans RT.out) Bool.false_ne_true
                   ·rw [if_neg c60] at H
                    have c60b0 : decide ((ji57) ≤ a3) = false := decide_eq_false c60
                    clear c60
                    have H' := Aside0.mk H
                    clear H
                    have p219 : 0 ≤ ((rd t208 x114_3) : Int) := of_decide_eq_true odt
                    have q219 : (rd t208 x114_3) < (t197.length : Int) := of_decide_eq_true odt
                    obtain ⟨ad219, e219, hx219_0, hx219_1, hx219_2⟩ := at_T34 (Kd.R_reads' HO_11.out).2.2 (rd t208 x114_3) p219 q219
                    cases e219
                    replace p219 := eq_true p219
                    replace q219 := eq_true q219
                    have p220 : 0 ≤ ((rd t208 x114_3) : Int) := of_decide_eq_true odt
                    have q220 : (rd t208 x114_3) < (t197.length : Int) := of_decide_eq_true odt
                    obtain ⟨ad220, e220, hx220_0, hx220_1, hx220_2⟩ := at_T34 (Kd.R_reads' HO_11.out).2.2 (rd t208 x114_3) p220 q220
                    obtain rfl : ad219 = ad220 := (by injection e220)
                    replace p220 := eq_true p220
                    replace q220 := eq_true q220
                    obtain ⟨Ao61, co61, eo61⟩ := Kd.R_slice HO_17.out
                    subst eo61
                    go_wp2_with (first | (go_at_call 21; (with_reducible refine (slices_Contains__int_int.calls kj51 _ _ t212 (rd t208 x114_3) t221 _ ?side1 ?side2 A58.out).mono ?_); (case side1 => repeat (first | exact (Kd.R_reads' HO_17.out).2.2 | (with_reducible refine Kd.C_alloc ?_ _) | (with_reducible refine Kd.C_drewN ?_ _) | (with_reducible refine Kd.C_drew ?_))); (case side2 => exact (Kd.R_reads' HO_17.out).2.1); rintro e w' ⟨rfl, ⟨nd, rfl⟩⟩; (try first | exact ⟨rfl, _, World.drewN_drewN _ _ _⟩ | exact ⟨rfl, _, Eq.trans (World.drewN_drewN _ _ _) (congrArg (World.drewN _) (Nat.add_assoc _ _ _))⟩)))
                    repeat (go_quiet (first | (go_at_call 21; (with_reducible refine (slices_Contains__int_int.calls kj51 _ _ t212 (rd t208 x114_3) t221 _ ?side1 ?side2 A58.out).mono ?_); (case side1 => repeat (first | exact (Kd.R_reads' HO_17.out).2.2 | (with_reducible refine Kd.C_alloc ?_ _) | (with_reducible refine Kd.C_drewN ?_ _) | (with_reducible refine Kd.C_drew ?_))); (case side2 => exact (Kd.R_reads' HO_17.out).2.1); rintro e w' ⟨rfl, ⟨nd, rfl⟩⟩; (try first | exact ⟨rfl, _, World.drewN_drewN _ _ _⟩ | exact ⟨rfl, _, Eq.trans (World.drewN_drewN _ _ _) (congrArg (World.drewN _) (Nat.add_assoc _ _ _))⟩))); try go_wp2_with (first | (go_at_call 21; (with_reducible refine (slices_Contains__int_int.calls kj51 _ _ t212 (rd t208 x114_3) t221 _ ?side1 ?side2 A58.out).mono ?_); (case side1 => repeat (first | exact (Kd.R_reads' HO_17.out).2.2 | (with_reducible refine Kd.C_alloc ?_ _) | (with_reducible refine Kd.C_drewN ?_ _) | (with_reducible refine Kd.C_drew ?_))); (case side2 => exact (Kd.R_reads' HO_17.out).2.1); rintro e w' ⟨rfl, ⟨nd, rfl⟩⟩; (try first | exact ⟨rfl, _, World.drewN_drewN _ _ _⟩ | exact ⟨rfl, _, Eq.trans (World.drewN_drewN _ _ _) (congrArg (World.drewN _) (Nat.add_assoc _ _ _))⟩))))
                    go_roundg kj51
                    case measure => have := HK1.out; have := HJ37.out; have := HK3.out; have := HJ51.out; omega
                    case rel => exact ⟨(wrap64 (x114_3 + 1)), (by first | rfl | (simp; done) | (simp [*]; done)), H', ⟨by have := HK1.out; have := HJ37.out; have := HK3.out; have := HJ51.out; omega⟩, ⟨ra HO_11⟩, ⟨ra HO_17⟩, ⟨ra HO_112⟩, ⟨bk BK196⟩, ⟨bl HB⟩⟩
                 ·rw [if_neg c56] at H
                  exact absurd H (by simp)
                ·rw [if_neg c55] at H
                 exact absurd H (by simp)
            ·rw [if_neg c51] at H
             exact absurd H (by simp)
           ·rw [if_neg c50] at H
            exact absurd H (by simp)
          ·rw [if_neg c49] at H
           have c49b0 : decide (x114_3 < (t208.length : Int)) = false := decide_eq_false c49
           clear c49
           replace H := Option.bind_eq_some_iff.mp H
           obtain ⟨t217, A620, H⟩ := H
           replace H : (some t217) = some r := H
           have A62 := Aside0.mk A620
           clear A620
           obtain rfl := Option.some.inj H
           go_wp2_with (first | (go_at_call 14; (with_reducible refine (interchangelaw12_works.calls k3  t217 _ A62.out).mono ?_); rintro e w63 ⟨rfl, hb⟩; have n0_ := Aside0.mk (Kd.R_below (ra HO_11) hb); have n1_ := Aside0.mk (Kd.R_below (ra HO_17) hb); have n2_ := Aside0.mk (Kd.R_below (ra HO_112) hb); have n3_ := Aside0.mk (blk_below (g := gb196) (o := .cells #[.int .i64 a0_0, .int .i64 a0_1, .int .i64 a0_2, .int .i64 a0_3, .bool a0_4] 23 (0, 0)) (bk BK196) hb); have n4_ := Aside0.mk (below_step (bl HB) hb); clear HO_11; clear HO_17; clear HO_112; clear BK196; clear HB; have HO_11 := n0_; have HO_17 := n1_; have HO_112 := n2_; have BK196 := n3_; have HB := n4_; clear n0_ n1_ n2_ n3_ n4_; (try clear hb); (try clear hb2); (try clear hk); (try clear hi)))
           repeat (go_quiet (first | (go_at_call 14; (with_reducible refine (interchangelaw12_works.calls k3  t217 _ A62.out).mono ?_); rintro e w63 ⟨rfl, hb⟩; have n0_ := Aside0.mk (Kd.R_below (ra HO_11) hb); have n1_ := Aside0.mk (Kd.R_below (ra HO_17) hb); have n2_ := Aside0.mk (Kd.R_below (ra HO_112) hb); have n3_ := Aside0.mk (blk_below (g := gb196) (o := .cells #[.int .i64 a0_0, .int .i64 a0_1, .int .i64 a0_2, .int .i64 a0_3, .bool a0_4] 23 (0, 0)) (bk BK196) hb); have n4_ := Aside0.mk (below_step (bl HB) hb); clear HO_11; clear HO_17; clear HO_112; clear BK196; clear HB; have HO_11 := n0_; have HO_17 := n1_; have HO_112 := n2_; have BK196 := n3_; have HB := n4_; clear n0_ n1_ n2_ n3_ n4_; (try clear hb); (try clear hb2); (try clear hk); (try clear hi))); try go_wp2_with (first | (go_at_call 14; (with_reducible refine (interchangelaw12_works.calls k3  t217 _ A62.out).mono ?_); rintro e w63 ⟨rfl, hb⟩; have n0_ := Aside0.mk (Kd.R_below (ra HO_11) hb); have n1_ := Aside0.mk (Kd.R_below (ra HO_17) hb); have n2_ := Aside0.mk (Kd.R_below (ra HO_112) hb); have n3_ := Aside0.mk (blk_below (g := gb196) (o := .cells #[.int .i64 a0_0, .int .i64 a0_1, .int .i64 a0_2, .int .i64 a0_3, .bool a0_4] 23 (0, 0)) (bk BK196) hb); have n4_ := Aside0.mk (below_step (bl HB) hb); clear HO_11; clear HO_17; clear HO_112; clear BK196; clear HB; have HO_11 := n0_; have HO_17 := n1_; have HO_112 := n2_; have BK196 := n3_; have HB := n4_; clear n0_ n1_ n2_ n3_ n4_; (try clear hb); (try clear hb2); (try clear hk); (try clear hi))))
           go_ret
           exact ⟨er, bl HB⟩
 ·rw [if_neg c7] at H
  have c7b0 : (t200 == 0) = false := beq_eq_false_iff_ne.mpr c7
  have c7b1 : (t200 != 0) = true := bne_iff_ne.mpr c7
  by_cases c64 : (t197.length : Int) = 0
  ·rw [if_pos c64] at H
   have c64b0 : ((t197.length : Int) == 0) = true := beq_iff_eq.mpr c64
   have c64b1 : ((t197.length : Int) != 0) = false := bne_eq_false_iff_eq.mpr c64
   clear c64
   replace H := Option.bind_eq_some_iff.mp H
   obtain ⟨t201, A650, H⟩ := H
   replace H : (some t201) = some r := H
   have A65 := Aside0.mk A650
   clear A650
   obtain rfl := Option.some.inj H
   go_enter Tryd.func6, Tryd.ntmps6
   go_wp2_with (first | ((with_reducible refine gate_dst (N := 5) rfl ?_); (try (refine gate_guard (by rfl) ?_; dsimp only)); refine box_event ?hg (N := 5) ?hd (cs := #[.int .i64 a0_0, .int .i64 a0_1, .int .i64 a0_2, .int .i64 a0_3, .bool a0_4]) (t := 23) ?hr ?_; (case hd => rfl); (case hg => rfl); (case hr => first | (go_simp; done) | (go_simp; rfl)); intro gb196 hg w66 hbox hb; have n0_ := Aside0.mk (below_step (bl HB) hb); have n1_ := Aside0.mk (hbox); have n2_ := Aside0.mk ((by rw [hg]; exact (below_size (bl HB)) : w.heap.size ≤ gb196)); have n3_ := Aside0.mk ((by rw [hg]; exact (below_size (bl HB)) : w.heap.size ≤ gb196)); clear HB; have HB := n0_; have BK196 := n1_; have GW196 := n2_; have GE196 := n3_; clear n0_ n1_ n2_ n3_; clear hb hbox hg; have hcz67_0 : w66.cell? ⟨gb196, 0, none⟩ = some (.int .i64 a0_0) := (blk_cell BK196.out 0).trans rfl; have hcz67_1 : w66.cell? ⟨gb196, 1, none⟩ = some (.int .i64 a0_1) := (blk_cell BK196.out 1).trans rfl; have hcz67_2 : w66.cell? ⟨gb196, 2, none⟩ = some (.int .i64 a0_2) := (blk_cell BK196.out 2).trans rfl; have hcz67_3 : w66.cell? ⟨gb196, 3, none⟩ = some (.int .i64 a0_3) := (blk_cell BK196.out 3).trans rfl; have hcz67_4 : w66.cell? ⟨gb196, 4, none⟩ = some (.bool a0_4) := (blk_cell BK196.out 4).trans rfl; have hfz67_0 := blk_frozen BK196.out 0; have hfz67_1 := blk_frozen BK196.out 1; have hfz67_2 := blk_frozen BK196.out 2; have hfz67_3 := blk_frozen BK196.out 3; have hfz67_4 := blk_frozen BK196.out 4) | (go_at_call 8; (with_reducible refine (desk_Outbox.calls k a0_0 a0_1 a0_2 a0_3 a0_4 _ _ l1 _ _ l2 t197 t200 _ ?side1 ?side2 ?side3 ?side4 A6.out).mono ?_); (case side1 => exact kc HR1 HB); (case side2 => exact HC1.out); (case side3 => exact kc HR2 HB); (case side4 => exact HC2.out); rintro e w68 ⟨v198, rfl, ho0, hb⟩; have n0_ := Aside0.mk (Kd.R_lower ho0 (below_size (bl HB))); have n1_ := Aside0.mk (blk_below (g := gb196) (o := .cells #[.int .i64 a0_0, .int .i64 a0_1, .int .i64 a0_2, .int .i64 a0_3, .bool a0_4] 23 (0, 0)) (bk BK196) hb); have n2_ := Aside0.mk (below_step (bl HB) hb); clear BK196; clear HB; have HO199 := n0_; have BK196 := n1_; have HB := n2_; clear n0_ n1_ n2_; (try clear hb); (try clear hb2); (try clear hk); (try clear hi); (try clear ho0); obtain ⟨Ao69, co69, eo69⟩ := Kd.R_slice HO199.out; subst eo69) | (go_at_call 14; (with_reducible refine (interchangelaw12_works.calls k  t201 _ A65.out).mono ?_); rintro e w70 ⟨rfl, hb⟩; have n0_ := Aside0.mk (Kd.R_below (ra HO199) hb); have n1_ := Aside0.mk (blk_below (g := gb196) (o := .cells #[.int .i64 a0_0, .int .i64 a0_1, .int .i64 a0_2, .int .i64 a0_3, .bool a0_4] 23 (0, 0)) (bk BK196) hb); have n2_ := Aside0.mk (below_step (bl HB) hb); clear HO199; clear BK196; clear HB; have HO199 := n0_; have BK196 := n1_; have HB := n2_; clear n0_ n1_ n2_; (try clear hb); (try clear hb2); (try clear hk); (try clear hi)))
   repeat (go_quiet (first | ((with_reducible refine gate_dst (N := 5) rfl ?_); (try (refine gate_guard (by rfl) ?_; dsimp only)); refine box_event ?hg (N := 5) ?hd (cs := #[.int .i64 a0_0, .int .i64 a0_1, .int .i64 a0_2, .int .i64 a0_3, .bool a0_4]) (t := 23) ?hr ?_; (case hd => rfl); (case hg => rfl); (case hr => first | (go_simp; done) | (go_simp; rfl)); intro gb196 hg w66 hbox hb; have n0_ := Aside0.mk (below_step (bl HB) hb); have n1_ := Aside0.mk (hbox); have n2_ := Aside0.mk ((by rw [hg]; exact (below_size (bl HB)) : w.heap.size ≤ gb196)); have n3_ := Aside0.mk ((by rw [hg]; exact (below_size (bl HB)) : w.heap.size ≤ gb196)); clear HB; have HB := n0_; have BK196 := n1_; have GW196 := n2_; have GE196 := n3_; clear n0_ n1_ n2_ n3_; clear hb hbox hg; have hcz67_0 : w66.cell? ⟨gb196, 0, none⟩ = some (.int .i64 a0_0) := (blk_cell BK196.out 0).trans rfl; have hcz67_1 : w66.cell? ⟨gb196, 1, none⟩ = some (.int .i64 a0_1) := (blk_cell BK196.out 1).trans rfl; have hcz67_2 : w66.cell? ⟨gb196, 2, none⟩ = some (.int .i64 a0_2) := (blk_cell BK196.out 2).trans rfl; have hcz67_3 : w66.cell? ⟨gb196, 3, none⟩ = some (.int .i64 a0_3) := (blk_cell BK196.out 3).trans rfl; have hcz67_4 : w66.cell? ⟨gb196, 4, none⟩ = some (.bool a0_4) := (blk_cell BK196.out 4).trans rfl; have hfz67_0 := blk_frozen BK196.out 0; have hfz67_1 := blk_frozen BK196.out 1; have hfz67_2 := blk_frozen BK196.out 2; have hfz67_3 := blk_frozen BK196.out 3; have hfz67_4 := blk_frozen BK196.out 4) | (go_at_call 8; (with_reducible refine (desk_Outbox.calls k a0_0 a0_1 a0_2 a0_3 a0_4 _ _ l1 _ _ l2 t197 t200 _ ?side1 ?side2 ?side3 ?side4 A6.out).mono ?_); (case side1 => exact kc HR1 HB); (case side2 => exact HC1.out); (case side3 => exact kc HR2 HB); (case side4 => exact HC2.out); rintro e w68 ⟨v198, rfl, ho0, hb⟩; have n0_ := Aside0.mk (Kd.R_lower ho0 (below_size (bl HB))); have n1_ := Aside0.mk (blk_below (g := gb196) (o := .cells #[.int .i64 a0_0, .int .i64 a0_1, .int .i64 a0_2, .int .i64 a0_3, .bool a0_4] 23 (0, 0)) (bk BK196) hb); have n2_ := Aside0.mk (below_step (bl HB) hb); clear BK196; clear HB; have HO199 := n0_; have BK196 := n1_; have HB := n2_; clear n0_ n1_ n2_; (try clear hb); (try clear hb2); (try clear hk); (try clear hi); (try clear ho0); obtain ⟨Ao69, co69, eo69⟩ := Kd.R_slice HO199.out; subst eo69) | (go_at_call 14; (with_reducible refine (interchangelaw12_works.calls k  t201 _ A65.out).mono ?_); rintro e w70 ⟨rfl, hb⟩; have n0_ := Aside0.mk (Kd.R_below (ra HO199) hb); have n1_ := Aside0.mk (blk_below (g := gb196) (o := .cells #[.int .i64 a0_0, .int .i64 a0_1, .int .i64 a0_2, .int .i64 a0_3, .bool a0_4] 23 (0, 0)) (bk BK196) hb); have n2_ := Aside0.mk (below_step (bl HB) hb); clear HO199; clear BK196; clear HB; have HO199 := n0_; have BK196 := n1_; have HB := n2_; clear n0_ n1_ n2_; (try clear hb); (try clear hb2); (try clear hk); (try clear hi))); try go_wp2_with (first | ((with_reducible refine gate_dst (N := 5) rfl ?_); (try (refine gate_guard (by rfl) ?_; dsimp only)); refine box_event ?hg (N := 5) ?hd (cs := #[.int .i64 a0_0, .int .i64 a0_1, .int .i64 a0_2, .int .i64 a0_3, .bool a0_4]) (t := 23) ?hr ?_; (case hd => rfl); (case hg => rfl); (case hr => first | (go_simp; done) | (go_simp; rfl)); intro gb196 hg w66 hbox hb; have n0_ := Aside0.mk (below_step (bl HB) hb); have n1_ := Aside0.mk (hbox); have n2_ := Aside0.mk ((by rw [hg]; exact (below_size (bl HB)) : w.heap.size ≤ gb196)); have n3_ := Aside0.mk ((by rw [hg]; exact (below_size (bl HB)) : w.heap.size ≤ gb196)); clear HB; have HB := n0_; have BK196 := n1_; have GW196 := n2_; have GE196 := n3_; clear n0_ n1_ n2_ n3_; clear hb hbox hg; have hcz67_0 : w66.cell? ⟨gb196, 0, none⟩ = some (.int .i64 a0_0) := (blk_cell BK196.out 0).trans rfl; have hcz67_1 : w66.cell? ⟨gb196, 1, none⟩ = some (.int .i64 a0_1) := (blk_cell BK196.out 1).trans rfl; have hcz67_2 : w66.cell? ⟨gb196, 2, none⟩ = some (.int .i64 a0_2) := (blk_cell BK196.out 2).trans rfl; have hcz67_3 : w66.cell? ⟨gb196, 3, none⟩ = some (.int .i64 a0_3) := (blk_cell BK196.out 3).trans rfl; have hcz67_4 : w66.cell? ⟨gb196, 4, none⟩ = some (.bool a0_4) := (blk_cell BK196.out 4).trans rfl; have hfz67_0 := blk_frozen BK196.out 0; have hfz67_1 := blk_frozen BK196.out 1; have hfz67_2 := blk_frozen BK196.out 2; have hfz67_3 := blk_frozen BK196.out 3; have hfz67_4 := blk_frozen BK196.out 4) | (go_at_call 8; (with_reducible refine (desk_Outbox.calls k a0_0 a0_1 a0_2 a0_3 a0_4 _ _ l1 _ _ l2 t197 t200 _ ?side1 ?side2 ?side3 ?side4 A6.out).mono ?_); (case side1 => exact kc HR1 HB); (case side2 => exact HC1.out); (case side3 => exact kc HR2 HB); (case side4 => exact HC2.out); rintro e w68 ⟨v198, rfl, ho0, hb⟩; have n0_ := Aside0.mk (Kd.R_lower ho0 (below_size (bl HB))); have n1_ := Aside0.mk (blk_below (g := gb196) (o := .cells #[.int .i64 a0_0, .int .i64 a0_1, .int .i64 a0_2, .int .i64 a0_3, .bool a0_4] 23 (0, 0)) (bk BK196) hb); have n2_ := Aside0.mk (below_step (bl HB) hb); clear BK196; clear HB; have HO199 := n0_; have BK196 := n1_; have HB := n2_; clear n0_ n1_ n2_; (try clear hb); (try clear hb2); (try clear hk); (try clear hi); (try clear ho0); obtain ⟨Ao69, co69, eo69⟩ := Kd.R_slice HO199.out; subst eo69) | (go_at_call 14; (with_reducible refine (interchangelaw12_works.calls k  t201 _ A65.out).mono ?_); rintro e w70 ⟨rfl, hb⟩; have n0_ := Aside0.mk (Kd.R_below (ra HO199) hb); have n1_ := Aside0.mk (blk_below (g := gb196) (o := .cells #[.int .i64 a0_0, .int .i64 a0_1, .int .i64 a0_2, .int .i64 a0_3, .bool a0_4] 23 (0, 0)) (bk BK196) hb); have n2_ := Aside0.mk (below_step (bl HB) hb); clear HO199; clear BK196; clear HB; have HO199 := n0_; have BK196 := n1_; have HB := n2_; clear n0_ n1_ n2_; (try clear hb); (try clear hb2); (try clear hk); (try clear hi))))
   go_ret
   exact ⟨er, bl HB⟩
  ·rw [if_neg c64] at H
   have c64b0 : ((t197.length : Int) == 0) = false := beq_eq_false_iff_ne.mpr c64
   have c64b1 : ((t197.length : Int) != 0) = true := bne_iff_ne.mpr c64
   have c64b2 : ¬ (t197 = []) := fun h_ => c64 (by rw [h_]; rfl)
   exact absurd ((Option.some.inj H).trans RT.out) Bool.false_ne_true

end Go.Proofs.YtemokeankdgfeaaDoor.PDeskQueuesStayInOrder
