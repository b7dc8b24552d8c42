-- Printed for this claim by px.py (this repo's wip/tools) over the kit's print; not the kit's own print.
import Derived.Test.YtemokeankdgfeaaDoorPDeskGivesUpLastx0
import Derived.Test.YtemokeankdgfeaaDoorPDeskGivesUpLastx2
import Derived.Test.YtemokeankdgfeaaDoorPDeskGivesUpLastx3
namespace Go.Proofs.YtemokeankdgfeaaDoor.PDeskGivesUpLast
open Go.Proofs.YtemokeankdgfeaaDoor.Sq
open Go.Proofs.YtemokeankdgfeaaDoor.Mp
open Go.RowKit Go.Proofs.YtemokeankdgfeaaDoorW.PrintWords Go.Proofs.YtemokeankdgfeaaDoorW.PrintLast Go.Proofs.YtemokeankdgfeaaDoorW.PrintMore
attribute [local go_sem] max2_int min2_int max_two min_two max_three min_three max_four min_four   -- for this text's walks alone
set_option linter.unusedVariables false
set_option linter.unusedSimpArgs false

/-! ### interchangelaw12_DeskGivesUpLast: function 4 -/
mutual
def interchangelaw12_DeskGivesUpLast.j0 : Nat → List (S42) → List (S44) → List (S34) → Int → Bool → Int → Int → Int → Int → Bool → Option (Bool)
 | 0, _, _, _, _, _, _, _, _, _, _ => none
 | k + 1, x1, x2, x7, x9, x45, x197000, x197001, x197002, x197003, x197004 => if x45 = true then (some false) else (interchangelaw12_DeskGivesUpLast.l0 k x1 x2 x7 x9 x7 (x7.length : Int) 0 x197000 x197001 x197002 x197003 x197004)
def interchangelaw12_DeskGivesUpLast.l0 : Nat → List (S42) → List (S44) → List (S34) → Int → List (S34) → Int → Int → Int → Int → Int → Int → Bool → Option (Bool)
 | 0, _, _, _, _, _, _, _, _, _, _, _, _ => none
 | k + 1, x1, x2, x7, x9, x46, x47, x48, x197000, x197001, x197002, x197003, x197004 => if x48 < x47 then (if 0 ≤ x48 then (if x48 < (x46.length : Int) then (if ((decide (((rd_T34 x46 x48).f1) < 0)) == (decide (((rd_T34 x46 x48).f2) < 0))) = true then (interchangelaw12_DeskGivesUpLast.j2 k x1 x2 x7 x9 x48 x46 x47 x48 true x197000 x197001 x197002 x197003 x197004 ((rd_T34 x46 x48).f0) ((rd_T34 x46 x48).f1) ((rd_T34 x46 x48).f2)) else (if ((rd_T34 x46 x48).f0) < 1 then (interchangelaw12_DeskGivesUpLast.j2 k x1 x2 x7 x9 x48 x46 x47 x48 true x197000 x197001 x197002 x197003 x197004 ((rd_T34 x46 x48).f0) ((rd_T34 x46 x48).f1) ((rd_T34 x46 x48).f2)) else (interchangelaw12_DeskGivesUpLast.j2 k x1 x2 x7 x9 x48 x46 x47 x48 (decide (((rd_T34 x46 x48).f0) > x197003)) x197000 x197001 x197002 x197003 x197004 ((rd_T34 x46 x48).f0) ((rd_T34 x46 x48).f1) ((rd_T34 x46 x48).f2)))) else (none)) else (none)) else (some true)
def interchangelaw12_DeskGivesUpLast.j2 : Nat → List (S42) → List (S44) → List (S34) → Int → Int → List (S34) → Int → Int → Bool → Int → Int → Int → Int → Bool → Int → Int → Int → Option (Bool)
 | 0, _, _, _, _, _, _, _, _, _, _, _, _, _, _, _, _, _ => none
 | k + 1, x1, x2, x7, x9, x10, x46, x47, x48, x71, x197000, x197001, x197002, x197003, x197004, x207000, x207001, x207002 => if x71 = true then (some false) else ((interchangeref12_Begins.f k x197000 x197001 x197002 x197003 x197004 x1 x7 x10).bind fun t207 => (if 0 ≤ x10 then (if x10 < (x1.length : Int) then ((interchangeref12_Answers.f k x2 ((rd_T42 x1 x10).f0) t207).bind fun t209 => (if t209 = true then (interchangelaw12_DeskGivesUpLast.j3 k x1 x2 x7 x9 x10 t207 x46 x47 x48 false x197000 x197001 x197002 x197003 x197004 x207000 x207001 x207002) else (if x207000 = 1 then (interchangelaw12_DeskGivesUpLast.j3 k x1 x2 x7 x9 x10 t207 x46 x47 x48 (decide (x197003 > 1)) x197000 x197001 x197002 x197003 x197004 x207000 x207001 x207002) else (interchangelaw12_DeskGivesUpLast.j3 k x1 x2 x7 x9 x10 t207 x46 x47 x48 false x197000 x197001 x197002 x197003 x197004 x207000 x207001 x207002)))) else (none)) else (none)))
def interchangelaw12_DeskGivesUpLast.j3 : Nat → List (S42) → List (S44) → List (S34) → Int → Int → Int → List (S34) → Int → Int → Bool → Int → Int → Int → Int → Bool → Int → Int → Int → Option (Bool)
 | 0, _, _, _, _, _, _, _, _, _, _, _, _, _, _, _, _, _, _ => none
 | k + 1, x1, x2, x7, x9, x10, x12, x46, x47, x48, x95, x197000, x197001, x197002, x197003, x197004, x207000, x207001, x207002 => if x95 = true then (some false) else (if x207001 ≥ 0 then (if 0 ≤ x10 then (if x10 < (x1.length : Int) then ((interchangeref12_Answers.f k x2 ((rd_T42 x1 x10).f0) x207001).bind fun t211 => (if t211 = true then (if x207001 < x12 then (interchangelaw12_DeskGivesUpLast.j4 k x1 x2 x7 x9 x10 x12 x46 x47 x48 true x197000 x197001 x197002 x197003 x197004 x207000 x207001 x207002) else (interchangelaw12_DeskGivesUpLast.j4 k x1 x2 x7 x9 x10 x12 x46 x47 x48 (decide (x207001 > (wrap64 (x12 + x9)))) x197000 x197001 x197002 x197003 x197004 x207000 x207001 x207002)) else (interchangelaw12_DeskGivesUpLast.j4 k x1 x2 x7 x9 x10 x12 x46 x47 x48 true x197000 x197001 x197002 x197003 x197004 x207000 x207001 x207002))) else (none)) else (none)) else (interchangelaw12_DeskGivesUpLast.j4 k x1 x2 x7 x9 x10 x12 x46 x47 x48 false x197000 x197001 x197002 x197003 x197004 x207000 x207001 x207002))
def interchangelaw12_DeskGivesUpLast.j4 : Nat → List (S42) → List (S44) → List (S34) → Int → Int → Int → List (S34) → Int → Int → Bool → Int → Int → Int → Int → Bool → Int → Int → Int → Option (Bool)
 | 0, _, _, _, _, _, _, _, _, _, _, _, _, _, _, _, _, _, _ => none
 | k + 1, x1, x2, x7, x9, x10, x12, x46, x47, x48, x124, x197000, x197001, x197002, x197003, x197004, x207000, x207001, x207002 => if x124 = true then (some false) else (if x207002 ≥ 0 then (if 0 ≤ x10 then (if x10 < (x1.length : Int) then ((interchangeref12_Answers.f k x2 ((rd_T42 x1 x10).f0) x207002).bind fun t213 => (if t213 = true then (interchangelaw12_DeskGivesUpLast.j5 k x1 x2 x7 x9 x46 x47 x48 true x197000 x197001 x197002 x197003 x197004 x207000 x207001 x207002) else (if x207000 = x197003 then (interchangelaw12_DeskGivesUpLast.j5 k x1 x2 x7 x9 x46 x47 x48 (x207002 != (wrap64 (x12 + x9))) x197000 x197001 x197002 x197003 x197004 x207000 x207001 x207002) else (interchangelaw12_DeskGivesUpLast.j5 k x1 x2 x7 x9 x46 x47 x48 true x197000 x197001 x197002 x197003 x197004 x207000 x207001 x207002)))) else (none)) else (none)) else (interchangelaw12_DeskGivesUpLast.j5 k x1 x2 x7 x9 x46 x47 x48 false x197000 x197001 x197002 x197003 x197004 x207000 x207001 x207002))
def interchangelaw12_DeskGivesUpLast.j5 : Nat → List (S42) → List (S44) → List (S34) → Int → List (S34) → Int → Int → Bool → Int → Int → Int → Int → Bool → Int → Int → Int → Option (Bool)
 | 0, _, _, _, _, _, _, _, _, _, _, _, _, _, _, _, _ => none
 | k + 1, x1, x2, x7, x9, x46, x47, x48, x153, x197000, x197001, x197002, x197003, x197004, x207000, x207001, x207002 => if x153 = true then (some false) else (if (x2.length : Int) = 1 then (if 0 < (x2.length : Int) then (if (wrap64 (((rd_T44 x2 0).f2) - ((rd_T44 x2 0).f1))) ≤ x9 then (if x207002 ≥ 0 then (some false) else (interchangelaw12_DeskGivesUpLast.l0 k x1 x2 x7 x9 x46 x47 (wrap64 (x48 + 1)) x197000 x197001 x197002 x197003 x197004)) else (interchangelaw12_DeskGivesUpLast.l0 k x1 x2 x7 x9 x46 x47 (wrap64 (x48 + 1)) x197000 x197001 x197002 x197003 x197004)) else (none)) else (interchangelaw12_DeskGivesUpLast.l0 k x1 x2 x7 x9 x46 x47 (wrap64 (x48 + 1)) x197000 x197001 x197002 x197003 x197004))
end
def interchangelaw12_DeskGivesUpLast.f (k : Nat) (a0_0 : Int) (a0_1 : Int) (a0_2 : Int) (a0_3 : Int) (a0_4 : Bool) (l1 : List (S42)) (l2 : List (S44)) : Option (Bool) := (desk_Outbox.f k a0_0 a0_1 a0_2 a0_3 a0_4 l1 l2).bind fun bt197 => (if bt197.2 = 0 then ((desk_Patience.f k a0_0 a0_1 a0_2 a0_3 a0_4).bind fun bt202 => (if bt202.2 = 0 then (if (bt197.1.length : Int) = (l1.length : Int) then ((interchangelaw12_works.f k).bind fun t204 => (interchangelaw12_DeskGivesUpLast.j0 k l1 l2 bt197.1 bt202.1 (!t204) a0_0 a0_1 a0_2 a0_3 a0_4)) else (interchangelaw12_DeskGivesUpLast.j0 k l1 l2 bt197.1 bt202.1 true a0_0 a0_1 a0_2 a0_3 a0_4)) else (interchangelaw12_DeskGivesUpLast.j0 k l1 l2 bt197.1 bt202.1 true a0_0 a0_1 a0_2 a0_3 a0_4))) else (if (bt197.1.length : Int) = 0 then ((interchangelaw12_works.f k).bind fun t201 => (some t201)) else (some false)))
theorem interchangelaw12_DeskGivesUpLast.mono_l : ∀ k, (∀ y0 y1 y2 y3 y4 y5 y6 y7 y8 y9, LeO (interchangelaw12_DeskGivesUpLast.j0 k y0 y1 y2 y3 y4 y5 y6 y7 y8 y9) (interchangelaw12_DeskGivesUpLast.j0 (k + 1) y0 y1 y2 y3 y4 y5 y6 y7 y8 y9)) ∧ (∀ y0 y1 y2 y3 y4 y5 y6 y7 y8 y9 y10 y11, LeO (interchangelaw12_DeskGivesUpLast.l0 k y0 y1 y2 y3 y4 y5 y6 y7 y8 y9 y10 y11) (interchangelaw12_DeskGivesUpLast.l0 (k + 1) y0 y1 y2 y3 y4 y5 y6 y7 y8 y9 y10 y11)) ∧ (∀ y0 y1 y2 y3 y4 y5 y6 y7 y8 y9 y10 y11 y12 y13 y14 y15 y16, LeO (interchangelaw12_DeskGivesUpLast.j2 k y0 y1 y2 y3 y4 y5 y6 y7 y8 y9 y10 y11 y12 y13 y14 y15 y16) (interchangelaw12_DeskGivesUpLast.j2 (k + 1) y0 y1 y2 y3 y4 y5 y6 y7 y8 y9 y10 y11 y12 y13 y14 y15 y16)) ∧ (∀ y0 y1 y2 y3 y4 y5 y6 y7 y8 y9 y10 y11 y12 y13 y14 y15 y16 y17, LeO (interchangelaw12_DeskGivesUpLast.j3 k y0 y1 y2 y3 y4 y5 y6 y7 y8 y9 y10 y11 y12 y13 y14 y15 y16 y17) (interchangelaw12_DeskGivesUpLast.j3 (k + 1) y0 y1 y2 y3 y4 y5 y6 y7 y8 y9 y10 y11 y12 y13 y14 y15 y16 y17)) ∧ (∀ y0 y1 y2 y3 y4 y5 y6 y7 y8 y9 y10 y11 y12 y13 y14 y15 y16 y17, LeO (interchangelaw12_DeskGivesUpLast.j4 k y0 y1 y2 y3 y4 y5 y6 y7 y8 y9 y10 y11 y12 y13 y14 y15 y16 y17) (interchangelaw12_DeskGivesUpLast.j4 (k + 1) y0 y1 y2 y3 y4 y5 y6 y7 y8 y9 y10 y11 y12 y13 y14 y15 y16 y17)) ∧ (∀ y0 y1 y2 y3 y4 y5 y6 y7 y8 y9 y10 y11 y12 y13 y14 y15, LeO (interchangelaw12_DeskGivesUpLast.j5 k y0 y1 y2 y3 y4 y5 y6 y7 y8 y9 y10 y11 y12 y13 y14 y15) (interchangelaw12_DeskGivesUpLast.j5 (k + 1) y0 y1 y2 y3 y4 y5 y6 y7 y8 y9 y10 y11 y12 y13 y14 y15))
 | 0 => ⟨fun _ _ _ _ _ _ _ _ _ _ r h => by simp [interchangelaw12_DeskGivesUpLast.j0] at h, fun _ _ _ _ _ _ _ _ _ _ _ _ r h => by simp [interchangelaw12_DeskGivesUpLast.l0] at h, fun _ _ _ _ _ _ _ _ _ _ _ _ _ _ _ _ _ r h => by simp [interchangelaw12_DeskGivesUpLast.j2] at h, fun _ _ _ _ _ _ _ _ _ _ _ _ _ _ _ _ _ _ r h => by simp [interchangelaw12_DeskGivesUpLast.j3] at h, fun _ _ _ _ _ _ _ _ _ _ _ _ _ _ _ _ _ _ r h => by simp [interchangelaw12_DeskGivesUpLast.j4] at h, fun _ _ _ _ _ _ _ _ _ _ _ _ _ _ _ _ r h => by simp [interchangelaw12_DeskGivesUpLast.j5] at h⟩
 | k + 1 => by
  obtain ⟨ih0, ih1, ih2, ih3, ih4, ih5⟩ := interchangelaw12_DeskGivesUpLast.mono_l k
  refine ⟨?_, ?_, ?_, ?_, ?_, ?_⟩
  ·intro y0 y1 y2 y3 y4 y5 y6 y7 y8 y9
   unfold interchangelaw12_DeskGivesUpLast.j0
   repeat' first
   | (with_reducible exact ih0 _ _ _ _ _ _ _ _ _ _)
   | (with_reducible exact ih1 _ _ _ _ _ _ _ _ _ _ _ _)
   | (with_reducible exact ih2 _ _ _ _ _ _ _ _ _ _ _ _ _ _ _ _ _)
   | (with_reducible exact ih3 _ _ _ _ _ _ _ _ _ _ _ _ _ _ _ _ _ _)
   | (with_reducible exact ih4 _ _ _ _ _ _ _ _ _ _ _ _ _ _ _ _ _ _)
   | (with_reducible exact ih5 _ _ _ _ _ _ _ _ _ _ _ _ _ _ _ _)
   | (with_reducible exact desk_Outbox.mono _ _ _ _ _ _ _ _)
   | (with_reducible exact desk_Patience.mono _ _ _ _ _ _)
   | (with_reducible exact interchangelaw12_works.mono _)
   | (with_reducible exact interchangeref12_Answers.mono _ _ _ _)
   | (with_reducible exact interchangeref12_Begins.mono _ _ _ _ _ _ _ _ _)
   | (with_reducible exact LeO.refl _)
   | (with_reducible exact LeO.none _)
   | (with_reducible refine LeO.ite ?_ ?_)
   | (with_reducible refine LeO.bind ?_ (fun _ => ?_))
   | exact ih0 _ _ _ _ _ _ _ _ _ _
   | exact ih1 _ _ _ _ _ _ _ _ _ _ _ _
   | exact ih2 _ _ _ _ _ _ _ _ _ _ _ _ _ _ _ _ _
   | exact ih3 _ _ _ _ _ _ _ _ _ _ _ _ _ _ _ _ _ _
   | exact ih4 _ _ _ _ _ _ _ _ _ _ _ _ _ _ _ _ _ _
   | exact ih5 _ _ _ _ _ _ _ _ _ _ _ _ _ _ _ _
   | exact desk_Outbox.mono _ _ _ _ _ _ _ _
   | exact desk_Patience.mono _ _ _ _ _ _
   | exact interchangelaw12_works.mono _
   | exact interchangeref12_Answers.mono _ _ _ _
   | exact interchangeref12_Begins.mono _ _ _ _ _ _ _ _ _
   | exact LeO.none _
   | refine LeO.ite ?_ ?_
   | refine LeO.bind ?_ (fun _ => ?_)
  ·intro y0 y1 y2 y3 y4 y5 y6 y7 y8 y9 y10 y11
   unfold interchangelaw12_DeskGivesUpLast.l0
   repeat' first
   | (with_reducible exact ih0 _ _ _ _ _ _ _ _ _ _)
   | (with_reducible exact ih1 _ _ _ _ _ _ _ _ _ _ _ _)
   | (with_reducible exact ih2 _ _ _ _ _ _ _ _ _ _ _ _ _ _ _ _ _)
   | (with_reducible exact ih3 _ _ _ _ _ _ _ _ _ _ _ _ _ _ _ _ _ _)
   | (with_reducible exact ih4 _ _ _ _ _ _ _ _ _ _ _ _ _ _ _ _ _ _)
   | (with_reducible exact ih5 _ _ _ _ _ _ _ _ _ _ _ _ _ _ _ _)
   | (with_reducible exact desk_Outbox.mono _ _ _ _ _ _ _ _)
   | (with_reducible exact desk_Patience.mono _ _ _ _ _ _)
   | (with_reducible exact interchangelaw12_works.mono _)
   | (with_reducible exact interchangeref12_Answers.mono _ _ _ _)
   | (with_reducible exact interchangeref12_Begins.mono _ _ _ _ _ _ _ _ _)
   | (with_reducible exact LeO.refl _)
   | (with_reducible exact LeO.none _)
   | (with_reducible refine LeO.ite ?_ ?_)
   | (with_reducible refine LeO.bind ?_ (fun _ => ?_))
   | exact ih0 _ _ _ _ _ _ _ _ _ _
   | exact ih1 _ _ _ _ _ _ _ _ _ _ _ _
   | exact ih2 _ _ _ _ _ _ _ _ _ _ _ _ _ _ _ _ _
   | exact ih3 _ _ _ _ _ _ _ _ _ _ _ _ _ _ _ _ _ _
   | exact ih4 _ _ _ _ _ _ _ _ _ _ _ _ _ _ _ _ _ _
   | exact ih5 _ _ _ _ _ _ _ _ _ _ _ _ _ _ _ _
   | exact desk_Outbox.mono _ _ _ _ _ _ _ _
   | exact desk_Patience.mono _ _ _ _ _ _
   | exact interchangelaw12_works.mono _
   | exact interchangeref12_Answers.mono _ _ _ _
   | exact interchangeref12_Begins.mono _ _ _ _ _ _ _ _ _
   | exact LeO.none _
   | refine LeO.ite ?_ ?_
   | refine LeO.bind ?_ (fun _ => ?_)
  ·intro y0 y1 y2 y3 y4 y5 y6 y7 y8 y9 y10 y11 y12 y13 y14 y15 y16
   unfold interchangelaw12_DeskGivesUpLast.j2
   repeat' first
   | (with_reducible exact ih0 _ _ _ _ _ _ _ _ _ _)
   | (with_reducible exact ih1 _ _ _ _ _ _ _ _ _ _ _ _)
   | (with_reducible exact ih2 _ _ _ _ _ _ _ _ _ _ _ _ _ _ _ _ _)
   | (with_reducible exact ih3 _ _ _ _ _ _ _ _ _ _ _ _ _ _ _ _ _ _)
   | (with_reducible exact ih4 _ _ _ _ _ _ _ _ _ _ _ _ _ _ _ _ _ _)
   | (with_reducible exact ih5 _ _ _ _ _ _ _ _ _ _ _ _ _ _ _ _)
   | (with_reducible exact desk_Outbox.mono _ _ _ _ _ _ _ _)
   | (with_reducible exact desk_Patience.mono _ _ _ _ _ _)
   | (with_reducible exact interchangelaw12_works.mono _)
   | (with_reducible exact interchangeref12_Answers.mono _ _ _ _)
   | (with_reducible exact interchangeref12_Begins.mono _ _ _ _ _ _ _ _ _)
   | (with_reducible exact LeO.refl _)
   | (with_reducible exact LeO.none _)
   | (with_reducible refine LeO.ite ?_ ?_)
   | (with_reducible refine LeO.bind ?_ (fun _ => ?_))
   | exact ih0 _ _ _ _ _ _ _ _ _ _
   | exact ih1 _ _ _ _ _ _ _ _ _ _ _ _
   | exact ih2 _ _ _ _ _ _ _ _ _ _ _ _ _ _ _ _ _
   | exact ih3 _ _ _ _ _ _ _ _ _ _ _ _ _ _ _ _ _ _
   | exact ih4 _ _ _ _ _ _ _ _ _ _ _ _ _ _ _ _ _ _
   | exact ih5 _ _ _ _ _ _ _ _ _ _ _ _ _ _ _ _
   | exact desk_Outbox.mono _ _ _ _ _ _ _ _
   | exact desk_Patience.mono _ _ _ _ _ _
   | exact interchangelaw12_works.mono _
   | exact interchangeref12_Answers.mono _ _ _ _
   | exact interchangeref12_Begins.mono _ _ _ _ _ _ _ _ _
   | exact LeO.none _
   | refine LeO.ite ?_ ?_
   | refine LeO.bind ?_ (fun _ => ?_)
  ·intro y0 y1 y2 y3 y4 y5 y6 y7 y8 y9 y10 y11 y12 y13 y14 y15 y16 y17
   unfold interchangelaw12_DeskGivesUpLast.j3
   repeat' first
   | (with_reducible exact ih0 _ _ _ _ _ _ _ _ _ _)
   | (with_reducible exact ih1 _ _ _ _ _ _ _ _ _ _ _ _)
   | (with_reducible exact ih2 _ _ _ _ _ _ _ _ _ _ _ _ _ _ _ _ _)
   | (with_reducible exact ih3 _ _ _ _ _ _ _ _ _ _ _ _ _ _ _ _ _ _)
   | (with_reducible exact ih4 _ _ _ _ _ _ _ _ _ _ _ _ _ _ _ _ _ _)
   | (with_reducible exact ih5 _ _ _ _ _ _ _ _ _ _ _ _ _ _ _ _)
   | (with_reducible exact desk_Outbox.mono _ _ _ _ _ _ _ _)
   | (with_reducible exact desk_Patience.mono _ _ _ _ _ _)
   | (with_reducible exact interchangelaw12_works.mono _)
   | (with_reducible exact interchangeref12_Answers.mono _ _ _ _)
   | (with_reducible exact interchangeref12_Begins.mono _ _ _ _ _ _ _ _ _)
   | (with_reducible exact LeO.refl _)
   | (with_reducible exact LeO.none _)
   | (with_reducible refine LeO.ite ?_ ?_)
   | (with_reducible refine LeO.bind ?_ (fun _ => ?_))
   | exact ih0 _ _ _ _ _ _ _ _ _ _
   | exact ih1 _ _ _ _ _ _ _ _ _ _ _ _
   | exact ih2 _ _ _ _ _ _ _ _ _ _ _ _ _ _ _ _ _
   | exact ih3 _ _ _ _ _ _ _ _ _ _ _ _ _ _ _ _ _ _
   | exact ih4 _ _ _ _ _ _ _ _ _ _ _ _ _ _ _ _ _ _
   | exact ih5 _ _ _ _ _ _ _ _ _ _ _ _ _ _ _ _
   | exact desk_Outbox.mono _ _ _ _ _ _ _ _
   | exact desk_Patience.mono _ _ _ _ _ _
   | exact interchangelaw12_works.mono _
   | exact interchangeref12_Answers.mono _ _ _ _
   | exact interchangeref12_Begins.mono _ _ _ _ _ _ _ _ _
   | exact LeO.none _
   | refine LeO.ite ?_ ?_
   | refine LeO.bind ?_ (fun _ => ?_)
  ·intro y0 y1 y2 y3 y4 y5 y6 y7 y8 y9 y10 y11 y12 y13 y14 y15 y16 y17
   unfold interchangelaw12_DeskGivesUpLast.j4
   repeat' first
   | (with_reducible exact ih0 _ _ _ _ _ _ _ _ _ _)
   | (with_reducible exact ih1 _ _ _ _ _ _ _ _ _ _ _ _)
   | (with_reducible exact ih2 _ _ _ _ _ _ _ _ _ _ _ _ _ _ _ _ _)
   | (with_reducible exact ih3 _ _ _ _ _ _ _ _ _ _ _ _ _ _ _ _ _ _)
   | (with_reducible exact ih4 _ _ _ _ _ _ _ _ _ _ _ _ _ _ _ _ _ _)
   | (with_reducible exact ih5 _ _ _ _ _ _ _ _ _ _ _ _ _ _ _ _)
   | (with_reducible exact desk_Outbox.mono _ _ _ _ _ _ _ _)
   | (with_reducible exact desk_Patience.mono _ _ _ _ _ _)
   | (with_reducible exact interchangelaw12_works.mono _)
   | (with_reducible exact interchangeref12_Answers.mono _ _ _ _)
   | (with_reducible exact interchangeref12_Begins.mono _ _ _ _ _ _ _ _ _)
   | (with_reducible exact LeO.refl _)
   | (with_reducible exact LeO.none _)
   | (with_reducible refine LeO.ite ?_ ?_)
   | (with_reducible refine LeO.bind ?_ (fun _ => ?_))
   | exact ih0 _ _ _ _ _ _ _ _ _ _
   | exact ih1 _ _ _ _ _ _ _ _ _ _ _ _
   | exact ih2 _ _ _ _ _ _ _ _ _ _ _ _ _ _ _ _ _
   | exact ih3 _ _ _ _ _ _ _ _ _ _ _ _ _ _ _ _ _ _
   | exact ih4 _ _ _ _ _ _ _ _ _ _ _ _ _ _ _ _ _ _
   | exact ih5 _ _ _ _ _ _ _ _ _ _ _ _ _ _ _ _
   | exact desk_Outbox.mono _ _ _ _ _ _ _ _
   | exact desk_Patience.mono _ _ _ _ _ _
   | exact interchangelaw12_works.mono _
   | exact interchangeref12_Answers.mono _ _ _ _
   | exact interchangeref12_Begins.mono _ _ _ _ _ _ _ _ _
   | exact LeO.none _
   | refine LeO.ite ?_ ?_
   | refine LeO.bind ?_ (fun _ => ?_)
  ·intro y0 y1 y2 y3 y4 y5 y6 y7 y8 y9 y10 y11 y12 y13 y14 y15
   unfold interchangelaw12_DeskGivesUpLast.j5
   repeat' first
   | (with_reducible exact ih0 _ _ _ _ _ _ _ _ _ _)
   | (with_reducible exact ih1 _ _ _ _ _ _ _ _ _ _ _ _)
   | (with_reducible exact ih2 _ _ _ _ _ _ _ _ _ _ _ _ _ _ _ _ _)
   | (with_reducible exact ih3 _ _ _ _ _ _ _ _ _ _ _ _ _ _ _ _ _ _)
   | (with_reducible exact ih4 _ _ _ _ _ _ _ _ _ _ _ _ _ _ _ _ _ _)
   | (with_reducible exact ih5 _ _ _ _ _ _ _ _ _ _ _ _ _ _ _ _)
   | (with_reducible exact desk_Outbox.mono _ _ _ _ _ _ _ _)
   | (with_reducible exact desk_Patience.mono _ _ _ _ _ _)
   | (with_reducible exact interchangelaw12_works.mono _)
   | (with_reducible exact interchangeref12_Answers.mono _ _ _ _)
   | (with_reducible exact interchangeref12_Begins.mono _ _ _ _ _ _ _ _ _)
   | (with_reducible exact LeO.refl _)
   | (with_reducible exact LeO.none _)
   | (with_reducible refine LeO.ite ?_ ?_)
   | (with_reducible refine LeO.bind ?_ (fun _ => ?_))
   | exact ih0 _ _ _ _ _ _ _ _ _ _
   | exact ih1 _ _ _ _ _ _ _ _ _ _ _ _
   | exact ih2 _ _ _ _ _ _ _ _ _ _ _ _ _ _ _ _ _
   | exact ih3 _ _ _ _ _ _ _ _ _ _ _ _ _ _ _ _ _ _
   | exact ih4 _ _ _ _ _ _ _ _ _ _ _ _ _ _ _ _ _ _
   | exact ih5 _ _ _ _ _ _ _ _ _ _ _ _ _ _ _ _
   | exact desk_Outbox.mono _ _ _ _ _ _ _ _
   | exact desk_Patience.mono _ _ _ _ _ _
   | exact interchangelaw12_works.mono _
   | exact interchangeref12_Answers.mono _ _ _ _
   | exact interchangeref12_Begins.mono _ _ _ _ _ _ _ _ _
   | exact LeO.none _
   | refine LeO.ite ?_ ?_
   | refine LeO.bind ?_ (fun _ => ?_)
theorem interchangelaw12_DeskGivesUpLast.mono : ∀ a0 a1 a2 a3 a4 a5 a6 k, LeO (interchangelaw12_DeskGivesUpLast.f k a0 a1 a2 a3 a4 a5 a6) (interchangelaw12_DeskGivesUpLast.f (k + 1) a0 a1 a2 a3 a4 a5 a6) := by
 intro a0 a1 a2 a3 a4 a5 a6 k
 obtain ⟨ih0, ih1, ih2, ih3, ih4, ih5⟩ := interchangelaw12_DeskGivesUpLast.mono_l k
 unfold interchangelaw12_DeskGivesUpLast.f
 repeat' first
   | (with_reducible exact ih0 _ _ _ _ _ _ _ _ _ _)
   | (with_reducible exact ih1 _ _ _ _ _ _ _ _ _ _ _ _)
   | (with_reducible exact ih2 _ _ _ _ _ _ _ _ _ _ _ _ _ _ _ _ _)
   | (with_reducible exact ih3 _ _ _ _ _ _ _ _ _ _ _ _ _ _ _ _ _ _)
   | (with_reducible exact ih4 _ _ _ _ _ _ _ _ _ _ _ _ _ _ _ _ _ _)
   | (with_reducible exact ih5 _ _ _ _ _ _ _ _ _ _ _ _ _ _ _ _)
   | (with_reducible exact desk_Outbox.mono _ _ _ _ _ _ _ _)
   | (with_reducible exact desk_Patience.mono _ _ _ _ _ _)
   | (with_reducible exact interchangelaw12_works.mono _)
   | (with_reducible exact interchangeref12_Answers.mono _ _ _ _)
   | (with_reducible exact interchangeref12_Begins.mono _ _ _ _ _ _ _ _ _)
   | (with_reducible exact LeO.refl _)
   | (with_reducible exact LeO.none _)
   | (with_reducible refine LeO.ite ?_ ?_)
   | (with_reducible refine LeO.bind ?_ (fun _ => ?_))
   | exact ih0 _ _ _ _ _ _ _ _ _ _
   | exact ih1 _ _ _ _ _ _ _ _ _ _ _ _
   | exact ih2 _ _ _ _ _ _ _ _ _ _ _ _ _ _ _ _ _
   | exact ih3 _ _ _ _ _ _ _ _ _ _ _ _ _ _ _ _ _ _
   | exact ih4 _ _ _ _ _ _ _ _ _ _ _ _ _ _ _ _ _ _
   | exact ih5 _ _ _ _ _ _ _ _ _ _ _ _ _ _ _ _
   | exact desk_Outbox.mono _ _ _ _ _ _ _ _
   | exact desk_Patience.mono _ _ _ _ _ _
   | exact interchangelaw12_works.mono _
   | exact interchangeref12_Answers.mono _ _ _ _
   | exact interchangeref12_Begins.mono _ _ _ _ _ _ _ _ _
   | exact LeO.none _
   | refine LeO.ite ?_ ?_
   | refine LeO.bind ?_ (fun _ => ?_)
def interchangelaw12_DeskGivesUpLast.T15 : Bool × List (List Nat × List Nat) := (true, [([], []), ([0], [0]), ([1], [1]), ([2], [2]), ([3], [3]), ([3], [3]), ([3], [3]), ([5, 6, 3], [3, 5, 6]), ([7, 3], [3, 7]), ([8, 3], [3, 8]), ([3], [3]), ([10, 3], [3, 10]), ([4, 9, 11, 3, 3], [3, 4, 9, 11]), ([12, 3], [3, 12]), ([13, 12, 3], [3, 13]), ([14], [14]), ([15, 14], [14, 15]), ([14], [14]), ([16, 17, 14], [14, 16, 17]), ([14, 18, 3], [3, 14, 18]), ([19, 14, 3], [3, 19]), ([20], [20]), ([21, 20], [20, 21]), ([20], [20]), ([20], [20]), ([23, 24, 20], [20, 23, 24]), ([22, 25, 20], [20, 22, 25]), ([20, 26, 3], [3, 20, 26]), ([3, 27], [3, 27])])
def interchangelaw12_DeskGivesUpLast.B15 : List Nat := [0, 1, 3, 7, 15, 15, 15, 111, 239, 495, 15, 1039, 4095, 8191, 16383, 32767, 65535, 32767, 262143, 524287, 1048575, 2097151, 4194303, 2097151, 2097151, 27262975, 67108863, 134217727, 268435455]
theorem interchangelaw12_DeskGivesUpLast.tab15 : rtab .any (opsOf Tryd.f4 15) = interchangelaw12_DeskGivesUpLast.T15 := by kernel_rfl
theorem interchangelaw12_DeskGivesUpLast.bits15 : waitsOk interchangelaw12_DeskGivesUpLast.T15.2 interchangelaw12_DeskGivesUpLast.B15 = true := by kernel_rfl
def interchangelaw12_DeskGivesUpLast.T17 : Bool × List (List Nat × List Nat) := (true, [([], []), ([0], [0]), ([1], [1]), ([2], [2]), ([3], [3]), ([3], [3]), ([3], [3]), ([5, 6, 3], [3, 5, 6]), ([7, 3], [3, 7]), ([8, 3], [3, 8]), ([3], [3]), ([10, 3], [3, 10]), ([4, 9, 11, 3, 3], [3, 4, 9, 11]), ([12, 12, 3], [3, 12]), ([13], [13]), ([14, 13], [13, 14]), ([13], [13]), ([16, 13], [13, 16]), ([15, 17, 13], [13, 15, 17]), ([13, 18, 3], [3, 13, 18]), ([19, 13, 3], [3, 19]), ([20], [20]), ([21, 20], [20, 21]), ([20], [20]), ([20], [20]), ([23, 24, 20], [20, 23, 24]), ([22, 25, 20], [20, 22, 25]), ([20, 26, 3], [3, 20, 26]), ([3, 27], [3, 27])])
def interchangelaw12_DeskGivesUpLast.B17 : List Nat := [0, 1, 3, 7, 15, 15, 15, 111, 239, 495, 15, 1039, 4095, 8191, 16383, 32767, 16383, 81919, 262143, 524287, 1048575, 2097151, 4194303, 2097151, 2097151, 27262975, 67108863, 134217727, 268435455]
theorem interchangelaw12_DeskGivesUpLast.tab17 : rtab .any (opsOf Tryd.f4 17) = interchangelaw12_DeskGivesUpLast.T17 := by kernel_rfl
theorem interchangelaw12_DeskGivesUpLast.bits17 : waitsOk interchangelaw12_DeskGivesUpLast.T17.2 interchangelaw12_DeskGivesUpLast.B17 = true := by kernel_rfl
def interchangelaw12_DeskGivesUpLast.T19 : Bool × List (List Nat × List Nat) := (true, [([], []), ([0], [0]), ([1], [1]), ([2], [2]), ([3], [3]), ([4, 3], [3, 4]), ([5, 3], [3, 5]), ([6, 3], [3, 6]), ([3], [3]), ([8, 3], [3, 8]), ([9, 3], [3, 9]), ([10, 3], [3, 10]), ([7, 11, 3], [3, 7, 11]), ([3], [3]), ([12, 13, 3], [3, 12, 13]), ([3, 14], [3, 14]), ([15, 3], [15]), ([16], [16]), ([17, 16], [16, 17]), ([18, 16], [16, 18]), ([16, 19], [16, 19])])
def interchangelaw12_DeskGivesUpLast.B19 : List Nat := [0, 1, 3, 7, 15, 31, 63, 127, 15, 271, 783, 1807, 4095, 15, 16383, 32767, 65535, 131071, 262143, 524287, 1048575]
theorem interchangelaw12_DeskGivesUpLast.tab19 : rtab .any (opsOf Tryd.f4 19) = interchangelaw12_DeskGivesUpLast.T19 := by kernel_rfl
theorem interchangelaw12_DeskGivesUpLast.bits19 : waitsOk interchangelaw12_DeskGivesUpLast.T19.2 interchangelaw12_DeskGivesUpLast.B19 = true := by kernel_rfl
set_option maxHeartbeats 8000000 in
set_option maxRecDepth 100000 in
theorem interchangelaw12_DeskGivesUpLast.calls (k : Nat) (a0_0 : Int) (a0_1 : Int) (a0_2 : Int) (a0_3 : Int) (a0_4 : Bool) (A1 : Option Addr) (c1 : Nat) (l1 : List (S42)) (A2 : Option Addr) (c2 : Nat) (l2 : List (S44)) (r : Bool) (w : World) (hr1 : Kd.C k42 w A1 l1.length l1) (hc1 : l1.length ≤ c1) (hr2 : Kd.C k44 w A2 l2.length l2) (hc2 : l2.length ≤ c2) (h : interchangelaw12_DeskGivesUpLast.f k a0_0 a0_1 a0_2 a0_3 a0_4 l1 l2 = some r) (rt : r = true) :
  Calls Tryd.prog 4 #[.agg #[.int .i64 a0_0, .int .i64 a0_1, .int .i64 a0_2, .int .i64 a0_3, .bool a0_4], .slice A1 l1.length c1, .slice A2 l2.length c2] w fun e w' => e = .returned (.bool r) ∧ Below w.heap.size w w' := by
 have hu23 := Tryd.underlying23
 have hu34 := Tryd.underlying34
 have HR1 := Aside0.mk hr1
 have HC1 := Aside0.mk hc1
 clear hr1 hc1
 have HR2 := Aside0.mk hr2
 have HC2 := Aside0.mk hc2
 clear hr2 hc2
 have HB := Aside0.mk (Below.refl w.heap.size w)
 have H : ((desk_Outbox.f k a0_0 a0_1 a0_2 a0_3 a0_4 l1 l2).bind fun bt197 => (if bt197.2 = 0 then ((desk_Patience.f k a0_0 a0_1 a0_2 a0_3 a0_4).bind fun bt202 => (if bt202.2 = 0 then (if (bt197.1.length : Int) = (l1.length : Int) then ((interchangelaw12_works.f k).bind fun t204 => (interchangelaw12_DeskGivesUpLast.j0 k l1 l2 bt197.1 bt202.1 (!t204) a0_0 a0_1 a0_2 a0_3 a0_4)) else (interchangelaw12_DeskGivesUpLast.j0 k l1 l2 bt197.1 bt202.1 true a0_0 a0_1 a0_2 a0_3 a0_4)) else (interchangelaw12_DeskGivesUpLast.j0 k l1 l2 bt197.1 bt202.1 true a0_0 a0_1 a0_2 a0_3 a0_4))) else (if (bt197.1.length : Int) = 0 then ((interchangelaw12_works.f k).bind fun t201 => (some t201)) else (some false)))) = some r := h
 clear h
 have RT := Aside0.mk rt
 clear rt
 replace H := Option.bind_eq_some_iff.mp H
 obtain ⟨⟨t197, t200⟩, A40, H⟩ := H
 replace H : (if t200 = 0 then ((desk_Patience.f k a0_0 a0_1 a0_2 a0_3 a0_4).bind fun bt202 => (if bt202.2 = 0 then (if (t197.length : Int) = (l1.length : Int) then ((interchangelaw12_works.f k).bind fun t204 => (interchangelaw12_DeskGivesUpLast.j0 k l1 l2 t197 bt202.1 (!t204) a0_0 a0_1 a0_2 a0_3 a0_4)) else (interchangelaw12_DeskGivesUpLast.j0 k l1 l2 t197 bt202.1 true a0_0 a0_1 a0_2 a0_3 a0_4)) else (interchangelaw12_DeskGivesUpLast.j0 k l1 l2 t197 bt202.1 true a0_0 a0_1 a0_2 a0_3 a0_4))) else (if (t197.length : Int) = 0 then ((interchangelaw12_works.f k).bind fun t201 => (some t201)) else (some false))) = some r := H
 have A4 := Aside0.mk A40
 clear A40
 by_cases c5 : t200 = 0
 ·rw [if_pos c5] at H
  have c5b0 : (t200 == 0) = true := beq_iff_eq.mpr c5
  have c5b1 : (t200 != 0) = false := bne_eq_false_iff_eq.mpr c5
  clear c5
  replace H := Option.bind_eq_some_iff.mp H
  obtain ⟨⟨t202, t203⟩, A60, H⟩ := H
  replace H : (if t203 = 0 then (if (t197.length : Int) = (l1.length : Int) then ((interchangelaw12_works.f k).bind fun t204 => (interchangelaw12_DeskGivesUpLast.j0 k l1 l2 t197 t202 (!t204) a0_0 a0_1 a0_2 a0_3 a0_4)) else (interchangelaw12_DeskGivesUpLast.j0 k l1 l2 t197 t202 true a0_0 a0_1 a0_2 a0_3 a0_4)) else (interchangelaw12_DeskGivesUpLast.j0 k l1 l2 t197 t202 true a0_0 a0_1 a0_2 a0_3 a0_4)) = some r := H
  have A6 := Aside0.mk A60
  clear A60
  have HC7 := Aside0.mk H
  clear H
  go_enter Tryd.func4, Tryd.ntmps4
  go_upto_region 5 with (first | ((with_reducible refine gate_dst (N := 3) rfl ?_); (try (refine gate_guard (by rfl) ?_; dsimp only)); refine box_event ?hg (N := 3) ?hd (cs := #[.int .i64 a0_0, .int .i64 a0_1, .int .i64 a0_2, .int .i64 a0_3, .bool a0_4]) (t := 23) ?hr ?_; (case hd => rfl); (case hg => rfl); (case hr => first | (go_simp; done) | (go_simp; rfl)); intro gb196 hg w8 hbox hb; have n0_ := Aside0.mk (below_step (bl HB) hb); have n1_ := Aside0.mk (hbox); have n2_ := Aside0.mk ((by rw [hg]; exact (below_size (bl HB)) : w.heap.size ≤ gb196)); have n3_ := Aside0.mk ((by rw [hg]; exact (below_size (bl HB)) : w.heap.size ≤ gb196)); clear HB; have HB := n0_; have BK196 := n1_; have GW196 := n2_; have GE196 := n3_; clear n0_ n1_ n2_ n3_; clear hb hbox hg; have hcz9_0 : w8.cell? ⟨gb196, 0, none⟩ = some (.int .i64 a0_0) := (blk_cell BK196.out 0).trans rfl; have hcz9_1 : w8.cell? ⟨gb196, 1, none⟩ = some (.int .i64 a0_1) := (blk_cell BK196.out 1).trans rfl; have hcz9_2 : w8.cell? ⟨gb196, 2, none⟩ = some (.int .i64 a0_2) := (blk_cell BK196.out 2).trans rfl; have hcz9_3 : w8.cell? ⟨gb196, 3, none⟩ = some (.int .i64 a0_3) := (blk_cell BK196.out 3).trans rfl; have hcz9_4 : w8.cell? ⟨gb196, 4, none⟩ = some (.bool a0_4) := (blk_cell BK196.out 4).trans rfl; have hfz9_0 := blk_frozen BK196.out 0; have hfz9_1 := blk_frozen BK196.out 1; have hfz9_2 := blk_frozen BK196.out 2; have hfz9_3 := blk_frozen BK196.out 3; have hfz9_4 := blk_frozen BK196.out 4) | ((with_reducible refine gate_callee (f := 8) rfl ?_); refine goesL_ (some 17) rfl rfl Tryd.func8 (by kernel_rfl) rfl #[.agg #[.int .i64 a0_0, .int .i64 a0_1, .int .i64 a0_2, .int .i64 a0_3, .bool a0_4], .slice A1 l1.length c1, .slice A2 l2.length c2] rfl gs ?_; (with_reducible refine (desk_Outbox.calls k a0_0 a0_1 a0_2 a0_3 a0_4 _ _ l1 _ _ l2 t197 t200 _ ?side1 ?side2 ?side3 ?side4 A4.out).mono ?_); (case side1 => exact kc HR1 HB); (case side2 => exact HC1.out); (case side3 => exact kc HR2 HB); (case side4 => exact HC2.out); rintro e w10 ⟨v198, rfl, ho0, hb⟩; refine ⟨_, rfl, ?_⟩; have n0_ := Aside0.mk (Kd.R_lower ho0 (below_size (bl HB))); have n1_ := Aside0.mk (blk_below (g := gb196) (o := .cells #[.int .i64 a0_0, .int .i64 a0_1, .int .i64 a0_2, .int .i64 a0_3, .bool a0_4] 23 (0, 0)) (bk BK196) hb); have n2_ := Aside0.mk (below_step (bl HB) hb); clear BK196; clear HB; have HO199 := n0_; have BK196 := n1_; have HB := n2_; clear n0_ n1_ n2_; (try clear hb); (try clear hb2); (try clear hk); (try clear hi); (try clear ho0); have hcz11_0 : w10.cell? ⟨gb196, 0, none⟩ = some (.int .i64 a0_0) := (blk_cell BK196.out 0).trans rfl; have hcz11_1 : w10.cell? ⟨gb196, 1, none⟩ = some (.int .i64 a0_1) := (blk_cell BK196.out 1).trans rfl; have hcz11_2 : w10.cell? ⟨gb196, 2, none⟩ = some (.int .i64 a0_2) := (blk_cell BK196.out 2).trans rfl; have hcz11_3 : w10.cell? ⟨gb196, 3, none⟩ = some (.int .i64 a0_3) := (blk_cell BK196.out 3).trans rfl; have hcz11_4 : w10.cell? ⟨gb196, 4, none⟩ = some (.bool a0_4) := (blk_cell BK196.out 4).trans rfl; have hfz11_0 := blk_frozen BK196.out 0; have hfz11_1 := blk_frozen BK196.out 1; have hfz11_2 := blk_frozen BK196.out 2; have hfz11_3 := blk_frozen BK196.out 3; have hfz11_4 := blk_frozen BK196.out 4) | ((with_reducible refine gate_callee (f := 15) rfl ?_); refine goesL_ (some 30) rfl rfl Tryd.func15 (by kernel_rfl) rfl #[.agg #[.int .i64 a0_0, .int .i64 a0_1, .int .i64 a0_2, .int .i64 a0_3, .bool a0_4]] rfl gs ?_; (with_reducible refine (desk_Patience.calls k a0_0 a0_1 a0_2 a0_3 a0_4 t202 t203 _ A6.out).mono ?_); rintro e w12 ⟨rfl, hb⟩; refine ⟨_, rfl, ?_⟩; have n0_ := Aside0.mk (Kd.R_below (ra HO199) hb); have n1_ := Aside0.mk (blk_below (g := gb196) (o := .cells #[.int .i64 a0_0, .int .i64 a0_1, .int .i64 a0_2, .int .i64 a0_3, .bool a0_4] 23 (0, 0)) (bk BK196) hb); have n2_ := Aside0.mk (below_step (bl HB) hb); clear HO199; clear BK196; clear HB; have HO199 := n0_; have BK196 := n1_; have HB := n2_; clear n0_ n1_ n2_; (try clear hb); (try clear hb2); (try clear hk); (try clear hi)))
  (try simp only [Act.put, List.setIfInBounds_toArray, List.set_cons_zero, List.set_cons_succ])
  go_cut [45] (fun v45 wc => ∃ (kq : Nat) (x45_6 : Bool), v45 = .bool x45_6 ∧ Aside0 (interchangelaw12_DeskGivesUpLast.j0 kq l1 l2 t197 t202 x45_6 a0_0 a0_1 a0_2 a0_3 a0_4 = some r) ∧ Aside0 (kq ≤ k) ∧ Aside0 (Kd.R k34 34 wc w.heap.size (fun _ => True) v198 t197) ∧ Aside0 (wc.heap[gb196]? = some (.cells #[.int .i64 a0_0, .int .i64 a0_1, .int .i64 a0_2, .int .i64 a0_3, .bool a0_4] 23 (0, 0))) ∧ Aside0 (Below w.heap.size w wc))
  case first =>
   have H := HC7.out
   clear HC7
   by_cases c13 : t203 = 0
   ·rw [if_pos c13] at H
    have c13b0 : (t203 == 0) = true := beq_iff_eq.mpr c13
    have c13b1 : (t203 != 0) = false := bne_eq_false_iff_eq.mpr c13
    clear c13
    (first | rw [c13b0] | (simp only [i64_w, i32_w]; rw [c13b0]) | skip)
    by_cases c14 : (t197.length : Int) = (l1.length : Int)
    ·rw [if_pos c14] at H
     have c14b0 : ((t197.length : Int) == (l1.length : Int)) = true := beq_iff_eq.mpr c14
     have c14b1 : ((t197.length : Int) != (l1.length : Int)) = false := bne_eq_false_iff_eq.mpr c14
     have c14b2 : (t197.length == l1.length) = true := by first | simpa using c14 | (simp at c14 ⊢; omega)
     clear c14
     replace H := Option.bind_eq_some_iff.mp H
     obtain ⟨t204, A150, H⟩ := H
     replace H : (interchangelaw12_DeskGivesUpLast.j0 k l1 l2 t197 t202 (!t204) a0_0 a0_1 a0_2 a0_3 a0_4) = some r := H
     have A15 := Aside0.mk A150
     clear A150
     have H' := Aside0.mk H
     clear H
     obtain ⟨Ao16, co16, eo16⟩ := Kd.R_slice HO199.out
     subst eo16
     go_wp2_with (first | (go_at_call 14; (with_reducible refine (interchangelaw12_works.calls k  t204 _ A15.out).mono ?_); rintro e w17 ⟨rfl, hb⟩; have n0_ := Aside0.mk (Kd.R_below (ra HO199) hb); have n1_ := Aside0.mk (blk_below (g := gb196) (o := .cells #[.int .i64 a0_0, .int .i64 a0_1, .int .i64 a0_2, .int .i64 a0_3, .bool a0_4] 23 (0, 0)) (bk BK196) hb); have n2_ := Aside0.mk (below_step (bl HB) hb); clear HO199; clear BK196; clear HB; have HO199 := n0_; have BK196 := n1_; have HB := n2_; clear n0_ n1_ n2_; (try clear hb); (try clear hb2); (try clear hk); (try clear hi)))
     go_meet
     case rel => exact ⟨_, (!t204), (by first | rfl | (simp; done) | (simp [*]; done)), H', ⟨by first | omega | exact Nat.le_refl _⟩, ⟨ra HO199⟩, ⟨bk BK196⟩, ⟨bl HB⟩⟩
    ·rw [if_neg c14] at H
     have c14b0 : ((t197.length : Int) == (l1.length : Int)) = false := beq_eq_false_iff_ne.mpr c14
     have c14b1 : ((t197.length : Int) != (l1.length : Int)) = true := bne_iff_ne.mpr c14
     have c14b2 : (t197.length == l1.length) = false := by first | simpa using c14 | (simp at c14 ⊢; omega)
     cases k with
     | zero => exact absurd H (by simp [interchangelaw12_DeskGivesUpLast.j0])
     | succ kz_ => exact absurd ((Option.some.inj (show some false = some r from by simpa [interchangelaw12_DeskGivesUpLast.j0] using H)).trans RT.out) Bool.false_ne_true
   ·rw [if_neg c13] at H
    have c13b0 : (t203 == 0) = false := beq_eq_false_iff_ne.mpr c13
    have c13b1 : (t203 != 0) = true := bne_iff_ne.mpr c13
    (first | rw [c13b0] | (simp only [i64_w, i32_w]; rw [c13b0]) | skip)
    cases k with
    | zero => exact absurd H (by simp [interchangelaw12_DeskGivesUpLast.j0])
    | succ kz_ => exact absurd ((Option.some.inj (show some false = some r from by simpa [interchangelaw12_DeskGivesUpLast.j0] using H)).trans RT.out) Bool.false_ne_true
  case rest =>
   clear HC7
   try clear c1
   try clear c2
   try clear p2
   try clear c4
   try clear c5
   try clear c5b0
   try clear c5b1
   try clear c8
   try clear c13
   try clear c13b0
   try clear c13b1
   try clear c14
   try clear c14b0
   try clear c14b1
   try clear c14b2
   try clear c15
   try clear hcz11_0
   try clear hcz11_1
   try clear hcz11_2
   try clear hcz11_3
   try clear hcz11_4
   try clear hcz9_0
   try clear hcz9_1
   try clear hcz9_2
   try clear hcz9_3
   try clear hcz9_4
   try clear hfz11_0
   try clear hfz11_1
   try clear hfz11_2
   try clear hfz11_3
   try clear hfz11_4
   try clear hfz9_0
   try clear hfz9_1
   try clear hfz9_2
   try clear hfz9_3
   try clear hfz9_4
   obtain ⟨kq, x45_6, rfl, HA, HJ6, HO_7, BK196, HB⟩ := hcut
   cases kq with
   | zero => exact absurd HA.out (by simp [interchangelaw12_DeskGivesUpLast.j0])
   | succ kj6 =>
    have H := HA.out
    clear HA
    simp only [interchangelaw12_DeskGivesUpLast.j0] at H
    by_cases c18 : x45_6 = true
    ·subst c18
     have H1 : (some false) = some r := by rw [if_pos rfl] at H; exact H
     clear H
     have H := H1
     clear H1
     exact absurd ((Option.some.inj H).trans RT.out) Bool.false_ne_true
    ·replace c18 := Bool.eq_false_iff.mpr c18
     subst c18
     have H1 : (interchangelaw12_DeskGivesUpLast.l0 kj6 l1 l2 t197 t202 t197 (t197.length : Int) 0 a0_0 a0_1 a0_2 a0_3 a0_4) = some r := by rw [if_neg (show ¬ (false = true) by decide)] at H; exact H
     clear H
     have H := H1
     clear H1
     have H' := Aside0.mk H
     clear H
     obtain ⟨Ao19, co19, eo19⟩ := Kd.R_slice HO_7.out
     subst eo19
     go_wp2
     go_loopg [48] kj6 (fun kq v48 w' => ∃ (x48_2 : Int), v48 = .int .i64 x48_2 ∧ Aside0 (interchangelaw12_DeskGivesUpLast.l0 kq l1 l2 t197 t202 t197 (t197.length : Int) x48_2 a0_0 a0_1 a0_2 a0_3 a0_4 = some r) ∧ Aside0 (kq ≤ kj6) ∧ Aside0 (Kd.R k34 34 w' w.heap.size (fun _ => True) (.slice Ao19 t197.length co19) t197) ∧ Aside0 (Kd.R k34 34 w' w.heap.size (fun _ => True) (.slice Ao19 t197.length co19) t197) ∧ Aside0 (w'.heap[gb196]? = some (.cells #[.int .i64 a0_0, .int .i64 a0_1, .int .i64 a0_2, .int .i64 a0_3, .bool a0_4] 23 (0, 0))) ∧ Aside0 (Below w.heap.size w w'))
     case atStart => exact ⟨(0), (by first | rfl | (simp; done) | (simp [*]; done)), H', ⟨Nat.le_refl _⟩, ⟨ra HO_7⟩, ⟨ra HO_7⟩, ⟨bk BK196⟩, ⟨bl HB⟩⟩
     case round =>
      clear H'
      try clear c1
      try clear c2
      try clear p2
      try clear c4
      try clear c5
      try clear c5b0
      try clear c5b1
      try clear c8
      try clear c13
      try clear c13b0
      try clear c13b1
      try clear c14
      try clear c14b0
      try clear c14b1
      try clear c14b2
      try clear c15
      try clear c18
      try clear hcz11_0
      try clear hcz11_1
      try clear hcz11_2
      try clear hcz11_3
      try clear hcz11_4
      try clear hcz9_0
      try clear hcz9_1
      try clear hcz9_2
      try clear hcz9_3
      try clear hcz9_4
      try clear hfz11_0
      try clear hfz11_1
      try clear hfz11_2
      try clear hfz11_3
      try clear hfz11_4
      try clear hfz9_0
      try clear hfz9_1
      try clear hfz9_2
      try clear hfz9_3
      try clear hfz9_4
      try clear p2
      obtain ⟨x48_2, rfl, HA, HK2, HO_7, HO_46, BK196, HB⟩ := hrel
      cases gk with
      | zero => exact absurd HA.out (by simp [interchangelaw12_DeskGivesUpLast.l0])
      | succ k2 =>
       have H := HA.out
       clear HA
       simp only [interchangelaw12_DeskGivesUpLast.l0] at H
       by_cases c20 : x48_2 < (t197.length : Int)
       ·rw [if_pos c20] at H
        have c20b0 : decide (x48_2 < (t197.length : Int)) = true := decide_eq_true c20
        clear c20
        by_cases c21 : 0 ≤ x48_2
        ·rw [if_pos c21] at H
         have c21b0 : decide (0 ≤ x48_2) = true := decide_eq_true c21
         clear c21
         by_cases c22 : x48_2 < (t197.length : Int)
         ·rw [if_pos c22] at H
          have c22b0 : decide (x48_2 < (t197.length : Int)) = true := decide_eq_true c22
          clear c22
          have HC23 := Aside0.mk H
          clear H
          have p205 : 0 ≤ (x48_2 : Int) := of_decide_eq_true odt
          have q205 : x48_2 < (t197.length : Int) := of_decide_eq_true odt
          obtain ⟨ad205, e205, hx205_0, hx205_1, hx205_2⟩ := at_T34 (Kd.R_reads' HO_46.out).2.2 x48_2 p205 q205
          cases e205
          replace p205 := eq_true p205
          replace q205 := eq_true q205
          go_upto_region 10 with (first | ((with_reducible refine gate_dst (N := 11) rfl ?_); (try (refine gate_guard (by rfl) ?_; dsimp only)); refine box_event ?hg (N := 11) ?hd (cs := #[.int .i64 0, .int .i64 0, .int .i64 0]) (t := 34) ?hr ?_; (case hd => rfl); (case hg => rfl); (case hr => first | (go_simp; done) | (go_simp; rfl)); intro gb206 hg w24 hbox hb; have n0_ := Aside0.mk (Kd.R_below (Kd.R_elderB (ra HO_7) gb206 (Nat.le_of_eq hg.symm)) hb); have n1_ := Aside0.mk (Kd.R_below (Kd.R_elderB (ra HO_46) gb206 (Nat.le_of_eq hg.symm)) hb); have n2_ := Aside0.mk (blk_below (g := gb196) (o := .cells #[.int .i64 a0_0, .int .i64 a0_1, .int .i64 a0_2, .int .i64 a0_3, .bool a0_4] 23 (0, 0)) (bk BK196) hb); have n3_ := Aside0.mk (below_step (bl HB) hb); have n4_ := Aside0.mk (hbox); have n5_ := Aside0.mk ((by rw [hg]; exact (below_size (bl HB)) : w.heap.size ≤ gb206)); have n6_ := Aside0.mk ((by rw [hg]; exact (below_size (bl HB)) : w.heap.size ≤ gb206)); have n7_ := Aside0.mk ((by rw [hg]; exact Nat.ne_of_lt (blk_lt (g := gb196) (o := .cells #[.int .i64 a0_0, .int .i64 a0_1, .int .i64 a0_2, .int .i64 a0_3, .bool a0_4] 23 (0, 0)) (bk BK196)) : gb196 ≠ gb206)); have n8_ := Aside0.mk ((by rw [hg]; exact Nat.ne_of_gt (blk_lt (g := gb196) (o := .cells #[.int .i64 a0_0, .int .i64 a0_1, .int .i64 a0_2, .int .i64 a0_3, .bool a0_4] 23 (0, 0)) (bk BK196)) : gb206 ≠ gb196)); clear HO_7; clear HO_46; clear BK196; clear HB; have HO_7 := n0_; have HO_46 := n1_; have BK196 := n2_; have HB := n3_; have BK206 := n4_; have GW206 := n5_; have GE206 := n6_; have NB196_206 := n7_; have NB206_196 := n8_; clear n0_ n1_ n2_ n3_ n4_ n5_ n6_ n7_ n8_; clear hb hbox hg; have hnb25 := NB206_196.out; have hnc25 := NB196_206.out; have hcz26_0 : w24.cell? ⟨gb206, 0, none⟩ = some (.int .i64 0) := (blk_cell BK206.out 0).trans rfl; have hcz26_1 : w24.cell? ⟨gb206, 1, none⟩ = some (.int .i64 0) := (blk_cell BK206.out 1).trans rfl; have hcz26_2 : w24.cell? ⟨gb206, 2, none⟩ = some (.int .i64 0) := (blk_cell BK206.out 2).trans rfl; have hfz26_0 := blk_frozen BK206.out 0; have hfz26_1 := blk_frozen BK206.out 1; have hfz26_2 := blk_frozen BK206.out 2))
          (try simp only [Act.put, List.setIfInBounds_toArray, List.set_cons_zero, List.set_cons_succ])
          go_cut [71] (fun v71 wc => ∃ (kq : Nat) (x71_22 : Bool), v71 = .bool x71_22 ∧ Aside0 (interchangelaw12_DeskGivesUpLast.j2 kq l1 l2 t197 t202 x48_2 t197 (t197.length : Int) x48_2 x71_22 a0_0 a0_1 a0_2 a0_3 a0_4 ((rd_T34 t197 x48_2).f0) ((rd_T34 t197 x48_2).f1) ((rd_T34 t197 x48_2).f2) = some r) ∧ Aside0 (kq ≤ k2) ∧ Aside0 (Kd.R k34 34 wc w.heap.size (fun k_ => k_ ≠ gb206) (.slice (some ad205) t197.length co19) t197) ∧ Aside0 (Kd.R k34 34 wc w.heap.size (fun k_ => k_ ≠ gb206) (.slice (some ad205) t197.length co19) t197) ∧ Aside0 (wc.heap[gb196]? = some (.cells #[.int .i64 a0_0, .int .i64 a0_1, .int .i64 a0_2, .int .i64 a0_3, .bool a0_4] 23 (0, 0))) ∧ Aside0 (wc.heap[gb206]? = some (.cells #[.int .i64 ((rd_T34 t197 x48_2).f0), .int .i64 ((rd_T34 t197 x48_2).f1), .int .i64 ((rd_T34 t197 x48_2).f2)] 34 (0, 0))) ∧ Aside0 (Below w.heap.size w wc))
          case first =>
           have H := HC23.out
           clear HC23
           by_cases c27 : ((decide (((rd_T34 t197 x48_2).f1) < 0)) == (decide (((rd_T34 t197 x48_2).f2) < 0))) = true
           ·rw [if_pos c27] at H
            have c27b0 : ((decide (((rd_T34 t197 x48_2).f1) < 0)) == (decide (((rd_T34 t197 x48_2).f2) < 0))) = true := c27
            (try (have c27b1 : decide ((decide (((rd_T34 t197 x48_2).f1) < 0)) = (decide (((rd_T34 t197 x48_2).f2) < 0))) = true := by simpa using c27))
            (try (have c27b2 : ((decide (((rd_T34 t197 x48_2).f1) < 0)) == (decide (((rd_T34 t197 x48_2).f2) < 0))) = true := by simpa using c27))
            clear c27
            (first | rw [c27b0] | (simp only [i64_w, i32_w]; rw [c27b0]) | skip)
            cases k2 with
            | zero => exact absurd H (by simp [interchangelaw12_DeskGivesUpLast.j2])
            | succ kz_ => exact absurd ((Option.some.inj (show some false = some r from by simpa [interchangelaw12_DeskGivesUpLast.j2] using H)).trans RT.out) Bool.false_ne_true
           ·rw [if_neg c27] at H
            have c27b0 : ((decide (((rd_T34 t197 x48_2).f1) < 0)) == (decide (((rd_T34 t197 x48_2).f2) < 0))) = false := by simpa using c27
            (try (have c27b1 : decide ((decide (((rd_T34 t197 x48_2).f1) < 0)) = (decide (((rd_T34 t197 x48_2).f2) < 0))) = false := by simpa using c27))
            (try (have c27b2 : ((decide (((rd_T34 t197 x48_2).f1) < 0)) == (decide (((rd_T34 t197 x48_2).f2) < 0))) = false := by simpa using c27))
            (try (have c27b3 : ¬ ((decide (((rd_T34 t197 x48_2).f1) < 0)) = (decide (((rd_T34 t197 x48_2).f2) < 0))) := by simpa using c27))
            clear c27
            (first | rw [c27b0] | (simp only [i64_w, i32_w]; rw [c27b0]) | skip)
            by_cases c28 : ((rd_T34 t197 x48_2).f0) < 1
            ·rw [if_pos c28] at H
             have c28b0 : decide (((rd_T34 t197 x48_2).f0) < 1) = true := decide_eq_true c28
             clear c28
             cases k2 with
             | zero => exact absurd H (by simp [interchangelaw12_DeskGivesUpLast.j2])
             | succ kz_ => exact absurd ((Option.some.inj (show some false = some r from by simpa [interchangelaw12_DeskGivesUpLast.j2] using H)).trans RT.out) Bool.false_ne_true
            ·rw [if_neg c28] at H
             have c28b0 : decide (((rd_T34 t197 x48_2).f0) < 1) = false := decide_eq_false c28
             clear c28
             have H' := Aside0.mk H
             clear H
             have hnb29 := NB206_196.out
             have hnc29 := NB196_206.out
             have hcz30_0 : w24.cell? ⟨gb206, 0, none⟩ = some (.int .i64 0) := (blk_cell BK206.out 0).trans rfl
             have hcz30_1 : w24.cell? ⟨gb206, 1, none⟩ = some (.int .i64 0) := (blk_cell BK206.out 1).trans rfl
             have hcz30_2 : w24.cell? ⟨gb206, 2, none⟩ = some (.int .i64 0) := (blk_cell BK206.out 2).trans rfl
             have hfz30_0 := blk_frozen BK206.out 0
             have hfz30_1 := blk_frozen BK206.out 1
             have hfz30_2 := blk_frozen BK206.out 2
             have hcz31_0 : w24.cell? ⟨gb196, 0, none⟩ = some (.int .i64 a0_0) := (blk_cell BK196.out 0).trans rfl
             have hcz31_1 : w24.cell? ⟨gb196, 1, none⟩ = some (.int .i64 a0_1) := (blk_cell BK196.out 1).trans rfl
             have hcz31_2 : w24.cell? ⟨gb196, 2, none⟩ = some (.int .i64 a0_2) := (blk_cell BK196.out 2).trans rfl
             have hcz31_3 : w24.cell? ⟨gb196, 3, none⟩ = some (.int .i64 a0_3) := (blk_cell BK196.out 3).trans rfl
             have hcz31_4 : w24.cell? ⟨gb196, 4, none⟩ = some (.bool a0_4) := (blk_cell BK196.out 4).trans rfl
             have hfz31_0 := blk_frozen BK196.out 0
             have hfz31_1 := blk_frozen BK196.out 1
             have hfz31_2 := blk_frozen BK196.out 2
             have hfz31_3 := blk_frozen BK196.out 3
             have hfz31_4 := blk_frozen BK196.out 4
             go_wp2
             go_meet
             case rel => exact ⟨_, (decide (((rd_T34 t197 x48_2).f0) > a0_3)), (by first | rfl | (simp; done) | (simp [*]; done)), H', ⟨by have := HJ6.out; have := HK2.out; first | omega | exact Nat.le_refl _⟩, ⟨by (with_reducible repeat (first | apply Kd.R_alloc | apply Kd.R_drewN | apply Kd.R_drew)); exact Kd.R_mono (Kd.R_far (p := ⟨gb206, 2, none⟩) (Kd.R_far (p := ⟨gb206, 1, none⟩) (Kd.R_far (p := ⟨gb206, 0, none⟩) (Kd.R_mono HO_7.out (fun k_ hk => (⟨hk, hk.2⟩ : _ ∧ k_ ≠ gb206))) (fun _ hk => hk.2) (.int .i64 ((rd_T34 t197 x48_2).f0))) (fun _ hk => hk.2) (.int .i64 ((rd_T34 t197 x48_2).f1))) (fun _ hk => hk.2) (.int .i64 ((rd_T34 t197 x48_2).f2))) (fun _ hk => hk.1.2)⟩, ⟨by (with_reducible repeat (first | apply Kd.R_alloc | apply Kd.R_drewN | apply Kd.R_drew)); exact Kd.R_mono (Kd.R_far (p := ⟨gb206, 2, none⟩) (Kd.R_far (p := ⟨gb206, 1, none⟩) (Kd.R_far (p := ⟨gb206, 0, none⟩) (Kd.R_mono HO_46.out (fun k_ hk => (⟨hk, hk.2⟩ : _ ∧ k_ ≠ gb206))) (fun _ hk => hk.2) (.int .i64 ((rd_T34 t197 x48_2).f0))) (fun _ hk => hk.2) (.int .i64 ((rd_T34 t197 x48_2).f1))) (fun _ hk => hk.2) (.int .i64 ((rd_T34 t197 x48_2).f2))) (fun _ hk => hk.1.2)⟩, ⟨by (with_reducible repeat (first | refine blk_drewN ?_ _ | refine blk_drew ?_ | refine blk_alloc ?_ _)); refine blk_far ?_ NB196_206.out _; (with_reducible repeat (first | refine blk_drewN ?_ _ | refine blk_drew ?_ | refine blk_alloc ?_ _)); refine blk_far ?_ NB196_206.out _; (with_reducible repeat (first | refine blk_drewN ?_ _ | refine blk_drew ?_ | refine blk_alloc ?_ _)); refine blk_far ?_ NB196_206.out _; (with_reducible repeat (first | refine blk_drewN ?_ _ | refine blk_drew ?_ | refine blk_alloc ?_ _)); exact BK196.out⟩, ⟨by (with_reducible repeat (first | refine blk_drewN ?_ _ | refine blk_drew ?_ | refine blk_alloc ?_ _)); refine blk_put (cs := #[.int .i64 ((rd_T34 t197 x48_2).f0), .int .i64 ((rd_T34 t197 x48_2).f1), .int .i64 0]) ?_ 2 _ rfl; (with_reducible repeat (first | refine blk_drewN ?_ _ | refine blk_drew ?_ | refine blk_alloc ?_ _)); refine blk_put (cs := #[.int .i64 ((rd_T34 t197 x48_2).f0), .int .i64 0, .int .i64 0]) ?_ 1 _ rfl; (with_reducible repeat (first | refine blk_drewN ?_ _ | refine blk_drew ?_ | refine blk_alloc ?_ _)); refine blk_put (cs := #[.int .i64 0, .int .i64 0, .int .i64 0]) ?_ 0 _ rfl; (with_reducible repeat (first | refine blk_drewN ?_ _ | refine blk_drew ?_ | refine blk_alloc ?_ _)); exact BK206.out⟩, ⟨bl HB⟩⟩
          case rest =>
           clear HC23
           try clear c1
           try clear c2
           try clear p2
           try clear q2
           try clear hx2
           try clear c4
           try clear c5
           try clear c5b0
           try clear c5b1
           try clear c8
           try clear c13
           try clear c13b0
           try clear c13b1
           try clear c14
           try clear c14b0
           try clear c14b1
           try clear c14b2
           try clear c15
           try clear c18
           try clear c20
           try clear c20b0
           try clear p20
           try clear q20
           try clear hx20
           try clear c21
           try clear c21b0
           try clear c22
           try clear c22b0
           try clear c25
           try clear c27
           try clear c27b0
           try clear c27b1
           try clear c27b2
           try clear c28
           try clear c28b0
           try clear c29
           try clear hcz11_0
           try clear hcz11_1
           try clear hcz11_2
           try clear hcz11_3
           try clear hcz11_4
           try clear hcz26_0
           try clear hcz26_1
           try clear hcz26_2
           try clear hcz30_0
           try clear hcz30_1
           try clear hcz30_2
           try clear hcz31_0
           try clear hcz31_1
           try clear hcz31_2
           try clear hcz31_3
           try clear hcz31_4
           try clear hcz9_0
           try clear hcz9_1
           try clear hcz9_2
           try clear hcz9_3
           try clear hcz9_4
           try clear hfz11_0
           try clear hfz11_1
           try clear hfz11_2
           try clear hfz11_3
           try clear hfz11_4
           try clear hfz26_0
           try clear hfz26_1
           try clear hfz26_2
           try clear hfz30_0
           try clear hfz30_1
           try clear hfz30_2
           try clear hfz31_0
           try clear hfz31_1
           try clear hfz31_2
           try clear hfz31_3
           try clear hfz31_4
           try clear hfz9_0
           try clear hfz9_1
           try clear hfz9_2
           try clear hfz9_3
           try clear hfz9_4
           try clear hx205_0
           try clear hx205_1
           try clear hx205_2
           try clear p2
           try clear p205
           try clear q205
           obtain ⟨kq, x71_22, rfl, HA, HJ22, HO_7, HO_46, BK196, BK206, HB⟩ := hcut
           cases kq with
           | zero => exact absurd HA.out (by simp [interchangelaw12_DeskGivesUpLast.j2])
           | succ kj22 =>
            have H := HA.out
            clear HA
            simp only [interchangelaw12_DeskGivesUpLast.j2] at H
            by_cases c32 : x71_22 = true
            ·subst c32
             have H1 : (some false) = some r := by rw [if_pos rfl] at H; exact H
             clear H
             have H := H1
             clear H1
             exact absurd ((Option.some.inj H).trans RT.out) Bool.false_ne_true
            ·replace c32 := Bool.eq_false_iff.mpr c32
             subst c32
             have H1 : ((interchangeref12_Begins.f kj22 a0_0 a0_1 a0_2 a0_3 a0_4 l1 t197 x48_2).bind fun t207 => (if 0 ≤ x48_2 then (if x48_2 < (l1.length : Int) then ((interchangeref12_Answers.f kj22 l2 ((rd_T42 l1 x48_2).f0) t207).bind fun t209 => (if t209 = true then (interchangelaw12_DeskGivesUpLast.j3 kj22 l1 l2 t197 t202 x48_2 t207 t197 (t197.length : Int) x48_2 false a0_0 a0_1 a0_2 a0_3 a0_4 ((rd_T34 t197 x48_2).f0) ((rd_T34 t197 x48_2).f1) ((rd_T34 t197 x48_2).f2)) else (if ((rd_T34 t197 x48_2).f0) = 1 then (interchangelaw12_DeskGivesUpLast.j3 kj22 l1 l2 t197 t202 x48_2 t207 t197 (t197.length : Int) x48_2 (decide (a0_3 > 1)) a0_0 a0_1 a0_2 a0_3 a0_4 ((rd_T34 t197 x48_2).f0) ((rd_T34 t197 x48_2).f1) ((rd_T34 t197 x48_2).f2)) else (interchangelaw12_DeskGivesUpLast.j3 kj22 l1 l2 t197 t202 x48_2 t207 t197 (t197.length : Int) x48_2 false a0_0 a0_1 a0_2 a0_3 a0_4 ((rd_T34 t197 x48_2).f0) ((rd_T34 t197 x48_2).f1) ((rd_T34 t197 x48_2).f2))))) else (none)) else (none))) = some r := by rw [if_neg (show ¬ (false = true) by decide)] at H; exact H
             clear H
             have H := H1
             clear H1
             replace H := Option.bind_eq_some_iff.mp H
             obtain ⟨t207, A330, H⟩ := H
             replace H : (if 0 ≤ x48_2 then (if x48_2 < (l1.length : Int) then ((interchangeref12_Answers.f kj22 l2 ((rd_T42 l1 x48_2).f0) t207).bind fun t209 => (if t209 = true then (interchangelaw12_DeskGivesUpLast.j3 kj22 l1 l2 t197 t202 x48_2 t207 t197 (t197.length : Int) x48_2 false a0_0 a0_1 a0_2 a0_3 a0_4 ((rd_T34 t197 x48_2).f0) ((rd_T34 t197 x48_2).f1) ((rd_T34 t197 x48_2).f2)) else (if ((rd_T34 t197 x48_2).f0) = 1 then (interchangelaw12_DeskGivesUpLast.j3 kj22 l1 l2 t197 t202 x48_2 t207 t197 (t197.length : Int) x48_2 (decide (a0_3 > 1)) a0_0 a0_1 a0_2 a0_3 a0_4 ((rd_T34 t197 x48_2).f0) ((rd_T34 t197 x48_2).f1) ((rd_T34 t197 x48_2).f2)) else (interchangelaw12_DeskGivesUpLast.j3 kj22 l1 l2 t197 t202 x48_2 t207 t197 (t197.length : Int) x48_2 false a0_0 a0_1 a0_2 a0_3 a0_4 ((rd_T34 t197 x48_2).f0) ((rd_T34 t197 x48_2).f1) ((rd_T34 t197 x48_2).f2))))) else (none)) else (none)) = some r := H
             have A33 := Aside0.mk A330
             clear A330
             have HC34 := Aside0.mk H
             clear H
             have hnb35 := NB196_206.out
             have hnc35 := NB206_196.out
             have hcz36_0 : wc.cell? ⟨gb196, 0, none⟩ = some (.int .i64 a0_0) := (blk_cell BK196.out 0).trans rfl
             have hcz36_1 : wc.cell? ⟨gb196, 1, none⟩ = some (.int .i64 a0_1) := (blk_cell BK196.out 1).trans rfl
             have hcz36_2 : wc.cell? ⟨gb196, 2, none⟩ = some (.int .i64 a0_2) := (blk_cell BK196.out 2).trans rfl
             have hcz36_3 : wc.cell? ⟨gb196, 3, none⟩ = some (.int .i64 a0_3) := (blk_cell BK196.out 3).trans rfl
             have hcz36_4 : wc.cell? ⟨gb196, 4, none⟩ = some (.bool a0_4) := (blk_cell BK196.out 4).trans rfl
             have hfz36_0 := blk_frozen BK196.out 0
             have hfz36_1 := blk_frozen BK196.out 1
             have hfz36_2 := blk_frozen BK196.out 2
             have hfz36_3 := blk_frozen BK196.out 3
             have hfz36_4 := blk_frozen BK196.out 4
             go_upto_region 13 with (first | ((with_reducible refine gate_callee (f := 16) rfl ?_); refine goesL_ (some 76) rfl rfl Tryd.func16 (by kernel_rfl) rfl #[.agg #[.int .i64 a0_0, .int .i64 a0_1, .int .i64 a0_2, .int .i64 a0_3, .bool a0_4], .slice A1 l1.length c1, .slice (some ad205) t197.length co19, .int .i64 x48_2] rfl gs ?_; (with_reducible refine (interchangeref12_Begins.calls kj22 a0_0 a0_1 a0_2 a0_3 a0_4 _ _ l1 _ _ t197 x48_2 t207 _ ?side1 ?side2 ?side3 ?side4 A33.out).mono ?_); (case side1 => exact kc HR1 HB); (case side2 => exact HC1.out); (case side3 => repeat (first | exact (Kd.R_reads' HO_7.out).2.2 | (with_reducible refine Kd.C_alloc ?_ _) | (with_reducible refine Kd.C_drewN ?_ _) | (with_reducible refine Kd.C_drew ?_))); (case side4 => exact (Kd.R_reads' HO_7.out).2.1); rintro e w37 ⟨rfl, hb⟩; refine ⟨_, rfl, ?_⟩; have n0_ := Aside0.mk (Kd.R_below (ra HO_7) hb); have n1_ := Aside0.mk (Kd.R_below (ra HO_46) hb); have n2_ := Aside0.mk (blk_below (g := gb196) (o := .cells #[.int .i64 a0_0, .int .i64 a0_1, .int .i64 a0_2, .int .i64 a0_3, .bool a0_4] 23 (0, 0)) (bk BK196) hb); have n3_ := Aside0.mk (blk_below (g := gb206) (o := .cells #[.int .i64 ((rd_T34 t197 x48_2).f0), .int .i64 ((rd_T34 t197 x48_2).f1), .int .i64 ((rd_T34 t197 x48_2).f2)] 34 (0, 0)) (bk BK206) hb); have n4_ := Aside0.mk (below_step (bl HB) hb); clear HO_7; clear HO_46; clear BK196; clear BK206; clear HB; have HO_7 := n0_; have HO_46 := n1_; have BK196 := n2_; have BK206 := n3_; have HB := n4_; clear n0_ n1_ n2_ n3_ n4_; (try clear hb); (try clear hb2); (try clear hk); (try clear hi)))
             (try simp only [Act.put, List.setIfInBounds_toArray, List.set_cons_zero, List.set_cons_succ])
             go_cut [95] (fun v95 wc => ∃ (kq : Nat) (x95_33 : Bool), v95 = .bool x95_33 ∧ Aside0 (interchangelaw12_DeskGivesUpLast.j3 kq l1 l2 t197 t202 x48_2 t207 t197 (t197.length : Int) x48_2 x95_33 a0_0 a0_1 a0_2 a0_3 a0_4 ((rd_T34 t197 x48_2).f0) ((rd_T34 t197 x48_2).f1) ((rd_T34 t197 x48_2).f2) = some r) ∧ Aside0 (kq ≤ kj22) ∧ Aside0 (Kd.R k34 34 wc w.heap.size (fun k_ => k_ ≠ gb206) (.slice (some ad205) t197.length co19) t197) ∧ Aside0 (Kd.R k34 34 wc w.heap.size (fun k_ => k_ ≠ gb206) (.slice (some ad205) t197.length co19) t197) ∧ Aside0 (wc.heap[gb196]? = some (.cells #[.int .i64 a0_0, .int .i64 a0_1, .int .i64 a0_2, .int .i64 a0_3, .bool a0_4] 23 (0, 0))) ∧ Aside0 (wc.heap[gb206]? = some (.cells #[.int .i64 ((rd_T34 t197 x48_2).f0), .int .i64 ((rd_T34 t197 x48_2).f1), .int .i64 ((rd_T34 t197 x48_2).f2)] 34 (0, 0))) ∧ Aside0 (Below w.heap.size w wc))
             case first =>
              have H := HC34.out
              clear HC34
              by_cases c38 : 0 ≤ x48_2
              ·rw [if_pos c38] at H
               have c38b0 : decide (0 ≤ x48_2) = true := decide_eq_true c38
               clear c38
               (first | rw [c38b0] | (simp only [i64_w, i32_w]; rw [c38b0]) | skip)
               by_cases c39 : x48_2 < (l1.length : Int)
               ·rw [if_pos c39] at H
                have c39b0 : decide (x48_2 < (l1.length : Int)) = true := decide_eq_true c39
                clear c39
                replace H := Option.bind_eq_some_iff.mp H
                obtain ⟨t209, A400, H⟩ := H
                replace H : (if t209 = true then (interchangelaw12_DeskGivesUpLast.j3 kj22 l1 l2 t197 t202 x48_2 t207 t197 (t197.length : Int) x48_2 false a0_0 a0_1 a0_2 a0_3 a0_4 ((rd_T34 t197 x48_2).f0) ((rd_T34 t197 x48_2).f1) ((rd_T34 t197 x48_2).f2)) else (if ((rd_T34 t197 x48_2).f0) = 1 then (interchangelaw12_DeskGivesUpLast.j3 kj22 l1 l2 t197 t202 x48_2 t207 t197 (t197.length : Int) x48_2 (decide (a0_3 > 1)) a0_0 a0_1 a0_2 a0_3 a0_4 ((rd_T34 t197 x48_2).f0) ((rd_T34 t197 x48_2).f1) ((rd_T34 t197 x48_2).f2)) else (interchangelaw12_DeskGivesUpLast.j3 kj22 l1 l2 t197 t202 x48_2 t207 t197 (t197.length : Int) x48_2 false a0_0 a0_1 a0_2 a0_3 a0_4 ((rd_T34 t197 x48_2).f0) ((rd_T34 t197 x48_2).f1) ((rd_T34 t197 x48_2).f2)))) = some r := H
                have A40 := Aside0.mk A400
                clear A400
                by_cases c41 : t209 = true
                ·subst c41
                 have H1 : (interchangelaw12_DeskGivesUpLast.j3 kj22 l1 l2 t197 t202 x48_2 t207 t197 (t197.length : Int) x48_2 false a0_0 a0_1 a0_2 a0_3 a0_4 ((rd_T34 t197 x48_2).f0) ((rd_T34 t197 x48_2).f1) ((rd_T34 t197 x48_2).f2)) = some r := by rw [if_pos rfl] at H; exact H
                 clear H
                 have H := H1
                 clear H1
                 have H' := Aside0.mk H
                 clear H
                 have p208 : 0 ≤ (x48_2 : Int) := of_decide_eq_true odt
                 have q208 : x48_2 < (l1.length : Int) := of_decide_eq_true odt
                 obtain ⟨ad208, e208, hx208_0, hx208_1⟩ := at_T42 HR1.out x48_2 p208 q208
                 cases e208
                 replace hx208_0 := (HB.out.cell (World.block_lt_of_cell? w _ hx208_0)).trans hx208_0
                 replace hx208_1 := (HB.out.cell (World.block_lt_of_cell? w _ hx208_1)).trans hx208_1
                 replace p208 := eq_true p208
                 replace q208 := eq_true q208
                 go_wp2_with (first | ((with_reducible refine gate_callee (f := 17) rfl ?_); refine goesL_ (some 84) rfl rfl Tryd.func17 (by kernel_rfl) rfl #[.slice A2 l2.length c2, .string ((rd_T42 l1 x48_2).f0), .int .i64 t207] rfl gs ?_; (with_reducible refine (interchangeref12_Answers.calls kj22 _ _ l2 ((rd_T42 l1 x48_2).f0) t207 true _ ?side1 ?side2 A40.out).mono ?_); (case side1 => exact kc HR2 HB); (case side2 => exact HC2.out); rintro e w42 ⟨rfl, hb⟩; refine ⟨_, rfl, ?_⟩; have n0_ := Aside0.mk (Kd.R_below (ra HO_7) hb); have n1_ := Aside0.mk (Kd.R_below (ra HO_46) hb); have n2_ := Aside0.mk (blk_below (g := gb196) (o := .cells #[.int .i64 a0_0, .int .i64 a0_1, .int .i64 a0_2, .int .i64 a0_3, .bool a0_4] 23 (0, 0)) (bk BK196) hb); have n3_ := Aside0.mk (blk_below (g := gb206) (o := .cells #[.int .i64 ((rd_T34 t197 x48_2).f0), .int .i64 ((rd_T34 t197 x48_2).f1), .int .i64 ((rd_T34 t197 x48_2).f2)] 34 (0, 0)) (bk BK206) hb); have n4_ := Aside0.mk (below_step (bl HB) hb); clear HO_7; clear HO_46; clear BK196; clear BK206; clear HB; have HO_7 := n0_; have HO_46 := n1_; have BK196 := n2_; have BK206 := n3_; have HB := n4_; clear n0_ n1_ n2_ n3_ n4_; (try clear hb); (try clear hb2); (try clear hk); (try clear hi)))
                 go_meet
                 case rel => exact ⟨_, (false), (by first | rfl | (simp; done) | (simp [*]; done)), H', ⟨by have := HJ6.out; have := HK2.out; have := HJ22.out; first | omega | exact Nat.le_refl _⟩, ⟨ra HO_7⟩, ⟨ra HO_46⟩, ⟨bk BK196⟩, ⟨bk BK206⟩, ⟨bl HB⟩⟩
                ·replace c41 := Bool.eq_false_iff.mpr c41
                 subst c41
                 have H1 : (if ((rd_T34 t197 x48_2).f0) = 1 then (interchangelaw12_DeskGivesUpLast.j3 kj22 l1 l2 t197 t202 x48_2 t207 t197 (t197.length : Int) x48_2 (decide (a0_3 > 1)) a0_0 a0_1 a0_2 a0_3 a0_4 ((rd_T34 t197 x48_2).f0) ((rd_T34 t197 x48_2).f1) ((rd_T34 t197 x48_2).f2)) else (interchangelaw12_DeskGivesUpLast.j3 kj22 l1 l2 t197 t202 x48_2 t207 t197 (t197.length : Int) x48_2 false a0_0 a0_1 a0_2 a0_3 a0_4 ((rd_T34 t197 x48_2).f0) ((rd_T34 t197 x48_2).f1) ((rd_T34 t197 x48_2).f2))) = some r := by rw [if_neg (show ¬ (false = true) by decide)] at H; exact H
                 clear H
                 have H := H1
                 clear H1
                 by_cases c43 : ((rd_T34 t197 x48_2).f0) = 1
                 ·rw [if_pos c43] at H
                  have c43b0 : (((rd_T34 t197 x48_2).f0) == 1) = true := beq_iff_eq.mpr c43
                  have c43b1 : (((rd_T34 t197 x48_2).f0) != 1) = false := bne_eq_false_iff_eq.mpr c43
                  clear c43
                  have H' := Aside0.mk H
                  clear H
                  have p208 : 0 ≤ (x48_2 : Int) := of_decide_eq_true odt
                  have q208 : x48_2 < (l1.length : Int) := of_decide_eq_true odt
                  obtain ⟨ad208, e208, hx208_0, hx208_1⟩ := at_T42 HR1.out x48_2 p208 q208
                  cases e208
                  replace hx208_0 := (HB.out.cell (World.block_lt_of_cell? w _ hx208_0)).trans hx208_0
                  replace hx208_1 := (HB.out.cell (World.block_lt_of_cell? w _ hx208_1)).trans hx208_1
                  replace p208 := eq_true p208
                  replace q208 := eq_true q208
                  go_wp2_with (first | ((with_reducible refine gate_callee (f := 17) rfl ?_); refine goesL_ (some 84) rfl rfl Tryd.func17 (by kernel_rfl) rfl #[.slice A2 l2.length c2, .string ((rd_T42 l1 x48_2).f0), .int .i64 t207] rfl gs ?_; (with_reducible refine (interchangeref12_Answers.calls kj22 _ _ l2 ((rd_T42 l1 x48_2).f0) t207 false _ ?side1 ?side2 A40.out).mono ?_); (case side1 => exact kc HR2 HB); (case side2 => exact HC2.out); rintro e w44 ⟨rfl, hb⟩; refine ⟨_, rfl, ?_⟩; have n0_ := Aside0.mk (Kd.R_below (ra HO_7) hb); have n1_ := Aside0.mk (Kd.R_below (ra HO_46) hb); have n2_ := Aside0.mk (blk_below (g := gb196) (o := .cells #[.int .i64 a0_0, .int .i64 a0_1, .int .i64 a0_2, .int .i64 a0_3, .bool a0_4] 23 (0, 0)) (bk BK196) hb); have n3_ := Aside0.mk (blk_below (g := gb206) (o := .cells #[.int .i64 ((rd_T34 t197 x48_2).f0), .int .i64 ((rd_T34 t197 x48_2).f1), .int .i64 ((rd_T34 t197 x48_2).f2)] 34 (0, 0)) (bk BK206) hb); have n4_ := Aside0.mk (below_step (bl HB) hb); clear HO_7; clear HO_46; clear BK196; clear BK206; clear HB; have HO_7 := n0_; have HO_46 := n1_; have BK196 := n2_; have BK206 := n3_; have HB := n4_; clear n0_ n1_ n2_ n3_ n4_; (try clear hb); (try clear hb2); (try clear hk); (try clear hi); have hnb45 := NB206_196.out; have hnc45 := NB196_206.out; have hcz46_0 : w44.cell? ⟨gb206, 0, none⟩ = some (.int .i64 ((rd_T34 t197 x48_2).f0)) := (blk_cell BK206.out 0).trans rfl; have hcz46_1 : w44.cell? ⟨gb206, 1, none⟩ = some (.int .i64 ((rd_T34 t197 x48_2).f1)) := (blk_cell BK206.out 1).trans rfl; have hcz46_2 : w44.cell? ⟨gb206, 2, none⟩ = some (.int .i64 ((rd_T34 t197 x48_2).f2)) := (blk_cell BK206.out 2).trans rfl; have hfz46_0 := blk_frozen BK206.out 0; have hfz46_1 := blk_frozen BK206.out 1; have hfz46_2 := blk_frozen BK206.out 2; have hcz47_0 : w44.cell? ⟨gb196, 0, none⟩ = some (.int .i64 a0_0) := (blk_cell BK196.out 0).trans rfl; have hcz47_1 : w44.cell? ⟨gb196, 1, none⟩ = some (.int .i64 a0_1) := (blk_cell BK196.out 1).trans rfl; have hcz47_2 : w44.cell? ⟨gb196, 2, none⟩ = some (.int .i64 a0_2) := (blk_cell BK196.out 2).trans rfl; have hcz47_3 : w44.cell? ⟨gb196, 3, none⟩ = some (.int .i64 a0_3) := (blk_cell BK196.out 3).trans rfl; have hcz47_4 : w44.cell? ⟨gb196, 4, none⟩ = some (.bool a0_4) := (blk_cell BK196.out 4).trans rfl; have hfz47_0 := blk_frozen BK196.out 0; have hfz47_1 := blk_frozen BK196.out 1; have hfz47_2 := blk_frozen BK196.out 2; have hfz47_3 := blk_frozen BK196.out 3; have hfz47_4 := blk_frozen BK196.out 4))
                  go_meet
                  case rel => exact ⟨_, (decide (a0_3 > 1)), (by first | rfl | (simp; done) | (simp [*]; done)), H', ⟨by have := HJ6.out; have := HK2.out; have := HJ22.out; first | omega | exact Nat.le_refl _⟩, ⟨ra HO_7⟩, ⟨ra HO_46⟩, ⟨bk BK196⟩, ⟨bk BK206⟩, ⟨bl HB⟩⟩
                 ·rw [if_neg c43] at H
                  have c43b0 : (((rd_T34 t197 x48_2).f0) == 1) = false := beq_eq_false_iff_ne.mpr c43
                  have c43b1 : (((rd_T34 t197 x48_2).f0) != 1) = true := bne_iff_ne.mpr c43
                  have H' := Aside0.mk H
                  clear H
                  have p208 : 0 ≤ (x48_2 : Int) := of_decide_eq_true odt
                  have q208 : x48_2 < (l1.length : Int) := of_decide_eq_true odt
                  obtain ⟨ad208, e208, hx208_0, hx208_1⟩ := at_T42 HR1.out x48_2 p208 q208
                  cases e208
                  replace hx208_0 := (HB.out.cell (World.block_lt_of_cell? w _ hx208_0)).trans hx208_0
                  replace hx208_1 := (HB.out.cell (World.block_lt_of_cell? w _ hx208_1)).trans hx208_1
                  replace p208 := eq_true p208
                  replace q208 := eq_true q208
                  go_wp2_with (first | ((with_reducible refine gate_callee (f := 17) rfl ?_); refine goesL_ (some 84) rfl rfl Tryd.func17 (by kernel_rfl) rfl #[.slice A2 l2.length c2, .string ((rd_T42 l1 x48_2).f0), .int .i64 t207] rfl gs ?_; (with_reducible refine (interchangeref12_Answers.calls kj22 _ _ l2 ((rd_T42 l1 x48_2).f0) t207 false _ ?side1 ?side2 A40.out).mono ?_); (case side1 => exact kc HR2 HB); (case side2 => exact HC2.out); rintro e w48 ⟨rfl, hb⟩; refine ⟨_, rfl, ?_⟩; have n0_ := Aside0.mk (Kd.R_below (ra HO_7) hb); have n1_ := Aside0.mk (Kd.R_below (ra HO_46) hb); have n2_ := Aside0.mk (blk_below (g := gb196) (o := .cells #[.int .i64 a0_0, .int .i64 a0_1, .int .i64 a0_2, .int .i64 a0_3, .bool a0_4] 23 (0, 0)) (bk BK196) hb); have n3_ := Aside0.mk (blk_below (g := gb206) (o := .cells #[.int .i64 ((rd_T34 t197 x48_2).f0), .int .i64 ((rd_T34 t197 x48_2).f1), .int .i64 ((rd_T34 t197 x48_2).f2)] 34 (0, 0)) (bk BK206) hb); have n4_ := Aside0.mk (below_step (bl HB) hb); clear HO_7; clear HO_46; clear BK196; clear BK206; clear HB; have HO_7 := n0_; have HO_46 := n1_; have BK196 := n2_; have BK206 := n3_; have HB := n4_; clear n0_ n1_ n2_ n3_ n4_; (try clear hb); (try clear hb2); (try clear hk); (try clear hi); have hnb49 := NB206_196.out; have hnc49 := NB196_206.out; have hcz50_0 : w48.cell? ⟨gb206, 0, none⟩ = some (.int .i64 ((rd_T34 t197 x48_2).f0)) := (blk_cell BK206.out 0).trans rfl; have hcz50_1 : w48.cell? ⟨gb206, 1, none⟩ = some (.int .i64 ((rd_T34 t197 x48_2).f1)) := (blk_cell BK206.out 1).trans rfl; have hcz50_2 : w48.cell? ⟨gb206, 2, none⟩ = some (.int .i64 ((rd_T34 t197 x48_2).f2)) := (blk_cell BK206.out 2).trans rfl; have hfz50_0 := blk_frozen BK206.out 0; have hfz50_1 := blk_frozen BK206.out 1; have hfz50_2 := blk_frozen BK206.out 2))
                  go_meet
                  case rel => exact ⟨_, (false), (by first | rfl | (simp; done) | (simp [*]; done)), H', ⟨by have := HJ6.out; have := HK2.out; have := HJ22.out; first | omega | exact Nat.le_refl _⟩, ⟨ra HO_7⟩, ⟨ra HO_46⟩, ⟨bk BK196⟩, ⟨bk BK206⟩, ⟨bl HB⟩⟩
               ·rw [if_neg c39] at H
                exact absurd H (by simp)
              ·rw [if_neg c38] at H
               exact absurd H (by simp)
             case rest =>
              clear HC34
              try clear c1
              try clear c2
              try clear p2
              try clear q2
              try clear hx2
              try clear c3
              try clear c4
              try clear c5
              try clear c5b0
              try clear c5b1
              try clear c8
              try clear c13
              try clear c13b0
              try clear c13b1
              try clear c14
              try clear c14b0
              try clear c14b1
              try clear c14b2
              try clear c15
              try clear c16
              try clear c17
              try clear c18
              try clear c20
              try clear c20b0
              try clear p20
              try clear q20
              try clear hx20
              try clear c21
              try clear c21b0
              try clear c22
              try clear c22b0
              try clear c25
              try clear c27
              try clear c27b0
              try clear c27b1
              try clear c27b2
              try clear c28
              try clear c28b0
              try clear c29
              try clear c32
              try clear c35
              try clear c38
              try clear c38b0
              try clear c39
              try clear c39b0
              try clear c41
              try clear c43
              try clear c43b0
              try clear c43b1
              try clear c45
              try clear c49
              try clear hcz11_0
              try clear hcz11_1
              try clear hcz11_2
              try clear hcz11_3
              try clear hcz11_4
              try clear hcz26_0
              try clear hcz26_1
              try clear hcz26_2
              try clear hcz30_0
              try clear hcz30_1
              try clear hcz30_2
              try clear hcz31_0
              try clear hcz31_1
              try clear hcz31_2
              try clear hcz31_3
              try clear hcz31_4
              try clear hcz36_0
              try clear hcz36_1
              try clear hcz36_2
              try clear hcz36_3
              try clear hcz36_4
              try clear hcz46_0
              try clear hcz46_1
              try clear hcz46_2
              try clear hcz47_0
              try clear hcz47_1
              try clear hcz47_2
              try clear hcz47_3
              try clear hcz47_4
              try clear hcz50_0
              try clear hcz50_1
              try clear hcz50_2
              try clear hcz9_0
              try clear hcz9_1
              try clear hcz9_2
              try clear hcz9_3
              try clear hcz9_4
              try clear hfz11_0
              try clear hfz11_1
              try clear hfz11_2
              try clear hfz11_3
              try clear hfz11_4
              try clear hfz26_0
              try clear hfz26_1
              try clear hfz26_2
              try clear hfz30_0
              try clear hfz30_1
              try clear hfz30_2
              try clear hfz31_0
              try clear hfz31_1
              try clear hfz31_2
              try clear hfz31_3
              try clear hfz31_4
              try clear hfz36_0
              try clear hfz36_1
              try clear hfz36_2
              try clear hfz36_3
              try clear hfz36_4
              try clear hfz46_0
              try clear hfz46_1
              try clear hfz46_2
              try clear hfz47_0
              try clear hfz47_1
              try clear hfz47_2
              try clear hfz47_3
              try clear hfz47_4
              try clear hfz50_0
              try clear hfz50_1
              try clear hfz50_2
              try clear hfz9_0
              try clear hfz9_1
              try clear hfz9_2
              try clear hfz9_3
              try clear hfz9_4
              try clear hx205_0
              try clear hx205_1
              try clear hx205_2
              try clear hx208_0
              try clear hx208_1
              try clear p2
              try clear p20
              try clear p205
              try clear p208
              try clear q2
              try clear q20
              try clear q205
              try clear q208
              obtain ⟨kq, x95_33, rfl, HA, HJ33, HO_7, HO_46, BK196, BK206, HB⟩ := hcut
              cases kq with
              | zero => exact absurd HA.out (by simp [interchangelaw12_DeskGivesUpLast.j3])
              | succ kj33 =>
               have H := HA.out
               clear HA
               simp only [interchangelaw12_DeskGivesUpLast.j3] at H
               by_cases c51 : x95_33 = true
               ·subst c51
                have H1 : (some false) = some r := by rw [if_pos rfl] at H; exact H
                clear H
                have H := H1
                clear H1
                exact absurd ((Option.some.inj H).trans RT.out) Bool.false_ne_true
               ·replace c51 := Bool.eq_false_iff.mpr c51
                subst c51
                have H1 : (if ((rd_T34 t197 x48_2).f1) ≥ 0 then (if 0 ≤ x48_2 then (if x48_2 < (l1.length : Int) then ((interchangeref12_Answers.f kj33 l2 ((rd_T42 l1 x48_2).f0) ((rd_T34 t197 x48_2).f1)).bind fun t211 => (if t211 = true then (if ((rd_T34 t197 x48_2).f1) < t207 then (interchangelaw12_DeskGivesUpLast.j4 kj33 l1 l2 t197 t202 x48_2 t207 t197 (t197.length : Int) x48_2 true a0_0 a0_1 a0_2 a0_3 a0_4 ((rd_T34 t197 x48_2).f0) ((rd_T34 t197 x48_2).f1) ((rd_T34 t197 x48_2).f2)) else (interchangelaw12_DeskGivesUpLast.j4 kj33 l1 l2 t197 t202 x48_2 t207 t197 (t197.length : Int) x48_2 (decide (((rd_T34 t197 x48_2).f1) > (wrap64 (t207 + t202)))) a0_0 a0_1 a0_2 a0_3 a0_4 ((rd_T34 t197 x48_2).f0) ((rd_T34 t197 x48_2).f1) ((rd_T34 t197 x48_2).f2))) else (interchangelaw12_DeskGivesUpLast.j4 kj33 l1 l2 t197 t202 x48_2 t207 t197 (t197.length : Int) x48_2 true a0_0 a0_1 a0_2 a0_3 a0_4 ((rd_T34 t197 x48_2).f0) ((rd_T34 t197 x48_2).f1) ((rd_T34 t197 x48_2).f2)))) else (none)) else (none)) else (interchangelaw12_DeskGivesUpLast.j4 kj33 l1 l2 t197 t202 x48_2 t207 t197 (t197.length : Int) x48_2 false a0_0 a0_1 a0_2 a0_3 a0_4 ((rd_T34 t197 x48_2).f0) ((rd_T34 t197 x48_2).f1) ((rd_T34 t197 x48_2).f2))) = some r := by rw [if_neg (show ¬ (false = true) by decide)] at H; exact H
                clear H
                have H := H1
                clear H1
                have HC52 := Aside0.mk H
                clear H
                go_upto_region 15 with (fail)
                go_cut [124] (fun v124 wc => ∃ (kq : Nat) (x124_51 : Bool), v124 = .bool x124_51 ∧ Aside0 (interchangelaw12_DeskGivesUpLast.j4 kq l1 l2 t197 t202 x48_2 t207 t197 (t197.length : Int) x48_2 x124_51 a0_0 a0_1 a0_2 a0_3 a0_4 ((rd_T34 t197 x48_2).f0) ((rd_T34 t197 x48_2).f1) ((rd_T34 t197 x48_2).f2) = some r) ∧ Aside0 (kq ≤ kj33) ∧ Aside0 (Kd.R k34 34 wc w.heap.size (fun k_ => k_ ≠ gb206) (.slice (some ad205) t197.length co19) t197) ∧ Aside0 (Kd.R k34 34 wc w.heap.size (fun k_ => k_ ≠ gb206) (.slice (some ad205) t197.length co19) t197) ∧ Aside0 (wc.heap[gb196]? = some (.cells #[.int .i64 a0_0, .int .i64 a0_1, .int .i64 a0_2, .int .i64 a0_3, .bool a0_4] 23 (0, 0))) ∧ Aside0 (wc.heap[gb206]? = some (.cells #[.int .i64 ((rd_T34 t197 x48_2).f0), .int .i64 ((rd_T34 t197 x48_2).f1), .int .i64 ((rd_T34 t197 x48_2).f2)] 34 (0, 0))) ∧ Aside0 (Below w.heap.size w wc))
                case first =>
                 have H := HC52.out
                 clear HC52
                 by_cases c53 : ((rd_T34 t197 x48_2).f1) ≥ 0
                 ·rw [if_pos c53] at H
                  have c53b0 : decide (0 ≤ ((rd_T34 t197 x48_2).f1)) = true := decide_eq_true c53
                  clear c53
                  (first | rw [c53b0] | (simp only [i64_w, i32_w]; rw [c53b0]) | skip)
                  by_cases c54 : 0 ≤ x48_2
                  ·rw [if_pos c54] at H
                   have c54b0 : decide (0 ≤ x48_2) = true := decide_eq_true c54
                   clear c54
                   by_cases c55 : x48_2 < (l1.length : Int)
                   ·rw [if_pos c55] at H
                    have c55b0 : decide (x48_2 < (l1.length : Int)) = true := decide_eq_true c55
                    clear c55
                    replace H := Option.bind_eq_some_iff.mp H
                    obtain ⟨t211, A560, H⟩ := H
                    replace H : (if t211 = true then (if ((rd_T34 t197 x48_2).f1) < t207 then (interchangelaw12_DeskGivesUpLast.j4 kj33 l1 l2 t197 t202 x48_2 t207 t197 (t197.length : Int) x48_2 true a0_0 a0_1 a0_2 a0_3 a0_4 ((rd_T34 t197 x48_2).f0) ((rd_T34 t197 x48_2).f1) ((rd_T34 t197 x48_2).f2)) else (interchangelaw12_DeskGivesUpLast.j4 kj33 l1 l2 t197 t202 x48_2 t207 t197 (t197.length : Int) x48_2 (decide (((rd_T34 t197 x48_2).f1) > (wrap64 (t207 + t202)))) a0_0 a0_1 a0_2 a0_3 a0_4 ((rd_T34 t197 x48_2).f0) ((rd_T34 t197 x48_2).f1) ((rd_T34 t197 x48_2).f2))) else (interchangelaw12_DeskGivesUpLast.j4 kj33 l1 l2 t197 t202 x48_2 t207 t197 (t197.length : Int) x48_2 true a0_0 a0_1 a0_2 a0_3 a0_4 ((rd_T34 t197 x48_2).f0) ((rd_T34 t197 x48_2).f1) ((rd_T34 t197 x48_2).f2))) = some r := H
                    have A56 := Aside0.mk A560
                    clear A560
                    by_cases c57 : t211 = true
                    ·subst c57
                     have H1 : (if ((rd_T34 t197 x48_2).f1) < t207 then (interchangelaw12_DeskGivesUpLast.j4 kj33 l1 l2 t197 t202 x48_2 t207 t197 (t197.length : Int) x48_2 true a0_0 a0_1 a0_2 a0_3 a0_4 ((rd_T34 t197 x48_2).f0) ((rd_T34 t197 x48_2).f1) ((rd_T34 t197 x48_2).f2)) else (interchangelaw12_DeskGivesUpLast.j4 kj33 l1 l2 t197 t202 x48_2 t207 t197 (t197.length : Int) x48_2 (decide (((rd_T34 t197 x48_2).f1) > (wrap64 (t207 + t202)))) a0_0 a0_1 a0_2 a0_3 a0_4 ((rd_T34 t197 x48_2).f0) ((rd_T34 t197 x48_2).f1) ((rd_T34 t197 x48_2).f2))) = some r := by rw [if_pos rfl] at H; exact H
                     clear H
                     have H := H1
                     clear H1
                     by_cases c58 : ((rd_T34 t197 x48_2).f1) < t207
                     ·rw [if_pos c58] at H
                      have c58b0 : decide (((rd_T34 t197 x48_2).f1) < t207) = true := decide_eq_true c58
                      clear c58
                      cases kj33 with
                      | zero => exact absurd H (by simp [interchangelaw12_DeskGivesUpLast.j4])
                      | succ kz_ => exact absurd ((Option.some.inj (show some false = some r from by simpa [interchangelaw12_DeskGivesUpLast.j4] using H)).trans RT.out) Bool.false_ne_true
                     ·rw [if_neg c58] at H
                      have c58b0 : decide (((rd_T34 t197 x48_2).f1) < t207) = false := decide_eq_false c58
                      clear c58
                      have H' := Aside0.mk H
                      clear H
                      try go_wp2
                      have n0_ := Aside0.mk (Kd.R_drew HO_7.out)
                      have n1_ := Aside0.mk (Kd.R_drew HO_46.out)
                      have n2_ := Aside0.mk (blk_drew BK196.out)
                      have n3_ := Aside0.mk (blk_drew BK206.out)
                      have n4_ := Aside0.mk (below_drew1 HB.out)
                      clear HO_7
                      clear HO_46
                      clear BK196
                      clear BK206
                      clear HB
                      have HO_7 := n0_
                      have HO_46 := n1_
                      have BK196 := n2_
                      have BK206 := n3_
                      have HB := n4_
                      clear n0_ n1_ n2_ n3_ n4_
                      have p210 : 0 ≤ (x48_2 : Int) := of_decide_eq_true odt
                      have q210 : x48_2 < (l1.length : Int) := of_decide_eq_true odt
                      obtain ⟨ad210, e210, hx210_0, hx210_1⟩ := at_T42 HR1.out x48_2 p210 q210
                      have hw210_1 := hx210_1
                      have hw210_0 := hx210_0
                      cases e210
                      replace hx210_0 := (HB.out.cell (World.block_lt_of_cell? w _ hx210_0)).trans hx210_0
                      replace hx210_1 := (HB.out.cell (World.block_lt_of_cell? w _ hx210_1)).trans hx210_1
                      replace p210 := eq_true p210
                      replace q210 := eq_true q210
                      refine start_ (n := 29) (S := fun w' => w'.cell? ⟨gb206, 0, none⟩ = some (.int .i64 ((rd_T34 t197 x48_2).f0)) ∧ w'.cell? ⟨gb206, 1, none⟩ = some (.int .i64 ((rd_T34 t197 x48_2).f1)) ∧ w'.cell? ⟨gb206, 2, none⟩ = some (.int .i64 ((rd_T34 t197 x48_2).f2)) ∧ w'.cell? (ad210.add ((x48_2).toNat * 2)) = some (.string ((rd_T42 l1 x48_2).f0)) ∧ w'.cell? ⟨(ad210.add ((x48_2).toNat * 2)).block, (ad210.add ((x48_2).toNat * 2)).off + 1, none⟩ = some (.int .i64 ((rd_T42 l1 x48_2).f1))) (ds := []) #[false,false,false,false,false,false,false,false,false,false,false,false,false,false,false,false,false,false,false,false,false,false,false,false,false,false,false,false,false] (by kernel_rfl) rfl rfl ⟨(blk_cell BK206.out 0).trans rfl, (blk_cell BK206.out 1).trans rfl, (blk_cell BK206.out 2).trans rfl, ((HB.out.cell (World.block_lt_of_cell? w _ hw210_0)).trans hw210_0), ((HB.out.cell (World.block_lt_of_cell? w _ hw210_1)).trans hw210_1)⟩ (fun hHeld => ?_); refine with_tabW interchangelaw12_DeskGivesUpLast.tab15 interchangelaw12_DeskGivesUpLast.bits15 (fun HT_ HW_ => ?_)
                      generalize wc.drew = w59 at HO_7 HO_46 BK196 BK206 HB hx210_0 hx210_1 hHeld ⊢
                      refine pure_ (i := 0) (N := some 96) (v := ?_) (a' := ?_) #[true,false,false,false,false,false,false,false,false,false,false,false,false,false,false,false,false,false,false,false,false,false,false,false,false,false,false,false,false] rfl rfl (any_of HT_.out (by kernel_rfl)) (fun _ _ _ h => h) (Or.inl ⟨by rfl, ?_⟩) ?_ ?_; rotate_left
                      ·exact g1_
                      rotate_left
                      ·exact g2_
                      refine take_ (i := 1) (N := some 97) (v := ?_) (a' := ?_) #[true,true,false,false,false,false,false,false,false,false,false,false,false,false,false,false,false,false,false,false,false,false,false,false,false,false,false,false,false] rfl rfl (take_ofW HT_.out HW_.out (by kernel_rfl)) (fun _ _ _ h => h) (Or.inl ⟨by rfl, ?_⟩) hHeld ?_ ?_
                      rotate_left
                      ·rintro w' ⟨s0, s1, s2, s3, s4⟩
                       go_simp
                       with_reducible rfl
                      rotate_left
                      ·exact g2_
                      refine pure_ (i := 2) (N := some 98) (v := ?_) (a' := ?_) #[true,true,true,false,false,false,false,false,false,false,false,false,false,false,false,false,false,false,false,false,false,false,false,false,false,false,false,false,false] rfl rfl (any_of HT_.out (by kernel_rfl)) (fun _ _ _ h => h) (Or.inl ⟨by rfl, ?_⟩) ?_ ?_; rotate_left
                      ·exact g1_
                      rotate_left
                      ·exact g2_
                      refine pure_ (i := 3) (N := some 99) (v := ?_) (a' := ?_) #[true,true,true,true,false,false,false,false,false,false,false,false,false,false,false,false,false,false,false,false,false,false,false,false,false,false,false,false,false] rfl rfl (any_of HT_.out (by kernel_rfl)) (fun _ _ _ h => h) (Or.inl ⟨by rfl, ?_⟩) ?_ ?_; rotate_left
                      ·exact g1_
                      rotate_left
                      ·exact g2_
                      refine pure_ (i := 4) (N := some 100) (v := ?_) (a' := ?_) #[true,true,true,true,true,false,false,false,false,false,false,false,false,false,false,false,false,false,false,false,false,false,false,false,false,false,false,false,false] rfl rfl (any_of HT_.out (by kernel_rfl)) (fun _ _ _ h => h) (Or.inl ⟨by rfl, ?_⟩) ?_ ?_; rotate_left
                      ·exact g1_
                      rotate_left
                      ·exact g2_
                      refine pure_ (i := 5) (N := some 101) (v := ?_) (a' := ?_) #[true,true,true,true,true,true,false,false,false,false,false,false,false,false,false,false,false,false,false,false,false,false,false,false,false,false,false,false,false] rfl rfl (any_of HT_.out (by kernel_rfl)) (fun _ _ _ h => h) (Or.inl ⟨by rfl, ?_⟩) ?_ ?_; rotate_left
                      ·exact g1_
                      rotate_left
                      ·exact g2_
                      refine pure_ (i := 6) (N := some 102) (v := ?_) (a' := ?_) #[true,true,true,true,true,true,true,false,false,false,false,false,false,false,false,false,false,false,false,false,false,false,false,false,false,false,false,false,false] rfl rfl (any_of HT_.out (by kernel_rfl)) (fun _ _ _ h => h) (Or.inl ⟨by rfl, ?_⟩) ?_ ?_; rotate_left
                      ·exact g1_
                      rotate_left
                      ·exact g2_
                      refine pure_ (i := 7) (N := some 103) (v := ?_) (a' := ?_) #[true,true,true,true,true,true,true,true,false,false,false,false,false,false,false,false,false,false,false,false,false,false,false,false,false,false,false,false,false] rfl rfl (any_of HT_.out (by kernel_rfl)) (fun _ _ _ h => h) (Or.inl ⟨by rfl, ?_⟩) ?_ ?_; rotate_left
                      ·exact g1_
                      rotate_left
                      ·exact g2_
                      refine pure_ (i := 8) (N := some 104) (v := ?_) (a' := ?_) #[true,true,true,true,true,true,true,true,true,false,false,false,false,false,false,false,false,false,false,false,false,false,false,false,false,false,false,false,false] rfl rfl (any_of HT_.out (by kernel_rfl)) (fun _ _ _ h => h) (Or.inl ⟨by rfl, ?_⟩) ?_ ?_; rotate_left
                      ·exact g1_
                      rotate_left
                      ·exact g2_
                      refine pure_ (i := 10) (N := some 106) (v := ?_) (a' := ?_) #[true,true,true,true,true,true,true,true,true,false,true,false,false,false,false,false,false,false,false,false,false,false,false,false,false,false,false,false,false] rfl rfl (any_of HT_.out (by kernel_rfl)) (fun _ _ _ h => h) (Or.inl ⟨by rfl, ?_⟩) ?_ ?_; rotate_left
                      ·exact g1_
                      rotate_left
                      ·exact g2_
                      refine take_ (i := 9) (N := some 105) (v := ?_) (a' := ?_) #[true,true,true,true,true,true,true,true,true,true,true,false,false,false,false,false,false,false,false,false,false,false,false,false,false,false,false,false,false] rfl rfl (take_ofW HT_.out HW_.out (by kernel_rfl)) (fun _ _ _ h => h) (Or.inl ⟨by rfl, ?_⟩) hHeld ?_ ?_
                      rotate_left
                      ·rintro w' ⟨s0, s1, s2, s3, s4⟩
                       go_simp
                       with_reducible rfl
                      rotate_left
                      ·exact g2_
                      refine take_ (i := 11) (N := some 107) (v := ?_) (a' := ?_) #[true,true,true,true,true,true,true,true,true,true,true,true,false,false,false,false,false,false,false,false,false,false,false,false,false,false,false,false,false] rfl rfl (take_ofW HT_.out HW_.out (by kernel_rfl)) (fun _ _ _ h => h) (Or.inl ⟨by rfl, ?_⟩) hHeld ?_ ?_
                      rotate_left
                      ·rintro w' ⟨s0, s1, s2, s3, s4⟩
                       go_simp
                       with_reducible rfl
                      rotate_left
                      ·exact g2_
                      refine one_ (i := 12) (N := some 108) #[true,true,true,true,true,true,true,true,true,true,true,true,true,false,false,false,false,false,false,false,false,false,false,false,false,false,false,false,false] rfl rfl (one_of HT_.out (by kernel_rfl)) (by decide) (fun K hK => ?_)
                      refine goes_ Tryd.func17 (by kernel_rfl) rfl #[.slice A2 l2.length c2, .string ((rd_T42 l1 x48_2).f0), .int .i64 ((rd_T34 t197 x48_2).f1)] (by rfl) rfl rfl gs ?_
                      with_reducible refine (interchangeref12_Answers.calls kj33 _ _ l2 ((rd_T42 l1 x48_2).f0) ((rd_T34 t197 x48_2).f1) true _ ?side1 ?side2 A56.out).mono ?_
                      (case side1 => exact kc HR2 HB)
                      (case side2 => exact HC2.out)
                      rintro e w60 ⟨rfl, hb⟩
                      refine ⟨_, rfl, ?_⟩
                      have n0_ := Aside0.mk (Kd.R_below (ra HO_7) hb)
                      have n1_ := Aside0.mk (Kd.R_below (ra HO_46) hb)
                      have n2_ := Aside0.mk (blk_below (g := gb196) (o := .cells #[.int .i64 a0_0, .int .i64 a0_1, .int .i64 a0_2, .int .i64 a0_3, .bool a0_4] 23 (0, 0)) (bk BK196) hb)
                      have n3_ := Aside0.mk (blk_below (g := gb206) (o := .cells #[.int .i64 ((rd_T34 t197 x48_2).f0), .int .i64 ((rd_T34 t197 x48_2).f1), .int .i64 ((rd_T34 t197 x48_2).f2)] 34 (0, 0)) (bk BK206) hb)
                      have n4_ := Aside0.mk (below_step (bl HB) hb)
                      clear HO_7
                      clear HO_46
                      clear BK196
                      clear BK206
                      clear HB
                      have HO_7 := n0_
                      have HO_46 := n1_
                      have BK196 := n2_
                      have BK206 := n3_
                      have HB := n4_
                      clear n0_ n1_ n2_ n3_ n4_
                      (try clear hb)
                      (try clear hb2)
                      (try clear hk)
                      (try clear hi)
                      refine hK.out _ _ ⟨(blk_cell BK206.out 0).trans rfl, (blk_cell BK206.out 1).trans rfl, (blk_cell BK206.out 2).trans rfl, ((HB.out.cell (World.block_lt_of_cell? w _ hw210_0)).trans hw210_0), ((HB.out.cell (World.block_lt_of_cell? w _ hw210_1)).trans hw210_1)⟩ (fun hHeld => ?_)
                      clear hK K
                      refine norm_ (a' := ?_) ?_ ?_
                      rotate_left
                      ·show Act.put _ (some 108) _ = _
                       simp only [Act.put, List.setIfInBounds_toArray, List.set_cons_zero, List.set_cons_succ, i64_w, i32_w]
                       rfl
                      refine pure_ (i := 13) (N := some 109) (v := ?_) (a' := ?_) #[true,true,true,true,true,true,true,true,true,true,true,true,true,true,false,false,false,false,false,false,false,false,false,false,false,false,false,false,false] rfl rfl (any_of HT_.out (by kernel_rfl)) (fun _ _ _ h => h) (Or.inl ⟨by rfl, ?_⟩) ?_ ?_; rotate_left
                      ·exact g1_
                      rotate_left
                      ·exact g2_
                      refine pure_ (i := 14) (N := some 110) (v := ?_) (a' := ?_) #[true,true,true,true,true,true,true,true,true,true,true,true,true,true,true,false,false,false,false,false,false,false,false,false,false,false,false,false,false] rfl rfl (any_of HT_.out (by kernel_rfl)) (fun _ _ _ h => h) (Or.inl ⟨by rfl, ?_⟩) ?_ ?_; rotate_left
                      ·exact g1_
                      rotate_left
                      ·exact g2_
                      refine pure_ (i := 15) (N := some 111) (v := ?_) (a' := ?_) #[true,true,true,true,true,true,true,true,true,true,true,true,true,true,true,true,false,false,false,false,false,false,false,false,false,false,false,false,false] rfl rfl (any_of HT_.out (by kernel_rfl)) (fun _ _ _ h => h) (Or.inl ⟨by rfl, ?_⟩) ?_ ?_; rotate_left
                      ·exact g1_
                      rotate_left
                      ·exact g2_
                      refine pure_ (i := 17) (N := some 113) (v := ?_) (a' := ?_) #[true,true,true,true,true,true,true,true,true,true,true,true,true,true,true,true,false,true,false,false,false,false,false,false,false,false,false,false,false] rfl rfl (any_of HT_.out (by kernel_rfl)) (fun _ _ _ h => h) (Or.inl ⟨by rfl, ?_⟩) ?_ ?_; rotate_left
                      ·exact g1_
                      rotate_left
                      ·exact g2_
                      refine take_ (i := 16) (N := some 112) (v := ?_) (a' := ?_) #[true,true,true,true,true,true,true,true,true,true,true,true,true,true,true,true,true,true,false,false,false,false,false,false,false,false,false,false,false] rfl rfl (take_ofW HT_.out HW_.out (by kernel_rfl)) (fun _ _ _ h => h) (Or.inl ⟨by rfl, ?_⟩) hHeld ?_ ?_
                      rotate_left
                      ·rintro w' ⟨s0, s1, s2, s3, s4⟩
                       go_simp
                       with_reducible rfl
                      rotate_left
                      ·exact g2_
                      refine pure_ (i := 18) (N := some 114) (v := ?_) (a' := ?_) #[true,true,true,true,true,true,true,true,true,true,true,true,true,true,true,true,true,true,true,false,false,false,false,false,false,false,false,false,false] rfl rfl (any_of HT_.out (by kernel_rfl)) (fun _ _ _ h => h) (Or.inl ⟨by rfl, ?_⟩) ?_ ?_; rotate_left
                      ·exact g1_
                      rotate_left
                      ·exact g2_
                      refine pure_ (i := 19) (N := some 115) (v := ?_) (a' := ?_) #[true,true,true,true,true,true,true,true,true,true,true,true,true,true,true,true,true,true,true,true,false,false,false,false,false,false,false,false,false] rfl rfl (any_of HT_.out (by kernel_rfl)) (fun _ _ _ h => h) (Or.inl ⟨by rfl, ?_⟩) ?_ ?_; rotate_left
                      ·exact g1_
                      rotate_left
                      ·exact g2_
                      refine pure_ (i := 20) (N := some 116) (v := ?_) (a' := ?_) #[true,true,true,true,true,true,true,true,true,true,true,true,true,true,true,true,true,true,true,true,true,false,false,false,false,false,false,false,false] rfl rfl (any_of HT_.out (by kernel_rfl)) (fun _ _ _ h => h) (Or.inl ⟨by rfl, ?_⟩) ?_ ?_; rotate_left
                      ·exact g1_
                      rotate_left
                      ·exact g2_
                      refine pure_ (i := 21) (N := some 117) (v := ?_) (a' := ?_) #[true,true,true,true,true,true,true,true,true,true,true,true,true,true,true,true,true,true,true,true,true,true,false,false,false,false,false,false,false] rfl rfl (any_of HT_.out (by kernel_rfl)) (fun _ _ _ h => h) (Or.inl ⟨by rfl, ?_⟩) ?_ ?_; rotate_left
                      ·exact g1_
                      rotate_left
                      ·exact g2_
                      refine pure_ (i := 23) (N := some 119) (v := ?_) (a' := ?_) #[true,true,true,true,true,true,true,true,true,true,true,true,true,true,true,true,true,true,true,true,true,true,false,true,false,false,false,false,false] rfl rfl (any_of HT_.out (by kernel_rfl)) (fun _ _ _ h => h) (Or.inl ⟨by rfl, ?_⟩) ?_ ?_; rotate_left
                      ·exact g1_
                      rotate_left
                      ·exact g2_
                      refine pure_ (i := 24) (N := some 120) (v := ?_) (a' := ?_) #[true,true,true,true,true,true,true,true,true,true,true,true,true,true,true,true,true,true,true,true,true,true,false,true,true,false,false,false,false] rfl rfl (any_of HT_.out (by kernel_rfl)) (fun _ _ _ h => h) (Or.inl ⟨by rfl, ?_⟩) ?_ ?_; rotate_left
                      ·exact g1_
                      rotate_left
                      ·exact g2_
                      refine pure_ (i := 25) (N := some 121) (v := ?_) (a' := ?_) #[true,true,true,true,true,true,true,true,true,true,true,true,true,true,true,true,true,true,true,true,true,true,false,true,true,true,false,false,false] rfl rfl (any_of HT_.out (by kernel_rfl)) (fun _ _ _ h => h) (Or.inl ⟨by rfl, ?_⟩) ?_ ?_; rotate_left
                      ·exact g1_
                      rotate_left
                      ·exact g2_
                      refine take_ (i := 22) (N := some 118) (v := ?_) (a' := ?_) #[true,true,true,true,true,true,true,true,true,true,true,true,true,true,true,true,true,true,true,true,true,true,true,true,true,true,false,false,false] rfl rfl (take_ofW HT_.out HW_.out (by kernel_rfl)) (fun _ _ _ h => h) (Or.inl ⟨by rfl, ?_⟩) hHeld ?_ ?_
                      rotate_left
                      ·rintro w' ⟨s0, s1, s2, s3, s4⟩
                       go_simp
                       with_reducible rfl
                      rotate_left
                      ·exact g2_
                      refine pure_ (i := 26) (N := some 122) (v := ?_) (a' := ?_) #[true,true,true,true,true,true,true,true,true,true,true,true,true,true,true,true,true,true,true,true,true,true,true,true,true,true,true,false,false] rfl rfl (any_of HT_.out (by kernel_rfl)) (fun _ _ _ h => h) (Or.inl ⟨by rfl, ?_⟩) ?_ ?_; rotate_left
                      ·exact g1_
                      rotate_left
                      ·exact g2_
                      refine pure_ (i := 27) (N := some 123) (v := ?_) (a' := ?_) #[true,true,true,true,true,true,true,true,true,true,true,true,true,true,true,true,true,true,true,true,true,true,true,true,true,true,true,true,false] rfl rfl (any_of HT_.out (by kernel_rfl)) (fun _ _ _ h => h) (Or.inl ⟨by rfl, ?_⟩) ?_ ?_; rotate_left
                      ·exact g1_
                      rotate_left
                      ·exact g2_
                      refine pure_ (i := 28) (N := some 124) (v := ?_) (a' := ?_) #[true,true,true,true,true,true,true,true,true,true,true,true,true,true,true,true,true,true,true,true,true,true,true,true,true,true,true,true,true] rfl rfl (any_of HT_.out (by kernel_rfl)) (fun _ _ _ h => h) (Or.inl ⟨by rfl, ?_⟩) ?_ ?_; rotate_left
                      ·exact g1_
                      rotate_left
                      ·exact g2_
                      refine done_ (done_of HT_.out (by kernel_rfl)) ?_
                      try go_wp2
                      go_meet
                      case rel => exact ⟨_, (decide (((rd_T34 t197 x48_2).f1) > (wrap64 (t207 + t202)))), (by first | rfl | (simp; done) | (simp [*]; done)), H', ⟨by have := HJ6.out; have := HK2.out; have := HJ22.out; have := HJ33.out; first | omega | exact Nat.le_refl _⟩, ⟨ra HO_7⟩, ⟨ra HO_46⟩, ⟨bk BK196⟩, ⟨bk BK206⟩, ⟨bl HB⟩⟩
                    ·replace c57 := Bool.eq_false_iff.mpr c57
                     subst c57
                     have H1 : (interchangelaw12_DeskGivesUpLast.j4 kj33 l1 l2 t197 t202 x48_2 t207 t197 (t197.length : Int) x48_2 true a0_0 a0_1 a0_2 a0_3 a0_4 ((rd_T34 t197 x48_2).f0) ((rd_T34 t197 x48_2).f1) ((rd_T34 t197 x48_2).f2)) = some r := by rw [if_neg (show ¬ (false = true) by decide)] at H; exact H
                     clear H
                     have H := H1
                     clear H1
                     cases kj33 with
                     | zero => exact absurd H (by simp [interchangelaw12_DeskGivesUpLast.j4])
                     | succ kz_ => exact absurd ((Option.some.inj (show some false = some r from by simpa [interchangelaw12_DeskGivesUpLast.j4] using H)).trans RT.out) Bool.false_ne_true
                   ·rw [if_neg c55] at H
                    exact absurd H (by simp)
                  ·rw [if_neg c54] at H
                   exact absurd H (by simp)
                 ·rw [if_neg c53] at H
                  have c53b0 : decide (0 ≤ ((rd_T34 t197 x48_2).f1)) = false := decide_eq_false c53
                  clear c53
                  (first | rw [c53b0] | (simp only [i64_w, i32_w]; rw [c53b0]) | skip)
                  have H' := Aside0.mk H
                  clear H
                  try go_wp2
                  have n0_ := Aside0.mk (Kd.R_drew HO_7.out)
                  have n1_ := Aside0.mk (Kd.R_drew HO_46.out)
                  have n2_ := Aside0.mk (blk_drew BK196.out)
                  have n3_ := Aside0.mk (blk_drew BK206.out)
                  have n4_ := Aside0.mk (below_drew1 HB.out)
                  clear HO_7
                  clear HO_46
                  clear BK196
                  clear BK206
                  clear HB
                  have HO_7 := n0_
                  have HO_46 := n1_
                  have BK196 := n2_
                  have BK206 := n3_
                  have HB := n4_
                  clear n0_ n1_ n2_ n3_ n4_
                  refine start_ (n := 29) (S := fun w' => w'.cell? ⟨gb206, 0, none⟩ = some (.int .i64 ((rd_T34 t197 x48_2).f0)) ∧ w'.cell? ⟨gb206, 1, none⟩ = some (.int .i64 ((rd_T34 t197 x48_2).f1)) ∧ w'.cell? ⟨gb206, 2, none⟩ = some (.int .i64 ((rd_T34 t197 x48_2).f2))) (ds := []) #[false,false,false,false,false,false,false,false,false,false,false,false,false,false,false,false,false,false,false,false,false,false,false,false,false,false,false,false,false] (by kernel_rfl) rfl rfl ⟨(blk_cell BK206.out 0).trans rfl, (blk_cell BK206.out 1).trans rfl, (blk_cell BK206.out 2).trans rfl⟩ (fun hHeld => ?_); refine with_tabW interchangelaw12_DeskGivesUpLast.tab15 interchangelaw12_DeskGivesUpLast.bits15 (fun HT_ HW_ => ?_)
                  generalize wc.drew = w61 at HO_7 HO_46 BK196 BK206 HB hHeld ⊢
                  refine pure_ (i := 0) (N := some 96) (v := ?_) (a' := ?_) #[true,false,false,false,false,false,false,false,false,false,false,false,false,false,false,false,false,false,false,false,false,false,false,false,false,false,false,false,false] rfl rfl (any_of HT_.out (by kernel_rfl)) (fun _ _ _ h => h) (Or.inl ⟨by rfl, ?_⟩) ?_ ?_; rotate_left
                  ·exact g1_
                  rotate_left
                  ·exact g2_
                  refine take_ (i := 1) (N := some 97) (v := ?_) (a' := ?_) #[true,true,false,false,false,false,false,false,false,false,false,false,false,false,false,false,false,false,false,false,false,false,false,false,false,false,false,false,false] rfl rfl (take_ofW HT_.out HW_.out (by kernel_rfl)) (fun _ _ _ h => h) (Or.inl ⟨by rfl, ?_⟩) hHeld ?_ ?_
                  rotate_left
                  ·rintro w' ⟨s0, s1, s2⟩
                   go_simp
                   with_reducible rfl
                  rotate_left
                  ·exact g2_
                  refine pure_ (i := 2) (N := some 98) (v := ?_) (a' := ?_) #[true,true,true,false,false,false,false,false,false,false,false,false,false,false,false,false,false,false,false,false,false,false,false,false,false,false,false,false,false] rfl rfl (any_of HT_.out (by kernel_rfl)) (fun _ _ _ h => h) (Or.inl ⟨by rfl, ?_⟩) ?_ ?_; rotate_left
                  ·exact g1_
                  rotate_left
                  ·exact g2_
                  refine pure_ (i := 3) (N := some 99) (v := ?_) (a' := ?_) #[true,true,true,true,false,false,false,false,false,false,false,false,false,false,false,false,false,false,false,false,false,false,false,false,false,false,false,false,false] rfl rfl (any_of HT_.out (by kernel_rfl)) (fun _ _ _ h => h) (Or.inl ⟨by rfl, ?_⟩) ?_ ?_; rotate_left
                  ·exact g1_
                  rotate_left
                  ·exact g2_
                  refine pure_ (i := 4) (N := some 100) (v := undef) (a' := ?_) #[true,true,true,true,true,false,false,false,false,false,false,false,false,false,false,false,false,false,false,false,false,false,false,false,false,false,false,false,false] rfl rfl (any_of HT_.out (by kernel_rfl)) (fun _ _ _ h => h) (Or.inr ⟨by rfl, rfl⟩) ?_ ?_
                  rotate_left
                  ·exact g2_
                  refine pure_ (i := 5) (N := some 101) (v := undef) (a' := ?_) #[true,true,true,true,true,true,false,false,false,false,false,false,false,false,false,false,false,false,false,false,false,false,false,false,false,false,false,false,false] rfl rfl (any_of HT_.out (by kernel_rfl)) (fun _ _ _ h => h) (Or.inr ⟨by rfl, rfl⟩) ?_ ?_
                  rotate_left
                  ·exact g2_
                  refine pure_ (i := 6) (N := some 102) (v := undef) (a' := ?_) #[true,true,true,true,true,true,true,false,false,false,false,false,false,false,false,false,false,false,false,false,false,false,false,false,false,false,false,false,false] rfl rfl (any_of HT_.out (by kernel_rfl)) (fun _ _ _ h => h) (Or.inr ⟨by rfl, rfl⟩) ?_ ?_
                  rotate_left
                  ·exact g2_
                  refine pure_ (i := 7) (N := some 103) (v := undef) (a' := ?_) #[true,true,true,true,true,true,true,true,false,false,false,false,false,false,false,false,false,false,false,false,false,false,false,false,false,false,false,false,false] rfl rfl (any_of HT_.out (by kernel_rfl)) (fun _ _ _ h => h) (Or.inr ⟨by rfl, rfl⟩) ?_ ?_
                  rotate_left
                  ·exact g2_
                  refine pure_ (i := 8) (N := some 104) (v := undef) (a' := ?_) #[true,true,true,true,true,true,true,true,true,false,false,false,false,false,false,false,false,false,false,false,false,false,false,false,false,false,false,false,false] rfl rfl (any_of HT_.out (by kernel_rfl)) (fun _ _ _ h => h) (Or.inr ⟨by rfl, rfl⟩) ?_ ?_
                  rotate_left
                  ·exact g2_
                  refine pure_ (i := 9) (N := some 105) (v := undef) (a' := ?_) #[true,true,true,true,true,true,true,true,true,true,false,false,false,false,false,false,false,false,false,false,false,false,false,false,false,false,false,false,false] rfl rfl (any_of HT_.out (by kernel_rfl)) (fun _ _ _ h => h) (Or.inr ⟨by rfl, rfl⟩) ?_ ?_
                  rotate_left
                  ·exact g2_
                  refine pure_ (i := 10) (N := some 106) (v := undef) (a' := ?_) #[true,true,true,true,true,true,true,true,true,true,true,false,false,false,false,false,false,false,false,false,false,false,false,false,false,false,false,false,false] rfl rfl (any_of HT_.out (by kernel_rfl)) (fun _ _ _ h => h) (Or.inr ⟨by rfl, rfl⟩) ?_ ?_
                  rotate_left
                  ·exact g2_
                  refine pure_ (i := 11) (N := some 107) (v := undef) (a' := ?_) #[true,true,true,true,true,true,true,true,true,true,true,true,false,false,false,false,false,false,false,false,false,false,false,false,false,false,false,false,false] rfl rfl (any_of HT_.out (by kernel_rfl)) (fun _ _ _ h => h) (Or.inr ⟨by rfl, rfl⟩) ?_ ?_
                  rotate_left
                  ·exact g2_
                  refine pure_ (i := 12) (N := some 108) (v := undef) (a' := ?_) #[true,true,true,true,true,true,true,true,true,true,true,true,true,false,false,false,false,false,false,false,false,false,false,false,false,false,false,false,false] rfl rfl (any_of HT_.out (by kernel_rfl)) (fun _ _ _ h => h) (Or.inr ⟨by rfl, rfl⟩) ?_ ?_
                  rotate_left
                  ·exact g2_
                  refine pure_ (i := 13) (N := some 109) (v := undef) (a' := ?_) #[true,true,true,true,true,true,true,true,true,true,true,true,true,true,false,false,false,false,false,false,false,false,false,false,false,false,false,false,false] rfl rfl (any_of HT_.out (by kernel_rfl)) (fun _ _ _ h => h) (Or.inr ⟨by rfl, rfl⟩) ?_ ?_
                  rotate_left
                  ·exact g2_
                  refine pure_ (i := 14) (N := some 110) (v := undef) (a' := ?_) #[true,true,true,true,true,true,true,true,true,true,true,true,true,true,true,false,false,false,false,false,false,false,false,false,false,false,false,false,false] rfl rfl (any_of HT_.out (by kernel_rfl)) (fun _ _ _ h => h) (Or.inr ⟨by rfl, rfl⟩) ?_ ?_
                  rotate_left
                  ·exact g2_
                  refine pure_ (i := 15) (N := some 111) (v := undef) (a' := ?_) #[true,true,true,true,true,true,true,true,true,true,true,true,true,true,true,true,false,false,false,false,false,false,false,false,false,false,false,false,false] rfl rfl (any_of HT_.out (by kernel_rfl)) (fun _ _ _ h => h) (Or.inr ⟨by rfl, rfl⟩) ?_ ?_
                  rotate_left
                  ·exact g2_
                  refine pure_ (i := 16) (N := some 112) (v := undef) (a' := ?_) #[true,true,true,true,true,true,true,true,true,true,true,true,true,true,true,true,true,false,false,false,false,false,false,false,false,false,false,false,false] rfl rfl (any_of HT_.out (by kernel_rfl)) (fun _ _ _ h => h) (Or.inr ⟨by rfl, rfl⟩) ?_ ?_
                  rotate_left
                  ·exact g2_
                  refine pure_ (i := 17) (N := some 113) (v := undef) (a' := ?_) #[true,true,true,true,true,true,true,true,true,true,true,true,true,true,true,true,true,true,false,false,false,false,false,false,false,false,false,false,false] rfl rfl (any_of HT_.out (by kernel_rfl)) (fun _ _ _ h => h) (Or.inr ⟨by rfl, rfl⟩) ?_ ?_
                  rotate_left
                  ·exact g2_
                  refine pure_ (i := 18) (N := some 114) (v := undef) (a' := ?_) #[true,true,true,true,true,true,true,true,true,true,true,true,true,true,true,true,true,true,true,false,false,false,false,false,false,false,false,false,false] rfl rfl (any_of HT_.out (by kernel_rfl)) (fun _ _ _ h => h) (Or.inr ⟨by rfl, rfl⟩) ?_ ?_
                  rotate_left
                  ·exact g2_
                  refine pure_ (i := 19) (N := some 115) (v := undef) (a' := ?_) #[true,true,true,true,true,true,true,true,true,true,true,true,true,true,true,true,true,true,true,true,false,false,false,false,false,false,false,false,false] rfl rfl (any_of HT_.out (by kernel_rfl)) (fun _ _ _ h => h) (Or.inr ⟨by rfl, rfl⟩) ?_ ?_
                  rotate_left
                  ·exact g2_
                  refine pure_ (i := 20) (N := some 116) (v := undef) (a' := ?_) #[true,true,true,true,true,true,true,true,true,true,true,true,true,true,true,true,true,true,true,true,true,false,false,false,false,false,false,false,false] rfl rfl (any_of HT_.out (by kernel_rfl)) (fun _ _ _ h => h) (Or.inr ⟨by rfl, rfl⟩) ?_ ?_
                  rotate_left
                  ·exact g2_
                  refine pure_ (i := 21) (N := some 117) (v := undef) (a' := ?_) #[true,true,true,true,true,true,true,true,true,true,true,true,true,true,true,true,true,true,true,true,true,true,false,false,false,false,false,false,false] rfl rfl (any_of HT_.out (by kernel_rfl)) (fun _ _ _ h => h) (Or.inr ⟨by rfl, rfl⟩) ?_ ?_
                  rotate_left
                  ·exact g2_
                  refine pure_ (i := 22) (N := some 118) (v := undef) (a' := ?_) #[true,true,true,true,true,true,true,true,true,true,true,true,true,true,true,true,true,true,true,true,true,true,true,false,false,false,false,false,false] rfl rfl (any_of HT_.out (by kernel_rfl)) (fun _ _ _ h => h) (Or.inr ⟨by rfl, rfl⟩) ?_ ?_
                  rotate_left
                  ·exact g2_
                  refine pure_ (i := 23) (N := some 119) (v := undef) (a' := ?_) #[true,true,true,true,true,true,true,true,true,true,true,true,true,true,true,true,true,true,true,true,true,true,true,true,false,false,false,false,false] rfl rfl (any_of HT_.out (by kernel_rfl)) (fun _ _ _ h => h) (Or.inr ⟨by rfl, rfl⟩) ?_ ?_
                  rotate_left
                  ·exact g2_
                  refine pure_ (i := 24) (N := some 120) (v := undef) (a' := ?_) #[true,true,true,true,true,true,true,true,true,true,true,true,true,true,true,true,true,true,true,true,true,true,true,true,true,false,false,false,false] rfl rfl (any_of HT_.out (by kernel_rfl)) (fun _ _ _ h => h) (Or.inr ⟨by rfl, rfl⟩) ?_ ?_
                  rotate_left
                  ·exact g2_
                  refine pure_ (i := 25) (N := some 121) (v := undef) (a' := ?_) #[true,true,true,true,true,true,true,true,true,true,true,true,true,true,true,true,true,true,true,true,true,true,true,true,true,true,false,false,false] rfl rfl (any_of HT_.out (by kernel_rfl)) (fun _ _ _ h => h) (Or.inr ⟨by rfl, rfl⟩) ?_ ?_
                  rotate_left
                  ·exact g2_
                  refine pure_ (i := 26) (N := some 122) (v := undef) (a' := ?_) #[true,true,true,true,true,true,true,true,true,true,true,true,true,true,true,true,true,true,true,true,true,true,true,true,true,true,true,false,false] rfl rfl (any_of HT_.out (by kernel_rfl)) (fun _ _ _ h => h) (Or.inr ⟨by rfl, rfl⟩) ?_ ?_
                  rotate_left
                  ·exact g2_
                  refine pure_ (i := 27) (N := some 123) (v := undef) (a' := ?_) #[true,true,true,true,true,true,true,true,true,true,true,true,true,true,true,true,true,true,true,true,true,true,true,true,true,true,true,true,false] rfl rfl (any_of HT_.out (by kernel_rfl)) (fun _ _ _ h => h) (Or.inr ⟨by rfl, rfl⟩) ?_ ?_
                  rotate_left
                  ·exact g2_
                  refine pure_ (i := 28) (N := some 124) (v := ?_) (a' := ?_) #[true,true,true,true,true,true,true,true,true,true,true,true,true,true,true,true,true,true,true,true,true,true,true,true,true,true,true,true,true] rfl rfl (any_of HT_.out (by kernel_rfl)) (fun _ _ _ h => h) (Or.inl ⟨by rfl, ?_⟩) ?_ ?_; rotate_left
                  ·exact g1_
                  rotate_left
                  ·exact g2_
                  refine done_ (done_of HT_.out (by kernel_rfl)) ?_
                  try go_wp2
                  go_meet
                  case rel => exact ⟨_, (false), (by first | rfl | (simp; done) | (simp [*]; done)), H', ⟨by have := HJ6.out; have := HK2.out; have := HJ22.out; have := HJ33.out; first | omega | exact Nat.le_refl _⟩, ⟨ra HO_7⟩, ⟨ra HO_46⟩, ⟨bk BK196⟩, ⟨bk BK206⟩, ⟨bl HB⟩⟩
                case rest =>
                 clear HC52
                 try clear c1
                 try clear c2
                 try clear p2
                 try clear q2
                 try clear hx2
                 try clear c5
                 try clear p6
                 try clear c17
                 try clear p20
                 try clear q20
                 try clear hx20
                 try clear p21
                 try clear q21
                 try clear hx21
                 try clear c51
                 try clear c53
                 try clear c53b0
                 try clear c54
                 try clear c54b0
                 try clear c55
                 try clear c55b0
                 try clear c57
                 try clear c58
                 try clear c58b0
                 try clear hcz46_0
                 try clear hcz46_1
                 try clear hcz46_2
                 try clear hcz47_0
                 try clear hcz47_1
                 try clear hcz47_2
                 try clear hcz47_3
                 try clear hcz47_4
                 try clear hcz50_0
                 try clear hcz50_1
                 try clear hcz50_2
                 try clear hcz9_0
                 try clear hcz9_1
                 try clear hcz9_2
                 try clear hcz9_3
                 try clear hcz9_4
                 try clear hfz11_0
                 try clear hfz11_1
                 try clear hfz11_2
                 try clear hfz11_3
                 try clear hfz11_4
                 try clear hfz26_0
                 try clear hfz26_1
                 try clear hfz26_2
                 try clear hfz30_0
                 try clear hfz30_1
                 try clear hfz30_2
                 try clear hfz31_0
                 try clear hfz31_1
                 try clear hfz31_2
                 try clear hfz31_3
                 try clear hfz31_4
                 try clear hfz36_0
                 try clear hfz36_1
                 try clear hfz36_2
                 try clear hfz36_3
                 try clear hfz36_4
                 try clear hfz46_0
                 try clear hfz46_1
                 try clear hfz46_2
                 try clear hfz47_0
                 try clear hfz47_1
                 try clear hfz47_2
                 try clear hfz47_3
                 try clear hfz47_4
                 try clear hfz50_0
                 try clear hfz50_1
                 try clear hfz50_2
                 try clear hfz9_0
                 try clear hfz9_1
                 try clear hfz9_2
                 try clear hfz9_3
                 try clear hfz9_4
                 try clear hx205_0
                 try clear hx205_1
                 try clear hx205_2
                 try clear hx208_0
                 try clear hx208_1
                 try clear hx210_0
                 try clear hx210_1
                 try clear p2
                 try clear p20
                 try clear p205
                 try clear p208
                 try clear p210
                 try clear q2
                 try clear q20
                 try clear q205
                 try clear q208
                 try clear q210
                 obtain ⟨kq, x124_51, rfl, HA, HJ51, HO_7, HO_46, BK196, BK206, HB⟩ := hcut
                 cases kq with
                 | zero => exact absurd HA.out (by simp [interchangelaw12_DeskGivesUpLast.j4])
                 | succ kj51 =>
                  have H := HA.out
                  clear HA
                  simp only [interchangelaw12_DeskGivesUpLast.j4] at H
                  by_cases c62 : x124_51 = true
                  ·subst c62
                   have H1 : (some false) = some r := by rw [if_pos rfl] at H; exact H
                   clear H
                   have H := H1
                   clear H1
                   exact absurd ((Option.some.inj H).trans RT.out) Bool.false_ne_true
                  ·replace c62 := Bool.eq_false_iff.mpr c62
                   subst c62
                   have H1 : (if ((rd_T34 t197 x48_2).f2) ≥ 0 then (if 0 ≤ x48_2 then (if x48_2 < (l1.length : Int) then ((interchangeref12_Answers.f kj51 l2 ((rd_T42 l1 x48_2).f0) ((rd_T34 t197 x48_2).f2)).bind fun t213 => (if t213 = true then (interchangelaw12_DeskGivesUpLast.j5 kj51 l1 l2 t197 t202 t197 (t197.length : Int) x48_2 true a0_0 a0_1 a0_2 a0_3 a0_4 ((rd_T34 t197 x48_2).f0) ((rd_T34 t197 x48_2).f1) ((rd_T34 t197 x48_2).f2)) else (if ((rd_T34 t197 x48_2).f0) = a0_3 then (interchangelaw12_DeskGivesUpLast.j5 kj51 l1 l2 t197 t202 t197 (t197.length : Int) x48_2 (((rd_T34 t197 x48_2).f2) != (wrap64 (t207 + t202))) a0_0 a0_1 a0_2 a0_3 a0_4 ((rd_T34 t197 x48_2).f0) ((rd_T34 t197 x48_2).f1) ((rd_T34 t197 x48_2).f2)) else (interchangelaw12_DeskGivesUpLast.j5 kj51 l1 l2 t197 t202 t197 (t197.length : Int) x48_2 true a0_0 a0_1 a0_2 a0_3 a0_4 ((rd_T34 t197 x48_2).f0) ((rd_T34 t197 x48_2).f1) ((rd_T34 t197 x48_2).f2))))) else (none)) else (none)) else (interchangelaw12_DeskGivesUpLast.j5 kj51 l1 l2 t197 t202 t197 (t197.length : Int) x48_2 false a0_0 a0_1 a0_2 a0_3 a0_4 ((rd_T34 t197 x48_2).f0) ((rd_T34 t197 x48_2).f1) ((rd_T34 t197 x48_2).f2))) = some r := by rw [if_neg (show ¬ (false = true) by decide)] at H; exact H
                   clear H
                   have H := H1
                   clear H1
                   have HC63 := Aside0.mk H
                   clear H
                   go_upto_region 17 with (fail)
                   go_cut [153] (fun v153 wc => ∃ (kq : Nat) (x153_62 : Bool), v153 = .bool x153_62 ∧ Aside0 (interchangelaw12_DeskGivesUpLast.j5 kq l1 l2 t197 t202 t197 (t197.length : Int) x48_2 x153_62 a0_0 a0_1 a0_2 a0_3 a0_4 ((rd_T34 t197 x48_2).f0) ((rd_T34 t197 x48_2).f1) ((rd_T34 t197 x48_2).f2) = some r) ∧ Aside0 (kq ≤ kj51) ∧ Aside0 (Kd.R k34 34 wc w.heap.size (fun k_ => k_ ≠ gb206) (.slice (some ad205) t197.length co19) t197) ∧ Aside0 (Kd.R k34 34 wc w.heap.size (fun k_ => k_ ≠ gb206) (.slice (some ad205) t197.length co19) t197) ∧ Aside0 (wc.heap[gb196]? = some (.cells #[.int .i64 a0_0, .int .i64 a0_1, .int .i64 a0_2, .int .i64 a0_3, .bool a0_4] 23 (0, 0))) ∧ Aside0 (wc.heap[gb206]? = some (.cells #[.int .i64 ((rd_T34 t197 x48_2).f0), .int .i64 ((rd_T34 t197 x48_2).f1), .int .i64 ((rd_T34 t197 x48_2).f2)] 34 (0, 0))) ∧ Aside0 (Below w.heap.size w wc))
                   case first =>
                    have H := HC63.out
                    clear HC63
                    by_cases c64 : ((rd_T34 t197 x48_2).f2) ≥ 0
                    ·rw [if_pos c64] at H
                     have c64b0 : decide (0 ≤ ((rd_T34 t197 x48_2).f2)) = true := decide_eq_true c64
                     clear c64
                     (first | rw [c64b0] | (simp only [i64_w, i32_w]; rw [c64b0]) | skip)
                     by_cases c65 : 0 ≤ x48_2
                     ·rw [if_pos c65] at H
                      have c65b0 : decide (0 ≤ x48_2) = true := decide_eq_true c65
                      clear c65
                      by_cases c66 : x48_2 < (l1.length : Int)
                      ·rw [if_pos c66] at H
                       have c66b0 : decide (x48_2 < (l1.length : Int)) = true := decide_eq_true c66
                       clear c66
                       replace H := Option.bind_eq_some_iff.mp H
                       obtain ⟨t213, A670, H⟩ := H
                       replace H : (if t213 = true then (interchangelaw12_DeskGivesUpLast.j5 kj51 l1 l2 t197 t202 t197 (t197.length : Int) x48_2 true a0_0 a0_1 a0_2 a0_3 a0_4 ((rd_T34 t197 x48_2).f0) ((rd_T34 t197 x48_2).f1) ((rd_T34 t197 x48_2).f2)) else (if ((rd_T34 t197 x48_2).f0) = a0_3 then (interchangelaw12_DeskGivesUpLast.j5 kj51 l1 l2 t197 t202 t197 (t197.length : Int) x48_2 (((rd_T34 t197 x48_2).f2) != (wrap64 (t207 + t202))) a0_0 a0_1 a0_2 a0_3 a0_4 ((rd_T34 t197 x48_2).f0) ((rd_T34 t197 x48_2).f1) ((rd_T34 t197 x48_2).f2)) else (interchangelaw12_DeskGivesUpLast.j5 kj51 l1 l2 t197 t202 t197 (t197.length : Int) x48_2 true a0_0 a0_1 a0_2 a0_3 a0_4 ((rd_T34 t197 x48_2).f0) ((rd_T34 t197 x48_2).f1) ((rd_T34 t197 x48_2).f2)))) = some r := H
                       have A67 := Aside0.mk A670
                       clear A670
                       by_cases c68 : t213 = true
                       ·subst c68
                        have H1 : (interchangelaw12_DeskGivesUpLast.j5 kj51 l1 l2 t197 t202 t197 (t197.length : Int) x48_2 true a0_0 a0_1 a0_2 a0_3 a0_4 ((rd_T34 t197 x48_2).f0) ((rd_T34 t197 x48_2).f1) ((rd_T34 t197 x48_2).f2)) = some r := by rw [if_pos rfl] at H; exact H
                        clear H
                        have H := H1
                        clear H1
                        cases kj51 with
                        | zero => exact absurd H (by simp [interchangelaw12_DeskGivesUpLast.j5])
                        | succ kz_ => exact absurd ((Option.some.inj (show some false = some r from by simpa [interchangelaw12_DeskGivesUpLast.j5] using H)).trans RT.out) Bool.false_ne_true
                       ·replace c68 := Bool.eq_false_iff.mpr c68
                        subst c68
                        have H1 : (if ((rd_T34 t197 x48_2).f0) = a0_3 then (interchangelaw12_DeskGivesUpLast.j5 kj51 l1 l2 t197 t202 t197 (t197.length : Int) x48_2 (((rd_T34 t197 x48_2).f2) != (wrap64 (t207 + t202))) a0_0 a0_1 a0_2 a0_3 a0_4 ((rd_T34 t197 x48_2).f0) ((rd_T34 t197 x48_2).f1) ((rd_T34 t197 x48_2).f2)) else (interchangelaw12_DeskGivesUpLast.j5 kj51 l1 l2 t197 t202 t197 (t197.length : Int) x48_2 true a0_0 a0_1 a0_2 a0_3 a0_4 ((rd_T34 t197 x48_2).f0) ((rd_T34 t197 x48_2).f1) ((rd_T34 t197 x48_2).f2))) = some r := by rw [if_neg (show ¬ (false = true) by decide)] at H; exact H
                        clear H
                        have H := H1
                        clear H1
                        by_cases c69 : ((rd_T34 t197 x48_2).f0) = a0_3
                        ·rw [if_pos c69] at H
                         have c69b0 : (((rd_T34 t197 x48_2).f0) == a0_3) = true := beq_iff_eq.mpr c69
                         have c69b1 : (((rd_T34 t197 x48_2).f0) != a0_3) = false := bne_eq_false_iff_eq.mpr c69
                         clear c69
                         have H' := Aside0.mk H
                         clear H
                         try go_wp2
                         have n0_ := Aside0.mk (Kd.R_drew HO_7.out)
                         have n1_ := Aside0.mk (Kd.R_drew HO_46.out)
                         have n2_ := Aside0.mk (blk_drew BK196.out)
                         have n3_ := Aside0.mk (blk_drew BK206.out)
                         have n4_ := Aside0.mk (below_drew1 HB.out)
                         clear HO_7
                         clear HO_46
                         clear BK196
                         clear BK206
                         clear HB
                         have HO_7 := n0_
                         have HO_46 := n1_
                         have BK196 := n2_
                         have BK206 := n3_
                         have HB := n4_
                         clear n0_ n1_ n2_ n3_ n4_
                         have p212 : 0 ≤ (x48_2 : Int) := of_decide_eq_true odt
                         have q212 : x48_2 < (l1.length : Int) := of_decide_eq_true odt
                         obtain ⟨ad212, e212, hx212_0, hx212_1⟩ := at_T42 HR1.out x48_2 p212 q212
                         have hw212_1 := hx212_1
                         have hw212_0 := hx212_0
                         cases e212
                         replace hx212_0 := (HB.out.cell (World.block_lt_of_cell? w _ hx212_0)).trans hx212_0
                         replace hx212_1 := (HB.out.cell (World.block_lt_of_cell? w _ hx212_1)).trans hx212_1
                         replace p212 := eq_true p212
                         replace q212 := eq_true q212
                         refine start_ (n := 29) (S := fun w' => w'.cell? ⟨gb206, 0, none⟩ = some (.int .i64 ((rd_T34 t197 x48_2).f0)) ∧ w'.cell? ⟨gb206, 1, none⟩ = some (.int .i64 ((rd_T34 t197 x48_2).f1)) ∧ w'.cell? ⟨gb206, 2, none⟩ = some (.int .i64 ((rd_T34 t197 x48_2).f2)) ∧ w'.cell? ⟨gb196, 0, none⟩ = some (.int .i64 a0_0) ∧ w'.cell? ⟨gb196, 1, none⟩ = some (.int .i64 a0_1) ∧ w'.cell? ⟨gb196, 2, none⟩ = some (.int .i64 a0_2) ∧ w'.cell? ⟨gb196, 3, none⟩ = some (.int .i64 a0_3) ∧ w'.cell? ⟨gb196, 4, none⟩ = some (.bool a0_4) ∧ w'.cell? (ad212.add ((x48_2).toNat * 2)) = some (.string ((rd_T42 l1 x48_2).f0)) ∧ w'.cell? ⟨(ad212.add ((x48_2).toNat * 2)).block, (ad212.add ((x48_2).toNat * 2)).off + 1, none⟩ = some (.int .i64 ((rd_T42 l1 x48_2).f1))) (ds := []) #[false,false,false,false,false,false,false,false,false,false,false,false,false,false,false,false,false,false,false,false,false,false,false,false,false,false,false,false,false] (by kernel_rfl) rfl rfl ⟨(blk_cell BK206.out 0).trans rfl, (blk_cell BK206.out 1).trans rfl, (blk_cell BK206.out 2).trans rfl, (blk_cell BK196.out 0).trans rfl, (blk_cell BK196.out 1).trans rfl, (blk_cell BK196.out 2).trans rfl, (blk_cell BK196.out 3).trans rfl, (blk_cell BK196.out 4).trans rfl, ((HB.out.cell (World.block_lt_of_cell? w _ hw212_0)).trans hw212_0), ((HB.out.cell (World.block_lt_of_cell? w _ hw212_1)).trans hw212_1)⟩ (fun hHeld => ?_); refine with_tabW interchangelaw12_DeskGivesUpLast.tab17 interchangelaw12_DeskGivesUpLast.bits17 (fun HT_ HW_ => ?_)
                         generalize wc.drew = w70 at HO_7 HO_46 BK196 BK206 HB hx212_0 hx212_1 hHeld ⊢
                         refine pure_ (i := 0) (N := some 125) (v := ?_) (a' := ?_) #[true,false,false,false,false,false,false,false,false,false,false,false,false,false,false,false,false,false,false,false,false,false,false,false,false,false,false,false,false] rfl rfl (any_of HT_.out (by kernel_rfl)) (fun _ _ _ h => h) (Or.inl ⟨by rfl, ?_⟩) ?_ ?_; rotate_left
                         ·exact g1_
                         rotate_left
                         ·exact g2_
                         refine take_ (i := 1) (N := some 126) (v := ?_) (a' := ?_) #[true,true,false,false,false,false,false,false,false,false,false,false,false,false,false,false,false,false,false,false,false,false,false,false,false,false,false,false,false] rfl rfl (take_ofW HT_.out HW_.out (by kernel_rfl)) (fun _ _ _ h => h) (Or.inl ⟨by rfl, ?_⟩) hHeld ?_ ?_
                         rotate_left
                         ·rintro w' ⟨s0, s1, s2, s3, s4, s5, s6, s7, s8, s9⟩
                          go_simp
                          with_reducible rfl
                         rotate_left
                         ·exact g2_
                         refine pure_ (i := 2) (N := some 127) (v := ?_) (a' := ?_) #[true,true,true,false,false,false,false,false,false,false,false,false,false,false,false,false,false,false,false,false,false,false,false,false,false,false,false,false,false] rfl rfl (any_of HT_.out (by kernel_rfl)) (fun _ _ _ h => h) (Or.inl ⟨by rfl, ?_⟩) ?_ ?_; rotate_left
                         ·exact g1_
                         rotate_left
                         ·exact g2_
                         refine pure_ (i := 3) (N := some 128) (v := ?_) (a' := ?_) #[true,true,true,true,false,false,false,false,false,false,false,false,false,false,false,false,false,false,false,false,false,false,false,false,false,false,false,false,false] rfl rfl (any_of HT_.out (by kernel_rfl)) (fun _ _ _ h => h) (Or.inl ⟨by rfl, ?_⟩) ?_ ?_; rotate_left
                         ·exact g1_
                         rotate_left
                         ·exact g2_
                         refine pure_ (i := 4) (N := some 129) (v := ?_) (a' := ?_) #[true,true,true,true,true,false,false,false,false,false,false,false,false,false,false,false,false,false,false,false,false,false,false,false,false,false,false,false,false] rfl rfl (any_of HT_.out (by kernel_rfl)) (fun _ _ _ h => h) (Or.inl ⟨by rfl, ?_⟩) ?_ ?_; rotate_left
                         ·exact g1_
                         rotate_left
                         ·exact g2_
                         refine pure_ (i := 5) (N := some 130) (v := ?_) (a' := ?_) #[true,true,true,true,true,true,false,false,false,false,false,false,false,false,false,false,false,false,false,false,false,false,false,false,false,false,false,false,false] rfl rfl (any_of HT_.out (by kernel_rfl)) (fun _ _ _ h => h) (Or.inl ⟨by rfl, ?_⟩) ?_ ?_; rotate_left
                         ·exact g1_
                         rotate_left
                         ·exact g2_
                         refine pure_ (i := 6) (N := some 131) (v := ?_) (a' := ?_) #[true,true,true,true,true,true,true,false,false,false,false,false,false,false,false,false,false,false,false,false,false,false,false,false,false,false,false,false,false] rfl rfl (any_of HT_.out (by kernel_rfl)) (fun _ _ _ h => h) (Or.inl ⟨by rfl, ?_⟩) ?_ ?_; rotate_left
                         ·exact g1_
                         rotate_left
                         ·exact g2_
                         refine pure_ (i := 7) (N := some 132) (v := ?_) (a' := ?_) #[true,true,true,true,true,true,true,true,false,false,false,false,false,false,false,false,false,false,false,false,false,false,false,false,false,false,false,false,false] rfl rfl (any_of HT_.out (by kernel_rfl)) (fun _ _ _ h => h) (Or.inl ⟨by rfl, ?_⟩) ?_ ?_; rotate_left
                         ·exact g1_
                         rotate_left
                         ·exact g2_
                         refine pure_ (i := 8) (N := some 133) (v := ?_) (a' := ?_) #[true,true,true,true,true,true,true,true,true,false,false,false,false,false,false,false,false,false,false,false,false,false,false,false,false,false,false,false,false] rfl rfl (any_of HT_.out (by kernel_rfl)) (fun _ _ _ h => h) (Or.inl ⟨by rfl, ?_⟩) ?_ ?_; rotate_left
                         ·exact g1_
                         rotate_left
                         ·exact g2_
                         refine pure_ (i := 10) (N := some 135) (v := ?_) (a' := ?_) #[true,true,true,true,true,true,true,true,true,false,true,false,false,false,false,false,false,false,false,false,false,false,false,false,false,false,false,false,false] rfl rfl (any_of HT_.out (by kernel_rfl)) (fun _ _ _ h => h) (Or.inl ⟨by rfl, ?_⟩) ?_ ?_; rotate_left
                         ·exact g1_
                         rotate_left
                         ·exact g2_
                         refine take_ (i := 9) (N := some 134) (v := ?_) (a' := ?_) #[true,true,true,true,true,true,true,true,true,true,true,false,false,false,false,false,false,false,false,false,false,false,false,false,false,false,false,false,false] rfl rfl (take_ofW HT_.out HW_.out (by kernel_rfl)) (fun _ _ _ h => h) (Or.inl ⟨by rfl, ?_⟩) hHeld ?_ ?_
                         rotate_left
                         ·rintro w' ⟨s0, s1, s2, s3, s4, s5, s6, s7, s8, s9⟩
                          go_simp
                          with_reducible rfl
                         rotate_left
                         ·exact g2_
                         refine take_ (i := 11) (N := some 136) (v := ?_) (a' := ?_) #[true,true,true,true,true,true,true,true,true,true,true,true,false,false,false,false,false,false,false,false,false,false,false,false,false,false,false,false,false] rfl rfl (take_ofW HT_.out HW_.out (by kernel_rfl)) (fun _ _ _ h => h) (Or.inl ⟨by rfl, ?_⟩) hHeld ?_ ?_
                         rotate_left
                         ·rintro w' ⟨s0, s1, s2, s3, s4, s5, s6, s7, s8, s9⟩
                          go_simp
                          with_reducible rfl
                         rotate_left
                         ·exact g2_
                         refine one_ (i := 12) (N := some 137) #[true,true,true,true,true,true,true,true,true,true,true,true,true,false,false,false,false,false,false,false,false,false,false,false,false,false,false,false,false] rfl rfl (one_of HT_.out (by kernel_rfl)) (by decide) (fun K hK => ?_)
                         refine goes_ Tryd.func17 (by kernel_rfl) rfl #[.slice A2 l2.length c2, .string ((rd_T42 l1 x48_2).f0), .int .i64 ((rd_T34 t197 x48_2).f2)] (by rfl) rfl rfl gs ?_
                         with_reducible refine (interchangeref12_Answers.calls kj51 _ _ l2 ((rd_T42 l1 x48_2).f0) ((rd_T34 t197 x48_2).f2) false _ ?side1 ?side2 A67.out).mono ?_
                         (case side1 => exact kc HR2 HB)
                         (case side2 => exact HC2.out)
                         rintro e w71 ⟨rfl, hb⟩
                         refine ⟨_, rfl, ?_⟩
                         have n0_ := Aside0.mk (Kd.R_below (ra HO_7) hb)
                         have n1_ := Aside0.mk (Kd.R_below (ra HO_46) hb)
                         have n2_ := Aside0.mk (blk_below (g := gb196) (o := .cells #[.int .i64 a0_0, .int .i64 a0_1, .int .i64 a0_2, .int .i64 a0_3, .bool a0_4] 23 (0, 0)) (bk BK196) hb)
                         have n3_ := Aside0.mk (blk_below (g := gb206) (o := .cells #[.int .i64 ((rd_T34 t197 x48_2).f0), .int .i64 ((rd_T34 t197 x48_2).f1), .int .i64 ((rd_T34 t197 x48_2).f2)] 34 (0, 0)) (bk BK206) hb)
                         have n4_ := Aside0.mk (below_step (bl HB) hb)
                         clear HO_7
                         clear HO_46
                         clear BK196
                         clear BK206
                         clear HB
                         have HO_7 := n0_
                         have HO_46 := n1_
                         have BK196 := n2_
                         have BK206 := n3_
                         have HB := n4_
                         clear n0_ n1_ n2_ n3_ n4_
                         (try clear hb)
                         (try clear hb2)
                         (try clear hk)
                         (try clear hi)
                         refine hK.out _ _ ⟨(blk_cell BK206.out 0).trans rfl, (blk_cell BK206.out 1).trans rfl, (blk_cell BK206.out 2).trans rfl, (blk_cell BK196.out 0).trans rfl, (blk_cell BK196.out 1).trans rfl, (blk_cell BK196.out 2).trans rfl, (blk_cell BK196.out 3).trans rfl, (blk_cell BK196.out 4).trans rfl, ((HB.out.cell (World.block_lt_of_cell? w _ hw212_0)).trans hw212_0), ((HB.out.cell (World.block_lt_of_cell? w _ hw212_1)).trans hw212_1)⟩ (fun hHeld => ?_)
                         clear hK K
                         refine norm_ (a' := ?_) ?_ ?_
                         rotate_left
                         ·show Act.put _ (some 137) _ = _
                          simp only [Act.put, List.setIfInBounds_toArray, List.set_cons_zero, List.set_cons_succ, i64_w, i32_w]
                          rfl
                         refine pure_ (i := 13) (N := some 138) (v := ?_) (a' := ?_) #[true,true,true,true,true,true,true,true,true,true,true,true,true,true,false,false,false,false,false,false,false,false,false,false,false,false,false,false,false] rfl rfl (any_of HT_.out (by kernel_rfl)) (fun _ _ _ h => h) (Or.inl ⟨by rfl, ?_⟩) ?_ ?_; rotate_left
                         ·exact g1_
                         rotate_left
                         ·exact g2_
                         refine pure_ (i := 14) (N := some 139) (v := ?_) (a' := ?_) #[true,true,true,true,true,true,true,true,true,true,true,true,true,true,true,false,false,false,false,false,false,false,false,false,false,false,false,false,false] rfl rfl (any_of HT_.out (by kernel_rfl)) (fun _ _ _ h => h) (Or.inl ⟨by rfl, ?_⟩) ?_ ?_; rotate_left
                         ·exact g1_
                         rotate_left
                         ·exact g2_
                         refine pure_ (i := 16) (N := some 141) (v := ?_) (a' := ?_) #[true,true,true,true,true,true,true,true,true,true,true,true,true,true,true,false,true,false,false,false,false,false,false,false,false,false,false,false,false] rfl rfl (any_of HT_.out (by kernel_rfl)) (fun _ _ _ h => h) (Or.inl ⟨by rfl, ?_⟩) ?_ ?_; rotate_left
                         ·exact g1_
                         rotate_left
                         ·exact g2_
                         refine take_ (i := 15) (N := some 140) (v := ?_) (a' := ?_) #[true,true,true,true,true,true,true,true,true,true,true,true,true,true,true,true,true,false,false,false,false,false,false,false,false,false,false,false,false] rfl rfl (take_ofW HT_.out HW_.out (by kernel_rfl)) (fun _ _ _ h => h) (Or.inl ⟨by rfl, ?_⟩) hHeld ?_ ?_
                         rotate_left
                         ·rintro w' ⟨s0, s1, s2, s3, s4, s5, s6, s7, s8, s9⟩
                          go_simp
                          with_reducible rfl
                         rotate_left
                         ·exact g2_
                         refine take_ (i := 17) (N := some 142) (v := ?_) (a' := ?_) #[true,true,true,true,true,true,true,true,true,true,true,true,true,true,true,true,true,true,false,false,false,false,false,false,false,false,false,false,false] rfl rfl (take_ofW HT_.out HW_.out (by kernel_rfl)) (fun _ _ _ h => h) (Or.inl ⟨by rfl, ?_⟩) hHeld ?_ ?_
                         rotate_left
                         ·rintro w' ⟨s0, s1, s2, s3, s4, s5, s6, s7, s8, s9⟩
                          go_simp
                          with_reducible rfl
                         rotate_left
                         ·exact g2_
                         refine pure_ (i := 18) (N := some 143) (v := ?_) (a' := ?_) #[true,true,true,true,true,true,true,true,true,true,true,true,true,true,true,true,true,true,true,false,false,false,false,false,false,false,false,false,false] rfl rfl (any_of HT_.out (by kernel_rfl)) (fun _ _ _ h => h) (Or.inl ⟨by rfl, ?_⟩) ?_ ?_; rotate_left
                         ·exact g1_
                         rotate_left
                         ·exact g2_
                         refine pure_ (i := 19) (N := some 144) (v := ?_) (a' := ?_) #[true,true,true,true,true,true,true,true,true,true,true,true,true,true,true,true,true,true,true,true,false,false,false,false,false,false,false,false,false] rfl rfl (any_of HT_.out (by kernel_rfl)) (fun _ _ _ h => h) (Or.inl ⟨by rfl, ?_⟩) ?_ ?_; rotate_left
                         ·exact g1_
                         rotate_left
                         ·exact g2_
                         refine pure_ (i := 20) (N := some 145) (v := ?_) (a' := ?_) #[true,true,true,true,true,true,true,true,true,true,true,true,true,true,true,true,true,true,true,true,true,false,false,false,false,false,false,false,false] rfl rfl (any_of HT_.out (by kernel_rfl)) (fun _ _ _ h => h) (Or.inl ⟨by rfl, ?_⟩) ?_ ?_; rotate_left
                         ·exact g1_
                         rotate_left
                         ·exact g2_
                         refine pure_ (i := 21) (N := some 146) (v := ?_) (a' := ?_) #[true,true,true,true,true,true,true,true,true,true,true,true,true,true,true,true,true,true,true,true,true,true,false,false,false,false,false,false,false] rfl rfl (any_of HT_.out (by kernel_rfl)) (fun _ _ _ h => h) (Or.inl ⟨by rfl, ?_⟩) ?_ ?_; rotate_left
                         ·exact g1_
                         rotate_left
                         ·exact g2_
                         refine pure_ (i := 23) (N := some 148) (v := ?_) (a' := ?_) #[true,true,true,true,true,true,true,true,true,true,true,true,true,true,true,true,true,true,true,true,true,true,false,true,false,false,false,false,false] rfl rfl (any_of HT_.out (by kernel_rfl)) (fun _ _ _ h => h) (Or.inl ⟨by rfl, ?_⟩) ?_ ?_; rotate_left
                         ·exact g1_
                         rotate_left
                         ·exact g2_
                         refine pure_ (i := 24) (N := some 149) (v := ?_) (a' := ?_) #[true,true,true,true,true,true,true,true,true,true,true,true,true,true,true,true,true,true,true,true,true,true,false,true,true,false,false,false,false] rfl rfl (any_of HT_.out (by kernel_rfl)) (fun _ _ _ h => h) (Or.inl ⟨by rfl, ?_⟩) ?_ ?_; rotate_left
                         ·exact g1_
                         rotate_left
                         ·exact g2_
                         refine pure_ (i := 25) (N := some 150) (v := ?_) (a' := ?_) #[true,true,true,true,true,true,true,true,true,true,true,true,true,true,true,true,true,true,true,true,true,true,false,true,true,true,false,false,false] rfl rfl (any_of HT_.out (by kernel_rfl)) (fun _ _ _ h => h) (Or.inl ⟨by rfl, ?_⟩) ?_ ?_; rotate_left
                         ·exact g1_
                         rotate_left
                         ·exact g2_
                         refine take_ (i := 22) (N := some 147) (v := ?_) (a' := ?_) #[true,true,true,true,true,true,true,true,true,true,true,true,true,true,true,true,true,true,true,true,true,true,true,true,true,true,false,false,false] rfl rfl (take_ofW HT_.out HW_.out (by kernel_rfl)) (fun _ _ _ h => h) (Or.inl ⟨by rfl, ?_⟩) hHeld ?_ ?_
                         rotate_left
                         ·rintro w' ⟨s0, s1, s2, s3, s4, s5, s6, s7, s8, s9⟩
                          go_simp
                          with_reducible rfl
                         rotate_left
                         ·exact g2_
                         refine pure_ (i := 26) (N := some 151) (v := ?_) (a' := ?_) #[true,true,true,true,true,true,true,true,true,true,true,true,true,true,true,true,true,true,true,true,true,true,true,true,true,true,true,false,false] rfl rfl (any_of HT_.out (by kernel_rfl)) (fun _ _ _ h => h) (Or.inl ⟨by rfl, ?_⟩) ?_ ?_; rotate_left
                         ·exact g1_
                         rotate_left
                         ·exact g2_
                         refine pure_ (i := 27) (N := some 152) (v := ?_) (a' := ?_) #[true,true,true,true,true,true,true,true,true,true,true,true,true,true,true,true,true,true,true,true,true,true,true,true,true,true,true,true,false] rfl rfl (any_of HT_.out (by kernel_rfl)) (fun _ _ _ h => h) (Or.inl ⟨by rfl, ?_⟩) ?_ ?_; rotate_left
                         ·exact g1_
                         rotate_left
                         ·exact g2_
                         refine pure_ (i := 28) (N := some 153) (v := ?_) (a' := ?_) #[true,true,true,true,true,true,true,true,true,true,true,true,true,true,true,true,true,true,true,true,true,true,true,true,true,true,true,true,true] rfl rfl (any_of HT_.out (by kernel_rfl)) (fun _ _ _ h => h) (Or.inl ⟨by rfl, ?_⟩) ?_ ?_; rotate_left
                         ·exact g1_
                         rotate_left
                         ·exact g2_
                         refine done_ (done_of HT_.out (by kernel_rfl)) ?_
                         try go_wp2
                         go_meet
                         case rel => exact ⟨_, ((((rd_T34 t197 x48_2).f2) != (wrap64 (t207 + t202)))), (by first | rfl | (simp; done) | (simp [*]; done)), H', ⟨by have := HJ6.out; have := HK2.out; have := HJ22.out; have := HJ33.out; have := HJ51.out; first | omega | exact Nat.le_refl _⟩, ⟨ra HO_7⟩, ⟨ra HO_46⟩, ⟨bk BK196⟩, ⟨bk BK206⟩, ⟨bl HB⟩⟩
                        ·rw [if_neg c69] at H
                         have c69b0 : (((rd_T34 t197 x48_2).f0) == a0_3) = false := beq_eq_false_iff_ne.mpr c69
                         have c69b1 : (((rd_T34 t197 x48_2).f0) != a0_3) = true := bne_iff_ne.mpr c69
                         cases kj51 with
                         | zero => exact absurd H (by simp [interchangelaw12_DeskGivesUpLast.j5])
                         | succ kz_ => exact absurd ((Option.some.inj (show some false = some r from by simpa [interchangelaw12_DeskGivesUpLast.j5] using H)).trans RT.out) Bool.false_ne_true
                      ·rw [if_neg c66] at H
                       exact absurd H (by simp)
                     ·rw [if_neg c65] at H
                      exact absurd H (by simp)
                    ·rw [if_neg c64] at H
                     have c64b0 : decide (0 ≤ ((rd_T34 t197 x48_2).f2)) = false := decide_eq_false c64
                     clear c64
                     (first | rw [c64b0] | (simp only [i64_w, i32_w]; rw [c64b0]) | skip)
                     have H' := Aside0.mk H
                     clear H
                     try go_wp2
                     have n0_ := Aside0.mk (Kd.R_drew HO_7.out)
                     have n1_ := Aside0.mk (Kd.R_drew HO_46.out)
                     have n2_ := Aside0.mk (blk_drew BK196.out)
                     have n3_ := Aside0.mk (blk_drew BK206.out)
                     have n4_ := Aside0.mk (below_drew1 HB.out)
                     clear HO_7
                     clear HO_46
                     clear BK196
                     clear BK206
                     clear HB
                     have HO_7 := n0_
                     have HO_46 := n1_
                     have BK196 := n2_
                     have BK206 := n3_
                     have HB := n4_
                     clear n0_ n1_ n2_ n3_ n4_
                     refine start_ (n := 29) (S := fun w' => w'.cell? ⟨gb206, 0, none⟩ = some (.int .i64 ((rd_T34 t197 x48_2).f0)) ∧ w'.cell? ⟨gb206, 1, none⟩ = some (.int .i64 ((rd_T34 t197 x48_2).f1)) ∧ w'.cell? ⟨gb206, 2, none⟩ = some (.int .i64 ((rd_T34 t197 x48_2).f2))) (ds := []) #[false,false,false,false,false,false,false,false,false,false,false,false,false,false,false,false,false,false,false,false,false,false,false,false,false,false,false,false,false] (by kernel_rfl) rfl rfl ⟨(blk_cell BK206.out 0).trans rfl, (blk_cell BK206.out 1).trans rfl, (blk_cell BK206.out 2).trans rfl⟩ (fun hHeld => ?_); refine with_tabW interchangelaw12_DeskGivesUpLast.tab17 interchangelaw12_DeskGivesUpLast.bits17 (fun HT_ HW_ => ?_)
                     generalize wc.drew = w72 at HO_7 HO_46 BK196 BK206 HB hHeld ⊢
                     refine pure_ (i := 0) (N := some 125) (v := ?_) (a' := ?_) #[true,false,false,false,false,false,false,false,false,false,false,false,false,false,false,false,false,false,false,false,false,false,false,false,false,false,false,false,false] rfl rfl (any_of HT_.out (by kernel_rfl)) (fun _ _ _ h => h) (Or.inl ⟨by rfl, ?_⟩) ?_ ?_; rotate_left
                     ·exact g1_
                     rotate_left
                     ·exact g2_
                     refine take_ (i := 1) (N := some 126) (v := ?_) (a' := ?_) #[true,true,false,false,false,false,false,false,false,false,false,false,false,false,false,false,false,false,false,false,false,false,false,false,false,false,false,false,false] rfl rfl (take_ofW HT_.out HW_.out (by kernel_rfl)) (fun _ _ _ h => h) (Or.inl ⟨by rfl, ?_⟩) hHeld ?_ ?_
                     rotate_left
                     ·rintro w' ⟨s0, s1, s2⟩
                      go_simp
                      with_reducible rfl
                     rotate_left
                     ·exact g2_
                     refine pure_ (i := 2) (N := some 127) (v := ?_) (a' := ?_) #[true,true,true,false,false,false,false,false,false,false,false,false,false,false,false,false,false,false,false,false,false,false,false,false,false,false,false,false,false] rfl rfl (any_of HT_.out (by kernel_rfl)) (fun _ _ _ h => h) (Or.inl ⟨by rfl, ?_⟩) ?_ ?_; rotate_left
                     ·exact g1_
                     rotate_left
                     ·exact g2_
                     refine pure_ (i := 3) (N := some 128) (v := ?_) (a' := ?_) #[true,true,true,true,false,false,false,false,false,false,false,false,false,false,false,false,false,false,false,false,false,false,false,false,false,false,false,false,false] rfl rfl (any_of HT_.out (by kernel_rfl)) (fun _ _ _ h => h) (Or.inl ⟨by rfl, ?_⟩) ?_ ?_; rotate_left
                     ·exact g1_
                     rotate_left
                     ·exact g2_
                     refine pure_ (i := 4) (N := some 129) (v := undef) (a' := ?_) #[true,true,true,true,true,false,false,false,false,false,false,false,false,false,false,false,false,false,false,false,false,false,false,false,false,false,false,false,false] rfl rfl (any_of HT_.out (by kernel_rfl)) (fun _ _ _ h => h) (Or.inr ⟨by rfl, rfl⟩) ?_ ?_
                     rotate_left
                     ·exact g2_
                     refine pure_ (i := 5) (N := some 130) (v := undef) (a' := ?_) #[true,true,true,true,true,true,false,false,false,false,false,false,false,false,false,false,false,false,false,false,false,false,false,false,false,false,false,false,false] rfl rfl (any_of HT_.out (by kernel_rfl)) (fun _ _ _ h => h) (Or.inr ⟨by rfl, rfl⟩) ?_ ?_
                     rotate_left
                     ·exact g2_
                     refine pure_ (i := 6) (N := some 131) (v := undef) (a' := ?_) #[true,true,true,true,true,true,true,false,false,false,false,false,false,false,false,false,false,false,false,false,false,false,false,false,false,false,false,false,false] rfl rfl (any_of HT_.out (by kernel_rfl)) (fun _ _ _ h => h) (Or.inr ⟨by rfl, rfl⟩) ?_ ?_
                     rotate_left
                     ·exact g2_
                     refine pure_ (i := 7) (N := some 132) (v := undef) (a' := ?_) #[true,true,true,true,true,true,true,true,false,false,false,false,false,false,false,false,false,false,false,false,false,false,false,false,false,false,false,false,false] rfl rfl (any_of HT_.out (by kernel_rfl)) (fun _ _ _ h => h) (Or.inr ⟨by rfl, rfl⟩) ?_ ?_
                     rotate_left
                     ·exact g2_
                     refine pure_ (i := 8) (N := some 133) (v := undef) (a' := ?_) #[true,true,true,true,true,true,true,true,true,false,false,false,false,false,false,false,false,false,false,false,false,false,false,false,false,false,false,false,false] rfl rfl (any_of HT_.out (by kernel_rfl)) (fun _ _ _ h => h) (Or.inr ⟨by rfl, rfl⟩) ?_ ?_
                     rotate_left
                     ·exact g2_
                     refine pure_ (i := 9) (N := some 134) (v := undef) (a' := ?_) #[true,true,true,true,true,true,true,true,true,true,false,false,false,false,false,false,false,false,false,false,false,false,false,false,false,false,false,false,false] rfl rfl (any_of HT_.out (by kernel_rfl)) (fun _ _ _ h => h) (Or.inr ⟨by rfl, rfl⟩) ?_ ?_
                     rotate_left
                     ·exact g2_
                     refine pure_ (i := 10) (N := some 135) (v := undef) (a' := ?_) #[true,true,true,true,true,true,true,true,true,true,true,false,false,false,false,false,false,false,false,false,false,false,false,false,false,false,false,false,false] rfl rfl (any_of HT_.out (by kernel_rfl)) (fun _ _ _ h => h) (Or.inr ⟨by rfl, rfl⟩) ?_ ?_
                     rotate_left
                     ·exact g2_
                     refine pure_ (i := 11) (N := some 136) (v := undef) (a' := ?_) #[true,true,true,true,true,true,true,true,true,true,true,true,false,false,false,false,false,false,false,false,false,false,false,false,false,false,false,false,false] rfl rfl (any_of HT_.out (by kernel_rfl)) (fun _ _ _ h => h) (Or.inr ⟨by rfl, rfl⟩) ?_ ?_
                     rotate_left
                     ·exact g2_
                     refine pure_ (i := 12) (N := some 137) (v := undef) (a' := ?_) #[true,true,true,true,true,true,true,true,true,true,true,true,true,false,false,false,false,false,false,false,false,false,false,false,false,false,false,false,false] rfl rfl (any_of HT_.out (by kernel_rfl)) (fun _ _ _ h => h) (Or.inr ⟨by rfl, rfl⟩) ?_ ?_
                     rotate_left
                     ·exact g2_
                     refine pure_ (i := 13) (N := some 138) (v := undef) (a' := ?_) #[true,true,true,true,true,true,true,true,true,true,true,true,true,true,false,false,false,false,false,false,false,false,false,false,false,false,false,false,false] rfl rfl (any_of HT_.out (by kernel_rfl)) (fun _ _ _ h => h) (Or.inr ⟨by rfl, rfl⟩) ?_ ?_
                     rotate_left
                     ·exact g2_
                     refine pure_ (i := 14) (N := some 139) (v := undef) (a' := ?_) #[true,true,true,true,true,true,true,true,true,true,true,true,true,true,true,false,false,false,false,false,false,false,false,false,false,false,false,false,false] rfl rfl (any_of HT_.out (by kernel_rfl)) (fun _ _ _ h => h) (Or.inr ⟨by rfl, rfl⟩) ?_ ?_
                     rotate_left
                     ·exact g2_
                     refine pure_ (i := 15) (N := some 140) (v := undef) (a' := ?_) #[true,true,true,true,true,true,true,true,true,true,true,true,true,true,true,true,false,false,false,false,false,false,false,false,false,false,false,false,false] rfl rfl (any_of HT_.out (by kernel_rfl)) (fun _ _ _ h => h) (Or.inr ⟨by rfl, rfl⟩) ?_ ?_
                     rotate_left
                     ·exact g2_
                     refine pure_ (i := 16) (N := some 141) (v := undef) (a' := ?_) #[true,true,true,true,true,true,true,true,true,true,true,true,true,true,true,true,true,false,false,false,false,false,false,false,false,false,false,false,false] rfl rfl (any_of HT_.out (by kernel_rfl)) (fun _ _ _ h => h) (Or.inr ⟨by rfl, rfl⟩) ?_ ?_
                     rotate_left
                     ·exact g2_
                     refine pure_ (i := 17) (N := some 142) (v := undef) (a' := ?_) #[true,true,true,true,true,true,true,true,true,true,true,true,true,true,true,true,true,true,false,false,false,false,false,false,false,false,false,false,false] rfl rfl (any_of HT_.out (by kernel_rfl)) (fun _ _ _ h => h) (Or.inr ⟨by rfl, rfl⟩) ?_ ?_
                     rotate_left
                     ·exact g2_
                     refine pure_ (i := 18) (N := some 143) (v := undef) (a' := ?_) #[true,true,true,true,true,true,true,true,true,true,true,true,true,true,true,true,true,true,true,false,false,false,false,false,false,false,false,false,false] rfl rfl (any_of HT_.out (by kernel_rfl)) (fun _ _ _ h => h) (Or.inr ⟨by rfl, rfl⟩) ?_ ?_
                     rotate_left
                     ·exact g2_
                     refine pure_ (i := 19) (N := some 144) (v := undef) (a' := ?_) #[true,true,true,true,true,true,true,true,true,true,true,true,true,true,true,true,true,true,true,true,false,false,false,false,false,false,false,false,false] rfl rfl (any_of HT_.out (by kernel_rfl)) (fun _ _ _ h => h) (Or.inr ⟨by rfl, rfl⟩) ?_ ?_
                     rotate_left
                     ·exact g2_
                     refine pure_ (i := 20) (N := some 145) (v := undef) (a' := ?_) #[true,true,true,true,true,true,true,true,true,true,true,true,true,true,true,true,true,true,true,true,true,false,false,false,false,false,false,false,false] rfl rfl (any_of HT_.out (by kernel_rfl)) (fun _ _ _ h => h) (Or.inr ⟨by rfl, rfl⟩) ?_ ?_
                     rotate_left
                     ·exact g2_
                     refine pure_ (i := 21) (N := some 146) (v := undef) (a' := ?_) #[true,true,true,true,true,true,true,true,true,true,true,true,true,true,true,true,true,true,true,true,true,true,false,false,false,false,false,false,false] rfl rfl (any_of HT_.out (by kernel_rfl)) (fun _ _ _ h => h) (Or.inr ⟨by rfl, rfl⟩) ?_ ?_
                     rotate_left
                     ·exact g2_
                     refine pure_ (i := 22) (N := some 147) (v := undef) (a' := ?_) #[true,true,true,true,true,true,true,true,true,true,true,true,true,true,true,true,true,true,true,true,true,true,true,false,false,false,false,false,false] rfl rfl (any_of HT_.out (by kernel_rfl)) (fun _ _ _ h => h) (Or.inr ⟨by rfl, rfl⟩) ?_ ?_
                     rotate_left
                     ·exact g2_
                     refine pure_ (i := 23) (N := some 148) (v := undef) (a' := ?_) #[true,true,true,true,true,true,true,true,true,true,true,true,true,true,true,true,true,true,true,true,true,true,true,true,false,false,false,false,false] rfl rfl (any_of HT_.out (by kernel_rfl)) (fun _ _ _ h => h) (Or.inr ⟨by rfl, rfl⟩) ?_ ?_
                     rotate_left
                     ·exact g2_
                     refine pure_ (i := 24) (N := some 149) (v := undef) (a' := ?_) #[true,true,true,true,true,true,true,true,true,true,true,true,true,true,true,true,true,true,true,true,true,true,true,true,true,false,false,false,false] rfl rfl (any_of HT_.out (by kernel_rfl)) (fun _ _ _ h => h) (Or.inr ⟨by rfl, rfl⟩) ?_ ?_
                     rotate_left
                     ·exact g2_
                     refine pure_ (i := 25) (N := some 150) (v := undef) (a' := ?_) #[true,true,true,true,true,true,true,true,true,true,true,true,true,true,true,true,true,true,true,true,true,true,true,true,true,true,false,false,false] rfl rfl (any_of HT_.out (by kernel_rfl)) (fun _ _ _ h => h) (Or.inr ⟨by rfl, rfl⟩) ?_ ?_
                     rotate_left
                     ·exact g2_
                     refine pure_ (i := 26) (N := some 151) (v := undef) (a' := ?_) #[true,true,true,true,true,true,true,true,true,true,true,true,true,true,true,true,true,true,true,true,true,true,true,true,true,true,true,false,false] rfl rfl (any_of HT_.out (by kernel_rfl)) (fun _ _ _ h => h) (Or.inr ⟨by rfl, rfl⟩) ?_ ?_
                     rotate_left
                     ·exact g2_
                     refine pure_ (i := 27) (N := some 152) (v := undef) (a' := ?_) #[true,true,true,true,true,true,true,true,true,true,true,true,true,true,true,true,true,true,true,true,true,true,true,true,true,true,true,true,false] rfl rfl (any_of HT_.out (by kernel_rfl)) (fun _ _ _ h => h) (Or.inr ⟨by rfl, rfl⟩) ?_ ?_
                     rotate_left
                     ·exact g2_
                     refine pure_ (i := 28) (N := some 153) (v := ?_) (a' := ?_) #[true,true,true,true,true,true,true,true,true,true,true,true,true,true,true,true,true,true,true,true,true,true,true,true,true,true,true,true,true] rfl rfl (any_of HT_.out (by kernel_rfl)) (fun _ _ _ h => h) (Or.inl ⟨by rfl, ?_⟩) ?_ ?_; rotate_left
                     ·exact g1_
                     rotate_left
                     ·exact g2_
                     refine done_ (done_of HT_.out (by kernel_rfl)) ?_
                     try go_wp2
                     go_meet
                     case rel => exact ⟨_, (false), (by first | rfl | (simp; done) | (simp [*]; done)), H', ⟨by have := HJ6.out; have := HK2.out; have := HJ22.out; have := HJ33.out; have := HJ51.out; first | omega | exact Nat.le_refl _⟩, ⟨ra HO_7⟩, ⟨ra HO_46⟩, ⟨bk BK196⟩, ⟨bk BK206⟩, ⟨bl HB⟩⟩
                   case rest =>
                    clear HC63
                    try clear c1
                    try clear c2
                    try clear p2
                    try clear q2
                    try clear hx2
                    try clear c6
                    try clear p6
                    try clear c17
                    try clear p20
                    try clear q20
                    try clear hx20
                    try clear p21
                    try clear q21
                    try clear hx21
                    try clear c62
                    try clear c64
                    try clear c64b0
                    try clear p64
                    try clear c65
                    try clear c65b0
                    try clear c66
                    try clear c66b0
                    try clear c68
                    try clear c69
                    try clear c69b0
                    try clear c69b1
                    try clear hcz47_2
                    try clear hcz47_3
                    try clear hcz47_4
                    try clear hcz50_0
                    try clear hcz50_1
                    try clear hcz50_2
                    try clear hcz9_0
                    try clear hcz9_1
                    try clear hcz9_2
                    try clear hcz9_3
                    try clear hcz9_4
                    try clear hfz11_0
                    try clear hfz11_1
                    try clear hfz11_2
                    try clear hfz11_3
                    try clear hfz11_4
                    try clear hfz26_0
                    try clear hfz26_1
                    try clear hfz26_2
                    try clear hfz30_0
                    try clear hfz30_1
                    try clear hfz30_2
                    try clear hfz31_0
                    try clear hfz31_1
                    try clear hfz31_2
                    try clear hfz31_3
                    try clear hfz31_4
                    try clear hfz36_0
                    try clear hfz36_1
                    try clear hfz36_2
                    try clear hfz36_3
                    try clear hfz36_4
                    try clear hfz46_0
                    try clear hfz46_1
                    try clear hfz46_2
                    try clear hfz47_0
                    try clear hfz47_1
                    try clear hfz47_2
                    try clear hfz47_3
                    try clear hfz47_4
                    try clear hfz50_0
                    try clear hfz50_1
                    try clear hfz50_2
                    try clear hfz9_0
                    try clear hfz9_1
                    try clear hfz9_2
                    try clear hfz9_3
                    try clear hfz9_4
                    try clear hx205_0
                    try clear hx205_1
                    try clear hx205_2
                    try clear hx208_0
                    try clear hx208_1
                    try clear hx210_0
                    try clear hx210_1
                    try clear hx212_0
                    try clear hx212_1
                    try clear p2
                    try clear p20
                    try clear p205
                    try clear p208
                    try clear p210
                    try clear p212
                    try clear q2
                    try clear q20
                    try clear q205
                    try clear q208
                    try clear q210
                    try clear q212
                    obtain ⟨kq, x153_62, rfl, HA, HJ62, HO_7, HO_46, BK196, BK206, HB⟩ := hcut
                    cases kq with
                    | zero => exact absurd HA.out (by simp [interchangelaw12_DeskGivesUpLast.j5])
                    | succ kj62 =>
                     have H := HA.out
                     clear HA
                     simp only [interchangelaw12_DeskGivesUpLast.j5] at H
                     by_cases c73 : x153_62 = true
                     ·subst c73
                      have H1 : (some false) = some r := by rw [if_pos rfl] at H; exact H
                      clear H
                      have H := H1
                      clear H1
                      exact absurd ((Option.some.inj H).trans RT.out) Bool.false_ne_true
                     ·replace c73 := Bool.eq_false_iff.mpr c73
                      subst c73
                      have H1 : (if (l2.length : Int) = 1 then (if 0 < (l2.length : Int) then (if (wrap64 (((rd_T44 l2 0).f2) - ((rd_T44 l2 0).f1))) ≤ t202 then (if ((rd_T34 t197 x48_2).f2) ≥ 0 then (some false) else (interchangelaw12_DeskGivesUpLast.l0 kj62 l1 l2 t197 t202 t197 (t197.length : Int) (wrap64 (x48_2 + 1)) a0_0 a0_1 a0_2 a0_3 a0_4)) else (interchangelaw12_DeskGivesUpLast.l0 kj62 l1 l2 t197 t202 t197 (t197.length : Int) (wrap64 (x48_2 + 1)) a0_0 a0_1 a0_2 a0_3 a0_4)) else (none)) else (interchangelaw12_DeskGivesUpLast.l0 kj62 l1 l2 t197 t202 t197 (t197.length : Int) (wrap64 (x48_2 + 1)) a0_0 a0_1 a0_2 a0_3 a0_4)) = some r := by rw [if_neg (show ¬ (false = true) by decide)] at H; exact H
                      clear H
                      have H := H1
                      clear H1
                      by_cases c74 : (l2.length : Int) = 1
                      ·rw [if_pos c74] at H
                       have c74b0 : ((l2.length : Int) == 1) = true := beq_iff_eq.mpr c74
                       have c74b1 : ((l2.length : Int) != 1) = false := bne_eq_false_iff_eq.mpr c74
                       clear c74
                       by_cases c75 : 0 < (l2.length : Int)
                       ·rw [if_pos c75] at H
                        have c75b0 : decide (0 < (l2.length : Int)) = true := decide_eq_true c75
                        have c75b1 : decide (0 < l2.length) = true := decide_eq_true (by omega)
                        clear c75
                        by_cases c76 : (wrap64 (((rd_T44 l2 0).f2) - ((rd_T44 l2 0).f1))) ≤ t202
                        ·rw [if_pos c76] at H
                         have c76b0 : decide ((wrap64 (((rd_T44 l2 0).f2) - ((rd_T44 l2 0).f1))) ≤ t202) = true := decide_eq_true c76
                         clear c76
                         by_cases c77 : ((rd_T34 t197 x48_2).f2) ≥ 0
                         ·rw [if_pos c77] at H
                          have c77b0 : decide (0 ≤ ((rd_T34 t197 x48_2).f2)) = true := decide_eq_true c77
                          clear c77
                          exact absurd ((Option.some.inj H).trans RT.out) Bool.false_ne_true
                         ·rw [if_neg c77] at H
                          have c77b0 : decide (0 ≤ ((rd_T34 t197 x48_2).f2)) = false := decide_eq_false c77
                          clear c77
                          have H' := Aside0.mk H
                          clear H
                          try go_wp2
                          have n0_ := Aside0.mk (Kd.R_drew HO_7.out)
                          have n1_ := Aside0.mk (Kd.R_drew HO_46.out)
                          have n2_ := Aside0.mk (blk_drew BK196.out)
                          have n3_ := Aside0.mk (blk_drew BK206.out)
                          have n4_ := Aside0.mk (below_drew1 HB.out)
                          clear HO_7
                          clear HO_46
                          clear BK196
                          clear BK206
                          clear HB
                          have HO_7 := n0_
                          have HO_46 := n1_
                          have BK196 := n2_
                          have BK206 := n3_
                          have HB := n4_
                          clear n0_ n1_ n2_ n3_ n4_
                          have p214 : 0 ≤ (0 : Int) := (by omega)
                          have q214 : 0 < (l2.length : Int) := of_decide_eq_true odt
                          obtain ⟨ad214, e214, hx214_0, hx214_1, hx214_2⟩ := at_T44 HR2.out 0 p214 q214
                          have hw214_2 := hx214_2
                          (try rw [show ((0 : Int)).toNat = 0 from rfl] at hw214_2)
                          (try rw [show 0 * 3 = 0 from rfl] at hw214_2)
                          (try rw [Addr.add_zero'] at hw214_2)
                          have hw214_1 := hx214_1
                          (try rw [show ((0 : Int)).toNat = 0 from rfl] at hw214_1)
                          (try rw [show 0 * 3 = 0 from rfl] at hw214_1)
                          (try rw [Addr.add_zero'] at hw214_1)
                          have hw214_0 := hx214_0
                          (try rw [show ((0 : Int)).toNat = 0 from rfl] at hw214_0)
                          (try rw [show 0 * 3 = 0 from rfl] at hw214_0)
                          (try rw [Addr.add_zero'] at hw214_0)
                          cases e214
                          have qi214 : (0 < l2.length) = True := eq_true (by omega)
                          (try rw [show ((0 : Int)).toNat = 0 from rfl] at hx214_0)
                          (try rw [show 0 * 3 = 0 from rfl] at hx214_0)
                          (try rw [Addr.add_zero'] at hx214_0)
                          (try rw [show ((0 : Int)).toNat = 0 from rfl] at hx214_1)
                          (try rw [show 0 * 3 = 0 from rfl] at hx214_1)
                          (try rw [Addr.add_zero'] at hx214_1)
                          (try rw [show ((0 : Int)).toNat = 0 from rfl] at hx214_2)
                          (try rw [show 0 * 3 = 0 from rfl] at hx214_2)
                          (try rw [Addr.add_zero'] at hx214_2)
                          replace hx214_0 := (HB.out.cell (World.block_lt_of_cell? w _ hx214_0)).trans hx214_0
                          replace hx214_1 := (HB.out.cell (World.block_lt_of_cell? w _ hx214_1)).trans hx214_1
                          replace hx214_2 := (HB.out.cell (World.block_lt_of_cell? w _ hx214_2)).trans hx214_2
                          replace p214 := eq_true p214
                          replace q214 := eq_true q214
                          have p215 : 0 ≤ (0 : Int) := (by omega)
                          have q215 : 0 < (l2.length : Int) := of_decide_eq_true odt
                          obtain ⟨ad215, e215, hx215_0, hx215_1, hx215_2⟩ := at_T44 HR2.out 0 p215 q215
                          have hw215_2 := hx215_2
                          (try rw [show ((0 : Int)).toNat = 0 from rfl] at hw215_2)
                          (try rw [show 0 * 3 = 0 from rfl] at hw215_2)
                          (try rw [Addr.add_zero'] at hw215_2)
                          have hw215_1 := hx215_1
                          (try rw [show ((0 : Int)).toNat = 0 from rfl] at hw215_1)
                          (try rw [show 0 * 3 = 0 from rfl] at hw215_1)
                          (try rw [Addr.add_zero'] at hw215_1)
                          have hw215_0 := hx215_0
                          (try rw [show ((0 : Int)).toNat = 0 from rfl] at hw215_0)
                          (try rw [show 0 * 3 = 0 from rfl] at hw215_0)
                          (try rw [Addr.add_zero'] at hw215_0)
                          obtain rfl : ad214 = ad215 := (by injection e215)
                          have qi215 : (0 < l2.length) = True := eq_true (by omega)
                          (try rw [show ((0 : Int)).toNat = 0 from rfl] at hx215_0)
                          (try rw [show 0 * 3 = 0 from rfl] at hx215_0)
                          (try rw [Addr.add_zero'] at hx215_0)
                          (try rw [show ((0 : Int)).toNat = 0 from rfl] at hx215_1)
                          (try rw [show 0 * 3 = 0 from rfl] at hx215_1)
                          (try rw [Addr.add_zero'] at hx215_1)
                          (try rw [show ((0 : Int)).toNat = 0 from rfl] at hx215_2)
                          (try rw [show 0 * 3 = 0 from rfl] at hx215_2)
                          (try rw [Addr.add_zero'] at hx215_2)
                          replace hx215_0 := (HB.out.cell (World.block_lt_of_cell? w _ hx215_0)).trans hx215_0
                          replace hx215_1 := (HB.out.cell (World.block_lt_of_cell? w _ hx215_1)).trans hx215_1
                          replace hx215_2 := (HB.out.cell (World.block_lt_of_cell? w _ hx215_2)).trans hx215_2
                          replace p215 := eq_true p215
                          replace q215 := eq_true q215
                          refine start_ (n := 21) (S := fun w' => w'.cell? ⟨gb206, 0, none⟩ = some (.int .i64 ((rd_T34 t197 x48_2).f0)) ∧ w'.cell? ⟨gb206, 1, none⟩ = some (.int .i64 ((rd_T34 t197 x48_2).f1)) ∧ w'.cell? ⟨gb206, 2, none⟩ = some (.int .i64 ((rd_T34 t197 x48_2).f2)) ∧ w'.cell? ad214 = some (.string ((rd_T44 l2 0).f0)) ∧ w'.cell? ⟨ad214.block, ad214.off + 1, none⟩ = some (.int .i64 ((rd_T44 l2 0).f1)) ∧ w'.cell? ⟨ad214.block, ad214.off + 2, none⟩ = some (.int .i64 ((rd_T44 l2 0).f2)) ∧ w'.cell? ad214 = some (.string ((rd_T44 l2 0).f0)) ∧ w'.cell? ⟨ad214.block, ad214.off + 1, none⟩ = some (.int .i64 ((rd_T44 l2 0).f1)) ∧ w'.cell? ⟨ad214.block, ad214.off + 2, none⟩ = some (.int .i64 ((rd_T44 l2 0).f2))) (ds := []) #[false,false,false,false,false,false,false,false,false,false,false,false,false,false,false,false,false,false,false,false,false] (by kernel_rfl) rfl rfl ⟨(blk_cell BK206.out 0).trans rfl, (blk_cell BK206.out 1).trans rfl, (blk_cell BK206.out 2).trans rfl, ((HB.out.cell (World.block_lt_of_cell? w _ hw214_0)).trans hw214_0), ((HB.out.cell (World.block_lt_of_cell? w _ hw214_1)).trans hw214_1), ((HB.out.cell (World.block_lt_of_cell? w _ hw214_2)).trans hw214_2), ((HB.out.cell (World.block_lt_of_cell? w _ hw215_0)).trans hw215_0), ((HB.out.cell (World.block_lt_of_cell? w _ hw215_1)).trans hw215_1), ((HB.out.cell (World.block_lt_of_cell? w _ hw215_2)).trans hw215_2)⟩ (fun hHeld => ?_); refine with_tabW interchangelaw12_DeskGivesUpLast.tab19 interchangelaw12_DeskGivesUpLast.bits19 (fun HT_ HW_ => ?_)
                          generalize wc.drew = w78 at HO_7 HO_46 BK196 BK206 HB hx214_0 hx214_1 hx214_2 hx215_0 hx215_1 hx215_2 hHeld ⊢
                          refine pure_ (i := 0) (N := some 154) (v := ?_) (a' := ?_) #[true,false,false,false,false,false,false,false,false,false,false,false,false,false,false,false,false,false,false,false,false] rfl rfl (any_of HT_.out (by kernel_rfl)) (fun _ _ _ h => h) (Or.inl ⟨by rfl, ?_⟩) ?_ ?_; rotate_left
                          ·exact g1_
                          rotate_left
                          ·exact g2_
                          refine pure_ (i := 1) (N := some 155) (v := ?_) (a' := ?_) #[true,true,false,false,false,false,false,false,false,false,false,false,false,false,false,false,false,false,false,false,false] rfl rfl (any_of HT_.out (by kernel_rfl)) (fun _ _ _ h => h) (Or.inl ⟨by rfl, ?_⟩) ?_ ?_; rotate_left
                          ·exact g1_
                          rotate_left
                          ·exact g2_
                          refine pure_ (i := 2) (N := some 156) (v := ?_) (a' := ?_) #[true,true,true,false,false,false,false,false,false,false,false,false,false,false,false,false,false,false,false,false,false] rfl rfl (any_of HT_.out (by kernel_rfl)) (fun _ _ _ h => h) (Or.inl ⟨by rfl, ?_⟩) ?_ ?_; rotate_left
                          ·exact g1_
                          rotate_left
                          ·exact g2_
                          refine pure_ (i := 3) (N := some 157) (v := ?_) (a' := ?_) #[true,true,true,true,false,false,false,false,false,false,false,false,false,false,false,false,false,false,false,false,false] rfl rfl (any_of HT_.out (by kernel_rfl)) (fun _ _ _ h => h) (Or.inl ⟨by rfl, ?_⟩) ?_ ?_; rotate_left
                          ·exact g1_
                          rotate_left
                          ·exact g2_
                          refine pure_ (i := 4) (N := some 158) (v := ?_) (a' := ?_) #[true,true,true,true,true,false,false,false,false,false,false,false,false,false,false,false,false,false,false,false,false] rfl rfl (any_of HT_.out (by kernel_rfl)) (fun _ _ _ h => h) (Or.inl ⟨by rfl, ?_⟩) ?_ ?_; rotate_left
                          ·exact g1_
                          rotate_left
                          ·exact g2_
                          refine pure_ (i := 5) (N := some 159) (v := ?_) (a' := ?_) #[true,true,true,true,true,true,false,false,false,false,false,false,false,false,false,false,false,false,false,false,false] rfl rfl (any_of HT_.out (by kernel_rfl)) (fun _ _ _ h => h) (Or.inl ⟨by rfl, ?_⟩) ?_ ?_; rotate_left
                          ·exact g1_
                          rotate_left
                          ·exact g2_
                          refine pure_ (i := 6) (N := some 160) (v := ?_) (a' := ?_) #[true,true,true,true,true,true,true,false,false,false,false,false,false,false,false,false,false,false,false,false,false] rfl rfl (any_of HT_.out (by kernel_rfl)) (fun _ _ _ h => h) (Or.inl ⟨by rfl, ?_⟩) ?_ ?_; rotate_left
                          ·exact g1_
                          rotate_left
                          ·exact g2_
                          refine pure_ (i := 8) (N := some 162) (v := ?_) (a' := ?_) #[true,true,true,true,true,true,true,false,true,false,false,false,false,false,false,false,false,false,false,false,false] rfl rfl (any_of HT_.out (by kernel_rfl)) (fun _ _ _ h => h) (Or.inl ⟨by rfl, ?_⟩) ?_ ?_; rotate_left
                          ·exact g1_
                          rotate_left
                          ·exact g2_
                          refine pure_ (i := 9) (N := some 163) (v := ?_) (a' := ?_) #[true,true,true,true,true,true,true,false,true,true,false,false,false,false,false,false,false,false,false,false,false] rfl rfl (any_of HT_.out (by kernel_rfl)) (fun _ _ _ h => h) (Or.inl ⟨by rfl, ?_⟩) ?_ ?_; rotate_left
                          ·exact g1_
                          rotate_left
                          ·exact g2_
                          refine pure_ (i := 10) (N := some 164) (v := ?_) (a' := ?_) #[true,true,true,true,true,true,true,false,true,true,true,false,false,false,false,false,false,false,false,false,false] rfl rfl (any_of HT_.out (by kernel_rfl)) (fun _ _ _ h => h) (Or.inl ⟨by rfl, ?_⟩) ?_ ?_; rotate_left
                          ·exact g1_
                          rotate_left
                          ·exact g2_
                          refine pure_ (i := 13) (N := some 167) (v := ?_) (a' := ?_) #[true,true,true,true,true,true,true,false,true,true,true,false,false,true,false,false,false,false,false,false,false] rfl rfl (any_of HT_.out (by kernel_rfl)) (fun _ _ _ h => h) (Or.inl ⟨by rfl, ?_⟩) ?_ ?_; rotate_left
                          ·exact g1_
                          rotate_left
                          ·exact g2_
                          refine take_ (i := 7) (N := some 161) (v := ?_) (a' := ?_) #[true,true,true,true,true,true,true,true,true,true,true,false,false,true,false,false,false,false,false,false,false] rfl rfl (take_ofW HT_.out HW_.out (by kernel_rfl)) (fun _ _ _ h => h) (Or.inl ⟨by rfl, ?_⟩) hHeld ?_ ?_
                          rotate_left
                          ·rintro w' ⟨s0, s1, s2, s3, s4, s5, s6, s7, s8⟩
                           go_simp
                           with_reducible rfl
                          rotate_left
                          ·exact g2_
                          refine take_ (i := 11) (N := some 165) (v := ?_) (a' := ?_) #[true,true,true,true,true,true,true,true,true,true,true,true,false,true,false,false,false,false,false,false,false] rfl rfl (take_ofW HT_.out HW_.out (by kernel_rfl)) (fun _ _ _ h => h) (Or.inl ⟨by rfl, ?_⟩) hHeld ?_ ?_
                          rotate_left
                          ·rintro w' ⟨s0, s1, s2, s3, s4, s5, s6, s7, s8⟩
                           go_simp
                           with_reducible rfl
                          rotate_left
                          ·exact g2_
                          refine pure_ (i := 12) (N := some 166) (v := ?_) (a' := ?_) #[true,true,true,true,true,true,true,true,true,true,true,true,true,true,false,false,false,false,false,false,false] rfl rfl (any_of HT_.out (by kernel_rfl)) (fun _ _ _ h => h) (Or.inl ⟨by rfl, ?_⟩) ?_ ?_; rotate_left
                          ·exact g1_
                          rotate_left
                          ·exact g2_
                          refine pure_ (i := 14) (N := some 168) (v := ?_) (a' := ?_) #[true,true,true,true,true,true,true,true,true,true,true,true,true,true,true,false,false,false,false,false,false] rfl rfl (any_of HT_.out (by kernel_rfl)) (fun _ _ _ h => h) (Or.inl ⟨by rfl, ?_⟩) ?_ ?_; rotate_left
                          ·exact g1_
                          rotate_left
                          ·exact g2_
                          refine pure_ (i := 15) (N := some 169) (v := ?_) (a' := ?_) #[true,true,true,true,true,true,true,true,true,true,true,true,true,true,true,true,false,false,false,false,false] rfl rfl (any_of HT_.out (by kernel_rfl)) (fun _ _ _ h => h) (Or.inl ⟨by rfl, ?_⟩) ?_ ?_; rotate_left
                          ·exact g1_
                          rotate_left
                          ·exact g2_
                          refine pure_ (i := 16) (N := some 170) (v := ?_) (a' := ?_) #[true,true,true,true,true,true,true,true,true,true,true,true,true,true,true,true,true,false,false,false,false] rfl rfl (any_of HT_.out (by kernel_rfl)) (fun _ _ _ h => h) (Or.inl ⟨by rfl, ?_⟩) ?_ ?_; rotate_left
                          ·exact g1_
                          rotate_left
                          ·exact g2_
                          refine pure_ (i := 17) (N := some 171) (v := ?_) (a' := ?_) #[true,true,true,true,true,true,true,true,true,true,true,true,true,true,true,true,true,true,false,false,false] rfl rfl (any_of HT_.out (by kernel_rfl)) (fun _ _ _ h => h) (Or.inl ⟨by rfl, ?_⟩) ?_ ?_; rotate_left
                          ·exact g1_
                          rotate_left
                          ·exact g2_
                          refine take_ (i := 18) (N := some 172) (v := ?_) (a' := ?_) #[true,true,true,true,true,true,true,true,true,true,true,true,true,true,true,true,true,true,true,false,false] rfl rfl (take_ofW HT_.out HW_.out (by kernel_rfl)) (fun _ _ _ h => h) (Or.inl ⟨by rfl, ?_⟩) hHeld ?_ ?_
                          rotate_left
                          ·rintro w' ⟨s0, s1, s2, s3, s4, s5, s6, s7, s8⟩
                           go_simp
                           with_reducible rfl
                          rotate_left
                          ·exact g2_
                          refine pure_ (i := 19) (N := some 173) (v := ?_) (a' := ?_) #[true,true,true,true,true,true,true,true,true,true,true,true,true,true,true,true,true,true,true,true,false] rfl rfl (any_of HT_.out (by kernel_rfl)) (fun _ _ _ h => h) (Or.inl ⟨by rfl, ?_⟩) ?_ ?_; rotate_left
                          ·exact g1_
                          rotate_left
                          ·exact g2_
                          refine pure_ (i := 20) (N := some 174) (v := ?_) (a' := ?_) #[true,true,true,true,true,true,true,true,true,true,true,true,true,true,true,true,true,true,true,true,true] rfl rfl (any_of HT_.out (by kernel_rfl)) (fun _ _ _ h => h) (Or.inl ⟨by rfl, ?_⟩) ?_ ?_; rotate_left
                          ·exact g1_
                          rotate_left
                          ·exact g2_
                          refine done_ (done_of HT_.out (by kernel_rfl)) ?_
                          try go_wp2
                          go_roundg kj62
                          case measure => have := HJ6.out; have := HK2.out; have := HJ22.out; have := HJ33.out; have := HJ51.out; have := HJ62.out; omega
                          case rel => exact ⟨(wrap64 (x48_2 + 1)), (by first | rfl | (simp; done) | (simp [*]; done)), H', ⟨by have := HJ6.out; have := HK2.out; have := HJ22.out; have := HJ33.out; have := HJ51.out; have := HJ62.out; omega⟩, ⟨by (with_reducible repeat (first | apply Kd.R_alloc | apply Kd.R_drewN | apply Kd.R_drew)); exact Kd.R_mono HO_7.out (fun _ hk => trivial)⟩, ⟨by (with_reducible repeat (first | apply Kd.R_alloc | apply Kd.R_drewN | apply Kd.R_drew)); exact Kd.R_mono HO_46.out (fun _ hk => trivial)⟩, ⟨bk BK196⟩, ⟨bl HB⟩⟩
                        ·rw [if_neg c76] at H
                         have c76b0 : decide ((wrap64 (((rd_T44 l2 0).f2) - ((rd_T44 l2 0).f1))) ≤ t202) = false := decide_eq_false c76
                         clear c76
                         have H' := Aside0.mk H
                         clear H
                         try go_wp2
                         have n0_ := Aside0.mk (Kd.R_drew HO_7.out)
                         have n1_ := Aside0.mk (Kd.R_drew HO_46.out)
                         have n2_ := Aside0.mk (blk_drew BK196.out)
                         have n3_ := Aside0.mk (blk_drew BK206.out)
                         have n4_ := Aside0.mk (below_drew1 HB.out)
                         clear HO_7
                         clear HO_46
                         clear BK196
                         clear BK206
                         clear HB
                         have HO_7 := n0_
                         have HO_46 := n1_
                         have BK196 := n2_
                         have BK206 := n3_
                         have HB := n4_
                         clear n0_ n1_ n2_ n3_ n4_
                         have p214 : 0 ≤ (0 : Int) := (by omega)
                         have q214 : 0 < (l2.length : Int) := of_decide_eq_true odt
                         obtain ⟨ad214, e214, hx214_0, hx214_1, hx214_2⟩ := at_T44 HR2.out 0 p214 q214
                         have hw214_2 := hx214_2
                         (try rw [show ((0 : Int)).toNat = 0 from rfl] at hw214_2)
                         (try rw [show 0 * 3 = 0 from rfl] at hw214_2)
                         (try rw [Addr.add_zero'] at hw214_2)
                         have hw214_1 := hx214_1
                         (try rw [show ((0 : Int)).toNat = 0 from rfl] at hw214_1)
                         (try rw [show 0 * 3 = 0 from rfl] at hw214_1)
                         (try rw [Addr.add_zero'] at hw214_1)
                         have hw214_0 := hx214_0
                         (try rw [show ((0 : Int)).toNat = 0 from rfl] at hw214_0)
                         (try rw [show 0 * 3 = 0 from rfl] at hw214_0)
                         (try rw [Addr.add_zero'] at hw214_0)
                         cases e214
                         have qi214 : (0 < l2.length) = True := eq_true (by omega)
                         (try rw [show ((0 : Int)).toNat = 0 from rfl] at hx214_0)
                         (try rw [show 0 * 3 = 0 from rfl] at hx214_0)
                         (try rw [Addr.add_zero'] at hx214_0)
                         (try rw [show ((0 : Int)).toNat = 0 from rfl] at hx214_1)
                         (try rw [show 0 * 3 = 0 from rfl] at hx214_1)
                         (try rw [Addr.add_zero'] at hx214_1)
                         (try rw [show ((0 : Int)).toNat = 0 from rfl] at hx214_2)
                         (try rw [show 0 * 3 = 0 from rfl] at hx214_2)
                         (try rw [Addr.add_zero'] at hx214_2)
                         replace hx214_0 := (HB.out.cell (World.block_lt_of_cell? w _ hx214_0)).trans hx214_0
                         replace hx214_1 := (HB.out.cell (World.block_lt_of_cell? w _ hx214_1)).trans hx214_1
                         replace hx214_2 := (HB.out.cell (World.block_lt_of_cell? w _ hx214_2)).trans hx214_2
                         replace p214 := eq_true p214
                         replace q214 := eq_true q214
                         have p215 : 0 ≤ (0 : Int) := (by omega)
                         have q215 : 0 < (l2.length : Int) := of_decide_eq_true odt
                         obtain ⟨ad215, e215, hx215_0, hx215_1, hx215_2⟩ := at_T44 HR2.out 0 p215 q215
                         have hw215_2 := hx215_2
                         (try rw [show ((0 : Int)).toNat = 0 from rfl] at hw215_2)
                         (try rw [show 0 * 3 = 0 from rfl] at hw215_2)
                         (try rw [Addr.add_zero'] at hw215_2)
                         have hw215_1 := hx215_1
                         (try rw [show ((0 : Int)).toNat = 0 from rfl] at hw215_1)
                         (try rw [show 0 * 3 = 0 from rfl] at hw215_1)
                         (try rw [Addr.add_zero'] at hw215_1)
                         have hw215_0 := hx215_0
                         (try rw [show ((0 : Int)).toNat = 0 from rfl] at hw215_0)
                         (try rw [show 0 * 3 = 0 from rfl] at hw215_0)
                         (try rw [Addr.add_zero'] at hw215_0)
                         obtain rfl : ad214 = ad215 := (by injection e215)
                         have qi215 : (0 < l2.length) = True := eq_true (by omega)
                         (try rw [show ((0 : Int)).toNat = 0 from rfl] at hx215_0)
                         (try rw [show 0 * 3 = 0 from rfl] at hx215_0)
                         (try rw [Addr.add_zero'] at hx215_0)
                         (try rw [show ((0 : Int)).toNat = 0 from rfl] at hx215_1)
                         (try rw [show 0 * 3 = 0 from rfl] at hx215_1)
                         (try rw [Addr.add_zero'] at hx215_1)
                         (try rw [show ((0 : Int)).toNat = 0 from rfl] at hx215_2)
                         (try rw [show 0 * 3 = 0 from rfl] at hx215_2)
                         (try rw [Addr.add_zero'] at hx215_2)
                         replace hx215_0 := (HB.out.cell (World.block_lt_of_cell? w _ hx215_0)).trans hx215_0
                         replace hx215_1 := (HB.out.cell (World.block_lt_of_cell? w _ hx215_1)).trans hx215_1
                         replace hx215_2 := (HB.out.cell (World.block_lt_of_cell? w _ hx215_2)).trans hx215_2
                         replace p215 := eq_true p215
                         replace q215 := eq_true q215
                         refine start_ (n := 21) (S := fun w' => w'.cell? ad214 = some (.string ((rd_T44 l2 0).f0)) ∧ w'.cell? ⟨ad214.block, ad214.off + 1, none⟩ = some (.int .i64 ((rd_T44 l2 0).f1)) ∧ w'.cell? ⟨ad214.block, ad214.off + 2, none⟩ = some (.int .i64 ((rd_T44 l2 0).f2)) ∧ w'.cell? ad214 = some (.string ((rd_T44 l2 0).f0)) ∧ w'.cell? ⟨ad214.block, ad214.off + 1, none⟩ = some (.int .i64 ((rd_T44 l2 0).f1)) ∧ w'.cell? ⟨ad214.block, ad214.off + 2, none⟩ = some (.int .i64 ((rd_T44 l2 0).f2))) (ds := []) #[false,false,false,false,false,false,false,false,false,false,false,false,false,false,false,false,false,false,false,false,false] (by kernel_rfl) rfl rfl ⟨((HB.out.cell (World.block_lt_of_cell? w _ hw214_0)).trans hw214_0), ((HB.out.cell (World.block_lt_of_cell? w _ hw214_1)).trans hw214_1), ((HB.out.cell (World.block_lt_of_cell? w _ hw214_2)).trans hw214_2), ((HB.out.cell (World.block_lt_of_cell? w _ hw215_0)).trans hw215_0), ((HB.out.cell (World.block_lt_of_cell? w _ hw215_1)).trans hw215_1), ((HB.out.cell (World.block_lt_of_cell? w _ hw215_2)).trans hw215_2)⟩ (fun hHeld => ?_); refine with_tabW interchangelaw12_DeskGivesUpLast.tab19 interchangelaw12_DeskGivesUpLast.bits19 (fun HT_ HW_ => ?_)
                         generalize wc.drew = w79 at HO_7 HO_46 BK196 BK206 HB hx214_0 hx214_1 hx214_2 hx215_0 hx215_1 hx215_2 hHeld ⊢
                         refine pure_ (i := 0) (N := some 154) (v := ?_) (a' := ?_) #[true,false,false,false,false,false,false,false,false,false,false,false,false,false,false,false,false,false,false,false,false] rfl rfl (any_of HT_.out (by kernel_rfl)) (fun _ _ _ h => h) (Or.inl ⟨by rfl, ?_⟩) ?_ ?_; rotate_left
                         ·exact g1_
                         rotate_left
                         ·exact g2_
                         refine pure_ (i := 1) (N := some 155) (v := ?_) (a' := ?_) #[true,true,false,false,false,false,false,false,false,false,false,false,false,false,false,false,false,false,false,false,false] rfl rfl (any_of HT_.out (by kernel_rfl)) (fun _ _ _ h => h) (Or.inl ⟨by rfl, ?_⟩) ?_ ?_; rotate_left
                         ·exact g1_
                         rotate_left
                         ·exact g2_
                         refine pure_ (i := 2) (N := some 156) (v := ?_) (a' := ?_) #[true,true,true,false,false,false,false,false,false,false,false,false,false,false,false,false,false,false,false,false,false] rfl rfl (any_of HT_.out (by kernel_rfl)) (fun _ _ _ h => h) (Or.inl ⟨by rfl, ?_⟩) ?_ ?_; rotate_left
                         ·exact g1_
                         rotate_left
                         ·exact g2_
                         refine pure_ (i := 3) (N := some 157) (v := ?_) (a' := ?_) #[true,true,true,true,false,false,false,false,false,false,false,false,false,false,false,false,false,false,false,false,false] rfl rfl (any_of HT_.out (by kernel_rfl)) (fun _ _ _ h => h) (Or.inl ⟨by rfl, ?_⟩) ?_ ?_; rotate_left
                         ·exact g1_
                         rotate_left
                         ·exact g2_
                         refine pure_ (i := 4) (N := some 158) (v := ?_) (a' := ?_) #[true,true,true,true,true,false,false,false,false,false,false,false,false,false,false,false,false,false,false,false,false] rfl rfl (any_of HT_.out (by kernel_rfl)) (fun _ _ _ h => h) (Or.inl ⟨by rfl, ?_⟩) ?_ ?_; rotate_left
                         ·exact g1_
                         rotate_left
                         ·exact g2_
                         refine pure_ (i := 5) (N := some 159) (v := ?_) (a' := ?_) #[true,true,true,true,true,true,false,false,false,false,false,false,false,false,false,false,false,false,false,false,false] rfl rfl (any_of HT_.out (by kernel_rfl)) (fun _ _ _ h => h) (Or.inl ⟨by rfl, ?_⟩) ?_ ?_; rotate_left
                         ·exact g1_
                         rotate_left
                         ·exact g2_
                         refine pure_ (i := 6) (N := some 160) (v := ?_) (a' := ?_) #[true,true,true,true,true,true,true,false,false,false,false,false,false,false,false,false,false,false,false,false,false] rfl rfl (any_of HT_.out (by kernel_rfl)) (fun _ _ _ h => h) (Or.inl ⟨by rfl, ?_⟩) ?_ ?_; rotate_left
                         ·exact g1_
                         rotate_left
                         ·exact g2_
                         refine pure_ (i := 8) (N := some 162) (v := ?_) (a' := ?_) #[true,true,true,true,true,true,true,false,true,false,false,false,false,false,false,false,false,false,false,false,false] rfl rfl (any_of HT_.out (by kernel_rfl)) (fun _ _ _ h => h) (Or.inl ⟨by rfl, ?_⟩) ?_ ?_; rotate_left
                         ·exact g1_
                         rotate_left
                         ·exact g2_
                         refine pure_ (i := 9) (N := some 163) (v := ?_) (a' := ?_) #[true,true,true,true,true,true,true,false,true,true,false,false,false,false,false,false,false,false,false,false,false] rfl rfl (any_of HT_.out (by kernel_rfl)) (fun _ _ _ h => h) (Or.inl ⟨by rfl, ?_⟩) ?_ ?_; rotate_left
                         ·exact g1_
                         rotate_left
                         ·exact g2_
                         refine pure_ (i := 10) (N := some 164) (v := ?_) (a' := ?_) #[true,true,true,true,true,true,true,false,true,true,true,false,false,false,false,false,false,false,false,false,false] rfl rfl (any_of HT_.out (by kernel_rfl)) (fun _ _ _ h => h) (Or.inl ⟨by rfl, ?_⟩) ?_ ?_; rotate_left
                         ·exact g1_
                         rotate_left
                         ·exact g2_
                         refine pure_ (i := 13) (N := some 167) (v := ?_) (a' := ?_) #[true,true,true,true,true,true,true,false,true,true,true,false,false,true,false,false,false,false,false,false,false] rfl rfl (any_of HT_.out (by kernel_rfl)) (fun _ _ _ h => h) (Or.inl ⟨by rfl, ?_⟩) ?_ ?_; rotate_left
                         ·exact g1_
                         rotate_left
                         ·exact g2_
                         refine take_ (i := 7) (N := some 161) (v := ?_) (a' := ?_) #[true,true,true,true,true,true,true,true,true,true,true,false,false,true,false,false,false,false,false,false,false] rfl rfl (take_ofW HT_.out HW_.out (by kernel_rfl)) (fun _ _ _ h => h) (Or.inl ⟨by rfl, ?_⟩) hHeld ?_ ?_
                         rotate_left
                         ·rintro w' ⟨s0, s1, s2, s3, s4, s5⟩
                          go_simp
                          with_reducible rfl
                         rotate_left
                         ·exact g2_
                         refine take_ (i := 11) (N := some 165) (v := ?_) (a' := ?_) #[true,true,true,true,true,true,true,true,true,true,true,true,false,true,false,false,false,false,false,false,false] rfl rfl (take_ofW HT_.out HW_.out (by kernel_rfl)) (fun _ _ _ h => h) (Or.inl ⟨by rfl, ?_⟩) hHeld ?_ ?_
                         rotate_left
                         ·rintro w' ⟨s0, s1, s2, s3, s4, s5⟩
                          go_simp
                          with_reducible rfl
                         rotate_left
                         ·exact g2_
                         refine pure_ (i := 12) (N := some 166) (v := ?_) (a' := ?_) #[true,true,true,true,true,true,true,true,true,true,true,true,true,true,false,false,false,false,false,false,false] rfl rfl (any_of HT_.out (by kernel_rfl)) (fun _ _ _ h => h) (Or.inl ⟨by rfl, ?_⟩) ?_ ?_; rotate_left
                         ·exact g1_
                         rotate_left
                         ·exact g2_
                         refine pure_ (i := 14) (N := some 168) (v := ?_) (a' := ?_) #[true,true,true,true,true,true,true,true,true,true,true,true,true,true,true,false,false,false,false,false,false] rfl rfl (any_of HT_.out (by kernel_rfl)) (fun _ _ _ h => h) (Or.inl ⟨by rfl, ?_⟩) ?_ ?_; rotate_left
                         ·exact g1_
                         rotate_left
                         ·exact g2_
                         refine pure_ (i := 15) (N := some 169) (v := ?_) (a' := ?_) #[true,true,true,true,true,true,true,true,true,true,true,true,true,true,true,true,false,false,false,false,false] rfl rfl (any_of HT_.out (by kernel_rfl)) (fun _ _ _ h => h) (Or.inl ⟨by rfl, ?_⟩) ?_ ?_; rotate_left
                         ·exact g1_
                         rotate_left
                         ·exact g2_
                         refine pure_ (i := 16) (N := some 170) (v := ?_) (a' := ?_) #[true,true,true,true,true,true,true,true,true,true,true,true,true,true,true,true,true,false,false,false,false] rfl rfl (any_of HT_.out (by kernel_rfl)) (fun _ _ _ h => h) (Or.inl ⟨by rfl, ?_⟩) ?_ ?_; rotate_left
                         ·exact g1_
                         rotate_left
                         ·exact g2_
                         refine pure_ (i := 17) (N := some 171) (v := undef) (a' := ?_) #[true,true,true,true,true,true,true,true,true,true,true,true,true,true,true,true,true,true,false,false,false] rfl rfl (any_of HT_.out (by kernel_rfl)) (fun _ _ _ h => h) (Or.inr ⟨by rfl, rfl⟩) ?_ ?_
                         rotate_left
                         ·exact g2_
                         refine pure_ (i := 18) (N := some 172) (v := undef) (a' := ?_) #[true,true,true,true,true,true,true,true,true,true,true,true,true,true,true,true,true,true,true,false,false] rfl rfl (any_of HT_.out (by kernel_rfl)) (fun _ _ _ h => h) (Or.inr ⟨by rfl, rfl⟩) ?_ ?_
                         rotate_left
                         ·exact g2_
                         refine pure_ (i := 19) (N := some 173) (v := undef) (a' := ?_) #[true,true,true,true,true,true,true,true,true,true,true,true,true,true,true,true,true,true,true,true,false] rfl rfl (any_of HT_.out (by kernel_rfl)) (fun _ _ _ h => h) (Or.inr ⟨by rfl, rfl⟩) ?_ ?_
                         rotate_left
                         ·exact g2_
                         refine pure_ (i := 20) (N := some 174) (v := ?_) (a' := ?_) #[true,true,true,true,true,true,true,true,true,true,true,true,true,true,true,true,true,true,true,true,true] rfl rfl (any_of HT_.out (by kernel_rfl)) (fun _ _ _ h => h) (Or.inl ⟨by rfl, ?_⟩) ?_ ?_; rotate_left
                         ·exact g1_
                         rotate_left
                         ·exact g2_
                         refine done_ (done_of HT_.out (by kernel_rfl)) ?_
                         try go_wp2
                         go_roundg kj62
                         case measure => have := HJ6.out; have := HK2.out; have := HJ22.out; have := HJ33.out; have := HJ51.out; have := HJ62.out; omega
                         case rel => exact ⟨(wrap64 (x48_2 + 1)), (by first | rfl | (simp; done) | (simp [*]; done)), H', ⟨by have := HJ6.out; have := HK2.out; have := HJ22.out; have := HJ33.out; have := HJ51.out; have := HJ62.out; omega⟩, ⟨by (with_reducible repeat (first | apply Kd.R_alloc | apply Kd.R_drewN | apply Kd.R_drew)); exact Kd.R_mono HO_7.out (fun _ hk => trivial)⟩, ⟨by (with_reducible repeat (first | apply Kd.R_alloc | apply Kd.R_drewN | apply Kd.R_drew)); exact Kd.R_mono HO_46.out (fun _ hk => trivial)⟩, ⟨bk BK196⟩, ⟨bl HB⟩⟩
                       ·rw [if_neg c75] at H
                        exact absurd H (by simp)
                      ·rw [if_neg c74] at H
                       have c74b0 : ((l2.length : Int) == 1) = false := beq_eq_false_iff_ne.mpr c74
                       have c74b1 : ((l2.length : Int) != 1) = true := bne_iff_ne.mpr c74
                       have H' := Aside0.mk H
                       clear H
                       try go_wp2
                       have n0_ := Aside0.mk (Kd.R_drew HO_7.out)
                       have n1_ := Aside0.mk (Kd.R_drew HO_46.out)
                       have n2_ := Aside0.mk (blk_drew BK196.out)
                       have n3_ := Aside0.mk (blk_drew BK206.out)
                       have n4_ := Aside0.mk (below_drew1 HB.out)
                       clear HO_7
                       clear HO_46
                       clear BK196
                       clear BK206
                       clear HB
                       have HO_7 := n0_
                       have HO_46 := n1_
                       have BK196 := n2_
                       have BK206 := n3_
                       have HB := n4_
                       clear n0_ n1_ n2_ n3_ n4_
                       refine start_ (n := 21) (S := fun w' => True) (ds := []) #[false,false,false,false,false,false,false,false,false,false,false,false,false,false,false,false,false,false,false,false,false] (by kernel_rfl) rfl rfl trivial (fun hHeld => ?_); refine with_tabW interchangelaw12_DeskGivesUpLast.tab19 interchangelaw12_DeskGivesUpLast.bits19 (fun HT_ HW_ => ?_)
                       generalize wc.drew = w80 at HO_7 HO_46 BK196 BK206 HB hHeld ⊢
                       refine pure_ (i := 0) (N := some 154) (v := ?_) (a' := ?_) #[true,false,false,false,false,false,false,false,false,false,false,false,false,false,false,false,false,false,false,false,false] rfl rfl (any_of HT_.out (by kernel_rfl)) (fun _ _ _ h => h) (Or.inl ⟨by rfl, ?_⟩) ?_ ?_; rotate_left
                       ·exact g1_
                       rotate_left
                       ·exact g2_
                       refine pure_ (i := 1) (N := some 155) (v := ?_) (a' := ?_) #[true,true,false,false,false,false,false,false,false,false,false,false,false,false,false,false,false,false,false,false,false] rfl rfl (any_of HT_.out (by kernel_rfl)) (fun _ _ _ h => h) (Or.inl ⟨by rfl, ?_⟩) ?_ ?_; rotate_left
                       ·exact g1_
                       rotate_left
                       ·exact g2_
                       refine pure_ (i := 2) (N := some 156) (v := ?_) (a' := ?_) #[true,true,true,false,false,false,false,false,false,false,false,false,false,false,false,false,false,false,false,false,false] rfl rfl (any_of HT_.out (by kernel_rfl)) (fun _ _ _ h => h) (Or.inl ⟨by rfl, ?_⟩) ?_ ?_; rotate_left
                       ·exact g1_
                       rotate_left
                       ·exact g2_
                       refine pure_ (i := 3) (N := some 157) (v := ?_) (a' := ?_) #[true,true,true,true,false,false,false,false,false,false,false,false,false,false,false,false,false,false,false,false,false] rfl rfl (any_of HT_.out (by kernel_rfl)) (fun _ _ _ h => h) (Or.inl ⟨by rfl, ?_⟩) ?_ ?_; rotate_left
                       ·exact g1_
                       rotate_left
                       ·exact g2_
                       refine pure_ (i := 4) (N := some 158) (v := undef) (a' := ?_) #[true,true,true,true,true,false,false,false,false,false,false,false,false,false,false,false,false,false,false,false,false] rfl rfl (any_of HT_.out (by kernel_rfl)) (fun _ _ _ h => h) (Or.inr ⟨by rfl, rfl⟩) ?_ ?_
                       rotate_left
                       ·exact g2_
                       refine pure_ (i := 5) (N := some 159) (v := undef) (a' := ?_) #[true,true,true,true,true,true,false,false,false,false,false,false,false,false,false,false,false,false,false,false,false] rfl rfl (any_of HT_.out (by kernel_rfl)) (fun _ _ _ h => h) (Or.inr ⟨by rfl, rfl⟩) ?_ ?_
                       rotate_left
                       ·exact g2_
                       refine pure_ (i := 6) (N := some 160) (v := undef) (a' := ?_) #[true,true,true,true,true,true,true,false,false,false,false,false,false,false,false,false,false,false,false,false,false] rfl rfl (any_of HT_.out (by kernel_rfl)) (fun _ _ _ h => h) (Or.inr ⟨by rfl, rfl⟩) ?_ ?_
                       rotate_left
                       ·exact g2_
                       refine pure_ (i := 7) (N := some 161) (v := undef) (a' := ?_) #[true,true,true,true,true,true,true,true,false,false,false,false,false,false,false,false,false,false,false,false,false] rfl rfl (any_of HT_.out (by kernel_rfl)) (fun _ _ _ h => h) (Or.inr ⟨by rfl, rfl⟩) ?_ ?_
                       rotate_left
                       ·exact g2_
                       refine pure_ (i := 8) (N := some 162) (v := undef) (a' := ?_) #[true,true,true,true,true,true,true,true,true,false,false,false,false,false,false,false,false,false,false,false,false] rfl rfl (any_of HT_.out (by kernel_rfl)) (fun _ _ _ h => h) (Or.inr ⟨by rfl, rfl⟩) ?_ ?_
                       rotate_left
                       ·exact g2_
                       refine pure_ (i := 9) (N := some 163) (v := undef) (a' := ?_) #[true,true,true,true,true,true,true,true,true,true,false,false,false,false,false,false,false,false,false,false,false] rfl rfl (any_of HT_.out (by kernel_rfl)) (fun _ _ _ h => h) (Or.inr ⟨by rfl, rfl⟩) ?_ ?_
                       rotate_left
                       ·exact g2_
                       refine pure_ (i := 10) (N := some 164) (v := undef) (a' := ?_) #[true,true,true,true,true,true,true,true,true,true,true,false,false,false,false,false,false,false,false,false,false] rfl rfl (any_of HT_.out (by kernel_rfl)) (fun _ _ _ h => h) (Or.inr ⟨by rfl, rfl⟩) ?_ ?_
                       rotate_left
                       ·exact g2_
                       refine pure_ (i := 11) (N := some 165) (v := undef) (a' := ?_) #[true,true,true,true,true,true,true,true,true,true,true,true,false,false,false,false,false,false,false,false,false] rfl rfl (any_of HT_.out (by kernel_rfl)) (fun _ _ _ h => h) (Or.inr ⟨by rfl, rfl⟩) ?_ ?_
                       rotate_left
                       ·exact g2_
                       refine pure_ (i := 12) (N := some 166) (v := undef) (a' := ?_) #[true,true,true,true,true,true,true,true,true,true,true,true,true,false,false,false,false,false,false,false,false] rfl rfl (any_of HT_.out (by kernel_rfl)) (fun _ _ _ h => h) (Or.inr ⟨by rfl, rfl⟩) ?_ ?_
                       rotate_left
                       ·exact g2_
                       refine pure_ (i := 13) (N := some 167) (v := undef) (a' := ?_) #[true,true,true,true,true,true,true,true,true,true,true,true,true,true,false,false,false,false,false,false,false] rfl rfl (any_of HT_.out (by kernel_rfl)) (fun _ _ _ h => h) (Or.inr ⟨by rfl, rfl⟩) ?_ ?_
                       rotate_left
                       ·exact g2_
                       refine pure_ (i := 14) (N := some 168) (v := undef) (a' := ?_) #[true,true,true,true,true,true,true,true,true,true,true,true,true,true,true,false,false,false,false,false,false] rfl rfl (any_of HT_.out (by kernel_rfl)) (fun _ _ _ h => h) (Or.inr ⟨by rfl, rfl⟩) ?_ ?_
                       rotate_left
                       ·exact g2_
                       refine pure_ (i := 15) (N := some 169) (v := ?_) (a' := ?_) #[true,true,true,true,true,true,true,true,true,true,true,true,true,true,true,true,false,false,false,false,false] rfl rfl (any_of HT_.out (by kernel_rfl)) (fun _ _ _ h => h) (Or.inl ⟨by rfl, ?_⟩) ?_ ?_; rotate_left
                       ·exact g1_
                       rotate_left
                       ·exact g2_
                       refine pure_ (i := 16) (N := some 170) (v := ?_) (a' := ?_) #[true,true,true,true,true,true,true,true,true,true,true,true,true,true,true,true,true,false,false,false,false] rfl rfl (any_of HT_.out (by kernel_rfl)) (fun _ _ _ h => h) (Or.inl ⟨by rfl, ?_⟩) ?_ ?_; rotate_left
                       ·exact g1_
                       rotate_left
                       ·exact g2_
                       refine pure_ (i := 17) (N := some 171) (v := undef) (a' := ?_) #[true,true,true,true,true,true,true,true,true,true,true,true,true,true,true,true,true,true,false,false,false] rfl rfl (any_of HT_.out (by kernel_rfl)) (fun _ _ _ h => h) (Or.inr ⟨by rfl, rfl⟩) ?_ ?_
                       rotate_left
                       ·exact g2_
                       refine pure_ (i := 18) (N := some 172) (v := undef) (a' := ?_) #[true,true,true,true,true,true,true,true,true,true,true,true,true,true,true,true,true,true,true,false,false] rfl rfl (any_of HT_.out (by kernel_rfl)) (fun _ _ _ h => h) (Or.inr ⟨by rfl, rfl⟩) ?_ ?_
                       rotate_left
                       ·exact g2_
                       refine pure_ (i := 19) (N := some 173) (v := undef) (a' := ?_) #[true,true,true,true,true,true,true,true,true,true,true,true,true,true,true,true,true,true,true,true,false] rfl rfl (any_of HT_.out (by kernel_rfl)) (fun _ _ _ h => h) (Or.inr ⟨by rfl, rfl⟩) ?_ ?_
                       rotate_left
                       ·exact g2_
                       refine pure_ (i := 20) (N := some 174) (v := ?_) (a' := ?_) #[true,true,true,true,true,true,true,true,true,true,true,true,true,true,true,true,true,true,true,true,true] rfl rfl (any_of HT_.out (by kernel_rfl)) (fun _ _ _ h => h) (Or.inl ⟨by rfl, ?_⟩) ?_ ?_; rotate_left
                       ·exact g1_
                       rotate_left
                       ·exact g2_
                       refine done_ (done_of HT_.out (by kernel_rfl)) ?_
                       try go_wp2
                       go_roundg kj62
                       case measure => have := HJ6.out; have := HK2.out; have := HJ22.out; have := HJ33.out; have := HJ51.out; have := HJ62.out; omega
                       case rel => exact ⟨(wrap64 (x48_2 + 1)), (by first | rfl | (simp; done) | (simp [*]; done)), H', ⟨by have := HJ6.out; have := HK2.out; have := HJ22.out; have := HJ33.out; have := HJ51.out; have := HJ62.out; omega⟩, ⟨by (with_reducible repeat (first | apply Kd.R_alloc | apply Kd.R_drewN | apply Kd.R_drew)); exact Kd.R_mono HO_7.out (fun _ hk => trivial)⟩, ⟨by (with_reducible repeat (first | apply Kd.R_alloc | apply Kd.R_drewN | apply Kd.R_drew)); exact Kd.R_mono HO_46.out (fun _ hk => trivial)⟩, ⟨bk BK196⟩, ⟨bl HB⟩⟩
         ·rw [if_neg c22] at H
          exact absurd H (by simp)
        ·rw [if_neg c21] at H
         exact absurd H (by simp)
       ·rw [if_neg c20] at H
        have c20b0 : decide (x48_2 < (t197.length : Int)) = false := decide_eq_false c20
        clear c20
        obtain rfl := Option.some.inj H
        go_wp2
        go_ret
        exact ⟨er, bl HB⟩
 ·rw [if_neg c5] at H
  have c5b0 : (t200 == 0) = false := beq_eq_false_iff_ne.mpr c5
  have c5b1 : (t200 != 0) = true := bne_iff_ne.mpr c5
  by_cases c81 : (t197.length : Int) = 0
  ·rw [if_pos c81] at H
   have c81b0 : ((t197.length : Int) == 0) = true := beq_iff_eq.mpr c81
   have c81b1 : ((t197.length : Int) != 0) = false := bne_eq_false_iff_eq.mpr c81
   clear c81
   replace H := Option.bind_eq_some_iff.mp H
   obtain ⟨t201, A820, H⟩ := H
   replace H : (some t201) = some r := H
   have A82 := Aside0.mk A820
   clear A820
   obtain rfl := Option.some.inj H
   go_enter Tryd.func4, Tryd.ntmps4
   go_wp2_with (first | ((with_reducible refine gate_dst (N := 3) rfl ?_); (try (refine gate_guard (by rfl) ?_; dsimp only)); refine box_event ?hg (N := 3) ?hd (cs := #[.int .i64 a0_0, .int .i64 a0_1, .int .i64 a0_2, .int .i64 a0_3, .bool a0_4]) (t := 23) ?hr ?_; (case hd => rfl); (case hg => rfl); (case hr => first | (go_simp; done) | (go_simp; rfl)); intro gb196 hg w83 hbox hb; have n0_ := Aside0.mk (below_step (bl HB) hb); have n1_ := Aside0.mk (hbox); have n2_ := Aside0.mk ((by rw [hg]; exact (below_size (bl HB)) : w.heap.size ≤ gb196)); have n3_ := Aside0.mk ((by rw [hg]; exact (below_size (bl HB)) : w.heap.size ≤ gb196)); clear HB; have HB := n0_; have BK196 := n1_; have GW196 := n2_; have GE196 := n3_; clear n0_ n1_ n2_ n3_; clear hb hbox hg; have hcz84_0 : w83.cell? ⟨gb196, 0, none⟩ = some (.int .i64 a0_0) := (blk_cell BK196.out 0).trans rfl; have hcz84_1 : w83.cell? ⟨gb196, 1, none⟩ = some (.int .i64 a0_1) := (blk_cell BK196.out 1).trans rfl; have hcz84_2 : w83.cell? ⟨gb196, 2, none⟩ = some (.int .i64 a0_2) := (blk_cell BK196.out 2).trans rfl; have hcz84_3 : w83.cell? ⟨gb196, 3, none⟩ = some (.int .i64 a0_3) := (blk_cell BK196.out 3).trans rfl; have hcz84_4 : w83.cell? ⟨gb196, 4, none⟩ = some (.bool a0_4) := (blk_cell BK196.out 4).trans rfl; have hfz84_0 := blk_frozen BK196.out 0; have hfz84_1 := blk_frozen BK196.out 1; have hfz84_2 := blk_frozen BK196.out 2; have hfz84_3 := blk_frozen BK196.out 3; have hfz84_4 := blk_frozen BK196.out 4) | ((with_reducible refine gate_callee (f := 8) rfl ?_); refine goesL_ (some 17) rfl rfl Tryd.func8 (by kernel_rfl) rfl #[.agg #[.int .i64 a0_0, .int .i64 a0_1, .int .i64 a0_2, .int .i64 a0_3, .bool a0_4], .slice A1 l1.length c1, .slice A2 l2.length c2] rfl gs ?_; (with_reducible refine (desk_Outbox.calls k a0_0 a0_1 a0_2 a0_3 a0_4 _ _ l1 _ _ l2 t197 t200 _ ?side1 ?side2 ?side3 ?side4 A4.out).mono ?_); (case side1 => exact kc HR1 HB); (case side2 => exact HC1.out); (case side3 => exact kc HR2 HB); (case side4 => exact HC2.out); rintro e w85 ⟨v198, rfl, ho0, hb⟩; refine ⟨_, rfl, ?_⟩; have n0_ := Aside0.mk (Kd.R_lower ho0 (below_size (bl HB))); have n1_ := Aside0.mk (blk_below (g := gb196) (o := .cells #[.int .i64 a0_0, .int .i64 a0_1, .int .i64 a0_2, .int .i64 a0_3, .bool a0_4] 23 (0, 0)) (bk BK196) hb); have n2_ := Aside0.mk (below_step (bl HB) hb); clear BK196; clear HB; have HO199 := n0_; have BK196 := n1_; have HB := n2_; clear n0_ n1_ n2_; (try clear hb); (try clear hb2); (try clear hk); (try clear hi); (try clear ho0); obtain ⟨Ao86, co86, eo86⟩ := Kd.R_slice HO199.out; subst eo86) | (go_at_call 14; (with_reducible refine (interchangelaw12_works.calls k  t201 _ A82.out).mono ?_); rintro e w87 ⟨rfl, hb⟩; have n0_ := Aside0.mk (Kd.R_below (ra HO199) hb); have n1_ := Aside0.mk (blk_below (g := gb196) (o := .cells #[.int .i64 a0_0, .int .i64 a0_1, .int .i64 a0_2, .int .i64 a0_3, .bool a0_4] 23 (0, 0)) (bk BK196) hb); have n2_ := Aside0.mk (below_step (bl HB) hb); clear HO199; clear BK196; clear HB; have HO199 := n0_; have BK196 := n1_; have HB := n2_; clear n0_ n1_ n2_; (try clear hb); (try clear hb2); (try clear hk); (try clear hi)))
   go_ret
   exact ⟨er, bl HB⟩
  ·rw [if_neg c81] at H
   have c81b0 : ((t197.length : Int) == 0) = false := beq_eq_false_iff_ne.mpr c81
   have c81b1 : ((t197.length : Int) != 0) = true := bne_iff_ne.mpr c81
   have c81b2 : ¬ (t197 = []) := fun h_ => c81 (by rw [h_]; rfl)
   exact absurd ((Option.some.inj H).trans RT.out) Bool.false_ne_true

end Go.Proofs.YtemokeankdgfeaaDoor.PDeskGivesUpLast
