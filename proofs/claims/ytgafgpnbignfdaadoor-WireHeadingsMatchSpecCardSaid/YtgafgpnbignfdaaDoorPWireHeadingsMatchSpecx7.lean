-- Printed for this claim by px.py (this repo's wip/tools) over the kit's print; not the kit's own print.
import Derived.Test.YtgafgpnbignfdaaDoorPWireHeadingsMatchSpecx0
import Derived.Test.YtgafgpnbignfdaaDoorPWireHeadingsMatchSpecx1
import Derived.Test.YtgafgpnbignfdaaDoorPWireHeadingsMatchSpecx3
import Derived.Test.YtgafgpnbignfdaaDoorPWireHeadingsMatchSpecx4
import Derived.Test.YtgafgpnbignfdaaDoorPWireHeadingsMatchSpecx5
import Derived.Test.YtgafgpnbignfdaaDoorPWireHeadingsMatchSpecx6
namespace Go.Proofs.YtgafgpnbignfdaaDoor.PWireHeadingsMatchSpec
open Go.Proofs.YtgafgpnbignfdaaDoor.Sq
open Go.RowKit Go.Proofs.YtgafgpnbignfdaaDoorW.PrintWords Go.Proofs.YtgafgpnbignfdaaDoorW.PrintLast Go.Proofs.YtgafgpnbignfdaaDoorW.PrintMore
attribute [local go_sem] max2_int min2_int max_two min_two max_three min_three max_four min_four   -- for this text's walks alone
set_option linter.unusedVariables false
set_option linter.unusedSimpArgs false

attribute [local go_sem high] eqA23
/-! ### bytes_Equal: function 17 -/
def bytes_Equal.f (l0 : List Int) (l1 : List Int) : Option (Bool) := some ((strOfNums l0).toList == (strOfNums l1).toList)
set_option maxHeartbeats 8000000 in
set_option maxRecDepth 100000 in
theorem bytes_Equal.calls (A0 : Option Addr) (c0 : Nat) (l0 : List Int) (A1 : Option Addr) (c1 : Nat) (l1 : List Int) (r : Bool) (w : World) (hr0 : Kd.C (Kd.int .u8) w A0 l0.length l0) (hc0 : l0.length ≤ c0) (hr1 : Kd.C (Kd.int .u8) w A1 l1.length l1) (hc1 : l1.length ≤ c1) (h : bytes_Equal.f l0 l1 = some r) :
  Calls Tryd.prog 17 #[.slice A0 l0.length c0, .slice A1 l1.length c1] w fun e w' => e = .returned (.bool r) ∧ Drawn0 w w' := by
 have HR0 := Aside0.mk hr0
 have HC0 := Aside0.mk hc0
 clear hr0 hc0
 have HR1 := Aside0.mk hr1
 have HC1 := Aside0.mk hc1
 clear hr1 hc1
 have H : (some ((strOfNums l0).toList == (strOfNums l1).toList)) = some r := h
 clear h
 obtain rfl := Option.some.inj H
 have hcv3 := Kd.C_string (P := Tryd.prog) (A := A0) (c := c0) Tryd.underlying24 Tryd.underlying5 Tryd.underlying9 HR0.out
 have hcv4 := Kd.C_string (P := Tryd.prog) (A := A1) (c := c1) Tryd.underlying24 Tryd.underlying5 Tryd.underlying9 HR1.out
 go_enter Tryd.func17, Tryd.ntmps17
 go_wp2
 go_ret
 exact ⟨by first | rfl | (simp; done) | (simp [*]; done), by repeat (first | exact Drawn0.refl _ | apply Drawn0.step)⟩

def bytes_Clone.ren : Go.Shelf.Ren := ⟨fun | 4 => 18 | n => n, fun | 4 => 4 | 22 => 24 | 5 => 5 | n => n, fun n => n⟩
theorem bytes_Clone.lays : Go.Proofs.SlLaysK.n4 Tryd.prog bytes_Clone.ren := {
  mixed := by kernel_rfl
  f4 := Tryd.func18.trans (congrArg some (by kernel_rfl))
  t4 := Tryd.underlying4
  a4 := Tryd.isAgg4
  z4 := Tryd.sizeOf4
  v4 := Tryd.zeroValue4
  t22 := Tryd.underlying24
  a22 := Tryd.isAgg24
  z22 := Tryd.sizeOf24
  v22 := Tryd.zeroValue24
  t5 := Tryd.underlying5
  i5 := by kernel_rfl }

/-! ### bytes_Clone: function 18 (its contract is the shelf's) -/
def bytes_Clone.f (l0 : List Int) : Option (List Int) := if l0.length ≤ 140737488355328 then some l0 else none
theorem bytes_Clone.calls (A0 : Option Addr) (c0 : Nat) (l0 : List Int) (r : List Int) (w : World) (hr0 : Kd.C (Kd.int .u8) w A0 l0.length l0) (hc0 : l0.length ≤ c0) (h : bytes_Clone.f l0 = some r) :
    Calls Tryd.prog 18 #[.slice A0 l0.length c0] w fun e w' => ∃ v0_ : Value, e = .returned (v0_) ∧ Kd.R (Kd.int .u8) 5 w' w.heap.size (fun _ => True) v0_ r ∧ Below w.heap.size w w' := by
  unfold bytes_Clone.f at h
  split at h
  case isFalse => cases h
  rename_i hl
  obtain rfl := Option.some.inj h
  cases A0 with
  | none =>
    have h0 : l0 = [] := by
      cases l0 with
      | nil => rfl
      | cons x t =>
        obtain ⟨ad, e, _⟩ := hr0.2.2 (by simp)
        cases e
    subst h0
    refine (Any.bytes_Clone_nil bytes_Clone.lays _ _ w).mono ?_
    rintro e w' ⟨rfl, rfl⟩
    exact ⟨_, rfl, Kd.R_nil _ _ _ _ _, Below.refl _ _⟩
  | some a =>
    refine (Any.bytes_Clone_at bytes_Clone.lays a l0.length c0 l0 w rfl hl (fun i hi => ?_)).mono ?_
    · obtain ⟨ad, e, hcell⟩ := Kd.at_int hr0 i (by omega) (by omega)
      cases e
      simpa [rd] using hcell
    · rintro e w' ⟨v, rfl, ho, _, hb⟩
      exact ⟨v, rfl, Kd.R_of_own ho (fun _ _ => trivial), hb⟩

/-! ### interchangelaw2_awake: function 19 -/
def interchangelaw2_awake.f (k : Nat)  : Option (Bool) := (wire_Heading.f k 42 58 94 63 126).bind fun bt187 => (if bt187.2 = 0 then (some ((strOfNums bt187.1).toList == ([77, 82, 75, 42, 58, 94, 63, 126] : List UInt8))) else (some false))
theorem interchangelaw2_awake.mono : ∀ k, LeO (interchangelaw2_awake.f k ) (interchangelaw2_awake.f (k + 1) ) := by
 intro  k
 unfold interchangelaw2_awake.f
 repeat' first
   | (with_reducible exact wire_Heading.mono _ _ _ _ _ _)
   | (with_reducible exact LeO.refl _)
   | (with_reducible exact LeO.none _)
   | (with_reducible refine LeO.ite ?_ ?_)
   | (with_reducible refine LeO.bind ?_ (fun _ => ?_))
   | exact wire_Heading.mono _ _ _ _ _ _
   | exact LeO.none _
   | refine LeO.ite ?_ ?_
   | refine LeO.bind ?_ (fun _ => ?_)
set_option maxHeartbeats 8000000 in
set_option maxRecDepth 100000 in
theorem interchangelaw2_awake.calls (k : Nat)  (r : Bool) (w : World) (h : interchangelaw2_awake.f k  = some r) :
  Calls Tryd.prog 19 #[] w fun e w' => e = .returned (.bool r) ∧ Below w.heap.size w w' := by
 have hu23 := Tryd.underlying23
 have HB := Aside0.mk (Below.refl w.heap.size w)
 have H : ((wire_Heading.f k 42 58 94 63 126).bind fun bt187 => (if bt187.2 = 0 then (some ((strOfNums bt187.1).toList == ([77, 82, 75, 42, 58, 94, 63, 126] : List UInt8))) else (some false))) = some r := h
 clear h
 replace H := Option.bind_eq_some_iff.mp H
 obtain ⟨⟨t187, t190⟩, A10, H⟩ := H
 replace H : (if t190 = 0 then (some ((strOfNums t187).toList == ([77, 82, 75, 42, 58, 94, 63, 126] : List UInt8))) else (some false)) = some r := H
 have A1 := Aside0.mk A10
 clear A10
 by_cases c2 : t190 = 0
 ·rw [if_pos c2] at H
  have c2b0 : (t190 == 0) = true := beq_iff_eq.mpr c2
  have c2b1 : (t190 != 0) = false := bne_eq_false_iff_eq.mpr c2
  clear c2
  obtain rfl := Option.some.inj H
  go_enter Tryd.func19, Tryd.ntmps19
  go_wp2_with (first | ((with_reducible refine gate_callee (f := 14) rfl ?_); refine goesL_ (some 5) rfl rfl Tryd.func14 (by kernel_rfl) rfl #[.agg #[.int .u8 42, .int .u8 58, .int .u8 94, .int .u8 63, .int .u8 126]] rfl gs ?_; (with_reducible refine (wire_Heading.calls k 42 58 94 63 126 t187 t190 _ A1.out).mono ?_); rintro e w3 ⟨v188, rfl, ho0, hb⟩; refine ⟨_, rfl, ?_⟩; have n0_ := Aside0.mk (Kd.R_lower ho0 (below_size (bl HB))); have n1_ := Aside0.mk (below_step (bl HB) hb); clear HB; have HO189 := n0_; have HB := n1_; clear n0_ n1_; (try clear hb); (try clear hb2); (try clear hk); (try clear hi); (try clear ho0); have hcv4 := own_string (P := Tryd.prog) Tryd.underlying24 Tryd.underlying5 Tryd.underlying9 (Kd.own_of_R HO189.out)))
  go_ret
  exact ⟨er, bl HB⟩
 ·rw [if_neg c2] at H
  have c2b0 : (t190 == 0) = false := beq_eq_false_iff_ne.mpr c2
  have c2b1 : (t190 != 0) = true := bne_iff_ne.mpr c2
  obtain rfl := Option.some.inj H
  go_enter Tryd.func19, Tryd.ntmps19
  go_wp2_with (first | ((with_reducible refine gate_callee (f := 14) rfl ?_); refine goesL_ (some 5) rfl rfl Tryd.func14 (by kernel_rfl) rfl #[.agg #[.int .u8 42, .int .u8 58, .int .u8 94, .int .u8 63, .int .u8 126]] rfl gs ?_; (with_reducible refine (wire_Heading.calls k 42 58 94 63 126 t187 t190 _ A1.out).mono ?_); rintro e w5 ⟨v188, rfl, ho0, hb⟩; refine ⟨_, rfl, ?_⟩; have n0_ := Aside0.mk (Kd.R_lower ho0 (below_size (bl HB))); have n1_ := Aside0.mk (below_step (bl HB) hb); clear HB; have HO189 := n0_; have HB := n1_; clear n0_ n1_; (try clear hb); (try clear hb2); (try clear hk); (try clear hi); (try clear ho0)))
  go_ret
  exact ⟨er, bl HB⟩

/-! ### interchangelaw2_WireHeadingsMatchSpec: function 3 -/
def interchangelaw2_WireHeadingsMatchSpec.j0 : Nat → List Int → List Int → Int → Bool → Int → Int → Int → Int → Int → Option (Bool)
 | 0, _, _, _, _, _, _, _, _, _ => none
 | k + 1, x1, x7, x8, x63, x192000, x192001, x192002, x192003, x192004 => if x63 = true then (some false) else (if x8 = 0 then ((bytes_Clone.f x7).bind fun t217 => (if t217.length + x1.length < 140737488355328 then ((wire_ReadHeading.f k (t217 ++ x1)).bind fun bt223 => (if bt223.2.2.2.2.2.2 = 0 then (if (!(bt223.1 == x192000) || (!(bt223.2.1 == x192001) || (!(bt223.2.2.1 == x192002) || (!(bt223.2.2.2.1 == x192003) || (!(bt223.2.2.2.2.1 == x192004)))))) = true then (some false) else ((interchangelaw2_awake.f k).bind fun t231 => (some t231))) else (some false))) else (none))) else ((interchangelaw2_awake.f k).bind fun t232 => (some t232)))
def interchangelaw2_WireHeadingsMatchSpec.f (k : Nat) (a0_0 : Int) (a0_1 : Int) (a0_2 : Int) (a0_3 : Int) (a0_4 : Int) (l1 : List Int) : Option (Bool) := (interchangeref2_Heading.f k a0_0 a0_1 a0_2 a0_3 a0_4).bind fun bt192 => ((wire_Heading.f k a0_0 a0_1 a0_2 a0_3 a0_4).bind fun bt196 => ((interchangeref2_ReadHeading.f k l1).bind fun bt200 => ((wire_ReadHeading.f k l1).bind fun bt208 => ((bytes_Equal.f bt196.1 bt192.1).bind fun t216 => (if t216 = true then (if bt196.2 = bt192.2 then (if (!(bt208.1 == bt200.1) || (!(bt208.2.1 == bt200.2.1) || (!(bt208.2.2.1 == bt200.2.2.1) || (!(bt208.2.2.2.1 == bt200.2.2.2.1) || (!(bt208.2.2.2.2.1 == bt200.2.2.2.2.1)))))) = true then (interchangelaw2_WireHeadingsMatchSpec.j0 k l1 bt196.1 bt196.2 true a0_0 a0_1 a0_2 a0_3 a0_4) else (if bt208.2.2.2.2.2.1 = bt200.2.2.2.2.2.1 then (interchangelaw2_WireHeadingsMatchSpec.j0 k l1 bt196.1 bt196.2 (bt208.2.2.2.2.2.2 != bt200.2.2.2.2.2.2) a0_0 a0_1 a0_2 a0_3 a0_4) else (interchangelaw2_WireHeadingsMatchSpec.j0 k l1 bt196.1 bt196.2 true a0_0 a0_1 a0_2 a0_3 a0_4))) else (interchangelaw2_WireHeadingsMatchSpec.j0 k l1 bt196.1 bt196.2 true a0_0 a0_1 a0_2 a0_3 a0_4)) else (interchangelaw2_WireHeadingsMatchSpec.j0 k l1 bt196.1 bt196.2 true a0_0 a0_1 a0_2 a0_3 a0_4))))))
theorem interchangelaw2_WireHeadingsMatchSpec.mono_l : ∀ k, (∀ y0 y1 y2 y3 y4 y5 y6 y7 y8, LeO (interchangelaw2_WireHeadingsMatchSpec.j0 k y0 y1 y2 y3 y4 y5 y6 y7 y8) (interchangelaw2_WireHeadingsMatchSpec.j0 (k + 1) y0 y1 y2 y3 y4 y5 y6 y7 y8))
 | 0 => fun _ _ _ _ _ _ _ _ _ r h => by simp [interchangelaw2_WireHeadingsMatchSpec.j0] at h
 | k + 1 => by
  have ih0 := interchangelaw2_WireHeadingsMatchSpec.mono_l k
  ·intro y0 y1 y2 y3 y4 y5 y6 y7 y8
   unfold interchangelaw2_WireHeadingsMatchSpec.j0
   repeat' first
   | (with_reducible exact ih0 _ _ _ _ _ _ _ _ _)
   | (with_reducible exact interchangelaw2_awake.mono _)
   | (with_reducible exact interchangeref2_Heading.mono _ _ _ _ _ _)
   | (with_reducible exact interchangeref2_ReadHeading.mono _ _)
   | (with_reducible exact wire_Heading.mono _ _ _ _ _ _)
   | (with_reducible exact wire_ReadHeading.mono _ _)
   | (with_reducible exact LeO.refl _)
   | (with_reducible exact LeO.none _)
   | (with_reducible refine LeO.ite ?_ ?_)
   | (with_reducible refine LeO.bind ?_ (fun _ => ?_))
   | exact ih0 _ _ _ _ _ _ _ _ _
   | exact interchangelaw2_awake.mono _
   | exact interchangeref2_Heading.mono _ _ _ _ _ _
   | exact interchangeref2_ReadHeading.mono _ _
   | exact wire_Heading.mono _ _ _ _ _ _
   | exact wire_ReadHeading.mono _ _
   | exact LeO.none _
   | refine LeO.ite ?_ ?_
   | refine LeO.bind ?_ (fun _ => ?_)
theorem interchangelaw2_WireHeadingsMatchSpec.mono : ∀ a0 a1 a2 a3 a4 a5 k, LeO (interchangelaw2_WireHeadingsMatchSpec.f k a0 a1 a2 a3 a4 a5) (interchangelaw2_WireHeadingsMatchSpec.f (k + 1) a0 a1 a2 a3 a4 a5) := by
 intro a0 a1 a2 a3 a4 a5 k
 have ih0 := interchangelaw2_WireHeadingsMatchSpec.mono_l k
 unfold interchangelaw2_WireHeadingsMatchSpec.f
 repeat' first
   | (with_reducible exact ih0 _ _ _ _ _ _ _ _ _)
   | (with_reducible exact interchangelaw2_awake.mono _)
   | (with_reducible exact interchangeref2_Heading.mono _ _ _ _ _ _)
   | (with_reducible exact interchangeref2_ReadHeading.mono _ _)
   | (with_reducible exact wire_Heading.mono _ _ _ _ _ _)
   | (with_reducible exact wire_ReadHeading.mono _ _)
   | (with_reducible exact LeO.refl _)
   | (with_reducible exact LeO.none _)
   | (with_reducible refine LeO.ite ?_ ?_)
   | (with_reducible refine LeO.bind ?_ (fun _ => ?_))
   | exact ih0 _ _ _ _ _ _ _ _ _
   | exact interchangelaw2_awake.mono _
   | exact interchangeref2_Heading.mono _ _ _ _ _ _
   | exact interchangeref2_ReadHeading.mono _ _
   | exact wire_Heading.mono _ _ _ _ _ _
   | exact wire_ReadHeading.mono _ _
   | exact LeO.none _
   | refine LeO.ite ?_ ?_
   | refine LeO.bind ?_ (fun _ => ?_)
set_option maxHeartbeats 8000000 in
set_option maxRecDepth 100000 in
theorem interchangelaw2_WireHeadingsMatchSpec.calls (k : Nat) (a0_0 : Int) (a0_1 : Int) (a0_2 : Int) (a0_3 : Int) (a0_4 : Int) (A1 : Option Addr) (c1 : Nat) (l1 : List Int) (r : Bool) (w : World) (hr1 : Kd.C (Kd.int .u8) w A1 l1.length l1) (hc1 : l1.length ≤ c1) (h : interchangelaw2_WireHeadingsMatchSpec.f k a0_0 a0_1 a0_2 a0_3 a0_4 l1 = some r) (rt : r = true) :
  Calls Tryd.prog 3 #[.agg #[.int .u8 a0_0, .int .u8 a0_1, .int .u8 a0_2, .int .u8 a0_3, .int .u8 a0_4], .slice A1 l1.length c1] w fun e w' => e = .returned (.bool r) ∧ Below w.heap.size w w' := by
 have hu23 := Tryd.underlying23
 have HR1 := Aside0.mk hr1
 have HC1 := Aside0.mk hc1
 clear hr1 hc1
 have HB := Aside0.mk (Below.refl w.heap.size w)
 have H : ((interchangeref2_Heading.f k a0_0 a0_1 a0_2 a0_3 a0_4).bind fun bt192 => ((wire_Heading.f k a0_0 a0_1 a0_2 a0_3 a0_4).bind fun bt196 => ((interchangeref2_ReadHeading.f k l1).bind fun bt200 => ((wire_ReadHeading.f k l1).bind fun bt208 => ((bytes_Equal.f bt196.1 bt192.1).bind fun t216 => (if t216 = true then (if bt196.2 = bt192.2 then (if (!(bt208.1 == bt200.1) || (!(bt208.2.1 == bt200.2.1) || (!(bt208.2.2.1 == bt200.2.2.1) || (!(bt208.2.2.2.1 == bt200.2.2.2.1) || (!(bt208.2.2.2.2.1 == bt200.2.2.2.2.1)))))) = true then (interchangelaw2_WireHeadingsMatchSpec.j0 k l1 bt196.1 bt196.2 true a0_0 a0_1 a0_2 a0_3 a0_4) else (if bt208.2.2.2.2.2.1 = bt200.2.2.2.2.2.1 then (interchangelaw2_WireHeadingsMatchSpec.j0 k l1 bt196.1 bt196.2 (bt208.2.2.2.2.2.2 != bt200.2.2.2.2.2.2) a0_0 a0_1 a0_2 a0_3 a0_4) else (interchangelaw2_WireHeadingsMatchSpec.j0 k l1 bt196.1 bt196.2 true a0_0 a0_1 a0_2 a0_3 a0_4))) else (interchangelaw2_WireHeadingsMatchSpec.j0 k l1 bt196.1 bt196.2 true a0_0 a0_1 a0_2 a0_3 a0_4)) else (interchangelaw2_WireHeadingsMatchSpec.j0 k l1 bt196.1 bt196.2 true a0_0 a0_1 a0_2 a0_3 a0_4))))))) = some r := h
 clear h
 have RT := Aside0.mk rt
 clear rt
 replace H := Option.bind_eq_some_iff.mp H
 obtain ⟨⟨t192, t195⟩, A30, H⟩ := H
 replace H : ((wire_Heading.f k a0_0 a0_1 a0_2 a0_3 a0_4).bind fun bt196 => ((interchangeref2_ReadHeading.f k l1).bind fun bt200 => ((wire_ReadHeading.f k l1).bind fun bt208 => ((bytes_Equal.f bt196.1 t192).bind fun t216 => (if t216 = true then (if bt196.2 = t195 then (if (!(bt208.1 == bt200.1) || (!(bt208.2.1 == bt200.2.1) || (!(bt208.2.2.1 == bt200.2.2.1) || (!(bt208.2.2.2.1 == bt200.2.2.2.1) || (!(bt208.2.2.2.2.1 == bt200.2.2.2.2.1)))))) = true then (interchangelaw2_WireHeadingsMatchSpec.j0 k l1 bt196.1 bt196.2 true a0_0 a0_1 a0_2 a0_3 a0_4) else (if bt208.2.2.2.2.2.1 = bt200.2.2.2.2.2.1 then (interchangelaw2_WireHeadingsMatchSpec.j0 k l1 bt196.1 bt196.2 (bt208.2.2.2.2.2.2 != bt200.2.2.2.2.2.2) a0_0 a0_1 a0_2 a0_3 a0_4) else (interchangelaw2_WireHeadingsMatchSpec.j0 k l1 bt196.1 bt196.2 true a0_0 a0_1 a0_2 a0_3 a0_4))) else (interchangelaw2_WireHeadingsMatchSpec.j0 k l1 bt196.1 bt196.2 true a0_0 a0_1 a0_2 a0_3 a0_4)) else (interchangelaw2_WireHeadingsMatchSpec.j0 k l1 bt196.1 bt196.2 true a0_0 a0_1 a0_2 a0_3 a0_4)))))) = some r := H
 have A3 := Aside0.mk A30
 clear A30
 replace H := Option.bind_eq_some_iff.mp H
 obtain ⟨⟨t196, t199⟩, A40, H⟩ := H
 replace H : ((interchangeref2_ReadHeading.f k l1).bind fun bt200 => ((wire_ReadHeading.f k l1).bind fun bt208 => ((bytes_Equal.f t196 t192).bind fun t216 => (if t216 = true then (if t199 = t195 then (if (!(bt208.1 == bt200.1) || (!(bt208.2.1 == bt200.2.1) || (!(bt208.2.2.1 == bt200.2.2.1) || (!(bt208.2.2.2.1 == bt200.2.2.2.1) || (!(bt208.2.2.2.2.1 == bt200.2.2.2.2.1)))))) = true then (interchangelaw2_WireHeadingsMatchSpec.j0 k l1 t196 t199 true a0_0 a0_1 a0_2 a0_3 a0_4) else (if bt208.2.2.2.2.2.1 = bt200.2.2.2.2.2.1 then (interchangelaw2_WireHeadingsMatchSpec.j0 k l1 t196 t199 (bt208.2.2.2.2.2.2 != bt200.2.2.2.2.2.2) a0_0 a0_1 a0_2 a0_3 a0_4) else (interchangelaw2_WireHeadingsMatchSpec.j0 k l1 t196 t199 true a0_0 a0_1 a0_2 a0_3 a0_4))) else (interchangelaw2_WireHeadingsMatchSpec.j0 k l1 t196 t199 true a0_0 a0_1 a0_2 a0_3 a0_4)) else (interchangelaw2_WireHeadingsMatchSpec.j0 k l1 t196 t199 true a0_0 a0_1 a0_2 a0_3 a0_4))))) = some r := H
 have A4 := Aside0.mk A40
 clear A40
 replace H := Option.bind_eq_some_iff.mp H
 obtain ⟨⟨t200, t201, t202, t203, t204, t205, t206⟩, A50, H⟩ := H
 replace H : ((wire_ReadHeading.f k l1).bind fun bt208 => ((bytes_Equal.f t196 t192).bind fun t216 => (if t216 = true then (if t199 = t195 then (if (!(bt208.1 == t200) || (!(bt208.2.1 == t201) || (!(bt208.2.2.1 == t202) || (!(bt208.2.2.2.1 == t203) || (!(bt208.2.2.2.2.1 == t204)))))) = true then (interchangelaw2_WireHeadingsMatchSpec.j0 k l1 t196 t199 true a0_0 a0_1 a0_2 a0_3 a0_4) else (if bt208.2.2.2.2.2.1 = t205 then (interchangelaw2_WireHeadingsMatchSpec.j0 k l1 t196 t199 (bt208.2.2.2.2.2.2 != t206) a0_0 a0_1 a0_2 a0_3 a0_4) else (interchangelaw2_WireHeadingsMatchSpec.j0 k l1 t196 t199 true a0_0 a0_1 a0_2 a0_3 a0_4))) else (interchangelaw2_WireHeadingsMatchSpec.j0 k l1 t196 t199 true a0_0 a0_1 a0_2 a0_3 a0_4)) else (interchangelaw2_WireHeadingsMatchSpec.j0 k l1 t196 t199 true a0_0 a0_1 a0_2 a0_3 a0_4)))) = some r := H
 have A5 := Aside0.mk A50
 clear A50
 replace H := Option.bind_eq_some_iff.mp H
 obtain ⟨⟨t208, t209, t210, t211, t212, t213, t214⟩, A60, H⟩ := H
 replace H : ((bytes_Equal.f t196 t192).bind fun t216 => (if t216 = true then (if t199 = t195 then (if (!(t208 == t200) || (!(t209 == t201) || (!(t210 == t202) || (!(t211 == t203) || (!(t212 == t204)))))) = true then (interchangelaw2_WireHeadingsMatchSpec.j0 k l1 t196 t199 true a0_0 a0_1 a0_2 a0_3 a0_4) else (if t213 = t205 then (interchangelaw2_WireHeadingsMatchSpec.j0 k l1 t196 t199 (t214 != t206) a0_0 a0_1 a0_2 a0_3 a0_4) else (interchangelaw2_WireHeadingsMatchSpec.j0 k l1 t196 t199 true a0_0 a0_1 a0_2 a0_3 a0_4))) else (interchangelaw2_WireHeadingsMatchSpec.j0 k l1 t196 t199 true a0_0 a0_1 a0_2 a0_3 a0_4)) else (interchangelaw2_WireHeadingsMatchSpec.j0 k l1 t196 t199 true a0_0 a0_1 a0_2 a0_3 a0_4))) = some r := H
 have A6 := Aside0.mk A60
 clear A60
 have HC7 := Aside0.mk H
 clear H
 go_enter Tryd.func3, Tryd.ntmps3
 go_upto_region 5 with (first | ((with_reducible refine gate_dst (N := 2) rfl ?_); refine box_event ?hg (N := 2) ?hd (cs := #[.int .u8 a0_0, .int .u8 a0_1, .int .u8 a0_2, .int .u8 a0_3, .int .u8 a0_4]) (t := 23) ?hr ?_; (case hd => rfl); (case hg => rfl); (case hr => first | (go_simp; done) | (go_simp; rfl)); intro gb191 hg w8 hbox hb; have n0_ := Aside0.mk (below_step (bl HB) hb); have n1_ := Aside0.mk (hbox); have n2_ := Aside0.mk ((by rw [hg]; exact (below_size (bl HB)) : w.heap.size ≤ gb191)); have n3_ := Aside0.mk ((by rw [hg]; exact (below_size (bl HB)) : w.heap.size ≤ gb191)); clear HB; have HB := n0_; have BK191 := n1_; have GW191 := n2_; have GE191 := n3_; clear n0_ n1_ n2_ n3_; clear hb hbox hg; have hcz9_0 : w8.cell? ⟨gb191, 0, none⟩ = some (.int .u8 a0_0) := (blk_cell BK191.out 0).trans rfl; have hcz9_1 : w8.cell? ⟨gb191, 1, none⟩ = some (.int .u8 a0_1) := (blk_cell BK191.out 1).trans rfl; have hcz9_2 : w8.cell? ⟨gb191, 2, none⟩ = some (.int .u8 a0_2) := (blk_cell BK191.out 2).trans rfl; have hcz9_3 : w8.cell? ⟨gb191, 3, none⟩ = some (.int .u8 a0_3) := (blk_cell BK191.out 3).trans rfl; have hcz9_4 : w8.cell? ⟨gb191, 4, none⟩ = some (.int .u8 a0_4) := (blk_cell BK191.out 4).trans rfl; have hfz9_0 := blk_frozen BK191.out 0; have hfz9_1 := blk_frozen BK191.out 1; have hfz9_2 := blk_frozen BK191.out 2; have hfz9_3 := blk_frozen BK191.out 3; have hfz9_4 := blk_frozen BK191.out 4) | ((with_reducible refine gate_callee (f := 13) rfl ?_); refine goesL_ (some 20) rfl rfl Tryd.func13 (by kernel_rfl) rfl #[.agg #[.int .u8 a0_0, .int .u8 a0_1, .int .u8 a0_2, .int .u8 a0_3, .int .u8 a0_4]] rfl gs ?_; (with_reducible refine (interchangeref2_Heading.calls k a0_0 a0_1 a0_2 a0_3 a0_4 t192 t195 _ A3.out).mono ?_); rintro e w10 ⟨v193, rfl, ho0, hb⟩; refine ⟨_, rfl, ?_⟩; have n0_ := Aside0.mk (Kd.R_lower ho0 (below_size (bl HB))); have n1_ := Aside0.mk (blk_below (g := gb191) (o := .cells #[.int .u8 a0_0, .int .u8 a0_1, .int .u8 a0_2, .int .u8 a0_3, .int .u8 a0_4] 23 (0, 0)) (bk BK191) hb); have n2_ := Aside0.mk (below_step (bl HB) hb); clear BK191; clear HB; have HO194 := n0_; have BK191 := n1_; have HB := n2_; clear n0_ n1_ n2_; (try clear hb); (try clear hb2); (try clear hk); (try clear hi); (try clear ho0); have hcz11_0 : w10.cell? ⟨gb191, 0, none⟩ = some (.int .u8 a0_0) := (blk_cell BK191.out 0).trans rfl; have hcz11_1 : w10.cell? ⟨gb191, 1, none⟩ = some (.int .u8 a0_1) := (blk_cell BK191.out 1).trans rfl; have hcz11_2 : w10.cell? ⟨gb191, 2, none⟩ = some (.int .u8 a0_2) := (blk_cell BK191.out 2).trans rfl; have hcz11_3 : w10.cell? ⟨gb191, 3, none⟩ = some (.int .u8 a0_3) := (blk_cell BK191.out 3).trans rfl; have hcz11_4 : w10.cell? ⟨gb191, 4, none⟩ = some (.int .u8 a0_4) := (blk_cell BK191.out 4).trans rfl; have hfz11_0 := blk_frozen BK191.out 0; have hfz11_1 := blk_frozen BK191.out 1; have hfz11_2 := blk_frozen BK191.out 2; have hfz11_3 := blk_frozen BK191.out 3; have hfz11_4 := blk_frozen BK191.out 4) | ((with_reducible refine gate_callee (f := 14) rfl ?_); refine goesL_ (some 25) rfl rfl Tryd.func14 (by kernel_rfl) rfl #[.agg #[.int .u8 a0_0, .int .u8 a0_1, .int .u8 a0_2, .int .u8 a0_3, .int .u8 a0_4]] rfl gs ?_; (with_reducible refine (wire_Heading.calls k a0_0 a0_1 a0_2 a0_3 a0_4 t196 t199 _ A4.out).mono ?_); rintro e w12 ⟨v197, rfl, ho0, hb⟩; refine ⟨_, rfl, ?_⟩; have n0_ := Aside0.mk (Kd.R_elder' (ra HO194) (Kd.R_base ho0) hb); have n1_ := Aside0.mk (Kd.R_lower (Kd.R_new' ho0 (Kd.R_lt (ra HO194))) (below_size (bl HB))); have n2_ := Aside0.mk (blk_below (g := gb191) (o := .cells #[.int .u8 a0_0, .int .u8 a0_1, .int .u8 a0_2, .int .u8 a0_3, .int .u8 a0_4] 23 (0, 0)) (bk BK191) hb); have n3_ := Aside0.mk (below_step (bl HB) hb); clear HO194; clear BK191; clear HB; have HO194 := n0_; have HO198 := n1_; have BK191 := n2_; have HB := n3_; clear n0_ n1_ n2_ n3_; (try clear hb); (try clear hb2); (try clear hk); (try clear hi); (try clear ho0)) | ((with_reducible refine gate_callee (f := 15) rfl ?_); refine goesL_ (some 30) rfl rfl Tryd.func15 (by kernel_rfl) rfl #[.slice A1 l1.length c1] rfl gs ?_; (with_reducible refine (interchangeref2_ReadHeading.calls k _ _ l1 t200 t201 t202 t203 t204 t205 t206 _ ?side1 ?side2 A5.out).mono ?_); (case side1 => exact kc HR1 HB); (case side2 => exact HC1.out); rintro e w13 ⟨rfl, hb⟩; refine ⟨_, rfl, ?_⟩; have n0_ := Aside0.mk (Kd.R_below (ra HO194) hb); have n1_ := Aside0.mk (Kd.R_below (ra HO198) hb); have n2_ := Aside0.mk (blk_below (g := gb191) (o := .cells #[.int .u8 a0_0, .int .u8 a0_1, .int .u8 a0_2, .int .u8 a0_3, .int .u8 a0_4] 23 (0, 0)) (bk BK191) hb); have n3_ := Aside0.mk (below_step (bl HB) hb); clear HO194; clear HO198; clear BK191; clear HB; have HO194 := n0_; have HO198 := n1_; have BK191 := n2_; have HB := n3_; clear n0_ n1_ n2_ n3_; (try clear hb); (try clear hb2); (try clear hk); (try clear hi)) | ((with_reducible refine gate_dst (N := 9) rfl ?_); refine box_event ?hg (N := 9) ?hd (cs := #[.int .u8 0, .int .u8 0, .int .u8 0, .int .u8 0, .int .u8 0]) (t := 23) ?hr ?_; (case hd => rfl); (case hg => rfl); (case hr => first | (go_simp; done) | (go_simp; rfl)); intro gb207 hg w14 hbox hb; have n0_ := Aside0.mk (Kd.R_below (ra HO194) hb); have n1_ := Aside0.mk (Kd.R_below (ra HO198) hb); have n2_ := Aside0.mk (blk_below (g := gb191) (o := .cells #[.int .u8 a0_0, .int .u8 a0_1, .int .u8 a0_2, .int .u8 a0_3, .int .u8 a0_4] 23 (0, 0)) (bk BK191) hb); have n3_ := Aside0.mk (below_step (bl HB) hb); have n4_ := Aside0.mk (hbox); have n5_ := Aside0.mk ((by rw [hg]; exact (below_size (bl HB)) : w.heap.size ≤ gb207)); have n6_ := Aside0.mk ((by rw [hg]; exact (below_size (bl HB)) : w.heap.size ≤ gb207)); have n7_ := Aside0.mk ((by rw [hg]; exact Nat.ne_of_lt (blk_lt (g := gb191) (o := .cells #[.int .u8 a0_0, .int .u8 a0_1, .int .u8 a0_2, .int .u8 a0_3, .int .u8 a0_4] 23 (0, 0)) (bk BK191)) : gb191 ≠ gb207)); have n8_ := Aside0.mk ((by rw [hg]; exact Nat.ne_of_gt (blk_lt (g := gb191) (o := .cells #[.int .u8 a0_0, .int .u8 a0_1, .int .u8 a0_2, .int .u8 a0_3, .int .u8 a0_4] 23 (0, 0)) (bk BK191)) : gb207 ≠ gb191)); clear HO194; clear HO198; clear BK191; clear HB; have HO194 := n0_; have HO198 := n1_; have BK191 := n2_; have HB := n3_; have BK207 := n4_; have GW207 := n5_; have GE207 := n6_; have NB191_207 := n7_; have NB207_191 := n8_; clear n0_ n1_ n2_ n3_ n4_ n5_ n6_ n7_ n8_; clear hb hbox hg; have hnb15 := NB207_191.out; have hnc15 := NB191_207.out; have hcz16_0 : w14.cell? ⟨gb207, 0, none⟩ = some (.int .u8 0) := (blk_cell BK207.out 0).trans rfl; have hcz16_1 : w14.cell? ⟨gb207, 1, none⟩ = some (.int .u8 0) := (blk_cell BK207.out 1).trans rfl; have hcz16_2 : w14.cell? ⟨gb207, 2, none⟩ = some (.int .u8 0) := (blk_cell BK207.out 2).trans rfl; have hcz16_3 : w14.cell? ⟨gb207, 3, none⟩ = some (.int .u8 0) := (blk_cell BK207.out 3).trans rfl; have hcz16_4 : w14.cell? ⟨gb207, 4, none⟩ = some (.int .u8 0) := (blk_cell BK207.out 4).trans rfl; have hfz16_0 := blk_frozen BK207.out 0; have hfz16_1 := blk_frozen BK207.out 1; have hfz16_2 := blk_frozen BK207.out 2; have hfz16_3 := blk_frozen BK207.out 3; have hfz16_4 := blk_frozen BK207.out 4) | ((with_reducible refine gate_callee (f := 16) rfl ?_); refine goesL_ (some 36) rfl rfl Tryd.func16 (by kernel_rfl) rfl #[.slice A1 l1.length c1] rfl gs ?_; (with_reducible refine (wire_ReadHeading.calls k _ _ l1 t208 t209 t210 t211 t212 t213 t214 _ ?side1 ?side2 A6.out).mono ?_); (case side1 => exact Kd.C_below HR1.out (bl HB)); (case side2 => exact HC1.out); rintro e w17 ⟨rfl, hb⟩; refine ⟨_, rfl, ?_⟩; have n0_ := Aside0.mk (Kd.R_below (by (with_reducible repeat (first | apply Kd.R_alloc | apply Kd.R_drewN | apply Kd.R_drew)); exact (Kd.R_mono (Kd.R_far (p := ⟨gb207, 4, none⟩) (Kd.R_far (p := ⟨gb207, 3, none⟩) (Kd.R_far (p := ⟨gb207, 2, none⟩) (Kd.R_far (p := ⟨gb207, 1, none⟩) (Kd.R_far (p := ⟨gb207, 0, none⟩) (Kd.R_types HO194.out BK207.out (by decide)) (fun _ hk => hk.2) (.int .u8 t200)) (fun _ hk => hk.2) (.int .u8 t201)) (fun _ hk => hk.2) (.int .u8 t202)) (fun _ hk => hk.2) (.int .u8 t203)) (fun _ hk => hk.2) (.int .u8 t204)) (fun _ h_ => h_.1))) hb); have n1_ := Aside0.mk (Kd.R_below (by (with_reducible repeat (first | apply Kd.R_alloc | apply Kd.R_drewN | apply Kd.R_drew)); exact (Kd.R_mono (Kd.R_far (p := ⟨gb207, 4, none⟩) (Kd.R_far (p := ⟨gb207, 3, none⟩) (Kd.R_far (p := ⟨gb207, 2, none⟩) (Kd.R_far (p := ⟨gb207, 1, none⟩) (Kd.R_far (p := ⟨gb207, 0, none⟩) (Kd.R_types HO198.out BK207.out (by decide)) (fun _ hk => hk.2) (.int .u8 t200)) (fun _ hk => hk.2) (.int .u8 t201)) (fun _ hk => hk.2) (.int .u8 t202)) (fun _ hk => hk.2) (.int .u8 t203)) (fun _ hk => hk.2) (.int .u8 t204)) (fun _ h_ => h_.1))) hb); have n2_ := Aside0.mk (blk_below (g := gb191) (o := .cells #[.int .u8 a0_0, .int .u8 a0_1, .int .u8 a0_2, .int .u8 a0_3, .int .u8 a0_4] 23 (0, 0)) (by (with_reducible repeat (first | refine blk_drewN ?_ _ | refine blk_drew ?_ | refine blk_alloc ?_ _)); refine blk_far ?_ NB191_207.out _; (with_reducible repeat (first | refine blk_drewN ?_ _ | refine blk_drew ?_ | refine blk_alloc ?_ _)); refine blk_far ?_ NB191_207.out _; (with_reducible repeat (first | refine blk_drewN ?_ _ | refine blk_drew ?_ | refine blk_alloc ?_ _)); refine blk_far ?_ NB191_207.out _; (with_reducible repeat (first | refine blk_drewN ?_ _ | refine blk_drew ?_ | refine blk_alloc ?_ _)); refine blk_far ?_ NB191_207.out _; (with_reducible repeat (first | refine blk_drewN ?_ _ | refine blk_drew ?_ | refine blk_alloc ?_ _)); refine blk_far ?_ NB191_207.out _; (with_reducible repeat (first | refine blk_drewN ?_ _ | refine blk_drew ?_ | refine blk_alloc ?_ _)); exact BK191.out) hb); have n3_ := Aside0.mk (blk_below (g := gb207) (o := .cells #[.int .u8 t200, .int .u8 t201, .int .u8 t202, .int .u8 t203, .int .u8 t204] 23 (0, 0)) (by (with_reducible repeat (first | refine blk_drewN ?_ _ | refine blk_drew ?_ | refine blk_alloc ?_ _)); refine blk_put (cs := #[.int .u8 t200, .int .u8 t201, .int .u8 t202, .int .u8 t203, .int .u8 0]) ?_ 4 _ rfl; (with_reducible repeat (first | refine blk_drewN ?_ _ | refine blk_drew ?_ | refine blk_alloc ?_ _)); refine blk_put (cs := #[.int .u8 t200, .int .u8 t201, .int .u8 t202, .int .u8 0, .int .u8 0]) ?_ 3 _ rfl; (with_reducible repeat (first | refine blk_drewN ?_ _ | refine blk_drew ?_ | refine blk_alloc ?_ _)); refine blk_put (cs := #[.int .u8 t200, .int .u8 t201, .int .u8 0, .int .u8 0, .int .u8 0]) ?_ 2 _ rfl; (with_reducible repeat (first | refine blk_drewN ?_ _ | refine blk_drew ?_ | refine blk_alloc ?_ _)); refine blk_put (cs := #[.int .u8 t200, .int .u8 0, .int .u8 0, .int .u8 0, .int .u8 0]) ?_ 1 _ rfl; (with_reducible repeat (first | refine blk_drewN ?_ _ | refine blk_drew ?_ | refine blk_alloc ?_ _)); refine blk_put (cs := #[.int .u8 0, .int .u8 0, .int .u8 0, .int .u8 0, .int .u8 0]) ?_ 0 _ rfl; (with_reducible repeat (first | refine blk_drewN ?_ _ | refine blk_drew ?_ | refine blk_alloc ?_ _)); exact BK207.out) hb); have n4_ := Aside0.mk (below_step (bl HB) hb); clear HO194; clear HO198; clear BK191; clear BK207; clear HB; have HO194 := n0_; have HO198 := n1_; have BK191 := n2_; have BK207 := n3_; have HB := n4_; clear n0_ n1_ n2_ n3_ n4_; (try clear hb); (try clear hb2); (try clear hk); (try clear hi)) | ((with_reducible refine gate_dst (N := 12) rfl ?_); refine box_event ?hg (N := 12) ?hd (cs := #[.int .u8 0, .int .u8 0, .int .u8 0, .int .u8 0, .int .u8 0]) (t := 23) ?hr ?_; (case hd => rfl); (case hg => rfl); (case hr => first | (go_simp; done) | (go_simp; rfl)); intro gb215 hg w18 hbox hb; have n0_ := Aside0.mk (Kd.R_below (ra HO194) hb); have n1_ := Aside0.mk (Kd.R_below (ra HO198) hb); have n2_ := Aside0.mk (blk_below (g := gb191) (o := .cells #[.int .u8 a0_0, .int .u8 a0_1, .int .u8 a0_2, .int .u8 a0_3, .int .u8 a0_4] 23 (0, 0)) (bk BK191) hb); have n3_ := Aside0.mk (blk_below (g := gb207) (o := .cells #[.int .u8 t200, .int .u8 t201, .int .u8 t202, .int .u8 t203, .int .u8 t204] 23 (0, 0)) (bk BK207) hb); have n4_ := Aside0.mk (below_step (bl HB) hb); have n5_ := Aside0.mk (hbox); have n6_ := Aside0.mk ((by rw [hg]; exact (below_size (bl HB)) : w.heap.size ≤ gb215)); have n7_ := Aside0.mk ((by rw [hg]; exact (below_size (bl HB)) : w.heap.size ≤ gb215)); have n8_ := Aside0.mk ((by rw [hg]; exact Nat.ne_of_lt (blk_lt (g := gb191) (o := .cells #[.int .u8 a0_0, .int .u8 a0_1, .int .u8 a0_2, .int .u8 a0_3, .int .u8 a0_4] 23 (0, 0)) (bk BK191)) : gb191 ≠ gb215)); have n9_ := Aside0.mk ((by rw [hg]; exact Nat.ne_of_gt (blk_lt (g := gb191) (o := .cells #[.int .u8 a0_0, .int .u8 a0_1, .int .u8 a0_2, .int .u8 a0_3, .int .u8 a0_4] 23 (0, 0)) (bk BK191)) : gb215 ≠ gb191)); have n10_ := Aside0.mk ((by rw [hg]; exact Nat.ne_of_lt (blk_lt (g := gb207) (o := .cells #[.int .u8 t200, .int .u8 t201, .int .u8 t202, .int .u8 t203, .int .u8 t204] 23 (0, 0)) (bk BK207)) : gb207 ≠ gb215)); have n11_ := Aside0.mk ((by rw [hg]; exact Nat.ne_of_gt (blk_lt (g := gb207) (o := .cells #[.int .u8 t200, .int .u8 t201, .int .u8 t202, .int .u8 t203, .int .u8 t204] 23 (0, 0)) (bk BK207)) : gb215 ≠ gb207)); clear HO194; clear HO198; clear BK191; clear BK207; clear HB; have HO194 := n0_; have HO198 := n1_; have BK191 := n2_; have BK207 := n3_; have HB := n4_; have BK215 := n5_; have GW215 := n6_; have GE215 := n7_; have NB191_215 := n8_; have NB215_191 := n9_; have NB207_215 := n10_; have NB215_207 := n11_; clear n0_ n1_ n2_ n3_ n4_ n5_ n6_ n7_ n8_ n9_ n10_ n11_; clear hb hbox hg; have hnb19 := NB215_191.out; have hnc19 := NB191_215.out; have hnb20 := NB215_207.out; have hnc20 := NB207_215.out; have hcz21_0 : w18.cell? ⟨gb215, 0, none⟩ = some (.int .u8 0) := (blk_cell BK215.out 0).trans rfl; have hcz21_1 : w18.cell? ⟨gb215, 1, none⟩ = some (.int .u8 0) := (blk_cell BK215.out 1).trans rfl; have hcz21_2 : w18.cell? ⟨gb215, 2, none⟩ = some (.int .u8 0) := (blk_cell BK215.out 2).trans rfl; have hcz21_3 : w18.cell? ⟨gb215, 3, none⟩ = some (.int .u8 0) := (blk_cell BK215.out 3).trans rfl; have hcz21_4 : w18.cell? ⟨gb215, 4, none⟩ = some (.int .u8 0) := (blk_cell BK215.out 4).trans rfl; have hfz21_0 := blk_frozen BK215.out 0; have hfz21_1 := blk_frozen BK215.out 1; have hfz21_2 := blk_frozen BK215.out 2; have hfz21_3 := blk_frozen BK215.out 3; have hfz21_4 := blk_frozen BK215.out 4))
 (try simp only [Act.put, List.setIfInBounds_toArray, List.set_cons_zero, List.set_cons_succ])
 go_cut [63] (fun v63 wc => ∃ (kq : Nat) (x63_6 : Bool), v63 = .bool x63_6 ∧ Aside0 (interchangelaw2_WireHeadingsMatchSpec.j0 kq l1 t196 t199 x63_6 a0_0 a0_1 a0_2 a0_3 a0_4 = some r) ∧ Aside0 (kq ≤ k) ∧ Aside0 (Kd.R (Kd.int .u8) 5 wc w.heap.size (fun _ => True) v197 t196) ∧ Aside0 (wc.heap[gb191]? = some (.cells #[.int .u8 a0_0, .int .u8 a0_1, .int .u8 a0_2, .int .u8 a0_3, .int .u8 a0_4] 23 (0, 0))) ∧ Aside0 (wc.heap[gb207]? = some (.cells #[.int .u8 t200, .int .u8 t201, .int .u8 t202, .int .u8 t203, .int .u8 t204] 23 (0, 0))) ∧ Aside0 (wc.heap[gb215]? = some (.cells #[.int .u8 t208, .int .u8 t209, .int .u8 t210, .int .u8 t211, .int .u8 t212] 23 (0, 0))) ∧ Aside0 (Below w.heap.size w wc))
 case first =>
  have H := HC7.out
  clear HC7
  replace H := Option.bind_eq_some_iff.mp H
  obtain ⟨t216, A220, H⟩ := H
  replace H : (if t216 = true then (if t199 = t195 then (if (!(t208 == t200) || (!(t209 == t201) || (!(t210 == t202) || (!(t211 == t203) || (!(t212 == t204)))))) = true then (interchangelaw2_WireHeadingsMatchSpec.j0 k l1 t196 t199 true a0_0 a0_1 a0_2 a0_3 a0_4) else (if t213 = t205 then (interchangelaw2_WireHeadingsMatchSpec.j0 k l1 t196 t199 (t214 != t206) a0_0 a0_1 a0_2 a0_3 a0_4) else (interchangelaw2_WireHeadingsMatchSpec.j0 k l1 t196 t199 true a0_0 a0_1 a0_2 a0_3 a0_4))) else (interchangelaw2_WireHeadingsMatchSpec.j0 k l1 t196 t199 true a0_0 a0_1 a0_2 a0_3 a0_4)) else (interchangelaw2_WireHeadingsMatchSpec.j0 k l1 t196 t199 true a0_0 a0_1 a0_2 a0_3 a0_4)) = some r := H
  have A22 := Aside0.mk A220
  clear A220
  by_cases c23 : t216 = true
  ·subst c23
   have H1 : (if t199 = t195 then (if (!(t208 == t200) || (!(t209 == t201) || (!(t210 == t202) || (!(t211 == t203) || (!(t212 == t204)))))) = true then (interchangelaw2_WireHeadingsMatchSpec.j0 k l1 t196 t199 true a0_0 a0_1 a0_2 a0_3 a0_4) else (if t213 = t205 then (interchangelaw2_WireHeadingsMatchSpec.j0 k l1 t196 t199 (t214 != t206) a0_0 a0_1 a0_2 a0_3 a0_4) else (interchangelaw2_WireHeadingsMatchSpec.j0 k l1 t196 t199 true a0_0 a0_1 a0_2 a0_3 a0_4))) else (interchangelaw2_WireHeadingsMatchSpec.j0 k l1 t196 t199 true a0_0 a0_1 a0_2 a0_3 a0_4)) = some r := by rw [if_pos rfl] at H; exact H
   clear H
   have H := H1
   clear H1
   by_cases c24 : t199 = t195
   ·rw [if_pos c24] at H
    have c24b0 : (t199 == t195) = true := beq_iff_eq.mpr c24
    have c24b1 : (t199 != t195) = false := bne_eq_false_iff_eq.mpr c24
    clear c24
    (first | rw [c24b0] | (simp only [i64_w, i32_w]; rw [c24b0]) | skip)
    by_cases c25 : (!(t208 == t200) || (!(t209 == t201) || (!(t210 == t202) || (!(t211 == t203) || (!(t212 == t204)))))) = true
    ·rw [if_pos c25] at H
     have c25b0 : (!(t208 == t200) || (!(t209 == t201) || (!(t210 == t202) || (!(t211 == t203) || (!(t212 == t204)))))) = true := c25
     clear c25
     cases k with
     | zero => exact absurd H (by simp [interchangelaw2_WireHeadingsMatchSpec.j0])
     | succ kz_ => exact absurd ((Option.some.inj (show some false = some r from by simpa [interchangelaw2_WireHeadingsMatchSpec.j0] using H)).trans RT.out) Bool.false_ne_true
    ·rw [if_neg c25] at H
     have c25b0 : (!(t208 == t200) || (!(t209 == t201) || (!(t210 == t202) || (!(t211 == t203) || (!(t212 == t204)))))) = false := by simpa using c25
     clear c25
     by_cases c26 : t213 = t205
     ·rw [if_pos c26] at H
      have c26b0 : (t213 == t205) = true := beq_iff_eq.mpr c26
      have c26b1 : (t213 != t205) = false := bne_eq_false_iff_eq.mpr c26
      clear c26
      have H' := Aside0.mk H
      clear H
      obtain ⟨Ao27, co27, eo27⟩ := Kd.R_slice HO198.out
      subst eo27
      obtain ⟨Ao28, co28, eo28⟩ := Kd.R_slice HO194.out
      subst eo28
      go_wp2_with (first | ((with_reducible refine gate_callee (f := 17) rfl ?_); refine goesL_ (some 42) rfl rfl Tryd.func17 (by kernel_rfl) rfl #[.slice Ao27 t196.length co27, .slice Ao28 t192.length co28] rfl gs ?_; (with_reducible refine (bytes_Equal.calls _ _ t196 _ _ t192 true _ ?side1 ?side2 ?side3 ?side4 A22.out).mono ?_); (case side1 => refine (Kd.R_reads' (e := 5) (base := w.heap.size) (ok := fun k_ => (True ∧ some k_ ≠ (.slice Ao28 t192.length co28 : Value).ownBlock)) (n := t196.length) (c := co27) ?_).2.2; exact (by (with_reducible repeat (first | apply Kd.R_alloc | apply Kd.R_drewN | apply Kd.R_drew)); exact (Kd.R_mono (Kd.R_far (p := ⟨gb215, 4, none⟩) (Kd.R_far (p := ⟨gb215, 3, none⟩) (Kd.R_far (p := ⟨gb215, 2, none⟩) (Kd.R_far (p := ⟨gb215, 1, none⟩) (Kd.R_far (p := ⟨gb215, 0, none⟩) (Kd.R_types HO198.out BK215.out (by decide)) (fun _ hk => hk.2) (.int .u8 t208)) (fun _ hk => hk.2) (.int .u8 t209)) (fun _ hk => hk.2) (.int .u8 t210)) (fun _ hk => hk.2) (.int .u8 t211)) (fun _ hk => hk.2) (.int .u8 t212)) (fun _ h_ => h_.1)))); (case side2 => exact (Kd.R_reads' HO198.out).2.1); (case side3 => refine (Kd.R_reads' (e := 5) (base := w.heap.size) (ok := fun k_ => (True ∧ some k_ ≠ (.slice Ao27 t196.length co27 : Value).ownBlock)) (n := t192.length) (c := co28) ?_).2.2; exact (by (with_reducible repeat (first | apply Kd.R_alloc | apply Kd.R_drewN | apply Kd.R_drew)); exact (Kd.R_mono (Kd.R_far (p := ⟨gb215, 4, none⟩) (Kd.R_far (p := ⟨gb215, 3, none⟩) (Kd.R_far (p := ⟨gb215, 2, none⟩) (Kd.R_far (p := ⟨gb215, 1, none⟩) (Kd.R_far (p := ⟨gb215, 0, none⟩) (Kd.R_types HO194.out BK215.out (by decide)) (fun _ hk => hk.2) (.int .u8 t208)) (fun _ hk => hk.2) (.int .u8 t209)) (fun _ hk => hk.2) (.int .u8 t210)) (fun _ hk => hk.2) (.int .u8 t211)) (fun _ hk => hk.2) (.int .u8 t212)) (fun _ h_ => h_.1)))); (case side4 => exact (Kd.R_reads' HO194.out).2.1); rintro e w' ⟨rfl, ⟨nd, rfl⟩⟩; refine ⟨_, rfl, ?_⟩; have hnb29 := NB215_191.out; have hnc29 := NB191_215.out; have hnb30 := NB215_207.out; have hnc30 := NB207_215.out; have hcz31_0 : w18.cell? ⟨gb215, 0, none⟩ = some (.int .u8 0) := (blk_cell BK215.out 0).trans rfl; have hcz31_1 : w18.cell? ⟨gb215, 1, none⟩ = some (.int .u8 0) := (blk_cell BK215.out 1).trans rfl; have hcz31_2 : w18.cell? ⟨gb215, 2, none⟩ = some (.int .u8 0) := (blk_cell BK215.out 2).trans rfl; have hcz31_3 : w18.cell? ⟨gb215, 3, none⟩ = some (.int .u8 0) := (blk_cell BK215.out 3).trans rfl; have hcz31_4 : w18.cell? ⟨gb215, 4, none⟩ = some (.int .u8 0) := (blk_cell BK215.out 4).trans rfl; have hfz31_0 := blk_frozen BK215.out 0; have hfz31_1 := blk_frozen BK215.out 1; have hfz31_2 := blk_frozen BK215.out 2; have hfz31_3 := blk_frozen BK215.out 3; have hfz31_4 := blk_frozen BK215.out 4; have hnb32 := NB207_191.out; have hnc32 := NB191_207.out; have hcz33_0 : w18.cell? ⟨gb207, 0, none⟩ = some (.int .u8 t200) := (blk_cell BK207.out 0).trans rfl; have hcz33_1 : w18.cell? ⟨gb207, 1, none⟩ = some (.int .u8 t201) := (blk_cell BK207.out 1).trans rfl; have hcz33_2 : w18.cell? ⟨gb207, 2, none⟩ = some (.int .u8 t202) := (blk_cell BK207.out 2).trans rfl; have hcz33_3 : w18.cell? ⟨gb207, 3, none⟩ = some (.int .u8 t203) := (blk_cell BK207.out 3).trans rfl; have hcz33_4 : w18.cell? ⟨gb207, 4, none⟩ = some (.int .u8 t204) := (blk_cell BK207.out 4).trans rfl; have hfz33_0 := blk_frozen BK207.out 0; have hfz33_1 := blk_frozen BK207.out 1; have hfz33_2 := blk_frozen BK207.out 2; have hfz33_3 := blk_frozen BK207.out 3; have hfz33_4 := blk_frozen BK207.out 4))
      go_meet
      case rel => exact ⟨_, ((t214 != t206)), (by first | rfl | (simp; done) | (simp [*]; done)), H', ⟨by first | omega | exact Nat.le_refl _⟩, ⟨by (with_reducible repeat (first | apply Kd.R_alloc | apply Kd.R_drewN | apply Kd.R_drew)); exact Kd.R_mono (Kd.R_far (p := ⟨gb215, 4, none⟩) (Kd.R_far (p := ⟨gb215, 3, none⟩) (Kd.R_far (p := ⟨gb215, 2, none⟩) (Kd.R_far (p := ⟨gb215, 1, none⟩) (Kd.R_far (p := ⟨gb215, 0, none⟩) (Kd.R_types HO198.out BK215.out (by decide)) (fun _ hk => hk.2) (.int .u8 t208)) (fun _ hk => hk.2) (.int .u8 t209)) (fun _ hk => hk.2) (.int .u8 t210)) (fun _ hk => hk.2) (.int .u8 t211)) (fun _ hk => hk.2) (.int .u8 t212)) (fun _ hk => trivial)⟩, ⟨by (with_reducible repeat (first | refine blk_drewN ?_ _ | refine blk_drew ?_ | refine blk_alloc ?_ _)); refine blk_far ?_ NB191_215.out _; (with_reducible repeat (first | refine blk_drewN ?_ _ | refine blk_drew ?_ | refine blk_alloc ?_ _)); refine blk_far ?_ NB191_215.out _; (with_reducible repeat (first | refine blk_drewN ?_ _ | refine blk_drew ?_ | refine blk_alloc ?_ _)); refine blk_far ?_ NB191_215.out _; (with_reducible repeat (first | refine blk_drewN ?_ _ | refine blk_drew ?_ | refine blk_alloc ?_ _)); refine blk_far ?_ NB191_215.out _; (with_reducible repeat (first | refine blk_drewN ?_ _ | refine blk_drew ?_ | refine blk_alloc ?_ _)); refine blk_far ?_ NB191_215.out _; (with_reducible repeat (first | refine blk_drewN ?_ _ | refine blk_drew ?_ | refine blk_alloc ?_ _)); exact BK191.out⟩, ⟨by (with_reducible repeat (first | refine blk_drewN ?_ _ | refine blk_drew ?_ | refine blk_alloc ?_ _)); refine blk_far ?_ NB207_215.out _; (with_reducible repeat (first | refine blk_drewN ?_ _ | refine blk_drew ?_ | refine blk_alloc ?_ _)); refine blk_far ?_ NB207_215.out _; (with_reducible repeat (first | refine blk_drewN ?_ _ | refine blk_drew ?_ | refine blk_alloc ?_ _)); refine blk_far ?_ NB207_215.out _; (with_reducible repeat (first | refine blk_drewN ?_ _ | refine blk_drew ?_ | refine blk_alloc ?_ _)); refine blk_far ?_ NB207_215.out _; (with_reducible repeat (first | refine blk_drewN ?_ _ | refine blk_drew ?_ | refine blk_alloc ?_ _)); refine blk_far ?_ NB207_215.out _; (with_reducible repeat (first | refine blk_drewN ?_ _ | refine blk_drew ?_ | refine blk_alloc ?_ _)); exact BK207.out⟩, ⟨by (with_reducible repeat (first | refine blk_drewN ?_ _ | refine blk_drew ?_ | refine blk_alloc ?_ _)); refine blk_put (cs := #[.int .u8 t208, .int .u8 t209, .int .u8 t210, .int .u8 t211, .int .u8 0]) ?_ 4 _ rfl; (with_reducible repeat (first | refine blk_drewN ?_ _ | refine blk_drew ?_ | refine blk_alloc ?_ _)); refine blk_put (cs := #[.int .u8 t208, .int .u8 t209, .int .u8 t210, .int .u8 0, .int .u8 0]) ?_ 3 _ rfl; (with_reducible repeat (first | refine blk_drewN ?_ _ | refine blk_drew ?_ | refine blk_alloc ?_ _)); refine blk_put (cs := #[.int .u8 t208, .int .u8 t209, .int .u8 0, .int .u8 0, .int .u8 0]) ?_ 2 _ rfl; (with_reducible repeat (first | refine blk_drewN ?_ _ | refine blk_drew ?_ | refine blk_alloc ?_ _)); refine blk_put (cs := #[.int .u8 t208, .int .u8 0, .int .u8 0, .int .u8 0, .int .u8 0]) ?_ 1 _ rfl; (with_reducible repeat (first | refine blk_drewN ?_ _ | refine blk_drew ?_ | refine blk_alloc ?_ _)); refine blk_put (cs := #[.int .u8 0, .int .u8 0, .int .u8 0, .int .u8 0, .int .u8 0]) ?_ 0 _ rfl; (with_reducible repeat (first | refine blk_drewN ?_ _ | refine blk_drew ?_ | refine blk_alloc ?_ _)); exact BK215.out⟩, ⟨bl HB⟩⟩
     ·rw [if_neg c26] at H
      have c26b0 : (t213 == t205) = false := beq_eq_false_iff_ne.mpr c26
      have c26b1 : (t213 != t205) = true := bne_iff_ne.mpr c26
      cases k with
      | zero => exact absurd H (by simp [interchangelaw2_WireHeadingsMatchSpec.j0])
      | succ kz_ => exact absurd ((Option.some.inj (show some false = some r from by simpa [interchangelaw2_WireHeadingsMatchSpec.j0] using H)).trans RT.out) Bool.false_ne_true
   ·rw [if_neg c24] at H
    have c24b0 : (t199 == t195) = false := beq_eq_false_iff_ne.mpr c24
    have c24b1 : (t199 != t195) = true := bne_iff_ne.mpr c24
    (first | rw [c24b0] | (simp only [i64_w, i32_w]; rw [c24b0]) | skip)
    cases k with
    | zero => exact absurd H (by simp [interchangelaw2_WireHeadingsMatchSpec.j0])
    | succ kz_ => exact absurd ((Option.some.inj (show some false = some r from by simpa [interchangelaw2_WireHeadingsMatchSpec.j0] using H)).trans RT.out) Bool.false_ne_true
  ·replace c23 := Bool.eq_false_iff.mpr c23
   subst c23
   have H1 : (interchangelaw2_WireHeadingsMatchSpec.j0 k l1 t196 t199 true a0_0 a0_1 a0_2 a0_3 a0_4) = some r := by rw [if_neg (show ¬ (false = true) by decide)] at H; exact H
   clear H
   have H := H1
   clear H1
   cases k with
   | zero => exact absurd H (by simp [interchangelaw2_WireHeadingsMatchSpec.j0])
   | succ kz_ => exact absurd ((Option.some.inj (show some false = some r from by simpa [interchangelaw2_WireHeadingsMatchSpec.j0] using H)).trans RT.out) Bool.false_ne_true
 case rest =>
  clear HC7
  try clear c1
  try clear c2
  try clear p2
  try clear c3
  try clear c13
  try clear c14
  try clear c15
  try clear c16
  try clear c17
  try clear c19
  try clear c20
  try clear c23
  try clear c24
  try clear c24b0
  try clear c24b1
  try clear c25
  try clear c25b0
  try clear c26
  try clear c26b0
  try clear c26b1
  try clear c29
  try clear c30
  try clear c32
  try clear hcz11_0
  try clear hcz11_1
  try clear hcz11_2
  try clear hcz11_3
  try clear hcz11_4
  try clear hcz16_0
  try clear hcz16_1
  try clear hcz16_2
  try clear hcz16_3
  try clear hcz16_4
  try clear hcz21_0
  try clear hcz21_1
  try clear hcz21_2
  try clear hcz21_3
  try clear hcz21_4
  try clear hcz31_0
  try clear hcz31_1
  try clear hcz31_2
  try clear hcz31_3
  try clear hcz31_4
  try clear hcz33_0
  try clear hcz33_1
  try clear hcz33_2
  try clear hcz33_3
  try clear hcz33_4
  try clear hcz9_0
  try clear hcz9_1
  try clear hcz9_2
  try clear hcz9_3
  try clear hcz9_4
  try clear hfz11_0
  try clear hfz11_1
  try clear hfz11_2
  try clear hfz11_3
  try clear hfz11_4
  try clear hfz16_0
  try clear hfz16_1
  try clear hfz16_2
  try clear hfz16_3
  try clear hfz16_4
  try clear hfz21_0
  try clear hfz21_1
  try clear hfz21_2
  try clear hfz21_3
  try clear hfz21_4
  try clear hfz31_0
  try clear hfz31_1
  try clear hfz31_2
  try clear hfz31_3
  try clear hfz31_4
  try clear hfz33_0
  try clear hfz33_1
  try clear hfz33_2
  try clear hfz33_3
  try clear hfz33_4
  try clear hfz9_0
  try clear hfz9_1
  try clear hfz9_2
  try clear hfz9_3
  try clear hfz9_4
  obtain ⟨kq, x63_6, rfl, HA, HJ6, HO_7, BK191, BK207, BK215, HB⟩ := hcut
  cases kq with
  | zero => exact absurd HA.out (by simp [interchangelaw2_WireHeadingsMatchSpec.j0])
  | succ kj6 =>
   have H := HA.out
   clear HA
   simp only [interchangelaw2_WireHeadingsMatchSpec.j0] at H
   by_cases c34 : x63_6 = true
   ·subst c34
    have H1 : (some false) = some r := by rw [if_pos rfl] at H; exact H
    clear H
    have H := H1
    clear H1
    exact absurd ((Option.some.inj H).trans RT.out) Bool.false_ne_true
   ·replace c34 := Bool.eq_false_iff.mpr c34
    subst c34
    have H1 : (if t199 = 0 then ((bytes_Clone.f t196).bind fun t217 => (if t217.length + l1.length < 140737488355328 then ((wire_ReadHeading.f kj6 (t217 ++ l1)).bind fun bt223 => (if bt223.2.2.2.2.2.2 = 0 then (if (!(bt223.1 == a0_0) || (!(bt223.2.1 == a0_1) || (!(bt223.2.2.1 == a0_2) || (!(bt223.2.2.2.1 == a0_3) || (!(bt223.2.2.2.2.1 == a0_4)))))) = true then (some false) else ((interchangelaw2_awake.f kj6).bind fun t231 => (some t231))) else (some false))) else (none))) else ((interchangelaw2_awake.f kj6).bind fun t232 => (some t232))) = some r := by rw [if_neg (show ¬ (false = true) by decide)] at H; exact H
    clear H
    have H := H1
    clear H1
    by_cases c35 : t199 = 0
    ·rw [if_pos c35] at H
     have c35b0 : (t199 == 0) = true := beq_iff_eq.mpr c35
     have c35b1 : (t199 != 0) = false := bne_eq_false_iff_eq.mpr c35
     clear c35
     replace H := Option.bind_eq_some_iff.mp H
     obtain ⟨t217, A360, H⟩ := H
     replace H : (if t217.length + l1.length < 140737488355328 then ((wire_ReadHeading.f kj6 (t217 ++ l1)).bind fun bt223 => (if bt223.2.2.2.2.2.2 = 0 then (if (!(bt223.1 == a0_0) || (!(bt223.2.1 == a0_1) || (!(bt223.2.2.1 == a0_2) || (!(bt223.2.2.2.1 == a0_3) || (!(bt223.2.2.2.2.1 == a0_4)))))) = true then (some false) else ((interchangelaw2_awake.f kj6).bind fun t231 => (some t231))) else (some false))) else (none)) = some r := H
     have A36 := Aside0.mk A360
     clear A360
     by_cases c37 : t217.length + l1.length < 140737488355328
     ·rw [if_pos c37] at H
      have LMc37 := Aside0.mk c37
      clear c37
      obtain ⟨y220, hy220⟩ : ∃ y_ : List Int, y_ = (t217 ++ l1) := ⟨_, rfl⟩
      replace H : ((wire_ReadHeading.f kj6 y220).bind fun bt223 => (if bt223.2.2.2.2.2.2 = 0 then (if (!(bt223.1 == a0_0) || (!(bt223.2.1 == a0_1) || (!(bt223.2.2.1 == a0_2) || (!(bt223.2.2.2.1 == a0_3) || (!(bt223.2.2.2.2.1 == a0_4)))))) = true then (some false) else ((interchangelaw2_awake.f kj6).bind fun t231 => (some t231))) else (some false))) = some r := by first | (rw [hy220]; with_reducible exact H) | (have H2_ := (Option.bind_some _ _).symm.trans H; rw [hy220]; with_reducible exact H2_) | (have H2_ := (Option.bind_some _ _).symm.trans H; with_reducible exact H2_) | with_reducible exact H | (rw [hy220]; exact H) | exact H
      have Ny220 := Aside0.mk hy220
      clear hy220
      replace H := Option.bind_eq_some_iff.mp H
      obtain ⟨⟨t223, t224, t225, t226, t227, t228, t229⟩, A380, H⟩ := H
      replace H : (if t229 = 0 then (if (!(t223 == a0_0) || (!(t224 == a0_1) || (!(t225 == a0_2) || (!(t226 == a0_3) || (!(t227 == a0_4)))))) = true then (some false) else ((interchangelaw2_awake.f kj6).bind fun t231 => (some t231))) else (some false)) = some r := H
      have A38 := Aside0.mk A380
      clear A380
      by_cases c39 : t229 = 0
      ·rw [if_pos c39] at H
       have c39b0 : (t229 == 0) = true := beq_iff_eq.mpr c39
       have c39b1 : (t229 != 0) = false := bne_eq_false_iff_eq.mpr c39
       clear c39
       by_cases c40 : (!(t223 == a0_0) || (!(t224 == a0_1) || (!(t225 == a0_2) || (!(t226 == a0_3) || (!(t227 == a0_4)))))) = true
       ·rw [if_pos c40] at H
        have c40b0 : (!(t223 == a0_0) || (!(t224 == a0_1) || (!(t225 == a0_2) || (!(t226 == a0_3) || (!(t227 == a0_4)))))) = true := c40
        clear c40
        exact absurd ((Option.some.inj H).trans RT.out) Bool.false_ne_true
       ·rw [if_neg c40] at H
        have c40b0 : (!(t223 == a0_0) || (!(t224 == a0_1) || (!(t225 == a0_2) || (!(t226 == a0_3) || (!(t227 == a0_4)))))) = false := by simpa using c40
        clear c40
        replace H := Option.bind_eq_some_iff.mp H
        obtain ⟨t231, A410, H⟩ := H
        replace H : (some t231) = some r := H
        have A41 := Aside0.mk A410
        clear A410
        obtain rfl := Option.some.inj H
        obtain ⟨Ao42, co42, eo42⟩ := Kd.R_slice HO_7.out
        subst eo42
        go_wp2_with (first | ((with_reducible refine gate_callee (f := 18) rfl ?_); refine goesL_ (some 68) rfl rfl Tryd.func18 (by kernel_rfl) rfl #[.slice Ao42 t196.length co42] rfl gs ?_; (with_reducible refine (bytes_Clone.calls _ _ t196 t217 _ ?side1 ?side2 A36.out).mono ?_); (case side1 => repeat (first | exact (Kd.R_reads' HO_7.out).2.2 | (with_reducible refine Kd.C_alloc ?_ _) | (with_reducible refine Kd.C_drewN ?_ _) | (with_reducible refine Kd.C_drew ?_))); (case side2 => exact (Kd.R_reads' HO_7.out).2.1); rintro e w43 ⟨v218, rfl, ho0, hb⟩; refine ⟨_, rfl, ?_⟩; have n0_ := Aside0.mk (Kd.R_elder' (ra HO_7) (Kd.R_base ho0) hb); have n1_ := Aside0.mk (Kd.R_lower (Kd.R_new' ho0 (Kd.R_lt (ra HO_7))) (below_size (bl HB))); have n2_ := Aside0.mk (blk_below (g := gb191) (o := .cells #[.int .u8 a0_0, .int .u8 a0_1, .int .u8 a0_2, .int .u8 a0_3, .int .u8 a0_4] 23 (0, 0)) (bk BK191) hb); have n3_ := Aside0.mk (blk_below (g := gb207) (o := .cells #[.int .u8 t200, .int .u8 t201, .int .u8 t202, .int .u8 t203, .int .u8 t204] 23 (0, 0)) (bk BK207) hb); have n4_ := Aside0.mk (blk_below (g := gb215) (o := .cells #[.int .u8 t208, .int .u8 t209, .int .u8 t210, .int .u8 t211, .int .u8 t212] 23 (0, 0)) (bk BK215) hb); have n5_ := Aside0.mk (below_step (bl HB) hb); clear HO_7; clear BK191; clear BK207; clear BK215; clear HB; have HO_7 := n0_; have HO219 := n1_; have BK191 := n2_; have BK207 := n3_; have BK215 := n4_; have HB := n5_; clear n0_ n1_ n2_ n3_ n4_ n5_; (try clear hb); (try clear hb2); (try clear hk); (try clear hi); (try clear ho0)) | ((with_reducible refine gate_builtin (b := .append) (xs := #[.tmp 68, .tmp 69]) rfl ?_); at_builtin; refine Kd.R_append_rows (Kd.int .u8) (w0 := w) w.heap.size rfl (.tmp 68) (.tmp 69) 24 5 (.int .u8 0) 1 rfl Tryd.underlying24 info5 rfl (by decide) (by omega) v218 t217 l1 _ _ _ (fun k_ => some k_ ≠ (.slice Ao42 t196.length co42 : Value).ownBlock) (fun _ => False) rfl rfl ?aO ?aR (fun _ _ h => h) (fun _ h => h.elim) ?aF ?aB ?aS ?aL ?_; (case aR => exact kc HR1 HB); (case aB => exact (bl HB)); (case aF => exact (fun k_ hk => Kd.fresh' (Kd.R_lt (ra HO_7)) k_ hk)); (case aO => exact (by (with_reducible repeat (first | apply Kd.R_alloc | apply Kd.R_drewN | apply Kd.R_drew)); exact Kd.R_mono HO219.out (fun _ hk => hk.2))); (case aS => exact (below_size (bl HB))); (case aL => have := LMc37.out; omega); intro v221 w44 ho hb hg hat; rw [← Ny220.out] at ho; have n0_ := Aside0.mk (Kd.R_after (ok := (fun _ => True)) (ra HO_7) hg hat); have n1_ := Aside0.mk (blk_grown (g := gb191) (o := .cells #[.int .u8 a0_0, .int .u8 a0_1, .int .u8 a0_2, .int .u8 a0_3, .int .u8 a0_4] 23 (0, 0)) (bk BK191) hg (Kd.R_ne HO219.out BK191.out (by decide))); have n2_ := Aside0.mk (blk_grown (g := gb207) (o := .cells #[.int .u8 t200, .int .u8 t201, .int .u8 t202, .int .u8 t203, .int .u8 t204] 23 (0, 0)) (bk BK207) hg (Kd.R_ne HO219.out BK207.out (by decide))); have n3_ := Aside0.mk (blk_grown (g := gb215) (o := .cells #[.int .u8 t208, .int .u8 t209, .int .u8 t210, .int .u8 t211, .int .u8 t212] 23 (0, 0)) (bk BK215) hg (Kd.R_ne HO219.out BK215.out (by decide))); have n4_ := Aside0.mk (hb); have n5_ := Aside0.mk (ho); clear HO_7; clear BK191; clear BK207; clear BK215; clear HB; clear HO219; have HO_7 := n0_; have BK191 := n1_; have BK207 := n2_; have BK215 := n3_; have HB := n4_; have HO222 := n5_; clear n0_ n1_ n2_ n3_ n4_ n5_; clear ho hb hg hat; obtain ⟨Ao45, co45, eo45⟩ := Kd.R_slice HO222.out; subst eo45) | ((with_reducible refine gate_callee (f := 16) rfl ?_); refine goesL_ (some 71) rfl rfl Tryd.func16 (by kernel_rfl) rfl #[.slice Ao45 y220.length co45] rfl gs ?_; (with_reducible refine (wire_ReadHeading.calls kj6 _ _ y220 t223 t224 t225 t226 t227 t228 t229 _ ?side1 ?side2 A38.out).mono ?_); (case side1 => repeat (first | exact (Kd.R_reads' HO222.out).2.2 | (with_reducible refine Kd.C_alloc ?_ _) | (with_reducible refine Kd.C_drewN ?_ _) | (with_reducible refine Kd.C_drew ?_))); (case side2 => exact (Kd.R_reads' HO222.out).2.1); rintro e w46 ⟨rfl, hb⟩; refine ⟨_, rfl, ?_⟩; have n0_ := Aside0.mk (Kd.R_below (ra HO_7) hb); have n1_ := Aside0.mk (Kd.R_below (ra HO222) hb); have n2_ := Aside0.mk (blk_below (g := gb191) (o := .cells #[.int .u8 a0_0, .int .u8 a0_1, .int .u8 a0_2, .int .u8 a0_3, .int .u8 a0_4] 23 (0, 0)) (bk BK191) hb); have n3_ := Aside0.mk (blk_below (g := gb207) (o := .cells #[.int .u8 t200, .int .u8 t201, .int .u8 t202, .int .u8 t203, .int .u8 t204] 23 (0, 0)) (bk BK207) hb); have n4_ := Aside0.mk (blk_below (g := gb215) (o := .cells #[.int .u8 t208, .int .u8 t209, .int .u8 t210, .int .u8 t211, .int .u8 t212] 23 (0, 0)) (bk BK215) hb); have n5_ := Aside0.mk (below_step (bl HB) hb); clear HO_7; clear HO222; clear BK191; clear BK207; clear BK215; clear HB; have HO_7 := n0_; have HO222 := n1_; have BK191 := n2_; have BK207 := n3_; have BK215 := n4_; have HB := n5_; clear n0_ n1_ n2_ n3_ n4_ n5_; (try clear hb); (try clear hb2); (try clear hk); (try clear hi)) | ((with_reducible refine gate_dst (N := 15) rfl ?_); refine box_event ?hg (N := 15) ?hd (cs := #[.int .u8 0, .int .u8 0, .int .u8 0, .int .u8 0, .int .u8 0]) (t := 23) ?hr ?_; (case hd => rfl); (case hg => rfl); (case hr => first | (go_simp; done) | (go_simp; rfl)); intro gb230 hg w47 hbox hb; have n0_ := Aside0.mk (Kd.R_below (ra HO_7) hb); have n1_ := Aside0.mk (Kd.R_below (ra HO222) hb); have n2_ := Aside0.mk (blk_below (g := gb191) (o := .cells #[.int .u8 a0_0, .int .u8 a0_1, .int .u8 a0_2, .int .u8 a0_3, .int .u8 a0_4] 23 (0, 0)) (bk BK191) hb); have n3_ := Aside0.mk (blk_below (g := gb207) (o := .cells #[.int .u8 t200, .int .u8 t201, .int .u8 t202, .int .u8 t203, .int .u8 t204] 23 (0, 0)) (bk BK207) hb); have n4_ := Aside0.mk (blk_below (g := gb215) (o := .cells #[.int .u8 t208, .int .u8 t209, .int .u8 t210, .int .u8 t211, .int .u8 t212] 23 (0, 0)) (bk BK215) hb); have n5_ := Aside0.mk (below_step (bl HB) hb); have n6_ := Aside0.mk (hbox); have n7_ := Aside0.mk ((by rw [hg]; exact (below_size (bl HB)) : w.heap.size ≤ gb230)); have n8_ := Aside0.mk ((by rw [hg]; exact (below_size (bl HB)) : w.heap.size ≤ gb230)); have n9_ := Aside0.mk ((by rw [hg]; exact Nat.ne_of_lt (blk_lt (g := gb191) (o := .cells #[.int .u8 a0_0, .int .u8 a0_1, .int .u8 a0_2, .int .u8 a0_3, .int .u8 a0_4] 23 (0, 0)) (bk BK191)) : gb191 ≠ gb230)); have n10_ := Aside0.mk ((by rw [hg]; exact Nat.ne_of_gt (blk_lt (g := gb191) (o := .cells #[.int .u8 a0_0, .int .u8 a0_1, .int .u8 a0_2, .int .u8 a0_3, .int .u8 a0_4] 23 (0, 0)) (bk BK191)) : gb230 ≠ gb191)); have n11_ := Aside0.mk ((by rw [hg]; exact Nat.ne_of_lt (blk_lt (g := gb207) (o := .cells #[.int .u8 t200, .int .u8 t201, .int .u8 t202, .int .u8 t203, .int .u8 t204] 23 (0, 0)) (bk BK207)) : gb207 ≠ gb230)); have n12_ := Aside0.mk ((by rw [hg]; exact Nat.ne_of_gt (blk_lt (g := gb207) (o := .cells #[.int .u8 t200, .int .u8 t201, .int .u8 t202, .int .u8 t203, .int .u8 t204] 23 (0, 0)) (bk BK207)) : gb230 ≠ gb207)); have n13_ := Aside0.mk ((by rw [hg]; exact Nat.ne_of_lt (blk_lt (g := gb215) (o := .cells #[.int .u8 t208, .int .u8 t209, .int .u8 t210, .int .u8 t211, .int .u8 t212] 23 (0, 0)) (bk BK215)) : gb215 ≠ gb230)); have n14_ := Aside0.mk ((by rw [hg]; exact Nat.ne_of_gt (blk_lt (g := gb215) (o := .cells #[.int .u8 t208, .int .u8 t209, .int .u8 t210, .int .u8 t211, .int .u8 t212] 23 (0, 0)) (bk BK215)) : gb230 ≠ gb215)); clear HO_7; clear HO222; clear BK191; clear BK207; clear BK215; clear HB; have HO_7 := n0_; have HO222 := n1_; have BK191 := n2_; have BK207 := n3_; have BK215 := n4_; have HB := n5_; have BK230 := n6_; have GW230 := n7_; have GE230 := n8_; have NB191_230 := n9_; have NB230_191 := n10_; have NB207_230 := n11_; have NB230_207 := n12_; have NB215_230 := n13_; have NB230_215 := n14_; clear n0_ n1_ n2_ n3_ n4_ n5_ n6_ n7_ n8_ n9_ n10_ n11_ n12_ n13_ n14_; clear hb hbox hg; have hnb48 := NB230_191.out; have hnc48 := NB191_230.out; have hnb49 := NB230_207.out; have hnc49 := NB207_230.out; have hnb50 := NB230_215.out; have hnc50 := NB215_230.out; have hcz51_0 : w47.cell? ⟨gb230, 0, none⟩ = some (.int .u8 0) := (blk_cell BK230.out 0).trans rfl; have hcz51_1 : w47.cell? ⟨gb230, 1, none⟩ = some (.int .u8 0) := (blk_cell BK230.out 1).trans rfl; have hcz51_2 : w47.cell? ⟨gb230, 2, none⟩ = some (.int .u8 0) := (blk_cell BK230.out 2).trans rfl; have hcz51_3 : w47.cell? ⟨gb230, 3, none⟩ = some (.int .u8 0) := (blk_cell BK230.out 3).trans rfl; have hcz51_4 : w47.cell? ⟨gb230, 4, none⟩ = some (.int .u8 0) := (blk_cell BK230.out 4).trans rfl; have hfz51_0 := blk_frozen BK230.out 0; have hfz51_1 := blk_frozen BK230.out 1; have hfz51_2 := blk_frozen BK230.out 2; have hfz51_3 := blk_frozen BK230.out 3; have hfz51_4 := blk_frozen BK230.out 4; have hnb52 := NB191_207.out; have hnc52 := NB207_191.out; have hnb53 := NB191_215.out; have hnc53 := NB215_191.out; have hcz54_0 : w47.cell? ⟨gb191, 0, none⟩ = some (.int .u8 a0_0) := (blk_cell BK191.out 0).trans rfl; have hcz54_1 : w47.cell? ⟨gb191, 1, none⟩ = some (.int .u8 a0_1) := (blk_cell BK191.out 1).trans rfl; have hcz54_2 : w47.cell? ⟨gb191, 2, none⟩ = some (.int .u8 a0_2) := (blk_cell BK191.out 2).trans rfl; have hcz54_3 : w47.cell? ⟨gb191, 3, none⟩ = some (.int .u8 a0_3) := (blk_cell BK191.out 3).trans rfl; have hcz54_4 : w47.cell? ⟨gb191, 4, none⟩ = some (.int .u8 a0_4) := (blk_cell BK191.out 4).trans rfl; have hfz54_0 := blk_frozen BK191.out 0; have hfz54_1 := blk_frozen BK191.out 1; have hfz54_2 := blk_frozen BK191.out 2; have hfz54_3 := blk_frozen BK191.out 3; have hfz54_4 := blk_frozen BK191.out 4) | ((with_reducible refine gate_callee (f := 19) rfl ?_); refine goesL_ (some 82) rfl rfl Tryd.func19 (by kernel_rfl) rfl #[] rfl gs ?_; (with_reducible refine (interchangelaw2_awake.calls kj6  t231 _ A41.out).mono ?_); rintro e w55 ⟨rfl, hb⟩; refine ⟨_, rfl, ?_⟩; have n0_ := Aside0.mk (Kd.R_below (by (with_reducible repeat (first | apply Kd.R_alloc | apply Kd.R_drewN | apply Kd.R_drew)); exact (Kd.R_mono (Kd.R_far (p := ⟨gb230, 4, none⟩) (Kd.R_far (p := ⟨gb230, 3, none⟩) (Kd.R_far (p := ⟨gb230, 2, none⟩) (Kd.R_far (p := ⟨gb230, 1, none⟩) (Kd.R_far (p := ⟨gb230, 0, none⟩) (Kd.R_types HO_7.out BK230.out (by decide)) (fun _ hk => hk.2) (.int .u8 t223)) (fun _ hk => hk.2) (.int .u8 t224)) (fun _ hk => hk.2) (.int .u8 t225)) (fun _ hk => hk.2) (.int .u8 t226)) (fun _ hk => hk.2) (.int .u8 t227)) (fun _ h_ => h_.1))) hb); have n1_ := Aside0.mk (Kd.R_below (by (with_reducible repeat (first | apply Kd.R_alloc | apply Kd.R_drewN | apply Kd.R_drew)); exact (Kd.R_mono (Kd.R_far (p := ⟨gb230, 4, none⟩) (Kd.R_far (p := ⟨gb230, 3, none⟩) (Kd.R_far (p := ⟨gb230, 2, none⟩) (Kd.R_far (p := ⟨gb230, 1, none⟩) (Kd.R_far (p := ⟨gb230, 0, none⟩) (Kd.R_types HO222.out BK230.out (by decide)) (fun _ hk => hk.2) (.int .u8 t223)) (fun _ hk => hk.2) (.int .u8 t224)) (fun _ hk => hk.2) (.int .u8 t225)) (fun _ hk => hk.2) (.int .u8 t226)) (fun _ hk => hk.2) (.int .u8 t227)) (fun _ h_ => h_.1))) hb); have n2_ := Aside0.mk (blk_below (g := gb191) (o := .cells #[.int .u8 a0_0, .int .u8 a0_1, .int .u8 a0_2, .int .u8 a0_3, .int .u8 a0_4] 23 (0, 0)) (by (with_reducible repeat (first | refine blk_drewN ?_ _ | refine blk_drew ?_ | refine blk_alloc ?_ _)); refine blk_far ?_ NB191_230.out _; (with_reducible repeat (first | refine blk_drewN ?_ _ | refine blk_drew ?_ | refine blk_alloc ?_ _)); refine blk_far ?_ NB191_230.out _; (with_reducible repeat (first | refine blk_drewN ?_ _ | refine blk_drew ?_ | refine blk_alloc ?_ _)); refine blk_far ?_ NB191_230.out _; (with_reducible repeat (first | refine blk_drewN ?_ _ | refine blk_drew ?_ | refine blk_alloc ?_ _)); refine blk_far ?_ NB191_230.out _; (with_reducible repeat (first | refine blk_drewN ?_ _ | refine blk_drew ?_ | refine blk_alloc ?_ _)); refine blk_far ?_ NB191_230.out _; (with_reducible repeat (first | refine blk_drewN ?_ _ | refine blk_drew ?_ | refine blk_alloc ?_ _)); exact BK191.out) hb); have n3_ := Aside0.mk (blk_below (g := gb207) (o := .cells #[.int .u8 t200, .int .u8 t201, .int .u8 t202, .int .u8 t203, .int .u8 t204] 23 (0, 0)) (by (with_reducible repeat (first | refine blk_drewN ?_ _ | refine blk_drew ?_ | refine blk_alloc ?_ _)); refine blk_far ?_ NB207_230.out _; (with_reducible repeat (first | refine blk_drewN ?_ _ | refine blk_drew ?_ | refine blk_alloc ?_ _)); refine blk_far ?_ NB207_230.out _; (with_reducible repeat (first | refine blk_drewN ?_ _ | refine blk_drew ?_ | refine blk_alloc ?_ _)); refine blk_far ?_ NB207_230.out _; (with_reducible repeat (first | refine blk_drewN ?_ _ | refine blk_drew ?_ | refine blk_alloc ?_ _)); refine blk_far ?_ NB207_230.out _; (with_reducible repeat (first | refine blk_drewN ?_ _ | refine blk_drew ?_ | refine blk_alloc ?_ _)); refine blk_far ?_ NB207_230.out _; (with_reducible repeat (first | refine blk_drewN ?_ _ | refine blk_drew ?_ | refine blk_alloc ?_ _)); exact BK207.out) hb); have n4_ := Aside0.mk (blk_below (g := gb215) (o := .cells #[.int .u8 t208, .int .u8 t209, .int .u8 t210, .int .u8 t211, .int .u8 t212] 23 (0, 0)) (by (with_reducible repeat (first | refine blk_drewN ?_ _ | refine blk_drew ?_ | refine blk_alloc ?_ _)); refine blk_far ?_ NB215_230.out _; (with_reducible repeat (first | refine blk_drewN ?_ _ | refine blk_drew ?_ | refine blk_alloc ?_ _)); refine blk_far ?_ NB215_230.out _; (with_reducible repeat (first | refine blk_drewN ?_ _ | refine blk_drew ?_ | refine blk_alloc ?_ _)); refine blk_far ?_ NB215_230.out _; (with_reducible repeat (first | refine blk_drewN ?_ _ | refine blk_drew ?_ | refine blk_alloc ?_ _)); refine blk_far ?_ NB215_230.out _; (with_reducible repeat (first | refine blk_drewN ?_ _ | refine blk_drew ?_ | refine blk_alloc ?_ _)); refine blk_far ?_ NB215_230.out _; (with_reducible repeat (first | refine blk_drewN ?_ _ | refine blk_drew ?_ | refine blk_alloc ?_ _)); exact BK215.out) hb); have n5_ := Aside0.mk (blk_below (g := gb230) (o := .cells #[.int .u8 t223, .int .u8 t224, .int .u8 t225, .int .u8 t226, .int .u8 t227] 23 (0, 0)) (by (with_reducible repeat (first | refine blk_drewN ?_ _ | refine blk_drew ?_ | refine blk_alloc ?_ _)); refine blk_put (cs := #[.int .u8 t223, .int .u8 t224, .int .u8 t225, .int .u8 t226, .int .u8 0]) ?_ 4 _ rfl; (with_reducible repeat (first | refine blk_drewN ?_ _ | refine blk_drew ?_ | refine blk_alloc ?_ _)); refine blk_put (cs := #[.int .u8 t223, .int .u8 t224, .int .u8 t225, .int .u8 0, .int .u8 0]) ?_ 3 _ rfl; (with_reducible repeat (first | refine blk_drewN ?_ _ | refine blk_drew ?_ | refine blk_alloc ?_ _)); refine blk_put (cs := #[.int .u8 t223, .int .u8 t224, .int .u8 0, .int .u8 0, .int .u8 0]) ?_ 2 _ rfl; (with_reducible repeat (first | refine blk_drewN ?_ _ | refine blk_drew ?_ | refine blk_alloc ?_ _)); refine blk_put (cs := #[.int .u8 t223, .int .u8 0, .int .u8 0, .int .u8 0, .int .u8 0]) ?_ 1 _ rfl; (with_reducible repeat (first | refine blk_drewN ?_ _ | refine blk_drew ?_ | refine blk_alloc ?_ _)); refine blk_put (cs := #[.int .u8 0, .int .u8 0, .int .u8 0, .int .u8 0, .int .u8 0]) ?_ 0 _ rfl; (with_reducible repeat (first | refine blk_drewN ?_ _ | refine blk_drew ?_ | refine blk_alloc ?_ _)); exact BK230.out) hb); have n6_ := Aside0.mk (below_step (bl HB) hb); clear HO_7; clear HO222; clear BK191; clear BK207; clear BK215; clear BK230; clear HB; have HO_7 := n0_; have HO222 := n1_; have BK191 := n2_; have BK207 := n3_; have BK215 := n4_; have BK230 := n5_; have HB := n6_; clear n0_ n1_ n2_ n3_ n4_ n5_ n6_; (try clear hb); (try clear hb2); (try clear hk); (try clear hi)))
        go_ret
        exact ⟨er, bl HB⟩
      ·rw [if_neg c39] at H
       have c39b0 : (t229 == 0) = false := beq_eq_false_iff_ne.mpr c39
       have c39b1 : (t229 != 0) = true := bne_iff_ne.mpr c39
       exact absurd ((Option.some.inj H).trans RT.out) Bool.false_ne_true
     ·rw [if_neg c37] at H
      exact absurd H (by simp)
    ·rw [if_neg c35] at H
     have c35b0 : (t199 == 0) = false := beq_eq_false_iff_ne.mpr c35
     have c35b1 : (t199 != 0) = true := bne_iff_ne.mpr c35
     replace H := Option.bind_eq_some_iff.mp H
     obtain ⟨t232, A560, H⟩ := H
     replace H : (some t232) = some r := H
     have A56 := Aside0.mk A560
     clear A560
     obtain rfl := Option.some.inj H
     go_wp2_with (first | ((with_reducible refine gate_callee (f := 19) rfl ?_); refine goesL_ (some 82) rfl rfl Tryd.func19 (by kernel_rfl) rfl #[] rfl gs ?_; (with_reducible refine (interchangelaw2_awake.calls kj6  t232 _ A56.out).mono ?_); rintro e w57 ⟨rfl, hb⟩; refine ⟨_, rfl, ?_⟩; have n0_ := Aside0.mk (Kd.R_below (ra HO_7) hb); have n1_ := Aside0.mk (blk_below (g := gb191) (o := .cells #[.int .u8 a0_0, .int .u8 a0_1, .int .u8 a0_2, .int .u8 a0_3, .int .u8 a0_4] 23 (0, 0)) (bk BK191) hb); have n2_ := Aside0.mk (blk_below (g := gb207) (o := .cells #[.int .u8 t200, .int .u8 t201, .int .u8 t202, .int .u8 t203, .int .u8 t204] 23 (0, 0)) (bk BK207) hb); have n3_ := Aside0.mk (blk_below (g := gb215) (o := .cells #[.int .u8 t208, .int .u8 t209, .int .u8 t210, .int .u8 t211, .int .u8 t212] 23 (0, 0)) (bk BK215) hb); have n4_ := Aside0.mk (below_step (bl HB) hb); clear HO_7; clear BK191; clear BK207; clear BK215; clear HB; have HO_7 := n0_; have BK191 := n1_; have BK207 := n2_; have BK215 := n3_; have HB := n4_; clear n0_ n1_ n2_ n3_ n4_; (try clear hb); (try clear hb2); (try clear hk); (try clear hi)))
     go_ret
     exact ⟨er, bl HB⟩

end Go.Proofs.YtgafgpnbignfdaaDoor.PWireHeadingsMatchSpec
