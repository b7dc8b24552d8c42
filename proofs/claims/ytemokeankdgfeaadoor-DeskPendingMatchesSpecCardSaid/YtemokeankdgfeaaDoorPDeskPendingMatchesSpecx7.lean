-- Printed for this claim by px.py (this repo's wip/tools) over the kit's print; not the kit's own print.
import Derived.Test.YtemokeankdgfeaaDoorPDeskPendingMatchesSpecx0
import Derived.Test.YtemokeankdgfeaaDoorPDeskPendingMatchesSpecx1
import Derived.Test.YtemokeankdgfeaaDoorPDeskPendingMatchesSpecx4
import Derived.Test.YtemokeankdgfeaaDoorPDeskPendingMatchesSpecx5
import Derived.Test.YtemokeankdgfeaaDoorPDeskPendingMatchesSpecx6
namespace Go.Proofs.YtemokeankdgfeaaDoor.PDeskPendingMatchesSpec
open Go.Proofs.YtemokeankdgfeaaDoor.Sq
open Go.Proofs.YtemokeankdgfeaaDoor.Mp
open Go.RowKit Go.Proofs.YtemokeankdgfeaaDoorW.PrintWords Go.Proofs.YtemokeankdgfeaaDoorW.PrintLast Go.Proofs.YtemokeankdgfeaaDoorW.PrintMore
attribute [local go_sem] max2_int min2_int max_two min_two max_three min_three max_four min_four   -- for this text's walks alone
set_option linter.unusedVariables false
set_option linter.unusedSimpArgs false

/-! ### desk_PendingAt: function 19 -/
def desk_PendingAt.l0 : Nat → List (S42) → Int → List Int → List (S34) → Int → Int → Option (List Int × Int)
 | 0, _, _, _, _, _, _ => none
 | k + 1, x1, x3, x13, x35, x36, x37 => if x37 < x36 then (if 0 ≤ x37 then (if x37 < (x35.length : Int) then (if x37 < (x1.length : Int) then (if ((rd_T42 x1 x37).f1) ≤ x3 then (if (mx ((rd_T34 x35 x37).f1) ((rd_T34 x35 x37).f2)) > x3 then (if x13.length < 17592186044416 then (desk_PendingAt.l0 k x1 x3 (x13 ++ [x37]) x35 x36 (wrap64 (x37 + 1))) else (none)) else (desk_PendingAt.l0 k x1 x3 x13 x35 x36 (wrap64 (x37 + 1)))) else (desk_PendingAt.l0 k x1 x3 x13 x35 x36 (wrap64 (x37 + 1)))) else (none)) else (none)) else (none)) else (some (x13, 0))
def desk_PendingAt.f (k : Nat) (a0_0 : Int) (a0_1 : Int) (a0_2 : Int) (a0_3 : Int) (a0_4 : Bool) (l1 : List (S42)) (l2 : List (S44)) (a3 : Int) : Option (List Int × Int) := (desk_boxFault.f k a0_0 a0_1 a0_2 a0_3 a0_4 l1 l2).bind fun t236 => (if t236 = 0 then ((kit_Outside.f a3 0 2000000000000000).bind fun t237 => (if t237 = true then (some (([] : List Int), 1)) else ((desk_outbox.f k a0_0 a0_1 a0_2 a0_3 a0_4 l1 l2).bind fun bt238 => (if bt238.2 = 0 then (desk_PendingAt.l0 k l1 a3 ([] : List Int) bt238.1 (bt238.1.length : Int) 0) else (some (([] : List Int), bt238.2)))))) else (some (([] : List Int), t236)))
theorem desk_PendingAt.mono_l : ∀ k, (∀ y0 y1 y2 y3 y4 y5, LeO (desk_PendingAt.l0 k y0 y1 y2 y3 y4 y5) (desk_PendingAt.l0 (k + 1) y0 y1 y2 y3 y4 y5))
 | 0 => fun _ _ _ _ _ _ r h => by simp [desk_PendingAt.l0] at h
 | k + 1 => by
  have ih0 := desk_PendingAt.mono_l k
  ·intro y0 y1 y2 y3 y4 y5
   unfold desk_PendingAt.l0
   repeat' first
   | (with_reducible exact ih0 _ _ _ _ _ _)
   | (with_reducible exact desk_boxFault.mono _ _ _ _ _ _ _ _)
   | (with_reducible exact desk_outbox.mono _ _ _ _ _ _ _ _)
   | (with_reducible exact LeO.refl _)
   | (with_reducible exact LeO.none _)
   | (with_reducible refine LeO.ite ?_ ?_)
   | (with_reducible refine LeO.bind ?_ (fun _ => ?_))
   | exact ih0 _ _ _ _ _ _
   | exact desk_boxFault.mono _ _ _ _ _ _ _ _
   | exact desk_outbox.mono _ _ _ _ _ _ _ _
   | exact LeO.none _
   | refine LeO.ite ?_ ?_
   | refine LeO.bind ?_ (fun _ => ?_)
theorem desk_PendingAt.mono : ∀ a0 a1 a2 a3 a4 a5 a6 a7 k, LeO (desk_PendingAt.f k a0 a1 a2 a3 a4 a5 a6 a7) (desk_PendingAt.f (k + 1) a0 a1 a2 a3 a4 a5 a6 a7) := by
 intro a0 a1 a2 a3 a4 a5 a6 a7 k
 have ih0 := desk_PendingAt.mono_l k
 unfold desk_PendingAt.f
 repeat' first
   | (with_reducible exact ih0 _ _ _ _ _ _)
   | (with_reducible exact desk_boxFault.mono _ _ _ _ _ _ _ _)
   | (with_reducible exact desk_outbox.mono _ _ _ _ _ _ _ _)
   | (with_reducible exact LeO.refl _)
   | (with_reducible exact LeO.none _)
   | (with_reducible refine LeO.ite ?_ ?_)
   | (with_reducible refine LeO.bind ?_ (fun _ => ?_))
   | exact ih0 _ _ _ _ _ _
   | exact desk_boxFault.mono _ _ _ _ _ _ _ _
   | exact desk_outbox.mono _ _ _ _ _ _ _ _
   | exact LeO.none _
   | refine LeO.ite ?_ ?_
   | refine LeO.bind ?_ (fun _ => ?_)
set_option maxHeartbeats 8000000 in
set_option maxRecDepth 100000 in
theorem desk_PendingAt.calls (k : Nat) (a0_0 : Int) (a0_1 : Int) (a0_2 : Int) (a0_3 : Int) (a0_4 : Bool) (A1 : Option Addr) (c1 : Nat) (l1 : List (S42)) (A2 : Option Addr) (c2 : Nat) (l2 : List (S44)) (a3 : Int) (r1 : List Int) (r2 : Int) (w : World) (hr1 : Kd.C k42 w A1 l1.length l1) (hc1 : l1.length ≤ c1) (hr2 : Kd.C k44 w A2 l2.length l2) (hc2 : l2.length ≤ c2) (h : desk_PendingAt.f k a0_0 a0_1 a0_2 a0_3 a0_4 l1 l2 a3 = some (r1, r2)) :
  Calls Tryd.prog 19 #[.agg #[.int .i64 a0_0, .int .i64 a0_1, .int .i64 a0_2, .int .i64 a0_3, .bool a0_4], .slice A1 l1.length c1, .slice A2 l2.length c2, .int .i64 a3] w fun e w' => ∃ v0_ : Value, e = .returned (.tuple #[v0_, .int .i64 r2]) ∧ Kd.R (Kd.int .i64) 3 w' w.heap.size (fun _ => True) v0_ r1 ∧ Below w.heap.size w w' := by
 have hu23 := Tryd.underlying23
 have hu34 := Tryd.underlying34
 have HR1 := Aside0.mk hr1
 have HC1 := Aside0.mk hc1
 clear hr1 hc1
 have HR2 := Aside0.mk hr2
 have HC2 := Aside0.mk hc2
 clear hr2 hc2
 have HB := Aside0.mk (Below.refl w.heap.size w)
 have H : ((desk_boxFault.f k a0_0 a0_1 a0_2 a0_3 a0_4 l1 l2).bind fun t236 => (if t236 = 0 then ((kit_Outside.f a3 0 2000000000000000).bind fun t237 => (if t237 = true then (some (([] : List Int), 1)) else ((desk_outbox.f k a0_0 a0_1 a0_2 a0_3 a0_4 l1 l2).bind fun bt238 => (if bt238.2 = 0 then (desk_PendingAt.l0 k l1 a3 ([] : List Int) bt238.1 (bt238.1.length : Int) 0) else (some (([] : List Int), bt238.2)))))) else (some (([] : List Int), t236)))) = some (r1, r2) := h
 clear h
 replace H := Option.bind_eq_some_iff.mp H
 obtain ⟨t236, A50, H⟩ := H
 replace H : (if t236 = 0 then ((kit_Outside.f a3 0 2000000000000000).bind fun t237 => (if t237 = true then (some (([] : List Int), 1)) else ((desk_outbox.f k a0_0 a0_1 a0_2 a0_3 a0_4 l1 l2).bind fun bt238 => (if bt238.2 = 0 then (desk_PendingAt.l0 k l1 a3 ([] : List Int) bt238.1 (bt238.1.length : Int) 0) else (some (([] : List Int), bt238.2)))))) else (some (([] : List Int), t236))) = some (r1, r2) := H
 have A5 := Aside0.mk A50
 clear A50
 by_cases c6 : t236 = 0
 ·rw [if_pos c6] at H
  have c6b0 : (t236 == 0) = true := beq_iff_eq.mpr c6
  have c6b1 : (t236 != 0) = false := bne_eq_false_iff_eq.mpr c6
  clear c6
  replace H := Option.bind_eq_some_iff.mp H
  obtain ⟨t237, A70, H⟩ := H
  replace H : (if t237 = true then (some (([] : List Int), 1)) else ((desk_outbox.f k a0_0 a0_1 a0_2 a0_3 a0_4 l1 l2).bind fun bt238 => (if bt238.2 = 0 then (desk_PendingAt.l0 k l1 a3 ([] : List Int) bt238.1 (bt238.1.length : Int) 0) else (some (([] : List Int), bt238.2))))) = some (r1, r2) := H
  have A7 := Aside0.mk A70
  clear A70
  by_cases c8 : t237 = true
  ·subst c8
   have H1 : (some (([] : List Int), 1)) = some (r1, r2) := by rw [if_pos rfl] at H; exact H
   clear H
   have H := H1
   clear H1
   simp only [Option.some.injEq, Prod.mk.injEq] at H
   obtain ⟨rfl, rfl⟩ := H
   go_enter Tryd.func19, Tryd.ntmps19
   go_wp2_with (first | ((with_reducible refine gate_dst (N := 4) rfl ?_); (try (refine gate_guard (by rfl) ?_; dsimp only)); refine box_event ?hg (N := 4) ?hd (cs := #[.int .i64 a0_0, .int .i64 a0_1, .int .i64 a0_2, .int .i64 a0_3, .bool a0_4]) (t := 23) ?hr ?_; (case hd => rfl); (case hg => rfl); (case hr => first | (go_simp; done) | (go_simp; rfl)); intro gb235 hg w9 hbox hb; have n0_ := Aside0.mk (below_step (bl HB) hb); have n1_ := Aside0.mk (hbox); have n2_ := Aside0.mk ((by rw [hg]; exact (below_size (bl HB)) : w.heap.size ≤ gb235)); have n3_ := Aside0.mk ((by rw [hg]; exact (below_size (bl HB)) : w.heap.size ≤ gb235)); clear HB; have HB := n0_; have BK235 := n1_; have GW235 := n2_; have GE235 := n3_; clear n0_ n1_ n2_ n3_; clear hb hbox hg; have hcz10_0 : w9.cell? ⟨gb235, 0, none⟩ = some (.int .i64 a0_0) := (blk_cell BK235.out 0).trans rfl; have hcz10_1 : w9.cell? ⟨gb235, 1, none⟩ = some (.int .i64 a0_1) := (blk_cell BK235.out 1).trans rfl; have hcz10_2 : w9.cell? ⟨gb235, 2, none⟩ = some (.int .i64 a0_2) := (blk_cell BK235.out 2).trans rfl; have hcz10_3 : w9.cell? ⟨gb235, 3, none⟩ = some (.int .i64 a0_3) := (blk_cell BK235.out 3).trans rfl; have hcz10_4 : w9.cell? ⟨gb235, 4, none⟩ = some (.bool a0_4) := (blk_cell BK235.out 4).trans rfl; have hfz10_0 := blk_frozen BK235.out 0; have hfz10_1 := blk_frozen BK235.out 1; have hfz10_2 := blk_frozen BK235.out 2; have hfz10_3 := blk_frozen BK235.out 3; have hfz10_4 := blk_frozen BK235.out 4) | ((with_reducible refine gate_callee (f := 24) rfl ?_); refine goesL_ (some 19) rfl rfl Tryd.func24 (by kernel_rfl) rfl #[.agg #[.int .i64 a0_0, .int .i64 a0_1, .int .i64 a0_2, .int .i64 a0_3, .bool a0_4], .slice A1 l1.length c1, .slice A2 l2.length c2] rfl gs ?_; (with_reducible refine (desk_boxFault.calls k a0_0 a0_1 a0_2 a0_3 a0_4 _ _ l1 _ _ l2 t236 _ ?side1 ?side2 ?side3 ?side4 A5.out).mono ?_); (case side1 => exact kc HR1 HB); (case side2 => exact HC1.out); (case side3 => exact kc HR2 HB); (case side4 => exact HC2.out); rintro e w11 ⟨rfl, hb⟩; refine ⟨_, rfl, ?_⟩; have n0_ := Aside0.mk (blk_below (g := gb235) (o := .cells #[.int .i64 a0_0, .int .i64 a0_1, .int .i64 a0_2, .int .i64 a0_3, .bool a0_4] 23 (0, 0)) (bk BK235) hb); have n1_ := Aside0.mk (below_step (bl HB) hb); clear BK235; clear HB; have BK235 := n0_; have HB := n1_; clear n0_ n1_; (try clear hb); (try clear hb2); (try clear hk); (try clear hi)) | ((with_reducible refine gate_callee (f := 30) rfl ?_); refine goesL_ (some 24) rfl rfl Tryd.func30 (by kernel_rfl) rfl #[.int .i64 a3, .int .i64 0, .int .i64 2000000000000000] rfl gs ?_; (with_reducible refine (kit_Outside.calls a3 0 2000000000000000 true _ A7.out).mono ?_); rintro e w' ⟨rfl, ⟨nd, rfl⟩⟩; refine ⟨_, rfl, ?_⟩))
   go_ret2
   exact ⟨_, er, by first | exact Kd.R_nil _ _ _ _ _ | exact Kd.N_nil _ _ _ _ _ | exact Kd.V_nil _ _ _ _ _ | exact Kd.Q_nil _ _ _ _ _ | exact Kd.S_nil _ _ _ _ _, bl HB⟩
  ·replace c8 := Bool.eq_false_iff.mpr c8
   subst c8
   have H1 : ((desk_outbox.f k a0_0 a0_1 a0_2 a0_3 a0_4 l1 l2).bind fun bt238 => (if bt238.2 = 0 then (desk_PendingAt.l0 k l1 a3 ([] : List Int) bt238.1 (bt238.1.length : Int) 0) else (some (([] : List Int), bt238.2)))) = some (r1, r2) := by rw [if_neg (show ¬ (false = true) by decide)] at H; exact H
   clear H
   have H := H1
   clear H1
   replace H := Option.bind_eq_some_iff.mp H
   obtain ⟨⟨t238, t241⟩, A120, H⟩ := H
   replace H : (if t241 = 0 then (desk_PendingAt.l0 k l1 a3 ([] : List Int) t238 (t238.length : Int) 0) else (some (([] : List Int), t241))) = some (r1, r2) := H
   have A12 := Aside0.mk A120
   clear A120
   by_cases c13 : t241 = 0
   ·rw [if_pos c13] at H
    have c13b0 : (t241 == 0) = true := beq_iff_eq.mpr c13
    have c13b1 : (t241 != 0) = false := bne_eq_false_iff_eq.mpr c13
    clear c13
    have H' := Aside0.mk H
    clear H
    go_enter Tryd.func19, Tryd.ntmps19
    go_wp2_with (first | ((with_reducible refine gate_dst (N := 4) rfl ?_); (try (refine gate_guard (by rfl) ?_; dsimp only)); refine box_event ?hg (N := 4) ?hd (cs := #[.int .i64 a0_0, .int .i64 a0_1, .int .i64 a0_2, .int .i64 a0_3, .bool a0_4]) (t := 23) ?hr ?_; (case hd => rfl); (case hg => rfl); (case hr => first | (go_simp; done) | (go_simp; rfl)); intro gb235 hg w14 hbox hb; have n0_ := Aside0.mk (below_step (bl HB) hb); have n1_ := Aside0.mk (hbox); have n2_ := Aside0.mk ((by rw [hg]; exact (below_size (bl HB)) : w.heap.size ≤ gb235)); have n3_ := Aside0.mk ((by rw [hg]; exact (below_size (bl HB)) : w.heap.size ≤ gb235)); clear HB; have HB := n0_; have BK235 := n1_; have GW235 := n2_; have GE235 := n3_; clear n0_ n1_ n2_ n3_; clear hb hbox hg; have hcz15_0 : w14.cell? ⟨gb235, 0, none⟩ = some (.int .i64 a0_0) := (blk_cell BK235.out 0).trans rfl; have hcz15_1 : w14.cell? ⟨gb235, 1, none⟩ = some (.int .i64 a0_1) := (blk_cell BK235.out 1).trans rfl; have hcz15_2 : w14.cell? ⟨gb235, 2, none⟩ = some (.int .i64 a0_2) := (blk_cell BK235.out 2).trans rfl; have hcz15_3 : w14.cell? ⟨gb235, 3, none⟩ = some (.int .i64 a0_3) := (blk_cell BK235.out 3).trans rfl; have hcz15_4 : w14.cell? ⟨gb235, 4, none⟩ = some (.bool a0_4) := (blk_cell BK235.out 4).trans rfl; have hfz15_0 := blk_frozen BK235.out 0; have hfz15_1 := blk_frozen BK235.out 1; have hfz15_2 := blk_frozen BK235.out 2; have hfz15_3 := blk_frozen BK235.out 3; have hfz15_4 := blk_frozen BK235.out 4) | ((with_reducible refine gate_callee (f := 24) rfl ?_); refine goesL_ (some 19) rfl rfl Tryd.func24 (by kernel_rfl) rfl #[.agg #[.int .i64 a0_0, .int .i64 a0_1, .int .i64 a0_2, .int .i64 a0_3, .bool a0_4], .slice A1 l1.length c1, .slice A2 l2.length c2] rfl gs ?_; (with_reducible refine (desk_boxFault.calls k a0_0 a0_1 a0_2 a0_3 a0_4 _ _ l1 _ _ l2 t236 _ ?side1 ?side2 ?side3 ?side4 A5.out).mono ?_); (case side1 => exact kc HR1 HB); (case side2 => exact HC1.out); (case side3 => exact kc HR2 HB); (case side4 => exact HC2.out); rintro e w16 ⟨rfl, hb⟩; refine ⟨_, rfl, ?_⟩; have n0_ := Aside0.mk (blk_below (g := gb235) (o := .cells #[.int .i64 a0_0, .int .i64 a0_1, .int .i64 a0_2, .int .i64 a0_3, .bool a0_4] 23 (0, 0)) (bk BK235) hb); have n1_ := Aside0.mk (below_step (bl HB) hb); clear BK235; clear HB; have BK235 := n0_; have HB := n1_; clear n0_ n1_; (try clear hb); (try clear hb2); (try clear hk); (try clear hi)) | ((with_reducible refine gate_callee (f := 30) rfl ?_); refine goesL_ (some 24) rfl rfl Tryd.func30 (by kernel_rfl) rfl #[.int .i64 a3, .int .i64 0, .int .i64 2000000000000000] rfl gs ?_; (with_reducible refine (kit_Outside.calls a3 0 2000000000000000 false _ A7.out).mono ?_); rintro e w' ⟨rfl, ⟨nd, rfl⟩⟩; refine ⟨_, rfl, ?_⟩; have hcz17_0 : w16.cell? ⟨gb235, 0, none⟩ = some (.int .i64 a0_0) := (blk_cell BK235.out 0).trans rfl; have hcz17_1 : w16.cell? ⟨gb235, 1, none⟩ = some (.int .i64 a0_1) := (blk_cell BK235.out 1).trans rfl; have hcz17_2 : w16.cell? ⟨gb235, 2, none⟩ = some (.int .i64 a0_2) := (blk_cell BK235.out 2).trans rfl; have hcz17_3 : w16.cell? ⟨gb235, 3, none⟩ = some (.int .i64 a0_3) := (blk_cell BK235.out 3).trans rfl; have hcz17_4 : w16.cell? ⟨gb235, 4, none⟩ = some (.bool a0_4) := (blk_cell BK235.out 4).trans rfl; have hfz17_0 := blk_frozen BK235.out 0; have hfz17_1 := blk_frozen BK235.out 1; have hfz17_2 := blk_frozen BK235.out 2; have hfz17_3 := blk_frozen BK235.out 3; have hfz17_4 := blk_frozen BK235.out 4) | ((with_reducible refine gate_callee (f := 25) rfl ?_); refine goesL_ (some 29) rfl rfl Tryd.func25 (by kernel_rfl) rfl #[.agg #[.int .i64 a0_0, .int .i64 a0_1, .int .i64 a0_2, .int .i64 a0_3, .bool a0_4], .slice A1 l1.length c1, .slice A2 l2.length c2] rfl gs ?_; (with_reducible refine (desk_outbox.calls k a0_0 a0_1 a0_2 a0_3 a0_4 _ _ l1 _ _ l2 t238 t241 _ ?side1 ?side2 ?side3 ?side4 A12.out).mono ?_); (case side1 => repeat (first | exact (Kd.C_below HR1.out (bl HB)) | (with_reducible refine Kd.C_alloc ?_ _) | (with_reducible refine Kd.C_drewN ?_ _) | (with_reducible refine Kd.C_drew ?_))); (case side2 => exact HC1.out); (case side3 => repeat (first | exact (Kd.C_below HR2.out (bl HB)) | (with_reducible refine Kd.C_alloc ?_ _) | (with_reducible refine Kd.C_drewN ?_ _) | (with_reducible refine Kd.C_drew ?_))); (case side4 => exact HC2.out); rintro e w18 ⟨v239, rfl, ho0, hb⟩; refine ⟨_, rfl, ?_⟩; have n0_ := Aside0.mk (Kd.R_lower ho0 (below_size (bl HB))); have n1_ := Aside0.mk (blk_below (g := gb235) (o := .cells #[.int .i64 a0_0, .int .i64 a0_1, .int .i64 a0_2, .int .i64 a0_3, .bool a0_4] 23 (0, 0)) (bk BK235) hb); have n2_ := Aside0.mk (below_step (bl HB) hb); clear BK235; clear HB; have HO240 := n0_; have BK235 := n1_; have HB := n2_; clear n0_ n1_ n2_; (try clear hb); (try clear hb2); (try clear hk); (try clear hi); (try clear ho0); obtain ⟨Ao19, co19, eo19⟩ := Kd.R_slice HO240.out; subst eo19))
    go_loopg [13, 37] k (fun kq v13 v37 w' => ∃ (x13_1 : List Int) (x37_1 : Int), v37 = .int .i64 x37_1 ∧ Aside0 (desk_PendingAt.l0 kq l1 a3 x13_1 t238 (t238.length : Int) x37_1 = some (r1, r2)) ∧ Aside0 (kq ≤ k) ∧ Aside0 (Kd.R (Kd.int .i64) 3 w' w.heap.size (fun _ => True) v13 x13_1) ∧ Aside0 (Kd.R k34 34 w' w.heap.size (fun _ => True) (.slice Ao19 t238.length co19) t238) ∧ Aside0 (w'.heap[gb235]? = some (.cells #[.int .i64 a0_0, .int .i64 a0_1, .int .i64 a0_2, .int .i64 a0_3, .bool a0_4] 23 (0, 0))) ∧ Aside0 (Below w.heap.size w w'))
    case atStart => exact ⟨(([] : List Int)), (0), (by first | rfl | (simp; done) | (simp [*]; done)), H', ⟨Nat.le_refl _⟩, ⟨by first | exact Kd.R_nil _ _ _ _ _ | exact Kd.N_nil _ _ _ _ _ | exact Kd.V_nil _ _ _ _ _ | exact Kd.Q_nil _ _ _ _ _ | exact Kd.S_nil _ _ _ _ _⟩, ⟨ra HO240⟩, ⟨bk BK235⟩, ⟨bl HB⟩⟩
    case round =>
     clear H'
     try clear c1
     try clear c2
     try clear p2
     try clear c3
     try clear c6
     try clear c6b0
     try clear c6b1
     try clear c8
     try clear c13
     try clear c13b0
     try clear c13b1
     try clear c19
     try clear hcz10_0
     try clear hcz10_1
     try clear hcz10_2
     try clear hcz10_3
     try clear hcz10_4
     try clear hcz15_0
     try clear hcz15_1
     try clear hcz15_2
     try clear hcz15_3
     try clear hcz15_4
     try clear hcz17_0
     try clear hcz17_1
     try clear hcz17_2
     try clear hcz17_3
     try clear hcz17_4
     try clear hfz10_0
     try clear hfz10_1
     try clear hfz10_2
     try clear hfz10_3
     try clear hfz10_4
     try clear hfz15_0
     try clear hfz15_1
     try clear hfz15_2
     try clear hfz15_3
     try clear hfz15_4
     try clear hfz17_0
     try clear hfz17_1
     try clear hfz17_2
     try clear hfz17_3
     try clear hfz17_4
     obtain ⟨x13_1, x37_1, rfl, HA, HK1, HO_13, HO_35, BK235, HB⟩ := hrel
     cases gk with
     | zero => exact absurd HA.out (by simp [desk_PendingAt.l0])
     | succ k1 =>
      have H := HA.out
      clear HA
      simp only [desk_PendingAt.l0] at H
      by_cases c20 : x37_1 < (t238.length : Int)
      ·rw [if_pos c20] at H
       have c20b0 : decide (x37_1 < (t238.length : Int)) = true := decide_eq_true c20
       clear c20
       by_cases c21 : 0 ≤ x37_1
       ·rw [if_pos c21] at H
        have c21b0 : decide (0 ≤ x37_1) = true := decide_eq_true c21
        clear c21
        by_cases c22 : x37_1 < (t238.length : Int)
        ·rw [if_pos c22] at H
         have c22b0 : decide (x37_1 < (t238.length : Int)) = true := decide_eq_true c22
         clear c22
         by_cases c23 : x37_1 < (l1.length : Int)
         ·rw [if_pos c23] at H
          have c23b0 : decide (x37_1 < (l1.length : Int)) = true := decide_eq_true c23
          clear c23
          by_cases c24 : ((rd_T42 l1 x37_1).f1) ≤ a3
          ·rw [if_pos c24] at H
           have c24b0 : decide (((rd_T42 l1 x37_1).f1) ≤ a3) = true := decide_eq_true c24
           clear c24
           obtain ⟨ji25, hji25⟩ : ∃ j_ : Int, (mx ((rd_T34 t238 x37_1).f1) ((rd_T34 t238 x37_1).f2)) = j_ := ⟨_, rfl⟩
           replace H : (if (ji25) > a3 then (if x13_1.length < 17592186044416 then (desk_PendingAt.l0 k1 l1 a3 (x13_1 ++ [x37_1]) t238 (t238.length : Int) (wrap64 (x37_1 + 1))) else (none)) else (desk_PendingAt.l0 k1 l1 a3 x13_1 t238 (t238.length : Int) (wrap64 (x37_1 + 1)))) = some (r1, r2) := by first | (rw [hji25] at H; exact H) | (simp only [hji25] at H ⊢; exact H)
           have hji25_ : (if ((rd_T34 t238 x37_1).f1) < ((rd_T34 t238 x37_1).f2) then ((rd_T34 t238 x37_1).f2) else ((rd_T34 t238 x37_1).f1)) = ji25 := hji25
           by_cases c26 : (ji25) > a3
           ·rw [if_pos c26] at H
            have c26b0 : decide (a3 < (ji25)) = true := decide_eq_true c26
            clear c26
            by_cases c27 : x13_1.length < 17592186044416
            ·rw [if_pos c27] at H
             have LMc27 := Aside0.mk c27
             clear c27
             obtain ⟨y245, hy245⟩ : ∃ y_ : List Int, y_ = (x13_1 ++ [x37_1]) := ⟨_, rfl⟩
             replace H : (desk_PendingAt.l0 k1 l1 a3 y245 t238 (t238.length : Int) (wrap64 (x37_1 + 1))) = some (r1, r2) := by first | (rw [hy245]; with_reducible exact H) | (have H2_ := (Option.bind_some _ _).symm.trans H; rw [hy245]; with_reducible exact H2_) | (have H2_ := (Option.bind_some _ _).symm.trans H; with_reducible exact H2_) | with_reducible exact H | (rw [hy245]; exact H) | exact H
             have Ny245 := Aside0.mk hy245
             clear hy245
             have H' := Aside0.mk H
             clear H
             have p242 : 0 ≤ (x37_1 : Int) := of_decide_eq_true odt
             have q242 : x37_1 < (t238.length : Int) := of_decide_eq_true odt
             obtain ⟨ad242, e242, hx242_0, hx242_1, hx242_2⟩ := at_T34 (Kd.R_reads' HO_35.out).2.2 x37_1 p242 q242
             cases e242
             replace p242 := eq_true p242
             replace q242 := eq_true q242
             go_wp2_with (first | ((with_reducible refine gate_dst (N := 15) rfl ?_); (try (refine gate_guard (by rfl) ?_; dsimp only)); refine box_event ?hg (N := 15) ?hd (cs := #[.int .i64 0, .int .i64 0, .int .i64 0]) (t := 34) ?hr ?_; (case hd => rfl); (case hg => rfl); (case hr => first | (go_simp; done) | (go_simp; rfl)); intro gb243 hg w28 hbox hb; have n0_ := Aside0.mk (Kd.R_below (ra HO_13) hb); have n1_ := Aside0.mk (Kd.R_below (Kd.R_elderB (ra HO_35) gb243 (Nat.le_of_eq hg.symm)) hb); have n2_ := Aside0.mk (blk_below (g := gb235) (o := .cells #[.int .i64 a0_0, .int .i64 a0_1, .int .i64 a0_2, .int .i64 a0_3, .bool a0_4] 23 (0, 0)) (bk BK235) hb); have n3_ := Aside0.mk (below_step (bl HB) hb); have n4_ := Aside0.mk (hbox); have n5_ := Aside0.mk ((by rw [hg]; exact (below_size (bl HB)) : w.heap.size ≤ gb243)); have n6_ := Aside0.mk ((by rw [hg]; exact (below_size (bl HB)) : w.heap.size ≤ gb243)); have n7_ := Aside0.mk ((by rw [hg]; exact Nat.ne_of_lt (blk_lt (g := gb235) (o := .cells #[.int .i64 a0_0, .int .i64 a0_1, .int .i64 a0_2, .int .i64 a0_3, .bool a0_4] 23 (0, 0)) (bk BK235)) : gb235 ≠ gb243)); have n8_ := Aside0.mk ((by rw [hg]; exact Nat.ne_of_gt (blk_lt (g := gb235) (o := .cells #[.int .i64 a0_0, .int .i64 a0_1, .int .i64 a0_2, .int .i64 a0_3, .bool a0_4] 23 (0, 0)) (bk BK235)) : gb243 ≠ gb235)); clear HO_13; clear HO_35; clear BK235; clear HB; have HO_13 := n0_; have HO_35 := n1_; have BK235 := n2_; have HB := n3_; have BK243 := n4_; have GW243 := n5_; have GE243 := n6_; have NB235_243 := n7_; have NB243_235 := n8_; clear n0_ n1_ n2_ n3_ n4_ n5_ n6_ n7_ n8_; clear hb hbox hg; have hnb29 := NB243_235.out; have hnc29 := NB235_243.out; have hcz30_0 : w28.cell? ⟨gb243, 0, none⟩ = some (.int .i64 0) := (blk_cell BK243.out 0).trans rfl; have hcz30_1 : w28.cell? ⟨gb243, 1, none⟩ = some (.int .i64 0) := (blk_cell BK243.out 1).trans rfl; have hcz30_2 : w28.cell? ⟨gb243, 2, none⟩ = some (.int .i64 0) := (blk_cell BK243.out 2).trans rfl; have hfz30_0 := blk_frozen BK243.out 0; have hfz30_1 := blk_frozen BK243.out 1; have hfz30_2 := blk_frozen BK243.out 2; have p244 : 0 ≤ (x37_1 : Int) := of_decide_eq_true odt; have q244 : x37_1 < (l1.length : Int) := of_decide_eq_true odt; obtain ⟨ad244, e244, hx244_0, hx244_1⟩ := at_T42 HR1.out x37_1 p244 q244; cases e244; have hn244_0 : ad244.block ≠ gb243 := Nat.ne_of_lt (Nat.lt_of_lt_of_le (by have := World.block_lt_of_cell? _ _ hx244_0; first | rwa [add_block] at this | exact this) GW243.out); have hn244_1 : ad244.block ≠ gb243 := Nat.ne_of_lt (Nat.lt_of_lt_of_le (by have := World.block_lt_of_cell? _ _ hx244_0; first | rwa [add_block] at this | exact this) GW243.out); have hn244_2 : ad244.block ≠ gb243 := Nat.ne_of_lt (Nat.lt_of_lt_of_le (by have := World.block_lt_of_cell? _ _ hx244_0; first | rwa [add_block] at this | exact this) GW243.out); replace hx244_0 := (HB.out.cell (World.block_lt_of_cell? w _ hx244_0)).trans hx244_0; replace hx244_1 := (HB.out.cell (World.block_lt_of_cell? w _ hx244_1)).trans hx244_1; replace hx244_0 := (cell_far (p := ⟨gb243, 0, none⟩) (by first | (rw [add_block]; exact hn244_0) | (show (Addr.add _ _).block ≠ _; rw [add_block]; exact hn244_0) | exact hn244_0) (.int .i64 ((rd_T34 t238 x37_1).f0))).trans hx244_0; replace hx244_1 := (cell_far (p := ⟨gb243, 0, none⟩) (by first | (rw [add_block]; exact hn244_0) | (show (Addr.add _ _).block ≠ _; rw [add_block]; exact hn244_0) | exact hn244_0) (.int .i64 ((rd_T34 t238 x37_1).f0))).trans hx244_1; replace hx244_0 := (cell_far (p := ⟨gb243, 1, none⟩) (by first | (rw [add_block]; exact hn244_1) | (show (Addr.add _ _).block ≠ _; rw [add_block]; exact hn244_1) | exact hn244_1) (.int .i64 ((rd_T34 t238 x37_1).f1))).trans hx244_0; replace hx244_1 := (cell_far (p := ⟨gb243, 1, none⟩) (by first | (rw [add_block]; exact hn244_1) | (show (Addr.add _ _).block ≠ _; rw [add_block]; exact hn244_1) | exact hn244_1) (.int .i64 ((rd_T34 t238 x37_1).f1))).trans hx244_1; replace hx244_0 := (cell_far (p := ⟨gb243, 2, none⟩) (by first | (rw [add_block]; exact hn244_2) | (show (Addr.add _ _).block ≠ _; rw [add_block]; exact hn244_2) | exact hn244_2) (.int .i64 ((rd_T34 t238 x37_1).f2))).trans hx244_0; replace hx244_1 := (cell_far (p := ⟨gb243, 2, none⟩) (by first | (rw [add_block]; exact hn244_2) | (show (Addr.add _ _).block ≠ _; rw [add_block]; exact hn244_2) | exact hn244_2) (.int .i64 ((rd_T34 t238 x37_1).f2))).trans hx244_1; clear hn244_0; clear hn244_1; clear hn244_2; replace p244 := eq_true p244; replace q244 := eq_true q244) | ((with_reducible refine gate_builtin (b := .append) (xs := #[.tmp 58, .tmp 60]) rfl ?_); (try (refine gate_guard (by rfl) ?_; dsimp only)); at_builtin; refine Kd.R_append (Kd.int .i64) (w0 := w) w.heap.size rfl (.tmp 58) (.tmp 60) 45 3 (.int .i64 0) 8 rfl Tryd.underlying45 info3 rfl (by decide) (by omega) u13 x13_1 x37_1 [.int .i64 x37_1] (fun _ => True) (fun _ => False) rfl (by first | (go_simp; done) | (go_simp; rfl)) ?aP (fun _ hk => hk.elim) ?aF ?aO ?aB ?aS ?aL ?_; (case aP => exact rfl); (case aB => exact (bl HB)); (case aF => exact (fun _ _ => trivial)); (case aO => exact (by (with_reducible repeat (first | apply Kd.R_alloc | apply Kd.R_drewN | apply Kd.R_drew)); exact Kd.R_mono (Kd.R_far (p := ⟨gb243, 2, none⟩) (Kd.R_far (p := ⟨gb243, 1, none⟩) (Kd.R_far (p := ⟨gb243, 0, none⟩) (Kd.R_types HO_13.out BK243.out (by decide)) (fun _ hk => hk.2) (.int .i64 ((rd_T34 t238 x37_1).f0))) (fun _ hk => hk.2) (.int .i64 ((rd_T34 t238 x37_1).f1))) (fun _ hk => hk.2) (.int .i64 ((rd_T34 t238 x37_1).f2))) (fun _ hk => trivial))); (case aS => exact (below_size (bl HB))); (case aL => have := LMc27.out; omega); intro v246 w31 ho hb hg hat; rw [← Ny245.out] at ho; have n0_ := Aside0.mk (Kd.R_over' (by (with_reducible repeat (first | apply Kd.R_alloc | apply Kd.R_drewN | apply Kd.R_drew)); exact (Kd.R_mono (Kd.R_far (p := ⟨gb243, 2, none⟩) (Kd.R_far (p := ⟨gb243, 1, none⟩) (Kd.R_far (p := ⟨gb243, 0, none⟩) (Kd.R_mono HO_35.out (fun k_ hk => (⟨hk, hk.2⟩ : _ ∧ k_ ≠ gb243))) (fun _ hk => hk.2) (.int .i64 ((rd_T34 t238 x37_1).f0))) (fun _ hk => hk.2) (.int .i64 ((rd_T34 t238 x37_1).f1))) (fun _ hk => hk.2) (.int .i64 ((rd_T34 t238 x37_1).f2))) (fun _ h_ => h_.1))) (Kd.R_typed (by (with_reducible repeat (first | apply Kd.R_alloc | apply Kd.R_drewN | apply Kd.R_drew)); exact (Kd.R_mono (Kd.R_far (p := ⟨gb243, 2, none⟩) (Kd.R_far (p := ⟨gb243, 1, none⟩) (Kd.R_far (p := ⟨gb243, 0, none⟩) (Kd.R_types HO_13.out BK243.out (by decide)) (fun _ hk => hk.2) (.int .i64 ((rd_T34 t238 x37_1).f0))) (fun _ hk => hk.2) (.int .i64 ((rd_T34 t238 x37_1).f1))) (fun _ hk => hk.2) (.int .i64 ((rd_T34 t238 x37_1).f2))) (fun _ h_ => h_.1)))) (by decide) hg); have n1_ := Aside0.mk (blk_grown (g := gb235) (o := .cells #[.int .i64 a0_0, .int .i64 a0_1, .int .i64 a0_2, .int .i64 a0_3, .bool a0_4] 23 (0, 0)) (by (with_reducible repeat (first | refine blk_drewN ?_ _ | refine blk_drew ?_ | refine blk_alloc ?_ _)); refine blk_far ?_ NB235_243.out _; (with_reducible repeat (first | refine blk_drewN ?_ _ | refine blk_drew ?_ | refine blk_alloc ?_ _)); refine blk_far ?_ NB235_243.out _; (with_reducible repeat (first | refine blk_drewN ?_ _ | refine blk_drew ?_ | refine blk_alloc ?_ _)); refine blk_far ?_ NB235_243.out _; (with_reducible repeat (first | refine blk_drewN ?_ _ | refine blk_drew ?_ | refine blk_alloc ?_ _)); exact BK235.out) hg (Kd.R_ne HO_13.out BK235.out (by decide))); have n2_ := Aside0.mk (blk_grown (g := gb243) (o := .cells #[.int .i64 ((rd_T34 t238 x37_1).f0), .int .i64 ((rd_T34 t238 x37_1).f1), .int .i64 ((rd_T34 t238 x37_1).f2)] 34 (0, 0)) (by (with_reducible repeat (first | refine blk_drewN ?_ _ | refine blk_drew ?_ | refine blk_alloc ?_ _)); refine blk_put (cs := #[.int .i64 ((rd_T34 t238 x37_1).f0), .int .i64 ((rd_T34 t238 x37_1).f1), .int .i64 0]) ?_ 2 _ rfl; (with_reducible repeat (first | refine blk_drewN ?_ _ | refine blk_drew ?_ | refine blk_alloc ?_ _)); refine blk_put (cs := #[.int .i64 ((rd_T34 t238 x37_1).f0), .int .i64 0, .int .i64 0]) ?_ 1 _ rfl; (with_reducible repeat (first | refine blk_drewN ?_ _ | refine blk_drew ?_ | refine blk_alloc ?_ _)); refine blk_put (cs := #[.int .i64 0, .int .i64 0, .int .i64 0]) ?_ 0 _ rfl; (with_reducible repeat (first | refine blk_drewN ?_ _ | refine blk_drew ?_ | refine blk_alloc ?_ _)); exact BK243.out) hg (Kd.R_ne HO_13.out BK243.out (by decide))); have n3_ := Aside0.mk (hb); have n4_ := Aside0.mk (ho); clear HO_35; clear BK235; clear BK243; clear HB; clear HO_13; have HO_35 := n0_; have BK235 := n1_; have BK243 := n2_; have HB := n3_; have HO247 := n4_; clear n0_ n1_ n2_ n3_ n4_; clear ho hb hg hat))
             go_roundg k1
             case measure => have := HK1.out; omega
             case rel => exact ⟨(y245), (wrap64 (x37_1 + 1)), (by first | rfl | (simp; done) | (simp [*]; done)), H', ⟨by have := HK1.out; omega⟩, ⟨ra HO247⟩, ⟨by (with_reducible repeat (first | apply Kd.R_alloc | apply Kd.R_drewN | apply Kd.R_drew)); exact Kd.R_mono HO_35.out (fun _ hk => trivial)⟩, ⟨bk BK235⟩, ⟨bl HB⟩⟩
            ·rw [if_neg c27] at H
             exact absurd H (by simp)
           ·rw [if_neg c26] at H
            have c26b0 : decide (a3 < (ji25)) = false := decide_eq_false c26
            clear c26
            have H' := Aside0.mk H
            clear H
            have p242 : 0 ≤ (x37_1 : Int) := of_decide_eq_true odt
            have q242 : x37_1 < (t238.length : Int) := of_decide_eq_true odt
            obtain ⟨ad242, e242, hx242_0, hx242_1, hx242_2⟩ := at_T34 (Kd.R_reads' HO_35.out).2.2 x37_1 p242 q242
            cases e242
            replace p242 := eq_true p242
            replace q242 := eq_true q242
            go_wp2_with (first | ((with_reducible refine gate_dst (N := 15) rfl ?_); (try (refine gate_guard (by rfl) ?_; dsimp only)); refine box_event ?hg (N := 15) ?hd (cs := #[.int .i64 0, .int .i64 0, .int .i64 0]) (t := 34) ?hr ?_; (case hd => rfl); (case hg => rfl); (case hr => first | (go_simp; done) | (go_simp; rfl)); intro gb243 hg w32 hbox hb; have n0_ := Aside0.mk (Kd.R_below (ra HO_13) hb); have n1_ := Aside0.mk (Kd.R_below (Kd.R_elderB (ra HO_35) gb243 (Nat.le_of_eq hg.symm)) hb); have n2_ := Aside0.mk (blk_below (g := gb235) (o := .cells #[.int .i64 a0_0, .int .i64 a0_1, .int .i64 a0_2, .int .i64 a0_3, .bool a0_4] 23 (0, 0)) (bk BK235) hb); have n3_ := Aside0.mk (below_step (bl HB) hb); have n4_ := Aside0.mk (hbox); have n5_ := Aside0.mk ((by rw [hg]; exact (below_size (bl HB)) : w.heap.size ≤ gb243)); have n6_ := Aside0.mk ((by rw [hg]; exact (below_size (bl HB)) : w.heap.size ≤ gb243)); have n7_ := Aside0.mk ((by rw [hg]; exact Nat.ne_of_lt (blk_lt (g := gb235) (o := .cells #[.int .i64 a0_0, .int .i64 a0_1, .int .i64 a0_2, .int .i64 a0_3, .bool a0_4] 23 (0, 0)) (bk BK235)) : gb235 ≠ gb243)); have n8_ := Aside0.mk ((by rw [hg]; exact Nat.ne_of_gt (blk_lt (g := gb235) (o := .cells #[.int .i64 a0_0, .int .i64 a0_1, .int .i64 a0_2, .int .i64 a0_3, .bool a0_4] 23 (0, 0)) (bk BK235)) : gb243 ≠ gb235)); clear HO_13; clear HO_35; clear BK235; clear HB; have HO_13 := n0_; have HO_35 := n1_; have BK235 := n2_; have HB := n3_; have BK243 := n4_; have GW243 := n5_; have GE243 := n6_; have NB235_243 := n7_; have NB243_235 := n8_; clear n0_ n1_ n2_ n3_ n4_ n5_ n6_ n7_ n8_; clear hb hbox hg; have hnb33 := NB243_235.out; have hnc33 := NB235_243.out; have hcz34_0 : w32.cell? ⟨gb243, 0, none⟩ = some (.int .i64 0) := (blk_cell BK243.out 0).trans rfl; have hcz34_1 : w32.cell? ⟨gb243, 1, none⟩ = some (.int .i64 0) := (blk_cell BK243.out 1).trans rfl; have hcz34_2 : w32.cell? ⟨gb243, 2, none⟩ = some (.int .i64 0) := (blk_cell BK243.out 2).trans rfl; have hfz34_0 := blk_frozen BK243.out 0; have hfz34_1 := blk_frozen BK243.out 1; have hfz34_2 := blk_frozen BK243.out 2; have p244 : 0 ≤ (x37_1 : Int) := of_decide_eq_true odt; have q244 : x37_1 < (l1.length : Int) := of_decide_eq_true odt; obtain ⟨ad244, e244, hx244_0, hx244_1⟩ := at_T42 HR1.out x37_1 p244 q244; cases e244; have hn244_0 : ad244.block ≠ gb243 := Nat.ne_of_lt (Nat.lt_of_lt_of_le (by have := World.block_lt_of_cell? _ _ hx244_0; first | rwa [add_block] at this | exact this) GW243.out); have hn244_1 : ad244.block ≠ gb243 := Nat.ne_of_lt (Nat.lt_of_lt_of_le (by have := World.block_lt_of_cell? _ _ hx244_0; first | rwa [add_block] at this | exact this) GW243.out); have hn244_2 : ad244.block ≠ gb243 := Nat.ne_of_lt (Nat.lt_of_lt_of_le (by have := World.block_lt_of_cell? _ _ hx244_0; first | rwa [add_block] at this | exact this) GW243.out); replace hx244_0 := (HB.out.cell (World.block_lt_of_cell? w _ hx244_0)).trans hx244_0; replace hx244_1 := (HB.out.cell (World.block_lt_of_cell? w _ hx244_1)).trans hx244_1; replace hx244_0 := (cell_far (p := ⟨gb243, 0, none⟩) (by first | (rw [add_block]; exact hn244_0) | (show (Addr.add _ _).block ≠ _; rw [add_block]; exact hn244_0) | exact hn244_0) (.int .i64 ((rd_T34 t238 x37_1).f0))).trans hx244_0; replace hx244_1 := (cell_far (p := ⟨gb243, 0, none⟩) (by first | (rw [add_block]; exact hn244_0) | (show (Addr.add _ _).block ≠ _; rw [add_block]; exact hn244_0) | exact hn244_0) (.int .i64 ((rd_T34 t238 x37_1).f0))).trans hx244_1; replace hx244_0 := (cell_far (p := ⟨gb243, 1, none⟩) (by first | (rw [add_block]; exact hn244_1) | (show (Addr.add _ _).block ≠ _; rw [add_block]; exact hn244_1) | exact hn244_1) (.int .i64 ((rd_T34 t238 x37_1).f1))).trans hx244_0; replace hx244_1 := (cell_far (p := ⟨gb243, 1, none⟩) (by first | (rw [add_block]; exact hn244_1) | (show (Addr.add _ _).block ≠ _; rw [add_block]; exact hn244_1) | exact hn244_1) (.int .i64 ((rd_T34 t238 x37_1).f1))).trans hx244_1; replace hx244_0 := (cell_far (p := ⟨gb243, 2, none⟩) (by first | (rw [add_block]; exact hn244_2) | (show (Addr.add _ _).block ≠ _; rw [add_block]; exact hn244_2) | exact hn244_2) (.int .i64 ((rd_T34 t238 x37_1).f2))).trans hx244_0; replace hx244_1 := (cell_far (p := ⟨gb243, 2, none⟩) (by first | (rw [add_block]; exact hn244_2) | (show (Addr.add _ _).block ≠ _; rw [add_block]; exact hn244_2) | exact hn244_2) (.int .i64 ((rd_T34 t238 x37_1).f2))).trans hx244_1; clear hn244_0; clear hn244_1; clear hn244_2; replace p244 := eq_true p244; replace q244 := eq_true q244))
            go_roundg k1
            case measure => have := HK1.out; omega
            case rel => exact ⟨(x13_1), (wrap64 (x37_1 + 1)), (by first | rfl | (simp; done) | (simp [*]; done)), H', ⟨by have := HK1.out; omega⟩, ⟨by (with_reducible repeat (first | apply Kd.R_alloc | apply Kd.R_drewN | apply Kd.R_drew)); exact Kd.R_mono (Kd.R_far (p := ⟨gb243, 2, none⟩) (Kd.R_far (p := ⟨gb243, 1, none⟩) (Kd.R_far (p := ⟨gb243, 0, none⟩) (Kd.R_types HO_13.out BK243.out (by decide)) (fun _ hk => hk.2) (.int .i64 ((rd_T34 t238 x37_1).f0))) (fun _ hk => hk.2) (.int .i64 ((rd_T34 t238 x37_1).f1))) (fun _ hk => hk.2) (.int .i64 ((rd_T34 t238 x37_1).f2))) (fun _ hk => trivial)⟩, ⟨by (with_reducible repeat (first | apply Kd.R_alloc | apply Kd.R_drewN | apply Kd.R_drew)); exact Kd.R_mono (Kd.R_far (p := ⟨gb243, 2, none⟩) (Kd.R_far (p := ⟨gb243, 1, none⟩) (Kd.R_far (p := ⟨gb243, 0, none⟩) (Kd.R_mono HO_35.out (fun k_ hk => (⟨hk, hk.2⟩ : _ ∧ k_ ≠ gb243))) (fun _ hk => hk.2) (.int .i64 ((rd_T34 t238 x37_1).f0))) (fun _ hk => hk.2) (.int .i64 ((rd_T34 t238 x37_1).f1))) (fun _ hk => hk.2) (.int .i64 ((rd_T34 t238 x37_1).f2))) (fun _ hk => trivial)⟩, ⟨by (with_reducible repeat (first | refine blk_drewN ?_ _ | refine blk_drew ?_ | refine blk_alloc ?_ _)); refine blk_far ?_ NB235_243.out _; (with_reducible repeat (first | refine blk_drewN ?_ _ | refine blk_drew ?_ | refine blk_alloc ?_ _)); refine blk_far ?_ NB235_243.out _; (with_reducible repeat (first | refine blk_drewN ?_ _ | refine blk_drew ?_ | refine blk_alloc ?_ _)); refine blk_far ?_ NB235_243.out _; (with_reducible repeat (first | refine blk_drewN ?_ _ | refine blk_drew ?_ | refine blk_alloc ?_ _)); exact BK235.out⟩, ⟨bl HB⟩⟩
          ·rw [if_neg c24] at H
           have c24b0 : decide (((rd_T42 l1 x37_1).f1) ≤ a3) = false := decide_eq_false c24
           clear c24
           have H' := Aside0.mk H
           clear H
           have p242 : 0 ≤ (x37_1 : Int) := of_decide_eq_true odt
           have q242 : x37_1 < (t238.length : Int) := of_decide_eq_true odt
           obtain ⟨ad242, e242, hx242_0, hx242_1, hx242_2⟩ := at_T34 (Kd.R_reads' HO_35.out).2.2 x37_1 p242 q242
           cases e242
           replace p242 := eq_true p242
           replace q242 := eq_true q242
           go_wp2_with (first | ((with_reducible refine gate_dst (N := 15) rfl ?_); (try (refine gate_guard (by rfl) ?_; dsimp only)); refine box_event ?hg (N := 15) ?hd (cs := #[.int .i64 0, .int .i64 0, .int .i64 0]) (t := 34) ?hr ?_; (case hd => rfl); (case hg => rfl); (case hr => first | (go_simp; done) | (go_simp; rfl)); intro gb243 hg w35 hbox hb; have n0_ := Aside0.mk (Kd.R_below (ra HO_13) hb); have n1_ := Aside0.mk (Kd.R_below (Kd.R_elderB (ra HO_35) gb243 (Nat.le_of_eq hg.symm)) hb); have n2_ := Aside0.mk (blk_below (g := gb235) (o := .cells #[.int .i64 a0_0, .int .i64 a0_1, .int .i64 a0_2, .int .i64 a0_3, .bool a0_4] 23 (0, 0)) (bk BK235) hb); have n3_ := Aside0.mk (below_step (bl HB) hb); have n4_ := Aside0.mk (hbox); have n5_ := Aside0.mk ((by rw [hg]; exact (below_size (bl HB)) : w.heap.size ≤ gb243)); have n6_ := Aside0.mk ((by rw [hg]; exact (below_size (bl HB)) : w.heap.size ≤ gb243)); have n7_ := Aside0.mk ((by rw [hg]; exact Nat.ne_of_lt (blk_lt (g := gb235) (o := .cells #[.int .i64 a0_0, .int .i64 a0_1, .int .i64 a0_2, .int .i64 a0_3, .bool a0_4] 23 (0, 0)) (bk BK235)) : gb235 ≠ gb243)); have n8_ := Aside0.mk ((by rw [hg]; exact Nat.ne_of_gt (blk_lt (g := gb235) (o := .cells #[.int .i64 a0_0, .int .i64 a0_1, .int .i64 a0_2, .int .i64 a0_3, .bool a0_4] 23 (0, 0)) (bk BK235)) : gb243 ≠ gb235)); clear HO_13; clear HO_35; clear BK235; clear HB; have HO_13 := n0_; have HO_35 := n1_; have BK235 := n2_; have HB := n3_; have BK243 := n4_; have GW243 := n5_; have GE243 := n6_; have NB235_243 := n7_; have NB243_235 := n8_; clear n0_ n1_ n2_ n3_ n4_ n5_ n6_ n7_ n8_; clear hb hbox hg; have hnb36 := NB243_235.out; have hnc36 := NB235_243.out; have hcz37_0 : w35.cell? ⟨gb243, 0, none⟩ = some (.int .i64 0) := (blk_cell BK243.out 0).trans rfl; have hcz37_1 : w35.cell? ⟨gb243, 1, none⟩ = some (.int .i64 0) := (blk_cell BK243.out 1).trans rfl; have hcz37_2 : w35.cell? ⟨gb243, 2, none⟩ = some (.int .i64 0) := (blk_cell BK243.out 2).trans rfl; have hfz37_0 := blk_frozen BK243.out 0; have hfz37_1 := blk_frozen BK243.out 1; have hfz37_2 := blk_frozen BK243.out 2; have p244 : 0 ≤ (x37_1 : Int) := of_decide_eq_true odt; have q244 : x37_1 < (l1.length : Int) := of_decide_eq_true odt; obtain ⟨ad244, e244, hx244_0, hx244_1⟩ := at_T42 HR1.out x37_1 p244 q244; cases e244; have hn244_0 : ad244.block ≠ gb243 := Nat.ne_of_lt (Nat.lt_of_lt_of_le (by have := World.block_lt_of_cell? _ _ hx244_0; first | rwa [add_block] at this | exact this) GW243.out); have hn244_1 : ad244.block ≠ gb243 := Nat.ne_of_lt (Nat.lt_of_lt_of_le (by have := World.block_lt_of_cell? _ _ hx244_0; first | rwa [add_block] at this | exact this) GW243.out); have hn244_2 : ad244.block ≠ gb243 := Nat.ne_of_lt (Nat.lt_of_lt_of_le (by have := World.block_lt_of_cell? _ _ hx244_0; first | rwa [add_block] at this | exact this) GW243.out); replace hx244_0 := (HB.out.cell (World.block_lt_of_cell? w _ hx244_0)).trans hx244_0; replace hx244_1 := (HB.out.cell (World.block_lt_of_cell? w _ hx244_1)).trans hx244_1; replace hx244_0 := (cell_far (p := ⟨gb243, 0, none⟩) (by first | (rw [add_block]; exact hn244_0) | (show (Addr.add _ _).block ≠ _; rw [add_block]; exact hn244_0) | exact hn244_0) (.int .i64 ((rd_T34 t238 x37_1).f0))).trans hx244_0; replace hx244_1 := (cell_far (p := ⟨gb243, 0, none⟩) (by first | (rw [add_block]; exact hn244_0) | (show (Addr.add _ _).block ≠ _; rw [add_block]; exact hn244_0) | exact hn244_0) (.int .i64 ((rd_T34 t238 x37_1).f0))).trans hx244_1; replace hx244_0 := (cell_far (p := ⟨gb243, 1, none⟩) (by first | (rw [add_block]; exact hn244_1) | (show (Addr.add _ _).block ≠ _; rw [add_block]; exact hn244_1) | exact hn244_1) (.int .i64 ((rd_T34 t238 x37_1).f1))).trans hx244_0; replace hx244_1 := (cell_far (p := ⟨gb243, 1, none⟩) (by first | (rw [add_block]; exact hn244_1) | (show (Addr.add _ _).block ≠ _; rw [add_block]; exact hn244_1) | exact hn244_1) (.int .i64 ((rd_T34 t238 x37_1).f1))).trans hx244_1; replace hx244_0 := (cell_far (p := ⟨gb243, 2, none⟩) (by first | (rw [add_block]; exact hn244_2) | (show (Addr.add _ _).block ≠ _; rw [add_block]; exact hn244_2) | exact hn244_2) (.int .i64 ((rd_T34 t238 x37_1).f2))).trans hx244_0; replace hx244_1 := (cell_far (p := ⟨gb243, 2, none⟩) (by first | (rw [add_block]; exact hn244_2) | (show (Addr.add _ _).block ≠ _; rw [add_block]; exact hn244_2) | exact hn244_2) (.int .i64 ((rd_T34 t238 x37_1).f2))).trans hx244_1; clear hn244_0; clear hn244_1; clear hn244_2; replace p244 := eq_true p244; replace q244 := eq_true q244))
           go_roundg k1
           case measure => have := HK1.out; omega
           case rel => exact ⟨(x13_1), (wrap64 (x37_1 + 1)), (by first | rfl | (simp; done) | (simp [*]; done)), H', ⟨by have := HK1.out; omega⟩, ⟨by (with_reducible repeat (first | apply Kd.R_alloc | apply Kd.R_drewN | apply Kd.R_drew)); exact Kd.R_mono (Kd.R_far (p := ⟨gb243, 2, none⟩) (Kd.R_far (p := ⟨gb243, 1, none⟩) (Kd.R_far (p := ⟨gb243, 0, none⟩) (Kd.R_types HO_13.out BK243.out (by decide)) (fun _ hk => hk.2) (.int .i64 ((rd_T34 t238 x37_1).f0))) (fun _ hk => hk.2) (.int .i64 ((rd_T34 t238 x37_1).f1))) (fun _ hk => hk.2) (.int .i64 ((rd_T34 t238 x37_1).f2))) (fun _ hk => trivial)⟩, ⟨by (with_reducible repeat (first | apply Kd.R_alloc | apply Kd.R_drewN | apply Kd.R_drew)); exact Kd.R_mono (Kd.R_far (p := ⟨gb243, 2, none⟩) (Kd.R_far (p := ⟨gb243, 1, none⟩) (Kd.R_far (p := ⟨gb243, 0, none⟩) (Kd.R_mono HO_35.out (fun k_ hk => (⟨hk, hk.2⟩ : _ ∧ k_ ≠ gb243))) (fun _ hk => hk.2) (.int .i64 ((rd_T34 t238 x37_1).f0))) (fun _ hk => hk.2) (.int .i64 ((rd_T34 t238 x37_1).f1))) (fun _ hk => hk.2) (.int .i64 ((rd_T34 t238 x37_1).f2))) (fun _ hk => trivial)⟩, ⟨by (with_reducible repeat (first | refine blk_drewN ?_ _ | refine blk_drew ?_ | refine blk_alloc ?_ _)); refine blk_far ?_ NB235_243.out _; (with_reducible repeat (first | refine blk_drewN ?_ _ | refine blk_drew ?_ | refine blk_alloc ?_ _)); refine blk_far ?_ NB235_243.out _; (with_reducible repeat (first | refine blk_drewN ?_ _ | refine blk_drew ?_ | refine blk_alloc ?_ _)); refine blk_far ?_ NB235_243.out _; (with_reducible repeat (first | refine blk_drewN ?_ _ | refine blk_drew ?_ | refine blk_alloc ?_ _)); exact BK235.out⟩, ⟨bl HB⟩⟩
         ·rw [if_neg c23] at H
          exact absurd H (by simp)
        ·rw [if_neg c22] at H
         exact absurd H (by simp)
       ·rw [if_neg c21] at H
        exact absurd H (by simp)
      ·rw [if_neg c20] at H
       have c20b0 : decide (x37_1 < (t238.length : Int)) = false := decide_eq_false c20
       clear c20
       simp only [Option.some.injEq, Prod.mk.injEq] at H
       obtain ⟨rfl, rfl⟩ := H
       go_wp2
       go_ret2
       exact ⟨_, er, ra HO_13, bl HB⟩
   ·rw [if_neg c13] at H
    have c13b0 : (t241 == 0) = false := beq_eq_false_iff_ne.mpr c13
    have c13b1 : (t241 != 0) = true := bne_iff_ne.mpr c13
    simp only [Option.some.injEq, Prod.mk.injEq] at H
    obtain ⟨rfl, rfl⟩ := H
    go_enter Tryd.func19, Tryd.ntmps19
    go_wp2_with (first | ((with_reducible refine gate_dst (N := 4) rfl ?_); (try (refine gate_guard (by rfl) ?_; dsimp only)); refine box_event ?hg (N := 4) ?hd (cs := #[.int .i64 a0_0, .int .i64 a0_1, .int .i64 a0_2, .int .i64 a0_3, .bool a0_4]) (t := 23) ?hr ?_; (case hd => rfl); (case hg => rfl); (case hr => first | (go_simp; done) | (go_simp; rfl)); intro gb235 hg w38 hbox hb; have n0_ := Aside0.mk (below_step (bl HB) hb); have n1_ := Aside0.mk (hbox); have n2_ := Aside0.mk ((by rw [hg]; exact (below_size (bl HB)) : w.heap.size ≤ gb235)); have n3_ := Aside0.mk ((by rw [hg]; exact (below_size (bl HB)) : w.heap.size ≤ gb235)); clear HB; have HB := n0_; have BK235 := n1_; have GW235 := n2_; have GE235 := n3_; clear n0_ n1_ n2_ n3_; clear hb hbox hg; have hcz39_0 : w38.cell? ⟨gb235, 0, none⟩ = some (.int .i64 a0_0) := (blk_cell BK235.out 0).trans rfl; have hcz39_1 : w38.cell? ⟨gb235, 1, none⟩ = some (.int .i64 a0_1) := (blk_cell BK235.out 1).trans rfl; have hcz39_2 : w38.cell? ⟨gb235, 2, none⟩ = some (.int .i64 a0_2) := (blk_cell BK235.out 2).trans rfl; have hcz39_3 : w38.cell? ⟨gb235, 3, none⟩ = some (.int .i64 a0_3) := (blk_cell BK235.out 3).trans rfl; have hcz39_4 : w38.cell? ⟨gb235, 4, none⟩ = some (.bool a0_4) := (blk_cell BK235.out 4).trans rfl; have hfz39_0 := blk_frozen BK235.out 0; have hfz39_1 := blk_frozen BK235.out 1; have hfz39_2 := blk_frozen BK235.out 2; have hfz39_3 := blk_frozen BK235.out 3; have hfz39_4 := blk_frozen BK235.out 4) | ((with_reducible refine gate_callee (f := 24) rfl ?_); refine goesL_ (some 19) rfl rfl Tryd.func24 (by kernel_rfl) rfl #[.agg #[.int .i64 a0_0, .int .i64 a0_1, .int .i64 a0_2, .int .i64 a0_3, .bool a0_4], .slice A1 l1.length c1, .slice A2 l2.length c2] rfl gs ?_; (with_reducible refine (desk_boxFault.calls k a0_0 a0_1 a0_2 a0_3 a0_4 _ _ l1 _ _ l2 t236 _ ?side1 ?side2 ?side3 ?side4 A5.out).mono ?_); (case side1 => exact kc HR1 HB); (case side2 => exact HC1.out); (case side3 => exact kc HR2 HB); (case side4 => exact HC2.out); rintro e w40 ⟨rfl, hb⟩; refine ⟨_, rfl, ?_⟩; have n0_ := Aside0.mk (blk_below (g := gb235) (o := .cells #[.int .i64 a0_0, .int .i64 a0_1, .int .i64 a0_2, .int .i64 a0_3, .bool a0_4] 23 (0, 0)) (bk BK235) hb); have n1_ := Aside0.mk (below_step (bl HB) hb); clear BK235; clear HB; have BK235 := n0_; have HB := n1_; clear n0_ n1_; (try clear hb); (try clear hb2); (try clear hk); (try clear hi)) | ((with_reducible refine gate_callee (f := 30) rfl ?_); refine goesL_ (some 24) rfl rfl Tryd.func30 (by kernel_rfl) rfl #[.int .i64 a3, .int .i64 0, .int .i64 2000000000000000] rfl gs ?_; (with_reducible refine (kit_Outside.calls a3 0 2000000000000000 false _ A7.out).mono ?_); rintro e w' ⟨rfl, ⟨nd, rfl⟩⟩; refine ⟨_, rfl, ?_⟩; have hcz41_0 : w40.cell? ⟨gb235, 0, none⟩ = some (.int .i64 a0_0) := (blk_cell BK235.out 0).trans rfl; have hcz41_1 : w40.cell? ⟨gb235, 1, none⟩ = some (.int .i64 a0_1) := (blk_cell BK235.out 1).trans rfl; have hcz41_2 : w40.cell? ⟨gb235, 2, none⟩ = some (.int .i64 a0_2) := (blk_cell BK235.out 2).trans rfl; have hcz41_3 : w40.cell? ⟨gb235, 3, none⟩ = some (.int .i64 a0_3) := (blk_cell BK235.out 3).trans rfl; have hcz41_4 : w40.cell? ⟨gb235, 4, none⟩ = some (.bool a0_4) := (blk_cell BK235.out 4).trans rfl; have hfz41_0 := blk_frozen BK235.out 0; have hfz41_1 := blk_frozen BK235.out 1; have hfz41_2 := blk_frozen BK235.out 2; have hfz41_3 := blk_frozen BK235.out 3; have hfz41_4 := blk_frozen BK235.out 4) | ((with_reducible refine gate_callee (f := 25) rfl ?_); refine goesL_ (some 29) rfl rfl Tryd.func25 (by kernel_rfl) rfl #[.agg #[.int .i64 a0_0, .int .i64 a0_1, .int .i64 a0_2, .int .i64 a0_3, .bool a0_4], .slice A1 l1.length c1, .slice A2 l2.length c2] rfl gs ?_; (with_reducible refine (desk_outbox.calls k a0_0 a0_1 a0_2 a0_3 a0_4 _ _ l1 _ _ l2 t238 t241 _ ?side1 ?side2 ?side3 ?side4 A12.out).mono ?_); (case side1 => repeat (first | exact (Kd.C_below HR1.out (bl HB)) | (with_reducible refine Kd.C_alloc ?_ _) | (with_reducible refine Kd.C_drewN ?_ _) | (with_reducible refine Kd.C_drew ?_))); (case side2 => exact HC1.out); (case side3 => repeat (first | exact (Kd.C_below HR2.out (bl HB)) | (with_reducible refine Kd.C_alloc ?_ _) | (with_reducible refine Kd.C_drewN ?_ _) | (with_reducible refine Kd.C_drew ?_))); (case side4 => exact HC2.out); rintro e w42 ⟨v239, rfl, ho0, hb⟩; refine ⟨_, rfl, ?_⟩; have n0_ := Aside0.mk (Kd.R_lower ho0 (below_size (bl HB))); have n1_ := Aside0.mk (blk_below (g := gb235) (o := .cells #[.int .i64 a0_0, .int .i64 a0_1, .int .i64 a0_2, .int .i64 a0_3, .bool a0_4] 23 (0, 0)) (bk BK235) hb); have n2_ := Aside0.mk (below_step (bl HB) hb); clear BK235; clear HB; have HO240 := n0_; have BK235 := n1_; have HB := n2_; clear n0_ n1_ n2_; (try clear hb); (try clear hb2); (try clear hk); (try clear hi); (try clear ho0)))
    go_ret2
    exact ⟨_, er, by first | exact Kd.R_nil _ _ _ _ _ | exact Kd.N_nil _ _ _ _ _ | exact Kd.V_nil _ _ _ _ _ | exact Kd.Q_nil _ _ _ _ _ | exact Kd.S_nil _ _ _ _ _, bl HB⟩
 ·rw [if_neg c6] at H
  have c6b0 : (t236 == 0) = false := beq_eq_false_iff_ne.mpr c6
  have c6b1 : (t236 != 0) = true := bne_iff_ne.mpr c6
  simp only [Option.some.injEq, Prod.mk.injEq] at H
  obtain ⟨rfl, rfl⟩ := H
  go_enter Tryd.func19, Tryd.ntmps19
  go_wp2_with (first | ((with_reducible refine gate_dst (N := 4) rfl ?_); (try (refine gate_guard (by rfl) ?_; dsimp only)); refine box_event ?hg (N := 4) ?hd (cs := #[.int .i64 a0_0, .int .i64 a0_1, .int .i64 a0_2, .int .i64 a0_3, .bool a0_4]) (t := 23) ?hr ?_; (case hd => rfl); (case hg => rfl); (case hr => first | (go_simp; done) | (go_simp; rfl)); intro gb235 hg w43 hbox hb; have n0_ := Aside0.mk (below_step (bl HB) hb); have n1_ := Aside0.mk (hbox); have n2_ := Aside0.mk ((by rw [hg]; exact (below_size (bl HB)) : w.heap.size ≤ gb235)); have n3_ := Aside0.mk ((by rw [hg]; exact (below_size (bl HB)) : w.heap.size ≤ gb235)); clear HB; have HB := n0_; have BK235 := n1_; have GW235 := n2_; have GE235 := n3_; clear n0_ n1_ n2_ n3_; clear hb hbox hg; have hcz44_0 : w43.cell? ⟨gb235, 0, none⟩ = some (.int .i64 a0_0) := (blk_cell BK235.out 0).trans rfl; have hcz44_1 : w43.cell? ⟨gb235, 1, none⟩ = some (.int .i64 a0_1) := (blk_cell BK235.out 1).trans rfl; have hcz44_2 : w43.cell? ⟨gb235, 2, none⟩ = some (.int .i64 a0_2) := (blk_cell BK235.out 2).trans rfl; have hcz44_3 : w43.cell? ⟨gb235, 3, none⟩ = some (.int .i64 a0_3) := (blk_cell BK235.out 3).trans rfl; have hcz44_4 : w43.cell? ⟨gb235, 4, none⟩ = some (.bool a0_4) := (blk_cell BK235.out 4).trans rfl; have hfz44_0 := blk_frozen BK235.out 0; have hfz44_1 := blk_frozen BK235.out 1; have hfz44_2 := blk_frozen BK235.out 2; have hfz44_3 := blk_frozen BK235.out 3; have hfz44_4 := blk_frozen BK235.out 4) | ((with_reducible refine gate_callee (f := 24) rfl ?_); refine goesL_ (some 19) rfl rfl Tryd.func24 (by kernel_rfl) rfl #[.agg #[.int .i64 a0_0, .int .i64 a0_1, .int .i64 a0_2, .int .i64 a0_3, .bool a0_4], .slice A1 l1.length c1, .slice A2 l2.length c2] rfl gs ?_; (with_reducible refine (desk_boxFault.calls k a0_0 a0_1 a0_2 a0_3 a0_4 _ _ l1 _ _ l2 t236 _ ?side1 ?side2 ?side3 ?side4 A5.out).mono ?_); (case side1 => exact kc HR1 HB); (case side2 => exact HC1.out); (case side3 => exact kc HR2 HB); (case side4 => exact HC2.out); rintro e w45 ⟨rfl, hb⟩; refine ⟨_, rfl, ?_⟩; have n0_ := Aside0.mk (blk_below (g := gb235) (o := .cells #[.int .i64 a0_0, .int .i64 a0_1, .int .i64 a0_2, .int .i64 a0_3, .bool a0_4] 23 (0, 0)) (bk BK235) hb); have n1_ := Aside0.mk (below_step (bl HB) hb); clear BK235; clear HB; have BK235 := n0_; have HB := n1_; clear n0_ n1_; (try clear hb); (try clear hb2); (try clear hk); (try clear hi)))
  go_ret2
  exact ⟨_, er, by first | exact Kd.R_nil _ _ _ _ _ | exact Kd.N_nil _ _ _ _ _ | exact Kd.V_nil _ _ _ _ _ | exact Kd.Q_nil _ _ _ _ _ | exact Kd.S_nil _ _ _ _ _, bl HB⟩

/-! ### interchangelaw12_DeskPendingMatchesSpec: function 5 -/
def interchangelaw12_DeskPendingMatchesSpec.f (k : Nat) (a0_0 : Int) (a0_1 : Int) (a0_2 : Int) (a0_3 : Int) (a0_4 : Bool) (l1 : List (S42)) (l2 : List (S44)) (a3 : Int) : Option (Bool) := (interchangeref12_PendingAt.f k a0_0 a0_1 a0_2 a0_3 a0_4 l1 l2 a3).bind fun bt249 => ((desk_PendingAt.f k a0_0 a0_1 a0_2 a0_3 a0_4 l1 l2 a3).bind fun bt253 => (if bt253.2 = bt249.2 then ((slices_Equal__int_int.f k bt253.1 bt249.1).bind fun t257 => (if t257 = true then ((interchangelaw12_works.f k).bind fun t258 => (some t258)) else (some false))) else (some false)))
theorem interchangelaw12_DeskPendingMatchesSpec.mono : ∀ a0 a1 a2 a3 a4 a5 a6 a7 k, LeO (interchangelaw12_DeskPendingMatchesSpec.f k a0 a1 a2 a3 a4 a5 a6 a7) (interchangelaw12_DeskPendingMatchesSpec.f (k + 1) a0 a1 a2 a3 a4 a5 a6 a7) := by
 intro a0 a1 a2 a3 a4 a5 a6 a7 k
 unfold interchangelaw12_DeskPendingMatchesSpec.f
 repeat' first
   | (with_reducible exact desk_PendingAt.mono _ _ _ _ _ _ _ _ _)
   | (with_reducible exact interchangelaw12_works.mono _)
   | (with_reducible exact interchangeref12_PendingAt.mono _ _ _ _ _ _ _ _ _)
   | (with_reducible exact slices_Equal__int_int.mono _ _ _)
   | (with_reducible exact LeO.refl _)
   | (with_reducible exact LeO.none _)
   | (with_reducible refine LeO.ite ?_ ?_)
   | (with_reducible refine LeO.bind ?_ (fun _ => ?_))
   | exact desk_PendingAt.mono _ _ _ _ _ _ _ _ _
   | exact interchangelaw12_works.mono _
   | exact interchangeref12_PendingAt.mono _ _ _ _ _ _ _ _ _
   | exact slices_Equal__int_int.mono _ _ _
   | exact LeO.none _
   | refine LeO.ite ?_ ?_
   | refine LeO.bind ?_ (fun _ => ?_)
set_option maxHeartbeats 8000000 in
set_option maxRecDepth 100000 in
theorem interchangelaw12_DeskPendingMatchesSpec.calls (k : Nat) (a0_0 : Int) (a0_1 : Int) (a0_2 : Int) (a0_3 : Int) (a0_4 : Bool) (A1 : Option Addr) (c1 : Nat) (l1 : List (S42)) (A2 : Option Addr) (c2 : Nat) (l2 : List (S44)) (a3 : Int) (r : Bool) (w : World) (hr1 : Kd.C k42 w A1 l1.length l1) (hc1 : l1.length ≤ c1) (hr2 : Kd.C k44 w A2 l2.length l2) (hc2 : l2.length ≤ c2) (h : interchangelaw12_DeskPendingMatchesSpec.f k a0_0 a0_1 a0_2 a0_3 a0_4 l1 l2 a3 = some r) (rt : r = true) :
  Calls Tryd.prog 5 #[.agg #[.int .i64 a0_0, .int .i64 a0_1, .int .i64 a0_2, .int .i64 a0_3, .bool a0_4], .slice A1 l1.length c1, .slice A2 l2.length c2, .int .i64 a3] w fun e w' => e = .returned (.bool r) ∧ Below w.heap.size w w' := by
 have hu23 := Tryd.underlying23
 have HR1 := Aside0.mk hr1
 have HC1 := Aside0.mk hc1
 clear hr1 hc1
 have HR2 := Aside0.mk hr2
 have HC2 := Aside0.mk hc2
 clear hr2 hc2
 have HB := Aside0.mk (Below.refl w.heap.size w)
 have H : ((interchangeref12_PendingAt.f k a0_0 a0_1 a0_2 a0_3 a0_4 l1 l2 a3).bind fun bt249 => ((desk_PendingAt.f k a0_0 a0_1 a0_2 a0_3 a0_4 l1 l2 a3).bind fun bt253 => (if bt253.2 = bt249.2 then ((slices_Equal__int_int.f k bt253.1 bt249.1).bind fun t257 => (if t257 = true then ((interchangelaw12_works.f k).bind fun t258 => (some t258)) else (some false))) else (some false)))) = some r := h
 clear h
 have RT := Aside0.mk rt
 clear rt
 replace H := Option.bind_eq_some_iff.mp H
 obtain ⟨⟨t249, t252⟩, A50, H⟩ := H
 replace H : ((desk_PendingAt.f k a0_0 a0_1 a0_2 a0_3 a0_4 l1 l2 a3).bind fun bt253 => (if bt253.2 = t252 then ((slices_Equal__int_int.f k bt253.1 t249).bind fun t257 => (if t257 = true then ((interchangelaw12_works.f k).bind fun t258 => (some t258)) else (some false))) else (some false))) = some r := H
 have A5 := Aside0.mk A50
 clear A50
 replace H := Option.bind_eq_some_iff.mp H
 obtain ⟨⟨t253, t256⟩, A60, H⟩ := H
 replace H : (if t256 = t252 then ((slices_Equal__int_int.f k t253 t249).bind fun t257 => (if t257 = true then ((interchangelaw12_works.f k).bind fun t258 => (some t258)) else (some false))) else (some false)) = some r := H
 have A6 := Aside0.mk A60
 clear A60
 by_cases c7 : t256 = t252
 ·rw [if_pos c7] at H
  have c7b0 : (t256 == t252) = true := beq_iff_eq.mpr c7
  have c7b1 : (t256 != t252) = false := bne_eq_false_iff_eq.mpr c7
  clear c7
  replace H := Option.bind_eq_some_iff.mp H
  obtain ⟨t257, A80, H⟩ := H
  replace H : (if t257 = true then ((interchangelaw12_works.f k).bind fun t258 => (some t258)) else (some false)) = some r := H
  have A8 := Aside0.mk A80
  clear A80
  by_cases c9 : t257 = true
  ·subst c9
   have H1 : ((interchangelaw12_works.f k).bind fun t258 => (some t258)) = some r := by rw [if_pos rfl] at H; exact H
   clear H
   have H := H1
   clear H1
   replace H := Option.bind_eq_some_iff.mp H
   obtain ⟨t258, A100, H⟩ := H
   replace H : (some t258) = some r := H
   have A10 := Aside0.mk A100
   clear A100
   obtain rfl := Option.some.inj H
   go_enter Tryd.func5, Tryd.ntmps5
   go_wp2_with (first | ((with_reducible refine gate_dst (N := 4) rfl ?_); refine box_event ?hg (N := 4) ?hd (cs := #[.int .i64 a0_0, .int .i64 a0_1, .int .i64 a0_2, .int .i64 a0_3, .bool a0_4]) (t := 23) ?hr ?_; (case hd => rfl); (case hg => rfl); (case hr => first | (go_simp; done) | (go_simp; rfl)); intro gb248 hg w11 hbox hb; have n0_ := Aside0.mk (below_step (bl HB) hb); have n1_ := Aside0.mk (hbox); have n2_ := Aside0.mk ((by rw [hg]; exact (below_size (bl HB)) : w.heap.size ≤ gb248)); have n3_ := Aside0.mk ((by rw [hg]; exact (below_size (bl HB)) : w.heap.size ≤ gb248)); clear HB; have HB := n0_; have BK248 := n1_; have GW248 := n2_; have GE248 := n3_; clear n0_ n1_ n2_ n3_; clear hb hbox hg; have hcz12_0 : w11.cell? ⟨gb248, 0, none⟩ = some (.int .i64 a0_0) := (blk_cell BK248.out 0).trans rfl; have hcz12_1 : w11.cell? ⟨gb248, 1, none⟩ = some (.int .i64 a0_1) := (blk_cell BK248.out 1).trans rfl; have hcz12_2 : w11.cell? ⟨gb248, 2, none⟩ = some (.int .i64 a0_2) := (blk_cell BK248.out 2).trans rfl; have hcz12_3 : w11.cell? ⟨gb248, 3, none⟩ = some (.int .i64 a0_3) := (blk_cell BK248.out 3).trans rfl; have hcz12_4 : w11.cell? ⟨gb248, 4, none⟩ = some (.bool a0_4) := (blk_cell BK248.out 4).trans rfl; have hfz12_0 := blk_frozen BK248.out 0; have hfz12_1 := blk_frozen BK248.out 1; have hfz12_2 := blk_frozen BK248.out 2; have hfz12_3 := blk_frozen BK248.out 3; have hfz12_4 := blk_frozen BK248.out 4) | ((with_reducible refine gate_callee (f := 18) rfl ?_); refine goesL_ (some 18) rfl rfl Tryd.func18 (by kernel_rfl) rfl #[.agg #[.int .i64 a0_0, .int .i64 a0_1, .int .i64 a0_2, .int .i64 a0_3, .bool a0_4], .slice A1 l1.length c1, .slice A2 l2.length c2, .int .i64 a3] rfl gs ?_; (with_reducible refine (interchangeref12_PendingAt.calls k a0_0 a0_1 a0_2 a0_3 a0_4 _ _ l1 _ _ l2 a3 t249 t252 _ ?side1 ?side2 ?side3 ?side4 A5.out).mono ?_); (case side1 => exact kc HR1 HB); (case side2 => exact HC1.out); (case side3 => exact kc HR2 HB); (case side4 => exact HC2.out); rintro e w13 ⟨v250, rfl, ho0, hb⟩; refine ⟨_, rfl, ?_⟩; have n0_ := Aside0.mk (Kd.R_lower ho0 (below_size (bl HB))); have n1_ := Aside0.mk (blk_below (g := gb248) (o := .cells #[.int .i64 a0_0, .int .i64 a0_1, .int .i64 a0_2, .int .i64 a0_3, .bool a0_4] 23 (0, 0)) (bk BK248) hb); have n2_ := Aside0.mk (below_step (bl HB) hb); clear BK248; clear HB; have HO251 := n0_; have BK248 := n1_; have HB := n2_; clear n0_ n1_ n2_; (try clear hb); (try clear hb2); (try clear hk); (try clear hi); (try clear ho0); have hcz14_0 : w13.cell? ⟨gb248, 0, none⟩ = some (.int .i64 a0_0) := (blk_cell BK248.out 0).trans rfl; have hcz14_1 : w13.cell? ⟨gb248, 1, none⟩ = some (.int .i64 a0_1) := (blk_cell BK248.out 1).trans rfl; have hcz14_2 : w13.cell? ⟨gb248, 2, none⟩ = some (.int .i64 a0_2) := (blk_cell BK248.out 2).trans rfl; have hcz14_3 : w13.cell? ⟨gb248, 3, none⟩ = some (.int .i64 a0_3) := (blk_cell BK248.out 3).trans rfl; have hcz14_4 : w13.cell? ⟨gb248, 4, none⟩ = some (.bool a0_4) := (blk_cell BK248.out 4).trans rfl; have hfz14_0 := blk_frozen BK248.out 0; have hfz14_1 := blk_frozen BK248.out 1; have hfz14_2 := blk_frozen BK248.out 2; have hfz14_3 := blk_frozen BK248.out 3; have hfz14_4 := blk_frozen BK248.out 4) | ((with_reducible refine gate_callee (f := 19) rfl ?_); refine goesL_ (some 26) rfl rfl Tryd.func19 (by kernel_rfl) rfl #[.agg #[.int .i64 a0_0, .int .i64 a0_1, .int .i64 a0_2, .int .i64 a0_3, .bool a0_4], .slice A1 l1.length c1, .slice A2 l2.length c2, .int .i64 a3] rfl gs ?_; (with_reducible refine (desk_PendingAt.calls k a0_0 a0_1 a0_2 a0_3 a0_4 _ _ l1 _ _ l2 a3 t253 t256 _ ?side1 ?side2 ?side3 ?side4 A6.out).mono ?_); (case side1 => exact kc HR1 HB); (case side2 => exact HC1.out); (case side3 => exact kc HR2 HB); (case side4 => exact HC2.out); rintro e w15 ⟨v254, rfl, ho0, hb⟩; refine ⟨_, rfl, ?_⟩; have n0_ := Aside0.mk (Kd.R_elder' (ra HO251) (Kd.R_base ho0) hb); have n1_ := Aside0.mk (Kd.R_lower (Kd.R_new' ho0 (Kd.R_lt (ra HO251))) (below_size (bl HB))); have n2_ := Aside0.mk (blk_below (g := gb248) (o := .cells #[.int .i64 a0_0, .int .i64 a0_1, .int .i64 a0_2, .int .i64 a0_3, .bool a0_4] 23 (0, 0)) (bk BK248) hb); have n3_ := Aside0.mk (below_step (bl HB) hb); clear HO251; clear BK248; clear HB; have HO251 := n0_; have HO255 := n1_; have BK248 := n2_; have HB := n3_; clear n0_ n1_ n2_ n3_; (try clear hb); (try clear hb2); (try clear hk); (try clear hi); (try clear ho0); obtain ⟨Ao16, co16, eo16⟩ := Kd.R_slice HO255.out; subst eo16; obtain ⟨Ao17, co17, eo17⟩ := Kd.R_slice HO251.out; subst eo17) | (go_at_call 20; (with_reducible refine (slices_Equal__int_int.calls k _ _ t253 _ _ t249 true _ ?side1 ?side2 ?side3 ?side4 A8.out).mono ?_); (case side1 => repeat (first | exact (Kd.R_reads' HO255.out).2.2 | (with_reducible refine Kd.C_alloc ?_ _) | (with_reducible refine Kd.C_drewN ?_ _) | (with_reducible refine Kd.C_drew ?_))); (case side2 => exact (Kd.R_reads' HO255.out).2.1); (case side3 => repeat (first | exact (Kd.R_reads' HO251.out).2.2 | (with_reducible refine Kd.C_alloc ?_ _) | (with_reducible refine Kd.C_drewN ?_ _) | (with_reducible refine Kd.C_drew ?_))); (case side4 => exact (Kd.R_reads' HO251.out).2.1); rintro e w' ⟨rfl, ⟨nd, rfl⟩⟩) | (go_at_call 14; (with_reducible refine (interchangelaw12_works.calls k  t258 _ A10.out).mono ?_); rintro e w18 ⟨rfl, hb⟩; have n0_ := Aside0.mk (Kd.R_below (ra HO251) hb); have n1_ := Aside0.mk (Kd.R_below (ra HO255) hb); have n2_ := Aside0.mk (blk_below (g := gb248) (o := .cells #[.int .i64 a0_0, .int .i64 a0_1, .int .i64 a0_2, .int .i64 a0_3, .bool a0_4] 23 (0, 0)) (bk BK248) hb); have n3_ := Aside0.mk (below_step (bl HB) hb); clear HO251; clear HO255; clear BK248; clear HB; have HO251 := n0_; have HO255 := n1_; have BK248 := n2_; have HB := n3_; clear n0_ n1_ n2_ n3_; (try clear hb); (try clear hb2); (try clear hk); (try clear hi)))
   go_ret
   exact ⟨er, bl HB⟩
  ·replace c9 := Bool.eq_false_iff.mpr c9
   subst c9
   have H1 : (some false) = some r := by rw [if_neg (show ¬ (false = true) by decide)] at H; exact H
   clear H
   have H := H1
   clear H1
   exact absurd ((Option.some.inj H).trans RT.out) Bool.false_ne_true
 ·rw [if_neg c7] at H
  have c7b0 : (t256 == t252) = false := beq_eq_false_iff_ne.mpr c7
  have c7b1 : (t256 != t252) = true := bne_iff_ne.mpr c7
  exact absurd ((Option.some.inj H).trans RT.out) Bool.false_ne_true

end Go.Proofs.YtemokeankdgfeaaDoor.PDeskPendingMatchesSpec
