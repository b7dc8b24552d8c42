-- Printed for this claim by px.py (this repo's wip/tools) over the kit's print; not the kit's own print.
import Derived.Test.YtemokeankdgfeaaDoorPDeskGivesUpLastx0
import Derived.Test.YtemokeankdgfeaaDoorPDeskGivesUpLastx1
namespace Go.Proofs.YtemokeankdgfeaaDoor.PDeskGivesUpLast
open Go.Proofs.YtemokeankdgfeaaDoor.Sq
open Go.Proofs.YtemokeankdgfeaaDoor.Mp
open Go.RowKit Go.Proofs.YtemokeankdgfeaaDoorW.PrintWords Go.Proofs.YtemokeankdgfeaaDoorW.PrintLast Go.Proofs.YtemokeankdgfeaaDoorW.PrintMore
attribute [local go_sem] max2_int min2_int max_two min_two max_three min_three max_four min_four   -- for this text's walks alone
set_option linter.unusedVariables false
set_option linter.unusedSimpArgs false

/-! ### desk_waits: function 33 -/
def desk_waits.l0 : Nat → List Int → Int → Int → Int → Int → Int → Int → Int → Bool → Option (List Int)
 | 0, _, _, _, _, _, _, _, _, _ => none
 | k + 1, x3, x4, x9, x10, x123000, x123001, x123002, x123003, x123004 => if x10 < x9 then (if x3.length < 17592186044416 then (desk_waits.l0 k (x3 ++ [x4]) (mn (wrap64 (x4 * x123001)) x123002) x9 (wrap64 (x10 + 1)) x123000 x123001 x123002 x123003 x123004) else (none)) else (some x3)
def desk_waits.f (k : Nat) (a0_0 : Int) (a0_1 : Int) (a0_2 : Int) (a0_3 : Int) (a0_4 : Bool) : Option (List Int) := desk_waits.l0 k ([] : List Int) a0_0 (wrap64 (a0_3 - 1)) 0 a0_0 a0_1 a0_2 a0_3 a0_4
theorem desk_waits.mono_l : ∀ k, (∀ y0 y1 y2 y3 y4 y5 y6 y7 y8, LeO (desk_waits.l0 k y0 y1 y2 y3 y4 y5 y6 y7 y8) (desk_waits.l0 (k + 1) y0 y1 y2 y3 y4 y5 y6 y7 y8))
 | 0 => fun _ _ _ _ _ _ _ _ _ r h => by simp [desk_waits.l0] at h
 | k + 1 => by
  have ih0 := desk_waits.mono_l k
  ·intro y0 y1 y2 y3 y4 y5 y6 y7 y8
   unfold desk_waits.l0
   repeat' first
   | (with_reducible exact ih0 _ _ _ _ _ _ _ _ _)
   | (with_reducible exact LeO.refl _)
   | (with_reducible exact LeO.none _)
   | (with_reducible refine LeO.ite ?_ ?_)
   | (with_reducible refine LeO.bind ?_ (fun _ => ?_))
   | exact ih0 _ _ _ _ _ _ _ _ _
   | exact LeO.none _
   | refine LeO.ite ?_ ?_
   | refine LeO.bind ?_ (fun _ => ?_)
theorem desk_waits.mono : ∀ a0 a1 a2 a3 a4 k, LeO (desk_waits.f k a0 a1 a2 a3 a4) (desk_waits.f (k + 1) a0 a1 a2 a3 a4) := by
 intro a0 a1 a2 a3 a4 k
 have ih0 := desk_waits.mono_l k
 unfold desk_waits.f
 repeat' first
   | (with_reducible exact ih0 _ _ _ _ _ _ _ _ _)
   | (with_reducible exact LeO.refl _)
   | (with_reducible exact LeO.none _)
   | (with_reducible refine LeO.ite ?_ ?_)
   | (with_reducible refine LeO.bind ?_ (fun _ => ?_))
   | exact ih0 _ _ _ _ _ _ _ _ _
   | exact LeO.none _
   | refine LeO.ite ?_ ?_
   | refine LeO.bind ?_ (fun _ => ?_)
set_option maxHeartbeats 8000000 in
set_option maxRecDepth 100000 in
theorem desk_waits.calls (k : Nat) (a0_0 : Int) (a0_1 : Int) (a0_2 : Int) (a0_3 : Int) (a0_4 : Bool) (r : List Int) (w : World) (h : desk_waits.f k a0_0 a0_1 a0_2 a0_3 a0_4 = some r) :
  Calls Tryd.prog 33 #[.agg #[.int .i64 a0_0, .int .i64 a0_1, .int .i64 a0_2, .int .i64 a0_3, .bool a0_4]] w fun e w' => ∃ v0_ : Value, e = .returned (v0_) ∧ Kd.R (Kd.int .i64) 3 w' w.heap.size (fun _ => True) v0_ r ∧ Below w.heap.size w w' := by
 have hu23 := Tryd.underlying23
 have HB := Aside0.mk (Below.refl w.heap.size w)
 have H : (desk_waits.l0 k ([] : List Int) a0_0 (wrap64 (a0_3 - 1)) 0 a0_0 a0_1 a0_2 a0_3 a0_4) = some r := h
 clear h
 have H' := Aside0.mk H
 clear H
 go_enter Tryd.func33, Tryd.ntmps33
 go_wp2_with (first | ((with_reducible refine gate_dst (N := 1) rfl ?_); refine box_event ?hg (N := 1) ?hd (cs := #[.int .i64 a0_0, .int .i64 a0_1, .int .i64 a0_2, .int .i64 a0_3, .bool a0_4]) (t := 23) ?hr ?_; (case hd => rfl); (case hg => rfl); (case hr => first | (go_simp; done) | (go_simp; rfl)); intro gb122 hg w2 hbox hb; have n0_ := Aside0.mk (below_step (bl HB) hb); have n1_ := Aside0.mk (hbox); have n2_ := Aside0.mk ((by rw [hg]; exact (below_size (bl HB)) : w.heap.size ≤ gb122)); have n3_ := Aside0.mk ((by rw [hg]; exact (below_size (bl HB)) : w.heap.size ≤ gb122)); clear HB; have HB := n0_; have BK122 := n1_; have GW122 := n2_; have GE122 := n3_; clear n0_ n1_ n2_ n3_; clear hb hbox hg; have hcz3_0 : w2.cell? ⟨gb122, 0, none⟩ = some (.int .i64 a0_0) := (blk_cell BK122.out 0).trans rfl; have hcz3_1 : w2.cell? ⟨gb122, 1, none⟩ = some (.int .i64 a0_1) := (blk_cell BK122.out 1).trans rfl; have hcz3_2 : w2.cell? ⟨gb122, 2, none⟩ = some (.int .i64 a0_2) := (blk_cell BK122.out 2).trans rfl; have hcz3_3 : w2.cell? ⟨gb122, 3, none⟩ = some (.int .i64 a0_3) := (blk_cell BK122.out 3).trans rfl; have hcz3_4 : w2.cell? ⟨gb122, 4, none⟩ = some (.bool a0_4) := (blk_cell BK122.out 4).trans rfl; have hfz3_0 := blk_frozen BK122.out 0; have hfz3_1 := blk_frozen BK122.out 1; have hfz3_2 := blk_frozen BK122.out 2; have hfz3_3 := blk_frozen BK122.out 3; have hfz3_4 := blk_frozen BK122.out 4))
 go_loopg [3, 4, 10] k (fun kq v3 v4 v10 w' => ∃ (x3_1 : List Int) (x4_1 : Int) (x10_1 : Int), v4 = .int .i64 x4_1 ∧ v10 = .int .i64 x10_1 ∧ Aside0 (desk_waits.l0 kq x3_1 x4_1 (wrap64 (a0_3 - 1)) x10_1 a0_0 a0_1 a0_2 a0_3 a0_4 = some r) ∧ Aside0 (kq ≤ k) ∧ Aside0 (Kd.R (Kd.int .i64) 3 w' w.heap.size (fun _ => True) v3 x3_1) ∧ Aside0 (w'.heap[gb122]? = some (.cells #[.int .i64 a0_0, .int .i64 a0_1, .int .i64 a0_2, .int .i64 a0_3, .bool a0_4] 23 (0, 0))) ∧ Aside0 (Below w.heap.size w w'))
 case atStart => exact ⟨(([] : List Int)), (a0_0), (0), (by first | rfl | (simp; done) | (simp [*]; done)), (by first | rfl | (simp; done) | (simp [*]; done)), H', ⟨Nat.le_refl _⟩, ⟨by first | exact Kd.R_nil _ _ _ _ _ | exact Kd.N_nil _ _ _ _ _ | exact Kd.V_nil _ _ _ _ _ | exact Kd.Q_nil _ _ _ _ _ | exact Kd.S_nil _ _ _ _ _⟩, ⟨bk BK122⟩, ⟨bl HB⟩⟩
 case round =>
  clear H'
  try clear p2
  try clear c3
  try clear hcz3_0
  try clear hcz3_1
  try clear hcz3_2
  try clear hcz3_3
  try clear hcz3_4
  try clear hfz3_0
  try clear hfz3_1
  try clear hfz3_2
  try clear hfz3_3
  try clear hfz3_4
  obtain ⟨x3_1, x4_1, x10_1, rfl, rfl, HA, HK1, HO_3, BK122, HB⟩ := hrel
  cases gk with
  | zero => exact absurd HA.out (by simp [desk_waits.l0])
  | succ k1 =>
   have H := HA.out
   clear HA
   simp only [desk_waits.l0] at H
   by_cases c4 : x10_1 < (wrap64 (a0_3 - 1))
   ·rw [if_pos c4] at H
    have c4b0 : decide (x10_1 < (wrap64 (a0_3 - 1))) = true := decide_eq_true c4
    clear c4
    by_cases c5 : x3_1.length < 17592186044416
    ·rw [if_pos c5] at H
     have LMc5 := Aside0.mk c5
     clear c5
     obtain ⟨y123, hy123⟩ : ∃ y_ : List Int, y_ = (x3_1 ++ [x4_1]) := ⟨_, rfl⟩
     replace H : (desk_waits.l0 k1 y123 (mn (wrap64 (x4_1 * a0_1)) a0_2) (wrap64 (a0_3 - 1)) (wrap64 (x10_1 + 1)) a0_0 a0_1 a0_2 a0_3 a0_4) = some r := by first | (rw [hy123]; with_reducible exact H) | (have H2_ := (Option.bind_some _ _).symm.trans H; rw [hy123]; with_reducible exact H2_) | (have H2_ := (Option.bind_some _ _).symm.trans H; with_reducible exact H2_) | with_reducible exact H | (rw [hy123]; exact H) | exact H
     have Ny123 := Aside0.mk hy123
     clear hy123
     obtain ⟨ji6, hji6⟩ : ∃ j_ : Int, (mn (wrap64 (x4_1 * a0_1)) a0_2) = j_ := ⟨_, rfl⟩
     replace H : (desk_waits.l0 k1 y123 ji6 (wrap64 (a0_3 - 1)) (wrap64 (x10_1 + 1)) a0_0 a0_1 a0_2 a0_3 a0_4) = some r := by first | (rw [hji6] at H; exact H) | (simp only [hji6] at H ⊢; exact H)
     have hji6_ : (if a0_2 < (wrap64 (x4_1 * a0_1)) then a0_2 else (wrap64 (x4_1 * a0_1))) = ji6 := hji6
     have H' := Aside0.mk H
     clear H
     go_wp2_with (first | ((with_reducible refine gate_builtin (b := .append) (xs := #[.tmp 12, .tmp 14]) rfl ?_); at_builtin; refine Kd.R_append (Kd.int .i64) (w0 := w) w.heap.size rfl (.tmp 12) (.tmp 14) 45 3 (.int .i64 0) 8 rfl Tryd.underlying45 info3 rfl (by decide) (by omega) u3 x3_1 x4_1 [.int .i64 x4_1] (fun _ => True) (fun _ => False) rfl rfl ?aP (fun _ hk => hk.elim) ?aF ?aO ?aB ?aS ?aL ?_; (case aP => exact rfl); (case aB => exact (bl HB)); (case aF => exact (fun _ _ => trivial)); (case aO => exact (ra HO_3)); (case aS => exact (below_size (bl HB))); (case aL => have := LMc5.out; omega); intro v124 w7 ho hb hg hat; rw [← Ny123.out] at ho; have n0_ := Aside0.mk (blk_grown (g := gb122) (o := .cells #[.int .i64 a0_0, .int .i64 a0_1, .int .i64 a0_2, .int .i64 a0_3, .bool a0_4] 23 (0, 0)) (bk BK122) hg (Kd.R_ne HO_3.out BK122.out (by decide))); have n1_ := Aside0.mk (hb); have n2_ := Aside0.mk (ho); clear BK122; clear HB; clear HO_3; have BK122 := n0_; have HB := n1_; have HO125 := n2_; clear n0_ n1_ n2_; clear ho hb hg hat; have hcz8_0 : w7.cell? ⟨gb122, 0, none⟩ = some (.int .i64 a0_0) := (blk_cell BK122.out 0).trans rfl; have hcz8_1 : w7.cell? ⟨gb122, 1, none⟩ = some (.int .i64 a0_1) := (blk_cell BK122.out 1).trans rfl; have hcz8_2 : w7.cell? ⟨gb122, 2, none⟩ = some (.int .i64 a0_2) := (blk_cell BK122.out 2).trans rfl; have hcz8_3 : w7.cell? ⟨gb122, 3, none⟩ = some (.int .i64 a0_3) := (blk_cell BK122.out 3).trans rfl; have hcz8_4 : w7.cell? ⟨gb122, 4, none⟩ = some (.bool a0_4) := (blk_cell BK122.out 4).trans rfl; have hfz8_0 := blk_frozen BK122.out 0; have hfz8_1 := blk_frozen BK122.out 1; have hfz8_2 := blk_frozen BK122.out 2; have hfz8_3 := blk_frozen BK122.out 3; have hfz8_4 := blk_frozen BK122.out 4))
     go_roundg k1
     case measure => have := HK1.out; omega
     case rel => exact ⟨(y123), (ji6), (wrap64 (x10_1 + 1)), (by first | rfl | (simp; done) | (simp only [← hji6] <;> (first | rfl | simp)) | (simp [*]; done)), (by first | rfl | (simp; done) | (simp [*]; done)), H', ⟨by have := HK1.out; omega⟩, ⟨ra HO125⟩, ⟨bk BK122⟩, ⟨bl HB⟩⟩
    ·rw [if_neg c5] at H
     exact absurd H (by simp)
   ·rw [if_neg c4] at H
    have c4b0 : decide (x10_1 < (wrap64 (a0_3 - 1))) = false := decide_eq_false c4
    clear c4
    obtain rfl := Option.some.inj H
    go_wp2
    go_ret
    exact ⟨_, er, ra HO_3, bl HB⟩

/-! ### desk_answers_1: function 51 -/
def desk_answers_1.f (a0_0 : ByteArray) (a0_1 : Int) (a0_2 : Int) (a1_0 : ByteArray) (a2_0 : Int) : Option (Bool) := if a0_0.toList = a1_0.toList then (if a0_1 ≤ a2_0 then (some (decide (a2_0 < a0_2))) else (some false)) else (some false)
set_option maxHeartbeats 8000000 in
set_option maxRecDepth 100000 in
theorem desk_answers_1.calls (a0_0 : ByteArray) (a0_1 : Int) (a0_2 : Int) (B1_0 : Nat) (a1_0 : ByteArray) (B2_0 : Nat) (a2_0 : Int) (r : Bool) (w : World) (hv1_0 : w.heap[B1_0]? = some (.cells #[.string a1_0] 9 (0, 0))) (hv2_0 : w.heap[B2_0]? = some (.cells #[.int .i64 a2_0] 3 (0, 0))) (h : desk_answers_1.f a0_0 a0_1 a0_2 a1_0 a2_0 = some r) :
  Calls Tryd.prog 51 #[.agg #[.string a0_0, .int .i64 a0_1, .int .i64 a0_2], .pointer (some ⟨B1_0, 0, none⟩), .pointer (some ⟨B2_0, 0, none⟩)] w fun e w' => e = .returned (.bool r) ∧ Below w.heap.size w w' := by
 have hu44 := Tryd.underlying44
 have BK46 := Aside0.mk hv1_0
 clear hv1_0
 have BK52 := Aside0.mk hv2_0
 clear hv2_0
 have HB := Aside0.mk (Below.refl w.heap.size w)
 have H : (if a0_0.toList = a1_0.toList then (if a0_1 ≤ a2_0 then (some (decide (a2_0 < a0_2))) else (some false)) else (some false)) = some r := h
 clear h
 by_cases c4 : a0_0.toList = a1_0.toList
 ·rw [if_pos c4] at H
  have c4b0 : (a0_0.toList == a1_0.toList) = true := beq_iff_eq.mpr c4
  have c4b1 : (a0_0.toList != a1_0.toList) = false := bne_eq_false_iff_eq.mpr c4
  clear c4
  by_cases c5 : a0_1 ≤ a2_0
  ·rw [if_pos c5] at H
   have c5b0 : decide (a0_1 ≤ a2_0) = true := decide_eq_true c5
   clear c5
   obtain rfl := Option.some.inj H
   go_enter Tryd.func51, Tryd.ntmps51
   go_wp2_with (first | ((with_reducible refine gate_dst (N := 3) rfl ?_); refine box_event ?hg (N := 3) ?hd (cs := #[.string a0_0, .int .i64 a0_1, .int .i64 a0_2]) (t := 44) ?hr ?_; (case hd => rfl); (case hg => rfl); (case hr => first | (go_simp; done) | (go_simp; rfl)); intro gb126 hg w6 hbox hb; have n0_ := Aside0.mk (blk_below (g := B1_0) (o := .cells #[.string a1_0] 9 (0, 0)) (bk BK46) hb); have n1_ := Aside0.mk (blk_below (g := B2_0) (o := .cells #[.int .i64 a2_0] 3 (0, 0)) (bk BK52) hb); have n2_ := Aside0.mk (below_step (bl HB) hb); have n3_ := Aside0.mk (hbox); have n4_ := Aside0.mk ((by rw [hg]; exact (below_size (bl HB)) : w.heap.size ≤ gb126)); have n5_ := Aside0.mk ((by rw [hg]; exact (below_size (bl HB)) : w.heap.size ≤ gb126)); have n6_ := Aside0.mk ((by rw [hg]; exact Nat.ne_of_lt (blk_lt (g := B1_0) (o := .cells #[.string a1_0] 9 (0, 0)) (bk BK46)) : B1_0 ≠ gb126)); have n7_ := Aside0.mk ((by rw [hg]; exact Nat.ne_of_gt (blk_lt (g := B1_0) (o := .cells #[.string a1_0] 9 (0, 0)) (bk BK46)) : gb126 ≠ B1_0)); have n8_ := Aside0.mk ((by rw [hg]; exact Nat.ne_of_lt (blk_lt (g := B2_0) (o := .cells #[.int .i64 a2_0] 3 (0, 0)) (bk BK52)) : B2_0 ≠ gb126)); have n9_ := Aside0.mk ((by rw [hg]; exact Nat.ne_of_gt (blk_lt (g := B2_0) (o := .cells #[.int .i64 a2_0] 3 (0, 0)) (bk BK52)) : gb126 ≠ B2_0)); clear BK46; clear BK52; clear HB; have BK46 := n0_; have BK52 := n1_; have HB := n2_; have BK126 := n3_; have GW126 := n4_; have GE126 := n5_; have NB46_126 := n6_; have NB126_46 := n7_; have NB52_126 := n8_; have NB126_52 := n9_; clear n0_ n1_ n2_ n3_ n4_ n5_ n6_ n7_ n8_ n9_; clear hb hbox hg; have hnb7 := NB126_46.out; have hnc7 := NB46_126.out; have hnb8 := NB126_52.out; have hnc8 := NB52_126.out; have hcz9_0 : w6.cell? ⟨gb126, 0, none⟩ = some (.string a0_0) := (blk_cell BK126.out 0).trans rfl; have hcz9_1 : w6.cell? ⟨gb126, 1, none⟩ = some (.int .i64 a0_1) := (blk_cell BK126.out 1).trans rfl; have hcz9_2 : w6.cell? ⟨gb126, 2, none⟩ = some (.int .i64 a0_2) := (blk_cell BK126.out 2).trans rfl; have hfz9_0 := blk_frozen BK126.out 0; have hfz9_1 := blk_frozen BK126.out 1; have hfz9_2 := blk_frozen BK126.out 2; have hcz10_0 : w6.cell? ⟨B1_0, 0, none⟩ = some (.string a1_0) := (blk_cell BK46.out 0).trans rfl; have hfz10_0 := blk_frozen BK46.out 0; have hcz11_0 : w6.cell? ⟨B2_0, 0, none⟩ = some (.int .i64 a2_0) := (blk_cell BK52.out 0).trans rfl; have hfz11_0 := blk_frozen BK52.out 0))
   go_ret
   exact ⟨er, bl HB⟩
  ·rw [if_neg c5] at H
   have c5b0 : decide (a0_1 ≤ a2_0) = false := decide_eq_false c5
   clear c5
   obtain rfl := Option.some.inj H
   go_enter Tryd.func51, Tryd.ntmps51
   go_wp2_with (first | ((with_reducible refine gate_dst (N := 3) rfl ?_); refine box_event ?hg (N := 3) ?hd (cs := #[.string a0_0, .int .i64 a0_1, .int .i64 a0_2]) (t := 44) ?hr ?_; (case hd => rfl); (case hg => rfl); (case hr => first | (go_simp; done) | (go_simp; rfl)); intro gb126 hg w12 hbox hb; have n0_ := Aside0.mk (blk_below (g := B1_0) (o := .cells #[.string a1_0] 9 (0, 0)) (bk BK46) hb); have n1_ := Aside0.mk (blk_below (g := B2_0) (o := .cells #[.int .i64 a2_0] 3 (0, 0)) (bk BK52) hb); have n2_ := Aside0.mk (below_step (bl HB) hb); have n3_ := Aside0.mk (hbox); have n4_ := Aside0.mk ((by rw [hg]; exact (below_size (bl HB)) : w.heap.size ≤ gb126)); have n5_ := Aside0.mk ((by rw [hg]; exact (below_size (bl HB)) : w.heap.size ≤ gb126)); have n6_ := Aside0.mk ((by rw [hg]; exact Nat.ne_of_lt (blk_lt (g := B1_0) (o := .cells #[.string a1_0] 9 (0, 0)) (bk BK46)) : B1_0 ≠ gb126)); have n7_ := Aside0.mk ((by rw [hg]; exact Nat.ne_of_gt (blk_lt (g := B1_0) (o := .cells #[.string a1_0] 9 (0, 0)) (bk BK46)) : gb126 ≠ B1_0)); have n8_ := Aside0.mk ((by rw [hg]; exact Nat.ne_of_lt (blk_lt (g := B2_0) (o := .cells #[.int .i64 a2_0] 3 (0, 0)) (bk BK52)) : B2_0 ≠ gb126)); have n9_ := Aside0.mk ((by rw [hg]; exact Nat.ne_of_gt (blk_lt (g := B2_0) (o := .cells #[.int .i64 a2_0] 3 (0, 0)) (bk BK52)) : gb126 ≠ B2_0)); clear BK46; clear BK52; clear HB; have BK46 := n0_; have BK52 := n1_; have HB := n2_; have BK126 := n3_; have GW126 := n4_; have GE126 := n5_; have NB46_126 := n6_; have NB126_46 := n7_; have NB52_126 := n8_; have NB126_52 := n9_; clear n0_ n1_ n2_ n3_ n4_ n5_ n6_ n7_ n8_ n9_; clear hb hbox hg; have hnb13 := NB126_46.out; have hnc13 := NB46_126.out; have hnb14 := NB126_52.out; have hnc14 := NB52_126.out; have hcz15_0 : w12.cell? ⟨gb126, 0, none⟩ = some (.string a0_0) := (blk_cell BK126.out 0).trans rfl; have hcz15_1 : w12.cell? ⟨gb126, 1, none⟩ = some (.int .i64 a0_1) := (blk_cell BK126.out 1).trans rfl; have hcz15_2 : w12.cell? ⟨gb126, 2, none⟩ = some (.int .i64 a0_2) := (blk_cell BK126.out 2).trans rfl; have hfz15_0 := blk_frozen BK126.out 0; have hfz15_1 := blk_frozen BK126.out 1; have hfz15_2 := blk_frozen BK126.out 2; have hcz16_0 : w12.cell? ⟨B1_0, 0, none⟩ = some (.string a1_0) := (blk_cell BK46.out 0).trans rfl; have hfz16_0 := blk_frozen BK46.out 0; have hcz17_0 : w12.cell? ⟨B2_0, 0, none⟩ = some (.int .i64 a2_0) := (blk_cell BK52.out 0).trans rfl; have hfz17_0 := blk_frozen BK52.out 0))
   go_ret
   exact ⟨er, bl HB⟩
 ·rw [if_neg c4] at H
  have c4b0 : (a0_0.toList == a1_0.toList) = false := beq_eq_false_iff_ne.mpr c4
  have c4b1 : (a0_0.toList != a1_0.toList) = true := bne_iff_ne.mpr c4
  obtain rfl := Option.some.inj H
  go_enter Tryd.func51, Tryd.ntmps51
  go_wp2_with (first | ((with_reducible refine gate_dst (N := 3) rfl ?_); refine box_event ?hg (N := 3) ?hd (cs := #[.string a0_0, .int .i64 a0_1, .int .i64 a0_2]) (t := 44) ?hr ?_; (case hd => rfl); (case hg => rfl); (case hr => first | (go_simp; done) | (go_simp; rfl)); intro gb126 hg w18 hbox hb; have n0_ := Aside0.mk (blk_below (g := B1_0) (o := .cells #[.string a1_0] 9 (0, 0)) (bk BK46) hb); have n1_ := Aside0.mk (blk_below (g := B2_0) (o := .cells #[.int .i64 a2_0] 3 (0, 0)) (bk BK52) hb); have n2_ := Aside0.mk (below_step (bl HB) hb); have n3_ := Aside0.mk (hbox); have n4_ := Aside0.mk ((by rw [hg]; exact (below_size (bl HB)) : w.heap.size ≤ gb126)); have n5_ := Aside0.mk ((by rw [hg]; exact (below_size (bl HB)) : w.heap.size ≤ gb126)); have n6_ := Aside0.mk ((by rw [hg]; exact Nat.ne_of_lt (blk_lt (g := B1_0) (o := .cells #[.string a1_0] 9 (0, 0)) (bk BK46)) : B1_0 ≠ gb126)); have n7_ := Aside0.mk ((by rw [hg]; exact Nat.ne_of_gt (blk_lt (g := B1_0) (o := .cells #[.string a1_0] 9 (0, 0)) (bk BK46)) : gb126 ≠ B1_0)); have n8_ := Aside0.mk ((by rw [hg]; exact Nat.ne_of_lt (blk_lt (g := B2_0) (o := .cells #[.int .i64 a2_0] 3 (0, 0)) (bk BK52)) : B2_0 ≠ gb126)); have n9_ := Aside0.mk ((by rw [hg]; exact Nat.ne_of_gt (blk_lt (g := B2_0) (o := .cells #[.int .i64 a2_0] 3 (0, 0)) (bk BK52)) : gb126 ≠ B2_0)); clear BK46; clear BK52; clear HB; have BK46 := n0_; have BK52 := n1_; have HB := n2_; have BK126 := n3_; have GW126 := n4_; have GE126 := n5_; have NB46_126 := n6_; have NB126_46 := n7_; have NB52_126 := n8_; have NB126_52 := n9_; clear n0_ n1_ n2_ n3_ n4_ n5_ n6_ n7_ n8_ n9_; clear hb hbox hg; have hnb19 := NB126_46.out; have hnc19 := NB46_126.out; have hnb20 := NB126_52.out; have hnc20 := NB52_126.out; have hcz21_0 : w18.cell? ⟨gb126, 0, none⟩ = some (.string a0_0) := (blk_cell BK126.out 0).trans rfl; have hcz21_1 : w18.cell? ⟨gb126, 1, none⟩ = some (.int .i64 a0_1) := (blk_cell BK126.out 1).trans rfl; have hcz21_2 : w18.cell? ⟨gb126, 2, none⟩ = some (.int .i64 a0_2) := (blk_cell BK126.out 2).trans rfl; have hfz21_0 := blk_frozen BK126.out 0; have hfz21_1 := blk_frozen BK126.out 1; have hfz21_2 := blk_frozen BK126.out 2; have hcz22_0 : w18.cell? ⟨B1_0, 0, none⟩ = some (.string a1_0) := (blk_cell BK46.out 0).trans rfl; have hfz22_0 := blk_frozen BK46.out 0))
  go_ret
  exact ⟨er, bl HB⟩

/-! ### slices_IndexFunc__api_Outage_api_Outage_at_desk_answers_1: function 56 -/
def slices_IndexFunc__api_Outage_api_Outage_at_desk_answers_1.l0 : Nat → List (S44) → Int → Int → ByteArray → Int → Option (Int)
 | 0, _, _, _, _, _ => none
 | k + 1, x0, x7, x8, x47000, x48000 => if x8 < x7 then (if 0 ≤ x8 then (if x8 < (x0.length : Int) then ((desk_answers_1.f ((rd_T44 x0 x8).f0) ((rd_T44 x0 x8).f1) ((rd_T44 x0 x8).f2) x47000 x48000).bind fun t128 => (if t128 = true then (some x8) else (slices_IndexFunc__api_Outage_api_Outage_at_desk_answers_1.l0 k x0 x7 (wrap64 (x8 + 1)) x47000 x48000))) else (none)) else (none)) else (some (-1))
def slices_IndexFunc__api_Outage_api_Outage_at_desk_answers_1.f (k : Nat) (l0 : List (S44)) (a1_0 : ByteArray) (a1_1 : Int) : Option (Int) := slices_IndexFunc__api_Outage_api_Outage_at_desk_answers_1.l0 k l0 (l0.length : Int) 0 a1_0 a1_1
theorem slices_IndexFunc__api_Outage_api_Outage_at_desk_answers_1.mono_l : ∀ k, (∀ y0 y1 y2 y3 y4, LeO (slices_IndexFunc__api_Outage_api_Outage_at_desk_answers_1.l0 k y0 y1 y2 y3 y4) (slices_IndexFunc__api_Outage_api_Outage_at_desk_answers_1.l0 (k + 1) y0 y1 y2 y3 y4))
 | 0 => fun _ _ _ _ _ r h => by simp [slices_IndexFunc__api_Outage_api_Outage_at_desk_answers_1.l0] at h
 | k + 1 => by
  have ih0 := slices_IndexFunc__api_Outage_api_Outage_at_desk_answers_1.mono_l k
  ·intro y0 y1 y2 y3 y4
   unfold slices_IndexFunc__api_Outage_api_Outage_at_desk_answers_1.l0
   repeat' first
   | (with_reducible exact ih0 _ _ _ _ _)
   | (with_reducible exact LeO.refl _)
   | (with_reducible exact LeO.none _)
   | (with_reducible refine LeO.ite ?_ ?_)
   | (with_reducible refine LeO.bind ?_ (fun _ => ?_))
   | exact ih0 _ _ _ _ _
   | exact LeO.none _
   | refine LeO.ite ?_ ?_
   | refine LeO.bind ?_ (fun _ => ?_)
theorem slices_IndexFunc__api_Outage_api_Outage_at_desk_answers_1.mono : ∀ a0 a1 a2 k, LeO (slices_IndexFunc__api_Outage_api_Outage_at_desk_answers_1.f k a0 a1 a2) (slices_IndexFunc__api_Outage_api_Outage_at_desk_answers_1.f (k + 1) a0 a1 a2) := by
 intro a0 a1 a2 k
 have ih0 := slices_IndexFunc__api_Outage_api_Outage_at_desk_answers_1.mono_l k
 unfold slices_IndexFunc__api_Outage_api_Outage_at_desk_answers_1.f
 repeat' first
   | (with_reducible exact ih0 _ _ _ _ _)
   | (with_reducible exact LeO.refl _)
   | (with_reducible exact LeO.none _)
   | (with_reducible refine LeO.ite ?_ ?_)
   | (with_reducible refine LeO.bind ?_ (fun _ => ?_))
   | exact ih0 _ _ _ _ _
   | exact LeO.none _
   | refine LeO.ite ?_ ?_
   | refine LeO.bind ?_ (fun _ => ?_)
set_option maxHeartbeats 8000000 in
set_option maxRecDepth 100000 in
theorem slices_IndexFunc__api_Outage_api_Outage_at_desk_answers_1.calls (k : Nat) (A0 : Option Addr) (c0 : Nat) (l0 : List (S44)) (B1_0 : Nat) (B1_1 : Nat) (a1_0 : ByteArray) (a1_1 : Int) (r : Int) (w : World) (hr0 : Kd.C k44 w A0 l0.length l0) (hc0 : l0.length ≤ c0) (hv1_0 : w.heap[B1_0]? = some (.cells #[.string a1_0] 9 (0, 0))) (hv1_1 : w.heap[B1_1]? = some (.cells #[.int .i64 a1_1] 3 (0, 0))) (h : slices_IndexFunc__api_Outage_api_Outage_at_desk_answers_1.f k l0 a1_0 a1_1 = some r) :
  Calls Tryd.prog 56 #[.slice A0 l0.length c0, .func (.func 51) #[] #[.pointer (some ⟨B1_0, 0, none⟩), .pointer (some ⟨B1_1, 0, none⟩)]] w fun e w' => e = .returned (.int .i64 r) ∧ Below w.heap.size w w' := by
 have hu44 := Tryd.underlying44
 have HR0 := Aside0.mk hr0
 have HC0 := Aside0.mk hc0
 clear hr0 hc0
 have BK46 := Aside0.mk hv1_0
 clear hv1_0
 have BK47 := Aside0.mk hv1_1
 clear hv1_1
 have HB := Aside0.mk (Below.refl w.heap.size w)
 have H : (slices_IndexFunc__api_Outage_api_Outage_at_desk_answers_1.l0 k l0 (l0.length : Int) 0 a1_0 a1_1) = some r := h
 clear h
 have H' := Aside0.mk H
 clear H
 go_enter Tryd.func56, Tryd.ntmps56
 go_wp2
 go_loopg [8] k (fun kq v8 w' => ∃ (x8_1 : Int), v8 = .int .i64 x8_1 ∧ Aside0 (slices_IndexFunc__api_Outage_api_Outage_at_desk_answers_1.l0 kq l0 (l0.length : Int) x8_1 a1_0 a1_1 = some r) ∧ Aside0 (kq ≤ k) ∧ Aside0 (w'.heap[B1_0]? = some (.cells #[.string a1_0] 9 (0, 0))) ∧ Aside0 (w'.heap[B1_1]? = some (.cells #[.int .i64 a1_1] 3 (0, 0))) ∧ Aside0 (Below w.heap.size w w'))
 case atStart => exact ⟨(0), (by first | rfl | (simp; done) | (simp [*]; done)), H', ⟨Nat.le_refl _⟩, ⟨bk BK46⟩, ⟨bk BK47⟩, ⟨bl HB⟩⟩
 case round =>
  clear H'
  try clear p2
  obtain ⟨x8_1, rfl, HA, HK1, BK46, BK47, HB⟩ := hrel
  cases gk with
  | zero => exact absurd HA.out (by simp [slices_IndexFunc__api_Outage_api_Outage_at_desk_answers_1.l0])
  | succ k1 =>
   have H := HA.out
   clear HA
   simp only [slices_IndexFunc__api_Outage_api_Outage_at_desk_answers_1.l0] at H
   by_cases c3 : x8_1 < (l0.length : Int)
   ·rw [if_pos c3] at H
    have c3b0 : decide (x8_1 < (l0.length : Int)) = true := decide_eq_true c3
    clear c3
    by_cases c4 : 0 ≤ x8_1
    ·rw [if_pos c4] at H
     have c4b0 : decide (0 ≤ x8_1) = true := decide_eq_true c4
     clear c4
     by_cases c5 : x8_1 < (l0.length : Int)
     ·rw [if_pos c5] at H
      have c5b0 : decide (x8_1 < (l0.length : Int)) = true := decide_eq_true c5
      clear c5
      replace H := Option.bind_eq_some_iff.mp H
      obtain ⟨t128, A60, H⟩ := H
      replace H : (if t128 = true then (some x8_1) else (slices_IndexFunc__api_Outage_api_Outage_at_desk_answers_1.l0 k1 l0 (l0.length : Int) (wrap64 (x8_1 + 1)) a1_0 a1_1)) = some r := H
      have A6 := Aside0.mk A60
      clear A60
      by_cases c7 : t128 = true
      ·subst c7
       have H1 : (some x8_1) = some r := by rw [if_pos rfl] at H; exact H
       clear H
       have H := H1
       clear H1
       obtain rfl := Option.some.inj H
       have p127 : 0 ≤ (x8_1 : Int) := of_decide_eq_true odt
       have q127 : x8_1 < (l0.length : Int) := of_decide_eq_true odt
       obtain ⟨ad127, e127, hx127_0, hx127_1, hx127_2⟩ := at_T44 HR0.out x8_1 p127 q127
       cases e127
       replace hx127_0 := (HB.out.cell (World.block_lt_of_cell? w _ hx127_0)).trans hx127_0
       replace hx127_1 := (HB.out.cell (World.block_lt_of_cell? w _ hx127_1)).trans hx127_1
       replace hx127_2 := (HB.out.cell (World.block_lt_of_cell? w _ hx127_2)).trans hx127_2
       replace p127 := eq_true p127
       replace q127 := eq_true q127
       go_wp2_with (first | (go_at_call 51; (with_reducible refine (desk_answers_1.calls ((rd_T44 l0 x8_1).f0) ((rd_T44 l0 x8_1).f1) ((rd_T44 l0 x8_1).f2) B1_0 a1_0 B1_1 a1_1 true _ ?side1 ?side2 A6.out).mono ?_); (case side1 => exact (bk BK46)); (case side2 => exact (bk BK47)); rintro e w8 ⟨rfl, hb⟩; have n0_ := Aside0.mk (blk_below (g := B1_0) (o := .cells #[.string a1_0] 9 (0, 0)) (bk BK46) hb); have n1_ := Aside0.mk (blk_below (g := B1_1) (o := .cells #[.int .i64 a1_1] 3 (0, 0)) (bk BK47) hb); have n2_ := Aside0.mk (below_step (bl HB) hb); clear BK46; clear BK47; clear HB; have BK46 := n0_; have BK47 := n1_; have HB := n2_; clear n0_ n1_ n2_; (try clear hb); (try clear hb2); (try clear hk); (try clear hi)))
       go_ret
       exact ⟨er, bl HB⟩
      ·replace c7 := Bool.eq_false_iff.mpr c7
       subst c7
       have H1 : (slices_IndexFunc__api_Outage_api_Outage_at_desk_answers_1.l0 k1 l0 (l0.length : Int) (wrap64 (x8_1 + 1)) a1_0 a1_1) = some r := by rw [if_neg (show ¬ (false = true) by decide)] at H; exact H
       clear H
       have H := H1
       clear H1
       have H' := Aside0.mk H
       clear H
       have p127 : 0 ≤ (x8_1 : Int) := of_decide_eq_true odt
       have q127 : x8_1 < (l0.length : Int) := of_decide_eq_true odt
       obtain ⟨ad127, e127, hx127_0, hx127_1, hx127_2⟩ := at_T44 HR0.out x8_1 p127 q127
       cases e127
       replace hx127_0 := (HB.out.cell (World.block_lt_of_cell? w _ hx127_0)).trans hx127_0
       replace hx127_1 := (HB.out.cell (World.block_lt_of_cell? w _ hx127_1)).trans hx127_1
       replace hx127_2 := (HB.out.cell (World.block_lt_of_cell? w _ hx127_2)).trans hx127_2
       replace p127 := eq_true p127
       replace q127 := eq_true q127
       go_wp2_with (first | (go_at_call 51; (with_reducible refine (desk_answers_1.calls ((rd_T44 l0 x8_1).f0) ((rd_T44 l0 x8_1).f1) ((rd_T44 l0 x8_1).f2) B1_0 a1_0 B1_1 a1_1 false _ ?side1 ?side2 A6.out).mono ?_); (case side1 => exact (bk BK46)); (case side2 => exact (bk BK47)); rintro e w9 ⟨rfl, hb⟩; have n0_ := Aside0.mk (blk_below (g := B1_0) (o := .cells #[.string a1_0] 9 (0, 0)) (bk BK46) hb); have n1_ := Aside0.mk (blk_below (g := B1_1) (o := .cells #[.int .i64 a1_1] 3 (0, 0)) (bk BK47) hb); have n2_ := Aside0.mk (below_step (bl HB) hb); clear BK46; clear BK47; clear HB; have BK46 := n0_; have BK47 := n1_; have HB := n2_; clear n0_ n1_ n2_; (try clear hb); (try clear hb2); (try clear hk); (try clear hi)))
       go_roundg k1
       case measure => have := HK1.out; omega
       case rel => exact ⟨(wrap64 (x8_1 + 1)), (by first | rfl | (simp; done) | (simp [*]; done)), H', ⟨by have := HK1.out; omega⟩, ⟨bk BK46⟩, ⟨bk BK47⟩, ⟨bl HB⟩⟩
     ·rw [if_neg c5] at H
      exact absurd H (by simp)
    ·rw [if_neg c4] at H
     exact absurd H (by simp)
   ·rw [if_neg c3] at H
    have c3b0 : decide (x8_1 < (l0.length : Int)) = false := decide_eq_false c3
    clear c3
    obtain rfl := Option.some.inj H
    go_wp2
    go_ret
    exact ⟨er, bl HB⟩

/-! ### slices_ContainsFunc__api_Outage_api_Outage_at_desk_answers_1: function 50 -/
def slices_ContainsFunc__api_Outage_api_Outage_at_desk_answers_1.f (k : Nat) (l0 : List (S44)) (a1_0 : ByteArray) (a1_1 : Int) : Option (Bool) := (slices_IndexFunc__api_Outage_api_Outage_at_desk_answers_1.f k l0 a1_0 a1_1).bind fun t129 => (some (decide (t129 ≥ 0)))
theorem slices_ContainsFunc__api_Outage_api_Outage_at_desk_answers_1.mono : ∀ a0 a1 a2 k, LeO (slices_ContainsFunc__api_Outage_api_Outage_at_desk_answers_1.f k a0 a1 a2) (slices_ContainsFunc__api_Outage_api_Outage_at_desk_answers_1.f (k + 1) a0 a1 a2) := by
 intro a0 a1 a2 k
 unfold slices_ContainsFunc__api_Outage_api_Outage_at_desk_answers_1.f
 repeat' first
   | (with_reducible exact slices_IndexFunc__api_Outage_api_Outage_at_desk_answers_1.mono _ _ _ _)
   | (with_reducible exact LeO.refl _)
   | (with_reducible exact LeO.none _)
   | (with_reducible refine LeO.ite ?_ ?_)
   | (with_reducible refine LeO.bind ?_ (fun _ => ?_))
   | exact slices_IndexFunc__api_Outage_api_Outage_at_desk_answers_1.mono _ _ _ _
   | exact LeO.none _
   | refine LeO.ite ?_ ?_
   | refine LeO.bind ?_ (fun _ => ?_)
set_option maxHeartbeats 8000000 in
set_option maxRecDepth 100000 in
theorem slices_ContainsFunc__api_Outage_api_Outage_at_desk_answers_1.calls (k : Nat) (A0 : Option Addr) (c0 : Nat) (l0 : List (S44)) (B1_0 : Nat) (B1_1 : Nat) (a1_0 : ByteArray) (a1_1 : Int) (r : Bool) (w : World) (hr0 : Kd.C k44 w A0 l0.length l0) (hc0 : l0.length ≤ c0) (hv1_0 : w.heap[B1_0]? = some (.cells #[.string a1_0] 9 (0, 0))) (hv1_1 : w.heap[B1_1]? = some (.cells #[.int .i64 a1_1] 3 (0, 0))) (h : slices_ContainsFunc__api_Outage_api_Outage_at_desk_answers_1.f k l0 a1_0 a1_1 = some r) :
  Calls Tryd.prog 50 #[.slice A0 l0.length c0, .func (.func 51) #[] #[.pointer (some ⟨B1_0, 0, none⟩), .pointer (some ⟨B1_1, 0, none⟩)]] w fun e w' => e = .returned (.bool r) ∧ Below w.heap.size w w' := by
 have HR0 := Aside0.mk hr0
 have HC0 := Aside0.mk hc0
 clear hr0 hc0
 have BK46 := Aside0.mk hv1_0
 clear hv1_0
 have BK47 := Aside0.mk hv1_1
 clear hv1_1
 have HB := Aside0.mk (Below.refl w.heap.size w)
 have H : ((slices_IndexFunc__api_Outage_api_Outage_at_desk_answers_1.f k l0 a1_0 a1_1).bind fun t129 => (some (decide (t129 ≥ 0)))) = some r := h
 clear h
 replace H := Option.bind_eq_some_iff.mp H
 obtain ⟨t129, A30, H⟩ := H
 replace H : (some (decide (t129 ≥ 0))) = some r := H
 have A3 := Aside0.mk A30
 clear A30
 obtain rfl := Option.some.inj H
 go_enter Tryd.func50, Tryd.ntmps50
 go_wp2_with (first | ((with_reducible refine gate_callee (f := 56) rfl ?_); refine goesL_ (some 7) rfl rfl Tryd.func56 (by kernel_rfl) rfl #[.slice A0 l0.length c0, .func (.func 51) #[] #[.pointer (some ⟨B1_0, 0, none⟩), .pointer (some ⟨B1_1, 0, none⟩)]] rfl gs ?_; (with_reducible refine (slices_IndexFunc__api_Outage_api_Outage_at_desk_answers_1.calls k _ _ l0 B1_0 B1_1 a1_0 a1_1 t129 _ ?side1 ?side2 ?side3 ?side4 A3.out).mono ?_); (case side1 => repeat (first | exact HR0.out | (with_reducible refine Kd.C_alloc ?_ _) | (with_reducible refine Kd.C_drewN ?_ _) | (with_reducible refine Kd.C_drew ?_))); (case side2 => exact HC0.out); (case side3 => exact (bk BK46)); (case side4 => exact (bk BK47)); rintro e w4 ⟨rfl, hb⟩; refine ⟨_, rfl, ?_⟩; have n0_ := Aside0.mk (blk_below (g := B1_0) (o := .cells #[.string a1_0] 9 (0, 0)) (bk BK46) hb); have n1_ := Aside0.mk (blk_below (g := B1_1) (o := .cells #[.int .i64 a1_1] 3 (0, 0)) (bk BK47) hb); have n2_ := Aside0.mk (below_step (bl HB) hb); clear BK46; clear BK47; clear HB; have BK46 := n0_; have BK47 := n1_; have HB := n2_; clear n0_ n1_ n2_; (try clear hb); (try clear hb2); (try clear hk); (try clear hi)))
 go_ret
 exact ⟨er, bl HB⟩

/-! ### desk_answers: function 42 -/
def desk_answers.f (k : Nat) (l0 : List (S44)) (a1 : ByteArray) (a2 : Int) : Option (Bool) := (slices_ContainsFunc__api_Outage_api_Outage_at_desk_answers_1.f k l0 a1 a2).bind fun t132 => (some (!t132))
theorem desk_answers.mono : ∀ a0 a1 a2 k, LeO (desk_answers.f k a0 a1 a2) (desk_answers.f (k + 1) a0 a1 a2) := by
 intro a0 a1 a2 k
 unfold desk_answers.f
 repeat' first
   | (with_reducible exact slices_ContainsFunc__api_Outage_api_Outage_at_desk_answers_1.mono _ _ _ _)
   | (with_reducible exact LeO.refl _)
   | (with_reducible exact LeO.none _)
   | (with_reducible refine LeO.ite ?_ ?_)
   | (with_reducible refine LeO.bind ?_ (fun _ => ?_))
   | exact slices_ContainsFunc__api_Outage_api_Outage_at_desk_answers_1.mono _ _ _ _
   | exact LeO.none _
   | refine LeO.ite ?_ ?_
   | refine LeO.bind ?_ (fun _ => ?_)
set_option maxHeartbeats 8000000 in
set_option maxRecDepth 100000 in
theorem desk_answers.calls (k : Nat) (A0 : Option Addr) (c0 : Nat) (l0 : List (S44)) (a1 : ByteArray) (a2 : Int) (r : Bool) (w : World) (hr0 : Kd.C k44 w A0 l0.length l0) (hc0 : l0.length ≤ c0) (h : desk_answers.f k l0 a1 a2 = some r) :
  Calls Tryd.prog 42 #[.slice A0 l0.length c0, .string a1, .int .i64 a2] w fun e w' => e = .returned (.bool r) ∧ Below w.heap.size w w' := by
 have HR0 := Aside0.mk hr0
 have HC0 := Aside0.mk hc0
 clear hr0 hc0
 have HB := Aside0.mk (Below.refl w.heap.size w)
 have H : ((slices_ContainsFunc__api_Outage_api_Outage_at_desk_answers_1.f k l0 a1 a2).bind fun t132 => (some (!t132))) = some r := h
 clear h
 replace H := Option.bind_eq_some_iff.mp H
 obtain ⟨t132, A40, H⟩ := H
 replace H : (some (!t132)) = some r := H
 have A4 := Aside0.mk A40
 clear A40
 obtain rfl := Option.some.inj H
 go_enter Tryd.func42, Tryd.ntmps42
 go_wp2_with (first | ((with_reducible refine gate_dst (N := 4) rfl ?_); refine box_event ?hg (N := 4) ?hd (cs := #[.string a1]) (t := 9) ?hr ?_; (case hd => rfl); (case hg => rfl); (case hr => first | (go_simp; done) | (go_simp; rfl)); intro gb130 hg w5 hbox hb; have n0_ := Aside0.mk (below_step (bl HB) hb); have n1_ := Aside0.mk (hbox); have n2_ := Aside0.mk ((by rw [hg]; exact (below_size (bl HB)) : w.heap.size ≤ gb130)); have n3_ := Aside0.mk ((by rw [hg]; exact (below_size (bl HB)) : w.heap.size ≤ gb130)); clear HB; have HB := n0_; have BK130 := n1_; have GW130 := n2_; have GE130 := n3_; clear n0_ n1_ n2_ n3_; clear hb hbox hg) | ((with_reducible refine gate_dst (N := 5) rfl ?_); refine box_event ?hg (N := 5) ?hd (cs := #[.int .i64 a2]) (t := 3) ?hr ?_; (case hd => rfl); (case hg => rfl); (case hr => first | (go_simp; done) | (go_simp; rfl)); intro gb131 hg w6 hbox hb; have n0_ := Aside0.mk (blk_below (g := gb130) (o := .cells #[.string a1] 9 (0, 0)) (bk BK130) hb); have n1_ := Aside0.mk (below_step (bl HB) hb); have n2_ := Aside0.mk (hbox); have n3_ := Aside0.mk ((by rw [hg]; exact (below_size (bl HB)) : w.heap.size ≤ gb131)); have n4_ := Aside0.mk ((by rw [hg]; exact (below_size (bl HB)) : w.heap.size ≤ gb131)); have n5_ := Aside0.mk ((by rw [hg]; exact Nat.ne_of_lt (blk_lt (g := gb130) (o := .cells #[.string a1] 9 (0, 0)) (bk BK130)) : gb130 ≠ gb131)); have n6_ := Aside0.mk ((by rw [hg]; exact Nat.ne_of_gt (blk_lt (g := gb130) (o := .cells #[.string a1] 9 (0, 0)) (bk BK130)) : gb131 ≠ gb130)); clear BK130; clear HB; have BK130 := n0_; have HB := n1_; have BK131 := n2_; have GW131 := n3_; have GE131 := n4_; have NB130_131 := n5_; have NB131_130 := n6_; clear n0_ n1_ n2_ n3_ n4_ n5_ n6_; clear hb hbox hg) | ((with_reducible refine gate_callee (f := 50) rfl ?_); refine goesL_ (some 9) rfl rfl Tryd.func50 (by kernel_rfl) rfl #[.slice A0 l0.length c0, .func (.func 51) #[] #[.pointer (some ⟨gb130, 0, none⟩), .pointer (some ⟨gb131, 0, none⟩)]] rfl gs ?_; (with_reducible refine (slices_ContainsFunc__api_Outage_api_Outage_at_desk_answers_1.calls k _ _ l0 gb130 gb131 a1 a2 t132 _ ?side1 ?side2 ?side3 ?side4 A4.out).mono ?_); (case side1 => exact kc HR0 HB); (case side2 => exact HC0.out); (case side3 => exact (bk BK130)); (case side4 => exact (bk BK131)); rintro e w7 ⟨rfl, hb⟩; refine ⟨_, rfl, ?_⟩; have n0_ := Aside0.mk (blk_below (g := gb130) (o := .cells #[.string a1] 9 (0, 0)) (bk BK130) hb); have n1_ := Aside0.mk (blk_below (g := gb131) (o := .cells #[.int .i64 a2] 3 (0, 0)) (bk BK131) hb); have n2_ := Aside0.mk (below_step (bl HB) hb); clear BK130; clear BK131; clear HB; have BK130 := n0_; have BK131 := n1_; have HB := n2_; clear n0_ n1_ n2_; (try clear hb); (try clear hb2); (try clear hk); (try clear hi)))
 go_ret
 exact ⟨er, bl HB⟩

/-! ### desk_sending: function 38 -/
def desk_sending.l0 : Nat → List Int → List (S44) → ByteArray → Int → Int → Int → Int → Int → Option (Int × Int × Int × Bool)
 | 0, _, _, _, _, _, _, _, _ => none
 | k + 1, x0, x1, x2, x3, x11, x135000, x135001, x135002 => if x3 > 2000000000000000 then (some (x135000, x135001, x135002, false)) else ((desk_answers.f k x1 x2 x3).bind fun t135 => (if t135 = true then (some (wrap64 (x135000 + 1), x3, x135002, true)) else (if x11 = (x0.length : Int) then (some (wrap64 (x135000 + 1), x135001, x3, true)) else (if 0 ≤ x11 then (if x11 < (x0.length : Int) then (desk_sending.l0 k x0 x1 x2 (wrap64 (x3 + (rd x0 x11))) (wrap64 (x11 + 1)) (wrap64 (x135000 + 1)) x135001 x135002) else (none)) else (none)))))
def desk_sending.f (k : Nat) (l0 : List Int) (l1 : List (S44)) (a2 : ByteArray) (a3 : Int) : Option (Int × Int × Int × Bool) := desk_sending.l0 k l0 l1 a2 a3 0 0 (-1) (-1)
theorem desk_sending.mono_l : ∀ k, (∀ y0 y1 y2 y3 y4 y5 y6 y7, LeO (desk_sending.l0 k y0 y1 y2 y3 y4 y5 y6 y7) (desk_sending.l0 (k + 1) y0 y1 y2 y3 y4 y5 y6 y7))
 | 0 => fun _ _ _ _ _ _ _ _ r h => by simp [desk_sending.l0] at h
 | k + 1 => by
  have ih0 := desk_sending.mono_l k
  ·intro y0 y1 y2 y3 y4 y5 y6 y7
   unfold desk_sending.l0
   repeat' first
   | (with_reducible exact ih0 _ _ _ _ _ _ _ _)
   | (with_reducible exact desk_answers.mono _ _ _ _)
   | (with_reducible exact LeO.refl _)
   | (with_reducible exact LeO.none _)
   | (with_reducible refine LeO.ite ?_ ?_)
   | (with_reducible refine LeO.bind ?_ (fun _ => ?_))
   | exact ih0 _ _ _ _ _ _ _ _
   | exact desk_answers.mono _ _ _ _
   | exact LeO.none _
   | refine LeO.ite ?_ ?_
   | refine LeO.bind ?_ (fun _ => ?_)
theorem desk_sending.mono : ∀ a0 a1 a2 a3 k, LeO (desk_sending.f k a0 a1 a2 a3) (desk_sending.f (k + 1) a0 a1 a2 a3) := by
 intro a0 a1 a2 a3 k
 have ih0 := desk_sending.mono_l k
 unfold desk_sending.f
 repeat' first
   | (with_reducible exact ih0 _ _ _ _ _ _ _ _)
   | (with_reducible exact desk_answers.mono _ _ _ _)
   | (with_reducible exact LeO.refl _)
   | (with_reducible exact LeO.none _)
   | (with_reducible refine LeO.ite ?_ ?_)
   | (with_reducible refine LeO.bind ?_ (fun _ => ?_))
   | exact ih0 _ _ _ _ _ _ _ _
   | exact desk_answers.mono _ _ _ _
   | exact LeO.none _
   | refine LeO.ite ?_ ?_
   | refine LeO.bind ?_ (fun _ => ?_)
set_option maxHeartbeats 8000000 in
set_option maxRecDepth 100000 in
theorem desk_sending.calls (k : Nat) (A0 : Option Addr) (c0 : Nat) (l0 : List Int) (A1 : Option Addr) (c1 : Nat) (l1 : List (S44)) (a2 : ByteArray) (a3 : Int) (r1 : Int) (r2 : Int) (r3 : Int) (r4 : Bool) (w : World) (hr0 : Kd.C (Kd.int .i64) w A0 l0.length l0) (hc0 : l0.length ≤ c0) (hr1 : Kd.C k44 w A1 l1.length l1) (hc1 : l1.length ≤ c1) (h : desk_sending.f k l0 l1 a2 a3 = some (r1, r2, r3, r4)) :
  Calls Tryd.prog 38 #[.slice A0 l0.length c0, .slice A1 l1.length c1, .string a2, .int .i64 a3] w fun e w' => e = .returned (.tuple #[.agg #[.int .i64 r1, .int .i64 r2, .int .i64 r3], .bool r4]) ∧ Below w.heap.size w w' := by
 have hu34 := Tryd.underlying34
 have HR0 := Aside0.mk hr0
 have HC0 := Aside0.mk hc0
 clear hr0 hc0
 have HR1 := Aside0.mk hr1
 have HC1 := Aside0.mk hc1
 clear hr1 hc1
 have HB := Aside0.mk (Below.refl w.heap.size w)
 have H : (desk_sending.l0 k l0 l1 a2 a3 0 0 (-1) (-1)) = some (r1, r2, r3, r4) := h
 clear h
 have H' := Aside0.mk H
 clear H
 go_enter Tryd.func38, Tryd.ntmps38
 go_wp2_with (first | ((with_reducible refine gate_dst (N := 8) rfl ?_); refine box_event ?hg (N := 8) ?hd (cs := #[.int .i64 0, .int .i64 0, .int .i64 0]) (t := 34) ?hr ?_; (case hd => rfl); (case hg => rfl); (case hr => first | (go_simp; done) | (go_simp; rfl)); intro gb133 hg w5 hbox hb; have n0_ := Aside0.mk (below_step (bl HB) hb); have n1_ := Aside0.mk (hbox); have n2_ := Aside0.mk ((by rw [hg]; exact (below_size (bl HB)) : w.heap.size ≤ gb133)); have n3_ := Aside0.mk ((by rw [hg]; exact (below_size (bl HB)) : w.heap.size ≤ gb133)); clear HB; have HB := n0_; have BK133 := n1_; have GW133 := n2_; have GE133 := n3_; clear n0_ n1_ n2_ n3_; clear hb hbox hg) | ((with_reducible refine gate_dst (N := 10) rfl ?_); refine box_event ?hg (N := 10) ?hd (cs := #[.int .i64 0, .int .i64 0, .int .i64 0]) (t := 34) ?hr ?_; (case hd => rfl); (case hg => rfl); (case hr => first | (go_simp; done) | (go_simp; rfl)); intro gb134 hg w6 hbox hb; have n0_ := Aside0.mk (blk_below (g := gb133) (o := .cells #[.int .i64 0, .int .i64 0, .int .i64 0] 34 (0, 0)) (bk BK133) hb); have n1_ := Aside0.mk (below_step (bl HB) hb); have n2_ := Aside0.mk (hbox); have n3_ := Aside0.mk ((by rw [hg]; exact (below_size (bl HB)) : w.heap.size ≤ gb134)); have n4_ := Aside0.mk ((by rw [hg]; exact (below_size (bl HB)) : w.heap.size ≤ gb134)); have n5_ := Aside0.mk ((by rw [hg]; exact Nat.ne_of_lt (blk_lt (g := gb133) (o := .cells #[.int .i64 0, .int .i64 0, .int .i64 0] 34 (0, 0)) (bk BK133)) : gb133 ≠ gb134)); have n6_ := Aside0.mk ((by rw [hg]; exact Nat.ne_of_gt (blk_lt (g := gb133) (o := .cells #[.int .i64 0, .int .i64 0, .int .i64 0] 34 (0, 0)) (bk BK133)) : gb134 ≠ gb133)); clear BK133; clear HB; have BK133 := n0_; have HB := n1_; have BK134 := n2_; have GW134 := n3_; have GE134 := n4_; have NB133_134 := n5_; have NB134_133 := n6_; clear n0_ n1_ n2_ n3_ n4_ n5_ n6_; clear hb hbox hg; have hnb7 := NB134_133.out; have hnc7 := NB133_134.out; have hcz8_0 : w6.cell? ⟨gb134, 0, none⟩ = some (.int .i64 0) := (blk_cell BK134.out 0).trans rfl; have hcz8_1 : w6.cell? ⟨gb134, 1, none⟩ = some (.int .i64 0) := (blk_cell BK134.out 1).trans rfl; have hcz8_2 : w6.cell? ⟨gb134, 2, none⟩ = some (.int .i64 0) := (blk_cell BK134.out 2).trans rfl; have hfz8_0 := blk_frozen BK134.out 0; have hfz8_1 := blk_frozen BK134.out 1; have hfz8_2 := blk_frozen BK134.out 2))
 go_loopg [3, 11] k (fun kq v3 v11 w' => ∃ (x3_1 : Int) (x11_1 : Int) (x134000_1 : Int) (x134001_1 : Int) (x134002_1 : Int) (x135000_1 : Int) (x135001_1 : Int) (x135002_1 : Int), v3 = .int .i64 x3_1 ∧ v11 = .int .i64 x11_1 ∧ Aside0 (desk_sending.l0 kq l0 l1 a2 x3_1 x11_1 x135000_1 x135001_1 x135002_1 = some (r1, r2, r3, r4)) ∧ Aside0 (kq ≤ k) ∧ Aside0 (w'.heap[gb133]? = some (.cells #[.int .i64 x134000_1, .int .i64 x134001_1, .int .i64 x134002_1] 34 (0, 0))) ∧ Aside0 (w'.heap[gb134]? = some (.cells #[.int .i64 x135000_1, .int .i64 x135001_1, .int .i64 x135002_1] 34 (0, 0))) ∧ Aside0 (Below w.heap.size w w'))
 case atStart => exact ⟨(a3), (0), (0), (0), (0), (0), ((-1)), ((-1)), (by first | rfl | (simp; done) | (simp [*]; done)), (by first | rfl | (simp; done) | (simp [*]; done)), H', ⟨Nat.le_refl _⟩, ⟨by (with_reducible repeat (first | refine blk_drewN ?_ _ | refine blk_drew ?_ | refine blk_alloc ?_ _)); refine blk_far ?_ NB133_134.out _; (with_reducible repeat (first | refine blk_drewN ?_ _ | refine blk_drew ?_ | refine blk_alloc ?_ _)); refine blk_far ?_ NB133_134.out _; (with_reducible repeat (first | refine blk_drewN ?_ _ | refine blk_drew ?_ | refine blk_alloc ?_ _)); refine blk_far ?_ NB133_134.out _; (with_reducible repeat (first | refine blk_drewN ?_ _ | refine blk_drew ?_ | refine blk_alloc ?_ _)); exact BK133.out⟩, ⟨by (with_reducible repeat (first | refine blk_drewN ?_ _ | refine blk_drew ?_ | refine blk_alloc ?_ _)); refine blk_put (cs := #[.int .i64 0, .int .i64 (-1), .int .i64 0]) ?_ 2 _ rfl; (with_reducible repeat (first | refine blk_drewN ?_ _ | refine blk_drew ?_ | refine blk_alloc ?_ _)); refine blk_put (cs := #[.int .i64 0, .int .i64 0, .int .i64 0]) ?_ 1 _ rfl; (with_reducible repeat (first | refine blk_drewN ?_ _ | refine blk_drew ?_ | refine blk_alloc ?_ _)); refine blk_put (cs := #[.int .i64 0, .int .i64 0, .int .i64 0]) ?_ 0 _ rfl; (with_reducible repeat (first | refine blk_drewN ?_ _ | refine blk_drew ?_ | refine blk_alloc ?_ _)); exact BK134.out⟩, ⟨bl HB⟩⟩
 case round =>
  clear H'
  try clear c1
  try clear p2
  try clear c3
  try clear c7
  try clear hcz8_0
  try clear hcz8_1
  try clear hcz8_2
  try clear hfz8_0
  try clear hfz8_1
  try clear hfz8_2
  obtain ⟨x3_1, x11_1, x134000_1, x134001_1, x134002_1, x135000_1, x135001_1, x135002_1, rfl, rfl, HA, HK1, BK133, BK134, HB⟩ := hrel
  cases gk with
  | zero => exact absurd HA.out (by simp [desk_sending.l0])
  | succ k1 =>
   have H := HA.out
   clear HA
   simp only [desk_sending.l0] at H
   by_cases c9 : x3_1 > 2000000000000000
   ·rw [if_pos c9] at H
    have c9b0 : decide (2000000000000000 < x3_1) = true := decide_eq_true c9
    clear c9
    simp only [Option.some.injEq, Prod.mk.injEq] at H
    obtain ⟨rfl, rfl, rfl, rfl⟩ := H
    have hnb10 := NB134_133.out
    have hnc10 := NB133_134.out
    have hcz11_0 : wr.cell? ⟨gb134, 0, none⟩ = some (.int .i64 x135000_1) := (blk_cell BK134.out 0).trans rfl
    have hcz11_1 : wr.cell? ⟨gb134, 1, none⟩ = some (.int .i64 x135001_1) := (blk_cell BK134.out 1).trans rfl
    have hcz11_2 : wr.cell? ⟨gb134, 2, none⟩ = some (.int .i64 x135002_1) := (blk_cell BK134.out 2).trans rfl
    have hfz11_0 := blk_frozen BK134.out 0
    have hfz11_1 := blk_frozen BK134.out 1
    have hfz11_2 := blk_frozen BK134.out 2
    have hcz12_0 : wr.cell? ⟨gb133, 0, none⟩ = some (.int .i64 x134000_1) := (blk_cell BK133.out 0).trans rfl
    have hcz12_1 : wr.cell? ⟨gb133, 1, none⟩ = some (.int .i64 x134001_1) := (blk_cell BK133.out 1).trans rfl
    have hcz12_2 : wr.cell? ⟨gb133, 2, none⟩ = some (.int .i64 x134002_1) := (blk_cell BK133.out 2).trans rfl
    have hfz12_0 := blk_frozen BK133.out 0
    have hfz12_1 := blk_frozen BK133.out 1
    have hfz12_2 := blk_frozen BK133.out 2
    go_wp2
    refine bodyPost_ret (results_ct rfl _ _ gb133 34 #[.int .i64 x135000_1, .int .i64 x135001_1, .int .i64 x135002_1] (0, 0) _ rfl (by (with_reducible repeat (first | refine blk_drewN ?_ _ | refine blk_drew ?_ | refine blk_alloc ?_ _)); refine blk_put (cs := #[.int .i64 x135000_1, .int .i64 x135001_1, .int .i64 x134002_1]) ?_ 2 _ rfl; (with_reducible repeat (first | refine blk_drewN ?_ _ | refine blk_drew ?_ | refine blk_alloc ?_ _)); refine blk_put (cs := #[.int .i64 x135000_1, .int .i64 x134001_1, .int .i64 x134002_1]) ?_ 1 _ rfl; (with_reducible repeat (first | refine blk_drewN ?_ _ | refine blk_drew ?_ | refine blk_alloc ?_ _)); refine blk_put (cs := #[.int .i64 x134000_1, .int .i64 x134001_1, .int .i64 x134002_1]) ?_ 0 _ rfl; (with_reducible repeat (first | refine blk_drewN ?_ _ | refine blk_drew ?_ | refine blk_alloc ?_ _)); exact BK133.out) Tryd.underlying34 rfl (by kernel_rfl)) rfl ?_
    exact ⟨er, bl HB⟩
   ·rw [if_neg c9] at H
    have c9b0 : decide (2000000000000000 < x3_1) = false := decide_eq_false c9
    clear c9
    replace H := Option.bind_eq_some_iff.mp H
    obtain ⟨t135, A130, H⟩ := H
    replace H : (if t135 = true then (some (wrap64 (x135000_1 + 1), x3_1, x135002_1, true)) else (if x11_1 = (l0.length : Int) then (some (wrap64 (x135000_1 + 1), x135001_1, x3_1, true)) else (if 0 ≤ x11_1 then (if x11_1 < (l0.length : Int) then (desk_sending.l0 k1 l0 l1 a2 (wrap64 (x3_1 + (rd l0 x11_1))) (wrap64 (x11_1 + 1)) (wrap64 (x135000_1 + 1)) x135001_1 x135002_1) else (none)) else (none)))) = some (r1, r2, r3, r4) := H
    have A13 := Aside0.mk A130
    clear A130
    by_cases c14 : t135 = true
    ·subst c14
     have H1 : (some (wrap64 (x135000_1 + 1), x3_1, x135002_1, true)) = some (r1, r2, r3, r4) := by rw [if_pos rfl] at H; exact H
     clear H
     have H := H1
     clear H1
     simp only [Option.some.injEq, Prod.mk.injEq] at H
     obtain ⟨rfl, rfl, rfl, rfl⟩ := H
     have hnb15 := NB134_133.out
     have hnc15 := NB133_134.out
     have hcz16_0 : wr.cell? ⟨gb134, 0, none⟩ = some (.int .i64 x135000_1) := (blk_cell BK134.out 0).trans rfl
     have hcz16_1 : wr.cell? ⟨gb134, 1, none⟩ = some (.int .i64 x135001_1) := (blk_cell BK134.out 1).trans rfl
     have hcz16_2 : wr.cell? ⟨gb134, 2, none⟩ = some (.int .i64 x135002_1) := (blk_cell BK134.out 2).trans rfl
     have hfz16_0 := blk_frozen BK134.out 0
     have hfz16_1 := blk_frozen BK134.out 1
     have hfz16_2 := blk_frozen BK134.out 2
     go_wp2_with (first | ((with_reducible refine gate_callee (f := 42) rfl ?_); refine goesL_ (some 25) rfl rfl Tryd.func42 (by kernel_rfl) rfl #[.slice A1 l1.length c1, .string a2, .int .i64 x3_1] rfl gs ?_; (with_reducible refine (desk_answers.calls k1 _ _ l1 a2 x3_1 true _ ?side1 ?side2 A13.out).mono ?_); (case side1 => exact Kd.C_below HR1.out (bl HB)); (case side2 => exact HC1.out); rintro e w17 ⟨rfl, hb⟩; refine ⟨_, rfl, ?_⟩; have n0_ := Aside0.mk (blk_below (g := gb133) (o := .cells #[.int .i64 x134000_1, .int .i64 x134001_1, .int .i64 x134002_1] 34 (0, 0)) (by (with_reducible repeat (first | refine blk_drewN ?_ _ | refine blk_drew ?_ | refine blk_alloc ?_ _)); refine blk_far ?_ NB133_134.out _; (with_reducible repeat (first | refine blk_drewN ?_ _ | refine blk_drew ?_ | refine blk_alloc ?_ _)); exact BK133.out) hb); have n1_ := Aside0.mk (blk_below (g := gb134) (o := .cells #[.int .i64 (wrap64 (x135000_1 + 1)), .int .i64 x135001_1, .int .i64 x135002_1] 34 (0, 0)) (by (with_reducible repeat (first | refine blk_drewN ?_ _ | refine blk_drew ?_ | refine blk_alloc ?_ _)); refine blk_put (cs := #[.int .i64 x135000_1, .int .i64 x135001_1, .int .i64 x135002_1]) ?_ 0 _ rfl; (with_reducible repeat (first | refine blk_drewN ?_ _ | refine blk_drew ?_ | refine blk_alloc ?_ _)); exact BK134.out) hb); have n2_ := Aside0.mk (below_step (bl HB) hb); clear BK133; clear BK134; clear HB; have BK133 := n0_; have BK134 := n1_; have HB := n2_; clear n0_ n1_ n2_; (try clear hb); (try clear hb2); (try clear hk); (try clear hi); have hcz18_0 : w17.cell? ⟨gb134, 0, none⟩ = some (.int .i64 (wrap64 (x135000_1 + 1))) := (blk_cell BK134.out 0).trans rfl; have hcz18_1 : w17.cell? ⟨gb134, 1, none⟩ = some (.int .i64 x135001_1) := (blk_cell BK134.out 1).trans rfl; have hcz18_2 : w17.cell? ⟨gb134, 2, none⟩ = some (.int .i64 x135002_1) := (blk_cell BK134.out 2).trans rfl; have hfz18_0 := blk_frozen BK134.out 0; have hfz18_1 := blk_frozen BK134.out 1; have hfz18_2 := blk_frozen BK134.out 2; have hcz19_0 : w17.cell? ⟨gb133, 0, none⟩ = some (.int .i64 x134000_1) := (blk_cell BK133.out 0).trans rfl; have hcz19_1 : w17.cell? ⟨gb133, 1, none⟩ = some (.int .i64 x134001_1) := (blk_cell BK133.out 1).trans rfl; have hcz19_2 : w17.cell? ⟨gb133, 2, none⟩ = some (.int .i64 x134002_1) := (blk_cell BK133.out 2).trans rfl; have hfz19_0 := blk_frozen BK133.out 0; have hfz19_1 := blk_frozen BK133.out 1; have hfz19_2 := blk_frozen BK133.out 2))
     refine bodyPost_ret (results_ct rfl _ _ gb133 34 #[.int .i64 (wrap64 (x135000_1 + 1)), .int .i64 x3_1, .int .i64 x135002_1] (0, 0) _ rfl (by (with_reducible repeat (first | refine blk_drewN ?_ _ | refine blk_drew ?_ | refine blk_alloc ?_ _)); refine blk_put (cs := #[.int .i64 (wrap64 (x135000_1 + 1)), .int .i64 x3_1, .int .i64 x134002_1]) ?_ 2 _ rfl; (with_reducible repeat (first | refine blk_drewN ?_ _ | refine blk_drew ?_ | refine blk_alloc ?_ _)); refine blk_put (cs := #[.int .i64 (wrap64 (x135000_1 + 1)), .int .i64 x134001_1, .int .i64 x134002_1]) ?_ 1 _ rfl; (with_reducible repeat (first | refine blk_drewN ?_ _ | refine blk_drew ?_ | refine blk_alloc ?_ _)); refine blk_put (cs := #[.int .i64 x134000_1, .int .i64 x134001_1, .int .i64 x134002_1]) ?_ 0 _ rfl; (with_reducible repeat (first | refine blk_drewN ?_ _ | refine blk_drew ?_ | refine blk_alloc ?_ _)); refine blk_far ?_ NB133_134.out _; (with_reducible repeat (first | refine blk_drewN ?_ _ | refine blk_drew ?_ | refine blk_alloc ?_ _)); exact BK133.out) Tryd.underlying34 rfl (by kernel_rfl)) rfl ?_
     exact ⟨er, bl HB⟩
    ·replace c14 := Bool.eq_false_iff.mpr c14
     subst c14
     have H1 : (if x11_1 = (l0.length : Int) then (some (wrap64 (x135000_1 + 1), x135001_1, x3_1, true)) else (if 0 ≤ x11_1 then (if x11_1 < (l0.length : Int) then (desk_sending.l0 k1 l0 l1 a2 (wrap64 (x3_1 + (rd l0 x11_1))) (wrap64 (x11_1 + 1)) (wrap64 (x135000_1 + 1)) x135001_1 x135002_1) else (none)) else (none))) = some (r1, r2, r3, r4) := by rw [if_neg (show ¬ (false = true) by decide)] at H; exact H
     clear H
     have H := H1
     clear H1
     by_cases c20 : x11_1 = (l0.length : Int)
     ·rw [if_pos c20] at H
      have c20b0 : (x11_1 == (l0.length : Int)) = true := beq_iff_eq.mpr c20
      have c20b1 : (x11_1 != (l0.length : Int)) = false := bne_eq_false_iff_eq.mpr c20
      clear c20
      simp only [Option.some.injEq, Prod.mk.injEq] at H
      obtain ⟨rfl, rfl, rfl, rfl⟩ := H
      have hnb21 := NB134_133.out
      have hnc21 := NB133_134.out
      have hcz22_0 : wr.cell? ⟨gb134, 0, none⟩ = some (.int .i64 x135000_1) := (blk_cell BK134.out 0).trans rfl
      have hcz22_1 : wr.cell? ⟨gb134, 1, none⟩ = some (.int .i64 x135001_1) := (blk_cell BK134.out 1).trans rfl
      have hcz22_2 : wr.cell? ⟨gb134, 2, none⟩ = some (.int .i64 x135002_1) := (blk_cell BK134.out 2).trans rfl
      have hfz22_0 := blk_frozen BK134.out 0
      have hfz22_1 := blk_frozen BK134.out 1
      have hfz22_2 := blk_frozen BK134.out 2
      go_wp2_with (first | ((with_reducible refine gate_callee (f := 42) rfl ?_); refine goesL_ (some 25) rfl rfl Tryd.func42 (by kernel_rfl) rfl #[.slice A1 l1.length c1, .string a2, .int .i64 x3_1] rfl gs ?_; (with_reducible refine (desk_answers.calls k1 _ _ l1 a2 x3_1 false _ ?side1 ?side2 A13.out).mono ?_); (case side1 => exact Kd.C_below HR1.out (bl HB)); (case side2 => exact HC1.out); rintro e w23 ⟨rfl, hb⟩; refine ⟨_, rfl, ?_⟩; have n0_ := Aside0.mk (blk_below (g := gb133) (o := .cells #[.int .i64 x134000_1, .int .i64 x134001_1, .int .i64 x134002_1] 34 (0, 0)) (by (with_reducible repeat (first | refine blk_drewN ?_ _ | refine blk_drew ?_ | refine blk_alloc ?_ _)); refine blk_far ?_ NB133_134.out _; (with_reducible repeat (first | refine blk_drewN ?_ _ | refine blk_drew ?_ | refine blk_alloc ?_ _)); exact BK133.out) hb); have n1_ := Aside0.mk (blk_below (g := gb134) (o := .cells #[.int .i64 (wrap64 (x135000_1 + 1)), .int .i64 x135001_1, .int .i64 x135002_1] 34 (0, 0)) (by (with_reducible repeat (first | refine blk_drewN ?_ _ | refine blk_drew ?_ | refine blk_alloc ?_ _)); refine blk_put (cs := #[.int .i64 x135000_1, .int .i64 x135001_1, .int .i64 x135002_1]) ?_ 0 _ rfl; (with_reducible repeat (first | refine blk_drewN ?_ _ | refine blk_drew ?_ | refine blk_alloc ?_ _)); exact BK134.out) hb); have n2_ := Aside0.mk (below_step (bl HB) hb); clear BK133; clear BK134; clear HB; have BK133 := n0_; have BK134 := n1_; have HB := n2_; clear n0_ n1_ n2_; (try clear hb); (try clear hb2); (try clear hk); (try clear hi); have hcz24_0 : w23.cell? ⟨gb134, 0, none⟩ = some (.int .i64 (wrap64 (x135000_1 + 1))) := (blk_cell BK134.out 0).trans rfl; have hcz24_1 : w23.cell? ⟨gb134, 1, none⟩ = some (.int .i64 x135001_1) := (blk_cell BK134.out 1).trans rfl; have hcz24_2 : w23.cell? ⟨gb134, 2, none⟩ = some (.int .i64 x135002_1) := (blk_cell BK134.out 2).trans rfl; have hfz24_0 := blk_frozen BK134.out 0; have hfz24_1 := blk_frozen BK134.out 1; have hfz24_2 := blk_frozen BK134.out 2; have hcz25_0 : w23.cell? ⟨gb133, 0, none⟩ = some (.int .i64 x134000_1) := (blk_cell BK133.out 0).trans rfl; have hcz25_1 : w23.cell? ⟨gb133, 1, none⟩ = some (.int .i64 x134001_1) := (blk_cell BK133.out 1).trans rfl; have hcz25_2 : w23.cell? ⟨gb133, 2, none⟩ = some (.int .i64 x134002_1) := (blk_cell BK133.out 2).trans rfl; have hfz25_0 := blk_frozen BK133.out 0; have hfz25_1 := blk_frozen BK133.out 1; have hfz25_2 := blk_frozen BK133.out 2))
      refine bodyPost_ret (results_ct rfl _ _ gb133 34 #[.int .i64 (wrap64 (x135000_1 + 1)), .int .i64 x135001_1, .int .i64 x3_1] (0, 0) _ rfl (by (with_reducible repeat (first | refine blk_drewN ?_ _ | refine blk_drew ?_ | refine blk_alloc ?_ _)); refine blk_put (cs := #[.int .i64 (wrap64 (x135000_1 + 1)), .int .i64 x135001_1, .int .i64 x134002_1]) ?_ 2 _ rfl; (with_reducible repeat (first | refine blk_drewN ?_ _ | refine blk_drew ?_ | refine blk_alloc ?_ _)); refine blk_put (cs := #[.int .i64 (wrap64 (x135000_1 + 1)), .int .i64 x134001_1, .int .i64 x134002_1]) ?_ 1 _ rfl; (with_reducible repeat (first | refine blk_drewN ?_ _ | refine blk_drew ?_ | refine blk_alloc ?_ _)); refine blk_put (cs := #[.int .i64 x134000_1, .int .i64 x134001_1, .int .i64 x134002_1]) ?_ 0 _ rfl; (with_reducible repeat (first | refine blk_drewN ?_ _ | refine blk_drew ?_ | refine blk_alloc ?_ _)); refine blk_far ?_ NB133_134.out _; (with_reducible repeat (first | refine blk_drewN ?_ _ | refine blk_drew ?_ | refine blk_alloc ?_ _)); exact BK133.out) Tryd.underlying34 rfl (by kernel_rfl)) rfl ?_
      exact ⟨er, bl HB⟩
     ·rw [if_neg c20] at H
      have c20b0 : (x11_1 == (l0.length : Int)) = false := beq_eq_false_iff_ne.mpr c20
      have c20b1 : (x11_1 != (l0.length : Int)) = true := bne_iff_ne.mpr c20
      by_cases c26 : 0 ≤ x11_1
      ·rw [if_pos c26] at H
       have c26b0 : decide (0 ≤ x11_1) = true := decide_eq_true c26
       clear c26
       by_cases c27 : x11_1 < (l0.length : Int)
       ·rw [if_pos c27] at H
        have c27b0 : decide (x11_1 < (l0.length : Int)) = true := decide_eq_true c27
        clear c27
        have H' := Aside0.mk H
        clear H
        have hnb28 := NB134_133.out
        have hnc28 := NB133_134.out
        have hcz29_0 : wr.cell? ⟨gb134, 0, none⟩ = some (.int .i64 x135000_1) := (blk_cell BK134.out 0).trans rfl
        have hcz29_1 : wr.cell? ⟨gb134, 1, none⟩ = some (.int .i64 x135001_1) := (blk_cell BK134.out 1).trans rfl
        have hcz29_2 : wr.cell? ⟨gb134, 2, none⟩ = some (.int .i64 x135002_1) := (blk_cell BK134.out 2).trans rfl
        have hfz29_0 := blk_frozen BK134.out 0
        have hfz29_1 := blk_frozen BK134.out 1
        have hfz29_2 := blk_frozen BK134.out 2
        go_wp2_with (first | ((with_reducible refine gate_callee (f := 42) rfl ?_); refine goesL_ (some 25) rfl rfl Tryd.func42 (by kernel_rfl) rfl #[.slice A1 l1.length c1, .string a2, .int .i64 x3_1] rfl gs ?_; (with_reducible refine (desk_answers.calls k1 _ _ l1 a2 x3_1 false _ ?side1 ?side2 A13.out).mono ?_); (case side1 => exact Kd.C_below HR1.out (bl HB)); (case side2 => exact HC1.out); rintro e w30 ⟨rfl, hb⟩; refine ⟨_, rfl, ?_⟩; have n0_ := Aside0.mk (blk_below (g := gb133) (o := .cells #[.int .i64 x134000_1, .int .i64 x134001_1, .int .i64 x134002_1] 34 (0, 0)) (by (with_reducible repeat (first | refine blk_drewN ?_ _ | refine blk_drew ?_ | refine blk_alloc ?_ _)); refine blk_far ?_ NB133_134.out _; (with_reducible repeat (first | refine blk_drewN ?_ _ | refine blk_drew ?_ | refine blk_alloc ?_ _)); exact BK133.out) hb); have n1_ := Aside0.mk (blk_below (g := gb134) (o := .cells #[.int .i64 (wrap64 (x135000_1 + 1)), .int .i64 x135001_1, .int .i64 x135002_1] 34 (0, 0)) (by (with_reducible repeat (first | refine blk_drewN ?_ _ | refine blk_drew ?_ | refine blk_alloc ?_ _)); refine blk_put (cs := #[.int .i64 x135000_1, .int .i64 x135001_1, .int .i64 x135002_1]) ?_ 0 _ rfl; (with_reducible repeat (first | refine blk_drewN ?_ _ | refine blk_drew ?_ | refine blk_alloc ?_ _)); exact BK134.out) hb); have n2_ := Aside0.mk (below_step (bl HB) hb); clear BK133; clear BK134; clear HB; have BK133 := n0_; have BK134 := n1_; have HB := n2_; clear n0_ n1_ n2_; (try clear hb); (try clear hb2); (try clear hk); (try clear hi); have p136 : 0 ≤ (x11_1 : Int) := of_decide_eq_true odt; have q136 : x11_1 < (l0.length : Int) := of_decide_eq_true odt; obtain ⟨ad136, e136, hx136_0⟩ := Kd.at_int HR0.out x11_1 p136 q136; cases e136; replace hx136_0 := (HB.out.cell (World.block_lt_of_cell? w _ hx136_0)).trans hx136_0; replace p136 := eq_true p136; replace q136 := eq_true q136))
        go_roundg k1
        case measure => have := HK1.out; omega
        case rel => exact ⟨(wrap64 (x3_1 + (rd l0 x11_1))), (wrap64 (x11_1 + 1)), (x134000_1), (x134001_1), (x134002_1), (wrap64 (x135000_1 + 1)), (x135001_1), (x135002_1), (by first | rfl | (simp; done) | (simp [*]; done)), (by first | rfl | (simp; done) | (simp [*]; done)), H', ⟨by have := HK1.out; omega⟩, ⟨bk BK133⟩, ⟨bk BK134⟩, ⟨bl HB⟩⟩
       ·rw [if_neg c27] at H
        exact absurd H (by simp)
      ·rw [if_neg c26] at H
       exact absurd H (by simp)

/-! ### desk_outbox: function 25 -/
def desk_outbox.l0 : Nat → List (S44) → List (S34) → List Int → List (S42) → Int → Int → Int → Int → Int → Int → Bool → PM ByteArray Int → Option ((List (S34)) × Int)
 | 0, _, _, _, _, _, _, _, _, _, _, _, _ => none
 | k + 1, x2, x8, x10, x19, x20, x21, x138000, x138001, x138002, x138003, x138004, x139000 => if x21 < x20 then (if 0 ≤ x21 then (if x21 < (x19.length : Int) then (if x138004 = true then (if ((rd_T42 x19 x21).f0).size ≤ 9223372036854775807 then ((desk_sending.f k x10 x2 ((rd_T42 x19 x21).f0) (mx ((rd_T42 x19 x21).f1) (PM.look x139000 ((rd_T42 x19 x21).f0) 0))).bind fun bt144 => (if bt144.2.2.2 = true then (if (Lit.int .i64 (mx (mx (PM.look x139000 ((rd_T42 x19 x21).f0) 0) bt144.2.1) bt144.2.2.1)).wf = true then (if x139000.many < 9223372036854775807 then (if x8.length < 5864062014805 then (desk_outbox.l0 k x2 (x8 ++ [(⟨bt144.1, bt144.2.1, bt144.2.2.1⟩ : S34)]) x10 x19 x20 (wrap64 (x21 + 1)) x138000 x138001 x138002 x138003 x138004 (PM.put x139000 ((rd_T42 x19 x21).f0) (mx (mx (PM.look x139000 ((rd_T42 x19 x21).f0) 0) bt144.2.1) bt144.2.2.1))) else (none)) else (none)) else (none)) else (some (([] : List (S34)), 1)))) else (none)) else ((desk_sending.f k x10 x2 ((rd_T42 x19 x21).f0) ((rd_T42 x19 x21).f1)).bind fun bt152 => (if bt152.2.2.2 = true then (if ((rd_T42 x19 x21).f0).size ≤ 9223372036854775807 then (if (Lit.int .i64 (mx (mx (PM.look x139000 ((rd_T42 x19 x21).f0) 0) bt152.2.1) bt152.2.2.1)).wf = true then (if x139000.many < 9223372036854775807 then (if x8.length < 5864062014805 then (desk_outbox.l0 k x2 (x8 ++ [(⟨bt152.1, bt152.2.1, bt152.2.2.1⟩ : S34)]) x10 x19 x20 (wrap64 (x21 + 1)) x138000 x138001 x138002 x138003 x138004 (PM.put x139000 ((rd_T42 x19 x21).f0) (mx (mx (PM.look x139000 ((rd_T42 x19 x21).f0) 0) bt152.2.1) bt152.2.2.1))) else (none)) else (none)) else (none)) else (none)) else (some (([] : List (S34)), 1))))) else (none)) else (none)) else (some (x8, 0))
def desk_outbox.f (k : Nat) (a0_0 : Int) (a0_1 : Int) (a0_2 : Int) (a0_3 : Int) (a0_4 : Bool) (l1 : List (S42)) (l2 : List (S44)) : Option ((List (S34)) × Int) := (desk_waits.f k a0_0 a0_1 a0_2 a0_3 a0_4).bind fun t139 => (desk_outbox.l0 k l2 ([] : List (S34)) t139 l1 (l1.length : Int) 0 a0_0 a0_1 a0_2 a0_3 a0_4 (PM.nil : PM ByteArray Int))
theorem desk_outbox.mono_l : ∀ k, (∀ y0 y1 y2 y3 y4 y5 y6 y7 y8 y9 y10 y11, LeO (desk_outbox.l0 k y0 y1 y2 y3 y4 y5 y6 y7 y8 y9 y10 y11) (desk_outbox.l0 (k + 1) y0 y1 y2 y3 y4 y5 y6 y7 y8 y9 y10 y11))
 | 0 => fun _ _ _ _ _ _ _ _ _ _ _ _ r h => by simp [desk_outbox.l0] at h
 | k + 1 => by
  have ih0 := desk_outbox.mono_l k
  ·intro y0 y1 y2 y3 y4 y5 y6 y7 y8 y9 y10 y11
   unfold desk_outbox.l0
   repeat' first
   | (with_reducible exact ih0 _ _ _ _ _ _ _ _ _ _ _ _)
   | (with_reducible exact desk_sending.mono _ _ _ _ _)
   | (with_reducible exact desk_waits.mono _ _ _ _ _ _)
   | (with_reducible exact LeO.refl _)
   | (with_reducible exact LeO.none _)
   | (with_reducible refine LeO.ite ?_ ?_)
   | (with_reducible refine LeO.bind ?_ (fun _ => ?_))
   | exact ih0 _ _ _ _ _ _ _ _ _ _ _ _
   | exact desk_sending.mono _ _ _ _ _
   | exact desk_waits.mono _ _ _ _ _ _
   | exact LeO.none _
   | refine LeO.ite ?_ ?_
   | refine LeO.bind ?_ (fun _ => ?_)
theorem desk_outbox.mono : ∀ a0 a1 a2 a3 a4 a5 a6 k, LeO (desk_outbox.f k a0 a1 a2 a3 a4 a5 a6) (desk_outbox.f (k + 1) a0 a1 a2 a3 a4 a5 a6) := by
 intro a0 a1 a2 a3 a4 a5 a6 k
 have ih0 := desk_outbox.mono_l k
 unfold desk_outbox.f
 repeat' first
   | (with_reducible exact ih0 _ _ _ _ _ _ _ _ _ _ _ _)
   | (with_reducible exact desk_sending.mono _ _ _ _ _)
   | (with_reducible exact desk_waits.mono _ _ _ _ _ _)
   | (with_reducible exact LeO.refl _)
   | (with_reducible exact LeO.none _)
   | (with_reducible refine LeO.ite ?_ ?_)
   | (with_reducible refine LeO.bind ?_ (fun _ => ?_))
   | exact ih0 _ _ _ _ _ _ _ _ _ _ _ _
   | exact desk_sending.mono _ _ _ _ _
   | exact desk_waits.mono _ _ _ _ _ _
   | exact LeO.none _
   | refine LeO.ite ?_ ?_
   | refine LeO.bind ?_ (fun _ => ?_)
set_option maxHeartbeats 8000000 in
set_option maxRecDepth 100000 in
theorem desk_outbox.calls (k : Nat) (a0_0 : Int) (a0_1 : Int) (a0_2 : Int) (a0_3 : Int) (a0_4 : Bool) (A1 : Option Addr) (c1 : Nat) (l1 : List (S42)) (A2 : Option Addr) (c2 : Nat) (l2 : List (S44)) (r1 : List (S34)) (r2 : Int) (w : World) (hr1 : Kd.C k42 w A1 l1.length l1) (hc1 : l1.length ≤ c1) (hr2 : Kd.C k44 w A2 l2.length l2) (hc2 : l2.length ≤ c2) (h : desk_outbox.f k a0_0 a0_1 a0_2 a0_3 a0_4 l1 l2 = some (r1, r2)) :
  Calls Tryd.prog 25 #[.agg #[.int .i64 a0_0, .int .i64 a0_1, .int .i64 a0_2, .int .i64 a0_3, .bool a0_4], .slice A1 l1.length c1, .slice A2 l2.length c2] w fun e w' => ∃ v0_ : Value, e = .returned (.tuple #[v0_, .int .i64 r2]) ∧ Kd.R k34 34 w' w.heap.size (fun _ => True) v0_ r1 ∧ Below w.heap.size w w' := by
 have hu23 := Tryd.underlying23
 have hu42 := Tryd.underlying42
 have hu34 := Tryd.underlying34
 have HR1 := Aside0.mk hr1
 have HC1 := Aside0.mk hc1
 clear hr1 hc1
 have HR2 := Aside0.mk hr2
 have HC2 := Aside0.mk hc2
 clear hr2 hc2
 have HB := Aside0.mk (Below.refl w.heap.size w)
 have H : ((desk_waits.f k a0_0 a0_1 a0_2 a0_3 a0_4).bind fun t139 => (desk_outbox.l0 k l2 ([] : List (S34)) t139 l1 (l1.length : Int) 0 a0_0 a0_1 a0_2 a0_3 a0_4 (PM.nil : PM ByteArray Int))) = some (r1, r2) := h
 clear h
 replace H := Option.bind_eq_some_iff.mp H
 obtain ⟨t139, A40, H⟩ := H
 replace H : (desk_outbox.l0 k l2 ([] : List (S34)) t139 l1 (l1.length : Int) 0 a0_0 a0_1 a0_2 a0_3 a0_4 (PM.nil : PM ByteArray Int)) = some (r1, r2) := H
 have A4 := Aside0.mk A40
 clear A40
 have H' := Aside0.mk H
 clear H
 go_enter Tryd.func25, Tryd.ntmps25
 go_wp2_with (first | ((with_reducible refine gate_dst (N := 3) rfl ?_); refine box_event ?hg (N := 3) ?hd (cs := #[.int .i64 a0_0, .int .i64 a0_1, .int .i64 a0_2, .int .i64 a0_3, .bool a0_4]) (t := 23) ?hr ?_; (case hd => rfl); (case hg => rfl); (case hr => first | (go_simp; done) | (go_simp; rfl)); intro gb137 hg w5 hbox hb; have n0_ := Aside0.mk (below_step (bl HB) hb); have n1_ := Aside0.mk (hbox); have n2_ := Aside0.mk ((by rw [hg]; exact (below_size (bl HB)) : w.heap.size ≤ gb137)); have n3_ := Aside0.mk ((by rw [hg]; exact (below_size (bl HB)) : w.heap.size ≤ gb137)); clear HB; have HB := n0_; have BK137 := n1_; have GW137 := n2_; have GE137 := n3_; clear n0_ n1_ n2_ n3_; clear hb hbox hg) | ((with_reducible refine gate_dst (N := 16) rfl ?_); refine map_event (k := mK9) (e := mE3) ?hg (N := 16) ?hd ?hr ?_; (case hd => rfl); (case hg => rfl); (case hr => first | rfl | (go_simp; done) | (go_simp; rfl)); intro gm138 hg w6 hbox hb; have n0_ := Aside0.mk (blk_below (g := gb137) (o := .cells #[.int .i64 a0_0, .int .i64 a0_1, .int .i64 a0_2, .int .i64 a0_3, .bool a0_4] 23 (0, 0)) (bk BK137) hb); have n1_ := Aside0.mk (below_step (bl HB) hb); have n2_ := Aside0.mk (hbox); have n3_ := Aside0.mk ((by rw [hg]; exact (below_size (bl HB)) : w.heap.size ≤ gm138)); have n4_ := Aside0.mk ((by rw [hg]; exact (below_size (bl HB)) : w.heap.size ≤ gm138)); have n5_ := Aside0.mk ((by rw [hg]; exact Nat.ne_of_lt (blk_lt (g := gb137) (o := .cells #[.int .i64 a0_0, .int .i64 a0_1, .int .i64 a0_2, .int .i64 a0_3, .bool a0_4] 23 (0, 0)) (bk BK137)) : gb137 ≠ gm138)); have n6_ := Aside0.mk ((by rw [hg]; exact Nat.ne_of_gt (blk_lt (g := gb137) (o := .cells #[.int .i64 a0_0, .int .i64 a0_1, .int .i64 a0_2, .int .i64 a0_3, .bool a0_4] 23 (0, 0)) (bk BK137)) : gm138 ≠ gb137)); clear BK137; clear HB; have BK137 := n0_; have HB := n1_; have BK138 := n2_; have GW138 := n3_; have GE138 := n4_; have NB137_138 := n5_; have NB138_137 := n6_; clear n0_ n1_ n2_ n3_ n4_ n5_ n6_; clear hb hbox hg; have hnb7 := NB137_138.out; have hnc7 := NB138_137.out; have hcz8_0 : w6.cell? ⟨gb137, 0, none⟩ = some (.int .i64 a0_0) := (blk_cell BK137.out 0).trans rfl; have hcz8_1 : w6.cell? ⟨gb137, 1, none⟩ = some (.int .i64 a0_1) := (blk_cell BK137.out 1).trans rfl; have hcz8_2 : w6.cell? ⟨gb137, 2, none⟩ = some (.int .i64 a0_2) := (blk_cell BK137.out 2).trans rfl; have hcz8_3 : w6.cell? ⟨gb137, 3, none⟩ = some (.int .i64 a0_3) := (blk_cell BK137.out 3).trans rfl; have hcz8_4 : w6.cell? ⟨gb137, 4, none⟩ = some (.bool a0_4) := (blk_cell BK137.out 4).trans rfl; have hfz8_0 := blk_frozen BK137.out 0; have hfz8_1 := blk_frozen BK137.out 1; have hfz8_2 := blk_frozen BK137.out 2; have hfz8_3 := blk_frozen BK137.out 3; have hfz8_4 := blk_frozen BK137.out 4) | ((with_reducible refine gate_callee (f := 33) rfl ?_); refine goesL_ (some 18) rfl rfl Tryd.func33 (by kernel_rfl) rfl #[.agg #[.int .i64 a0_0, .int .i64 a0_1, .int .i64 a0_2, .int .i64 a0_3, .bool a0_4]] rfl gs ?_; (with_reducible refine (desk_waits.calls k a0_0 a0_1 a0_2 a0_3 a0_4 t139 _ A4.out).mono ?_); rintro e w9 ⟨v140, rfl, ho0, hb⟩; refine ⟨_, rfl, ?_⟩; have n0_ := Aside0.mk (Kd.R_lower ho0 (below_size (bl HB))); have n1_ := Aside0.mk (blk_below (g := gb137) (o := .cells #[.int .i64 a0_0, .int .i64 a0_1, .int .i64 a0_2, .int .i64 a0_3, .bool a0_4] 23 (0, 0)) (bk BK137) hb); have n2_ := Aside0.mk (mp_step (show IsMap mK9 mE3 _ gm138 (PM.nil : PM ByteArray Int) from by (with_reducible repeat (first | refine mp_drewN ?_ _ | refine mp_drew ?_ | refine mp_alloc ?_ _)); exact BK138.out) (fun o_ h_ => blk_below (g := gm138) (o := o_) h_ hb)); have n3_ := Aside0.mk (below_step (bl HB) hb); clear BK137; clear BK138; clear HB; have HO141 := n0_; have BK137 := n1_; have BK138 := n2_; have HB := n3_; clear n0_ n1_ n2_ n3_; (try clear hb); (try clear hb2); (try clear hk); (try clear hi); (try clear ho0)))
 go_loopg [8, 21] k (fun kq v8 v21 w' => ∃ (x8_1 : List (S34)) (x21_1 : Int) (x139000_1 : PM ByteArray Int), v21 = .int .i64 x21_1 ∧ Aside0 (desk_outbox.l0 kq l2 x8_1 t139 l1 (l1.length : Int) x21_1 a0_0 a0_1 a0_2 a0_3 a0_4 x139000_1 = some (r1, r2)) ∧ Aside0 (kq ≤ k) ∧ Aside0 (Kd.R k34 34 w' w.heap.size (fun _ => True) v8 x8_1) ∧ Aside0 (Kd.R (Kd.int .i64) 3 w' w.heap.size (fun _ => True) v140 t139) ∧ Aside0 (w'.heap[gb137]? = some (.cells #[.int .i64 a0_0, .int .i64 a0_1, .int .i64 a0_2, .int .i64 a0_3, .bool a0_4] 23 (0, 0))) ∧ Aside0 (IsMap mK9 mE3 w' gm138 x139000_1) ∧ Aside0 (Below w.heap.size w w'))
 case atStart => exact ⟨(([] : List (S34))), (0), ((PM.nil : PM ByteArray Int)), (by first | rfl | (simp; done) | (simp [*]; done)), H', ⟨Nat.le_refl _⟩, ⟨by first | exact Kd.R_nil _ _ _ _ _ | exact Kd.N_nil _ _ _ _ _ | exact Kd.V_nil _ _ _ _ _ | exact Kd.Q_nil _ _ _ _ _ | exact Kd.S_nil _ _ _ _ _⟩, ⟨ra HO141⟩, ⟨bk BK137⟩, ⟨by (with_reducible repeat (first | refine mp_drewN ?_ _ | refine mp_drew ?_ | refine mp_alloc ?_ _)); exact BK138.out⟩, ⟨bl HB⟩⟩
 case round =>
  clear H'
  try clear c1
  try clear c2
  try clear p2
  try clear c3
  try clear c7
  try clear hcz8_0
  try clear hcz8_1
  try clear hcz8_2
  try clear hcz8_3
  try clear hcz8_4
  try clear hfz8_0
  try clear hfz8_1
  try clear hfz8_2
  try clear hfz8_3
  try clear hfz8_4
  obtain ⟨x8_1, x21_1, x139000_1, rfl, HA, HK1, HO_8, HO_10, BK137, BK138, HB⟩ := hrel
  cases gk with
  | zero => exact absurd HA.out (by simp [desk_outbox.l0])
  | succ k1 =>
   have H := HA.out
   clear HA
   simp only [desk_outbox.l0] at H
   by_cases c10 : x21_1 < (l1.length : Int)
   ·rw [if_pos c10] at H
    have c10b0 : decide (x21_1 < (l1.length : Int)) = true := decide_eq_true c10
    clear c10
    by_cases c11 : 0 ≤ x21_1
    ·rw [if_pos c11] at H
     have c11b0 : decide (0 ≤ x21_1) = true := decide_eq_true c11
     clear c11
     by_cases c12 : x21_1 < (l1.length : Int)
     ·rw [if_pos c12] at H
      have c12b0 : decide (x21_1 < (l1.length : Int)) = true := decide_eq_true c12
      clear c12
      by_cases c13 : a0_4 = true
      ·subst c13
       have H1 : (if ((rd_T42 l1 x21_1).f0).size ≤ 9223372036854775807 then ((desk_sending.f k1 t139 l2 ((rd_T42 l1 x21_1).f0) (mx ((rd_T42 l1 x21_1).f1) (PM.look x139000_1 ((rd_T42 l1 x21_1).f0) 0))).bind fun bt144 => (if bt144.2.2.2 = true then (if (Lit.int .i64 (mx (mx (PM.look x139000_1 ((rd_T42 l1 x21_1).f0) 0) bt144.2.1) bt144.2.2.1)).wf = true then (if x139000_1.many < 9223372036854775807 then (if x8_1.length < 5864062014805 then (desk_outbox.l0 k1 l2 (x8_1 ++ [(⟨bt144.1, bt144.2.1, bt144.2.2.1⟩ : S34)]) t139 l1 (l1.length : Int) (wrap64 (x21_1 + 1)) a0_0 a0_1 a0_2 a0_3 true (PM.put x139000_1 ((rd_T42 l1 x21_1).f0) (mx (mx (PM.look x139000_1 ((rd_T42 l1 x21_1).f0) 0) bt144.2.1) bt144.2.2.1))) else (none)) else (none)) else (none)) else (some (([] : List (S34)), 1)))) else (none)) = some (r1, r2) := by rw [if_pos rfl] at H; exact H
       clear H
       have H := H1
       clear H1
       by_cases c14 : ((rd_T42 l1 x21_1).f0).size ≤ 9223372036854775807
       ·rw [if_pos c14] at H
        have c14b0 := eq_true c14
        have c14b1 : decide (((rd_T42 l1 x21_1).f0).size ≤ 9223372036854775807) = true := decide_eq_true c14
        try have c14b2 : (9223372036854775807 < ((rd_T42 l1 x21_1).f0).size) = False := eq_false (Nat.not_lt.2 c14)
        clear c14
        obtain ⟨ji15, hji15⟩ : ∃ j_ : Int, (mx ((rd_T42 l1 x21_1).f1) (PM.look x139000_1 ((rd_T42 l1 x21_1).f0) 0)) = j_ := ⟨_, rfl⟩
        replace H : ((desk_sending.f k1 t139 l2 ((rd_T42 l1 x21_1).f0) (ji15)).bind fun bt144 => (if bt144.2.2.2 = true then (if (Lit.int .i64 (mx (mx (PM.look x139000_1 ((rd_T42 l1 x21_1).f0) 0) bt144.2.1) bt144.2.2.1)).wf = true then (if x139000_1.many < 9223372036854775807 then (if x8_1.length < 5864062014805 then (desk_outbox.l0 k1 l2 (x8_1 ++ [(⟨bt144.1, bt144.2.1, bt144.2.2.1⟩ : S34)]) t139 l1 (l1.length : Int) (wrap64 (x21_1 + 1)) a0_0 a0_1 a0_2 a0_3 true (PM.put x139000_1 ((rd_T42 l1 x21_1).f0) (mx (mx (PM.look x139000_1 ((rd_T42 l1 x21_1).f0) 0) bt144.2.1) bt144.2.2.1))) else (none)) else (none)) else (none)) else (some (([] : List (S34)), 1)))) = some (r1, r2) := by first | (rw [hji15] at H; exact H) | (simp only [hji15] at H ⊢; exact H)
        have hji15_ : (if ((rd_T42 l1 x21_1).f1) < (PM.look x139000_1 ((rd_T42 l1 x21_1).f0) 0) then (PM.look x139000_1 ((rd_T42 l1 x21_1).f0) 0) else ((rd_T42 l1 x21_1).f1)) = ji15 := hji15
        replace H := Option.bind_eq_some_iff.mp H
        obtain ⟨⟨t144, t145, t146, t147⟩, A160, H⟩ := H
        replace H : (if t147 = true then (if (Lit.int .i64 (mx (mx (PM.look x139000_1 ((rd_T42 l1 x21_1).f0) 0) t145) t146)).wf = true then (if x139000_1.many < 9223372036854775807 then (if x8_1.length < 5864062014805 then (desk_outbox.l0 k1 l2 (x8_1 ++ [(⟨t144, t145, t146⟩ : S34)]) t139 l1 (l1.length : Int) (wrap64 (x21_1 + 1)) a0_0 a0_1 a0_2 a0_3 true (PM.put x139000_1 ((rd_T42 l1 x21_1).f0) (mx (mx (PM.look x139000_1 ((rd_T42 l1 x21_1).f0) 0) t145) t146))) else (none)) else (none)) else (none)) else (some (([] : List (S34)), 1))) = some (r1, r2) := H
        have A16 := Aside0.mk A160
        clear A160
        by_cases c17 : t147 = true
        ·subst c17
         have H1 : (if (Lit.int .i64 (mx (mx (PM.look x139000_1 ((rd_T42 l1 x21_1).f0) 0) t145) t146)).wf = true then (if x139000_1.many < 9223372036854775807 then (if x8_1.length < 5864062014805 then (desk_outbox.l0 k1 l2 (x8_1 ++ [(⟨t144, t145, t146⟩ : S34)]) t139 l1 (l1.length : Int) (wrap64 (x21_1 + 1)) a0_0 a0_1 a0_2 a0_3 true (PM.put x139000_1 ((rd_T42 l1 x21_1).f0) (mx (mx (PM.look x139000_1 ((rd_T42 l1 x21_1).f0) 0) t145) t146))) else (none)) else (none)) else (none)) = some (r1, r2) := by rw [if_pos rfl] at H; exact H
         clear H
         have H := H1
         clear H1
         obtain ⟨ji18, hji18⟩ : ∃ j_ : Int, (mx (PM.look x139000_1 ((rd_T42 l1 x21_1).f0) 0) t145) = j_ := ⟨_, rfl⟩
         replace H : (if (Lit.int .i64 (mx (ji18) t146)).wf = true then (if x139000_1.many < 9223372036854775807 then (if x8_1.length < 5864062014805 then (desk_outbox.l0 k1 l2 (x8_1 ++ [(⟨t144, t145, t146⟩ : S34)]) t139 l1 (l1.length : Int) (wrap64 (x21_1 + 1)) a0_0 a0_1 a0_2 a0_3 true (PM.put x139000_1 ((rd_T42 l1 x21_1).f0) (mx (ji18) t146))) else (none)) else (none)) else (none)) = some (r1, r2) := by first | (rw [hji18] at H; exact H) | (simp only [hji18] at H ⊢; exact H)
         (try rw [hji18] at A16)
         have hji18_ : (if (PM.look x139000_1 ((rd_T42 l1 x21_1).f0) 0) < t145 then t145 else (PM.look x139000_1 ((rd_T42 l1 x21_1).f0) 0)) = ji18 := hji18
         obtain ⟨ji19, hji19⟩ : ∃ j_ : Int, (mx (ji18) t146) = j_ := ⟨_, rfl⟩
         replace H : (if (Lit.int .i64 (ji19)).wf = true then (if x139000_1.many < 9223372036854775807 then (if x8_1.length < 5864062014805 then (desk_outbox.l0 k1 l2 (x8_1 ++ [(⟨t144, t145, t146⟩ : S34)]) t139 l1 (l1.length : Int) (wrap64 (x21_1 + 1)) a0_0 a0_1 a0_2 a0_3 true (PM.put x139000_1 ((rd_T42 l1 x21_1).f0) (ji19))) else (none)) else (none)) else (none)) = some (r1, r2) := by first | (rw [hji19] at H; exact H) | (simp only [hji19] at H ⊢; exact H)
         (try rw [hji19] at A16)
         have hji19_ : (if (ji18) < t146 then t146 else (ji18)) = ji19 := hji19
         by_cases c20 : (Lit.int .i64 (ji19)).wf = true
         ·rw [if_pos c20] at H
          have c20b0 := eq_true c20
          have c20b1 : decide ((Lit.int .i64 (ji19)).wf = true) = true := decide_eq_true c20
          clear c20
          by_cases c21 : x139000_1.many < 9223372036854775807
          ·rw [if_pos c21] at H
           have c21b0 := eq_true c21
           have c21b1 : decide (x139000_1.many < 9223372036854775807) = true := decide_eq_true c21
           clear c21
           by_cases c22 : x8_1.length < 5864062014805
           ·rw [if_pos c22] at H
            have LMc22 := Aside0.mk c22
            clear c22
            obtain ⟨y149, hy149⟩ : ∃ y_ : List (S34), y_ = (x8_1 ++ [(⟨t144, t145, t146⟩ : S34)]) := ⟨_, rfl⟩
            replace H : (desk_outbox.l0 k1 l2 y149 t139 l1 (l1.length : Int) (wrap64 (x21_1 + 1)) a0_0 a0_1 a0_2 a0_3 true (PM.put x139000_1 ((rd_T42 l1 x21_1).f0) (ji19))) = some (r1, r2) := by first | (rw [hy149]; with_reducible exact H) | (have H2_ := (Option.bind_some _ _).symm.trans H; rw [hy149]; with_reducible exact H2_) | (have H2_ := (Option.bind_some _ _).symm.trans H; with_reducible exact H2_) | with_reducible exact H | (rw [hy149]; exact H) | exact H
            have Ny149 := Aside0.mk hy149
            clear hy149
            have H' := Aside0.mk H
            clear H
            have p142 : 0 ≤ (x21_1 : Int) := of_decide_eq_true odt
            have q142 : x21_1 < (l1.length : Int) := of_decide_eq_true odt
            obtain ⟨ad142, e142, hx142_0, hx142_1⟩ := at_T42 HR1.out x21_1 p142 q142
            cases e142
            replace hx142_0 := (HB.out.cell (World.block_lt_of_cell? w _ hx142_0)).trans hx142_0
            replace hx142_1 := (HB.out.cell (World.block_lt_of_cell? w _ hx142_1)).trans hx142_1
            replace p142 := eq_true p142
            replace q142 := eq_true q142
            obtain ⟨Ao30, co30, eo30⟩ := Kd.R_slice HO_10.out
            subst eo30
            go_wp2_with (first | ((with_reducible refine gate_dst (N := 12) rfl ?_); refine box_event ?hg (N := 12) ?hd (cs := #[.string (⟨#[]⟩ : ByteArray), .int .i64 0]) (t := 42) ?hr ?_; (case hd => rfl); (case hg => rfl); (case hr => first | (go_simp; done) | (go_simp; rfl)); intro gb143 hg w23 hbox hb; have n0_ := Aside0.mk (Kd.R_below (ra HO_8) hb); have n1_ := Aside0.mk (Kd.R_below (ra HO_10) hb); have n2_ := Aside0.mk (blk_below (g := gb137) (o := .cells #[.int .i64 a0_0, .int .i64 a0_1, .int .i64 a0_2, .int .i64 a0_3, .bool true] 23 (0, 0)) (bk BK137) hb); have n3_ := Aside0.mk (mp_step (show IsMap mK9 mE3 _ gm138 x139000_1 from by (with_reducible repeat (first | refine mp_drewN ?_ _ | refine mp_drew ?_ | refine mp_alloc ?_ _)); exact BK138.out) (fun o_ h_ => blk_below (g := gm138) (o := o_) h_ hb)); have n4_ := Aside0.mk (below_step (bl HB) hb); have n5_ := Aside0.mk (hbox); have n6_ := Aside0.mk ((by rw [hg]; exact (below_size (bl HB)) : w.heap.size ≤ gb143)); have n7_ := Aside0.mk ((by rw [hg]; exact (below_size (bl HB)) : w.heap.size ≤ gb143)); have n8_ := Aside0.mk ((by rw [hg]; exact Nat.ne_of_lt (blk_lt (g := gb137) (o := .cells #[.int .i64 a0_0, .int .i64 a0_1, .int .i64 a0_2, .int .i64 a0_3, .bool true] 23 (0, 0)) (bk BK137)) : gb137 ≠ gb143)); have n9_ := Aside0.mk ((by rw [hg]; exact Nat.ne_of_gt (blk_lt (g := gb137) (o := .cells #[.int .i64 a0_0, .int .i64 a0_1, .int .i64 a0_2, .int .i64 a0_3, .bool true] 23 (0, 0)) (bk BK137)) : gb143 ≠ gb137)); have n10_ := Aside0.mk ((by rw [hg]; exact Nat.ne_of_lt (blk_lt (g := gm138) (mp_some (show IsMap mK9 mE3 _ gm138 x139000_1 from by (with_reducible repeat (first | refine mp_drewN ?_ _ | refine mp_drew ?_ | refine mp_alloc ?_ _)); exact BK138.out)).choose_spec) : gm138 ≠ gb143)); have n11_ := Aside0.mk ((by rw [hg]; exact Nat.ne_of_gt (blk_lt (g := gm138) (mp_some (show IsMap mK9 mE3 _ gm138 x139000_1 from by (with_reducible repeat (first | refine mp_drewN ?_ _ | refine mp_drew ?_ | refine mp_alloc ?_ _)); exact BK138.out)).choose_spec) : gb143 ≠ gm138)); clear HO_8; clear HO_10; clear BK137; clear BK138; clear HB; have HO_8 := n0_; have HO_10 := n1_; have BK137 := n2_; have BK138 := n3_; have HB := n4_; have BK143 := n5_; have GW143 := n6_; have GE143 := n7_; have NB137_143 := n8_; have NB143_137 := n9_; have NB138_143 := n10_; have NB143_138 := n11_; clear n0_ n1_ n2_ n3_ n4_ n5_ n6_ n7_ n8_ n9_ n10_ n11_; clear hb hbox hg; have hnb24 := NB143_137.out; have hnc24 := NB137_143.out; have hnb25 := NB143_138.out; have hnc25 := NB138_143.out; have hcz26_0 : w23.cell? ⟨gb143, 0, none⟩ = some (.string (⟨#[]⟩ : ByteArray)) := (blk_cell BK143.out 0).trans rfl; have hcz26_1 : w23.cell? ⟨gb143, 1, none⟩ = some (.int .i64 0) := (blk_cell BK143.out 1).trans rfl; have hfz26_0 := blk_frozen BK143.out 0; have hfz26_1 := blk_frozen BK143.out 1; have hnb27 := NB137_138.out; have hnc27 := NB138_137.out; have hcz28_0 : w23.cell? ⟨gb137, 0, none⟩ = some (.int .i64 a0_0) := (blk_cell BK137.out 0).trans rfl; have hcz28_1 : w23.cell? ⟨gb137, 1, none⟩ = some (.int .i64 a0_1) := (blk_cell BK137.out 1).trans rfl; have hcz28_2 : w23.cell? ⟨gb137, 2, none⟩ = some (.int .i64 a0_2) := (blk_cell BK137.out 2).trans rfl; have hcz28_3 : w23.cell? ⟨gb137, 3, none⟩ = some (.int .i64 a0_3) := (blk_cell BK137.out 3).trans rfl; have hcz28_4 : w23.cell? ⟨gb137, 4, none⟩ = some (.bool true) := (blk_cell BK137.out 4).trans rfl; have hfz28_0 := blk_frozen BK137.out 0; have hfz28_1 := blk_frozen BK137.out 1; have hfz28_2 := blk_frozen BK137.out 2; have hfz28_3 := blk_frozen BK137.out 3; have hfz28_4 := blk_frozen BK137.out 4) | ((with_reducible refine gate_dst (N := 33) rfl ?_); refine look_event (k := mK9) (e := mE3) (g := gm138) (m := x139000_1) ?hg (N := 33) ?hd ?moq29 ?xoq29 64 ?ho Tryd.underlying64 ((rd_T42 l1 x21_1).f0) (.int .i64 (PM.look x139000_1 ((rd_T42 l1 x21_1).f0) 0)) ?hu ?hm ?hx ?hI ?hk ?_; (case hd => rfl); (case hg => rfl); (case ho => rfl); (case hu => rfl); (case hm => rfl); (case hx => rfl); (case hI => exact (by (with_reducible repeat (first | refine mp_drewN ?_ _ | refine mp_drew ?_ | refine mp_alloc ?_ _)); refine mp_far ?_ NB138_143.out _; (with_reducible repeat (first | refine mp_drewN ?_ _ | refine mp_drew ?_ | refine mp_alloc ?_ _)); refine mp_far ?_ NB138_143.out _; (with_reducible repeat (first | refine mp_drewN ?_ _ | refine mp_drew ?_ | refine mp_alloc ?_ _)); exact BK138.out)); (case hk => exact (show ((rd_T42 l1 x21_1).f0).size ≤ 9223372036854775807 from of_decide_eq_true odt))) | ((with_reducible refine gate_callee (f := 38) rfl ?_); refine goesL_ (some 41) rfl rfl Tryd.func38 (by kernel_rfl) rfl #[.slice Ao30 t139.length co30, .slice A2 l2.length c2, .string ((rd_T42 l1 x21_1).f0), .int .i64 ji15] rfl (by (try simp only [List.map_toArray, List.map_cons, List.map_nil]); first | done | (simp only [hji15]; rfl) | rfl | (simp only [List.length_drop, List.length_take]; rfl)) ?_; (with_reducible refine (desk_sending.calls k1 _ _ t139 _ _ l2 ((rd_T42 l1 x21_1).f0) ji15 t144 t145 t146 true _ ?side1 ?side2 ?side3 ?side4 A16.out).mono ?_); (case side1 => refine (Kd.R_reads' (e := 3) (base := w.heap.size) (ok := fun k_ => True) (n := t139.length) (c := co30) ?_).2.2; exact (by (with_reducible repeat (first | apply Kd.R_alloc | apply Kd.R_drewN | apply Kd.R_drew)); exact (Kd.R_mono (Kd.R_far (p := ⟨gb143, 1, none⟩) (Kd.R_far (p := ⟨gb143, 0, none⟩) (Kd.R_types HO_10.out BK143.out (by decide)) (fun _ hk => hk.2) (.string ((rd_T42 l1 x21_1).f0))) (fun _ hk => hk.2) (.int .i64 ((rd_T42 l1 x21_1).f1))) (fun _ h_ => h_.1)))); (case side2 => exact (Kd.R_reads' HO_10.out).2.1); (case side3 => exact Kd.C_below HR2.out (bl HB)); (case side4 => exact HC2.out); rintro e w31 ⟨rfl, hb⟩; refine ⟨_, rfl, ?_⟩; have n0_ := Aside0.mk (Kd.R_below (by (with_reducible repeat (first | apply Kd.R_alloc | apply Kd.R_drewN | apply Kd.R_drew)); exact (Kd.R_mono (Kd.R_far (p := ⟨gb143, 1, none⟩) (Kd.R_far (p := ⟨gb143, 0, none⟩) (Kd.R_types HO_8.out BK143.out (by decide)) (fun _ hk => hk.2) (.string ((rd_T42 l1 x21_1).f0))) (fun _ hk => hk.2) (.int .i64 ((rd_T42 l1 x21_1).f1))) (fun _ h_ => h_.1))) hb); have n1_ := Aside0.mk (Kd.R_below (by (with_reducible repeat (first | apply Kd.R_alloc | apply Kd.R_drewN | apply Kd.R_drew)); exact (Kd.R_mono (Kd.R_far (p := ⟨gb143, 1, none⟩) (Kd.R_far (p := ⟨gb143, 0, none⟩) (Kd.R_types HO_10.out BK143.out (by decide)) (fun _ hk => hk.2) (.string ((rd_T42 l1 x21_1).f0))) (fun _ hk => hk.2) (.int .i64 ((rd_T42 l1 x21_1).f1))) (fun _ h_ => h_.1))) hb); have n2_ := Aside0.mk (blk_below (g := gb137) (o := .cells #[.int .i64 a0_0, .int .i64 a0_1, .int .i64 a0_2, .int .i64 a0_3, .bool true] 23 (0, 0)) (by (with_reducible repeat (first | refine blk_drewN ?_ _ | refine blk_drew ?_ | refine blk_alloc ?_ _)); refine blk_far ?_ NB137_143.out _; (with_reducible repeat (first | refine blk_drewN ?_ _ | refine blk_drew ?_ | refine blk_alloc ?_ _)); refine blk_far ?_ NB137_143.out _; (with_reducible repeat (first | refine blk_drewN ?_ _ | refine blk_drew ?_ | refine blk_alloc ?_ _)); exact BK137.out) hb); have n3_ := Aside0.mk (mp_step (show IsMap mK9 mE3 _ gm138 x139000_1 from by (with_reducible repeat (first | refine mp_drewN ?_ _ | refine mp_drew ?_ | refine mp_alloc ?_ _)); refine mp_far ?_ NB138_143.out _; (with_reducible repeat (first | refine mp_drewN ?_ _ | refine mp_drew ?_ | refine mp_alloc ?_ _)); refine mp_far ?_ NB138_143.out _; (with_reducible repeat (first | refine mp_drewN ?_ _ | refine mp_drew ?_ | refine mp_alloc ?_ _)); exact BK138.out) (fun o_ h_ => blk_below (g := gm138) (o := o_) h_ hb)); have n4_ := Aside0.mk (blk_below (g := gb143) (o := .cells #[.string ((rd_T42 l1 x21_1).f0), .int .i64 ((rd_T42 l1 x21_1).f1)] 42 (0, 0)) (by (with_reducible repeat (first | refine blk_drewN ?_ _ | refine blk_drew ?_ | refine blk_alloc ?_ _)); refine blk_put (cs := #[.string ((rd_T42 l1 x21_1).f0), .int .i64 0]) ?_ 1 _ rfl; (with_reducible repeat (first | refine blk_drewN ?_ _ | refine blk_drew ?_ | refine blk_alloc ?_ _)); refine blk_put (cs := #[.string (⟨#[]⟩ : ByteArray), .int .i64 0]) ?_ 0 _ rfl; (with_reducible repeat (first | refine blk_drewN ?_ _ | refine blk_drew ?_ | refine blk_alloc ?_ _)); exact BK143.out) hb); have n5_ := Aside0.mk (below_step (bl HB) hb); clear HO_8; clear HO_10; clear BK137; clear BK138; clear BK143; clear HB; have HO_8 := n0_; have HO_10 := n1_; have BK137 := n2_; have BK138 := n3_; have BK143 := n4_; have HB := n5_; clear n0_ n1_ n2_ n3_ n4_ n5_; (try clear hb); (try clear hb2); (try clear hk); (try clear hi)) | ((with_reducible refine gate_dst (N := 14) rfl ?_); refine box_event ?hg (N := 14) ?hd (cs := #[.int .i64 0, .int .i64 0, .int .i64 0]) (t := 34) ?hr ?_; (case hd => rfl); (case hg => rfl); (case hr => first | (go_simp; done) | (go_simp; rfl)); intro gb148 hg w32 hbox hb; have n0_ := Aside0.mk (Kd.R_below (Kd.R_elderB (ra HO_8) gb148 (Nat.le_of_eq hg.symm)) hb); have n1_ := Aside0.mk (Kd.R_below (ra HO_10) hb); have n2_ := Aside0.mk (blk_below (g := gb137) (o := .cells #[.int .i64 a0_0, .int .i64 a0_1, .int .i64 a0_2, .int .i64 a0_3, .bool true] 23 (0, 0)) (bk BK137) hb); have n3_ := Aside0.mk (mp_step (show IsMap mK9 mE3 _ gm138 x139000_1 from by (with_reducible repeat (first | refine mp_drewN ?_ _ | refine mp_drew ?_ | refine mp_alloc ?_ _)); exact BK138.out) (fun o_ h_ => blk_below (g := gm138) (o := o_) h_ hb)); have n4_ := Aside0.mk (blk_below (g := gb143) (o := .cells #[.string ((rd_T42 l1 x21_1).f0), .int .i64 ((rd_T42 l1 x21_1).f1)] 42 (0, 0)) (bk BK143) hb); have n5_ := Aside0.mk (below_step (bl HB) hb); have n6_ := Aside0.mk (hbox); have n7_ := Aside0.mk ((by rw [hg]; exact (below_size (bl HB)) : w.heap.size ≤ gb148)); have n8_ := Aside0.mk ((by rw [hg]; exact (below_size (bl HB)) : w.heap.size ≤ gb148)); have n9_ := Aside0.mk ((by rw [hg]; exact Nat.ne_of_lt (blk_lt (g := gb137) (o := .cells #[.int .i64 a0_0, .int .i64 a0_1, .int .i64 a0_2, .int .i64 a0_3, .bool true] 23 (0, 0)) (bk BK137)) : gb137 ≠ gb148)); have n10_ := Aside0.mk ((by rw [hg]; exact Nat.ne_of_gt (blk_lt (g := gb137) (o := .cells #[.int .i64 a0_0, .int .i64 a0_1, .int .i64 a0_2, .int .i64 a0_3, .bool true] 23 (0, 0)) (bk BK137)) : gb148 ≠ gb137)); have n11_ := Aside0.mk ((by rw [hg]; exact Nat.ne_of_lt (blk_lt (g := gm138) (mp_some (show IsMap mK9 mE3 _ gm138 x139000_1 from by (with_reducible repeat (first | refine mp_drewN ?_ _ | refine mp_drew ?_ | refine mp_alloc ?_ _)); exact BK138.out)).choose_spec) : gm138 ≠ gb148)); have n12_ := Aside0.mk ((by rw [hg]; exact Nat.ne_of_gt (blk_lt (g := gm138) (mp_some (show IsMap mK9 mE3 _ gm138 x139000_1 from by (with_reducible repeat (first | refine mp_drewN ?_ _ | refine mp_drew ?_ | refine mp_alloc ?_ _)); exact BK138.out)).choose_spec) : gb148 ≠ gm138)); have n13_ := Aside0.mk ((by rw [hg]; exact Nat.ne_of_lt (blk_lt (g := gb143) (o := .cells #[.string ((rd_T42 l1 x21_1).f0), .int .i64 ((rd_T42 l1 x21_1).f1)] 42 (0, 0)) (bk BK143)) : gb143 ≠ gb148)); have n14_ := Aside0.mk ((by rw [hg]; exact Nat.ne_of_gt (blk_lt (g := gb143) (o := .cells #[.string ((rd_T42 l1 x21_1).f0), .int .i64 ((rd_T42 l1 x21_1).f1)] 42 (0, 0)) (bk BK143)) : gb148 ≠ gb143)); clear HO_8; clear HO_10; clear BK137; clear BK138; clear BK143; clear HB; have HO_8 := n0_; have HO_10 := n1_; have BK137 := n2_; have BK138 := n3_; have BK143 := n4_; have HB := n5_; have BK148 := n6_; have GW148 := n7_; have GE148 := n8_; have NB137_148 := n9_; have NB148_137 := n10_; have NB138_148 := n11_; have NB148_138 := n12_; have NB143_148 := n13_; have NB148_143 := n14_; clear n0_ n1_ n2_ n3_ n4_ n5_ n6_ n7_ n8_ n9_ n10_ n11_ n12_ n13_ n14_; clear hb hbox hg; have hnb33 := NB148_137.out; have hnc33 := NB137_148.out; have hnb34 := NB148_138.out; have hnc34 := NB138_148.out; have hnb35 := NB148_143.out; have hnc35 := NB143_148.out; have hcz36_0 : w32.cell? ⟨gb148, 0, none⟩ = some (.int .i64 0) := (blk_cell BK148.out 0).trans rfl; have hcz36_1 : w32.cell? ⟨gb148, 1, none⟩ = some (.int .i64 0) := (blk_cell BK148.out 1).trans rfl; have hcz36_2 : w32.cell? ⟨gb148, 2, none⟩ = some (.int .i64 0) := (blk_cell BK148.out 2).trans rfl; have hfz36_0 := blk_frozen BK148.out 0; have hfz36_1 := blk_frozen BK148.out 1; have hfz36_2 := blk_frozen BK148.out 2; have hcz37_0 : w32.cell? ⟨gb143, 0, none⟩ = some (.string ((rd_T42 l1 x21_1).f0)) := (blk_cell BK143.out 0).trans rfl; have hcz37_1 : w32.cell? ⟨gb143, 1, none⟩ = some (.int .i64 ((rd_T42 l1 x21_1).f1)) := (blk_cell BK143.out 1).trans rfl; have hfz37_0 := blk_frozen BK143.out 0; have hfz37_1 := blk_frozen BK143.out 1) | ((with_reducible refine gate_dst (N := 52) rfl ?_); refine look_event (k := mK9) (e := mE3) (g := gm138) (m := x139000_1) ?hg (N := 52) ?hd ?moq38 ?xoq38 64 ?ho Tryd.underlying64 ((rd_T42 l1 x21_1).f0) (.int .i64 (PM.look x139000_1 ((rd_T42 l1 x21_1).f0) 0)) ?hu ?hm ?hx ?hI ?hk ?_; (case hd => rfl); (case hg => rfl); (case ho => rfl); (case hu => rfl); (case hm => rfl); (case hx => rfl); (case hI => exact (by (with_reducible repeat (first | refine mp_drewN ?_ _ | refine mp_drew ?_ | refine mp_alloc ?_ _)); refine mp_far ?_ NB138_148.out _; (with_reducible repeat (first | refine mp_drewN ?_ _ | refine mp_drew ?_ | refine mp_alloc ?_ _)); refine mp_far ?_ NB138_148.out _; (with_reducible repeat (first | refine mp_drewN ?_ _ | refine mp_drew ?_ | refine mp_alloc ?_ _)); refine mp_far ?_ NB138_148.out _; (with_reducible repeat (first | refine mp_drewN ?_ _ | refine mp_drew ?_ | refine mp_alloc ?_ _)); exact BK138.out)); (case hk => exact (show ((rd_T42 l1 x21_1).f0).size ≤ 9223372036854775807 from of_decide_eq_true odt))) | (at_mapUpdate; refine put_event (k := mK9) (e := mE3) (g := gm138) (m := x139000_1) ?hg ?moq40 ?xoq40 ?voq40 64 ?ho Tryd.underlying64 ((rd_T42 l1 x21_1).f0) ji19 ?hm ?hx ?hv ?hI ?hk ?hw ?hn ?_; (case hg => rfl); (case ho => rfl); (case hm => rfl); (case hx => rfl); (case hv => rfl); (case hI => exact (by (with_reducible repeat (first | refine mp_drewN ?_ _ | refine mp_drew ?_ | refine mp_alloc ?_ _)); refine mp_far ?_ NB138_148.out _; (with_reducible repeat (first | refine mp_drewN ?_ _ | refine mp_drew ?_ | refine mp_alloc ?_ _)); refine mp_far ?_ NB138_148.out _; (with_reducible repeat (first | refine mp_drewN ?_ _ | refine mp_drew ?_ | refine mp_alloc ?_ _)); refine mp_far ?_ NB138_148.out _; (with_reducible repeat (first | refine mp_drewN ?_ _ | refine mp_drew ?_ | refine mp_alloc ?_ _)); exact BK138.out)); (case hk => exact (show ((rd_T42 l1 x21_1).f0).size ≤ 9223372036854775807 from of_decide_eq_true odt)); (case hw => exact (show (Lit.int .i64 ji19).wf = true from (of_decide_eq_true odt))); (case hn => exact (of_decide_eq_true odt)); intro w39 hm1_ hgm_; have n0_ := Aside0.mk (mp_overR (show Kd.R k34 34 _ w.heap.size (fun k_ => k_ ≠ gb148) u8 x8_1 from by (with_reducible repeat (first | apply Kd.R_alloc | apply Kd.R_drewN | apply Kd.R_drew)); exact Kd.R_mono (Kd.R_far (p := ⟨gb148, 2, none⟩) (Kd.R_far (p := ⟨gb148, 1, none⟩) (Kd.R_far (p := ⟨gb148, 0, none⟩) (Kd.R_mono HO_8.out (fun k_ hk => (⟨hk, hk.2⟩ : _ ∧ k_ ≠ gb148))) (fun _ hk => hk.2) (.int .i64 t144)) (fun _ hk => hk.2) (.int .i64 t145)) (fun _ hk => hk.2) (.int .i64 t146)) (fun _ hk => hk.1.2)) (show IsMap mK9 mE3 _ gm138 x139000_1 from by (with_reducible repeat (first | refine mp_drewN ?_ _ | refine mp_drew ?_ | refine mp_alloc ?_ _)); refine mp_far ?_ NB138_148.out _; (with_reducible repeat (first | refine mp_drewN ?_ _ | refine mp_drew ?_ | refine mp_alloc ?_ _)); refine mp_far ?_ NB138_148.out _; (with_reducible repeat (first | refine mp_drewN ?_ _ | refine mp_drew ?_ | refine mp_alloc ?_ _)); refine mp_far ?_ NB138_148.out _; (with_reducible repeat (first | refine mp_drewN ?_ _ | refine mp_drew ?_ | refine mp_alloc ?_ _)); exact BK138.out) hgm_); have n1_ := Aside0.mk (mp_overR (show Kd.R (Kd.int .i64) 3 _ w.heap.size (fun _ => True) (.slice Ao30 t139.length co30) t139 from by (with_reducible repeat (first | apply Kd.R_alloc | apply Kd.R_drewN | apply Kd.R_drew)); exact Kd.R_mono (Kd.R_far (p := ⟨gb148, 2, none⟩) (Kd.R_far (p := ⟨gb148, 1, none⟩) (Kd.R_far (p := ⟨gb148, 0, none⟩) (Kd.R_types HO_10.out BK148.out (by decide)) (fun _ hk => hk.2) (.int .i64 t144)) (fun _ hk => hk.2) (.int .i64 t145)) (fun _ hk => hk.2) (.int .i64 t146)) (fun _ hk => trivial)) (show IsMap mK9 mE3 _ gm138 x139000_1 from by (with_reducible repeat (first | refine mp_drewN ?_ _ | refine mp_drew ?_ | refine mp_alloc ?_ _)); refine mp_far ?_ NB138_148.out _; (with_reducible repeat (first | refine mp_drewN ?_ _ | refine mp_drew ?_ | refine mp_alloc ?_ _)); refine mp_far ?_ NB138_148.out _; (with_reducible repeat (first | refine mp_drewN ?_ _ | refine mp_drew ?_ | refine mp_alloc ?_ _)); refine mp_far ?_ NB138_148.out _; (with_reducible repeat (first | refine mp_drewN ?_ _ | refine mp_drew ?_ | refine mp_alloc ?_ _)); exact BK138.out) hgm_); have n2_ := Aside0.mk (blk_grown (g := gb137) (o := .cells #[.int .i64 a0_0, .int .i64 a0_1, .int .i64 a0_2, .int .i64 a0_3, .bool true] 23 (0, 0)) (by (with_reducible repeat (first | refine blk_drewN ?_ _ | refine blk_drew ?_ | refine blk_alloc ?_ _)); refine blk_far ?_ NB137_148.out _; (with_reducible repeat (first | refine blk_drewN ?_ _ | refine blk_drew ?_ | refine blk_alloc ?_ _)); refine blk_far ?_ NB137_148.out _; (with_reducible repeat (first | refine blk_drewN ?_ _ | refine blk_drew ?_ | refine blk_alloc ?_ _)); refine blk_far ?_ NB137_148.out _; (with_reducible repeat (first | refine blk_drewN ?_ _ | refine blk_drew ?_ | refine blk_alloc ?_ _)); exact BK137.out) hgm_ (fun e_ => NB137_138.out (Option.some.inj e_))); have n3_ := Aside0.mk (hm1_); have n4_ := Aside0.mk (blk_grown (g := gb143) (o := .cells #[.string ((rd_T42 l1 x21_1).f0), .int .i64 ((rd_T42 l1 x21_1).f1)] 42 (0, 0)) (by (with_reducible repeat (first | refine blk_drewN ?_ _ | refine blk_drew ?_ | refine blk_alloc ?_ _)); refine blk_far ?_ NB143_148.out _; (with_reducible repeat (first | refine blk_drewN ?_ _ | refine blk_drew ?_ | refine blk_alloc ?_ _)); refine blk_far ?_ NB143_148.out _; (with_reducible repeat (first | refine blk_drewN ?_ _ | refine blk_drew ?_ | refine blk_alloc ?_ _)); refine blk_far ?_ NB143_148.out _; (with_reducible repeat (first | refine blk_drewN ?_ _ | refine blk_drew ?_ | refine blk_alloc ?_ _)); exact BK143.out) hgm_ (fun e_ => NB143_138.out (Option.some.inj e_))); have n5_ := Aside0.mk (blk_grown (g := gb148) (o := .cells #[.int .i64 t144, .int .i64 t145, .int .i64 t146] 34 (0, 0)) (by (with_reducible repeat (first | refine blk_drewN ?_ _ | refine blk_drew ?_ | refine blk_alloc ?_ _)); refine blk_put (cs := #[.int .i64 t144, .int .i64 t145, .int .i64 0]) ?_ 2 _ rfl; (with_reducible repeat (first | refine blk_drewN ?_ _ | refine blk_drew ?_ | refine blk_alloc ?_ _)); refine blk_put (cs := #[.int .i64 t144, .int .i64 0, .int .i64 0]) ?_ 1 _ rfl; (with_reducible repeat (first | refine blk_drewN ?_ _ | refine blk_drew ?_ | refine blk_alloc ?_ _)); refine blk_put (cs := #[.int .i64 0, .int .i64 0, .int .i64 0]) ?_ 0 _ rfl; (with_reducible repeat (first | refine blk_drewN ?_ _ | refine blk_drew ?_ | refine blk_alloc ?_ _)); exact BK148.out) hgm_ (fun e_ => NB148_138.out (Option.some.inj e_))); have n6_ := Aside0.mk (Below.grown (show Below w.heap.size w _ from bl HB) hgm_ (below_size (show Below w.heap.size w _ from bl HB)) (fun k_ e_ => by cases e_; exact GE138.out)); clear HO_8; clear HO_10; clear BK137; clear BK138; clear BK143; clear BK148; clear HB; have HO_8 := n0_; have HO_10 := n1_; have BK137 := n2_; have BK138 := n3_; have BK143 := n4_; have BK148 := n5_; have HB := n6_; clear n0_ n1_ n2_ n3_ n4_ n5_ n6_; clear hm1_ hgm_; have hcz41_0 : w39.cell? ⟨gb148, 0, none⟩ = some (.int .i64 t144) := (blk_cell BK148.out 0).trans rfl; have hcz41_1 : w39.cell? ⟨gb148, 1, none⟩ = some (.int .i64 t145) := (blk_cell BK148.out 1).trans rfl; have hcz41_2 : w39.cell? ⟨gb148, 2, none⟩ = some (.int .i64 t146) := (blk_cell BK148.out 2).trans rfl; have hfz41_0 := blk_frozen BK148.out 0; have hfz41_1 := blk_frozen BK148.out 1; have hfz41_2 := blk_frozen BK148.out 2) | ((with_reducible refine gate_builtin (b := .append) (xs := #[.tmp 58, .tmp 60]) rfl ?_); at_builtin; refine Kd.R_append k34 (w0 := w) w.heap.size rfl (.tmp 58) (.tmp 60) 26 34 (.agg #[(.int .i64 0), (.int .i64 0), (.int .i64 0)]) 24 rfl Tryd.underlying26 info34 rfl (by decide) (by omega) u8 x8_1 (⟨t144, t145, t146⟩ : S34) [.int .i64 t144, .int .i64 t145, .int .i64 t146] (fun k_ => k_ ≠ gb148) (fun _ => False) rfl rfl ?aP (fun _ hk => hk.elim) ?aF ?aO ?aB ?aS ?aL ?_; (case aP => exact k34_mkM _ _ _ (⟨t144, t145, t146⟩ : S34)); (case aB => exact (bl HB)); (case aF => exact (fun k_ hk => Kd.freshB (g := gb148) (o := .cells #[.int .i64 t144, .int .i64 t145, .int .i64 t146] 34 (0, 0)) (bk BK148) k_ hk)); (case aO => exact (ra HO_8)); (case aS => exact (below_size (bl HB))); (case aL => have := LMc22.out; omega); intro v150 w42 ho hb hg hat; rw [← Ny149.out] at ho; have n0_ := Aside0.mk (Kd.R_over' (ra HO_10) (Kd.R_typed (ra HO_8)) (by decide) hg); have n1_ := Aside0.mk (blk_grown (g := gb137) (o := .cells #[.int .i64 a0_0, .int .i64 a0_1, .int .i64 a0_2, .int .i64 a0_3, .bool true] 23 (0, 0)) (bk BK137) hg (Kd.R_ne HO_8.out BK137.out (by decide))); have n2_ := Aside0.mk (mp_step (show IsMap mK9 mE3 _ gm138 (PM.put x139000_1 ((rd_T42 l1 x21_1).f0) (ji19)) from by (with_reducible repeat (first | refine mp_drewN ?_ _ | refine mp_drew ?_ | refine mp_alloc ?_ _)); exact BK138.out) (fun o_ h_ => blk_grown (g := gm138) (o := o_) h_ hg (mp_neR HO_8.out BK138.out))); have n3_ := Aside0.mk (blk_grown (g := gb143) (o := .cells #[.string ((rd_T42 l1 x21_1).f0), .int .i64 ((rd_T42 l1 x21_1).f1)] 42 (0, 0)) (bk BK143) hg (Kd.R_ne HO_8.out BK143.out (by decide))); have n4_ := Aside0.mk (blk_grown (g := gb148) (o := .cells #[.int .i64 t144, .int .i64 t145, .int .i64 t146] 34 (0, 0)) (bk BK148) hg (Kd.R_away HO_8.out (fun _ hk => hk))); have n5_ := Aside0.mk (hb); have n6_ := Aside0.mk (ho); clear HO_10; clear BK137; clear BK138; clear BK143; clear BK148; clear HB; clear HO_8; have HO_10 := n0_; have BK137 := n1_; have BK138 := n2_; have BK143 := n3_; have BK148 := n4_; have HB := n5_; have HO151 := n6_; clear n0_ n1_ n2_ n3_ n4_ n5_ n6_; clear ho hb hg hat))
            go_roundg k1
            case measure => have := HK1.out; omega
            case rel => exact ⟨(y149), (wrap64 (x21_1 + 1)), ((PM.put x139000_1 ((rd_T42 l1 x21_1).f0) (ji19))), (by first | rfl | (simp; done) | (simp [*]; done)), H', ⟨by have := HK1.out; omega⟩, ⟨by (with_reducible repeat (first | apply Kd.R_alloc | apply Kd.R_drewN | apply Kd.R_drew)); exact Kd.R_mono HO151.out (fun _ hk => trivial)⟩, ⟨ra HO_10⟩, ⟨bk BK137⟩, ⟨by (with_reducible repeat (first | refine mp_drewN ?_ _ | refine mp_drew ?_ | refine mp_alloc ?_ _)); exact BK138.out⟩, ⟨bl HB⟩⟩
           ·rw [if_neg c22] at H
            exact absurd H (by simp)
          ·rw [if_neg c21] at H
           exact absurd H (by simp)
         ·rw [if_neg c20] at H
          exact absurd H (by simp)
        ·replace c17 := Bool.eq_false_iff.mpr c17
         subst c17
         have H1 : (some (([] : List (S34)), 1)) = some (r1, r2) := by rw [if_neg (show ¬ (false = true) by decide)] at H; exact H
         clear H
         have H := H1
         clear H1
         simp only [Option.some.injEq, Prod.mk.injEq] at H
         obtain ⟨rfl, rfl⟩ := H
         have p142 : 0 ≤ (x21_1 : Int) := of_decide_eq_true odt
         have q142 : x21_1 < (l1.length : Int) := of_decide_eq_true odt
         obtain ⟨ad142, e142, hx142_0, hx142_1⟩ := at_T42 HR1.out x21_1 p142 q142
         cases e142
         replace hx142_0 := (HB.out.cell (World.block_lt_of_cell? w _ hx142_0)).trans hx142_0
         replace hx142_1 := (HB.out.cell (World.block_lt_of_cell? w _ hx142_1)).trans hx142_1
         replace p142 := eq_true p142
         replace q142 := eq_true q142
         obtain ⟨Ao50, co50, eo50⟩ := Kd.R_slice HO_10.out
         subst eo50
         go_wp2_with (first | ((with_reducible refine gate_dst (N := 12) rfl ?_); refine box_event ?hg (N := 12) ?hd (cs := #[.string (⟨#[]⟩ : ByteArray), .int .i64 0]) (t := 42) ?hr ?_; (case hd => rfl); (case hg => rfl); (case hr => first | (go_simp; done) | (go_simp; rfl)); intro gb143 hg w43 hbox hb; have n0_ := Aside0.mk (Kd.R_below (ra HO_8) hb); have n1_ := Aside0.mk (Kd.R_below (ra HO_10) hb); have n2_ := Aside0.mk (blk_below (g := gb137) (o := .cells #[.int .i64 a0_0, .int .i64 a0_1, .int .i64 a0_2, .int .i64 a0_3, .bool true] 23 (0, 0)) (bk BK137) hb); have n3_ := Aside0.mk (mp_step (show IsMap mK9 mE3 _ gm138 x139000_1 from by (with_reducible repeat (first | refine mp_drewN ?_ _ | refine mp_drew ?_ | refine mp_alloc ?_ _)); exact BK138.out) (fun o_ h_ => blk_below (g := gm138) (o := o_) h_ hb)); have n4_ := Aside0.mk (below_step (bl HB) hb); have n5_ := Aside0.mk (hbox); have n6_ := Aside0.mk ((by rw [hg]; exact (below_size (bl HB)) : w.heap.size ≤ gb143)); have n7_ := Aside0.mk ((by rw [hg]; exact (below_size (bl HB)) : w.heap.size ≤ gb143)); have n8_ := Aside0.mk ((by rw [hg]; exact Nat.ne_of_lt (blk_lt (g := gb137) (o := .cells #[.int .i64 a0_0, .int .i64 a0_1, .int .i64 a0_2, .int .i64 a0_3, .bool true] 23 (0, 0)) (bk BK137)) : gb137 ≠ gb143)); have n9_ := Aside0.mk ((by rw [hg]; exact Nat.ne_of_gt (blk_lt (g := gb137) (o := .cells #[.int .i64 a0_0, .int .i64 a0_1, .int .i64 a0_2, .int .i64 a0_3, .bool true] 23 (0, 0)) (bk BK137)) : gb143 ≠ gb137)); have n10_ := Aside0.mk ((by rw [hg]; exact Nat.ne_of_lt (blk_lt (g := gm138) (mp_some (show IsMap mK9 mE3 _ gm138 x139000_1 from by (with_reducible repeat (first | refine mp_drewN ?_ _ | refine mp_drew ?_ | refine mp_alloc ?_ _)); exact BK138.out)).choose_spec) : gm138 ≠ gb143)); have n11_ := Aside0.mk ((by rw [hg]; exact Nat.ne_of_gt (blk_lt (g := gm138) (mp_some (show IsMap mK9 mE3 _ gm138 x139000_1 from by (with_reducible repeat (first | refine mp_drewN ?_ _ | refine mp_drew ?_ | refine mp_alloc ?_ _)); exact BK138.out)).choose_spec) : gb143 ≠ gm138)); clear HO_8; clear HO_10; clear BK137; clear BK138; clear HB; have HO_8 := n0_; have HO_10 := n1_; have BK137 := n2_; have BK138 := n3_; have HB := n4_; have BK143 := n5_; have GW143 := n6_; have GE143 := n7_; have NB137_143 := n8_; have NB143_137 := n9_; have NB138_143 := n10_; have NB143_138 := n11_; clear n0_ n1_ n2_ n3_ n4_ n5_ n6_ n7_ n8_ n9_ n10_ n11_; clear hb hbox hg; have hnb44 := NB143_137.out; have hnc44 := NB137_143.out; have hnb45 := NB143_138.out; have hnc45 := NB138_143.out; have hcz46_0 : w43.cell? ⟨gb143, 0, none⟩ = some (.string (⟨#[]⟩ : ByteArray)) := (blk_cell BK143.out 0).trans rfl; have hcz46_1 : w43.cell? ⟨gb143, 1, none⟩ = some (.int .i64 0) := (blk_cell BK143.out 1).trans rfl; have hfz46_0 := blk_frozen BK143.out 0; have hfz46_1 := blk_frozen BK143.out 1; have hnb47 := NB137_138.out; have hnc47 := NB138_137.out; have hcz48_0 : w43.cell? ⟨gb137, 0, none⟩ = some (.int .i64 a0_0) := (blk_cell BK137.out 0).trans rfl; have hcz48_1 : w43.cell? ⟨gb137, 1, none⟩ = some (.int .i64 a0_1) := (blk_cell BK137.out 1).trans rfl; have hcz48_2 : w43.cell? ⟨gb137, 2, none⟩ = some (.int .i64 a0_2) := (blk_cell BK137.out 2).trans rfl; have hcz48_3 : w43.cell? ⟨gb137, 3, none⟩ = some (.int .i64 a0_3) := (blk_cell BK137.out 3).trans rfl; have hcz48_4 : w43.cell? ⟨gb137, 4, none⟩ = some (.bool true) := (blk_cell BK137.out 4).trans rfl; have hfz48_0 := blk_frozen BK137.out 0; have hfz48_1 := blk_frozen BK137.out 1; have hfz48_2 := blk_frozen BK137.out 2; have hfz48_3 := blk_frozen BK137.out 3; have hfz48_4 := blk_frozen BK137.out 4) | ((with_reducible refine gate_dst (N := 33) rfl ?_); refine look_event (k := mK9) (e := mE3) (g := gm138) (m := x139000_1) ?hg (N := 33) ?hd ?moq49 ?xoq49 64 ?ho Tryd.underlying64 ((rd_T42 l1 x21_1).f0) (.int .i64 (PM.look x139000_1 ((rd_T42 l1 x21_1).f0) 0)) ?hu ?hm ?hx ?hI ?hk ?_; (case hd => rfl); (case hg => rfl); (case ho => rfl); (case hu => rfl); (case hm => rfl); (case hx => rfl); (case hI => exact (by (with_reducible repeat (first | refine mp_drewN ?_ _ | refine mp_drew ?_ | refine mp_alloc ?_ _)); refine mp_far ?_ NB138_143.out _; (with_reducible repeat (first | refine mp_drewN ?_ _ | refine mp_drew ?_ | refine mp_alloc ?_ _)); refine mp_far ?_ NB138_143.out _; (with_reducible repeat (first | refine mp_drewN ?_ _ | refine mp_drew ?_ | refine mp_alloc ?_ _)); exact BK138.out)); (case hk => exact (show ((rd_T42 l1 x21_1).f0).size ≤ 9223372036854775807 from of_decide_eq_true odt))) | ((with_reducible refine gate_callee (f := 38) rfl ?_); refine goesL_ (some 41) rfl rfl Tryd.func38 (by kernel_rfl) rfl #[.slice Ao50 t139.length co50, .slice A2 l2.length c2, .string ((rd_T42 l1 x21_1).f0), .int .i64 ji15] rfl (by (try simp only [List.map_toArray, List.map_cons, List.map_nil]); first | done | (simp only [hji15]; rfl) | rfl | (simp only [List.length_drop, List.length_take]; rfl)) ?_; (with_reducible refine (desk_sending.calls k1 _ _ t139 _ _ l2 ((rd_T42 l1 x21_1).f0) ji15 t144 t145 t146 false _ ?side1 ?side2 ?side3 ?side4 A16.out).mono ?_); (case side1 => refine (Kd.R_reads' (e := 3) (base := w.heap.size) (ok := fun k_ => True) (n := t139.length) (c := co50) ?_).2.2; exact (by (with_reducible repeat (first | apply Kd.R_alloc | apply Kd.R_drewN | apply Kd.R_drew)); exact (Kd.R_mono (Kd.R_far (p := ⟨gb143, 1, none⟩) (Kd.R_far (p := ⟨gb143, 0, none⟩) (Kd.R_types HO_10.out BK143.out (by decide)) (fun _ hk => hk.2) (.string ((rd_T42 l1 x21_1).f0))) (fun _ hk => hk.2) (.int .i64 ((rd_T42 l1 x21_1).f1))) (fun _ h_ => h_.1)))); (case side2 => exact (Kd.R_reads' HO_10.out).2.1); (case side3 => exact Kd.C_below HR2.out (bl HB)); (case side4 => exact HC2.out); rintro e w51 ⟨rfl, hb⟩; refine ⟨_, rfl, ?_⟩; have n0_ := Aside0.mk (Kd.R_below (by (with_reducible repeat (first | apply Kd.R_alloc | apply Kd.R_drewN | apply Kd.R_drew)); exact (Kd.R_mono (Kd.R_far (p := ⟨gb143, 1, none⟩) (Kd.R_far (p := ⟨gb143, 0, none⟩) (Kd.R_types HO_8.out BK143.out (by decide)) (fun _ hk => hk.2) (.string ((rd_T42 l1 x21_1).f0))) (fun _ hk => hk.2) (.int .i64 ((rd_T42 l1 x21_1).f1))) (fun _ h_ => h_.1))) hb); have n1_ := Aside0.mk (Kd.R_below (by (with_reducible repeat (first | apply Kd.R_alloc | apply Kd.R_drewN | apply Kd.R_drew)); exact (Kd.R_mono (Kd.R_far (p := ⟨gb143, 1, none⟩) (Kd.R_far (p := ⟨gb143, 0, none⟩) (Kd.R_types HO_10.out BK143.out (by decide)) (fun _ hk => hk.2) (.string ((rd_T42 l1 x21_1).f0))) (fun _ hk => hk.2) (.int .i64 ((rd_T42 l1 x21_1).f1))) (fun _ h_ => h_.1))) hb); have n2_ := Aside0.mk (blk_below (g := gb137) (o := .cells #[.int .i64 a0_0, .int .i64 a0_1, .int .i64 a0_2, .int .i64 a0_3, .bool true] 23 (0, 0)) (by (with_reducible repeat (first | refine blk_drewN ?_ _ | refine blk_drew ?_ | refine blk_alloc ?_ _)); refine blk_far ?_ NB137_143.out _; (with_reducible repeat (first | refine blk_drewN ?_ _ | refine blk_drew ?_ | refine blk_alloc ?_ _)); refine blk_far ?_ NB137_143.out _; (with_reducible repeat (first | refine blk_drewN ?_ _ | refine blk_drew ?_ | refine blk_alloc ?_ _)); exact BK137.out) hb); have n3_ := Aside0.mk (mp_step (show IsMap mK9 mE3 _ gm138 x139000_1 from by (with_reducible repeat (first | refine mp_drewN ?_ _ | refine mp_drew ?_ | refine mp_alloc ?_ _)); refine mp_far ?_ NB138_143.out _; (with_reducible repeat (first | refine mp_drewN ?_ _ | refine mp_drew ?_ | refine mp_alloc ?_ _)); refine mp_far ?_ NB138_143.out _; (with_reducible repeat (first | refine mp_drewN ?_ _ | refine mp_drew ?_ | refine mp_alloc ?_ _)); exact BK138.out) (fun o_ h_ => blk_below (g := gm138) (o := o_) h_ hb)); have n4_ := Aside0.mk (blk_below (g := gb143) (o := .cells #[.string ((rd_T42 l1 x21_1).f0), .int .i64 ((rd_T42 l1 x21_1).f1)] 42 (0, 0)) (by (with_reducible repeat (first | refine blk_drewN ?_ _ | refine blk_drew ?_ | refine blk_alloc ?_ _)); refine blk_put (cs := #[.string ((rd_T42 l1 x21_1).f0), .int .i64 0]) ?_ 1 _ rfl; (with_reducible repeat (first | refine blk_drewN ?_ _ | refine blk_drew ?_ | refine blk_alloc ?_ _)); refine blk_put (cs := #[.string (⟨#[]⟩ : ByteArray), .int .i64 0]) ?_ 0 _ rfl; (with_reducible repeat (first | refine blk_drewN ?_ _ | refine blk_drew ?_ | refine blk_alloc ?_ _)); exact BK143.out) hb); have n5_ := Aside0.mk (below_step (bl HB) hb); clear HO_8; clear HO_10; clear BK137; clear BK138; clear BK143; clear HB; have HO_8 := n0_; have HO_10 := n1_; have BK137 := n2_; have BK138 := n3_; have BK143 := n4_; have HB := n5_; clear n0_ n1_ n2_ n3_ n4_ n5_; (try clear hb); (try clear hb2); (try clear hk); (try clear hi)) | ((with_reducible refine gate_dst (N := 14) rfl ?_); refine box_event ?hg (N := 14) ?hd (cs := #[.int .i64 0, .int .i64 0, .int .i64 0]) (t := 34) ?hr ?_; (case hd => rfl); (case hg => rfl); (case hr => first | (go_simp; done) | (go_simp; rfl)); intro gb148 hg w52 hbox hb; have n0_ := Aside0.mk (Kd.R_below (Kd.R_elderB (ra HO_8) gb148 (Nat.le_of_eq hg.symm)) hb); have n1_ := Aside0.mk (Kd.R_below (ra HO_10) hb); have n2_ := Aside0.mk (blk_below (g := gb137) (o := .cells #[.int .i64 a0_0, .int .i64 a0_1, .int .i64 a0_2, .int .i64 a0_3, .bool true] 23 (0, 0)) (bk BK137) hb); have n3_ := Aside0.mk (mp_step (show IsMap mK9 mE3 _ gm138 x139000_1 from by (with_reducible repeat (first | refine mp_drewN ?_ _ | refine mp_drew ?_ | refine mp_alloc ?_ _)); exact BK138.out) (fun o_ h_ => blk_below (g := gm138) (o := o_) h_ hb)); have n4_ := Aside0.mk (blk_below (g := gb143) (o := .cells #[.string ((rd_T42 l1 x21_1).f0), .int .i64 ((rd_T42 l1 x21_1).f1)] 42 (0, 0)) (bk BK143) hb); have n5_ := Aside0.mk (below_step (bl HB) hb); have n6_ := Aside0.mk (hbox); have n7_ := Aside0.mk ((by rw [hg]; exact (below_size (bl HB)) : w.heap.size ≤ gb148)); have n8_ := Aside0.mk ((by rw [hg]; exact (below_size (bl HB)) : w.heap.size ≤ gb148)); have n9_ := Aside0.mk ((by rw [hg]; exact Nat.ne_of_lt (blk_lt (g := gb137) (o := .cells #[.int .i64 a0_0, .int .i64 a0_1, .int .i64 a0_2, .int .i64 a0_3, .bool true] 23 (0, 0)) (bk BK137)) : gb137 ≠ gb148)); have n10_ := Aside0.mk ((by rw [hg]; exact Nat.ne_of_gt (blk_lt (g := gb137) (o := .cells #[.int .i64 a0_0, .int .i64 a0_1, .int .i64 a0_2, .int .i64 a0_3, .bool true] 23 (0, 0)) (bk BK137)) : gb148 ≠ gb137)); have n11_ := Aside0.mk ((by rw [hg]; exact Nat.ne_of_lt (blk_lt (g := gm138) (mp_some (show IsMap mK9 mE3 _ gm138 x139000_1 from by (with_reducible repeat (first | refine mp_drewN ?_ _ | refine mp_drew ?_ | refine mp_alloc ?_ _)); exact BK138.out)).choose_spec) : gm138 ≠ gb148)); have n12_ := Aside0.mk ((by rw [hg]; exact Nat.ne_of_gt (blk_lt (g := gm138) (mp_some (show IsMap mK9 mE3 _ gm138 x139000_1 from by (with_reducible repeat (first | refine mp_drewN ?_ _ | refine mp_drew ?_ | refine mp_alloc ?_ _)); exact BK138.out)).choose_spec) : gb148 ≠ gm138)); have n13_ := Aside0.mk ((by rw [hg]; exact Nat.ne_of_lt (blk_lt (g := gb143) (o := .cells #[.string ((rd_T42 l1 x21_1).f0), .int .i64 ((rd_T42 l1 x21_1).f1)] 42 (0, 0)) (bk BK143)) : gb143 ≠ gb148)); have n14_ := Aside0.mk ((by rw [hg]; exact Nat.ne_of_gt (blk_lt (g := gb143) (o := .cells #[.string ((rd_T42 l1 x21_1).f0), .int .i64 ((rd_T42 l1 x21_1).f1)] 42 (0, 0)) (bk BK143)) : gb148 ≠ gb143)); clear HO_8; clear HO_10; clear BK137; clear BK138; clear BK143; clear HB; have HO_8 := n0_; have HO_10 := n1_; have BK137 := n2_; have BK138 := n3_; have BK143 := n4_; have HB := n5_; have BK148 := n6_; have GW148 := n7_; have GE148 := n8_; have NB137_148 := n9_; have NB148_137 := n10_; have NB138_148 := n11_; have NB148_138 := n12_; have NB143_148 := n13_; have NB148_143 := n14_; clear n0_ n1_ n2_ n3_ n4_ n5_ n6_ n7_ n8_ n9_ n10_ n11_ n12_ n13_ n14_; clear hb hbox hg; have hnb53 := NB148_137.out; have hnc53 := NB137_148.out; have hnb54 := NB148_138.out; have hnc54 := NB138_148.out; have hnb55 := NB148_143.out; have hnc55 := NB143_148.out; have hcz56_0 : w52.cell? ⟨gb148, 0, none⟩ = some (.int .i64 0) := (blk_cell BK148.out 0).trans rfl; have hcz56_1 : w52.cell? ⟨gb148, 1, none⟩ = some (.int .i64 0) := (blk_cell BK148.out 1).trans rfl; have hcz56_2 : w52.cell? ⟨gb148, 2, none⟩ = some (.int .i64 0) := (blk_cell BK148.out 2).trans rfl; have hfz56_0 := blk_frozen BK148.out 0; have hfz56_1 := blk_frozen BK148.out 1; have hfz56_2 := blk_frozen BK148.out 2))
         go_ret2
         exact ⟨_, by first | rfl | (simp [errW_none, errW_some] <;> rfl) | (simp only [← hji15]; first | rfl | (simp [errW_none, errW_some] <;> rfl)) | (simp [*, errW_none, errW_some] <;> rfl), by first | exact Kd.R_nil _ _ _ _ _ | exact Kd.N_nil _ _ _ _ _ | exact Kd.V_nil _ _ _ _ _ | exact Kd.Q_nil _ _ _ _ _ | exact Kd.S_nil _ _ _ _ _, bl HB⟩
       ·rw [if_neg c14] at H
        exact absurd H (by simp)
      ·replace c13 := Bool.eq_false_iff.mpr c13
       subst c13
       have H1 : ((desk_sending.f k1 t139 l2 ((rd_T42 l1 x21_1).f0) ((rd_T42 l1 x21_1).f1)).bind fun bt152 => (if bt152.2.2.2 = true then (if ((rd_T42 l1 x21_1).f0).size ≤ 9223372036854775807 then (if (Lit.int .i64 (mx (mx (PM.look x139000_1 ((rd_T42 l1 x21_1).f0) 0) bt152.2.1) bt152.2.2.1)).wf = true then (if x139000_1.many < 9223372036854775807 then (if x8_1.length < 5864062014805 then (desk_outbox.l0 k1 l2 (x8_1 ++ [(⟨bt152.1, bt152.2.1, bt152.2.2.1⟩ : S34)]) t139 l1 (l1.length : Int) (wrap64 (x21_1 + 1)) a0_0 a0_1 a0_2 a0_3 false (PM.put x139000_1 ((rd_T42 l1 x21_1).f0) (mx (mx (PM.look x139000_1 ((rd_T42 l1 x21_1).f0) 0) bt152.2.1) bt152.2.2.1))) else (none)) else (none)) else (none)) else (none)) else (some (([] : List (S34)), 1)))) = some (r1, r2) := by rw [if_neg (show ¬ (false = true) by decide)] at H; exact H
       clear H
       have H := H1
       clear H1
       replace H := Option.bind_eq_some_iff.mp H
       obtain ⟨⟨t152, t153, t154, t155⟩, A570, H⟩ := H
       replace H : (if t155 = true then (if ((rd_T42 l1 x21_1).f0).size ≤ 9223372036854775807 then (if (Lit.int .i64 (mx (mx (PM.look x139000_1 ((rd_T42 l1 x21_1).f0) 0) t153) t154)).wf = true then (if x139000_1.many < 9223372036854775807 then (if x8_1.length < 5864062014805 then (desk_outbox.l0 k1 l2 (x8_1 ++ [(⟨t152, t153, t154⟩ : S34)]) t139 l1 (l1.length : Int) (wrap64 (x21_1 + 1)) a0_0 a0_1 a0_2 a0_3 false (PM.put x139000_1 ((rd_T42 l1 x21_1).f0) (mx (mx (PM.look x139000_1 ((rd_T42 l1 x21_1).f0) 0) t153) t154))) else (none)) else (none)) else (none)) else (none)) else (some (([] : List (S34)), 1))) = some (r1, r2) := H
       have A57 := Aside0.mk A570
       clear A570
       by_cases c58 : t155 = true
       ·subst c58
        have H1 : (if ((rd_T42 l1 x21_1).f0).size ≤ 9223372036854775807 then (if (Lit.int .i64 (mx (mx (PM.look x139000_1 ((rd_T42 l1 x21_1).f0) 0) t153) t154)).wf = true then (if x139000_1.many < 9223372036854775807 then (if x8_1.length < 5864062014805 then (desk_outbox.l0 k1 l2 (x8_1 ++ [(⟨t152, t153, t154⟩ : S34)]) t139 l1 (l1.length : Int) (wrap64 (x21_1 + 1)) a0_0 a0_1 a0_2 a0_3 false (PM.put x139000_1 ((rd_T42 l1 x21_1).f0) (mx (mx (PM.look x139000_1 ((rd_T42 l1 x21_1).f0) 0) t153) t154))) else (none)) else (none)) else (none)) else (none)) = some (r1, r2) := by rw [if_pos rfl] at H; exact H
        clear H
        have H := H1
        clear H1
        by_cases c59 : ((rd_T42 l1 x21_1).f0).size ≤ 9223372036854775807
        ·rw [if_pos c59] at H
         have c59b0 := eq_true c59
         have c59b1 : decide (((rd_T42 l1 x21_1).f0).size ≤ 9223372036854775807) = true := decide_eq_true c59
         try have c59b2 : (9223372036854775807 < ((rd_T42 l1 x21_1).f0).size) = False := eq_false (Nat.not_lt.2 c59)
         clear c59
         obtain ⟨ji60, hji60⟩ : ∃ j_ : Int, (mx (PM.look x139000_1 ((rd_T42 l1 x21_1).f0) 0) t153) = j_ := ⟨_, rfl⟩
         replace H : (if (Lit.int .i64 (mx (ji60) t154)).wf = true then (if x139000_1.many < 9223372036854775807 then (if x8_1.length < 5864062014805 then (desk_outbox.l0 k1 l2 (x8_1 ++ [(⟨t152, t153, t154⟩ : S34)]) t139 l1 (l1.length : Int) (wrap64 (x21_1 + 1)) a0_0 a0_1 a0_2 a0_3 false (PM.put x139000_1 ((rd_T42 l1 x21_1).f0) (mx (ji60) t154))) else (none)) else (none)) else (none)) = some (r1, r2) := by first | (rw [hji60] at H; exact H) | (simp only [hji60] at H ⊢; exact H)
         (try rw [hji60] at A57)
         have hji60_ : (if (PM.look x139000_1 ((rd_T42 l1 x21_1).f0) 0) < t153 then t153 else (PM.look x139000_1 ((rd_T42 l1 x21_1).f0) 0)) = ji60 := hji60
         obtain ⟨ji61, hji61⟩ : ∃ j_ : Int, (mx (ji60) t154) = j_ := ⟨_, rfl⟩
         replace H : (if (Lit.int .i64 (ji61)).wf = true then (if x139000_1.many < 9223372036854775807 then (if x8_1.length < 5864062014805 then (desk_outbox.l0 k1 l2 (x8_1 ++ [(⟨t152, t153, t154⟩ : S34)]) t139 l1 (l1.length : Int) (wrap64 (x21_1 + 1)) a0_0 a0_1 a0_2 a0_3 false (PM.put x139000_1 ((rd_T42 l1 x21_1).f0) (ji61))) else (none)) else (none)) else (none)) = some (r1, r2) := by first | (rw [hji61] at H; exact H) | (simp only [hji61] at H ⊢; exact H)
         (try rw [hji61] at A57)
         have hji61_ : (if (ji60) < t154 then t154 else (ji60)) = ji61 := hji61
         by_cases c62 : (Lit.int .i64 (ji61)).wf = true
         ·rw [if_pos c62] at H
          have c62b0 := eq_true c62
          have c62b1 : decide ((Lit.int .i64 (ji61)).wf = true) = true := decide_eq_true c62
          clear c62
          by_cases c63 : x139000_1.many < 9223372036854775807
          ·rw [if_pos c63] at H
           have c63b0 := eq_true c63
           have c63b1 : decide (x139000_1.many < 9223372036854775807) = true := decide_eq_true c63
           clear c63
           by_cases c64 : x8_1.length < 5864062014805
           ·rw [if_pos c64] at H
            have LMc64 := Aside0.mk c64
            clear c64
            obtain ⟨y157, hy157⟩ : ∃ y_ : List (S34), y_ = (x8_1 ++ [(⟨t152, t153, t154⟩ : S34)]) := ⟨_, rfl⟩
            replace H : (desk_outbox.l0 k1 l2 y157 t139 l1 (l1.length : Int) (wrap64 (x21_1 + 1)) a0_0 a0_1 a0_2 a0_3 false (PM.put x139000_1 ((rd_T42 l1 x21_1).f0) (ji61))) = some (r1, r2) := by first | (rw [hy157]; with_reducible exact H) | (have H2_ := (Option.bind_some _ _).symm.trans H; rw [hy157]; with_reducible exact H2_) | (have H2_ := (Option.bind_some _ _).symm.trans H; with_reducible exact H2_) | with_reducible exact H | (rw [hy157]; exact H) | exact H
            have Ny157 := Aside0.mk hy157
            clear hy157
            have H' := Aside0.mk H
            clear H
            have p142 : 0 ≤ (x21_1 : Int) := of_decide_eq_true odt
            have q142 : x21_1 < (l1.length : Int) := of_decide_eq_true odt
            obtain ⟨ad142, e142, hx142_0, hx142_1⟩ := at_T42 HR1.out x21_1 p142 q142
            cases e142
            replace hx142_0 := (HB.out.cell (World.block_lt_of_cell? w _ hx142_0)).trans hx142_0
            replace hx142_1 := (HB.out.cell (World.block_lt_of_cell? w _ hx142_1)).trans hx142_1
            replace p142 := eq_true p142
            replace q142 := eq_true q142
            go_wp2_with (first | ((with_reducible refine gate_dst (N := 12) rfl ?_); refine box_event ?hg (N := 12) ?hd (cs := #[.string (⟨#[]⟩ : ByteArray), .int .i64 0]) (t := 42) ?hr ?_; (case hd => rfl); (case hg => rfl); (case hr => first | (go_simp; done) | (go_simp; rfl)); intro gb143 hg w65 hbox hb; have n0_ := Aside0.mk (Kd.R_below (ra HO_8) hb); have n1_ := Aside0.mk (Kd.R_below (ra HO_10) hb); have n2_ := Aside0.mk (blk_below (g := gb137) (o := .cells #[.int .i64 a0_0, .int .i64 a0_1, .int .i64 a0_2, .int .i64 a0_3, .bool false] 23 (0, 0)) (bk BK137) hb); have n3_ := Aside0.mk (mp_step (show IsMap mK9 mE3 _ gm138 x139000_1 from by (with_reducible repeat (first | refine mp_drewN ?_ _ | refine mp_drew ?_ | refine mp_alloc ?_ _)); exact BK138.out) (fun o_ h_ => blk_below (g := gm138) (o := o_) h_ hb)); have n4_ := Aside0.mk (below_step (bl HB) hb); have n5_ := Aside0.mk (hbox); have n6_ := Aside0.mk ((by rw [hg]; exact (below_size (bl HB)) : w.heap.size ≤ gb143)); have n7_ := Aside0.mk ((by rw [hg]; exact (below_size (bl HB)) : w.heap.size ≤ gb143)); have n8_ := Aside0.mk ((by rw [hg]; exact Nat.ne_of_lt (blk_lt (g := gb137) (o := .cells #[.int .i64 a0_0, .int .i64 a0_1, .int .i64 a0_2, .int .i64 a0_3, .bool false] 23 (0, 0)) (bk BK137)) : gb137 ≠ gb143)); have n9_ := Aside0.mk ((by rw [hg]; exact Nat.ne_of_gt (blk_lt (g := gb137) (o := .cells #[.int .i64 a0_0, .int .i64 a0_1, .int .i64 a0_2, .int .i64 a0_3, .bool false] 23 (0, 0)) (bk BK137)) : gb143 ≠ gb137)); have n10_ := Aside0.mk ((by rw [hg]; exact Nat.ne_of_lt (blk_lt (g := gm138) (mp_some (show IsMap mK9 mE3 _ gm138 x139000_1 from by (with_reducible repeat (first | refine mp_drewN ?_ _ | refine mp_drew ?_ | refine mp_alloc ?_ _)); exact BK138.out)).choose_spec) : gm138 ≠ gb143)); have n11_ := Aside0.mk ((by rw [hg]; exact Nat.ne_of_gt (blk_lt (g := gm138) (mp_some (show IsMap mK9 mE3 _ gm138 x139000_1 from by (with_reducible repeat (first | refine mp_drewN ?_ _ | refine mp_drew ?_ | refine mp_alloc ?_ _)); exact BK138.out)).choose_spec) : gb143 ≠ gm138)); clear HO_8; clear HO_10; clear BK137; clear BK138; clear HB; have HO_8 := n0_; have HO_10 := n1_; have BK137 := n2_; have BK138 := n3_; have HB := n4_; have BK143 := n5_; have GW143 := n6_; have GE143 := n7_; have NB137_143 := n8_; have NB143_137 := n9_; have NB138_143 := n10_; have NB143_138 := n11_; clear n0_ n1_ n2_ n3_ n4_ n5_ n6_ n7_ n8_ n9_ n10_ n11_; clear hb hbox hg; have hnb66 := NB143_137.out; have hnc66 := NB137_143.out; have hnb67 := NB143_138.out; have hnc67 := NB138_143.out; have hcz68_0 : w65.cell? ⟨gb143, 0, none⟩ = some (.string (⟨#[]⟩ : ByteArray)) := (blk_cell BK143.out 0).trans rfl; have hcz68_1 : w65.cell? ⟨gb143, 1, none⟩ = some (.int .i64 0) := (blk_cell BK143.out 1).trans rfl; have hfz68_0 := blk_frozen BK143.out 0; have hfz68_1 := blk_frozen BK143.out 1; have hnb69 := NB137_138.out; have hnc69 := NB138_137.out; have hcz70_0 : w65.cell? ⟨gb137, 0, none⟩ = some (.int .i64 a0_0) := (blk_cell BK137.out 0).trans rfl; have hcz70_1 : w65.cell? ⟨gb137, 1, none⟩ = some (.int .i64 a0_1) := (blk_cell BK137.out 1).trans rfl; have hcz70_2 : w65.cell? ⟨gb137, 2, none⟩ = some (.int .i64 a0_2) := (blk_cell BK137.out 2).trans rfl; have hcz70_3 : w65.cell? ⟨gb137, 3, none⟩ = some (.int .i64 a0_3) := (blk_cell BK137.out 3).trans rfl; have hcz70_4 : w65.cell? ⟨gb137, 4, none⟩ = some (.bool false) := (blk_cell BK137.out 4).trans rfl; have hfz70_0 := blk_frozen BK137.out 0; have hfz70_1 := blk_frozen BK137.out 1; have hfz70_2 := blk_frozen BK137.out 2; have hfz70_3 := blk_frozen BK137.out 3; have hfz70_4 := blk_frozen BK137.out 4; obtain ⟨Ao71, co71, eo71⟩ := Kd.R_slice HO_10.out; subst eo71) | ((with_reducible refine gate_callee (f := 38) rfl ?_); refine goesL_ (some 41) rfl rfl Tryd.func38 (by kernel_rfl) rfl #[.slice Ao71 t139.length co71, .slice A2 l2.length c2, .string ((rd_T42 l1 x21_1).f0), .int .i64 ((rd_T42 l1 x21_1).f1)] rfl gs ?_; (with_reducible refine (desk_sending.calls k1 _ _ t139 _ _ l2 ((rd_T42 l1 x21_1).f0) ((rd_T42 l1 x21_1).f1) t152 t153 t154 true _ ?side1 ?side2 ?side3 ?side4 A57.out).mono ?_); (case side1 => refine (Kd.R_reads' (e := 3) (base := w.heap.size) (ok := fun k_ => True) (n := t139.length) (c := co71) ?_).2.2; exact (by (with_reducible repeat (first | apply Kd.R_alloc | apply Kd.R_drewN | apply Kd.R_drew)); exact (Kd.R_mono (Kd.R_far (p := ⟨gb143, 1, none⟩) (Kd.R_far (p := ⟨gb143, 0, none⟩) (Kd.R_types HO_10.out BK143.out (by decide)) (fun _ hk => hk.2) (.string ((rd_T42 l1 x21_1).f0))) (fun _ hk => hk.2) (.int .i64 ((rd_T42 l1 x21_1).f1))) (fun _ h_ => h_.1)))); (case side2 => exact (Kd.R_reads' HO_10.out).2.1); (case side3 => exact Kd.C_below HR2.out (bl HB)); (case side4 => exact HC2.out); rintro e w72 ⟨rfl, hb⟩; refine ⟨_, rfl, ?_⟩; have n0_ := Aside0.mk (Kd.R_below (by (with_reducible repeat (first | apply Kd.R_alloc | apply Kd.R_drewN | apply Kd.R_drew)); exact (Kd.R_mono (Kd.R_far (p := ⟨gb143, 1, none⟩) (Kd.R_far (p := ⟨gb143, 0, none⟩) (Kd.R_types HO_8.out BK143.out (by decide)) (fun _ hk => hk.2) (.string ((rd_T42 l1 x21_1).f0))) (fun _ hk => hk.2) (.int .i64 ((rd_T42 l1 x21_1).f1))) (fun _ h_ => h_.1))) hb); have n1_ := Aside0.mk (Kd.R_below (by (with_reducible repeat (first | apply Kd.R_alloc | apply Kd.R_drewN | apply Kd.R_drew)); exact (Kd.R_mono (Kd.R_far (p := ⟨gb143, 1, none⟩) (Kd.R_far (p := ⟨gb143, 0, none⟩) (Kd.R_types HO_10.out BK143.out (by decide)) (fun _ hk => hk.2) (.string ((rd_T42 l1 x21_1).f0))) (fun _ hk => hk.2) (.int .i64 ((rd_T42 l1 x21_1).f1))) (fun _ h_ => h_.1))) hb); have n2_ := Aside0.mk (blk_below (g := gb137) (o := .cells #[.int .i64 a0_0, .int .i64 a0_1, .int .i64 a0_2, .int .i64 a0_3, .bool false] 23 (0, 0)) (by (with_reducible repeat (first | refine blk_drewN ?_ _ | refine blk_drew ?_ | refine blk_alloc ?_ _)); refine blk_far ?_ NB137_143.out _; (with_reducible repeat (first | refine blk_drewN ?_ _ | refine blk_drew ?_ | refine blk_alloc ?_ _)); refine blk_far ?_ NB137_143.out _; (with_reducible repeat (first | refine blk_drewN ?_ _ | refine blk_drew ?_ | refine blk_alloc ?_ _)); exact BK137.out) hb); have n3_ := Aside0.mk (mp_step (show IsMap mK9 mE3 _ gm138 x139000_1 from by (with_reducible repeat (first | refine mp_drewN ?_ _ | refine mp_drew ?_ | refine mp_alloc ?_ _)); refine mp_far ?_ NB138_143.out _; (with_reducible repeat (first | refine mp_drewN ?_ _ | refine mp_drew ?_ | refine mp_alloc ?_ _)); refine mp_far ?_ NB138_143.out _; (with_reducible repeat (first | refine mp_drewN ?_ _ | refine mp_drew ?_ | refine mp_alloc ?_ _)); exact BK138.out) (fun o_ h_ => blk_below (g := gm138) (o := o_) h_ hb)); have n4_ := Aside0.mk (blk_below (g := gb143) (o := .cells #[.string ((rd_T42 l1 x21_1).f0), .int .i64 ((rd_T42 l1 x21_1).f1)] 42 (0, 0)) (by (with_reducible repeat (first | refine blk_drewN ?_ _ | refine blk_drew ?_ | refine blk_alloc ?_ _)); refine blk_put (cs := #[.string ((rd_T42 l1 x21_1).f0), .int .i64 0]) ?_ 1 _ rfl; (with_reducible repeat (first | refine blk_drewN ?_ _ | refine blk_drew ?_ | refine blk_alloc ?_ _)); refine blk_put (cs := #[.string (⟨#[]⟩ : ByteArray), .int .i64 0]) ?_ 0 _ rfl; (with_reducible repeat (first | refine blk_drewN ?_ _ | refine blk_drew ?_ | refine blk_alloc ?_ _)); exact BK143.out) hb); have n5_ := Aside0.mk (below_step (bl HB) hb); clear HO_8; clear HO_10; clear BK137; clear BK138; clear BK143; clear HB; have HO_8 := n0_; have HO_10 := n1_; have BK137 := n2_; have BK138 := n3_; have BK143 := n4_; have HB := n5_; clear n0_ n1_ n2_ n3_ n4_ n5_; (try clear hb); (try clear hb2); (try clear hk); (try clear hi)) | ((with_reducible refine gate_dst (N := 14) rfl ?_); refine box_event ?hg (N := 14) ?hd (cs := #[.int .i64 0, .int .i64 0, .int .i64 0]) (t := 34) ?hr ?_; (case hd => rfl); (case hg => rfl); (case hr => first | (go_simp; done) | (go_simp; rfl)); intro gb156 hg w73 hbox hb; have n0_ := Aside0.mk (Kd.R_below (Kd.R_elderB (ra HO_8) gb156 (Nat.le_of_eq hg.symm)) hb); have n1_ := Aside0.mk (Kd.R_below (ra HO_10) hb); have n2_ := Aside0.mk (blk_below (g := gb137) (o := .cells #[.int .i64 a0_0, .int .i64 a0_1, .int .i64 a0_2, .int .i64 a0_3, .bool false] 23 (0, 0)) (bk BK137) hb); have n3_ := Aside0.mk (mp_step (show IsMap mK9 mE3 _ gm138 x139000_1 from by (with_reducible repeat (first | refine mp_drewN ?_ _ | refine mp_drew ?_ | refine mp_alloc ?_ _)); exact BK138.out) (fun o_ h_ => blk_below (g := gm138) (o := o_) h_ hb)); have n4_ := Aside0.mk (blk_below (g := gb143) (o := .cells #[.string ((rd_T42 l1 x21_1).f0), .int .i64 ((rd_T42 l1 x21_1).f1)] 42 (0, 0)) (bk BK143) hb); have n5_ := Aside0.mk (below_step (bl HB) hb); have n6_ := Aside0.mk (hbox); have n7_ := Aside0.mk ((by rw [hg]; exact (below_size (bl HB)) : w.heap.size ≤ gb156)); have n8_ := Aside0.mk ((by rw [hg]; exact (below_size (bl HB)) : w.heap.size ≤ gb156)); have n9_ := Aside0.mk ((by rw [hg]; exact Nat.ne_of_lt (blk_lt (g := gb137) (o := .cells #[.int .i64 a0_0, .int .i64 a0_1, .int .i64 a0_2, .int .i64 a0_3, .bool false] 23 (0, 0)) (bk BK137)) : gb137 ≠ gb156)); have n10_ := Aside0.mk ((by rw [hg]; exact Nat.ne_of_gt (blk_lt (g := gb137) (o := .cells #[.int .i64 a0_0, .int .i64 a0_1, .int .i64 a0_2, .int .i64 a0_3, .bool false] 23 (0, 0)) (bk BK137)) : gb156 ≠ gb137)); have n11_ := Aside0.mk ((by rw [hg]; exact Nat.ne_of_lt (blk_lt (g := gm138) (mp_some (show IsMap mK9 mE3 _ gm138 x139000_1 from by (with_reducible repeat (first | refine mp_drewN ?_ _ | refine mp_drew ?_ | refine mp_alloc ?_ _)); exact BK138.out)).choose_spec) : gm138 ≠ gb156)); have n12_ := Aside0.mk ((by rw [hg]; exact Nat.ne_of_gt (blk_lt (g := gm138) (mp_some (show IsMap mK9 mE3 _ gm138 x139000_1 from by (with_reducible repeat (first | refine mp_drewN ?_ _ | refine mp_drew ?_ | refine mp_alloc ?_ _)); exact BK138.out)).choose_spec) : gb156 ≠ gm138)); have n13_ := Aside0.mk ((by rw [hg]; exact Nat.ne_of_lt (blk_lt (g := gb143) (o := .cells #[.string ((rd_T42 l1 x21_1).f0), .int .i64 ((rd_T42 l1 x21_1).f1)] 42 (0, 0)) (bk BK143)) : gb143 ≠ gb156)); have n14_ := Aside0.mk ((by rw [hg]; exact Nat.ne_of_gt (blk_lt (g := gb143) (o := .cells #[.string ((rd_T42 l1 x21_1).f0), .int .i64 ((rd_T42 l1 x21_1).f1)] 42 (0, 0)) (bk BK143)) : gb156 ≠ gb143)); clear HO_8; clear HO_10; clear BK137; clear BK138; clear BK143; clear HB; have HO_8 := n0_; have HO_10 := n1_; have BK137 := n2_; have BK138 := n3_; have BK143 := n4_; have HB := n5_; have BK156 := n6_; have GW156 := n7_; have GE156 := n8_; have NB137_156 := n9_; have NB156_137 := n10_; have NB138_156 := n11_; have NB156_138 := n12_; have NB143_156 := n13_; have NB156_143 := n14_; clear n0_ n1_ n2_ n3_ n4_ n5_ n6_ n7_ n8_ n9_ n10_ n11_ n12_ n13_ n14_; clear hb hbox hg; have hnb74 := NB156_137.out; have hnc74 := NB137_156.out; have hnb75 := NB156_138.out; have hnc75 := NB138_156.out; have hnb76 := NB156_143.out; have hnc76 := NB143_156.out; have hcz77_0 : w73.cell? ⟨gb156, 0, none⟩ = some (.int .i64 0) := (blk_cell BK156.out 0).trans rfl; have hcz77_1 : w73.cell? ⟨gb156, 1, none⟩ = some (.int .i64 0) := (blk_cell BK156.out 1).trans rfl; have hcz77_2 : w73.cell? ⟨gb156, 2, none⟩ = some (.int .i64 0) := (blk_cell BK156.out 2).trans rfl; have hfz77_0 := blk_frozen BK156.out 0; have hfz77_1 := blk_frozen BK156.out 1; have hfz77_2 := blk_frozen BK156.out 2; have hcz78_0 : w73.cell? ⟨gb143, 0, none⟩ = some (.string ((rd_T42 l1 x21_1).f0)) := (blk_cell BK143.out 0).trans rfl; have hcz78_1 : w73.cell? ⟨gb143, 1, none⟩ = some (.int .i64 ((rd_T42 l1 x21_1).f1)) := (blk_cell BK143.out 1).trans rfl; have hfz78_0 := blk_frozen BK143.out 0; have hfz78_1 := blk_frozen BK143.out 1) | ((with_reducible refine gate_dst (N := 52) rfl ?_); refine look_event (k := mK9) (e := mE3) (g := gm138) (m := x139000_1) ?hg (N := 52) ?hd ?moq79 ?xoq79 64 ?ho Tryd.underlying64 ((rd_T42 l1 x21_1).f0) (.int .i64 (PM.look x139000_1 ((rd_T42 l1 x21_1).f0) 0)) ?hu ?hm ?hx ?hI ?hk ?_; (case hd => rfl); (case hg => rfl); (case ho => rfl); (case hu => rfl); (case hm => rfl); (case hx => rfl); (case hI => exact (by (with_reducible repeat (first | refine mp_drewN ?_ _ | refine mp_drew ?_ | refine mp_alloc ?_ _)); refine mp_far ?_ NB138_156.out _; (with_reducible repeat (first | refine mp_drewN ?_ _ | refine mp_drew ?_ | refine mp_alloc ?_ _)); refine mp_far ?_ NB138_156.out _; (with_reducible repeat (first | refine mp_drewN ?_ _ | refine mp_drew ?_ | refine mp_alloc ?_ _)); refine mp_far ?_ NB138_156.out _; (with_reducible repeat (first | refine mp_drewN ?_ _ | refine mp_drew ?_ | refine mp_alloc ?_ _)); exact BK138.out)); (case hk => exact (show ((rd_T42 l1 x21_1).f0).size ≤ 9223372036854775807 from of_decide_eq_true odt))) | (at_mapUpdate; refine put_event (k := mK9) (e := mE3) (g := gm138) (m := x139000_1) ?hg ?moq81 ?xoq81 ?voq81 64 ?ho Tryd.underlying64 ((rd_T42 l1 x21_1).f0) ji61 ?hm ?hx ?hv ?hI ?hk ?hw ?hn ?_; (case hg => rfl); (case ho => rfl); (case hm => rfl); (case hx => rfl); (case hv => rfl); (case hI => exact (by (with_reducible repeat (first | refine mp_drewN ?_ _ | refine mp_drew ?_ | refine mp_alloc ?_ _)); refine mp_far ?_ NB138_156.out _; (with_reducible repeat (first | refine mp_drewN ?_ _ | refine mp_drew ?_ | refine mp_alloc ?_ _)); refine mp_far ?_ NB138_156.out _; (with_reducible repeat (first | refine mp_drewN ?_ _ | refine mp_drew ?_ | refine mp_alloc ?_ _)); refine mp_far ?_ NB138_156.out _; (with_reducible repeat (first | refine mp_drewN ?_ _ | refine mp_drew ?_ | refine mp_alloc ?_ _)); exact BK138.out)); (case hk => exact (show ((rd_T42 l1 x21_1).f0).size ≤ 9223372036854775807 from of_decide_eq_true odt)); (case hw => exact (show (Lit.int .i64 ji61).wf = true from (of_decide_eq_true odt))); (case hn => exact (of_decide_eq_true odt)); intro w80 hm1_ hgm_; have n0_ := Aside0.mk (mp_overR (show Kd.R k34 34 _ w.heap.size (fun k_ => k_ ≠ gb156) u8 x8_1 from by (with_reducible repeat (first | apply Kd.R_alloc | apply Kd.R_drewN | apply Kd.R_drew)); exact Kd.R_mono (Kd.R_far (p := ⟨gb156, 2, none⟩) (Kd.R_far (p := ⟨gb156, 1, none⟩) (Kd.R_far (p := ⟨gb156, 0, none⟩) (Kd.R_mono HO_8.out (fun k_ hk => (⟨hk, hk.2⟩ : _ ∧ k_ ≠ gb156))) (fun _ hk => hk.2) (.int .i64 t152)) (fun _ hk => hk.2) (.int .i64 t153)) (fun _ hk => hk.2) (.int .i64 t154)) (fun _ hk => hk.1.2)) (show IsMap mK9 mE3 _ gm138 x139000_1 from by (with_reducible repeat (first | refine mp_drewN ?_ _ | refine mp_drew ?_ | refine mp_alloc ?_ _)); refine mp_far ?_ NB138_156.out _; (with_reducible repeat (first | refine mp_drewN ?_ _ | refine mp_drew ?_ | refine mp_alloc ?_ _)); refine mp_far ?_ NB138_156.out _; (with_reducible repeat (first | refine mp_drewN ?_ _ | refine mp_drew ?_ | refine mp_alloc ?_ _)); refine mp_far ?_ NB138_156.out _; (with_reducible repeat (first | refine mp_drewN ?_ _ | refine mp_drew ?_ | refine mp_alloc ?_ _)); exact BK138.out) hgm_); have n1_ := Aside0.mk (mp_overR (show Kd.R (Kd.int .i64) 3 _ w.heap.size (fun _ => True) (.slice Ao71 t139.length co71) t139 from by (with_reducible repeat (first | apply Kd.R_alloc | apply Kd.R_drewN | apply Kd.R_drew)); exact Kd.R_mono (Kd.R_far (p := ⟨gb156, 2, none⟩) (Kd.R_far (p := ⟨gb156, 1, none⟩) (Kd.R_far (p := ⟨gb156, 0, none⟩) (Kd.R_types HO_10.out BK156.out (by decide)) (fun _ hk => hk.2) (.int .i64 t152)) (fun _ hk => hk.2) (.int .i64 t153)) (fun _ hk => hk.2) (.int .i64 t154)) (fun _ hk => trivial)) (show IsMap mK9 mE3 _ gm138 x139000_1 from by (with_reducible repeat (first | refine mp_drewN ?_ _ | refine mp_drew ?_ | refine mp_alloc ?_ _)); refine mp_far ?_ NB138_156.out _; (with_reducible repeat (first | refine mp_drewN ?_ _ | refine mp_drew ?_ | refine mp_alloc ?_ _)); refine mp_far ?_ NB138_156.out _; (with_reducible repeat (first | refine mp_drewN ?_ _ | refine mp_drew ?_ | refine mp_alloc ?_ _)); refine mp_far ?_ NB138_156.out _; (with_reducible repeat (first | refine mp_drewN ?_ _ | refine mp_drew ?_ | refine mp_alloc ?_ _)); exact BK138.out) hgm_); have n2_ := Aside0.mk (blk_grown (g := gb137) (o := .cells #[.int .i64 a0_0, .int .i64 a0_1, .int .i64 a0_2, .int .i64 a0_3, .bool false] 23 (0, 0)) (by (with_reducible repeat (first | refine blk_drewN ?_ _ | refine blk_drew ?_ | refine blk_alloc ?_ _)); refine blk_far ?_ NB137_156.out _; (with_reducible repeat (first | refine blk_drewN ?_ _ | refine blk_drew ?_ | refine blk_alloc ?_ _)); refine blk_far ?_ NB137_156.out _; (with_reducible repeat (first | refine blk_drewN ?_ _ | refine blk_drew ?_ | refine blk_alloc ?_ _)); refine blk_far ?_ NB137_156.out _; (with_reducible repeat (first | refine blk_drewN ?_ _ | refine blk_drew ?_ | refine blk_alloc ?_ _)); exact BK137.out) hgm_ (fun e_ => NB137_138.out (Option.some.inj e_))); have n3_ := Aside0.mk (hm1_); have n4_ := Aside0.mk (blk_grown (g := gb143) (o := .cells #[.string ((rd_T42 l1 x21_1).f0), .int .i64 ((rd_T42 l1 x21_1).f1)] 42 (0, 0)) (by (with_reducible repeat (first | refine blk_drewN ?_ _ | refine blk_drew ?_ | refine blk_alloc ?_ _)); refine blk_far ?_ NB143_156.out _; (with_reducible repeat (first | refine blk_drewN ?_ _ | refine blk_drew ?_ | refine blk_alloc ?_ _)); refine blk_far ?_ NB143_156.out _; (with_reducible repeat (first | refine blk_drewN ?_ _ | refine blk_drew ?_ | refine blk_alloc ?_ _)); refine blk_far ?_ NB143_156.out _; (with_reducible repeat (first | refine blk_drewN ?_ _ | refine blk_drew ?_ | refine blk_alloc ?_ _)); exact BK143.out) hgm_ (fun e_ => NB143_138.out (Option.some.inj e_))); have n5_ := Aside0.mk (blk_grown (g := gb156) (o := .cells #[.int .i64 t152, .int .i64 t153, .int .i64 t154] 34 (0, 0)) (by (with_reducible repeat (first | refine blk_drewN ?_ _ | refine blk_drew ?_ | refine blk_alloc ?_ _)); refine blk_put (cs := #[.int .i64 t152, .int .i64 t153, .int .i64 0]) ?_ 2 _ rfl; (with_reducible repeat (first | refine blk_drewN ?_ _ | refine blk_drew ?_ | refine blk_alloc ?_ _)); refine blk_put (cs := #[.int .i64 t152, .int .i64 0, .int .i64 0]) ?_ 1 _ rfl; (with_reducible repeat (first | refine blk_drewN ?_ _ | refine blk_drew ?_ | refine blk_alloc ?_ _)); refine blk_put (cs := #[.int .i64 0, .int .i64 0, .int .i64 0]) ?_ 0 _ rfl; (with_reducible repeat (first | refine blk_drewN ?_ _ | refine blk_drew ?_ | refine blk_alloc ?_ _)); exact BK156.out) hgm_ (fun e_ => NB156_138.out (Option.some.inj e_))); have n6_ := Aside0.mk (Below.grown (show Below w.heap.size w _ from bl HB) hgm_ (below_size (show Below w.heap.size w _ from bl HB)) (fun k_ e_ => by cases e_; exact GE138.out)); clear HO_8; clear HO_10; clear BK137; clear BK138; clear BK143; clear BK156; clear HB; have HO_8 := n0_; have HO_10 := n1_; have BK137 := n2_; have BK138 := n3_; have BK143 := n4_; have BK156 := n5_; have HB := n6_; clear n0_ n1_ n2_ n3_ n4_ n5_ n6_; clear hm1_ hgm_; have hcz82_0 : w80.cell? ⟨gb156, 0, none⟩ = some (.int .i64 t152) := (blk_cell BK156.out 0).trans rfl; have hcz82_1 : w80.cell? ⟨gb156, 1, none⟩ = some (.int .i64 t153) := (blk_cell BK156.out 1).trans rfl; have hcz82_2 : w80.cell? ⟨gb156, 2, none⟩ = some (.int .i64 t154) := (blk_cell BK156.out 2).trans rfl; have hfz82_0 := blk_frozen BK156.out 0; have hfz82_1 := blk_frozen BK156.out 1; have hfz82_2 := blk_frozen BK156.out 2) | ((with_reducible refine gate_builtin (b := .append) (xs := #[.tmp 58, .tmp 60]) rfl ?_); at_builtin; refine Kd.R_append k34 (w0 := w) w.heap.size rfl (.tmp 58) (.tmp 60) 26 34 (.agg #[(.int .i64 0), (.int .i64 0), (.int .i64 0)]) 24 rfl Tryd.underlying26 info34 rfl (by decide) (by omega) u8 x8_1 (⟨t152, t153, t154⟩ : S34) [.int .i64 t152, .int .i64 t153, .int .i64 t154] (fun k_ => k_ ≠ gb156) (fun _ => False) rfl rfl ?aP (fun _ hk => hk.elim) ?aF ?aO ?aB ?aS ?aL ?_; (case aP => exact k34_mkM _ _ _ (⟨t152, t153, t154⟩ : S34)); (case aB => exact (bl HB)); (case aF => exact (fun k_ hk => Kd.freshB (g := gb156) (o := .cells #[.int .i64 t152, .int .i64 t153, .int .i64 t154] 34 (0, 0)) (bk BK156) k_ hk)); (case aO => exact (ra HO_8)); (case aS => exact (below_size (bl HB))); (case aL => have := LMc64.out; omega); intro v158 w83 ho hb hg hat; rw [← Ny157.out] at ho; have n0_ := Aside0.mk (Kd.R_over' (ra HO_10) (Kd.R_typed (ra HO_8)) (by decide) hg); have n1_ := Aside0.mk (blk_grown (g := gb137) (o := .cells #[.int .i64 a0_0, .int .i64 a0_1, .int .i64 a0_2, .int .i64 a0_3, .bool false] 23 (0, 0)) (bk BK137) hg (Kd.R_ne HO_8.out BK137.out (by decide))); have n2_ := Aside0.mk (mp_step (show IsMap mK9 mE3 _ gm138 (PM.put x139000_1 ((rd_T42 l1 x21_1).f0) (ji61)) from by (with_reducible repeat (first | refine mp_drewN ?_ _ | refine mp_drew ?_ | refine mp_alloc ?_ _)); exact BK138.out) (fun o_ h_ => blk_grown (g := gm138) (o := o_) h_ hg (mp_neR HO_8.out BK138.out))); have n3_ := Aside0.mk (blk_grown (g := gb143) (o := .cells #[.string ((rd_T42 l1 x21_1).f0), .int .i64 ((rd_T42 l1 x21_1).f1)] 42 (0, 0)) (bk BK143) hg (Kd.R_ne HO_8.out BK143.out (by decide))); have n4_ := Aside0.mk (blk_grown (g := gb156) (o := .cells #[.int .i64 t152, .int .i64 t153, .int .i64 t154] 34 (0, 0)) (bk BK156) hg (Kd.R_away HO_8.out (fun _ hk => hk))); have n5_ := Aside0.mk (hb); have n6_ := Aside0.mk (ho); clear HO_10; clear BK137; clear BK138; clear BK143; clear BK156; clear HB; clear HO_8; have HO_10 := n0_; have BK137 := n1_; have BK138 := n2_; have BK143 := n3_; have BK156 := n4_; have HB := n5_; have HO159 := n6_; clear n0_ n1_ n2_ n3_ n4_ n5_ n6_; clear ho hb hg hat))
            go_roundg k1
            case measure => have := HK1.out; omega
            case rel => exact ⟨(y157), (wrap64 (x21_1 + 1)), ((PM.put x139000_1 ((rd_T42 l1 x21_1).f0) (ji61))), (by first | rfl | (simp; done) | (simp [*]; done)), H', ⟨by have := HK1.out; omega⟩, ⟨by (with_reducible repeat (first | apply Kd.R_alloc | apply Kd.R_drewN | apply Kd.R_drew)); exact Kd.R_mono HO159.out (fun _ hk => trivial)⟩, ⟨ra HO_10⟩, ⟨bk BK137⟩, ⟨by (with_reducible repeat (first | refine mp_drewN ?_ _ | refine mp_drew ?_ | refine mp_alloc ?_ _)); exact BK138.out⟩, ⟨bl HB⟩⟩
           ·rw [if_neg c64] at H
            exact absurd H (by simp)
          ·rw [if_neg c63] at H
           exact absurd H (by simp)
         ·rw [if_neg c62] at H
          exact absurd H (by simp)
        ·rw [if_neg c59] at H
         exact absurd H (by simp)
       ·replace c58 := Bool.eq_false_iff.mpr c58
        subst c58
        have H1 : (some (([] : List (S34)), 1)) = some (r1, r2) := by rw [if_neg (show ¬ (false = true) by decide)] at H; exact H
        clear H
        have H := H1
        clear H1
        simp only [Option.some.injEq, Prod.mk.injEq] at H
        obtain ⟨rfl, rfl⟩ := H
        have p142 : 0 ≤ (x21_1 : Int) := of_decide_eq_true odt
        have q142 : x21_1 < (l1.length : Int) := of_decide_eq_true odt
        obtain ⟨ad142, e142, hx142_0, hx142_1⟩ := at_T42 HR1.out x21_1 p142 q142
        cases e142
        replace hx142_0 := (HB.out.cell (World.block_lt_of_cell? w _ hx142_0)).trans hx142_0
        replace hx142_1 := (HB.out.cell (World.block_lt_of_cell? w _ hx142_1)).trans hx142_1
        replace p142 := eq_true p142
        replace q142 := eq_true q142
        go_wp2_with (first | ((with_reducible refine gate_dst (N := 12) rfl ?_); refine box_event ?hg (N := 12) ?hd (cs := #[.string (⟨#[]⟩ : ByteArray), .int .i64 0]) (t := 42) ?hr ?_; (case hd => rfl); (case hg => rfl); (case hr => first | (go_simp; done) | (go_simp; rfl)); intro gb143 hg w84 hbox hb; have n0_ := Aside0.mk (Kd.R_below (ra HO_8) hb); have n1_ := Aside0.mk (Kd.R_below (ra HO_10) hb); have n2_ := Aside0.mk (blk_below (g := gb137) (o := .cells #[.int .i64 a0_0, .int .i64 a0_1, .int .i64 a0_2, .int .i64 a0_3, .bool false] 23 (0, 0)) (bk BK137) hb); have n3_ := Aside0.mk (mp_step (show IsMap mK9 mE3 _ gm138 x139000_1 from by (with_reducible repeat (first | refine mp_drewN ?_ _ | refine mp_drew ?_ | refine mp_alloc ?_ _)); exact BK138.out) (fun o_ h_ => blk_below (g := gm138) (o := o_) h_ hb)); have n4_ := Aside0.mk (below_step (bl HB) hb); have n5_ := Aside0.mk (hbox); have n6_ := Aside0.mk ((by rw [hg]; exact (below_size (bl HB)) : w.heap.size ≤ gb143)); have n7_ := Aside0.mk ((by rw [hg]; exact (below_size (bl HB)) : w.heap.size ≤ gb143)); have n8_ := Aside0.mk ((by rw [hg]; exact Nat.ne_of_lt (blk_lt (g := gb137) (o := .cells #[.int .i64 a0_0, .int .i64 a0_1, .int .i64 a0_2, .int .i64 a0_3, .bool false] 23 (0, 0)) (bk BK137)) : gb137 ≠ gb143)); have n9_ := Aside0.mk ((by rw [hg]; exact Nat.ne_of_gt (blk_lt (g := gb137) (o := .cells #[.int .i64 a0_0, .int .i64 a0_1, .int .i64 a0_2, .int .i64 a0_3, .bool false] 23 (0, 0)) (bk BK137)) : gb143 ≠ gb137)); have n10_ := Aside0.mk ((by rw [hg]; exact Nat.ne_of_lt (blk_lt (g := gm138) (mp_some (show IsMap mK9 mE3 _ gm138 x139000_1 from by (with_reducible repeat (first | refine mp_drewN ?_ _ | refine mp_drew ?_ | refine mp_alloc ?_ _)); exact BK138.out)).choose_spec) : gm138 ≠ gb143)); have n11_ := Aside0.mk ((by rw [hg]; exact Nat.ne_of_gt (blk_lt (g := gm138) (mp_some (show IsMap mK9 mE3 _ gm138 x139000_1 from by (with_reducible repeat (first | refine mp_drewN ?_ _ | refine mp_drew ?_ | refine mp_alloc ?_ _)); exact BK138.out)).choose_spec) : gb143 ≠ gm138)); clear HO_8; clear HO_10; clear BK137; clear BK138; clear HB; have HO_8 := n0_; have HO_10 := n1_; have BK137 := n2_; have BK138 := n3_; have HB := n4_; have BK143 := n5_; have GW143 := n6_; have GE143 := n7_; have NB137_143 := n8_; have NB143_137 := n9_; have NB138_143 := n10_; have NB143_138 := n11_; clear n0_ n1_ n2_ n3_ n4_ n5_ n6_ n7_ n8_ n9_ n10_ n11_; clear hb hbox hg; have hnb85 := NB143_137.out; have hnc85 := NB137_143.out; have hnb86 := NB143_138.out; have hnc86 := NB138_143.out; have hcz87_0 : w84.cell? ⟨gb143, 0, none⟩ = some (.string (⟨#[]⟩ : ByteArray)) := (blk_cell BK143.out 0).trans rfl; have hcz87_1 : w84.cell? ⟨gb143, 1, none⟩ = some (.int .i64 0) := (blk_cell BK143.out 1).trans rfl; have hfz87_0 := blk_frozen BK143.out 0; have hfz87_1 := blk_frozen BK143.out 1; have hnb88 := NB137_138.out; have hnc88 := NB138_137.out; have hcz89_0 : w84.cell? ⟨gb137, 0, none⟩ = some (.int .i64 a0_0) := (blk_cell BK137.out 0).trans rfl; have hcz89_1 : w84.cell? ⟨gb137, 1, none⟩ = some (.int .i64 a0_1) := (blk_cell BK137.out 1).trans rfl; have hcz89_2 : w84.cell? ⟨gb137, 2, none⟩ = some (.int .i64 a0_2) := (blk_cell BK137.out 2).trans rfl; have hcz89_3 : w84.cell? ⟨gb137, 3, none⟩ = some (.int .i64 a0_3) := (blk_cell BK137.out 3).trans rfl; have hcz89_4 : w84.cell? ⟨gb137, 4, none⟩ = some (.bool false) := (blk_cell BK137.out 4).trans rfl; have hfz89_0 := blk_frozen BK137.out 0; have hfz89_1 := blk_frozen BK137.out 1; have hfz89_2 := blk_frozen BK137.out 2; have hfz89_3 := blk_frozen BK137.out 3; have hfz89_4 := blk_frozen BK137.out 4; obtain ⟨Ao90, co90, eo90⟩ := Kd.R_slice HO_10.out; subst eo90) | ((with_reducible refine gate_callee (f := 38) rfl ?_); refine goesL_ (some 41) rfl rfl Tryd.func38 (by kernel_rfl) rfl #[.slice Ao90 t139.length co90, .slice A2 l2.length c2, .string ((rd_T42 l1 x21_1).f0), .int .i64 ((rd_T42 l1 x21_1).f1)] rfl gs ?_; (with_reducible refine (desk_sending.calls k1 _ _ t139 _ _ l2 ((rd_T42 l1 x21_1).f0) ((rd_T42 l1 x21_1).f1) t152 t153 t154 false _ ?side1 ?side2 ?side3 ?side4 A57.out).mono ?_); (case side1 => refine (Kd.R_reads' (e := 3) (base := w.heap.size) (ok := fun k_ => True) (n := t139.length) (c := co90) ?_).2.2; exact (by (with_reducible repeat (first | apply Kd.R_alloc | apply Kd.R_drewN | apply Kd.R_drew)); exact (Kd.R_mono (Kd.R_far (p := ⟨gb143, 1, none⟩) (Kd.R_far (p := ⟨gb143, 0, none⟩) (Kd.R_types HO_10.out BK143.out (by decide)) (fun _ hk => hk.2) (.string ((rd_T42 l1 x21_1).f0))) (fun _ hk => hk.2) (.int .i64 ((rd_T42 l1 x21_1).f1))) (fun _ h_ => h_.1)))); (case side2 => exact (Kd.R_reads' HO_10.out).2.1); (case side3 => exact Kd.C_below HR2.out (bl HB)); (case side4 => exact HC2.out); rintro e w91 ⟨rfl, hb⟩; refine ⟨_, rfl, ?_⟩; have n0_ := Aside0.mk (Kd.R_below (by (with_reducible repeat (first | apply Kd.R_alloc | apply Kd.R_drewN | apply Kd.R_drew)); exact (Kd.R_mono (Kd.R_far (p := ⟨gb143, 1, none⟩) (Kd.R_far (p := ⟨gb143, 0, none⟩) (Kd.R_types HO_8.out BK143.out (by decide)) (fun _ hk => hk.2) (.string ((rd_T42 l1 x21_1).f0))) (fun _ hk => hk.2) (.int .i64 ((rd_T42 l1 x21_1).f1))) (fun _ h_ => h_.1))) hb); have n1_ := Aside0.mk (Kd.R_below (by (with_reducible repeat (first | apply Kd.R_alloc | apply Kd.R_drewN | apply Kd.R_drew)); exact (Kd.R_mono (Kd.R_far (p := ⟨gb143, 1, none⟩) (Kd.R_far (p := ⟨gb143, 0, none⟩) (Kd.R_types HO_10.out BK143.out (by decide)) (fun _ hk => hk.2) (.string ((rd_T42 l1 x21_1).f0))) (fun _ hk => hk.2) (.int .i64 ((rd_T42 l1 x21_1).f1))) (fun _ h_ => h_.1))) hb); have n2_ := Aside0.mk (blk_below (g := gb137) (o := .cells #[.int .i64 a0_0, .int .i64 a0_1, .int .i64 a0_2, .int .i64 a0_3, .bool false] 23 (0, 0)) (by (with_reducible repeat (first | refine blk_drewN ?_ _ | refine blk_drew ?_ | refine blk_alloc ?_ _)); refine blk_far ?_ NB137_143.out _; (with_reducible repeat (first | refine blk_drewN ?_ _ | refine blk_drew ?_ | refine blk_alloc ?_ _)); refine blk_far ?_ NB137_143.out _; (with_reducible repeat (first | refine blk_drewN ?_ _ | refine blk_drew ?_ | refine blk_alloc ?_ _)); exact BK137.out) hb); have n3_ := Aside0.mk (mp_step (show IsMap mK9 mE3 _ gm138 x139000_1 from by (with_reducible repeat (first | refine mp_drewN ?_ _ | refine mp_drew ?_ | refine mp_alloc ?_ _)); refine mp_far ?_ NB138_143.out _; (with_reducible repeat (first | refine mp_drewN ?_ _ | refine mp_drew ?_ | refine mp_alloc ?_ _)); refine mp_far ?_ NB138_143.out _; (with_reducible repeat (first | refine mp_drewN ?_ _ | refine mp_drew ?_ | refine mp_alloc ?_ _)); exact BK138.out) (fun o_ h_ => blk_below (g := gm138) (o := o_) h_ hb)); have n4_ := Aside0.mk (blk_below (g := gb143) (o := .cells #[.string ((rd_T42 l1 x21_1).f0), .int .i64 ((rd_T42 l1 x21_1).f1)] 42 (0, 0)) (by (with_reducible repeat (first | refine blk_drewN ?_ _ | refine blk_drew ?_ | refine blk_alloc ?_ _)); refine blk_put (cs := #[.string ((rd_T42 l1 x21_1).f0), .int .i64 0]) ?_ 1 _ rfl; (with_reducible repeat (first | refine blk_drewN ?_ _ | refine blk_drew ?_ | refine blk_alloc ?_ _)); refine blk_put (cs := #[.string (⟨#[]⟩ : ByteArray), .int .i64 0]) ?_ 0 _ rfl; (with_reducible repeat (first | refine blk_drewN ?_ _ | refine blk_drew ?_ | refine blk_alloc ?_ _)); exact BK143.out) hb); have n5_ := Aside0.mk (below_step (bl HB) hb); clear HO_8; clear HO_10; clear BK137; clear BK138; clear BK143; clear HB; have HO_8 := n0_; have HO_10 := n1_; have BK137 := n2_; have BK138 := n3_; have BK143 := n4_; have HB := n5_; clear n0_ n1_ n2_ n3_ n4_ n5_; (try clear hb); (try clear hb2); (try clear hk); (try clear hi)) | ((with_reducible refine gate_dst (N := 14) rfl ?_); refine box_event ?hg (N := 14) ?hd (cs := #[.int .i64 0, .int .i64 0, .int .i64 0]) (t := 34) ?hr ?_; (case hd => rfl); (case hg => rfl); (case hr => first | (go_simp; done) | (go_simp; rfl)); intro gb156 hg w92 hbox hb; have n0_ := Aside0.mk (Kd.R_below (Kd.R_elderB (ra HO_8) gb156 (Nat.le_of_eq hg.symm)) hb); have n1_ := Aside0.mk (Kd.R_below (ra HO_10) hb); have n2_ := Aside0.mk (blk_below (g := gb137) (o := .cells #[.int .i64 a0_0, .int .i64 a0_1, .int .i64 a0_2, .int .i64 a0_3, .bool false] 23 (0, 0)) (bk BK137) hb); have n3_ := Aside0.mk (mp_step (show IsMap mK9 mE3 _ gm138 x139000_1 from by (with_reducible repeat (first | refine mp_drewN ?_ _ | refine mp_drew ?_ | refine mp_alloc ?_ _)); exact BK138.out) (fun o_ h_ => blk_below (g := gm138) (o := o_) h_ hb)); have n4_ := Aside0.mk (blk_below (g := gb143) (o := .cells #[.string ((rd_T42 l1 x21_1).f0), .int .i64 ((rd_T42 l1 x21_1).f1)] 42 (0, 0)) (bk BK143) hb); have n5_ := Aside0.mk (below_step (bl HB) hb); have n6_ := Aside0.mk (hbox); have n7_ := Aside0.mk ((by rw [hg]; exact (below_size (bl HB)) : w.heap.size ≤ gb156)); have n8_ := Aside0.mk ((by rw [hg]; exact (below_size (bl HB)) : w.heap.size ≤ gb156)); have n9_ := Aside0.mk ((by rw [hg]; exact Nat.ne_of_lt (blk_lt (g := gb137) (o := .cells #[.int .i64 a0_0, .int .i64 a0_1, .int .i64 a0_2, .int .i64 a0_3, .bool false] 23 (0, 0)) (bk BK137)) : gb137 ≠ gb156)); have n10_ := Aside0.mk ((by rw [hg]; exact Nat.ne_of_gt (blk_lt (g := gb137) (o := .cells #[.int .i64 a0_0, .int .i64 a0_1, .int .i64 a0_2, .int .i64 a0_3, .bool false] 23 (0, 0)) (bk BK137)) : gb156 ≠ gb137)); have n11_ := Aside0.mk ((by rw [hg]; exact Nat.ne_of_lt (blk_lt (g := gm138) (mp_some (show IsMap mK9 mE3 _ gm138 x139000_1 from by (with_reducible repeat (first | refine mp_drewN ?_ _ | refine mp_drew ?_ | refine mp_alloc ?_ _)); exact BK138.out)).choose_spec) : gm138 ≠ gb156)); have n12_ := Aside0.mk ((by rw [hg]; exact Nat.ne_of_gt (blk_lt (g := gm138) (mp_some (show IsMap mK9 mE3 _ gm138 x139000_1 from by (with_reducible repeat (first | refine mp_drewN ?_ _ | refine mp_drew ?_ | refine mp_alloc ?_ _)); exact BK138.out)).choose_spec) : gb156 ≠ gm138)); have n13_ := Aside0.mk ((by rw [hg]; exact Nat.ne_of_lt (blk_lt (g := gb143) (o := .cells #[.string ((rd_T42 l1 x21_1).f0), .int .i64 ((rd_T42 l1 x21_1).f1)] 42 (0, 0)) (bk BK143)) : gb143 ≠ gb156)); have n14_ := Aside0.mk ((by rw [hg]; exact Nat.ne_of_gt (blk_lt (g := gb143) (o := .cells #[.string ((rd_T42 l1 x21_1).f0), .int .i64 ((rd_T42 l1 x21_1).f1)] 42 (0, 0)) (bk BK143)) : gb156 ≠ gb143)); clear HO_8; clear HO_10; clear BK137; clear BK138; clear BK143; clear HB; have HO_8 := n0_; have HO_10 := n1_; have BK137 := n2_; have BK138 := n3_; have BK143 := n4_; have HB := n5_; have BK156 := n6_; have GW156 := n7_; have GE156 := n8_; have NB137_156 := n9_; have NB156_137 := n10_; have NB138_156 := n11_; have NB156_138 := n12_; have NB143_156 := n13_; have NB156_143 := n14_; clear n0_ n1_ n2_ n3_ n4_ n5_ n6_ n7_ n8_ n9_ n10_ n11_ n12_ n13_ n14_; clear hb hbox hg; have hnb93 := NB156_137.out; have hnc93 := NB137_156.out; have hnb94 := NB156_138.out; have hnc94 := NB138_156.out; have hnb95 := NB156_143.out; have hnc95 := NB143_156.out; have hcz96_0 : w92.cell? ⟨gb156, 0, none⟩ = some (.int .i64 0) := (blk_cell BK156.out 0).trans rfl; have hcz96_1 : w92.cell? ⟨gb156, 1, none⟩ = some (.int .i64 0) := (blk_cell BK156.out 1).trans rfl; have hcz96_2 : w92.cell? ⟨gb156, 2, none⟩ = some (.int .i64 0) := (blk_cell BK156.out 2).trans rfl; have hfz96_0 := blk_frozen BK156.out 0; have hfz96_1 := blk_frozen BK156.out 1; have hfz96_2 := blk_frozen BK156.out 2))
        go_ret2
        exact ⟨_, er, by first | exact Kd.R_nil _ _ _ _ _ | exact Kd.N_nil _ _ _ _ _ | exact Kd.V_nil _ _ _ _ _ | exact Kd.Q_nil _ _ _ _ _ | exact Kd.S_nil _ _ _ _ _, bl HB⟩
     ·rw [if_neg c12] at H
      exact absurd H (by simp)
    ·rw [if_neg c11] at H
     exact absurd H (by simp)
   ·rw [if_neg c10] at H
    have c10b0 : decide (x21_1 < (l1.length : Int)) = false := decide_eq_false c10
    clear c10
    simp only [Option.some.injEq, Prod.mk.injEq] at H
    obtain ⟨rfl, rfl⟩ := H
    go_wp2
    go_ret2
    exact ⟨_, er, ra HO_8, bl HB⟩

/-! ### desk_Outbox: function 8 -/
def desk_Outbox.f (k : Nat) (a0_0 : Int) (a0_1 : Int) (a0_2 : Int) (a0_3 : Int) (a0_4 : Bool) (l1 : List (S42)) (l2 : List (S44)) : Option ((List (S34)) × Int) := (desk_boxFault.f k a0_0 a0_1 a0_2 a0_3 a0_4 l1 l2).bind fun t161 => (if t161 = 0 then ((desk_outbox.f k a0_0 a0_1 a0_2 a0_3 a0_4 l1 l2).bind fun bt162 => (some (bt162.1, bt162.2))) else (some (([] : List (S34)), t161)))
theorem desk_Outbox.mono : ∀ a0 a1 a2 a3 a4 a5 a6 k, LeO (desk_Outbox.f k a0 a1 a2 a3 a4 a5 a6) (desk_Outbox.f (k + 1) a0 a1 a2 a3 a4 a5 a6) := by
 intro a0 a1 a2 a3 a4 a5 a6 k
 unfold desk_Outbox.f
 repeat' first
   | (with_reducible exact desk_boxFault.mono _ _ _ _ _ _ _ _)
   | (with_reducible exact desk_outbox.mono _ _ _ _ _ _ _ _)
   | (with_reducible exact LeO.refl _)
   | (with_reducible exact LeO.none _)
   | (with_reducible refine LeO.ite ?_ ?_)
   | (with_reducible refine LeO.bind ?_ (fun _ => ?_))
   | exact desk_boxFault.mono _ _ _ _ _ _ _ _
   | exact desk_outbox.mono _ _ _ _ _ _ _ _
   | exact LeO.none _
   | refine LeO.ite ?_ ?_
   | refine LeO.bind ?_ (fun _ => ?_)
set_option maxHeartbeats 8000000 in
set_option maxRecDepth 100000 in
theorem desk_Outbox.calls (k : Nat) (a0_0 : Int) (a0_1 : Int) (a0_2 : Int) (a0_3 : Int) (a0_4 : Bool) (A1 : Option Addr) (c1 : Nat) (l1 : List (S42)) (A2 : Option Addr) (c2 : Nat) (l2 : List (S44)) (r1 : List (S34)) (r2 : Int) (w : World) (hr1 : Kd.C k42 w A1 l1.length l1) (hc1 : l1.length ≤ c1) (hr2 : Kd.C k44 w A2 l2.length l2) (hc2 : l2.length ≤ c2) (h : desk_Outbox.f k a0_0 a0_1 a0_2 a0_3 a0_4 l1 l2 = some (r1, r2)) :
  Calls Tryd.prog 8 #[.agg #[.int .i64 a0_0, .int .i64 a0_1, .int .i64 a0_2, .int .i64 a0_3, .bool a0_4], .slice A1 l1.length c1, .slice A2 l2.length c2] w fun e w' => ∃ v0_ : Value, e = .returned (.tuple #[v0_, .int .i64 r2]) ∧ Kd.R k34 34 w' w.heap.size (fun _ => True) v0_ r1 ∧ Below w.heap.size w w' := by
 have hu23 := Tryd.underlying23
 have HR1 := Aside0.mk hr1
 have HC1 := Aside0.mk hc1
 clear hr1 hc1
 have HR2 := Aside0.mk hr2
 have HC2 := Aside0.mk hc2
 clear hr2 hc2
 have HB := Aside0.mk (Below.refl w.heap.size w)
 have H : ((desk_boxFault.f k a0_0 a0_1 a0_2 a0_3 a0_4 l1 l2).bind fun t161 => (if t161 = 0 then ((desk_outbox.f k a0_0 a0_1 a0_2 a0_3 a0_4 l1 l2).bind fun bt162 => (some (bt162.1, bt162.2))) else (some (([] : List (S34)), t161)))) = some (r1, r2) := h
 clear h
 replace H := Option.bind_eq_some_iff.mp H
 obtain ⟨t161, A40, H⟩ := H
 replace H : (if t161 = 0 then ((desk_outbox.f k a0_0 a0_1 a0_2 a0_3 a0_4 l1 l2).bind fun bt162 => (some (bt162.1, bt162.2))) else (some (([] : List (S34)), t161))) = some (r1, r2) := H
 have A4 := Aside0.mk A40
 clear A40
 by_cases c5 : t161 = 0
 ·rw [if_pos c5] at H
  have c5b0 : (t161 == 0) = true := beq_iff_eq.mpr c5
  have c5b1 : (t161 != 0) = false := bne_eq_false_iff_eq.mpr c5
  clear c5
  replace H := Option.bind_eq_some_iff.mp H
  obtain ⟨⟨t162, t165⟩, A60, H⟩ := H
  replace H : (some (t162, t165)) = some (r1, r2) := H
  have A6 := Aside0.mk A60
  clear A60
  simp only [Option.some.injEq, Prod.mk.injEq] at H
  obtain ⟨rfl, rfl⟩ := H
  go_enter Tryd.func8, Tryd.ntmps8
  go_wp2_with (first | ((with_reducible refine gate_dst (N := 3) rfl ?_); refine box_event ?hg (N := 3) ?hd (cs := #[.int .i64 a0_0, .int .i64 a0_1, .int .i64 a0_2, .int .i64 a0_3, .bool a0_4]) (t := 23) ?hr ?_; (case hd => rfl); (case hg => rfl); (case hr => first | (go_simp; done) | (go_simp; rfl)); intro gb160 hg w7 hbox hb; have n0_ := Aside0.mk (below_step (bl HB) hb); have n1_ := Aside0.mk (hbox); have n2_ := Aside0.mk ((by rw [hg]; exact (below_size (bl HB)) : w.heap.size ≤ gb160)); have n3_ := Aside0.mk ((by rw [hg]; exact (below_size (bl HB)) : w.heap.size ≤ gb160)); clear HB; have HB := n0_; have BK160 := n1_; have GW160 := n2_; have GE160 := n3_; clear n0_ n1_ n2_ n3_; clear hb hbox hg; have hcz8_0 : w7.cell? ⟨gb160, 0, none⟩ = some (.int .i64 a0_0) := (blk_cell BK160.out 0).trans rfl; have hcz8_1 : w7.cell? ⟨gb160, 1, none⟩ = some (.int .i64 a0_1) := (blk_cell BK160.out 1).trans rfl; have hcz8_2 : w7.cell? ⟨gb160, 2, none⟩ = some (.int .i64 a0_2) := (blk_cell BK160.out 2).trans rfl; have hcz8_3 : w7.cell? ⟨gb160, 3, none⟩ = some (.int .i64 a0_3) := (blk_cell BK160.out 3).trans rfl; have hcz8_4 : w7.cell? ⟨gb160, 4, none⟩ = some (.bool a0_4) := (blk_cell BK160.out 4).trans rfl; have hfz8_0 := blk_frozen BK160.out 0; have hfz8_1 := blk_frozen BK160.out 1; have hfz8_2 := blk_frozen BK160.out 2; have hfz8_3 := blk_frozen BK160.out 3; have hfz8_4 := blk_frozen BK160.out 4) | ((with_reducible refine gate_callee (f := 24) rfl ?_); refine goesL_ (some 12) rfl rfl Tryd.func24 (by kernel_rfl) rfl #[.agg #[.int .i64 a0_0, .int .i64 a0_1, .int .i64 a0_2, .int .i64 a0_3, .bool a0_4], .slice A1 l1.length c1, .slice A2 l2.length c2] rfl gs ?_; (with_reducible refine (desk_boxFault.calls k a0_0 a0_1 a0_2 a0_3 a0_4 _ _ l1 _ _ l2 t161 _ ?side1 ?side2 ?side3 ?side4 A4.out).mono ?_); (case side1 => exact kc HR1 HB); (case side2 => exact HC1.out); (case side3 => exact kc HR2 HB); (case side4 => exact HC2.out); rintro e w9 ⟨rfl, hb⟩; refine ⟨_, rfl, ?_⟩; have n0_ := Aside0.mk (blk_below (g := gb160) (o := .cells #[.int .i64 a0_0, .int .i64 a0_1, .int .i64 a0_2, .int .i64 a0_3, .bool a0_4] 23 (0, 0)) (bk BK160) hb); have n1_ := Aside0.mk (below_step (bl HB) hb); clear BK160; clear HB; have BK160 := n0_; have HB := n1_; clear n0_ n1_; (try clear hb); (try clear hb2); (try clear hk); (try clear hi); have hcz10_0 : w9.cell? ⟨gb160, 0, none⟩ = some (.int .i64 a0_0) := (blk_cell BK160.out 0).trans rfl; have hcz10_1 : w9.cell? ⟨gb160, 1, none⟩ = some (.int .i64 a0_1) := (blk_cell BK160.out 1).trans rfl; have hcz10_2 : w9.cell? ⟨gb160, 2, none⟩ = some (.int .i64 a0_2) := (blk_cell BK160.out 2).trans rfl; have hcz10_3 : w9.cell? ⟨gb160, 3, none⟩ = some (.int .i64 a0_3) := (blk_cell BK160.out 3).trans rfl; have hcz10_4 : w9.cell? ⟨gb160, 4, none⟩ = some (.bool a0_4) := (blk_cell BK160.out 4).trans rfl; have hfz10_0 := blk_frozen BK160.out 0; have hfz10_1 := blk_frozen BK160.out 1; have hfz10_2 := blk_frozen BK160.out 2; have hfz10_3 := blk_frozen BK160.out 3; have hfz10_4 := blk_frozen BK160.out 4) | ((with_reducible refine gate_callee (f := 25) rfl ?_); refine goesL_ (some 19) rfl rfl Tryd.func25 (by kernel_rfl) rfl #[.agg #[.int .i64 a0_0, .int .i64 a0_1, .int .i64 a0_2, .int .i64 a0_3, .bool a0_4], .slice A1 l1.length c1, .slice A2 l2.length c2] rfl gs ?_; (with_reducible refine (desk_outbox.calls k a0_0 a0_1 a0_2 a0_3 a0_4 _ _ l1 _ _ l2 t162 t165 _ ?side1 ?side2 ?side3 ?side4 A6.out).mono ?_); (case side1 => exact kc HR1 HB); (case side2 => exact HC1.out); (case side3 => exact kc HR2 HB); (case side4 => exact HC2.out); rintro e w11 ⟨v163, rfl, ho0, hb⟩; refine ⟨_, rfl, ?_⟩; have n0_ := Aside0.mk (Kd.R_lower ho0 (below_size (bl HB))); have n1_ := Aside0.mk (blk_below (g := gb160) (o := .cells #[.int .i64 a0_0, .int .i64 a0_1, .int .i64 a0_2, .int .i64 a0_3, .bool a0_4] 23 (0, 0)) (bk BK160) hb); have n2_ := Aside0.mk (below_step (bl HB) hb); clear BK160; clear HB; have HO164 := n0_; have BK160 := n1_; have HB := n2_; clear n0_ n1_ n2_; (try clear hb); (try clear hb2); (try clear hk); (try clear hi); (try clear ho0)))
  go_ret2
  exact ⟨_, er, ra HO164, bl HB⟩
 ·rw [if_neg c5] at H
  have c5b0 : (t161 == 0) = false := beq_eq_false_iff_ne.mpr c5
  have c5b1 : (t161 != 0) = true := bne_iff_ne.mpr c5
  simp only [Option.some.injEq, Prod.mk.injEq] at H
  obtain ⟨rfl, rfl⟩ := H
  go_enter Tryd.func8, Tryd.ntmps8
  go_wp2_with (first | ((with_reducible refine gate_dst (N := 3) rfl ?_); refine box_event ?hg (N := 3) ?hd (cs := #[.int .i64 a0_0, .int .i64 a0_1, .int .i64 a0_2, .int .i64 a0_3, .bool a0_4]) (t := 23) ?hr ?_; (case hd => rfl); (case hg => rfl); (case hr => first | (go_simp; done) | (go_simp; rfl)); intro gb160 hg w12 hbox hb; have n0_ := Aside0.mk (below_step (bl HB) hb); have n1_ := Aside0.mk (hbox); have n2_ := Aside0.mk ((by rw [hg]; exact (below_size (bl HB)) : w.heap.size ≤ gb160)); have n3_ := Aside0.mk ((by rw [hg]; exact (below_size (bl HB)) : w.heap.size ≤ gb160)); clear HB; have HB := n0_; have BK160 := n1_; have GW160 := n2_; have GE160 := n3_; clear n0_ n1_ n2_ n3_; clear hb hbox hg; have hcz13_0 : w12.cell? ⟨gb160, 0, none⟩ = some (.int .i64 a0_0) := (blk_cell BK160.out 0).trans rfl; have hcz13_1 : w12.cell? ⟨gb160, 1, none⟩ = some (.int .i64 a0_1) := (blk_cell BK160.out 1).trans rfl; have hcz13_2 : w12.cell? ⟨gb160, 2, none⟩ = some (.int .i64 a0_2) := (blk_cell BK160.out 2).trans rfl; have hcz13_3 : w12.cell? ⟨gb160, 3, none⟩ = some (.int .i64 a0_3) := (blk_cell BK160.out 3).trans rfl; have hcz13_4 : w12.cell? ⟨gb160, 4, none⟩ = some (.bool a0_4) := (blk_cell BK160.out 4).trans rfl; have hfz13_0 := blk_frozen BK160.out 0; have hfz13_1 := blk_frozen BK160.out 1; have hfz13_2 := blk_frozen BK160.out 2; have hfz13_3 := blk_frozen BK160.out 3; have hfz13_4 := blk_frozen BK160.out 4) | ((with_reducible refine gate_callee (f := 24) rfl ?_); refine goesL_ (some 12) rfl rfl Tryd.func24 (by kernel_rfl) rfl #[.agg #[.int .i64 a0_0, .int .i64 a0_1, .int .i64 a0_2, .int .i64 a0_3, .bool a0_4], .slice A1 l1.length c1, .slice A2 l2.length c2] rfl gs ?_; (with_reducible refine (desk_boxFault.calls k a0_0 a0_1 a0_2 a0_3 a0_4 _ _ l1 _ _ l2 t161 _ ?side1 ?side2 ?side3 ?side4 A4.out).mono ?_); (case side1 => exact kc HR1 HB); (case side2 => exact HC1.out); (case side3 => exact kc HR2 HB); (case side4 => exact HC2.out); rintro e w14 ⟨rfl, hb⟩; refine ⟨_, rfl, ?_⟩; have n0_ := Aside0.mk (blk_below (g := gb160) (o := .cells #[.int .i64 a0_0, .int .i64 a0_1, .int .i64 a0_2, .int .i64 a0_3, .bool a0_4] 23 (0, 0)) (bk BK160) hb); have n1_ := Aside0.mk (below_step (bl HB) hb); clear BK160; clear HB; have BK160 := n0_; have HB := n1_; clear n0_ n1_; (try clear hb); (try clear hb2); (try clear hk); (try clear hi)))
  go_ret2
  exact ⟨_, er, by first | exact Kd.R_nil _ _ _ _ _ | exact Kd.N_nil _ _ _ _ _ | exact Kd.V_nil _ _ _ _ _ | exact Kd.Q_nil _ _ _ _ _ | exact Kd.S_nil _ _ _ _ _, bl HB⟩

end Go.Proofs.YtemokeankdgfeaaDoor.PDeskGivesUpLast
