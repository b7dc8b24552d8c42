/- Short names for steps that the printed walks take again and again: each is proved where it is used. -/
import Derived.Test.YtemokeankdgfeaaDoorV
namespace Go.Proofs.YtemokeankdgfeaaDoor.Sq
open Go.RowKit Go.Proofs.YtemokeankdgfeaaDoorW.PrintWords Go.Proofs.YtemokeankdgfeaaDoorW.PrintWords.Kd
/-- What stands at a world stands at a later one that made new blocks, drew, or wrote where it may. -/
theorem bl {p q : Prop} (h : Aside0 q) (t : q → p := by
    intro hh_
    repeat (first | (with_reducible first | exact hh_ | apply below_alloc | apply pw_below_drewN | apply below_drew1 | refine below_set ?_ (Aside0.out (by with_reducible assumption))) | exact hh_)) : p := t h.out
/-- A block that stands, after new blocks and draws. -/
theorem bk {p q : Prop} (h : Aside0 q) (t : q → p := by
    intro hh_
    (with_reducible repeat (first | refine blk_drewN ?_ _ | refine blk_drew ?_ | refine blk_alloc ?_ _))
    exact hh_) : p := t h.out
/-- A row that came in, at a later world. -/
theorem kc {p q r : Prop} (h : Aside0 q) (b : Aside0 r) (t : q → r → p := by
    intro hh_ bb_
    repeat (first | exact (Kd.C_below hh_ bb_) | (with_reducible refine Kd.C_alloc ?_ _) | (with_reducible refine Kd.C_drewN ?_ _) | (with_reducible refine Kd.C_drew ?_))) : p := t h.out b.out
/-- A row of one's own, after new blocks and draws. -/
theorem ra {p q : Prop} (h : Aside0 q) (t : q → p := by
    intro hh_
    (with_reducible repeat (first | apply Kd.R_alloc | apply Kd.R_drewN | apply Kd.R_drew))
    exact hh_) : p := t h.out
theorem er {p : Prop} (t : p := by first | rfl | (simp [errW_none, errW_some] <;> rfl) | (simp [*, errW_none, errW_some] <;> rfl)) : p := t
theorem gs {p : Prop} (t : p := by (try simp only [List.map_toArray, List.map_cons, List.map_nil]); first | done | rfl | (simp only [List.length_drop, List.length_take]; rfl)) : p := t
theorem odt {p : Prop} (t : p := by first | (with_reducible assumption) | assumption) : p := t
theorem g1_ {p : Prop} (t : p := by intro w'; go_simp; with_reducible rfl) : p := t
theorem g2_ {p : Prop} (t : p := by simp only [Act.put, List.setIfInBounds_toArray, List.set_cons_zero, List.set_cons_succ, i64_w, i32_w]; rfl) : p := t
end Go.Proofs.YtemokeankdgfeaaDoor.Sq
