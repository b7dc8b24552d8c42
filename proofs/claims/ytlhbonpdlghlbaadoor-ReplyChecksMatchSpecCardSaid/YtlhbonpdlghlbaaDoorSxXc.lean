/- Replies: all their segments, both ways (row 27). -/
import Derived.Test.YtlhbonpdlghlbaaDoorSxXb
set_option linter.unusedVariables false
set_option linter.unusedSimpArgs false
namespace Go.Sx
def one1 : ByteArray := ByteArray.mk #[49]
def msE (m : D) : List D := [el (m.c 0).s, el (ia (m.c 1).i)] ++ (bif (m.c 2).b then [el one1] else [])
def frS (d : D) : D := sgD akR [el d.s]
def flS (x : D) : D := sgD akF (flE x)
def msS (m : D) : List D := sgD akM (msE m) :: ((m.c 3).r.map flS ++ (m.c 4).r.map frS)
def grS (g : D) : List D := sgD akG [el (g.c 0).s, el (ia (g.c 1).i)] :: (g.c 2).r.flatMap msS
def allS (s : ByteArray) (v : Int) (gs : List D) : List D := sgD akI [el s, el (ia v)] :: gs.flatMap grS
def iM (m : D) : Prop := okI (m.c 1).i ∧ ∀ x ∈ (m.c 3).r, okI5 x
def iG (g : D) : Prop := okI (g.c 1).i ∧ ∀ m ∈ (g.c 2).r, iM m
section
variable {ι : Type} [Dir ι]
theorem fa26 (go : ι → List D → Option (List D)) (gs ms fl fa : List D) (n i n2 j v : Int) (s : ByteArray) (u : Bool) (out : List D) (r : List D) (hb : out.length + fa.length ≤ 1000000)
    (k : EvG (fun p => go p [.row gs, .int n, .int i, .row ms, .int n2, .int (IntKind.i64.wrap (j + 1)), .row (out ++ fa.map frS)]) r) :
    EvG (fun q : ι × Nat => iter (B26x0 (go q.1)) q.2 [.int 0, .row gs, .int n, .int i, .row ms, .int n2, .int j, .row out, .str s, .int v, .bool u, .row fl, .row fa]) r := by
  have e : out ++ ([] : List D).map frS = out := by simp
  refine EvG.congr (fun q => ?_) (EvG.scan (B := fun q => B26x0 (go q)) fa (fun pre => [.int (pre.length : Int), .row gs, .int n, .int i, .row ms, .int n2, .int j, .row (out ++ pre.map frS), .str s, .int v, .bool u, .row fl, .row fa]) (fun _ _ => r) ?_ ?_)
  · simp only [e]; rfl
  · unfold B26x0
    simp only [gt_zero, gt_succ, int_i, row_r, no_more, cond_false]
    exact k.fst
  · intro pre x post go2 hp ih
    have a := at_of hp (by omega)
    have hpl : pre.length + 1 ≤ fa.length := by have := congrArg List.length hp; simp at this; omega
    rw [List.map_append, ← List.append_assoc] at ih
    unfold B26x0
    simp only [gt_zero, gt_succ, int_i, row_r, str_s, bool_b, a.lt, a.inr, a.el, a.up, Bool.and_true, cond_true]
    refine EvG.bind (Ev.snd (seg52 akR [.row [.str x.s]] (by simp))) ?_
    simp only [gt_zero, gt_succ, str_s, row_r, List.map_cons, List.map_nil]
    refine EvG.pos (needOk_yes (by simp only [List.length_append, List.length_map, List.length_cons, List.length_nil]; omega)) ?_
    exact ih
theorem fl26 (go : ι → List D → Option (List D)) (gs ms fl fa : List D) (n i n2 j v : Int) (s : ByteArray) (u : Bool) (out : List D) (r : List D) (hi : ∀ x ∈ fl, okI5 x) (hb : out.length + (fl.length + fa.length) ≤ 1000000)
    (k : EvG (fun p => go p [.row gs, .int n, .int i, .row ms, .int n2, .int (IntKind.i64.wrap (j + 1)), .row (out ++ fl.map flS ++ fa.map frS)]) r) :
    EvG (fun q : ι × Nat => iter (B26x1 (go q.1)) q.2 [.int 0, .row gs, .int n, .int i, .row ms, .int n2, .int j, .row out, .str s, .int v, .bool u, .row fl, .row fa]) r := by
  have e : out ++ ([] : List D).map flS = out := by simp
  refine EvG.congr (fun q => ?_) (EvG.scan (B := fun q => B26x1 (go q)) fl (fun pre => [.int (pre.length : Int), .row gs, .int n, .int i, .row ms, .int n2, .int j, .row (out ++ pre.map flS), .str s, .int v, .bool u, .row fl, .row fa]) (fun _ _ => r) ?_ ?_)
  · simp only [e]; rfl
  · unfold B26x1
    simp only [gt_zero, gt_succ, int_i, row_r, str_s, bool_b, no_more, cond_false]
    refine EvG.loop (f := fun p n_ => iter (B26x0 (go p.1)) n_ _) ?_
    exact fa26 (fun p : ι × Nat => go p.1) gs ms fl fa n i n2 j v s u (out ++ fl.map flS) r (by simp only [List.length_append, List.length_map]; omega) k.fst
  · intro pre x post go2 hp ih
    have a := at_of hp (by omega)
    have hpl : pre.length + 1 ≤ fl.length := by have := congrArg List.length hp; simp at this; omega
    rw [List.map_append, ← List.append_assoc] at ih
    unfold B26x1
    simp only [gt_zero, gt_succ, int_i, row_r, str_s, bool_b, a.lt, a.inr, a.el, a.up, Bool.and_true, cond_true]
    refine EvG.bind (Ev.snd (flaw54 x (hi x (by simp [hp])))) ?_
    simp only [gt_zero, gt_succ, str_s, row_r]
    refine EvG.pos (needOk_yes (by simp only [List.length_append, List.length_map, List.length_cons, List.length_nil]; omega)) ?_
    exact ih
theorem fa55 (go : ι → List D → Option (List D)) (gs ms fa : List D) (n i n2 j : Int) (out : List D) (r : List D) (hb : out.length + fa.length ≤ 1000000)
    (k : EvG (fun p => go p [.row gs, .int n, .int i, .row ms, .int n2, .int (IntKind.i64.wrap (j + 1)), .row (out ++ fa.map frS)]) r) :
    EvG (fun q : ι × Nat => iter (B55x0 (go q.1)) q.2 [.row gs, .int n, .int i, .row ms, .int n2, .int j, .row fa, .int (fa.length : Int), .int 0, .row out]) r := by
  have e : out ++ ([] : List D).map frS = out := by simp
  refine EvG.congr (fun q => ?_) (EvG.scan (B := fun q => B55x0 (go q)) fa (fun pre => [.row gs, .int n, .int i, .row ms, .int n2, .int j, .row fa, .int (fa.length : Int), .int (pre.length : Int), .row (out ++ pre.map frS)]) (fun _ _ => r) ?_ ?_)
  · simp only [e]; rfl
  · unfold B55x0
    simp only [gt_zero, gt_succ, int_i, row_r, no_more, cond_false]
    exact k.fst
  · intro pre x post go2 hp ih
    have a := at_of hp (by omega)
    have hpl : pre.length + 1 ≤ fa.length := by have := congrArg List.length hp; simp at this; omega
    rw [List.map_append, ← List.append_assoc] at ih
    unfold B55x0
    simp only [gt_zero, gt_succ, int_i, row_r, str_s, bool_b, a.lt, a.inr, a.el, a.up, Bool.and_true, cond_true]
    refine EvG.bind (Ev.snd (made81 akR [.str x.s] (by simp))) ?_
    simp only [gt_zero, gt_succ, str_s, row_r, List.map_cons, List.map_nil]
    refine EvG.pos (needOk_yes (by simp only [List.length_append, List.length_map, List.length_cons, List.length_nil]; omega)) ?_
    exact ih
theorem fl55 (go : ι → List D → Option (List D)) (gs ms fl fa : List D) (n i n2 j v : Int) (s : ByteArray) (u : Bool) (out : List D) (r : List D) (hi : ∀ x ∈ fl, okI5 x) (hb : out.length + (fl.length + fa.length) ≤ 1000000)
    (k : EvG (fun p => go p [.row gs, .int n, .int i, .row ms, .int n2, .int (IntKind.i64.wrap (j + 1)), .row (out ++ fl.map flS ++ fa.map frS)]) r) :
    EvG (fun q : ι × Nat => iter (B55x1 (go q.1)) q.2 [.row gs, .int n, .int i, .row ms, .int n2, .int j, .row fl, .int (fl.length : Int), .int 0, .row out, .str s, .int v, .bool u, .row fl, .row fa]) r := by
  have e : out ++ ([] : List D).map flS = out := by simp
  refine EvG.congr (fun q => ?_) (EvG.scan (B := fun q => B55x1 (go q)) fl (fun pre => [.row gs, .int n, .int i, .row ms, .int n2, .int j, .row fl, .int (fl.length : Int), .int (pre.length : Int), .row (out ++ pre.map flS), .str s, .int v, .bool u, .row fl, .row fa]) (fun _ _ => r) ?_ ?_)
  · simp only [e]; rfl
  · unfold B55x1
    simp only [gt_zero, gt_succ, int_i, row_r, str_s, bool_b, no_more, cond_false]
    refine EvG.loop (f := fun p n_ => iter (B55x0 (go p.1)) n_ _) ?_
    exact fa55 (fun p : ι × Nat => go p.1) gs ms fa n i n2 j (out ++ fl.map flS) r (by simp only [List.length_append, List.length_map]; omega) k.fst
  · intro pre x post go2 hp ih
    have a := at_of hp (by omega)
    have hpl : pre.length + 1 ≤ fl.length := by have := congrArg List.length hp; simp at this; omega
    rw [List.map_append, ← List.append_assoc] at ih
    unfold B55x1
    simp only [gt_zero, gt_succ, int_i, row_r, str_s, bool_b, a.lt, a.inr, a.el, a.up, Bool.and_true, cond_true]
    refine EvG.bind (Ev.snd (flaw82 x (hi x (by simp [hp])))) ?_
    simp only [gt_zero, gt_succ, str_s, row_r]
    refine EvG.pos (needOk_yes (by simp only [List.length_append, List.length_map, List.length_cons, List.length_nil]; omega)) ?_
    exact ih
theorem ms26 (go : ι → List D → Option (List D)) (gs ms : List D) (n i : Int) (out : List D) (r : List D) (hi : ∀ m ∈ ms, iM m) (hb : out.length + (ms.flatMap msS).length ≤ 1000000) (hm : ms.length ≤ 140737488355328)
    (k : EvG (fun p => go p [.row gs, .int n, .int (IntKind.i64.wrap (i + 1)), .row (out ++ ms.flatMap msS)]) r) :
    EvG (fun q : ι × Nat => iter (B26x2 (go q.1)) q.2 [.row gs, .int n, .int i, .row ms, .int (ms.length : Int), .int 0, .row out]) r := by
  have e : out ++ ([] : List D).flatMap msS = out := by simp
  refine EvG.congr (fun q => ?_) (EvG.scan (B := fun q => B26x2 (go q)) ms (fun pre => [.row gs, .int n, .int i, .row ms, .int (ms.length : Int), .int (pre.length : Int), .row (out ++ pre.flatMap msS)]) (fun _ _ => r) ?_ ?_)
  · simp only [e]; rfl
  · unfold B26x2
    simp only [gt_zero, gt_succ, int_i, row_r, no_more, cond_false]
    exact k.fst
  · intro pre m post go2 hp ih
    have a := at_of hp hm
    obtain ⟨h1, h2⟩ := hi m (by simp [hp])
    have hlen : (ms.flatMap msS).length = (pre.flatMap msS).length + ((msS m).length + (post.flatMap msS).length) := by rw [hp]; simp
    have hml : (msS m).length = 1 + ((m.c 3).r.length + (m.c 4).r.length) := by simp [msS]; omega
    rw [List.flatMap_append, ← List.append_assoc] at ih
    have ih2 : EvG (fun p => go2 p [.row gs, .int n, .int i, .row ms, .int (ms.length : Int), .int ((pre ++ [m]).length : Int), .row (out ++ pre.flatMap msS ++ [sgD akM (msE m)] ++ (m.c 3).r.map flS ++ (m.c 4).r.map frS)]) r := by
      have e2 : out ++ pre.flatMap msS ++ [m].flatMap msS = out ++ pre.flatMap msS ++ [sgD akM (msE m)] ++ (m.c 3).r.map flS ++ (m.c 4).r.map frS := by simp [msS]
      rw [e2] at ih
      exact ih
    unfold B26x2
    simp only [gt_zero, gt_succ, int_i, row_r, str_s, bool_b, a.lt, a.inr, a.el, Bool.and_true, cond_true, ia53 _ _ h1, Option.bind_some]
    refine EvG.bind (a := [.row gs, .int n, .int i, .row ms, .int (ms.length : Int), .int (pre.length : Int), .row (out ++ pre.flatMap msS), .str (m.c 0).s, .int (m.c 1).i, .bool (m.c 2).b, .row (m.c 3).r, .row (m.c 4).r, .row ([.row [.str (m.c 0).s], .row [.str (ia (m.c 1).i)]] ++ (bif (m.c 2).b then [.row [.str one1]] else []))]) ?_ ?_
    · cases (m.c 2).b <;> exact EvG.now _
    · simp only [gt_zero, gt_succ, int_i, row_r, str_s, bool_b]
      refine EvG.bind (Ev.snd (seg52 akM _ (by cases (m.c 2).b <;> simp))) ?_
      simp only [gt_zero, gt_succ, int_i, row_r, str_s, bool_b]
      have e3 : (([D.row [.str (m.c 0).s], .row [.str (ia (m.c 1).i)]] ++ (bif (m.c 2).b then [D.row [.str one1]] else [])).map fun d => elP d.r) = msE m := by
        unfold msE
        cases (m.c 2).b <;> rfl
      rw [e3]
      refine EvG.pos (needOk_yes (by simp only [List.length_append, List.length_cons, List.length_nil]; omega)) ?_
      refine EvG.loop (f := fun p n_ => iter (B26x1 (go2 p)) n_ _) ?_
      refine fl26 go2 gs ms (m.c 3).r (m.c 4).r n i (ms.length : Int) (pre.length : Int) _ _ _ (out ++ pre.flatMap msS ++ [sgD akM (msE m)]) r h2 (by simp only [List.length_append, List.length_cons, List.length_nil]; omega) ?_
      rw [a.up]
      exact ih2
theorem ms55 (go : ι → List D → Option (List D)) (gs ms : List D) (n i : Int) (out : List D) (r : List D) (hi : ∀ m ∈ ms, iM m) (hb : out.length + (ms.flatMap msS).length ≤ 1000000) (hm : ms.length ≤ 140737488355328)
    (k : EvG (fun p => go p [.row gs, .int n, .int (IntKind.i64.wrap (i + 1)), .row (out ++ ms.flatMap msS)]) r) :
    EvG (fun q : ι × Nat => iter (B55x2 (go q.1)) q.2 [.row gs, .int n, .int i, .row ms, .int (ms.length : Int), .int 0, .row out]) r := by
  have e : out ++ ([] : List D).flatMap msS = out := by simp
  refine EvG.congr (fun q => ?_) (EvG.scan (B := fun q => B55x2 (go q)) ms (fun pre => [.row gs, .int n, .int i, .row ms, .int (ms.length : Int), .int (pre.length : Int), .row (out ++ pre.flatMap msS)]) (fun _ _ => r) ?_ ?_)
  · simp only [e]; rfl
  · unfold B55x2
    simp only [gt_zero, gt_succ, int_i, row_r, no_more, cond_false]
    exact k.fst
  · intro pre m post go2 hp ih
    have a := at_of hp hm
    obtain ⟨h1, h2⟩ := hi m (by simp [hp])
    have hlen : (ms.flatMap msS).length = (pre.flatMap msS).length + ((msS m).length + (post.flatMap msS).length) := by rw [hp]; simp
    have hml : (msS m).length = 1 + ((m.c 3).r.length + (m.c 4).r.length) := by simp [msS]; omega
    rw [List.flatMap_append, ← List.append_assoc] at ih
    have ih2 : EvG (fun p => go2 p [.row gs, .int n, .int i, .row ms, .int (ms.length : Int), .int ((pre ++ [m]).length : Int), .row (out ++ pre.flatMap msS ++ [sgD akM (msE m)] ++ (m.c 3).r.map flS ++ (m.c 4).r.map frS)]) r := by
      have e2 : out ++ pre.flatMap msS ++ [m].flatMap msS = out ++ pre.flatMap msS ++ [sgD akM (msE m)] ++ (m.c 3).r.map flS ++ (m.c 4).r.map frS := by simp [msS]
      rw [e2] at ih
      exact ih
    unfold B55x2
    simp only [gt_zero, gt_succ, int_i, row_r, str_s, bool_b, a.lt, a.inr, a.el, Bool.and_true, cond_true, ia53 _ _ h1, Option.bind_some]
    refine EvG.bind (a := [.row gs, .int n, .int i, .row ms, .int (ms.length : Int), .int (pre.length : Int), .row (out ++ pre.flatMap msS), .str (m.c 0).s, .int (m.c 1).i, .bool (m.c 2).b, .row (m.c 3).r, .row (m.c 4).r, .row ([.str (m.c 0).s, .str (ia (m.c 1).i)] ++ (bif (m.c 2).b then [.str one1] else []))]) ?_ ?_
    · cases (m.c 2).b <;> exact EvG.now _
    · simp only [gt_zero, gt_succ, int_i, row_r, str_s, bool_b]
      refine EvG.bind (Ev.snd (made81 akM _ (by cases (m.c 2).b <;> simp))) ?_
      simp only [gt_zero, gt_succ, int_i, row_r, str_s, bool_b]
      have e3 : (([D.str (m.c 0).s, .str (ia (m.c 1).i)] ++ (bif (m.c 2).b then [D.str one1] else [])).map fun d => el d.s) = msE m := by
        unfold msE
        cases (m.c 2).b <;> rfl
      rw [e3]
      refine EvG.pos (needOk_yes (by simp only [List.length_append, List.length_cons, List.length_nil]; omega)) ?_
      refine EvG.loop (f := fun p n_ => iter (B55x1 (go2 p)) n_ _) ?_
      refine fl55 go2 gs ms (m.c 3).r (m.c 4).r n i (ms.length : Int) (pre.length : Int) _ _ _ (out ++ pre.flatMap msS ++ [sgD akM (msE m)]) r h2 (by simp only [List.length_append, List.length_cons, List.length_nil]; omega) ?_
      rw [a.up]
      exact ih2
end
theorem gr26 (gs : List D) (out : List D) (hi : ∀ g ∈ gs, iG g) (hb : out.length + (gs.flatMap grS).length ≤ 1000000) (hg : gs.length ≤ 140737488355328) (hm : ∀ g ∈ gs, (g.c 2).r.length ≤ 140737488355328) :
    Ev (fun k => iter B26x3 k [.row gs, .int (gs.length : Int), .int 0, .row out]) (bif decide (((out ++ gs.flatMap grS).length : Int) > 2000) then [.row [], .int 2] else [.row (out ++ gs.flatMap grS), .int 0]) := by
  have e : out ++ ([] : List D).flatMap grS = out := by simp
  refine EvG.nat (EvG.loopN (f := fun _ n => iter B26x3 n _) ?_)
  refine EvG.congr (fun q => ?_) (EvG.scan (ι := Nat) (B := fun _ => B26x3) gs (fun pre => [.row gs, .int (gs.length : Int), .int (pre.length : Int), .row (out ++ pre.flatMap grS)]) (fun _ _ => _) ?_ ?_)
  · simp only [e]; rfl
  · unfold B26x3
    simp only [gt_zero, gt_succ, int_i, row_r, no_more, cond_false]
    cases decide (((out ++ gs.flatMap grS).length : Int) > 2000) <;> exact EvG.now _
  · intro pre g post go hp ih
    have a := at_of hp hg
    obtain ⟨h1, h2⟩ := hi g (by simp [hp])
    have hlen : (gs.flatMap grS).length = (pre.flatMap grS).length + ((grS g).length + (post.flatMap grS).length) := by rw [hp]; simp
    have hgl : (grS g).length = 1 + ((g.c 2).r.flatMap msS).length := by simp [grS]; omega
    rw [List.flatMap_append, ← List.append_assoc] at ih
    have ih2 := ih
    rw [show out ++ pre.flatMap grS ++ [g].flatMap grS = out ++ pre.flatMap grS ++ [sgD akG [el (g.c 0).s, el (ia (g.c 1).i)]] ++ (g.c 2).r.flatMap msS by simp [grS]] at ih2
    unfold B26x3
    simp only [gt_zero, gt_succ, int_i, row_r, str_s, a.lt, a.inr, a.el, Bool.and_true, cond_true, ia53 _ _ h1, Option.bind_some]
    refine EvG.bind (Ev.snd (seg52 akG [.row [.str (g.c 0).s], .row [.str (ia (g.c 1).i)]] (by simp))) ?_
    simp only [gt_zero, gt_succ, str_s, row_r, List.map_cons, List.map_nil]
    refine EvG.pos (needOk_yes (by simp only [List.length_append, List.length_cons, List.length_nil]; omega)) ?_
    refine EvG.loop (f := fun p n_ => iter (B26x2 (go p)) n_ _) ?_
    refine ms26 go gs (g.c 2).r (gs.length : Int) (pre.length : Int) (out ++ pre.flatMap grS ++ [sgD akG [el (g.c 0).s, el (ia (g.c 1).i)]]) _ h2 (by simp only [List.length_append, List.length_cons, List.length_nil]; omega) (hm g (by simp [hp])) ?_
    rw [a.up]
    exact ih2
theorem gr55 (gs : List D) (out : List D) (hi : ∀ g ∈ gs, iG g) (hb : out.length + (gs.flatMap grS).length ≤ 1000000) (hg : gs.length ≤ 140737488355328) (hm : ∀ g ∈ gs, (g.c 2).r.length ≤ 140737488355328) :
    Ev (fun k => iter B55x3 k [.row gs, .int (gs.length : Int), .int 0, .row out]) [.row (out ++ gs.flatMap grS)] := by
  have e : out ++ ([] : List D).flatMap grS = out := by simp
  refine EvG.nat (EvG.loopN (f := fun _ n => iter B55x3 n _) ?_)
  refine EvG.congr (fun q => ?_) (EvG.scan (ι := Nat) (B := fun _ => B55x3) gs (fun pre => [.row gs, .int (gs.length : Int), .int (pre.length : Int), .row (out ++ pre.flatMap grS)]) (fun _ _ => _) ?_ ?_)
  · simp only [e]; rfl
  · unfold B55x3
    simp only [gt_zero, gt_succ, int_i, row_r, no_more, cond_false]
    exact EvG.now _
  · intro pre g post go hp ih
    have a := at_of hp hg
    obtain ⟨h1, h2⟩ := hi g (by simp [hp])
    have hlen : (gs.flatMap grS).length = (pre.flatMap grS).length + ((grS g).length + (post.flatMap grS).length) := by rw [hp]; simp
    have hgl : (grS g).length = 1 + ((g.c 2).r.flatMap msS).length := by simp [grS]; omega
    rw [List.flatMap_append, ← List.append_assoc] at ih
    have ih2 := ih
    rw [show out ++ pre.flatMap grS ++ [g].flatMap grS = out ++ pre.flatMap grS ++ [sgD akG [el (g.c 0).s, el (ia (g.c 1).i)]] ++ (g.c 2).r.flatMap msS by simp [grS]] at ih2
    unfold B55x3
    simp only [gt_zero, gt_succ, int_i, row_r, str_s, a.lt, a.inr, a.el, Bool.and_true, cond_true, ia53 _ _ h1, Option.bind_some]
    refine EvG.bind (Ev.snd (made81 akG [.str (g.c 0).s, .str (ia (g.c 1).i)] (by simp))) ?_
    simp only [gt_zero, gt_succ, str_s, row_r, List.map_cons, List.map_nil]
    refine EvG.pos (needOk_yes (by simp only [List.length_append, List.length_cons, List.length_nil]; omega)) ?_
    refine EvG.loop (f := fun p n_ => iter (B55x2 (go p)) n_ _) ?_
    refine ms55 go gs (g.c 2).r (gs.length : Int) (pre.length : Int) (out ++ pre.flatMap grS ++ [sgD akG [el (g.c 0).s, el (ia (g.c 1).i)]]) _ h2 (by simp only [List.length_append, List.length_cons, List.length_nil]; omega) (hm g (by simp [hp])) ?_
    rw [a.up]
    exact ih2
end Go.Sx
