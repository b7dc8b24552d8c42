/- With InOrder jobs of one lane are done and given up in their order; what was pending and is not later has been done or given up. -/
import Derived.Test.YtemokeankdgfeaaDoorODeskQueuesStayInOrder
import Derived.Test.YtemokeankdgfeaaDoorCm
namespace Go.Proofs.YtemokeankdgfeaaDoor.Pure
open Go.RowKit Go.Proofs.YtemokeankdgfeaaDoor.PDeskQueuesStayInOrder Go.Proofs.YtemokeankdgfeaaDoorW.PrintWords Go.Proofs.YtemokeankdgfeaaDoorW.PrintLast Go.Proofs.YtemokeankdgfeaaDoorW.PrintMore Go.Proofs.YtemokeankdgfeaaDoor.ODeskQueuesStayInOrder Go.Proofs.YtemokeankdgfeaaDoor.Cm Go.Proofs.YtemokeankdgfeaaDoor.Mp
set_option linter.unusedVariables false
set_option linter.unusedSimpArgs false
theorem Ev.succ {α : Type} {g : Nat → Option α} {r : α} (k : Ev (fun n => g (n + 1)) r) : Ev g r := Ev.step (fun _ => rfl) k
def okn (n : Int) : Bool := decide ((97 ≤ n ∧ n ≤ 122) ∨ (48 ≤ n ∧ n ≤ 57) ∨ n = 45)
def nm (s : ByteArray) : Bool := decide (1 ≤ s.size ∧ s.size ≤ 40 ∧ 97 ≤ bt s 0 ∧ bt s 0 ≤ 122) && s.data.toList.all fun b => okn b.toNat
set_option maxRecDepth 100000 in
theorem cut_okn : ∀ n : Nat, n < 256 → ([97, 98, 99, 100, 101, 102, 103, 104, 105, 106, 107, 108, 109, 110, 111, 112, 113, 114, 115, 116, 117, 118, 119, 120, 121, 122, 48, 49, 50, 51, 52, 53, 54, 55, 56, 57, 45] : List UInt8).contains (UInt8.ofNat n) = okn n := by decide
theorem own_Name (s : ByteArray) (hs : s.size ≤ 140737488351232) : kit_IsName.f s = some (nm s) := by
  unfold kit_IsName.f nm strings_Trim.f
  by_cases h1 : (s.size : Int) < 1
  · rw [if_pos h1, decide_eq_false (by omega), Bool.false_and]
  rw [if_neg h1]
  by_cases h2 : (s.size : Int) > 40
  · rw [if_pos h2, decide_eq_false (by omega), Bool.false_and]
  rw [if_neg h2, if_pos (by omega)]
  by_cases h3 : bt s 0 < 97
  · rw [if_pos h3, decide_eq_false (by omega), Bool.false_and]
  rw [if_neg h3]
  by_cases h4 : bt s 0 > 122
  · rw [if_pos h4, decide_eq_false (by omega), Bool.false_and]
  rw [if_neg h4, decide_eq_true (by omega), Bool.true_and, if_pos ⟨by omega, by decide, by decide⟩, Option.bind_some]
  congr 1
  rw [Bool.eq_iff_iff, beq_iff_eq, Lib.toList_data, List.all_eq_true]
  show Lib.trimS _ _ = [] ↔ _
  rw [trim_nil]
  refine forall_congr' fun b => forall_congr' fun _ => ?_
  have := cut_okn b.toNat (by have := b.toNat_lt; omega)
  rw [UInt8.ofNat_toNat] at this
  rw [← this]
theorem out_eq (a b c : Int) : kit_Outside.f a b c = some (decide ¬ (b ≤ a ∧ a ≤ c)) := by
  unfold kit_Outside.f
  by_cases h : a < b
  · rw [if_pos h, decide_eq_true (by omega)]
  · rw [if_neg h]; congr 1; exact decide_eq_decide.2 (by omega)
theorem moment_eq (a : Int) : kit_IsMoment.f a = some (decide (0 ≤ a ∧ a ≤ 1000000000000000)) := by
  unfold kit_IsMoment.f
  rw [out_eq, Option.bind_some]
  congr 1
  by_cases h : 0 ≤ a ∧ a ≤ 1000000000000000 <;> simp [h]
def jl (js : List S42) : Nat → Int → Int
  | 0, _ => 0
  | m + 1, i => if nm (rd_T42 js i).f0 = true then (if 0 ≤ (rd_T42 js i).f1 ∧ (rd_T42 js i).f1 ≤ 1000000000000000 then (if i > 0 then (if (rd_T42 js i).f1 < (rd_T42 js (i - 1)).f1 then 8 else jl js m (i + 1)) else jl js m (i + 1)) else 1) else 5
def jobs (js : List S42) : Int := if (js.length : Int) > 1000 then 2 else jl js js.length 0
theorem mem_rd42 {js : List S42} {P : S42 → Prop} (h : ∀ y ∈ js, P y) {i : Int} (h0 : 0 ≤ i) (h1 : i < js.length) : P (rd_T42 js i) := by
  unfold rd_T42
  rw [List.getD_eq_getElem?_getD, List.getElem?_eq_getElem (by omega : i.toNat < js.length)]
  exact h _ (List.getElem_mem _)
theorem mem_rd44 {js : List S44} {P : S44 → Prop} (h : ∀ y ∈ js, P y) {i : Int} (h0 : 0 ≤ i) (h1 : i < js.length) : P (rd_T44 js i) := by
  unfold rd_T44
  rw [List.getD_eq_getElem?_getD, List.getElem?_eq_getElem (by omega : i.toNat < js.length)]
  exact h _ (List.getElem_mem _)
theorem own_jobs_loop (js : List S42) (hg : ∀ y ∈ js, g42 y) (hl : js.length ≤ 1000) : ∀ (m : Nat) (i : Int), (js.length : Int) - i = m → 0 ≤ i → Ev (fun k => desk_CheckJobs.l0 k js js js.length i) (jl js m i)
  | 0, i, h1, h2 => by
    refine Ev.succ ?_
    simp only [desk_CheckJobs.l0]
    exact Ev.if_neg (by omega) (Ev.now _)
  | m + 1, i, h1, h2 => by
    have ih := own_jobs_loop js hg hl m (i + 1) (by omega) (by omega)
    refine Ev.succ ?_
    simp only [desk_CheckJobs.l0, moment_eq, jl]
    rw [w64 (x := i + 1) (by omega) (by omega), w64 (x := i - 1) (by omega) (by omega)]
    refine Ev.if_pos (by omega) (Ev.if_pos (by omega) (Ev.if_pos (by omega) ?_))
    rw [own_Name _ (mem_rd42 hg h2 (by omega)).1]
    refine Ev.bind_some ?_
    by_cases hn : nm (rd_T42 js i).f0 = true
    · rw [if_pos hn]
      refine Ev.if_pos hn (Ev.bind_some ?_)
      by_cases ht : 0 ≤ (rd_T42 js i).f1 ∧ (rd_T42 js i).f1 ≤ 1000000000000000
      · rw [if_pos ht]
        refine Ev.if_pos (decide_eq_true ht) ?_
        by_cases hi : i > 0
        · rw [if_pos hi]
          refine Ev.if_pos hi (Ev.if_pos (by omega) (Ev.if_pos (by omega) ?_))
          by_cases hb : (rd_T42 js i).f1 < (rd_T42 js (i - 1)).f1
          · rw [if_pos hb]
            exact Ev.if_pos hb (Ev.now _)
          · rw [if_neg hb]
            exact Ev.if_neg hb ih
        · rw [if_neg hi]
          exact Ev.if_neg hi ih
      · rw [if_neg ht]
        exact Ev.if_neg (by simpa using ht) (Ev.now _)
    · rw [if_neg hn]
      exact Ev.if_neg hn (Ev.now _)
theorem own_jobs (js : List S42) (hg : ∀ y ∈ js, g42 y) : Ev (fun k => desk_CheckJobs.f k js) (jobs js) := by
  unfold desk_CheckJobs.f jobs
  by_cases h : (js.length : Int) > 1000
  · rw [if_pos h]; exact Ev.if_pos h (Ev.now _)
  · rw [if_neg h]; exact Ev.if_neg h (own_jobs_loop js hg (by omega) _ 0 (by omega) (by omega))
def ol (os : List S44) : Nat → Int → Int
  | 0, _ => 0
  | m + 1, i => if nm (rd_T44 os i).f0 = true then (if (0 ≤ (rd_T44 os i).f1 ∧ (rd_T44 os i).f1 ≤ 1000000000000000) ∧ (0 ≤ (rd_T44 os i).f2 ∧ (rd_T44 os i).f2 ≤ 2000000000000000) then (if (rd_T44 os i).f2 ≤ (rd_T44 os i).f1 then 8 else ol os m (i + 1)) else 1) else 5
def outs (os : List S44) : Int := if (os.length : Int) > 500 then 2 else ol os os.length 0
theorem own_outs_loop (os : List S44) (hg : ∀ y ∈ os, g44 y) (hl : os.length ≤ 1000) : ∀ (m : Nat) (i : Int), (os.length : Int) - i = m → 0 ≤ i → Ev (fun k => desk_CheckOutages.l0 k os os.length i) (ol os m i)
  | 0, i, h1, h2 => by
    refine Ev.succ ?_
    simp only [desk_CheckOutages.l0]
    exact Ev.if_neg (by omega) (Ev.now _)
  | m + 1, i, h1, h2 => by
    have ih := own_outs_loop os hg hl m (i + 1) (by omega) (by omega)
    have hj : Ev (fun k => desk_CheckOutages.j1 k os os.length i true (rd_T44 os i).f0 (rd_T44 os i).f1 (rd_T44 os i).f2) 1 := by
      refine Ev.succ ?_
      simp only [desk_CheckOutages.j1, if_true]
      exact Ev.now _
    refine Ev.succ ?_
    simp only [desk_CheckOutages.l0, moment_eq, out_eq, ol]
    refine Ev.if_pos (by omega) (Ev.if_pos (by omega) (Ev.if_pos (by omega) ?_))
    rw [own_Name _ (mem_rd44 hg h2 (by omega)).1]
    refine Ev.bind_some ?_
    by_cases hn : nm (rd_T44 os i).f0 = true
    · rw [if_pos hn]
      refine Ev.if_pos hn (Ev.bind_some ?_)
      by_cases ht : 0 ≤ (rd_T44 os i).f1 ∧ (rd_T44 os i).f1 ≤ 1000000000000000
      · refine Ev.if_pos (decide_eq_true ht) (Ev.bind_some ?_)
        by_cases hu : 0 ≤ (rd_T44 os i).f2 ∧ (rd_T44 os i).f2 ≤ 2000000000000000
        · rw [if_pos ⟨ht, hu⟩, decide_eq_false (fun h => h hu)]
          refine Ev.succ ?_
          simp only [desk_CheckOutages.j1, Bool.false_eq_true, if_false]
          rw [w64 (x := i + 1) (by omega) (by omega)]
          by_cases hb : (rd_T44 os i).f2 ≤ (rd_T44 os i).f1
          · rw [if_pos hb]
            exact Ev.if_pos hb (Ev.now _)
          · rw [if_neg hb]
            exact Ev.if_neg hb ih
        · rw [if_neg (fun h => hu h.2), decide_eq_true hu]
          exact hj
      · rw [if_neg (fun h => ht h.1)]
        exact Ev.if_neg (by simpa using ht) hj
    · rw [if_neg hn]
      exact Ev.if_neg hn (Ev.now _)
theorem own_outs (os : List S44) (hg : ∀ y ∈ os, g44 y) : Ev (fun k => desk_CheckOutages.f k os) (outs os) := by
  unfold desk_CheckOutages.f outs
  by_cases h : (os.length : Int) > 500
  · rw [if_pos h]; exact Ev.if_pos h (Ev.now _)
  · rw [if_neg h]; exact Ev.if_neg h (own_outs_loop os hg (by omega) _ 0 (by omega) (by omega))
def right (p : S23) : Bool := decide (1 ≤ p.f0 ∧ p.f0 ≤ 1000000) && decide (1 ≤ p.f1 ∧ p.f1 ≤ 10) && decide (p.f0 ≤ p.f2 ∧ p.f2 ≤ 1000000) && decide (1 ≤ p.f3 ∧ p.f3 ≤ 20)
theorem right_iff {p : S23} : right p = true ↔ (1 ≤ p.f0 ∧ p.f0 ≤ 1000000) ∧ (1 ≤ p.f1 ∧ p.f1 ≤ 10) ∧ (p.f0 ≤ p.f2 ∧ p.f2 ≤ 1000000) ∧ (1 ≤ p.f3 ∧ p.f3 ≤ 20) := by
  unfold right; simp only [Bool.and_eq_true, decide_eq_true_eq]; exact ⟨fun h => ⟨h.1.1.1, h.1.1.2, h.1.2, h.2⟩, fun h => ⟨⟨⟨h.1, h.2.1⟩, h.2.2.1⟩, h.2.2.2⟩⟩
theorem own_check (p : S23) : desk_CheckPolicy.f p.f0 p.f1 p.f2 p.f3 p.f4 = some (if right p = true then 0 else 1) := by
  unfold desk_CheckPolicy.f
  simp only [out_eq, Option.bind_some, decide_eq_true_eq, right_iff]
  by_cases a : 1 ≤ p.f0 ∧ p.f0 ≤ 1000000 <;> by_cases b : 1 ≤ p.f1 ∧ p.f1 ≤ 10 <;> by_cases c : p.f0 ≤ p.f2 ∧ p.f2 ≤ 1000000 <;> by_cases d : 1 ≤ p.f3 ∧ p.f3 ≤ 20 <;> simp only [a, b, c, d, if_true, if_false, and_true, true_and, and_false, false_and, not_true, not_false_iff]
def wl (f most : Int) : Nat → Int → List Int
  | 0, _ => []
  | m + 1, n => n :: wl f most m (min (n * f) most)
theorem wl_length (f most : Int) : ∀ m n, (wl f most m n).length = m
  | 0, _ => rfl
  | m + 1, n => by simp [wl, wl_length f most m]
theorem next_bd {n f : Int} (h1 : 1 ≤ n) (h2 : n ≤ 1000000) (h3 : 1 ≤ f) (h4 : f ≤ 10) : 1 ≤ n * f ∧ n * f ≤ 10000000 := by
  have a : n * 1 ≤ n * f := Int.mul_le_mul_of_nonneg_left h3 (by omega)
  have b : n * f ≤ n * 10 := Int.mul_le_mul_of_nonneg_left h4 (by omega)
  omega
theorem wl_bd (f most : Int) (hf : 1 ≤ f ∧ f ≤ 10) (hm : 1 ≤ most ∧ most ≤ 1000000) : ∀ m n, 1 ≤ n → n ≤ 1000000 → ∀ x ∈ wl f most m n, 1 ≤ x ∧ x ≤ 1000000
  | 0, _, _, _, x, h => by simp [wl] at h
  | m + 1, n, h1, h2, x, h => by
    have hb := next_bd h1 h2 hf.1 hf.2
    simp only [wl, List.mem_cons] at h
    rcases h with rfl | h
    · exact ⟨h1, h2⟩
    · exact wl_bd f most hf hm m _ (by omega) (by omega) x h
theorem own_waits (f most x0 x3 : Int) (b : Bool) (hf : 1 ≤ f ∧ f ≤ 10) (hm : 1 ≤ most ∧ most ≤ 1000000) : ∀ (m : Nat) (acc : List Int) (n e i : Int), e - i = m → 0 ≤ i → e ≤ 20 → acc.length + m ≤ 100 → 1 ≤ n → n ≤ 1000000 →
    Ev (fun k => desk_waits.l0 k acc n e i x0 f most x3 b) (acc ++ wl f most m n)
  | 0, acc, n, e, i, h1, h2, h3, h4, h5, h6 => by
    refine Ev.succ ?_
    simp only [desk_waits.l0]
    exact Ev.if_neg (by omega) (by simpa [wl] using Ev.now acc)
  | m + 1, acc, n, e, i, h1, h2, h3, h4, h5, h6 => by
    have hb := next_bd h5 h6 hf.1 hf.2
    refine Ev.succ ?_
    simp only [desk_waits.l0]
    rw [w64 (by omega) (by omega), w64 (by omega) (by omega), mn_min]
    refine Ev.if_pos (by omega) (Ev.if_pos (by omega) ?_)
    have := own_waits f most x0 x3 b hf hm m (acc ++ [n]) (min (n * f) most) e (i + 1) (by omega) (by omega) h3 (by simp; omega) (by omega) (by omega)
    simpa [wl] using this
def waits (p : S23) : List Int := wl p.f1 p.f2 (p.f3 - 1).toNat p.f0
theorem waits_len {p : S23} (h : right p = true) : (waits p).length ≤ 20 := by
  obtain ⟨h0, h1, h2, h3⟩ := right_iff.1 h
  unfold waits; rw [wl_length]; omega
theorem waits_bd {p : S23} (h : right p = true) : ∀ x ∈ waits p, 1 ≤ x ∧ x ≤ 1000000 := by
  obtain ⟨h0, h1, h2, h3⟩ := right_iff.1 h
  exact wl_bd _ _ h1 (by omega) _ _ h0.1 h0.2
theorem own_Wl {p : S23} (h : right p = true) : Ev (fun k => desk_waits.f k p.f0 p.f1 p.f2 p.f3 p.f4) (waits p) := by
  obtain ⟨h0, h1, h2, h3⟩ := right_iff.1 h
  unfold desk_waits.f
  rw [w64 (by omega) (by omega)]
  exact own_waits p.f1 p.f2 p.f0 p.f3 p.f4 h1 (by omega) (p.f3 - 1).toNat [] p.f0 (p.f3 - 1) 0 (by omega) (by omega) (by omega) (by simp; omega) (by omega) (by omega)
theorem equal_ints (l : List Int) (hl : l.length ≤ 1000000) : ∀ (m : Nat) (i : Int), (l.length : Int) - i = m → 0 ≤ i → Ev (fun k => slices_Equal__int_int.l0 k l l l.length i) true
  | 0, i, h1, h2 => by
    refine Ev.succ ?_
    simp only [slices_Equal__int_int.l0]
    exact Ev.if_neg (by omega) (Ev.now _)
  | m + 1, i, h1, h2 => by
    refine Ev.succ ?_
    simp only [slices_Equal__int_int.l0]
    rw [w64 (by omega) (by omega)]
    exact Ev.if_pos (by omega) (Ev.if_pos (by omega) (Ev.if_pos (by omega) (Ev.if_pos (by omega) (Ev.if_pos trivial (equal_ints l hl m (i + 1) (by omega) (by omega))))))
theorem works_true : Ev (fun k => interchangelaw12_works.f k) true := by
  unfold interchangelaw12_works.f desk_Waits.f
  have hr : right ⟨5, 3, 20, 4, false⟩ = true := by decide
  have hc := own_check ⟨5, 3, 20, 4, false⟩
  have h := own_Wl (p := ⟨5, 3, 20, 4, false⟩) hr
  rw [if_pos hr] at hc
  rw [show waits ⟨5, 3, 20, 4, false⟩ = [5, 15, 20] by decide] at h
  simp only [hc, Option.bind_some, if_true]
  refine Ev.bind (Ev.bind h (Ev.now _)) ?_
  simp only [if_true]
  refine Ev.bind (a := true) ?_ (Ev.now _)
  unfold slices_Equal__int_int.f
  exact Ev.if_pos rfl (equal_ints _ (by decide) _ _ rfl (by decide))
def an (os : List S44) (lane : ByteArray) (t : Int) : Nat → Int → Bool
  | 0, _ => true
  | m + 1, i => if (rd_T44 os i).f0.toList = lane.toList ∧ (rd_T44 os i).f1 ≤ t ∧ t < (rd_T44 os i).f2 then false else an os lane t m (i + 1)
def ans (os : List S44) (lane : ByteArray) (t : Int) : Bool := an os lane t os.length 0
theorem own_an (os : List S44) (lane : ByteArray) (t : Int) (hl : os.length ≤ 1000) : ∀ (m : Nat) (i : Int), (os.length : Int) - i = m → 0 ≤ i → ∃ r, Ev (fun k => slices_IndexFunc__api_Outage_api_Outage_at_desk_answers_1.l0 k os os.length i lane t) r ∧ an os lane t m i = !decide (r ≥ 0)
  | 0, i, h1, h2 => by
    refine ⟨-1, ?_, rfl⟩
    refine Ev.succ ?_
    simp only [slices_IndexFunc__api_Outage_api_Outage_at_desk_answers_1.l0]
    exact Ev.if_neg (by omega) (Ev.now _)
  | m + 1, i, h1, h2 => by
    obtain ⟨r, ih, hr⟩ := own_an os lane t hl m (i + 1) (by omega) (by omega)
    have ha : desk_answers_1.f (rd_T44 os i).f0 (rd_T44 os i).f1 (rd_T44 os i).f2 lane t = some (decide ((rd_T44 os i).f0.toList = lane.toList ∧ (rd_T44 os i).f1 ≤ t ∧ t < (rd_T44 os i).f2)) := by
      unfold desk_answers_1.f
      by_cases ha : (rd_T44 os i).f0.toList = lane.toList <;> by_cases hb : (rd_T44 os i).f1 ≤ t <;> simp [ha, hb]
    by_cases hc : (rd_T44 os i).f0.toList = lane.toList ∧ (rd_T44 os i).f1 ≤ t ∧ t < (rd_T44 os i).f2
    · refine ⟨i, ?_, by rw [an, if_pos hc, decide_eq_true (by omega)]; rfl⟩
      refine Ev.succ ?_
      simp only [slices_IndexFunc__api_Outage_api_Outage_at_desk_answers_1.l0, ha]
      exact Ev.if_pos (by omega) (Ev.if_pos (by omega) (Ev.if_pos (by omega) (Ev.bind_some (Ev.if_pos (decide_eq_true hc) (Ev.now _)))))
    · refine ⟨r, ?_, by rw [an, if_neg hc, hr]⟩
      refine Ev.succ ?_
      simp only [slices_IndexFunc__api_Outage_api_Outage_at_desk_answers_1.l0, ha]
      rw [w64 (by omega) (by omega)]
      exact Ev.if_pos (by omega) (Ev.if_pos (by omega) (Ev.if_pos (by omega) (Ev.bind_some (Ev.if_neg (by simpa using hc) ih))))
theorem own_ans (os : List S44) (lane : ByteArray) (t : Int) (hl : os.length ≤ 1000) : Ev (fun k => desk_answers.f k os lane t) (ans os lane t) := by
  obtain ⟨r, h1, h2⟩ := own_an os lane t hl os.length 0 (by omega) (by omega)
  unfold ans
  rw [h2]
  unfold desk_answers.f slices_ContainsFunc__api_Outage_api_Outage_at_desk_answers_1.f slices_IndexFunc__api_Outage_api_Outage_at_desk_answers_1.f
  exact Ev.bind (Ev.bind h1 (Ev.now _)) (Ev.now _)
/-- Tries with these waits ahead, from this moment, as the n-th: how many, done, gave up, last. -/
def tr (os : List S44) (lane : ByteArray) : List Int → Int → Int → Int × Int × Int × Int
  | [], t, n => if ans os lane t = true then (n, t, -1, t) else (n, -1, t, t)
  | w :: ws, t, n => if ans os lane t = true then (n, t, -1, t) else tr os lane ws (t + w) (n + 1)
theorem tr_bd (os : List S44) (lane : ByteArray) : ∀ (ws : List Int) (t n : Int), 0 ≤ t → (∀ x ∈ ws, 1 ≤ x ∧ x ≤ 1000000) → t ≤ (tr os lane ws t n).2.2.2 ∧ -1 ≤ (tr os lane ws t n).2.1 ∧ (tr os lane ws t n).2.1 ≤ (tr os lane ws t n).2.2.2 ∧ -1 ≤ (tr os lane ws t n).2.2.1 ∧ (tr os lane ws t n).2.2.1 ≤ (tr os lane ws t n).2.2.2
  | [], t, n, h0, hw => by
    unfold tr
    split <;> (dsimp only; omega)
  | w :: ws, t, n, h0, hw => by
    unfold tr
    have := hw w (by simp)
    split
    · dsimp only; omega
    · have := tr_bd os lane ws (t + w) (n + 1) (by omega) (fun x hx => hw x (by simp [hx]))
      omega
theorem drop_rd (ws : List Int) (i : Int) (h0 : 0 ≤ i) (h : i < ws.length) : ws.drop i.toNat = rd ws i :: ws.drop (i + 1).toNat := by
  rw [show (i + 1).toNat = i.toNat + 1 by omega, List.drop_eq_getElem_cons (by omega)]
  unfold rd
  rw [List.getD_eq_getElem?_getD, List.getElem?_eq_getElem (by omega : i.toNat < ws.length)]
  rfl
theorem rd_bd {ws : List Int} (hw : ∀ x ∈ ws, 1 ≤ x ∧ x ≤ 1000000) {i : Int} (h0 : 0 ≤ i) (h1 : i < ws.length) : 1 ≤ rd ws i ∧ rd ws i ≤ 1000000 := by
  unfold rd
  rw [List.getD_eq_getElem?_getD, List.getElem?_eq_getElem (by omega : i.toNat < ws.length)]
  exact hw _ (List.getElem_mem _)
theorem own_tr (os : List S44) (lane : ByteArray) (hl : os.length ≤ 1000) (ws : List Int) (hn : ws.length ≤ 20) (hw : ∀ x ∈ ws, 1 ≤ x ∧ x ≤ 1000000) : ∀ (m : Nat) (t i : Int), (ws.length : Int) - i = m → 0 ≤ i → 0 ≤ t → t + m * 1000000 ≤ 9000000000000000 →
    ∃ q, Ev (fun k => desk_sending.l0 k ws os lane t i i (-1) (-1)) q ∧ (if (tr os lane (ws.drop i.toNat) t (i + 1)).2.2.2 > 2000000000000000 then q.2.2.2 = false else q = ((tr os lane (ws.drop i.toNat) t (i + 1)).1, (tr os lane (ws.drop i.toNat) t (i + 1)).2.1, (tr os lane (ws.drop i.toNat) t (i + 1)).2.2.1, true))
  | m, t, i, h1, h2, h3, h4 => by
    by_cases hbig : t > 2000000000000000
    · refine ⟨(i, -1, -1, false), ?_, ?_⟩
      · refine Ev.succ ?_
        simp only [desk_sending.l0]
        exact Ev.if_pos hbig (Ev.now _)
      · have := tr_bd os lane (ws.drop i.toNat) t (i + 1) h3 (fun x hx => hw x (List.mem_of_mem_drop hx))
        rw [if_pos (by omega)]
    by_cases ha : ans os lane t = true
    · have e : tr os lane (ws.drop i.toNat) t (i + 1) = (i + 1, t, -1, t) := by
        cases hd : ws.drop i.toNat <;> simp [tr, ha]
      refine ⟨(i + 1, t, -1, true), ?_, by rw [e, if_neg hbig]⟩
      refine Ev.succ ?_
      simp only [desk_sending.l0]
      rw [w64 (x := i + 1) (by omega) (by omega)]
      exact Ev.if_neg hbig (Ev.bind (own_ans os lane t hl) (Ev.if_pos ha (Ev.now _)))
    cases m with
    | zero =>
      have e : tr os lane (ws.drop i.toNat) t (i + 1) = (i + 1, -1, t, t) := by
        rw [List.drop_eq_nil_of_le (by omega)]; simp [tr, ha]
      refine ⟨(i + 1, -1, t, true), ?_, by rw [e, if_neg hbig]⟩
      refine Ev.succ ?_
      simp only [desk_sending.l0]
      rw [w64 (x := i + 1) (by omega) (by omega)]
      exact Ev.if_neg hbig (Ev.bind (own_ans os lane t hl) (Ev.if_neg ha (Ev.if_pos (by omega) (Ev.now _))))
    | succ m =>
      have hb := rd_bd hw h2 (by omega)
      obtain ⟨q, hq, he⟩ := own_tr os lane hl ws hn hw m (t + rd ws i) (i + 1) (by omega) (by omega) (by omega) (by omega)
      have e : tr os lane (ws.drop i.toNat) t (i + 1) = tr os lane (ws.drop (i + 1).toNat) (t + rd ws i) (i + 1 + 1) := by
        rw [drop_rd ws i h2 (by omega)]; simp [tr, ha]
      refine ⟨q, ?_, by rw [e]; exact he⟩
      refine Ev.succ ?_
      simp only [desk_sending.l0]
      rw [w64 (x := i + 1) (by omega) (by omega), w64 (x := t + rd ws i) (by omega) (by omega)]
      exact Ev.if_neg hbig (Ev.bind (own_ans os lane t hl) (Ev.if_neg ha (Ev.if_neg (by omega) (Ev.if_pos h2 (Ev.if_pos (by omega) hq)))))
theorem own_tries {p : S23} (h : right p = true) (os : List S44) (lane : ByteArray) (hl : os.length ≤ 1000) (t : Int) (h0 : 0 ≤ t) (h1 : t ≤ 3000000000000000) : ∃ q, Ev (fun k => desk_sending.f k (waits p) os lane t) q ∧
    (if (tr os lane (waits p) t 1).2.2.2 > 2000000000000000 then q.2.2.2 = false else q = ((tr os lane (waits p) t 1).1, (tr os lane (waits p) t 1).2.1, (tr os lane (waits p) t 1).2.2.1, true)) := by
  have hn := waits_len h
  exact own_tr os lane hl (waits p) hn (waits_bd h) (waits p).length t 0 (by omega) (by omega) h0 (by omega)
def bg (js : List S42) (acc : List S34) (lane : ByteArray) : Nat → Int → Int → Int
  | 0, _, a => a
  | m + 1, j, a => bg js acc lane m (j + 1) (if (rd_T42 js j).f0.toList = lane.toList then mx (mx a (rd_T34 acc j).f1) (rd_T34 acc j).f2 else a)
theorem bg_max (js : List S42) (acc : List S34) (lane : ByteArray) : ∀ (m : Nat) (j a b : Int), bg js acc lane m j (mx a b) = mx a (bg js acc lane m j b)
  | 0, j, a, b => rfl
  | m + 1, j, a, b => by
    unfold bg
    rw [← bg_max js acc lane m (j + 1)]
    congr 1
    split
    · simp only [mx_max]; omega
    · rfl
theorem bg_snoc (js : List S42) (acc : List S34) (lane : ByteArray) : ∀ (m : Nat) (j a : Int), bg js acc lane (m + 1) j a = if (rd_T42 js (j + m)).f0.toList = lane.toList then mx (mx (bg js acc lane m j a) (rd_T34 acc (j + m)).f1) (rd_T34 acc (j + m)).f2 else bg js acc lane m j a
  | 0, j, a => by simp [bg]
  | m + 1, j, a => by
    rw [bg, bg_snoc js acc lane m (j + 1), bg]
    have e : j + 1 + (m : Int) = j + ((m + 1 : Nat) : Int) := by omega
    rw [e]
theorem rd34_app (acc : List S34) (s : S34) {j : Int} (h0 : 0 ≤ j) (h1 : j < acc.length) : rd_T34 (acc ++ [s]) j = rd_T34 acc j := by
  unfold rd_T34
  rw [List.getD_eq_getElem?_getD, List.getD_eq_getElem?_getD, List.getElem?_append_left (by omega)]
theorem rd34_last (acc : List S34) (s : S34) {j : Int} (h : j = acc.length) : rd_T34 (acc ++ [s]) j = s := by
  subst h
  unfold rd_T34
  rw [List.getD_eq_getElem?_getD, show (acc.length : Int).toNat = acc.length by omega]
  simp
theorem bg_app (js : List S42) (acc : List S34) (s : S34) (lane : ByteArray) : ∀ (m : Nat) (j a : Int), 0 ≤ j → j + m ≤ acc.length → bg js (acc ++ [s]) lane m j a = bg js acc lane m j a
  | 0, j, a, _, _ => rfl
  | m + 1, j, a, h0, h1 => by
    unfold bg
    rw [rd34_app acc s h0 (by omega), bg_app js acc s lane m (j + 1) _ (by omega) (by omega)]
theorem look_put (m : PM ByteArray Int) (x y : ByteArray) (v z : Int) : PM.look (PM.put m x v) y z = if x.toList = y.toList then v else PM.look m y z := by
  unfold PM.look PM.put
  by_cases h : y = x
  · subst h; simp
  · rw [if_neg (fun e => h (toList_inj.1 e).symm)]; simp [h]
def ro : Option (List S34) → List S34 × Int
  | some l => (l, 0)
  | none => ([], 1)
theorem jl_times (js : List S42) : ∀ (m : Nat) (i : Int), (js.length : Int) - i = m → 0 ≤ i → jl js m i = 0 → ∀ j : Nat, i ≤ j → ∀ hj : j < js.length, 0 ≤ (js[j]).f1 ∧ (js[j]).f1 ≤ 1000000000000000
  | 0, i, h1, h2, h, j, hj, hj2 => by omega
  | m + 1, i, h1, h2, h, j, hj, hj2 => by
    unfold jl at h
    split at h
    · split at h
      · rename_i hn ht
        have hn : jl js m (i + 1) = 0 := by
          split at h
          · split at h
            · cases h
            · exact h
          · exact h
        by_cases e : i = j
        · subst e
          unfold rd_T42 at ht
          rw [List.getD_eq_getElem?_getD, Int.toNat_natCast, List.getElem?_eq_getElem hj2] at ht
          exact ht
        · exact jl_times js m (i + 1) (by omega) (by omega) hn j (by omega) hj2
      · cases h
    · cases h
theorem jobs_zero {js : List S42} (h : jobs js = 0) : js.length ≤ 1000 ∧ ∀ y ∈ js, 0 ≤ y.f1 ∧ y.f1 ≤ 1000000000000000 := by
  unfold jobs at h
  split at h
  · cases h
  · refine ⟨by omega, fun y hy => ?_⟩
    obtain ⟨j, hj, rfl⟩ := List.mem_iff_getElem.1 hy
    exact jl_times js js.length 0 (by omega) (by omega) h j (by omega) hj
theorem outs_zero {os : List S44} (h : outs os = 0) : os.length ≤ 1000 := by
  unfold outs at h
  split at h
  · cases h
  · omega


/-! ## The box of the program alone: each job's begin and what came of it -/
def beg (p : S23) (js : List S42) (l : List S34) (i : Nat) : Int := if p.f4 = true then bg js l (rd_T42 js i).f0 i 0 (rd_T42 js i).f1 else (rd_T42 js i).f1
def tri (p : S23) (js : List S42) (os : List S44) (l : List S34) (i : Nat) : Int × Int × Int × Int := tr os (rd_T42 js i).f0 (waits p) (beg p js l i) 1
def okAt (p : S23) (js : List S42) (os : List S44) (l : List S34) (i : Nat) : Prop :=
  0 ≤ beg p js l i ∧ beg p js l i ≤ 3000000000000000 ∧ (tri p js os l i).2.2.2 ≤ 2000000000000000 ∧ rd_T34 l i = ⟨(tri p js os l i).1, (tri p js os l i).2.1, (tri p js os l i).2.2.1⟩
theorem beg_app (p : S23) (js : List S42) (acc : List S34) (s : S34) {i : Nat} (h : i ≤ acc.length) : beg p js (acc ++ [s]) i = beg p js acc i := by
  unfold beg
  rw [bg_app js acc s _ i 0 _ (by omega) (by omega)]
theorem okAt_app {p : S23} {js : List S42} {os : List S44} {acc : List S34} {s : S34} {i : Nat} (hi : i < acc.length) (h : okAt p js os acc i) : okAt p js os (acc ++ [s]) i := by
  unfold okAt tri at *
  rw [beg_app p js acc s (by omega), rd34_app acc s (by omega) (by omega)]
  exact h
theorem own_box {p : S23} (h : right p = true) (js : List S42) (os : List S44) (hj : js.length ≤ 1000) (ho : os.length ≤ 1000) (hg : ∀ y ∈ js, g42 y) (ht : ∀ y ∈ js, 0 ≤ y.f1 ∧ y.f1 ≤ 1000000000000000) :
    ∀ (m : Nat) (acc : List S34) (mp : PM ByteArray Int), (js.length : Int) - acc.length = m → (∀ lane, PM.look mp lane 0 = bg js acc lane acc.length 0 0) → (∀ lane, 0 ≤ PM.look mp lane 0 ∧ PM.look mp lane 0 ≤ 2000000000000000) → mp.many ≤ acc.length → (∀ i : Nat, i < acc.length → okAt p js os acc i) →
    ∃ r : Option (List S34), Ev (fun k => desk_outbox.l0 k os acc (waits p) js js.length acc.length p.f0 p.f1 p.f2 p.f3 p.f4 mp) (ro r) ∧ ∀ l, r = some l → l.length = js.length ∧ ∀ i : Nat, i < l.length → okAt p js os l i
  | 0, acc, mp, h1, hinv, hbd, hmany, hok => by
    refine ⟨some acc, ?_, fun l hl => by cases hl; exact ⟨by omega, hok⟩⟩
    refine Ev.succ ?_
    simp only [desk_outbox.l0]
    exact Ev.if_neg (by omega) (Ev.now _)
  | m + 1, acc, mp, h1, hinv, hbd, hmany, hok => by
    have hi0 : (0 : Int) ≤ (acc.length : Int) := by omega
    have hi1 : (acc.length : Int) < js.length := by omega
    have hG := mem_rd42 hg hi0 hi1
    have hT := mem_rd42 ht hi0 hi1
    have hs : (rd_T42 js acc.length).f0.size ≤ 140737488351232 := hG.1
    have hbe : beg p js acc acc.length = if p.f4 = true then mx (rd_T42 js acc.length).f1 (PM.look mp (rd_T42 js acc.length).f0 0) else (rd_T42 js acc.length).f1 := by
      unfold beg
      split
      · rw [hinv, ← bg_max]
        congr 1
        rw [mx_max]; omega
      · rfl
    have htri : ∀ s, tri p js os (acc ++ [s]) acc.length = tr os (rd_T42 js acc.length).f0 (waits p) (beg p js acc acc.length) 1 := fun s => by
      unfold tri
      rw [beg_app p js acc s (by omega)]
    generalize hlane : (rd_T42 js acc.length).f0 = lane at *
    generalize hat : (rd_T42 js acc.length).f1 = a at *
    have hL := hbd lane
    have hba : ∀ s, beg p js (acc ++ [s]) acc.length = beg p js acc acc.length := fun s => beg_app p js acc s (by omega)
    generalize beg p js acc acc.length = b at *
    have hb0 : 0 ≤ b ∧ b ≤ 3000000000000000 := by
      rw [hbe]
      split
      · rw [mx_max]; omega
      · omega
    obtain ⟨q, hq, he⟩ := own_tries h os lane ho b hb0.1 hb0.2
    have hbt := tr_bd os lane (waits p) b 1 hb0.1 (waits_bd h)
    generalize tr os lane (waits p) b 1 = T at *
    obtain ⟨tn, td, tg, tl⟩ := T
    dsimp only at *
    by_cases hbig : tl > 2000000000000000
    · rw [if_pos hbig] at he
      obtain ⟨q0, q1, q2, q3⟩ := q
      dsimp only at he
      subst he
      refine ⟨none, ?_, fun l hl => by cases hl⟩
      refine Ev.succ ?_
      simp only [desk_outbox.l0, hlane, hat]
      refine Ev.if_pos hi1 (Ev.if_pos hi0 (Ev.if_pos hi1 ?_))
      by_cases hp : p.f4 = true
      · rw [if_pos hp] at hbe
        refine Ev.if_pos hp (Ev.if_pos (by omega) ?_)
        rw [← hbe]
        exact Ev.bind hq (Ev.if_neg (by simp) (Ev.now _))
      · rw [if_neg hp] at hbe
        refine Ev.if_neg hp ?_
        rw [← hbe]
        exact Ev.bind hq (Ev.if_neg (by simp) (Ev.now _))
    · rw [if_neg hbig] at he
      subst he
      have hv : 0 ≤ mx (mx (PM.look mp lane 0) td) tg ∧ mx (mx (PM.look mp lane 0) td) tg ≤ 2000000000000000 := by
        simp only [mx_max]; omega
      have hwf' : (Lit.int .i64 (mx (mx (PM.look mp lane 0) td) tg)).wf = true := wf64.2 ⟨by omega, by omega⟩
      obtain ⟨r, ih1, ih3⟩ := own_box h js os hj ho hg ht m (acc ++ [⟨tn, td, tg⟩]) (PM.put mp lane (mx (mx (PM.look mp lane 0) td) tg)) (by simp; omega) (fun ln => by
          rw [look_put, List.length_append, List.length_singleton, bg_snoc, Int.zero_add, bg_app _ _ _ _ _ _ _ (by omega) (by omega), rd34_last _ _ rfl, hlane]
          by_cases e : lane.toList = ln.toList
          · rw [if_pos e, if_pos e, toList_inj.1 e, hinv ln]
          · rw [if_neg e, if_neg e, hinv ln]) (fun ln => by
          rw [look_put]
          split
          · exact hv
          · exact hbd ln) (by simp [PM.put]; omega) (fun i hi => by
          rw [List.length_append, List.length_singleton] at hi
          by_cases e : i < acc.length
          · exact okAt_app e (hok i e)
          · obtain rfl : i = acc.length := by omega
            unfold okAt
            rw [htri, hba, rd34_last _ _ rfl]
            exact ⟨hb0.1, hb0.2, by show tl ≤ _; omega, rfl⟩)
      rw [List.length_append, List.length_singleton] at ih1
      have ec : ((acc.length + 1 : Nat) : Int) = (acc.length : Int) + 1 := by omega
      rw [ec] at ih1
      refine ⟨r, ?_, ih3⟩
      refine Ev.succ ?_
      simp only [desk_outbox.l0, hlane, hat]
      rw [w64 (x := (acc.length : Int) + 1) (by omega) (by omega)]
      refine Ev.if_pos hi1 (Ev.if_pos hi0 (Ev.if_pos hi1 ?_))
      by_cases hp : p.f4 = true
      · rw [if_pos hp] at hbe
        refine Ev.if_pos hp (Ev.if_pos (by omega) ?_)
        rw [← hbe]
        exact Ev.bind hq (Ev.if_pos rfl (Ev.if_pos hwf' (Ev.if_pos (by omega) (Ev.if_pos (by omega) ih1))))
      · rw [if_neg hp] at hbe
        refine Ev.if_neg hp ?_
        rw [← hbe]
        exact Ev.bind hq (Ev.if_pos rfl (Ev.if_pos (by omega) (Ev.if_pos hwf' (Ev.if_pos (by omega) (Ev.if_pos (by omega) ih1)))))

/-- A box that was made: all its facts. -/
structure Made (p : S23) (js : List S42) (os : List S44) (l : List S34) : Prop where
  right : right p = true
  jobs : jobs js = 0
  outs : outs os = 0
  box : Ev (fun k => desk_outbox.f k p.f0 p.f1 p.f2 p.f3 p.f4 js os) (l, 0)
  len : l.length = js.length
  ok : ∀ i : Nat, i < l.length → okAt p js os l i
theorem own_fault (p : S23) (js : List S42) (os : List S44) (hg : ∀ y ∈ js, g42 y) (hh : ∀ y ∈ os, g44 y) : Ev (fun k => desk_boxFault.f k p.f0 p.f1 p.f2 p.f3 p.f4 js os) (if right p = true then (if jobs js = 0 then outs os else jobs js) else 1) := by
  unfold desk_boxFault.f
  simp only [own_check, Option.bind_some]
  by_cases h : right p = true
  · simp only [if_pos h, if_true]
    by_cases hj : jobs js = 0
    · rw [if_pos hj]
      exact Ev.bind (own_jobs js hg) (Ev.if_pos hj (Ev.bind (own_outs os hh) (Ev.now _)))
    · rw [if_neg hj]
      exact Ev.bind (own_jobs js hg) (Ev.if_neg hj (Ev.now _))
  · simp only [if_neg h]
    exact Ev.if_neg (by decide) (Ev.now _)
theorem own_Outbox (p : S23) (js : List S42) (os : List S44) (hg : ∀ y ∈ js, g42 y) (hh : ∀ y ∈ os, g44 y) : ∃ (l : List S34) (e : Int), Ev (fun k => desk_Outbox.f k p.f0 p.f1 p.f2 p.f3 p.f4 js os) (l, e) ∧ (e = 0 → Made p js os l) ∧ (e ≠ 0 → l = []) := by
  have hF := own_fault p js os hg hh
  unfold desk_Outbox.f
  by_cases hf : (if right p = true then (if jobs js = 0 then outs os else jobs js) else 1) = 0
  · have h : right p = true := by
      by_cases h : right p = true
      · exact h
      · rw [if_neg h] at hf; cases hf
    have hj : jobs js = 0 := by
      rw [if_pos h] at hf
      by_cases hj : jobs js = 0
      · exact hj
      · rw [if_neg hj] at hf; exact hf
    have ho : outs os = 0 := by rw [if_pos h, if_pos hj] at hf; exact hf
    obtain ⟨hjl, hjt⟩ := jobs_zero hj
    have hol := outs_zero ho
    obtain ⟨r, r1, r3⟩ := own_box h js os hjl hol hg hjt js.length [] PM.nil (by simp) (fun lane => rfl) (fun lane => by simp [PM.look, PM.nil]) (by simp [PM.nil]) (fun i hi => by simp at hi)
    have hb : Ev (fun k => desk_outbox.f k p.f0 p.f1 p.f2 p.f3 p.f4 js os) (ro r) := by
      unfold desk_outbox.f
      exact Ev.bind (own_Wl h) r1
    refine ⟨(ro r).1, (ro r).2, Ev.bind hF (Ev.if_pos hf (Ev.bind hb (Ev.now _))), ?_, ?_⟩
    · intro e
      cases r with
      | none => cases e
      | some l => exact ⟨h, hj, ho, hb, (r3 l rfl).1, (r3 l rfl).2⟩
    · intro e
      cases r with
      | none => rfl
      | some l => exact absurd rfl e
  · exact ⟨[], _, Ev.bind hF (Ev.if_neg hf (Ev.now _)), fun e => absurd e hf, fun _ => rfl⟩

/-! ## What tries come to -/
def sm : List Int → Int
  | [] => 0
  | x :: r => x + sm r
theorem sm_bd : ∀ (ws : List Int), (∀ x ∈ ws, 1 ≤ x ∧ x ≤ 1000000) → 0 ≤ sm ws ∧ sm ws ≤ ws.length * 1000000
  | [], _ => by simp [sm]
  | w :: ws, h => by
    have h1 := h w (by simp)
    have h2 := sm_bd ws (fun x hx => h x (by simp [hx]))
    simp only [sm, List.length_cons]
    omega
theorem tr_end (os : List S44) (lane : ByteArray) : ∀ (ws : List Int) (t n : Int), 0 ≤ t → (∀ x ∈ ws, 1 ≤ x ∧ x ≤ 1000000) →
    (∃ d c : Int, tr os lane ws t n = (c, d, -1, d) ∧ ans os lane d = true ∧ t ≤ d ∧ d ≤ t + sm ws ∧ n ≤ c ∧ c ≤ n + ws.length ∧ (c = n → d = t)) ∨ (∃ g : Int, tr os lane ws t n = (n + ws.length, -1, g, g) ∧ g = t + sm ws ∧ ans os lane g ≠ true ∧ ans os lane t ≠ true)
  | [], t, n, h0, hw => by
    by_cases ha : ans os lane t = true
    · exact .inl ⟨t, n, by simp [tr, ha], ha, by omega, by simp [sm], by omega, by simp, fun _ => rfl⟩
    · exact .inr ⟨t, by simp [tr, ha], by simp [sm], ha, ha⟩
  | w :: ws, t, n, h0, hw => by
    have h1 := hw w (by simp)
    have h2 := sm_bd (w :: ws) hw
    by_cases ha : ans os lane t = true
    · refine .inl ⟨t, n, by simp [tr, ha], ha, by omega, by omega, by omega, by simp; omega, fun _ => rfl⟩
    · rcases tr_end os lane ws (t + w) (n + 1) (by omega) (fun x hx => hw x (by simp [hx])) with ⟨d, c, e, hd, h3, h4, h5, h6, h7⟩ | ⟨g, e, h3, h4, h5⟩
      · refine .inl ⟨d, c, by rw [← e]; simp [tr, ha], hd, by omega, by simp only [sm]; omega, by omega, by simp only [List.length_cons]; omega, fun e => by omega⟩
      · refine .inr ⟨g, ?_, by simp only [sm]; omega, h4, ha⟩
        have e2 : tr os lane (w :: ws) t n = tr os lane ws (t + w) (n + 1) := by simp [tr, ha]
        rw [e2, e]
        simp only [List.length_cons]
        congr 1
        omega


/-! ## What is pending, and the order of a lane -/
theorem rd42_list {js : List S42} {P : S42 → Prop} (h : ∀ y ∈ js, P y) {i : Int} (h0 : 0 ≤ i) (h1 : i < js.length) : P (rd_T42 js i) := mem_rd42 h h0 h1
def pd (js : List S42) (l : List S34) (time : Int) : Nat → List Int → Int → List Int
  | 0, acc, _ => acc
  | m + 1, acc, i => if (rd_T42 js i).f1 ≤ time ∧ mx (rd_T34 l i).f1 (rd_T34 l i).f2 > time then pd js l time m (acc ++ [i]) (i + 1) else pd js l time m acc (i + 1)
theorem pd_len (js : List S42) (l : List S34) (time : Int) : ∀ (m : Nat) (acc : List Int) (i : Int), (pd js l time m acc i).length ≤ acc.length + m
  | 0, acc, i => by simp [pd]
  | m + 1, acc, i => by
    unfold pd
    split
    · have := pd_len js l time m (acc ++ [i]) (i + 1)
      simp at this; omega
    · have := pd_len js l time m acc (i + 1)
      omega
theorem pd_mem (js : List S42) (l : List S34) (time : Int) (x : Int) : ∀ (m : Nat) (acc : List Int) (i : Int), x ∈ pd js l time m acc i ↔ x ∈ acc ∨ (i ≤ x ∧ x < i + m ∧ (rd_T42 js x).f1 ≤ time ∧ mx (rd_T34 l x).f1 (rd_T34 l x).f2 > time)
  | 0, acc, i => by
    simp only [pd]
    constructor
    · exact .inl
    · rintro (h | ⟨h1, h2, _⟩)
      · exact h
      · omega
  | m + 1, acc, i => by
    unfold pd
    split
    · rename_i hc
      rw [pd_mem js l time x m, List.mem_append, List.mem_singleton]
      constructor
      · rintro ((h | rfl) | ⟨h1, h2, h3⟩)
        · exact .inl h
        · exact .inr ⟨by omega, by omega, hc⟩
        · exact .inr ⟨by omega, by omega, h3⟩
      · rintro (h | ⟨h1, h2, h3⟩)
        · exact .inl (.inl h)
        · by_cases e : x = i
          · exact .inl (.inr e)
          · exact .inr ⟨by omega, by omega, h3⟩
    · rename_i hc
      rw [pd_mem js l time x m]
      constructor
      · rintro (h | ⟨h1, h2, h3⟩)
        · exact .inl h
        · exact .inr ⟨by omega, by omega, h3⟩
      · rintro (h | ⟨h1, h2, h3⟩)
        · exact .inl h
        · by_cases e : x = i
          · subst e; exact absurd h3 hc
          · exact .inr ⟨by omega, by omega, h3⟩
theorem own_pd (js : List S42) (l : List S34) (time : Int) (hl : l.length = js.length) (hj : js.length ≤ 1000) : ∀ (m : Nat) (acc : List Int) (i : Int), (l.length : Int) - i = m → 0 ≤ i → acc.length + m ≤ 1000 → Ev (fun k => desk_PendingAt.l0 k js time acc l l.length i) (pd js l time m acc i, 0)
  | 0, acc, i, h1, h2, h3 => by
    refine Ev.succ ?_
    simp only [desk_PendingAt.l0]
    exact Ev.if_neg (by omega) (Ev.now _)
  | m + 1, acc, i, h1, h2, h3 => by
    have ih0 := own_pd js l time hl hj m acc (i + 1) (by omega) (by omega) (by omega)
    have ih1 := own_pd js l time hl hj m (acc ++ [i]) (i + 1) (by omega) (by omega) (by simp; omega)
    refine Ev.succ ?_
    simp only [desk_PendingAt.l0, pd]
    rw [w64 (by omega) (by omega)]
    refine Ev.if_pos (by omega) (Ev.if_pos (by omega) (Ev.if_pos (by omega) (Ev.if_pos (by omega) ?_)))
    by_cases ha : (rd_T42 js i).f1 ≤ time
    · refine Ev.if_pos ha ?_
      by_cases hb : mx (rd_T34 l i).f1 (rd_T34 l i).f2 > time
      · rw [if_pos ⟨ha, hb⟩]; exact Ev.if_pos hb (Ev.if_pos (by omega) ih1)
      · rw [if_neg (fun h => hb h.2)]; exact Ev.if_neg hb ih0
    · rw [if_neg (fun h => ha h.1)]; exact Ev.if_neg ha ih0
theorem own_PendingAt {p : S23} {js : List S42} {os : List S44} {l : List S34} (hM : Made p js os l) (hg : ∀ y ∈ js, g42 y) (hh : ∀ y ∈ os, g44 y) (time : Int) :
    ∃ (q : List Int) (e : Int), Ev (fun k => desk_PendingAt.f k p.f0 p.f1 p.f2 p.f3 p.f4 js os time) (q, e) ∧ (e = 0 → q = pd js l time l.length [] 0) := by
  have hF := own_fault p js os hg hh
  rw [if_pos hM.right, if_pos hM.jobs, hM.outs] at hF
  have hjl := (jobs_zero hM.jobs).1
  have hl := hM.len
  unfold desk_PendingAt.f
  simp only [out_eq, Option.bind_some]
  by_cases ht : 0 ≤ time ∧ time ≤ 2000000000000000
  · refine ⟨pd js l time l.length [] 0, 0, ?_, fun _ => rfl⟩
    exact Ev.bind hF (Ev.if_pos rfl (Ev.if_neg (by simpa using ht) (Ev.bind hM.box (Ev.if_pos rfl (own_pd js l time hl hjl l.length [] 0 (by omega) (by omega) (by simp; omega))))))
  · refine ⟨[], 1, ?_, fun e => by cases e⟩
    exact Ev.bind hF (Ev.if_pos rfl (Ev.if_pos (decide_eq_true ht) (Ev.now _)))
theorem ev_index (l : List Int) (x : Int) (hl : l.length ≤ 1000000) : ∀ (m : Nat) (i : Int), (l.length : Int) - i = m → 0 ≤ i → ∃ r : Int, Ev (fun k => slices_Index__int_int.l0 k l x l.length i) r ∧ (0 ≤ r ↔ x ∈ l.drop i.toNat)
  | 0, i, h1, h2 => by
    refine ⟨-1, ?_, ?_⟩
    · refine Ev.succ ?_
      simp only [slices_Index__int_int.l0]
      exact Ev.if_neg (by omega) (Ev.now _)
    · rw [List.drop_eq_nil_of_le (by omega)]
      simp
  | m + 1, i, h1, h2 => by
    obtain ⟨r, h3, h4⟩ := ev_index l x hl m (i + 1) (by omega) (by omega)
    by_cases e : x = rd l i
    · refine ⟨i, ?_, ?_⟩
      · refine Ev.succ ?_
        simp only [slices_Index__int_int.l0]
        exact Ev.if_pos (by omega) (Ev.if_pos h2 (Ev.if_pos (by omega) (Ev.if_pos e (Ev.now _))))
      · rw [drop_rd l i h2 (by omega)]
        simp [e, h2]
    · refine ⟨r, ?_, ?_⟩
      · refine Ev.succ ?_
        simp only [slices_Index__int_int.l0]
        rw [w64 (by omega) (by omega)]
        exact Ev.if_pos (by omega) (Ev.if_pos h2 (Ev.if_pos (by omega) (Ev.if_neg e h3)))
      · rw [drop_rd l i h2 (by omega), List.mem_cons, h4]
        simp [e]
theorem ev_contains (l : List Int) (x : Int) (hl : l.length ≤ 1000000) : Ev (fun k => slices_Contains__int_int.f k l x) (decide (x ∈ l)) := by
  obtain ⟨r, h1, h2⟩ := ev_index l x hl l.length 0 (by omega) (by omega)
  unfold slices_Contains__int_int.f slices_Index__int_int.f
  refine Ev.bind h1 ?_
  have e : decide (x ∈ l) = decide (r ≥ 0) := decide_eq_decide.2 (by have := h2; simp at this; exact this.symm)
  rw [e]
  exact Ev.now _
theorem bg_ge (js : List S42) (acc : List S34) (lane : ByteArray) : ∀ (m : Nat) (j a : Int), a ≤ bg js acc lane m j a
  | 0, j, a => by simp [bg]
  | m + 1, j, a => by
    unfold bg
    have := bg_ge js acc lane m (j + 1) (if (rd_T42 js j).f0.toList = lane.toList then mx (mx a (rd_T34 acc j).f1) (rd_T34 acc j).f2 else a)
    split at this
    · rename_i e
      rw [if_pos e]
      simp only [mx_max] at *
      omega
    · rename_i e
      rw [if_neg e]
      exact this
theorem bg_one (js : List S42) (acc : List S34) (lane : ByteArray) : ∀ (m : Nat) (j a x : Int), j ≤ x → x < j + m → (rd_T42 js x).f0.toList = lane.toList → mx (rd_T34 acc x).f1 (rd_T34 acc x).f2 ≤ bg js acc lane m j a
  | 0, j, a, x, h1, h2, h3 => by omega
  | m + 1, j, a, x, h1, h2, h3 => by
    unfold bg
    by_cases e : x = j
    · subst e
      rw [if_pos h3]
      have := bg_ge js acc lane m (x + 1) (mx (mx a (rd_T34 acc x).f1) (rd_T34 acc x).f2)
      simp only [mx_max] at *
      omega
    · exact bg_one js acc lane m (j + 1) _ x (by omega) (by omega) h3
theorem end_ge {p : S23} {js : List S42} {os : List S44} {l : List S34} (hM : Made p js os l) {i : Nat} (hi : i < l.length) : beg p js l i ≤ mx (rd_T34 l i).f1 (rd_T34 l i).f2 := by
  obtain ⟨h0, h1, h2, h3⟩ := hM.ok i hi
  rw [h3]
  unfold tri at *
  rcases tr_end os (rd_T42 js i).f0 (waits p) (beg p js l i) 1 h0 (waits_bd hM.right) with ⟨d, c, e, _, h4, _⟩ | ⟨g, e, h4, _⟩
  · rw [e]
    simp only [mx_max]; omega
  · rw [e]
    have := sm_bd (waits p) (waits_bd hM.right)
    simp only [mx_max]; omega
theorem in_order {p : S23} {js : List S42} {os : List S44} {l : List S34} (hM : Made p js os l) (hp : p.f4 = true) {i : Nat} (hi : i < l.length) {x : Int} (h0 : 0 ≤ x) (h1 : x < i) (h2 : (rd_T42 js x).f0.toList = (rd_T42 js i).f0.toList) : mx (rd_T34 l x).f1 (rd_T34 l x).f2 ≤ mx (rd_T34 l i).f1 (rd_T34 l i).f2 := by
  refine Int.le_trans ?_ (end_ge hM hi)
  unfold beg
  rw [if_pos hp]
  exact bg_one js l _ i 0 _ x h0 (by omega) h2

section
variable {p : S23} {js : List S42} {os : List S44} {l : List S34} (hM : Made p js os l) (hg : ∀ y ∈ js, g42 y) (hh : ∀ y ∈ os, g44 y) (time later : Int)
include hM in
theorem loop2 (a b : List Int) (ha : a = pd js l time l.length [] 0) (hb : b = pd js l later l.length [] 0) (ht : time ≤ later) : ∀ (m : Nat) (i : Int), (a.length : Int) - i = m → 0 ≤ i → Ev (fun k => interchangelaw12_DeskQueuesStayInOrder.l2 k time later l b a a.length i) true
  | 0, i, h1, h2 => by
    refine Ev.succ ?_
    simp only [interchangelaw12_DeskQueuesStayInOrder.l2]
    exact Ev.if_neg (by omega) (Ev.bind works_true (Ev.now _))
  | m + 1, i, h1, h2 => by
    have ih := loop2 a b ha hb ht m (i + 1) (by omega) (by omega)
    have hjl := (jobs_zero hM.jobs).1
    have hl := hM.len
    have hal : a.length ≤ 1000 := by rw [ha]; have := pd_len js l time l.length [] 0; simp at this; omega
    have hbl : b.length ≤ 1000 := by rw [hb]; have := pd_len js l later l.length [] 0; simp at this; omega
    have hx : rd a i ∈ a := by
      unfold rd
      rw [List.getD_eq_getElem?_getD, List.getElem?_eq_getElem (by omega : i.toNat < a.length)]
      exact List.getElem_mem _
    have hxa := hx
    rw [ha, pd_mem] at hxa
    rcases hxa with hxa | ⟨x0, x1, x2, x3⟩
    · simp at hxa
    rw [← ha] at x0 x1 x2 x3
    have hxb : rd a i ∈ b ↔ mx (rd_T34 l (rd a i)).f1 (rd_T34 l (rd a i)).f2 > later := by
      rw [hb, pd_mem]
      constructor
      · rintro (h | ⟨_, _, _, h⟩)
        · simp at h
        · exact h
      · intro h
        exact .inr ⟨x0, x1, by omega, h⟩
    refine Ev.succ ?_
    simp only [interchangelaw12_DeskQueuesStayInOrder.l2]
    refine Ev.if_pos (by omega) (Ev.if_pos h2 (Ev.if_pos (by omega) (Ev.if_neg (by omega) ?_)))
    rw [decide_eq_false (by omega)]
    refine Ev.succ ?_
    simp only [interchangelaw12_DeskQueuesStayInOrder.j4]
    rw [w64 (by omega) (by omega)]
    refine Ev.if_neg (by simp) (Ev.if_pos x0 (Ev.if_pos (by omega) (Ev.bind (ev_contains b _ (by omega)) (Ev.if_neg ?_ (Ev.if_neg (by omega) ih)))))
    rw [show decide (rd a i ∈ b) = decide (mx (rd_T34 l (rd a i)).f1 (rd_T34 l (rd a i)).f2 > later) from decide_eq_decide.2 hxb]
    simp
include hM in
theorem loop1 (N x38 : Int) (x37 : List S34) (i : Nat) (hi : i < l.length) (f0 f1 f2 : Int) (hf : mx f1 f2 = mx (rd_T34 l i).f1 (rd_T34 l i).f2) {r : Bool} (hk : Ev (fun k => interchangelaw12_DeskQueuesStayInOrder.l0 k js os time later l x37 x38 (wrap64 (N + 1)) p.f0 p.f1 p.f2 p.f3 p.f4) r) : ∀ (m : Nat) (j : Int), (i : Int) - j = m → 0 ≤ j →
    Ev (fun k => interchangelaw12_DeskQueuesStayInOrder.l1 k js os time later l i x37 x38 N i j p.f0 p.f1 p.f2 p.f3 p.f4 f0 f1 f2) r
  | 0, j, h1, h2 => by
    refine Ev.succ ?_
    simp only [interchangelaw12_DeskQueuesStayInOrder.l1]
    exact Ev.if_neg (by omega) hk
  | m + 1, j, h1, h2 => by
    have hjl := (jobs_zero hM.jobs).1
    have hl := hM.len
    have ih := loop1 N x38 x37 i hi f0 f1 f2 hf hk m (j + 1) (by omega) (by omega)
    refine Ev.succ ?_
    simp only [interchangelaw12_DeskQueuesStayInOrder.l1]
    rw [w64 (x := j + 1) (by omega) (by omega)]
    refine Ev.if_pos (by omega) ?_
    by_cases hp : p.f4 = true
    · refine Ev.if_pos hp (Ev.if_pos h2 (Ev.if_pos (by omega) (Ev.if_pos (by omega) (Ev.if_pos (by omega) ?_))))
      by_cases hc : (rd_T42 js j).f0.toList = (rd_T42 js i).f0.toList
      · refine Ev.if_pos hc (Ev.if_pos (by omega) (Ev.if_neg ?_ ih))
        have := in_order hM hp hi h2 (by omega) hc
        omega
      · exact Ev.if_neg hc ih
    · exact Ev.if_neg hp ih
include hM hg hh in
theorem loop0 : ∀ (m : Nat) (i : Nat), l.length - i = m → i ≤ l.length → Ev (fun k => interchangelaw12_DeskQueuesStayInOrder.l0 k js os time later l l l.length i p.f0 p.f1 p.f2 p.f3 p.f4) true
  | 0, i, h1, h2 => by
    obtain ⟨a, ea, ha, ha2⟩ := own_PendingAt hM hg hh time
    obtain ⟨b, eb, hb, hb2⟩ := own_PendingAt hM hg hh later
    refine Ev.succ ?_
    simp only [interchangelaw12_DeskQueuesStayInOrder.l0]
    refine Ev.if_neg (by omega) (Ev.bind ha (Ev.bind hb ?_))
    have hw : Ev (fun k => interchangelaw12_DeskQueuesStayInOrder.j2 k time later l a b true) true := by
      refine Ev.succ ?_
      simp only [interchangelaw12_DeskQueuesStayInOrder.j2, if_true]
      exact Ev.bind works_true (Ev.now _)
    by_cases e1 : ea = 0
    · refine Ev.if_pos e1 ?_
      by_cases e2 : eb = 0
      · refine Ev.if_pos e2 ?_
        by_cases ht : later < time
        · rw [decide_eq_true ht]; exact hw
        · rw [decide_eq_false ht]
          refine Ev.succ ?_
          simp only [interchangelaw12_DeskQueuesStayInOrder.j2, Bool.false_eq_true, if_false]
          exact loop2 hM time later a b (ha2 e1) (hb2 e2) (by omega) a.length 0 (by omega) (by omega)
      · exact Ev.if_neg e2 hw
    · exact Ev.if_neg e1 hw
  | m + 1, i, h1, h2 => by
    have hjl := (jobs_zero hM.jobs).1
    have hl := hM.len
    have ih := loop0 m (i + 1) (by omega) (by omega)
    refine Ev.succ ?_
    simp only [interchangelaw12_DeskQueuesStayInOrder.l0]
    refine Ev.if_pos (by omega) (Ev.if_pos (by omega) (Ev.if_pos (by omega) ?_))
    refine loop1 hM time later i l.length l i (by omega) _ _ _ rfl ?_ i 0 (by omega) (by omega)
    rw [w64 (by omega) (by omega)]
    exact ih
end
theorem DeskQueuesStayInOrder : DeskQueuesStayInOrderPure := by
  intro p js os time later _ hj ho _ _
  obtain ⟨l, e, h1, h2, h3⟩ := own_Outbox p js os hj.2 ho.2
  refine Ev.rounds ?_
  unfold interchangelaw12_DeskQueuesStayInOrder.f
  refine Ev.bind h1 ?_
  by_cases he : e = 0
  · exact Ev.if_pos he (loop0 (h2 he) hj.2 ho.2 time later l.length 0 (by omega) (by omega))
  · refine Ev.if_neg he ?_
    rw [h3 he]
    exact Ev.if_pos rfl (Ev.bind works_true (Ev.now _))

end Go.Proofs.YtemokeankdgfeaaDoor.Pure
