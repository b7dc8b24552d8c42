/- The waits of a policy, its patience and its errors are the same in the program and in the reference, for every policy. -/
import Derived.Test.YtemokeankdgfeaaODeskWaitsMatchSpec
namespace Go.Proofs.Ytemokeankdgfeaa.Pure
open Go.RowKit Go.Proofs.Ytemokeankdgfeaa.PDeskWaitsMatchSpec Go.Proofs.YtemokeankdgfeaaW.PrintWords Go.Proofs.YtemokeankdgfeaaW.PrintLast Go.Proofs.YtemokeankdgfeaaW.PrintMore Go.Proofs.Ytemokeankdgfeaa.ODeskWaitsMatchSpec
set_option linter.unusedVariables false
set_option linter.unusedSimpArgs false

theorem w64 {x : Int} (h0 : -9223372036854775808 ≤ x) (h1 : x ≤ 9223372036854775807) : wrap64 x = x := by unfold wrap64; omega
theorem mn_min (a b : Int) : mn a b = min a b := by unfold mn; split <;> omega

def wl (f most : Int) : Nat → Int → List Int
  | 0, _ => []
  | m + 1, n => n :: wl f most m (min (n * f) most)

theorem wl_length (f most : Int) : ∀ m n, (wl f most m n).length = m
  | 0, _ => rfl
  | m + 1, n => by simp [wl, wl_length f most m]

theorem next_bd {n f most : Int} (h1 : 1 ≤ n) (h2 : n ≤ 1000000) (h3 : 1 ≤ f) (h4 : f ≤ 10) : 1 ≤ n * f ∧ n * f ≤ 10000000 := by
  have a : n * 1 ≤ n * f := Int.mul_le_mul_of_nonneg_left h3 (by omega)
  have b : n * f ≤ n * 10 := Int.mul_le_mul_of_nonneg_left h4 (by omega)
  omega

theorem ref_waits (f most x0 x3 : Int) (b : Bool) (hf : 1 ≤ f ∧ f ≤ 10) (hm : 1 ≤ most ∧ most ≤ 1000000) : ∀ (m : Nat) (acc : List Int) (n e i : Int), e - i = m → 0 ≤ i → e ≤ 20 → acc.length + m ≤ 100 → 1 ≤ n → n ≤ 1000000 →
    Ev (fun k => interchangeref12_waits.l0 k acc n e i x0 f most x3 b) (acc ++ wl f most m n)
  | 0, acc, n, e, i, h1, h2, h3, h4, h5, h6 => by
    refine Ev.step (f := fun _ => some acc) (fun k => ?_) ?_
    · simp only [interchangeref12_waits.l0]; rw [if_neg (by omega)]
    · simpa [wl] using Ev.now acc
  | m + 1, acc, n, e, i, h1, h2, h3, h4, h5, h6 => by
    have hb := next_bd (most := most) h5 h6 hf.1 hf.2
    refine Ev.step (f := fun k => interchangeref12_waits.l0 k (acc ++ [n]) (min (n * f) most) e (i + 1) x0 f most x3 b) (fun k => ?_) ?_
    · simp only [interchangeref12_waits.l0]; rw [if_pos (by omega), if_pos (by omega), w64 (by omega) (by omega), w64 (by omega) (by omega), mn_min, Int.min_comm]
    · have := ref_waits f most x0 x3 b hf hm m (acc ++ [n]) (min (n * f) most) e (i + 1) (by omega) (by omega) h3 (by simp; omega) (by omega) (by omega)
      simpa [wl] using this

theorem own_waits (f most x0 x3 : Int) (b : Bool) (hf : 1 ≤ f ∧ f ≤ 10) (hm : 1 ≤ most ∧ most ≤ 1000000) : ∀ (m : Nat) (acc : List Int) (n e i : Int), e - i = m → 0 ≤ i → e ≤ 20 → acc.length + m ≤ 100 → 1 ≤ n → n ≤ 1000000 →
    Ev (fun k => desk_waits.l0 k acc n e i x0 f most x3 b) (acc ++ wl f most m n)
  | 0, acc, n, e, i, h1, h2, h3, h4, h5, h6 => by
    refine Ev.step (f := fun _ => some acc) (fun k => ?_) ?_
    · simp only [desk_waits.l0]; rw [if_neg (by omega)]
    · simpa [wl] using Ev.now acc
  | m + 1, acc, n, e, i, h1, h2, h3, h4, h5, h6 => by
    have hb := next_bd (most := most) h5 h6 hf.1 hf.2
    refine Ev.step (f := fun k => desk_waits.l0 k (acc ++ [n]) (min (n * f) most) e (i + 1) x0 f most x3 b) (fun k => ?_) ?_
    · simp only [desk_waits.l0]; rw [if_pos (by omega), if_pos (by omega), w64 (by omega) (by omega), w64 (by omega) (by omega), mn_min]
    · have := own_waits f most x0 x3 b hf hm m (acc ++ [n]) (min (n * f) most) e (i + 1) (by omega) (by omega) h3 (by simp; omega) (by omega) (by omega)
      simpa [wl] using this

theorem equal_same (l : List Int) : ∀ (m : Nat) (i : Int), (l.length : Int) - i = m → 0 ≤ i → l.length ≤ 1000000 → Ev (fun k => slices_Equal_int_int.l0 k l l l.length i) true
  | 0, i, h1, h2, h3 => Ev.step (f := fun _ => some true) (fun k => by simp only [slices_Equal_int_int.l0]; rw [if_neg (by omega)]) (Ev.now true)
  | m + 1, i, h1, h2, h3 => by
    refine Ev.step (f := fun k => slices_Equal_int_int.l0 k l l l.length (i + 1)) (fun k => ?_) (equal_same l m (i + 1) (by omega) (by omega) h3)
    simp only [slices_Equal_int_int.l0, if_true]; rw [if_pos (by omega), if_pos h2, if_pos (by omega), if_pos (by omega), w64 (by omega) (by omega)]
theorem equal_self (l : List Int) (h : l.length ≤ 1000000) : Ev (fun k => slices_Equal_int_int.f k l l) true := by
  refine Ev.congr (f := fun k => slices_Equal_int_int.l0 k l l l.length 0) (fun k => ?_) (equal_same l l.length 0 (by omega) (by omega) h)
  unfold slices_Equal_int_int.f; rw [if_pos rfl]

def right (p : S23) : Bool := decide (1 ≤ p.f0 ∧ p.f0 ≤ 1000000) && decide (1 ≤ p.f1 ∧ p.f1 ≤ 10) && decide (p.f0 ≤ p.f2 ∧ p.f2 ≤ 1000000) && decide (1 ≤ p.f3 ∧ p.f3 ≤ 20)
theorem right_iff {p : S23} : right p = true ↔ (1 ≤ p.f0 ∧ p.f0 ≤ 1000000) ∧ (1 ≤ p.f1 ∧ p.f1 ≤ 10) ∧ (p.f0 ≤ p.f2 ∧ p.f2 ≤ 1000000) ∧ (1 ≤ p.f3 ∧ p.f3 ≤ 20) := by
  unfold right; simp only [Bool.and_eq_true, decide_eq_true_eq]; exact ⟨fun h => ⟨h.1.1.1, h.1.1.2, h.1.2, h.2⟩, fun h => ⟨⟨⟨h.1, h.2.1⟩, h.2.2.1⟩, h.2.2.2⟩⟩

theorem in_eq (a b c : Int) : interchangeref12_in.f a b c = some (decide (b ≤ a ∧ a ≤ c)) := by
  unfold interchangeref12_in.f
  by_cases h : b ≤ a <;> simp [h]
theorem ref_check (p : S23) : interchangeref12_CheckPolicy.f p.f0 p.f1 p.f2 p.f3 p.f4 = some (if right p = true then 0 else 1) := by
  unfold interchangeref12_CheckPolicy.f
  simp only [in_eq, Option.bind_some, decide_eq_true_eq, right_iff]
  by_cases a : 1 ≤ p.f0 ∧ p.f0 ≤ 1000000 <;> by_cases b : 1 ≤ p.f1 ∧ p.f1 ≤ 10 <;> by_cases c : p.f0 ≤ p.f2 ∧ p.f2 ≤ 1000000 <;> by_cases d : 1 ≤ p.f3 ∧ p.f3 ≤ 20 <;> simp only [a, b, c, d, if_true, if_false, and_true, true_and, and_false, false_and]
theorem out_eq (a b c : Int) : kit_Outside.f a b c = some (decide ¬ (b ≤ a ∧ a ≤ c)) := by
  unfold kit_Outside.f
  by_cases h : a < b
  · rw [if_pos h, decide_eq_true (by omega)]
  · rw [if_neg h]; congr 1; exact decide_eq_decide.2 (by omega)
theorem own_check (p : S23) : desk_CheckPolicy.f p.f0 p.f1 p.f2 p.f3 p.f4 = some (if right p = true then 0 else 1) := by
  unfold desk_CheckPolicy.f
  simp only [out_eq, Option.bind_some, decide_eq_true_eq, right_iff]
  by_cases a : 1 ≤ p.f0 ∧ p.f0 ≤ 1000000 <;> by_cases b : 1 ≤ p.f1 ∧ p.f1 ≤ 10 <;> by_cases c : p.f0 ≤ p.f2 ∧ p.f2 ≤ 1000000 <;> by_cases d : 1 ≤ p.f3 ∧ p.f3 ≤ 20 <;> simp only [a, b, c, d, if_true, if_false, and_true, true_and, and_false, false_and, not_true, not_false_iff]

def waits (p : S23) : List Int := wl p.f1 p.f2 (p.f3 - 1).toNat p.f0
theorem ref_Waits (p : S23) : Ev (fun k => interchangeref12_Waits.f k p.f0 p.f1 p.f2 p.f3 p.f4) (if right p = true then (waits p, 0) else ([], 1)) := by
  unfold interchangeref12_Waits.f
  simp only [ref_check, Option.bind_some]
  by_cases h : right p = true
  · obtain ⟨h0, h1, h2, h3⟩ := right_iff.1 h
    simp only [h, if_true]
    refine Ev.bind (a := waits p) ?_ (Ev.now _)
    unfold interchangeref12_waits.f
    rw [w64 (by omega) (by omega)]
    exact ref_waits p.f1 p.f2 p.f0 p.f3 p.f4 h1 (by omega) (p.f3 - 1).toNat [] p.f0 (p.f3 - 1) 0 (by omega) (by omega) (by omega) (by simp; omega) (by omega) (by omega)
  · simp only [h, if_false]
    exact Ev.now _
theorem own_Waits (p : S23) : Ev (fun k => desk_Waits.f k p.f0 p.f1 p.f2 p.f3 p.f4) (if right p = true then (waits p, 0) else ([], 1)) := by
  unfold desk_Waits.f
  simp only [own_check, Option.bind_some]
  by_cases h : right p = true
  · obtain ⟨h0, h1, h2, h3⟩ := right_iff.1 h
    simp only [h, if_true]
    refine Ev.bind (a := waits p) ?_ (Ev.now _)
    unfold desk_waits.f
    rw [w64 (by omega) (by omega)]
    exact own_waits p.f1 p.f2 p.f0 p.f3 p.f4 h1 (by omega) (p.f3 - 1).toNat [] p.f0 (p.f3 - 1) 0 (by omega) (by omega) (by omega) (by simp; omega) (by omega) (by omega)
  · simp only [h, if_false]
    exact Ev.now _

/-- A sum as the machine takes it. -/
def sumw (l : List Int) : Nat → Int → Int → Int
  | 0, s, _ => s
  | m + 1, s, i => sumw l m (wrap64 (s + rd l i)) (i + 1)
theorem ref_sum (l : List Int) (hl : l.length ≤ 1000) : ∀ (m : Nat) (s i : Int), (l.length : Int) - i = m → 0 ≤ i → Ev (fun k => interchangeref12_Patience.l0 k s l l.length i) (sumw l m s i, 0)
  | 0, s, i, h1, h2 => Ev.step (f := fun _ => some (s, 0)) (fun k => by simp only [interchangeref12_Patience.l0]; rw [if_neg (by omega)]) (Ev.now _)
  | m + 1, s, i, h1, h2 => by
    refine Ev.step (f := fun k => interchangeref12_Patience.l0 k (wrap64 (s + rd l i)) l l.length (i + 1)) (fun k => ?_) (ref_sum l hl m _ (i + 1) (by omega) (by omega))
    simp only [interchangeref12_Patience.l0]; rw [if_pos (by omega), if_pos h2, if_pos (by omega), w64 (x := i + 1) (by omega) (by omega)]
theorem own_sum (l : List Int) (hl : l.length ≤ 1000) : ∀ (m : Nat) (s i : Int), (l.length : Int) - i = m → 0 ≤ i → Ev (fun k => desk_Patience.l0 k s l l.length i) (sumw l m s i, 0)
  | 0, s, i, h1, h2 => Ev.step (f := fun _ => some (s, 0)) (fun k => by simp only [desk_Patience.l0]; rw [if_neg (by omega)]) (Ev.now _)
  | m + 1, s, i, h1, h2 => by
    refine Ev.step (f := fun k => desk_Patience.l0 k (wrap64 (s + rd l i)) l l.length (i + 1)) (fun k => ?_) (own_sum l hl m _ (i + 1) (by omega) (by omega))
    simp only [desk_Patience.l0]; rw [if_pos (by omega), if_pos h2, if_pos (by omega), w64 (x := i + 1) (by omega) (by omega)]
def pat (p : S23) : Int × Int := if right p = true then (sumw (waits p) (waits p).length 0 0, 0) else (0, 1)
theorem waits_len {p : S23} (h : right p = true) : (waits p).length ≤ 1000 := by
  obtain ⟨h0, h1, h2, h3⟩ := right_iff.1 h
  unfold waits; rw [wl_length]; omega
theorem ref_Patience (p : S23) : Ev (fun k => interchangeref12_Patience.f k p.f0 p.f1 p.f2 p.f3 p.f4) (pat p) := by
  unfold interchangeref12_Patience.f pat
  simp only [ref_check, Option.bind_some]
  by_cases h : right p = true
  · obtain ⟨h0, h1, h2, h3⟩ := right_iff.1 h
    simp only [h, if_true]
    refine Ev.bind (a := waits p) ?_ (ref_sum (waits p) (waits_len h) _ 0 0 (by omega) (by omega))
    unfold interchangeref12_waits.f
    rw [w64 (by omega) (by omega)]
    exact ref_waits p.f1 p.f2 p.f0 p.f3 p.f4 h1 (by omega) (p.f3 - 1).toNat [] p.f0 (p.f3 - 1) 0 (by omega) (by omega) (by omega) (by simp; omega) (by omega) (by omega)
  · simp only [h, if_false]
    exact Ev.now _
theorem own_Patience (p : S23) : Ev (fun k => desk_Patience.f k p.f0 p.f1 p.f2 p.f3 p.f4) (pat p) := by
  unfold desk_Patience.f pat
  simp only [own_check, Option.bind_some]
  by_cases h : right p = true
  · obtain ⟨h0, h1, h2, h3⟩ := right_iff.1 h
    simp only [h, if_true]
    refine Ev.bind (a := waits p) ?_ (own_sum (waits p) (waits_len h) _ 0 0 (by omega) (by omega))
    unfold desk_waits.f
    rw [w64 (by omega) (by omega)]
    exact own_waits p.f1 p.f2 p.f0 p.f3 p.f4 h1 (by omega) (p.f3 - 1).toNat [] p.f0 (p.f3 - 1) 0 (by omega) (by omega) (by omega) (by simp; omega) (by omega) (by omega)
  · simp only [h, if_false]
    exact Ev.now _

theorem works_true : Ev (fun k => interchangelaw12_works.f k) true := by
  unfold interchangelaw12_works.f
  have h := own_Waits ⟨5, 3, 20, 4, false⟩
  rw [show (if right ⟨5, 3, 20, 4, false⟩ = true then (waits ⟨5, 3, 20, 4, false⟩, (0 : Int)) else ([], 1)) = ([5, 15, 20], 0) by decide] at h
  refine Ev.bind h ?_
  simp only [if_true]
  exact Ev.bind (equal_self [5, 15, 20] (by decide)) (Ev.now _)

theorem DeskWaitsMatchSpec : DeskWaitsMatchSpecPure := by
  intro p _
  refine Ev.rounds ?_
  unfold interchangelaw12_DeskWaitsMatchSpec.f
  refine Ev.bind (ref_Waits p) (Ev.bind (own_Waits p) ?_)
  simp only [ref_check, own_check, Option.bind_some, if_true]
  have hl : (if right p = true then (waits p, (0 : Int)) else ([], 1)).1.length ≤ 1000000 := by
    by_cases h : right p = true
    · simp only [h, if_true]; have := waits_len h; omega
    · simp [h]
  refine Ev.bind (equal_self _ hl) ?_
  refine Ev.step (f := fun k => (interchangeref12_Patience.f k p.f0 p.f1 p.f2 p.f3 p.f4).bind fun bt163 => ((desk_Patience.f k p.f0 p.f1 p.f2 p.f3 p.f4).bind fun bt165 => (if bt165.2 = bt163.2 then (if bt165.1 = bt163.1 then ((interchangelaw12_works.f k).bind fun t167 => (some t167)) else (some false)) else (some false)))) (fun k => ?_) ?_
  · simp only [interchangelaw12_DeskWaitsMatchSpec.j0, Bool.not_true, Bool.false_eq_true, if_false]
  · refine Ev.bind (ref_Patience p) (Ev.bind (own_Patience p) ?_)
    simp only [if_true]
    exact Ev.bind works_true (Ev.now _)
end Go.Proofs.Ytemokeankdgfeaa.Pure
