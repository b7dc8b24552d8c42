/- Heading, and ReadHeading for any bytes, are as the reference has them, and marks are read as they were written. -/
import Derived.Test.YtgafgpnbignfdaaDoorOWireHeadingsMatchSpec
import Derived.Test.YtgafgpnbignfdaaDoorCm
namespace Go.Proofs.YtgafgpnbignfdaaDoor.Pure
open Go.RowKit Go.Proofs.YtgafgpnbignfdaaDoor.PWireHeadingsMatchSpec Go.Proofs.YtgafgpnbignfdaaDoorW.PrintWords Go.Proofs.YtgafgpnbignfdaaDoorW.PrintLast Go.Proofs.YtgafgpnbignfdaaDoorW.PrintMore Go.Proofs.YtgafgpnbignfdaaDoor.OWireHeadingsMatchSpec Go.Proofs.YtgafgpnbignfdaaDoor.Cm
set_option linter.unusedVariables false
set_option linter.unusedSimpArgs false
theorem Ev.succ {α : Type} {g : Nat → Option α} {r : α} (k : Ev (fun n => g (n + 1)) r) : Ev g r := Ev.step (fun _ => rfl) k

theorem Ev.ite {α : Type} {c : Prop} [Decidable c] {a b : α} : Ev (fun _ => if c then some a else some b) (if c then a else b) := by split <;> exact Ev.now _

/-! ## What can be a mark -/
def mk (n : Int) : Bool := decide ((33 ≤ n ∧ n ≤ 126) ∧ n ≠ 46 ∧ n ≠ 45 ∧ n ≠ 43 ∧ n ≠ 95 ∧ ¬ (65 ≤ n ∧ n ≤ 90) ∧ ¬ (97 ≤ n ∧ n ≤ 122) ∧ ¬ (48 ≤ n ∧ n ≤ 57))
theorem ref_mark (n : Int) : interchangeref2_mark.f n = some (mk n) := by
  unfold interchangeref2_mark.f mk
  repeat' split
  all_goals first | (congr 1; symm; first | exact decide_eq_true (by omega) | exact decide_eq_false (by omega)) | skip
  all_goals
    congr 1
    rename_i h
    first
    | (rw [decide_eq_true (p := n ≤ 57) (by omega)]; symm; exact decide_eq_false (by omega))
    | skip
  all_goals
    by_cases h57 : n ≤ 57
    · rw [decide_eq_true h57]; symm; exact decide_eq_false (by omega)
    · rw [decide_eq_false h57]; symm; exact decide_eq_true (by omega)
theorem enc_one (n : Int) (h0 : 0 ≤ n) (h1 : n < 128) : Utf8.encode n = ⟨#[UInt8.ofNat n.toNat]⟩ := by
  unfold Utf8.encode
  have hv : Utf8.valid n = true := by simp [Utf8.valid]; omega
  simp only [hv, if_true]
  rw [if_pos (by omega)]
set_option maxRecDepth 100000 in
theorem tag_okn : ∀ n : Nat, n < 128 → ([65, 66, 67, 68, 69, 70, 71, 72, 73, 74, 75, 76, 77, 78, 79, 80, 81, 82, 83, 84, 85, 86, 87, 88, 89, 90, 48, 49, 50, 51, 52, 53, 54, 55, 56, 57] : List UInt8).contains (UInt8.ofNat n) = decide ((65 ≤ n ∧ n ≤ 90) ∨ (48 ≤ n ∧ n ≤ 57)) := by decide
set_option maxRecDepth 100000 in
theorem any_okn : ∀ n : Nat, n < 128 → Lib.containsAny [UInt8.ofNat n] [46, 45, 43, 95] = decide (n = 46 ∨ n = 45 ∨ n = 43 ∨ n = 95) := by decide
theorem bt_one (b : UInt8) : bt ⟨#[b]⟩ 0 = (b.toNat : Int) := by
  unfold bt
  rw [dif_pos (show (0 : Int).toNat < (⟨#[b]⟩ : ByteArray).size from Nat.zero_lt_one)]
  rfl
theorem own_mark (n : Int) : Ev (fun k => wire_isMarkByte.f k n) (mk n) := by
  unfold wire_isMarkByte.f
  by_cases h0 : n ≥ 33
  · refine Ev.if_pos h0 ?_
    by_cases h1 : n ≤ 126
    · refine Ev.if_pos h1 ?_
      rw [enc_one n (by omega) (by omega)]
      have hN : n.toNat < 128 := by omega
      have hb : (UInt8.ofNat n.toNat).toNat = n.toNat := by simp; omega
      have ht : kit_IsTagPart.f ⟨#[UInt8.ofNat n.toNat]⟩ = some (decide ((65 ≤ n.toNat ∧ n.toNat ≤ 90) ∨ (48 ≤ n.toNat ∧ n.toNat ≤ 57))) := by
        unfold kit_IsTagPart.f strings_Trim.f
        rw [if_pos ⟨by simp [ByteArray.size], by decide, by decide⟩, Option.bind_some]
        congr 1
        rw [Bool.eq_iff_iff, beq_iff_eq, Lib.toList_data, ← tag_okn n.toNat hN]
        show Lib.trimS _ _ = [] ↔ _
        rw [trim_nil]
        simp
      have hin : Ev (fun k => kit_InBytes.f k ⟨#[UInt8.ofNat n.toNat]⟩ 97 122) (decide (97 ≤ n ∧ n ≤ 122)) := by
        unfold kit_InBytes.f
        have hs : ((⟨#[UInt8.ofNat n.toNat]⟩ : ByteArray).size : Int) = 1 := rfl
        rw [hs]
        refine Ev.succ ?_
        simp only [kit_InBytes.l0]
        rw [bt_one, hb, hs, w64 (x := 0 + 1) (by decide) (by decide)]
        refine Ev.if_pos (by decide) (Ev.if_pos (by decide) (Ev.if_pos (by decide) ?_))
        by_cases ha : (n.toNat : Int) < 97
        · rw [decide_eq_false (by omega)]
          exact Ev.if_pos ha (Ev.now _)
        · refine Ev.if_neg ha ?_
          by_cases hc : (n.toNat : Int) > 122
          · rw [decide_eq_false (by omega)]
            exact Ev.if_pos hc (Ev.now _)
          · refine Ev.if_neg hc ?_
            rw [decide_eq_true (by omega)]
            refine Ev.succ ?_
            simp only [kit_InBytes.l0]
            exact Ev.if_neg (by decide) (Ev.now _)
      have hca : strings_ContainsAny.f ⟨#[UInt8.ofNat n.toNat]⟩ ⟨#[46, 45, 43, 95]⟩ = some (decide (n.toNat = 46 ∨ n.toNat = 45 ∨ n.toNat = 43 ∨ n.toNat = 95)) := by
        unfold strings_ContainsAny.f
        rw [if_pos ⟨show 1 < 4294967281 by decide, by decide, by simp only [List.all_cons, List.all_nil, Bool.and_true, hb]; exact decide_eq_true (by omega), by decide⟩]
        congr 1
        exact any_okn n.toNat hN
      rw [ht]
      refine Ev.bind_some ?_
      by_cases h2 : (65 ≤ n.toNat ∧ n.toNat ≤ 90) ∨ (48 ≤ n.toNat ∧ n.toNat ≤ 57)
      · rw [show mk n = false from decide_eq_false (by omega)]
        exact Ev.if_pos (decide_eq_true h2) (Ev.now _)
      · refine Ev.if_neg (by rw [decide_eq_false h2]; simp) (Ev.bind hin ?_)
        by_cases h3 : 97 ≤ n ∧ n ≤ 122
        · rw [show mk n = false from decide_eq_false (by omega)]
          exact Ev.if_pos (decide_eq_true h3) (Ev.now _)
        · refine Ev.if_neg (by rw [decide_eq_false h3]; simp) ?_
          rw [hca]
          refine Ev.bind_some ?_
          by_cases h4 : n.toNat = 46 ∨ n.toNat = 45 ∨ n.toNat = 43 ∨ n.toNat = 95
          · rw [show mk n = false from decide_eq_false (by omega), decide_eq_true h4]
            exact Ev.now _
          · rw [show mk n = true from decide_eq_true (by omega), decide_eq_false h4]
            exact Ev.now _
    · rw [show mk n = false from decide_eq_false (by omega)]
      exact Ev.if_neg h1 (Ev.now _)
  · rw [show mk n = false from decide_eq_false (by omega)]
    exact Ev.if_neg h0 (Ev.now _)

/-! ## Marks that are right -/
def fr (xs : List Int) : Nat → Int → Int
  | 0, _ => 0
  | m + 1, i => if (xs.take i.toNat).contains (rd xs i) = true then 7 else fr xs m (i + 1)
def ck (e p r s n : Int) : Int := if mk e = true ∧ mk p = true ∧ mk r = true ∧ mk n = true ∧ (s = 0 ∨ mk s = true) then fr [e, p, r, s, n] 5 0 else 3
theorem drop_rd (ws : List Int) (i : Int) (h0 : 0 ≤ i) (h : i < ws.length) : ws.drop i.toNat = rd ws i :: ws.drop (i + 1).toNat := by
  rw [show (i + 1).toNat = i.toNat + 1 by omega, List.drop_eq_getElem_cons (by omega)]
  unfold rd
  rw [List.getD_eq_getElem?_getD, List.getElem?_eq_getElem (by omega : i.toNat < ws.length)]
  rfl
theorem ref_inner (xs : List Int) (hl : xs.length ≤ 1000) (i : Int) (h0 : 0 ≤ i) (hi : i < xs.length) {r : Int} (hk : Ev (fun k => interchangeref2_CheckMarks.l0 k xs (wrap64 (i + 1))) r) : ∀ (m : Nat) (j : Int), i - j = m → 0 ≤ j →
    Ev (fun k => interchangeref2_CheckMarks.l1 k xs i j) (if ((xs.take i.toNat).drop j.toNat).contains (rd xs i) = true then 7 else r)
  | 0, j, h1, h2 => by
    rw [List.drop_eq_nil_of_le (by simp; omega)]
    refine Ev.succ ?_
    simp only [interchangeref2_CheckMarks.l1]
    refine Ev.if_neg (by omega) ?_
    simpa using hk
  | m + 1, j, h1, h2 => by
    have ih := ref_inner xs hl i h0 hi hk m (j + 1) (by omega) (by omega)
    have ht : ((xs.take i.toNat).length : Int) = i := by simp; omega
    have hr : rd (xs.take i.toNat) j = rd xs j := by
      unfold rd
      rw [List.getD_eq_getElem?_getD, List.getD_eq_getElem?_getD, List.getElem?_take, if_pos (by omega)]
    rw [drop_rd _ j h2 (by omega), hr]
    refine Ev.succ ?_
    simp only [interchangeref2_CheckMarks.l1]
    rw [w64 (x := j + 1) (by omega) (by omega)]
    refine Ev.if_pos (by omega) (Ev.if_pos h0 (Ev.if_pos hi (Ev.if_pos h2 (Ev.if_pos (by omega) ?_))))
    by_cases e : rd xs i = rd xs j
    · rw [if_pos (by simp [e])]
      exact Ev.if_pos e (Ev.now _)
    · refine Ev.if_neg e ?_
      have hc : (rd xs j :: (xs.take i.toNat).drop (j + 1).toNat).contains (rd xs i) = ((xs.take i.toNat).drop (j + 1).toNat).contains (rd xs i) := by
        rw [List.contains_cons]
        simp [e]
      rw [hc]
      exact ih
theorem ref_fr (xs : List Int) (hl : xs.length ≤ 1000) : ∀ (m : Nat) (i : Int), (xs.length : Int) - i = m → 0 ≤ i → Ev (fun k => interchangeref2_CheckMarks.l0 k xs i) (fr xs m i)
  | 0, i, h1, h2 => by
    refine Ev.succ ?_
    simp only [interchangeref2_CheckMarks.l0]
    exact Ev.if_neg (by omega) (Ev.now _)
  | m + 1, i, h1, h2 => by
    have ih := ref_fr xs hl m (i + 1) (by omega) (by omega)
    refine Ev.succ ?_
    simp only [interchangeref2_CheckMarks.l0, fr]
    refine Ev.if_pos (by omega) ?_
    have h := ref_inner xs hl i h2 (by omega) (r := fr xs m (i + 1)) (by rw [w64 (by omega) (by omega)]; exact ih) i.toNat 0 (by omega) (by omega)
    simpa using h
theorem ref_CheckMarks (e p r s n : Int) : Ev (fun k => interchangeref2_CheckMarks.f k e p r s n) (ck e p r s n) := by
  unfold interchangeref2_CheckMarks.f
  simp only [ref_mark, Option.bind_some]
  have jt : ck e p r s n = 3 → Ev (fun k => interchangeref2_CheckMarks.j0 k true e p r s n) (ck e p r s n) := fun h => by
    rw [h]
    refine Ev.succ ?_
    simp only [interchangeref2_CheckMarks.j0, if_true]
    exact Ev.now _
  by_cases h1 : mk e = true
  · refine Ev.if_pos h1 ?_
    by_cases h2 : mk p = true
    · refine Ev.if_pos h2 ?_
      by_cases h3 : mk r = true
      · refine Ev.if_pos h3 ?_
        by_cases h4 : mk n = true
        · refine Ev.if_pos h4 ?_
          have jf : ck e p r s n = fr [e, p, r, s, n] 5 0 → Ev (fun k => interchangeref2_CheckMarks.j0 k false e p r s n) (ck e p r s n) := fun h => by
            rw [h]
            refine Ev.succ ?_
            simp only [interchangeref2_CheckMarks.j0, Bool.false_eq_true, if_false]
            exact ref_fr [e, p, r, s, n] (by simp) 5 0 (by simp) (by decide)
          by_cases h5 : s = 0
          · exact Ev.if_pos h5 (jf (by unfold ck; rw [if_pos ⟨h1, h2, h3, h4, .inl h5⟩]))
          · refine Ev.if_neg h5 ?_
            by_cases h6 : mk s = true
            · rw [h6]
              exact jf (by unfold ck; rw [if_pos ⟨h1, h2, h3, h4, .inr h6⟩])
            · rw [Bool.eq_false_iff.2 h6]
              exact jt (by unfold ck; rw [if_neg (fun h => h.2.2.2.2.elim h5 h6)])
        · exact Ev.if_neg h4 (jt (by unfold ck; rw [if_neg (fun h => h4 h.2.2.2.1)]))
      · exact Ev.if_neg h3 (jt (by unfold ck; rw [if_neg (fun h => h3 h.2.2.1)]))
    · exact Ev.if_neg h2 (jt (by unfold ck; rw [if_neg (fun h => h2 h.2.1)]))
  · exact Ev.if_neg h1 (jt (by unfold ck; rw [if_neg (fun h => h1 h.1)]))
theorem ev_index (l : List Int) (x : Int) (hl : l.length ≤ 1000000) : ∀ (m : Nat) (i : Int), (l.length : Int) - i = m → 0 ≤ i → ∃ r : Int, Ev (fun k => slices_Index__byte_byte.l0 k l x l.length i) r ∧ (0 ≤ r ↔ x ∈ l.drop i.toNat)
  | 0, i, h1, h2 => by
    refine ⟨-1, ?_, ?_⟩
    · refine Ev.succ ?_
      simp only [slices_Index__byte_byte.l0]
      exact Ev.if_neg (by omega) (Ev.now _)
    · rw [List.drop_eq_nil_of_le (by omega)]
      simp
  | m + 1, i, h1, h2 => by
    obtain ⟨r, h3, h4⟩ := ev_index l x hl m (i + 1) (by omega) (by omega)
    by_cases e : x = rd l i
    · refine ⟨i, ?_, ?_⟩
      · refine Ev.succ ?_
        simp only [slices_Index__byte_byte.l0]
        exact Ev.if_pos (by omega) (Ev.if_pos h2 (Ev.if_pos (by omega) (Ev.if_pos e (Ev.now _))))
      · rw [drop_rd l i h2 (by omega)]
        simp [e, h2]
    · refine ⟨r, ?_, ?_⟩
      · refine Ev.succ ?_
        simp only [slices_Index__byte_byte.l0]
        rw [w64 (by omega) (by omega)]
        exact Ev.if_pos (by omega) (Ev.if_pos h2 (Ev.if_pos (by omega) (Ev.if_neg e h3)))
      · rw [drop_rd l i h2 (by omega), List.mem_cons, h4]
        simp [e]
theorem ev_contains (l : List Int) (x : Int) (hl : l.length ≤ 1000000) : Ev (fun k => slices_Contains__byte_byte.f k l x) (l.contains x) := by
  obtain ⟨r, h1, h2⟩ := ev_index l x hl l.length 0 (by omega) (by omega)
  unfold slices_Contains__byte_byte.f slices_Index__byte_byte.f
  refine Ev.bind h1 ?_
  have e : l.contains x = decide (r ≥ 0) := by
    rw [Bool.eq_iff_iff, List.contains_iff_mem, decide_eq_true_eq]
    have := h2; simp at this; exact this.symm
  rw [e]
  exact Ev.now _
theorem own_fr (all xs : List Int) (s : Int) (hx : xs = all ++ [s]) (hl : xs.length ≤ 1000) : ∀ (m : Nat) (i : Int), (xs.length : Int) - i = m → 0 ≤ i → Ev (fun k => wire_CheckMarks.l1 k all xs xs.length i) (fr xs m i)
  | 0, i, h1, h2 => by
    refine Ev.succ ?_
    simp only [wire_CheckMarks.l1]
    exact Ev.if_neg (by omega) (Ev.now _)
  | m + 1, i, h1, h2 => by
    have ih := own_fr all xs s hx hl m (i + 1) (by omega) (by omega)
    have ha : (xs.length : Int) = all.length + 1 := by rw [hx]; simp
    have hm : mn i (all.length : Int) = i := by rw [mn_min]; omega
    have ht : all.take i.toNat = xs.take i.toNat := by
      rw [hx, List.take_append_of_le_length (by omega)]
    refine Ev.succ ?_
    simp only [wire_CheckMarks.l1, fr]
    rw [hm, ht, w64 (by omega) (by omega)]
    refine Ev.if_pos (by omega) (Ev.if_pos h2 (Ev.if_pos (by omega) (Ev.if_pos h2 (Ev.if_pos (by omega) (Ev.bind (ev_contains _ _ (by simp; omega)) ?_)))))
    by_cases e : (xs.take i.toNat).contains (rd xs i) = true
    · rw [if_pos e]; exact Ev.if_pos e (Ev.now _)
    · rw [if_neg e]; exact Ev.if_neg e ih
theorem fr_five (a b c d e : Int) : fr [a, b, c, d, e] 5 0 = if b = a ∨ c = a ∨ c = b ∨ d = a ∨ d = b ∨ d = c ∨ e = a ∨ e = b ∨ e = c ∨ e = d then 7 else 0 := by
  simp only [fr, rd, List.getD_eq_getElem?_getD]
  simp
  by_cases h1 : b = a <;> by_cases h2 : c = a <;> by_cases h3 : c = b <;> by_cases h4 : d = a <;> by_cases h5 : d = b <;> by_cases h6 : d = c <;> by_cases h7 : e = a <;> by_cases h8 : e = b <;> by_cases h9 : e = c <;> by_cases h10 : e = d <;> simp [h1, h2, h3, h4, h5, h6, h7, h8, h9, h10]
theorem own_loop (e p r s n : Int) (all : List Int) (ha : all = [e, p, r, n]) : ∀ (m : Nat) (i : Int), (all.length : Int) - i = m → 0 ≤ i → (∀ j : Int, 0 ≤ j → j < i → mk (rd all j) = true) → Ev (fun k => wire_CheckMarks.l0 k all all all.length i e p r s n) (ck e p r s n)
  | 0, i, h1, h2, h3 => by
    have hlen : (all.length : Int) = 4 := by rw [ha]; rfl
    have he : mk e = true := by have := h3 0 (by decide) (by omega); rw [ha] at this; exact this
    have hp : mk p = true := by have := h3 1 (by decide) (by omega); rw [ha] at this; exact this
    have hr : mk r = true := by have := h3 2 (by decide) (by omega); rw [ha] at this; exact this
    have hn : mk n = true := by have := h3 3 (by decide) (by omega); rw [ha] at this; exact this
    have jf : ck e p r s n = fr [e, p, r, s, n] 5 0 → Ev (fun k => wire_CheckMarks.j1 k all false e p r s n) (ck e p r s n) := fun h => by
      have e1 : fr [e, p, r, s, n] 5 0 = fr (all ++ [s]) 5 0 := by
        rw [ha]
        show _ = fr [e, p, r, n, s] 5 0
        rw [fr_five, fr_five]
        by_cases hc : p = e ∨ r = e ∨ r = p ∨ s = e ∨ s = p ∨ s = r ∨ n = e ∨ n = p ∨ n = r ∨ n = s
        · rw [if_pos hc, if_pos (by omega)]
        · rw [if_neg hc, if_neg (by omega)]
      rw [h, e1]
      refine Ev.succ ?_
      simp only [wire_CheckMarks.j1, Bool.false_eq_true, if_false, Option.bind_some]
      exact own_fr all (all ++ [s]) s rfl (by simp; omega) 5 0 (by simp; omega) (by decide)
    refine Ev.succ ?_
    simp only [wire_CheckMarks.l0]
    refine Ev.if_neg (by omega) ?_
    by_cases h5 : s = 0
    · exact Ev.if_pos h5 (jf (by unfold ck; rw [if_pos ⟨he, hp, hr, hn, .inl h5⟩]))
    · refine Ev.if_neg h5 (Ev.bind (own_mark s) ?_)
      by_cases h6 : mk s = true
      · rw [h6]
        exact jf (by unfold ck; rw [if_pos ⟨he, hp, hr, hn, .inr h6⟩])
      · rw [Bool.eq_false_iff.2 h6]
        have hc : ck e p r s n = 3 := by unfold ck; rw [if_neg (fun h => h.2.2.2.2.elim h5 h6)]
        rw [hc]
        refine Ev.succ ?_
        simp only [wire_CheckMarks.j1, Bool.not_false, if_true]
        exact Ev.now _
  | m + 1, i, h1, h2, h3 => by
    have hlen : (all.length : Int) = 4 := by rw [ha]; rfl
    refine Ev.succ ?_
    simp only [wire_CheckMarks.l0]
    rw [w64 (by omega) (by omega)]
    refine Ev.if_pos (by omega) (Ev.if_pos h2 (Ev.if_pos (by omega) (Ev.bind (own_mark _) ?_)))
    by_cases hm : mk (rd all i) = true
    · refine Ev.if_pos hm (own_loop e p r s n all ha m (i + 1) (by omega) (by omega) (fun j hj hj2 => ?_))
      by_cases hji : j = i
      · subst hji; exact hm
      · exact h3 j hj (by omega)
    · have hc : ck e p r s n = 3 := by
        unfold ck
        rw [if_neg]
        rintro ⟨he, hp, hr, hn, _⟩
        rw [ha] at hm
        rcases (by omega : i = 0 ∨ i = 1 ∨ i = 2 ∨ i = 3) with rfl | rfl | rfl | rfl
        · exact hm he
        · exact hm hp
        · exact hm hr
        · exact hm hn
      rw [hc]
      exact Ev.if_neg hm (Ev.now _)
theorem own_CheckMarks (e p r s n : Int) : Ev (fun k => wire_CheckMarks.f k e p r s n) (ck e p r s n) := by
  unfold wire_CheckMarks.f
  refine Ev.bind_some ?_
  exact own_loop e p r s n [e, p, r, n] rfl 4 0 (by simp) (by decide) (fun j h0 h1 => by omega)
def hd (e p r s n : Int) : List Int := [77, 82, 75, e, p, r, if s = 0 then 32 else s, n]
theorem own_Heading (e p r s n : Int) : Ev (fun k => wire_Heading.f k e p r s n) (if ck e p r s n = 0 then (hd e p r s n, 0) else ([], ck e p r s n)) := by
  unfold wire_Heading.f
  refine Ev.bind (own_CheckMarks e p r s n) ?_
  by_cases h : ck e p r s n = 0
  · rw [show (if ck e p r s n = 0 then (hd e p r s n, (0 : Int)) else ([], ck e p r s n)) = (hd e p r s n, 0) from if_pos h]
    refine Ev.if_pos h ?_
    by_cases hs : s = 0
    · exact Ev.if_pos hs (by simp only [hd, if_pos hs]; exact Ev.now _)
    · exact Ev.if_neg hs (by simp only [hd, if_neg hs]; exact Ev.now _)
  · rw [show (if ck e p r s n = 0 then (hd e p r s n, (0 : Int)) else ([], ck e p r s n)) = ([], ck e p r s n) from if_neg h]
    exact Ev.if_neg h (Ev.now _)
theorem awake_true : Ev (fun k => interchangelaw2_awake.f k) true := by
  unfold interchangelaw2_awake.f
  have h := own_Heading 42 58 94 63 126
  rw [show ck 42 58 94 63 126 = 0 by decide, if_pos rfl] at h
  refine Ev.bind h (Ev.if_pos rfl ?_)
  rw [show ((strOfNums (hd 42 58 94 63 126)).toList == ([77, 82, 75, 42, 58, 94, 63, 126] : List UInt8)) = true by rw [Lib.toList_data]; decide]
  exact Ev.now _


/-! ## Headings -/
theorem ref_Heading (e p r s n : Int) : Ev (fun k => interchangeref2_Heading.f k e p r s n) (if ck e p r s n = 0 then (hd e p r s n, 0) else ([], ck e p r s n)) := by
  unfold interchangeref2_Heading.f interchangeref2_heading.f
  refine Ev.bind (ref_CheckMarks e p r s n) ?_
  by_cases h : ck e p r s n = 0
  · rw [show (if ck e p r s n = 0 then (hd e p r s n, (0 : Int)) else ([], ck e p r s n)) = (hd e p r s n, 0) from if_pos h]
    refine Ev.if_pos h (Ev.bind (a := hd e p r s n) ?_ (Ev.now _))
    by_cases hs : s = 0
    · exact Ev.if_pos hs (by simp only [hd, if_pos hs]; exact Ev.now _)
    · exact Ev.if_neg hs (by simp only [hd, if_neg hs]; exact Ev.now _)
  · rw [show (if ck e p r s n = 0 then (hd e p r s n, (0 : Int)) else ([], ck e p r s n)) = ([], ck e p r s n) from if_neg h]
    exact Ev.if_neg h (Ev.now _)
abbrev RH := Int × Int × Int × Int × Int × Int × Int
def rz (xs : List Int) (s : Int) : RH := if ck (rd xs 3) (rd xs 4) (rd xs 5) s (rd xs 7) = 0 then (rd xs 3, rd xs 4, rd xs 5, s, rd xs 7, 0, 0) else (0, 0, 0, 0, 0, 3, ck (rd xs 3) (rd xs 4) (rd xs 5) s (rd xs 7))
def ry (xs : List Int) : RH := if (xs.length : Int) < 8 then (0, 0, 0, 0, 0, (xs.length : Int), 10) else if rd xs 6 = 0 then (0, 0, 0, 0, 0, 3, 3) else if rd xs 6 = 32 then rz xs 0 else rz xs (rd xs 6)
def rx (xs : List Int) : Nat → Int → RH
  | 0, _ => ry xs
  | m + 1, i => if i ≥ (xs.length : Int) then (0, 0, 0, 0, 0, i, 10) else if rd xs i = bt (⟨#[77, 82, 75]⟩ : ByteArray) i then rx xs m (i + 1) else (0, 0, 0, 0, 0, i, 10)
theorem ref_rx (xs : List Int) (hl : xs.length ≤ 140737488355328) : ∀ (m : Nat) (i : Int), 3 - i = m → 0 ≤ i → Ev (fun k => interchangeref2_ReadHeading.l0 k xs i) (rx xs m i)
  | 0, i, h1, h2 => by
    refine Ev.succ ?_
    simp only [interchangeref2_ReadHeading.l0, rx, ry]
    refine Ev.if_neg (by omega) ?_
    by_cases h8 : (xs.length : Int) < 8
    · rw [if_pos h8]; exact Ev.if_pos h8 (Ev.now _)
    · rw [if_neg h8]
      refine Ev.if_neg h8 (Ev.if_pos (by omega) (Ev.if_pos (by omega) (Ev.if_pos (by omega) (Ev.if_pos (by omega) (Ev.if_pos (by omega) ?_)))))
      by_cases h6 : rd xs 6 = 0
      · rw [if_pos h6]; exact Ev.if_pos h6 (Ev.now _)
      · rw [if_neg h6]
        refine Ev.if_neg h6 ?_
        by_cases h7 : rd xs 6 = 32
        · rw [if_pos h7]
          refine Ev.if_pos h7 (Ev.bind (ref_CheckMarks _ _ _ _ _) ?_)
          unfold rz
          exact Ev.ite
        · rw [if_neg h7]
          refine Ev.if_neg h7 (Ev.bind (ref_CheckMarks _ _ _ _ _) ?_)
          unfold rz
          exact Ev.ite
  | m + 1, i, h1, h2 => by
    have ih := ref_rx xs hl m (i + 1) (by omega) (by omega)
    refine Ev.succ ?_
    simp only [interchangeref2_ReadHeading.l0, rx]
    rw [w64 (by omega) (by omega)]
    refine Ev.if_pos (by omega) ?_
    by_cases hx : i ≥ (xs.length : Int)
    · rw [if_pos hx]; exact Ev.if_pos hx (Ev.now _)
    · rw [if_neg hx]
      refine Ev.if_neg hx (Ev.if_pos h2 (Ev.if_pos (by omega) ?_))
      by_cases hb : rd xs i = bt (⟨#[77, 82, 75]⟩ : ByteArray) i
      · rw [if_pos hb]; exact Ev.if_pos hb ih
      · rw [if_neg hb]; exact Ev.if_neg hb (Ev.now _)
theorem own_rx (xs : List Int) (hl : xs.length ≤ 140737488355328) : ∀ (m : Nat) (i : Int), 3 - i = m → 0 ≤ i → Ev (fun k => wire_ReadHeading.l0 k xs i) (rx xs m i)
  | 0, i, h1, h2 => by
    refine Ev.succ ?_
    simp only [wire_ReadHeading.l0, rx, ry]
    refine Ev.if_neg (by omega) ?_
    by_cases h8 : (xs.length : Int) < 8
    · rw [if_pos h8]; exact Ev.if_pos h8 (Ev.now _)
    · rw [if_neg h8]
      refine Ev.if_neg h8 (Ev.if_pos (by omega) ?_)
      by_cases h6 : rd xs 6 = 0
      · rw [if_pos h6]; exact Ev.if_pos h6 (Ev.now _)
      · rw [if_neg h6]
        refine Ev.if_neg h6 (Ev.if_pos (by omega) (Ev.if_pos (by omega) (Ev.if_pos (by omega) (Ev.if_pos (by omega) ?_))))
        by_cases h7 : rd xs 6 = 32
        · rw [if_pos h7]
          refine Ev.if_pos h7 (Ev.bind (own_CheckMarks _ _ _ _ _) ?_)
          unfold rz
          exact Ev.ite
        · rw [if_neg h7]
          refine Ev.if_neg h7 (Ev.bind (own_CheckMarks _ _ _ _ _) ?_)
          unfold rz
          exact Ev.ite
  | m + 1, i, h1, h2 => by
    have ih := own_rx xs hl m (i + 1) (by omega) (by omega)
    refine Ev.succ ?_
    simp only [wire_ReadHeading.l0, rx]
    rw [w64 (by omega) (by omega)]
    refine Ev.if_pos (by omega) ?_
    by_cases hx : i ≥ (xs.length : Int)
    · rw [if_pos hx]; exact Ev.if_pos hx (Ev.now _)
    · rw [if_neg hx]
      refine Ev.if_neg hx (Ev.if_pos h2 (Ev.if_pos (by omega) ?_))
      by_cases hb : rd xs i = bt (⟨#[77, 82, 75]⟩ : ByteArray) i
      · rw [if_pos hb]; exact Ev.if_pos hb ih
      · rw [if_neg hb]; exact Ev.if_neg hb (Ev.now _)
theorem ref_Read (xs : List Int) (hl : xs.length ≤ 140737488355328) : Ev (fun k => interchangeref2_ReadHeading.f k xs) (rx xs 3 0) := ref_rx xs hl 3 0 (by decide) (by decide)
theorem own_Read (xs : List Int) (hl : xs.length ≤ 140737488355328) : Ev (fun k => wire_ReadHeading.f k xs) (rx xs 3 0) := own_rx xs hl 3 0 (by decide) (by decide)
theorem rx_hd (e p r s n : Int) (xs : List Int) (h : ck e p r s n = 0) : rx (hd e p r s n ++ xs) 3 0 = (e, p, r, s, n, 0, 0) := by
  have hm : s = 0 ∨ mk s = true := by
    unfold ck at h
    split at h
    · rename_i hc; exact hc.2.2.2.2
    · cases h
  have hl : ((hd e p r s n ++ xs).length : Int) = 8 + xs.length := by simp [hd]; omega
  have r0 : rd (hd e p r s n ++ xs) 0 = bt (⟨#[77, 82, 75]⟩ : ByteArray) 0 := rfl
  have r1 : rd (hd e p r s n ++ xs) 1 = bt (⟨#[77, 82, 75]⟩ : ByteArray) 1 := rfl
  have r2 : rd (hd e p r s n ++ xs) 2 = bt (⟨#[77, 82, 75]⟩ : ByteArray) 2 := rfl
  have r3 : rd (hd e p r s n ++ xs) 3 = e := rfl
  have r4 : rd (hd e p r s n ++ xs) 4 = p := rfl
  have r5 : rd (hd e p r s n ++ xs) 5 = r := rfl
  have r6 : rd (hd e p r s n ++ xs) 6 = if s = 0 then 32 else s := rfl
  have r7 : rd (hd e p r s n ++ xs) 7 = n := rfl
  unfold rx
  rw [if_neg (by omega), if_pos r0]
  unfold rx
  rw [if_neg (by omega), show (0 : Int) + 1 = 1 by decide, if_pos r1]
  unfold rx
  rw [if_neg (by omega), show (1 : Int) + 1 = 2 by decide, if_pos r2]
  unfold rx ry
  rw [if_neg (by omega), r6]
  by_cases hs : s = 0
  · subst hs
    simp only [if_true]
    rw [if_neg (by decide)]
    unfold rz
    rw [r3, r4, r5, r7, if_pos h]
  · rw [if_neg hs]
    have hms := hm.resolve_left hs
    have h32 : s ≠ 32 := by
      unfold mk at hms
      have := of_decide_eq_true hms
      omega
    rw [if_neg hs, if_neg h32]
    unfold rz
    rw [r3, r4, r5, r7, if_pos h]
theorem WireHeadingsMatchSpec : WireHeadingsMatchSpecPure := by
  intro m xs _ hx
  have hlen : xs.length ≤ 140737488351232 := by have := hx.1; omega
  refine Ev.rounds ?_
  unfold interchangelaw2_WireHeadingsMatchSpec.f
  refine Ev.bind (ref_Heading _ _ _ _ _) (Ev.bind (own_Heading _ _ _ _ _) (Ev.bind (ref_Read xs (by omega)) (Ev.bind (own_Read xs (by omega)) (Ev.bind (a := true) ?_ (Ev.if_pos rfl (Ev.if_pos rfl (Ev.if_neg (by simp) (Ev.if_pos rfl ?_))))))))
  · unfold bytes_Equal.f
    simp only [beq_self_eq_true]
    exact Ev.now _
  · simp only [bne_self_eq_false]
    refine Ev.succ ?_
    simp only [interchangelaw2_WireHeadingsMatchSpec.j0, Bool.false_eq_true, if_false]
    by_cases h : ck m.f0 m.f1 m.f2 m.f3 m.f4 = 0
    · simp only [if_pos h]
      refine Ev.if_pos trivial ?_
      unfold bytes_Clone.f
      rw [if_pos (by simp [hd])]
      refine Ev.bind_some (Ev.if_pos (by simp [hd]; omega) (Ev.bind (own_Read _ (by simp [hd]; omega)) ?_))
      rw [rx_hd _ _ _ _ _ xs h]
      exact Ev.if_pos rfl (Ev.if_neg (by simp) (Ev.bind awake_true (Ev.now _)))
    · simp only [if_neg h]
      exact Ev.bind awake_true (Ev.now _)

end Go.Proofs.YtgafgpnbignfdaaDoor.Pure
