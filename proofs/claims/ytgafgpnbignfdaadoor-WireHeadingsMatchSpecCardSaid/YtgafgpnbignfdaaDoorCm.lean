/- Plain lemmas that several proofs share: rounds of loops, numbers that do not wrap, bytes of strings, what strings.Trim cuts. -/
import Derived.Test.YtgafgpnbignfdaaDoorV
import Derived.Lib.SlTrimSet
namespace Go.Proofs.YtgafgpnbignfdaaDoor.Cm
open Go.RowKit Go.Proofs.YtgafgpnbignfdaaDoorW.PrintWords Go.Proofs.YtgafgpnbignfdaaDoorW.PrintLast Go.Proofs.YtgafgpnbignfdaaDoorW.PrintMore
set_option linter.unusedVariables false
set_option linter.unusedSimpArgs false

theorem w64 {x : Int} (h0 : -9223372036854775808 ≤ x) (h1 : x ≤ 9223372036854775807) : wrap64 x = x := by unfold wrap64; omega
theorem mn_min (a b : Int) : mn a b = min a b := by unfold mn; split <;> omega
theorem mx_max (a b : Int) : mx a b = max a b := by unfold mx; split <;> omega
theorem wf64 {x : Int} : (Lit.int .i64 x).wf = true ↔ -9223372036854775808 ≤ x ∧ x ≤ 9223372036854775807 := by
  have e1 : IntKind.min .i64 = -9223372036854775808 := by decide
  have e2 : IntKind.max .i64 = 9223372036854775807 := by decide
  simp [Lit.wf, e1, e2]

theorem toList_inj {a b : ByteArray} : a.toList = b.toList ↔ a = b := by
  constructor
  · intro h
    rw [Lib.toList_data, Lib.toList_data] at h
    have e : a.data = b.data := Array.toList_inj.1 h
    cases a; cases b; cases e; rfl
  · rintro rfl; rfl
theorem size_toList (s : ByteArray) : s.data.toList.length = s.size := by simp
theorem bt_eq (s : ByteArray) (i : Int) (h0 : 0 ≤ i) (h : i < s.size) : ∃ b, s.data.toList[i.toNat]? = some b ∧ bt s i = (b.toNat : Int) := by
  have hl : i.toNat < s.size := by omega
  refine ⟨s.data.toList[i.toNat]'(by simpa using hl), List.getElem?_eq_getElem _, ?_⟩
  unfold bt
  rw [dif_pos hl]
  rfl
theorem bt_bd (s : ByteArray) (i : Int) : 0 ≤ bt s i ∧ bt s i < 256 := by
  unfold bt
  split
  · have := (s[i.toNat]'‹_›).toNat_lt
    omega
  · omega

theorem dropWhile_nil {α : Type} (p : α → Bool) : ∀ (l : List α), l.dropWhile p = [] ↔ ∀ x ∈ l, p x = true
  | [] => by simp
  | y :: l => by
    rw [List.dropWhile_cons]
    split
    · rename_i h
      rw [dropWhile_nil p l]
      simp [h]
    · rename_i h
      simp [h]
theorem dropWhile_head {α : Type} (p : α → Bool) : ∀ (l : List α) (x : α) (t : List α), l.dropWhile p = x :: t → p x = false
  | [], _, _, h => by simp at h
  | y :: l, x, t, h => by
    rw [List.dropWhile_cons] at h
    split at h
    · exact dropWhile_head p l x t h
    · rename_i h2
      cases h
      simpa using h2
theorem trim_nil (l cs : List UInt8) : Lib.trimS l cs = [] ↔ ∀ b ∈ l, cs.contains b = true := by
  unfold Lib.trimS Lib.trimLeftS Lib.trimRightS
  rw [dropWhile_nil]
  constructor
  · intro h
    cases hr : l.reverse.dropWhile (cs.contains ·) with
    | nil =>
      intro b hb
      exact (dropWhile_nil _ _).1 hr b (by simpa using hb)
    | cons x t =>
      have h1 := dropWhile_head _ _ _ _ hr
      have h2 := h x (by rw [hr]; simp)
      rw [h1] at h2
      cases h2
  · intro h b hb
    have hs : b ∈ l.reverse.dropWhile (cs.contains ·) := by simpa using hb
    exact h b (by simpa using (List.dropWhile_sublist _).subset hs)

/-- One round more. -/
theorem Ev.if_pos {α : Type} {c : Prop} [Decidable c] {g f : Nat → Option α} {r : α} (h : c) (k : Ev g r) : Ev (fun n => if c then g n else f n) r := Ev.congr (fun _ => by rw [_root_.if_pos h]) k
theorem Ev.if_neg {α : Type} {c : Prop} [Decidable c] {g f : Nat → Option α} {r : α} (h : ¬ c) (k : Ev f r) : Ev (fun n => if c then g n else f n) r := Ev.congr (fun _ => by rw [_root_.if_neg h]) k
theorem Ev.bind_some {α β : Type} {a : α} {f : Nat → α → Option β} {r : β} (k : Ev (fun n => f n a) r) : Ev (fun n => (some a).bind (f n)) r := k
end Go.Proofs.YtgafgpnbignfdaaDoor.Cm
