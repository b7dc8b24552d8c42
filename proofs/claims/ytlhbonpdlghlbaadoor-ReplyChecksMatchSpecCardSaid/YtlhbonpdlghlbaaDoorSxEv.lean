/- What a form over data comes to when it is given enough rounds. -/
import Derived.Test.YtlhbonpdlghlbaaDoorSxOpn
set_option linter.unusedVariables false
set_option linter.unusedSimpArgs false
namespace Go.Sx
/-- From some number of rounds on. -/
def Ev {α : Type} (f : Nat → Option α) (r : α) : Prop := ∃ k0, ∀ k, k0 ≤ k → f k = some r
section
variable {α β : Type}
theorem Ev.now (r : α) : Ev (fun _ => some r) r := ⟨0, fun _ _ => rfl⟩
theorem Ev.bind {f : Nat → Option α} {g : Nat → α → Option β} {a : α} {r : β} (h : Ev f a) (k : Ev (fun n => g n a) r) : Ev (fun n => (f n).bind (g n)) r := by
  obtain ⟨i, hi⟩ := h
  obtain ⟨j, hj⟩ := k
  exact ⟨max i j, fun n hn => by show (f n).bind (g n) = some r; rw [hi n (by omega)]; exact hj n (by omega)⟩
theorem Ev.congr {f g : Nat → Option α} {r : α} (h : ∀ n, f n = g n) (k : Ev g r) : Ev f r := by
  obtain ⟨j, hj⟩ := k
  exact ⟨j, fun n hn => (h n).trans (hj n hn)⟩
theorem Ev.of {f : Nat → Option α} {r : α} (h : ∀ n, f n = some r) : Ev f r := ⟨0, fun n _ => h n⟩
theorem Ev.pos {c : Bool} {f g : Nat → Option α} {r : α} (h : c = true) (k : Ev f r) : Ev (fun n => bif c then f n else g n) r := by subst h; exact k
theorem Ev.neg {c : Bool} {f g : Nat → Option α} {r : α} (h : c = false) (k : Ev g r) : Ev (fun n => bif c then f n else g n) r := by subst h; exact k
theorem Ev.iter {R : Type} {f : Nat → (List D → Option R) → List D → Option R} {ds : List D} {r : R} (k : Ev (fun n => f n (Sx.iter f n) ds) r) : Ev (fun n => Sx.iter f n ds) r := by
  obtain ⟨j, hj⟩ := k
  refine ⟨j + 1, fun n hn => ?_⟩
  cases n with
  | zero => omega
  | succ n => exact hj n (by omega)
theorem Ev.iterG {R : Type} {f : Nat → (List D → Option R) → List D → Option R} {ds : List D} {r : R} (k : ∀ go : Nat → List D → Option R, (∀ ds' r', Ev (fun n => Sx.iter f n ds') r' → Ev (fun n => go n ds') r') → Ev (fun n => f n (go n) ds) r) : Ev (fun n => Sx.iter f n ds) r :=
  Ev.iter (k (fun n => Sx.iter f n) fun _ _ h => h)
theorem Ev.ex {f : Nat → Option α} {r : α} (h : Ev f r) : ∃ k, f k = some r := by
  obtain ⟨j, hj⟩ := h
  exact ⟨j, hj j (Nat.le_refl _)⟩
theorem Ev.cast {f : Nat → Option α} {r s : α} (h : Ev f r) (e : r = s) : Ev f s := e ▸ h
end
theorem gt_zero (a : D) (l : List D) : gt (a :: l) 0 = a := by simp [gt]
theorem gt_succ (a : D) (l : List D) (n : Nat) : gt (a :: l) (n + 1) = gt l n := by simp [gt, List.getD_eq_getElem?_getD]
theorem int_i (n : Int) : (D.int n).i = n := by simp [D.i]
theorem bool_b (n : Bool) : (D.bool n).b = n := by simp [D.b]
theorem str_s (n : ByteArray) : (D.str n).s = n := by simp [D.s]
theorem row_r (n : List D) : (D.row n).r = n := by simp [D.r]
theorem w64 {n : Int} (h1 : -9223372036854775808 ≤ n) (h2 : n ≤ 9223372036854775807) : IntKind.i64.wrap n = n := by
  have hb : IntKind.i64.bits = 64 := rfl
  have hs : IntKind.i64.signed = true := rfl
  simp only [IntKind.wrap, hb, hs, Bool.true_and, decide_eq_true_eq]
  split <;> omega
theorem inRow_yes {i : Int} {n : Nat} (h0 : 0 ≤ i) (h1 : i < (n : Int)) : inRow i n = true := by simp [inRow, h0, h1]
theorem needOk_yes {n b : Nat} (h : n * b ≤ 140737488355328) : needOk n b = true := by simp [needOk, h]
theorem elAt_mid {α : Type} (f : α → D) (pre : List α) (x : α) (post : List α) : elAt ((pre ++ x :: post).map f) (pre.length : Int) = f x := by
  simp [elAt, List.getD_eq_getElem?_getD]
theorem elAt_last {α : Type} (f : α → D) (pre : List α) (y : α) (x : α) (post : List α) : elAt ((pre ++ y :: x :: post).map f) (pre.length : Int) = f y := by
  simp [elAt, List.getD_eq_getElem?_getD]
theorem elAt_end (l : List D) (d : D) : elAt (l ++ [d]) (l.length : Int) = d := by
  simp [elAt, List.getD_eq_getElem?_getD]
theorem elAt_set {l : List D} {n : Nat} {v : D} (h : n < l.length) : elAt (l.set n v) (n : Int) = v := by
  simp [elAt, List.getD_eq_getElem?_getD, h]
theorem agg_c (l : List D) (j : Nat) : (D.agg l).c j = l.getD j (.int 0) := rfl
theorem toList_beq {a b : ByteArray} (h : a = b) : (a.toList == b.toList) = true := by simp [h]
theorem toList_bne {a b : ByteArray} (h : a ≠ b) : (a.toList == b.toList) = false := by
  cases hh : (a.toList == b.toList)
  · rfl
  · exact absurd (ba_ext (by simpa using hh)) h
theorem set_mid {α : Type} (a : List α) (y z : α) (b : List α) : (a ++ y :: b).set a.length z = a ++ z :: b := by
  simp [List.set_append]
theorem beqI_true {a b : Int} (h : a = b) : (a == b) = true := by simp [h]
theorem beqI_false {a b : Int} (h : a ≠ b) : (a == b) = false := by simp [h]
theorem bneI_true {a b : Int} (h : a ≠ b) : (a != b) = true := by simp [h]
theorem bneI_false {a b : Int} (h : a = b) : (a != b) = false := by simp [h]
theorem blt_yes {a b : Nat} (h : a < b) : Nat.blt a b = true := by
  have : a + 1 ≤ b := h
  simpa [Nat.blt, Nat.ble_eq] using this
/-! ### What good data are -/
section
variable {T : Nat → TyI}
theorem GoodC.int_inv {k : IntKind} {d : D} (h : GoodC T (.int k) d) : ∃ n, d = .int n ∧ (Lit.int k n).wf = true := by cases h with | int k n h => exact ⟨n, rfl, h⟩
theorem GoodC.bool_inv {d : D} (h : GoodC T .bool d) : ∃ b, d = .bool b := by cases h with | bool b => exact ⟨b, rfl⟩
theorem GoodC.str_inv {d : D} (h : GoodC T .str d) : ∃ s, d = .str s ∧ s.size ≤ 140737488351232 := by cases h with | str s h => exact ⟨s, rfl, h⟩
theorem GoodC.sl_inv {e : Nat} {d : D} (h : GoodC T (.sl e) d) : ∃ l, d = .row l ∧ l.length * (T e).bytes ≤ 140737488351232 ∧ ((T e).agg = true → ∀ d ∈ l, ∃ m, d = .agg m ∧ m.length = (T e).cells.length) ∧ ∀ d ∈ l, ∀ j, j < (T e).cells.length → GoodC T ((T e).cells.getD j .other) (cellD T e d j) := by
  cases h with
  | sl e l h ha hc => exact ⟨l, rfl, h, ha, hc⟩
theorem wf64 {n : Int} (h : (Lit.int .i64 n).wf = true) : -9223372036854775808 ≤ n ∧ n ≤ 9223372036854775807 := by
  simp only [Lit.wf, Bool.and_eq_true, decide_eq_true_eq] at h
  exact h
theorem list_of {α : Type} (f : α → D) (p : α → Prop) : ∀ {l : List D}, (∀ d ∈ l, ∃ x, d = f x ∧ p x) → ∃ xs : List α, l = xs.map f ∧ ∀ x ∈ xs, p x
  | [], _ => ⟨[], rfl, fun x h => by simp at h⟩
  | d :: l, h => by
    obtain ⟨x, h1, h2⟩ := h d (by simp)
    obtain ⟨xs, h3, h4⟩ := list_of f p (l := l) (fun d hd => h d (by simp [hd]))
    refine ⟨x :: xs, by rw [h1, h3]; rfl, fun y hy => ?_⟩
    rcases List.mem_cons.1 hy with rfl | hy
    · exact h2
    · exact h4 y hy
end
end Go.Sx
