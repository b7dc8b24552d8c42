/- Names, tags, places of rows and bytes: words without a program. -/
import Derived.Test.YtlhbonpdlghlbaaDoorSxEvG
import Derived.Test.YtlhbonpdlghlbaaDoorSxShelf
set_option linter.unusedVariables false
set_option linter.unusedSimpArgs false
namespace Go.Sx
def capD (b : UInt8) : Bool := decide ((65 ≤ b.toNat ∧ b.toNat ≤ 90) ∨ (48 ≤ b.toNat ∧ b.toNat ≤ 57) ∨ b.toNat = 45)
def isRef (s : ByteArray) : Bool := s.data.toList.all capD && decide (1 ≤ s.size ∧ s.size ≤ 14)
theorem ba_len (s : ByteArray) : s.data.toList.length = s.size := by simp
theorem drop_nil {α : Type} (p : α → Bool) : ∀ l : List α, l.dropWhile p = [] ↔ ∀ x ∈ l, p x = true
  | [] => by simp
  | a :: l => by
    by_cases h : p a = true
    · simp [List.dropWhile_cons, h, drop_nil p l]
    · simp [List.dropWhile_cons, h]
theorem trim_nil (l cs : List UInt8) : Lib.trimS l cs = [] ↔ ∀ b ∈ l, cs.contains b = true := by
  unfold Lib.trimS Lib.trimLeftS Lib.trimRightS
  rw [drop_nil]
  constructor
  · intro h
    have h2 : ∀ x ∈ (l.reverse.dropWhile (cs.contains ·)), cs.contains x = true := fun x hx => h x (by simpa using hx)
    have h3 : l.reverse.dropWhile (cs.contains ·) = [] := by
      cases hd : l.reverse.dropWhile (cs.contains ·) with
      | nil => rfl
      | cons a t =>
        have ha := List.head?_dropWhile_not (cs.contains ·) l.reverse
        rw [hd] at ha h2
        have := h2 a (by simp)
        simp at ha
        simp_all
    intro b hb
    exact (drop_nil _ _).1 h3 b (by simpa using hb)
  · intro h x hx
    have : x ∈ l.reverse := (List.dropWhile_sublist _).subset (by simpa using hx)
    exact h x (by simpa using this)
theorem ba_beq (a : ByteArray) : (a == a) = true := by
  obtain ⟨⟨l⟩⟩ := a
  show (Array.mk l == Array.mk l) = true
  simp
theorem Ev.scan {α : Type} {B : Nat → (List D → Option (List D)) → List D → Option (List D)} (l : List α) (st : List α → List D) (res : List α → List α → List D)
    (h0 : Ev (fun n => B n (Sx.iter B n) (st l)) (res l []))
    (h1 : ∀ pre x post (go : Nat → List D → Option (List D)), l = pre ++ x :: post → Ev (fun n => go n (st (pre ++ [x]))) (res (pre ++ [x]) post) → Ev (fun n => B n (go n) (st pre)) (res pre (x :: post))) :
    Ev (fun n => Sx.iter B n (st [])) (res [] l) := by
  have main : ∀ (post pre : List α), l = pre ++ post → Ev (fun n => Sx.iter B n (st pre)) (res pre post) := by
    intro post
    induction post with
    | nil =>
      intro pre h
      have : l = pre := by simpa using h
      subst this
      exact Ev.iter h0
    | cons x post ih => intro pre h; exact Ev.iter (h1 pre x post _ h (ih (pre ++ [x]) (by simp [h])))
  exact main l [] rfl
/-- At a place of a row. -/
structure At (l pre : List D) (x : D) : Prop where
  el : elAt l (pre.length : Int) = x
  inr : inRow (pre.length : Int) l.length = true
  lt : decide ((pre.length : Int) < (l.length : Int)) = true
  up : IntKind.i64.wrap ((pre.length : Int) + 1) = ((pre ++ [x]).length : Int)
  tk : List.drop 0 (List.take (Int.toNat (pre.length : Int)) l) = pre
  le : (decide (0 ≤ (pre.length : Int)) && decide ((pre.length : Int) ≤ (l.length : Int))) = true
theorem at_of {l pre post : List D} {x : D} (h : l = pre ++ x :: post) (hb : l.length ≤ 140737488355328) : At l pre x := by
  subst h
  have hl := hb
  simp only [List.length_append, List.length_cons] at hl
  refine ⟨by simp [elAt, List.getD_eq_getElem?_getD], inRow_yes (by omega) (by simp; omega), decide_eq_true (by simp; omega), by rw [w64 (by omega) (by omega)]; simp, by simp, ?_⟩
  rw [decide_eq_true (by omega), decide_eq_true (by simp; omega)]; rfl
theorem no_more (n : Nat) : decide ((n : Int) < (n : Int)) = false := by simp
def prevB {α : Type} (P : α → Bool) (pre : List α) : Bool :=
  match pre.getLast? with
  | some p => P p
  | none => false
theorem prev_bind {l pre post : List D} {x : D} (h : l = pre ++ x :: post) (hb : l.length ≤ 140737488355328) (P : D → Bool) :
    (bif decide ((pre.length : Int) > 0) then
      bif (inRow (IntKind.i64.wrap ((pre.length : Int) - 1)) l.length) then some [D.bool (P (elAt l (IntKind.i64.wrap ((pre.length : Int) - 1))))] else none
     else some [D.bool false]) = some [D.bool (prevB P pre)] := by
  subst h
  rcases List.eq_nil_or_concat pre with rfl | ⟨pre', p, rfl⟩
  · simp [prevB]
  · have hl := hb
    simp only [List.length_append, List.length_cons, List.concat_eq_append, List.length_nil] at hl
    have h1 : (((pre'.concat p).length : Nat) : Int) = (pre'.length : Int) + 1 := by simp
    have h3 : IntKind.i64.wrap ((pre'.length : Int) + 1 - 1) = (pre'.length : Int) := by rw [w64 (by omega) (by omega)]; omega
    rw [h1, h3, decide_eq_true (show (pre'.length : Int) + 1 > 0 by omega), inRow_yes (by omega) (by simp; omega)]
    simp [prevB, elAt, List.getD_eq_getElem?_getD]
structure SAt (s : ByteArray) (pre : List UInt8) (b : UInt8) : Prop where
  el : List.getD (ByteArray.toList s) (Int.toNat (pre.length : Int)) 0 = b
  inr : inRow (pre.length : Int) (ByteArray.size s) = true
  lt : decide ((pre.length : Int) < ((ByteArray.size s : Nat) : Int)) = true
  up : IntKind.i64.wrap ((pre.length : Int) + 1) = ((pre ++ [b]).length : Int)
  sz : s.size ≤ 140737488351232
theorem sat_of {s : ByteArray} {pre post : List UInt8} {b : UInt8} (h : s.data.toList = pre ++ b :: post) (hs : s.size ≤ 140737488351232) : SAt s pre b := by
  have hsz : s.size = pre.length + (post.length + 1) := by
    have := congrArg List.length h
    rw [ba_len] at this
    simpa using this
  exact ⟨by rw [ByteArray.toList_eq, h]; simp [List.getD_eq_getElem?_getD], inRow_yes (by omega) (by omega), decide_eq_true (by omega), by rw [w64 (by omega) (by omega)]; simp, hs⟩
theorem end_of {s : ByteArray} : decide (((s.data.toList.length : Nat) : Int) < ((ByteArray.size s : Nat) : Int)) = false := by rw [ba_len]; simp
def lcB (b : UInt8) : Bool := decide (97 ≤ b.toNat ∧ b.toNat ≤ 122)
def dgB (b : UInt8) : Bool := decide (48 ≤ b.toNat ∧ b.toNat ≤ 57)
def nmB (b : UInt8) : Bool := decide ((97 ≤ b.toNat ∧ b.toNat ≤ 122) ∨ (48 ≤ b.toNat ∧ b.toNat ≤ 57) ∨ b.toNat = 45)
def cpB (b : UInt8) : Bool := decide (65 ≤ b.toNat ∧ b.toNat ≤ 90)
def tgB (b : UInt8) : Bool := decide ((65 ≤ b.toNat ∧ b.toNat ≤ 90) ∨ (48 ≤ b.toNat ∧ b.toNat ≤ 57))
/-- The first byte is of one kind, the others of another. -/
def okFrom (f g : UInt8 → Bool) (pre post : List UInt8) : Bool :=
  match pre, post with
  | [], b :: l => f b && l.all g
  | _, post => post.all g
theorem okFrom_step (f g : UInt8 → Bool) (pre : List UInt8) (b : UInt8) (post : List UInt8) : okFrom f g pre (b :: post) = ((bif decide (pre.length = 0) then f b else g b) && okFrom f g (pre ++ [b]) post) := by
  cases pre with
  | nil => simp [okFrom]
  | cons a pre => simp [okFrom]
theorem okFrom_nil (f g : UInt8 → Bool) (pre : List UInt8) : okFrom f g pre [] = true := by cases pre <;> rfl
def isName (s : ByteArray) : Bool := okFrom lcB nmB [] s.data.toList && (decide (1 ≤ s.size) && decide (s.size ≤ 40))
def isTag (s : ByteArray) : Bool := okFrom cpB tgB [] s.data.toList && (decide (2 ≤ s.size) && decide (s.size ≤ 6))
theorem nonempty_beq (s : ByteArray) : (!((ByteArray.toList s) == (ByteArray.toList (ByteArray.mk #[])))) = decide (1 ≤ s.size) := by
  rw [ByteArray.toList_eq, ByteArray.toList_eq]
  by_cases h : s.data.toList = []
  · have : s.size = 0 := by rw [← ba_len, h]; rfl
    rw [h, this]; rfl
  · have h0 : s.size ≠ 0 := fun hh => h (List.eq_nil_of_length_eq_zero (by rw [ba_len]; exact hh))
    have h1 : (s.data.toList == (ByteArray.mk #[]).data.toList) = false := by simpa using h
    rw [h1, decide_eq_true (by omega)]; rfl
theorem len_zero {α : Type} (pre : List α) : ((pre.length : Int) == 0) = decide (pre.length = 0) := by
  by_cases h : pre.length = 0
  · rw [decide_eq_true h]; simp [h]
  · rw [decide_eq_false h]; exact beqI_false (by omega)
theorem lc_step (b : UInt8) : (bif decide ((b.toNat : Int) ≥ 97) then some [D.bool (decide ((b.toNat : Int) ≤ 122))] else some [D.bool false]) = some [D.bool (lcB b)] := by
  unfold lcB
  by_cases c2 : 97 ≤ b.toNat
  · rw [decide_eq_true (show ((b.toNat : Int)) ≥ 97 by omega)]
    simp only [cond_true]
    congr 3
    exact decide_eq_decide.2 (by omega)
  · rw [decide_eq_false (show ¬ ((b.toNat : Int)) ≥ 97 by omega), decide_eq_false (show ¬ (97 ≤ b.toNat ∧ b.toNat ≤ 122) by omega)]; rfl
theorem cp_step (b : UInt8) : (bif decide ((b.toNat : Int) ≥ 65) then some [D.bool (decide ((b.toNat : Int) ≤ 90))] else some [D.bool false]) = some [D.bool (cpB b)] := by
  unfold cpB
  by_cases c2 : 65 ≤ b.toNat
  · rw [decide_eq_true (show ((b.toNat : Int)) ≥ 65 by omega)]
    simp only [cond_true]
    congr 3
    exact decide_eq_decide.2 (by omega)
  · rw [decide_eq_false (show ¬ ((b.toNat : Int)) ≥ 65 by omega), decide_eq_false (show ¬ (65 ≤ b.toNat ∧ b.toNat ≤ 90) by omega)]; rfl
theorem nm_step (b : UInt8) (z : Bool) : (bif !lcB b then bif z then some [D.bool true] else bif ((b.toNat : Int) != 45) then bif decide ((b.toNat : Int) ≥ 48) then some [D.bool (!decide ((b.toNat : Int) ≤ 57))] else some [D.bool true] else some [D.bool false] else some [D.bool false]) = some [D.bool (!(bif z then lcB b else nmB b))] := by
  unfold lcB nmB
  by_cases c1 : 97 ≤ b.toNat ∧ b.toNat ≤ 122
  · rw [decide_eq_true c1, decide_eq_true (show _ ∨ _ from .inl c1)]
    cases z <;> rfl
  · rw [decide_eq_false c1]
    cases z
    · simp only [Bool.not_false, cond_true, cond_false]
      by_cases c3 : b.toNat = 45
      · rw [bneI_false (show (b.toNat : Int) = 45 by omega), decide_eq_true (show _ ∨ _ ∨ _ from .inr (.inr c3))]; rfl
      · rw [bneI_true (show (b.toNat : Int) ≠ 45 by omega)]
        simp only [cond_true]
        by_cases c4 : 48 ≤ b.toNat
        · rw [decide_eq_true (show ((b.toNat : Int)) ≥ 48 by omega)]
          simp only [cond_true]
          congr 4
          exact decide_eq_decide.2 (by omega)
        · rw [decide_eq_false (show ¬ ((b.toNat : Int)) ≥ 48 by omega), decide_eq_false (show ¬ ((97 ≤ b.toNat ∧ b.toNat ≤ 122) ∨ (48 ≤ b.toNat ∧ b.toNat ≤ 57) ∨ b.toNat = 45) by omega)]; rfl
    · rfl
theorem tg_step (b : UInt8) (z : Bool) : (bif !cpB b then bif z then some [D.bool true] else bif decide ((b.toNat : Int) < 48) then some [D.bool true] else some [D.bool (decide ((b.toNat : Int) > 57))] else some [D.bool false]) = some [D.bool (!(bif z then cpB b else tgB b))] := by
  unfold cpB tgB
  by_cases c1 : 65 ≤ b.toNat ∧ b.toNat ≤ 90
  · rw [decide_eq_true c1, decide_eq_true (show _ ∨ _ from .inl c1)]
    cases z <;> rfl
  · rw [decide_eq_false c1]
    cases z
    · simp only [Bool.not_false, cond_true, cond_false]
      by_cases c4 : 48 ≤ b.toNat
      · rw [decide_eq_false (show ¬ ((b.toNat : Int)) < 48 by omega)]
        simp only [cond_false]
        by_cases c5 : b.toNat ≤ 57
        · rw [decide_eq_false (show ¬ (b.toNat : Int) > 57 by omega), decide_eq_true (show _ ∨ _ from .inr ⟨c4, c5⟩)]; rfl
        · rw [decide_eq_true (show (b.toNat : Int) > 57 by omega), decide_eq_false (show ¬ ((65 ≤ b.toNat ∧ b.toNat ≤ 90) ∨ (48 ≤ b.toNat ∧ b.toNat ≤ 57)) by omega)]; rfl
      · rw [decide_eq_true (show ((b.toNat : Int)) < 48 by omega), decide_eq_false (show ¬ ((65 ≤ b.toNat ∧ b.toNat ≤ 90) ∨ (48 ≤ b.toNat ∧ b.toNat ≤ 57)) by omega)]; rfl
    · rfl
set_option maxRecDepth 100000 in
theorem nm_okn : ∀ n : Nat, n < 256 → ([97, 98, 99, 100, 101, 102, 103, 104, 105, 106, 107, 108, 109, 110, 111, 112, 113, 114, 115, 116, 117, 118, 119, 120, 121, 122, 48, 49, 50, 51, 52, 53, 54, 55, 56, 57, 45] : List UInt8).contains (UInt8.ofNat n) = decide ((97 ≤ n ∧ n ≤ 122) ∨ (48 ≤ n ∧ n ≤ 57) ∨ n = 45) := by decide
set_option maxRecDepth 100000 in
theorem tg_okn : ∀ n : Nat, n < 256 → ([65, 66, 67, 68, 69, 70, 71, 72, 73, 74, 75, 76, 77, 78, 79, 80, 81, 82, 83, 84, 85, 86, 87, 88, 89, 90, 48, 49, 50, 51, 52, 53, 54, 55, 56, 57] : List UInt8).contains (UInt8.ofNat n) = decide ((65 ≤ n ∧ n ≤ 90) ∨ (48 ≤ n ∧ n ≤ 57)) := by decide
set_option maxRecDepth 100000 in
theorem cp_idx : ∀ n : Nat, n < 256 → decide (Lib.indexByte [65, 66, 67, 68, 69, 70, 71, 72, 73, 74, 75, 76, 77, 78, 79, 80, 81, 82, 83, 84, 85, 86, 87, 88, 89, 90] ((n : Int).toNat.toUInt8) ≥ 0) = decide (65 ≤ n ∧ n ≤ 90) := by decide
theorem all_of {f g : UInt8 → Bool} (h : ∀ b, f b = g b) (l : List UInt8) : l.all f = l.all g := by rw [show f = g from funext h]
theorem bor_step (a b : Bool) : (bif a then some [D.bool true] else some [D.bool b]) = some [D.bool (a || b)] := by cases a <;> rfl
theorem band_step (a b : Bool) : (bif a then some [D.bool b] else some [D.bool false]) = some [D.bool (a && b)] := by cases a <;> rfl
theorem bne_comm (a b : Int) : (a != b) = (b != a) := by
  by_cases h : a = b
  · rw [bneI_false h, bneI_false h.symm]
  · rw [bneI_true h, bneI_true (fun hh => h hh.symm)]
def okS (d : D) : Prop := d.s.size ≤ 140737488351232
def okRow (P : D → Prop) (d : D) : Prop := d.r.length * 8 ≤ 140737488351232 ∧ ∀ x ∈ d.r, P x
end Go.Sx
