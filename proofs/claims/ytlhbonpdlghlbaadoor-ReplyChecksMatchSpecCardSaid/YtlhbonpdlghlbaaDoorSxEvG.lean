/- What forms come to, for loops in loops: every loop has rounds of its own. -/
import Derived.Test.YtlhbonpdlghlbaaDoorSxEv
set_option linter.unusedVariables false
set_option linter.unusedSimpArgs false
namespace Go.Sx
class Dir (ι : Type) where
  ge : ι → Nat → Prop
  mono : ∀ {i : ι} {j k : Nat}, ge i k → j ≤ k → ge i j
instance : Dir Nat := ⟨fun i k => k ≤ i, fun h1 h2 => Nat.le_trans h2 h1⟩
instance {ι : Type} [Dir ι] : Dir (ι × Nat) := ⟨fun p k => Dir.ge p.1 k ∧ k ≤ p.2, fun h1 h2 => ⟨Dir.mono h1.1 h2, Nat.le_trans h2 h1.2⟩⟩
def EvG {ι : Type} [Dir ι] {α : Type} (f : ι → Option α) (r : α) : Prop := ∃ k0, ∀ i, Dir.ge i k0 → f i = some r
section
variable {ι : Type} [Dir ι] {α β R : Type}
theorem EvG.now (r : α) : EvG (fun _ : ι => some r) r := ⟨0, fun _ _ => rfl⟩
theorem EvG.bind {f : ι → Option α} {g : ι → α → Option β} {a : α} {r : β} (h : EvG f a) (k : EvG (fun n => g n a) r) : EvG (fun n => (f n).bind (g n)) r := by
  obtain ⟨i, hi⟩ := h
  obtain ⟨j, hj⟩ := k
  exact ⟨max i j, fun n hn => by show (f n).bind (g n) = some r; rw [hi n (Dir.mono hn (by omega))]; exact hj n (Dir.mono hn (by omega))⟩
theorem EvG.congr {f g : ι → Option α} {r : α} (h : ∀ n, f n = g n) (k : EvG g r) : EvG f r := by
  obtain ⟨j, hj⟩ := k
  exact ⟨j, fun n hn => (h n).trans (hj n hn)⟩
theorem EvG.of {f : ι → Option α} {r : α} (h : ∀ n, f n = some r) : EvG f r := ⟨0, fun n _ => h n⟩
theorem EvG.pos {c : Bool} {f g : ι → Option α} {r : α} (h : c = true) (k : EvG f r) : EvG (fun n => bif c then f n else g n) r := by subst h; exact k
theorem EvG.neg {c : Bool} {f g : ι → Option α} {r : α} (h : c = false) (k : EvG g r) : EvG (fun n => bif c then f n else g n) r := by subst h; exact k
theorem EvG.cast {f : ι → Option α} {r s : α} (h : EvG f r) (e : r = s) : EvG f s := e ▸ h
theorem EvG.fst {f : ι → Option α} {r : α} (h : EvG f r) : EvG (fun p : ι × Nat => f p.1) r := by
  obtain ⟨j, hj⟩ := h
  exact ⟨j, fun p hp => hj p.1 hp.1⟩
/-- A function that is called in a loop. -/
theorem Ev.snd {f : Nat → Option α} {r : α} (h : Ev f r) : EvG (fun p : ι × Nat => f p.2) r := by
  obtain ⟨j, hj⟩ := h
  exact ⟨j, fun p hp => hj p.2 hp.2⟩
theorem Ev.nat {f : Nat → Option α} {r : α} (h : Ev f r) : EvG f r := h
theorem EvG.nat {f : Nat → Option α} {r : α} (h : EvG f r) : Ev f r := h
/-- A loop that begins. -/
theorem EvG.loopN {f : Nat → Nat → Option α} {r : α} (h : EvG (fun p : Nat × Nat => f p.1 p.2) r) : EvG (fun n => f n n) r := by
  obtain ⟨j, hj⟩ := h
  exact ⟨j, fun n hn => hj (n, n) ⟨hn, hn⟩⟩
theorem EvG.loop {f : ι × Nat → Nat → Option α} {r : α} (h : EvG (fun p : (ι × Nat) × Nat => f p.1 p.2) r) : EvG (fun p => f p p.2) r := by
  obtain ⟨j, hj⟩ := h
  exact ⟨j, fun p hp => hj (p, p.2) ⟨hp, hp.2⟩⟩
theorem EvG.iter {f : ι → Nat → (List D → Option R) → List D → Option R} {ds : List D} {r : R} (k : EvG (fun p : ι × Nat => f p.1 p.2 (Sx.iter (f p.1) p.2) ds) r) : EvG (fun p : ι × Nat => Sx.iter (f p.1) p.2 ds) r := by
  obtain ⟨j, hj⟩ := k
  refine ⟨j + 1, fun p hp => ?_⟩
  obtain ⟨i, n⟩ := p
  obtain ⟨h1, h2⟩ := hp
  cases n with
  | zero => simp at h2
  | succ n => exact hj (i, n) ⟨Dir.mono h1 (by omega), by simp at h2 ⊢; omega⟩
theorem EvG.scan {B : ι → Nat → (List D → Option R) → List D → Option R} (l : List α) (st : List α → List D) (res : List α → List α → R)
    (h0 : EvG (fun p : ι × Nat => B p.1 p.2 (Sx.iter (B p.1) p.2) (st l)) (res l []))
    (h1 : ∀ pre x post (go : ι × Nat → List D → Option R), l = pre ++ x :: post → EvG (fun p => go p (st (pre ++ [x]))) (res (pre ++ [x]) post) → EvG (fun p : ι × Nat => B p.1 p.2 (go p) (st pre)) (res pre (x :: post))) :
    EvG (fun p : ι × Nat => Sx.iter (B p.1) p.2 (st [])) (res [] l) := by
  have main : ∀ (post pre : List α), l = pre ++ post → EvG (fun p : ι × Nat => Sx.iter (B p.1) p.2 (st pre)) (res pre post) := by
    intro post
    induction post with
    | nil =>
      intro pre h
      have : l = pre := by simpa using h
      subst this
      exact EvG.iter h0
    | cons x post ih => intro pre h; exact EvG.iter (h1 pre x post (fun p => Sx.iter (B p.1) p.2) h (ih (pre ++ [x]) (by simp [h])))
  exact main l [] rfl
end
end Go.Sx
