/- Each answer belongs to one sending, or to none: row 2. -/
import Derived.Test.YtndlhopdhfhjnaaDoorSxPb5
set_option linter.unusedVariables false
set_option linter.unusedSimpArgs false
namespace Go.Sx
/-! ### Loops within loops: the outer round's number stays -/
def EvP {α : Type} (f : Nat → Nat → Option α) (r : α) : Prop := ∃ k0, ∀ n k, k0 ≤ n → k0 ≤ k → f n k = some r
section
variable {α β : Type}
theorem EvP.diag {f : Nat → Nat → Option α} {r : α} (h : EvP f r) : Ev (fun n => f n n) r := by
  obtain ⟨j, hj⟩ := h
  exact ⟨j, fun n hn => hj n n hn hn⟩
theorem EvP.congr {f g : Nat → Nat → Option α} {r : α} (h : ∀ n k, f n k = g n k) (k : EvP g r) : EvP f r := by
  obtain ⟨j, hj⟩ := k
  exact ⟨j, fun n k h1 h2 => (h n k).trans (hj n k h1 h2)⟩
theorem EvP.out {f : Nat → Option α} {r : α} (h : Ev f r) : EvP (fun n _ => f n) r := by
  obtain ⟨j, hj⟩ := h
  exact ⟨j, fun n _ h1 _ => hj n h1⟩
theorem EvP.inn {f : Nat → Option α} {r : α} (h : Ev f r) : EvP (fun _ k => f k) r := by
  obtain ⟨j, hj⟩ := h
  exact ⟨j, fun _ k _ h1 => hj k h1⟩
theorem EvP.iter {R : Type} {f : Nat → Nat → (List D → Option R) → List D → Option R} {ds : List D} {r : R} (k : EvP (fun n k => f n k (Sx.iter (f n) k) ds) r) : EvP (fun n k => Sx.iter (f n) k ds) r := by
  obtain ⟨j, hj⟩ := k
  refine ⟨j + 1, fun n k h1 h2 => ?_⟩
  cases k with
  | zero => omega
  | succ k => exact hj n k (by omega) (by omega)
end

/-! ### What a book keeps -/
def Sd.key (y : Sd) : ByteArray × Int × Int := (y.ref, y.time, y.due)
def Bk.key (x : Bk) : ByteArray × Int × Int := (x.ref, x.time, x.due)
def isSent (x : Bk) : Bool := decide (x.kind = 1)
def isAns (x : Bk) : Bool := decide (x.kind = 2)
def ansOf (r : ByteArray) (x : Bk) : Bool := decide (x.kind = 2 ∧ x.ref = r)
def done (y : Sd) : Bool := decide (y.answer ≥ 0)
def doneOf (r : ByteArray) (y : Sd) : Bool := decide (y.ref = r ∧ y.answer ≥ 0)
def loneOf (es : List Bk) (r : ByteArray) (n : Int) : Bool := decide ((es[n.toNat]?).map (·.ref) = some r)
structure Keeps (pre : List Bk) (s : List Sd × List Int) : Prop where
  sent : s.1.map Sd.key = (pre.filter isSent).map Bk.key
  ok : ∀ y ∈ s.1, (y.answer = -1 ∧ y.verdict = 0) ∨ (0 ≤ y.answer ∧ y.time ≤ y.answer ∧ 1 ≤ y.verdict ∧ y.verdict ≤ 3)
  due : ∀ y ∈ s.1, 0 ≤ y.due
  times : ∀ y ∈ s.1, ∃ p, pre.getLast? = some p ∧ y.time ≤ p.time
  lone : ∀ n ∈ s.2, ∃ (j : Nat) (x : Bk), n = (j : Int) ∧ pre[j]? = some x ∧ x.kind = 2
  cnt : ∀ r, pre.countP (ansOf r) = s.1.countP (doneOf r) + s.2.countP (loneOf pre r)
  all : pre.countP isAns = s.1.countP done + s.2.length
theorem keeps_nil : Keeps [] ([], []) := ⟨rfl, fun y h => by simp at h, fun y h => by simp at h, fun y h => by simp at h, fun n h => by simp at h, fun r => rfl, rfl⟩
theorem lone_push {pre : List Bk} {x : Bk} {r : ByteArray} {l : List Int} (h : ∀ n ∈ l, ∃ (j : Nat) (x : Bk), n = (j : Int) ∧ pre[j]? = some x ∧ x.kind = 2) : l.countP (loneOf (pre ++ [x]) r) = l.countP (loneOf pre r) := by
  refine List.countP_congr fun n hn => ?_
  obtain ⟨j, y, rfl, hj, _⟩ := h n hn
  have hlt := (List.getElem?_eq_some_iff.1 hj).1
  simp only [loneOf, Int.toNat_natCast, List.getElem?_append_left hlt]
theorem keeps_step {pre : List Bk} {s : List Sd × List Int} {x : Bk} (h : Keeps pre s) (he : ef x = 0) (hl : late pre x = false) : Keeps (pre ++ [x]) (stepA s pre.length x) := by
  obtain ⟨hk, ht0, _, _, h1, h2⟩ := ef_zero he
  have htimes : ∀ y ∈ s.1, y.time ≤ x.time := fun y hy => by
    obtain ⟨p, hp, hle⟩ := h.times y hy
    simp only [late, hp, decide_eq_false_iff_not] at hl
    omega
  have hlone : ∀ n ∈ s.2, ∃ (j : Nat) (y : Bk), n = (j : Int) ∧ (pre ++ [x])[j]? = some y ∧ y.kind = 2 := fun n hn => by
    obtain ⟨j, y, h1, h2, h3⟩ := h.lone n hn
    exact ⟨j, y, h1, by rw [List.getElem?_append_left (List.getElem?_eq_some_iff.1 h2).1]; exact h2, h3⟩
  have hlast : (pre ++ [x]).getLast? = some x := by simp
  by_cases h1' : x.kind = 1
  · have e : stepA s pre.length x = (s.1 ++ [⟨x.ref, x.time, x.due, -1, 0⟩], s.2) := by simp only [stepA, if_pos h1']
    rw [e]
    have f1 : isSent x = true := decide_eq_true h1'
    have f2 : ∀ r, ansOf r x = false := fun r => decide_eq_false (by omega)
    have f3 : isAns x = false := decide_eq_false (by omega)
    refine ⟨?_, fun y hy => ?_, fun y hy => ?_, fun y hy => ?_, hlone, fun r => ?_, ?_⟩
    · simp only [List.map_append, List.filter_append, h.sent]
      simp [f1, Sd.key, Bk.key]
    · rcases List.mem_append.1 hy with hy | hy
      · exact h.ok y hy
      · simp at hy; subst hy; exact .inl ⟨rfl, rfl⟩
    · rcases List.mem_append.1 hy with hy | hy
      · exact h.due y hy
      · simp at hy; subst hy; show 0 ≤ x.due; have := h1 h1'; omega
    · rcases List.mem_append.1 hy with hy | hy
      · exact ⟨x, hlast, htimes y hy⟩
      · simp at hy; subst hy; exact ⟨x, hlast, Int.le_refl _⟩
    · rw [List.countP_append, List.countP_append, lone_push h.lone, h.cnt r]
      simp [f2, doneOf]
    · rw [List.countP_append, List.countP_append, h.all]
      simp [f3, done]
  · have h2' : x.kind = 2 := by omega
    obtain ⟨_, hv1, hv2⟩ := h2 h2'
    have f1 : isSent x = false := decide_eq_false h1'
    have f3 : isAns x = true := decide_eq_true h2'
    have f2 : ∀ r, ansOf r x = decide (x.ref = r) := fun r => decide_eq_decide.2 ⟨fun h => h.2, fun h => ⟨h2', h⟩⟩
    have hsent : (pre ++ [x]).filter isSent = pre.filter isSent := by simp [f1]
    rcases last_waits x.ref s.1 with hw | ⟨a, y, b, hab, hy, hb⟩
    · have e : stepA s pre.length x = (s.1, s.2 ++ [(pre.length : Int)]) := by simp only [stepA, if_neg h1', close_none hw]
      rw [e]
      refine ⟨by rw [hsent]; exact h.sent, h.ok, h.due, fun y hy => ⟨x, hlast, htimes y hy⟩, fun n hn => ?_, fun r => ?_, ?_⟩
      · rcases List.mem_append.1 hn with hn | hn
        · exact hlone n hn
        · simp at hn; subst hn; exact ⟨pre.length, x, rfl, by simp, h2'⟩
      · rw [List.countP_append, List.countP_append, lone_push h.lone, h.cnt r]
        have : loneOf (pre ++ [x]) r (pre.length : Int) = decide (x.ref = r) := by simp [loneOf]
        simp only [List.countP_cons, List.countP_nil, f2, this]
        omega
      · rw [List.countP_append, h.all]
        simp [f3]
        omega
    · have e : stepA s pre.length x = (a ++ y.done x.time x.verdict :: b, s.2) := by simp only [stepA, if_neg h1', hab, close_mid hy hb]
      rw [e]
      have hmem : ∀ z, z ∈ a ∨ z = y ∨ z ∈ b → z ∈ s.1 := fun z hz => by rw [hab]; simpa using hz
      refine ⟨?_, fun z hz => ?_, fun z hz => ?_, fun z hz => ?_, hlone, fun r => ?_, ?_⟩
      · rw [hsent, ← h.sent, hab]
        simp [Sd.key, Sd.done]
      · simp only [List.mem_append, List.mem_cons] at hz
        rcases hz with hz | rfl | hz
        · exact h.ok z (hmem z (.inl hz))
        · refine .inr ⟨?_, ?_, ?_, ?_⟩
          · simpa [Sd.done] using ht0
          · simpa [Sd.done] using htimes y (hmem y (.inr (.inl rfl)))
          · simpa [Sd.done] using hv1
          · simpa [Sd.done] using hv2
        · exact h.ok z (hmem z (.inr (.inr hz)))
      · simp only [List.mem_append, List.mem_cons] at hz
        rcases hz with hz | rfl | hz
        · exact h.due z (hmem z (.inl hz))
        · simpa [Sd.done] using h.due y (hmem y (.inr (.inl rfl)))
        · exact h.due z (hmem z (.inr (.inr hz)))
      · simp only [List.mem_append, List.mem_cons] at hz
        rcases hz with hz | rfl | hz
        · exact ⟨x, hlast, htimes z (hmem z (.inl hz))⟩
        · exact ⟨x, hlast, by simpa [Sd.done] using htimes y (hmem y (.inr (.inl rfl)))⟩
        · exact ⟨x, hlast, htimes z (hmem z (.inr (.inr hz)))⟩
      · rw [List.countP_append, lone_push h.lone, h.cnt r, hab]
        have g1 : doneOf r y = false := decide_eq_false (fun hh => by have := hy.2; omega)
        have g2 : doneOf r (y.done x.time x.verdict) = decide (x.ref = r) := by
          simp only [doneOf, Sd.done]
          exact decide_eq_decide.2 ⟨fun hh => hy.1.symm.trans hh.1, fun hh => ⟨hy.1.trans hh, ht0⟩⟩
        simp only [List.countP_append, List.countP_cons, List.countP_nil, f2, g1, g2]
        simp
        omega
      · rw [List.countP_append, h.all, hab]
        have g1 : done y = false := decide_eq_false (by have := hy.2; omega)
        have g2 : done (y.done x.time x.verdict) = true := decide_eq_true (by simpa [Sd.done] using ht0)
        simp only [List.countP_append, List.countP_cons, List.countP_nil, f3, g1, g2]
        simp
        omega
theorem keeps_run : ∀ {post pre : List Bk} {s : List Sd × List Int}, Keeps pre s → chk pre post = 0 → Keeps (pre ++ post) (runA post pre.length s)
  | [], pre, s, h, _ => by simpa [runA] using h
  | x :: post, pre, s, h, hc => by
    simp only [chk] at hc
    by_cases he : ef x = 0
    · rw [if_neg (show ¬ ef x ≠ 0 from fun h => h he)] at hc
      cases hl : late pre x
      · rw [hl, if_neg (by simp)] at hc
        have := keeps_run (keeps_step h he hl) hc
        simpa [runA] using this
      · rw [hl, if_pos rfl] at hc; cases hc
    · rw [if_pos he] at hc; exact absurd hc he
theorem cb_chk {es : List Bk} (h : cb es = 0) : chk [] es = 0 := by
  unfold cb at h
  split at h
  · cases h
  · exact h

/-! ### The law's loops -/
section
variable (es : List Bk) (out : List Sd) (left : List Int) (hK : Keeps es (out, left)) (hl : es.length ≤ 3000) (ho : out.length ≤ 3000) (hf : left.length ≤ 3000) (hef : ∀ x ∈ es, ef x = 0)
def lawD (a b c d : Int) : List D := [.row (es.map Bk.d), .int a, .int b, .int c, .int d, .row (out.map Sd.d), .row (left.map .int)]
def lawE (a b c d e f : Int) : List D := [.row (es.map Bk.d), .int a, .int b, .int c, .int d, .int e, .int f, .row (out.map Sd.d), .row (left.map .int)]
include hK in
theorem lone_at {n : Int} (hn : n ∈ left) : ∃ (pre post : List Bk) (x : Bk), es = pre ++ x :: post ∧ n = (pre.length : Int) ∧ x.kind = 2 := by
  obtain ⟨j, x, h1, h2, h3⟩ := hK.lone n hn
  obtain ⟨hj, hx⟩ := List.getElem?_eq_some_iff.1 h2
  refine ⟨es.take j, es.drop (j + 1), x, ?_, ?_, h3⟩
  · rw [← hx, ← List.drop_eq_getElem_cons hj, List.take_append_drop]
  · rw [h1, List.length_take]; omega
include hK hl hf in
theorem loop0 (R : Nat → List D → Option (List D)) (pi qi : List Bk) (xi : Bk) (hes : es = pi ++ xi :: qi) (a b c : Int) {r : List D} (hR : Ev (fun n => R n (lawD es out left a b c ((pi ++ [xi]).length : Int))) r) : ∀ (post pre : List Int), left = pre ++ post → ∀ many : Int, many = (post.countP (loneOf es xi.ref) : Int) →
    EvP (fun n k => iter (B3x0 (R n)) k (lawE es out left a b c (pi.length : Int) many (pre.length : Int))) r
  | [], pre, hp, many, hm => by
    refine EvP.iter (EvP.congr (fun n k => ?_) (EvP.out hR))
    have hlen : ¬ ((pre.length : Int) < ((left.map D.int).length : Int)) := by rw [List.length_map, hp]; simp
    have h0 : many = 0 := by simpa using hm
    have h4 : IntKind.i64.wrap ((pi.length : Int) + 1) = ((pi ++ [xi]).length : Int) := by
      rw [hes] at hl; simp at hl; rw [w64 (by omega) (by omega)]; simp
    unfold B3x0
    simp only [lawE, gt_zero, gt_succ, int_i, row_r, decide_eq_false hlen, cond_false, h4, bneI_false h0]
    rfl
  | m :: post, pre, hp, many, hm => by
    have hmem : m ∈ left := by rw [hp]; simp
    obtain ⟨pm, qm, xm, hem, hmm, _⟩ := lone_at es out left hK hmem
    have hlt : ((pre.length : Int) < ((left.map D.int).length : Int)) := by rw [List.length_map, hp]; simp; omega
    have h2 : inRow (pre.length : Int) (left.map D.int).length = true := inRow_yes (by omega) hlt
    have h3 : elAt (left.map D.int) (pre.length : Int) = .int (pm.length : Int) := by rw [hp, elAt_mid, hmm]
    have h5 : inRow (pm.length : Int) (es.map Bk.d).length = true := inRow_yes (by omega) (by rw [List.length_map, hem]; simp; omega)
    have h6 : inRow (pi.length : Int) (es.map Bk.d).length = true := inRow_yes (by omega) (by rw [List.length_map, hes]; simp; omega)
    have h7 : elAt (es.map Bk.d) (pm.length : Int) = xm.d := by rw [hem, elAt_mid]
    have h8 : elAt (es.map Bk.d) (pi.length : Int) = xi.d := by rw [hes, elAt_mid]
    have hlp : pre.length + (post.length + 1) ≤ 3000 := by rw [hp] at hf; simpa using hf
    have h9 : IntKind.i64.wrap ((pre.length : Int) + 1) = ((pre ++ [m]).length : Int) := by rw [w64 (by omega) (by omega)]; simp
    have hcl : post.countP (loneOf es xi.ref) ≤ post.length := List.countP_le_length
    have hone : loneOf es xi.ref m = decide (xm.ref = xi.ref) := by
      rw [hmm]; simp [loneOf, hem]
    rw [List.countP_cons, hone] at hm
    refine EvP.iter (EvP.congr (fun n k => ?_) (loop0 R pi qi xi hes a b c hR post (pre ++ [m]) (by simp [hp]) (post.countP (loneOf es xi.ref) : Int) rfl))
    unfold B3x0
    simp only [lawE, gt_zero, gt_succ, int_i, row_r, str_s, decide_eq_true hlt, cond_true, h2, h3, h5, h6, h7, h8, Bk.c3, Bool.and_true, h9]
    by_cases hr : xm.ref = xi.ref
    · rw [toList_beq hr]
      simp only [cond_true, Option.bind_some, gt_zero, int_i]
      rw [decide_eq_true hr] at hm
      have : IntKind.i64.wrap (many - 1) = (post.countP (loneOf es xi.ref) : Int) := by rw [w64 (by simp at hm; omega) (by simp at hm; omega)]; simp at hm; omega
      rw [this]
    · rw [toList_bne hr]
      simp only [cond_false, Option.bind_some, gt_zero, int_i]
      rw [decide_eq_false hr] at hm
      have : many = (post.countP (loneOf es xi.ref) : Int) := by simpa using hm
      rw [this]
include hK hl ho hf in
theorem loop1 (R : Nat → List D → Option (List D)) (pi qi : List Bk) (xi : Bk) (hes : es = pi ++ xi :: qi) (a b c : Int) {r : List D} (hR : Ev (fun n => R n (lawD es out left a b c ((pi ++ [xi]).length : Int))) r) : ∀ (post pre : List Sd), out = pre ++ post → ∀ many : Int, many = (post.countP (doneOf xi.ref) : Int) + (left.countP (loneOf es xi.ref) : Int) →
    EvP (fun n k => iter (B3x1 (R n)) k (lawE es out left a b c (pi.length : Int) many (pre.length : Int))) r
  | [], pre, hp, many, hm => by
    have h0 := loop0 es out left hK hl hf R pi qi xi hes a b c hR left [] rfl many (by simpa using hm)
    have hlen : ¬ ((pre.length : Int) < ((out.map Sd.d).length : Int)) := by rw [List.length_map, hp]; simp
    refine EvP.iter (EvP.congr (fun n k => ?_) h0)
    unfold B3x1
    simp only [lawE, gt_zero, gt_succ, int_i, row_r, decide_eq_false hlen, cond_false]
    rfl
  | y :: post, pre, hp, many, hm => by
    have hlt : ((pre.length : Int) < ((out.map Sd.d).length : Int)) := by rw [List.length_map, hp]; simp; omega
    have h2 : inRow (pre.length : Int) (out.map Sd.d).length = true := inRow_yes (by omega) hlt
    have h3 : elAt (out.map Sd.d) (pre.length : Int) = y.d := by rw [hp, elAt_mid]
    have h6 : inRow (pi.length : Int) (es.map Bk.d).length = true := inRow_yes (by omega) (by rw [List.length_map, hes]; simp; omega)
    have h8 : elAt (es.map Bk.d) (pi.length : Int) = xi.d := by rw [hes, elAt_mid]
    have hlp : pre.length + (post.length + 1) ≤ 3000 := by rw [hp] at ho; simpa using ho
    have h9 : IntKind.i64.wrap ((pre.length : Int) + 1) = ((pre ++ [y]).length : Int) := by rw [w64 (by omega) (by omega)]; simp
    have hcl : post.countP (doneOf xi.ref) ≤ post.length := List.countP_le_length
    have hcf : left.countP (loneOf es xi.ref) ≤ left.length := List.countP_le_length
    rw [List.countP_cons] at hm
    refine EvP.iter (EvP.congr (fun n k => ?_) (loop1 R pi qi xi hes a b c hR post (pre ++ [y]) (by simp [hp]) ((post.countP (doneOf xi.ref) : Int) + (left.countP (loneOf es xi.ref) : Int)) rfl))
    unfold B3x1
    simp only [lawE, gt_zero, gt_succ, int_i, row_r, str_s, decide_eq_true hlt, cond_true, h2, h3, h6, h8, Bk.c3, Sd.c0, Sd.c3, Bool.and_true, h9]
    by_cases hr : y.ref = xi.ref
    · rw [toList_beq hr]
      simp only [cond_true, Option.bind_some, gt_zero, bool_b]
      by_cases ha : y.answer ≥ 0
      · rw [decide_eq_true ha]
        simp only [cond_true, Option.bind_some, gt_zero, int_i]
        rw [show doneOf xi.ref y = true from decide_eq_true ⟨hr, ha⟩] at hm
        have : IntKind.i64.wrap (many - 1) = (post.countP (doneOf xi.ref) : Int) + (left.countP (loneOf es xi.ref) : Int) := by rw [w64 (by simp at hm; omega) (by simp at hm; omega)]; simp at hm; omega
        rw [this]
      · rw [decide_eq_false ha]
        simp only [cond_false, Option.bind_some, gt_zero, int_i]
        rw [show doneOf xi.ref y = false from decide_eq_false (fun h => ha h.2)] at hm
        have : many = (post.countP (doneOf xi.ref) : Int) + (left.countP (loneOf es xi.ref) : Int) := by simpa using hm
        rw [this]
    · rw [toList_bne hr]
      simp only [cond_false, Option.bind_some, gt_zero, int_i, bool_b]
      rw [show doneOf xi.ref y = false from decide_eq_false (fun h => hr h.1)] at hm
      have : many = (post.countP (doneOf xi.ref) : Int) + (left.countP (loneOf es xi.ref) : Int) := by simpa using hm
      rw [this]
include hK hl ho hf in
theorem loop2 (R : Nat → List D → Option (List D)) (pi qi : List Bk) (xi : Bk) (hes : es = pi ++ xi :: qi) (a b c : Int) {r : List D} (hR : Ev (fun n => R n (lawD es out left a b c ((pi ++ [xi]).length : Int))) r) : ∀ (post pre : List Bk), es = pre ++ post →
    EvP (fun n k => iter (B3x2 (R n)) k (lawE es out left a b c (pi.length : Int) (pre.countP (ansOf xi.ref) : Int) (pre.length : Int))) r
  | [], pre, hp => by
    have hp' : pre = es := by simpa using hp.symm
    subst hp'
    have h0 := loop1 pre out left hK hl ho hf R pi qi xi hes a b c hR out [] rfl (pre.countP (ansOf xi.ref) : Int) (by rw [hK.cnt xi.ref]; simp)
    have hlen : ¬ ((pre.length : Int) < ((pre.map Bk.d).length : Int)) := by rw [List.length_map]; omega
    refine EvP.iter (EvP.congr (fun n k => ?_) h0)
    unfold B3x2
    simp only [lawE, gt_zero, gt_succ, int_i, row_r, decide_eq_false hlen, cond_false]
    rfl
  | x :: post, pre, hp => by
    have hlt : ((pre.length : Int) < ((es.map Bk.d).length : Int)) := by rw [List.length_map, hp]; simp; omega
    have h2 : inRow (pre.length : Int) (es.map Bk.d).length = true := inRow_yes (by omega) hlt
    have h3 : elAt (es.map Bk.d) (pre.length : Int) = x.d := by rw [hp, elAt_mid]
    have h6 : inRow (pi.length : Int) (es.map Bk.d).length = true := inRow_yes (by omega) (by rw [List.length_map, hes]; simp; omega)
    have h8 : elAt (es.map Bk.d) (pi.length : Int) = xi.d := by rw [hes, elAt_mid]
    have hlp : pre.length + (post.length + 1) ≤ 3000 := by rw [hp] at hl; simpa using hl
    have h9 : IntKind.i64.wrap ((pre.length : Int) + 1) = ((pre ++ [x]).length : Int) := by rw [w64 (by omega) (by omega)]; simp
    have hcl : pre.countP (ansOf xi.ref) ≤ pre.length := List.countP_le_length
    have ih := loop2 R pi qi xi hes a b c hR post (pre ++ [x]) (by simp [hp])
    rw [List.countP_append, List.countP_cons, List.countP_nil] at ih
    refine EvP.iter (EvP.congr (fun n k => ?_) ih)
    unfold B3x2
    simp only [lawE, gt_zero, gt_succ, int_i, row_r, str_s, decide_eq_true hlt, cond_true, h2, h3, h6, h8, Bk.c0, Bk.c3, Bool.and_true, h9]
    by_cases hk : x.kind = 2
    · rw [beqI_true hk]
      simp only [cond_true, Option.bind_some, gt_zero, bool_b]
      by_cases hr : x.ref = xi.ref
      · rw [toList_beq hr, show ansOf xi.ref x = true from decide_eq_true ⟨hk, hr⟩]
        simp only [cond_true, Option.bind_some, gt_zero, int_i]
        rw [w64 (by omega) (by omega)]
        simp
      · rw [toList_bne hr, show ansOf xi.ref x = false from decide_eq_false (fun h => hr h.2)]
        simp [gt_zero, int_i]
    · rw [beqI_false hk, show ansOf xi.ref x = false from decide_eq_false (fun h => hk h.1)]
      simp [gt_zero, int_i, bool_b]
include hK hl ho hf in
theorem loop3 : ∀ (post pre : List Bk), es = pre ++ post →
    Ev (fun k => iter B3x3 k (lawD es out left (out.length : Int) (es.countP isAns : Int) (out.countP done : Int) (pre.length : Int))) [.bool true]
  | [], pre, hp => by
    have hp' : pre = es := by simpa using hp.symm
    subst hp'
    have hcl : out.countP done ≤ out.length := List.countP_le_length
    refine Ev.iter ?_
    unfold B3x3
    simp only [lawD, gt_zero, gt_succ, int_i, row_r, List.length_map]
    rw [decide_eq_false (by omega)]
    refine Ev.neg rfl (Ev.pos (beqI_true rfl) (Ev.pos (beqI_true ?_) (Ev.bind awake11 ?_)))
    · rw [w64 (by omega) (by omega), hK.all]; simp
    · simp only [gt_zero, bool_b]; exact Ev.now _
  | x :: post, pre, hp => by
    have ih := loop3 post (pre ++ [x]) (by simp [hp])
    have hlt : ((pre.length : Int) < ((es.map Bk.d).length : Int)) := by rw [List.length_map, hp]; simp; omega
    refine Ev.iterG fun go hgo => ?_
    have h2 := (loop2 es out left hK hl ho hf go pre post x hp (out.length : Int) (es.countP isAns : Int) (out.countP done : Int) (hgo _ _ ih) es [] rfl).diag
    refine Ev.congr (fun k => ?_) h2
    unfold B3x3
    simp only [lawD, lawE, gt_zero, gt_succ, int_i, row_r, decide_eq_true hlt, cond_true]
    rfl
include hK hl ho hf in
theorem loop4 : ∀ (post pre : List Int), left = pre ++ post →
    Ev (fun k => iter B3x4 k (lawD es out left (out.length : Int) (es.countP isAns : Int) (out.countP done : Int) (pre.length : Int))) [.bool true]
  | [], pre, hp => by
    have h0 := loop3 es out left hK hl ho hf es [] rfl
    have hlen : ¬ ((pre.length : Int) < ((left.map D.int).length : Int)) := by rw [List.length_map, hp]; simp
    refine Ev.iter (Ev.congr (fun k => ?_) h0)
    unfold B3x4
    simp only [lawD, gt_zero, gt_succ, int_i, row_r, decide_eq_false hlen, cond_false]
    rfl
  | m :: post, pre, hp => by
    have hmem : m ∈ left := by rw [hp]; simp
    obtain ⟨pm, qm, xm, hem, hmm, hk⟩ := lone_at es out left hK hmem
    have ih := loop4 post (pre ++ [m]) (by simp [hp])
    have hlt : ((pre.length : Int) < ((left.map D.int).length : Int)) := by rw [List.length_map, hp]; simp; omega
    have h2 : inRow (pre.length : Int) (left.map D.int).length = true := inRow_yes (by omega) hlt
    have h3 : elAt (left.map D.int) (pre.length : Int) = .int (pm.length : Int) := by rw [hp, elAt_mid, hmm]
    have hpm : (pm.length : Int) < ((es.map Bk.d).length : Int) := by rw [List.length_map, hem]; simp; omega
    have h5 : inRow (pm.length : Int) (es.map Bk.d).length = true := inRow_yes (by omega) hpm
    have h7 : elAt (es.map Bk.d) (pm.length : Int) = xm.d := by rw [hem, elAt_mid]
    have hlp : pre.length + (post.length + 1) ≤ 3000 := by rw [hp] at hf; simpa using hf
    have h9 : IntKind.i64.wrap ((pre.length : Int) + 1) = ((pre ++ [m]).length : Int) := by rw [w64 (by omega) (by omega)]; simp
    refine Ev.iterG fun go hgo => Ev.congr (fun k => ?_) (hgo _ _ ih)
    unfold B3x4
    simp only [lawD, gt_zero, gt_succ, int_i, row_r, decide_eq_true hlt, cond_true, h2, h3, h5, h7, Bk.c0, Bool.and_true, h9]
    rw [decide_eq_false (show ¬ ((pm.length : Int) < 0) by omega), decide_eq_false (show ¬ ((pm.length : Int) ≥ ((es.map Bk.d).length : Int)) by omega), bneI_false hk]
    simp [gt_zero, bool_b]
include hK hl ho hf in
theorem loop5 : ∀ (post pre : List Sd), out = pre ++ post →
    Ev (fun k => iter B3x5 k (lawD es out left (out.length : Int) (es.countP isAns : Int) (pre.countP done : Int) (pre.length : Int))) [.bool true]
  | [], pre, hp => by
    have hp' : pre = out := by simpa using hp.symm
    subst hp'
    have h0 := loop4 es pre left hK hl ho hf left [] rfl
    have hlen : ¬ ((pre.length : Int) < ((pre.map Sd.d).length : Int)) := by rw [List.length_map]; omega
    refine Ev.iter (Ev.congr (fun k => ?_) h0)
    unfold B3x5
    simp only [lawD, gt_zero, gt_succ, int_i, row_r, decide_eq_false hlen, cond_false]
    rfl
  | y :: post, pre, hp => by
    have ih := loop5 post (pre ++ [y]) (by simp [hp])
    rw [List.countP_append, List.countP_cons, List.countP_nil] at ih
    have hlt : ((pre.length : Int) < ((out.map Sd.d).length : Int)) := by rw [List.length_map, hp]; simp; omega
    have h2 : inRow (pre.length : Int) (out.map Sd.d).length = true := inRow_yes (by omega) hlt
    have h3 : elAt (out.map Sd.d) (pre.length : Int) = y.d := by rw [hp, elAt_mid]
    have hlp : pre.length + (post.length + 1) ≤ 3000 := by rw [hp] at ho; simpa using ho
    have h9 : IntKind.i64.wrap ((pre.length : Int) + 1) = ((pre ++ [y]).length : Int) := by rw [w64 (by omega) (by omega)]; simp
    have hcl : pre.countP done ≤ pre.length := List.countP_le_length
    have hy := hK.ok y (by rw [hp]; simp)
    refine Ev.iterG fun go hgo => Ev.congr (fun k => ?_) (hgo _ _ ih)
    unfold B3x5
    simp only [lawD, gt_zero, gt_succ, int_i, row_r, decide_eq_true hlt, cond_true, h2, h3, Sd.c1, Sd.c3, Sd.c4, Bool.and_true, h9]
    by_cases ha : y.answer ≥ 0
    · obtain ⟨_, h5, h6, _⟩ := hy.resolve_left (fun h => by omega)
      rw [decide_eq_true ha, decide_eq_false (show ¬ y.answer < y.time by omega), beqI_false (show y.verdict ≠ 0 by omega), show done y = true from decide_eq_true ha]
      simp only [cond_true, cond_false, Option.bind_some, gt_zero, bool_b]
      rw [w64 (by omega) (by omega)]
      simp
    · obtain ⟨h5, h6⟩ := hy.resolve_right (fun h => by omega)
      rw [decide_eq_false ha, bneI_false h5, bneI_false h6, show done y = false from decide_eq_false ha]
      simp [gt_zero, bool_b]
theorem map_split {α β : Type} {f : α → β} {g : List β} {b : β} {t : List β} : ∀ {l : List α}, l.map f = g ++ b :: t → ∃ l1 y l2, l = l1 ++ y :: l2 ∧ l1.length = g.length ∧ f y = b := by
  induction g with
  | nil =>
    intro l h
    cases l with
    | nil => simp at h
    | cons y l => simp at h; exact ⟨[], y, l, rfl, rfl, h.1⟩
  | cons c g ih =>
    intro l h
    cases l with
    | nil => simp at h
    | cons y l =>
      simp at h
      obtain ⟨l1, z, l2, h1, h2, h3⟩ := ih h.2
      exact ⟨y :: l1, z, l2, by rw [h1]; rfl, by simp [h2], h3⟩
include hK hl ho hf hef in
theorem loop6 : ∀ (post pre : List Bk), es = pre ++ post →
    Ev (fun k => iter B3x6 k (lawD es out left ((pre.filter isSent).length : Int) (pre.countP isAns : Int) 0 (pre.length : Int))) [.bool true]
  | [], pre, hp => by
    have hp' : pre = es := by simpa using hp.symm
    subst hp'
    have h0 := loop5 pre out left hK hl ho hf out [] rfl
    have hs : (pre.filter isSent).length = out.length := by
      have := congrArg List.length hK.sent
      simpa using this.symm
    rw [hs]
    have hlen : ¬ ((pre.length : Int) < ((pre.map Bk.d).length : Int)) := by rw [List.length_map]; omega
    refine Ev.iter (Ev.congr (fun k => ?_) h0)
    unfold B3x6
    simp only [lawD, gt_zero, gt_succ, int_i, row_r, decide_eq_false hlen, cond_false]
    rfl
  | x :: post, pre, hp => by
    have ih := loop6 post (pre ++ [x]) (by simp [hp])
    rw [List.countP_append, List.countP_cons, List.countP_nil, List.filter_append] at ih
    have hlt : ((pre.length : Int) < ((es.map Bk.d).length : Int)) := by rw [List.length_map, hp]; simp; omega
    have h2 : inRow (pre.length : Int) (es.map Bk.d).length = true := inRow_yes (by omega) hlt
    have h3 : elAt (es.map Bk.d) (pre.length : Int) = x.d := by rw [hp, elAt_mid]
    have hlp : pre.length + (post.length + 1) ≤ 3000 := by rw [hp] at hl; simpa using hl
    have h9 : IntKind.i64.wrap ((pre.length : Int) + 1) = ((pre ++ [x]).length : Int) := by rw [w64 (by omega) (by omega)]; simp
    have hcl : pre.countP isAns ≤ pre.length := List.countP_le_length
    have hfl : (pre.filter isSent).length ≤ pre.length := List.length_filter_le _ _
    have hk := (ef_zero (hef x (by rw [hp]; simp))).1
    refine Ev.iterG fun go hgo => Ev.congr (fun k => ?_) (hgo _ _ ih)
    unfold B3x6
    simp only [lawD, gt_zero, gt_succ, int_i, row_r, str_s, decide_eq_true hlt, cond_true, h2, h3, Bk.c0, Bk.c1, Bk.c2, Bk.c3, Bool.and_true, h9]
    by_cases h1 : x.kind = 1
    · have hsp : out.map Sd.key = (pre.filter isSent).map Bk.key ++ x.key :: (post.filter isSent).map Bk.key := by
        have := hK.sent
        rw [hp, List.filter_append, List.filter_cons_of_pos (show isSent x = true from decide_eq_true h1)] at this
        simpa using this
      obtain ⟨o1, y, o2, ho1, ho2, ho3⟩ := map_split hsp
      rw [List.length_map] at ho2
      simp only [Sd.key, Bk.key, Prod.mk.injEq] at ho3
      obtain ⟨k1, k2, k3⟩ := ho3
      have hlt2 : ((o1.length : Int) < ((out.map Sd.d).length : Int)) := by rw [List.length_map, ho1]; simp; omega
      have h5 : inRow (o1.length : Int) (out.map Sd.d).length = true := inRow_yes (by omega) hlt2
      have h6 : elAt (out.map Sd.d) (o1.length : Int) = y.d := by rw [ho1, elAt_mid]
      rw [← ho2]
      rw [beqI_true h1, decide_eq_false (show ¬ (o1.length : Int) ≥ ((out.map Sd.d).length : Int) by omega)]
      simp only [cond_true, cond_false, h5, h6, Sd.c0, Sd.c1, Sd.c2, str_s, int_i]
      rw [toList_beq k1, bneI_false k2, bneI_false k3]
      simp only [Bool.not_true, cond_false, cond_true, Option.bind_some, gt_zero, bool_b]
      rw [w64 (n := (o1.length : Int) + 1) (by omega) (by omega), show isAns x = false from decide_eq_false (by omega)]
      simp [show isSent x = true from decide_eq_true h1, ho2]
    · rw [beqI_false h1, w64 (n := (pre.countP isAns : Int) + 1) (by omega) (by omega), show isAns x = true from decide_eq_true (by omega)]
      simp [show isSent x = false from decide_eq_false h1]
end
theorem law3 (es : List Bk) (hx : ∀ x ∈ es, x.ok) : Ev (fun k => F3 k [.row (es.map Bk.d)]) [.bool true] := by
  unfold F3
  simp only [gt_zero, row_r]
  refine Ev.bind (book10 es hx) ?_
  by_cases h1 : cb es = 0
  · rw [if_neg (fun h => h h1)]
    simp only [gt_zero, gt_succ, row_r, int_i]
    obtain ⟨hl, hz⟩ := cb_zero h1
    have hr := run_len (l := es) (i := 0) (s := ([], [])) (Nat.le_refl _) (Nat.le_refl _)
    have hK := keeps_run (pre := []) keeps_nil (cb_chk h1)
    simp only [List.nil_append, List.length_nil] at hK
    refine Ev.neg rfl ?_
    exact loop6 es _ _ hK hl (by omega) (by omega) hz es [] rfl
  · rw [if_pos h1]
    simp only [gt_zero, gt_succ, row_r, int_i]
    refine Ev.pos (bneI_true h1) (Ev.pos rfl (Ev.pos rfl (Ev.bind awake11 ?_)))
    simp only [gt_zero, bool_b]
    exact Ev.now _
theorem pure3 : ∀ xs, GoodL (tyTab TL) ([22].flatMap fun t => (tyTab TL t).cells) xs → ∃ k, K3.f k xs = some [.bool true] := fun xs ⟨hl, hg⟩ => by
  obtain ⟨d, rfl⟩ : ∃ d, xs = [d] := List.length_eq_one_iff.1 hl
  obtain ⟨es, rfl, hx⟩ := bks_of (hg 0 _ d rfl rfl)
  exact (law3 es hx).ex
end Go.Sx
