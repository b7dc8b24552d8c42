/- The reckoner's data and the machine's memory: what stands for what; how it stays when the world goes on. -/
import Derived.Test.YtlhbonpdlghlbaaDoorSxDef
import Derived.Calls
import Derived.Below
import Derived.Maps.Keyed
set_option linter.unusedVariables false
set_option linter.unusedSimpArgs false
namespace Go.Sx

theorem add_off (b o j : Nat) : (⟨b, o, none⟩ : Addr).add j = ⟨b, o + j, none⟩ := by
  unfold Addr.add; split <;> simp_all

/-- Two lists, one by one. -/
inductive All2 {α β : Type} (R : α → β → Prop) : List α → List β → Prop
  | nil : All2 R [] []
  | cons {a b l m} (h : R a b) (t : All2 R l m) : All2 R (a :: l) (b :: m)
section
variable {α β : Type} {R S : α → β → Prop} {l : List α} {m : List β}
theorem All2.imp (h : ∀ a b, R a b → S a b) (f : All2 R l m) : All2 S l m := by
  induction f with
  | nil => exact .nil
  | cons a _ ih => exact .cons (h _ _ a) ih
theorem All2.len (f : All2 R l m) : l.length = m.length := by
  induction f with
  | nil => rfl
  | cons a _ ih => simp [ih]
theorem All2.get (f : All2 R l m) {i : Nat} {a : α} (h : l[i]? = some a) : ∃ b, m[i]? = some b ∧ R a b := by
  induction f generalizing i with
  | nil => simp at h
  | cons r _ ih =>
    cases i with
    | zero => exact ⟨_, rfl, by simp at h; subst h; exact r⟩
    | succ i => exact ih (by simpa using h)
theorem All2.append {l' : List α} {m' : List β} (f : All2 R l m) (g : All2 R l' m') : All2 R (l ++ l') (m ++ m') := by
  induction f with
  | nil => exact g
  | cons a _ ih => exact .cons a ih
theorem All2.take (f : All2 R l m) (n : Nat) : All2 R (l.take n) (m.take n) := by
  induction f generalizing n with
  | nil => simp; exact .nil
  | cons a _ ih => cases n with
    | zero => exact .nil
    | succ n => exact .cons a (ih n)
theorem All2.drop (f : All2 R l m) (n : Nat) : All2 R (l.drop n) (m.drop n) := by
  induction f generalizing n with
  | nil => simp; exact .nil
  | cons a t ih => cases n with
    | zero => exact .cons a t
    | succ n => exact ih n
theorem All2.of_get (hl : l.length = m.length) (h : ∀ (i : Nat) (a : α) (b : β), l[i]? = some a → m[i]? = some b → R a b) : All2 R l m := by
  induction l generalizing m with
  | nil => cases m with
    | nil => exact .nil
    | cons => simp at hl
  | cons a l ih => cases m with
    | nil => simp at hl
    | cons b m => exact .cons (h 0 a b rfl rfl) (ih (by simpa using hl) fun i a b ha hb => h (i + 1) a b (by simpa using ha) (by simpa using hb))
end

section
variable (T : Nat → TyI)

/-- A cell's value in memory that nobody changes any more. -/
inductive RepC (w : World) (I : Nat → Prop) : CT → D → Value → Prop
  | int (k : IntKind) (d : D) : RepC w I (.int k) d (.int k d.i)
  | bool (d : D) : RepC w I .bool d (.bool d.b)
  | str (d : D) : RepC w I .str d (.string d.s)
  | nil (e : Nat) (d : D) (a : Option Addr) (cap : Nat) (h : d.r = []) : RepC w I (.sl e) d (.slice a 0 cap)
  | sl (e : Nat) (d : D) (b off n cap : Nat) (u : Nat → Nat → Value) (hn : n = d.r.length) (hb : I b) (hc : n ≤ cap)
      (hl : ∀ i j, i < n → j < (T e).cells.length → w.cell? ⟨b, off + (i * (T e).cells.length + j), none⟩ = some (u i j))
      (hr : ∀ i j, i < n → j < (T e).cells.length → RepC w I ((T e).cells.getD j .other) (cellD T e (d.r.getD i (.int 0)) j) (u i j)) :
      RepC w I (.sl e) d (.slice (some ⟨b, off, none⟩) n cap)

variable {T}
theorem RepC.mono {w w' : World} {I I' : Nat → Prop} (hI : ∀ b, I b → I' b) (hw : ∀ b, I b → w'.heap[b]? = w.heap[b]?) {c : CT} {d : D} {v : Value}
    (h : RepC T w I c d v) : RepC T w' I' c d v := by
  induction h with
  | int k d => exact .int k d
  | bool d => exact .bool d
  | str d => exact .str d
  | nil e d a cap h => exact .nil e d a cap h
  | sl e d b off n cap u hn hb hc hl hr ih =>
    exact .sl e d b off n cap u hn (hI b hb) hc (fun i j hi hj => (World.cell?_of_block (a := ⟨b, _, none⟩) (hw b hb)).trans (hl i j hi hj)) ih
theorem RepC.one {w : World} {I : Nat → Prop} {c : CT} {d : D} {v : Value} (h : RepC T w I c d v) : v.oneCell' = true := by
  cases h <;> rfl
theorem RepC.row_len {w : World} {I : Nat → Prop} {e : Nat} {d : D} {v : Value} (h : RepC T w I (.sl e) d v) : ∃ a cap, v = .slice a d.r.length cap ∧ d.r.length ≤ cap := by
  cases h with
  | nil _ _ a cap h => exact ⟨a, cap, by rw [h]; rfl, by rw [h]; exact Nat.zero_le _⟩
  | sl _ _ b off n cap u hn hb hc hl hr => subst hn; exact ⟨_, cap, rfl, hc⟩
/-- Only what the row reads as counts. -/
theorem RepC.row_of {w : World} {I : Nat → Prop} {e : Nat} {d d' : D} {v : Value} (hd : d.r = d'.r) (h : RepC T w I (.sl e) d v) : RepC T w I (.sl e) d' v := by
  cases h with
  | nil _ _ a cap h => exact .nil _ d' a cap (hd ▸ h)
  | sl _ _ b off n cap u hn hb hc hl hr => exact .sl _ d' b off n cap u (hd ▸ hn) hb hc hl (hd ▸ hr)

/-- The block of a reference. -/
def blk : Value → Option Nat
  | .slice (some a) _ cap => if cap = 0 then none else some a.block
  | .pointer (some a) => some a.block
  | .map (some r) => some r
  | _ => none

section
variable (T) (w : World) (I : Nat → Prop) (φ : Nat → Option Value)

/-- The cells of an element. -/
def RepEl (e : Nat) (d : D) (cs : List Value) : Prop :=
  cs.length = (T e).cells.length ∧ ∀ (j : Nat) (u : Value), cs[j]? = some u → RepC T w I ((T e).cells.getD j .other) (cellD T e d j) u

def RelP : AV → Value → Prop
  | .ptr id off, v => ∃ b, φ id = some (.pointer (some ⟨b, 0, none⟩)) ∧ v = .pointer (some ⟨b, off, none⟩)
  | _, _ => False

/-- A cell's value. -/
def RelC : AV → Value → Prop
  | .undef, _ => True
  | .int k n, v => v = .int k n
  | .bool b, v => v = .bool b
  | .tb _ b, v => v = .bool b
  | .str s, v => v = .string s
  | .srow e l, v => RepC T w I (.sl e) (.row l) v
  | .frow e l, v => RepC T w I (.sl e) (.row l) v ∧ ∃ a, v = .slice a l.length l.length
  | .nilsl, v => v = .slice none 0 0
  | .esl, v => ∃ a, v = .slice a 0 0
  | .orow id, v => φ id = some v ∧ ∃ a n c, v = .slice a n c
  | .ptr id off, v => ∃ b, φ id = some (.pointer (some ⟨b, 0, none⟩)) ∧ v = .pointer (some ⟨b, off, none⟩)
  | .eptr e id i off, v => ∃ b n cap, φ id = some (.slice (some ⟨b, 0, none⟩) n cap) ∧ 0 ≤ i ∧ i < (n : Int) ∧ v = .pointer (some ⟨b, i.toNat * (T e).cells.length + off, none⟩)
  | .sptr e d off, v => ∃ b o, I b ∧ v = .pointer (some ⟨b, o, none⟩) ∧ ∀ j, off ≤ j → j < (T e).cells.length → ∃ u, w.cell? ⟨b, o + (j - off), none⟩ = some u ∧ RepC T w I ((T e).cells.getD j .other) (cellD T e d j) u
  | .nilptr, v => v = .pointer none
  | .clo f l, v => ∃ cs, v = .func (.func f) #[] cs ∧ All2 (RelP φ) l cs.toList
  | .nilfn, v => v = .nilFunc
  | .nilmap, v => v = .map none
  | .mapr id, v => φ id = some v ∧ ∃ r, v = .map (some r)
  | .skip, v => v = undef
  | .krow e l nil, v => RepC T w I (.sl e) (.row l) v ∧ ∃ a n c, v = .slice a n c ∧ a.isNone = nil
  | .nptr e d, v => ((d.c 0).b = true ∧ v = .pointer none) ∨ ((d.c 0).b = false ∧ ∃ b, I b ∧ v = .pointer (some ⟨b, 0, none⟩) ∧ ∀ j, j < (T e).cells.length → ∃ u, w.cell? ⟨b, j, none⟩ = some u ∧ RepC T w I ((T e).cells.getD j .other) (cellD T e (d.c 1) j) u)
  | _, _ => False

/-- A cell's value, or a struct. -/
def RelA : AV → Value → Prop
  | .agg l, v => ∃ cs, v = .agg cs ∧ All2 (RelC T w I φ) l cs.toList
  | a, v => RelC T w I φ a v
/-- .. or several results. -/
def RelV : AV → Value → Prop
  | .tup l, v => ∃ vs, v = .tuple vs ∧ All2 (RelA T w I φ) l vs.toList
  | a, v => RelA T w I φ a v

/-- A row of the call's own. -/
def OwnR (e : Nat) (l : List D) (v : Value) : Prop :=
  ∃ xs : List Value, ((l = [] ∧ xs = [] ∧ ∃ a, v = .slice a 0 0) ∨ (w.ownsRow 0 e (T e).cells.length v l.length xs ∧ blk v ≠ none)) ∧
    ∀ i j, i < l.length → j < (T e).cells.length → ∃ u, xs[i * (T e).cells.length + j]? = some u ∧ RepC T w I ((T e).cells.getD j .other) (cellD T e (l.getD i (.int 0)) j) u

/-- A key that was not taken out. -/
def free (tk : Option (ByteArray × Nat)) (key : Value) : Prop := ∀ s u, tk = some (s, u) → key ≠ .string s
/-- A map from strings, and the block in which it lies. own: its elements are rows of its own. -/
structure MapR (e : Nat) (own : Bool) (m : List D) (tk : Option (ByteArray × Nat)) (r : Nat) (es : Array MapEntry) (clock : Nat) : Prop where
  at_ : w.heap[r]? = some (.map es clock)
  size : es.size ≤ m.length
  small : m.length ≤ 9223372036854775807
  stamped : MapKept.Stamped es clock
  keys : ∀ x ∈ es.toList, ∃ s : ByteArray, x.key = .string s ∧ s.size ≤ 9223372036854775807 ∧ mHas m s = true
  all : ∀ s, mHas m s = true → ∃ x ∈ es.toList, x.key = .string s
  vals : own = false → ∀ x ∈ es.toList, ∀ s, x.key = .string s → ∀ z, RepC T w I ((T e).cells.getD 0 .other) (mGet m s z) x.val
  rows : own = true → ∀ x ∈ es.toList, ∀ s, x.key = .string s → free tk x.key → OwnR T w I e (mGet m s (.row [])).r x.val
  apart : own = true → ∀ x ∈ es.toList, ∀ y ∈ es.toList, free tk x.key → free tk y.key → ∀ b, blk x.val = some b → blk y.val = some b → x.key = y.key
  off : own = true → ∀ x ∈ es.toList, free tk x.key → blk x.val ≠ some r
  taken : ∀ s u, tk = some (s, u) → own = true ∧ ∃ v, φ u = some v ∧ (∀ x ∈ es.toList, x.key = .string s → x.val = v) ∧ (mHas m s = false → v = .slice none 0 0)
  known : own = true → (T e).cells ≠ []
def RelE (id : Nat) : Ent → Prop
  | .map e own m tk => ∃ r es clock, φ id = some (.map (some r)) ∧ MapR T w I φ e own m tk r es clock
  | .unborn => φ id = none
  | .dead => True
  | .row e l f => ∃ v, φ id = some v ∧ OwnR T w I e l v ∧ (f = true → ∃ a, v = .slice a l.length l.length) ∧ (T e).cells ≠ []
  | .frz e l => ∃ v, φ id = some v ∧ RepC T w I (.sl e) (.row l) v ∧ (T e).cells ≠ []
  | .box t cs => ∃ b vs, φ id = some (.pointer (some ⟨b, 0, none⟩)) ∧ w.heap[b]? = some (.cells vs t (0, 0)) ∧ All2 (RelC T w I φ) cs vs.toList ∧ (∀ u ∈ vs, u.oneCell' = true)
end

def live : Ent → Prop
  | .row _ _ _ => True
  | .box _ _ => True
  | .map _ _ _ _ => True
  | _ => False
/-- A block of a row that a map holds. -/
def hid (w : World) (E : Ent) (v : Value) (b : Nat) : Prop :=
  ∃ e m tk r es clock, E = .map e true m tk ∧ v = .map (some r) ∧ w.heap[r]? = some (.map es clock) ∧ ∃ x ∈ es.toList, free tk x.key ∧ blk x.val = some b
/-- The blocks of what is owned. -/
def has (w : World) (E : Ent) (v : Value) (b : Nat) : Prop := blk v = some b ∨ hid w E v b

/-- The memory and the table. U: the blocks that may be changed. -/
structure Mem (T : Nat → TyI) (U : Nat → Prop) (w : World) (I : Nat → Prop) (φ : Nat → Option Value) (h : Tab) : Prop where
  ent : ∀ id, RelE T w I φ id (h id)
  own : ∀ id v b, live (h id) → φ id = some v → has w (h id) v b → ¬ I b ∧ U b
  disj : ∀ id id' v v' b, live (h id) → live (h id') → φ id = some v → φ id' = some v' → has w (h id) v b → has w (h id') v' b → id = id'
  lt : ∀ b, I b → b < w.heap.size
  up : ∀ b, w.heap.size ≤ b → U b

/-- The world goes on: what is never changed stays, and what may not be changed. -/
structure Ext (U : Nat → Prop) (w : World) (I : Nat → Prop) (φ : Nat → Option Value) (w' : World) (I' : Nat → Prop) (φ' : Nat → Option Value) : Prop where
  os : w'.os = w.os
  tape : w'.tape = w.tape
  output : w'.output = w.output
  size : w.heap.size ≤ w'.heap.size
  keep : ∀ b, b < w.heap.size → ¬ U b → w'.heap[b]? = w.heap[b]?
  imm : ∀ b, I b → I' b
  same : ∀ b, I b → w'.heap[b]? = w.heap[b]?
  new : ∀ b, I' b → I b ∨ U b
  phi : ∀ id v, φ id = some v → φ' id = some v

section
variable {U : Nat → Prop} {w w' w'' : World} {I I' I'' : Nat → Prop} {φ φ' φ'' : Nat → Option Value}
theorem Ext.refl : Ext U w I φ w I φ := ⟨rfl, rfl, rfl, Nat.le_refl _, fun _ _ _ => rfl, fun _ h => h, fun _ _ => rfl, fun _ h => .inl h, fun _ _ h => h⟩
theorem Ext.trans (a : Ext U w I φ w' I' φ') (b : Ext U w' I' φ' w'' I'' φ'') : Ext U w I φ w'' I'' φ'' :=
  ⟨b.os.trans a.os, b.tape.trans a.tape, b.output.trans a.output, Nat.le_trans a.size b.size, fun k hk hu => (b.keep k (Nat.lt_of_lt_of_le hk a.size) hu).trans (a.keep k hk hu),
   fun k hk => b.imm k (a.imm k hk), fun k hk => (b.same k (a.imm k hk)).trans (a.same k hk), fun k hk => (b.new k hk).elim (fun h => a.new k h) .inr, fun id v h => b.phi id v (a.phi id v h)⟩
/-- The tables that the program's initialisers lay. -/
def tableOf (n : Nat) : Array Value :=
  match n with
  | 0 => ((List.range 20).map fun i => Value.int .u64 (10 ^ i)).toArray
  | _ => #[]
/-- The tables that are named at the type's number 4000000 (variable, table) are there and stay. -/
def Facts (T : Nat → TyI) (w : World) (I : Nat → Prop) : Prop := ∀ p ∈ (T 4000000).fields, I p.1 ∧ ∃ t fz, w.heap[p.1]? = some (.cells (tableOf p.2) t fz)
theorem Facts.ext {T : Nat → TyI} (h : Facts T w I) (x : Ext U w I φ w' I' φ') : Facts T w' I' := fun p hp => by
  obtain ⟨h1, t, fz, h2⟩ := h p hp
  exact ⟨x.imm _ h1, t, fz, (x.same _ h1).trans h2⟩
theorem facts_none {T : Nat → TyI} (h : (T 4000000).fields = []) : Facts T w I := fun p hp => by rw [h] at hp; simp at hp
theorem RepC.ext (x : Ext U w I φ w' I' φ') {c : CT} {d : D} {v : Value} (h : RepC T w I c d v) : RepC T w' I' c d v := h.mono x.imm x.same
theorem RelP.ext (x : Ext U w I φ w' I' φ') {a : AV} {v : Value} (h : RelP φ a v) : RelP φ' a v := by
  unfold RelP at h ⊢
  split at h
  · obtain ⟨b, h1, h2⟩ := h; exact ⟨b, x.phi _ _ h1, h2⟩
  · exact h.elim
theorem RelC.ext (x : Ext U w I φ w' I' φ') {a : AV} {v : Value} (h : RelC T w I φ a v) : RelC T w' I' φ' a v := by
  cases a <;> simp only [RelC] at h ⊢ <;> try exact h
  case srow => exact h.ext x
  case frow => exact ⟨h.1.ext x, h.2⟩
  case krow => exact ⟨h.1.ext x, h.2⟩
  case nptr =>
    rcases h with h | ⟨h0, b, h1, h2, h3⟩
    · exact .inl h
    · refine .inr ⟨h0, b, x.imm _ h1, h2, fun j hj => ?_⟩
      obtain ⟨u, hu, hr⟩ := h3 j hj
      exact ⟨u, (World.cell?_of_block (a := ⟨b, _, none⟩) (x.same b h1)).trans hu, hr.ext x⟩
  case orow => exact ⟨x.phi _ _ h.1, h.2⟩
  case mapr => exact ⟨x.phi _ _ h.1, h.2⟩
  case ptr => obtain ⟨b, h1, h2⟩ := h; exact ⟨b, x.phi _ _ h1, h2⟩
  case eptr => obtain ⟨b, n, cap, h1, h2⟩ := h; exact ⟨b, n, cap, x.phi _ _ h1, h2⟩
  case sptr =>
    obtain ⟨b, o, h1, h2, h3⟩ := h
    refine ⟨b, o, x.imm _ h1, h2, fun j hj hj' => ?_⟩
    obtain ⟨u, hu, hr⟩ := h3 j hj hj'
    exact ⟨u, (World.cell?_of_block (a := ⟨b, _, none⟩) (x.same b h1)).trans hu, hr.ext x⟩
  case clo => obtain ⟨cs, h1, h2⟩ := h; exact ⟨cs, h1, h2.imp (fun _ _ => RelP.ext x)⟩
theorem RelA.ext (x : Ext U w I φ w' I' φ') {a : AV} {v : Value} (h : RelA T w I φ a v) : RelA T w' I' φ' a v := by
  unfold RelA at h ⊢
  split at h
  · obtain ⟨cs, h1, h2⟩ := h; exact ⟨cs, h1, h2.imp (fun _ _ => RelC.ext x)⟩
  · exact RelC.ext x h
theorem RelV.ext (x : Ext U w I φ w' I' φ') {a : AV} {v : Value} (h : RelV T w I φ a v) : RelV T w' I' φ' a v := by
  unfold RelV at h ⊢
  split at h
  · obtain ⟨cs, h1, h2⟩ := h; exact ⟨cs, h1, h2.imp (fun _ _ => RelA.ext x)⟩
  · exact RelA.ext x h
theorem RelV.of_A {a : AV} {v : Value} (h : RelA T w I φ a v) : RelV T w I φ a v := by
  unfold RelV; split
  · simp [RelA, RelC] at h
  · exact h
theorem RelA.of_C {a : AV} {v : Value} (h : RelC T w I φ a v) : RelA T w I φ a v := by
  unfold RelA; split
  · simp [RelC] at h
  · exact h
theorem RelV.of_C {a : AV} {v : Value} (h : RelC T w I φ a v) : RelV T w I φ a v := .of_A (.of_C h)

theorem blk_own {v : Value} {b : Nat} (h : blk v = some b) (hs : ∃ a n c, v = .slice a n c) : v.ownBlock = some b := by
  obtain ⟨a, n, c, rfl⟩ := hs
  cases a with
  | none => simp [blk] at h
  | some a => simp only [blk] at h; split at h <;> simp_all [Value.ownBlock]
theorem owns_slice {e size n : Nat} {v : Value} {xs : List Value} (h : w.ownsRow 0 e size v n xs) : ∃ a n c, v = .slice a n c := by
  rcases h.2 with ⟨rfl, _⟩ | ⟨g, cap, cur, rfl, _⟩
  · exact ⟨_, _, _, rfl⟩
  · exact ⟨_, _, _, rfl⟩
theorem OwnR.of_owns {e : Nat} {l : List D} {v : Value} {xs : List Value} (h : w.ownsRow 0 e (T e).cells.length v l.length xs)
    (hr : ∀ i j, i < l.length → j < (T e).cells.length → ∃ u, xs[i * (T e).cells.length + j]? = some u ∧ RepC T w I ((T e).cells.getD j .other) (cellD T e (l.getD i (.int 0)) j) u) : OwnR T w I e l v := by
  by_cases hb : blk v = none
  · refine ⟨[], .inl ?_, ?_⟩
    · rcases h.2 with ⟨rfl, hn⟩ | ⟨g, cap, cur, rfl, _, hg, hnc, _⟩
      · exact ⟨List.eq_nil_of_length_eq_zero hn, rfl, _, rfl⟩
      · have : cap = 0 := by simp only [blk] at hb; split at hb <;> simp_all
        have hl : l.length = 0 := by omega
        exact ⟨List.eq_nil_of_length_eq_zero hl, rfl, some ⟨g, 0, none⟩, by rw [hl, this]⟩
    · intro i j hi hj
      rcases h.2 with ⟨rfl, hn⟩ | ⟨g, cap, cur, rfl, _, hg, hnc, _⟩
      · omega
      · have : cap = 0 := by simp only [blk] at hb; split at hb <;> simp_all
        omega
  · exact ⟨xs, .inr ⟨h, hb⟩, hr⟩
theorem OwnR.slice {e : Nat} {l : List D} {v : Value} (h : OwnR T w I e l v) : ∃ a c, v = .slice a l.length c ∧ l.length ≤ c := by
  obtain ⟨xs, h1, h2⟩ := h
  rcases h1 with ⟨rfl, rfl, a, rfl⟩ | ⟨h, _⟩
  · exact ⟨a, 0, rfl, Nat.le_refl _⟩
  · rcases h.2 with ⟨rfl, hn⟩ | ⟨g, cap, cur, rfl, _, hg, hnc, _⟩
    · exact ⟨none, 0, by rw [hn], by rw [hn]; exact Nat.le_refl _⟩
    · exact ⟨_, _, rfl, hnc⟩
theorem OwnR.lt {e : Nat} {l : List D} {v : Value} (h : OwnR T w I e l v) {b : Nat} (hb : blk v = some b) : b < w.heap.size := by
  obtain ⟨xs, h1, h2⟩ := h
  rcases h1 with ⟨rfl, rfl, a, rfl⟩ | ⟨h, _⟩
  · cases a <;> simp [blk] at hb
  · exact (h.lt b (blk_own hb (owns_slice h))).2
/-- The world goes on in one block that nobody owns, or behind all. -/
theorem OwnR.grown {row : Option Nat} {e : Nat} {l : List D} {v : Value} (h : OwnR T w I e l v) (x : Ext U w I φ w' I' φ') (hg : w.grownBy w' row) (hne : ∀ b, blk v = some b → row ≠ some b) : OwnR T w' I' e l v := by
  obtain ⟨xs, h1, h2⟩ := h
  have hk : w.ownsRow 0 e (T e).cells.length v l.length xs ∧ blk v ≠ none → w'.ownsRow 0 e (T e).cells.length v l.length xs ∧ blk v ≠ none := fun h => by
    refine ⟨h.1.kept hg (.inr ?_), h.2⟩
    obtain ⟨b, hb⟩ := Option.ne_none_iff_exists'.1 h.2
    rw [blk_own hb (owns_slice h.1)]
    exact fun e => hne b hb e.symm
  refine ⟨xs, h1.imp (fun h => h) hk, fun i j hi hj => ?_⟩
  obtain ⟨u, hu, hr⟩ := h2 i j hi hj
  exact ⟨u, hu, hr.ext x⟩
/-- A row of the call's own, as one that nobody changes. -/
theorem OwnR.rep {e : Nat} {l : List D} {v : Value} (h : OwnR T w I e l v) (hI : ∀ b, I b → I' b) (hv : ∀ b, blk v = some b → I' b) : RepC T w I' (.sl e) (.row l) v := by
  obtain ⟨xs, h1, h2⟩ := h
  rcases h1 with ⟨rfl, rfl, a, rfl⟩ | ⟨h, hb⟩
  · exact .nil e _ a 0 rfl
  · rcases h.2 with ⟨rfl, hn⟩ | ⟨g, cap, cur, rfl, _, hg, hnc, _, _, htake⟩
    · simp [blk] at hb
    · have hc : cap ≠ 0 := by simp only [blk] at hb; split at hb <;> simp_all
      have hcell := fun j u hu => h.cells (g := g) rfl j u hu
      refine .sl e (.row l) g 0 l.length cap (fun i j => xs.getD (i * (T e).cells.length + j) undef) rfl (hv g (by simp [blk, hc])) hnc (fun i j hi hj => ?_) (fun i j hi hj => ?_)
      · obtain ⟨u, hu, _⟩ := h2 i j hi hj
        have := hcell _ _ hu
        rw [add_off] at this
        have e : xs.getD (i * (T e).cells.length + j) undef = u := by rw [List.getD_eq_getElem?_getD, hu]; rfl
        rw [this, e]
      · obtain ⟨u, hu, hr⟩ := h2 i j hi hj
        have e : xs.getD (i * (T e).cells.length + j) undef = u := by rw [List.getD_eq_getElem?_getD, hu]; rfl
        rw [e]
        exact hr.mono hI (fun _ _ => rfl)

theorem Tab.upd_same (h : Tab) (id : Nat) (e : Ent) : h.upd id e id = e := by simp [Tab.upd]
theorem Tab.upd_other (h : Tab) {id j : Nat} (e : Ent) (hj : j ≠ id) : h.upd id e j = h j := by
  have : Nat.beq j id = false := by cases hb : Nat.beq j id; rfl; exact absurd (Nat.eq_of_beq_eq_true hb) hj
  simp [Tab.upd, this]
def setφ (φ : Nat → Option Value) (id : Nat) (v : Value) : Nat → Option Value := fun j => if j = id then some v else φ j

variable {h : Tab}
theorem OwnR.imm (x : Ext U w I φ w I' φ') {e : Nat} {l : List D} {v : Value} (h : OwnR T w I e l v) : OwnR T w I' e l v := by
  obtain ⟨xs, g1, g2⟩ := h
  exact ⟨xs, g1, fun i j hi hj => by obtain ⟨y, hy, hr⟩ := g2 i j hi hj; exact ⟨y, hy, hr.ext x⟩⟩
theorem MapR.go {e : Nat} {own : Bool} {m : List D} {tk : Option (ByteArray × Nat)} {r : Nat} {es : Array MapEntry} {clock : Nat} (x : Ext U w I φ w' I' φ') (hr : w'.heap[r]? = w.heap[r]?)
    (hv : own = true → ∀ y ∈ es.toList, free tk y.key → ∀ l, OwnR T w I e l y.val → OwnR T w' I' e l y.val) (h : MapR T w I φ e own m tk r es clock) : MapR T w' I' φ' e own m tk r es clock :=
  ⟨hr.trans h.at_, h.size, h.small, h.stamped, h.keys, h.all, fun ho y hy s hs z => (h.vals ho y hy s hs z).ext x, fun ho y hy s hs hf => hv ho y hy hf _ (h.rows ho y hy s hs hf), h.apart, h.off, fun s u ht => by
    obtain ⟨h1, v, h2, h3⟩ := h.taken s u ht
    exact ⟨h1, v, x.phi _ _ h2, h3⟩, h.known⟩
theorem has_row {e : Nat} {l : List D} {f : Bool} {v : Value} {b : Nat} : has w (.row e l f) v b ↔ blk v = some b := by
  constructor
  · rintro (h | ⟨_, _, _, _, _, _, h, _⟩)
    · exact h
    · cases h
  · exact .inl
theorem has_box {t : Nat} {cs : List AV} {v : Value} {b : Nat} : has w (.box t cs) v b ↔ blk v = some b := by
  constructor
  · rintro (h | ⟨_, _, _, _, _, _, h, _⟩)
    · exact h
    · cases h
  · exact .inl
theorem has_back {E : Ent} {v : Value} {b : Nat} (hr : ∀ r, v = .map (some r) → w'.heap[r]? = w.heap[r]?) (hh : has w' E v b) : has w E v b := by
  rcases hh with hh | ⟨e, m, tk, r, es, clock, h1, h2, h3, h4⟩
  · exact .inl hh
  · exact .inr ⟨e, m, tk, r, es, clock, h1, h2, (hr r h2).symm.trans h3, h4⟩
theorem live_slice {id : Nat} {E : Ent} {v : Value} (hl : live E) (hE : RelE T w I φ id E) (hv : φ id = some v) {r : Nat} (e : v = .map (some r)) : r < w.heap.size := by
  cases E <;> simp only [RelE] at hE <;> try exact hl.elim
  case row =>
    obtain ⟨v', h1, h2, _⟩ := hE
    obtain rfl := Option.some.inj (hv.symm.trans h1)
    obtain ⟨a, c, h3, _⟩ := h2.slice
    rw [e] at h3; cases h3
  case box =>
    obtain ⟨b, vs, h1, _⟩ := hE
    have := Option.some.inj (hv.symm.trans h1)
    rw [e] at this; cases this
  case map =>
    obtain ⟨r', es, clock, h1, h2⟩ := hE
    have := Option.some.inj (hv.symm.trans h1)
    rw [e] at this
    obtain rfl : r = r' := by simpa using this
    exact (Array.getElem?_eq_some_iff.1 h2.at_).1
/-- No owner has a block behind all. -/
theorem Mem.lt_has (hm : Mem T U w I φ h) {id : Nat} {v : Value} {b : Nat} (hl : live (h id)) (hv : φ id = some v) (hb : has w (h id) v b) : b < w.heap.size := by
  have he := hm.ent id
  cases hE : h id <;> rw [hE] at he hl hb <;> first | exact hl.elim | skip
  · obtain ⟨v', h1, h2, _⟩ := he
    obtain rfl := Option.some.inj (hv.symm.trans h1)
    exact h2.lt (has_row.1 hb)
  · obtain ⟨b', vs, h1, h2, _⟩ := he
    obtain rfl := Option.some.inj (hv.symm.trans h1)
    have hb := has_box.1 hb
    simp [blk] at hb
    subst hb
    exact (Array.getElem?_eq_some_iff.1 h2).1
  · obtain ⟨r, es, clock, h1, h2⟩ := he
    obtain rfl := Option.some.inj (hv.symm.trans h1)
    rcases hb with hb | ⟨e, m, tk, r', es', clock', h3, h4, h5, x, hx, hf, hbx⟩
    · simp [blk] at hb
      subst hb
      exact (Array.getElem?_eq_some_iff.1 h2.at_).1
    · cases h3
      obtain rfl : r = r' := by simpa using h4
      have h6 := h2.at_
      rw [h6] at h5
      cases h5
      obtain ⟨s, hs, _⟩ := h2.keys x hx
      exact (h2.rows rfl x hx s hs hf).lt hbx
theorem Mem.lt_own (hm : Mem T U w I φ h) {id : Nat} {v : Value} {b : Nat} (hl : live (h id)) (hv : φ id = some v) (hb : blk v = some b) : b < w.heap.size := hm.lt_has hl hv (.inl hb)
theorem RelE.phi {id : Nat} {E : Ent} (x : Ext U w I φ w I φ') (hid : φ' id = φ id) (r : RelE T w I φ id E) : RelE T w I φ' id E := by
  cases E <;> simp only [RelE] at r ⊢
  case unborn => rw [hid]; exact r
  case row => obtain ⟨v, h1, h2⟩ := r; exact ⟨v, hid.trans h1, h2⟩
  case frz => obtain ⟨v, h1, h2⟩ := r; exact ⟨v, hid.trans h1, h2⟩
  case box => obtain ⟨b, vs, h1, h2, h3, h4⟩ := r; exact ⟨b, vs, hid.trans h1, h2, h3.imp (fun _ _ => RelC.ext x), h4⟩
  case map => obtain ⟨r, es, clock, h1, h2⟩ := r; exact ⟨r, es, clock, hid.trans h1, h2.go x rfl (fun _ _ _ _ _ h => h)⟩

theorem Mem.kill (hm : Mem T U w I φ h) {id : Nat} (hid : φ id ≠ none) : Mem T U w I φ (h.upd id .dead) := by
  refine ⟨fun j => ?_, fun j v b hl hj hb => ?_, fun j j' v v' b hl hl' h1 h2 hb hb' => ?_, hm.lt, hm.up⟩
  · by_cases hj : j = id
    · subst hj; rw [Tab.upd_same]; trivial
    · rw [Tab.upd_other _ _ hj]; exact hm.ent j
  · by_cases hji : j = id
    · subst hji; rw [Tab.upd_same] at hl; exact hl.elim
    · rw [Tab.upd_other _ _ hji] at hl hb; exact hm.own j v b hl hj hb
  · by_cases hji : j = id
    · subst hji; rw [Tab.upd_same] at hl; exact hl.elim
    · by_cases hji' : j' = id
      · subst hji'; rw [Tab.upd_same] at hl'; exact hl'.elim
      · rw [Tab.upd_other _ _ hji] at hl hb; rw [Tab.upd_other _ _ hji'] at hl' hb'; exact hm.disj j j' v v' b hl hl' h1 h2 hb hb'

theorem Mem.grow (hm : Mem T U w I φ h) {row : Option Nat} (hg : w.grownBy w' row)
    (hrow : ∀ b, row = some b → ¬ I b ∧ U b ∧ ∀ id v, live (h id) → φ id = some v → ¬ has w (h id) v b) : Mem T U w' I φ h ∧ Ext U w I φ w' I φ := by
  have x : Ext U w I φ w' I φ := ⟨hg.os, hg.tape, hg.output, hg.size, fun b hb hu => hg.block b hb (fun e => hu (hrow b e.symm).2.1), fun _ h => h,
    fun b hb => hg.block b (hm.lt b hb) (fun e => (hrow b e.symm).1 hb), fun _ h => .inl h, fun _ _ h => h⟩
  have back : ∀ {id v b}, live (h id) → φ id = some v → has w' (h id) v b → has w (h id) v b := fun {id v b} hl hv hh => has_back (fun r e => hg.block r (live_slice hl (hm.ent id) hv e) (fun e' => (hrow r e'.symm).2.2 id v hl hv (.inl (by rw [e]; rfl)))) hh
  refine ⟨⟨fun id => ?_, fun id v b hl hv hb => hm.own id v b hl hv (back hl hv hb), fun id id' v v' b hl hl' hv hv' hb hb' => hm.disj id id' v v' b hl hl' hv hv' (back hl hv hb) (back hl' hv' hb'), fun b hb => Nat.lt_of_lt_of_le (hm.lt b hb) hg.size, fun b hb => hm.up b (Nat.le_trans hg.size hb)⟩, x⟩
  have r := hm.ent id
  have hh := fun b e' v hl hv => (hrow b e').2.2 id v hl hv
  cases hE : h id <;> rw [hE] at r hh <;> simp only [RelE] at r ⊢ <;> try exact r
  case row e l f =>
    obtain ⟨v, h1, h2, h3⟩ := r
    exact ⟨v, h1, h2.grown x hg (fun b hb e' => hh b e' v trivial h1 (.inl hb)), h3⟩
  case frz => obtain ⟨v, h1, h2, h3⟩ := r; exact ⟨v, h1, h2.ext x, h3⟩
  case box =>
    obtain ⟨b, vs, h1, h2, h3, h4⟩ := r
    exact ⟨b, vs, h1, (hg.block b (Array.getElem?_eq_some_iff.1 h2).1 (fun e' => hh b e'.symm _ trivial h1 (.inl rfl))).trans h2, h3.imp (fun _ _ => RelC.ext x), h4⟩
  case map e own m tk =>
    obtain ⟨r, es, clock, h1, h2⟩ := r
    refine ⟨r, es, clock, h1, h2.go x (hg.block r (Array.getElem?_eq_some_iff.1 h2.at_).1 (fun e' => hh r e'.symm _ trivial h1 (.inl rfl))) (fun ho y hy hf l hl => hl.grown x hg (fun b hb e' => hh b e' _ trivial h1 (.inr ?_)))⟩
    subst ho
    exact ⟨e, m, tk, r, es, clock, rfl, rfl, h2.at_, y, hy, hf, hb⟩

theorem Mem.add (hm : Mem T U w I φ h) {id : Nat} {v : Value} {E : Ent} (hφ : φ id = none ∨ φ id = some v) (hE : RelE T w I (setφ φ id v) id E)
    (ho : live E → ∀ b, has w E v b → ¬ I b ∧ U b ∧ ∀ id' v', id' ≠ id → live (h id') → φ id' = some v' → ¬ has w (h id') v' b) :
    Mem T U w I (setφ φ id v) (h.upd id E) ∧ Ext U w I φ w I (setφ φ id v) := by
  have x : Ext U w I φ w I (setφ φ id v) := ⟨rfl, rfl, rfl, Nat.le_refl _, fun _ _ _ => rfl, fun _ h => h, fun _ _ => rfl, fun _ h => .inl h, fun j u hj => by
    unfold setφ
    split
    · subst_vars; rcases hφ with hφ | hφ
      · rw [hφ] at hj; cases hj
      · rw [hφ] at hj; exact hj
    · exact hj⟩
  have hsame : setφ φ id v id = some v := by simp [setφ]
  have hoth : ∀ j, j ≠ id → setφ φ id v j = φ j := fun j hj => by simp [setφ, hj]
  refine ⟨⟨fun j => ?_, fun j u b hl hj hb => ?_, fun j j' u u' b hl hl' h1 h2 hb hb' => ?_, hm.lt, hm.up⟩, x⟩
  · by_cases hj : j = id
    · subst hj; rw [Tab.upd_same]; exact hE
    · rw [Tab.upd_other _ _ hj]; exact (hm.ent j).phi x (hoth j hj)
  · by_cases hji : j = id
    · subst hji
      rw [Tab.upd_same] at hl hb
      obtain rfl : u = v := Option.some.inj (hj.symm.trans hsame)
      exact ⟨(ho hl b hb).1, (ho hl b hb).2.1⟩
    · rw [Tab.upd_other _ _ hji] at hl hb
      exact hm.own j u b hl ((hoth j hji).symm.trans hj) hb
  · by_cases hji : j = id
    · by_cases hji' : j' = id
      · rw [hji, hji']
      · rw [hji] at h1 hl hb
        rw [Tab.upd_same] at hl hb
        rw [Tab.upd_other _ _ hji'] at hl' hb'
        obtain rfl : u = v := Option.some.inj (h1.symm.trans hsame)
        exact absurd hb' ((ho hl b hb).2.2 j' u' hji' hl' ((hoth j' hji').symm.trans h2))
    · by_cases hji' : j' = id
      · rw [hji'] at h2 hl' hb'
        rw [Tab.upd_same] at hl' hb'
        rw [Tab.upd_other _ _ hji] at hl hb
        obtain rfl : u' = v := Option.some.inj (h2.symm.trans hsame)
        exact absurd hb ((ho hl' b hb').2.2 j u hji hl ((hoth j hji).symm.trans h1))
      · rw [Tab.upd_other _ _ hji] at hl hb
        rw [Tab.upd_other _ _ hji'] at hl' hb'
        exact hm.disj j j' u u' b hl hl' ((hoth j hji).symm.trans h1) ((hoth j' hji').symm.trans h2) hb hb'

/-- More blocks are never changed again. -/
theorem RelE.imm {id : Nat} {E : Ent} (x : Ext U w I φ w I' φ) (r : RelE T w I φ id E) : RelE T w I' φ id E := by
  cases E <;> simp only [RelE] at r ⊢ <;> try exact r
  case row => obtain ⟨u, h1, h2, h3⟩ := r; exact ⟨u, h1, h2.imm x, h3⟩
  case frz => obtain ⟨u, h1, h2, h3⟩ := r; exact ⟨u, h1, h2.ext x, h3⟩
  case box => obtain ⟨b, vs, h1, h2, h3, h4⟩ := r; exact ⟨b, vs, h1, h2, h3.imp (fun _ _ => RelC.ext x), h4⟩
  case map => obtain ⟨r, es, clock, h1, h2⟩ := r; exact ⟨r, es, clock, h1, h2.go x rfl (fun _ _ _ _ _ hl => hl.imm x)⟩
/-- What was owned is never changed again. -/
theorem Mem.freeze (hm : Mem T U w I φ h) {id e : Nat} {l : List D} {f : Bool} (hE : h id = .row e l f) :
    ∃ I', Mem T U w I' φ (h.upd id (.frz e l)) ∧ Ext U w I φ w I' φ ∧ ∃ v, φ id = some v ∧ RepC T w I' (.sl e) (.row l) v := by
  have r := hm.ent id
  rw [hE] at r
  obtain ⟨v, hv, ho, hf, hT⟩ := r
  have hlive : live (h id) := by rw [hE]; trivial
  let I' : Nat → Prop := fun b => I b ∨ blk v = some b
  have x : Ext U w I φ w I' φ := ⟨rfl, rfl, rfl, Nat.le_refl _, fun _ _ _ => rfl, fun _ h => .inl h, fun _ _ => rfl,
    fun b h => h.elim .inl (fun hb => .inr (hm.own id v b hlive hv (.inl hb)).2), fun _ _ h => h⟩
  have hrep : RepC T w I' (.sl e) (.row l) v := ho.rep (fun _ h => .inl h) (fun _ h => .inr h)
  have hno : ∀ j u b, live ((h.upd id (.frz e l)) j) → φ j = some u → has w ((h.upd id (.frz e l)) j) u b → j ≠ id ∧ live (h j) ∧ has w (h j) u b ∧ ¬ blk v = some b := fun j u b hl hj hb => by
    by_cases hji : j = id
    · subst hji; rw [Tab.upd_same] at hl; exact hl.elim
    · rw [Tab.upd_other _ _ hji] at hl hb
      exact ⟨hji, hl, hb, fun hb' => hji (hm.disj j id u v b hl hlive hj hv hb (.inl hb'))⟩
  refine ⟨I', ⟨fun j => ?_, fun j u b hl hj hb => ?_, fun j j' u u' b hl hl' h1 h2 hb hb' => ?_, fun b hb => ?_, hm.up⟩, x, v, hv, hrep⟩
  · by_cases hji : j = id
    · subst hji; rw [Tab.upd_same]; exact ⟨v, hv, hrep, hT⟩
    · rw [Tab.upd_other _ _ hji]
      exact (hm.ent j).imm x
  · obtain ⟨hji, hl', hb1, hnb⟩ := hno j u b hl hj hb
    exact ⟨fun hI => hI.elim (hm.own j u b hl' hj hb1).1 hnb, (hm.own j u b hl' hj hb1).2⟩
  · obtain ⟨_, hl1, hb1, _⟩ := hno j u b hl h1 hb
    obtain ⟨_, hl2, hb2, _⟩ := hno j' u' b hl' h2 hb'
    exact hm.disj j j' u u' b hl1 hl2 h1 h2 hb1 hb2
  · rcases hb with hb | hb
    · exact hm.lt b hb
    · exact ho.lt hb
end
end
end Go.Sx
