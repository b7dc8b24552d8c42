/- Each operation of the reckoner tells what the machine does. -/
import Derived.Test.YtlhbonpdlghlbaaDoorSxRel
import Derived.Laws.BytesString
import Derived.Deep.MidRow
import Derived.Deep.Upon
import Derived.Laws.StructEq
import Derived.Laws.IdiomStrings
import Derived.Lib.SliceRun
set_option linter.unusedVariables false
set_option linter.unusedSimpArgs false
namespace Go.Sx

section run
variable {α β R : Type} {K : α → Tab → List Nat → List Nat → Option R} {h : Tab} {r w : List Nat} {x : R}
theorem run_bind (m : M β) (f : β → M α) (h : Tab) (r w : List Nat) : (m.bind f).run K h r w = m.run (fun a h r w => (f a).run K h r w) h r w := by
  induction m generalizing h r w with
  | ret a => rfl
  | fail => rfl
  | br b x y ihx ihy => simp only [M.bind, M.run, ihx, ihy]
  | chk b k ih => simp only [M.bind, M.run, ih]
  | get id k ih => simp only [M.bind, M.run, ih]
  | put id e k ih => simp only [M.bind, M.run, ih]
theorem run_ret (a : α) : (M.ret a).run K h r w = K a h r w := rfl
theorem run_fail : (M.fail : M α).run K h r w = none := rfl
theorem run_chk {b : Bool} {k : M α} : (M.chk b k).run K h r w = some x ↔ b = true ∧ k.run K h r w = some x := by
  cases b <;> simp [M.run]
theorem run_br {b : Bool} {k l : M α} : (M.br b k l).run K h r w = if b = true then k.run K h r w else l.run K h r w := by
  cases b <;> rfl
theorem run_get {id : Nat} {k : Ent → M α} : (M.get id k).run K h r w = (k (h id)).run K h (id :: r) w := rfl
theorem run_put {id : Nat} {e : Ent} {k : M α} : (M.put id e k).run K h r w = k.run K (h.upd id e) r (id :: w) := rfl
theorem run_new {K : Unit → Tab → List Nat → List Nat → Option R} {id : Nat} {e : Ent} : (M.new id e).run K h r w = some x ↔ h id = .unborn ∧ K () (h.upd id e) (id :: r) (id :: w) = some x := by
  unfold M.new
  rw [run_get]
  cases h id <;> simp [run_put, run_ret, run_fail]
end run

/-- The zero of a cell. -/
def zeroVal : CT → Value
  | .int k => .int k 0
  | .bool => .bool false
  | .str => .string ⟨#[]⟩
  | .sl _ => .slice none 0 0
  | .ptr => .pointer none
  | .fn => .nilFunc
  | .map _ _ => .map none
  | .other => .nilIface
def descOK (d : TypeDesc) (i : TyI) : Bool :=
  match d with
  | .int k => !i.agg && decide (i.cells = [.int k])
  | .bool => !i.agg && decide (i.cells = [.bool])
  | .string => !i.agg && decide (i.cells = [.str])
  | .slice e => !i.agg && decide (i.cells = [.sl e])
  | .pointer _ => !i.agg && decide (i.cells = [.ptr])
  | .func _ _ _ => !i.agg && decide (i.cells = [.fn])
  | .map k e => !i.agg && decide (i.cells = [.map k e])
  | .interface _ => !i.agg && decide (i.cells = [.other])
  | .struct fs => i.agg && (decide (i.fields = fs.toList.map fun f => (f.offset, f.type)) && decide (i.arr = none))
  | .array n e => i.agg && (decide (i.fields = []) && (decide (i.arr = some e) && decide (i.cells.length = n)))
  | _ => false
/-- What the table says of a type is true. -/
structure TyOK (P : Program) (T : Nat → TyI) (t : Nat) : Prop where
  ex : ∃ i d, P.info? t = some i ∧ P.underlying t = some d ∧ i.size = (T t).cells.length ∧ i.bytes = (T t).bytes ∧ descOK d (T t) = true ∧
    i.zero = some (if (T t).agg then .agg ((T t).cells.map zeroVal).toArray else zeroVal ((T t).cells.getD 0 .other))
  fields : ∀ (f off ft : Nat), (T t).fields[f]? = some (off, ft) → (T ft).cells ≠ [] ∧ (T ft).cells = ((T t).cells.drop off).take (T ft).cells.length ∧ off + (T ft).cells.length ≤ (T t).cells.length
/-- A struct of scalars, compared field by field. -/
structure EqOK (P : Program) (T : Nat → TyI) (t : Nat) : Prop where
  stood : P.stoodInHeld t = false
  guard : P.eqGuardType P.depth t = false
  ex : ∃ fs, P.underlying t = some (.struct fs) ∧ fs.size = (T t).cells.length ∧ ∀ (n : Nat) (f : Field), fs[n]? = some f → f.offset = n ∧ (f.name == "_") = false ∧ (T f.type).agg = false ∧ (T f.type).cells = [(T t).cells.getD n .other]
def TOK (P : Program) (T : Nat → TyI) : Prop := ∀ t, (T t).cells ≠ [] → TyOK P T t
def EOK (P : Program) (T : Nat → TyI) : Prop := ∀ t, (T t).eq = true → EqOK P T t

section
variable {P : Program} {T : Nat → TyI} {U : Nat → Prop} {w : World} {I : Nat → Prop} {φ : Nat → Option Value} {h : Tab}
theorem kn_iff {t : Nat} : kn T t = true ↔ (T t).cells ≠ [] := by
  unfold kn
  cases hc : (T t).cells <;> simp [Nat.blt]

/-- What an operation came to, in the machine. -/
def StepOK (P : Program) (T : Nat → TyI) (U : Nat → Prop) (ρ' : Operand → Value) (o : Oper) (w : World) (I : Nat → Prop) (φ : Nat → Option Value) (av : AV) (h' : Tab) : Prop :=
  ∃ nx w' I' φ', (execOp ρ' o).run P w = .ok nx w' ∧ Mem T U w' I' φ' h' ∧ Ext U w I φ w' I' φ' ∧ ((∃ v, nx = .value v ∧ RelV T w' I' φ' av v) ∨ (nx = .skip ∧ av = .undef))

variable {ρ : Operand → AV} {ρ' : Operand → Value} {o : Oper}
theorem StepOK.same (hm : Mem T U w I φ h) {av : AV} {v : Value} (hr : (execOp ρ' o).run P w = .ok (.value v) w) (hv : RelV T w I φ av v) : StepOK P T U ρ' o w I φ av h :=
  ⟨_, w, I, φ, hr, hm, .refl, .inl ⟨v, rfl, hv⟩⟩

theorem relV_int {k : IntKind} {n : Int} {v : Value} (h : RelV T w I φ (.int k n) v) : v = .int k n := h
theorem relV_bool {b : Bool} {v : Value} (h : RelV T w I φ (.bool b) v) : v = .bool b := h
theorem relV_str {b : ByteArray} {v : Value} (h : RelV T w I φ (.str b) v) : v = .string b := h

theorem bopi_sound {R : Type} {K : AV → Tab → List Nat → List Nat → Option R} {r ws : List Nat} {x : R} (op : BinOp) (k : IntKind) (a b : Int) (hno : op ≠ .shl ∧ op ≠ .shr)
    (hr : (bopi op k a b).run K h r ws = some x) : ∃ av v, K av h r ws = some x ∧ (binOp op 0 (.int k a) (.int k b)).run P w = .ok v w ∧ RelC T w I φ av v := by
  obtain ⟨h1, h2⟩ := hno
  cases op <;> simp only [bopi] at hr <;> first | exact absurd rfl h1 | exact absurd rfl h2 | (simp only [run_fail] at hr; cases hr; done) | skip
  case quo =>
    rw [run_br] at hr
    split at hr
    · simp [run_fail] at hr
    · rename_i hb
      have hb' : ¬ b = 0 := by simpa using hb
      exact ⟨_, _, hr, by simp [binOp, Op.intDiv, hb'], rfl⟩
  case rem =>
    rw [run_br] at hr
    split at hr
    · simp [run_fail] at hr
    · rename_i hb
      have hb' : ¬ b = 0 := by simpa using hb
      exact ⟨_, _, hr, by simp [binOp, Op.intDiv, hb'], rfl⟩
  case and => exact ⟨_, _, hr, by simp [binOp, Op.intBits, bitsI], rfl⟩
  case or => exact ⟨_, _, hr, by simp [binOp, Op.intBits, bitsI], rfl⟩
  case xor => exact ⟨_, _, hr, by simp [binOp, Op.intBits, bitsI], rfl⟩
  case andNot => exact ⟨_, _, hr, by simp [binOp, Op.intBits, bitsI], rfl⟩
  all_goals exact ⟨_, _, hr, by simp [binOp, Op.intArith, Op.intCmp], rfl⟩

theorem TyOK.row {t : Nat} (hT : TyOK P T t) (ha : (T t).agg = true) : ∃ i d, P.info? t = some i ∧ P.underlying t = some d ∧ i.size = (T t).cells.length ∧ d.isRow = true := by
  obtain ⟨i, d, hi, hu, hs, hb, hd, hz⟩ := hT.ex
  cases d <;> simp [descOK, ha] at hd <;> exact ⟨i, _, hi, hu, hs, rfl⟩
theorem TyOK.struct {t : Nat} (hT : TyOK P T t) (ha : (T t).agg = true) (hf : (T t).fields ≠ []) : ∃ i fs, P.info? t = some i ∧ P.underlying t = some (.struct fs) ∧ i.size = (T t).cells.length ∧
    i.zero = some (.agg ((T t).cells.map zeroVal).toArray) ∧ (T t).fields = fs.toList.map fun f => (f.offset, f.type) := by
  obtain ⟨i, d, hi, hu, hs, hb, hd, hz⟩ := hT.ex
  rw [ha] at hz
  simp only [if_true] at hz
  cases d <;> simp [descOK, ha] at hd
  · exact absurd hd.1 hf
  · exact ⟨i, _, hi, hu, hs, hz, hd.1⟩
theorem TyOK.cell {t : Nat} (hT : TyOK P T t) (ha : (T t).agg = false) : ∃ i d c, P.info? t = some i ∧ P.underlying t = some d ∧ i.size = 1 ∧ i.bytes = (T t).bytes ∧ (T t).cells = [c] ∧ i.zero = some (zeroVal c) ∧ (match d with | .struct _ | .array _ _ => true | _ => false) = false ∧ descOK d (T t) = true := by
  obtain ⟨i, d, hi, hu, hs, hb, hd, hz⟩ := hT.ex
  have hd' := hd
  rw [ha] at hz
  cases d <;> simp [descOK, ha] at hd
  all_goals exact ⟨i, _, _, hi, hu, by rw [hs, hd]; rfl, hb, hd, by rw [hz, hd]; rfl, rfl, hd'⟩
theorem slE_ok (hT : TOK P T) {t e : Nat} (h : slE T t = some e) : (T t).agg = false ∧ (T t).cells = [.sl e] ∧ P.underlying t = some (.slice e) := by
  unfold slE at h
  split at h
  · rename_i e' fs b q ar heq
    obtain rfl : e' = e := Option.some.inj h
    have hc : (T t).cells = [.sl e'] := by rw [heq]
    have ha : (T t).agg = false := by rw [heq]
    obtain ⟨i, d, c, hi, hu, _, _, hcc, _, _, hd⟩ := (hT t (by rw [hc]; simp)).cell ha
    refine ⟨ha, hc, ?_⟩
    cases d <;> simp [descOK, ha, hc] at hd
    rw [hu, hd]
  · cases h
theorem isU8_ok (hT : TOK P T) {e : Nat} (h : isU8 T e = true) : (T e).agg = false ∧ (T e).cells = [.int .u8] ∧ P.underlying e = some (.int .u8) := by
  unfold isU8 at h
  split at h
  · rename_i fs b q ar heq
    have hc : (T e).cells = [.int .u8] := by rw [heq]
    have ha : (T e).agg = false := by rw [heq]
    obtain ⟨i, d, c, hi, hu, _, _, hcc, _, _, hd⟩ := (hT e (by rw [hc]; simp)).cell ha
    refine ⟨ha, hc, ?_⟩
    cases d <;> simp [descOK, ha, hc] at hd
    rw [hu, hd]
  · cases h
theorem bytes_info (hT : TOK P T) {e : Nat} (h : (T e).cells ≠ []) : ∃ i z, P.info? e = some i ∧ i.size = (T e).cells.length ∧ i.bytes = (T e).bytes ∧ i.zero = some z ∧ z.cells.size = (T e).cells.length := by
  obtain ⟨i, d, hi, hu, hs, hb, hd, hz⟩ := (hT e h).ex
  refine ⟨i, _, hi, hs, hb, hz, ?_⟩
  cases ha : (T e).agg
  · obtain ⟨_, _, c, _, _, _, _, hc, _⟩ := (hT e h).cell ha
    simp [hc]
    cases c <;> rfl
  · simp [Value.cells]

theorem relC_one {a : AV} {v : Value} (h : RelC T w I φ a v) (hf : fullC a = true) : v.oneCell' = true := by
  cases a <;> simp only [fullC, Bool.false_eq_true] at hf <;> simp only [RelC] at h
  case srow => exact h.one
  case frow => exact h.1.one
  case esl => obtain ⟨a, rfl⟩ := h; rfl
  case orow => obtain ⟨_, a, n, c, rfl⟩ := h; rfl
  case ptr => obtain ⟨b, _, rfl⟩ := h; rfl
  case eptr => obtain ⟨b, n, cap, _, _, _, rfl⟩ := h; rfl
  case sptr => obtain ⟨b, o, _, rfl, _⟩ := h; rfl
  case clo => obtain ⟨cs, rfl, _⟩ := h; rfl
  all_goals first | (subst h; rfl) | skip
  all_goals exact h
theorem fullL_mem : ∀ {l : List AV}, fullL l = true → ∀ a ∈ l, fullC a = true
  | [], _, a, ha => by simp at ha
  | b :: l, h, a, ha => by
    simp only [fullL, Bool.and_eq_true] at h
    rcases List.mem_cons.1 ha with rfl | ha
    · exact h.1
    · exact fullL_mem h.2 a ha
theorem all2_one {l : List AV} {cs : List Value} (h : All2 (RelC T w I φ) l cs) (hf : fullL l = true) : ∀ u ∈ cs, u.oneCell' = true := by
  induction h with
  | nil => intro u hu; simp at hu
  | cons r _ ih =>
    simp only [fullL, Bool.and_eq_true] at hf
    intro u hu
    rcases List.mem_cons.1 hu with rfl | hu
    · exact relC_one r hf.1
    · exact ih hf.2 u hu
theorem zero_rel (c : CT) : RelC T w I φ (zeroC c) (zeroVal c) := by cases c <;> simp [zeroC, zeroVal, RelC]
theorem zeros_rel (l : List CT) : All2 (RelC T w I φ) (l.map zeroC) (l.map zeroVal) := by
  induction l with
  | nil => exact .nil
  | cons c l ih => exact .cons (zero_rel c) ih
theorem zero_one (c : CT) : (zeroVal c).oneCell' = true := by cases c <;> rfl
/-- A value's cells. -/
theorem cells_rel {a : AV} {v : Value} (h : RelA T w I φ a v) (hf : fullL (cellsV a) = true ∨ v.oneCell' = true) : All2 (RelC T w I φ) (cellsV a) v.cells.toList := by
  unfold RelA at h
  split at h
  · obtain ⟨cs, rfl, h⟩ := h; exact h
  · rename_i hno
    have hc : cellsV a = [a] := by
      cases a <;> first | rfl | (rename_i l; exact absurd rfl (hno l))
    rw [hc] at hf ⊢
    have h1 : v.oneCell' = true := hf.elim (fun hf => relC_one h (by simpa [fullL] using hf)) (fun h => h)
    have : v.cells = #[v] := by cases v <;> first | rfl | (cases h1)
    rw [this]
    exact .cons h .nil
theorem relA_of_V {a : AV} {v : Value} (h : RelV T w I φ a v) (ht : ∀ l, a ≠ .tup l) : RelA T w I φ a v := by
  unfold RelV at h
  split at h
  · exact absurd rfl (ht _)
  · exact h
theorem relA_of_full {a : AV} {v : Value} (h : RelV T w I φ a v) (hf : fullL (cellsV a) = true) : RelA T w I φ a v := by
  refine relA_of_V h (fun l e => ?_)
  rw [e] at hf
  simp [cellsV, fullL, fullC] at hf

/-- A new block. -/
theorem Mem.new (hm : Mem T U w I φ h) {u : Nat} (hu : h u = .unborn) (o : Obj) {v : Value} {E : Ent} (hE : RelE T (w.alloc o) I (setφ φ u v) u E) (hb : ∀ b, has (w.alloc o) E v b → b = w.heap.size) :
    Mem T U (w.alloc o) I (setφ φ u v) (h.upd u E) ∧ Ext U w I φ (w.alloc o) I (setφ φ u v) := by
  have hφ : φ u = none := by have := hm.ent u; rw [hu] at this; exact this
  obtain ⟨m1, x1⟩ := hm.grow (World.grownBy_alloc w o none) (fun b hb => by cases hb)
  obtain ⟨m2, x2⟩ := m1.add (.inl hφ) hE (fun hl b hbb => by
    obtain rfl := hb b hbb
    refine ⟨fun hI => Nat.lt_irrefl _ (hm.lt _ hI), hm.up _ (Nat.le_refl _), fun id' v' hid hl' hv' hbv => ?_⟩
    have h3 : has w (h id') v' w.heap.size := has_back (fun r e => (World.grownBy_alloc w o none).block r (live_slice hl' (hm.ent id') hv' e) (fun e => by cases e)) hbv
    exact Nat.lt_irrefl _ (hm.lt_has hl' hv' h3))
  exact ⟨m2, x1.trans x2⟩

theorem alloc_sound (hT : TOK P T) (hm : Mem T U w I φ h) {t u : Nat} (ho : o.op = .alloc t) (hk : kn T t = true) (hu : h u = .unborn) :
    StepOK P T U ρ' o w I φ (.ptr u 0) (h.upd u (.box t ((T t).cells.map zeroC))) := by
  obtain ⟨i, d, hi, hud, hs, hb, hd, hz0⟩ := (hT t (kn_iff.1 hk)).ex
  let cs : Array Value := ((T t).cells.map zeroVal).toArray
  obtain ⟨z, hz, hcs⟩ : ∃ z, i.zero = some z ∧ z.cells = cs := by
    refine ⟨_, hz0, ?_⟩
    cases ha : (T t).agg
    · obtain ⟨_, _, c, _, _, _, _, hc, _⟩ := (hT t (kn_iff.1 hk)).cell ha
      simp [hc, cs]; cases c <;> rfl
    · rfl
  obtain ⟨m, x⟩ := hm.new hu (.cells cs t) (v := .pointer (some ⟨w.heap.size, 0, none⟩)) (E := .box t ((T t).cells.map zeroC))
    ⟨w.heap.size, cs, by simp [setφ], heap_alloc_new w _, by simpa [cs] using zeros_rel (T := T) (T t).cells, fun u hu => by
      obtain ⟨c, _, rfl⟩ := List.mem_map.1 (show u ∈ (T t).cells.map zeroVal by simpa [cs] using hu); exact zero_one c⟩ (fun b hb => by simpa [blk] using (has_box.1 hb).symm)
  refine ⟨.value (.pointer (some ⟨w.heap.size, 0, none⟩)), _, _, _, ?_, m, x, .inl ⟨_, rfl, w.heap.size, by simp [setφ], rfl⟩⟩
  have hzv : (zeroValue t).run P w = .ok z w := by simp [zeroValue, typeInfo, hi, hz]
  simp [execOp, ho, Instr.alloc, hzv, newVar, newRow, hcs, Result.andThen]

theorem box_sound (hm : Mem T U w I φ h) {t u : Nat} {y : Operand} (ho : o.op = .box t y) (hu : h u = .unborn) (hρ : RelV T w I φ (ρ y) (ρ' y)) (hf : fullL (cellsV (ρ y)) = true) :
    StepOK P T U ρ' o w I φ (.ptr u 0) (h.upd u (.box t (cellsV (ρ y)))) := by
  have hr := cells_rel (relA_of_full hρ hf) (.inl hf)
  obtain ⟨m0, x0⟩ := hm.grow (World.grownBy_alloc w (.cells (ρ' y).cells t) none) (fun b hb => by cases hb)
  have xs : Ext U w I φ (w.alloc (.cells (ρ' y).cells t)) I (setφ φ u (.pointer (some ⟨w.heap.size, 0, none⟩))) := by
    refine x0.trans ⟨rfl, rfl, rfl, Nat.le_refl _, fun _ _ _ => rfl, fun _ h => h, fun _ _ => rfl, fun _ h => .inl h, fun j v hj => ?_⟩
    unfold setφ
    split
    · rename_i e
      have := hm.ent u
      rw [hu] at this
      rw [e, show φ u = none from this] at hj; cases hj
    · exact hj
  obtain ⟨m, x⟩ := hm.new hu (.cells (ρ' y).cells t) (v := .pointer (some ⟨w.heap.size, 0, none⟩)) (E := .box t (cellsV (ρ y)))
    ⟨w.heap.size, (ρ' y).cells, by simp [setφ], heap_alloc_new w _, hr.imp (fun _ _ => RelC.ext xs), fun u hu => all2_one hr hf u (by simpa using hu)⟩ (fun b hb => by simpa [blk] using (has_box.1 hb).symm)
  refine ⟨.value (.pointer (some ⟨w.heap.size, 0, none⟩)), _, _, _, ?_, m, x, .inl ⟨_, rfl, w.heap.size, by simp [setφ], rfl⟩⟩
  simp [execOp, ho, Instr.box, newVar, newRow, Result.andThen]

/-- The cells of a type, in memory from a place on, as one value. -/
theorem load_run (hT : TOK P T) {t b o : Nat} (hk : kn T t = true) {cs : List AV} {vs : List Value} (hl : cs.length = (T t).cells.length) (hr : All2 (RelC T w I φ) cs vs) (hm : w.rangeAt b o vs) :
    ∃ v, (loadVar t ⟨b, o, none⟩).run P w = .ok v w ∧ RelA T w I φ (valOf T t cs 0) v := by
  have hc := kn_iff.1 hk
  cases ha : (T t).agg
  · obtain ⟨i, d, c, hi, hu, hs, _, hcc, _, hd, _⟩ := (hT t hc).cell ha
    have hl1 : cs.length = 1 := by rw [hl, hcc]; rfl
    obtain ⟨x, rfl⟩ : ∃ x, cs = [x] := List.length_eq_one_iff.1 hl1
    cases hr with
    | cons hx ht =>
      cases ht
      rename_i v
      refine ⟨v, ?_, ?_⟩
      · have h0 := hm 0 v rfl
        have hagg : (isAgg t).run P w = .ok false w := by
          unfold isAgg
          rw [Sem.run_bind, run_underlying hu w]
          cases d <;> simp_all
        simp only [Nat.add_zero] at h0
        simp [loadVar, Sem.run_bind, hagg, run_load, h0]
      · simpa [valOf, ha] using RelA.of_C hx
  · obtain ⟨i, fs, hi, hu, hs, hrow⟩ := (hT t hc).row ha
    refine ⟨.agg vs.toArray, run_loadVar_mid w b o t vs _ hm hu hrow (by rw [hi]; simp [hs, ← hl, hr.len]), ?_⟩
    simp only [valOf, ha, cond_true, List.drop_zero]
    rw [List.take_of_length_le (by omega)]
    exact ⟨_, rfl, hr⟩
theorem valOf_drop {t off : Nat} {cs : List AV} (h : off < cs.length) : valOf T t cs off = valOf T t ((cs.drop off).take (T t).cells.length) 0 ∨ (T t).cells = [] := by
  by_cases hc : (T t).cells = []
  · exact .inr hc
  · left
    unfold valOf
    cases (T t).agg
    · have : 0 < (T t).cells.length := List.length_pos_iff.2 hc
      simp [List.getD_eq_getElem?_getD, List.getElem?_take, this]
    · simp [List.take_take]

theorem load_box (hT : TOK P T) (hm : Mem T U w I φ h) {t bt id off : Nat} {y : Operand} {cs : List AV} (ho : o.op = .load t y) (hk : kn T t = true) (hid : h id = .box bt cs) (hle : off + (T t).cells.length ≤ cs.length)
    (hy : ρ y = .ptr id off) (hρ : RelV T w I φ (ρ y) (ρ' y)) : StepOK P T U ρ' o w I φ (valOf T t cs off) h := by
  have he := hm.ent id
  rw [hid] at he
  obtain ⟨b, vs, h1, h2, h3, _⟩ := he
  rw [hy] at hρ
  obtain ⟨b', h4, h5⟩ := hρ
  obtain rfl : b = b' := by simpa using h1.symm.trans h4
  have hc := kn_iff.1 hk
  have hpos : 0 < (T t).cells.length := List.length_pos_iff.2 hc
  obtain ⟨v, hv, hr⟩ := load_run (w := w) (I := I) (φ := φ) hT hk (b := b) (o := off) (cs := (cs.drop off).take (T t).cells.length) (vs := (vs.toList.drop off).take (T t).cells.length)
    (by simp; omega) ((h3.drop off).take _) (fun j u hu => by
      rw [cell_of_row w b (off + j) vs bt (0, 0) h2]
      rw [List.getElem?_take] at hu
      split at hu
      · simpa using hu
      · cases hu)
  rw [(valOf_drop (T := T) (t := t) (cs := cs) (off := off) (by omega)).resolve_right hc]
  refine .same hm ?_ (.of_A hr)
  simp [execOp, ho, h5, Instr.loadAt, Instr.sureAddr, hv, Result.andThen]

theorem elCells_len (e : Nat) (d : D) : (elCells T e d).length = (T e).cells.length := by simp [elCells]
theorem ofD_rel {c : CT} {d : D} {v : Value} (h : RepC T w I c d v) : RelC T w I φ (ofD c d) v := by
  cases h with
  | int => rfl
  | bool => rfl
  | str => rfl
  | nil _ _ a cap h => exact .nil _ _ a cap h
  | sl _ _ b off n cap u hn hb hc hl hr => exact .sl _ _ b off n cap u hn hb hc hl hr
theorem load_el (hT : TOK P T) (hm : Mem T U w I φ h) {t e off b oo : Nat} {d : D} {y : Operand} (ho : o.op = .load t y) (hk : kn T t = true) (hle : off + (T t).cells.length ≤ (T e).cells.length)
    (hv : ρ' y = .pointer (some ⟨b, oo, none⟩)) (hc : ∀ j, off ≤ j → j < (T e).cells.length → ∃ u, w.cell? ⟨b, oo + (j - off), none⟩ = some u ∧ RepC T w I ((T e).cells.getD j .other) (cellD T e d j) u) :
    StepOK P T U ρ' o w I φ (valOf T t (elCells T e d) off) h := by
  have hcc := kn_iff.1 hk
  have hpos : 0 < (T t).cells.length := List.length_pos_iff.2 hcc
  have hex : ∀ n, off + n ≤ (T e).cells.length → ∃ vs : List Value, vs.length = n ∧ All2 (RelC T w I φ) (((elCells T e d).drop off).take n) vs ∧ w.rangeAt b oo vs := by
    intro n
    induction n with
    | zero => intro _; exact ⟨[], rfl, by simp; exact .nil, fun j v hj => by simp at hj⟩
    | succ n ih =>
      intro hn
      obtain ⟨vs, hl, hr, hw⟩ := ih (by omega)
      obtain ⟨u, hu, hrep⟩ := hc (off + n) (by omega) (by omega)
      refine ⟨vs ++ [u], by simp [hl], ?_, ?_⟩
      · rw [List.take_succ_eq_append_getElem (by simp [elCells_len]; omega)]
        refine hr.append (.cons ?_ .nil)
        simp only [elCells, List.getElem_drop, List.getElem_map, List.getElem_range]
        exact ofD_rel hrep
      · intro j v hj
        by_cases hjl : j < vs.length
        · rw [List.getElem?_append_left hjl] at hj; exact hw j v hj
        · rw [List.getElem?_append_right (by omega)] at hj
          have hj0 : j - vs.length = 0 := by
            have := (List.getElem?_eq_some_iff.1 hj).1
            simp at this; omega
          rw [hj0] at hj
          obtain rfl : u = v := by simpa using hj
          have : oo + j = oo + (off + n - off) := by omega
          rw [this]; exact hu
  obtain ⟨vs, hl, hr, hw⟩ := hex _ hle
  obtain ⟨v, hv', hr'⟩ := load_run (w := w) (I := I) (φ := φ) hT hk (b := b) (o := oo) (by simp [elCells_len]; omega) hr hw
  rw [(valOf_drop (T := T) (t := t) (cs := elCells T e d) (off := off) (by rw [elCells_len]; omega)).resolve_right hcc]
  refine .same hm ?_ (.of_A hr')
  simp [execOp, ho, hv, Instr.loadAt, Instr.sureAddr, hv', Result.andThen]

/-- The cells of a row of the call's own, in memory. -/
theorem OwnR.cell {e : Nat} {l : List D} {b n cap : Nat} (h : OwnR T w I e l (.slice (some ⟨b, 0, none⟩) n cap)) {i j : Nat} (hi : i < l.length) (hj : j < (T e).cells.length) :
    ∃ u, w.cell? ⟨b, i * (T e).cells.length + j, none⟩ = some u ∧ RepC T w I ((T e).cells.getD j .other) (cellD T e (l.getD i (.int 0)) j) u := by
  obtain ⟨xs, h1, h2⟩ := h
  obtain ⟨u, hu, hr⟩ := h2 i j hi hj
  rcases h1 with ⟨rfl, _, _⟩ | ⟨h1, _⟩
  · simp at hi
  · have := h1.cells (g := b) rfl _ _ hu
    rw [add_off, Nat.zero_add] at this
    exact ⟨u, this, hr⟩
theorem RepC.cell {e : Nat} {l : List D} {b off n cap : Nat} (h : RepC T w I (.sl e) (.row l) (.slice (some ⟨b, off, none⟩) n cap)) {i j : Nat} (hi : i < l.length) (hj : j < (T e).cells.length) :
    I b ∧ ∃ u, w.cell? ⟨b, off + (i * (T e).cells.length + j), none⟩ = some u ∧ RepC T w I ((T e).cells.getD j .other) (cellD T e (l.getD i (.int 0)) j) u := by
  cases h with
  | nil _ _ a cap h => simp [D.r] at h; subst h; simp at hi
  | sl _ _ b off n cap u hn hb hc hl hr =>
    have hi' : i < n := by rw [hn]; exact hi
    exact ⟨hb, _, hl i j hi' hj, hr i j hi' hj⟩

theorem load_eptr (hT : TOK P T) (hm : Mem T U w I φ h) {t e id off : Nat} {i : Int} {l : List D} {y : Operand} (ho : o.op = .load t y) (hk : kn T t = true) (hle : off + (T t).cells.length ≤ (T e).cells.length)
    (hy : ρ y = .eptr e id i off) (hρ : RelV T w I φ (ρ y) (ρ' y)) (hid : (∃ f, h id = .row e l f) ∨ h id = .frz e l) : StepOK P T U ρ' o w I φ (valOf T t (elCells T e (elAt l i)) off) h := by
  rw [hy] at hρ
  obtain ⟨b, n, cap, hφ, hi0, hin, hv⟩ := hρ
  have he := hm.ent id
  have hcell : ∀ j, j < (T e).cells.length → ∃ u, w.cell? ⟨b, i.toNat * (T e).cells.length + j, none⟩ = some u ∧ RepC T w I ((T e).cells.getD j .other) (cellD T e (elAt l i) j) u := by
    intro j hj
    rcases hid with ⟨f, hid⟩ | hid
    · rw [hid] at he
      obtain ⟨v, h1, h2, _⟩ := he
      obtain rfl := Option.some.inj (hφ.symm.trans h1)
      obtain ⟨a, c, hsl, _⟩ := h2.slice
      simp only [Value.slice.injEq] at hsl
      exact h2.cell (by omega) hj
    · rw [hid] at he
      obtain ⟨v, h1, h2, _⟩ := he
      obtain rfl := Option.some.inj (hφ.symm.trans h1)
      obtain ⟨a, c, hsl, _⟩ := h2.row_len
      simp only [Value.slice.injEq, D.r] at hsl
      obtain ⟨_, u, hu, hr⟩ := h2.cell (i := i.toNat) (by omega) hj
      rw [Nat.zero_add] at hu
      exact ⟨u, hu, hr⟩
  refine load_el hT hm ho hk hle hv (fun j hj hj' => ?_)
  obtain ⟨u, hu, hr⟩ := hcell j hj'
  refine ⟨u, ?_, hr⟩
  have : i.toNat * (T e).cells.length + off + (j - off) = i.toNat * (T e).cells.length + j := by omega
  rw [this]; exact hu

theorem load_sptr (hT : TOK P T) (hm : Mem T U w I φ h) {t e off : Nat} {d : D} {y : Operand} (ho : o.op = .load t y) (hk : kn T t = true) (hle : off + (T t).cells.length ≤ (T e).cells.length)
    (hy : ρ y = .sptr e d off) (hρ : RelV T w I φ (ρ y) (ρ' y)) : StepOK P T U ρ' o w I φ (valOf T t (elCells T e d) off) h := by
  rw [hy] at hρ
  obtain ⟨b, oo, hb, hv, hc⟩ := hρ
  exact load_el hT hm ho hk hle hv hc

theorem setφ_self {id : Nat} {v : Value} (hv : φ id = some v) : setφ φ id v = φ := by
  funext j; unfold setφ; split
  · rename_i e; rw [e, hv]
  · rfl
/-- What is owned is written to. -/
theorem Mem.storeG {w' : World} (hm : Mem T U w I φ h) {id : Nat} {v : Value} {b : Nat} {E : Ent} (hl : live (h id)) (hv : φ id = some v) (hb : blk v = some b) (hg : w.grownBy w' (some b))
    (hE : Ext U w I φ w' I φ → RelE T w' I φ id E) (hN : ∀ b', has w' E v b' → ¬ I b' ∧ U b' ∧ ∀ id' v', id' ≠ id → live (h id') → φ id' = some v' → ¬ has w (h id') v' b') : Mem T U w' I φ (h.upd id E) ∧ Ext U w I φ w' I φ := by
  have ho := hm.own id v b hl hv (.inl hb)
  have m0 := hm.kill (id := id) (by rw [hv]; simp)
  have hdis : ∀ id' v', live ((h.upd id .dead) id') → φ id' = some v' → ¬ has w ((h.upd id .dead) id') v' b := fun id' v' hl' hv' hb' => by
    by_cases hji : id' = id
    · subst hji; rw [Tab.upd_same] at hl'; exact hl'
    · rw [Tab.upd_other _ _ hji] at hl' hb'
      exact hji (hm.disj id' id v' v b hl' hl hv' hv hb' (.inl hb))
  obtain ⟨m1, x1⟩ := m0.grow hg (fun b' hb' => by cases hb'; exact ⟨ho.1, ho.2, hdis⟩)
  obtain ⟨m2, x2⟩ := m1.add (id := id) (v := v) (E := E) (.inr hv) (by rw [setφ_self hv]; exact hE x1) (fun _ b' hb' => by
    obtain ⟨h1, h2, h3⟩ := hN b' hb'
    refine ⟨h1, h2, fun id' v' hne hl' hv' hbv => ?_⟩
    have hbv2 := has_back (fun r e => hg.block r (live_slice hl' (m0.ent id') hv' e) (fun e' => hdis id' v' hl' hv' (.inl (by rw [e, ← Option.some.inj e']; rfl)))) hbv
    rw [Tab.upd_other _ _ hne] at hl' hbv2
    exact h3 id' v' hne hl' hv' hbv2)
  rw [setφ_self hv] at m2
  have : (h.upd id .dead).upd id E = h.upd id E := by
    funext j; by_cases hj : j = id
    · subst hj; simp [Tab.upd_same]
    · simp [Tab.upd_other _ _ hj]
  rw [this] at m2
  exact ⟨m2, x1⟩
theorem Mem.store {w' : World} (hm : Mem T U w I φ h) {id : Nat} {v : Value} {b : Nat} {E : Ent} (hl : live (h id)) (hv : φ id = some v) (hb : blk v = some b) (hg : w.grownBy w' (some b))
    (hE : Ext U w I φ w' I φ → RelE T w' I φ id E) (hN : ∀ b', has w' E v b' → has w (h id) v b') : Mem T U w' I φ (h.upd id E) ∧ Ext U w I φ w' I φ :=
  hm.storeG hl hv hb hg hE fun b' hb' => ⟨(hm.own id v b' hl hv (hN b' hb')).1, (hm.own id v b' hl hv (hN b' hb')).2, fun id' v' hne hl' hv' hbv => hne (hm.disj id' id v' v b' hl' hl hv' hv hbv (hN b' hb'))⟩
theorem grown_setRow {b : Nat} {cs : Array Value} : w.grownBy (w.setRow b cs) (some b) :=
  ⟨rfl, rfl, rfl, by simp, fun k _ hk => setRow_other w b k _ (fun e => hk (by rw [e]))⟩
theorem store_run (hT : TOK P T) {t b off : Nat} (hk : kn T t = true) {v : Value} {et : Nat} {cur : Array Value} (hg : w.heap[b]? = some (.cells cur et (0, 0))) (hs : v.cells.size = (T t).cells.length) (h1 : ∀ u ∈ v.cells, u.oneCell' = true)
    (hle : off + (T t).cells.length ≤ cur.size) : (storeVar t ⟨b, off, none⟩ v).run P w = .ok () (w.setRow b (cur.toList.take off ++ v.cells.toList ++ cur.toList.drop (off + (T t).cells.length)).toArray) := by
  obtain ⟨i, d, hi, _, hsz, _⟩ := (hT t (kn_iff.1 hk)).ex
  have hst := run_storeCells_at (P := P) b off et v.cells.toList 0 cur w hg (by simp; omega) (fun u hu => h1 u (by simpa using hu))
  simp only [Nat.add_zero, Array.length_toList, hs] at hst
  simp [storeVar, sizeOf, typeInfo, hi, hsz, hs, hst, Result.andThen]
theorem setCells_rel {cs new : List AV} {vs ns : List Value} {off : Nat} (h1 : All2 (RelC T w I φ) cs vs) (h2 : All2 (RelC T w I φ) new ns) : All2 (RelC T w I φ) (setCells cs off new) (vs.take off ++ ns ++ vs.drop (off + ns.length)) := by
  unfold setCells
  rw [h2.len]
  exact ((h1.take _).append h2).append (h1.drop _)

theorem store_box (hT : TOK P T) (hm : Mem T U w I φ h) {t bt id off : Nat} {y z : Operand} {cs : List AV} (ho : o.op = .store t y z) (hk : kn T t = true) (hid : h id = .box bt cs) (hle : off + (T t).cells.length ≤ cs.length)
    (hlen : (cellsV (ρ z)).length = (T t).cells.length) (hf : fullL (cellsV (ρ z)) = true) (hy : ρ y = .ptr id off) (hρy : RelV T w I φ (ρ y) (ρ' y)) (hρz : RelV T w I φ (ρ z) (ρ' z)) :
    StepOK P T U ρ' o w I φ .undef (h.upd id (.box bt (setCells cs off (cellsV (ρ z))))) := by
  have he := hm.ent id
  rw [hid] at he
  obtain ⟨b, vs, h1, h2, h3, h4⟩ := he
  rw [hy] at hρy
  obtain ⟨b', h5, h6⟩ := hρy
  obtain rfl : b = b' := by simpa using h1.symm.trans h5
  have hr := cells_rel (relA_of_full hρz hf) (.inl hf)
  have hns : (ρ' z).cells.size = (T t).cells.length := by rw [← hlen, hr.len]; simp
  have h1c : ∀ u ∈ (ρ' z).cells, u.oneCell' = true := fun u hu => all2_one hr hf u (by simpa using hu)
  have hvl : cs.length = vs.size := by simpa using h3.len
  have hrun := store_run (P := P) hT hk h2 hns h1c (off := off) (by omega)
  obtain ⟨m, x⟩ := hm.store (id := id) (E := .box bt (setCells cs off (cellsV (ρ z)))) (by rw [hid]; trivial) h1 rfl grown_setRow (fun x => ⟨b, _, h1, setRow_heap w b vs _ bt (0, 0) h2, by
    have := setCells_rel (off := off) h3 hr
    simp only [Array.length_toList, hns] at this
    exact this.imp (fun _ _ => RelC.ext x), fun u hu => by
      simp only [List.mem_toArray, List.mem_append] at hu
      rcases hu with (hu | hu) | hu
      · exact h4 u (by simpa using List.mem_of_mem_take hu)
      · exact h1c u (by simpa using hu)
      · exact h4 u (by simpa using List.mem_of_mem_drop hu)⟩) (fun _ hb => .inl (has_box.1 hb))
  refine ⟨.skip, _, I, φ, ?_, m, x, .inr ⟨rfl, rfl⟩⟩
  simp [execOp, ho, h6, Instr.storeAt, Instr.sureAddr, hrun, Result.andThen]

/-! ### What goes into a row -/
theorem toD_sound {R : Type} {K : D → Tab → List Nat → List Nat → Option R} {x : R} (hm : Mem T U w I φ h) {c : CT} {v : AV} {u : Value} (hv : RelC T w I φ v u) {r ws : List Nat}
    (hr : (toD c v).run K h r ws = some x) : fullC v = true ∧ ∃ d h' r' ws' I', K d h' r' ws' = some x ∧ Mem T U w I' φ h' ∧ Ext U w I φ w I' φ ∧ RepC T w I' c d u := by
  unfold toD at hr
  split at hr
  · rw [run_chk] at hr
    obtain ⟨hk, hr⟩ := hr
    have hk := of_decide_eq_true hk
    subst hk
    obtain rfl : u = .int _ _ := hv
    exact ⟨rfl, _, _, _, _, I, hr, hm, .refl, .int _ (.int _)⟩
  · obtain rfl : u = .bool _ := hv
    exact ⟨rfl, _, _, _, _, I, hr, hm, .refl, .bool (.bool _)⟩
  · obtain rfl : u = .string _ := hv
    exact ⟨rfl, _, _, _, _, I, hr, hm, .refl, .str (.str _)⟩
  · rw [run_chk] at hr
    obtain ⟨hk, hr⟩ := hr
    have hk := Nat.eq_of_beq_eq_true hk
    subst hk
    exact ⟨rfl, _, _, _, _, I, hr, hm, .refl, hv⟩
  · rw [run_chk] at hr
    obtain ⟨hk, hr⟩ := hr
    have hk := Nat.eq_of_beq_eq_true hk
    subst hk
    exact ⟨rfl, _, _, _, _, I, hr, hm, .refl, hv.1⟩
  · obtain rfl : u = .slice none 0 0 := hv
    exact ⟨rfl, _, _, _, _, I, hr, hm, .refl, .nil _ _ _ _ rfl⟩
  · obtain ⟨a, rfl⟩ := hv
    exact ⟨rfl, _, _, _, _, I, hr, hm, .refl, .nil _ _ _ _ rfl⟩
  · rename_i id e'
    rw [run_get] at hr
    obtain ⟨hφ, _⟩ := hv
    cases hE : h id <;> rw [hE] at hr <;> simp only [run_fail] at hr <;> try cases hr
    case row e l f =>
      rw [run_chk] at hr
      obtain ⟨hk, hr⟩ := hr
      have hk := Nat.eq_of_beq_eq_true hk
      subst hk
      obtain ⟨I', m, x, v, hv', hrep⟩ := hm.freeze hE
      obtain rfl := Option.some.inj (hφ.symm.trans hv')
      exact ⟨rfl, _, _, _, _, I', hr, m, x, hrep⟩
    case frz e l =>
      rw [run_chk] at hr
      obtain ⟨hk, hr⟩ := hr
      have hk := Nat.eq_of_beq_eq_true hk
      subst hk
      have he := hm.ent id
      rw [hE] at he
      obtain ⟨v, hv', hrep, _⟩ := he
      obtain rfl := Option.some.inj (hφ.symm.trans hv')
      exact ⟨rfl, _, _, _, _, I, hr, hm, .refl, hrep⟩
  · simp [run_fail] at hr

theorem toDs_sound {R : Type} {x : R} : ∀ {cs : List CT} {vs : List AV} {us : List Value} {I : Nat → Prop} {h : Tab} {K : List D → Tab → List Nat → List Nat → Option R} (_ : Mem T U w I φ h) (_ : All2 (RelC T w I φ) vs us) {r ws : List Nat}
    (_ : (toDs cs vs).run K h r ws = some x), fullL vs = true ∧ ∃ ds h' r' ws' I', K ds h' r' ws' = some x ∧ Mem T U w I' φ h' ∧ Ext U w I φ w I' φ ∧ ds.length = cs.length ∧ us.length = cs.length ∧
      ∀ (j : Nat) (u : Value), us[j]? = some u → RepC T w I' (cs.getD j .other) (ds.getD j (.int 0)) u
  | [], [], us, I, h, K, hm, hv, r, ws, hr => by
    cases hv
    exact ⟨rfl, [], _, _, _, I, hr, hm, .refl, rfl, rfl, fun j u hu => by simp at hu⟩
  | c :: cs, v :: vs, us, I, h, K, hm, hv, r, ws, hr => by
    cases hv with
    | cons h1 h2 =>
      simp only [toDs] at hr
      rw [run_bind] at hr
      obtain ⟨hf, d, h', r', ws', I', hr, m, x1, hd⟩ := toD_sound hm h1 hr
      rw [run_bind] at hr
      obtain ⟨hf', ds, h'', r'', ws'', I'', hr, m', x2, hl, hl', hds⟩ := toDs_sound m (h2.imp (fun _ _ => RelC.ext x1)) hr
      refine ⟨by simp [fullL, hf, hf'], d :: ds, h'', r'', ws'', I'', hr, m', x1.trans x2, by simp [hl], by simp [hl'], fun j u hu => ?_⟩
      cases j with
      | zero => simp at hu; subst hu; exact hd.ext x2
      | succ j => exact hds j u (by simpa using hu)
  | [], _ :: _, us, I, h, K, hm, hv, r, ws, hr => by simp [toDs, run_fail] at hr
  | _ :: _, [], us, I, h, K, hm, hv, r, ws, hr => by simp [toDs, run_fail] at hr

theorem toEl_sound {R : Type} {K : D → Tab → List Nat → List Nat → Option R} {x : R} (hm : Mem T U w I φ h) (hT : TOK P T) {e : Nat} (hk : kn T e = true) {v : AV} {u : Value} (hv : RelV T w I φ v u) {r ws : List Nat}
    (hr : (toEl T e v).run K h r ws = some x) : ∃ d h' r' ws' I', K d h' r' ws' = some x ∧ Mem T U w I' φ h' ∧ Ext U w I φ w I' φ ∧ RepEl T w I' e d u.cells.toList ∧ (∀ y ∈ u.cells, y.oneCell' = true) := by
  have hnt : ∀ l, v ≠ .tup l := fun l e' => by
    subst e'
    unfold toEl at hr
    rw [run_bind] at hr
    cases hc : (T e).cells with
    | nil => exact kn_iff.1 hk hc
    | cons c cs => simp [hc, cellsV, toDs, toD, M.bind, run_fail] at hr
  have hA := relA_of_V hv hnt
  unfold toEl at hr
  rw [run_bind] at hr
  have hcells : All2 (RelC T w I φ) (cellsV v) u.cells.toList := by
    unfold RelA at hA
    split at hA
    · obtain ⟨cs, rfl, h⟩ := hA; exact h
    · rename_i hno
      have hc : cellsV v = [v] := by
        cases v <;> first | rfl | (rename_i l; exact absurd rfl (hno l))
      rw [hc] at hr
      have hone : u.oneCell' = true := by
        cases hcs : (T e).cells with
        | nil => exact absurd hcs (kn_iff.1 hk)
        | cons c cs =>
          rw [hcs] at hr
          simp only [toDs] at hr
          rw [run_bind] at hr
          exact relC_one hA (toD_sound hm hA hr).1
      rw [hc]
      have : u.cells = #[u] := by cases u <;> first | rfl | (cases hone)
      rw [this]
      exact .cons hA .nil
  obtain ⟨hf, ds, h', r', ws', I', hr, m, x1, hl, hl', hds⟩ := toDs_sound hm hcells hr
  refine ⟨_, h', r', ws', I', hr, m, x1, ⟨hl', fun j y hy => ?_⟩, fun y hy => all2_one hcells hf y (by simpa using hy)⟩
  have := hds j y hy
  unfold cellD
  cases ha : (T e).agg
  · obtain ⟨_, _, c, _, _, _, _, hc, _⟩ := (hT e (kn_iff.1 hk)).cell ha
    have hj : j < 1 := by
      have := (List.getElem?_eq_some_iff.1 hy).1
      rw [hl', hc] at this
      simpa using this
    obtain rfl : j = 0 := by omega
    simpa using this
  · simpa [D.c] using this

theorem mul_lt {i j k n : Nat} (hi : i < n) (hj : j < k) : i * k + j < n * k := by
  have : (i + 1) * k ≤ n * k := Nat.mul_le_mul_right _ hi
  rw [Nat.add_mul] at this
  omega

theorem store_eptr (hT : TOK P T) (hm : Mem T U w I φ h) {t e id off : Nat} {i : Int} {l : List D} {f : Bool} {y z : Operand} (ho : o.op = .store t y z) (hk : kn T t = true) (hid : h id = .row e l f)
    (hsub : ((T e).cells.drop off).take (T t).cells.length = (T t).cells) (hy : ρ y = .eptr e id i off) (hρy : RelV T w I φ (ρ y) (ρ' y)) {ds : List D} (hdl : ds.length = (T t).cells.length) (hsz : (ρ' z).cells.size = (T t).cells.length)
    (h1c : ∀ u ∈ (ρ' z).cells, u.oneCell' = true) (hds : ∀ (j : Nat) (u : Value), (ρ' z).cells.toList[j]? = some u → RepC T w I ((T t).cells.getD j .other) (ds.getD j (.int 0)) u) :
    StepOK P T U ρ' o w I φ .undef (h.upd id (.row e (l.set i.toNat
      (bif (T e).agg then .agg ((List.range (T e).cells.length).map fun j => bif Nat.ble off j && Nat.blt j (off + ds.length) then ds.getD (j - off) (.int 0) else (elAt l i).c j) else ds.getD 0 (.int 0))) f)) := by
  have he := hm.ent id
  rw [hid] at he
  obtain ⟨v, h1, h2, h3, h4⟩ := he
  rw [hy] at hρy
  obtain ⟨b, n, cap, hφ, hi0, hin, hv⟩ := hρy
  obtain rfl := Option.some.inj (hφ.symm.trans h1)
  obtain ⟨xs, h5, h6⟩ := h2
  have hcpos : 0 < (T t).cells.length := List.length_pos_iff.2 (kn_iff.1 hk)
  have hoff : off + (T t).cells.length ≤ (T e).cells.length := by
    have := congrArg List.length hsub
    simp at this
    omega
  obtain ⟨hn, hos, hbk⟩ : n = l.length ∧ w.ownsRow 0 e (T e).cells.length (.slice (some ⟨b, 0, none⟩) n cap) l.length xs ∧ blk (.slice (some ⟨b, 0, none⟩) n cap) ≠ none := by
    rcases h5 with ⟨rfl, _, a, ha⟩ | ⟨h5, hb⟩
    · simp only [Value.slice.injEq] at ha; omega
    · refine ⟨?_, h5, hb⟩
      rcases h5.2 with ⟨ha, _⟩ | ⟨g, c, cur, ha, _⟩
      · cases ha
      · simp only [Value.slice.injEq] at ha; exact ha.2.1
  subst hn
  have hilt : i.toNat < l.length := by omega
  obtain ⟨hxl, h7⟩ := hos
  rcases h7 with ⟨ha, _⟩ | ⟨g, cap', cur, ha, _, hg, hnc, hcm, hcs, htake⟩
  · cases ha
  simp only [Value.slice.injEq, Option.some.injEq, Addr.mk.injEq, and_true, true_and] at ha
  obtain ⟨rfl, rfl⟩ := ha
  have hp : i.toNat * (T e).cells.length + off + (T t).cells.length ≤ l.length * (T e).cells.length := by
    have : (i.toNat + 1) * (T e).cells.length ≤ l.length * (T e).cells.length := Nat.mul_le_mul_right _ hilt
    rw [Nat.add_mul] at this
    omega
  have hcur : l.length * (T e).cells.length ≤ cur.size := by rw [hcs]; exact Nat.mul_le_mul_right _ hnc
  have hrun := store_run (P := P) hT hk hg hsz h1c (off := i.toNat * (T e).cells.length + off) (by omega)
  have hget : ∀ p, (cur.toList.take (i.toNat * (T e).cells.length + off) ++ (ρ' z).cells.toList ++ cur.toList.drop (i.toNat * (T e).cells.length + off + (T t).cells.length))[p]? =
      if i.toNat * (T e).cells.length + off ≤ p ∧ p < i.toNat * (T e).cells.length + off + (T t).cells.length then (ρ' z).cells.toList[p - (i.toNat * (T e).cells.length + off)]? else cur.toList[p]? := by
    intro p
    have hl1 : (cur.toList.take (i.toNat * (T e).cells.length + off)).length = i.toNat * (T e).cells.length + off := by simp; omega
    by_cases hp1 : p < i.toNat * (T e).cells.length + off
    · rw [if_neg (by omega), List.append_assoc, List.getElem?_append_left (by omega), List.getElem?_take, if_pos hp1]
    · by_cases hp2 : p < i.toNat * (T e).cells.length + off + (T t).cells.length
      · rw [if_pos ⟨by omega, hp2⟩, List.append_assoc, List.getElem?_append_right (by omega), hl1, List.getElem?_append_left (by simp [hsz]; omega)]
      · rw [if_neg (by omega), List.getElem?_append_right (by simp [hsz]; omega), List.getElem?_drop]
        congr 1
        simp [hsz]; omega
  have hE : ∀ w', w'.heap[b]? = some (.cells (cur.toList.take (i.toNat * (T e).cells.length + off) ++ (ρ' z).cells.toList ++ cur.toList.drop (i.toNat * (T e).cells.length + off + (T t).cells.length)).toArray e (0, 0)) → Ext U w I φ w' I φ →
      RelE T w' I φ id (.row e (l.set i.toNat (bif (T e).agg then .agg ((List.range (T e).cells.length).map fun j => bif Nat.ble off j && Nat.blt j (off + ds.length) then ds.getD (j - off) (.int 0) else (elAt l i).c j) else ds.getD 0 (.int 0))) f) := by
    intro w' hw' x
    refine ⟨_, h1, ⟨(cur.toList.take (i.toNat * (T e).cells.length + off) ++ (ρ' z).cells.toList ++ cur.toList.drop (i.toNat * (T e).cells.length + off + (T t).cells.length)).take (l.length * (T e).cells.length), .inr ⟨⟨?_, .inr ⟨b, cap, _, by simp, Nat.zero_le _, hw', by simpa using hnc, hcm, ?_, by simp⟩⟩, hbk⟩, fun i' j hi' hj => ?_⟩, by simpa using h3, h4⟩
    · simp [hsz]; omega
    · simp [hsz]; omega
    · simp only [List.length_set] at hi'
      have hlt := mul_lt hi' hj
      rw [List.getElem?_take, if_pos hlt, hget]
      obtain ⟨u, hu, hr⟩ := h6 i' j hi' hj
      rw [← htake, List.getElem?_take, if_pos hlt] at hu
      by_cases hii : i' = i.toNat
      · subst hii
        have hnew : (l.set i.toNat (bif (T e).agg then .agg ((List.range (T e).cells.length).map fun j => bif Nat.ble off j && Nat.blt j (off + ds.length) then ds.getD (j - off) (.int 0) else (elAt l i).c j) else ds.getD 0 (.int 0))).getD i.toNat (.int 0) =
            (bif (T e).agg then .agg ((List.range (T e).cells.length).map fun j => bif Nat.ble off j && Nat.blt j (off + ds.length) then ds.getD (j - off) (.int 0) else (elAt l i).c j) else ds.getD 0 (.int 0)) := by
          simp [List.getD_eq_getElem?_getD, hilt]
        rw [hnew]
        by_cases hjo : off ≤ j ∧ j < off + (T t).cells.length
        · rw [if_pos (by omega)]
          have hidx : i.toNat * (T e).cells.length + j - (i.toNat * (T e).cells.length + off) = j - off := by omega
          rw [hidx]
          have hlt2 : j - off < (ρ' z).cells.toList.length := by simp [hsz]; omega
          refine ⟨(ρ' z).cells.toList[j - off], List.getElem?_eq_getElem hlt2, ?_⟩
          have hh := (hds (j - off) _ (List.getElem?_eq_getElem hlt2)).ext x
          have hct : (T t).cells.getD (j - off) .other = (T e).cells.getD j .other := by
            rw [← hsub, List.getD_eq_getElem?_getD, List.getD_eq_getElem?_getD, List.getElem?_take, if_pos (by omega), List.getElem?_drop]
            congr 2; omega
          rw [hct] at hh
          unfold cellD
          cases ha : (T e).agg
          · obtain ⟨_, _, c, _, _, _, _, hc, _⟩ := (hT e h4).cell ha
            have hj1 : j = 0 := by rw [hc] at hj; simpa using hj
            subst hj1
            simpa using hh
          · have hb1 : (Nat.ble off j && Nat.blt j (off + ds.length)) = true := by
              simp [Nat.blt, Nat.ble_eq]; omega
            simpa [D.c, List.getD_eq_getElem?_getD, hj, hb1] using hh
        · rw [if_neg (by omega)]
          refine ⟨u, hu, ?_⟩
          have hh := hr.ext x
          unfold cellD at hh ⊢
          cases ha : (T e).agg
          · obtain ⟨_, _, c, _, _, _, _, hc, _⟩ := (hT e h4).cell ha
            rw [hc] at hj hoff
            simp at hj hoff
            omega
          · have hb1 : (Nat.ble off j && Nat.blt j (off + ds.length)) = false := by
              rw [hdl]
              cases g1 : Nat.ble off j
              · rfl
              · cases g2 : Nat.blt j (off + (T t).cells.length)
                · rfl
                · exact absurd ⟨Nat.le_of_ble_eq_true g1, Nat.le_of_ble_eq_true g2⟩ hjo
            rw [ha] at hh
            simpa [D.c, List.getD_eq_getElem?_getD, hj, hb1, elAt] using hh
      · have hout : ¬ (i.toNat * (T e).cells.length + off ≤ i' * (T e).cells.length + j ∧ i' * (T e).cells.length + j < i.toNat * (T e).cells.length + off + (T t).cells.length) := by
          rcases Nat.lt_or_gt_of_ne hii with hlt' | hgt
          · have := mul_lt hlt' hj; omega
          · have : (i.toNat + 1) * (T e).cells.length ≤ i' * (T e).cells.length := Nat.mul_le_mul_right _ hgt
            rw [Nat.add_mul] at this
            omega
        rw [if_neg hout]
        refine ⟨u, hu, ?_⟩
        have hsame : (l.set i.toNat (bif (T e).agg then .agg ((List.range (T e).cells.length).map fun j => bif Nat.ble off j && Nat.blt j (off + ds.length) then ds.getD (j - off) (.int 0) else (elAt l i).c j) else ds.getD 0 (.int 0))).getD i' (.int 0) = l.getD i' (.int 0) := by
          simp [List.getD_eq_getElem?_getD, List.getElem?_set_ne (Ne.symm hii)]
        rw [hsame]
        exact hr.ext x
  have hblk : blk (.slice (some ⟨b, 0, none⟩) l.length cap) = some b := by
    obtain ⟨b', hb'⟩ := Option.ne_none_iff_exists'.1 hbk
    rw [hb']; simp only [blk] at hb'; split at hb' <;> simp_all
  obtain ⟨m, x⟩ := hm.store (id := id) (by rw [hid]; trivial) h1 hblk grown_setRow (hE _ (setRow_heap w b cur _ e (0, 0) hg)) (fun _ hb => .inl ((has_row.1 hb)))
  refine ⟨.skip, _, I, φ, ?_, m, x, .inr ⟨rfl, rfl⟩⟩
  simp [execOp, ho, hv, Instr.storeAt, Instr.sureAddr, hrun, Result.andThen]

/-! ### append -/
/-- What stands flat for a row's elements. -/
def Flat (T : Nat → TyI) (w : World) (I : Nat → Prop) (e : Nat) (l : List D) (xs : List Value) : Prop :=
  xs.length = l.length * (T e).cells.length ∧ ∀ i j, i < l.length → j < (T e).cells.length → ∃ u, xs[i * (T e).cells.length + j]? = some u ∧ RepC T w I ((T e).cells.getD j .other) (cellD T e (l.getD i (.int 0)) j) u
theorem Flat.nil {e : Nat} : Flat T w I e [] [] := ⟨by simp, fun i j hi => by simp at hi⟩
theorem Flat.ext {w' : World} {I' : Nat → Prop} {φ' : Nat → Option Value} (x : Ext U w I φ w' I' φ') {e : Nat} {l : List D} {xs : List Value} (f : Flat T w I e l xs) : Flat T w' I' e l xs :=
  ⟨f.1, fun i j hi hj => by obtain ⟨u, hu, hr⟩ := f.2 i j hi hj; exact ⟨u, hu, hr.ext x⟩⟩
theorem getD_left {α : Type} {l m : List α} {i : Nat} {d : α} (h : i < l.length) : (l ++ m).getD i d = l.getD i d := by
  simp [List.getD_eq_getElem?_getD, List.getElem?_append_left h]
theorem getD_right {α : Type} {l m : List α} {i : Nat} {d : α} (h : ¬ i < l.length) : (l ++ m).getD i d = m.getD (i - l.length) d := by
  simp [List.getD_eq_getElem?_getD, List.getElem?_append_right (Nat.le_of_not_lt h)]
theorem Flat.append {e : Nat} {l m : List D} {xs ys : List Value} (f : Flat T w I e l xs) (g : Flat T w I e m ys) : Flat T w I e (l ++ m) (xs ++ ys) := by
  refine ⟨by rw [List.length_append, List.length_append, Nat.add_mul, f.1, g.1], fun i j hi hj => ?_⟩
  by_cases hil : i < l.length
  · obtain ⟨u, hu, hr⟩ := f.2 i j hil hj
    have : i * (T e).cells.length + j < xs.length := by rw [f.1]; exact mul_lt hil hj
    refine ⟨u, by rw [List.getElem?_append_left this]; exact hu, ?_⟩
    rw [getD_left hil]
    exact hr
  · have hi' : i - l.length < m.length := by simp at hi; omega
    obtain ⟨u, hu, hr⟩ := g.2 (i - l.length) j hi' hj
    have hge : xs.length ≤ i * (T e).cells.length + j := by
      rw [f.1]
      have : l.length * (T e).cells.length ≤ i * (T e).cells.length := Nat.mul_le_mul_right _ (by omega)
      omega
    refine ⟨u, ?_, ?_⟩
    · rw [List.getElem?_append_right hge, ← hu]
      congr 1
      rw [f.1, Nat.sub_mul]
      have : l.length * (T e).cells.length ≤ i * (T e).cells.length := Nat.mul_le_mul_right _ (by omega)
      omega
    · rw [getD_right hil]
      exact hr
theorem Flat.one {e : Nat} {l : List D} {xs : List Value} (f : Flat T w I e l xs) : ∀ u ∈ xs, u.oneCell' = true := by
  intro u hu
  obtain ⟨p, hp⟩ := List.getElem?_of_mem hu
  have hlt := (List.getElem?_eq_some_iff.1 hp).1
  rw [f.1] at hlt
  have hk : 0 < (T e).cells.length := by
    rcases Nat.eq_zero_or_pos (T e).cells.length with h0 | h0
    · rw [h0] at hlt; simp at hlt
    · exact h0
  obtain ⟨u', hu', hr⟩ := f.2 (p / (T e).cells.length) (p % (T e).cells.length) ((Nat.div_lt_iff_lt_mul hk).2 hlt) (Nat.mod_lt _ hk)
  rw [Nat.mul_comm, Nat.div_add_mod, hp] at hu'
  obtain rfl := Option.some.inj hu'
  exact hr.one
/-- A row that is read: where its cells lie. -/
def Reads (T : Nat → TyI) (w : World) (I : Nat → Prop) (e : Nat) (l : List D) (v : Value) : Prop :=
  ∃ a cap xs, v = .slice a l.length cap ∧ l.length ≤ cap ∧ Flat T w I e l xs ∧ (l ≠ [] → ∃ b o, a = some ⟨b, o, none⟩ ∧ ∀ (p : Nat) (x : Value), xs[p]? = some x → w.cell? ⟨b, o + p, none⟩ = some x)
theorem RepC.reads {e : Nat} {d : D} {v : Value} (h : RepC T w I (.sl e) d v) : Reads T w I e d.r v := by
  cases h with
  | nil _ _ a cap h => exact ⟨a, cap, [], by rw [h]; rfl, by rw [h]; exact Nat.zero_le _, by rw [h]; exact .nil, fun hne => absurd h hne⟩
  | sl _ _ b off n cap u hn hb hc hl hr =>
    subst hn
    rcases Nat.eq_zero_or_pos (T e).cells.length with h0 | h0
    · exact ⟨_, cap, [], rfl, hc, ⟨by rw [h0]; simp, fun i j _ hj => by omega⟩, fun _ => ⟨b, off, rfl, fun p x hx => by simp at hx⟩⟩
    · refine ⟨_, cap, (List.range (d.r.length * (T e).cells.length)).map fun p => u (p / (T e).cells.length) (p % (T e).cells.length), rfl, hc, ⟨by simp, fun i j hi hj => ?_⟩, fun _ => ⟨b, off, rfl, fun p x hx => ?_⟩⟩
      · have hlt := mul_lt hi hj
        have h1 : (i * (T e).cells.length + j) / (T e).cells.length = i := by
          rw [Nat.add_comm, Nat.add_mul_div_right _ _ h0, Nat.div_eq_of_lt hj, Nat.zero_add]
        have h2 : (i * (T e).cells.length + j) % (T e).cells.length = j := by
          rw [Nat.add_comm, Nat.add_mul_mod_self_right, Nat.mod_eq_of_lt hj]
        exact ⟨u i j, by simp [hlt, h1, h2], hr i j hi hj⟩
      · have hlt : p < d.r.length * (T e).cells.length := by simpa using (List.getElem?_eq_some_iff.1 hx).1
        have hx' : u (p / (T e).cells.length) (p % (T e).cells.length) = x := by simpa [hlt] using hx
        have := hl (p / (T e).cells.length) (p % (T e).cells.length) ((Nat.div_lt_iff_lt_mul h0).2 hlt) (Nat.mod_lt _ h0)
        rw [Nat.mul_comm, Nat.div_add_mod, hx'] at this
        exact this
theorem OwnR.reads {e : Nat} {l : List D} {v : Value} (h : OwnR T w I e l v) : Reads T w I e l v := by
  obtain ⟨xs, h1, h2⟩ := h
  rcases h1 with ⟨rfl, rfl, a, rfl⟩ | ⟨h1, _⟩
  · exact ⟨a, 0, [], rfl, Nat.le_refl _, .nil, fun h => absurd rfl h⟩
  · rcases h1.2 with ⟨rfl, hn⟩ | ⟨g, cap, cur, rfl, _, hg, hnc, _⟩
    · have : l = [] := List.eq_nil_of_length_eq_zero hn
      subst this
      exact ⟨none, 0, [], rfl, Nat.le_refl _, .nil, fun h => absurd rfl h⟩
    · exact ⟨_, cap, xs, rfl, hnc, ⟨h1.1, h2⟩, fun _ => ⟨g, 0, rfl, fun p x hx => by have := h1.cells (g := g) rfl p x hx; rwa [add_off] at this⟩⟩
theorem rowOf_sound {R : Type} {K : Nat × List D → Tab → List Nat → List Nat → Option R} {x : R} (hm : Mem T U w I φ h) {e : Nat} {v : AV} {u : Value} (hv : RelV T w I φ v u) {r ws : List Nat}
    (hr : (rowOf e v).run K h r ws = some x) : ∃ p r', K p h r' ws = some x ∧ Reads T w I p.1 p.2 u := by
  unfold rowOf at hr
  split at hr
  · exact ⟨_, _, hr, RepC.reads hv⟩
  · exact ⟨_, _, hr, RepC.reads hv.1⟩
  · exact ⟨_, _, hr, RepC.reads hv.1⟩
  · obtain rfl : u = .slice none 0 0 := hv
    exact ⟨_, _, hr, none, 0, [], rfl, Nat.le_refl _, .nil, fun h => absurd rfl h⟩
  · obtain ⟨a, rfl⟩ := hv
    exact ⟨_, _, hr, a, 0, [], rfl, Nat.le_refl _, .nil, fun h => absurd rfl h⟩
  · rename_i id
    obtain ⟨hφ, _⟩ := hv
    rw [run_get] at hr
    have he := hm.ent id
    cases hE : h id <;> rw [hE] at hr he <;> simp only [run_fail] at hr <;> try cases hr
    · obtain ⟨v, hv', ho, _⟩ := he
      obtain rfl := Option.some.inj (hφ.symm.trans hv')
      exact ⟨_, _, hr, ho.reads⟩
    · obtain ⟨v, hv', ho, _⟩ := he
      obtain rfl := Option.some.inj (hφ.symm.trans hv')
      exact ⟨_, _, hr, ho.reads⟩
  · simp [run_fail] at hr

/-- What is appended. -/
def Srce (P : Program) (T : Nat → TyI) (w : World) (I : Nat → Prop) (e t : Nat) (v : Value) (l : List D) : Prop := ∃ news, Src P (T e).cells.length t v l.length news w ∧ Flat T w I e l news
theorem Reads.src {e t e' : Nat} {l : List D} {v : Value} (hr : Reads T w I e l v) (ht : P.underlying t = some (.slice e')) : Srce P T w I e t v l := by
  obtain ⟨a, cap, xs, rfl, hc, hf, hcell⟩ := hr
  by_cases hl : l = []
  · subst hl
    have hx : xs = [] := List.eq_nil_of_length_eq_zero (by simpa using hf.1)
    subst hx
    refine ⟨[], ?_, .nil⟩
    cases a with
    | none => exact Src.ofNil w ht cap
    | some a => exact Src.ofSlice w ht a 0 cap [] (by simp) (fun j u hu => by simp at hu) (fun u hu => by simp at hu)
  · obtain ⟨b, o, rfl, hcell'⟩ := hcell hl
    exact ⟨xs, Src.ofSlice w ht ⟨b, o, none⟩ l.length cap xs hf.1 (fun j u hu => by rw [add_off]; exact hcell' j u hu) hf.one, hf⟩
theorem string_src (hT : TOK P T) {e t : Nat} {s : ByteArray} (he : isU8 T e = true) (ht : P.underlying t = some .string) : Srce P T w I e t (.string s) (s.toList.map fun b => .int b.toNat) := by
  obtain ⟨ha, hc, _⟩ := isU8_ok hT he
  have hlen : (s.toList.map fun b => D.int b.toNat).length = s.size := by rw [List.length_map, ByteArray.toList_eq]; simp
  refine ⟨byteCells s, by rw [hc, hlen]; exact Src.ofString w ht s, ⟨by rw [hlen, byteCells_length, hc]; simp, fun i j hi hj => ?_⟩⟩
  rw [hc] at hj
  obtain rfl : j = 0 := by simpa using hj
  rw [hlen] at hi
  have hi' : i < s.data.toList.length := by simpa using hi
  refine ⟨.int .u8 (s.data.toList[i].toNat : Int), ?_, ?_⟩
  · have hi2 : i < s.data.size := by simpa using hi'
    simp [hc, byteCells]
    exact ⟨_, Array.getElem?_eq_getElem hi2, rfl⟩
  · have : cellD T e ((s.toList.map fun b => D.int b.toNat).getD i (.int 0)) 0 = .int (s.data.toList[i].toNat : Int) := by
      have hi2 : i < s.data.size := by simpa using hi'
      simp [cellD, ha, List.getD_eq_getElem?_getD, ByteArray.toList_eq, Array.getElem?_eq_getElem hi2]
    rw [hc, this]
    exact .int .u8 (.int _)

/-- A new row of the call's own, behind all. -/
theorem ownR_new {w' : World} {e : Nat} {l : List D} {xs : List Value} {cap b : Nat} {rest : Array Value} (hh : w'.heap[b]? = some (.cells (xs.toArray ++ rest) e (0, 0))) (hf : Flat T w' I e l xs) (hc : l.length ≤ cap) (hm : cap ≤ maxLen)
    (hs : xs.length + rest.size = cap * (T e).cells.length) : OwnR T w' I e l (.slice (some ⟨b, 0, none⟩) l.length cap) := by
  refine OwnR.of_owns (xs := xs) ⟨hf.1, .inr ⟨b, cap, _, rfl, Nat.zero_le _, hh, hc, hm, by simp [hs], ?_⟩⟩ hf.2
  rw [Array.toList_append, ← hf.1]
  exact List.take_left
theorem ext_set {u : Nat} {v : Value} (hφ : φ u = none ∨ φ u = some v) : Ext U w I φ w I (setφ φ u v) := by
  refine ⟨rfl, rfl, rfl, Nat.le_refl _, fun _ _ _ => rfl, fun _ h => h, fun _ _ => rfl, fun _ h => .inl h, fun j x hj => ?_⟩
  unfold setφ
  split
  · rename_i e
    rw [e] at hj
    rcases hφ with hφ | hφ
    · rw [hφ] at hj; cases hj
    · rw [hφ] at hj; exact hj
  · exact hj
/-- A new row is put under its number; the world went on by a draw and a block. -/
theorem Mem.newRow (hm : Mem T U w I φ h) {u : Nat} (hu : h u = .unborn) {w' : World} (hg : w.grownBy w' none) {e : Nat} {l : List D} {f : Bool} {v : Value} (hT : (T e).cells ≠ []) (ho : OwnR T w' I e l v) (hb : ∀ b, blk v = some b → w.heap.size ≤ b)
    (hf : f = true → ∃ a, v = .slice a l.length l.length) : Mem T U w' I (setφ φ u v) (h.upd u (.row e l f)) ∧ Ext U w I φ w' I (setφ φ u v) := by
  have hφ : φ u = none := by have := hm.ent u; rw [hu] at this; exact this
  obtain ⟨m1, x1⟩ := hm.grow hg (fun b hb => by cases hb)
  obtain ⟨m2, x2⟩ := m1.add (id := u) (v := v) (E := .row e l f) (.inl hφ) ⟨v, by simp [setφ], ho, hf, hT⟩ (fun _ b hbb' => by
    have hbb := has_row.1 hbb'
    refine ⟨fun hI => by have := hm.lt _ hI; have := hb b hbb; omega, hm.up _ (hb b hbb), fun id' v' _ hl' hv' hbv => ?_⟩
    have h3 : has w (h id') v' b := has_back (fun r e => hg.block r (live_slice hl' (hm.ent id') hv' e) (fun e => by cases e)) hbv
    have := hm.lt_has hl' hv' h3
    have := hb b hbb
    omega)
  exact ⟨m2, x1.trans x2⟩
theorem OwnR.hdr {e : Nat} {l : List D} {v : Value} (h : OwnR T w I e l v) : ∃ a n c, v = .slice a n c := by
  obtain ⟨a, c, h, _⟩ := h.slice
  exact ⟨a, _, c, h⟩

theorem grown_drew_alloc (w : World) (o : Obj) : w.grownBy (w.drew.alloc o) none :=
  ⟨rfl, rfl, rfl, show w.heap.size ≤ (w.heap.push o).size by rw [Array.size_push]; exact Nat.le_succ _, fun k hk _ => heap_alloc_old w.drew _ k hk⟩
theorem relC_orow {u : Nat} {v : Value} (h : ∃ a n c, v = .slice a n c) : RelC T w I (setφ φ u v) (.orow u) v := ⟨by simp [setφ], h⟩
theorem needOk_iff {n b : Nat} : needOk n b = true ↔ n * b ≤ 140737488355328 := decide_eq_true_iff

/-- An append that finds no room (or nothing to leave): a new row. -/
theorem append_new (hT : TOK P T) (hm : Mem T U w I φ h) {u t tx e : Nat} {s y : Operand} (hu : h u = .unborn) (ho : o.op = .call { callee := .builtin .append, args := #[s, y], argTypes := #[t, tx] }) (ht : P.underlying t = some (.slice e)) (hk : kn T e = true)
    {l l2 : List D} {base : Option Addr} {sLen sCap : Nat} (hs : ρ' s = .slice base sLen sCap) (hsl : sLen = l.length) (hle : sLen ≤ sCap) {olds : List Value} (hold : ∀ w' : World, w'.heap = w.heap → (Builtin.firstCells (T e).cells.length sLen (.slice base sLen sCap)).run P w' = .ok olds.toArray w') (hfo : Flat T w I e l olds)
    (hsrc : Srce P T w I e tx (ρ' y) l2) (hgrow : sCap < sLen + l2.length) (hneed : needOk (l.length + l2.length) (T e).bytes = true) (hmax : l.length + l2.length ≤ maxLen) :
    StepOK P T U ρ' o w I φ (.orow u) (h.upd u (.row e (l ++ l2) false)) := by
  obtain ⟨news, hs2, hf2⟩ := hsrc
  obtain ⟨i, z, hi, hsz, hby, hz, hzs⟩ := bytes_info hT (kn_iff.1 hk)
  rw [← hsz] at hs2 hold
  have hneed' := needOk_iff.1 hneed
  rw [← hby] at hneed'
  subst hsl
  have hr := run_append_grow_src (P := P) w t tx o.type e i z ht hi hz base l.length sCap olds (hold _ rfl) (ρ' y) l2.length news hs2 hgrow (by simp only [maxLen] at hmax; omega) (growslice_fits (by omega) hneed')
  have hge := grownCap_ge w (l.length + l2.length) sCap e
  have hcm : grownCap w (l.length + l2.length) sCap e ≤ maxLen := grownCap_le_maxLen w (l.length + l2.length) sCap e hmax
  let w' := w.drew.alloc (.cells ((olds ++ news).toArray ++ Builtin.zeroCells z.cells (grownCap w (l.length + l2.length) sCap e - (l.length + l2.length))) e)
  have hg : w.grownBy w' none := grown_drew_alloc w _
  obtain ⟨m1, x1⟩ := hm.grow hg (fun b hb => by cases hb)
  have hown : OwnR T w' I e (l ++ l2) (.slice (some ⟨w.heap.size, 0, none⟩) (l.length + l2.length) (grownCap w (l.length + l2.length) sCap e)) := by
    have hff := (hfo.append hf2).ext x1
    have := ownR_new (T := T) (I := I) (e := e) (l := l ++ l2) (xs := olds ++ news) (cap := grownCap w (l.length + l2.length) sCap e) (w' := w') (b := w.heap.size) (rest := Builtin.zeroCells z.cells (grownCap w (l.length + l2.length) sCap e - (l.length + l2.length)))
      (heap_alloc_new w.drew _) hff (by simpa using hge) hcm (by rw [size_zeroCells, hzs, hff.1, List.length_append, ← Nat.add_mul]; congr 1; omega)
    simpa using this
  obtain ⟨m2, x2⟩ := hm.newRow hu hg (kn_iff.1 hk) hown (fun b hb => by simp only [blk] at hb; split at hb <;> simp_all) (f := false) (fun h => by cases h)
  refine ⟨.value _, _, I, _, ?_, m2, x2, .inl ⟨_, rfl, .of_C (relC_orow hown.hdr)⟩⟩
  simp [execOp, ho, resolve, invoke, builtin, hs, hr, Result.andThen]
  rfl

theorem firstCells_of {size n cap : Nat} {base : Option Addr} {xs : List Value} (hl : xs.length = n * size) (hc : xs ≠ [] → ∃ b o, base = some ⟨b, o, none⟩ ∧ ∀ (p : Nat) (x : Value), xs[p]? = some x → w.cell? ⟨b, o + p, none⟩ = some x)
    (w' : World) (hw : w'.heap = w.heap) : (Builtin.firstCells size n (.slice base n cap)).run P w' = .ok xs.toArray w' := by
  have hcell : ∀ a, w'.cell? a = w.cell? a := fun a => World.cell?_of_block (by rw [hw])
  by_cases hx : xs = []
  · subst hx
    cases base with
    | none => exact run_firstCells_none w' size n n cap
    | some a => exact run_firstCells_some w' size n a n cap [] hl (fun j u hu => by simp at hu)
  · obtain ⟨b, o, rfl, h⟩ := hc hx
    exact run_firstCells_some w' size n ⟨b, o, none⟩ n cap xs hl (fun j u hu => by rw [add_off, hcell]; exact h j u hu)

/-- 'append' of elements or of a string's bytes to a row that is nil, empty without room, or full. -/
theorem append_full (hT : TOK P T) (hm : Mem T U w I φ h) {u t tx e : Nat} {s y : Operand} (hu : h u = .unborn) (ho : o.op = .call { callee := .builtin .append, args := #[s, y], argTypes := #[t, tx] }) (ht : P.underlying t = some (.slice e)) (hk : kn T e = true)
    {l l2 : List D} {base : Option Addr} (hs : ρ' s = .slice base l.length l.length) (hr : Reads T w I e l (ρ' s)) (hsrc : Srce P T w I e tx (ρ' y) l2) (hpos : l2 ≠ []) (hneed : needOk (l.length + l2.length) (T e).bytes = true) (hmax : l.length + l2.length ≤ maxLen) :
    StepOK P T U ρ' o w I φ (.orow u) (h.upd u (.row e (l ++ l2) false)) := by
  obtain ⟨a, cap, xs, h1, h2, h3, h4⟩ := hr
  rw [hs] at h1
  simp only [Value.slice.injEq, true_and] at h1
  obtain ⟨rfl, rfl⟩ := h1
  have hlp : 0 < l2.length := List.length_pos_iff.2 hpos
  exact append_new hT hm hu ho ht hk hs rfl h2 (fun w' hw => firstCells_of h3.1 (fun hx => h4 (fun hl => by
    subst hl
    exact hx (List.eq_nil_of_length_eq_zero (by simpa using h3.1)))) w' hw) h3 hsrc (by omega) hneed hmax
/-- Nothing is appended to an empty row without room. -/
theorem append_nothing (hT : TOK P T) (hm : Mem T U w I φ h) {u t tx e : Nat} {s y : Operand} (hu : h u = .unborn) (ho : o.op = .call { callee := .builtin .append, args := #[s, y], argTypes := #[t, tx] }) (ht : P.underlying t = some (.slice e)) (hk : kn T e = true)
    {base : Option Addr} (hs : ρ' s = .slice base 0 0) (hsrc : Srce P T w I e tx (ρ' y) []) :
    StepOK P T U ρ' o w I φ (.orow u) (h.upd u (.row e [] false)) := by
  obtain ⟨news, hs2, hf2⟩ := hsrc
  obtain ⟨i, z, hi, hsz, hby, hz, hzs⟩ := bytes_info hT (kn_iff.1 hk)
  have hn : news = [] := List.eq_nil_of_length_eq_zero (by simpa using hf2.1)
  subst hn
  rw [← hsz] at hs2
  have hr := run_append_nothing (P := P) w t tx o.type e i ht hi base 0 0 (Nat.le_refl _) (ρ' y) hs2
  obtain ⟨m2, x2⟩ := hm.newRow hu (World.grownBy.refl w none) (kn_iff.1 hk) (l := []) (f := false) (v := .slice base 0 0) ⟨[], .inl ⟨rfl, rfl, base, rfl⟩, fun i j hi => by simp at hi⟩ (fun b hb => by cases base <;> simp [blk] at hb) (fun h => by cases h)
  refine ⟨.value (.slice base 0 0), w, I, _, ?_, m2, x2, .inl ⟨_, rfl, .of_C (relC_orow ⟨_, _, _, rfl⟩)⟩⟩
  simp [execOp, ho, resolve, invoke, builtin, hs, hr, Result.andThen]
/-- 'append' to a row of the call's own. -/
theorem append_own (hT : TOK P T) (hm : Mem T U w I φ h) {u t tx e id : Nat} {s y : Operand} (hu : h u = .unborn) (ho : o.op = .call { callee := .builtin .append, args := #[s, y], argTypes := #[t, tx] }) (ht : P.underlying t = some (.slice e)) (hk : kn T e = true)
    {l l2 : List D} {f : Bool} (hid : h id = .row e l f) (hs : φ id = some (ρ' s)) (hsrc : Srce P T w I e tx (ρ' y) l2) (hneed : needOk (l.length + l2.length) (T e).bytes = true) (hmax : l.length + l2.length ≤ maxLen) :
    StepOK P T U ρ' o w I φ (.orow u) ((h.upd id .dead).upd u (.row e (l ++ l2) false)) := by
  have he := hm.ent id
  rw [hid] at he
  obtain ⟨v, hv, hown, _, _⟩ := he
  obtain rfl : v = ρ' s := Option.some.inj (hv.symm.trans hs)
  have hlive : live (h id) := by rw [hid]; trivial
  have hne : u ≠ id := fun e => by rw [e, hid] at hu; cases hu
  have m0 := hm.kill (id := id) (by rw [hs]; simp)
  have hu0 : (h.upd id .dead) u = .unborn := by rw [Tab.upd_other _ _ hne]; exact hu
  obtain ⟨a, cap, hsl, hle⟩ := hown.slice
  by_cases hgrow : cap < l.length + l2.length
  · obtain ⟨a', cap', xs, h1, h2, h3, h4⟩ := hown.reads
    rw [hsl] at h1
    simp only [Value.slice.injEq, true_and] at h1
    obtain ⟨rfl, rfl⟩ := h1
    exact append_new hT m0 hu0 ho ht hk hsl rfl hle (fun w' hw => firstCells_of h3.1 (fun hx => h4 (fun hl => by
      subst hl
      exact hx (List.eq_nil_of_length_eq_zero (by simpa using h3.1)))) w' hw) h3 hsrc hgrow hneed hmax
  · obtain ⟨news, hs2, hf2⟩ := hsrc
    obtain ⟨i, z, hi, hsz, hby, hz, hzs⟩ := bytes_info hT (kn_iff.1 hk)
    have hown' := hown
    obtain ⟨xs, h1, h2⟩ := hown'
    have hno : (l = [] ∧ l2 = [] ∧ ∃ b, ρ' s = .slice b 0 0) ∨ (w.ownsRow 0 e (T e).cells.length (ρ' s) l.length xs ∧ blk (ρ' s) ≠ none) := by
      rcases h1 with ⟨rfl, _, b, hb⟩ | h1
      · left
        rw [hsl] at hb
        simp only [Value.slice.injEq] at hb
        have : l2.length = 0 := by simp at hgrow; omega
        exact ⟨rfl, List.eq_nil_of_length_eq_zero this, a, by rw [hsl, hb.2.2]; rfl⟩
      · exact .inr h1
    rcases hno with ⟨rfl, rfl, b, hb⟩ | ⟨ho1, hb⟩
    · exact append_nothing hT m0 hu0 ho ht hk hb ⟨news, hs2, hf2⟩
    · obtain ⟨hxl, h7⟩ := ho1
      rcases h7 with ⟨hn, _⟩ | ⟨g, cap', cur, hsl', _, hg, hnc, hcm, hcs, htake⟩
      · rw [hn] at hb; simp [blk] at hb
      · rw [hsl] at hsl'
        simp only [Value.slice.injEq, true_and] at hsl'
        obtain ⟨rfl, rfl⟩ := hsl'
        have hroom : l.length + l2.length ≤ cap := by omega
        have hblk : blk (ρ' s) = some g := by
          rw [hsl] at hb ⊢
          obtain ⟨b', hb'⟩ := Option.ne_none_iff_exists'.1 hb
          rw [hb']; simp only [blk] at hb'; split at hb' <;> simp_all
        have hfit : l.length * (T e).cells.length + news.length ≤ cur.size := by rw [hf2.1, hcs, ← Nat.add_mul]; exact Nat.mul_le_mul_right _ hroom
        have hst := run_storeCells_at (P := P) g (l.length * (T e).cells.length) e news 0 cur w hg (by simpa using hfit) hf2.one
        simp only [Nat.add_zero] at hst
        let cur' : Array Value := (cur.toList.take (l.length * (T e).cells.length) ++ news ++ cur.toList.drop (l.length * (T e).cells.length + news.length)).toArray
        have hrun : (Builtin.append_ #[t, tx] o.type #[.slice (some ⟨g, 0, none⟩) l.length cap, ρ' y]).run P w = .ok (.slice (some ⟨g, 0, none⟩) (l.length + l2.length) cap) (w.setRow g cur') := by
          rcases hs2.kind with ⟨e', hk'⟩ | hk' <;> simp [Builtin.append_, run_underlying ht, run_underlying hk', sizeOf, typeInfo, hi, hs2.len, hroom, hs2.cells, add_off, hst, cur', hsz]
        have hd := hm.own id (ρ' s) g hlive hs (.inl hblk)
        have hdis : ∀ id' v', live ((h.upd id .dead) id') → φ id' = some v' → ¬ has w ((h.upd id .dead) id') v' g := fun id' v' hl' hv' hb' => by
          by_cases hji : id' = id
          · subst hji; rw [Tab.upd_same] at hl'; exact hl'
          · rw [Tab.upd_other _ _ hji] at hl' hb'
            exact hji (hm.disj id' id v' _ g hl' hlive hv' hs hb' (.inl hblk))
        have hgr := grown_setRow (w := w) (b := g) (cs := cur')
        obtain ⟨m1, x1⟩ := m0.grow hgr (fun b hb => by cases hb; exact ⟨hd.1, hd.2, hdis⟩)
        have hown2 : OwnR T (w.setRow g cur') I e (l ++ l2) (.slice (some ⟨g, 0, none⟩) (l.length + l2.length) cap) := by
          have hff : Flat T (w.setRow g cur') I e (l ++ l2) (xs ++ news) := ((show Flat T w I e l xs from ⟨hxl, h2⟩).append hf2).ext x1
          have hrw : cur' = (xs ++ news).toArray ++ (cur.toList.drop (l.length * (T e).cells.length + news.length)).toArray := by
            simp [cur', htake]
          have := ownR_new (T := T) (I := I) (e := e) (l := l ++ l2) (xs := xs ++ news) (cap := cap) (w' := w.setRow g cur') (b := g) (rest := (cur.toList.drop (l.length * (T e).cells.length + news.length)).toArray)
            (by rw [← hrw]; exact setRow_heap w g cur _ e (0, 0) hg) hff (by simpa using hroom) hcm (by simp [hxl, hcs]; rw [hcs] at hfit; omega)
          simpa using this
        have hφ : φ u = none := by have := hm.ent u; rw [hu] at this; exact this
        obtain ⟨m2, x2⟩ := m1.add (id := u) (v := .slice (some ⟨g, 0, none⟩) (l.length + l2.length) cap) (E := .row e (l ++ l2) false) (.inl hφ) ⟨_, by simp [setφ], hown2, (fun h => by cases h), kn_iff.1 hk⟩ (fun _ b hbb => by
          have : b = g := by
            have hbb := has_row.1 hbb
            simp only [blk] at hbb; split at hbb <;> simp_all
          subst this
          exact ⟨hd.1, hd.2, fun id' v' _ hl' hv' hbv => hdis id' v' hl' hv' (has_back (fun r e => hgr.block r (live_slice hl' (m0.ent id') hv' e) (fun e' => hdis id' v' hl' hv' (.inl (by rw [e, ← Option.some.inj e']; rfl)))) hbv)⟩)
        refine ⟨.value _, _, I, _, ?_, m2, x1.trans x2, .inl ⟨_, rfl, .of_C (relC_orow ⟨_, _, _, rfl⟩)⟩⟩
        simp [execOp, ho, resolve, invoke, builtin, hsl, hrun, Result.andThen]

/-! ### Literals, structs, cuts, addresses -/
theorem toEls_sound {R : Type} {x : R} (hT : TOK P T) {e : Nat} (hk : kn T e = true) : ∀ {vs : List AV} {us : List Value} {I : Nat → Prop} {h : Tab} {K : List D → Tab → List Nat → List Nat → Option R} (_ : Mem T U w I φ h) (_ : All2 (RelV T w I φ) vs us) {r ws : List Nat}
    (_ : (toEls T e vs).run K h r ws = some x), ∃ ds h' r' ws' I', K ds h' r' ws' = some x ∧ Mem T U w I' φ h' ∧ Ext U w I φ w I' φ ∧ ds.length = us.length ∧
      ∀ (j : Nat) (u : Value), us[j]? = some u → RepEl T w I' e (ds.getD j (.int 0)) u.cells.toList ∧ (∀ y ∈ u.cells, y.oneCell' = true)
  | [], us, I, h, K, hm, hv, r, ws, hr => by
    cases hv
    exact ⟨[], _, _, _, I, hr, hm, .refl, rfl, fun j u hu => by simp at hu⟩
  | v :: vs, us, I, h, K, hm, hv, r, ws, hr => by
    cases hv with
    | cons h1 h2 =>
      simp only [toEls] at hr
      rw [run_bind] at hr
      obtain ⟨d, h', r', ws', I', hr, m, x1, hd, ho⟩ := toEl_sound hm hT hk h1 hr
      rw [run_bind] at hr
      obtain ⟨ds, h'', r'', ws'', I'', hr, m', x2, hl, hds⟩ := toEls_sound hT hk m (h2.imp (fun _ _ => RelV.ext x1)) hr
      refine ⟨d :: ds, h'', r'', ws'', I'', hr, m', x1.trans x2, by simp [hl], fun j u hu => ?_⟩
      cases j with
      | zero => simp at hu; subst hu; exact ⟨⟨hd.1, fun j y hy => (hd.2 j y hy).ext x2⟩, ho⟩
      | succ j => exact hds j u (by simpa using hu)

theorem foldl_cells : ∀ (l : List (Value × Nat)) (off : Nat) (cs : Array Value) (j0 : Nat), l = (l.map (·.1)).zipIdx j0 → off + j0 + l.length ≤ cs.size →
    (l.foldl (fun cs (c, j) => cs.setIfInBounds (off + j) c) cs).toList = cs.toList.take (off + j0) ++ l.map (·.1) ++ cs.toList.drop (off + j0 + l.length)
  | [], off, cs, j0, _, _ => by simp
  | (v, j) :: l, off, cs, j0, hl, hs => by
    simp only [List.map_cons, List.zipIdx_cons, List.cons.injEq, Prod.mk.injEq, true_and] at hl
    obtain ⟨rfl, hl⟩ := hl
    simp only [List.foldl_cons]
    rw [foldl_cells l off _ (j + 1) hl (by simp at hs ⊢; omega), show off + (j + 1) + l.length = off + j + (l.length + 1) by omega]
    simp only [List.length_cons] at hs
    have hlt : off + j < cs.toList.length := by simp; omega
    simp only [Array.toList_setIfInBounds, List.map_cons, List.length_cons]
    rw [List.drop_set_of_lt (by omega), ← Nat.add_assoc, List.take_succ_eq_append_getElem (by simpa using hlt), List.take_set_of_le (Nat.le_refl _)]
    simp only [List.getElem_set_self, List.append_assoc, List.singleton_append, List.cons_append, List.nil_append]
theorem fill_step (place : Nat → Option (Nat × Nat)) (cells : Array Value) (i off size : Nat) (v : Value) (rest : List (Nat × Value)) (hp : place i = some (off, size)) (hs : v.cells.size = size) (hle : off + v.cells.size ≤ cells.size) :
    Instr.fill place cells ((i, v) :: rest) = Instr.fill place (cells.toList.take off ++ v.cells.toList ++ cells.toList.drop (off + v.cells.size)).toArray rest := by
  simp only [Instr.fill, hp]
  rw [if_neg (by simp [hs]; omega)]
  congr 1
  have := foldl_cells v.cells.zipIdx.toList off cells 0 (by simp [Array.toList_zipIdx]) (by simpa using hle)
  apply Array.ext'
  rw [← Array.foldl_toList, this]
  simp [Array.toList_zipIdx]

theorem fill_row (size : Nat) : ∀ (vs : List Value) (n : Nat) (cells : Array Value), cells.size = (n + vs.length) * size → (∀ v ∈ vs, v.cells.size = size) →
    Instr.fill (fun i => some (i * size, size)) cells (vs.zipIdx n |>.map fun p => (p.2, p.1)) = some (cells.toList.take (n * size) ++ (vs.flatMap fun v => v.cells.toList)).toArray
  | [], n, cells, hs, _ => by
    simp only [List.zipIdx_nil, List.map_nil, Instr.fill, List.flatMap_nil, List.append_nil, Option.some.injEq]
    apply Array.ext'
    simp at hs ⊢
    rw [List.take_of_length_le (by simp [hs])]
  | v :: vs, n, cells, hs, h1 => by
    have hv := h1 v (by simp)
    have hsz : n * size + size ≤ cells.size := by
      rw [hs, List.length_cons]
      have : (n + 1) * size ≤ (n + (vs.length + 1)) * size := Nat.mul_le_mul_right _ (by omega)
      rw [Nat.add_mul, Nat.one_mul] at this
      exact this
    simp only [List.zipIdx_cons, List.map_cons]
    rw [fill_step _ _ n (n * size) size v _ rfl hv (by rw [hv]; exact hsz), fill_row size vs (n + 1) _ (by
      simp [hv]; rw [hs, List.length_cons] at *
      have : (n + (vs.length + 1)) * size = n * size + (vs.length + 1) * size := Nat.add_mul _ _ _
      have h2 : (n + 1 + vs.length) * size = n * size + (vs.length + 1) * size := by rw [show n + 1 + vs.length = n + (vs.length + 1) by omega, Nat.add_mul]
      omega) (fun u hu => h1 u (by simp [hu]))]
    congr 2
    simp only [List.flatMap_cons, ← List.append_assoc]
    congr 1
    have hl : (cells.toList.take (n * size) ++ v.cells.toList).length = (n + 1) * size := by simp [hv, Nat.add_mul]; omega
    rw [List.take_append_of_le_length (by omega), List.take_of_length_le (by omega)]

theorem buildSlice_sound (hT : TOK P T) (hm : Mem T U w I φ h) {u t e len : Nat} {parts : Array (Nat × Operand)} (hu : h u = .unborn) (ho : o.op = .buildSlice t len parts) (ht : slE T t = some e) (hk : kn T e = true) (hlen : parts.size = len) (hseq : seqFrom 0 (parts.toList.map (·.1)) = true)
    (hmax : len * (T e).cells.length ≤ 16777216) {ds : List D} (hdl : ds.length = len) (hds : ∀ (j : Nat) (p : Nat × Operand), parts.toList[j]? = some p → RepEl T w I e (ds.getD j (.int 0)) (ρ' p.2).cells.toList ∧ (∀ y ∈ (ρ' p.2).cells, y.oneCell' = true)) :
    StepOK P T U ρ' o w I φ (.orow u) (h.upd u (.row e ds true)) := by
  obtain ⟨i, z, hi, hsz, hby, hz, hzs⟩ := bytes_info hT (kn_iff.1 hk)
  have hpos : 0 < (T e).cells.length := List.length_pos_iff.2 (kn_iff.1 hk)
  let vs : List Value := parts.toList.map fun p => ρ' p.2
  let flat : List Value := vs.flatMap fun v => v.cells.toList
  have hvs : vs.length = len := by simp [vs, hlen]
  have hsz1 : ∀ v ∈ vs, v.cells.size = (T e).cells.length := by
    intro v hv
    obtain ⟨j, hj⟩ := List.getElem?_of_mem hv
    simp only [vs, List.getElem?_map, Option.map_eq_some_iff] at hj
    obtain ⟨p, hp, rfl⟩ := hj
    have := (hds j p hp).1.1
    simpa using this
  have hfl : ∀ (l : List Value), (∀ v ∈ l, v.cells.size = (T e).cells.length) → (l.flatMap fun v => v.cells.toList).length = l.length * (T e).cells.length := by
    intro l hl
    induction l with
    | nil => simp
    | cons v l ih =>
      simp only [List.flatMap_cons, List.length_append, List.length_cons, Array.length_toList]
      rw [ih (fun u hu => hl u (by simp [hu])), hl v (by simp), Nat.add_mul, Nat.one_mul, Nat.add_comm]
  have hget : ∀ (l : List Value), (∀ v ∈ l, v.cells.size = (T e).cells.length) → ∀ i j v, l[i]? = some v → j < (T e).cells.length → (l.flatMap fun v => v.cells.toList)[i * (T e).cells.length + j]? = v.cells.toList[j]? := by
    intro l hl
    induction l with
    | nil => intro i j v hv; simp at hv
    | cons x l ih =>
      intro i j v hv hj
      have hx := hl x (by simp)
      simp only [List.flatMap_cons]
      cases i with
      | zero =>
        simp at hv; subst hv
        rw [Nat.zero_mul, Nat.zero_add, List.getElem?_append_left (by simpa [hx] using hj)]
      | succ i =>
        have : (i + 1) * (T e).cells.length + j = x.cells.toList.length + (i * (T e).cells.length + j) := by simp [hx, Nat.add_mul]; omega
        rw [this, List.getElem?_append_right (by omega), Nat.add_sub_cancel_left]
        exact ih (fun u hu => hl u (by simp [hu])) i j v (by simpa using hv) hj
  have hff : Flat T w I e ds flat := by
    refine ⟨by rw [hfl vs hsz1, hvs, hdl], fun i j hi hj => ?_⟩
    have hil : i < parts.toList.length := by simp [hlen]; omega
    have hp : parts.toList[i]? = some parts.toList[i] := List.getElem?_eq_getElem hil
    obtain ⟨h1, h2⟩ := hds i _ hp
    have hlt : j < (ρ' parts.toList[i].2).cells.toList.length := by rw [h1.1]; exact hj
    exact ⟨(ρ' parts.toList[i].2).cells.toList[j], (hget vs hsz1 i j _ (by simp only [vs, List.getElem?_map, hp]; rfl) hj).trans (List.getElem?_eq_getElem hlt), h1.2 j _ (List.getElem?_eq_getElem hlt)⟩
  have hsl := slE_ok hT ht
  have hnum : ∀ (l : List (Nat × Operand)) (n : Nat), seqFrom n (l.map (·.1)) = true → (l.map fun p => (p.1, ρ' p.2)) = ((l.map fun p => ρ' p.2).zipIdx n).map fun p => (p.2, p.1) := by
    intro l
    induction l with
    | nil => intro n _; rfl
    | cons p l ih =>
      intro n hn
      simp only [List.map_cons, seqFrom, Bool.and_eq_true] at hn
      have := Nat.eq_of_beq_eq_true hn.1
      simp only [List.map_cons, List.zipIdx_cons]
      rw [ih (n + 1) hn.2, this]
  have hrun : (execOp ρ' o).run P w = .ok (.value (.slice (some ⟨w.heap.size, 0, none⟩) len len)) (w.alloc (.cells flat.toArray e)) := by
    have hfill : ∀ c0 : Array Value, c0.size = len * (T e).cells.length → Instr.fill (fun i => some (i * (T e).cells.length, (T e).cells.length)) c0 (parts.map fun p => (p.1, ρ' p.2)).toList = some flat.toArray := by
      intro c0 hc0
      rw [Array.toList_map, hnum parts.toList 0 hseq, fill_row (T e).cells.length vs 0 c0 (by rw [hvs, Nat.zero_add]; exact hc0) hsz1]
      simp [flat]
    simp only [execOp, ho, Instr.buildSlice, Sem.run_bind, run_underlying hsl.2.2, sizeOf, typeInfo, run_program, hi, Sem.run_pure, Result.andThen_ok]
    rw [if_neg (by rw [hsz]; omega)]
    by_cases h0 : len * (T e).cells.length = 0
    · rw [hsz, if_pos h0]
      simp only [pure_bind]
      rw [hfill _ (by simp)]
      rfl
    · rw [hsz, if_neg h0]
      simp only [pure_bind, Sem.run_bind, Sem.run_pure, Result.andThen_ok, zeroValue, typeInfo, run_program, hi, hz]
      rw [hfill _ (by simp)]
      rfl
  have hown : OwnR T (w.alloc (.cells flat.toArray e)) I e ds (.slice (some ⟨w.heap.size, 0, none⟩) len len) := by
    have x0 := (hm.grow (World.grownBy_alloc w (.cells flat.toArray e) none) (fun b hb => by cases hb)).2
    have := ownR_new (T := T) (I := I) (e := e) (l := ds) (xs := flat) (cap := len) (w' := w.alloc (.cells flat.toArray e)) (b := w.heap.size) (rest := #[]) (by rw [Array.append_empty]; exact heap_alloc_new w _) (hff.ext x0) (by omega)
      (by have : len ≤ len * (T e).cells.length := Nat.le_mul_of_pos_right _ hpos; simp only [maxLen]; omega) (by simp [hff.1, hdl])
    rw [hdl] at this
    exact this
  obtain ⟨m2, x2⟩ := hm.newRow hu (World.grownBy_alloc w _ none) (kn_iff.1 hk) hown (fun b hb => by simp only [blk] at hb; split at hb <;> simp_all) (f := true) (fun _ => ⟨_, by rw [hdl]⟩)
  exact ⟨_, _, I, _, hrun, m2, x2, .inl ⟨_, rfl, .of_C (relC_orow ⟨_, _, _, rfl⟩)⟩⟩

theorem run_mapM {α β : Type} {f : α → Sem β} {g : α → β} (w : World) : ∀ (l : List α), (∀ a ∈ l, (f a).run P w = .ok (g a) w) → (l.mapM f).run P w = .ok (l.map g) w
  | [], _ => by simp
  | a :: l, h => by
    rw [List.mapM_cons]
    simp [h a (by simp), run_mapM w l (fun b hb => h b (by simp [hb]))]
theorem run_places (hT : TOK P T) {fs : Array Field} (h : ∀ f ∈ fs, (T f.type).cells ≠ []) (w : World) : (fs.mapM fun f => do pure (f.offset, ← sizeOf f.type) : Sem (Array (Nat × Nat))).run P w = .ok (fs.map fun f => (f.offset, (T f.type).cells.length)) w := by
  obtain ⟨l⟩ := fs
  rw [List.mapM_toArray]
  have := run_mapM (P := P) (f := fun f : Field => (do pure (f.offset, ← sizeOf f.type) : Sem (Nat × Nat))) (g := fun f => (f.offset, (T f.type).cells.length)) w l (fun a ha => by
    obtain ⟨i, d, hi, _, hs, _⟩ := (hT a.type (h a (by simpa using ha))).ex
    simp [sizeOf, typeInfo, hi, hs])
  simp only [map_eq_pure_bind, Sem.run_bind, this, Result.andThen_ok, Sem.run_pure, List.map_toArray]

theorem buildP_sound {R : Type} {K : List AV → Tab → List Nat → List Nat → Option R} {x : R} (hT : TOK P T) {t : Nat} {fs : Array Field} (hfs : (T t).fields = fs.toList.map fun f => (f.offset, f.type)) :
    ∀ (ps : List (Nat × AV)) (qs : List (Nat × Value)) (cs : List AV) (vs : Array Value) (_ : All2 (fun (p : Nat × AV) (q : Nat × Value) => p.1 = q.1 ∧ RelV T w I φ p.2 q.2) ps qs) (_ : All2 (RelC T w I φ) cs vs.toList) {r ws : List Nat} (_ : (buildP T t ps cs).run K h r ws = some x),
      ∃ cs' vs', K cs' h r ws = some x ∧ Instr.fill ((fs.map fun f => (f.offset, (T f.type).cells.length))[·]?) vs qs = some vs' ∧ All2 (RelC T w I φ) cs' vs'.toList
  | [], qs, cs, vs, hp, hc, r, ws, hr => by
    cases hp
    exact ⟨cs, vs, hr, rfl, hc⟩
  | p :: ps, qs, cs, vs, hp, hc, r, ws, hr => by
    cases hp with
    | cons h1 h2 =>
      rename_i q qs
      obtain ⟨i, v⟩ := q
      obtain ⟨hi, hv⟩ := h1
      simp only at hi hv
      unfold buildP at hr
      split at hr
      · rename_i off ft hf
        rw [run_chk] at hr
        simp only [Bool.and_eq_true] at hr
        obtain ⟨⟨⟨hk, hl⟩, hle⟩, hr⟩ := hr
        have hl := Nat.eq_of_beq_eq_true hl
        have hle := Nat.le_of_ble_eq_true hle
        have hcr := cells_rel (relA_of_full hv hk) (.inl hk)
        obtain ⟨f, hff, hfo⟩ : ∃ f, fs[p.1]? = some f ∧ (f.offset, f.type) = (off, ft) := by
          rw [hfs, List.getElem?_map, Option.map_eq_some_iff] at hf
          obtain ⟨f, h3, h4⟩ := hf
          exact ⟨f, by simpa using h3, h4⟩
        simp only [Prod.mk.injEq] at hfo
        obtain ⟨rfl, rfl⟩ := hfo
        have hvs : v.cells.size = (T f.type).cells.length := by rw [← hl, hcr.len]; simp
        have hsz : cs.length = vs.size := by simpa using hc.len
        rw [← hi, fill_step _ vs p.1 f.offset (T f.type).cells.length v qs (by simp [hff]) hvs (by rw [hvs]; omega)]
        have hs' := setCells_rel (off := f.offset) hc hcr
        simp only [Array.length_toList] at hs'
        exact buildP_sound hT hfs ps qs _ _ h2 (by simpa using hs') hr
      · simp [run_fail] at hr

theorem all2_map {α γ δ : Type} {Q : γ → δ → Prop} (f : α → γ) (g : α → δ) : ∀ (l : List α), (∀ a ∈ l, Q (f a) (g a)) → All2 Q (l.map f) (l.map g)
  | [], _ => .nil
  | a :: l, h => .cons (h a (by simp)) (all2_map f g l fun b hb => h b (by simp [hb]))
theorem build_sound {R : Type} {K : AV → Tab → List Nat → List Nat → Option R} {x : R} (hT : TOK P T) (hm : Mem T U w I φ h) (hρ : ∀ y, RelV T w I φ (ρ y) (ρ' y)) {t : Nat} {parts : Array (Nat × Operand)} (ho : o.op = .build t parts) {r ws : List Nat}
    (hr : (M.chk ((T t).agg && kn T t && !(T t).fields.isEmpty) ((buildP T t (parts.toList.map fun p => (p.1, ρ p.2)) ((T t).cells.map zeroC)).bind fun cs => .ret (.agg cs))).run K h r ws = some x) :
    ∃ av, K av h r ws = some x ∧ StepOK P T U ρ' o w I φ av h := by
  rw [run_chk, run_bind] at hr
  simp only [Bool.and_eq_true] at hr
  obtain ⟨⟨⟨ha, hk⟩, hfe⟩, hr⟩ := hr
  have hty := hT t (kn_iff.1 hk)
  obtain ⟨i, fs, hi, hu, hs, hz, hfs⟩ := hty.struct ha (by intro e; rw [e] at hfe; simp at hfe)
  obtain ⟨cs', vs', hK, hfill, hrel⟩ := buildP_sound (K := fun cs h r w => K (.agg cs) h r w) hT hfs _ (parts.toList.map fun p => (p.1, ρ' p.2)) _ ((T t).cells.map zeroVal).toArray
    (all2_map _ _ _ fun p _ => ⟨rfl, hρ p.2⟩) (by simpa using zeros_rel (T := T) (T t).cells) hr
  refine ⟨_, hK, .same hm (v := .agg vs') ?_ (.of_A ⟨vs', rfl, hrel⟩)⟩
  have hfk : ∀ f ∈ fs, (T f.type).cells ≠ [] := by
    intro f hf
    obtain ⟨n, hn⟩ := List.getElem?_of_mem (show f ∈ fs.toList by simpa using hf)
    exact (hty.fields n f.offset f.type (by rw [hfs, List.getElem?_map, hn]; rfl)).1
  have hpl := run_places hT hfk w
  have hpm : (parts.map fun p => (p.1, ρ' p.2)).toList = parts.toList.map fun p => (p.1, ρ' p.2) := by simp
  simp only [execOp, ho, Instr.build, Sem.run_bind, zeroValue, typeInfo, run_program, hi, hz, Sem.run_pure, Result.andThen_ok, run_underlying hu, Value.cells]
  rw [hpl]
  simp only [Result.andThen_ok, hpm]
  rw [hfill]
  rfl

theorem extract_list (cs : Array Value) (a b : Nat) : (cs.extract a b).toList = (cs.toList.drop a).take (b - a) := by
  simp [Array.toList_extract, List.extract]

/-- A part of a struct's value. -/
theorem part_run (hT : TOK P T) {ft off : Nat} (hk : kn T ft = true) {cs : List AV} {vs : Array Value} (hr : All2 (RelC T w I φ) cs vs.toList) (hle : off + (T ft).cells.length ≤ cs.length) :
    ∃ v, (part ft vs off).run P w = .ok v w ∧ RelA T w I φ (valOf T ft cs off) v := by
  have hc := kn_iff.1 hk
  have hlen : cs.length = vs.size := by simpa using hr.len
  cases ha : (T ft).agg
  · obtain ⟨i, d, c, hi, hu, hs, _, hcc, _, hd, _⟩ := (hT ft hc).cell ha
    rw [hcc] at hle
    simp at hle
    have hlt : off < vs.size := by omega
    have hagg : (isAgg ft).run P w = .ok false w := by
      unfold isAgg
      rw [Sem.run_bind, run_underlying hu w]
      cases d <;> simp_all
    refine ⟨vs[off], by simp [part, hagg, Array.getElem?_eq_getElem hlt], ?_⟩
    have hcs : off < cs.length := by omega
    obtain ⟨v, hv, hrel⟩ := hr.get (List.getElem?_eq_getElem hcs)
    have : v = vs[off] := by
      rw [Array.getElem?_toList, Array.getElem?_eq_getElem hlt] at hv
      exact (Option.some.inj hv).symm
    subst this
    have hval : valOf T ft cs off = cs[off] := by simp [valOf, ha, List.getD_eq_getElem?_getD, hcs]
    rw [hval]
    exact .of_C hrel
  · obtain ⟨i, fs, hi, hu, hs, hrow⟩ := (hT ft hc).row ha
    have hagg : (isAgg ft).run P w = .ok true w := by
      unfold isAgg
      rw [Sem.run_bind, run_underlying hu w]
      cases fs <;> first | rfl | (simp [TypeDesc.isRow] at hrow)
    refine ⟨.agg (vs.extract off (off + (T ft).cells.length)), by simp [part, hagg, sizeOf, typeInfo, hi, hs], ?_⟩
    simp only [valOf, ha, cond_true]
    refine ⟨_, rfl, ?_⟩
    rw [extract_list, Nat.add_sub_cancel_left]
    exact (hr.drop off).take _

theorem field_sound (hT : TOK P T) (hm : Mem T U w I φ h) {s f off ft : Nat} {y : Operand} {cs : List AV} (ho : o.op = .field s y f) (hks : (T s).fields[f]? = some (off, ft)) (hle : off + (T ft).cells.length ≤ cs.length)
    (hagg : (T s).agg = true) (hk0 : kn T s = true) (hy : ρ y = .agg cs) (hρ : RelV T w I φ (ρ y) (ρ' y)) : StepOK P T U ρ' o w I φ (valOf T ft cs off) h := by
  have hty := hT s (kn_iff.1 hk0)
  obtain ⟨i, fs, hi, hu, hs, hz, hfs⟩ := hty.struct hagg (by intro e; rw [e] at hks; simp at hks)
  have hkf := (hty.fields f off ft hks).1
  rw [hy] at hρ
  obtain ⟨vs, hv, hr⟩ := hρ
  obtain ⟨v, hrun, hrel⟩ := part_run (P := P) hT (kn_iff.2 hkf) hr hle
  obtain ⟨fl, hff, hfo⟩ : ∃ g, fs[f]? = some g ∧ (g.offset, g.type) = (off, ft) := by
    rw [hfs, List.getElem?_map, Option.map_eq_some_iff] at hks
    obtain ⟨g, h3, h4⟩ := hks
    exact ⟨g, by simpa using h3, h4⟩
  simp only [Prod.mk.injEq] at hfo
  obtain ⟨rfl, rfl⟩ := hfo
  refine .same hm (v := v) ?_ (.of_A hrel)
  simp [execOp, ho, Instr.field, run_underlying hu, hff, hv, asAgg, hrun, Result.andThen]

theorem run_fieldAt (hT : TOK P T) {s f off ft : Nat} (hks : (T s).fields[f]? = some (off, ft)) (hagg : (T s).agg = true) (hk0 : kn T s = true) (b oo : Nat) :
    (Instr.fieldAt s (.pointer (some ⟨b, oo, none⟩)) f).run P w = .ok (.pointer (some ⟨b, oo + off, none⟩)) w := by
  have hty := hT s (kn_iff.1 hk0)
  obtain ⟨i, fs, hi, hu, hs, hz, hfs⟩ := hty.struct hagg (by intro e; rw [e] at hks; simp at hks)
  have hkf := (hty.fields f off ft hks).1
  obtain ⟨fl, hff, hfo⟩ : ∃ g, fs[f]? = some g ∧ (g.offset, g.type) = (off, ft) := by
    rw [hfs, List.getElem?_map, Option.map_eq_some_iff] at hks
    obtain ⟨g, h3, h4⟩ := hks
    exact ⟨g, by simpa using h3, h4⟩
  simp only [Prod.mk.injEq] at hfo
  obtain ⟨rfl, rfl⟩ := hfo
  obtain ⟨i2, d2, hi2, _, hs2, _⟩ := (hT fl.type hkf).ex
  have hpos : 0 < (T fl.type).cells.length := List.length_pos_iff.2 hkf
  have hne : ¬ (i2.size = 0) := by rw [hs2]; omega
  simp [Instr.fieldAt, run_underlying hu, hff, Instr.sureAddr, fieldPlace, sizeOf, typeInfo, hi2, hne, add_off]
theorem fieldAddr_sound (hT : TOK P T) (hm : Mem T U w I φ h) {s f off ft : Nat} {y : Operand} {av : AV} (ho : o.op = .fieldAddr s y f) (hks : (T s).fields[f]? = some (off, ft)) (hagg : (T s).agg = true) (hk0 : kn T s = true)
    (hρ : RelV T w I φ (ρ y) (ρ' y)) (hav : (∃ id oo, ρ y = .ptr id oo ∧ av = .ptr id (oo + off)) ∨ (∃ e id i oo, ρ y = .eptr e id i oo ∧ av = .eptr e id i (oo + off)) ∨ (∃ e d oo, ρ y = .sptr e d oo ∧ av = .sptr e d (oo + off))) :
    StepOK P T U ρ' o w I φ av h := by
  rcases hav with ⟨id, oo, hy, rfl⟩ | ⟨e, id, i, oo, hy, rfl⟩ | ⟨e, d, oo, hy, rfl⟩ <;> rw [hy] at hρ
  · obtain ⟨b, h1, h2⟩ := hρ
    refine .same hm (v := .pointer (some ⟨b, oo + off, none⟩)) ?_ (.of_C ⟨b, h1, rfl⟩)
    simp [execOp, ho, h2, run_fieldAt (P := P) (w := w) hT hks hagg hk0, Result.andThen]
  · obtain ⟨b, n, cap, h1, h2, h3, h4⟩ := hρ
    refine .same hm (v := .pointer (some ⟨b, i.toNat * (T e).cells.length + oo + off, none⟩)) ?_ (.of_C ⟨b, n, cap, h1, h2, h3, by rw [Nat.add_assoc]⟩)
    simp [execOp, ho, h4, run_fieldAt (P := P) (w := w) hT hks hagg hk0, Result.andThen]
  · obtain ⟨b, o2, h1, h2, h3⟩ := hρ
    refine .same hm (v := .pointer (some ⟨b, o2 + off, none⟩)) ?_ (.of_C ⟨b, o2 + off, h1, rfl, fun j hj hj' => ?_⟩)
    · simp [execOp, ho, h2, run_fieldAt (P := P) (w := w) hT hks hagg hk0, Result.andThen]
    · obtain ⟨u, hu, hr⟩ := h3 j (by omega) hj'
      refine ⟨u, ?_, hr⟩
      have : o2 + off + (j - (oo + off)) = o2 + (j - oo) := by omega
      rw [this]; exact hu

theorem inRow_iff {i : Int} {n : Nat} : inRow i n = true ↔ 0 ≤ i ∧ i < (n : Int) := by simp [inRow]
theorem run_indexAt (hT : TOK P T) {t e : Nat} (ht : slE T t = some e) (hk : kn T e = true) {b off n cap : Nat} {k : IntKind} {i : Int} (h0 : 0 ≤ i) (hn : i < (n : Int)) :
    (Instr.indexAt t (.slice (some ⟨b, off, none⟩) n cap) (.int k i)).run P w = .ok (.pointer (some ⟨b, off + i.toNat * (T e).cells.length, none⟩)) w := by
  obtain ⟨_, _, hu⟩ := slE_ok hT ht
  obtain ⟨i2, d2, hi2, _, hs2, _⟩ := (hT e (kn_iff.1 hk)).ex
  simp [Instr.indexAt, asIntOf, run_underlying hu, h0, hn, sizeOf, typeInfo, hi2, hs2, add_off]
/-- An array of zeros. -/
theorem buildArr_sound (hT : TOK P T) (hm : Mem T U w I φ h) {t e : Nat} (ho : o.op = .build t #[]) (ha : (T t).agg = true) (ht : (T t).arr = some e) (hk : kn T t = true) (hke : kn T e = true) : StepOK P T U ρ' o w I φ (.agg ((T t).cells.map zeroC)) h := by
  obtain ⟨i, d, hi, hu, hs, hb, hd, hz⟩ := (hT t (kn_iff.1 hk)).ex
  obtain ⟨n, rfl, hn⟩ : ∃ n, d = .array n e ∧ (T t).cells.length = n := by
    cases d <;> simp [descOK, ha, ht] at hd
    rename_i n e'
    exact ⟨n, by rw [hd.2.1], hd.2.2⟩
  obtain ⟨i2, d2, hi2, _, hs2, _⟩ := (hT e (kn_iff.1 hke)).ex
  rw [ha] at hz
  refine .same hm (v := .agg ((T t).cells.map zeroVal).toArray) ?_ (.of_A ⟨_, rfl, by simpa using zeros_rel (T := T) (T t).cells⟩)
  simp [execOp, ho, Instr.build, zeroValue, typeInfo, hi, hz, run_underlying hu, sizeOf, hi2, Instr.fill, Value.cells, Result.andThen]
/-- A place in an array. -/
theorem indexArr_sound (hT : TOK P T) (hm : Mem T U w I φ h) {t e id off j : Nat} {y z : Operand} {k : IntKind} (ho : o.op = .indexAddr t y z) (ha : (T t).agg = true) (ht : (T t).arr = some e) (hk : kn T t = true) (hke : kn T e = true) (h1 : (T e).cells.length = 1) (hj : j < (T t).cells.length) (hz : ρ' z = .int k (j : Int)) (hy : RelC T w I φ (.ptr id off) (ρ' y)) :
    StepOK P T U ρ' o w I φ (.ptr id (off + j)) h := by
  obtain ⟨i, d, hi, hu, hs, hb, hd, _⟩ := (hT t (kn_iff.1 hk)).ex
  obtain ⟨n, rfl, hn⟩ : ∃ n, d = .array n e ∧ (T t).cells.length = n := by
    cases d <;> simp [descOK, ha, ht] at hd
    rename_i n e'
    exact ⟨n, by rw [hd.2.1], hd.2.2⟩
  obtain ⟨i2, d2, hi2, _, hs2, _⟩ := (hT e (kn_iff.1 hke)).ex
  obtain ⟨b, hb1, hb2⟩ := hy
  refine .same hm (v := .pointer (some ⟨b, off + j, none⟩)) ?_ (.of_C ⟨b, hb1, rfl⟩)
  have hjn : (j : Int) < (n : Int) := by omega
  have hrun : (Instr.indexAt t (.pointer (some ⟨b, off, none⟩)) (.int k (j : Int))).run P w = .ok (.pointer (some ⟨b, off + j, none⟩)) w := by
    simp [Instr.indexAt, asIntOf, run_underlying hu, Instr.sureAddr, sizeOf, typeInfo, hi2, hs2, h1, add_off, hjn]
    intro hh; omega
  simp [execOp, ho, hb2, hz, hrun, Result.andThen]
theorem pickI_run {R α : Type} {K : α → Tab → List Nat → List Nat → Option R} {i : Int} {x : R} {f : Nat → M α} {r ws : List Nat} : ∀ {n j : Nat}, (pickI i j n f).run K h r ws = some x → ∃ m, j ≤ m ∧ m < j + n ∧ i = (m : Int) ∧ (f m).run K h r ws = some x
  | 0, j, hr => by simp [pickI, run_fail] at hr
  | n + 1, j, hr => by
    simp only [pickI] at hr
    rw [run_br] at hr
    split at hr
    · rename_i hi
      exact ⟨j, Nat.le_refl _, by omega, of_decide_eq_true hi, hr⟩
    · obtain ⟨m, h1, h2, h3, h4⟩ := pickI_run hr
      exact ⟨m, by omega, by omega, h3, h4⟩
theorem indexAddr_sound (hT : TOK P T) (hm : Mem T U w I φ h) {t e : Nat} {y z : Operand} {k : IntKind} {i : Int} {av : AV} (ho : o.op = .indexAddr t y z) (ht : slE T t = some e) (hk : kn T e = true) (hz : ρ z = .int k i) (hρy : RelV T w I φ (ρ y) (ρ' y)) (hρz : RelV T w I φ (ρ z) (ρ' z))
    (hav : (∃ id l f, ρ y = .orow id ∧ h id = .row e l f ∧ inRow i l.length = true ∧ av = .eptr e id i 0) ∨ (∃ id l, ρ y = .orow id ∧ h id = .frz e l ∧ inRow i l.length = true ∧ av = .sptr e (elAt l i) 0) ∨
      (∃ l, (ρ y = .srow e l ∨ ρ y = .frow e l) ∧ inRow i l.length = true ∧ av = .sptr e (elAt l i) 0)) : StepOK P T U ρ' o w I φ av h := by
  rw [hz] at hρz
  have hz' := relV_int hρz
  have hseen : ∀ l, RepC T w I (.sl e) (.row l) (ρ' y) → inRow i l.length = true → StepOK P T U ρ' o w I φ (.sptr e (elAt l i) 0) h := by
    intro l hr hin
    obtain ⟨h0, hn⟩ := inRow_iff.1 hin
    generalize hyv : ρ' y = v at hr
    cases hr with
    | nil _ _ a cap hl => simp [D.r] at hl; subst hl; simp at hn; omega
    | sl _ _ b off n cap u hnl hb hc hl hrr =>
      simp only [D.r] at hnl
      subst hnl
      have hlt : i.toNat < l.length := by omega
      refine .same hm (v := .pointer (some ⟨b, off + i.toNat * (T e).cells.length, none⟩)) ?_ (.of_C ⟨b, _, hb, rfl, fun j _ hj => ⟨u i.toNat j, ?_, hrr i.toNat j hlt hj⟩⟩)
      · simp [execOp, ho, hyv, hz', run_indexAt (P := P) (w := w) hT ht hk h0 hn, Result.andThen]
      · have := hl i.toNat j hlt hj
        rw [Nat.sub_zero, Nat.add_assoc]; exact this
  rcases hav with ⟨id, l, f, hy, hid, hin, rfl⟩ | ⟨id, l, hy, hid, hin, rfl⟩ | ⟨l, hy, hin, rfl⟩
  · obtain ⟨h0, hn⟩ := inRow_iff.1 hin
    rw [hy] at hρy
    have he := hm.ent id
    rw [hid] at he
    obtain ⟨v, hv, hown, _⟩ := he
    obtain rfl := Option.some.inj (hv.symm.trans hρy.1)
    obtain ⟨a, cap, xs, h1, h2, h3, h4⟩ := hown.reads
    obtain ⟨b, oo, rfl, _⟩ := h4 (fun hl => by subst hl; simp at hn; omega)
    have hoo : oo = 0 := by
      obtain ⟨xs', g1, _⟩ := hown
      rcases g1 with ⟨rfl, _⟩ | ⟨g1, _⟩
      · simp at hn; omega
      · rcases g1.2 with ⟨hh, _⟩ | ⟨g, cap', cur, hh, _⟩
        · rw [h1] at hh; cases hh
        · rw [h1] at hh; simp only [Value.slice.injEq, Option.some.injEq, Addr.mk.injEq] at hh; exact hh.1.2.1
    subst hoo
    refine .same hm (v := .pointer (some ⟨b, 0 + i.toNat * (T e).cells.length, none⟩)) ?_ (.of_C ⟨b, l.length, cap, by rw [← h1]; exact hv, h0, hn, by simp⟩)
    simp [execOp, ho, h1, hz', run_indexAt (P := P) (w := w) hT ht hk h0 hn, Result.andThen]
  · rw [hy] at hρy
    have he := hm.ent id
    rw [hid] at he
    obtain ⟨v, hv, hrep, _⟩ := he
    obtain rfl := Option.some.inj (hv.symm.trans hρy.1)
    exact hseen l hrep hin
  · rcases hy with hy | hy <;> rw [hy] at hρy
    · exact hseen l hρy hin
    · exact hseen l hρy.1 hin

theorem index_sound (hT : TOK P T) (hm : Mem T U w I φ h) {t : Nat} {y z : Operand} {k : IntKind} {i : Int} {s : ByteArray} (ho : o.op = .index t y z) (hts : decide ((T t).cells = [.str]) = true) (hta : (T t).agg = false) (hin : inRow i s.size = true)
    (hy : ρ y = .str s) (hz : ρ z = .int k i) (hρy : RelV T w I φ (ρ y) (ρ' y)) (hρz : RelV T w I φ (ρ z) (ρ' z)) : StepOK P T U ρ' o w I φ (.int .u8 ((s.toList.getD i.toNat 0).toNat : Int)) h := by
  have hc := of_decide_eq_true hts
  obtain ⟨i2, d, c, hi, hu, _, _, hcc, _, _, hd⟩ := (hT t (by rw [hc]; simp)).cell hta
  have hdd : d = .string := by cases d <;> simp [descOK, hta, hc] at hd <;> rfl
  subst hdd
  rw [hy] at hρy; rw [hz] at hρz
  have e1 := relV_str hρy
  have e2 := relV_int hρz
  obtain ⟨h0, hn⟩ := inRow_iff.1 hin
  have hlt : i.toNat < s.size := by omega
  have hg : s[i.toNat]? = some s[i.toNat] := getElem?_pos s i.toNat hlt
  have hl : s.toList.getD i.toNat 0 = s[i.toNat] := by
    have : i.toNat < s.data.size := hlt
    simp [List.getD_eq_getElem?_getD, ByteArray.toList_eq, Array.getElem?_eq_getElem this]
    rfl
  rw [hl]
  refine .same hm (v := .int .u8 (s[i.toNat].toNat : Int)) ?_ (.of_C rfl)
  simp [execOp, ho, Instr.index, e1, e2, asIntOf, run_underlying hu, h0, hg, Result.andThen]
theorem extract_sound (hm : Mem T U w I φ h) {ix : Nat} {y : Operand} {l : List AV} {a : AV} (ho : o.op = .extract y ix) (hy : ρ y = .tup l) (hl : l[ix]? = some a) (hρ : RelV T w I φ (ρ y) (ρ' y)) : StepOK P T U ρ' o w I φ a h := by
  rw [hy] at hρ
  obtain ⟨vs, hv, hr⟩ := hρ
  obtain ⟨v, hv', hrel⟩ := hr.get hl
  refine .same hm (v := v) ?_ (.of_A hrel)
  simp only [Array.getElem?_toList] at hv'
  simp [execOp, ho, Instr.extract, hv, hv', Result.andThen]
theorem Reads.val {e : Nat} {l : List D} {v : Value} (h : Reads T w I e l v) : ∃ a cap, v = .slice a l.length cap ∧ l.length ≤ cap := by
  obtain ⟨a, cap, xs, h1, h2, _⟩ := h; exact ⟨a, cap, h1, h2⟩
theorem len_sound (hT : TOK P T) (hm : Mem T U w I φ h) {t : Nat} {y : Operand} {av : AV} (ho : o.op = .call { callee := .builtin .len, args := #[y], argTypes := #[t] })
    (hav : (∃ s, ρ' y = .string s ∧ decide ((T t).cells = [.str]) = true ∧ (T t).agg = false ∧ av = .int .i64 (s.size : Int)) ∨ (∃ e l e', Reads T w I e l (ρ' y) ∧ slE T t = some e' ∧ av = .int .i64 (l.length : Int))) : StepOK P T U ρ' o w I φ av h := by
  rcases hav with ⟨s, hs, hts, hta, rfl⟩ | ⟨e, l, e', hr, ht, rfl⟩
  · have hc := of_decide_eq_true hts
    obtain ⟨i2, d, c, hi, hu, _, _, hcc, _, _, hd⟩ := (hT t (by rw [hc]; simp)).cell hta
    have hdd : d = .string := by cases d <;> simp [descOK, hta, hc] at hd <;> rfl
    subst hdd
    refine .same hm (v := .int .i64 (s.size : Int)) ?_ (.of_C rfl)
    simp [execOp, ho, resolve, invoke, builtin, Builtin.len_, hs, run_underlying hu, goInt, Result.andThen]
  · obtain ⟨a, cap, hv, _⟩ := hr.val
    obtain ⟨_, _, hu⟩ := slE_ok hT ht
    refine .same hm (v := .int .i64 (l.length : Int)) ?_ (.of_C rfl)
    simp [execOp, ho, resolve, invoke, builtin, Builtin.len_, hv, run_underlying hu, goInt, Result.andThen]
theorem max_sound (hm : Mem T U w I φ h) {ts : Array Nat} {y z : Operand} {k : IntKind} {a b : Int} (ho : o.op = .call { callee := .builtin .max, args := #[y, z], argTypes := ts }) (hy : ρ' y = .int k a) (hz : ρ' z = .int k b) : StepOK P T U ρ' o w I φ (.int k (bif decide (b > a) then b else a)) h := by
  refine .same hm (v := .int k (if b > a then b else a)) ?_ (.of_C (by simp [RelC, cond_eq_ite]))
  simp [execOp, ho, resolve, invoke, builtin, Builtin.max_, Builtin.max2, hy, hz, Result.andThen]
theorem min_sound (hm : Mem T U w I φ h) {ts : Array Nat} {y z : Operand} {k : IntKind} {a b : Int} (ho : o.op = .call { callee := .builtin .min, args := #[y, z], argTypes := ts }) (hy : ρ' y = .int k a) (hz : ρ' z = .int k b) : StepOK P T U ρ' o w I φ (.int k (bif decide (b < a) then b else a)) h := by
  refine .same hm (v := .int k (if b < a then b else a)) ?_ (.of_C (by simp [RelC, cond_eq_ite]))
  simp [execOp, ho, resolve, invoke, builtin, Builtin.min_, Builtin.min2, hy, hz, Result.andThen]

theorem makeSlice_sound (hT : TOK P T) (hm : Mem T U w I φ h) {u t e : Nat} {y z : Operand} {k k' : IntKind} {n m : Int} (hu : h u = .unborn) (ho : o.op = .makeSlice t y z) (ht : slE T t = some e) (hk : kn T e = true) (hy : ρ' y = .int k n) (hz : ρ' z = .int k' m) (h0 : 0 ≤ n) (hnm : n = m)
    (hneed : needOk m.toNat (T e).bytes = true) (hok : (T e).cells.all okZ = true) (hmax : m ≤ 9223372036854775807) : StepOK P T U ρ' o w I φ (.orow u) (h.upd u (.row e (List.replicate n.toNat (zeroD T e)) false)) := by
  subst hnm
  obtain ⟨i, d, hi, _, hsz, hby, hd, hz0⟩ := (hT e (kn_iff.1 hk)).ex
  obtain ⟨zc, hzz, hzcells⟩ : ∃ z, i.zero = some z ∧ z.cells = ((T e).cells.map zeroVal).toArray := by
    refine ⟨_, hz0, ?_⟩
    cases ha : (T e).agg
    · obtain ⟨_, _, c, _, _, _, _, hc, _⟩ := (hT e (kn_iff.1 hk)).cell ha
      simp [hc]; cases c <;> rfl
    · rfl
  obtain ⟨_, _, hu2⟩ := slE_ok hT ht
  have hn := needOk_iff.1 hneed
  obtain ⟨q, rfl⟩ : ∃ q : Nat, n = (q : Int) := ⟨n.toNat, by omega⟩
  simp only [Int.toNat_natCast] at hn
  obtain ⟨w', hrun, hown, hg⟩ := run_make_full (P := P) w 0 t e i zc (T e).cells.length hu2 hi hzz hsz k k' q (by rw [hby, Nat.mul_comm]; omega) (by simp only [maxLen]; omega) (Nat.zero_le _)
  have hown' : OwnR T w' I e (List.replicate q (zeroD T e)) (.slice (some ⟨w.heap.size, 0, none⟩) q q) := by
    refine OwnR.of_owns (xs := (madeCells zc.cells (q * (T e).cells.length)).toList) (by simpa using hown) (fun i j hi hj => ?_)
    simp only [List.length_replicate] at hi
    have hlt := mul_lt hi hj
    have hpos : 0 < (T e).cells.length := by omega
    have hmod : (i * (T e).cells.length + j) % (T e).cells.length = j := by rw [Nat.add_comm, Nat.add_mul_mod_self_right, Nat.mod_eq_of_lt hj]
    refine ⟨zeroVal ((T e).cells.getD j .other), by simp [madeCells, hlt, hzcells, hmod, hj, List.getD_eq_getElem?_getD], ?_⟩
    have hz : (List.replicate q (zeroD T e)).getD i (.int 0) = zeroD T e := by simp [List.getD_eq_getElem?_getD, hi]
    rw [hz]
    have hcell : cellD T e (zeroD T e) j = zeroDC ((T e).cells.getD j .other) := by
      unfold cellD zeroD
      cases ha : (T e).agg
      · obtain ⟨_, _, c, _, _, _, _, hc, _⟩ := (hT e (kn_iff.1 hk)).cell ha
        rw [hc] at hj ⊢
        obtain rfl : j = 0 := by simpa using hj
        rfl
      · simp [D.c, List.getD_eq_getElem?_getD, hj]
    rw [hcell]
    have hcm : okZ ((T e).cells.getD j .other) = true := List.all_eq_true.1 hok _ (by rw [List.getD_eq_getElem?_getD, List.getElem?_eq_getElem hj]; exact List.getElem_mem hj)
    cases hcc : (T e).cells.getD j .other <;> rw [hcc] at hcm <;> simp only [okZ, Bool.false_eq_true] at hcm
    · exact .int _ (.int 0)
    · exact .bool (.bool false)
    · exact .str (.str ⟨#[]⟩)
    · exact .nil _ (.row []) none 0 rfl
  obtain ⟨m2, x2⟩ := hm.newRow hu hg (kn_iff.1 hk) hown' (fun b hb => by simp only [blk] at hb; split at hb <;> simp_all) (f := false) (fun h => by cases h)
  refine ⟨.value _, _, I, _, ?_, m2, x2, .inl ⟨_, rfl, .of_C (relC_orow ⟨_, _, _, rfl⟩)⟩⟩
  simp [execOp, ho, hy, hz, hrun, Result.andThen]

/-! ### Cuts -/
theorem sub_rep {e : Nat} {l : List D} {v : Value} {a b : Nat} (hab : a ≤ b) (hb : b ≤ l.length) (h : RepC T w I (.sl e) (.row l) v) :
    ∃ ad cap, v = .slice ad l.length cap ∧ l.length ≤ cap ∧ RepC T w I (.sl e) (.row ((l.take b).drop a)) (.slice (if cap = a then ad else ad.map (·.add (a * (T e).cells.length))) (b - a) (cap - a)) := by
  cases h with
  | nil _ _ ad cap hl =>
    simp [D.r] at hl; subst hl
    simp at hb; subst hb
    obtain rfl : a = 0 := by omega
    exact ⟨ad, cap, rfl, Nat.zero_le _, .nil _ _ _ _ rfl⟩
  | sl _ _ bl off n cap u hn hI hc hl hr =>
    simp only [D.r] at hn
    subst hn
    refine ⟨_, cap, rfl, hc, ?_⟩
    have hlen : (D.row ((l.take b).drop a)).r.length = b - a := by simp [D.r]; omega
    by_cases h0 : b - a = 0
    · rw [h0]; exact .nil _ _ _ _ (List.eq_nil_of_length_eq_zero (by rw [hlen]; exact h0))
    · rw [if_neg (by omega)]
      simp only [Option.map_some, add_off]
      refine .sl e _ bl (off + a * (T e).cells.length) (b - a) (cap - a) (fun i j => u (a + i) j) hlen.symm hI (by omega) (fun i j hi hj => ?_) (fun i j hi hj => ?_)
      · have := hl (a + i) j (by omega) hj
        rw [← this]
        congr 2
        rw [Nat.add_mul]; omega
      · have := hr (a + i) j (by omega) hj
        have he : (D.row ((l.take b).drop a)).r.getD i (.int 0) = (D.row l).r.getD (a + i) (.int 0) := by
          simp only [D.r, List.getD_eq_getElem?_getD, List.getElem?_drop, List.getElem?_take]
          rw [if_pos (by omega)]
        rw [he]; exact this
theorem run_bounds {len cap : Nat} {lo hi : Option Value} {a b : Nat} (hlc : len ≤ cap) (hlo : (lo = none ∧ a = 0) ∨ ∃ k, lo = some (.int k (a : Int))) (hhi : (hi = none ∧ b = len) ∨ ∃ k, hi = some (.int k (b : Int))) (hab : a ≤ b) (hb : b ≤ cap) :
    (Instr.sliceBounds true len cap lo hi none).run P w = .ok (a, b, cap) w := by
  rcases hlo with ⟨rfl, rfl⟩ | ⟨k, rfl⟩ <;> rcases hhi with ⟨rfl, rfl⟩ | ⟨k', rfl⟩ <;> simp [Instr.sliceBounds, Instr.sliceBound, asIntOf, hab, hb]
theorem run_bounds_str {len : Nat} {lo hi : Option Value} {a b : Nat} (hlo : (lo = none ∧ a = 0) ∨ ∃ k, lo = some (.int k (a : Int))) (hhi : (hi = none ∧ b = len) ∨ ∃ k, hi = some (.int k (b : Int))) (hab : a ≤ b) (hb : b ≤ len) :
    (Instr.sliceBounds false len len lo hi none).run P w = .ok (a, b, len) w := by
  rcases hlo with ⟨rfl, rfl⟩ | ⟨k, rfl⟩ <;> rcases hhi with ⟨rfl, rfl⟩ | ⟨k', rfl⟩ <;> simp [Instr.sliceBounds, Instr.sliceBound, asIntOf, hab, hb]

theorem run_slice_at (hT : TOK P T) {t e : Nat} (ht : slE T t = some e) (hk : kn T e = true) {ad : Option Addr} {len cap a b : Nat} {lo hi : Option Value} (hbd : (Instr.sliceBounds true len cap lo hi none).run P w = .ok (a, b, cap) w) :
    (Instr.sliceAt t (.slice ad len cap) lo hi none).run P w = .ok (.slice (if cap = a then ad else ad.map (·.add (a * (T e).cells.length))) (b - a) (cap - a)) w := by
  obtain ⟨_, _, hu⟩ := slE_ok hT ht
  obtain ⟨i2, d2, hi2, _, hs2, _⟩ := (hT e (kn_iff.1 hk)).ex
  simp [Instr.sliceAt, Instr.slice, run_underlying hu, hbd, sizeOf, typeInfo, hi2, hs2]
theorem freezeAt (hm : Mem T U w I φ h) {id e : Nat} {l : List D} {v : Value} (hid : (∃ f, h id = .row e l f) ∨ h id = .frz e l) (hφ : φ id = some v) :
    ∃ I', Mem T U w I' φ (h.upd id (.frz e l)) ∧ Ext U w I φ w I' φ ∧ RepC T w I' (.sl e) (.row l) v := by
  rcases hid with ⟨f, hid⟩ | hid
  · obtain ⟨I', m, x, v', hv, hr⟩ := hm.freeze hid
    obtain rfl := Option.some.inj (hφ.symm.trans hv)
    exact ⟨I', m, x, hr⟩
  · have he := hm.ent id
    rw [hid] at he
    obtain ⟨v', hv, hr, _⟩ := he
    obtain rfl := Option.some.inj (hφ.symm.trans hv)
    have : h.upd id (.frz e l) = h := by
      funext j; by_cases hj : j = id
      · subst hj; rw [Tab.upd_same, hid]
      · rw [Tab.upd_other _ _ hj]
    rw [this]
    exact ⟨I, hm, .refl, hr⟩
/-- A cut of a row that nobody changes (from now on). -/
theorem slice_seen (hT : TOK P T) {I' : Nat → Prop} {h' : Tab} (hm : Mem T U w I' φ h') (hx : Ext U w I φ w I' φ) {t e a b : Nat} {y : Operand} {lo hi : Option Operand} {l : List D} (ho : o.op = .slice t y lo hi none) (ht : slE T t = some e) (hk : kn T e = true)
    (hr : RepC T w I' (.sl e) (.row l) (ρ' y)) (hlo : (lo.map ρ' = none ∧ a = 0) ∨ ∃ k, lo.map ρ' = some (.int k (a : Int))) (hhi : (hi.map ρ' = none ∧ b = l.length) ∨ ∃ k, hi.map ρ' = some (.int k (b : Int))) (hab : a ≤ b) (hb : b ≤ l.length) :
    StepOK P T U ρ' o w I φ (.srow e ((l.take b).drop a)) h' := by
  obtain ⟨ad, cap, hv, hc, hrep⟩ := sub_rep hab hb hr
  have hbd := run_bounds (P := P) (w := w) (len := l.length) (cap := cap) hc hlo hhi hab (by omega)
  have hrun := run_slice_at (P := P) hT ht hk (ad := ad) hbd
  refine ⟨.value _, w, I', φ, ?_, hm, hx, .inl ⟨_, rfl, .of_C hrep⟩⟩
  simp [execOp, ho, hv, hrun, Result.andThen]
theorem slice_empty (hT : TOK P T) (hm : Mem T U w I φ h) {t e a b : Nat} {y : Operand} {lo hi : Option Operand} {ad : Option Addr} (ho : o.op = .slice t y lo hi none) (ht : slE T t = some e) (hk : kn T e = true) (hv : ρ' y = .slice ad 0 0)
    (hlo : (lo.map ρ' = none ∧ a = 0) ∨ ∃ k, lo.map ρ' = some (.int k (a : Int))) (hhi : (hi.map ρ' = none ∧ b = 0) ∨ ∃ k, hi.map ρ' = some (.int k (b : Int))) (hab : a ≤ b) (hb : b ≤ 0) {av : AV} (hav : RelC T w I φ av (.slice ad 0 0)) :
    StepOK P T U ρ' o w I φ av h := by
  obtain rfl : b = 0 := by omega
  obtain rfl : a = 0 := by omega
  have hbd := run_bounds (P := P) (w := w) (len := 0) (cap := 0) (Nat.le_refl _) hlo hhi hab hb
  have hrun := run_slice_at (P := P) hT ht hk (ad := ad) hbd
  refine .same hm (v := .slice ad 0 0) ?_ (.of_C hav)
  simp [execOp, ho, hv, hrun, Result.andThen]
/-- A row of the call's own is cut short, for good. -/
theorem slice_move (hT : TOK P T) (hm : Mem T U w I φ h) {u t e id b : Nat} {y : Operand} {hi : Option Operand} {l : List D} {f : Bool} (hu : h u = .unborn) (ho : o.op = .slice t y none hi none) (ht : slE T t = some e) (hk : kn T e = true)
    (hid : h id = .row e l f) (hφ : φ id = some (ρ' y)) (hhi : (hi.map ρ' = none ∧ b = l.length) ∨ ∃ k, hi.map ρ' = some (.int k (b : Int))) (hb : b ≤ l.length) :
    StepOK P T U ρ' o w I φ (.orow u) ((h.upd id .dead).upd u (.row e (l.take b) false)) := by
  have he := hm.ent id
  rw [hid] at he
  obtain ⟨v, hv, hown, _, hT'⟩ := he
  obtain rfl := Option.some.inj (hv.symm.trans hφ)
  obtain ⟨ad, cap, hsl, hle⟩ := hown.slice
  have hne : u ≠ id := fun e => by rw [e, hid] at hu; cases hu
  have hbd := run_bounds (P := P) (w := w) (len := l.length) (cap := cap) (lo := none) (hi := hi.map ρ') (a := 0) (b := b) hle (.inl ⟨rfl, rfl⟩) hhi (Nat.zero_le _) (by omega)
  have hrun := run_slice_at (P := P) hT ht hk (ad := ad) hbd
  have hval : (Value.slice (if cap = 0 then ad else ad.map (·.add (0 * (T e).cells.length))) (b - 0) (cap - 0)) = .slice ad b cap := by
    have : ad.map (·.add (0 * (T e).cells.length)) = ad := by cases ad <;> simp [Addr.add]
    rw [this]; simp
  rw [hval] at hrun
  have hlt : (l.take b).length = b := by simp; omega
  have hown2 : OwnR T w I e (l.take b) (.slice ad b cap) := by
    obtain ⟨xs, h1, h2⟩ := hown
    rcases h1 with ⟨rfl, rfl, a, ha⟩ | ⟨h1, hbk⟩
    · rw [hsl] at ha
      simp only [Value.slice.injEq] at ha
      obtain rfl : b = 0 := by simpa using hb
      exact ⟨[], .inl ⟨by simp, rfl, ad, by rw [ha.2.2]⟩, fun i j hi => by simp at hi⟩
    · refine ⟨xs.take (b * (T e).cells.length), .inr ⟨⟨by rw [hlt, List.length_take, h1.1]; exact Nat.min_eq_left (Nat.mul_le_mul_right _ hb), ?_⟩, ?_⟩, fun i j hi hj => ?_⟩
      · rcases h1.2 with ⟨hn, _⟩ | ⟨g, cap', cur, hs', _, hg, hnc, hcm, hcs, htake⟩
        · rw [hn] at hbk; simp [blk] at hbk
        · rw [hsl] at hs'
          simp only [Value.slice.injEq, true_and] at hs'
          obtain ⟨rfl, rfl⟩ := hs'
          refine .inr ⟨g, cap, cur, by rw [hlt], Nat.zero_le _, hg, by rw [hlt]; omega, hcm, hcs, ?_⟩
          rw [hlt, ← htake, List.take_take, Nat.min_eq_left (Nat.mul_le_mul_right _ hb)]
      · rw [hsl] at hbk
        cases ad <;> simp only [blk] at hbk ⊢ <;> exact hbk
      · rw [hlt] at hi
        have hlt2 := mul_lt hi hj
        obtain ⟨x, hx, hr⟩ := h2 i j (by omega) hj
        refine ⟨x, by rw [List.getElem?_take, if_pos hlt2]; exact hx, ?_⟩
        have : (l.take b).getD i (.int 0) = l.getD i (.int 0) := by simp [List.getD_eq_getElem?_getD, List.getElem?_take, hi]
        rw [this]; exact hr
  have m0 := hm.kill (id := id) (by rw [hφ]; simp)
  have hφu : φ u = none := by have := hm.ent u; rw [hu] at this; exact this
  have hblk : ∀ b', blk (.slice ad b cap) = some b' → blk (ρ' y) = some b' := fun b' hb' => by rw [hsl]; cases ad <;> simp only [blk] at hb' ⊢ <;> exact hb'
  obtain ⟨m2, x2⟩ := m0.add (id := u) (v := .slice ad b cap) (E := .row e (l.take b) false) (.inl hφu) ⟨_, by simp [setφ], hown2, (fun h => by cases h), hT'⟩ (fun _ b' hb' => by
    have hb' := has_row.1 hb'
    have hl0 : live (h id) := by rw [hid]; trivial
    have hd := hm.own id _ b' hl0 hφ (.inl (hblk b' hb'))
    refine ⟨hd.1, hd.2, fun id' v' _ hl' hv' hbv => ?_⟩
    by_cases hji : id' = id
    · subst hji; rw [Tab.upd_same] at hl'; exact hl'
    · rw [Tab.upd_other _ _ hji] at hl' hbv
      exact hji (hm.disj id' id v' _ b' hl' hl0 hv' hφ hbv (.inl (hblk b' hb'))))
  refine ⟨.value _, w, I, _, ?_, m2, x2, .inl ⟨_, rfl, .of_C (relC_orow ⟨_, _, _, rfl⟩)⟩⟩
  simp [execOp, ho, hsl, hrun, Result.andThen]
theorem slice_str (hT : TOK P T) (hm : Mem T U w I φ h) {t a b : Nat} {y : Operand} {lo hi : Option Operand} {s : ByteArray} (ho : o.op = .slice t y lo hi none) (hts : decide ((T t).cells = [.str]) = true) (hta : (T t).agg = false) (hv : ρ' y = .string s)
    (hlo : (lo.map ρ' = none ∧ a = 0) ∨ ∃ k, lo.map ρ' = some (.int k (a : Int))) (hhi : (hi.map ρ' = none ∧ b = s.size) ∨ ∃ k, hi.map ρ' = some (.int k (b : Int))) (hab : a ≤ b) (hb : b ≤ s.size) : StepOK P T U ρ' o w I φ (.str (s.extract a b)) h := by
  have hc := of_decide_eq_true hts
  obtain ⟨i2, d, c, hi2, hu, _, _, hcc, _, _, hd⟩ := (hT t (by rw [hc]; simp)).cell hta
  have hdd : d = .string := by cases d <;> simp [descOK, hta, hc] at hd <;> rfl
  subst hdd
  have hbd := run_bounds_str (P := P) (w := w) (len := s.size) hlo hhi hab hb
  refine .same hm (v := .string (s.extract a b)) ?_ (.of_C rfl)
  simp [execOp, ho, hv, Instr.sliceAt, Instr.slice, run_underlying hu, hbd, Result.andThen]
theorem slice_full (hT : TOK P T) (hm : Mem T U w I φ h) {t e : Nat} {y z q : Operand} {l : List D} {k k' : IntKind} {av : AV} (ho : o.op = .slice t y none (some z) (some q)) (ht : slE T t = some e) (hk : kn T e = true) (hr : Reads T w I e l (ρ' y)) (hz : ρ' z = .int k 0) (hq : ρ' q = .int k' 0)
    (hav : av = .esl ∨ (av = .nilsl ∧ ρ' y = .slice none 0 0)) : StepOK P T U ρ' o w I φ av h := by
  obtain ⟨ad, cap, hv, hc⟩ := hr.val
  obtain ⟨_, _, hu⟩ := slE_ok hT ht
  obtain ⟨i2, d2, hi2, _, hs2, _⟩ := (hT e (kn_iff.1 hk)).ex
  refine .same hm (v := .slice ad 0 0) ?_ (.of_C ?_)
  · simp [execOp, ho, hv, hz, hq, Instr.sliceAt, Instr.slice, run_underlying hu, Instr.sliceBounds, Instr.sliceBound, asIntOf, sizeOf, typeInfo, hi2, hs2, Result.andThen]
  · rcases hav with rfl | ⟨rfl, hn⟩
    · exact ⟨ad, rfl⟩
    · rw [hv] at hn
      simp only [Value.slice.injEq] at hn
      show _ = _
      rw [hn.1]

/-! ### Scalars -/
theorem desc_of (hT : TOK P T) {t : Nat} {c : CT} (hc : (T t).cells = [c]) (ha : (T t).agg = false) : ∃ d, P.underlying t = some d ∧ descOK d (T t) = true := by
  obtain ⟨_, d, _, _, hu, _, _, _, _, _, hd⟩ := (hT t (by rw [hc]; simp)).cell ha
  exact ⟨d, hu, hd⟩
theorem convert_int (hT : TOK P T) (hm : Mem T U w I φ h) {src dst : Nat} {y : Operand} {k k' : IntKind} {n : Int} (ho : o.op = .convert src dst y) (hs : kn T src = true) (hc : (T dst).cells = [.int k]) (ha : (T dst).agg = false) (hy : ρ' y = .int k' n) : StepOK P T U ρ' o w I φ (.int k (k.wrap n)) h := by
  obtain ⟨d, hu, hd⟩ := desc_of hT hc ha
  obtain ⟨i2, d2, hi2, hu2, _⟩ := (hT src (kn_iff.1 hs)).ex
  have hdd : d = .int k := by cases d <;> simp [descOK, ha, hc] at hd <;> rw [hd]
  subst hdd
  refine .same hm (v := .int k (k.wrap n)) ?_ (.of_C rfl)
  simp [execOp, ho, hy, convert, run_underlying hu, run_underlying hu2, Conv.intToInt, Result.andThen]
theorem convert_int_str (hT : TOK P T) (hm : Mem T U w I φ h) {src dst : Nat} {y : Operand} {k' : IntKind} {n : Int} (ho : o.op = .convert src dst y) (hs : kn T src = true) (hc : (T dst).cells = [.str]) (ha : (T dst).agg = false) (hy : ρ' y = .int k' n) : StepOK P T U ρ' o w I φ (.str (Utf8.encode n)) h := by
  obtain ⟨d, hu, hd⟩ := desc_of hT hc ha
  obtain ⟨i2, d2, hi2, hu2, _⟩ := (hT src (kn_iff.1 hs)).ex
  have hdd : d = .string := by cases d <;> simp [descOK, ha, hc] at hd <;> rfl
  subst hdd
  refine .same hm (v := .string (Utf8.encode n)) ?_ (.of_C rfl)
  simp [execOp, ho, hy, convert, run_underlying hu, run_underlying hu2, Conv.intToString, Result.andThen]
theorem convert_str (hT : TOK P T) (hm : Mem T U w I φ h) {src dst : Nat} {y : Operand} {b : ByteArray} (ho : o.op = .convert src dst y) (hs : kn T src = true) (hc : (T dst).cells = [.str]) (ha : (T dst).agg = false) (hy : ρ' y = .string b) : StepOK P T U ρ' o w I φ (.str b) h := by
  obtain ⟨d, hu, hd⟩ := desc_of hT hc ha
  obtain ⟨i2, d2, hi2, hu2, _⟩ := (hT src (kn_iff.1 hs)).ex
  have hdd : d = .string := by cases d <;> simp [descOK, ha, hc] at hd <;> rfl
  subst hdd
  refine .same hm (v := .string b) ?_ (.of_C rfl)
  simp [execOp, ho, hy, convert, run_underlying hu, run_underlying hu2, Result.andThen]
theorem convert_bytes (hT : TOK P T) (hm : Mem T U w I φ h) {src dst e : Nat} {y : Operand} {l : List D} (ho : o.op = .convert src dst y) (hs : slE T src = some e) (he : isU8 T e = true) (hc : (T dst).cells = [.str]) (ha : (T dst).agg = false) (hr : Reads T w I e l (ρ' y)) :
    StepOK P T U ρ' o w I φ (.str ⟨(l.map fun d => UInt8.ofNat d.i.toNat).toArray⟩) h := by
  obtain ⟨d, hu, hd⟩ := desc_of hT hc ha
  have hdd : d = .string := by cases d <;> simp [descOK, ha, hc] at hd <;> rfl
  subst hdd
  obtain ⟨_, _, hus⟩ := slE_ok hT hs
  obtain ⟨hea, hec, heu⟩ := isU8_ok hT he
  obtain ⟨ad, cap, xs, hv, hcap, hf, hcell⟩ := hr
  have hxs : xs = (l.map fun d => d.i).map (Value.int .u8) := by
    apply List.ext_getElem?
    intro n
    have hl : xs.length = l.length := by rw [hf.1, hec]; simp
    by_cases hn : n < l.length
    · obtain ⟨u, hu1, hr1⟩ := hf.2 n 0 hn (by rw [hec]; simp)
      rw [hec] at hu1 hr1
      have hu2 : xs[n]? = some u := by simpa using hu1
      rw [hu2]
      have hcd : cellD T e (l.getD n (.int 0)) 0 = l[n] := by simp [cellD, hea, List.getD_eq_getElem?_getD, hn]
      rw [hcd] at hr1
      have : u = .int .u8 l[n].i := by
        have hr2 : RepC T w I (.int .u8) l[n] u := hr1
        cases hr2; rfl
      simp [this, hn]
    · rw [List.getElem?_eq_none (by omega), List.getElem?_eq_none (by simp; omega)]
  have hfold : ∀ (ns : List Int) (r : ByteArray), ns.foldl (fun r n => r.push (UInt8.ofNat n.toNat)) r = ⟨r.data ++ (ns.map fun n => UInt8.ofNat n.toNat).toArray⟩ := by
    intro ns
    induction ns with
    | nil => intro r; simp
    | cons n ns ih => intro r; simp only [List.foldl_cons]; rw [ih]; simp [ByteArray.push]
  have hrun : (convert src dst (ρ' y)).run P w = .ok (.string ⟨(l.map fun d => UInt8.ofNat d.i.toNat).toArray⟩) w := by
    rw [hv, run_convert_bytes_string w src dst e ad l.length cap hus heu hu]
    by_cases hl : l = []
    · subst hl
      cases ad with
      | none => simp [Conv.bytesToString]; rfl
      | some a =>
        have := run_bytesToString (P := P) w a 0 cap [] (by simp [loadCells, loadCellsFrom])
        exact this.trans rfl
    · obtain ⟨b, oo, rfl, hcc⟩ := hcell hl
      have hl2 := run_loadCells_list (P := P) w ⟨b, oo, none⟩ xs (fun j v hj => by rw [add_off]; exact hcc j v hj)
      have hlen : xs.length = l.length := by rw [hf.1, hec]; simp
      rw [hlen] at hl2
      rw [hxs] at hl2
      rw [run_bytesToString (P := P) w _ l.length cap _ hl2, hfold]
      have he0 : ByteArray.empty.data = #[] := rfl
      simp [he0, Function.comp_def]
  refine .same hm (v := .string _) ?_ (.of_C rfl)
  simp [execOp, ho, hrun, Result.andThen]
/-- Bytes of a string: a row that nobody changes. -/
theorem convert_to_bytes (hT : TOK P T) (hm : Mem T U w I φ h) {src dst e : Nat} {y : Operand} {s : ByteArray} (ho : o.op = .convert src dst y) (hsc : decide ((T src).cells = [.str]) = true) (hsa : (T src).agg = false) (hd : slE T dst = some e) (he : isU8 T e = true) (hy : ρ' y = .string s) :
    StepOK P T U ρ' o w I φ (.srow e (s.toList.map fun b => .int b.toNat)) h := by
  obtain ⟨d, hu, hdd⟩ := desc_of hT (of_decide_eq_true hsc) hsa
  have hdd : d = .string := by cases d <;> simp [descOK, hsa, of_decide_eq_true hsc] at hdd <;> rfl
  subst hdd
  obtain ⟨_, _, hud⟩ := slE_ok hT hd
  obtain ⟨hea, hec, heu⟩ := isU8_ok hT he
  have hrun := run_bytes_of_string (P := P) w src dst e s hu hud heu
  let I' : Nat → Prop := fun b => I b ∨ b = w.heap.size
  let w' := w.drew.alloc (.cells (bytesRow s (grownCap w s.size 0 e)) e ((bytesRow s (grownCap w s.size 0 e)).size, (bytesRow s (grownCap w s.size 0 e)).size + 1))
  obtain ⟨m1, x1⟩ := hm.grow (w' := w') (grown_drew_alloc w _) (fun b hb => by cases hb)
  have x2 : Ext U w' I φ w' I' φ := ⟨rfl, rfl, rfl, Nat.le_refl _, fun _ _ _ => rfl, fun _ h => .inl h, fun _ _ => rfl, fun b h => h.imp (fun h => h) (fun hb => by rw [hb]; exact hm.up _ (Nat.le_refl _)), fun _ _ h => h⟩
  have m2 : Mem T U w' I' φ h := by
    refine ⟨fun j => ?_, fun j u b hl hj hb => ⟨fun hI => hI.elim (m1.own j u b hl hj hb).1 (fun e => ?_), (m1.own j u b hl hj hb).2⟩, m1.disj, fun b hb => hb.elim (m1.lt b) (fun e => ?_), m1.up⟩
    · exact (m1.ent j).imm x2
    · have := hm.lt_has hl hj (has_back (fun r e => (grown_drew_alloc w _).block r (live_slice hl (hm.ent j) hj e) (fun e => by cases e)) hb)
      omega
    · rw [e]
      show w.heap.size < (w.heap.push _).size
      rw [Array.size_push]; exact Nat.lt_succ_self _
  have hlen : (s.toList.map fun b => D.int b.toNat).length = s.size := by rw [List.length_map, ByteArray.toList_eq]; simp
  have hrep : RepC T w' I' (.sl e) (.row (s.toList.map fun b => .int b.toNat)) (.slice (some ⟨w.heap.size, 0, none⟩) s.size (grownCap w s.size 0 e)) := by
    refine .sl e _ w.heap.size 0 s.size _ (fun i _ => .int .u8 ((s.toList.getD i 0).toNat : Int)) hlen.symm (.inr rfl) (grownCap_ge w s.size 0 e) (fun i j hi hj => ?_) (fun i j hi hj => ?_)
    · rw [hec] at hj ⊢
      obtain rfl : j = 0 := by simpa using hj
      have hi2 : i < s.data.size := hi
      have hg : w'.heap[w.heap.size]? = some (.cells (bytesRow s (grownCap w s.size 0 e)) e ((bytesRow s (grownCap w s.size 0 e)).size, (bytesRow s (grownCap w s.size 0 e)).size + 1)) := heap_alloc_new w.drew _
      rw [cell_of_row w' w.heap.size _ _ e _ hg]
      simp [bytesRow, ByteArray.toList_eq, List.getD_eq_getElem?_getD]
      rw [Array.getElem?_append_left (by simpa using hi2)]
      simp [Array.getElem?_eq_getElem hi2]
    · rw [hec] at hj ⊢
      obtain rfl : j = 0 := by simpa using hj
      have hcd : cellD T e ((D.row (s.toList.map fun b => .int b.toNat)).r.getD i (.int 0)) 0 = .int ((s.toList.getD i 0).toNat : Int) := by
        have hi2 : i < s.data.size := hi
        simp [cellD, hea, D.r, List.getD_eq_getElem?_getD, ByteArray.toList_eq, Array.getElem?_eq_getElem hi2]
      rw [hcd]
      exact .int .u8 (.int _)
  refine ⟨.value _, w', I', φ, ?_, m2, x1.trans x2, .inl ⟨_, rfl, .of_C hrep⟩⟩
  simp [execOp, ho, hy, hrun, Result.andThen, w']

/-- Bytes of a constant: a literal that is marked, and never changed again. -/
theorem convert_const (hT : TOK P T) (hm : Mem T U w I φ h) {t e id : Nat} {y : Operand} {l : List D} {f : Bool} (ho : o.op = .convert t t y) (hs : slE T t = some e) (he : isU8 T e = true) (hid : h id = .row e l f) (hl : l ≠ []) (hφ : φ id = some (ρ' y)) :
    StepOK P T U ρ' o w I φ (bif f then .frow e l else .srow e l) (h.upd id .dead) := by
  obtain ⟨_, _, hus⟩ := slE_ok hT hs
  obtain ⟨hea, hec, heu⟩ := isU8_ok hT he
  have hr := hm.ent id
  rw [hid] at hr
  obtain ⟨v, hv, ho', hf, _⟩ := hr
  obtain rfl := Option.some.inj (hφ.symm.trans hv)
  have hlive : live (h id) := by rw [hid]; trivial
  obtain ⟨xs, h1, h2⟩ := ho'
  rcases h1 with ⟨h1, _⟩ | ⟨h1, hb⟩
  · exact absurd h1 hl
  rcases h1.2 with ⟨_, hn⟩ | ⟨g, cap, cur, hval, _, hg, hnc, hcm, hcs, htake⟩
  · exact absurd (List.eq_nil_of_length_eq_zero hn) hl
  have hc0 : cap ≠ 0 := fun hc => hl (List.eq_nil_of_length_eq_zero (by omega))
  have hblk : blk (ρ' y) = some g := by rw [hval]; simp [blk, hc0]
  have hcell := fun j u hu => h1.cells (g := g) (by rw [hval]; rfl) j u hu
  let w' : World := w.freeze ⟨g, cur.size, none⟩ 1
  have hglt : g < w.heap.size := (Array.getElem?_eq_some_iff.1 hg).1
  have hgrow : w.grownBy w' (some g) := ⟨rfl, rfl, rfl, by simp [w', World.freeze], fun k hk hne => by
    have hne' : g ≠ k := fun e => hne (by rw [e])
    simp [w', World.freeze, Array.getElem?_modify, hne']⟩
  have hg' : w'.heap[g]? = some (.cells cur e (cur.size, cur.size + 1)) := by
    simp [w', World.freeze, Array.getElem?_modify, hg]
  have hown := hm.own id _ g hlive hv (.inl hblk)
  have m0 := hm.kill (id := id) (by rw [hv]; simp)
  have hdis : ∀ id' v', live ((h.upd id .dead) id') → φ id' = some v' → ¬ has w ((h.upd id .dead) id') v' g := fun id' v' hl' hv' hb' => by
    by_cases hji : id' = id
    · subst hji; rw [Tab.upd_same] at hl'; exact hl'
    · rw [Tab.upd_other _ _ hji] at hl' hb'
      exact hji (hm.disj id' id v' _ g hl' hlive hv' hv hb' (.inl hblk))
  obtain ⟨m1, x1⟩ := m0.grow hgrow (fun b' hb' => by cases hb'; exact ⟨hown.1, hown.2, hdis⟩)
  let I' : Nat → Prop := fun b => I b ∨ b = g
  have x2 : Ext U w' I φ w' I' φ := ⟨rfl, rfl, rfl, Nat.le_refl _, fun _ _ _ => rfl, fun _ h => .inl h, fun _ _ => rfl, fun b h => h.imp (fun h => h) (fun hb => by rw [hb]; exact hown.2), fun _ _ h => h⟩
  have m2 : Mem T U w' I' φ (h.upd id .dead) := by
    refine ⟨fun j => (m1.ent j).imm x2, fun j u b hl hj hb => ⟨fun hI => hI.elim (m1.own j u b hl hj hb).1 (fun e => ?_), (m1.own j u b hl hj hb).2⟩, m1.disj, fun b hb => hb.elim (m1.lt b) (fun e => ?_), m1.up⟩
    · rw [e] at hb
      exact hdis j u hl hj (has_back (fun r e' => hgrow.block r (live_slice hl (m0.ent j) hj e') (fun e2 => hdis j u hl hj (.inl (by rw [e', ← Option.some.inj e2]; rfl)))) hb)
    · rw [e]; exact Nat.lt_of_lt_of_le hglt hgrow.size
  have hrep : RepC T w' I' (.sl e) (.row l) (ρ' y) := by
    rw [hval]
    refine .sl e (.row l) g 0 l.length cap (fun i j => xs.getD (i * (T e).cells.length + j) undef) rfl (.inr rfl) hnc (fun i j hi hj => ?_) (fun i j hi hj => ?_)
    · obtain ⟨u, hu, _⟩ := h2 i j hi hj
      have hc := hcell _ _ hu
      rw [add_off] at hc
      have e1 : xs.getD (i * (T e).cells.length + j) undef = u := by rw [List.getD_eq_getElem?_getD, hu]; rfl
      rw [e1, ← hc]
      simp only [World.cell?, hg, hg']
    · obtain ⟨u, hu, hr⟩ := h2 i j hi hj
      have e1 : xs.getD (i * (T e).cells.length + j) undef = u := by rw [List.getD_eq_getElem?_getD, hu]; rfl
      rw [e1]
      rw [hec] at hj hr ⊢
      obtain rfl : j = 0 := by simpa using hj
      have hr2 : RepC T w I (.int .u8) (cellD T e (l.getD i (.int 0)) 0) u := hr
      show RepC T w' I' (.int .u8) (cellD T e (l.getD i (.int 0)) 0) u
      cases hr2; exact .int _ _
  have hsh : w.shape? g = some (e, cur.size) := by simp [World.shape?, hg]
  have hrun : (convert t t (ρ' y)).run P w = .ok (ρ' y) w' := by
    rw [hval]
    simp [convert, run_underlying hus, run_underlying heu, markStringish, hsh, w']
  have hrel : RelC T w' I' φ (bif f then .frow e l else .srow e l) (ρ' y) := by
    cases f
    · exact hrep
    · exact ⟨hrep, hf rfl⟩
  refine ⟨.value _, w', I', φ, ?_, m2, x1.trans x2, .inl ⟨_, rfl, .of_C hrel⟩⟩
  simp [execOp, ho, hrun, Result.andThen]

theorem relC_agg {l : List AV} {v : Value} : ¬ RelC T w I φ (.agg l) v := fun h => h
def fitC : CT → AV → Prop
  | .int k, .int k' _ => k = k'
  | .bool, .bool _ => True
  | .str, .str _ => True
  | _, _ => False
/-- Two structs, field by field. -/
theorem eqFields_sound (hT : TOK P T) {t : Nat} {xs ys : Array Value} (dd : Nat) : ∀ (fs : List Field) (n : Nat) (as bs : List AV) (r : Bool), eqCells as bs = some r → All2 (RelC T w I φ) as (xs.toList.drop n) → All2 (RelC T w I φ) bs (ys.toList.drop n) → fs.length = as.length →
    (∀ (i : Nat) (f : Field), fs[i]? = some f → f.offset = n + i ∧ (f.name == "_") = false ∧ (T f.type).agg = false ∧ (T f.type).cells = [(T t).cells.getD (n + i) .other]) →
    (∀ i a, as[i]? = some a → fitC ((T t).cells.getD (n + i) .other) a) →
    (Op.eqFields (dd + 1) xs ys fs).run P w = .ok r w
  | [], n, as, bs, r, he, ha, hb, hl, hf, hk => by
    obtain rfl : as = [] := List.eq_nil_of_length_eq_zero hl.symm
    cases bs with
    | nil => simp [eqCells] at he; subst he; simp [Op.eqFields]
    | cons b bs => simp [eqCells] at he
  | f :: fs, n, as, bs, r, he, ha, hb, hl, hf, hk => by
    cases as with
    | nil => simp at hl
    | cons a as =>
      cases bs with
      | nil => cases a <;> simp [eqCells] at he
      | cons b bs =>
        obtain ⟨ho, hn, hagg, hcell⟩ := hf 0 f rfl
        have hk0 := hk 0 a rfl
        simp only [Nat.add_zero] at ho hcell hk0
        generalize hxd : xs.toList.drop n = xd at ha
        generalize hyd : ys.toList.drop n = yd at hb
        cases ha with
        | cons ha1 ha2 =>
          rename_i x xd
          cases hb with
          | cons hb1 hb2 =>
            rename_i y yd
            have hx : xs[n]? = some x := by
              have := congrArg (fun l => l[0]?) hxd
              simpa using this
            have hy : ys[n]? = some y := by
              have := congrArg (fun l => l[0]?) hyd
              simpa using this
            have hx2 : xs.toList.drop (n + 1) = xd := by
              have := congrArg (List.drop 1) hxd
              simpa [Nat.add_comm] using this
            have hy2 : ys.toList.drop (n + 1) = yd := by
              have := congrArg (List.drop 1) hyd
              simpa [Nat.add_comm] using this
            obtain ⟨d, hu, hd⟩ := desc_of hT hcell hagg
            have hpart : ∀ (zs : Array Value) z, zs[n]? = some z → (part f.type zs f.offset).run P w = .ok z w := by
              intro zs z hz
              have hg : (isAgg f.type).run P w = .ok false w := by
                unfold isAgg
                rw [Sem.run_bind, run_underlying hu w]
                cases d <;> simp_all [descOK]
              simp [part, hg, ho, hz]
            have hne : f.name ≠ "_" := by simpa using hn
            have hstep : ∀ b1 r2, (Op.equalIn (dd + 1) f.type x y).run P w = .ok b1 w → eqCells as bs = some r2 → r = (b1 && r2) → (Op.eqFields (dd + 1) xs ys (f :: fs)).run P w = .ok r w := by
              intro b1 r2 h1 h2 h3
              have ih := eqFields_sound hT dd fs (n + 1) as bs r2 h2 (by rw [hx2]; exact ha2) (by rw [hy2]; exact hb2) (by simpa using hl) (fun i g hg => by
                have := hf (i + 1) g (by simpa using hg)
                rwa [show n + (i + 1) = n + 1 + i by omega] at this) (fun i a' ha' => by
                have := hk (i + 1) a' (by simpa using ha')
                rwa [show n + (i + 1) = n + 1 + i by omega] at this)
              subst h3
              simp only [Op.eqFields, if_pos hne, Sem.run_bind, hpart xs x hx, hpart ys y hy, h1, Result.andThen_ok]
              cases b1
              · simp
              · simpa using ih
            cases a <;> cases b <;> simp only [eqCells] at he <;> try cases he
            case int.int k1 a1 k2 b1 =>
              cases hkk : decide (k1 = k2) <;> rw [hkk] at he <;> simp only [cond_true, cond_false] at he
              · cases he
              · have := of_decide_eq_true hkk
                subst this
                obtain ⟨kk, rfl⟩ : ∃ kk, d = .int kk := by
                  cases hcc : (T t).cells.getD n .other <;> rw [hcc] at hk0 hcell <;> simp only [fitC] at hk0
                  cases d <;> simp [descOK, hagg, hcell] at hd
                  exact ⟨_, rfl⟩
                obtain ⟨r2, h2, rfl⟩ := Option.map_eq_some_iff.1 he
                obtain rfl : x = .int k1 a1 := ha1
                obtain rfl : y = .int k1 b1 := hb1
                refine hstep (a1 == b1) r2 ?_ h2 rfl
                exact run_equalIn_int w dd f.type k1 kk a1 b1 hu
            case bool.bool a1 b1 =>
              obtain ⟨r2, h2, rfl⟩ := Option.map_eq_some_iff.1 he
              obtain rfl : x = .bool a1 := ha1
              obtain rfl : y = .bool b1 := hb1
              refine hstep (a1 == b1) r2 ?_ h2 rfl
              cases hcc : (T t).cells.getD n .other <;> rw [hcc] at hk0 hcell <;> simp only [fitC] at hk0
              exact run_equalIn_bool' w dd f.type a1 b1 (by rw [hu]; cases d <;> simp [descOK, hagg, hcell] at hd <;> rfl)
            case str.str a1 b1 =>
              obtain ⟨r2, h2, rfl⟩ := Option.map_eq_some_iff.1 he
              obtain rfl : x = .string a1 := ha1
              obtain rfl : y = .string b1 := hb1
              refine hstep (a1 == b1) r2 ?_ h2 rfl
              cases hcc : (T t).cells.getD n .other <;> rw [hcc] at hk0 hcell <;> simp only [fitC] at hk0
              rw [beq_toListBytes]
              exact run_equalIn_string w dd f.type a1 b1 (by rw [hu]; cases d <;> simp [descOK, hagg, hcell] at hd <;> rfl)

theorem fitL_get : ∀ {cs : List CT} {as : List AV}, fitL cs as = true → cs.length = as.length ∧ ∀ (i : Nat) (a : AV), as[i]? = some a → fitC (cs.getD i .other) a
  | [], [], _ => ⟨rfl, fun i a h => by simp at h⟩
  | c :: cs, v :: as, h => by
    have hh : fitC c v ∧ fitL cs as = true := by
      cases c <;> cases v <;> simp [fitL, fitC] at h ⊢ <;> first | exact h | exact ⟨h.1, h.2⟩
    obtain ⟨h1, h2⟩ := hh
    obtain ⟨h3, h4⟩ := fitL_get h2
    refine ⟨by simp [h3], fun i a ha => ?_⟩
    cases i with
    | zero => simp at ha; subst ha; exact h1
    | succ i => exact h4 i a (by simpa using ha)
  | [], _ :: _, h => by simp [fitL] at h
  | _ :: _, [], h => by simp [fitL] at h
theorem eq_structs (hT : TOK P T) (hE : EOK P T) {t : Nat} (ht : (T t).eq = true) {as bs : List AV} {x y : Value} {r : Bool} (hfit : fitL (T t).cells as = true) (he : eqCells as bs = some r) (hx : RelA T w I φ (.agg as) x) (hy : RelA T w I φ (.agg bs) y) :
    (Op.equal t x y).run P w = .ok r w ∧ ∃ xs ys, x = .agg xs ∧ y = .agg ys := by
  obtain ⟨xs, rfl, hx⟩ := hx
  obtain ⟨ys, rfl, hy⟩ := hy
  obtain ⟨hst, _, fs, hu, hfs, hff⟩ := hE t ht
  obtain ⟨h3, h4⟩ := fitL_get hfit
  refine ⟨?_, xs, ys, rfl, rfl⟩
  have hfo : P.fieldsOf t = fs := by simp [Program.fieldsOf, hu]
  show (Op.equalIn (9999 + 1) t (.agg xs) (.agg ys)).run P w = _
  rw [run_equalIn_struct w 9999 t xs ys (by rw [hfo]; exact hu) hst, hfo]
  exact eqFields_sound hT (t := t) 9998 fs.toList 0 as bs r he (by simpa using hx) (by simpa using hy) (by simp [hfs, h3]) (fun i f hf => by
    have := hff i f (by simpa using hf)
    simpa using this) (fun i a ha => by simpa using h4 i a ha)

theorem guard_plain {op : BinOp} {t : Nat} {x y : Operand} {a b : Value} (ha : (∀ cs, a ≠ .agg cs) ∧ a ≠ .nilIface) : (eqGuard op t x y a b).run P w = .ok () w := by
  unfold eqGuard
  cases op <;> simp <;> cases a <;> cases b <;> simp_all
theorem eq_nil1 (d : Nat) {t e : Nat} (hu : P.underlying t = some (.pointer e)) : (Op.equalIn (d + 1) t (.pointer none) (.pointer none)).run P w = .ok true w := by
  simp [Op.equalIn, run_underlying hu]
theorem eq_nil2 (d : Nat) (q : Addr) {t e : Nat} (hu : P.underlying t = some (.pointer e)) : (Op.equalIn (d + 1) t (.pointer (some q)) (.pointer none)).run P w = .ok false w := by
  simp [Op.equalIn, run_underlying hu]
theorem bop_sound {R : Type} {K : AV → Tab → List Nat → List Nat → Option R} {r ws : List Nat} {q : R} (hT : TOK P T) (hE : EOK P T) {t : Nat} {op : BinOp} {a b : AV} {x y : Value} {o1 o2 : Operand} (ha : RelV T w I φ a x) (hb : RelV T w I φ b y)
    (hr : (bop T t op a b).run K h r ws = some q) : ∃ av v, K av h r ws = some q ∧ (do eqGuard op t o1 o2 x y; binOp op t x y : Sem Value).run P w = .ok v w ∧ RelC T w I φ av v := by
  have fin : ∀ {v}, ((∀ cs, x ≠ .agg cs) ∧ x ≠ .nilIface) → (binOp op t x y).run P w = .ok v w → (do eqGuard op t o1 o2 x y; binOp op t x y : Sem Value).run P w = .ok v w := by
    intro v h1 h2
    rw [Sem.run_bind, guard_plain h1]
    exact h2
  unfold bop at hr
  split at hr
  · -- whole numbers
    rename_i k n k' m
    obtain rfl := relV_int ha
    obtain rfl := relV_int hb
    have hno : (∀ cs, Value.int k n ≠ .agg cs) ∧ Value.int k n ≠ .nilIface := ⟨(fun _ h => by cases h), (fun h => by cases h)⟩
    split at hr
    · rw [run_br] at hr
      split at hr
      · simp [run_fail] at hr
      · rename_i hlt
        have : ¬ m < 0 := by simpa using hlt
        exact ⟨_, _, hr, fin hno (by simp [binOp, Op.shift, this]), rfl⟩
    · rw [run_br] at hr
      split at hr
      · simp [run_fail] at hr
      · rename_i hlt
        have : ¬ m < 0 := by simpa using hlt
        exact ⟨_, _, hr, fin hno (by simp [binOp, Op.shift, this]), rfl⟩
    · rename_i h1 h2
      rw [run_chk] at hr
      obtain ⟨hk, hr⟩ := hr
      have := of_decide_eq_true hk
      subst this
      obtain ⟨av, v, hK, hrun, hrel⟩ := bopi_sound (P := P) (T := T) (w := w) (I := I) (φ := φ) op k n m ⟨h1, h2⟩ hr
      refine ⟨av, v, hK, fin hno ?_, hrel⟩
      have : binOp op t (.int k n) (.int k m) = binOp op 0 (.int k n) (.int k m) := by cases op <;> rfl
      rw [this]; exact hrun
  · -- strings
    rename_i s s'
    obtain rfl := relV_str ha
    obtain rfl := relV_str hb
    have hno : (∀ cs, Value.string s ≠ .agg cs) ∧ Value.string s ≠ .nilIface := ⟨(fun _ h => by cases h), (fun h => by cases h)⟩
    cases op <;> simp only [bops] at hr <;> first | (simp only [run_fail] at hr; cases hr; done) | skip
    · rw [run_chk] at hr
      obtain ⟨hk, hr⟩ := hr
      have hle := of_decide_eq_true hk
      refine ⟨_, _, hr, fin hno (v := .string (s ++ s')) ?_, rfl⟩
      have : ¬ (((s.size + s'.size : Nat) : Int) > IntKind.i64.max) := by
        have : IntKind.i64.max = 9223372036854775807 := by decide
        rw [this]; omega
      simp only [binOp, Op.stringOp]
      rw [if_neg this]
      rfl
    all_goals exact ⟨_, _, hr, fin hno (by simp [binOp, Op.stringOp]; first | done | rfl), rfl⟩
  · -- bools
    rename_i s s'
    obtain rfl := relV_bool ha
    obtain rfl := relV_bool hb
    have hno : (∀ cs, Value.bool s ≠ .agg cs) ∧ Value.bool s ≠ .nilIface := ⟨(fun _ h => by cases h), (fun h => by cases h)⟩
    rw [run_chk] at hr
    simp only [Bool.and_eq_true, Bool.not_eq_true'] at hr
    obtain ⟨⟨hc, hg⟩, hr⟩ := hr
    obtain ⟨d, hu, hd⟩ := desc_of hT (of_decide_eq_true hc) hg
    have hdd : d = .bool := by cases d <;> simp [descOK, hg, of_decide_eq_true hc] at hd <;> rfl
    subst hdd
    have heq : (Op.equal t (.bool s) (.bool s')).run P w = .ok (s == s') w := run_equalIn_bool' w 9999 t s s' hu
    split at hr
    · exact ⟨_, _, hr, fin hno (v := .bool (s == s')) (by simp [binOp, heq]), rfl⟩
    · exact ⟨_, _, hr, fin hno (v := .bool !(s == s')) (by simp [binOp, heq]), rfl⟩
    · simp [run_fail] at hr
  · -- nil and nil
    obtain rfl : x = .pointer none := ha
    obtain rfl : y = .pointer none := hb
    have hno : (∀ cs, Value.pointer none ≠ .agg cs) ∧ Value.pointer none ≠ .nilIface := ⟨(fun _ h => by cases h), (fun h => by cases h)⟩
    rw [run_chk] at hr
    simp only [Bool.and_eq_true, Bool.not_eq_true'] at hr
    obtain ⟨⟨hc, hg⟩, hr⟩ := hr
    obtain ⟨d, hu, hd⟩ := desc_of hT (of_decide_eq_true hc) hg
    obtain ⟨e, rfl⟩ : ∃ e, d = .pointer e := by cases d <;> simp [descOK, hg, of_decide_eq_true hc] at hd <;> exact ⟨_, rfl⟩
    have heq : (Op.equal t (.pointer none) (.pointer none)).run P w = .ok true w := eq_nil1 9999 hu
    split at hr
    · exact ⟨_, _, hr, fin hno (v := .bool true) (by simp [binOp, heq]), rfl⟩
    · exact ⟨_, _, hr, fin hno (v := .bool false) (by simp [binOp, heq]), rfl⟩
    · simp [run_fail] at hr
  · -- a box and nil
    obtain ⟨b, _, rfl⟩ : ∃ b, _ ∧ x = .pointer (some ⟨b, _, none⟩) := ha
    obtain rfl : y = .pointer none := hb
    have hno : ∀ q : Option Addr, (∀ cs, Value.pointer q ≠ .agg cs) ∧ Value.pointer q ≠ .nilIface := fun q => ⟨(fun _ h => by cases h), (fun h => by cases h)⟩
    rw [run_chk] at hr
    simp only [Bool.and_eq_true, Bool.not_eq_true'] at hr
    obtain ⟨⟨hc, hg⟩, hr⟩ := hr
    obtain ⟨d, hu, hd⟩ := desc_of hT (of_decide_eq_true hc) hg
    obtain ⟨e, rfl⟩ : ∃ e, d = .pointer e := by cases d <;> simp [descOK, hg, of_decide_eq_true hc] at hd <;> exact ⟨_, rfl⟩
    have heq : ∀ q, (Op.equal t (.pointer (some q)) (.pointer none)).run P w = .ok false w := fun q => eq_nil2 9999 q hu
    split at hr
    · exact ⟨_, _, hr, fin (hno _) (v := .bool false) (by simp [binOp, heq]), rfl⟩
    · exact ⟨_, _, hr, fin (hno _) (v := .bool true) (by simp [binOp, heq]), rfl⟩
    · simp [run_fail] at hr
  · -- structs
    rename_i as bs
    rw [run_chk] at hr
    simp only [Bool.and_eq_true] at hr
    obtain ⟨⟨⟨ht, hk⟩, hfit⟩, hr⟩ := hr
    split at hr
    · rename_i r0 hec
      obtain ⟨heq, xs, ys, rfl, rfl⟩ := eq_structs (P := P) hT hE ht hfit hec ha hb
      have hgd : (eqGuard .eql t o1 o2 (.agg xs) (.agg ys)).run P w = .ok () w := by simp [eqGuard, (hE t ht).guard]
      exact ⟨_, .bool r0, hr, by rw [Sem.run_bind, hgd]; simp [binOp, heq, Result.andThen], rfl⟩
    · rename_i r0 hec
      obtain ⟨heq, xs, ys, rfl, rfl⟩ := eq_structs (P := P) hT hE ht hfit hec ha hb
      have hgd : (eqGuard .neq t o1 o2 (.agg xs) (.agg ys)).run P w = .ok () w := by simp [eqGuard, (hE t ht).guard]
      exact ⟨_, .bool !r0, hr, by rw [Sem.run_bind, hgd]; simp [binOp, heq, Result.andThen], rfl⟩
    · simp [run_fail] at hr
  · -- a slice and nil
    obtain ⟨_, a, n, c, rfl, hb0⟩ := ha
    obtain rfl : y = .slice none 0 0 := hb
    have hno : (∀ cs, Value.slice a n c ≠ .agg cs) ∧ Value.slice a n c ≠ .nilIface := ⟨(fun _ h => by cases h), (fun h => by cases h)⟩
    split at hr
    · rename_i hsl
      exact ⟨_, _, hr, fin hno (Lib.run_eql_slice_nil w _ _ a n c 0 0 (slE_ok hT hsl).2.2), by subst hb0; rfl⟩
    · rename_i hsl
      have := Lib.run_eql_slice_nil w _ _ a n c 0 0 (slE_ok hT hsl).2.2
      refine ⟨_, _, hr, fin hno (v := .bool !a.isNone) ?_, by subst hb0; rfl⟩
      simp only [binOp] at this ⊢
      cases hq : (Op.equal t (.slice a n c) (.slice none 0 0)).run P w <;> simp [hq] at this ⊢
      exact ⟨this.1, this.2⟩
    · simp [run_fail] at hr
  · simp [run_fail] at hr

theorem uop_sound {R : Type} {K : AV → Tab → List Nat → List Nat → Option R} {r ws : List Nat} {q : R} {op : UnOp} {a : AV} {x : Value} (ha : RelV T w I φ a x) (hr : (uop op a).run K h r ws = some q) :
    ∃ av v, K av h r ws = some q ∧ (Op.unary op x).run P w = .ok v w ∧ RelC T w I φ av v := by
  unfold uop at hr
  split at hr
  · obtain rfl := relV_int ha
    exact ⟨_, _, hr, by simp [Op.unary, Op.intArith], rfl⟩
  · obtain rfl := relV_bool ha
    exact ⟨_, _, hr, by simp [Op.unary], rfl⟩
  · simp [run_fail] at hr

theorem constC_rel (v : Value) : RelC T w I φ (constC v) v := by
  unfold constC
  split <;> first | rfl | trivial
theorem constV_rel (v : Value) : RelV T w I φ (constV v) v := by
  unfold constV
  split
  · rename_i l
    refine .of_A ⟨⟨l⟩, rfl, ?_⟩
    have := all2_map (Q := RelC T w I φ) constC (fun v => v) l (fun a _ => constC_rel a)
    simpa using this
  · exact .of_C (constC_rel _)
end
end Go.Sx
