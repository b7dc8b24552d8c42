/- Maps that a call makes for itself, told as functions: what is there at a key, and a bound on how many entries there are. -/
import Derived.Test.YtemokeankdgfeaaDoorV
import Derived.Maps.OwnOps
import Derived.Maps.OwnSet
import Derived.StringKeys
namespace Go.Proofs.YtemokeankdgfeaaDoor.Mp
open Go.Maps Go.WideMaps Go.RowKit Go.ChangeMaps Go.WideShapes Go.WideElems Go.Proofs.YtemokeankdgfeaaDoorW.PrintWords
set_option linter.unusedVariables false

/-- A map's contents; many: at most so many entries. -/
structure PM (κ ν : Type) where
  get : κ → Option ν
  many : Nat
def PM.nil {κ ν : Type} : PM κ ν := ⟨fun _ => none, 0⟩
def PM.put {κ ν : Type} [DecidableEq κ] (m : PM κ ν) (x : κ) (v : ν) : PM κ ν := ⟨fun y => if y = x then some v else m.get y, m.many + 1⟩
def PM.look {κ ν : Type} (m : PM κ ν) (x : κ) (z : ν) : ν := (m.get x).getD z
def PM.has {κ ν : Type} (m : PM κ ν) (x : κ) : Bool := (m.get x).isSome

/-- How a type's values stand as keys. -/
structure MK (P : Program) (K : TypeId) (κ : Type) where
  keyed : Keyed P K
  enc : κ → Value
  lit : κ → Lit
  ok : κ → Prop
  key : ∀ x, ok x → keyOf P K (enc x) = some (lit x)
  isKey : ∀ x, WideAt.IsKeyLit (lit x)
  inj : ∀ {x y}, lit x = lit y → x = y
/-- How a type's values stand as elements. -/
structure ME (P : Program) (E : TypeId) (ν : Type) where
  enc : ν → Value
  lit : ν → DataW Unit
  zero : ν
  ok : ν → Prop
  elem : ∀ v, ok v → plainElem P E (enc v) = some (lit v, [])
  inv : ∀ {u z}, plainElem (H := Unit) P E u = some z → ∃ v, u = enc v ∧ z.1 = lit v
  inj : ∀ {x y}, lit x = lit y → x = y
  zeroV : ∀ w, (zeroValue E).run P w = .ok (enc zero) w
  okz : ok zero
section
variable {P : Program} {K E : TypeId}
def MK.string (h : P.underlying K = some .string) : MK P K ByteArray where
  keyed := string_keyed h
  enc := Value.string
  lit := fun s => .string s.data.toList
  ok := fun s => s.size ≤ 9223372036854775807
  key := fun x hx => keyOf_string_mk h (by unfold maxLen; exact hx)
  isKey := fun x => by simp [WideAt.IsKeyLit]
  inj := fun {x y} h => by
    have e : x.data = y.data := Array.toList_inj.1 (by injection h)
    cases x; cases y; cases e; rfl
def MK.int (q : IntKind) (h : P.underlying K = some (.int q)) : MK P K Int where
  keyed := int_keyed h
  enc := Value.int q
  lit := fun n => .int q n
  ok := fun n => (Lit.int q n).wf = true
  key := fun x hx => keyOf_int_mk h hx
  isKey := fun x => by simp [WideAt.IsKeyLit]
  inj := fun {x y} h => by injection h
def ME.int (q : IntKind) (h : P.underlying E = some (.int q)) (hz : ∀ w, (zeroValue E).run P w = .ok (.int q 0) w) : ME P E Int where
  enc := Value.int q
  lit := fun n => .lit (.int q n)
  zero := 0
  ok := fun n => (Lit.int q n).wf = true
  elem := fun v hv => plainElem_int h hv
  inv := fun {u z} hu => by
    obtain ⟨a, rfl, rfl, _⟩ := plainElem_int_inv h hu
    exact ⟨a, rfl, rfl⟩
  inj := fun {x y} h => by injection h with h; injection h
  zeroV := hz
  okz := by cases q <;> decide
def ME.bool (h : P.underlying E = some .bool) (hz : ∀ w, (zeroValue E).run P w = .ok (.bool false) w) : ME P E Bool where
  enc := Value.bool
  lit := fun n => .lit (.bool n)
  zero := false
  ok := fun _ => True
  elem := fun v _ => plainElem_bool h v
  inv := fun {u z} hu => by
    unfold plainElem at hu
    rw [h] at hu
    split at hu <;> simp_all
    obtain rfl := hu
    rfl
  inj := fun {x y} h => by injection h with h; injection h
  zeroV := hz
  okz := trivial

variable {κ ν : Type} (k : MK P K κ) (e : ME P E ν)
/-- Block g of W is a map with these contents. -/
def IsMap (W : World) (g : Nat) (m : PM κ ν) : Prop :=
  ∃ D : DataW Unit, W.ownsMap P K (plainElem P E) g m.many D ∧ (∀ x, k.ok x → D.atKey (k.lit x) (e.lit e.zero) = e.lit (m.look x e.zero)) ∧ ∀ x, k.ok x → Maps.has D (k.lit x) = m.has x
end
section
variable {P : Program} {K E : TypeId} {κ ν : Type} {k : MK P K κ} {e : ME P E ν} {W W1 : World} {g : Nat} {m : PM κ ν}
theorem mp_some (h : IsMap k e W g m) : ∃ o, W.heap[g]? = some o := by
  obtain ⟨D, ⟨es, c, hb, _⟩, _⟩ := h
  exact ⟨_, hb⟩
theorem mp_back {o : Obj} (h : IsMap k e W g m) (h0 : W.heap[g]? = some o) (h1 : W1.heap[g]? = some o) : IsMap k e W1 g m := by
  obtain ⟨D, ⟨es, c, hb, r⟩, r2⟩ := h
  rw [hb] at h0
  cases h0
  exact ⟨D, ⟨es, c, h1, r⟩, r2⟩
theorem mp_lt (h : IsMap k e W g m) : g < W.heap.size := by
  obtain ⟨o, ho⟩ := mp_some h
  exact blk_lt ho
theorem mp_step (h : IsMap k e W g m) (f : ∀ o, W.heap[g]? = some o → W1.heap[g]? = some o) : IsMap k e W1 g m := by
  obtain ⟨o, ho⟩ := mp_some h
  exact mp_back h ho (f o ho)
theorem mp_alloc (h : IsMap k e W g m) (o : Obj) : IsMap k e (W.alloc o) g m := mp_step h (fun _ ho => blk_alloc ho o)
theorem mp_drew (h : IsMap k e W g m) : IsMap k e W.drew g m := mp_step h (fun _ ho => ho)
theorem mp_drewN (h : IsMap k e W g m) (n : Nat) : IsMap k e (W.drewN n) g m := mp_step h (fun _ ho => ho)
theorem mp_far (h : IsMap k e W g m) {p : Addr} (hp : g ≠ p.block) (u : Value) : IsMap k e (W.setCell p u) g m := mp_step h (fun _ ho => (Below.heap_setCell W p u g hp).trans ho)
theorem mp_neC {b : Nat} {cs : Array Value} {t : TypeId} {fr : Nat × Nat} (hb : W.heap[b]? = some (.cells cs t fr)) (h : IsMap k e W g m) : b ≠ g := by
  obtain ⟨D, ⟨es, c, hg, _⟩, _⟩ := h
  rintro rfl
  rw [hb] at hg
  cases hg
theorem mp_neR {α : Type} {d : Kd α} {q base : Nat} {ok : Nat → Prop} {v : Value} {xs : List α} (ho : d.R q W base ok v xs) (h : IsMap k e W g m) : some g ≠ v.ownBlock := by
  intro e1
  obtain ⟨_, _, _, hq⟩ := (Kd.R_bound ho).1 g e1.symm
  obtain ⟨q', _, cells, hc⟩ := hq
  exact mp_neC hc h rfl
theorem mp_overR {α : Type} {d : Kd α} {q base : Nat} {ok : Nat → Prop} {v : Value} {xs : List α} (ho : d.R q W base ok v xs) (h : IsMap k e W g m) (hg : W.grownBy W1 (some g)) : d.R q W1 base ok v xs := by
  refine Kd.R_mono (Kd.R_move (Kd.R_bound ho) (fun b hb => ?_)) (fun b hb => hb.1)
  obtain ⟨_, _, hlt, q', _, cells, hc⟩ := hb
  exact hg.block b hlt (fun e1 => mp_neC hc h (by injection e1))
section
variable {ops : Array Oper} {rest : List Oper} {o : Oper} {a : Act} {Q : Exit → Act → World → Prop}
theorem map_event (hgd : o.guard = none) {N : Tmp} (_hd : o.dst = some N)
    (hrun : (execOp a.eval o).run P W = .ok (.value (.map (some W.heap.size))) (W.alloc (.map #[] 0)))
    (h : ∀ g, g = W.heap.size → ∀ w1, IsMap k e w1 g PM.nil → Below W.heap.size W w1 → wpList P ops Q rest (a.put o.dst (.map (some g))) w1) : wpList P ops Q (o :: rest) a W :=
  Kd.event_run hgd hrun (h _ rfl _ ⟨.map [], World.ownsMap_made _ _ _ _, fun x _ => rfl, fun x _ => rfl⟩ (below_alloc (Below.refl _ _) _))
theorem look_run {t : TypeId} (h : IsMap k e W g m) (ht : P.underlying t = some (.map K E)) {x : κ} (hx : k.ok x) : (Instr.lookup t (.map (some g)) (k.enc x) false).run P W = .ok (e.enc (m.look x e.zero)) W := by
  obtain ⟨D, hown, hat, _⟩ := h
  obtain ⟨v, ps, hrun, hv⟩ := hown.lookup k.keyed ht (e.zeroV W) (e.elem _ e.okz) (k.key x hx)
  rw [hat x hx] at hv
  obtain ⟨v', rfl, hl⟩ := e.inv hv
  rw [e.inj hl, hrun]
theorem look_event (hgd : o.guard = none) {N : Tmp} (_hd : o.dst = some N) (mo xo : Operand) (t : TypeId) (hop : o.op = Op.lookup t mo xo false) (ht : P.underlying t = some (.map K E))
    (x : κ) (u : Value) (hu : e.enc (m.look x e.zero) = u) (hm : a.eval mo = .map (some g)) (hx : a.eval xo = k.enc x) (hI : IsMap k e W g m) (hok : k.ok x) (h : wpList P ops Q rest (a.put o.dst u) W) : wpList P ops Q (o :: rest) a W := by
  subst hu
  refine wpList_plain hgd fun K' hK' => ?_
  have hrun := look_run hI ht hok
  unfold Oper.wp
  simp [execOp, hop, hm, hx, hrun, Result.andThen]
  exact hK' _ _ h
theorem put_event (hgd : o.guard = none) (mo xo vo : Operand) (t : TypeId) (hop : o.op = Op.mapUpdate t mo xo vo) (ht : P.underlying t = some (.map K E)) [DecidableEq κ]
    (x : κ) (v : ν) (hm : a.eval mo = .map (some g)) (hx : a.eval xo = k.enc x) (hv : a.eval vo = e.enc v) (hI : IsMap k e W g m) (hok : k.ok x) (hokv : e.ok v) (hn : m.many < 9223372036854775807)
    (h : ∀ w1, IsMap k e w1 g (m.put x v) → W.grownBy w1 (some g) → wpList P ops Q rest (a.put o.dst undef) w1) : wpList P ops Q (o :: rest) a W := by
  obtain ⟨D, hown, hat, hhas⟩ := hI
  refine wpList_mapUpdate_own W hgd mo xo vo t hop K E k.keyed ht (plainElem P E) g m.many D hm hown (by unfold maxLen; exact hn) _ _ (k.lit x) hx hv (k.key x hok) (e.lit v) [] (e.elem v hokv) ?_
  intro w1 hown1 hg1
  refine h w1 ⟨_, hown1, fun y hy => ?_, fun y hy => ?_⟩ hg1
  · by_cases hyx : y = x
    · subst hyx
      rw [atKey_put_same hown.isMap (k.isKey _)]
      simp [PM.look, PM.put]
    · rw [atKey_put_other (fun e1 => hyx (k.inj e1)), hat y hy]
      simp [PM.look, PM.put, hyx]
  · by_cases hyx : y = x
    · subst hyx
      rw [has_put_same hown.isMap (k.isKey _)]
      simp [PM.has, PM.put]
    · rw [has_put_other (fun e1 => hyx (k.inj e1)), hhas y hy]
      simp [PM.has, PM.put, hyx]
end
end
end Go.Proofs.YtemokeankdgfeaaDoor.Mp
