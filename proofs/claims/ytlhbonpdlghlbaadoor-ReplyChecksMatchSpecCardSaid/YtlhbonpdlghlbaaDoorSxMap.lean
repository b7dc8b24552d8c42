/- Maps from strings: making one, looking up, storing; a row that was taken out is put back. -/
import Derived.Test.YtlhbonpdlghlbaaDoorSxOps
import Derived.StringKeys
import Derived.Carry
set_option linter.unusedVariables false
set_option linter.unusedSimpArgs false
namespace Go.Sx
open Go.Maps Go.WideElems Go.MapKept Go.ChangeMaps Go.WideMaps Go.RowKit

/-! ### Lists of keys and values -/
theorem ba_ext {a b : ByteArray} (h : a.toList = b.toList) : a = b := by
  rw [ByteArray.toList_eq, ByteArray.toList_eq] at h
  obtain ⟨⟨a⟩⟩ := a
  obtain ⟨⟨b⟩⟩ := b
  simp only at h
  rw [h]
theorem keyIs_iff {s : ByteArray} {d : D} : keyIs s d = true ↔ (d.c 0).s = s := by
  unfold keyIs
  constructor
  · intro h; exact ba_ext (by simpa using h)
  · intro h; simp [h]
theorem mHas_iff {m : List D} {s : ByteArray} : mHas m s = true ↔ ∃ d ∈ m, (d.c 0).s = s := by
  simp only [mHas, List.any_eq_true, keyIs_iff]
theorem mHas_put {m : List D} {s s' : ByteArray} {v : D} : mHas (mPut m s v) s' = true ↔ mHas m s' = true ∨ s' = s := by
  unfold mPut
  cases hb : mHas m s
  · simp only [cond_false, mHas_iff, List.mem_append, List.mem_singleton]
    constructor
    · rintro ⟨d, h | rfl, h2⟩
      · exact .inl ⟨d, h, h2⟩
      · exact .inr h2.symm
    · rintro (⟨d, h, h2⟩ | rfl)
      · exact ⟨d, .inl h, h2⟩
      · exact ⟨_, .inr rfl, rfl⟩
  · simp only [cond_true, mHas_iff, List.mem_map]
    constructor
    · rintro ⟨d', ⟨d, hd, rfl⟩, h2⟩
      cases hk : keyIs s d
      · rw [hk] at h2; exact .inl ⟨d, hd, h2⟩
      · rw [hk] at h2; exact .inr h2.symm
    · rintro (⟨d, h, h2⟩ | rfl)
      · by_cases hk : keyIs s d = true
        · refine ⟨_, ⟨d, h, rfl⟩, ?_⟩
          rw [hk]
          exact (keyIs_iff.1 hk).symm.trans h2
        · exact ⟨_, ⟨d, h, rfl⟩, by simp [hk, h2]⟩
      · obtain ⟨d, hd, h2⟩ := mHas_iff.1 hb
        exact ⟨_, ⟨d, hd, rfl⟩, by rw [keyIs_iff.2 h2]; rfl⟩
theorem mGet_same {m : List D} {s : ByteArray} {v z : D} : mGet (mPut m s v) s z = v := by
  unfold mPut
  cases hb : mHas m s
  · have hn : m.find? (keyIs s) = none := by
      refine List.find?_eq_none.2 fun d hd hk => ?_
      have : mHas m s = true := mHas_iff.2 ⟨d, hd, keyIs_iff.1 hk⟩
      rw [hb] at this; cases this
    have hk : keyIs s (.agg [.str s, v]) = true := keyIs_iff.2 rfl
    simp [mGet, List.find?_append, hn, List.find?_cons, hk, D.c]
  · simp only [cond_true, mGet]
    have : ∀ l : List D, (∃ d ∈ l, keyIs s d = true) → (l.map (fun d => bif keyIs s d then D.agg [.str s, v] else d)).find? (keyIs s) = some (.agg [.str s, v]) := by
      intro l
      induction l with
      | nil => rintro ⟨d, h, _⟩; cases h
      | cons d l ih =>
        rintro ⟨d', h, hk⟩
        cases hd : keyIs s d
        · simp only [List.map_cons, hd, cond_false, List.find?_cons]
          rcases List.mem_cons.1 h with rfl | h
          · rw [hd] at hk; cases hk
          · exact ih ⟨d', h, hk⟩
        · have hk2 : keyIs s (.agg [.str s, v]) = true := keyIs_iff.2 rfl
          simp only [List.map_cons, hd, cond_true, List.find?_cons, hk2]
    rw [this m (by obtain ⟨d, h1, h2⟩ := mHas_iff.1 hb; exact ⟨d, h1, keyIs_iff.2 h2⟩)]
    rfl
theorem mGet_other {m : List D} {s s' : ByteArray} {v z : D} (hne : s' ≠ s) : mGet (mPut m s v) s' z = mGet m s' z := by
  have hk2 : keyIs s' (.agg [.str s, v]) = false := by
    cases hh : keyIs s' (.agg [.str s, v])
    · rfl
    · exact absurd (keyIs_iff.1 hh) (fun e => hne e.symm)
  unfold mPut
  cases hb : mHas m s
  · simp only [cond_false, mGet, List.find?_append, List.find?_cons, hk2, List.find?_nil, Option.or_none]
  · simp only [cond_true, mGet]
    have : ∀ l : List D, (l.map (fun d => bif keyIs s d then D.agg [.str s, v] else d)).find? (keyIs s') = l.find? (keyIs s') := by
      intro l
      induction l with
      | nil => rfl
      | cons d l ih =>
        cases hd : keyIs s d
        · simp only [List.map_cons, hd, cond_false, List.find?_cons, ih]
        · have hd' : keyIs s' d = false := by
            cases hh : keyIs s' d
            · rfl
            · exact absurd ((keyIs_iff.1 hh).symm.trans (keyIs_iff.1 hd)) hne
          simp only [List.map_cons, hd, cond_true, List.find?_cons, hk2, hd', ih]
    rw [this]
theorem len_put {m : List D} {s : ByteArray} {v : D} : (mPut m s v).length = if mHas m s = true then m.length else m.length + 1 := by
  unfold mPut
  cases mHas m s <;> simp

section
variable {P : Program} {T : Nat → TyI} {U : Nat → Prop} {w w' : World} {I I' : Nat → Prop} {φ φ' : Nat → Option Value} {h : Tab} {ρ : Operand → AV} {ρ' : Operand → Value} {o : Oper}
theorem mapTy_ok (hT : TOK P T) {t k e : Nat} (h : mapTy T t = some (k, e)) : P.underlying t = some (.map k e) ∧ P.underlying k = some .string ∧ (T t).cells = [.map k e] ∧ (T t).agg = false := by
  unfold mapTy at h
  split at h
  case h_2 => cases h
  rename_i k' e' fs b q ar heq
  cases hb : (decide ((T k').cells = [.str]) && !(T k').agg) <;> rw [hb] at h
  · cases h
  · simp only [cond_true, Option.some.injEq, Prod.mk.injEq] at h
    obtain ⟨rfl, rfl⟩ := h
    simp only [Bool.and_eq_true, decide_eq_true_eq, Bool.not_eq_true'] at hb
    have hc : (T t).cells = [.map k' e'] := by rw [heq]
    have ha : (T t).agg = false := by rw [heq]
    obtain ⟨d, hu, hd⟩ := desc_of hT hc ha
    obtain ⟨d2, hu2, hd2⟩ := desc_of hT hb.1 hb.2
    have e1 : d = .map k' e' := by cases d <;> simp [descOK, ha, hc] at hd <;> (obtain ⟨rfl, rfl⟩ := hd; rfl)
    have e2 : d2 = .string := by cases d2 <;> simp [descOK, hb.1, hb.2] at hd2 <;> rfl
    subst e1 e2
    exact ⟨hu, hu2, hc, ha⟩
theorem zero_run (hT : TOK P T) {e : Nat} {c : CT} (hc : (T e).cells = [c]) (ha : (T e).agg = false) (w : World) : (zeroValue e).run P w = .ok (zeroVal c) w := by
  obtain ⟨i, d, hi, _, _, _, _, hz⟩ := (hT e (by rw [hc]; simp)).ex
  rw [ha, hc] at hz
  simp [zeroValue, typeInfo, hi]
  simp at hz
  simp [hz]
theorem RepC.scalar0 {c : CT} {d : D} {u : Value} (h : RepC T w I c d u) (hc : ∀ e, c ≠ .sl e) : RepC T w' I' c d u := by
  cases h with
  | int k d => exact .int k _
  | bool d => exact .bool _
  | str d => exact .str _
  | nil e' d a cap hd => exact absurd rfl (hc e')
  | sl e' d b off n cap u hn hb hcc hl' hr' => exact absurd rfl (hc e')
theorem scalT_ok {e : Nat} (h : scalT T e = true) : ∃ c, (T e).cells = [c] ∧ (T e).agg = false ∧ (∀ e', c ≠ .sl e') ∧ ∀ w I, RepC T w I c (zeroD T e) (zeroVal c) := by
  unfold scalT at h
  split at h
  · rename_i k fs b q ar heq
    exact ⟨.int k, by rw [heq], by rw [heq], (fun _ h => by cases h), fun w I => by simp only [zeroD, heq, cond_false]; exact .int k (.int 0)⟩
  · rename_i fs b q ar heq
    exact ⟨.bool, by rw [heq], by rw [heq], (fun _ h => by cases h), fun w I => by simp only [zeroD, heq, cond_false]; exact .bool (.bool false)⟩
  · rename_i fs b q ar heq
    exact ⟨.str, by rw [heq], by rw [heq], (fun _ h => by cases h), fun w I => by simp only [zeroD, heq, cond_false]; exact .str (.str ⟨#[]⟩)⟩
  · cases h
theorem toD_scal {R : Type} {K : D → Tab → List Nat → List Nat → Option R} {x : R} {c : CT} {v : AV} {u : Value} (hc : ∀ e, c ≠ .sl e) (hv : RelC T w I φ v u) {r ws : List Nat} (hr : (toD c v).run K h r ws = some x) : ∃ d, K d h r ws = some x ∧ RepC T w I c d u := by
  unfold toD at hr
  split at hr <;> try (exact absurd rfl (hc _))
  · rename_i k n k'
    rw [run_chk] at hr
    have := of_decide_eq_true hr.1
    subst this
    obtain rfl : u = .int k n := hv
    exact ⟨_, hr.2, .int k (.int n)⟩
  · rename_i b
    obtain rfl : u = .bool b := hv
    exact ⟨_, hr, .bool (.bool b)⟩
  · rename_i b
    obtain rfl : u = .string b := hv
    exact ⟨_, hr, .str (.str b)⟩
  · simp [run_fail] at hr
/-- The making of a map. -/
theorem makeMap_sound (hm : Mem T U w I φ h) {u t e : Nat} {own : Bool} (hu : h u = .unborn) (ho : o.op = .makeMap t none) (hk : own = true → (T e).cells ≠ []) : StepOK P T U ρ' o w I φ (.mapr u) (h.upd u (.map e own [] none)) := by
  have hat : (w.alloc (.map #[] 0)).heap[w.heap.size]? = some (.map #[] 0) := heap_alloc_new w _
  obtain ⟨m, x⟩ := hm.new hu (.map #[] 0) (v := .map (some w.heap.size)) (E := .map e own [] none)
    ⟨w.heap.size, #[], 0, by simp [setφ], ⟨hat, by simp, by simp, stamped_empty 0, fun x hx => by simp at hx, fun s hs => by simp [mHas] at hs, fun _ x hx => by simp at hx, fun _ x hx => by simp at hx, fun _ x hx => by simp at hx, fun _ x hx => by simp at hx, (fun s u ht => by cases ht), hk⟩⟩
    (fun b hb => by
      rcases hb with hb | ⟨e', m', tk, r, es, clock, h1, h2, h3, y, hy, _⟩
      · simpa [blk] using hb.symm
      · obtain rfl : w.heap.size = r := by simpa using h2
        rw [hat] at h3
        cases h3
        simp at hy)
  refine ⟨.value (.map (some w.heap.size)), _, _, _, ?_, m, x, .inl ⟨_, rfl, .of_C ⟨by simp [setφ], _, rfl⟩⟩⟩
  simp [execOp, ho, run_makeMap, Result.andThen]

section
variable {e : Nat} {own : Bool} {m : List D} {tk : Option (ByteArray × Nat)} {r : Nat} {es : Array MapEntry} {clock : Nat}
theorem MapR.keyed {k : Nat} (hk : P.underlying k = some .string) (h : MapR T w I φ e own m tk r es clock) : ∀ x ∈ es.toList, ∃ l, keyOf P k x.key = some l := fun x hx => by
  obtain ⟨s, hs, hz, _⟩ := h.keys x hx
  rw [hs]
  exact ⟨_, keyOf_string_mk hk hz⟩
/-- What a look-up finds. -/
theorem look_run {t k E : Nat} (ht : P.underlying t = some (.map k E)) (hk : P.underlying k = some .string) (h : MapR T w I φ e own m tk r es clock) {s : ByteArray} (hs : s.size ≤ 9223372036854775807) {z : Value} (hz : (zeroValue E).run P w = .ok z w) (c : Bool) :
    (mHas m s = false ∧ (Instr.lookup t (.map (some r)) (.string s) c).run P w = .ok (if c then .tuple #[z, .bool false] else z) w ∧ ∀ x ∈ es.toList, x.key ≠ .string s) ∨
    (mHas m s = true ∧ ∃ e0 ∈ es.toList, e0.key = .string s ∧ (Instr.lookup t (.map (some r)) (.string s) c).run P w = .ok (if c then .tuple #[e0.val, .bool true] else e0.val) w) := by
  have K := string_keyed hk
  have hkey := keyOf_string_mk hk (s := s) hs
  rcases K.find w hkey es.toList (h.keyed hk) with ⟨h1, h2⟩ | ⟨j, e0, h1, h2, h3⟩
  · refine .inl ⟨?_, ?_, h2⟩
    · cases hb : mHas m s
      · rfl
      · obtain ⟨x, hx, hxk⟩ := h.all s hb
        exact absurd hxk (h2 x hx)
    · simp [Instr.lookup, run_underlying ht, MapKept.run_getObj_map h.at_, K.check w _ hkey, h1, hz, Result.andThen]
  · have hm0 := List.mem_of_getElem? h2
    refine .inr ⟨?_, e0, hm0, h3, ?_⟩
    · obtain ⟨s', hs', _, hh⟩ := h.keys e0 hm0
      rw [h3] at hs'
      obtain rfl : s = s' := by simpa using hs'
      exact hh
    · simp [Instr.lookup, run_underlying ht, MapKept.run_getObj_map h.at_, K.check w _ hkey, h1, Result.andThen]
/-- What a store leaves. -/
theorem put_run {t k E : Nat} (ht : P.underlying t = some (.map k E)) (hk : P.underlying k = some .string) (h : MapR T w I φ e own m tk r es clock) {s : ByteArray} (hs : s.size ≤ 9223372036854775807) (val : Value) :
    ∃ es' clock', (Instr.mapUpdate t (.map (some r)) (.string s) val).run P w = .ok () (setBlock w r (.map es' clock')) ∧ Stamped es' clock' ∧ (es'.size = if mHas m s = true then es.size else es.size + 1) ∧
      (∀ x' ∈ es'.toList, (x' ∈ es.toList ∧ x'.key ≠ .string s) ∨ (x'.key = .string s ∧ x'.val = val)) ∧ (∀ x ∈ es.toList, x.key ≠ .string s → x ∈ es'.toList) ∧ ∃ x ∈ es'.toList, x.key = .string s := by
  have K := string_keyed hk
  have hkey := keyOf_string_mk hk (s := s) hs
  rcases K.find w hkey es.toList (h.keyed hk) with ⟨h1, h2⟩ | ⟨j, e0, h1, h2, h3⟩
  · have hno : mHas m s = false := by
      cases hb : mHas m s
      · rfl
      · obtain ⟨x, hx, hxk⟩ := h.all s hb
        exact absurd hxk (h2 x hx)
    refine ⟨es.push ⟨.string s, val, clock⟩, clock + 1, ?_, stamped_push h.stamped h2, by simp [hno], fun x' hx' => ?_, fun x hx _ => by simp [show x ∈ es from by simpa using hx], ⟨⟨.string s, val, clock⟩, by simp, rfl⟩⟩
    · simp [Instr.mapUpdate, run_underlying ht, MapKept.run_getObj_map h.at_, K.check w false hkey, h1, MapKept.run_setObj_map _ h.at_, Result.andThen, setBlock]
    · simp only [Array.toList_push, List.mem_append, List.mem_singleton] at hx'
      rcases hx' with hx' | rfl
      · exact Or.inl ⟨hx', h2 x' hx'⟩
      · exact Or.inr ⟨rfl, rfl⟩
  · have hm0 := List.mem_of_getElem? h2
    have hyes : mHas m s = true := by
      obtain ⟨s', hs', _, hh⟩ := h.keys e0 hm0
      rw [h3] at hs'
      obtain rfl : s = s' := by simpa using hs'
      exact hh
    have hj : es[j]? = some e0 := by simpa using h2
    have hjl : j < es.toList.length := (List.getElem?_eq_some_iff.1 h2).1
    have hkeyf : ∀ e', es[j]? = some e' → ({ e' with key := .string s, val := val } : MapEntry).key = e'.key := fun e' he' => by rw [hj] at he'; cases he'; exact h3.symm
    have hlist : (es.modify j (fun e' => { e' with key := .string s, val := val })).toList = es.toList.set j { e0 with key := .string s, val := val } := by rw [Array.toList_modify, ChangeMaps.modify_eq_set _ _ _ _ h2]
    have hn : es.toList.Pairwise (fun x y => x.key ≠ y.key) := ((stamped_iff es clock).1 h.stamped).2.2
    have hother : ∀ (i : Nat) (x : MapEntry), es.toList[i]? = some x → i ≠ j → x.key ≠ .string s := fun i x hi hne => by
      obtain ⟨hi', ei⟩ := List.getElem?_eq_some_iff.1 hi
      obtain ⟨hj', ej⟩ := List.getElem?_eq_some_iff.1 h2
      rw [← h3, ← ei, ← ej]
      rcases Nat.lt_or_gt_of_ne hne with hlt | hlt
      · exact List.pairwise_iff_getElem.1 hn i j hi' hj' hlt
      · exact fun e => List.pairwise_iff_getElem.1 hn j i hj' hi' hlt e.symm
    refine ⟨es.modify j (fun e' => { e' with key := .string s, val := val }), clock, ?_, stamped_modify h.stamped _ _ (fun _ _ => rfl) (fun e' _ he' => hkeyf e' he'), by simp [hyes], fun x' hx' => ?_, fun x hx hne => ?_, ⟨{ e0 with key := .string s, val := val }, ?_, rfl⟩⟩
    · simp [Instr.mapUpdate, run_underlying ht, MapKept.run_getObj_map h.at_, K.check w false hkey, h1, hj, h3, K.stays w hkey, MapKept.run_setObj_map _ h.at_, Result.andThen, setBlock]
    · rw [hlist] at hx'
      obtain ⟨i, hi, ex⟩ := List.getElem_of_mem hx'
      rw [List.getElem_set] at ex
      split at ex
      · subst ex; exact Or.inr ⟨rfl, rfl⟩
      · rename_i hne
        have hi' : i < es.toList.length := by simpa using hi
        exact Or.inl ⟨ex ▸ List.getElem_mem hi', hother i x' (by rw [List.getElem?_eq_getElem hi', ex]) (fun e1 => hne e1.symm)⟩
    · rw [hlist]
      obtain ⟨i, hi, ex⟩ := List.getElem_of_mem hx
      have hij : i ≠ j := fun e1 => by
        subst e1
        rw [List.getElem?_eq_getElem hi] at h2
        rw [ex] at h2
        exact hne (Option.some.inj h2 ▸ h3)
      have hi2 : (es.toList.set j { e0 with key := .string s, val := val })[i]? = some x := by
        rw [List.getElem?_set_ne (fun e1 => hij e1.symm), List.getElem?_eq_getElem hi, ex]
      exact List.mem_of_getElem? hi2
    · rw [hlist]
      exact List.mem_of_getElem? (by rw [List.getElem?_set_self hjl])
theorem grown_setBlock (w : World) (r : Nat) (o : Obj) : w.grownBy (setBlock w r o) (some r) :=
  ⟨rfl, rfl, rfl, by simp [setBlock], fun k hk hne => by
    simp only [setBlock]
    rw [Array.getElem?_setIfInBounds_ne (fun e => hne (by rw [e]))]⟩
theorem key_eq (h : Stamped es clock) {x y : MapEntry} (hx : x ∈ es.toList) (hy : y ∈ es.toList) (e : x.key = y.key) : x = y := by
  have hn : es.toList.Pairwise (fun x y => x.key ≠ y.key) := ((stamped_iff es clock).1 h).2.2
  obtain ⟨i, hi, rfl⟩ := List.getElem_of_mem hx
  obtain ⟨j, hj, rfl⟩ := List.getElem_of_mem hy
  rcases Nat.lt_trichotomy i j with hlt | rfl | hlt
  · exact absurd e (List.pairwise_iff_getElem.1 hn i j hi hj hlt)
  · rfl
  · exact absurd e.symm (List.pairwise_iff_getElem.1 hn j i hj hi hlt)
end

/-- A look-up of a whole number, a truth value or a string. -/
theorem lookup_scal (hT : TOK P T) (hm : Mem T U w I φ h) {t k e id : Nat} {y z : Operand} {s : ByteArray} {m : List D} {tk : Option (ByteArray × Nat)} {ok : Bool} (ho : o.op = .lookup t y z ok) (ht : mapTy T t = some (k, e)) (hs : s.size ≤ 9223372036854775807)
    (hid : h id = .map e false m tk) (hy : RelC T w I φ (.mapr id) (ρ' y)) (hz : ρ' z = .string s) (hsc : ∃ c, (T e).cells = [c] ∧ (T e).agg = false ∧ RepC T w I c (zeroD T e) (zeroVal c)) {av : AV}
    (hav : av = if ok = true then .tup [ofD ((T e).cells.getD 0 .other) (mGet m s (zeroD T e)), .bool (mHas m s)] else ofD ((T e).cells.getD 0 .other) (mGet m s (zeroD T e))) : StepOK P T U ρ' o w I φ av h := by
  subst hav
  obtain ⟨hu, hk, _, _⟩ := mapTy_ok hT ht
  obtain ⟨c, hc, ha, hr0⟩ := hsc
  have he := hm.ent id
  rw [hid] at he
  obtain ⟨r, es, clock, h1, hM⟩ := he
  obtain ⟨h2, _⟩ := hy
  have hv : ρ' y = .map (some r) := Option.some.inj (h2.symm.trans h1)
  have hzr := zero_run (P := P) hT hc ha w
  rcases look_run hu hk hM hs hzr ok with ⟨hno, hrun, _⟩ | ⟨hyes, e0, hm0, hk0, hrun⟩
  · have hg : mGet m s (zeroD T e) = zeroD T e := by
      have : m.find? (keyIs s) = none := by
        refine List.find?_eq_none.2 fun d hd hk => ?_
        have : mHas m s = true := mHas_iff.2 ⟨d, hd, keyIs_iff.1 hk⟩
        rw [hno] at this; cases this
      simp [mGet, this]
    rw [hg, hno]
    have hcr : RelC T w I φ (ofD ((T e).cells.getD 0 .other) (zeroD T e)) (zeroVal c) := by rw [hc]; exact ofD_rel hr0
    cases ok
    · exact .same hm (v := zeroVal c) (by simp [execOp, ho, hv, hz, hrun, Result.andThen]) (.of_C hcr)
    · exact .same hm (v := .tuple #[zeroVal c, .bool false]) (by simp [execOp, ho, hv, hz, hrun, Result.andThen]) ⟨_, rfl, .cons (.of_C hcr) (.cons (.of_C rfl) .nil)⟩
  · have hcr : RelC T w I φ (ofD ((T e).cells.getD 0 .other) (mGet m s (zeroD T e))) e0.val := ofD_rel (hM.vals rfl e0 hm0 s hk0 _)
    rw [hyes]
    cases ok
    · exact .same hm (v := e0.val) (by simp [execOp, ho, hv, hz, hrun, Result.andThen]) (.of_C hcr)
    · exact .same hm (v := .tuple #[e0.val, .bool true]) (by simp [execOp, ho, hv, hz, hrun, Result.andThen]) ⟨_, rfl, .cons (.of_C hcr) (.cons (.of_C rfl) .nil)⟩

/-- A row is taken out of a map. -/
theorem Mem.take (hm : Mem T U w I φ h) {id u e : Nat} {m : List D} {r : Nat} {es : Array MapEntry} {clock : Nat} {s : ByteArray} {v : Value} (hu : h u = .unborn) (hid : h id = .map e true m none) (hφ : φ id = some (.map (some r))) (hM : MapR T w I φ e true m none r es clock)
    (hv : (mHas m s = false ∧ v = .slice none 0 0 ∧ ∀ x ∈ es.toList, x.key ≠ .string s) ∨ ∃ e0 ∈ es.toList, e0.key = .string s ∧ e0.val = v) :
    Mem T U w I (setφ φ u v) ((h.upd id (.map e true m (some (s, u)))).upd u (.row e (mGet m s (.row [])).r false)) ∧ Ext U w I φ w I (setφ φ u v) := by
  have hne : u ≠ id := fun e1 => by rw [e1, hid] at hu; cases hu
  have hφu : φ u = none := by have := hm.ent u; rw [hu] at this; exact this
  have hown : OwnR T w I e (mGet m s (.row [])).r v := by
    rcases hv with ⟨hno, rfl, _⟩ | ⟨e0, h1, h2, rfl⟩
    · have : m.find? (keyIs s) = none := by
        refine List.find?_eq_none.2 fun d hd hk => ?_
        have : mHas m s = true := mHas_iff.2 ⟨d, hd, keyIs_iff.1 hk⟩
        rw [hno] at this; cases this
      simp only [mGet, this, D.r]
      exact ⟨[], .inl ⟨rfl, rfl, none, rfl⟩, fun i j hi => by simp at hi⟩
    · exact hM.rows rfl e0 h1 s h2 (fun _ _ ht => by cases ht)
  have hlive : live (h id) := by rw [hid]; trivial
  have hasv : ∀ b, blk v = some b → has w (h id) (.map (some r)) b := fun b hb => by
    rcases hv with ⟨_, rfl, _⟩ | ⟨e0, h1, h2, rfl⟩
    · simp [blk] at hb
    · rw [hid]; exact .inr ⟨e, m, none, r, es, clock, rfl, rfl, hM.at_, e0, h1, (fun _ _ ht => by cases ht), hb⟩
  have x : Ext U w I φ w I (setφ φ u v) := ⟨rfl, rfl, rfl, Nat.le_refl _, fun _ _ _ => rfl, fun _ h => h, fun _ _ => rfl, fun _ h => .inl h, fun j y hj => by
    unfold setφ
    split
    · subst_vars; rw [hφu] at hj; cases hj
    · exact hj⟩
  have hset : setφ φ u v u = some v := by simp [setφ]
  have hoth : ∀ j, j ≠ u → setφ φ u v j = φ j := fun j hj => by simp [setφ, hj]
  have hM2 : MapR T w I (setφ φ u v) e true m (some (s, u)) r es clock := by
    have hfr : ∀ x, free (some (s, u)) x → free none x := fun _ _ _ _ ht => by cases ht
    refine ⟨hM.at_, hM.size, hM.small, hM.stamped, hM.keys, hM.all, (fun h => by cases h), fun ho x hx s' hs' hf => hM.rows ho x hx s' hs' (hfr _ hf), fun ho x hx y hy h1 h2 => hM.apart ho x hx y hy (hfr _ h1) (hfr _ h2), fun ho x hx h1 => hM.off ho x hx (hfr _ h1), fun s' u' ht => ?_, hM.known⟩
    simp only [Option.some.injEq, Prod.mk.injEq] at ht
    obtain ⟨rfl, rfl⟩ := ht
    refine ⟨rfl, v, hset, fun x hx hk => ?_, fun hno => ?_⟩
    · rcases hv with ⟨_, _, hno⟩ | ⟨e0, h1, h2, rfl⟩
      · exact absurd hk (hno x hx)
      · rw [key_eq hM.stamped hx h1 (hk.trans h2.symm)]
    · rcases hv with ⟨_, rfl, _⟩ | ⟨e0, h1, h2, rfl⟩
      · rfl
      · obtain ⟨s', hs', _, hh⟩ := hM.keys e0 h1
        rw [h2] at hs'
        obtain rfl : s = s' := by simpa using hs'
        rw [hh] at hno; cases hno
  have hE : ∀ j, (h.upd id (.map e true m (some (s, u)))).upd u (.row e (mGet m s (.row [])).r false) j = if j = u then .row e (mGet m s (.row [])).r false else if j = id then .map e true m (some (s, u)) else h j := fun j => by
    by_cases h1 : j = u
    · subst h1; rw [Tab.upd_same, if_pos rfl]
    · rw [Tab.upd_other _ _ h1, if_neg h1]
      by_cases h2 : j = id
      · subst h2; rw [Tab.upd_same, if_pos rfl]
      · rw [Tab.upd_other _ _ h2, if_neg h2]
  -- what one has now, one had; the row taken out is the map's no more
  have hhas : ∀ j y b, live ((h.upd id (.map e true m (some (s, u)))).upd u (.row e (mGet m s (.row [])).r false) j) → setφ φ u v j = some y → has w ((h.upd id (.map e true m (some (s, u)))).upd u (.row e (mGet m s (.row [])).r false) j) y b →
      (j = u ∧ blk v = some b) ∨ (j ≠ u ∧ live (h j) ∧ φ j = some y ∧ has w (h j) y b ∧ (j = id → blk v ≠ some b)) := fun j y b hl hj hb => by
    rw [hE] at hl hb
    by_cases h1 : j = u
    · subst h1
      rw [if_pos rfl] at hb
      obtain rfl := Option.some.inj (hj.symm.trans hset)
      exact .inl ⟨rfl, has_row.1 hb⟩
    · rw [if_neg h1] at hl hb
      rw [hoth j h1] at hj
      by_cases h2 : j = id
      · subst h2
        rw [if_pos rfl] at hb
        obtain rfl := Option.some.inj (hj.symm.trans hφ)
        refine .inr ⟨h1, hlive, hφ, ?_, fun _ hbv => ?_⟩
        · rcases hb with hb | ⟨e', m', tk, r', es', clock', h3, h4, h5, x', hx', hf', hbx⟩
          · exact .inl hb
          · cases h3
            obtain rfl : r = r' := by simpa using h4
            rw [hid]
            exact .inr ⟨e, m, none, r, es', clock', rfl, rfl, h5, x', hx', (fun _ _ ht => by cases ht), hbx⟩
        · rcases hv with ⟨_, rfl, _⟩ | ⟨e0, h1', h2', rfl⟩
          · simp [blk] at hbv
          · rcases hb with hb | ⟨e', m', tk, r', es', clock', h3, h4, h5, x', hx', hf', hbx⟩
            · simp only [blk, Option.some.injEq] at hb
              subst hb
              exact hM.off rfl e0 h1' (fun _ _ ht => by cases ht) hbv
            · cases h3
              obtain rfl : r = r' := by simpa using h4
              have := hM.at_
              rw [this] at h5
              cases h5
              have hk := hM.apart rfl x' hx' e0 h1' (fun _ _ ht => by cases ht) (fun _ _ ht => by cases ht) b hbx hbv
              exact hf' s u rfl (hk.trans h2')
      · rw [if_neg h2] at hl hb
        exact .inr ⟨h1, hl, hj, hb, fun e1 => absurd e1 h2⟩
  refine ⟨⟨fun j => ?_, fun j y b hl hj hb => ?_, fun j j' y y' b hl hl' hj hj' hb hb' => ?_, hm.lt, hm.up⟩, x⟩
  · rw [hE]
    by_cases h1 : j = u
    · subst h1; rw [if_pos rfl]; exact ⟨v, hset, hown, (fun h => by cases h), hM.known rfl⟩
    · rw [if_neg h1]
      by_cases h2 : j = id
      · subst h2; rw [if_pos rfl]; exact ⟨r, es, clock, (hoth j h1).trans hφ, hM2⟩
      · rw [if_neg h2]; exact (hm.ent j).phi x (hoth j h1)
  · rcases hhas j y b hl hj hb with ⟨_, hbv⟩ | ⟨_, hl1, hj1, hb1, _⟩
    · exact hm.own id _ b hlive hφ (hasv b hbv)
    · exact hm.own j y b hl1 hj1 hb1
  · rcases hhas j y b hl hj hb with ⟨h1, hbv⟩ | ⟨h1, hl1, hj1, hb1, hn1⟩ <;> rcases hhas j' y' b hl' hj' hb' with ⟨h2, hbv'⟩ | ⟨h2, hl2, hj2, hb2, hn2⟩
    · rw [h1, h2]
    · have := hm.disj id j' _ _ b hlive hl2 hφ hj2 (hasv b hbv) hb2
      exact absurd hbv (hn2 this.symm)
    · have := hm.disj j id _ _ b hl1 hlive hj1 hφ hb1 (hasv b hbv')
      exact absurd hbv' (hn1 this)
    · exact hm.disj j j' y y' b hl1 hl2 hj1 hj2 hb1 hb2
theorem lookup_own (hT : TOK P T) (hm : Mem T U w I φ h) {t k e e' id u : Nat} {y z : Operand} {s : ByteArray} {m : List D} (hu : h u = .unborn) (ho : o.op = .lookup t y z false) (ht : mapTy T t = some (k, e)) (hs : s.size ≤ 9223372036854775807) (hse : slE T e = some e')
    (hid : h id = .map e' true m none) (hy : RelC T w I φ (.mapr id) (ρ' y)) (hz : ρ' z = .string s) :
    StepOK P T U ρ' o w I φ (.orow u) ((h.upd id (.map e' true m (some (s, u)))).upd u (.row e' (mGet m s (.row [])).r false)) := by
  obtain ⟨hut, hk, _, _⟩ := mapTy_ok hT ht
  have he := hm.ent id
  rw [hid] at he
  obtain ⟨r, es, clock, h1, hM⟩ := he
  obtain ⟨h2, _⟩ := hy
  have hv : ρ' y = .map (some r) := Option.some.inj (h2.symm.trans h1)
  obtain ⟨ha, hc, _⟩ := slE_ok hT hse
  have hzr := zero_run (P := P) hT hc ha w
  rcases look_run hut hk hM hs hzr false with ⟨hno, hrun, hnk⟩ | ⟨hyes, e0, hm0, hk0, hrun⟩
  · obtain ⟨m2, x2⟩ := hm.take (v := .slice none 0 0) hu hid h1 hM (.inl ⟨hno, rfl, hnk⟩)
    refine ⟨.value (.slice none 0 0), w, I, _, ?_, m2, x2, .inl ⟨_, rfl, .of_C (relC_orow ⟨_, _, _, rfl⟩)⟩⟩
    have hrun' : (Instr.lookup t (.map (some r)) (.string s) false).run P w = .ok (.slice none 0 0) w := hrun
    simp [execOp, ho, hv, hz, hrun', Result.andThen]
  · obtain ⟨m2, x2⟩ := hm.take (v := e0.val) hu hid h1 hM (.inr ⟨e0, hm0, hk0, rfl⟩)
    have hown := hM.rows rfl e0 hm0 s hk0 (fun _ _ ht => by cases ht)
    refine ⟨.value e0.val, w, I, _, ?_, m2, x2, .inl ⟨_, rfl, .of_C (relC_orow hown.hdr)⟩⟩
    have hrun' : (Instr.lookup t (.map (some r)) (.string s) false).run P w = .ok e0.val w := hrun
    simp [execOp, ho, hv, hz, hrun', Result.andThen]

/-- A store of a whole number, a truth value or a string. -/
theorem update_scal (hT : TOK P T) (hm : Mem T U w I φ h) {t k e id : Nat} {y z q : Operand} {s : ByteArray} {m : List D} {tk : Option (ByteArray × Nat)} {d : D} (ho : o.op = .mapUpdate t y z q) (ht : mapTy T t = some (k, e)) (hs : s.size ≤ 9223372036854775807)
    (hid : h id = .map e false m tk) (hy : RelC T w I φ (.mapr id) (ρ' y)) (hz : ρ' z = .string s) (hlen : m.length < 9223372036854775807) (hd : RepC T w I ((T e).cells.getD 0 .other) d (ρ' q)) (hsc : ∀ e', (T e).cells.getD 0 .other ≠ .sl e') :
    StepOK P T U ρ' o w I φ .undef (h.upd id (.map e false (mPut m s d) tk)) := by
  obtain ⟨hut, hk, _, _⟩ := mapTy_ok hT ht
  have he := hm.ent id
  rw [hid] at he
  obtain ⟨r, es, clock, h1, hM⟩ := he
  obtain ⟨h2, _⟩ := hy
  have hv : ρ' y = .map (some r) := Option.some.inj (h2.symm.trans h1)
  obtain ⟨es', clock', hrun, hst, hsz, hwho, hold, hnew⟩ := put_run hut hk hM hs (ρ' q)
  have hat : (setBlock w r (.map es' clock')).heap[r]? = some (.map es' clock') := heap_setBlock_same hM.at_ _
  have hM2 : ∀ (x : Ext U w I φ (setBlock w r (.map es' clock')) I φ), MapR T (setBlock w r (.map es' clock')) I φ e false (mPut m s d) tk r es' clock' := fun x => by
    refine ⟨hat, ?_, ?_, hst, fun x hx => ?_, fun s' hs' => ?_, fun _ y hy s' hs' z => ?_, (fun h => by cases h), (fun h => by cases h), (fun h => by cases h), fun s' u' ht' => absurd (hM.taken s' u' ht').1 (by simp), (fun h => by cases h)⟩
    · rw [len_put, hsz]; have := hM.size; split <;> omega
    · rw [len_put]; have := hM.small; split <;> omega
    · rcases hwho x hx with ⟨hx1, hne⟩ | ⟨hk1, _⟩
      · obtain ⟨s', hs', hz', hh⟩ := hM.keys x hx1
        exact ⟨s', hs', hz', mHas_put.2 (.inl hh)⟩
      · exact ⟨s, hk1, hs, mHas_put.2 (.inr rfl)⟩
    · by_cases e1 : s' = s
      · subst e1; exact hnew
      · obtain ⟨x, hx, hxk⟩ := hM.all s' ((mHas_put.1 hs').resolve_right e1)
        exact ⟨x, hold x hx (fun e2 => e1 (by rw [hxk] at e2; simpa using e2)), hxk⟩
    · rcases hwho y hy with ⟨hx1, hne⟩ | ⟨hk1, hv1⟩
      · rw [mGet_other (fun e1 => hne (by rw [hs', e1]))]
        exact (hM.vals rfl y hx1 s' hs' z).scalar0 hsc
      · rw [hk1] at hs'
        obtain rfl : s = s' := by simpa using hs'
        rw [mGet_same, hv1]
        exact hd.scalar0 hsc
  obtain ⟨m2, x2⟩ := hm.store (w' := setBlock w r (.map es' clock')) (id := id) (E := .map e false (mPut m s d) tk) (by rw [hid]; trivial) h1 rfl (grown_setBlock w r _) (fun x => ⟨r, es', clock', h1, hM2 x⟩) (fun b hb => by
      rcases hb with hb | ⟨_, _, _, _, _, _, hf, _⟩
      · exact .inl hb
      · cases hf)
  refine ⟨.skip, _, I, φ, ?_, m2, x2, .inr ⟨rfl, rfl⟩⟩
  simp [execOp, ho, hv, hz, hrun, Result.andThen]

/-- A row of one's own is put into a map. -/
theorem update_own (hT : TOK P T) (hm : Mem T U w I φ h) {t k e e' id q : Nat} {y z x : Operand} {s : ByteArray} {m l : List D} {f : Bool} {tk : Option (ByteArray × Nat)} (ho : o.op = .mapUpdate t y z x) (ht : mapTy T t = some (k, e)) (hs : s.size ≤ 9223372036854775807)
    (hid : h id = .map e' true m tk) (htk : ∀ s' u, tk = some (s', u) → s' = s) (hq : h q = .row e' l f) (hφq : φ q = some (ρ' x)) (hy : RelC T w I φ (.mapr id) (ρ' y)) (hz : ρ' z = .string s) (hlen : m.length < 9223372036854775807) :
    StepOK P T U ρ' o w I φ .undef ((h.upd q .dead).upd id (.map e' true (mPut m s (.row l)) none)) := by
  obtain ⟨hut, hk, _, _⟩ := mapTy_ok hT ht
  have he := hm.ent id
  rw [hid] at he
  obtain ⟨r, es, clock, h1, hM⟩ := he
  obtain ⟨h2, _⟩ := hy
  have hv : ρ' y = .map (some r) := Option.some.inj (h2.symm.trans h1)
  obtain ⟨es', clock', hrun, hst, hsz, hwho, hold, hnew⟩ := put_run hut hk hM hs (ρ' x)
  have hat : (setBlock w r (.map es' clock')).heap[r]? = some (.map es' clock') := heap_setBlock_same hM.at_ _
  have hqe := hm.ent q
  rw [hq] at hqe
  obtain ⟨vq, hvq, hown, _, hTe⟩ := hqe
  obtain rfl := Option.some.inj (hφq.symm.trans hvq)
  have hne : id ≠ q := fun e1 => by rw [e1, hq] at hid; cases hid
  have hlq : live (h q) := by rw [hq]; trivial
  have hli : live (h id) := by rw [hid]; trivial
  have hasq : ∀ b, blk (ρ' x) = some b → has w (h q) (ρ' x) b := fun b hb => .inl hb
  have hasr : has w (h id) (.map (some r)) r := .inl rfl
  have m0 := hm.kill (id := q) (by rw [hφq]; simp)
  -- the row that comes in lies apart from the map's block and from its rows
  have hqr : blk (ρ' x) ≠ some r := fun hb => hne (hm.disj id q _ _ r hli hlq h1 hφq hasr (hasq r hb))
  have hqf : ∀ y ∈ es.toList, free tk y.key → ∀ b, blk y.val = some b → blk (ρ' x) ≠ some b := fun y hy hf b hb hb' => by
    have : has w (h id) (.map (some r)) b := by rw [hid]; exact .inr ⟨e', m, tk, r, es, clock, rfl, rfl, hM.at_, y, hy, hf, hb⟩
    exact hne (hm.disj id q _ _ b hli hlq h1 hφq this (hasq b hb'))
  have hfree : ∀ y ∈ es.toList, y.key ≠ .string s → free tk y.key := fun y _ hne s' u ht' => by rw [htk s' u ht']; exact hne
  have hnone : ∀ key, free none key := fun _ _ _ ht => by cases ht
  have hg := grown_setBlock w r (.map es' clock')
  have hM2 : ∀ (x9 : Ext U w I φ (setBlock w r (.map es' clock')) I φ), MapR T (setBlock w r (.map es' clock')) I φ e' true (mPut m s (.row l)) none r es' clock' := fun x9 => by
    refine ⟨hat, ?_, ?_, hst, fun x hx => ?_, fun s' hs' => ?_, (fun h => by cases h), fun _ y hy s' hs' _ => ?_, fun _ y1 hy1 y2 hy2 _ _ b hb1 hb2 => ?_, fun _ y hy _ => ?_, (fun _ _ ht' => by cases ht'), fun _ => hTe⟩
    · rw [len_put, hsz]; have := hM.size; split <;> omega
    · rw [len_put]; have := hM.small; split <;> omega
    · rcases hwho x hx with ⟨hx1, hne⟩ | ⟨hk1, _⟩
      · obtain ⟨s', hs', hz', hh⟩ := hM.keys x hx1
        exact ⟨s', hs', hz', mHas_put.2 (.inl hh)⟩
      · exact ⟨s, hk1, hs, mHas_put.2 (.inr rfl)⟩
    · by_cases e1 : s' = s
      · subst e1; exact hnew
      · obtain ⟨x, hx, hxk⟩ := hM.all s' ((mHas_put.1 hs').resolve_right e1)
        exact ⟨x, hold x hx (fun e2 => e1 (by rw [hxk] at e2; simpa using e2)), hxk⟩
    · rcases hwho y hy with ⟨hx1, hne⟩ | ⟨hk1, hv1⟩
      · rw [mGet_other (fun e1 => hne (by rw [hs', e1]))]
        exact (hM.rows rfl y hx1 s' hs' (hfree y hx1 hne)).grown x9 hg (fun b hb e2 => hM.off rfl y hx1 (hfree y hx1 hne) (by rw [hb]; exact e2.symm))
      · rw [hk1] at hs'
        obtain rfl : s = s' := by simpa using hs'
        rw [mGet_same, hv1]
        exact hown.grown x9 hg (fun b hb e2 => hqr (by rw [hb]; exact e2.symm))
    · rcases hwho y1 hy1 with ⟨hx1, hne1⟩ | ⟨hk1, hv1⟩ <;> rcases hwho y2 hy2 with ⟨hx2, hne2⟩ | ⟨hk2, hv2⟩
      · exact hM.apart rfl y1 hx1 y2 hx2 (hfree y1 hx1 hne1) (hfree y2 hx2 hne2) b hb1 hb2
      · rw [hv2] at hb2; exact absurd hb2 (hqf y1 hx1 (hfree y1 hx1 hne1) b hb1)
      · rw [hv1] at hb1; exact absurd hb1 (hqf y2 hx2 (hfree y2 hx2 hne2) b hb2)
      · rw [hk1, hk2]
    · rcases hwho y hy with ⟨hx1, hne1⟩ | ⟨hk1, hv1⟩
      · exact hM.off rfl y hx1 (hfree y hx1 hne1)
      · rw [hv1]; exact hqr
  have hid0 : (h.upd q .dead) id = .map e' true m tk := by rw [Tab.upd_other _ _ hne]; exact hid
  obtain ⟨m2, x2⟩ := m0.storeG (w' := setBlock w r (.map es' clock')) (id := id) (E := .map e' true (mPut m s (.row l)) none) (by rw [hid0]; trivial) h1 rfl hg (fun x => ⟨r, es', clock', h1, hM2 x⟩) (fun b hb => by
    have hb0 : has w (h id) (.map (some r)) b ∨ blk (ρ' x) = some b := by
      rcases hb with hb | ⟨e9, m9, tk9, r9, es9, clock9, h3, h4, h5, y, hy, hf, hbx⟩
      · exact .inl (.inl hb)
      · cases h3
        obtain rfl : r = r9 := by simpa using h4
        rw [hat] at h5
        cases h5
        rcases hwho y hy with ⟨hx1, hne1⟩ | ⟨hk1, hv1⟩
        · left; rw [hid]; exact .inr ⟨e', m, tk, r, es, clock, rfl, rfl, hM.at_, y, hx1, hfree y hx1 hne1, hbx⟩
        · right; rw [hv1] at hbx; exact hbx
    have hdj : ∀ id' v', id' ≠ id → live ((h.upd q .dead) id') → φ id' = some v' → ¬ has w ((h.upd q .dead) id') v' b := fun id' v' hne' hl' hv' hbv => by
      by_cases h9 : id' = q
      · subst h9; rw [Tab.upd_same] at hl'; exact hl'
      · rw [Tab.upd_other _ _ h9] at hl' hbv
        rcases hb0 with hb0 | hb0
        · exact hne' (hm.disj id' id v' _ b hl' hli hv' h1 hbv hb0)
        · exact h9 (hm.disj id' q v' _ b hl' hlq hv' hφq hbv (hasq b hb0))
    rcases hb0 with hb0 | hb0
    · exact ⟨(hm.own id _ b hli h1 hb0).1, (hm.own id _ b hli h1 hb0).2, hdj⟩
    · exact ⟨(hm.own q _ b hlq hφq (hasq b hb0)).1, (hm.own q _ b hlq hφq (hasq b hb0)).2, hdj⟩)
  refine ⟨.skip, _, I, φ, ?_, m2, x2, .inr ⟨rfl, rfl⟩⟩
  simp [execOp, ho, hv, hz, hrun, Result.andThen]

/-- A row that was taken out is put back. -/
theorem Mem.settle (hm : Mem T U w I φ h) (id : Nat) : Mem T U w I φ (settle h id) := by
  unfold Sx.settle
  split
  case h_2 => exact hm
  rename_i e m s u hid
  split
  case h_2 => exact hm
  rename_i e' l f hu
  cases hb : Nat.beq e e' <;> simp only [cond_true, cond_false]
  · exact hm
  obtain rfl := Nat.eq_of_beq_eq_true hb
  have he := hm.ent id
  rw [hid] at he
  obtain ⟨r, es, clock, h1, hM⟩ := he
  have hue := hm.ent u
  rw [hu] at hue
  obtain ⟨v, hv, hown, _, hTe⟩ := hue
  obtain ⟨_, v', hv', hsame, hnil⟩ := hM.taken s u rfl
  obtain rfl := Option.some.inj (hv.symm.trans hv')
  have hne : id ≠ u := fun e1 => by rw [e1, hu] at hid; cases hid
  have hlu : live (h u) := by rw [hu]; trivial
  have hli : live (h id) := by rw [hid]; trivial
  have hvr : blk v ≠ some r := fun hb => hne (hm.disj id u _ _ r hli hlu h1 hv (.inl rfl) (.inl hb))
  have hvf : ∀ y ∈ es.toList, free (some (s, u)) y.key → ∀ b, blk y.val = some b → blk v ≠ some b := fun y hy hf b hb hb' => by
    have : has w (h id) (.map (some r)) b := by rw [hid]; exact .inr ⟨e, m, _, r, es, clock, rfl, rfl, hM.at_, y, hy, hf, hb⟩
    exact hne (hm.disj id u _ _ b hli hlu h1 hv this (.inl hb'))
  have hfree : ∀ y : MapEntry, y.key ≠ .string s → free (some (s, u)) y.key := fun y hne s' u' ht => by
    simp only [Option.some.injEq, Prod.mk.injEq] at ht
    rw [← ht.1]; exact hne
  let m' := bif mHas m s then mPut m s (.row l) else m
  have hhas : ∀ s', mHas m' s' = mHas m s' := fun s' => by
    simp only [m']
    cases hh : mHas m s
    · rfl
    · simp only [cond_true]
      rw [Bool.eq_iff_iff, mHas_put]
      exact ⟨fun h => h.elim (fun h => h) (fun e => e ▸ hh), .inl⟩
  have hlen : m'.length = m.length := by
    simp only [m']
    cases hh : mHas m s
    · rfl
    · simp [len_put, hh]
  have hget : ∀ s', s' ≠ s → ∀ z, mGet m' s' z = mGet m s' z := fun s' hn z => by
    simp only [m']
    cases hh : mHas m s
    · rfl
    · simp [mGet_other hn]
  have hM2 : MapR T w I φ e true m' none r es clock := by
    refine ⟨hM.at_, by rw [hlen]; exact hM.size, by rw [hlen]; exact hM.small, hM.stamped, fun x hx => ?_, fun s' hs' => hM.all s' (by rw [← hhas]; exact hs'), (fun h => by cases h), fun _ y hy s' hs' _ => ?_, fun _ y1 hy1 y2 hy2 _ _ b hb1 hb2 => ?_, fun _ y hy _ => ?_, (fun _ _ ht' => by cases ht'), fun _ => hTe⟩
    · obtain ⟨s', a, b, c⟩ := hM.keys x hx
      exact ⟨s', a, b, by rw [hhas]; exact c⟩
    · by_cases e1 : s' = s
      · subst e1
        have hyes : mHas m s' = true := by
          obtain ⟨s2, a, _, c⟩ := hM.keys y hy
          rw [hs'] at a
          obtain rfl : s' = s2 := by simpa using a
          exact c
        have : mGet m' s' (.row []) = .row l := by simp only [m', hyes, cond_true, mGet_same]
        rw [this, hsame y hy hs']
        exact hown
      · rw [hget s' e1]
        exact hM.rows rfl y hy s' hs' (hfree y (by rw [hs']; simpa using e1))
    · by_cases k1 : y1.key = .string s <;> by_cases k2 : y2.key = .string s
      · rw [k1, k2]
      · rw [hsame y1 hy1 k1] at hb1; exact absurd hb1 (hvf y2 hy2 (hfree y2 k2) b hb2)
      · rw [hsame y2 hy2 k2] at hb2; exact absurd hb2 (hvf y1 hy1 (hfree y1 k1) b hb1)
      · exact hM.apart rfl y1 hy1 y2 hy2 (hfree y1 k1) (hfree y2 k2) b hb1 hb2
    · by_cases k1 : y.key = .string s
      · rw [hsame y hy k1]; exact hvr
      · exact hM.off rfl y hy (hfree y k1)
  have m0 := hm.kill (id := u) (by rw [hv]; simp)
  have hid0 : (h.upd u .dead) id = .map e true m (some (s, u)) := by rw [Tab.upd_other _ _ hne]; exact hid
  have m1 := m0.kill (id := id) (by rw [h1]; simp)
  obtain ⟨m2, _⟩ := m1.add (id := id) (v := .map (some r)) (E := .map e true m' none) (.inr h1) (by rw [setφ_self h1]; exact ⟨r, es, clock, h1, hM2⟩) (fun _ b hb => by
    have hb0 : has w (h id) (.map (some r)) b ∨ blk v = some b := by
      rcases hb with hb | ⟨e9, m9, tk9, r9, es9, clock9, h3, h4, h5, y, hy, hf, hbx⟩
      · exact .inl (.inl hb)
      · cases h3
        obtain rfl : r = r9 := by simpa using h4
        rw [hM.at_] at h5
        cases h5
        by_cases k1 : y.key = .string s
        · right; rw [hsame y hy k1] at hbx; exact hbx
        · left; rw [hid]; exact .inr ⟨e, m, _, r, es, clock, rfl, rfl, hM.at_, y, hy, hfree y k1, hbx⟩
    have hdj : ∀ id' v', id' ≠ id → live (((h.upd u .dead).upd id .dead) id') → φ id' = some v' → ¬ has w (((h.upd u .dead).upd id .dead) id') v' b := fun id' v' hne' hl' hv' hbv => by
      rw [Tab.upd_other _ _ hne'] at hl' hbv
      by_cases h9 : id' = u
      · subst h9; rw [Tab.upd_same] at hl'; exact hl'
      · rw [Tab.upd_other _ _ h9] at hl' hbv
        rcases hb0 with hb0 | hb0
        · exact hne' (hm.disj id' id v' _ b hl' hli hv' h1 hbv hb0)
        · exact h9 (hm.disj id' u v' _ b hl' hlu hv' hv hbv (.inl hb0))
    rcases hb0 with hb0 | hb0
    · exact ⟨(hm.own id _ b hli h1 hb0).1, (hm.own id _ b hli h1 hb0).2, hdj⟩
    · exact ⟨(hm.own u _ b hlu hv (.inl hb0)).1, (hm.own u _ b hlu hv (.inl hb0)).2, hdj⟩)
  rw [setφ_self h1] at m2
  have : ((h.upd u .dead).upd id .dead).upd id (.map e true m' none) = (h.upd u .dead).upd id (.map e true m' none) := by
    funext j; by_cases hj : j = id
    · subst hj; simp [Tab.upd_same]
    · simp [Tab.upd_other _ _ hj]
  rw [this] at m2
  exact m2
theorem Mem.settleA : ∀ (a : Asg) {h : Tab} (_ : Mem T U w I φ h), Mem T U w I φ (settleA h a)
  | [], _, hm => hm
  | p :: l, h, hm => by
    unfold Sx.settleA
    refine Mem.settleA l ?_
    split
    · exact hm.settle _
    · exact hm
end
end Go.Sx
