/- What a law's arguments read as: data, and what is known of them. -/
import Derived.Test.YtlhbonpdlghlbaaDoorSxEnv
import Derived.SizedLaws
import Derived.ChangeSlices
import Derived.OpenShut
set_option linter.unusedVariables false
set_option linter.unusedSimpArgs false
namespace Go.Sx
open Go.RowKit Go.ChangeShapes Go.WideShapes

/-- What is known of an argument's cell: numbers that fit their kinds, sizes that a memory holds. -/
inductive GoodC (T : Nat → TyI) : CT → D → Prop
  | int (k : IntKind) (n : Int) (h : (Lit.int k n).wf = true) : GoodC T (.int k) (.int n)
  | bool (b : Bool) : GoodC T .bool (.bool b)
  | str (s : ByteArray) (h : s.size ≤ 140737488351232) : GoodC T .str (.str s)
  | sl (e : Nat) (l : List D) (h : l.length * (T e).bytes ≤ 140737488351232) (ha : (T e).agg = true → ∀ d ∈ l, ∃ m, d = .agg m ∧ m.length = (T e).cells.length)
      (hc : ∀ d ∈ l, ∀ j, j < (T e).cells.length → GoodC T ((T e).cells.getD j .other) (cellD T e d j)) : GoodC T (.sl e) (.row l)

def tiles (T : Nat → TyI) (S : List Nat) : List (Nat × Nat) → Nat → Nat → Bool
  | [], off, n => Nat.beq off n
  | p :: l, off, n => Nat.beq p.1 off && (S.any (Nat.beq p.2) && tiles T S l (off + (T p.2).cells.length) n)
/-- A type whose values can be read as data. -/
def opnT (T : Nat → TyI) (S : List Nat) (t : Nat) : Bool := kn T t && (match (T t).agg with
  | false => match (T t).cells with
    | [.int _] => true
    | [.bool] => true
    | [.str] => true
    | [.sl e] => S.any (Nat.beq e)
    | _ => false
  | true => tiles T S (T t).fields 0 (T t).cells.length)
def openS (T : Nat → TyI) (S : List Nat) : Bool := S.all (opnT T S)

section
variable {P : Program} {T : Nat → TyI}
theorem any_mem {S : List Nat} {t : Nat} (h : S.any (Nat.beq t) = true) : t ∈ S := by
  obtain ⟨x, hx, hb⟩ := List.any_eq_true.1 h
  rw [Nat.eq_of_beq_eq_true hb]; exact hx
theorem cellsOf_eq (hT : TOK P T) {t : Nat} (h : (T t).cells ≠ []) : P.cellsOf t = (T t).cells.length ∧ P.bytesOf t = (T t).bytes := by
  obtain ⟨i, z, hi, hs, hb, _⟩ := bytes_info hT h
  simp [Program.cellsOf, Program.bytesOf, hi, hs, hb]
theorem weights_all {H : Type} {e : TypeId} : ∀ {l : List (DataW H)} {x : DataW H} {n : Nat}, x ∈ l → n ∈ x.weights P e → n ∈ DataW.weightsAll P e l
  | y :: l, x, n, hx, hn => by
    simp only [DataW.weightsAll, List.mem_append]
    rcases List.mem_cons.1 hx with rfl | hx
    · exact .inl hn
    · exact .inr (weights_all hx hn)
theorem choose_list {α : Type} {p : Nat → α → Prop} : ∀ (n : Nat), (∀ i, i < n → ∃ a, p i a) → ∃ l : List α, l.length = n ∧ ∀ (i : Nat) (a : α), l[i]? = some a → p i a
  | 0, _ => ⟨[], rfl, fun i a h => by simp at h⟩
  | n + 1, h => by
    obtain ⟨l, hl, hp⟩ := choose_list n (fun i hi => h i (by omega))
    obtain ⟨a, ha⟩ := h n (by omega)
    refine ⟨l ++ [a], by simp [hl], fun i b hb => ?_⟩
    by_cases hi : i < l.length
    · rw [List.getElem?_append_left hi] at hb
      exact hp i b hb
    · have hi2 : i = l.length := by
        have := (List.getElem?_eq_some_iff.1 hb).1
        simp at this
        omega
      subst hi2
      have : a = b := by simpa using hb
      subst this
      rw [hl]
      exact ha

/-- Cells read as data. -/
def Reads1 (T : Nat → TyI) (W : World) (cts : List CT) (ds : List D) (cs : List Value) : Prop :=
  ds.length = cts.length ∧ cs.length = cts.length ∧ ∀ (j : Nat) (c : CT) (d : D) (v : Value), cts[j]? = some c → ds[j]? = some d → cs[j]? = some v → RepC T W (fun b => b < W.heap.size) c d v ∧ GoodC T c d
theorem Reads1.one {W : World} {c : CT} {d : D} {v : Value} (h : RepC T W (fun b => b < W.heap.size) c d v) (g : GoodC T c d) : Reads1 T W [c] [d] [v] := by
  refine ⟨rfl, rfl, fun j c' d' v' h1 h2 h3 => ?_⟩
  cases j with
  | zero => simp at h1 h2 h3; subst h1 h2 h3; exact ⟨h, g⟩
  | succ j => simp at h1
theorem Reads1.append {W : World} {a a' : List CT} {b b' : List D} {c c' : List Value} (h : Reads1 T W a b c) (h' : Reads1 T W a' b' c') : Reads1 T W (a ++ a') (b ++ b') (c ++ c') := by
  obtain ⟨h1, h2, h3⟩ := h
  obtain ⟨k1, k2, k3⟩ := h'
  refine ⟨by simp [h1, k1], by simp [h2, k2], fun j x d v e1 e2 e3 => ?_⟩
  by_cases hj : j < a.length
  · rw [List.getElem?_append_left hj] at e1
    rw [List.getElem?_append_left (by omega)] at e2 e3
    exact h3 j x d v e1 e2 e3
  · rw [List.getElem?_append_right (by omega)] at e1 e2 e3
    rw [h1] at e2
    rw [h2] at e3
    exact k3 _ x d v e1 e2 e3

variable {H : Type} {enc : TypeId × Value → H} {W : World}
theorem fields_read {S : List Nat} (hT : TOK P T) {n N : Nat} {cts : List CT} {cs : List Value} (hN : cts.length = N) (hcs : cs.length = N)
    (ih : ∀ (t : Nat) (cs : List Value) (x : DataW H × List MemPlace), t ∈ S → DataW.trod enc P W 0 (fun _ => true) true n t cs = some x → (∀ m ∈ x.1.weights P t, m ≤ reachBytes) → ∃ ds, Reads1 T W (T t).cells ds cs) :
    ∀ (fl : List Field) (xs : List (DataW H × List MemPlace)) (off : Nat), tiles T S (fl.map fun f => (f.offset, f.type)) off N = true → xs.length = fl.length → (∀ f ∈ fl, (T f.type).cells ≠ [] ∧ (T f.type).cells = (cts.drop f.offset).take (T f.type).cells.length ∧ f.offset + (T f.type).cells.length ≤ N) →
      (∀ (i : Nat) (f : Field), fl[i]? = some f → DataW.trod enc P W 0 (fun _ => true) true n f.type ((cs.drop f.offset).take (P.cellsOf f.type)) = xs[i]?) → (∀ m ∈ DataW.weightsEach P (fl.map (·.type)) (xs.map (·.1)), m ≤ reachBytes) → ∃ ds, Reads1 T W (cts.drop off) ds (cs.drop off)
  | [], xs, off, ht, _, _, _, _ => by
    have := Nat.eq_of_beq_eq_true ht
    refine ⟨[], ?_, ?_, fun j c d v h1 => ?_⟩
    · simp; omega
    · simp; omega
    · rw [List.drop_eq_nil_of_le (by omega)] at h1; simp at h1
  | f :: fl, [], off, _, hx, _, _, _ => by simp at hx
  | f :: fl, x :: xs, off, ht, hx, hf, hr, hw => by
    simp only [List.map_cons, tiles, Bool.and_eq_true] at ht
    obtain ⟨ho, hS, ht⟩ := ht
    have ho := Nat.eq_of_beq_eq_true ho
    obtain ⟨hne, hcells, hle⟩ := hf f (by simp)
    have h1 := hr 0 f rfl
    rw [(cellsOf_eq hT hne).1] at h1
    obtain ⟨d1, hd1⟩ := ih f.type _ x (any_mem hS) h1 (fun m hm => hw m (by simp [DataW.weightsEach, hm]))
    obtain ⟨d2, hd2⟩ := fields_read hT hN hcs ih fl xs (off + (T f.type).cells.length) ht (by simpa using hx) (fun g hg => hf g (by simp [hg])) (fun i g hg => hr (i + 1) g (by simpa using hg)) (fun m hm => hw m (by simp only [List.map_cons, DataW.weightsEach, List.mem_append]; exact .inr hm))
    refine ⟨d1 ++ d2, ?_⟩
    have e1 : cts.drop off = (T f.type).cells ++ cts.drop (off + (T f.type).cells.length) := by
      rw [← List.drop_drop, ← ho]
      conv => lhs; rw [← List.take_append_drop (T f.type).cells.length (cts.drop f.offset)]
      rw [← hcells]
    have e2 : cs.drop off = (cs.drop f.offset).take (T f.type).cells.length ++ cs.drop (off + (T f.type).cells.length) := by
      rw [← List.drop_drop, ← ho, List.take_append_drop]
    rw [e1, e2]
    exact hd1.append hd2

theorem read_gen (hT : TOK P T) {S : List Nat} (hS : openS T S = true) : ∀ (fuel : Nat) (t : Nat) (cs : List Value) (x : DataW H × List MemPlace), t ∈ S → DataW.trod enc P W 0 (fun _ => true) true fuel t cs = some x → (∀ n ∈ x.1.weights P t, n ≤ reachBytes) → ∃ ds, Reads1 T W (T t).cells ds cs
  | 0, t, cs, x, _, h, _ => by simp [DataW.trod] at h
  | n + 1, t, cs, x, ht, h, hw => by
    have ho := List.all_eq_true.1 hS t ht
    simp only [opnT, Bool.and_eq_true] at ho
    obtain ⟨hk, ho⟩ := ho
    have hne := kn_iff.1 hk
    cases ha : (T t).agg <;> rw [ha] at ho <;> simp only [] at ho
    · split at ho
      · rename_i k hc
        obtain ⟨d, hu, hd⟩ := desc_of hT hc ha
        have : d = .int k := by cases d <;> simp [descOK, ha, hc] at hd <;> rw [hd]
        subst this
        obtain ⟨m, rfl, rfl, hwf⟩ := DataW.trod_int hu h
        rw [hc]
        exact ⟨[.int m], .one (.int k (.int m)) (.int k m hwf)⟩
      · rename_i hc
        obtain ⟨d, hu, hd⟩ := desc_of hT hc ha
        have : d = .bool := by cases d <;> simp [descOK, ha, hc] at hd <;> rfl
        subst this
        obtain ⟨m, rfl, rfl⟩ := DataW.trod_bool hu h
        rw [hc]
        exact ⟨[.bool m], .one (.bool (.bool m)) (.bool m)⟩
      · rename_i hc
        obtain ⟨d, hu, hd⟩ := desc_of hT hc ha
        have : d = .string := by cases d <;> simp [descOK, ha, hc] at hd <;> rfl
        subst this
        obtain ⟨s, rfl, rfl, _⟩ := DataW.trod_string hu h
        rw [hc]
        refine ⟨[.str s], .one (.str (.str s)) (.str s ?_)⟩
        have := hw s.data.toList.length (by simp [DataW.weights])
        unfold reachBytes at this
        have h2 : s.data.toList.length = s.size := by simp
        omega
      · rename_i e hc
        have heS := any_mem ho
        have hek : (T e).cells ≠ [] := by
          have := List.all_eq_true.1 hS e heS
          simp only [opnT, Bool.and_eq_true] at this
          exact kn_iff.1 this.1
        obtain ⟨hce, hbe⟩ := cellsOf_eq hT hek
        obtain ⟨d, hu, hd⟩ := desc_of hT hc ha
        have : d = .slice e := by cases d <;> simp [descOK, ha, hc] at hd <;> rw [hd]
        subst this
        rw [hc]
        rcases DataW.trod_slice hu h with ⟨rfl, rfl⟩ | ⟨a, len, cap, elems, rest, n', hn', rfl, rfl, hb, hl, hm, hlen, hel, hsp, hns⟩
        · exact ⟨[.row []], .one (.nil e (.row []) none 0 rfl) (.sl e [] (by simp) (fun _ d hd => by simp at hd) (fun d hd => by simp at hd))⟩
        · obtain rfl : n = n' := by omega
          rw [hce] at hel
          have hmem : ∀ (i : Nat) (y : DataW H × List MemPlace), elems[i]? = some y → y.1 ∈ elems.map (·.1) := fun i y hy => List.mem_map.2 ⟨y, List.mem_of_getElem? hy, rfl⟩
          have hw1 := hw (((elems.map (·.1)).length + (rest.map (·.1)).length) * P.bytesOf e) (by simp [DataW.weights, hu])
          -- the elements
          obtain ⟨l, hll, hp⟩ := choose_list (p := fun i (d : D) => ∃ (c : List Value) (ds : List D), Reads1 T W (T e).cells ds c ∧ d = (if (T e).agg = true then .agg ds else ds.getD 0 (.int 0)) ∧ ∀ j, j < (T e).cells.length → W.cell? ((a.add (i * (T e).cells.length)).add j) = c[j]?) len (fun i hi => by
            have h1 := hel i hi
            obtain ⟨y, hy⟩ : ∃ y, elems[i]? = some y := ⟨_, List.getElem?_eq_getElem (by omega)⟩
            rw [hy, Option.bind_eq_some_iff] at h1
            obtain ⟨c, hcs, hr⟩ := h1
            obtain ⟨_, hcl, hcell⟩ := World.cells?_some hcs
            obtain ⟨ds, hds⟩ := read_gen hT hS n e c y heS hr (fun m hm => hw m (by
              simp only [DataW.weights, hu, List.mem_cons, List.mem_append]
              exact .inr (.inl (weights_all (hmem i y hy) hm))))
            exact ⟨_, c, ds, hds, rfl, hcell⟩)
          have hgood : GoodC T (.sl e) (.row l) := by
            refine .sl e l ?_ (fun hag d hd => ?_) (fun d hd j hj => ?_)
            · rw [hll, ← hlen]
              simp only [List.length_map, hbe] at hw1
              unfold reachBytes at hw1
              exact Nat.le_trans (Nat.mul_le_mul_right _ (Nat.le_add_right _ _)) (by omega)
            · obtain ⟨i, hi⟩ := List.getElem?_of_mem hd
              obtain ⟨c, ds, h1, h2, _⟩ := hp i d hi
              rw [if_pos hag] at h2
              exact ⟨ds, h2, h1.1⟩
            · obtain ⟨i, hi⟩ := List.getElem?_of_mem hd
              obtain ⟨c, ds, h1, h2, _⟩ := hp i d hi
              have e1 : (T e).cells[j]? = some ((T e).cells[j]) := List.getElem?_eq_getElem hj
              have e2 : ds[j]? = some (ds[j]'(by rw [h1.1]; exact hj)) := List.getElem?_eq_getElem _
              have e3 : c[j]? = some (c[j]'(by rw [h1.2.1]; exact hj)) := List.getElem?_eq_getElem _
              have hg := (h1.2.2 j _ _ _ e1 e2 e3).2
              have hcd : cellD T e d j = ds[j]'(by rw [h1.1]; exact hj) := by
                subst h2
                unfold cellD
                cases hag : (T e).agg
                · have hj0 : j = 0 := by
                    obtain ⟨_, _, c0, _, _, _, _, hc0, _⟩ := (hT e hek).cell hag
                    rw [hc0] at hj; simpa using hj
                  subst hj0
                  simp [List.getD_eq_getElem?_getD, e2]
                · simp [D.c, List.getD_eq_getElem?_getD, e2]
              rw [hcd, List.getD_eq_getElem?_getD, e1]
              exact hg
          refine ⟨[.row l], .one ?_ hgood⟩
          by_cases hz : len = 0
          · subst hz
            exact .nil e (.row l) (some a) cap (List.eq_nil_of_length_eq_zero hll)
          · have hepos : 0 < (T e).cells.length := List.length_pos_iff.2 hek
            -- the first cell shows that the address is a plain one
            obtain ⟨hsp0, hblk⟩ : a.spot = none ∧ a.block < W.heap.size := by
              obtain ⟨c, ds, h1, _, h3⟩ := hp 0 l[0] (List.getElem?_eq_getElem (by omega))
              have h4 := h3 0 hepos
              rw [List.getElem?_eq_getElem (by rw [h1.2.1]; exact hepos)] at h4
              simp only [Nat.zero_mul, Addr.add, if_true] at h4
              unfold World.cell? at h4
              split at h4
              · rename_i hh
                refine ⟨?_, (Array.getElem?_eq_some_iff.1 hh).1⟩
                cases hs : a.spot with
                | none => rfl
                | some q => rw [hs] at h4; simp at h4
              · cases h4
            obtain ⟨b, off, sp⟩ := a
            simp only at hsp0 hblk
            subst hsp0
            refine .sl e (.row l) b off len cap (fun i j => ((W.cell? ⟨b, off + (i * (T e).cells.length + j), none⟩).getD undef)) hll.symm hblk hl (fun i j hi hj => ?_) (fun i j hi hj => ?_)
            all_goals
              obtain ⟨c, ds, h1, h2, h3⟩ := hp i l[i] (List.getElem?_eq_getElem (by omega))
              have h4 := h3 j hj
              rw [List.getElem?_eq_getElem (by rw [h1.2.1]; exact hj), add_off, add_off, Nat.add_assoc] at h4
            · rw [h4]; rfl
            · rw [h4]
              have e1 : (T e).cells[j]? = some ((T e).cells[j]) := List.getElem?_eq_getElem hj
              have e2 : ds[j]? = some (ds[j]'(by rw [h1.1]; exact hj)) := List.getElem?_eq_getElem _
              have e3 : c[j]? = some (c[j]'(by rw [h1.2.1]; exact hj)) := List.getElem?_eq_getElem _
              have hg := (h1.2.2 j _ _ _ e1 e2 e3).1
              have hcd : cellD T e ((D.row l).r.getD i (.int 0)) j = ds[j]'(by rw [h1.1]; exact hj) := by
                have : (D.row l).r.getD i (.int 0) = l[i] := by simp [D.r, List.getD_eq_getElem?_getD, List.getElem?_eq_getElem (show i < l.length by omega)]
                rw [this, h2]
                unfold cellD
                cases hag : (T e).agg
                · have hj0 : j = 0 := by
                    obtain ⟨_, _, c0, _, _, _, _, hc0, _⟩ := (hT e hek).cell hag
                    rw [hc0] at hj; simpa using hj
                  subst hj0
                  simp [List.getD_eq_getElem?_getD, e2]
                · simp [D.c, List.getD_eq_getElem?_getD, e2]
              rw [hcd, List.getD_eq_getElem?_getD, e1]
              exact hg
      · cases ho
    · obtain ⟨i, fs, hi, hu, hs, _, hfs⟩ := (hT t hne).struct ha (by
        intro e
        rw [e] at ho
        have := Nat.eq_of_beq_eq_true ho
        exact hne (List.eq_nil_of_length_eq_zero this.symm))
      obtain ⟨xs, n', hn', rfl, hl, hxl, hr⟩ := DataW.trod_struct hu h
      obtain rfl : n = n' := by omega
      rw [(cellsOf_eq hT hne).1] at hl
      rw [hfs] at ho
      have := fields_read (S := S) (cts := (T t).cells) (cs := cs) hT rfl hl (fun t cs x h1 h2 h3 => read_gen hT hS n t cs x h1 h2 h3) fs.toList xs 0 ho (by simpa using hxl) (fun f hf => by
        obtain ⟨i, hi⟩ := List.getElem?_of_mem hf
        exact (hT t hne).fields i f.offset f.type (by rw [hfs, List.getElem?_map, hi]; rfl)) (fun i f hf => hr i f (by simpa using hf)) (fun m hm => hw m (by simpa [DataW.weights, hu] using hm))
      simpa using this

/-! ### Arguments -/
def cellSh : CT → RSh
  | .int k => .int k
  | .bool => .bool
  | .str => .str
  | .sl e => .seen e
  | _ => .bool
def sigT (T : Nat → TyI) (t : Nat) : RSh := bif (T t).agg then .agg ((T t).cells.map cellSh) else cellSh ((T t).cells.getD 0 .other)
theorem cellSh_rel {I : Nat → Prop} {c : CT} {d : D} {v : Value} (h : RepC T W I c d v) (pre post : List D) : RelC T W I noφ (unR (cellSh c) (pre ++ d :: post) pre.length).1 v ∧ (unR (cellSh c) (pre ++ d :: post) pre.length).2 = pre.length + 1 ∧ ∀ l, (unR (cellSh c) (pre ++ d :: post) pre.length).1 ≠ .agg l := by
  cases h with
  | int k => simp only [cellSh, unR, gt_at]; exact ⟨rfl, trivial, (fun _ h => by cases h)⟩
  | bool => simp only [cellSh, unR, gt_at]; exact ⟨rfl, trivial, (fun _ h => by cases h)⟩
  | str => simp only [cellSh, unR, gt_at]; exact ⟨rfl, trivial, (fun _ h => by cases h)⟩
  | nil e _ a cap h => simp only [cellSh, unR, gt_at]; exact ⟨.nil e _ a cap h, trivial, (fun _ h => by cases h)⟩
  | sl e _ b off n cap u hn hb hc hl hr => simp only [cellSh, unR, gt_at]; exact ⟨.sl e _ b off n cap u hn hb hc hl hr, trivial, (fun _ h => by cases h)⟩
theorem cellsSh_rel : ∀ {cts : List CT} {ds : List D} {cs : List Value} (_ : Reads1 T W cts ds cs) (pre post : List D), All2 (RelC T W (fun b => b < W.heap.size) noφ) (unRL (cts.map cellSh) (pre ++ ds ++ post) pre.length).1 cs ∧ (unRL (cts.map cellSh) (pre ++ ds ++ post) pre.length).2 = pre.length + ds.length
  | [], [], [], _, pre, post => ⟨.nil, rfl⟩
  | c :: cts, d :: ds, v :: cs, h, pre, post => by
    obtain ⟨h1, h2, h3⟩ := h
    have h0 := (h3 0 c d v rfl rfl rfl).1
    obtain ⟨k1, k2, _⟩ := cellSh_rel h0 pre (ds ++ post)
    obtain ⟨m1, m2⟩ := cellsSh_rel (cts := cts) (ds := ds) (cs := cs) ⟨by simpa using h1, by simpa using h2, fun j c d v e1 e2 e3 => h3 (j + 1) c d v e1 e2 e3⟩ (pre ++ [d]) post
    have e1 : pre ++ d :: (ds ++ post) = pre ++ (d :: ds) ++ post := by simp
    have e2 : pre ++ [d] ++ ds ++ post = pre ++ (d :: ds) ++ post := by simp
    rw [e1] at k1 k2
    rw [e2, List.length_append, List.length_singleton] at m1 m2
    simp only [List.map_cons, unRL, k2]
    exact ⟨.cons k1 m1, by rw [m2, List.length_cons]; omega⟩
  | [], _ :: _, _, h, _, _ => by have := h.1; simp at this
  | [], [], _ :: _, h, _, _ => by have := h.2.1; simp at this
  | _ :: _, [], _, h, _, _ => by have := h.1; simp at this
  | _ :: _, _ :: _, [], h, _, _ => by have := h.2.1; simp at this
/-- Data of arguments, cell by cell. -/
def GoodL (T : Nat → TyI) (cts : List CT) (ds : List D) : Prop := ds.length = cts.length ∧ ∀ (j : Nat) (c : CT) (d : D), cts[j]? = some c → ds[j]? = some d → GoodC T c d
theorem open_args (hT : TOK P T) {S : List Nat} (hS : openS T S = true) : ∀ (ts : List Nat) {args : List Value} {ds : List (DataW H)} {p : List MemPlace}, (∀ t ∈ ts, t ∈ S) → DataW.TrodAll enc P W 0 (fun _ => true) true ts args ds p → (∀ (j : Nat) t v, ts[j]? = some t → args[j]? = some v → ∃ r base, Value.okWide P W r base t v) →
    (∀ n ∈ DataW.weightsEach P ts ds, n ≤ reachBytes) → ∃ xs : List D, GoodL T (ts.flatMap fun t => (T t).cells) xs ∧ ∀ pre post, All2 (RelA T W (fun b => b < W.heap.size) noφ) (unRL (ts.map (sigT T)) (pre ++ xs ++ post) pre.length).1 args
  | [], [], [], _, _, _, _, _ => ⟨[], ⟨rfl, fun j c d h => by simp at h⟩, fun pre post => .nil⟩
  | t :: ts, v :: args, d :: ds, p, hm, hA, hv, hw => by
    obtain ⟨p1, q, ⟨fuel, ht⟩, hA, _⟩ := hA
    obtain ⟨d1, hd1⟩ := read_gen hT hS fuel t _ (d, p1) (hm t (by simp)) ht (fun n hn => hw n (by simp [DataW.weightsEach, hn]))
    obtain ⟨xs, hg, hr⟩ := open_args hT hS ts (fun t ht => hm t (by simp [ht])) hA (fun j t v h1 h2 => hv (j + 1) t v h1 h2) (fun n hn => hw n (by simp [DataW.weightsEach, hn]))
    refine ⟨d1 ++ xs, ⟨?_, fun j c d h1 h2 => ?_⟩, fun pre post => ?_⟩
    · simp [hd1.1, hg.1]
    · rw [List.flatMap_cons] at h1
      by_cases hj : j < (T t).cells.length
      · rw [List.getElem?_append_left hj] at h1
        rw [List.getElem?_append_left (by rw [hd1.1]; exact hj)] at h2
        exact (hd1.2.2 j c d _ h1 h2 (List.getElem?_eq_getElem (by rw [hd1.2.1]; exact hj))).2
      · rw [List.getElem?_append_right (by omega)] at h1
        rw [List.getElem?_append_right (by rw [hd1.1]; omega), hd1.1] at h2
        exact hg.2 _ c d h1 h2
    · have hone : RelA T W (fun b => b < W.heap.size) noφ (unR (sigT T t) (pre ++ d1 ++ (xs ++ post)) pre.length).1 v ∧ (unR (sigT T t) (pre ++ d1 ++ (xs ++ post)) pre.length).2 = pre.length + d1.length := by
        have ho := List.all_eq_true.1 hS t (hm t (by simp))
        simp only [opnT, Bool.and_eq_true] at ho
        have hne := kn_iff.1 ho.1
        obtain ⟨r, base, hval⟩ := hv 0 t v rfl rfl
        unfold sigT
        cases ha : (T t).agg
        · obtain ⟨i, dd, c, hi, hu, _, _, hc, _, _, hdo⟩ := (hT t hne).cell ha
          rw [hc] at hd1
          simp only [hc, cond_false]
          have hd1l : d1.length = 1 := hd1.1
          obtain ⟨x, rfl⟩ : ∃ x, d1 = [x] := List.length_eq_one_iff.1 hd1l
          have hcells : v.cells.toList = [v] := by
            refine one_cells ?_
            have ho2 := ho.2
            rw [ha, hc] at ho2
            cases c <;> simp only [] at ho2 <;> try (cases ho2; done)
            · rename_i k _
              have : dd = .int k := by cases dd <;> simp [descOK, ha, hc] at hdo <;> rw [hdo]
              subst this
              obtain ⟨n, rfl⟩ := okWide_int hu hval; rfl
            · have : dd = .bool := by cases dd <;> simp [descOK, ha, hc] at hdo <;> rfl
              subst this
              obtain ⟨n, rfl⟩ := okWide_bool hu hval; rfl
            · have : dd = .string := by cases dd <;> simp [descOK, ha, hc] at hdo <;> rfl
              subst this
              obtain ⟨n, rfl⟩ := okWide_string hu hval; rfl
            · rename_i e _
              have : dd = .slice e := by cases dd <;> simp [descOK, ha, hc] at hdo <;> rw [hdo]
              subst this
              obtain ⟨a, l, c, rfl⟩ := okWide_slice hu hval; rfl
          rw [hcells] at hd1
          have h0 := (hd1.2.2 0 c x v rfl rfl rfl).1
          obtain ⟨k1, k2, _⟩ := cellSh_rel h0 pre (xs ++ post)
          have e1 : pre ++ [x] ++ (xs ++ post) = pre ++ x :: (xs ++ post) := by simp
          rw [e1]
          exact ⟨.of_C k1, k2⟩
        · obtain ⟨i, fs, hi, hu, hs, _⟩ := (hT t hne).struct ha (by
            have ho2 := ho.2
            rw [ha] at ho2
            intro e
            simp only [e] at ho2
            have := Nat.eq_of_beq_eq_true ho2
            exact hne (List.eq_nil_of_length_eq_zero this.symm))
          obtain ⟨cs, rfl, _⟩ := okWide_struct hu hval
          obtain ⟨k1, k2⟩ := cellsSh_rel hd1 pre (xs ++ post)
          simp only [cond_true, unR, k2]
          exact ⟨⟨cs, rfl, k1⟩, trivial⟩
      have h2 := hr (pre ++ d1) post
      have e1 : pre ++ d1 ++ (xs ++ post) = pre ++ (d1 ++ xs) ++ post := by simp
      have e2 : pre ++ d1 ++ xs ++ post = pre ++ (d1 ++ xs) ++ post := by simp
      rw [e1] at hone
      rw [e2, List.length_append] at h2
      simp only [List.map_cons, unRL, hone.2]
      exact .cons hone.1 h2
  | [], [], _ :: _, _, _, hA, _, _ => by simp [DataW.TrodAll] at hA
  | [], _ :: _, _, _, _, hA, _, _ => by simp [DataW.TrodAll] at hA
  | _ :: _, [], _, _, _, hA, _, _ => by simp [DataW.TrodAll] at hA
  | _ :: _, _ :: _, [], _, _, hA, _, _ => by simp [DataW.TrodAll] at hA

/-- A law that returns true at all data. -/
theorem law_calls (hT : TOK P T) (hfx : Facts T W (fun b => b < W.heap.size)) {S : List Nat} (hS : openS T S = true) {ts : List Nat} (hm : ts.all (fun t => S.any (Nat.beq t)) = true) {g : Nat} {c : Callee} (hF : FunOK P T g c) (hsig : c.sig = ts.map (sigT T)) (hrs : c.rs = [.bool])
    (pure : ∀ xs, GoodL T (ts.flatMap fun t => (T t).cells) xs → ∃ k, c.f k xs = some [.bool true])
    {args : Array Value} {ds : List (DataW H)} {p : List MemPlace} (hA : DataW.TrodAll enc P W 0 (fun _ => true) true ts args.toList ds p) (hv : ∀ (j : Nat) t v, ts[j]? = some t → args[j]? = some v → ∃ r base, Value.okWide P W r base t v) (hw : ∀ n ∈ DataW.weightsEach P ts ds, n ≤ reachBytes) :
    Calls P g args W fun e W' => e = .returned (.bool true) ∧ Below W.heap.size W W' := by
  obtain ⟨xs, hg, hr⟩ := open_args hT hS ts (fun t ht => any_mem (List.all_eq_true.1 hm t ht)) hA (fun j t v h1 h2 => hv j t v h1 (by simpa using h2)) hw
  obtain ⟨k, hk⟩ := pure xs hg
  have hr := hr [] []
  simp only [List.nil_append, List.append_nil, List.length_nil] at hr
  obtain ⟨_, _, hc⟩ := hF k xs _ hk
  rw [hsig] at hc
  refine (hc W _ args.toList hfx (fun _ h => h) hr).mono fun e W' ⟨rs, I', he, hb, _, _, hres, _⟩ => ⟨?_, hb⟩
  rw [hrs] at hres
  cases hres with
  | cons h1 h2 => cases h2; obtain rfl := h1; exact he
end
end Go.Sx
