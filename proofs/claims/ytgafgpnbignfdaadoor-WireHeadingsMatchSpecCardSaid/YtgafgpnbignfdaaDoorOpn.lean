/- What a datum that reads at a type says: it is of the type's kind, and good. For the rows of laws with structs and slices of structs. -/
import Derived.Test.YtgafgpnbignfdaaDoorV
import Derived.SizedLaws
import Derived.ChangeSlices
import Derived.OpenShut
namespace Go.Proofs.YtgafgpnbignfdaaDoor.Opn
open Go.RowKit Go.Proofs.YtgafgpnbignfdaaDoorW.PrintWords Go.ChangeShapes Go.WideShapes

theorem add_add (a : Addr) (m j : Nat) : (a.add m).add j = a.add (m + j) := by
  unfold Addr.add
  by_cases hm : m = 0 <;> by_cases hj : j = 0 <;> simp [hm, hj, Nat.add_assoc]

theorem choose_list {α : Type} {p : Nat → α → Prop} : ∀ (n : Nat), (∀ i, i < n → ∃ a, p i a) → ∃ l : List α, l.length = n ∧ ∀ (i : Nat) (a : α), l[i]? = some a → p i a
  | 0, _ => ⟨[], rfl, fun i a h => by simp at h⟩
  | n + 1, h => by
    obtain ⟨l, hl, hp⟩ := choose_list n (fun i hi => h i (by omega))
    obtain ⟨a, ha⟩ := h n (by omega)
    refine ⟨l ++ [a], by simp [hl], fun i b hb => ?_⟩
    by_cases hi : i < l.length
    · rw [List.getElem?_append_left hi] at hb
      exact hp i b hb
    · have hi2 : i = l.length := by
        have := (List.getElem?_eq_some_iff.1 hb).1
        simp at this
        omega
      subst hi2
      have : a = b := by simpa using hb
      subst this
      rw [hl]
      exact ha

theorem weights_all {H : Type} {P : Program} {e : TypeId} : ∀ {l : List (DataW H)} {x : DataW H} {n : Nat}, x ∈ l → n ∈ x.weights P e → n ∈ DataW.weightsAll P e l
  | y :: l, x, n, hx, hn => by
    simp only [DataW.weightsAll, List.mem_append]
    rcases List.mem_cons.1 hx with rfl | hx
    · exact .inl hn
    · exact .inr (weights_all hx hn)

/-- Whatever reads at type t (in the mode of a row's arguments) is of kind d, and good. -/
structure Opens {α : Type} (P : Program) (d : Kd α) (t : TypeId) (good : α → Prop) : Prop where
  sz : P.cellsOf t = d.sz
  read : ∀ {H : Type} {enc : TypeId × Value → H} {W : World} (fuel : Nat) (cs : List Value) (x : DataW H × List MemPlace), DataW.trod enc P W 0 (fun _ => true) true fuel t cs = some x → (∀ n ∈ x.1.weights P t, n ≤ reachBytes) → ∃ a, d.K W a cs ∧ good a

/-- The same of the fields of a struct, from one place on. -/
structure OpensF {α : Type} (P : Program) (d : Kd α) (fs : List Field) (off : Nat) (good : α → Prop) : Prop where
  read : ∀ {H : Type} {enc : TypeId × Value → H} {W : World} (fuel : Nat) (cs : List Value) (xs : List (DataW H × List MemPlace)), xs.length = fs.length → (∀ (i : Nat) (f : Field), fs[i]? = some f → DataW.trod enc P W 0 (fun _ => true) true fuel f.type ((cs.drop f.offset).take (P.cellsOf f.type)) = xs[i]?) →
    cs.length = off + d.sz → (∀ n ∈ DataW.weightsEach P (fs.map (·.type)) (xs.map (·.1)), n ≤ reachBytes) → ∃ a, d.K W a (cs.drop off) ∧ good a

section
variable {P : Program}
theorem opens_int {k : IntKind} {t : TypeId} (hu : P.underlying t = some (.int k)) (hc : P.cellsOf t = 1) : Opens P (Kd.int k) t (fun n => (Lit.int k n).wf = true) where
  sz := hc
  read := by
    intro H enc W fuel cs x h _
    obtain ⟨n, rfl, rfl, hw⟩ := DataW.trod_int hu h
    exact ⟨n, rfl, hw⟩
theorem opens_bool {t : TypeId} (hu : P.underlying t = some .bool) (hc : P.cellsOf t = 1) : Opens P Kd.bool t (fun _ => True) where
  sz := hc
  read := by
    intro H enc W fuel cs x h _
    obtain ⟨n, rfl, rfl⟩ := DataW.trod_bool hu h
    exact ⟨n, rfl, trivial⟩
theorem opens_string {t : TypeId} (hu : P.underlying t = some .string) (hc : P.cellsOf t = 1) : Opens P Kd.string t (fun s => s.size ≤ 140737488351232) where
  sz := hc
  read := by
    intro H enc W fuel cs x h hs
    obtain ⟨s, rfl, rfl, _⟩ := DataW.trod_string hu h
    refine ⟨s, rfl, ?_⟩
    have := hs s.data.toList.length (by simp [DataW.weights])
    unfold reachBytes at this
    simpa using this
theorem opens_slice {α : Type} {d : Kd α} {t e : TypeId} {B : Nat} {good : α → Prop} (hu : P.underlying t = some (.slice e)) (hc : P.cellsOf t = 1) (hB : P.bytesOf e = B) (he : Opens P d e good) :
    Opens P (Kd.slice e d) t (fun l => l.length * B ≤ 140737488351232 ∧ ∀ x ∈ l, good x) where
  sz := hc
  read := by
    intro H enc W fuel cs x h hs
    rcases DataW.trod_slice hu h with ⟨rfl, rfl⟩ | ⟨a, len, cap, elems, rest, n, _, rfl, rfl, hb, hl, hm, hlen, hel, hsp, hns⟩
    · exact ⟨[], ⟨none, 0, rfl, Nat.le_refl _, rfl, by simp, fun h0 => absurd h0 (by simp)⟩, by simp, fun x hx => by simp at hx⟩
    · have hmem : ∀ (i : Nat) (y : DataW H × List MemPlace), elems[i]? = some y → y.1 ∈ elems.map (·.1) := fun i y hy => List.mem_map.2 ⟨y, List.mem_of_getElem? hy, rfl⟩
      obtain ⟨l, hll, hp⟩ := choose_list (p := fun i v => ∃ c : List Value, c.length = d.sz ∧ d.K W v c ∧ good v ∧ ∀ j u, c[j]? = some u → W.cell? ((a.add (i * d.sz)).add j) = some u) len (fun i hi => by
        have h1 := hel i hi
        obtain ⟨y, hy⟩ : ∃ y, elems[i]? = some y := ⟨_, List.getElem?_eq_getElem (by omega)⟩
        rw [hy, Option.bind_eq_some_iff] at h1
        obtain ⟨c, hcs, hr⟩ := h1
        obtain ⟨_, hcl, hcell⟩ := World.cells?_some hcs
        obtain ⟨v, hK, hg⟩ := he.read _ _ _ hr (fun m hm => hs m (by
          simp only [DataW.weights, hu, List.mem_cons, List.mem_append]
          exact .inr (.inl (weights_all (hmem i y hy) hm))))
        rw [he.sz] at hcl hcell
        exact ⟨v, c, hcl, hK, hg, fun j u hu' => (hcell j (by have := (List.getElem?_eq_some_iff.1 hu').1; omega)).trans hu'⟩)
      have hw := hs ((elems.map (·.1)).length + (rest.map (·.1)).length |> (· * P.bytesOf e)) (by simp [DataW.weights, hu])
      have hm' : len ≤ 9223372036854775807 := Nat.le_trans hl (by unfold maxLen at hm; exact hm)
      refine ⟨l, ⟨some a, cap, by rw [hll], by omega, rfl, by omega, fun _ => ⟨a, rfl, fun j p hj => ?_⟩⟩, ?_, ?_⟩
      · obtain ⟨c, h1, h2, _, h4⟩ := hp j p hj
        exact ⟨c, h1, h2, fun i u hi => by rw [← add_add]; exact h4 i u hi⟩
      · rw [hll, ← hlen]
        simp only [List.length_map, hB] at hw
        unfold reachBytes at hw
        refine Nat.le_trans (Nat.mul_le_mul_right _ (Nat.le_add_right _ _)) hw
      · intro x hx
        obtain ⟨i, hi⟩ := List.getElem?_of_mem hx
        obtain ⟨c, _, _, h3, _⟩ := hp i x hi
        exact h3
theorem opensF_one {α : Type} {d : Kd α} {f : Field} {off : Nat} {good : α → Prop} (ho : f.offset = off) (h : Opens P d f.type good) : OpensF P d [f] off good where
  read := by
    intro H enc W fuel cs xs hx hr hl hs
    obtain ⟨x, rfl⟩ : ∃ x, xs = [x] := by
      match xs, hx with
      | [x], _ => exact ⟨x, rfl⟩
    have h1 := hr 0 f rfl
    rw [ho, h.sz, List.take_of_length_le (by simp; omega)] at h1
    exact h.read _ _ _ h1 (fun n hn => hs n (by simp [DataW.weightsEach, hn]))
theorem opensF_cons {α β : Type} {d : Kd α} {d' : Kd β} {f : Field} {fs : List Field} {off : Nat} {good : α → Prop} {good' : β → Prop} (ho : f.offset = off) (h : Opens P d f.type good) (h' : OpensF P d' fs (off + d.sz) good') :
    OpensF P (Kd.pair d d') (f :: fs) off (fun x => good x.1 ∧ good' x.2) where
  read := by
    intro H enc W fuel cs xs hx hr hl hs
    obtain ⟨x, xs, rfl⟩ : ∃ x ys, xs = x :: ys := by
      match xs, hx with
      | x :: ys, _ => exact ⟨x, ys, rfl⟩
    have hl' : cs.length = off + (d.sz + d'.sz) := hl
    have h1 := hr 0 f rfl
    rw [ho, h.sz] at h1
    obtain ⟨a, ha, hg⟩ := h.read _ _ _ h1 (fun n hn => hs n (by simp [DataW.weightsEach, hn]))
    obtain ⟨b, hb, hg'⟩ := h'.read fuel cs xs (by simpa using hx) (fun i g hg => hr (i + 1) g (by simpa using hg)) (by omega) (fun n hn => hs n (by simp only [List.map_cons, DataW.weightsEach, List.mem_append]; exact .inr hn))
    refine ⟨(a, b), ⟨_, _, ?_, ha, hb⟩, hg, hg'⟩
    rw [← List.drop_drop, List.take_append_drop]
theorem opens_struct {α : Type} {d : Kd α} {t : TypeId} {fs : Array Field} {good : α → Prop} (hu : P.underlying t = some (.struct fs)) (hc : P.cellsOf t = d.sz) (h : OpensF P d fs.toList 0 good) : Opens P d t good where
  sz := hc
  read := by
    intro H enc W fuel cs x hx hs
    obtain ⟨xs, n, _, rfl, hl, hxl, hr⟩ := DataW.trod_struct hu hx
    obtain ⟨a, ha, hg⟩ := h.read n cs xs (by simpa using hxl) (fun i f hf => hr i f (by simpa using hf)) (by omega) (fun m hm => hs m (by simpa [DataW.weights, hu] using hm))
    exact ⟨a, by simpa using ha, hg⟩
theorem opens_iso {α β : Type} {d : Kd α} {f : β → α} (mk : α → β) (hf : ∀ a, f (mk a) = a) {t : TypeId} {good : α → Prop} (h : Opens P d t good) : Opens P (Kd.iso d f) t (fun b => good (f b)) where
  sz := h.sz
  read := by
    intro H enc W fuel cs x hx hs
    obtain ⟨a, ha, hg⟩ := h.read fuel cs x hx hs
    exact ⟨mk a, by show d.K W (f (mk a)) cs; rw [hf]; exact ha, by show good (f (mk a)); rw [hf]; exact hg⟩
theorem Opens.weaken {α : Type} {d : Kd α} {t : TypeId} {good good' : α → Prop} (h : Opens P d t good) (hg : ∀ a, good a → good' a) : Opens P d t good' where
  sz := h.sz
  read := by
    intro H enc W fuel cs x hx hs
    obtain ⟨a, ha, g⟩ := h.read fuel cs x hx hs
    exact ⟨a, ha, hg a g⟩
end
end Go.Proofs.YtgafgpnbignfdaaDoor.Opn
