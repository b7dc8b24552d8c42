/- Short names for steps that the printed walks take again and again: each is proved where it is used. -/
import Derived.Test.YtgafgpnbignfdaaDoorV
import Derived.ArgAppend
import Derived.Deep.AppendLies
import Derived.Lib.SlBytesConst
namespace Go.Proofs.YtgafgpnbignfdaaDoor.Sq
open Go.RowKit Go.Proofs.YtgafgpnbignfdaaDoorW.PrintWords Go.Proofs.YtgafgpnbignfdaaDoorW.PrintWords.Kd
/-- What stands at a world stands at a later one that made new blocks, drew, or wrote where it may. -/
theorem bl {p q : Prop} (h : Aside0 q) (t : q → p := by
    intro hh_
    repeat (first | (with_reducible first | exact hh_ | apply below_alloc | apply pw_below_drewN | apply below_drew1 | refine below_set ?_ (Aside0.out (by with_reducible assumption))) | exact hh_)) : p := t h.out
/-- A block that stands, after new blocks and draws. -/
theorem bk {p q : Prop} (h : Aside0 q) (t : q → p := by
    intro hh_
    (with_reducible repeat (first | refine blk_drewN ?_ _ | refine blk_drew ?_ | refine blk_alloc ?_ _))
    exact hh_) : p := t h.out
/-- A row that came in, at a later world. -/
theorem kc {p q r : Prop} (h : Aside0 q) (b : Aside0 r) (t : q → r → p := by
    intro hh_ bb_
    repeat (first | exact (Kd.C_below hh_ bb_) | (with_reducible refine Kd.C_alloc ?_ _) | (with_reducible refine Kd.C_drewN ?_ _) | (with_reducible refine Kd.C_drew ?_))) : p := t h.out b.out
/-- A row of one's own, after new blocks and draws. -/
theorem ra {p q : Prop} (h : Aside0 q) (t : q → p := by
    intro hh_
    (with_reducible repeat (first | apply Kd.R_alloc | apply Kd.R_drewN | apply Kd.R_drew))
    exact hh_) : p := t h.out
theorem er {p : Prop} (t : p := by first | rfl | (simp [errW_none, errW_some] <;> rfl) | (simp [*, errW_none, errW_some] <;> rfl)) : p := t
theorem gs {p : Prop} (t : p := by (try simp only [List.map_toArray, List.map_cons, List.map_nil]); first | done | rfl | (simp only [List.length_drop, List.length_take]; rfl)) : p := t
theorem odt {p : Prop} (t : p := by first | (with_reducible assumption) | assumption) : p := t
theorem g1_ {p : Prop} (t : p := by intro w'; go_simp; with_reducible rfl) : p := t
theorem g2_ {p : Prop} (t : p := by simp only [Act.put, List.setIfInBounds_toArray, List.set_cons_zero, List.set_cons_succ, i64_w, i32_w]; rfl) : p := t
section
variable {P : Program} {ops : Array Oper} {rest : List Oper} {o : Oper} {a : Act} {Q : Exit → Act → World → Prop}
open Go.WideShapes
/-- A literal of cells: its slice has no room behind its end. -/
theorem litf {α : Type} {enc : α → Value} {h1 : ∀ x, (enc x).oneCell' = true} {W : World} (e : Nat) (hgd : o.guard = none) {N : Tmp} (_hd : o.dst = some N) {xs : List α}
    (hrun : (execOp a.eval o).run P W = .ok (.value (.slice (some ⟨W.heap.size, 0, none⟩) xs.length xs.length)) (W.alloc (.cells (encs enc xs).toArray e)))
    (hm : xs.length ≤ 9223372036854775807)
    (h : ∀ v1 w1, (Kd.scalar enc h1).R e w1 W.heap.size (fun _ => True) v1 xs → Below W.heap.size W w1 → W.grownBy w1 none → (∃ b, v1.ownBlock = some b ∧ W.heap.size ≤ b) → (∃ A, v1 = .slice A xs.length xs.length) → wpList P ops Q rest (a.put o.dst v1) w1) : wpList P ops Q (o :: rest) a W := by
  refine Kd.event_run hgd hrun (h _ _ (Kd.R_of_own ?_ (fun _ _ => trivial)) ((Below.refl _ W).alloc (Nat.le_refl _) _) (World.grownBy_alloc W _ none) ⟨W.heap.size, by simp [Value.ownBlock], Nat.le_refl _⟩ ⟨_, rfl⟩)
  have h2 := World.ownsRow_lit (base := W.heap.size) (e := e) (size := 1) W (encs enc xs).toArray xs.length (Nat.le_refl _) (by simpa [maxLen] using hm) (by simp [encs_length])
  simpa using h2
/-- An append to a slice without room: what was there stands, the new row lies in a new block. -/
theorem append_full {α : Type} {enc : α → Value} {h1 : ∀ x, (enc x).oneCell' = true} {W : World} (hgd : o.guard = none) (s x : Operand) (t e : TypeId) (z : Value) (bytes : Nat)
    (ho : o.op = .call { callee := .builtin .append, args := #[s, x], argTypes := #[t, t] })
    (ht : P.underlying t = some (.slice e)) (hinfo : (P.info? e).map (fun i => (i.zero, i.size, i.bytes)) = some (some z, 1, bytes)) (hz : z.cells.size = 1) (hb0 : 0 < bytes)
    (A : Option Addr) (cap : Nat) (xs : List α) (p : α) (c : Value) (hc : c = enc p) (hs : a.eval s = .slice A xs.length cap) (hx : a.eval x = .slice (some ⟨W.heap.size, 0, none⟩) 1 1)
    (HC : (Kd.scalar enc h1).C W A xs.length xs) (HF : ∃ B, Value.slice A xs.length cap = .slice B xs.length xs.length) (hl : (xs.length + 1) * bytes ≤ 140737488355328)
    (h : ∀ v1 w1, (Kd.scalar enc h1).R e w1 W.heap.size (fun _ => True) v1 (xs ++ [p]) → Below W.heap.size W w1 → W.grownBy w1 none → (∃ b, v1.ownBlock = some b ∧ W.heap.size ≤ b) → wpList P ops Q rest (a.put o.dst v1) w1) :
    wpList P ops Q (o :: rest) a (W.alloc (.cells [c].toArray e)) := by
  subst hc
  obtain ⟨i0, hi, hzz⟩ := Option.map_eq_some_iff.1 hinfo
  simp only [Prod.mk.injEq] at hzz
  obtain ⟨hz0, hz1, hz2⟩ := hzz
  obtain ⟨B, hB⟩ := HF
  obtain ⟨rfl, _, rfl⟩ : A = B ∧ True ∧ cap = xs.length := by simpa using hB
  have hown := Kd.C_alloc HC (.cells [enc p].toArray e)
  have hlen : xs.length + 1 ≤ 140737488355328 := Nat.le_trans (Nat.le_mul_of_pos_right _ hb0) hl
  refine wpList_append_grows (W.alloc (.cells [enc p].toArray e)) hgd s x t ho e i0 z 1 bytes ht hi hz0 hz1 hz2 hz (by decide) A xs.length xs.length (encs enc xs) hs (fun hA => ?_) (by simp [encs_length]) (fun b hb j u hj => ?_)
    ⟨W.heap.size, 0, none⟩ 1 1 [enc p] hx rfl (fun j u hj => ?_) (fun u hu => by simp only [List.mem_singleton] at hu; subst hu; exact h1 p) (by omega) (by simp only [maxLen]; omega) hl (fun v1 w1 hown1 hg1 => ?_)
  · subst hA
    have h0 : xs.length = 0 := by
      rcases Nat.eq_zero_or_pos xs.length with h0 | h0
      · exact h0
      · obtain ⟨ad, e1, _⟩ := hown.2.2 h0
        cases e1
    exact ⟨h0, h0⟩
  · subst hb
    have hj2 : j < xs.length := by
      have := (List.getElem?_eq_some_iff.1 hj).1
      simpa [encs_length] using this
    obtain ⟨ad, e1, hcell⟩ := hown.2.2 (by omega)
    cases e1
    obtain ⟨cs, hcs, hr, hcc⟩ := hcell j xs[j] (List.getElem?_eq_getElem hj2)
    have e2 : cs = [enc xs[j]] := hr
    subst e2
    have e3 : u = enc xs[j] := by
      have : (encs enc xs)[j]? = some (enc xs[j]) := by simp [encs, List.getElem?_eq_getElem hj2]
      rw [this] at hj; exact (Option.some.inj hj).symm
    subst e3
    simpa [Kd.scalar] using hcc 0 _ rfl
  · have := World.news_of_block (cs := [enc p].toArray) (t := e) (fr := (0, 0)) (heap_alloc_new W (.cells [enc p].toArray e))
    exact this j u (by simpa using hj)
  · have hsz : (W.alloc (.cells [enc p].toArray e)).heap.size = W.heap.size + 1 := by simp
    rw [hsz] at hown1
    have hown2 : w1.ownsRow W.heap.size e 1 v1 (xs.length + 1) (encs enc xs ++ [enc p]) := by
      refine ⟨hown1.1, ?_⟩
      rcases hown1.2 with hl0 | ⟨g, cap, cur, hv, hb, r⟩
      · exact .inl hl0
      · exact .inr ⟨g, cap, cur, hv, by omega, r⟩
    obtain ⟨g, cap, hv, hbg, _⟩ := hown2.form (by omega)
    refine h v1 w1 (Kd.R_of_own (by simpa [encs] using hown2) (fun _ _ => trivial)) (((Below.refl _ W).alloc (Nat.le_refl _) _).grown hg1 (by simp) (fun k hk => by cases hk)) ?_ ⟨g, by rw [hv]; rfl, hbg⟩
    have hg0 := World.grownBy_alloc W (.cells [enc p].toArray e) none
    exact hg0.trans hg1
/-- '[]byte("..")' of a constant: a row of bytes without room behind its end. -/
theorem bytes_const {W : World} (hgd : o.guard = none) {N : Tmp} (_hd : o.dst = some N) (s : Operand) (t e : TypeId) (ho : o.op = .convert t t s) (ht : P.underlying t = some (.slice e)) (he : P.underlying e = some (.int .u8))
    (xs : List Int) (n : Nat) (C : Array Value) (hn : n = xs.length) (hC : C.toList = encs (Value.int .u8) xs) (hs : a.eval s = .slice (some ⟨W.heap.size, 0, none⟩) n n) (hm : xs.length ≤ 9223372036854775807)
    (h : ∀ A w1, (Kd.int .u8).C w1 A xs.length xs → Below W.heap.size W w1 → W.grownBy w1 none → wpList P ops Q rest (a.put o.dst (.slice A xs.length xs.length)) w1) : wpList P ops Q (o :: rest) a (W.alloc (.cells C e)) := by
  subst hn
  refine Kd.event_run (v := .slice (some ⟨W.heap.size, 0, none⟩) xs.length xs.length) (w1 := W.alloc (.cells C e (C.size, C.size + 1))) hgd ?_ (h _ _ ?_ ((Below.refl _ W).alloc (Nat.le_refl _) _) (World.grownBy_alloc W _ none))
  · have := Lib.run_convert_bytes_const (P := P) W t e C xs.length xs.length ht he
    simp [execOp, ho, hs, this, Result.andThen]
  · refine ⟨rfl, hm, fun h0 => ⟨_, rfl, fun j p hj => ⟨[.int .u8 p], rfl, rfl, fun i u hu => ?_⟩⟩⟩
    have hi : i = 0 := by
      have := (List.getElem?_eq_some_iff.1 hu).1
      simp at this; omega
    subst hi
    obtain rfl : Value.int .u8 p = u := by simpa using hu
    have hc : (W.alloc (.cells C e (C.size, C.size + 1))).cell? ⟨W.heap.size, j, none⟩ = C[j]? := World.cell?_alloc_mark W C e _ j
    have hj2 : C[j]? = some (.int .u8 p) := by
      rw [← Array.getElem?_toList, hC]
      simp [encs, hj]
    have ha : (⟨W.heap.size, 0, none⟩ : Addr).add (j * (Kd.int .u8).sz + 0) = ⟨W.heap.size, j, none⟩ := by
      simp only [Kd.int, Kd.scalar, Addr.add, Nat.mul_one, Nat.add_zero, Nat.zero_add]
      by_cases h0 : j = 0 <;> simp [h0]
    rw [ha, hc, hj2]
/-- An append of a row to a slice without room. -/
theorem append_full_rows {α : Type} {enc : α → Value} {h1 : ∀ x, (enc x).oneCell' = true} {W : World} (hgd : o.guard = none) (s x : Operand) (t e : TypeId) (z : Value) (bytes : Nat)
    (ho : o.op = .call { callee := .builtin .append, args := #[s, x], argTypes := #[t, t] })
    (ht : P.underlying t = some (.slice e)) (hinfo : (P.info? e).map (fun i => (i.zero, i.size, i.bytes)) = some (some z, 1, bytes)) (hz : z.cells.size = 1) (hb0 : 0 < bytes)
    (A : Option Addr) (xs ys : List α) (B : Option Addr) (c : Nat) (hs : a.eval s = .slice A xs.length xs.length) (hx : a.eval x = .slice B ys.length c)
    (HC : (Kd.scalar enc h1).C W A xs.length xs) (HD : (Kd.scalar enc h1).C W B ys.length ys) (hp : 0 < ys.length) (hl : (xs.length + ys.length) * bytes ≤ 140737488355328)
    (h : ∀ v1 w1, (Kd.scalar enc h1).R e w1 W.heap.size (fun _ => True) v1 (xs ++ ys) → Below W.heap.size W w1 → W.grownBy w1 none → (∃ b, v1.ownBlock = some b ∧ W.heap.size ≤ b) → wpList P ops Q rest (a.put o.dst v1) w1) :
    wpList P ops Q (o :: rest) a W := by
  obtain ⟨i0, hi, hzz⟩ := Option.map_eq_some_iff.1 hinfo
  simp only [Prod.mk.injEq] at hzz
  obtain ⟨hz0, hz1, hz2⟩ := hzz
  have hlen : xs.length + ys.length ≤ 140737488355328 := Nat.le_trans (Nat.le_mul_of_pos_right _ hb0) hl
  have cells : ∀ (A : Option Addr) (xs : List α), (Kd.scalar enc h1).C W A xs.length xs → ∀ b, A = some b → ∀ (j : Nat) u, (encs enc xs)[j]? = some u → W.cell? (b.add j) = some u := fun A xs HC b hb j u hj => by
    subst hb
    have hj2 : j < xs.length := by
      have := (List.getElem?_eq_some_iff.1 hj).1
      simpa [encs_length] using this
    obtain ⟨ad, e1, hcell⟩ := HC.2.2 (by omega)
    cases e1
    obtain ⟨cs, hcs, hr, hcc⟩ := hcell j xs[j] (List.getElem?_eq_getElem hj2)
    have e2 : cs = [enc xs[j]] := hr
    subst e2
    have e3 : u = enc xs[j] := by
      have : (encs enc xs)[j]? = some (enc xs[j]) := by simp [encs, List.getElem?_eq_getElem hj2]
      rw [this] at hj; exact (Option.some.inj hj).symm
    subst e3
    simpa [Kd.scalar] using hcc 0 _ rfl
  obtain ⟨ad, hB, _⟩ := HD.2.2 hp
  refine wpList_append_grows W hgd s x t ho e i0 z 1 bytes ht hi hz0 hz1 hz2 hz (by decide) A xs.length xs.length (encs enc xs) hs (fun hA => ?_) (by simp [encs_length]) (cells A xs HC)
    ad ys.length c (encs enc ys) (by rw [hx, hB]) (by simp [encs_length]) (cells B ys HD ad hB) (fun u hu => by obtain ⟨x, _, rfl⟩ := List.mem_map.1 hu; exact h1 x) (by omega) (by simp only [maxLen]; omega) hl (fun v1 w1 hown1 hg1 => ?_)
  · subst hA
    have h0 : xs.length = 0 := by
      rcases Nat.eq_zero_or_pos xs.length with h0 | h0
      · exact h0
      · obtain ⟨ad, e1, _⟩ := HC.2.2 h0
        cases e1
    exact ⟨h0, h0⟩
  · obtain ⟨g, cap, hv, hbg, _⟩ := hown1.form (by omega)
    exact h v1 w1 (Kd.R_of_own (by simpa [encs] using hown1) (fun _ _ => trivial)) ((Below.refl _ W).grown hg1 (Nat.le_refl _) (fun k hk => by cases hk)) hg1 ⟨g, by rw [hv]; rfl, hbg⟩
end
end Go.Proofs.YtgafgpnbignfdaaDoor.Sq
