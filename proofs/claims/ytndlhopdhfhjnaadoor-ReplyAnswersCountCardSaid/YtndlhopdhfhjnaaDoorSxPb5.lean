/- ReplyBooksMatchSpec over all data. -/
import Derived.Test.YtndlhopdhfhjnaaDoorSxPb3
set_option linter.unusedVariables false
set_option linter.unusedSimpArgs false
namespace Go.Sx
/-- An event, out of its data. -/
theorem bk_of {d : D} (ha : ∃ m, d = .agg m ∧ m.length = 5) (hc : ∀ j, j < 5 → GoodC (tyTab TL) ([CT.int .i64, .int .i64, .int .i64, .str, .int .i64].getD j .other) (d.c j)) : ∃ x : Bk, d = x.d ∧ x.ok := by
  obtain ⟨m, rfl, hm⟩ := ha
  obtain ⟨a, b, c, s, e, rfl⟩ : ∃ a b c s e, m = [a, b, c, s, e] := by
    match m, hm with
    | [a, b, c, s, e], _ => exact ⟨a, b, c, s, e, rfl⟩
  obtain ⟨n0, h0, w0⟩ := GoodC.int_inv (show GoodC (tyTab TL) (.int .i64) a from hc 0 (by omega))
  obtain ⟨n1, h1, w1⟩ := GoodC.int_inv (show GoodC (tyTab TL) (.int .i64) b from hc 1 (by omega))
  obtain ⟨n2, h2, w2⟩ := GoodC.int_inv (show GoodC (tyTab TL) (.int .i64) c from hc 2 (by omega))
  obtain ⟨n3, h3, w3⟩ := GoodC.str_inv (show GoodC (tyTab TL) .str s from hc 3 (by omega))
  obtain ⟨n4, h4, w4⟩ := GoodC.int_inv (show GoodC (tyTab TL) (.int .i64) e from hc 4 (by omega))
  subst h0 h1 h2 h3 h4
  exact ⟨⟨n0, n1, n2, n3, n4⟩, rfl, wf64 w0, wf64 w1, wf64 w2, w3, wf64 w4⟩
theorem bks_of {d : D} (h : GoodC (tyTab TL) (.sl 30) d) : ∃ es : List Bk, d = .row (es.map Bk.d) ∧ ∀ x ∈ es, x.ok := by
  obtain ⟨l, rfl, _, ha, hc⟩ := h.sl_inv
  obtain ⟨es, h1, h2⟩ := list_of Bk.d Bk.ok (l := l) (fun d hd => bk_of (ha rfl d hd) (fun j hj => hc d hd j hj))
  exact ⟨es, by rw [h1], h2⟩
theorem pure5 : ∀ xs, GoodL (tyTab TL) ([22].flatMap fun t => (tyTab TL t).cells) xs → ∃ k, K5.f k xs = some [.bool true] := fun xs ⟨hl, hg⟩ => by
  obtain ⟨d, rfl⟩ : ∃ d, xs = [d] := List.length_eq_one_iff.1 hl
  obtain ⟨es, rfl, hx⟩ := bks_of (hg 0 _ d rfl rfl)
  exact (law5 es hx).ex
end Go.Sx
