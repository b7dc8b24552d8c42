/- Segments: the checks, for arguments of the types (row 10). -/
import Derived.Test.YtlhbonpdlghlbaaDoorSxWe
set_option linter.unusedVariables false
set_option linter.unusedSimpArgs false
namespace Go.Sx
theorem okS_of {d : D} (h : GoodC (tyTab TL) .str d) : okS d := by
  obtain ⟨s, rfl, hs⟩ := h.str_inv
  exact hs
theorem okRp_of {d : D} (h : GoodC (tyTab TL) (.sl 9) d) : okRp d := by
  obtain ⟨l, rfl, hl, _, hc⟩ := h.sl_inv
  have hl : l.length * 16 ≤ 140737488351232 := hl
  exact ⟨by rw [row_r]; omega, fun x hx => okS_of (hc x (by simpa [row_r] using hx) 0 (by decide))⟩
theorem okEl_of {d : D} (h : GoodC (tyTab TL) (.sl 100) (d.c 0)) : okEl d := by
  obtain ⟨l, hd, hl, _, hc⟩ := h.sl_inv
  have hl : l.length * 24 ≤ 140737488351232 := hl
  unfold okEl
  rw [hd]
  exact ⟨by rw [row_r]; omega, fun x hx => okRp_of (hc x (by simpa [row_r] using hx) 0 (by decide))⟩
theorem okSg_of {d : D} (h0 : GoodC (tyTab TL) .str (d.c 0)) (h : GoodC (tyTab TL) (.sl 76) (d.c 1)) : okSg d := by
  obtain ⟨l, hd, hl, _, hc⟩ := h.sl_inv
  have hl : l.length * 24 ≤ 140737488351232 := hl
  refine ⟨okS_of h0, ?_⟩
  rw [hd]
  exact ⟨by rw [row_r]; omega, fun x hx => okEl_of (hc x (by simpa [row_r] using hx) 0 (by decide))⟩
theorem okL_of {d : D} (h : GoodC (tyTab TL) (.sl 53) d) : ∃ l, d = .row l ∧ okR okSg l := by
  obtain ⟨l, rfl, hl, _, hc⟩ := h.sl_inv
  have hl : l.length * 40 ≤ 140737488351232 := hl
  exact ⟨l, rfl, by omega, fun x hx => okSg_of (hc x hx 0 (by decide)) (hc x hx 1 (by decide))⟩
theorem pure3 : ∀ xs, GoodL (tyTab TL) ([23, 24].flatMap fun t => (tyTab TL t).cells) xs → ∃ k, K3.f k xs = some [.bool true] := fun xs ⟨hl, hg⟩ => by
  have hl2 : xs.length = 6 := hl
  obtain ⟨a, b, c, d, e, f, rfl⟩ : ∃ a b c d e f, xs = [a, b, c, d, e, f] := by
    match xs, hl2 with
    | [a, b, c, d, e, f], _ => exact ⟨a, b, c, d, e, f, rfl⟩
  obtain ⟨m1, rfl, _⟩ := GoodC.int_inv (hg 0 (.int .u8) a rfl rfl)
  obtain ⟨m2, rfl, _⟩ := GoodC.int_inv (hg 1 (.int .u8) b rfl rfl)
  obtain ⟨m3, rfl, _⟩ := GoodC.int_inv (hg 2 (.int .u8) c rfl rfl)
  obtain ⟨m4, rfl, _⟩ := GoodC.int_inv (hg 3 (.int .u8) d rfl rfl)
  obtain ⟨m5, rfl, _⟩ := GoodC.int_inv (hg 4 (.int .u8) e rfl rfl)
  obtain ⟨l, rfl, hx⟩ := okL_of (hg 5 (.sl 53) f rfl rfl)
  exact (law3 l ⟨m1, m2, m3, m4, m5⟩ hx).ex
end Go.Sx
