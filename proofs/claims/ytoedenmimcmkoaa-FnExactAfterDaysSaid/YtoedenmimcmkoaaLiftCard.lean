/-
  Opening a slice of the statements' own cards.
-/
import Derived.Test.YtoedenmimcmkoaaLiftC
import Derived.Test.YtoedenmimcmkoaaCardsA
namespace Go.Proofs.Ytoedenmimcmkoaa
open Go.ChangeShapes Go.WideShapes Go.ChangeAt Go.RowKit Go.Deep
theorem openCards {H : Type} {enc : TypeId × Value → H} {W : World} {base fuel : Nat} {spare : Nat → Bool} {held : Bool} {a : Option Addr} {len cap : Nat} {x : DataW H × List MemPlace}
    (h : DataW.trod enc Try.prog W base spare held fuel 41 [.slice a len cap] = some x) : ∃ cs : List (Int × Int), cs.length = len ∧ Sl W a (cards cs) ∧ cs.length ≤ 9223372036854775807 := by
  rcases open_slice_fields Try.underlying41 Try.underlying70 (by kernel_rfl) (by kernel_rfl) h with ⟨h0, _⟩ | ⟨b, l, c, m, D, Pl, hcs, _, hl, hmax, hm, _, hi⟩
  · simp at h0
    obtain ⟨rfl, rfl, rfl⟩ := h0
    exact ⟨[], rfl, Sl.nil _ _, by simp⟩
  · simp at hcs
    obtain ⟨rfl, rfl, rfl⟩ := hcs
    have hlm : len ≤ m := by rw [hm]; split <;> omega
    have one : ∀ i, i < len → ∃ c : Int × Int, W.cell? (b.add (i * 2 + 0)) = some (.int .i64 c.1) ∧ W.cell? (b.add (i * 2 + 1)) = some (.int .i64 c.2) := by
      intro i hil
      obtain ⟨ys, n, _, _, _, hf⟩ := hi i (by omega)
      obtain ⟨v0, y0, c0, _, t0⟩ := hf 0 _ rfl
      obtain ⟨v1, y1, c1, _, t1⟩ := hf 1 _ rfl
      obtain ⟨n0, e0, _, _⟩ := DataW.trod_int Try.underlying3 t0
      obtain ⟨n1, e1, _, _⟩ := DataW.trod_int Try.underlying3 t1
      simp at e0 e1
      subst e0; subst e1
      exact ⟨(n0, n1), c0, c1⟩
    obtain ⟨cs, hlen, hcs⟩ := pick_list _ len one
    refine ⟨cs, hlen, Sl_rows 2 cardF_len (by omega) ?_, by unfold maxLen at hmax; omega⟩
    intro k hk i hi2
    obtain ⟨h0, h1⟩ := hcs k hk
    have : i = 0 ∨ i = 1 := by omega
    rcases this with rfl | rfl
    · exact h0
    · exact h1
end Go.Proofs.Ytoedenmimcmkoaa
