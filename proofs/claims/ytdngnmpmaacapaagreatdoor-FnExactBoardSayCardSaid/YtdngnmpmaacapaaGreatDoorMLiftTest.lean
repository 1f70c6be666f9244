/-
  Merged: LiftTest.
-/
import Derived.Test.YtdngnmpmaacapaaGreatDoorMLiftC
import Derived.Test.YtdngnmpmaacapaaGreatDoorMOrdP
import Derived.Deep.Strs
set_option linter.unusedVariables false
set_option linter.unusedSimpArgs false
/-
  Opening slices of the statements' own exercises and deeds, and a deed.
-/
namespace Go.Proofs.YtdngnmpmaacapaaGreatDoor
open Go.ChangeShapes Go.WideShapes Go.ChangeAt Go.RowKit Go.Deep
section Open1
variable {H : Type} {enc : TypeId × Value → H} {P : Program} {W : World} {base fuel : Nat} {spare : Nat → Bool} {held : Bool} {x : DataW H × List MemPlace}
theorem fieldCells {t ty : TypeId} {fs : Array Field} {cs : List Value} (ht : P.underlying t = some (.struct fs)) (j o c : Nat)
    (hq : (fs[j]?.map fun f => (f.offset, f.type, P.cellsOf f.type)) = some (o, ty, c)) (h : DataW.trod enc P W base spare held fuel t cs = some x) :
    ∃ n y, DataW.trod enc P W base spare held n ty ((cs.drop o).take c) = some y := by
  obtain ⟨ys, n, _, _, _, hyl, hf⟩ := DataW.trod_struct ht h
  cases hj : fs[j]? with
  | none => rw [hj] at hq; simp at hq
  | some f =>
    rw [hj] at hq
    simp only [Option.map_some, Option.some.injEq, Prod.mk.injEq] at hq
    obtain ⟨h1, h2, h3⟩ := hq
    have h4 := hf j f hj
    have hlt : j < fs.size := (Array.getElem?_eq_some_iff.1 hj).1
    rw [h1, h3, h2, List.getElem?_eq_getElem (by omega)] at h4
    exact ⟨n, _, h4⟩
theorem structLen {t : TypeId} {fs : Array Field} {cs : List Value} {k : Nat} (ht : P.underlying t = some (.struct fs)) (hk : P.cellsOf t = k) (h : DataW.trod enc P W base spare held fuel t cs = some x) : cs.length = k := by
  obtain ⟨ys, n, _, _, hl, _⟩ := DataW.trod_struct ht h
  rw [hl, hk]
end Open1
theorem cellsTest : Tryz.prog.cellsOf 83 = 3 := by kernel_rfl
section Open2
variable {H : Type} {enc : TypeId × Value → H} {W : World} {base fuel : Nat} {spare : Nat → Bool} {held : Bool} {x : DataW H × List MemPlace}
theorem openTestCells {cs : List Value} (h : DataW.trod enc Tryz.prog W base spare held fuel 83 cs = some x) : ∃ z : Tst, cs = testF z ∧ big z := by
  have hl3 := structLen Tryz.underlying83 cellsTest h
  obtain ⟨n0, y0, t0⟩ := fieldCells Tryz.underlying83 0 0 1 (ty := 9) (by kernel_rfl) h
  obtain ⟨n1, y1, t1⟩ := fieldCells Tryz.underlying83 1 1 1 (ty := 9) (by kernel_rfl) h
  obtain ⟨n2, y2, t2⟩ := fieldCells Tryz.underlying83 2 2 1 (ty := 9) (by kernel_rfl) h
  obtain ⟨s0, e0, _, b0⟩ := DataW.trod_string Tryz.underlying9 t0
  obtain ⟨s1, e1, _, b1⟩ := DataW.trod_string Tryz.underlying9 t1
  obtain ⟨s2, e2, _, b2⟩ := DataW.trod_string Tryz.underlying9 t2
  match cs, hl3 with
  | [c0, c1, c2], _ =>
    have f0 : [c0] = [Value.string s0] := e0
    have f1 : [c1] = [Value.string s1] := e1
    have f2 : [c2] = [Value.string s2] := e2
    simp only [List.cons.injEq, and_true] at f0 f1 f2
    subst f0; subst f1; subst f2
    unfold maxLen at b0 b1 b2
    exact ⟨(s0, s1, s2), rfl, b0, b1, b2⟩
theorem openTests {a : Option Addr} {len cap : Nat}
    (h : DataW.trod enc Tryz.prog W base spare held fuel 31 [.slice a len cap] = some x) : ∃ cs : List Tst, cs.length = len ∧ Sl W a (tests cs) ∧ (cs.length ≤ 9223372036854775807 ∧ Big cs) := by
  rcases open_slice Tryz.underlying31 h with ⟨h0, _⟩ | ⟨b, l, c, m, n, D, Pl, hcs, _, hl, hmax, hm, _, hi⟩
  · simp at h0
    obtain ⟨rfl, rfl, rfl⟩ := h0
    exact ⟨[], rfl, Sl.nil _ _, by simp, fun y hy => by simp at hy⟩
  · simp at hcs
    obtain ⟨rfl, rfl, rfl⟩ := hcs
    have hlm : len ≤ m := by rw [hm]; split <;> omega
    have one : ∀ i, i < len → ∃ z : Tst, (∀ j, j < 3 → W.cell? (b.add (i * 3 + j)) = (testF z)[j]?) ∧ big z := by
      intro i hil
      obtain ⟨cs', hc, ht'⟩ := hi i (by omega)
      obtain ⟨z, rfl, hz⟩ := openTestCells ht'
      obtain ⟨_, _, hat⟩ := World.cells?_some hc
      rw [cellsTest] at hat
      refine ⟨z, fun j hj => ?_, hz⟩
      have := hat j hj
      rw [Go.Deep.add_add] at this
      exact this
    obtain ⟨cs, hlen, hcs⟩ := pick_list _ len one
    refine ⟨cs, hlen, Sl_rows 3 testF_len (by omega) (fun k hk i hi3 => (hcs k hk).1 i hi3), by unfold maxLen at hmax; omega, ?_⟩
    intro y hy
    obtain ⟨i, hi', rfl⟩ := List.getElem_of_mem hy
    exact (hcs i hi').2
end Open2
end Go.Proofs.YtdngnmpmaacapaaGreatDoor
