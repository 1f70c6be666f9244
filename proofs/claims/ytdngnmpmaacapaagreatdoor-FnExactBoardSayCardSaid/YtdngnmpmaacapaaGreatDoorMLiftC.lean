/-
  Merged: LiftC.
-/
import Derived.Test.YtdngnmpmaacapaaGreatDoorMLift
import Derived.Test.YtdngnmpmaacapaaGreatDoorMBase
import Derived.Deep.Slices
import Derived.Deep.Fields
import Derived.ChangeSame
set_option linter.unusedVariables false
set_option linter.unusedSimpArgs false
/-
  What the step from a walk to a given statement shares: opening a slice of structs that came in.
-/
namespace Go.Proofs.YtdngnmpmaacapaaGreatDoor
open Go.ChangeShapes Go.WideShapes Go.ChangeAt Go.RowKit Go.Deep
section
variable {H : Type} {enc : TypeId × Value → H} {P : Program} {w : World} {base : Nat} {spare : Nat → Bool} {held : Bool}
theorem open_slice_fields {t e : TypeId} {fs : Array Field} {fuel : Nat} {cs : List Value} {x : DataW H × List MemPlace} (ht : P.underlying t = some (.slice e)) (he : P.underlying e = some (.struct fs))
    (hone : oneCellFields P fs = true) (hC : P.cellsOf e = fs.size) (h : DataW.trod enc P w base spare held fuel t cs = some x) :
    (cs = [.slice none 0 0] ∧ x = (.nil, [])) ∨
    ∃ (a : Addr) (len cap m : Nat) (D : Nat → DataW H) (Pl : Nat → List MemPlace), cs = [.slice (some a) len cap] ∧ base ≤ a.block ∧ len ≤ cap ∧ cap ≤ maxLen ∧ m = (if spare a.block then cap else len) ∧
      x = (.slice ((List.range len).map D) ((List.range (m - len)).map fun j => D (len + j)), MemPlace.row a (m * fs.size) ++ (List.range m).flatMap Pl) ∧
      ∀ i, i < m → ∃ (ys : List (DataW H × List MemPlace)) (n : Nat), D i = .agg (ys.map (·.1)) ∧ Pl i = ys.flatMap (·.2) ∧ ys.length = fs.size ∧
        ∀ (j : Nat) (f : Field), fs[j]? = some f → ∃ (v : Value) (y : DataW H × List MemPlace), w.cell? (a.add (i * fs.size + j)) = some v ∧ ys[j]? = some y ∧ DataW.trod enc P w base spare held n f.type [v] = some y := by
  rcases open_slice ht h with h0 | ⟨a, len, cap, m, n, D, Pl, hcs, hb, hl, hm, hmm, hx, hi⟩
  · exact .inl h0
  · refine .inr ⟨a, len, cap, m, D, Pl, hcs, hb, hl, hm, hmm, by rw [hC] at hx; exact hx, fun i him => ?_⟩
    obtain ⟨cs', hc, ht'⟩ := hi i him
    rw [hC] at hc
    obtain ⟨ys, n', hn', hy, hlen, hyl, hf⟩ := DataW.trod_struct he ht'
    obtain ⟨_, hcl, hat⟩ := World.cells?_some hc
    simp only [Prod.mk.injEq] at hy
    refine ⟨ys, n', hy.1, hy.2, hyl, fun j f hj => ?_⟩
    obtain ⟨ho, hk⟩ := hone_of hone j f hj
    have hjl : j < fs.size := (Array.getElem?_eq_some_iff.1 hj).1
    have hcell := hat j hjl
    have hv : cs'[j]? = some (cs'[j]'(by omega)) := List.getElem?_eq_getElem (by omega)
    have h1 := hf j f hj
    rw [ho, hk] at h1
    have hone' : (cs'.drop j).take 1 = [cs'[j]'(by omega)] := by
      rw [List.drop_eq_getElem_cons (by omega)]
      rfl
    rw [hone'] at h1
    have hys : ys[j]? = some (ys[j]'(by omega)) := List.getElem?_eq_getElem (by omega)
    refine ⟨_, _, ?_, hys, h1.trans hys⟩
    rw [← Go.Deep.add_add, hcell, hv]
end

theorem pick_list {α : Type} (Q : Nat → α → Prop) (n : Nat) (h : ∀ i, i < n → ∃ x, Q i x) : ∃ xs : List α, xs.length = n ∧ ∀ i (hi : i < xs.length), Q i xs[i] := by
  induction n with
  | zero => exact ⟨[], rfl, fun i hi => by simp at hi⟩
  | succ n ih =>
    obtain ⟨xs, hl, hx⟩ := ih (fun i hi => h i (by omega))
    obtain ⟨y, hy⟩ := h n (by omega)
    refine ⟨xs ++ [y], by simp [hl], fun i hi => ?_⟩
    by_cases hlt : i < xs.length
    · rw [List.getElem_append_left hlt]; exact hx i hlt
    · have : i = n := by simp at hi; omega
      subst this
      rw [List.getElem_append_right (by omega)]
      simpa [hl] using hy
theorem Sl_rows {α : Type} {w : World} {x : Addr} {f : α → List Value} {xs : List α} (s : Nat) (hf : ∀ y, (f y).length = s) (hs : 0 < s)
    (h : ∀ k (hk : k < xs.length) i, i < s → w.cell? (x.add (k * s + i)) = (f xs[k])[i]?) : Sl w (some x) (rows f xs) := by
  intro j hj
  have hj' : j < xs.length * s := by rw [rows_length f s hf] at hj; exact hj
  have hk : j / s < xs.length := Nat.div_lt_of_lt_mul (by rw [Nat.mul_comm]; exact hj')
  have hx0 : 0 < xs.length := Nat.lt_of_le_of_lt (Nat.zero_le _) hk
  have hi : j % s < s := Nat.mod_lt _ hs
  have e : j / s * s + j % s = j := Nat.div_add_mod' j s
  have hc := h (j / s) hk (j % s) hi
  have hg := rows_get f s hf xs (j / s) (j % s) hk hi
  rw [e] at hc hg
  have hsome : (rows f xs)[j]? = some (rows f xs)[j] := List.getElem?_eq_getElem hj
  have hcell : w.cell? (x.add j) = some (rows f xs)[j] := by rw [hc, ← hg, hsome]
  obtain ⟨b, off, spot⟩ := x
  have h0 := h (j / s) hk 0 hs
  have hspot : spot = none := by
    have := World.cell?_spot hcell
    by_cases hz : j = 0
    · subst hz; simpa [Addr.add] using this
    · have hl0 : (f xs[j / s])[0]? = some ((f xs[j / s])[0]'(by rw [hf]; exact hs)) := List.getElem?_eq_getElem _
      have h00 := h 0 hx0 0 hs
      have hl00 : (f (xs[0]'hx0))[0]? = some ((f (xs[0]'hx0))[0]'(by rw [hf]; exact hs)) := List.getElem?_eq_getElem _
      rw [hl00] at h00
      have := World.cell?_spot h00
      simpa [Addr.add] using this
  subst hspot
  have ha : (⟨b, off, none⟩ : Addr).add j = ⟨b, off + j, none⟩ := by simp [Addr.add]
  rw [ha] at hcell
  exact ⟨b, off, rfl, hcell⟩
end Go.Proofs.YtdngnmpmaacapaaGreatDoor
