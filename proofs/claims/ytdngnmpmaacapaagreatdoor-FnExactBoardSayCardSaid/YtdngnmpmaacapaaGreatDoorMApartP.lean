/-
  Merged: ApartP.
-/
import Derived.Test.YtdngnmpmaacapaaGreatDoorMWroteS
import Derived.Lib.Join
set_option linter.unusedVariables false
set_option linter.unusedSimpArgs false
/-
  Plain laws: the lots into which exercises divide the ways; the way with fewest faults. No program is named here.
-/
namespace Go.Proofs.YtdngnmpmaacapaaGreatDoor
open Go.RowKit

def joinS (xs : List ByteArray) (sep : List UInt8) : ByteArray := mkL (Lib.join (xs.map (·.data.toList)) sep)
/-- The answers that come out by a way. -/
def ansI (xs : List Tst) (way : Nat) : List ByteArray := xs.map fun x => tbI x.1 x.2.1 (way : Int)
def lotI (xs : List Tst) (way : Nat) : ByteArray := joinS (ansI xs way) [32]
/-- Exercises with the answers that come out by a way. -/
def ansd (xs : List Tst) (way : Nat) : List Tst := xs.map fun x => (x.1, x.2.1, tbI x.1 x.2.1 (way : Int))
def freshI (xs : List Tst) (way : Nat) : Bool := (List.range way).all fun o => decide (ansI xs o ≠ ansI xs way)
/-- Into how many lots exercises divide the first k ways. -/
def apartTo (xs : List Tst) (k : Nat) : Nat := ((List.range k).filter (freshI xs)).length
def apartI (xs : List Tst) : Int := if testsOkB xs then (apartTo xs 16 : Int) else -1
theorem apartTo_le (xs : List Tst) (k : Nat) : apartTo xs k ≤ k := by
  unfold apartTo; exact Nat.le_trans (List.length_filter_le _ _) (by simp)
theorem apartTo_yes {xs : List Tst} {k : Nat} (h : freshI xs k = true) : apartTo xs (k + 1) = apartTo xs k + 1 := by
  unfold apartTo; rw [List.range_succ, List.filter_append, List.length_append]; simp [h]
theorem apartTo_no {xs : List Tst} {k : Nat} (h : freshI xs k = false) : apartTo xs (k + 1) = apartTo xs k := by
  unfold apartTo; rw [List.range_succ, List.filter_append, List.length_append]; simp [h]

section
variable {α : Type} [DecidableEq α]
/-- What a function gives of the numbers below k, each once. -/
def keysTo (f : Nat → α) : Nat → List α
  | 0 => []
  | k + 1 => if f k ∈ keysTo f k then keysTo f k else keysTo f k ++ [f k]
theorem keysTo_mem (f : Nat → α) (x : α) : ∀ k, x ∈ keysTo f k ↔ ∃ o, o < k ∧ f o = x
  | 0 => by simp [keysTo]
  | k + 1 => by
    have ih := keysTo_mem f x k
    have hs : (∃ o, o < k + 1 ∧ f o = x) ↔ (∃ o, o < k ∧ f o = x) ∨ f k = x := by
      constructor
      · rintro ⟨o, ho, rfl⟩
        by_cases h : o < k
        · exact .inl ⟨o, h, rfl⟩
        · obtain rfl : o = k := by omega
          exact .inr rfl
      · rintro (⟨o, ho, rfl⟩ | rfl)
        · exact ⟨o, by omega, rfl⟩
        · exact ⟨k, by omega, rfl⟩
    rw [hs, ← ih]
    simp only [keysTo]
    split
    · next h =>
      constructor
      · intro hx; exact .inl hx
      · rintro (hx | rfl)
        · exact hx
        · exact h
    · simp [eq_comm]
theorem keysTo_nodup (f : Nat → α) : ∀ k, (keysTo f k).Nodup
  | 0 => by simp [keysTo]
  | k + 1 => by
    have ih := keysTo_nodup f k
    simp only [keysTo]
    split
    · exact ih
    · next h =>
      rw [List.nodup_append]
      refine ⟨ih, by simp, ?_⟩
      intro a ha b hb e
      simp at hb
      subst hb; subst e; exact h ha
theorem keysTo_len (f : Nat → α) : ∀ k, (keysTo f k).length = ((List.range k).filter fun w => (List.range w).all fun o => decide (f o ≠ f w)).length
  | 0 => by simp [keysTo]
  | k + 1 => by
    have ih := keysTo_len f k
    have hm := keysTo_mem f (f k) k
    rw [List.range_succ, List.filter_append, List.length_append, ← ih]
    simp only [keysTo]
    split
    · next h =>
      obtain ⟨o, ho, he⟩ := hm.1 h
      have : ((List.range k).all fun o => decide (f o ≠ f k)) = false := by
        rw [List.all_eq_false]; exact ⟨o, List.mem_range.2 ho, by simp [he]⟩
      simp only [List.filter_cons, this, List.filter_nil]; rfl
    · next h =>
      have : ((List.range k).all fun o => decide (f o ≠ f k)) = true := by
        rw [List.all_eq_true]
        intro o ho
        exact decide_eq_true (fun he => h (hm.2 ⟨o, List.mem_range.1 ho, he⟩))
      simp only [List.filter_cons, this, List.filter_nil, List.length_append]; rfl
end

theorem split_at {c : UInt8} : ∀ {x1 x2 T1 T2 : List UInt8}, c ∉ x1 → c ∉ x2 → (T1 = [] ∨ T1.head? = some c) → (T2 = [] ∨ T2.head? = some c) → x1 ++ T1 = x2 ++ T2 → x1 = x2 ∧ T1 = T2
  | [], [], T1, T2, _, _, _, _, h => ⟨rfl, by simpa using h⟩
  | [], b :: r, T1, T2, _, h2, hT, _, h => by
    simp at h
    subst h
    rcases hT with hT | hT
    · simp at hT
    · simp at hT; subst hT; simp at h2
  | a :: r, [], T1, T2, h1, _, _, hT, h => by
    simp at h
    subst h
    rcases hT with hT | hT
    · simp at hT
    · simp at hT; subst hT; simp at h1
  | a :: r, b :: q, T1, T2, h1, h2, hT1, hT2, h => by
    simp only [List.cons_append, List.cons.injEq] at h
    obtain ⟨rfl, h⟩ := h
    obtain ⟨h3, h4⟩ := split_at (fun hc => h1 (List.mem_cons_of_mem _ hc)) (fun hc => h2 (List.mem_cons_of_mem _ hc)) hT1 hT2 h
    exact ⟨by rw [h3], h4⟩
theorem tail_head (c : UInt8) (r : List (List UInt8)) : Lib.joinTail [c] r = [] ∨ (Lib.joinTail [c] r).head? = some c := by
  cases r with
  | nil => left; rfl
  | cons x r => right; simp [Lib.joinTail]
theorem tail_inj {c : UInt8} : ∀ {xs ys : List (List UInt8)}, (∀ x ∈ xs, c ∉ x) → (∀ y ∈ ys, c ∉ y) → Lib.joinTail [c] xs = Lib.joinTail [c] ys → xs = ys
  | [], [], _, _, _ => rfl
  | [], y :: r, _, _, h => by simp [Lib.joinTail] at h
  | x :: r, [], _, _, h => by simp [Lib.joinTail] at h
  | x :: r, y :: q, hx, hy, h => by
    have e1 : Lib.joinTail [c] (x :: r) = c :: (x ++ Lib.joinTail [c] r) := by simp [Lib.joinTail]
    have e2 : Lib.joinTail [c] (y :: q) = c :: (y ++ Lib.joinTail [c] q) := by simp [Lib.joinTail]
    rw [e1, e2, List.cons.injEq] at h
    obtain ⟨h3, h4⟩ := split_at (hx x (by simp)) (hy y (by simp)) (tail_head c r) (tail_head c q) h.2
    rw [h3, tail_inj (fun z hz => hx z (List.mem_cons_of_mem _ hz)) (fun z hz => hy z (List.mem_cons_of_mem _ hz)) h4]
theorem join_inj {c : UInt8} {xs ys : List (List UInt8)} (hl : xs.length = ys.length) (hx : ∀ x ∈ xs, c ∉ x) (hy : ∀ y ∈ ys, c ∉ y) (h : Lib.join xs [c] = Lib.join ys [c]) : xs = ys := by
  match xs, ys, hl with
  | [], [], _ => rfl
  | x :: r, y :: q, _ =>
    rw [Lib.join_cons, Lib.join_cons] at h
    obtain ⟨h3, h4⟩ := split_at (hx x (by simp)) (hy y (by simp)) (tail_head c r) (tail_head c q) h
    rw [h3, tail_inj (fun z hz => hx z (List.mem_cons_of_mem _ hz)) (fun z hz => hy z (List.mem_cons_of_mem _ hz)) h4]
theorem plainT_no32 (ds : List Int) : (32 : UInt8) ∉ (plainT ds).data.toList := by
  unfold plainT
  split
  · next h =>
    simp only [plainOk, Bool.and_eq_true] at h
    have h2 := h.2
    simp only [numOk, Bool.and_eq_true, List.all_eq_true] at h2
    intro hm
    have := h2.1 _ hm
    revert this; decide
  · simp
theorem tbI_no32 (s t : ByteArray) (way : Int) : (32 : UInt8) ∉ (tbI s t way).data.toList := plainT_no32 _
theorem lot_iff (xs : List Tst) (o way : Nat) : lotI xs o = lotI xs way ↔ ansI xs o = ansI xs way := by
  constructor
  · intro h
    have h1 : Lib.join ((ansI xs o).map (·.data.toList)) [32] = Lib.join ((ansI xs way).map (·.data.toList)) [32] := by
      have := congrArg (fun z : ByteArray => z.data.toList) h
      simp only [lotI, joinS, mkL_list] at this
      exact this
    have hno : ∀ w, ∀ x ∈ (ansI xs w).map (·.data.toList), (32 : UInt8) ∉ x := by
      intro w x hx
      simp only [ansI, List.map_map, List.mem_map] at hx
      obtain ⟨y, _, rfl⟩ := hx
      exact tbI_no32 _ _ _
    have h2 := join_inj (by simp [ansI]) (hno o) (hno way) h1
    have h3 := congrArg (fun l => l.map mkL) h2
    simpa [List.map_map, Function.comp_def, mkL_data] using h3
  · intro h; unfold lotI; rw [h]
theorem fresh_lot (xs : List Tst) (way : Nat) : freshI xs way = (List.range way).all fun o => decide (lotI xs o ≠ lotI xs way) := by
  unfold freshI
  congr 1
  funext o
  have := lot_iff xs o way
  rw [Bool.eq_iff_iff, decide_eq_true_iff, decide_eq_true_iff]
  exact not_congr this.symm
theorem apart_keys (xs : List Tst) (k : Nat) : apartTo xs k = (keysTo (lotI xs) k).length := by
  rw [keysTo_len]
  unfold apartTo
  congr 2
  funext w
  exact fresh_lot xs w
theorem ansd_ok (xs : List Tst) (way : Nat) : testsOkB (ansd xs way) = testsOkB xs := by
  unfold testsOkB ansd
  rw [List.all_map, List.length_map]; rfl
theorem exp_ansd {xs : List Tst} (h : testsOkB xs = true) (o way : Nat) : expI (ansd xs o) (way : Int) = decide (ansI xs o = ansI xs way) := by
  unfold expI
  rw [ansd_ok, h, Bool.true_and, Bool.eq_iff_iff, decide_eq_true_iff]
  unfold ansd ansI
  rw [List.all_map, List.all_eq_true, List.map_inj_left]
  constructor
  · intro hx x hm
    have := hx x hm
    simp only [Function.comp, expOne, decide_eq_true_eq] at this
    exact this.symm
  · intro hx x hm
    have := hx x hm
    simp only [Function.comp, expOne, decide_eq_true_eq]
    exact this.symm
/-- No way below k has the same answers as the way. -/
def freshTo (xs : List Tst) (way k : Nat) : Bool := (List.range k).all fun o => decide (ansI xs o ≠ ansI xs way)
theorem freshTo_zero (xs : List Tst) (way : Nat) : freshTo xs way 0 = true := rfl
theorem freshTo_succ (xs : List Tst) (way k : Nat) : freshTo xs way (k + 1) = (freshTo xs way k && decide (ansI xs k ≠ ansI xs way)) := by
  unfold freshTo; rw [List.range_succ, List.all_append]; simp
theorem freshTo_end (xs : List Tst) (way : Nat) : freshTo xs way way = freshI xs way := rfl
theorem small_ansd {xs : List Tst} (h : Small xs) (way : Nat) : Small (ansd xs way) := by
  intro x hx
  unfold ansd at hx
  rw [List.mem_map] at hx
  obtain ⟨y, hy, rfl⟩ := hx
  have hs := h y hy
  refine ⟨hs.1, hs.2.1, ?_⟩
  show (tbI y.1 y.2.1 (way : Int)).size ≤ 1048576
  unfold tbI plainT
  split
  · next h =>
    simp only [plainOk, Bool.and_eq_true] at h
    have := num_len h.2
    omega
  · show (0 : Nat) ≤ _; omega

/-- How many faults a way has. -/
def fltI (way : Int) : Int := way % 2 + way / 2 % 2 + way / 4 % 2 + way / 8
/-- The first way with fewest faults of the first k. -/
def simTo (ws : List Int) : Nat → Int
  | 0 => -1
  | k + 1 => if simTo ws k < 0 ∨ fltI (ws.getD k 0) < fltI (simTo ws k) then ws.getD k 0 else simTo ws k
def simI (xs : List Tst) : Int := simTo (waysI xs 16) (waysI xs 16).length
theorem waysI_bd (xs : List Tst) (k : Nat) : ∀ y ∈ waysI xs k, 0 ≤ y ∧ y < (k : Int) := by
  intro y hy
  unfold waysI at hy
  rw [List.mem_map] at hy
  obtain ⟨n, hn, rfl⟩ := hy
  have := List.mem_range.1 (List.mem_filter.1 hn).1
  omega
theorem getD_mem {l : List Int} {k : Nat} (h : k < l.length) : l.getD k 0 ∈ l := by
  have e : l.getD k 0 = l[k] := by simp [List.getD_eq_getElem?_getD, h]
  rw [e]; exact List.getElem_mem h
theorem simTo_bd {ws : List Int} (h : ∀ y ∈ ws, 0 ≤ y ∧ y < 16) : ∀ k, k ≤ ws.length → (k = 0 ∧ simTo ws k = -1) ∨ (0 < k ∧ 0 ≤ simTo ws k ∧ simTo ws k < 16)
  | 0, _ => .inl ⟨rfl, rfl⟩
  | k + 1, hk => by
    have ih := simTo_bd h k (by omega)
    have hm := h _ (getD_mem (l := ws) (k := k) (by omega))
    right
    refine ⟨by omega, ?_⟩
    simp only [simTo]
    split
    · exact hm
    · next hn => omega
theorem simTo_one {ws : List Int} : simTo ws 1 = ws.getD 0 0 := by simp [simTo]
end Go.Proofs.YtdngnmpmaacapaaGreatDoor
