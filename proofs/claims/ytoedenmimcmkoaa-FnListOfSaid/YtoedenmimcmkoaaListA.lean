/-
  Contracts: cmp.Compare, the order of ListOf, the sort of slices for at most 12 numbers, ListOf of the program.
-/
import Derived.Test.YtoedenmimcmkoaaListP
import Derived.RegionTactic
namespace Go.Proofs.Ytoedenmimcmkoaa
open Go.RowKit

def cmpZ (a b : Int) : Int := if a < b then -1 else if b < a then 1 else 0
theorem isNaN_any (n : Int) (w : World) : Calls Try.prog 86 #[.int .i64 n] w fun e w' => e = .returned (.bool false) ∧ w = w' := by
  have h : (n != n) = false := by simp
  go_enter Try.func86, Try.ntmps86
  go_wp2
  go_ret
  exact ⟨rfl, rfl⟩
theorem compare_any (a b : Int) (w : World) : Calls Try.prog 73 #[.int .i64 a, .int .i64 b] w fun e w' => e = .returned (.int .i64 (cmpZ a b)) ∧ w = w' := by
  by_cases h : a < b
  · have e := Lib.hid (show -1 = cmpZ a b by simp [cmpZ, h])
    go_enter Try.func73, Try.ntmps73
    go_wp2_with (go_at_call 86; refine (isNaN_any _ _).mono ?_; rintro e w' ⟨rfl, rfl⟩)
    go_ret
    exact ⟨ret_int e.out, rfl⟩
  · by_cases h2 : b < a
    · have e := Lib.hid (show 1 = cmpZ a b by simp [cmpZ, h, h2])
      have h' : b ≤ a := by omega
      clear h
      go_enter Try.func73, Try.ntmps73
      go_wp2_with (go_at_call 86; refine (isNaN_any _ _).mono ?_; rintro e w' ⟨rfl, rfl⟩)
      go_ret
      exact ⟨ret_int e.out, rfl⟩
    · have e := Lib.hid (show 0 = cmpZ a b by simp [cmpZ, h, h2])
      have h' : b ≤ a := by omega
      have h2' : a ≤ b := by omega
      clear h h2
      go_enter Try.func73, Try.ntmps73
      go_wp2_with (go_at_call 86; refine (isNaN_any _ _).mono ?_; rintro e w' ⟨rfl, rfl⟩)
      go_ret
      exact ⟨ret_int e.out, rfl⟩

/-- The order: the greater mark first. -/
theorem order_any (B : Nat) (a : Option Addr) (cap : Nat) (ms : List Int) (i j : Nat) (hi : i < ms.length) (hj : j < ms.length) (hm : ms.length ≤ 1048576) (w : World)
    (hp : w.cell? ⟨B, 0, none⟩ = some (.slice a ms.length cap)) (hs : Sl w a (ints ms)) :
    Calls Try.prog 72 #[.int .i64 (i : Int), .int .i64 (j : Int), .pointer (some ⟨B, 0, none⟩)] w fun e w' => e = .returned (.int .i64 (cmpZ (ms.getD j 0) (ms.getD i 0))) ∧ ∃ m, w' = w.drewN m := by
  obtain ⟨b, off, rfl, hc1⟩ := hs.int i hi
  obtain ⟨b', off', hab, hc2⟩ := hs.int j hj
  cases hab
  generalize ms.getD i 0 = x at *
  generalize ms.getD j 0 = y at *
  have hi' : (i : Int) < (ms.length : Int) := by omega
  have hj' : (j : Int) < (ms.length : Int) := by omega
  have CH : Hid (∀ W, Calls Try.prog 73 #[.int .i64 y, .int .i64 x] W fun e w' => e = .returned (.int .i64 (cmpZ y x)) ∧ W = w') := fun W => compare_any y x W
  clear hs
  go_enter Try.func72, Try.ntmps72
  go_wp2
  go_quiet ((go_at_call 73; exact quiet_left (CH.out _)))
  go_wp2
  go_ret
  exact ⟨rfl, _, rfl⟩

theorem quiet_more {P : Program} {f : FuncId} {args : Array Value} {w : World} {n : Nat} {v : Value} (h : Calls P f args (w.drewN n) fun e w' => e = .returned v ∧ ∃ m, w' = (w.drewN n).drewN m) :
    Calls P f args (w.drewN n) fun e w'' => e = .returned v ∧ ∃ m, w'' = w.drewN m := h.mono fun _ _ ⟨he, m, hm⟩ => ⟨he, n + m, by rw [hm, World.drewN_drewN]⟩
theorem swap_row (A B R : List Int) (x y : Int) (j : Nat) (hj : A.length = j) : ((ints ((A ++ [y]) ++ (x :: B) ++ R)).set (j + 1) (.int .i64 y)).set j (.int .i64 x) = ints (A ++ (x :: (y :: B)) ++ R) := by
  subst hj
  simp [ints, List.set_append_right]
theorem swap_row' (A B R : List Int) (x y : Int) (j : Nat) (hj : A.length = j) : ((ints ((A ++ [y]) ++ (x :: B) ++ R)).set j (.int .i64 x)).set (j + 1) (.int .i64 y) = ints (A ++ (x :: (y :: B)) ++ R) := by
  subst hj
  simp [ints, List.set_append_right]
theorem own_cellI {w : World} {B : Nat} {g n cap : Nat} {xs : List Int} (ho : w.ownsRow B 3 1 (.slice (some ⟨g, 0, none⟩) n cap) n (ints xs)) (j : Nat) (hj : j < n) : w.cell? ⟨g, j, none⟩ = some (.int .i64 (xs.getD j 0)) := by
  have hl : xs.length = n := by have := ho.1; rw [ints_length] at this; omega
  rw [ho.cellAt j (by omega)]; simp [ints, List.getD_eq_getElem?_getD, show j < xs.length by omega]
theorem row_at {A R : List Int} {x : Int} {j : Nat} (hj : A.length = j) : (A ++ x :: R).getD j 0 = x := by subst hj; simp [List.getD_eq_getElem?_getD]

set_option maxHeartbeats 2000000 in
theorem insert_any (G B : Nat) (a : Option Addr) (cap : Nat) (ms : List Int) (w : World) (hp : w.cell? ⟨B, 0, none⟩ = some (.slice a ms.length cap)) (hs : Sl w a (ints ms)) (hB : B < G) (ha : ∀ p, a = some p → 0 < ms.length → p.block < G) (hm : ms.length ≤ 12)
    (hok : marksOkB ms = true) (ho : w.ownsRow G 3 1 (.slice (some ⟨G, 0, none⟩) ms.length ms.length) ms.length (ints (upI 0 ms.length))) :
    Calls Try.prog 91 #[.slice (some ⟨G, 0, none⟩) ms.length ms.length, .int .i64 0, .int .i64 ms.length, .func (.func 72) #[] #[.pointer (some ⟨B, 0, none⟩)]] w
      fun e w' => (∃ v, e = .returned v) ∧ w'.ownsRow G 3 1 (.slice (some ⟨G, 0, none⟩) ms.length ms.length) ms.length (ints (listI ms)) ∧ Fr w.heap.size (some G) w w' := by
  have hG : G < w.heap.size := (own_lt ho G rfl).2
  have HP := Lib.hid hp; have HS := Lib.hid hs; have HA := Lib.hid ha; have HO := Lib.hid ho; clear hp hs ha ho
  have SA := Lib.hid (fun S (h : Sorting ms S ms.length) => h.done hok); clear hok
  by_cases h0 : ms.length = 0
  · have hz : (ms.length : Int) ≤ 1 := by omega
    have e := Lib.hid (SA.out [] (by rw [h0]; exact Sorting.start ms))
    have e2 := Lib.hid (show ints (upI 0 ms.length) = ints (listI ms) by rw [← e.out, h0]; rfl)
    clear h0
    go_enter Try.func91, Try.ntmps91
    go_wp2
    go_loopw [8] (fun v wr => v = .int .i64 1 ∧ wr = w) (fun _ _ => 0)
    case atStart => exact ⟨rfl, rfl⟩
    case round =>
      obtain ⟨rfl, rfl⟩ := hrel
      go_wp2
      go_end0
      exact ⟨⟨_, rfl⟩, by rw [← e2.out]; exact HO.out, Fr.refl _ _ _⟩
  · have h1 : 1 ≤ ms.length := by omega
    clear h0
    go_enter Try.func91, Try.ntmps91
    go_wp2
    go_loopw [8] (fun v wr => ∃ (i : Nat) (S : List Int), 1 ≤ i ∧ i ≤ ms.length ∧ v = .int .i64 i ∧ wr.ownsRow G 3 1 (.slice (some ⟨G, 0, none⟩) ms.length ms.length) ms.length (ints (S ++ upI i (ms.length - i))) ∧ Hid (Sorting ms S i) ∧ Fr w.heap.size (some G) w wr) (fun v _ => ms.length - (intOf v).toNat)
    case atStart => exact ⟨1, [0], Nat.le_refl _, h1, rfl, by have := HO.out; rw [show ms.length = (ms.length - 1) + 1 by omega, upI_succ] at this; rw [show ms.length = (ms.length - 1) + 1 by omega]; exact this, Sorting.one ms, Fr.refl _ _ _⟩
    case round =>
      obtain ⟨i, S, hi1, hi2, rfl, ho, hS, hF⟩ := hrel
      have HO2 := Lib.hid ho; have HF2 := Lib.hid hF; clear ho hF
      by_cases hlt : i < ms.length
      · have hlt' : (i : Int) < (ms.length : Int) := by omega
        have e0 := Lib.hid (show S ++ upI i (ms.length - i) = S ++ ((i : Int) :: []) ++ upI (i + 1) (ms.length - i - 1) by
          rw [show ms.length - i = (ms.length - i - 1) + 1 by omega, upI_succ]; simp)
        go_wp2
        go_loopw [9] (fun v wq => ∃ (j : Nat) (A Bt : List Int), Hid (S = A ++ Bt) ∧ A.length = j ∧ j ≤ i ∧ v = .int .i64 j ∧ wq.ownsRow G 3 1 (.slice (some ⟨G, 0, none⟩) ms.length ms.length) ms.length (ints (A ++ ((i : Int) :: Bt) ++ upI (i + 1) (ms.length - i - 1))) ∧ Hid (∀ b ∈ Bt, markAt ms b < markAt ms i) ∧ Fr w.heap.size (some G) w wq) (fun v _ => (intOf v).toNat)
        case atStart => exact ⟨i, S, [], by show S = S ++ []; simp, hS.out.len, Nat.le_refl _, rfl, by have := HO2.out; rw [e0.out] at this; exact this, by intro b hb; simp at hb, HF2.out⟩
        case round =>
          obtain ⟨j, A, Bt, hAB, hAj, hji, rfl, ho, hBt, hF⟩ := hrel
          have HO3 := Lib.hid ho; have HF3 := Lib.hid hF; have z3 := hF.size; clear ho hF
          have HAJ := Lib.hid hAj; clear hAj
          have last : (∀ y, A.getLast? = some y → markAt ms i ≤ markAt ms y) → Hid (Sorting ms (A ++ ((i : Int) :: Bt)) (i + 1)) := fun h => hS.out.next hAB.out hBt.out h
          have LAST := Lib.hid last; clear last
          have e1 := Lib.hid (show A ++ ((i : Int) :: Bt) ++ upI (i + 1) (ms.length - i - 1) = (A ++ ((i : Int) :: Bt)) ++ upI (i + 1) (ms.length - (i + 1)) by rw [show ms.length - i - 1 = ms.length - (i + 1) by omega])
          by_cases hj0 : j = 0
          · subst hj0
            have hA0 : A = [] := List.eq_nil_of_length_eq_zero HAJ.out
            have hN := LAST.out (by rw [hA0]; intro y hy; simp at hy)
            clear hA0
            go_wp2
            go_quiet (fail)
            go_wp2
            go_roundw
            case rel => exact ⟨i + 1, A ++ ((i : Int) :: Bt), by omega, by omega, by go_num, by have := own_drewN HO3.out 1; rw [e1.out] at this; exact this, hN, HF3.out.drewN _⟩
            case measure => simp [intOf]; omega
          · obtain ⟨q, rfl⟩ : ∃ q, j = q + 1 := ⟨j - 1, by omega⟩
            obtain ⟨A', y, hAe⟩ : ∃ A' y, A = A' ++ [y] := by
              rcases List.eq_nil_or_concat A with e | ⟨A', y, e⟩
              · have := HAJ.out; rw [e] at this; simp at this
              · exact ⟨A', y, by rw [e, List.concat_eq_append]⟩
            have hA'q := Lib.hid (show A'.length = q by have := HAJ.out; rw [hAe] at this; simpa using this)
            have hyS : y ∈ S := by rw [hAB.out, hAe]; simp
            obtain ⟨hy0, hyi⟩ := (hS.out.mem y).1 hyS
            obtain ⟨yn, rfl⟩ := Int.eq_ofNat_of_zero_le hy0
            have hyn : yn < ms.length := by omega
            have erow : A ++ ((i : Int) :: Bt) ++ upI (i + 1) (ms.length - i - 1) = (A' ++ [(yn : Int)]) ++ ((i : Int) :: Bt) ++ upI (i + 1) (ms.length - i - 1) := by rw [hAe]
            have ho := HO3.out
            rw [erow] at ho
            have hc1 : wr.cell? ⟨G, q, none⟩ = some (.int .i64 (yn : Int)) := by
              rw [own_cellI ho q (by omega), List.append_assoc, List.append_assoc, List.singleton_append, row_at hA'q.out]
            have hc2 : wr.cell? ⟨G, q + 1, none⟩ = some (.int .i64 (i : Int)) := by
              rw [own_cellI ho (q + 1) (by omega), List.append_assoc, List.cons_append, row_at (by simp; exact hA'q.out)]
            have hf1 := ho.frozenAt q
            have hf2 := ho.frozenAt (q + 1)
            have CH : Hid (∀ n, Calls Try.prog 72 #[.int .i64 (i : Int), .int .i64 (yn : Int), .pointer (some ⟨B, 0, none⟩)] (wr.drewN n) fun e w' => e = .returned (.int .i64 (cmpZ (ms.getD yn 0) (ms.getD i 0))) ∧ ∃ m, w' = (wr.drewN n).drewN m) := by
              intro n
              refine order_any B a cap ms i yn hlt hyn (by omega) _ ?_ ?_
              · have := HF3.out.cell (p := ⟨B, 0, none⟩) (by simp; omega) (by simp; omega)
                exact this.trans HP.out
              · exact (HS.out.frL HF3.out (fun p hp hl => by have := HA.out p hp (by simpa [ints] using hl); exact ⟨by omega, by simp; omega⟩)).drewN n
            have hcall : ∀ args W, (callFunc 72 args).run Try.prog W = .ok (.enter 72 args) W := enters_by Try.func72 (by kernel_rfl) rfl
            have hmi : markAt ms i = ms.getD i 0 := rfl
            have hmy : markAt ms yn = ms.getD yn 0 := rfl
            by_cases hc : ms.getD yn 0 < ms.getD i 0
            · have hst1 := Lib.hid (swap_row A' Bt (upI (i + 1) (ms.length - i - 1)) (i : Int) (yn : Int) q hA'q.out)
              have hst2 := Lib.hid (swap_row' A' Bt (upI (i + 1) (ms.length - i - 1)) (i : Int) (yn : Int) q hA'q.out)
              have hcz : cmpZ (ms.getD yn 0) (ms.getD i 0) = -1 := by unfold cmpZ; rw [if_pos hc]
              rw [hcz] at CH
              have hB2 : Hid (∀ b ∈ (yn : Int) :: Bt, markAt ms b < markAt ms i) := by
                intro b hb
                rcases List.mem_cons.1 hb with e | e
                · subst e; rw [hmi, hmy]; exact hc
                · exact hBt.out b e
              have hAB2 : Hid (S = A' ++ ((yn : Int) :: Bt)) := show S = A' ++ ((yn : Int) :: Bt) from hAB.out.trans (by rw [hAe, List.append_assoc]; rfl)
              have HO4 := Lib.hid ho
              clear hmi hmy hc hcz ho erow
              go_wp2
              go_quiet ((go_at_call 72; exact quiet_more (CH.out _)))
              go_wp2
              go_region
              have hrow := fun m => (((own_drewN HO4.out m).stored (q + 1) (.int .i64 (yn : Int))).1.stored q (.int .i64 (i : Int))).1
              rw [hst1.out] at hrow
              have HROW := Lib.hid hrow
              clear hrow
              go_wp2
              go_roundw
              case rel => exact ⟨q, A', (yn : Int) :: Bt, hAB2, hA'q.out, by omega, by go_num, HROW.out _, hB2, ((HF3.out.drewN _).setCell (p := ⟨G, q + 1, none⟩) (.inr rfl) _).setCell (p := ⟨G, q, none⟩) (.inr rfl) _⟩
              case measure => simp [intOf]
            · have hcz : (0 : Int) ≤ cmpZ (ms.getD yn 0) (ms.getD i 0) := by unfold cmpZ; rw [if_neg hc]; split <;> omega
              have hN := LAST.out (by rw [hAe]; intro y hy; simp at hy; subst hy; rw [hmi, hmy]; omega)
              clear hmi hmy hc ho erow
              generalize cmpZ (ms.getD yn 0) (ms.getD i 0) = cz at *
              go_wp2
              go_quiet ((go_at_call 72; exact quiet_more (CH.out _)))
              go_wp2
              go_roundw
              case rel => exact ⟨i + 1, A ++ ((i : Int) :: Bt), by omega, by omega, by go_num, by have := own_drewN HO3.out 1; rw [e1.out] at this; exact this, hN, HF3.out.drewN _⟩
              case measure => simp [intOf]; omega
      · have hge : (ms.length : Int) ≤ (i : Int) := by omega
        have hie : i = ms.length := by omega
        have hfin := Lib.hid (show ints (S ++ upI i (ms.length - i)) = ints (listI ms) by
          rw [show upI i (ms.length - i) = [] by rw [show ms.length - i = 0 by omega]; rfl, List.append_nil, SA.out S (hie ▸ hS.out)])
        clear hie
        go_wp2
        go_end0
        exact ⟨⟨_, rfl⟩, by rw [← hfin.out]; exact HO2.out, HF2.out⟩
end Go.Proofs.Ytoedenmimcmkoaa
