/-
  Contracts: the draws of exercises and boards: a short new slice of short exercises.
-/
import Derived.Test.YtdngnmpmaacapaaGreatDoorDrawNum
import Derived.Test.YtdngnmpmaacapaaGreatDoorBoardC
import Derived.Test.YtdngnmpmaacapaaGreatDoorApp
namespace Go.Proofs.YtdngnmpmaacapaaGreatDoor
open Go.RowKit

def Tiny (xs : List Tst) : Prop := ∀ x ∈ xs, tiny x
theorem tiny_nil : Tiny [] := by intro x hx; simp at hx
theorem tiny_snoc {xs : List Tst} {x : Tst} (h : Tiny xs) (hx : tiny x) : Tiny (xs ++ [x]) := by
  intro y hy; rcases List.mem_append.1 hy with h1 | h1
  · exact h y h1
  · simp at h1; subst h1; exact hx
theorem Tiny.small {xs : List Tst} (h : Tiny xs) : Small xs := fun x hx => tiny_small (h x hx)
theorem Tiny.at {xs : List Tst} (h : Tiny xs) (k : Nat) : tiny (xs.getD k noTest) := by
  by_cases hk : k < xs.length
  · have : xs.getD k noTest = xs[k] := by simp [List.getD_eq_getElem?_getD, hk]
    rw [this]; exact h _ (List.getElem_mem hk)
  · have : xs.getD k noTest = noTest := by simp [List.getD_eq_getElem?_getD, Nat.le_of_not_lt hk]
    rw [this]; exact ⟨Nat.zero_le _, Nat.zero_le _, Nat.zero_le _⟩
def setAns (xs : List Tst) (k : Nat) (u : ByteArray) : List Tst := xs.set k ((xs.getD k noTest).1, (xs.getD k noTest).2.1, u)
theorem setAns_len (xs : List Tst) (k : Nat) (u : ByteArray) : (setAns xs k u).length = xs.length := by simp [setAns]
theorem tests_set : ∀ (xs : List Tst) (k : Nat) (u : ByteArray), k < xs.length → (tests xs).set (k * 3 + 2) (.string u) = tests (setAns xs k u)
  | [], k, u, h => by simp at h
  | x :: xs, 0, u, _ => rfl
  | x :: xs, k + 1, u, h => by
    have h1 : tests (x :: xs) = [.string x.1, .string x.2.1, .string x.2.2] ++ tests xs := rfl
    have h2 : setAns (x :: xs) (k + 1) u = x :: setAns xs k u := by simp [setAns]
    have h3 : tests (x :: setAns xs k u) = [.string x.1, .string x.2.1, .string x.2.2] ++ tests (setAns xs k u) := rfl
    rw [h1, h2, h3, ← tests_set xs k u (by simpa using h), show (k + 1) * 3 + 2 = k * 3 + 2 + 1 + 1 + 1 by omega]
    rfl
theorem setAns_tiny {xs : List Tst} (h : Tiny xs) (k : Nat) {u : ByteArray} (hu : u.size ≤ 10) : Tiny (setAns xs k u) := by
  intro x hx
  rcases List.mem_or_eq_of_mem_set hx with h1 | h1
  · exact h x h1
  · subst h1; exact ⟨(h.at k).1, (h.at k).2.1, hu⟩
theorem row_past {w w' : World} {base : Nat} {e : TypeId} {k n B : Nat} {v : Value} {cs : List Value} (h : w.ownsRow base e k v n cs) (hF : Fr w.heap.size (some B) w w') (hB : B < base) : w'.ownsRow base e k v n cs :=
  own_frB h hF fun g hg => by have := h.lt g hg; exact ⟨this.2, by simp; omega⟩
theorem row_keep {w w' : World} {base : Nat} {e : TypeId} {k n : Nat} {v : Value} {cs : List Value} (h : w.ownsRow base e k v n cs) (hF : Fr w.heap.size none w w') : w'.ownsRow base e k v n cs :=
  own_frB h hF fun g hg => by have := h.lt g hg; exact ⟨this.2, by simp⟩
theorem row_stored {w : World} {base : Nat} {e : TypeId} {size n cap g : Nat} {cs : List Value} (h : w.ownsRow base e size (.slice (some ⟨g, 0, none⟩) n cap) n cs) (j : Nat) (u : Value) : (w.setCell ⟨g, j, none⟩ u).ownsRow base e size (.slice (some ⟨g, 0, none⟩) n cap) n (cs.set j u) := by
  refine ⟨by simpa using h.1, ?_⟩
  rcases h.2 with ⟨h', _⟩ | ⟨g', cap', cur, h', hb, hg, hnc, hcm, hcs, htake⟩
  · simp at h'
  · simp only [Value.slice.injEq, Option.some.injEq, Addr.mk.injEq, and_true, true_and] at h'
    obtain ⟨rfl, rfl⟩ := h'
    refine .inr ⟨g, cap, cur.setIfInBounds j u, rfl, hb, heap_setCell_same w g j cur e u hg, hnc, hcm, by simpa using hcs, ?_⟩
    rw [Array.toList_setIfInBounds, List.take_set, htake]
/-- A new slice of short exercises. -/
def NewTiny (m : Nat) (w : World) (base : Nat) (v : Value) : Prop := ∃ a cap, ∃ ys : List Tst, v = .slice a ys.length cap ∧ w.ownsRow base 52 3 (.slice a ys.length cap) ys.length (tests ys) ∧ ys.length ≤ m ∧ Tiny ys
theorem app_tests {w' : World} {base : Nat} {v' : Value} {xs : List Tst} {x1 x2 x3 : ByteArray} (h : w'.ownsRow base 52 3 v' (xs.length + 1) (tests xs ++ [.string x1, .string x2, .string x3])) :
    ∃ a c, v' = .slice a (xs ++ [(x1, x2, x3)]).length c ∧ w'.ownsRow base 52 3 (.slice a (xs ++ [(x1, x2, x3)]).length c) (xs ++ [(x1, x2, x3)]).length (tests (xs ++ [(x1, x2, x3)])) := by
  have hl : (xs ++ [(x1, x2, x3)]).length = xs.length + 1 := by simp
  obtain ⟨a, c, rfl, _, _⟩ := own_slice h
  exact ⟨a, c, by rw [hl], by rw [hl, tests, rows_append, rows_one]; exact h⟩

theorem stepOwn {ops : Array Oper} {o : Oper} {a : Act} {w : World} {K : Act → World → Prop} {Q : Exit → Act → World → Prop} {E : Prop} {B : Nat}
    (hg : o.guard = none) (s x : Operand) (hop : o.op = Op.call { callee := Callee.builtin Builtin.append, args := #[s, x], argTypes := #[23, 23] })
    (v : Value) (n : Nat) (xs : List Tst) (x1 x2 x3 : ByteArray) (g : Nat) (hs : a.eval s = v) (ho : w.ownsRow B 52 3 v n (tests xs)) (hx : a.eval x = .slice (some ⟨g, 0, none⟩) 1 1)
    (hb : w.heap[g]? = some (.cells #[.string x1, .string x2, .string x3] 52 (0, 0))) (hn : n ≤ 1048575) (hB : B ≤ w.heap.size)
    (hK : ∀ v' w', w'.ownsRow B 52 3 v' (n + 1) (tests xs ++ [.string x1, .string x2, .string x3]) → Fr w.heap.size v.ownBlock w w' → K (a.put o.dst v') w') :
    if Region.wanted o (yielded ops a.tmps) = true then Oper.wp Tryz.prog o a w K Q else E := by
  have hw : Region.wanted o (yielded ops a.tmps) = true := by simp [Region.wanted, hg]
  rw [if_pos hw]
  obtain ⟨i0, hi, hz0, hz1, hz2⟩ := info_parts infoTest
  refine wp_append_own w s x 23 hop B 52 i0 (.agg #[.string ByteArray.empty, .string ByteArray.empty, .string ByteArray.empty]) 3 48 Tryz.underlying23 hi hz0 hz1 hz2 rfl (by decide) v n (tests xs) hs ho ⟨g, 0, none⟩ 1 1 [.string x1, .string x2, .string x3] hx rfl (World.news_of_block (cs := #[.string x1, .string x2, .string x3]) (t := 52) (fr := (0, 0)) hb) (by simp [Value.oneCell']) (by simp [maxLen]; omega) (by omega) hB ?_
  intro v' w' hown hgrow _
  exact hK v' w' hown ((Fr.refl _ _ w).grown hgrow (Nat.le_refl _) (fun k hk => .inr hk.symm))

set_option maxHeartbeats 2000000 in
set_option maxRecDepth 100000 in
theorem answeredBy_any (a : Option Addr) (cap : Nat) (xs : List Tst) (way : Int) (w : World) (hs : Sl w a (tests xs)) (hm : xs.length ≤ 20) (hz : Tiny xs) :
    Calls Tryz.prog 89 #[.slice a xs.length cap, .int .i64 way] w fun e w' => ∃ v, e = .returned v ∧ NewTiny xs.length w' w.heap.size v ∧ Fr w.heap.size none w w' := by
  have HS := Lib.hid hs; have HZ := Lib.hid hz; clear hs hz
  obtain ⟨r1, hr1⟩ : ∃ r, testsOkB xs = r := ⟨_, rfl⟩
  obtain ⟨r2, hr2⟩ : ∃ r, inB way 0 15 = r := ⟨_, rfl⟩
  have R1 := Lib.hid hr1; have R2 := Lib.hid hr2; clear hr1 hr2
  go_enter Tryz.func89, Tryz.ntmps89
  go_wp2
  go_loopw [5, 6] (fun v i wr => ∃ (k : Nat) (a' : Option Addr) (c' : Nat) (ys : List Tst), k ≤ xs.length ∧ i = .int .i64 k ∧ v = .slice a' ys.length c' ∧ wr.ownsRow w.heap.size 52 3 (.slice a' ys.length c') ys.length (tests ys) ∧ ys.length = k ∧ Hid (Tiny ys) ∧ Fr w.heap.size none w wr) (fun _ i _ => xs.length - (intOf i).toNat)
  case atStart => exact ⟨0, some ⟨w.heap.size, 0, none⟩, 0, [], Nat.zero_le _, rfl, rfl, World.ownsRow_made (e := 52) (size := 3) (base := w.heap.size) w #[] 0 (Nat.le_refl _) (by simp [maxLen]) (by simp), rfl, tiny_nil, (Fr.refl w.heap.size none w).alloc (Nat.le_refl _) _⟩
  case round =>
    obtain ⟨k, a', c', ys, hk, rfl, rfl, ho, hl, hT, hF⟩ := hrel
    have HO := Lib.hid ho; have HF := Lib.hid hF; have hz := hF.size; have HL := Lib.hid hl; have hl2 : ys.length ≤ xs.length := by omega
    clear ho hF hl
    by_cases hlt : k < xs.length
    · cases r1
      · have hlt' : (k : Int) < (xs.length : Int) := by omega
        go_wp2_with (go_at_call 54; refine (specTests_val (HS.out.fr HF.out) (by omega) HZ.out.small R1.out).mono ?_; rintro e w2 ⟨rfl, m, rfl⟩)
        go_ret
        exact ⟨_, rfl, ⟨a', c', ys, rfl, HO.out, hl2, hT.out⟩, HF.out.drewN m⟩
      · cases r2
        · have hlt' : (k : Int) < (xs.length : Int) := by omega
          go_wp2_with (first | (go_at_call 54; refine (specTests_val (HS.out.fr HF.out) (by omega) HZ.out.small R1.out).mono ?_; rintro e w2 ⟨rfl, m, rfl⟩) | (go_at_call 86; refine (l1In_val R2.out _).mono ?_; rintro e w' ⟨rfl, rfl⟩))
          go_ret
          exact ⟨_, rfl, ⟨a', c', ys, rfl, HO.out, hl2, hT.out⟩, HF.out.drewN m⟩
        · have hlt' : (k : Int) < (xs.length : Int) := by omega
          go_wp2_with (first | (go_at_call 54; refine (specTests_val (HS.out.fr HF.out) (by omega) HZ.out.small R1.out).mono ?_; rintro e w2 ⟨rfl, m, rfl⟩) | (go_at_call 86; refine (l1In_val R2.out _).mono ?_; rintro e w' ⟨rfl, rfl⟩))
          obtain ⟨w1, hw1⟩ : ∃ w1, w1 = wr.drewN m := ⟨_, rfl⟩
          have F1 := Lib.hid (show Fr w.heap.size none w w1 by rw [hw1]; exact HF.out.drewN m)
          have O1 := Lib.hid (show w1.ownsRow w.heap.size 52 3 (.slice a' ys.length c') ys.length (tests ys) by rw [hw1]; exact own_drewN HO.out m)
          have z1 := F1.out.size
          rw [← hw1]; clear hw1
          have hlo : ∀ q, a = some q → q.block < w.heap.size := by
            intro q hq
            obtain ⟨b', off', e', h0', _⟩ := HS.out.test k hlt
            rw [e'] at hq; cases hq
            exact World.block_lt_of_cell? w ⟨b', off' + k * 3, none⟩ h0'
          obtain ⟨b, off, rfl, hc0, _, _, hc1, hc2⟩ := (HS.out.fr F1.out).test k hlt
          have hbw : b < w.heap.size := hlo _ rfl
          clear hlo
          obtain ⟨t1, t2, t3⟩ := HZ.out.at k
          generalize xs.getD k noTest = x at *
          obtain ⟨x1, x2, x3⟩ := x
          dsimp only at *
          have hb := World.block_lt_of_cell? w1 _ hc0
          have k0 : (0 : Int) ≤ (k : Int) := by omega
          go_wp2
          go_region_held3 (fun w' => w'.cell? ⟨b, off + k * 3, none⟩ = some (.string x1) ∧ w'.cell? ⟨b, off + k * 3 + 1, none⟩ = some (.string x2))
            (first | go_keep | (go_split_ands; refine ⟨?_, ?_⟩ <;> (rw [hF2.cell (by first | (simpa using hb) | (simp; omega)) (by simp)]; assumption)))
            (first | (go_at_call 106; refine (takenBy_any x1 x2 way _ (by omega) (by omega)).mono ?_; rintro e w2 ⟨⟨y, by_, rfl, hy⟩, hF2⟩))
          have F2 := Lib.hid (F1.out.and (((Fr.refl w1.heap.size none w1).drew).and hF2))
          have O2 := Lib.hid (row_keep O1.out (((Fr.refl w1.heap.size none w1).drew).and hF2))
          have d0 : w2.cell? ⟨b, off + k * 3, none⟩ = some (.string x1) := (hF2.cell (p := ⟨b, off + k * 3, none⟩) hb (by simp)).trans hc0
          have d1 : w2.cell? ⟨b, off + k * 3 + 1, none⟩ = some (.string x2) := (hF2.cell (p := ⟨b, off + k * 3 + 1, none⟩) hb (by simp)).trans hc1
          have z2 := F2.out.size
          have hne : some b ≠ (Value.slice a' ys.length c').ownBlock := fun e => by have := (own_lt O2.out b e.symm).1; omega
          have hne := Lib.hid hne
          clear hF2 hc0 hc1 hc2
          go_wp2
          go_region_held3 (fun w' => w'.cell? ⟨b, off + k * 3, none⟩ = some (.string x1) ∧ w'.cell? ⟨b, off + k * 3 + 1, none⟩ = some (.string x2))
            (first | go_keep | (go_split_ands; refine ⟨?_, ?_⟩ <;> (rw [hF'.cell (by simp; omega) (by first | exact hne.out | simpa using hne.out)]; assumption)))
            (first | (refine stepOwn (by rfl) (.tmp 39) (.tmp 52) (by rfl) _ ys.length ys x1 x2 y w2.heap.size (by rfl) ((own_drewN O2.out 1).alloc _) (by rfl) (heap_alloc_new _ _) (by omega) (by simp; omega) ?_; intro v' w' ho' hF'))
          have F3 := Lib.hid (app_frame (F2.out.drew.alloc z2 _) ((own_drewN O2.out 1).alloc _) hF' (by simp; omega))
          obtain ⟨a3, c3, rfl, ho3⟩ := app_tests ho'
          have O3 := Lib.hid ho3
          have T3 := Lib.hid (tiny_snoc hT.out (x := (x1, x2, y)) ⟨t1, t2, by show y.size ≤ 10; omega⟩)
          have L3 := Lib.hid (show (ys ++ [(x1, x2, y)]).length = k + 1 by rw [List.length_append, HL.out]; rfl)
          clear ho' hF' ho3
          go_wp2
          go_roundw
          case rel => exact ⟨k + 1, a3, c3, _, by omega, by go_num, rfl, O3.out, L3.out, T3, F3.out⟩
          case measure => simp [intOf]; omega
    · have hge : (xs.length : Int) ≤ (k : Int) := by omega
      go_wp2
      go_ret
      exact ⟨_, rfl, ⟨a', c', ys, rfl, HO.out, hl2, hT.out⟩, HF.out⟩
end Go.Proofs.YtdngnmpmaacapaaGreatDoor
