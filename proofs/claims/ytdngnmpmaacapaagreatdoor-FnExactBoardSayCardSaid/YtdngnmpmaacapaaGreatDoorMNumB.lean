/-
  Merged: NumB NumC.
-/
import Derived.RangeFuncNested
import Derived.RangeFuncBox
import Derived.RangeFuncBound
import Derived.RangeFuncCalls
import Derived.RangeFuncLeaves
import Derived.Shelf.Abstract
import Derived.Shelf.RegionOpen
import Derived.WalkKit
import Derived.OwnWalkIn
import Derived.TacticsInMore
import Derived.LoopNIn
import Derived.LoopIn
import Derived.Maps.AppendAt
import Derived.Test.YtdngnmpmaacapaaGreatDoorMWroteS
import Derived.Test.YtdngnmpmaacapaaGreatDoorMCore
set_option linter.unusedVariables false
set_option linter.unusedSimpArgs false
/-
  Contracts: numbers of the program: what columns write, the last one ahead: a range over a function of the library.
-/
namespace Go.Proofs.YtdngnmpmaacapaaGreatDoor
open Go.RowKit Go.Shelf

attribute [local go_sem] Oper.semAt_some

theorem written_any (c : Col) (w : World) : Calls Tryz.prog 188 #[.agg #[.int .i64 c.1, .int .i64 c.2.1, .int .i64 c.2.2.1, .int .i64 c.2.2.2.1, .int .i64 c.2.2.2.2]] w fun e w' => e = .returned (.int .i64 c.2.2.2.1) ∧ Fr w.heap.size none w w' := by
  obtain ⟨x1, x2, x3, x4, x5⟩ := c
  dsimp only
  go_enter Tryz.func188, Tryz.ntmps188
  go_wp2
  go_ret
  exact ⟨rfl, (Fr.refl _ _ _).alloc (Nat.le_refl _) _⟩

/-- The columns with their numbers, the last one ahead: the first k of them. -/
def backs (cs : List Col) (k : Nat) : List (Nat × Col) := (List.range k).map fun j => (cs.length - 1 - j, cs.getD (cs.length - 1 - j) noCol)
theorem backs_succ (cs : List Col) (k : Nat) : backs cs (k + 1) = backs cs k ++ [(cs.length - 1 - k, cs.getD (cs.length - 1 - k) noCol)] := by simp [backs, List.range_succ]
theorem backs_len (cs : List Col) (k : Nat) : (backs cs k).length = k := by simp [backs]
/-- What they write. -/
def dgs (xs : List (Nat × Col)) : List Int := xs.map fun x => x.2.2.2.2.1
theorem dgs_snoc (xs : List (Nat × Col)) (x : Nat × Col) : dgs (xs ++ [x]) = dgs xs ++ [x.2.2.2.2.1] := by simp [dgs]
theorem dgs_len (xs : List (Nat × Col)) : (dgs xs).length = xs.length := by simp [dgs]
theorem dgs_backs (cs : List Col) : dgs (backs cs cs.length) = wrote cs := by
  apply List.ext_getElem
  · simp [dgs, backs, wrote]
  · intro j h1 h2
    have hj : j < cs.length := by simpa [dgs, backs] using h1
    have := wrote_at cs j hj
    rw [List.getD_eq_getElem?_getD, List.getElem?_eq_getElem h2] at this
    simp only [Option.getD_some] at this
    rw [this]
    simp [dgs, backs]

/-- Kept by a round: what lay below n, and the block B. -/
def KeptB (n B : Nat) (W W' : World) : Prop := Below n W W' ∧ W'.heap[B]? = W.heap[B]?

set_option maxRecDepth 100000 in
set_option maxHeartbeats 2000000 in
theorem back1_in (n : Nat) (hn : 1 ≤ n) (l Bs n0 : Nat) (a : Option Addr) (cap : Nat) (cs : List Col) (hlen : cs.length ≤ 9) (hb : ∀ p, a = some p → p.block < n0) (J Jx : List (Nat × Col) → World → Prop)
    (hY : ∀ pre x W, J pre W → pre.length < cs.length → YieldAt Fence.wide (n - 1) Tryz.prog l #[.int .i64 (x.1 : Int), colV x.2] W fun e W' =>
      (e = .returned (.bool true) ∧ J (pre ++ [x]) W' ∧ KeptB n0 Bs W W') ∨ (e = .returned (.bool false) ∧ Jx (pre ++ [x]) W'))
    (W : World) (hBs : W.cell? ⟨Bs, 0, none⟩ = some (.slice a cs.length cap)) (hc : Sl W a (cols cs)) (h0 : J [] W) :
    CallsIn Fence.wide n Tryz.prog 239 #[.func (.yield l) #[] #[], .pointer (some ⟨Bs, 0, none⟩)] W fun e W' => (∃ v, e = .returned v) ∧
      ((∃ ys, ys = backs cs cs.length ∧ J ys W') ∨ (∃ pre, (∃ k, k ≤ cs.length ∧ pre = backs cs k) ∧ Jx pre W')) := by
  have HC := Lib.hid hc; clear hc
  refine callsIn_of_wp Tryz.func239 rfl trivial ?_ rfl
  simp only [Tryz.ntmps239, List.size_toArray, List.length_cons, List.length_nil, Nat.reduceAdd, Nat.reduceSub, Array.replicate_succ, Array.replicate_zero, List.push_toArray, List.append_toArray, List.nil_append, List.cons_append]
  gi_wp2
  gi_loopw [3] (fun i wr => ∃ (k : Nat) (z : Int), k ≤ cs.length ∧ i = .int .i64 z ∧ Hid (z = (cs.length : Int) - 1 - (k : Int)) ∧ J (backs cs k) wr ∧ KeptB n0 Bs W wr)
    (fun i _ => (intOf i + 1).toNat)
  case atStart => exact ⟨0, _, Nat.zero_le _, rfl, Lib.hid (by simp), h0, Below.refl _ _, rfl⟩
  case round =>
    obtain ⟨k, z, hk, rfl, hZ, hJs, hnx⟩ := hrel
    have HNX := Lib.hid hnx
    have hBr : wr.cell? ⟨Bs, 0, none⟩ = some (.slice a cs.length cap) := (World.cell?_of_block (w := W) hnx.2).trans hBs
    clear hnx
    by_cases hlt : k < cs.length
    · have hzi : z = ((cs.length - 1 - k : Nat) : Int) := by have := hZ.out; omega
      have hi2 : cs.length - 1 - k < cs.length := by omega
      have HR := Lib.hid (Sl.frB HC.out (Fr.of_below HNX.out.1) (fun p hp => ⟨hb p hp, by simp⟩))
      obtain ⟨b, off, rfl, c0, c1, c2, c3, c4⟩ := HR.out.col (cs.length - 1 - k) hi2
      have HZI := Lib.hid (show ((cs.length - 1 - k : Nat) : Int) - 1 = (cs.length : Int) - 1 - ((k + 1 : Nat) : Int) by omega)
      have HB := Lib.hid (backs_succ cs k)
      subst hzi
      generalize hi : cs.length - 1 - k = i at *
      have hy0 := hY _ (i, cs.getD i noCol) wr hJs (by rw [backs_len]; exact hlt)
      generalize cs.getD i noCol = c at *
      obtain ⟨x1, x2, x3, x4, x5⟩ := c
      dsimp only [colV] at hy0 c0 c1 c2 c3 c4
      obtain ⟨fn, tmps, assign, body, hy, hR⟩ := hy0
      have i0 : (0 : Int) ≤ (i : Int) := by omega
      have i1 : (i : Int) < (cs.length : Int) := by omega
      have HY := Lib.hid hY
      clear hY hZ hi
      gi_wp2
      refine hR.mono ?_
      rintro e W3 (⟨rfl, hJ3, hk3⟩ | ⟨rfl, hJx3⟩)
      · gi_wp2
        go_roundw
        case rel => exact ⟨k + 1, _, by omega, rfl, HZI, by rw [HB.out]; exact hJ3, HNX.out.1.trans hk3.1, hk3.2.trans HNX.out.2⟩
        case measure => simp [intOf] <;> omega
      · gi_wp2
        refine bodyPost_ret (results_none rfl _ _ _) rfl ?_
        exact ⟨⟨_, rfl⟩, .inr ⟨_, ⟨k + 1, by omega, HB.out.symm⟩, hJx3⟩⟩
    · have hke : k = cs.length := by omega
      have hzn : z < 0 := by have := hZ.out; omega
      have hzz : decide (0 ≤ z) = false := by simp; omega
      subst hke
      gi_wp2
      go_end0
      exact ⟨⟨_, rfl⟩, .inl ⟨_, rfl, hJs⟩⟩

theorem back_in (n : Nat) (a : Option Addr) (len cap : Nat) (w : World) :
    CallsIn Fence.wide n Tryz.prog 219 #[.slice a len cap] w fun e w' => e = .returned (.func (.func 239) #[] #[.pointer (some ⟨w.heap.size, 0, none⟩)]) ∧ w' = w.alloc (.cells #[.slice a len cap] 126) := by
  refine callsIn_of_wp Tryz.func219 rfl trivial ?_ rfl
  simp only [Tryz.ntmps219, List.size_toArray, List.length_cons, List.length_nil, Nat.reduceAdd, Nat.reduceSub, Array.replicate_succ, Array.replicate_zero, List.push_toArray, List.append_toArray, List.nil_append, List.cons_append]
  gi_wp2
  go_ret
  exact ⟨rfl, rfl⟩

theorem back_stops (n : Nat) (hn : 1 ≤ n) (Bs n0 : Nat) (a : Option Addr) (cap : Nat) (cs : List Col) (hlen : cs.length ≤ 9) (hb : ∀ p, a = some p → p.block < n0) (w : World) (hBs : Bs < w.heap.size) (hn0 : n0 ≤ w.heap.size)
    (hc : w.cell? ⟨Bs, 0, none⟩ = some (.slice a cs.length cap)) (hI : Sl w a (cols cs)) :
    SeqStopsK Fence.wide n Tryz.prog 239 #[.pointer (some ⟨Bs, 0, none⟩)] (fun x : Nat × Col => #[Value.int .i64 (x.1 : Int), colV x.2]) (KeptB n0 Bs) (fun ys => ys = backs cs cs.length)
      (fun pre => ∃ k, k ≤ cs.length ∧ pre = backs cs k) cs.length w := fun l J Jx W hW _ _ hY h0 =>
  back1_in n hn l Bs n0 a cap cs hlen hb J Jx hY W ((hW.cell (p := ⟨Bs, 0, none⟩) hBs).trans hc)
    (Sl.frB hI (Fr.of_below hW) (fun p hp => ⟨Nat.lt_of_lt_of_le (hb p hp) hn0, by simp⟩)) h0

theorem block_own {B : Nat} (Bx : Nat) (o : Obj) (hc : o.isCells = true) : OwnFrom B (fun (_ : Unit) W => W.heap[Bx]? = some o) := fun _ A X row hs hg hr =>
  (hg.block Bx (Array.getElem?_eq_some_iff.1 hs).1 (fun e => by obtain ⟨_, o', ho, hn⟩ := hr Bx e.symm; rw [hs] at ho; cases ho; rw [hc] at hn; cases hn)).trans hs

/-- The append to a row of the call's own as a step of a region that draws, inside a round. -/
theorem stepOwnIn {F : Fence} {n : Nat} {ops : Array Oper} {o : Oper} {a : Act} {w : World} {K : Act → World → Prop} {Q : Exit → Act → World → Prop} {E : Prop} {B : Nat}
    (hg : o.guard = none) (s x : Operand) (hop : o.op = Op.call { callee := Callee.builtin Builtin.append, args := #[s, x], argTypes := #[73, 73] })
    (v : Value) (k : Nat) (xs : List Value) (d : Value) (g : Nat) (hs : a.eval s = v) (ho : w.ownsRow B 3 1 v k xs) (hx : a.eval x = .slice (some ⟨g, 0, none⟩) 1 1)
    (hb : w.heap[g]? = some (.cells #[d] 3 (0, 0))) (h1 : d.oneCell' = true) (hn : k ≤ 1048575) (hB : B ≤ w.heap.size)
    (hK : ∀ v' w', w'.ownsRow B 3 1 v' (k + 1) (xs ++ [d]) → w.grownBy w' v.ownBlock → K (a.put o.dst v') w') :
    if Region.wanted o (yielded ops a.tmps) = true then Oper.wpIn F n Tryz.prog o a w K Q else E := by
  have hw : Region.wanted o (yielded ops a.tmps) = true := by simp [Region.wanted, hg]
  rw [if_pos hw]
  obtain ⟨i0, hi, hz0, hz1, hz2⟩ := info_parts infoInt
  have hcl : w.cell? ⟨g, 0, none⟩ = some d := by simp [World.cell?, hb]
  obtain ⟨v', w', hrun, r1, r2, r3⟩ := run_append_own (P := Tryz.prog) w B 73 o.type 3 i0 (.int .i64 0) 1 8 Tryz.underlying73 hi hz0 hz1 hz2 rfl (by decide) v k xs ho ⟨g, 0, none⟩ 1 1 [d] rfl
    (fun j u hu => by
      cases j with
      | zero => simp at hu; subst hu; exact hcl
      | succ j => simp at hu) (by simpa using h1) (by simp [maxLen]; omega) (by omega) hB
  unfold Oper.wpIn
  refine ⟨?_, ?_⟩
  · simp [Oper.about, hop, resolve, Target.leads, Sem.run_pure]
  · rw [Oper.semAt_plain F _ _ (by rw [hop]; intro c hc'; cases hc')]
    simp [execOp, hop, resolve, invoke, builtin, hs, hx, hrun, Result.andThen]
    exact hK v' w' r1 r2
end Go.Proofs.YtdngnmpmaacapaaGreatDoor
/-
  Contracts: numbers of the program, called: what columns write.
-/
namespace Go.Proofs.YtdngnmpmaacapaaGreatDoor
open Go.RowKit Go.Shelf

attribute [local go_sem] Oper.semAt_some

theorem round_end {w W W0 W2 W3 : World} {a : Option Addr} {n cap cl : Nat} {l : List (Nat × Col)} {i : Nat} {x1 x2 x3 x4 x5 : Int} {g : Option Addr} {act : Act} {Ix : Code → List (Nat × Col) → World → Prop}
    (hF : Fr W.heap.size none W W2) (hB : Below w.heap.size w W) (bS : Boxed W (w.heap.size + 1 + 1) 126 (.slice a n cap)) (hb : Below w.heap.size W2 W3) (hk : KeepsOthers W2 W3)
    (hv : Boxed W3 (w.heap.size + 1) 73 (.slice g (l.length + 1) cl)) (hr : W3.ownsRow w.heap.size 3 1 (.slice g (l.length + 1) cl) (l.length + 1) (ints (dgs l) ++ [.int .i64 x4]))
    (bF3 : Boxed W3 w.heap.size 164 (.func (.func 188) #[] #[])) (bS3 : Boxed W3 (w.heap.size + 1 + 1) 126 (.slice a n cap)) :
    ownPostG W0.heap.size (KeptB w.heap.size (w.heap.size + 1 + 1))
      (fun pre W => ((((∃ v, Boxed W (w.heap.size + 1) 73 v ∧ W.ownsRow w.heap.size 3 1 v pre.length (ints (dgs pre)) ∧ True) ∧ Boxed W w.heap.size 164 (.func (.func 188) #[] #[])) ∧ Boxed W (w.heap.size + 1 + 1) 126 (.slice a n cap)) ∧ Below w.heap.size w W)) Ix
      (l ++ [(i, x1, x2, x3, x4, x5)]) W .normal act W3 := by
  have k2 : KeepsOthers W W2 := ⟨hF.size, fun k o hk ho => (hF.block k (Array.getElem?_eq_some_iff.1 hk).1 (by simp)).trans hk⟩
  have b2 : Below w.heap.size W W3 := ((hF.mono hB.size).below).trans hb
  refine ⟨(k2.trans hk).from _, ⟨b2, ?_⟩, ⟨⟨⟨_, hv, ?_, trivial⟩, bF3⟩, bS3⟩, hB.trans b2⟩
  · exact bS3.trans bS.symm
  · rw [dgs_snoc, ints_append, List.length_append]
    exact hr

set_option maxRecDepth 100000 in
set_option maxHeartbeats 4000000 in
theorem numbers_any (a : Option Addr) (cap : Nat) (cs : List Col) (w : World) (hs : Sl w a (cols cs)) (hn : cs.length ≤ 9) (hb : ∀ p, a = some p → p.block < w.heap.size) :
    Calls Tryz.prog 187 #[.slice a cs.length cap, .func (.func 188) #[] #[]] w fun e w' =>
      ∃ v, e = .returned v ∧ w'.ownsRow w.heap.size 3 1 v cs.length (ints (wrote cs)) ∧ Fr w.heap.size none w w' := by
  have HS := Lib.hid hs; clear hs
  refine (callsIn_wide (n := 5)).1 ?_
  refine callsIn_of_wp_marks Tryz.func187 rfl trivial ?_ rfl
  simp only [Tryz.ntmps187, List.size_toArray, List.length_cons, List.length_nil, Nat.reduceAdd, Nat.reduceSub, Array.replicate_succ, Array.replicate_zero, List.push_toArray, List.append_toArray, List.nil_append, List.cons_append]
  gi_wp2_with (refine ⟨trivial, ?_⟩; gi_at_call 219; refine (back_in _ _ _ _ _).mono ?_; rintro e w' ⟨rfl, rfl⟩)
  have bF := ((Boxed.new w 164 (.func (.func 188) #[] #[])).alloc (.cells #[.slice none 0 0] 73)).alloc (.cells #[.slice a cs.length cap] 126)
  have bO := (Boxed.new (w.alloc (.cells #[.func (.func 188) #[] #[]] 164)) 73 (.slice none 0 0)).alloc (.cells #[.slice a cs.length cap] 126)
  have bS := Boxed.new ((w.alloc (.cells #[.func (.func 188) #[] #[]] 164)).alloc (.cells #[.slice none 0 0] 73)) 126 (.slice a cs.length cap)
  simp only [World.size_alloc] at bO bS
  have hB0 : Below w.heap.size w (((w.alloc (.cells #[.func (.func 188) #[] #[]] 164)).alloc (.cells #[.slice none 0 0] 73)).alloc (.cells #[.slice a cs.length cap] 126)) := (((Below.refl _ w).alloc (Nat.le_refl _) _).alloc (by simp) _).alloc (by simp; omega) _
  have hsz : (((w.alloc (.cells #[.func (.func 188) #[] #[]] 164)).alloc (.cells #[.slice none 0 0] 73)).alloc (.cells #[.slice a cs.length cap] 126)).heap.size = w.heap.size + 3 := by simp
  obtain ⟨W0, hW0⟩ : ∃ W0, ((w.alloc (.cells #[.func (.func 188) #[] #[]] 164)).alloc (.cells #[.slice none 0 0] 73)).alloc (.cells #[.slice a cs.length cap] 126) = W0 := ⟨_, rfl⟩
  rw [hW0] at bF bO bS hB0 hsz ⊢
  clear hW0
  have hSL := Lib.hid (Sl.frB HS.out (Fr.of_below hB0) (fun p hp => ⟨hb p hp, by simp⟩))
  refine wpIn_rangeFunc_ownH rfl (by omega) (gf := 239) (lb := #[.pointer (some ⟨w.heap.size + 1 + 1, 0, none⟩)]) rfl trivial (enters_of Tryz.func239 (by kernel_rfl) rfl)
    (back_stops _ (by omega) (w.heap.size + 1 + 1) w.heap.size a cap cs hn hb W0 (by omega) (by omega) bS.cell hSL.out)
    (fun h k => ⟨h.1.trans k.1, k.2.trans h.2⟩) ?keep (Below.refl _ _) (fun _ => rfl)
    (fun pre W => ((((∃ v, Boxed W (w.heap.size + 1) 73 v ∧ W.ownsRow w.heap.size 3 1 v pre.length (ints (dgs pre)) ∧ True) ∧ Boxed W w.heap.size 164 (.func (.func 188) #[] #[])) ∧ Boxed W (w.heap.size + 1 + 1) 126 (.slice a cs.length cap)) ∧ Below w.heap.size w W))
    (fun _ _ _ => False)
    (OwnFrom.and (OwnFrom.and (OwnFrom.and (Own.from (holdsRow_own w.heap.size (w.heap.size + 1) 73 3 1 (fun pre => pre.length) (fun pre => ints (dgs pre)) (fun _ _ => True)) _) (Own.from (boxed_own _ _ _) _)) (Own.from (boxed_own _ _ _) _)) (ownFrom_below (Nat.le_refl _) (by omega)))
    (fun _ _ _ _ _ hs _ _ => hs)
    ⟨⟨⟨⟨_, bO, World.ownsRow_nil _ _ _ _, trivial⟩, bF⟩, bS⟩, hB0⟩
    (fun x a' W => ∃ Bx, w.heap.size + 1 + 1 < Bx ∧ W.heap[Bx]? = some (.cells #[.int .i64 x.2.1, .int .i64 x.2.2.1, .int .i64 x.2.2.2.1, .int .i64 x.2.2.2.2.1, .int .i64 x.2.2.2.2.2] 149 (0, 0)) ∧
      a' = { tmps := #[.slice a cs.length cap, .func (.func 188) #[] #[], undef, .pointer (some ⟨w.heap.size, 0, none⟩), .slice none 0 0, .pointer (some ⟨w.heap.size + 1, 0, none⟩), undef, .pointer (some ⟨Bx, 0, none⟩), .slice a cs.length cap, .func (.func 239) #[] #[.pointer (some ⟨w.heap.size + 1 + 1, 0, none⟩)], .int .i64 (x.1 : Int), colV x.2, undef, undef, undef, undef, undef, undef, undef], defers := [] })
    (fun x a' _ X Y row hs hg hr => by obtain ⟨Bx, h1, h2, h3⟩ := hs; exact ⟨Bx, h1, block_own Bx _ rfl () X Y row h2 hg hr, h3⟩)
    ?assign ?body ?done ?stop
  case keep =>
    intro W l o o' hl ho hc hwk
    refine ⟨belowK_b (by omega) W l o o' hl ho hc hwk, ?_⟩
    exact World.putObj_heap_other (by omega)
  case assign =>
    rintro l pre x W K ⟨⟨⟨⟨v, bO1, hrow, _⟩, bF1⟩, bS1⟩, hB1⟩ hK
    obtain ⟨i, x1, x2, x3, x4, x5⟩ := x
    dsimp only [colV] at *
    gi_wp2
    exact hK _ _ ((KeepsOthers.alloc _ _).from _) ⟨(Below.refl _ W).alloc hB1.size _, Below.heap_alloc _ _ _ bS1.lt⟩ ⟨⟨⟨⟨v, bO1.alloc _, hrow.alloc _, trivial⟩, bF1.alloc _⟩, bS1.alloc _⟩, hB1.alloc hB1.size _⟩ ⟨W.heap.size, bS1.lt, World.alloc_heap_new W _, rfl⟩
  case body =>
    rintro l pre x a' W hl ⟨r, hr⟩ ⟨⟨⟨⟨v, bO1, hrow, _⟩, bF1⟩, bS1⟩, hB1⟩ ⟨Bx, hBx, bX, rfl⟩ hlt
    obtain ⟨i, x1, x2, x3, x4, x5⟩ := x
    dsimp only at bX
    have cO := bO1.cell
    have fO := bO1.frozen
    have cF := bF1.cell
    have e0 : W.cell? ⟨Bx, 0, none⟩ = some (.int .i64 x1) := by simp [World.cell?, bX]
    have e1 : W.cell? ⟨Bx, 1, none⟩ = some (.int .i64 x2) := by simp [World.cell?, bX]
    have e2 : W.cell? ⟨Bx, 2, none⟩ = some (.int .i64 x3) := by simp [World.cell?, bX]
    have e3 : W.cell? ⟨Bx, 3, none⟩ = some (.int .i64 x4) := by simp [World.cell?, bX]
    have e4 : W.cell? ⟨Bx, 4, none⟩ = some (.int .i64 x5) := by simp [World.cell?, bX]
    gi_wp2
    refine wpIn_region_any (by kernel_rfl) ?_
    change wpAnyIn _ _ _ _ _ _ _ _ _ (World.drew _)
    -- REGION
    refine wpAnyIn_ready (rs := [0, 1, 2]) (by kernel_rfl) (by simp) ?_
    refine AllReadyIn.cons rfl (fun K hK => ?_) ?_
    · go_simp
      refine hK _ _ ?_
      clear hK K
      refine wpAnyIn_ready (rs := [1, 2]) (by kernel_rfl) (by simp) ?_
      refine AllReadyIn.cons rfl (fun K hK => ?_) ?_
      · go_simp
        refine hK _ _ ?_
        clear hK K
        refine wpAnyIn_ready (rs := [2]) (by kernel_rfl) (by simp) ?_
        refine AllReadyIn.cons rfl (fun K hK => ?_) ?_
        · go_simp
          refine hK _ _ ?_
          clear hK K
          refine wpAnyIn_ready (rs := [3]) (by kernel_rfl) (by simp) ?_
          refine AllReadyIn.cons rfl (fun K hK => ?_) ?_
          · go_simp
            gi_wp2_with (refine ⟨trivial, ?_⟩; gi_at_call 188; refine (CallsIn.inRound l (callsIn_wide.2 (written_any (x1, x2, x3, x4, x5) _))).mono ?_; rintro e W2 ⟨rfl, hF⟩)
            have hF2 := ((Fr.refl W.heap.size none W).drew).trans hF
            clear hF
            have bO2 : Boxed W2 (w.heap.size + 1) 73 v := (hF2.block _ bO1.lt (by simp)).trans bO1
            have bF2 : Boxed W2 w.heap.size 164 (.func (.func 188) #[] #[]) := (hF2.block _ bF1.lt (by simp)).trans bF1
            have bS2 : Boxed W2 (w.heap.size + 1 + 1) 126 (.slice a cs.length cap) := (hF2.block _ bS1.lt (by simp)).trans bS1
            have own2 := own_keep hrow hF2
            have cO2 := bO2.cell
            have cO4 := (bO2.alloc (.cells #[.int .i64 x4] 3)).cell
            have hsz2 : w.heap.size ≤ W2.heap.size := Nat.le_trans hB1.size hF2.size
            refine wpAnyIn_ready (rs := [4]) (by kernel_rfl) (by simp) ?_
            refine AllReadyIn.cons rfl (fun K hK => ?_) ?_
            · go_simp
              refine hK _ _ ?_
              clear hK K
              refine wpAnyIn_ready (rs := [5]) (by kernel_rfl) (by simp) ?_
              refine AllReadyIn.cons rfl (fun K hK => ?_) ?_
              · refine stepOwnIn (B := w.heap.size) rfl (.tmp 12) (.tmp 16) rfl v pre.length (ints (dgs pre)) (.int .i64 x4) W2.heap.size rfl (own2.alloc _) rfl (World.alloc_heap_new W2 _) rfl (by omega) (by simp; omega) ?_
                intro v' w1 ho' hg'
                obtain ⟨g', cap', rfl⟩ := ownsRow_succ ho'
                obtain ⟨hv1, hv2, hr2, hk2, hb2⟩ := bO2.appended (by decide) own2 hsz2 (by omega) ho' hg'
                have hc1 := hv1.cell
                have hf1 := hv1.frozen
                have bS3 := ((bS2.alloc (.cells #[.int .i64 x4] 3)).kept hg' (bS2.not_row (by decide) own2)).other (show w.heap.size + 1 + 1 ≠ w.heap.size + 1 by omega) (.slice (some ⟨g', 0, none⟩) (pre.length + 1) cap')
                have bF3 := ((bF2.alloc (.cells #[.int .i64 x4] 3)).kept hg' (bF2.not_row (by decide) own2)).other (show w.heap.size ≠ w.heap.size + 1 by omega) (.slice (some ⟨g', 0, none⟩) (pre.length + 1) cap')
                refine hK _ _ ?_
                clear hK K
                refine wpAnyIn_ready (rs := [6]) (by kernel_rfl) (by simp) ?_
                refine AllReadyIn.cons rfl (fun K hK => ?_) ?_
                · go_simp
                  refine hK _ _ ?_
                  clear hK K
                  refine wpAnyIn_done (by kernel_rfl) ?_ _
                  exact round_end (Ix := fun _ _ _ => False) (act := ⟨#[], []⟩) hF2 hB1 bS1 hb2 hk2 hv2 hr2 bF3 bS3
                exact AllReadyIn.nil
              exact AllReadyIn.nil
            exact AllReadyIn.nil
          exact AllReadyIn.nil
        exact AllReadyIn.nil
      refine AllReadyIn.cons rfl (fun K hK => ?_) ?_
      · go_simp
        refine hK _ _ ?_
        clear hK K
        refine wpAnyIn_ready (rs := [1]) (by kernel_rfl) (by simp) ?_
        refine AllReadyIn.cons rfl (fun K hK => ?_) ?_
        · go_simp
          refine hK _ _ ?_
          clear hK K
          refine wpAnyIn_ready (rs := [3]) (by kernel_rfl) (by simp) ?_
          refine AllReadyIn.cons rfl (fun K hK => ?_) ?_
          · go_simp
            gi_wp2_with (refine ⟨trivial, ?_⟩; gi_at_call 188; refine (CallsIn.inRound l (callsIn_wide.2 (written_any (x1, x2, x3, x4, x5) _))).mono ?_; rintro e W2 ⟨rfl, hF⟩)
            have hF2 := ((Fr.refl W.heap.size none W).drew).trans hF
            clear hF
            have bO2 : Boxed W2 (w.heap.size + 1) 73 v := (hF2.block _ bO1.lt (by simp)).trans bO1
            have bF2 : Boxed W2 w.heap.size 164 (.func (.func 188) #[] #[]) := (hF2.block _ bF1.lt (by simp)).trans bF1
            have bS2 : Boxed W2 (w.heap.size + 1 + 1) 126 (.slice a cs.length cap) := (hF2.block _ bS1.lt (by simp)).trans bS1
            have own2 := own_keep hrow hF2
            have cO2 := bO2.cell
            have cO4 := (bO2.alloc (.cells #[.int .i64 x4] 3)).cell
            have hsz2 : w.heap.size ≤ W2.heap.size := Nat.le_trans hB1.size hF2.size
            refine wpAnyIn_ready (rs := [4]) (by kernel_rfl) (by simp) ?_
            refine AllReadyIn.cons rfl (fun K hK => ?_) ?_
            · go_simp
              refine hK _ _ ?_
              clear hK K
              refine wpAnyIn_ready (rs := [5]) (by kernel_rfl) (by simp) ?_
              refine AllReadyIn.cons rfl (fun K hK => ?_) ?_
              · refine stepOwnIn (B := w.heap.size) rfl (.tmp 12) (.tmp 16) rfl v pre.length (ints (dgs pre)) (.int .i64 x4) W2.heap.size rfl (own2.alloc _) rfl (World.alloc_heap_new W2 _) rfl (by omega) (by simp; omega) ?_
                intro v' w1 ho' hg'
                obtain ⟨g', cap', rfl⟩ := ownsRow_succ ho'
                obtain ⟨hv1, hv2, hr2, hk2, hb2⟩ := bO2.appended (by decide) own2 hsz2 (by omega) ho' hg'
                have hc1 := hv1.cell
                have hf1 := hv1.frozen
                have bS3 := ((bS2.alloc (.cells #[.int .i64 x4] 3)).kept hg' (bS2.not_row (by decide) own2)).other (show w.heap.size + 1 + 1 ≠ w.heap.size + 1 by omega) (.slice (some ⟨g', 0, none⟩) (pre.length + 1) cap')
                have bF3 := ((bF2.alloc (.cells #[.int .i64 x4] 3)).kept hg' (bF2.not_row (by decide) own2)).other (show w.heap.size ≠ w.heap.size + 1 by omega) (.slice (some ⟨g', 0, none⟩) (pre.length + 1) cap')
                refine hK _ _ ?_
                clear hK K
                refine wpAnyIn_ready (rs := [6]) (by kernel_rfl) (by simp) ?_
                refine AllReadyIn.cons rfl (fun K hK => ?_) ?_
                · go_simp
                  refine hK _ _ ?_
                  clear hK K
                  refine wpAnyIn_done (by kernel_rfl) ?_ _
                  exact round_end (Ix := fun _ _ _ => False) (act := ⟨#[], []⟩) hF2 hB1 bS1 hb2 hk2 hv2 hr2 bF3 bS3
                exact AllReadyIn.nil
              exact AllReadyIn.nil
            exact AllReadyIn.nil
          exact AllReadyIn.nil
        exact AllReadyIn.nil
      exact AllReadyIn.nil
    refine AllReadyIn.cons rfl (fun K hK => ?_) ?_
    · go_simp
      refine hK _ _ ?_
      clear hK K
      refine wpAnyIn_ready (rs := [0, 2]) (by kernel_rfl) (by simp) ?_
      refine AllReadyIn.cons rfl (fun K hK => ?_) ?_
      · go_simp
        refine hK _ _ ?_
        clear hK K
        refine wpAnyIn_ready (rs := [2]) (by kernel_rfl) (by simp) ?_
        refine AllReadyIn.cons rfl (fun K hK => ?_) ?_
        · go_simp
          refine hK _ _ ?_
          clear hK K
          refine wpAnyIn_ready (rs := [3]) (by kernel_rfl) (by simp) ?_
          refine AllReadyIn.cons rfl (fun K hK => ?_) ?_
          · go_simp
            gi_wp2_with (refine ⟨trivial, ?_⟩; gi_at_call 188; refine (CallsIn.inRound l (callsIn_wide.2 (written_any (x1, x2, x3, x4, x5) _))).mono ?_; rintro e W2 ⟨rfl, hF⟩)
            have hF2 := ((Fr.refl W.heap.size none W).drew).trans hF
            clear hF
            have bO2 : Boxed W2 (w.heap.size + 1) 73 v := (hF2.block _ bO1.lt (by simp)).trans bO1
            have bF2 : Boxed W2 w.heap.size 164 (.func (.func 188) #[] #[]) := (hF2.block _ bF1.lt (by simp)).trans bF1
            have bS2 : Boxed W2 (w.heap.size + 1 + 1) 126 (.slice a cs.length cap) := (hF2.block _ bS1.lt (by simp)).trans bS1
            have own2 := own_keep hrow hF2
            have cO2 := bO2.cell
            have cO4 := (bO2.alloc (.cells #[.int .i64 x4] 3)).cell
            have hsz2 : w.heap.size ≤ W2.heap.size := Nat.le_trans hB1.size hF2.size
            refine wpAnyIn_ready (rs := [4]) (by kernel_rfl) (by simp) ?_
            refine AllReadyIn.cons rfl (fun K hK => ?_) ?_
            · go_simp
              refine hK _ _ ?_
              clear hK K
              refine wpAnyIn_ready (rs := [5]) (by kernel_rfl) (by simp) ?_
              refine AllReadyIn.cons rfl (fun K hK => ?_) ?_
              · refine stepOwnIn (B := w.heap.size) rfl (.tmp 12) (.tmp 16) rfl v pre.length (ints (dgs pre)) (.int .i64 x4) W2.heap.size rfl (own2.alloc _) rfl (World.alloc_heap_new W2 _) rfl (by omega) (by simp; omega) ?_
                intro v' w1 ho' hg'
                obtain ⟨g', cap', rfl⟩ := ownsRow_succ ho'
                obtain ⟨hv1, hv2, hr2, hk2, hb2⟩ := bO2.appended (by decide) own2 hsz2 (by omega) ho' hg'
                have hc1 := hv1.cell
                have hf1 := hv1.frozen
                have bS3 := ((bS2.alloc (.cells #[.int .i64 x4] 3)).kept hg' (bS2.not_row (by decide) own2)).other (show w.heap.size + 1 + 1 ≠ w.heap.size + 1 by omega) (.slice (some ⟨g', 0, none⟩) (pre.length + 1) cap')
                have bF3 := ((bF2.alloc (.cells #[.int .i64 x4] 3)).kept hg' (bF2.not_row (by decide) own2)).other (show w.heap.size ≠ w.heap.size + 1 by omega) (.slice (some ⟨g', 0, none⟩) (pre.length + 1) cap')
                refine hK _ _ ?_
                clear hK K
                refine wpAnyIn_ready (rs := [6]) (by kernel_rfl) (by simp) ?_
                refine AllReadyIn.cons rfl (fun K hK => ?_) ?_
                · go_simp
                  refine hK _ _ ?_
                  clear hK K
                  refine wpAnyIn_done (by kernel_rfl) ?_ _
                  exact round_end (Ix := fun _ _ _ => False) (act := ⟨#[], []⟩) hF2 hB1 bS1 hb2 hk2 hv2 hr2 bF3 bS3
                exact AllReadyIn.nil
              exact AllReadyIn.nil
            exact AllReadyIn.nil
          exact AllReadyIn.nil
        exact AllReadyIn.nil
      refine AllReadyIn.cons rfl (fun K hK => ?_) ?_
      · go_simp
        refine hK _ _ ?_
        clear hK K
        refine wpAnyIn_ready (rs := [0, 3]) (by kernel_rfl) (by simp) ?_
        refine AllReadyIn.cons rfl (fun K hK => ?_) ?_
        · go_simp
          refine hK _ _ ?_
          clear hK K
          refine wpAnyIn_ready (rs := [3]) (by kernel_rfl) (by simp) ?_
          refine AllReadyIn.cons rfl (fun K hK => ?_) ?_
          · go_simp
            gi_wp2_with (refine ⟨trivial, ?_⟩; gi_at_call 188; refine (CallsIn.inRound l (callsIn_wide.2 (written_any (x1, x2, x3, x4, x5) _))).mono ?_; rintro e W2 ⟨rfl, hF⟩)
            have hF2 := ((Fr.refl W.heap.size none W).drew).trans hF
            clear hF
            have bO2 : Boxed W2 (w.heap.size + 1) 73 v := (hF2.block _ bO1.lt (by simp)).trans bO1
            have bF2 : Boxed W2 w.heap.size 164 (.func (.func 188) #[] #[]) := (hF2.block _ bF1.lt (by simp)).trans bF1
            have bS2 : Boxed W2 (w.heap.size + 1 + 1) 126 (.slice a cs.length cap) := (hF2.block _ bS1.lt (by simp)).trans bS1
            have own2 := own_keep hrow hF2
            have cO2 := bO2.cell
            have cO4 := (bO2.alloc (.cells #[.int .i64 x4] 3)).cell
            have hsz2 : w.heap.size ≤ W2.heap.size := Nat.le_trans hB1.size hF2.size
            refine wpAnyIn_ready (rs := [4]) (by kernel_rfl) (by simp) ?_
            refine AllReadyIn.cons rfl (fun K hK => ?_) ?_
            · go_simp
              refine hK _ _ ?_
              clear hK K
              refine wpAnyIn_ready (rs := [5]) (by kernel_rfl) (by simp) ?_
              refine AllReadyIn.cons rfl (fun K hK => ?_) ?_
              · refine stepOwnIn (B := w.heap.size) rfl (.tmp 12) (.tmp 16) rfl v pre.length (ints (dgs pre)) (.int .i64 x4) W2.heap.size rfl (own2.alloc _) rfl (World.alloc_heap_new W2 _) rfl (by omega) (by simp; omega) ?_
                intro v' w1 ho' hg'
                obtain ⟨g', cap', rfl⟩ := ownsRow_succ ho'
                obtain ⟨hv1, hv2, hr2, hk2, hb2⟩ := bO2.appended (by decide) own2 hsz2 (by omega) ho' hg'
                have hc1 := hv1.cell
                have hf1 := hv1.frozen
                have bS3 := ((bS2.alloc (.cells #[.int .i64 x4] 3)).kept hg' (bS2.not_row (by decide) own2)).other (show w.heap.size + 1 + 1 ≠ w.heap.size + 1 by omega) (.slice (some ⟨g', 0, none⟩) (pre.length + 1) cap')
                have bF3 := ((bF2.alloc (.cells #[.int .i64 x4] 3)).kept hg' (bF2.not_row (by decide) own2)).other (show w.heap.size ≠ w.heap.size + 1 by omega) (.slice (some ⟨g', 0, none⟩) (pre.length + 1) cap')
                refine hK _ _ ?_
                clear hK K
                refine wpAnyIn_ready (rs := [6]) (by kernel_rfl) (by simp) ?_
                refine AllReadyIn.cons rfl (fun K hK => ?_) ?_
                · go_simp
                  refine hK _ _ ?_
                  clear hK K
                  refine wpAnyIn_done (by kernel_rfl) ?_ _
                  exact round_end (Ix := fun _ _ _ => False) (act := ⟨#[], []⟩) hF2 hB1 bS1 hb2 hk2 hv2 hr2 bF3 bS3
                exact AllReadyIn.nil
              exact AllReadyIn.nil
            exact AllReadyIn.nil
          exact AllReadyIn.nil
        refine AllReadyIn.cons rfl (fun K hK => ?_) ?_
        · go_simp
          gi_wp2_with (refine ⟨trivial, ?_⟩; gi_at_call 188; refine (CallsIn.inRound l (callsIn_wide.2 (written_any (x1, x2, x3, x4, x5) _))).mono ?_; rintro e W2 ⟨rfl, hF⟩)
          have hF2 := ((Fr.refl W.heap.size none W).drew).trans hF
          clear hF
          have bO2 : Boxed W2 (w.heap.size + 1) 73 v := (hF2.block _ bO1.lt (by simp)).trans bO1
          have bF2 : Boxed W2 w.heap.size 164 (.func (.func 188) #[] #[]) := (hF2.block _ bF1.lt (by simp)).trans bF1
          have bS2 : Boxed W2 (w.heap.size + 1 + 1) 126 (.slice a cs.length cap) := (hF2.block _ bS1.lt (by simp)).trans bS1
          have own2 := own_keep hrow hF2
          have cO2 := bO2.cell
          have cO4 := (bO2.alloc (.cells #[.int .i64 x4] 3)).cell
          have hsz2 : w.heap.size ≤ W2.heap.size := Nat.le_trans hB1.size hF2.size
          refine wpAnyIn_ready (rs := [0, 4]) (by kernel_rfl) (by simp) ?_
          refine AllReadyIn.cons rfl (fun K hK => ?_) ?_
          · go_simp
            refine hK _ _ ?_
            clear hK K
            refine wpAnyIn_ready (rs := [4]) (by kernel_rfl) (by simp) ?_
            refine AllReadyIn.cons rfl (fun K hK => ?_) ?_
            · go_simp
              refine hK _ _ ?_
              clear hK K
              refine wpAnyIn_ready (rs := [5]) (by kernel_rfl) (by simp) ?_
              refine AllReadyIn.cons rfl (fun K hK => ?_) ?_
              · refine stepOwnIn (B := w.heap.size) rfl (.tmp 12) (.tmp 16) rfl v pre.length (ints (dgs pre)) (.int .i64 x4) W2.heap.size rfl (own2.alloc _) rfl (World.alloc_heap_new W2 _) rfl (by omega) (by simp; omega) ?_
                intro v' w1 ho' hg'
                obtain ⟨g', cap', rfl⟩ := ownsRow_succ ho'
                obtain ⟨hv1, hv2, hr2, hk2, hb2⟩ := bO2.appended (by decide) own2 hsz2 (by omega) ho' hg'
                have hc1 := hv1.cell
                have hf1 := hv1.frozen
                have bS3 := ((bS2.alloc (.cells #[.int .i64 x4] 3)).kept hg' (bS2.not_row (by decide) own2)).other (show w.heap.size + 1 + 1 ≠ w.heap.size + 1 by omega) (.slice (some ⟨g', 0, none⟩) (pre.length + 1) cap')
                have bF3 := ((bF2.alloc (.cells #[.int .i64 x4] 3)).kept hg' (bF2.not_row (by decide) own2)).other (show w.heap.size ≠ w.heap.size + 1 by omega) (.slice (some ⟨g', 0, none⟩) (pre.length + 1) cap')
                refine hK _ _ ?_
                clear hK K
                refine wpAnyIn_ready (rs := [6]) (by kernel_rfl) (by simp) ?_
                refine AllReadyIn.cons rfl (fun K hK => ?_) ?_
                · go_simp
                  refine hK _ _ ?_
                  clear hK K
                  refine wpAnyIn_done (by kernel_rfl) ?_ _
                  exact round_end (Ix := fun _ _ _ => False) (act := ⟨#[], []⟩) hF2 hB1 bS1 hb2 hk2 hv2 hr2 bF3 bS3
                exact AllReadyIn.nil
              exact AllReadyIn.nil
            exact AllReadyIn.nil
          refine AllReadyIn.cons rfl (fun K hK => ?_) ?_
          · go_simp
            refine hK _ _ ?_
            clear hK K
            refine wpAnyIn_ready (rs := [0]) (by kernel_rfl) (by simp) ?_
            refine AllReadyIn.cons rfl (fun K hK => ?_) ?_
            · go_simp
              refine hK _ _ ?_
              clear hK K
              refine wpAnyIn_ready (rs := [5]) (by kernel_rfl) (by simp) ?_
              refine AllReadyIn.cons rfl (fun K hK => ?_) ?_
              · refine stepOwnIn (B := w.heap.size) rfl (.tmp 12) (.tmp 16) rfl v pre.length (ints (dgs pre)) (.int .i64 x4) W2.heap.size rfl (own2.alloc _) rfl (World.alloc_heap_new W2 _) rfl (by omega) (by simp; omega) ?_
                intro v' w1 ho' hg'
                obtain ⟨g', cap', rfl⟩ := ownsRow_succ ho'
                obtain ⟨hv1, hv2, hr2, hk2, hb2⟩ := bO2.appended (by decide) own2 hsz2 (by omega) ho' hg'
                have hc1 := hv1.cell
                have hf1 := hv1.frozen
                have bS3 := ((bS2.alloc (.cells #[.int .i64 x4] 3)).kept hg' (bS2.not_row (by decide) own2)).other (show w.heap.size + 1 + 1 ≠ w.heap.size + 1 by omega) (.slice (some ⟨g', 0, none⟩) (pre.length + 1) cap')
                have bF3 := ((bF2.alloc (.cells #[.int .i64 x4] 3)).kept hg' (bF2.not_row (by decide) own2)).other (show w.heap.size ≠ w.heap.size + 1 by omega) (.slice (some ⟨g', 0, none⟩) (pre.length + 1) cap')
                refine hK _ _ ?_
                clear hK K
                refine wpAnyIn_ready (rs := [6]) (by kernel_rfl) (by simp) ?_
                refine AllReadyIn.cons rfl (fun K hK => ?_) ?_
                · go_simp
                  refine hK _ _ ?_
                  clear hK K
                  refine wpAnyIn_done (by kernel_rfl) ?_ _
                  exact round_end (Ix := fun _ _ _ => False) (act := ⟨#[], []⟩) hF2 hB1 bS1 hb2 hk2 hv2 hr2 bF3 bS3
                exact AllReadyIn.nil
              exact AllReadyIn.nil
            exact AllReadyIn.nil
          exact AllReadyIn.nil
        exact AllReadyIn.nil
      exact AllReadyIn.nil
    refine AllReadyIn.cons rfl (fun K hK => ?_) ?_
    · go_simp
      refine hK _ _ ?_
      clear hK K
      refine wpAnyIn_ready (rs := [0, 1]) (by kernel_rfl) (by simp) ?_
      refine AllReadyIn.cons rfl (fun K hK => ?_) ?_
      · go_simp
        refine hK _ _ ?_
        clear hK K
        refine wpAnyIn_ready (rs := [1]) (by kernel_rfl) (by simp) ?_
        refine AllReadyIn.cons rfl (fun K hK => ?_) ?_
        · go_simp
          refine hK _ _ ?_
          clear hK K
          refine wpAnyIn_ready (rs := [3]) (by kernel_rfl) (by simp) ?_
          refine AllReadyIn.cons rfl (fun K hK => ?_) ?_
          · go_simp
            gi_wp2_with (refine ⟨trivial, ?_⟩; gi_at_call 188; refine (CallsIn.inRound l (callsIn_wide.2 (written_any (x1, x2, x3, x4, x5) _))).mono ?_; rintro e W2 ⟨rfl, hF⟩)
            have hF2 := ((Fr.refl W.heap.size none W).drew).trans hF
            clear hF
            have bO2 : Boxed W2 (w.heap.size + 1) 73 v := (hF2.block _ bO1.lt (by simp)).trans bO1
            have bF2 : Boxed W2 w.heap.size 164 (.func (.func 188) #[] #[]) := (hF2.block _ bF1.lt (by simp)).trans bF1
            have bS2 : Boxed W2 (w.heap.size + 1 + 1) 126 (.slice a cs.length cap) := (hF2.block _ bS1.lt (by simp)).trans bS1
            have own2 := own_keep hrow hF2
            have cO2 := bO2.cell
            have cO4 := (bO2.alloc (.cells #[.int .i64 x4] 3)).cell
            have hsz2 : w.heap.size ≤ W2.heap.size := Nat.le_trans hB1.size hF2.size
            refine wpAnyIn_ready (rs := [4]) (by kernel_rfl) (by simp) ?_
            refine AllReadyIn.cons rfl (fun K hK => ?_) ?_
            · go_simp
              refine hK _ _ ?_
              clear hK K
              refine wpAnyIn_ready (rs := [5]) (by kernel_rfl) (by simp) ?_
              refine AllReadyIn.cons rfl (fun K hK => ?_) ?_
              · refine stepOwnIn (B := w.heap.size) rfl (.tmp 12) (.tmp 16) rfl v pre.length (ints (dgs pre)) (.int .i64 x4) W2.heap.size rfl (own2.alloc _) rfl (World.alloc_heap_new W2 _) rfl (by omega) (by simp; omega) ?_
                intro v' w1 ho' hg'
                obtain ⟨g', cap', rfl⟩ := ownsRow_succ ho'
                obtain ⟨hv1, hv2, hr2, hk2, hb2⟩ := bO2.appended (by decide) own2 hsz2 (by omega) ho' hg'
                have hc1 := hv1.cell
                have hf1 := hv1.frozen
                have bS3 := ((bS2.alloc (.cells #[.int .i64 x4] 3)).kept hg' (bS2.not_row (by decide) own2)).other (show w.heap.size + 1 + 1 ≠ w.heap.size + 1 by omega) (.slice (some ⟨g', 0, none⟩) (pre.length + 1) cap')
                have bF3 := ((bF2.alloc (.cells #[.int .i64 x4] 3)).kept hg' (bF2.not_row (by decide) own2)).other (show w.heap.size ≠ w.heap.size + 1 by omega) (.slice (some ⟨g', 0, none⟩) (pre.length + 1) cap')
                refine hK _ _ ?_
                clear hK K
                refine wpAnyIn_ready (rs := [6]) (by kernel_rfl) (by simp) ?_
                refine AllReadyIn.cons rfl (fun K hK => ?_) ?_
                · go_simp
                  refine hK _ _ ?_
                  clear hK K
                  refine wpAnyIn_done (by kernel_rfl) ?_ _
                  exact round_end (Ix := fun _ _ _ => False) (act := ⟨#[], []⟩) hF2 hB1 bS1 hb2 hk2 hv2 hr2 bF3 bS3
                exact AllReadyIn.nil
              exact AllReadyIn.nil
            exact AllReadyIn.nil
          exact AllReadyIn.nil
        exact AllReadyIn.nil
      refine AllReadyIn.cons rfl (fun K hK => ?_) ?_
      · go_simp
        refine hK _ _ ?_
        clear hK K
        refine wpAnyIn_ready (rs := [0, 3]) (by kernel_rfl) (by simp) ?_
        refine AllReadyIn.cons rfl (fun K hK => ?_) ?_
        · go_simp
          refine hK _ _ ?_
          clear hK K
          refine wpAnyIn_ready (rs := [3]) (by kernel_rfl) (by simp) ?_
          refine AllReadyIn.cons rfl (fun K hK => ?_) ?_
          · go_simp
            gi_wp2_with (refine ⟨trivial, ?_⟩; gi_at_call 188; refine (CallsIn.inRound l (callsIn_wide.2 (written_any (x1, x2, x3, x4, x5) _))).mono ?_; rintro e W2 ⟨rfl, hF⟩)
            have hF2 := ((Fr.refl W.heap.size none W).drew).trans hF
            clear hF
            have bO2 : Boxed W2 (w.heap.size + 1) 73 v := (hF2.block _ bO1.lt (by simp)).trans bO1
            have bF2 : Boxed W2 w.heap.size 164 (.func (.func 188) #[] #[]) := (hF2.block _ bF1.lt (by simp)).trans bF1
            have bS2 : Boxed W2 (w.heap.size + 1 + 1) 126 (.slice a cs.length cap) := (hF2.block _ bS1.lt (by simp)).trans bS1
            have own2 := own_keep hrow hF2
            have cO2 := bO2.cell
            have cO4 := (bO2.alloc (.cells #[.int .i64 x4] 3)).cell
            have hsz2 : w.heap.size ≤ W2.heap.size := Nat.le_trans hB1.size hF2.size
            refine wpAnyIn_ready (rs := [4]) (by kernel_rfl) (by simp) ?_
            refine AllReadyIn.cons rfl (fun K hK => ?_) ?_
            · go_simp
              refine hK _ _ ?_
              clear hK K
              refine wpAnyIn_ready (rs := [5]) (by kernel_rfl) (by simp) ?_
              refine AllReadyIn.cons rfl (fun K hK => ?_) ?_
              · refine stepOwnIn (B := w.heap.size) rfl (.tmp 12) (.tmp 16) rfl v pre.length (ints (dgs pre)) (.int .i64 x4) W2.heap.size rfl (own2.alloc _) rfl (World.alloc_heap_new W2 _) rfl (by omega) (by simp; omega) ?_
                intro v' w1 ho' hg'
                obtain ⟨g', cap', rfl⟩ := ownsRow_succ ho'
                obtain ⟨hv1, hv2, hr2, hk2, hb2⟩ := bO2.appended (by decide) own2 hsz2 (by omega) ho' hg'
                have hc1 := hv1.cell
                have hf1 := hv1.frozen
                have bS3 := ((bS2.alloc (.cells #[.int .i64 x4] 3)).kept hg' (bS2.not_row (by decide) own2)).other (show w.heap.size + 1 + 1 ≠ w.heap.size + 1 by omega) (.slice (some ⟨g', 0, none⟩) (pre.length + 1) cap')
                have bF3 := ((bF2.alloc (.cells #[.int .i64 x4] 3)).kept hg' (bF2.not_row (by decide) own2)).other (show w.heap.size ≠ w.heap.size + 1 by omega) (.slice (some ⟨g', 0, none⟩) (pre.length + 1) cap')
                refine hK _ _ ?_
                clear hK K
                refine wpAnyIn_ready (rs := [6]) (by kernel_rfl) (by simp) ?_
                refine AllReadyIn.cons rfl (fun K hK => ?_) ?_
                · go_simp
                  refine hK _ _ ?_
                  clear hK K
                  refine wpAnyIn_done (by kernel_rfl) ?_ _
                  exact round_end (Ix := fun _ _ _ => False) (act := ⟨#[], []⟩) hF2 hB1 bS1 hb2 hk2 hv2 hr2 bF3 bS3
                exact AllReadyIn.nil
              exact AllReadyIn.nil
            exact AllReadyIn.nil
          exact AllReadyIn.nil
        refine AllReadyIn.cons rfl (fun K hK => ?_) ?_
        · go_simp
          gi_wp2_with (refine ⟨trivial, ?_⟩; gi_at_call 188; refine (CallsIn.inRound l (callsIn_wide.2 (written_any (x1, x2, x3, x4, x5) _))).mono ?_; rintro e W2 ⟨rfl, hF⟩)
          have hF2 := ((Fr.refl W.heap.size none W).drew).trans hF
          clear hF
          have bO2 : Boxed W2 (w.heap.size + 1) 73 v := (hF2.block _ bO1.lt (by simp)).trans bO1
          have bF2 : Boxed W2 w.heap.size 164 (.func (.func 188) #[] #[]) := (hF2.block _ bF1.lt (by simp)).trans bF1
          have bS2 : Boxed W2 (w.heap.size + 1 + 1) 126 (.slice a cs.length cap) := (hF2.block _ bS1.lt (by simp)).trans bS1
          have own2 := own_keep hrow hF2
          have cO2 := bO2.cell
          have cO4 := (bO2.alloc (.cells #[.int .i64 x4] 3)).cell
          have hsz2 : w.heap.size ≤ W2.heap.size := Nat.le_trans hB1.size hF2.size
          refine wpAnyIn_ready (rs := [0, 4]) (by kernel_rfl) (by simp) ?_
          refine AllReadyIn.cons rfl (fun K hK => ?_) ?_
          · go_simp
            refine hK _ _ ?_
            clear hK K
            refine wpAnyIn_ready (rs := [4]) (by kernel_rfl) (by simp) ?_
            refine AllReadyIn.cons rfl (fun K hK => ?_) ?_
            · go_simp
              refine hK _ _ ?_
              clear hK K
              refine wpAnyIn_ready (rs := [5]) (by kernel_rfl) (by simp) ?_
              refine AllReadyIn.cons rfl (fun K hK => ?_) ?_
              · refine stepOwnIn (B := w.heap.size) rfl (.tmp 12) (.tmp 16) rfl v pre.length (ints (dgs pre)) (.int .i64 x4) W2.heap.size rfl (own2.alloc _) rfl (World.alloc_heap_new W2 _) rfl (by omega) (by simp; omega) ?_
                intro v' w1 ho' hg'
                obtain ⟨g', cap', rfl⟩ := ownsRow_succ ho'
                obtain ⟨hv1, hv2, hr2, hk2, hb2⟩ := bO2.appended (by decide) own2 hsz2 (by omega) ho' hg'
                have hc1 := hv1.cell
                have hf1 := hv1.frozen
                have bS3 := ((bS2.alloc (.cells #[.int .i64 x4] 3)).kept hg' (bS2.not_row (by decide) own2)).other (show w.heap.size + 1 + 1 ≠ w.heap.size + 1 by omega) (.slice (some ⟨g', 0, none⟩) (pre.length + 1) cap')
                have bF3 := ((bF2.alloc (.cells #[.int .i64 x4] 3)).kept hg' (bF2.not_row (by decide) own2)).other (show w.heap.size ≠ w.heap.size + 1 by omega) (.slice (some ⟨g', 0, none⟩) (pre.length + 1) cap')
                refine hK _ _ ?_
                clear hK K
                refine wpAnyIn_ready (rs := [6]) (by kernel_rfl) (by simp) ?_
                refine AllReadyIn.cons rfl (fun K hK => ?_) ?_
                · go_simp
                  refine hK _ _ ?_
                  clear hK K
                  refine wpAnyIn_done (by kernel_rfl) ?_ _
                  exact round_end (Ix := fun _ _ _ => False) (act := ⟨#[], []⟩) hF2 hB1 bS1 hb2 hk2 hv2 hr2 bF3 bS3
                exact AllReadyIn.nil
              exact AllReadyIn.nil
            exact AllReadyIn.nil
          refine AllReadyIn.cons rfl (fun K hK => ?_) ?_
          · go_simp
            refine hK _ _ ?_
            clear hK K
            refine wpAnyIn_ready (rs := [0]) (by kernel_rfl) (by simp) ?_
            refine AllReadyIn.cons rfl (fun K hK => ?_) ?_
            · go_simp
              refine hK _ _ ?_
              clear hK K
              refine wpAnyIn_ready (rs := [5]) (by kernel_rfl) (by simp) ?_
              refine AllReadyIn.cons rfl (fun K hK => ?_) ?_
              · refine stepOwnIn (B := w.heap.size) rfl (.tmp 12) (.tmp 16) rfl v pre.length (ints (dgs pre)) (.int .i64 x4) W2.heap.size rfl (own2.alloc _) rfl (World.alloc_heap_new W2 _) rfl (by omega) (by simp; omega) ?_
                intro v' w1 ho' hg'
                obtain ⟨g', cap', rfl⟩ := ownsRow_succ ho'
                obtain ⟨hv1, hv2, hr2, hk2, hb2⟩ := bO2.appended (by decide) own2 hsz2 (by omega) ho' hg'
                have hc1 := hv1.cell
                have hf1 := hv1.frozen
                have bS3 := ((bS2.alloc (.cells #[.int .i64 x4] 3)).kept hg' (bS2.not_row (by decide) own2)).other (show w.heap.size + 1 + 1 ≠ w.heap.size + 1 by omega) (.slice (some ⟨g', 0, none⟩) (pre.length + 1) cap')
                have bF3 := ((bF2.alloc (.cells #[.int .i64 x4] 3)).kept hg' (bF2.not_row (by decide) own2)).other (show w.heap.size ≠ w.heap.size + 1 by omega) (.slice (some ⟨g', 0, none⟩) (pre.length + 1) cap')
                refine hK _ _ ?_
                clear hK K
                refine wpAnyIn_ready (rs := [6]) (by kernel_rfl) (by simp) ?_
                refine AllReadyIn.cons rfl (fun K hK => ?_) ?_
                · go_simp
                  refine hK _ _ ?_
                  clear hK K
                  refine wpAnyIn_done (by kernel_rfl) ?_ _
                  exact round_end (Ix := fun _ _ _ => False) (act := ⟨#[], []⟩) hF2 hB1 bS1 hb2 hk2 hv2 hr2 bF3 bS3
                exact AllReadyIn.nil
              exact AllReadyIn.nil
            exact AllReadyIn.nil
          exact AllReadyIn.nil
        exact AllReadyIn.nil
      exact AllReadyIn.nil
    exact AllReadyIn.nil
  case done =>
    rintro D ys W hD rfl ⟨⟨⟨⟨v, bO1, hrow, _⟩, bF1⟩, bS1⟩, hB1⟩ hK
    have cO := bO1.cell
    gi_wp2
    refine ⟨by simp, .inl ⟨_, _, rfl, run_takeDeferred hK, ?_⟩⟩
    have hrow2 := ownsRow_putObj hrow (.deferred none) hK rfl
    rw [backs_len, dgs_backs] at hrow2
    exact ⟨_, results_tmp rfl _ _ _, v, rfl, hrow2, Fr.of_below (hB1.trans (belowK_b (w := w) (Nat.le_refl _) W D _ _ (by omega) hK rfl rfl))⟩
  case stop =>
    rintro D c pre W _ _ h _
    exact h.elim
end Go.Proofs.YtdngnmpmaacapaaGreatDoor
