/-
  Merged: BoardA.
-/
import Derived.Test.YtdngnmpmaacapaaGreatDoorMOrdP
import Derived.Test.YtdngnmpmaacapaaGreatDoorMTestB
import Derived.Deep.RegionHeld3
import Derived.Deep.RegionLawGrows
import Derived.Deep.AppendLies
set_option linter.unusedVariables false
set_option linter.unusedSimpArgs false
/-
  Contracts: clone and do of the program, on exercises.
-/
namespace Go.Proofs.YtdngnmpmaacapaaGreatDoor
open Go.RowKit

/-- A new slice of exercises. -/
def NewT (ys : List Tst) (w : World) (e : Ending) (w' : World) : Prop :=
  ∃ a, e = .returned (.slice a ys.length ys.length) ∧ Own w' w.heap.size 52 3 (.slice a ys.length ys.length) ys.length (tests ys) ∧ Fr w.heap.size none w w'

theorem clipT_any (a : Option Addr) (cap n : Nat) (w : World) (hn : n ≤ cap) (hc : cap ≤ 9223372036854775807) :
    Calls Tryz.prog 101 #[.slice a n cap] w fun e w' => e = .returned (.slice a n n) ∧ w = w' := by
  go_enter Tryz.func101, Tryz.ntmps101
  go_wp2
  go_ret
  exact ⟨rfl, rfl⟩

theorem appAll {ops : Array Oper} {rest : List Oper} {o : Oper} {a : Act} {Q : Exit → Act → World → Prop} {wr : World} (T E : TypeId) (z : Value) (size bytes : Nat)
    (ht : Tryz.prog.underlying T = some (.slice E)) (hinfo : (Tryz.prog.info? E).map (fun i => (i.zero, i.size, i.bytes)) = some (some z, size, bytes)) (hzs : z.cells.size = size) (hsz : 0 < size) (hby : bytes ≤ 64)
    (hgd : o.guard = none) (s x : Operand) (ho : o.op = .call { callee := .builtin .append, args := #[s, x], argTypes := #[T, T] })
    {B : Nat} {v : Value} {n : Nat} {cs : List Value} (p : Addr) (m c : Nat) (news : List Value) (hown : wr.ownsRow B E size v n cs) (hs : a.eval s = v) (hx : a.eval x = .slice (some p) m c)
    (hl : news.length = m * size) (hsl : Sl wr (some p) news) (h1 : ∀ u ∈ news, u.oneCell' = true) (hn : n + m ≤ 1099511627776) (hB : B ≤ wr.heap.size)
    (h : ∀ v' w', w'.ownsRow B E size v' (n + m) (cs ++ news) → Fr wr.heap.size v.ownBlock wr w' → wpList Tryz.prog ops Q rest (a.put o.dst v') w') :
    wpList Tryz.prog ops Q (o :: rest) a wr := by
  obtain ⟨i0, hi, hz0, hz1, hz2⟩ := info_parts hinfo
  refine wpList_append_own _ hgd s x T ho B E i0 z size bytes ht hi hz0 hz1 hz2 hzs hsz v n cs hs hown p m c news hx hl ?_ h1 (by simp [maxLen]; omega) ?_ hB ?_
  · intro j u hu
    have hj : j < news.length := (List.getElem?_eq_some_iff.1 hu).1
    obtain ⟨b, off, e1, e2⟩ := hsl j hj
    cases e1
    have ha : (⟨b, off, none⟩ : Addr).add j = ⟨b, off + j, none⟩ := by simp [Addr.add]
    rw [ha, e2]; rw [List.getElem?_eq_getElem hj] at hu; exact hu
  · have : (n + m) * bytes ≤ (n + m) * 64 := Nat.mul_le_mul_left _ hby
    omega
  · intro v' w' ho' hg _
    refine h v' w' ho' ((Fr.refl _ _ wr).grown hg (Nat.le_refl _) ?_)
    intro k hk; exact .inr hk.symm

theorem cells_oneT (xs : List Tst) : ∀ u ∈ tests xs, u.oneCell' = true := by
  intro u hu
  simp only [tests, rows, List.mem_flatMap] at hu
  obtain ⟨x, _, hx⟩ := hu
  simp [testF] at hx
  rcases hx with rfl | rfl | rfl <;> rfl

theorem sliceCloneT_any (a : Option Addr) (ca : Nat) (cs : List Tst) (w : World) (hs : Sl w a (tests cs)) (hm : cs.length ≤ 1048576) :
    Calls Tryz.prog 102 #[.slice a cs.length ca] w fun e w' => ∃ a' c', e = .returned (.slice a' cs.length c') ∧ w'.ownsRow w.heap.size 52 3 (.slice a' cs.length c') cs.length (tests cs) ∧ Fr w.heap.size none w w' := by
  have hnil := fun W n => Lib.run_eql_slice_nil (P := Tryz.prog) W 23 52 a n ca 0 0 Tryz.underlying23
  cases a with
  | none =>
    have h0 : cs = [] := by
      cases cs with
      | nil => rfl
      | cons c r =>
        obtain ⟨b, off, e, _⟩ := hs 0 (by rw [tests_length]; simp)
        cases e
    subst h0
    go_enter Tryz.func102, Tryz.ntmps102
    go_wp2
    go_ret
    exact ⟨none, 0, rfl, World.ownsRow_nil _ _ _ _, Fr.refl _ _ _⟩
  | some p =>
    have HS := Lib.hid hs; clear hs
    go_enter Tryz.func102, Tryz.ntmps102
    go_wp2_with (at_builtin; refine appAll 23 52 (.agg #[.string ByteArray.empty, .string ByteArray.empty, .string ByteArray.empty]) 3 48 Tryz.underlying23 infoTest rfl (by decide) (by decide) rfl _ _ rfl p cs.length ca (tests cs) (World.ownsRow_made (base := w.heap.size) w #[] 0 (Nat.le_refl _) (by simp [maxLen]) (by simp)) rfl rfl (tests_length cs) (HS.out.fr ((Fr.refl _ _ _).alloc (Nat.le_refl _) _)) (cells_oneT cs) (by omega) (by simp) ?_; intro v' w' ho' hF')
    obtain ⟨a', c', rfl, _, _⟩ := own_slice ho'
    rw [Nat.zero_add, List.nil_append] at ho'
    have HO := Lib.hid ho'
    have HF := Lib.hid (((Fr.refl _ _ w).alloc (Nat.le_refl _) _).trans (hF'.up (B' := w.heap.size) (by simp) (by intro g hg; cases hg; exact Nat.le_refl _)))
    clear ho' hF'
    go_wp2
    go_ret
    exact ⟨a', c', ret_slice (Nat.zero_add _), HO.out, HF.out⟩

theorem cloneT_any (a : Option Addr) (ca : Nat) (cs : List Tst) (w : World) (hs : Sl w a (tests cs)) (hm : cs.length ≤ 1048576) :
    Calls Tryz.prog 61 #[.slice a cs.length ca] w (NewT cs w) := by
  have HS := Lib.hid hs; clear hs
  go_enter Tryz.func61, Tryz.ntmps61
  go_wp2_with fail
  refine (sliceCloneT_any a ca cs _ HS.out hm).mono ?_; rintro e w1 ⟨a1, c1, rfl, ho, hF⟩
  obtain ⟨a2, c2, hv, hcap, hcm⟩ := own_slice ho
  cases hv
  unfold maxLen at hcm
  have HO := Lib.hid (Own.of ho).clip; clear ho
  go_wp2_with fail
  refine (clipT_any _ _ _ _ hcap (by omega)).mono ?_; rintro e w' ⟨rfl, rfl⟩
  go_wp2
  go_ret
  exact ⟨_, rfl, HO.out, hF⟩

/-- A new slice of exercises, and a truth. -/
def NewTB (ys : List Tst) (b : Bool) (w : World) (e : Ending) (w' : World) : Prop :=
  ∃ a cap, e = .returned (.tuple #[.slice a ys.length cap, .bool b]) ∧ Own w' w.heap.size 52 3 (.slice a ys.length cap) ys.length (tests ys) ∧ Fr w.heap.size none w w'
theorem newTB_of {xs : List Tst} {b : Bool} {r : List Tst × Bool} {w w0 w' : World} {a : Option Addr} {cap : Nat} (h : (xs, b) = r) (ho : Own w' w0.heap.size 52 3 (.slice a xs.length cap) xs.length (tests xs)) (hB : w.heap.size ≤ w0.heap.size) (hF : Fr w.heap.size none w w') :
    NewTB r.1 r.2 w (.returned (.tuple #[.slice a xs.length cap, .bool b])) w' := by
  subst h; exact ⟨a, cap, rfl, ho.base_le hB, hF⟩
theorem newTB_len {xs : List Tst} {b : Bool} {r : List Tst × Bool} {w w0 w' : World} {a : Option Addr} {n cap : Nat} (h : (xs, b) = r) (hn : xs.length = n) (ho : Own w' w0.heap.size 52 3 (.slice a n cap) n (tests xs)) (hB : w.heap.size ≤ w0.heap.size) (hF : Fr w.heap.size none w w') :
    NewTB r.1 r.2 w (.returned (.tuple #[.slice a n cap, .bool b])) w' := by
  subst hn; exact newTB_of h ho hB hF
theorem do_back_yes {xs : List Tst} {x : Tst} (h : x = noTest) (h2 : 0 < xs.length) : (xs.take (xs.length - 1), true) = doI xs (true, x) := by simp [doI, h, h2]
theorem do_back_no1 {xs : List Tst} {x : Tst} (h : x ≠ noTest) : (xs, false) = doI xs (true, x) := by simp [doI, h]
theorem do_back_no2 {xs : List Tst} {x : Tst} (h : ¬ 0 < xs.length) : (xs, false) = doI xs (true, x) := by
  unfold doI; rw [if_pos rfl, if_neg (fun e => h e.2)]
theorem do_take_yes {xs : List Tst} {x : Tst} (h : boardOkB (xs ++ [x]) = true) : (xs ++ [x], true) = doI xs (false, x) := by simp [doI, h]
theorem do_take_no {xs : List Tst} {x : Tst} (h : boardOkB (xs ++ [x]) = false) : (xs, false) = doI xs (false, x) := by simp [doI, h]
theorem take_sl {w : World} {a : Option Addr} {xs : List Tst} (h : Sl w a (tests xs)) (n : Nat) : Sl w a (tests (xs.take n)) := by
  intro j hj
  have e : tests xs = tests (xs.take n) ++ tests (xs.drop n) := by rw [tests, tests, tests, ← rows_append, List.take_append_drop]
  have hj' : j < (tests xs).length := by rw [e, List.length_append]; omega
  obtain ⟨b, off, h1, h2⟩ := h j hj'
  refine ⟨b, off, h1, ?_⟩
  rw [h2]
  congr 1
  have : (tests xs)[j]? = (tests (xs.take n))[j]? := by rw [e, List.getElem?_append_left hj]
  rw [List.getElem?_eq_getElem hj', List.getElem?_eq_getElem hj] at this
  exact Option.some.inj this

theorem own_hnone {w : World} {B n cap : Nat} {E : TypeId} {z : Nat} {a : Option Addr} {cs : List Value} (h : Own w B E z (.slice a n cap) n cs) : a = none → n = 0 ∧ cap = 0 := by
  intro ha; subst ha
  rcases h.2 with ⟨h', h0⟩ | ⟨g, cap', cur, h', _⟩
  · simp only [Value.slice.injEq] at h'; exact ⟨h0, h'.2.2⟩
  · simp at h'
theorem sl_holds {w : World} {a : Option Addr} {cs : List Value} (h : Sl w a cs) : ∀ b, a = some b → ∀ j u, cs[j]? = some u → w.cell? (b.add j) = some u := by
  intro b hb j u hu
  have hj : j < cs.length := (List.getElem?_eq_some_iff.1 hu).1
  obtain ⟨b', off, e1, e2⟩ := h j hj
  rw [hb] at e1; cases e1
  have ha : (⟨b', off, none⟩ : Addr).add j = ⟨b', off + j, none⟩ := by simp [Addr.add]
  rw [ha, e2]; rw [List.getElem?_eq_getElem hj] at hu; exact hu
theorem sl_fr {w w' : World} {a : Option Addr} {cs : List Value} (h : Sl w a cs) {B : Nat} (hF : Fr B none w w') (hB : B = w.heap.size) : Sl w' a cs := by subst hB; exact h.fr hF
theorem new2 (w : World) (o1 o2 : Obj) : ((w.alloc o1).alloc o2).drew.heap[w.heap.size + 1]? = some o2 := by
  have h := heap_alloc_new (w.alloc o1) o2
  have e : (w.alloc o1).heap.size = w.heap.size + 1 := by simp
  rw [e] at h; exact h
theorem fr_box1 {w w2 w' : World} {o o2 : Obj} (h : Fr (w.alloc o).drew.heap.size none (w.alloc o).drew w2) (k : Fr (w2.alloc o2).heap.size none (w2.alloc o2) w') : Fr w.heap.size none w w' := by
  have g := ((Fr.refl w.heap.size none w).alloc (Nat.le_refl _) o).drew.and h
  exact (g.alloc g.size o2).and k
theorem fr_box2 {w w2 w' : World} {o o2 : Obj} (h : Fr ((w.alloc o).alloc o2).drew.heap.size none ((w.alloc o).alloc o2).drew w2) (k : Fr w2.heap.size none w2 w') : Fr w.heap.size none w w' := by
  have g := (((Fr.refl w.heap.size none w).alloc (Nat.le_refl _) o).alloc (by simp) o2).drew.and h
  exact g.and k
theorem stepApp1 {ops : Array Oper} {o : Oper} {a : Act} {w : World} {K : Act → World → Prop} {Q : Exit → Act → World → Prop} {E : Prop} {B : Nat}
    (hg : o.guard = none) (s x : Operand) (hop : o.op = Op.call { callee := Callee.builtin Builtin.append, args := #[s, x], argTypes := #[23, 23] })
    (a2 : Option Addr) (n : Nat) (xs : List Tst) (x1 x2 x3 : ByteArray) (g : Nat) (hs : a.eval s = .slice a2 n n) (ho : Own w B 52 3 (.slice a2 n n) n (tests xs)) (hx : a.eval x = .slice (some ⟨g, 0, none⟩) 1 1)
    (hb : w.heap[g]? = some (.cells #[.string x1, .string x2, .string x3] 52 (0, 0))) (hn : n ≤ 1048575)
    (hK : ∀ v' w', w'.ownsRow w.heap.size 52 3 v' (n + 1) (tests xs ++ [.string x1, .string x2, .string x3]) → Fr w.heap.size none w w' → K (a.put o.dst v') w') :
    if Region.wanted o (yielded ops a.tmps) = true then Oper.wp Tryz.prog o a w K Q else E := by
  obtain ⟨i0, hi, hz0, hz1, hz2⟩ := info_parts infoTest
  refine step_append_grows hg s x 23 hop 52 i0 (.agg #[.string ByteArray.empty, .string ByteArray.empty, .string ByteArray.empty]) 3 48 Tryz.underlying23 hi hz0 hz1 hz2 rfl (by decide) a2 n n (tests xs) hs (own_hnone ho) ho.1 (sl_holds (Own.sl ho)) ⟨g, 0, none⟩ 1 1 [.string x1, .string x2, .string x3] hx rfl (World.news_of_block (cs := #[.string x1, .string x2, .string x3]) (t := 52) (fr := (0, 0)) hb) (by simp [Value.oneCell']) (by omega) (by simp [maxLen]; omega) (by omega) ?_
  intro v' w' hown hgrow
  exact hK v' w' hown ((Fr.refl _ _ w).grown hgrow (Nat.le_refl _) (by simp))
theorem fr_box {w w' : World} {o : Obj} (h : Fr (w.alloc o).heap.size none (w.alloc o) w') : Fr w.heap.size none w w' := ((Fr.refl w.heap.size none w).alloc (Nat.le_refl _) _).and h
theorem box_le (w : World) (o : Obj) : w.heap.size ≤ (w.alloc o).heap.size := by simp

set_option maxHeartbeats 1000000 in
set_option maxRecDepth 100000 in
theorem implDoBack_any (a : Option Addr) (ca : Nat) (xs : List Tst) (x1 x2 x3 : ByteArray) (w : World) (hs : Sl w a (tests xs)) (hm : xs.length ≤ 1048575) (hc : xs.length ≤ ca) :
    Calls Tryz.prog 74 #[.slice a xs.length ca, .agg #[.bool true, .string x1, .string x2, .string x3]] w (NewTB (doI xs (true, x1, x2, x3)).1 (doI xs (true, x1, x2, x3)).2 w) := by
  have HS := Lib.hid hs; clear hs
  by_cases hx : (x1, x2, x3) = noTest
  · by_cases h0 : 0 < xs.length
    · have hr := Lib.hid (do_back_yes hx h0)
      simp only [noTest, Prod.mk.injEq] at hx
      obtain ⟨rfl, rfl, rfl⟩ := hx
      have hzl : ((xs.length : Int) == 0) = false := by rw [beq_eq_false_iff_ne]; omega
      have hl : Hid ((xs.take (xs.length - 1)).length = xs.length - 1) := Lib.hid (by rw [List.length_take]; omega)
      have CL := Lib.hid (fun W h => cloneT_any a ca (xs.take (xs.length - 1)) W h (by rw [List.length_take]; omega))
      rw [hl.out] at CL
      have hcast : ((xs.length : Int) - 1).toNat = xs.length - 1 := by omega
      go_enter Tryz.func74, Tryz.ntmps74
      go_wp2_with fail
      refine (CL.out _ (take_sl (HS.out.fr ((Fr.refl _ _ _).alloc (Nat.le_refl _) _)) _)).mono ?_; rintro e w2 ⟨a2, rfl, ho2, hF2⟩
      rw [hl.out] at ho2 ⊢
      go_wp2
      go_ret2
      exact newTB_len hr.out hl.out ho2 (box_le _ _) (fr_box hF2)
    · have hr := Lib.hid (do_back_no2 (x := (x1, x2, x3)) h0)
      simp only [noTest, Prod.mk.injEq] at hx
      obtain ⟨rfl, rfl, rfl⟩ := hx
      have hzl : ((xs.length : Int) == 0) = true := by rw [beq_iff_eq]; omega
      clear h0
      go_enter Tryz.func74, Tryz.ntmps74
      go_wp2_with (go_at_call 61; refine (cloneT_any a ca xs _ (HS.out.fr ((Fr.refl _ _ _).alloc (Nat.le_refl _) _)) (by omega)).mono ?_; rintro e w2 ⟨a2, rfl, ho2, hF2⟩)
      go_ret2
      exact newTB_of hr.out ho2 (box_le _ _) (fr_box hF2)
  · have hr := Lib.hid (do_back_no1 (xs := xs) hx)
    have HX := Lib.hid hx; clear hx
    go_enter Tryz.func74, Tryz.ntmps74
    go_wp2_with (go_at_call 61; refine (cloneT_any a ca xs _ (HS.out.fr ((Fr.refl _ _ _).alloc (Nat.le_refl _) _)) (by omega)).mono ?_; rintro e w2 ⟨a2, rfl, ho2, hF2⟩)
    all_goals first
      | (exfalso; apply HX.out; simp only [noTest, Prod.mk.injEq]; refine ⟨?_, ?_, ?_⟩ <;> (rw [← toList_nil_iff_emptyBytes]; assumption))
      | (go_ret2; exact newTB_of hr.out ho2 (box_le _ _) (fr_box hF2))

set_option maxHeartbeats 1000000 in
set_option maxRecDepth 100000 in
theorem implDoTake_any (a : Option Addr) (ca : Nat) (xs : List Tst) (x1 x2 x3 : ByteArray) (w : World) (hs : Sl w a (tests xs)) (hm : xs.length ≤ 1048575) (hz : Small xs) (hd : small (x1, x2, x3)) :
    Calls Tryz.prog 74 #[.slice a xs.length ca, .agg #[.bool false, .string x1, .string x2, .string x3]] w (NewTB (doI xs (false, x1, x2, x3)).1 (doI xs (false, x1, x2, x3)).2 w) := by
  obtain ⟨i0, hi, hz0, hz1, hz2⟩ := info_parts infoTest
  have HS0 := Lib.hid hs
  have S1 : Hid (Sl (w.alloc (.cells #[.bool false, .string x1, .string x2, .string x3] 54)) a (tests xs)) := Lib.hid (hs.fr ((Fr.refl _ _ _).alloc (Nat.le_refl _) _))
  have S2 : ∀ o, Sl ((w.alloc (.cells #[.bool false, .string x1, .string x2, .string x3] 54)).alloc o) a (tests xs) := fun o => S1.out.fr ((Fr.refl _ _ _).alloc (Nat.le_refl _) _)
  have S2 := Lib.hid S2
  clear hs
  have hl1 : (tests xs).length = xs.length * 3 := tests_length xs
  have HL1 := Lib.hid hl1; clear hl1
  go_enter Tryz.func74, Tryz.ntmps74
  go_wp2
  go_region_held3 (fun w' => w'.cell? ⟨w.heap.size, 1, none⟩ = some (.string x1) ∧ w'.cell? ⟨w.heap.size, 2, none⟩ = some (.string x2) ∧ w'.cell? ⟨w.heap.size, 3, none⟩ = some (.string x3))
    (first
      | go_keep
      | (go_split_ands; refine ⟨?_, ?_, ?_⟩ <;> (rw [hF2.cell (by first | (simp; done) | (simp; omega)) (by simp)]; assumption))
      | (go_split_ands; refine ⟨?_, ?_, ?_⟩ <;> (rw [hgF.cell (by have h9 := hF2.size; simp at h9 ⊢; omega) (by simp)]; assumption)))
    (first
      | (go_at_call 61; refine (cloneT_any a ca xs _ (by first | exact S1.out | exact S2.out _) (by omega)).mono ?_; rintro e w2 ⟨a2, rfl, ho2, hF2⟩)
      | (refine stepApp1 (by rfl) (.tmp 27) (.tmp 30) (by rfl) a2 xs.length xs x1 x2 x3 w2.heap.size (by rfl) (Own.keep ho2 ((Fr.refl _ _ w2).alloc (Nat.le_refl _) _)) (by rfl) (heap_alloc_new w2 _) hm ?_; intro v' w' hown hgF)
      | (refine stepApp1 (by rfl) (.tmp 27) (.tmp 30) (by rfl) a2 xs.length xs x1 x2 x3 (w.heap.size + 1) (by rfl) ho2 (by rfl) ((hF2.block (w.heap.size + 1) (by simp) (by simp)).trans (new2 _ _ _)) hm ?_; intro v' w' hown hgF))
  all_goals
    have G := Lib.hid (show Fr w.heap.size none w w' by first | exact fr_box1 hF2 hgF | exact fr_box2 hF2 hgF)
    obtain ⟨a', c', rfl, hc', hc2⟩ := own_slice hown
    have hN : Sl w' a' (tests (xs ++ [(x1, x2, x3)])) := by rw [tests, rows_append, rows_one]; exact own_sl hown
    have HN := Lib.hid hN
    clear hN hown hgF hF2 ho2 hc2
    cases hb : boardOkB (xs ++ [(x1, x2, x3)])
  all_goals
    have HB := Lib.hid hb
    have CB := fun W hs => implBoard_val (a := a') (cap := c') (xs := xs ++ [(x1, x2, x3)]) (w := W) hs (by simp; omega) (small_snoc hz hd) HB.out
    have CN := fun W hs => cloneT_any a' c' (xs ++ [(x1, x2, x3)]) W hs (by simp; omega)
    simp only [List.length_append, List.length_cons, List.length_nil, Nat.zero_add] at CB CN
    have CB := Lib.hid CB
    have CN := Lib.hid CN
    clear hb
    go_wp2_with fail
    refine (CB.out _ HN.out).mono ?_; rintro e w4 ⟨rfl, hF4⟩
    have G4 := Lib.hid (G.out.and hF4)
    have HN4 := Lib.hid (HN.out.fr hF4)
    clear hF4
    go_wp2_with fail
    first
      | (refine (cloneT_any a ca xs _ (HS0.out.fr G4.out) (by omega)).mono ?_; rintro e w5 ⟨a5, rfl, ho5, hF5⟩
         have hr := Lib.hid (do_take_no HB.out)
         have H5 := Lib.hid ho5
         have G5 := Lib.hid (G4.out.and hF5)
         clear ho5 hF5
         go_wp2
         go_ret2
         exact newTB_of hr.out H5.out G4.out.size G5.out)
      | (refine (CN.out _ HN4.out).mono ?_; rintro e w5 ⟨a5, rfl, ho5, hF5⟩
         have hr := Lib.hid (do_take_yes HB.out)
         have hl := Lib.hid (show (xs ++ [(x1, x2, x3)]).length = xs.length + 1 by simp)
         have G5 := Lib.hid (G4.out.and hF5)
         rw [hl.out] at ho5 ⊢
         have H5 := Lib.hid ho5
         clear ho5 hF5
         go_wp2
         go_ret2
         exact newTB_len hr.out hl.out H5.out G4.out.size G5.out)
theorem implDo_any (a : Option Addr) (ca : Nat) (xs : List Tst) (d : Dd) (w : World) (hs : Sl w a (tests xs)) (hm : xs.length ≤ 1048575) (hc : xs.length ≤ ca) (hz : Small xs) (hd : small d.2) :
    Calls Tryz.prog 74 #[.slice a xs.length ca, .agg #[.bool d.1, .string d.2.1, .string d.2.2.1, .string d.2.2.2]] w (NewTB (doI xs d).1 (doI xs d).2 w) := by
  obtain ⟨d0, x1, x2, x3⟩ := d
  cases d0
  · exact implDoTake_any a ca xs x1 x2 x3 w hs hm hz hd
  · exact implDoBack_any a ca xs x1 x2 x3 w hs hm hc
end Go.Proofs.YtdngnmpmaacapaaGreatDoor
