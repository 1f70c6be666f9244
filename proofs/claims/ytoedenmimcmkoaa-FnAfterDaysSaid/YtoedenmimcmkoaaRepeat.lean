/-
  Contracts: slices.Repeat of one card, and DeckNew, of the program and of the reference.
-/
import Derived.Test.YtoedenmimcmkoaaDeckC
import Derived.Deep.RegionLaw
import Derived.Laws.CopyRow
namespace Go.Proofs.Ytoedenmimcmkoaa
open Go.RowKit

theorem copyRun {w : World} (dT sT oT : TypeId) (elem size : Nat) (hu : Try.prog.underlying dT = some (.slice elem)) (hsz : (Try.prog.info? elem).map (·.size) = some size)
    (g off dLen dCap : Nat) (ad : Addr) (sLen sCap : Nat)
    (cur : List Value) (t : TypeId) (hg : w.heap[g]? = some (.cells cur.toArray t (0, 0))) (n : Nat) (hn : n = Nat.min sLen dLen) (cs : List Value) (hl : cs.length = n * size)
    (hsrc : Sl w (some ad) cs) (hfit : off + cs.length ≤ cur.length) (h1 : ∀ v ∈ cs, v.oneCell' = true) :
    (Builtin.copy_ #[dT, sT] oT #[.slice (some ⟨g, off, none⟩) dLen dCap, .slice (some ad) sLen sCap]).run Try.prog w = .ok (goInt n) (w.setRow g (cur.take off ++ (cs ++ cur.drop (off + cs.length))).toArray) := by
  have hcells : ∀ j v, cs[j]? = some v → w.cell? (ad.add j) = some v := by
    intro j u hu
    have hj : j < cs.length := (List.getElem?_eq_some_iff.1 hu).1
    obtain ⟨b, of, e1, e2⟩ := hsrc j hj
    cases e1
    have ha : (⟨b, of, none⟩ : Addr).add j = ⟨b, of + j, none⟩ := by simp [Addr.add]
    rw [ha, e2]; rw [List.getElem?_eq_getElem hj] at hu; exact hu
  have hf := run_firstCells_some (P := Try.prog) w size n ad sLen sCap cs hl hcells
  have hst := run_storeCells_at Try.prog g off t cs 0 cur.toArray w hg (by simpa using hfit) h1
  cases hq : Try.prog.info? elem with
  | none => simp [hq] at hsz
  | some i =>
    have hi : i.size = size := by simpa [hq] using hsz
    simp [Builtin.copy_, run_underlying hu, Builtin.lenOf, sizeOf, typeInfo, hq, hi, ← hn, hf]
    simpa using congrArg (fun r => Result.andThen r fun _ w => Result.ok (goInt n) w) hst
theorem copyThen {w : World} {g off : Nat} {cur cs : List Value} {t : TypeId} (hg : w.heap[g]? = some (.cells cur.toArray t (0, 0))) :
    (w.setRow g (cur.take off ++ (cs ++ cur.drop (off + cs.length))).toArray).heap[g]? = some (.cells (cur.take off ++ (cs ++ cur.drop (off + cs.length))).toArray t (0, 0)) ∧ Fr w.heap.size (some g) w (w.setRow g (cur.take off ++ (cs ++ cur.drop (off + cs.length))).toArray) :=
  ⟨setRow_heap w g cur.toArray _ t _ hg, rfl, rfl, rfl, by simp [World.setRow], fun k hk hne => setRow_other w g k _ (fun e => hne (by rw [e]))⟩

theorem mul_any (k : Nat) (hk : k ≤ 8) (w : World) : Calls Try.prog 93 #[.int .u64 1, .int .u64 (k : Int)] w fun e w' => e = .returned (.tuple #[.int .u64 0, .int .u64 (k : Int)]) ∧ w = w' := by
  have : k = 0 ∨ k = 1 ∨ k = 2 ∨ k = 3 ∨ k = 4 ∨ k = 5 ∨ k = 6 ∨ k = 7 ∨ k = 8 := by omega
  rcases this with rfl | rfl | rfl | rfl | rfl | rfl | rfl | rfl | rfl
  all_goals
    go_enter Try.func93, Try.ntmps93
    go_wp2
    go_ret2
    exact ⟨rfl, rfl⟩

/-- n cards as new, ahead of rows not yet written. -/
def newRow (k n : Nat) : List Value := cards (List.replicate n (1, 0)) ++ zrows [.int .i64 0, .int .i64 0] (k - n)
theorem newRow_length (k n : Nat) (h : n ≤ k) : (newRow k n).length = k * 2 := by
  unfold newRow; rw [List.length_append, cards_length, zrows_length, List.length_replicate]; simp; omega
theorem newRow_full (k : Nat) : newRow k k = cards (List.replicate k (1, 0)) := by unfold newRow; rw [Nat.sub_self, zrows_zero, List.append_nil]
theorem newRow_copy (k n m : Nat) (h : n + m ≤ k) : (newRow k n).take (n * 2) ++ (cards (List.replicate m (1, 0)) ++ (newRow k n).drop (n * 2 + (cards (List.replicate m (1, 0))).length)) = newRow k (n + m) := by
  have h1 : (cards (List.replicate n ((1 : Int), (0 : Int)))).length = n * 2 := by rw [cards_length, List.length_replicate]
  have h2 : (cards (List.replicate m ((1 : Int), (0 : Int)))).length = m * 2 := by rw [cards_length, List.length_replicate]
  unfold newRow
  rw [List.take_append_of_le_length (Nat.le_of_eq h1.symm), List.take_of_length_le (Nat.le_of_eq h1), h2, List.drop_append, h1, show n * 2 + m * 2 - n * 2 = m * 2 by omega, List.drop_eq_nil_of_le (by omega), List.nil_append,
    show k - n = m + (k - (n + m)) by omega]
  have h3 : zrows [Value.int .i64 0, Value.int .i64 0] (m + (k - (n + m))) = zrows [Value.int .i64 0, Value.int .i64 0] m ++ zrows [Value.int .i64 0, Value.int .i64 0] (k - (n + m)) := by
    unfold zrows; rw [← List.replicate_append_replicate, List.flatten_append]
  rw [h3, List.drop_append, zrows_length, show m * 2 - m * [Value.int .i64 0, Value.int .i64 0].length = 0 by simp, List.drop_eq_nil_of_le (by rw [zrows_length]; simp), List.nil_append, List.drop_zero]
  have h4 : cards (List.replicate (n + m) ((1 : Int), (0 : Int))) = cards (List.replicate n (1, 0)) ++ cards (List.replicate m (1, 0)) := by
    rw [← List.replicate_append_replicate]; exact rows_append _ _ _
  rw [h4, List.append_assoc]
theorem newRow_zero (k : Nat) : newRow k 0 = zrows [.int .i64 0, .int .i64 0] k := by unfold newRow; rw [Nat.sub_zero]; rfl
theorem row_block {w : World} {B g n : Nat} {E : TypeId} {cs : List Value} (h : w.ownsRow B E 2 (.slice (some ⟨g, 0, none⟩) n n) n cs) : w.heap[g]? = some (.cells cs.toArray E (0, 0)) := by
  rcases h.2 with ⟨h', _⟩ | ⟨g', cap', cur, h', _, hg, _, _, hcs, htake⟩
  · simp at h'
  · simp only [Value.slice.injEq, Option.some.injEq, Addr.mk.injEq, and_true, true_and] at h'
    obtain ⟨rfl, rfl⟩ := h'
    have : cur.toList = cs := by rw [← htake, List.take_of_length_le (by simp; omega)]
    rw [hg, ← this]

theorem copyStep {k g : Nat} {ops : Array Oper} {o : Oper} {a' : Act} {rest : List Oper} {Q : Exit → Act → World → Prop} {wr : World} (n m : Nat) (hnm : n + m ≤ k) (p : Addr) (sLen sCap dLen dCap : Nat) (hm : m = Nat.min sLen dLen) (hgd : o.guard = none) (d s : Operand)
    (ho : o.op = .call { callee := .builtin .copy, args := #[d, s], argTypes := #[35, 35] }) (hd : a'.eval d = .slice (some ⟨g, n * 2, none⟩) dLen dCap) (hs : a'.eval s = .slice (some p) sLen sCap)
    (hsl : Sl wr (some p) (cards (List.replicate m (1, 0)))) (hblk : wr.heap[g]? = some (.cells (newRow k n).toArray 63 (0, 0)))
    (h : ∀ w', w'.heap[g]? = some (.cells (newRow k (n + m)).toArray 63 (0, 0)) → Fr wr.heap.size (some g) wr w' → wpList Try.prog ops Q rest (a'.put o.dst (.int .i64 (m : Int))) w') :
    wpList Try.prog ops Q (o :: rest) a' wr := by
  have hl : (cards (List.replicate m ((1 : Int), (0 : Int)))).length = m * 2 := by rw [cards_length, List.length_replicate]
  have hfit : n * 2 + (cards (List.replicate m ((1 : Int), (0 : Int)))).length ≤ (newRow k n).length := by rw [newRow_length k n (by omega), hl]; omega
  have hrun := copyRun 35 35 o.type 63 2 Try.underlying35 (by kernel_rfl) g (n * 2) dLen dCap p sLen sCap (newRow k n) 63 hblk m hm _ hl hsl hfit (cells_one _)
  obtain ⟨h1, h2⟩ := copyThen (off := n * 2) (cs := cards (List.replicate m ((1 : Int), (0 : Int)))) hblk
  refine wpList_plain hgd fun K hK => ?_
  unfold Oper.wp
  simp [execOp, ho, resolve, invoke, builtin, hd, hs, hrun, Result.andThen]
  refine hK _ _ (h _ ?_ h2)
  rw [h1, newRow_copy k n m hnm]

theorem copyLaw {k g : Nat} {ops : Array Oper} {o : Oper} {a' : Act} {K : Act → World → Prop} {Q : Exit → Act → World → Prop} {E : Prop} {wr : World} (n m : Nat) (hnm : n + m ≤ k) (p : Addr) (sLen sCap dLen dCap : Nat) (hm : m = Nat.min sLen dLen) (hgd : o.guard = none) (d s : Operand)
    (ho : o.op = .call { callee := .builtin .copy, args := #[d, s], argTypes := #[35, 35] }) (hd : a'.eval d = .slice (some ⟨g, n * 2, none⟩) dLen dCap) (hs : a'.eval s = .slice (some p) sLen sCap)
    (hsl : Sl wr (some p) (cards (List.replicate m (1, 0)))) (hblk : wr.heap[g]? = some (.cells (newRow k n).toArray 63 (0, 0)))
    (h : ∀ w', w'.heap[g]? = some (.cells (newRow k (n + m)).toArray 63 (0, 0)) → Fr wr.heap.size (some g) wr w' → K (a'.put o.dst (.int .i64 (m : Int))) w') :
    if Region.wanted o (yielded ops a'.tmps) = true then Oper.wp Try.prog o a' wr K Q else E := by
  have hl : (cards (List.replicate m ((1 : Int), (0 : Int)))).length = m * 2 := by rw [cards_length, List.length_replicate]
  have hfit : n * 2 + (cards (List.replicate m ((1 : Int), (0 : Int)))).length ≤ (newRow k n).length := by rw [newRow_length k n (by omega), hl]; omega
  have hrun := copyRun 35 35 o.type 63 2 Try.underlying35 (by kernel_rfl) g (n * 2) dLen dCap p sLen sCap (newRow k n) 63 hblk m hm _ hl hsl hfit (cells_one _)
  obtain ⟨h1, h2⟩ := copyThen (off := n * 2) (cs := cards (List.replicate m ((1 : Int), (0 : Int)))) hblk
  have hw : Region.wanted o (yielded ops a'.tmps) = true := by simp [Region.wanted, hgd]
  rw [if_pos hw]
  unfold Oper.wp
  simp [execOp, ho, resolve, invoke, builtin, hd, hs, hrun, Result.andThen]
  refine h _ ?_ h2
  rw [h1, newRow_copy k n m hnm]

theorem repeat_any (k : Nat) (hk : k ≤ 8) (a : Addr) (ca : Nat) (w : World) (hs : Sl w (some a) (cards [(1, 0)])) :
    Calls Try.prog 87 #[.slice (some a) 1 ca, .int .i64 (k : Int)] w (NewC (List.replicate k (1, 0)) w) := by
  have HS := Lib.hid hs; clear hs
  obtain ⟨w1, hr, ho, hF⟩ := mkCards k (by omega) w
  have hb := row_block ho
  rw [← newRow_zero] at hb
  have HF := Lib.hid hF; have HB := Lib.hid hb
  have hL := (own_lt ho w.heap.size rfl).2
  have hz := hF.size
  clear hF hb ho
  go_enter Try.func87, Try.ntmps87
  go_wp2_with fail
  refine (mul_any k hk _).mono ?_; rintro e w' ⟨rfl, rfl⟩
  have hS1 : Hid (Sl w1 (some a) (cards (List.replicate (Nat.min 1 k) (1, 0)))) := by
    have := HS.out.fr HF.out
    by_cases h0 : k = 0
    · subst h0; exact Sl.nil _ _
    · rw [show Nat.min 1 k = 1 from Nat.min_eq_left (by omega)]; exact this
  have hm1 : Nat.min 1 k ≤ k := Nat.min_le_right 1 k
  have hm2 : Nat.min 1 k = 0 → k = 0 := by intro h; by_cases h0 : k = 0; exact h0; rw [show Nat.min 1 k = 1 from Nat.min_eq_left (by omega)] at h; omega
  generalize hmn : Nat.min 1 k = mn at *
  have HMN := Lib.hid hmn.symm; clear hmn
  go_wp2_with (refine copyStep (o := ⟨some 33, _, _, _, _, _⟩) (k := k) (g := w.heap.size) 0 mn (by omega) a 1 ca k k HMN.out rfl _ _ rfl rfl rfl hS1.out HB.out ?_; intro w2 hb2 hF2)
  have F2 := Lib.hid (HF.out.trans (hF2.up (B' := w.heap.size) hz (by intro g hg; cases hg; exact Nat.le_refl _)))
  have B2 := Lib.hid hb2
  clear hb2 hF2 hr
  rw [Nat.zero_add] at B2
  go_loopw [8] (fun i wr => ∃ n : Nat, n ≤ k ∧ (n = 0 → k = 0) ∧ i = .int .i64 n ∧ wr.heap[w.heap.size]? = some (.cells (newRow k n).toArray 63 (0, 0)) ∧ Fr w.heap.size none w wr) (fun i _ => k - (intOf i).toNat)
  case atStart => exact ⟨mn, hm1, hm2, rfl, B2.out, F2.out⟩
  case round =>
    obtain ⟨n, hn, hn0, rfl, hb, hF⟩ := hrel
    have HB3 := Lib.hid hb; have HF3 := Lib.hid hF; clear hb hF
    by_cases hlt : n < k
    · have hlt' : (n : Int) < (k : Int) := by omega
      obtain ⟨m2, hm2, hm3, hm4, hm5⟩ : ∃ m2, m2 = Nat.min n (k - n) ∧ n + m2 ≤ k ∧ 0 < m2 ∧ m2 ≤ n := by
        refine ⟨_, rfl, ?_, ?_, Nat.min_le_left _ _⟩
        · have : Nat.min n (k - n) ≤ k - n := Nat.min_le_right n (k - n); omega
        · exact Nat.lt_min.2 ⟨by omega, by omega⟩
      have hsl : Sl wr (some ⟨w.heap.size, 0, none⟩) (cards (List.replicate m2 (1, 0))) := by
        intro j hj
        rw [cards_length, List.length_replicate] at hj
        refine ⟨w.heap.size, 0, rfl, ?_⟩
        rw [Nat.zero_add, cell_of_row wr w.heap.size j _ _ (0, 0) HB3.out]
        have e1 : newRow k n = cards (List.replicate m2 (1, 0)) ++ (cards (List.replicate (n - m2) (1, 0)) ++ zrows [.int .i64 0, .int .i64 0] (k - n)) := by
          unfold newRow
          rw [← List.append_assoc, show n = m2 + (n - m2) by omega, ← List.replicate_append_replicate, show m2 + (n - m2) - m2 = n - m2 by omega]
          congr 1; exact rows_append _ _ _
        rw [e1, List.getElem?_toArray, List.getElem?_append_left (by rw [cards_length, List.length_replicate]; exact hj), List.getElem?_eq_getElem (by rw [cards_length, List.length_replicate]; exact hj)]
      have hkn : ¬ k = n := by omega
      have HSL := Lib.hid hsl; have HM2 := Lib.hid hm2; have HM3 := Lib.hid hm3
      clear hsl hm2
      go_wp2
      go_region_law (refine copyLaw (k := k) (g := w.heap.size) n m2 HM3.out ⟨w.heap.size, 0, none⟩ n k (k - n) (k - n) HM2.out rfl (.tmp 41) (.tmp 44) rfl (by simp [Act.eval, Act.put, hkn]) (by simp [Act.eval, Act.put]) HSL.out HB3.out ?_; intro w4 hb4 hF4)
      have B4 := Lib.hid hb4
      have F4 := Lib.hid (HF3.out.drew.trans (hF4.up (B' := w.heap.size) HF3.out.size (by intro g hg; cases hg; exact Nat.le_refl _)))
      clear hb4 hF4
      go_simp
      rw [IntWalk.i64_in ((n : Int) + (m2 : Int)) (by omega)]
      go_wp2
      go_roundw
      case rel => exact ⟨n + m2, by omega, by omega, by go_num, B4.out, F4.out⟩
      case measure => simp [intOf]; omega
    · obtain rfl : n = k := by omega
      have HN := Lib.hid (show Own wr w.heap.size 63 2 (.slice (some ⟨w.heap.size, 0, none⟩) n n) n (cards (List.replicate n (1, 0))) from by
        have hb := HB3.out
        rw [newRow_full] at hb
        exact ⟨by rw [cards_length, List.length_replicate], .inr ⟨w.heap.size, n, _, rfl, Nat.le_refl _, hb, Nat.le_refl _, by simp [maxLen]; omega, by simp [cards_length], by rw [List.take_of_length_le (by simp [cards_length])]⟩⟩)
      go_wp2
      go_ret
      exact ⟨_, _, ret_slice (by simp), by simpa using HN.out, HF3.out⟩

/-- A new deck. -/
def newDeckI (n : Int) : List (Int × Int) := if inB n 0 8 then List.replicate n.toNat (1, 0) else []
theorem newDeck_no {n : Int} (h : inB n 0 8 = false) : [] = newDeckI n := by simp [newDeckI, h]
theorem newDeck_yes {k : Nat} (h : k ≤ 8) : List.replicate k (1, 0) = newDeckI k := by simp [newDeckI, inB_true.2 (show 0 ≤ (k : Int) ∧ (k : Int) ≤ 8 by omega)]
theorem newDeckI_len (n : Int) : (newDeckI n).length ≤ 8 := by
  unfold newDeckI
  split
  · rename_i h; have := inB_true.1 h; simp; omega
  · simp
theorem newDeckI_le (n : Int) : (newDeckI n).length ≤ 1048576 := Nat.le_trans (newDeckI_len n) (by omega)
theorem newC_as {xs ys : List (Int × Int)} {w : World} {e : Ending} {w' : World} (h : xs = ys) (hN : NewC xs w e w') : NewC ys w e w' := h ▸ hN

theorem implDeckNew_any (n : Int) (w : World) : Calls Try.prog 74 #[.int .i64 n] w (NewC (newDeckI n) w) := by
  cases h : inB n 0 8
  · have hf := Lib.hid (newDeck_no h); have H := Lib.hid h; clear h
    go_enter Try.func74, Try.ntmps74
    go_wp2_with (go_at_call 62; refine (in_val H.out _).mono ?_; rintro e w' ⟨rfl, rfl⟩)
    go_ret
    exact newC_as hf.out ⟨none, 0, rfl, Own.nil _ _ _ _, Fr.refl _ _ _⟩
  · have hb := inB_true.1 h
    obtain ⟨k, rfl⟩ := Int.eq_ofNat_of_zero_le hb.1
    have hk : k ≤ 8 := by omega
    have hf := Lib.hid (newDeck_yes hk); have H := Lib.hid h; clear h hb
    go_enter Try.func74, Try.ntmps74
    go_wp2_with fail
    refine (in_val H.out _).mono ?_; rintro e w' ⟨rfl, rfl⟩
    go_wp2_with fail
    refine (repeat_any k hk _ _ _ ?_).mono ?_
    · intro j hj
      refine ⟨w.heap.size, 0, rfl, ?_⟩
      rw [Nat.zero_add, World.cell?_alloc_at _ _ _ _ rfl]
      have : j = 0 ∨ j = 1 := by simp [cards_length] at hj; omega
      rcases this with rfl | rfl <;> rfl
    · rintro e w1 ⟨va, vc, rfl, ho, hF⟩
      have hN := (newC_as hf.out (show NewC (List.replicate k (1, 0)) w (.returned (.slice va (List.replicate k ((1 : Int), (0 : Int))).length vc)) w1 from ⟨va, vc, rfl, ho.base_le (by simp), ((Fr.refl w.heap.size none w).alloc (Nat.le_refl _) _).trans (hF.mono (by simp))⟩))
      rw [List.length_replicate] at hN
      have HN := Lib.hid hN
      clear ho hF hN
      go_wp2
      go_ret
      exact HN.out

theorem cards_snoc (k : Nat) : cards (List.replicate k (1, 0)) ++ [.int .i64 1, .int .i64 0] = cards (List.replicate (k + 1) (1, 0)) := by
  rw [← List.replicate_append_replicate]; exact (rows_append cardF (List.replicate k (1, 0)) (List.replicate 1 (1, 0))).symm
theorem newC_own {xs : List (Int × Int)} {w w' : World} {v : Value} {n : Nat} (h : w'.ownsRow w.heap.size 63 2 v n (cards xs)) (hF : Fr w.heap.size none w w') : NewC xs w (.returned v) w' := by
  obtain ⟨a, c, rfl, _, _⟩ := own_slice h
  have hn : n = xs.length := by have := h.1; rw [cards_length] at this; omega
  subst hn
  exact ⟨a, c, rfl, Own.of h, hF⟩

theorem specDeckNew_any (n : Int) (w : World) : Calls Try.prog 75 #[.int .i64 n] w (NewC (newDeckI n) w) := by
  go_enter Try.func75, Try.ntmps75
  go_wp2
  go_loopw [3, 4] (fun v i wr => ∃ k : Nat, (k = 0 ∨ (k : Int) ≤ n ∧ n ≤ 8) ∧ i = .int .i64 k ∧ wr.ownsRow w.heap.size 63 2 v k (cards (List.replicate k (1, 0))) ∧ Fr w.heap.size none w wr) (fun _ i _ => 8 - (intOf i).toNat)
  case atStart => exact ⟨0, .inl rfl, rfl, World.ownsRow_made w #[] 0 (Nat.le_refl _) (by simp [maxLen]) (by simp), (Fr.refl _ _ w).alloc (Nat.le_refl _) _⟩
  case round =>
    obtain ⟨k, hk, rfl, ho, hF⟩ := hrel
    have HO := Lib.hid ho; have HF := Lib.hid hF; have hz := hF.size; clear ho hF
    by_cases hlt : (k : Int) < n ∧ n ≤ 8
    · obtain ⟨h1, h2⟩ := hlt
      have hk8 : k < 8 := by omega
      clear hk
      obtain ⟨a0, c0, rfl, _, _⟩ := own_slice HO.out
      go_wp2_with (at_builtin; refine app1 35 63 (.agg #[.int .i64 0, .int .i64 0]) 2 16 Try.underlying35 infoCard rfl (by decide) (by decide) rfl _ _ rfl [.int .i64 1, .int .i64 0] HO.out rfl rfl rfl (by simp [Value.oneCell']) (by omega) hz ?_; intro v' w' ho' hF')
      rw [cards_snoc] at ho'
      have HO' := Lib.hid ho'
      have HF2 := Lib.hid (app_frame HF.out HO.out hF' hz)
      clear ho' hF'
      go_wp2
      go_roundw
      case rel => exact ⟨k + 1, .inr ⟨by omega, h2⟩, by go_num, HO'.out, HF2.out⟩
      case measure => simp [intOf]; omega
    · have hst := Lib.hid (show List.replicate k (1, 0) = newDeckI n by
        unfold newDeckI
        cases h : inB n 0 8
        · have := inB_false.1 h
          have : k = 0 := by rcases hk with h | h <;> omega
          subst this; rfl
        · have := inB_true.1 h
          have : k = n.toNat := by rcases hk with h | h <;> omega
          subst this; rfl)
      by_cases h1 : (k : Int) < n
      · have h2 : 8 < n := by omega
        clear hk hlt
        go_wp2
        go_ret
        exact newC_as hst.out (newC_own HO.out HF.out)
      · have h1' : n ≤ (k : Int) := by omega
        clear hk hlt h1
        go_wp2
        go_ret
        exact newC_as hst.out (newC_own HO.out HF.out)
end Go.Proofs.Ytoedenmimcmkoaa
