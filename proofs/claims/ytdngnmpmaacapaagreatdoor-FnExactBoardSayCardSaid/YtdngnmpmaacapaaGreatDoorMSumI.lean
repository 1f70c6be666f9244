/-
  Merged: SumI DifI.
-/
import Derived.Test.YtdngnmpmaacapaaGreatDoorMNumB
import Derived.Test.YtdngnmpmaacapaaGreatDoorMWroteS
import Derived.Deep.RegionLawGrows
set_option linter.unusedVariables false
set_option linter.unusedSimpArgs false
/-
  Contracts: withCarry, WrittenOf, SumOf, LeftOf, DifferenceOf, RowWritten of the program.
-/
namespace Go.Proofs.YtdngnmpmaacapaaGreatDoor
open Go.RowKit

theorem sl_lt {w : World} {a : Option Addr} {xs : List Col} (h : Sl w a (cols xs)) (hn : 0 < xs.length) : ∀ p, a = some p → p.block < w.heap.size := by
  intro p hp
  obtain ⟨b, off, rfl, c0, _⟩ := h.col 0 hn
  cases hp
  exact World.block_lt_of_cell? w _ c0
theorem num_sum_bd {cs : List Col} (h : ∀ k, k < cs.length → 0 ≤ (cs.getD k noCol).2.2.2.1 ∧ (cs.getD k noCol).2.2.2.1 ≤ 9) {lo : Int} (hl : 0 ≤ lo ∧ lo ≤ 9) : ∀ d ∈ lo :: wrote cs, 0 ≤ d ∧ d ≤ 9 := by
  intro d hd
  rcases List.mem_cons.1 hd with rfl | hd
  · exact hl
  · exact wrote_bd h d hd
theorem numbers_some (a : Option Addr) (cap : Nat) (cs : List Col) (w0 : World) (hs : Sl w0 a (cols cs)) (hn : cs.length ≤ 9) (h1 : 1 ≤ cs.length) (w : World) (hF : Fr w0.heap.size none w0 w) :
    Calls Tryz.prog 187 #[.slice a cs.length cap, .func (.func 188) #[] #[]] w fun e w' =>
      ∃ g c, e = .returned (.slice (some ⟨g, 0, none⟩) cs.length c) ∧ w'.ownsRow w.heap.size 3 1 (.slice (some ⟨g, 0, none⟩) cs.length c) cs.length (ints (wrote cs)) ∧ Fr w.heap.size none w w' := by
  refine (numbers_any a cap cs w (hs.fr hF) hn (fun p hp => Nat.lt_of_lt_of_le (sl_lt hs h1 p hp) hF.size)).mono ?_
  rintro e w' ⟨v, rfl, ho, hF2⟩
  obtain ⟨a', c', rfl, _, _⟩ := own_slice ho
  obtain ⟨g, rfl⟩ := (Own.of ho).addr (by omega)
  exact ⟨g, c', rfl, ho, hF2⟩

set_option maxHeartbeats 4000000 in
set_option maxRecDepth 100000 in
theorem implLeft_any (a : Option Addr) (cap : Nat) (cs : List Col) (w : World) (hs : Sl w a (cols cs)) (hn : cs.length ≤ 9) (h1 : 1 ≤ cs.length) (hl : Linked cs) (hg : ∀ k, k < cs.length → goodT (cs.getD k noCol) = true) :
    Calls Tryz.prog 151 #[.slice a cs.length cap] w fun e w' => e = .returned (.tuple #[.string (leftI cs).1, .bool (leftI cs).2]) ∧ Fr w.heap.size none w w' := by
  have CW := Lib.hid (fun W hS => implWrongTaken_any a cap cs W hS hn hl hg)
  have BD := Lib.hid (wrote_bd (cs := cs) (fun k hk => (single_bd (by have := hg k hk; simp only [goodT, Bool.and_eq_true] at this; exact this.1)).2.2.1))
  have CN := Lib.hid (numbers_some a cap cs w hs hn h1)
  have HS := Lib.hid hs
  clear hs hg hl
  have hz0 : ((cs.length : Int) == 0) = false := by rw [beq_eq_false_iff_ne]; omega
  by_cases ho : lastOut cs = 1
  · have hr := Lib.hid (show ((⟨#[]⟩ : ByteArray), false) = leftI cs by unfold leftI; rw [if_pos ho])
    have hw := Lib.hid (show wtI cs = (cs.length : Int) by unfold wtI; rw [if_pos ho])
    rw [hw.out] at CW
    have hz1 : ((cs.length : Int) != -1) = true := by rw [bne_iff_ne]; omega
    clear ho
    go_enter Tryz.func151, Tryz.ntmps151
    go_wp2_with fail
    refine (CW.out _ HS.out).mono ?_; rintro e w1 ⟨rfl, hF1⟩
    go_wp2
    go_ret2
    exact ⟨ret_pair hr.out, hF1⟩
  · have hr := Lib.hid (show (plainT (wrote cs), plainOk (wrote cs)) = leftI cs by unfold leftI; rw [if_neg ho])
    have hw := Lib.hid (show wtI cs = -1 by unfold wtI; rw [if_neg ho])
    rw [hw.out] at CW
    clear ho
    have hwl := wrote_len cs
    have CP := Lib.hid (fun a c W h => plain_any a c (wrote cs) W h BD.out (by omega))
    rw [hwl] at CP
    clear hwl
    generalize wrote cs = ds at *
    generalize leftI cs = r at *
    go_enter Tryz.func151, Tryz.ntmps151
    go_wp2_with fail
    refine (CW.out _ HS.out).mono ?_; rintro e w1 ⟨rfl, hF1⟩
    have F1 := Lib.hid hF1; clear hF1
    go_wp2_with fail
    refine (CN.out _ F1.out).mono ?_; rintro e w2 ⟨g, c, rfl, ho2, hF2⟩
    have F2 := Lib.hid (F1.out.and hF2)
    have S2 := Lib.hid (own_sl ho2)
    clear hF2 ho2
    go_wp2_with fail
    refine (CP.out _ _ _ S2.out).mono ?_; rintro e w3 ⟨rfl, hF3⟩
    have F3 := Lib.hid (F2.out.and hF3)
    clear hF3
    go_wp2
    go_ret2
    exact ⟨ret_pair hr.out, F3.out⟩

/-- A literal of one number, and a slice appended to it, as a step of a region that draws. -/
theorem stepLit {ops : Array Oper} {o : Oper} {a : Act} {w : World} {K : Act → World → Prop} {Q : Exit → Act → World → Prop} {E : Prop}
    (hg : o.guard = none) (s x : Operand) (hop : o.op = Op.call { callee := Callee.builtin Builtin.append, args := #[s, x], argTypes := #[73, 73] })
    (p g n c : Nat) (lo : Int) (ds : List Value) (hs : a.eval s = .slice (some ⟨p, 0, none⟩) 1 1) (hc : w.cell? ⟨p, 0, none⟩ = some (.int .i64 lo)) (hx : a.eval x = .slice (some ⟨g, 0, none⟩) n c)
    (hd : Sl w (some ⟨g, 0, none⟩) ds) (hl : ds.length = n) (h1c : ∀ u ∈ ds, u.oneCell' = true) (hn : 1 ≤ n) (hn2 : n ≤ 100)
    (hK : ∀ a' c' w', Sl w' a' ([.int .i64 lo] ++ ds) → Fr w.heap.size none w w' → K (a.put o.dst (.slice a' (1 + n) c')) w') :
    if Region.wanted o (yielded ops a.tmps) = true then Oper.wp Tryz.prog o a w K Q else E := by
  obtain ⟨i0, hi0, hz0, hz1, hz2⟩ := info_parts infoInt
  refine step_append_grows hg s x 73 hop 3 i0 (.int .i64 0) 1 8 Tryz.underlying73 hi0 hz0 hz1 hz2 rfl (by decide) (some ⟨p, 0, none⟩) 1 1 [.int .i64 lo] hs (by simp) rfl ?_ ⟨g, 0, none⟩ n c ds hx (by omega) ?_ h1c (by omega) (by simp [maxLen]; omega) (by omega) ?_
  · intro b hb j u hu
    cases hb
    cases j with
    | zero => simp at hu; subst hu; exact hc
    | succ j => simp at hu
  · intro j u hu
    have hj : j < ds.length := (List.getElem?_eq_some_iff.1 hu).1
    obtain ⟨b, off, e1, e2⟩ := hd j hj
    cases e1
    rw [List.getElem?_eq_getElem hj] at hu
    cases hu
    have ha : (⟨g, 0, none⟩ : Addr).add j = ⟨g, j, none⟩ := by unfold Addr.add; split <;> simp_all
    rw [ha]
    simpa using e2
  · intro v' w' ho hg'
    obtain ⟨a', c', rfl, _, _⟩ := own_slice ho
    exact hK a' c' w' (own_sl ho) ((Fr.refl _ _ w).grown hg' (Nat.le_refl _) (by simp))

set_option maxHeartbeats 4000000 in
set_option maxRecDepth 100000 in
theorem withCarry_any (a : Option Addr) (cap : Nat) (cs : List Col) (w : World) (hs : Sl w a (cols cs)) (hn : cs.length ≤ 9) (h1 : 1 ≤ cs.length) (hd : ∀ d ∈ lastOut cs :: wrote cs, 0 ≤ d ∧ d ≤ 9) :
    Calls Tryz.prog 184 #[.slice a cs.length cap] w fun e w' => e = .returned (.tuple #[.string (plainT (lastOut cs :: wrote cs)), .bool (plainOk (lastOut cs :: wrote cs))]) ∧ Fr w.heap.size none w w' := by
  have CN := Lib.hid (numbers_some a cap cs w hs hn h1)
  have hlt : cs.length - 1 < cs.length := by omega
  have hi : ((cs.length : Int) - 1) = ((cs.length - 1 : Nat) : Int) := by omega
  have hlo := Lib.hid (show (cs.getD (cs.length - 1) noCol).2.2.2.2 = lastOut cs by unfold lastOut; rw [if_neg (by omega)])
  have hdl : (lastOut cs :: wrote cs).length = 1 + cs.length := by simp [wrote_len]; omega
  have CP := Lib.hid (fun a c W h => plain_any a c (lastOut cs :: wrote cs) W h hd (by omega))
  rw [hdl] at CP
  have hIL : (ints (wrote cs)).length = cs.length := by rw [ints_length, wrote_len]
  obtain ⟨b, off, rfl, _, _, _, _, c4⟩ := hs.col (cs.length - 1) hlt
  have hb := World.block_lt_of_cell? w _ c4
  dsimp only at hb
  rw [hlo.out] at c4
  have HI := Lib.hid (show ints (lastOut cs :: wrote cs) = [.int .i64 (lastOut cs)] ++ ints (wrote cs) by simp [ints])
  rw [HI.out] at CP
  generalize plainT (lastOut cs :: wrote cs) = T at *
  generalize plainOk (lastOut cs :: wrote cs) = O at *
  have HIL := Lib.hid hIL
  have H1C := Lib.hid (show ∀ u ∈ ints (wrote cs), u.oneCell' = true by intro u hu; simp only [ints, List.mem_map] at hu; obtain ⟨z, _, rfl⟩ := hu; rfl)
  clear hd hs hlo hdl hIL HI
  generalize hq : cs.length - 1 = q at *
  have q0 : (0 : Int) ≤ (q : Int) := by omega
  have q1 : (q : Int) < (cs.length : Int) := by omega
  generalize lastOut cs = lo at *
  generalize ints (wrote cs) = ds at *
  obtain ⟨i0, hi0, hz0, hz1, hz2⟩ := info_parts infoInt
  have F0 := Lib.hid ((Fr.refl w.heap.size none w).drew)
  have F0a := Lib.hid ((Fr.refl w.heap.size none w).drew.alloc (Nat.le_refl _) (.cells #[.int .i64 lo] 3))
  have hq1 : q + 1 = cs.length := by omega
  have hwq : IntKind.i64.wrap (q : Int) = (q : Int) := IntWalk.i64_in _ (by omega)
  have qt : ((q : Int)).toNat = q := by omega
  clear hq
  have CA := Lib.hid (show ((w.drew).alloc (.cells #[.int .i64 lo] 3)).cell? ⟨w.heap.size, 0, none⟩ = some (.int .i64 lo) from World.cell?_alloc_at _ _ _ _ rfl)
  go_enter Tryz.func184, Tryz.ntmps184
  go_wp2
  go_region_law (first
    | (refine stepLit rfl (.tmp 11) (.tmp 13) rfl w.heap.size g cs.length c lo ds rfl (by rw [hF2.cell (p := ⟨w.heap.size, 0, none⟩) (by simp) (by simp)]; exact CA.out) rfl (own_sl ho2) HIL.out H1C.out h1 (by omega) ?_; intro a3 c3 w3 S3 hF3)
    | (refine stepLit rfl (.tmp 11) (.tmp 13) rfl w2.heap.size g cs.length c lo ds rfl (World.cell?_alloc_at _ _ _ _ rfl) rfl ((own_sl ho2).fr ((Fr.refl _ _ w2).alloc (Nat.le_refl _) _)) HIL.out H1C.out h1 (by omega) ?_; intro a3 c3 w3 S3 hF3)
    | (go_simp
       go_wp2_with (first
         | (go_at_call 187; refine (CN.out _ (by first | exact F0.out | exact F0a.out)).mono ?_; rintro e w2 ⟨g, c, rfl, ho2, hF2⟩; (try have c4' := (hF2.cell (p := ⟨b, off + q * 5 + 4, none⟩) hb (by simp)).trans c4))
         | (go_at_call 176; refine (CP.out _ _ _ S3).mono ?_; rintro e w4 ⟨rfl, hF4⟩))))
  all_goals go_wp2
  all_goals go_ret2
  all_goals exact ⟨rfl, by first | exact (((F0a.out.and hF2).and hF3).and hF4) | exact (((F0.out.and hF2).and (((Fr.refl _ _ w2).alloc (Nat.le_refl _) _).and hF3)).and hF4)⟩

theorem lastOut_at {cs : List Col} (h1 : 1 ≤ cs.length) : (cs.getD (cs.length - 1) noCol).2.2.2.2 = lastOut cs := by unfold lastOut; rw [if_neg (by omega)]
theorem digsA {cs : List Col} (h1 : 1 ≤ cs.length) (hg : ∀ k, k < cs.length → goodA (cs.getD k noCol) = true) : ∀ d ∈ lastOut cs :: wrote cs, 0 ≤ d ∧ d ≤ 9 := by
  have hb : ∀ k, k < cs.length → _ := fun k hk => single_bd (by have := hg k hk; simp only [goodA, Bool.and_eq_true] at this; exact this.1)
  refine num_sum_bd (fun k hk => (hb k hk).2.2.1) ?_
  rw [← lastOut_at h1]
  have := (hb (cs.length - 1) (by omega)).2.2.2.2
  omega
theorem digsR {cs : List Col} (h1 : 1 ≤ cs.length) (hg : ∀ k, k < cs.length → goodR (cs.getD 0 noCol).2.1 (cs.getD k noCol) = true) : ∀ d ∈ lastOut cs :: wrote cs, 0 ≤ d ∧ d ≤ 9 := by
  refine num_sum_bd (fun k hk => (rowC_bd (hg k hk)).1) ?_
  rw [← lastOut_at h1]
  exact (rowC_bd (hg (cs.length - 1) (by omega))).2
set_option maxRecDepth 100000 in
theorem implWritten_any (a : Option Addr) (cap : Nat) (cs : List Col) (w : World) (hs : Sl w a (cols cs)) (hn : cs.length ≤ 9) (h1 : 1 ≤ cs.length) (hl : Linked cs) (hg : ∀ k, k < cs.length → goodA (cs.getD k noCol) = true) :
    Calls Tryz.prog 149 #[.slice a cs.length cap] w fun e w' => e = .returned (.tuple #[.string (plainT (lastOut cs :: wrote cs)), .bool (plainOk (lastOut cs :: wrote cs))]) ∧ Fr w.heap.size none w w' := by
  have CW := Lib.hid (fun W hS => wrongColumn_none a cap cs W hS hn hl hg)
  have CC := Lib.hid (fun W hS => withCarry_any a cap cs W hS hn h1 (digsA h1 hg))
  have HS := Lib.hid hs
  clear hs hg hl
  have hz0 : ((cs.length : Int) == 0) = false := by rw [beq_eq_false_iff_ne]; omega
  generalize plainT (lastOut cs :: wrote cs) = T at *
  generalize plainOk (lastOut cs :: wrote cs) = O at *
  go_enter Tryz.func149, Tryz.ntmps149
  go_wp2_with fail
  refine (CW.out _ HS.out).mono ?_; rintro e w1 ⟨rfl, hF1⟩
  have F1 := Lib.hid hF1
  have S1 := Lib.hid (HS.out.fr hF1)
  clear hF1
  go_wp2_with fail
  refine (CC.out _ S1.out).mono ?_; rintro e w2 ⟨rfl, hF2⟩
  have F2 := Lib.hid (F1.out.and hF2); clear hF2
  go_wp2
  go_ret2
  exact ⟨rfl, F2.out⟩
set_option maxRecDepth 100000 in
theorem implRowWritten_any (a : Option Addr) (cap : Nat) (cs : List Col) (w : World) (hs : Sl w a (cols cs)) (hn : cs.length ≤ 9) (h1 : 1 ≤ cs.length) (hl : Linked cs) (hg : ∀ k, k < cs.length → goodR (cs.getD 0 noCol).2.1 (cs.getD k noCol) = true) :
    Calls Tryz.prog 189 #[.slice a cs.length cap] w fun e w' => e = .returned (.tuple #[.string (plainT (lastOut cs :: wrote cs)), .bool (plainOk (lastOut cs :: wrote cs))]) ∧ Fr w.heap.size none w w' := by
  have CW := Lib.hid (fun W hS => implWrongRow_none a cap cs W hS hn h1 hl hg)
  have CC := Lib.hid (fun W hS => withCarry_any a cap cs W hS hn h1 (digsR h1 hg))
  have HS := Lib.hid hs
  clear hs hg hl
  generalize plainT (lastOut cs :: wrote cs) = T at *
  generalize plainOk (lastOut cs :: wrote cs) = O at *
  go_enter Tryz.func189, Tryz.ntmps189
  go_wp2_with fail
  refine (CW.out _ HS.out).mono ?_; rintro e w1 ⟨rfl, hF1⟩
  have F1 := Lib.hid hF1
  have S1 := Lib.hid (HS.out.fr hF1)
  clear hF1
  go_wp2_with fail
  refine (CC.out _ S1.out).mono ?_; rintro e w2 ⟨rfl, hF2⟩
  have F2 := Lib.hid (F1.out.and hF2); clear hF2
  go_wp2
  go_ret2
  exact ⟨rfl, F2.out⟩
theorem implWritten_nil (a : Option Addr) (cap : Nat) (w : World) : Calls Tryz.prog 149 #[.slice a 0 cap] w fun e w' => e = .returned (.tuple #[.string ⟨#[]⟩, .bool false]) ∧ w = w' := by
  go_enter Tryz.func149, Tryz.ntmps149
  go_wp2
  go_ret2
  exact ⟨rfl, rfl⟩
theorem implLeft_nil (a : Option Addr) (cap : Nat) (w : World) : Calls Tryz.prog 151 #[.slice a 0 cap] w fun e w' => e = .returned (.tuple #[.string ⟨#[]⟩, .bool false]) ∧ w = w' := by
  go_enter Tryz.func151, Tryz.ntmps151
  go_wp2
  go_ret2
  exact ⟨rfl, rfl⟩
theorem implAdded_no (s t : ByteArray) (w : World) (hs : s.size ≤ 1048576) (ht : t.size ≤ 1048576) (h : (numOk s && numOk t) = false) : Calls Tryz.prog 150 #[.string s, .string t] w fun e w' => (∃ a cap, e = .returned (.slice a 0 cap)) ∧ Fr w.heap.size none w w' := by
  cases h1 : numOk s
  · have H1 := Lib.hid h1; clear h1 h
    go_enter Tryz.func150, Tryz.ntmps150
    go_wp2_with fail
    refine (num_val hs H1.out _).mono ?_; rintro e w' ⟨rfl, rfl⟩
    go_wp2
    go_ret
    exact ⟨⟨_, _, rfl⟩, Fr.refl _ _ _⟩
  · rw [h1] at h
    have H1 := Lib.hid h1; have H2 := Lib.hid (show numOk t = false by simpa using h); clear h1 h
    go_enter Tryz.func150, Tryz.ntmps150
    go_wp2_with fail
    refine (num_val hs H1.out _).mono ?_; rintro e w' ⟨rfl, rfl⟩
    go_wp2_with fail
    refine (num_val ht H2.out _).mono ?_; rintro e w' ⟨rfl, rfl⟩
    go_wp2
    go_ret
    exact ⟨⟨_, _, rfl⟩, Fr.refl _ _ _⟩
set_option maxRecDepth 100000 in
theorem implSum_any (s t : ByteArray) (w : World) (hs : s.size ≤ 1048576) (ht : t.size ≤ 1048576) : Calls Tryz.prog 116 #[.string s, .string t] w fun e w' => e = .returned (.tuple #[.string (sumI s t).1, .bool (sumI s t).2]) ∧ Fr w.heap.size none w w' := by
  cases h : (numOk s && numOk t)
  · have hr := Lib.hid (show ((⟨#[]⟩ : ByteArray), false) = sumI s t by simp [sumI, h])
    have CA := Lib.hid (fun W => implAdded_no s t W hs ht h)
    clear h
    generalize sumI s t = r at *
    obtain ⟨r1, r2⟩ := r
    go_enter Tryz.func116, Tryz.ntmps116
    go_wp2_with fail
    refine (CA.out _).mono ?_; rintro e w1 ⟨⟨a, c, rfl⟩, hF1⟩
    have F1 := Lib.hid hF1; clear hF1
    go_wp2_with fail
    refine (implWritten_nil a c _).mono ?_; rintro e w' ⟨rfl, rfl⟩
    go_wp2
    go_ret2
    exact ⟨ret_pair hr.out, F1.out⟩
  · simp only [Bool.and_eq_true] at h
    obtain ⟨h1, h2⟩ := h
    have hr := Lib.hid (sum_yes h1 h2)
    obtain ⟨f1, f2, f3, f4, _⟩ := sumC_facts h1 h2
    have CA := Lib.hid (fun W => implAdded_any s t W h1 h2)
    have CW := Lib.hid (fun a c W hS => implWritten_any a c (sumC s t).1 W hS f1 f2 f3 f4)
    clear f3 f4
    generalize plainT (lastOut (sumC s t).1 :: wrote (sumC s t).1) = x at *
    generalize plainOk (lastOut (sumC s t).1 :: wrote (sumC s t).1) = y at *
    generalize (sumC s t).1 = cs at *
    generalize sumI s t = r at *
    go_enter Tryz.func116, Tryz.ntmps116
    go_wp2_with fail
    refine (CA.out _).mono ?_; rintro e w1 ⟨a, c, rfl, hs1, hF1⟩
    have F1 := Lib.hid hF1; have S1 := Lib.hid hs1; clear hF1 hs1
    go_wp2_with fail
    refine (CW.out _ _ _ S1.out).mono ?_; rintro e w2 ⟨rfl, hF2⟩
    have F2 := Lib.hid (F1.out.and hF2); clear hF2
    go_wp2
    go_ret2
    exact ⟨ret_pair hr.out, F2.out⟩
end Go.Proofs.YtdngnmpmaacapaaGreatDoor
/-
  Contracts: DifferenceOf of the program.
-/
namespace Go.Proofs.YtdngnmpmaacapaaGreatDoor
open Go.RowKit

theorem implTaken_no (s t : ByteArray) (w : World) (hs : s.size ≤ 1048576) (ht : t.size ≤ 1048576) (h : ordI s t < 0) : Calls Tryz.prog 152 #[.string s, .string t] w fun e w' => (∃ a cap, e = .returned (.slice a 0 cap)) ∧ Fr w.heap.size none w w' := by
  have CO := Lib.hid (fun W => implOrder_any s t W hs ht)
  generalize ordI s t = o at *
  go_enter Tryz.func152, Tryz.ntmps152
  go_wp2_with fail
  refine (CO.out _).mono ?_; rintro e w' ⟨rfl, rfl⟩
  go_wp2
  go_ret
  exact ⟨⟨_, _, rfl⟩, Fr.refl _ _ _⟩
set_option maxRecDepth 100000 in
theorem implDif_any (s t : ByteArray) (w : World) (hs : s.size ≤ 1048576) (ht : t.size ≤ 1048576) : Calls Tryz.prog 117 #[.string s, .string t] w fun e w' => e = .returned (.tuple #[.string (difI s t).1, .bool (difI s t).2]) ∧ Fr w.heap.size none w w' := by
  by_cases h : ordI s t < 0
  · have hr := Lib.hid (dif_no h)
    have CA := Lib.hid (fun W => implTaken_no s t W hs ht h)
    clear h
    generalize difI s t = r at *
    go_enter Tryz.func117, Tryz.ntmps117
    go_wp2_with fail
    refine (CA.out _).mono ?_; rintro e w1 ⟨⟨a, c, rfl⟩, hF1⟩
    have F1 := Lib.hid hF1; clear hF1
    go_wp2_with fail
    refine (implLeft_nil a c _).mono ?_; rintro e w' ⟨rfl, rfl⟩
    go_wp2
    go_ret2
    exact ⟨ret_pair hr.out, F1.out⟩
  · have h0 : 0 ≤ ordI s t := by omega
    obtain ⟨h1, h2⟩ := ord_ok h0
    have hr := Lib.hid (dif_yes h1 h2 h0)
    obtain ⟨f1, f2, f3, f4, _⟩ := takC_facts h1 h2
    have CA := Lib.hid (fun W => implTaken_any s t W h1 h2 h0)
    have CW := Lib.hid (fun a c W hS => implLeft_any a c (takC s t).1 W hS f1 f2 f3 f4)
    clear f3 f4 h h0
    rw [hr.out] at CW
    generalize (takC s t).1 = cs at *
    go_enter Tryz.func117, Tryz.ntmps117
    go_wp2_with fail
    refine (CA.out _).mono ?_; rintro e w1 ⟨a, c, rfl, hs1, hF1⟩
    have F1 := Lib.hid hF1; have S1 := Lib.hid hs1; clear hF1 hs1
    go_wp2_with fail
    refine (CW.out _ _ _ S1.out).mono ?_; rintro e w2 ⟨rfl, hF2⟩
    have F2 := Lib.hid (F1.out.and hF2); clear hF2
    go_wp2
    go_ret2
    exact ⟨rfl, F2.out⟩
end Go.Proofs.YtdngnmpmaacapaaGreatDoor
