/-
  Merged: DrawJ ReadQ.
-/
import Derived.Test.YtdngnmpmaacapaaGreatDoorMReadJ
import Derived.Test.YtdngnmpmaacapaaGreatDoorMDrawDeeds
import Derived.Test.YtdngnmpmaacapaaGreatDoorMTestE
import Derived.Test.YtdngnmpmaacapaaGreatDoorMJournal
import Derived.Deep.AppendLies
set_option linter.unusedVariables false
set_option linter.unusedSimpArgs false
/-
  Plain law: journals are read. Contracts: the draw of a journal's deeds.
-/
namespace Go.Proofs.YtdngnmpmaacapaaGreatDoor
open Go.RowKit

theorem num_no10 {s : ByteArray} (h : numOk s = true) : (10 : UInt8) ∉ s.data.toList := by
  intro hm
  obtain ⟨i, hi, e⟩ := List.mem_iff_getElem.1 hm
  have hi' : i < s.size := by simpa using hi
  have hd := byte_dig h i hi'
  have : s[i] = 10 := by rw [← e]; simp; rfl
  rw [this] at hd
  exact absurd hd.1 (by decide)
theorem text_no10 (d : Dd) : (10 : UInt8) ∉ (deedT d).data.toList := by
  rcases text_cases d with h0 | ⟨rfl, e⟩ | ⟨x, rfl, h1, h2, h3, e⟩
  · rw [h0]; decide
  · rw [e]; decide
  · rw [e]
    unfold takeS
    simp only [app_data, List.mem_append, not_or]
    exact ⟨⟨⟨⟨⟨by decide, num_no10 h1⟩, by decide⟩, num_no10 h2⟩, by decide⟩, num_no10 h3⟩
/-- The lines of deeds, as bytes. -/
def jL (ds : List Dd) : List UInt8 := ds.flatMap fun d => (deedT d).data.toList ++ [10]
theorem jL_append (xs ys : List Dd) : jL (xs ++ ys) = jL xs ++ jL ys := by simp [jL]
theorem jT_data (ds : List Dd) : ∀ k, k ≤ ds.length → (jT ds k).data.toList = jL (ds.take k)
  | 0, _ => by simp [jT, jL]
  | k + 1, hk => by
    have e : ds.getD k noDeed = ds[k] := by simp [List.getD_eq_getElem?_getD, show k < ds.length by omega]
    rw [jT, app_data, app_data, jT_data ds k (by omega), List.take_succ_eq_append_getElem (by omega), jL_append, e]
    simp [jL]
theorem rj_lines : ∀ (ds : List Dd), (∀ d ∈ ds, hasText d = true) → rj (cutL 10 (jL ds)) = (ds, (jL ds).length)
  | [], _ => rfl
  | d :: ds, h => by
    have h1 : hasText d = true := h d (by simp)
    have h2 : deedT d ≠ ⟨#[]⟩ := by intro e; rw [hasText_no e] at h1; cases h1
    have e : jL (d :: ds) = (deedT d).data.toList ++ 10 :: jL ds := by simp [jL]
    have hr := readD_text h2
    have hm : mkB (deedT d).data.toList = deedT d := mkB_data _
    rw [e, rj_yes (text_no10 d) (by rw [hm, hr]), hm, hr, rj_lines ds (fun x hx => h x (by simp [hx]))]
    simp [Nat.add_assoc, Nat.add_comm, Nat.add_left_comm]
/-- Journals are read. -/
theorem readJ_text {ds : List Dd} (h : journalI ds ≠ ⟨#[]⟩) : readJ (journalI ds) = (ds, (journalI ds).size) := by
  unfold journalI at h ⊢
  split at h
  · next hall =>
    rw [if_pos hall]
    have e := jT_data ds ds.length (Nat.le_refl _)
    rw [List.take_length] at e
    have hl : (jL ds).length = (jT ds ds.length).size := by rw [← e]; simp
    unfold readJ
    rw [e, rj_lines ds (List.all_eq_true.1 hall), hl]
  · exact absurd rfl h
theorem journal_size (ds : List Dd) : (journalI ds).size ≤ 35 * ds.length := by
  unfold journalI; split
  · exact jT_size ds _
  · exact Nat.zero_le _

/-- The first append to a slice without room. -/
theorem app0D {ops : Array Oper} {rest : List Oper} {o : Oper} {a : Act} {Q : Exit → Act → World → Prop} {wr : World}
    (hgd : o.guard = none) (s x : Operand) (ho : o.op = .call { callee := .builtin .append, args := #[s, x], argTypes := #[44, 44] })
    {p : Option Addr} (x0 : Bool) (x1 x2 x3 : ByteArray) (hs : a.eval s = .slice p 0 0) (hx : a.eval x = .slice (some ⟨wr.heap.size, 0, none⟩) 1 1)
    (h : ∀ v' w', w'.ownsRow wr.heap.size 54 4 v' (0 + 1) (deeds [] ++ [.bool x0, .string x1, .string x2, .string x3]) → Fr wr.heap.size none wr w' → wpList Tryz.prog ops Q rest (a.put o.dst v') w') :
    wpList Tryz.prog ops Q (o :: rest) a (wr.alloc (.cells #[.bool x0, .string x1, .string x2, .string x3] 54)) := by
  obtain ⟨i0, hi, hz0, hz1, hz2⟩ := info_parts infoDeed
  refine wpList_append_grows _ hgd s x 44 ho 54 i0 (.agg #[.bool false, .string ByteArray.empty, .string ByteArray.empty, .string ByteArray.empty]) 4 56 Tryz.underlying44 hi hz0 hz1 hz2 rfl (by decide) p 0 0 [] hs (fun _ => ⟨rfl, rfl⟩) rfl (by intro b _ j u hu; simp at hu) ⟨wr.heap.size, 0, none⟩ 1 1 [.bool x0, .string x1, .string x2, .string x3] hx rfl (World.news_of_block (cs := #[.bool x0, .string x1, .string x2, .string x3]) (t := 54) (fr := (0, 0)) (heap_alloc_new _ _)) (by simp [Value.oneCell']) (by omega) (by simp [maxLen]) (by omega) ?_
  intro v' w' ho' hg
  exact h v' w' (own_base ho' (by simp)) (((Fr.refl _ _ wr).alloc (Nat.le_refl _) _).grown hg (by simp) (by simp))

set_option maxHeartbeats 2000000 in
set_option maxRecDepth 100000 in
theorem l20Written_any (B N : Nat) (w : World) (h : Rdr w B N) (hN : N ≤ 600000) :
    Calls Tryz.prog 68 #[.pointer (some ⟨B, 0, none⟩)] w (RdDeeds B (N + 2600) 5 w) := by
  have hBl := h.lt
  have R0 := Lib.hid (rdr_alloc h (.cells #[] 54))
  have O0 := Lib.hid (World.ownsRow_made (e := 54) (size := 4) (base := w.heap.size) w #[] 0 (Nat.le_refl _) (by simp [maxLen]) (by simp))
  have F0 := Lib.hid ((Fr.refl w.heap.size (some B) w).alloc (Nat.le_refl _) (.cells #[] 54))
  clear h
  go_enter Tryz.func68, Tryz.ntmps68
  go_wp2_with fail
  refine (l20Deeds_any B N _ R0.out (by omega)).mono ?_; rintro e w1 ⟨v, rfl, ⟨g, c, ds, rfl, hd, hld, hTD⟩, hR1, hF1⟩
  have R1 := Lib.hid hR1; have O1 := Lib.hid (rowD_past O0.out hF1 hBl); have F1 := Lib.hid (fr_rd F0.out hF1); have D1 := Lib.hid hd; have TD := Lib.hid hTD
  have hg : w.heap.size + 1 ≤ g := by have := (own_lt hd g rfl).1; simpa using this
  clear hR1 hF1 hd hTD
  go_wp2
  go_loopw [3, 5] (fun v i wr => ∃ (k : Nat) (a : Nat) (cc : Nat) (xs : List Dd), v = .slice (some ⟨a, 0, none⟩) xs.length cc ∧ i = .int .i64 k ∧ k ≤ ds.length ∧ xs.length ≤ k ∧ wr.ownsRow w.heap.size 54 4 (.slice (some ⟨a, 0, none⟩) xs.length cc) xs.length (deeds xs) ∧ Hid (TinyD xs) ∧ Hid (Rdr wr B (N + 2500)) ∧ Hid (Sl wr (some ⟨g, 0, none⟩) (deeds ds)) ∧ Hid ((xs = [] ∧ cc = 0) ∨ wr.ownsRow (g + 1) 54 4 (.slice (some ⟨a, 0, none⟩) xs.length cc) xs.length (deeds xs)) ∧ Hid (g < wr.heap.size) ∧ Fr w.heap.size (some B) w wr) (fun _ i _ => ds.length - (intOf i).toNat)
  case atStart => exact ⟨0, w.heap.size, 0, [], rfl, rfl, Nat.zero_le _, Nat.le_refl _, O1.out, tinyD_nil, R1.out, own_sl D1.out, .inl ⟨rfl, rfl⟩, (own_lt D1.out g rfl).2, F1.out⟩
  case round =>
    obtain ⟨k, a, cc, xs, rfl, rfl, hk, hl, ho, hT, hR, hS, hP, hgl, hF⟩ := hrel
    have HO := Lib.hid ho; have HF := Lib.hid hF; have hz := hF.size; clear ho hF
    by_cases hlt : k < ds.length
    · have hlt' : (k : Int) < (ds.length : Int) := by omega
      have k0 : (0 : Int) ≤ (k : Int) := by omega
      obtain ⟨b, off, e1, hc0, _, hc1, hc2, hc3⟩ := hS.out.deed k hlt
      cases e1
      rw [Nat.zero_add] at hc0 hc1 hc2 hc3
      have ht := TD.out.at k
      have CT := Lib.hid (fun W => specDeedText_any (ds.getD k noDeed) W (tiny_small ht))
      have HTY := Lib.hid ht
      clear ht
      generalize ds.getD k noDeed = d at *
      obtain ⟨d0, x1, x2, x3⟩ := d
      dsimp only at *
      generalize deedT (d0, x1, x2, x3) = t at *
      go_wp2_with fail
      refine (CT.out _).mono ?_; rintro e w2 ⟨rfl, hF2⟩
      have R2 := Lib.hid (rdr_keep hR.out hF2)
      have O2 := Lib.hid (own_keep HO.out hF2)
      have F2 := Lib.hid (fr_any HF.out hF2)
      have S2 := Lib.hid (hS.out.fr hF2)
      have z2 := F2.out.size
      have hgl2 := Nat.lt_of_lt_of_le hgl.out hF2.size
      have k0' : w2.cell? ⟨g, k * 4, none⟩ = some (.bool d0) := (hF2.cell (p := ⟨g, k * 4, none⟩) hgl.out (by simp)).trans hc0
      have k1' : w2.cell? ⟨g, k * 4 + 1, none⟩ = some (.string x1) := (hF2.cell (p := ⟨g, k * 4 + 1, none⟩) hgl.out (by simp)).trans hc1
      have k2' : w2.cell? ⟨g, k * 4 + 2, none⟩ = some (.string x2) := (hF2.cell (p := ⟨g, k * 4 + 2, none⟩) hgl.out (by simp)).trans hc2
      have k3' : w2.cell? ⟨g, k * 4 + 3, none⟩ = some (.string x3) := (hF2.cell (p := ⟨g, k * 4 + 3, none⟩) hgl.out (by simp)).trans hc3
      have hF2h := Lib.hid hF2
      clear hF2 hc0 hc1 hc2 hc3
      have hbb : w.heap.size ≤ g + 1 := by omega
      cases h0 : t.toList.isEmpty
      · rcases hP.out with ⟨rfl, rfl⟩ | hp
        · go_wp2_with (at_builtin; refine app0D rfl _ _ rfl d0 x1 x2 x3 rfl rfl ?_; intro v' w' ho'' hF'; (
            have ho' := own_base ho'' (show g + 1 ≤ w2.heap.size by omega)
            obtain ⟨a', c', rfl, ho3⟩ := app_deeds ho'
            have hl2 := Lib.hid (show (([] : List Dd) ++ [(d0, x1, x2, x3)]).length = ([] : List Dd).length + 1 by simp)
            have O5 := Lib.hid (own_base ho3 hbb)
            have P5 := Lib.hid ho3
            have T5 := Lib.hid (tinyD_snoc hT.out (x := (d0, x1, x2, x3)) HTY.out)
            have hno : ∀ q, (none : Option Nat) = some q → g + 1 ≤ q := by intro q hq; cases hq
            have R5 := Lib.hid (R2.out.fr hF' (by have := R2.out.lt; omega) (by intro q hq; have := hno q hq; omega))
            have F5 := Lib.hid (F2.out.trans ((hF'.up (B' := w.heap.size) z2 (by intro q hq; have := hno q hq; omega)).weak _))
            have S5 := Lib.hid (S2.out.frL hF' (fun q hq _ => by cases hq; exact ⟨hgl2, fun e => by have := hno g e.symm; omega⟩))
            have hgl5 := Lib.hid (show g < w'.heap.size by have := hF'.size; omega)
            clear ho' hF' ho3 ho''))
          go_roundw
          case rel => exact ⟨k + 1, a', c', _, by first | rfl | rw [hl2.out], by go_num, by omega, by rw [hl2.out]; simp, O5.out, T5, R5, S5, .inr P5.out, hgl5, F5.out⟩
          case measure => simp [intOf]; omega
        · have hp2 := Lib.hid (own_keep hp (hF2h.out))
          clear hp
          go_wp2_with (at_builtin; refine app1 44 54 (.agg #[.bool false, .string ByteArray.empty, .string ByteArray.empty, .string ByteArray.empty]) 4 56 Tryz.underlying44 infoDeed rfl (by decide) (by decide) rfl _ _ rfl [.bool d0, .string x1, .string x2, .string x3] hp2.out rfl rfl rfl (by simp [Value.oneCell']) (by omega) (by omega) ?_; intro v' w' ho' hF'; (
            obtain ⟨a', c', rfl, ho3⟩ := app_deeds ho'
            have hl2 := Lib.hid (show (xs ++ [(d0, x1, x2, x3)]).length = xs.length + 1 by simp)
            have O5 := Lib.hid (own_base ho3 hbb)
            have P5 := Lib.hid ho3
            have T5 := Lib.hid (tinyD_snoc hT.out (x := (d0, x1, x2, x3)) HTY.out)
            have hno : ∀ q, (Value.slice (some ⟨a, 0, none⟩) xs.length cc).ownBlock = some q → g + 1 ≤ q := fun q hq => (own_lt hp2.out q hq).1
            have R5 := Lib.hid (R2.out.fr hF' (by have := R2.out.lt; omega) (by intro q hq; have := hno q hq; omega))
            have F5 := Lib.hid (F2.out.trans ((hF'.up (B' := w.heap.size) z2 (by intro q hq; have := hno q hq; omega)).weak _))
            have S5 := Lib.hid (S2.out.frL hF' (fun q hq _ => by cases hq; exact ⟨hgl2, fun e => by have := hno g e.symm; omega⟩))
            have hgl5 := Lib.hid (show g < w'.heap.size by have := hF'.size; omega)
            clear ho' hF' ho3))
          go_roundw
          case rel => exact ⟨k + 1, a', c', _, by first | rfl | rw [hl2.out], by go_num, by omega, by rw [hl2.out]; omega, O5.out, T5, R5, S5, .inr P5.out, hgl5, F5.out⟩
          case measure => simp [intOf]; omega
      · have PK : Hid ((xs = [] ∧ cc = 0) ∨ w2.ownsRow (g + 1) 54 4 (.slice (some ⟨a, 0, none⟩) xs.length cc) xs.length (deeds xs)) := hP.out.imp id fun h => own_keep h hF2h.out
        go_wp2
        go_roundw
        case rel => exact ⟨k + 1, a, cc, xs, rfl, by go_num, by omega, by omega, O2.out, hT, R2, S2, PK, hgl2, F2.out⟩
        case measure => simp [intOf]; omega
    · have hge : (ds.length : Int) ≤ (k : Int) := by omega
      go_wp2
      go_ret
      exact ⟨_, rfl, ⟨a, cc, xs, rfl, HO.out, by omega, hT.out⟩, hR.out.mono (by omega), HF.out⟩
end Go.Proofs.YtdngnmpmaacapaaGreatDoor
/-
  Plain laws: what is read of the beginnings of a journal, and the text of what was read. No program is named here.
-/
namespace Go.Proofs.YtdngnmpmaacapaaGreatDoor
open Go.RowKit

theorem rj_prefix : ∀ (n : Nat) (r rest : List UInt8), r.length ≤ n → (∃ q, (rj (cutL 10 (r ++ rest))).1 = (rj (cutL 10 r)).1 ++ q) ∧ (rj (cutL 10 r)).2 ≤ r.length
  | 0, r, rest, h => by
    have : r = [] := List.eq_nil_of_length_eq_zero (by omega)
    subst this
    exact ⟨⟨(rj (cutL 10 ([] ++ rest))).1, rfl⟩, Nat.zero_le _⟩
  | n + 1, r, rest, h => by
    rcases first_c 10 r with h1 | ⟨a, b, e, ha⟩
    · rw [rj_end h1]; exact ⟨⟨_, rfl⟩, Nat.zero_le _⟩
    · subst e
      have hl : b.length ≤ n := by simp at h; omega
      obtain ⟨⟨q, hq⟩, h2⟩ := rj_prefix n b rest hl
      have e2 : a ++ 10 :: b ++ rest = a ++ 10 :: (b ++ rest) := by simp
      rw [e2]
      cases hd : (readD (mkB a)).2
      · rw [rj_no ha hd, rj_no ha hd]; exact ⟨⟨[], rfl⟩, Nat.zero_le _⟩
      · rw [rj_yes ha hd, rj_yes ha hd]
        refine ⟨⟨q, by simp [hq]⟩, ?_⟩
        simp; omega
theorem rj_text : ∀ (n : Nat) (l : List UInt8), l.length ≤ n → jL (rj (cutL 10 l)).1 = l.take (rj (cutL 10 l)).2 ∧ ∀ d ∈ (rj (cutL 10 l)).1, deedT d ≠ ⟨#[]⟩
  | 0, l, h => by
    have : l = [] := List.eq_nil_of_length_eq_zero (by omega)
    subst this
    rw [rj_end (by simp)]; simp [jL]
  | n + 1, l, h => by
    rcases first_c 10 l with h1 | ⟨a, b, e, ha⟩
    · rw [rj_end h1]; simp [jL]
    · subst e
      have hl : b.length ≤ n := by simp at h; omega
      obtain ⟨h2, h3⟩ := rj_text n b hl
      cases hd : (readD (mkB a)).2
      · rw [rj_no ha hd]; simp [jL]
      · rw [rj_yes ha hd]
        obtain ⟨ht, hne⟩ := readD_ok hd
        refine ⟨?_, ?_⟩
        · have e1 : ∀ x : List Dd, jL ((readD (mkB a)).1 :: x) = a ++ 10 :: jL x := by
            intro x
            have : (deedT (readD (mkB a)).1).data.toList = a := by rw [ht]; show a.toArray.toList = a; simp
            simp [jL, this]
          have e3 : a.length + 1 + (rj (cutL 10 b)).2 = a.length + ((rj (cutL 10 b)).2 + 1) := by omega
          rw [e1, h2]
          dsimp only
          rw [e3, List.take_length_add_append, List.take_succ_cons]
        · intro d hm
          simp only [List.mem_cons] at hm
          rcases hm with rfl | hm
          · rw [ht]; exact hne
          · exact h3 d hm
/-- Of a beginning of a text the first ones of its deeds are read. -/
theorem readJ_pre (s : ByteArray) (k : Nat) (hk : k ≤ s.size) : (∃ j, j ≤ (readJ s).1.length ∧ (readJ (s.extract 0 k)).1 = (readJ s).1.take j ∧ (readJ (s.extract 0 k)).1.length = j) ∧ (readJ (s.extract 0 k)).2 ≤ k := by
  have hl : s.data.toList.length = s.size := by simp
  have e : (s.extract 0 k).data.toList = s.data.toList.take k := by rw [Lib.extract_data]; simp
  have h1 := rj_prefix (s.data.toList.take k).length (s.data.toList.take k) (s.data.toList.drop k) (Nat.le_refl _)
  rw [List.take_append_drop] at h1
  obtain ⟨⟨q, hq⟩, h2⟩ := h1
  have hlt : (s.data.toList.take k).length = k := by rw [List.length_take]; omega
  unfold readJ
  rw [e]
  refine ⟨⟨(rj (cutL 10 (s.data.toList.take k))).1.length, ?_, ?_, rfl⟩, by omega⟩
  · rw [hq, List.length_append]; omega
  · rw [hq]; simp
theorem readJ_has (s : ByteArray) (d : Dd) (h : d ∈ (readJ s).1) : deedT d ≠ ⟨#[]⟩ := (rj_text _ _ (Nat.le_refl _)).2 d h
theorem readJ_le (s : ByteArray) : (readJ s).2 ≤ s.size := by
  have := (rj_prefix _ s.data.toList [] (Nat.le_refl _)).2
  have hl : s.data.toList.length = s.size := by simp
  unfold readJ; omega
/-- The text of the deeds that are read is the text that is read. -/
theorem readJ_back (s : ByteArray) : journalI (readJ s).1 = s.extract 0 (readJ s).2 := by
  have h1 : ∀ d ∈ (readJ s).1, hasText d = true := fun d hd => hasText_yes (readJ_has s d hd)
  have h2 : (readJ s).1.all hasText = true := List.all_eq_true.2 h1
  have e := jT_data (readJ s).1 (readJ s).1.length (Nat.le_refl _)
  have ej : jL (readJ s).1 = s.data.toList.take (readJ s).2 := (rj_text _ s.data.toList (Nat.le_refl _)).1
  rw [List.take_length, ej] at e
  have e2 : (s.extract 0 (readJ s).2).data.toList = s.data.toList.take (readJ s).2 := by rw [Lib.extract_data]; simp
  have e3 : (jT (readJ s).1 (readJ s).1.length).data.toList = s.data.toList.take (readJ s).2 := e
  have e4 : journalI (readJ s).1 = jT (readJ s).1 (readJ s).1.length := by unfold journalI; rw [if_pos h2]
  rw [e4, ← mkB_data (jT (readJ s).1 (readJ s).1.length), e3, ← e2, mkB_data]
theorem tiny_has {d : Dd} (h : deedT d ≠ ⟨#[]⟩) : tiny d.2 := by
  rcases text_cases d with h0 | ⟨rfl, _⟩ | ⟨x, rfl, h1, h2, h3, _⟩
  · exact absurd h0 h
  · exact ⟨by simp [noTest], by simp [noTest], by simp [noTest]⟩
  · exact ⟨Nat.le_trans (numOk_size h1) (by decide), Nat.le_trans (numOk_size h2) (by decide), Nat.le_trans (numOk_size h3) (by decide)⟩
theorem readJ_tiny (s : ByteArray) : TinyD (readJ s).1 := fun d hd => tiny_has (readJ_has s d hd)
end Go.Proofs.YtdngnmpmaacapaaGreatDoor
