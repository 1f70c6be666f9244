/-
  Merged: Base Rows2.
-/
import Derived.WalkKit
import Derived.WalkLawsBesides
import Derived.WalkSpells
import Derived.Lib.Hide
import Derived.Deep.QuietTactic
import Derived.BigQuiet
set_option linter.unusedVariables false
set_option linter.unusedSimpArgs false
/-
  Plain notions of memory that all walks of this seat share; no program is named here.
-/
namespace Go.Proofs.YtdngnmpmaacapaaGreatDoor
open Go.RowKit

theorem ret_int {k : IntKind} {a b : Int} (h : a = b) : Ending.returned (.int k a) = .returned (.int k b) := by rw [h]
theorem ret_slice {a : Option Addr} {n m c : Nat} (h : n = m) : Ending.returned (.slice a n c) = .returned (.slice a m c) := by rw [h]
theorem ret_bool {a b : Bool} (h : a = b) : Ending.returned (.bool a) = .returned (.bool b) := by rw [h]

/-- A named function is entered. -/
theorem enters_by {P : Program} {f : FuncId} {fn : Func} {c : Code} (hf : P.funcs[f]? = some fn) (hname : (fn.name == "runtime.NumGoroutine") = false) (hb : fn.body = some c) : ∀ args w, (callFunc f args).run P w = .ok (.enter f args) w := by
  intro args w
  have h1 : fn.name ≠ "runtime.NumGoroutine" := by simpa using hname
  simp [callFunc, hf, h1, hb, mark]
theorem quiet_add {P : Program} {f : FuncId} {args : Array Value} {w : World} {a n : Nat} {v : Value}
    (h : Calls P f args (w.drewN (a + n)) fun e w' => e = .returned v ∧ ∃ m, w' = (w.drewN (a + n)).drewN m) :
    Calls P f args (w.drewN (a + n)) fun e w'' => e = .returned v ∧ ∃ m, w'' = w.drewN (a + m) :=
  h.mono fun _ _ ⟨he, m, hm⟩ => ⟨he, n + m, by rw [hm, World.drewN_drewN, Nat.add_assoc]⟩
theorem quiet_add_left {P : Program} {f : FuncId} {args : Array Value} {w : World} {a n : Nat} {v : Value}
    (h : Calls P f args (w.drewN (a + n)) fun e w' => e = .returned v ∧ w.drewN (a + n) = w') :
    Calls P f args (w.drewN (a + n)) fun e w'' => e = .returned v ∧ ∃ m, w'' = w.drewN (a + m) :=
  h.mono fun _ _ ⟨he, hm⟩ => ⟨he, n, hm.symm⟩
theorem quiet_left {P : Program} {f : FuncId} {args : Array Value} {w : World} {n : Nat} {v : Value}
    (h : Calls P f args (w.drewN n) fun e w' => e = .returned v ∧ w.drewN n = w') : Calls P f args (w.drewN n) fun e w'' => e = .returned v ∧ ∃ m, w'' = w.drewN m :=
  h.mono fun _ _ ⟨he, hm⟩ => ⟨he, n, hm.symm⟩

/-- Below block number B, but for the block r, the world w' is as w was. -/
structure Fr (B : Nat) (r : Option Nat) (w w' : World) : Prop where
  os : w'.os = w.os
  tape : w'.tape = w.tape
  output : w'.output = w.output
  size : w.heap.size ≤ w'.heap.size
  block : ∀ k, k < B → some k ≠ r → w'.heap[k]? = w.heap[k]?

namespace Fr
variable {B : Nat} {r : Option Nat} {a b c w w' : World}
theorem refl (B : Nat) (r : Option Nat) (w : World) : Fr B r w w := ⟨rfl, rfl, rfl, Nat.le_refl _, fun _ _ _ => rfl⟩
theorem trans (h : Fr B r a b) (k : Fr B r b c) : Fr B r a c :=
  ⟨k.os.trans h.os, k.tape.trans h.tape, k.output.trans h.output, Nat.le_trans h.size k.size, fun i hi hr => (k.block i hi hr).trans (h.block i hi hr)⟩
theorem mono (h : Fr B r a b) {B' : Nat} (hB : B' ≤ B) : Fr B' r a b := ⟨h.os, h.tape, h.output, h.size, fun k hk hr => h.block k (Nat.lt_of_lt_of_le hk hB) hr⟩
theorem weak (h : Fr B none a b) (r : Option Nat) : Fr B r a b := ⟨h.os, h.tape, h.output, h.size, fun k hk _ => h.block k hk (by simp)⟩
theorem up (h : Fr B r a b) {B' : Nat} (hB : B' ≤ B) (hr : ∀ g, r = some g → B' ≤ g) : Fr B' none a b :=
  ⟨h.os, h.tape, h.output, h.size, fun k hk _ => h.block k (Nat.lt_of_lt_of_le hk hB) (fun e => by have := hr k e.symm; omega)⟩
theorem next (h : Fr B r a b) (k : Fr b.heap.size none b c) (hB : B ≤ b.heap.size) : Fr B r a c := h.trans ((k.mono hB).weak r)
theorem drew (h : Fr B r a w) : Fr B r a w.drew := ⟨h.os, h.tape, h.output, h.size, h.block⟩
theorem drewN (h : Fr B r a w) (n : Nat) : Fr B r a (w.drewN n) := ⟨h.os, h.tape, h.output, h.size, h.block⟩
theorem alloc (h : Fr B r a w) (hB : B ≤ w.heap.size) (o : Obj) : Fr B r a (w.alloc o) :=
  h.trans ⟨rfl, rfl, rfl, by simp, fun k hk _ => Below.heap_alloc _ _ _ (by omega)⟩
theorem setCell (h : Fr B r a w) {p : Addr} (hp : B ≤ p.block ∨ some p.block = r) (u : Value) : Fr B r a (w.setCell p u) :=
  h.trans ⟨rfl, rfl, rfl, by simp [World.setCell], fun k hk hr => Below.heap_setCell _ _ _ _ (by rintro rfl; rcases hp with hp | hp <;> first | omega | exact hr hp)⟩
theorem grown (h : Fr B r a w) {row : Option Nat} (hg : w.grownBy w' row) (hB : B ≤ w.heap.size) (hr : ∀ k, row = some k → B ≤ k ∨ some k = r) : Fr B r a w' :=
  h.trans ⟨hg.os, hg.tape, hg.output, hg.size, fun k hk hne => hg.block k (by omega) (fun e => by rcases hr k e.symm with h | h <;> first | omega | exact hne h)⟩
theorem cell (h : Fr B r w w') {p : Addr} (hp : p.block < B) (hr : some p.block ≠ r) : w'.cell? p = w.cell? p := World.cell?_of_block (w := w) (h.block p.block hp hr)
theorem frozen (h : Fr B r w w') {p : Addr} (hp : p.block < B) (hr : some p.block ≠ r) : w'.frozen? p = w.frozen? p := World.frozen?_of_block (w := w) (h.block p.block hp hr)
theorem below (h : Fr B none w w') : Below B w w' := ⟨h.os, h.tape, h.output, h.size, fun k hk => h.block k hk (by simp)⟩
theorem of_below (h : Below B w w') : Fr B none w w' := ⟨h.os, h.tape, h.output, h.size, fun k hk _ => h.block k hk⟩
end Fr

/-- The cells 'cs' can be read from the address 'a' on (none: there are none). -/
def Sl (w : World) (a : Option Addr) (cs : List Value) : Prop :=
  ∀ j (h : j < cs.length), ∃ b off, a = some ⟨b, off, none⟩ ∧ w.cell? ⟨b, off + j, none⟩ = some cs[j]

theorem Sl.fr {w w' : World} {a : Option Addr} {cs : List Value} (h : Sl w a cs) (hF : Fr w.heap.size none w w') : Sl w' a cs := by
  intro j hj
  obtain ⟨b, off, ha, hc⟩ := h j hj
  exact ⟨b, off, ha, (hF.cell (World.block_lt_of_cell? w _ hc) (by simp)).trans hc⟩
theorem Sl.frB {w w' : World} {a : Option Addr} {cs : List Value} {B : Nat} {r : Option Nat} (h : Sl w a cs) (hF : Fr B r w w') (ha : ∀ p, a = some p → p.block < B ∧ some p.block ≠ r) : Sl w' a cs := by
  intro j hj
  obtain ⟨b, off, ha', hc⟩ := h j hj
  exact ⟨b, off, ha', (hF.cell (p := ⟨b, off + j, none⟩) (ha _ ha').1 (ha _ ha').2).trans hc⟩
theorem Sl.frL {w w' : World} {a : Option Addr} {cs : List Value} {B : Nat} {r : Option Nat} (h : Sl w a cs) (hF : Fr B r w w') (ha : ∀ p, a = some p → 0 < cs.length → p.block < B ∧ some p.block ≠ r) : Sl w' a cs := by
  intro j hj
  obtain ⟨b, off, ha', hc⟩ := h j hj
  have hl : 0 < cs.length := by omega
  exact ⟨b, off, ha', (hF.cell (p := ⟨b, off + j, none⟩) (ha _ ha' hl).1 (ha _ ha' hl).2).trans hc⟩
theorem Sl.drewN {w : World} {a : Option Addr} {cs : List Value} (h : Sl w a cs) (n : Nat) : Sl (w.drewN n) a cs := h
theorem Sl.nil (w : World) (a : Option Addr) : Sl w a [] := fun j hj => by simp at hj

section
variable {w w' : World} {base : Nat} {e : TypeId} {k n cap : Nat} {a : Option Addr} {v : Value} {cs : List Value}
theorem own_sl (h : w.ownsRow base e k (.slice a n cap) n cs) : Sl w a cs := by
  intro j hj
  rcases h.2 with ⟨h', h0⟩ | ⟨g, cap', cur, h', hb, hg, hnc, hcm, hcs, ht⟩
  · have := h.1; subst h0; simp at this; simp [this] at hj
  · simp only [Value.slice.injEq] at h'
    obtain ⟨rfl, _, rfl⟩ := h'
    exact ⟨g, 0, rfl, by rw [cell_of_row w g (0 + j) cur e (0, 0) hg]; subst ht; simp at hj ⊢⟩
theorem own_slice (h : w.ownsRow base e k v n cs) : ∃ a cap, v = .slice a n cap ∧ n ≤ cap ∧ cap ≤ maxLen := by
  rcases h.2 with ⟨h', h0⟩ | ⟨g, cap', cur, h', hb, hg, hnc, hcm, hcs, ht⟩
  · exact ⟨none, 0, by rw [h', h0], by omega, by simp [maxLen]⟩
  · exact ⟨_, cap', h', hnc, hcm⟩
theorem own_keep (h : w.ownsRow base e k v n cs) (hF : Fr w.heap.size none w w') : w'.ownsRow base e k v n cs :=
  h.kept (row := none) ⟨hF.os, hF.tape, hF.output, hF.size, fun k hk _ => hF.block k hk (by simp)⟩ (by cases v.ownBlock <;> simp)
theorem own_frB {B : Nat} {r : Option Nat} (h : w.ownsRow base e k v n cs) (hF : Fr B r w w') (hv : ∀ g, v.ownBlock = some g → g < B ∧ some g ≠ r) : w'.ownsRow base e k v n cs := by
  refine ⟨h.1, ?_⟩
  rcases h.2 with hn | ⟨g, cap, cur, rfl, hb, hgg, rest⟩
  · exact .inl hn
  · exact .inr ⟨g, cap, cur, rfl, hb, by rw [hF.block g (hv g rfl).1 (hv g rfl).2]; exact hgg, rest⟩
theorem own_base {base' : Nat} (h : w.ownsRow base e k v n cs) (hb : base' ≤ base) : w.ownsRow base' e k v n cs := by
  refine ⟨h.1, ?_⟩
  rcases h.2 with hn | ⟨g, cap, cur, hv, hg, rest⟩
  · exact .inl hn
  · exact .inr ⟨g, cap, cur, hv, by omega, rest⟩
theorem own_lt (h : w.ownsRow base e k v n cs) : ∀ g, v.ownBlock = some g → base ≤ g ∧ g < w.heap.size := h.lt
theorem own_drewN (h : w.ownsRow base e k v n cs) (m : Nat) : (w.drewN m).ownsRow base e k v n cs := h
end

/-- Two steps, one after the other, that leave what was there. -/
theorem Fr.and {a b c : World} (h : Fr a.heap.size none a b) (k : Fr b.heap.size none b c) : Fr a.heap.size none a c := h.trans (k.mono h.size)

theorem sameFr {P : Program} {f : FuncId} {args : Array Value} {w : World} {v : Value} (h : Calls P f args w fun e w' => e = .returned v ∧ w = w') :
    Calls P f args w fun e w' => e = .returned v ∧ Fr w.heap.size none w w' := h.mono fun _ _ ⟨he, hm⟩ => ⟨he, hm ▸ Fr.refl _ _ w⟩
/-- A call that only draws, in the form of all others. -/
theorem quietFr {P : Program} {f : FuncId} {args : Array Value} {w : World} {v : Value} (h : Calls P f args w fun e w' => e = .returned v ∧ ∃ m, w' = w.drewN m) :
    Calls P f args w fun e w' => e = .returned v ∧ Fr w.heap.size none w w' := h.mono fun _ _ ⟨he, m, hm⟩ => ⟨he, hm ▸ (Fr.refl _ _ w).drewN m⟩

theorem apart {v u : Value} {b t b' t' B : Nat} (hv : ∀ g, v.ownBlock = some g → b ≤ g ∧ g < t) (hu : ∀ g, u.ownBlock = some g → b' ≤ g ∧ g < t') (h : t ≤ b' ∨ t' ≤ b) (hB : t ≤ B) :
    ∀ g, v.ownBlock = some g → g < B ∧ some g ≠ u.ownBlock := by
  intro g hg
  have h1 := hv g hg
  refine ⟨by omega, fun e => ?_⟩
  have h2 := hu g e.symm
  omega
theorem mark_up {B : Nat} {v : Value} {b t : Nat} {w0 w w' : World} (h0 : Fr B none w0 w) (h : Fr w.heap.size v.ownBlock w w') (hv : ∀ g, v.ownBlock = some g → b ≤ g ∧ g < t) (hb : B ≤ b) (hB : B ≤ w.heap.size) : Fr B none w0 w' :=
  h0.trans (h.up hB fun g hg => Nat.le_trans hb (hv g hg).1)

/-- The numbers as cells. -/
def ints (xs : List Int) : List Value := xs.map (Value.int .i64)
theorem ints_length (xs : List Int) : (ints xs).length = xs.length := by simp [ints]
theorem ints_append (xs ys : List Int) : ints (xs ++ ys) = ints xs ++ ints ys := by simp [ints]
theorem Sl.int {w : World} {a : Option Addr} {xs : List Int} (h : Sl w a (ints xs)) (k : Nat) (hk : k < xs.length) :
    ∃ b off, a = some ⟨b, off, none⟩ ∧ w.cell? ⟨b, off + k, none⟩ = some (.int .i64 (xs.getD k 0)) := by
  obtain ⟨b, off, ha, hc⟩ := h k (by rw [ints_length]; exact hk)
  exact ⟨b, off, ha, by rw [hc]; simp [ints, List.getD_eq_getElem?_getD, hk]⟩

/-- A row of n cells of which the first k are filled. -/
def fillV (f : Nat → Value) (z : Value) (n k : Nat) : List Value := (List.range n).map fun j => if j < k then f j else z
theorem fillV_length (f : Nat → Value) (z : Value) (n k : Nat) : (fillV f z n k).length = n := by simp [fillV]
theorem fillV_zero (f : Nat → Value) (z : Value) (n : Nat) : fillV f z n 0 = List.replicate n z := by
  apply List.ext_getElem <;> simp [fillV]
theorem fillV_set (f : Nat → Value) (z : Value) (n k : Nat) : (fillV f z n k).set k (f k) = fillV f z n (k + 1) := by
  apply List.ext_getElem
  · simp [fillV]
  · intro i h1 h2
    simp only [fillV, List.getElem_set, List.getElem_map, List.getElem_range]
    by_cases h : k = i
    · subst h; simp
    · simp only [if_neg h]; by_cases h' : i < k
      · rw [if_pos h', if_pos (by omega)]
      · rw [if_neg h', if_neg (by omega)]
theorem fillV_full (f : Nat → Value) (z : Value) (n : Nat) : fillV f z n n = (List.range n).map f := by
  apply List.ext_getElem
  · simp [fillV]
  · intro i h1 h2; simp [fillV] at h1 ⊢; omega
theorem range_ints (xs : List Int) : ((List.range xs.length).map fun j => Value.int .i64 (xs.getD j 0)) = ints xs := by
  apply List.ext_getElem
  · simp [ints]
  · intro i h1 h2; simp [ints] at h1 ⊢; simp [h1]

/-- All numbers below k. -/
def allTo (p : Nat → Bool) (k : Nat) : Bool := (List.range k).all p
theorem allTo_zero (p : Nat → Bool) : allTo p 0 = true := rfl
theorem allTo_succ (p : Nat → Bool) (k : Nat) : allTo p (k + 1) = (allTo p k && p k) := by simp [allTo, List.range_succ]
theorem allTo_false {p : Nat → Bool} {k n : Nat} (h : k < n) (hp : p k = false) : allTo p n = false := by
  simp only [allTo, List.all_eq_false, List.mem_range]; exact ⟨k, h, by simp [hp]⟩
theorem allTo_iff {p : Nat → Bool} {n : Nat} : allTo p n = true ↔ ∀ k, k < n → p k = true := by simp [allTo]
theorem all_allTo (p : Int → Bool) (xs : List Int) : xs.all p = allTo (fun j => p (xs.getD j 0)) xs.length := by
  rw [Bool.eq_iff_iff, allTo_iff, List.all_eq_true]
  constructor
  · intro h k hk
    simp only [List.getD_eq_getElem?_getD, hk, List.getElem?_eq_getElem, Option.getD_some]
    exact h _ (List.getElem_mem hk)
  · intro h x hx
    obtain ⟨k, hk, rfl⟩ := List.getElem_of_mem hx
    have := h k hk
    simpa [List.getD_eq_getElem?_getD, hk] using this

/-- n lies in lo..hi. -/
def inB (n lo hi : Int) : Bool := decide (lo ≤ n) && decide (n ≤ hi)
theorem inB_true {n lo hi : Int} : inB n lo hi = true ↔ lo ≤ n ∧ n ≤ hi := by simp [inB]
theorem inB_false {n lo hi : Int} : inB n lo hi = false ↔ ¬ (lo ≤ n ∧ n ≤ hi) := by rw [← inB_true]; simp

/-- A row of the call's own, of which no more is said of the room behind it than that it is there. -/
def Own (w : World) (base : Nat) (e : TypeId) (size : Nat) (v : Value) (n : Nat) (cs : List Value) : Prop :=
  cs.length = n * size ∧ ((v = .slice none 0 0 ∧ n = 0) ∨ ∃ g cap cur, v = .slice (some ⟨g, 0, none⟩) n cap ∧ base ≤ g ∧ w.heap[g]? = some (.cells cur e (0, 0)) ∧ n ≤ cap ∧ cap ≤ maxLen ∧ cap * size ≤ cur.size ∧ cur.toList.take (n * size) = cs)
namespace Own
variable {w w' : World} {base : Nat} {e : TypeId} {size n cap : Nat} {a : Option Addr} {v : Value} {cs : List Value}
theorem of (h : w.ownsRow base e size v n cs) : Own w base e size v n cs := by
  refine ⟨h.1, ?_⟩
  rcases h.2 with hn | ⟨g, cap, cur, h1, h2, h3, h4, h5, h6, h7⟩
  · exact .inl hn
  · exact .inr ⟨g, cap, cur, h1, h2, h3, h4, h5, Nat.le_of_eq h6.symm, h7⟩
theorem sl (h : Own w base e size (.slice a n cap) n cs) : Sl w a cs := by
  intro j hj
  rcases h.2 with ⟨h', h0⟩ | ⟨g, cap', cur, h', hb, hg, hnc, hcm, hcs, ht⟩
  · have := h.1; subst h0; simp at this; simp [this] at hj
  · simp only [Value.slice.injEq] at h'
    obtain ⟨rfl, _, rfl⟩ := h'
    exact ⟨g, 0, rfl, by rw [cell_of_row w g (0 + j) cur e (0, 0) hg]; subst ht; simp at hj ⊢⟩
theorem slice (h : Own w base e size v n cs) : ∃ a cap, v = .slice a n cap ∧ n ≤ cap ∧ cap ≤ maxLen := by
  rcases h.2 with ⟨h', h0⟩ | ⟨g, cap', cur, h', hb, hg, hnc, hcm, hcs, ht⟩
  · exact ⟨none, 0, by rw [h', h0], by omega, by simp [maxLen]⟩
  · exact ⟨_, cap', h', hnc, hcm⟩
theorem frB {B : Nat} {r : Option Nat} (h : Own w base e size v n cs) (hF : Fr B r w w') (hv : ∀ g, v.ownBlock = some g → g < B ∧ some g ≠ r) : Own w' base e size v n cs := by
  refine ⟨h.1, ?_⟩
  rcases h.2 with hn | ⟨g, cap, cur, rfl, hb, hgg, rest⟩
  · exact .inl hn
  · exact .inr ⟨g, cap, cur, rfl, hb, by rw [hF.block g (hv g rfl).1 (hv g rfl).2]; exact hgg, rest⟩
theorem lt (h : Own w base e size v n cs) : ∀ g, v.ownBlock = some g → base ≤ g ∧ g < w.heap.size := by
  intro k hk
  rcases h.2 with ⟨rfl, _⟩ | ⟨g, cap, cur, rfl, hb, hg, _⟩
  · simp [Value.ownBlock] at hk
  · simp [Value.ownBlock] at hk
    subst hk
    exact ⟨hb, (Array.getElem?_eq_some_iff.1 hg).1⟩
theorem keep (h : Own w base e size v n cs) (hF : Fr w.heap.size none w w') : Own w' base e size v n cs := h.frB hF fun g hg => ⟨(h.lt g hg).2, by simp⟩
theorem past {B : Nat} (h : Own w base e size v n cs) (hF : Fr w.heap.size (some B) w w') (hB : B < base) : Own w' base e size v n cs :=
  h.frB hF fun g hg => by have := h.lt g hg; exact ⟨this.2, by simp; omega⟩
theorem base_le {base' : Nat} (h : Own w base e size v n cs) (hb : base' ≤ base) : Own w base' e size v n cs := by
  refine ⟨h.1, ?_⟩
  rcases h.2 with hn | ⟨g, cap, cur, hv, hg, rest⟩
  · exact .inl hn
  · exact .inr ⟨g, cap, cur, hv, by omega, rest⟩
theorem drewN (h : Own w base e size v n cs) (m : Nat) : Own (w.drewN m) base e size v n cs := h
theorem nil (w : World) (base : Nat) (e : TypeId) (size : Nat) : Own w base e size (.slice none 0 0) 0 [] := ⟨by simp, .inl ⟨rfl, rfl⟩⟩
theorem addr (h : Own w base e size (.slice a n cap) n cs) (hn : 0 < n) : ∃ g, a = some ⟨g, 0, none⟩ := by
  rcases h.2 with ⟨_, h0⟩ | ⟨g, cap', cur, h', _⟩
  · omega
  · simp only [Value.slice.injEq] at h'; exact ⟨g, h'.1⟩
theorem cellAt {g : Nat} (h : Own w base e size (.slice (some ⟨g, 0, none⟩) n cap) n cs) (j : Nat) (hj : j < n * size) : w.cell? ⟨g, j, none⟩ = cs[j]? := by
  rcases h.2 with ⟨h', _⟩ | ⟨g', cap', cur, h', _, hg, _, _, _, htake⟩
  · simp at h'
  · simp only [Value.slice.injEq, Option.some.injEq, Addr.mk.injEq, and_true, true_and] at h'
    obtain ⟨rfl, rfl⟩ := h'
    rw [cell_of_row w g j cur e (0, 0) hg, ← htake, List.getElem?_take, if_pos hj]
    simp
theorem frozenAt {g : Nat} (h : Own w base e size (.slice (some ⟨g, 0, none⟩) n cap) n cs) (j : Nat) : w.frozen? ⟨g, j, none⟩ = false := by
  rcases h.2 with ⟨h', _⟩ | ⟨g', cap', cur, h', _, hg, _⟩
  · simp at h'
  · simp only [Value.slice.injEq, Option.some.injEq, Addr.mk.injEq, and_true, true_and] at h'
    obtain ⟨rfl, rfl⟩ := h'
    exact frozen_of_row w g j cur e hg
theorem stored {g : Nat} (h : Own w base e size (.slice (some ⟨g, 0, none⟩) n cap) n cs) (j : Nat) (u : Value) : Own (w.setCell ⟨g, j, none⟩ u) base e size (.slice (some ⟨g, 0, none⟩) n cap) n (cs.set j u) := by
  rcases h.2 with ⟨h', _⟩ | ⟨g', cap', cur, h', hb, hg, hnc, hcm, hcs, htake⟩
  · simp at h'
  · simp only [Value.slice.injEq, Option.some.injEq, Addr.mk.injEq, and_true, true_and] at h'
    obtain ⟨rfl, rfl⟩ := h'
    refine ⟨by simpa using h.1, .inr ⟨g, cap, cur.setIfInBounds j u, rfl, hb, heap_setCell_same w g j cur e u hg, hnc, hcm, by simpa using hcs, ?_⟩⟩
    rw [Array.toList_setIfInBounds, List.take_set, htake]
/-- The room behind the row is given away. -/
theorem clip (h : Own w base e size (.slice a n cap) n cs) : Own w base e size (.slice a n n) n cs := by
  refine ⟨h.1, ?_⟩
  rcases h.2 with ⟨h', h0⟩ | ⟨g, cap', cur, h', hb, hg, hnc, hcm, hcs, ht⟩
  · simp only [Value.slice.injEq] at h'; exact .inl ⟨by rw [h'.1, h0], h0⟩
  · simp only [Value.slice.injEq] at h'
    exact .inr ⟨g, n, cur, by rw [h'.1], hb, hg, Nat.le_refl _, by omega, Nat.le_trans (Nat.mul_le_mul_right _ hnc) hcs, ht⟩
end Own
end Go.Proofs.YtdngnmpmaacapaaGreatDoor
/-
  Plain notions: rows of structs as flat lists of cells; no program is named here.
-/
namespace Go.Proofs.YtdngnmpmaacapaaGreatDoor
open Go.RowKit

section
variable {α : Type}
/-- The cells of a list of structs. -/
def rows (f : α → List Value) (xs : List α) : List Value := xs.flatMap f
theorem rows_nil (f : α → List Value) : rows f [] = [] := rfl
theorem rows_append (f : α → List Value) (xs ys : List α) : rows f (xs ++ ys) = rows f xs ++ rows f ys := by simp [rows]
theorem rows_one (f : α → List Value) (x : α) : rows f [x] = f x := by simp [rows]
theorem rows_length (f : α → List Value) (s : Nat) (hf : ∀ x, (f x).length = s) (xs : List α) : (rows f xs).length = xs.length * s := by
  induction xs with
  | nil => simp [rows]
  | cons x xs ih => simp only [rows, List.flatMap_cons, List.length_append, hf, List.length_cons] at *; rw [ih, Nat.succ_mul]; omega
theorem rows_get (f : α → List Value) (s : Nat) (hf : ∀ x, (f x).length = s) (xs : List α) (k i : Nat) (hk : k < xs.length) (hi : i < s) : (rows f xs)[k * s + i]? = (f xs[k])[i]? := by
  induction xs generalizing k with
  | nil => simp at hk
  | cons x xs ih =>
    simp only [rows, List.flatMap_cons]
    cases k with
    | zero => rw [Nat.zero_mul, Nat.zero_add, List.getElem?_append_left (by rw [hf]; exact hi)]; rfl
    | succ k =>
      have hk' : k < xs.length := by simpa using hk
      rw [List.getElem?_append_right (by rw [hf, Nat.succ_mul]; omega), hf, show (k + 1) * s + i - s = k * s + i by rw [Nat.succ_mul]; omega]
      exact ih k hk'
/-- A field of a struct in a slice. -/
theorem Sl.row {w : World} {a : Option Addr} {f : α → List Value} {xs : List α} (h : Sl w a (rows f xs)) (s : Nat) (hf : ∀ x, (f x).length = s) (hs : 0 < s) (k : Nat) (hk : k < xs.length) :
    ∃ b off, a = some ⟨b, off, none⟩ ∧ ∀ i, i < s → w.cell? ⟨b, off + (k * s + i), none⟩ = (f xs[k])[i]? := by
  have hlen := rows_length f s hf xs
  have hb : ∀ i, i < s → k * s + i < (rows f xs).length := by
    intro i hi
    rw [hlen]
    have : (k + 1) * s ≤ xs.length * s := Nat.mul_le_mul_right _ hk
    rw [Nat.succ_mul] at this; omega
  obtain ⟨b, off, ha, hc⟩ := h (k * s + 0) (hb 0 hs)
  refine ⟨b, off, ha, fun i hi => ?_⟩
  obtain ⟨b2, off2, ha2, hc2⟩ := h (k * s + i) (hb i hi)
  rw [ha] at ha2
  cases ha2
  rw [hc2, ← rows_get f s hf xs k i hk hi, List.getElem?_eq_getElem (hb i hi)]
end

/-- n times the same cells. -/
def zrows (z : List Value) (n : Nat) : List Value := (List.replicate n z).flatten
theorem zrows_zero (z : List Value) : zrows z 0 = [] := rfl
theorem zrows_succ (z : List Value) (n : Nat) : zrows z (n + 1) = z ++ zrows z n := by simp [zrows, List.replicate_succ]
theorem zrows_length (z : List Value) (n : Nat) : (zrows z n).length = n * z.length := by simp [zrows]
theorem zrows_get (z : List Value) (n j : Nat) (hz : 0 < z.length) (hj : j < n * z.length) : (zrows z n)[j]? = z[j % z.length]? := by
  induction n generalizing j with
  | zero => simp at hj
  | succ n ih =>
    rw [zrows_succ]
    by_cases h : j < z.length
    · rw [List.getElem?_append_left h, Nat.mod_eq_of_lt h]
    · have e := Nat.mod_eq_sub_mod (a := j) (b := z.length) (by omega)
      rw [List.getElem?_append_right (by omega), ih _ (by rw [Nat.add_mul, Nat.one_mul] at hj; omega), e]
theorem made_zrows (z : List Value) (n : Nat) (hz : 0 < z.length) : (madeCells z.toArray (n * z.length)).toList = zrows z n := by
  apply List.ext_getElem?
  intro j
  by_cases hj : j < n * z.length
  · rw [zrows_get z n j hz hj]
    have hm : j % z.length < z.length := Nat.mod_lt _ hz
    simp [madeCells, hj, hm]
  · rw [List.getElem?_eq_none (by simp [madeCells]; omega), List.getElem?_eq_none (by rw [zrows_length]; omega)]

theorem set2 (A C : List Value) (x y a b : Value) (n m : Nat) (hn : n = A.length) (hm : m = n + 1) : ((A ++ ([x, y] ++ C)).set n a).set m b = A ++ ([a, b] ++ C) := by
  subst hn; subst hm
  simp [List.set_append_right]
theorem set3 (A C : List Value) (x y z a b c : Value) (n m k : Nat) (hn : n = A.length) (hm : m = n + 1) (hk : k = n + 2) : (((A ++ ([x, y, z] ++ C)).set n a).set m b).set k c = A ++ ([a, b, c] ++ C) := by
  subst hn; subst hm; subst hk
  simp [List.set_append_right]
theorem set4 (A C : List Value) (x y z u a b c d : Value) (n m k l : Nat) (hn : n = A.length) (hm : m = n + 1) (hk : k = n + 2) (hl : l = n + 3) : ((((A ++ ([x, y, z, u] ++ C)).set n a).set m b).set k c).set l d = A ++ ([a, b, c, d] ++ C) := by
  subst hn; subst hm; subst hk; subst hl
  simp [List.set_append_right]
end Go.Proofs.YtdngnmpmaacapaaGreatDoor
