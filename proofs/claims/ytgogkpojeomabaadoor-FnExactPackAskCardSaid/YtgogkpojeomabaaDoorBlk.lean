/- Blocks known whole; slices that read as lists of cells in memory from a block up. -/
import Derived.Test.YtgogkpojeomabaaDoorBase
import Derived.Deep.OwnRows
set_option linter.unusedVariables false
set_option linter.unusedSimpArgs false
namespace Go.Proofs.YtgogkpojeomabaaDoor
open Go.RowKit

/-- Block g holds these cells. -/
def Blk (w : World) (g : Nat) (cs : Array Value) (t : TypeId) : Prop := w.heap[g]? = some (.cells cs t (0, 0))
theorem Blk.cell {w : World} {g : Nat} {cs : Array Value} {t : TypeId} (h : Blk w g cs t) (j : Nat) {v : Value} (hv : cs[j]? = some v) : w.cell? ⟨g, j, none⟩ = some v := by rw [Lib.cell_of_heap h]; exact hv
theorem Blk.free {w : World} {g : Nat} {cs : Array Value} {t : TypeId} (h : Blk w g cs t) (j : Nat) : w.frozen? ⟨g, j, none⟩ = false := Lib.frozen_of_heap h j
theorem Blk.lt {w : World} {g : Nat} {cs : Array Value} {t : TypeId} (h : Blk w g cs t) : g < w.heap.size := (Array.getElem?_eq_some_iff.1 h).1
theorem Blk.below {w w' : World} {g : Nat} {cs : Array Value} {t : TypeId} (h : Blk w g cs t) (hb : Below w.heap.size w w') : Blk w' g cs t := (hb.block g h.lt).trans h
theorem Blk.grown {w w' : World} {g : Nat} {cs : Array Value} {t : TypeId} {row : Option Nat} (h : Blk w g cs t) (hb : w.grownBy w' row) (hne : some g ≠ row) : Blk w' g cs t := (hb.block g h.lt hne).trans h
theorem Blk.set {w : World} {g j : Nat} {cs : Array Value} {t : TypeId} (h : Blk w g cs t) (v : Value) : Blk (w.setCell ⟨g, j, none⟩ v) g (cs.setIfInBounds j v) t := heap_setCell_same w g j cs t v h
theorem Blk.set_other {w : World} {g : Nat} {cs : Array Value} {t : TypeId} (h : Blk w g cs t) (a : Addr) (v : Value) (hne : g ≠ a.block) : Blk (w.setCell a v) g cs t := (heap_setCell_other w a g v hne).trans h
theorem Blk.new (w : World) (cs : Array Value) (t : TypeId) : Blk (w.alloc (.cells cs t)) w.heap.size cs t := heap_alloc_new w _
theorem blk4 {w : World} {g : Nat} {a b c d : Value} {t : TypeId} (h : Blk w g #[a, b, c, d] t) : (w.cell? ⟨g, 0, none⟩ = some a ∧ w.cell? ⟨g, 1, none⟩ = some b ∧ w.cell? ⟨g, 2, none⟩ = some c ∧ w.cell? ⟨g, 3, none⟩ = some d) ∧
    (w.frozen? ⟨g, 0, none⟩ = false ∧ w.frozen? ⟨g, 1, none⟩ = false ∧ w.frozen? ⟨g, 2, none⟩ = false ∧ w.frozen? ⟨g, 3, none⟩ = false) :=
  ⟨⟨h.cell 0 rfl, h.cell 1 rfl, h.cell 2 rfl, h.cell 3 rfl⟩, h.free 0, h.free 1, h.free 2, h.free 3⟩
theorem own_row {w : World} {base : Nat} {e : TypeId} {size n : Nat} {v : Value} {xs : List Value} (h : w.ownsRow base e size v n xs) : ∃ (a : Option Addr) (c : Nat), v = .slice a n c ∧ n ≤ c ∧ c ≤ maxLen ∧ (xs ≠ [] → ∃ g, a = some ⟨g, 0, none⟩ ∧ base ≤ g ∧ (∃ cur, w.heap[g]? = some (.cells cur e (0, 0))) ∧ RowAt w g 0 xs) := by
  obtain ⟨h1, ⟨rfl, h2⟩ | ⟨g, cap, cur, rfl, hb, hg, hn, hm, hs, ht⟩⟩ := h
  · subst h2
    refine ⟨none, 0, rfl, Nat.le_refl _, Nat.zero_le _, fun hne => ?_⟩
    rw [Nat.zero_mul] at h1
    exact absurd (List.eq_nil_of_length_eq_zero h1) hne
  · refine ⟨_, cap, rfl, hn, hm, fun hne => ⟨g, rfl, hb, ⟨cur, hg⟩, fun j hj => ?_⟩⟩
    rw [Lib.cell_of_heap hg, Nat.zero_add, ← Array.getElem?_toList]
    have h3 : xs[j]? = some xs[j] := List.getElem?_eq_getElem hj
    have h4 : (cur.toList.take (n * size))[j]? = some xs[j] := by rw [ht]; exact h3
    rw [List.getElem?_take, if_pos (by omega)] at h4
    rw [h4]
theorem own_sl {w : World} {base : Nat} {e : TypeId} {size n : Nat} {v : Value} {xs : List Value} (h : w.ownsRow base e size v n xs) : SlAt w v n xs := by
  obtain ⟨a, c, rfl, h1, h2, h3⟩ := own_row h
  exact ⟨a, c, rfl, h1, by simpa [maxLen] using h2, fun hne => by obtain ⟨g, rfl, _, _, hr⟩ := h3 hne; exact ⟨g, 0, rfl, hr⟩⟩
theorem blk2 {w : World} {g : Nat} {a b : Value} {t : TypeId} (h : Blk w g #[a, b] t) : (w.cell? ⟨g, 0, none⟩ = some a ∧ w.cell? ⟨g, 1, none⟩ = some b) ∧ (w.frozen? ⟨g, 0, none⟩ = false ∧ w.frozen? ⟨g, 1, none⟩ = false) :=
  ⟨⟨h.cell 0 rfl, h.cell 1 rfl⟩, h.free 0, h.free 1⟩
theorem intsAt_val {w : World} {v : Value} {xs : List Int} (h : IntsAt w v xs) : ∃ a c, v = .slice a xs.length c := by obtain ⟨a, c, rfl, _⟩ := h; exact ⟨a, c, rfl⟩

theorem slAt_val {w : World} {v : Value} {n : Nat} {cs : List Value} (h : SlAt w v n cs) : ∃ a c, v = .slice a n c := by obtain ⟨a, c, rfl, _⟩ := h; exact ⟨a, c, rfl⟩

/-- A slice value that reads as these cells, in a block from B up. -/
def SlFrom (B : Nat) (w : World) (v : Value) (n : Nat) (cs : List Value) : Prop := ∃ (a : Option Addr) (c : Nat), v = .slice a n c ∧ n ≤ c ∧ c ≤ 9223372036854775807 ∧ (cs ≠ [] → ∃ b off, a = some ⟨b, off, none⟩ ∧ B ≤ b ∧ RowAt w b off cs)
theorem SlFrom.at {B : Nat} {w : World} {v : Value} {n : Nat} {cs : List Value} (h : SlFrom B w v n cs) : SlAt w v n cs := by
  obtain ⟨a, c, rfl, h1, h2, h3⟩ := h
  exact ⟨a, c, rfl, h1, h2, fun hne => by obtain ⟨b, off, rfl, _, hr⟩ := h3 hne; exact ⟨b, off, rfl, hr⟩⟩
theorem SlAt.from {w : World} {v : Value} {n : Nat} {cs : List Value} (h : SlAt w v n cs) : SlFrom 0 w v n cs := by
  obtain ⟨a, c, rfl, h1, h2, h3⟩ := h
  exact ⟨a, c, rfl, h1, h2, fun hne => by obtain ⟨b, off, rfl, hr⟩ := h3 hne; exact ⟨b, off, rfl, Nat.zero_le _, hr⟩⟩
theorem SlFrom.mono {B B' : Nat} {w : World} {v : Value} {n : Nat} {cs : List Value} (h : SlFrom B w v n cs) (hB : B' ≤ B) : SlFrom B' w v n cs := by
  obtain ⟨a, c, rfl, h1, h2, h3⟩ := h
  exact ⟨a, c, rfl, h1, h2, fun hne => by obtain ⟨b, off, rfl, hb, hr⟩ := h3 hne; exact ⟨b, off, rfl, Nat.le_trans hB hb, hr⟩⟩
theorem RowAt.of_block {w w' : World} {b off : Nat} {cs : List Value} (h : RowAt w b off cs) (e : w'.heap[b]? = w.heap[b]?) : RowAt w' b off cs := fun j hj => by
  rw [World.cell?_of_block (w := w) (a := ⟨b, off + j, none⟩) e]; exact h j hj
/-- Whatever writes one block below B, and makes new ones, leaves such a slice. -/
theorem SlFrom.grown {B : Nat} {w w' : World} {v : Value} {n : Nat} {cs : List Value} {row : Option Nat} (h : SlFrom B w v n cs) (hg : w.grownBy w' row) (hr : ∀ k, row = some k → k < B) : SlFrom B w' v n cs := by
  obtain ⟨a, c, rfl, h1, h2, h3⟩ := h
  refine ⟨a, c, rfl, h1, h2, fun hne => ?_⟩
  obtain ⟨b, off, rfl, hb, hrow⟩ := h3 hne
  refine ⟨b, off, rfl, hb, hrow.of_block (hg.block b (hrow.lt (List.length_pos_iff.2 hne)) ?_)⟩
  intro e
  have := hr b e.symm
  omega
theorem SlFrom.keep {B : Nat} {w w' : World} {v : Value} {n : Nat} {cs : List Value} (h : SlFrom B w v n cs) (hb : Below w.heap.size w w') : SlFrom B w' v n cs :=
  h.grown (row := none) ⟨hb.os, hb.tape, hb.output, hb.size, fun k hk _ => hb.block k hk⟩ (fun k hk => by cases hk)
theorem SlFrom.set {B : Nat} {w : World} {v : Value} {n : Nat} {cs : List Value} (h : SlFrom B w v n cs) {a : Addr} (ha : a.block < B) (u : Value) : SlFrom B (w.setCell a u) v n cs := by
  obtain ⟨s, c, rfl, h1, h2, h3⟩ := h
  refine ⟨s, c, rfl, h1, h2, fun hne => ?_⟩
  obtain ⟨b, off, rfl, hb, hr⟩ := h3 hne
  exact ⟨b, off, rfl, hb, hr.of_block (heap_setCell_other w a b u (by omega))⟩
theorem SlFrom.nil (B : Nat) (w : World) (a : Option Addr) (c : Nat) (h : c ≤ 9223372036854775807) : SlFrom B w (.slice a 0 c) 0 [] := ⟨a, c, rfl, Nat.zero_le _, h, fun h => absurd rfl h⟩
theorem slFrom_val {B : Nat} {w : World} {v : Value} {n : Nat} {cs : List Value} (h : SlFrom B w v n cs) : ∃ a c, v = .slice a n c := by obtain ⟨a, c, rfl, _⟩ := h; exact ⟨a, c, rfl⟩
theorem own_from {w : World} {base : Nat} {e : TypeId} {size n : Nat} {v : Value} {xs : List Value} (h : w.ownsRow base e size v n xs) : SlFrom base w v n xs := by
  obtain ⟨a, c, rfl, h1, h2, h3⟩ := own_row h
  exact ⟨a, c, rfl, h1, by simpa [maxLen] using h2, fun hne => by obtain ⟨g, rfl, hg, _, hr⟩ := h3 hne; exact ⟨g, 0, rfl, hg, hr⟩⟩
theorem own_mono {w : World} {base base' : Nat} {e : TypeId} {size n : Nat} {v : Value} {xs : List Value} (h : w.ownsRow base e size v n xs) (hb : base' ≤ base) : w.ownsRow base' e size v n xs := by
  obtain ⟨h1, h2 | ⟨g, cap, cur, h3, h4, h5⟩⟩ := h
  · exact ⟨h1, .inl h2⟩
  · exact ⟨h1, .inr ⟨g, cap, cur, h3, Nat.le_trans hb h4, h5⟩⟩

/-! Worlds that have grown, with one block written. -/
theorem gb_below {w w' : World} (h : Below w.heap.size w w') (row : Option Nat) : w.grownBy w' row := ⟨h.os, h.tape, h.output, h.size, fun i hi _ => h.block i hi⟩
theorem gb_step {w w' w'' : World} {row : Option Nat} (h : w.grownBy w' row) (k : w'.grownBy w'' row) : w.grownBy w'' row :=
  ⟨k.os.trans h.os, k.tape.trans h.tape, k.output.trans h.output, Nat.le_trans h.size k.size, fun i hi hn => (k.block i (Nat.lt_of_lt_of_le hi h.size) hn).trans (h.block i hi hn)⟩
theorem gb_new {w w' w'' : World} {row : Option Nat} (h : w.grownBy w' row) (k : Below w.heap.size w' w'') : w.grownBy w'' row :=
  ⟨k.os.trans h.os, k.tape.trans h.tape, k.output.trans h.output, Nat.le_trans h.size k.size, fun i hi hn => (k.block i hi).trans (h.block i hi hn)⟩
theorem gb_alloc {w w' : World} {row : Option Nat} (h : w.grownBy w' row) (o : Obj) : w.grownBy (w'.alloc o) row :=
  gb_new h ((Below.refl _ _).alloc h.size o)
theorem gb_drew {w w' : World} {row : Option Nat} (h : w.grownBy w' row) : w.grownBy w'.drew row := ⟨h.os, h.tape, h.output, h.size, h.block⟩
theorem gb_drewN {w w' : World} {row : Option Nat} (h : w.grownBy w' row) (n : Nat) : w.grownBy (w'.drewN n) row := ⟨h.os, h.tape, h.output, h.size, h.block⟩
theorem gb_set {w w' : World} {row : Option Nat} (h : w.grownBy w' row) {a : Addr} (ha : w.heap.size ≤ a.block ∨ row = some a.block) (v : Value) : w.grownBy (w'.setCell a v) row :=
  ⟨h.os, h.tape, h.output, by simpa [World.setCell] using h.size, fun i hi hn => (Below.heap_setCell w' a v i (by
    rintro rfl
    rcases ha with ha | ha
    · omega
    · exact hn ha.symm)).trans (h.block i hi hn)⟩
theorem gb_of_drew {w w' : World} {row : Option Nat} (h : w.drew.grownBy w' row) : w.grownBy w' row := ⟨h.os, h.tape, h.output, h.size, h.block⟩
theorem bw_gb {B : Nat} {w0 w w' : World} {row : Option Nat} (h : Below B w0 w) (k : w.grownBy w' row) (hB : B ≤ w.heap.size) (hr : ∀ g, row = some g → B ≤ g) : Below B w0 w' := h.grown k hB hr
theorem Blk.gb {w w' : World} {b : Nat} {cs : Array Value} {t : TypeId} {row : Option Nat} (h : Blk w b cs t) (k : w.grownBy w' row) (hn : row ≠ some b) : Blk w' b cs t := h.grown k (fun e => hn e.symm)
end Go.Proofs.YtgogkpojeomabaaDoor
