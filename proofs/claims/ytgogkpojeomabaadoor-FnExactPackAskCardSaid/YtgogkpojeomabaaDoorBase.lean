/- Plain words of the walks: what a row of cells holds; data of the program as Lean lists. -/
import Derived.Test.YtgogkpojeomabaaDoorProg
import Derived.WalkKit
import Derived.KernelRfl
import Derived.RowKit3
import Derived.Lib.Hide
import Derived.Deep.QuietTactic
import Derived.BigQuiet
import Derived.Deep.LoopGhost
import Derived.WalkLawsBesides
import Derived.WalkSpells
import Derived.Lib.ItoaNum
set_option linter.unusedVariables false
namespace Go.Proofs.YtgogkpojeomabaaDoor
open Go.RowKit

theorem bw_alloc {w W : World} (h : Below w.heap.size w W) (o : Obj) : Below w.heap.size w (W.alloc o) := h.alloc h.size o
theorem bw_drew {w W : World} (h : Below w.heap.size w W) : Below w.heap.size w W.drew := h.drew
theorem bw_drewN {w W : World} (h : Below w.heap.size w W) (n : Nat) : Below w.heap.size w (W.drewN n) := ⟨h.os, h.tape, h.output, h.size, h.block⟩
theorem bw_step {w W W' : World} (h : Below w.heap.size w W) (k : Below W.heap.size W W') : Below w.heap.size w W' := h.trans (k.mono h.size)
theorem bw_set {w W : World} (h : Below w.heap.size w W) {a : Addr} (ha : w.heap.size ≤ a.block) (v : Value) : Below w.heap.size w (W.setCell a v) := h.setCell ha v
theorem bw_of_drew {w W : World} (h : Below w.drew.heap.size w.drew W) : Below w.heap.size w W := ⟨h.os, h.tape, h.output, h.size, h.block⟩
theorem bw_grown {w W W' : World} {row : Option Nat} (h : Below w.heap.size w W) (hg : W.grownBy W' row) (hr : ∀ k, row = some k → w.heap.size ≤ k) : Below w.heap.size w W' := h.grown hg h.size hr
theorem own_ge {w : World} {base : Nat} {e : TypeId} {size n : Nat} {v : Value} {xs : List Value} (h : w.ownsRow base e size v n xs) (k : Nat) (hk : v.ownBlock = some k) : base ≤ k := (h.lt k hk).1
theorem bcell {W w1 : World} (hb : Below W.heap.size W w1) : (∀ b o, b < W.heap.size → w1.cell? ⟨b, o, none⟩ = W.cell? ⟨b, o, none⟩) ∧ (∀ b o, b < W.heap.size → w1.frozen? ⟨b, o, none⟩ = W.frozen? ⟨b, o, none⟩) :=
  ⟨fun b o h => hb.cell (p := ⟨b, o, none⟩) h, fun b o h => hb.frozen (p := ⟨b, o, none⟩) h⟩
theorem mk_append (x y : List UInt8) : (ByteArray.mk x.toArray ++ ByteArray.mk y.toArray) = ByteArray.mk (x ++ y).toArray := ByteArray.mk_append_mk x y

/-- The cells from 'off' on in block b are these. -/
def RowAt (w : World) (b off : Nat) (cs : List Value) : Prop := ∀ j (h : j < cs.length), w.cell? ⟨b, off + j, none⟩ = some cs[j]
theorem RowAt.at {w : World} {b off : Nat} {cs : List Value} (h : RowAt w b off cs) {j : Nat} {v : Value} (hj : cs[j]? = some v) : w.cell? ⟨b, off + j, none⟩ = some v := by
  obtain ⟨hl, rfl⟩ := List.getElem?_eq_some_iff.1 hj
  exact h j hl
theorem RowAt.lt {w : World} {b off : Nat} {cs : List Value} (h : RowAt w b off cs) (hn : 0 < cs.length) : b < w.heap.size := World.block_lt_of_cell? w _ (h 0 hn)
theorem RowAt.below {w w' : World} {B b off : Nat} {cs : List Value} (h : RowAt w b off cs) (hb : Below B w w') (hB : b < B) : RowAt w' b off cs := fun j hj => (hb.cell (p := ⟨b, off + j, none⟩) hB).trans (h j hj)
theorem RowAt.keep {w w' : World} {b off : Nat} {cs : List Value} (h : RowAt w b off cs) (hb : Below w.heap.size w w') : RowAt w' b off cs := by
  intro j hj
  have hc := h j hj
  exact (hb.cell (World.block_lt_of_cell? w _ hc)).trans hc

/-- A slice value that reads as these cells (elements of 'size' cells each). -/
def SlAt (w : World) (v : Value) (n : Nat) (cs : List Value) : Prop := ∃ (a : Option Addr) (c : Nat), v = .slice a n c ∧ n ≤ c ∧ c ≤ 9223372036854775807 ∧ (cs ≠ [] → ∃ b off, a = some ⟨b, off, none⟩ ∧ RowAt w b off cs)
theorem SlAt.keep {w w' : World} {v : Value} {n : Nat} {cs : List Value} (h : SlAt w v n cs) (hb : Below w.heap.size w w') : SlAt w' v n cs := by
  obtain ⟨a, c, rfl, h1, h2, h3⟩ := h
  exact ⟨a, c, rfl, h1, h2, fun hne => by obtain ⟨b, off, rfl, hr⟩ := h3 hne; exact ⟨b, off, rfl, hr.keep hb⟩⟩

/-- Numbers. -/
def ints (xs : List Int) : List Value := xs.map fun x => .int .i64 x
@[simp] theorem ints_length (xs : List Int) : (ints xs).length = xs.length := by simp [ints]
theorem ints_at (xs : List Int) (j : Nat) (h : j < xs.length) : (ints xs)[j]? = some (.int .i64 xs[j]) := by simp [ints, h]
def IntsAt (w : World) (v : Value) (xs : List Int) : Prop := SlAt w v xs.length (ints xs)

def wordB (n : Int) : Bool := decide (0 ≤ n) && decide (n ≤ 4294967295)

structure Call where
  num : Int
  args : List Int
def Call.okB (c : Call) : Bool := wordB c.num && (c.args.length == 4 && c.args.all wordB)
def CallAt (w : World) (v : Value) (c : Call) : Prop := ∃ s, v = .agg #[.int .i64 c.num, s] ∧ IntsAt w s c.args

def inB (n a b : Int) : Bool := decide (a ≤ n) && decide (n ≤ b)
theorem inB_word (n : Int) : inB n 0 4294967295 = wordB n := rfl
theorem all_take_succ {α : Type} (p : α → Bool) (xs : List α) (k : Nat) (h : k < xs.length) : (xs.take (k + 1)).all p = ((xs.take k).all p && p xs[k]) := by
  rw [List.take_succ_eq_append_getElem h, List.all_append]; simp

/-- A number in decimals. -/
def dec (n : Nat) : List UInt8 := Lib.decDigits n
structure Ins where
  op : Int
  k : Int
  yes : Int
  no : Int
deriving DecidableEq
def Ins.cells (x : Ins) : List Value := [.int .i64 x.op, .int .i64 x.k, .int .i64 x.yes, .int .i64 x.no]
def Ins.val (x : Ins) : Value := .agg #[.int .i64 x.op, .int .i64 x.k, .int .i64 x.yes, .int .i64 x.no]
def Ins.okB (x : Ins) (left : Int) : Bool :=
  if x.op = 1 then inB x.k 0 4 && x.yes == 0 && x.no == 0 && decide (0 ≤ left)
  else if x.op = 2 then inB x.k 0 4294967295 && x.yes == 0 && x.no == 0 && decide (0 ≤ left)
  else if x.op = 3 ∨ x.op = 4 then inB x.k 0 4294967295 && inB x.yes 0 6 && inB x.no 0 6 && decide (x.yes ≤ left) && decide (x.no ≤ left)
  else if x.op = 5 then inB x.k 0 left && x.yes == 0 && x.no == 0
  else if x.op = 6 then inB x.k 1 4 && x.yes == 0 && x.no == 0
  else false

end Go.Proofs.YtgogkpojeomabaaDoor
