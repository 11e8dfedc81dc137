/- The reader that draws: l1Open, pick. -/
import Derived.Test.YtgogkpojeomabaaDoorBlk
import Derived.IntWalk
import Derived.Deep.DeepCutAuto
import Derived.Deep.RegionHeld3
set_option linter.unusedVariables false
set_option linter.unusedSimpArgs false
namespace Go.Proofs.YtgogkpojeomabaaDoor
open Go.RowKit

/-- A slice value that reads as these bytes. -/
def byteVals (bs : List Nat) : List Value := bs.map fun x : Nat => .int .u8 (x : Int)
@[simp] theorem byteVals_length (bs : List Nat) : (byteVals bs).length = bs.length := by simp [byteVals]
theorem byteVals_at (bs : List Nat) (j : Nat) (h : j < bs.length) : (byteVals bs)[j]? = some (.int .u8 (bs[j] : Int)) := by simp [byteVals, h]
def BytesAt (w : World) (v : Value) (bs : List Nat) : Prop := SlAt w v bs.length (byteVals bs)
/-- A reader that draws: where it came from, what it reads, its block. -/
structure Drw where
  w0 : World
  sv : Value
  bs : List Nat
  g : Nat
/-- It has drawn p times. -/
structure Drw.St (D : Drw) (p : Nat) (w : World) : Prop where
  src : BytesAt D.w0 D.sv D.bs
  len : D.bs.length ≤ 2000
  small : ∀ b ∈ D.bs, b < 256
  low : D.w0.heap.size ≤ D.g
  blk : Blk w D.g #[D.sv, .int .i64 p] 114
  below : Below D.w0.heap.size D.w0 w
theorem bw_drewN0 {B : Nat} {a w : World} (h : Below B a w) (n : Nat) : Below B a (w.drewN n) := ⟨h.os, h.tape, h.output, h.size, h.block⟩
/-- What a function that draws leaves: at most N draws more, one block written, new memory. -/
def Drawn (D : Drw) (p N : Nat) (w : World) (Q : Value → World → Prop) (e : Ending) (w' : World) : Prop :=
  ∃ v p', e = .returned v ∧ p' ≤ p + N ∧ D.St p' w' ∧ w.grownBy w' (some D.g) ∧ Q v w'
def Drw.ptr (D : Drw) : Value := .pointer (some ⟨D.g, 0, none⟩)
def NatBelow (n : Nat) (v : Value) (_ : World) : Prop := ∃ m : Nat, m < n ∧ v = .int .i64 m
theorem Drw.St.step {D : Drw} {p : Nat} {w w' : World} (h : D.St p w) (hg : w.grownBy w' (some D.g)) (hb : Blk w' D.g #[D.sv, .int .i64 p] 114) : D.St p w' :=
  ⟨h.src, h.len, h.small, h.low, hb, bw_gb h.below hg h.below.size (fun g e => by injection e with e; subst e; exact h.low)⟩
theorem Drw.St.new {D : Drw} {p : Nat} {w w' : World} (h : D.St p w) (hb : Below w.heap.size w w') : D.St p w' := h.step (gb_below hb _) (h.blk.below hb)
theorem Drw.St.lt {D : Drw} {p : Nat} {w : World} (h : D.St p w) : D.g < w.heap.size := h.blk.lt
theorem Drw.St.drewN {D : Drw} {p : Nat} {w : World} (h : D.St p w) (n : Nat) : D.St p (w.drewN n) := ⟨h.src, h.len, h.small, h.low, h.blk, bw_drewN0 h.below n⟩
theorem Drw.St.drew {D : Drw} {p : Nat} {w : World} (h : D.St p w) : D.St p w.drew := ⟨h.src, h.len, h.small, h.low, h.blk, bw_drewN0 h.below 1⟩
theorem Drawn.int {D : Drw} {p q N n m : Nat} {w w' : World} (h : m < n) (hq : q ≤ p + N) (h1 : D.St q w') (h2 : w.grownBy w' (some D.g)) : Drawn D p N w (NatBelow n) (.returned (.int .i64 m)) w' := ⟨_, q, rfl, hq, h1, h2, m, h, rfl⟩
theorem pick_left {D : Drw} {p : Nat} {w : World} (h : D.St p w) (q : Nat) : D.St q (w.setCell ⟨D.g, 1, none⟩ (.int .i64 q)) ∧ w.grownBy (w.setCell ⟨D.g, 1, none⟩ (.int .i64 q)) (some D.g) := by
  have hg : w.grownBy (w.setCell ⟨D.g, 1, none⟩ (.int .i64 q)) (some D.g) := gb_set (World.grownBy.refl w _) (.inr rfl) _
  refine ⟨⟨h.src, h.len, h.small, h.low, h.blk.set _, bw_gb h.below hg h.below.size (fun g e => by injection e with e; subst e; exact h.low)⟩, hg⟩

theorem xor_nat (a b : Nat) (ha : a < 9223372036854775808) (hb : b < 9223372036854775808) : bits .xor .i64 (a : Int) (b : Int) = ((a ^^^ b : Nat) : Int) := by
  have hx : a ^^^ b < 2 ^ 63 := Nat.xor_lt_two_pow (by omega) (by omega)
  show IntKind.i64.wrap ((BitVec.ofInt 64 (a : Int) ^^^ BitVec.ofInt 64 (b : Int)).toNat : Int) = _
  rw [BitVec.toNat_xor, BitVec.ofInt_natCast, BitVec.ofInt_natCast, BitVec.toNat_ofNat, BitVec.toNat_ofNat, Nat.mod_eq_of_lt (by omega), Nat.mod_eq_of_lt (by omega), IntKind.wrap_i64]
  omega

set_option maxHeartbeats 2000000 in
set_option maxRecDepth 100000 in
theorem pick_c (D : Drw) (p n : Nat) (w : World) (h : D.St p w) (hp : p ≤ 1000000000) (hn : 1 ≤ n) (hn2 : n ≤ 1000000000) :
    Calls Tryd.prog 50 #[.pointer (some ⟨D.g, 0, none⟩), .int .i64 n] w (Drawn D p 1 w (NatBelow n)) := by
  obtain ⟨H1, H2⟩ := pick_left h (p + 1)
  have Hp := Lib.hid H1
  have Hg := Lib.hid H2
  clear H1 H2
  have Hsm := Lib.hid h.small
  have hl := h.len
  have c0 := h.blk.cell 0 rfl
  have c1 := h.blk.cell 1 rfl
  have f0 := h.blk.free 0
  have f1 := h.blk.free 1
  obtain ⟨a, cp, hsv, hle, hcap, hr⟩ := h.src
  have Hr := Lib.hid hr
  have Hbel := Lib.hid h.below
  clear hr h
  obtain ⟨w0, sv, bs, g⟩ := D
  simp only at hsv hl hle hcap c0 c1 f0 f1
  subst hsv
  have fin : ∀ m : Nat, m < n → ∀ W, W = w.setCell ⟨g, 1, none⟩ (.int .i64 ((p : Int) + 1)) → Drawn ⟨w0, .slice a bs.length cp, bs, g⟩ p 1 w (NatBelow n) (.returned (.int .i64 m)) W := by
    intro m hm W hW
    refine ⟨_, p + 1, rfl, Nat.le_refl _, ?_, ?_, m, hm, rfl⟩
    · rw [hW]; exact Hp.out
    · rw [hW]; exact Hg.out
  have Fin := Lib.hid fin
  clear fin
  by_cases h0 : bs = []
  · subst h0
    have b1 : ((n : Int) < 1) = False := eq_false (by omega)
    go_enter Tryd.func50, Tryd.ntmps50
    go_wp2
    go_ret
    exact Fin.out 0 (by omega) _ rfl
  · have hpos : 0 < bs.length := List.length_pos_iff.2 h0
    obtain ⟨b, off, rfl, hrow⟩ := Hr.out (by intro e; apply h0; simpa [byteVals] using e)
    have hbl : b < w0.heap.size := hrow.lt (by simpa using hpos)
    have hbg : b ≠ g := by
      have := Hbel.out.size
      intro e
      have hlow := Hp.out.low
      simp only at hlow
      omega
    have byte : ∀ k (hk : k < bs.length), w.cell? ⟨b, off + k, none⟩ = some (.int .u8 (bs[k] : Int)) := fun k hk => by
      rw [Hbel.out.cell (p := ⟨b, off + k, none⟩) hbl]; exact hrow.at (byteVals_at bs k hk)
    have Byte := Lib.hid byte
    clear byte hrow
    have e0 : ((bs.length : Int) == 0) = false := by rw [beq_eq_false_iff_ne]; omega
    have b1 : ((n : Int) < 1) = False := eq_false (by omega)
    by_cases hlt : p < bs.length
    · have cb := Byte.out p hlt
      have hb256 := Hsm.out bs[p] (List.getElem_mem hlt)
      go_enter Tryd.func50, Tryd.ntmps50
      go_wp2
      go_ret
      have e : ((bs[p] : Int) % (n : Int)) = ((bs[p] % n : Nat) : Int) := by simp
      rw [e]
      exact Fin.out (bs[p] % n) (Nat.mod_lt _ (by omega)) _ rfl
    · obtain ⟨q, hq⟩ : ∃ q, q = p % bs.length := ⟨_, rfl⟩
      obtain ⟨B, hB⟩ : ∃ B, B = p * 7 + 3 := ⟨_, rfl⟩
      obtain ⟨q2, hq2⟩ : ∃ q2, q2 = B % bs.length := ⟨_, rfl⟩
      have hql : q < bs.length := by rw [hq]; exact Nat.mod_lt _ hpos
      have hq2l : q2 < bs.length := by rw [hq2]; exact Nat.mod_lt _ hpos
      have cb := Byte.out q hql
      have cb2 := Byte.out q2 hq2l
      have hu := Hsm.out bs[q] (List.getElem_mem hql)
      have hv := Hsm.out bs[q2] (List.getElem_mem hq2l)
      generalize bs[q] = u at *
      generalize bs[q2] = v at *
      obtain ⟨d, hd⟩ : ∃ d, d = p / bs.length := ⟨_, rfl⟩
      have hdp : d ≤ p := by rw [hd]; exact Nat.div_le_self _ _
      have m1 : (p : Int).tmod (bs.length : Int) = (q : Int) := by rw [hq]; rfl
      have w1 : IntKind.i64.wrap ((p : Int) * 7) = (p : Int) * 7 := IntWalk.i64_in _ (by omega)
      have w2 : IntKind.i64.wrap ((p : Int) * 7 + 3) = (B : Int) := by rw [hB]; exact IntWalk.i64_in _ (by omega)
      have m2 : (B : Int).tmod (bs.length : Int) = (q2 : Int) := by rw [hq2]; rfl
      have w3 : IntKind.i64.wrap ((u : Int) * 131) = (u : Int) * 131 := IntWalk.i64_in _ (by omega)
      have w4 : IntKind.i64.wrap ((v : Int) * 1117) = (v : Int) * 1117 := IntWalk.i64_in _ (by omega)
      have w5 : IntKind.i64.wrap ((u : Int) * 131 + (v : Int) * 1117) = (u : Int) * 131 + (v : Int) * 1117 := IntWalk.i64_in _ (by omega)
      have w6 : IntKind.i64.wrap ((p : Int) * 29) = (p : Int) * 29 := IntWalk.i64_in _ (by omega)
      have w7 : IntKind.i64.wrap ((u : Int) * 131 + (v : Int) * 1117 + (p : Int) * 29) = (u : Int) * 131 + (v : Int) * 1117 + (p : Int) * 29 := IntWalk.i64_in _ (by omega)
      have w8 : (p : Int).tdiv (bs.length : Int) = (d : Int) := by rw [hd]; rfl
      have w9 : IntKind.i64.wrap ((d : Int) * 53) = (d : Int) * 53 := IntWalk.i64_in _ (by omega)
      obtain ⟨X, hX⟩ : ∃ X, X = u * 131 + v * 1117 + p * 29 + d * 53 := ⟨_, rfl⟩
      have w10 : IntKind.i64.wrap ((u : Int) * 131 + (v : Int) * 1117 + (p : Int) * 29 + (d : Int) * 53) = (X : Int) := by rw [hX]; exact IntWalk.i64_in _ (by omega)
      have hXb : X ≤ 100000000000 := by rw [hX]; omega
      have xr : bits .xor .i64 (X : Int) ((X : Int) / 64) = ((X ^^^ (X / 64) : Nat) : Int) := xor_nat X (X / 64) (by omega) (by omega)
      have hY : X ^^^ (X / 64) < 2 ^ 62 := Nat.xor_lt_two_pow (by omega) (by omega)
      generalize X ^^^ (X / 64) = Y at *
      have i1 : (q : Int) < bs.length := by omega
      have i2 : (q2 : Int) < bs.length := by omega
      have i0 : (0 : Int) ≤ (q : Int) := by omega
      have i3 : (0 : Int) ≤ (q2 : Int) := by omega
      have ne1 : ((bs.length : Int) = 0) = False := eq_false (by omega)
      have hlt2 : ((p : Int) < bs.length) = False := eq_false (by omega)
      have hY2 : (Y : Int) ≤ 4611686018427387904 := by omega
      have W2 := Lib.hid w2
      have M2 := Lib.hid m2
      have Xr := Lib.hid xr
      have HX := Lib.hid hX
      clear hq hB hq2 hd hX hlt hY
      go_enter Tryd.func50, Tryd.ntmps50
      go_upto_region 7 with fail
      go_quiet (fail)
      go_wp2
      go_ret
      have e : ((Y : Int) % (n : Int)) = ((Y % n : Nat) : Int) := by simp
      rw [e]
      exact Drawn.int (Nat.mod_lt _ (by omega)) (Nat.le_refl _) (Hp.out.drewN _) (gb_drewN Hg.out _)

/-- Counting p from the code's own, a new reader. -/
def OpenPost (w : World) (e : Ending) (w' : World) : Prop := ∃ (D : Drw) (p : Nat), e = .returned D.ptr ∧ D.w0 = w ∧ p = 0 ∧ D.St p w' ∧ Below w.heap.size w w'
theorem BytesAt.take {w : World} {a : Option Addr} {n c : Nat} {bs : List Nat} (h : BytesAt w (.slice a n c) bs) (k : Nat) (hk : k ≤ n) : BytesAt w (.slice a k c) (bs.take k) := by
  obtain ⟨a', c', he, h1, h2, h3⟩ := h
  injection he with e1 e2 e3
  subst e1 e3
  have hb : bs.length = n := by omega
  refine ⟨a, c, by rw [List.length_take]; congr 1; omega, by rw [List.length_take]; omega, h2, fun hne => ?_⟩
  obtain ⟨b, off, rfl, hr⟩ := h3 (fun e => hne (by unfold byteVals at e ⊢; rw [List.map_eq_nil_iff] at e; rw [e]; simp))
  refine ⟨b, off, rfl, fun j hj => ?_⟩
  have hj2 : j < bs.length := by simp [byteVals] at hj; omega
  rw [hr j (by simpa using hj2)]
  simp [byteVals]

set_option maxHeartbeats 2000000 in
set_option maxRecDepth 100000 in
theorem l1Open_c (w : World) (v : Value) (bs : List Nat) (hv : BytesAt w v bs) (hs : ∀ b ∈ bs, b < 256) :
    Calls Tryd.prog 48 #[v] w (OpenPost w) := by
  have HB := Lib.hid (Below.refl w.heap.size w)
  have Hv := Lib.hid hv
  have Hs := Lib.hid hs
  obtain ⟨a, c, rfl, hle, hcap, hr⟩ := hv
  clear hr hs
  by_cases h0 : 2000 < bs.length
  · go_enter Tryd.func48, Tryd.ntmps48
    go_wp2
    go_ret
    refine ⟨⟨w, .slice a 2000 c, bs.take 2000, w.heap.size⟩, 0, rfl, rfl, rfl, ⟨Hv.out.take 2000 (by omega), by simp; omega, fun b hb => Hs.out b (List.mem_of_mem_take hb), Nat.le_refl _, Blk.new _ _ _, bw_alloc HB.out _⟩, bw_alloc HB.out _⟩
  · go_enter Tryd.func48, Tryd.ntmps48
    go_wp2
    go_ret
    refine ⟨⟨w, .slice a bs.length c, bs, w.heap.size⟩, 0, rfl, rfl, rfl, ⟨Hv.out, Nat.le_of_not_lt h0, Hs.out, Nat.le_refl _, Blk.new _ _ _, bw_alloc HB.out _⟩, bw_alloc HB.out _⟩
end Go.Proofs.YtgogkpojeomabaaDoor
