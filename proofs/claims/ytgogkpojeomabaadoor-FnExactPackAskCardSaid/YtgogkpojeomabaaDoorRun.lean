/- A run of a program: the closure that does a place, and the loop. -/
import Derived.Test.YtgogkpojeomabaaDoorWays2
import Derived.Test.YtgogkpojeomabaaDoorRd
set_option linter.unusedVariables false
set_option linter.unusedSimpArgs false
namespace Go.Proofs.YtgogkpojeomabaaDoor
open Go.RowKit

/-- What a place does: the number at hand behind it, and how many places are left out. -/
def Ins.step (x : Ins) (hand : Int) (c : Call) : Int × Int :=
  if x.op = 1 then (c.field x.k, 0) else if x.op = 2 then (band hand x.k, 0)
  else if x.op = 3 then (hand, if holdsB 1 hand x.k then x.yes else x.no)
  else if x.op = 4 then (hand, if holdsB 3 hand x.k then x.yes else x.no)
  else if x.op = 5 then (hand, x.k) else (hand, 0)

theorem okB_bounds {x : Ins} {l : Int} (h : x.okB l = true) : x.known = true ∧ (1 ≤ x.op ∧ x.op ≤ 6) ∧ 0 ≤ x.k ∧ (x.op = 1 → x.k ≤ 4) := by
  obtain ⟨op, K, Y, N⟩ := x
  rcases (show op = 1 ∨ op = 2 ∨ op = 3 ∨ op = 4 ∨ op = 5 ∨ op = 6 ∨ ¬ (op = 1 ∨ op = 2 ∨ op = 3 ∨ op = 4 ∨ op = 5 ∨ op = 6) by omega) with rfl | rfl | rfl | rfl | rfl | rfl | ho
  rotate_left 6
  · exfalso
    unfold Ins.okB at h; simp only at h
    rw [if_neg (by omega), if_neg (by omega), if_neg (by omega), if_neg (by omega), if_neg (by omega)] at h
    cases h
  all_goals (simp [Ins.okB, Ins.known, Ins.straight, inB] at h ⊢; try omega)

set_option maxHeartbeats 4000000 in
set_option maxRecDepth 100000 in
theorem runDo_c (x : Ins) (l : Int) (hx : x.okB l = true) (hx6 : x.op ≠ 6) (c : Call) (s : Value) (bh bc : Nat) (hand : Int) (w0 w : World) (hh : 0 ≤ hand) (hc4 : c.args.length = 4)
    (hs : IntsAt w0 s c.args) (hb : Below w0.heap.size w0 w) (hg : w0.heap.size ≤ bh) (hne : bc ≠ bh)
    (hcell : w.cell? ⟨bh, 0, none⟩ = some (.int .i64 hand)) (hfree : w.frozen? ⟨bh, 0, none⟩ = false) (k0 : w.cell? ⟨bc, 0, none⟩ = some (.int .i64 c.num)) (k1 : w.cell? ⟨bc, 1, none⟩ = some s) :
    Calls Tryd.prog 84 #[x.val, .pointer (some ⟨bh, 0, none⟩), .pointer (some ⟨bc, 0, none⟩)] w fun e w' => e = .returned (.int .i64 (x.step hand c).2) ∧ (w'.cell? ⟨bh, 0, none⟩ = some (.int .i64 (x.step hand c).1) ∧ w'.frozen? ⟨bh, 0, none⟩ = false) ∧ Moved bh w w' := by
  obtain ⟨hkn, ⟨ho1, ho6⟩, hk0, hk4⟩ := okB_bounds hx
  have HB := Lib.hid (Below.refl w.heap.size w)
  have Hs := Lib.hid hs
  have Hb := Lib.hid hb
  have Hc4 := Lib.hid hc4
  have Hkn := Lib.hid hkn
  have hlb : bh < w.heap.size := World.block_lt_of_cell? w _ hcell
  have hlc : bc < w.heap.size := World.block_lt_of_cell? w _ k0
  clear hs hb hkn hx hc4
  obtain ⟨op, K, Y, N⟩ := x
  simp only at ho1 ho6 hk0 hk4 hx6
  simp only [Ins.val]
  rcases (show op = 1 ∨ op = 2 ∨ op = 3 ∨ op = 4 ∨ op = 5 by omega) with rfl | rfl | rfl | rfl | rfl
  · have m1 := loading_m_do
    go_enter Tryd.func84, Tryd.ntmps84
    go_wp2_with fail
    refine (doingOf_c ⟨1, K, Y, N⟩ _).mono ?_
    rintro e w1 ⟨he, hb1⟩
    rw [Hkn.out] at he
    obtain rfl : e = .returned (.tuple #[.iface 154 (.agg #[.int .i64 K]), .bool true]) := he
    have Hb1 := Lib.hid (bw_step (bw_alloc HB.out _) hb1)
    clear hb1
    have e1 : w1.cell? ⟨bh, 0, none⟩ = some (.int .i64 hand) := (Hb1.out.cell (p := ⟨bh, 0, none⟩) hlb).trans hcell
    have e2 : w1.cell? ⟨bc, 0, none⟩ = some (.int .i64 c.num) := (Hb1.out.cell (p := ⟨bc, 0, none⟩) hlc).trans k0
    have e3 : w1.cell? ⟨bc, 1, none⟩ = some s := (Hb1.out.cell (p := ⟨bc, 1, none⟩) hlc).trans k1
    go_wp2_with fail
    refine (loading_do K hand c _ w1 ⟨s, rfl, (Hs.out.keep Hb.out).keep Hb1.out⟩ (by omega) (hk4 trivial) Hc4.out).mono ?_
    rintro e w2 ⟨he, hb2⟩
    obtain ⟨L, hL⟩ : ∃ L : Int, L = 0 := ⟨_, rfl⟩
    obtain ⟨H2, hH⟩ : ∃ H2 : Int, H2 = c.field K := ⟨_, rfl⟩
    have Hf : Hid (Ins.step ⟨1, K, Y, N⟩ hand c = (H2, L)) := by show Ins.step ⟨1, K, Y, N⟩ hand c = (H2, L); rw [hL, hH]; rfl
    obtain rfl : e = .returned (.tuple #[.int .i64 H2, .int .i64 L]) := by rw [he, hL, hH]
    clear hL hH he
    have Hb2 := Lib.hid (bw_step Hb1.out hb2)
    clear hb2
    have g1 : w2.cell? ⟨bh, 0, none⟩ = some (.int .i64 hand) := (Hb2.out.cell (p := ⟨bh, 0, none⟩) hlb).trans hcell
    have g2 : w2.frozen? ⟨bh, 0, none⟩ = false := (Hb2.out.frozen (p := ⟨bh, 0, none⟩) hlb).trans hfree
    go_wp2
    go_ret
    rw [Hf.out]
    exact ⟨rfl, ⟨World.cell?_setCell_same _ _ _ g1, by simpa using g2⟩, (Moved.below Hb2.out hlb).trans (Moved.set _ _ _)⟩
  · have m1 := masking_m_do
    go_enter Tryd.func84, Tryd.ntmps84
    go_wp2_with fail
    refine (doingOf_c ⟨2, K, Y, N⟩ _).mono ?_
    rintro e w1 ⟨he, hb1⟩
    rw [Hkn.out] at he
    obtain rfl : e = .returned (.tuple #[.iface 156 (.agg #[.int .i64 K]), .bool true]) := he
    have Hb1 := Lib.hid (bw_step (bw_alloc HB.out _) hb1)
    clear hb1
    have e1 : w1.cell? ⟨bh, 0, none⟩ = some (.int .i64 hand) := (Hb1.out.cell (p := ⟨bh, 0, none⟩) hlb).trans hcell
    have e2 : w1.cell? ⟨bc, 0, none⟩ = some (.int .i64 c.num) := (Hb1.out.cell (p := ⟨bc, 0, none⟩) hlc).trans k0
    have e3 : w1.cell? ⟨bc, 1, none⟩ = some s := (Hb1.out.cell (p := ⟨bc, 1, none⟩) hlc).trans k1
    go_wp2_with fail
    refine (masking_do K hand c _ w1 ⟨s, rfl, (Hs.out.keep Hb.out).keep Hb1.out⟩ (by omega) (by omega)).mono ?_
    rintro e w2 ⟨he, hb2⟩
    obtain ⟨L, hL⟩ : ∃ L : Int, L = 0 := ⟨_, rfl⟩
    obtain ⟨H2, hH⟩ : ∃ H2 : Int, H2 = band hand K := ⟨_, rfl⟩
    have Hf : Hid (Ins.step ⟨2, K, Y, N⟩ hand c = (H2, L)) := by show Ins.step ⟨2, K, Y, N⟩ hand c = (H2, L); rw [hL, hH]; rfl
    obtain rfl : e = .returned (.tuple #[.int .i64 H2, .int .i64 L]) := by rw [he, hL, hH]
    clear hL hH he
    have Hb2 := Lib.hid (bw_step Hb1.out hb2)
    clear hb2
    have g1 : w2.cell? ⟨bh, 0, none⟩ = some (.int .i64 hand) := (Hb2.out.cell (p := ⟨bh, 0, none⟩) hlb).trans hcell
    have g2 : w2.frozen? ⟨bh, 0, none⟩ = false := (Hb2.out.frozen (p := ⟨bh, 0, none⟩) hlb).trans hfree
    go_wp2
    go_ret
    rw [Hf.out]
    exact ⟨rfl, ⟨World.cell?_setCell_same _ _ _ g1, by simpa using g2⟩, (Moved.below Hb2.out hlb).trans (Moved.set _ _ _)⟩
  · have m1 := looking_m_do
    go_enter Tryd.func84, Tryd.ntmps84
    go_wp2_with fail
    refine (doingOf_c ⟨3, K, Y, N⟩ _).mono ?_
    rintro e w1 ⟨he, hb1⟩
    rw [Hkn.out] at he
    obtain rfl : e = .returned (.tuple #[.iface 158 (.agg #[.int .i64 1, .int .i64 K, .int .i64 Y, .int .i64 N]), .bool true]) := he
    have Hb1 := Lib.hid (bw_step (bw_alloc HB.out _) hb1)
    clear hb1
    have e1 : w1.cell? ⟨bh, 0, none⟩ = some (.int .i64 hand) := (Hb1.out.cell (p := ⟨bh, 0, none⟩) hlb).trans hcell
    have e2 : w1.cell? ⟨bc, 0, none⟩ = some (.int .i64 c.num) := (Hb1.out.cell (p := ⟨bc, 0, none⟩) hlc).trans k0
    have e3 : w1.cell? ⟨bc, 1, none⟩ = some s := (Hb1.out.cell (p := ⟨bc, 1, none⟩) hlc).trans k1
    go_wp2_with fail
    refine (looking_do 1 K Y N hand c _ w1 ⟨s, rfl, (Hs.out.keep Hb.out).keep Hb1.out⟩ ).mono ?_
    rintro e w2 ⟨he, hb2⟩
    obtain ⟨L, hL⟩ : ∃ L : Int, L = (if holdsB 1 hand K then Y else N) := ⟨_, rfl⟩
    obtain ⟨H2, hH⟩ : ∃ H2 : Int, H2 = hand := ⟨_, rfl⟩
    have Hf : Hid (Ins.step ⟨3, K, Y, N⟩ hand c = (H2, L)) := by show Ins.step ⟨3, K, Y, N⟩ hand c = (H2, L); rw [hL, hH]; rfl
    obtain rfl : e = .returned (.tuple #[.int .i64 H2, .int .i64 L]) := by rw [he, hL, hH]
    clear hL hH he
    have Hb2 := Lib.hid (bw_step Hb1.out hb2)
    clear hb2
    have g1 : w2.cell? ⟨bh, 0, none⟩ = some (.int .i64 hand) := (Hb2.out.cell (p := ⟨bh, 0, none⟩) hlb).trans hcell
    have g2 : w2.frozen? ⟨bh, 0, none⟩ = false := (Hb2.out.frozen (p := ⟨bh, 0, none⟩) hlb).trans hfree
    go_wp2
    go_ret
    rw [Hf.out]
    exact ⟨rfl, ⟨World.cell?_setCell_same _ _ _ g1, by simpa using g2⟩, (Moved.below Hb2.out hlb).trans (Moved.set _ _ _)⟩
  · have m1 := looking_m_do
    go_enter Tryd.func84, Tryd.ntmps84
    go_wp2_with fail
    refine (doingOf_c ⟨4, K, Y, N⟩ _).mono ?_
    rintro e w1 ⟨he, hb1⟩
    rw [Hkn.out] at he
    obtain rfl : e = .returned (.tuple #[.iface 158 (.agg #[.int .i64 3, .int .i64 K, .int .i64 Y, .int .i64 N]), .bool true]) := he
    have Hb1 := Lib.hid (bw_step (bw_alloc HB.out _) hb1)
    clear hb1
    have e1 : w1.cell? ⟨bh, 0, none⟩ = some (.int .i64 hand) := (Hb1.out.cell (p := ⟨bh, 0, none⟩) hlb).trans hcell
    have e2 : w1.cell? ⟨bc, 0, none⟩ = some (.int .i64 c.num) := (Hb1.out.cell (p := ⟨bc, 0, none⟩) hlc).trans k0
    have e3 : w1.cell? ⟨bc, 1, none⟩ = some s := (Hb1.out.cell (p := ⟨bc, 1, none⟩) hlc).trans k1
    go_wp2_with fail
    refine (looking_do 3 K Y N hand c _ w1 ⟨s, rfl, (Hs.out.keep Hb.out).keep Hb1.out⟩ ).mono ?_
    rintro e w2 ⟨he, hb2⟩
    obtain ⟨L, hL⟩ : ∃ L : Int, L = (if holdsB 3 hand K then Y else N) := ⟨_, rfl⟩
    obtain ⟨H2, hH⟩ : ∃ H2 : Int, H2 = hand := ⟨_, rfl⟩
    have Hf : Hid (Ins.step ⟨4, K, Y, N⟩ hand c = (H2, L)) := by show Ins.step ⟨4, K, Y, N⟩ hand c = (H2, L); rw [hL, hH]; rfl
    obtain rfl : e = .returned (.tuple #[.int .i64 H2, .int .i64 L]) := by rw [he, hL, hH]
    clear hL hH he
    have Hb2 := Lib.hid (bw_step Hb1.out hb2)
    clear hb2
    have g1 : w2.cell? ⟨bh, 0, none⟩ = some (.int .i64 hand) := (Hb2.out.cell (p := ⟨bh, 0, none⟩) hlb).trans hcell
    have g2 : w2.frozen? ⟨bh, 0, none⟩ = false := (Hb2.out.frozen (p := ⟨bh, 0, none⟩) hlb).trans hfree
    go_wp2
    go_ret
    rw [Hf.out]
    exact ⟨rfl, ⟨World.cell?_setCell_same _ _ _ g1, by simpa using g2⟩, (Moved.below Hb2.out hlb).trans (Moved.set _ _ _)⟩
  · have m1 := jumping_m_do
    go_enter Tryd.func84, Tryd.ntmps84
    go_wp2_with fail
    refine (doingOf_c ⟨5, K, Y, N⟩ _).mono ?_
    rintro e w1 ⟨he, hb1⟩
    rw [Hkn.out] at he
    obtain rfl : e = .returned (.tuple #[.iface 160 (.agg #[.int .i64 K]), .bool true]) := he
    have Hb1 := Lib.hid (bw_step (bw_alloc HB.out _) hb1)
    clear hb1
    have e1 : w1.cell? ⟨bh, 0, none⟩ = some (.int .i64 hand) := (Hb1.out.cell (p := ⟨bh, 0, none⟩) hlb).trans hcell
    have e2 : w1.cell? ⟨bc, 0, none⟩ = some (.int .i64 c.num) := (Hb1.out.cell (p := ⟨bc, 0, none⟩) hlc).trans k0
    have e3 : w1.cell? ⟨bc, 1, none⟩ = some s := (Hb1.out.cell (p := ⟨bc, 1, none⟩) hlc).trans k1
    go_wp2_with fail
    refine (jumping_do K hand c _ w1 ⟨s, rfl, (Hs.out.keep Hb.out).keep Hb1.out⟩ ).mono ?_
    rintro e w2 ⟨he, hb2⟩
    obtain ⟨L, hL⟩ : ∃ L : Int, L = K := ⟨_, rfl⟩
    obtain ⟨H2, hH⟩ : ∃ H2 : Int, H2 = hand := ⟨_, rfl⟩
    have Hf : Hid (Ins.step ⟨5, K, Y, N⟩ hand c = (H2, L)) := by show Ins.step ⟨5, K, Y, N⟩ hand c = (H2, L); rw [hL, hH]; rfl
    obtain rfl : e = .returned (.tuple #[.int .i64 H2, .int .i64 L]) := by rw [he, hL, hH]
    clear hL hH he
    have Hb2 := Lib.hid (bw_step Hb1.out hb2)
    clear hb2
    have g1 : w2.cell? ⟨bh, 0, none⟩ = some (.int .i64 hand) := (Hb2.out.cell (p := ⟨bh, 0, none⟩) hlb).trans hcell
    have g2 : w2.frozen? ⟨bh, 0, none⟩ = false := (Hb2.out.frozen (p := ⟨bh, 0, none⟩) hlb).trans hfree
    go_wp2
    go_ret
    rw [Hf.out]
    exact ⟨rfl, ⟨World.cell?_setCell_same _ _ _ g1, by simpa using g2⟩, (Moved.below Hb2.out hlb).trans (Moved.set _ _ _)⟩

/-- A run from the place at hand on, some places being left out first: the verdict, and how many places it comes to. -/
def runAt (c : Call) : List Ins → Int → Nat → Int × Nat
  | [], _, _ => (0, 0)
  | _ :: rest, hand, s + 1 => runAt c rest hand s
  | x :: rest, hand, 0 => if x.op = 6 then (x.k, 1) else
      ((runAt c rest (x.step hand c).1 (x.step hand c).2.toNat).1, (runAt c rest (x.step hand c).1 (x.step hand c).2.toNat).2 + 1)
theorem runAt_skip (c : Call) (L : List Ins) (h : Int) (s : Nat) : s < L.length → runAt c L h s = runAt c (L.drop s) h 0 := by
  induction s generalizing L with
  | zero => intro _; rfl
  | succ s ih =>
    intro hs
    cases L with
    | nil => simp at hs
    | cons x L => rw [runAt, List.drop_succ_cons]; exact ih L (by simpa using hs)
theorem runAt_end {c : Call} {L : List Ins} {h : Int} {k : Nat} (hk : k < L.length) (h6 : L[k].op = 6) : runAt c (L.drop k) h 0 = (L[k].k, 1) := by
  rw [List.drop_eq_getElem_cons hk, runAt, if_pos h6]
theorem runAt_step {c : Call} {L : List Ins} {h : Int} {k : Nat} (hk : k < L.length) (h6 : L[k].op ≠ 6) (hn : k + 1 + (L[k].step h c).2.toNat < L.length) :
    runAt c (L.drop k) h 0 = ((runAt c (L.drop (k + 1 + (L[k].step h c).2.toNat)) (L[k].step h c).1 0).1, (runAt c (L.drop (k + 1 + (L[k].step h c).2.toNat)) (L[k].step h c).1 0).2 + 1) := by
  rw [List.drop_eq_getElem_cons hk, runAt, if_neg h6, runAt_skip _ _ _ _ (by simp; omega), List.drop_drop]

theorem okFrom_at {n : Nat} {xs : List Ins} : ∀ {i : Nat}, okFrom n i xs = true → ∀ k (hk : k < xs.length), xs[k].okB ((n : Int) - (i + k : Nat) - 2) = true := by
  induction xs with
  | nil => intro i _ k hk; simp at hk
  | cons x xs ih =>
    intro i h k hk
    rw [okFrom, Bool.and_eq_true] at h
    cases k with
    | zero => simpa using h.1
    | succ k =>
      have := ih h.2 k (by simpa using hk)
      rw [show i + 1 + k = i + (k + 1) by omega] at this
      exact this
theorem waysB_at {xs : List Ins} (h : waysB xs = true) (k : Nat) (hk : k < xs.length) : xs[k].okB ((xs.length : Int) - k - 2) = true := by
  unfold waysB at h
  rw [Bool.and_eq_true] at h
  have := okFrom_at h.2 k hk
  rwa [Nat.zero_add] at this
/-- Behind a place that is ok and no end the number at hand is a word, and there is a place. -/
theorem step_ok {x : Ins} {l : Int} (h : x.okB l = true) (h6 : x.op ≠ 6) (hand : Int) (hh : wordB hand = true) (c : Call) (hc : c.okB = true) :
    wordB (x.step hand c).1 = true ∧ 0 ≤ (x.step hand c).2 ∧ (x.step hand c).2 ≤ l := by
  obtain ⟨hkn, ⟨ho1, ho6⟩, hk0, hk4⟩ := okB_bounds h
  obtain ⟨op, K, Y, N⟩ := x
  simp only at ho1 ho6 hk0 hk4 h6
  rcases (show op = 1 ∨ op = 2 ∨ op = 3 ∨ op = 4 ∨ op = 5 by omega) with rfl | rfl | rfl | rfl | rfl
  · have hk5 := hk4 rfl
    simp only [Call.okB, Bool.and_eq_true, List.all_eq_true] at hc
    have hl : c.args.length = 4 := by simpa using hc.2.1
    simp [Ins.okB] at h
    refine ⟨?_, Int.le_refl _, h.2⟩
    show wordB (c.field K) = true
    unfold Call.field
    split
    · exact hc.1
    · have hlt : (K - 1).toNat < c.args.length := by omega
      rw [List.getD_eq_getElem?_getD, List.getElem?_eq_getElem hlt]
      exact hc.2.2 _ (List.getElem_mem hlt)
  · simp [Ins.okB] at h
    refine ⟨?_, Int.le_refl _, h.2⟩
    show wordB (band hand K) = true
    have h1 := h.1.1.1
    simp [inB, wordB] at h1 hh ⊢
    have := band_bound hh.1 (by omega) h1.1 (by omega)
    omega
  · simp [Ins.okB, inB] at h
    refine ⟨hh, ?_⟩
    show 0 ≤ (if holdsB 1 hand K then Y else N) ∧ (if holdsB 1 hand K then Y else N) ≤ l
    split <;> omega
  · simp [Ins.okB, inB] at h
    refine ⟨hh, ?_⟩
    show 0 ≤ (if holdsB 3 hand K then Y else N) ∧ (if holdsB 3 hand K then Y else N) ≤ l
    split <;> omega
  · simp [Ins.okB, inB] at h
    refine ⟨hh, ?_⟩
    show 0 ≤ K ∧ K ≤ l
    omega

def RunRel (w : World) (c : Call) (s : Value) (xs : List Ins) (p cnt : Value) (wr : World) : Prop :=
  ∃ (k n : Nat) (h : Int), k < xs.length ∧ p = .int .i64 k ∧ cnt = .int .i64 n ∧ 1 ≤ n ∧ n ≤ k + 1 ∧ wordB h = true ∧ wr.cell? ⟨w.heap.size + 1, 0, none⟩ = some (.int .i64 h) ∧ wr.frozen? ⟨w.heap.size + 1, 0, none⟩ = false ∧
    wr.cell? ⟨w.heap.size, 0, none⟩ = some (.int .i64 c.num) ∧ wr.cell? ⟨w.heap.size, 1, none⟩ = some s ∧ Below w.heap.size w wr ∧
    runAt c xs 0 0 = ((runAt c (xs.drop k) h 0).1, (runAt c (xs.drop k) h 0).2 + (n - 1))
set_option maxHeartbeats 4000000 in
set_option maxRecDepth 100000 in
theorem runCode_c (xs : List Ins) (v : Value) (c : Call) (cv : Value) (w : World) (hv : InsAt w v xs) (hc : CallAt w cv c) (hok : waysB xs = true) (hcok : c.okB = true) :
    Calls Tryd.prog 54 #[v, cv] w fun e w' => e = .returned (.tuple #[.int .i64 (runAt c xs 0 0).1, .int .i64 (runAt c xs 0 0).2]) ∧ Below w.heap.size w w' := by
  have HB := Lib.hid (Below.refl w.heap.size w)
  have hlen : 1 ≤ xs.length ∧ xs.length ≤ 160 := by simp [waysB] at hok; omega
  obtain ⟨s, rfl, hs⟩ := hc
  have Hs := Lib.hid hs
  have Hok := Lib.hid hok
  have Hc := Lib.hid hcok
  have hc4 : Hid (c.args.length = 4) := by show c.args.length = 4; simp [Call.okB] at hcok; exact hcok.2.1
  obtain ⟨a, cp, rfl, hle, hcap, hr⟩ := hv
  obtain ⟨b, off, rfl, hrow⟩ := hr (by intro h; have := congrArg List.length h; rw [insCells_length] at this; simp at this; omega)
  have hbl : b < w.heap.size := hrow.lt (by rw [insCells_length]; omega)
  obtain ⟨hl1, hl2⟩ := hlen
  clear hr hok hcok hs
  go_enter Tryd.func54, Tryd.ntmps54
  go_wp2
  go_loopw [8, 9] (RunRel w c s xs) (fun p _ _ => xs.length - (intOf p).toNat)
  case atStart =>
    refine ⟨0, 1, 0, by omega, rfl, rfl, Nat.le_refl _, Nat.le_refl _, rfl, ?_, ?_, ?_, ?_, bw_alloc (bw_alloc HB.out _) _, rfl⟩ <;> go_simp
  case round =>
    obtain ⟨k, n, h, hk, rfl, rfl, hn1, hn2, hh, e1, e2, e3, e4, hbw, hrun⟩ := hrel
    obtain ⟨c0, c1, c2, c3⟩ := InsAt.cell (hrow.below hbw hbl) k hk
    have Hrun := Lib.hid hrun
    have Hbw := Lib.hid hbw
    have Hh := Lib.hid hh
    have Hx := Lib.hid (waysB_at Hok.out k hk)
    have Hend := Lib.hid (runAt_end (c := c) (L := xs) (h := h) hk)
    have Hstep := Lib.hid (runAt_step (c := c) (L := xs) (h := h) hk)
    clear hrun hbw hh
    have hwb : 0 ≤ h := by have := Hh.out; simp [wordB] at this; omega
    generalize hx : xs[k] = x at *
    clear hx
    by_cases h6 : x.op = 6
    · have b6 : (x.op != 6) = false := by rw [h6]; rfl
      have Hf : Hid (runAt c xs 0 0 = (x.k, n)) := by
        show runAt c xs 0 0 = (x.k, n)
        rw [Hrun.out, Hend.out h6]
        exact Prod.ext rfl (by show 1 + (n - 1) = n; omega)
      clear h6
      go_wp2
      go_ret2
      rw [Hf.out]
      exact ⟨rfl, Hbw.out⟩
    · have b6 : (x.op != 6) = true := by simpa using h6
      have Hno := Lib.hid h6
      clear h6
      obtain ⟨q1, q2, q3⟩ := step_ok Hx.out Hno.out h Hh.out c Hc.out
      have Hq1 := Lib.hid q1
      clear q1
      obtain ⟨L, hL⟩ : ∃ L : Nat, (x.step h c).2 = L := ⟨(x.step h c).2.toNat, by omega⟩
      rw [hL] at q2 q3
      have HL := Lib.hid hL
      clear hL
      go_wp2_with fail
      refine (runDo_c x _ Hx.out Hno.out c s (w.heap.size + 1) w.heap.size h w wr hwb hc4.out Hs.out Hbw.out (by omega) (by omega) e1 e2 e3 e4).mono ?_
      rintro e w1 ⟨he, ⟨g1, g2⟩, hmv⟩
      rw [HL.out] at he
      subst he
      have f3 : w1.cell? ⟨w.heap.size, 0, none⟩ = some (.int .i64 c.num) := (hmv.grown.cell e3 (by simp))
      have f4 : w1.cell? ⟨w.heap.size, 1, none⟩ = some s := (hmv.grown.cell e4 (by simp))
      have Hb1 := Lib.hid (bw_grown Hbw.out hmv.grown (by simp))
      clear hmv e1 e2 e3 e4 c0 c1 c2 c3
      go_wp2
      go_roundw
      case rel =>
        refine ⟨k + 1 + L, n + 1, (x.step h c).1, by omega, by go_num, by go_num, by omega, by omega, Hq1.out, g1, g2, f3, f4, Hb1.out, ?_⟩
        have h9 := Hstep.out Hno.out (by rw [HL.out]; simp; omega)
        rw [HL.out, Int.toNat_natCast] at h9
        rw [Hrun.out, h9]
        exact Prod.ext rfl (by show _ + 1 + (n - 1) = _ + (n + 1 - 1); omega)
      case measure => simp [intOf]; omega

end Go.Proofs.YtgogkpojeomabaaDoor
