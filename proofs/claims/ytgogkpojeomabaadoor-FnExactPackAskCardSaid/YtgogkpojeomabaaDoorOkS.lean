/- The reference's CodeOk, l3Run, CodeRun. -/
import Derived.Test.YtgogkpojeomabaaDoorWrite
set_option linter.unusedVariables false
set_option linter.unusedSimpArgs false
namespace Go.Proofs.YtgogkpojeomabaaDoor
open Go.RowKit

theorem okFrom_false {xs : List Ins} {n k : Nat} (hk : k < xs.length) (h : xs[k].okB ((n : Int) - k - 2) = false) : okFrom n k (xs.drop k) = false := by
  rw [okFrom_step hk, h]; rfl

set_option maxHeartbeats 2000000 in
set_option maxRecDepth 100000 in
theorem codeOk_s (xs : List Ins) (v : Value) (w : World) (hv : InsAt w v xs) (hlen : xs.length ≤ 1000000) :
    Calls Tryd.prog 27 #[v] w fun e w' => e = .returned (.bool (codeOkB xs)) ∧ Below w.heap.size w w' := by
  have HB := Lib.hid (Below.refl w.heap.size w)
  have Hv := Lib.hid hv
  obtain ⟨a, cp, rfl, hle, hcap, hr⟩ := hv
  go_enter Tryd.func27, Tryd.ntmps27
  go_wp2
  go_loopw [3] (fun i wr => ∃ k : Nat, k ≤ xs.length ∧ i = .int .i64 k ∧ okFrom xs.length 0 xs = okFrom xs.length k (xs.drop k) ∧ Below w.heap.size w wr) (fun i _ => xs.length - (intOf i).toNat)
  case atStart => exact ⟨0, Nat.zero_le _, rfl, rfl, HB.out⟩
  case round =>
    obtain ⟨k, hk, rfl, hok, hbw⟩ := hrel
    have Hok := Lib.hid hok
    have Hbw := Lib.hid hbw
    clear hok hbw
    by_cases hlt : k < xs.length
    · obtain ⟨b, off, rfl, hrow⟩ := hr (by intro h; have := congrArg List.length h; rw [insCells_length] at this; simp at this; omega)
      obtain ⟨c0, c1, c2, c3⟩ := InsAt.cell (hrow.below Hbw.out (hrow.lt (by rw [insCells_length]; omega))) k hlt
      have Hst := Lib.hid (okFrom_step (n := xs.length) (k := k) (xs := xs) hlt)
      generalize hx : xs[k] = x at c0 c1 c2 c3
      rw [hx] at Hst
      clear hx
      rcases hb : x.okB ((xs.length : Int) - k - 2) with _ | _
      all_goals
        have Hb := Lib.hid hb
        clear hb
        go_wp2_with fail
        refine (insOk_s x k xs.length _ (by omega) (by omega) (by omega) (by omega)).mono ?_
        rintro e w1 ⟨he, hb1⟩
        rw [Hb.out] at he
        subst he
      · have hf : Hid (codeOkB xs = false) := by show codeOkB xs = false; unfold codeOkB waysB; rw [Hok.out, Hst.out, Hb.out]; simp
        go_wp2
        go_ret
        rw [hf.out]
        exact ⟨rfl, bw_step Hbw.out hb1⟩
      · go_wp2
        go_roundw
        case rel => exact ⟨k + 1, by omega, by go_num, by rw [Hok.out, Hst.out, Hb.out]; rfl, bw_step Hbw.out hb1⟩
        case measure => simp [intOf]; omega
    · have Hall : Hid (okFrom xs.length 0 xs = true) := by show okFrom xs.length 0 xs = true; rw [Hok.out, okFrom_end (by omega)]
      rcases hi : inB (xs.length : Int) 1 160 with _ | _
      · have hf : Hid (codeOkB xs = false) := by show codeOkB xs = false; unfold codeOkB waysB; simp [inB] at hi; simp; omega
        have Hi := Lib.hid hi
        clear hi
        go_wp2_with fail
        refine (l1In_c _ _ _ _).mono ?_
        rintro e w1 ⟨he, rfl⟩
        rw [Hi.out] at he
        subst he
        go_wp2
        go_ret
        rw [hf.out]
        exact ⟨rfl, Hbw.out⟩
      · have hw : Hid (waysB xs = true) := by show waysB xs = true; unfold waysB; rw [Hall.out]; simp [inB] at hi; simp; omega
        have Hi := Lib.hid hi
        clear hi
        go_wp2_with fail
        refine (l1In_c _ _ _ _).mono ?_
        rintro e w1 ⟨he, rfl⟩
        rw [Hi.out] at he
        subst he
        go_wp2_with fail
        refine (l3Write_c xs _ _ (Hv.out.keep Hbw.out) hw.out).mono ?_
        rintro e w2 ⟨rfl, hb2⟩
        have Hb2 := Lib.hid (bw_step Hbw.out hb2)
        clear hb2
        go_wp2
        go_ret
        refine ⟨?_, Hb2.out⟩
        have hf : codeOkB xs = decide ((codeText xs).length ≤ 2600) := by unfold codeOkB; rw [hw.out]; rfl
        rw [hf]
        simp
        omega

def RunRelS (w : World) (c : Call) (s : Value) (xs : List Ins) (h0 p cnt : Value) (wr : World) : Prop :=
  ∃ (k n : Nat) (h : Int), k < xs.length ∧ p = .int .i64 k ∧ cnt = .int .i64 n ∧ h0 = .int .i64 h ∧ 1 ≤ n ∧ n ≤ k + 1 ∧ wordB h = true ∧
    wr.cell? ⟨w.heap.size, 0, none⟩ = some (.int .i64 c.num) ∧ wr.cell? ⟨w.heap.size, 1, none⟩ = some s ∧ Below w.heap.size w wr ∧
    runAt c xs 0 0 = ((runAt c (xs.drop k) h 0).1, (runAt c (xs.drop k) h 0).2 + (n - 1))
theorem holds1 (h k : Int) : holdsB 1 h k = (h == k) := rfl
theorem holds3 (h k : Int) : holdsB 3 h k = decide (k < h) := rfl

theorem run_next {xs : List Ins} {c : Call} {h : Int} {k : Nat} (hk : k < xs.length) (hok : xs[k].okB ((xs.length : Int) - k - 2) = true) (h6 : xs[k].op ≠ 6) (hh : wordB h = true) (hc : c.okB = true) (h' : Int) (L : Nat) (hst : xs[k].step h c = (h', (L : Int))) :
    wordB h' = true ∧ k + 1 + L < xs.length ∧ runAt c (xs.drop k) h 0 = ((runAt c (xs.drop (k + 1 + L)) h' 0).1, (runAt c (xs.drop (k + 1 + L)) h' 0).2 + 1) := by
  obtain ⟨q1, q2, q3⟩ := step_ok hok h6 h hh c hc
  have hs := runAt_step (c := c) (L := xs) (h := h) hk h6
  rw [hst] at q1 q2 q3 hs
  simp only at q1 q2 q3 hs
  rw [Int.toNat_natCast] at hs
  have hl : k + 1 + L < xs.length := by omega
  exact ⟨q1, hl, hs hl⟩
set_option maxHeartbeats 4000000 in
set_option maxRecDepth 100000 in
theorem l3Run_c (xs : List Ins) (v : Value) (c : Call) (cv : Value) (w : World) (hv : InsAt w v xs) (hc : CallAt w cv c) (hok : waysB xs = true) (hcok : c.okB = true) :
    Calls Tryd.prog 60 #[v, cv] w fun e w' => e = .returned (.tuple #[.int .i64 (runAt c xs 0 0).1, .int .i64 (runAt c xs 0 0).2]) ∧ Below w.heap.size w w' := by
  have HB := Lib.hid (Below.refl w.heap.size w)
  have hlen : 1 ≤ xs.length ∧ xs.length ≤ 160 := by simp [waysB] at hok; omega
  obtain ⟨s, rfl, hs⟩ := hc
  have Hs := Lib.hid hs
  have Hok := Lib.hid hok
  have Hc := Lib.hid hcok
  have hc4 : Hid (c.args.length = 4) := by show c.args.length = 4; simp [Call.okB] at hcok; exact hcok.2.1
  obtain ⟨a, cp, rfl, hle, hcap, hr⟩ := hv
  obtain ⟨b, off, rfl, hrow⟩ := hr (by intro h; have := congrArg List.length h; rw [insCells_length] at this; simp at this; omega)
  have hbl : b < w.heap.size := hrow.lt (by rw [insCells_length]; omega)
  obtain ⟨hl1, hl2⟩ := hlen
  clear hr hok hcok hs
  go_enter Tryd.func60, Tryd.ntmps60
  go_wp2
  go_loopw [6, 7, 8, 9] (fun h p cnt _ wr => RunRelS w c s xs h p cnt wr) (fun _ p _ _ _ => xs.length - (intOf p).toNat)
  case atStart =>
    refine ⟨0, 1, 0, by omega, rfl, rfl, rfl, Nat.le_refl _, Nat.le_refl _, rfl, ?_, ?_, bw_alloc HB.out _, rfl⟩ <;> go_simp
  case round =>
    obtain ⟨k, n, h, hk, rfl, rfl, rfl, hn1, hn2, hh, e3, e4, hbw, hrun⟩ := hrel
    obtain ⟨c0, c1, c2, c3⟩ := InsAt.cell (hrow.below hbw hbl) k hk
    have Hrun := Lib.hid hrun
    have Hbw := Lib.hid hbw
    have Hh := Lib.hid hh
    have Hx := Lib.hid (waysB_at Hok.out k hk)
    have Hend := Lib.hid (runAt_end (c := c) (L := xs) (h := h) hk)
    have Hnext := Lib.hid (fun h6 => run_next (c := c) hk Hx.out h6 hh Hc.out)
    clear hrun hbw hh
    have hwb : 0 ≤ h ∧ h ≤ 4294967295 := by have := Hh.out; simp [wordB] at this; exact this
    obtain ⟨hwb1, hwb2⟩ := hwb
    generalize hx : xs[k] = x at *
    clear hx
    have hxw := okB_words (x := x) (by omega) Hx.out
    obtain ⟨hkn, ⟨ho1, ho6⟩, hk0, hk4⟩ := okB_bounds Hx.out
    obtain ⟨op, K, Y, N⟩ := x
    simp only at c0 c1 c2 c3 hxw ho1 ho6 hk0 hk4
    obtain ⟨w1, w2, w3, w4, w5⟩ := hxw
    rcases (show op = 6 ∨ op = 1 ∨ op = 2 ∨ op = 3 ∨ op = 4 ∨ op = 5 by omega) with rfl | rfl | rfl | rfl | rfl | rfl
    · have Hf : Hid (runAt c xs 0 0 = (K, n)) := by
        show runAt c xs 0 0 = (K, n)
        rw [Hrun.out, Hend.out rfl]
        exact Prod.ext rfl (by show 1 + (n - 1) = n; omega)
      go_wp2
      go_ret2
      rw [Hf.out]
      exact ⟨rfl, bw_alloc Hbw.out _⟩
    · obtain ⟨r1, r2, r3⟩ := Hnext.out (by simp) (c.field K) 0 rfl
      have R3 := Lib.hid r3
      clear r3
      have hlt : w.heap.size < wr.heap.size := World.block_lt_of_cell? wr _ e3
      have hc4' := hc4.out
      go_wp2_with fail
      refine (l2Field_c c _ K _ ⟨s, rfl, (Hs.out.keep Hbw.out).keep (bw_alloc (Below.refl _ _) _)⟩ hk0 (by have := hk4 trivial; omega) (by omega)).mono ?_
      rintro e w1 ⟨rfl, hb1⟩
      have hq := bw_step (bw_alloc (Below.refl wr.heap.size wr) _) hb1
      have HQ := Lib.hid hq
      clear hq hb1 hc4'
      go_wp2
      go_roundw
      case rel =>
        refine ⟨k + 1 + 0, n + 1, c.field K, r2, ?_, by go_num, rfl, by omega, by omega, r1, ?_, ?_, Hbw.out.trans (HQ.out.mono (Nat.le_of_lt hlt)), ?_⟩
        · first | (congr 1; done) | (congr 1; omega)
        · exact (HQ.out.cell (p := ⟨w.heap.size, 0, none⟩) hlt).trans e3
        · exact (HQ.out.cell (p := ⟨w.heap.size, 1, none⟩) hlt).trans e4
        · rw [Hrun.out, R3.out]; exact Prod.ext rfl (by show _ + 1 + (n - 1) = _ + (n + 1 - 1); omega)
      case measure => simp [intOf]; omega
    · obtain ⟨r1, r2, r3⟩ := Hnext.out (by simp) (band h K) 0 rfl
      have R3 := Lib.hid r3
      clear r3
      have hlt : w.heap.size < wr.heap.size := World.block_lt_of_cell? wr _ e3
      have HQ := Lib.hid (bw_alloc (Below.refl wr.heap.size wr) (.cells #[.int .i64 2, .int .i64 K, .int .i64 Y, .int .i64 N] 61))
      go_wp2
      go_roundw
      case rel =>
        refine ⟨k + 1 + 0, n + 1, band h K, r2, ?_, by go_num, rfl, by omega, by omega, r1, ?_, ?_, Hbw.out.trans (HQ.out.mono (Nat.le_of_lt hlt)), ?_⟩
        · first | (congr 1; done) | (congr 1; omega)
        · exact (HQ.out.cell (p := ⟨w.heap.size, 0, none⟩) hlt).trans e3
        · exact (HQ.out.cell (p := ⟨w.heap.size, 1, none⟩) hlt).trans e4
        · rw [Hrun.out, R3.out]; exact Prod.ext rfl (by show _ + 1 + (n - 1) = _ + (n + 1 - 1); omega)
      case measure => simp [intOf]; omega
    · by_cases hte : h = K
      · obtain ⟨r1, r2, r3⟩ := Hnext.out (by simp) (h) Y.toNat (by show (h, if holdsB 1 h K = true then Y else N) = (h, (Y.toNat : Int)); rw [holds1, hte]; simp; omega)
        have R3 := Lib.hid r3
        clear r3
        have bt : (h == K) = true := by rw [hte]; simp
        have Ht := Lib.hid hte
        clear hte
        have hlt : w.heap.size < wr.heap.size := World.block_lt_of_cell? wr _ e3
        have HQ := Lib.hid (bw_alloc (Below.refl wr.heap.size wr) (.cells #[.int .i64 3, .int .i64 K, .int .i64 Y, .int .i64 N] 61))
        go_wp2
        go_roundw
        case rel =>
          refine ⟨k + 1 + Y.toNat, n + 1, h, r2, ?_, by go_num, rfl, by omega, by omega, r1, ?_, ?_, Hbw.out.trans (HQ.out.mono (Nat.le_of_lt hlt)), ?_⟩
          · first | (congr 1; done) | (congr 1; omega)
          · exact (HQ.out.cell (p := ⟨w.heap.size, 0, none⟩) hlt).trans e3
          · exact (HQ.out.cell (p := ⟨w.heap.size, 1, none⟩) hlt).trans e4
          · rw [Hrun.out, R3.out]; exact Prod.ext rfl (by show _ + 1 + (n - 1) = _ + (n + 1 - 1); omega)
        case measure => simp [intOf]; omega
      · obtain ⟨r1, r2, r3⟩ := Hnext.out (by simp) (h) N.toNat (by show (h, if holdsB 1 h K = true then Y else N) = (h, (N.toNat : Int)); rw [holds1, beq_eq_false_iff_ne.2 hte]; simp; omega)
        have R3 := Lib.hid r3
        clear r3
        have bt : (h == K) = false := beq_eq_false_iff_ne.2 hte
        have Ht := Lib.hid hte
        clear hte
        have hlt : w.heap.size < wr.heap.size := World.block_lt_of_cell? wr _ e3
        have HQ := Lib.hid (bw_alloc (Below.refl wr.heap.size wr) (.cells #[.int .i64 3, .int .i64 K, .int .i64 Y, .int .i64 N] 61))
        go_wp2
        go_roundw
        case rel =>
          refine ⟨k + 1 + N.toNat, n + 1, h, r2, ?_, by go_num, rfl, by omega, by omega, r1, ?_, ?_, Hbw.out.trans (HQ.out.mono (Nat.le_of_lt hlt)), ?_⟩
          · first | (congr 1; done) | (congr 1; omega)
          · exact (HQ.out.cell (p := ⟨w.heap.size, 0, none⟩) hlt).trans e3
          · exact (HQ.out.cell (p := ⟨w.heap.size, 1, none⟩) hlt).trans e4
          · rw [Hrun.out, R3.out]; exact Prod.ext rfl (by show _ + 1 + (n - 1) = _ + (n + 1 - 1); omega)
        case measure => simp [intOf]; omega
    · by_cases hte : K < h
      · obtain ⟨r1, r2, r3⟩ := Hnext.out (by simp) (h) Y.toNat (by show (h, if holdsB 3 h K = true then Y else N) = (h, (Y.toNat : Int)); rw [holds3, decide_eq_true hte]; simp; omega)
        have R3 := Lib.hid r3
        clear r3
        have bt : decide (K < h) = true := decide_eq_true hte
        have hlt : w.heap.size < wr.heap.size := World.block_lt_of_cell? wr _ e3
        have HQ := Lib.hid (bw_alloc (Below.refl wr.heap.size wr) (.cells #[.int .i64 4, .int .i64 K, .int .i64 Y, .int .i64 N] 61))
        go_wp2
        go_roundw
        case rel =>
          refine ⟨k + 1 + Y.toNat, n + 1, h, r2, ?_, by go_num, rfl, by omega, by omega, r1, ?_, ?_, Hbw.out.trans (HQ.out.mono (Nat.le_of_lt hlt)), ?_⟩
          · first | (congr 1; done) | (congr 1; omega)
          · exact (HQ.out.cell (p := ⟨w.heap.size, 0, none⟩) hlt).trans e3
          · exact (HQ.out.cell (p := ⟨w.heap.size, 1, none⟩) hlt).trans e4
          · rw [Hrun.out, R3.out]; exact Prod.ext rfl (by show _ + 1 + (n - 1) = _ + (n + 1 - 1); omega)
        case measure => simp [intOf]; omega
      · obtain ⟨r1, r2, r3⟩ := Hnext.out (by simp) (h) N.toNat (by show (h, if holdsB 3 h K = true then Y else N) = (h, (N.toNat : Int)); rw [holds3, decide_eq_false hte]; simp; omega)
        have R3 := Lib.hid r3
        clear r3
        have bt : decide (K < h) = false := decide_eq_false hte
        have hlt : w.heap.size < wr.heap.size := World.block_lt_of_cell? wr _ e3
        have HQ := Lib.hid (bw_alloc (Below.refl wr.heap.size wr) (.cells #[.int .i64 4, .int .i64 K, .int .i64 Y, .int .i64 N] 61))
        go_wp2
        go_roundw
        case rel =>
          refine ⟨k + 1 + N.toNat, n + 1, h, r2, ?_, by go_num, rfl, by omega, by omega, r1, ?_, ?_, Hbw.out.trans (HQ.out.mono (Nat.le_of_lt hlt)), ?_⟩
          · first | (congr 1; done) | (congr 1; omega)
          · exact (HQ.out.cell (p := ⟨w.heap.size, 0, none⟩) hlt).trans e3
          · exact (HQ.out.cell (p := ⟨w.heap.size, 1, none⟩) hlt).trans e4
          · rw [Hrun.out, R3.out]; exact Prod.ext rfl (by show _ + 1 + (n - 1) = _ + (n + 1 - 1); omega)
        case measure => simp [intOf]; omega
    · obtain ⟨r1, r2, r3⟩ := Hnext.out (by simp) (h) K.toNat (by show (h, K) = (h, (K.toNat : Int)); rw [Int.toNat_of_nonneg (by omega)])
      have R3 := Lib.hid r3
      clear r3
      have hlt : w.heap.size < wr.heap.size := World.block_lt_of_cell? wr _ e3
      have HQ := Lib.hid (bw_alloc (Below.refl wr.heap.size wr) (.cells #[.int .i64 5, .int .i64 K, .int .i64 Y, .int .i64 N] 61))
      go_wp2
      go_roundw
      case rel =>
        refine ⟨k + 1 + K.toNat, n + 1, h, r2, ?_, by go_num, rfl, by omega, by omega, r1, ?_, ?_, Hbw.out.trans (HQ.out.mono (Nat.le_of_lt hlt)), ?_⟩
        · first | (congr 1; done) | (congr 1; omega)
        · exact (HQ.out.cell (p := ⟨w.heap.size, 0, none⟩) hlt).trans e3
        · exact (HQ.out.cell (p := ⟨w.heap.size, 1, none⟩) hlt).trans e4
        · rw [Hrun.out, R3.out]; exact Prod.ext rfl (by show _ + 1 + (n - 1) = _ + (n + 1 - 1); omega)
      case measure => simp [intOf]; omega
end Go.Proofs.YtgogkpojeomabaaDoor
