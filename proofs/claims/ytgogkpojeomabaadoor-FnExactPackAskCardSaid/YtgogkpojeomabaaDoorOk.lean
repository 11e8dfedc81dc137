/- CodeWrite, CodeOk, CodeRun of the program. -/
import Derived.Test.YtgogkpojeomabaaDoorLines
set_option linter.unusedVariables false
set_option linter.unusedSimpArgs false
namespace Go.Proofs.YtgogkpojeomabaaDoor
open Go.RowKit

def codeOkB (xs : List Ins) : Bool := waysB xs && decide ((codeText xs).length ≤ 2600)
def codeWrite (xs : List Ins) : List UInt8 := if codeOkB xs = true then codeText xs else []
theorem line_pos (x : Ins) : 0 < x.line.length := by unfold Ins.line; simp; omega
theorem codeText_pos {xs : List Ins} (h : xs ≠ []) : 0 < (codeText xs).length := by
  cases xs with
  | nil => exact absurd rfl h
  | cons x xs => have := line_pos x; simp [codeText]; omega
theorem codeWrite_empty (xs : List Ins) : (codeWrite xs).isEmpty = !codeOkB xs := by
  unfold codeWrite
  split
  · rename_i h
    have hx : xs ≠ [] := by rintro rfl; simp [codeOkB, waysB] at h
    have := codeText_pos hx
    rw [h]
    cases hc : codeText xs with
    | nil => rw [hc] at this; simp at this
    | cons a l => rfl
  · rename_i h
    simp at h
    simp [h]

set_option maxHeartbeats 1000000 in
set_option maxRecDepth 100000 in
theorem codeWrite_c (xs : List Ins) (v : Value) (w : World) (hv : InsAt w v xs) (hlen : xs.length ≤ 1000000) (ht : Tab w) :
    Calls Tryd.prog 57 #[v] w fun e w' => e = .returned (str (codeWrite xs)) ∧ Below w.heap.size w w' := by
  have Hv := Lib.hid hv
  have HB := Lib.hid (Below.refl w.heap.size w)
  obtain ⟨a, cp, rfl, _⟩ := hv
  have Ht := Lib.hid ht
  clear ht
  rcases hb : waysB xs with _ | _
  · have Hf : Hid (codeWrite xs = []) := by show codeWrite xs = []; simp [codeWrite, codeOkB, hb]
    have Hb := Lib.hid hb
    clear hb
    go_enter Tryd.func57, Tryd.ntmps57
    go_wp2_with fail
    refine (codeWays_c xs _ _ Hv.out hlen).mono ?_
    rintro e w1 ⟨he, hb1⟩
    rw [Hb.out] at he
    subst he
    go_wp2_with fail
    go_ret
    rw [Hf.out]
    exact ⟨rfl, hb1⟩
  · have Hb := Lib.hid hb
    clear hb
    by_cases hl : (codeText xs).length ≤ 2600
    all_goals
      have Hl := Lib.hid hl
      clear hl
      go_enter Tryd.func57, Tryd.ntmps57
      go_wp2_with fail
      refine (codeWays_c xs _ _ Hv.out hlen).mono ?_
      rintro e w1 ⟨he, hb1⟩
      rw [Hb.out] at he
      subst he
      have Hb1 := Lib.hid hb1
      clear hb1
      go_wp2_with fail
      refine (codeLines_c xs _ _ (Hv.out.keep Hb1.out) Hb.out (Ht.out.below Hb1.out)).mono ?_
      rintro e w2 ⟨rfl, hb2⟩
    · have hl2 := Hl.out
      go_wp2
      go_ret
      have hf : codeWrite xs = codeText xs := by simp [codeWrite, codeOkB, Hb.out, Hl.out]
      rw [hf]
      exact ⟨rfl, bw_step Hb1.out hb2⟩
    · have hl2 := Hl.out
      go_wp2
      go_ret
      have hf : codeWrite xs = [] := by simp [codeWrite, codeOkB, Hb.out]; have := Hl.out; omega
      rw [hf]
      exact ⟨rfl, bw_step Hb1.out hb2⟩

set_option maxHeartbeats 1000000 in
set_option maxRecDepth 100000 in
theorem codeOk_i (xs : List Ins) (v : Value) (w : World) (hv : InsAt w v xs) (hlen : xs.length ≤ 1000000) (ht : Tab w) :
    Calls Tryd.prog 24 #[v] w fun e w' => e = .returned (.bool (codeOkB xs)) ∧ Below w.heap.size w w' := by
  have Hv := Lib.hid hv
  obtain ⟨a, cp, rfl, _⟩ := hv
  have Hc := Lib.hid (codeWrite_empty xs)
  go_enter Tryd.func24, Tryd.ntmps24
  go_wp2_with fail
  refine (codeWrite_c xs _ _ Hv.out hlen ht).mono ?_
  unfold str
  rintro e w1 ⟨rfl, hb1⟩
  generalize hl : codeWrite xs = l at *
  go_wp2
  go_ret
  refine ⟨?_, hb1⟩
  have := Hc.out
  rw [show codeOkB xs = !l.isEmpty by rw [this]; simp]
  rfl

/-- CodeRun. -/
def codeRun (xs : List Ins) (c : Call) : Int × Nat := if codeOkB xs && c.okB then runAt c xs 0 0 else (4, 0)

set_option maxHeartbeats 1000000 in
set_option maxRecDepth 100000 in
theorem codeRun_i (xs : List Ins) (v : Value) (c : Call) (cv : Value) (w : World) (hv : InsAt w v xs) (hc : CallAt w cv c) (hlen : xs.length ≤ 1000000) (ht : Tab w) :
    Calls Tryd.prog 22 #[v, cv] w fun e w' => e = .returned (.tuple #[.int .i64 (codeRun xs c).1, .int .i64 (codeRun xs c).2]) ∧ Below w.heap.size w w' := by
  have Hv := Lib.hid hv
  have HB := Lib.hid (Below.refl w.heap.size w)
  obtain ⟨a, cp, rfl, _⟩ := hv
  obtain ⟨s, rfl, hs⟩ := hc
  have Hs := Lib.hid hs
  have Ht := Lib.hid ht
  clear ht hs
  rcases hb : codeOkB xs with _ | _
  · have Hf : Hid (codeRun xs c = (4, 0)) := by show codeRun xs c = (4, 0); simp [codeRun, hb]
    have Hb := Lib.hid hb
    clear hb
    go_enter Tryd.func22, Tryd.ntmps22
    go_wp2_with fail
    refine (codeOk_i xs _ _ (Hv.out.keep (bw_alloc HB.out _)) hlen (Ht.out.below (bw_alloc HB.out _))).mono ?_
    rintro e w1 ⟨he, hb1⟩
    rw [Hb.out] at he
    subst he
    go_wp2_with fail
    go_ret2
    rw [Hf.out]
    exact ⟨rfl, bw_step (bw_alloc HB.out _) hb1⟩
  · rcases hk : c.okB with _ | _
    all_goals
      have Hb := Lib.hid hb
      have Hk := Lib.hid hk
      clear hb hk
      go_enter Tryd.func22, Tryd.ntmps22
      go_wp2_with fail
      refine (codeOk_i xs _ _ (Hv.out.keep (bw_alloc HB.out _)) hlen (Ht.out.below (bw_alloc HB.out _))).mono ?_
      rintro e w1 ⟨he, hb1⟩
      rw [Hb.out] at he
      subst he
      have hcc := (bcell hb1).1
      have Hb1 := Lib.hid (bw_step (bw_alloc HB.out _) hb1)
      have k0 := hcc w.heap.size 0 (by simp)
      have k1 := hcc w.heap.size 1 (by simp)
      clear hcc hb1
      go_wp2_with fail
      refine (callOk_i c _ _ ⟨s, rfl, Hs.out.keep Hb1.out⟩).mono ?_
      rintro e w2 ⟨he, hb2⟩
      rw [Hk.out] at he
      subst he
      have hl1 : w.heap.size < w1.heap.size := World.block_lt_of_cell? w1 ⟨w.heap.size, 0, none⟩ (by rw [k0]; go_simp; rfl)
      have q0 := (bcell hb2).1 w.heap.size 0 hl1
      have q1 := (bcell hb2).1 w.heap.size 1 hl1
      have Hb2 := Lib.hid (bw_step Hb1.out hb2)
      clear hb2
    · go_wp2_with fail
      go_ret2
      have hf : codeRun xs c = (4, 0) := by simp [codeRun, Hk.out]
      rw [hf]
      exact ⟨rfl, Hb2.out⟩
    · go_wp2_with fail
      have hw : waysB xs = true := by have := Hb.out; simp [codeOkB] at this; exact this.1
      refine (runCode_c xs _ c _ _ (Hv.out.keep Hb2.out) ⟨s, rfl, Hs.out.keep Hb2.out⟩ hw Hk.out).mono ?_
      rintro e w3 ⟨rfl, hb3⟩
      have hf : Hid (codeRun xs c = runAt c xs 0 0) := by show codeRun xs c = _; simp [codeRun, Hk.out, Hb.out]
      go_wp2_with fail
      go_ret2
      rw [hf.out]
      exact ⟨rfl, bw_step Hb2.out hb3⟩
end Go.Proofs.YtgogkpojeomabaaDoor
