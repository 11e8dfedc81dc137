/- The reference's PackAsk. -/
import Derived.Test.YtgogkpojeomabaaDoorReadS
set_option linter.unusedVariables false
set_option linter.unusedSimpArgs false
namespace Go.Proofs.YtgogkpojeomabaaDoor
open Go.RowKit

def packAskS (code : List UInt8) (c : Call) : Int := (codeRun ((codeReadS code).getD []) c).1
theorem codeReadS_len {l : List UInt8} : ((codeReadS l).getD []).length ≤ 1000000 := by
  unfold codeReadS
  split
  · simp
  · split
    · rename_i h1 h2
      have := h2.1
      simp [codeOkB, waysB] at this
      simp; omega
    · simp

set_option maxHeartbeats 1000000 in
set_option maxRecDepth 100000 in
theorem packAsk_s (n : Int) (rules code : List UInt8) (c : Call) (cv : Value) (w : World) (hc : CallAt w cv c) (hl : code.length ≤ 1048576) :
    Calls Tryd.prog 10 #[.agg #[.int .i64 n, str rules, str code], cv] w fun e w' => e = .returned (.int .i64 (packAskS code c)) ∧ Below w.heap.size w w' := by
  have HB := Lib.hid (Below.refl w.heap.size w)
  obtain ⟨s, rfl, hs⟩ := hc
  have Hs := Lib.hid hs
  clear hs
  unfold str
  go_enter Tryd.func10, Tryd.ntmps10
  go_wp2_with fail
  refine (codeRead_s code _ hl).mono ?_
  rintro e w1 ⟨hb1, v, rfl, hv⟩
  have Hb1 := Lib.hid (bw_step (bw_alloc (bw_alloc HB.out _) _) hb1)
  have hcc := (bcell hb1).1
  have k0 := hcc (w.heap.size + 1) 0 (by simp)
  have k1 := hcc (w.heap.size + 1) 1 (by simp)
  have Hv := Lib.hid hv
  obtain ⟨av, cw, rfl⟩ := slAt_val hv
  clear hcc hb1 hv
  have hll := codeReadS_len (l := code)
  have Hf : Hid (packAskS code c = (codeRun ((codeReadS code).getD []) c).1) := Lib.hid rfl
  generalize (codeReadS code).getD [] = xs at *
  go_wp2_with fail
  refine (codeRun_s xs _ c _ _ Hv.out ⟨s, rfl, Hs.out.keep Hb1.out⟩ hll).mono ?_
  rintro e w2 ⟨rfl, hb2⟩
  go_wp2_with fail
  go_ret
  rw [Hf.out]
  exact ⟨rfl, bw_step Hb1.out hb2⟩
end Go.Proofs.YtgogkpojeomabaaDoor
