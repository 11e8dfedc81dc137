/- doingOf and codeWays. -/
import Derived.Test.YtgogkpojeomabaaDoorDo
set_option linter.unusedVariables false
set_option linter.unusedSimpArgs false
namespace Go.Proofs.YtgogkpojeomabaaDoor
open Go.RowKit

def Ins.straight (x : Ins) : Bool := x.yes == 0 && x.no == 0
/-- What is done at a place, as an interface's value, and whether it is one. -/
def Ins.act (x : Ins) : Value :=
  if x.op = 1 then .iface 154 (.agg #[.int .i64 x.k])
  else if x.op = 2 then .iface 156 (.agg #[.int .i64 x.k])
  else if x.op = 3 then .iface 158 (.agg #[.int .i64 1, .int .i64 x.k, .int .i64 x.yes, .int .i64 x.no])
  else if x.op = 4 then .iface 158 (.agg #[.int .i64 3, .int .i64 x.k, .int .i64 x.yes, .int .i64 x.no])
  else if x.op = 5 then .iface 160 (.agg #[.int .i64 x.k])
  else if x.op = 6 then .iface 162 (.agg #[.int .i64 x.k])
  else .nilIface
def Ins.known (x : Ins) : Bool := if x.op = 1 ∨ x.op = 2 ∨ x.op = 5 ∨ x.op = 6 then x.straight else decide (x.op = 3 ∨ x.op = 4)

set_option maxHeartbeats 1000000 in
set_option maxRecDepth 100000 in
theorem doingOf_c (x : Ins) (w : World) : Calls Tryd.prog 85 #[x.val] w fun e w' => e = .returned (.tuple #[x.act, .bool x.known]) ∧ Below w.heap.size w w' := by
  have HB := Lib.hid (Below.refl w.heap.size w)
  obtain ⟨op, k, yes, no⟩ := x
  simp only [Ins.val]
  rcases (show op = 1 ∨ op = 2 ∨ op = 3 ∨ op = 4 ∨ op = 5 ∨ op = 6 ∨ ¬ (op = 1 ∨ op = 2 ∨ op = 3 ∨ op = 4 ∨ op = 5 ∨ op = 6) by omega) with rfl | rfl | rfl | rfl | rfl | rfl | ho
  rotate_left 6
  have b1 : (op == 1) = false := beq_eq_false_iff_ne.2 (by omega)
  have b2 : (op == 2) = false := beq_eq_false_iff_ne.2 (by omega)
  have b3 : (op == 3) = false := beq_eq_false_iff_ne.2 (by omega)
  have b4 : (op == 4) = false := beq_eq_false_iff_ne.2 (by omega)
  have b5 : (op == 5) = false := beq_eq_false_iff_ne.2 (by omega)
  have b6 : (op == 6) = false := beq_eq_false_iff_ne.2 (by omega)
  have Hf : Hid (Ins.act ⟨op, k, yes, no⟩ = .nilIface ∧ Ins.known ⟨op, k, yes, no⟩ = false) := by
    show Ins.act ⟨op, k, yes, no⟩ = .nilIface ∧ Ins.known ⟨op, k, yes, no⟩ = false
    unfold Ins.act Ins.known; simp only
    rw [if_neg (by omega), if_neg (by omega), if_neg (by omega), if_neg (by omega), if_neg (by omega), if_neg (by omega), if_neg (by omega)]
    exact ⟨rfl, by simp; omega⟩
  clear ho
  all_goals go_enter Tryd.func85, Tryd.ntmps85
  all_goals go_wp2
  all_goals (go_ret2; refine ⟨?_, bw_alloc HB.out _⟩)
  all_goals first
    | (rw [Hf.out.1, Hf.out.2]; rfl)
    | rfl
    | (simp [Ins.act, Ins.known, Ins.straight, *]; done)
theorem loading_m_fits (n : Nat) (cs : Array Value) (w : World) : (method (n + 1) 154 (.agg cs) "loop.example/gatelodge/impl.fits").run Tryd.prog w = .ok (152, .agg cs) w := by kernel_rfl
theorem loading_m_ways (n : Nat) (cs : Array Value) (w : World) : (method (n + 1) 154 (.agg cs) "loop.example/gatelodge/impl.ways").run Tryd.prog w = .ok (153, .agg cs) w := by kernel_rfl
theorem loading_m_do (n : Nat) (cs : Array Value) (w : World) : (method (n + 1) 154 (.agg cs) "loop.example/gatelodge/impl.do").run Tryd.prog w = .ok (151, .agg cs) w := by kernel_rfl
theorem masking_m_fits (n : Nat) (cs : Array Value) (w : World) : (method (n + 1) 156 (.agg cs) "loop.example/gatelodge/impl.fits").run Tryd.prog w = .ok (155, .agg cs) w := by kernel_rfl
theorem masking_m_ways (n : Nat) (cs : Array Value) (w : World) : (method (n + 1) 156 (.agg cs) "loop.example/gatelodge/impl.ways").run Tryd.prog w = .ok (156, .agg cs) w := by kernel_rfl
theorem masking_m_do (n : Nat) (cs : Array Value) (w : World) : (method (n + 1) 156 (.agg cs) "loop.example/gatelodge/impl.do").run Tryd.prog w = .ok (154, .agg cs) w := by kernel_rfl
theorem looking_m_fits (n : Nat) (cs : Array Value) (w : World) : (method (n + 1) 158 (.agg cs) "loop.example/gatelodge/impl.fits").run Tryd.prog w = .ok (158, .agg cs) w := by kernel_rfl
theorem looking_m_ways (n : Nat) (cs : Array Value) (w : World) : (method (n + 1) 158 (.agg cs) "loop.example/gatelodge/impl.ways").run Tryd.prog w = .ok (159, .agg cs) w := by kernel_rfl
theorem looking_m_do (n : Nat) (cs : Array Value) (w : World) : (method (n + 1) 158 (.agg cs) "loop.example/gatelodge/impl.do").run Tryd.prog w = .ok (157, .agg cs) w := by kernel_rfl
theorem jumping_m_fits (n : Nat) (cs : Array Value) (w : World) : (method (n + 1) 160 (.agg cs) "loop.example/gatelodge/impl.fits").run Tryd.prog w = .ok (161, .agg cs) w := by kernel_rfl
theorem jumping_m_ways (n : Nat) (cs : Array Value) (w : World) : (method (n + 1) 160 (.agg cs) "loop.example/gatelodge/impl.ways").run Tryd.prog w = .ok (162, .agg cs) w := by kernel_rfl
theorem jumping_m_do (n : Nat) (cs : Array Value) (w : World) : (method (n + 1) 160 (.agg cs) "loop.example/gatelodge/impl.do").run Tryd.prog w = .ok (160, .agg cs) w := by kernel_rfl
theorem ending_m_fits (n : Nat) (cs : Array Value) (w : World) : (method (n + 1) 162 (.agg cs) "loop.example/gatelodge/impl.fits").run Tryd.prog w = .ok (164, .agg cs) w := by kernel_rfl
theorem ending_m_ways (n : Nat) (cs : Array Value) (w : World) : (method (n + 1) 162 (.agg cs) "loop.example/gatelodge/impl.ways").run Tryd.prog w = .ok (165, .agg cs) w := by kernel_rfl
theorem ending_m_do (n : Nat) (cs : Array Value) (w : World) : (method (n + 1) 162 (.agg cs) "loop.example/gatelodge/impl.do").run Tryd.prog w = .ok (163, .agg cs) w := by kernel_rfl
end Go.Proofs.YtgogkpojeomabaaDoor
