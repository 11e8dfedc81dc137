/- The law's helpers on packs and calls: sizes, copies, equality. -/
import Derived.Test.YtgogkpojeomabaaDoorBase
import Derived.Test.YtgogkpojeomabaaDoorCut
import Derived.Test.YtgogkpojeomabaaDoorPlace
import Derived.Test.YtgogkpojeomabaaDoorRead
set_option linter.unusedVariables false
set_option linter.unusedSimpArgs false
namespace Go.Proofs.YtgogkpojeomabaaDoor
open Go.RowKit

set_option maxHeartbeats 1000000 in
set_option maxRecDepth 100000 in
theorem szPack_c (e0 : Int) (rules code : ByteArray) (n : Int) (w : World) (hn : -1 ≤ n) (hn2 : n ≤ 1048576) (hr : rules.size ≤ 9223372036854775807) (hc : code.size ≤ 9223372036854775807) :
    Calls Tryd.prog 8 #[.agg #[.int .i64 e0, .string rules, .string code], .int .i64 n] w fun e w' => (∃ m : Int, e = .returned (.int .i64 m) ∧ -1 ≤ m ∧ (0 ≤ m → m = n - rules.size - code.size)) ∧ Below w.heap.size w w' := by
  have HB := Lib.hid (Below.refl w.heap.size w)
  by_cases h1 : n < (rules.size : Int)
  · go_enter Tryd.func8, Tryd.ntmps8
    go_wp2
    go_ret
    exact ⟨⟨-1, rfl, by omega, by omega⟩, bw_alloc HB.out _⟩
  · by_cases h2 : n - rules.size < (code.size : Int)
    · go_enter Tryd.func8, Tryd.ntmps8
      go_wp2
      go_ret
      exact ⟨⟨-1, rfl, by omega, by omega⟩, bw_alloc HB.out _⟩
    · go_enter Tryd.func8, Tryd.ntmps8
      go_wp2
      go_ret
      exact ⟨⟨_, rfl, by omega, fun _ => rfl⟩, bw_alloc HB.out _⟩

set_option maxHeartbeats 1000000 in
set_option maxRecDepth 100000 in
theorem szIntS_c (a : Option Addr) (len cap : Nat) (n : Int) (w : World) (hn : -1 ≤ n) (hn2 : n ≤ 1048576) (hr : len ≤ 9223372036854775807) :
    Calls Tryd.prog 36 #[.slice a len cap, .int .i64 n] w fun e w' => (∃ m : Int, e = .returned (.int .i64 m) ∧ -1 ≤ m ∧ (0 ≤ m → m = n - len)) ∧ w = w' := by
  by_cases h1 : n < (len : Int)
  · go_enter Tryd.func36, Tryd.ntmps36
    go_wp2
    go_ret
    exact ⟨⟨-1, rfl, by omega, by omega⟩, rfl⟩
  · go_enter Tryd.func36, Tryd.ntmps36
    go_wp2
    go_ret
    exact ⟨⟨_, rfl, by omega, fun _ => rfl⟩, rfl⟩

set_option maxHeartbeats 1000000 in
set_option maxRecDepth 100000 in
theorem szCall_c (num : Int) (a : Option Addr) (len cap : Nat) (n : Int) (w : World) (hn : -1 ≤ n) (hn2 : n ≤ 1048576) (hr : len ≤ 9223372036854775807) :
    Calls Tryd.prog 9 #[.agg #[.int .i64 num, .slice a len cap], .int .i64 n] w fun e w' => (∃ m : Int, e = .returned (.int .i64 m) ∧ -1 ≤ m ∧ (0 ≤ m → m = n - len)) ∧ Below w.heap.size w w' := by
  have HB := Lib.hid (Below.refl w.heap.size w)
  go_enter Tryd.func9, Tryd.ntmps9
  go_wp2_with fail
  refine (szIntS_c a len cap n _ hn hn2 hr).mono ?_
  rintro e w' ⟨⟨m, rfl, hm1, hm2⟩, rfl⟩
  by_cases h0 : m < 0
  · go_wp2
    go_ret
    exact ⟨⟨-1, rfl, by omega, by omega⟩, bw_alloc HB.out _⟩
  · go_wp2
    go_ret
    exact ⟨⟨_, rfl, by omega, hm2⟩, bw_alloc HB.out _⟩

set_option maxHeartbeats 1000000 in
set_option maxRecDepth 100000 in
theorem toPack_c (n : Int) (rules code : ByteArray) (w : World) :
    Calls Tryd.prog 11 #[.agg #[.int .i64 n, .string rules, .string code]] w fun e w' => e = .returned (.agg #[.int .i64 n, .string rules, .string code]) ∧ Below w.heap.size w w' := by
  have HB := Lib.hid (Below.refl w.heap.size w)
  go_enter Tryd.func11, Tryd.ntmps11
  go_wp2
  refine bodyPost_ret (v := .agg #[.int .i64 n, .string rules, .string code]) (by simp [results, Tryd.results11, go_sem]) rfl ?_
  refine ⟨rfl, ?_⟩
  repeat (first | exact HB.out | refine bw_set ?_ (by first | exact Nat.le_refl _ | (simp; done) | (simp; omega)) _ | refine bw_alloc ?_ _)
end Go.Proofs.YtgogkpojeomabaaDoor
