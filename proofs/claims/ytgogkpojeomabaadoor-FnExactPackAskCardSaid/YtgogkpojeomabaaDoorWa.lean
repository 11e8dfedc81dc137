import Derived.Test.YtgogkpojeomabaaDoorBase
set_option linter.unusedVariables false
namespace Go.Proofs.YtgogkpojeomabaaDoor
open Go.RowKit

theorem l1In_c (n a b : Int) (w : World) : Calls Tryd.prog 47 #[.int .i64 n, .int .i64 a, .int .i64 b] w fun e w' => e = .returned (.bool (inB n a b)) ∧ w = w' := by
  go_enter Tryd.func47, Tryd.ntmps47
  go_wp2
  all_goals (go_ret; exact ⟨by first | (simp [inB, *]; done) | (simp [inB, *]; omega), rfl⟩)

theorem wordOk_c (n : Int) (w : World) : Calls Tryd.prog 80 #[.int .i64 n] w fun e w' => e = .returned (.bool (wordB n)) ∧ w = w' := by
  go_enter Tryd.func80, Tryd.ntmps80
  go_wp2
  all_goals (go_ret; exact ⟨by first | (simp [wordB, *]; done) | (simp [wordB, *]; omega), rfl⟩)

set_option maxHeartbeats 400000 in
theorem callOk_s (c : Call) (v : Value) (w : World) (hv : CallAt w v c) : Calls Tryd.prog 28 #[v] w fun e w' => e = .returned (.bool c.okB) ∧ Below w.heap.size w w' := by
  obtain ⟨s, rfl, a, cp, rfl, hle, hcap, hr⟩ := hv
  have hB : Below w.heap.size w (w.alloc (.cells #[.int .i64 c.num, .slice a c.args.length cp] 32)) := (Below.refl _ _).alloc (Nat.le_refl _) _
  by_cases hn : c.args.length = 4
  · have h2 : ((c.args.length : Int) != 4) = false := by simp; omega
    have hne : ints c.args ≠ [] := by intro h; have := congrArg List.length h; simp at this; simp [this] at hn
    obtain ⟨b, off, rfl, hrow⟩ := hr hne
    have Hn := Lib.hid hn
    have hl : c.args.length ≤ 4 := by omega
    have hbl : b < w.heap.size := hrow.lt (by simp; omega)
    clear hn hr hne
    by_cases h1 : inB c.num 0 4294967295 = true
    · go_enter Tryd.func28, Tryd.ntmps28
      go_wp2_with (go_at_call 47; refine (l1In_c _ _ _ _).mono ?_; rintro e w' ⟨rfl, rfl⟩)
      go_loop [3] (fun i => ∃ k : Nat, k ≤ c.args.length ∧ i = .int .i64 k ∧ (c.args.take k).all wordB = true) (fun i => 4 - (intOf i).toNat)
      case atStart => exact ⟨0, Nat.zero_le _, rfl, by simp⟩
      case round =>
        obtain ⟨k, hk, rfl, hall⟩ := hrel
        have Hall := Lib.hid hall
        clear hall
        by_cases hlt : k < c.args.length
        · have hcell := (hrow.below hB hbl).at (ints_at _ _ hlt)
          go_wp2_with (go_at_call 47; refine (l1In_c _ _ _ _).mono ?_; rintro e w' ⟨rfl, rfl⟩)
          · have h3 : (!inB c.args[k] 0 4294967295) = true := by assumption
            go_ret
            refine ⟨?_, hB⟩
            have hf : c.args.all wordB = false := by
              rw [List.all_eq_false]; exact ⟨_, List.getElem_mem hlt, by simpa [inB_word] using h3⟩
            simp [Call.okB, hf]
          · have h3 : (!inB c.args[k] 0 4294967295) = false := by assumption
            go_round
            case rel => exact ⟨k + 1, by omega, by go_num, by rw [all_take_succ _ _ _ hlt, Hall.out]; simpa [inB_word] using h3⟩
            case measure => simp [intOf]; omega
        · go_wp2
          go_ret
          refine ⟨?_, hB⟩
          have hk' : k = c.args.length := by omega
          have hall' := Hall.out
          rw [hk', List.take_length] at hall'
          have hn' := Hn.out
          simp [Call.okB, ← inB_word, h1, hn', hall']
    · go_enter Tryd.func28, Tryd.ntmps28
      go_wp2_with (go_at_call 47; refine (l1In_c _ _ _ _).mono ?_; rintro e w' ⟨rfl, rfl⟩)
      go_ret
      exact ⟨by simp at h1; simp [Call.okB, ← inB_word, h1], hB⟩
  · have h2 : ((c.args.length : Int) != 4) = true := by simp; omega
    have Hf : Hid (c.okB = false) := by show c.okB = false; simp [Call.okB, hn]
    go_enter Tryd.func28, Tryd.ntmps28
    go_wp2_with (go_at_call 47; refine (l1In_c _ _ _ _).mono ?_; rintro e w' ⟨rfl, rfl⟩)
    all_goals (go_ret; refine ⟨?_, hB⟩; rw [Hf.out]; rfl)

set_option maxHeartbeats 1000000 in
set_option maxRecDepth 100000 in
theorem insOk_s (x : Ins) (p n : Int) (w : World) (h0 : 0 ≤ p) (h1 : p ≤ 1000000) (h2 : 0 ≤ n) (h3 : n ≤ 1000000) :
    Calls Tryd.prog 61 #[x.val, .int .i64 p, .int .i64 n] w fun e w' => e = .returned (.bool (x.okB (n - p - 2))) ∧ Below w.heap.size w w' := by
  have HB := Lib.hid (Below.refl w.heap.size w)
  obtain ⟨op, k, yes, no⟩ := x
  simp only [Ins.val]
  rcases (show op = 1 ∨ op = 2 ∨ op = 3 ∨ op = 4 ∨ op = 5 ∨ op = 6 ∨ ¬ (op = 1 ∨ op = 2 ∨ op = 3 ∨ op = 4 ∨ op = 5 ∨ op = 6) by omega) with rfl | rfl | rfl | rfl | rfl | rfl | ho
  rotate_left 6
  have b1 : (op == 1) = false := beq_eq_false_iff_ne.2 (by omega)
  have b2 : (op == 2) = false := beq_eq_false_iff_ne.2 (by omega)
  have b3 : (op == 3) = false := beq_eq_false_iff_ne.2 (by omega)
  have b4 : (op == 4) = false := beq_eq_false_iff_ne.2 (by omega)
  have b5 : (op == 5) = false := beq_eq_false_iff_ne.2 (by omega)
  have b6 : (op == 6) = false := beq_eq_false_iff_ne.2 (by omega)
  have Hf : Hid (Ins.okB ⟨op, k, yes, no⟩ (n - p - 2) = false) := by show Ins.okB ⟨op, k, yes, no⟩ (n - p - 2) = false; unfold Ins.okB; simp only; rw [if_neg (by omega), if_neg (by omega), if_neg (by omega), if_neg (by omega), if_neg (by omega)]
  clear ho
  all_goals go_enter Tryd.func61, Tryd.ntmps61
  all_goals go_wp2_with (go_at_call 47; refine (l1In_c _ _ _ _).mono ?_; rintro e w' ⟨rfl, rfl⟩)
  all_goals (go_ret; refine ⟨?_, bw_alloc HB.out _⟩)
  all_goals first
    | (rw [Hf.out]; rfl)
    | (simp [Ins.okB, *]; done)
    | (simp [Ins.okB, *]; omega)
    | trace_state
end Go.Proofs.YtgogkpojeomabaaDoor
