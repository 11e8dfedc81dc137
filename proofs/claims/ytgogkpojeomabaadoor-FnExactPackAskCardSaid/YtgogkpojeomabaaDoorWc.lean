/- Small functions of numbers, and fields of calls. -/
import Derived.Test.YtgogkpojeomabaaDoorWa
import Derived.Test.YtgogkpojeomabaaDoorCut
import Derived.Deep.Light
set_option linter.unusedVariables false
namespace Go.Proofs.YtgogkpojeomabaaDoor
open Go.RowKit

def verdictB (v : Int) : Bool := inB v 1 4
theorem verdictOk_c (n : Int) (w : World) : Calls Tryd.prog 79 #[.int .i64 n] w fun e w' => e = .returned (.bool (verdictB n)) ∧ w = w' := by
  go_enter Tryd.func79, Tryd.ntmps79
  go_wp2
  all_goals (go_ret; exact ⟨by first | (simp [verdictB, inB, *]; done) | (simp [verdictB, inB, *]; omega), rfl⟩)
theorem wgIn_c (n a b : Int) (w : World) : Calls Tryd.prog 29 #[.int .i64 n, .int .i64 a, .int .i64 b] w fun e w' => e = .returned (.bool (inB n a b)) ∧ w = w' := by
  go_enter Tryd.func29, Tryd.ntmps29
  go_wp2
  all_goals (go_ret; exact ⟨by first | (simp [inB, *]; done) | (simp [inB, *]; omega), rfl⟩)

/-- A way to look: Equal 1, Below 2, Above 3. -/
def holdsB (way word value : Int) : Bool := if way = 1 then word == value else if way = 2 then decide (word < value) else if way = 3 then decide (value < word) else false
theorem holds_c (k n v : Int) (w : World) : Calls Tryd.prog 55 #[.int .i64 k, .int .i64 n, .int .i64 v] w fun e w' => e = .returned (.bool (holdsB k n v)) ∧ w = w' := by
  rcases (show k = 1 ∨ k = 2 ∨ k = 3 ∨ ¬ (k = 1 ∨ k = 2 ∨ k = 3) by omega) with rfl | rfl | rfl | ho
  rotate_left 3
  have b1 : (k == 1) = false := beq_eq_false_iff_ne.2 (by omega)
  have b2 : (k == 2) = false := beq_eq_false_iff_ne.2 (by omega)
  have b3 : (k == 3) = false := beq_eq_false_iff_ne.2 (by omega)
  have Hf : Hid (holdsB k n v = false) := by show holdsB k n v = false; unfold holdsB; rw [if_neg (by omega), if_neg (by omega), if_neg (by omega)]
  clear ho
  all_goals go_enter Tryd.func55, Tryd.ntmps55
  all_goals go_wp2
  all_goals (go_ret; refine ⟨?_, rfl⟩)
  all_goals first
    | (rw [Hf.out]; rfl)
    | rfl
    | (simp [holdsB, *]; done)

def opWord (op : Int) : List UInt8 := if op = 1 then [108, 111, 97, 100] else if op = 2 then [97, 110, 100] else if op = 3 then [101, 113] else if op = 4 then [103, 116] else if op = 5 then [106, 117, 109, 112] else if op = 6 then [101, 110, 100] else []
theorem opName_c (k : Int) (w : World) : Calls Tryd.prog 95 #[.int .i64 k] w fun e w' => e = .returned (str (opWord k)) ∧ w = w' := by
  rcases (show k = 1 ∨ k = 2 ∨ k = 3 ∨ k = 4 ∨ k = 5 ∨ k = 6 ∨ ¬ (k = 1 ∨ k = 2 ∨ k = 3 ∨ k = 4 ∨ k = 5 ∨ k = 6) by omega) with rfl | rfl | rfl | rfl | rfl | rfl | ho
  rotate_left 6
  have b1 : (k == 1) = false := beq_eq_false_iff_ne.2 (by omega)
  have b2 : (k == 2) = false := beq_eq_false_iff_ne.2 (by omega)
  have b3 : (k == 3) = false := beq_eq_false_iff_ne.2 (by omega)
  have b4 : (k == 4) = false := beq_eq_false_iff_ne.2 (by omega)
  have b5 : (k == 5) = false := beq_eq_false_iff_ne.2 (by omega)
  have b6 : (k == 6) = false := beq_eq_false_iff_ne.2 (by omega)
  have Hf : Hid (opWord k = []) := by show opWord k = []; unfold opWord; rw [if_neg (by omega), if_neg (by omega), if_neg (by omega), if_neg (by omega), if_neg (by omega), if_neg (by omega)]
  clear ho
  all_goals go_enter Tryd.func95, Tryd.ntmps95
  all_goals go_wp2
  all_goals (go_ret; refine ⟨?_, rfl⟩)
  all_goals first
    | (rw [Hf.out]; rfl)
    | rfl

/-- A field of a call. -/
def Call.field (c : Call) (f : Int) : Int := if f = 0 then c.num else c.args.getD (f - 1).toNat 0

set_option maxHeartbeats 400000 in
theorem callField_c (c : Call) (v : Value) (f : Int) (w : World) (hv : CallAt w v c) (h0 : 0 ≤ f) (h1 : f ≤ c.args.length) (h2 : c.args.length ≤ 1000000) : Calls Tryd.prog 56 #[v, .int .i64 f] w fun e w' => e = .returned (.int .i64 (c.field f)) ∧ Below w.heap.size w w' := by
  obtain ⟨s, rfl, a, cp, rfl, hle, hcap, hr⟩ := hv
  have HB := Lib.hid (Below.refl w.heap.size w)
  by_cases hf : f = 0
  · subst hf
    go_enter Tryd.func56, Tryd.ntmps56
    go_wp2
    go_ret
    exact ⟨rfl, bw_alloc HB.out _⟩
  · obtain ⟨k, rfl⟩ : ∃ k : Nat, f = k + 1 := ⟨(f - 1).toNat, by omega⟩
    have hk : k < c.args.length := by omega
    obtain ⟨b, off, rfl, hrow⟩ := hr (by intro h; have := congrArg List.length h; simp at this; simp [this] at hk)
    have hbl : b < w.heap.size := hrow.lt (by simp; omega)
    have hcell := (hrow.below (bw_alloc (Below.refl w.heap.size w) (.cells #[.int .i64 c.num, .slice (some ⟨b, off, none⟩) c.args.length cp] 32)) hbl).at (ints_at _ _ hk)
    have Hf : Hid (c.field (k + 1) = c.args[k]) := by show c.field (k + 1) = c.args[k]; unfold Call.field; rw [if_neg (by omega), show ((k : Int) + 1 - 1).toNat = k by omega]; simp [hk]
    have b0 : ((k : Int) + 1 == 0) = false := beq_eq_false_iff_ne.2 (by omega)
    clear hr hf
    go_enter Tryd.func56, Tryd.ntmps56
    go_wp2
    go_ret
    exact ⟨by rw [Hf.out]; rfl, bw_alloc HB.out _⟩
set_option maxHeartbeats 400000 in
theorem l2Field_c (c : Call) (v : Value) (f : Int) (w : World) (hv : CallAt w v c) (h0 : 0 ≤ f) (h1 : f ≤ c.args.length) (h2 : c.args.length ≤ 1000000) : Calls Tryd.prog 88 #[v, .int .i64 f] w fun e w' => e = .returned (.int .i64 (c.field f)) ∧ Below w.heap.size w w' := by
  obtain ⟨s, rfl, a, cp, rfl, hle, hcap, hr⟩ := hv
  have HB := Lib.hid (Below.refl w.heap.size w)
  by_cases hf : f = 0
  · subst hf
    go_enter Tryd.func88, Tryd.ntmps88
    go_wp2
    go_ret
    exact ⟨rfl, bw_alloc HB.out _⟩
  · obtain ⟨k, rfl⟩ : ∃ k : Nat, f = k + 1 := ⟨(f - 1).toNat, by omega⟩
    have hk : k < c.args.length := by omega
    obtain ⟨b, off, rfl, hrow⟩ := hr (by intro h; have := congrArg List.length h; simp at this; simp [this] at hk)
    have hbl : b < w.heap.size := hrow.lt (by simp; omega)
    have hcell := (hrow.below (bw_alloc (Below.refl w.heap.size w) (.cells #[.int .i64 c.num, .slice (some ⟨b, off, none⟩) c.args.length cp] 32)) hbl).at (ints_at _ _ hk)
    have Hf : Hid (c.field (k + 1) = c.args[k]) := by show c.field (k + 1) = c.args[k]; unfold Call.field; rw [if_neg (by omega), show ((k : Int) + 1 - 1).toNat = k by omega]; simp [hk]
    have b0 : ((k : Int) + 1 == 0) = false := beq_eq_false_iff_ne.2 (by omega)
    clear hr hf
    go_enter Tryd.func88, Tryd.ntmps88
    go_wp2
    go_ret
    exact ⟨by rw [Hf.out]; rfl, bw_alloc HB.out _⟩

set_option maxHeartbeats 400000 in
theorem callOk_i (c : Call) (v : Value) (w : World) (hv : CallAt w v c) : Calls Tryd.prog 53 #[v] w fun e w' => e = .returned (.bool c.okB) ∧ Below w.heap.size w w' := by
  obtain ⟨s, rfl, a, cp, rfl, hle, hcap, hr⟩ := hv
  have hB : Below w.heap.size w (w.alloc (.cells #[.int .i64 c.num, .slice a c.args.length cp] 32)) := (Below.refl _ _).alloc (Nat.le_refl _) _
  by_cases hn : c.args.length = 4
  · have h2 : ((c.args.length : Int) != 4) = false := by simp; omega
    have hne : ints c.args ≠ [] := by intro h; have := congrArg List.length h; simp at this; simp [this] at hn
    obtain ⟨b, off, rfl, hrow⟩ := hr hne
    have Hn := Lib.hid hn
    have hl : c.args.length ≤ 4 := by omega
    have hbl : b < w.heap.size := hrow.lt (by simp; omega)
    clear hn hr hne
    by_cases h1 : wordB c.num = true
    · go_enter Tryd.func53, Tryd.ntmps53
      go_wp2_with (go_at_call 80; refine (wordOk_c _ _).mono ?_; rintro e w' ⟨rfl, rfl⟩)
      go_loop [4, 18] (fun _ i => ∃ k : Nat, k ≤ c.args.length ∧ i = .int .i64 k ∧ (c.args.take k).all wordB = true) (fun _ i => 4 - (intOf i).toNat)
      case atStart => exact ⟨0, Nat.zero_le _, rfl, by simp⟩
      case round =>
        obtain ⟨k, hk, rfl, hall⟩ := hrel
        have Hall := Lib.hid hall
        clear hall
        by_cases hlt : k < c.args.length
        · have hcell := (hrow.below hB hbl).at (ints_at _ _ hlt)
          go_wp2_with (go_at_call 80; refine (wordOk_c _ _).mono ?_; rintro e w' ⟨rfl, rfl⟩)
          · have h3 : (!wordB c.args[k]) = true := by assumption
            go_ret
            refine ⟨?_, hB⟩
            have hf : c.args.all wordB = false := by
              rw [List.all_eq_false]; exact ⟨_, List.getElem_mem hlt, by simpa using h3⟩
            simp [Call.okB, hf]
          · have h3 : (!wordB c.args[k]) = false := by assumption
            go_round
            case rel => exact ⟨k + 1, by omega, by go_num, by rw [all_take_succ _ _ _ hlt, Hall.out]; simpa using h3⟩
            case measure => simp [intOf]; omega
        · go_wp2
          go_ret
          refine ⟨?_, hB⟩
          have hk' : k = c.args.length := by omega
          have hall' := Hall.out
          rw [hk', List.take_length] at hall'
          have hn' := Hn.out
          simp [Call.okB, h1, hn', hall']
    · go_enter Tryd.func53, Tryd.ntmps53
      go_wp2_with (go_at_call 80; refine (wordOk_c _ _).mono ?_; rintro e w' ⟨rfl, rfl⟩)
      go_ret
      exact ⟨by simp at h1; simp [Call.okB, h1], hB⟩
  · have h2 : ((c.args.length : Int) != 4) = true := by simp; omega
    have Hf : Hid (c.okB = false) := by show c.okB = false; simp [Call.okB, hn]
    go_enter Tryd.func53, Tryd.ntmps53
    go_wp2_with (go_at_call 80; refine (wordOk_c _ _).mono ?_; rintro e w' ⟨rfl, rfl⟩)
    all_goals (go_ret; refine ⟨?_, hB⟩; rw [Hf.out]; rfl)

set_option maxRecDepth 100000 in
theorem l3Names_c (w : World) : Calls Tryd.prog 89 #[] w fun e w' => e = .returned (.slice (some ⟨w.heap.size, 0, none⟩) 7 7) ∧ w.alloc (.cells #[str [], str (opWord 1), str (opWord 2), str (opWord 3), str (opWord 4), str (opWord 5), str (opWord 6)] 9) = w' := by
  go_enter Tryd.func89, Tryd.ntmps89
  go_wp2
  go_ret
  exact ⟨rfl, rfl⟩
end Go.Proofs.YtgogkpojeomabaaDoor
