/- What is done at a place of a program: the methods of the five types, and doingOf. -/
import Derived.Test.YtgogkpojeomabaaDoorWc
set_option linter.unusedVariables false
set_option linter.unusedSimpArgs false
namespace Go.Proofs.YtgogkpojeomabaaDoor
open Go.RowKit

/-- Bits that both numbers have. -/
def band (a b : Int) : Int := bits .and .i64 a b
theorem band_nat (a b : Nat) (ha : a < 9223372036854775808) (hb : b < 9223372036854775808) : band a b = ((a &&& b : Nat) : Int) := by
  have h1 : (BitVec.ofInt 64 (a : Int) &&& BitVec.ofInt 64 (b : Int)).toNat = a &&& b := by
    rw [BitVec.toNat_and, BitVec.toNat_ofInt, BitVec.toNat_ofInt]
    congr 1 <;> omega
  have h2 : (a &&& b) ≤ a := Nat.and_le_left
  show IntKind.i64.wrap ((BitVec.ofInt 64 (a : Int) &&& BitVec.ofInt 64 (b : Int)).toNat : Nat) = _
  rw [h1, IntKind.wrap_i64]
  omega
theorem band_bound {a b : Int} (ha : 0 ≤ a) (ha' : a < 9223372036854775808) (hb : 0 ≤ b) (hb' : b < 9223372036854775808) : 0 ≤ band a b ∧ band a b ≤ a := by
  obtain ⟨m, rfl⟩ := Int.eq_ofNat_of_zero_le ha
  obtain ⟨n, rfl⟩ := Int.eq_ofNat_of_zero_le hb
  rw [band_nat m n (by omega) (by omega)]
  have : (m &&& n) ≤ m := Nat.and_le_left
  omega
theorem ret2_pair {a b c d : Value} (h1 : a = c) (h2 : b = d) : Ending.returned (.tuple #[a, b]) = .returned (.tuple #[c, d]) := by rw [h1, h2]
/-- Returned: numbers in new memory, or none. -/
def RetInts (w : World) (xs : List Int) (e : Ending) (w' : World) : Prop := ∃ v, e = .returned v ∧ IntsAt w' v xs ∧ Below w.heap.size w w'
theorem ints_new (w : World) (xs : List Int) (cs : Array Value) (g n : Nat) (hg : g = w.heap.size) (hn : n = xs.length) (hcs : cs.toList = ints xs) (hl : xs.length ≤ 1000) : IntsAt (w.alloc (.cells cs 3)) (.slice (some ⟨g, 0, none⟩) n n) xs := by
  subst hg hn
  refine ⟨_, _, rfl, Nat.le_refl _, by omega, fun _ => ⟨w.heap.size, 0, rfl, fun j hj => ?_⟩⟩
  have h0 : (w.alloc (.cells cs 3)).heap[w.heap.size]? = some (.cells cs 3) := heap_alloc_new w _
  rw [Nat.zero_add]
  simp only [World.cell?, h0]
  have : cs[j]? = some (ints xs)[j] := by rw [← Array.getElem?_toList, hcs]; exact List.getElem?_eq_getElem hj
  simp [this]


set_option maxHeartbeats 400000 in
theorem loading_fits (field : Int) (w : World) : Calls Tryd.prog 152 #[.agg #[.int .i64 field]] w fun e w' => e = .returned (.bool (inB field 0 4)) ∧ Below w.heap.size w w' := by
  have HB := Lib.hid (Below.refl w.heap.size w)
  go_enter Tryd.func152, Tryd.ntmps152
  go_wp2_with (first | (go_at_call 80; refine (wordOk_c _ _).mono ?_; rintro e w' ⟨rfl, rfl⟩) | (go_at_call 79; refine (verdictOk_c _ _).mono ?_; rintro e w' ⟨rfl, rfl⟩))
  all_goals (go_ret; refine ⟨?_, bw_alloc HB.out _⟩)
  all_goals first
    | rfl
    | (simp [inB, *]; done)
    | (simp [inB, *]; omega)

set_option maxHeartbeats 400000 in
theorem loading_ways (field : Int) (w : World) : Calls Tryd.prog 153 #[.agg #[.int .i64 field]] w (RetInts w [0]) := by
  have HB := Lib.hid (Below.refl w.heap.size w)
  go_enter Tryd.func153, Tryd.ntmps153
  go_wp2
  go_ret
  exact ⟨.slice (some ⟨w.heap.size + 1, 0, none⟩) 1 1, rfl, ints_new (w.alloc _) [0] #[.int .i64 0] _ _ (by simp) rfl rfl (by simp), bw_alloc (bw_alloc HB.out _) _⟩

set_option maxHeartbeats 400000 in
theorem loading_do (field hand : Int) (c : Call) (v : Value) (w : World) (hv : CallAt w v c) (h0 : 0 ≤ field) (h1 : field ≤ 4) (hc : c.args.length = 4) : Calls Tryd.prog 151 #[.agg #[.int .i64 field], .int .i64 hand, v] w fun e w' => e = .returned (.tuple #[.int .i64 (c.field field), .int .i64 0]) ∧ Below w.heap.size w w' := by
  have HB := Lib.hid (Below.refl w.heap.size w)
  obtain ⟨sv, hvv, hsv⟩ := hv
  have Hs := Lib.hid hsv
  clear hsv
  subst hvv
  go_enter Tryd.func151, Tryd.ntmps151
  go_wp2_with (first | (go_at_call 56; refine (callField_c c _ _ _ ⟨_, rfl, Hs.out.keep (bw_alloc (bw_alloc HB.out _) _)⟩ (by omega) (by omega) (by omega)).mono ?_; rintro e w' ⟨rfl, hb⟩) | (go_at_call 55; refine (holds_c _ _ _ _).mono ?_; rintro e w' ⟨rfl, rfl⟩))
  go_ret2
  all_goals refine ⟨by first | rfl | (simp [*]; done), ?_⟩
  all_goals (repeat (first | exact HB.out | apply bw_alloc | apply bw_drew | apply bw_drewN | refine bw_step ?_ (by assumption)))

set_option maxHeartbeats 400000 in
theorem masking_fits (bits : Int) (w : World) : Calls Tryd.prog 155 #[.agg #[.int .i64 bits]] w fun e w' => e = .returned (.bool (wordB bits)) ∧ Below w.heap.size w w' := by
  have HB := Lib.hid (Below.refl w.heap.size w)
  go_enter Tryd.func155, Tryd.ntmps155
  go_wp2_with (first | (go_at_call 80; refine (wordOk_c _ _).mono ?_; rintro e w' ⟨rfl, rfl⟩) | (go_at_call 79; refine (verdictOk_c _ _).mono ?_; rintro e w' ⟨rfl, rfl⟩))
  all_goals (go_ret; refine ⟨?_, bw_alloc HB.out _⟩)
  all_goals first
    | rfl
    | (simp [inB, *]; done)
    | (simp [inB, *]; omega)

set_option maxHeartbeats 400000 in
theorem masking_ways (bits : Int) (w : World) : Calls Tryd.prog 156 #[.agg #[.int .i64 bits]] w (RetInts w [0]) := by
  have HB := Lib.hid (Below.refl w.heap.size w)
  go_enter Tryd.func156, Tryd.ntmps156
  go_wp2
  go_ret
  exact ⟨.slice (some ⟨w.heap.size + 1, 0, none⟩) 1 1, rfl, ints_new (w.alloc _) [0] #[.int .i64 0] _ _ (by simp) rfl rfl (by simp), bw_alloc (bw_alloc HB.out _) _⟩

set_option maxHeartbeats 400000 in
theorem masking_do (bits hand : Int) (c : Call) (v : Value) (w : World) (hv : CallAt w v c) (hh : 0 ≤ hand) (hb : 0 ≤ bits) : Calls Tryd.prog 154 #[.agg #[.int .i64 bits], .int .i64 hand, v] w fun e w' => e = .returned (.tuple #[.int .i64 (band hand bits), .int .i64 0]) ∧ Below w.heap.size w w' := by
  have HB := Lib.hid (Below.refl w.heap.size w)
  obtain ⟨sv, hvv, hsv⟩ := hv
  have Hs := Lib.hid hsv
  clear hsv
  subst hvv
  go_enter Tryd.func154, Tryd.ntmps154
  go_wp2_with (first | (go_at_call 56; refine (callField_c c _ _ _ ⟨_, rfl, Hs.out.keep (bw_alloc (bw_alloc HB.out _) _)⟩ (by omega) (by omega) (by omega)).mono ?_; rintro e w' ⟨rfl, hb⟩) | (go_at_call 55; refine (holds_c _ _ _ _).mono ?_; rintro e w' ⟨rfl, rfl⟩))
  go_ret2
  all_goals refine ⟨by first | rfl | (simp [*]; done), ?_⟩
  all_goals (repeat (first | exact HB.out | apply bw_alloc | apply bw_drew | apply bw_drewN | refine bw_step ?_ (by assumption)))

set_option maxHeartbeats 400000 in
theorem looking_fits (way value yes no : Int) (w : World) : Calls Tryd.prog 158 #[.agg #[.int .i64 way, .int .i64 value, .int .i64 yes, .int .i64 no]] w fun e w' => e = .returned (.bool ((wordB value && (decide (0 ≤ yes) && (decide (yes ≤ 6) && (decide (0 ≤ no) && decide (no ≤ 6))))))) ∧ Below w.heap.size w w' := by
  have HB := Lib.hid (Below.refl w.heap.size w)
  go_enter Tryd.func158, Tryd.ntmps158
  go_wp2_with (first | (go_at_call 80; refine (wordOk_c _ _).mono ?_; rintro e w' ⟨rfl, rfl⟩) | (go_at_call 79; refine (verdictOk_c _ _).mono ?_; rintro e w' ⟨rfl, rfl⟩))
  all_goals (go_ret; refine ⟨?_, bw_alloc HB.out _⟩)
  all_goals first
    | rfl
    | (simp [inB, *]; done)
    | (simp [inB, *]; omega)

set_option maxHeartbeats 400000 in
theorem looking_ways (way value yes no : Int) (w : World) : Calls Tryd.prog 159 #[.agg #[.int .i64 way, .int .i64 value, .int .i64 yes, .int .i64 no]] w (RetInts w [yes, no]) := by
  have HB := Lib.hid (Below.refl w.heap.size w)
  go_enter Tryd.func159, Tryd.ntmps159
  go_wp2
  go_ret
  exact ⟨.slice (some ⟨w.heap.size + 1, 0, none⟩) 2 2, rfl, ints_new (w.alloc _) [yes, no] #[.int .i64 yes, .int .i64 no] _ _ (by simp) rfl rfl (by simp), bw_alloc (bw_alloc HB.out _) _⟩

set_option maxHeartbeats 400000 in
theorem looking_do (way value yes no hand : Int) (c : Call) (v : Value) (w : World) (hv : CallAt w v c) : Calls Tryd.prog 157 #[.agg #[.int .i64 way, .int .i64 value, .int .i64 yes, .int .i64 no], .int .i64 hand, v] w fun e w' => e = .returned (.tuple #[.int .i64 hand, .int .i64 (if holdsB way hand value then yes else no)]) ∧ Below w.heap.size w w' := by
  have HB := Lib.hid (Below.refl w.heap.size w)
  obtain ⟨sv, hvv, hsv⟩ := hv
  have Hs := Lib.hid hsv
  clear hsv
  subst hvv
  go_enter Tryd.func157, Tryd.ntmps157
  go_wp2_with (first | (go_at_call 56; refine (callField_c c _ _ _ ⟨_, rfl, Hs.out.keep (bw_alloc (bw_alloc HB.out _) _)⟩ (by omega) (by omega) (by omega)).mono ?_; rintro e w' ⟨rfl, hb⟩) | (go_at_call 55; refine (holds_c _ _ _ _).mono ?_; rintro e w' ⟨rfl, rfl⟩))
  all_goals go_quiet (fail)
  all_goals go_wp2
  all_goals go_ret2
  all_goals refine ⟨by first | rfl | (simp [*]; done), ?_⟩
  all_goals (repeat (first | exact HB.out | apply bw_alloc | apply bw_drew | apply bw_drewN | refine bw_step ?_ (by assumption)))

set_option maxHeartbeats 400000 in
theorem jumping_fits (places : Int) (w : World) : Calls Tryd.prog 161 #[.agg #[.int .i64 places]] w fun e w' => e = .returned (.bool (decide (0 ≤ places))) ∧ Below w.heap.size w w' := by
  have HB := Lib.hid (Below.refl w.heap.size w)
  go_enter Tryd.func161, Tryd.ntmps161
  go_wp2_with (first | (go_at_call 80; refine (wordOk_c _ _).mono ?_; rintro e w' ⟨rfl, rfl⟩) | (go_at_call 79; refine (verdictOk_c _ _).mono ?_; rintro e w' ⟨rfl, rfl⟩))
  all_goals (go_ret; refine ⟨?_, bw_alloc HB.out _⟩)
  all_goals first
    | rfl
    | (simp [inB, *]; done)
    | (simp [inB, *]; omega)

set_option maxHeartbeats 400000 in
theorem jumping_ways (places : Int) (w : World) : Calls Tryd.prog 162 #[.agg #[.int .i64 places]] w (RetInts w [places]) := by
  have HB := Lib.hid (Below.refl w.heap.size w)
  go_enter Tryd.func162, Tryd.ntmps162
  go_wp2
  go_ret
  exact ⟨.slice (some ⟨w.heap.size + 1, 0, none⟩) 1 1, rfl, ints_new (w.alloc _) [places] #[.int .i64 places] _ _ (by simp) rfl rfl (by simp), bw_alloc (bw_alloc HB.out _) _⟩

set_option maxHeartbeats 400000 in
theorem jumping_do (places hand : Int) (c : Call) (v : Value) (w : World) (hv : CallAt w v c) : Calls Tryd.prog 160 #[.agg #[.int .i64 places], .int .i64 hand, v] w fun e w' => e = .returned (.tuple #[.int .i64 hand, .int .i64 places]) ∧ Below w.heap.size w w' := by
  have HB := Lib.hid (Below.refl w.heap.size w)
  obtain ⟨sv, hvv, hsv⟩ := hv
  have Hs := Lib.hid hsv
  clear hsv
  subst hvv
  go_enter Tryd.func160, Tryd.ntmps160
  go_wp2_with (first | (go_at_call 56; refine (callField_c c _ _ _ ⟨_, rfl, Hs.out.keep (bw_alloc (bw_alloc HB.out _) _)⟩ (by omega) (by omega) (by omega)).mono ?_; rintro e w' ⟨rfl, hb⟩) | (go_at_call 55; refine (holds_c _ _ _ _).mono ?_; rintro e w' ⟨rfl, rfl⟩))
  go_quiet (fail)
  go_wp2
  go_ret2
  all_goals refine ⟨by first | rfl | (simp [*]; done), ?_⟩
  all_goals (repeat (first | exact HB.out | apply bw_alloc | apply bw_drew | apply bw_drewN | refine bw_step ?_ (by assumption)))

set_option maxHeartbeats 400000 in
theorem ending_fits (verdict : Int) (w : World) : Calls Tryd.prog 164 #[.agg #[.int .i64 verdict]] w fun e w' => e = .returned (.bool (verdictB verdict)) ∧ Below w.heap.size w w' := by
  have HB := Lib.hid (Below.refl w.heap.size w)
  go_enter Tryd.func164, Tryd.ntmps164
  go_wp2_with (first | (go_at_call 80; refine (wordOk_c _ _).mono ?_; rintro e w' ⟨rfl, rfl⟩) | (go_at_call 79; refine (verdictOk_c _ _).mono ?_; rintro e w' ⟨rfl, rfl⟩))
  all_goals (go_ret; refine ⟨?_, bw_alloc HB.out _⟩)
  all_goals first
    | rfl
    | (simp [inB, *]; done)
    | (simp [inB, *]; omega)

set_option maxHeartbeats 400000 in
theorem ending_ways (verdict : Int) (w : World) : Calls Tryd.prog 165 #[.agg #[.int .i64 verdict]] w (RetInts w []) := by
  have HB := Lib.hid (Below.refl w.heap.size w)
  go_enter Tryd.func165, Tryd.ntmps165
  go_wp2
  go_ret
  exact ⟨_, rfl, ⟨none, 0, rfl, Nat.le_refl _, by decide, fun h => absurd rfl h⟩, bw_alloc HB.out _⟩

set_option maxHeartbeats 400000 in
theorem ending_do (verdict hand : Int) (c : Call) (v : Value) (w : World) (hv : CallAt w v c) : Calls Tryd.prog 163 #[.agg #[.int .i64 verdict], .int .i64 hand, v] w fun e w' => e = .returned (.tuple #[.int .i64 hand, .int .i64 0]) ∧ Below w.heap.size w w' := by
  have HB := Lib.hid (Below.refl w.heap.size w)
  obtain ⟨sv, hvv, hsv⟩ := hv
  have Hs := Lib.hid hsv
  clear hsv
  subst hvv
  go_enter Tryd.func163, Tryd.ntmps163
  go_wp2_with (first | (go_at_call 56; refine (callField_c c _ _ _ ⟨_, rfl, Hs.out.keep (bw_alloc (bw_alloc HB.out _) _)⟩ (by omega) (by omega) (by omega)).mono ?_; rintro e w' ⟨rfl, hb⟩) | (go_at_call 55; refine (holds_c _ _ _ _).mono ?_; rintro e w' ⟨rfl, rfl⟩))
  go_ret2
  all_goals refine ⟨by first | rfl | (simp [*]; done), ?_⟩
  all_goals (repeat (first | exact HB.out | apply bw_alloc | apply bw_drew | apply bw_drewN | refine bw_step ?_ (by assumption)))
end Go.Proofs.YtgogkpojeomabaaDoor
