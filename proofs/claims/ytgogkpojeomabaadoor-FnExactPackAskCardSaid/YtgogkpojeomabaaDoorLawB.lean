/- The law's copies of a call, and its equality. -/
import Derived.Test.YtgogkpojeomabaaDoorLawA
import Derived.Deep.OwnRows
set_option linter.unusedVariables false
set_option linter.unusedSimpArgs false
namespace Go.Proofs.YtgogkpojeomabaaDoor
open Go.RowKit

theorem int_info : (Tryd.prog.info? 3).map (fun i => (i.zero, i.size, i.bytes)) = some (some (.int .i64 0), 1, 8) := by kernel_rfl
/-- The list reads from a block from B up. -/
def IntsFrom (B : Nat) (w : World) (v : Value) (xs : List Int) : Prop := ∃ (a : Option Addr) (c : Nat), v = .slice a xs.length c ∧ xs.length ≤ c ∧ c ≤ 9223372036854775807 ∧ (ints xs ≠ [] → ∃ b off, a = some ⟨b, off, none⟩ ∧ B ≤ b ∧ RowAt w b off (ints xs))
theorem IntsFrom.at {B : Nat} {w : World} {v : Value} {xs : List Int} (h : IntsFrom B w v xs) : IntsAt w v xs := by
  obtain ⟨a, c, rfl, h1, h2, h3⟩ := h
  exact ⟨a, c, rfl, h1, h2, fun hne => by obtain ⟨b, off, rfl, _, hr⟩ := h3 hne; exact ⟨b, off, rfl, hr⟩⟩
theorem IntsFrom.set {B : Nat} {w : World} {v : Value} {xs : List Int} (h : IntsFrom B w v xs) {a : Addr} (ha : a.block < B) (u : Value) : IntsFrom B (w.setCell a u) v xs := by
  obtain ⟨s, c, rfl, h1, h2, h3⟩ := h
  refine ⟨s, c, rfl, h1, h2, fun hne => ?_⟩
  obtain ⟨b, off, rfl, hb, hr⟩ := h3 hne
  refine ⟨b, off, rfl, hb, fun j hj => ?_⟩
  rw [World.cell?_of_block (w := w) (heap_setCell_other w a b u (by omega))]
  exact hr j hj
def CopyRel (w : World) (xs : List Int) (i : Value) (wr : World) : Prop :=
  ∃ k : Nat, k ≤ xs.length ∧ i = .int .i64 k ∧ wr.rowIs w.heap.size 3 xs.length (fun j => if j < k then .int .i64 (xs.getD j 0) else .int .i64 0) ∧ Below w.heap.size w wr

set_option maxHeartbeats 1000000 in
set_option maxRecDepth 100000 in
theorem toIntS_c (xs : List Int) (v : Value) (w : World) (hv : IntsAt w v xs) (hl : xs.length ≤ 1048576) :
    Calls Tryd.prog 38 #[v] w fun e w' => (∃ v', e = .returned v' ∧ IntsFrom w.heap.size w' v' xs) ∧ Below w.heap.size w w' := by
  have HB := Lib.hid (Below.refl w.heap.size w)
  obtain ⟨i0, hi, hz0, hz1, hz2⟩ := info_parts int_info
  obtain ⟨a, cp, rfl, hle, hcap, hr⟩ := hv
  have Hr := Lib.hid hr
  clear hr
  go_enter Tryd.func38, Tryd.ntmps38
  go_wp2_with (at_make; refine wpList_make_row _ rfl _ _ 24 rfl 3 i0 (.int .i64 0) Tryd.underlying24 hi hz0 hz1 rfl .i64 .i64 xs.length rfl rfl (by rw [hz2]; omega) (by omega) ?_)
  go_loopw [4] (fun i wr => CopyRel w xs i wr) (fun i _ => xs.length - (intOf i).toNat)
  case atStart =>
    refine ⟨0, Nat.zero_le _, rfl, ?_, bw_alloc HB.out _⟩
    exact (World.rowIs_made w (.int .i64 0) xs.length _).congr fun i _ => by simp
  case round =>
    obtain ⟨k, hk, rfl, hrow, hbw⟩ := hrel
    have Hrow := Lib.hid hrow
    have Hbw := Lib.hid hbw
    clear hrow hbw
    by_cases hlt : k < xs.length
    · obtain ⟨b, off, rfl, hrw⟩ := Hr.out (by intro h; have h2 := congrArg List.length h; rw [ints_length, List.length_nil] at h2; omega)
      have c0 := (hrw.keep Hbw.out).at (ints_at xs k hlt)
      have d0 := Hrow.out.cell hlt
      have d1 := Hrow.out.frozen k
      clear hrw
      simp only [Nat.lt_irrefl, if_false] at d0
      go_wp2
      go_roundw
      case rel =>
        refine ⟨k + 1, hlt, by go_num, ?_, bw_set Hbw.out (Nat.le_refl _) _⟩
        refine (Hrow.out.set k _).congr fun j hj => ?_
        by_cases h1 : j = k
        · subst h1
          simp [hlt]
        · by_cases h2 : j < k
          · simp [h1, h2]; omega
          · simp [h1, h2]; omega
      case measure => simp [intOf]; omega
    · go_wp2
      go_ret
      refine ⟨⟨_, rfl, ?_⟩, Hbw.out⟩
      refine ⟨_, _, rfl, Nat.le_refl _, by omega, fun _ => ⟨_, 0, rfl, Nat.le_refl _, fun j hj => ?_⟩⟩
      have hj2 : j < xs.length := by simpa using hj
      rw [Nat.zero_add, Hrow.out.cell hj2, if_pos (by omega)]
      simp [ints, hj2]


set_option maxHeartbeats 1000000 in
set_option maxRecDepth 100000 in
theorem toCall_c (c : Call) (v : Value) (w : World) (hv : CallAt w v c) (hl : c.args.length ≤ 1048576) :
    Calls Tryd.prog 12 #[v] w fun e w' => (∃ v', e = .returned v' ∧ CallAt w' v' c) ∧ Below w.heap.size w w' := by
  have HB := Lib.hid (Below.refl w.heap.size w)
  obtain ⟨s, rfl, hs⟩ := hv
  have Hs := Lib.hid hs
  obtain ⟨a, cp, rfl⟩ := intsAt_val hs
  clear hs
  go_enter Tryd.func12, Tryd.ntmps12
  go_wp2_with fail
  refine (toIntS_c c.args _ _ ?_ hl).mono ?_
  · apply SlAt.keep Hs.out
    repeat (first | exact HB.out | refine bw_set ?_ (by first | exact Nat.le_refl _ | (simp; done) | (simp; omega)) _ | refine bw_alloc ?_ _)
  rintro e w1 ⟨⟨v', rfl, hv'⟩, hb1⟩
  have Hv := Lib.hid hv'
  have Hb1 := Lib.hid (bw_step (bw_alloc (bw_alloc (bw_alloc HB.out (.cells #[.int .i64 c.num, .slice a c.args.length cp] 26)) (.cells #[.int .i64 0, .slice none 0 0] 32)) (.cells #[.int .i64 c.num, .slice none 0 0] 32)) hb1)
  have hx := (Blk.new ((w.alloc (.cells #[.int .i64 c.num, .slice a c.args.length cp] 26)).alloc (.cells #[.int .i64 0, .slice none 0 0] 32)) #[.int .i64 c.num, .slice none 0 0] 32).below hb1
  have hr := ((Blk.new (w.alloc (.cells #[.int .i64 c.num, .slice a c.args.length cp] 26)) #[.int .i64 0, .slice none 0 0] 32).below (bw_alloc (Below.refl _ _) (.cells #[.int .i64 c.num, .slice none 0 0] 32))).below hb1
  obtain ⟨av, cv, rfl⟩ := intsAt_val hv'.at
  rw [show ((w.alloc (.cells #[.int .i64 c.num, .slice a c.args.length cp] 26)).alloc (.cells #[.int .i64 0, .slice none 0 0] 32)).heap.size = w.heap.size + 1 + 1 from by simp] at hx
  rw [show (w.alloc (.cells #[.int .i64 c.num, .slice a c.args.length cp] 26)).heap.size = w.heap.size + 1 from by simp] at hr
  obtain ⟨⟨x0, x1⟩, y0, y1⟩ := blk2 hx
  obtain ⟨⟨r0, r1⟩, s0, s1⟩ := blk2 hr
  clear hb1 hv' hx hr
  go_wp2_with fail
  refine bodyPost_ret (v := .agg #[.int .i64 c.num, .slice av c.args.length cv]) (by simp [results, Tryd.results12, go_sem, x0, x1, r0, r1]) rfl ?_
  refine ⟨⟨_, rfl, _, rfl, ?_⟩, ?_⟩
  · exact (((Hv.out.set (by simp) _).set (by simp) _).set (by simp) _).at
  · repeat (first | exact Hb1.out | refine bw_set ?_ (by first | exact Nat.le_refl _ | (simp; done) | (simp; omega)) _)

/-- Two reads of one list are equal. -/
def EqRel (n : Nat) (w : World) (i : Value) (wr : World) : Prop := ∃ k : Nat, k ≤ n ∧ i = .int .i64 k ∧ Below w.heap.size w wr

set_option maxHeartbeats 1000000 in
set_option maxRecDepth 100000 in
theorem eqIntS_c (xs : List Int) (v u : Value) (w : World) (hv : IntsAt w v xs) (hu : IntsAt w u xs) (hl : xs.length ≤ 1048576) :
    Calls Tryd.prog 40 #[v, u] w fun e w' => e = .returned (.bool true) ∧ Below w.heap.size w w' := by
  have HB := Lib.hid (Below.refl w.heap.size w)
  obtain ⟨a, cp, rfl, hle, hcap, hr⟩ := hv
  obtain ⟨a2, cp2, rfl, hle2, hcap2, hr2⟩ := hu
  have Hr := Lib.hid hr
  have Hr2 := Lib.hid hr2
  clear hr hr2
  go_enter Tryd.func40, Tryd.ntmps40
  go_wp2
  go_loopw [5] (fun i wr => EqRel xs.length w i wr) (fun i _ => xs.length - (intOf i).toNat)
  case atStart => exact ⟨0, Nat.zero_le _, rfl, HB.out⟩
  case round =>
    obtain ⟨k, hk, rfl, hbw⟩ := hrel
    have Hbw := Lib.hid hbw
    clear hbw
    by_cases hlt : k < xs.length
    · obtain ⟨b, off, rfl, hrw⟩ := Hr.out (by intro h; have h2 := congrArg List.length h; rw [ints_length, List.length_nil] at h2; omega)
      obtain ⟨b2, off2, rfl, hrw2⟩ := Hr2.out (by intro h; have h2 := congrArg List.length h; rw [ints_length, List.length_nil] at h2; omega)
      have c0 := (hrw.keep Hbw.out).at (ints_at xs k hlt)
      have d0 := (hrw2.keep Hbw.out).at (ints_at xs k hlt)
      clear hrw hrw2
      have i0 : (0 : Int) ≤ (k : Int) := by omega
      have i1 : (k : Int) < xs.length := by omega
      go_upto_region 6 with fail
      go_quiet (fail)
      all_goals
        go_wp2
        go_roundw
        case rel => exact ⟨k + 1, hlt, by go_num, bw_drewN Hbw.out _⟩
        case measure => simp [intOf]; omega
    · go_wp2
      go_ret
      exact ⟨rfl, Hbw.out⟩

set_option maxHeartbeats 1000000 in
set_option maxRecDepth 100000 in
theorem eqCall_c (c : Call) (v u : Value) (w : World) (hv : CallAt w v c) (hu : CallAt w u c) (hl : c.args.length ≤ 1048576) :
    Calls Tryd.prog 14 #[v, u] w fun e w' => e = .returned (.bool true) ∧ Below w.heap.size w w' := by
  have HB := Lib.hid (Below.refl w.heap.size w)
  obtain ⟨s, rfl, hs⟩ := hv
  obtain ⟨s2, rfl, hs2⟩ := hu
  have Hs := Lib.hid hs
  have Hs2 := Lib.hid hs2
  obtain ⟨a, cp, rfl⟩ := intsAt_val hs
  obtain ⟨a2, cp2, rfl⟩ := intsAt_val hs2
  clear hs hs2
  go_enter Tryd.func14, Tryd.ntmps14
  go_wp2_with fail
  refine (eqIntS_c c.args _ _ _ (Hs.out.keep (bw_alloc (bw_alloc HB.out _) _)) (Hs2.out.keep (bw_alloc (bw_alloc HB.out _) _)) hl).mono ?_
  rintro e w1 ⟨rfl, hb1⟩
  go_wp2
  go_ret
  exact ⟨rfl, bw_step (bw_alloc (bw_alloc HB.out _) _) hb1⟩
end Go.Proofs.YtgogkpojeomabaaDoor
