/- codeWays. -/
import Derived.Test.YtgogkpojeomabaaDoorWays
set_option linter.unusedVariables false
set_option linter.unusedSimpArgs false
namespace Go.Proofs.YtgogkpojeomabaaDoor
open Go.RowKit

def insCells (xs : List Ins) : List Value := xs.flatMap Ins.cells
def InsAt (w : World) (v : Value) (xs : List Ins) : Prop := SlAt w v xs.length (insCells xs)
theorem insCells_length (xs : List Ins) : (insCells xs).length = 4 * xs.length := by
  induction xs with
  | nil => rfl
  | cons x xs ih => simp [insCells, Ins.cells] at ih ⊢; omega
theorem insCells_at (xs : List Ins) (k j : Nat) (hk : k < xs.length) : (insCells xs)[k * 4 + j]? = if j < 4 then (xs[k]).cells[j]? else (insCells xs)[k * 4 + j]? := by
  split
  · rename_i hj
    induction xs generalizing k with
    | nil => simp at hk
    | cons x xs ih =>
      cases k with
      | zero => simp [insCells, Ins.cells]; match j, hj with | 0, _ => rfl | 1, _ => rfl | 2, _ => rfl | 3, _ => rfl
      | succ k =>
        have h := ih k (by simpa using hk)
        have e : insCells (x :: xs) = x.cells ++ insCells xs := rfl
        rw [e, List.getElem?_append_right (by simp [Ins.cells]; omega)]
        have e2 : (k + 1) * 4 + j - x.cells.length = k * 4 + j := by simp [Ins.cells]; omega
        rw [e2, h]; rfl
  · rfl
theorem InsAt.cell {w : World} {b off : Nat} {xs : List Ins} (h : RowAt w b off (insCells xs)) (k : Nat) (hk : k < xs.length) :
    w.cell? ⟨b, off + k * 4, none⟩ = some (.int .i64 xs[k].op) ∧ w.cell? ⟨b, off + k * 4 + 1, none⟩ = some (.int .i64 xs[k].k) ∧ w.cell? ⟨b, off + k * 4 + 2, none⟩ = some (.int .i64 xs[k].yes) ∧ w.cell? ⟨b, off + k * 4 + 3, none⟩ = some (.int .i64 xs[k].no) := by
  have g : ∀ j v, j < 4 → (xs[k]).cells[j]? = some v → w.cell? ⟨b, off + k * 4 + j, none⟩ = some v := fun j v hj hv => by
    have := h.at (j := k * 4 + j) (v := v) (by rw [insCells_at xs k j hk, if_pos hj]; exact hv)
    rwa [← Nat.add_assoc] at this
  exact ⟨g 0 _ (by omega) rfl, g 1 _ (by omega) rfl, g 2 _ (by omega) rfl, g 3 _ (by omega) rfl⟩

/-- From place i on each place is ok, of n in all. -/
def okFrom (n : Nat) : Nat → List Ins → Bool
  | _, [] => true
  | i, x :: xs => x.okB ((n : Int) - i - 2) && okFrom n (i + 1) xs
def waysB (xs : List Ins) : Bool := (decide (1 ≤ xs.length) && decide (xs.length ≤ 160)) && okFrom xs.length 0 xs
theorem okFrom_step {n k : Nat} {xs : List Ins} (hk : k < xs.length) : okFrom n k (xs.drop k) = (xs[k].okB ((n : Int) - k - 2) && okFrom n (k + 1) (xs.drop (k + 1))) := by
  rw [List.drop_eq_getElem_cons hk, okFrom]
theorem okFrom_end {n k : Nat} {xs : List Ins} (hk : xs.length ≤ k) : okFrom n k (xs.drop k) = true := by
  rw [List.drop_eq_nil_of_le hk, okFrom]

theorem okB_case1 (K Y N l : Int) : Ins.okB ⟨1, K, Y, N⟩ l = (Ins.known ⟨1, K, Y, N⟩ && (inB K 0 4) && ([0] : List Int).all (fun p => decide (p ≤ l))) := by
  rw [Bool.eq_iff_iff]
  simp [Ins.okB, Ins.known, Ins.straight, inB, wordB, verdictB]
  try omega
theorem okB_case2 (K Y N l : Int) : Ins.okB ⟨2, K, Y, N⟩ l = (Ins.known ⟨2, K, Y, N⟩ && (wordB K) && ([0] : List Int).all (fun p => decide (p ≤ l))) := by
  rw [Bool.eq_iff_iff]
  simp [Ins.okB, Ins.known, Ins.straight, inB, wordB, verdictB]
  try omega
theorem okB_case3 (K Y N l : Int) : Ins.okB ⟨3, K, Y, N⟩ l = (Ins.known ⟨3, K, Y, N⟩ && ((wordB K && (decide (0 ≤ Y) && (decide (Y ≤ 6) && (decide (0 ≤ N) && decide (N ≤ 6)))))) && ([Y, N] : List Int).all (fun p => decide (p ≤ l))) := by
  rw [Bool.eq_iff_iff]
  simp [Ins.okB, Ins.known, Ins.straight, inB, wordB, verdictB]
  try omega
theorem okB_case4 (K Y N l : Int) : Ins.okB ⟨4, K, Y, N⟩ l = (Ins.known ⟨4, K, Y, N⟩ && ((wordB K && (decide (0 ≤ Y) && (decide (Y ≤ 6) && (decide (0 ≤ N) && decide (N ≤ 6)))))) && ([Y, N] : List Int).all (fun p => decide (p ≤ l))) := by
  rw [Bool.eq_iff_iff]
  simp [Ins.okB, Ins.known, Ins.straight, inB, wordB, verdictB]
  try omega
theorem okB_case5 (K Y N l : Int) : Ins.okB ⟨5, K, Y, N⟩ l = (Ins.known ⟨5, K, Y, N⟩ && (decide (0 ≤ K)) && ([K] : List Int).all (fun p => decide (p ≤ l))) := by
  rw [Bool.eq_iff_iff]
  simp [Ins.okB, Ins.known, Ins.straight, inB, wordB, verdictB]
  try omega
theorem okB_case6 (K Y N l : Int) : Ins.okB ⟨6, K, Y, N⟩ l = (Ins.known ⟨6, K, Y, N⟩ && (verdictB K) && ([] : List Int).all (fun p => decide (p ≤ l))) := by
  rw [Bool.eq_iff_iff]
  simp [Ins.okB, Ins.known, Ins.straight, inB, wordB, verdictB]
  try omega

set_option maxHeartbeats 4000000 in
set_option maxRecDepth 100000 in
theorem codeWays_c (xs : List Ins) (v : Value) (w : World) (hv : InsAt w v xs) (hlen : xs.length ≤ 1000000) : Calls Tryd.prog 73 #[v] w fun e w' => e = .returned (.bool (waysB xs)) ∧ Below w.heap.size w w' := by
  have HB := Lib.hid (Below.refl w.heap.size w)
  obtain ⟨a, cp, rfl, hle, hcap, hr⟩ := hv
  by_cases h1 : xs.length < 1
  · have d1 : decide ((xs.length : Int) < 1) = true := by simp; omega
    have Hf : Hid (waysB xs = false) := by show waysB xs = false; unfold waysB; rw [decide_eq_false (show ¬ 1 ≤ xs.length by omega)]; rfl
    clear hr
    go_enter Tryd.func73, Tryd.ntmps73
    go_wp2
    go_ret
    exact ⟨by rw [Hf.out]; rfl, HB.out⟩
  · by_cases h2 : 160 < xs.length
    · have d1 : decide ((xs.length : Int) < 1) = false := by simp; omega
      have d2 : decide ((160 : Int) < xs.length) = true := by simp; omega
      have Hf : Hid (waysB xs = false) := by show waysB xs = false; unfold waysB; rw [decide_eq_false (show ¬ xs.length ≤ 160 by omega)]; simp
      clear hr
      go_enter Tryd.func73, Tryd.ntmps73
      go_wp2
      go_ret
      exact ⟨by rw [Hf.out]; rfl, HB.out⟩
    · obtain ⟨b, off, rfl, hrow⟩ := hr (by intro h; have := congrArg List.length h; rw [insCells_length] at this; simp at this; omega)
      have hbl : b < w.heap.size := hrow.lt (by rw [insCells_length]; omega)
      have d1 : decide ((xs.length : Int) < 1) = false := by simp; omega
      have d2 : decide ((160 : Int) < xs.length) = false := by simp; omega
      have Hw : Hid (waysB xs = okFrom xs.length 0 xs) := by show waysB xs = okFrom xs.length 0 xs; unfold waysB; rw [decide_eq_true (show xs.length ≤ 160 by omega), decide_eq_true (show 1 ≤ xs.length by omega)]; rfl
      clear hr
      go_enter Tryd.func73, Tryd.ntmps73
      go_wp2
      go_loopw [3, 4, 5, 6, 8, 19] (fun _ _ _ _ _ i wr => ∃ k : Nat, k ≤ xs.length ∧ i = .int .i64 k ∧ okFrom xs.length 0 xs = okFrom xs.length k (xs.drop k) ∧ Below w.heap.size w wr) (fun _ _ _ _ _ i _ => xs.length - (intOf i).toNat)
      case atStart => exact ⟨0, Nat.zero_le _, rfl, rfl, HB.out⟩
      case round =>
        obtain ⟨k, hk, rfl, hok, hbw⟩ := hrel
        have Hok := Lib.hid hok
        have Hbw := Lib.hid hbw
        clear hok hbw
        by_cases hlt : k < xs.length
        · obtain ⟨c0, c1, c2, c3⟩ := InsAt.cell (hrow.below Hbw.out hbl) k hlt
          have Hst := Lib.hid (okFrom_step (n := xs.length) (k := k) (xs := xs) hlt)
          generalize hx : xs[k] = x at c0 c1 c2 c3
          rw [hx] at Hst
          have Hx := Lib.hid hx
          clear hx
          obtain ⟨op, K, Y, N⟩ := x
          simp only at c0 c1 c2 c3
          rcases (show op = 1 ∨ op = 2 ∨ op = 3 ∨ op = 4 ∨ op = 5 ∨ op = 6 ∨ ¬ (op = 1 ∨ op = 2 ∨ op = 3 ∨ op = 4 ∨ op = 5 ∨ op = 6) by omega) with rfl | rfl | rfl | rfl | rfl | rfl | ho
          rotate_left 6
          · have Hz : Hid (waysB xs = false) := by
              show waysB xs = false
              rw [Hw.out, Hok.out, Hst.out]
              unfold Ins.okB; simp only
              rw [if_neg (by omega), if_neg (by omega), if_neg (by omega), if_neg (by omega), if_neg (by omega)]
              rfl
            have Hn : Hid (Ins.act ⟨op, K, Y, N⟩ = .nilIface ∧ Ins.known ⟨op, K, Y, N⟩ = false) := by
              show Ins.act ⟨op, K, Y, N⟩ = .nilIface ∧ Ins.known ⟨op, K, Y, N⟩ = false
              unfold Ins.act Ins.known; simp only
              rw [if_neg (by omega), if_neg (by omega), if_neg (by omega), if_neg (by omega), if_neg (by omega), if_neg (by omega), if_neg (by omega)]
              exact ⟨rfl, by simp; omega⟩
            clear ho
            go_wp2_with fail
            refine (doingOf_c ⟨op, K, Y, N⟩ _).mono ?_
            rintro e w1 ⟨he, hb1⟩
            rw [Hn.out.1, Hn.out.2] at he
            subst he
            go_wp2_with fail
            go_ret
            exact ⟨by rw [Hz.out]; rfl, bw_step (bw_alloc Hbw.out _) hb1⟩
          · have m1 := loading_m_fits
            have m2 := loading_m_ways
            rcases hkn : Ins.known ⟨1, K, Y, N⟩ with _ | _
            · have Hz : Hid (waysB xs = false) := by show waysB xs = false; rw [Hw.out, Hok.out, Hst.out, okB_case1, hkn]; rfl
              have Hkn := Lib.hid hkn
              clear hkn
              go_wp2_with fail
              refine (doingOf_c ⟨1, K, Y, N⟩ _).mono ?_
              rintro e w1 ⟨he, hb1⟩
              rw [Hkn.out] at he
              obtain rfl : e = .returned (.tuple #[.iface 154 (.agg #[.int .i64 K]), .bool false]) := he
              go_wp2_with fail
              go_ret
              exact ⟨by rw [Hz.out]; rfl, bw_step (bw_alloc Hbw.out _) hb1⟩
            · rcases hft : inB K 0 4 with _ | _
              · have Hz : Hid (waysB xs = false) := by show waysB xs = false; rw [Hw.out, Hok.out, Hst.out, okB_case1, hkn, hft]; rfl
                have Hkn := Lib.hid hkn
                have Hft := Lib.hid hft
                clear hkn hft
                go_wp2_with fail
                refine (doingOf_c ⟨1, K, Y, N⟩ _).mono ?_
                rintro e w1 ⟨he, hb1⟩
                rw [Hkn.out] at he
                obtain rfl : e = .returned (.tuple #[.iface 154 (.agg #[.int .i64 K]), .bool true]) := he
                go_wp2_with fail
                refine (loading_fits K _).mono ?_
                rintro e w2 ⟨he, hb2⟩
                rw [Hft.out] at he
                subst he
                go_wp2_with fail
                go_ret
                exact ⟨by rw [Hz.out]; rfl, bw_step (bw_step (bw_alloc Hbw.out _) hb1) hb2⟩
              · have Hz : Hid (Ins.okB ⟨1, K, Y, N⟩ ((xs.length : Int) - k - 2) = ([0] : List Int).all (fun p => decide (p ≤ (xs.length : Int) - k - 2))) := by
                  show Ins.okB ⟨1, K, Y, N⟩ ((xs.length : Int) - k - 2) = _
                  rw [okB_case1, hkn, hft]; rfl
                have Hkn := Lib.hid hkn
                have Hft := Lib.hid hft
                clear hkn hft
                go_wp2_with fail
                refine (doingOf_c ⟨1, K, Y, N⟩ _).mono ?_
                rintro e w1 ⟨he, hb1⟩
                rw [Hkn.out] at he
                obtain rfl : e = .returned (.tuple #[.iface 154 (.agg #[.int .i64 K]), .bool true]) := he
                go_wp2_with fail
                refine (loading_fits K _).mono ?_
                rintro e w2 ⟨he, hb2⟩
                rw [Hft.out] at he
                subst he
                go_wp2_with fail
                refine (loading_ways K _).mono ?_
                rintro e w3 ⟨v3, rfl, hi3, hb3⟩
                have Hb3 := Lib.hid (bw_step (bw_step (bw_step (bw_alloc Hbw.out _) hb1) hb2) hb3)
                clear hb1 hb2 hb3 m1 m2 c0 c1 c2 c3
                generalize ([0] : List Int) = ws at hi3 Hz
                obtain ⟨a3, cp3, rfl, hle3, hcap3, hr3⟩ := hi3
                have hl3 : ws.length ≤ 9223372036854775807 := by omega
                go_wp2
                go_loop [8, 39] (fun _ j => ∃ m : Nat, m ≤ ws.length ∧ j = .int .i64 m ∧ (ws.take m).all (fun p => decide (p ≤ (xs.length : Int) - k - 2)) = true) (fun _ j => ws.length - (intOf j).toNat)
                case atStart => exact ⟨0, Nat.zero_le _, rfl, by simp⟩
                case round =>
                  obtain ⟨m, hm, rfl, hall⟩ := hrel
                  have Hall := Lib.hid hall
                  clear hall
                  by_cases hmt : m < ws.length
                  · obtain ⟨b3, off3, rfl, hrow3⟩ := hr3 (by intro h; have := congrArg List.length h; simp at this; simp [this] at hmt)
                    have hcell := hrow3.at (ints_at _ _ hmt)
                    have Hts := Lib.hid (all_take_succ (fun p => decide (p ≤ (xs.length : Int) - k - 2)) ws m hmt)
                    clear hr3
                    generalize hq : ws[m] = q at hcell
                    have Hq := Lib.hid hq
                    clear hq
                    by_cases hqq : (xs.length : Int) - 2 - k < q
                    · have Hz2 : Hid (waysB xs = false) := by
                        show waysB xs = false
                        rw [Hw.out, Hok.out, Hst.out, Hz.out, Bool.and_eq_false_iff]
                        refine .inl (List.all_eq_false.2 ⟨q, Hq.out ▸ List.getElem_mem hmt, by simp; omega⟩)
                      go_wp2
                      go_ret
                      exact ⟨by rw [Hz2.out]; rfl, Hb3.out⟩
                    · go_wp2
                      go_round
                      case rel => exact ⟨m + 1, by omega, by go_num, by rw [Hts.out, Hall.out, Hq.out]; simp; omega⟩
                      case measure => simp [intOf]; omega
                  · have Hz2 : Hid (okFrom xs.length 0 xs = okFrom xs.length (k + 1) (xs.drop (k + 1))) := by
                      show okFrom xs.length 0 xs = okFrom xs.length (k + 1) (xs.drop (k + 1))
                      have hall := Hall.out
                      rw [show m = ws.length by omega, List.take_length] at hall
                      rw [Hok.out, Hst.out, Hz.out, hall]; rfl
                    go_wp2
                    go_roundw
                    case rel => exact ⟨k + 1, by omega, by go_num, Hz2.out, Hb3.out⟩
                    case measure => simp [intOf]; omega
          · have m1 := masking_m_fits
            have m2 := masking_m_ways
            rcases hkn : Ins.known ⟨2, K, Y, N⟩ with _ | _
            · have Hz : Hid (waysB xs = false) := by show waysB xs = false; rw [Hw.out, Hok.out, Hst.out, okB_case2, hkn]; rfl
              have Hkn := Lib.hid hkn
              clear hkn
              go_wp2_with fail
              refine (doingOf_c ⟨2, K, Y, N⟩ _).mono ?_
              rintro e w1 ⟨he, hb1⟩
              rw [Hkn.out] at he
              obtain rfl : e = .returned (.tuple #[.iface 156 (.agg #[.int .i64 K]), .bool false]) := he
              go_wp2_with fail
              go_ret
              exact ⟨by rw [Hz.out]; rfl, bw_step (bw_alloc Hbw.out _) hb1⟩
            · rcases hft : wordB K with _ | _
              · have Hz : Hid (waysB xs = false) := by show waysB xs = false; rw [Hw.out, Hok.out, Hst.out, okB_case2, hkn, hft]; rfl
                have Hkn := Lib.hid hkn
                have Hft := Lib.hid hft
                clear hkn hft
                go_wp2_with fail
                refine (doingOf_c ⟨2, K, Y, N⟩ _).mono ?_
                rintro e w1 ⟨he, hb1⟩
                rw [Hkn.out] at he
                obtain rfl : e = .returned (.tuple #[.iface 156 (.agg #[.int .i64 K]), .bool true]) := he
                go_wp2_with fail
                refine (masking_fits K _).mono ?_
                rintro e w2 ⟨he, hb2⟩
                rw [Hft.out] at he
                subst he
                go_wp2_with fail
                go_ret
                exact ⟨by rw [Hz.out]; rfl, bw_step (bw_step (bw_alloc Hbw.out _) hb1) hb2⟩
              · have Hz : Hid (Ins.okB ⟨2, K, Y, N⟩ ((xs.length : Int) - k - 2) = ([0] : List Int).all (fun p => decide (p ≤ (xs.length : Int) - k - 2))) := by
                  show Ins.okB ⟨2, K, Y, N⟩ ((xs.length : Int) - k - 2) = _
                  rw [okB_case2, hkn, hft]; rfl
                have Hkn := Lib.hid hkn
                have Hft := Lib.hid hft
                clear hkn hft
                go_wp2_with fail
                refine (doingOf_c ⟨2, K, Y, N⟩ _).mono ?_
                rintro e w1 ⟨he, hb1⟩
                rw [Hkn.out] at he
                obtain rfl : e = .returned (.tuple #[.iface 156 (.agg #[.int .i64 K]), .bool true]) := he
                go_wp2_with fail
                refine (masking_fits K _).mono ?_
                rintro e w2 ⟨he, hb2⟩
                rw [Hft.out] at he
                subst he
                go_wp2_with fail
                refine (masking_ways K _).mono ?_
                rintro e w3 ⟨v3, rfl, hi3, hb3⟩
                have Hb3 := Lib.hid (bw_step (bw_step (bw_step (bw_alloc Hbw.out _) hb1) hb2) hb3)
                clear hb1 hb2 hb3 m1 m2 c0 c1 c2 c3
                generalize ([0] : List Int) = ws at hi3 Hz
                obtain ⟨a3, cp3, rfl, hle3, hcap3, hr3⟩ := hi3
                have hl3 : ws.length ≤ 9223372036854775807 := by omega
                go_wp2
                go_loop [8, 39] (fun _ j => ∃ m : Nat, m ≤ ws.length ∧ j = .int .i64 m ∧ (ws.take m).all (fun p => decide (p ≤ (xs.length : Int) - k - 2)) = true) (fun _ j => ws.length - (intOf j).toNat)
                case atStart => exact ⟨0, Nat.zero_le _, rfl, by simp⟩
                case round =>
                  obtain ⟨m, hm, rfl, hall⟩ := hrel
                  have Hall := Lib.hid hall
                  clear hall
                  by_cases hmt : m < ws.length
                  · obtain ⟨b3, off3, rfl, hrow3⟩ := hr3 (by intro h; have := congrArg List.length h; simp at this; simp [this] at hmt)
                    have hcell := hrow3.at (ints_at _ _ hmt)
                    have Hts := Lib.hid (all_take_succ (fun p => decide (p ≤ (xs.length : Int) - k - 2)) ws m hmt)
                    clear hr3
                    generalize hq : ws[m] = q at hcell
                    have Hq := Lib.hid hq
                    clear hq
                    by_cases hqq : (xs.length : Int) - 2 - k < q
                    · have Hz2 : Hid (waysB xs = false) := by
                        show waysB xs = false
                        rw [Hw.out, Hok.out, Hst.out, Hz.out, Bool.and_eq_false_iff]
                        refine .inl (List.all_eq_false.2 ⟨q, Hq.out ▸ List.getElem_mem hmt, by simp; omega⟩)
                      go_wp2
                      go_ret
                      exact ⟨by rw [Hz2.out]; rfl, Hb3.out⟩
                    · go_wp2
                      go_round
                      case rel => exact ⟨m + 1, by omega, by go_num, by rw [Hts.out, Hall.out, Hq.out]; simp; omega⟩
                      case measure => simp [intOf]; omega
                  · have Hz2 : Hid (okFrom xs.length 0 xs = okFrom xs.length (k + 1) (xs.drop (k + 1))) := by
                      show okFrom xs.length 0 xs = okFrom xs.length (k + 1) (xs.drop (k + 1))
                      have hall := Hall.out
                      rw [show m = ws.length by omega, List.take_length] at hall
                      rw [Hok.out, Hst.out, Hz.out, hall]; rfl
                    go_wp2
                    go_roundw
                    case rel => exact ⟨k + 1, by omega, by go_num, Hz2.out, Hb3.out⟩
                    case measure => simp [intOf]; omega
          · have m1 := looking_m_fits
            have m2 := looking_m_ways
            rcases hkn : Ins.known ⟨3, K, Y, N⟩ with _ | _
            · have Hz : Hid (waysB xs = false) := by show waysB xs = false; rw [Hw.out, Hok.out, Hst.out, okB_case3, hkn]; rfl
              have Hkn := Lib.hid hkn
              clear hkn
              go_wp2_with fail
              refine (doingOf_c ⟨3, K, Y, N⟩ _).mono ?_
              rintro e w1 ⟨he, hb1⟩
              rw [Hkn.out] at he
              obtain rfl : e = .returned (.tuple #[.iface 158 (.agg #[.int .i64 1, .int .i64 K, .int .i64 Y, .int .i64 N]), .bool false]) := he
              go_wp2_with fail
              go_ret
              exact ⟨by rw [Hz.out]; rfl, bw_step (bw_alloc Hbw.out _) hb1⟩
            · rcases hft : (wordB K && (decide (0 ≤ Y) && (decide (Y ≤ 6) && (decide (0 ≤ N) && decide (N ≤ 6))))) with _ | _
              · have Hz : Hid (waysB xs = false) := by show waysB xs = false; rw [Hw.out, Hok.out, Hst.out, okB_case3, hkn, hft]; rfl
                have Hkn := Lib.hid hkn
                have Hft := Lib.hid hft
                clear hkn hft
                go_wp2_with fail
                refine (doingOf_c ⟨3, K, Y, N⟩ _).mono ?_
                rintro e w1 ⟨he, hb1⟩
                rw [Hkn.out] at he
                obtain rfl : e = .returned (.tuple #[.iface 158 (.agg #[.int .i64 1, .int .i64 K, .int .i64 Y, .int .i64 N]), .bool true]) := he
                go_wp2_with fail
                refine (looking_fits 1 K Y N _).mono ?_
                rintro e w2 ⟨he, hb2⟩
                rw [Hft.out] at he
                subst he
                go_wp2_with fail
                go_ret
                exact ⟨by rw [Hz.out]; rfl, bw_step (bw_step (bw_alloc Hbw.out _) hb1) hb2⟩
              · have Hz : Hid (Ins.okB ⟨3, K, Y, N⟩ ((xs.length : Int) - k - 2) = ([Y, N] : List Int).all (fun p => decide (p ≤ (xs.length : Int) - k - 2))) := by
                  show Ins.okB ⟨3, K, Y, N⟩ ((xs.length : Int) - k - 2) = _
                  rw [okB_case3, hkn, hft]; rfl
                have Hkn := Lib.hid hkn
                have Hft := Lib.hid hft
                clear hkn hft
                go_wp2_with fail
                refine (doingOf_c ⟨3, K, Y, N⟩ _).mono ?_
                rintro e w1 ⟨he, hb1⟩
                rw [Hkn.out] at he
                obtain rfl : e = .returned (.tuple #[.iface 158 (.agg #[.int .i64 1, .int .i64 K, .int .i64 Y, .int .i64 N]), .bool true]) := he
                go_wp2_with fail
                refine (looking_fits 1 K Y N _).mono ?_
                rintro e w2 ⟨he, hb2⟩
                rw [Hft.out] at he
                subst he
                go_wp2_with fail
                refine (looking_ways 1 K Y N _).mono ?_
                rintro e w3 ⟨v3, rfl, hi3, hb3⟩
                have Hb3 := Lib.hid (bw_step (bw_step (bw_step (bw_alloc Hbw.out _) hb1) hb2) hb3)
                clear hb1 hb2 hb3 m1 m2 c0 c1 c2 c3
                generalize ([Y, N] : List Int) = ws at hi3 Hz
                obtain ⟨a3, cp3, rfl, hle3, hcap3, hr3⟩ := hi3
                have hl3 : ws.length ≤ 9223372036854775807 := by omega
                go_wp2
                go_loop [8, 39] (fun _ j => ∃ m : Nat, m ≤ ws.length ∧ j = .int .i64 m ∧ (ws.take m).all (fun p => decide (p ≤ (xs.length : Int) - k - 2)) = true) (fun _ j => ws.length - (intOf j).toNat)
                case atStart => exact ⟨0, Nat.zero_le _, rfl, by simp⟩
                case round =>
                  obtain ⟨m, hm, rfl, hall⟩ := hrel
                  have Hall := Lib.hid hall
                  clear hall
                  by_cases hmt : m < ws.length
                  · obtain ⟨b3, off3, rfl, hrow3⟩ := hr3 (by intro h; have := congrArg List.length h; simp at this; simp [this] at hmt)
                    have hcell := hrow3.at (ints_at _ _ hmt)
                    have Hts := Lib.hid (all_take_succ (fun p => decide (p ≤ (xs.length : Int) - k - 2)) ws m hmt)
                    clear hr3
                    generalize hq : ws[m] = q at hcell
                    have Hq := Lib.hid hq
                    clear hq
                    by_cases hqq : (xs.length : Int) - 2 - k < q
                    · have Hz2 : Hid (waysB xs = false) := by
                        show waysB xs = false
                        rw [Hw.out, Hok.out, Hst.out, Hz.out, Bool.and_eq_false_iff]
                        refine .inl (List.all_eq_false.2 ⟨q, Hq.out ▸ List.getElem_mem hmt, by simp; omega⟩)
                      go_wp2
                      go_ret
                      exact ⟨by rw [Hz2.out]; rfl, Hb3.out⟩
                    · go_wp2
                      go_round
                      case rel => exact ⟨m + 1, by omega, by go_num, by rw [Hts.out, Hall.out, Hq.out]; simp; omega⟩
                      case measure => simp [intOf]; omega
                  · have Hz2 : Hid (okFrom xs.length 0 xs = okFrom xs.length (k + 1) (xs.drop (k + 1))) := by
                      show okFrom xs.length 0 xs = okFrom xs.length (k + 1) (xs.drop (k + 1))
                      have hall := Hall.out
                      rw [show m = ws.length by omega, List.take_length] at hall
                      rw [Hok.out, Hst.out, Hz.out, hall]; rfl
                    go_wp2
                    go_roundw
                    case rel => exact ⟨k + 1, by omega, by go_num, Hz2.out, Hb3.out⟩
                    case measure => simp [intOf]; omega
          · have m1 := looking_m_fits
            have m2 := looking_m_ways
            rcases hkn : Ins.known ⟨4, K, Y, N⟩ with _ | _
            · have Hz : Hid (waysB xs = false) := by show waysB xs = false; rw [Hw.out, Hok.out, Hst.out, okB_case4, hkn]; rfl
              have Hkn := Lib.hid hkn
              clear hkn
              go_wp2_with fail
              refine (doingOf_c ⟨4, K, Y, N⟩ _).mono ?_
              rintro e w1 ⟨he, hb1⟩
              rw [Hkn.out] at he
              obtain rfl : e = .returned (.tuple #[.iface 158 (.agg #[.int .i64 3, .int .i64 K, .int .i64 Y, .int .i64 N]), .bool false]) := he
              go_wp2_with fail
              go_ret
              exact ⟨by rw [Hz.out]; rfl, bw_step (bw_alloc Hbw.out _) hb1⟩
            · rcases hft : (wordB K && (decide (0 ≤ Y) && (decide (Y ≤ 6) && (decide (0 ≤ N) && decide (N ≤ 6))))) with _ | _
              · have Hz : Hid (waysB xs = false) := by show waysB xs = false; rw [Hw.out, Hok.out, Hst.out, okB_case4, hkn, hft]; rfl
                have Hkn := Lib.hid hkn
                have Hft := Lib.hid hft
                clear hkn hft
                go_wp2_with fail
                refine (doingOf_c ⟨4, K, Y, N⟩ _).mono ?_
                rintro e w1 ⟨he, hb1⟩
                rw [Hkn.out] at he
                obtain rfl : e = .returned (.tuple #[.iface 158 (.agg #[.int .i64 3, .int .i64 K, .int .i64 Y, .int .i64 N]), .bool true]) := he
                go_wp2_with fail
                refine (looking_fits 3 K Y N _).mono ?_
                rintro e w2 ⟨he, hb2⟩
                rw [Hft.out] at he
                subst he
                go_wp2_with fail
                go_ret
                exact ⟨by rw [Hz.out]; rfl, bw_step (bw_step (bw_alloc Hbw.out _) hb1) hb2⟩
              · have Hz : Hid (Ins.okB ⟨4, K, Y, N⟩ ((xs.length : Int) - k - 2) = ([Y, N] : List Int).all (fun p => decide (p ≤ (xs.length : Int) - k - 2))) := by
                  show Ins.okB ⟨4, K, Y, N⟩ ((xs.length : Int) - k - 2) = _
                  rw [okB_case4, hkn, hft]; rfl
                have Hkn := Lib.hid hkn
                have Hft := Lib.hid hft
                clear hkn hft
                go_wp2_with fail
                refine (doingOf_c ⟨4, K, Y, N⟩ _).mono ?_
                rintro e w1 ⟨he, hb1⟩
                rw [Hkn.out] at he
                obtain rfl : e = .returned (.tuple #[.iface 158 (.agg #[.int .i64 3, .int .i64 K, .int .i64 Y, .int .i64 N]), .bool true]) := he
                go_wp2_with fail
                refine (looking_fits 3 K Y N _).mono ?_
                rintro e w2 ⟨he, hb2⟩
                rw [Hft.out] at he
                subst he
                go_wp2_with fail
                refine (looking_ways 3 K Y N _).mono ?_
                rintro e w3 ⟨v3, rfl, hi3, hb3⟩
                have Hb3 := Lib.hid (bw_step (bw_step (bw_step (bw_alloc Hbw.out _) hb1) hb2) hb3)
                clear hb1 hb2 hb3 m1 m2 c0 c1 c2 c3
                generalize ([Y, N] : List Int) = ws at hi3 Hz
                obtain ⟨a3, cp3, rfl, hle3, hcap3, hr3⟩ := hi3
                have hl3 : ws.length ≤ 9223372036854775807 := by omega
                go_wp2
                go_loop [8, 39] (fun _ j => ∃ m : Nat, m ≤ ws.length ∧ j = .int .i64 m ∧ (ws.take m).all (fun p => decide (p ≤ (xs.length : Int) - k - 2)) = true) (fun _ j => ws.length - (intOf j).toNat)
                case atStart => exact ⟨0, Nat.zero_le _, rfl, by simp⟩
                case round =>
                  obtain ⟨m, hm, rfl, hall⟩ := hrel
                  have Hall := Lib.hid hall
                  clear hall
                  by_cases hmt : m < ws.length
                  · obtain ⟨b3, off3, rfl, hrow3⟩ := hr3 (by intro h; have := congrArg List.length h; simp at this; simp [this] at hmt)
                    have hcell := hrow3.at (ints_at _ _ hmt)
                    have Hts := Lib.hid (all_take_succ (fun p => decide (p ≤ (xs.length : Int) - k - 2)) ws m hmt)
                    clear hr3
                    generalize hq : ws[m] = q at hcell
                    have Hq := Lib.hid hq
                    clear hq
                    by_cases hqq : (xs.length : Int) - 2 - k < q
                    · have Hz2 : Hid (waysB xs = false) := by
                        show waysB xs = false
                        rw [Hw.out, Hok.out, Hst.out, Hz.out, Bool.and_eq_false_iff]
                        refine .inl (List.all_eq_false.2 ⟨q, Hq.out ▸ List.getElem_mem hmt, by simp; omega⟩)
                      go_wp2
                      go_ret
                      exact ⟨by rw [Hz2.out]; rfl, Hb3.out⟩
                    · go_wp2
                      go_round
                      case rel => exact ⟨m + 1, by omega, by go_num, by rw [Hts.out, Hall.out, Hq.out]; simp; omega⟩
                      case measure => simp [intOf]; omega
                  · have Hz2 : Hid (okFrom xs.length 0 xs = okFrom xs.length (k + 1) (xs.drop (k + 1))) := by
                      show okFrom xs.length 0 xs = okFrom xs.length (k + 1) (xs.drop (k + 1))
                      have hall := Hall.out
                      rw [show m = ws.length by omega, List.take_length] at hall
                      rw [Hok.out, Hst.out, Hz.out, hall]; rfl
                    go_wp2
                    go_roundw
                    case rel => exact ⟨k + 1, by omega, by go_num, Hz2.out, Hb3.out⟩
                    case measure => simp [intOf]; omega
          · have m1 := jumping_m_fits
            have m2 := jumping_m_ways
            rcases hkn : Ins.known ⟨5, K, Y, N⟩ with _ | _
            · have Hz : Hid (waysB xs = false) := by show waysB xs = false; rw [Hw.out, Hok.out, Hst.out, okB_case5, hkn]; rfl
              have Hkn := Lib.hid hkn
              clear hkn
              go_wp2_with fail
              refine (doingOf_c ⟨5, K, Y, N⟩ _).mono ?_
              rintro e w1 ⟨he, hb1⟩
              rw [Hkn.out] at he
              obtain rfl : e = .returned (.tuple #[.iface 160 (.agg #[.int .i64 K]), .bool false]) := he
              go_wp2_with fail
              go_ret
              exact ⟨by rw [Hz.out]; rfl, bw_step (bw_alloc Hbw.out _) hb1⟩
            · rcases hft : decide (0 ≤ K) with _ | _
              · have Hz : Hid (waysB xs = false) := by show waysB xs = false; rw [Hw.out, Hok.out, Hst.out, okB_case5, hkn, hft]; rfl
                have Hkn := Lib.hid hkn
                have Hft := Lib.hid hft
                clear hkn hft
                go_wp2_with fail
                refine (doingOf_c ⟨5, K, Y, N⟩ _).mono ?_
                rintro e w1 ⟨he, hb1⟩
                rw [Hkn.out] at he
                obtain rfl : e = .returned (.tuple #[.iface 160 (.agg #[.int .i64 K]), .bool true]) := he
                go_wp2_with fail
                refine (jumping_fits K _).mono ?_
                rintro e w2 ⟨he, hb2⟩
                rw [Hft.out] at he
                subst he
                go_wp2_with fail
                go_ret
                exact ⟨by rw [Hz.out]; rfl, bw_step (bw_step (bw_alloc Hbw.out _) hb1) hb2⟩
              · have Hz : Hid (Ins.okB ⟨5, K, Y, N⟩ ((xs.length : Int) - k - 2) = ([K] : List Int).all (fun p => decide (p ≤ (xs.length : Int) - k - 2))) := by
                  show Ins.okB ⟨5, K, Y, N⟩ ((xs.length : Int) - k - 2) = _
                  rw [okB_case5, hkn, hft]; rfl
                have Hkn := Lib.hid hkn
                have Hft := Lib.hid hft
                clear hkn hft
                go_wp2_with fail
                refine (doingOf_c ⟨5, K, Y, N⟩ _).mono ?_
                rintro e w1 ⟨he, hb1⟩
                rw [Hkn.out] at he
                obtain rfl : e = .returned (.tuple #[.iface 160 (.agg #[.int .i64 K]), .bool true]) := he
                go_wp2_with fail
                refine (jumping_fits K _).mono ?_
                rintro e w2 ⟨he, hb2⟩
                rw [Hft.out] at he
                subst he
                go_wp2_with fail
                refine (jumping_ways K _).mono ?_
                rintro e w3 ⟨v3, rfl, hi3, hb3⟩
                have Hb3 := Lib.hid (bw_step (bw_step (bw_step (bw_alloc Hbw.out _) hb1) hb2) hb3)
                clear hb1 hb2 hb3 m1 m2 c0 c1 c2 c3
                generalize ([K] : List Int) = ws at hi3 Hz
                obtain ⟨a3, cp3, rfl, hle3, hcap3, hr3⟩ := hi3
                have hl3 : ws.length ≤ 9223372036854775807 := by omega
                go_wp2
                go_loop [8, 39] (fun _ j => ∃ m : Nat, m ≤ ws.length ∧ j = .int .i64 m ∧ (ws.take m).all (fun p => decide (p ≤ (xs.length : Int) - k - 2)) = true) (fun _ j => ws.length - (intOf j).toNat)
                case atStart => exact ⟨0, Nat.zero_le _, rfl, by simp⟩
                case round =>
                  obtain ⟨m, hm, rfl, hall⟩ := hrel
                  have Hall := Lib.hid hall
                  clear hall
                  by_cases hmt : m < ws.length
                  · obtain ⟨b3, off3, rfl, hrow3⟩ := hr3 (by intro h; have := congrArg List.length h; simp at this; simp [this] at hmt)
                    have hcell := hrow3.at (ints_at _ _ hmt)
                    have Hts := Lib.hid (all_take_succ (fun p => decide (p ≤ (xs.length : Int) - k - 2)) ws m hmt)
                    clear hr3
                    generalize hq : ws[m] = q at hcell
                    have Hq := Lib.hid hq
                    clear hq
                    by_cases hqq : (xs.length : Int) - 2 - k < q
                    · have Hz2 : Hid (waysB xs = false) := by
                        show waysB xs = false
                        rw [Hw.out, Hok.out, Hst.out, Hz.out, Bool.and_eq_false_iff]
                        refine .inl (List.all_eq_false.2 ⟨q, Hq.out ▸ List.getElem_mem hmt, by simp; omega⟩)
                      go_wp2
                      go_ret
                      exact ⟨by rw [Hz2.out]; rfl, Hb3.out⟩
                    · go_wp2
                      go_round
                      case rel => exact ⟨m + 1, by omega, by go_num, by rw [Hts.out, Hall.out, Hq.out]; simp; omega⟩
                      case measure => simp [intOf]; omega
                  · have Hz2 : Hid (okFrom xs.length 0 xs = okFrom xs.length (k + 1) (xs.drop (k + 1))) := by
                      show okFrom xs.length 0 xs = okFrom xs.length (k + 1) (xs.drop (k + 1))
                      have hall := Hall.out
                      rw [show m = ws.length by omega, List.take_length] at hall
                      rw [Hok.out, Hst.out, Hz.out, hall]; rfl
                    go_wp2
                    go_roundw
                    case rel => exact ⟨k + 1, by omega, by go_num, Hz2.out, Hb3.out⟩
                    case measure => simp [intOf]; omega
          · have m1 := ending_m_fits
            have m2 := ending_m_ways
            rcases hkn : Ins.known ⟨6, K, Y, N⟩ with _ | _
            · have Hz : Hid (waysB xs = false) := by show waysB xs = false; rw [Hw.out, Hok.out, Hst.out, okB_case6, hkn]; rfl
              have Hkn := Lib.hid hkn
              clear hkn
              go_wp2_with fail
              refine (doingOf_c ⟨6, K, Y, N⟩ _).mono ?_
              rintro e w1 ⟨he, hb1⟩
              rw [Hkn.out] at he
              obtain rfl : e = .returned (.tuple #[.iface 162 (.agg #[.int .i64 K]), .bool false]) := he
              go_wp2_with fail
              go_ret
              exact ⟨by rw [Hz.out]; rfl, bw_step (bw_alloc Hbw.out _) hb1⟩
            · rcases hft : verdictB K with _ | _
              · have Hz : Hid (waysB xs = false) := by show waysB xs = false; rw [Hw.out, Hok.out, Hst.out, okB_case6, hkn, hft]; rfl
                have Hkn := Lib.hid hkn
                have Hft := Lib.hid hft
                clear hkn hft
                go_wp2_with fail
                refine (doingOf_c ⟨6, K, Y, N⟩ _).mono ?_
                rintro e w1 ⟨he, hb1⟩
                rw [Hkn.out] at he
                obtain rfl : e = .returned (.tuple #[.iface 162 (.agg #[.int .i64 K]), .bool true]) := he
                go_wp2_with fail
                refine (ending_fits K _).mono ?_
                rintro e w2 ⟨he, hb2⟩
                rw [Hft.out] at he
                subst he
                go_wp2_with fail
                go_ret
                exact ⟨by rw [Hz.out]; rfl, bw_step (bw_step (bw_alloc Hbw.out _) hb1) hb2⟩
              · have Hz : Hid (Ins.okB ⟨6, K, Y, N⟩ ((xs.length : Int) - k - 2) = ([] : List Int).all (fun p => decide (p ≤ (xs.length : Int) - k - 2))) := by
                  show Ins.okB ⟨6, K, Y, N⟩ ((xs.length : Int) - k - 2) = _
                  rw [okB_case6, hkn, hft]; rfl
                have Hkn := Lib.hid hkn
                have Hft := Lib.hid hft
                clear hkn hft
                go_wp2_with fail
                refine (doingOf_c ⟨6, K, Y, N⟩ _).mono ?_
                rintro e w1 ⟨he, hb1⟩
                rw [Hkn.out] at he
                obtain rfl : e = .returned (.tuple #[.iface 162 (.agg #[.int .i64 K]), .bool true]) := he
                go_wp2_with fail
                refine (ending_fits K _).mono ?_
                rintro e w2 ⟨he, hb2⟩
                rw [Hft.out] at he
                subst he
                go_wp2_with fail
                refine (ending_ways K _).mono ?_
                rintro e w3 ⟨v3, rfl, hi3, hb3⟩
                have Hb3 := Lib.hid (bw_step (bw_step (bw_step (bw_alloc Hbw.out _) hb1) hb2) hb3)
                clear hb1 hb2 hb3 m1 m2 c0 c1 c2 c3
                generalize ([] : List Int) = ws at hi3 Hz
                obtain ⟨a3, cp3, rfl, hle3, hcap3, hr3⟩ := hi3
                have hl3 : ws.length ≤ 9223372036854775807 := by omega
                go_wp2
                go_loop [8, 39] (fun _ j => ∃ m : Nat, m ≤ ws.length ∧ j = .int .i64 m ∧ (ws.take m).all (fun p => decide (p ≤ (xs.length : Int) - k - 2)) = true) (fun _ j => ws.length - (intOf j).toNat)
                case atStart => exact ⟨0, Nat.zero_le _, rfl, by simp⟩
                case round =>
                  obtain ⟨m, hm, rfl, hall⟩ := hrel
                  have Hall := Lib.hid hall
                  clear hall
                  by_cases hmt : m < ws.length
                  · obtain ⟨b3, off3, rfl, hrow3⟩ := hr3 (by intro h; have := congrArg List.length h; simp at this; simp [this] at hmt)
                    have hcell := hrow3.at (ints_at _ _ hmt)
                    have Hts := Lib.hid (all_take_succ (fun p => decide (p ≤ (xs.length : Int) - k - 2)) ws m hmt)
                    clear hr3
                    generalize hq : ws[m] = q at hcell
                    have Hq := Lib.hid hq
                    clear hq
                    by_cases hqq : (xs.length : Int) - 2 - k < q
                    · have Hz2 : Hid (waysB xs = false) := by
                        show waysB xs = false
                        rw [Hw.out, Hok.out, Hst.out, Hz.out, Bool.and_eq_false_iff]
                        refine .inl (List.all_eq_false.2 ⟨q, Hq.out ▸ List.getElem_mem hmt, by simp; omega⟩)
                      go_wp2
                      go_ret
                      exact ⟨by rw [Hz2.out]; rfl, Hb3.out⟩
                    · go_wp2
                      go_round
                      case rel => exact ⟨m + 1, by omega, by go_num, by rw [Hts.out, Hall.out, Hq.out]; simp; omega⟩
                      case measure => simp [intOf]; omega
                  · have Hz2 : Hid (okFrom xs.length 0 xs = okFrom xs.length (k + 1) (xs.drop (k + 1))) := by
                      show okFrom xs.length 0 xs = okFrom xs.length (k + 1) (xs.drop (k + 1))
                      have hall := Hall.out
                      rw [show m = ws.length by omega, List.take_length] at hall
                      rw [Hok.out, Hst.out, Hz.out, hall]; rfl
                    go_wp2
                    go_roundw
                    case rel => exact ⟨k + 1, by omega, by go_num, Hz2.out, Hb3.out⟩
                    case measure => simp [intOf]; omega
        · have Hf : Hid (waysB xs = true) := by show waysB xs = true; rw [Hw.out, Hok.out, okFrom_end (by omega)]
          go_wp2
          go_ret
          exact ⟨by rw [Hf.out]; rfl, Hbw.out⟩
end Go.Proofs.YtgogkpojeomabaaDoor
