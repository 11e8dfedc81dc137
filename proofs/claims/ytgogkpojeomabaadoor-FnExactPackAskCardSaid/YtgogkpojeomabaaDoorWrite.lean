/- The reference's l3Write and CodeOk. -/
import Derived.Test.YtgogkpojeomabaaDoorPlace
import Derived.Test.YtgogkpojeomabaaDoorNum
import Derived.Deep.RegionHeld3
set_option linter.unusedVariables false
set_option linter.unusedSimpArgs false
namespace Go.Proofs.YtgogkpojeomabaaDoor
open Go.RowKit

theorem l3Names_at (j : Nat) (hj : j ≤ 6) (w : World) : Calls Tryd.prog 89 #[] w fun e w' => e = .returned (.slice (some ⟨w.heap.size, 0, none⟩) 7 7) ∧ Below w.heap.size w w' ∧ w'.cell? ⟨w.heap.size, j, none⟩ = some (.string ⟨(opWord j).toArray⟩) ∧ w'.heap.size = w.heap.size + 1 := by
  refine (l3Names_c w).mono ?_
  rintro e w' ⟨rfl, rfl⟩
  refine ⟨rfl, bw_alloc (Below.refl _ _) _, (Blk.new w _ _).cell j ?_, by simp⟩
  rcases (show j = 0 ∨ j = 1 ∨ j = 2 ∨ j = 3 ∨ j = 4 ∨ j = 5 ∨ j = 6 by omega) with rfl | rfl | rfl | rfl | rfl | rfl | rfl <;> rfl

theorem keepY {g : Nat} {a b c d : Value} {w0 w : World} (h : Blk w g #[a, b, c, d] 61) (hb : Below w0.heap.size w0 w) :
    (Blk w g #[a, b, c, d] 61 ∧ Below w0.heap.size w0 w ∧ w.cell? ⟨g, 2, none⟩ = some c ∧ w.cell? ⟨g, 3, none⟩ = some d) := ⟨h, hb, (blk4 h).1.2.2.1, (blk4 h).1.2.2.2⟩
theorem keepY2 {g : Nat} {a b c d : Value} {w0 w w' : World} (h : Blk w g #[a, b, c, d] 61 ∧ Below w0.heap.size w0 w ∧ w.cell? ⟨g, 2, none⟩ = some c ∧ w.cell? ⟨g, 3, none⟩ = some d) (hb : Below w.heap.size w w') :
    (Blk w' g #[a, b, c, d] 61 ∧ Below w0.heap.size w0 w' ∧ w'.cell? ⟨g, 2, none⟩ = some c ∧ w'.cell? ⟨g, 3, none⟩ = some d) := keepY (h.1.below hb) (bw_step h.2.1 hb)
theorem keepB {g : Nat} {a b c d : Value} {w0 w : World} (h : Blk w g #[a, b, c, d] 61 ∧ Below w0.heap.size w0 w ∧ w.cell? ⟨g, 2, none⟩ = some c ∧ w.cell? ⟨g, 3, none⟩ = some d) : Below w0.heap.size w0 w := h.2.1
def WriteRel (w : World) (xs : List Ins) (o i : Value) (wr : World) : Prop :=
  ∃ k : Nat, k ≤ xs.length ∧ i = .int .i64 k ∧ o = .string ⟨(codeText (xs.take k)).toArray⟩ ∧ Below w.heap.size w wr ∧ (codeText (xs.take k)).length ≤ 66 * k
theorem l1Dec_i (a : Int) (w : World) (h0 : 0 ≤ a) (h1 : a ≤ 9223372036854775807) : Calls Tryd.prog 90 #[.int .i64 a] w fun e w' => e = .returned (.string ⟨(dec a.toNat).toArray⟩) ∧ Below w.heap.size w w' := l1Dec_c _ a w h0 h1 rfl
theorem str_eq {a : ByteArray} {l : List UInt8} (h : a.data.toList = l) : Value.string a = .string ⟨l.toArray⟩ := by
  subst h; rfl

set_option maxHeartbeats 4000000 in
set_option maxRecDepth 100000 in
theorem l3Write_c (xs : List Ins) (v : Value) (w : World) (hv : InsAt w v xs) (hok : waysB xs = true) :
    Calls Tryd.prog 62 #[v] w fun e w' => e = .returned (.string ⟨(codeText xs).toArray⟩) ∧ Below w.heap.size w w' := by
  have HB := Lib.hid (Below.refl w.heap.size w)
  have hlen : 1 ≤ xs.length ∧ xs.length ≤ 160 := by simp [waysB] at hok; omega
  have Hok := Lib.hid hok
  obtain ⟨a, cp, rfl, hle, hcap, hr⟩ := hv
  obtain ⟨b, off, rfl, hrow⟩ := hr (by intro h; have := congrArg List.length h; rw [insCells_length] at this; simp at this; omega)
  have hbl : b < w.heap.size := hrow.lt (by rw [insCells_length]; omega)
  obtain ⟨hl1, hl2⟩ := hlen
  clear hr hok
  go_enter Tryd.func62, Tryd.ntmps62
  go_wp2
  go_loopw [3, 4, 5] (fun o i _ wr => WriteRel w xs o i wr) (fun _ i _ _ => xs.length - (intOf i).toNat)
  case atStart => exact ⟨0, Nat.zero_le _, rfl, rfl, HB.out, by simp [codeText]⟩
  case round =>
    obtain ⟨k, hk, rfl, rfl, hbw, htl⟩ := hrel
    have Hbw := Lib.hid hbw
    clear hbw
    by_cases hlt : k < xs.length
    · obtain ⟨c0, c1, c2, c3⟩ := InsAt.cell (hrow.below Hbw.out hbl) k hlt
      have Hx := Lib.hid (waysB_at Hok.out k hlt)
      have Hs := Lib.hid (codeText_succ hlt)
      generalize hx : xs[k] = x at *
      clear hx
      have hw := okB_words (x := x) (by omega) Hx.out
      have hk0 := (okB_bounds Hx.out).2.2.1
      have ho := (okB_bounds Hx.out).2.1
      obtain ⟨op, K, Y, N⟩ := x
      simp only at c0 c1 c2 c3 hw hk0 ho
      obtain ⟨j, rfl⟩ : ∃ j : Nat, op = j := ⟨op.toNat, by omega⟩
      have hj6 : j ≤ 6 := by omega
      have l1 := opWord_len j
      have l2 := dec_len19 (n := K.toNat) (by omega)
      generalize hT : codeText (xs.take k) = T at *
      clear hT
      go_upto_region 6 with fail
      go_cut [3] (fun s3 wx => s3 = .string ⟨(T ++ (opWord j ++ [32] ++ dec K.toNat)).toArray⟩ ∧ Below w.heap.size w wx ∧ Blk wx wr.heap.size #[.int .i64 j, .int .i64 K, .int .i64 Y, .int .i64 N] 61)
      case first =>
        have HW := Lib.hid (Below.refl (wr.alloc (.cells #[.int .i64 j, .int .i64 K, .int .i64 Y, .int .i64 N] 61)).heap.size (wr.alloc (.cells #[.int .i64 j, .int .i64 K, .int .i64 Y, .int .i64 N] 61)))
        go_region_with (first
          | (go_at_call 89; refine (l3Names_at j hj6 _).mono ?_; rintro e w' ⟨rfl, hb1, hn1, hz1⟩; have hy0 := (bcell hb1).1 wr.heap.size 0 (by first | omega | (simp; done) | (simp; omega)); have hy1 := (bcell hb1).1 wr.heap.size 1 (by first | omega | (simp; done) | (simp; omega)); have HW2 := Lib.hid (bw_step (by repeat (first | exact HW.out | apply bw_drew | apply bw_drewN)) hb1); clear HW hb1; have HW := HW2; clear HW2; (try simp at hz1); (try simp at hn1); have hz1l := Nat.le_of_eq hz1.symm; clear hz1)
          | (go_at_call 90; refine (l1Dec_i _ _ hk0 (by omega)).mono ?_; rintro e w' ⟨rfl, hb2⟩; have hx0 := (bcell hb2).1 wr.heap.size 0 (by first | omega | (simp; done) | (simp; omega)); have hx1 := (bcell hb2).1 wr.heap.size 1 (by first | omega | (simp; done) | (simp; omega)); (first | have hx2 := (bcell hb2).1 (wr.heap.size + 1) j (by omega) | skip); have hz2 := hb2.size; have HW2 := Lib.hid (bw_step (by repeat (first | exact HW.out | apply bw_drew | apply bw_drewN)) hb2); clear HW hb2; have HW := HW2; clear HW2; (try simp at hz2)))
        all_goals
          go_wp2_with fail
          go_meet
          refine ⟨?_, bw_step (bw_alloc Hbw.out _) HW.out, (Blk.new wr _ _).below HW.out⟩
          exact str_eq (by simp [ByteArray.data_append])
      case rest =>
        obtain ⟨rfl, hc2, hc3⟩ := hcut
        have Hc2 := Lib.hid hc2
        have Hc3 := Lib.hid hc3
        obtain ⟨g0, g1, g2, g3⟩ := (blk4 hc3).1
        clear hc2 hc3 c0 c1 c2 c3
        have hll := line_len (x := ⟨j, K, Y, N⟩) (by omega) Hx.out
        by_cases hop : (j : Int) = 3 ∨ (j : Int) = 4
        · have HT : Hid (codeText (xs.take (k + 1)) = T ++ (opWord j ++ [32] ++ dec K.toNat) ++ ([32] ++ dec Y.toNat ++ [32] ++ dec N.toNat) ++ [10]) := by
            show codeText (xs.take (k + 1)) = _
            rw [Hs.out]; unfold Ins.line; simp only; rw [if_pos hop]; simp
          have hb34 : (((j : Int) == 3) = true) ∨ (((j : Int) == 3) = false ∧ ((j : Int) == 4) = true) := by
            rcases hop with h | h
            · exact .inl (by rw [h]; rfl)
            · exact .inr ⟨by rw [h]; rfl, by rw [h]; rfl⟩
          clear hop hll
          have ht2 : (T ++ (opWord j ++ [32] ++ dec K.toNat)).length ≤ 66 * k + 24 := by simp; omega
          generalize hT2 : T ++ (opWord j ++ [32] ++ dec K.toNat) = T2 at *
          clear hT2
          rcases hb34 with b3 | ⟨b3, b4⟩
          all_goals
            go_upto_region 8 with fail
            go_cut [3] (fun s3 wx => s3 = .string ⟨(T2 ++ ([32] ++ dec Y.toNat ++ [32] ++ dec N.toNat)).toArray⟩ ∧ Below w.heap.size w wx)
            case first =>
              have l3 := dec_len19 (n := Y.toNat) (by omega)
              have l4 := dec_len19 (n := N.toNat) (by omega)
              have n1 : (9223372036854775807 < T2.length + 1) = False := eq_false (by omega)
              have n2 : (9223372036854775807 < T2.length + 1 + (dec Y.toNat).length) = False := eq_false (by omega)
              have n3 : (9223372036854775807 < T2.length + 1 + (dec Y.toNat).length + 1) = False := eq_false (by omega)
              have n4 : (9223372036854775807 < T2.length + 1 + (dec Y.toNat).length + 1 + (dec N.toNat).length) = False := eq_false (by omega)
              have hBd : Blk wc.drew wr.heap.size #[.int .i64 j, .int .i64 K, .int .i64 Y, .int .i64 N] 61 := Hc3.out
              go_region_held3 (fun w' => Blk w' wr.heap.size #[.int .i64 j, .int .i64 K, .int .i64 Y, .int .i64 N] 61 ∧ Below wc.heap.size wc w' ∧ w'.cell? ⟨wr.heap.size, 2, none⟩ = some (.int .i64 Y) ∧ w'.cell? ⟨wr.heap.size, 3, none⟩ = some (.int .i64 N))
                (first | exact keepY hBd (bw_drew (Below.refl _ _)) | exact keepY2 (keepY hBd (bw_drew (Below.refl _ _))) hb2 | exact keepY2 (by assumption) hb2)
                (first
                  | (go_at_call 90; refine (l1Dec_i _ _ (by omega) (by omega)).mono ?_; rintro e w' ⟨rfl, hb2⟩))
              all_goals
                go_wp2_with fail
                go_meet
                exact ⟨str_eq (by simp [ByteArray.data_append]), bw_step Hc2.out (keepB (by assumption))⟩
            case rest =>
              obtain ⟨rfl, hd2⟩ := hcut
              have Hd2 := Lib.hid hd2
              have l3 := dec_len19 (n := Y.toNat) (by omega)
              have l4 := dec_len19 (n := N.toNat) (by omega)
              clear hd2
              go_wp2
              go_roundw
              case rel =>
                refine ⟨k + 1, by omega, by go_num, ?_, Hd2.out, ?_⟩
                · rw [HT.out]; exact str_eq (by simp [ByteArray.data_append])
                · rw [HT.out]; simp only [List.length_append]; simp; omega
              case measure => simp [intOf]; omega
        · have HT : Hid (codeText (xs.take (k + 1)) = T ++ (opWord j ++ [32] ++ dec K.toNat) ++ [10]) := by
            show codeText (xs.take (k + 1)) = _
            rw [Hs.out]; unfold Ins.line; simp only; rw [if_neg hop]; simp
          have b3 : ((j : Int) == 3) = false := beq_eq_false_iff_ne.2 (by omega)
          have b4 : ((j : Int) == 4) = false := beq_eq_false_iff_ne.2 (by omega)
          clear hop hll
          go_wp2
          go_roundw
          case rel =>
            refine ⟨k + 1, by omega, by go_num, ?_, Hc2.out, ?_⟩
            · rw [HT.out]; exact str_eq (by simp [ByteArray.data_append])
            · rw [HT.out]; simp only [List.length_append]; simp; omega
          case measure => simp [intOf]; omega
    · go_wp2
      go_ret
      rw [show xs.take k = xs from List.take_of_length_le (by omega)]
      exact ⟨rfl, Hbw.out⟩
end Go.Proofs.YtgogkpojeomabaaDoor
