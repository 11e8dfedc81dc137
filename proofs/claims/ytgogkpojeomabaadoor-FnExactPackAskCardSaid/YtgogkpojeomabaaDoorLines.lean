/- codeLines, CodeWrite, CodeOk of the program. -/
import Derived.Test.YtgogkpojeomabaaDoorWb
import Derived.Test.YtgogkpojeomabaaDoorBld
import Derived.Test.YtgogkpojeomabaaDoorRun
import Derived.Deep.DeepCutAuto
import Derived.Lib.SmallJoins
import Derived.Lib.AppendIntMem
set_option linter.unusedVariables false
set_option linter.unusedSimpArgs false
namespace Go.Proofs.YtgogkpojeomabaaDoor
open Go.RowKit

/-- The library's table of powers is as it is laid. -/
def Tab (w : World) : Prop := Lib.TabIs Tryd.prog w "internal/strconv.uint64pow10" IntKind.u64 Lib.pow10Tab
theorem Tab.below {w w' : World} (h : Tab w) (hb : Below w.heap.size w w') : Tab w' := Lib.tabBelow_of_tabIs h w' hb
theorem bw_grow (w : World) (k : Nat) (os : Array Obj) : Below w.heap.size w (Sort.grow (w.drewN k) os) :=
  ⟨rfl, rfl, rfl, by simp [Sort.grow], fun i hi => by show (w.heap ++ os)[i]? = w.heap[i]?; rw [Array.getElem?_append_left hi]⟩
theorem itoa_c (n : Int) (h0 : 0 ≤ n) (h1 : n ≤ 9223372036854775807) (w : World) (ht : Tab w) :
    Calls Tryd.prog 105 #[.int .i64 n] w fun e w' => e = .returned (.string ⟨(dec n.toNat).toArray⟩) ∧ Below w.heap.size w w' := by
  refine (Tryd.strconv_Itoa n (by omega) h1 w ht).mono ?_
  rintro e w' ⟨rfl, k, os, rfl⟩
  refine ⟨?_, bw_grow _ _ _⟩
  rw [Lib.itoa, if_neg (by omega)]
  rfl

/-- A place as it is written. -/
def Ins.line (x : Ins) : List UInt8 :=
  opWord x.op ++ [32] ++ dec x.k.toNat ++ (if x.op = 3 ∨ x.op = 4 then [32] ++ dec x.yes.toNat ++ [32] ++ dec x.no.toNat else []) ++ [10]
def codeText (xs : List Ins) : List UInt8 := xs.flatMap Ins.line
theorem okB_words {x : Ins} {l : Int} (hl : l ≤ 1000) (h : x.okB l = true) : x.k ≤ 4294967295 ∧ 0 ≤ x.yes ∧ x.yes ≤ 6 ∧ 0 ≤ x.no ∧ x.no ≤ 6 := by
  obtain ⟨op, K, Y, N⟩ := x
  rcases (show op = 1 ∨ op = 2 ∨ op = 3 ∨ op = 4 ∨ op = 5 ∨ op = 6 ∨ ¬ (op = 1 ∨ op = 2 ∨ op = 3 ∨ op = 4 ∨ op = 5 ∨ op = 6) by omega) with rfl | rfl | rfl | rfl | rfl | rfl | ho
  rotate_left 6
  · exfalso
    unfold Ins.okB at h; simp only at h
    rw [if_neg (by omega), if_neg (by omega), if_neg (by omega), if_neg (by omega), if_neg (by omega)] at h
    cases h
  all_goals (simp [Ins.okB, inB] at h ⊢; try omega)
theorem opWord_len (op : Int) : (opWord op).length ≤ 4 := by
  unfold opWord
  repeat' split
  all_goals simp
theorem line_len {x : Ins} {l : Int} (hl : l ≤ 1000) (h : x.okB l = true) : x.line.length ≤ 66 := by
  obtain ⟨h1, h2, h3, h4, h5⟩ := okB_words hl h
  have a := opWord_len x.op
  have b := dec_len19 (n := x.k.toNat) (by omega)
  have c := dec_len19 (n := x.yes.toNat) (by omega)
  have d := dec_len19 (n := x.no.toNat) (by omega)
  unfold Ins.line
  split <;> simp <;> omega
theorem codeText_succ {xs : List Ins} {k : Nat} (hk : k < xs.length) : codeText (xs.take (k + 1)) = codeText (xs.take k) ++ xs[k].line := by
  unfold codeText; rw [List.take_succ_eq_append_getElem hk, List.flatMap_append]; simp

def LinesRel (w : World) (xs : List Ins) (i : Value) (wr : World) : Prop :=
  ∃ k : Nat, k ≤ xs.length ∧ i = .int .i64 k ∧ Lib.IsBuilder 165 5 w.heap.size w.heap.size (Lib.byteCells (codeText (xs.take k))) wr ∧ Below w.heap.size w wr ∧ (codeText (xs.take k)).length ≤ 66 * k ∧ w.heap.size < wr.heap.size

set_option maxHeartbeats 4000000 in
set_option maxRecDepth 100000 in
theorem codeLines_c (xs : List Ins) (v : Value) (w : World) (hv : InsAt w v xs) (hok : waysB xs = true) (ht : Tab w) :
    Calls Tryd.prog 86 #[v] w fun e w' => e = .returned (.string ⟨(codeText xs).toArray⟩) ∧ Below w.heap.size w w' := by
  have HB := Lib.hid (Below.refl w.heap.size w)
  have hlen : 1 ≤ xs.length ∧ xs.length ≤ 160 := by simp [waysB] at hok; omega
  have Hok := Lib.hid hok
  have Ht := Lib.hid ht
  obtain ⟨a, cp, rfl, hle, hcap, hr⟩ := hv
  obtain ⟨b, off, rfl, hrow⟩ := hr (by intro h; have := congrArg List.length h; rw [insCells_length] at this; simp at this; omega)
  have hbl : b < w.heap.size := hrow.lt (by rw [insCells_length]; omega)
  obtain ⟨hl1, hl2⟩ := hlen
  clear hr hok ht
  go_enter Tryd.func86, Tryd.ntmps86
  go_wp2
  go_loopw [5, 8] (fun _ i wr => LinesRel w xs i wr) (fun _ i _ => xs.length - (intOf i).toNat)
  case atStart => exact ⟨0, Nat.zero_le _, rfl, bld_new w, bw_alloc HB.out _, Nat.le_refl _, by simp⟩
  case round =>
    obtain ⟨k, hk, rfl, hbd, hbw, htl, hsz⟩ := hrel
    have Hbd := Lib.hid hbd
    have Hbw := Lib.hid hbw
    clear hbd hbw
    by_cases hlt : k < xs.length
    · obtain ⟨c0, c1, c2, c3⟩ := InsAt.cell (hrow.below Hbw.out hbl) k hlt
      have Hx := Lib.hid (waysB_at Hok.out k hlt)
      have Hs := Lib.hid (codeText_succ hlt)
      generalize hx : xs[k] = x at *
      clear hx
      have hw := okB_words (x := x) (by omega) Hx.out
      have hk0 := (okB_bounds Hx.out).2.2.1
      have hll := line_len (x := x) (by omega) Hx.out
      obtain ⟨op, K, Y, N⟩ := x
      simp only at c0 c1 c2 c3 hw hk0
      go_upto_region 5 with fail
      go_cut [] (fun wx => Lib.IsBuilder 165 5 w.heap.size w.heap.size (Lib.byteCells (codeText (xs.take k) ++ (opWord op ++ [32] ++ dec K.toNat))) wx ∧ Below w.heap.size w wx ∧ wx.heap[wr.heap.size]? = some (.cells #[.int .i64 op, .int .i64 K, .int .i64 Y, .int .i64 N] 61) ∧ w.heap.size < wx.heap.size)
      case first =>
        have l1 := opWord_len op
        have l2 := dec_len19 (n := K.toNat) (by omega)
        go_region_with (first
          | (go_at_call 95; refine (opName_c _ _).mono ?_; unfold str; rintro e w' ⟨rfl, rfl⟩)
          | (go_at_call 105; refine (itoa_c _ hk0 (by omega) _ (Ht.out.below (by repeat (first | exact Hbw.out | apply bw_alloc | apply bw_drew | apply bw_drewN | refine bw_step ?_ (by assumption))))).mono ?_; rintro e w' ⟨rfl, hb1⟩; have hcc := (bcell hb1).1; have hsz1 := hb1.size; simp at hsz1)
          | (go_at_call 104; go_must (refine (bld_putB w.heap.size w.heap.size (codeText (xs.take k)) _ _ ?_ ?_ ?_).mono ?_; (exact bld_below Hbd.out (by repeat (first | exact Below.refl _ _ | apply bw_alloc | apply bw_drew | apply bw_drewN | refine bw_step ?_ (by assumption)))); (simp [ByteArray.size]; omega); ((try simp); omega); rintro e w' ⟨rfl, hq1, hq2, hq3⟩)))
        all_goals
          go_wp2_with fail
          go_meet
          refine ⟨?_, ?_, ?_, ?_⟩
          · simpa [ByteArray.data_append] using hq1
          · exact Below.trans (by repeat (first | exact Hbw.out | apply bw_alloc | apply bw_drew | apply bw_drewN | refine bw_step ?_ (by assumption))) hq2
          · refine hq3.at (fz := (0, 0)) ?_ (by omega) (by decide)
            first
              | exact heap_alloc_new _ _
              | exact (hb1.block _ (by simp)).trans (heap_alloc_new _ _)
          · have hz := hq2.size
            (try simp at hz)
            omega
      case rest =>
        obtain ⟨hc1, hc2, hc3, hc4⟩ := hcut
        have Hc1 := Lib.hid hc1
        have Hc2 := Lib.hid hc2
        have Hc3 := Lib.hid hc3
        have g0 : wc.cell? ⟨wr.heap.size, 0, none⟩ = some (.int .i64 op) := by rw [Lib.cell_of_heap hc3]; rfl
        have g2 : wc.cell? ⟨wr.heap.size, 2, none⟩ = some (.int .i64 Y) := by rw [Lib.cell_of_heap hc3]; rfl
        have g3 : wc.cell? ⟨wr.heap.size, 3, none⟩ = some (.int .i64 N) := by rw [Lib.cell_of_heap hc3]; rfl
        clear hc1 hc2 hc3 c0 c1 c2 c3
        have l1 := opWord_len op
        have l2 := dec_len19 (n := K.toNat) (by omega)
        by_cases hop : op = 3 ∨ op = 4
        · have HT : Hid (codeText (xs.take (k + 1)) = codeText (xs.take k) ++ (opWord op ++ [32] ++ dec K.toNat) ++ ([32] ++ dec Y.toNat ++ [32] ++ dec N.toNat) ++ [10]) := by
            show codeText (xs.take (k + 1)) = _
            rw [Hs.out]; unfold Ins.line; simp only; rw [if_pos hop]; simp
          rcases hop with rfl | rfl
          · skip
            go_upto_region 7 with fail
            go_cut [] (fun wx => Lib.IsBuilder 165 5 w.heap.size w.heap.size (Lib.byteCells (codeText (xs.take k) ++ (opWord 3 ++ [32] ++ dec K.toNat) ++ ([32] ++ dec Y.toNat ++ [32] ++ dec N.toNat))) wx ∧ Below w.heap.size w wx ∧ w.heap.size < wx.heap.size)
            case first =>
              have l3 := dec_len19 (n := Y.toNat) (by omega)
              have l4 := dec_len19 (n := N.toNat) (by omega)
              have hwl : wr.heap.size < wc.heap.size := (Array.getElem?_eq_some_iff.1 Hc3.out).1
              go_region_with (first
                | (go_at_call 105; refine (itoa_c _ (by omega) (by omega) _ (Ht.out.below (by repeat (first | exact Hc2.out | apply bw_alloc | apply bw_drew | apply bw_drewN | refine bw_step ?_ (by assumption))))).mono ?_; rintro e w' ⟨rfl, hb1⟩; have hx2 := (bcell hb1).1 wr.heap.size 2 (by first | omega | (simp; omega)); have hx3 := (bcell hb1).1 wr.heap.size 3 (by first | omega | (simp; omega)); have hsz1 := hb1.size; (try simp at hsz1))
                | (go_at_call 104; go_must (refine (bld_putB w.heap.size w.heap.size _ _ _ (bld_below Hc1.out ?_) ?_ ?_).mono ?_; (exact (by repeat (first | exact Below.refl _ _ | apply bw_alloc | apply bw_drew | apply bw_drewN | refine bw_step ?_ (by assumption)))); (simp [ByteArray.size]; omega); ((try simp); omega); rintro e w' ⟨rfl, hq1, hq2, hq3⟩)))
              all_goals
                go_wp2_with fail
                go_meet
                refine ⟨?_, ?_, ?_⟩
                · simpa [ByteArray.data_append] using hq1
                · exact Below.trans (by repeat (first | exact Hc2.out | apply bw_alloc | apply bw_drew | apply bw_drewN | refine bw_step ?_ (by assumption))) hq2
                · have hz := hq2.size
                  (try simp at hz)
                  omega
            case rest =>
              obtain ⟨hd1, hd2, hd3⟩ := hcut
              have Hd1 := Lib.hid hd1
              have Hd2 := Lib.hid hd2
              have l3 := dec_len19 (n := Y.toNat) (by omega)
              have l4 := dec_len19 (n := N.toNat) (by omega)
              clear hd1 hd2
              go_wp2_with (go_at_call 104; refine (bld_putB w.heap.size w.heap.size _ _ _ Hd1.out (by simp [ByteArray.size]; omega) (by omega)).mono ?_; rintro e w' ⟨rfl, hq1, hq2, hq3⟩)
              go_roundw
              case rel =>
                refine ⟨k + 1, by omega, by go_num, ?_, Hd2.out.trans hq2, ?_, ?_⟩
                · rw [HT.out]; exact hq1
                · rw [Hs.out]; simp only [List.length_append]; omega
                · have := hq2.size; omega
              case measure => simp [intOf]; omega
          · skip
            go_upto_region 7 with fail
            go_cut [] (fun wx => Lib.IsBuilder 165 5 w.heap.size w.heap.size (Lib.byteCells (codeText (xs.take k) ++ (opWord 4 ++ [32] ++ dec K.toNat) ++ ([32] ++ dec Y.toNat ++ [32] ++ dec N.toNat))) wx ∧ Below w.heap.size w wx ∧ w.heap.size < wx.heap.size)
            case first =>
              have l3 := dec_len19 (n := Y.toNat) (by omega)
              have l4 := dec_len19 (n := N.toNat) (by omega)
              have hwl : wr.heap.size < wc.heap.size := (Array.getElem?_eq_some_iff.1 Hc3.out).1
              go_region_with (first
                | (go_at_call 105; refine (itoa_c _ (by omega) (by omega) _ (Ht.out.below (by repeat (first | exact Hc2.out | apply bw_alloc | apply bw_drew | apply bw_drewN | refine bw_step ?_ (by assumption))))).mono ?_; rintro e w' ⟨rfl, hb1⟩; have hx2 := (bcell hb1).1 wr.heap.size 2 (by first | omega | (simp; omega)); have hx3 := (bcell hb1).1 wr.heap.size 3 (by first | omega | (simp; omega)); have hsz1 := hb1.size; (try simp at hsz1))
                | (go_at_call 104; go_must (refine (bld_putB w.heap.size w.heap.size _ _ _ (bld_below Hc1.out ?_) ?_ ?_).mono ?_; (exact (by repeat (first | exact Below.refl _ _ | apply bw_alloc | apply bw_drew | apply bw_drewN | refine bw_step ?_ (by assumption)))); (simp [ByteArray.size]; omega); ((try simp); omega); rintro e w' ⟨rfl, hq1, hq2, hq3⟩)))
              all_goals
                go_wp2_with fail
                go_meet
                refine ⟨?_, ?_, ?_⟩
                · simpa [ByteArray.data_append] using hq1
                · exact Below.trans (by repeat (first | exact Hc2.out | apply bw_alloc | apply bw_drew | apply bw_drewN | refine bw_step ?_ (by assumption))) hq2
                · have hz := hq2.size
                  (try simp at hz)
                  omega
            case rest =>
              obtain ⟨hd1, hd2, hd3⟩ := hcut
              have Hd1 := Lib.hid hd1
              have Hd2 := Lib.hid hd2
              have l3 := dec_len19 (n := Y.toNat) (by omega)
              have l4 := dec_len19 (n := N.toNat) (by omega)
              clear hd1 hd2
              go_wp2_with (go_at_call 104; refine (bld_putB w.heap.size w.heap.size _ _ _ Hd1.out (by simp [ByteArray.size]; omega) (by omega)).mono ?_; rintro e w' ⟨rfl, hq1, hq2, hq3⟩)
              go_roundw
              case rel =>
                refine ⟨k + 1, by omega, by go_num, ?_, Hd2.out.trans hq2, ?_, ?_⟩
                · rw [HT.out]; exact hq1
                · rw [Hs.out]; simp only [List.length_append]; omega
                · have := hq2.size; omega
              case measure => simp [intOf]; omega
        · have HT : Hid (codeText (xs.take (k + 1)) = codeText (xs.take k) ++ (opWord op ++ [32] ++ dec K.toNat) ++ [10]) := by
            show codeText (xs.take (k + 1)) = _
            rw [Hs.out]; unfold Ins.line; simp only; rw [if_neg hop]; simp
          have b3 : (op == 3) = false := beq_eq_false_iff_ne.2 (by omega)
          have b4 : (op == 4) = false := beq_eq_false_iff_ne.2 (by omega)
          go_wp2_with (go_at_call 104; refine (bld_putB w.heap.size w.heap.size _ _ _ Hc1.out (by simp [ByteArray.size]; omega) (by omega)).mono ?_; rintro e w' ⟨rfl, hq1, hq2, hq3⟩)
          go_roundw
          case rel =>
            refine ⟨k + 1, by omega, by go_num, ?_, Hc2.out.trans hq2, ?_, ?_⟩
            · rw [HT.out]; exact hq1
            · rw [Hs.out]; simp only [List.length_append]; omega
            · have := hq2.size; omega
          case measure => simp [intOf]; omega
    · go_wp2_with (go_at_call 106; refine (Tryd.Builder_String_any w.heap.size w.heap.size _ wr Hbd.out (by omega)).mono ?_; rintro e w1 ⟨rfl, hb1⟩)
      go_ret
      rw [show xs.take k = xs from List.take_of_length_le (by omega)]
      exact ⟨rfl, Hbw.out.trans hb1⟩
end Go.Proofs.YtgogkpojeomabaaDoor
