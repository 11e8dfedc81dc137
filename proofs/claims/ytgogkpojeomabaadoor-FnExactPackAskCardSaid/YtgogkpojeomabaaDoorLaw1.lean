/- The walk of laws.FnExactPackAsk, given the plain law. -/
import Derived.Test.YtgogkpojeomabaaDoorLawB
import Derived.Test.YtgogkpojeomabaaDoorAskS
import Derived.Test.YtgogkpojeomabaaDoorRead2
set_option linter.unusedVariables false
set_option linter.unusedSimpArgs false
namespace Go.Proofs.YtgogkpojeomabaaDoor
open Go.RowKit

theorem callAt_keep {w w' : World} {v : Value} {c : Call} (h : CallAt w v c) (hb : Below w.heap.size w w') : CallAt w' v c := by
  obtain ⟨s, rfl, h⟩ := h; exact ⟨s, rfl, h.keep hb⟩
theorem law_keep {W w' : World} {gp gc : Nat} {p0 p1 p2 c0 c1 : Value} {tp tc : TypeId} (hP : Blk W gp #[p0, p1, p2] tp) (hC : Blk W gc #[c0, c1] tc) (hb : Below W.heap.size W w') :
    Below W.heap.size W w' ∧ (w'.cell? ⟨gp, 0, none⟩ = some p0 ∧ w'.cell? ⟨gp, 1, none⟩ = some p1 ∧ w'.cell? ⟨gp, 2, none⟩ = some p2) ∧ w'.cell? ⟨gc, 0, none⟩ = some c0 ∧ w'.cell? ⟨gc, 1, none⟩ = some c1 :=
  ⟨hb, ⟨(hP.below hb).cell 0 rfl, (hP.below hb).cell 1 rfl, (hP.below hb).cell 2 rfl⟩, (hC.below hb).cell 0 rfl, (hC.below hb).cell 1 rfl⟩
theorem law_keep2 {W w' w'' : World} {A : Prop} (h : Below W.heap.size W w' ∧ A) (hb : Below w'.heap.size w' w'') : Below W.heap.size W w'' := bw_step h.1 hb

set_option maxHeartbeats 4000000 in
set_option maxRecDepth 100000 in
theorem exactPackAsk_c (n : Int) (rules code : List UInt8) (c : Call) (cv : Value) (w : World) (hc : CallAt w cv c) (ht : Tab w)
    (h1 : rules.length ≤ 9223372036854775807) (h2 : code.length ≤ 9223372036854775807) (h3 : c.args.length ≤ 9223372036854775807)
    (hplain : code.length ≤ 1048576 → packAskI code c = packAskS code c) :
    Calls Tryd.prog 3 #[.agg #[.int .i64 n, str rules, str code], cv] w fun e w' => e = .returned (.bool true) ∧ Below w.heap.size w w' := by
  have HB := Lib.hid (Below.refl w.heap.size w)
  obtain ⟨s, rfl, hs⟩ := hc
  have Hs := Lib.hid hs
  have Ht := Lib.hid ht
  have Hp := Lib.hid hplain
  obtain ⟨sa, sc, rfl⟩ := intsAt_val hs
  clear hs ht hplain
  unfold str
  go_enter Tryd.func3, Tryd.ntmps3
  go_wp2_with fail
  refine (szPack_c n ⟨rules.toArray⟩ ⟨code.toArray⟩ 1048576 _ (by omega) (by omega) (by simpa [ByteArray.size] using h1) (by simpa [ByteArray.size] using h2)).mono ?_
  rintro e w1 ⟨⟨m, rfl, hm1, hm2⟩, hb1⟩
  have hP := ((Blk.new w #[.int .i64 n, .string ⟨rules.toArray⟩, .string ⟨code.toArray⟩] 23).below (bw_alloc (Below.refl _ _) (.cells #[.int .i64 c.num, .slice sa c.args.length sc] 26))).below hb1
  have hC := (Blk.new (w.alloc (.cells #[.int .i64 n, .string ⟨rules.toArray⟩, .string ⟨code.toArray⟩] 23)) #[.int .i64 c.num, .slice sa c.args.length sc] 26).below hb1
  rw [show (w.alloc (.cells #[.int .i64 n, .string ⟨rules.toArray⟩, .string ⟨code.toArray⟩] 23)).heap.size = w.heap.size + 1 from by simp] at hC
  have Hb1 := Lib.hid (bw_step (bw_alloc (bw_alloc HB.out _) _) hb1)
  clear hb1
  by_cases hneg : m < 0
  · go_wp2
    go_ret
    exact ⟨rfl, Hb1.out⟩
  have hcl : code.length ≤ 1048576 := by
    have hm3 := hm2 (by omega)
    simp [ByteArray.size] at hm3
    omega
  have hmu : m ≤ 1048576 := by
    have hm3 := hm2 (by omega)
    simp [ByteArray.size] at hm3
    omega
  clear hm2
  have q0 := hC.cell 0 rfl
  have q1 := hC.cell 1 rfl
  have HP := Lib.hid hP
  have HC := Lib.hid hC
  clear hP hC
  go_wp2_with fail
  refine (szCall_c c.num sa c.args.length sc m _ (by omega) (by omega) (by omega)).mono ?_
  rintro e w2 ⟨⟨m2, rfl, hn1, hn2⟩, hb2⟩
  have HP2 := Lib.hid (HP.out.below hb2)
  have HC2 := Lib.hid (HC.out.below hb2)
  have Hb2 := Lib.hid (bw_step Hb1.out hb2)
  clear hb2 q0 q1
  by_cases hneg2 : m2 < 0
  · go_wp2
    go_ret
    exact ⟨rfl, Hb2.out⟩
  have hal : c.args.length ≤ 1048576 := by
    have hn3 := hn2 (by omega)
    omega
  clear hn2
  have HE := Lib.hid (Hp.out hcl)
  have hcc : Hid (CallAt w2 (.agg #[.int .i64 c.num, .slice sa c.args.length sc]) c) := ⟨_, rfl, Hs.out.keep Hb2.out⟩
  clear Hp
  have hsz2 : w.heap.size + 2 ≤ w2.heap.size := by have := HC2.out.lt; omega
  go_upto_region 8 with fail
  go_cut [6] (fun s6 wx => s6 = .int .i64 (packAskS code c) ∧ Below w2.heap.size w2 wx)
  case first =>
    have a0 := HP2.out.cell 0 rfl
    have a1 := HP2.out.cell 1 rfl
    have a2 := HP2.out.cell 2 rfl
    have b0 := HC2.out.cell 0 rfl
    have b1 := HC2.out.cell 1 rfl
    have Hw : Hid (Below w2.heap.size w2 w2.drew) := bw_drew (Below.refl _ _)
    go_region_law (first
      | (go_simp; go_at_call 11; refine (toPack_c n _ _ _).mono ?_; rintro e wp ⟨rfl, hbp⟩; have HP' : Hid (Below w2.heap.size w2 wp) := (by first | exact bw_step HC'.out hbp | exact bw_step Hw.out hbp); have d0 := (HC2.out.below HP'.out).cell 0 rfl; have d1 := (HC2.out.below HP'.out).cell 1 rfl)
      | (go_simp; go_at_call 12; refine (toCall_c c _ _ (by first | exact ⟨_, rfl, Hs.out.keep (bw_step Hb2.out HP'.out)⟩ | exact ⟨_, rfl, Hs.out.keep (bw_step Hb2.out Hw.out)⟩) hal).mono ?_; rintro e wk ⟨⟨v', rfl, hv'⟩, hbc⟩; have Hv' := Lib.hid hv'; have HC' : Hid (Below w2.heap.size w2 wk) := (by first | exact bw_step HP'.out hbc | exact bw_step Hw.out hbc); have e0 := (HP2.out.below HC'.out).cell 0 rfl; have e1 := (HP2.out.below HC'.out).cell 1 rfl; have e2 := (HP2.out.below HC'.out).cell 2 rfl; clear hv')
      | (go_simp; go_at_call 10; refine (packAsk_s n rules code c _ _ (by first | exact Hv'.out | exact callAt_keep Hv'.out hbp) hcl).mono ?_; rintro e wa ⟨rfl, hba⟩; have HA' : Hid (Below w2.heap.size w2 wa) := (by first | exact bw_step (bw_step HC'.out hbp) hba | exact bw_step (bw_step HP'.out hbc) hba)))
    all_goals
      go_wp2_with fail
      go_meet
      exact ⟨rfl, HA'.out⟩
  case rest =>
    obtain ⟨rfl, hbx⟩ := hcut
    have HPx := Lib.hid (HP2.out.below hbx)
    have HCx := Lib.hid (HC2.out.below hbx)
    have Hbx := Lib.hid (bw_step Hb2.out hbx)
    have b0 := HCx.out.cell 0 rfl
    have b1 := HCx.out.cell 1 rfl
    clear hbx hcc
    go_wp2_with fail
    refine (toCall_c c _ _ (callAt_keep ⟨_, rfl, Hs.out⟩ Hbx.out) hal).mono ?_
    rintro e w3 ⟨⟨x1, rfl, hx1⟩, hb3⟩
    obtain ⟨sx, rfl, hsx⟩ := hx1
    obtain ⟨xa, xc, rfl⟩ := intsAt_val hsx
    have Hx := Lib.hid hsx
    have HP3 := Lib.hid (HPx.out.below hb3)
    have HC3 := Lib.hid (HCx.out.below hb3)
    have Hb3 := Lib.hid (bw_step Hbx.out hb3)
    have hsz3 : w.heap.size + 2 ≤ w3.heap.size := by have := HC3.out.lt; omega
    clear hsx hb3 b0 b1
    go_upto_region 10 with fail
    have HP4 := Lib.hid (HP3.out.below (bw_alloc (Below.refl _ _) (.cells #[.int .i64 c.num, .slice xa c.args.length xc] 32)))
    have HC4 := Lib.hid (HC3.out.below (bw_alloc (Below.refl _ _) (.cells #[.int .i64 c.num, .slice xa c.args.length xc] 32)))
    have HX4 := Lib.hid (Blk.new w3 #[.int .i64 c.num, .slice xa c.args.length xc] 32)
    have HI4 := Lib.hid (SlAt.keep Hx.out (bw_alloc (Below.refl _ _) (.cells #[.int .i64 c.num, .slice xa c.args.length xc] 32)))
    have Hb4 := Lib.hid (bw_alloc Hb3.out (.cells #[.int .i64 c.num, .slice xa c.args.length xc] 32))
    have hsz4 : w3.heap.size < (w3.alloc (.cells #[.int .i64 c.num, .slice xa c.args.length xc] 32)).heap.size := by simp
    generalize w3.alloc (.cells #[.int .i64 c.num, .slice xa c.args.length xc] 32) = w4 at *
    go_cut [8] (fun s8 wx => s8 = .int .i64 (packAskI code c) ∧ Below w4.heap.size w4 wx)
    case first =>
      have a0 := HP4.out.cell 0 rfl
      have a1 := HP4.out.cell 1 rfl
      have a2 := HP4.out.cell 2 rfl
      have b0 := HX4.out.cell 0 rfl
      have b1 := HX4.out.cell 1 rfl
      have Hw : Hid (Below w4.heap.size w4 w4.drew) := bw_drew (Below.refl _ _)
      go_region_law (first
        | (go_simp; go_at_call 11; refine (toPack_c n _ _ _).mono ?_; rintro e wp ⟨rfl, hbp⟩; have HP' : Hid (Below w4.heap.size w4 wp) := bw_step Hw.out hbp; have d0 := (HX4.out.below HP'.out).cell 0 rfl; have d1 := (HX4.out.below HP'.out).cell 1 rfl)
        | (go_simp; go_at_call 13; refine (packAsk_i n rules code c _ _ ⟨_, rfl, HI4.out.keep HP'.out⟩ (by omega) (Ht.out.below (bw_step Hb4.out HP'.out))).mono ?_; rintro e wa ⟨rfl, hba⟩; have HA' : Hid (Below w4.heap.size w4 wa) := bw_step HP'.out hba))
      all_goals
        go_wp2_with fail
        go_meet
        exact ⟨rfl, HA'.out⟩
    case rest =>
      obtain ⟨rfl, hbx⟩ := hcut
      have HC5 := Lib.hid (HC4.out.below hbx)
      have HX5 := Lib.hid (HX4.out.below hbx)
      have HI5 := Lib.hid (HI4.out.keep hbx)
      have Hb5 := Lib.hid (bw_step Hb4.out hbx)
      have hsz5 : w3.heap.size < wc.heap.size := Nat.lt_of_lt_of_le hsz4 hbx.size
      have eqq : (packAskI code c != packAskS code c) = false := by rw [HE.out]; simp
      clear hbx
      have a0 := HX5.out.cell 0 rfl
      have a1 := HX5.out.cell 1 rfl
      have b0 := HC5.out.cell 0 rfl
      have b1 := HC5.out.cell 1 rfl
      go_upto_region 13 with fail
      go_cut [37] (fun s37 wx => s37 = .bool false ∧ Below wc.heap.size wc wx)
      case first =>
        have Hw : Hid (Below wc.heap.size wc wc.drew) := bw_drew (Below.refl _ _)
        go_region_law (first
          | (go_simp; go_at_call 12; refine (toCall_c c _ _ ⟨_, rfl, Hs.out.keep (bw_step Hb5.out Hw.out)⟩ hal).mono ?_; rintro e wk ⟨⟨v', rfl, hv'⟩, hbc⟩; have Hv' := Lib.hid hv'; have HC' : Hid (Below wc.heap.size wc wk) := bw_step Hw.out hbc; have e0 := (HX5.out.below HC'.out).cell 0 rfl; have e1 := (HX5.out.below HC'.out).cell 1 rfl; clear hv')
          | (go_simp; go_at_call 14; refine (eqCall_c c _ _ _ ⟨_, rfl, HI5.out.keep HC'.out⟩ Hv'.out hal).mono ?_; rintro e wa ⟨rfl, hba⟩; have HA' : Hid (Below wc.heap.size wc wa) := bw_step HC'.out hba))
        all_goals
          go_wp2_with fail
          go_meet
          exact ⟨rfl, HA'.out⟩
      case rest =>
        obtain ⟨rfl, hby⟩ := hcut
        go_wp2_with fail
        go_ret
        exact ⟨rfl, bw_step Hb5.out hby⟩
end Go.Proofs.YtgogkpojeomabaaDoor
