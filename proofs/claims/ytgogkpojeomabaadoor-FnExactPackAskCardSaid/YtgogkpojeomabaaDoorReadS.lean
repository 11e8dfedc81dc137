/- The reference's CodeRun, CodeRead, PackAsk. -/
import Derived.Test.YtgogkpojeomabaaDoorLineS
set_option linter.unusedVariables false
set_option linter.unusedSimpArgs false
namespace Go.Proofs.YtgogkpojeomabaaDoor
open Go.RowKit

set_option maxHeartbeats 1000000 in
set_option maxRecDepth 100000 in
theorem codeRun_s (xs : List Ins) (v : Value) (c : Call) (cv : Value) (w : World) (hv : InsAt w v xs) (hc : CallAt w cv c) (hlen : xs.length ≤ 1000000) :
    Calls Tryd.prog 26 #[v, cv] w fun e w' => e = .returned (.tuple #[.int .i64 (codeRun xs c).1, .int .i64 (codeRun xs c).2]) ∧ Below w.heap.size w w' := by
  have Hv := Lib.hid hv
  have HB := Lib.hid (Below.refl w.heap.size w)
  obtain ⟨a, cp, rfl, _⟩ := hv
  obtain ⟨s, rfl, hs⟩ := hc
  have Hs := Lib.hid hs
  clear hs
  rcases hb : codeOkB xs with _ | _
  · have Hf : Hid (codeRun xs c = (4, 0)) := by show codeRun xs c = (4, 0); simp [codeRun, hb]
    have Hb := Lib.hid hb
    clear hb
    go_enter Tryd.func26, Tryd.ntmps26
    go_wp2_with fail
    refine (codeOk_s xs _ _ (Hv.out.keep (bw_alloc HB.out _)) hlen).mono ?_
    rintro e w1 ⟨he, hb1⟩
    rw [Hb.out] at he
    subst he
    go_wp2_with fail
    go_ret2
    rw [Hf.out]
    exact ⟨rfl, bw_step (bw_alloc HB.out _) hb1⟩
  · rcases hk : c.okB with _ | _
    all_goals
      have Hb := Lib.hid hb
      have Hk := Lib.hid hk
      clear hb hk
      go_enter Tryd.func26, Tryd.ntmps26
      go_wp2_with fail
      refine (codeOk_s xs _ _ (Hv.out.keep (bw_alloc HB.out _)) hlen).mono ?_
      rintro e w1 ⟨he, hb1⟩
      rw [Hb.out] at he
      subst he
      have hcc := (bcell hb1).1
      have Hb1 := Lib.hid (bw_step (bw_alloc HB.out _) hb1)
      have k0 := hcc w.heap.size 0 (by simp)
      have k1 := hcc w.heap.size 1 (by simp)
      clear hcc hb1
      go_wp2_with fail
      refine (callOk_s c _ _ ⟨s, rfl, Hs.out.keep Hb1.out⟩).mono ?_
      rintro e w2 ⟨he, hb2⟩
      rw [Hk.out] at he
      subst he
      have hl1 : w.heap.size < w1.heap.size := World.block_lt_of_cell? w1 ⟨w.heap.size, 0, none⟩ (by rw [k0]; go_simp; rfl)
      have q0 := (bcell hb2).1 w.heap.size 0 hl1
      have q1 := (bcell hb2).1 w.heap.size 1 hl1
      have Hb2 := Lib.hid (bw_step Hb1.out hb2)
      clear hb2
    · go_wp2_with fail
      go_ret2
      have hf : codeRun xs c = (4, 0) := by simp [codeRun, Hk.out]
      rw [hf]
      exact ⟨rfl, Hb2.out⟩
    · go_wp2_with fail
      have hw : waysB xs = true := by have := Hb.out; simp [codeOkB] at this; exact this.1
      refine (l3Run_c xs _ c _ _ (Hv.out.keep Hb2.out) ⟨s, rfl, Hs.out.keep Hb2.out⟩ hw Hk.out).mono ?_
      rintro e w3 ⟨rfl, hb3⟩
      have hf : Hid (codeRun xs c = runAt c xs 0 0) := by show codeRun xs c = _; simp [codeRun, Hk.out, Hb.out]
      go_wp2_with fail
      go_ret2
      rw [hf.out]
      exact ⟨rfl, bw_step Hb2.out hb3⟩

/-- The reference's candidate: the lines of the text, the last left out. -/
def candS (l : List UInt8) : List Ins := ((cut 10 l).dropLast).map lineS
def codeReadS (l : List UInt8) : Option (List Ins) := if 2600 < l.length then none else if codeOkB (candS l) = true ∧ codeText (candS l) = l then some (candS l) else none
theorem codeReadS_long {l : List UInt8} (h : 2600 < l.length) : codeReadS l = none := if_pos h
theorem codeReadS_short {l : List UInt8} (h : ¬ 2600 < l.length) : codeReadS l = if codeOkB (candS l) = true ∧ codeText (candS l) = l then some (candS l) else none := if_neg h
theorem cut_mem_len (c : UInt8) (l : List UInt8) : ∀ p ∈ cut c l, p.length ≤ l.length := by
  induction l with
  | nil => intro p hp; simp [cut] at hp; subst hp; exact Nat.le_refl _
  | cons x xs ih =>
    intro p hp
    rw [cut] at hp
    split at hp
    · rcases List.mem_cons.1 hp with rfl | hp
      · exact Nat.zero_le _
      · have := ih p hp; simp; omega
    · split at hp
      · simp at hp; subst hp; simp
      · rename_i h t he
        rcases List.mem_cons.1 hp with rfl | hp
        · have := ih h (by rw [he]; simp); simp; omega
        · have := ih p (by rw [he]; simp [hp]); simp; omega
def CodeReadSPost (l : List UInt8) (w : World) (e : Ending) (w' : World) : Prop :=
  Below w.heap.size w w' ∧ ∃ v, e = .returned (.tuple #[v, .bool (codeReadS l).isSome]) ∧ InsAt w' v ((codeReadS l).getD [])
theorem insAt_nil (w : World) (a : Option Addr) (c : Nat) (h : c ≤ 9223372036854775807) : InsAt w (.slice a 0 c) [] := ⟨a, c, rfl, Nat.zero_le _, h, fun h => absurd rfl h⟩
def ReadSRel (w : World) (ls : List (List UInt8)) (v i : Value) (wr : World) : Prop :=
  ∃ k : Nat, k + 1 ≤ ls.length ∧ i = .int .i64 k ∧ wr.ownsRow w.heap.size 61 4 v k (insCells ((ls.map lineS).take k)) ∧ Below w.heap.size w wr

set_option maxHeartbeats 4000000 in
set_option maxRecDepth 100000 in
theorem codeRead_s (l : List UInt8) (w : World) (hl : l.length ≤ 1048576) :
    Calls Tryd.prog 37 #[.string ⟨l.toArray⟩] w (CodeReadSPost l w) := by
  have HB := Lib.hid (Below.refl w.heap.size w)
  obtain ⟨i0, hi, hz0, hz1, hz2⟩ := info_parts ins_info
  go_enter Tryd.func37, Tryd.ntmps37
  go_wp2_with fail
  refine (l2Cut_c _ 10 10 rfl _ (by simp [ByteArray.size]; omega)).mono ?_
  rintro e w1 ⟨v, rfl, ho, hb1⟩
  have Hb1 := Lib.hid hb1
  rw [show (ByteArray.mk l.toArray).data.toList = l from by simp] at ho
  obtain ⟨av, cv, rfl, hle, hcap, hrow⟩ := own_row ho
  unfold maxLen at hcap
  by_cases hlong : 2600 < l.length
  · have Hf := Lib.hid (codeReadS_long hlong)
    clear hrow ho hb1
    go_wp2_with fail
    go_ret2
    refine ⟨bw_alloc Hb1.out _, _, by rw [Hf.out]; rfl, ?_⟩
    rw [Hf.out]
    exact insAt_nil _ _ _ (by omega)
  · have HS := Lib.hid (codeReadS_short hlong)
    have HC : Hid (candS l = ((cut 10 l).dropLast).map lineS) := Lib.hid rfl
    have hlc := cut_length_le 10 l
    have hne := cut_ne 10 l
    have hml := cut_mem_len 10 l
    generalize hls : cut 10 l = ls at *
    clear hls
    obtain ⟨g, rfl, hg, _, hrow⟩ := hrow (by cases ls with | nil => exact absurd rfl hne | cons a b => simp [strs])
    have hpos : 1 ≤ ls.length := by cases ls with | nil => exact absurd rfl hne | cons a b => simp
    have hgl : g < w1.heap.size := hrow.lt (by simp; omega)
    have Hrow := Lib.hid hrow
    have Hsize := Lib.hid hb1.size
    clear ho hb1 hrow hne
    go_wp2_with fail
    go_loopw [5, 6] (fun v i wr => ReadSRel w1 ls v i wr) (fun _ i _ => ls.length - (intOf i).toNat)
    case atStart =>
      refine ⟨0, by omega, rfl, ?_, bw_alloc (Below.refl _ _) _⟩
      exact World.ownsRow_made w1 #[] 0 (Nat.le_refl _) (by decide) rfl
    case round =>
      obtain ⟨k, hk, rfl, hown, hbw⟩ := hrel
      have Hown := Lib.hid hown
      have Hbw := Lib.hid hbw
      obtain ⟨av, cv2, hvv, hvc, hvm, _⟩ := own_row hown
      subst hvv
      unfold maxLen at hvm
      clear hown hbw
      by_cases hlt : k + 1 < ls.length
      · have c0 := (Hrow.out.keep Hbw.out).at (j := k) (v := .string ⟨(ls[k]'(by omega)).toArray⟩) (by simp [strs, str])
        rw [Nat.zero_add] at c0
        have hm := hml (ls[k]'(by omega)) (List.getElem_mem _)
        have Ht : Hid (insCells ((ls.map lineS).take (k + 1)) = insCells ((ls.map lineS).take k) ++ (lineS (ls[k]'(by omega))).cells) := by
          show _ = _
          rw [List.take_succ_eq_append_getElem (by simp; omega), List.getElem_map]
          exact insCells_snoc _ _
        generalize (ls[k]'(by omega)) = line at *
        go_wp2_with fail
        refine (l3Line_c line _ (by omega)).mono ?_
        rintro e w2 ⟨rfl, hb2⟩
        have Hb2 := Lib.hid (bw_step Hbw.out hb2)
        have Ho2 := Lib.hid (Hown.out.kept (grown_below hb2 none) (by simp [Value.ownBlock]; cases av <;> simp))
        clear hb2
        generalize lineS line = y at *
        obtain ⟨op, K, Y, N⟩ := y
        simp only [Ins.val]
        go_wp2_with (at_builtin; refine wpList_append_own _ rfl _ _ 39 rfl w1.heap.size 61 i0 (.agg #[.int .i64 0, .int .i64 0, .int .i64 0, .int .i64 0]) 4 32 Tryd.underlying39 hi hz0 hz1 hz2 rfl (by decide) _ _ _ rfl (Ho2.out.alloc _) ⟨_, 0, none⟩ 1 1 [.int .i64 op, .int .i64 K, .int .i64 Y, .int .i64 N] rfl rfl ?c1 ?c2 ?c3 ?c4 ?c5 ?_)
        case c1 =>
          intro j u hj
          have hk := Blk.new w2 #[.int .i64 op, .int .i64 K, .int .i64 Y, .int .i64 N] 61
          rw [show (Addr.mk w2.heap.size 0 none).add j = ⟨w2.heap.size, j, none⟩ from by unfold Addr.add; split <;> simp_all]
          exact hk.cell j (by rw [← Array.getElem?_toList]; exact hj)
        case c2 => intro u hu; simp at hu; rcases hu with rfl | rfl | rfl | rfl <;> rfl
        case c3 => unfold maxLen; omega
        case c4 => omega
        case c5 => have := Hb2.out.size; simp; omega
        intro v' w3 hown3 hgrow3 _
        have Hown3 := Lib.hid hown3
        have Hb3 := Lib.hid (bw_grown (bw_alloc Hb2.out _) hgrow3 (own_ge Ho2.out))
        clear hown3 hgrow3
        go_wp2
        go_roundw
        case rel =>
          refine ⟨k + 1, by omega, by go_num, ?_, Hb3.out⟩
          rw [Ht.out]
          exact Hown3.out
        case measure => simp [intOf]; omega
      · have hkk : k = ls.length - 1 := by omega
        have Hcand : Hid (candS l = (ls.map lineS).take k) := by show candS l = _; rw [HC.out, List.dropLast_eq_take, hkk, List.map_take]
        have Hlk : Hid (((ls.map lineS).take k).length = k) := by show _ = k; simp; omega
        have Hins : Hid (InsAt wr (.slice av k cv2) (candS l)) := by
          show SlAt _ _ (candS l).length _
          rw [Hcand.out, Hlk.out]
          exact own_sl Hown.out
        have Hlc : Hid ((candS l).length ≤ 1000000) := by show _ ≤ _; rw [Hcand.out, Hlk.out]; omega
        clear hkk
        have HBk := Lib.hid (bw_step Hb1.out Hbw.out)
        rcases hb : codeOkB (candS l) with _ | _
        · have Hf : Hid (codeReadS l = none) := by show codeReadS l = none; rw [HS.out, if_neg]; rw [hb]; simp
          have Hb := Lib.hid hb
          clear hb
          go_wp2_with fail
          refine (codeOk_s _ _ _ Hins.out Hlc.out).mono ?_
          rintro e w2 ⟨he, hb2⟩
          rw [Hb.out] at he
          subst he
          go_wp2_with fail
          go_ret2
          refine ⟨bw_alloc (bw_step HBk.out hb2) _, _, by rw [Hf.out]; rfl, ?_⟩
          rw [Hf.out]
          exact insAt_nil _ _ _ (by omega)
        · have Hb := Lib.hid hb
          clear hb
          have hw : waysB (candS l) = true := by have := Hb.out; simp [codeOkB] at this; exact this.1
          have Hw := Lib.hid hw
          clear hw
          by_cases heq : codeText (candS l) = l
          all_goals
            first
              | have Hf : Hid (codeReadS l = some (candS l)) := by show codeReadS l = _; rw [HS.out, if_pos ⟨Hb.out, heq⟩]
              | have Hf : Hid (codeReadS l = none) := by show codeReadS l = none; rw [HS.out, if_neg]; intro h; exact heq h.2
            first
              | have hbe : (codeText (candS l) == l) = true := by rw [beq_iff_eq]; exact heq
              | have hbe : (codeText (candS l) == l) = false := beq_eq_false_iff_ne.2 heq
            have Heq := Lib.hid heq
            clear heq
            go_wp2_with fail
            refine (codeOk_s _ _ _ Hins.out Hlc.out).mono ?_
            rintro e w2 ⟨he, hb2⟩
            rw [Hb.out] at he
            subst he
            have Hb2 := Lib.hid hb2
            clear hb2
            go_wp2_with fail
            refine (l3Write_c _ _ _ (Hins.out.keep Hb2.out) Hw.out).mono ?_
            rintro e w3 ⟨rfl, hb3⟩
            have Hb3 := Lib.hid hb3
            have HBn := Lib.hid (bw_step (bw_step HBk.out Hb2.out) hb3)
            clear hb3
            generalize codeText (candS l) = T at *
            go_wp2_with fail
            go_ret2
          · refine ⟨HBn.out, _, by rw [Hf.out]; rfl, ?_⟩
            rw [Hf.out]
            exact (Hins.out.keep Hb2.out).keep Hb3.out
          · refine ⟨bw_alloc HBn.out _, _, by rw [Hf.out]; rfl, ?_⟩
            rw [Hf.out]
            exact insAt_nil _ _ _ (by omega)
end Go.Proofs.YtgogkpojeomabaaDoor
