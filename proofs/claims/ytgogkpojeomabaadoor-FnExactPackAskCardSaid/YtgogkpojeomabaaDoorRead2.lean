/- CodeRead and PackAsk of the program: the walks. -/
import Derived.Test.YtgogkpojeomabaaDoorRead
set_option linter.unusedVariables false
set_option linter.unusedSimpArgs false
namespace Go.Proofs.YtgogkpojeomabaaDoor
open Go.RowKit

theorem codeReadI_long {l : List UInt8} (h : 2600 < l.length) : codeReadI l = none := if_pos h
theorem codeReadI_short {l : List UInt8} (h : ¬ 2600 < l.length) : codeReadI l = (readAll l.length l []).bind fun xs => if waysB xs = true then some xs else none := if_neg h

set_option maxHeartbeats 4000000 in
set_option maxRecDepth 100000 in
theorem codeRead_c (l : List UInt8) (w : World) (hl : l.length ≤ 4000000) :
    Calls Tryd.prog 39 #[.string ⟨l.toArray⟩] w (CodeReadPost l w) := by
  have HB := Lib.hid (Below.refl w.heap.size w)
  obtain ⟨i0, hi, hz0, hz1, hz2⟩ := info_parts ins_info
  by_cases hlong : 2600 < l.length
  · go_enter Tryd.func39, Tryd.ntmps39
    go_wp2
    go_ret2
    exact CodeReadPost.no rfl HB.out (codeReadI_long hlong)
  · have d1 : decide ((2600 : Int) < l.length) = false := by simp; omega
    have HS := Lib.hid (codeReadI_short hlong)
    go_enter Tryd.func39, Tryd.ntmps39
    go_wp2
    go_loopw [4, 6, 7] (fun v _ _ wr => ReadRel l w v wr) (fun _ _ _ wr => RdLen w.heap.size wr)
    case atStart =>
      refine ⟨l, [], World.ownsRow_nil _ _ _ _, ⟨?_, ?_⟩, bw_alloc HB.out _, Nat.zero_le _, Nat.le_refl _, rfl, fun _ => rfl⟩
      · exact (Blk.new w #[.string ⟨l.toArray⟩] 101).cell 0 rfl
      · exact (Blk.new w #[.string ⟨l.toArray⟩] 101).free 0
    case round =>
      obtain ⟨lk, xs, hown, hrd, hbw, hxl, hll, hread, hnil⟩ := hrel
      have Hown := Lib.hid hown
      have Hrd := Lib.hid hrd
      have Hbw := Lib.hid hbw
      have Hread := Lib.hid hread
      have Hne := Lib.hid (own_ne_rd hown hrd hnil)
      have Hins := Lib.hid (own_ins hown)
      obtain ⟨av, cv, hvv, hvc, hvm, _⟩ := own_row hown
      clear hown hrd hbw hread hnil
      subst hvv
      have hlk : lk.length ≤ 4000000 := by omega
      unfold maxLen at hvm
      by_cases he : lk.isEmpty = true
      · have Hall : Hid (readAll l.length l [] = some xs) := by show readAll l.length l [] = some xs; rw [Hread.out, readAll_nil he]
        have He := Lib.hid he
        clear he
        go_wp2_with fail
        refine (done_c _ _ _ Hrd.out).mono ?_
        rintro e w1 ⟨he, rfl⟩
        rw [ByteArray.toList_mk, He.out] at he
        subst he
        rcases hw : waysB xs with _ | _
        · have Hno : Hid (codeReadI l = none) := by show codeReadI l = none; rw [HS.out, Hall.out]; simp [hw]
          have Hw := Lib.hid hw
          clear hw
          go_wp2_with fail
          refine (codeWays_c xs _ _ Hins.out (by omega)).mono ?_
          rintro e w2 ⟨he, hb2⟩
          rw [Hw.out] at he
          subst he
          go_wp2_with fail
          go_ret2
          exact CodeReadPost.no rfl (bw_step Hbw.out hb2) Hno.out
        · have Hyes : Hid (codeReadI l = some xs) := by show codeReadI l = some xs; rw [HS.out, Hall.out]; simp [hw]
          have Hw := Lib.hid hw
          clear hw
          go_wp2_with fail
          refine (codeWays_c xs _ _ Hins.out (by omega)).mono ?_
          rintro e w2 ⟨he, hb2⟩
          rw [Hw.out] at he
          subst he
          go_wp2_with fail
          go_ret2
          refine CodeReadPost.yes rfl (bw_step Hbw.out hb2) Hyes.out ?_
          exact Hown.out.kept (grown_below hb2 none) (by simp [Value.ownBlock]; cases av <;> simp)
      · have Hst := Lib.hid (readAll_step (n := lk.length) (acc := xs) (by simpa using he) (Nat.le_refl _))
        have He := Lib.hid he
        clear he
        go_wp2_with fail
        refine (done_c _ _ _ Hrd.out).mono ?_
        rintro e w1 ⟨he, rfl⟩
        rw [ByteArray.toList_mk, Bool.eq_false_iff.2 He.out] at he
        subst he
        go_wp2_with fail
        refine (place_c w.heap.size lk _ Hrd.out (by omega)).mono ?_
        rintro e w2 ⟨⟨op, K, Y, N⟩, ok, rfl, hm, hpost⟩
        simp only [Ins.val]
        have Hb2 := Lib.hid (bw_grown Hbw.out hm.grown (by simp))
        have Ho2 := Lib.hid (Hown.out.kept hm.grown Hne.out)
        cases ok
        · have hp : placeRead lk = none := by simpa using hpost
          have Hno : Hid (codeReadI l = none) := by show codeReadI l = none; rw [HS.out, Hread.out, Hst.out, hp]; rfl
          clear hp hpost hm
          go_wp2_with fail
          go_ret2
          exact CodeReadPost.no rfl (bw_alloc Hb2.out _) Hno.out
        · obtain ⟨r, hp, hr⟩ : ∃ r, placeRead lk = some (⟨op, K, Y, N⟩, r) ∧ Rd w.heap.size ⟨r.toArray⟩ w2 := by simpa using hpost
          have Hp := Lib.hid hp
          have Hr := Lib.hid hr
          have Hln := Lib.hid (placeRead_len hp)
          have Hlen := Lib.hid Hrd.out.len
          clear hp hpost hm hr
          by_cases hx : xs.length = 160
          · have Hno : Hid (codeReadI l = none) := by show codeReadI l = none; rw [HS.out, Hread.out, Hst.out, Hp.out]; simp [hx]
            have b1 : ((xs.length : Int) == 160) = true := by rw [hx]; rfl
            clear hx
            go_wp2_with fail
            go_ret2
            exact CodeReadPost.no rfl (bw_alloc Hb2.out _) Hno.out
          · have b1 : ((xs.length : Int) == 160) = false := beq_eq_false_iff_ne.2 (by omega)
            have Hx := Lib.hid hx
            clear hx
            go_wp2_with (at_builtin; refine wpList_append_own _ rfl _ _ 39 rfl w.heap.size 61 i0 (.agg #[.int .i64 0, .int .i64 0, .int .i64 0, .int .i64 0]) 4 32 Tryd.underlying39 hi hz0 hz1 hz2 rfl (by decide) _ _ _ rfl ((Ho2.out.alloc _).alloc _) ⟨_, 0, none⟩ 1 1 [.int .i64 op, .int .i64 K, .int .i64 Y, .int .i64 N] rfl rfl ?c1 ?c2 ?c3 ?c4 ?c5 ?_)
            case c1 =>
              intro j u hj
              have hz : (w2.alloc (.cells #[.int .i64 op, .int .i64 K, .int .i64 Y, .int .i64 N] 61)).heap.size = w2.heap.size + 1 := by simp
              have hk := Blk.new (w2.alloc (.cells #[.int .i64 op, .int .i64 K, .int .i64 Y, .int .i64 N] 61)) #[.int .i64 op, .int .i64 K, .int .i64 Y, .int .i64 N] 61
              rw [hz] at hk
              rw [show (Addr.mk (w2.heap.size + 1) 0 none).add j = ⟨w2.heap.size + 1, j, none⟩ from by unfold Addr.add; split <;> simp_all]
              exact hk.cell j (by rw [← Array.getElem?_toList]; exact hj)
            case c2 => intro u hu; simp at hu; rcases hu with rfl | rfl | rfl | rfl <;> rfl
            case c3 => unfold maxLen; omega
            case c4 => omega
            case c5 => have := Hb2.out.size; simp; omega
            intro v' w3 hown3 hgrow3 _
            have Hown3 := Lib.hid hown3
            have Hb3 := Lib.hid (bw_grown (bw_alloc (bw_alloc Hb2.out _) _) hgrow3 (own_ge Ho2.out))
            have Hr3 := Lib.hid (show Rd w.heap.size ⟨r.toArray⟩ w3 from by
              have q := (Hr.out.below (bw_alloc (Below.refl _ _) (.cells #[.int .i64 op, .int .i64 K, .int .i64 Y, .int .i64 N] 61))).below (bw_alloc (Below.refl _ _) (.cells #[.int .i64 op, .int .i64 K, .int .i64 Y, .int .i64 N] 61))
              have hlt := World.block_lt_of_cell? _ _ q.cell
              have hne : some w.heap.size ≠ (Value.slice av xs.length cv).ownBlock := by
                rcases Hne.out with h | h
                · rw [h]; simp
                · exact fun e => h e.symm
              have hb := hgrow3.block w.heap.size hlt hne
              exact ⟨(World.cell?_of_block hb).trans q.cell, (World.frozen?_of_block hb).trans q.free⟩)
            clear hown3 hgrow3
            go_wp2
            go_roundw
            case rel =>
              refine ⟨r, xs ++ [⟨op, K, Y, N⟩], ?_, Hr3.out, Hb3.out, by simp; have := Hx.out; omega, by have := Hln.out; omega, ?_, fun h => by simp at h⟩
              · rw [insCells_snoc, List.length_append]; exact Hown3.out
              · rw [Hread.out, Hst.out, Hp.out]
                simp only [Option.bind_some]
                rw [if_neg Hx.out]
                exact readAll_fuel (by have := Hln.out; omega) _
            case measure =>
              rw [Hr3.out.len, Hlen.out]
              simp [ByteArray.size]
              exact Hln.out

/-- PackAsk: the verdict of a pack's program. -/
def packAskI (code : List UInt8) (c : Call) : Int := match codeReadI code with
  | none => 4
  | some xs => (codeRun xs c).1
theorem codeReadI_len {l : List UInt8} {xs : List Ins} (h : codeReadI l = some xs) : xs.length ≤ 160 := by
  unfold codeReadI at h
  split at h
  · cases h
  · rcases hr : readAll l.length l [] with _ | ys
    · rw [hr] at h; cases h
    · rw [hr] at h
      simp only [Option.bind_some] at h
      split at h
      · rename_i hw
        injection h with h
        subst h
        simp [waysB] at hw
        omega
      · cases h

set_option maxHeartbeats 1000000 in
set_option maxRecDepth 100000 in
theorem packAsk_i (n : Int) (rules code : List UInt8) (c : Call) (cv : Value) (w : World) (hc : CallAt w cv c) (hl : code.length ≤ 4000000) (ht : Tab w) :
    Calls Tryd.prog 13 #[.agg #[.int .i64 n, str rules, str code], cv] w fun e w' => e = .returned (.int .i64 (packAskI code c)) ∧ Below w.heap.size w w' := by
  have HB := Lib.hid (Below.refl w.heap.size w)
  obtain ⟨s, rfl, hs⟩ := hc
  have Hs := Lib.hid hs
  have Ht := Lib.hid ht
  clear ht hs
  unfold str
  go_enter Tryd.func13, Tryd.ntmps13
  go_wp2_with fail
  refine (codeRead_c code _ hl).mono ?_
  rintro e w1 ⟨hb1, hp⟩
  have Hb1 := Lib.hid (bw_step (bw_alloc (bw_alloc HB.out _) _) hb1)
  have hcc := (bcell hb1).1
  have k0 := hcc (w.heap.size + 1) 0 (by simp)
  have k1 := hcc (w.heap.size + 1) 1 (by simp)
  clear hcc hb1
  rcases hr : codeReadI code with _ | xs
  · have hf : Hid (packAskI code c = 4) := by show packAskI code c = 4; unfold packAskI; rw [hr]
    rw [hr] at hp
    obtain rfl := hp
    clear hr
    go_wp2_with fail
    go_ret
    rw [hf.out]
    exact ⟨rfl, Hb1.out⟩
  · have hf : Hid (packAskI code c = (codeRun xs c).1) := by show packAskI code c = _; unfold packAskI; rw [hr]
    have hlx := codeReadI_len hr
    rw [hr] at hp
    obtain ⟨v, rfl, ho⟩ := hp
    have Hx := Lib.hid (own_ins ho)
    obtain ⟨av, cv, rfl, _⟩ := own_row ho
    clear hr ho
    go_wp2_with fail
    refine (codeRun_i xs _ c _ _ Hx.out ⟨s, rfl, Hs.out.keep Hb1.out⟩ (by omega) (Ht.out.below Hb1.out)).mono ?_
    rintro e w2 ⟨rfl, hb2⟩
    go_wp2_with fail
    go_ret
    rw [hf.out]
    exact ⟨rfl, bw_step Hb1.out hb2⟩
end Go.Proofs.YtgogkpojeomabaaDoor
