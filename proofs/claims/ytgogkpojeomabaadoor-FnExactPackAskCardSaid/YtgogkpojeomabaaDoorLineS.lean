/- The reference's l3Line. -/
import Derived.Test.YtgogkpojeomabaaDoorOkS
import Derived.Test.YtgogkpojeomabaaDoorRead
import Derived.Test.YtgogkpojeomabaaDoorNum
set_option linter.unusedVariables false
set_option linter.unusedSimpArgs false
namespace Go.Proofs.YtgogkpojeomabaaDoor
open Go.RowKit

/-- The operation that a word names among the first k; 0 of any other word. -/
def opUpTo (p : List UInt8) : Nat → Nat
  | 0 => 0
  | 1 => 0
  | k + 1 => if opWord (k : Nat) = p then k else opUpTo p k
theorem opUpTo_succ {p : List UInt8} {k : Nat} (hk : 1 ≤ k) : opUpTo p (k + 1) = if opWord (k : Nat) = p then k else opUpTo p k := by
  cases k with
  | zero => omega
  | succ k => rfl
theorem opUpTo_le (p : List UInt8) (k : Nat) : opUpTo p k ≤ k := by
  induction k with
  | zero => exact Nat.le_refl _
  | succ k ih =>
    by_cases hk : 1 ≤ k
    · rw [opUpTo_succ hk]; split <;> omega
    · have : k = 0 := by omega
      subst this; exact Nat.zero_le _
def lineParts (ps : List (List UInt8)) : Ins :=
  ⟨opUpTo (ps.headD []) 7, if 1 < ps.length then numS (ps.getD 1 []) else 0, if ps.length = 4 then numS (ps.getD 2 []) else 0, if ps.length = 4 then numS (ps.getD 3 []) else 0⟩
theorem lineParts_k (p a : List UInt8) (r : List (List UInt8)) : (lineParts (p :: a :: r)).k = numS a := by
  show (if 1 < (p :: a :: r).length then numS a else 0) = numS a
  rw [if_pos]; simp
theorem lineParts_yn (p : List UInt8) (r : List (List UInt8)) (h : ¬ r.length = 3) : (lineParts (p :: r)).yes = 0 ∧ (lineParts (p :: r)).no = 0 := by
  have h5 : ¬ (p :: r).length = 4 := by simp; omega
  refine ⟨?_, ?_⟩
  · show (if (p :: r).length = 4 then _ else (0 : Int)) = 0
    rw [if_neg h5]
  · show (if (p :: r).length = 4 then _ else (0 : Int)) = 0
    rw [if_neg h5]
def lineS (l : List UInt8) : Ins := lineParts (cut 32 l)

theorem keepP {g : Nat} {v : Value} {w0 w w' : World} (h : Below w0.heap.size w0 w ∧ w.cell? ⟨g, 0, none⟩ = some v) (hg : g < w0.heap.size) (hb : Below w.heap.size w w') :
    Below w0.heap.size w0 w' ∧ w'.cell? ⟨g, 0, none⟩ = some v := ⟨bw_step h.1 hb, ((bcell hb).1 g 0 (Nat.lt_of_lt_of_le hg h.1.size)).trans h.2⟩
def LineRel (w : World) (g : Nat) (p : List UInt8) (i : Value) (wr : World) : Prop :=
  ∃ k : Nat, 1 ≤ k ∧ k ≤ 7 ∧ i = .int .i64 k ∧ Blk wr g #[.int .i64 (opUpTo p k), .int .i64 0, .int .i64 0, .int .i64 0] 61 ∧ Below w.heap.size w wr

set_option maxHeartbeats 4000000 in
set_option maxRecDepth 100000 in
theorem l3Line_c (l : List UInt8) (w : World) (hl : l.length ≤ 1000000) :
    Calls Tryd.prog 70 #[.string ⟨l.toArray⟩] w fun e w' => e = .returned (lineS l).val ∧ Below w.heap.size w w' := by
  have HB := Lib.hid (Below.refl w.heap.size w)
  go_enter Tryd.func70, Tryd.ntmps70
  go_wp2_with fail
  refine (l2Cut_c _ 32 32 rfl _ (by simp [ByteArray.size]; omega)).mono ?_
  rintro e w1 ⟨v, rfl, ho, hb1⟩
  have hlc := cut_length_le 32 l
  have hne := cut_ne 32 l
  have Hf : Hid (lineS l = lineParts (cut 32 l)) := Lib.hid rfl
  rw [show (ByteArray.mk l.toArray).data.toList = l from by simp] at ho
  generalize hps : cut 32 l = ps at *
  clear hps
  obtain ⟨p0, pt, rfl⟩ : ∃ p0 pt, ps = p0 :: pt := by
    cases ps with
    | nil => exact absurd rfl hne
    | cons a b => exact ⟨a, b, rfl⟩
  have Hb1 := Lib.hid (bw_step (bw_alloc HB.out _) hb1)
  have Hres := Lib.hid ((Blk.new w #[.int .i64 0, .int .i64 0, .int .i64 0, .int .i64 0] 61).below hb1)
  obtain ⟨av, cv, rfl, hle, hcap, hrow⟩ := own_row ho
  obtain ⟨g, rfl, hg, _, hrow⟩ := hrow (by simp [strs])
  have hgl : g < w1.heap.size := hrow.lt (by simp)
  have Hrow := Lib.hid hrow
  have hwl : w.heap.size < w1.heap.size := Nat.lt_of_lt_of_le (by simp) hb1.size
  clear ho hb1 hrow hne
  unfold maxLen at hcap
  go_wp2_with fail
  go_loopw [5] (fun i wr => LineRel w1 w1.heap.size p0 i wr) (fun i _ => 7 - (intOf i).toNat)
  case atStart => exact ⟨1, Nat.le_refl _, by omega, rfl, Blk.new w1 _ _, bw_alloc (Below.refl _ _) _⟩
  case round =>
    obtain ⟨k, hk1, hk7, rfl, hblk, hbw⟩ := hrel
    have Hblk := Lib.hid hblk
    have Hbw := Lib.hid hbw
    clear hblk hbw
    by_cases hlt : k < 7
    · have e1 := opUpTo_succ (p := p0) hk1
      go_wp2_with fail
      refine (l3Names_at k (by omega) _).mono ?_
      rintro e w2 ⟨rfl, hb2, hn2, hz2⟩
      have Hblk2 := Lib.hid (Hblk.out.below hb2)
      have Hbw2 := Lib.hid (bw_step Hbw.out hb2)
      have hz1 := Hbw.out.size
      clear hb2 hn2 hz2
      have c0 := (Hrow.out.keep Hbw2.out).at (j := 0) (v := .string ⟨p0.toArray⟩) rfl
      by_cases heq : opWord (k : Nat) = p0
      · have hbe : ((ByteArray.mk (opWord (k : Nat)).toArray) == (ByteArray.mk p0.toArray)) = true := by rw [heq]; exact (MapKept.bytes_beq _ _).2 rfl
        have hbl : (opWord (k : Nat) == p0) = true := by rw [heq]; simp
        have i1 : (k : Int) < 7 := by omega
        have hg2 : g < w2.heap.size := World.block_lt_of_cell? w2 _ c0
        have E1 := Lib.hid (e1.trans (if_pos heq))
        clear e1
        go_upto_region 6 with fail
        go_region_with (first
          | (go_at_call 89; refine (l3Names_at k (by omega) _).mono ?_; rintro e w' ⟨rfl, hb3, hn3, hz3⟩; have c1 := ((bcell hb3).1 g 0 (by first | exact hg2 | (simp; done) | (simp; omega))).trans (by first | exact c0 | simpa using c0); have HW := Lib.hid (bw_step (by repeat (first | exact Below.refl _ _ | apply bw_drew | apply bw_drewN)) hb3); clear hb3 hz3; try simp at hn3))
        all_goals
          have Hblk3 := Lib.hid (Hblk2.out.below (bw_of_drew HW.out))
          have Hbw3 := Lib.hid (bw_step Hbw2.out (bw_of_drew HW.out))
          obtain ⟨⟨g0, _, _, _⟩, f0, _, _, _⟩ := blk4 Hblk3.out
          go_wp2_with fail
          go_roundw
          case rel =>
            refine ⟨k + 1, by omega, by omega, by go_num, ?_, bw_set Hbw3.out (Nat.le_refl _) _⟩
            rw [E1.out]
            exact Hblk3.out.set _
          case measure => simp [intOf]; omega
      · have hbe : ((ByteArray.mk (opWord (k : Nat)).toArray) == (ByteArray.mk p0.toArray)) = false := by
          rw [Bool.eq_false_iff]
          intro h
          have h1 := (MapKept.bytes_beq _ _).1 h
          injection h1 with h1
          exact heq (List.toArray_inj h1)
        have hbl : (opWord (k : Nat) == p0) = false := beq_eq_false_iff_ne.2 heq
        have i1 : (k : Int) < 7 := by omega
        have hg2 : g < w2.heap.size := World.block_lt_of_cell? w2 _ c0
        have E1 := Lib.hid (e1.trans (if_neg heq))
        clear e1
        go_upto_region 6 with fail
        go_region_with (first
          | (go_at_call 89; refine (l3Names_at k (by omega) _).mono ?_; rintro e w' ⟨rfl, hb3, hn3, hz3⟩; have c1 := ((bcell hb3).1 g 0 (by first | exact hg2 | (simp; done) | (simp; omega))).trans (by first | exact c0 | simpa using c0); have HW := Lib.hid (bw_step (by repeat (first | exact Below.refl _ _ | apply bw_drew | apply bw_drewN)) hb3); clear hb3 hz3; try simp at hn3))
        all_goals
          have Hblk3 := Lib.hid (Hblk2.out.below (bw_of_drew HW.out))
          have Hbw3 := Lib.hid (bw_step Hbw2.out (bw_of_drew HW.out))
          go_wp2_with fail
          go_roundw
          case rel =>
            refine ⟨k + 1, by omega, by omega, by go_num, ?_, Hbw3.out⟩
            rw [E1.out]
            exact Hblk3.out
          case measure => simp [intOf]; omega
    · have hk : k = 7 := by omega
      subst hk
      go_wp2_with fail
      refine (l3Names_at 1 (by omega) _).mono ?_
      rintro e w2 ⟨rfl, hb2, hn2, hz2⟩
      have Hblk2 := Lib.hid (Hblk.out.below hb2)
      have Hbw2 := Lib.hid (bw_step Hbw.out hb2)
      clear hb2 hn2 hz2
      have Hres2 := Lib.hid (Hres.out.below Hbw2.out)
      have HBE := Lib.hid (bw_step Hb1.out Hbw2.out)
      have hz2 := Hbw2.out.size
      clear hrow
      go_upto_if 27 with fail
      go_cut [] (fun wx => Blk wx w1.heap.size #[.int .i64 (lineS l).op, .int .i64 (lineS l).k, .int .i64 0, .int .i64 0] 61 ∧ Blk wx w.heap.size #[.int .i64 0, .int .i64 0, .int .i64 0, .int .i64 0] 61 ∧ Below w.heap.size w wx ∧ Below w1.heap.size w1 wx)
      case first =>
        obtain ⟨⟨g0, g1, g2, g3⟩, f0, f1, f2, f3⟩ := blk4 Hblk2.out
        generalize hop : (opUpTo p0 7 : Int) = op at *
        rcases pt with _ | ⟨a, r⟩
        · have hf : (lineS l).op = op ∧ (lineS l).k = 0 := by rw [Hf.out, ← hop]; exact ⟨rfl, rfl⟩
          have Hf2 := Lib.hid hf
          clear hf
          go_wp2_with fail
          go_meet
          rw [Hf2.out.1, Hf2.out.2]
          exact ⟨Hblk2.out, Hres2.out, HBE.out, Hbw2.out⟩
        · have q1 := (Hrow.out.keep Hbw2.out).at (j := 1) (v := .string ⟨a.toArray⟩) rfl
          have hf : (lineS l).op = op ∧ (lineS l).k = numS a := by
            rw [Hf.out, ← hop]
            refine ⟨rfl, ?_⟩
            exact lineParts_k _ a r
          have Hf2 := Lib.hid hf
          clear hf
          go_wp2_with fail
          refine (l2Num_c ⟨a.toArray⟩ _).mono ?_
          rintro e w3 ⟨rfl, rfl⟩
          rw [show (ByteArray.mk a.toArray).data.toList = a from rfl]
          go_wp2_with fail
          go_meet
          rw [Hf2.out.1, Hf2.out.2]
          exact ⟨Hblk2.out.set (j := 1) _, Hres2.out.set_other _ _ (Nat.ne_of_lt hwl), bw_set HBE.out (Nat.le_of_lt hwl) _, bw_set Hbw2.out (Nat.le_refl _) _⟩
      case rest =>
        obtain ⟨hx, hr, hbe, hbf⟩ := hcut
        have Hx := Lib.hid hx
        have Hr := Lib.hid hr
        have Hbe := Lib.hid hbe
        have Hbf := Lib.hid hbf
        clear hx hr hbe hbf
        go_upto_if 35 with fail
        go_cut [] (fun wx => Blk wx w1.heap.size #[.int .i64 (lineS l).op, .int .i64 (lineS l).k, .int .i64 (lineS l).yes, .int .i64 (lineS l).no] 61 ∧ Blk wx w.heap.size #[.int .i64 0, .int .i64 0, .int .i64 0, .int .i64 0] 61 ∧ Below w.heap.size w wx ∧ Below w1.heap.size w1 wx)
        case first =>
          obtain ⟨⟨g0, g1, g2, g3⟩, f0, f1, f2, f3⟩ := blk4 Hx.out
          by_cases h4 : pt.length = 3
          · obtain ⟨a, b, c, rfl⟩ : ∃ a b c, pt = [a, b, c] := by
              match pt, h4 with
              | [a, b, c], _ => exact ⟨a, b, c, rfl⟩
            have q2 := (Hrow.out.keep Hbf.out).at (j := 2) (v := .string ⟨b.toArray⟩) rfl
            have q3 := (Hrow.out.keep Hbf.out).at (j := 3) (v := .string ⟨c.toArray⟩) rfl
            have hf : (lineS l).yes = numS b ∧ (lineS l).no = numS c := by rw [Hf.out]; exact ⟨rfl, rfl⟩
            have Hf2 := Lib.hid hf
            clear hf
            go_wp2_with fail
            refine (l2Num_c ⟨b.toArray⟩ _).mono ?_
            rintro e w3 ⟨rfl, rfl⟩
            rw [show (ByteArray.mk b.toArray).data.toList = b from rfl]
            go_wp2_with fail
            refine (l2Num_c ⟨c.toArray⟩ _).mono ?_
            rintro e w3 ⟨rfl, rfl⟩
            rw [show (ByteArray.mk c.toArray).data.toList = c from rfl]
            go_wp2_with fail
            go_meet
            rw [Hf2.out.1, Hf2.out.2]
            exact ⟨(Hx.out.set (j := 2) _).set (j := 3) _, (Hr.out.set_other _ _ (Nat.ne_of_lt hwl)).set_other _ _ (Nat.ne_of_lt hwl), bw_set (bw_set Hbe.out (Nat.le_of_lt hwl) _) (Nat.le_of_lt hwl) _, bw_set (bw_set Hbf.out (Nat.le_refl _) _) (Nat.le_refl _) _⟩
          · have b4 : ((pt.length : Int) + 1 == 4) = false := beq_eq_false_iff_ne.2 (by omega)
            have hf : (lineS l).yes = 0 ∧ (lineS l).no = 0 := by
              rw [Hf.out]
              exact lineParts_yn p0 pt h4
            have Hf2 := Lib.hid hf
            clear hf
            go_wp2_with fail
            go_meet
            rw [Hf2.out.1, Hf2.out.2]
            exact ⟨Hx.out, Hr.out, Hbe.out, Hbf.out⟩
        case rest =>
          obtain ⟨hx, hr, hbe, _⟩ := hcut
          have Hbe := Lib.hid hbe
          obtain ⟨⟨r0, r1, r2, r3⟩, s0, s1, s2, s3⟩ := blk4 hr
          obtain ⟨⟨g0, g1, g2, g3⟩, f0, f1, f2, f3⟩ := blk4 hx
          clear hbe hx hr
          go_wp2_with fail
          refine bodyPost_ret (v := (lineS l).val) (by simp [results, Tryd.results70, go_sem, Ins.val, r0, r1, r2, r3, g0, g1, g2, g3]) rfl ?_
          exact ⟨rfl, bw_set (bw_set (bw_set (bw_set Hbe.out (Nat.le_refl _) _) (Nat.le_refl _) _) (Nat.le_refl _) _) (Nat.le_refl _) _⟩
end Go.Proofs.YtgogkpojeomabaaDoor
