/- A place of a program is read. -/
import Derived.Test.YtgogkpojeomabaaDoorOk
import Derived.Test.YtgogkpojeomabaaDoorBlk
set_option linter.unusedVariables false
set_option linter.unusedSimpArgs false
namespace Go.Proofs.YtgogkpojeomabaaDoor
open Go.RowKit

/-- A write to a new block moves nothing. -/
theorem Moved.far {b : Nat} {w0 w : World} (h : Moved b w0 w) {a : Addr} (ha : w0.heap.size ≤ a.block) (hb : b < w0.heap.size) (v : Value) : Moved b w0 (w.setCell a v) :=
  ⟨⟨h.grown.os, h.grown.tape, h.grown.output, by simpa [World.setCell] using h.grown.size, fun k hk hn => (Below.heap_setCell _ _ _ _ (by omega)).trans (h.grown.block k hk hn)⟩,
   fun o ho => (World.cell?_setCell_other _ _ _ _ (by intro e; rw [e] at ha; simp at ha; omega)).trans (h.cell o ho), fun o => by rw [World.frozen?_setCell]; exact h.frozen o⟩
theorem Moved.alloc {b : Nat} {w0 w : World} (h : Moved b w0 w) (hb : b < w0.heap.size) (o : Obj) : Moved b w0 (w.alloc o) :=
  h.trans (Moved.below (bw_alloc (Below.refl _ _) _) (Nat.lt_of_lt_of_le hb h.grown.size))

theorem Rd.far {b : Nat} {t : ByteArray} {w : World} (h : Rd b t w) {a : Addr} (hb : b ≠ a.block) (v : Value) : Rd b t (w.setCell a v) :=
  ⟨(World.cell?_setCell_other _ _ _ _ (by intro e; rw [e] at hb; simp at hb)).trans h.cell, by rw [World.frozen?_setCell]; exact h.free⟩
def numRes (most : Nat) (l : List UInt8) : Option (Nat × List UInt8) := (numGo most l 0 0).bind fun p => if 0 < p.2 then some (p.1, l.drop p.2) else none
def skipRes (p l : List UInt8) : Option (List UInt8) := if Lib.hasPrefix l p = true then some (Lib.trimPrefix l p) else none
/-- The op at the head, from op on; what is behind it. -/
def opSkip (l : List UInt8) : Nat → Nat → Option (Nat × List UInt8)
  | 0, _ => none
  | n + 1, op => if Lib.hasPrefix l (opWord op ++ [32]) = true then some (op, Lib.trimPrefix l (opWord op ++ [32])) else opSkip l n (op + 1)
def wayRes (l : List UInt8) : Option (Nat × List UInt8) := (skipRes [32] l).bind (numRes 6)
def placeRead (l : List UInt8) : Option (Ins × List UInt8) :=
  (opSkip l 6 1).bind fun p => (numRes 4294967295 p.2).bind fun q =>
    if p.1 = 3 ∨ p.1 = 4 then (wayRes q.2).bind fun y => (wayRes y.2).bind fun n => (skipRes [10] n.2).bind fun r => some (⟨p.1, q.1, y.1, n.1⟩, r)
    else (skipRes [10] q.2).bind fun r => some (⟨p.1, q.1, 0, 0⟩, r)

theorem skip_l (b : Nat) (l pl : List UInt8) (p : ByteArray) (hp : p.data.toList = pl) (w : World) (h : Rd b ⟨l.toArray⟩ w) : Calls Tryd.prog 94 #[.pointer (some ⟨b, 0, none⟩), .string p] w fun e w' => e = .returned (.bool (Lib.hasPrefix l pl)) ∧ Rd b ⟨(Lib.trimPrefix l pl).toArray⟩ w' ∧ Moved b w w' := by
  subst hp
  exact skip_c b ⟨l.toArray⟩ p w h
theorem skip_yes (b : Nat) (l pl r : List UInt8) (p : ByteArray) (hp : p.data.toList = pl) (hr : skipRes pl l = some r) (w : World) (h : Rd b ⟨l.toArray⟩ w) : Calls Tryd.prog 94 #[.pointer (some ⟨b, 0, none⟩), .string p] w fun e w' => e = .returned (.bool true) ∧ Rd b ⟨r.toArray⟩ w' ∧ Moved b w w' := by
  unfold skipRes at hr
  split at hr
  · rename_i hh
    injection hr with hr
    subst hr
    refine (skip_l b l pl p hp w h).mono ?_
    rintro e w' ⟨rfl, h1, h2⟩
    rw [hh]
    exact ⟨rfl, h1, h2⟩
  · cases hr
theorem skip_no (b : Nat) (l pl : List UInt8) (p : ByteArray) (hp : p.data.toList = pl) (hr : skipRes pl l = none) (w : World) (h : Rd b ⟨l.toArray⟩ w) : Calls Tryd.prog 94 #[.pointer (some ⟨b, 0, none⟩), .string p] w fun e w' => e = .returned (.bool false) ∧ Rd b ⟨l.toArray⟩ w' ∧ Moved b w w' := by
  unfold skipRes at hr
  split at hr
  · cases hr
  · rename_i hh
    simp at hh
    refine (skip_l b l pl p hp w h).mono ?_
    rintro e w' ⟨rfl, h1, h2⟩
    rw [hh]
    have e1 : Lib.trimPrefix l pl = l := by unfold Lib.trimPrefix; rw [hh]; simp
    rw [e1] at h1
    exact ⟨rfl, h1, h2⟩
theorem extract_drop (l : List UInt8) (n : Nat) : (ByteArray.mk l.toArray).extract n (ByteArray.mk l.toArray).size = ⟨(l.drop n).toArray⟩ := by
  rw [extract_str]
  congr 2
  exact List.take_of_length_le (by simp [ByteArray.size])
theorem number_yes (b most : Nat) (l r : List UInt8) (n : Nat) (hr : numRes most l = some (n, r)) (w : World) (h : Rd b ⟨l.toArray⟩ w) (hm : most ≤ 4294967295) (hl : l.length ≤ 1000000) :
    Calls Tryd.prog 96 #[.pointer (some ⟨b, 0, none⟩), .int .i64 most] w fun e w' => e = .returned (.tuple #[.int .i64 n, .bool true]) ∧ Rd b ⟨r.toArray⟩ w' ∧ Moved b w w' := by
  refine (number_c b ⟨l.toArray⟩ most w h hm (by simp [ByteArray.size]; omega)).mono ?_
  intro e w' hp
  unfold NumPost at hp
  unfold numRes at hr
  change (match numGo most l 0 0 with | none => _ | some (v, n) => _) at hp
  rcases hg : numGo most l 0 0 with _ | ⟨v, m⟩
  · rw [hg] at hr; cases hr
  · rw [hg] at hr hp
    simp only [Option.bind_some] at hr
    obtain ⟨h1, h2, h3⟩ := hp
    split at hr
    · rename_i h0
      injection hr with hr
      injection hr with e1 e2
      subst e1 e2
      rw [extract_drop] at h2
      exact ⟨by rw [h1]; simp [h0], h2, h3⟩
    · cases hr
theorem number_no (b most : Nat) (l : List UInt8) (hr : numRes most l = none) (w : World) (h : Rd b ⟨l.toArray⟩ w) (hm : most ≤ 4294967295) (hl : l.length ≤ 1000000) :
    Calls Tryd.prog 96 #[.pointer (some ⟨b, 0, none⟩), .int .i64 most] w fun e w' => ∃ n : Nat, e = .returned (.tuple #[.int .i64 n, .bool false]) ∧ Moved b w w' := by
  refine (number_c b ⟨l.toArray⟩ most w h hm (by simp [ByteArray.size]; omega)).mono ?_
  intro e w' hp
  unfold NumPost at hp
  unfold numRes at hr
  change (match numGo most l 0 0 with | none => _ | some (v, n) => _) at hp
  rcases hg : numGo most l 0 0 with _ | ⟨v, m⟩
  · rw [hg] at hp
    exact ⟨0, hp.1, hp.2.2⟩
  · rw [hg] at hr hp
    simp only [Option.bind_some] at hr
    obtain ⟨h1, h2, h3⟩ := hp
    split at hr
    · cases hr
    · rename_i h0
      exact ⟨v, by rw [h1]; simp [h0], h3⟩

theorem trim_len (l p : List UInt8) : (Lib.trimPrefix l p).length ≤ l.length := by
  unfold Lib.trimPrefix
  split <;> simp
theorem skipRes_len {p l r : List UInt8} (h : skipRes p l = some r) : r.length ≤ l.length := by
  unfold skipRes at h
  split at h
  · injection h with h; subst h; exact trim_len _ _
  · cases h
theorem numRes_len {m n : Nat} {l r : List UInt8} (h : numRes m l = some (n, r)) : r.length ≤ l.length := by
  unfold numRes at h
  rcases hg : numGo m l 0 0 with _ | ⟨v, k⟩
  · rw [hg] at h; cases h
  · rw [hg] at h
    simp only [Option.bind_some] at h
    split at h
    · injection h with h; injection h with h1 h2; subst h2; simp
    · cases h
/-- What the ways at a place read as, so far. -/
def WayState (l2 : List UInt8) (k : Nat) (lk : List UInt8) (Y N : Nat) : Prop :=
  (k = 0 ∧ lk = l2 ∧ Y = 0 ∧ N = 0) ∨ (k = 1 ∧ wayRes l2 = some (Y, lk) ∧ N = 0) ∨ (k = 2 ∧ ∃ m, wayRes l2 = some (Y, m) ∧ wayRes m = some (N, lk))
def WaysRel (b : Nat) (w : World) (l2 : List UInt8) (g j n : Nat) (ok i : Value) (wr : World) : Prop :=
  ∃ (k : Nat) (lk : List UInt8) (Y N : Nat), k ≤ 2 ∧ i = .int .i64 k ∧ ok = .bool true ∧ Rd b ⟨lk.toArray⟩ wr ∧ Moved b w wr ∧ Blk wr w.heap.size #[.int .i64 0, .int .i64 0, .int .i64 0, .int .i64 0] 61 ∧
    Blk wr (w.heap.size + 1) #[.int .i64 j, .int .i64 n, .int .i64 Y, .int .i64 N] 61 ∧ Blk wr g #[.pointer (some ⟨w.heap.size + 1, 2, none⟩), .pointer (some ⟨w.heap.size + 1, 3, none⟩)] 137 ∧ lk.length ≤ l2.length ∧ WayState l2 k lk Y N
def lookEnd (j n y : Nat) (m : Nat × List UInt8) : Option (Ins × List UInt8) := (skipRes [10] m.2).bind fun r => some (⟨j, n, y, m.1⟩, r)
theorem placeRead_look {l l1 l2 : List UInt8} {j n : Nat} (h1 : opSkip l 6 1 = some (j, l1)) (h2 : numRes 4294967295 l1 = some (n, l2)) (hj : j = 3 ∨ j = 4) :
    placeRead l = (wayRes l2).bind fun y => (wayRes y.2).bind fun m => lookEnd j n y.1 m := by
  unfold placeRead lookEnd; rw [h1]; simp only [Option.bind_some]; rw [h2]; simp only [Option.bind_some]; rw [if_pos hj]
theorem ways_none {l2 lk : List UInt8} {k Y N : Nat} (h : WayState l2 k lk Y N) (hk : k < 2) (hw : wayRes lk = none) {α : Type} (f : Nat → Nat × List UInt8 → Option α) :
    ((wayRes l2).bind fun y => (wayRes y.2).bind fun m => f y.1 m) = none := by
  rcases h with ⟨rfl, rfl, _⟩ | ⟨rfl, h1, _⟩ | ⟨rfl, _⟩
  · rw [hw]; rfl
  · rw [h1]; simp only [Option.bind_some]; rw [hw]; rfl
  · omega
theorem ways_step {l2 lk m : List UInt8} {k Y N v : Nat} (h : WayState l2 k lk Y N) (hk : k < 2) (hw : wayRes lk = some (v, m)) : (k = 0 → WayState l2 1 m v 0) ∧ (k = 1 → WayState l2 2 m Y v) := by
  rcases h with ⟨rfl, rfl, _⟩ | ⟨rfl, h1, _⟩ | ⟨rfl, _⟩
  · exact ⟨fun _ => .inr (.inl ⟨rfl, hw, rfl⟩), fun h => by omega⟩
  · exact ⟨fun h => by omega, fun _ => .inr (.inr ⟨rfl, lk, h1, hw⟩)⟩
  · omega
theorem ways_end {l2 lk : List UInt8} {k Y N : Nat} (h : WayState l2 k lk Y N) (hk : ¬ k < 2) {α : Type} (f : Nat → Nat × List UInt8 → Option α) :
    ((wayRes l2).bind fun y => (wayRes y.2).bind fun m => f y.1 m) = f Y (N, lk) := by
  rcases h with ⟨rfl, rfl, _⟩ | ⟨rfl, h1, _⟩ | ⟨rfl, m, h1, h2⟩
  · omega
  · omega
  · rw [h1]; simp only [Option.bind_some]; rw [h2]; rfl
theorem ways_zero {l2 lk : List UInt8} {k Y N : Nat} (h : WayState l2 k lk Y N) : (k = 0 → Y = 0 ∧ N = 0) ∧ (k = 1 → N = 0) := by
  rcases h with ⟨rfl, rfl, h⟩ | ⟨rfl, h1, h⟩ | ⟨rfl, m, h1, h2⟩
  · exact ⟨fun _ => h, fun h => by omega⟩
  · exact ⟨fun h => by omega, fun _ => h⟩
  · exact ⟨fun h => by omega, fun h => by omega⟩
def PlacePost (b : Nat) (l : List UInt8) (w : World) (e : Ending) (w' : World) : Prop :=
  ∃ (x : Ins) (ok : Bool), e = .returned (.tuple #[x.val, .bool ok]) ∧ Moved b w w' ∧ (if ok = true then ∃ r, placeRead l = some (x, r) ∧ Rd b ⟨r.toArray⟩ w' else placeRead l = none)
theorem opSkip_none (l : List UInt8) (op : Nat) : opSkip l 0 op = none := rfl
theorem PlacePost.no {b : Nat} {l : List UInt8} {w : World} {e : Ending} {w' : World} {x : Ins} (h : e = .returned (.tuple #[x.val, .bool false])) (hm : Moved b w w') (hn : placeRead l = none) : PlacePost b l w e w' := ⟨x, false, h, hm, hn⟩
theorem PlacePost.yes {b : Nat} {l r : List UInt8} {w : World} {e : Ending} {w' : World} {x : Ins} (h : e = .returned (.tuple #[x.val, .bool true])) (hm : Moved b w w') (hn : placeRead l = some (x, r)) (hr : Rd b ⟨r.toArray⟩ w') : PlacePost b l w e w' := ⟨x, true, h, hm, r, hn, hr⟩

set_option maxHeartbeats 4000000 in
set_option maxRecDepth 100000 in
theorem place_c (b : Nat) (l : List UInt8) (w : World) (h : Rd b ⟨l.toArray⟩ w) (hl : l.length ≤ 1000000) :
    Calls Tryd.prog 72 #[.pointer (some ⟨b, 0, none⟩)] w (PlacePost b l w) := by
  have hbl : b < w.heap.size := World.block_lt_of_cell? w _ h.cell
  have H := Lib.hid h
  clear h
  go_enter Tryd.func72, Tryd.ntmps72
  go_wp2
  go_loopw [5] (fun o wr => ∃ j : Nat, 1 ≤ j ∧ j ≤ 7 ∧ o = .int .i64 j ∧ Rd b ⟨l.toArray⟩ wr ∧ Moved b w wr ∧ Blk wr w.heap.size #[.int .i64 0, .int .i64 0, .int .i64 0, .int .i64 0] 61 ∧ Blk wr (w.heap.size + 1) #[.int .i64 0, .int .i64 0, .int .i64 0, .int .i64 0] 61 ∧ opSkip l 6 1 = opSkip l (7 - j) j) (fun o _ => 7 - (intOf o).toNat)
  case atStart =>
    refine ⟨1, Nat.le_refl _, by omega, rfl, (H.out.below (bw_alloc (Below.refl _ _) _)).below (bw_alloc (Below.refl _ _) _), ((Moved.refl b w).alloc hbl _).alloc hbl _, (Blk.new w _ _).below (bw_alloc (Below.refl _ _) _), ?_, rfl⟩
    have := Blk.new (w.alloc (.cells #[.int .i64 0, .int .i64 0, .int .i64 0, .int .i64 0] 61)) #[.int .i64 0, .int .i64 0, .int .i64 0, .int .i64 0] 61
    simpa using this
  case round =>
    obtain ⟨j, hj1, hj2, rfl, hrd, hmv, hk1, hk2, hop⟩ := hrel
    have Hrd := Lib.hid hrd
    have Hmv := Lib.hid hmv
    have Hk1 := Lib.hid hk1
    have Hk2 := Lib.hid hk2
    have Hop := Lib.hid hop
    clear hrd hmv hk1 hk2 hop
    by_cases hlt : j ≤ 6
    · have lw := opWord_len j
      have Hcat : Hid ((ByteArray.mk (opWord j).toArray ++ ByteArray.mk #[32]).data.toList = opWord j ++ [32]) := by show (ByteArray.mk (opWord j).toArray ++ ByteArray.mk #[32]).data.toList = opWord j ++ [32]; simp [ByteArray.data_append]
      have Hstep : Hid (opSkip l (7 - j) j = if Lib.hasPrefix l (opWord j ++ [32]) = true then some (j, Lib.trimPrefix l (opWord j ++ [32])) else opSkip l (6 - j) (j + 1)) := by
        show opSkip l (7 - j) j = _
        rw [show 7 - j = (6 - j) + 1 by omega, opSkip]
      go_wp2_with (go_at_call 95; refine (opName_c _ _).mono ?_; unfold str; rintro e w' ⟨rfl, rfl⟩)
      rcases hs : skipRes (opWord j ++ [32]) l with _ | l1
      · refine (skip_no b l _ _ Hcat.out hs wr Hrd.out).mono ?_
        rintro e w1 ⟨rfl, hr1, hm1⟩
        have Hs := Lib.hid hs
        have Hr1 := Lib.hid hr1
        have Hm1 := Lib.hid hm1
        clear hs hr1 hm1
        go_wp2
        go_roundw
        case rel =>
          refine ⟨j + 1, by omega, by omega, by go_num, Hr1.out, Hmv.out.trans Hm1.out, Hk1.out.grown Hm1.out.grown (by simp; omega), Hk2.out.grown Hm1.out.grown (by simp; omega), ?_⟩
          rw [Hop.out, Hstep.out]
          have := Hs.out
          unfold skipRes at this
          split at this
          · cases this
          · rename_i hh; rw [if_neg hh, show 7 - (j + 1) = 6 - j by omega]
        case measure => simp [intOf]; omega
      · refine (skip_yes b l _ l1 _ Hcat.out hs wr Hrd.out).mono ?_
        rintro e w1 ⟨rfl, hr1, hm1⟩
        have Hop1 : Hid (opSkip l 6 1 = some (j, l1)) := by
          show opSkip l 6 1 = some (j, l1)
          rw [Hop.out, Hstep.out]
          unfold skipRes at hs
          split at hs
          · rename_i hh; rw [if_pos hh]; injection hs with hs; rw [hs]
          · cases hs
        have Hl1 := Lib.hid (skipRes_len hs)
        have Hr1 := Lib.hid hr1
        have Hm1 := Lib.hid (Hmv.out.trans hm1)
        have Hk1' := Lib.hid (Hk1.out.grown hm1.grown (by simp; omega))
        have Hk2' := Lib.hid (Hk2.out.grown hm1.grown (by simp; omega))
        clear hs hr1 hm1 Hk1 Hk2 Hmv Hrd Hop Hstep
        obtain ⟨⟨i0, i1, i2, i3⟩, f0, f1, f2, f3⟩ := blk4 Hk2'.out
        have hll : l1.length ≤ 1000000 := Nat.le_trans Hl1.out hl
        have Hr2 := Lib.hid (Rd.far Hr1.out (a := ⟨w.heap.size + 1, 0, none⟩) (by simp; omega) (.int .i64 j))
        have Hm2 := Lib.hid (Hm1.out.far (a := ⟨w.heap.size + 1, 0, none⟩) (by simp) hbl (.int .i64 j))
        have Hk1a := Lib.hid (Hk1'.out.set_other ⟨w.heap.size + 1, 0, none⟩ (.int .i64 j) (by simp))
        have Hk2a := Lib.hid (Hk2'.out.set (j := 0) (.int .i64 j))
        rcases hn : numRes 4294967295 l1 with _ | ⟨n, l2⟩
        · go_wp2_with fail
          refine (number_no b 4294967295 l1 hn _ Hr2.out (Nat.le_refl _) hll).mono ?_
          rintro e w2 ⟨n, rfl, hm3⟩
          have Hn := Lib.hid hn
          clear hn
          have Hm3 := Lib.hid (Hm2.out.trans hm3)
          have Hk1b := Lib.hid (Hk1a.out.grown hm3.grown (by simp; omega))
          have Hk2b := Lib.hid (Hk2a.out.grown hm3.grown (by simp; omega))
          clear hm3 Hk1a Hk2a Hm2 Hr2 i0 i1 i2 i3 f0 f1 f2 f3 Hk1' Hk2' Hr1 Hm1
          obtain ⟨⟨i0, i1, i2, i3⟩, f0, f1, f2, f3⟩ := blk4 Hk2b.out
          obtain ⟨⟨j0, j1, j2, j3⟩, g0, g1, g2, g3⟩ := blk4 Hk1b.out
          go_wp2
          refine bodyPost_ret (v := .tuple #[(Ins.mk 0 0 0 0).val, .bool false]) (by simp [results, Tryd.results72, go_sem, Ins.val, j0, j1, j2, j3]) rfl ?_
          refine PlacePost.no rfl ?_ (by unfold placeRead; rw [Hop1.out]; simp only [Option.bind_some]; rw [Hn.out]; rfl)
          repeat (first | exact Hm3.out | refine Moved.far ?_ (by simp) hbl _)
        · have Hn := Lib.hid hn
          clear hn
          go_wp2_with fail
          refine (number_yes b 4294967295 l1 l2 n Hn.out _ Hr2.out (Nat.le_refl _) hll).mono ?_
          rintro e w2 ⟨rfl, hr3, hm3⟩
          have Hr3 := Lib.hid hr3
          have Hm3 := Lib.hid (Hm2.out.trans hm3)
          have Hk1b := Lib.hid (Hk1a.out.grown hm3.grown (by simp; omega))
          have Hk2b := Lib.hid (Hk2a.out.grown hm3.grown (by simp; omega))
          clear hm3 hr3 Hk1a Hk2a Hm2 Hr2 i0 i1 i2 i3 f0 f1 f2 f3 Hk1' Hk2' Hr1 Hm1
          obtain ⟨⟨i0, i1, i2, i3⟩, f0, f1, f2, f3⟩ := blk4 Hk2b.out
          obtain ⟨⟨j0, j1, j2, j3⟩, g0, g1, g2, g3⟩ := blk4 Hk1b.out
          have hll2 : l2.length ≤ 1000000 := Nat.le_trans (numRes_len Hn.out) hll
          have Hr4 := Lib.hid (Rd.far Hr3.out (a := ⟨w.heap.size + 1, 1, none⟩) (by simp; omega) (.int .i64 n))
          have Hm4 := Lib.hid (Hm3.out.far (a := ⟨w.heap.size + 1, 1, none⟩) (by simp) hbl (.int .i64 n))
          have Hk1c := Lib.hid (Hk1b.out.set_other ⟨w.heap.size + 1, 1, none⟩ (.int .i64 n) (by simp))
          have Hk2c := Lib.hid (Hk2b.out.set (j := 1) (.int .i64 n))
          by_cases hjl : j = 3 ∨ j = 4
          · have b0 : ((j : Int) == 0) = false := beq_eq_false_iff_ne.2 (by omega)
            have Hjl := Lib.hid hjl
            have hWl : w.heap.size + 2 ≤ w2.heap.size := by have := Hk2b.out.lt; omega
            have hb34 : (((j : Int) == 3) = true) ∨ (((j : Int) == 3) = false ∧ ((j : Int) == 4) = true) := by
              rcases hjl with rfl | rfl
              · exact .inl rfl
              · exact .inr ⟨rfl, rfl⟩
            clear hjl
            rcases hb34 with b3 | ⟨b3, b4⟩
            all_goals
              go_wp2
              go_loopw [7, 9, 48] (fun ok _ i wr => WaysRel b w l2 w2.heap.size j n ok i wr) (fun _ _ i _ => 2 - (intOf i).toNat)
              case atStart =>
                refine ⟨0, l2, 0, 0, by omega, rfl, rfl, Hr4.out.below (bw_alloc (Below.refl _ _) _), Hm4.out.alloc hbl _, Hk1c.out.below (bw_alloc (Below.refl _ _) _), Hk2c.out.below (bw_alloc (Below.refl _ _) _), ?_, Nat.le_refl _, .inl ⟨rfl, rfl, rfl, rfl⟩⟩
                have := Blk.new (w2.setCell ⟨w.heap.size + 1, 1, none⟩ (.int .i64 n)) #[.pointer (some ⟨w.heap.size + 1, 2, none⟩), .pointer (some ⟨w.heap.size + 1, 3, none⟩)] 137
                simpa using this
              case round =>
                obtain ⟨k, lk, Y, N, hk, rfl, rfl, hr, hm, hq1, hq2, hq3, hlk, hst⟩ := hrel
                have HR := Lib.hid hr
                have HM := Lib.hid hm
                have Q1 := Lib.hid hq1
                have Q2 := Lib.hid hq2
                have Q3 := Lib.hid hq3
                have ST := Lib.hid hst
                clear hr hm hq1 hq2 hq3 hst i0 i1 i2 i3 f0 f1 f2 f3 j0 j1 j2 j3 g0 g1 g2 g3
                have hlk2 : lk.length ≤ 1000000 := by omega
                by_cases hkl : k < 2
                · rcases (show k = 0 ∨ k = 1 by omega) with rfl | rfl
                  · have q0 := Q3.out.cell 0 rfl
                    have q1 := Q3.out.cell 1 rfl
                    have ZZ := Lib.hid (ways_zero ST.out)
                    rcases hs : skipRes [32] lk with _ | m
                    · have Hno : Hid (placeRead l = none) := by
                        show placeRead l = none
                        rw [placeRead_look Hop1.out Hn.out Hjl.out]
                        exact ways_none ST.out (by omega) (by unfold wayRes; rw [hs]; rfl) _
                      go_wp2_with fail
                      refine (skip_no b lk [32] ⟨#[32]⟩ rfl hs _ HR.out).mono ?_
                      rintro e w5 ⟨rfl, _, hm5⟩
                      have HM5 := Lib.hid (HM.out.trans hm5)
                      obtain ⟨⟨z0, z1, z2, z3⟩, t0, t1, t2, t3⟩ := blk4 (Q1.out.grown hm5.grown (by simp; omega))
                      clear hm5 hs
                      go_wp2
                      refine bodyPost_ret (v := .tuple #[(Ins.mk 0 0 0 0).val, .bool false]) (by simp [results, Tryd.results72, go_sem, Ins.val, z0, z1, z2, z3]) rfl ?_
                      refine PlacePost.no rfl ?_ Hno.out
                      repeat (first | exact HM5.out | refine Moved.far ?_ (by simp) hbl _)
                    · rcases hn6 : numRes 6 m with _ | ⟨v, m2⟩
                      · have Hno : Hid (placeRead l = none) := by
                          show placeRead l = none
                          rw [placeRead_look Hop1.out Hn.out Hjl.out]
                          exact ways_none ST.out (by omega) (by unfold wayRes; rw [hs]; exact hn6) _
                        have hml := skipRes_len hs
                        go_wp2_with fail
                        refine (skip_yes b lk [32] m ⟨#[32]⟩ rfl hs _ HR.out).mono ?_
                        rintro e w5 ⟨rfl, hr5, hm5⟩
                        have HM5 := Lib.hid (HM.out.trans hm5)
                        have Q15 := Lib.hid (Q1.out.grown hm5.grown (by simp; omega))
                        have Q25 := Lib.hid (Q2.out.grown hm5.grown (by simp; omega))
                        have HR5 := Lib.hid hr5
                        have HN6 := Lib.hid hn6
                        clear hm5 hs hr5 hn6
                        go_wp2_with fail
                        refine (number_no b 6 m HN6.out _ HR5.out (by omega) (by omega)).mono ?_
                        rintro e w6 ⟨v, rfl, hm6⟩
                        have HM6 := Lib.hid (HM5.out.trans hm6)
                        obtain ⟨⟨z0, z1, z2, z3⟩, t0, t1, t2, t3⟩ := blk4 (Q15.out.grown hm6.grown (by simp; omega))
                        obtain ⟨⟨x0, x1, x2, x3⟩, y0, y1, y2, y3⟩ := blk4 (Q25.out.grown hm6.grown (by simp; omega))
                        clear hm6
                        go_wp2
                        refine bodyPost_ret (v := .tuple #[(Ins.mk 0 0 0 0).val, .bool false]) (by simp [results, Tryd.results72, go_sem, Ins.val, z0, z1, z2, z3]) rfl ?_
                        refine PlacePost.no rfl ?_ Hno.out
                        repeat (first | exact HM6.out | refine Moved.far ?_ (by simp) hbl _)
                      · have Hws := Lib.hid (ways_step ST.out (by omega) (show wayRes lk = some (v, m2) by unfold wayRes; rw [hs]; exact hn6))
                        have hml := skipRes_len hs
                        have hml2 := numRes_len hn6
                        go_wp2_with fail
                        refine (skip_yes b lk [32] m ⟨#[32]⟩ rfl hs _ HR.out).mono ?_
                        rintro e w5 ⟨rfl, hr5, hm5⟩
                        have HM5 := Lib.hid (HM.out.trans hm5)
                        have Q15 := Lib.hid (Q1.out.grown hm5.grown (by simp; omega))
                        have Q25 := Lib.hid (Q2.out.grown hm5.grown (by simp; omega))
                        have Q35 := Lib.hid (Q3.out.grown hm5.grown (by simp; omega))
                        have HR5 := Lib.hid hr5
                        have HN6 := Lib.hid hn6
                        clear hm5 hs hr5 hn6
                        go_wp2_with fail
                        refine (number_yes b 6 m m2 v HN6.out _ HR5.out (by omega) (by omega)).mono ?_
                        rintro e w6 ⟨rfl, hr6, hm6⟩
                        have HM6 := Lib.hid (HM5.out.trans hm6)
                        have Q16 := Lib.hid (Q15.out.grown hm6.grown (by simp; omega))
                        have Q26 := Lib.hid (Q25.out.grown hm6.grown (by simp; omega))
                        have Q36 := Lib.hid (Q35.out.grown hm6.grown (by simp; omega))
                        have HR6 := Lib.hid hr6
                        obtain ⟨⟨x0, x1, x2, x3⟩, y0, y1, y2, y3⟩ := blk4 Q26.out
                        clear hm6 hr6
                        go_wp2
                        go_roundw
                        case rel => 
                          refine ⟨1, m2, v, 0, by omega, by go_num, rfl, HR6.out.far (by simp; omega) _, HM6.out.far (by simp) hbl _, Q16.out.set_other _ _ (by simp), ?_, Q36.out.set_other _ _ (by simp; omega), by omega, Hws.out.1 trivial⟩
                          have := Q26.out.set (j := 2) (.int .i64 v)
                          obtain ⟨_, rfl⟩ := ZZ.out.1 trivial
                          exact this
                        case measure => simp [intOf]
                  · have q0 := Q3.out.cell 0 rfl
                    have q1 := Q3.out.cell 1 rfl
                    have ZZ := Lib.hid (ways_zero ST.out)
                    rcases hs : skipRes [32] lk with _ | m
                    · have Hno : Hid (placeRead l = none) := by
                        show placeRead l = none
                        rw [placeRead_look Hop1.out Hn.out Hjl.out]
                        exact ways_none ST.out (by omega) (by unfold wayRes; rw [hs]; rfl) _
                      go_wp2_with fail
                      refine (skip_no b lk [32] ⟨#[32]⟩ rfl hs _ HR.out).mono ?_
                      rintro e w5 ⟨rfl, _, hm5⟩
                      have HM5 := Lib.hid (HM.out.trans hm5)
                      obtain ⟨⟨z0, z1, z2, z3⟩, t0, t1, t2, t3⟩ := blk4 (Q1.out.grown hm5.grown (by simp; omega))
                      clear hm5 hs
                      go_wp2
                      refine bodyPost_ret (v := .tuple #[(Ins.mk 0 0 0 0).val, .bool false]) (by simp [results, Tryd.results72, go_sem, Ins.val, z0, z1, z2, z3]) rfl ?_
                      refine PlacePost.no rfl ?_ Hno.out
                      repeat (first | exact HM5.out | refine Moved.far ?_ (by simp) hbl _)
                    · rcases hn6 : numRes 6 m with _ | ⟨v, m2⟩
                      · have Hno : Hid (placeRead l = none) := by
                          show placeRead l = none
                          rw [placeRead_look Hop1.out Hn.out Hjl.out]
                          exact ways_none ST.out (by omega) (by unfold wayRes; rw [hs]; exact hn6) _
                        have hml := skipRes_len hs
                        go_wp2_with fail
                        refine (skip_yes b lk [32] m ⟨#[32]⟩ rfl hs _ HR.out).mono ?_
                        rintro e w5 ⟨rfl, hr5, hm5⟩
                        have HM5 := Lib.hid (HM.out.trans hm5)
                        have Q15 := Lib.hid (Q1.out.grown hm5.grown (by simp; omega))
                        have Q25 := Lib.hid (Q2.out.grown hm5.grown (by simp; omega))
                        have HR5 := Lib.hid hr5
                        have HN6 := Lib.hid hn6
                        clear hm5 hs hr5 hn6
                        go_wp2_with fail
                        refine (number_no b 6 m HN6.out _ HR5.out (by omega) (by omega)).mono ?_
                        rintro e w6 ⟨v, rfl, hm6⟩
                        have HM6 := Lib.hid (HM5.out.trans hm6)
                        obtain ⟨⟨z0, z1, z2, z3⟩, t0, t1, t2, t3⟩ := blk4 (Q15.out.grown hm6.grown (by simp; omega))
                        obtain ⟨⟨x0, x1, x2, x3⟩, y0, y1, y2, y3⟩ := blk4 (Q25.out.grown hm6.grown (by simp; omega))
                        clear hm6
                        go_wp2
                        refine bodyPost_ret (v := .tuple #[(Ins.mk 0 0 0 0).val, .bool false]) (by simp [results, Tryd.results72, go_sem, Ins.val, z0, z1, z2, z3]) rfl ?_
                        refine PlacePost.no rfl ?_ Hno.out
                        repeat (first | exact HM6.out | refine Moved.far ?_ (by simp) hbl _)
                      · have Hws := Lib.hid (ways_step ST.out (by omega) (show wayRes lk = some (v, m2) by unfold wayRes; rw [hs]; exact hn6))
                        have hml := skipRes_len hs
                        have hml2 := numRes_len hn6
                        go_wp2_with fail
                        refine (skip_yes b lk [32] m ⟨#[32]⟩ rfl hs _ HR.out).mono ?_
                        rintro e w5 ⟨rfl, hr5, hm5⟩
                        have HM5 := Lib.hid (HM.out.trans hm5)
                        have Q15 := Lib.hid (Q1.out.grown hm5.grown (by simp; omega))
                        have Q25 := Lib.hid (Q2.out.grown hm5.grown (by simp; omega))
                        have Q35 := Lib.hid (Q3.out.grown hm5.grown (by simp; omega))
                        have HR5 := Lib.hid hr5
                        have HN6 := Lib.hid hn6
                        clear hm5 hs hr5 hn6
                        go_wp2_with fail
                        refine (number_yes b 6 m m2 v HN6.out _ HR5.out (by omega) (by omega)).mono ?_
                        rintro e w6 ⟨rfl, hr6, hm6⟩
                        have HM6 := Lib.hid (HM5.out.trans hm6)
                        have Q16 := Lib.hid (Q15.out.grown hm6.grown (by simp; omega))
                        have Q26 := Lib.hid (Q25.out.grown hm6.grown (by simp; omega))
                        have Q36 := Lib.hid (Q35.out.grown hm6.grown (by simp; omega))
                        have HR6 := Lib.hid hr6
                        obtain ⟨⟨x0, x1, x2, x3⟩, y0, y1, y2, y3⟩ := blk4 Q26.out
                        clear hm6 hr6
                        go_wp2
                        go_roundw
                        case rel => 
                          exact ⟨2, m2, Y, v, by omega, by go_num, rfl, HR6.out.far (by simp; omega) _, HM6.out.far (by simp) hbl _, Q16.out.set_other _ _ (by simp), Q26.out.set (j := 3) (.int .i64 v), Q36.out.set_other _ _ (by simp; omega), by omega, Hws.out.2 trivial⟩
                        case measure => simp [intOf]
                · have HF : Hid (placeRead l = lookEnd j n Y (N, lk)) := by
                    show placeRead l = lookEnd j n Y (N, lk)
                    rw [placeRead_look Hop1.out Hn.out Hjl.out]
                    exact ways_end ST.out hkl _
                  obtain ⟨i0, i1, i2, i3⟩ := (blk4 Q2.out).1
                  go_upto_region 21 with fail
                  clear i0 i1 i2 i3
                  obtain ⟨W, rfl⟩ : ∃ W : World, W = wr := ⟨_, rfl⟩
                  obtain ⟨⟨i0, i1, i2, i3⟩, f0, f1, f2, f3⟩ := blk4 Q2.out
                  obtain ⟨⟨j0, j1, j2, j3⟩, g0, g1, g2, g3⟩ := blk4 Q1.out
                  rcases hs : skipRes [10] lk with _ | r
                  · have Hs := Lib.hid hs
                    clear hs
                    go_region_with (go_at_call 94; go_must (refine (skip_no b lk [10] ⟨#[10]⟩ rfl Hs.out _ (by exact ⟨HR.out.cell, HR.out.free⟩)).mono ?_; rintro e w5 ⟨rfl, hr5, hm0⟩; have hm5 : Moved b W w5 := ⟨⟨hm0.grown.os, hm0.grown.tape, hm0.grown.output, hm0.grown.size, hm0.grown.block⟩, hm0.cell, hm0.frozen⟩; have qk2 := Q2.out.grown hm5.grown (by simp; omega); have qk1 := Q1.out.grown hm5.grown (by simp; omega); obtain ⟨⟨x0, x1, x2, x3⟩, y0, y1, y2, y3⟩ := blk4 qk2; obtain ⟨⟨z0, z1, z2, z3⟩, t0, t1, t2, t3⟩ := blk4 qk1; have Qm := Lib.hid (HM.out.trans hm5); clear hr5 hm5 hm0 qk1 qk2))
                    all_goals go_wp2
                    all_goals
                      refine bodyPost_ret (v := .tuple #[(Ins.mk j n Y N).val, .bool false]) (by simp [results, Tryd.results72, go_sem, Ins.val, z0, z1, z2, z3]) rfl ?_
                      refine PlacePost.no rfl ?_ (by rw [HF.out]; unfold lookEnd; rw [Hs.out]; rfl)
                      repeat (first | exact Qm.out | refine Moved.far ?_ (by simp) hbl _)
                  · have Hs := Lib.hid hs
                    clear hs
                    go_region_with (go_at_call 94; go_must (refine (skip_yes b lk [10] r ⟨#[10]⟩ rfl Hs.out _ (by exact ⟨HR.out.cell, HR.out.free⟩)).mono ?_; rintro e w5 ⟨rfl, hr5, hm0⟩; have hm5 : Moved b W w5 := ⟨⟨hm0.grown.os, hm0.grown.tape, hm0.grown.output, hm0.grown.size, hm0.grown.block⟩, hm0.cell, hm0.frozen⟩; have qk2 := Q2.out.grown hm5.grown (by simp; omega); have qk1 := Q1.out.grown hm5.grown (by simp; omega); obtain ⟨⟨x0, x1, x2, x3⟩, y0, y1, y2, y3⟩ := blk4 qk2; obtain ⟨⟨z0, z1, z2, z3⟩, t0, t1, t2, t3⟩ := blk4 qk1; have Qm := Lib.hid (HM.out.trans hm5); have Qr := Lib.hid hr5; clear hr5 hm5 hm0 qk1 qk2))
                    all_goals go_wp2
                    all_goals
                      refine bodyPost_ret (v := .tuple #[(Ins.mk j n Y N).val, .bool true]) (by simp [results, Tryd.results72, go_sem, Ins.val, z0, z1, z2, z3]) rfl ?_
                      refine PlacePost.yes (r := r) rfl ?_ (by rw [HF.out]; unfold lookEnd; rw [Hs.out]; rfl) ?_
                      · repeat (first | exact Qm.out | refine Moved.far ?_ (by simp) hbl _)
                      · repeat (first | exact Qr.out | refine Rd.far ?_ (by simp; omega) _)
          · have b3 : ((j : Int) == 3) = false := beq_eq_false_iff_ne.2 (by omega)
            have b4 : ((j : Int) == 4) = false := beq_eq_false_iff_ne.2 (by omega)
            have b0 : ((j : Int) == 0) = false := beq_eq_false_iff_ne.2 (by omega)
            have Hjl := Lib.hid hjl
            clear hjl
            go_upto_region 21 with fail
            generalize hW : w2.setCell ⟨w.heap.size + 1, 1, none⟩ (.int .i64 n) = W at *
            have HW := Lib.hid hW
            clear hW
            obtain ⟨⟨i0, i1, i2, i3⟩, f0, f1, f2, f3⟩ := blk4 Hk2c.out
            obtain ⟨⟨j0, j1, j2, j3⟩, g0, g1, g2, g3⟩ := blk4 Hk1c.out
            rcases hs : skipRes [10] l2 with _ | r
            · have Hs := Lib.hid hs
              clear hs
              go_region_with (go_at_call 94; go_must (refine (skip_no b l2 [10] ⟨#[10]⟩ rfl Hs.out _ (by exact ⟨Hr4.out.cell, Hr4.out.free⟩)).mono ?_; rintro e w5 ⟨rfl, hr5, hm0⟩; have hm5 : Moved b W w5 := ⟨⟨hm0.grown.os, hm0.grown.tape, hm0.grown.output, hm0.grown.size, hm0.grown.block⟩, hm0.cell, hm0.frozen⟩; have qk2 := Hk2c.out.grown hm5.grown (by simp; omega); have qk1 := Hk1c.out.grown hm5.grown (by simp; omega); obtain ⟨⟨x0, x1, x2, x3⟩, y0, y1, y2, y3⟩ := blk4 qk2; obtain ⟨⟨z0, z1, z2, z3⟩, t0, t1, t2, t3⟩ := blk4 qk1; have Qm := Lib.hid (Hm4.out.trans hm5); clear hr5 hm5 hm0 qk1 qk2))
              all_goals go_wp2
              all_goals
                refine bodyPost_ret (v := .tuple #[(Ins.mk j n 0 0).val, .bool false]) (by simp [results, Tryd.results72, go_sem, Ins.val, z0, z1, z2, z3]) rfl ?_
                refine PlacePost.no rfl ?_ (by unfold placeRead; rw [Hop1.out]; simp only [Option.bind_some]; rw [Hn.out]; simp only [Option.bind_some]; rw [if_neg Hjl.out, Hs.out]; rfl)
                repeat (first | exact Qm.out | refine Moved.far ?_ (by simp) hbl _)
            · have Hs := Lib.hid hs
              clear hs
              go_region_with (go_at_call 94; go_must (refine (skip_yes b l2 [10] r ⟨#[10]⟩ rfl Hs.out _ (by exact ⟨Hr4.out.cell, Hr4.out.free⟩)).mono ?_; rintro e w5 ⟨rfl, hr5, hm0⟩; have hm5 : Moved b W w5 := ⟨⟨hm0.grown.os, hm0.grown.tape, hm0.grown.output, hm0.grown.size, hm0.grown.block⟩, hm0.cell, hm0.frozen⟩; have qk2 := Hk2c.out.grown hm5.grown (by simp; omega); have qk1 := Hk1c.out.grown hm5.grown (by simp; omega); obtain ⟨⟨x0, x1, x2, x3⟩, y0, y1, y2, y3⟩ := blk4 qk2; obtain ⟨⟨z0, z1, z2, z3⟩, t0, t1, t2, t3⟩ := blk4 qk1; have Qm := Lib.hid (Hm4.out.trans hm5); have Qr := Lib.hid hr5; clear hr5 hm5 hm0 qk1 qk2))
              all_goals go_wp2
              all_goals
                refine bodyPost_ret (v := .tuple #[(Ins.mk j n 0 0).val, .bool true]) (by simp [results, Tryd.results72, go_sem, Ins.val, z0, z1, z2, z3]) rfl ?_
                refine PlacePost.yes (r := r) rfl ?_ (by unfold placeRead; rw [Hop1.out]; simp only [Option.bind_some]; rw [Hn.out]; simp only [Option.bind_some]; rw [if_neg Hjl.out, Hs.out]; rfl) ?_
                · repeat (first | exact Qm.out | refine Moved.far ?_ (by simp) hbl _)
                · repeat (first | exact Qr.out | refine Rd.far ?_ (by simp; omega) _)
    · have hj7 : j = 7 := by omega
      subst hj7
      have Hno : Hid (placeRead l = none) := by show placeRead l = none; unfold placeRead; rw [Hop.out]; rfl
      obtain ⟨⟨i0, i1, i2, i3⟩, f0, f1, f2, f3⟩ := blk4 Hk2.out
      rcases hn : numRes 4294967295 l with _ | ⟨n, l2⟩
      · go_wp2_with fail
        refine (number_no b 4294967295 l hn _ Hrd.out (Nat.le_refl _) hl).mono ?_
        rintro e w5 ⟨n, rfl, hm5⟩
        have HM5 := Lib.hid (Hmv.out.trans hm5)
        obtain ⟨⟨z0, z1, z2, z3⟩, t0, t1, t2, t3⟩ := blk4 (Hk1.out.grown hm5.grown (by simp; omega))
        obtain ⟨⟨x0, x1, x2, x3⟩, y0, y1, y2, y3⟩ := blk4 (Hk2.out.grown hm5.grown (by simp; omega))
        clear hm5 hn
        go_wp2
        refine bodyPost_ret (v := .tuple #[(Ins.mk 0 0 0 0).val, .bool false]) (by simp [results, Tryd.results72, go_sem, Ins.val, z0, z1, z2, z3]) rfl ?_
        refine PlacePost.no rfl ?_ Hno.out
        repeat (first | exact HM5.out | refine Moved.far ?_ (by simp) hbl _)
      · go_wp2_with fail
        refine (number_yes b 4294967295 l l2 n hn _ Hrd.out (Nat.le_refl _) hl).mono ?_
        rintro e w5 ⟨rfl, _, hm5⟩
        have HM5 := Lib.hid (Hmv.out.trans hm5)
        obtain ⟨⟨z0, z1, z2, z3⟩, t0, t1, t2, t3⟩ := blk4 (Hk1.out.grown hm5.grown (by simp; omega))
        obtain ⟨⟨x0, x1, x2, x3⟩, y0, y1, y2, y3⟩ := blk4 (Hk2.out.grown hm5.grown (by simp; omega))
        clear hm5 hn
        go_wp2
        refine bodyPost_ret (v := .tuple #[(Ins.mk 0 0 0 0).val, .bool false]) (by simp [results, Tryd.results72, go_sem, Ins.val, z0, z1, z2, z3]) rfl ?_
        refine PlacePost.no rfl ?_ Hno.out
        repeat (first | exact HM5.out | refine Moved.far ?_ (by simp) hbl _)
end Go.Proofs.YtgogkpojeomabaaDoor
