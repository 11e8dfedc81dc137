/- The reader of texts: done, skip, number. -/
import Derived.Test.YtgogkpojeomabaaDoorWc
import Derived.Test.YtgogkpojeomabaaDoorShelf
set_option linter.unusedVariables false
set_option linter.unusedSimpArgs false
namespace Go.Proofs.YtgogkpojeomabaaDoor
open Go.RowKit

/-- A reader at ⟨b, 0⟩ that has t before it. -/
structure Rd (b : Nat) (t : ByteArray) (w : World) : Prop where
  cell : w.cell? ⟨b, 0, none⟩ = some (.string t)
  free : w.frozen? ⟨b, 0, none⟩ = false
theorem Rd.below {b : Nat} {t : ByteArray} {w w' : World} (h : Rd b t w) (hb : Below w.heap.size w w') : Rd b t w' :=
  ⟨(hb.cell (World.block_lt_of_cell? w _ h.cell)).trans h.cell, (hb.frozen (p := ⟨b, 0, none⟩) (World.block_lt_of_cell? w _ h.cell)).trans h.free⟩

/-- Only block b has been written, and of its cells the first. -/
structure Moved (b : Nat) (w w' : World) : Prop where
  grown : w.grownBy w' (some b)
  cell : ∀ o, o ≠ 0 → w'.cell? ⟨b, o, none⟩ = w.cell? ⟨b, o, none⟩
  frozen : ∀ o, w'.frozen? ⟨b, o, none⟩ = w.frozen? ⟨b, o, none⟩
theorem grown_refl (w : World) (row : Option Nat) : w.grownBy w row := ⟨rfl, rfl, rfl, Nat.le_refl _, fun _ _ _ => rfl⟩
theorem grown_trans {a b c : World} {row : Option Nat} (h : a.grownBy b row) (k : b.grownBy c row) : a.grownBy c row :=
  ⟨k.os.trans h.os, k.tape.trans h.tape, k.output.trans h.output, Nat.le_trans h.size k.size, fun i hi hn => (k.block i (Nat.lt_of_lt_of_le hi h.size) hn).trans (h.block i hi hn)⟩
theorem grown_below {w w' : World} (h : Below w.heap.size w w') (row : Option Nat) : w.grownBy w' row := ⟨h.os, h.tape, h.output, h.size, fun i hi _ => h.block i hi⟩
theorem Moved.refl (b : Nat) (w : World) : Moved b w w := ⟨grown_refl _ _, fun _ _ => rfl, fun _ => rfl⟩
theorem Moved.trans {b : Nat} {w w1 w2 : World} (h : Moved b w w1) (k : Moved b w1 w2) : Moved b w w2 :=
  ⟨grown_trans h.grown k.grown, fun o ho => (k.cell o ho).trans (h.cell o ho), fun o => (k.frozen o).trans (h.frozen o)⟩
theorem Moved.below {b : Nat} {w w' : World} (h : Below w.heap.size w w') (hb : b < w.heap.size) : Moved b w w' :=
  ⟨grown_below h _, fun o _ => h.cell (p := ⟨b, o, none⟩) hb, fun o => h.frozen (p := ⟨b, o, none⟩) hb⟩
theorem Moved.set (b : Nat) (w : World) (v : Value) : Moved b w (w.setCell ⟨b, 0, none⟩ v) :=
  ⟨⟨rfl, rfl, rfl, by simp [World.setCell], fun k hk hn => Below.heap_setCell _ _ _ _ (fun e => hn (by rw [e]))⟩,
   fun o ho => World.cell?_setCell_other _ _ _ _ (by intro e; injection e with _ e; exact ho e.symm), fun o => by simp⟩

def numGo (most : Nat) : List UInt8 → Nat → Nat → Option (Nat × Nat)
  | [], v, s => some (v, s)
  | x :: xs, v, s => if 48 ≤ x.toNat ∧ x.toNat ≤ 57 then
      (if (0 < s ∧ v = 0) ∨ most < x.toNat - 48 ∨ (most - (x.toNat - 48)) / 10 < v then none else numGo most xs (v * 10 + (x.toNat - 48)) (s + 1))
    else some (v, s)

theorem done_c (b : Nat) (t : ByteArray) (w : World) (h : Rd b t w) : Calls Tryd.prog 71 #[.pointer (some ⟨b, 0, none⟩)] w fun e w' => e = .returned (.bool t.toList.isEmpty) ∧ w = w' := by
  have hc := h.cell
  go_enter Tryd.func71, Tryd.ntmps71
  go_wp2
  go_ret
  exact ⟨rfl, rfl⟩

theorem skip_c (b : Nat) (t p : ByteArray) (w : World) (h : Rd b t w) : Calls Tryd.prog 94 #[.pointer (some ⟨b, 0, none⟩), .string p] w fun e w' => e = .returned (.bool (Lib.hasPrefix t.data.toList p.data.toList)) ∧ Rd b ⟨(Lib.trimPrefix t.data.toList p.data.toList).toArray⟩ w' ∧ Moved b w w' := by
  have hc := h.cell
  have hf := h.free
  go_enter Tryd.func94, Tryd.ntmps94
  go_wp2_with (go_at_call 107; refine (Tryd.strings_CutPrefix _ _ _).mono ?_; rintro e w' ⟨rfl, rfl⟩)
  go_ret
  refine ⟨rfl, ⟨?_, ?_⟩, Moved.set _ _ _⟩
  · exact World.cell?_setCell_same _ _ _ hc
  · rw [World.frozen?_setCell]; exact hf

theorem numGo_step {most : Nat} {L : List UInt8} {k v : Nat} (hk : k < L.length) : numGo most (L.drop k) v k =
    if 48 ≤ L[k].toNat ∧ L[k].toNat ≤ 57 then (if (0 < k ∧ v = 0) ∨ most < L[k].toNat - 48 ∨ (most - (L[k].toNat - 48)) / 10 < v then none else numGo most (L.drop (k + 1)) (v * 10 + (L[k].toNat - 48)) (k + 1)) else some (v, k) := by
  rw [List.drop_eq_getElem_cons hk, numGo]
theorem numGo_end {most : Nat} {L : List UInt8} {k v : Nat} (hk : L.length ≤ k) : numGo most (L.drop k) v k = some (v, k) := by
  rw [List.drop_eq_nil_of_le hk, numGo]

theorem fig_div {most x : Nat} : 48 ≤ x → x - 48 ≤ most → ((most : Int) - ((x : Int) - 48)).tdiv 10 = (((most - (x - 48)) / 10 : Nat) : Int) := by
  intro h h1
  rw [show ((most : Int) - ((x : Int) - 48)) = ((most - (x - 48) : Nat) : Int) by omega]
  rfl
/-- What number hands back: the number and whether there is one; what is left. -/
def NumPost (b : Nat) (t : ByteArray) (most : Nat) (w : World) (e : Ending) (w' : World) : Prop :=
  match numGo most t.data.toList 0 0 with
  | none => e = .returned (.tuple #[.int .i64 0, .bool false]) ∧ Rd b t w' ∧ Moved b w w'
  | some (v, n) => e = .returned (.tuple #[.int .i64 v, .bool (decide (0 < n))]) ∧ Rd b (t.extract n t.size) w' ∧ Moved b w w'
theorem NumPost.none {b : Nat} {t : ByteArray} {most : Nat} {w : World} {e : Ending} {w' : World} (h : numGo most t.data.toList 0 0 = .none) (h1 : e = .returned (.tuple #[.int .i64 0, .bool false])) (h2 : Rd b t w') (h3 : Moved b w w') : NumPost b t most w e w' := by
  unfold NumPost; rw [h]; exact ⟨h1, h2, h3⟩
theorem NumPost.some {b : Nat} {t : ByteArray} {most : Nat} {w : World} {e : Ending} {w' : World} {v n : Nat} (h : numGo most t.data.toList 0 0 = .some (v, n)) (h1 : e = .returned (.tuple #[.int .i64 v, .bool (decide (0 < n))])) (h2 : Rd b (t.extract n t.size) w') (h3 : Moved b w w') : NumPost b t most w e w' := by
  unfold NumPost; rw [h]; exact ⟨h1, h2, h3⟩

set_option maxHeartbeats 2000000 in
set_option maxRecDepth 100000 in
theorem number_c (b : Nat) (t : ByteArray) (most : Nat) (w : World) (h : Rd b t w) (hm : most ≤ 4294967295) (ht : t.size ≤ 4294967295) :
    Calls Tryd.prog 96 #[.pointer (some ⟨b, 0, none⟩), .int .i64 most] w (NumPost b t most w) := by
  have hc := h.cell
  have hf := h.free
  go_enter Tryd.func96, Tryd.ntmps96
  go_wp2
  go_loop [6, 7, 8] (fun val sz _ => ∃ k v : Nat, k ≤ t.size ∧ v ≤ most ∧ sz = .int .i64 k ∧ val = .int .i64 v ∧ numGo most t.data.toList 0 0 = numGo most (t.data.toList.drop k) v k) (fun _ sz _ => t.size - (intOf sz).toNat)
  case atStart => exact ⟨0, 0, Nat.zero_le _, Nat.zero_le _, rfl, rfl, rfl⟩
  case round =>
    obtain ⟨k, v, hk, hv, rfl, rfl, hn⟩ := hrel
    have Hn := Lib.hid hn
    clear hn
    by_cases hlt : k < t.size
    · have hx : t[k].toNat < 256 := t[k].toNat_lt
      have Hs := Lib.hid (numGo_step (most := most) (L := t.data.toList) (k := k) (v := v) (by simpa using hlt))
      have Hq := Lib.hid (fig_div (most := most) (x := t[k].toNat))
      go_wp2
      · have hcond : (0 < k ∧ v = 0) ∨ most < t[k].toNat - 48 ∨ (most - (t[k].toNat - 48)) / 10 < v := by
          have := Hq.out
          go_light
          (try simp only [beq_iff_eq, beq_eq_false_iff_ne, ne_eq] at *)
          omega
        have hd : numGo most t.data.toList 0 0 = .none := by rw [Hn.out, Hs.out, if_pos ⟨by have h := (by assumption : (48 : Int) ≤ (t[k].toNat : Int)); show 48 ≤ t[k].toNat; omega, by have h := (by assumption : (t[k].toNat : Int) ≤ 57); show t[k].toNat ≤ 57; omega⟩]; exact if_pos hcond
        go_ret2
        exact NumPost.none hd rfl ⟨hc, hf⟩ (Moved.refl _ _)
      · have hcond : (0 < k ∧ v = 0) ∨ most < t[k].toNat - 48 ∨ (most - (t[k].toNat - 48)) / 10 < v := by
          have := Hq.out
          go_light
          (try simp only [beq_iff_eq, beq_eq_false_iff_ne, ne_eq] at *)
          omega
        have hd : numGo most t.data.toList 0 0 = .none := by rw [Hn.out, Hs.out, if_pos ⟨by have h := (by assumption : (48 : Int) ≤ (t[k].toNat : Int)); show 48 ≤ t[k].toNat; omega, by have h := (by assumption : (t[k].toNat : Int) ≤ 57); show t[k].toNat ≤ 57; omega⟩]; exact if_pos hcond
        go_ret2
        exact NumPost.none hd rfl ⟨hc, hf⟩ (Moved.refl _ _)
      · go_round
        case rel =>
          have hcond : ¬ ((0 < k ∧ v = 0) ∨ most < t[k].toNat - 48 ∨ (most - (t[k].toNat - 48)) / 10 < v) := by
            have := Hq.out
            go_light
            (try simp only [beq_iff_eq, beq_eq_false_iff_ne, ne_eq] at *)
            omega
          refine ⟨k + 1, v * 10 + (t[k].toNat - 48), by omega, by omega, by go_num, ?_, ?_⟩
          · congr 1; omega
          · rw [Hn.out, Hs.out, if_pos ⟨by have h := (by assumption : (48 : Int) ≤ (t[k].toNat : Int)); show 48 ≤ t[k].toNat; omega, by have h := (by assumption : (t[k].toNat : Int) ≤ 57); show t[k].toNat ≤ 57; omega⟩]; exact if_neg hcond
        case measure => simp [intOf]; omega
      · have hcond : (0 < k ∧ v = 0) ∨ most < t[k].toNat - 48 ∨ (most - (t[k].toNat - 48)) / 10 < v := by
          have := Hq.out
          go_light
          (try simp only [beq_iff_eq, beq_eq_false_iff_ne, ne_eq] at *)
          omega
        have hd : numGo most t.data.toList 0 0 = .none := by rw [Hn.out, Hs.out, if_pos ⟨by have h := (by assumption : (48 : Int) ≤ (t[k].toNat : Int)); show 48 ≤ t[k].toNat; omega, by have h := (by assumption : (t[k].toNat : Int) ≤ 57); show t[k].toNat ≤ 57; omega⟩]; exact if_pos hcond
        go_ret2
        exact NumPost.none hd rfl ⟨hc, hf⟩ (Moved.refl _ _)
      · have hcond : (0 < k ∧ v = 0) ∨ most < t[k].toNat - 48 ∨ (most - (t[k].toNat - 48)) / 10 < v := by
          have := Hq.out
          go_light
          (try simp only [beq_iff_eq, beq_eq_false_iff_ne, ne_eq] at *)
          omega
        have hd : numGo most t.data.toList 0 0 = .none := by rw [Hn.out, Hs.out, if_pos ⟨by have h := (by assumption : (48 : Int) ≤ (t[k].toNat : Int)); show 48 ≤ t[k].toNat; omega, by have h := (by assumption : (t[k].toNat : Int) ≤ 57); show t[k].toNat ≤ 57; omega⟩]; exact if_pos hcond
        go_ret2
        exact NumPost.none hd rfl ⟨hc, hf⟩ (Moved.refl _ _)
      · go_round
        case rel =>
          have hcond : ¬ ((0 < k ∧ v = 0) ∨ most < t[k].toNat - 48 ∨ (most - (t[k].toNat - 48)) / 10 < v) := by
            have := Hq.out
            go_light
            (try simp only [beq_iff_eq, beq_eq_false_iff_ne, ne_eq] at *)
            omega
          refine ⟨k + 1, v * 10 + (t[k].toNat - 48), by omega, by omega, by go_num, ?_, ?_⟩
          · congr 1; omega
          · rw [Hn.out, Hs.out, if_pos ⟨by have h := (by assumption : (48 : Int) ≤ (t[k].toNat : Int)); show 48 ≤ t[k].toNat; omega, by have h := (by assumption : (t[k].toNat : Int) ≤ 57); show t[k].toNat ≤ 57; omega⟩]; exact if_neg hcond
        case measure => simp [intOf]; omega
      · have hcond : (0 < k ∧ v = 0) ∨ most < t[k].toNat - 48 ∨ (most - (t[k].toNat - 48)) / 10 < v := by
          have := Hq.out
          go_light
          (try simp only [beq_iff_eq, beq_eq_false_iff_ne, ne_eq] at *)
          omega
        have hd : numGo most t.data.toList 0 0 = .none := by rw [Hn.out, Hs.out, if_pos ⟨by have h := (by assumption : (48 : Int) ≤ (t[k].toNat : Int)); show 48 ≤ t[k].toNat; omega, by have h := (by assumption : (t[k].toNat : Int) ≤ 57); show t[k].toNat ≤ 57; omega⟩]; exact if_pos hcond
        go_ret2
        exact NumPost.none hd rfl ⟨hc, hf⟩ (Moved.refl _ _)
      · have hd : numGo most t.data.toList 0 0 = some (v, k) := by
          rw [Hn.out, Hs.out]
          refine if_neg ?_
          show ¬ (48 ≤ t[k].toNat ∧ t[k].toNat ≤ 57)
          omega
        go_ret2
        refine NumPost.some hd ?_ ⟨World.cell?_setCell_same _ _ _ hc, by simpa using hf⟩ (Moved.set _ _ _)
        simp
      · have hd : numGo most t.data.toList 0 0 = some (v, k) := by
          rw [Hn.out, Hs.out]
          refine if_neg ?_
          show ¬ (48 ≤ t[k].toNat ∧ t[k].toNat ≤ 57)
          omega
        go_ret2
        refine NumPost.some hd ?_ ⟨World.cell?_setCell_same _ _ _ hc, by simpa using hf⟩ (Moved.set _ _ _)
        simp
    · have Hs := Lib.hid (numGo_end (most := most) (L := t.data.toList) (k := k) (v := v) (by simp; omega))
      go_wp2
      go_ret2
      have hd : numGo most t.data.toList 0 0 = some (v, k) := by rw [Hn.out, Hs.out]
      refine NumPost.some hd ?_ ⟨World.cell?_setCell_same _ _ _ hc, by simpa using hf⟩ (Moved.set _ _ _)
      simp
end Go.Proofs.YtgogkpojeomabaaDoor
