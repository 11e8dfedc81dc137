/- CodeRead and PackAsk of the program. -/
import Derived.Test.YtgogkpojeomabaaDoorPlace
set_option linter.unusedVariables false
set_option linter.unusedSimpArgs false
namespace Go.Proofs.YtgogkpojeomabaaDoor
open Go.RowKit

theorem own_ins {w : World} {base : Nat} {v : Value} {xs : List Ins} (h : w.ownsRow base 61 4 v xs.length (insCells xs)) : InsAt w v xs := own_sl h
theorem ins_info : (Tryd.prog.info? 61).map (fun i => (i.zero, i.size, i.bytes)) = some (some (.agg #[.int .i64 0, .int .i64 0, .int .i64 0, .int .i64 0]), 4, 32) := by kernel_rfl
theorem insCells_snoc (xs : List Ins) (x : Ins) : insCells (xs ++ [x]) = insCells xs ++ x.cells := by unfold insCells; rw [List.flatMap_append]; simp

def readAll : Nat → List UInt8 → List Ins → Option (List Ins)
  | 0, l, acc => if l.isEmpty then some acc else none
  | n + 1, l, acc => if l.isEmpty then some acc else (placeRead l).bind fun p => if acc.length = 160 then none else readAll n p.2 (acc ++ [p.1])
def codeReadI (l : List UInt8) : Option (List Ins) := if 2600 < l.length then none else (readAll l.length l []).bind fun xs => if waysB xs = true then some xs else none

theorem trim_lt {l p : List UInt8} (h : Lib.hasPrefix l p = true) (hp : 0 < p.length) : (Lib.trimPrefix l p).length < l.length := by
  unfold Lib.trimPrefix
  rw [if_pos h]
  unfold Lib.hasPrefix at h
  have hpre := List.isPrefixOf_iff_prefix.1 h
  have := hpre.length_le
  simp
  omega
theorem opSkip_len {l r : List UInt8} {n op o : Nat} (h : opSkip l n op = some (o, r)) : r.length < l.length := by
  induction n generalizing op with
  | zero => cases h
  | succ n ih =>
    rw [opSkip] at h
    split at h
    · rename_i hp
      injection h with h; injection h with h1 h2
      subst h2
      exact trim_lt hp (by simp)
    · exact ih h
theorem wayRes_len {l r : List UInt8} {n : Nat} (h : wayRes l = some (n, r)) : r.length ≤ l.length := by
  unfold wayRes at h
  rcases hs : skipRes [32] l with _ | m
  · rw [hs] at h; cases h
  · rw [hs] at h
    exact Nat.le_trans (numRes_len h) (skipRes_len hs)
theorem placeRead_len {l r : List UInt8} {x : Ins} (h : placeRead l = some (x, r)) : r.length < l.length := by
  unfold placeRead at h
  rcases h1 : opSkip l 6 1 with _ | ⟨j, l1⟩
  · rw [h1] at h; cases h
  · rw [h1] at h; simp only [Option.bind_some] at h
    have a1 := opSkip_len h1
    rcases h2 : numRes 4294967295 l1 with _ | ⟨n, l2⟩
    · rw [h2] at h; cases h
    · rw [h2] at h; simp only [Option.bind_some] at h
      have a2 := numRes_len h2
      split at h
      · rcases h3 : wayRes l2 with _ | ⟨y, l3⟩
        · rw [h3] at h; cases h
        · rw [h3] at h; simp only [Option.bind_some] at h
          have a3 := wayRes_len h3
          rcases h4 : wayRes l3 with _ | ⟨m, l4⟩
          · rw [h4] at h; cases h
          · rw [h4] at h; simp only [Option.bind_some] at h
            have a4 := wayRes_len h4
            rcases h5 : skipRes [10] l4 with _ | r'
            · rw [h5] at h; cases h
            · rw [h5] at h; simp only [Option.bind_some] at h
              injection h with h; injection h with _ h
              subst h
              have := skipRes_len h5
              omega
      · rcases h5 : skipRes [10] l2 with _ | r'
        · rw [h5] at h; cases h
        · rw [h5] at h; simp only [Option.bind_some] at h
          injection h with h; injection h with _ h
          subst h
          have := skipRes_len h5
          omega
theorem readAll_step {n : Nat} {l : List UInt8} {acc : List Ins} (hl : l.isEmpty = false) (hn : l.length ≤ n) : readAll n l acc = (placeRead l).bind fun p => if acc.length = 160 then none else readAll (n - 1) p.2 (acc ++ [p.1]) := by
  cases n with
  | zero => cases l with
    | nil => simp at hl
    | cons a l => simp at hn
  | succ n => rw [readAll, hl]; rfl
theorem readAll_nil {n : Nat} {l : List UInt8} {acc : List Ins} (hl : l.isEmpty = true) : readAll n l acc = some acc := by
  cases n <;> (rw [readAll, hl]; rfl)

theorem readAll_fuel {n : Nat} {l : List UInt8} (hn : l.length ≤ n) (acc : List Ins) : readAll n l acc = readAll l.length l acc := by
  induction h : l.length using Nat.strongRecOn generalizing n l acc with
  | ind m ih =>
    by_cases he : l.isEmpty = true
    · rw [readAll_nil he, readAll_nil he]
    · have he' : l.isEmpty = false := by simpa using he
      subst h
      rw [readAll_step he' hn, readAll_step he' (Nat.le_refl _)]
      rcases hp : placeRead l with _ | ⟨x, r⟩
      · rfl
      · simp only [Option.bind_some]
        have hl := placeRead_len hp
        split
        · rfl
        · rw [ih r.length hl (by omega) _ rfl, ih r.length hl (n := l.length - 1) (by omega) _ rfl]
def CodeReadPost (l : List UInt8) (w : World) (e : Ending) (w' : World) : Prop :=
  Below w.heap.size w w' ∧ match codeReadI l with
    | none => e = .returned (.tuple #[.slice none 0 0, .bool false])
    | some xs => ∃ v, e = .returned (.tuple #[v, .bool true]) ∧ w'.ownsRow w.heap.size 61 4 v xs.length (insCells xs)
theorem CodeReadPost.no {l : List UInt8} {w : World} {e : Ending} {w' : World} (h : e = .returned (.tuple #[.slice none 0 0, .bool false])) (hb : Below w.heap.size w w') (hn : codeReadI l = none) : CodeReadPost l w e w' := by
  unfold CodeReadPost; rw [hn]; exact ⟨hb, h⟩
theorem CodeReadPost.yes {l : List UInt8} {w : World} {e : Ending} {w' : World} {xs : List Ins} {v : Value} (h : e = .returned (.tuple #[v, .bool true])) (hb : Below w.heap.size w w') (hn : codeReadI l = some xs) (ho : w'.ownsRow w.heap.size 61 4 v xs.length (insCells xs)) : CodeReadPost l w e w' := by
  unfold CodeReadPost; rw [hn]; exact ⟨hb, v, h, ho⟩

def ReadRel (l : List UInt8) (w : World) (v : Value) (wr : World) : Prop :=
  ∃ (lk : List UInt8) (xs : List Ins), wr.ownsRow w.heap.size 61 4 v xs.length (insCells xs) ∧ Rd w.heap.size ⟨lk.toArray⟩ wr ∧ Below w.heap.size w wr ∧ xs.length ≤ 160 ∧ lk.length ≤ l.length ∧ readAll l.length l [] = readAll lk.length lk xs ∧ (xs = [] → v = .slice none 0 0)

/-- How much the reader at block b has before it. -/
def RdLen (b : Nat) (w : World) : Nat := match w.cell? ⟨b, 0, none⟩ with | some (.string t) => t.size | _ => 0
theorem Rd.len {b : Nat} {t : ByteArray} {w : World} (h : Rd b t w) : RdLen b w = t.size := by unfold RdLen; rw [h.cell]
theorem own_ne_rd {w : World} {base b : Nat} {v : Value} {xs : List Ins} {t : ByteArray} (h : w.ownsRow base 61 4 v xs.length (insCells xs)) (hr : Rd b t w) (hb : xs = [] → v = .slice none 0 0) : v.ownBlock = none ∨ v.ownBlock ≠ some b := by
  by_cases hx : xs = []
  · rw [hb hx]; exact .inl rfl
  · obtain ⟨a, c, rfl, _, _, h3⟩ := own_row h
    have hne : insCells xs ≠ [] := by intro he; have := congrArg List.length he; rw [insCells_length] at this; exact hx (List.eq_nil_of_length_eq_zero (by simp at this; omega))
    obtain ⟨g, rfl, _, _, hrow⟩ := h3 hne
    refine .inr (fun e => ?_)
    simp [Value.ownBlock] at e
    subst e
    have h0 := hrow 0 (List.length_pos_iff.2 hne)
    rw [Nat.zero_add, hr.cell] at h0
    cases xs with
    | nil => exact hx rfl
    | cons x xs => simp [insCells, Ins.cells] at h0
end Go.Proofs.YtgogkpojeomabaaDoor
