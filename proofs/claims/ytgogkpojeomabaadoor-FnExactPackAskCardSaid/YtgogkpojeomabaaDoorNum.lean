/- The reference's l2Num. -/
import Derived.Test.YtgogkpojeomabaaDoorWc
set_option linter.unusedVariables false
set_option linter.unusedSimpArgs false
namespace Go.Proofs.YtgogkpojeomabaaDoor
open Go.RowKit

def digits : List UInt8 → Nat → Option Nat
  | [], v => some v
  | x :: xs, v => if 48 ≤ x.toNat ∧ x.toNat ≤ 57 then digits xs (v * 10 + (x.toNat - 48)) else none
def numFin : Option Nat → Int
  | none => -1
  | some v => if 4294967295 < v then -1 else v
/-- The number that a text is; -1 of any other text. -/
def numS (l : List UInt8) : Int :=
  if (1 ≤ l.length ∧ l.length ≤ 10) ∧ ¬ (1 < l.length ∧ l.head? = some 48) then
    numFin (digits l 0)
  else -1
theorem digits_step {L : List UInt8} {k v : Nat} (hk : k < L.length) : digits (L.drop k) v = if 48 ≤ L[k].toNat ∧ L[k].toNat ≤ 57 then digits (L.drop (k + 1)) (v * 10 + (L[k].toNat - 48)) else none := by
  rw [List.drop_eq_getElem_cons hk, digits]
theorem digits_end {L : List UInt8} {k v : Nat} (hk : L.length ≤ k) : digits (L.drop k) v = some v := by
  rw [List.drop_eq_nil_of_le hk, digits]

set_option maxHeartbeats 2000000 in
set_option maxRecDepth 100000 in
theorem l2Num_c (t : ByteArray) (w : World) : Calls Tryd.prog 93 #[.string t] w fun e w' => e = .returned (.int .i64 (numS t.data.toList)) ∧ w = w' := by
  have hd : t.data.toList.length = t.size := by simp
  by_cases h1 : 1 ≤ t.size ∧ t.size ≤ 10
  · have hb1 : inB t.size 1 10 = true := by simp [inB]; omega
    by_cases h2 : 1 < t.size ∧ t.data.toList.head? = some 48
    · have Hf : Hid (numS t.data.toList = -1) := by show numS _ = -1; unfold numS; rw [if_neg]; rw [hd]; intro h; exact h.2 h2
      have h0 : t[0]'(by omega) = 48 := by
        have := h2.2
        rw [List.head?_eq_getElem?, List.getElem?_eq_getElem (by omega)] at this
        injection this
      have hb2 : (((t[0]'(by omega)).toNat : Int) == 48) = true := by rw [h0]; rfl
      obtain ⟨h3, h4⟩ := h1
      obtain ⟨h5, _⟩ := h2
      clear hd h0
      go_enter Tryd.func93, Tryd.ntmps93
      go_wp2_with (go_at_call 47; refine (l1In_c _ _ _ _).mono ?_; rintro e w' ⟨rfl, rfl⟩)
      go_ret
      exact ⟨by rw [Hf.out]; rfl, rfl⟩
    · have Hf : Hid (numS t.data.toList = numFin (digits t.data.toList 0)) := by
        show numS _ = _; unfold numS; rw [hd, if_pos ⟨h1, h2⟩]
      obtain ⟨h3, h4⟩ := h1
      have hb2 : 1 < t.size → (((t[0]'(by omega)).toNat : Int) == 48) = false := by
        intro h5
        rw [beq_eq_false_iff_ne]
        intro h6
        apply h2
        refine ⟨h5, ?_⟩
        rw [List.head?_eq_getElem?, List.getElem?_eq_getElem (by omega)]
        congr 1
        exact UInt8.toNat_inj.1 (by show (t[0]'(by omega)).toNat = 48; omega)
      clear h2
      have key : Calls Tryd.prog 93 #[.string t] w fun e w' => e = .returned (.int .i64 (numFin (digits t.data.toList 0))) ∧ w = w' := by
        clear Hf
        by_cases h5 : 1 < t.size
        all_goals
          first
            | (have hb3 := hb2 h5; clear hb2)
            | clear hb2
          clear hd
          go_enter Tryd.func93, Tryd.ntmps93
          go_wp2_with (go_at_call 47; refine (l1In_c _ _ _ _).mono ?_; rintro e w' ⟨rfl, rfl⟩)
          go_loop [3, 4] (fun val i => ∃ k v : Nat, k ≤ t.size ∧ v < 10 ^ k ∧ i = .int .i64 k ∧ val = .int .i64 v ∧ digits t.data.toList 0 = digits (t.data.toList.drop k) v) (fun _ i => t.size - (intOf i).toNat)
          case atStart => exact ⟨0, 0, Nat.zero_le _, by simp, rfl, rfl, rfl⟩
          case round =>
            obtain ⟨k, v, hk, hv, rfl, rfl, hn⟩ := hrel
            have Hn := Lib.hid hn
            clear hn
            have hp : 10 ^ k ≤ 10 ^ 10 := Nat.pow_le_pow_right (by omega) (by omega)
            have hv2 : v < 10000000000 := by omega
            have Hv := Lib.hid hv
            clear hv hp
            by_cases hlt : k < t.size
            · have hx : t[k].toNat < 256 := t[k].toNat_lt
              have Hs := Lib.hid (digits_step (L := t.data.toList) (k := k) (v := v) (by simpa using hlt))
              go_wp2
              · go_ret
                refine ⟨?_, rfl⟩
                have hz : digits t.data.toList 0 = none := by
                  rw [Hn.out, Hs.out]
                  refine if_neg ?_
                  show ¬ (48 ≤ t[k].toNat ∧ t[k].toNat ≤ 57)
                  omega
                rw [hz]; rfl
              · go_round
                case rel =>
                  have hdg : 48 ≤ t[k].toNat ∧ t[k].toNat ≤ 57 := by omega
                  refine ⟨k + 1, v * 10 + (t[k].toNat - 48), by omega, ?_, by go_num, ?_, ?_⟩
                  · rw [Nat.pow_succ]; have := Hv.out; omega
                  · congr 1; omega
                  · rw [Hn.out, Hs.out]; exact if_pos hdg
                case measure => simp [intOf]; omega
              · go_ret
                refine ⟨?_, rfl⟩
                have hz : digits t.data.toList 0 = none := by
                  rw [Hn.out, Hs.out]
                  refine if_neg ?_
                  show ¬ (48 ≤ t[k].toNat ∧ t[k].toNat ≤ 57)
                  omega
                rw [hz]; rfl
            · have Hs := Lib.hid (digits_end (L := t.data.toList) (k := k) (v := v) (by simp; omega))
              have hz : Hid (digits t.data.toList 0 = some v) := by show digits t.data.toList 0 = some v; rw [Hn.out, Hs.out]
              go_wp2
              · go_ret
                refine ⟨?_, rfl⟩
                rw [hz.out]; unfold numFin; simp only; rw [if_pos (by omega)]; rfl
              · go_ret
                refine ⟨?_, rfl⟩
                rw [hz.out]; unfold numFin; simp only; rw [if_neg (by omega)]; rfl
      exact key.mono fun e w' ⟨he, hw⟩ => ⟨by rw [he, Hf.out], hw⟩
  · have hb1 : inB t.size 1 10 = false := by simp [inB]; omega
    have Hf : Hid (numS t.data.toList = -1) := by show numS _ = -1; unfold numS; rw [if_neg]; rw [hd]; intro h; exact h1 h.1
    clear hd h1
    go_enter Tryd.func93, Tryd.ntmps93
    go_wp2_with (go_at_call 47; refine (l1In_c _ _ _ _).mono ?_; rintro e w' ⟨rfl, rfl⟩)
    go_ret
    exact ⟨by rw [Hf.out]; rfl, rfl⟩
end Go.Proofs.YtgogkpojeomabaaDoor
