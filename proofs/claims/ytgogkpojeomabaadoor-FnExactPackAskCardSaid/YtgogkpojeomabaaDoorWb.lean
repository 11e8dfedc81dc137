import Derived.Test.YtgogkpojeomabaaDoorBase
import Derived.Deep.RegionWith
import Derived.Deep.RegionHeld3
set_option linter.unusedVariables false
namespace Go.Proofs.YtgogkpojeomabaaDoor
open Go.RowKit

theorem conv_byte (V : Int) (W : World) (g : Nat) (h : W.cell? ⟨g, 0, none⟩ = some (.int .u8 V)) :
    (convert 36 9 (.slice (some ⟨g, 0, none⟩) 1 1)).run Tryd.prog W = .ok (.string ⟨#[UInt8.ofNat V.toNat]⟩) W := by
  have hl : (loadCells ⟨g, 0, none⟩ 1).run Tryd.prog W = .ok ([V].map (Value.int .u8)).toArray W := by
    have := run_loadCells_list (P := Tryd.prog) W ⟨g, 0, none⟩ ([V].map (Value.int .u8)) (fun j v hj => by
      have : j = 0 := by
        rcases Nat.eq_zero_or_pos j with h | h
        · exact h
        · rw [List.getElem?_eq_none (by simp; omega)] at hj; cases hj
      subst this
      simp at hj
      subst hj
      exact h)
    simpa using this
  rw [run_convert_bytes_string W _ _ _ _ 1 1 Tryd.underlying36 Tryd.underlying5 Tryd.underlying9, run_bytesToString W _ 1 1 [V] hl]
  rfl

theorem str_ret {a b : List UInt8} (h : a = b) : Ending.returned (.string ⟨a.toArray⟩) = .returned (.string ⟨b.toArray⟩) := by rw [h]
theorem dec_lt {n : Nat} (h : n < 10) : dec n = [UInt8.ofNat (48 + n)] := by unfold dec; rw [Lib.decDigits, dif_pos h]
theorem dec_ge {n : Nat} (h : ¬ n < 10) : dec n = dec (n / 10) ++ [UInt8.ofNat (48 + n % 10)] := by unfold dec; rw [Lib.decDigits, dif_neg h]

theorem dec_len (k : Nat) : ∀ n, 0 < k → n < 10 ^ k → (dec n).length ≤ k := by
  induction k with
  | zero => intro n h; omega
  | succ k ih =>
    intro n _ hn
    by_cases h : n < 10
    · rw [dec_lt h]; simp
    · rw [dec_ge h]
      have : 0 < k := by
        rcases Nat.eq_zero_or_pos k with h0 | h0
        · subst h0; simp at hn; omega
        · exact h0
      have := ih (n / 10) this (by rw [Nat.pow_succ] at hn; omega)
      simp; omega
theorem dec_len19 {n : Nat} (h : n ≤ 9223372036854775807) : (dec n).length ≤ 19 := dec_len 19 n (by omega) (by omega)

set_option maxRecDepth 100000 in
set_option maxHeartbeats 1000000 in
theorem l1Dec_c (n : Nat) : ∀ (a : Int) (w : World), 0 ≤ a → a ≤ 9223372036854775807 → a.toNat = n → Calls Tryd.prog 90 #[.int .i64 a] w fun e w' => e = .returned (.string ⟨(dec a.toNat).toArray⟩) ∧ Below w.heap.size w w' := by
  induction n using Nat.strongRecOn with
  | ind n ih =>
    intro a w h0 hn he
    have h1 : ¬ a < -9223372036854775807 := by omega
    have h2 : ¬ a < 0 := by omega
    have hcv := conv_byte
    by_cases h3 : a < 10
    · have HB := Lib.hid (Below.refl w.heap.size w)
      have H := Lib.hid he
      have hu : IntKind.u8.wrap (48 + a) = 48 + a := by unfold IntKind.wrap; simp [IntKind.bits, IntKind.signed]; omega
      have HR := Lib.hid (dec_lt (n := a.toNat) (by omega))
      have HE := Lib.hid (show (48 + a).toNat = 48 + a.toNat by omega)
      clear he ih
      go_enter Tryd.func90, Tryd.ntmps90
      go_wp2
      go_ret
      refine ⟨?_, HB.out.alloc (Nat.le_refl _) _⟩
      rw [HR.out, HE.out]
      rfl
    · have ih' := ih (a.toNat / 10) (by omega)
      have Ih := Lib.hid ih'
      clear ih' ih
      have H := Lib.hid he
      have hq : IntKind.i64.wrap (a.tdiv 10) = a / 10 := by rw [Int.tdiv_eq_ediv_of_nonneg h0]; unfold IntKind.wrap; simp [IntKind.bits, IntKind.signed]; omega
      have hr : a.tmod 10 = a % 10 := by rw [Int.tmod_eq_emod_of_nonneg h0]
      have hs : IntKind.i64.wrap (48 + a % 10) = 48 + a % 10 := by unfold IntKind.wrap; simp [IntKind.bits, IntKind.signed]; omega
      have hu : IntKind.u8.wrap (48 + a % 10) = 48 + a % 10 := by unfold IntKind.wrap; simp [IntKind.bits, IntKind.signed]; omega
      have HB := Lib.hid (Below.refl w.heap.size w)
      have HR := Lib.hid (dec_ge (n := a.toNat) (by omega))
      have HE := Lib.hid (show (48 + a % 10).toNat = 48 + a.toNat % 10 by omega)
      have HQ := Lib.hid (show (a / 10).toNat = a.toNat / 10 by omega)
      have hln : (dec (a / 10).toNat).length ≤ 19 := dec_len19 (by omega)
      clear he
      go_enter Tryd.func90, Tryd.ntmps90
      go_wp2
      go_region_with (go_at_call 90; refine (Ih.out _ _ (by omega) (by omega) (by omega)).mono ?_; rintro e w' ⟨rfl, hb⟩; have hcc := (bcell hb).1)
      all_goals go_wp2
      all_goals go_ret
      all_goals refine ⟨?_, ?_⟩
      all_goals first
        | (refine (show Ending.returned (.string (⟨(dec (a / 10).toNat).toArray⟩ ++ ⟨[UInt8.ofNat (48 + a % 10).toNat].toArray⟩)) = _ from ?_)
           rw [HR.out, HE.out, HQ.out, mk_append])
        | (repeat (first | exact Below.refl _ _ | apply bw_alloc | apply bw_drew | refine bw_step ?_ (by assumption)))
end Go.Proofs.YtgogkpojeomabaaDoor
