/- For every input laws.FnExactPackAsk returns true, and its arguments read as they did: no condition but the card's own (the listed tables, tied to the program's text). -/
import Derived.Test.YtgogkpojeomabaaDoorRowKit
import Derived.Test.YtgogkpojeomabaaDoorLaw1
import Derived.Test.YtgogkpojeomabaaDoorPlain
set_option linter.unusedVariables false
set_option linter.unusedSimpArgs false
namespace Go.Proofs.YtgogkpojeomabaaDoor
open Go.ChangeShapes Go.WideShapes Go.ChangeAt Go.WideMaps Go.WideElems Go.RowKit

set_option maxRecDepth 100000 in
theorem fnExactPackAsk_lifted (os : Os) (started : os.Started) (H : Type) (enc : TypeId × Value → H) :
    ReturnsInHanded {} Tryd.checked os 3 .any (fun w args => (Rows.fnExactPackAskSpec.pre enc Tryd.prog Tryd.f3 [] false w args ∧ laidMetH Tryd.prog laidL w) ∧ sizedMet enc Tryd.prog Tryd.f3 (OpenSpec.ofChange Rows.fnExactPackAskSpec) false w args)
      (Rows.fnExactPackAskSpec.post enc Tryd.prog Tryd.f3 false true false false) := by
  refine returnsInHanded_of_change_and (C := Tryd.checked) (X := fun w _ => laidMetH Tryd.prog laidL w) (fun _ _ _ hh h => h.of_heap hh) ownKnobs started (by kernel_rfl) Tryd.func3
    (ChangeSpec.witness_shaped (enc := enc) (C := Tryd.checked) (os := os) (X := fun w _ => laidMetH Tryd.prog laidL w) false (World.doorLaid Tryd.prog 24 os) #[.agg #[.int .i64 0, .string ⟨#[]⟩, .string ⟨#[]⟩], .agg #[.int .i64 0, .slice none 0 0]] 8 rfl (World.shaped_of_RefB (by kernel_rfl) (by kernel_rfl)) (by kernel_rfl) (by kernel_rfl) (by kernel_rfl) (door_met os _)) ?_
  intro W base args ds gs before hval0 hW _ _ hL _
  have hval : ∀ (j : Nat) t v, Tryd.f3.params[j]? = some t → args[j]? = some v → Value.okWide Tryd.prog W .any base t v := hval0
  have hW' := hW
  obtain ⟨p, q, hA0, hV, rfl, hfz, hnd⟩ := hW
  have hA : DataW.TrodAll enc Tryd.prog W 0 (fun _ => true) true Tryd.f3.params.toList args.toList ds p := hA0
  rw [Tryd.params3] at hA hval
  obtain ⟨v0, v1, d0, d1, p0, p1, rfl, rfl, rfl, h0, h1⟩ := trodAll_two hA
  obtain ⟨rfl, rfl⟩ := trodVars_none hV
  have h0k := h0
  have h1k := h1
  obtain ⟨c0, c1, c2, y0, y1, y2, n, rfl, _, _, f0, f1, f2⟩ := Joins.open_agg3 Tryd.underlying23 (by kernel_rfl) (by kernel_rfl) (hval 0 23 v0 rfl rfl) h0
  obtain ⟨e0, e1, z0, z1, m, rfl, _, _, g0, g1⟩ := Joins.open_agg2 Tryd.underlying26 (by kernel_rfl) (by kernel_rfl) (hval 1 26 v1 rfl rfl) h1
  obtain ⟨ep, hc0, _, _⟩ := DataW.trod_int Tryd.underlying3 f0
  obtain ⟨ru, hc1, _, hs1⟩ := DataW.trod_string Tryd.underlying9 f1
  obtain ⟨co, hc2, _, hs2⟩ := DataW.trod_string Tryd.underlying9 f2
  obtain ⟨nu, hg0, _, _⟩ := DataW.trod_int Tryd.underlying3 g0
  obtain ⟨zs, hzs⟩ := trod_ints g1
  injection hc0 with hc0; subst hc0
  injection hc1 with hc1; subst hc1
  injection hc2 with hc2; subst hc2
  injection hg0 with hg0; subst hg0
  have hzl : zs.length ≤ 9223372036854775807 := by obtain ⟨_, _, _, h1, h2, _⟩ := hzs; omega
  have hlt : ∀ x ∈ p0 ++ p1, x.block < W.heap.size := fun x hx => hW'.lt x (by simpa using hx)
  clear hA0 hval0 hA
  simp only [List.append_nil] at hW'
  unfold maxLen at hs1 hs2
  have er : ru = ⟨ru.data.toList.toArray⟩ := by cases ru; simp
  have ec : co = ⟨co.data.toList.toArray⟩ := by cases co; simp
  have key := exactPackAsk_c ep ru.data.toList co.data.toList ⟨nu, zs⟩ (.agg #[.int .i64 nu, e1]) W ⟨e1, rfl, hzs⟩ (tab_of_laid hL) (by rw [show ru.data.toList.length = ru.size from rfl]; omega) (by rw [show co.data.toList.length = co.size from rfl]; omega) hzl (fun _ => ask_same _ _)
  unfold str at key
  rw [← er, ← ec] at key
  refine key.mono fun e W' ⟨he, hw⟩ => ?_
  subst he
  refine ⟨_, rfl, post_below (pa := p0 ++ p1) (pv := []) hW' (fun _ _ _ => trodAll_mk1 (shut_bool Tryd.underlying4 _)) (fun sp hsp => trodAll_mk2 (Trod_stays laidOuts (by kernel_rfl) (of_decide_eq_true (by kernel_rfl)) h0k (fun x hx => hw.same (hlt x (by simp [hx]))) (fun x hx => hsp x (by simp [hx]))) (Trod_stays laidOuts (by kernel_rfl) (of_decide_eq_true (by kernel_rfl)) h1k (fun x hx => hw.same (hlt x (by simp [hx]))) (fun x hx => hsp x (by simp [hx])))) (fun _ _ => rfl) (by simp) hw (ok_one (by kernel_rfl) rfl (okWide_bool_mk Tryd.underlying4 _))⟩

theorem fnExactPackAsk_holds : Rows.FnExactPackAskSaid :=
  OpenClaim.holds_of_wide 3 Tryd.f3 rfl rfl rfl rfl rfl rfl rfl ⟨rfl, rfl, rfl, rfl, rfl⟩ rfl rfl rfl rfl rfl (by kernel_rfl) Tryd.func3 (by kernel_rfl)
    (of_decide_eq_true (by kernel_rfl)) (by unfold Func.isWrapper; first | (rw [if_pos (by decide +kernel)]; kernel_rfl) | (rw [if_neg (by decide +kernel)]; exact ⟨rfl, rfl⟩))
    (fun os started H enc _ => fnExactPackAsk_lifted os started H enc)

theorem fnExactPackAsk_card : Rows.FnExactPackAskCardSaid :=
  Claim7.holds_tied_plain_at .later [] [.data, .data, .data] true (true, "0354beffea6d54e98f0803a1dabbd090c6db768027d8f40fa717a6a456b42063") false
    fnExactPackAsk_holds (fun _ h => by cases h) (by kernel_rfl) (fun _ h => by cases h) fnExactPackAsk_row_tie rfl ⟨rfl, rfl⟩ (by kernel_rfl) rfl
    (fun f fn hf hfn => by
      obtain rfl : f = 3 := Option.some.inj ((show Tryd.prog.funcNamed "loop.example/gatelodge/laws.FnExactPackAsk" = some 3 by kernel_rfl).symm.trans hf) |>.symm
      obtain rfl : fn = Tryd.f3 := (Option.some.inj (Tryd.func3.symm.trans hfn)).symm
      exact ⟨by kernel_rfl, fun j t ht => by
        rw [Tryd.params3] at ht
        have hm : t ∈ [23, 26] := by simpa using Array.mem_of_getElem? ht
        have hall : ([23, 26].all fun u => !Tryd.prog.wantsStandIn u) = true := by kernel_rfl
        exact (show Tryd.prog.wantsStandIn t = false by simpa using List.all_eq_true.1 hall t hm)⟩)
    (by kernel_rfl)
#print axioms fnExactPackAsk_card
end Go.Proofs.YtgogkpojeomabaaDoor
