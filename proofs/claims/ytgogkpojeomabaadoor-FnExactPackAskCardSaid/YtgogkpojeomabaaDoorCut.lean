/- Texts cut at a byte: the reference's l2Cut, and what it is as lists. -/
import Derived.Test.YtgogkpojeomabaaDoorBase
set_option linter.unusedVariables false
namespace Go.Proofs.YtgogkpojeomabaaDoor
open Go.RowKit

/-- A text cut at each byte c. -/
def cut (c : UInt8) : List UInt8 → List (List UInt8)
  | [] => [[]]
  | x :: xs => if x = c then [] :: cut c xs else match cut c xs with
    | [] => [[x]]
    | h :: t => (x :: h) :: t
theorem cut_ne (c : UInt8) (l : List UInt8) : cut c l ≠ [] := by
  cases l with
  | nil => simp [cut]
  | cons x xs => simp only [cut]; split; simp; split <;> simp
theorem cut_plain {c : UInt8} {p : List UInt8} (h : ∀ x ∈ p, x ≠ c) : cut c p = [p] := by
  induction p with
  | nil => rfl
  | cons x xs ih =>
    rw [cut, if_neg (h x (by simp)), ih (fun y hy => h y (by simp [hy]))]
theorem cut_at {c : UInt8} {p r : List UInt8} (h : ∀ x ∈ p, x ≠ c) : cut c (p ++ c :: r) = p :: cut c r := by
  induction p with
  | nil => simp [cut]
  | cons x xs ih =>
    rw [List.cons_append, cut, if_neg (h x (by simp)), ih (fun y hy => h y (by simp [hy]))]
theorem cut_length_le (c : UInt8) (l : List UInt8) : (cut c l).length ≤ l.length + 1 := by
  induction l with
  | nil => simp [cut]
  | cons x xs ih =>
    simp only [cut]
    split
    · simp; omega
    · split
      · simp
      · rename_i h; rw [h] at ih; simp at ih ⊢; omega

def str (l : List UInt8) : Value := .string ⟨l.toArray⟩
def strs (ls : List (List UInt8)) : List Value := ls.map str
@[simp] theorem strs_length (ls : List (List UInt8)) : (strs ls).length = ls.length := by simp [strs]
theorem strs_snoc (ls : List (List UInt8)) (l : List UInt8) : strs (ls ++ [l]) = strs ls ++ [str l] := by simp [strs]

/-- Returned: a list of texts in new memory. -/
def RetStrs (w : World) (ls : List (List UInt8)) (e : Ending) (w' : World) : Prop :=
  ∃ v, e = .returned v ∧ w'.ownsRow w.heap.size 9 1 v ls.length (strs ls) ∧ Below w.heap.size w w'

theorem str_info : (Tryd.prog.info? 9).map (fun i => (i.zero, i.size, i.bytes)) = some (some (.string ⟨#[]⟩), 1, 16) := by kernel_rfl

theorem extract_str (s : ByteArray) (a b : Nat) : s.extract a b = ⟨((s.data.toList.drop a).take (b - a)).toArray⟩ := by
  apply ByteArray.ext
  rw [ByteArray.data_extract]
  apply Array.ext'
  simp [List.take_drop, Array.toList_extract]

theorem cut_step {c : UInt8} {L : List UInt8} {f k : Nat} (hk : k < L.length) (hf : f ≤ k) (hne : ∀ j (h : j < L.length), f ≤ j → j < k → L[j] ≠ c) (he : L[k] = c) :
    cut c (L.drop f) = ((L.drop f).take (k - f)) :: cut c (L.drop (k + 1)) := by
  have h1 : L.drop f = (L.drop f).take (k - f) ++ c :: L.drop (k + 1) := by
    have h2 : (L.drop f).drop (k - f) = L.drop k := by rw [List.drop_drop]; congr 1; omega
    have h3 : L.drop k = c :: L.drop (k + 1) := by rw [List.drop_eq_getElem_cons hk, he]
    conv => lhs; rw [← List.take_append_drop (k - f) (L.drop f), h2, h3]
  conv => lhs; rw [h1]
  refine cut_at fun x hx => ?_
  obtain ⟨j, hj, rfl⟩ := List.mem_iff_getElem.1 hx
  rw [List.getElem_take, List.getElem_drop]
  have hl : j < ((L.drop f).take (k - f)).length := hj
  simp at hl
  exact hne _ _ (by omega) (by omega)
theorem cut_end {c : UInt8} {L : List UInt8} {f : Nat} (hne : ∀ j (h : j < L.length), f ≤ j → L[j] ≠ c) : cut c (L.drop f) = [L.drop f] := by
  refine cut_plain fun x hx => ?_
  obtain ⟨j, hj, rfl⟩ := List.mem_iff_getElem.1 hx
  rw [List.getElem_drop]
  simp at hj
  exact hne _ _ (by omega)

def CutRel (s : ByteArray) (c : UInt8) (w : World) (out fr i : Value) (wr : World) : Prop :=
  ∃ (f k : Nat) (done : List (List UInt8)), f ≤ k ∧ k ≤ s.size ∧ fr = .int .i64 f ∧ i = .int .i64 k ∧ wr.ownsRow w.heap.size 9 1 out done.length (strs done) ∧ Below w.heap.size w wr ∧ done.length ≤ k ∧
    cut c s.data.toList = done ++ cut c (s.data.toList.drop f) ∧ (∀ j (h : j < s.data.toList.length), f ≤ j → j < k → s.data.toList[j] ≠ c)

set_option maxHeartbeats 1000000 in
set_option maxRecDepth 100000 in
theorem l2Cut_c (s : ByteArray) (c : UInt8) (ci : Int) (hci : (c.toNat : Int) = ci) (w : World) (hs : s.size ≤ 2097152) :
    Calls Tryd.prog 69 #[.string s, .int .u8 ci] w (RetStrs w (cut c s.data.toList)) := by
  subst hci
  obtain ⟨i0, hi, hz0, hz1, hz2⟩ := info_parts str_info
  go_enter Tryd.func69, Tryd.ntmps69
  go_wp2
  go_loopw [5, 6, 7] (CutRel s c w) (fun _ _ i _ => s.size - (intOf i).toNat)
  case atStart =>
    refine ⟨0, 0, [], Nat.le_refl _, Nat.zero_le _, rfl, rfl, ?_, bw_alloc (Below.refl _ _) _, Nat.le_refl _, rfl, fun j _ h1 h2 => by omega⟩
    exact World.ownsRow_made w #[] 0 (Nat.le_refl _) (by decide) rfl
  case round =>
    obtain ⟨f, k, done, hfk, hk, rfl, rfl, hown, hbl, hdl, hcut, hne⟩ := hrel
    have Hcut := Lib.hid hcut
    have Hne := Lib.hid hne
    have Hown := Lib.hid hown
    have Hbl := Lib.hid hbl
    clear hcut hne hown hbl
    by_cases hlt : k < s.size
    · by_cases he : s[k] = c
      · have hb : ((s[k].toNat : Int) == (c.toNat : Int)) = true := by rw [he]; simp
        have He := Lib.hid he
        clear he
        go_wp2_with (at_builtin; refine wpList_append_own _ rfl _ _ 96 rfl w.heap.size 9 i0 (.string ⟨#[]⟩) 1 16 Tryd.underlying96 hi hz0 hz1 hz2 rfl (by decide) _ _ _ rfl (Hown.out.alloc _) ⟨_, 0, none⟩ 1 1 [.string (s.extract f k)] rfl rfl ?c1 ?c2 ?c3 ?c4 ?c5 ?_)
        case c1 => intro j u hj; match j, hj with | 0, hj => (simp at hj; subst hj; simp [Addr.add]) | j + 1, hj => simp at hj
        case c2 => intro u hu; simp at hu; subst hu; rfl
        case c3 => unfold maxLen; omega
        case c4 => omega
        case c5 => have := Hbl.out.size; simp; omega
        intro v' w1 hown1 hgrow1 _
        have Hown1 := Lib.hid hown1
        have Hgrow1 := Lib.hid hgrow1
        clear hown1 hgrow1
        go_wp2
        go_roundw
        case rel =>
          refine ⟨k + 1, k + 1, done ++ [(s.data.toList.drop f).take (k - f)], Nat.le_refl _, by omega, by go_num, by go_num, ?_, bw_grown (bw_alloc Hbl.out _) Hgrow1.out (own_ge Hown.out), by simp; omega, ?_, fun j _ h1 h2 => by omega⟩
          · rw [strs_snoc, List.length_append]
            have := Hown1.out
            rw [extract_str] at this
            exact this
          · rw [Hcut.out, List.append_assoc, cut_step (f := f) (k := k) (by simpa using hlt) hfk (fun j hj h1 h2 => Hne.out j hj h1 h2) (show s.data.toList[k]'(by simpa using hlt) = c from He.out)]
            rfl
        case measure => simp [intOf]; omega
      · have hb : ((s[k].toNat : Int) == (c.toNat : Int)) = false := by
          rw [beq_eq_false_iff_ne]; intro h; exact he (UInt8.toNat_inj.1 (by omega))
        have He := Lib.hid he
        clear he
        go_wp2
        go_roundw
        case rel =>
          refine ⟨f, k + 1, done, by omega, by omega, rfl, by go_num, Hown.out, Hbl.out, by omega, Hcut.out, fun j hj h1 h2 => ?_⟩
          by_cases hjk : j = k
          · subst hjk; exact He.out
          · exact Hne.out j hj h1 (by omega)
        case measure => simp [intOf]; omega
    · have hfs : f ≤ s.size := by omega
      go_wp2_with (at_builtin; go_loud (refine wpList_append_own _ rfl _ _ 96 rfl w.heap.size 9 i0 (.string ⟨#[]⟩) 1 16 Tryd.underlying96 hi hz0 hz1 hz2 rfl (by decide) _ _ _ rfl (Hown.out.alloc _) ⟨_, 0, none⟩ 1 1 [.string (s.extract f s.size)] rfl rfl ?c1 ?c2 ?c3 ?c4 ?c5 ?_))
      case c1 => intro j u hj; match j, hj with | 0, hj => (simp at hj; subst hj; simp [Addr.add]) | j + 1, hj => simp at hj
      case c2 => intro u hu; simp at hu; subst hu; rfl
      case c3 => unfold maxLen; omega
      case c4 => omega
      case c5 => have := Hbl.out.size; simp; omega
      intro v' w1 hown1 hgrow1 _
      have Hown1 := Lib.hid hown1
      have Hgrow1 := Lib.hid hgrow1
      clear hown1 hgrow1
      go_wp2
      go_ret
      have hkk : k = s.size := by omega
      have hfin : cut c s.data.toList = done ++ [s.data.toList.drop f] := by
        rw [Hcut.out, cut_end]
        intro j hj h1
        exact Hne.out j hj h1 (by simp at hj; omega)
      refine ⟨v', rfl, ?_, bw_grown (bw_alloc Hbl.out _) Hgrow1.out (own_ge Hown.out)⟩
      rw [hfin, strs_snoc, List.length_append]
      have := Hown1.out
      rw [extract_str] at this
      rw [show (s.data.toList.drop f) = (s.data.toList.drop f).take (s.size - f) from (List.take_of_length_le (by simp)).symm]
      exact this
end Go.Proofs.YtgogkpojeomabaaDoor
