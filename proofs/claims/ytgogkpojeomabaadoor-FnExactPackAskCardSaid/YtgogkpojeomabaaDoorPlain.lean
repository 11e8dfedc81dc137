/- The plain law of PackAsk: the program's reader of a program's text and the reference's read the same. No program of the language in sight. -/
import Derived.Test.YtgogkpojeomabaaDoorAskS
import Derived.Test.YtgogkpojeomabaaDoorRead2
set_option linter.unusedVariables false
set_option linter.unusedSimpArgs false
namespace Go.Proofs.YtgogkpojeomabaaDoor
open Go.RowKit

/-! Decimals. -/
theorem dec_small {n : Nat} (h : n < 10) : dec n = [UInt8.ofNat (48 + n)] := by unfold dec; rw [Lib.decDigits, dif_pos h]
theorem dec_big {n : Nat} (h : ¬ n < 10) : dec n = dec (n / 10) ++ [UInt8.ofNat (48 + n % 10)] := by unfold dec; rw [Lib.decDigits, dif_neg h]
theorem fig_nat {d : Nat} (h : d < 10) : (UInt8.ofNat (48 + d)).toNat = 48 + d := by
  rw [UInt8.toNat_ofNat']; omega
theorem dec_figs (n : Nat) : ∀ x ∈ dec n, 48 ≤ x.toNat ∧ x.toNat ≤ 57 := by
  induction n using Nat.strongRecOn with
  | ind n ih =>
    intro x hx
    by_cases h : n < 10
    · rw [dec_small h] at hx; obtain rfl := List.mem_singleton.1 hx; rw [fig_nat h]; omega
    · rw [dec_big h] at hx
      rcases List.mem_append.1 hx with hx | hx
      · exact ih _ (by omega) x hx
      · obtain rfl := List.mem_singleton.1 hx; rw [fig_nat (by omega)]; omega
theorem dec_pos (n : Nat) : 0 < (dec n).length := by
  by_cases h : n < 10
  · rw [dec_small h]; simp
  · rw [dec_big h]; simp
theorem numGo_dec (most : Nat) (t : List UInt8) (n : Nat) (h : n ≤ most) : numGo most (dec n ++ t) 0 0 = numGo most t n (dec n).length := by
  induction n using Nat.strongRecOn generalizing t with
  | ind n ih =>
    by_cases h1 : n < 10
    · rw [dec_small h1, List.singleton_append, numGo, fig_nat h1, if_pos (by omega), if_neg (by omega)]
      simp
    · rw [dec_big h1, List.append_assoc, ih (n / 10) (by omega) _ (by omega), List.singleton_append, numGo, fig_nat (by omega), if_pos (by omega), if_neg (by omega), List.length_append]
      congr 1; omega
def noFig (t : List UInt8) : Prop := ∀ x r, t = x :: r → ¬ (48 ≤ x.toNat ∧ x.toNat ≤ 57)
theorem noFig_cons {x : UInt8} {r : List UInt8} (h : ¬ (48 ≤ x.toNat ∧ x.toNat ≤ 57)) : noFig (x :: r) := by
  intro y s e; injection e with e1 _; subst e1; exact h
theorem numRes_dec {most n : Nat} {t : List UInt8} (h : n ≤ most) (ht : noFig t) : numRes most (dec n ++ t) = some (n, t) := by
  have hp := dec_pos n
  have e : numGo most t n (dec n).length = some (n, (dec n).length) := by
    cases t with
    | nil => rfl
    | cons x r => rw [numGo, if_neg (ht x r rfl)]
  unfold numRes
  rw [numGo_dec most t n h, e]
  simp only [Option.bind_some]
  rw [if_pos hp]
  simp
theorem numGo_back {most : Nat} (l p : List UInt8) (v v' s' : Nat) (hp : p = dec v) (h : numGo most l v p.length = some (v', s')) :
    p.length ≤ s' ∧ p ++ l.take (s' - p.length) = dec v' := by
  induction l generalizing p v with
  | nil => rw [numGo] at h; injection h with h; injection h with h1 h2; subst h1; subst h2; simp [hp]
  | cons x xs ih =>
    rw [numGo] at h
    split at h
    · rename_i hx
      split at h
      · cases h
      · rename_i hc
        have hlp : 0 < p.length := by rw [hp]; exact dec_pos v
        have hv : v ≠ 0 := fun e => hc (.inl ⟨hlp, e⟩)
        have e : p ++ [x] = dec (v * 10 + (x.toNat - 48)) := by
          rw [dec_big (by omega), hp, show (v * 10 + (x.toNat - 48)) / 10 = v by omega, show (v * 10 + (x.toNat - 48)) % 10 = x.toNat - 48 by omega]
          congr 2
          apply UInt8.toNat_inj.1
          rw [fig_nat (by omega)]; omega
        have := ih (p ++ [x]) _ e (by rw [List.length_append]; exact h)
        obtain ⟨a, b⟩ := this
        simp only [List.length_append, List.length_cons, List.length_nil] at a b
        refine ⟨by omega, ?_⟩
        rw [show s' - p.length = (s' - (p.length + (0 + 1))) + 1 by omega, List.take_succ_cons]
        rw [List.append_assoc] at b
        exact b
    · injection h with h; injection h with h1 h2; subst h1; subst h2; simp [hp]
theorem numGo_le {most : Nat} {l : List UInt8} {v s v' s' : Nat} (h : numGo most l v s = some (v', s')) (hv : v ≤ most) : v' ≤ most := by
  induction l generalizing v s with
  | nil => rw [numGo] at h; injection h with h; injection h with h1 h2; omega
  | cons x xs ih =>
    rw [numGo] at h
    split at h
    · split at h
      · cases h
      · exact ih h (by omega)
    · injection h with h; injection h with h1 h2; omega
theorem numRes_back {most n : Nat} {l t : List UInt8} (h : numRes most l = some (n, t)) : l = dec n ++ t ∧ n ≤ most := by
  unfold numRes at h
  rcases hg : numGo most l 0 0 with _ | ⟨v, s⟩
  · rw [hg] at h; cases h
  · rw [hg] at h
    simp only [Option.bind_some] at h
    split at h
    · rename_i hs
      injection h with h; injection h with h1 h2; subst h1; subst h2
      cases l with
      | nil => rw [numGo] at hg; injection hg with hg; injection hg with _ hg; omega
      | cons x xs =>
        rw [numGo] at hg
        split at hg
        · rename_i hx
          split at hg
          · cases hg
          · have e : [x] = dec (0 * 10 + (x.toNat - 48)) := by
              rw [dec_small (by omega)]
              congr 1
              apply UInt8.toNat_inj.1
              rw [fig_nat (by omega)]; omega
            obtain ⟨a, b⟩ := numGo_back xs [x] _ _ _ e (by simpa using hg)
            simp only [List.length_cons, List.length_nil] at a b
            have e2 : s = (s - (0 + 1)) + 1 := by omega
            refine ⟨?_, numGo_le hg (by omega)⟩
            rw [← b]
            conv => rhs; rw [e2]
            simp
        · injection hg with hg; injection hg with _ hg; omega
    · cases h

/-! A place, written and read. -/
theorem skip_at (p r : List UInt8) : skipRes p (p ++ r) = some r := by
  unfold skipRes
  have h : Lib.hasPrefix (p ++ r) p = true := by unfold Lib.hasPrefix; simp
  rw [if_pos h]; unfold Lib.trimPrefix; rw [if_pos h]; simp
theorem pre_back {p l : List UInt8} (h : Lib.hasPrefix l p = true) : l = p ++ Lib.trimPrefix l p := by
  unfold Lib.trimPrefix; rw [if_pos h]
  unfold Lib.hasPrefix at h
  obtain ⟨t, rfl⟩ := List.isPrefixOf_iff_prefix.1 h
  simp
theorem skip_back {p l r : List UInt8} (h : skipRes p l = some r) : l = p ++ r := by
  unfold skipRes at h
  split at h
  · rename_i hh; injection h with h; subst h; exact pre_back hh
  · cases h
theorem opSkip_at {op : Int} (h : op = 1 ∨ op = 2 ∨ op = 3 ∨ op = 4 ∨ op = 5 ∨ op = 6) (r : List UInt8) : opSkip (opWord op ++ ([32] ++ r)) 6 1 = some (op.toNat, r) := by
  rcases h with rfl | rfl | rfl | rfl | rfl | rfl <;> simp [opSkip, opWord, Lib.hasPrefix, Lib.trimPrefix]
theorem opSkip_back {l r : List UInt8} {n op o : Nat} (h : opSkip l n op = some (o, r)) : l = opWord o ++ ([32] ++ r) ∧ op ≤ o ∧ o < op + n := by
  induction n generalizing op with
  | zero => cases h
  | succ n ih =>
    rw [opSkip] at h
    split at h
    · rename_i hp
      injection h with h; injection h with h1 h2
      subst h1; subst h2
      refine ⟨?_, by omega, by omega⟩
      rw [← List.append_assoc]
      exact pre_back hp
    · obtain ⟨a, b, c⟩ := ih h
      exact ⟨a, by omega, by omega⟩
theorem way_at {y : Nat} (h : y ≤ 6) {r : List UInt8} (hr : noFig r) : wayRes ([32] ++ (dec y ++ r)) = some (y, r) := by
  unfold wayRes; rw [skip_at]; simp only [Option.bind_some]; exact numRes_dec h hr
theorem way_back {l r : List UInt8} {y : Nat} (h : wayRes l = some (y, r)) : l = [32] ++ (dec y ++ r) := by
  unfold wayRes at h
  rcases hs : skipRes [32] l with _ | m
  · rw [hs] at h; cases h
  · rw [hs] at h
    rw [skip_back hs, (numRes_back h).1]
def Ins.good (x : Ins) : Prop := (x.op = 1 ∨ x.op = 2 ∨ x.op = 3 ∨ x.op = 4 ∨ x.op = 5 ∨ x.op = 6) ∧ 0 ≤ x.k ∧ x.k ≤ 4294967295 ∧ 0 ≤ x.yes ∧ x.yes ≤ 6 ∧ 0 ≤ x.no ∧ x.no ≤ 6 ∧ ((x.op = 3 ∨ x.op = 4) ∨ (x.yes = 0 ∧ x.no = 0))
theorem good_of_ok {x : Ins} {left : Int} (hl : left ≤ 160) (h : x.okB left = true) : x.good := by
  obtain ⟨op, K, Y, N⟩ := x
  unfold Ins.okB at h
  unfold Ins.good
  simp only at h ⊢
  repeat' split at h
  all_goals first | (simp [inB] at h; omega) | (cases h)
theorem placeRead_at {x : Ins} (h : x.good) (r : List UInt8) : placeRead (x.line ++ r) = some (x, r) := by
  obtain ⟨op, K, Y, N⟩ := x
  obtain ⟨h1, h2, h3, h4, h5, h6, h7, h8⟩ := h
  simp only at h1 h2 h3 h4 h5 h6 h7 h8
  have f1 : ∀ t, noFig ([10] ++ t) := fun t => noFig_cons (by decide)
  have f2 : ∀ t, noFig ([32] ++ t) := fun t => noFig_cons (by decide)
  have eo : (op.toNat : Int) = op := by omega
  have ek : (K.toNat : Int) = K := by omega
  have ey : (Y.toNat : Int) = Y := by omega
  have en : (N.toNat : Int) = N := by omega
  by_cases hop : op = 3 ∨ op = 4
  · have e : Ins.line ⟨op, K, Y, N⟩ ++ r = opWord op ++ ([32] ++ (dec K.toNat ++ ([32] ++ (dec Y.toNat ++ ([32] ++ (dec N.toNat ++ ([10] ++ r))))))) := by
      unfold Ins.line; rw [if_pos hop]; simp
    unfold placeRead
    rw [e, opSkip_at h1]
    simp only [Option.bind_some]
    rw [numRes_dec (by omega) (f2 _)]
    simp only [Option.bind_some]
    rw [if_pos (by omega), way_at (by omega) (f2 _)]
    simp only [Option.bind_some]
    rw [way_at (by omega) (f1 _)]
    simp only [Option.bind_some]
    rw [skip_at]
    simp only [Option.bind_some]
    rw [eo, ek, ey, en]
  · have e : Ins.line ⟨op, K, Y, N⟩ ++ r = opWord op ++ ([32] ++ (dec K.toNat ++ ([10] ++ r))) := by
      unfold Ins.line; rw [if_neg hop]; simp
    have h9 : Y = 0 ∧ N = 0 := by rcases h8 with h8 | h8; exact absurd h8 hop; exact h8
    obtain ⟨rfl, rfl⟩ := h9
    unfold placeRead
    rw [e, opSkip_at h1]
    simp only [Option.bind_some]
    rw [numRes_dec (by omega) (f1 _)]
    simp only [Option.bind_some]
    rw [if_neg (by omega), skip_at]
    simp only [Option.bind_some]
    rw [eo, ek]
theorem placeRead_back {l r : List UInt8} {x : Ins} (h : placeRead l = some (x, r)) : l = x.line ++ r := by
  unfold placeRead at h
  rcases h1 : opSkip l 6 1 with _ | ⟨j, l1⟩
  · rw [h1] at h; cases h
  · rw [h1] at h; simp only [Option.bind_some] at h
    obtain ⟨a1, _, _⟩ := opSkip_back h1
    rcases h2 : numRes 4294967295 l1 with _ | ⟨n, l2⟩
    · rw [h2] at h; cases h
    · rw [h2] at h; simp only [Option.bind_some] at h
      have a2 := (numRes_back h2).1
      split at h
      · rename_i hj
        rcases h3 : wayRes l2 with _ | ⟨y, l3⟩
        · rw [h3] at h; cases h
        · rw [h3] at h; simp only [Option.bind_some] at h
          have a3 := way_back h3
          rcases h4 : wayRes l3 with _ | ⟨m, l4⟩
          · rw [h4] at h; cases h
          · rw [h4] at h; simp only [Option.bind_some] at h
            have a4 := way_back h4
            rcases h5 : skipRes [10] l4 with _ | r'
            · rw [h5] at h; cases h
            · rw [h5] at h; simp only [Option.bind_some] at h
              injection h with h; injection h with h0 h
              subst h; subst h0
              have a5 := skip_back h5
              unfold Ins.line
              rw [if_pos (by simp only; omega), a1, a2, a3, a4, a5]
              simp
      · rename_i hj
        rcases h5 : skipRes [10] l2 with _ | r'
        · rw [h5] at h; cases h
        · rw [h5] at h; simp only [Option.bind_some] at h
          injection h with h; injection h with h0 h
          subst h; subst h0
          have a5 := skip_back h5
          unfold Ins.line
          rw [if_neg (by simp only; omega), a1, a2, a5]
          simp
theorem readAll_at (xs : List Ins) (hg : ∀ x ∈ xs, x.good) (n : Nat) (acc : List Ins) (hn : (codeText xs).length ≤ n) (ha : acc.length + xs.length ≤ 160) : readAll n (codeText xs) acc = some (acc ++ xs) := by
  induction xs generalizing n acc with
  | nil => cases n <;> simp [codeText, readAll]
  | cons x xs ih =>
    have e : codeText (x :: xs) = x.line ++ codeText xs := rfl
    have hp := line_pos x
    rw [e, List.length_append] at hn
    cases n with
    | zero => omega
    | succ n =>
      have he : (x.line ++ codeText xs).isEmpty = false := by
        cases hx : x.line with
        | nil => rw [hx] at hp; simp at hp
        | cons a b => rfl
      rw [e, readAll, he]
      simp only [Bool.false_eq_true, if_false]
      rw [placeRead_at (hg x (by simp))]
      simp only [Option.bind_some]
      simp only [List.length_cons] at ha
      rw [if_neg (by omega), ih (fun y hy => hg y (by simp [hy])) n _ (by omega) (by simp; omega)]
      simp
theorem readAll_back {n : Nat} {l : List UInt8} {acc xs : List Ins} (h : readAll n l acc = some xs) : ∃ ys, xs = acc ++ ys ∧ l = codeText ys := by
  induction n generalizing l acc with
  | zero =>
    rw [readAll] at h
    split at h
    · rename_i he
      injection h with h
      exact ⟨[], by simp [h], by simpa [codeText] using he⟩
    · cases h
  | succ n ih =>
    rw [readAll] at h
    split at h
    · rename_i he
      injection h with h
      exact ⟨[], by simp [h], by simpa [codeText] using he⟩
    · rcases hp : placeRead l with _ | ⟨x, r⟩
      · rw [hp] at h; cases h
      · rw [hp] at h; simp only [Option.bind_some] at h
        split at h
        · cases h
        · obtain ⟨ys, e1, e2⟩ := ih h
          refine ⟨x :: ys, by rw [e1]; simp, ?_⟩
          rw [placeRead_back hp, e2]; rfl
/-! The reference's line. -/
def Ins.bodyText (x : Ins) : List UInt8 := opWord x.op ++ [32] ++ dec x.k.toNat ++ (if x.op = 3 ∨ x.op = 4 then [32] ++ dec x.yes.toNat ++ [32] ++ dec x.no.toNat else [])
theorem line_body (x : Ins) : x.line = x.bodyText ++ [10] := rfl
theorem opWord_low (op : Int) : ∀ x ∈ opWord op, 97 ≤ x.toNat := by
  unfold opWord
  repeat' split
  all_goals simp
theorem fig_ne {n : Nat} {c : UInt8} (hc : c.toNat < 48) : ∀ x ∈ dec n, x ≠ c := by
  intro x hx e; have := dec_figs n x hx; rw [e] at this; omega
theorem word_ne {op : Int} {c : UInt8} (hc : c.toNat < 48) : ∀ x ∈ opWord op, x ≠ c := by
  intro x hx e; have := opWord_low op x hx; rw [e] at this; omega
theorem body_no10 (x : Ins) : ∀ y ∈ x.bodyText, y ≠ 10 := by
  intro y hy
  unfold Ins.bodyText at hy
  have h10 : (10 : UInt8).toNat < 48 := by decide
  have h32 : ∀ z ∈ ([32] : List UInt8), z ≠ 10 := by intro z hz; simp at hz; subst hz; decide
  simp only [List.mem_append] at hy
  rcases hy with ((hy | hy) | hy) | hy
  · exact word_ne h10 y hy
  · exact h32 y hy
  · exact fig_ne h10 y hy
  · split at hy
    · simp only [List.mem_append] at hy
      rcases hy with ((hy | hy) | hy) | hy
      · exact h32 y hy
      · exact fig_ne h10 y hy
      · exact h32 y hy
      · exact fig_ne h10 y hy
    · simp at hy
theorem cut_code (xs : List Ins) : cut 10 (codeText xs) = xs.map Ins.bodyText ++ [[]] := by
  induction xs with
  | nil => rfl
  | cons x xs ih =>
    have e : codeText (x :: xs) = x.bodyText ++ 10 :: codeText xs := by
      show x.line ++ codeText xs = _; rw [line_body]; simp
    rw [e, cut_at (body_no10 x), ih]; rfl
theorem digits_dec (n : Nat) (t : List UInt8) : digits (dec n ++ t) 0 = digits t n := by
  induction n using Nat.strongRecOn generalizing t with
  | ind n ih =>
    by_cases h1 : n < 10
    · rw [dec_small h1, List.singleton_append, digits, fig_nat h1, if_pos (by omega)]
      congr 1; omega
    · rw [dec_big h1, List.append_assoc, ih (n / 10) (by omega), List.singleton_append, digits, fig_nat (by omega), if_pos (by omega)]
      congr 1; omega
theorem dec_len_pow (n : Nat) (k : Nat) (h : n < 10 ^ (k + 1)) : (dec n).length ≤ k + 1 := by
  induction k generalizing n with
  | zero => rw [dec_small (by simpa using h)]; simp
  | succ k ih =>
    by_cases h1 : n < 10
    · rw [dec_small h1]; simp
    · rw [dec_big h1, List.length_append]
      have := ih (n / 10) (by rw [Nat.pow_succ] at h; omega)
      simp; omega
theorem dec_head (n : Nat) (h : 1 < (dec n).length) : (dec n).head? ≠ some 48 := by
  have key : ∀ n, 0 < n → (dec n).head? ≠ some 48 := by
    intro n
    induction n using Nat.strongRecOn with
    | ind n ih =>
      intro hn
      by_cases h1 : n < 10
      · rw [dec_small h1]
        intro e
        simp only [List.head?_cons, Option.some.injEq] at e
        have := congrArg UInt8.toNat e
        rw [fig_nat h1] at this
        have h48 : (48 : UInt8).toNat = 48 := rfl
        omega
      · rw [dec_big h1]
        have := ih (n / 10) (by omega) (by omega)
        have hp := dec_pos (n / 10)
        cases hd : dec (n / 10) with
        | nil => rw [hd] at hp; simp at hp
        | cons a b => rw [hd] at this; simpa using this
  by_cases h0 : 0 < n
  · exact key n h0
  · rw [dec_small (by omega)] at h; simp at h
theorem numS_dec {n : Nat} (h : n ≤ 4294967295) : numS (dec n) = n := by
  have a := dec_pos n
  have b := dec_len_pow n 9 (by omega)
  unfold numS
  rw [if_pos ⟨⟨a, b⟩, fun e => dec_head n e.1 e.2⟩]
  have := digits_dec n []
  rw [List.append_nil] at this
  rw [this]
  unfold digits numFin
  simp only
  rw [if_neg (by omega)]
theorem opUp_at {op : Int} (h : op = 1 ∨ op = 2 ∨ op = 3 ∨ op = 4 ∨ op = 5 ∨ op = 6) : opUpTo (opWord op) 7 = op.toNat := by
  rcases h with rfl | rfl | rfl | rfl | rfl | rfl <;> decide
theorem lineS_body {x : Ins} (h : x.good) : lineS x.bodyText = x := by
  obtain ⟨op, K, Y, N⟩ := x
  obtain ⟨h1, h2, h3, h4, h5, h6, h7, h8⟩ := h
  simp only at h1 h2 h3 h4 h5 h6 h7 h8
  have h32 : (32 : UInt8).toNat < 48 := by decide
  have eo : (op.toNat : Int) = op := by omega
  have ek : (K.toNat : Int) = K := by omega
  have ey : (Y.toNat : Int) = Y := by omega
  have en : (N.toNat : Int) = N := by omega
  by_cases hop : op = 3 ∨ op = 4
  · have e : Ins.bodyText ⟨op, K, Y, N⟩ = opWord op ++ 32 :: (dec K.toNat ++ 32 :: (dec Y.toNat ++ 32 :: dec N.toNat)) := by
      unfold Ins.bodyText; rw [if_pos hop]; simp
    unfold lineS
    rw [e, cut_at (word_ne h32), cut_at (fig_ne h32), cut_at (fig_ne h32), cut_plain (fig_ne h32)]
    unfold lineParts
    simp only [List.headD_cons, List.length_cons, List.length_nil, List.getD_cons_succ, List.getD_cons_zero]
    rw [opUp_at h1, numS_dec (by omega), numS_dec (by omega), numS_dec (by omega), eo, ek, ey, en]; simp
  · have e : Ins.bodyText ⟨op, K, Y, N⟩ = opWord op ++ 32 :: dec K.toNat := by
      unfold Ins.bodyText; rw [if_neg hop]; simp
    have h9 : Y = 0 ∧ N = 0 := by rcases h8 with h8 | h8; exact absurd h8 hop; exact h8
    obtain ⟨rfl, rfl⟩ := h9
    unfold lineS
    rw [e, cut_at (word_ne h32), cut_plain (fig_ne h32)]
    unfold lineParts
    simp only [List.headD_cons, List.length_cons, List.length_nil, List.getD_cons_succ, List.getD_cons_zero]
    rw [opUp_at h1, numS_dec (by omega), eo, ek]; simp
theorem okFrom_good {n i : Nat} {xs : List Ins} (hn : n ≤ 160) (h : okFrom n i xs = true) : ∀ x ∈ xs, x.good := by
  induction xs generalizing i with
  | nil => intro x hx; cases hx
  | cons y ys ih =>
    rw [okFrom, Bool.and_eq_true] at h
    intro x hx
    rcases List.mem_cons.1 hx with rfl | hx
    · exact good_of_ok (by omega) h.1
    · exact ih h.2 x hx
theorem ways_good {xs : List Ins} (h : waysB xs = true) : xs.length ≤ 160 ∧ ∀ x ∈ xs, x.good := by
  unfold waysB at h
  simp only [Bool.and_eq_true, decide_eq_true_eq] at h
  exact ⟨h.1.2, okFrom_good h.1.2 h.2⟩
theorem candS_code {xs : List Ins} (h : ∀ x ∈ xs, x.good) : candS (codeText xs) = xs := by
  unfold candS
  rw [cut_code, List.dropLast_concat, List.map_map]
  conv => rhs; rw [← List.map_id xs]
  exact List.map_congr_left fun x hx => lineS_body (h x hx)
/-- Both readers read the same. -/
theorem read_same (l : List UInt8) : codeReadI l = codeReadS l := by
  unfold codeReadI codeReadS
  by_cases hl : 2600 < l.length
  · rw [if_pos hl, if_pos hl]
  · rw [if_neg hl, if_neg hl]
    rcases hr : readAll l.length l [] with _ | xs
    · simp only [Option.bind_none]
      rw [if_neg]
      rintro ⟨h1, h2⟩
      unfold codeOkB at h1
      rw [Bool.and_eq_true] at h1
      obtain ⟨g1, g2⟩ := ways_good h1.1
      have := readAll_at (candS l) g2 l.length [] (by rw [h2]; exact Nat.le_refl _) (by simpa using g1)
      rw [h2, hr] at this
      cases this
    · simp only [Option.bind_some]
      obtain ⟨ys, e1, e2⟩ := readAll_back hr
      rw [List.nil_append] at e1
      subst e1
      by_cases hw : waysB xs = true
      · rw [if_pos hw]
        obtain ⟨g1, g2⟩ := ways_good hw
        have hc : candS l = xs := by rw [e2]; exact candS_code g2
        rw [hc, if_pos]
        refine ⟨?_, e2.symm⟩
        unfold codeOkB
        rw [Bool.and_eq_true]
        exact ⟨hw, by rw [← e2]; simpa using hl⟩
      · rw [if_neg hw, if_neg]
        rintro ⟨h1, h2⟩
        unfold codeOkB at h1
        rw [Bool.and_eq_true] at h1
        obtain ⟨g1, g2⟩ := ways_good h1.1
        have := readAll_at (candS l) g2 l.length [] (by rw [h2]; exact Nat.le_refl _) (by simpa using g1)
        rw [h2, hr, List.nil_append] at this
        injection this with this
        rw [this] at hw
        exact hw h1.1

theorem codeRun_empty (c : Call) : codeRun [] c = (4, 0) := by
  have h : codeOkB [] = false := rfl
  unfold codeRun
  rw [h]; rfl
theorem ask_same (l : List UInt8) (c : Call) : packAskI l c = packAskS l c := by
  unfold packAskI packAskS
  rw [read_same]
  cases codeReadS l with
  | none => rw [Option.getD_none, codeRun_empty]
  | some xs => rfl
end Go.Proofs.YtgogkpojeomabaaDoor
