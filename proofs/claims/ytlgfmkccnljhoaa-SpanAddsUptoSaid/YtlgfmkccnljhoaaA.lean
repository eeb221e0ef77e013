/- Spans: which may be, which keys they have. -/
import Derived.Test.YtlgfmkccnljhoaaM
import Derived.Test.YtlgfmkccnljhoaaL10
open Go Go.GG
set_option linter.unusedVariables false
namespace Go.Proofs.Ytlgfmkccnljhoaa.gg
abbrev Sp := List UInt8 × List UInt8
def mayS (s : Sp) : Bool := decide ((s.1.length : Int) ≤ 64) && (decide ((s.2.length : Int) ≤ 64) && (s.2 == [] || strLess s.1 s.2))
theorem gt64 (n : Int) : decide (n > 64) = !decide (n ≤ 64) := by
  by_cases h : n ≤ 64
  · rw [decide_eq_true h, decide_eq_false (by omega)]; rfl
  · rw [decide_eq_false h, decide_eq_true (by omega)]; rfl
theorem Check_eq (s : Sp) : span_Check' s = some (cond (mayS s) 0 1) := by
  unfold span_Check' mayS
  rw [gt64, gt64]
  have e : (strLess s.2 s.1 || s.2 == s.1) = !strLess s.1 s.2 := (not_less s.1 s.2).symm
  rw [e]
  cases decide ((s.1.length : Int) ≤ 64) <;> cases decide ((s.2.length : Int) ≤ 64) <;> cases (s.2 == []) <;> cases strLess s.1 s.2 <;> rfl
theorem may_eq (s : Sp) : span_may' s = some (mayS s) := by
  unfold span_may'
  rw [Check_eq]
  cases mayS s <;> rfl
theorem refMay_eq (s : Sp) : ref10_May' s = some (mayS s) := by
  unfold ref10_May' mayS
  cases decide ((s.1.length : Int) ≤ 64) <;> cases decide ((s.2.length : Int) ≤ 64) <;> cases (s.2 == []) <;> rfl
def has (s : Sp) (k : Str) : Bool := leS s.1 k && (s.2 == [] || strLess k s.2)
theorem refHas_eq (s : Sp) (k : Str) : ref10_Has' s k = some (has s k) := by
  unfold ref10_Has' has leS
  cases (strLess s.1 k || s.1 == k) <;> cases (s.2 == []) <;> rfl
theorem Has_eq (s : Sp) (k : Str) : span_Has' s k = some (mayS s && (decide ((k.length : Int) ≤ 64) && has s k)) := by
  unfold span_Has' has
  rw [may_eq, not_less]
  cases mayS s <;> cases decide ((k.length : Int) ≤ 64) <;> cases leS s.1 k <;> cases (s.2 == []) <;> rfl
theorem awake_eq : law10_awake' = some true := law10_awake_lm.of_some 40 (by decide +kernel)
theorem span_eqb (x y : Sp) : T.eqb (.pair .str .str) x y = true ↔ x = y := eqb_iff (t := .pair .str .str) rfl x y
def split (s : Sp) (k : Str) : Sp × Sp × Int :=
  bif !(mayS s && decide ((k.length : Int) ≤ 64)) then (([], []), ([], []), 1) else bif !has s k || k == s.1 then (([], []), ([], []), 10) else ((s.1, k), (k, s.2), 0)
theorem Split_eq (s : Sp) (k : Str) : span_Split' s k = some (split s k) := by
  unfold span_Split' split
  rw [may_eq, gt64, Has_eq]
  simp only [Option.bind_some]
  cases mayS s <;> cases decide ((k.length : Int) ≤ 64) <;> cases has s k <;> cases (k == s.1) <;> rfl
theorem law_SpanSplits (s : Sp) (key other : Str) : ∃ k, law10_SpanSplits k s key other = some true := by
  refine (law10_SpanSplits_lm s key other).fin ?_
  unfold law10_SpanSplits' law10_SpanSplits_p4' law10_SpanSplits_p7'
  rw [Split_eq, refMay_eq, awake_eq]
  have hsplit : (split s key) = (bif !(mayS s && decide ((key.length : Int) ≤ 64)) then (([], []), ([], []), 1) else bif !has s key || key == s.1 then (([], []), ([], []), 10) else ((s.1, key), (key, s.2), 0)) := rfl
  generalize split s key = r at *
  cases hm : mayS s with
  | false =>
    rw [hm] at hsplit
    simp only [Bool.false_and, Bool.not_false, cond_true] at hsplit
    subst hsplit
    simp only [Option.bind_some, cond_false, Has_eq, hm]
    rfl
  | true =>
    cases hk : decide ((key.length : Int) ≤ 64) with
    | false =>
      rw [hm, hk] at hsplit
      simp only [Bool.and_false, Bool.not_false, cond_true] at hsplit
      subst hsplit
      simp only [Option.bind_some, cond_true, Has_eq, hk, Bool.and_false, Bool.false_and, cond_false, beq_self_eq_true, Bool.not_true, Bool.not_false, (span_eqb _ _).2 rfl]
    | true =>
      rw [hm, hk] at hsplit
      simp only [Bool.and_self, Bool.not_true, cond_false] at hsplit
      simp only [Option.bind_some, cond_true, Has_eq, refHas_eq, hm, hk, Bool.true_and, cond_false, beq_self_eq_true, Bool.not_true, Bool.not_false]
      cases hh : has s key with
      | false =>
        rw [hh] at hsplit
        simp only [Bool.not_false, Bool.true_or, cond_true] at hsplit
        subst hsplit
        simp [(span_eqb _ _).2 rfl]
      | true =>
        rw [hh] at hsplit
        simp only [Bool.not_true, Bool.false_or] at hsplit
        cases hf : (key == s.1) with
        | true =>
          rw [hf] at hsplit
          simp only [cond_true] at hsplit
          subst hsplit
          simp [(span_eqb _ _).2 rfl]
        | false =>
          rw [hf] at hsplit
          simp only [cond_false] at hsplit
          subst hsplit
          simp only [has, Bool.and_eq_true, Bool.or_eq_true, beq_iff_eq] at hh
          simp only [mayS, Bool.and_eq_true, Bool.or_eq_true, beq_iff_eq] at hm
          have h1 : strLess s.1 key = true := by
            rcases leS_iff.1 hh.1 with h | h
            · exact h
            · rw [h] at hf; simp at hf
          have hne : key ≠ [] := fun e => by rw [e, strLess_nil] at h1; cases h1
          have m1 : mayS (s.1, key) = true := by simp [mayS, hm.1, hk, h1]
          have m2 : mayS (key, s.2) = true := by
            simp only [mayS, Bool.and_eq_true, Bool.or_eq_true, beq_iff_eq]
            exact ⟨hk, hm.2.1, hh.2⟩
          have hlow : has (s.1, key) other = (leS s.1 other && strLess other key) := by
            unfold has
            rw [show (key == ([] : Str)) = false from by rw [beq_eq_false_iff_ne]; exact hne]
            rfl
          have hhigh : has (key, s.2) other = (leS key other && (s.2 == [] || strLess other s.2)) := rfl
          have key1 : (strLess other key = true → has s other = leS s.1 other) := fun h => by
            unfold has
            rcases hh.2 with h3 | h3
            · simp [h3]
            · rw [strLess_trans h h3]; simp
          have key2 : (strLess other key = false → leS key other = true ∧ leS s.1 other = true) := fun h => by
            have h3 := leS_iff'.2 h
            exact ⟨h3, leS_trans (leS_of_less h1) h3⟩
          simp only [m1, m2, hlow, hhigh, Bool.true_and, bne_self_eq_false, cond_false, beq_self_eq_true, Bool.not_true]
          cases ho : decide ((other.length : Int) ≤ 64) with
          | false => rfl
          | true =>
            simp only [Bool.true_and]
            cases hl : strLess other key with
            | true =>
              have hg : leS key other = false := by rw [← not_less, hl]; rfl
              rw [key1 hl, hg]
              cases leS s.1 other <;> rfl
            | false =>
              obtain ⟨q1, q2⟩ := key2 hl
              rw [q1]
              unfold has
              rw [q2]
              cases (s.2 == [] || strLess other s.2) <;> rfl
end Go.Proofs.Ytlgfmkccnljhoaa.gg
