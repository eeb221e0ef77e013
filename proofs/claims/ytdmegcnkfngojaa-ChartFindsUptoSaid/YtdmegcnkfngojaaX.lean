/- Which range has a key: the plain law. -/
import Derived.Test.YtdmegcnkfngojaaA
open Go Go.GG
set_option linter.unusedVariables false
namespace Go.Proofs.Ytdmegcnkfngojaa.gg
theorem law_ChartFinds (l : List Rg) (k : Str) (g : Int) (hl : l.length ≤ 1048576) : ∃ n, law11_ChartFinds n l k g = some true := by
  refine (law11_ChartFinds_lm l k g).fin ?_
  unfold law11_ChartFinds'
  rw [chFind_eq hl, refFind_eq hl, chCheck_eq hl, refMay_eq hl, chVersion_eq hl, refVersion_eq hl, awake11_eq]
  have e1 : ((cond (chMay l) (0 : Int) 1 == 0) == chMay l) = true := by cases chMay l <;> rfl
  simp only [Option.bind_some, e1, Bool.not_true, cond_false, bne_self_eq_false]
  have e2 : law11_ChartFinds_p15' g (cond (chMay l && decide ((k.length : Int) ≤ 64)) ((findIx l k : Int), (0 : Int)) (0, 1)).1 (cond (chMay l && decide ((k.length : Int) ≤ 64)) ((findIx l k : Int), (0 : Int)) (0, 1)).2 (cond (chMay l && decide ((k.length : Int) ≤ 64)) (findIx l k : Int) (-1)) = some (g, false) := by
    unfold law11_ChartFinds_p15'
    cases (chMay l && decide ((k.length : Int) ≤ 64)) with
    | false => rfl
    | true =>
      simp only [cond_true]
      rw [decide_eq_false (by omega : ¬ (findIx l k : Int) < 0), decide_eq_true (by omega : (findIx l k : Int) ≥ 0)]
      simp
  rw [e2]
  simp only [Option.bind_some, cond_false, chart_New', group_eq, grp]
  by_cases h1 : g ≥ 1
  · by_cases h2 : g ≤ 16
    · rw [decide_eq_true h1, decide_eq_true h2, decide_eq_false (by omega : ¬ g < 1), decide_eq_false (by omega : ¬ g > 16)]
      simp only [Bool.and_self, Bool.not_true, cond_false, Option.bind_some, beq_self_eq_true, cond_true]
      rw [Same_eq (by simp)]; simp
    · rw [decide_eq_true h1, decide_eq_false h2, decide_eq_false (by omega : ¬ g < 1), decide_eq_true (by omega : g > 16)]; rfl
  · rw [decide_eq_false h1, decide_eq_true (by omega : g < 1)]
    cases decide (g ≤ 16) <;> rfl
end Go.Proofs.Ytdmegcnkfngojaa.gg
