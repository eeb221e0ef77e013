/- Spans: which may be, which keys they have. -/
import Derived.Test.YtdmegcnkfngojaaK6
import Derived.Test.YtdmegcnkfngojaaM
open Go Go.GG
set_option linter.unusedVariables false
namespace Go.Proofs.Ytdmegcnkfngojaa.gg.sp
abbrev Sp := List UInt8 × List UInt8
def mayS (s : Sp) : Bool := decide ((s.1.length : Int) ≤ 64) && (decide ((s.2.length : Int) ≤ 64) && (s.2 == [] || strLess s.1 s.2))
theorem gt64 (n : Int) : decide (n > 64) = !decide (n ≤ 64) := by
  by_cases h : n ≤ 64
  · rw [decide_eq_true h, decide_eq_false (by omega)]; rfl
  · rw [decide_eq_false h, decide_eq_true (by omega)]; rfl
theorem Check_eq (s : Sp) : span_Check' s = some (cond (mayS s) 0 1) := by
  unfold span_Check' mayS
  rw [gt64, gt64]
  have e : (strLess s.2 s.1 || s.2 == s.1) = !strLess s.1 s.2 := (not_less s.1 s.2).symm
  rw [e]
  cases decide ((s.1.length : Int) ≤ 64) <;> cases decide ((s.2.length : Int) ≤ 64) <;> cases (s.2 == []) <;> cases strLess s.1 s.2 <;> rfl
theorem may_eq (s : Sp) : span_may' s = some (mayS s) := by
  unfold span_may'
  rw [Check_eq]
  cases mayS s <;> rfl
theorem refMay_eq (s : Sp) : ref10_May' s = some (mayS s) := by
  unfold ref10_May' mayS
  cases decide ((s.1.length : Int) ≤ 64) <;> cases decide ((s.2.length : Int) ≤ 64) <;> cases (s.2 == []) <;> rfl
def has (s : Sp) (k : Str) : Bool := leS s.1 k && (s.2 == [] || strLess k s.2)
theorem refHas_eq (s : Sp) (k : Str) : ref10_Has' s k = some (has s k) := by
  unfold ref10_Has' has leS
  cases (strLess s.1 k || s.1 == k) <;> cases (s.2 == []) <;> rfl
theorem Has_eq (s : Sp) (k : Str) : span_Has' s k = some (mayS s && (decide ((k.length : Int) ≤ 64) && has s k)) := by
  unfold span_Has' has
  rw [may_eq, not_less]
  cases mayS s <;> cases decide ((k.length : Int) ≤ 64) <;> cases leS s.1 k <;> cases (s.2 == []) <;> rfl
theorem span_eqb (x y : Sp) : T.eqb (.pair .str .str) x y = true ↔ x = y := eqb_iff (t := .pair .str .str) rfl x y
end Go.Proofs.Ytdmegcnkfngojaa.gg.sp
