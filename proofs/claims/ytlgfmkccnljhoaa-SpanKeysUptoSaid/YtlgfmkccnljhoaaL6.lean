/- The order of texts. -/
import Derived.Test.YtlgfmkccnljhoaaL5
set_option linter.unusedVariables false
namespace Go.GG
abbrev Str := List UInt8
theorem strLess_nil (x : Str) : strLess x [] = false := by cases x <;> rfl
theorem strLess_cons (a b : UInt8) (x y : Str) : strLess (a :: x) (b :: y) = (decide (a < b) || (a == b && strLess x y)) := rfl
theorem nil_strLess (b : UInt8) (y : Str) : strLess [] (b :: y) = true := rfl
theorem strLess_irrefl : ∀ x : Str, strLess x x = false
  | [] => rfl
  | a :: x => by
    rw [strLess_cons, strLess_irrefl x]
    have : ¬ a < a := UInt8.lt_irrefl a
    simp
theorem strLess_trans : ∀ {x y z : Str}, strLess x y = true → strLess y z = true → strLess x z = true
  | _, _, [], _, h => by rw [strLess_nil] at h; cases h
  | _, [], _ :: _, h, _ => by rw [strLess_nil] at h; cases h
  | [], _ :: _, c :: z, _, _ => rfl
  | a :: x, b :: y, c :: z, h1, h2 => by
    rw [strLess_cons] at h1 h2 ⊢
    simp only [Bool.or_eq_true, decide_eq_true_eq, Bool.and_eq_true, beq_iff_eq] at h1 h2 ⊢
    rcases h1 with h1 | ⟨rfl, h1⟩
    · rcases h2 with h2 | ⟨rfl, h2⟩
      · exact .inl (UInt8.lt_trans h1 h2)
      · exact .inl h1
    · rcases h2 with h2 | ⟨rfl, h2⟩
      · exact .inl h2
      · exact .inr ⟨rfl, strLess_trans h1 h2⟩
theorem strLess_total : ∀ x y : Str, strLess x y = true ∨ x = y ∨ strLess y x = true
  | [], [] => .inr (.inl rfl)
  | [], _ :: _ => .inl rfl
  | _ :: _, [] => .inr (.inr rfl)
  | a :: x, b :: y => by
    rw [strLess_cons, strLess_cons]
    simp only [Bool.or_eq_true, decide_eq_true_eq, Bool.and_eq_true, beq_iff_eq, List.cons.injEq]
    rcases UInt8.lt_or_lt_of_ne (a := a) (b := b) |> fun f => (Classical.em (a = b)).imp id f with h | h
    · subst h
      rcases strLess_total x y with h | h | h
      · exact .inl (.inr ⟨rfl, h⟩)
      · exact .inr (.inl ⟨rfl, h⟩)
      · exact .inr (.inr (.inr ⟨rfl, h⟩))
    · rcases h with h | h
      · exact .inl (.inl h)
      · exact .inr (.inr (.inl h))
theorem strLess_asymm {x y : Str} (h : strLess x y = true) : strLess y x = false := by
  cases h' : strLess y x with
  | false => rfl
  | true => have := strLess_trans h h'; rw [strLess_irrefl] at this; cases this
theorem strLess_ne {x y : Str} (h : strLess x y = true) : x ≠ y := fun e => by subst e; rw [strLess_irrefl] at h; cases h
/-- At most. -/
def leS (a b : Str) : Bool := strLess a b || a == b
theorem not_less (x y : Str) : (!strLess x y) = leS y x := by
  unfold leS
  rcases strLess_total x y with h | h | h
  · rw [h, strLess_asymm h]
    have : (y == x) = false := by simpa using (strLess_ne h).symm
    rw [this]; rfl
  · subst h; rw [strLess_irrefl]; simp
  · rw [h, strLess_asymm h]; rfl
theorem not_le (x y : Str) : (!leS x y) = strLess y x := by
  have := not_less y x
  rw [← this, Bool.not_not]
theorem leS_iff {x y : Str} : leS x y = true ↔ strLess x y = true ∨ x = y := by simp [leS]
theorem leS_iff' {x y : Str} : leS x y = true ↔ strLess y x = false := by
  rw [← not_less]; simp
theorem less_iff' {x y : Str} : strLess x y = true ↔ leS y x = false := by
  rw [← not_le]; simp
theorem leS_refl (x : Str) : leS x x = true := by simp [leS]
theorem leS_nil (x : Str) : leS [] x = true := by cases x <;> rfl
theorem leS_of_less {x y : Str} (h : strLess x y = true) : leS x y = true := by simp [leS, h]
theorem leS_trans {x y z : Str} (h1 : leS x y = true) (h2 : leS y z = true) : leS x z = true := by
  rw [leS_iff] at *
  rcases h1 with h1 | rfl
  · rcases h2 with h2 | rfl
    · exact .inl (strLess_trans h1 h2)
    · exact .inl h1
  · exact h2
theorem less_of_le_less {x y z : Str} (h1 : leS x y = true) (h2 : strLess y z = true) : strLess x z = true := by
  rw [leS_iff] at h1
  rcases h1 with h1 | rfl
  · exact strLess_trans h1 h2
  · exact h2
theorem less_of_less_le {x y z : Str} (h1 : strLess x y = true) (h2 : leS y z = true) : strLess x z = true := by
  rw [leS_iff] at h2
  rcases h2 with h2 | rfl
  · exact strLess_trans h1 h2
  · exact h1
theorem leS_antisymm {x y : Str} (h1 : leS x y = true) (h2 : leS y x = true) : x = y := by
  rw [leS_iff] at h1 h2
  rcases h1 with h1 | h1
  · rcases h2 with h2 | h2
    · have := strLess_trans h1 h2; rw [strLess_irrefl] at this; cases this
    · exact h2.symm
  · exact h1
end Go.GG
