/- Tables and environments, row by row. -/
import Derived.Test.YtlgfmkccnljhoaaC31
namespace Go.GG
section
variable {P : Program}
theorem tabOk_nil : TabOk P [] := fun _ _ h => by simp [Tab.get] at h
theorem tabOk_cons {t : TypeId} {i : TI} {r : Tab} (h : TOk P t i) (hr : TabOk P r) : TabOk P ((t, i) :: r) := fun t' i' h' => by
  simp only [Tab.get] at h'
  cases hb : Nat.beq t t' with
  | true => rw [hb] at h'; simp at h'; subst h'; rw [← Nat.eq_of_beq_eq_true hb]; exact h
  | false => rw [hb] at h'; exact hr t' i' h'
def envL : List (Nat × FSpec) → Env
  | [], _ => []
  | (g, s) :: r, f => cond (Nat.beq g f) (s :: envL r f) (envL r f)
theorem envOk_nil : EnvOk P (envL []) := fun _ _ h => by simp [envL] at h
theorem envOk_cons' {g : FuncId} {s : FSpec} {r : List (Nat × FSpec)} (h : SpecOk P g s ∨ XSpec P g s) (hr : EnvOk P (envL r)) : EnvOk P (envL ((g, s) :: r)) := fun f s' h' => by
  simp only [envL] at h'
  cases hb : Nat.beq g f with
  | true =>
    rw [hb] at h'
    simp at h'
    rcases h' with rfl | h'
    · rw [← Nat.eq_of_beq_eq_true hb]; exact h
    · exact hr f s' h'
  | false => rw [hb] at h'; exact hr f s' h'
theorem envOk_cons {g : FuncId} {s : FSpec} {r : List (Nat × FSpec)} (h : SpecOk P g s) (hr : EnvOk P (envL r)) : EnvOk P (envL ((g, s) :: r)) := envOk_cons' (.inl h) hr
theorem envOk_consx {g : FuncId} {s : FSpec} {r : List (Nat × FSpec)} (h : XSpec P g s) (hr : EnvOk P (envL r)) : EnvOk P (envL ((g, s) :: r)) := envOk_cons' (.inr h) hr
end
end Go.GG
