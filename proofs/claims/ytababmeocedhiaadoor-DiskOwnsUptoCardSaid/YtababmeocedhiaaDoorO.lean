/- What a disk with one file answers. -/
import Derived.Test.YtababmeocedhiaaDoorB
open Go Go.GG
set_option linter.unusedVariables false
namespace Go.Proofs.YtababmeocedhiaaDoor.gg
theorem owns_case (name : Str) {b : List Int} (hb : b.length ≤ 1048576) :
    (∃ r l, r ≠ 0 ∧ disk_Disk_Append' [] name b = some (r, l)) ∨
    (disk_Disk_Append' [] name b = some (0, [(name, (b, 0))]) ∧ disk_Disk_names' [(name, (b, 0))] = some ([name], [(name, (b, 0))]) ∧ disk_Disk_Read' [(name, (b, 0))] name = some (b, true, [(name, (b, 0))])) := by
  obtain ⟨m, e, hm⟩ := Append_is st_nil name hb
  by_cases h0 : (appF [] name b).2 = 0
  · refine .inr ?_
    have hL : (appF [] name b).1 = [(name, (b, 0))] := by
      unfold appF at h0 ⊢
      cases hn : nameOk name with
      | false => rw [hn] at h0; exact absurd h0 (by simp)
      | true =>
        rw [hn] at h0
        simp only [cond_true] at h0 ⊢
        have e0 : mfind (kt := .str) name ([] : FL) = none := rfl
        rw [e0] at h0 ⊢
        simp only at h0 ⊢
        split
        · rename_i hq; rw [if_pos hq] at h0; exact absurd h0 (by simp)
        · rfl
    rw [h0] at e
    rw [hL] at hm
    have one : ∀ {m : FL}, St m [(name, (b, 0))] → m = [(name, (b, 0))] := fun h => List.perm_singleton.1 h.rel.perm
    have hs := one hm
    subst hs
    refine ⟨e, ?_, ?_⟩
    · have := names_is hm
      simpa using this
    · obtain ⟨m', e', hm'⟩ := Read_is hm name
      have := one hm'
      subst this
      have h1 : mfind (kt := .str) name [(name, (b, (0 : Int)))] = some (b, 0) := by
        show (cond (name == name) _ _) = _
        simp
      unfold readF at e'
      rw [h1] at e'
      exact e'
  · exact .inl ⟨_, m, h0, e⟩
end Go.Proofs.YtababmeocedhiaaDoor.gg
