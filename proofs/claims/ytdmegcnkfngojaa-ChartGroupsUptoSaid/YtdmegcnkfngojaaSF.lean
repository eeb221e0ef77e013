/- The theorem of sets: the plain law. -/
import Derived.Test.YtdmegcnkfngojaaSE
open Go Go.GG
set_option linter.unusedVariables false
namespace Go.Proofs.Ytdmegcnkfngojaa.gg.sp
theorem formB_of {l : List Sp} (hn : l.length ≤ 64) (hm : ∀ s ∈ l, mayS s = true) (hg : l.Pairwise Ah) : formB l = true := by
  simp only [formB, Bool.and_eq_true, decide_eq_true_eq]
  refine ⟨by omega, allB_iff.2 fun i hi => ?_⟩
  simp only [okF, Bool.and_eq_true, Bool.or_eq_true, decide_eq_true_eq]
  rw [getD_lt hi]
  refine ⟨hm _ (List.getElem_mem hi), ?_⟩
  by_cases h0 : i = 0
  · exact .inl h0
  · rw [getD_lt (by omega : i - 1 < l.length)]
    exact .inr (ahB_iff.2 (List.pairwise_iff_getElem.1 hg (i - 1) i (by omega) hi (by omega)))
theorem formB_may {l : List Sp} (h : formB l = true) : ∀ s ∈ l, mayS s = true := by
  intro s hs
  obtain ⟨i, hi, rfl⟩ := List.getElem_of_mem hs
  simp only [formB, Bool.and_eq_true] at h
  have := allB_iff.1 h.2 i hi
  simp only [okF, Bool.and_eq_true] at this
  rw [getD_lt hi] at this
  exact this.1
/-- Ends that are not too long. -/
def Short (s : Sp) : Prop := s.1.length ≤ 64 ∧ s.2.length ≤ 64
theorem mayS_iff {s : Sp} : mayS s = true ↔ Short s ∧ ne s := by
  simp only [mayS, Bool.and_eq_true, Bool.or_eq_true, beq_iff_eq, decide_eq_true_eq, Short, ne]
  constructor
  · rintro ⟨a, b, c⟩; exact ⟨⟨by omega, by omega⟩, c⟩
  · rintro ⟨⟨a, b⟩, c⟩; exact ⟨by omega, by omega, c⟩
theorem add_short : ∀ (r : List Sp) (t : AS), Short t.1 → (∀ x ∈ t.2.1 ++ t.2.2, Short x) → (∀ x ∈ r, Short x) → Short (r.foldl addStep t).1 ∧ ∀ x ∈ (r.foldl addStep t).2.1 ++ (r.foldl addStep t).2.2, Short x
  | [], t, h1, h2, _ => ⟨h1, h2⟩
  | x :: r, ⟨s, lo, hi⟩, h1, h2, h3 => by
    rw [List.foldl_cons]
    have hx := h3 x (by simp)
    refine add_short r _ ?_ ?_ (fun y hy => h3 y (by simp [hy]))
    · unfold addStep join
      simp only
      cases ahB x.2 s.1 with
      | true => exact h1
      | false =>
        cases ahB s.2 x.1 with
        | true => exact h1
        | false =>
          refine ⟨?_, ?_⟩
          · show (strMin s.1 x.1).length ≤ 64
            unfold strMin
            cases (strLess s.1 x.1 || s.1 == x.1)
            · exact hx.1
            · exact h1.1
          · show (maxE s.2 x.2).length ≤ 64
            unfold maxE
            cases beB s.2 x.2
            · exact h1.2
            · exact hx.2
    · intro y hy
      unfold addStep at hy
      simp only at hy h2
      cases h4 : ahB x.2 s.1 with
      | true =>
        rw [h4] at hy
        simp only [cond_true, List.mem_append, List.mem_singleton] at hy
        rcases hy with (hy | rfl) | hy
        · exact h2 y (by simp [hy])
        · exact hx
        · exact h2 y (by simp [hy])
      | false =>
        rw [h4] at hy
        cases h5 : ahB s.2 x.1 with
        | true =>
          rw [h5] at hy
          simp only [cond_true, cond_false, List.mem_append, List.mem_singleton] at hy
          rcases hy with hy | hy | rfl
          · exact h2 y (by simp [hy])
          · exact h2 y (by simp [hy])
          · exact hx
        | false =>
          rw [h5] at hy
          simp only [cond_false] at hy
          exact h2 y hy
theorem addF_form {l : List Sp} {s : Sp} (hl : formB l = true) (hs : mayS s = true) (hn : (addF l s).length ≤ 64) : formB (addF l s) = true := by
  obtain ⟨c, _⟩ := addF_ok hl hs
  refine formB_of hn (fun x hx => mayS_iff.2 ⟨?_, c.ne x hx⟩) c.gap
  obtain ⟨h1, h2⟩ := add_short l (s, [], []) (mayS_iff.1 hs).1 (by simp) (fun x hx => (mayS_iff.1 (formB_may hl x hx)).1)
  unfold addF at hx
  simp only [List.mem_append, List.mem_cons] at hx
  rcases hx with hx | rfl | hx
  · exact h2 x (by simp [hx])
  · exact h1
  · exact h2 x (by simp [hx])
end Go.Proofs.Ytdmegcnkfngojaa.gg.sp
