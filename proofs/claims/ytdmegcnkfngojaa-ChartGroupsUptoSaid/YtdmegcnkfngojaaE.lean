/- Which keys a group owns: the ranges added one by one, and those that meet joined. -/
import Derived.Test.YtdmegcnkfngojaaD
import Derived.Test.YtdmegcnkfngojaaSF
open Go Go.GG
set_option linter.unusedVariables false
namespace Go.Proofs.Ytdmegcnkfngojaa.gg
/-- One range more of a group's. -/
def ownStep (g : Int) (u : List Sp) (r : Rg) : List Sp := bif r.2.1 == g then (bif !(sp.formB u && sp.mayS r.1) then (([] : List Sp), (1 : Int)) else sp.toldB (sp.addF u r.1)).1 else u
theorem own_inv {l : List Rg} (h : ∀ r ∈ l, GoodR r) (hl : l.length ≤ 64) (g : Int) : ∀ i, i ≤ l.length → sp.formB ((l.take i).foldl (ownStep g) []) = true ∧ ((l.take i).foldl (ownStep g) []).length ≤ i ∧
    ∀ k, sp.inL ((l.take i).foldl (ownStep g) []) k = (l.take i).any fun r => r.2.1 == g && spHas r.1 k := by
  intro i
  induction i with
  | zero => intro _; exact ⟨rfl, by simp, fun k => rfl⟩
  | succ i ih =>
    intro hi
    obtain ⟨h1, h2, h3⟩ := ih (by omega)
    have hg := h l[i] (List.getElem_mem _)
    rw [take_succ' (by omega : i < l.length), List.foldl_append]
    generalize (l.take i).foldl (ownStep g) [] = u at *
    simp only [List.foldl_cons, List.foldl_nil, List.any_append, List.any_cons, List.any_nil, Bool.or_false]
    unfold ownStep
    have hm : sp.mayS l[i].1 = true := hg.may
    cases hc : (l[i].2.1 == g) with
    | false => exact ⟨h1, by simp only [cond_false]; omega, fun k => by simp only [cond_false, Bool.false_and, Bool.or_false]; exact h3 k⟩
    | true =>
      rw [h1, hm]
      simp only [Bool.and_self, Bool.not_true, cond_false, cond_true]
      have hlen : (sp.addF u l[i].1).length ≤ u.length + 1 := by
        have := sp.add_len u (l[i].1, [], [])
        unfold sp.addF
        simp only [List.length_append, List.length_cons, List.length_nil] at this ⊢
        omega
      unfold sp.toldB
      rw [decide_eq_false (by omega)]
      simp only [cond_false]
      refine ⟨sp.addF_form h1 hm (by omega), by omega, fun k => ?_⟩
      rw [(sp.addF_ok h1 hm).2 k, h3 k, Bool.true_and]
      rfl
def ownedOf (l : List Rg) (g : Int) : List Sp := l.foldl (ownStep g) []
theorem Owned_eq {l : List Rg} (h : ChOk l) (g : Int) : chart_Owned' l g = some (ownedOf l g) := by
  have hl := h.len2
  have hinv := own_inv (fun r hr => mem_epoch h hr) hl g
  unfold chart_Owned' ownedOf
  rw [chCheck_eq (by omega), chMay_iff.2 h]
  simp only [cond_true, Option.bind_some, bne_self_eq_false, cond_false]
  have key := fold_loop l (ownStep g) [] (fun i u => chart_Owned_p16' u g l (l.length : Int) (i : Int)) (out := fun u => some u) (fun i hi => by
    try dsimp only
    obtain ⟨h1, h2, h3⟩ := hinv i (by omega)
    generalize (l.take i).foldl (ownStep g) [] = u at *
    rw [chart_Owned_p16_eq, decide_eq_true (by omega : (i : Int) < (l.length : Int)), at?_lt hi, wrap_succ (by omega)]
    simp only [cond_true, Option.bind_some]
    rw [sp.Add_eq (by omega)]
    unfold ownStep
    cases (l[i].2.1 == g) <;> rfl) (by
    try dsimp only
    rw [chart_Owned_p16_eq, decide_eq_false (by omega : ¬ (l.length : Int) < (l.length : Int))]; rfl)
  simp only [show ((0 : Nat) : Int) = 0 from rfl] at key
  rw [key]
  rfl
/-- The same, said otherwise: a range that begins where the last ends lengthens it. -/
def refStep (g : Int) (u : List Sp) (r : Rg) : List Sp := bif r.2.1 == g then (match u.getLast? with
  | none => u ++ [r.1]
  | some s => bif s.2 == r.1.1 then u.dropLast ++ [(s.1, r.1.2)] else u ++ [r.1]) else u
theorem refStep_len (g : Int) (u : List Sp) (r : Rg) : (refStep g u r).length ≤ u.length + 1 := by
  unfold refStep
  cases r.2.1 == g with
  | false => simp
  | true =>
    simp only [cond_true]
    split
    · simp
    · rename_i s hs
      cases s.2 == r.1.1 with
      | false => simp
      | true => simp only [cond_true, List.length_append, List.length_dropLast, List.length_singleton]; omega
theorem refFold_len (g : Int) : ∀ (l : List Rg) (u : List Sp), (l.foldl (refStep g) u).length ≤ u.length + l.length
  | [], u => Nat.le_refl _
  | r :: l, u => by
    have h1 := refFold_len g l (refStep g u r)
    have h2 := refStep_len g u r
    simp only [List.foldl_cons, List.length_cons]
    omega
theorem canon_snoc {v : List Sp} {s : Sp} : sp.Canon (v ++ [s]) ↔ sp.Canon v ∧ sp.ne s ∧ ∀ x ∈ v, sp.Ah x s := by
  constructor
  · intro h
    obtain ⟨h1, _, h3⟩ := List.pairwise_append.1 h.gap
    exact ⟨⟨fun x hx => h.ne x (by simp [hx]), h1⟩, h.ne s (by simp), fun x hx => h3 x hx s (by simp)⟩
  · rintro ⟨h1, h2, h3⟩
    refine ⟨fun x hx => ?_, List.pairwise_append.2 ⟨h1.gap, List.pairwise_singleton _ _, fun x hx y hy => ?_⟩⟩
    · rcases List.mem_append.1 hx with hx | hx
      · exact h1.ne x hx
      · rw [List.mem_singleton.1 hx]; exact h2
    · rw [List.mem_singleton.1 hy]; exact h3 x hx
theorem own_ref (g : Int) {z : Str} : ∀ (l : List Rg) (a : Str) (u : List Sp), Seg a l z → sp.Canon u → (l = [] ∨ ∀ s ∈ u, s.2 ≠ [] ∧ leS s.2 a = true) →
    sp.Canon (l.foldl (refStep g) u) ∧ ∀ k, sp.inL (l.foldl (refStep g) u) k = (sp.inL u k || l.any fun r => r.2.1 == g && spHas r.1 k)
  | [], a, u, _, h, _ => ⟨h, fun k => by simp⟩
  | r :: l, a, u, hs, h, hu => by
    simp only [Seg] at hs
    obtain ⟨ha, hg, hn, hs⟩ := hs
    replace hu := hu.resolve_left (by simp)
    have hne : sp.ne r.1 := sp.mayS_ne hg.may
    have hlt : l = [] ∨ (r.1.2 ≠ [] ∧ strLess a r.1.2 = true) := by
      rcases hn with hn | hn
      · exact .inl hn
      · exact .inr ⟨hn, by rw [← ha]; exact hne.resolve_left hn⟩
    have hold : l = [] ∨ ∀ s ∈ u, s.2 ≠ [] ∧ leS s.2 r.1.2 = true := by
      rcases hlt with hn | ⟨_, hn⟩
      · exact .inl hn
      · exact .inr fun s hs => ⟨(hu s hs).1, leS_trans (hu s hs).2 (leS_of_less hn)⟩
    simp only [List.foldl_cons, List.any_cons]
    cases hc : (r.2.1 == g) with
    | false =>
      have e : refStep g u r = u := by unfold refStep; rw [hc]; rfl
      rw [e]
      obtain ⟨h1, h2⟩ := own_ref g l r.1.2 u hs h hold
      exact ⟨h1, fun k => by rw [h2 k, Bool.false_and, Bool.false_or]⟩
    | true =>
      have step : ∀ v : List Sp, refStep g u r = v → sp.Canon v → (l = [] ∨ ∀ s ∈ v, s.2 ≠ [] ∧ leS s.2 r.1.2 = true) → (∀ k, sp.inL v k = (sp.inL u k || spHas r.1 k)) →
          sp.Canon (l.foldl (refStep g) (refStep g u r)) ∧ ∀ k, sp.inL (l.foldl (refStep g) (refStep g u r)) k = (sp.inL u k || (true && spHas r.1 k || l.any fun r => r.2.1 == g && spHas r.1 k)) := by
        intro v e hv hb hk
        rw [e]
        obtain ⟨h1, h2⟩ := own_ref g l r.1.2 v hs hv hb
        exact ⟨h1, fun k => by rw [h2 k, hk k, Bool.true_and, Bool.or_assoc]⟩
      have app : (∀ x ∈ u, sp.Ah x r.1) → refStep g u r = u ++ [r.1] → sp.Canon (l.foldl (refStep g) (refStep g u r)) ∧ ∀ k, sp.inL (l.foldl (refStep g) (refStep g u r)) k = (sp.inL u k || (true && spHas r.1 k || l.any fun r => r.2.1 == g && spHas r.1 k)) := by
        intro hah e
        refine step _ e (canon_snoc.2 ⟨h, hne, hah⟩) ?_ fun k => ?_
        · rcases hold with hn | hn
          · exact .inl hn
          · rcases hlt with hh | ⟨h3, _⟩
            · exact .inl hh
            · refine .inr fun s hs => ?_
              rcases List.mem_append.1 hs with hs | hs
              · exact hn s hs
              · rw [List.mem_singleton.1 hs]; exact ⟨h3, leS_refl _⟩
        · rw [sp.inL_append]; simp only [sp.inL, List.any_cons, List.any_nil, Bool.or_false]; rfl
      rcases List.eq_nil_or_concat u with rfl | ⟨v, s, rfl⟩
      · exact app (fun x hx => by cases hx) (by unfold refStep; rw [hc]; rfl)
      · rw [List.concat_eq_append] at *
        obtain ⟨hv, hsn, hva⟩ := canon_snoc.1 h
        have hs2 := hu s (by simp)
        have hss := hsn.resolve_left hs2.1
        cases he : (s.2 == r.1.1) with
        | false =>
          have hlt2 : strLess s.2 r.1.1 = true := by
            rcases leS_iff.1 hs2.2 with h3 | h3
            · rw [ha]; exact h3
            · rw [h3, ← ha, beq_self_eq_true] at he; cases he
          refine app (fun x hx => ?_) (by unfold refStep; rw [hc]; simp [he])
          rcases List.mem_append.1 hx with hx | hx
          · exact sp.Ah.trans (hva x hx) hsn ⟨hs2.1, hlt2⟩
          · rw [List.mem_singleton.1 hx]; exact ⟨hs2.1, hlt2⟩
        | true =>
          have he' := eq_of_beq he
          have hn2 : sp.ne (s.1, r.1.2) := by
            rcases hne with h3 | h3
            · exact .inl h3
            · exact .inr (strLess_trans hss (by rw [he']; exact h3))
          refine step (v ++ [(s.1, r.1.2)]) (by unfold refStep; rw [hc]; simp [he]) (canon_snoc.2 ⟨hv, hn2, fun x hx => hva x hx⟩) ?_ fun k => ?_
          · rcases hold with hn | hn
            · exact .inl hn
            · rcases hlt with hh | ⟨h3, _⟩
              · exact .inl hh
              · refine .inr fun x hx => ?_
                rcases List.mem_append.1 hx with hx | hx
                · exact hn x (by simp [hx])
                · rw [List.mem_singleton.1 hx]; exact ⟨h3, leS_refl _⟩
          · rw [sp.inL_append, sp.inL_append, Bool.or_assoc]
            congr 1
            simp only [sp.inL, List.any_cons, List.any_nil, Bool.or_false]
            show sp.has (s.1, r.1.2) k = (sp.has s k || sp.has r.1 k)
            rw [Bool.eq_iff_iff, Bool.or_eq_true, sp.has_iff, sp.has_iff, sp.has_iff]
            constructor
            · rintro ⟨h3, h4⟩
              by_cases h5 : strLess k s.2 = true
              · exact .inl ⟨h3, .inr h5⟩
              · exact .inr ⟨by rw [← he']; exact leS_iff'.2 (by simpa using h5), h4⟩
            · rintro (⟨h3, h4⟩ | ⟨h3, h4⟩)
              · refine ⟨h3, ?_⟩
                rcases hne with h6 | h6
                · exact .inl h6
                · exact .inr (strLess_trans (h4.resolve_left hs2.1) (by rw [he']; exact h6))
              · exact ⟨leS_trans (leS_of_less hss) (by rw [he']; exact h3), h4⟩
theorem owned_same {l : List Rg} (h : ChOk l) (g : Int) : l.foldl (refStep g) [] = ownedOf l g := by
  obtain ⟨_, _, hs⟩ := chOk_seg.1 h
  obtain ⟨h1, h2⟩ := own_ref g l [] [] hs ⟨fun x hx => (by cases hx), List.Pairwise.nil⟩ (.inr fun s hs => (by cases hs))
  obtain ⟨h3, _, h4⟩ := own_inv (fun r hr => mem_epoch h hr) h.len2 g l.length (Nat.le_refl _)
  rw [List.take_length] at h3 h4
  exact sp.canon_ext h1 (sp.formB_canon h3) fun k => (h2 k).trans (h4 k).symm
end Go.Proofs.Ytdmegcnkfngojaa.gg
