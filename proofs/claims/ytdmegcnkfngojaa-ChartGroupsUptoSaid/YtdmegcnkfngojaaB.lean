/- Charts turned. -/
import Derived.Test.YtdmegcnkfngojaaA
open Go Go.GG
set_option linter.unusedVariables false
namespace Go.Proofs.Ytdmegcnkfngojaa.gg
/-- A chart of which ranges from one on are others, of the next epoch. -/
def outOf (l : List Rg) (a b : Nat) (w : List Sp) (gs : List Int) : List Rg := l.take a ++ (w.zip gs).map (fun x => (x.1, x.2, ver l + 1)) ++ l.drop b
def turn (l : List Rg) (a b : Nat) (w : List Rg) : List Rg := l.take a ++ w.map (fun r => ((r.1, r.2.1, ver l + 1) : Rg)) ++ l.drop b
def told (l : List Rg) (a b : Nat) (w : List Rg) : List Rg × Int :=
  if (turn l a b w).length > 64 ∨ ver l + 1 > 4611686018427387904 then ([], 2) else (turn l a b w, 0)
theorem mapstep {w : List Rg} {n : Int} {base : List Rg} {i : Nat} (h : i < w.length) : base ++ (w.take (i + 1)).map (fun r => ((r.1, r.2.1, n) : Rg)) = base ++ (w.take i).map (fun r => ((r.1, r.2.1, n) : Rg)) ++ [((nth w i rg0).1, (nth w i rg0).2.1, n)] := by
  rw [take_succ' h, List.map_append, getD_lt h, List.append_assoc]; rfl
theorem cut0 {α : Type} (l : List α) (a : Nat) : cut l 0 (a : Int) = l.take a := by simp [cut]
theorem cutto {α : Type} (l : List α) (b : Nat) : cut l (b : Int) (l.length : Int) = l.drop b := by simp [cut]
theorem chTurned_eq {l : List Rg} (h : ChOk l) {a b : Nat} (ha : a ≤ b) (hb : b ≤ l.length) {w : List Rg} (hw : w.length ≤ 2) : chart_turned' l (a : Int) (b : Int) w = some (told l a b w) := by
  have hl := h.len2
  obtain ⟨v0, v1⟩ := ver_le h
  unfold chart_turned'
  rw [chVersion_eq (by omega), chMay_iff.2 h]
  simp only [cond_true, Option.bind_some, Bool.true_and]
  rw [decide_eq_true (by omega : (0 : Int) ≤ (a : Int)), decide_eq_true (by omega : (a : Int) ≤ (l.length : Int)), u64_in (by omega) (by omega), cut0]
  simp only [Bool.and_self, cond_true, slices_Clone_api_Range_api_Range', List.nil_append]
  rw [room_of (by simp; omega)]
  simp only [cond_true, Option.bind_some]
  have key : ∀ (i : Nat) (s : List Rg), i ≤ w.length → s = l.take a ++ (w.take i).map (fun r => ((r.1, r.2.1, ver l + 1) : Rg)) → chart_turned_p10' l (b : Int) (ver l + 1) w (w.length : Int) (i : Int) s = some (l, (b : Int), ver l + 1, l.take a ++ w.map (fun r => ((r.1, r.2.1, ver l + 1) : Rg))) := by
    apply loop_inv w.length (fun i s => chart_turned_p10' l (b : Int) (ver l + 1) w (w.length : Int) (i : Int) s) (fun i s => s = l.take a ++ (w.take i).map (fun r => ((r.1, r.2.1, ver l + 1) : Rg))) (fun r => r = some (l, (b : Int), ver l + 1, l.take a ++ w.map (fun r => ((r.1, r.2.1, ver l + 1) : Rg))))
    · rintro i s hi rfl
      refine .inl ⟨_, ?_, rfl⟩
      try dsimp only
      rw [chart_turned_p10_eq, decide_eq_true (by omega : (i : Int) < (w.length : Int)), at?_getD hi rg0, wrap_succ (by omega), mapstep hi]
      simp only [cond_true, Option.bind_some]
      rw [room_of (by simp; omega)]; rfl
    · rintro s rfl
      try dsimp only
      rw [chart_turned_p10_eq, decide_eq_false (by omega : ¬ (w.length : Int) < (w.length : Int)), List.take_length]; rfl
  have := key 0 (l.take a) (by omega) (by simp)
  simp only [show ((0 : Nat) : Int) = 0 from rfl] at this
  rw [this]
  simp only [Option.bind_some]
  rw [decide_eq_true (by omega : (0 : Int) ≤ (b : Int)), decide_eq_true (by omega : (b : Int) ≤ (l.length : Int)), decide_eq_true (Int.le_refl _), cutto]
  simp only [Bool.and_self, cond_true]
  have hlen : (l.take a ++ w.map (fun r => ((r.1, r.2.1, ver l + 1) : Rg)) ++ l.drop b).length ≤ 66 := by simp; omega
  rw [room_of (by omega), cond_true]
  unfold told turn
  by_cases h1 : (l.take a ++ w.map (fun r => ((r.1, r.2.1, ver l + 1) : Rg)) ++ l.drop b).length > 64
  · rw [decide_eq_true (by omega), if_pos (.inl h1)]; rfl
  · rw [decide_eq_false (by omega)]
    by_cases h2 : ver l + 1 > 4611686018427387904
    · rw [decide_eq_true h2, if_pos (.inr h2)]; rfl
    · rw [decide_eq_false h2, if_neg (by rintro (h | h); exact h1 h; exact h2 h)]; rfl
theorem told_congr {l : List Rg} {a b : Nat} {w w' : List Rg} (h : w.map (fun r => (r.1, r.2.1)) = w'.map (fun r => (r.1, r.2.1))) : told l a b w = told l a b w' := by
  have : ∀ n : Int, w.map (fun r => ((r.1, r.2.1, n) : Rg)) = w'.map (fun r => ((r.1, r.2.1, n) : Rg)) := by
    intro n
    have e : ∀ v : List Rg, v.map (fun r => ((r.1, r.2.1, n) : Rg)) = (v.map (fun r => (r.1, r.2.1))).map (fun p => ((p.1, p.2, n) : Rg)) := by intro v; simp
    rw [e w, e w', h]
  unfold told turn
  rw [this]
theorem has_nil {r : Sp} (h : spHas r [] = true) : r.1 = [] := by
  simp only [spHas, Bool.and_eq_true] at h
  exact leS_antisymm h.1 (leS_nil _)
/-- What a split, a merge, a move tell. -/
def splitOf (l : List Rg) (k : Str) : List Rg × Int :=
  if chMay l = true ∧ (k.length : Int) ≤ 64 then
    (let r := nth l (findIx l k) rg0
     if r.1.1 = k then ([], 6) else told l (findIx l k) (findIx l k + 1) [((r.1.1, k), r.2.1, 0), ((k, r.1.2), r.2.1, 0)]) else ([], 1)
def mergeOf (l : List Rg) (k : Str) : List Rg × Int :=
  if chMay l = true ∧ (k.length : Int) ≤ 64 then
    (let i := findIx l k
     if i = 0 then ([], 4) else if (nth l i rg0).1.1 ≠ k then ([], 4) else if (nth l (i - 1) rg0).2.1 ≠ (nth l i rg0).2.1 then ([], 10)
     else told l (i - 1) (i + 1) [(((nth l (i - 1) rg0).1.1, (nth l i rg0).1.2), (nth l i rg0).2.1, 0)]) else ([], 1)
def moveOf (l : List Rg) (k : Str) (g : Int) : List Rg × Int :=
  if chMay l = true ∧ (k.length : Int) ≤ 64 ∧ 1 ≤ g ∧ g ≤ 16 then
    (let i := findIx l k
     if (nth l i rg0).2.1 = g then ([], 6) else told l i (i + 1) [((nth l i rg0).1, g, 0)]) else ([], 1)
theorem chSplit_eq {l : List Rg} (hl : l.length ≤ 1048576) (k : Str) : chart_Split' l k = some (splitOf l k) := by
  unfold chart_Split' splitOf
  rw [chFind_eq hl]
  cases hm : chMay l with
  | false => simp
  | true =>
    have h := chMay_iff.1 hm
    by_cases hk : (k.length : Int) ≤ 64
    · obtain ⟨_, hi, hh, _⟩ := findIx_spec h k
      rw [decide_eq_true hk, if_pos ⟨rfl, hk⟩]
      simp only [Bool.and_self, cond_true, Option.bind_some, bne_self_eq_false, cond_false, at?_getD hi rg0, span_Split', spmay_eq, (h.each _ hi).1, Bool.not_true, decide_eq_false (by omega : ¬ (k.length : Int) > 64), spHas_eq, decide_eq_true hk, hh]
      by_cases e : (nth l (findIx l k) rg0).1.1 = k
      · rw [if_pos e]
        have : (k == (nth l (findIx l k) rg0).1.1) = true := by simp [e]
        rw [this]; rfl
      · rw [if_neg e]
        have : (k == (nth l (findIx l k) rg0).1.1) = false := by simp; exact fun h => e h.symm
        rw [this]
        simp only [cond_false, bne_self_eq_false, Option.bind_some]
        rw [wrap_succ (by omega), chTurned_eq h (by omega) (by omega) (by simp)]; rfl
    · rw [decide_eq_false hk, if_neg (fun h => hk h.2)]; rfl
theorem chMove_eq {l : List Rg} (hl : l.length ≤ 1048576) (k : Str) (g : Int) : chart_Move' l k g = some (moveOf l k g) := by
  unfold chart_Move' moveOf
  rw [chFind_eq hl]
  cases hm : chMay l with
  | false => simp
  | true =>
    have h := chMay_iff.1 hm
    by_cases hk : (k.length : Int) ≤ 64
    · obtain ⟨_, hi, hh, _⟩ := findIx_spec h k
      rw [decide_eq_true hk]
      simp only [Bool.and_self, cond_true, Option.bind_some, bne_self_eq_false, cond_false, group_eq, grp]
      by_cases hg : 1 ≤ g ∧ g ≤ 16
      · rw [decide_eq_true hg.1, decide_eq_true hg.2, if_pos ⟨trivial, hk, hg.1, hg.2⟩]
        simp only [Bool.and_self, Bool.not_true, cond_false, at?_getD hi rg0, Option.bind_some]
        by_cases e : (nth l (findIx l k) rg0).2.1 = g
        · rw [if_pos e]
          have : ((nth l (findIx l k) rg0).2.1 == g) = true := by simp [e]
          rw [this]; rfl
        · rw [if_neg e]
          have : ((nth l (findIx l k) rg0).2.1 == g) = false := by simp; exact e
          rw [this]
          simp only [cond_false]
          rw [wrap_succ (by omega), chTurned_eq h (by omega) (by omega) (by simp)]; rfl
      · rw [if_neg (fun h => hg h.2.2)]
        have : (decide (g ≥ 1) && decide (g ≤ 16)) = false := by
          cases hh : (decide (g ≥ 1) && decide (g ≤ 16)) with
          | false => rfl
          | true => simp at hh; exact absurd ⟨hh.1, hh.2⟩ hg
        rw [this]; rfl
    · rw [decide_eq_false hk, if_neg (fun h => hk h.2.1)]; rfl
theorem told_len (l : List Rg) (a b : Nat) (w : List Rg) : (told l a b w).1.length ≤ 64 := by
  unfold told
  split
  · simp
  · simp only; omega
theorem splitOf_len (l : List Rg) (k : Str) : (splitOf l k).1.length ≤ 64 := by
  unfold splitOf
  split
  · simp only
    split
    · simp
    · exact told_len _ _ _ _
  · simp
theorem mergeOf_len (l : List Rg) (k : Str) : (mergeOf l k).1.length ≤ 64 := by
  unfold mergeOf
  split
  · simp only
    split
    · simp
    split
    · simp
    split
    · simp
    · exact told_len _ _ _ _
  · simp
theorem moveOf_len (l : List Rg) (k : Str) (g : Int) : (moveOf l k g).1.length ≤ 64 := by
  unfold moveOf
  split
  · simp only
    split
    · simp
    · exact told_len _ _ _ _
  · simp
end Go.Proofs.Ytdmegcnkfngojaa.gg
