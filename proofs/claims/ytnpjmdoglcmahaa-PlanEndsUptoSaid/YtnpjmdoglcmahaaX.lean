/- What comes of any turn: the plain law. -/
import Derived.Test.YtnpjmdoglcmahaaC
open Go Go.GG
set_option linter.unusedVariables false
namespace Go.Proofs.Ytnpjmdoglcmahaa.gg
theorem planOk_chart {l : List Rg} {ps : List Pl} (h : planOk l ps = true) : chMay l = true := by
  simp only [planOk, Bool.and_eq_true] at h
  exact h.1
theorem planOk_one {l : List Rg} {ps : List Pl} (h : planOk l ps = true) : ps = [] ∨ ∃ p, ps = [p] ∧ pmay p = true := by
  simp only [planOk, Bool.and_eq_true] at h
  match ps, h.2 with
  | [], _ => exact .inl rfl
  | [p], h => exact .inr ⟨p, rfl, by simp only [Bool.and_eq_true] at h; exact h.1⟩
  | _ :: _ :: _, h => cases h
def startOf (l : List Rg) (ps : List Pl) (id : Int) (k : Str) (g : Int) : List Pl × Int :=
  bif !planOk l ps || (id == 0 || (!decide ((k.length : Int) ≤ 64) || (decide (g < 1) || decide (g > 16)))) then ([], 1) else
    bif decide ((ps.length : Int) > 0) then ([], 9) else bif (nth l (findIx l k) rg0).2.1 == g then ([], 6) else ([(id, ((nth l (findIx l k) rg0).1, ((nth l (findIx l k) rg0).2.1, (g, 1))))], 0)
theorem Start_eq {l : List Rg} (hl : l.length ≤ 1048576) (ps : List Pl) (id : Int) (k : Str) (g : Int) : plan_Start' l ps id k g = some (startOf l ps id k g) := by
  unfold plan_Start' startOf
  rw [chFind_eq hl, pCheck_eq hl]
  simp only [Option.bind_some]
  cases hp : planOk l ps with
  | false => rfl
  | true =>
    have hm := planOk_chart hp
    have h := chMay_iff.1 hm
    rw [hm]
    simp only [cond_true, bne_self_eq_false, cond_false, Bool.true_and, Bool.not_true, Bool.false_or]
    cases (id == 0) with
    | true => rfl
    | false =>
      simp only [cond_false, Bool.false_or]
      cases hk : decide ((k.length : Int) ≤ 64) with
      | false => rfl
      | true =>
        obtain ⟨_, hi, _⟩ := findIx_spec h k
        simp only [cond_true, bne_self_eq_false, cond_false, Bool.not_true, Bool.false_or, at?_getD hi rg0, Option.bind_some]
        cases decide (g < 1) <;> cases decide (g > 16) <;> cases decide ((ps.length : Int) > 0) <;> cases ((nth l (findIx l k) rg0).2.1 == g) <;> rfl
theorem gt64' (n : Int) : decide (n > 64) = !decide (n ≤ 64) := by
  by_cases h : n ≤ 64
  · rw [decide_eq_true h, decide_eq_false (by omega)]; rfl
  · rw [decide_eq_false h, decide_eq_true (by omega)]; rfl
theorem refStart_eq {l : List Rg} (hl : l.length ≤ 1048576) (ps : List Pl) (id : Int) (k : Str) (g : Int) : ref21_Start' l ps id k g = some (startOf l ps id k g) := by
  unfold ref21_Start' startOf
  rw [refPMay_eq hl, gt64', refFind_eq hl]
  simp only [Option.bind_some]
  cases hp : planOk l ps with
  | false => rfl
  | true =>
    have hm := planOk_chart hp
    have h := chMay_iff.1 hm
    rw [hm]
    simp only [cond_false, Bool.true_and, Bool.not_true, Bool.false_or]
    cases (id == 0) with
    | true => rfl
    | false =>
      simp only [cond_false, Bool.false_or]
      cases hk : decide ((k.length : Int) ≤ 64) with
      | false => rfl
      | true =>
        obtain ⟨_, hi, _⟩ := findIx_spec h k
        simp only [cond_true, cond_false, Bool.not_true, Bool.false_or, at?_getD hi rg0, Option.bind_some]
        cases decide (g < 1) <;> cases decide (g > 16) <;> cases decide ((ps.length : Int) > 0) <;> cases ((nth l (findIx l k) rg0).2.1 == g) <;> rfl
def stepOf (l : List Rg) (ps : List Pl) (id st : Int) : List Rg × List Pl × Int :=
  bif !planOk l ps then ([], [], 1) else match ps with
    | [] => ([], [], 4)
    | p :: _ => bif p.1 != id then ([], [], 4) else bif decide (st ≤ p.2.2.2.2) then ([], [], 7) else bif decide (st > p.2.2.2.2 + 1) then ([], [], 1) else
        bif st == 6 then (l, [], 0) else bif st == 4 then (bif (moveOf l p.2.1.1 p.2.2.2.1).2 != 0 then ([], [], (moveOf l p.2.1.1 p.2.2.2.1).2) else ((moveOf l p.2.1.1 p.2.2.2.1).1, [(p.1, (p.2.1, (p.2.2.1, (p.2.2.2.1, st))))], 0)) else (l, [(p.1, (p.2.1, (p.2.2.1, (p.2.2.2.1, st))))], 0)
theorem pmay_step {p : Pl} (h : pmay p = true) : 1 ≤ p.2.2.2.2 ∧ p.2.2.2.2 ≤ 5 := by
  simp only [pmay, Bool.and_eq_true, decide_eq_true_eq] at h
  exact ⟨h.2.2.2.2.1, h.2.2.2.2.2⟩
theorem Step_eq {l : List Rg} (hl : l.length ≤ 1048576) (ps : List Pl) (id st : Int) : plan_Step' l ps id st = some (stepOf l ps id st) := by
  unfold plan_Step' stepOf
  rw [pCheck_eq hl]
  simp only [Option.bind_some]
  cases hp : planOk l ps with
  | false => rfl
  | true =>
    simp only [cond_true, bne_self_eq_false, cond_false, Bool.not_true]
    rcases planOk_one hp with rfl | ⟨p, rfl, hpm⟩
    · rfl
    · obtain ⟨s1, s2⟩ := pmay_step hpm
      have h0 : at? [p] 0 = some p := rfl
      simp only [List.length_singleton, h0, Option.bind_some]
      rw [show (((1 : Nat) : Int) == 0) = false from rfl]
      simp only [cond_false]
      cases (p.1 != id) with
      | true => rfl
      | false =>
        simp only [cond_false]
        by_cases h1 : st ≤ p.2.2.2.2
        · rw [decide_eq_true h1]; rfl
        · rw [decide_eq_false h1, i64_in (by omega) (by omega)]
          simp only [cond_false]
          by_cases h2 : st > p.2.2.2.2 + 1
          · have : (st != p.2.2.2.2 + 1) = true := by simp; omega
            rw [decide_eq_true h2, this]; rfl
          · have : (st != p.2.2.2.2 + 1) = false := by simp; omega
            rw [decide_eq_false h2, this]
            simp only [cond_false]
            have hlen : l.length ≤ 64 := (chMay_iff.1 (planOk_chart hp)).len2
            rw [slices_Clone_api_Range_api_Range_is l (by omega)]
            simp only [Option.bind_some]
            rw [chMove_eq hl]
            simp only [Option.bind_some]
            cases (st == 6) <;> cases (st == 4) <;> cases ((moveOf l p.2.1.1 p.2.2.2.1).2 != 0) <;> rfl
theorem refStep_eq {l : List Rg} (hl : l.length ≤ 1048576) (ps : List Pl) (id st : Int) : ref21_Step' l ps id st = some (stepOf l ps id st) := by
  unfold ref21_Step' stepOf
  rw [refPMay_eq hl]
  simp only [Option.bind_some]
  cases hp : planOk l ps with
  | false => rfl
  | true =>
    simp only [cond_false, Bool.not_true]
    rcases planOk_one hp with rfl | ⟨p, rfl, hpm⟩
    · rfl
    · obtain ⟨s1, s2⟩ := pmay_step hpm
      have h0 : at? [p] 0 = some p := rfl
      simp only [List.length_singleton, h0, Option.bind_some]
      rw [show (((1 : Nat) : Int) == 0) = false from rfl, i64_in (n := p.2.2.2.2 + 1) (by omega) (by omega), refMove_eq hl]
      simp only [cond_false, Option.bind_some]
      cases (p.1 != id) <;> cases decide (st ≤ p.2.2.2.2) <;> cases decide (st > p.2.2.2.2 + 1) <;> cases (st == 6) <;> cases (st == 4) <;> cases ((moveOf l p.2.1.1 p.2.2.2.1).2 != 0) <;> rfl
theorem split_key {l : List Rg} {k : Str} (h : ((splitOf l k).2 == 0) = true) : chMay l = true ∧ (k.length : Int) ≤ 64 := by
  unfold splitOf at h
  split at h
  · rename_i hh; exact hh
  · cases h
theorem merge_key {l : List Rg} {k : Str} (h : ((mergeOf l k).2 == 0) = true) : chMay l = true ∧ (k.length : Int) ≤ 64 ∧ findIx l k ≠ 0 := by
  unfold mergeOf at h
  split at h
  · rename_i hh
    refine ⟨hh.1, hh.2, fun e => ?_⟩
    simp only [e, if_true] at h
    cases h
  · cases h
def busyB (l : List Rg) (ps : List Pl) (k : Str) (ahead : Bool) : Bool := match ps with
  | [] => false
  | p :: _ => T.eqb (.pair .str .str) (nth l (findIx l k) rg0).1 p.2.1 || (ahead && (decide (findIx l k ≠ 0) && T.eqb (.pair .str .str) (nth l (findIx l k - 1) rg0).1 p.2.1))
theorem busy_eq {l : List Rg} (hl : l.length ≤ 1048576) (ps : List Pl) {k : Str} (hm : chMay l = true) (hk : (k.length : Int) ≤ 64) (a : Bool) : plan_busy' l ps k a = some (busyB l ps k a) := by
  have h := chMay_iff.1 hm
  obtain ⟨_, hi, _⟩ := findIx_spec h k
  unfold plan_busy' busyB
  rw [chFind_eq hl, hm, decide_eq_true hk]
  simp only [Bool.and_self, cond_true, Option.bind_some, bne_self_eq_false, cond_false]
  match ps with
  | [] => rfl
  | p :: r =>
    have h0 : at? (p :: r) 0 = some p := rfl
    have hz : (((p :: r : List Pl).length : Int) == 0) = false := by rw [beq_eq_false_iff_ne]; simp only [List.length_cons]; omega
    rw [hz]
    simp only [cond_false, at?_getD hi rg0, Option.bind_some, h0]
    cases T.eqb (.pair .str .str) (nth l (findIx l k) rg0).1 p.2.1 with
    | true => rfl
    | false =>
      cases a with
      | false => rfl
      | true =>
        by_cases hf : findIx l k = 0
        · rw [hf]; rfl
        · rw [decide_eq_true (by omega : (findIx l k : Int) > 0), wrap_pred (by omega) (by omega), at?_getD (by omega : findIx l k - 1 < l.length) rg0, decide_eq_true hf]
          rfl
def splitP (l : List Rg) (ps : List Pl) (k : Str) : List Rg × Int := bif !planOk l ps then ([], 1) else bif (splitOf l k).2 == 0 && busyB l ps k false then ([], 9) else splitOf l k
theorem pSplit_eq {l : List Rg} (hl : l.length ≤ 1048576) (ps : List Pl) (k : Str) : plan_Split' l ps k = some (splitP l ps k) := by
  unfold plan_Split' splitP
  rw [pCheck_eq hl, chSplit_eq hl]
  simp only [Option.bind_some]
  cases hp : planOk l ps with
  | false => rfl
  | true =>
    simp only [cond_true, bne_self_eq_false, cond_false, Bool.not_true]
    cases hs : ((splitOf l k).2 == 0) with
    | false => rfl
    | true =>
      obtain ⟨hm, hk⟩ := split_key hs
      rw [busy_eq hl ps hm hk]
      simp only [cond_true, Option.bind_some, Bool.true_and]
      cases busyB l ps k false <;> rfl
theorem refPSplit_eq {l : List Rg} (hl : l.length ≤ 1048576) (ps : List Pl) (k : Str) : ref21_Split' l ps k = some (splitP l ps k) := by
  unfold ref21_Split' splitP
  rw [refPMay_eq hl, refSplit_eq hl]
  simp only [Option.bind_some]
  cases hp : planOk l ps with
  | false => rfl
  | true =>
    simp only [cond_false, Bool.not_true]
    cases hs : ((splitOf l k).2 == 0) with
    | false => rfl
    | true =>
      obtain ⟨hm, hk⟩ := split_key hs
      have h := chMay_iff.1 hm
      obtain ⟨_, hi, _⟩ := findIx_spec h k
      rw [refFind_eq hl, hm, decide_eq_true hk]
      simp only [cond_true, Bool.and_self, Option.bind_some, Bool.true_and, at?_getD hi rg0]
      rcases planOk_one hp with rfl | ⟨p, rfl, _⟩
      · rfl
      · have h0 : at? [p] 0 = some p := rfl
        simp only [h0, Option.bind_some, List.length_singleton, busyB, Bool.false_and, Bool.or_false]
        rw [show decide (((1 : Nat) : Int) > 0) = true from rfl]
        simp only [cond_true]
        cases T.eqb (.pair .str .str) (nth l (findIx l k) rg0).1 p.2.1 <;> rfl
def mergeP (l : List Rg) (ps : List Pl) (k : Str) : List Rg × Int := bif !planOk l ps then ([], 1) else bif (mergeOf l k).2 == 0 && busyB l ps k true then ([], 9) else mergeOf l k
theorem pMerge_eq {l : List Rg} (hl : l.length ≤ 1048576) (ps : List Pl) (k : Str) : plan_Merge' l ps k = some (mergeP l ps k) := by
  unfold plan_Merge' mergeP
  rw [pCheck_eq hl, chMerge_eq hl]
  simp only [Option.bind_some]
  cases hp : planOk l ps with
  | false => rfl
  | true =>
    simp only [cond_true, bne_self_eq_false, cond_false, Bool.not_true]
    cases hs : ((mergeOf l k).2 == 0) with
    | false => rfl
    | true =>
      obtain ⟨hm, hk, _⟩ := merge_key hs
      rw [busy_eq hl ps hm hk]
      simp only [cond_true, Option.bind_some, Bool.true_and]
      cases busyB l ps k true <;> rfl
theorem refPMerge_eq {l : List Rg} (hl : l.length ≤ 1048576) (ps : List Pl) (k : Str) : ref21_Merge' l ps k = some (mergeP l ps k) := by
  unfold ref21_Merge' mergeP
  rw [refPMay_eq hl, refMerge_eq hl]
  simp only [Option.bind_some]
  cases hp : planOk l ps with
  | false => rfl
  | true =>
    simp only [cond_false, Bool.not_true]
    cases hs : ((mergeOf l k).2 == 0) with
    | false => rfl
    | true =>
      obtain ⟨hm, hk, hne⟩ := merge_key hs
      have h := chMay_iff.1 hm
      obtain ⟨_, hi, _⟩ := findIx_spec h k
      rw [refFind_eq hl, hm, decide_eq_true hk]
      simp only [cond_true, Bool.and_self, Option.bind_some, Bool.true_and, at?_getD hi rg0]
      rcases planOk_one hp with rfl | ⟨p, rfl, _⟩
      · rfl
      · have h0 : at? [p] 0 = some p := rfl
        rw [wrap_pred (by omega) (by omega), at?_getD (by omega : findIx l k - 1 < l.length) rg0]
        simp only [h0, Option.bind_some, List.length_singleton, busyB, Bool.true_and, decide_eq_true hne]
        rw [show decide (((1 : Nat) : Int) > 0) = true from rfl]
        simp only [cond_true]
        cases T.eqb (.pair .str .str) (nth l (findIx l k) rg0).1 p.2.1 <;> cases T.eqb (.pair .str .str) (nth l (findIx l k - 1) rg0).1 p.2.1 <;> rfl
theorem pSame_refl (a : List Pl) (hl : a.length ≤ 1048577) : ref21_Same' a a = some true := by
  have key := check_loop a.length (fun i => ref21_Same_p14' a a (i : Int)) (fun _ => true) (a := some (.inl ())) (b := some (.inr false)) (fun i hi => by
    try dsimp only
    rw [ref21_Same_p14_eq, decide_eq_true (by omega : (i : Int) < (a.length : Int)), at?_lt hi, wrap_succ (by omega)]
    simp only [cond_true, Option.bind_some]
    rw [(eqb_iff (t := .pair (.int .u64) (.pair (.pair .str .str) (.pair (.int .i64) (.pair (.int .i64) (.int .i64))))) rfl _ _).2 rfl]; rfl) (by
    try dsimp only
    rw [ref21_Same_p14_eq, decide_eq_false (by omega : ¬ (a.length : Int) < (a.length : Int))]; rfl)
  unfold ref21_Same'
  simp only [show ((0 : Nat) : Int) = 0 from rfl] at key
  rw [key, show allB a.length (fun _ => true) = true from allB_iff.2 fun _ _ => rfl]
  simp
theorem awake21_eq : law21_awake' = some true := law21_awake_lm.of_some 60 (by decide +kernel)
theorem start_len (l : List Rg) (ps : List Pl) (id : Int) (k : Str) (g : Int) : (startOf l ps id k g).1.length ≤ 1 := by
  unfold startOf
  cases (!planOk l ps || (id == 0 || (!decide ((k.length : Int) ≤ 64) || (decide (g < 1) || decide (g > 16))))) <;> cases decide ((ps.length : Int) > 0) <;> cases ((nth l (findIx l k) rg0).2.1 == g) <;> simp
theorem step_len {l : List Rg} (ps : List Pl) (id st : Int) : (stepOf l ps id st).2.1.length ≤ 1 ∧ (stepOf l ps id st).1.length ≤ l.length + 64 := by
  unfold stepOf
  cases planOk l ps with
  | false => simp
  | true =>
    match ps with
    | [] => simp
    | p :: _ =>
      simp only [Bool.not_true, cond_false]
      have := moveOf_len l p.2.1.1 p.2.2.2.1
      cases (p.1 != id) <;> cases decide (st ≤ p.2.2.2.2) <;> cases decide (st > p.2.2.2.2 + 1) <;> cases (st == 6) <;> cases (st == 4) <;> cases ((moveOf l p.2.1.1 p.2.2.2.1).2 != 0) <;> simp <;> omega
theorem law_PlanTurns (l : List Rg) (ps : List Pl) (t : Int × Int × List UInt8 × Int × Int) : ∃ k, law21_PlanTurns k l ps t = some true := by
  refine (law21_PlanTurns_lm l ps t).fin ?_
  unfold law21_PlanTurns'
  rw [awake21_eq]
  by_cases h80 : (l.length : Int) > 80
  · rw [decide_eq_true h80]; rfl
  · rw [decide_eq_false h80]
    cases decide ((ps.length : Int) > 5) with
    | true => rfl
    | false =>
      simp only [cond_false, Start_eq (by omega : l.length ≤ 1048576), refStart_eq (by omega : l.length ≤ 1048576), pCheck_eq (by omega : l.length ≤ 1048576), refPMay_eq (by omega : l.length ≤ 1048576), Option.bind_some, Step_eq (by omega : l.length ≤ 1048576), refStep_eq (by omega : l.length ≤ 1048576), pSplit_eq (by omega : l.length ≤ 1048576), refPSplit_eq (by omega : l.length ≤ 1048576), pMerge_eq (by omega : l.length ≤ 1048576), refPMerge_eq (by omega : l.length ≤ 1048576)]
      have e : (((cond (planOk l ps) (0 : Int) 1) == 0) == planOk l ps) = true := by cases planOk l ps <;> rfl
      have h1 := start_len l ps t.2.1 t.2.2.1 t.2.2.2.1
      have h2 := step_len (l := l) ps t.2.1 t.2.2.2.2
      have h3 : (splitP l ps t.2.2.1).1.length ≤ 64 := by
        have := splitOf_len l t.2.2.1
        unfold splitP
        cases planOk l ps <;> cases ((splitOf l t.2.2.1).2 == 0 && busyB l ps t.2.2.1 false) <;> simp <;> omega
      have h4 : (mergeP l ps t.2.2.1).1.length ≤ 64 := by
        have := mergeOf_len l t.2.2.1
        unfold mergeP
        cases planOk l ps <;> cases ((mergeOf l t.2.2.1).2 == 0 && busyB l ps t.2.2.1 true) <;> simp <;> omega
      rw [pSame_refl _ (by omega), pSame_refl _ (by omega), Same_eq (by omega), Same_eq (by omega), Same_eq (by omega), e]
      simp
end Go.Proofs.Ytnpjmdoglcmahaa.gg
