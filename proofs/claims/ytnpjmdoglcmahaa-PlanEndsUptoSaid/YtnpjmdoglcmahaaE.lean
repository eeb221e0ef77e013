/- A plan comes to its end: the plain law. -/
import Derived.Test.YtnpjmdoglcmahaaK
open Go Go.GG
set_option linter.unusedVariables false
namespace Go.Proofs.Ytnpjmdoglcmahaa.gg
theorem step_old {l : List Rg} {p : Pl} (hp : planOk l [p] = true) : stepOf l [p] p.1 p.2.2.2.2 = ([], [], 7) := by
  unfold stepOf
  rw [hp]
  simp only [Bool.not_true, cond_false, bne_self_eq_false]
  rw [decide_eq_true (Int.le_refl _)]
  rfl
theorem ends_step {l k : List Rg} {key : Str} {n : Int} {x : Int × Int} {p : Pl} {w : (List UInt8) × (List UInt8) × Int × Int} (hk : k.length ≤ 1048576) (hp : planOk k [p] = true) (hid : p.1 = 9) (hn : n < 10) {m : Int} (hm : IntKind.wrap .i64 (n + 1) = m) {st : Int} (hst : p.2.2.2.2 + 1 = st) :
    law21_PlanEnds_p28' l key 0 k n x [p] w = law21_PlanEnds_p28' l key (stepOf k [p] 9 st).2.2 (stepOf k [p] 9 st).1 m x (stepOf k [p] 9 st).2.1 w := by
  have P := pmay_iff.1 (planOk_single.1 hp).2.1
  have := P.s1; have := P.s2
  have ho := step_old hp
  rw [hid] at ho
  rw [law21_PlanEnds_p28_eq, decide_eq_true hn, hm]
  simp only [List.length_singleton]
  rw [show decide (((1 : Nat) : Int) > 0) = true from rfl, show ((0 : Int) == 0) = true from rfl, show decide ((0 : Int) ≤ 0) = true from rfl, show ([p] : List Pl)[Int.toNat 0]? = some p from rfl]
  simp only [Bool.and_self, cond_true, Option.bind_some]
  rw [Step_eq hk, ho, Step_eq hk, i64_in (by omega) (by omega), hst]
  rfl
theorem law_PlanEnds (l : List Rg) (key : Str) (x : Int × Int) : ∃ k, law21_PlanEnds k l key x = some true := by
  refine (law21_PlanEnds_lm l key x).fin ?_
  unfold law21_PlanEnds'
  rw [awake21_eq]
  by_cases h80 : (l.length : Int) > 80
  · rw [decide_eq_true h80]; rfl
  · rw [decide_eq_false h80]
    simp only [cond_false]
    have hl : l.length ≤ 1048576 := by omega
    rw [Start_eq hl]
    simp only [Option.bind_some]
    by_cases he : (startOf l [] 9 key x.1).2 = 0
    · rw [show ((startOf l [] 9 key x.1).2 != 0) = false by simpa using he]
      simp only [cond_false]
      have hm : chMay l = true := by
        cases hm : chMay l with
        | true => rfl
        | false =>
          unfold startOf planOk at he
          rw [hm] at he; cases he
      have hc := chMay_iff.1 hm
      obtain ⟨_, hp1, hp2, hk⟩ := start_one (by rw [planOk_nil]; exact hm) he
      rw [he, hp1, refFind_eq hl, hm, decide_eq_true hk]
      obtain ⟨_, hi, hhas, _⟩ := findIx_spec hc key
      simp only [Bool.and_self, cond_true, Option.bind_some]
      rw [at?_getD hi rg0]
      simp only [Option.bind_some]
      show (Option.bind (law21_PlanEnds_p28' l key 0 l 0 x [(9, ((owner l key).1, ((owner l key).2.1, (x.1, 1))))] ((owner l key).1.1, (owner l key).1.2, (owner l key).2.1, (owner l key).2.2)) _) = _
      have hw : ∀ r ∈ l, owner l r.1.1 = r := fun r hr => own_from hc hr
      have hown := hw _ (owner_spec hc key).1
      -- three steps to the switch
      rw [ends_step hl hp2 rfl (by omega) (m := 1) (by decide) (st := 2) rfl]
      have s1 := step_kept (st := 2) hp2 rfl
      rw [step_one hp2 (st := 2) rfl] at s1 ⊢
      simp only [show ((2 : Int) == 6) = false from rfl, show ((2 : Int) == 4) = false from rfl, cond_false] at s1 ⊢
      have k1 := (s1 trivial).ok
      rw [ends_step hl k1 rfl (by omega) (m := 2) (by decide) (st := 3) rfl]
      have s2 := step_kept (st := 3) k1 rfl
      rw [step_one k1 (st := 3) rfl] at s2 ⊢
      simp only [show ((3 : Int) == 6) = false from rfl, show ((3 : Int) == 4) = false from rfl, cond_false] at s2 ⊢
      have k2 := (s2 trivial).ok
      rw [ends_step hl k2 rfl (by omega) (m := 3) (by decide) (st := 4) rfl]
      have s3 := step_kept (st := 4) k2 rfl
      rw [step_one k2 (st := 4) rfl] at s3 ⊢
      simp only [show ((4 : Int) == 6) = false from rfl, show ((4 : Int) == 4) = true from rfl, cond_false, cond_true] at s3 ⊢
      by_cases hv : (moveOf l (owner l key).1.1 x.1).2 = 0
      · rw [show ((moveOf l (owner l key).1.1 x.1).2 != 0) = false by simpa using hv] at s3 ⊢
        simp only [cond_false] at s3 ⊢
        have k3 := (s3 trivial).ok
        obtain ⟨_, _, _, TT, hlen⟩ := move_one hc hv
        have hlk : (moveOf l (owner l key).1.1 x.1).1.length ≤ 1048576 := by omega
        rw [ends_step hlk k3 rfl (by omega) (m := 4) (by decide) (st := 5) rfl]
        have s4 := step_kept (st := 5) k3 rfl
        rw [step_one k3 (st := 5) rfl] at s4 ⊢
        simp only [show ((5 : Int) == 6) = false from rfl, show ((5 : Int) == 4) = false from rfl, cond_false] at s4 ⊢
        have k4 := (s4 trivial).ok
        rw [ends_step hlk k4 rfl (by omega) (m := 5) (by decide) (st := 6) rfl, step_one k4 (st := 6) rfl]
        simp only [show ((6 : Int) == 6) = true from rfl, cond_true]
        rw [law21_PlanEnds_p28_eq]
        simp only [List.length_nil]
        rw [show decide (((0 : Nat) : Int) > 0) = false from rfl]
        simp only [cond_false, Option.bind_some, Sum.elim_inl]
        rw [refFind_eq hlk, chMay_iff.2 TT.ok, decide_eq_true hk]
        obtain ⟨_, hi2, _⟩ := findIx_spec TT.ok key
        simp only [Bool.and_self, cond_true, Option.bind_some]
        rw [at?_getD hi2 rg0]
        have mo := (move_owner hc hv key).1 (by rw [hown])
        rw [hown] at mo
        have e2 : nth (moveOf l (owner l key).1.1 x.1).1 (findIx (moveOf l (owner l key).1.1 x.1).1 key) rg0 = ((owner l key).1, x.1, ver l + 1) := mo
        rw [e2, hlen]
        simp only [Option.bind_some]
        rw [(sp_eqb (owner l key).1 ((owner l key).1.1, (owner l key).1.2)).2 rfl]
        simp
      · rw [show ((moveOf l (owner l key).1.1 x.1).2 != 0) = true by simpa using hv]
        simp only [cond_true]
        have h2 : (moveOf l (owner l key).1.1 x.1).2 = 2 ∧ ver l + 1 > 4611686018427387904 := by
          unfold moveOf at hv ⊢
          have hg := mem_epoch hc (owner_spec hc key).1
          have hP := pmay_iff.1 (planOk_single.1 hp2).2.1
          have hkl : ((owner l key).1.1.length : Int) ≤ 64 := (spMay_iff.1 hg.may).1
          have hcond : chMay l = true ∧ ((owner l key).1.1.length : Int) ≤ 64 ∧ 1 ≤ x.1 ∧ x.1 ≤ 16 := ⟨hm, hkl, hP.t1, hP.t2⟩
          rw [if_pos hcond] at hv ⊢
          simp only at hv ⊢
          have e1 : nth l (findIx l (owner l key).1.1) rg0 = owner l key := hown
          rw [e1] at hv ⊢
          have hne : (owner l key).2.1 ≠ x.1 := hP.ne
          rw [if_neg hne] at hv ⊢
          unfold told at hv ⊢
          have hlen : (turn l (findIx l (owner l key).1.1) (findIx l (owner l key).1.1 + 1) [((owner l key).1, x.1, 0)]).length ≤ 64 := by
            obtain ⟨_, hj, _⟩ := findIx_spec hc (owner l key).1.1
            have := hc.len2
            simp only [turn, List.length_append, List.length_map, List.length_take, List.length_drop, List.length_singleton]
            omega
          split at hv
          · rename_i hh
            rw [if_pos hh]
            refine ⟨rfl, ?_⟩
            rcases hh with hh | hh
            · omega
            · exact hh
          · exact absurd rfl hv
        rw [h2.1, law21_PlanEnds_p28_eq]
        simp only [List.length_nil]
        rw [show decide (((0 : Nat) : Int) > 0) = false from rfl]
        simp only [cond_false, Option.bind_some, Sum.elim_inl]
        rw [show ((2 : Int) != 0) = true from rfl, show ((2 : Int) == 2) = true from rfl, refVersion_eq hl, hm]
        simp only [cond_true, Option.bind_some]
        rw [decide_eq_true (by omega : ver l ≥ 4611686018427387904)]
        rfl
    · rw [show ((startOf l [] 9 key x.1).2 != 0) = true by simpa using he]; rfl
end Go.Proofs.Ytnpjmdoglcmahaa.gg
