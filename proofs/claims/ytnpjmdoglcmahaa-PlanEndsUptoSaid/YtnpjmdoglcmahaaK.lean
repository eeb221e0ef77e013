/- The theorem of plans: the plain law. -/
import Derived.Test.YtnpjmdoglcmahaaD
import Derived.Test.YtnpjmdoglcmahaaX
open Go Go.GG
set_option linter.unusedVariables false
namespace Go.Proofs.Ytnpjmdoglcmahaa.gg
abbrev Tn := Int × Int × (List UInt8) × Int × Int
theorem pin_iff {l : List Rg} {p : Pl} : pin l p = true ↔ ∃ r ∈ l, r.1 = p.2.1 ∧ r.2.1 = ofP p := by
  unfold pin
  rw [List.any_eq_true]
  constructor
  · rintro ⟨r, hr, h⟩
    simp only [Bool.and_eq_true] at h
    exact ⟨r, hr, (sp_eqb _ _).1 h.1, by simpa using h.2⟩
  · rintro ⟨r, hr, h1, h2⟩
    exact ⟨r, hr, by rw [Bool.and_eq_true, (sp_eqb _ _).2 h1, h2]; exact ⟨rfl, by simp⟩⟩
theorem planOk_nil {l : List Rg} : planOk l [] = chMay l := by simp [planOk]
theorem planOk_single {l : List Rg} {p : Pl} : planOk l [p] = true ↔ chMay l = true ∧ pmay p = true ∧ pin l p = true := by simp [planOk]
structure PMay (p : Pl) : Prop where
  id : p.1 ≠ 0
  f1 : 1 ≤ p.2.2.1
  f2 : p.2.2.1 ≤ 16
  t1 : 1 ≤ p.2.2.2.1
  t2 : p.2.2.2.1 ≤ 16
  ne : p.2.2.1 ≠ p.2.2.2.1
  s1 : 1 ≤ p.2.2.2.2
  s2 : p.2.2.2.2 ≤ 5
theorem pmay_iff {p : Pl} : pmay p = true ↔ PMay p := by
  simp only [pmay, grp, Bool.and_eq_true, decide_eq_true_eq, bne_iff_ne, ne_eq]
  constructor
  · rintro ⟨a, ⟨b, c⟩, ⟨d, e⟩, f, g, h⟩
    exact ⟨a, b, c, d, e, f, g, h⟩
  · intro h
    exact ⟨h.id, ⟨h.f1, h.f2⟩, ⟨h.t1, h.t2⟩, h.ne, h.s1, h.s2⟩
/-- Does a turn keep what it must: it goes together, and a key's group turns at a switch alone? -/
structure Kept (l : List Rg) (ps : List Pl) (k : List Rg) (qs : List Pl) (st : Int) : Prop where
  ok : planOk k qs = true
  group : ∀ x, (owner k x).2.1 = (owner l x).2.1 ∨ (st = 4 ∧ ∃ p, ps = [p] ∧ p.2.2.1 = (owner l x).2.1 ∧ p.2.2.2.1 = (owner k x).2.1 ∧ spHas p.2.1 x = true)
theorem pin_turned {l k W W' : List Rg} {p : Pl} (T : Turned l k W W') (h : pin l p = true) (hn : ∀ r ∈ W, r.1 ≠ p.2.1) : pin k p = true := by
  obtain ⟨r, hr, h1, h2⟩ := pin_iff.1 h
  exact pin_iff.2 ⟨r, T.out r hr (fun hw => hn r hw h1), h1, h2⟩
theorem split_kept {l : List Rg} {ps : List Pl} {k : Str} {st : Int} (hp : planOk l ps = true) (h : (splitP l ps k).2 = 0) : Kept l ps (splitP l ps k).1 ps st := by
  have hc := chMay_iff.1 (planOk_chart hp)
  unfold splitP at h ⊢
  rw [hp] at h ⊢
  simp only [Bool.not_true, cond_false] at h ⊢
  cases hb : ((splitOf l k).2 == 0 && busyB l ps k false) with
  | true => rw [hb] at h; cases h
  | false =>
    rw [hb] at h
    simp only [cond_false] at h ⊢
    have hs : ((splitOf l k).2 == 0) = true := by simpa using h
    rw [hs, Bool.true_and] at hb
    obtain ⟨_, T⟩ := split_one hc h
    refine ⟨?_, fun x => .inl (split_owner hc h x).1⟩
    rcases planOk_one hp with rfl | ⟨p, rfl, hpm⟩
    · rw [planOk_nil]; exact chMay_iff.2 T.ok
    · obtain ⟨_, h2, h3⟩ := planOk_single.1 hp
      refine planOk_single.2 ⟨chMay_iff.2 T.ok, h2, pin_turned T h3 fun r hr he => ?_⟩
      simp only [List.mem_singleton] at hr
      subst hr
      simp only [busyB, Bool.false_and, Bool.or_false] at hb
      have := (sp_eqb _ _).2 he
      unfold owner at this
      rw [hb] at this; cases this
theorem merge_kept {l : List Rg} {ps : List Pl} {k : Str} {st : Int} (hp : planOk l ps = true) (h : (mergeP l ps k).2 = 0) : Kept l ps (mergeP l ps k).1 ps st := by
  have hc := chMay_iff.1 (planOk_chart hp)
  unfold mergeP at h ⊢
  rw [hp] at h ⊢
  simp only [Bool.not_true, cond_false] at h ⊢
  cases hb : ((mergeOf l k).2 == 0 && busyB l ps k true) with
  | true => rw [hb] at h; cases h
  | false =>
    rw [hb] at h
    simp only [cond_false] at h ⊢
    have hs : ((mergeOf l k).2 == 0) = true := by simpa using h
    rw [hs, Bool.true_and] at hb
    obtain ⟨_, h0, _, T⟩ := merge_one hc h
    refine ⟨?_, fun x => .inl (merge_owner hc h x).1⟩
    rcases planOk_one hp with rfl | ⟨p, rfl, hpm⟩
    · rw [planOk_nil]; exact chMay_iff.2 T.ok
    · obtain ⟨_, h2, h3⟩ := planOk_single.1 hp
      refine planOk_single.2 ⟨chMay_iff.2 T.ok, h2, pin_turned T h3 fun r hr he => ?_⟩
      simp only [busyB, Bool.true_and, decide_eq_true (by omega : findIx l k ≠ 0), Bool.or_eq_false_iff] at hb
      have := (sp_eqb _ _).2 he
      simp only [List.mem_cons, List.not_mem_nil, or_false] at hr
      rcases hr with rfl | rfl
      · rw [hb.2] at this; cases this
      · unfold owner at this
        rw [hb.1] at this; cases this
theorem start_one {l : List Rg} {ps : List Pl} {id : Int} {k : Str} {g : Int} (hp : planOk l ps = true) (h : (startOf l ps id k g).2 = 0) :
    ps = [] ∧ (startOf l ps id k g).1 = [(id, ((owner l k).1, ((owner l k).2.1, (g, 1))))] ∧ planOk l [(id, ((owner l k).1, ((owner l k).2.1, (g, 1))))] = true ∧ (k.length : Int) ≤ 64 := by
  have hc := chMay_iff.1 (planOk_chart hp)
  unfold startOf at h ⊢
  rw [hp] at h ⊢
  cases h1 : (!true || (id == 0 || (!decide ((k.length : Int) ≤ 64) || (decide (g < 1) || decide (g > 16))))) with
  | true => rw [h1] at h; cases h
  | false =>
    rw [h1] at h
    simp only [cond_false] at h ⊢
    cases h2 : decide ((ps.length : Int) > 0) with
    | true => rw [h2] at h; cases h
    | false =>
      rw [h2] at h
      simp only [cond_false] at h ⊢
      cases h3 : ((nth l (findIx l k) rg0).2.1 == g) with
      | true => rw [h3] at h; cases h
      | false =>
        simp only [cond_false]
        simp only [Bool.not_true, Bool.false_or, Bool.or_eq_false_iff, beq_eq_false_iff_ne, Bool.not_eq_false', decide_eq_true_eq, decide_eq_false_iff_not] at h1 h2 h3
        have hg := mem_epoch hc (owner_spec hc k).1
        refine ⟨List.length_eq_zero_iff.1 (by omega), rfl, planOk_single.2 ⟨planOk_chart hp, pmay_iff.2 ⟨h1.1, hg.g1, hg.g2, by show 1 ≤ g; omega, by show g ≤ 16; omega, h3, by show (1 : Int) ≤ 1; omega, by show (1 : Int) ≤ 5; omega⟩, pin_iff.2 ⟨owner l k, (owner_spec hc k).1, rfl, ?_⟩⟩, h1.2.1⟩
        unfold ofP
        rw [show decide (1 > (3 : Int)) = false from rfl]
        rfl
theorem own_from {l : List Rg} (hc : ChOk l) {r : Rg} (hr : r ∈ l) : owner l r.1.1 = r := by
  refine owner_eq hc hr (spHas_iff.2 ⟨leS_refl _, ?_⟩)
  have := spMay_iff.1 (mem_epoch hc hr).may
  exact this.2.2
theorem step_one {l : List Rg} {p : Pl} (hp : planOk l [p] = true) {st : Int} (hst : st = p.2.2.2.2 + 1) :
    stepOf l [p] p.1 st = (bif st == 6 then (l, [], 0) else bif st == 4 then (bif (moveOf l p.2.1.1 p.2.2.2.1).2 != 0 then ([], [], (moveOf l p.2.1.1 p.2.2.2.1).2) else ((moveOf l p.2.1.1 p.2.2.2.1).1, [(p.1, (p.2.1, (p.2.2.1, (p.2.2.2.1, st))))], 0)) else (l, [(p.1, (p.2.1, (p.2.2.1, (p.2.2.2.1, st))))], 0)) := by
  unfold stepOf
  rw [hp]
  simp only [Bool.not_true, cond_false, bne_self_eq_false]
  rw [decide_eq_false (by omega : ¬ st ≤ p.2.2.2.2), decide_eq_false (by omega : ¬ st > p.2.2.2.2 + 1)]
  rfl
theorem step_kept {l : List Rg} {p : Pl} (hp : planOk l [p] = true) {st : Int} (hst : st = p.2.2.2.2 + 1) (h : (stepOf l [p] p.1 st).2.2 = 0) : Kept l [p] (stepOf l [p] p.1 st).1 (stepOf l [p] p.1 st).2.1 st := by
  have hc := chMay_iff.1 (planOk_chart hp)
  obtain ⟨hm, h2, h3⟩ := planOk_single.1 hp
  have P := pmay_iff.1 h2
  rw [step_one hp hst] at h ⊢
  cases h6 : (st == 6) with
  | true => exact ⟨by simp only [cond_true]; rw [planOk_nil]; exact hm, fun x => .inl rfl⟩
  | false =>
    rw [h6] at h
    simp only [cond_false] at h ⊢
    have h6' : st ≠ 6 := by simpa using h6
    have hs1 := P.s1
    have hs2 := P.s2
    have P' : PMay (p.1, (p.2.1, (p.2.2.1, (p.2.2.2.1, st)))) := ⟨P.id, P.f1, P.f2, P.t1, P.t2, P.ne, by show 1 ≤ st; omega, by show st ≤ 5; omega⟩
    obtain ⟨r, hr, e1, e2⟩ := pin_iff.1 h3
    cases h4 : (st == 4) with
    | true =>
      rw [h4] at h
      simp only [cond_true] at h ⊢
      have h4' : st = 4 := by simpa using h4
      cases hv : ((moveOf l p.2.1.1 p.2.2.2.1).2 != 0) with
      | true =>
        rw [hv] at h
        simp only [cond_true] at h
        rw [h] at hv; cases hv
      | false =>
        have hv' : (moveOf l p.2.1.1 p.2.2.2.1).2 = 0 := by simpa using hv
        simp only [cond_false]
        obtain ⟨_, _, _, T, _⟩ := move_one hc hv'
        have ho : owner l p.2.1.1 = r := by rw [← e1]; exact own_from hc hr
        have e2' : r.2.1 = p.2.2.1 := by
          rw [e2]; unfold ofP
          rw [decide_eq_false (by omega : ¬ p.2.2.2.2 > 3)]; rfl
        refine ⟨planOk_single.2 ⟨chMay_iff.2 T.ok, pmay_iff.2 P', pin_iff.2 ⟨((owner l p.2.1.1).1, p.2.2.2.1, ver l + 1), T.into _ (by simp [aged]), by show (owner l p.2.1.1).1 = p.2.1; rw [ho, e1], ?_⟩⟩, fun x => ?_⟩
        · unfold ofP
          rw [decide_eq_true (by show st > 3; omega)]; rfl
        · obtain ⟨m1, m2⟩ := move_owner hc hv' x
          by_cases he : owner l x = owner l p.2.1.1
          · right
            refine ⟨h4', p, rfl, ?_, ?_, ?_⟩
            · rw [he, ho, e2']
            · rw [m1 he]
            · have := (owner_spec hc x).2
              rw [he, ho, e1] at this; exact this
          · left; rw [m2 he]
    | false =>
      have h4' : st ≠ 4 := by simpa using h4
      simp only [cond_false]
      refine ⟨planOk_single.2 ⟨hm, pmay_iff.2 P', pin_iff.2 ⟨r, hr, e1, ?_⟩⟩, fun x => .inl rfl⟩
      rw [e2]
      unfold ofP
      by_cases h5 : st = 5
      · rw [decide_eq_true (by omega : p.2.2.2.2 > 3), decide_eq_true (by show st > 3; omega)]
      · rw [decide_eq_false (by omega : ¬ p.2.2.2.2 > 3), decide_eq_false (by show ¬ st > 3; omega)]
def doP (l : List Rg) (ps : List Pl) (t : Tn) : List Rg × List Pl × Int × Tn :=
  bif t.1 == 0 then ((splitP l ps t.2.2.1).1, ps, (splitP l ps t.2.2.1).2, t) else bif t.1 == 1 then ((mergeP l ps t.2.2.1).1, ps, (mergeP l ps t.2.2.1).2, t) else
  bif t.1 == 2 then (l, (startOf l ps t.2.1 t.2.2.1 t.2.2.2.1).1, (startOf l ps t.2.1 t.2.2.1 t.2.2.2.1).2, t) else match ps with
    | [] => ((stepOf l [] t.2.1 t.2.2.2.2).1, (stepOf l [] t.2.1 t.2.2.2.2).2.1, (stepOf l [] t.2.1 t.2.2.2.2).2.2, t)
    | p :: r => ((stepOf l (p :: r) p.1 (IntKind.wrap .i64 (p.2.2.2.2 + 1))).1, (stepOf l (p :: r) p.1 (IntKind.wrap .i64 (p.2.2.2.2 + 1))).2.1, (stepOf l (p :: r) p.1 (IntKind.wrap .i64 (p.2.2.2.2 + 1))).2.2, (t.1, p.1, t.2.2.1, t.2.2.2.1, IntKind.wrap .i64 (p.2.2.2.2 + 1)))
theorem p29_eq {l : List Rg} (hl : l.length ≤ 1048576) (ps : List Pl) (ts : List Tn) (key : Str) (i j : Int) (b : Bool) (t : Tn) :
    law21_PlanKeeps_p29' ps ps l ts key i l j b t = some (ps, (doP l ps t).2.1, (doP l ps t).1, l, ts, key, i, (doP l ps t).2.2.1, j, b, (doP l ps t).2.2.2) := by
  unfold law21_PlanKeeps_p29' doP
  rw [pSplit_eq hl, pMerge_eq hl, Start_eq hl]
  cases (t.1 == 0) with
  | true => rfl
  | false =>
    cases (t.1 == 1) with
    | true => rfl
    | false =>
      cases (t.1 == 2) with
      | true => rfl
      | false =>
        simp only [cond_false]
        match ps with
        | [] =>
          simp only [List.length_nil]
          rw [show decide (((0 : Nat) : Int) > 0) = false from rfl, Step_eq hl]
          rfl
        | p :: r =>
          have h0 : at? (p :: r) 0 = some p := rfl
          simp only [h0, Option.bind_some]
          rw [show decide (((p :: r : List Pl).length : Int) > 0) = true by simp only [List.length_cons, decide_eq_true_eq]; omega, Step_eq hl]
          rfl
theorem do_kept {l : List Rg} {ps : List Pl} {t : Tn} (hp : planOk l ps = true) (h : (doP l ps t).2.2.1 = 0) : Kept l ps (doP l ps t).1 (doP l ps t).2.1 (doP l ps t).2.2.2.2.2.2.2 := by
  unfold doP at *
  cases h0 : (t.1 == 0) with
  | true => rw [h0] at h; exact split_kept hp h
  | false =>
    rw [h0] at h
    cases h1 : (t.1 == 1) with
    | true => rw [h1] at h; exact merge_kept hp h
    | false =>
      rw [h1] at h
      cases h2 : (t.1 == 2) with
      | true =>
        rw [h2] at h
        simp only [cond_true, cond_false] at h ⊢
        obtain ⟨_, b, c, _⟩ := start_one hp h
        exact ⟨by rw [b]; exact c, fun x => .inl rfl⟩
      | false =>
        rw [h2] at h
        simp only [cond_false] at h ⊢
        rcases planOk_one hp with rfl | ⟨p, rfl, hpm⟩
        · simp only [stepOf, hp] at h; cases h
        · have P := pmay_iff.1 hpm
          have := P.s1; have := P.s2
          have hw : IntKind.wrap .i64 (p.2.2.2.2 + 1) = p.2.2.2.2 + 1 := i64_in (by omega) (by omega)
          simp only [hw] at h ⊢
          exact step_kept hp rfl h
theorem keeps_loop (ts : List Tn) {key : Str} (hk : (key.length : Int) ≤ 64) (l0 : List Rg) (h0 : planOk l0 [] = true) : law21_PlanKeeps_p16' [] l0 ts key 0 = some (.inl ()) := by
  have loop := loop_inv (min ts.length 80) (fun i (s : List Pl × List Rg) => law21_PlanKeeps_p16' s.1 s.2 ts key (i : Int)) (fun i s => planOk s.2 s.1 = true) (fun r => r = some (.inl ()))
    (fun i s hi hp => by
      left
      obtain ⟨ps, l⟩ := s
      simp only at hp ⊢
      have hc := chMay_iff.1 (planOk_chart hp)
      have hl : l.length ≤ 1048576 := by have := hc.len2; omega
      rw [law21_PlanKeeps_p16_eq, decide_eq_true (by omega : (i : Int) < (ts.length : Int)), decide_eq_true (by omega : (i : Int) < 80), at?_lt (by omega : i < ts.length)]
      simp only [cond_true, Option.bind_some]
      generalize ts[i]'(by omega) = t
      rw [p29_eq hl]
      simp only [Option.bind_some]
      by_cases he : (doP l ps t).2.2.1 = 0
      · have K := do_kept hp he
        have hck := chMay_iff.1 (planOk_chart K.ok)
        have hlk : (doP l ps t).1.length ≤ 1048576 := by have := hck.len2; omega
        refine ⟨((doP l ps t).2.1, (doP l ps t).1), ?_, K.ok⟩
        rw [show ((doP l ps t).2.2.1 != 0) = false by simpa using he]
        simp only [cond_false]
        obtain ⟨_, hi1, _⟩ := findIx_spec hc key
        obtain ⟨_, hi2, _⟩ := findIx_spec hck key
        rw [refPMay_eq hlk, K.ok, refFind_eq hl, refFind_eq hlk, planOk_chart hp, planOk_chart K.ok, decide_eq_true hk]
        simp only [Bool.and_self, cond_true, Option.bind_some, Bool.not_true, cond_false]
        rw [at?_getD hi1 rg0, at?_getD hi2 rg0, wrap_succ (by omega)]
        simp only [Option.bind_some]
        show (bif ((owner l key).2.1 != (owner (doP l ps t).1 key).2.1) then _ else _) = _
        rcases K.group key with hg | ⟨h4, p, rfl, a, b, c⟩
        · rw [hg]; simp
        · cases ((owner l key).2.1 != (owner (doP l [p] t).1 key).2.1) with
          | false => rfl
          | true =>
            simp only [cond_true]
            rw [h4]
            have h0 : at? [p] 0 = some p := rfl
            rw [h0]
            simp only [Option.bind_some]
            rw [show ((4 : Int) != 4) = false from rfl]
            simp only [cond_false]
            show (bif (p.2.2.1 != (owner l key).2.1) then _ else bif (p.2.2.2.1 != (owner (doP l [p] t).1 key).2.1) then _ else _) = _
            rw [a, b, ref10Has_eq, c]
            simp
      · refine ⟨(ps, l), ?_, hp⟩
        rw [show ((doP l ps t).2.2.1 != 0) = true by simpa using he, wrap_succ (by omega)]
        rfl)
    (fun s hp => by
      try dsimp only
      rw [law21_PlanKeeps_p16_eq]
      by_cases hl : ts.length ≤ 80
      · rw [decide_eq_false (by omega)]; rfl
      · rw [decide_eq_true (by omega : ((min ts.length 80 : Nat) : Int) < (ts.length : Int)), decide_eq_false (by omega : ¬ ((min ts.length 80 : Nat) : Int) < 80)]; rfl)
  exact loop 0 ([], l0) (by omega) h0
theorem law_PlanKeeps (l : List Rg) (ts : List Tn) (key : Str) (hl : l.length ≤ 1048576) : ∃ k, law21_PlanKeeps k l ts key = some true := by
  refine (law21_PlanKeeps_lm l ts key).fin ?_
  unfold law21_PlanKeeps'
  rw [awake21_eq, refMay_eq hl]
  simp only [Option.bind_some]
  cases hm : chMay l with
  | false => rfl
  | true =>
    simp only [Bool.not_true, cond_false]
    cases decide ((l.length : Int) > 80) with
    | true => rfl
    | false =>
      by_cases hk : (key.length : Int) > 64
      · rw [decide_eq_true hk]; rfl
      · rw [decide_eq_false hk, keeps_loop ts (by omega) l (by rw [planOk_nil]; exact hm)]
        rfl
end Go.Proofs.Ytnpjmdoglcmahaa.gg
