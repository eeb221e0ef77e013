/- Charts with plans: what comes of any turn: the plain law. -/
import Derived.Test.YtnpjmdoglcmahaaB
open Go Go.GG
set_option linter.unusedVariables false
namespace Go.Proofs.Ytnpjmdoglcmahaa.gg
abbrev Pl := Int × Sp × Int × Int × Int
theorem slices_IndexFunc_api_Range_api_Range_is (l : List (Rg)) (f : Rg → Option Bool) (p : Rg → Bool) (hl : l.length ≤ 1000000000000) (hf : ∀ x, f x = some (p x)) : slices_IndexFunc_api_Range_api_Range' l f = some (match l.findIdx? p with | some i => (i : Int) | none => -1) := by
  have key0 := index_loop l p (fun i => slices_IndexFunc_api_Range_api_Range_p6' l f (l.length : Int) (i : Int)) (f := fun i => some (.inr (i : Int))) (a := some (.inl ())) (fun i hi => by
    try dsimp only
    rw [slices_IndexFunc_api_Range_api_Range_p6_eq, decide_eq_true (by omega : (i : Int) < (l.length : Int)), at?_lt hi]
    simp only [cond_true, Option.bind_some, hf]
    rw [wrap_succ (by omega)]) (by
    try dsimp only
    rw [slices_IndexFunc_api_Range_api_Range_p6_eq, decide_eq_false (by omega : ¬ (l.length : Int) < (l.length : Int))]; rfl)
  unfold slices_IndexFunc_api_Range_api_Range'
  simp only [show ((0 : Nat) : Int) = 0 from rfl] at key0
  rw [key0]
  cases l.findIdx? p <;> rfl
theorem slices_ContainsFunc_api_Range_api_Range_is (l : List (Rg)) (f : Rg → Option Bool) (p : Rg → Bool) (hl : l.length ≤ 1000000000000) (hf : ∀ x, f x = some (p x)) : slices_ContainsFunc_api_Range_api_Range' l f = some (l.any p) := by
  unfold slices_ContainsFunc_api_Range_api_Range'
  rw [slices_IndexFunc_api_Range_api_Range_is l f p hl hf]
  simp only [Option.bind_some]
  cases hi : l.findIdx? p with
  | none =>
    rw [List.findIdx?_eq_none_iff] at hi
    have : l.any p = false := by
      rw [List.any_eq_false]
      intro x hx
      rw [hi x hx]; simp
    rw [this]; rfl
  | some i =>
    obtain ⟨h1, h2, _⟩ := List.findIdx?_eq_some_iff_getElem.1 hi
    have : l.any p = true := List.any_eq_true.2 ⟨_, List.getElem_mem h1, h2⟩
    rw [this]
    simp only
    rw [decide_eq_true (by omega : (i : Int) ≥ 0)]
theorem slices_Clone_api_Range_api_Range_is (l : List (Rg)) (hl : l.length ≤ 4398046511104 / 48) : slices_Clone_api_Range_api_Range' l = some l := by
  unfold slices_Clone_api_Range_api_Range'
  rw [room_of (by simp; omega)]
  rfl
def pmay (p : Pl) : Bool := (p.1 != 0) && (grp p.2.2.1 && (grp p.2.2.2.1 && ((p.2.2.1 != p.2.2.2.1) && (decide (p.2.2.2.2 ≥ 1) && decide (p.2.2.2.2 ≤ 5)))))
theorem pmay1_eq (n : Int) : plan_may_1' n = some (grp n) := by
  unfold plan_may_1' grp
  cases decide (n ≥ 1) <;> rfl
theorem pmay_eq (p : Pl) : plan_may' p = some (pmay p) := by
  unfold plan_may' pmay
  simp only [pmay1_eq, Option.bind_some]
  cases (p.1 != 0) <;> cases grp p.2.2.1 <;> cases grp p.2.2.2.1 <;> cases (p.2.2.1 != p.2.2.2.1) <;> cases decide (p.2.2.2.2 ≥ 1) <;> rfl
def ofP (p : Pl) : Int := bif decide (p.2.2.2.2 > 3) then p.2.2.2.1 else p.2.2.1
def pin (l : List Rg) (p : Pl) : Bool := l.any fun r => T.eqb (.pair .str .str) r.1 p.2.1 && r.2.1 == ofP p
def planOk (l : List Rg) (ps : List Pl) : Bool := chMay l && match ps with
  | [] => true
  | [p] => pmay p && pin l p
  | _ => false
theorem check1_eq (r : Rg) (p : Pl) (of : Int) : plan_Check_1' r p of = some (T.eqb (.pair .str .str) r.1 p.2.1 && r.2.1 == of) := by
  unfold plan_Check_1'
  cases T.eqb (.pair .str .str) r.1 p.2.1 <;> rfl
theorem pCheck_eq {l : List Rg} (hl : l.length ≤ 1048576) (ps : List Pl) : plan_Check' l ps = some (cond (planOk l ps) 0 1) := by
  unfold plan_Check' planOk
  rw [chCheck_eq hl]
  simp only [Option.bind_some]
  cases hm : chMay l with
  | false => rfl
  | true =>
    simp only [cond_true, bne_self_eq_false, cond_false, Bool.true_and]
    match ps with
    | [] =>
      simp only [List.length_nil]
      rw [show decide (((0 : Nat) : Int) > 1) = false from rfl, plan_Check_p14_eq]
      rfl
    | [p] =>
      simp only [List.length_singleton]
      rw [show decide (((1 : Nat) : Int) > 1) = false from rfl, plan_Check_p14_eq, show decide ((0 : Int) < ((1 : Nat) : Int)) = true from rfl]
      have h0 : at? [p] 0 = some p := rfl
      have hend : ∀ v, plan_Check_p14' l [p] ((1 : Nat) : Int) v = plan_Check_p14' l [p] ((1 : Nat) : Int) v := fun _ => rfl
      have h1 : plan_Check_p14' l [p] ((1 : Nat) : Int) (IntKind.wrap .i64 (0 + 1)) = some (.inl ()) := by
        rw [plan_Check_p14_eq]; rfl
      rw [h0]
      simp only [cond_true, cond_false, Option.bind_some, pmay_eq, h1]
      rw [slices_ContainsFunc_api_Range_api_Range_is l (fun y4 => ((plan_Check_1' y4 p p.2.2.2.1).bind fun z => some z)) (fun r => T.eqb (.pair .str .str) r.1 p.2.1 && r.2.1 == p.2.2.2.1) (by omega) (fun r => by
          try dsimp only
          rw [check1_eq]; rfl),
        slices_ContainsFunc_api_Range_api_Range_is l (fun y7 => ((plan_Check_1' y7 p p.2.2.1).bind fun z => some z)) (fun r => T.eqb (.pair .str .str) r.1 p.2.1 && r.2.1 == p.2.2.1) (by omega) (fun r => by
          try dsimp only
          rw [check1_eq]; rfl)]
      unfold pin ofP
      cases hs : decide (p.2.2.2.2 > 3) with
      | true =>
        simp only [cond_true, Option.bind_some]
        cases pmay p <;> cases (l.any fun r => T.eqb (.pair .str .str) r.1 p.2.1 && r.2.1 == p.2.2.2.1) <;> rfl
      | false =>
        simp only [cond_false, Option.bind_some]
        cases pmay p <;> cases (l.any fun r => T.eqb (.pair .str .str) r.1 p.2.1 && r.2.1 == p.2.2.1) <;> rfl
    | p :: q :: r =>
      have : decide ((((p :: q :: r : List Pl).length : Nat) : Int) > 1) = true := by simp only [List.length_cons, decide_eq_true_eq]; omega
      rw [this]; rfl
theorem starts {l : List Rg} (h : ChOk l) : Sorted strOrd (fun r : Rg => r.1.1) l := by
  refine sorted_of_steps (d := rg0) fun i hi => ?_
  by_cases h0 : i = 0
  · exact .inl h0
  · right
    obtain ⟨h1, h2⟩ := h.join i hi (by omega)
    have h3 := (h.each (i - 1) (by omega)).1
    simp only [spMay, Bool.and_eq_true, Bool.or_eq_true, beq_iff_eq] at h3
    show strLess _ _ = true
    rw [← h1]
    have h4 : (nth l (i - 1) rg0).1.2 ≠ [] := by rw [h1]; exact h2
    simp only [h4, false_or] at h3
    grind
theorem uniqS {l : List Rg} (h : ChOk l) {a b : Rg} (ha : a ∈ l) (hb : b ∈ l) (hab : a.1 = b.1) : a = b := by
  obtain ⟨i, hi, rfl⟩ := List.getElem_of_mem ha
  obtain ⟨j, hj, rfl⟩ := List.getElem_of_mem hb
  have hs := List.pairwise_iff_getElem.1 (starts h)
  rcases Nat.lt_trichotomy i j with hij | hij | hij
  · have := hs i j hi hj hij
    simp only [strOrd, hab, strLess_irrefl] at this
    cases this
  · subst hij; rfl
  · have := hs j i hj hi hij
    simp only [strOrd, hab, strLess_irrefl] at this
    cases this
theorem sp_eqb (x y : Sp) : T.eqb (.pair .str .str) x y = true ↔ x = y := eqb_iff (t := .pair .str .str) rfl x y
theorem refPMay_eq {l : List Rg} (hl : l.length ≤ 1048576) (ps : List Pl) : ref21_May' l ps = some (planOk l ps) := by
  unfold ref21_May' planOk
  rw [refMay_eq hl]
  simp only [Option.bind_some]
  cases hm : chMay l with
  | false => rfl
  | true =>
    have hc := chMay_iff.1 hm
    simp only [Bool.not_true, cond_false, Bool.true_and]
    match ps with
    | [] => rfl
    | [p] =>
      simp only [List.length_singleton]
      rw [show decide (((1 : Nat) : Int) > 1) = false from rfl, show (((1 : Nat) : Int) == 0) = false from rfl]
      have h0 : at? [p] 0 = some p := rfl
      rw [h0]
      simp only [cond_false, Option.bind_some]
      have key0 := index_loop l (fun r => T.eqb (.pair .str .str) r.1 p.2.1) (fun i => ref21_May_p32' l (i : Int) (p.1, p.2.1.1, p.2.1.2, p.2.2.1, p.2.2.2.1, p.2.2.2.2)) (f := fun i => (at? l (i : Int)).bind fun e => some (.inr (e.2.1 == ofP p))) (a := some (.inl ())) (fun i hi => by
        try dsimp only
        rw [ref21_May_p32_eq, decide_eq_true (by omega : (i : Int) < (l.length : Int)), at?_lt hi, wrap_succ (by omega)]
        simp only [cond_true, Option.bind_some]
        rw [show ((p.2.1.1, p.2.1.2) : Sp) = p.2.1 from rfl]
        unfold ofP
        have e : decide (p.2.2.2.2 > 3) = !decide (p.2.2.2.2 ≤ 3) := by
          by_cases h : p.2.2.2.2 ≤ 3
          · rw [decide_eq_true h, decide_eq_false (by omega)]; rfl
          · rw [decide_eq_false h, decide_eq_true (by omega)]; rfl
        rw [e]
        cases T.eqb (.pair .str .str) l[i].1 p.2.1 <;> cases decide (p.2.2.2.2 ≤ 3) <;> rfl) (by
        try dsimp only
        rw [ref21_May_p32_eq, decide_eq_false (by omega : ¬ (l.length : Int) < (l.length : Int))]; rfl)
      simp only [show ((0 : Nat) : Int) = 0 from rfl] at key0
      have hfin : ((ref21_May_p32' l 0 (p.1, p.2.1.1, p.2.1.2, p.2.2.1, p.2.2.2.1, p.2.2.2.2)).bind fun o6 => Sum.elim (fun a7 => some false) (fun b8 => some b8) o6) = some (pin l p) := by
        rw [key0]
        cases hi : l.findIdx? (fun r => T.eqb (.pair .str .str) r.1 p.2.1) with
        | none =>
          rw [List.findIdx?_eq_none_iff] at hi
          have : pin l p = false := by
            unfold pin
            rw [List.any_eq_false]
            intro x hx
            rw [hi x hx]; simp
          rw [this]; rfl
        | some i =>
          obtain ⟨h1, h2, _⟩ := List.findIdx?_eq_some_iff_getElem.1 hi
          simp only
          rw [at?_lt h1]
          simp only [Option.bind_some, Sum.elim_inr]
          congr 1
          unfold pin
          rw [Bool.eq_iff_iff, List.any_eq_true]
          constructor
          · intro h; exact ⟨l[i], List.getElem_mem h1, by rw [h2, h]; rfl⟩
          · rintro ⟨x, hx, h⟩
            simp only [Bool.and_eq_true] at h
            have : x = l[i] := uniqS hc hx (List.getElem_mem h1) (by rw [(sp_eqb _ _).1 h.1, (sp_eqb _ _).1 h2])
            rw [← this]; exact h.2
      rw [hfin]
      have n1 : (p.1 == 0) = !(p.1 != 0) := by simp [bne]
      have n2 : decide (p.2.2.1 < 1) = !decide (p.2.2.1 ≥ 1) := by
        by_cases h : p.2.2.1 ≥ 1
        · rw [decide_eq_true h, decide_eq_false (by omega)]; rfl
        · rw [decide_eq_false h, decide_eq_true (by omega)]; rfl
      have n3 : decide (p.2.2.1 > 16) = !decide (p.2.2.1 ≤ 16) := by
        by_cases h : p.2.2.1 ≤ 16
        · rw [decide_eq_true h, decide_eq_false (by omega)]; rfl
        · rw [decide_eq_false h, decide_eq_true (by omega)]; rfl
      have n4 : decide (p.2.2.2.1 < 1) = !decide (p.2.2.2.1 ≥ 1) := by
        by_cases h : p.2.2.2.1 ≥ 1
        · rw [decide_eq_true h, decide_eq_false (by omega)]; rfl
        · rw [decide_eq_false h, decide_eq_true (by omega)]; rfl
      have n5 : decide (p.2.2.2.1 > 16) = !decide (p.2.2.2.1 ≤ 16) := by
        by_cases h : p.2.2.2.1 ≤ 16
        · rw [decide_eq_true h, decide_eq_false (by omega)]; rfl
        · rw [decide_eq_false h, decide_eq_true (by omega)]; rfl
      have n6 : (p.2.2.1 == p.2.2.2.1) = !(p.2.2.1 != p.2.2.2.1) := by simp [bne]
      have n7 : decide (p.2.2.2.2 < 1) = !decide (p.2.2.2.2 ≥ 1) := by
        by_cases h : p.2.2.2.2 ≥ 1
        · rw [decide_eq_true h, decide_eq_false (by omega)]; rfl
        · rw [decide_eq_false h, decide_eq_true (by omega)]; rfl
      have n8 : decide (p.2.2.2.2 > 5) = !decide (p.2.2.2.2 ≤ 5) := by
        by_cases h : p.2.2.2.2 ≤ 5
        · rw [decide_eq_true h, decide_eq_false (by omega)]; rfl
        · rw [decide_eq_false h, decide_eq_true (by omega)]; rfl
      rw [n1, n2, n3, n4, n5, n6, n7, n8]
      unfold pmay grp
      cases (p.1 != 0) <;> cases decide (p.2.2.1 ≥ 1) <;> cases decide (p.2.2.1 ≤ 16) <;> cases decide (p.2.2.2.1 ≥ 1) <;> cases decide (p.2.2.2.1 ≤ 16) <;> cases (p.2.2.1 != p.2.2.2.1) <;> cases decide (p.2.2.2.2 ≥ 1) <;> cases decide (p.2.2.2.2 ≤ 5) <;> rfl
    | p :: q :: r =>
      have : decide ((((p :: q :: r : List Pl).length : Nat) : Int) > 1) = true := by simp only [List.length_cons, decide_eq_true_eq]; omega
      rw [this]; rfl
end Go.Proofs.Ytnpjmdoglcmahaa.gg
