/- The theorem of once: the plain law. -/
import Derived.Test.YtfhocjhnoocajaaX
open Go Go.GG
set_option linter.unusedVariables false
set_option linter.unusedSimpArgs false
namespace Go.Proofs.Ytfhocjhnoocajaa.gg
theorem mfind_mset {kt : T} {β : Type} (hf : kt.flat = true) (k k' : kt.den) (v : β) : ∀ (l : List (kt.den × β)), mfind k' (mset k v l) = bif kt.eqb k' k then some v else mfind k' l
  | [] => rfl
  | (a, b) :: l => by
    have ih := mfind_mset hf k k' v l
    simp only [mset]
    cases h1 : kt.eqb k a with
    | true =>
      have := (eqb_iff hf _ _).1 h1
      subst this
      simp only [cond_true, mfind]
      cases kt.eqb k' k <;> rfl
    | false =>
      simp only [cond_false, mfind, ih]
      cases h2 : kt.eqb k' a with
      | false => rfl
      | true =>
        have := (eqb_iff hf _ _).1 h2
        subst this
        cases h3 : kt.eqb k' k with
        | false => rfl
        | true =>
          have := (eqb_iff hf _ _).1 h3
          subst this
          rw [h3] at h1; cases h1
abbrev idT : T := .pair (.int .i64) (.int .u64)
abbrev clT : T := .int .i64
theorem find_id (k k' : Int × Int) {β : Type} (v : β) (l : List ((Int × Int) × β)) : mfind (kt := idT) k' (mset (kt := idT) k v l) = if k' = k then some v else mfind (kt := idT) k' l := by
  have := mfind_mset (kt := idT) rfl k k' v l
  rw [this]
  by_cases h : k' = k
  · rw [if_pos h, (eqb_iff (t := idT) rfl _ _).2 h]; rfl
  · rw [if_neg h]
    have : idT.eqb k' k = false := by
      cases hh : idT.eqb k' k with
      | false => rfl
      | true => exact absurd ((eqb_iff (t := idT) rfl _ _).1 hh) h
    rw [this]; rfl
theorem find_cl (k k' : Int) {β : Type} (v : β) (l : List (Int × β)) : mfind (kt := clT) k' (mset (kt := clT) k v l) = if k' = k then some v else mfind (kt := clT) k' l := by
  have := mfind_mset (kt := clT) rfl k k' v l
  rw [this]
  by_cases h : k' = k
  · rw [if_pos h, (eqb_iff (t := clT) rfl _ _).2 h]; rfl
  · rw [if_neg h]
    have : clT.eqb k' k = false := by
      cases hh : clT.eqb k' k with
      | false => rfl
      | true => exact absurd ((eqb_iff (t := clT) rfl _ _).1 hh) h
    rw [this]; rfl
theorem mayT_mk {l : List Seat} (hs : Sorted intOrd (fun x : Seat => x.1) l) (hc : ∀ x ∈ l, callB x.1 x.2.1 = true ∧ x.2.2.length ≤ 4096) : mayT l = true := by
  unfold mayT
  rw [allB_iff]
  intro i hi
  unfold okT
  rw [getD_lt hi]
  obtain ⟨h1, h2⟩ := hc _ (List.getElem_mem hi)
  rw [h1, decide_eq_false (by omega : ¬ ((l[i].2.2.length : Int) > 4096))]
  simp only [Bool.true_and, Bool.not_false]
  by_cases h0 : i = 0
  · rw [decide_eq_true h0]; rfl
  · rw [getD_lt (by omega : i - 1 < l.length)]
    have := List.pairwise_iff_getElem.1 hs (i - 1) i (by omega) hi (by omega)
    simp only [intOrd, decide_eq_true_eq] at this
    rw [decide_eq_false (by omega : ¬ l[i].1 ≤ l[i - 1].1)]
    simp
structure Once (i : Nat) (s : List Seat × List ((Int × Int) × Bool) × List (Int × Int × Int)) : Prop where
  may : mayT s.1 = true
  len : s.1.length ≤ i
  seats : ∀ x ∈ s.1, mfind (kt := idT) (x.1, x.2.1) s.2.1 = some true ∧ mfind (kt := clT) x.1 s.2.2 = some (x.1, x.2.1)
  kept : ∀ (c q : Int) (b : Bool), mfind (kt := idT) (c, q) s.2.1 = some b → ∃ x ∈ s.1, x.1 = c ∧ q ≤ x.2.1
theorem Once.later {i : Nat} {s : List Seat × List ((Int × Int) × Bool) × List (Int × Int × Int)} (h : Once i s) : Once (i + 1) s := ⟨h.may, by have := h.len; omega, h.seats, h.kept⟩
theorem once_put {i : Nat} {l : List Seat} {kept : List ((Int × Int) × Bool)} {last : List (Int × Int × Int)} (h : Once i (l, kept, last)) {id : Int × Int} (hc : callB id.1 id.2 = true) {reply : List Int} (hr : reply.length ≤ 4096)
    (hnew : ∀ x ∈ l, x.1 = id.1 → x.2.1 < id.2) : Once (i + 1) (placeF (ltc id.1) (eqc id.1) l (id.1, (id.2, reply)), mset (kt := idT) id true kept, mset (kt := clT) id.1 id last) := by
  have hs := place_sorted (mayT_sorted h.may) (id.1, (id.2, reply))
  have hm : ∀ x, x ∈ placeF (ltc id.1) (eqc id.1) l (id.1, (id.2, reply)) ↔ x = (id.1, (id.2, reply)) ∨ (x ∈ l ∧ x.1 ≠ id.1) := mem_place (l := l) (id.1, (id.2, reply))
  refine ⟨mayT_mk hs fun x hx => ?_, ?_, fun x hx => ?_, fun c q b hb => ?_⟩
  · rcases (hm x).1 hx with rfl | ⟨hx, _⟩
    · exact ⟨hc, hr⟩
    · exact mayT_get h.may hx
  · have := placeF_len (ltc id.1) (eqc id.1) l (id.1, (id.2, reply))
    have := h.len
    simp only at *
    omega
  · simp only
    rw [find_id, find_cl]
    rcases (hm x).1 hx with rfl | ⟨hx, hne⟩
    · rw [if_pos rfl, if_pos rfl]; exact ⟨rfl, rfl⟩
    · rw [if_neg (fun e => hne (congrArg Prod.fst e)), if_neg hne]
      exact h.seats x hx
  · simp only at hb
    rw [find_id] at hb
    by_cases he : (c, q) = id
    · subst he
      exact ⟨_, (hm _).2 (.inl rfl), rfl, Int.le_refl _⟩
    · rw [if_neg he] at hb
      obtain ⟨x, hx, hx1, hx2⟩ := h.kept c q b hb
      by_cases hcc : x.1 = id.1
      · have := hnew x hx hcc
        exact ⟨(id.1, (id.2, reply)), (hm _).2 (.inl rfl), hcc.symm.trans hx1, Int.le_trans hx2 (Int.le_of_lt this)⟩
      · exact ⟨x, (hm x).2 (.inr ⟨hx, hcc⟩), hx1, hx2⟩
theorem look_new {l : List Seat} {id : Int × Int} {reply : List Int} (hm : mayT (placeF (ltc id.1) (eqc id.1) l (id.1, (id.2, reply))) = true) (hc : callB id.1 id.2 = true) : lookS (placeF (ltc id.1) (eqc id.1) l (id.1, (id.2, reply))) id = (reply, true, 0) := by
  unfold lookS
  rw [hm, hc, find_place ltc_ne (by simp [eqc])]
  simp only [Bool.not_true, Bool.or_self, cond_false]
  rw [decide_eq_false (by omega : ¬ id.2 > id.2)]
  rfl
theorem law_SessionOnce (ids : List (Int × Int)) (hl : ids.length ≤ 1048576) : ∃ k, law16_SessionOnce k ids = some true := by
  refine (law16_SessionOnce_lm ids).fin ?_
  unfold law16_SessionOnce'
  rw [awake_eq]
  have key := loop_inv ids.length (fun i s => law16_SessionOnce_p12' ids s.1 (i : Int) s.2.1 s.2.2) Once (fun r => r = some (.inl ())) (fun i s hi hO => by
    obtain ⟨l, kept, last⟩ := s
    try dsimp only
    rw [law16_SessionOnce_p12_eq, decide_eq_true (by omega : (i : Int) < (ids.length : Int)), at?_lt hi]
    by_cases h200 : (i : Int) < 200
    · rw [decide_eq_true h200]
      have hlen : l.length ≤ i := hO.len
      unfold law16_SessionOnce_p25'
      generalize ids[i] = id
      simp only [Int.reduceBEq, beq_self_eq_true, cond_true, cond_false, Option.bind_some, Bool.not_false, Bool.not_true, Bool.not_not, Bool.true_and, Bool.false_and, Bool.and_true, Bool.and_false, Bool.or_false, Bool.or_true, Bool.true_or, Bool.false_or, show (false == true) = false from rfl, show (true == false) = false from rfl]
      rw [Put_eq (by omega) id [IntKind.u8.wrap (i : Int)] (by simp)]
      simp only [Int.reduceBEq, beq_self_eq_true, cond_true, cond_false, Option.bind_some, Bool.not_false, Bool.not_true, Bool.not_not, Bool.true_and, Bool.false_and, Bool.and_true, Bool.and_false, Bool.or_false, Bool.or_true, Bool.true_or, Bool.false_or, show (false == true) = false from rfl, show (true == false) = false from rfl]
      have hgo : law16_SessionOnce_p12' ids l (IntKind.wrap .i64 ((i : Int) + 1)) kept last = law16_SessionOnce_p12' ids l ((i + 1 : Nat) : Int) kept last := by rw [wrap_succ (by omega)]
      have hgo2 : ∀ l' kept' last', law16_SessionOnce_p12' ids l' (IntKind.wrap .i64 ((i : Int) + 1)) kept' last' = law16_SessionOnce_p12' ids l' ((i + 1 : Nat) : Int) kept' last' := fun _ _ _ => by rw [wrap_succ (by omega)]
      unfold putS
      rw [hO.may]
      cases hc : callB id.1 id.2 with
      | false =>
        simp only [Int.reduceBEq, beq_self_eq_true, cond_true, cond_false, Option.bind_some, Bool.not_false, Bool.not_true, Bool.not_not, Bool.true_and, Bool.false_and, Bool.and_true, Bool.and_false, Bool.or_false, Bool.or_true, Bool.true_or, Bool.false_or, show (false == true) = false from rfl, show (true == false) = false from rfl]
        exact .inl ⟨(l, kept, last), by rw [hgo], hO.later⟩
      | true =>
        rw [decide_eq_false (by simp : ¬ (([IntKind.u8.wrap (i : Int)] : List Int).length : Int) > 4096)]
        simp only [Int.reduceBEq, beq_self_eq_true, cond_true, cond_false, Option.bind_some, Bool.not_false, Bool.not_true, Bool.not_not, Bool.true_and, Bool.false_and, Bool.and_true, Bool.and_false, Bool.or_false, Bool.or_true, Bool.true_or, Bool.false_or, show (false == true) = false from rfl, show (true == false) = false from rfl]
        have good : (∀ x ∈ l, x.1 = id.1 → x.2.1 < id.2) → (lookS l id) = ([], false, 0) → _ := fun hnew hlk => by
          have hno : mfind (kt := idT) id kept = none := by
            cases hh : mfind (kt := idT) id kept with
            | none => rfl
            | some b =>
              obtain ⟨x, hx, h1, h2⟩ := hO.kept id.1 id.2 b hh
              have := hnew x hx h1
              omega
          have hO2 := once_put hO hc (reply := [IntKind.u8.wrap (i : Int)]) (by simp) hnew
          have hl2 : (placeF (ltc id.1) (eqc id.1) l (id.1, (id.2, [IntKind.u8.wrap (i : Int)]))).length ≤ i + 1 := hO2.len
          have hlk2 := look_new (reply := [IntKind.u8.wrap (i : Int)]) hO2.may hc
          exact And.intro hno (And.intro hO2 (And.intro hl2 hlk2))
        by_cases hall : ∀ x ∈ l, x.1 = id.1 → x.2.1 < id.2
        · have hlk : lookS l id = ([], false, 0) := by
            unfold lookS
            rw [hO.may, hc]
            cases hf : l.find? (eqc id.1) with
            | none => rfl
            | some x =>
              have hx1 := List.find?_some hf
              simp only [eqc, beq_iff_eq] at hx1
              have := hall x (List.mem_of_find?_eq_some hf) hx1
              simp only [Bool.not_true, Bool.or_self, cond_false]
              rw [decide_eq_true (by omega : id.2 > x.2.1)]; rfl
          obtain ⟨hno, hO2, hl2, hlk2⟩ := good hall hlk
          refine .inl ⟨(placeF (ltc id.1) (eqc id.1) l (id.1, (id.2, [IntKind.u8.wrap (i : Int)])), mset (kt := idT) id true kept, mset (kt := clT) id.1 id last), ?_, hO2⟩
          rw [hlk]
          simp only [Int.reduceBEq, beq_self_eq_true, cond_true, cond_false, Option.bind_some, Bool.not_false, Bool.not_true, Bool.not_not, Bool.true_and, Bool.false_and, Bool.and_true, Bool.and_false, Bool.or_false, Bool.or_true, Bool.true_or, Bool.false_or, show (false == true) = false from rfl, show (true == false) = false from rfl, Int.reduceBNe]
          rw [hno, Look_eq (by omega) id, hlk2]
          simp only [Int.reduceBEq, beq_self_eq_true, cond_true, cond_false, Option.bind_some, Bool.not_false, Bool.not_true, Bool.not_not, Bool.true_and, Bool.false_and, Bool.and_true, Bool.and_false, Bool.or_false, Bool.or_true, Bool.true_or, Bool.false_or, show (false == true) = false from rfl, show (true == false) = false from rfl, Int.reduceBNe, Option.getD_none]
          rw [hgo2]
        cases hf : l.find? (eqc id.1) with
        | none =>
          exact absurd (fun x hx he => by
            have := List.find?_eq_none.1 hf x hx
            simp [eqc, he] at this) hall
        | some x =>
          have hx := List.mem_of_find?_eq_some hf
          have hx1 := List.find?_some hf
          simp only [eqc, beq_iff_eq] at hx1
          obtain ⟨hk1, hk2⟩ := hO.seats x hx
          have hlook : lookS l id = bif decide (id.2 > x.2.1) then ([], false, 0) else bif decide (id.2 < x.2.1) then ([], false, 7) else (x.2.2, true, 0) := by
            unfold lookS
            rw [hO.may, hc, hf]; rfl
          have hgt : ¬ id.2 > x.2.1 := fun hgt => hall fun y hy he => by
            have : y = x := uniq (mayT_sorted hO.may) hy hx (he.trans hx1.symm)
            subst this; exact hgt
          · by_cases hlt : id.2 < x.2.1
            · rw [hlook, decide_eq_false hgt, decide_eq_true hlt]
              refine .inl ⟨(l, kept, last), ?_, hO.later⟩
              rw [hx1] at hk2
              simp only [Int.reduceBEq, beq_self_eq_true, cond_true, cond_false, Option.bind_some, Bool.not_false, Bool.not_true, Bool.not_not, Bool.true_and, Bool.false_and, Bool.and_true, Bool.and_false, Bool.or_false, Bool.or_true, Bool.true_or, Bool.false_or, show (false == true) = false from rfl, show (true == false) = false from rfl, Int.reduceBNe, hk2, Option.getD_some]
              rw [decide_eq_false (by omega : ¬ id.2 ≥ x.2.1)]
              simp only [Int.reduceBEq, beq_self_eq_true, cond_true, cond_false, Option.bind_some, Bool.not_false, Bool.not_true, Bool.not_not, Bool.true_and, Bool.false_and, Bool.and_true, Bool.and_false, Bool.or_false, Bool.or_true, Bool.true_or, Bool.false_or, show (false == true) = false from rfl, show (true == false) = false from rfl]
              rw [hgo]
              cases (mfind (kt := idT) id kept).getD false <;> rfl
            · rw [hlook, decide_eq_false hgt, decide_eq_false hlt]
              have he : id = (x.1, x.2.1) := by
                obtain ⟨a, b⟩ := id
                simp only at hx1 hgt hlt
                rw [hx1]; congr 1; omega
              refine .inl ⟨(l, kept, last), ?_, hO.later⟩
              simp only [Int.reduceBEq, beq_self_eq_true, cond_true, cond_false, Option.bind_some, Bool.not_false, Bool.not_true, Bool.not_not, Bool.true_and, Bool.false_and, Bool.and_true, Bool.and_false, Bool.or_false, Bool.or_true, Bool.true_or, Bool.false_or, show (false == true) = false from rfl, show (true == false) = false from rfl, Int.reduceBNe]
              rw [he, hk1]
              simp only [Int.reduceBEq, beq_self_eq_true, cond_true, cond_false, Option.bind_some, Bool.not_false, Bool.not_true, Bool.not_not, Bool.true_and, Bool.false_and, Bool.and_true, Bool.and_false, Bool.or_false, Bool.or_true, Bool.true_or, Bool.false_or, show (false == true) = false from rfl, show (true == false) = false from rfl, Option.getD_some]
              rw [hgo]
    · rw [decide_eq_false h200]; exact .inr rfl) (fun s _ => by
    try dsimp only
    rw [law16_SessionOnce_p12_eq, decide_eq_false (by omega : ¬ (ids.length : Int) < (ids.length : Int))]; rfl) 0 ([], [], []) (by omega) ⟨rfl, by simp, by simp, by simp [mfind]⟩
  simp only [show ((0 : Nat) : Int) = 0 from rfl] at key
  rw [key]
  rfl
end Go.Proofs.Ytfhocjhnoocajaa.gg
