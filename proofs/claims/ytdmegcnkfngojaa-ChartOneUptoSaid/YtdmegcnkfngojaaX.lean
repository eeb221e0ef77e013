/- The theorem of one owner: the plain law. -/
import Derived.Test.YtdmegcnkfngojaaD
import Derived.Test.YtdmegcnkfngojaaSK
open Go Go.GG
set_option linter.unusedVariables false
namespace Go.Proofs.Ytdmegcnkfngojaa.gg
abbrev Tn := Int × (List UInt8) × Int
/-- One range more of a group's. -/
def ownStep (g : Int) (u : List Sp) (r : Rg) : List Sp := bif r.2.1 == g then (bif !(sp.formB u && sp.mayS r.1) then (([] : List Sp), (1 : Int)) else sp.toldB (sp.addF u r.1)).1 else u
theorem own_inv {l : List Rg} (h : ∀ r ∈ l, GoodR r) (hl : l.length ≤ 64) (g : Int) : ∀ i, i ≤ l.length → sp.formB ((l.take i).foldl (ownStep g) []) = true ∧ ((l.take i).foldl (ownStep g) []).length ≤ i ∧
    ∀ k, sp.inL ((l.take i).foldl (ownStep g) []) k = (l.take i).any fun r => r.2.1 == g && spHas r.1 k := by
  intro i
  induction i with
  | zero => intro _; exact ⟨rfl, by simp, fun k => rfl⟩
  | succ i ih =>
    intro hi
    obtain ⟨h1, h2, h3⟩ := ih (by omega)
    have hg := h l[i] (List.getElem_mem _)
    rw [take_succ' (by omega : i < l.length), List.foldl_append]
    generalize (l.take i).foldl (ownStep g) [] = u at *
    simp only [List.foldl_cons, List.foldl_nil, List.any_append, List.any_cons, List.any_nil, Bool.or_false]
    unfold ownStep
    have hm : sp.mayS l[i].1 = true := hg.may
    cases hc : (l[i].2.1 == g) with
    | false => exact ⟨h1, by simp only [cond_false]; omega, fun k => by simp only [cond_false, Bool.false_and, Bool.or_false]; exact h3 k⟩
    | true =>
      rw [h1, hm]
      simp only [Bool.and_self, Bool.not_true, cond_false, cond_true]
      have hlen : (sp.addF u l[i].1).length ≤ u.length + 1 := by
        have := sp.add_len u (l[i].1, [], [])
        unfold sp.addF
        simp only [List.length_append, List.length_cons, List.length_nil] at this ⊢
        omega
      unfold sp.toldB
      rw [decide_eq_false (by omega)]
      simp only [cond_false]
      refine ⟨sp.addF_form h1 hm (by omega), by omega, fun k => ?_⟩
      rw [(sp.addF_ok h1 hm).2 k, h3 k, Bool.true_and]
      rfl
def ownedOf (l : List Rg) (g : Int) : List Sp := l.foldl (ownStep g) []
theorem Owned_eq {l : List Rg} (h : ChOk l) (g : Int) : chart_Owned' l g = some (ownedOf l g) := by
  have hl := h.len2
  have hinv := own_inv (fun r hr => mem_epoch h hr) hl g
  unfold chart_Owned' ownedOf
  rw [chCheck_eq (by omega), chMay_iff.2 h]
  simp only [cond_true, Option.bind_some, bne_self_eq_false, cond_false]
  have key := fold_loop l (ownStep g) [] (fun i u => chart_Owned_p16' u g l (l.length : Int) (i : Int)) (out := fun u => some u) (fun i hi => by
    try dsimp only
    obtain ⟨h1, h2, h3⟩ := hinv i (by omega)
    generalize (l.take i).foldl (ownStep g) [] = u at *
    rw [chart_Owned_p16_eq, decide_eq_true (by omega : (i : Int) < (l.length : Int)), at?_lt hi, wrap_succ (by omega)]
    simp only [cond_true, Option.bind_some]
    rw [sp.Add_eq (by omega)]
    unfold ownStep
    cases (l[i].2.1 == g) <;> rfl) (by
    try dsimp only
    rw [chart_Owned_p16_eq, decide_eq_false (by omega : ¬ (l.length : Int) < (l.length : Int))]; rfl)
  simp only [show ((0 : Nat) : Int) = 0 from rfl] at key
  rw [key]
  rfl
theorem owned_in {l : List Rg} (h : ChOk l) (g : Int) (k : Str) : sp.inL (ownedOf l g) k = (g == (owner l k).2.1) ∧ (ownedOf l g).length ≤ 64 := by
  obtain ⟨_, h2, h3⟩ := own_inv (fun r hr => mem_epoch h hr) h.len2 g l.length (Nat.le_refl _)
  rw [List.take_length] at h2 h3
  have hl := h.len2
  refine ⟨?_, Nat.le_trans h2 hl⟩
  unfold ownedOf
  rw [h3, Bool.eq_iff_iff, List.any_eq_true, beq_iff_eq]
  constructor
  · rintro ⟨r, hr, hh⟩
    simp only [Bool.and_eq_true, beq_iff_eq] at hh
    rw [owner_eq h hr hh.2]; exact hh.1.symm
  · intro e
    obtain ⟨o1, o2⟩ := owner_spec h k
    exact ⟨owner l k, o1, by rw [o2, ← e]; simp⟩
theorem p82_eq {k : List Rg} (h : ChOk k) (key : Str) (v0 v2 v6 v7 v8 v9 v10 v11 v12 v13 v14 v15 v16 v17 v18 v19 v20) :
    law11_ChartOne_p82' v0 key v2 k 0 1 v6 v7 v8 v9 v10 v11 v12 v13 v14 v15 v16 v17 v18 v19 v20 = some (v0, key, v2, k, 1, v6, v7, v8, v9, v10, v11, v12, v13, v14, v15, v16, v17, v18, v19, v20) := by
  have hg := mem_epoch h (owner_spec h key).1
  have key0 := fold_loop (upTo 16) (fun (n : Int) g => bif g == (owner k key).2.1 then n + 1 else n) 0 (fun i n => law11_ChartOne_p82' v0 key v2 k n ((i + 1 : Nat) : Int) v6 v7 v8 v9 v10 v11 v12 v13 v14 v15 v16 v17 v18 v19 v20) (out := fun n => some (v0, key, v2, k, n, v6, v7, v8, v9, v10, v11, v12, v13, v14, v15, v16, v17, v18, v19, v20)) (fun i hi => by
    try dsimp only
    rw [upTo_len] at hi
    obtain ⟨h1, h2⟩ := owned_in h ((i + 1 : Nat) : Int) key
    have hc : (((upTo 16).take i).filter fun g => g == (owner k key).2.1).length ≤ 16 := Nat.le_trans (List.length_filter_le _ _) (by rw [List.length_take, upTo_len]; omega)
    rw [upTo_get (by rw [upTo_len]; exact hi), foldl_count, law11_ChartOne_p82_eq, decide_eq_true (by omega), Owned_eq h]
    simp only [cond_true, Option.bind_some]
    rw [sp.refIn_eq (by omega), h1, wrap_succ (by omega)]
    simp only [Option.bind_some, Int.zero_add]
    rw [i64_in (by omega) (by omega)]
    cases (((i + 1 : Nat) : Int) == (owner k key).2.1) <;> rfl) (by
    try dsimp only
    rw [upTo_len, law11_ChartOne_p82_eq, decide_eq_false (by omega)]; rfl)
  try dsimp only at key0
  simp only [show ((0 + 1 : Nat) : Int) = 1 from rfl] at key0
  rw [key0, foldl_count]
  have : (upTo 16).filter (fun g => g == (owner k key).2.1) = [(owner k key).2.1] := by
    refine ((rise_upTo 16).filter _).ext (by simp) fun x => ?_
    rw [List.mem_filter, mem_upTo, List.mem_singleton, beq_iff_eq]
    exact ⟨fun hh => hh.2, fun e => ⟨by rw [e]; exact ⟨hg.g1, hg.g2⟩, e⟩⟩
  rw [this]
  rfl
def doC (l : List Rg) (t : Tn) : List Rg × Int := bif t.1 == 0 then splitOf l t.2.1 else bif t.1 == 1 then mergeOf l t.2.1 else moveOf l t.2.1 t.2.2
theorem p37_eq {l : List Rg} (hl : l.length ≤ 1048576) (ts : List Tn) (key : Str) (i w j : Int) (b : Bool) (t : Tn) :
    law11_ChartOne_p37' l ts key i w j b t = some (l, ts, key, i, w, (doC l t).1, (doC l t).2, j, b, t) := by
  unfold law11_ChartOne_p37' doC
  rw [chSplit_eq hl, chMerge_eq hl, chMove_eq hl]
  cases (t.1 == 0) <;> cases (t.1 == 1) <;> rfl
def movedB (l : List Rg) (key : Str) (t : Tn) : Bool := bif t.1 != 0 then (bif t.1 != 1 then spHas (owner l key).1 t.2.1 else false) else false
theorem p66_eq {l : List Rg} (h : ChOk l) (key : Str) (ts v3 v5 v6 v7 v8 v9 v10 v11 v12 v13 v14 v15 v16 v17) (t : Tn) :
    law11_ChartOne_p66' l ts key v3 (findIx l key : Int) v5 v6 v7 v8 v9 v10 v11 v12 v13 v14 v15 v16 v17 t = some (l, ts, key, v3, (findIx l key : Int), v5, v6, movedB l key t, v7, v8, v9, v10, v11, v12, v13, v14, v15, v16, v17, t) := by
  obtain ⟨_, hi, _⟩ := findIx_spec h key
  unfold law11_ChartOne_p66' movedB
  rw [at?_getD hi rg0]
  simp only [Option.bind_some, ref10Has_eq]
  cases (t.1 != 0) <;> cases (t.1 != 1) <;> rfl
/-- What a turn does. -/
structure OneOk (l k : List Rg) (key : Str) (t : Tn) : Prop where
  ok : ChOk k
  ver : ver k = ver l + 1
  moved : movedB l key t = true → (owner k key).2.1 = t.2.2
  kept : movedB l key t = false → (owner k key).2.1 = (owner l key).2.1
theorem do_one {l : List Rg} (h : ChOk l) (key : Str) {t : Tn} (he : (doC l t).2 = 0) : OneOk l (doC l t).1 key t := by
  have hv := ver_le h
  unfold doC at *
  cases h0 : (t.1 == 0) with
  | true =>
    rw [h0] at he
    obtain ⟨_, T⟩ := split_one h he
    have hb : (t.1 != 0) = false := by simp only [bne, h0]; rfl
    exact ⟨T.ok, turned_ver (by simp) hv.1 T, fun hm => (by unfold movedB at hm; rw [hb] at hm; cases hm), fun _ => (split_owner h he key).1⟩
  | false =>
    rw [h0] at he
    have hb : (t.1 != 0) = true := by simp only [bne, h0]; rfl
    cases h1 : (t.1 == 1) with
    | true =>
      rw [h1] at he
      obtain ⟨_, _, _, T⟩ := merge_one h he
      have hb1 : (t.1 != 1) = false := by simp only [bne, h1]; rfl
      exact ⟨T.ok, turned_ver (by simp) hv.1 T, fun hm => (by unfold movedB at hm; rw [hb, hb1] at hm; cases hm), fun _ => (merge_owner h he key).1⟩
    | false =>
      rw [h1] at he
      have hb1 : (t.1 != 1) = true := by simp only [bne, h1]; rfl
      simp only [cond_false] at he ⊢
      obtain ⟨_, _, _, T, _⟩ := move_one h he
      obtain ⟨m1, m2⟩ := move_owner h he key
      have hmv : movedB l key t = spHas (owner l key).1 t.2.1 := by unfold movedB; rw [hb, hb1]; rfl
      obtain ⟨o1, o2⟩ := owner_spec h key
      refine ⟨T.ok, turned_ver (by simp) hv.1 T, fun hm => ?_, fun hm => ?_⟩
      · rw [hmv] at hm
        rw [m1 (owner_eq h o1 hm).symm]
      · rw [m2]
        intro e
        rw [hmv, e, (owner_spec h t.2.1).2] at hm; cases hm
theorem one_loop (ts : List Tn) {key : Str} (hk : (key.length : Int) ≤ 64) (l0 : List Rg) (h0 : ChOk l0) : law11_ChartOne_p14' l0 ts key 0 = some (.inl ()) := by
  have loop := loop_inv (min ts.length 100) (fun i (l : List Rg) => law11_ChartOne_p14' l ts key (i : Int)) (fun i l => ChOk l) (fun r => r = some (.inl ()))
    (fun i l hi h => by
      left
      try dsimp only
      have hl : l.length ≤ 1048576 := by have := h.len2; omega
      rw [law11_ChartOne_p14_eq, decide_eq_true (by omega : (i : Int) < (ts.length : Int)), decide_eq_true (by omega : (i : Int) < 100), at?_lt (by omega : i < ts.length)]
      simp only [cond_true, Option.bind_some]
      generalize ts[i]'(by omega) = t
      rw [chFind_eq hl, chMay_iff.2 h, decide_eq_true hk]
      simp only [Bool.and_self, cond_true, Option.bind_some, bne_self_eq_false, cond_false]
      rw [p37_eq hl]
      simp only [Option.bind_some]
      by_cases he : (doC l t).2 = 0
      · have K := do_one h key he
        have hlk : (doC l t).1.length ≤ 1048576 := by have := K.ok.len2; omega
        refine ⟨(doC l t).1, ?_, K.ok⟩
        have hv := ver_le h
        rw [show ((doC l t).2 != 0) = false by simpa using he]
        simp only [cond_false]
        obtain ⟨_, hi1, _⟩ := findIx_spec h key
        obtain ⟨_, hi2, _⟩ := findIx_spec K.ok key
        rw [chFind_eq hlk, chMay_iff.2 K.ok, decide_eq_true hk]
        simp only [Bool.and_self, cond_true, Option.bind_some, bne_self_eq_false, cond_false]
        rw [refMay_eq hlk, chMay_iff.2 K.ok]
        simp only [Option.bind_some, Bool.not_true, cond_false]
        rw [chVersion_eq hlk, chVersion_eq hl, chMay_iff.2 K.ok, chMay_iff.2 h]
        simp only [cond_true, Option.bind_some]
        rw [u64_in (n := ver l + 1) (by omega) (by omega), K.ver]
        simp only [bne_self_eq_false, cond_false]
        rw [p66_eq h]
        simp only [Option.bind_some]
        rw [at?_getD hi1 rg0, at?_getD hi2 rg0]
        simp only [Option.bind_some]
        have e1 : nth l (findIx l key) rg0 = owner l key := rfl
        have e2 : nth (doC l t).1 (findIx (doC l t).1 key) rg0 = owner (doC l t).1 key := rfl
        rw [e1, e2]
        cases hm : movedB l key t with
        | true =>
          rw [K.moved hm]
          simp only [cond_true, bne_self_eq_false, cond_false, Bool.not_true]
          rw [p82_eq K.ok]
          simp only [Option.bind_some, bne_self_eq_false, cond_false]
          rw [wrap_succ (by omega)]
        | false =>
          rw [K.kept hm]
          simp only [cond_true, bne_self_eq_false, cond_false, Bool.not_false]
          rw [p82_eq K.ok]
          simp only [Option.bind_some, bne_self_eq_false, cond_false]
          rw [wrap_succ (by omega)]
      · refine ⟨l, ?_, h⟩
        rw [show ((doC l t).2 != 0) = true by simpa using he, wrap_succ (by omega)]
        rfl)
    (fun l h => by
      try dsimp only
      rw [law11_ChartOne_p14_eq]
      by_cases hl : ts.length ≤ 100
      · rw [decide_eq_false (by omega)]; rfl
      · rw [decide_eq_true (by omega : ((min ts.length 100 : Nat) : Int) < (ts.length : Int)), decide_eq_false (by omega : ¬ ((min ts.length 100 : Nat) : Int) < 100)]; rfl)
  exact loop 0 l0 (by omega) h0
theorem law_ChartOne (l : List Rg) (ts : List Tn) (key : Str) (hl : l.length ≤ 1048576) : ∃ k, law11_ChartOne k l ts key = some true := by
  refine (law11_ChartOne_lm l ts key).fin ?_
  unfold law11_ChartOne'
  rw [awake11_eq, refMay_eq hl]
  simp only [Option.bind_some]
  cases hm : chMay l with
  | false => rfl
  | true =>
    simp only [Bool.not_true, cond_false]
    by_cases hk : (key.length : Int) > 64
    · rw [decide_eq_true hk]; rfl
    · rw [decide_eq_false hk, one_loop ts (by omega) l (chMay_iff.1 hm)]
      rfl
end Go.Proofs.Ytdmegcnkfngojaa.gg
