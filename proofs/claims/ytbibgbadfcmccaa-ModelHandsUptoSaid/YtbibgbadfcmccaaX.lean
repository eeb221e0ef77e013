/- Calls done to a table: the second reading, and the four laws. -/
import Derived.Test.YtbibgbadfcmccaaB
open Go Go.GG
set_option linter.unusedVariables false
set_option linter.unusedSimpArgs false
namespace Go.Proofs.Ytbibgbadfcmccaa.gg
theorem gt_zero (n : Nat) : ((n : Int) == 0) = !decide ((n : Int) > 0) := by
  by_cases h : n = 0
  · subst h; rfl
  · rw [decide_eq_true (by omega : (n : Int) > 0), beq_eq_false_iff_ne.2 (by omega)]; rfl
theorem ref65_set {l : List Mk} (hl : l.length ≤ 1000) {ks : List Str} (hk : ks.length ≤ 1000) (tok ttl : Int) : ref24_Does_p65' l (ks.length : Int) 0 (2, ks, tok, ttl) = some (allF l ks 0) := by
  have key0 := fold_loop ks (fun l k => setF l k 0) l (fun i s => ref24_Does_p65' s (ks.length : Int) (i : Int) (2, ks, tok, ttl)) (out := fun s => some s) (fun i hi => by
    try dsimp only
    have hf := fold_set_len 0 (ks.take i) l
    generalize (ks.take i).foldl (fun l k => setF l k 0) l = s at *
    rw [List.length_take] at hf
    rw [ref24_Does_p65_eq, decide_eq_true (by omega : (i : Int) < (ks.length : Int)), at?_lt hi, wrap_succ (by omega)]
    simp only [Int.reduceBEq, beq_self_eq_true, cond_true, cond_false, Option.bind_some, Bool.not_false, Bool.not_true, Bool.not_not, Bool.true_and, Bool.false_and, Bool.and_true, Bool.and_false, Bool.or_false, Bool.or_true, Bool.true_or, Bool.false_or, show (false == true) = false from rfl, show (true == false) = false from rfl]
    rw [Set_eq (by omega)]
    rfl) (by
    try dsimp only
    rw [ref24_Does_p65_eq, decide_eq_false (by omega : ¬ (ks.length : Int) < (ks.length : Int))]; rfl)
  exact key0
theorem ref65_keep {l : List Mk} {ks : List Str} (tok ttl : Int) : ref24_Does_p65' l (ks.length : Int) 0 (3, ks, tok, ttl) = some l := by
  rw [ref24_Does_p65_eq]
  cases decide ((0 : Int) < (ks.length : Int)) <;> rfl
theorem ref96_eq {l : List Mk} (hl : l.length ≤ 1000) {ks : List Str} (hk : ks.length ≤ 1000) (k tok ttl : Int) (r : Rp) : ref24_Does_p96' l (ks.length : Int) 0 (k, ks, tok, ttl) r = some (allF l ks r.2.1) := by
  obtain ⟨c, t, hs⟩ := r
  have key0 := fold_loop ks (fun l k => setF l k t) l (fun i s => ref24_Does_p96' s (ks.length : Int) (i : Int) (k, ks, tok, ttl) (c, t, hs)) (out := fun s => some s) (fun i hi => by
    try dsimp only
    have hf := fold_set_len t (ks.take i) l
    generalize (ks.take i).foldl (fun l k => setF l k t) l = s at *
    rw [List.length_take] at hf
    rw [ref24_Does_p96_eq, decide_eq_true (by omega : (i : Int) < (ks.length : Int)), at?_lt hi, wrap_succ (by omega)]
    simp only [Int.reduceBEq, beq_self_eq_true, cond_true, cond_false, Option.bind_some, Bool.not_false, Bool.not_true, Bool.not_not, Bool.true_and, Bool.false_and, Bool.and_true, Bool.and_false, Bool.or_false, Bool.or_true, Bool.true_or, Bool.false_or, show (false == true) = false from rfl, show (true == false) = false from rfl]
    rw [Set_eq (by omega)]
    rfl) (by
    try dsimp only
    rw [ref24_Does_p96_eq, decide_eq_false (by omega : ¬ (ks.length : Int) < (ks.length : Int))]; rfl)
  exact key0
theorem ref123_eq {l : List Mk} (hl : l.length ≤ 1000) {ks : List Str} (hk : ks.length ≤ 1000) (k tok ttl : Int) (r : Rp) (hr : r.2.2.length = ks.length) :
    ref24_Does_p123' l (ks.length : Int) 0 (k, ks, tok, ttl) r = bif heldB l ks r.2.2 then some (.inl l) else some (.inr false) := by
  obtain ⟨c, t, hs⟩ := r
  simp only at hr
  have key := check_loop ks.length (fun i => ref24_Does_p123' l (ks.length : Int) (i : Int) (k, ks, tok, ttl) (c, t, hs)) (fun i => whoOf l (nth ks i []) == nth hs i 0) (a := some (.inl l)) (b := some (.inr false)) (fun i hi => by
    try dsimp only
    rw [ref24_Does_p123_eq, decide_eq_true (by omega : (i : Int) < (ks.length : Int)), at?_getD hi [], wrap_succ (by omega)]
    simp only [Int.reduceBEq, beq_self_eq_true, cond_true, cond_false, Option.bind_some, Bool.not_false, Bool.not_true, Bool.not_not, Bool.true_and, Bool.false_and, Bool.and_true, Bool.and_false, Bool.or_false, Bool.or_true, Bool.true_or, Bool.false_or, show (false == true) = false from rfl, show (true == false) = false from rfl]
    rw [refWho_eq (by omega), at?_getD (by omega : i < hs.length) 0]
    simp only [Int.reduceBEq, beq_self_eq_true, cond_true, cond_false, Option.bind_some, Bool.not_false, Bool.not_true, Bool.not_not, Bool.true_and, Bool.false_and, Bool.and_true, Bool.and_false, Bool.or_false, Bool.or_true, Bool.true_or, Bool.false_or, show (false == true) = false from rfl, show (true == false) = false from rfl, bne]
    cases (whoOf l (nth ks i []) == nth hs i 0) <;> rfl) (by
    try dsimp only
    rw [ref24_Does_p123_eq, decide_eq_false (by omega : ¬ (ks.length : Int) < (ks.length : Int))]; rfl)
  exact key
theorem refDoes_eq {l : List Mk} (hl : l.length ≤ 1000) (c : Cl) (hc : c.2.1.length ≤ 1000) (r : Rp) : ref24_Does' l c r = some (doesOf l c r) := by
  obtain ⟨k, ks, tok, ttl⟩ := c
  obtain ⟨code, tk, hs⟩ := r
  simp only at hc
  unfold ref24_Does' doesOf
  rw [MayCall_eq _ (by simp only; omega), Table_eq (by omega)]
  cases hm : mayC (k, ks, tok, ttl) with
  | false => rfl
  | true =>
  cases ht : tblB l with
  | false => rfl
  | true =>
  have hkind := kind_cases hm
  have hs0 := count_eq (l := l) (by omega) (ks := ks) (by omega) 0
  have hs2 := count_eq (l := l) (by omega) (ks := ks) (by omega) tok
  have hc0 := count_lt l ks 0
  have hc2 := count_lt l ks tok
  simp only at hkind
  unfold ref24_Does_p10' ref24_Does_p14' ref24_Does_p20' ref24_kept'
  simp only [Int.reduceBEq, beq_self_eq_true, cond_true, cond_false, Option.bind_some, Bool.not_false, Bool.not_true, Bool.not_not, Bool.true_and, Bool.false_and, Bool.and_true, Bool.and_false, Bool.or_false, Bool.or_true, Bool.true_or, Bool.false_or, show (false == true) = false from rfl, show (true == false) = false from rfl, bne, plainB]
  have e1 : (bif tk == 0 then some (l, (hs.length : Int) == 0, (k, ks, tok, ttl), (code, tk, hs)) else some (l, false, (k, ks, tok, ttl), (code, tk, hs))) = some (l, plainB (code, tk, hs), (k, ks, tok, ttl), (code, tk, hs)) := by
    simp only [plainB, gt_zero]
    cases (tk == 0) <;> rfl
  rw [e1]
  simp only [Int.reduceBEq, beq_self_eq_true, cond_true, cond_false, Option.bind_some, Bool.not_false, Bool.not_true, Bool.not_not, Bool.true_and, Bool.false_and, Bool.and_true, Bool.and_false, Bool.or_false, Bool.or_true, Bool.true_or, Bool.false_or, show (false == true) = false from rfl, show (true == false) = false from rfl]
  have e2 : (bif k == 2 then some (l, plainB (code, tk, hs), (ks.length : Int), true, (k, ks, tok, ttl), (code, tk, hs)) else some (l, plainB (code, tk, hs), (ks.length : Int), k == 3, (k, ks, tok, ttl), (code, tk, hs))) = some (l, plainB (code, tk, hs), (ks.length : Int), (k == 2 || k == 3), (k, ks, tok, ttl), (code, tk, hs)) := by
    cases (k == 2) <;> rfl
  rw [e2]
  simp only [Int.reduceBEq, beq_self_eq_true, cond_true, cond_false, Option.bind_some, Bool.not_false, Bool.not_true, Bool.not_not, Bool.true_and, Bool.false_and, Bool.and_true, Bool.and_false, Bool.or_false, Bool.or_true, Bool.true_or, Bool.false_or, show (false == true) = false from rfl, show (true == false) = false from rfl]
  cases h9 : (code == 9) with
  | true => simp only [Int.reduceBEq, beq_self_eq_true, cond_true, cond_false, Option.bind_some, Bool.not_false, Bool.not_true, Bool.not_not, Bool.true_and, Bool.false_and, Bool.and_true, Bool.and_false, Bool.or_false, Bool.or_true, Bool.true_or, Bool.false_or, show (false == true) = false from rfl, show (true == false) = false from rfl, plainB]; cases (tk == 0 && !decide ((hs.length : Int) > 0)) <;> rfl
  | false =>
  cases h2 : (code == 2) with
  | true => simp only [Int.reduceBEq, beq_self_eq_true, cond_true, cond_false, Option.bind_some, Bool.not_false, Bool.not_true, Bool.not_not, Bool.true_and, Bool.false_and, Bool.and_true, Bool.and_false, Bool.or_false, Bool.or_true, Bool.true_or, Bool.false_or, show (false == true) = false from rfl, show (true == false) = false from rfl, plainB]; cases (tk == 0 && !decide ((hs.length : Int) > 0)) <;> rfl
  | false =>
  simp only [Int.reduceBEq, beq_self_eq_true, cond_true, cond_false, Option.bind_some, Bool.not_false, Bool.not_true, Bool.not_not, Bool.true_and, Bool.false_and, Bool.and_true, Bool.and_false, Bool.or_false, Bool.or_true, Bool.true_or, Bool.false_or, show (false == true) = false from rfl, show (true == false) = false from rfl]
  cases h11 : (code == 11) with
  | true => simp only [Int.reduceBEq, beq_self_eq_true, cond_true, cond_false, Option.bind_some, Bool.not_false, Bool.not_true, Bool.not_not, Bool.true_and, Bool.false_and, Bool.and_true, Bool.and_false, Bool.or_false, Bool.or_true, Bool.true_or, Bool.false_or, show (false == true) = false from rfl, show (true == false) = false from rfl, plainB]; cases (tk == 0 && !decide ((hs.length : Int) > 0)) <;> rfl
  | false =>
  simp only [Int.reduceBEq, beq_self_eq_true, cond_true, cond_false, Option.bind_some, Bool.not_false, Bool.not_true, Bool.not_not, Bool.true_and, Bool.false_and, Bool.and_true, Bool.and_false, Bool.or_false, Bool.or_true, Bool.true_or, Bool.false_or, show (false == true) = false from rfl, show (true == false) = false from rfl]
  cases h8 : (code == 8) with
  | true =>
    simp only [Int.reduceBEq, beq_self_eq_true, cond_true, cond_false, Option.bind_some, Bool.not_false, Bool.not_true, Bool.not_not, Bool.true_and, Bool.false_and, Bool.and_true, Bool.and_false, Bool.or_false, Bool.or_true, Bool.true_or, Bool.false_or, show (false == true) = false from rfl, show (true == false) = false from rfl, plainB, hs0, hc0]
    cases (tk == 0 && !decide ((hs.length : Int) > 0)) <;> cases (k == 1) <;> cases otherB l ks 0 <;> rfl
  | false =>
  simp only [Int.reduceBEq, beq_self_eq_true, cond_true, cond_false, Option.bind_some, Bool.not_false, Bool.not_true, Bool.not_not, Bool.true_and, Bool.false_and, Bool.and_true, Bool.and_false, Bool.or_false, Bool.or_true, Bool.true_or, Bool.false_or, show (false == true) = false from rfl, show (true == false) = false from rfl]
  cases h4 : (code == 4) with
  | true =>
    simp only [Int.reduceBEq, beq_self_eq_true, cond_true, cond_false, Option.bind_some, Bool.not_false, Bool.not_true, Bool.not_not, Bool.true_and, Bool.false_and, Bool.and_true, Bool.and_false, Bool.or_false, Bool.or_true, Bool.true_or, Bool.false_or, show (false == true) = false from rfl, show (true == false) = false from rfl, plainB, hs2, hc2]
    cases (tk == 0 && !decide ((hs.length : Int) > 0)) <;> cases (k == 2 || k == 3) <;> cases otherB l ks tok <;> rfl
  | false =>
  simp only [Int.reduceBEq, beq_self_eq_true, cond_true, cond_false, Option.bind_some, Bool.not_false, Bool.not_true, Bool.not_not, Bool.true_and, Bool.false_and, Bool.and_true, Bool.and_false, Bool.or_false, Bool.or_true, Bool.true_or, Bool.false_or, show (false == true) = false from rfl, show (true == false) = false from rfl]
  cases h0 : (code == 0) with
  | false => rfl
  | true =>
  unfold doneOf
  simp only [Int.reduceBEq, beq_self_eq_true, cond_true, cond_false, Option.bind_some, Bool.not_false, Bool.not_true, Bool.not_not, Bool.true_and, Bool.false_and, Bool.and_true, Bool.and_false, Bool.or_false, Bool.or_true, Bool.true_or, Bool.false_or, show (false == true) = false from rfl, show (true == false) = false from rfl, hs0, hs2, hc0, hc2]
  rcases hkind with rfl | rfl | rfl | rfl
  · simp only [Int.reduceBEq, beq_self_eq_true, cond_true, cond_false, Option.bind_some, Bool.not_false, Bool.not_true, Bool.not_not, Bool.true_and, Bool.false_and, Bool.and_true, Bool.and_false, Bool.or_false, Bool.or_true, Bool.true_or, Bool.false_or, show (false == true) = false from rfl, show (true == false) = false from rfl]
    rw [ref96_eq hl hc]
    cases htk : (tk == 0) with
    | true => rfl
    | false =>
      cases hh : decide ((hs.length : Int) > 0) with
      | true => rfl
      | false => cases otherB l ks 0 <;> rfl
  · simp only [Int.reduceBEq, beq_self_eq_true, cond_true, cond_false, Option.bind_some, Bool.not_false, Bool.not_true, Bool.not_not, Bool.true_and, Bool.false_and, Bool.and_true, Bool.and_false, Bool.or_false, Bool.or_true, Bool.true_or, Bool.false_or, show (false == true) = false from rfl, show (true == false) = false from rfl, plainB]
    rw [ref65_set hl hc]
    cases (tk == 0 && !decide ((hs.length : Int) > 0)) <;> cases otherB l ks tok <;> rfl
  · simp only [Int.reduceBEq, beq_self_eq_true, cond_true, cond_false, Option.bind_some, Bool.not_false, Bool.not_true, Bool.not_not, Bool.true_and, Bool.false_and, Bool.and_true, Bool.and_false, Bool.or_false, Bool.or_true, Bool.true_or, Bool.false_or, show (false == true) = false from rfl, show (true == false) = false from rfl, plainB]
    rw [ref65_keep]
    cases (tk == 0 && !decide ((hs.length : Int) > 0)) <;> cases otherB l ks tok <;> rfl
  · simp only [Int.reduceBEq, beq_self_eq_true, cond_true, cond_false, Option.bind_some, Bool.not_false, Bool.not_true, Bool.not_not, Bool.true_and, Bool.false_and, Bool.and_true, Bool.and_false, Bool.or_false, Bool.or_true, Bool.true_or, Bool.false_or, show (false == true) = false from rfl, show (true == false) = false from rfl]
    cases htk : (tk == 0) with
    | false => rfl
    | true =>
      cases hle : ((hs.length : Int) == (ks.length : Int)) with
      | false => rfl
      | true =>
        rw [beq_iff_eq] at hle
        simp only [Int.reduceBEq, beq_self_eq_true, cond_true, cond_false, Option.bind_some, Bool.not_false, Bool.not_true, Bool.not_not, Bool.true_and, Bool.false_and, Bool.and_true, Bool.and_false, Bool.or_false, Bool.or_true, Bool.true_or, Bool.false_or, show (false == true) = false from rfl, show (true == false) = false from rfl]
        rw [ref123_eq hl hc _ _ _ _ (by simp only; omega)]
        cases heldB l ks hs <;> rfl
/-! ### The same -/
theorem Same_refl {a : List Mk} (hl : a.length ≤ 1048577) : ref24_Same' a a = some true := by
  have key := check_loop a.length (fun i => ref24_Same_p14' a a (i : Int)) (fun _ => true) (a := some (.inl ())) (b := some (.inr false)) (fun i hi => by
    try dsimp only
    rw [ref24_Same_p14_eq, decide_eq_true (by omega : (i : Int) < (a.length : Int)), at?_lt hi, wrap_succ (by omega)]
    simp only [cond_true, Option.bind_some]
    rw [(eqb_iff (t := .pair .str (.int .u64)) rfl _ _).2 rfl]; rfl) (by
    try dsimp only
    rw [ref24_Same_p14_eq, decide_eq_false (by omega : ¬ (a.length : Int) < (a.length : Int))]; rfl)
  unfold ref24_Same'
  simp only [show ((0 : Nat) : Int) = 0 from rfl] at key
  rw [key, show allB a.length (fun _ => true) = true from allB_iff.2 fun _ _ => rfl]
  simp
theorem keptF_len {l : List Mk} {b : Bool} {n : Nat} (h : l.length ≤ n) : (keptF l b).1.length ≤ n := by
  unfold keptF
  cases b
  · simp
  · exact h
theorem does_len {l : List Mk} {c : Cl} {r : Rp} : (doesOf l c r).1.length ≤ l.length + c.2.1.length := by
  unfold doesOf doneOf
  have h1 := fold_set_len r.2.1 c.2.1 l
  have h2 := fold_set_len 0 c.2.1 l
  cases (mayC c && tblB l)
  · simp
  cases (r.1 == 9 || (r.1 == 2 || r.1 == 11))
  · cases (r.1 == 8)
    · cases (r.1 == 4)
      · cases (r.1 == 0)
        · simp
        · cases (c.1 == 1)
          · cases (c.1 == 2)
            · cases (c.1 == 3)
              · exact keptF_len (by omega)
              · exact keptF_len (by omega)
            · exact keptF_len h2
          · exact keptF_len h1
      · exact keptF_len (by omega)
    · exact keptF_len (by omega)
  · exact keptF_len (by omega)
/-! ### Some keys may have run out -/
def exH (l : List Mk) (ks : List Str) (hs : List Int) : List Mk := (List.range ks.length).foldl (fun s j => bif nth hs j 0 == 0 then setF s (nth ks j []) 0 else s) l
def preOf (l : List Mk) (c : Cl) (r : Rp) : List Mk :=
  bif r.1 == 0 then (bif c.1 == 1 then allF l c.2.1 0 else bif c.1 == 4 && ((r.2.2.length : Int) == (c.2.1.length : Int)) then exH l c.2.1 r.2.2 else l)
  else bif r.1 == 4 && !otherB l c.2.1 c.2.2.1 then setF l (nth c.2.1 0 []) 0 else l
def mayOf (l : List Mk) (c : Cl) (r : Rp) : List Mk × Bool := bif mayC c && tblB l then doesOf (preOf l c r) c r else ([], false)
theorem set0_len (l : List Mk) (k : Str) : (setF l k 0).length ≤ l.length := expire_len l k
theorem exH_len (l : List Mk) (ks : List Str) (hs : List Int) : ∀ (js : List Nat), (js.foldl (fun s j => bif nth hs j 0 == 0 then setF s (nth ks j []) 0 else s) l).length ≤ l.length := by
  intro js
  induction js generalizing l with
  | nil => simp
  | cons j js ih =>
    rw [List.foldl_cons]
    refine Nat.le_trans (ih _) ?_
    cases (nth hs j 0 == 0)
    · exact Nat.le_refl _
    · exact set0_len _ _
theorem all0_len : ∀ (ks : List Str) (l : List Mk), (ks.foldl (fun l k => setF l k 0) l).length ≤ l.length
  | [], l => Nat.le_refl _
  | k :: ks, l => Nat.le_trans (all0_len ks _) (set0_len l k)
theorem pre_len (l : List Mk) (c : Cl) (r : Rp) : (preOf l c r).length ≤ l.length := by
  unfold preOf
  cases (r.1 == 0)
  · cases (r.1 == 4 && !otherB l c.2.1 c.2.2.1)
    · exact Nat.le_refl _
    · exact set0_len _ _
  · cases (c.1 == 1)
    · cases (c.1 == 4 && ((r.2.2.length : Int) == (c.2.1.length : Int)))
      · exact Nat.le_refl _
      · exact exH_len _ _ _ _
    · exact all0_len _ _
theorem may18_eq {l : List Mk} (hl : l.length ≤ 1000) {c : Cl} (hk : c.2.1.length ≤ 1000) (r : Rp) : model_May_p18' l c.2.1 (c.2.1.length : Int) 0 c r = some (allF l c.2.1 0, c, r) := by
  obtain ⟨k, ks, tok, ttl⟩ := c
  obtain ⟨code, tk, hs⟩ := r
  simp only at hk ⊢
  have key0 := fold_loop ks (fun l k => setF l k 0) l (fun i s => model_May_p18' s ks (ks.length : Int) (i : Int) (k, ks, tok, ttl) (code, tk, hs)) (out := fun s => some (s, (k, ks, tok, ttl), (code, tk, hs))) (fun i hi => by
    try dsimp only
    have hf := fold_set_len 0 (ks.take i) l
    generalize (ks.take i).foldl (fun l k => setF l k 0) l = s at *
    rw [List.length_take] at hf
    rw [model_May_p18_eq, decide_eq_true (by omega : (i : Int) < (ks.length : Int)), at?_lt hi, wrap_succ (by omega)]
    simp only [Int.reduceBEq, beq_self_eq_true, cond_true, cond_false, Option.bind_some, Bool.not_false, Bool.not_true, Bool.not_not, Bool.true_and, Bool.false_and, Bool.and_true, Bool.and_false, Bool.or_false, Bool.or_true, Bool.true_or, Bool.false_or, show (false == true) = false from rfl, show (true == false) = false from rfl]
    rw [Expire_eq (by omega)]
    rfl) (by
    try dsimp only
    rw [model_May_p18_eq, decide_eq_false (by omega : ¬ (ks.length : Int) < (ks.length : Int))]; rfl)
  exact key0
theorem may41_eq {l : List Mk} (hl : l.length ≤ 1000) {c : Cl} (hk : c.2.1.length ≤ 1000) (r : Rp) (hr : r.2.2.length = c.2.1.length) : model_May_p41' l c.2.1 (c.2.1.length : Int) 0 c r = some (exH l c.2.1 r.2.2, c, r) := by
  obtain ⟨k, ks, tok, ttl⟩ := c
  obtain ⟨code, tk, hs⟩ := r
  simp only at hk hr ⊢
  have key0 := fold_loop (List.range ks.length) (fun s j => bif nth hs j 0 == 0 then setF s (nth ks j []) 0 else s) l (fun i s => model_May_p41' s ks (ks.length : Int) (i : Int) (k, ks, tok, ttl) (code, tk, hs)) (out := fun s => some (s, (k, ks, tok, ttl), (code, tk, hs))) (fun i hi => by
    try dsimp only
    have hf := exH_len l ks hs ((List.range ks.length).take i)
    rw [List.getElem_range]
    rw [List.length_range] at hi
    generalize ((List.range ks.length).take i).foldl (fun s j => bif nth hs j 0 == 0 then setF s (nth ks j []) 0 else s) l = s at *
    rw [model_May_p41_eq, decide_eq_true (by omega : (i : Int) < (ks.length : Int)), at?_getD hi [], at?_getD (by omega : i < hs.length) 0, wrap_succ (by omega)]
    simp only [Int.reduceBEq, beq_self_eq_true, cond_true, cond_false, Option.bind_some, Bool.not_false, Bool.not_true, Bool.not_not, Bool.true_and, Bool.false_and, Bool.and_true, Bool.and_false, Bool.or_false, Bool.or_true, Bool.true_or, Bool.false_or, show (false == true) = false from rfl, show (true == false) = false from rfl]
    rw [Expire_eq (by omega)]
    cases (nth hs i 0 == 0) <;> rfl) (by
    try dsimp only
    rw [List.length_range, model_May_p41_eq, decide_eq_false (by omega : ¬ (ks.length : Int) < (ks.length : Int))]; rfl)
  exact key0
theorem May_eq {l : List Mk} (hl : l.length ≤ 1000) (c : Cl) (hc : c.2.1.length ≤ 1000) (r : Rp) : model_May' l c r = some (mayOf l c r) := by
  unfold model_May' mayOf
  rw [Check_eq _ (by omega), CheckTable_eq (by omega)]
  cases hm : mayC c with
  | false => rfl
  | true =>
  cases ht : tblB l with
  | false => rfl
  | true =>
  have hk := keys_of hm
  have htb := tbl_iff.1 ht
  have hpl := pre_len l c r
  have hp : model_May_p10' l (c.1, c.2.1, c.2.2.1, c.2.2.2) (r.1, r.2.1, r.2.2) = some (preOf l c r, c, r) := by
    have h18 := may18_eq hl hc r
    have h41 := may41_eq hl hc r
    obtain ⟨k, ks, tok, ttl⟩ := c
    obtain ⟨code, tk, hs⟩ := r
    have hs2 : model_some' l ks (fun y10 => ((model_May_1' y10 (k, ks, tok, ttl)).bind fun z => some z)) = some (otherB l ks tok) := some_eq (by omega) htb.rise (by simp only at hc; omega) _ tok (fun x => rfl)
    simp only at hc hk h18 h41 ⊢
    unfold model_May_p10' model_May_p12' preOf
    simp only [Int.reduceBEq, beq_self_eq_true, cond_true, cond_false, Option.bind_some, Bool.not_false, Bool.not_true, Bool.not_not, Bool.true_and, Bool.false_and, Bool.and_true, Bool.and_false, Bool.or_false, Bool.or_true, Bool.true_or, Bool.false_or, show (false == true) = false from rfl, show (true == false) = false from rfl]
    have e1 : (bif k == 1 then some (l, code == 0, (k, ks, tok, ttl), (code, tk, hs)) else some (l, false, (k, ks, tok, ttl), (code, tk, hs))) = some (l, (code == 0 && k == 1), (k, ks, tok, ttl), (code, tk, hs)) := by cases (k == 1) <;> cases (code == 0) <;> rfl
    rw [e1]
    simp only [Int.reduceBEq, beq_self_eq_true, cond_true, cond_false, Option.bind_some, Bool.not_false, Bool.not_true, Bool.not_not, Bool.true_and, Bool.false_and, Bool.and_true, Bool.and_false, Bool.or_false, Bool.or_true, Bool.true_or, Bool.false_or, show (false == true) = false from rfl, show (true == false) = false from rfl]
    cases hcode : (code == 0) with
    | true =>
      rw [beq_iff_eq] at hcode
      subst hcode
      cases hk1 : (k == 1) with
      | true =>
        simp only [Int.reduceBEq, beq_self_eq_true, cond_true, cond_false, Option.bind_some, Bool.not_false, Bool.not_true, Bool.not_not, Bool.true_and, Bool.false_and, Bool.and_true, Bool.and_false, Bool.or_false, Bool.or_true, Bool.true_or, Bool.false_or, show (false == true) = false from rfl, show (true == false) = false from rfl, h18]
      | false =>
        simp only [Int.reduceBEq, beq_self_eq_true, cond_true, cond_false, Option.bind_some, Bool.not_false, Bool.not_true, Bool.not_not, Bool.true_and, Bool.false_and, Bool.and_true, Bool.and_false, Bool.or_false, Bool.or_true, Bool.true_or, Bool.false_or, show (false == true) = false from rfl, show (true == false) = false from rfl]
        cases hk4 : (k == 4) with
        | false => rfl
        | true =>
          cases hle : ((hs.length : Int) == (ks.length : Int)) with
          | false => rfl
          | true =>
            rw [beq_iff_eq] at hle
            simp only [Int.reduceBEq, beq_self_eq_true, cond_true, cond_false, Option.bind_some, Bool.not_false, Bool.not_true, Bool.not_not, Bool.true_and, Bool.false_and, Bool.and_true, Bool.and_false, Bool.or_false, Bool.or_true, Bool.true_or, Bool.false_or, show (false == true) = false from rfl, show (true == false) = false from rfl, h41 (by omega)]
    | false =>
      simp only [Int.reduceBEq, beq_self_eq_true, cond_true, cond_false, Option.bind_some, Bool.not_false, Bool.not_true, Bool.not_not, Bool.true_and, Bool.false_and, Bool.and_true, Bool.and_false, Bool.or_false, Bool.or_true, Bool.true_or, Bool.false_or, show (false == true) = false from rfl, show (true == false) = false from rfl]
      cases h4 : (code == 4) with
      | true =>
        simp only [Int.reduceBEq, beq_self_eq_true, cond_true, cond_false, Option.bind_some, Bool.not_false, Bool.not_true, Bool.not_not, Bool.true_and, Bool.false_and, Bool.and_true, Bool.and_false, Bool.or_false, Bool.or_true, Bool.true_or, Bool.false_or, show (false == true) = false from rfl, show (true == false) = false from rfl, hs2]
        rw [show (0 : Int) = ((0 : Nat) : Int) from rfl, at?_getD (by omega : 0 < ks.length) []]
        simp only [Int.reduceBEq, beq_self_eq_true, cond_true, cond_false, Option.bind_some, Bool.not_false, Bool.not_true, Bool.not_not, Bool.true_and, Bool.false_and, Bool.and_true, Bool.and_false, Bool.or_false, Bool.or_true, Bool.true_or, Bool.false_or, show (false == true) = false from rfl, show (true == false) = false from rfl]
        rw [Expire_eq (by omega)]
        cases otherB l ks tok with
        | true => cases (k == 4) <;> rfl
        | false => rfl
      | false =>
        simp only [Int.reduceBEq, beq_self_eq_true, cond_true, cond_false, Option.bind_some, Bool.not_false, Bool.not_true, Bool.not_not, Bool.true_and, Bool.false_and, Bool.and_true, Bool.and_false, Bool.or_false, Bool.or_true, Bool.true_or, Bool.false_or, show (false == true) = false from rfl, show (true == false) = false from rfl]
        cases (k == 4) <;> rfl
  simp only [Int.reduceBEq, beq_self_eq_true, cond_true, cond_false, Option.bind_some, Bool.not_false, Bool.not_true, Bool.not_not, Bool.true_and, Bool.false_and, Bool.and_true, Bool.and_false, Bool.or_false, Bool.or_true, Bool.true_or, Bool.false_or, show (false == true) = false from rfl, show (true == false) = false from rfl]
  rw [show ((0 : Int) != 0) = false from rfl]
  simp only [Int.reduceBEq, beq_self_eq_true, cond_true, cond_false, Option.bind_some, Bool.not_false, Bool.not_true, Bool.not_not, Bool.true_and, Bool.false_and, Bool.and_true, Bool.and_false, Bool.or_false, Bool.or_true, Bool.true_or, Bool.false_or, show (false == true) = false from rfl, show (true == false) = false from rfl]
  rw [hp]
  simp only [Int.reduceBEq, beq_self_eq_true, cond_true, cond_false, Option.bind_some, Bool.not_false, Bool.not_true, Bool.not_not, Bool.true_and, Bool.false_and, Bool.and_true, Bool.and_false, Bool.or_false, Bool.or_true, Bool.true_or, Bool.false_or, show (false == true) = false from rfl, show (true == false) = false from rfl]
  rw [Does_eq (by omega) c hc r]
  rfl
theorem refMay14_eq {l : List Mk} (hl : l.length ≤ 1000) {c : Cl} (hk : c.2.1.length ≤ 1000) (r : Rp) : ref24_May_p14' l 0 c r = some ((bif r.1 == 0 then preOf l c r else l), c, r) := by
  obtain ⟨k, ks, tok, ttl⟩ := c
  obtain ⟨code, tk, hs⟩ := r
  simp only at hk ⊢
  unfold preOf
  cases h0 : (code == 0) with
  | false =>
    have key0 := check_loop ks.length (fun i => ref24_May_p14' l (i : Int) (k, ks, tok, ttl) (code, tk, hs)) (fun _ => true) (a := some (l, (k, ks, tok, ttl), (code, tk, hs))) (b := none) (fun i hi => by
      try dsimp only
      rw [ref24_May_p14_eq]
      unfold ref24_May_p23'
      simp only [Int.reduceBEq, beq_self_eq_true, cond_true, cond_false, Option.bind_some, Bool.not_false, Bool.not_true, Bool.not_not, Bool.true_and, Bool.false_and, Bool.and_true, Bool.and_false, Bool.or_false, Bool.or_true, Bool.true_or, Bool.false_or, show (false == true) = false from rfl, show (true == false) = false from rfl, h0]
      rw [decide_eq_true (by omega : (i : Int) < (ks.length : Int)), wrap_succ (by omega)]
      rfl) (by
      try dsimp only
      rw [ref24_May_p14_eq]
      simp only [Int.reduceBEq, beq_self_eq_true, cond_true, cond_false, Option.bind_some, Bool.not_false, Bool.not_true, Bool.not_not, Bool.true_and, Bool.false_and, Bool.and_true, Bool.and_false, Bool.or_false, Bool.or_true, Bool.true_or, Bool.false_or, show (false == true) = false from rfl, show (true == false) = false from rfl]
      rw [decide_eq_false (by omega : ¬ (ks.length : Int) < (ks.length : Int))]; rfl)
    rw [show allB ks.length (fun _ => true) = true from allB_iff.2 fun _ _ => rfl] at key0
    exact key0
  | true =>
    simp only [Int.reduceBEq, beq_self_eq_true, cond_true, cond_false, Option.bind_some, Bool.not_false, Bool.not_true, Bool.not_not, Bool.true_and, Bool.false_and, Bool.and_true, Bool.and_false, Bool.or_false, Bool.or_true, Bool.true_or, Bool.false_or, show (false == true) = false from rfl, show (true == false) = false from rfl]
    cases h1 : (k == 1) with
    | true =>
      have h4 : (k == 4) = false := by rw [beq_iff_eq] at h1; subst h1; rfl
      have key0 := fold_loop ks (fun l k => setF l k 0) l (fun i s => ref24_May_p14' s (i : Int) (k, ks, tok, ttl) (code, tk, hs)) (out := fun s => some (s, (k, ks, tok, ttl), (code, tk, hs))) (fun i hi => by
        try dsimp only
        have hf := fold_set_len 0 (ks.take i) l
        generalize (ks.take i).foldl (fun l k => setF l k 0) l = s at *
        rw [List.length_take] at hf
        rw [ref24_May_p14_eq]
        unfold ref24_May_p23'
        simp only [Int.reduceBEq, beq_self_eq_true, cond_true, cond_false, Option.bind_some, Bool.not_false, Bool.not_true, Bool.not_not, Bool.true_and, Bool.false_and, Bool.and_true, Bool.and_false, Bool.or_false, Bool.or_true, Bool.true_or, Bool.false_or, show (false == true) = false from rfl, show (true == false) = false from rfl, h0, h1, h4]
        rw [decide_eq_true (by omega : (i : Int) < (ks.length : Int)), at?_lt hi]
        simp only [Int.reduceBEq, beq_self_eq_true, cond_true, cond_false, Option.bind_some, Bool.not_false, Bool.not_true, Bool.not_not, Bool.true_and, Bool.false_and, Bool.and_true, Bool.and_false, Bool.or_false, Bool.or_true, Bool.true_or, Bool.false_or, show (false == true) = false from rfl, show (true == false) = false from rfl, h0, h1, h4]
        rw [Set_eq (by omega)]
        simp only [Int.reduceBEq, beq_self_eq_true, cond_true, cond_false, Option.bind_some, Bool.not_false, Bool.not_true, Bool.not_not, Bool.true_and, Bool.false_and, Bool.and_true, Bool.and_false, Bool.or_false, Bool.or_true, Bool.true_or, Bool.false_or, show (false == true) = false from rfl, show (true == false) = false from rfl, h0, h1, h4]
        rw [wrap_succ (by omega)]) (by
        try dsimp only
        rw [ref24_May_p14_eq]
        simp only [Int.reduceBEq, beq_self_eq_true, cond_true, cond_false, Option.bind_some, Bool.not_false, Bool.not_true, Bool.not_not, Bool.true_and, Bool.false_and, Bool.and_true, Bool.and_false, Bool.or_false, Bool.or_true, Bool.true_or, Bool.false_or, show (false == true) = false from rfl, show (true == false) = false from rfl]
        rw [decide_eq_false (by omega : ¬ (ks.length : Int) < (ks.length : Int))]; rfl)
      exact key0
    | false =>
      simp only [Int.reduceBEq, beq_self_eq_true, cond_true, cond_false, Option.bind_some, Bool.not_false, Bool.not_true, Bool.not_not, Bool.true_and, Bool.false_and, Bool.and_true, Bool.and_false, Bool.or_false, Bool.or_true, Bool.true_or, Bool.false_or, show (false == true) = false from rfl, show (true == false) = false from rfl]
      cases h4 : (k == 4 && ((hs.length : Int) == (ks.length : Int))) with
      | true =>
        simp only [Bool.and_eq_true] at h4
        obtain ⟨h4, hle⟩ := h4
        have hle' : hs.length = ks.length := by rw [beq_iff_eq] at hle; omega
        have key0 := fold_loop (List.range ks.length) (fun s j => bif nth hs j 0 == 0 then setF s (nth ks j []) 0 else s) l (fun i s => ref24_May_p14' s (i : Int) (k, ks, tok, ttl) (code, tk, hs)) (out := fun s => some (s, (k, ks, tok, ttl), (code, tk, hs))) (fun i hi => by
          try dsimp only
          have hf := exH_len l ks hs ((List.range ks.length).take i)
          rw [List.getElem_range]
          rw [List.length_range] at hi
          generalize ((List.range ks.length).take i).foldl (fun s j => bif nth hs j 0 == 0 then setF s (nth ks j []) 0 else s) l = s at *
          rw [ref24_May_p14_eq]
          unfold ref24_May_p23'
          simp only [Int.reduceBEq, beq_self_eq_true, cond_true, cond_false, Option.bind_some, Bool.not_false, Bool.not_true, Bool.not_not, Bool.true_and, Bool.false_and, Bool.and_true, Bool.and_false, Bool.or_false, Bool.or_true, Bool.true_or, Bool.false_or, show (false == true) = false from rfl, show (true == false) = false from rfl, h0, h1, h4, hle]
          rw [decide_eq_true (by omega : (i : Int) < (ks.length : Int)), at?_getD (by omega : i < hs.length) 0, at?_getD hi [], wrap_succ (by omega)]
          simp only [Int.reduceBEq, beq_self_eq_true, cond_true, cond_false, Option.bind_some, Bool.not_false, Bool.not_true, Bool.not_not, Bool.true_and, Bool.false_and, Bool.and_true, Bool.and_false, Bool.or_false, Bool.or_true, Bool.true_or, Bool.false_or, show (false == true) = false from rfl, show (true == false) = false from rfl]
          rw [Set_eq (by omega)]
          cases (nth hs i 0 == 0) <;> rfl) (by
          try dsimp only
          rw [List.length_range, ref24_May_p14_eq]
          simp only [Int.reduceBEq, beq_self_eq_true, cond_true, cond_false, Option.bind_some, Bool.not_false, Bool.not_true, Bool.not_not, Bool.true_and, Bool.false_and, Bool.and_true, Bool.and_false, Bool.or_false, Bool.or_true, Bool.true_or, Bool.false_or, show (false == true) = false from rfl, show (true == false) = false from rfl]
          rw [decide_eq_false (by omega : ¬ (ks.length : Int) < (ks.length : Int))]; rfl)
        exact key0
      | false =>
        have key0 := check_loop ks.length (fun i => ref24_May_p14' l (i : Int) (k, ks, tok, ttl) (code, tk, hs)) (fun _ => true) (a := some (l, (k, ks, tok, ttl), (code, tk, hs))) (b := none) (fun i hi => by
          try dsimp only
          rw [ref24_May_p14_eq]
          unfold ref24_May_p23'
          simp only [Int.reduceBEq, beq_self_eq_true, cond_true, cond_false, Option.bind_some, Bool.not_false, Bool.not_true, Bool.not_not, Bool.true_and, Bool.false_and, Bool.and_true, Bool.and_false, Bool.or_false, Bool.or_true, Bool.true_or, Bool.false_or, show (false == true) = false from rfl, show (true == false) = false from rfl, h0, h1]
          rw [decide_eq_true (by omega : (i : Int) < (ks.length : Int)), wrap_succ (by omega)]
          rw [Bool.and_eq_false_iff] at h4
          rcases h4 with h4 | h4
          · simp only [Int.reduceBEq, beq_self_eq_true, cond_true, cond_false, Option.bind_some, Bool.not_false, Bool.not_true, Bool.not_not, Bool.true_and, Bool.false_and, Bool.and_true, Bool.and_false, Bool.or_false, Bool.or_true, Bool.true_or, Bool.false_or, show (false == true) = false from rfl, show (true == false) = false from rfl, h4]
          · simp only [Int.reduceBEq, beq_self_eq_true, cond_true, cond_false, Option.bind_some, Bool.not_false, Bool.not_true, Bool.not_not, Bool.true_and, Bool.false_and, Bool.and_true, Bool.and_false, Bool.or_false, Bool.or_true, Bool.true_or, Bool.false_or, show (false == true) = false from rfl, show (true == false) = false from rfl, h4]
            cases (k == 4) <;> rfl) (by
          try dsimp only
          rw [ref24_May_p14_eq]
          simp only [Int.reduceBEq, beq_self_eq_true, cond_true, cond_false, Option.bind_some, Bool.not_false, Bool.not_true, Bool.not_not, Bool.true_and, Bool.false_and, Bool.and_true, Bool.and_false, Bool.or_false, Bool.or_true, Bool.true_or, Bool.false_or, show (false == true) = false from rfl, show (true == false) = false from rfl]
          rw [decide_eq_false (by omega : ¬ (ks.length : Int) < (ks.length : Int))]; rfl)
        rw [show allB ks.length (fun _ => true) = true from allB_iff.2 fun _ _ => rfl] at key0
        exact key0
theorem count_full (l : List Mk) (ks : List Str) (t : Int) : ((((ks.filter fun k => whoOf l k == t).length : Nat) : Int) == (ks.length : Int)) = !otherB l ks t := by
  rw [← count_lt]
  have h := List.length_filter_le (fun k => whoOf l k == t) ks
  generalize (ks.filter fun k => whoOf l k == t).length = n at *
  by_cases hh : n = ks.length
  · rw [hh, decide_eq_false (by omega)]; simp
  · rw [decide_eq_true (by omega), beq_eq_false_iff_ne.2 (by omega)]; rfl
theorem refMay_eq {l : List Mk} (hl : l.length ≤ 1000) (c : Cl) (hc : c.2.1.length ≤ 1000) (r : Rp) : ref24_May' l c r = some (mayOf l c r) := by
  unfold ref24_May' mayOf
  rw [MayCall_eq _ (by omega), Table_eq (by omega)]
  cases hm : mayC c with
  | false => rfl
  | true =>
  cases ht : tblB l with
  | false => rfl
  | true =>
  have hk := keys_of hm
  have hpl := pre_len l c r
  simp only [Int.reduceBEq, beq_self_eq_true, cond_true, cond_false, Option.bind_some, Bool.not_false, Bool.not_true, Bool.not_not, Bool.true_and, Bool.false_and, Bool.and_true, Bool.and_false, Bool.or_false, Bool.or_true, Bool.true_or, Bool.false_or, show (false == true) = false from rfl, show (true == false) = false from rfl]
  rw [refMay14_eq hl hc r]
  simp only [Int.reduceBEq, beq_self_eq_true, cond_true, cond_false, Option.bind_some, Bool.not_false, Bool.not_true, Bool.not_not, Bool.true_and, Bool.false_and, Bool.and_true, Bool.and_false, Bool.or_false, Bool.or_true, Bool.true_or, Bool.false_or, show (false == true) = false from rfl, show (true == false) = false from rfl]
  cases h0 : (r.1 == 0) with
  | true =>
    have h4 : (r.1 == 4) = false := by rw [beq_iff_eq] at h0; rw [h0]; rfl
    simp only [Int.reduceBEq, beq_self_eq_true, cond_true, cond_false, Option.bind_some, Bool.not_false, Bool.not_true, Bool.not_not, Bool.true_and, Bool.false_and, Bool.and_true, Bool.and_false, Bool.or_false, Bool.or_true, Bool.true_or, Bool.false_or, show (false == true) = false from rfl, show (true == false) = false from rfl, h4]
    rw [refDoes_eq (by omega) c hc r]
    rfl
  | false =>
    simp only [Int.reduceBEq, beq_self_eq_true, cond_true, cond_false, Option.bind_some, Bool.not_false, Bool.not_true, Bool.not_not, Bool.true_and, Bool.false_and, Bool.and_true, Bool.and_false, Bool.or_false, Bool.or_true, Bool.true_or, Bool.false_or, show (false == true) = false from rfl, show (true == false) = false from rfl]
    have hd := refDoes_eq hl c hc r
    unfold preOf at hpl ⊢
    simp only [Int.reduceBEq, beq_self_eq_true, cond_true, cond_false, Option.bind_some, Bool.not_false, Bool.not_true, Bool.not_not, Bool.true_and, Bool.false_and, Bool.and_true, Bool.and_false, Bool.or_false, Bool.or_true, Bool.true_or, Bool.false_or, show (false == true) = false from rfl, show (true == false) = false from rfl, h0]
    rw [h0] at hpl
    cases h4 : (r.1 == 4) with
    | false =>
      simp only [Int.reduceBEq, beq_self_eq_true, cond_true, cond_false, Option.bind_some, Bool.not_false, Bool.not_true, Bool.not_not, Bool.true_and, Bool.false_and, Bool.and_true, Bool.and_false, Bool.or_false, Bool.or_true, Bool.true_or, Bool.false_or, show (false == true) = false from rfl, show (true == false) = false from rfl]
      rw [hd]; rfl
    | true =>
      simp only [Int.reduceBEq, beq_self_eq_true, cond_true, cond_false, Option.bind_some, Bool.not_false, Bool.not_true, Bool.not_not, Bool.true_and, Bool.false_and, Bool.and_true, Bool.and_false, Bool.or_false, Bool.or_true, Bool.true_or, Bool.false_or, show (false == true) = false from rfl, show (true == false) = false from rfl]
      rw [count_eq (by omega) (by omega)]
      simp only [Int.reduceBEq, beq_self_eq_true, cond_true, cond_false, Option.bind_some, Bool.not_false, Bool.not_true, Bool.not_not, Bool.true_and, Bool.false_and, Bool.and_true, Bool.and_false, Bool.or_false, Bool.or_true, Bool.true_or, Bool.false_or, show (false == true) = false from rfl, show (true == false) = false from rfl, count_full]
      rw [h4] at hpl
      cases ho : otherB l c.2.1 c.2.2.1 with
      | true => simp only [Int.reduceBEq, beq_self_eq_true, cond_true, cond_false, Option.bind_some, Bool.not_false, Bool.not_true, Bool.not_not, Bool.true_and, Bool.false_and, Bool.and_true, Bool.and_false, Bool.or_false, Bool.or_true, Bool.true_or, Bool.false_or, show (false == true) = false from rfl, show (true == false) = false from rfl]; rw [hd]; rfl
      | false =>
        rw [ho] at hpl
        simp only [Bool.not_false, Bool.and_self, cond_true, cond_false] at hpl
        simp only [Int.reduceBEq, beq_self_eq_true, cond_true, cond_false, Option.bind_some, Bool.not_false, Bool.not_true, Bool.not_not, Bool.true_and, Bool.false_and, Bool.and_true, Bool.and_false, Bool.or_false, Bool.or_true, Bool.true_or, Bool.false_or, show (false == true) = false from rfl, show (true == false) = false from rfl]
        rw [show (0 : Int) = ((0 : Nat) : Int) from rfl, at?_getD (by omega : 0 < c.2.1.length) []]
        simp only [Int.reduceBEq, beq_self_eq_true, cond_true, cond_false, Option.bind_some, Bool.not_false, Bool.not_true, Bool.not_not, Bool.true_and, Bool.false_and, Bool.and_true, Bool.and_false, Bool.or_false, Bool.or_true, Bool.true_or, Bool.false_or, show (false == true) = false from rfl, show (true == false) = false from rfl]
        rw [show ((0 : Nat) : Int) = 0 from rfl, Set_eq (by omega)]
        simp only [Int.reduceBEq, beq_self_eq_true, cond_true, cond_false, Option.bind_some, Bool.not_false, Bool.not_true, Bool.not_not, Bool.true_and, Bool.false_and, Bool.and_true, Bool.and_false, Bool.or_false, Bool.or_true, Bool.true_or, Bool.false_or, show (false == true) = false from rfl, show (true == false) = false from rfl]
        rw [refDoes_eq (by omega) c hc r]
        rfl
/-! ### A call that is done may be so -/
theorem keptF_two {l : List Mk} {b : Bool} (h : (keptF l b).2 = true) : b = true := by
  unfold keptF at h
  cases b
  · cases h
  · rfl
theorem free_same {l : List Mk} (h : Tbl l) {k : Str} (hw : whoOf l k = 0) : setF l k 0 = l := expire_free ((who_zero h k).1 hw)
theorem all_free {l : List Mk} (h : Tbl l) : ∀ (ks : List Str), (∀ k ∈ ks, whoOf l k = 0) → ks.foldl (fun l k => setF l k 0) l = l
  | [], _ => rfl
  | k :: ks, hw => by
    rw [List.foldl_cons, free_same h (hw k List.mem_cons_self)]
    exact all_free h ks fun x hx => hw x (List.mem_cons_of_mem _ hx)
theorem pre_same {l : List Mk} {c : Cl} {r : Rp} (h : (doesOf l c r).2 = true) : preOf l c r = l ∧ mayC c = true ∧ tblB l = true := by
  unfold doesOf at h
  cases hv : (mayC c && tblB l) with
  | false => rw [hv] at h; cases h
  | true =>
  rw [hv] at h
  simp only [Bool.and_eq_true] at hv
  refine ⟨?_, hv.1, hv.2⟩
  have htb := tbl_iff.1 hv.2
  simp only [cond_true] at h
  unfold preOf
  cases h0 : (r.1 == 0) with
  | true =>
    rw [beq_iff_eq] at h0
    rw [h0] at h
    simp only [Int.reduceBEq, beq_self_eq_true, cond_true, cond_false, Option.bind_some, Bool.not_false, Bool.not_true, Bool.not_not, Bool.true_and, Bool.false_and, Bool.and_true, Bool.and_false, Bool.or_false, Bool.or_true, Bool.true_or, Bool.false_or, show (false == true) = false from rfl, show (true == false) = false from rfl, doneOf] at h
    simp only [cond_true]
    cases h1 : (c.1 == 1) with
    | true =>
      rw [h1] at h
      have h := keptF_two h
      simp only [Bool.and_eq_true, Bool.not_eq_true'] at h
      exact all_free htb _ (other_false.1 h.2.2)
    | false =>
      simp only [cond_false]
      cases h4 : (c.1 == 4) with
      | false => rfl
      | true =>
        rw [beq_iff_eq] at h4
        rw [h4] at h
        simp only [Int.reduceBEq, beq_self_eq_true, cond_true, cond_false, Option.bind_some, Bool.not_false, Bool.not_true, Bool.not_not, Bool.true_and, Bool.false_and, Bool.and_true, Bool.and_false, Bool.or_false, Bool.or_true, Bool.true_or, Bool.false_or, show (false == true) = false from rfl, show (true == false) = false from rfl] at h
        have h := keptF_two h
        simp only [Bool.and_eq_true] at h
        obtain ⟨_, h5, h6⟩ := h
        rw [h5]
        simp only [Bool.and_self, cond_true]
        unfold exH
        have key : ∀ (js : List Nat), (∀ j ∈ js, j < c.2.1.length) → js.foldl (fun s j => bif nth r.2.2 j 0 == 0 then setF s (nth c.2.1 j []) 0 else s) l = l := by
          intro js
          induction js with
          | nil => intro _; rfl
          | cons j js ih =>
            intro hj
            have hw := allB_iff.1 h6 j (hj j List.mem_cons_self)
            rw [beq_iff_eq] at hw
            rw [List.foldl_cons]
            have : (bif nth r.2.2 j 0 == 0 then setF l (nth c.2.1 j []) 0 else l) = l := by
              cases hz : (nth r.2.2 j 0 == 0) with
              | false => rfl
              | true =>
                rw [beq_iff_eq] at hz
                exact free_same htb (hw.trans hz)
            rw [this]
            exact ih fun x hx => hj x (List.mem_cons_of_mem _ hx)
        exact key _ fun j hj => List.mem_range.1 hj
  | false =>
    simp only [cond_false]
    cases h4 : (r.1 == 4) with
    | false => rfl
    | true =>
      rw [beq_iff_eq] at h4
      rw [h4] at h
      simp only [Int.reduceBEq, beq_self_eq_true, cond_true, cond_false, Option.bind_some, Bool.not_false, Bool.not_true, Bool.not_not, Bool.true_and, Bool.false_and, Bool.and_true, Bool.and_false, Bool.or_false, Bool.or_true, Bool.true_or, Bool.false_or, show (false == true) = false from rfl, show (true == false) = false from rfl] at h
      have h := keptF_two h
      simp only [Bool.and_eq_true] at h
      rw [h.2.2]
      rfl
theorem may_same {l : List Mk} {c : Cl} {r : Rp} (h : (doesOf l c r).2 = true) : mayOf l c r = doesOf l c r := by
  obtain ⟨h1, h2, h3⟩ := pre_same h
  unfold mayOf
  rw [h1, h2, h3]
  rfl
/-! ### The laws -/
theorem awake_eq : law24_awake' = some true := by
  unfold law24_awake'
  rw [Does_eq (by simp) _ (by simp) _, Does_eq (by simp) _ (by simp) _, May_eq (by simp) _ (by simp) _]
  rfl
theorem law_ModelDoes (l : List Mk) (c : Cl) (r : Rp) : ∃ k, law24_ModelDoes k l c r = some true := by
  refine (law24_ModelDoes_lm l c r).fin ?_
  unfold law24_ModelDoes' law24_light'
  rw [awake_eq]
  by_cases h1 : (l.length : Int) ≤ 100
  · rw [decide_eq_true h1]
    by_cases h2 : (c.2.1.length : Int) ≤ 40
    · rw [decide_eq_true h2]
      simp only [Int.reduceBEq, beq_self_eq_true, cond_true, cond_false, Option.bind_some, Bool.not_false, Bool.not_true, Bool.not_not, Bool.true_and, Bool.false_and, Bool.and_true, Bool.and_false, Bool.or_false, Bool.or_true, Bool.true_or, Bool.false_or, show (false == true) = false from rfl, show (true == false) = false from rfl]
      rw [Does_eq (by omega) c (by omega) r, refDoes_eq (by omega) c (by omega) r, Check_eq c (by omega), MayCall_eq c (by omega), CheckTable_eq (by omega), Table_eq (by omega)]
      simp only [Int.reduceBEq, beq_self_eq_true, cond_true, cond_false, Option.bind_some, Bool.not_false, Bool.not_true, Bool.not_not, Bool.true_and, Bool.false_and, Bool.and_true, Bool.and_false, Bool.or_false, Bool.or_true, Bool.true_or, Bool.false_or, show (false == true) = false from rfl, show (true == false) = false from rfl]
      have hd := does_len (l := l) (c := c) (r := r)
      rw [Same_refl (by omega)]
      cases mayC c <;> cases tblB l <;> cases (doesOf l c r).2 <;> rfl
    · rw [decide_eq_false h2]; rfl
  · rw [decide_eq_false h1]; rfl
theorem law_ModelMays (l : List Mk) (c : Cl) (r : Rp) : ∃ k, law24_ModelMays k l c r = some true := by
  refine (law24_ModelMays_lm l c r).fin ?_
  unfold law24_ModelMays' law24_light'
  rw [awake_eq]
  by_cases h1 : (l.length : Int) ≤ 100
  · rw [decide_eq_true h1]
    by_cases h2 : (c.2.1.length : Int) ≤ 40
    · rw [decide_eq_true h2]
      simp only [Int.reduceBEq, beq_self_eq_true, cond_true, cond_false, Option.bind_some, Bool.not_false, Bool.not_true, Bool.not_not, Bool.true_and, Bool.false_and, Bool.and_true, Bool.and_false, Bool.or_false, Bool.or_true, Bool.true_or, Bool.false_or, show (false == true) = false from rfl, show (true == false) = false from rfl]
      rw [May_eq (by omega) c (by omega) r, refMay_eq (by omega) c (by omega) r, refDoes_eq (by omega) c (by omega) r]
      simp only [Int.reduceBEq, beq_self_eq_true, cond_true, cond_false, Option.bind_some, Bool.not_false, Bool.not_true, Bool.not_not, Bool.true_and, Bool.false_and, Bool.and_true, Bool.and_false, Bool.or_false, Bool.or_true, Bool.true_or, Bool.false_or, show (false == true) = false from rfl, show (true == false) = false from rfl]
      have hd := does_len (l := preOf l c r) (c := c) (r := r)
      have hp := pre_len l c r
      have hml : (mayOf l c r).1.length ≤ 1000 := by
        unfold mayOf
        cases (mayC c && tblB l)
        · simp
        · simp only [cond_true]; omega
      rw [Same_refl (by omega)]
      simp only [Int.reduceBEq, beq_self_eq_true, cond_true, cond_false, Option.bind_some, Bool.not_false, Bool.not_true, Bool.not_not, Bool.true_and, Bool.false_and, Bool.and_true, Bool.and_false, Bool.or_false, Bool.or_true, Bool.true_or, Bool.false_or, show (false == true) = false from rfl, show (true == false) = false from rfl]
      cases hok : (doesOf l c r).2 with
      | false => rfl
      | true =>
        rw [may_same hok] at hml ⊢
        rw [hok, Same_refl (by omega)]
        rfl
    · rw [decide_eq_false h2]; rfl
  · rw [decide_eq_false h1]; rfl
theorem law_ModelExpires (l : List Mk) (key : Str) : ∃ k, law24_ModelExpires k l key = some true := by
  refine (law24_ModelExpires_lm l key).fin ?_
  unfold law24_ModelExpires'
  rw [awake_eq]
  by_cases h1 : (l.length : Int) > 300
  · rw [decide_eq_true h1]; rfl
  · rw [decide_eq_false h1]
    simp only [Int.reduceBEq, beq_self_eq_true, cond_true, cond_false, Option.bind_some, Bool.not_false, Bool.not_true, Bool.not_not, Bool.true_and, Bool.false_and, Bool.and_true, Bool.and_false, Bool.or_false, Bool.or_true, Bool.true_or, Bool.false_or, show (false == true) = false from rfl, show (true == false) = false from rfl]
    rw [Table_eq (by omega)]
    cases ht : tblB l with
    | false => rfl
    | true =>
      simp only [Int.reduceBEq, beq_self_eq_true, cond_true, cond_false, Option.bind_some, Bool.not_false, Bool.not_true, Bool.not_not, Bool.true_and, Bool.false_and, Bool.and_true, Bool.and_false, Bool.or_false, Bool.or_true, Bool.true_or, Bool.false_or, show (false == true) = false from rfl, show (true == false) = false from rfl]
      rw [Expire_eq (by omega), Set_eq (by omega)]
      simp only [Int.reduceBEq, beq_self_eq_true, cond_true, cond_false, Option.bind_some, Bool.not_false, Bool.not_true, Bool.not_not, Bool.true_and, Bool.false_and, Bool.and_true, Bool.and_false, Bool.or_false, Bool.or_true, Bool.true_or, Bool.false_or, show (false == true) = false from rfl, show (true == false) = false from rfl]
      have := expire_len l key
      rw [show setF l key 0 = expireF l key from rfl, Same_refl (by omega)]
      rfl
theorem does_table {l : List Mk} {c : Cl} {r : Rp} (h : (doesOf l c r).2 = true) : tblB (doesOf l c r).1 = true ∧
    ∀ key, ((r.1 == 0) = false → whoOf (doesOf l c r).1 key = whoOf l key) ∧ (whoOf l key ≠ 0 → whoOf (doesOf l c r).1 key ≠ 0 → whoOf l key = whoOf (doesOf l c r).1 key) := by
  obtain ⟨_, h2, h3⟩ := pre_same h
  have hk := keys_of h2
  have htb := tbl_iff.1 h3
  have hsame : (doesOf l c r).1 = l → tblB (doesOf l c r).1 = true ∧
    ∀ key, ((r.1 == 0) = false → whoOf (doesOf l c r).1 key = whoOf l key) ∧ (whoOf l key ≠ 0 → whoOf (doesOf l c r).1 key ≠ 0 → whoOf l key = whoOf (doesOf l c r).1 key) := by
    intro e
    rw [e]
    exact ⟨h3, fun key => ⟨fun _ => rfl, fun _ _ => rfl⟩⟩
  have hkeep : ∀ (x : List Mk) (b : Bool), (keptF x b).2 = true → (keptF x b).1 = x := by
    intro x b hb
    rw [keptF_two hb]; rfl
  cases h0 : (r.1 == 0) with
  | false =>
    rw [h0] at hsame
    refine hsame ?_
    unfold doesOf at h ⊢
    rw [h2, h3, h0] at h ⊢
    simp only [Bool.and_self, cond_true, cond_false] at h ⊢
    cases h9 : (r.1 == 9 || (r.1 == 2 || r.1 == 11)) with
    | true => rw [h9] at h; exact hkeep _ _ h
    | false =>
    rw [h9] at h
    simp only [cond_false] at h ⊢
    cases h8 : (r.1 == 8) with
    | true => rw [h8] at h; exact hkeep _ _ h
    | false =>
    rw [h8] at h
    simp only [cond_false] at h ⊢
    cases h4 : (r.1 == 4) with
    | true => rw [h4] at h; exact hkeep _ _ h
    | false => rw [h4] at h; cases h
  | true =>
    rw [h0] at hsame
    have he : doesOf l c r = doneOf l c r := by
      rw [beq_iff_eq] at h0
      unfold doesOf
      rw [h2, h3, h0]
      rfl
    rw [he] at h hsame ⊢
    unfold doneOf at h hsame ⊢
    cases h1 : (c.1 == 1) with
    | true =>
      rw [h1] at h
      simp only [cond_true] at h ⊢
      rw [hkeep _ _ h]
      have hb := keptF_two h
      simp only [Bool.and_eq_true, Bool.not_eq_true'] at hb
      have hf := other_false.1 hb.2.2
      refine ⟨tbl_iff.2 (fold_tbl _ _ _ hk.1 htb), fun key => ⟨fun hh => (by cases hh), fun ha _ => ?_⟩⟩
      unfold allF
      rw [who_fold]
      cases hc : c.2.1.contains key with
      | false => rfl
      | true =>
        rw [List.contains_iff_mem] at hc
        exact absurd (hf key hc) ha
    | false =>
    rw [h1] at h hsame
    simp only [cond_false] at h hsame ⊢
    cases h2' : (c.1 == 2) with
    | true =>
      rw [h2'] at h
      simp only [cond_true] at h ⊢
      rw [hkeep _ _ h]
      refine ⟨tbl_iff.2 (fold_tbl _ _ _ hk.1 htb), fun key => ⟨fun hh => (by cases hh), fun _ hb => ?_⟩⟩
      unfold allF at hb ⊢
      rw [who_fold] at hb ⊢
      cases hc : c.2.1.contains key with
      | false => rfl
      | true => rw [hc] at hb; exact absurd rfl hb
    | false =>
    rw [h2'] at h hsame
    simp only [cond_false] at h hsame ⊢
    cases h3' : (c.1 == 3) with
    | true =>
      rw [h3'] at h hsame
      exact hsame (hkeep _ _ h)
    | false =>
      rw [h3'] at h hsame
      exact hsame (hkeep _ _ h)
theorem law_ModelHands (l : List (Cl × Rp)) (key : Str) (hl : l.length ≤ 1048576) : ∃ k, law24_ModelHands k l key = some true := by
  refine (law24_ModelHands_lm l key).fin ?_
  unfold law24_ModelHands'
  rw [awake_eq]
  have h := loop_inv l.length (fun i s => law24_ModelHands_p8' l key (i : Int) s) (fun _ _ => True) (fun r => r = some (.inl ()) ∨ r = some (.inr true)) (fun i s hi _ => by
    try dsimp only
    rw [law24_ModelHands_p8_eq, awake_eq, decide_eq_true (by omega : (i : Int) < (l.length : Int)), at?_lt hi, wrap_succ (by omega)]
    simp only [Int.reduceBEq, beq_self_eq_true, cond_true, cond_false, Option.bind_some, Bool.not_false, Bool.not_true, Bool.not_not, Bool.true_and, Bool.false_and, Bool.and_true, Bool.and_false, Bool.or_false, Bool.or_true, Bool.true_or, Bool.false_or, show (false == true) = false from rfl, show (true == false) = false from rfl]
    by_cases h60 : (i : Int) < 60
    · rw [decide_eq_true h60]
      unfold law24_light'
      by_cases h1 : (s.length : Int) ≤ 100
      · rw [decide_eq_true h1]
        by_cases h2 : (l[i].1.2.1.length : Int) ≤ 40
        · rw [decide_eq_true h2]
          simp only [Int.reduceBEq, beq_self_eq_true, cond_true, cond_false, Option.bind_some, Bool.not_false, Bool.not_true, Bool.not_not, Bool.true_and, Bool.false_and, Bool.and_true, Bool.and_false, Bool.or_false, Bool.or_true, Bool.true_or, Bool.false_or, show (false == true) = false from rfl, show (true == false) = false from rfl]
          rw [Does_eq (by omega) _ (by omega) _]
          simp only [Int.reduceBEq, beq_self_eq_true, cond_true, cond_false, Option.bind_some, Bool.not_false, Bool.not_true, Bool.not_not, Bool.true_and, Bool.false_and, Bool.and_true, Bool.and_false, Bool.or_false, Bool.or_true, Bool.true_or, Bool.false_or, show (false == true) = false from rfl, show (true == false) = false from rfl]
          cases hok : (doesOf s l[i].1 l[i].2).2 with
          | false => exact .inl ⟨s, rfl, trivial⟩
          | true =>
            obtain ⟨ht, hw⟩ := does_table hok
            obtain ⟨hw1, hw2⟩ := hw key
            have hd := does_len (l := s) (c := l[i].1) (r := l[i].2)
            simp only [Int.reduceBEq, beq_self_eq_true, cond_true, cond_false, Option.bind_some, Bool.not_false, Bool.not_true, Bool.not_not, Bool.true_and, Bool.false_and, Bool.and_true, Bool.and_false, Bool.or_false, Bool.or_true, Bool.true_or, Bool.false_or, show (false == true) = false from rfl, show (true == false) = false from rfl]
            rw [refWho_eq (by omega), refWho_eq (by omega), Table_eq (by omega), ht]
            simp only [Int.reduceBEq, beq_self_eq_true, cond_true, cond_false, Option.bind_some, Bool.not_false, Bool.not_true, Bool.not_not, Bool.true_and, Bool.false_and, Bool.and_true, Bool.and_false, Bool.or_false, Bool.or_true, Bool.true_or, Bool.false_or, show (false == true) = false from rfl, show (true == false) = false from rfl, bne]
            refine .inl ⟨(doesOf s l[i].1 l[i].2).1, ?_, trivial⟩
            generalize (doesOf s l[i].1 l[i].2).1 = s' at *
            cases h0 : (l[i].2.1 == 0) with
            | false =>
              rw [hw1 h0]
              simp only [Int.reduceBEq, beq_self_eq_true, cond_true, cond_false, Option.bind_some, Bool.not_false, Bool.not_true, Bool.not_not, Bool.true_and, Bool.false_and, Bool.and_true, Bool.and_false, Bool.or_false, Bool.or_true, Bool.true_or, Bool.false_or, show (false == true) = false from rfl, show (true == false) = false from rfl]
              cases (whoOf s key == 0) <;> rfl
            | true =>
              simp only [Int.reduceBEq, beq_self_eq_true, cond_true, cond_false, Option.bind_some, Bool.not_false, Bool.not_true, Bool.not_not, Bool.true_and, Bool.false_and, Bool.and_true, Bool.and_false, Bool.or_false, Bool.or_true, Bool.true_or, Bool.false_or, show (false == true) = false from rfl, show (true == false) = false from rfl]
              cases ha : (whoOf s key == 0) with
              | true => simp only [Int.reduceBEq, beq_self_eq_true, cond_true, cond_false, Option.bind_some, Bool.not_false, Bool.not_true, Bool.not_not, Bool.true_and, Bool.false_and, Bool.and_true, Bool.and_false, Bool.or_false, Bool.or_true, Bool.true_or, Bool.false_or, show (false == true) = false from rfl, show (true == false) = false from rfl]; cases (whoOf s' key == whoOf s key) <;> rfl
              | false =>
                simp only [Int.reduceBEq, beq_self_eq_true, cond_true, cond_false, Option.bind_some, Bool.not_false, Bool.not_true, Bool.not_not, Bool.true_and, Bool.false_and, Bool.and_true, Bool.and_false, Bool.or_false, Bool.or_true, Bool.true_or, Bool.false_or, show (false == true) = false from rfl, show (true == false) = false from rfl]
                cases hb : (whoOf s' key == 0) with
                | true => simp only [Int.reduceBEq, beq_self_eq_true, cond_true, cond_false, Option.bind_some, Bool.not_false, Bool.not_true, Bool.not_not, Bool.true_and, Bool.false_and, Bool.and_true, Bool.and_false, Bool.or_false, Bool.or_true, Bool.true_or, Bool.false_or, show (false == true) = false from rfl, show (true == false) = false from rfl]; cases (whoOf s' key == whoOf s key) <;> rfl
                | false =>
                  have := hw2 (by simpa using ha) (by simpa using hb)
                  rw [this]
                  simp only [Int.reduceBEq, beq_self_eq_true, cond_true, cond_false, Option.bind_some, Bool.not_false, Bool.not_true, Bool.not_not, Bool.true_and, Bool.false_and, Bool.and_true, Bool.and_false, Bool.or_false, Bool.or_true, Bool.true_or, Bool.false_or, show (false == true) = false from rfl, show (true == false) = false from rfl]
        · rw [decide_eq_false h2]; exact .inr (.inr rfl)
      · rw [decide_eq_false h1]; exact .inr (.inr rfl)
    · rw [decide_eq_false h60]; exact .inr (.inl rfl)) (fun s _ => by
    try dsimp only
    rw [law24_ModelHands_p8_eq, decide_eq_false (by omega : ¬ (l.length : Int) < (l.length : Int))]; exact .inl rfl) 0 [] (by omega) trivial
  simp only [show ((0 : Nat) : Int) = 0 from rfl] at h
  rcases h with h | h <;> rw [h] <;> rfl
end Go.Proofs.Ytbibgbadfcmccaa.gg
