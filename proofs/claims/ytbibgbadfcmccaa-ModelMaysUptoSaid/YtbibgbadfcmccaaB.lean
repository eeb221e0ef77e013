/- Calls done to a table: what the code answers. -/
import Derived.Test.YtbibgbadfcmccaaA
open Go Go.GG
set_option linter.unusedVariables false
set_option linter.unusedSimpArgs false
namespace Go.Proofs.Ytbibgbadfcmccaa.gg
theorem Insert_eq {l : List Mk} (hl : l.length ≤ 2000000) {i : Nat} (hi : i ≤ l.length) (h : Mk) : slices_Insert_api_Mark_api_Mark' l (i : Int) [h] = some (l.take i ++ [h] ++ l.drop i) := by
  unfold slices_Insert_api_Mark_api_Mark' insertF
  rw [decide_eq_true (by omega : (0 : Int) ≤ (i : Int)), decide_eq_true (by omega : (i : Int) ≤ (l.length : Int)), room_of (by simp; omega)]
  rfl
def insStep (t : Int) (l : List Mk) (k : Str) : List Mk := l.take (cutAt (ltm k) l) ++ [(k, t)] ++ l.drop (cutAt (ltm k) l)
theorem ins_len (t : Int) (l : List Mk) (k : Str) : (insStep t l k).length = l.length + 1 := by
  unfold insStep; have := cutAt_le (ltm k) l; simp; omega
theorem weak_drop {l : List Mk} (h : Weak l) (k : Str) : ∀ x ∈ l.drop (cutAt (ltm k) l), leS k x.1 = true := by
  intro x hx
  obtain ⟨j, hj, rfl⟩ := List.getElem_of_mem hx
  rw [List.length_drop] at hj
  rw [List.getElem_drop]
  have := cutAt_iff (h.fore k) (cutAt (ltm k) l + j) (by omega)
  rw [← not_less, Bool.not_eq_true']
  cases hh : strLess (l[cutAt (ltm k) l + j]).1 k with
  | false => rfl
  | true => have := this.1 hh; omega
theorem ins_weak (t : Int) {l : List Mk} (h : Weak l) (k : Str) : Weak (insStep t l k) := by
  have hd := weak_drop h k
  have hp := List.pairwise_append.1 (show (l.take (cutAt (ltm k) l) ++ l.drop (cutAt (ltm k) l)).Pairwise (fun a b : Mk => leS a.1 b.1 = true) by rw [List.take_append_drop]; exact h)
  unfold Weak insStep
  rw [List.append_assoc, List.pairwise_append]
  refine ⟨hp.1, ?_, ?_⟩
  · rw [List.singleton_append, List.pairwise_cons]
    exact ⟨fun x hx => hd x hx, hp.2.1⟩
  · intro x hx y hy
    simp only [List.singleton_append, List.mem_cons] at hy
    rcases hy with rfl | hy
    · rw [(cut_split (ltm k) l).1] at hx
      have hm : ltm k x = true := mem_takeWhile hx
      exact leS_of_less hm
    · exact hp.2.2 x hx y hy
theorem fold_ins (t : Int) : ∀ (ks : List Str) (l : List Mk), Weak l → Weak (ks.foldl (insStep t) l) ∧ (ks.foldl (insStep t) l).length = l.length + ks.length
  | [], l, h => ⟨h, rfl⟩
  | k :: ks, l, h => by
    have h1 := fold_ins t ks (insStep t l k) (ins_weak t h k)
    rw [List.foldl_cons]
    refine ⟨h1.1, ?_⟩
    rw [h1.2, ins_len, List.length_cons]; omega
theorem done13_eq (b : Bool) {l : List Mk} (hl : l.length ≤ 1000) (hw : Weak l) {ks : List Str} (hk : ks.length ≤ 1000) (r : Rp) : model_done_p13' b ks (ks.length : Int) 0 l r = some (b, ks.foldl (insStep r.2.1) l) := by
  obtain ⟨c, t, hs⟩ := r
  have key0 := fold_loop ks (insStep t) l (fun i s => model_done_p13' b ks (ks.length : Int) (i : Int) s (c, t, hs)) (out := fun s => some (b, s)) (fun i hi => by
    try dsimp only
    have hf := fold_ins t (ks.take i) l hw
    generalize (ks.take i).foldl (insStep t) l = s at *
    obtain ⟨h1, h2⟩ := hf
    rw [List.length_take] at h2
    rw [model_done_p13_eq, decide_eq_true (by omega : (i : Int) < (ks.length : Int)), at?_lt hi, wrap_succ (by omega)]
    simp only [cond_true, Option.bind_some]
    rw [find_eq (by omega) h1]
    simp only [Option.bind_some]
    rw [Insert_eq (by omega) (cutAt_le _ _)]
    rfl) (by
    try dsimp only
    rw [model_done_p13_eq, decide_eq_false (by omega : ¬ (ks.length : Int) < (ks.length : Int))]; rfl)
  simpa using key0
/-! ### A key set -/
theorem set_len (l : List Mk) (k : Str) (t : Int) : (setF l k t).length ≤ l.length + 1 := by
  unfold setF
  cases (t == 0) with
  | true => have := expire_len l k; simp only [cond_true]; omega
  | false => exact placeF_len _ _ _ _
theorem fold_set_len (t : Int) : ∀ (ks : List Str) (l : List Mk), (ks.foldl (fun l k => setF l k t) l).length ≤ l.length + ks.length
  | [], l => by simp
  | k :: ks, l => by
    have := fold_set_len t ks (setF l k t)
    have := set_len l k t
    rw [List.foldl_cons, List.length_cons]; omega
theorem find_no {l : List Mk} {k k' : Str} (h : k' ≠ k) : (l.filter fun x => !eqm k x).find? (eqm k') = l.find? (eqm k') := by
  rw [List.find?_filter]
  congr 1
  funext x
  rw [Bool.eq_iff_iff, decide_eq_true_eq]
  simp only [eqm, Bool.not_eq_true', beq_eq_false_iff_ne, beq_iff_eq]
  exact ⟨fun hh => hh.2, fun hh => ⟨fun e => h (hh.symm.trans e), hh⟩⟩
theorem who_set (l : List Mk) (k : Str) (t : Int) (k' : Str) : whoOf (setF l k t) k' = bif k' == k then t else whoOf l k' := by
  unfold setF
  by_cases hk : k' = k
  · subst hk
    rw [beq_self_eq_true]
    cases ht : (t == 0) with
    | true =>
      rw [beq_iff_eq] at ht
      subst ht
      simp only [cond_true, expireF]
      have : ∀ m ∈ l.filter (fun x => !eqm k' x), m.1 ≠ k' := by
        intro m hm
        have := (List.mem_filter.1 hm).2
        simpa [eqm] using this
      unfold whoOf
      rw [List.find?_eq_none.2]
      intro m hm
      have := this m hm
      simpa [eqm] using this
    | false =>
      simp only [cond_false, cond_true]
      unfold whoOf
      rw [find_place ltm_ne (by simp [eqm])]
  · rw [beq_eq_false_iff_ne.2 hk]
    simp only [cond_false]
    cases ht : (t == 0) with
    | true =>
      simp only [cond_true, expireF]
      unfold whoOf
      rw [find_no hk]
    | false =>
      simp only [cond_false]
      unfold whoOf placeF
      rw [List.append_assoc, List.find?_append, List.find?_append, find_no hk]
      have : [((k, t) : Mk)].find? (eqm k') = none := by
        rw [List.find?_eq_none]
        intro m hm
        rw [List.mem_singleton] at hm
        subst hm
        simp only [eqm, beq_iff_eq]
        exact fun e => hk e.symm
      rw [this]
      have h2 := List.find?_append (xs := l.takeWhile (ltm k)) (ys := l.dropWhile (ltm k)) (p := eqm k')
      rw [List.takeWhile_append_dropWhile] at h2
      rw [h2]
      rfl
theorem who_fold (t : Int) (k' : Str) : ∀ (ks : List Str) (l : List Mk), whoOf (ks.foldl (fun l k => setF l k t) l) k' = bif ks.contains k' then t else whoOf l k'
  | [], l => rfl
  | k :: ks, l => by
    rw [List.foldl_cons, who_fold t k' ks, who_set, List.contains_cons]
    cases (k' == k) <;> cases ks.contains k' <;> rfl
theorem set_tbl {l : List Mk} (h : Tbl l) {k : Str} (hk : (k.length : Int) ≤ 64) (t : Int) : Tbl (setF l k t) := by
  unfold setF
  cases ht : (t == 0) with
  | true => exact expire_tbl h k
  | false =>
    simp only [cond_false]
    have hm : ∀ x ∈ placeF (ltm k) (eqm k) l (k, t), x = (k, t) ∨ x ∈ l := by
      intro x hx
      unfold placeF at hx
      simp only [List.mem_append, List.mem_singleton, List.mem_filter] at hx
      have hl := List.takeWhile_append_dropWhile (p := ltm k) (l := l)
      rcases hx with (hx | hx) | hx
      · right; rw [← hl]; exact List.mem_append_left _ hx
      · exact .inl hx
      · right; rw [← hl]; exact List.mem_append_right _ hx.1
    refine ⟨fun m hh => ?_, fun m hh => ?_, ?_⟩
    · rcases hm m hh with rfl | hh
      · exact hk
      · exact h.short m hh
    · rcases hm m hh with rfl | hh
      · simpa using ht
      · exact h.held m hh
    · refine sorted_put _ h.rise (fun x _ hh => hh) (fun x hx he => ?_)
      have hd := weak_drop (weak_of h.rise) k x (by rw [(cut_split (ltm k) l).2]; exact hx)
      rw [leS_iff] at hd
      rcases hd with hd | hd
      · exact hd
      · simp only [eqm, beq_eq_false_iff_ne] at he
        exact absurd hd.symm he
theorem fold_tbl (t : Int) : ∀ (ks : List Str) (l : List Mk), (∀ k ∈ ks, (k.length : Int) ≤ 64) → Tbl l → Tbl (ks.foldl (fun l k => setF l k t) l)
  | [], l, _, h => h
  | k :: ks, l, hk, h => fold_tbl t ks _ (fun x hx => hk x (List.mem_cons_of_mem _ hx)) (set_tbl h (hk k List.mem_cons_self) t)
/-- Put among free keys: it is put in its place. -/
theorem ins_put (t : Int) (ht : t ≠ 0) : ∀ (ks : List Str) (l : List Mk), Tbl l → ks.Pairwise (fun a b => strLess a b = true) → (∀ k ∈ ks, (k.length : Int) ≤ 64) → (∀ k ∈ ks, whoOf l k = 0) →
    ks.foldl (insStep t) l = ks.foldl (fun l k => setF l k t) l
  | [], _, _, _, _, _ => rfl
  | k :: ks, l, h, hp, hk, hw => by
    have ht' : (t == 0) = false := by simpa using ht
    rw [List.pairwise_cons] at hp
    have hno := (who_zero h k).1 (hw k List.mem_cons_self)
    have hth : thereAt (ltm k) (eqm k) l = false := by
      unfold thereAt
      cases hd : l.dropWhile (ltm k) with
      | nil => rfl
      | cons x r =>
        have hx : x ∈ l := by
          have hl := List.takeWhile_append_dropWhile (p := ltm k) (l := l)
          rw [← hl, hd]; simp
        simp only [eqm, beq_eq_false_iff_ne]
        exact hno x hx
    have h1 : insStep t l k = setF l k t := by
      unfold setF insStep
      rw [ht']
      exact place_new (h := (k, t)) (h.rise.single k) hth
    rw [List.foldl_cons, List.foldl_cons, h1]
    refine ins_put t ht ks _ (set_tbl h (hk k List.mem_cons_self) t) hp.2 (fun x hx => hk x (List.mem_cons_of_mem _ hx)) fun x hx => ?_
    rw [who_set]
    have : (x == k) = false := by
      rw [beq_eq_false_iff_ne]
      intro e
      have := hp.1 x hx
      rw [e, strLess_irrefl] at this; cases this
    rw [this]
    exact hw x (List.mem_cons_of_mem _ hx)
/-! ### What a call does -/
def plainB (r : Rp) : Bool := (r.2.1 == 0) && !decide ((r.2.2.length : Int) > 0)
def keptF (l : List Mk) (b : Bool) : List Mk × Bool := bif b then (l, true) else ([], false)
def allF (l : List Mk) (ks : List Str) (t : Int) : List Mk := ks.foldl (fun l k => setF l k t) l
def heldB (l : List Mk) (ks : List Str) (hs : List Int) : Bool := allB ks.length fun i => whoOf l (nth ks i []) == nth hs i 0
def doneOf (l : List Mk) (c : Cl) (r : Rp) : List Mk × Bool :=
  bif c.1 == 1 then keptF (allF l c.2.1 r.2.1) (!(r.2.1 == 0) && (!decide ((r.2.2.length : Int) > 0) && !otherB l c.2.1 0))
  else bif c.1 == 2 then keptF (allF l c.2.1 0) (plainB r && !otherB l c.2.1 c.2.2.1)
  else bif c.1 == 3 then keptF l (plainB r && !otherB l c.2.1 c.2.2.1)
  else keptF l ((r.2.1 == 0) && (((r.2.2.length : Int) == (c.2.1.length : Int)) && heldB l c.2.1 r.2.2))
def doesOf (l : List Mk) (c : Cl) (r : Rp) : List Mk × Bool :=
  bif mayC c && tblB l then
    (bif (r.1 == 9 || (r.1 == 2 || r.1 == 11)) then keptF l (plainB r)
    else bif r.1 == 8 then keptF l (plainB r && (c.1 == 1 && otherB l c.2.1 0))
    else bif r.1 == 4 then keptF l (plainB r && ((c.1 == 2 || c.1 == 3) && otherB l c.2.1 c.2.2.1))
    else bif r.1 == 0 then doneOf l c r else ([], false))
  else ([], false)
theorem done38_eq (b : Bool) {l : List Mk} (hl : l.length ≤ 1000) {ks : List Str} (hk : ks.length ≤ 1000) : model_done_p38' b ks (ks.length : Int) 0 l = some (b, allF l ks 0) := by
  have key0 := fold_loop ks (fun l k => setF l k 0) l (fun i s => model_done_p38' b ks (ks.length : Int) (i : Int) s) (out := fun s => some (b, s)) (fun i hi => by
    try dsimp only
    have hf := fold_set_len 0 (ks.take i) l
    generalize (ks.take i).foldl (fun l k => setF l k 0) l = s at *
    rw [List.length_take] at hf
    rw [model_done_p38_eq, decide_eq_true (by omega : (i : Int) < (ks.length : Int)), at?_lt hi, wrap_succ (by omega)]
    simp only [cond_true, Option.bind_some]
    rw [Expire_eq (by omega)]
    rfl) (by
    try dsimp only
    rw [model_done_p38_eq, decide_eq_false (by omega : ¬ (ks.length : Int) < (ks.length : Int))]; rfl)
  exact key0
theorem done73_eq {l : List Mk} (hl : l.length ≤ 1000) (h : Sorted strOrd (fun m : Mk => m.1) l) {ks : List Str} (hk : ks.length ≤ 1000) (r : Rp) (hr : r.2.2.length = ks.length) :
    model_done_p73' ks (ks.length : Int) 0 l r = bif heldB l ks r.2.2 then some (.inl l) else some (.inr (false, l)) := by
  obtain ⟨c, t, hs⟩ := r
  simp only at hr
  have key := check_loop ks.length (fun i => model_done_p73' ks (ks.length : Int) (i : Int) l (c, t, hs)) (fun i => whoOf l (nth ks i []) == nth hs i 0) (a := some (.inl l)) (b := some (.inr (false, l))) (fun i hi => by
    try dsimp only
    rw [model_done_p73_eq, decide_eq_true (by omega : (i : Int) < (ks.length : Int)), at?_getD hi [], wrap_succ (by omega)]
    simp only [cond_true, Option.bind_some]
    rw [who_eq (by omega) h, at?_getD (by omega : i < hs.length) 0]
    simp only [Option.bind_some, bne]
    cases (whoOf l (nth ks i []) == nth hs i 0) <;> rfl) (by
    try dsimp only
    rw [model_done_p73_eq, decide_eq_false (by omega : ¬ (ks.length : Int) < (ks.length : Int))]; rfl)
  exact key
theorem keys_of {c : Cl} (h : mayC c = true) : (∀ k ∈ c.2.1, (k.length : Int) ≤ 64) ∧ c.2.1.Pairwise (fun a b => strLess a b = true) ∧ 1 ≤ c.2.1.length ∧ c.2.1.length ≤ 16 := by
  have := keys_ok h
  exact ⟨this.short, this.rise, this.len1, this.len2⟩
theorem Does_eq {l : List Mk} (hl : l.length ≤ 1000) (c : Cl) (hc : c.2.1.length ≤ 1000) (r : Rp) : model_Does' l c r = some (doesOf l c r) := by
  obtain ⟨k, ks, tok, ttl⟩ := c
  obtain ⟨code, tk, hs⟩ := r
  simp only at hc
  unfold model_Does' doesOf
  rw [Check_eq _ (by simp only; omega), CheckTable_eq (by omega)]
  cases hm : mayC (k, ks, tok, ttl) with
  | false => rfl
  | true =>
  cases ht : tblB l with
  | false => rfl
  | true =>
  have hk := keys_of hm
  have hkind := kind_cases hm
  have htb := tbl_iff.1 ht
  have hr := htb.rise
  have hs0 : model_some' l ks (fun y8 => ((model_Does_1' y8).bind fun z => some z)) = some (otherB l ks 0) := some_eq (by omega) hr (by omega) _ 0 (fun x => rfl)
  have hs2 : model_some' l ks (fun y10 => ((model_Does_2' y10 (k, ks, tok, ttl)).bind fun z => some z)) = some (otherB l ks tok) := some_eq (by omega) hr (by omega) _ tok (fun x => rfl)
  simp only at hk hkind
  have hcl := slices_Clone_api_Mark_api_Mark_is l (by omega)
  unfold model_Does_p10' model_Does_p12' model_Does_p15' model_Does_p34'
  simp only [Int.reduceBEq, beq_self_eq_true, cond_true, cond_false, Option.bind_some, Bool.not_false, Bool.not_true, Bool.not_not, Bool.true_and, Bool.false_and, Bool.and_true, Bool.and_false, Bool.or_false, Bool.or_true, Bool.true_or, Bool.false_or, show (false == true) = false from rfl, show (true == false) = false from rfl, bne, plainB]
  by_cases h0 : code = 0
  · subst h0
    unfold doneOf
    rcases hkind with rfl | rfl | rfl | rfl
    · simp only [Int.reduceBEq, beq_self_eq_true, cond_true, cond_false, Option.bind_some, Bool.not_false, Bool.not_true, Bool.not_not, Bool.true_and, Bool.false_and, Bool.and_true, Bool.and_false, Bool.or_false, Bool.or_true, Bool.true_or, Bool.false_or, show (false == true) = false from rfl, show (true == false) = false from rfl, bne, plainB]
      cases htk : (tk == 0) with
      | true => rfl
      | false =>
        cases hh : decide ((hs.length : Int) > 0) with
        | true => rfl
        | false =>
          simp only [Int.reduceBEq, beq_self_eq_true, cond_true, cond_false, Option.bind_some, Bool.not_false, Bool.not_true, Bool.not_not, Bool.true_and, Bool.false_and, Bool.and_true, Bool.and_false, Bool.or_false, Bool.or_true, Bool.true_or, Bool.false_or, show (false == true) = false from rfl, show (true == false) = false from rfl, hcl, hs0, hs2]
          unfold model_done'
          simp only [Int.reduceBEq, beq_self_eq_true, cond_true, cond_false, Option.bind_some, Bool.not_false, Bool.not_true, Bool.not_not, Bool.true_and, Bool.false_and, Bool.and_true, Bool.and_false, Bool.or_false, Bool.or_true, Bool.true_or, Bool.false_or, show (false == true) = false from rfl, show (true == false) = false from rfl]
          rw [done13_eq _ (by omega) (weak_of hr) (by omega)]
          simp only [Int.reduceBEq, beq_self_eq_true, cond_true, cond_false, Option.bind_some, Bool.not_false, Bool.not_true, Bool.not_not, Bool.true_and, Bool.false_and, Bool.and_true, Bool.and_false, Bool.or_false, Bool.or_true, Bool.true_or, Bool.false_or, show (false == true) = false from rfl, show (true == false) = false from rfl]
          cases ho : otherB l ks 0 with
          | true => rfl
          | false =>
            have := ins_put tk (by simpa using htk) ks l htb hk.2.1 hk.1 (other_false.1 ho)
            simp only [Int.reduceBEq, beq_self_eq_true, cond_true, cond_false, Option.bind_some, Bool.not_false, Bool.not_true, Bool.not_not, Bool.true_and, Bool.false_and, Bool.and_true, Bool.and_false, Bool.or_false, Bool.or_true, Bool.true_or, Bool.false_or, show (false == true) = false from rfl, show (true == false) = false from rfl, keptF, allF]
            rw [this]
    · simp only [Int.reduceBEq, beq_self_eq_true, cond_true, cond_false, Option.bind_some, Bool.not_false, Bool.not_true, Bool.not_not, Bool.true_and, Bool.false_and, Bool.and_true, Bool.and_false, Bool.or_false, Bool.or_true, Bool.true_or, Bool.false_or, show (false == true) = false from rfl, show (true == false) = false from rfl, bne, plainB]
      cases htk : (tk == 0) with
      | false => rfl
      | true =>
        cases hh : decide ((hs.length : Int) > 0) with
        | true => rfl
        | false =>
          simp only [Int.reduceBEq, beq_self_eq_true, cond_true, cond_false, Option.bind_some, Bool.not_false, Bool.not_true, Bool.not_not, Bool.true_and, Bool.false_and, Bool.and_true, Bool.and_false, Bool.or_false, Bool.or_true, Bool.true_or, Bool.false_or, show (false == true) = false from rfl, show (true == false) = false from rfl, hcl, hs0, hs2]
          unfold model_done'
          simp only [Int.reduceBEq, beq_self_eq_true, cond_true, cond_false, Option.bind_some, Bool.not_false, Bool.not_true, Bool.not_not, Bool.true_and, Bool.false_and, Bool.and_true, Bool.and_false, Bool.or_false, Bool.or_true, Bool.true_or, Bool.false_or, show (false == true) = false from rfl, show (true == false) = false from rfl]
          rw [done38_eq _ (by omega) (by omega)]
          cases ho : otherB l ks tok <;> rfl
    · simp only [Int.reduceBEq, beq_self_eq_true, cond_true, cond_false, Option.bind_some, Bool.not_false, Bool.not_true, Bool.not_not, Bool.true_and, Bool.false_and, Bool.and_true, Bool.and_false, Bool.or_false, Bool.or_true, Bool.true_or, Bool.false_or, show (false == true) = false from rfl, show (true == false) = false from rfl, bne, plainB]
      cases htk : (tk == 0) with
      | false => rfl
      | true =>
        cases hh : decide ((hs.length : Int) > 0) with
        | true => rfl
        | false =>
          simp only [Int.reduceBEq, beq_self_eq_true, cond_true, cond_false, Option.bind_some, Bool.not_false, Bool.not_true, Bool.not_not, Bool.true_and, Bool.false_and, Bool.and_true, Bool.and_false, Bool.or_false, Bool.or_true, Bool.true_or, Bool.false_or, show (false == true) = false from rfl, show (true == false) = false from rfl, hcl, hs0, hs2]
          unfold model_done'
          simp only [Int.reduceBEq, beq_self_eq_true, cond_true, cond_false, Option.bind_some, Bool.not_false, Bool.not_true, Bool.not_not, Bool.true_and, Bool.false_and, Bool.and_true, Bool.and_false, Bool.or_false, Bool.or_true, Bool.true_or, Bool.false_or, show (false == true) = false from rfl, show (true == false) = false from rfl]
          cases ho : otherB l ks tok <;> rfl
    · simp only [Int.reduceBEq, beq_self_eq_true, cond_true, cond_false, Option.bind_some, Bool.not_false, Bool.not_true, Bool.not_not, Bool.true_and, Bool.false_and, Bool.and_true, Bool.and_false, Bool.or_false, Bool.or_true, Bool.true_or, Bool.false_or, show (false == true) = false from rfl, show (true == false) = false from rfl, bne, plainB]
      cases htk : (tk == 0) with
      | false => rfl
      | true =>
        simp only [Int.reduceBEq, beq_self_eq_true, cond_true, cond_false, Option.bind_some, Bool.not_false, Bool.not_true, Bool.not_not, Bool.true_and, Bool.false_and, Bool.and_true, Bool.and_false, Bool.or_false, Bool.or_true, Bool.true_or, Bool.false_or, show (false == true) = false from rfl, show (true == false) = false from rfl, hcl, hs0, hs2]
        unfold model_done'
        simp only [Int.reduceBEq, beq_self_eq_true, cond_true, cond_false, Option.bind_some, Bool.not_false, Bool.not_true, Bool.not_not, Bool.true_and, Bool.false_and, Bool.and_true, Bool.and_false, Bool.or_false, Bool.or_true, Bool.true_or, Bool.false_or, show (false == true) = false from rfl, show (true == false) = false from rfl, bne]
        cases hle : ((hs.length : Int) == (ks.length : Int)) with
        | false => rfl
        | true =>
          rw [beq_iff_eq] at hle
          simp only [Int.reduceBEq, beq_self_eq_true, cond_true, cond_false, Option.bind_some, Bool.not_false, Bool.not_true, Bool.not_not, Bool.true_and, Bool.false_and, Bool.and_true, Bool.and_false, Bool.or_false, Bool.or_true, Bool.true_or, Bool.false_or, show (false == true) = false from rfl, show (true == false) = false from rfl]
          rw [done73_eq (by omega) hr (by omega) _ (by simp only; omega)]
          cases heldB l ks hs <;> rfl
  · have h0' : (code == 0) = false := by simpa using h0
    simp only [Int.reduceBEq, beq_self_eq_true, cond_true, cond_false, Option.bind_some, Bool.not_false, Bool.not_true, Bool.not_not, Bool.true_and, Bool.false_and, Bool.and_true, Bool.and_false, Bool.or_false, Bool.or_true, Bool.true_or, Bool.false_or, show (false == true) = false from rfl, show (true == false) = false from rfl, h0', bne]
    have e1 : (bif k == 1 then some (l, false, (k, ks, tok, ttl), (code, tk, hs)) else some (l, false, (k, ks, tok, ttl), (code, tk, hs))) = some (l, false, (k, ks, tok, ttl), (code, tk, hs)) := by cases (k == 1) <;> rfl
    rw [e1]
    simp only [Int.reduceBEq, beq_self_eq_true, cond_true, cond_false, Option.bind_some, Bool.not_false, Bool.not_true, Bool.not_not, Bool.true_and, Bool.false_and, Bool.and_true, Bool.and_false, Bool.or_false, Bool.or_true, Bool.true_or, Bool.false_or, show (false == true) = false from rfl, show (true == false) = false from rfl, h0']
    have e2 : (bif k == 4 then some (l, false, false, (k, ks, tok, ttl), (code, tk, hs)) else some (l, false, false, (k, ks, tok, ttl), (code, tk, hs))) = some (l, false, false, (k, ks, tok, ttl), (code, tk, hs)) := by cases (k == 4) <;> rfl
    rw [e2]
    simp only [Int.reduceBEq, beq_self_eq_true, cond_true, cond_false, Option.bind_some, Bool.not_false, Bool.not_true, Bool.not_not, Bool.true_and, Bool.false_and, Bool.and_true, Bool.and_false, Bool.or_false, Bool.or_true, Bool.true_or, Bool.false_or, show (false == true) = false from rfl, show (true == false) = false from rfl]
    cases htk : (tk == 0) with
    | false =>
      cases (code == 9) <;> cases (code == 2) <;> cases (code == 11) <;> cases (code == 8) <;> cases (code == 4) <;> rfl
    | true =>
      cases hh : decide ((hs.length : Int) > 0) with
      | true => cases (code == 9) <;> cases (code == 2) <;> cases (code == 11) <;> cases (code == 8) <;> cases (code == 4) <;> rfl
      | false =>
        simp only [Int.reduceBEq, beq_self_eq_true, cond_true, cond_false, Option.bind_some, Bool.not_false, Bool.not_true, Bool.not_not, Bool.true_and, Bool.false_and, Bool.and_true, Bool.and_false, Bool.or_false, Bool.or_true, Bool.true_or, Bool.false_or, show (false == true) = false from rfl, show (true == false) = false from rfl, hcl]
        cases h9 : (code == 9) with
        | true => rfl
        | false =>
        cases h2 : (code == 2) with
        | true => rfl
        | false =>
        cases h11 : (code == 11) with
        | true => rfl
        | false =>
        simp only [Int.reduceBEq, beq_self_eq_true, cond_true, cond_false, Option.bind_some, Bool.not_false, Bool.not_true, Bool.not_not, Bool.true_and, Bool.false_and, Bool.and_true, Bool.and_false, Bool.or_false, Bool.or_true, Bool.true_or, Bool.false_or, show (false == true) = false from rfl, show (true == false) = false from rfl, h0', h9, h2, h11]
        cases h8 : (code == 8) with
        | true =>
          simp only [Int.reduceBEq, beq_self_eq_true, cond_true, cond_false, Option.bind_some, Bool.not_false, Bool.not_true, Bool.not_not, Bool.true_and, Bool.false_and, Bool.and_true, Bool.and_false, Bool.or_false, Bool.or_true, Bool.true_or, Bool.false_or, show (false == true) = false from rfl, show (true == false) = false from rfl]
          cases hk1 : (k == 1) with
          | false => rfl
          | true =>
            simp only [Int.reduceBEq, beq_self_eq_true, cond_true, cond_false, Option.bind_some, Bool.not_false, Bool.not_true, Bool.not_not, Bool.true_and, Bool.false_and, Bool.and_true, Bool.and_false, Bool.or_false, Bool.or_true, Bool.true_or, Bool.false_or, show (false == true) = false from rfl, show (true == false) = false from rfl, hs0]
            cases otherB l ks 0 <;> rfl
        | false =>
        simp only [Int.reduceBEq, beq_self_eq_true, cond_true, cond_false, Option.bind_some, Bool.not_false, Bool.not_true, Bool.not_not, Bool.true_and, Bool.false_and, Bool.and_true, Bool.and_false, Bool.or_false, Bool.or_true, Bool.true_or, Bool.false_or, show (false == true) = false from rfl, show (true == false) = false from rfl]
        cases h4 : (code == 4) with
        | true =>
          simp only [Int.reduceBEq, beq_self_eq_true, cond_true, cond_false, Option.bind_some, Bool.not_false, Bool.not_true, Bool.not_not, Bool.true_and, Bool.false_and, Bool.and_true, Bool.and_false, Bool.or_false, Bool.or_true, Bool.true_or, Bool.false_or, show (false == true) = false from rfl, show (true == false) = false from rfl]
          cases hk2 : (k == 2) with
          | true =>
            simp only [Int.reduceBEq, beq_self_eq_true, cond_true, cond_false, Option.bind_some, Bool.not_false, Bool.not_true, Bool.not_not, Bool.true_and, Bool.false_and, Bool.and_true, Bool.and_false, Bool.or_false, Bool.or_true, Bool.true_or, Bool.false_or, show (false == true) = false from rfl, show (true == false) = false from rfl, hs2]
            cases otherB l ks tok <;> rfl
          | false =>
            cases hk3 : (k == 3) with
            | true =>
              simp only [Int.reduceBEq, beq_self_eq_true, cond_true, cond_false, Option.bind_some, Bool.not_false, Bool.not_true, Bool.not_not, Bool.true_and, Bool.false_and, Bool.and_true, Bool.and_false, Bool.or_false, Bool.or_true, Bool.true_or, Bool.false_or, show (false == true) = false from rfl, show (true == false) = false from rfl, hs2]
              cases otherB l ks tok <;> rfl
            | false => rfl
        | false => rfl
end Go.Proofs.Ytbibgbadfcmccaa.gg
