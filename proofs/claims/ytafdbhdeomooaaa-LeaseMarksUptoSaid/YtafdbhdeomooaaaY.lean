/- Keys' last tokens: the plain law. -/
import Derived.Test.YtafdbhdeomooaaaS
open Go Go.GG
set_option linter.unusedVariables false
namespace Go.Proofs.Ytafdbhdeomooaaa.gg
def okM (l : List Mk) (i : Nat) : Bool := !decide (((nth l i ([], 0)).1.length : Int) > 64) && (!((nth l i ([], 0)).2 == 0) && (decide (i = 0) || !leS (nth l i ([], 0)).1 (nth l (i - 1) ([], 0)).1))
def mays (l : List Mk) : Bool := !decide ((l.length : Int) > 1024) && allB l.length (okM l)
theorem CheckMarks_eq {l : List Mk} (hl : l.length ≤ 1048576) : lease_CheckMarks' l = some (cond (mays l) 0 1) := by
  have key := check_loop l.length (fun i => lease_CheckMarks_p6' l l (l.length : Int) (i : Int)) (okM l) (a := some (.inl l)) (b := some (.inr 1)) (fun i hi => by
    try dsimp only
    rw [lease_CheckMarks_p6_eq, decide_eq_true (by omega : (i : Int) < (l.length : Int)), at?_getD hi ([], 0), wrap_succ (by omega)]
    simp only [cond_true, Option.bind_some, okM]
    cases decide (((nth l i (([], 0) : Mk)).1.length : Int) > 64) with
    | true => rfl
    | false =>
      cases ((nth l i (([], 0) : Mk)).2 == 0) with
      | true => rfl
      | false =>
        by_cases h0 : i = 0
        · subst h0; rfl
        · rw [wrap_pred (by omega) (by omega), at?_getD (by omega : i - 1 < l.length) ([], 0), decide_eq_true (by omega : (i : Int) > 0), decide_eq_false h0]
          simp only [cond_false, cond_true, Option.bind_some, leS]
          cases (strLess (nth l i (([], 0) : Mk)).1 (nth l (i - 1) (([], 0) : Mk)).1 || (nth l i (([], 0) : Mk)).1 == (nth l (i - 1) (([], 0) : Mk)).1) <;> rfl) (by
    try dsimp only
    rw [lease_CheckMarks_p6_eq, decide_eq_false (by omega : ¬ (l.length : Int) < (l.length : Int))]; rfl)
  unfold lease_CheckMarks' mays
  simp only [show ((0 : Nat) : Int) = 0 from rfl] at key
  rw [key]
  cases allB l.length (okM l) <;> cases h : decide ((l.length : Int) > 1024) <;> simp [h]
theorem refMarks_eq {l : List Mk} (hl : l.length ≤ 1048576) : ref17_Marks' l = some (mays l) := by
  have key := check_loop l.length (fun i => ref17_Marks_p14' l (i : Int)) (okM l) (a := some (.inl ())) (b := some (.inr false)) (fun i hi => by
    try dsimp only
    rw [ref17_Marks_p14_eq, decide_eq_true (by omega : (i : Int) < (l.length : Int)), at?_getD hi ([], 0), wrap_succ (by omega)]
    simp only [cond_true, Option.bind_some, okM]
    cases decide (((nth l i (([], 0) : Mk)).1.length : Int) > 64) with
    | true => rfl
    | false =>
      cases ((nth l i (([], 0) : Mk)).2 == 0) with
      | true => rfl
      | false =>
        by_cases h0 : i = 0
        · subst h0; rfl
        · rw [wrap_pred (by omega) (by omega), at?_getD (by omega : i - 1 < l.length) ([], 0), decide_eq_true (by omega : (i : Int) > 0), decide_eq_false h0]
          simp only [cond_false, cond_true, Option.bind_some, leS]
          cases (strLess (nth l i (([], 0) : Mk)).1 (nth l (i - 1) (([], 0) : Mk)).1 || (nth l i (([], 0) : Mk)).1 == (nth l (i - 1) (([], 0) : Mk)).1) <;> rfl) (by
    try dsimp only
    rw [ref17_Marks_p14_eq, decide_eq_false (by omega : ¬ (l.length : Int) < (l.length : Int))]; rfl)
  unfold ref17_Marks' mays
  simp only [show ((0 : Nat) : Int) = 0 from rfl] at key
  rw [key]
  cases allB l.length (okM l) <;> cases decide ((l.length : Int) > 1024) <;> simp
theorem mays_len {l : List Mk} (h : mays l = true) : l.length ≤ 1024 := by
  simp only [mays, Bool.and_eq_true, Bool.not_eq_true', decide_eq_false_iff_not] at h
  omega
theorem mays_sorted {l : List Mk} (h : mays l = true) : Sorted strOrd (fun x : Mk => x.1) l := by
  simp only [mays, Bool.and_eq_true] at h
  refine sorted_of_steps (d := ([], 0)) fun i hi => ?_
  have := allB_iff.1 h.2 i hi
  simp only [okM, Bool.and_eq_true, Bool.or_eq_true, decide_eq_true_eq] at this
  refine this.2.2.imp id fun hh => ?_
  show strLess _ _ = true
  rw [← not_le]; exact hh
def ltk (key : Str) (x : Mk) : Bool := strLess x.1 key
def eqk (key : Str) (x : Mk) : Bool := x.1 == key
theorem ltk_ne {key : Str} (x : Mk) (h : ltk key x = true) : eqk key x = false := lt_ne (O := strOrd) (key := fun x : Mk => x.1) key x h
def lastOf (l : List Mk) (key : Str) : Int := match l.find? (eqk key) with | some x => x.2 | none => 0
theorem Last_eq {l : List Mk} (hl : l.length ≤ 1048577) (key : Str) : lease_Last' l key = some (lastOf l key) := by
  unfold lease_Last'
  rw [slices_IndexFunc_api_Mark_api_Mark_is l (fun y1 => ((lease_Last_1' y1 key).bind fun z => some z)) (eqk key) (by omega) (fun x => rfl)]
  have hf := findIdx_find (eqk key) l
  unfold lastOf
  simp only [Option.bind_some]
  cases hi : l.findIdx? (eqk key) with
  | none => rw [hi] at hf; simp only at hf; rw [← hf]; rfl
  | some i =>
    rw [hi] at hf
    obtain ⟨h1, _⟩ := List.findIdx?_eq_some_iff_getElem.1 hi
    simp only at hf ⊢
    rw [List.getElem?_eq_getElem h1] at hf
    rw [← hf, decide_eq_false (by omega : ¬ (i : Int) < 0), at?_lt h1]
    rfl
theorem refLast_eq {l : List Mk} (hl : l.length ≤ 1048577) (key : Str) : ref17_Last' l key = some (lastOf l key) := by
  have key0 := index_loop l (eqk key) (fun i => ref17_Last_p6' l key (i : Int)) (f := fun i => (at? l (i : Int)).bind fun e2 => some (.inr e2.2)) (a := some (.inl ())) (fun i hi => by
    try dsimp only
    rw [ref17_Last_p6_eq, decide_eq_true (by omega : (i : Int) < (l.length : Int)), at?_lt hi]
    simp only [cond_true, Option.bind_some]
    rw [wrap_succ (by omega)]
    rfl) (by
    try dsimp only
    rw [ref17_Last_p6_eq, decide_eq_false (by omega : ¬ (l.length : Int) < (l.length : Int))]; rfl)
  unfold ref17_Last'
  simp only [show ((0 : Nat) : Int) = 0 from rfl] at key0
  rw [key0]
  have hf := findIdx_find (eqk key) l
  unfold lastOf
  cases hi : l.findIdx? (eqk key) with
  | none => rw [hi] at hf; simp only at hf; rw [← hf]; rfl
  | some i =>
    rw [hi] at hf
    obtain ⟨h1, _⟩ := List.findIdx?_eq_some_iff_getElem.1 hi
    simp only at hf ⊢
    rw [List.getElem?_eq_getElem h1] at hf
    rw [← hf, at?_lt h1]
    rfl
def newM (l : List Mk) (key : Str) (token : Int) : Mk := (key, bif decide (lastOf l key > token) then lastOf l key else token)
def afterM (l : List Mk) (key : Str) (token : Int) : List Mk × Int :=
  bif !mays l || (decide ((key.length : Int) > 64) || token == 0) then ([], 1) else
    (let r := placeF (ltk key) (eqk key) l (newM l key token); bif decide ((r.length : Int) > 1024) then ([], 2) else (r, 0))
theorem refPut (l : List Mk) (hl : l.length ≤ 1048576) (key : Str) (m : Mk) :
    ref17_Mark_p26' l key false 0 m [] = some ((l.foldl (putStep (ltk key) (eqk key) m) (false, [])).1, m, (l.foldl (putStep (ltk key) (eqk key) m) (false, [])).2) := by
  have key0 := fold_loop l (putStep (ltk key) (eqk key) m) (false, []) (fun i s => ref17_Mark_p26' l key s.1 (i : Int) m s.2) (out := fun s => some (s.1, m, s.2)) (fun i hi => by
    try dsimp only
    have hlen := put_len (lt := ltk key) (eq := eqk key) (h := m) (l.take i) (false, [])
    generalize (l.take i).foldl (putStep (ltk key) (eqk key) m) (false, []) = s at *
    obtain ⟨b, o⟩ := s
    simp only [List.length_nil, List.length_take, Nat.zero_add] at hlen
    rw [ref17_Mark_p26_eq, decide_eq_true (by omega : (i : Int) < (l.length : Int)), at?_lt hi, wrap_succ (by omega)]
    simp only [cond_true, Option.bind_some]
    rw [room_of (by simp; omega), room_of (by simp; omega), room_of (by simp; omega)]
    simp only [cond_true, putStep, ltk, eqk]
    cases b <;> cases strLess l[i].1 key <;> cases (l[i].1 == key) <;> simp) (by
    try dsimp only
    rw [ref17_Mark_p26_eq, decide_eq_false (by omega : ¬ (l.length : Int) < (l.length : Int))]; rfl)
  simp only [show ((0 : Nat) : Int) = 0 from rfl] at key0
  exact key0
theorem refMark_eq {l : List Mk} (hl : l.length ≤ 1048576) (key : Str) (token : Int) : ref17_Mark' l key token = some (afterM l key token) := by
  unfold ref17_Mark' afterM
  rw [refMarks_eq hl, refLast_eq (by omega)]
  simp only [Option.bind_some]
  cases mays l with
  | false => rfl
  | true =>
    cases decide ((key.length : Int) > 64) with
    | true => rfl
    | false =>
      cases (token == 0) with
      | true => rfl
      | false =>
        have e : ∀ v : Int, ((ref17_Mark_p26' l key false 0 (key, v) []).bind fun o11 => (bif (!o11.1) then (bif room ((o11.2.2 ++ [o11.2.1])).length 24 then (bif (decide ((((o11.2.2 ++ [o11.2.1])).length : Int) > 1024)) then some (([] : List Mk), (2 : Int)) else some ((o11.2.2 ++ [o11.2.1]), 0)) else none) else (bif (decide (((o11.2.2).length : Int) > 1024)) then some ([], 2) else some (o11.2.2, 0)))) =
            some (let r := placeF (ltk key) (eqk key) l (key, v); bif decide ((r.length : Int) > 1024) then ([], 2) else (r, 0)) := by
          intro v
          rw [refPut l hl key (key, v)]
          have hp := put_all (lt := ltk key) (eq := eqk key) (h := ((key, v) : Mk)) ltk_ne l []
          have hlen := put_len (lt := ltk key) (eq := eqk key) (h := ((key, v) : Mk)) l (false, [])
          generalize l.foldl (putStep (ltk key) (eqk key) (key, v)) (false, []) = s at *
          obtain ⟨b, o⟩ := s
          simp only [List.length_nil, Nat.zero_add, List.nil_append] at hlen hp
          simp only [Option.bind_some]
          rw [← hp]
          cases b with
          | true =>
            simp only [Bool.not_true, cond_false, cond_true]
            cases decide ((o.length : Int) > 1024) <;> rfl
          | false =>
            simp only [Bool.not_false, cond_true, cond_false]
            rw [room_of (by simp; omega)]
            simp only [cond_true]
            cases decide (((o ++ [((key, v) : Mk)]).length : Int) > 1024) <;> rfl
        simp only [Bool.not_true, cond_false, Bool.or_self, newM]
        by_cases hlt : lastOf l key > token
        · simp only [decide_eq_true hlt, cond_true]; exact e _
        · simp only [decide_eq_false hlt, cond_false]; exact e _
theorem Mark_eq {l : List Mk} (hl : l.length ≤ 1048576) (key : Str) (token : Int) (ht : 0 ≤ token) : lease_Mark' l key token = some (afterM l key token) := by
  unfold lease_Mark' afterM
  rw [CheckMarks_eq hl]
  simp only [Option.bind_some]
  cases hm : mays l with
  | false => rfl
  | true =>
    simp only [cond_true, bne_self_eq_false, cond_false, Bool.not_true, Bool.false_or]
    cases decide ((key.length : Int) > 64) with
    | true => rfl
    | false =>
      cases htk : (token == 0) with
      | true => rfl
      | false =>
        have hs := mays_sorted hm
        have hll := mays_len hm
        have hsg : Single (ltk key) (eqk key) l := Sorted.single hs key
        have hth : thereAt (ltk key) (fun x => strCmp x.1 key == 0) l = thereAt (ltk key) (eqk key) l := by
          congr 1; funext x; exact strCmp_zero x.1 key
        rw [slices_BinarySearchFunc_api_Mark_api_Mark_string_is l key (fun y2 => ((lease_Mark_1' y2.1 y2.2).bind fun z => some z)) (fun x => strCmp x.1 key) (ltk key) (by omega) (fun x => rfl) (fun x => strCmp_neg x.1 key) (hs.fore key), hth]
        simp only [cond_false, Bool.or_self, Option.bind_some]
        rw [slices_Clone_api_Mark_api_Mark_is l (by omega)]
        simp only [Option.bind_some]
        have hfind := find_there (lt := ltk key) (eq := eqk key) (l := l) ltk_ne hsg
        cases hthere : thereAt (ltk key) (eqk key) l with
        | true =>
          obtain ⟨hc, hset⟩ := place_there (h := newM l key token) hsg hthere
          rw [hthere, if_pos rfl, List.getElem?_eq_getElem hc] at hfind
          have hlast : lastOf l key = (l[cutAt (ltk key) l]).2 := by unfold lastOf; rw [hfind]
          have heq : (l[cutAt (ltk key) l]).1 = key := by
            have := List.find?_some hfind
            simpa [eqk] using this
          have hnew : newM l key token = ((l[cutAt (ltk key) l]).1, intMax (l[cutAt (ltk key) l]).2 token) := by
            unfold newM
            rw [hlast, heq]
            congr 1
            unfold intMax
            by_cases hlt : (l[cutAt (ltk key) l]).2 > token
            · rw [decide_eq_true hlt]; split <;> simp <;> omega
            · rw [decide_eq_false hlt]; split <;> simp <;> omega
          have hlp : (placeF (ltk key) (eqk key) l (newM l key token)).length = l.length := by rw [← hset, List.length_set]
          simp only [cond_true, Int.toNat_natCast, List.getElem?_eq_getElem hc, Option.bind_some]
          rw [decide_eq_true (by omega : (0 : Int) ≤ ((cutAt (ltk key) l : Nat) : Int)), decide_eq_true (by omega : ((cutAt (ltk key) l : Nat) : Int) < (l.length : Int)), hlp, decide_eq_false (by omega : ¬ (l.length : Int) > 1024)]
          simp only [Bool.and_self, cond_true, cond_false]
          rw [← hnew, hset]
        | false =>
          rw [hthere] at hfind
          simp only [Bool.false_eq_true, if_false] at hfind
          have hlast : lastOf l key = 0 := by unfold lastOf; rw [hfind]
          have hnew : newM l key token = (key, token) := by
            unfold newM
            rw [hlast, decide_eq_false (by omega : ¬ (0 : Int) > token)]
            rfl
          have hput := place_new (h := newM l key token) hsg hthere
          have hlp : (placeF (ltk key) (eqk key) l (newM l key token)).length = l.length + 1 := by
            rw [← hput]; have := cutAt_le (ltk key) l; simp; omega
          simp only [cond_false]
          by_cases hfull : (l.length : Int) ≥ 1024
          · rw [decide_eq_true hfull, hlp, decide_eq_true (by omega : ((l.length + 1 : Nat) : Int) > 1024)]
            rfl
          · rw [decide_eq_false hfull, hlp, decide_eq_false (by omega : ¬ ((l.length + 1 : Nat) : Int) > 1024)]
            simp only [cond_false, slices_Insert_api_Mark_api_Mark', insertF]
            have := cutAt_le (ltk key) l
            rw [decide_eq_true (by omega : (0 : Int) ≤ ((cutAt (ltk key) l : Nat) : Int)), decide_eq_true (by omega : ((cutAt (ltk key) l : Nat) : Int) ≤ (l.length : Int)), room_of (by simp; omega)]
            simp only [Int.toNat_natCast]
            rw [← hnew, hput]
            rfl
theorem SameMarks_refl (a : List Mk) (hl : a.length ≤ 1048577) : ref17_SameMarks' a a = some true := by
  have key := check_loop a.length (fun i => ref17_SameMarks_p14' a a (i : Int)) (fun _ => true) (a := some (.inl ())) (b := some (.inr false)) (fun i hi => by
    try dsimp only
    rw [ref17_SameMarks_p14_eq, decide_eq_true (by omega : (i : Int) < (a.length : Int)), at?_lt hi, wrap_succ (by omega)]
    simp only [cond_true, Option.bind_some]
    rw [(eqb_iff (t := .pair .str (.int .u64)) rfl _ _).2 rfl]; rfl) (by
    try dsimp only
    rw [ref17_SameMarks_p14_eq, decide_eq_false (by omega : ¬ (a.length : Int) < (a.length : Int))]; rfl)
  unfold ref17_SameMarks'
  simp only [show ((0 : Nat) : Int) = 0 from rfl] at key
  rw [key, show allB a.length (fun _ => true) = true from allB_iff.2 fun _ _ => rfl]
  simp
theorem after_last {l : List Mk} {key : Str} {token : Int} (h : (afterM l key token).2 = 0) : lastOf (afterM l key token).1 key = (newM l key token).2 := by
  unfold afterM at h ⊢
  cases hb : (!mays l || (decide ((key.length : Int) > 64) || token == 0)) with
  | true => rw [hb] at h; cases h
  | false =>
    rw [hb] at h
    simp only [cond_false] at h ⊢
    cases hc : decide (((placeF (ltk key) (eqk key) l (newM l key token)).length : Int) > 1024) with
    | true => rw [hc] at h; cases h
    | false =>
      simp only [cond_false]
      unfold lastOf
      rw [find_place ltk_ne (by simp [eqk, newM])]
theorem after_len {l : List Mk} (hl : l.length ≤ 1048576) (key : Str) (token : Int) : (afterM l key token).1.length ≤ 1048577 := by
  have := placeF_len (ltk key) (eqk key) l (newM l key token)
  unfold afterM
  cases (!mays l || (decide ((key.length : Int) > 64) || token == 0)) with
  | true => simp
  | false =>
    simp only [cond_false]
    cases decide (((placeF (ltk key) (eqk key) l (newM l key token)).length : Int) > 1024) with
    | true => simp
    | false => simp only [cond_false]; omega
theorem law_LeaseMarks (l : List Mk) (key : Str) (token : Int) (ht : 0 ≤ token) (hl : l.length ≤ 1048576) : ∃ k, law17_LeaseMarks k l key token = some true := by
  refine (law17_LeaseMarks_lm l key token).fin ?_
  unfold law17_LeaseMarks'
  rw [Mark_eq hl key token ht, refMark_eq hl, CheckMarks_eq hl, refMarks_eq hl, awake_eq]
  simp only [Option.bind_some]
  rw [SameMarks_refl _ (after_len hl key token), Last_eq (by omega), refLast_eq (by omega), Last_eq (after_len hl key token)]
  have e : (((cond (mays l) (0 : Int) 1) == 0) == mays l) = true := by cases mays l <;> rfl
  simp only [e, Bool.not_true, cond_false, bne_self_eq_false, Option.bind_some]
  cases hz : ((afterM l key token).2 != 0) with
  | true => rfl
  | false =>
    have hz' : (afterM l key token).2 = 0 := by simpa using hz
    rw [after_last hz']
    simp only [cond_false]
    have h1 : (newM l key token).2 ≥ token ∧ (newM l key token).2 ≥ lastOf l key := by
      unfold newM
      by_cases hlt : lastOf l key > token
      · rw [decide_eq_true hlt]; simp; omega
      · rw [decide_eq_false hlt]; simp; omega
    rw [decide_eq_true h1.1, decide_eq_true h1.2]
    rfl
end Go.Proofs.Ytafdbhdeomooaaa.gg
