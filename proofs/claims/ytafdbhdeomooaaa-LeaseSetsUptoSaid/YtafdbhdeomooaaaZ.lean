/- Holds with one more or less: the plain law. -/
import Derived.Test.YtafdbhdeomooaaaS
open Go Go.GG
set_option linter.unusedVariables false
namespace Go.Proofs.Ytafdbhdeomooaaa.gg
theorem may_len {l : List Hold} (h : may l = true) : l.length ≤ 1024 := by
  simp only [may, Bool.and_eq_true, Bool.not_eq_true', decide_eq_false_iff_not] at h
  omega
theorem may_sorted {l : List Hold} (h : may l = true) : Sorted strOrd (fun x : Hold => x.1) l := by
  simp only [may, Bool.and_eq_true] at h
  refine sorted_of_steps (d := hd0) fun i hi => ?_
  have := allB_iff.1 h.2 i hi
  simp only [okH, Bool.and_eq_true, Bool.or_eq_true, decide_eq_true_eq] at this
  refine this.2.imp id fun hh => ?_
  show strLess _ _ = true
  rw [← not_le]; exact hh
def lth (key : Str) (x : Hold) : Bool := strLess x.1 key
def eqh (key : Str) (x : Hold) : Bool := x.1 == key
theorem lth_ne {key : Str} (x : Hold) (h : lth key x = true) : eqh key x = false := lt_ne (O := strOrd) (key := fun x : Hold => x.1) key x h
def foundH (l : List Hold) (key : Str) : Hold × Bool := match l.find? (eqh key) with | some x => (x, true) | none => (hd0, false)
theorem Find_eq {l : List Hold} (hl : l.length ≤ 1048576) (key : Str) : lease_Find' l key = some (foundH l key) := by
  unfold lease_Find'
  rw [slices_IndexFunc_api_Hold_api_Hold_is l (fun y1 => ((lease_Find_1' y1 key).bind fun z => some z)) (eqh key) (by omega) (fun x => rfl)]
  have hf := findIdx_find (eqh key) l
  unfold foundH
  simp only [Option.bind_some]
  cases hi : l.findIdx? (eqh key) with
  | none => rw [hi] at hf; simp only at hf; rw [← hf]; rfl
  | some i =>
    rw [hi] at hf
    obtain ⟨h1, _⟩ := List.findIdx?_eq_some_iff_getElem.1 hi
    simp only at hf ⊢
    rw [List.getElem?_eq_getElem h1] at hf
    rw [← hf, decide_eq_false (by omega : ¬ (i : Int) < 0), at?_lt h1]
    rfl
theorem refFind_eq {l : List Hold} (hl : l.length ≤ 1048576) (key : Str) : ref17_Find' l key = some (foundH l key) := by
  have key0 := index_loop l (eqh key) (fun i => ref17_Find_p6' l key (i : Int) hd0) (f := fun i => (at? l (i : Int)).bind fun e2 => some (.inr (true, (e2.1, e2.2.1, e2.2.2)))) (a := some (.inl hd0)) (fun i hi => by
    try dsimp only
    rw [ref17_Find_p6_eq, decide_eq_true (by omega : (i : Int) < (l.length : Int)), at?_lt hi]
    simp only [cond_true, Option.bind_some]
    rw [wrap_succ (by omega)]
    rfl) (by
    try dsimp only
    rw [ref17_Find_p6_eq, decide_eq_false (by omega : ¬ (l.length : Int) < (l.length : Int))]; rfl)
  unfold ref17_Find'
  simp only [show ((0 : Nat) : Int) = 0 from rfl, hd0] at key0
  rw [key0]
  have hf := findIdx_find (eqh key) l
  unfold foundH
  cases hi : l.findIdx? (eqh key) with
  | none => rw [hi] at hf; simp only at hf; rw [← hf]; rfl
  | some i =>
    rw [hi] at hf
    obtain ⟨h1, _⟩ := List.findIdx?_eq_some_iff_getElem.1 hi
    simp only at hf ⊢
    rw [List.getElem?_eq_getElem h1] at hf
    rw [← hf, at?_lt h1]
    rfl
theorem Drop_eq {l : List Hold} (hl : l.length ≤ 1048576) (key : Str) : lease_Drop' l key = some (l.filter fun x => !eqh key x) := by
  unfold lease_Drop'
  rw [slices_Clone_api_Hold_api_Hold_is l (by omega)]
  simp only [Option.bind_some]
  rw [slices_DeleteFunc_api_Hold_api_Hold_is l (fun y2 => ((lease_Drop_1' y2 key).bind fun z => some z)) (eqh key) (by omega) (fun x => rfl)]
  rfl
theorem refDrop_eq {l : List Hold} (hl : l.length ≤ 1048576) (key : Str) : ref17_Drop' l key = some (l.filter fun x => !eqh key x) := by
  have hfold : ∀ (r : List Hold) (o : List Hold), r.foldl (fun o x => bif eqh key x then o else o ++ [x]) o = o ++ r.filter fun x => !eqh key x := by
    intro r
    induction r with
    | nil => intro o; simp
    | cons x r ih => intro o; rw [List.foldl_cons, ih]; cases hx : eqh key x <;> simp [hx]
  have key0 := fold_loop l (fun o x => bif eqh key x then o else o ++ [x]) [] (fun i s => ref17_Drop_p8' l key (i : Int) s) (out := fun s => some s) (fun i hi => by
    try dsimp only
    have hlen : ((l.take i).foldl (fun o x => bif eqh key x then o else o ++ [x]) []).length ≤ i := by
      rw [hfold]
      have := List.length_filter_le (fun x => !eqh key x) (l.take i)
      simp only [List.nil_append, List.length_take] at this ⊢
      omega
    generalize (l.take i).foldl (fun o x => bif eqh key x then o else o ++ [x]) [] = s at *
    rw [ref17_Drop_p8_eq, decide_eq_true (by omega : (i : Int) < (l.length : Int)), at?_lt hi, wrap_succ (by omega)]
    simp only [cond_true, Option.bind_some]
    rw [room_of (by simp; omega)]
    simp only [cond_true, eqh]
    cases (l[i].1 == key) <;> rfl) (by
    try dsimp only
    rw [ref17_Drop_p8_eq, decide_eq_false (by omega : ¬ (l.length : Int) < (l.length : Int))]; rfl)
  unfold ref17_Drop'
  simp only [show ((0 : Nat) : Int) = 0 from rfl] at key0
  rw [key0, hfold]
  rfl
def afterH (l : List Hold) (h : Hold) : List Hold × Int :=
  bif !may l || !H h then ([], 1) else
    (let r := placeF (lth h.1) (eqh h.1) l h; bif decide ((r.length : Int) > 1024) then ([], 2) else (r, 0))
theorem refPutH (l : List Hold) (hl : l.length ≤ 1048576) (h : Hold) : ref17_Put' l h = some (placeF (lth h.1) (eqh h.1) l h) := by
  have key0 := fold_loop l (putStep (lth h.1) (eqh h.1) h) (false, []) (fun i s => ref17_Put_p10' l s.1 (i : Int) h s.2) (out := fun s => some (s.1, h, s.2)) (fun i hi => by
    try dsimp only
    have hlen := put_len (lt := lth h.1) (eq := eqh h.1) (h := h) (l.take i) (false, [])
    generalize (l.take i).foldl (putStep (lth h.1) (eqh h.1) h) (false, []) = s at *
    obtain ⟨b, o⟩ := s
    simp only [List.length_nil, List.length_take, Nat.zero_add] at hlen
    rw [ref17_Put_p10_eq, decide_eq_true (by omega : (i : Int) < (l.length : Int)), at?_lt hi, wrap_succ (by omega)]
    simp only [cond_true, Option.bind_some]
    rw [room_of (by simp; omega), room_of (by simp; omega), room_of (by simp; omega)]
    simp only [cond_true, putStep, lth, eqh]
    cases b <;> cases strLess l[i].1 h.1 <;> cases (l[i].1 == h.1) <;> simp) (by
    try dsimp only
    rw [ref17_Put_p10_eq, decide_eq_false (by omega : ¬ (l.length : Int) < (l.length : Int))]; rfl)
  simp only [show ((0 : Nat) : Int) = 0 from rfl] at key0
  unfold ref17_Put'
  rw [show ((h.1, h.2.1, h.2.2) : Hold) = h from rfl, key0]
  have hp := put_all (lt := lth h.1) (eq := eqh h.1) (h := h) lth_ne l []
  have hlen := put_len (lt := lth h.1) (eq := eqh h.1) (h := h) l (false, [])
  generalize l.foldl (putStep (lth h.1) (eqh h.1) h) (false, []) = s at *
  obtain ⟨b, o⟩ := s
  simp only [List.length_nil, Nat.zero_add, List.nil_append] at hlen hp
  simp only [Option.bind_some]
  rw [← hp]
  cases b with
  | true => rfl
  | false =>
    simp only [Bool.not_false, cond_true, cond_false]
    rw [room_of (by simp; omega)]
    rfl
theorem refSet_eq {l : List Hold} (hl : l.length ≤ 1048576) (h : Hold) : ref17_Set' l h = some (afterH l h) := by
  unfold ref17_Set' afterH
  rw [May_eq hl, refHold_eq, refPutH l hl]
  simp only [Option.bind_some]
  cases may l with
  | false => rfl
  | true =>
    cases H h with
    | false => rfl
    | true =>
      simp only [Bool.not_true, cond_false, Bool.or_self]
      cases decide (((placeF (lth h.1) (eqh h.1) l h).length : Int) > 1024) <;> rfl
theorem Set_eq {l : List Hold} (hl : l.length ≤ 1048576) (h : Hold) : lease_Set' l h = some (afterH l h) := by
  unfold lease_Set' afterH
  rw [Check_eq hl, hold_eq]
  simp only [Option.bind_some]
  cases hm : may l with
  | false => rfl
  | true =>
    simp only [cond_true, bne_self_eq_false, cond_false, Bool.not_true, Bool.false_or]
    cases hH : H h with
    | false => rfl
    | true =>
      have hs := may_sorted hm
      have hll := may_len hm
      have hsg : Single (lth h.1) (eqh h.1) l := Sorted.single hs h.1
      have hth : thereAt (lth h.1) (fun x => strCmp x.1 h.1 == 0) l = thereAt (lth h.1) (eqh h.1) l := by
        congr 1; funext x; exact strCmp_zero x.1 h.1
      rw [slices_BinarySearchFunc_api_Hold_api_Hold_string_is l h.1 (fun y3 => ((lease_Set_1' y3.1 y3.2).bind fun z => some z)) (fun x => strCmp x.1 h.1) (lth h.1) (by omega) (fun x => rfl) (fun x => strCmp_neg x.1 h.1) (hs.fore h.1), hth]
      simp only [Bool.not_true, cond_false, Option.bind_some]
      rw [slices_Clone_api_Hold_api_Hold_is l (by omega)]
      simp only [Option.bind_some]
      cases hthere : thereAt (lth h.1) (eqh h.1) l with
      | true =>
        obtain ⟨hc, hset⟩ := place_there (h := h) hsg hthere
        have hlp : (placeF (lth h.1) (eqh h.1) l h).length = l.length := by rw [← hset, List.length_set]
        simp only [cond_true, Int.toNat_natCast, List.getElem?_eq_getElem hc, Option.bind_some]
        rw [decide_eq_true (by omega : (0 : Int) ≤ ((cutAt (lth h.1) l : Nat) : Int)), decide_eq_true (by omega : ((cutAt (lth h.1) l : Nat) : Int) < (l.length : Int)), hlp, decide_eq_false (by omega : ¬ (l.length : Int) > 1024)]
        simp only [Bool.and_self, cond_true, cond_false]
        rw [hset]
      | false =>
        have hput := place_new (h := h) hsg hthere
        have hlp : (placeF (lth h.1) (eqh h.1) l h).length = l.length + 1 := by
          rw [← hput]; have := cutAt_le (lth h.1) l; simp; omega
        simp only [cond_false]
        by_cases hfull : (l.length : Int) ≥ 1024
        · rw [decide_eq_true hfull, hlp, decide_eq_true (by omega : ((l.length + 1 : Nat) : Int) > 1024)]
          rfl
        · rw [decide_eq_false hfull, hlp, decide_eq_false (by omega : ¬ ((l.length + 1 : Nat) : Int) > 1024)]
          simp only [cond_false, slices_Insert_api_Hold_api_Hold', insertF]
          have := cutAt_le (lth h.1) l
          rw [decide_eq_true (by omega : (0 : Int) ≤ ((cutAt (lth h.1) l : Nat) : Int)), decide_eq_true (by omega : ((cutAt (lth h.1) l : Nat) : Int) ≤ (l.length : Int)), room_of (by simp; omega)]
          simp only [Int.toNat_natCast]
          rw [hput]
          rfl
theorem Same_refl (a : List Hold) (hl : a.length ≤ 1048577) : ref17_Same' a a = some true := by
  have key := check_loop a.length (fun i => ref17_Same_p14' a a (i : Int)) (fun _ => true) (a := some (.inl ())) (b := some (.inr false)) (fun i hi => by
    try dsimp only
    rw [ref17_Same_p14_eq, decide_eq_true (by omega : (i : Int) < (a.length : Int)), at?_lt hi, wrap_succ (by omega)]
    simp only [cond_true, Option.bind_some]
    rw [(eqb_iff (t := .pair .str (.pair (.int .u64) (.int .i64))) rfl _ _).2 rfl]; rfl) (by
    try dsimp only
    rw [ref17_Same_p14_eq, decide_eq_false (by omega : ¬ (a.length : Int) < (a.length : Int))]; rfl)
  unfold ref17_Same'
  simp only [show ((0 : Nat) : Int) = 0 from rfl] at key
  rw [key, show allB a.length (fun _ => true) = true from allB_iff.2 fun _ _ => rfl]
  simp
theorem afterH_len {l : List Hold} (hl : l.length ≤ 1048576) (h : Hold) : (afterH l h).1.length ≤ 1048577 := by
  have := placeF_len (lth h.1) (eqh h.1) l h
  unfold afterH
  cases (!may l || !H h) with
  | true => simp
  | false =>
    simp only [cond_false]
    cases decide (((placeF (lth h.1) (eqh h.1) l h).length : Int) > 1024) with
    | true => simp
    | false => simp only [cond_false]; omega
theorem law_LeaseSets (l : List Hold) (h : Hold) (key : Str) (hl : l.length ≤ 1048576) : ∃ k, law17_LeaseSets k l h key = some true := by
  refine (law17_LeaseSets_lm l h key).fin ?_
  unfold law17_LeaseSets'
  rw [Set_eq hl, refSet_eq hl, Find_eq hl, refFind_eq hl, Check_eq hl, May_eq hl, awake_eq]
  simp only [Option.bind_some]
  have e : (((cond (may l) (0 : Int) 1) == 0) == may l) = true := by cases may l <;> rfl
  have hfl : (l.filter fun x => !eqh key x).length ≤ 1048577 := Nat.le_trans (List.length_filter_le _ _) (by omega)
  rw [Same_refl _ (afterH_len hl h), Drop_eq hl, refDrop_eq hl, e, hold_eqb _ _ |>.2 rfl]
  simp only [Option.bind_some, cond_true, beq_self_eq_true]
  rw [Same_refl _ hfl]
  rfl
end Go.Proofs.Ytafdbhdeomooaaa.gg
