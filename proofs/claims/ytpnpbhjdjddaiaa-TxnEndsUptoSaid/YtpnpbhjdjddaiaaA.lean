/- Transactions' records: what may be, and what each turn makes of one: the plain laws. -/
import Derived.Test.YtpnpbhjdjddaiaaI
open Go Go.GG
set_option linter.unusedVariables false
namespace Go.Proofs.Ytpnpbhjdjddaiaa.gg
abbrev Tx := (Int × Int) × Int × (List (List UInt8)) × Int × Int × (List Int) × Int × (List Int) × (List Int) × Int
abbrev Cl := Int × (List (List UInt8)) × Int × Int
theorem nat_beq (a b : Nat) : ((a : Int) == (b : Int)) = decide (a = b) := by
  rw [Bool.eq_iff_iff, beq_iff_eq, decide_eq_true_eq]; omega
theorem nat_beq0 (a : Nat) : ((a : Int) == 0) = decide (a = 0) := nat_beq a 0
theorem le_not_lt (a b : Int) : decide (a ≤ b) = !decide (b < a) := by
  by_cases h : a ≤ b
  · rw [decide_eq_true h, decide_eq_false (by omega)]; rfl
  · rw [decide_eq_false h, decide_eq_true (by omega)]; rfl
theorem gt_not_le (a b : Int) : decide (a > b) = !decide (a ≤ b) := by
  by_cases h : a ≤ b
  · rw [decide_eq_true h, decide_eq_false (by omega)]; rfl
  · rw [decide_eq_false h, decide_eq_true (by omega)]; rfl
theorem lt_not_le (a b : Int) : decide (a < b) = !decide (b ≤ a) := by
  by_cases h : a < b
  · rw [decide_eq_true h, decide_eq_false (by omega)]; rfl
  · rw [decide_eq_false h, decide_eq_true (by omega)]; rfl
/-! ### Calls -/
def lastsB (k t : Int) : Bool := bif k == 2 then t == 0 else (k == 1 || k == 3) && (decide (1 ≤ t) && decide (t ≤ 1048576))
def keysB (l : List (List UInt8)) : Bool := allB l.length fun i => decide (((nth l i []).length : Int) ≤ 64) && (decide (i = 0) || strLess (nth l (i - 1) []) (nth l i []))
def callB (c : Cl) : Bool := lastsB c.1 c.2.2.2 && (((c.2.2.1 == 0) == (c.1 == 1)) && (decide (1 ≤ c.2.1.length) && (decide (c.2.1.length ≤ 16) && keysB c.2.1)))
theorem lasts_eq (k t : Int) : table_lasts' k t = some (lastsB k t) := by
  unfold table_lasts' lastsB
  show (bif k == 2 then _ else bif k == 1 then bif k == 1 then bif decide (1 ≤ t) then _ else _ else _ else bif k == 3 then bif decide (1 ≤ t) then _ else _ else _) = _
  cases (k == 2) <;> cases (k == 1) <;> cases (k == 3) <;> cases decide (1 ≤ t) <;> rfl
theorem refLasts_eq (k t : Int) : ref19_lasts' k t = some (lastsB k t) := by
  unfold ref19_lasts' lastsB
  show (bif k == 2 then _ else bif k == 1 then bif decide (1 ≤ t) then _ else _ else bif k == 3 then bif decide (1 ≤ t) then _ else _ else _) = _
  cases (k == 2) <;> cases (k == 1) <;> cases (k == 3) <;> cases decide (1 ≤ t) <;> rfl
theorem CheckCall_eq (c : Cl) (hl : c.2.1.length ≤ 1048576) : table_CheckCall' c = some (bif callB c then 0 else 1) := by
  obtain ⟨k, l, tok, ttl⟩ := c
  simp only at hl
  have key := check_loop l.length (fun i => table_CheckCall_p14' l (l.length : Int) (i : Int) (k, l, tok, ttl)) (fun i => decide (((nth l i []).length : Int) ≤ 64) && (decide (i = 0) || strLess (nth l (i - 1) []) (nth l i []))) (a := some (.inl ())) (b := some (.inr 1)) (fun i hi => by
    try dsimp only
    rw [table_CheckCall_p14_eq, decide_eq_true (by omega : (i : Int) < (l.length : Int)), at?_getD hi [], wrap_succ (by omega)]
    simp only [cond_true, Option.bind_some, gt_not_le]
    by_cases h0 : i = 0
    · subst h0
      cases decide (((nth l 0 []).length : Int) ≤ 64) <;> rfl
    · rw [decide_eq_false (by omega : ¬ (i : Int) ≤ 0), decide_eq_false h0, wrap_pred (by omega) (by omega), at?_getD (by omega : i - 1 < l.length) []]
      simp only [Option.bind_some, Bool.not_false, cond_true, Bool.false_or]
      rw [show (strLess (nth l i []) (nth l (i - 1) []) || nth l i [] == nth l (i - 1) []) = leS (nth l i []) (nth l (i - 1) []) from rfl, ← not_less]
      cases decide (((nth l i []).length : Int) ≤ 64) <;> cases strLess (nth l (i - 1) []) (nth l i []) <;> rfl) (by
    try dsimp only
    rw [table_CheckCall_p14_eq, decide_eq_false (by omega : ¬ (l.length : Int) < (l.length : Int))]; rfl)
  simp only [show ((0 : Nat) : Int) = 0 from rfl] at key
  unfold table_CheckCall' callB keysB
  simp only [lasts_eq, Option.bind_some, key]
  cases lastsB k ttl with
  | false => rfl
  | true =>
    cases ((tok == 0) == (k == 1)) with
    | false => rfl
    | true =>
      by_cases h1 : l.length < 1
      · rw [decide_eq_true (by omega : (l.length : Int) < 1), decide_eq_false (by omega : ¬ 1 ≤ l.length)]; rfl
      · rw [decide_eq_false (by omega : ¬ (l.length : Int) < 1), decide_eq_true (by omega : 1 ≤ l.length)]
        by_cases h2 : l.length > 16
        · rw [decide_eq_true (by omega : (l.length : Int) > 16), decide_eq_false (by omega : ¬ l.length ≤ 16)]; rfl
        · rw [decide_eq_false (by omega : ¬ (l.length : Int) > 16), decide_eq_true (by omega : l.length ≤ 16)]
          simp only [Bool.not_true, cond_false, Bool.true_and]
          cases allB l.length _ <;> rfl
theorem MayCall_eq (c : Cl) (hl : c.2.1.length ≤ 1048576) : ref19_MayCall' c = some (callB c) := by
  obtain ⟨k, l, tok, ttl⟩ := c
  simp only at hl
  have key := check_loop l.length (fun i => ref19_MayCall_p14' (i : Int) (k, l, tok, ttl)) (fun i => decide (((nth l i []).length : Int) ≤ 64) && (decide (i = 0) || strLess (nth l (i - 1) []) (nth l i []))) (a := some (.inl ())) (b := some (.inr false)) (fun i hi => by
    try dsimp only
    rw [ref19_MayCall_p14_eq]
    simp only []
    rw [decide_eq_true (by omega : (i : Int) < (l.length : Int)), at?_getD hi [], wrap_succ (by omega)]
    simp only [cond_true, Option.bind_some, gt_not_le]
    by_cases h0 : i = 0
    · subst h0
      cases decide (((nth l 0 []).length : Int) ≤ 64) <;> rfl
    · rw [decide_eq_false (by omega : ¬ (i : Int) ≤ 0), decide_eq_false h0, wrap_pred (by omega) (by omega), at?_getD (by omega : i - 1 < l.length) []]
      simp only [Option.bind_some, Bool.not_false, cond_true, Bool.false_or]
      rw [show (strLess (nth l i []) (nth l (i - 1) []) || nth l i [] == nth l (i - 1) []) = leS (nth l i []) (nth l (i - 1) []) from rfl, ← not_less]
      cases decide (((nth l i []).length : Int) ≤ 64) <;> cases strLess (nth l (i - 1) []) (nth l i []) <;> rfl) (by
    try dsimp only
    rw [ref19_MayCall_p14_eq]
    simp only []
    rw [decide_eq_false (by omega : ¬ (l.length : Int) < (l.length : Int))]; rfl)
  simp only [show ((0 : Nat) : Int) = 0 from rfl] at key
  unfold ref19_MayCall' callB keysB
  simp only [refLasts_eq, Option.bind_some, key]
  rw [show ((k == 1) == (tok == 0)) = ((tok == 0) == (k == 1)) from Bool.beq_comm]
  cases lastsB k ttl with
  | false => rfl
  | true =>
    by_cases h1 : l.length < 1
    · rw [decide_eq_true (by omega : (l.length : Int) < 1), decide_eq_false (by omega : ¬ 1 ≤ l.length)]
      cases ((tok == 0) == (k == 1)) <;> rfl
    · rw [decide_eq_false (by omega : ¬ (l.length : Int) < 1), decide_eq_true (by omega : 1 ≤ l.length)]
      by_cases h2 : l.length > 16
      · rw [decide_eq_true (by omega : (l.length : Int) > 16), decide_eq_false (by omega : ¬ l.length ≤ 16)]
        cases ((tok == 0) == (k == 1)) <;> rfl
      · rw [decide_eq_false (by omega : ¬ (l.length : Int) > 16), decide_eq_true (by omega : l.length ≤ 16)]
        simp only [Bool.not_true, cond_false, Bool.true_and]
        cases ((tok == 0) == (k == 1)) <;> cases allB l.length _ <;> rfl
/-! ### Groups -/
theorem groups_eq {l : List Int} (hl : l.length ≤ 1048576) : txn_groups' l = some (riseB 1 16 l) := by
  have key := check_loop l.length (fun i => txn_groups_p6' l l (l.length : Int) (i : Int)) (fun i => decide ((1 : Int) ≤ nth l i 0) && (decide (nth l i 0 ≤ 16) && (decide (i = 0) || decide (nth l (i - 1) 0 < nth l i 0)))) (a := some (.inl ())) (b := some (.inr false)) (fun i hi => by
    try dsimp only
    rw [txn_groups_p6_eq, decide_eq_true (by omega : (i : Int) < (l.length : Int)), at?_getD hi (0 : Int), wrap_succ (by omega)]
    simp only [cond_true, Option.bind_some, lt_not_le (nth l i 0) 1, gt_not_le (nth l i 0) 16]
    by_cases h0 : i = 0
    · rw [decide_eq_false (by omega : ¬ (i : Int) > 0), decide_eq_true h0]
      cases decide ((1 : Int) ≤ nth l i 0) <;> cases decide (nth l i 0 ≤ 16) <;> rfl
    · rw [decide_eq_true (by omega : (i : Int) > 0), decide_eq_false h0, wrap_pred (by omega) (by omega), at?_getD (by omega : i - 1 < l.length) (0 : Int)]
      simp only [Option.bind_some, le_not_lt (nth l i 0) (nth l (i - 1) 0), Bool.false_or]
      cases decide ((1 : Int) ≤ nth l i 0) <;> cases decide (nth l i 0 ≤ 16) <;> cases decide (nth l (i - 1) 0 < nth l i 0) <;> rfl) (by
    try dsimp only
    rw [txn_groups_p6_eq, decide_eq_false (by omega : ¬ (l.length : Int) < (l.length : Int))]; rfl)
  unfold txn_groups'
  simp only [show ((0 : Nat) : Int) = 0 from rfl] at key
  rw [key]
  unfold riseB
  cases allB l.length _ <;> rfl
theorem refGroups_eq {l : List Int} (hl : l.length ≤ 1048576) : ref20_Groups' l = some (riseB 1 16 l) := by
  have key := check_loop l.length (fun i => ref20_Groups_p6' l (i : Int)) (fun i => decide ((1 : Int) ≤ nth l i 0) && (decide (nth l i 0 ≤ 16) && (decide (i = 0) || decide (nth l (i - 1) 0 < nth l i 0)))) (a := some (.inl ())) (b := some (.inr false)) (fun i hi => by
    try dsimp only
    rw [ref20_Groups_p6_eq, decide_eq_true (by omega : (i : Int) < (l.length : Int)), at?_getD hi (0 : Int), wrap_succ (by omega)]
    simp only [cond_true, Option.bind_some, lt_not_le (nth l i 0) 1, gt_not_le (nth l i 0) 16]
    by_cases h0 : i = 0
    · rw [decide_eq_false (by omega : ¬ (i : Int) > 0), decide_eq_true h0]
      cases decide ((1 : Int) ≤ nth l i 0) <;> cases decide (nth l i 0 ≤ 16) <;> rfl
    · rw [decide_eq_true (by omega : (i : Int) > 0), decide_eq_false h0, wrap_pred (by omega) (by omega), at?_getD (by omega : i - 1 < l.length) (0 : Int)]
      simp only [Option.bind_some, le_not_lt (nth l i 0) (nth l (i - 1) 0), Bool.false_or]
      cases decide ((1 : Int) ≤ nth l i 0) <;> cases decide (nth l i 0 ≤ 16) <;> cases decide (nth l (i - 1) 0 < nth l i 0) <;> rfl) (by
    try dsimp only
    rw [ref20_Groups_p6_eq, decide_eq_false (by omega : ¬ (l.length : Int) < (l.length : Int))]; rfl)
  unfold ref20_Groups'
  simp only [show ((0 : Nat) : Int) = 0 from rfl] at key
  rw [key]
  unfold riseB
  cases allB l.length _ <;> rfl
def allIn (l m : List Int) : Bool := l.all fun g => m.contains g
theorem allIn_iff {l m : List Int} : allIn l m = true ↔ ∀ x ∈ l, x ∈ m := by
  unfold allIn
  rw [List.all_eq_true]
  simp only [List.contains_iff_mem]
theorem all_eq {l m : List Int} (hl : l.length ≤ 1048576) (hm : m.length ≤ 1048576) : ref20_all' l m = some (allIn l m) := by
  have key := all_loop l (fun g => m.contains g) (fun i => ref20_all_p6' l m (i : Int)) (a := some (.inl ())) (b := some (.inr false)) (fun i hi => by
    try dsimp only
    rw [ref20_all_p6_eq, decide_eq_true (by omega : (i : Int) < (l.length : Int)), at?_lt hi, wrap_succ (by omega)]
    simp only [cond_true, Option.bind_some]
    rw [In_eq (by omega)]
    simp only [Option.bind_some]
    cases m.contains l[i] <;> rfl) (by
    try dsimp only
    rw [ref20_all_p6_eq, decide_eq_false (by omega : ¬ (l.length : Int) < (l.length : Int))]; rfl)
  unfold ref20_all' allIn
  simp only [show ((0 : Nat) : Int) = 0 from rfl] at key
  rw [key]
  cases l.all _ <;> rfl
def someB (l m : List Int) : Bool := riseB 1 16 l && allIn l m
theorem some_eq {l m : List Int} (hl : l.length ≤ 1048576) (hm : m.length ≤ 1048576) : txn_some' l m = some (someB l m) := by
  unfold txn_some' someB
  rw [groups_eq hl]
  simp only [Option.bind_some]
  cases riseB 1 16 l with
  | false => rfl
  | true =>
    simp only [cond_true, Bool.true_and]
    rw [slices_ContainsFunc_int_int_is l _ (fun g => !m.contains g) (by omega) (fun x => by
      try dsimp only
      unfold txn_some_1'
      rw [Contains_eq (by omega)]; rfl)]
    simp only [Option.bind_some]
    unfold allIn
    rw [List.all_eq_not_any_not]
/-! ### Records -/
def idB (i : Int × Int) : Bool := decide (0 ≤ i.1) && (decide (i.1 < 8) && (i.2 != 0))
theorem id_eq (i : Int × Int) : txn_id' i = some (idB i) := by
  unfold txn_id' idB
  show (bif decide (0 ≤ i.1) then _ else _) = _
  cases decide (0 ≤ i.1) <;> cases decide (i.1 < 8) <;> rfl
theorem refId_eq (i : Int × Int) : ref19_Id' i = some (idB i) := by
  unfold ref19_Id' idB
  show (bif decide (0 ≤ i.1) then _ else _) = _
  cases decide (0 ≤ i.1) <;> cases decide (i.1 < 8) <;> rfl
def callOf (x : Tx) : Cl := (x.2.1, (x.2.2.1, ((bif x.2.1 == 1 then 0 else x.2.2.2.1), x.2.2.2.2.1)))
theorem Call_eq (x : Tx) (hl : x.2.2.1.length ≤ 1048576) : txn_Call' x = some (callOf x) := by
  unfold txn_Call' callOf
  rw [slices_Clone_string_string_is _ (by omega)]
  simp only [Option.bind_some]
  cases (x.2.1 == 1) <;> rfl
theorem refCall_eq (x : Tx) : ref20_Call' x = some (callOf x) := by
  unfold ref20_Call' callOf
  simp only [bne]
  cases (x.2.1 == 1) <;> rfl
def stB (st code : Int) (d0 rd da : Bool) : Bool := bif st == 1 then d0 && ((code == 0) && !rd) else bif st == 2 then rd && (!da && (code == 0)) else bif st == 3 then (code != 0) && !da else (st == 4) && (da && ((code != 0) || rd))
def rdB (x : Tx) : Bool := decide (x.2.2.2.2.2.2.2.1.length = x.2.2.2.2.2.1.length) && (x.2.2.2.1 != 0)
def daB (x : Tx) : Bool := decide (x.2.2.2.2.2.2.2.2.1.length = x.2.2.2.2.2.1.length)
def d0B (x : Tx) : Bool := decide (x.2.2.2.2.2.2.2.2.1.length = 0)
def txOk (x : Tx) : Bool := idB x.1 && (callB (callOf x) && (decide (0 < x.2.2.2.2.2.1.length) && (riseB 1 16 x.2.2.2.2.2.1 && (someB x.2.2.2.2.2.2.2.1 x.2.2.2.2.2.1 && (someB x.2.2.2.2.2.2.2.2.1 x.2.2.2.2.2.1 && stB x.2.2.2.2.2.2.1 x.2.2.2.2.2.2.2.2.2 (d0B x) (rdB x) (daB x))))))
structure Small (x : Tx) : Prop where
  keys : x.2.2.1.length ≤ 1048576
  gs : x.2.2.2.2.2.1.length ≤ 1048576
  yes : x.2.2.2.2.2.2.2.1.length ≤ 1048576
  dn : x.2.2.2.2.2.2.2.2.1.length ≤ 1048576
theorem p4_eq (a b : Bool) (v) : txn_Check_p4' a b v = some (b, a && (v.2.2.2.2.1 != 0), v) := by
  unfold txn_Check_p4'
  cases a <;> rfl
theorem p8_eq (d r : Bool) (v) : txn_Check_p8' d r false v = some (stB v.2.2.2.2.2.2.2.1 v.2.2.2.2.2.2.2.2.2.2 (decide (v.2.2.2.2.2.2.2.2.2.1.length = 0)) r d, v) := by
  unfold txn_Check_p8' stB
  simp only [nat_beq0, bne]
  cases (v.2.2.2.2.2.2.2.1 == 1) <;> cases (v.2.2.2.2.2.2.2.1 == 2) <;> cases (v.2.2.2.2.2.2.2.1 == 3) <;> cases (v.2.2.2.2.2.2.2.1 == 4) <;> cases decide (v.2.2.2.2.2.2.2.2.2.1.length = 0) <;> cases (v.2.2.2.2.2.2.2.2.2.2 == 0) <;> cases d <;> cases r <;> rfl
theorem Check_eq (x : Tx) (h : Small x) : txn_Check' x = some (bif txOk x then 0 else 1) := by
  unfold txn_Check' txOk
  simp only [p4_eq, p8_eq, Option.bind_some, nat_beq, nat_beq0, id_eq]
  rw [Call_eq _ h.keys]
  simp only [Option.bind_some]
  rw [CheckCall_eq _ (by exact h.keys)]
  simp only [Option.bind_some]
  rw [groups_eq h.gs, some_eq h.yes h.gs, some_eq h.dn h.gs]
  simp only [Option.bind_some]
  show (bif !(stB x.2.2.2.2.2.2.1 x.2.2.2.2.2.2.2.2.2 (d0B x) (rdB x) (daB x)) then _ else bif !(idB x.1) then _ else bif ((bif callB (callOf x) then (0 : Int) else 1) != 0) then _ else _) = _
  have e : decide (0 < x.2.2.2.2.2.1.length) = !decide (x.2.2.2.2.2.1.length = 0) := by
    by_cases h : x.2.2.2.2.2.1.length = 0
    · rw [decide_eq_true h, decide_eq_false (by omega)]; rfl
    · rw [decide_eq_false h, decide_eq_true (by omega)]; rfl
  rw [e]
  cases stB x.2.2.2.2.2.2.1 x.2.2.2.2.2.2.2.2.2 (d0B x) (rdB x) (daB x) <;> cases idB x.1 <;> cases callB (callOf x) <;> cases decide (x.2.2.2.2.2.1.length = 0) <;> cases riseB 1 16 x.2.2.2.2.2.1 <;> cases someB x.2.2.2.2.2.2.2.1 x.2.2.2.2.2.1 <;> cases someB x.2.2.2.2.2.2.2.2.1 x.2.2.2.2.2.1 <;> rfl
/-- Of two rising lists of which one is in the other: are they as long, the other is in the one. -/
theorem all_len {l m : List Int} (hl : Rise l) (hm : Rise m) (h : ∀ x ∈ m, x ∈ l) : allIn l m = decide (m.length = l.length) := by
  rw [Bool.eq_iff_iff, allIn_iff, decide_eq_true_eq]
  constructor
  · intro h2
    have a := hl.len_le h2
    have b := hm.len_le h
    omega
  · intro e x hx
    rw [hm.eq_of_len hl h (by omega)]; exact hx
theorem p10_eq (v) (h1 : v.2.2.2.2.2.2.1.length ≤ 1048576) (h2 : v.2.2.2.2.2.2.2.2.1.length ≤ 1048576) : ref20_May_p10' v = some ((v.2.2.2.2.1 != 0) && allIn v.2.2.2.2.2.2.1 v.2.2.2.2.2.2.2.2.1, v) := by
  unfold ref20_May_p10'
  rw [all_eq h1 h2]
  cases (v.2.2.2.2.1 != 0) <;> rfl
structure TxOk (x : Tx) : Prop where
  id : idB x.1 = true
  call : callB (callOf x) = true
  ne : 0 < x.2.2.2.2.2.1.length
  rg : Rise x.2.2.2.2.2.1
  bg : ∀ g ∈ x.2.2.2.2.2.1, 1 ≤ g ∧ g ≤ 16
  ry : Rise x.2.2.2.2.2.2.2.1
  sy : ∀ g ∈ x.2.2.2.2.2.2.2.1, g ∈ x.2.2.2.2.2.1
  rd : Rise x.2.2.2.2.2.2.2.2.1
  sd : ∀ g ∈ x.2.2.2.2.2.2.2.2.1, g ∈ x.2.2.2.2.2.1
  st : stB x.2.2.2.2.2.2.1 x.2.2.2.2.2.2.2.2.2 (d0B x) (rdB x) (daB x) = true
theorem someB_iff {l m : List Int} (hm : ∀ g ∈ m, 1 ≤ g ∧ g ≤ 16) : someB l m = true ↔ Rise l ∧ ∀ g ∈ l, g ∈ m := by
  unfold someB
  rw [Bool.and_eq_true, riseB_iff, allIn_iff]
  exact ⟨fun h => ⟨h.1.1, h.2⟩, fun h => ⟨⟨h.1, fun x hx => hm x (h.2 x hx)⟩, h.2⟩⟩
theorem txOk_iff {x : Tx} : txOk x = true ↔ TxOk x := by
  unfold txOk
  simp only [Bool.and_eq_true, decide_eq_true_eq, riseB_iff]
  constructor
  · rintro ⟨h1, h2, h3, ⟨h4, h5⟩, h6, h7, h8⟩
    rw [someB_iff h5] at h6 h7
    exact ⟨h1, h2, h3, h4, h5, h6.1, h6.2, h7.1, h7.2, h8⟩
  · intro h
    exact ⟨h.id, h.call, h.ne, ⟨h.rg, h.bg⟩, (someB_iff h.bg).2 ⟨h.ry, h.sy⟩, (someB_iff h.bg).2 ⟨h.rd, h.sd⟩, h.st⟩
theorem May_eq (x : Tx) (h : Small x) : ref20_May' x = some (txOk x) := by
  unfold ref20_May'
  rw [refId_eq, refCall_eq]
  simp only [Option.bind_some]
  rw [MayCall_eq _ (by exact h.keys), refGroups_eq h.gs, refGroups_eq h.yes, refGroups_eq h.dn, all_eq h.yes h.gs, all_eq h.dn h.gs]
  simp only [Option.bind_some]
  rw [p10_eq _ h.gs h.yes]
  simp only [Option.bind_some]
  rw [all_eq h.gs h.dn]
  simp only [Option.bind_some, nat_beq0]
  cases hk : txOk x with
  | true =>
    have T := txOk_iff.1 hk
    rw [T.id, T.call, decide_eq_false (by have := T.ne; omega), riseB_iff.2 ⟨T.rg, T.bg⟩, riseB_iff.2 ⟨T.ry, fun g hg => T.bg g (T.sy g hg)⟩, riseB_iff.2 ⟨T.rd, fun g hg => T.bg g (T.sd g hg)⟩, allIn_iff.2 T.sy, allIn_iff.2 T.sd,
      all_len T.rg T.ry T.sy, all_len T.rg T.rd T.sd]
    have hs := T.st
    unfold stB d0B rdB daB at hs
    simp only [Bool.not_true, cond_false]
    rw [← hs]
    simp only [bne]
    cases (x.2.2.2.2.2.2.1 == 1) <;> cases (x.2.2.2.2.2.2.1 == 2) <;> cases (x.2.2.2.2.2.2.1 == 3) <;> cases (x.2.2.2.2.2.2.1 == 4) <;> cases decide (x.2.2.2.2.2.2.2.2.1.length = 0) <;> cases (x.2.2.2.2.2.2.2.2.2 == 0) <;> cases decide (x.2.2.2.2.2.2.2.1.length = x.2.2.2.2.2.1.length) <;> cases decide (x.2.2.2.2.2.2.2.2.1.length = x.2.2.2.2.2.1.length) <;> cases (x.2.2.2.1 == 0) <;> rfl
  | false =>
    cases h1 : idB x.1 with
    | false => rfl
    | true =>
      cases h2 : callB (callOf x) with
      | false => rfl
      | true =>
        by_cases h3 : x.2.2.2.2.2.1.length = 0
        · rw [decide_eq_true h3]; rfl
        · rw [decide_eq_false h3]
          cases h4 : riseB 1 16 x.2.2.2.2.2.1 with
          | false => rfl
          | true =>
            cases h5 : riseB 1 16 x.2.2.2.2.2.2.2.1 with
            | false => rfl
            | true =>
              cases h6 : riseB 1 16 x.2.2.2.2.2.2.2.2.1 with
              | false => rfl
              | true =>
                cases h7 : allIn x.2.2.2.2.2.2.2.1 x.2.2.2.2.2.1 with
                | false => rfl
                | true =>
                  cases h8 : allIn x.2.2.2.2.2.2.2.2.1 x.2.2.2.2.2.1 with
                  | false => rfl
                  | true =>
                    have hs : stB x.2.2.2.2.2.2.1 x.2.2.2.2.2.2.2.2.2 (d0B x) (rdB x) (daB x) = false := by
                      unfold txOk someB at hk
                      rw [h1, h2, h4, h5, h6, h7, h8, decide_eq_true (by omega)] at hk
                      simpa using hk
                    rw [riseB_iff] at h4 h5 h6
                    rw [allIn_iff] at h7 h8
                    rw [all_len h4.1 h5.1 h7, all_len h4.1 h6.1 h8]
                    unfold stB d0B rdB daB at hs
                    simp only [Bool.not_true, cond_false]
                    rw [← hs]
                    simp only [bne]
                    cases (x.2.2.2.2.2.2.1 == 1) <;> cases (x.2.2.2.2.2.2.1 == 2) <;> cases (x.2.2.2.2.2.2.1 == 3) <;> cases (x.2.2.2.2.2.2.1 == 4) <;> cases decide (x.2.2.2.2.2.2.2.2.1.length = 0) <;> cases (x.2.2.2.2.2.2.2.2.2 == 0) <;> cases decide (x.2.2.2.2.2.2.2.1.length = x.2.2.2.2.2.1.length) <;> cases decide (x.2.2.2.2.2.2.2.2.1.length = x.2.2.2.2.2.1.length) <;> cases (x.2.2.2.1 == 0) <;> rfl
end Go.Proofs.Ytpnpbhjdjddaiaa.gg
