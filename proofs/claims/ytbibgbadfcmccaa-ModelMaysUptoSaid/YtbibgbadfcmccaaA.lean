/- Calls and tables: which may be; who holds a key; a table with a key more or less. -/
import Derived.Test.YtbibgbadfcmccaaK6
import Derived.Test.YtbibgbadfcmccaaM
open Go Go.GG
set_option linter.unusedVariables false
set_option linter.unusedSimpArgs false
namespace Go.Proofs.Ytbibgbadfcmccaa.gg
abbrev Mk := List UInt8 × Int
abbrev Cl := Int × (List (List UInt8)) × Int × Int
abbrev Rp := Int × Int × List Int
abbrev mk0 : Mk := ([], 0)
theorem slices_BinarySearchFunc_api_Mark_api_Mark_string_is (l : List (Mk)) (key : List UInt8) (f : (Mk) × List UInt8 → Option Int) (g : Mk → Int) (lt : Mk → Bool) (hl : l.length ≤ 1000000000000) (hf : ∀ x, f (x, key) = some (g x)) (hlt : ∀ x, decide (g x < 0) = lt x) (hfore : Fore lt l) :
    slices_BinarySearchFunc_api_Mark_api_Mark_string' l key f = some (((cutAt lt l : Nat) : Int), thereAt lt (fun x => g x == 0) l) := by
  have hcl := cutAt_le lt l
  have key0 := bs_loop (n := l.length) (cut := cutAt lt l) (fun i j => slices_BinarySearchFunc_api_Mark_api_Mark_string_q_p8' l key f (l.length : Int) i j) (fun i => some (l, key, (l.length : Int), (i : Int))) hcl (fun i j hij hj => by
    try dsimp only
    rw [slices_BinarySearchFunc_api_Mark_api_Mark_string_q_p8_eq, decide_eq_true (by omega : (i : Int) < (j : Int)), bs_mid (by omega), at?_lt (by omega : (i + j) / 2 < l.length)]
    simp only [cond_true, Option.bind_some, hf, hlt]
    rw [wrap_succ (by omega)]
    have := cutAt_iff hfore ((i + j) / 2) (by omega)
    cases hh : lt l[(i + j) / 2] with
    | true => rw [decide_eq_true (this.1 hh)]
    | false => rw [decide_eq_false (fun h => by rw [this.2 h] at hh; cases hh)]) (fun i hi => by
    try dsimp only
    rw [slices_BinarySearchFunc_api_Mark_api_Mark_string_q_p8_eq, decide_eq_false (by omega : ¬ (i : Int) < (i : Int))]; rfl)
  unfold slices_BinarySearchFunc_api_Mark_api_Mark_string' slices_BinarySearchFunc_api_Mark_api_Mark_string_q'
  try dsimp only at key0
  rw [key0]
  simp only [Option.bind_some]
  by_cases hc : cutAt lt l < l.length
  · rw [decide_eq_true (by omega : ((cutAt lt l : Nat) : Int) < (l.length : Int)), at?_lt hc, there_lt hc]
    simp only [cond_true, Option.bind_some, hf]
  · rw [decide_eq_false (by omega : ¬ ((cutAt lt l : Nat) : Int) < (l.length : Int)), there_ge hc]
    rfl
theorem slices_IndexFunc_api_Mark_api_Mark_is (l : List (Mk)) (f : Mk → Option Bool) (p : Mk → Bool) (hl : l.length ≤ 1000000000000) (hf : ∀ x, f x = some (p x)) : slices_IndexFunc_api_Mark_api_Mark' l f = some (match l.findIdx? p with | some i => (i : Int) | none => -1) := by
  have key0 := index_loop l p (fun i => slices_IndexFunc_api_Mark_api_Mark_p6' l f (l.length : Int) (i : Int)) (f := fun i => some (.inr (i : Int))) (a := some (.inl ())) (fun i hi => by
    try dsimp only
    rw [slices_IndexFunc_api_Mark_api_Mark_p6_eq, decide_eq_true (by omega : (i : Int) < (l.length : Int)), at?_lt hi]
    simp only [cond_true, Option.bind_some, hf]
    rw [wrap_succ (by omega)]) (by
    try dsimp only
    rw [slices_IndexFunc_api_Mark_api_Mark_p6_eq, decide_eq_false (by omega : ¬ (l.length : Int) < (l.length : Int))]; rfl)
  unfold slices_IndexFunc_api_Mark_api_Mark'
  simp only [show ((0 : Nat) : Int) = 0 from rfl] at key0
  rw [key0]
  cases l.findIdx? p <;> rfl
theorem slices_IndexFunc_string_string_is (l : List (List UInt8)) (f : List UInt8 → Option Bool) (p : List UInt8 → Bool) (hl : l.length ≤ 1000000000000) (hf : ∀ x, f x = some (p x)) : slices_IndexFunc_string_string' l f = some (match l.findIdx? p with | some i => (i : Int) | none => -1) := by
  have key0 := index_loop l p (fun i => slices_IndexFunc_string_string_p6' l f (l.length : Int) (i : Int)) (f := fun i => some (.inr (i : Int))) (a := some (.inl ())) (fun i hi => by
    try dsimp only
    rw [slices_IndexFunc_string_string_p6_eq, decide_eq_true (by omega : (i : Int) < (l.length : Int)), at?_lt hi]
    simp only [cond_true, Option.bind_some, hf]
    rw [wrap_succ (by omega)]) (by
    try dsimp only
    rw [slices_IndexFunc_string_string_p6_eq, decide_eq_false (by omega : ¬ (l.length : Int) < (l.length : Int))]; rfl)
  unfold slices_IndexFunc_string_string'
  simp only [show ((0 : Nat) : Int) = 0 from rfl] at key0
  rw [key0]
  cases l.findIdx? p <;> rfl
theorem slices_ContainsFunc_string_string_is (l : List (List UInt8)) (f : List UInt8 → Option Bool) (p : List UInt8 → Bool) (hl : l.length ≤ 1000000000000) (hf : ∀ x, f x = some (p x)) : slices_ContainsFunc_string_string' l f = some (l.any p) := by
  unfold slices_ContainsFunc_string_string'
  rw [slices_IndexFunc_string_string_is l f p hl hf]
  simp only [Option.bind_some]
  cases hi : l.findIdx? p with
  | none =>
    rw [List.findIdx?_eq_none_iff] at hi
    have : l.any p = false := by
      rw [List.any_eq_false]
      intro x hx
      rw [hi x hx]; simp
    rw [this]; rfl
  | some i =>
    obtain ⟨h1, h2, _⟩ := List.findIdx?_eq_some_iff_getElem.1 hi
    have : l.any p = true := List.any_eq_true.2 ⟨_, List.getElem_mem h1, h2⟩
    rw [this]
    simp only
    rw [decide_eq_true (by omega : (i : Int) ≥ 0)]
theorem slices_Clone_api_Mark_api_Mark_is (l : List (Mk)) (hl : l.length ≤ 4398046511104 / 24) : slices_Clone_api_Mark_api_Mark' l = some l := by
  unfold slices_Clone_api_Mark_api_Mark'
  rw [room_of (by simp; omega)]
  rfl
theorem slices_DeleteFunc_api_Mark_api_Mark_is (l : List (Mk)) (f : Mk → Option Bool) (p : Mk → Bool) (hl : l.length ≤ 1000000000000) (hf : ∀ x, f x = some (p x)) : slices_DeleteFunc_api_Mark_api_Mark' l f = some (l.filter fun x => !p x) := by
  unfold slices_DeleteFunc_api_Mark_api_Mark'
  rw [slices_IndexFunc_api_Mark_api_Mark_is l f p hl hf]
  simp only [Option.bind_some]
  cases hi : l.findIdx? p with
  | none =>
    rw [List.findIdx?_eq_none_iff] at hi
    simp only [show ((-1 : Int) == -1) = true from rfl, cond_true]
    rw [List.filter_eq_self.2 fun x hx => by rw [hi x hx]; rfl]
  | some i =>
    obtain ⟨hil, hpi, hpre⟩ := List.findIdx?_eq_some_iff_getElem.1 hi
    have e1 : (((i : Nat) : Int) == -1) = false := by rw [beq_eq_false_iff_ne]; omega
    simp only [e1, cond_false]
    have ht : l.take i = (l.take (i + 1)).filter (fun x => !p x) := by
      rw [take_succ' hil, List.filter_append, List.filter_eq_self.2]
      · simp [hpi]
      · intro x hx
        obtain ⟨j, hj, rfl⟩ := List.getElem_of_mem hx
        simp only [List.length_take] at hj
        rw [List.getElem_take]
        have := hpre j (by omega)
        simpa using this
    obtain ⟨s', h1, h2, h3⟩ := delete_loop l p (fun i j s => slices_DeleteFunc_api_Mark_api_Mark_p16' f i j s) (fun i s => some (i, s)) (fun i j s hj hij hs => by
      try dsimp only
      have hi2 : i < s.length := by omega
      rw [slices_DeleteFunc_api_Mark_api_Mark_p16_eq, decide_eq_true (by omega : (j : Int) < (s.length : Int)), decide_eq_true (by omega : (0 : Int) ≤ (j : Int))]
      simp only [Bool.and_self, cond_true, Int.toNat_natCast, List.getElem?_eq_getElem hj, Option.bind_some, hf]
      rw [wrap_succ (by omega), wrap_succ (by omega), decide_eq_true (by omega : (0 : Int) ≤ (i : Int)), decide_eq_true (by omega : (i : Int) < (s.length : Int)), List.getElem?_eq_getElem hi2]
      simp only [Bool.and_self, cond_true, Option.bind_some]
      cases p s[j] <;> rfl) (fun i s hs => by
      try dsimp only
      rw [slices_DeleteFunc_api_Mark_api_Mark_p16_eq, decide_eq_false (by omega : ¬ ((l.length : Nat) : Int) < (s.length : Int))]; rfl) i (i + 1) l (by omega) (by omega) rfl ht rfl
    try dsimp only at h2
    rw [wrap_succ (by omega), h2]
    have hfl : (l.filter fun x => !p x).length ≤ l.length := List.length_filter_le _ _
    generalize hm : (l.filter fun x => !p x).length = m at *
    simp only [Option.bind_some, ble_iff, Int.toNat_natCast, List.length_replicate, Bool.true_and]
    rw [decide_eq_true (by omega : (0 : Int) ≤ (m : Int)), decide_eq_true (by omega : (m : Int) ≤ (s'.length : Int)), decide_eq_true (Nat.le_refl _), decide_eq_true (by omega : m + (s'.length - m) ≤ s'.length)]
    simp only [Bool.and_self, cond_true]
    have hsp : ∀ ys : List (Mk), ys.length = s'.length - m → (splice s' m ys).take m = s'.take m ∧ (splice s' m ys).length = s'.length := by
      intro ys hy
      constructor
      · unfold splice
        rw [List.append_assoc, List.take_append_of_le_length (by simp; omega), List.take_take, Nat.min_self]
      · simp [splice, hy]; omega
    have q1 : ∀ z : Mk, (splice s' m (List.replicate (s'.length - m) z)).take m = s'.take m := fun z => (hsp _ List.length_replicate).1
    have q2 : ∀ z : Mk, (splice s' m (List.replicate (s'.length - m) z)).length = s'.length := fun z => (hsp _ List.length_replicate).2
    simp only [q2, Bool.true_and]
    rw [decide_eq_true (by omega : (m : Int) ≤ (s'.length : Int))]
    simp only [cond_true]
    have : ∀ ys : List (Mk), cut ys 0 (m : Int) = ys.take m := by intro ys; simp [cut]
    rw [this, q1, h3]
theorem gt_not_le (a b : Int) : decide (a > b) = !decide (a ≤ b) := by
  by_cases h : a ≤ b
  · rw [decide_eq_true h, decide_eq_false (by omega)]; rfl
  · rw [decide_eq_false h, decide_eq_true (by omega)]; rfl
theorem lt_not_le (a b : Int) : decide (a < b) = !decide (b ≤ a) := by
  by_cases h : a < b
  · rw [decide_eq_true h, decide_eq_false (by omega)]; rfl
  · rw [decide_eq_false h, decide_eq_true (by omega)]; rfl
/-! ### Calls -/
def keysB (l : List (List UInt8)) : Bool := allB l.length fun i => decide (((nth l i []).length : Int) ≤ 64) && (decide (i = 0) || strLess (nth l (i - 1) []) (nth l i []))
def kindB (c : Cl) : Bool := bif c.1 == 1 then (decide (1 ≤ c.2.2.2) && decide (c.2.2.2 ≤ 1048576)) && (c.2.2.1 == 0) else bif c.1 == 2 then (c.2.2.2 == 0) && (c.2.2.1 != 0) else bif c.1 == 3 then (decide (1 ≤ c.2.2.2) && decide (c.2.2.2 ≤ 1048576)) && (c.2.2.1 != 0) else (c.1 == 4) && ((c.2.2.2 == 0) && (c.2.2.1 == 0))
def mayC (c : Cl) : Bool := decide (1 ≤ c.2.1.length) && (decide (c.2.1.length ≤ 16) && (keysB c.2.1 && kindB c))
theorem Check_eq (c : Cl) (hl : c.2.1.length ≤ 1048576) : model_Check' c = some (bif mayC c then 0 else 1) := by
  obtain ⟨k, l, tok, ttl⟩ := c
  simp only at hl
  have key := check_loop l.length (fun i => model_Check_p25' l (l.length : Int) (i : Int) (k, l, tok, ttl)) (fun i => decide (((nth l i []).length : Int) ≤ 64) && (decide (i = 0) || strLess (nth l (i - 1) []) (nth l i []))) (a := some (.inl ())) (b := some (.inr 1)) (fun i hi => by
    try dsimp only
    rw [model_Check_p25_eq, decide_eq_true (by omega : (i : Int) < (l.length : Int)), at?_getD hi [], wrap_succ (by omega)]
    simp only [cond_true, Option.bind_some, gt_not_le]
    by_cases h0 : i = 0
    · subst h0
      cases decide (((nth l 0 []).length : Int) ≤ 64) <;> rfl
    · rw [decide_eq_false (by omega : ¬ (i : Int) ≤ 0), decide_eq_false h0, wrap_pred (by omega) (by omega), at?_getD (by omega : i - 1 < l.length) []]
      simp only [Option.bind_some, Bool.not_false, cond_true, Bool.false_or]
      rw [show (strLess (nth l i []) (nth l (i - 1) []) || nth l i [] == nth l (i - 1) []) = leS (nth l i []) (nth l (i - 1) []) from rfl, ← not_less]
      cases decide (((nth l i []).length : Int) ≤ 64) <;> cases strLess (nth l (i - 1) []) (nth l i []) <;> rfl) (by
    try dsimp only
    rw [model_Check_p25_eq, decide_eq_false (by omega : ¬ (l.length : Int) < (l.length : Int))]; rfl)
  simp only [show ((0 : Nat) : Int) = 0 from rfl] at key
  unfold model_Check' model_Check_p2' model_Check_p4' mayC kindB keysB
  have e1 : decide ((l.length : Int) < 1) = !decide (1 ≤ l.length) := by
    by_cases h : 1 ≤ l.length
    · rw [decide_eq_true h, decide_eq_false (by omega)]; rfl
    · rw [decide_eq_false h, decide_eq_true (by omega)]; rfl
  have e2 : decide ((l.length : Int) > 16) = !decide (l.length ≤ 16) := by
    by_cases h : l.length ≤ 16
    · rw [decide_eq_true h, decide_eq_false (by omega)]; rfl
    · rw [decide_eq_false h, decide_eq_true (by omega)]; rfl
  by_cases h1 : k = 1
  · subst h1
    simp only [show ((1 : Int) == 1) = true from rfl, show ((1 : Int) == 2) = false from rfl, show ((1 : Int) == 3) = false from rfl, show decide ((1 : Int) < 1) = false from rfl, show decide ((1 : Int) ≥ 5) = false from rfl, cond_true, cond_false, Option.bind_some, key, e1, e2, lt_not_le ttl 1, gt_not_le ttl 1048576, bne]
    cases decide (1 ≤ l.length) <;> cases decide (l.length ≤ 16) <;> cases decide (1 ≤ ttl) <;> cases decide (ttl ≤ 1048576) <;> cases (tok == 0) <;> cases allB l.length _ <;> rfl
  · by_cases h2 : k = 2
    · subst h2
      simp only [show ((2 : Int) == 1) = false from rfl, show ((2 : Int) == 2) = true from rfl, show ((2 : Int) == 3) = false from rfl, show decide ((2 : Int) < 1) = false from rfl, show decide ((2 : Int) ≥ 5) = false from rfl, cond_true, cond_false, Option.bind_some, key, e1, e2, bne]
      cases decide (1 ≤ l.length) <;> cases decide (l.length ≤ 16) <;> cases (ttl == 0) <;> cases (tok == 0) <;> cases allB l.length _ <;> rfl
    · by_cases h3 : k = 3
      · subst h3
        simp only [show ((3 : Int) == 1) = false from rfl, show ((3 : Int) == 2) = false from rfl, show ((3 : Int) == 3) = true from rfl, show decide ((3 : Int) < 1) = false from rfl, show decide ((3 : Int) ≥ 5) = false from rfl, cond_true, cond_false, Option.bind_some, key, e1, e2, lt_not_le ttl 1, gt_not_le ttl 1048576, bne]
        cases decide (1 ≤ l.length) <;> cases decide (l.length ≤ 16) <;> cases decide (1 ≤ ttl) <;> cases decide (ttl ≤ 1048576) <;> cases (tok == 0) <;> cases allB l.length _ <;> rfl
      · by_cases h4 : k = 4
        · subst h4
          simp only [show ((4 : Int) == 1) = false from rfl, show ((4 : Int) == 2) = false from rfl, show ((4 : Int) == 3) = false from rfl, show ((4 : Int) == 4) = true from rfl, show decide ((4 : Int) < 1) = false from rfl, show decide ((4 : Int) ≥ 5) = false from rfl, cond_true, cond_false, Option.bind_some, key, e1, e2, bne]
          cases decide (1 ≤ l.length) <;> cases decide (l.length ≤ 16) <;> cases (ttl == 0) <;> cases (tok == 0) <;> cases allB l.length _ <;> rfl
        · simp only [show (k == 1) = false by simpa using h1, show (k == 2) = false by simpa using h2, show (k == 3) = false by simpa using h3, show (k == 4) = false by simpa using h4, cond_false, Option.bind_some, Bool.false_and, Bool.and_false]
          by_cases h5 : k < 1
          · rw [decide_eq_true h5]; rfl
          · rw [decide_eq_false h5, decide_eq_true (by omega : k ≥ 5)]; rfl
theorem MayCall_eq (c : Cl) (hl : c.2.1.length ≤ 1048576) : ref24_MayCall' c = some (mayC c) := by
  obtain ⟨k, l, tok, ttl⟩ := c
  simp only at hl
  have key := check_loop l.length (fun i => ref24_MayCall_p14' (i : Int) (k, l, tok, ttl)) (fun i => decide (((nth l i []).length : Int) ≤ 64) && (decide (i = 0) || strLess (nth l (i - 1) []) (nth l i []))) (a := some (.inl (k, l, tok, ttl))) (b := some (.inr false)) (fun i hi => by
    try dsimp only
    rw [ref24_MayCall_p14_eq]
    simp only []
    rw [decide_eq_true (by omega : (i : Int) < (l.length : Int)), at?_getD hi [], wrap_succ (by omega)]
    simp only [cond_true, Option.bind_some, gt_not_le]
    by_cases h0 : i = 0
    · subst h0
      cases decide (((nth l 0 []).length : Int) ≤ 64) <;> rfl
    · rw [decide_eq_false (by omega : ¬ (i : Int) ≤ 0), decide_eq_false h0, wrap_pred (by omega) (by omega), at?_getD (by omega : i - 1 < l.length) []]
      simp only [Option.bind_some, Bool.not_false, cond_true, Bool.false_or]
      rw [show (strLess (nth l i []) (nth l (i - 1) []) || nth l i [] == nth l (i - 1) []) = leS (nth l i []) (nth l (i - 1) []) from rfl, ← not_less]
      cases decide (((nth l i []).length : Int) ≤ 64) <;> cases strLess (nth l (i - 1) []) (nth l i []) <;> rfl) (by
    try dsimp only
    rw [ref24_MayCall_p14_eq]
    simp only []
    rw [decide_eq_false (by omega : ¬ (l.length : Int) < (l.length : Int))]; rfl)
  simp only [show ((0 : Nat) : Int) = 0 from rfl] at key
  have e1 : decide ((l.length : Int) < 1) = !decide (1 ≤ l.length) := by
    by_cases h : 1 ≤ l.length
    · rw [decide_eq_true h, decide_eq_false (by omega)]; rfl
    · rw [decide_eq_false h, decide_eq_true (by omega)]; rfl
  have e2 : decide ((l.length : Int) > 16) = !decide (l.length ≤ 16) := by
    by_cases h : l.length ≤ 16
    · rw [decide_eq_true h, decide_eq_false (by omega)]; rfl
    · rw [decide_eq_false h, decide_eq_true (by omega)]; rfl
  unfold ref24_MayCall' mayC kindB keysB
  simp only [key, e1, e2]
  cases decide (1 ≤ l.length) with
  | false => rfl
  | true =>
    cases decide (l.length ≤ 16) with
    | false => rfl
    | true =>
      cases allB l.length _ with
      | false => rfl
      | true =>
        simp only [Bool.not_true, cond_false, cond_true, Option.bind_some, Sum.elim_inl, Bool.true_and]
        show (bif decide (1 ≤ ttl) then _ else _) = _
        cases (k == 1) <;> cases (k == 2) <;> cases (k == 3) <;> cases (k == 4) <;> cases decide (1 ≤ ttl) <;> cases decide (ttl ≤ 1048576) <;> cases (ttl == 0) <;> rfl
theorem kind_cases {c : Cl} (h : mayC c = true) : c.1 = 1 ∨ c.1 = 2 ∨ c.1 = 3 ∨ c.1 = 4 := by
  simp only [mayC, Bool.and_eq_true] at h
  have h := h.2.2.2
  unfold kindB at h
  by_cases h1 : c.1 = 1
  · exact .inl h1
  · by_cases h2 : c.1 = 2
    · exact .inr (.inl h2)
    · by_cases h3 : c.1 = 3
      · exact .inr (.inr (.inl h3))
      · rw [show (c.1 == 1) = false by simpa using h1, show (c.1 == 2) = false by simpa using h2, show (c.1 == 3) = false by simpa using h3] at h
        simp only [cond_false, Bool.and_eq_true, beq_iff_eq] at h
        exact .inr (.inr (.inr h.1))
/-- Keys of a call that may be. -/
structure KeysOk (l : List (List UInt8)) : Prop where
  len1 : 1 ≤ l.length
  len2 : l.length ≤ 16
  short : ∀ k ∈ l, (k.length : Int) ≤ 64
  rise : Sorted strOrd (fun k : Str => k) l
theorem keys_ok {c : Cl} (h : mayC c = true) : KeysOk c.2.1 := by
  simp only [mayC, Bool.and_eq_true, decide_eq_true_eq] at h
  obtain ⟨h1, h2, h3, _⟩ := h
  have h3 := allB_iff.1 h3
  refine ⟨h1, h2, fun k hk => ?_, sorted_of_steps (d := []) fun i hi => ?_⟩
  · obtain ⟨i, hi, rfl⟩ := List.getElem_of_mem hk
    have := h3 i hi
    simp only [Bool.and_eq_true, decide_eq_true_eq] at this
    rw [getD_lt hi] at this
    exact this.1
  · have := h3 i hi
    simp only [Bool.and_eq_true, Bool.or_eq_true, decide_eq_true_eq] at this
    exact this.2
/-! ### Tables -/
def okM (l : List Mk) (i : Nat) : Bool := decide (((nth l i mk0).1.length : Int) ≤ 64) && (((nth l i mk0).2 != 0) && (decide (i = 0) || strLess (nth l (i - 1) mk0).1 (nth l i mk0).1))
def tblB (l : List Mk) : Bool := allB l.length (okM l)
theorem CheckTable_eq {l : List Mk} (hl : l.length ≤ 1048576) : model_CheckTable' l = some (bif tblB l then 0 else 1) := by
  have key := check_loop l.length (fun i => model_CheckTable_p6' l l (l.length : Int) (i : Int)) (okM l) (a := some (.inl ())) (b := some (.inr 1)) (fun i hi => by
    try dsimp only
    rw [model_CheckTable_p6_eq, decide_eq_true (by omega : (i : Int) < (l.length : Int)), at?_getD hi mk0, wrap_succ (by omega)]
    simp only [cond_true, Option.bind_some, gt_not_le, okM, bne]
    by_cases h0 : i = 0
    · subst h0
      cases decide (((nth l 0 mk0).1.length : Int) ≤ 64) <;> cases ((nth l 0 mk0).2 == 0) <;> rfl
    · rw [decide_eq_false (by omega : ¬ (i : Int) ≤ 0), decide_eq_false h0, wrap_pred (by omega) (by omega), at?_getD (by omega : i - 1 < l.length) mk0]
      simp only [Option.bind_some, Bool.not_false, cond_true, Bool.false_or]
      rw [show (strLess (nth l i mk0).1 (nth l (i - 1) mk0).1 || (nth l i mk0).1 == (nth l (i - 1) mk0).1) = leS (nth l i mk0).1 (nth l (i - 1) mk0).1 from rfl, ← not_less]
      cases decide (((nth l i mk0).1.length : Int) ≤ 64) <;> cases ((nth l i mk0).2 == 0) <;> cases strLess (nth l (i - 1) mk0).1 (nth l i mk0).1 <;> rfl) (by
    try dsimp only
    rw [model_CheckTable_p6_eq, decide_eq_false (by omega : ¬ (l.length : Int) < (l.length : Int))]; rfl)
  unfold model_CheckTable' tblB
  simp only [show ((0 : Nat) : Int) = 0 from rfl] at key
  rw [key]
  cases allB l.length (okM l) <;> rfl
theorem Table_eq {l : List Mk} (hl : l.length ≤ 1048576) : ref24_Table' l = some (tblB l) := by
  have key := check_loop l.length (fun i => ref24_Table_p6' l (i : Int)) (okM l) (a := some (.inl ())) (b := some (.inr false)) (fun i hi => by
    try dsimp only
    rw [ref24_Table_p6_eq, decide_eq_true (by omega : (i : Int) < (l.length : Int)), at?_getD hi mk0, wrap_succ (by omega)]
    simp only [cond_true, Option.bind_some, gt_not_le, okM, bne]
    by_cases h0 : i = 0
    · subst h0
      cases decide (((nth l 0 mk0).1.length : Int) ≤ 64) <;> cases ((nth l 0 mk0).2 == 0) <;> rfl
    · rw [decide_eq_false (by omega : ¬ (i : Int) ≤ 0), decide_eq_false h0, wrap_pred (by omega) (by omega), at?_getD (by omega : i - 1 < l.length) mk0]
      simp only [Option.bind_some, Bool.not_false, cond_true, Bool.false_or]
      rw [show (strLess (nth l i mk0).1 (nth l (i - 1) mk0).1 || (nth l i mk0).1 == (nth l (i - 1) mk0).1) = leS (nth l i mk0).1 (nth l (i - 1) mk0).1 from rfl, ← not_less]
      cases decide (((nth l i mk0).1.length : Int) ≤ 64) <;> cases ((nth l i mk0).2 == 0) <;> cases strLess (nth l (i - 1) mk0).1 (nth l i mk0).1 <;> rfl) (by
    try dsimp only
    rw [ref24_Table_p6_eq, decide_eq_false (by omega : ¬ (l.length : Int) < (l.length : Int))]; rfl)
  unfold ref24_Table' tblB
  simp only [show ((0 : Nat) : Int) = 0 from rfl] at key
  rw [key]
  cases allB l.length (okM l) <;> rfl
structure Tbl (l : List Mk) : Prop where
  short : ∀ m ∈ l, (m.1.length : Int) ≤ 64
  held : ∀ m ∈ l, m.2 ≠ 0
  rise : Sorted strOrd (fun m : Mk => m.1) l
theorem tbl_iff {l : List Mk} : tblB l = true ↔ Tbl l := by
  unfold tblB
  rw [allB_iff]
  simp only [okM, Bool.and_eq_true, Bool.or_eq_true, decide_eq_true_eq, bne_iff_ne, ne_eq]
  constructor
  · intro h
    refine ⟨fun m hm => ?_, fun m hm => ?_, sorted_of_steps (d := mk0) fun i hi => (h i hi).2.2⟩
    · obtain ⟨i, hi, rfl⟩ := List.getElem_of_mem hm
      have := (h i hi).1; rwa [getD_lt hi] at this
    · obtain ⟨i, hi, rfl⟩ := List.getElem_of_mem hm
      have := (h i hi).2.1; rwa [getD_lt hi] at this
  · intro h i hi
    rw [getD_lt hi]
    refine ⟨h.short _ (List.getElem_mem hi), h.held _ (List.getElem_mem hi), ?_⟩
    by_cases h0 : i = 0
    · exact .inl h0
    · right
      rw [getD_lt (by omega : i - 1 < l.length)]
      exact List.pairwise_iff_getElem.1 h.rise (i - 1) i (by omega) hi (by omega)
def ltm (key : Str) (x : Mk) : Bool := strLess x.1 key
def eqm (key : Str) (x : Mk) : Bool := x.1 == key
theorem ltm_ne {key : Str} (x : Mk) (h : ltm key x = true) : eqm key x = false := lt_ne (O := strOrd) (key := fun x : Mk => x.1) key x h
theorem Compare_eq (a b : Str) : strings_Compare' a b = some (strCmp a b) := rfl
/-- Keys that do not fall. -/
def Weak (l : List Mk) : Prop := l.Pairwise fun a b => leS a.1 b.1 = true
theorem weak_of {l : List Mk} (h : Sorted strOrd (fun m : Mk => m.1) l) : Weak l := List.Pairwise.imp (fun hh => leS_of_less hh) h
theorem Weak.fore {l : List Mk} (h : Weak l) (key : Str) : Fore (ltm key) l := by
  intro i j hi hj hij hlt
  exact less_of_le_less (List.pairwise_iff_getElem.1 h i j hi hj hij) hlt
theorem find_eq {l : List Mk} (hl : l.length ≤ 1048576) (h : Weak l) (key : Str) : model_find' l key = some (((cutAt (ltm key) l : Nat) : Int), thereAt (ltm key) (eqm key) l) := by
  unfold model_find'
  rw [slices_BinarySearchFunc_api_Mark_api_Mark_string_is l key (fun y1 => ((model_find_1' y1.1 y1.2).bind fun z => some z)) (fun m => strCmp m.1 key) (ltm key) (by omega) (fun x => rfl) (fun x => strCmp_neg _ _) (h.fore key)]
  simp only [Option.bind_some]
  have : (fun m : Mk => strCmp m.1 key == 0) = eqm key := by funext m; exact strCmp_zero _ _
  rw [this]
def whoOf (l : List Mk) (key : Str) : Int := match l.find? (eqm key) with | some m => m.2 | none => 0
theorem who_eq {l : List Mk} (hl : l.length ≤ 1048576) (h : Sorted strOrd (fun m : Mk => m.1) l) (key : Str) : model_who' l key = some (whoOf l key) := by
  unfold model_who' whoOf
  rw [find_eq hl (weak_of h)]
  have hf := find_there (lt := ltm key) (eq := eqm key) (l := l) ltm_ne (h.single key)
  rw [hf]
  simp only [Option.bind_some]
  cases ht : thereAt (ltm key) (eqm key) l with
  | false => rfl
  | true =>
    have hc : cutAt (ltm key) l < l.length := by
      by_cases hc : cutAt (ltm key) l < l.length
      · exact hc
      · rw [there_ge hc] at ht; cases ht
    simp only [cond_true, if_true]
    rw [at?_lt hc, List.getElem?_eq_getElem hc]
    rfl
theorem refWho_eq {l : List Mk} (hl : l.length ≤ 1048576) (key : Str) : ref24_Who' l key = some (whoOf l key) := by
  have key0 := index_loop l (eqm key) (fun i => ref24_Who_p6' l key (i : Int)) (f := fun i => (at? l (i : Int)).bind fun e2 => some (.inr e2.2)) (a := some (.inl ())) (fun i hi => by
    try dsimp only
    rw [ref24_Who_p6_eq, decide_eq_true (by omega : (i : Int) < (l.length : Int)), at?_lt hi, wrap_succ (by omega)]
    simp only [cond_true, Option.bind_some]
    rfl) (by
    try dsimp only
    rw [ref24_Who_p6_eq, decide_eq_false (by omega : ¬ (l.length : Int) < (l.length : Int))]; rfl)
  unfold ref24_Who' whoOf
  simp only [show ((0 : Nat) : Int) = 0 from rfl] at key0
  rw [key0]
  have hf := findIdx_find (eqm key) l
  cases hi : l.findIdx? (eqm key) with
  | none => rw [hi] at hf; simp only at hf; rw [← hf]; rfl
  | some i =>
    rw [hi] at hf
    obtain ⟨h1, _⟩ := List.findIdx?_eq_some_iff_getElem.1 hi
    simp only at hf ⊢
    rw [List.getElem?_eq_getElem h1] at hf
    rw [← hf, at?_lt h1]
    rfl
theorem who_zero {l : List Mk} (h : Tbl l) (key : Str) : whoOf l key = 0 ↔ ∀ m ∈ l, m.1 ≠ key := by
  unfold whoOf
  cases hf : l.find? (eqm key) with
  | none =>
    simp only [true_iff]
    intro m hm e
    have := List.find?_eq_none.1 hf m hm
    simp [eqm, e] at this
  | some m =>
    have h1 := List.mem_of_find?_eq_some hf
    have h2 := List.find?_some hf
    simp only [eqm, beq_iff_eq] at h2
    simp only
    exact ⟨fun e => absurd e (h.held m h1), fun hh => absurd h2 (hh m h1)⟩
def expireF (l : List Mk) (key : Str) : List Mk := l.filter fun x => !eqm key x
theorem Expire_eq {l : List Mk} (hl : l.length ≤ 1048576) (key : Str) : model_Expire' l key = some (expireF l key) := by
  unfold model_Expire'
  rw [slices_Clone_api_Mark_api_Mark_is l (by omega)]
  simp only [Option.bind_some]
  rw [slices_DeleteFunc_api_Mark_api_Mark_is l (fun y2 => ((model_Expire_1' y2 key).bind fun z => some z)) (eqm key) (by omega) (fun x => rfl)]
  rfl
theorem expire_len (l : List Mk) (key : Str) : (expireF l key).length ≤ l.length := List.length_filter_le _ _
theorem expire_tbl {l : List Mk} (h : Tbl l) (key : Str) : Tbl (expireF l key) :=
  ⟨fun m hm => h.short m (List.mem_filter.1 hm).1, fun m hm => h.held m (List.mem_filter.1 hm).1, List.Pairwise.filter _ h.rise⟩
theorem expire_free {l : List Mk} {key : Str} (h : ∀ m ∈ l, m.1 ≠ key) : expireF l key = l := by
  unfold expireF
  rw [List.filter_eq_self]
  intro m hm
  simp only [eqm, Bool.not_eq_true', beq_eq_false_iff_ne]
  exact h m hm
def setF (l : List Mk) (key : Str) (t : Int) : List Mk := bif t == 0 then expireF l key else placeF (ltm key) (eqm key) l (key, t)
theorem Set_eq {l : List Mk} (hl : l.length ≤ 1048576) (key : Str) (t : Int) : ref24_Set' l key t = some (setF l key t) := by
  have key0 := fold_loop l (putStep (ltm key) (eqm key) (key, t)) ((t == 0), []) (fun i s => ref24_Set_p10' l key t s.1 (i : Int) s.2) (out := fun s => some (key, t, s.1, s.2)) (fun i hi => by
    try dsimp only
    have hlen := put_len (lt := ltm key) (eq := eqm key) (h := (key, t)) (l.take i) ((t == 0), [])
    generalize (l.take i).foldl (putStep (ltm key) (eqm key) (key, t)) ((t == 0), []) = s at *
    obtain ⟨b, o⟩ := s
    simp only [List.length_nil, List.length_take, Nat.zero_add] at hlen
    rw [ref24_Set_p10_eq, decide_eq_true (by omega : (i : Int) < (l.length : Int)), at?_lt hi, wrap_succ (by omega)]
    simp only [cond_true, Option.bind_some]
    rw [room_of (by simp; omega), room_of (by simp; omega), room_of (by simp; omega)]
    simp only [cond_true, putStep, ltm, eqm]
    cases b <;> cases strLess l[i].1 key <;> cases (l[i].1 == key) <;> simp) (by
    try dsimp only
    rw [ref24_Set_p10_eq, decide_eq_false (by omega : ¬ (l.length : Int) < (l.length : Int))]; rfl)
  simp only [show ((0 : Nat) : Int) = 0 from rfl] at key0
  unfold ref24_Set' setF
  rw [key0]
  simp only [Option.bind_some]
  cases ht : (t == 0) with
  | true =>
    rw [put_done]
    simp only [Bool.not_true, cond_false, List.nil_append, cond_true]
    rfl
  | false =>
    have hp := put_all (lt := ltm key) (eq := eqm key) (h := (key, t)) ltm_ne l []
    have hlen := put_len (lt := ltm key) (eq := eqm key) (h := (key, t)) l (false, [])
    generalize l.foldl (putStep (ltm key) (eqm key) (key, t)) (false, []) = s at *
    obtain ⟨b, o⟩ := s
    simp only [List.length_nil, Nat.zero_add, List.nil_append] at hlen hp
    simp only [cond_false]
    rw [← hp]
    cases b with
    | true => rfl
    | false =>
      simp only [Bool.not_false, cond_true, cond_false]
      rw [room_of (by simp; omega)]
      rfl
theorem count_eq {l : List Mk} (hl : l.length ≤ 1048576) {ks : List (List UInt8)} (hk : ks.length ≤ 1048576) (t : Int) : ref24_count' l ks t = some (((ks.filter fun k => whoOf l k == t).length : Nat) : Int) := by
  have key0 := fold_loop ks (fun (n : Int) k => bif whoOf l k == t then n + 1 else n) 0 (fun i n => ref24_count_p8' l ks t n (i : Int)) (out := fun n => some n) (fun i hi => by
    try dsimp only
    have hlen : ((ks.take i).filter fun k => whoOf l k == t).length ≤ 1048576 := Nat.le_trans (List.length_filter_le _ _) (by rw [List.length_take]; omega)
    have hc := foldl_count (fun k => whoOf l k == t) (ks.take i) 0
    generalize ((ks.take i).filter fun k => whoOf l k == t).length = n at hlen hc
    rw [hc, Int.zero_add]
    rw [ref24_count_p8_eq, decide_eq_true (by omega : (i : Int) < (ks.length : Int)), at?_lt hi, wrap_succ (by omega)]
    simp only [cond_true, Option.bind_some, Int.zero_add]
    rw [refWho_eq hl]
    simp only [Option.bind_some]
    rw [i64_in (by omega) (by omega)]
    cases (whoOf l ks[i] == t) <;> rfl) (by
    try dsimp only
    rw [ref24_count_p8_eq, decide_eq_false (by omega : ¬ (ks.length : Int) < (ks.length : Int))]; rfl)
  unfold ref24_count'
  simp only [show ((0 : Nat) : Int) = 0 from rfl] at key0
  rw [key0, foldl_count, Int.zero_add]
  rfl
/-- Is one of some keys not held so? -/
def otherB (l : List Mk) (ks : List (List UInt8)) (t : Int) : Bool := ks.any fun k => whoOf l k != t
theorem count_lt (l : List Mk) (ks : List (List UInt8)) (t : Int) : decide ((((ks.filter fun k => whoOf l k == t).length : Nat) : Int) < (ks.length : Int)) = otherB l ks t := by
  unfold otherB
  rw [Bool.eq_iff_iff, decide_eq_true_eq, List.any_eq_true]
  constructor
  · intro h
    have h1 := filter_len_not (fun k => whoOf l k == t) ks
    have h2 : 0 < (ks.filter fun k => !(whoOf l k == t)).length := by omega
    obtain ⟨k, hk⟩ := List.exists_mem_of_length_pos h2
    rw [List.mem_filter] at hk
    exact ⟨k, hk.1, hk.2⟩
  · rintro ⟨k, hk, h⟩
    have h1 := filter_len_not (fun k => whoOf l k == t) ks
    have h2 : 0 < (ks.filter fun k => !(whoOf l k == t)).length := List.length_pos_of_mem (List.mem_filter.2 ⟨hk, h⟩)
    omega
theorem some_eq {l : List Mk} (hl : l.length ≤ 1048576) (h : Sorted strOrd (fun m : Mk => m.1) l) {ks : List (List UInt8)} (hk : ks.length ≤ 1048576) (f : Int → Option Bool) (t : Int) (hf : ∀ x, f x = some (x != t)) : model_some' l ks f = some (otherB l ks t) := by
  unfold model_some' otherB
  rw [slices_ContainsFunc_string_string_is ks (fun y1 => ((model_some_1' y1 f l).bind fun z => some z)) (fun k => whoOf l k != t) (by omega) (fun x => by
    try dsimp only
    unfold model_some_1'
    rw [who_eq hl h]
    simp only [Option.bind_some, hf])]
  rfl
theorem other_false {l : List Mk} {ks : List (List UInt8)} {t : Int} : otherB l ks t = false ↔ ∀ k ∈ ks, whoOf l k = t := by
  unfold otherB
  rw [List.any_eq_false]
  simp
end Go.Proofs.Ytbibgbadfcmccaa.gg
