/- Seats: which may be, what they tell of a call, and what is kept. -/
import Derived.Test.YtfhocjhnoocajaaK6
import Derived.Test.YtfhocjhnoocajaaM
open Go Go.GG
set_option linter.unusedVariables false
namespace Go.Proofs.Ytfhocjhnoocajaa.gg
abbrev Seat := Int × Int × List Int
abbrev st0 : Seat := (0, 0, [])
def callB (c s : Int) : Bool := decide (c ≥ 0) && (decide (c < 8) && (decide (s ≥ 1) && decide (s ≤ 4611686018427387904)))
theorem call_eq (x : Int × Int) : session_call' x = some (callB x.1 x.2) := by
  unfold session_call' callB
  cases decide (x.1 ≥ 0) <;> cases decide (x.1 < 8) <;> cases decide (x.2 ≥ 1) <;> rfl
theorem refCall_eq (x : Int × Int) : ref16_Call' x = some (callB x.1 x.2) := by
  unfold ref16_Call' callB
  cases decide (x.1 ≥ 0) <;> cases decide (x.1 < 8) <;> cases decide (x.2 ≥ 1) <;> rfl
def okT (l : List Seat) (i : Nat) : Bool := callB (nth l i st0).1 (nth l i st0).2.1 && (!decide (((nth l i st0).2.2.length : Int) > 4096) && (decide (i = 0) || !decide ((nth l i st0).1 ≤ (nth l (i - 1) st0).1)))
def mayT (l : List Seat) : Bool := allB l.length (okT l)
theorem Check_eq {l : List Seat} (hl : l.length ≤ 1048576) : session_Check' l = some (cond (mayT l) 0 1) := by
  have key := check_loop l.length (fun i => session_Check_p6' l l (l.length : Int) (i : Int)) (okT l) (a := some (.inl ())) (b := some (.inr 1)) (fun i hi => by
    try dsimp only
    rw [session_Check_p6_eq, decide_eq_true (by omega : (i : Int) < (l.length : Int)), at?_getD hi st0, wrap_succ (by omega)]
    simp only [cond_true, Option.bind_some, call_eq, okT]
    cases callB (nth l i st0).1 (nth l i st0).2.1 with
    | false => rfl
    | true =>
      cases decide (((nth l i st0).2.2.length : Int) > 4096) with
      | true => rfl
      | false =>
        by_cases h0 : i = 0
        · subst h0; rfl
        · rw [wrap_pred (by omega) (by omega), at?_getD (by omega : i - 1 < l.length) st0, decide_eq_true (by omega : (i : Int) > 0), decide_eq_false h0]
          simp only [Bool.not_true, cond_false, cond_true, Option.bind_some]
          cases decide ((nth l i st0).1 ≤ (nth l (i - 1) st0).1) <;> rfl) (by
    try dsimp only
    rw [session_Check_p6_eq, decide_eq_false (by omega : ¬ (l.length : Int) < (l.length : Int))]; rfl)
  unfold session_Check' mayT
  simp only [show ((0 : Nat) : Int) = 0 from rfl] at key
  rw [key]
  cases allB l.length (okT l) <;> rfl
theorem refMay_eq {l : List Seat} (hl : l.length ≤ 1048576) : ref16_May' l = some (mayT l) := by
  have key := check_loop l.length (fun i => ref16_May_p6' l (i : Int)) (okT l) (a := some (.inl ())) (b := some (.inr false)) (fun i hi => by
    try dsimp only
    rw [ref16_May_p6_eq, decide_eq_true (by omega : (i : Int) < (l.length : Int)), at?_getD hi st0, wrap_succ (by omega)]
    simp only [cond_true, Option.bind_some, refCall_eq, okT]
    cases callB (nth l i st0).1 (nth l i st0).2.1 with
    | false => rfl
    | true =>
      cases decide (((nth l i st0).2.2.length : Int) > 4096) with
      | true => rfl
      | false =>
        by_cases h0 : i = 0
        · subst h0; rfl
        · rw [wrap_pred (by omega) (by omega), at?_getD (by omega : i - 1 < l.length) st0, decide_eq_true (by omega : (i : Int) > 0), decide_eq_false h0]
          simp only [Bool.not_true, cond_false, cond_true, Option.bind_some]
          cases decide ((nth l i st0).1 ≤ (nth l (i - 1) st0).1) <;> rfl) (by
    try dsimp only
    rw [ref16_May_p6_eq, decide_eq_false (by omega : ¬ (l.length : Int) < (l.length : Int))]; rfl)
  unfold ref16_May' mayT
  simp only [show ((0 : Nat) : Int) = 0 from rfl] at key
  rw [key]
  cases allB l.length (okT l) <;> rfl
theorem mayT_sorted {l : List Seat} (h : mayT l = true) : Sorted intOrd (fun x : Seat => x.1) l := by
  refine sorted_of_steps (d := st0) fun i hi => ?_
  have := allB_iff.1 h i hi
  simp only [okT, Bool.and_eq_true, Bool.or_eq_true, decide_eq_true_eq] at this
  refine this.2.2.imp id fun hh => ?_
  simp only [Bool.not_eq_true', decide_eq_false_iff_not] at hh
  show decide _ = true
  rw [decide_eq_true_eq]; omega
theorem mayT_get {l : List Seat} (h : mayT l = true) {x : Seat} (hx : x ∈ l) : callB x.1 x.2.1 = true ∧ x.2.2.length ≤ 4096 := by
  obtain ⟨i, hi, rfl⟩ := List.getElem_of_mem hx
  have := allB_iff.1 h i hi
  simp only [okT, Bool.and_eq_true, Bool.not_eq_true', decide_eq_false_iff_not] at this
  rw [getD_lt hi] at this
  exact ⟨this.1, by omega⟩
def ltc (c : Int) (x : Seat) : Bool := decide (x.1 < c)
def eqc (c : Int) (x : Seat) : Bool := x.1 == c
theorem ltc_ne {c : Int} (x : Seat) (h : ltc c x = true) : eqc c x = false := lt_ne (O := intOrd) (key := fun x : Seat => x.1) c x h
theorem uniq {l : List Seat} (h : Sorted intOrd (fun x : Seat => x.1) l) {a b : Seat} (ha : a ∈ l) (hb : b ∈ l) (hab : a.1 = b.1) : a = b := by
  obtain ⟨i, hi, rfl⟩ := List.getElem_of_mem ha
  obtain ⟨j, hj, rfl⟩ := List.getElem_of_mem hb
  unfold Sorted at h
  rw [List.pairwise_iff_getElem] at h
  rcases Nat.lt_trichotomy i j with hij | hij | hij
  · have := h i j hi hj hij
    simp only [intOrd, decide_eq_true_eq] at this
    omega
  · subst hij; rfl
  · have := h j i hj hi hij
    simp only [intOrd, decide_eq_true_eq] at this
    omega
theorem find_sub {α : Type} {p q : α → Bool} : ∀ {l : List α}, (∀ x, p x = true → q x = true) → (∀ a ∈ l, ∀ b ∈ l, q a = true → q b = true → a = b) → l.find? p = (match l.find? q with | some x => if p x then some x else none | none => none)
  | [], _, _ => rfl
  | x :: l, hpq, hu => by
    have ih := find_sub (l := l) hpq (fun a ha b hb => hu a (List.mem_cons_of_mem _ ha) b (List.mem_cons_of_mem _ hb))
    by_cases hq : q x = true
    · rw [List.find?_cons_of_pos (l := l) (p := q) hq]
      simp only
      by_cases hp : p x = true
      · rw [List.find?_cons_of_pos hp, if_pos hp]
      · rw [List.find?_cons_of_neg hp, if_neg hp, List.find?_eq_none]
        intro b hb hpb
        have := hu x (by simp) b (by simp [hb]) hq (hpq b hpb)
        rw [← this] at hpb
        exact hp hpb
    · rw [List.find?_cons_of_neg (l := l) (p := q) hq, List.find?_cons_of_neg (fun hp => hq (hpq x hp)), ih]
theorem slices_BinarySearchFunc_api_Seat_api_Seat_int_is (l : List (Seat)) (key : Int) (f : (Seat) × Int → Option Int) (g : Seat → Int) (lt : Seat → Bool) (hl : l.length ≤ 1000000000000) (hf : ∀ x, f (x, key) = some (g x)) (hlt : ∀ x, decide (g x < 0) = lt x) (hfore : Fore lt l) :
    slices_BinarySearchFunc_api_Seat_api_Seat_int' l key f = some (((cutAt lt l : Nat) : Int), thereAt lt (fun x => g x == 0) l) := by
  have hcl := cutAt_le lt l
  have key0 := bs_loop (n := l.length) (cut := cutAt lt l) (fun i j => slices_BinarySearchFunc_api_Seat_api_Seat_int_q_p8' l key f (l.length : Int) i j) (fun i => some (l, key, (l.length : Int), (i : Int))) hcl (fun i j hij hj => by
    try dsimp only
    rw [slices_BinarySearchFunc_api_Seat_api_Seat_int_q_p8_eq, decide_eq_true (by omega : (i : Int) < (j : Int)), bs_mid (by omega), at?_lt (by omega : (i + j) / 2 < l.length)]
    simp only [cond_true, Option.bind_some, hf, hlt]
    rw [wrap_succ (by omega)]
    have := cutAt_iff hfore ((i + j) / 2) (by omega)
    cases hh : lt l[(i + j) / 2] with
    | true => rw [decide_eq_true (this.1 hh)]
    | false => rw [decide_eq_false (fun h => by rw [this.2 h] at hh; cases hh)]) (fun i hi => by
    try dsimp only
    rw [slices_BinarySearchFunc_api_Seat_api_Seat_int_q_p8_eq, decide_eq_false (by omega : ¬ (i : Int) < (i : Int))]; rfl)
  unfold slices_BinarySearchFunc_api_Seat_api_Seat_int' slices_BinarySearchFunc_api_Seat_api_Seat_int_q'
  try dsimp only at key0
  rw [key0]
  simp only [Option.bind_some]
  by_cases hc : cutAt lt l < l.length
  · rw [decide_eq_true (by omega : ((cutAt lt l : Nat) : Int) < (l.length : Int)), at?_lt hc, there_lt hc]
    simp only [cond_true, Option.bind_some, hf]
  · rw [decide_eq_false (by omega : ¬ ((cutAt lt l : Nat) : Int) < (l.length : Int)), there_ge hc]
    rfl
theorem slices_Clone_api_Seat_api_Seat_is (l : List (Seat)) (hl : l.length ≤ 4398046511104 / 40) : slices_Clone_api_Seat_api_Seat' l = some l := by
  unfold slices_Clone_api_Seat_api_Seat'
  rw [room_of (by simp; omega)]
  rfl
theorem slices_Clone_byte_byte_is (l : List (Int)) (hl : l.length ≤ 4398046511104 / 1) : slices_Clone_byte_byte' l = some l := by
  unfold slices_Clone_byte_byte'
  rw [room_of (by simp; omega)]
  rfl
def cmpI (a b : Int) : Int := bif decide (a < b) then -1 else bif decide (a > b) then 1 else 0
theorem cmp_eq (a b : Int) : cmp_Compare_int' a b = some (cmpI a b) := by
  unfold cmp_Compare_int' cmp_isNaN_int' cmpI
  simp only [bne_self_eq_false, Option.bind_some, cond_false]
  cases decide (a < b) <;> cases decide (a > b) <;> rfl
theorem cmpI_neg (a b : Int) : decide (cmpI a b < 0) = decide (a < b) := by
  unfold cmpI
  by_cases h1 : a < b
  · rw [decide_eq_true h1]; rfl
  · rw [decide_eq_false h1]
    cases decide (a > b) <;> rfl
theorem cmpI_zero (a b : Int) : (cmpI a b == 0) = (a == b) := by
  unfold cmpI
  by_cases h1 : a < b
  · rw [decide_eq_true h1]; symm; simp only [cond_true]; rw [show ((-1 : Int) == 0) = false from rfl, beq_eq_false_iff_ne]; omega
  · rw [decide_eq_false h1]
    by_cases h2 : a > b
    · rw [decide_eq_true h2]; symm; simp only [cond_true, cond_false]; rw [show ((1 : Int) == 0) = false from rfl, beq_eq_false_iff_ne]; omega
    · rw [decide_eq_false h2]
      have : a = b := by omega
      subst this; simp
theorem find_eq {l : List Seat} (hl : l.length ≤ 1048577) (hs : Sorted intOrd (fun x : Seat => x.1) l) (c : Int) : session_find' l c = some (((cutAt (ltc c) l : Nat) : Int), thereAt (ltc c) (eqc c) l) := by
  unfold session_find'
  rw [slices_BinarySearchFunc_api_Seat_api_Seat_int_is l c (fun y1 => ((session_find_1' y1.1 y1.2).bind fun z => some z)) (fun x => cmpI x.1 c) (ltc c) (by omega) (fun x => by
    try dsimp only
    unfold session_find_1'
    rw [cmp_eq]; rfl) (fun x => cmpI_neg x.1 c) (hs.fore c)]
  have : thereAt (ltc c) (fun x => cmpI x.1 c == 0) l = thereAt (ltc c) (eqc c) l := by
    congr 1; funext x; exact cmpI_zero x.1 c
  rw [this]; rfl
def lookS (l : List Seat) (id : Int × Int) : List Int × Bool × Int :=
  bif !mayT l || !callB id.1 id.2 then ([], false, 1) else match l.find? (eqc id.1) with
    | none => ([], false, 0)
    | some x => bif decide (id.2 > x.2.1) then ([], false, 0) else bif decide (id.2 < x.2.1) then ([], false, 7) else (x.2.2, true, 0)
theorem Look_eq {l : List Seat} (hl : l.length ≤ 1048576) (id : Int × Int) : session_Look' l id = some (lookS l id) := by
  unfold session_Look' lookS
  rw [Check_eq hl, call_eq]
  simp only [Option.bind_some]
  cases hm : mayT l with
  | false => rfl
  | true =>
    simp only [cond_true, bne_self_eq_false, cond_false, Bool.not_true, Bool.false_or]
    cases hc : callB id.1 id.2 with
    | false => rfl
    | true =>
      have hs := mayT_sorted hm
      have hsg : Single (ltc id.1) (eqc id.1) l := Sorted.single hs id.1
      rw [find_eq (by omega) hs]
      simp only [Bool.not_true, cond_false, Option.bind_some]
      have hfind := find_there (lt := ltc id.1) (eq := eqc id.1) (l := l) ltc_ne hsg
      cases hth : thereAt (ltc id.1) (eqc id.1) l with
      | false =>
        rw [hth] at hfind
        simp only [Bool.false_eq_true, if_false] at hfind
        rw [hfind]; rfl
      | true =>
        have hcl := (place_there (h := st0) hsg hth).1
        rw [hth, if_pos rfl, List.getElem?_eq_getElem hcl] at hfind
        rw [hfind, at?_lt hcl]
        simp only [Bool.not_true, cond_false, Option.bind_some]
        have hx := mayT_get hm (List.getElem_mem hcl)
        rw [slices_Clone_byte_byte_is _ (by omega)]
        cases decide (id.2 > (l[cutAt (ltc id.1) l]).2.1) <;> cases decide (id.2 < (l[cutAt (ltc id.1) l]).2.1) <;> rfl
theorem refLook_eq {l : List Seat} (hl : l.length ≤ 1048576) (id : Int × Int) : ref16_Look' l id = some (lookS l id) := by
  unfold ref16_Look' lookS
  rw [refMay_eq hl, refCall_eq]
  simp only [Option.bind_some]
  cases hm : mayT l with
  | false => rfl
  | true =>
    simp only [Bool.not_true, cond_false, Bool.false_or]
    cases hc : callB id.1 id.2 with
    | false => rfl
    | true =>
      have hs := mayT_sorted hm
      have key0 := index_loop l (fun x => eqc id.1 x && !decide (id.2 > x.2.1)) (fun i => ref16_Look_p14' l (i : Int) (id.1, id.2)) (f := fun i => (at? l (i : Int)).bind fun e => bif decide (id.2 < e.2.1) then some (.inr (([] : List Int), false, (7 : Int))) else some (.inr (e.2.2, true, 0))) (a := some (.inl ())) (fun i hi => by
        try dsimp only
        rw [ref16_Look_p14_eq, decide_eq_true (by omega : (i : Int) < (l.length : Int)), at?_lt hi, wrap_succ (by omega)]
        simp only [cond_true, Option.bind_some, eqc]
        cases (l[i].1 == id.1) with
        | false => rfl
        | true =>
          simp only [cond_true, Bool.true_and]
          by_cases h1 : id.2 < l[i].2.1
          · rw [decide_eq_true h1, decide_eq_false (by omega : ¬ id.2 > l[i].2.1)]; rfl
          · rw [decide_eq_false h1]
            by_cases h2 : id.2 = l[i].2.1
            · rw [decide_eq_false (by omega : ¬ id.2 > l[i].2.1), h2, beq_self_eq_true]; rfl
            · rw [decide_eq_true (by omega : id.2 > l[i].2.1), (beq_eq_false_iff_ne).2 h2]; rfl) (by
        try dsimp only
        rw [ref16_Look_p14_eq, decide_eq_false (by omega : ¬ (l.length : Int) < (l.length : Int))]; rfl)
      simp only [show ((0 : Nat) : Int) = 0 from rfl] at key0
      simp only [Bool.not_true, cond_false]
      rw [key0]
      have hf := findIdx_find (fun x => eqc id.1 x && !decide (id.2 > x.2.1)) l
      have hsub := find_sub (l := l) (p := fun x => eqc id.1 x && !decide (id.2 > x.2.1)) (q := eqc id.1) (fun x h => by simp only [Bool.and_eq_true] at h; exact h.1) (fun a ha b hb h1 h2 => uniq hs ha hb (by
        simp only [eqc, beq_iff_eq] at h1 h2
        rw [h1, h2]))
      rw [hsub] at hf
      cases hi : l.findIdx? (fun x => eqc id.1 x && !decide (id.2 > x.2.1)) with
      | none =>
        rw [hi] at hf
        simp only at hf
        cases hq : l.find? (eqc id.1) with
        | none => rfl
        | some x =>
          rw [hq] at hf
          simp only at hf
          have he := List.find?_some hq
          by_cases hgt : id.2 > x.2.1
          · simp only [decide_eq_true hgt]; rfl
          · rw [if_pos (by rw [he, decide_eq_false hgt]; rfl)] at hf
            cases hf
      | some i =>
        rw [hi] at hf
        obtain ⟨h1, _⟩ := List.findIdx?_eq_some_iff_getElem.1 hi
        simp only at hf ⊢
        rw [List.getElem?_eq_getElem h1] at hf
        cases hq : l.find? (eqc id.1) with
        | none => rw [hq] at hf; cases hf
        | some x =>
          rw [hq] at hf
          simp only at hf
          split at hf
          · rename_i hp
            simp only [Option.some.injEq] at hf
            rw [at?_lt h1, hf]
            simp only [Bool.and_eq_true, Bool.not_eq_true'] at hp
            simp only [Option.bind_some, hp.2, cond_false]
            cases decide (id.2 < x.2.1) <;> rfl
          · cases hf
end Go.Proofs.Ytfhocjhnoocajaa.gg
