/- Voters, one node more or less, the way from some to others: the plain laws. -/
import Derived.Test.YtnpfogjbebdlfaaI
open Go Go.GG
set_option linter.unusedVariables false
namespace Go.Proofs.Ytnpfogjbebdlfaa.gg
abbrev Pr := Int × Int × Int
theorem slices_IndexFunc_api_Peer_api_Peer_is (l : List (Pr)) (f : Pr → Option Bool) (p : Pr → Bool) (hl : l.length ≤ 1000000000000) (hf : ∀ x, f x = some (p x)) : slices_IndexFunc_api_Peer_api_Peer' l f = some (match l.findIdx? p with | some i => (i : Int) | none => -1) := by
  have key0 := index_loop l p (fun i => slices_IndexFunc_api_Peer_api_Peer_p6' l f (l.length : Int) (i : Int)) (f := fun i => some (.inr (i : Int))) (a := some (.inl ())) (fun i hi => by
    try dsimp only
    rw [slices_IndexFunc_api_Peer_api_Peer_p6_eq, decide_eq_true (by omega : (i : Int) < (l.length : Int)), at?_lt hi]
    simp only [cond_true, Option.bind_some, hf]
    rw [wrap_succ (by omega)]) (by
    try dsimp only
    rw [slices_IndexFunc_api_Peer_api_Peer_p6_eq, decide_eq_false (by omega : ¬ (l.length : Int) < (l.length : Int))]; rfl)
  unfold slices_IndexFunc_api_Peer_api_Peer'
  simp only [show ((0 : Nat) : Int) = 0 from rfl] at key0
  rw [key0]
  cases l.findIdx? p <;> rfl
theorem le_not_lt (a b : Int) : decide (a ≤ b) = !decide (b < a) := by
  by_cases h : a ≤ b
  · rw [decide_eq_true h, decide_eq_false (by omega)]; rfl
  · rw [decide_eq_false h, decide_eq_true (by omega)]; rfl
theorem gt_not_le (a b : Int) : decide (a > b) = !decide (a ≤ b) := by
  by_cases h : a ≤ b
  · rw [decide_eq_true h, decide_eq_false (by omega)]; rfl
  · rw [decide_eq_false h, decide_eq_true (by omega)]; rfl
theorem lt_not_le (a b : Int) : decide (a < b) = !decide (b ≤ a) := by
  by_cases h : a < b
  · rw [decide_eq_true h, decide_eq_false (by omega)]; rfl
  · rw [decide_eq_false h, decide_eq_true (by omega)]; rfl
def vot (l : List Int) : Bool := riseB 1 7 l && decide (0 < l.length)
structure Vot (l : List Int) : Prop where
  rise : Rise l
  each : ∀ x ∈ l, 1 ≤ x ∧ x ≤ 7
  ne : 0 < l.length
theorem vot_iff {l : List Int} : vot l = true ↔ Vot l := by
  unfold vot
  rw [Bool.and_eq_true, riseB_iff, decide_eq_true_eq]
  exact ⟨fun h => ⟨h.1.1, h.1.2, h.2⟩, fun h => ⟨⟨h.rise, h.each⟩, h.ne⟩⟩
theorem Vot.len {l : List Int} (h : Vot l) : l.length ≤ 7 := h.rise.bound (n := 7) h.each
theorem node_eq (n : Int) : quorum_node' n = some (decide (1 ≤ n) && decide (n ≤ 7)) := by
  unfold quorum_node'
  show (bif decide (1 ≤ n) then _ else _) = _
  cases decide (1 ≤ n) <;> rfl
theorem qCheck_eq {l : List Int} (hl : l.length ≤ 1000000000000) : quorum_Check' l = some (vot l) := by
  have key := check_loop l.length (fun i => quorum_Check_p6' l l (l.length : Int) (i : Int)) (fun i => decide ((1 : Int) ≤ nth l i 0) && (decide (nth l i 0 ≤ 7) && (decide (i = 0) || decide (nth l (i - 1) 0 < nth l i 0)))) (a := some (.inl l)) (b := some (.inr false)) (fun i hi => by
    try dsimp only
    rw [quorum_Check_p6_eq, decide_eq_true (by omega : (i : Int) < (l.length : Int)), at?_getD hi (0 : Int), wrap_succ (by omega)]
    simp only [cond_true, Option.bind_some, node_eq]
    by_cases h0 : i = 0
    · rw [decide_eq_false (by omega : ¬ (i : Int) > 0), decide_eq_true h0]
      cases decide ((1 : Int) ≤ nth l i 0) <;> cases decide (nth l i 0 ≤ 7) <;> rfl
    · rw [decide_eq_true (by omega : (i : Int) > 0), decide_eq_false h0, wrap_pred (by omega) (by omega), at?_getD (by omega : i - 1 < l.length) (0 : Int)]
      simp only [Option.bind_some, le_not_lt (nth l i 0) (nth l (i - 1) 0), Bool.false_or]
      cases decide ((1 : Int) ≤ nth l i 0) <;> cases decide (nth l i 0 ≤ 7) <;> cases decide (nth l (i - 1) 0 < nth l i 0) <;> rfl) (by
    try dsimp only
    rw [quorum_Check_p6_eq, decide_eq_false (by omega : ¬ (l.length : Int) < (l.length : Int))]; rfl)
  unfold quorum_Check'
  simp only [show ((0 : Nat) : Int) = 0 from rfl] at key
  rw [key]
  unfold vot riseB
  cases allB l.length _ with
  | false => rfl
  | true =>
    simp only [cond_true, Option.bind_some, Sum.elim_inl, Bool.true_and]
    by_cases h : 0 < l.length
    · rw [decide_eq_true h, decide_eq_true (by omega)]
    · rw [decide_eq_false h, decide_eq_false (by omega)]
theorem Voters_eq {l : List Int} (hl : l.length ≤ 1000000000000) : ref12_Voters' l = some (vot l) := by
  unfold ref12_Voters'
  by_cases h1 : l.length < 1
  · rw [decide_eq_true (by omega)]
    have : vot l = false := by
      rw [Bool.eq_false_iff]; intro h
      have := (vot_iff.1 h).ne; omega
    rw [this]; rfl
  · rw [decide_eq_false (by omega)]
    by_cases h7 : l.length > 7
    · rw [decide_eq_true (by omega)]
      have : vot l = false := by
        rw [Bool.eq_false_iff]; intro h
        have := (vot_iff.1 h).len; omega
      rw [this]; rfl
    · rw [decide_eq_false (by omega)]
      have key := check_loop l.length (fun i => ref12_Voters_p14' l (i : Int)) (fun i => decide ((1 : Int) ≤ nth l i 0) && (decide (nth l i 0 ≤ 7) && (decide (i = 0) || decide (nth l (i - 1) 0 < nth l i 0)))) (a := some (.inl ())) (b := some (.inr false)) (fun i hi => by
        try dsimp only
        rw [ref12_Voters_p14_eq, decide_eq_true (by omega : (i : Int) < (l.length : Int)), at?_getD hi (0 : Int), wrap_succ (by omega)]
        simp only [cond_true, Option.bind_some, lt_not_le (nth l i 0) 1, gt_not_le (nth l i 0) 7]
        by_cases h0 : i = 0
        · rw [decide_eq_false (by omega : ¬ (i : Int) > 0), decide_eq_true h0]
          cases decide ((1 : Int) ≤ nth l i 0) <;> cases decide (nth l i 0 ≤ 7) <;> rfl
        · rw [decide_eq_true (by omega : (i : Int) > 0), decide_eq_false h0, wrap_pred (by omega) (by omega), at?_getD (by omega : i - 1 < l.length) (0 : Int)]
          simp only [Option.bind_some, le_not_lt (nth l i 0) (nth l (i - 1) 0), Bool.false_or]
          cases decide ((1 : Int) ≤ nth l i 0) <;> cases decide (nth l i 0 ≤ 7) <;> cases decide (nth l (i - 1) 0 < nth l i 0) <;> rfl) (by
        try dsimp only
        rw [ref12_Voters_p14_eq, decide_eq_false (by omega : ¬ (l.length : Int) < (l.length : Int))]; rfl)
      simp only [show ((0 : Nat) : Int) = 0 from rfl] at key
      simp only [cond_false]
      rw [key]
      unfold vot riseB
      rw [decide_eq_true (by omega : 0 < l.length), Bool.and_true]
      cases allB l.length _ <;> rfl
/-- Who of some is not among others. -/
def newOf (f t : List Int) : List Int := t.filter fun x => !f.contains x
theorem mem_newOf {f t : List Int} {x : Int} : x ∈ newOf f t ↔ x ∈ t ∧ x ∉ f := by
  unfold newOf
  rw [List.mem_filter]
  simp
theorem rise_newOf {f t : List Int} (h : Rise t) : Rise (newOf f t) := h.filter _
theorem newOf_len (f t : List Int) : (newOf f t).length ≤ t.length := List.length_filter_le _ _
theorem learners1_eq {f : List Int} (hf : f.length ≤ 1000000000000) (x : Int) : conf_Learners_1' x f = some (f.contains x) := by
  unfold conf_Learners_1'
  rw [Contains_eq hf]; rfl
theorem Learners_eq {f t : List Int} (hf : f.length ≤ 1048576) (ht : t.length ≤ 1048576) : conf_Learners' f t = some (bif vot f && vot t then newOf f t else []) := by
  unfold conf_Learners'
  rw [qCheck_eq (by omega), qCheck_eq (by omega)]
  simp only [Option.bind_some]
  cases vot f <;> cases vot t <;> try rfl
  simp only [Bool.not_true, cond_false, Bool.and_self, cond_true]
  rw [slices_Clone_int_int_is t (by omega)]
  simp only [Option.bind_some]
  rw [slices_DeleteFunc_int_int_is t _ (fun x => f.contains x) (by omega) (fun x => by
    try dsimp only
    rw [learners1_eq (by omega)]; rfl)]
  rfl
def outI (l : List Int) (n : Int) : List Int := l.filter fun x => !(x == n)
theorem mem_outI {l : List Int} {n x : Int} : x ∈ outI l n ↔ x ∈ l ∧ x ≠ n := by simp [outI]
theorem qNext_eq {l : List Int} (h : Vot l) {n : Int} (h1 : 1 ≤ n) (h7 : n ≤ 7) (b : Bool) :
    quorum_Next' l n b = some (bif l.contains n == b then ([], 6) else bif b then (addI l n, 0) else bif (l.length : Int) == 1 then ([], 4) else (outI l n, 0)) := by
  have hlen := h.len
  unfold quorum_Next'
  rw [qCheck_eq (by omega), vot_iff.2 h, node_eq, decide_eq_true h1, decide_eq_true h7, bsI_eq (by omega) h.rise]
  simp only [Option.bind_some, Bool.not_true, cond_false, Bool.and_self]
  cases hc : (l.contains n == b) with
  | true => rfl
  | false =>
    simp only [cond_false]
    cases b with
    | true =>
      simp only [cond_true]
      rw [slices_Clone_int_int_is l (by omega)]
      simp only [Option.bind_some]
      rw [Insert_eq (by omega)]
      rfl
    | false =>
      simp only [cond_false]
      cases ((l.length : Int) == 1) with
      | true => rfl
      | false =>
        simp only [cond_false]
        have hn : n ∈ l := by
          cases hcc : l.contains n with
          | true => rwa [List.contains_iff_mem] at hcc
          | false => rw [hcc] at hc; cases hc
        have := cutAt_le (fun x => decide (x < n)) l
        rw [slices_Clone_int_int_is l (by omega)]
        simp only [Option.bind_some]
        rw [show IntKind.wrap .i64 (((cutAt (fun x => decide (x < n)) l : Nat) : Int) + 1) = ((cutAt (fun x => decide (x < n)) l : Nat) : Int) + 1 from i64_in (by omega) (by omega), Delete_eq (by omega) h.rise hn]
        rfl
theorem vot_add {l : List Int} {n : Int} (h : Vot l) (h1 : 1 ≤ n) (h7 : n ≤ 7) (hn : n ∉ l) : Vot (addI l n) :=
  ⟨rise_addI h.rise hn, fun x hx => by
    rcases mem_addI.1 hx with hx | rfl
    · exact h.each x hx
    · exact ⟨h1, h7⟩, by rw [addI_len]; omega⟩
theorem vot_out {l : List Int} {n m : Int} (h : Vot l) (hm : m ∈ l) (hne : m ≠ n) : Vot (outI l n) :=
  ⟨h.rise.filter _, fun x hx => h.each x (mem_outI.1 hx).1, List.length_pos_of_mem (mem_outI.2 ⟨hm, hne⟩)⟩
theorem rNext_eq {l : List Int} (h : Vot l) {n : Int} (h1 : 1 ≤ n) (h7 : n ≤ 7) (b : Bool) :
    ref12_Next' l n b = some (bif l.contains n == b then ([], 6) else bif b then (addI l n, 0) else bif (l.length : Int) == 1 then ([], 4) else (outI l n, 0)) := by
  have hlen := h.len
  unfold ref12_Next'
  rw [Voters_eq (by omega), vot_iff.2 h, decide_eq_false (by omega : ¬ n < 1), decide_eq_false (by omega : ¬ n > 7), In_eq (by omega)]
  simp only [Option.bind_some, Bool.not_true, cond_false]
  cases hc : (l.contains n == b) with
  | true => rfl
  | false =>
    simp only [cond_false]
    have key := fold_loop (upTo 7) (fun (o : List Int) x => bif (bif x == n then b else l.contains x) then o ++ [x] else o) [] (fun i o => ref12_Next_p24' l n b ((i + 1 : Nat) : Int) o) (out := fun o => some o) (fun i hi => by
      try dsimp only
      rw [upTo_len] at hi
      rw [upTo_get (by rw [upTo_len]; exact hi), ref12_Next_p24_eq, decide_eq_true (by omega), In_eq (by omega), wrap_succ (by omega)]
      have hfl : ((upTo 7).take i).foldl (fun (o : List Int) x => bif (bif x == n then b else l.contains x) then o ++ [x] else o) [] = ((upTo 7).take i).filter (fun x => bif x == n then b else l.contains x) := by
        rw [foldl_filter]; rfl
      have hlf : (((upTo 7).take i).filter (fun x => bif x == n then b else l.contains x)).length ≤ 7 := by
        refine Nat.le_trans (List.length_filter_le _ _) ?_
        rw [List.length_take, upTo_len]; omega
      rw [hfl, room_of (by rw [List.length_append, List.length_singleton]; omega)]
      simp only [cond_true, Option.bind_some]
      by_cases he : ((i + 1 : Nat) : Int) = n
      · have e1 : (((i + 1 : Nat) : Int) == n) = true := by simpa using he
        have e2 : (((i + 1 : Nat) : Int) != n) = false := by simpa using he
        rw [e1, e2]
        cases b <;> rfl
      · have e1 : (((i + 1 : Nat) : Int) == n) = false := by simpa using he
        have e2 : (((i + 1 : Nat) : Int) != n) = true := by simpa using he
        rw [e1, e2]
        cases l.contains ((i + 1 : Nat) : Int) <;> rfl) (by
      try dsimp only
      rw [upTo_len, ref12_Next_p24_eq, decide_eq_false (by omega)]; rfl)
    try dsimp only at key
    simp only [show ((0 + 1 : Nat) : Int) = 1 from rfl] at key
    rw [key, foldl_filter]
    simp only [Option.bind_some, List.nil_append]
    have hr : Rise ((upTo 7).filter (fun x => bif x == n then b else l.contains x)) := (rise_upTo 7).filter _
    cases b with
    | true =>
      have hn : n ∉ l := by
        intro hh
        rw [show l.contains n = true by simpa using hh] at hc; cases hc
      have he : (upTo 7).filter (fun x => bif x == n then true else l.contains x) = addI l n := by
        refine hr.ext (rise_addI h.rise hn) fun x => ?_
        rw [List.mem_filter, mem_upTo, mem_addI]
        constructor
        · rintro ⟨_, hx⟩
          cases hxn : (x == n) with
          | true => exact .inr (by simpa using hxn)
          | false => rw [hxn] at hx; exact .inl (by simpa using hx)
        · rintro (hx | rfl)
          · have := h.each x hx
            refine ⟨⟨this.1, this.2⟩, ?_⟩
            rw [show l.contains x = true by simpa using hx]
            cases (x == n) <;> rfl
          · exact ⟨⟨h1, h7⟩, by simp⟩
      rw [he, show (((addI l n).length : Int) == 0) = false by rw [addI_len, beq_eq_false_iff_ne]; omega]
      rfl
    | false =>
      have hn : n ∈ l := by
        cases hcc : l.contains n with
        | true => rwa [List.contains_iff_mem] at hcc
        | false => rw [hcc] at hc; cases hc
      have he : (upTo 7).filter (fun x => bif x == n then false else l.contains x) = outI l n := by
        refine hr.ext (h.rise.filter _) fun x => ?_
        rw [List.mem_filter, mem_upTo]
        show _ ↔ x ∈ outI l n
        rw [mem_outI]
        constructor
        · rintro ⟨_, hx⟩
          cases hxn : (x == n) with
          | true => rw [hxn] at hx; cases hx
          | false => rw [hxn] at hx; exact ⟨by simpa using hx, by simpa using hxn⟩
        · rintro ⟨hx, hne⟩
          have := h.each x hx
          refine ⟨⟨this.1, this.2⟩, ?_⟩
          rw [show l.contains x = true by simpa using hx, show (x == n) = false by simpa using hne]; rfl
      have hlo := filter_out_len h.rise hn
      rw [he]
      have : (((outI l n).length : Int) == 0) = ((l.length : Int) == 1) := by
        rw [Bool.eq_iff_iff, beq_iff_eq, beq_iff_eq]
        unfold outI
        omega
      rw [this]
      cases ((l.length : Int) == 1) <;> rfl
/-! ### One step, and the way -/
theorem newOf_add {f t : List Int} {n : Int} (hr : Rise t) : newOf (addI f n) t = outI (newOf f t) n := by
  refine (rise_newOf hr).ext ((rise_newOf hr).filter _) fun x => ?_
  show _ ↔ x ∈ outI (newOf f t) n
  rw [mem_newOf, mem_outI, mem_newOf, mem_addI]
  constructor
  · rintro ⟨h1, h2⟩; exact ⟨⟨h1, fun h => h2 (.inl h)⟩, fun h => h2 (.inr h)⟩
  · rintro ⟨⟨h1, h2⟩, h3⟩; exact ⟨h1, fun h => h.elim h2 h3⟩
theorem newOf_add' {f t : List Int} {n : Int} (hr : Rise f) (hnf : n ∉ f) (hn : n ∈ t) : newOf t (addI f n) = newOf t f := by
  refine (rise_newOf (rise_addI hr hnf)).ext (rise_newOf hr) fun x => ?_
  rw [mem_newOf, mem_newOf, mem_addI]
  constructor
  · rintro ⟨h1 | rfl, h2⟩
    · exact ⟨h1, h2⟩
    · exact absurd hn h2
  · rintro ⟨h1, h2⟩; exact ⟨.inl h1, h2⟩
theorem newOf_out {f t : List Int} {n : Int} (hr : Rise f) : newOf t (outI f n) = outI (newOf t f) n := by
  refine (rise_newOf (hr.filter _)).ext ((rise_newOf hr).filter _) fun x => ?_
  rw [mem_newOf]
  show (x ∈ outI f n ∧ ¬ x ∈ t) ↔ x ∈ outI (newOf t f) n
  rw [mem_outI, mem_outI, mem_newOf]
  constructor
  · rintro ⟨⟨h1, h2⟩, h3⟩; exact ⟨⟨h1, h3⟩, h2⟩
  · rintro ⟨⟨h1, h2⟩, h3⟩; exact ⟨⟨h1, h3⟩, h2⟩
theorem newOf_out' {f t : List Int} {n : Int} (hr : Rise t) (hn : n ∉ t) : newOf (outI f n) t = newOf f t := by
  refine (rise_newOf hr).ext (rise_newOf hr) fun x => ?_
  rw [mem_newOf, mem_newOf, mem_outI]
  constructor
  · rintro ⟨h1, h2⟩; exact ⟨h1, fun h => h2 ⟨h, fun e => hn (e ▸ h1)⟩⟩
  · rintro ⟨h1, h2⟩; exact ⟨h1, fun h => h2 h.1⟩
theorem out_head {n : Int} {l : List Int} (h : Rise (n :: l)) : outI (n :: l) n = l := by
  unfold outI
  rw [List.filter_cons_of_neg (by simp), List.filter_eq_self.2]
  intro x hx
  have := (List.pairwise_cons.1 h).1 x hx
  simp only [Bool.not_eq_true', beq_eq_false_iff_ne]; omega
theorem newOf_nil {f t : List Int} (h : newOf f t = []) : ∀ x ∈ t, x ∈ f := by
  intro x hx
  by_cases hf : x ∈ f
  · exact hf
  · have : x ∈ newOf f t := mem_newOf.2 ⟨hx, hf⟩
    rw [h] at this; cases this
def stepF (f t : List Int) : List Int × Bool := match newOf f t with
  | n :: _ => (addI f n, true)
  | [] => match newOf t f with
    | n :: _ => (outI f n, true)
    | [] => (f, false)
theorem Step_eq {f t : List Int} (hf : Vot f) (ht : Vot t) : conf_Step' f t = some ((stepF f t).1, (stepF f t).2, 0) := by
  have h1 := hf.len
  have h2 := ht.len
  unfold conf_Step' stepF
  rw [qCheck_eq (by omega), qCheck_eq (by omega), vot_iff.2 hf, vot_iff.2 ht, slices_Clone_int_int_is f (by omega), Learners_eq (by omega) (by omega), Learners_eq (by omega) (by omega), vot_iff.2 hf, vot_iff.2 ht]
  simp only [Option.bind_some, Bool.not_true, cond_false, Bool.and_self, cond_true]
  cases hL : newOf f t with
  | cons n L =>
    have hn : n ∈ newOf f t := by rw [hL]; simp
    obtain ⟨hnt, hnf⟩ := mem_newOf.1 hn
    have hb := ht.each n hnt
    simp only [List.length_cons]
    rw [decide_eq_true (by omega : (0 : Int) < ((_ + 1 : Nat) : Int)), show decide ((0 : Int) ≤ 0) = true from rfl]
    simp only [Bool.and_self, cond_true]
    rw [show ((n :: L : List Int)[Int.toNat 0]?) = some n from rfl]
    simp only [Option.bind_some]
    rw [qNext_eq hf hb.1 hb.2, show f.contains n = false by simpa using hnf]
    rfl
  | nil =>
    simp only [List.length_nil]
    rw [show decide (((0 : Nat) : Int) > 0) = false from rfl]
    simp only [cond_false]
    cases hM : newOf t f with
    | nil => rfl
    | cons n M =>
      have hn : n ∈ newOf t f := by rw [hM]; simp
      obtain ⟨hnf, hnt⟩ := mem_newOf.1 hn
      have hb := hf.each n hnf
      simp only [List.length_cons]
      rw [decide_eq_true (by omega : (0 : Int) < ((_ + 1 : Nat) : Int)), show decide ((0 : Int) ≤ 0) = true from rfl]
      simp only [Bool.and_self, cond_true]
      rw [show ((n :: M : List Int)[Int.toNat 0]?) = some n from rfl]
      simp only [Option.bind_some]
      have hlen : ((f.length : Int) == 1) = false := by
        rw [beq_eq_false_iff_ne]
        intro e
        have hlt := (List.nodup_cons.2 ⟨hnt, ht.rise.nodup⟩ : (n :: t).Nodup).length_le_of_subset (l₂ := f) (by
          intro y hy
          rcases List.mem_cons.1 hy with rfl | hy
          · exact hnf
          · exact newOf_nil hL y hy)
        have := ht.ne
        simp only [List.length_cons] at hlt
        omega
      rw [qNext_eq hf hb.1 hb.2, show f.contains n = true by simpa using hnf, hlen]
      rfl
/-- Is it one step further? -/
def goAdd (s : List Int × List (List Int)) (n : Int) : List Int × List (List Int) := (addI s.1 n, s.2 ++ [addI s.1 n])
def goOut (s : List Int × List (List Int)) (n : Int) : List Int × List (List Int) := (outI s.1 n, s.2 ++ [outI s.1 n])
def wayOf (f t : List Int) : List (List Int) := ((newOf t f).foldl goOut ((newOf f t).foldl goAdd (f, [f]))).2
theorem last_snoc (o : List (List Int)) (l : List Int) : (o ++ [l])[Int.toNat (IntKind.wrap .i64 (((o ++ [l]).length : Int) - 1))]? = some l ∨ o.length > 1000000000000 := by
  by_cases h : o.length > 1000000000000
  · exact .inr h
  · left
    rw [List.length_append, List.length_singleton, i64_in (by omega) (by omega), show Int.toNat (((o.length + 1 : Nat) : Int) - 1) = o.length by omega]
    simp
theorem way_step {t l : List Int} (hl : Vot l) (ht : Vot t) (o : List (List Int)) (ho : o.length ≤ 1000000) :
    conf_Way_p13' t (o ++ [l]) = bif (stepF l t).2 then conf_Way_p13' t (o ++ [l] ++ [(stepF l t).1]) else some (0, o ++ [l]) := by
  rw [conf_Way_p13_eq]
  rw [(last_snoc o l).resolve_right (by omega)]
  rw [show decide (0 ≤ IntKind.wrap .i64 (((o ++ [l]).length : Int) - 1)) = true by rw [List.length_append, List.length_singleton, i64_in (by omega) (by omega), decide_eq_true_eq]; omega,
    show decide (IntKind.wrap .i64 (((o ++ [l]).length : Int) - 1) < ((o ++ [l]).length : Int)) = true by rw [List.length_append, List.length_singleton, i64_in (by omega) (by omega), decide_eq_true_eq]; omega]
  simp only [Bool.and_self, cond_true, Option.bind_some]
  rw [Step_eq hl ht]
  simp only [Option.bind_some]
  rw [room_of (by simp only [List.length_append, List.length_singleton]; omega)]
  cases (stepF l t).2 <;> rfl
theorem way_outs {t : List Int} (ht : Vot t) : ∀ (M : List Int) (l : List Int) (o : List (List Int)), Vot l → newOf l t = [] → newOf t l = M → o.length + M.length ≤ 1000000 →
    conf_Way_p13' t (o ++ [l]) = some (0, (M.foldl goOut (l, o ++ [l])).2)
  | [], l, o, hl, h1, h2, ho => by
    rw [way_step hl ht o (by simp at ho; omega)]
    unfold stepF
    rw [h1, h2]; rfl
  | n :: M, l, o, hl, h1, h2, ho => by
    simp only [List.length_cons] at ho
    have hn : n ∈ newOf t l := by rw [h2]; simp
    obtain ⟨hnl, hnt⟩ := mem_newOf.1 hn
    have hr : Rise (n :: M) := by rw [← h2]; exact rise_newOf hl.rise
    obtain ⟨m, hm⟩ : ∃ m, m ∈ t := ⟨t[0]'ht.ne, List.getElem_mem ht.ne⟩
    have hv : Vot (outI l n) := vot_out hl (newOf_nil h1 m hm) (fun e => hnt (e ▸ hm))
    rw [way_step hl ht o (by omega)]
    have hs : stepF l t = (outI l n, true) := by unfold stepF; rw [h1, h2]
    rw [hs]
    simp only [cond_true]
    rw [way_outs ht M (outI l n) (o ++ [l]) hv (by rw [newOf_out' ht.rise hnt, h1]) (by rw [newOf_out hl.rise, h2, out_head hr]) (by simp; omega)]
    rfl
theorem way_adds {t : List Int} (ht : Vot t) (M : List Int) : ∀ (L : List Int) (l : List Int) (o : List (List Int)), Vot l → newOf l t = L → newOf t l = M → o.length + L.length + M.length ≤ 1000000 →
    conf_Way_p13' t (o ++ [l]) = some (0, (M.foldl goOut (L.foldl goAdd (l, o ++ [l]))).2)
  | [], l, o, hl, h1, h2, ho => way_outs ht M l o hl h1 h2 (by simp at ho; omega)
  | n :: L, l, o, hl, h1, h2, ho => by
    simp only [List.length_cons] at ho
    have hn : n ∈ newOf l t := by rw [h1]; simp
    obtain ⟨hnt, hnl⟩ := mem_newOf.1 hn
    have hb := ht.each n hnt
    have hr : Rise (n :: L) := by rw [← h1]; exact rise_newOf ht.rise
    rw [way_step hl ht o (by omega)]
    have hs : stepF l t = (addI l n, true) := by unfold stepF; rw [h1]
    rw [hs]
    simp only [cond_true]
    rw [way_adds ht M L (addI l n) (o ++ [l]) (vot_add hl hb.1 hb.2 hnl) (by rw [newOf_add ht.rise, h1, out_head hr]) (by rw [newOf_add' hl.rise hnl hnt, h2]) (by simp; omega)]
    rfl
theorem Way_eq {f t : List Int} (hf : f.length ≤ 1048576) (ht : t.length ≤ 1048576) : conf_Way' f t = some (bif vot f && vot t then (wayOf f t, 0) else ([], 1)) := by
  unfold conf_Way'
  rw [qCheck_eq (by omega), qCheck_eq (by omega)]
  simp only [Option.bind_some]
  cases h1 : vot f <;> cases h2 : vot t <;> try rfl
  simp only [Bool.not_true, cond_false, Bool.and_self, cond_true]
  rw [slices_Clone_int_int_is f (by omega)]
  simp only [Option.bind_some]
  have := way_adds (vot_iff.1 h2) (newOf t f) (newOf f t) f [] (vot_iff.1 h1) rfl rfl (by
    have a := newOf_len f t
    have b := newOf_len t f
    have c := (vot_iff.1 h1).len
    have d := (vot_iff.1 h2).len
    simp only [List.length_nil]; omega)
  rw [List.nil_append] at this
  rw [this]; rfl
end Go.Proofs.Ytnpfogjbebdlfaa.gg
