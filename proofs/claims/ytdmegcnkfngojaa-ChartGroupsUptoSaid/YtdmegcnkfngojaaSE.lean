/- Any list and a span more, and less; pairs: the plain laws. -/
import Derived.Test.YtdmegcnkfngojaaSD
open Go Go.GG
set_option linter.unusedVariables false
namespace Go.Proofs.Ytdmegcnkfngojaa.gg.sp
theorem slices_Grow_api_Span_api_Span_is (n : Int) (h0 : 0 ≤ n) (h1 : n ≤ 4398046511104 / 32) : slices_Grow_api_Span_api_Span' () n = some [] := by
  unfold slices_Grow_api_Span_api_Span'
  rw [Int.sub_zero, i64_in (by omega) (by omega), decide_eq_false (by omega : ¬ n < 0), decide_eq_true h0, room_of (by omega)]
  have c0 : ∀ xs : List (Sp), cut xs 0 0 = [] := by intro xs; simp [cut]
  rw [c0, decide_eq_true (by omega : (0 : Int) ≤ (((List.replicate (Int.toNat n) _ : List (Sp)).length : Nat) : Int))]
  cases decide (n > 0) <;> rfl
theorem slices_Concat_api_Span_api_Span_is (ls : List (List (Sp))) (hl : ls.flatten.length ≤ 4398046511104 / 32) (hn : ls.length ≤ 1000000000000) : slices_Concat_api_Span_api_Span' ls = some ls.flatten := by
  have hfl : ∀ i, (ls.take i).flatten.length ≤ ls.flatten.length := fun i => by
    have := congrArg (fun z => z.flatten.length) (List.take_append_drop i ls)
    simp only [List.flatten_append, List.length_append] at this
    omega
  have f1 : ∀ (r : List (List (Sp))) (m : Int), r.foldl (fun m x => m + (x.length : Int)) m = m + (r.flatten.length : Int) := by
    intro r
    induction r with
    | nil => intro m; simp
    | cons x r ih => intro m; rw [List.foldl_cons, ih, List.flatten_cons, List.length_append]; omega
  have f2 : ∀ (r : List (List (Sp))) (o : List (Sp)), r.foldl (fun o x => o ++ x) o = o ++ r.flatten := by
    intro r
    induction r with
    | nil => intro o; simp
    | cons x r ih => intro o; rw [List.foldl_cons, ih, List.flatten_cons, List.append_assoc]
  have k1 := fold_loop ls (fun (m : Int) x => m + (x.length : Int)) 0 (fun i m => slices_Concat_api_Span_api_Span_p8' ls m ls (ls.length : Int) (i : Int)) (out := fun m => some (ls, m)) (fun i hi => by
    try dsimp only
    have h1 := hfl (i + 1)
    rw [take_succ' hi, List.flatten_append, List.length_append, List.flatten_singleton] at h1
    rw [f1, slices_Concat_api_Span_api_Span_p8_eq, decide_eq_true (by omega : (i : Int) < (ls.length : Int)), at?_lt hi, wrap_succ (by omega)]
    simp only [cond_true, Option.bind_some]
    rw [i64_in (by omega) (by omega), decide_eq_false (by omega)]
    rfl) (by
    try dsimp only
    rw [slices_Concat_api_Span_api_Span_p8_eq, decide_eq_false (by omega : ¬ (ls.length : Int) < (ls.length : Int))]; rfl)
  have k2 := fold_loop ls (fun (o : List (Sp)) x => o ++ x) [] (fun i o => slices_Concat_api_Span_api_Span_p33' ls (ls.length : Int) (i : Int) o) (out := fun o => some o) (fun i hi => by
    try dsimp only
    have h1 := hfl (i + 1)
    rw [take_succ' hi, List.flatten_append, List.length_append, List.flatten_singleton] at h1
    rw [f2, slices_Concat_api_Span_api_Span_p33_eq, decide_eq_true (by omega : (i : Int) < (ls.length : Int)), at?_lt hi, wrap_succ (by omega)]
    simp only [cond_true, Option.bind_some, List.nil_append]
    rw [room_of (by rw [List.length_append]; omega)]
    rfl) (by
    try dsimp only
    rw [slices_Concat_api_Span_api_Span_p33_eq, decide_eq_false (by omega : ¬ (ls.length : Int) < (ls.length : Int))]; rfl)
  simp only [show ((0 : Nat) : Int) = 0 from rfl, f1, f2, List.nil_append, Int.zero_add] at k1 k2
  unfold slices_Concat_api_Span_api_Span'
  rw [k1]
  simp only [Option.bind_some]
  rw [slices_Grow_api_Span_api_Span_is _ (by omega) (by omega)]
  simp only [Option.bind_some]
  rw [k2]
  rfl
def toldB (l : List Sp) : List Sp × Int := bif decide ((l.length : Int) > 64) then ([], 2) else (l, 0)
theorem told_eq (l : List Sp) : span_told' l = some (toldB l) := by
  unfold span_told' toldB
  cases decide ((l.length : Int) > 64) <;> rfl
def addF (l : List Sp) (s : Sp) : List Sp := (let u := l.foldl addStep (s, [], []); u.2.1 ++ (u.1 :: u.2.2))
theorem add_len : ∀ (r : List Sp) (t : AS), (r.foldl addStep t).2.1.length + (r.foldl addStep t).2.2.length ≤ t.2.1.length + t.2.2.length + r.length
  | [], t => by simp
  | x :: r, t => by
    have ih := add_len r (addStep t x)
    have h : (addStep t x).2.1.length + (addStep t x).2.2.length ≤ t.2.1.length + t.2.2.length + 1 := by
      unfold addStep
      cases ahB x.2 t.1.1 <;> cases ahB t.1.2 x.1 <;> simp <;> omega
    rw [List.foldl_cons]
    simp only [List.length_cons]
    omega
theorem Add_eq {l : List Sp} (hl : l.length ≤ 1048576) (s : Sp) : span_Add' l s = some (bif !(formB l && mayS s) then ([], 1) else toldB (addF l s)) := by
  unfold span_Add'
  rw [Form_eq hl, may_eq]
  simp only [Option.bind_some]
  cases hf : formB l with
  | false => rfl
  | true =>
    cases hm : mayS s with
    | false => rfl
    | true =>
      have key0 := fold_loop l addStep (s, [], []) (fun i t => span_Add_p16' l (l.length : Int) (i : Int) t.1 t.2.1 t.2.2) (out := fun t => some (t.1, t.2.1, t.2.2)) (fun i hi => by
        try dsimp only
        have hlen := add_len (l.take i) (s, [], [])
        generalize (l.take i).foldl addStep (s, [], []) = t at *
        obtain ⟨t1, t2, t3⟩ := t
        simp only [List.length_nil, List.length_take, Nat.zero_add] at hlen
        rw [span_Add_p16_eq, decide_eq_true (by omega : (i : Int) < (l.length : Int)), at?_lt hi, wrap_succ (by omega)]
        simp only [cond_true, Option.bind_some, ahead_eq, below_eq, addStep]
        rw [room_of (by simp; omega), room_of (by simp; omega)]
        simp only [cond_true, join, maxE]
        cases ahB l[i].2 t1.1 <;> cases ahB t1.2 l[i].1 <;> cases beB t1.2 l[i].2 <;> rfl) (by
        try dsimp only
        rw [span_Add_p16_eq, decide_eq_false (by omega : ¬ (l.length : Int) < (l.length : Int))]; rfl)
      simp only [show ((0 : Nat) : Int) = 0 from rfl] at key0
      have hlen := add_len l (s, [], [])
      simp only [List.length_nil, Nat.zero_add] at hlen
      simp only [Bool.not_true, cond_false, Bool.and_self]
      first | rw [key0] | rw [show ((s.1, s.2) : Sp) = s from rfl, key0]
      simp only [Option.bind_some]
      rw [slices_Concat_api_Span_api_Span_is _ (by simp; omega) (by simp)]
      simp only [Option.bind_some, told_eq]
      unfold addF
      simp
theorem addF_ok {l : List Sp} {s : Sp} (hl : formB l = true) (hs : mayS s = true) : Canon (addF l s) ∧ ∀ k, inL (addF l s) k = (inL l k || has s k) := by
  have h := add_ok l (s, [], []) ⟨by simpa using mayS_ne hs, by simp⟩ (formB_canon hl) (by simp)
  refine ⟨h.1, fun k => ?_⟩
  have := h.2 k
  unfold addF
  rw [this]
  have e : inL (((s, [], []) : AS).2.1 ++ (((s, [], []) : AS).1 :: ((s, [], []) : AS).2.2)) k = has s k := by simp [inL]
  rw [e, Bool.or_comm]
theorem addF_piece {l : List Sp} {s : Sp} (hl : formB l = true) (hs : mayS s = true) : addF l s = pieceOf l s 0 := by
  obtain ⟨a, b⟩ := addF_ok hl hs
  obtain ⟨c, d⟩ := pieceOf_ok l s 0
  exact canon_ext a c fun k => by rw [b, d]; rfl
/-! Less. -/
def leastB (a b : Str) : Str := bif beB a b then a else b
def partsOf (s x : Sp) : List Sp := (bif strLess x.1 s.1 then [(x.1, leastB x.2 s.1)] else []) ++ (bif beB s.2 x.2 then [(strMax s.2 x.1, x.2)] else [])
def lessF (l : List Sp) (s : Sp) : List Sp := l.flatMap (partsOf s)
theorem parts_len (s x : Sp) : (partsOf s x).length ≤ 2 := by
  unfold partsOf
  cases strLess x.1 s.1 <;> cases beB s.2 x.2 <;> simp
theorem less_len (s : Sp) : ∀ (l : List Sp), (l.flatMap (partsOf s)).length ≤ 2 * l.length
  | [] => by simp
  | x :: l => by
    have := less_len s l
    have := parts_len s x
    rw [List.flatMap_cons, List.length_append, List.length_cons]; omega
theorem max_le (a b k : Str) : leS (strMax a b) k = true ↔ leS a k = true ∧ leS b k = true := by
  unfold strMax
  cases h : strLess a b with
  | true =>
    simp only [cond_true]
    exact ⟨fun h1 => ⟨leS_trans (leS_of_less h) h1, h1⟩, fun h1 => h1.2⟩
  | false =>
    have h2 : leS b a = true := leS_iff'.2 h
    simp only [cond_false]
    exact ⟨fun h1 => ⟨h1, leS_trans h2 h1⟩, fun h1 => h1.1⟩
theorem leastE (a x : Sp) (k : Str) : E (a.1, leastB a.2 x.2) k ↔ E a k ∧ E x k := by
  unfold E leastB beB
  simp only
  by_cases h1 : a.2 = []
  · simp [h1]
  · have hb : (a.2 == ([] : Str)) = false := by rw [beq_eq_false_iff_ne]; exact h1
    rw [hb]
    by_cases h2 : x.2 = []
    · simp [h2]
    · have hc : (x.2 == ([] : Str)) = false := by rw [beq_eq_false_iff_ne]; exact h2
      rw [hc]
      simp only [Bool.not_false, Bool.true_and, Bool.false_or, h1, h2, false_or]
      cases h3 : strLess a.2 x.2 with
      | true =>
        simp only [cond_true, h1, false_or]
        exact ⟨fun h => ⟨h, strLess_trans h h3⟩, fun h => h.1⟩
      | false =>
        simp only [cond_false, h2, false_or]
        exact ⟨fun h => ⟨less_of_less_le h (leS_iff'.2 h3), h⟩, fun h => h.2⟩
theorem has_bool (s : Sp) (k : Str) : has s k = true ↔ leS s.1 k = true ∧ E s k := has_E
theorem less_max {a b t : Str} (h1 : strLess a t = true) (h2 : strLess b t = true) : strLess (strMax a b) t = true := by
  unfold strMax
  cases strLess a b <;> simp [h1, h2]
theorem beB_iff {a b : Str} : beB a b = true ↔ a ≠ [] ∧ (b = [] ∨ strLess a b = true) := by
  simp [beB]
theorem parts_ok {s x : Sp} (hs : ne s) (hx : ne x) : Canon (partsOf s x) ∧ (∀ k, inL (partsOf s x) k = (has x k && !has s k)) ∧ ∀ w ∈ partsOf s x, leS x.1 w.1 = true ∧ (x.2 ≠ [] → w.2 ≠ [] ∧ leS w.2 x.2 = true) := by
  have n1 : strLess x.1 s.1 = true → ne (x.1, leastB x.2 s.1) ∧ leastB x.2 s.1 ≠ [] ∧ leS (leastB x.2 s.1) s.1 = true ∧ (x.2 ≠ [] → leS (leastB x.2 s.1) x.2 = true) := by
    intro h
    have hs1 : s.1 ≠ [] := fun e => by rw [e, strLess_nil] at h; cases h
    unfold leastB
    cases hb : beB x.2 s.1 with
    | true =>
      simp only [cond_true]
      obtain ⟨h1, h2⟩ := beB_iff.1 hb
      have h2 := h2.resolve_left hs1
      exact ⟨.inr (hx.resolve_left h1), h1, leS_of_less h2, fun _ => leS_refl _⟩
    | false =>
      simp only [cond_false]
      refine ⟨.inr h, hs1, leS_refl _, fun h1 => ?_⟩
      rw [leS_iff']
      cases h2 : strLess x.2 s.1 with
      | false => rfl
      | true => rw [beB_iff.2 ⟨h1, .inr h2⟩] at hb; cases hb
  have n2 : beB s.2 x.2 = true → ne (strMax s.2 x.1, x.2) ∧ s.2 ≠ [] := by
    intro h
    obtain ⟨h1, h2⟩ := beB_iff.1 h
    refine ⟨?_, h1⟩
    rcases h2 with h2 | h2
    · exact .inl h2
    · have hxx : x.2 ≠ [] := fun e => by rw [e, strLess_nil] at h2; cases h2
      exact .inr (less_max h2 (hx.resolve_left hxx))
  have inside : ∀ w ∈ partsOf s x, ne w ∧ leS x.1 w.1 = true ∧ (x.2 ≠ [] → w.2 ≠ [] ∧ leS w.2 x.2 = true) := by
    intro w hw
    unfold partsOf at hw
    rcases List.mem_append.1 hw with hw | hw
    · cases h1 : strLess x.1 s.1 with
      | false => rw [h1] at hw; simp at hw
      | true =>
        rw [h1] at hw
        simp only [cond_true, List.mem_singleton] at hw
        subst hw
        obtain ⟨a, b, c, d⟩ := n1 h1
        exact ⟨a, leS_refl _, fun h => ⟨b, d h⟩⟩
    · cases h1 : beB s.2 x.2 with
      | false => rw [h1] at hw; simp at hw
      | true =>
        rw [h1] at hw
        simp only [cond_true, List.mem_singleton] at hw
        subst hw
        exact ⟨(n2 h1).1, ((max_le _ _ _).1 (leS_refl _)).2, fun h => ⟨h, leS_refl _⟩⟩
  refine ⟨⟨fun w hw => (inside w hw).1, ?_⟩, fun k => ?_, fun w hw => (inside w hw).2⟩
  · unfold partsOf
    rw [List.pairwise_append]
    refine ⟨by cases strLess x.1 s.1 <;> simp, by cases beB s.2 x.2 <;> simp, fun a ha b hb => ?_⟩
    cases h1 : strLess x.1 s.1 with
    | false => rw [h1] at ha; simp at ha
    | true =>
      cases h2 : beB s.2 x.2 with
      | false => rw [h2] at hb; simp at hb
      | true =>
        rw [h1] at ha
        rw [h2] at hb
        simp only [cond_true, List.mem_singleton] at ha hb
        subst ha; subst hb
        obtain ⟨_, b, c, _⟩ := n1 h1
        obtain ⟨_, e⟩ := n2 h2
        have h3 := hs.resolve_left e
        have h4 : leS s.2 (strMax s.2 x.1) = true := ((max_le _ _ _).1 (leS_refl _)).1
        exact ⟨b, less_of_less_le (less_of_le_less c h3) h4⟩
  · have p1 : inL (bif strLess x.1 s.1 then [((x.1, leastB x.2 s.1) : Sp)] else []) k = true ↔ leS x.1 k = true ∧ E x k ∧ strLess k s.1 = true := by
      cases h1 : strLess x.1 s.1 with
      | false =>
        simp only [cond_false]
        constructor
        · intro h; simp [inL] at h
        · rintro ⟨h2, _, h3⟩
          rw [less_of_le_less h2 h3] at h1; cases h1
      | true =>
        have hs1 : s.1 ≠ [] := fun e => by rw [e, strLess_nil] at h1; cases h1
        simp only [cond_true, inL, List.any_cons, List.any_nil, Bool.or_false]
        rw [has_bool]
        have := leastE x ((x.1, s.1) : Sp) k
        simp only at this
        rw [this]
        unfold E
        simp [hs1]
    have p2 : inL (bif beB s.2 x.2 then [((strMax s.2 x.1, x.2) : Sp)] else []) k = true ↔ leS x.1 k = true ∧ E x k ∧ ¬ E s k := by
      cases h1 : beB s.2 x.2 with
      | false =>
        simp only [cond_false]
        constructor
        · intro h; simp [inL] at h
        · rintro ⟨h2, h3, h4⟩
          unfold E at h3 h4
          simp only [not_or] at h4
          have h5 : leS s.2 k = true := leS_iff'.2 (by simpa using h4.2)
          rw [beB_iff.2 ⟨h4.1, h3.imp id (less_of_le_less h5)⟩] at h1; cases h1
      | true =>
        have h2 := (n2 h1).2
        simp only [cond_true, inL, List.any_cons, List.any_nil, Bool.or_false]
        rw [has_bool]
        simp only [max_le]
        have h3 : ¬ E s k ↔ leS s.2 k = true := by
          unfold E
          rw [leS_iff']
          simp [h2]
        rw [h3]
        unfold E
        simp only
        constructor
        · rintro ⟨⟨a, b⟩, c⟩; exact ⟨b, c, a⟩
        · rintro ⟨b, c, a⟩; exact ⟨⟨a, b⟩, c⟩
    unfold partsOf
    rw [inL_append, Bool.eq_iff_iff, Bool.or_eq_true, p1, p2, Bool.and_eq_true, Bool.not_eq_true', has_bool]
    constructor
    · rintro (⟨a, b, c⟩ | ⟨a, b, c⟩)
      · refine ⟨⟨a, b⟩, ?_⟩
        cases h : has s k with
        | false => rfl
        | true =>
          have := ((has_bool s k).1 h).1
          rw [leS_iff'] at this
          rw [this] at c; cases c
      · refine ⟨⟨a, b⟩, ?_⟩
        cases h : has s k with
        | false => rfl
        | true => exact absurd ((has_bool s k).1 h).2 c
    · rintro ⟨⟨a, b⟩, c⟩
      cases h : strLess k s.1 with
      | true => exact .inl ⟨a, b, rfl⟩
      | false =>
        refine .inr ⟨a, b, fun hE => ?_⟩
        rw [(has_bool s k).2 ⟨leS_iff'.2 h, hE⟩] at c; cases c
theorem lessF_ok {s : Sp} (hs : ne s) : ∀ {l : List Sp}, Canon l → Canon (lessF l s) ∧ (∀ k, inL (lessF l s) k = (inL l k && !has s k)) ∧ ∀ w ∈ lessF l s, ∃ x ∈ l, leS x.1 w.1 = true
  | [], _ => ⟨⟨by simp [lessF], by simp [lessF]⟩, fun k => by simp [lessF, inL], by simp [lessF]⟩
  | x :: l, h => by
    obtain ⟨c1, m1, f1⟩ := lessF_ok hs h.tail
    obtain ⟨c2, m2, f2⟩ := parts_ok hs (h.ne x (by simp))
    have e : lessF (x :: l) s = partsOf s x ++ lessF l s := by simp [lessF]
    rw [e]
    refine ⟨⟨fun w hw => ?_, List.pairwise_append.2 ⟨c2.gap, c1.gap, fun a ha b hb => ?_⟩⟩, fun k => ?_, fun w hw => ?_⟩
    · rcases List.mem_append.1 hw with hw | hw
      · exact c2.ne w hw
      · exact c1.ne w hw
    · obtain ⟨y, hy, hyb⟩ := f1 b hb
      have hA := h.head y hy
      obtain ⟨h1, h2⟩ := (f2 a ha).2 hA.1
      exact ⟨h1, less_of_le_less h2 (less_of_less_le hA.2 hyb)⟩
    · rw [inL_append, m2, m1, inL_cons]
      cases has x k <;> cases inL l k <;> cases has s k <;> rfl
    · rcases List.mem_append.1 hw with hw | hw
      · exact ⟨x, by simp, (f2 w hw).1⟩
      · obtain ⟨y, hy, hyw⟩ := f1 w hw
        exact ⟨y, by simp [hy], hyw⟩
theorem lessF_piece {l : List Sp} {s : Sp} (hl : formB l = true) (hs : mayS s = true) : lessF l s = pieceOf l s 1 := by
  obtain ⟨a, b, _⟩ := lessF_ok (mayS_ne hs) (formB_canon hl)
  obtain ⟨c, d⟩ := pieceOf_ok l s 1
  exact canon_ext a c fun k => by rw [b, d]; rfl
end Go.Proofs.Ytdmegcnkfngojaa.gg.sp
