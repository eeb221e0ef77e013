/- A list and a span more, and less; what two have. -/
import Derived.Test.YtdmegcnkfngojaaSC
open Go Go.GG
set_option linter.unusedVariables false
namespace Go.Proofs.Ytdmegcnkfngojaa.gg.sp
theorem mayS_ne {s : Sp} (h : mayS s = true) : ne s := by
  simp only [mayS, Bool.and_eq_true, Bool.or_eq_true, beq_iff_eq] at h
  exact h.2.2
def ahB (a b : Str) : Bool := !(a == []) && strLess a b
theorem ahead_eq (a b : Str) : span_ahead' a b = some (ahB a b) := by
  unfold span_ahead' ahB
  cases (a == ([] : Str)) <;> rfl
theorem ahB_iff {s x : Sp} : ahB s.2 x.1 = true ↔ Ah s x := by
  simp [ahB, Ah]
def beB (a b : Str) : Bool := !(a == []) && (b == [] || strLess a b)
theorem below_eq (a b : Str) : span_below' a b = some (beB a b) := by
  unfold span_below' beB
  cases (a == ([] : Str)) <;> cases (b == ([] : Str)) <;> rfl
def sp0 : Sp := ([], [])
def okF (l : List Sp) (i : Nat) : Bool := mayS (nth l i sp0) && (decide (i = 0) || ahB (nth l (i - 1) sp0).2 (nth l i sp0).1)
def formB (l : List Sp) : Bool := decide ((l.length : Int) ≤ 64) && allB l.length (okF l)
theorem Form_eq {l : List Sp} (hl : l.length ≤ 1048576) : span_Form' l = some (formB l) := by
  have key := check_loop l.length (fun i => span_Form_p6' l l (l.length : Int) (i : Int)) (okF l) (a := some (.inl l)) (b := some (.inr false)) (fun i hi => by
    try dsimp only
    rw [span_Form_p6_eq, decide_eq_true (by omega : (i : Int) < (l.length : Int)), at?_getD hi sp0, wrap_succ (by omega)]
    simp only [cond_true, Option.bind_some, may_eq, okF]
    cases mayS (nth l i sp0) with
    | false => rfl
    | true =>
      by_cases h0 : i = 0
      · subst h0; rfl
      · rw [wrap_pred (by omega) (by omega), at?_getD (by omega : i - 1 < l.length) sp0, decide_eq_true (by omega : (i : Int) > 0), decide_eq_false h0]
        simp only [Bool.not_true, cond_false, cond_true, Option.bind_some, ahead_eq]
        cases ahB (nth l (i - 1) sp0).2 (nth l i sp0).1 <;> rfl) (by
    try dsimp only
    rw [span_Form_p6_eq, decide_eq_false (by omega : ¬ (l.length : Int) < (l.length : Int))]; rfl)
  unfold span_Form' formB
  simp only [show ((0 : Nat) : Int) = 0 from rfl] at key
  rw [key]
  cases allB l.length (okF l) <;> cases h : decide ((l.length : Int) ≤ 64) <;> simp [h]
theorem formB_len {l : List Sp} (h : formB l = true) : l.length ≤ 64 := by
  simp only [formB, Bool.and_eq_true, decide_eq_true_eq] at h
  omega
theorem formB_canon {l : List Sp} (h : formB l = true) : Canon l := by
  simp only [formB, Bool.and_eq_true] at h
  have hok := fun i hi => allB_iff.1 h.2 i hi
  have hne : ∀ i (hi : i < l.length), ne l[i] := fun i hi => by
    have := hok i hi
    simp only [okF, Bool.and_eq_true] at this
    rw [getD_lt hi] at this
    exact mayS_ne this.1
  refine ⟨fun s hs => ?_, ?_⟩
  · obtain ⟨i, hi, rfl⟩ := List.getElem_of_mem hs
    exact hne i hi
  · rw [List.pairwise_iff_getElem]
    have step : ∀ i (hi : i + 1 < l.length), Ah l[i] l[i + 1] := fun i hi => by
      have := hok (i + 1) hi
      simp only [okF, Bool.and_eq_true, Bool.or_eq_true, decide_eq_true_eq] at this
      have h2 := this.2.resolve_left (by omega)
      rw [getD_lt hi, Nat.add_sub_cancel, getD_lt (by omega)] at h2
      exact ahB_iff.1 h2
    have key : ∀ (m i : Nat) (hm : i + m + 1 < l.length), Ah l[i] l[i + m + 1] := by
      intro m
      induction m with
      | zero => intro i hi; exact step i hi
      | succ m ih =>
        intro i hi
        have h1 := ih i (by omega)
        have h2 := step (i + m + 1) hi
        have h3 := (hne (i + m + 1) (by omega)).resolve_left h2.1
        exact ⟨h1.1, strLess_trans h1.2 (strLess_trans h3 h2.2)⟩
    intro i j hi hj hij
    have := key (j - i - 1) i (by omega)
    have e : i + (j - i - 1) + 1 = j := by omega
    simp only [e] at this
    exact this
theorem Ah.trans {a b c : Sp} (h1 : Ah a b) (hb : ne b) (h2 : Ah b c) : Ah a c := ⟨h1.1, strLess_trans h1.2 (strLess_trans (hb.resolve_left h2.1) h2.2)⟩
def E (s : Sp) (k : Str) : Prop := s.2 = [] ∨ strLess k s.2 = true
theorem has_E {s : Sp} {k : Str} : has s k = true ↔ leS s.1 k = true ∧ E s k := has_iff
theorem min_le (a b k : Str) : leS (strMin a b) k = true ↔ leS a k = true ∨ leS b k = true := by
  unfold strMin
  have e : (strLess a b || a == b) = leS a b := rfl
  rw [e]
  cases h : leS a b with
  | true =>
    simp only [cond_true]
    constructor
    · exact .inl
    · rintro (h1 | h1)
      · exact h1
      · exact leS_trans h h1
  | false =>
    have h2 : strLess b a = true := by rw [less_iff']; exact h
    simp only [cond_false]
    constructor
    · exact .inr
    · rintro (h1 | h1)
      · exact leS_trans (leS_of_less h2) h1
      · exact h1
def maxE (a b : Str) : Str := bif beB a b then b else a
theorem maxE_E (s x : Sp) (k : Str) : E (s.1, maxE s.2 x.2) k ↔ E s k ∨ E x k := by
  unfold E maxE beB
  simp only
  by_cases h1 : s.2 = []
  · simp [h1]
  · have hb : (s.2 == ([] : Str)) = false := by rw [beq_eq_false_iff_ne]; exact h1
    rw [hb]
    by_cases h2 : x.2 = []
    · simp [h2]
    · have hc : (x.2 == ([] : Str)) = false := by rw [beq_eq_false_iff_ne]; exact h2
      rw [hc]
      simp only [Bool.not_false, Bool.true_and, Bool.false_or, h1, h2, false_or]
      cases h3 : strLess s.2 x.2 with
      | true =>
        simp only [cond_true, h2, false_or]
        constructor
        · exact .inr
        · rintro (h | h)
          · exact strLess_trans h h3
          · exact h
      | false =>
        simp only [cond_false, h1, false_or]
        constructor
        · exact .inl
        · rintro (h | h)
          · exact h
          · exact less_of_less_le h (leS_iff'.2 h3)
def join (s x : Sp) : Sp := (strMin s.1 x.1, maxE s.2 x.2)
theorem join_has {s x : Sp} (h1 : ahB x.2 s.1 = false) (h2 : ahB s.2 x.1 = false) (k : Str) : has (join s x) k = (has s k || has x k) := by
  have gap : ∀ {a b : Sp}, ahB a.2 b.1 = false → leS a.1 k = true → ¬ E a k → leS b.1 k = true := by
    intro a b hab _ hE
    unfold E at hE
    simp only [not_or] at hE
    have h3 : (a.2 == ([] : Str)) = false := by rw [beq_eq_false_iff_ne]; exact hE.1
    unfold ahB at hab
    rw [h3, Bool.not_false, Bool.true_and] at hab
    have h4 : leS b.1 a.2 = true := leS_iff'.2 hab
    have h5 : leS a.2 k = true := leS_iff'.2 (by simpa using hE.2)
    exact leS_trans h4 h5
  rw [Bool.eq_iff_iff, Bool.or_eq_true, has_E, has_E, has_E]
  have hE : E (join s x) k ↔ E s k ∨ E x k := maxE_E s x k
  rw [hE, show (join s x).1 = strMin s.1 x.1 from rfl, min_le]
  constructor
  · rintro ⟨h3 | h3, h4 | h4⟩
    · exact .inl ⟨h3, h4⟩
    · by_cases h5 : E s k
      · exact .inl ⟨h3, h5⟩
      · exact .inr ⟨gap h2 h3 h5, h4⟩
    · by_cases h5 : E x k
      · exact .inr ⟨h3, h5⟩
      · exact .inl ⟨gap h1 h3 h5, h4⟩
    · exact .inr ⟨h3, h4⟩
  · rintro (⟨h3, h4⟩ | ⟨h3, h4⟩)
    · exact ⟨.inl h3, .inl h4⟩
    · exact ⟨.inr h3, .inr h4⟩
theorem less_min {a b t : Str} (h1 : strLess t a = true) (h2 : strLess t b = true) : strLess t (strMin a b) = true := by
  unfold strMin
  cases (strLess a b || a == b) <;> simp [h1, h2]
theorem join_ne {s x : Sp} (h1 : ne s) (h2 : ne x) : ne (join s x) := by
  unfold ne join maxE
  simp only
  have m1 : leS (strMin s.1 x.1) s.1 = true := (min_le _ _ _).2 (.inl (leS_refl _))
  have m2 : leS (strMin s.1 x.1) x.1 = true := (min_le _ _ _).2 (.inr (leS_refl _))
  cases beB s.2 x.2 with
  | true =>
    simp only [cond_true]
    rcases h2 with h | h
    · exact .inl h
    · exact .inr (less_of_le_less m2 h)
  | false =>
    simp only [cond_false]
    rcases h1 with h | h
    · exact .inl h
    · exact .inr (less_of_le_less m1 h)
abbrev AS := Sp × List Sp × List Sp
def addStep (t : AS) (x : Sp) : AS := bif ahB x.2 t.1.1 then (t.1, t.2.1 ++ [x], t.2.2) else bif ahB t.1.2 x.1 then (t.1, t.2.1, t.2.2 ++ [x]) else (join t.1 x, t.2.1, t.2.2)
theorem add_ok : ∀ (r : List Sp) (t : AS), Canon (t.2.1 ++ (t.1 :: t.2.2)) → Canon r → (∀ a ∈ t.2.1 ++ t.2.2, ∀ y ∈ r, Ah a y) →
    (let u := r.foldl addStep t; Canon (u.2.1 ++ (u.1 :: u.2.2)) ∧ ∀ k, inL (u.2.1 ++ (u.1 :: u.2.2)) k = (inL (t.2.1 ++ (t.1 :: t.2.2)) k || inL r k))
  | [], t, hc, _, _ => ⟨hc, fun k => by simp [inL]⟩
  | x :: r, ⟨s, lo, hi⟩, hc, hr, hg => by
    simp only at hc hg
    simp only [List.foldl_cons]
    have hx := hr.ne x (by simp)
    have hs := hc.ne s (by simp)
    have hrest := hr.head
    have hpw := List.pairwise_append.1 hc.gap
    have hpc := List.pairwise_cons.1 hpw.2.1
    have fin : ∀ (t' : AS), addStep (s, lo, hi) x = t' → Canon (t'.2.1 ++ (t'.1 :: t'.2.2)) → (∀ a ∈ t'.2.1 ++ t'.2.2, ∀ y ∈ r, Ah a y) → (∀ k, inL (t'.2.1 ++ (t'.1 :: t'.2.2)) k = (inL (lo ++ (s :: hi)) k || has x k)) →
        (let u := r.foldl addStep (addStep (s, lo, hi) x); Canon (u.2.1 ++ (u.1 :: u.2.2)) ∧ ∀ k, inL (u.2.1 ++ (u.1 :: u.2.2)) k = (inL (lo ++ (s :: hi)) k || inL (x :: r) k)) := by
      intro t' e h1 h2 h3
      rw [e]
      obtain ⟨a, b⟩ := add_ok r t' h1 hr.tail h2
      exact ⟨a, fun k => by rw [b k, h3 k, inL_cons, Bool.or_assoc]⟩
    cases h1 : ahB x.2 s.1 with
    | true =>
      have hA : Ah x s := ahB_iff.1 h1
      refine fin (s, lo ++ [x], hi) (by simp [addStep, h1]) ⟨?_, ?_⟩ ?_ ?_
      · intro y hy
        simp only [List.mem_append, List.mem_singleton, List.mem_cons, List.not_mem_nil, or_false] at hy
        rcases hy with (hy | rfl) | hy
        · exact hc.ne y (by simp [hy])
        · exact hx
        · exact hc.ne y (by simp only [List.mem_append, List.mem_cons]; exact .inr hy)
      · simp only [List.append_assoc, List.singleton_append]
        rw [List.pairwise_append]
        refine ⟨hpw.1, List.pairwise_cons.2 ⟨fun y hy => ?_, hpw.2.1⟩, fun a ha y hy => ?_⟩
        · rcases List.mem_cons.1 hy with rfl | hy
          · exact hA
          · exact hA.trans hs (hpc.1 y hy)
        · rcases List.mem_cons.1 hy with rfl | hy
          · exact hg a (by simp [ha]) y (by simp)
          · exact hpw.2.2 a ha y hy
      · intro a ha y hy
        simp only [List.mem_append, List.mem_singleton] at ha
        rcases ha with (ha | rfl) | ha
        · exact hg a (by simp [ha]) y (by simp [hy])
        · exact hrest y hy
        · exact hg a (by simp [ha]) y (by simp [hy])
      · intro k
        simp only [inL, List.any_append, List.any_cons, List.any_nil, Bool.or_false]
        cases lo.any (fun s => has s k) <;> cases has x k <;> cases has s k <;> cases hi.any (fun s => has s k) <;> rfl
    | false =>
      cases h2 : ahB s.2 x.1 with
      | true =>
        have hA : Ah s x := ahB_iff.1 h2
        refine fin (s, lo, hi ++ [x]) (by simp [addStep, h1, h2]) ⟨?_, ?_⟩ ?_ ?_
        · intro y hy
          simp only [List.mem_append, List.mem_singleton, List.mem_cons, List.not_mem_nil, or_false] at hy
          rcases hy with hy | rfl | hy | rfl
          · exact hc.ne y (by simp [hy])
          · exact hs
          · exact hc.ne y (by simp [hy])
          · exact hx
        · rw [List.pairwise_append]
          refine ⟨hpw.1, List.pairwise_cons.2 ⟨fun y hy => ?_, List.pairwise_append.2 ⟨hpc.2, List.pairwise_singleton _ _, fun a ha y hy => ?_⟩⟩, fun a ha y hy => ?_⟩
          · rcases List.mem_append.1 hy with hy | hy
            · exact hpc.1 y hy
            · rw [List.mem_singleton.1 hy]; exact hA
          · rw [List.mem_singleton.1 hy]; exact hg a (by simp [ha]) x (by simp)
          · rcases List.mem_cons.1 hy with rfl | hy
            · exact hpw.2.2 a ha y (by simp)
            · rcases List.mem_append.1 hy with hy | hy
              · exact hpw.2.2 a ha y (by simp [hy])
              · rw [List.mem_singleton.1 hy]; exact hg a (by simp [ha]) x (by simp)
        · intro a ha y hy
          simp only [List.mem_append, List.mem_singleton] at ha
          rcases ha with ha | ha | rfl
          · exact hg a (by simp [ha]) y (by simp [hy])
          · exact hg a (by simp [ha]) y (by simp [hy])
          · exact hrest y hy
        · intro k
          simp only [inL, List.any_append, List.any_cons, List.any_nil, Bool.or_false]
          cases lo.any (fun s => has s k) <;> cases has x k <;> cases has s k <;> cases hi.any (fun s => has s k) <;> rfl
      | false =>
        have hhi : hi = [] := by
          cases hi with
          | nil => rfl
          | cons h t =>
            have a1 := hpc.1 h (by simp)
            have a2 := hg h (by simp) x (by simp)
            have := ahB_iff.2 (a1.trans (hc.ne h (by simp)) a2)
            rw [h2] at this; cases this
        subst hhi
        refine fin (join s x, lo, []) (by simp [addStep, h1, h2]) ⟨?_, ?_⟩ ?_ ?_
        · intro y hy
          simp only [List.mem_append, List.mem_cons, List.not_mem_nil, or_false] at hy
          rcases hy with hy | rfl
          · exact hc.ne y (by simp [hy])
          · exact join_ne hs hx
        · rw [List.pairwise_append]
          refine ⟨hpw.1, List.pairwise_singleton _ _, fun a ha y hy => ?_⟩
          rw [List.mem_singleton.1 hy]
          have a1 := hpw.2.2 a ha s (by simp)
          have a2 := hg a (by simp [ha]) x (by simp)
          exact ⟨a1.1, less_min a1.2 a2.2⟩
        · intro a ha y hy
          exact hg a ha y (by simp [hy])
        · intro k
          simp only [inL, List.any_append, List.any_cons, List.any_nil, Bool.or_false]
          rw [join_has h1 h2]
          cases lo.any (fun s => has s k) <;> cases has x k <;> cases has s k <;> rfl
end Go.Proofs.Ytdmegcnkfngojaa.gg.sp
