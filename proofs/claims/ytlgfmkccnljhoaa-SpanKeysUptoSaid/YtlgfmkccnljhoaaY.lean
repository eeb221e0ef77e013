/- The theorem of sets: the plain law. -/
import Derived.Test.YtlgfmkccnljhoaaX
open Go Go.GG
set_option linter.unusedVariables false
namespace Go.Proofs.Ytlgfmkccnljhoaa.gg
theorem slices_IndexFunc_api_Span_api_Span_is (l : List (Sp)) (f : Sp → Option Bool) (p : Sp → Bool) (hl : l.length ≤ 1000000000000) (hf : ∀ x, f x = some (p x)) : slices_IndexFunc_api_Span_api_Span' l f = some (match l.findIdx? p with | some i => (i : Int) | none => -1) := by
  have key0 := index_loop l p (fun i => slices_IndexFunc_api_Span_api_Span_p6' l f (l.length : Int) (i : Int)) (f := fun i => some (.inr (i : Int))) (a := some (.inl ())) (fun i hi => by
    try dsimp only
    rw [slices_IndexFunc_api_Span_api_Span_p6_eq, decide_eq_true (by omega : (i : Int) < (l.length : Int)), at?_lt hi]
    simp only [cond_true, Option.bind_some, hf]
    rw [wrap_succ (by omega)]) (by
    try dsimp only
    rw [slices_IndexFunc_api_Span_api_Span_p6_eq, decide_eq_false (by omega : ¬ (l.length : Int) < (l.length : Int))]; rfl)
  unfold slices_IndexFunc_api_Span_api_Span'
  simp only [show ((0 : Nat) : Int) = 0 from rfl] at key0
  rw [key0]
  cases l.findIdx? p <;> rfl
theorem slices_ContainsFunc_api_Span_api_Span_is (l : List (Sp)) (f : Sp → Option Bool) (p : Sp → Bool) (hl : l.length ≤ 1000000000000) (hf : ∀ x, f x = some (p x)) : slices_ContainsFunc_api_Span_api_Span' l f = some (l.any p) := by
  unfold slices_ContainsFunc_api_Span_api_Span'
  rw [slices_IndexFunc_api_Span_api_Span_is l f p hl hf]
  simp only [Option.bind_some]
  cases hi : l.findIdx? p with
  | none =>
    rw [List.findIdx?_eq_none_iff] at hi
    have : l.any p = false := by
      rw [List.any_eq_false]
      intro x hx
      rw [hi x hx]; simp
    rw [this]; rfl
  | some i =>
    obtain ⟨h1, h2, _⟩ := List.findIdx?_eq_some_iff_getElem.1 hi
    have : l.any p = true := List.any_eq_true.2 ⟨_, List.getElem_mem h1, h2⟩
    rw [this]
    simp only
    rw [decide_eq_true (by omega : (i : Int) ≥ 0)]
theorem formB_of {l : List Sp} (hn : l.length ≤ 64) (hm : ∀ s ∈ l, mayS s = true) (hg : l.Pairwise Ah) : formB l = true := by
  simp only [formB, Bool.and_eq_true, decide_eq_true_eq]
  refine ⟨by omega, allB_iff.2 fun i hi => ?_⟩
  simp only [okF, Bool.and_eq_true, Bool.or_eq_true, decide_eq_true_eq]
  rw [getD_lt hi]
  refine ⟨hm _ (List.getElem_mem hi), ?_⟩
  by_cases h0 : i = 0
  · exact .inl h0
  · rw [getD_lt (by omega : i - 1 < l.length)]
    exact .inr (ahB_iff.2 (List.pairwise_iff_getElem.1 hg (i - 1) i (by omega) hi (by omega)))
theorem formB_may {l : List Sp} (h : formB l = true) : ∀ s ∈ l, mayS s = true := by
  intro s hs
  obtain ⟨i, hi, rfl⟩ := List.getElem_of_mem hs
  simp only [formB, Bool.and_eq_true] at h
  have := allB_iff.1 h.2 i hi
  simp only [okF, Bool.and_eq_true] at this
  rw [getD_lt hi] at this
  exact this.1
theorem In_eq {l : List Sp} (hl : l.length ≤ 1048576) (k : Str) : span_In' l k = some (formB l && (decide ((k.length : Int) ≤ 64) && inL l k)) := by
  unfold span_In'
  rw [Form_eq hl]
  simp only [Option.bind_some]
  cases hf : formB l with
  | false => rfl
  | true =>
    simp only [cond_true, Bool.true_and]
    rw [slices_ContainsFunc_api_Span_api_Span_is l (fun y2 => ((span_In_1' y2 k).bind fun z => some z)) (fun x => mayS x && (decide ((k.length : Int) ≤ 64) && has x k)) (by omega) (fun x => by
      try dsimp only
      unfold span_In_1'
      rw [Has_eq]; rfl)]
    simp only [Option.bind_some]
    congr 1
    cases decide ((k.length : Int) ≤ 64) with
    | false => simp
    | true =>
      simp only [Bool.true_and]
      unfold inL
      rw [Bool.eq_iff_iff, List.any_eq_true, List.any_eq_true]
      constructor
      · rintro ⟨x, hx, h⟩
        simp only [Bool.and_eq_true] at h
        exact ⟨x, hx, h.2⟩
      · rintro ⟨x, hx, h⟩
        exact ⟨x, hx, by rw [formB_may hf x hx, h]; rfl⟩
/-- Ends that are not too long. -/
def Short (s : Sp) : Prop := s.1.length ≤ 64 ∧ s.2.length ≤ 64
theorem mayS_iff {s : Sp} : mayS s = true ↔ Short s ∧ ne s := by
  simp only [mayS, Bool.and_eq_true, Bool.or_eq_true, beq_iff_eq, decide_eq_true_eq, Short, ne]
  constructor
  · rintro ⟨a, b, c⟩; exact ⟨⟨by omega, by omega⟩, c⟩
  · rintro ⟨⟨a, b⟩, c⟩; exact ⟨by omega, by omega, c⟩
theorem add_short : ∀ (r : List Sp) (t : AS), Short t.1 → (∀ x ∈ t.2.1 ++ t.2.2, Short x) → (∀ x ∈ r, Short x) → Short (r.foldl addStep t).1 ∧ ∀ x ∈ (r.foldl addStep t).2.1 ++ (r.foldl addStep t).2.2, Short x
  | [], t, h1, h2, _ => ⟨h1, h2⟩
  | x :: r, ⟨s, lo, hi⟩, h1, h2, h3 => by
    rw [List.foldl_cons]
    have hx := h3 x (by simp)
    refine add_short r _ ?_ ?_ (fun y hy => h3 y (by simp [hy]))
    · unfold addStep join
      simp only
      cases ahB x.2 s.1 with
      | true => exact h1
      | false =>
        cases ahB s.2 x.1 with
        | true => exact h1
        | false =>
          refine ⟨?_, ?_⟩
          · show (strMin s.1 x.1).length ≤ 64
            unfold strMin
            cases (strLess s.1 x.1 || s.1 == x.1)
            · exact hx.1
            · exact h1.1
          · show (maxE s.2 x.2).length ≤ 64
            unfold maxE
            cases beB s.2 x.2
            · exact h1.2
            · exact hx.2
    · intro y hy
      unfold addStep at hy
      simp only at hy h2
      cases h4 : ahB x.2 s.1 with
      | true =>
        rw [h4] at hy
        simp only [cond_true, List.mem_append, List.mem_singleton] at hy
        rcases hy with (hy | rfl) | hy
        · exact h2 y (by simp [hy])
        · exact hx
        · exact h2 y (by simp [hy])
      | false =>
        rw [h4] at hy
        cases h5 : ahB s.2 x.1 with
        | true =>
          rw [h5] at hy
          simp only [cond_true, cond_false, List.mem_append, List.mem_singleton] at hy
          rcases hy with hy | hy | rfl
          · exact h2 y (by simp [hy])
          · exact h2 y (by simp [hy])
          · exact hx
        | false =>
          rw [h5] at hy
          simp only [cond_false] at hy
          exact h2 y hy
theorem addF_form {l : List Sp} {s : Sp} (hl : formB l = true) (hs : mayS s = true) (hn : (addF l s).length ≤ 64) : formB (addF l s) = true := by
  obtain ⟨c, _⟩ := addF_ok hl hs
  refine formB_of hn (fun x hx => mayS_iff.2 ⟨?_, c.ne x hx⟩) c.gap
  obtain ⟨h1, h2⟩ := add_short l (s, [], []) (mayS_iff.1 hs).1 (by simp) (fun x hx => (mayS_iff.1 (formB_may hl x hx)).1)
  unfold addF at hx
  simp only [List.mem_append, List.mem_cons] at hx
  rcases hx with hx | rfl | hx
  · exact h2 x (by simp [hx])
  · exact h1
  · exact h2 x (by simp [hx])
theorem parts_short {s x : Sp} (hs : Short s) (hx : Short x) : ∀ w ∈ partsOf s x, Short w := by
  intro w hw
  unfold partsOf at hw
  rcases List.mem_append.1 hw with hw | hw
  · cases h1 : strLess x.1 s.1 with
    | false => rw [h1] at hw; simp at hw
    | true =>
      rw [h1] at hw
      simp only [cond_true, List.mem_singleton] at hw
      subst hw
      refine ⟨hx.1, ?_⟩
      show (leastB x.2 s.1).length ≤ 64
      unfold leastB
      cases beB x.2 s.1
      · exact hs.1
      · exact hx.2
  · cases h1 : beB s.2 x.2 with
    | false => rw [h1] at hw; simp at hw
    | true =>
      rw [h1] at hw
      simp only [cond_true, List.mem_singleton] at hw
      subst hw
      refine ⟨?_, hx.2⟩
      show (strMax s.2 x.1).length ≤ 64
      unfold strMax
      cases strLess s.2 x.1
      · exact hs.2
      · exact hx.1
theorem lessF_form {l : List Sp} {s : Sp} (hl : formB l = true) (hs : mayS s = true) (hn : (lessF l s).length ≤ 64) : formB (lessF l s) = true := by
  obtain ⟨c, _, _⟩ := lessF_ok (mayS_ne hs) (formB_canon hl)
  refine formB_of hn (fun x hx => mayS_iff.2 ⟨?_, c.ne x hx⟩) c.gap
  obtain ⟨y, hy, hxy⟩ := List.mem_flatMap.1 hx
  exact parts_short (mayS_iff.1 hs).1 (mayS_iff.1 (formB_may hl y hy)).1 x hxy
/-! Covers. -/
def coverB (l : List Sp) (s : Sp) : Bool := l.any fun x => leS x.1 s.1 && !beB x.2 s.2
theorem Covers_eq {l : List Sp} (hl : l.length ≤ 1048576) (s : Sp) : span_Covers' l s = some (formB l && (mayS s && coverB l s)) := by
  unfold span_Covers'
  rw [Form_eq hl, may_eq]
  simp only [Option.bind_some]
  cases formB l with
  | false => rfl
  | true =>
    cases mayS s with
    | false => rfl
    | true =>
      simp only [cond_true, Bool.true_and]
      rw [slices_ContainsFunc_api_Span_api_Span_is l (fun y3 => ((span_Covers_1' y3 s).bind fun z => some z)) (fun x => leS x.1 s.1 && !beB x.2 s.2) (by omega) (fun x => by
        try dsimp only
        unfold span_Covers_1'
        rw [below_eq]
        have e : (strLess x.1 s.1 || x.1 == s.1) = leS x.1 s.1 := rfl
        rw [e]
        cases leS x.1 s.1 <;> rfl)]
      rfl
theorem end_mem {l : List Sp} (h : Canon l) {x : Sp} (hx : x ∈ l) (h2 : x.2 ≠ []) : inL l x.2 = false := by
  cases hc : inL l x.2 with
  | false => rfl
  | true =>
    obtain ⟨y, hy, hh⟩ := inL_iff.1 hc
    obtain ⟨h3, h4⟩ := has_E.1 hh
    obtain ⟨i, hi, rfl⟩ := List.getElem_of_mem hx
    obtain ⟨j, hj, rfl⟩ := List.getElem_of_mem hy
    have hg := List.pairwise_iff_getElem.1 h.gap
    rcases Nat.lt_trichotomy i j with hij | hij | hij
    · have := (hg i j hi hj hij).2
      rw [leS_iff'] at h3
      rw [h3] at this; cases this
    · subst hij
      have := h4.resolve_left h2
      rw [strLess_irrefl] at this; cases this
    · have h5 := hg j i hj hi hij
      have h6 := h4.resolve_left h5.1
      have h7 := (h.ne _ (List.getElem_mem hi)).resolve_left h2
      have h8 := strLess_trans h5.2 (strLess_trans h7 h6)
      rw [strLess_irrefl] at h8; cases h8
theorem cover_iff {l : List Sp} {s : Sp} (hl : Canon l) (hs : ne s) : coverB l s = true ↔ ∀ k, has s k = true → inL l k = true := by
  unfold coverB
  rw [List.any_eq_true]
  constructor
  · rintro ⟨x, hx, h⟩ k hk
    simp only [Bool.and_eq_true, Bool.not_eq_true'] at h
    obtain ⟨h1, h2⟩ := has_E.1 hk
    refine inL_iff.2 ⟨x, hx, has_E.2 ⟨leS_trans h.1 h1, ?_⟩⟩
    by_cases hx2 : x.2 = []
    · exact .inl hx2
    · right
      have h3 := h.2
      unfold beB at h3
      rw [show (x.2 == ([] : Str)) = false from by rw [beq_eq_false_iff_ne]; exact hx2, Bool.not_false, Bool.true_and, Bool.or_eq_false_iff] at h3
      have hs2 : s.2 ≠ [] := by intro e; rw [e] at h3; simp at h3
      exact less_of_less_le (h2.resolve_left hs2) (leS_iff'.2 h3.2)
  · intro h
    obtain ⟨x, hx, hh⟩ := inL_iff.1 (h s.1 (has_from hs))
    obtain ⟨h1, h2⟩ := has_E.1 hh
    refine ⟨x, hx, ?_⟩
    rw [h1, Bool.true_and]
    cases hb : beB x.2 s.2 with
    | false => rfl
    | true =>
      obtain ⟨h3, h4⟩ := beB_iff.1 hb
      have h5 := h x.2 (has_E.2 ⟨leS_of_less (h2.resolve_left h3), h4⟩)
      rw [end_mem hl hx h3] at h5; cases h5
def leftStep (left : List Sp) (x : Sp) : List Sp := left.flatMap fun y => pieceOf [y] x 1
theorem left_ok : ∀ (l left : List Sp), (∀ y ∈ left, ne y) → (∀ y ∈ l.foldl leftStep left, ne y) ∧ ∀ k, inL (l.foldl leftStep left) k = (inL left k && !inL l k)
  | [], left, h => ⟨h, fun k => by simp [inL]⟩
  | x :: l, left, h => by
    have h1 : ∀ y ∈ leftStep left x, ne y := by
      intro y hy
      obtain ⟨z, hz, hyz⟩ := List.mem_flatMap.1 hy
      exact (pieceOf_ok [z] x 1).1.ne y hyz
    have h2 : ∀ k, inL (leftStep left x) k = (inL left k && !has x k) := by
      intro k
      have : ∀ (a : List Sp), inL (a.flatMap fun y => pieceOf [y] x 1) k = (inL a k && !has x k) := by
        intro a
        induction a with
        | nil => rfl
        | cons z a ih =>
          have : inL [z] k = has z k := by simp [inL]
          rw [List.flatMap_cons, inL_append, ih, (pieceOf_ok [z] x 1).2, this, inL_cons z a]
          show ((has z k && !has x k) || (inL a k && !has x k)) = _
          cases has z k <;> cases inL a k <;> cases has x k <;> rfl
      exact this left
    obtain ⟨a, b⟩ := left_ok l (leftStep left x) h1
    rw [List.foldl_cons]
    refine ⟨a, fun k => ?_⟩
    rw [b, h2, inL_cons]
    cases inL left k <;> cases has x k <;> cases inL l k <;> rfl
theorem left_empty {l : List Sp} {s : Sp} (hs : ne s) : (l.foldl leftStep [s] = []) ↔ ∀ k, has s k = true → inL l k = true := by
  obtain ⟨a, b⟩ := left_ok l [s] (by simpa using hs)
  constructor
  · intro h k hk
    have := b k
    rw [h] at this
    have e : inL [s] k = has s k := by simp [inL]
    rw [e, hk] at this
    cases hc : inL l k with
    | true => rfl
    | false => rw [hc] at this; cases this
  · intro h
    cases hc : l.foldl leftStep [s] with
    | nil => rfl
    | cons y r =>
      exfalso
      have h1 := a y (by rw [hc]; simp)
      have h2 := b y.1
      rw [hc, inL_cons, has_from h1, Bool.true_or] at h2
      have e : inL [s] y.1 = has s y.1 := by simp [inL]
      rw [e] at h2
      cases h3 : has s y.1 with
      | false => rw [h3] at h2; cases h2
      | true => rw [h3, h y.1 h3] at h2; cases h2
theorem piece_parts {x y : Sp} (hx : ne x) (hy : ne y) : pieceOf [y] x 1 = partsOf x y := by
  obtain ⟨a, b⟩ := pieceOf_ok [y] x 1
  obtain ⟨c, d, _⟩ := parts_ok hx hy
  refine canon_ext a c fun k => ?_
  have : inL [y] k = has y k := by simp [inL]
  rw [b, d, this]; rfl
theorem leftStep_less {x : Sp} (hx : ne x) : ∀ {left : List Sp}, (∀ y ∈ left, ne y) → leftStep left x = lessF left x
  | [], _ => rfl
  | y :: r, h => by
    have ih := leftStep_less hx (left := r) (fun z hz => h z (by simp [hz]))
    unfold leftStep lessF at ih ⊢
    rw [List.flatMap_cons, List.flatMap_cons, ih, piece_parts hx (h y (by simp))]
theorem less_one {s : Sp} : ∀ (l : List Sp), (∀ y ∈ l, strLess y.1 s.1 = false) → (lessF l s).length ≤ l.length
  | [], _ => by simp [lessF]
  | y :: l, h => by
    have ih := less_one l (fun z hz => h z (by simp [hz]))
    unfold lessF at ih ⊢
    have hp : (partsOf s y).length ≤ 1 := by
      unfold partsOf
      rw [h y (by simp)]
      cases beB s.2 y.2 <;> simp
    rw [List.flatMap_cons, List.length_append, List.length_cons]
    omega
theorem less_len1 {s : Sp} (hs : ne s) : ∀ {l : List Sp}, Canon l → (lessF l s).length ≤ l.length + 1
  | [], _ => by simp [lessF]
  | x :: l, h => by
    have ih := less_len1 hs h.tail
    have e : lessF (x :: l) s = partsOf s x ++ lessF l s := by simp [lessF]
    rw [e, List.length_append, List.length_cons]
    cases h1 : strLess x.1 s.1 with
    | false =>
      have hp : (partsOf s x).length ≤ 1 := by
        unfold partsOf
        rw [h1]
        cases beB s.2 x.2 <;> simp
      omega
    | true =>
      cases h2 : beB s.2 x.2 with
      | false =>
        have hp : (partsOf s x).length ≤ 1 := by
          unfold partsOf
          rw [h1, h2]; simp
        omega
      | true =>
        have hp := parts_len s x
        obtain ⟨h3, h4⟩ := beB_iff.1 h2
        have h5 := less_one (s := s) l (fun y hy => by
          have hA := h.head y hy
          have h6 := h4.resolve_left hA.1
          have h7 := strLess_trans (hs.resolve_left h3) (strLess_trans h6 hA.2)
          exact strLess_asymm h7)
        omega
theorem lefts {l : List Sp} (hl : ∀ x ∈ l, ne x) : ∀ (left : List Sp), Canon left → Canon (l.foldl leftStep left) ∧ (l.foldl leftStep left).length ≤ left.length + l.length := by
  induction l with
  | nil => intro left h; exact ⟨h, by simp⟩
  | cons x l ih =>
    intro left h
    have hx := hl x (by simp)
    rw [List.foldl_cons, leftStep_less hx h.ne]
    obtain ⟨c, _, _⟩ := lessF_ok hx h
    have h1 := less_len1 hx h
    obtain ⟨a, b⟩ := ih (fun y hy => hl y (by simp [hy])) _ c
    refine ⟨a, ?_⟩
    simp only [List.length_cons]; omega
theorem covers_inner (l : List Sp) (i : Nat) (hi : i < l.length) (left : List Sp) (hle : left.length ≤ 1000) (hx : ne l[i]) (hne : ∀ y ∈ left, ne y) : law10_covers_p23' l (i : Int) 0 left [] = some (l, (i : Int), leftStep left l[i]) := by
  have f2 : ∀ (r : List Sp) (o : List Sp), r.foldl (fun o y => o ++ pieceOf [y] l[i] 1) o = o ++ r.flatMap (fun y => pieceOf [y] l[i] 1) := by
    intro r
    induction r with
    | nil => intro o; simp
    | cons x r ih => intro o; rw [List.foldl_cons, ih, List.flatMap_cons, List.append_assoc]
  have hsz : ∀ (r : List Sp), (∀ y ∈ r, ne y) → (r.flatMap (fun y => pieceOf [y] l[i] 1)).length ≤ 2 * r.length := by
    intro r
    induction r with
    | nil => intro _; simp
    | cons x r ih =>
      intro h
      have h1 := ih (fun y hy => h y (by simp [hy]))
      have h2 := parts_len l[i] x
      rw [List.flatMap_cons, List.length_append, List.length_cons, piece_parts hx (h x (by simp))]
      omega
  have key0 := fold_loop left (fun o y => o ++ pieceOf [y] l[i] 1) [] (fun j o => law10_covers_p23' l (i : Int) (j : Int) left o) (out := fun o => some (l, (i : Int), o)) (fun j hj => by
    try dsimp only
    have h1 := hsz (left.take j) (fun y hy => hne y (List.mem_of_mem_take hy))
    rw [f2, List.nil_append]
    generalize (left.take j).flatMap (fun y => pieceOf [y] l[i] 1) = o at *
    simp only [List.length_take] at h1
    have h2 := parts_len l[i] left[j]
    rw [law10_covers_p23_eq, decide_eq_true (by omega : (j : Int) < (left.length : Int)), decide_eq_true (by omega : (0 : Int) ≤ (j : Int)), wrap_succ (by omega)]
    simp only [Bool.and_self, cond_true, Int.toNat_natCast, List.getElem?_eq_getElem hj, Option.bind_some, at?_lt hi]
    rw [Piece_eq (by simp)]
    simp only [Option.bind_some]
    rw [room_of (by rw [List.length_append, piece_parts hx (hne _ (List.getElem_mem hj))]; omega)]
    rfl) (by
    try dsimp only
    rw [law10_covers_p23_eq, decide_eq_false (by omega : ¬ (left.length : Int) < (left.length : Int))]; rfl)
  simp only [show ((0 : Nat) : Int) = 0 from rfl, f2, List.nil_append] at key0
  exact key0
theorem covers_eq {l : List Sp} (hl : l.length ≤ 64) (hne : ∀ x ∈ l, ne x) {s : Sp} (hs : ne s) : law10_covers' l s = some (((l.foldl leftStep [s]).length : Int) == 0) := by
  have hc0 : Canon [s] := ⟨by simpa using hs, by simp⟩
  have key0 := fold_loop l leftStep [s] (fun i left => law10_covers_p8' l (i : Int) left) (out := fun o => some o) (fun i hi => by
    try dsimp only
    obtain ⟨c, d⟩ := lefts (l := l.take i) (fun x hx => hne x (List.mem_of_mem_take hx)) [s] hc0
    generalize (l.take i).foldl leftStep [s] = left at *
    simp only [List.length_take, List.length_singleton] at d
    rw [law10_covers_p8_eq, decide_eq_true (by omega : (i : Int) < (l.length : Int)), covers_inner l i hi left (by omega) (hne _ (List.getElem_mem hi)) c.ne]
    simp only [cond_true, Option.bind_some]
    rw [wrap_succ (by omega)]) (by
    try dsimp only
    rw [law10_covers_p8_eq, decide_eq_false (by omega : ¬ (l.length : Int) < (l.length : Int))]; rfl)
  unfold law10_covers'
  simp only [show ((0 : Nat) : Int) = 0 from rfl] at key0
  rw [key0]
  rfl
theorem covers_cover {l : List Sp} (hl : formB l = true) {s : Sp} (hs : mayS s = true) : law10_covers' l s = some (coverB l s) := by
  rw [covers_eq (formB_len hl) (fun x hx => mayS_ne (formB_may hl x hx)) (mayS_ne hs)]
  congr 1
  have h1 := left_empty (l := l) (mayS_ne hs)
  have h2 := cover_iff (formB_canon hl) (mayS_ne hs)
  cases hc : coverB l s with
  | true =>
    rw [h1.2 (h2.1 hc)]; rfl
  | false =>
    cases he : l.foldl leftStep [s] with
    | nil => rw [h2.2 (h1.1 he)] at hc; cases hc
    | cons y r => simp; omega
theorem law_SpanKeys (l : List Sp) (s : Sp) (key : Str) (hl : l.length ≤ 1048575) (hr : ∀ x ∈ l, x.1.length ≤ 1048576 ∧ x.2.length ≤ 1048576) (hs : s.1.length ≤ 1048576 ∧ s.2.length ≤ 1048576) : ∃ k, law10_SpanKeys k l s key = some true := by
  refine (law10_SpanKeys_lm l s key).fin ?_
  unfold law10_SpanKeys' law10_SpanKeys_p3'
  obtain ⟨b, hb⟩ := light_some s (by omega) hr hs
  rw [show ((s.1, s.2) : Sp) = s from rfl, hb, awake_eq, refForm_eq (by omega), refMay_eq]
  have other : ∀ u : Bool, (((some (formB l && (decide ((key.length : Int) ≤ 64) && inL l key))).bind fun r5 => ((some (formB l)).bind fun r6 => (bif r6 then (bif (decide ((key.length : Int) ≤ 64)) then ((some (inL l key)).bind fun r7 => (bif ((!r5) == (!r7)) then ((some true).bind fun r8 => some r8) else some false)) else (bif ((!r5) == true) then ((some true).bind fun r9 => some r9) else some false)) else (bif ((!r5) == true) then ((some true).bind fun r10 => some r10) else some false))))) = some true := by
    intro _
    simp only [Option.bind_some]
    cases formB l <;> cases decide ((key.length : Int) ≤ 64) <;> cases inL l key <;> rfl
  simp only [Option.bind_some]
  have oth := other true
  simp only [Option.bind_some] at oth
  have oth0 := oth
  cases b with
  | false => simp only [Bool.not_false, cond_true, Option.bind_some, In_eq (by omega : l.length ≤ 1048576), refForm_eq (by omega : l.length ≤ 1048576), refIn_eq (by omega : l.length ≤ 1048576)]; exact oth
  | true =>
    simp only [Bool.not_true, cond_false]
    cases hf : formB l with
    | false => rw [hf] at oth; simp only [Bool.not_false, cond_true, Option.bind_some, In_eq (by omega : l.length ≤ 1048576), refForm_eq (by omega : l.length ≤ 1048576), refIn_eq (by omega : l.length ≤ 1048576), hf]; exact oth
    | true =>
      simp only [Bool.not_true, cond_false]
      cases hm : mayS s with
      | false => rw [hf] at oth; simp only [Bool.not_false, cond_true, Option.bind_some, In_eq (by omega : l.length ≤ 1048576), refForm_eq (by omega : l.length ≤ 1048576), refIn_eq (by omega : l.length ≤ 1048576), hf]; exact oth
      | true =>
        simp only [Bool.not_true, cond_false, Option.bind_some]
        rw [gt64]
        cases hk : decide ((key.length : Int) ≤ 64) with
        | false => rw [hf, hk] at oth; simp only [Bool.not_false, cond_true, Option.bind_some, In_eq (by omega : l.length ≤ 1048576), refForm_eq (by omega : l.length ≤ 1048576), refIn_eq (by omega : l.length ≤ 1048576), hf, hk]; exact oth
        | true =>
          have hcov := covers_cover hf hm
          obtain ⟨ca, ma⟩ := addF_ok hf hm
          obtain ⟨cl, ml, _⟩ := lessF_ok (mayS_ne hm) (formB_canon hf)
          have hA : ∀ k : Str, (toldB (addF l s)).2 = 0 → formB (toldB (addF l s)).1 = true ∧ (toldB (addF l s)).1 = addF l s := by
            intro _ h
            unfold toldB at h ⊢
            cases hc : decide (((addF l s).length : Int) > 64) with
            | true => rw [hc] at h; cases h
            | false =>
              simp only [decide_eq_false_iff_not] at hc
              exact ⟨addF_form hf hm (by omega), rfl⟩
          have hL : ∀ k : Str, (toldB (lessF l s)).2 = 0 → formB (toldB (lessF l s)).1 = true ∧ (toldB (lessF l s)).1 = lessF l s := by
            intro _ h
            unfold toldB at h ⊢
            cases hc : decide (((lessF l s).length : Int) > 64) with
            | true => rw [hc] at h; cases h
            | false =>
              simp only [decide_eq_false_iff_not] at hc
              exact ⟨lessF_form hf hm (by omega), rfl⟩
          have hlenA : (toldB (addF l s)).1.length ≤ 1048576 := by
            unfold toldB
            cases hc : decide (((addF l s).length : Int) > 64) with
            | true => simp
            | false => simp only [decide_eq_false_iff_not] at hc; simp only [cond_false]; omega
          have hlenL : (toldB (lessF l s)).1.length ≤ 1048576 := by
            unfold toldB
            cases hc : decide (((lessF l s).length : Int) > 64) with
            | true => simp
            | false => simp only [decide_eq_false_iff_not] at hc; simp only [cond_false]; omega
          simp only [Bool.not_true, cond_false, Option.bind_some]
          rw [refIn_eq (by omega), refHas_eq, Add_eq (by omega), Less_eq (by omega), hf, hm]
          simp only [Bool.and_self, Bool.not_true, cond_false, Option.bind_some]
          have hp17 : law10_SpanKeys_p17' l key (inL l key) (has s key) (toldB (addF l s)).1 (toldB (addF l s)).2 (toldB (lessF l s)).1 (toldB (lessF l s)).2 (s.1, s.2) = some (l, false, s) := by
            unfold law10_SpanKeys_p17'
            simp only [In_eq (by omega : l.length ≤ 1048576), In_eq hlenA, In_eq hlenL, Covers_eq hlenA, hf, hk, Bool.true_and, Option.bind_some, beq_self_eq_true, Bool.not_true, cond_false]
            have less : ∀ r : Bool, ((toldB (lessF l s)).2 == 0) = true → (formB (toldB (lessF l s)).1 && inL (toldB (lessF l s)).1 key) = (inL l key && !has s key) := by
              intro _ h
              obtain ⟨h1, h2⟩ := hL key (by simpa using h)
              rw [h1, h2, Bool.true_and, ml]
            have cov : ((toldB (addF l s)).2 == 0) = true → (formB (toldB (addF l s)).1 && (mayS s && coverB (toldB (addF l s)).1 s)) = true ∧ (formB (toldB (addF l s)).1 && inL (toldB (addF l s)).1 key) = (inL l key || has s key) := by
              intro h
              obtain ⟨h1, h2⟩ := hA key (by simpa using h)
              rw [h1, h2, hm, Bool.true_and, Bool.true_and, Bool.true_and, ma]
              exact ⟨(cover_iff ca (mayS_ne hm)).2 (fun k hk2 => by rw [ma, hk2]; simp), rfl⟩
            cases h0 : ((toldB (addF l s)).2 == 0) with
            | true =>
              obtain ⟨q1, q2⟩ := cov h0
              simp only [cond_true, show ((s.1, s.2) : Sp) = s from rfl, q1, q2]
              cases h3 : ((toldB (lessF l s)).2 == 0) with
              | true =>
                have q3 := less true h3
                simp only [cond_true, q3]
                cases inL l key <;> cases has s key <;> rfl
              | false => cases inL l key <;> cases has s key <;> rfl
            | false =>
              simp only [cond_false]
              cases h3 : ((toldB (lessF l s)).2 == 0) with
              | true =>
                have q3 := less true h3
                simp only [cond_true, q3]
                cases inL l key <;> cases has s key <;> rfl
              | false => rfl
          rw [hp17]
          simp only [Option.bind_some, cond_false]
          rw [Covers_eq (by omega), hcov, hf, hm]
          simp
end Go.Proofs.Ytlgfmkccnljhoaa.gg
