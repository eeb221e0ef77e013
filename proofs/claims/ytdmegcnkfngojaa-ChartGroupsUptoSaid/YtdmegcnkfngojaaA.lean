/- Spans and charts: what they are. -/
import Derived.Test.YtdmegcnkfngojaaK6
import Derived.Test.YtdmegcnkfngojaaM
open Go Go.GG
set_option linter.unusedVariables false
namespace Go.Proofs.Ytdmegcnkfngojaa.gg
abbrev Sp := Str × Str
abbrev Rg := Sp × Int × Int
abbrev rg0 : Rg := (([], []), 0, 0)
def spMay (s : Sp) : Bool := decide ((s.1.length : Int) ≤ 64) && (decide ((s.2.length : Int) ≤ 64) && (s.2 == [] || strLess s.1 s.2))
def spHas (s : Sp) (k : Str) : Bool := leS s.1 k && (s.2 == [] || strLess k s.2)
theorem spCheck_eq (s : Sp) : span_Check' s = some (cond (spMay s) 0 1) := by
  unfold span_Check' spMay
  have h := not_le s.2 s.1
  unfold leS at h
  by_cases h1 : (s.1.length : Int) ≤ 64
  · by_cases h2 : (s.2.length : Int) ≤ 64
    · rw [decide_eq_false (by omega : ¬ (s.1.length : Int) > 64), decide_eq_false (by omega : ¬ (s.2.length : Int) > 64), decide_eq_true h1, decide_eq_true h2, ← h]
      cases (s.2 == []) <;> cases (strLess s.2 s.1 || s.2 == s.1) <;> rfl
    · rw [decide_eq_false (by omega : ¬ (s.1.length : Int) > 64), decide_eq_true (by omega : (s.2.length : Int) > 64), decide_eq_false h2]
      simp
  · rw [decide_eq_true (by omega : (s.1.length : Int) > 64), decide_eq_false h1]; rfl
theorem ref10May_eq (s : Sp) : ref10_May' s = some (spMay s) := by
  unfold ref10_May' spMay
  cases decide ((s.1.length : Int) ≤ 64) <;> cases decide ((s.2.length : Int) ≤ 64) <;> cases (s.2 == []) <;> simp
theorem spmay_eq (s : Sp) : span_may' s = some (spMay s) := by
  unfold span_may'
  rw [spCheck_eq]
  cases spMay s <;> rfl
theorem spHas_eq (s : Sp) (k : Str) : span_Has' s k = some (spMay s && (decide ((k.length : Int) ≤ 64) && spHas s k)) := by
  unfold span_Has' spHas
  rw [spmay_eq, not_less]
  cases spMay s <;> cases decide ((k.length : Int) ≤ 64) <;> cases leS s.1 k <;> cases (s.2 == []) <;> simp
theorem ref10Has_eq (s : Sp) (k : Str) : ref10_Has' s k = some (spHas s k) := by
  unfold ref10_Has' spHas leS
  cases (strLess s.1 k || s.1 == k) <;> cases (s.2 == []) <;> simp
def grp (n : Int) : Bool := decide (n ≥ 1) && decide (n ≤ 16)
theorem group_eq (n : Int) : chart_group' n = some (grp n) := by
  unfold chart_group' grp
  cases decide (n ≥ 1) <;> simp
def okR (l : List Rg) (i : Nat) : Bool :=
  spMay (nth l i rg0).1 && (grp (nth l i rg0).2.1 && (decide ((nth l i rg0).2.2 ≥ 1) && (decide ((nth l i rg0).2.2 ≤ 4611686018427387904) &&
    (decide (i = 0) || ((nth l (i - 1) rg0).1.2 == (nth l i rg0).1.1 && !((nth l i rg0).1.1 == []))))))
def chMay (l : List Rg) : Bool :=
  decide ((l.length : Int) ≥ 1) && (decide ((l.length : Int) ≤ 64) && ((nth l 0 rg0).1.1 == [] && ((nth l (l.length - 1) rg0).1.2 == [] && allB l.length (okR l))))
theorem chCheck_loop {l : List Rg} (hl : l.length ≤ 64) : chart_Check_p14' l l (l.length : Int) 0 = some (bif allB l.length (okR l) then .inl () else .inr 1) := by
  have key := check_loop l.length (fun i => chart_Check_p14' l l (l.length : Int) (i : Int)) (okR l) (a := some (.inl ())) (b := some (.inr 1)) (fun i hi => by
    try dsimp only
    rw [chart_Check_p14_eq, decide_eq_true (by omega : (i : Int) < (l.length : Int)), at?_getD hi rg0, wrap_succ (by omega)]
    simp only [cond_true, Option.bind_some, spCheck_eq, group_eq, okR]
    cases spMay (nth l i rg0).1 with
    | false => rfl
    | true =>
      cases grp (nth l i rg0).2.1 with
      | false => rfl
      | true =>
        by_cases h1 : (nth l i rg0).2.2 ≥ 1
        · by_cases h2 : (nth l i rg0).2.2 ≤ 4611686018427387904
          · rw [decide_eq_false (by omega : ¬ (nth l i rg0).2.2 < 1), decide_eq_false (by omega : ¬ (nth l i rg0).2.2 > 4611686018427387904), decide_eq_true h1, decide_eq_true h2]
            by_cases h0 : i = 0
            · subst h0; rfl
            · rw [wrap_pred (by omega) (by omega), at?_getD (by omega : i - 1 < l.length) rg0, decide_eq_true (by omega : (i : Int) > 0), decide_eq_false h0]
              simp only [cond_true, Bool.not_true, cond_false, Option.bind_some, bne_self_eq_false]
              cases ((nth l (i - 1) rg0).1.2 == (nth l i rg0).1.1) <;> cases ((nth l i rg0).1.1 == []) <;> rfl
          · rw [decide_eq_false (by omega : ¬ (nth l i rg0).2.2 < 1), decide_eq_true (by omega : (nth l i rg0).2.2 > 4611686018427387904), decide_eq_true h1, decide_eq_false h2]; rfl
        · rw [decide_eq_true (by omega : (nth l i rg0).2.2 < 1), decide_eq_false h1]; rfl) (by
    try dsimp only
    rw [chart_Check_p14_eq, decide_eq_false (by omega : ¬ (l.length : Int) < (l.length : Int))]; rfl)
  simp only [show ((0 : Nat) : Int) = 0 from rfl] at key
  rw [key]
  cases allB l.length (okR l) <;> rfl
theorem at0 {l : List Rg} (h : 0 < l.length) : at? l 0 = some (nth l 0 rg0) := at?_getD (i := 0) h rg0
theorem atlast {l : List Rg} (h : 0 < l.length) (hl : l.length ≤ 1048576) : at? l (IntKind.wrap .i64 ((l.length : Int) - 1)) = some (nth l (l.length - 1) rg0) := by
  rw [wrap_pred (by omega) h]; exact at?_getD (l := l) (i := l.length - 1) (Nat.sub_lt h Nat.one_pos) rg0
theorem chCheck_eq {l : List Rg} (hl : l.length ≤ 1048576) : chart_Check' l = some (cond (chMay l) 0 1) := by
  unfold chart_Check' chMay
  by_cases h0 : l.length = 0
  · have : ((l.length : Int) == 0) = true := by simp [h0]
    rw [this, decide_eq_false (by omega : ¬ (l.length : Int) ≥ 1)]; rfl
  · have : ((l.length : Int) == 0) = false := by rw [beq_eq_false_iff_ne]; omega
    rw [this, decide_eq_true (by omega : (l.length : Int) ≥ 1)]
    by_cases h1 : (l.length : Int) > 64
    · rw [decide_eq_true h1, decide_eq_false (by omega : ¬ (l.length : Int) ≤ 64)]; rfl
    · rw [decide_eq_false h1, decide_eq_true (by omega : (l.length : Int) ≤ 64), at0 (by omega), atlast (by omega) hl]
      simp only [cond_false, Option.bind_some, Bool.true_and]
      cases ((nth l 0 rg0).1.1 == []) with
      | false => rfl
      | true =>
        cases ((nth l (l.length - 1) rg0).1.2 == []) with
        | false => rfl
        | true =>
          simp only [Bool.not_true, cond_false, Bool.true_and]
          rw [chCheck_loop (by omega)]
          cases allB l.length (okR l) <;> rfl
theorem refMay_loop {l : List Rg} (hl : l.length ≤ 64) : ref11_May_p14' l 0 = some (bif allB l.length (okR l) then .inl () else .inr false) := by
  have key := check_loop l.length (fun i => ref11_May_p14' l (i : Int)) (okR l) (a := some (.inl ())) (b := some (.inr false)) (fun i hi => by
    try dsimp only
    rw [ref11_May_p14_eq, decide_eq_true (by omega : (i : Int) < (l.length : Int)), at?_getD hi rg0, wrap_succ (by omega)]
    simp only [cond_true, Option.bind_some, ref10May_eq, okR]
    cases spMay (nth l i rg0).1 with
    | false => rfl
    | true =>
      unfold grp
      by_cases g1 : (nth l i rg0).2.1 ≥ 1
      · by_cases g2 : (nth l i rg0).2.1 ≤ 16
        · rw [decide_eq_false (by omega : ¬ (nth l i rg0).2.1 < 1), decide_eq_false (by omega : ¬ (nth l i rg0).2.1 > 16), decide_eq_true g1, decide_eq_true g2]
          by_cases h1 : (nth l i rg0).2.2 ≥ 1
          · by_cases h2 : (nth l i rg0).2.2 ≤ 4611686018427387904
            · rw [decide_eq_false (by omega : ¬ (nth l i rg0).2.2 < 1), decide_eq_false (by omega : ¬ (nth l i rg0).2.2 > 4611686018427387904), decide_eq_true h1, decide_eq_true h2]
              by_cases h0 : i = 0
              · subst h0; rfl
              · have e : ((nth l (i - 1) rg0).1.2 == (nth l i rg0).1.1) = ((nth l i rg0).1.1 == (nth l (i - 1) rg0).1.2) := by
                  rw [Bool.eq_iff_iff]; simp; exact eq_comm
                rw [wrap_pred (by omega) (by omega), at?_getD (by omega : i - 1 < l.length) rg0, decide_eq_true (by omega : (i : Int) > 0), decide_eq_false h0, e]
                simp only [cond_true, Bool.not_true, cond_false, Option.bind_some]
                cases ((nth l i rg0).1.1 == (nth l (i - 1) rg0).1.2) <;> cases ((nth l i rg0).1.1 == []) <;> rfl
            · rw [decide_eq_false (by omega : ¬ (nth l i rg0).2.2 < 1), decide_eq_true (by omega : (nth l i rg0).2.2 > 4611686018427387904), decide_eq_true h1, decide_eq_false h2]; rfl
          · rw [decide_eq_true (by omega : (nth l i rg0).2.2 < 1), decide_eq_false h1]; rfl
        · rw [decide_eq_false (by omega : ¬ (nth l i rg0).2.1 < 1), decide_eq_true (by omega : (nth l i rg0).2.1 > 16), decide_eq_true g1, decide_eq_false g2]; rfl
      · rw [decide_eq_true (by omega : (nth l i rg0).2.1 < 1), decide_eq_false g1]; rfl) (by
    try dsimp only
    rw [ref11_May_p14_eq, decide_eq_false (by omega : ¬ (l.length : Int) < (l.length : Int))]; rfl)
  simp only [show ((0 : Nat) : Int) = 0 from rfl] at key
  rw [key]
  cases allB l.length (okR l) <;> rfl
theorem refMay_eq {l : List Rg} (hl : l.length ≤ 1048576) : ref11_May' l = some (chMay l) := by
  unfold ref11_May' chMay
  by_cases h0 : l.length = 0
  · rw [decide_eq_true (by omega : (l.length : Int) < 1), decide_eq_false (by omega : ¬ (l.length : Int) ≥ 1)]; rfl
  · rw [decide_eq_false (by omega : ¬ (l.length : Int) < 1), decide_eq_true (by omega : (l.length : Int) ≥ 1)]
    by_cases h1 : (l.length : Int) > 64
    · rw [decide_eq_true h1, decide_eq_false (by omega : ¬ (l.length : Int) ≤ 64)]; rfl
    · rw [decide_eq_false h1, decide_eq_true (by omega : (l.length : Int) ≤ 64), at0 (by omega), atlast (by omega) hl]
      simp only [cond_false, Option.bind_some, Bool.true_and]
      cases ((nth l 0 rg0).1.1 == []) with
      | false => rfl
      | true =>
        cases ((nth l (l.length - 1) rg0).1.2 == []) with
        | false => rfl
        | true =>
          simp only [Bool.not_true, cond_false, Bool.true_and]
          rw [refMay_loop (by omega)]
          cases allB l.length (okR l) <;> rfl
structure ChOk (l : List Rg) : Prop where
  len1 : 1 ≤ l.length
  len2 : l.length ≤ 64
  first : (nth l 0 rg0).1.1 = []
  last : (nth l (l.length - 1) rg0).1.2 = []
  each : ∀ i, i < l.length → spMay (nth l i rg0).1 = true ∧ 1 ≤ (nth l i rg0).2.1 ∧ (nth l i rg0).2.1 ≤ 16 ∧ 1 ≤ (nth l i rg0).2.2 ∧ (nth l i rg0).2.2 ≤ 4611686018427387904
  join : ∀ i, i < l.length → 0 < i → (nth l (i - 1) rg0).1.2 = (nth l i rg0).1.1 ∧ (nth l i rg0).1.1 ≠ []
theorem chMay_iff {l : List Rg} : chMay l = true ↔ ChOk l := by
  unfold chMay
  simp only [Bool.and_eq_true, decide_eq_true_eq, beq_iff_eq, allB_iff, okR, grp, Bool.or_eq_true, Bool.not_eq_true', beq_eq_false_iff_ne]
  constructor
  · rintro ⟨h1, h2, h3, h4, h5⟩
    exact ⟨by omega, by omega, h3, h4, fun i hi => ⟨(h5 i hi).1, (h5 i hi).2.1.1, (h5 i hi).2.1.2, (h5 i hi).2.2.1, (h5 i hi).2.2.2.1⟩, fun i hi h0 => by
      rcases (h5 i hi).2.2.2.2 with h | h
      · omega
      · exact h⟩
  · intro h
    refine ⟨by have := h.len1; omega, by have := h.len2; omega, h.first, h.last, fun i hi => ⟨(h.each i hi).1, ⟨(h.each i hi).2.1, (h.each i hi).2.2.1⟩, (h.each i hi).2.2.2.1, (h.each i hi).2.2.2.2, ?_⟩⟩
    by_cases h0 : i = 0
    · exact .inl h0
    · exact .inr (h.join i hi (by omega))
/-- Every key is in a range. -/
theorem covers_all {l : List Rg} (h : ChOk l) (k : Str) : ∃ i, i < l.length ∧ spHas (nth l i rg0).1 k = true := by
  have key : ∀ m i, i + m = l.length - 1 → leS (nth l i rg0).1.1 k = true → ∃ i, i < l.length ∧ spHas (nth l i rg0).1 k = true := by
    intro m
    induction m with
    | zero =>
      intro i hi hle
      have h1 := h.len1
      refine ⟨i, by omega, ?_⟩
      have e : i = l.length - 1 := by omega
      unfold spHas
      rw [hle]
      have : (nth l i rg0).1.2 = [] := by rw [e]; exact h.last
      rw [this]; rfl
    | succ m ih =>
      intro i hi hle
      have h1 := h.len1
      cases hlt : strLess k (nth l i rg0).1.2 with
      | true => exact ⟨i, by omega, by unfold spHas; rw [hle, hlt]; simp⟩
      | false =>
        have hj := (h.join (i + 1) (by omega) (by omega)).1
        rw [Nat.add_sub_cancel] at hj
        exact ih (i + 1) (by omega) (by rw [← hj, leS_iff']; exact hlt)
  exact key (l.length - 1) 0 (by omega) (by rw [h.first]; exact leS_nil k)
/-- Where a key is. -/
def findIx (l : List Rg) (k : Str) : Nat := (firstB l.length (fun i => spHas (nth l i rg0).1 k)).getD 0
theorem findIx_spec {l : List Rg} (h : ChOk l) (k : Str) : firstB l.length (fun i => spHas (nth l i rg0).1 k) = some (findIx l k) ∧ findIx l k < l.length ∧ spHas (nth l (findIx l k) rg0).1 k = true ∧ ∀ j, j < findIx l k → spHas (nth l j rg0).1 k = false := by
  obtain ⟨i, hi, hh⟩ := covers_all h k
  cases hf : firstB l.length (fun i => spHas (nth l i rg0).1 k) with
  | none => have := firstB_none.1 hf i hi; rw [hh] at this; cases this
  | some j =>
    have e : findIx l k = j := by unfold findIx; rw [hf]; rfl
    obtain ⟨a, b, c⟩ := firstB_some.1 hf
    rw [e]; exact ⟨rfl, a, b, c⟩
theorem chFind_eq {l : List Rg} (hl : l.length ≤ 1048576) (k : Str) : chart_Find' l k = some (cond (chMay l && decide ((k.length : Int) ≤ 64)) ((findIx l k : Int), 0) (0, 1)) := by
  unfold chart_Find'
  rw [chCheck_eq hl]
  cases hm : chMay l with
  | false => rfl
  | true =>
    have h := chMay_iff.1 hm
    by_cases hk : (k.length : Int) ≤ 64
    · rw [decide_eq_false (by omega : ¬ (k.length : Int) > 64), decide_eq_true hk]
      have key := find_loop l.length (fun i => slices_IndexFunc_api_Range_api_Range_p6' l (fun y => ((chart_Find_1' y k).bind fun z => some z)) (l.length : Int) (i : Int)) (fun i => spHas (nth l i rg0).1 k) (f := fun i => some (.inr (i : Int))) (a := some (.inl ())) (fun i hi => by
        try dsimp only
        rw [slices_IndexFunc_api_Range_api_Range_p6_eq, decide_eq_true (by omega : (i : Int) < (l.length : Int)), at?_getD hi rg0, wrap_succ (by omega)]
        simp only [cond_true, Option.bind_some, chart_Find_1', spHas_eq, (h.each i hi).1, decide_eq_true hk, Bool.true_and]) (by
        try dsimp only
        rw [slices_IndexFunc_api_Range_api_Range_p6_eq, decide_eq_false (by omega : ¬ (l.length : Int) < (l.length : Int))]; rfl)
      obtain ⟨h1, _⟩ := findIx_spec h k
      rw [h1] at key
      simp only [show ((0 : Nat) : Int) = 0 from rfl] at key
      simp only [cond_true, bne_self_eq_false, cond_false, Option.bind_some, slices_IndexFunc_api_Range_api_Range']
      rw [key]
      rfl
    · rw [decide_eq_true (by omega : (k.length : Int) > 64), decide_eq_false hk]; rfl
theorem refFind_eq {l : List Rg} (hl : l.length ≤ 1048576) (k : Str) : ref11_Find' l k = some (cond (chMay l && decide ((k.length : Int) ≤ 64)) (findIx l k : Int) (-1)) := by
  unfold ref11_Find'
  rw [refMay_eq hl]
  cases hm : chMay l with
  | false => rfl
  | true =>
    have h := chMay_iff.1 hm
    by_cases hk : (k.length : Int) ≤ 64
    · rw [decide_eq_false (by omega : ¬ (k.length : Int) > 64), decide_eq_true hk]
      have key := find_loop l.length (fun i => ref11_Find_p14' l k (i : Int)) (fun i => spHas (nth l i rg0).1 k) (f := fun i => some (.inr (i : Int))) (a := some (.inl ())) (fun i hi => by
        try dsimp only
        rw [ref11_Find_p14_eq, decide_eq_true (by omega : (i : Int) < (l.length : Int)), at?_getD hi rg0, wrap_succ (by omega)]
        simp only [cond_true, Option.bind_some, ref10Has_eq]) (by
        try dsimp only
        rw [ref11_Find_p14_eq, decide_eq_false (by omega : ¬ (l.length : Int) < (l.length : Int))]; rfl)
      obtain ⟨h1, _⟩ := findIx_spec h k
      rw [h1] at key
      simp only [show ((0 : Nat) : Int) = 0 from rfl] at key
      simp only [Option.bind_some, Bool.not_true, cond_false]
      rw [key]
      rfl
    · rw [decide_eq_true (by omega : (k.length : Int) > 64), decide_eq_false hk]; rfl
/-- The greatest epoch. -/
def ver (l : List Rg) : Int := l.foldl (fun n r => intMax n r.2.2) 0
theorem ver_step {l : List Rg} {i : Nat} (h : i < l.length) : (l.take (i + 1)).foldl (fun n r => intMax n r.2.2) 0 = intMax ((l.take i).foldl (fun n r => intMax n r.2.2) 0) (nth l i rg0).2.2 := by
  rw [take_succ' h, List.foldl_append, getD_lt h]; rfl
theorem chVersion_eq {l : List Rg} (hl : l.length ≤ 1048576) : chart_Version' l = some (cond (chMay l) (ver l) 0) := by
  unfold chart_Version'
  rw [chCheck_eq hl]
  cases hm : chMay l with
  | false => rfl
  | true =>
    have key : ∀ (i : Nat) (s : Int), i ≤ l.length → s = (l.take i).foldl (fun n r => intMax n r.2.2) 0 → chart_Version_p16' s l (l.length : Int) (i : Int) = some (ver l) := by
      apply loop_inv l.length (fun i s => chart_Version_p16' s l (l.length : Int) (i : Int)) (fun i s => s = (l.take i).foldl (fun n r => intMax n r.2.2) 0) (fun r => r = some (ver l))
      · rintro i s hi rfl
        refine .inl ⟨_, ?_, rfl⟩
        try dsimp only
        rw [chart_Version_p16_eq, decide_eq_true (by omega : (i : Int) < (l.length : Int)), at?_getD hi rg0, wrap_succ (by omega), ver_step hi]; rfl
      · rintro s rfl
        try dsimp only
        rw [chart_Version_p16_eq, decide_eq_false (by omega : ¬ (l.length : Int) < (l.length : Int)), List.take_length]; rfl
    have := key 0 0 (by omega) rfl
    simp only [show ((0 : Nat) : Int) = 0 from rfl] at this
    simp only [cond_true, Option.bind_some, bne_self_eq_false, cond_false, this]
theorem ver_le {l : List Rg} (h : ChOk l) : 0 ≤ ver l ∧ ver l ≤ 4611686018427387904 := by
  have key : ∀ i, i ≤ l.length → 0 ≤ (l.take i).foldl (fun n r => intMax n r.2.2) 0 ∧ (l.take i).foldl (fun n r => intMax n r.2.2) 0 ≤ 4611686018427387904 := by
    intro i
    induction i with
    | zero => intro _; simp
    | succ i ih =>
      intro hi
      have h1 := ih (by omega)
      have h2 := (h.each i (by omega)).2.2.2
      rw [ver_step (by omega)]
      have bd : ∀ a b : Int, 0 ≤ a → a ≤ 4611686018427387904 → 0 ≤ b → b ≤ 4611686018427387904 → 0 ≤ intMax a b ∧ intMax a b ≤ 4611686018427387904 := by
        intro a b _ _ _ _
        unfold intMax
        split <;> omega
      exact bd _ _ h1.1 h1.2 (by omega) h2.2
  have := key l.length (by omega)
  rwa [List.take_length] at this
theorem awake11_eq : law11_awake' = some true := law11_awake_lm.of_some 40 (by decide +kernel)
end Go.Proofs.Ytdmegcnkfngojaa.gg
