/- Which groups some keys need: the plain law. -/
import Derived.Test.YtdmegcnkfngojaaE
open Go Go.GG
set_option linter.unusedVariables false
namespace Go.Proofs.Ytdmegcnkfngojaa.gg
theorem SameRefl (a : List Sp) (hl : a.length ≤ 1048577) : ref10_Same' a a = some true := by
  have key := check_loop a.length (fun i => ref10_Same_p14' a a (i : Int)) (fun _ => true) (a := some (.inl ())) (b := some (.inr false)) (fun i hi => by
    try dsimp only
    rw [ref10_Same_p14_eq, decide_eq_true (by omega : (i : Int) < (a.length : Int)), at?_lt hi, wrap_succ (by omega)]
    simp only [cond_true, Option.bind_some]
    rw [(sp.span_eqb _ _).2 rfl]; rfl) (by
    try dsimp only
    rw [ref10_Same_p14_eq, decide_eq_false (by omega : ¬ (a.length : Int) < (a.length : Int))]; rfl)
  unfold ref10_Same'
  simp only [show ((0 : Nat) : Int) = 0 from rfl] at key
  rw [key, show allB a.length (fun _ => true) = true from allB_iff.2 fun _ _ => rfl]
  simp
theorem refOwned_eq {l : List Rg} (h : ChOk l) (g : Int) : ref11_Owned' l g = some (ownedOf l g) := by
  have hl := h.len2
  rw [← owned_same h]
  have key := fold_loop l (refStep g) [] (fun i u => ref11_Owned_p8' l g (i : Int) u) (out := fun u => some u) (fun i hi => by
    try dsimp only
    have hu := refFold_len g (l.take i) []
    rw [List.length_nil, Nat.zero_add, List.length_take] at hu
    generalize (l.take i).foldl (refStep g) [] = u at *
    rw [ref11_Owned_p8_eq, decide_eq_true (by omega : (i : Int) < (l.length : Int)), at?_lt hi, wrap_succ (by omega), refMay_eq (by omega), chMay_iff.2 h]
    simp only [cond_true, Option.bind_some]
    have hr : ∀ x : Sp, room ((u ++ [x]).length) 32 = true := fun x => room_of (by rw [List.length_append, List.length_singleton]; omega)
    simp only [hr, cond_true, bne]
    unfold refStep
    cases (l[i].2.1 == g) with
    | false => rfl
    | true =>
      simp only [Bool.not_true, cond_false, cond_true]
      rcases List.eq_nil_or_concat u with rfl | ⟨v, s, rfl⟩
      · rfl
      · rw [List.concat_eq_append] at *
        have hv : (v ++ [s]).length = v.length + 1 := by simp
        have e : IntKind.wrap .i64 (((v ++ [s]).length : Int) - 1) = (v.length : Int) := by rw [hv, i64_in (by omega) (by omega)]; omega
        rw [e, decide_eq_true (by omega : (v.length : Int) ≥ 0), decide_eq_true (by omega : (v.length : Int) < ((v ++ [s]).length : Int))]
        simp only [Int.toNat_natCast, Bool.and_self, cond_true]
        have e2 : (v ++ [s])[v.length]? = some s := by simp
        have e3 : ∀ x : Sp, (v ++ [s]).set v.length x = v ++ [x] := fun x => by simp
        simp only [e2, e3, Option.bind_some, List.getLast?_append, List.getLast?_singleton, Option.some_or, List.dropLast_concat]
        cases (s.2 == l[i].1.1) <;> rfl) (by
    try dsimp only
    rw [ref11_Owned_p8_eq, decide_eq_false (by omega : ¬ (l.length : Int) < (l.length : Int))]; rfl)
  unfold ref11_Owned'
  simp only [show ((0 : Nat) : Int) = 0 from rfl] at key
  rw [key]
  rfl
theorem refOwned_none {l : List Rg} (hl : l.length ≤ 1048576) (h : chMay l = false) (g : Int) : ref11_Owned' l g = some [] := by
  unfold ref11_Owned'
  rw [ref11_Owned_p8_eq, refMay_eq hl, h]
  cases decide ((0 : Int) < (l.length : Int)) <;> rfl
theorem owned_none {l : List Rg} (hl : l.length ≤ 1048576) (h : chMay l = false) (g : Int) : chart_Owned' l g = some [] := by
  unfold chart_Owned'
  rw [chCheck_eq hl, h]
  rfl
def okK (k : Str) : Bool := decide ((k.length : Int) ≤ 64)
theorem p26_eq (l : List Rg) {ks : List Str} (hk : ks.length ≤ 100) (c : Int) (b : Bool) (out : List Int) : law11_ChartGroups_p26' l ks c b 0 out = some (l, ks, c, (b && ks.all okK), out) := by
  have key := fold_loop ks (fun (b : Bool) k => b && okK k) b (fun i b => law11_ChartGroups_p26' l ks c b (i : Int) out) (out := fun b => some (l, ks, c, b, out)) (fun i hi => by
    try dsimp only
    rw [law11_ChartGroups_p26_eq, decide_eq_true (by omega : (i : Int) < (ks.length : Int)), at?_lt hi, wrap_succ (by omega)]
    cases (ks.take i).foldl (fun (b : Bool) k => b && okK k) b <;> rfl) (by
    try dsimp only
    rw [law11_ChartGroups_p26_eq, decide_eq_false (by omega : ¬ (ks.length : Int) < (ks.length : Int))]; rfl)
  simp only [show ((0 : Nat) : Int) = 0 from rfl] at key
  rw [key]
  have : ∀ (ks : List Str) (b : Bool), ks.foldl (fun (b : Bool) k => b && okK k) b = (b && ks.all okK) := by
    intro ks
    induction ks with
    | nil => intro b; simp
    | cons k ks ih => intro b; rw [List.foldl_cons, ih, List.all_cons, Bool.and_assoc]
  rw [this]
def ownsK (l : List Rg) (k : Str) : Int := (owner l k).2.1
theorem groups_loop {l : List Rg} (h : ChOk l) {ks : List Str} (hk : ks.length ≤ 100) : chart_Groups_p16' l ks (ks.length : Int) 0 [] = bif ks.all okK then some (.inl (ks.map (ownsK l))) else some (.inr 1) := by
  have hl := h.len2
  have loop := loop_inv ks.length (fun i (u : List Int) => chart_Groups_p16' l ks (ks.length : Int) (i : Int) u) (fun i u => u = (ks.take i).map (ownsK l) ∧ (ks.take i).all okK = true)
    (fun r => r = bif ks.all okK then some (.inl (ks.map (ownsK l))) else some (.inr 1)) (fun i u hi hu => by
      obtain ⟨rfl, ha⟩ := hu
      try dsimp only
      rw [chart_Groups_p16_eq, decide_eq_true (by omega : (i : Int) < (ks.length : Int)), at?_lt hi, wrap_succ (by omega)]
      simp only [cond_true, Option.bind_some]
      rw [chFind_eq (by omega), chMay_iff.2 h]
      cases hc : decide ((ks[i].length : Int) ≤ 64) with
      | true =>
        left
        refine ⟨(ks.take (i + 1)).map (ownsK l), ?_, rfl, ?_⟩
        · obtain ⟨_, hi1, _⟩ := findIx_spec h ks[i]
          simp only [Bool.and_self, cond_true, Option.bind_some, bne_self_eq_false, cond_false]
          rw [at?_getD hi1 rg0]
          simp only [Option.bind_some]
          rw [room_of (by rw [List.length_append, List.length_map, List.length_take, List.length_singleton]; omega), cond_true, take_succ' hi, List.map_append]
          rfl
        · rw [take_succ' hi, List.all_append, ha]
          simp only [List.all_cons, List.all_nil, Bool.and_true, Bool.true_and]
          exact hc
      | false =>
        right
        have : ks.all okK = false := by
          rw [List.all_eq_false]
          exact ⟨ks[i], List.getElem_mem _, by unfold okK; rw [hc]; simp⟩
        rw [this]
        rfl) (fun u hu => by
      obtain ⟨rfl, ha⟩ := hu
      rw [List.take_length] at ha
      try dsimp only
      rw [chart_Groups_p16_eq, decide_eq_false (by omega : ¬ (ks.length : Int) < (ks.length : Int)), ha, List.take_length]
      rfl)
  exact loop 0 [] (by omega) ⟨rfl, rfl⟩
/-! ### What is left of a list in order -/
theorem compact_up {d : Array Int} (hd : ∀ i j, i ≤ j → j < d.size → d[i]! ≤ d[j]!) : ∀ m, m ≤ d.size → Rise (Lib.compactUpTo d m) ∧ ∀ x, x ∈ Lib.compactUpTo d m ↔ ∃ j, j < m ∧ d[j]! = x := by
  intro m
  induction m with
  | zero => intro _; exact ⟨List.Pairwise.nil, fun x => by simp [Lib.compactUpTo]⟩
  | succ m ih =>
    intro hm
    obtain ⟨h1, h2⟩ := ih (by omega)
    rw [Lib.compactUpTo_succ]
    cases hk : Lib.keeps d m with
    | true =>
      simp only [if_true]
      refine ⟨List.pairwise_append.2 ⟨h1, List.pairwise_singleton _ _, fun x hx y hy => ?_⟩, fun x => ?_⟩
      · rw [List.mem_singleton.1 hy]
        obtain ⟨j, hj, rfl⟩ := (h2 x).1 hx
        have h3 : m = 0 ∨ d[m]! ≠ d[m - 1]! := of_decide_eq_true hk
        have h4 := h3.resolve_left (by omega)
        have h5 := hd j (m - 1) (by omega) (by omega)
        have h6 := hd (m - 1) m (by omega) (by omega)
        omega
      · rw [List.mem_append, h2 x, List.mem_singleton]
        constructor
        · rintro (⟨j, hj, e⟩ | rfl)
          · exact ⟨j, by omega, e⟩
          · exact ⟨m, by omega, rfl⟩
        · rintro ⟨j, hj, e⟩
          by_cases hjm : j = m
          · subst hjm; exact .inr e.symm
          · exact .inl ⟨j, by omega, e⟩
    | false =>
      simp only [Bool.false_eq_true, if_false, List.append_nil]
      refine ⟨h1, fun x => ?_⟩
      rw [h2 x]
      have h3 : ¬ (m = 0 ∨ d[m]! ≠ d[m - 1]!) := of_decide_eq_false hk
      constructor
      · rintro ⟨j, hj, e⟩; exact ⟨j, by omega, e⟩
      · rintro ⟨j, hj, e⟩
        by_cases hjm : j = m
        · subst hjm
          by_cases h0 : j = 0
          · exact absurd (.inl h0) h3
          · refine ⟨j - 1, by omega, ?_⟩
            rw [← e]
            by_cases h7 : d[j]! = d[j - 1]!
            · exact h7.symm
            · exact absurd (.inr h7) h3
        · exact ⟨j, by omega, e⟩
def setOf (xs : List Int) : List Int := Lib.compact (xs.mergeSort fun x y => decide (x ≤ y))
theorem setOf_ok (xs : List Int) : Rise (setOf xs) ∧ ∀ x, x ∈ setOf xs ↔ x ∈ xs := by
  have hs : (xs.mergeSort fun x y => decide (x ≤ y)).Pairwise fun a b => decide (a ≤ b) = true :=
    List.pairwise_mergeSort (le := fun (x y : Int) => decide (x ≤ y)) (fun a b c h1 h2 => decide_eq_true (Int.le_trans (of_decide_eq_true h1) (of_decide_eq_true h2))) (fun a b => by
      rcases Int.le_total a b with h | h
      · simp [h]
      · simp [h]) xs
  have hm : ∀ x, x ∈ (xs.mergeSort fun x y => decide (x ≤ y)) ↔ x ∈ xs := fun x => List.mem_mergeSort
  unfold setOf Lib.compact
  generalize (xs.mergeSort fun x y => decide (x ≤ y)) = zs at *
  have hget : ∀ i (hi : i < zs.length), zs.toArray[i]! = zs[i] := fun i hi => by simp [hi]
  obtain ⟨h1, h2⟩ := compact_up (d := zs.toArray) (fun i j hij hj => by
    have hj' : j < zs.length := by simpa using hj
    rw [hget i (by omega), hget j hj']
    by_cases e : i = j
    · subst e; exact Int.le_refl _
    · exact of_decide_eq_true (List.pairwise_iff_getElem.1 hs i j (by omega) hj' (by omega))) zs.length (by simp)
  refine ⟨h1, fun x => ?_⟩
  rw [h2 x, ← hm x, List.mem_iff_getElem]
  constructor
  · rintro ⟨j, hj, e⟩; exact ⟨j, hj, by rw [← hget j hj]; exact e⟩
  · rintro ⟨j, hj, e⟩; exact ⟨j, hj, by rw [hget j hj]; exact e⟩
theorem Groups_eq {l : List Rg} (hl : l.length ≤ 1048576) {ks : List Str} (hk : ks.length ≤ 100) : chart_Groups' l ks = some (bif chMay l && ks.all okK then (setOf (ks.map (ownsK l)), 0) else ([], 1)) := by
  unfold chart_Groups'
  rw [chCheck_eq hl]
  cases hm : chMay l with
  | false => rfl
  | true =>
    simp only [cond_true, Option.bind_some, bne_self_eq_false, cond_false, Bool.true_and]
    rw [groups_loop (chMay_iff.1 hm) hk]
    cases ks.all okK with
    | false => rfl
    | true =>
      have h1 : (ks.map (ownsK l)).length ≤ 100 := by rw [List.length_map]; exact hk
      simp only [cond_true, Option.bind_some, Sum.elim_inl]
      unfold sortIF compIF
      rw [decide_eq_true (by omega : (ks.map (ownsK l)).length < 4611686018427387904)]
      simp only [cond_true, Option.bind_some]
      rw [decide_eq_true (by rw [List.length_mergeSort]; omega : ((ks.map (ownsK l)).mergeSort fun x y => decide (x ≤ y)).length ≤ 9223372036854775807)]
      rfl
def hasG (l : List Rg) (ks : List Str) (g : Int) : Bool := !allB ks.length fun i => !(ownsK l (nth ks i []) == g)
theorem hasG_iff {l : List Rg} {ks : List Str} {g : Int} : hasG l ks g = true ↔ g ∈ ks.map (ownsK l) := by
  unfold hasG
  rw [Bool.not_eq_true', List.mem_map]
  constructor
  · intro h
    apply Classical.byContradiction
    intro hn
    have : allB ks.length (fun i => !(ownsK l (nth ks i []) == g)) = true := allB_iff.2 fun i hi => by
      rw [Bool.not_eq_true', beq_eq_false_iff_ne]
      intro e
      exact hn ⟨ks[i], List.getElem_mem _, by rw [← e, getD_lt hi]⟩
    rw [h] at this; cases this
  · rintro ⟨k, hk, e⟩
    obtain ⟨i, hi, rfl⟩ := List.mem_iff_getElem.1 hk
    cases h : allB ks.length (fun i => !(ownsK l (nth ks i []) == g)) with
    | false => rfl
    | true =>
      have := allB_iff.1 h i hi
      rw [Bool.not_eq_true', beq_eq_false_iff_ne, getD_lt hi] at this
      exact absurd e this
theorem p20_eq {l : List Rg} (h : ChOk l) {ks : List Str} (hk : ks.length ≤ 100) (ha : ks.all okK = true) (g : Int) {u : List Int} (hu : u.length ≤ 16) :
    ref11_Groups_p20' l ks g 0 u = some (l, ks, g, bif hasG l ks g then u ++ [g] else u) := by
  have hl := h.len2
  have key := check_loop ks.length (fun i => ref11_Groups_p20' l ks g (i : Int) u) (fun i => !(ownsK l (nth ks i []) == g)) (a := some (l, ks, g, u)) (b := some (l, ks, g, u ++ [g])) (fun i hi => by
    try dsimp only
    have hok : decide (((nth ks i []).length : Int) ≤ 64) = true := by
      have := List.all_eq_true.1 ha ks[i] (List.getElem_mem _)
      rw [getD_lt hi]; exact this
    rw [ref11_Groups_p20_eq, decide_eq_true (by omega : (i : Int) < (ks.length : Int)), at?_getD hi [], wrap_succ (by omega)]
    simp only [cond_true, Option.bind_some]
    obtain ⟨_, hi1, _⟩ := findIx_spec h (nth ks i [])
    rw [refFind_eq (by omega), chMay_iff.2 h, hok]
    simp only [Bool.and_self, cond_true, Option.bind_some]
    rw [at?_getD hi1 rg0]
    simp only [Option.bind_some]
    rw [room_of (by rw [List.length_append, List.length_singleton]; omega)]
    show (bif ownsK l (nth ks i []) == g then _ else _) = _
    cases (ownsK l (nth ks i []) == g) <;> rfl) (by
    try dsimp only
    rw [ref11_Groups_p20_eq, decide_eq_false (by omega : ¬ (ks.length : Int) < (ks.length : Int))]; rfl)
  simp only [show ((0 : Nat) : Int) = 0 from rfl] at key
  rw [key]
  unfold hasG
  cases allB ks.length fun i => !(ownsK l (nth ks i []) == g) <;> rfl
theorem fold_filter (p : Int → Bool) : ∀ (l u : List Int), l.foldl (fun u g => bif p g then u ++ [g] else u) u = u ++ l.filter p
  | [], u => by simp
  | g :: l, u => by
    rw [List.foldl_cons, fold_filter p l, List.filter_cons]
    cases p g <;> simp
theorem refGroups_eq {l : List Rg} (h : ChOk l) {ks : List Str} (hk : ks.length ≤ 100) (ha : ks.all okK = true) : ref11_Groups' l ks = some ((upTo 16).filter (hasG l ks)) := by
  have key := fold_loop (upTo 16) (fun u g => bif hasG l ks g then u ++ [g] else u) [] (fun i u => ref11_Groups_p8' l ks ((i + 1 : Nat) : Int) u) (out := fun u => some u) (fun i hi => by
    try dsimp only
    rw [upTo_len] at hi
    have hc : ((upTo 16).take i).length ≤ 16 := by rw [List.length_take, upTo_len]; omega
    have hf : (((upTo 16).take i).filter (hasG l ks)).length ≤ 16 := Nat.le_trans (List.length_filter_le _ _) hc
    rw [upTo_get (by rw [upTo_len]; exact hi), fold_filter, List.nil_append, ref11_Groups_p8_eq, decide_eq_true (by omega), p20_eq h hk ha _ hf]
    simp only [cond_true, Option.bind_some]
    rw [wrap_succ (by omega)]) (by
    try dsimp only
    rw [upTo_len, ref11_Groups_p8_eq, decide_eq_false (by omega)]; rfl)
  try dsimp only at key
  simp only [show ((0 + 1 : Nat) : Int) = 1 from rfl] at key
  unfold ref11_Groups'
  rw [key, fold_filter]
  rfl
theorem p59_eq {a : List Int} (hl : a.length ≤ 1048576) : law11_ChartGroups_p59' 0 a a = some (.inl ()) := by
  have key := check_loop a.length (fun i => law11_ChartGroups_p59' (i : Int) a a) (fun _ => true) (a := some (.inl ())) (b := some (.inr false)) (fun i hi => by
    try dsimp only
    rw [law11_ChartGroups_p59_eq, decide_eq_true (by omega : (i : Int) < (a.length : Int)), decide_eq_true (by omega : (0 : Int) ≤ (i : Int)), wrap_succ (by omega)]
    simp [hi]) (by
    try dsimp only
    rw [law11_ChartGroups_p59_eq, decide_eq_false (by omega : ¬ (a.length : Int) < (a.length : Int))]; rfl)
  simp only [show ((0 : Nat) : Int) = 0 from rfl] at key
  rw [key, show allB a.length (fun _ => true) = true from allB_iff.2 fun _ _ => rfl]
  rfl
theorem owned_len {l : List Rg} (h : ChOk l) (g : Int) : (ownedOf l g).length ≤ 64 := by
  obtain ⟨_, h2, _⟩ := own_inv (fun r hr => mem_epoch h hr) h.len2 g l.length (Nat.le_refl _)
  rw [List.take_length] at h2
  exact Nat.le_trans h2 h.len2
theorem law_ChartGroups (l : List Rg) (ks : List Str) (g : Int) (hl : l.length ≤ 1048576) : ∃ k, law11_ChartGroups k l ks g = some true := by
  refine (law11_ChartGroups_lm l ks g).fin ?_
  unfold law11_ChartGroups'
  rw [awake11_eq]
  by_cases hk : ks.length ≤ 100
  case neg => rw [decide_eq_true (by omega)]; rfl
  rw [decide_eq_false (by omega), Groups_eq hl hk, refMay_eq hl]
  simp only [cond_false, Option.bind_some]
  cases hm : chMay l with
  | false =>
    rw [owned_none hl hm, refOwned_none hl hm]
    simp only [Option.bind_some]
    rw [SameRefl _ (by simp)]
    simp only [Option.bind_some, Bool.not_true, cond_false, Bool.false_and]
    rw [p26_eq l hk]
    rfl
  | true =>
    have h := chMay_iff.1 hm
    rw [Owned_eq h, refOwned_eq h]
    simp only [Option.bind_some]
    rw [SameRefl _ (by have := owned_len h g; omega)]
    simp only [Option.bind_some, Bool.not_true, cond_false, Bool.true_and]
    rw [p26_eq l hk]
    cases ha : ks.all okK with
    | false => rfl
    | true =>
      simp only [cond_true, Option.bind_some, Bool.and_self, Bool.not_true, cond_false]
      rw [refGroups_eq h hk ha]
      obtain ⟨s1, s2⟩ := setOf_ok (ks.map (ownsK l))
      have e : setOf (ks.map (ownsK l)) = (upTo 16).filter (hasG l ks) := by
        refine s1.ext ((rise_upTo 16).filter _) fun x => ?_
        rw [s2 x, List.mem_filter, hasG_iff, mem_upTo]
        refine ⟨fun hx => ⟨?_, hx⟩, fun hx => hx.2⟩
        obtain ⟨k, _, rfl⟩ := List.mem_map.1 hx
        have hg := mem_epoch h (owner_spec h k).1
        exact ⟨hg.g1, hg.g2⟩
      rw [e]
      have hf : ((upTo 16).filter (hasG l ks)).length ≤ 16 := Nat.le_trans (List.length_filter_le _ _) (Nat.le_of_eq (upTo_len 16))
      simp only [Option.bind_some, bne_self_eq_false, cond_false]
      rw [p59_eq (by omega)]
      rfl
end Go.Proofs.Ytdmegcnkfngojaa.gg
