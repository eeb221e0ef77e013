/- Which files may be; a disk with them; what anything leaves that is done with files: the plain law. -/
import Derived.Test.YthdkecdbodenkaaGreatDoorC
open Go Go.GG
set_option linter.unusedVariables false
namespace Go.Proofs.YthdkecdbodenkaaGreatDoor.gg
def f0 : FI := ([], ([], 0))
def okAt (L : FL) (i : Nat) : Bool := nameOk (nth L i f0).1 && (decide ((nth L i f0).2.1.length ≤ 65536) && (decide (0 ≤ (nth L i f0).2.2) && (decide ((nth L i f0).2.2 ≤ ((nth L i f0).2.1.length : Int)) && (decide (i = 0) || strLess (nth L (i - 1) f0).1 (nth L i f0).1))))
def mayF (L : FL) : Bool := decide (L.length ≤ 64) && allB L.length (okAt L)
theorem le_or (x y : Str) : (strLess x y || x == y) = !strLess y x := by
  rw [not_less]; rfl
theorem okAt_iff {L : FL} {i : Nat} (h : i < L.length) (e : okAt L i = true) : FOk L[i] := by
  unfold okAt at e
  rw [getD_lt h] at e
  simp only [Bool.and_eq_true, decide_eq_true_eq] at e
  exact ⟨nameOk_len e.1, e.2.1, e.2.2.1, e.2.2.2.1⟩
theorem sorted_upto {L : FL} {n : Nat} (hn : n ≤ L.length) (h : ∀ i, i < n → okAt L i = true) : SortedF (L.take n) := by
  refine sorted_of_steps (d := f0) fun i hi => ?_
  rw [List.length_take] at hi
  have e := h i (by omega)
  unfold okAt at e
  simp only [Bool.and_eq_true, Bool.or_eq_true, decide_eq_true_eq] at e
  rcases e.2.2.2.2 with e | e
  · exact .inl e
  · by_cases h0 : i = 0
    · exact .inl h0
    · right
      have g : ∀ j, j < n → nth (L.take n) j f0 = nth L j f0 := by
        intro j hj
        rw [getD_lt (by rw [List.length_take]; omega), getD_lt (by omega), List.getElem_take]
      rw [g _ (by omega), g _ (by omega)]
      exact e
theorem Load_is (L : FL) : (mayF L = true ∧ ∃ m, disk_Load' L = some (some m, 0) ∧ St m L) ∨ (mayF L = false ∧ disk_Load' L = some (none, 1)) := by
  unfold disk_Load' disk_New'
  simp only [Option.bind_some]
  by_cases h1 : L.length ≤ 64
  · have key := loop_inv (S := FL) L.length (fun i s => disk_Load_p8' L L (L.length : Int) (i : Int) () s) (fun i s => (∀ j, j < i → okAt L j = true) ∧ s.Perm (L.take i))
      (fun r => ((∀ j, j < L.length → okAt L j = true) ∧ ∃ m, r = some (.inl ((), m)) ∧ m.Perm L) ∨ ((∃ j, j < L.length ∧ okAt L j = false) ∧ r = some (.inr 1)))
      (fun i s hi hs => by
        try dsimp only at hs ⊢
        obtain ⟨hok, hp⟩ := hs
        have hw : disk_Load_p8' L L (L.length : Int) (i : Int) () s = bif okAt L i then disk_Load_p8' L L (L.length : Int) ((i + 1 : Nat) : Int) () (mset (kt := .str) (nth L i f0).1 ((nth L i f0).2.1, (nth L i f0).2.2) s) else some (.inr 1) := by
          rw [disk_Load_p8_eq, decide_eq_true (by omega : (i : Int) < (L.length : Int)), at?_getD hi f0, wrap_succ (by omega), decide_eq_false (by omega : ¬ (L.length : Int) > 64)]
          simp only [cond_true, cond_false, Option.bind_some]
          rw [may_is]
          simp only [Option.bind_some]
          unfold okAt
          generalize hx : nth L i f0 = x
          have q1 : decide ((x.2.1.length : Int) > 65536) = !decide (x.2.1.length ≤ 65536) := by rw [← decide_not, decide_eq_decide]; omega
          have q2 : decide (x.2.2 < 0) = !decide (0 ≤ x.2.2) := by rw [← decide_not, decide_eq_decide]; omega
          have q3 : decide (x.2.2 > (x.2.1.length : Int)) = !decide (x.2.2 ≤ (x.2.1.length : Int)) := by rw [← decide_not, decide_eq_decide]; omega
          rw [q1, q2, q3]
          by_cases hl : x.2.1.length ≤ 65536
          · rw [clone_is (by omega)]
            cases hi0 : decide (i = 0) with
            | true =>
              have e0 := of_decide_eq_true hi0
              rw [decide_eq_false (by omega : ¬ (i : Int) > 0)]
              cases nameOk x.1 <;> cases decide (x.2.1.length ≤ 65536) <;> cases decide (0 ≤ x.2.2) <;> cases decide (x.2.2 ≤ (x.2.1.length : Int)) <;> rfl
            | false =>
              have e0 := of_decide_eq_false hi0
              rw [decide_eq_true (by omega : (i : Int) > 0), wrap_pred (by omega) (by omega), at?_getD (by omega : i - 1 < L.length) f0]
              simp only [Option.bind_some]
              rw [le_or]
              cases nameOk x.1 <;> cases decide (x.2.1.length ≤ 65536) <;> cases decide (0 ≤ x.2.2) <;> cases decide (x.2.2 ≤ (x.2.1.length : Int)) <;> cases strLess (nth L (i - 1) f0).1 x.1 <;> rfl
          · rw [decide_eq_false hl]
            cases nameOk x.1 <;> rfl
        cases ho : okAt L i with
        | false =>
          right; right
          exact ⟨⟨i, hi, ho⟩, by rw [hw, ho]; rfl⟩
        | true =>
          have hok' : ∀ j, j < i + 1 → okAt L j = true := by
            intro j hj
            by_cases hji : j = i
            · rw [hji]; exact ho
            · exact hok j (by omega)
          left
          refine ⟨mset (kt := .str) L[i].1 L[i].2 s, by rw [hw, ho, getD_lt hi]; rfl, hok', ?_⟩
          have hs1 := sorted_upto (n := i + 1) (by omega) hok'
          rw [take_succ' hi] at hs1 ⊢
          have hk := hs1.keyed
          unfold Keyed at hk
          rw [List.pairwise_append] at hk
          have hks : Keyed s := Keyed.perm (l := L.take i) hk.1 hp
          refine (mset_perm L[i].1 L[i].2 hks).trans ?_
          rw [outF_free (fun x hx => hk.2.2 x (hp.mem_iff.1 hx) L[i] (by simp))]
          exact (hp.cons _).trans (List.perm_append_singleton _ _).symm)
      (fun s hs => by
        try dsimp only at hs ⊢
        left
        refine ⟨hs.1, s, ?_, by have := hs.2; rwa [List.take_length] at this⟩
        rw [disk_Load_p8_eq, decide_eq_false (by omega : ¬ (L.length : Int) < (L.length : Int))]
        rfl) 0 [] (Nat.zero_le _) ⟨fun j h => by omega, by simp⟩
    simp only [show ((0 : Nat) : Int) = 0 from rfl] at key
    unfold mayF
    rw [decide_eq_true h1, Bool.true_and]
    rcases key with ⟨ha, m, e, hp⟩ | ⟨⟨j, hj, ho⟩, e⟩
    · left
      refine ⟨allB_iff.2 ha, m, by rw [e]; rfl, ⟨hp, ?_⟩, h1, fun x hx => ?_⟩
      · have := sorted_upto (L := L) (Nat.le_refl _) ha
        rwa [List.take_length] at this
      · obtain ⟨i, hi, rfl⟩ := List.mem_iff_getElem.1 hx
        exact okAt_iff hi (ha i hi)
    · right
      refine ⟨?_, by rw [e]; rfl⟩
      cases hq : allB L.length (okAt L) with
      | false => rfl
      | true => have := allB_iff.1 hq j hj; rw [ho] at this; cases this
  · right
    unfold mayF
    rw [decide_eq_false h1, Bool.false_and]
    refine ⟨rfl, ?_⟩
    have h2 : 0 < L.length := by omega
    have hg := at?_getD h2 f0
    simp only [show ((0 : Nat) : Int) = 0 from rfl] at hg
    rw [disk_Load_p8_eq, decide_eq_true (by omega : (0 : Int) < (L.length : Int)), hg, decide_eq_true (by omega : (L.length : Int) > 64)]
    rfl
theorem Same_self {L : FL} (h : L.length ≤ 1048576) : ref05_Same' L L = some true := by
  unfold ref05_Same'
  have key := check_loop L.length (fun i => ref05_Same_p14' L L (i : Int)) (fun _ => true) (a := some (.inl ())) (b := some (.inr false)) (fun i hi => by
    try dsimp only
    rw [ref05_Same_p14_eq, decide_eq_true (by omega : (i : Int) < (L.length : Int)), at?_lt hi, wrap_succ (by omega)]
    simp only [cond_true, Option.bind_some]
    simp) (by
    try dsimp only
    rw [ref05_Same_p14_eq, decide_eq_false (by omega : ¬ (L.length : Int) < (L.length : Int))]; rfl)
  simp only [show ((0 : Nat) : Int) = 0 from rfl] at key
  rw [key, allB_iff.2 (fun _ _ => rfl)]
  simp
end Go.Proofs.YthdkecdbodenkaaGreatDoor.gg
