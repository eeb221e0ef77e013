/- Any list and a span more, and less; what two have: the plain laws. -/
import Derived.Test.YtlgfmkccnljhoaaE
open Go Go.GG
set_option linter.unusedVariables false
namespace Go.Proofs.Ytlgfmkccnljhoaa.gg
theorem Same_refl (a : List Sp) (hl : a.length ≤ 1048577) : ref10_Same' a a = some true := by
  have key := check_loop a.length (fun i => ref10_Same_p14' a a (i : Int)) (fun _ => true) (a := some (.inl ())) (b := some (.inr false)) (fun i hi => by
    try dsimp only
    rw [ref10_Same_p14_eq, decide_eq_true (by omega : (i : Int) < (a.length : Int)), at?_lt hi, wrap_succ (by omega)]
    simp only [cond_true, Option.bind_some]
    rw [(span_eqb _ _).2 rfl]; rfl) (by
    try dsimp only
    rw [ref10_Same_p14_eq, decide_eq_false (by omega : ¬ (a.length : Int) < (a.length : Int))]; rfl)
  unfold ref10_Same'
  simp only [show ((0 : Nat) : Int) = 0 from rfl] at key
  rw [key, show allB a.length (fun _ => true) = true from allB_iff.2 fun _ _ => rfl]
  simp
theorem lawTold (l : List Sp) : law10_told' (toldB l).1 (toldB l).2 l = some true := by
  unfold law10_told' toldB
  cases h : decide ((l.length : Int) > 64) with
  | true => rfl
  | false =>
    rw [decide_eq_false_iff_not] at h
    simp only [cond_false, beq_self_eq_true, cond_true]
    rw [Same_refl _ (by omega)]
    rfl
theorem light_some {l : List Sp} (s : Sp) (hl : l.length ≤ 1048576) (hr : ∀ x ∈ l, x.1.length ≤ 1048576 ∧ x.2.length ≤ 1048576) (hs : s.1.length ≤ 1048576 ∧ s.2.length ≤ 1048576) : ∃ b, law10_light' l s = some b := by
  have e0 : IntKind.wrap .i64 (((s.1).length : Int) + ((s.2).length : Int)) = ((s.1.length + s.2.length : Nat) : Int) := by rw [i64_in (by omega) (by omega)]; omega
  have key := loop_inv (min l.length 70) (fun i (n : Int) => law10_light_p8' l n (i : Int)) (fun i n => 0 ≤ n ∧ n ≤ (i : Int) * 4000000 + 4000000) (fun r => ∃ n, r = some n) (fun i n hi hn => by
    have hx := hr l[i] (List.getElem_mem (by omega))
    refine .inl ⟨n + (l[i].1.length : Int) + (l[i].2.length : Int), ?_, by omega⟩
    try dsimp only
    rw [law10_light_p8_eq, decide_eq_true (by omega : (i : Int) < (l.length : Int)), decide_eq_true (by omega : (i : Int) < 70), at?_lt (by omega), wrap_succ (by omega)]
    simp only [cond_true, Option.bind_some]
    rw [i64_in (n := n + (l[i].1.length : Int)) (by omega) (by omega), i64_in (by omega) (by omega)]) (fun n hn => by
    refine ⟨n, ?_⟩
    try dsimp only
    rw [law10_light_p8_eq]
    by_cases h : l.length ≤ 70
    · rw [show min l.length 70 = l.length by omega, decide_eq_false (by omega : ¬ (l.length : Int) < (l.length : Int))]; rfl
    · rw [show min l.length 70 = 70 by omega, decide_eq_true (by omega : ((70 : Nat) : Int) < (l.length : Int))]
      rfl) 0 ((s.1.length + s.2.length : Nat) : Int) (by omega) (by constructor <;> omega)
  obtain ⟨n, hn⟩ := key
  simp only [show ((0 : Nat) : Int) = 0 from rfl] at hn
  unfold law10_light'
  rw [e0, hn]
  exact ⟨_, rfl⟩
theorem law_SpanAdds (l : List Sp) (s : Sp) (hl : l.length ≤ 1048575) (hr : ∀ x ∈ l, x.1.length ≤ 1048576 ∧ x.2.length ≤ 1048576) (hs : s.1.length ≤ 1048576 ∧ s.2.length ≤ 1048576) : ∃ k, law10_SpanAdds k l s = some true := by
  refine (law10_SpanAdds_lm l s).fin ?_
  unfold law10_SpanAdds'
  obtain ⟨b, hb⟩ := light_some s (by omega) hr hs
  rw [hb, awake_eq]
  simp only [Option.bind_some]
  cases b with
  | false => rfl
  | true =>
    rw [Add_eq (by omega), Less_eq (by omega), Form_eq (by omega), refForm_eq (by omega), refMay_eq]
    simp only [Option.bind_some, Bool.not_true, cond_false, beq_self_eq_true]
    cases hf : formB l with
    | false => rfl
    | true =>
      cases hm : mayS s with
      | false => rfl
      | true =>
        simp only [Bool.and_self, Bool.not_true, cond_false]
        rw [Piece_eq (by omega), Piece_eq (by omega), addF_piece hf hm, lessF_piece hf hm]
        simp only [Option.bind_some]
        rw [lawTold, lawTold]
        rfl
def meetF (a b : Sp) : Sp := (strMax a.1 b.1, leastB a.2 b.2)
def meetB (a b : Sp) : Sp × Bool := bif mayS a && (mayS b && mayS (meetF a b)) then (meetF a b, true) else (([], []), false)
theorem Meet_eq (a b : Sp) : span_Meet' a b = some (meetB a b) := by
  unfold span_Meet' meetB meetF
  simp only [least_eq, may_eq, Option.bind_some]
  cases mayS a <;> cases mayS b <;> cases mayS (strMax a.1 b.1, leastB a.2 b.2) <;> rfl
theorem meet_has (a b : Sp) (k : Str) : has (meetF a b) k = (has a k && has b k) := by
  rw [Bool.eq_iff_iff, Bool.and_eq_true, has_bool, has_bool, has_bool]
  have h1 := leastE a b k
  have h2 := max_le a.1 b.1 k
  show (leS (strMax a.1 b.1) k = true ∧ E (meetF a b) k) ↔ _
  have h3 : E (meetF a b) k ↔ E a k ∧ E b k := h1
  rw [h2, h3]
  constructor
  · rintro ⟨⟨p, q⟩, r, t⟩; exact ⟨⟨p, r⟩, q, t⟩
  · rintro ⟨⟨p, r⟩, q, t⟩; exact ⟨⟨p, q⟩, r, t⟩
theorem meet_may {a b : Sp} (ha : mayS a = true) (hb : mayS b = true) : mayS (meetF a b) = true ↔ ne (meetF a b) := by
  refine ⟨mayS_ne, fun h => ?_⟩
  simp only [mayS, Bool.and_eq_true, Bool.or_eq_true, beq_iff_eq, decide_eq_true_eq] at ha hb ⊢
  refine ⟨?_, ?_, h⟩
  · show ((strMax a.1 b.1).length : Int) ≤ 64
    unfold strMax
    cases strLess a.1 b.1
    · exact ha.1
    · exact hb.1
  · show ((leastB a.2 b.2).length : Int) ≤ 64
    unfold leastB
    cases beB a.2 b.2
    · exact hb.2.1
    · exact ha.2.1
theorem meet_piece {a b : Sp} (ha : mayS a = true) (hb : mayS b = true) : pieceOf [a] b 2 = bif (meetB a b).2 then [(meetB a b).1] else [] := by
  obtain ⟨c, d⟩ := pieceOf_ok [a] b 2
  have hd : ∀ k, inL (pieceOf [a] b 2) k = has (meetF a b) k := fun k => by
    rw [d, meet_has]
    simp [isK, inL]
  unfold meetB
  rw [ha, hb]
  cases hm : mayS (meetF a b) with
  | true =>
    simp only [Bool.and_self, cond_true]
    exact canon_ext c ⟨by simpa using mayS_ne hm, by simp⟩ fun k => by rw [hd]; simp [inL]
  | false =>
    simp only [Bool.and_false, cond_false]
    refine canon_ext c ⟨by simp, by simp⟩ fun k => ?_
    rw [hd]
    cases hk : has (meetF a b) k with
    | false => simp [inL]
    | true =>
      obtain ⟨h1, h2⟩ := (has_bool _ _).1 hk
      have : ne (meetF a b) := by
        rcases h2 with h2 | h2
        · exact .inl h2
        · exact .inr (less_of_le_less h1 h2)
      rw [(meet_may ha hb).2 this] at hm; cases hm
def joinB (a b : Sp) : Sp × Int := bif !(mayS a && mayS b) then (([], []), 1) else bif a.2 == [] || !(a.2 == b.1) then (([], []), 10) else ((a.1, b.2), 0)
theorem Join_eq (a b : Sp) : span_Join' a b = some (joinB a b) := by
  unfold span_Join' joinB
  simp only [may_eq, Option.bind_some]
  cases mayS a <;> cases mayS b <;> cases (a.2 == ([] : Str)) <;> cases (a.2 == b.1) <;> rfl
theorem p27_eq {a b : Sp} (ha : mayS a = true) (hb : mayS b = true) (e : Int) (j : Sp) : law10_SpanPairs_p27' (meetB a b).2 e (a.1, a.2) (b.1, b.2) ((meetB a b).1.1, (meetB a b).1.2) (j.1, j.2) (pieceOf [a] b 2) = some (e, false, a, b, j) := by
  rw [meet_piece ha hb]
  unfold law10_SpanPairs_p27'
  have hm : (meetB a b).2 = false → (meetB a b).1 = ([], []) := by
    unfold meetB
    cases (mayS a && (mayS b && mayS (meetF a b))) with
    | true => intro h; cases h
    | false => intro _; rfl
  generalize meetB a b = m at *
  obtain ⟨m1, m2⟩ := m
  cases m2 with
  | true =>
    have hq : T.eqb (.pair .str .str) (m1.1, m1.2) m1 = true := (span_eqb _ _).2 rfl
    simp [hq]
  | false =>
    have := hm rfl
    simp only at this
    subst this
    rfl
theorem law_SpanPairs (a b : Sp) : ∃ k, law10_SpanPairs k a b = some true := by
  refine (law10_SpanPairs_lm a b).fin ?_
  unfold law10_SpanPairs'
  rw [refMay_eq, refMay_eq, Meet_eq, Join_eq, Check_eq, awake_eq]
  have e : (((cond (mayS a) (0 : Int) 1) == 0) == mayS a) = true := by cases mayS a <;> rfl
  simp only [Option.bind_some, e, Bool.not_true, cond_false]
  cases ha : mayS a with
  | false => simp [meetB, joinB, ha, (span_eqb _ _).2 rfl]
  | true =>
    cases hb : mayS b with
    | false => simp [meetB, joinB, ha, hb, (span_eqb _ _).2 rfl]
    | true =>
      simp only [Bool.not_true, cond_false]
      rw [Piece_eq (by simp)]
      simp only [Option.bind_some]
      rw [p27_eq ha hb]
      simp only [Option.bind_some, cond_false, joinB, ha, hb, Bool.and_self, Bool.not_true]
      cases h1 : (a.2 == ([] : Str)) with
      | true => simp [(span_eqb _ _).2 rfl]
      | false =>
        cases h2 : (a.2 == b.1) with
        | false => simp [(span_eqb _ _).2 rfl]
        | true => simp [(span_eqb _ _).2 rfl]
theorem mem_bulk {t : T} : ∀ {l : List t.den} {x : t.den}, x ∈ l → t.bulk x + 1 ≤ (T.slice t).bulk l
  | [], _, h => by simp at h
  | y :: l, x, h => by
    have e : (T.slice t).bulk (y :: l) = t.bulk y + (T.slice t).bulk l := by simp [T.bulk]; omega
    have h1 := bulk_slice (t := t) l
    rcases List.mem_cons.1 h with h | h
    · subst h; omega
    · have := mem_bulk h; omega
theorem span_bulk {l : List Sp} {n : Nat} (h : (T.slice (.pair .str .str)).bulk l ≤ n) : l.length + 1 ≤ n ∧ ∀ x ∈ l, x.1.length ≤ n ∧ x.2.length ≤ n := by
  refine ⟨Nat.le_trans (bulk_slice (t := .pair .str .str) l) h, fun x hx => ?_⟩
  have h1 := mem_bulk (t := .pair .str .str) (l := l) hx
  have h3 : T.bulk (.pair .str .str) x = (x.1.length + 1) + (x.2.length + 1) := rfl
  omega
end Go.Proofs.Ytlgfmkccnljhoaa.gg
