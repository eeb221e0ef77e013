/- Tokens rise: the plain law. -/
import Derived.Test.YtlmfnbcnfhiheaaG
open Go Go.GG Go.Proofs
set_option linter.unusedVariables false
namespace Go.Proofs.Ytlmfnbcnfhiheaa.gg
abbrev Win := Int × Int × Bool
abbrev Act := Int × Int
def V (w : Win) : Prop := 1 ≤ w.1 ∧ w.1 ≤ 18446744073709551615 ∧ w.1 - 1 ≤ w.2.1 ∧ w.2.1 ≤ 18446744073709551615 ∧ (w.2.2 = true → w.1 = 18446744073709551615 ∧ w.2.1 = 18446744073709551615)
theorem may_true (k : Nat) {w : Win} (h : V w) : ref18_May k w = some true := by
  obtain ⟨a, b, s⟩ := w
  obtain ⟨h1, h2, h3, h4, h5⟩ := h
  simp only at h1 h2 h3 h4 h5
  have e0 : (a == 0) = false := by simp; omega
  have e1 : decide (IntKind.wrap .u64 (a - 1) > b) = false := by rw [u64_in (by omega) (by omega)]; simp; omega
  unfold ref18_May
  simp only [e0, e1, cond_false]
  cases s with
  | false => rfl
  | true =>
    obtain ⟨rfl, rfl⟩ := h5 rfl
    rfl
theorem may_V (k : Nat) {w : Win} (h1 : 0 ≤ w.1) (h2 : w.1 ≤ 18446744073709551615) (h3 : 0 ≤ w.2.1) (h4 : w.2.1 ≤ 18446744073709551615) : V w ∨ ref18_May k w = some false := by
  obtain ⟨a, b, s⟩ := w
  simp only at h1 h2 h3 h4
  by_cases h0 : a = 0
  · right; subst h0; rfl
  · have e0 : (a == 0) = false := by simpa using h0
    have e : IntKind.wrap .u64 (a - 1) = a - 1 := u64_in (by omega) (by omega)
    by_cases h5 : a - 1 > b
    · right; unfold ref18_May; simp [e0, e, h5]
    · cases s with
      | false => left; exact ⟨by simp only; omega, h2, by simp only; omega, h4, by simp⟩
      | true =>
        by_cases h6 : a = 18446744073709551615
        · by_cases h7 : b = 18446744073709551615
          · left; exact ⟨by simp only; omega, h2, by simp only; omega, h4, fun _ => ⟨h6, h7⟩⟩
          · have e7 : (b == 18446744073709551615) = false := by simpa using h7
            have e6 : (a == 18446744073709551615) = true := by simpa using h6
            right; unfold ref18_May; simp [e0, e, h5, e6, e7]
        · have e6 : (a == 18446744073709551615) = false := by simpa using h6
          right; unfold ref18_May; simp [e0, e, h5, e6]
theorem check_ok (k : Nat) {w : Win} (h : V w) : oracle_Check k w = some 0 := by
  obtain ⟨a, b, s⟩ := w
  obtain ⟨h1, h2, h3, h4, h5⟩ := h
  simp only at h1 h2 h3 h4 h5
  have e0 : (a == 0) = false := by simp; omega
  have e1 : decide (b < IntKind.wrap .u64 (a - 1)) = false := by rw [u64_in (by omega) (by omega)]; simp; omega
  unfold oracle_Check
  simp only [e0, e1, cond_false]
  cases s with
  | false => rfl
  | true =>
    obtain ⟨rfl, rfl⟩ := h5 rfl
    rfl
theorem extend_V (k : Nat) {w : Win} (h : V w) (n : Int) : ∃ w' e, oracle_Extend k w n = some (w', e) ∧ (e = 0 → V w' ∧ w'.1 = w.1 ∧ w'.2.2 = w.2.2) := by
  have hc := check_ok k h
  obtain ⟨a, b, s⟩ := w
  obtain ⟨h1, h2, h3, h4, h5⟩ := h
  simp only at h1 h2 h3 h4 h5
  unfold oracle_Extend
  rw [hc]
  by_cases n1 : n < 1
  · exact ⟨(0, 0, false), 1, by simp [n1], by simp⟩
  by_cases n2 : n > 65536
  · exact ⟨(0, 0, false), 1, by simp [n1, n2], by simp⟩
  by_cases b1 : b = 18446744073709551615
  · exact ⟨(0, 0, false), 11, by simp [n1, n2, b1], by simp⟩
  · have e1 : IntKind.wrap .u64 n = n := u64_in (by omega) (by omega)
    have e2 : IntKind.wrap .u64 (18446744073709551615 - b) = 18446744073709551615 - b := u64_in (by omega) (by omega)
    have hm : 0 ≤ intMin n (18446744073709551615 - b) ∧ intMin n (18446744073709551615 - b) ≤ 18446744073709551615 - b := by unfold intMin; split <;> omega
    have e3 : IntKind.wrap .u64 (b + intMin n (18446744073709551615 - b)) = b + intMin n (18446744073709551615 - b) := u64_in (by omega) (by omega)
    refine ⟨(a, b + intMin n (18446744073709551615 - b), s), 0, ?_, fun _ => ⟨⟨h1, h2, by simp only; omega, by simp only; omega, fun hs => absurd (h5 hs).2 b1⟩, rfl, rfl⟩⟩
    simp only [e1, e2, e3]
    have eb : (b == 18446744073709551615) = false := by simpa using b1
    simp [n1, n2, eb]
theorem recover_V (k : Nat) {w : Win} (h : V w) : ∃ w', oracle_Recover k w = some (w', 0) ∧ V w' ∧ w.1 ≤ w'.1 ∧ (w.2.2 = true → w'.2.2 = true) := by
  have hc := check_ok k h
  obtain ⟨a, b, s⟩ := w
  obtain ⟨h1, h2, h3, h4, h5⟩ := h
  simp only at h1 h2 h3 h4 h5
  unfold oracle_Recover
  rw [hc]
  by_cases b1 : b = 18446744073709551615
  · exact ⟨(18446744073709551615, 18446744073709551615, true), by simp [b1], ⟨by decide, by decide, by decide, by decide, fun _ => ⟨rfl, rfl⟩⟩, h2, fun _ => rfl⟩
  · have e : IntKind.wrap .u64 (b + 1) = b + 1 := u64_in (by omega) (by omega)
    have eb : (b == 18446744073709551615) = false := by simpa using b1
    refine ⟨(b + 1, b, s), by simp [eb, e], ⟨by simp only; omega, by simp only; omega, by simp only; omega, h4, fun hs => absurd (h5 hs).2 b1⟩, by simp only; omega, fun hs => hs⟩
theorem take_V (k : Nat) {w : Win} (h : V w) : (w.2.2 = true ∧ oracle_Take k w = some ((0, (0, false)), 0, 11)) ∨ (w.2.2 = false ∧ oracle_Take k w = some ((0, (0, false)), 0, 9)) ∨
    (w.2.2 = false ∧ ∃ w', oracle_Take k w = some (w', w.1, 0) ∧ V w' ∧ (w'.2.2 = false → w.1 < w'.1)) := by
  have hc := check_ok k h
  obtain ⟨a, b, s⟩ := w
  obtain ⟨h1, h2, h3, h4, h5⟩ := h
  simp only at h1 h2 h3 h4 h5
  cases s with
  | true => left; unfold oracle_Take; rw [hc]; exact ⟨rfl, rfl⟩
  | false =>
    right
    have e : IntKind.wrap .u64 (a - 1) = a - 1 := u64_in (by omega) (by omega)
    have e1 : IntKind.wrap .u64 (b - (a - 1)) = b - (a - 1) := u64_in (by omega) (by omega)
    have hl : oracle_Left k (a, b, false) = some (b - (a - 1)) := by
      unfold oracle_Left
      rw [hc]
      simp [e, e1]
    unfold oracle_Take
    rw [hc, hl]
    by_cases z : b - (a - 1) = 0
    · have ez : (b - (a - 1) == 0) = true := by simpa using z
      left; exact ⟨rfl, by simp [ez]⟩
    · right
      refine ⟨rfl, ?_⟩
      have ez : (b - (a - 1) == 0) = false := by simpa using z
      by_cases m : a = 18446744073709551615
      · have em : (a == 18446744073709551615) = true := by simpa using m
        exact ⟨(a, b, true), by simp [ez, em], ⟨h1, h2, h3, h4, fun _ => ⟨m, by show b = _; omega⟩⟩, by simp⟩
      · have e2 : IntKind.wrap .u64 (a + 1) = a + 1 := u64_in (by omega) (by omega)
        have em : (a == 18446744073709551615) = false := by simpa using m
        exact ⟨(a + 1, b, false), by simp [ez, em, e2], ⟨by simp only; omega, by simp only; omega, by simp only; omega, h4, by simp⟩, fun _ => by simp only; omega⟩
theorem wrap_succ {i : Nat} (h : i ≤ 1000000000) : IntKind.wrap .i64 ((i : Int) + 1) = ((i + 1 : Nat) : Int) := by rw [i64_in (by omega) (by omega)]; omega
theorem rises_p16 (l : List Act) (hl : l.length ≤ 1048576) : ∀ (m k i : Nat) (last : Int) (sm over : Bool) (w : Win), i + m = l.length → V w → (sm = true → w.2.2 = false → last < w.1) → (over = true → w.2.2 = true) →
    law18_OracleRises_p16 (k + m + 1) l last sm over (i : Int) w = some (.inl ())
  | 0, k, i, last, sm, over, w, h, _, _, _ => by
    have : ¬ ((i : Int) < (l.length : Int)) := by omega
    rw [law18_OracleRises_p16]; simp [this]
  | m + 1, k, i, last, sm, over, w, h, hw, hs, ho => by
    have hi : (i : Int) < (l.length : Int) := by omega
    have hi' : i < l.length := by omega
    have ih := rises_p16 l hl m k (i + 1)
    rw [show k + (m + 1) + 1 = (k + m + 1) + 1 by omega, law18_OracleRises_p16, at?_lt hi']
    by_cases h200 : (i : Int) < 200
    case neg => simp [hi, h200]
    simp only [hi, h200, decide_true, cond_true, Option.bind_some]
    rw [wrap_succ (by omega)]
    generalize ((i + 1 : Nat) : Int) = j at ih ⊢
    by_cases d0 : l[i].1 = 0
    · obtain ⟨w', e, h1, h2⟩ := extend_V (k + m + 1) hw l[i].2
      rw [h1]
      by_cases he : e = 0
      · obtain ⟨h3, h4, h5⟩ := h2 he
        have := ih last sm over w' (by omega) h3 (fun a b => by rw [h4]; exact hs a (by rw [← h5]; exact b)) (fun a => by rw [h5]; exact ho a)
        simp [d0, he, may_true _ h3, this]
      · have := ih last sm over w (by omega) hw hs ho
        have he' : (e == 0) = false := by simpa using he
        simp [d0, he', may_true _ hw, this]
    have e0 : (l[i].1 == 0) = false := by simpa using d0
    by_cases d1 : l[i].1 = 1
    · obtain ⟨w', h1, h2, h3, h4⟩ := recover_V (k + m + 1) hw
      have h5 : w'.2.2 = false → w.2.2 = false := fun a => by
        cases hc : w.2.2 with
        | false => rfl
        | true => rw [h4 hc] at a; simp at a
      have := ih last sm over w' (by omega) h2 (fun a b => Int.lt_of_lt_of_le (hs a (h5 b)) h3) (fun a => h4 (ho a))
      simp [d1, h1, may_true _ h2, this]
    have e1 : (l[i].1 == 1) = false := by simpa using d1
    simp only [e0, e1, cond_false]
    rcases take_V (k + m + 1) hw with ⟨h1, h2⟩ | ⟨h1, h2⟩ | ⟨h1, w', h2, h3, h4⟩
    · have t1 := ih last sm true w (by omega) hw hs (fun _ => h1)
      rw [h2]
      cases over <;> simp [t1]
    · have ho' : over = false := by
        cases hc : over with
        | false => rfl
        | true => rw [ho hc] at h1; simp at h1
      have t1 := ih last sm false w (by omega) hw hs (by simp)
      rw [h2, ho']
      simp [t1]
    · have ho' : over = false := by
        cases hc : over with
        | false => rfl
        | true => rw [ho hc] at h1; simp at h1
      have t1 := ih w.1 true false w' (by omega) h3 (fun _ b => h4 b) (by simp)
      have hz : (w.1 == 0) = false := by have := hw.1; simp; omega
      rw [h2, ho']
      cases sm with
      | false => simp [hz, may_true _ h3, t1]
      | true =>
        have hlt := hs rfl h1
        have : decide (w.1 ≤ last) = false := by simp; omega
        simp [hz, may_true _ h3, t1, this]
theorem awake_eq (k : Nat) : law18_awake k = some true := by
  unfold law18_awake
  have h1 : oracle_New k 1 = some ((1, (0, false)), 0) := rfl
  have h2 : oracle_Extend k (1, (0, false)) 2 = some ((1, (2, false)), 0) := by unfold oracle_Extend; rw [check_ok k (by refine ⟨?_, ?_, ?_, ?_, ?_⟩ <;> simp : V (1, (0, false)))]; decide
  have h3 : oracle_Take k (1, (2, false)) = some ((2, (2, false)), 1, 0) := by
    unfold oracle_Take oracle_Left
    rw [check_ok k (by refine ⟨?_, ?_, ?_, ?_, ?_⟩ <;> simp : V (1, (2, false)))]; decide
  have h4 : oracle_Left k (2, (2, false)) = some 1 := by
    unfold oracle_Left
    rw [check_ok k (by refine ⟨?_, ?_, ?_, ?_, ?_⟩ <;> simp : V (2, (2, false)))]; decide
  simp [h1, h2, h3, h4]
theorem law_OracleRises (w : Win) (l : List Act) (h1 : 0 ≤ w.1) (h2 : w.1 ≤ 18446744073709551615) (h3 : 0 ≤ w.2.1) (h4 : w.2.1 ≤ 18446744073709551615) (hl : l.length ≤ 1048576) : ∃ k, law18_OracleRises k w l = some true := by
  refine ⟨l.length + 1, ?_⟩
  unfold law18_OracleRises
  rcases may_V (l.length + 1) h1 h2 h3 h4 with hV | hF
  · have := rises_p16 l hl l.length 0 0 0 false false w (by omega) hV (by simp) (by simp)
    rw [show 0 + l.length + 1 = l.length + 1 by omega, show ((0 : Nat) : Int) = 0 from rfl] at this
    rw [may_true _ hV]
    simp [this, awake_eq]
  · rw [hF]; simp [awake_eq]
end Go.Proofs.Ytlmfnbcnfhiheaa.gg
