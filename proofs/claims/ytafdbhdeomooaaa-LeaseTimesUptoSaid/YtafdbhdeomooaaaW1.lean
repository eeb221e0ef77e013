/- Which holds are due: the plain law. -/
import Derived.Test.YtafdbhdeomooaaaG
open Go Go.GG Go.Proofs
set_option linter.unusedVariables false
namespace Go.Proofs.Ytafdbhdeomooaaa.gg
abbrev Hold := List UInt8 × Int × Int
def tm (n : Int) : Bool := decide (n ≥ 0) && decide (n ≤ 2147483647)
theorem time_eq (k : Nat) (n : Int) : lease_time k n = some (tm n) := by
  unfold lease_time tm
  cases decide (n ≥ 0) <;> simp
def H (x : Hold) : Bool := decide ((x.1.length : Int) ≤ 64) && (x.2.1 != 0 && tm x.2.2)
theorem hold_eq (k : Nat) (x : Hold) : lease_hold k x = some (H x) := by
  unfold lease_hold H
  rw [time_eq]
  cases decide ((x.1.length : Int) ≤ 64) <;> cases (x.2.1 != 0) <;> simp
theorem refHold_eq (k : Nat) (x : Hold) : ref17_Hold k x = some (H x) := by
  unfold ref17_Hold H tm
  cases decide ((x.1.length : Int) ≤ 64) <;> cases (x.2.1 != 0) <;> cases decide (x.2.2 ≥ 0) <;> simp
/-- Holds that are right, from a place on. -/
def Gd (l : List Hold) : Nat → Nat → Bool
  | 0, _ => true
  | m + 1, i => H (l.getD i ([], 0, 0)) && (decide (i = 0) || !(strLess (l.getD i ([], 0, 0)).1 (l.getD (i - 1) ([], 0, 0)).1 || (l.getD i ([], 0, 0)).1 == (l.getD (i - 1) ([], 0, 0)).1)) && Gd l m (i + 1)
theorem at_get {l : List Hold} {i : Nat} (h : i < l.length) : at? l (i : Int) = some (l.getD i ([], 0, 0)) := by
  rw [at?_lt h, List.getD_eq_getElem?_getD, List.getElem?_eq_getElem h]; rfl
theorem wrap_succ {i : Nat} (h : i ≤ 1000000000) : IntKind.wrap .i64 ((i : Int) + 1) = ((i + 1 : Nat) : Int) := by rw [i64_in (by omega) (by omega)]; omega
theorem wrap_pred {i : Nat} (h : i ≤ 1000000000) (h0 : 0 < i) : IntKind.wrap .i64 ((i : Int) - 1) = ((i - 1 : Nat) : Int) := by rw [i64_in (by omega) (by omega)]; omega
theorem check_p6 (l : List Hold) (hl : l.length ≤ 1048576) : ∀ (m k i : Nat), i + m = l.length → lease_Check_p6 (k + m + 1) l l (l.length : Int) (i : Int) = some (cond (Gd l m i) (.inl l) (.inr 1))
  | 0, k, i, h => by
    have : ¬ ((i : Int) < (l.length : Int)) := by omega
    rw [lease_Check_p6]; simp [this, Gd]
  | m + 1, k, i, h => by
    have hi : (i : Int) < (l.length : Int) := by omega
    have ih := check_p6 l hl m k (i + 1) (by omega)
    rw [show k + (m + 1) + 1 = (k + m + 1) + 1 by omega, lease_Check_p6, at_get (by omega : i < l.length)]
    simp only [hi, decide_true, cond_true, Option.bind_some, hold_eq]
    rw [wrap_succ (by omega), ih]
    simp only [Gd]
    cases hH : H (l.getD i ([], 0, 0)) with
    | false => simp
    | true =>
      by_cases h0 : i = 0
      · subst h0; simp
      · have hp : (i : Int) > 0 := by omega
        rw [wrap_pred (by omega) (by omega), at_get (by omega : i - 1 < l.length)]
        simp only [hp, decide_true, cond_true, Option.bind_some, Bool.not_true, cond_false, h0, decide_false, Bool.false_or, Bool.true_and]
        cases (strLess (l.getD i ([], 0, 0)).1 (l.getD (i - 1) ([], 0, 0)).1 || (l.getD i ([], 0, 0)).1 == (l.getD (i - 1) ([], 0, 0)).1) <;> simp
theorem may_p14 (l : List Hold) (hl : l.length ≤ 1048576) : ∀ (m k i : Nat), i + m = l.length → ref17_May_p14 (k + m + 1) l (i : Int) = some (cond (Gd l m i) (.inl ()) (.inr false))
  | 0, k, i, h => by
    have : ¬ ((i : Int) < (l.length : Int)) := by omega
    rw [ref17_May_p14]; simp [this, Gd]
  | m + 1, k, i, h => by
    have hi : (i : Int) < (l.length : Int) := by omega
    have ih := may_p14 l hl m k (i + 1) (by omega)
    rw [show k + (m + 1) + 1 = (k + m + 1) + 1 by omega, ref17_May_p14, at_get (by omega : i < l.length)]
    simp only [hi, decide_true, cond_true, Option.bind_some, refHold_eq]
    rw [wrap_succ (by omega), ih]
    simp only [Gd]
    cases hH : H (l.getD i ([], 0, 0)) with
    | false => simp
    | true =>
      by_cases h0 : i = 0
      · subst h0; simp
      · have hp : (i : Int) > 0 := by omega
        rw [wrap_pred (by omega) (by omega), at_get (by omega : i - 1 < l.length)]
        simp only [hp, decide_true, cond_true, Option.bind_some, Bool.not_true, cond_false, h0, decide_false, Bool.false_or, Bool.true_and]
        cases (strLess (l.getD i ([], 0, 0)).1 (l.getD (i - 1) ([], 0, 0)).1 || (l.getD i ([], 0, 0)).1 == (l.getD (i - 1) ([], 0, 0)).1) <;> simp
def may (l : List Hold) : Bool := !decide ((l.length : Int) > 1024) && Gd l l.length 0
theorem May_eq {k : Nat} {l : List Hold} (hl : l.length ≤ 1048576) (hk : l.length + 1 ≤ k) : ref17_May k l = some (may l) := by
  unfold ref17_May may
  have := may_p14 l hl l.length (k - l.length - 1) 0 (by omega)
  rw [show k - l.length - 1 + l.length + 1 = k by omega] at this
  rw [show ((0 : Nat) : Int) = 0 from rfl] at this
  cases hg : decide ((l.length : Int) > 1024) with
  | true => simp
  | false =>
    simp only [cond_false, this, Option.bind_some, Bool.not_false, Bool.true_and]
    cases Gd l l.length 0 <;> rfl
theorem Check_eq {k : Nat} {l : List Hold} (hl : l.length ≤ 1048576) (hk : l.length + 1 ≤ k) : lease_Check k l = some (cond (may l) 0 1) := by
  unfold lease_Check may
  have := check_p6 l hl l.length (k - l.length - 1) 0 (by omega)
  rw [show k - l.length - 1 + l.length + 1 = k by omega, show ((0 : Nat) : Int) = 0 from rfl] at this
  rw [this]
  cases Gd l l.length 0 <;> simp
  cases decide ((1024 : Int) < l.length) <;> rfl
theorem due_p14 (now : Int) (l : List Hold) (hl : l.length ≤ 1048576) : ∀ (m k i : Nat) (a b : List Hold), i + m = l.length → a.length + b.length ≤ i →
    lease_Due_p14 (k + m + 1) now l (l.length : Int) (i : Int) a b = some (a ++ (l.drop i).filter (fun x => decide (x.2.2 ≤ now)), b ++ (l.drop i).filter (fun x => !decide (x.2.2 ≤ now)))
  | 0, k, i, a, b, h, _ => by
    have : ¬ ((i : Int) < (l.length : Int)) := by omega
    rw [lease_Due_p14]; simp [this, List.drop_eq_nil_of_le (by omega : l.length ≤ i)]
  | m + 1, k, i, a, b, h, hs => by
    have hi : (i : Int) < (l.length : Int) := by omega
    have hi' : i < l.length := by omega
    rw [show k + (m + 1) + 1 = (k + m + 1) + 1 by omega, lease_Due_p14, at?_lt hi']
    simp only [hi, decide_true, cond_true, Option.bind_some]
    rw [wrap_succ (by omega), room_of (by simp; omega), room_of (by simp; omega), List.drop_eq_getElem_cons hi']
    cases hd : decide (l[i].2.2 ≤ now) with
    | true =>
      simp only [cond_true, due_p14 now l hl m k (i + 1) (a ++ [l[i]]) b (by omega) (by simp; omega), List.filter_cons, hd, if_true, Bool.not_true, Bool.false_eq_true, if_false, List.append_assoc, List.singleton_append]
    | false =>
      simp only [cond_false, cond_true, due_p14 now l hl m k (i + 1) a (b ++ [l[i]]) (by omega) (by simp; omega), List.filter_cons, hd, if_true, Bool.not_false, Bool.false_eq_true, if_false, List.append_assoc, List.singleton_append]
abbrev dueOf (now : Int) (l : List Hold) := l.filter fun x => decide (x.2.2 ≤ now)
abbrev liveOf (now : Int) (l : List Hold) := l.filter fun x => !decide (x.2.2 ≤ now)
theorem Due_eq {k : Nat} {l : List Hold} (now : Int) (hl : l.length ≤ 1048576) (hk : l.length + 1 ≤ k) : lease_Due k l now = some (cond (may l && tm now) (dueOf now l, liveOf now l, 0) ([], [], 1)) := by
  unfold lease_Due
  have := due_p14 now l hl l.length (k - l.length - 1) 0 [] [] (by omega) (by simp)
  rw [show k - l.length - 1 + l.length + 1 = k by omega, show ((0 : Nat) : Int) = 0 from rfl] at this
  rw [Check_eq hl hk, time_eq, this]
  cases may l <;> cases tm now <;> simp
theorem law_p40 (now : Int) (f : Int) (u v : List Hold) (l : List Hold) (hl : l.length ≤ 1048576) : ∀ (m k i : Nat) (a b : List Hold), i + m = l.length → a.length + b.length ≤ i →
    law17_LeaseTimes_p40 (k + m + 1) l now f (i : Int) u v a b = some (f, u, v, a ++ (l.drop i).filter (fun x => decide (x.2.2 ≤ now)), b ++ (l.drop i).filter (fun x => !decide (x.2.2 ≤ now)))
  | 0, k, i, a, b, h, _ => by
    have : ¬ ((i : Int) < (l.length : Int)) := by omega
    rw [law17_LeaseTimes_p40]; simp [this, List.drop_eq_nil_of_le (by omega : l.length ≤ i)]
  | m + 1, k, i, a, b, h, hs => by
    have hi : (i : Int) < (l.length : Int) := by omega
    have hi' : i < l.length := by omega
    rw [show k + (m + 1) + 1 = (k + m + 1) + 1 by omega, law17_LeaseTimes_p40, at?_lt hi']
    simp only [hi, decide_true, cond_true, Option.bind_some]
    rw [wrap_succ (by omega), room_of (by simp; omega), room_of (by simp; omega), List.drop_eq_getElem_cons hi']
    cases hd : decide (l[i].2.2 ≤ now) with
    | true =>
      simp only [cond_true, law_p40 now f u v l hl m k (i + 1) (a ++ [l[i]]) b (by omega) (by simp; omega), List.filter_cons, hd, if_true, Bool.not_true, Bool.false_eq_true, if_false, List.append_assoc, List.singleton_append]
    | false =>
      simp only [cond_false, cond_true, law_p40 now f u v l hl m k (i + 1) a (b ++ [l[i]]) (by omega) (by simp; omega), List.filter_cons, hd, if_true, Bool.not_false, Bool.false_eq_true, if_false, List.append_assoc, List.singleton_append]
theorem eqb_refl (e : Hold) : T.eqb (.pair .str (.pair (.int .u64) (.int .i64))) e e = true := by simp [T.eqb]
theorem same_p14 (l : List Hold) (hl : l.length ≤ 1048576) : ∀ (m k i : Nat), i + m = l.length → ref17_Same_p14 (k + m + 1) l l (i : Int) = some (.inl ())
  | 0, k, i, h => by
    have : ¬ ((i : Int) < (l.length : Int)) := by omega
    rw [ref17_Same_p14]; simp [this]
  | m + 1, k, i, h => by
    have hi : (i : Int) < (l.length : Int) := by omega
    rw [show k + (m + 1) + 1 = (k + m + 1) + 1 by omega, ref17_Same_p14, at_get (by omega : i < l.length)]
    simp only [hi, decide_true, cond_true, Option.bind_some]
    rw [eqb_refl, wrap_succ (by omega), same_p14 l hl m k (i + 1) (by omega)]
    rfl
theorem Same_refl {k : Nat} {l : List Hold} (hl : l.length ≤ 1048576) (hk : l.length + 1 ≤ k) : ref17_Same k l l = some true := by
  unfold ref17_Same
  have := same_p14 l hl l.length (k - l.length - 1) 0 (by omega)
  rw [show k - l.length - 1 + l.length + 1 = k by omega, show ((0 : Nat) : Int) = 0 from rfl] at this
  rw [this]
  simp
theorem awake_eq {k : Nat} (hk : 3 ≤ k) : law17_awake k = some true := by
  unfold law17_awake
  have h1 : lease_Until k 5 10 = some (15, 0) := by
    unfold lease_Until
    rw [time_eq]
    decide
  rw [h1, Due_eq 15 (by decide) (by simp; omega)]
  decide
theorem Until_eq (k : Nat) (now ttl : Int) (h0 : -9223372036854775808 ≤ now) (h1 : now ≤ 9223372036854775807) :
    lease_Until k now ttl = some (cond (tm now && (decide (1 ≤ ttl) && decide (ttl ≤ 1048576))) (intMin 2147483647 (now + ttl), 0) (0, 1)) := by
  unfold lease_Until
  rw [time_eq]
  cases ht : tm now with
  | false => simp
  | true =>
    by_cases h2 : ttl < 1
    · have h3 : ¬ (1 ≤ ttl) := by omega
      simp [h2, h3]
    · have h3 : 1 ≤ ttl := by omega
      by_cases h4 : ttl > 1048576
      · have h5 : ¬ (ttl ≤ 1048576) := by omega
        simp [h2, h3, h4, h5]
      · have h5 : ttl ≤ 1048576 := by omega
        simp only [tm, Bool.and_eq_true, decide_eq_true_eq] at ht
        rw [i64_in (n := now + ttl) (by omega) (by omega)]
        simp [h2, h3, h4, h5]
theorem law_LeaseTimes (l : List Hold) (now ttl : Int) (h0 : -9223372036854775808 ≤ now) (h1 : now ≤ 9223372036854775807) (hl : l.length ≤ 1048576) : ∃ k, law17_LeaseTimes k l now ttl = some true := by
  refine ⟨l.length + 4, ?_⟩
  have hp4 : ∀ a b, law17_LeaseTimes_p4 (l.length + 4) l now ttl a b = some (l, now, ttl, a, b, tm now) := by
    intro a b
    unfold law17_LeaseTimes_p4 tm
    cases decide (now ≥ 0) <;> simp
  have hp6 : law17_LeaseTimes_p6 (l.length + 4) l now ttl (cond (tm now && (decide (1 ≤ ttl) && decide (ttl ≤ 1048576))) (intMin 2147483647 (now + ttl), (0 : Int)) (0, 1)).1 (cond (tm now && (decide (1 ≤ ttl) && decide (ttl ≤ 1048576))) (intMin 2147483647 (now + ttl), (0 : Int)) (0, 1)).2 (tm now) = some (.inl (l, now, tm now)) := by
    unfold law17_LeaseTimes_p6
    cases ht : tm now with
    | false => simp
    | true =>
      by_cases h2 : 1 ≤ ttl
      · by_cases h4 : ttl ≤ 1048576
        · have h3 : ¬ (ttl < 1) := by omega
          have h5 : ¬ (ttl > 1048576) := by omega
          simp only [tm, Bool.and_eq_true, decide_eq_true_eq] at ht
          rw [i64_in (n := now + ttl) (by omega) (by omega)]
          simp only [h2, h4, h3, h5, decide_true, decide_false, Bool.and_true, cond_true, cond_false, Bool.not_true]
          by_cases hm : now + ttl < 2147483647
          · have e : intMin 2147483647 (now + ttl) = now + ttl := by simp [intMin, hm]
            have e2 : ¬ (now + ttl > 2147483647) := by omega
            rw [e]; simp [e2]
          · have e : intMin 2147483647 (now + ttl) = 2147483647 := by simp [intMin, hm]
            have e2 : ¬ (now + ttl < 2147483647) := hm
            rw [e]; simp [e2]
        · have h3 : ¬ (ttl < 1) := by omega
          have h5 : ttl > 1048576 := by omega
          simp [h2, h4, h3, h5]
      · have h3 : ttl < 1 := by omega
        simp [h2, h3]
  have hdue := Due_eq (k := l.length + 4) now hl (by omega)
  have hmay := May_eq (k := l.length + 4) hl (by omega)
  have haw := awake_eq (k := l.length + 4) (by omega)
  have h40 := fun f u v => law_p40 now f u v l hl l.length 3 0 [] [] (by omega) (by simp)
  simp only [List.drop_zero, List.nil_append] at h40
  rw [show 3 + l.length + 1 = l.length + 4 by omega, show ((0 : Nat) : Int) = 0 from rfl] at h40
  have s1 : ref17_Same (l.length + 4) (dueOf now l) (dueOf now l) = some true := Same_refl (Nat.le_trans (List.length_filter_le _ _) hl) (Nat.le_trans (Nat.succ_le_succ (List.length_filter_le _ _)) (by omega))
  have s2 : ref17_Same (l.length + 4) (liveOf now l) (liveOf now l) = some true := Same_refl (Nat.le_trans (List.length_filter_le _ _) hl) (Nat.le_trans (Nat.succ_le_succ (List.length_filter_le _ _)) (by omega))
  unfold law17_LeaseTimes
  rw [Until_eq _ now ttl h0 h1]
  simp only [Option.bind_some, hp4, hp6, Sum.elim_inl, hdue, hmay, haw]
  cases hm : may l <;> cases ht : tm now <;> simp [h40, s1, s2]
  all_goals rfl
end Go.Proofs.Ytafdbhdeomooaaa.gg
