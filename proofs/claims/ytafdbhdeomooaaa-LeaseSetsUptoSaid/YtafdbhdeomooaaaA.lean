/- Holds: which may be. -/
import Derived.Test.YtafdbhdeomooaaaM
import Derived.Test.YtafdbhdeomooaaaL10
open Go Go.GG
set_option linter.unusedVariables false
namespace Go.Proofs.Ytafdbhdeomooaaa.gg
abbrev Hold := List UInt8 × Int × Int
abbrev hd0 : Hold := ([], 0, 0)
def tm (n : Int) : Bool := decide (n ≥ 0) && decide (n ≤ 2147483647)
theorem time_eq (n : Int) : lease_time' n = some (tm n) := by
  unfold lease_time' tm
  cases decide (n ≥ 0) <;> simp
theorem tm_iff {n : Int} : tm n = true ↔ 0 ≤ n ∧ n ≤ 2147483647 := by simp [tm]
def H (x : Hold) : Bool := decide ((x.1.length : Int) ≤ 64) && (x.2.1 != 0 && tm x.2.2)
theorem hold_eq (x : Hold) : lease_hold' x = some (H x) := by
  unfold lease_hold' H
  rw [time_eq]
  cases decide ((x.1.length : Int) ≤ 64) <;> cases (x.2.1 != 0) <;> simp
theorem refHold_eq (x : Hold) : ref17_Hold' x = some (H x) := by
  unfold ref17_Hold' H tm
  cases decide ((x.1.length : Int) ≤ 64) <;> cases (x.2.1 != 0) <;> cases decide (x.2.2 ≥ 0) <;> simp
def leS (a b : List UInt8) : Bool := strLess a b || a == b
def okH (l : List Hold) (i : Nat) : Bool := H (nth l i hd0) && (decide (i = 0) || !leS (nth l i hd0).1 (nth l (i - 1) hd0).1)
def may (l : List Hold) : Bool := !decide ((l.length : Int) > 1024) && allB l.length (okH l)
theorem Check_eq {l : List Hold} (hl : l.length ≤ 1048576) : lease_Check' l = some (cond (may l) 0 1) := by
  have key := check_loop l.length (fun i => lease_Check_p6' l l (l.length : Int) (i : Int)) (okH l) (a := some (.inl l)) (b := some (.inr 1)) (fun i hi => by
    try dsimp only
    rw [lease_Check_p6_eq, decide_eq_true (by omega : (i : Int) < (l.length : Int)), at?_getD hi hd0, wrap_succ (by omega)]
    simp only [cond_true, Option.bind_some, hold_eq, okH]
    cases H (nth l i hd0) with
    | false => rfl
    | true =>
      by_cases h0 : i = 0
      · subst h0; rfl
      · rw [wrap_pred (by omega) (by omega), at?_getD (by omega : i - 1 < l.length) hd0, decide_eq_true (by omega : (i : Int) > 0), decide_eq_false h0]
        simp only [Bool.not_true, cond_false, cond_true, Option.bind_some, leS]
        cases (strLess (nth l i hd0).1 (nth l (i - 1) hd0).1 || (nth l i hd0).1 == (nth l (i - 1) hd0).1) <;> rfl) (by
    try dsimp only
    rw [lease_Check_p6_eq, decide_eq_false (by omega : ¬ (l.length : Int) < (l.length : Int))]; rfl)
  unfold lease_Check' may
  simp only [show ((0 : Nat) : Int) = 0 from rfl] at key
  rw [key]
  cases allB l.length (okH l) <;> cases h : decide ((l.length : Int) > 1024) <;> simp [h]
theorem May_eq {l : List Hold} (hl : l.length ≤ 1048576) : ref17_May' l = some (may l) := by
  have key := check_loop l.length (fun i => ref17_May_p14' l (i : Int)) (okH l) (a := some (.inl ())) (b := some (.inr false)) (fun i hi => by
    try dsimp only
    rw [ref17_May_p14_eq, decide_eq_true (by omega : (i : Int) < (l.length : Int)), at?_getD hi hd0, wrap_succ (by omega)]
    simp only [cond_true, Option.bind_some, refHold_eq, okH]
    cases H (nth l i hd0) with
    | false => rfl
    | true =>
      by_cases h0 : i = 0
      · subst h0; rfl
      · rw [wrap_pred (by omega) (by omega), at?_getD (by omega : i - 1 < l.length) hd0, decide_eq_true (by omega : (i : Int) > 0), decide_eq_false h0]
        simp only [Bool.not_true, cond_false, cond_true, Option.bind_some, leS]
        cases (strLess (nth l i hd0).1 (nth l (i - 1) hd0).1 || (nth l i hd0).1 == (nth l (i - 1) hd0).1) <;> rfl) (by
    try dsimp only
    rw [ref17_May_p14_eq, decide_eq_false (by omega : ¬ (l.length : Int) < (l.length : Int))]; rfl)
  unfold ref17_May' may
  simp only [show ((0 : Nat) : Int) = 0 from rfl] at key
  rw [key]
  cases allB l.length (okH l) <;> cases decide ((l.length : Int) > 1024) <;> simp
theorem awake_eq : law17_awake' = some true := law17_awake_lm.of_some 20 (by decide +kernel)
theorem hold_eqb (x y : Hold) : T.eqb (.pair .str (.pair (.int .u64) (.int .i64))) x y = true ↔ x = y := eqb_iff (t := .pair .str (.pair (.int .u64) (.int .i64))) rfl x y
theorem turned_eq {l : List Hold} (hl : l.length ≤ 1048576) (now : Int) (f : Int → Option Int) (g : Int → Int) (hf : ∀ x, f x = some (g x)) :
    lease_turned' l now f = some (cond (may l && tm now) (l.map fun h => (h.1, h.2.1, g h.2.2), 0) ([], 1)) := by
  have key : ∀ (i : Nat) (s : List Hold), i ≤ l.length → s = (l.take i).map (fun h => (h.1, h.2.1, g h.2.2)) ++ l.drop i → lease_turned_p16' f (l.length : Int) (i : Int) s = some (l.map fun h => (h.1, h.2.1, g h.2.2)) := by
    apply loop_inv l.length (fun i s => lease_turned_p16' f (l.length : Int) (i : Int) s) (fun i s => s = (l.take i).map (fun h => (h.1, h.2.1, g h.2.2)) ++ l.drop i) (fun r => r = some (l.map fun h => (h.1, h.2.1, g h.2.2)))
    · rintro i s hi rfl
      refine .inl ⟨_, ?_, rfl⟩
      rw [lease_turned_p16_eq, decide_eq_true (by omega : (i : Int) < (l.length : Int)), map_mix_len (f := fun h : Hold => ((h.1, h.2.1, g h.2.2) : Hold)) (by omega), decide_eq_true (by omega : (0 : Int) ≤ (i : Int)), decide_eq_true (by omega : (i : Int) < (l.length : Int))]
      simp only [Bool.and_self, cond_true, Int.toNat_natCast, map_mix_get (f := fun h : Hold => ((h.1, h.2.1, g h.2.2) : Hold)) hi, Option.bind_some, hf]
      rw [wrap_succ (by omega)]
      have := map_mix_set (f := fun h : Hold => ((h.1, h.2.1, g h.2.2) : Hold)) hi
      try dsimp only at this
      rw [this]
    · rintro s rfl
      rw [lease_turned_p16_eq, decide_eq_false (by omega : ¬ (l.length : Int) < (l.length : Int))]
      simp
  unfold lease_turned'
  rw [Check_eq hl, time_eq]
  cases may l with
  | false => rfl
  | true =>
    cases tm now with
    | false => rfl
    | true =>
      simp only [Option.bind_some, cond_true, bne_self_eq_false, cond_false, Bool.not_true, Bool.and_self, slices_Clone_api_Hold_api_Hold']
      rw [room_of (by simp; omega)]
      simp only [List.nil_append, cond_true, Option.bind_some]
      have := key 0 l (by omega) (by simp)
      simp only [show ((0 : Nat) : Int) = 0 from rfl] at this
      rw [this]; rfl
end Go.Proofs.Ytafdbhdeomooaaa.gg
