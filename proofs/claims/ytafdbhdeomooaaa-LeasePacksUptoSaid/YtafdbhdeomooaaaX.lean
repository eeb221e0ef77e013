/- The theorem of moving leases: the plain law. -/
import Derived.Test.YtafdbhdeomooaaaA
open Go Go.GG
set_option linter.unusedVariables false
namespace Go.Proofs.Ytafdbhdeomooaaa.gg
def left (now u : Int) : Int := intMax 0 (IntKind.wrap .i64 (u - now))
def till (now u : Int) : Int := intMin 2147483647 (IntKind.wrap .i64 (u + now))
theorem Pack_eq {l : List Hold} (hl : l.length ≤ 1048576) (now : Int) : lease_Pack' l now = some (cond (may l && tm now) (l.map fun h => (h.1, h.2.1, left now h.2.2), 0) ([], 1)) := by
  unfold lease_Pack'
  rw [turned_eq hl now (fun y => lease_Pack_1' y now) (left now) (fun x => rfl)]
  rfl
theorem Unpack_eq {l : List Hold} (hl : l.length ≤ 1048576) (now : Int) : lease_Unpack' l now = some (cond (may l && tm now) (l.map fun h => (h.1, h.2.1, till now h.2.2), 0) ([], 1)) := by
  unfold lease_Unpack'
  rw [turned_eq hl now (fun y => lease_Unpack_1' y now) (till now) (fun x => rfl)]
  rfl
theorem may_get {l : List Hold} (h : may l = true) {i : Nat} (hi : i < l.length) : H (nth l i hd0) = true ∧ (i = 0 ∨ leS (nth l i hd0).1 (nth l (i - 1) hd0).1 = false) := by
  simp only [may, Bool.and_eq_true] at h
  have := allB_iff.1 h.2 i hi
  simp only [okH, Bool.and_eq_true, Bool.or_eq_true, decide_eq_true_eq, Bool.not_eq_true'] at this
  exact this
theorem H_time {x : Hold} (h : H x = true) : 0 ≤ x.2.2 ∧ x.2.2 ≤ 2147483647 := by
  simp only [H, Bool.and_eq_true] at h
  exact tm_iff.1 h.2.2
theorem left_range {now u : Int} (h0 : 0 ≤ now) (h1 : now ≤ 2147483647) (h2 : 0 ≤ u) (h3 : u ≤ 2147483647) : left now u = (if u - now < 0 then 0 else u - now) ∧ 0 ≤ left now u ∧ left now u ≤ 2147483647 := by
  unfold left intMax
  rw [i64_in (by omega) (by omega)]
  split <;> split <;> omega
theorem packed_may {l : List Hold} {now : Int} (h0 : 0 ≤ now) (h1 : now ≤ 2147483647) (h : may l = true) : may (l.map fun h => (h.1, h.2.1, left now h.2.2)) = true := by
  have h' := h
  simp only [may, Bool.and_eq_true] at h ⊢
  refine ⟨by simpa using h.1, ?_⟩
  rw [allB_iff]
  intro i hi
  simp at hi
  obtain ⟨a, b⟩ := may_get h' hi
  have ht := H_time a
  have e : ∀ j, j < l.length → nth (l.map fun h : Hold => ((h.1, h.2.1, left now h.2.2) : Hold)) j hd0 = ((nth l j hd0).1, (nth l j hd0).2.1, left now (nth l j hd0).2.2) := by
    intro j hj
    rw [getD_lt (by simpa using hj), getD_lt hj]; simp
  simp only [okH]
  rw [e i hi]
  have hl := left_range h0 h1 ht.1 ht.2
  simp only [H, Bool.and_eq_true] at a ⊢
  refine ⟨⟨a.1, a.2.1, tm_iff.2 hl.2⟩, ?_⟩
  rcases b with rfl | b
  · rfl
  · by_cases hz : i = 0
    · subst hz; rfl
    · rw [e (i - 1) (by omega), b]; simp
theorem law_LeasePacks (l : List Hold) (now then_ : Int) (h1 : -9223372036854775808 ≤ now) (h2 : now ≤ 9223372036854775807) (h3 : -9223372036854775808 ≤ then_) (h4 : then_ ≤ 9223372036854775807) (hl : l.length ≤ 1048576) : ∃ k, law17_LeasePacks k l now then_ = some true := by
  refine (law17_LeasePacks_lm l now then_).fin ?_
  unfold law17_LeasePacks'
  rw [Pack_eq hl, May_eq hl, awake_eq]
  simp only [Option.bind_some]
  cases hm : may l with
  | false => rfl
  | true =>
    by_cases a0 : now < 0
    · have : tm now = false := by cases h : tm now with | false => rfl | true => have := tm_iff.1 h; omega
      simp [a0, this]
    · by_cases a1 : now > 2147483647
      · have : tm now = false := by cases h : tm now with | false => rfl | true => have := tm_iff.1 h; omega
        simp [a0, a1, this]
      · have ht : tm now = true := tm_iff.2 (by omega)
        rw [ht, decide_eq_false a0, decide_eq_false a1]
        simp only [Bool.not_true, cond_false, Bool.and_self, cond_true, bne_self_eq_false, List.length_map]
        rw [Unpack_eq (by simpa using hl), packed_may (by omega) (by omega) hm]
        simp only [Option.bind_some, Bool.true_and]
        by_cases b0 : then_ < 0
        · have : tm then_ = false := by cases h : tm then_ with | false => rfl | true => have := tm_iff.1 h; omega
          simp [b0, this]
        · by_cases b1 : then_ > 2147483647
          · have : tm then_ = false := by cases h : tm then_ with | false => rfl | true => have := tm_iff.1 h; omega
            simp [b0, b1, this]
          · have ht' : tm then_ = true := tm_iff.2 (by omega)
            rw [ht', decide_eq_false b0, decide_eq_false b1]
            simp only [cond_false, cond_true, bne_self_eq_false, List.length_map, List.map_map]
            have key := check_loop l.length (fun i => law17_LeasePacks_p42' l now then_ (i : Int) (l.map fun h => (h.1, h.2.1, left now h.2.2)) (l.map ((fun h : Hold => ((h.1, h.2.1, till then_ h.2.2) : Hold)) ∘ fun h => (h.1, h.2.1, left now h.2.2)))) (fun _ => true) (a := some (.inl ())) (b := some (.inr false)) (fun i hi => by
              try dsimp only
              have hg := H_time (may_get hm hi).1
              have hlr := left_range (now := now) (by omega) (by omega) hg.1 hg.2
              rw [law17_LeasePacks_p42_eq, decide_eq_true (by omega : (i : Int) < (l.length : Int)), at?_getD hi hd0]
              simp only [cond_true, Option.bind_some, law17_LeasePacks_p53']
              have e53 : (bif decide (IntKind.wrap .i64 ((nth l i hd0).2.2 - now) < 0) then some (l, now, then_, (i : Int), (0 : Int), (l.map fun h => ((h.1, h.2.1, left now h.2.2) : Hold)), (l.map ((fun h : Hold => ((h.1, h.2.1, till then_ h.2.2) : Hold)) ∘ fun h => (h.1, h.2.1, left now h.2.2)))) else some (l, now, then_, (i : Int), IntKind.wrap .i64 ((nth l i hd0).2.2 - now), (l.map fun h => ((h.1, h.2.1, left now h.2.2) : Hold)), (l.map ((fun h : Hold => ((h.1, h.2.1, till then_ h.2.2) : Hold)) ∘ fun h => (h.1, h.2.1, left now h.2.2)))))
                  = some (l, now, then_, (i : Int), left now (nth l i hd0).2.2, (l.map fun h => ((h.1, h.2.1, left now h.2.2) : Hold)), (l.map ((fun h : Hold => ((h.1, h.2.1, till then_ h.2.2) : Hold)) ∘ fun h => (h.1, h.2.1, left now h.2.2)))) := by
                rw [hlr.1, i64_in (by omega) (by omega)]
                by_cases hx : (nth l i hd0).2.2 - now < 0
                · rw [decide_eq_true hx, if_pos hx]; rfl
                · rw [decide_eq_false hx, if_neg hx]; rfl
              rw [e53]
              simp only [Option.bind_some, wrap_succ (by omega : i ≤ 1000000000000000000), List.length_map, decide_eq_true (by omega : (0 : Int) ≤ (i : Int)), decide_eq_true (by omega : (i : Int) < (l.length : Int)), Bool.and_self, cond_true, Int.toNat_natCast, List.getElem?_map, get?_getD hi hd0, Option.map_some, Function.comp, at?_getD hi hd0]
              have eq1 : T.eqb (.pair .str (.pair (.int .u64) (.int .i64))) ((nth l i hd0).1, (nth l i hd0).2.1, left now (nth l i hd0).2.2) ((nth l i hd0).1, (nth l i hd0).2.1, left now (nth l i hd0).2.2) = true := (hold_eqb _ _).2 rfl
              rw [eq1]
              rw [i64_in (n := 2147483647 - then_) (by omega) (by omega), i64_in (n := then_ + left now (nth l i hd0).2.2) (by omega) (by omega)]
              have et : till then_ (left now (nth l i hd0).2.2) = if left now (nth l i hd0).2.2 < 2147483647 - then_ then then_ + left now (nth l i hd0).2.2 else 2147483647 := by
                unfold till intMin
                rw [i64_in (by omega) (by omega)]
                split <;> split <;> omega
              rw [et]
              by_cases hx : left now (nth l i hd0).2.2 < 2147483647 - then_
              · rw [decide_eq_true hx, if_pos hx, (hold_eqb _ _).2 rfl]; rfl
              · rw [decide_eq_false hx, if_neg hx, (hold_eqb _ _).2 rfl]; rfl) (by
              try dsimp only
              rw [law17_LeasePacks_p42_eq, decide_eq_false (by omega : ¬ (l.length : Int) < (l.length : Int))]; rfl)
            simp only [show ((0 : Nat) : Int) = 0 from rfl] at key
            rw [key, show allB l.length (fun _ => true) = true from allB_iff.2 fun _ _ => rfl]
            rfl
end Go.Proofs.Ytafdbhdeomooaaa.gg
