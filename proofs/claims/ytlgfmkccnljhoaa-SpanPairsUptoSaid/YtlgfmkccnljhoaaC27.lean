/- The code does what its parts' functions say. -/
import Derived.Test.YtlgfmkccnljhoaaC26
import Derived.LoopN
namespace Go.GG
open Go.RowKit
section
variable {P : Program} {E : Entry} {tab : Tab} {Γ : Env} {Λ : Parts}

theorem aexec_sound (hT : TabOk P tab) (hΓ : EnvOk P Γ) (hm : P.follows .mixedOrders = true) : ∀ (c : Code) (n k : Nat), PartsOk tab Γ Λ n c → regionsOk E.N c = true → ∀ {R : Type} {K : AE → St → Option R} {r : R} {s : St} {a : Act} {w : World} {Q : Exit → Act → World → Prop},
    aexec tab Γ Λ k n c s K = some r → Rel' P E s a w → (∀ e s' a' w', K e s' = some r → Rel' P E s' a' w' → Q e.out a' w') → c.wp P Q a w
  | .region id ops draw, n, k, _, hreg, R, K, r, s, a, w, Q, he, h, hQ => by
    simp only [aexec] at he
    exact region_sound hT hΓ hm hreg he h fun s' a' w' hk hr => hQ .normal s' a' w' hk hr
  | .seq x y, n, k, hp, hreg, R, K, r, s, a, w, Q, he, h, hQ => by
    simp only [regionsOk, Bool.and_eq_true] at hreg
    simp only [PartsOk] at hp
    obtain ⟨hpart, hpx, hpy⟩ := hp
    simp only [aexec] at he
    -- what comes after the first code
    have next : ∀ e s' a' w', thenA K (fun s => aexec tab Γ Λ k (n + 1 + nodes x) y s K) e s' = some r → Rel' P E s' a' w' → Exit.then (y.wp P Q) Q e.out a' w' := by
      intro e s' a' w' hk hr
      cases e with
      | normal => exact aexec_sound hT hΓ hm y _ k hpy hreg.2 hk hr hQ
      | exit id => exact hQ (.exit id) s' a' w' hk hr
      | ret => exact hQ .ret s' a' w' hk hr
    refine wp_seq ?_
    split at he
    · exact aexec_sound hT hΓ hm x _ k hpx hreg.1 he h next
    · rename_i u hu
      rw [hu] at hpart
      simp only [PartOk] at hpart
      unfold viaPart at he
      split at he
      · simp at he
      · rename_i z hz
        rw [Option.bind_eq_some_iff] at he
        obtain ⟨o, ho, hd⟩ := he
        rw [hpart] at ho
        refine aexec_sound hT hΓ hm x _ k hpx hreg.1 ho (coerce_sound hz h) fun e s' a' w' hk hr => ?_
        obtain ⟨s'', hk', hr'⟩ := leave_dispatch hk hd hr
        exact next e s'' a' w' hk' hr'
  | .cond c x y, n, k, hp, hreg, R, K, r, s, a, w, Q, he, h, hQ => by
    simp only [regionsOk, Bool.and_eq_true] at hreg
    simp only [PartsOk] at hp
    simp only [aexec] at he
    have ⟨m, h'⟩ := h
    have hv := h'.eval c
    split at he
    · rename_i b hb
      rw [hb] at hv
      refine wp_cond (rep_bool hv) ?_
      cases b with
      | true => exact aexec_sound hT hΓ hm x _ k hp.1 hreg.1 he h hQ
      | false => exact aexec_sound hT hΓ hm y _ k hp.2 hreg.2 he h hQ
    · simp at he
  | .block id c, n, k, hp, hreg, R, K, r, s, a, w, Q, he, h, hQ => by
    simp only [regionsOk] at hreg
    simp only [PartsOk] at hp
    simp only [aexec] at he
    refine wp_block (aexec_sound hT hΓ hm c _ k hp hreg he h fun e s' a' w' hk hr => ?_)
    cases e with
    | normal => exact hQ .normal s' a' w' hk hr
    | ret => exact hQ .ret s' a' w' hk hr
    | exit id' =>
      simp only [AE.out, Exit.inBlock]
      simp only at hk
      cases hb : Nat.beq id' id with
      | true =>
        rw [hb] at hk
        rw [if_pos (Nat.eq_of_beq_eq_true hb)]
        exact hQ .normal s' a' w' hk hr
      | false =>
        rw [hb] at hk
        rw [if_neg (fun e => by subst e; simp at hb)]
        exact hQ (.exit id') s' a' w' hk hr
  | .loop c, n, k, hp, hreg, R, K, r, s, a, w, Q, he, h, hQ => by
    simp only [regionsOk] at hreg
    simp only [PartsOk] at hp
    obtain ⟨hpart, hpc⟩ := hp
    simp only [aexec] at he
    split at he
    · simp at he
    · rename_i u hu
      rw [hu] at hpart
      simp only [PartOk] at hpart
      obtain ⟨h0, hs⟩ := hpart
      unfold viaPart at he
      split at he
      · simp at he
      · rename_i z hz
        rw [Option.bind_eq_some_iff] at he
        obtain ⟨o, ho, hd⟩ := he
        have rounds : ∀ k x a w, u.F k x = some o → Rel' P E (u.head.state x) a w → Code.rounds P c Q k a w := by
          intro k
          induction k with
          | zero => intro x a w hx _; rw [h0] at hx; simp at hx
          | succ k ih =>
            intro x a w hx hr
            rw [hs] at hx
            rw [rounds_succ]
            refine aexec_sound hT hΓ hm c _ k hpc hreg hx hr fun e s' a' w' hk hr' => ?_
            cases e with
            | normal =>
              simp only at hk
              split at hk
              · simp at hk
              · rename_i y hy
                exact ih y a' w' hk (coerce_sound hy hr')
            | ret =>
              obtain ⟨s'', hk', hr''⟩ := leave_dispatch hk hd hr'
              exact hQ .ret s'' a' w' hk' hr''
            | exit id =>
              obtain ⟨s'', hk', hr''⟩ := leave_dispatch hk hd hr'
              exact hQ (.exit id) s'' a' w' hk' hr''
        exact wp_loop_rounds k (rounds k z a w ho (coerce_sound hz h))
  | .exit id, n, k, _, _, R, K, r, s, a, w, Q, he, h, hQ => wp_exit (hQ (.exit id) s a w he h)
  | .ret, n, k, _, _, R, K, r, s, a, w, Q, he, h, hQ => wp_ret (hQ .ret s a w he h)
  | .skip, n, k, _, _, R, K, r, s, a, w, Q, he, h, hQ => wp_skip (hQ .normal s a w he h)
  | .label l, n, k, _, _, R, K, r, s, a, w, Q, he, h, hQ => wp_label (hQ .normal s a w he h)
  | .rangeFunc _ _ _ _, _, _, _, _, _, _, _, _, _, _, _, he, _, _ => by simp [aexec] at he
  | .scope _, _, _, _, _, _, _, _, _, _, _, _, he, _, _ => by simp [aexec] at he
  | .goto _, _, _, _, _, _, _, _, _, _, _, _, he, _, _ => by simp [aexec] at he
  | .refuse _, _, _, _, _, _, _, _, _, _, _, _, he, _, _ => by simp [aexec] at he
end
end Go.GG
