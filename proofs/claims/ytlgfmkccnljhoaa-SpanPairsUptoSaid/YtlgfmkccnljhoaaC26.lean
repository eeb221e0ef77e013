/- A state in a pattern's form stands for the same machine. -/
import Derived.Test.YtlgfmkccnljhoaaC25
namespace Go.GG
open Go.RowKit
section
variable {P : Program} {E : Entry} {s : St} {a : Act} {w : World}

theorem mem_olds : ∀ {θ : Sub} {R d : Nat}, θ.get R = some (.ref d) → d ∈ θ.olds
  | [], _, _, h => by simp [Sub.get] at h
  | (a, src) :: θ, R, d, h => by
    rw [sub_get_cons] at h
    split at h
    · simp at h; subst h; simp [Sub.olds]
    · have := mem_olds h
      cases src <;> simp [Sub.olds, this]
/-- Two names of one block are one name. -/
theorem olds_inj : ∀ {θ : Sub} {R R' d : Nat}, θ.olds.Nodup → θ.get R = some (.ref d) → θ.get R' = some (.ref d) → R = R'
  | [], _, _, _, _, h, _ => by simp [Sub.get] at h
  | (a, src) :: θ, R, R', d, hn, h, h' => by
    rw [sub_get_cons] at h h'
    have hn' : (Sub.olds θ).Nodup := by
      cases src <;> simp only [Sub.olds] at hn
      · exact (List.nodup_cons.1 hn).2
      · exact hn
      · exact hn
    split at h <;> split at h'
    · omega
    · simp at h; subst h
      simp only [Sub.olds] at hn
      exact absurd (mem_olds h') (List.nodup_cons.1 hn).1
    · simp at h'; subst h'
      simp only [Sub.olds] at hn
      exact absurd (mem_olds h) (List.nodup_cons.1 hn).1
    · exact olds_inj hn' h h'
theorem get_mem : ∀ {θ : Sub} {R : Nat} {src : Src}, θ.get R = some src → (R, src) ∈ θ
  | [], _, _, h => by simp [Sub.get] at h
  | (a, s0) :: θ, R, src, h => by
    rw [sub_get_cons] at h
    split at h
    · rename_i e; subst e; simp at h; subst h; simp
    · simp [get_mem h]
theorem lentOk_get : ∀ {θ : Sub} {R : Nat} {src : Src}, lentOk θ = true → (R, src) ∈ θ → lentBase ≤ R → src = .ref R
  | [], _, _, _, h, _ => by simp at h
  | (a, s0) :: θ, R, src, hl, h, hb => by
    simp only [lentOk, Bool.and_eq_true] at hl
    cases h with
    | head =>
      have hb' : Nat.ble lentBase a = true := by rw [Nat.ble_eq]; exact hb
      cases s0 with
      | ref d =>
        have h1 := hl.1
        simp only [hb', Bool.true_or, cond_true] at h1
        rw [Nat.eq_of_beq_eq_true h1]
      | nil => have h1 := hl.1; simp [hb'] at h1
      | full t xs => have h1 := hl.1; simp [hb'] at h1
    | tail _ h => exact lentOk_get hl.2 h hb
theorem coerce_sound {p : Pat} {x : RD PE.den p.dyn} (hc : coerce p s = some x) (hr : Rel' P E s a w) : Rel' P E (p.state x) a w := by
  obtain ⟨m, h⟩ := hr
  unfold coerce at hc
  split at hc
  · simp at hc
  · rename_i θ0 hb
    split at hc
    · simp at hc
    · rename_i x' θ g hp
      cases hk : (nodup (θ.olds ++ g) && (lentOk θ && θ.all fun q => (patRefs p.dyn).contains q.1)) with
      | false => rw [hk] at hc; simp at hc
      | true =>
        rw [hk] at hc
        simp at hc; subst hc
        simp only [Bool.and_eq_true, List.all_eq_true] at hk
        obtain ⟨hn, hlent, hkeys⟩ := hk
        have hnd := List.nodup_append.1 (nodup_iff hn)
        obtain ⟨mm0, h1, _, h3⟩ := bindStats_ok h .nil hb
        obtain ⟨_, mm, h4, h5, h6, h7⟩ := pickAll_ok h h1 hp
        let m' := look mm
        let μ' := dynMem p.dyn x'
        -- what stands in the new map
        have back : ∀ {R i}, m' R = some i → ∃ src, θ.get R = some src ∧ SrcOk w (okOf E m s.mem w) m src i := fun hi => h4.back hi
        have ofBlock : ∀ {R i b}, m' R = some i → i.block = some b → ∃ d, θ.get R = some (.ref d) ∧ m d = some i := by
          intro R i b hi hbk
          obtain ⟨src, hg, hs⟩ := back hi
          cases src with
          | ref d => exact ⟨d, hg, hs⟩
          | nil => simp only [SrcOk] at hs; subst hs; simp [Impl.block] at hbk
          | full t xs => simp only [SrcOk] at hs; obtain ⟨v, rfl, _⟩ := hs; simp [Impl.block] at hbk
        -- a block of the new state's is one of the old state's
        have alive : ∀ {b}, Vof m' μ' b → ∃ R d i, (μ' R).isSome ∧ θ.get R = some (.ref d) ∧ m d = some i ∧ i.block = some b ∧ (s.mem d).isSome := by
          rintro b ⟨R, c, i, hc, hi, hbk⟩
          obtain ⟨d, hg, hd⟩ := ofBlock hi hbk
          -- by the pattern's own word
          have : (s.mem d).isSome := by
            obtain ⟨src, hsrc, hal⟩ := (h7 (fun _ => True) m' θ ⟨fun _ _ => trivial, fun _ _ _ _ _ _ => trivial⟩ (Ext.refl _) (fun _ _ h => h)).src R (by show (μ' R).isSome = true; rw [hc]; rfl)
            rw [hg] at hsrc; simp at hsrc; subst hsrc
            exact hal d rfl
          exact ⟨R, d, i, by rw [hc]; rfl, hg, hd, hbk, this⟩
        have vof : ∀ b, Vof m' μ' b → Vof m s.mem b := by
          intro b hv
          obtain ⟨R, d, i, _, _, hd, hbk, hal⟩ := alive hv
          obtain ⟨c, hc⟩ := Option.isSome_iff_exists.1 hal
          exact ⟨d, c, i, hc, hd, hbk⟩
        have inj : ∀ r r' i i' bl, (s.mem r).isSome → (s.mem r').isSome → m r = some i → m r' = some i' → i.block = some bl → i'.block = some bl → r = r' := by
          intro r r' i i' bl hr hr' hi hi' hb hb'
          obtain ⟨c, hc⟩ := Option.isSome_iff_exists.1 hr
          obtain ⟨c', hc'⟩ := Option.isSome_iff_exists.1 hr'
          exact h.inj r r' c c' i i' bl hc hc' hi hi' hb hb'
        have lets : Lets E m s w (okOf E m' μ' w) g := by
          refine ⟨fun b hb => ⟨hb.1, hb.2.1, fun hv => hb.2.2 (vof b hv)⟩, fun r hr i b hi hbk => ?_⟩
          obtain ⟨c, hc⟩ := Option.isSome_iff_exists.1 (h6 r hr)
          obtain ⟨i', h8, _, h9⟩ := h.mem r c hc
          rw [hi] at h8; simp at h8; subst h8
          refine ⟨(h9 b hbk).1, .inr (h9 b hbk).2, fun hv => ?_⟩
          obtain ⟨R, d, i', _, hg, hd, hbk', hal⟩ := alive hv
          have := inj r d i i' b (h6 r hr) hal hi hd hbk hbk'
          subst this
          exact hnd.2.2 _ (mem_olds hg) _ hr rfl
        have pk := h7 (okOf E m' μ' w) m' θ lets (Ext.refl _) (fun _ _ h => h)
        refine ⟨m', pk.env _ (h3 _ _ h5), fun R c hc => ?_, fun R R' c c' i i' b hc hc' hi hi' hbk hbk' => ?_, fun R hR => ?_, fun R hR hl => ?_, h.goes, h.size, h.defers, fun R i hi => ?_⟩
        · obtain ⟨i, h8, h9, h10⟩ := pk.mem R c hc
          refine ⟨i, h8, h9, fun b hbk => ?_⟩
          obtain ⟨d, hg, hd, hal⟩ := h10 b hbk
          obtain ⟨c', hc'⟩ := Option.isSome_iff_exists.1 hal
          obtain ⟨i', h11, _, h12⟩ := h.mem d c' hc'
          rw [hd] at h11; simp at h11; subst h11
          exact h12 b hbk
        · obtain ⟨i1, h8, _, h10⟩ := pk.mem R c hc
          rw [hi] at h8; simp at h8; subst h8
          obtain ⟨i2, h8, _, h10'⟩ := pk.mem R' c' hc'
          rw [hi'] at h8; simp at h8; subst h8
          obtain ⟨d, hg, hd, hal⟩ := h10 b hbk
          obtain ⟨d', hg', hd', hal'⟩ := h10' b hbk'
          have := inj d d' i i' b hal hal' hd hd' hbk hbk'
          subst this
          exact olds_inj hnd.1 hg hg'
        · cases hx : m' R with
          | none => exact absurd hx hR
          | some i =>
            obtain ⟨src, hg, _⟩ := back hx
            exact hkeys _ (get_mem hg)
        · obtain ⟨src, hg, hal⟩ := pk.src R hR
          have := lentOk_get hlent (get_mem hg) hl
          subst this
          obtain ⟨b, h8, h9⟩ := h.lent R (hal R rfl) hl
          obtain ⟨i, h10, h11⟩ := (h4.look (R := R)).2 hg
          simp only [SrcOk] at h11
          rw [h9] at h11; simp at h11; subst h11
          exact ⟨b, h8, h10⟩
        · obtain ⟨src, _, hs⟩ := back hi
          cases src with
          | ref d => exact h.shape d i hs
          | nil => simp only [SrcOk] at hs; subst hs; exact ⟨_, _, _, rfl⟩
          | full t xs => simp only [SrcOk] at hs; obtain ⟨v, rfl, _, A, rfl⟩ := hs; exact ⟨_, _, _, rfl⟩
/-- What a part leaves by is what is gone on with. -/
theorem leave_dispatch {R : Type} {K : AE → St → Option R} {r : R} {e : AE} : ∀ {outs : List (AE × Pat)} {o : OD outs}, leave outs e s = some o → dispatch outs o K = some r → Rel' P E s a w →
    ∃ s', K e s' = some r ∧ Rel' P E s' a w
  | [], o, h, _, _ => by simp [leave] at h
  | [o1], o, h, hd, hr => by
    simp only [leave] at h
    split at h
    · rename_i he
      subst he
      exact ⟨_, hd, coerce_sound h hr⟩
    · simp at h
  | o1 :: o2 :: outs, o, h, hd, hr => by
    simp only [leave] at h
    split at h
    · rename_i he
      subst he
      split at h
      · rename_i x hx
        simp at h; subst h
        exact ⟨_, hd, coerce_sound hx hr⟩
      · simp at h
    · split at h
      · rename_i y hy
        simp at h; subst h
        exact leave_dispatch (outs := o2 :: outs) hy hd hr
      · simp at h

/-! ### The code -/
def AE.out : AE → Exit
  | .normal => .normal
  | .exit id => .exit id
  | .ret => .ret
theorem dsts_spec {N : Nat} : ∀ {l : List Oper}, dstsOk N l = true → ∀ o ∈ l, ∀ n, o.dst = some n → n < N
  | [], _, o, ho, _, _ => by simp at ho
  | o1 :: l, h, o, ho, n, hn => by
    simp only [dstsOk, Bool.and_eq_true] at h
    cases ho with
    | head => rw [hn] at h; exact Nat.le_of_ble_eq_true h.1
    | tail _ ho => exact dsts_spec h.2 o ho n hn
theorem numbered_mem : ∀ {l : List Oper} {i j : Nat} {o : Oper}, l[j]? = some o → (i + j, o) ∈ numbered i l
  | [], _, _, _, h => by simp at h
  | o1 :: l, i, j, o, h => by
    cases j with
    | zero => simp at h; subst h; simp [numbered]
    | succ j =>
      simp only [List.getElem?_cons_succ] at h
      have := numbered_mem (i := i + 1) h
      simp only [numbered, List.mem_cons]
      right
      have e : i + 1 + j = i + (j + 1) := by omega
      rw [← e]; exact this
theorem tmps_spec {ops : Array Oper} {b : Array Nat} : ∀ {l : List Oper} {n : Nat}, tmpsOk ops b (numbered n l) = true → ∀ (j i : Nat) (oj oi : Oper), j < i → l[j]? = some oj → l[i]? = some oi →
    oj.apart ops oi = true ∨ (b.getD (n + i) 0).testBit (n + j) = true
  | [], _, _, j, i, oj, oi, _, h, _ => by simp at h
  | o1 :: l, n, h, j, i, oj, oi, hji, hj, hi => by
    simp only [numbered, tmpsOk, Bool.and_eq_true, List.all_eq_true, Bool.or_eq_true] at h
    cases i with
    | zero => omega
    | succ i =>
      simp only [List.getElem?_cons_succ] at hi
      cases j with
      | zero =>
        simp at hj; subst hj
        have := h.1 _ (numbered_mem (i := n + 1) hi)
        simp only at this
        have e : n + 1 + i = n + (i + 1) := by omega
        rw [e] at this
        exact this
      | succ j =>
        simp only [List.getElem?_cons_succ] at hj
        have := tmps_spec h.2 j i oj oi (by omega) hj hi
        have e : n + 1 + i = n + (i + 1) := by omega
        have e' : n + 1 + j = n + (j + 1) := by omega
        rw [e, e'] at this
        exact this
theorem edges_spec : ∀ {l : List Oper} {n : Nat}, edgesOk (numbered n l) = true → ∀ (i : Nat) (o : Oper) (e : Edge), l[i]? = some o → e ∈ o.after.toList → Region.binds .any e = true → e.on < n + i
  | [], _, _, i, o, e, h, _, _ => by simp at h
  | o1 :: l, n, h, i, o, e, hi, he, hb => by
    simp only [numbered, edgesOk, Bool.and_eq_true, List.all_eq_true, Bool.or_eq_true] at h
    cases i with
    | zero =>
      simp at hi; subst hi
      rcases h.1 e he with h1 | h1
      · rw [hb] at h1; simp at h1
      · exact Nat.le_of_ble_eq_true h1
    | succ i =>
      simp only [List.getElem?_cons_succ] at hi
      have := edges_spec h.2 i o e hi he hb
      omega
theorem Rel'.drawn (h : Rel' P E s a w) : Rel' P E s a { w with drawn := w.drawn + 1 } := by
  obtain ⟨m, h⟩ := h
  exact ⟨m, h.grow (w' := { w with drawn := w.drawn + 1 }) ⟨rfl, rfl, rfl, Nat.le_refl _, fun _ _ => rfl⟩⟩
theorem region_sound {tab : Tab} (hT : TabOk P tab) {Γ : Env} (hΓ : EnvOk P Γ) (hm : P.follows .mixedOrders = true) {k id : Nat} {ops : Array Oper} {draw : Bool} {R : Type} {K : St → Option R} {r : R} {Q : Exit → Act → World → Prop}
    (hreg : regionsOk E.N (.region id ops draw) = true) (he : regionA tab Γ k ops draw s K = some r) (h : Rel' P E s a w) (hQ : ∀ s' a' w', K s' = some r → Rel' P E s' a' w' → Q .normal a' w') : (Code.region id ops draw).wp P Q a w := by
  simp only [regionsOk, Bool.and_eq_true] at hreg
  have hd : ∀ (i : Nat) (o : Oper), ops[i]? = some o → ∀ n, o.dst = some n → n < E.N := fun i o ho => dsts_spec hreg.1 o (by simpa using Array.mem_of_getElem? ho)
  unfold regionA at he
  obtain ⟨gs, sf, h1, h2⟩ := opsA_run (ops := ops) (rest := ops.toList) (fun j => by simp) he
  have hl : List.range' 0 ops.toList.length = List.range ops.size := by rw [List.range_eq_range']; simp
  rw [hl] at h1
  cases draw with
  | false => exact wp_region (run_wpOps hT hΓ hd h1 h fun a' w' h' => hQ sf a' w' h2 h')
  | true =>
    simp only [List.append_nil] at h2
    cases hf : footsOk (Region.before ops) gs.reverse with
    | false => rw [hf] at h2; simp at h2
    | true =>
      rw [hf] at h2
      have hreg2 := hreg.2
      simp only [Bool.not_true, Bool.false_or, Bool.and_eq_true] at hreg2
      have hfree := footsOk_free hf
      rw [List.reverse_reverse] at hfree
      have hleft : left ops (Array.replicate ops.size false) = List.range ops.size := by
        unfold left
        apply List.filter_eq_self.2
        intro i hi
        have := List.mem_range.1 hi
        simp [this]
      refine wp_region_any hm (any_sound hT hΓ hd ?_ ?_ (sf := sf) (fun a' w' h' => hQ sf a' w' h2 h') ops.size _ s gs a _ (by rw [hleft]; simp) (by rw [hleft]; exact h1) hfree ?_ h.drawn)
      · intro j i oj oi hji hj hi
        have := tmps_spec hreg2.1 j i oj oi hji (by simpa using hj) (by simpa using hi)
        simpa using this
      · intro i o e ho he' hb
        have := edges_spec hreg2.2 i o e (by simpa using ho) he' hb
        omega
      · intro i o e _ hi _ _
        simp at hi
        by_cases hlt : i < ops.size
        · simp [hlt] at hi
        · simp [hlt] at hi
end
end Go.GG
