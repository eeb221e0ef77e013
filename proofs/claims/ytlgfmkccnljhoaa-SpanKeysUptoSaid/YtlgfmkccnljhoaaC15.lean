/- Calls: what comes back, and what memory then is. -/
import Derived.Test.YtlgfmkccnljhoaaC14
namespace Go.GG
open Go.RowKit
section
variable {P : Program} {E : Entry} {m : IMap} {s : St} {a : Act} {w : World}

def bk (i : Impl) : List Nat := match i.block with | some b => [b] | none => []
theorem blk_some {r : Nat} {i : Impl} (h : m r = some i) : blk m r = bk i := by cases hb : i.block <;> simp [blk, h, bk, hb]
theorem T.holds_flat {w w' : World} {ok ok' : Nat → Prop} : ∀ {t : T} {x : t.den} {cs : List Value}, t.flat = true → t.holds w ok x cs → t.holds w' ok' x cs
  | .int _, _, _, _, h => h
  | .bool, _, _, _, h => h
  | .str, _, _, _, h => h
  | .pair a b, x, _, hf, h => by
    simp only [T.flat, Bool.and_eq_true] at hf
    simp only [T.holds] at h ⊢
    obtain ⟨c, d, rfl, h1, h2⟩ := h
    exact ⟨c, d, rfl, T.holds_flat hf.1 h1, T.holds_flat hf.2 h2⟩
  | .slice _, _, _, hf, _ => by simp [T.flat] at hf
theorem flat_of {t : T} (h : (!t.flat) = false) : t.flat = true := by simpa using h
theorem VarAt.flat {ok ok' : Nat → Prop} {t : T} {x : t.den} {b : Nat} (hf : t.flat = true) (h : VarAt w ok t x b) : VarAt w ok' t x b := by
  obtain ⟨vs, e, h1, h2⟩ := h
  exact ⟨vs, e, h1, T.holds_flat hf h2⟩
theorem OwnRow.flat {ok ok' : Nat → Prop} {t : T} {x : List t.den} {v : Value} (hf : t.flat = true) (h : OwnRow w ok t x v) : OwnRow w ok' t x v := by
  rcases h with h | ⟨b, C, e, fr, cap, h0, h1, h2, h3, h4, h5⟩
  · exact .inl h
  · refine .inr ⟨b, C, e, fr, cap, h0, h1, h2, h3, h4, fun i x hi => ?_⟩
    obtain ⟨ds, hd, hj⟩ := h5 i x hi
    exact ⟨ds, T.holds_flat hf hd, hj⟩
theorem RRep.flat {ok ok' : Nat → Prop} : ∀ {r : RK} {x : r.den} {v : Value}, r.leads = false → RRep w ok r x v → RRep w ok' r x v
  | .imm _, _, _, hf, h => T.holds_flat (flat_of hf) h
  | .agg _, _, _, hf, h => by obtain ⟨cs, h1, h2⟩ := h; exact ⟨cs, h1, T.holds_flat (flat_of hf) h2⟩
  | .own _, _, _, hf, h => OwnRow.flat (flat_of hf) h
  | .full _, _, _, hf, _ => by simp [RK.leads] at hf
  | .fresh _, _, _, hf, h => by obtain ⟨b, h1, h2⟩ := h; exact ⟨b, h1, h2.flat (flat_of hf)⟩
  | .ofresh _, _, _, hf, h => h.imp id fun ⟨x, b, h1, h2, h3⟩ => ⟨x, b, h1, h2, h3.flat (flat_of hf)⟩
  | .nsl _, _, _, hf, _ => by simp [RK.leads] at hf
  | .nilp, _, _, _, h => h
  | .back _, _, _, _, h => h
theorem RReps.flat {ok ok' : Nat → Prop} : ∀ {rs : List RK} {y : RD RK.den rs} {vs : List Value} {bs : List Nat}, rs.any RK.leads = false → RReps w ok rs y vs bs → RReps w ok' rs y vs bs
  | [], _, _, _, _, h => h
  | r :: rs, y, vs, bs, hf, h => by
    simp only [List.any_cons, Bool.or_eq_false_iff] at hf
    cases r
    case back t =>
      obtain ⟨b, bs', rfl, h1, h2⟩ := h
      exact ⟨b, bs', rfl, h1.flat (flat_of hf.1), RReps.flat hf.2 h2⟩
    all_goals
      obtain ⟨v, vs', rfl, h1, h2⟩ := h
      exact ⟨v, vs', rfl, RRep.flat hf.1 h1, RReps.flat hf.2 h2⟩
theorem VarAt.mono {ok ok' : Nat → Prop} {t : T} {x : t.den} {b : Nat} (hk : ∀ n, ok n → ok' n) (h : VarAt w ok t x b) : VarAt w ok' t x b := by
  obtain ⟨vs, e, h1, h2⟩ := h
  exact ⟨vs, e, h1, T.holds_mono (Keeps.weaken hk) h2⟩
theorem RRep.mono {ok ok' : Nat → Prop} (hk : ∀ n, ok n → ok' n) : ∀ {r : RK} {x : r.den} {v : Value}, RRep w ok r x v → RRep w ok' r x v
  | .imm t, _, _, h => T.holds_mono (t := t) (Keeps.weaken hk) h
  | .agg t, _, _, h => by obtain ⟨cs, h1, h2⟩ := h; exact ⟨cs, h1, T.holds_mono (t := t) (Keeps.weaken hk) h2⟩
  | .own _, _, _, h => OwnRow.mono (Keeps.weaken hk) (fun _ _ => rfl) h
  | .full t, _, _, h => ⟨T.holds_mono (t := .slice t) (Keeps.weaken hk) h.1, h.2⟩
  | .fresh _, _, _, h => by obtain ⟨b, h1, h2⟩ := h; exact ⟨b, h1, h2.mono hk⟩
  | .ofresh _, _, _, h => h.imp id fun ⟨x, b, h1, h2, h3⟩ => ⟨x, b, h1, h2, h3.mono hk⟩
  | .nsl t, _, _, h => h.imp id fun ⟨xs, h1, h2, h3⟩ => ⟨xs, h1, T.holds_mono (t := .slice t) (Keeps.weaken hk) h2, h3⟩
  | .nilp, _, _, h => h
  | .back _, _, _, h => h
theorem RReps.mono {ok ok' : Nat → Prop} (hk : ∀ n, ok n → ok' n) : ∀ {rs : List RK} {y : RD RK.den rs} {vs : List Value} {bs : List Nat}, RReps w ok rs y vs bs → RReps w ok' rs y vs bs
  | [], _, _, _, h => h
  | r :: rs, y, vs, bs, h => by
    cases r
    case back t =>
      obtain ⟨b, bs', rfl, h1, h2⟩ := h
      exact ⟨b, bs', rfl, h1.mono hk, RReps.mono hk h2⟩
    all_goals
      obtain ⟨v, vs', rfl, h1, h2⟩ := h
      exact ⟨v, vs', rfl, RRep.mono hk h1, RReps.mono hk h2⟩

theorem VarAt.crep {ok : Nat → Prop} {t : T} {x : t.den} {b : Nat} (h : VarAt w ok t x b) (m' : IMap) : CRep P w ok m' (.cells (t.explode x)) (.var b) := by
  obtain ⟨vs, e, h1, h2⟩ := h
  exact ⟨vs, e, h1, explode_reps h2⟩
structure Given (P : Program) (m : IMap) (w : World) (ok : Nat → Prop) (lent : List Nat) (rs : List RK) (vs : List Value) (b : Back) (is : List Impl) : Prop where
  len : is.length = b.news.length
  blocks : is.flatMap bk = rblocks rs vs
  all : b.backs.map (·.1) = lent
  shape : ∀ i ∈ is, i.shape
  back : ∀ p ∈ b.backs, p.1 ∈ lent ∧ ∀ m' bl, m p.1 = some (.var bl) → CRep P w ok m' p.2 (.var bl)
  new : ∀ m', ∀ p ∈ b.news.zip is, CRep P w ok m' p.1.2 p.2
  ls : ∀ m' : IMap, (∀ p ∈ b.news.zip is, m' p.1.1 = some p.2) → LReps P w ok m' b.ls vs
theorem back_all {μ : Nat → Option C} {ok : Nat → Prop} {dst : Nat} : ∀ {rs : List RK} {j : Nat} {lent : List Nat} {y : RD RK.den rs} {vs : List Value} {b : Back}, Ev (backAll dst rs j lent y) μ b →
    RReps w ok rs y vs (blks m lent) → (∀ r ∈ lent, ∃ b, m r = some (.var b)) → ∃ is, Given P m w ok lent rs vs b is
  | [], j, [], y, vs, b, he, hr, _ => by
    simp only [backAll, ev_pure] at he; subst he
    simp only [RReps] at hr
    obtain ⟨rfl, _⟩ := hr
    exact ⟨[], rfl, rfl, rfl, by simp, by simp, by simp, fun _ _ => rfl⟩
  | r :: rs, j, lent, y, vs, b, he, hr, hl => by
    have plain : ∀ {l : L} {v : Value} {vs' : List Value} {b' : Back} {is : List Impl}, Given P m w ok lent rs vs' b' is → (∀ m', LRep P w ok m' l v) → rblocks (r :: rs) (v :: vs') = rblocks rs vs' →
        ∃ is, Given P m w ok lent (r :: rs) (v :: vs') ⟨l :: b'.ls, b'.news, b'.backs⟩ is := by
      intro l v vs' b' is g hl hb
      exact ⟨is, g.len, g.blocks.trans hb.symm, g.all, g.shape, g.back, g.new, fun m' hm' => ⟨v, vs', rfl, hl m', g.ls m' hm'⟩⟩
    have more : ∀ {l : L} {v : Value} {vs' : List Value} {b' : Back} {is : List Impl} {id : Nat} {c : C} {i : Impl}, Given P m w ok lent rs vs' b' is → (∀ m' : IMap, m' id = some i → LRep P w ok m' l v) →
        i.shape → (∀ m', CRep P w ok m' c i) → rblocks (r :: rs) (v :: vs') = bk i ++ rblocks rs vs' →
        ∃ is, Given P m w ok lent (r :: rs) (v :: vs') ⟨l :: b'.ls, (id, c) :: b'.news, b'.backs⟩ is := by
      intro l v vs' b' is id c i g hl hs hc hb
      refine ⟨i :: is, by simp [g.len], by simp [g.blocks, hb], g.all, fun i' hi' => ?_, g.back, fun m' p hp => ?_, fun m' hm' => ⟨v, vs', rfl, hl m' ?_, g.ls m' fun p hp => ?_⟩⟩
      · cases hi' with
        | head => exact hs
        | tail _ hi' => exact g.shape i' hi'
      · simp only [List.zip_cons_cons, List.mem_cons] at hp
        rcases hp with rfl | hp
        · exact hc m'
        · exact g.new m' p hp
      · exact hm' ((id, c), i) (by simp)
      · exact hm' p (by simp [hp])
    cases r
    case back t =>
      cases lent with
      | nil => simp [backAll, ev_fail] at he
      | cons r lent =>
        simp only [backAll, ev_bind, ev_pure] at he
        obtain ⟨b', h1, rfl⟩ := he
        obtain ⟨b0, bs', hbs, h2, h3⟩ := hr
        obtain ⟨bl, hbl⟩ := hl r (by simp)
        have e : blks m (r :: lent) = bl :: blks m lent := by simp [blks, blk_some hbl, bk, Impl.block]
        rw [e] at hbs
        simp only [List.cons.injEq] at hbs
        obtain ⟨rfl, rfl⟩ := hbs
        obtain ⟨is, g⟩ := back_all h1 h3 (fun r' hr' => hl r' (by simp [hr']))
        refine ⟨is, g.len, g.blocks.trans (by cases vs <;> rfl), by simp [g.all], g.shape, fun p hp => ?_, g.new, g.ls⟩
        simp only [List.mem_cons] at hp
        rcases hp with rfl | hp
        · refine ⟨by simp, fun m' bl' hb' => ?_⟩
          rw [hbl] at hb'; simp at hb'; subst hb'
          exact h2.crep m'
        · exact ⟨by simp [(g.back p hp).1], (g.back p hp).2⟩
    case imm t =>
      simp only [backAll, ev_bind, ev_pure] at he
      obtain ⟨b', h1, rfl⟩ := he
      obtain ⟨v, vs', rfl, h2, h3⟩ := hr
      obtain ⟨is, g⟩ := back_all h1 h3 hl
      exact plain g (fun m' => h2) rfl
    case agg t =>
      simp only [backAll, ev_bind, ev_pure] at he
      obtain ⟨b', h1, rfl⟩ := he
      obtain ⟨v, vs', rfl, h2, h3⟩ := hr
      obtain ⟨is, g⟩ := back_all h1 h3 hl
      obtain ⟨cs, rfl, h4⟩ := h2
      exact plain g (fun m' => ⟨cs, rfl, explode_reps h4⟩) rfl
    case full t =>
      simp only [backAll, ev_bind, ev_pure] at he
      obtain ⟨b', h1, rfl⟩ := he
      obtain ⟨v, vs', rfl, h2, h3⟩ := hr
      obtain ⟨is, g⟩ := back_all h1 h3 hl
      exact plain g (fun m' => h2) rfl
    case nilp =>
      simp only [backAll, ev_bind, ev_pure] at he
      obtain ⟨b', h1, rfl⟩ := he
      obtain ⟨v, vs', rfl, h2, h3⟩ := hr
      obtain ⟨is, g⟩ := back_all h1 h3 hl
      exact plain g (fun m' => h2) rfl
    case nsl t =>
      simp only [backAll, ev_bind, ev_cases, ev_pure] at he
      obtain ⟨b', h1, he⟩ := he
      obtain ⟨v, vs', rfl, h2, h3⟩ := hr
      obtain ⟨is, g⟩ := back_all h1 h3 hl
      rcases he with ⟨ho, rfl⟩ | ⟨x, ho, rfl⟩ <;> rcases h2 with ⟨h2, hv⟩ | ⟨x', h2, hv, h4⟩
      · exact plain g (fun m' => hv) rfl
      · rw [ho] at h2; simp at h2
      · rw [ho] at h2; simp at h2
      · rw [ho] at h2; simp at h2; subst h2; exact plain g (fun m' => ⟨hv, h4⟩) rfl
    case own t =>
      simp only [backAll, ev_bind, ev_pure] at he
      obtain ⟨b', h1, rfl⟩ := he
      obtain ⟨v, vs', rfl, h2, h3⟩ := hr
      obtain ⟨is, g⟩ := back_all h1 h3 hl
      have hs : (Impl.arr v).shape := CRep.shape (P := P) (m := m) (c := .arr t _) h2
      exact more (i := .arr v) g (fun m' hm' => .inl hm') hs (fun m' => h2) (by simp only [rblocks]; rw [rowBlock_of hs]; rfl)
    case fresh t =>
      simp only [backAll, ev_bind, ev_pure] at he
      obtain ⟨b', h1, rfl⟩ := he
      obtain ⟨v, vs', rfl, h2, h3⟩ := hr
      obtain ⟨is, g⟩ := back_all h1 h3 hl
      obtain ⟨bl, rfl, h4⟩ := h2
      exact more (i := .var bl) g (fun m' hm' => ⟨bl, hm', rfl⟩) trivial (fun m' => h4.crep m') rfl
    case ofresh t =>
      simp only [backAll, ev_bind, ev_cases, ev_pure] at he
      obtain ⟨b', h1, he⟩ := he
      obtain ⟨v, vs', rfl, h2, h3⟩ := hr
      obtain ⟨is, g⟩ := back_all h1 h3 hl
      rcases he with ⟨ho, rfl⟩ | ⟨x, ho, rfl⟩ <;> rcases h2 with ⟨h2, hv⟩ | ⟨x', bl, h2, hv, h4⟩
      · subst hv; exact plain g (fun m' => rfl) rfl
      · rw [ho] at h2; simp at h2
      · rw [ho] at h2; simp at h2
      · rw [ho] at h2; simp at h2; subst h2; subst hv
        exact more (i := .var bl) g (fun m' hm' => ⟨bl, hm', rfl⟩) trivial (fun m' => h4.crep m') rfl
  | [], _, _ :: _, _, _, _, he, _, _ => by simp [backAll, ev_fail] at he
end
end Go.GG
