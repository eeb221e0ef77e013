/- States in a pattern's form, together. -/
import Derived.Test.YtnpjmdoglcmahaaC24
namespace Go.GG
open Go.RowKit
section
variable {P : Program} {E : Entry} {m : IMap} {s : St} {a : Act} {w : World}

theorem beq_iff {x y : Nat} : Nat.beq x y = true ↔ x = y := ⟨Nat.eq_of_beq_eq_true, fun h => by subst h; simp⟩
/-- What is picked stands for what was there. -/
structure Picked (P : Program) (w : World) (m : IMap) (s : St) (a : Act) (ok' : Nat → Prop) (m'' : IMap) (θ : Sub) (ps : List PE) (x : RD PE.den ps) : Prop where
  env : ∀ e0 : Nat → L, (∀ t, LRep P w ok' m'' (e0 t) (a.tmps.getD t undef)) → ∀ t, LRep P w ok' m'' (dynEnv ps x e0 t) (a.tmps.getD t undef)
  mem : ∀ R c, dynMem ps x R = some c → ∃ i, m'' R = some i ∧ CRep P w ok' m'' c i ∧ ∀ b, i.block = some b → ∃ d, θ.get R = some (.ref d) ∧ m d = some i ∧ (s.mem d).isSome
  src : ∀ R, (dynMem ps x R).isSome → ∃ src, θ.get R = some src ∧ ∀ d, src = .ref d → (s.mem d).isSome
theorem envAt {ok' : Nat → Prop} {m'' : IMap} {l : L} {i : Nat} (h : LRep P w ok' m'' l (a.tmps.getD i undef)) {e0 : Nat → L} (h0 : ∀ t, LRep P w ok' m'' (e0 t) (a.tmps.getD t undef)) :
    ∀ t, LRep P w ok' m'' (cond (Nat.beq t i) l (e0 t)) (a.tmps.getD t undef) := by
  intro t
  cases ht : Nat.beq t i with
  | true => rw [Nat.eq_of_beq_eq_true ht]; exact h
  | false => exact h0 t

/-- Bindings stay. -/
def Grows (θ θ' : Sub) : Prop := ∀ R src, θ.get R = some src → θ'.get R = some src
theorem bindRef_grows {θ θ' : Sub} {R : Nat} {d : Src} (h : bindRef θ R d = some θ') : Grows θ θ' := by
  unfold bindRef at h
  split at h
  · rename_i hg
    simp at h; subst h
    intro R' src hR
    rw [sub_get_cons]
    by_cases e : R = R'
    · subst e; rw [hg] at hR; simp at hR
    · rw [if_neg e]; exact hR
  · rename_i a' hg
    split at h
    · rename_i b
      cases hq : Nat.beq a' b with
      | false => rw [hq] at h; simp at h
      | true => rw [hq] at h; simp at h; subst h; exact fun _ _ h => h
    · simp at h
  · split at h
    · simp at h; subst h; exact fun _ _ h => h
    · simp at h
  · simp at h
theorem bindCaps_grows : ∀ {cs cs' : List (Nat × Nat)} {θ θ' : Sub}, bindCaps θ cs cs' = some θ' → Grows θ θ'
  | [], [], θ, θ', h => by simp only [bindCaps, Option.some.injEq] at h; subst h; exact fun _ _ h => h
  | (R, o) :: cs, (r, o') :: cs', θ, θ', h => by
    simp only [bindCaps] at h
    split at h
    · split at h
      · rename_i θ1 h1
        exact fun R src hR => bindCaps_grows h R src (bindRef_grows h1 R src hR)
      · simp at h
    · simp at h
  | [], _ :: _, _, _, h => by simp [bindCaps] at h
  | _ :: _, [], _, _, h => by simp [bindCaps] at h
theorem bindStat_grows {θ θ' : Sub} {l l' : L} (h : bindStat θ l l' = some θ') : Grows θ θ' := by
  unfold bindStat at h
  split at h
  · exact bindRef_grows h
  · exact bindRef_grows h
  · exact bindRef_grows h
  · split at h
    · exact bindRef_grows h
    · simp at h
  · simp at h; subst h; exact fun _ _ h => h
  · simp at h; subst h; exact fun _ _ h => h
  · simp at h; subst h; exact fun _ _ h => h
  · simp at h; subst h; exact fun _ _ h => h
  · split at h
    · exact bindCaps_grows h
    · simp at h
  · simp at h
theorem pickCells_grows : ∀ {ps : List PLeaf} {ls : List L} {x : RD T.den (dynTs ps)} {θ θ' : Sub} {g : List Nat}, pickCells s θ ps ls = some (x, θ', g) → Grows θ θ'
  | [], [], x, θ, θ', g, h => by
    simp only [pickCells, Option.some.injEq, Prod.mk.injEq] at h
    obtain ⟨_, rfl, _⟩ := h
    exact fun _ _ h => h
  | .dyn t :: ps, l :: ls, x, θ, θ', g, h => by
    simp only [pickCells] at h
    split at h
    · simp at h
    · split at h
      · simp at h
      · rename_i z θ1 g2 hz
        simp only [Option.some.injEq, Prod.mk.injEq] at h
        obtain ⟨_, rfl, _⟩ := h
        exact pickCells_grows hz
  | .stat e :: ps, l :: ls, x, θ, θ', g, h => by
    simp only [pickCells] at h
    split at h
    · simp at h
    · rename_i θ1 hb
      exact fun R src hR => pickCells_grows h R src (bindStat_grows hb R src hR)
  | [], _ :: _, _, _, _, _, h => by simp [pickCells] at h
  | .dyn _ :: _, [], _, _, _, _, h => by simp [pickCells] at h
  | .stat _ :: _, [], _, _, _, _, h => by simp [pickCells] at h

/-- One place of a pattern: what it puts into the environment, or what block it stands for. -/
structure Puts (P : Program) (w : World) (m : IMap) (s : St) (a : Act) (ok' : Nat → Prop) (m'' : IMap) (θ : Sub) (p : PE) (x : p.den) : Prop where
  one : (∃ i l, (∀ (ps : List PE) (y : RD PE.den ps) (e : Nat → L), dynEnv (p :: ps) (RD.mk (k := p) x y) e = dynEnv ps y fun n => cond (Nat.beq n i) l (e n)) ∧
      (∀ (ps : List PE) (y : RD PE.den ps), dynMem (p :: ps) (RD.mk (k := p) x y) = dynMem ps y) ∧ LRep P w ok' m'' l (a.tmps.getD i undef)) ∨
    (∃ R c, (∀ (ps : List PE) (y : RD PE.den ps) (e : Nat → L), dynEnv (p :: ps) (RD.mk (k := p) x y) e = dynEnv ps y e) ∧
      (∀ (ps : List PE) (y : RD PE.den ps), dynMem (p :: ps) (RD.mk (k := p) x y) = fun n => cond (Nat.beq n R) (some c) (dynMem ps y n)) ∧
      (∃ i, m'' R = some i ∧ CRep P w ok' m'' c i ∧ ∀ b, i.block = some b → ∃ d, θ.get R = some (.ref d) ∧ m d = some i ∧ (s.mem d).isSome) ∧
      ∃ src, θ.get R = some src ∧ ∀ d, src = .ref d → (s.mem d).isSome)
theorem pickOne_ok (h : Rel P E m s a w) {p : PE} {x : p.den} {θ θ' : Sub} {g : List Nat} {mm : List (Nat × Impl)} (hs : SubOk w (okOf E m s.mem w) m θ mm) (hp : pickOne s θ p = some (x, θ', g)) :
    Grows θ θ' ∧ ∃ mm', SubOk w (okOf E m s.mem w) m θ' mm' ∧ Ext (look mm) (look mm') ∧ (∀ r ∈ g, (s.mem r).isSome) ∧
      ∀ ok' m'' θ'', Lets E m s w ok' g → Ext (look mm') m'' → Grows θ' θ'' → Puts P w m s a ok' m'' θ'' p x := by
  have hv := fun i => h.env i
  have idG : Grows θ θ := fun _ _ h => h
  unfold pickOne at hp
  split at hp
  · -- val
    rename_i i t
    split at hp
    · rename_i y g1 hy
      simp only [Option.some.injEq, Prod.mk.injEq] at hp
      obtain ⟨rfl, rfl, rfl⟩ := hp
      obtain ⟨h1, h2⟩ := pickVal_ok h hy (hv i)
      exact ⟨idG, mm, hs, Ext.refl _, h1, fun ok' m'' θ'' hk _ _ => ⟨.inl ⟨i, .val t y, fun ps z e => by simp only [dynEnv, hd_mk, tl_mk], fun ps z => by simp only [dynMem, tl_mk], h2 ok' hk⟩⟩⟩
    · simp at hp
  · -- agg
    rename_i i t
    split at hp
    · rename_i ls hl
      split at hp
      · rename_i ls' g1 hq
        split at hp
        · rename_i y hy
          simp only [Option.some.injEq, Prod.mk.injEq] at hp
          obtain ⟨rfl, rfl, rfl⟩ := hp
          have hv := hv i
          rw [hl] at hv
          obtain ⟨vs, hvs, hls⟩ := hv
          obtain ⟨h1, h2⟩ := pickLeaves_ok h hq hls
          exact ⟨idG, mm, hs, Ext.refl _, h1, fun ok' m'' θ'' hk _ _ => ⟨.inl ⟨i, .agg (t.explode y), fun ps z e => by simp only [dynEnv, hd_mk, tl_mk], fun ps z => by simp only [dynMem, tl_mk],
            ⟨vs, hvs, explode_reps (implode_holds hy (h2 ok' hk))⟩⟩⟩⟩
        · simp at hp
      · simp at hp
    · simp at hp
  · -- full
    rename_i i t
    split at hp
    · rename_i t' xs hl
      split at hp
      · rename_i y hy
        simp only [Option.some.injEq, Prod.mk.injEq] at hp
        obtain ⟨rfl, rfl, rfl⟩ := hp
        obtain ⟨e, he⟩ := cast?_some hy
        cases e; subst he
        have hv := hv i
        rw [hl] at hv
        exact ⟨idG, mm, hs, Ext.refl _, by simp, fun ok' m'' θ'' hk _ _ => ⟨.inl ⟨i, .full _ _, fun ps z e => by simp only [dynEnv, hd_mk, tl_mk], fun ps z => by simp only [dynMem, tl_mk],
          ⟨T.holds_mono (t := .slice _) (Keeps.weaken hk.old) hv.1, hv.2⟩⟩⟩⟩
      · simp at hp
    · simp at hp
  · -- nnil
    rename_i i t
    split at hp
    · rename_i t' xs hl
      split at hp
      · rename_i y hy
        simp only [Option.some.injEq, Prod.mk.injEq] at hp
        obtain ⟨rfl, rfl, rfl⟩ := hp
        obtain ⟨e, he⟩ := cast?_some hy
        cases e; subst he
        have hv := hv i
        rw [hl] at hv
        exact ⟨idG, mm, hs, Ext.refl _, by simp, fun ok' m'' θ'' hk _ _ => ⟨.inl ⟨i, .nnil _ _, fun ps z e => by simp only [dynEnv, hd_mk, tl_mk], fun ps z => by simp only [dynMem, tl_mk],
          ⟨T.holds_mono (t := .slice _) (Keeps.weaken hk.old) hv.1, hv.2⟩⟩⟩⟩
      · simp at hp
    · simp at hp
  · -- eptr
    rename_i i t off
    split at hp
    · rename_i t' y off' hl
      split at hp
      · rename_i e0
        subst e0
        split at hp
        · rename_i z hz
          simp only [Option.some.injEq, Prod.mk.injEq] at hp
          obtain ⟨rfl, rfl, rfl⟩ := hp
          obtain ⟨rfl, rfl⟩ := cast?_some hz
          have hv := hv i
          rw [hl] at hv
          exact ⟨idG, mm, hs, Ext.refl _, by simp, fun ok' m'' θ'' hk _ _ => ⟨.inl ⟨i, .eptr _ _ off, fun ps z e => by simp only [dynEnv, hd_mk, tl_mk], fun ps z => by simp only [dynMem, tl_mk],
            (LRep.mono (m := m) (m' := m) (l := .eptr _ _ off) (Keeps.weaken hk.old) (Ext.refl m) hv)⟩⟩⟩
        · simp at hp
      · simp at hp
    · simp at hp
  · -- fn
    rename_i i qs b
    split at hp
    · rename_i ps' b' q hl
      split at hp
      · rename_i hh
        obtain ⟨rfl, rfl⟩ := hh
        simp only [Option.some.injEq, Prod.mk.injEq] at hp
        obtain ⟨rfl, rfl, rfl⟩ := hp
        have hv := hv i
        rw [hl] at hv
        exact ⟨idG, mm, hs, Ext.refl _, by simp, fun ok' m'' θ'' hk _ _ => ⟨.inl ⟨i, .fn ps' b' q, fun ps z e => by simp only [dynEnv, hd_mk, tl_mk], fun ps z => by simp only [dynMem, tl_mk],
          FnHolds.mono (Keeps.weaken hk.old) hv⟩⟩⟩
      · simp at hp
    · simp at hp
  · -- cells
    rename_i R ls
    split at hp
    · rename_i r hR
      split at hp
      · rename_i ms hr
        obtain ⟨i, h1, h2, h3⟩ := h.mem r _ hr
        cases i with
        | var b =>
          obtain ⟨vs, e, h4, h5⟩ := h2
          obtain ⟨mm', h6, h7, h8, h9⟩ := pickCells_ok h hs hp h5
          obtain ⟨j, h10, h11⟩ := (hs.look (R := R)).2 hR
          simp only [SrcOk] at h11
          rw [h1] at h11; simp at h11; subst h11
          have hgr := pickCells_grows hp
          refine ⟨hgr, mm', h6, h7, h8, fun ok' m'' θ'' hk he hθ => ⟨.inr ⟨R, .cells (cellsOf ls x), fun ps z e => by simp only [dynEnv, tl_mk], fun ps z => by funext n; simp only [dynMem, hd_mk, tl_mk],
            ⟨.var b, he _ _ (h7 _ _ h10), ⟨vs, e, h4, h9 ok' m'' hk he⟩, fun b' hb' => ⟨r, hθ _ _ (hgr _ _ hR), h1, by simp [hr]⟩⟩, .ref r, hθ _ _ (hgr _ _ hR), fun d hd => by cases hd; simp [hr]⟩⟩⟩
        | arr v => exact h2.elim
        | shr v => exact h2.elim
        | blk A c => exact h2.elim
      · simp at hp
    · simp at hp
  · -- arr
    rename_i R t
    split at hp
    · rename_i r hR
      split at hp
      · rename_i t' xs hr
        split at hp
        · rename_i y hy
          simp only [Option.some.injEq, Prod.mk.injEq] at hp
          obtain ⟨rfl, rfl, rfl⟩ := hp
          obtain ⟨e, he⟩ := cast?_some hy
          cases e; subst he
          obtain ⟨i, h1, h2, h3⟩ := h.mem r _ hr
          obtain ⟨j, h10, h11⟩ := (hs.look (R := R)).2 hR
          simp only [SrcOk] at h11
          rw [h1] at h11; simp at h11; subst h11
          refine ⟨idG, mm, hs, Ext.refl _, by simp, fun ok' m'' θ'' hk he hθ => ⟨.inr ⟨R, .arr _ xs, fun ps z e => by simp only [dynEnv, tl_mk], fun ps z => by funext n; simp only [dynMem, hd_mk, tl_mk],
            ⟨i, he _ _ h10, ?_, fun b' hb' => ⟨r, hθ _ _ hR, h1, by simp [hr]⟩⟩, .ref r, hθ _ _ hR, fun d hd => by cases hd; simp [hr]⟩⟩⟩
          cases i with
          | var b => exact h2.elim
          | shr v => exact h2.elim
          | blk A c => exact h2.elim
          | arr v => exact OwnRow.mono (Keeps.weaken hk.old) (fun _ _ => rfl) h2
        · simp at hp
      · simp at hp
    · rename_i hR
      simp only [Option.some.injEq, Prod.mk.injEq] at hp
      obtain ⟨rfl, rfl, rfl⟩ := hp
      obtain ⟨j, h10, h11⟩ := (hs.look (R := R)).2 hR
      simp only [SrcOk] at h11; subst h11
      exact ⟨idG, mm, hs, Ext.refl _, by simp, fun ok' m'' θ'' hk he hθ => ⟨.inr ⟨R, .arr t [], fun ps z e => by simp only [dynEnv, tl_mk], fun ps z => by funext n; simp only [dynMem, hd_mk, tl_mk],
        ⟨_, he _ _ h10, .inl ⟨rfl, rfl⟩, fun b' hb' => by simp [Impl.block] at hb'⟩, .nil, hθ _ _ hR, fun d hd => by cases hd⟩⟩⟩
    · simp at hp
  · -- app
    rename_i R t
    split at hp
    · rename_i r hR
      split at hp
      · rename_i t' xs hx
        split at hp
        · rename_i y hy
          simp only [Option.some.injEq, Prod.mk.injEq] at hp
          obtain ⟨rfl, rfl, rfl⟩ := hp
          obtain ⟨e, he⟩ := cast?_some hy
          cases e; subst he
          obtain ⟨j, h10, h11⟩ := (hs.look (R := R)).2 hR
          simp only [SrcOk] at h11
          have key : ∃ c, s.mem r = some c ∧ ∃ i, m r = some i ∧ ∀ ok', (∀ b, okOf E m s.mem w b → ok' b) → ∀ m'', CRep P w ok' m'' (.app _ xs) i := by
            rcases rowOf_some hx with hc | hc <;> (obtain ⟨i, h1, h2, h3⟩ := h.mem r _ hc; refine ⟨_, hc, i, h1, fun ok' hk m'' => ?_⟩; cases i <;> simp only [CRep] at h2 ⊢)
            · exact OwnRow.mono (Keeps.weaken hk) (fun _ _ => rfl) h2
            · exact OwnRow.mono (Keeps.weaken hk) (fun _ _ => rfl) h2
            · exact ⟨T.holds_mono (t := .slice _) (Keeps.weaken hk) h2.1, h2.2⟩
          obtain ⟨c, hc, i, h1, h2⟩ := key
          rw [h1] at h11; simp at h11; subst h11
          exact ⟨idG, mm, hs, Ext.refl _, by simp, fun ok' m'' θ'' hk he hθ => ⟨.inr ⟨R, .app _ xs, fun ps z e => by simp only [dynEnv, tl_mk], fun ps z => by funext n; simp only [dynMem, hd_mk, tl_mk],
            ⟨i, he _ _ h10, h2 ok' hk.old m'', fun b' hb' => ⟨r, hθ _ _ hR, h1, by simp [hc]⟩⟩, .ref r, hθ _ _ hR, fun d hd => by cases hd; simp [hc]⟩⟩⟩
        · simp at hp
      · simp at hp
    · rename_i hR
      simp only [Option.some.injEq, Prod.mk.injEq] at hp
      obtain ⟨rfl, rfl, rfl⟩ := hp
      obtain ⟨j, h10, h11⟩ := (hs.look (R := R)).2 hR
      simp only [SrcOk] at h11; subst h11
      exact ⟨idG, mm, hs, Ext.refl _, by simp, fun ok' m'' θ'' hk he hθ => ⟨.inr ⟨R, .app t [], fun ps z e => by simp only [dynEnv, tl_mk], fun ps z => by funext n; simp only [dynMem, hd_mk, tl_mk],
        ⟨_, he _ _ h10, .inl ⟨rfl, rfl⟩, fun b' hb' => by simp [Impl.block] at hb'⟩, .nil, hθ _ _ hR, fun d hd => by cases hd⟩⟩⟩
    · rename_i t' xs hR
      split at hp
      · rename_i y hy
        simp only [Option.some.injEq, Prod.mk.injEq] at hp
        obtain ⟨rfl, rfl, rfl⟩ := hp
        obtain ⟨e, he⟩ := cast?_some hy
        cases e; subst he
        obtain ⟨j, h10, h11⟩ := (hs.look (R := R)).2 hR
        simp only [SrcOk] at h11
        obtain ⟨v, rfl, h12, h13⟩ := h11
        exact ⟨idG, mm, hs, Ext.refl _, by simp, fun ok' m'' θ'' hk he hθ => ⟨.inr ⟨R, .app _ xs, fun ps z e => by simp only [dynEnv, tl_mk], fun ps z => by funext n; simp only [dynMem, hd_mk, tl_mk],
          ⟨_, he _ _ h10, ⟨T.holds_mono (t := .slice _) (Keeps.weaken hk.old) h12, h13⟩, fun b' hb' => by simp [Impl.block] at hb'⟩, .full _ _, hθ _ _ hR, fun d hd => by cases hd⟩⟩⟩
      · simp at hp
    · simp at hp
theorem pickAll_ok (h : Rel P E m s a w) : ∀ {ps : List PE} {x : RD PE.den ps} {θ θ' : Sub} {g : List Nat} {mm : List (Nat × Impl)}, SubOk w (okOf E m s.mem w) m θ mm → pickAll s θ ps = some (x, θ', g) →
    Grows θ θ' ∧ ∃ mm', SubOk w (okOf E m s.mem w) m θ' mm' ∧ Ext (look mm) (look mm') ∧ (∀ r ∈ g, (s.mem r).isSome) ∧
      ∀ ok' m'' θ'', Lets E m s w ok' g → Ext (look mm') m'' → Grows θ' θ'' → Picked P w m s a ok' m'' θ'' ps x
  | [], x, θ, θ', g, mm, hs, hp => by
    simp only [pickAll, Option.some.injEq, Prod.mk.injEq] at hp
    obtain ⟨_, rfl, rfl⟩ := hp
    exact ⟨fun _ _ h => h, mm, hs, Ext.refl _, by simp, fun ok' m'' θ'' _ _ _ => ⟨fun _ h0 => h0, fun R c hc => by simp [dynMem] at hc, fun R hR => by simp [dynMem] at hR⟩⟩
  | p :: ps, x, θ, θ', g, mm, hs, hp => by
    simp only [pickAll] at hp
    split at hp
    · simp at hp
    · rename_i y θ1 g1 h1
      split at hp
      · simp at hp
      · rename_i z θ2 g2 h2
        simp only [Option.some.injEq, Prod.mk.injEq] at hp
        obtain ⟨rfl, rfl, rfl⟩ := hp
        obtain ⟨gr1, mm1, h3, h4, h5, h6⟩ := pickOne_ok h hs h1
        obtain ⟨gr2, mm2, h7, h8, h9, h10⟩ := pickAll_ok h h3 h2
        refine ⟨fun R src hR => gr2 R src (gr1 R src hR), mm2, h7, h4.trans h8, fun r hr => ?_, fun ok' m'' θ'' hk he hθ => ?_⟩
        · rcases List.mem_append.1 hr with hr | hr
          · exact h5 r hr
          · exact h9 r hr
        · have A := h6 ok' m'' θ'' hk.left (h8.trans he) (fun R src hR => hθ R src (gr2 R src hR))
          have B := h10 ok' m'' θ'' hk.right he hθ
          rcases A.one with ⟨i, l, a1, a2, a3⟩ | ⟨R, c, a1, a2, a3, a4⟩
          · refine ⟨fun e0 h0 => ?_, ?_, ?_⟩
            · rw [a1]; exact B.env _ (envAt a3 h0)
            · rw [a2]; exact B.mem
            · rw [a2]; exact B.src
          · refine ⟨fun e0 h0 => ?_, fun R' c' hc => ?_, fun R' hc => ?_⟩
            · rw [a1]; exact B.env _ h0
            · rw [a2] at hc
              have hc : cond (Nat.beq R' R) (some c) (dynMem ps z R') = some c' := hc
              cases hb : Nat.beq R' R with
              | true =>
                rw [hb] at hc
                simp at hc; subst hc
                rw [Nat.eq_of_beq_eq_true hb]
                exact a3
              | false => rw [hb] at hc; exact B.mem R' c' hc
            · rw [a2] at hc
              have hc : (cond (Nat.beq R' R) (some c) (dynMem ps z R')).isSome := hc
              cases hb : Nat.beq R' R with
              | true => rw [Nat.eq_of_beq_eq_true hb]; exact a4
              | false => rw [hb] at hc; exact B.src R' hc
end
end Go.GG
