/- States in a pattern's form. -/
import Derived.Test.YtlgfmkccnljhoaaC23
namespace Go.GG
open Go.RowKit
section
variable {P : Program} {E : Entry} {m : IMap} {s : St} {a : Act} {w : World}

def SrcOk (w : World) (ok : Nat → Prop) (m : IMap) : Src → Impl → Prop
  | .ref d, i => m d = some i
  | .nil, i => i = .arr (.slice none 0 0)
  | .full t xs, i => ∃ v, i = .shr v ∧ (T.slice t).holds w ok xs [v] ∧ ∃ A, v = .slice A xs.length xs.length
def look : List (Nat × Impl) → IMap
  | [], _ => none
  | (r, i) :: l, n => if r = n then some i else look l n
inductive SubOk (w : World) (ok : Nat → Prop) (m : IMap) : Sub → List (Nat × Impl) → Prop
  | nil : SubOk w ok m [] []
  | cons {R : Nat} {src : Src} {θ : Sub} {i : Impl} {mm : List (Nat × Impl)} : θ.get R = none → SrcOk w ok m src i → SubOk w ok m θ mm → SubOk w ok m ((R, src) :: θ) ((R, i) :: mm)
theorem sub_get_cons {R a : Nat} {src : Src} {θ : Sub} : Sub.get ((a, src) :: θ) R = if a = R then some src else θ.get R := by
  simp only [Sub.get]
  by_cases e : a = R
  · subst e; simp
  · have : Nat.beq a R = false := by
      cases hb : Nat.beq a R with
      | false => rfl
      | true => exact absurd (Nat.eq_of_beq_eq_true hb) e
    simp [this, e]
theorem SubOk.look {ok : Nat → Prop} : ∀ {θ : Sub} {mm : List (Nat × Impl)}, SubOk w ok m θ mm → ∀ {R : Nat}, (θ.get R = none → look mm R = none) ∧ ∀ {src}, θ.get R = some src → ∃ i, look mm R = some i ∧ SrcOk w ok m src i
  | _, _, .nil, R => ⟨fun _ => rfl, fun h => by simp [Sub.get] at h⟩
  | _, _, .cons (R := R') h1 h2 h3, R => by
    rw [sub_get_cons]
    simp only [GG.look]
    by_cases e : R' = R
    · subst e
      simp only [if_true]
      exact ⟨fun h => by simp at h, fun h => by simp at h; subst h; exact ⟨_, rfl, h2⟩⟩
    · simp only [if_neg e]
      exact h3.look
theorem SubOk.back {ok : Nat → Prop} {θ : Sub} {mm : List (Nat × Impl)} (h : SubOk w ok m θ mm) {R : Nat} {i : Impl} (hl : GG.look mm R = some i) : ∃ src, θ.get R = some src ∧ SrcOk w ok m src i := by
  cases hg : θ.get R with
  | none => rw [(h.look (R := R)).1 hg] at hl; simp at hl
  | some src =>
    obtain ⟨j, h1, h2⟩ := (h.look (R := R)).2 hg
    rw [hl] at h1; simp at h1; subst h1
    exact ⟨src, rfl, h2⟩
theorem SubOk.ext {ok : Nat → Prop} {θ : Sub} {mm : List (Nat × Impl)} (h : SubOk w ok m θ mm) {R : Nat} {i : Impl} (hg : θ.get R = none) : Ext (GG.look mm) (GG.look ((R, i) :: mm)) := by
  intro r j hr
  simp only [GG.look]
  have : R ≠ r := fun e => by subst e; rw [(h.look (R := R)).1 hg] at hr; simp at hr
  rw [if_neg this]; exact hr
theorem bindRef_ref {ok : Nat → Prop} {θ θ' : Sub} {mm : List (Nat × Impl)} (h : SubOk w ok m θ mm) {R d : Nat} {i : Impl} (hi : m d = some i) (hb : bindRef θ R (.ref d) = some θ') :
    ∃ mm', SubOk w ok m θ' mm' ∧ Ext (look mm) (look mm') ∧ look mm' R = some i := by
  unfold bindRef at hb
  split at hb
  · rename_i hg
    simp at hb; subst hb
    exact ⟨(R, i) :: mm, .cons hg hi h, h.ext hg, by simp [look]⟩
  · rename_i a' hg
    simp only at hb
    cases hq : Nat.beq a' d with
    | false => rw [hq] at hb; simp at hb
    | true =>
      rw [hq] at hb
      simp at hb; subst hb
      obtain ⟨j, h1, h2⟩ := (h.look (R := R)).2 hg
      simp only [SrcOk] at h2
      rw [Nat.eq_of_beq_eq_true hq, hi] at h2; simp at h2; subst h2
      exact ⟨mm, h, Ext.refl _, h1⟩
  · simp at hb
  · simp at hb
theorem bindCaps_ok {ok : Nat → Prop} : ∀ {cs cs' : List (Nat × Nat)} {θ θ' : Sub} {mm : List (Nat × Impl)} {vs : List Value}, SubOk w ok m θ mm → bindCaps θ cs cs' = some θ' → capHolds m cs' vs →
    ∃ mm', SubOk w ok m θ' mm' ∧ Ext (look mm) (look mm') ∧ capHolds (look mm') cs vs
  | [], [], _, _, mm, vs, h, hb, hc => by
    simp only [bindCaps, Option.some.injEq] at hb; subst hb
    exact ⟨mm, h, Ext.refl _, hc⟩
  | (R, o) :: cs, (r, o') :: cs', θ, θ', mm, vs, h, hb, hc => by
    simp only [bindCaps] at hb
    split at hb
    · rename_i e
      subst e
      split at hb
      · rename_i θ1 hb1
        obtain ⟨b, vs', h1, rfl, h2⟩ := hc
        obtain ⟨mm1, h3, h4, h5⟩ := bindRef_ref h h1 hb1
        obtain ⟨mm2, h6, h7, h8⟩ := bindCaps_ok h3 hb h2
        exact ⟨mm2, h6, h4.trans h7, b, vs', h7 _ _ h5, rfl, h8⟩
      · simp at hb
    · simp at hb
  | [], _ :: _, _, _, _, _, _, hb, _ => by simp [bindCaps] at hb
  | _ :: _, [], _, _, _, _, _, hb, _ => by simp [bindCaps] at hb
theorem bindStat_ok {ok : Nat → Prop} {θ θ' : Sub} {mm : List (Nat × Impl)} {l l' : L} {v : Value} (h : SubOk w ok m θ mm) (hb : bindStat θ l l' = some θ') (hv : LRep P w ok m l' v) :
    ∃ mm', SubOk w ok m θ' mm' ∧ Ext (look mm) (look mm') ∧ ∀ ok' m'', Ext (look mm') m'' → LRep P w ok' m'' l v := by
  unfold bindStat at hb
  split at hb
  · -- sref, sref
    rename_i R r
    simp only [LRep] at hv
    rcases hv with hv | hv <;> (obtain ⟨mm', h1, h2, h3⟩ := bindRef_ref h hv hb; refine ⟨mm', h1, h2, fun ok' m'' he => ?_⟩)
    · exact .inl (he _ _ h3)
    · exact .inr (he _ _ h3)
  · -- sref, nils
    rename_i R
    simp only [LRep] at hv; subst hv
    unfold bindRef at hb
    split at hb
    · rename_i hg
      simp at hb; subst hb
      exact ⟨_, .cons (i := .arr (.slice none 0 0)) hg rfl h, h.ext hg, fun ok' m'' he => .inl (he _ _ (by simp [look]))⟩
    · simp at hb
    · rename_i hg
      simp at hb; subst hb
      obtain ⟨j, h1, h2⟩ := (h.look (R := R)).2 hg
      simp only [SrcOk] at h2; subst h2
      exact ⟨mm, h, Ext.refl _, fun ok' m'' he => .inl (he _ _ h1)⟩
    · simp at hb
  · -- sref, full
    rename_i R t xs
    unfold bindRef at hb
    split at hb
    · rename_i hg
      simp at hb; subst hb
      exact ⟨_, .cons (i := .shr v) hg ⟨v, rfl, hv.1, hv.2⟩ h, h.ext hg, fun ok' m'' he => .inr (he _ _ (by simp [look]))⟩
    · simp at hb
    · simp at hb
    · simp at hb
  · -- ptr
    rename_i R o r o'
    split at hb
    · rename_i e
      subst e
      obtain ⟨b, h1, rfl⟩ := hv
      obtain ⟨mm', h2, h3, h4⟩ := bindRef_ref h h1 hb
      exact ⟨mm', h2, h3, fun ok' m'' he => ⟨b, he _ _ h4, rfl⟩⟩
    · simp at hb
  · simp at hb; subst hb; exact ⟨mm, h, Ext.refl _, fun _ _ _ => hv⟩
  · simp at hb; subst hb; exact ⟨mm, h, Ext.refl _, fun _ _ _ => hv⟩
  · simp at hb; subst hb; exact ⟨mm, h, Ext.refl _, fun _ _ _ => hv⟩
  · simp at hb; subst hb; exact ⟨mm, h, Ext.refl _, fun _ _ _ => trivial⟩
  · rename_i f cs f' cs'
    split at hb
    · rename_i e
      subst e
      obtain ⟨caps, rfl, hc⟩ := hv
      obtain ⟨mm', h1, h2, h3⟩ := bindCaps_ok h hb hc
      exact ⟨mm', h1, h2, fun ok' m'' he => ⟨caps, rfl, h3.mono he⟩⟩
    · simp at hb
  · simp at hb
theorem bindStats_ok (h : Rel P E m s a w) : ∀ {st : List (Nat × L)} {θ θ' : Sub} {mm : List (Nat × Impl)}, SubOk w (okOf E m s.mem w) m θ mm → bindStats s θ st = some θ' →
    ∃ mm', SubOk w (okOf E m s.mem w) m θ' mm' ∧ Ext (look mm) (look mm') ∧ ∀ ok' m'', Ext (look mm') m'' → ∀ t, LRep P w ok' m'' (statEnv st t) (a.tmps.getD t undef)
  | [], θ, θ', mm, hs, hb => by
    simp only [bindStats, Option.some.injEq] at hb; subst hb
    exact ⟨mm, hs, Ext.refl _, fun _ _ _ _ => trivial⟩
  | (i, l) :: st, θ, θ', mm, hs, hb => by
    simp only [bindStats] at hb
    split at hb
    · simp at hb
    · rename_i θ1 h1
      obtain ⟨mm1, h2, h3, h4⟩ := bindStat_ok hs h1 (h.env i)
      obtain ⟨mm2, h5, h6, h7⟩ := bindStats_ok h h2 hb
      refine ⟨mm2, h5, h3.trans h6, fun ok' m'' he t => ?_⟩
      simp only [statEnv]
      cases ht : Nat.beq t i with
      | true =>
        rw [Nat.eq_of_beq_eq_true ht]
        exact h4 ok' m'' (h6.trans he)
      | false => exact h7 ok' m'' he t

/-! ### What is picked -/
/-- What the rows given away are to be: fine. -/
structure Lets (E : Entry) (m : IMap) (s : St) (w : World) (ok' : Nat → Prop) (G : List Nat) : Prop where
  old : ∀ b, okOf E m s.mem w b → ok' b
  row : ∀ r ∈ G, ∀ i b, m r = some i → i.block = some b → ok' b
theorem Lets.left {ok' : Nat → Prop} {g g' : List Nat} (h : Lets E m s w ok' (g ++ g')) : Lets E m s w ok' g := ⟨h.old, fun r hr => h.row r (by simp [hr])⟩
theorem Lets.right {ok' : Nat → Prop} {g g' : List Nat} (h : Lets E m s w ok' (g ++ g')) : Lets E m s w ok' g' := ⟨h.old, fun r hr => h.row r (by simp [hr])⟩
theorem let_row (h : Rel P E m s a w) {ok' : Nat → Prop} {G : List Nat} (hk : Lets E m s w ok' G) {r : Nat} (hr : r ∈ G) {t : T} {xs : List t.den} (hx : rowOf (s.mem r) = some ⟨t, xs⟩) {v : Value}
    (hv : LRep P w (okOf E m s.mem w) m (.sref r) v) : (T.slice t).holds w ok' xs [v] := by
  have kp : Keeps w w (okOf E m s.mem w) ok' := Keeps.weaken hk.old
  have own : m r = some (.arr v) → OwnRow w (okOf E m s.mem w) t xs v → (T.slice t).holds w ok' xs [v] := by
    intro hm ho
    rcases ho with ⟨rfl, rfl⟩ | ⟨b, C, e, fr, cap, rfl, h1, h2, h3, h4, h5⟩
    · exact ⟨none, 0, rfl, Nat.le_refl _, .inl ⟨rfl, fun _ => rfl⟩⟩
    · refine ⟨_, cap, rfl, h1, .inr ⟨b, 0, C, e, fr, rfl, hk.row r hr _ b hm rfl, h3, fun i x hi => ?_⟩⟩
      obtain ⟨ds, hd, hj⟩ := h5 i x hi
      exact ⟨ds, T.holds_mono kp hd, fun j u hu => by rw [Nat.zero_add]; exact hj j u hu⟩
  simp only [LRep] at hv
  rcases rowOf_some hx with hc | hc <;> (obtain ⟨im, h1, h2, h3⟩ := h.mem _ _ hc; have hm := h1; rw [h1] at hv; rcases hv with hv | hv <;> (simp at hv; subst hv; simp only [CRep] at h2))
  · exact own hm h2
  · exact own hm h2
  · exact T.holds_mono (t := .slice t) kp h2.1
theorem rowOf_alive {μ : Nat → Option C} {r : Nat} {x : (t : T) × List t.den} (h : rowOf (μ r) = some x) : (μ r).isSome := by
  cases hc : μ r with
  | none => rw [hc] at h; simp [rowOf] at h
  | some c => rfl
theorem pickVal_ok (h : Rel P E m s a w) {t : T} {l : L} {x : t.den} {g : List Nat} {v : Value} (hp : pickVal s t l = some (x, g)) (hv : LRep P w (okOf E m s.mem w) m l v) :
    (∀ r ∈ g, (s.mem r).isSome) ∧ ∀ ok', Lets E m s w ok' g → t.holds w ok' x [v] := by
  unfold pickVal at hp
  split at hp
  · rename_i r
    split at hp
    · rename_i t' xs hx
      split at hp
      · rename_i y hy
        simp only [Option.some.injEq, Prod.mk.injEq] at hp
        obtain ⟨rfl, rfl⟩ := hp
        obtain ⟨rfl, rfl⟩ := cast?_some hy
        exact ⟨fun r' hr' => by simp at hr'; subst hr'; exact rowOf_alive hx, fun ok' hk => let_row h hk (by simp) hx hv⟩
      · simp at hp
    · simp at hp
  · split at hp
    · rename_i y hy
      simp only [Option.some.injEq, Prod.mk.injEq] at hp
      obtain ⟨rfl, rfl⟩ := hp
      exact ⟨by simp, fun ok' hk => T.holds_mono (Keeps.weaken hk.old) (leafVal?_holds hy hv)⟩
    · simp at hp
theorem pickLeaves_ok (h : Rel P E m s a w) : ∀ {ls ls' : List L} {g : List Nat} {vs : List Value}, pickLeaves s ls = some (ls', g) → LReps P w (okOf E m s.mem w) m ls vs →
    (∀ r ∈ g, (s.mem r).isSome) ∧ ∀ ok', Lets E m s w ok' g → LReps P w ok' m ls' vs
  | [], ls', g, vs, hp, hl => by
    simp only [pickLeaves, Option.some.injEq, Prod.mk.injEq] at hp
    obtain ⟨rfl, rfl⟩ := hp
    exact ⟨by simp, fun _ _ => hl⟩
  | l :: ls, ls', g, _, hp, hl => by
    obtain ⟨v, vs, rfl, h1, h2⟩ := hl
    cases l
    case sref r =>
      simp only [pickLeaves] at hp
      split at hp
      · rename_i t xs hx
        split at hp
        · rename_i a' b' hq
          simp only [Option.some.injEq, Prod.mk.injEq] at hp
          obtain ⟨rfl, rfl⟩ := hp
          obtain ⟨h3, h4⟩ := pickLeaves_ok h hq h2
          refine ⟨fun r' hr' => ?_, fun ok' hk => ⟨v, vs, rfl, let_row h hk (by simp) hx h1, h4 ok' ⟨hk.old, fun r' hr' => hk.row r' (by simp [hr'])⟩⟩⟩
          cases hr' with
          | head => exact rowOf_alive hx
          | tail _ hr' => exact h3 r' hr'
        · simp at hp
      · simp at hp
    all_goals
      simp only [pickLeaves] at hp
      split at hp
      · rename_i a' b' hq
        simp only [Option.some.injEq, Prod.mk.injEq] at hp
        obtain ⟨rfl, rfl⟩ := hp
        obtain ⟨h3, h4⟩ := pickLeaves_ok h hq h2
        exact ⟨h3, fun ok' hk => ⟨v, vs, rfl, h1.mono (Keeps.weaken hk.old) (Ext.refl m), h4 ok' hk⟩⟩
      · simp at hp
theorem pickCells_ok (h : Rel P E m s a w) : ∀ {ps : List PLeaf} {ls : List L} {x : RD T.den (dynTs ps)} {θ θ' : Sub} {g : List Nat} {vs : List Value} {mm : List (Nat × Impl)}, SubOk w (okOf E m s.mem w) m θ mm → pickCells s θ ps ls = some (x, θ', g) →
    LReps P w (okOf E m s.mem w) m ls vs → ∃ mm', SubOk w (okOf E m s.mem w) m θ' mm' ∧ Ext (look mm) (look mm') ∧ (∀ r ∈ g, (s.mem r).isSome) ∧
      ∀ ok' m'', Lets E m s w ok' g → Ext (look mm') m'' → LReps P w ok' m'' (cellsOf ps x) vs
  | [], [], x, θ, θ', g, vs, mm, hs, hp, hl => by
    simp only [pickCells, Option.some.injEq, Prod.mk.injEq] at hp
    obtain ⟨rfl, rfl, rfl⟩ := hp
    exact ⟨mm, hs, Ext.refl _, by simp, fun _ _ _ _ => hl⟩
  | .dyn t :: ps, l :: ls, x, θ, θ', g, _, mm, hs, hp, hl => by
    simp only [pickCells] at hp
    split at hp
    · simp at hp
    · rename_i y g1 hy
      split at hp
      · simp at hp
      · rename_i z θ1 g2 hz
        simp only [Option.some.injEq, Prod.mk.injEq] at hp
        obtain ⟨rfl, rfl, rfl⟩ := hp
        obtain ⟨v, vs, rfl, h1, h2⟩ := hl
        obtain ⟨h3, h4⟩ := pickVal_ok h hy h1
        obtain ⟨mm', h5, h6, h7, h8⟩ := pickCells_ok h hs hz h2
        refine ⟨mm', h5, h6, fun r hr => ?_, fun ok' m'' hk he => ⟨v, vs, rfl, ?_, ?_⟩⟩
        · rcases List.mem_append.1 hr with hr | hr
          · exact h3 r hr
          · exact h7 r hr
        · simp only [LRep]; rw [hd_mk]; exact h4 ok' hk.left
        · rw [tl_mk]; exact h8 ok' m'' hk.right he
  | .stat e :: ps, l :: ls, x, θ, θ', g, _, mm, hs, hp, hl => by
    simp only [pickCells] at hp
    split at hp
    · simp at hp
    · rename_i θ1 hb
      obtain ⟨v, vs, rfl, h1, h2⟩ := hl
      obtain ⟨mm1, h3, h4, h5⟩ := bindStat_ok hs hb h1
      obtain ⟨mm', h6, h7, h8, h9⟩ := pickCells_ok h h3 hp h2
      exact ⟨mm', h6, h4.trans h7, h8, fun ok' m'' hk he => ⟨v, vs, rfl, h5 ok' m'' (h7.trans he), h9 ok' m'' hk he⟩⟩
  | [], _ :: _, _, _, _, _, _, _, _, hp, _ => by simp [pickCells] at hp
  | .dyn _ :: _, [], _, _, _, _, _, _, _, hp, _ => by simp [pickCells] at hp
  | .stat _ :: _, [], _, _, _, _, _, _, _, hp, _ => by simp [pickCells] at hp
end
end Go.GG
