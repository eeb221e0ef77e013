/- Calls: what is handed over, and what comes back. -/
import Derived.Test.YtlgfmkccnljhoaaC13
namespace Go.GG
open Go.RowKit
section
variable {P : Program} {E : Entry} {m : IMap} {s : St} {a : Act} {w : World}

/-- The blocks behind references. -/
def blk (m : IMap) (r : Nat) : List Nat := match m r with
  | some i => match i.block with | some b => [b] | none => []
  | none => []
def blks (m : IMap) (rs : List Nat) : List Nat := rs.flatMap (blk m)
theorem mem_blk {m : IMap} {r b : Nat} (h : b ∈ blk m r) : ∃ i, m r = some i ∧ i.block = some b := by
  unfold blk at h
  split at h
  · rename_i i hi
    split at h
    · rename_i b' hb; simp at h; subst h; exact ⟨i, hi, hb⟩
    · simp at h
  · simp at h
theorem mem_blks {m : IMap} {rs : List Nat} {b : Nat} (h : b ∈ blks m rs) : ∃ r ∈ rs, ∃ i, m r = some i ∧ i.block = some b := by
  simp only [blks, List.mem_flatMap] at h
  obtain ⟨r, hr, hb⟩ := h
  exact ⟨r, hr, mem_blk hb⟩
theorem blk_nodup (m : IMap) (r : Nat) : (blk m r).Nodup := by
  unfold blk
  split
  · split <;> simp
  · simp
theorem nodup_iff : ∀ {l : List Nat}, nodup l = true → l.Nodup
  | [], _ => List.nodup_nil
  | a :: l, h => by
    simp only [nodup, Bool.and_eq_true, Bool.not_eq_true', List.contains_eq_mem, decide_eq_false_iff_not] at h
    exact List.nodup_cons.2 ⟨h.1, nodup_iff h.2⟩
theorem Rel.blks_nodup (h : Rel P E m s a w) : ∀ {rs : List Nat}, rs.Nodup → (∀ r ∈ rs, (s.mem r).isSome) → (blks m rs).Nodup
  | [], _, _ => List.nodup_nil
  | r :: rs, hn, ha => by
    rw [List.nodup_cons] at hn
    simp only [blks, List.flatMap_cons]
    refine List.nodup_append.2 ⟨blk_nodup m r, h.blks_nodup hn.2 (fun r' hr' => ha r' (by simp [hr'])), fun b hb b' hb' e => ?_⟩
    subst e
    obtain ⟨i, hi, hib⟩ := mem_blk hb
    obtain ⟨r', hr', i', hi', hib'⟩ := mem_blks hb'
    obtain ⟨c, hc⟩ := Option.isSome_iff_exists.1 (ha r (by simp))
    obtain ⟨c', hc'⟩ := Option.isSome_iff_exists.1 (ha r' (by simp [hr']))
    have := h.inj r r' c c' i i' b hc hc' hi hi' hib hib'
    subst this
    exact hn.1 hr'

def pblk : PK → Value → List Nat
  | .lent _, v => ptrBlock v
  | .own _, v => rowBlock v
  | .blk _, v => rowBlock v
  | _, _ => []
def lblk : PK → Value → List Nat
  | .lent _, v => ptrBlock v
  | _, _ => []
theorem pblocks_cons (p : PK) (ps : List PK) (v : Value) (vs : List Value) : pblocks (p :: ps) (v :: vs) = pblk p v ++ pblocks ps vs := by cases p <;> rfl
theorem lblocks_cons (p : PK) (ps : List PK) (v : Value) (vs : List Value) : lblocks (p :: ps) (v :: vs) = lblk p v ++ lblocks ps vs := by cases p <;> rfl

theorem rowBlock_of {v : Value} (h : (Impl.arr v).shape) : rowBlock v = match (Impl.arr v).block with | some b => [b] | none => [] := by
  obtain ⟨A, n, c, rfl⟩ := h
  cases A <;> rfl
/-- What handing one argument over says. -/
structure Hands (P : Program) (m : IMap) (s : St) (w : World) (ok : Nat → Prop) (α : PK) (h : Handed α.den) (v : Value) : Prop where
  rep : PRep P w ok α h.x v
  pb : pblk α v = blks m h.refs
  lb : lblk α v = blks m h.lent
  alive : ∀ r ∈ h.refs ++ h.shown, (s.mem r).isSome
  var : ∀ r ∈ h.lent, ∃ b, m r = some (.var b)
  sub : ∀ r, r ∈ h.refs ↔ r ∈ h.given ∨ r ∈ h.lent
  vb : (vblk α v).Sublist (blks m h.shown)
theorem view_hands (_h : Rel P E m s a w) {sh : List Nat} {r : Nat} {t : T} {xs : List t.den} (hr : rowAll (s.mem r) = some ⟨t, xs⟩) (hu : t ≠ .int .u8) (hin : r ∈ sh) {A : Option Addr} {k0 n c c' : Nat} {v : Value}
    (ho : OwnRow w (okOf E m s.mem w) t xs (.slice A xs.length c)) (hv : v = .slice (A.map (·.add k0)) n c') {im : Impl} (him : m r = some im) (hblk : im.block = A.map (·.block)) :
    Hands P m s w (okC E m s.mem w sh) .view ⟨(), [], [], [], [r]⟩ v := by
  have hsome : (s.mem r).isSome := by
    unfold rowAll at hr
    cases hc : s.mem r with
    | none => rw [hc] at hr; cases hr
    | some d => rfl
  subst hv
  refine ⟨⟨_, n, _, rfl, fun ad had => ?_⟩, rfl, rfl, by simpa using hsome, by simp, by simp, ?_⟩
  · rcases ho with ⟨h1, h2⟩ | ⟨b, C, e, fr, cap, h1, _, h3, hh, hfr, _⟩
    · simp only [Value.slice.injEq] at h1
      obtain ⟨rfl, _, _⟩ := h1
      simp at had
    · simp only [Value.slice.injEq] at h1
      obtain ⟨rfl, _, rfl⟩ := h1
      have hb : ad.block = b ∧ ad.spot = none := by
        simp only [Option.map_some, add_plain, Option.some.injEq] at had; subst had; exact ⟨rfl, rfl⟩
      have hfr : fr = (0, 0) := hfr.resolve_right (fun hh => hu hh.2)
      subst hfr
      refine ⟨.inr ⟨r, hin, im, him, by rw [hblk, hb.1]; rfl⟩, hb.2, C, e, by rw [hb.1]; exact hh⟩
  · show (rowBlock _).Sublist _
    cases A with
    | none => exact List.nil_sublist _
    | some ad => 
      simp only [Option.map_some, rowBlock, blks, List.flatMap_cons, List.flatMap_nil, List.append_nil]
      simp only [blk, him, hblk, Option.map_some]
      have hb : (ad.add k0).block = ad.block := by
        rcases ho with ⟨h1, _⟩ | ⟨b, C, e, fr, cap, h1, _⟩
        · simp at h1
        · simp only [Value.slice.injEq, Option.some.injEq] at h1
          obtain ⟨rfl, _⟩ := h1
          rw [add_plain]
      rw [hb]
      exact List.Sublist.refl _
theorem hand_one (h : Rel P E m s a w) {Γ : Env} (hΓ : EnvOk P Γ) {k : Nat} {sh : List Nat} : ∀ {p : PK} {l : L} {x : Handed p.den} {v : Value}, Ev (handOne Γ k p l) s.mem x → (∀ r ∈ x.shown, r ∈ sh) →
    LRep P w (okOf E m s.mem w) m l v → Hands P m s w (okC E m s.mem w sh) p x v := by
  intro p l x v he hg hl
  have kc : Keeps w w (okOf E m s.mem w) (okC E m s.mem w sh) := keeps_okC sh
  unfold handOne at he
  split at he
  · -- imm, sref
    rename_i t r
    rw [ev_get] at he
    split at he
    · rename_i t' xs hx
      split at he
      · rename_i y hy
        rw [ev_pure] at he; subst he
        obtain ⟨rfl, rfl⟩ := cast?_some hy
        exact ⟨shown_row h (hg r (by simp)) hx hl, rfl, rfl, fun r' hr' => by simp at hr'; subst hr'; rcases rowOf_some hx with hc | hc <;> simp [hc], by simp, by simp, List.nil_sublist _⟩
      · simp [ev_fail] at he
    · simp [ev_fail] at he
  · -- imm
    rename_i t l _
    rw [ev_bind] at he
    obtain ⟨y, hy, he⟩ := he
    rw [ev_lift] at hy
    rw [ev_pure] at he; subst he
    exact ⟨T.holds_mono kc (leafVal?_holds hy hl), rfl, rfl, by simp, by simp, by simp, List.nil_sublist _⟩
  · -- agg
    rename_i t ls
    simp only [ev_bind, ev_lift, ev_pure] at he
    obtain ⟨⟨ls', rs⟩, h1, y, hy, rfl⟩ := he
    obtain ⟨vs, rfl, hvs⟩ := hl
    obtain ⟨h2, h3⟩ := shown_leaves h (sh := sh) h1 hg hvs
    exact ⟨⟨vs, rfl, implode_holds hy h2⟩, rfl, rfl, by simpa using h3, by simp, by simp, List.nil_sublist _⟩
  · -- lent
    rename_i t r
    rw [ev_get] at he
    split at he
    · rename_i ls hr
      simp only [ev_bind, ev_lift, ev_pure] at he
      obtain ⟨y, hy, rfl⟩ := he
      obtain ⟨b, hm, rfl⟩ := hl
      obtain ⟨i, h1, h2, h3⟩ := h.mem r _ hr
      rw [hm] at h1; simp at h1; subst h1
      obtain ⟨us, e, h4, h5⟩ := h2
      have hb : blk m r = [b] := by simp [blk, hm, Impl.block]
      exact ⟨⟨b, rfl, us, e, h4, T.holds_mono kc (implode_holds hy h5)⟩, by simp [pblk, ptrBlock, blks, hb], by simp [lblk, ptrBlock, blks, hb], by simp [hr], by simp [hm], by simp, List.nil_sublist _⟩
    · simp [ev_fail] at he
  · -- ro, eptr
    rename_i t t' x0
    simp only [ev_bind, ev_lift, ev_pure] at he
    obtain ⟨y, hy, rfl⟩ := he
    obtain ⟨rfl, rfl⟩ := cast?_some hy
    obtain ⟨b, o, C, e, fr, cs, rfl, h2, h3, h4, h5⟩ := hl
    exact ⟨⟨b, o, C, e, fr, cs, rfl, .inl h2, h3, T.holds_mono kc h4, h5⟩, rfl, rfl, by simp, by simp, by simp, List.nil_sublist _⟩
  · -- ro, ptr
    rename_i t r
    rw [ev_get] at he
    split at he
    · rename_i ls hr
      simp only [ev_bind, ev_lift, ev_pure] at he
      obtain ⟨⟨ls', rs⟩, h1, y, hy, rfl⟩ := he
      obtain ⟨b, hm, rfl⟩ := hl
      obtain ⟨i, h1', h2, h3⟩ := h.mem r _ hr
      rw [hm] at h1'; simp at h1'; subst h1'
      obtain ⟨us, e, h4, h5⟩ := h2
      obtain ⟨h6, h7⟩ := shown_leaves h (sh := sh) h1 (fun r' hr' => hg r' (by simp [hr'])) h5
      refine ⟨⟨b, 0, _, e, _, us, rfl, .inr ⟨r, hg r (by simp), _, hm, rfl⟩, h4, implode_holds hy h6, fun j u hu => by simpa using hu⟩, rfl, rfl, fun r' hr' => ?_, by simp, by simp, List.nil_sublist _⟩
      simp at hr'
      rcases hr' with rfl | hr'
      · simp [hr]
      · exact h7 r' hr'
    · simp [ev_fail] at he
  · -- own, sref
    rename_i t r
    rw [ev_get] at he
    split at he
    · rename_i t' xs hr
      split at he
      · rename_i y hy
        rw [ev_pure] at he; subst he
        obtain ⟨e, he⟩ := cast?_some hy
        cases e; subst he
        obtain ⟨i, h1, h2, h3⟩ := h.mem r _ hr
        simp only [LRep] at hl
        rw [h1] at hl
        rcases hl with hl | hl <;> (simp at hl; subst hl; simp only [CRep] at h2)
        refine ⟨h2.mono kc (fun _ _ => rfl), ?_, rfl, by simp [hr], by simp, by simp, List.nil_sublist _⟩
        simp only [pblk, blks, List.flatMap_cons, List.flatMap_nil, List.append_nil, blk, h1]
        exact rowBlock_of (h.shape r _ h1)
      · simp [ev_fail] at he
    · simp [ev_fail] at he
  · -- own, nils
    rw [ev_pure] at he; subst he
    simp only [LRep] at hl; subst hl
    exact ⟨.inl ⟨rfl, rfl⟩, rfl, rfl, by simp, by simp, by simp, List.nil_sublist _⟩
  · -- fn, fn
    rename_i ps b ps' b' q
    split at he
    · rename_i hh
      rw [ev_pure] at he; subst he
      obtain ⟨rfl, rfl⟩ := hh
      exact ⟨FnHolds.mono kc hl, rfl, rfl, by simp, by simp, by simp, List.nil_sublist _⟩
    · simp [ev_fail] at he
  · -- fn, clos
    rename_i ps b f caps
    split at he
    · simp [ev_fail] at he
    · rename_i sp hsp
      simp only [ev_bind, ev_pure] at he
      obtain ⟨⟨cs, rs⟩, h1, rfl⟩ := he
      have hmem : sp ∈ Γ f := List.mem_of_find?_eq_some hsp
      have h2 := clos_holds h hΓ (sh := sh) (as := ps) (b := b) (k := k) hl hmem ⟨caps, by simpa using List.find?_some hsp⟩ h1 hg
      refine ⟨h2, rfl, rfl, ?_, by simp, by simp, List.nil_sublist _⟩
      obtain ⟨cvs, rfl, hc⟩ := hl
      simpa using (caps_reps h (sh := sh) h1 hg hc).2
  · rw [ev_pure] at he; subst he
    exact ⟨hl, rfl, rfl, by simp, by simp, by simp, List.nil_sublist _⟩
  · rw [ev_pure] at he; subst he
    exact ⟨hl, rfl, rfl, by simp, by simp, by simp, List.nil_sublist _⟩
  · rename_i r cnt lo n
    rw [ev_get] at he
    split at he
    · rename_i t xs hr
      rcases ev_cond.1 he with ⟨_, he⟩ | ⟨hu8, he⟩
      · simp [ev_fail] at he
      rw [ev_pure] at he; subst he
      obtain ⟨A', c', k0, ho, hv, _, im, him, hblk⟩ := view_row h hr hl
      exact view_hands h hr (by simpa using hu8) (hg r (by simp)) ho hv him hblk
    · simp [ev_fail] at he
  · rename_i r
    rw [ev_get] at he
    split at he
    · rename_i t xs hr
      rcases ev_cond.1 he with ⟨_, he⟩ | ⟨hu8, he⟩
      · simp [ev_fail] at he
      rw [ev_pure] at he; subst he
      simp only [LRep] at hl
      have hr0 := hr
      unfold rowAll at hr
      split at hr
      · rename_i t' ys hrr
        simp only [Option.some.injEq, Sigma.mk.injEq] at hr
        obtain ⟨rfl, hr⟩ := hr
        obtain rfl := eq_of_heq hr
        obtain ⟨i, h1, h2, _⟩ := h.mem _ _ hrr
        rw [h1] at hl
        rcases hl with hl | hl <;> (simp at hl; subst hl; simp only [CRep] at h2)
        obtain ⟨A, c, rfl, _⟩ := own_form h2
        have hA : A.map (·.add 0) = A := by
          rcases h2 with ⟨h3, _⟩ | ⟨b, C, e, fr, cap, h3, _⟩
          · simp only [Value.slice.injEq] at h3
            obtain ⟨rfl, _⟩ := h3
            rfl
          · simp only [Value.slice.injEq] at h3
            obtain ⟨rfl, _⟩ := h3
            rfl
        exact view_hands h hr0 (by simpa using hu8) (hg r (by simp)) h2 (by rw [hA]) h1 (by cases A <;> rfl)
      · rename_i t' ys c hrr
        obtain ⟨i, h1, h2, _⟩ := h.mem _ _ hrr
        rw [h1] at hl
        rcases hl with hl | hl <;> (simp at hl; subst hl; simp only [CRep] at h2)
      · cases hr
    · simp [ev_fail] at he
  · rename_i t l
    simp only [ev_bind, ev_lift, ev_pure] at he
    obtain ⟨y, hy, rfl⟩ := he
    exact ⟨T.holds_mono kc (leafVal?_holds hy hl), rfl, rfl, by simp, by simp, by simp, List.nil_sublist _⟩
  · rename_i t t' xs
    simp only [ev_bind, ev_lift, ev_pure] at he
    obtain ⟨y, hy, rfl⟩ := he
    obtain ⟨e, he'⟩ := cast?_some hy
    simp only [T.slice.injEq] at e
    subst e
    simp only at he'
    subst he'
    exact ⟨⟨T.holds_mono (t := .slice _) kc hl.1, hl.2⟩, rfl, rfl, by simp, by simp, by simp, List.nil_sublist _⟩
  · simp [ev_fail] at he
structure HandsAll (P : Program) (m : IMap) (s : St) (w : World) (ok : Nat → Prop) (ps : List PK) (h : Handed (RD PK.den ps)) (vs : List Value) : Prop where
  rep : PReps P w ok ps h.x vs
  pb : pblocks ps vs = blks m h.refs
  lb : lblocks ps vs = blks m h.lent
  alive : ∀ r ∈ h.refs ++ h.shown, (s.mem r).isSome
  var : ∀ r ∈ h.lent, ∃ b, m r = some (.var b)
  sub : ∀ r, r ∈ h.refs ↔ r ∈ h.given ∨ r ∈ h.lent
  vb : (vblocks ps vs).Sublist (blks m h.shown)
theorem hd_mk {K : Type} {den : K → Type} {k : K} {r : List K} (a : den k) (b : RD den r) : RD.hd (k := k) (RD.mk (k := k) a b) = a := by cases r <;> rfl
theorem tl_mk {K : Type} {den : K → Type} {k : K} {r : List K} (a : den k) (b : RD den r) : RD.tl (k := k) (RD.mk (k := k) a b) = b := by cases r <;> rfl
theorem hand_all (h : Rel P E m s a w) {Γ : Env} (hΓ : EnvOk P Γ) {k : Nat} {sh : List Nat} : ∀ {ps : List PK} {ls : List L} {x : Handed (RD PK.den ps)} {vs : List Value}, Ev (handAll Γ k ps ls) s.mem x → (∀ r ∈ x.shown, r ∈ sh) →
    LReps P w (okOf E m s.mem w) m ls vs → HandsAll P m s w (okC E m s.mem w sh) ps x vs
  | [], [], x, vs, he, _, hl => by
    simp only [handAll, ev_pure] at he; subst he
    simp only [LReps] at hl; subst hl
    exact ⟨rfl, rfl, rfl, by simp, by simp, by simp, List.nil_sublist _⟩
  | p :: ps, l :: ls, x, _, he, hg, hl => by
    simp only [handAll, ev_bind, ev_pure] at he
    obtain ⟨y, hy, z, hz, rfl⟩ := he
    obtain ⟨v, vs, rfl, h1, h2⟩ := hl
    have a1 := hand_one h hΓ (sh := sh) hy (fun r hr => hg r (by simp [hr])) h1
    have a2 := hand_all h hΓ (sh := sh) hz (fun r hr => hg r (by simp [hr])) h2
    refine ⟨⟨v, vs, rfl, by rw [hd_mk]; exact a1.rep, by rw [tl_mk]; exact a2.rep⟩, ?_, ?_, ?_, ?_, ?_, ?_⟩
    · rw [pblocks_cons, a1.pb, a2.pb]; simp [blks]
    · rw [lblocks_cons, a1.lb, a2.lb]; simp [blks]
    · intro r hr
      simp only [List.mem_append] at hr
      rcases hr with (hr | hr) | (hr | hr)
      · exact a1.alive r (by simp [hr])
      · exact a2.alive r (by simp [hr])
      · exact a1.alive r (by simp [hr])
      · exact a2.alive r (by simp [hr])
    · intro r hr
      simp only [List.mem_append] at hr
      exact hr.elim (a1.var r) (a2.var r)
    · intro r
      simp only [List.mem_append, a1.sub, a2.sub]
      constructor <;> (intro hh; rcases hh with (hh | hh) | (hh | hh) <;> simp [hh])
    · rw [vblocks_cons]
      have : blks m (y.shown ++ z.shown) = blks m y.shown ++ blks m z.shown := by simp [blks]
      show (vblk p v ++ vblocks ps vs).Sublist (blks m (y.shown ++ z.shown))
      rw [this]
      exact List.Sublist.append a1.vb a2.vb
  | [], _ :: _, _, _, he, _, _ => by simp [handAll, ev_fail] at he
  | _ :: _, [], _, _, he, _, _ => by simp [handAll, ev_fail] at he
end
end Go.GG
