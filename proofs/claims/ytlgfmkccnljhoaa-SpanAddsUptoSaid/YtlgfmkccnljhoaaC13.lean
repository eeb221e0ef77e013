/- What a function's specification says; what a caller hands over. -/
import Derived.Test.YtlgfmkccnljhoaaC12
namespace Go.GG
open Go.RowKit

/-! ### Contracts -/
def VarAt (w : World) (ok : Nat → Prop) (t : T) (x : t.den) (b : Nat) : Prop := ∃ vs e, w.heap[b]? = some (.cells vs.toArray e (0, 0)) ∧ t.holds w ok x vs
def ptrBlock : Value → List Nat
  | .pointer (some a) => [a.block]
  | _ => []
def rowBlock : Value → List Nat
  | .slice (some a) _ _ => [a.block]
  | _ => []
def PRep (P : Program) (w : World) (ok : Nat → Prop) : (p : PK) → p.den → Value → Prop
  | .imm t, x, v => t.holds w ok x [v]
  | .agg t, x, v => ∃ cs, v = .agg cs.toArray ∧ t.holds w ok x cs
  | .lent t, x, v => ∃ b, v = .pointer (some ⟨b, 0, none⟩) ∧ VarAt w ok t x b
  | .ro t, x, v => ∃ b o C e fr cs, v = .pointer (some ⟨b, o, none⟩) ∧ ok b ∧ w.heap[b]? = some (.cells C e fr) ∧ t.holds w ok x cs ∧ ∀ j u, cs[j]? = some u → C[o + j]? = some u
  | .own t, xs, v => OwnRow w ok t xs v
  | .fn as b, p, v => FnHolds P w ok as b p v
  | .nilp, _, v => v = .pointer none
  | .nils, _, v => v = .slice none 0 0
  | .nnil t, xs, v => (T.slice t).holds w ok xs [v] ∧ ∃ a n c, v = .slice (some a) n c
  | .blk t, x, v => ∃ A, v = .slice A x.1.length x.2 ∧ OwnRow w ok t x.1 v
  | .ext t, x, v => t.holds w ok x [v]
  | .view, _, v => ∃ A n c, v = .slice A n c ∧ ∀ a, A = some a → ok a.block ∧ a.spot = none ∧ ∃ C e, w.heap[a.block]? = some (.cells C e (0, 0))
def PReps (P : Program) (w : World) (ok : Nat → Prop) : (ps : List PK) → RD PK.den ps → List Value → Prop
  | [], _, vs => vs = []
  | p :: ps, x, vs => ∃ v vs', vs = v :: vs' ∧ PRep P w ok p (RD.hd (k := p) x) v ∧ PReps P w ok ps (RD.tl (k := p) x) vs'
def pblocks : List PK → List Value → List Nat
  | .lent _ :: ps, v :: vs => ptrBlock v ++ pblocks ps vs
  | .own _ :: ps, v :: vs => rowBlock v ++ pblocks ps vs
  | .blk _ :: ps, v :: vs => rowBlock v ++ pblocks ps vs
  | _ :: ps, _ :: vs => pblocks ps vs
  | _, _ => []
def lblocks : List PK → List Value → List Nat
  | .lent _ :: ps, v :: vs => ptrBlock v ++ lblocks ps vs
  | _ :: ps, _ :: vs => lblocks ps vs
  | _, _ => []
def vblk : PK → Value → List Nat
  | .view, v => rowBlock v
  | _, _ => []
def vblocks : List PK → List Value → List Nat
  | .view :: ps, v :: vs => rowBlock v ++ vblocks ps vs
  | _ :: ps, _ :: vs => vblocks ps vs
  | _, _ => []
theorem vblocks_cons (p : PK) (ps : List PK) (v : Value) (vs : List Value) : vblocks (p :: ps) (v :: vs) = vblk p v ++ vblocks ps vs := by cases p <;> rfl
def RRep (w : World) (ok : Nat → Prop) : (r : RK) → r.den → Value → Prop
  | .imm t, x, v => t.holds w ok x [v]
  | .agg t, x, v => ∃ cs, v = .agg cs.toArray ∧ t.holds w ok x cs
  | .own t, xs, v => OwnRow w ok t xs v
  | .full t, xs, v => (T.slice t).holds w ok xs [v] ∧ ∃ A, v = .slice A xs.length xs.length
  | .fresh t, x, v => ∃ b, v = .pointer (some ⟨b, 0, none⟩) ∧ VarAt w ok t x b
  | .ofresh t, o, v => (o = none ∧ v = .pointer none) ∨ ∃ x b, o = some x ∧ v = .pointer (some ⟨b, 0, none⟩) ∧ VarAt w ok t x b
  | .nsl t, o, v => (o = none ∧ v = .slice none 0 0) ∨ ∃ xs, o = some xs ∧ (T.slice t).holds w ok xs [v] ∧ ∃ a n c, v = .slice (some a) n c
  | .nilp, _, v => v = .pointer none
  | .back _, _, _ => False
def RReps (w : World) (ok : Nat → Prop) : (rs : List RK) → RD RK.den rs → List Value → List Nat → Prop
  | [], _, vs, bs => vs = [] ∧ bs = []
  | .back t :: rs, y, vs, bs => ∃ b bs', bs = b :: bs' ∧ VarAt w ok t (RD.hd (k := RK.back t) y) b ∧ RReps w ok rs (RD.tl (k := RK.back t) y) vs bs'
  | r :: rs, y, vs, bs => ∃ v vs', vs = v :: vs' ∧ RRep w ok r (RD.hd (k := r) y) v ∧ RReps w ok rs (RD.tl (k := r) y) vs' bs
def rblocks : List RK → List Value → List Nat
  | .back _ :: rs, vs => rblocks rs vs
  | .own _ :: rs, v :: vs => rowBlock v ++ rblocks rs vs
  | .fresh _ :: rs, v :: vs => ptrBlock v ++ rblocks rs vs
  | .ofresh _ :: rs, v :: vs => ptrBlock v ++ rblocks rs vs
  | _ :: rs, _ :: vs => rblocks rs vs
  | _, _ => []
def valOf : List Value → Value
  | [v] => v
  | vs => .tuple vs.toArray
def SpecOk (P : Program) (f : FuncId) (s : FSpec) : Prop := Runs P f ∧ ∀ k x y, s.F k x = some y → ∀ (w : World) (ok0 : Nat → Prop) (vals : List Value), (∀ b, ok0 b → b < w.heap.size) →
  PReps P w ok0 s.ps x vals → (pblocks s.ps vals ++ vblocks s.ps vals).Nodup → (∀ b ∈ pblocks s.ps vals, b < w.heap.size ∧ ¬ ok0 b) →
  Calls P f vals.toArray w fun e w' => ∃ vs, e = .returned (valOf vs) ∧ Goes (· ∈ pblocks s.ps vals) w w' ∧ (rblocks s.rs vs ++ lblocks s.ps vals).Nodup ∧
    (∀ b ∈ rblocks s.rs vs, b < w'.heap.size ∧ (b ∈ pblocks s.ps vals ∨ w.heap.size ≤ b)) ∧
    RReps w' (fun b => b < w'.heap.size ∧ (ok0 b ∨ b ∈ pblocks s.ps vals ∨ w.heap.size ≤ b) ∧ b ∉ rblocks s.rs vs ++ lblocks s.ps vals) s.rs y vs (lblocks s.ps vals)
/-- A function of the model's own. -/
def PK.outer : PK → Bool
  | .view => true
  | .ext _ => true
  | _ => false
structure XSpec (P : Program) (f : FuncId) (s : FSpec) : Prop where
  ps : s.ps.all PK.outer = true
  many : s.ps ≠ []
  rs : ∃ b, s.rs = [.imm b] ∧ b.flat = true
  run : ∀ k x y, s.F k x = some y → ∀ (w : World) (ok0 : Nat → Prop) (vals : List Value), (∀ b, ok0 b → b < w.heap.size) → PReps P w ok0 s.ps x vals → (vblocks s.ps vals).Nodup →
    ∃ v, (callFunc f vals.toArray).run P w = .ok (.value v) w ∧ RReps w ok0 s.rs y [v] []
def EnvOk (P : Program) (Γ : Env) : Prop := ∀ f s, s ∈ Γ f → SpecOk P f s ∨ XSpec P f s
theorem XSpec.unfit {P : Program} {f : FuncId} {s : FSpec} (h : XSpec P f s) : ∀ as cs, closFits s.ps as cs = false := by
  intro as cs
  have h1 := h.ps
  have h2 := h.many
  cases hp : s.ps with
  | nil => exact absurd hp h2
  | cons p ps =>
    rw [hp] at h1
    simp only [List.all_cons, Bool.and_eq_true] at h1
    cases p <;> simp [PK.outer] at h1 <;> simp [closFits]

/-! ### Handing over -/
section
variable {P : Program} {E : Entry} {m : IMap} {s : St} {a : Act} {w : World}
/-- What a callee may look at: what is fine, and what is shown to it. -/
def okC (E : Entry) (m : IMap) (μ : Nat → Option C) (w : World) (sh : List Nat) (b : Nat) : Prop := okOf E m μ w b ∨ ∃ r ∈ sh, ∃ i, m r = some i ∧ i.block = some b
theorem keeps_okC (sh : List Nat) : Keeps w w (okOf E m s.mem w) (okC E m s.mem w sh) := Keeps.weaken fun _ h => .inl h
theorem shown_row (h : Rel P E m s a w) {sh : List Nat} {r : Nat} (hr : r ∈ sh) {t : T} {xs : List t.den} (hx : rowOf (s.mem r) = some ⟨t, xs⟩) {v : Value}
    (hv : LRep P w (okOf E m s.mem w) m (.sref r) v) : (T.slice t).holds w (okC E m s.mem w sh) xs [v] := by
  have own : m r = some (.arr v) → OwnRow w (okOf E m s.mem w) t xs v → (T.slice t).holds w (okC E m s.mem w sh) xs [v] := by
    intro hm ho
    rcases ho with ⟨rfl, rfl⟩ | ⟨b, C, e, fr, cap, rfl, h1, h2, h3, h4, h5⟩
    · exact ⟨none, 0, rfl, Nat.le_refl _, .inl ⟨rfl, fun _ => rfl⟩⟩
    · refine ⟨_, cap, rfl, h1, .inr ⟨b, 0, C, e, fr, rfl, .inr ⟨r, hr, _, hm, rfl⟩, h3, fun i x hi => ?_⟩⟩
      obtain ⟨ds, hd, hj⟩ := h5 i x hi
      exact ⟨ds, T.holds_mono (keeps_okC sh) hd, fun j u hu => by rw [Nat.zero_add]; exact hj j u hu⟩
  simp only [LRep] at hv
  rcases rowOf_some hx with hc | hc <;> (obtain ⟨im, h1, h2, h3⟩ := h.mem _ _ hc; have hm := h1; rw [h1] at hv; rcases hv with hv | hv <;> (simp at hv; subst hv; simp only [CRep] at h2))
  · exact own hm h2
  · exact own hm h2
  · exact T.holds_mono (t := .slice t) (keeps_okC sh) h2.1
theorem shown_leaves (h : Rel P E m s a w) {sh : List Nat} : ∀ {ls ls' : List L} {rs : List Nat} {vs : List Value}, Ev (showLeaves ls) s.mem (ls', rs) → (∀ r ∈ rs, r ∈ sh) → LReps P w (okOf E m s.mem w) m ls vs → LReps P w (okC E m s.mem w sh) m ls' vs ∧ ∀ r ∈ rs, (s.mem r).isSome
  | [], ls', rs, vs, hp, _, hl => by simp only [showLeaves, ev_pure, Prod.mk.injEq] at hp; obtain ⟨rfl, rfl⟩ := hp; exact ⟨hl, by simp⟩
  | l :: ls, ls', rs, vs, hp, hg, hl => by
    obtain ⟨v, vs', rfl, h1, h2⟩ := hl
    have key : Ev ((showLeaves ls).bind fun x => RM.pure (l :: x.1, x.2)) s.mem (ls', rs) → LReps P w (okC E m s.mem w sh) m ls' (v :: vs') ∧ ∀ r ∈ rs, (s.mem r).isSome := by
      intro hp
      rw [ev_bind] at hp
      obtain ⟨⟨b1, b2⟩, hb, hp⟩ := hp
      simp only [ev_pure, Prod.mk.injEq] at hp
      obtain ⟨rfl, rfl⟩ := hp
      obtain ⟨h3, h4⟩ := shown_leaves h hb hg h2
      exact ⟨⟨v, vs', rfl, h1.mono (keeps_okC sh) (Ext.refl m), h3⟩, h4⟩
    cases l
    case sref r =>
      simp only [showLeaves] at hp
      rw [ev_get] at hp
      split at hp
      · rename_i t xs hx
        rw [ev_bind] at hp
        obtain ⟨⟨b1, b2⟩, hb, hp⟩ := hp
        simp only [ev_pure, Prod.mk.injEq] at hp
        obtain ⟨rfl, rfl⟩ := hp
        obtain ⟨h3, h4⟩ := shown_leaves h hb (fun r' hr' => hg r' (by simp [hr'])) h2
        refine ⟨⟨v, vs', rfl, shown_row h (hg r (by simp)) hx h1, h3⟩, fun r' hr' => ?_⟩
        cases hr' with
        | head => rcases rowOf_some hx with hc | hc <;> simp [hc]
        | tail _ hr' => exact h4 r' hr'
      · simp [ev_fail] at hp
    all_goals exact key hp

theorem AKs_len {ok : Nat → Prop} : ∀ {as : List AK} {y : RD AK.den as} {vs : List Value}, AKs w ok as y vs → vs.length = as.length
  | [], _, _, h => by simp only [AKs] at h; subst h; rfl
  | a :: as, _, _, h => by simp only [AKs] at h; obtain ⟨v, vs', rfl, _, h⟩ := h; simp [AKs_len h]
/-- A closure's captured variables. -/
def RoReps (w : World) (ok : Nat → Prop) : List (List L) → List Value → Prop
  | [], vs => vs = []
  | ls :: lss, vs => ∃ b C e us vs', vs = .pointer (some ⟨b, 0, none⟩) :: vs' ∧ ok b ∧ w.heap[b]? = some (.cells C e (0, 0)) ∧ C = us.toArray ∧ (∀ t x, T.implode t ls = some x → t.holds w ok x us) ∧ RoReps w ok lss vs'
theorem RoReps.mono {w w' : World} {ok ok' : Nat → Prop} (hk : Keeps w w' ok ok') : ∀ {lss : List (List L)} {vs : List Value}, RoReps w ok lss vs → RoReps w' ok' lss vs
  | [], _, h => h
  | ls :: lss, _, h => by
    obtain ⟨b, C, e, us, vs', h1, h2, h3, h4, h5, h6⟩ := h
    exact ⟨b, C, e, us, vs', h1, (hk b h2).1, (hk b h2).2.trans h3, h4, fun t x hx => T.holds_mono hk (h5 t x hx), h6.mono hk⟩
theorem closArgs_reps {ok : Nat → Prop} : ∀ {ps : List PK} {as : List AK} {y : RD AK.den as} {caps : List (List L)} {x : RD PK.den ps} {vals vs : List Value}, closArgs ps as y caps = some x → AKs w ok as y vals → RoReps w ok caps vs →
    PReps P w ok ps x (vals ++ vs) ∧ pblocks ps (vals ++ vs) = [] ∧ lblocks ps (vals ++ vs) = [] ∧ vblocks ps (vals ++ vs) = []
  | [], [], y, [], x, vals, vs, h, ha, hr => by
    simp only [AKs] at ha; subst ha
    simp only [RoReps] at hr; subst hr
    exact ⟨rfl, rfl, rfl, rfl⟩
  | .imm t :: ps, ⟨t', false⟩ :: as, y, caps, x, vals, vs, h, ha, hr => by
    simp only [closArgs] at h
    split at h
    · simp at h
    · rename_i z hz
      split at h
      · simp at h
      · rename_i q hq
        simp only [Option.some.injEq] at h; subst h
        simp only [AKs] at ha
        obtain ⟨v, vals', rfl, h1, h2⟩ := ha
        obtain ⟨rfl, rfl⟩ := cast?_some hz
        obtain ⟨h3, h4, h5, h5v⟩ := closArgs_reps hq h2 hr
        have e1 : RD.hd (k := PK.imm t') (RD.mk (k := PK.imm t') (RD.hd (k := (⟨t', false⟩ : AK)) y) q) = RD.hd (k := (⟨t', false⟩ : AK)) y := by cases ps <;> rfl
        have e2 : RD.tl (k := PK.imm t') (RD.mk (k := PK.imm t') (RD.hd (k := (⟨t', false⟩ : AK)) y) q) = q := by cases ps <;> rfl
        refine ⟨⟨v, vals' ++ vs, rfl, ?_, by rw [e2]; exact h3⟩, h4, h5, h5v⟩
        rw [e1]; exact h1
  | .agg t :: ps, ⟨t', true⟩ :: as, y, caps, x, vals, vs, h, ha, hr => by
    simp only [closArgs] at h
    split at h
    · simp at h
    · rename_i z hz
      split at h
      · simp at h
      · rename_i q hq
        simp only [Option.some.injEq] at h; subst h
        simp only [AKs] at ha
        obtain ⟨v, vals', rfl, h1, h2⟩ := ha
        obtain ⟨rfl, rfl⟩ := cast?_some hz
        obtain ⟨h3, h4, h5, h5v⟩ := closArgs_reps hq h2 hr
        have e1 : RD.hd (k := PK.agg t') (RD.mk (k := PK.agg t') (RD.hd (k := (⟨t', true⟩ : AK)) y) q) = RD.hd (k := (⟨t', true⟩ : AK)) y := by cases ps <;> rfl
        have e2 : RD.tl (k := PK.agg t') (RD.mk (k := PK.agg t') (RD.hd (k := (⟨t', true⟩ : AK)) y) q) = q := by cases ps <;> rfl
        refine ⟨⟨v, vals' ++ vs, rfl, ?_, by rw [e2]; exact h3⟩, h4, h5, h5v⟩
        rw [e1]; exact h1
  | .ro t :: ps, [], y, c :: caps, x, vals, vs, h, ha, hr => by
    simp only [closArgs] at h
    split at h
    · simp at h
    · rename_i z hz
      split at h
      · simp at h
      · rename_i q hq
        simp only [Option.some.injEq] at h; subst h
        have ha' : vals = [] := ha
        subst ha'
        obtain ⟨b, C, e, us, vs', rfl, h1, h2, h3, h4, h5⟩ := hr
        obtain ⟨h6, h7, h8, h8v⟩ := closArgs_reps (vals := []) (y := y) hq rfl h5
        have e1 : RD.hd (k := PK.ro t) (RD.mk (k := PK.ro t) z q) = z := by cases ps <;> rfl
        have e2 : RD.tl (k := PK.ro t) (RD.mk (k := PK.ro t) z q) = q := by cases ps <;> rfl
        refine ⟨⟨_, vs', rfl, ?_, by rw [e2]; exact h6⟩, h7, h8, h8v⟩
        rw [e1]
        exact ⟨b, 0, C, e, (0, 0), us, rfl, h1, h2, h4 t z hz, fun j u hu => by subst h3; simpa using hu⟩
theorem caps_reps (h : Rel P E m s a w) {sh : List Nat} : ∀ {cs : List (Nat × Nat)} {lss : List (List L)} {rs : List Nat} {vs : List Value}, Ev (capTypes cs) s.mem (lss, rs) → (∀ r ∈ rs, r ∈ sh) → capHolds m cs vs →
    RoReps w (okC E m s.mem w sh) lss vs ∧ ∀ r ∈ rs, (s.mem r).isSome
  | [], lss, rs, vs, he, _, hc => by simp only [capTypes, ev_pure, Prod.mk.injEq] at he; obtain ⟨rfl, rfl⟩ := he; exact ⟨hc, by simp⟩
  | (r, off) :: cs, lss, rs, vs, he, hg, hc => by
    simp only [capTypes] at he
    rw [ev_get] at he
    split at he
    · rename_i ls hr
      simp only [ev_bind, ev_pure, Prod.mk.injEq] at he
      obtain ⟨⟨l1, r1⟩, hl, ⟨l2, r2⟩, hl2, rfl, rfl⟩ := he
      obtain ⟨b, vs', hm, rfl, hc'⟩ := hc
      obtain ⟨i, h1, h2, h3⟩ := h.mem r _ hr
      rw [hm] at h1; simp at h1; subst h1
      obtain ⟨us, e, h4, h5⟩ := h2
      obtain ⟨h6, h7⟩ := shown_leaves h (sh := sh) hl (fun r' hr' => hg r' (by simp [hr'])) h5
      obtain ⟨h8, h9⟩ := caps_reps h (sh := sh) hl2 (fun r' hr' => hg r' (by simp [hr'])) hc'
      refine ⟨⟨b, us.toArray, e, us, vs', rfl, .inr ⟨r, hg r (by simp), _, hm, rfl⟩, h4, rfl, fun t x hx => implode_holds hx h6, h8⟩, fun r' hr' => ?_⟩
      simp only [List.mem_cons, List.mem_append] at hr'
      rcases hr' with rfl | hr' | hr'
      · simp [hr]
      · exact h7 r' hr'
      · exact h9 r' hr'
    · simp [ev_fail] at he
theorem single_holds {ok : Nat → Prop} : ∀ {rs : List RK} {b : T} {y : RD RK.den rs} {r : b.den} {vs : List Value}, single? rs b y = some r → RReps w ok rs y vs [] → ∃ v, vs = [v] ∧ b.holds w ok r [v] := by
  intro rs b y r vs h hR
  unfold single? at h
  split at h
  · obtain ⟨rfl, rfl⟩ := cast?_some h
    obtain ⟨v', vs', rfl, h6, h7, _⟩ := hR
    subst h7
    exact ⟨v', rfl, h6⟩
  · simp at h
theorem clos_holds (h : Rel P E m s a w) {Γ : Env} (hΓ : EnvOk P Γ) {sh : List Nat} {f : FuncId} {caps : List (Nat × Nat)} {v : Value} (hv : LRep P w (okOf E m s.mem w) m (.clos f caps) v) {sp : FSpec} (hs : sp ∈ Γ f) {k : Nat} {as : List AK} {b : T} (hfit : ∃ cs, closFits sp.ps as cs = true)
    {lss : List (List L)} {rs : List Nat} (he : Ev (capTypes caps) s.mem (lss, rs)) (hg : ∀ r ∈ rs, r ∈ sh) : FnHolds P w (okC E m s.mem w sh) as b (closFn k sp as b lss) v := by
  obtain ⟨cvs, rfl, hc⟩ := hv
  obtain ⟨h1, h2⟩ := caps_reps h he hg hc
  obtain ⟨hrun, hsp⟩ := (hΓ f sp hs).resolve_right (fun hx => by
    obtain ⟨cs, hf⟩ := hfit
    rw [hx.unfit] at hf; cases hf)
  refine ⟨f, cvs.toArray, rfl, hrun, fun w' ok' hk hlt y vals ha r hr => ?_⟩
  unfold closFn at hr
  split at hr
  · simp at hr
  · rename_i x hx
    rw [Option.bind_eq_some_iff] at hr
    obtain ⟨z, hz, hr⟩ := hr
    obtain ⟨h3, h4, h5, h5v⟩ := closArgs_reps (P := P) hx ha (h1.mono hk)
    have := hsp k x z hz w' ok' (vals ++ cvs) hlt h3 (by rw [h4, h5v]; exact List.nodup_nil) (by rw [h4]; simp)
    have e : vals.toArray ++ cvs.toArray = (vals ++ cvs).toArray := by simp
    rw [e]
    refine this.mono fun e' w'' ⟨vs, he', hgo, _, _, hR⟩ => ?_
    rw [h4] at hgo hR
    rw [h5] at hR
    obtain ⟨v', hv', h6⟩ := single_holds hr hR
    subst hv'
    refine ⟨v', he', (Goes.below ⟨hgo.os, hgo.tape, hgo.output, hgo.size, fun b hb _ => hgo.block b hb (by simp)⟩), T.holds_mono (Keeps.weaken fun n hn => ?_) h6⟩
    rcases hn.2.1 with h8 | h8 | h8
    · exact .inl h8
    · simp at h8
    · exact .inr ⟨h8, hn.1⟩
end
end Go.GG
