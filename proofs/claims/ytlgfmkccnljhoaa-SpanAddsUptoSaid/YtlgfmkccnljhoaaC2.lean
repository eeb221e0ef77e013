/- What an abstract state says of the machine's memory, and what keeps it. -/
import Derived.Test.YtlgfmkccnljhoaaC1
namespace Go.GG
open Go.RowKit

/-! ### Pure values in memory -/
def T.holds (w : World) (ok : Nat → Prop) : (t : T) → t.den → List Value → Prop
  | .int k, n, cs => cs = [.int k n]
  | .bool, b, cs => cs = [.bool b]
  | .str, s, cs => cs = [.string ⟨s.toArray⟩]
  | .pair a b, x, cs => ∃ c d, cs = c ++ d ∧ a.holds w ok x.1 c ∧ b.holds w ok x.2 d
  | .slice t, xs, cs => ∃ A c, cs = [.slice A xs.length c] ∧ xs.length ≤ c ∧ ((xs = [] ∧ (A = none → c = 0)) ∨ ∃ b off C e fr, A = some ⟨b, off, none⟩ ∧ ok b ∧
      w.heap[b]? = some (.cells C e fr) ∧ ∀ i x, xs[i]? = some x → ∃ ds, t.holds w ok x ds ∧ ∀ j v, ds[j]? = some v → C[off + i * t.cnt + j]? = some v)

/-- What was fine is so still, and stands as it stood. -/
def Keeps (w w' : World) (ok ok' : Nat → Prop) : Prop := ∀ b, ok b → ok' b ∧ w'.heap[b]? = w.heap[b]?
theorem Keeps.trans {w w' w'' : World} {ok ok' ok'' : Nat → Prop} (h : Keeps w w' ok ok') (h' : Keeps w' w'' ok' ok'') : Keeps w w'' ok ok'' :=
  fun b hb => ⟨(h' b (h b hb).1).1, (h' b (h b hb).1).2.trans (h b hb).2⟩
theorem Keeps.refl (w : World) (ok : Nat → Prop) : Keeps w w ok ok := fun _ h => ⟨h, rfl⟩
theorem Keeps.weaken {w : World} {ok ok' : Nat → Prop} (h : ∀ b, ok b → ok' b) : Keeps w w ok ok' := fun b hb => ⟨h b hb, rfl⟩

theorem T.holds_len {w : World} {ok : Nat → Prop} : ∀ {t : T} {x : t.den} {cs : List Value}, t.holds w ok x cs → cs.length = t.cnt
  | .int _, _, _, h => by simp only [T.holds] at h; subst h; rfl
  | .bool, _, _, h => by simp only [T.holds] at h; subst h; rfl
  | .str, _, _, h => by simp only [T.holds] at h; subst h; rfl
  | .slice _, _, _, h => by simp only [T.holds] at h; obtain ⟨_, _, rfl, _⟩ := h; rfl
  | .pair a b, x, _, h => by
    simp only [T.holds] at h
    obtain ⟨c, d, rfl, h1, h2⟩ := h
    simp [T.cnt, T.holds_len h1, T.holds_len h2]
theorem T.holds_mono {w w' : World} {ok ok' : Nat → Prop} (hk : Keeps w w' ok ok') : ∀ {t : T} {x : t.den} {cs : List Value}, t.holds w ok x cs → t.holds w' ok' x cs
  | .int _, _, _, h => h
  | .bool, _, _, h => h
  | .str, _, _, h => h
  | .pair a b, x, _, h => by
    simp only [T.holds] at h ⊢
    obtain ⟨c, d, rfl, h1, h2⟩ := h
    exact ⟨c, d, rfl, T.holds_mono hk h1, T.holds_mono hk h2⟩
  | .slice t, xs, _, h => by
    simp only [T.holds] at h ⊢
    obtain ⟨A, c, rfl, hc, h⟩ := h
    refine ⟨A, c, rfl, hc, ?_⟩
    rcases h with h | ⟨b, off, C, e, fr, rfl, hb, hh, hx⟩
    · exact .inl h
    · refine .inr ⟨b, off, C, e, fr, rfl, (hk b hb).1, (hk b hb).2.trans hh, fun i x hi => ?_⟩
      obtain ⟨ds, hd, hj⟩ := hx i x hi
      exact ⟨ds, T.holds_mono hk hd, hj⟩

/-! ### Functions -/
def Runs (P : Program) (f : FuncId) : Prop := ∃ fn, P.funcs[f]? = some fn ∧ fn.name ≠ "runtime.NumGoroutine" ∧ fn.body.isNone = false
def AK.holds (w : World) (ok : Nat → Prop) (a : AK) (x : a.t.den) (v : Value) : Prop :=
  cond a.agg (∃ cs, v = .agg cs.toArray ∧ a.t.holds w ok x cs) (a.t.holds w ok x [v])
def AKs (w : World) (ok : Nat → Prop) : (as : List AK) → RD AK.den as → List Value → Prop
  | [], _, vs => vs = []
  | a :: as, x, vs => ∃ v vs', vs = v :: vs' ∧ a.holds w ok (RD.hd (k := a) x) v ∧ AKs w ok as (RD.tl (k := a) x) vs'
def FnHolds (P : Program) (w : World) (ok : Nat → Prop) (as : List AK) (b : T) (p : RD AK.den as → Option b.den) (v : Value) : Prop :=
  ∃ f caps, v = .func (.func f) #[] caps ∧ Runs P f ∧ ∀ w' ok', Keeps w w' ok ok' → (∀ n, ok' n → n < w'.heap.size) → ∀ y vals, AKs w' ok' as y vals → ∀ r, p y = some r →
    Calls P f (vals.toArray ++ caps) w' fun e w'' => ∃ u, e = .returned u ∧ Below w'.heap.size w' w'' ∧ b.holds w'' (fun n => ok' n ∨ (w'.heap.size ≤ n ∧ n < w''.heap.size)) r [u]
theorem FnHolds.mono {P : Program} {w w' : World} {ok ok' : Nat → Prop} {as : List AK} {b : T} {p : RD AK.den as → Option b.den} {v : Value}
    (hk : Keeps w w' ok ok') (h : FnHolds P w ok as b p v) : FnHolds P w' ok' as b p v := by
  obtain ⟨f, caps, rfl, hr, h⟩ := h
  exact ⟨f, caps, rfl, hr, fun w'' ok'' hk' => h w'' ok'' (hk.trans hk')⟩

/-! ### Abstract values -/
inductive Impl where
  | var (b : Nat)
  | arr (v : Value)
  | shr (v : Value)
  | blk (A : Option Addr) (c : Nat)
def Impl.block : Impl → Option Nat
  | .var b => some b
  | .arr (.slice (some a) _ _) => some a.block
  | .blk (some a) _ => some a.block
  | _ => none
def Impl.shape : Impl → Prop
  | .var _ => True
  | .arr v => ∃ A n c, v = .slice A n c
  | .shr v => ∃ A n c, v = .slice A n c
  | .blk _ _ => True
abbrev IMap := Nat → Option Impl
def capHolds (m : IMap) : List (Nat × Nat) → List Value → Prop
  | [], vs => vs = []
  | (r, off) :: cs, vs => ∃ b vs', m r = some (.var b) ∧ vs = .pointer (some ⟨b, off, none⟩) :: vs' ∧ capHolds m cs vs'
mutual
def LRep (P : Program) (w : World) (ok : Nat → Prop) (m : IMap) : L → Value → Prop
  | .unk, _ => True
  | .skipped, v => v = undef
  | .val t x, v => t.holds w ok x [v]
  | .nnil t xs, v => (T.slice t).holds w ok xs [v] ∧ ∃ a n c, v = .slice (some a) n c
  | .nils, v => v = .slice none 0 0
  | .full t xs, v => (T.slice t).holds w ok xs [v] ∧ ∃ A, v = .slice A xs.length xs.length
  | .sref r, v => m r = some (.arr v) ∨ m r = some (.shr v)
  | .ptr r off, v => ∃ b, m r = some (.var b) ∧ v = .pointer (some ⟨b, off, none⟩)
  | .nilp, v => v = .pointer none
  | .eptr t x off, v => ∃ b o C e fr cs, v = .pointer (some ⟨b, o + off, none⟩) ∧ ok b ∧ w.heap[b]? = some (.cells C e fr) ∧ t.holds w ok x cs ∧ ∀ j u, cs[j]? = some u → C[o + j]? = some u
  | .aptr r cnt i off, v => ∃ b o n c, (m r = some (.arr (.slice (some ⟨b, o, none⟩) n c)) ∨ m r = some (.shr (.slice (some ⟨b, o, none⟩) n c))) ∧ v = .pointer (some ⟨b, o + i * cnt + off, none⟩)
  | .clos f cs, v => ∃ caps, v = .func (.func f) #[] caps.toArray ∧ capHolds m cs caps
  | .fn ps b p, v => FnHolds P w ok ps b p v
  | .agg ls, v => ∃ vs, v = .agg vs.toArray ∧ LReps P w ok m ls vs
  | .tup ls, v => ∃ vs, v = .tuple vs.toArray ∧ LReps P w ok m ls vs
  | .vw r cnt lo n, v => ∃ A c k, (m r = some (.blk A c) ∨ ∃ n0, m r = some (.arr (.slice A n0 c))) ∧ v = .slice (A.map (·.add k)) n (c - lo) ∧ (c = lo ∧ 0 < lo ∨ k = lo * cnt)
def LReps (P : Program) (w : World) (ok : Nat → Prop) (m : IMap) : List L → List Value → Prop
  | [], vs => vs = []
  | l :: ls, vs => ∃ v vs', vs = v :: vs' ∧ LRep P w ok m l v ∧ LReps P w ok m ls vs'
end
def Ext (m m' : IMap) : Prop := ∀ r i, m r = some i → m' r = some i
theorem Ext.refl (m : IMap) : Ext m m := fun _ _ h => h
theorem Ext.trans {a b c : IMap} (h : Ext a b) (h' : Ext b c) : Ext a c := fun r i hr => h' r i (h r i hr)
theorem capHolds.mono {m m' : IMap} (hm : Ext m m') : ∀ {cs : List (Nat × Nat)} {vs : List Value}, capHolds m cs vs → capHolds m' cs vs
  | [], _, h => h
  | (r, off) :: cs, _, h => by
    obtain ⟨b, vs', h1, h2, h3⟩ := h
    exact ⟨b, vs', hm _ _ h1, h2, h3.mono hm⟩
mutual
theorem LRep.mono {P : Program} {w w' : World} {ok ok' : Nat → Prop} {m m' : IMap} (hk : Keeps w w' ok ok') (hm : Ext m m') : ∀ {l : L} {v : Value}, LRep P w ok m l v → LRep P w' ok' m' l v
  | .unk, _, h => h
  | .skipped, _, h => h
  | .val t x, v, h => T.holds_mono (t := t) hk h
  | .nnil t xs, v, h => ⟨T.holds_mono (t := .slice t) hk h.1, h.2⟩
  | .nils, _, h => h
  | .full t xs, v, h => ⟨T.holds_mono (t := .slice t) hk h.1, h.2⟩
  | .sref r, v, h => h.imp (hm _ _) (hm _ _)
  | .ptr r off, v, h => by obtain ⟨b, h1, h2⟩ := h; exact ⟨b, hm _ _ h1, h2⟩
  | .nilp, _, h => h
  | .eptr t x off, v, h => by
    obtain ⟨b, o, C, e, fr, cs, h1, h2, h3, h4, h5⟩ := h
    exact ⟨b, o, C, e, fr, cs, h1, (hk b h2).1, (hk b h2).2.trans h3, T.holds_mono hk h4, h5⟩
  | .aptr r cnt i off, v, h => by
    obtain ⟨b, o, n, c, h1, h2⟩ := h
    exact ⟨b, o, n, c, h1.imp (hm _ _) (hm _ _), h2⟩
  | .clos f cs, v, h => by obtain ⟨caps, h1, h2⟩ := h; exact ⟨caps, h1, h2.mono hm⟩
  | .fn ps b p, v, h => FnHolds.mono hk h
  | .agg ls, v, h => by obtain ⟨vs, h1, h2⟩ := h; exact ⟨vs, h1, h2.mono hk hm⟩
  | .tup ls, v, h => by obtain ⟨vs, h1, h2⟩ := h; exact ⟨vs, h1, h2.mono hk hm⟩
  | .vw r cnt lo n, v, h => by
    obtain ⟨A, c, k, h1, h2⟩ := h
    exact ⟨A, c, k, h1.imp (hm _ _) (fun ⟨n0, h⟩ => ⟨n0, hm _ _ h⟩), h2⟩
theorem LReps.mono {P : Program} {w w' : World} {ok ok' : Nat → Prop} {m m' : IMap} (hk : Keeps w w' ok ok') (hm : Ext m m') : ∀ {ls : List L} {vs : List Value}, LReps P w ok m ls vs → LReps P w' ok' m' ls vs
  | [], _, h => h
  | l :: ls, _, h => by
    obtain ⟨v, vs', h1, h2, h3⟩ := h
    exact ⟨v, vs', h1, h2.mono hk hm, h3.mono hk hm⟩
end
theorem LReps.length {P : Program} {w : World} {ok : Nat → Prop} {m : IMap} : ∀ {ls : List L} {vs : List Value}, LReps P w ok m ls vs → vs.length = ls.length
  | [], _, h => by simp only [LReps] at h; subst h; rfl
  | l :: ls, _, h => by
    simp only [LReps] at h
    obtain ⟨v, vs', rfl, _, h⟩ := h
    simp [LReps.length h]
theorem LReps.get {P : Program} {w : World} {ok : Nat → Prop} {m : IMap} : ∀ {ls : List L} {vs : List Value}, LReps P w ok m ls vs → ∀ {i : Nat} {l : L}, ls[i]? = some l → ∃ v, vs[i]? = some v ∧ LRep P w ok m l v
  | [], _, _, i, l, hi => by simp at hi
  | l0 :: ls, _, h, i, l, hi => by
    simp only [LReps] at h
    obtain ⟨v, vs', rfl, h1, h⟩ := h
    cases i with
    | zero => simp at hi; subst hi; exact ⟨v, rfl, h1⟩
    | succ i => simp at hi; obtain ⟨u, hu, hl⟩ := h.get hi; exact ⟨u, by simpa using hu, hl⟩
theorem LReps.append {P : Program} {w : World} {ok : Nat → Prop} {m : IMap} : ∀ {ls ls' : List L} {vs vs' : List Value}, LReps P w ok m ls vs → LReps P w ok m ls' vs' → LReps P w ok m (ls ++ ls') (vs ++ vs')
  | [], _, _, _, h, h' => by simp only [LReps] at h; subst h; exact h'
  | l :: ls, _, _, _, h, h' => by
    simp only [LReps] at h
    obtain ⟨v, vs', rfl, h1, h⟩ := h
    exact ⟨v, vs' ++ _, rfl, h1, h.append h'⟩
theorem LReps.take {P : Program} {w : World} {ok : Nat → Prop} {m : IMap} : ∀ {ls : List L} {vs : List Value}, LReps P w ok m ls vs → ∀ n, LReps P w ok m (ls.take n) (vs.take n)
  | [], _, h, n => by simp only [LReps] at h; subst h; simp [LReps]
  | l :: ls, _, h, n => by
    simp only [LReps] at h
    obtain ⟨v, vs', rfl, h1, h⟩ := h
    cases n with
    | zero => simp [LReps]
    | succ n => exact ⟨v, vs'.take n, rfl, h1, h.take n⟩
theorem LReps.drop {P : Program} {w : World} {ok : Nat → Prop} {m : IMap} : ∀ {ls : List L} {vs : List Value}, LReps P w ok m ls vs → ∀ n, LReps P w ok m (ls.drop n) (vs.drop n)
  | [], _, h, n => by simp only [LReps] at h; subst h; simp [LReps]
  | l :: ls, _, h, n => by
    simp only [LReps] at h
    obtain ⟨v, vs', rfl, h1, h⟩ := h
    cases n with
    | zero => exact ⟨v, vs', rfl, h1, h⟩
    | succ n => exact h.drop n
theorem LReps.split {P : Program} {w : World} {ok : Nat → Prop} {m : IMap} : ∀ {ls ls' : List L} {vs : List Value}, LReps P w ok m (ls ++ ls') vs → ∃ a b, vs = a ++ b ∧ LReps P w ok m ls a ∧ LReps P w ok m ls' b
  | [], _, vs, h => ⟨[], vs, rfl, rfl, h⟩
  | l :: ls, _, _, h => by
    simp only [List.cons_append, LReps] at h
    obtain ⟨v, vs', rfl, h1, h⟩ := h
    obtain ⟨a, b, rfl, ha, hb⟩ := h.split
    exact ⟨v :: a, b, rfl, ⟨v, a, rfl, h1, ha⟩, hb⟩

/-! ### Casts, leaves -/
theorem cast?_some {t t' : T} {x : t.den} {y : t'.den} (h : cast? t' x = some y) : ∃ e : t = t', e ▸ x = y := by
  unfold cast? at h
  split at h
  · rename_i e; subst e; exact ⟨rfl, by simpa using h⟩
  · simp at h
theorem leafVal?_holds {P : Program} {w : World} {ok : Nat → Prop} {m : IMap} {t : T} {l : L} {x : t.den} {v : Value} (h : leafVal? t l = some x) (hl : LRep P w ok m l v) : t.holds w ok x [v] := by
  cases l <;> simp only [leafVal?] at h <;> try (simp at h; done)
  · obtain ⟨rfl, rfl⟩ := cast?_some h; exact hl
  · obtain ⟨rfl, rfl⟩ := cast?_some h; exact hl.1
  · split at h
    · simp at h; subst h; simp only [LRep] at hl; subst hl; exact ⟨none, 0, rfl, Nat.le_refl _, .inl ⟨rfl, fun _ => rfl⟩⟩
    · simp at h
  · obtain ⟨rfl, rfl⟩ := cast?_some h; exact hl.1
theorem implodeGo_holds {P : Program} {w : World} {ok : Nat → Prop} {m : IMap} : ∀ {t : T} {ls r : List L} {x : t.den} {vs : List Value}, t.implodeGo ls = some (x, r) → LReps P w ok m ls vs →
    ∃ a b, vs = a ++ b ∧ t.holds w ok x a ∧ LReps P w ok m r b
  | .pair p q, ls, r, x, vs, h, hl => by
    simp only [T.implodeGo] at h
    split at h
    · simp at h
    · rename_i x1 r1 h1
      split at h
      · simp at h
      · rename_i x2 r2 h2
        simp at h
        obtain ⟨rfl, rfl⟩ := h
        obtain ⟨a, b, rfl, ha, hb⟩ := implodeGo_holds h1 hl
        obtain ⟨c, d, rfl, hc, hd⟩ := implodeGo_holds h2 hb
        exact ⟨a ++ c, d, by simp, ⟨a, c, rfl, ha, hc⟩, hd⟩
  | .int k, l :: r, _, x, _, h, hl => by
    simp only [T.implodeGo] at h
    split at h
    · simp at h
    · rename_i y hy; simp at h; obtain ⟨rfl, rfl⟩ := h; obtain ⟨v, vs', rfl, h1, h2⟩ := hl; exact ⟨[v], vs', rfl, leafVal?_holds hy h1, h2⟩
  | .bool, l :: r, _, x, _, h, hl => by
    simp only [T.implodeGo] at h
    split at h
    · simp at h
    · rename_i y hy; simp at h; obtain ⟨rfl, rfl⟩ := h; obtain ⟨v, vs', rfl, h1, h2⟩ := hl; exact ⟨[v], vs', rfl, leafVal?_holds hy h1, h2⟩
  | .str, l :: r, _, x, _, h, hl => by
    simp only [T.implodeGo] at h
    split at h
    · simp at h
    · rename_i y hy; simp at h; obtain ⟨rfl, rfl⟩ := h; obtain ⟨v, vs', rfl, h1, h2⟩ := hl; exact ⟨[v], vs', rfl, leafVal?_holds hy h1, h2⟩
  | .slice t, l :: r, _, x, _, h, hl => by
    simp only [T.implodeGo] at h
    split at h
    · simp at h
    · rename_i y hy; simp at h; obtain ⟨rfl, rfl⟩ := h; obtain ⟨v, vs', rfl, h1, h2⟩ := hl; exact ⟨[v], vs', rfl, leafVal?_holds hy h1, h2⟩
  | .int _, [], _, _, _, h, _ => by simp [T.implodeGo] at h
  | .bool, [], _, _, _, h, _ => by simp [T.implodeGo] at h
  | .str, [], _, _, _, h, _ => by simp [T.implodeGo] at h
  | .slice _, [], _, _, _, h, _ => by simp [T.implodeGo] at h
theorem implode_holds {P : Program} {w : World} {ok : Nat → Prop} {m : IMap} {t : T} {ls : List L} {x : t.den} {vs : List Value} (h : t.implode ls = some x) (hl : LReps P w ok m ls vs) : t.holds w ok x vs := by
  unfold T.implode at h
  split at h
  · rename_i y hy
    simp at h; subst h
    obtain ⟨a, b, rfl, ha, hb⟩ := implodeGo_holds hy hl
    simp only [LReps] at hb; subst hb
    simpa using ha
  · simp at h
theorem explode_reps {P : Program} {w : World} {ok : Nat → Prop} {m : IMap} : ∀ {t : T} {x : t.den} {vs : List Value}, t.holds w ok x vs → LReps P w ok m (t.explode x) vs
  | .pair p q, x, _, h => by
    simp only [T.holds] at h
    obtain ⟨c, d, rfl, h1, h2⟩ := h
    exact (explode_reps h1).append (explode_reps h2)
  | .int _, x, vs, h => by have := T.holds_len h; match vs, this with | [v], _ => exact ⟨v, [], rfl, h, rfl⟩
  | .bool, x, vs, h => by have := T.holds_len h; match vs, this with | [v], _ => exact ⟨v, [], rfl, h, rfl⟩
  | .str, x, vs, h => by have := T.holds_len h; match vs, this with | [v], _ => exact ⟨v, [], rfl, h, rfl⟩
  | .slice _, x, vs, h => by have := T.holds_len h; match vs, this with | [v], _ => exact ⟨v, [], rfl, h, rfl⟩
theorem explode_len : ∀ {t : T} {x : t.den}, (t.explode x).length = t.cnt
  | .pair p q, x => by simp [T.explode, T.cnt, explode_len (t := p), explode_len (t := q)]
  | .int _, _ => rfl
  | .bool, _ => rfl
  | .str, _ => rfl
  | .slice _, _ => rfl
theorem cnt_pos : ∀ t : T, 0 < t.cnt
  | .pair p q => by simp only [T.cnt]; have := cnt_pos p; omega
  | .int _ => Nat.one_pos
  | .bool => Nat.one_pos
  | .str => Nat.one_pos
  | .slice _ => Nat.one_pos
theorem absLeaf_rep {P : Program} {w : World} {ok : Nat → Prop} {m : IMap} (v : Value) : LRep P w ok m (absLeaf v) v := by
  unfold absLeaf
  split <;> simp [LRep, T.holds]
theorem absLeaves_rep {P : Program} {w : World} {ok : Nat → Prop} {m : IMap} : ∀ vs : List Value, LReps P w ok m (vs.map absLeaf) vs
  | [] => rfl
  | v :: vs => ⟨v, vs, rfl, absLeaf_rep v, absLeaves_rep vs⟩
theorem absV_rep {P : Program} {w : World} {ok : Nat → Prop} {m : IMap} (v : Value) : LRep P w ok m (absV v) v := by
  unfold absV
  split
  · rename_i cs; exact ⟨cs.toList, by simp, absLeaves_rep _⟩
  · exact absLeaf_rep v

/-! ### Rows and variables -/
/-- None of a row's cells is frozen. -/
def FrOk (t : T) (n : Nat) (fr : Nat × Nat) : Prop := fr = (0, 0) ∨ (n ≤ fr.1 ∧ t = .int .u8)
theorem FrOk.free {t : T} {n : Nat} {fr : Nat × Nat} (h : FrOk t n fr) : ∀ o, o < n → ¬ (fr.1 ≤ o ∧ o < fr.2) := by
  intro o ho
  rcases h with rfl | ⟨h, _⟩
  · simp
  · omega
def OwnRow (w : World) (ok : Nat → Prop) (t : T) (xs : List t.den) (v : Value) : Prop :=
  (v = .slice none 0 0 ∧ xs = []) ∨ ∃ b C e fr cap, v = .slice (some ⟨b, 0, none⟩) xs.length cap ∧ xs.length ≤ cap ∧ cap * t.cnt ≤ C.size ∧
    w.heap[b]? = some (.cells C e fr) ∧ FrOk t C.size fr ∧ ∀ i x, xs[i]? = some x → ∃ ds, t.holds w ok x ds ∧ ∀ j u, ds[j]? = some u → C[i * t.cnt + j]? = some u
def CRep (P : Program) (w : World) (ok : Nat → Prop) (m : IMap) : C → Impl → Prop
  | .cells ls, .var b => ∃ vs e, w.heap[b]? = some (.cells vs.toArray e (0, 0)) ∧ LReps P w ok m ls vs
  | .arr t xs, .arr v => OwnRow w ok t xs v
  | .app t xs, .arr v => OwnRow w ok t xs v
  | .app t xs, .shr v => (T.slice t).holds w ok xs [v] ∧ ∃ A, v = .slice A xs.length xs.length
  | .blk t xs c, .blk A c' => c = c' ∧ OwnRow w ok t xs (.slice A xs.length c)
  | _, _ => False
theorem OwnRow.mono {w w' : World} {ok ok' : Nat → Prop} {t : T} {xs : List t.den} {v : Value} (hk : Keeps w w' ok ok') (hb : ∀ b, (Impl.arr v).block = some b → w'.heap[b]? = w.heap[b]?)
    (h : OwnRow w ok t xs v) : OwnRow w' ok' t xs v := by
  rcases h with h | ⟨b, C, e, fr, cap, rfl, h1, h2, h3, h4, h5⟩
  · exact .inl h
  · refine .inr ⟨b, C, e, fr, cap, rfl, h1, h2, (hb b rfl).trans h3, h4, fun i x hi => ?_⟩
    obtain ⟨ds, hd, hj⟩ := h5 i x hi
    exact ⟨ds, T.holds_mono hk hd, hj⟩
theorem CRep.mono {P : Program} {w w' : World} {ok ok' : Nat → Prop} {m m' : IMap} {c : C} {i : Impl} (hk : Keeps w w' ok ok') (hm : Ext m m') (hb : ∀ b, i.block = some b → w'.heap[b]? = w.heap[b]?)
    (h : CRep P w ok m c i) : CRep P w' ok' m' c i := by
  cases c <;> cases i <;> simp only [CRep] at h ⊢
  · obtain ⟨vs, e, h1, h2⟩ := h
    exact ⟨vs, e, (hb _ rfl).trans h1, h2.mono hk hm⟩
  · exact h.mono hk hb
  · exact h.mono hk hb
  · exact ⟨T.holds_mono (t := .slice _) hk h.1, h.2⟩
  · refine ⟨h.1, h.2.mono hk (fun b hb' => hb b ?_)⟩
    rename_i A c'
    cases A with
    | none => simp [Impl.block] at hb'
    | some a => simpa [Impl.block] using hb'

theorem CRep.shape {P : Program} {w : World} {ok : Nat → Prop} {m : IMap} {c : C} {i : Impl} (h : CRep P w ok m c i) : i.shape := by
  have own : ∀ {t : T} {xs : List t.den} {v : Value}, OwnRow w ok t xs v → ∃ A n c, v = .slice A n c := by
    intro t xs v h
    rcases h with ⟨rfl, _⟩ | ⟨b, C, e, fr, cap, rfl, _⟩ <;> exact ⟨_, _, _, rfl⟩
  cases c <;> cases i <;> simp only [CRep] at h
  · trivial
  · exact own h
  · exact own h
  · obtain ⟨_, A, rfl⟩ := h; exact ⟨_, _, _, rfl⟩
  · trivial

/-! ### The relation -/
structure Entry where
  w0 : World
  ok0 : Nat → Prop
  V0 : Nat → Prop
  lent : Nat → Option Nat
  N : Nat
def Vof (m : IMap) (μ : Nat → Option C) (b : Nat) : Prop := ∃ r c i, μ r = some c ∧ m r = some i ∧ i.block = some b
def okOf (E : Entry) (m : IMap) (μ : Nat → Option C) (w : World) (b : Nat) : Prop :=
  b < w.heap.size ∧ (E.ok0 b ∨ E.V0 b ∨ E.w0.heap.size ≤ b) ∧ ¬ Vof m μ b
/-- A world that has gone on from another one, whose blocks but some stand. -/
structure Goes (V : Nat → Prop) (w w' : World) : Prop where
  os : w'.os = w.os
  tape : w'.tape = w.tape
  output : w'.output = w.output
  size : w.heap.size ≤ w'.heap.size
  block : ∀ b, b < w.heap.size → ¬ V b → w'.heap[b]? = w.heap[b]?
theorem Goes.refl (V : Nat → Prop) (w : World) : Goes V w w := ⟨rfl, rfl, rfl, Nat.le_refl _, fun _ _ _ => rfl⟩
theorem Goes.of_below {V : Nat → Prop} {w w' : World} (h : Below w.heap.size w w') : Goes V w w' := ⟨h.os, h.tape, h.output, h.size, fun b hb _ => h.block b hb⟩
theorem Goes.below {w w' : World} (h : Goes (fun _ => False) w w') : Below w.heap.size w w' := ⟨h.os, h.tape, h.output, h.size, fun b hb => h.block b hb (fun h => h)⟩
structure Rel (P : Program) (E : Entry) (m : IMap) (s : St) (a : Act) (w : World) : Prop where
  env : ∀ t, LRep P w (okOf E m s.mem w) m (s.env t) (a.tmps.getD t undef)
  mem : ∀ r c, s.mem r = some c → ∃ i, m r = some i ∧ CRep P w (okOf E m s.mem w) m c i ∧ ∀ b, i.block = some b → b < w.heap.size ∧ (E.V0 b ∨ E.w0.heap.size ≤ b)
  inj : ∀ r r' c c' i i' b, s.mem r = some c → s.mem r' = some c' → m r = some i → m r' = some i' → i.block = some b → i'.block = some b → r = r'
  used : ∀ r, m r ≠ none → s.used r = true
  lent : ∀ r, (s.mem r).isSome → lentBase ≤ r → ∃ b, E.lent r = some b ∧ m r = some (.var b)
  goes : Goes E.V0 E.w0 w
  size : a.tmps.size = E.N
  defers : a.defers = []
  shape : ∀ r i, m r = some i → i.shape
def Rel' (P : Program) (E : Entry) (s : St) (a : Act) (w : World) : Prop := ∃ m, Rel P E m s a w

theorem Rel.eval {P : Program} {E : Entry} {m : IMap} {s : St} {a : Act} {w : World} (h : Rel P E m s a w) (x : Operand) : LRep P w (okOf E m s.mem w) m (ev s x) (a.eval x) := by
  cases x with
  | tmp t => exact h.env t
  | const v => exact absV_rep v
  | global g => trivial
  | func f => exact ⟨[], rfl, rfl⟩
theorem Rel.evals {P : Program} {E : Entry} {m : IMap} {s : St} {a : Act} {w : World} (h : Rel P E m s a w) : ∀ xs : List Operand, LReps P w (okOf E m s.mem w) m (xs.map (ev s)) (xs.map a.eval)
  | [] => rfl
  | x :: xs => ⟨a.eval x, xs.map a.eval, rfl, h.eval x, h.evals xs⟩
theorem Rel.put {P : Program} {E : Entry} {m : IMap} {s : St} {a : Act} {w : World} {l : L} {v : Value} {d : Option Nat} (h : Rel P E m s a w) (hl : LRep P w (okOf E m s.mem w) m l v)
    (hd : ∀ n, d = some n → n < E.N) : Rel P E m (put s d l) (a.put d v) w := by
  cases d with
  | none => exact h
  | some d =>
    refine ⟨fun t => ?_, h.mem, h.inj, h.used, h.lent, h.goes, by simp [Act.put, h.size], h.defers, h.shape⟩
    have hlt := hd d rfl
    simp only [GG.put, Act.put]
    by_cases e : t = d
    · subst e
      have : (a.tmps.setIfInBounds t v).getD t undef = v := by
        rw [Array.getD_eq_getD_getElem?, Array.getElem?_setIfInBounds_self, if_pos (by rw [h.size]; exact hlt)]; rfl
      rw [this]
      simpa using hl
    · have h1 : (a.tmps.setIfInBounds d v).getD t undef = a.tmps.getD t undef := by
        rw [Array.getD_eq_getD_getElem?, Array.getElem?_setIfInBounds_ne (fun hh => e hh.symm), Array.getD_eq_getD_getElem?]
      have h2 : Nat.beq t d = false := by
        cases hb : Nat.beq t d with
        | false => rfl
        | true => exact absurd (Nat.eq_of_beq_eq_true hb) e
      rw [h1, h2]
      exact h.env t
/-- The one step by which memory turns: another world, another map of blocks, another abstract memory. -/
theorem Rel.turn {P : Program} {E : Entry} {m m' : IMap} {s : St} {μ' : Nat → Option C} {u' : Nat → Bool} {a : Act} {w w' : World} (h : Rel P E m s a w)
    (hm : Ext m m') (hu : ∀ r, m' r ≠ none → u' r = true)
    (hg : ∀ b, b < E.w0.heap.size → ¬ E.V0 b → w'.heap[b]? = w.heap[b]?) (hsz : w.heap.size ≤ w'.heap.size) (hos : w'.os = w.os) (htp : w'.tape = w.tape) (hout : w'.output = w.output)
    (hok : ∀ b, okOf E m s.mem w b → w'.heap[b]? = w.heap[b]? ∧ ¬ Vof m' μ' b)
    (hmem : ∀ r c, μ' r = some c → ∃ i, m' r = some i ∧ CRep P w' (okOf E m' μ' w') m' c i ∧ ∀ b, i.block = some b → b < w'.heap.size ∧ (E.V0 b ∨ E.w0.heap.size ≤ b))
    (hinj : ∀ r r' c c' i i' b, μ' r = some c → μ' r' = some c' → m' r = some i → m' r' = some i' → i.block = some b → i'.block = some b → r = r')
    (hl : ∀ r, (μ' r).isSome → lentBase ≤ r → (s.mem r).isSome) (hsh : ∀ r i, m' r = some i → i.shape) :
    Rel P E m' { s with mem := μ', used := u' } a w' := by
  have hk : Keeps w w' (okOf E m s.mem w) (okOf E m' μ' w') := fun b hb => ⟨⟨Nat.lt_of_lt_of_le hb.1 hsz, hb.2.1, (hok b hb).2⟩, (hok b hb).1⟩
  refine ⟨fun t => (h.env t).mono hk hm, hmem, hinj, hu, fun r hr hb => ?_, ?_, h.size, h.defers, hsh⟩
  · obtain ⟨b, h1, h2⟩ := h.lent r (hl r hr hb) hb
    exact ⟨b, h1, hm _ _ h2⟩
  · exact ⟨hos.trans h.goes.os, htp.trans h.goes.tape, hout.trans h.goes.output, Nat.le_trans h.goes.size hsz, fun b hb hv => (hg b hb hv).trans (h.goes.block b hb hv)⟩
theorem Rel.keeps {P : Program} {E : Entry} {m : IMap} {s : St} {a : Act} {w w' : World} (_ : Rel P E m s a w) {m' : IMap} {μ' : Nat → Option C} (hsz : w.heap.size ≤ w'.heap.size)
    (hok : ∀ b, okOf E m s.mem w b → w'.heap[b]? = w.heap[b]? ∧ ¬ Vof m' μ' b) : Keeps w w' (okOf E m s.mem w) (okOf E m' μ' w') :=
  fun b hb => ⟨⟨Nat.lt_of_lt_of_le hb.1 hsz, hb.2.1, (hok b hb).2⟩, (hok b hb).1⟩
theorem Rel.grow {P : Program} {E : Entry} {m : IMap} {s : St} {a : Act} {w w' : World} (h : Rel P E m s a w) (hb : Below w.heap.size w w') : Rel P E m s a w' := by
  have hok : ∀ b, okOf E m s.mem w b → w'.heap[b]? = w.heap[b]? ∧ ¬ Vof m s.mem b := fun b hb' => ⟨hb.block b hb'.1, hb'.2.2⟩
  refine h.turn (Ext.refl m) h.used (fun b hb' _ => hb.block b (Nat.lt_of_lt_of_le hb' h.goes.size)) hb.size hb.os hb.tape hb.output hok (fun r c hc => ?_) h.inj (fun _ hr _ => hr) h.shape
  obtain ⟨i, h1, h2, h3⟩ := h.mem r c hc
  exact ⟨i, h1, h2.mono (h.keeps hb.size hok) (Ext.refl m) (fun b hb' => hb.block b (h3 b hb').1), fun b hb' => ⟨Nat.lt_of_lt_of_le (h3 b hb').1 hb.size, (h3 b hb').2⟩⟩
/-- Rows are given away: nothing turns, but that they are fine from now on. -/
theorem Rel.drop {P : Program} {E : Entry} {m : IMap} {s : St} {a : Act} {w : World} (h : Rel P E m s a w) {μ' : Nat → Option C} (hμ : ∀ r c, μ' r = some c → s.mem r = some c) :
    Rel P E m { s with mem := μ' } a w := by
  have hV : ∀ b, Vof m μ' b → Vof m s.mem b := fun b ⟨r, c, i, h1, h2, h3⟩ => ⟨r, c, i, hμ r c h1, h2, h3⟩
  have hok : ∀ b, okOf E m s.mem w b → w.heap[b]? = w.heap[b]? ∧ ¬ Vof m μ' b := fun b hb => ⟨rfl, fun hv => hb.2.2 (hV b hv)⟩
  refine h.turn (Ext.refl m) h.used (fun _ _ _ => rfl) (Nat.le_refl _) rfl rfl rfl hok (fun r c hc => ?_) (fun r r' c c' i i' b h1 h2 => h.inj r r' c c' i i' b (hμ _ _ h1) (hμ _ _ h2)) (fun r hr _ => ?_) h.shape
  · obtain ⟨i, h1, h2, h3⟩ := h.mem r c (hμ r c hc)
    exact ⟨i, h1, h2.mono (h.keeps (Nat.le_refl _) hok) (Ext.refl m) (fun _ _ => rfl), h3⟩
  · obtain ⟨c, hc⟩ := Option.isSome_iff_exists.1 hr
    simp [hμ r c hc]
end Go.GG
