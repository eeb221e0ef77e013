/- The core of our own, in one with others. -/
import Derived.Test.YtababmeocedhiaaDoorK1
import Derived.MapKept
import Derived.Laws.Sem
import Derived.Laws.Cells
import Derived.Laws.World
import Derived.Laws.Strings
import Derived.Lib.Strings
import Derived.Laws.BytesArg
import Derived.Laws.CopyRow
/- What an abstract state says of the machine's memory, and what keeps it. -/
namespace Go.GG
open Go.RowKit

/-! ### Pure values in memory -/
def T.holds (w : World) (ok : Nat → Prop) : (t : T) → t.den → List Value → Prop
  | .int k, n, cs => cs = [.int k n]
  | .bool, b, cs => cs = [.bool b]
  | .str, s, cs => cs = [.string ⟨s.toArray⟩]
  | .pair a b, x, cs => ∃ c d, cs = c ++ d ∧ a.holds w ok x.1 c ∧ b.holds w ok x.2 d
  | .slice t, xs, cs => ∃ A c, cs = [.slice A xs.length c] ∧ xs.length ≤ c ∧ ((xs = [] ∧ (A = none → c = 0)) ∨ ∃ b off C e fr, A = some ⟨b, off, none⟩ ∧ ok b ∧
      w.heap[b]? = some (.cells C e fr) ∧ ∀ i x, xs[i]? = some x → ∃ ds, t.holds w ok x ds ∧ ∀ j v, ds[j]? = some v → C[off + i * t.cnt + j]? = some v)
  | .opt t, o, cs => (o = none ∧ cs = [.pointer none]) ∨ ∃ x b off C e fr ds, o = some x ∧ cs = [.pointer (some ⟨b, off, none⟩)] ∧ ok b ∧ w.heap[b]? = some (.cells C e fr) ∧ t.holds w ok x ds ∧ ∀ j v, ds[j]? = some v → C[off + j]? = some v
  | .pb, p, cs => (p = false ∧ cs = [.pointer none]) ∨ ∃ a, p = true ∧ cs = [.pointer (some a)]
  | .raw, A, cs => cs = [.pointer A]
  | .ib, p, cs => (p = false ∧ cs = [.nilIface]) ∨ ∃ te pe, p = true ∧ cs = [.iface te pe]
  | .box g s, x, cs => ∃ (b : Nat) (C : Array Value) (e : TypeId) (fr : Nat × Nat) (ds : List Value), cs = [.func (.func g) #[] #[.pointer (some ⟨b, 0, none⟩)]] ∧ ok b ∧ w.heap[b]? = some (.cells C e fr) ∧ s.holds w ok x ds ∧ ∀ (j : Nat) v, ds[j]? = some v → C[j]? = some v

/-- What was fine is so still, and its cells stand as they stood. -/
def Keeps (w w' : World) (ok ok' : Nat → Prop) : Prop := ∀ b, ok b → ok' b ∧ ∀ C e fr, w.heap[b]? = some (.cells C e fr) → w'.heap[b]? = some (.cells C e fr)
theorem Keeps.of {w w' : World} {ok ok' : Nat → Prop} (h : ∀ b, ok b → ok' b ∧ w'.heap[b]? = w.heap[b]?) : Keeps w w' ok ok' := fun b hb => ⟨(h b hb).1, fun _ _ _ hh => (h b hb).2.trans hh⟩
theorem Keeps.trans {w w' w'' : World} {ok ok' ok'' : Nat → Prop} (h : Keeps w w' ok ok') (h' : Keeps w' w'' ok' ok'') : Keeps w w'' ok ok'' :=
  fun b hb => ⟨(h' b (h b hb).1).1, fun _ _ _ hh => (h' b (h b hb).1).2 _ _ _ ((h b hb).2 _ _ _ hh)⟩
theorem Keeps.refl (w : World) (ok : Nat → Prop) : Keeps w w ok ok := fun _ h => ⟨h, fun _ _ _ h => h⟩
theorem Keeps.weaken {w : World} {ok ok' : Nat → Prop} (h : ∀ b, ok b → ok' b) : Keeps w w ok ok' := fun b hb => ⟨h b hb, fun _ _ _ h => h⟩

theorem T.holds_len {w : World} {ok : Nat → Prop} : ∀ {t : T} {x : t.den} {cs : List Value}, t.holds w ok x cs → cs.length = t.cnt
  | .int _, _, _, h => by simp only [T.holds] at h; subst h; rfl
  | .bool, _, _, h => by simp only [T.holds] at h; subst h; rfl
  | .str, _, _, h => by simp only [T.holds] at h; subst h; rfl
  | .slice _, _, _, h => by simp only [T.holds] at h; obtain ⟨_, _, rfl, _⟩ := h; rfl
  | .opt _, _, _, h => by simp only [T.holds] at h; rcases h with ⟨_, rfl⟩ | ⟨_, _, _, _, _, _, _, _, rfl, _⟩ <;> rfl
  | .pb, _, _, h => by simp only [T.holds] at h; rcases h with ⟨_, rfl⟩ | ⟨_, _, rfl⟩ <;> rfl
  | .raw, _, _, h => by simp only [T.holds] at h; subst h; rfl
  | .ib, _, _, h => by simp only [T.holds] at h; rcases h with ⟨_, rfl⟩ | ⟨_, _, _, rfl⟩ <;> rfl
  | .box _ _, _, _, h => by simp only [T.holds] at h; obtain ⟨_, _, _, _, _, rfl, _⟩ := h; rfl
  | .pair a b, x, _, h => by
    simp only [T.holds] at h
    obtain ⟨c, d, rfl, h1, h2⟩ := h
    simp [T.cnt, T.holds_len h1, T.holds_len h2]
theorem T.holds_mono {w w' : World} {ok ok' : Nat → Prop} (hk : Keeps w w' ok ok') : ∀ {t : T} {x : t.den} {cs : List Value}, t.holds w ok x cs → t.holds w' ok' x cs
  | .int _, _, _, h => h
  | .bool, _, _, h => h
  | .str, _, _, h => h
  | .pb, _, _, h => h
  | .raw, _, _, h => h
  | .ib, _, _, h => h
  | .box _ _, _, _, h => by
    simp only [T.holds] at h ⊢
    obtain ⟨b, C, e, fr, ds, h1, hb, hh, hd, hj⟩ := h
    exact ⟨b, C, e, fr, ds, h1, (hk b hb).1, (hk b hb).2 _ _ _ hh, T.holds_mono hk hd, hj⟩
  | .opt t, o, _, h => by
    simp only [T.holds] at h ⊢
    rcases h with h | ⟨x, b, off, C, e, fr, ds, h1, h2, hb, hh, hd, hj⟩
    · exact .inl h
    · exact .inr ⟨x, b, off, C, e, fr, ds, h1, h2, (hk b hb).1, (hk b hb).2 _ _ _ hh, T.holds_mono hk hd, hj⟩
  | .pair a b, x, _, h => by
    simp only [T.holds] at h ⊢
    obtain ⟨c, d, rfl, h1, h2⟩ := h
    exact ⟨c, d, rfl, T.holds_mono hk h1, T.holds_mono hk h2⟩
  | .slice t, xs, _, h => by
    simp only [T.holds] at h ⊢
    obtain ⟨A, c, rfl, hc, h⟩ := h
    refine ⟨A, c, rfl, hc, ?_⟩
    rcases h with h | ⟨b, off, C, e, fr, rfl, hb, hh, hx⟩
    · exact .inl h
    · refine .inr ⟨b, off, C, e, fr, rfl, (hk b hb).1, (hk b hb).2 _ _ _ hh, fun i x hi => ?_⟩
      obtain ⟨ds, hd, hj⟩ := hx i x hi
      exact ⟨ds, T.holds_mono hk hd, hj⟩

/-! ### Functions -/
def Runs (P : Program) (f : FuncId) : Prop := ∃ fn, P.funcs[f]? = some fn ∧ fn.name ≠ "runtime.NumGoroutine" ∧ fn.body.isNone = false
def AK.holds (w : World) (ok : Nat → Prop) (a : AK) (x : a.t.den) (v : Value) : Prop :=
  cond a.agg (∃ cs, v = .agg cs.toArray ∧ a.t.holds w ok x cs) (a.t.holds w ok x [v])
def AKs (w : World) (ok : Nat → Prop) : (as : List AK) → RD AK.den as → List Value → Prop
  | [], _, vs => vs = []
  | a :: as, x, vs => ∃ v vs', vs = v :: vs' ∧ a.holds w ok (RD.hd (k := a) x) v ∧ AKs w ok as (RD.tl (k := a) x) vs'
def FnHolds (P : Program) (w : World) (ok : Nat → Prop) (as : List AK) (b : T) (p : RD AK.den as → Option b.den) (v : Value) : Prop :=
  ∃ f caps, v = .func (.func f) #[] caps ∧ Runs P f ∧ ∀ w' ok', Keeps w w' ok ok' → (∀ n, ok' n → n < w'.heap.size) → ∀ y vals, AKs w' ok' as y vals → ∀ r, p y = some r →
    Calls P f (vals.toArray ++ caps) w' fun e w'' => ∃ u, e = .returned u ∧ Below w'.heap.size w' w'' ∧ b.holds w'' (fun n => ok' n ∨ (w'.heap.size ≤ n ∧ n < w''.heap.size)) r [u]
theorem FnHolds.mono {P : Program} {w w' : World} {ok ok' : Nat → Prop} {as : List AK} {b : T} {p : RD AK.den as → Option b.den} {v : Value}
    (hk : Keeps w w' ok ok') (h : FnHolds P w ok as b p v) : FnHolds P w' ok' as b p v := by
  obtain ⟨f, caps, rfl, hr, h⟩ := h
  exact ⟨f, caps, rfl, hr, fun w'' ok'' hk' => h w'' ok'' (hk.trans hk')⟩

/-! ### Abstract values -/
inductive Impl where
  | var (b : Nat)
  | arr (v : Value)
  | shr (v : Value)
  | blk (A : Option Addr) (c : Nat)
  | obj (b : Nat) (bs : List Nat)
  | deep (v : Value) (bs : List Nat)
/-- The blocks that are a thing's own. -/
def Impl.blocks : Impl → List Nat
  | .var b => [b]
  | .arr (.slice (some a) _ _) => [a.block]
  | .blk (some a) _ => [a.block]
  | .obj b bs => b :: bs
  | .deep _ bs => bs
  | _ => []
/-- One thing may go on as another one only if it is an object: then with other blocks behind its root. -/
def Impl.like : Impl → Impl → Prop
  | .obj b _, j => ∃ bs, j = .obj b bs
  | .deep v _, j => ∃ bs, j = .deep v bs
  | i, j => j = i
theorem Impl.like_refl (i : Impl) : i.like i := by cases i <;> simp [Impl.like]
theorem Impl.like_trans {i j k : Impl} (h : i.like j) (h' : j.like k) : i.like k := by
  cases i <;> simp only [Impl.like] at h
  case obj b bs => obtain ⟨bs', rfl⟩ := h; exact h'
  case deep v bs => obtain ⟨bs', rfl⟩ := h; exact h'
  all_goals (subst h; exact h')
def Impl.shape : Impl → Prop
  | .var _ => True
  | .arr v => ∃ A n c, v = .slice A n c
  | .shr v => ∃ A n c, v = .slice A n c
  | .blk _ _ => True
  | .obj b bs => (b :: bs).Nodup
  | .deep v bs => bs.Nodup ∧ ∃ A n c, v = .slice A n c
abbrev IMap := Nat → Option Impl
def capHolds (m : IMap) : List (Nat × Nat) → List Value → Prop
  | [], vs => vs = []
  | (r, off) :: cs, vs => ∃ b vs', m r = some (.var b) ∧ vs = .pointer (some ⟨b, off, none⟩) :: vs' ∧ capHolds m cs vs'
mutual
def LRep (P : Program) (w : World) (ok : Nat → Prop) (m : IMap) : L → Value → Prop
  | .unk, _ => True
  | .skipped, v => v = undef
  | .val t x, v => t.holds w ok x [v]
  | .nnil t xs, v => (T.slice t).holds w ok xs [v] ∧ ∃ a n c, v = .slice (some a) n c
  | .nils, v => v = .slice none 0 0
  | .full t xs, v => (T.slice t).holds w ok xs [v] ∧ ∃ A, v = .slice A xs.length xs.length
  | .sref r, v => m r = some (.arr v) ∨ m r = some (.shr v)
  | .ptr r off, v => ∃ b, m r = some (.var b) ∧ v = .pointer (some ⟨b, off, none⟩)
  | .nilp, v => v = .pointer none
  | .eptr t x off, v => ∃ b o C e fr cs, v = .pointer (some ⟨b, o + off, none⟩) ∧ ok b ∧ w.heap[b]? = some (.cells C e fr) ∧ t.holds w ok x cs ∧ ∀ j u, cs[j]? = some u → C[o + j]? = some u
  | .aptr r cnt i off, v => ∃ b o n c, (m r = some (.arr (.slice (some ⟨b, o, none⟩) n c)) ∨ m r = some (.shr (.slice (some ⟨b, o, none⟩) n c))) ∧ v = .pointer (some ⟨b, o + i * cnt + off, none⟩)
  | .clos f cs, v => ∃ caps, v = .func (.func f) #[] caps.toArray ∧ capHolds m cs caps
  | .fn ps b p, v => FnHolds P w ok ps b p v
  | .fptr ps b p, v => ∃ bl o C e fr u, v = .pointer (some ⟨bl, o, none⟩) ∧ ok bl ∧ w.heap[bl]? = some (.cells C e fr) ∧ C[o]? = some u ∧ FnHolds P w ok ps b p u
  | .agg ls, v => ∃ vs, v = .agg vs.toArray ∧ LReps P w ok m ls vs
  | .tup ls, v => ∃ vs, v = .tuple vs.toArray ∧ LReps P w ok m ls vs
  | .mref r, v => ∃ b, (m r = some (.var b) ∨ ∃ bs, m r = some (.obj b bs)) ∧ v = .map (some b)
  | .nilm, v => v = .map none
  | .tab g, v => v = .pointer (some ⟨g, 0, none⟩)
  | .dref r, v => ∃ bs, m r = some (.deep v bs)
  | .dptr r i, v => ∃ b o n c bs, m r = some (.deep (.slice (some ⟨b, o, none⟩) n c) bs) ∧ v = .pointer (some ⟨b, o + i, none⟩)
  | .nili, v => v = .nilIface
  | .zd, v => ∃ b C e fr, v = .pointer (some ⟨b, 0, none⟩) ∧ ok b ∧ w.heap[b]? = some (.cells C e fr) ∧ C[0]? = some (.map none)
  | .zp r, v => ∃ b, m r = some (.var b) ∧ v = .pointer (some ⟨b, 0, none⟩)
  | .keys r g, v => ∃ b bx ty, (m r = some (.var b) ∨ ∃ bs, m r = some (.obj b bs)) ∧ v = .func (.func g) #[] #[.pointer (some ⟨bx, 0, none⟩)] ∧ ok bx ∧ w.heap[bx]? = some (.cells #[.map (some b)] ty (0, 0))
  | .vw r cnt lo n, v => ∃ A c k, (m r = some (.blk A c) ∨ ∃ n0, m r = some (.arr (.slice A n0 c))) ∧ v = .slice (A.map (·.add k)) n (c - lo) ∧ (c = lo ∧ 0 < lo ∨ k = lo * cnt)
def LReps (P : Program) (w : World) (ok : Nat → Prop) (m : IMap) : List L → List Value → Prop
  | [], vs => vs = []
  | l :: ls, vs => ∃ v vs', vs = v :: vs' ∧ LRep P w ok m l v ∧ LReps P w ok m ls vs'
end
def Ext (m m' : IMap) : Prop := ∀ r i, m r = some i → ∃ i', m' r = some i' ∧ i.like i'
theorem Ext.refl (m : IMap) : Ext m m := fun _ i h => ⟨i, h, i.like_refl⟩
theorem Ext.trans {a b c : IMap} (h : Ext a b) (h' : Ext b c) : Ext a c := fun r i hr => by
  obtain ⟨j, h1, h2⟩ := h r i hr
  obtain ⟨k, h3, h4⟩ := h' r j h1
  exact ⟨k, h3, Impl.like_trans h2 h4⟩
theorem Ext.of {m m' : IMap} (h : ∀ r i, m r = some i → m' r = some i) : Ext m m' := fun r i hr => ⟨i, h r i hr, i.like_refl⟩
theorem Ext.var {m m' : IMap} (h : Ext m m') {r b : Nat} (hr : m r = some (.var b)) : m' r = some (.var b) := by
  obtain ⟨i, h1, h2⟩ := h r _ hr
  simp only [Impl.like] at h2; subst h2; exact h1
theorem Ext.arr {m m' : IMap} (h : Ext m m') {r : Nat} {v : Value} (hr : m r = some (.arr v)) : m' r = some (.arr v) := by
  obtain ⟨i, h1, h2⟩ := h r _ hr
  simp only [Impl.like] at h2; subst h2; exact h1
theorem Ext.shr {m m' : IMap} (h : Ext m m') {r : Nat} {v : Value} (hr : m r = some (.shr v)) : m' r = some (.shr v) := by
  obtain ⟨i, h1, h2⟩ := h r _ hr
  simp only [Impl.like] at h2; subst h2; exact h1
theorem Ext.blk {m m' : IMap} (h : Ext m m') {r c : Nat} {A : Option Addr} (hr : m r = some (.blk A c)) : m' r = some (.blk A c) := by
  obtain ⟨i, h1, h2⟩ := h r _ hr
  simp only [Impl.like] at h2; subst h2; exact h1
theorem Ext.deep {m m' : IMap} (h : Ext m m') {r : Nat} {v : Value} {bs : List Nat} (hr : m r = some (.deep v bs)) : ∃ bs', m' r = some (.deep v bs') := by
  obtain ⟨i, h1, bs', rfl⟩ := h r _ hr
  exact ⟨bs', h1⟩
theorem Ext.obj {m m' : IMap} (h : Ext m m') {r b : Nat} {bs : List Nat} (hr : m r = some (.obj b bs)) : ∃ bs', m' r = some (.obj b bs') := by
  obtain ⟨i, h1, bs', rfl⟩ := h r _ hr
  exact ⟨bs', h1⟩
theorem capHolds.mono {m m' : IMap} (hm : Ext m m') : ∀ {cs : List (Nat × Nat)} {vs : List Value}, capHolds m cs vs → capHolds m' cs vs
  | [], _, h => h
  | (r, off) :: cs, _, h => by
    obtain ⟨b, vs', h1, h2, h3⟩ := h
    exact ⟨b, vs', hm.var h1, h2, h3.mono hm⟩
mutual
theorem LRep.mono {P : Program} {w w' : World} {ok ok' : Nat → Prop} {m m' : IMap} (hk : Keeps w w' ok ok') (hm : Ext m m') : ∀ {l : L} {v : Value}, LRep P w ok m l v → LRep P w' ok' m' l v
  | .unk, _, h => h
  | .skipped, _, h => h
  | .val t x, v, h => T.holds_mono (t := t) hk h
  | .nnil t xs, v, h => ⟨T.holds_mono (t := .slice t) hk h.1, h.2⟩
  | .nils, _, h => h
  | .full t xs, v, h => ⟨T.holds_mono (t := .slice t) hk h.1, h.2⟩
  | .sref r, v, h => h.imp hm.arr hm.shr
  | .ptr r off, v, h => by obtain ⟨b, h1, h2⟩ := h; exact ⟨b, hm.var h1, h2⟩
  | .nilp, _, h => h
  | .eptr t x off, v, h => by
    obtain ⟨b, o, C, e, fr, cs, h1, h2, h3, h4, h5⟩ := h
    exact ⟨b, o, C, e, fr, cs, h1, (hk b h2).1, (hk b h2).2 _ _ _ h3, T.holds_mono hk h4, h5⟩
  | .aptr r cnt i off, v, h => by
    obtain ⟨b, o, n, c, h1, h2⟩ := h
    exact ⟨b, o, n, c, h1.imp hm.arr hm.shr, h2⟩
  | .clos f cs, v, h => by obtain ⟨caps, h1, h2⟩ := h; exact ⟨caps, h1, h2.mono hm⟩
  | .fn ps b p, v, h => FnHolds.mono hk h
  | .fptr ps b p, v, h => by
    obtain ⟨bl, o, C, e, fr, u, h1, h2, h3, h4, h5⟩ := h
    exact ⟨bl, o, C, e, fr, u, h1, (hk bl h2).1, (hk bl h2).2 _ _ _ h3, h4, FnHolds.mono hk h5⟩
  | .agg ls, v, h => by obtain ⟨vs, h1, h2⟩ := h; exact ⟨vs, h1, h2.mono hk hm⟩
  | .tup ls, v, h => by obtain ⟨vs, h1, h2⟩ := h; exact ⟨vs, h1, h2.mono hk hm⟩
  | .mref r, v, h => by obtain ⟨b, h1, h2⟩ := h; exact ⟨b, h1.imp hm.var (fun ⟨_, h⟩ => hm.obj h), h2⟩
  | .nilm, _, h => h
  | .tab _, _, h => h
  | .nili, _, h => h
  | .dref r, v, h => by obtain ⟨bs, h⟩ := h; exact hm.deep h
  | .dptr r i, v, h => by
    obtain ⟨b, o, n, c, bs, h1, h2⟩ := h
    obtain ⟨bs', h1⟩ := hm.deep h1
    exact ⟨b, o, n, c, bs', h1, h2⟩
  | .zd, v, h => by
    obtain ⟨b, C, e, fr, h1, h2, h3, h4⟩ := h
    exact ⟨b, C, e, fr, h1, (hk b h2).1, (hk b h2).2 _ _ _ h3, h4⟩
  | .zp r, v, h => by obtain ⟨b, h1, h2⟩ := h; exact ⟨b, hm.var h1, h2⟩
  | .keys r g, v, h => by obtain ⟨b, bx, ty, h1, h2, h3, h4⟩ := h; exact ⟨b, bx, ty, h1.imp hm.var (fun ⟨_, h⟩ => hm.obj h), h2, (hk bx h3).1, (hk bx h3).2 _ _ _ h4⟩
  | .vw r cnt lo n, v, h => by
    obtain ⟨A, c, k, h1, h2⟩ := h
    exact ⟨A, c, k, h1.imp hm.blk (fun ⟨n0, h⟩ => ⟨n0, hm.arr h⟩), h2⟩
theorem LReps.mono {P : Program} {w w' : World} {ok ok' : Nat → Prop} {m m' : IMap} (hk : Keeps w w' ok ok') (hm : Ext m m') : ∀ {ls : List L} {vs : List Value}, LReps P w ok m ls vs → LReps P w' ok' m' ls vs
  | [], _, h => h
  | l :: ls, _, h => by
    obtain ⟨v, vs', h1, h2, h3⟩ := h
    exact ⟨v, vs', h1, h2.mono hk hm, h3.mono hk hm⟩
end
theorem LReps.length {P : Program} {w : World} {ok : Nat → Prop} {m : IMap} : ∀ {ls : List L} {vs : List Value}, LReps P w ok m ls vs → vs.length = ls.length
  | [], _, h => by simp only [LReps] at h; subst h; rfl
  | l :: ls, _, h => by
    simp only [LReps] at h
    obtain ⟨v, vs', rfl, _, h⟩ := h
    simp [LReps.length h]
theorem LReps.get {P : Program} {w : World} {ok : Nat → Prop} {m : IMap} : ∀ {ls : List L} {vs : List Value}, LReps P w ok m ls vs → ∀ {i : Nat} {l : L}, ls[i]? = some l → ∃ v, vs[i]? = some v ∧ LRep P w ok m l v
  | [], _, _, i, l, hi => by simp at hi
  | l0 :: ls, _, h, i, l, hi => by
    simp only [LReps] at h
    obtain ⟨v, vs', rfl, h1, h⟩ := h
    cases i with
    | zero => simp at hi; subst hi; exact ⟨v, rfl, h1⟩
    | succ i => simp at hi; obtain ⟨u, hu, hl⟩ := h.get hi; exact ⟨u, by simpa using hu, hl⟩
theorem LReps.append {P : Program} {w : World} {ok : Nat → Prop} {m : IMap} : ∀ {ls ls' : List L} {vs vs' : List Value}, LReps P w ok m ls vs → LReps P w ok m ls' vs' → LReps P w ok m (ls ++ ls') (vs ++ vs')
  | [], _, _, _, h, h' => by simp only [LReps] at h; subst h; exact h'
  | l :: ls, _, _, _, h, h' => by
    simp only [LReps] at h
    obtain ⟨v, vs', rfl, h1, h⟩ := h
    exact ⟨v, vs' ++ _, rfl, h1, h.append h'⟩
theorem LReps.take {P : Program} {w : World} {ok : Nat → Prop} {m : IMap} : ∀ {ls : List L} {vs : List Value}, LReps P w ok m ls vs → ∀ n, LReps P w ok m (ls.take n) (vs.take n)
  | [], _, h, n => by simp only [LReps] at h; subst h; simp [LReps]
  | l :: ls, _, h, n => by
    simp only [LReps] at h
    obtain ⟨v, vs', rfl, h1, h⟩ := h
    cases n with
    | zero => simp [LReps]
    | succ n => exact ⟨v, vs'.take n, rfl, h1, h.take n⟩
theorem LReps.drop {P : Program} {w : World} {ok : Nat → Prop} {m : IMap} : ∀ {ls : List L} {vs : List Value}, LReps P w ok m ls vs → ∀ n, LReps P w ok m (ls.drop n) (vs.drop n)
  | [], _, h, n => by simp only [LReps] at h; subst h; simp [LReps]
  | l :: ls, _, h, n => by
    simp only [LReps] at h
    obtain ⟨v, vs', rfl, h1, h⟩ := h
    cases n with
    | zero => exact ⟨v, vs', rfl, h1, h⟩
    | succ n => exact h.drop n
theorem LReps.split {P : Program} {w : World} {ok : Nat → Prop} {m : IMap} : ∀ {ls ls' : List L} {vs : List Value}, LReps P w ok m (ls ++ ls') vs → ∃ a b, vs = a ++ b ∧ LReps P w ok m ls a ∧ LReps P w ok m ls' b
  | [], _, vs, h => ⟨[], vs, rfl, rfl, h⟩
  | l :: ls, _, _, h => by
    simp only [List.cons_append, LReps] at h
    obtain ⟨v, vs', rfl, h1, h⟩ := h
    obtain ⟨a, b, rfl, ha, hb⟩ := h.split
    exact ⟨v :: a, b, rfl, ⟨v, a, rfl, h1, ha⟩, hb⟩

/-! ### Casts, leaves -/
theorem cast?_some {t t' : T} {x : t.den} {y : t'.den} (h : cast? t' x = some y) : ∃ e : t = t', e ▸ x = y := by
  unfold cast? at h
  split at h
  · rename_i e; subst e; exact ⟨rfl, by simpa using h⟩
  · simp at h
theorem leafVal?_holds {P : Program} {w : World} {ok : Nat → Prop} {m : IMap} {t : T} {l : L} {x : t.den} {v : Value} (h : leafVal? t l = some x) (hl : LRep P w ok m l v) : t.holds w ok x [v] := by
  cases l <;> simp only [leafVal?] at h <;> try (simp at h; done)
  · obtain ⟨rfl, rfl⟩ := cast?_some h; exact hl
  · obtain ⟨rfl, rfl⟩ := cast?_some h; exact hl.1
  · split at h
    · simp at h; subst h; simp only [LRep] at hl; subst hl; exact ⟨none, 0, rfl, Nat.le_refl _, .inl ⟨rfl, fun _ => rfl⟩⟩
    · simp at h
  · obtain ⟨rfl, rfl⟩ := cast?_some h; exact hl.1
  · split at h
    · simp at h; subst h; obtain ⟨b, _, rfl⟩ := hl; exact .inr ⟨_, rfl, rfl⟩
    · simp at h
  · split at h
    · simp at h; subst h; simp only [LRep] at hl; subst hl; exact .inl ⟨rfl, rfl⟩
    · simp at h; subst h; simp only [LRep] at hl; subst hl; exact .inl ⟨rfl, rfl⟩
    · simp at h; subst h; simp only [LRep] at hl; subst hl; rfl
    · simp at h
  · split at h
    · simp at h; subst h; simp only [LRep] at hl; subst hl; exact .inl ⟨rfl, rfl⟩
    · simp at h
theorem implodeGo_holds {P : Program} {w : World} {ok : Nat → Prop} {m : IMap} : ∀ {t : T} {ls r : List L} {x : t.den} {vs : List Value}, t.implodeGo ls = some (x, r) → LReps P w ok m ls vs →
    ∃ a b, vs = a ++ b ∧ t.holds w ok x a ∧ LReps P w ok m r b
  | .pair p q, ls, r, x, vs, h, hl => by
    simp only [T.implodeGo] at h
    split at h
    · simp at h
    · rename_i x1 r1 h1
      split at h
      · simp at h
      · rename_i x2 r2 h2
        simp at h
        obtain ⟨rfl, rfl⟩ := h
        obtain ⟨a, b, rfl, ha, hb⟩ := implodeGo_holds h1 hl
        obtain ⟨c, d, rfl, hc, hd⟩ := implodeGo_holds h2 hb
        exact ⟨a ++ c, d, by simp, ⟨a, c, rfl, ha, hc⟩, hd⟩
  | .int k, l :: r, _, x, _, h, hl => by
    simp only [T.implodeGo] at h
    split at h
    · simp at h
    · rename_i y hy; simp at h; obtain ⟨rfl, rfl⟩ := h; obtain ⟨v, vs', rfl, h1, h2⟩ := hl; exact ⟨[v], vs', rfl, leafVal?_holds hy h1, h2⟩
  | .bool, l :: r, _, x, _, h, hl => by
    simp only [T.implodeGo] at h
    split at h
    · simp at h
    · rename_i y hy; simp at h; obtain ⟨rfl, rfl⟩ := h; obtain ⟨v, vs', rfl, h1, h2⟩ := hl; exact ⟨[v], vs', rfl, leafVal?_holds hy h1, h2⟩
  | .str, l :: r, _, x, _, h, hl => by
    simp only [T.implodeGo] at h
    split at h
    · simp at h
    · rename_i y hy; simp at h; obtain ⟨rfl, rfl⟩ := h; obtain ⟨v, vs', rfl, h1, h2⟩ := hl; exact ⟨[v], vs', rfl, leafVal?_holds hy h1, h2⟩
  | .slice t, l :: r, _, x, _, h, hl => by
    simp only [T.implodeGo] at h
    split at h
    · simp at h
    · rename_i y hy; simp at h; obtain ⟨rfl, rfl⟩ := h; obtain ⟨v, vs', rfl, h1, h2⟩ := hl; exact ⟨[v], vs', rfl, leafVal?_holds hy h1, h2⟩
  | .opt t, l :: r, _, x, _, h, hl => by
    simp only [T.implodeGo] at h
    split at h
    · simp at h
    · rename_i y hy; simp at h; obtain ⟨rfl, rfl⟩ := h; obtain ⟨v, vs', rfl, h1, h2⟩ := hl; exact ⟨[v], vs', rfl, leafVal?_holds hy h1, h2⟩
  | .opt _, [], _, _, _, h, _ => by simp [T.implodeGo] at h
  | .pb, l :: r, _, x, _, h, hl => by
    simp only [T.implodeGo] at h
    split at h
    · simp at h
    · rename_i y hy; simp at h; obtain ⟨rfl, rfl⟩ := h; obtain ⟨v, vs', rfl, h1, h2⟩ := hl; exact ⟨[v], vs', rfl, leafVal?_holds hy h1, h2⟩
  | .pb, [], _, _, _, h, _ => by simp [T.implodeGo] at h
  | .raw, l :: r, _, x, _, h, hl => by
    simp only [T.implodeGo] at h
    split at h
    · simp at h
    · rename_i y hy; simp at h; obtain ⟨rfl, rfl⟩ := h; obtain ⟨v, vs', rfl, h1, h2⟩ := hl; exact ⟨[v], vs', rfl, leafVal?_holds hy h1, h2⟩
  | .raw, [], _, _, _, h, _ => by simp [T.implodeGo] at h
  | .ib, l :: r, _, x, _, h, hl => by
    simp only [T.implodeGo] at h
    split at h
    · simp at h
    · rename_i y hy; simp at h; obtain ⟨rfl, rfl⟩ := h; obtain ⟨v, vs', rfl, h1, h2⟩ := hl; exact ⟨[v], vs', rfl, leafVal?_holds hy h1, h2⟩
  | .ib, [], _, _, _, h, _ => by simp [T.implodeGo] at h
  | .box _ _, l :: r, _, x, _, h, hl => by
    simp only [T.implodeGo] at h
    split at h
    · simp at h
    · rename_i y hy; simp at h; obtain ⟨rfl, rfl⟩ := h; obtain ⟨v, vs', rfl, h1, h2⟩ := hl; exact ⟨[v], vs', rfl, leafVal?_holds hy h1, h2⟩
  | .box _ _, [], _, _, _, h, _ => by simp [T.implodeGo] at h
  | .int _, [], _, _, _, h, _ => by simp [T.implodeGo] at h
  | .bool, [], _, _, _, h, _ => by simp [T.implodeGo] at h
  | .str, [], _, _, _, h, _ => by simp [T.implodeGo] at h
  | .slice _, [], _, _, _, h, _ => by simp [T.implodeGo] at h
theorem implode_holds {P : Program} {w : World} {ok : Nat → Prop} {m : IMap} {t : T} {ls : List L} {x : t.den} {vs : List Value} (h : t.implode ls = some x) (hl : LReps P w ok m ls vs) : t.holds w ok x vs := by
  unfold T.implode at h
  split at h
  · rename_i y hy
    simp at h; subst h
    obtain ⟨a, b, rfl, ha, hb⟩ := implodeGo_holds hy hl
    simp only [LReps] at hb; subst hb
    simpa using ha
  · simp at h
theorem explode_reps {P : Program} {w : World} {ok : Nat → Prop} {m : IMap} : ∀ {t : T} {x : t.den} {vs : List Value}, t.holds w ok x vs → LReps P w ok m (t.explode x) vs
  | .pair p q, x, _, h => by
    simp only [T.holds] at h
    obtain ⟨c, d, rfl, h1, h2⟩ := h
    exact (explode_reps h1).append (explode_reps h2)
  | .int _, x, vs, h => by have := T.holds_len h; match vs, this with | [v], _ => exact ⟨v, [], rfl, h, rfl⟩
  | .bool, x, vs, h => by have := T.holds_len h; match vs, this with | [v], _ => exact ⟨v, [], rfl, h, rfl⟩
  | .str, x, vs, h => by have := T.holds_len h; match vs, this with | [v], _ => exact ⟨v, [], rfl, h, rfl⟩
  | .slice _, x, vs, h => by have := T.holds_len h; match vs, this with | [v], _ => exact ⟨v, [], rfl, h, rfl⟩
  | .opt _, x, vs, h => by have := T.holds_len h; match vs, this with | [v], _ => exact ⟨v, [], rfl, h, rfl⟩
  | .pb, x, vs, h => by have := T.holds_len h; match vs, this with | [v], _ => exact ⟨v, [], rfl, h, rfl⟩
  | .raw, x, vs, h => by have := T.holds_len h; match vs, this with | [v], _ => exact ⟨v, [], rfl, h, rfl⟩
  | .ib, x, vs, h => by have := T.holds_len h; match vs, this with | [v], _ => exact ⟨v, [], rfl, h, rfl⟩
  | .box _ _, x, vs, h => by have := T.holds_len h; match vs, this with | [v], _ => exact ⟨v, [], rfl, h, rfl⟩
theorem explode_len : ∀ {t : T} {x : t.den}, (t.explode x).length = t.cnt
  | .pair p q, x => by simp [T.explode, T.cnt, explode_len (t := p), explode_len (t := q)]
  | .int _, _ => rfl
  | .bool, _ => rfl
  | .str, _ => rfl
  | .slice _, _ => rfl
  | .opt _, _ => rfl
  | .pb, _ => rfl
  | .raw, _ => rfl
  | .ib, _ => rfl
  | .box _ _, _ => rfl
theorem cnt_pos : ∀ t : T, 0 < t.cnt
  | .pair p q => by simp only [T.cnt]; have := cnt_pos p; omega
  | .int _ => Nat.one_pos
  | .bool => Nat.one_pos
  | .str => Nat.one_pos
  | .slice _ => Nat.one_pos
  | .opt _ => Nat.one_pos
  | .pb => Nat.one_pos
  | .raw => Nat.one_pos
  | .ib => Nat.one_pos
  | .box _ _ => Nat.one_pos
theorem absLeaf_rep {P : Program} {w : World} {ok : Nat → Prop} {m : IMap} (v : Value) : LRep P w ok m (absLeaf v) v := by
  unfold absLeaf
  split <;> simp [LRep, T.holds]
theorem absLeaves_rep {P : Program} {w : World} {ok : Nat → Prop} {m : IMap} : ∀ vs : List Value, LReps P w ok m (vs.map absLeaf) vs
  | [] => rfl
  | v :: vs => ⟨v, vs, rfl, absLeaf_rep v, absLeaves_rep vs⟩
theorem absV_rep {P : Program} {w : World} {ok : Nat → Prop} {m : IMap} (v : Value) : LRep P w ok m (absV v) v := by
  unfold absV
  split
  · rename_i cs; exact ⟨cs.toList, by simp, absLeaves_rep _⟩
  · exact absLeaf_rep v

/-! ### Rows and variables -/
/-- None of a row's cells is frozen. -/
def FrOk (t : T) (n : Nat) (fr : Nat × Nat) : Prop := fr = (0, 0) ∨ (n ≤ fr.1 ∧ t = .int .u8)
theorem FrOk.free {t : T} {n : Nat} {fr : Nat × Nat} (h : FrOk t n fr) : ∀ o, o < n → ¬ (fr.1 ≤ o ∧ o < fr.2) := by
  intro o ho
  rcases h with rfl | ⟨h, _⟩
  · simp
  · omega
def OwnRow (w : World) (ok : Nat → Prop) (t : T) (xs : List t.den) (v : Value) : Prop :=
  (v = .slice none 0 0 ∧ xs = []) ∨ ∃ b C e fr cap, v = .slice (some ⟨b, 0, none⟩) xs.length cap ∧ xs.length ≤ cap ∧ cap * t.cnt ≤ C.size ∧
    w.heap[b]? = some (.cells C e fr) ∧ FrOk t C.size fr ∧ ∀ i x, xs[i]? = some x → ∃ ds, t.holds w ok x ds ∧ ∀ j u, ds[j]? = some u → C[i * t.cnt + j]? = some u
/-- A plain value as one value. -/
def PV (w : World) (ok : Nat → Prop) (t : T) (x : t.den) (v : Value) : Prop := (t.leaf = true ∧ t.holds w ok x [v]) ∨ (t.leaf = false ∧ ∃ cs, v = .agg cs.toArray ∧ t.holds w ok x cs)
theorem PV.mono {w w' : World} {ok ok' : Nat → Prop} {t : T} {x : t.den} {v : Value} (hk : Keeps w w' ok ok') (h : PV w ok t x v) : PV w' ok' t x v := by
  rcases h with ⟨h1, h2⟩ | ⟨h1, cs, h2, h3⟩
  · exact .inl ⟨h1, T.holds_mono hk h2⟩
  · exact .inr ⟨h1, cs, h2, T.holds_mono hk h3⟩
def Ents (w : World) (ok : Nat → Prop) (kt et : T) : List (kt.den × et.den) → List MapEntry → Prop
  | [], es => es = []
  | (k, v) :: l, es => ∃ e es', es = e :: es' ∧ PV w ok kt k e.key ∧ PV w ok et v e.val ∧ Ents w ok kt et l es'
theorem Ents.mono {w w' : World} {ok ok' : Nat → Prop} {kt et : T} (hk : Keeps w w' ok ok') : ∀ {l : List (kt.den × et.den)} {es : List MapEntry}, Ents w ok kt et l es → Ents w' ok' kt et l es
  | [], _, h => h
  | (k, v) :: l, _, h => by
    obtain ⟨e, es', h1, h2, h3, h4⟩ := h
    exact ⟨e, es', h1, h2.mono hk, h3.mono hk, h4.mono hk⟩
/-! Maps of pointers to things of their own. -/
def FileAt (w : World) (x : FT) (v : Value) : Prop := ∃ p u e, v = .pointer (some ⟨p, 0, none⟩) ∧ w.heap[p]? = some (.cells #[u, .int .i64 x.2] e (0, 0)) ∧ OwnRow w (fun _ => True) (.int .u8) x.1 u
/-- The blocks behind a thing's pointer. -/
def fileBs (w : World) : Value → List Nat
  | .pointer (some a) => a.block :: (match w.heap[a.block]? with
    | some (.cells C _ _) => (match C[0]? with
      | some u => (Impl.arr u).blocks
      | none => [])
    | _ => [])
  | _ => []
def keyOf : Value → List UInt8
  | .string s => s.data.toList
  | _ => []
def entBs (w : World) (skip : Option (List UInt8)) : List MapEntry → List Nat
  | [] => []
  | e :: es => (if skip = some (keyOf e.key) then [] else fileBs w e.val) ++ entBs w skip es
def PEnt (w : World) (m : IMap) (pin : Option (List UInt8 × Nat)) (k : List UInt8) (x : FT) (e : MapEntry) : Prop :=
  e.key = .string ⟨k.toArray⟩ ∧ ((∃ R b, pin = some (k, R) ∧ m R = some (.var b) ∧ e.val = .pointer (some ⟨b, 0, none⟩)) ∨ ((∀ R, pin ≠ some (k, R)) ∧ FileAt w x e.val))
def PEnts (w : World) (m : IMap) (pin : Option (List UInt8 × Nat)) : FL → List MapEntry → Prop
  | [], es => es = []
  | (k, x) :: l, es => ∃ e es', es = e :: es' ∧ PEnt w m pin k x e ∧ PEnts w m pin l es'
structure PMap (w : World) (m : IMap) (l : FL) (pin : Option (List UInt8 × Nat)) (bs : List Nat) (es : Array MapEntry) (clock : Nat) : Prop where
  ents : PEnts w m pin l es.toList
  keys : (l.map (·.1)).Nodup
  bs : bs = entBs w (pin.map (·.1)) es.toList
  pin : ∀ k R, pin = some (k, R) → k ∈ l.map (·.1)
  stamped : MapKept.Stamped es clock
theorem FileAt.mono {w w' : World} {x : FT} {v : Value} (h : FileAt w x v) (hb : ∀ b ∈ fileBs w v, w'.heap[b]? = w.heap[b]?) : FileAt w' x v ∧ fileBs w' v = fileBs w v := by
  obtain ⟨p, u, e, rfl, h1, h2⟩ := h
  have hp : w'.heap[p]? = w.heap[p]? := hb p (by simp [fileBs])
  refine ⟨⟨p, u, e, rfl, hp.trans h1, ?_⟩, by simp only [fileBs, hp]⟩
  rcases h2 with h2 | ⟨b, C, e', fr, cap, rfl, g1, g2, g3, g4, g5⟩
  · exact .inl h2
  · refine .inr ⟨b, C, e', fr, cap, rfl, g1, g2, (hb b ?_).trans g3, g4, fun i x hi => ?_⟩
    · simp only [fileBs, h1]; simp [Impl.blocks]
    · obtain ⟨ds, hd, hj⟩ := g5 i x hi
      exact ⟨ds, hd, hj⟩
theorem keyOf_mk (k : List UInt8) : keyOf (.string ⟨k.toArray⟩) = k := by simp [keyOf]
theorem PEnts.mono {w w' : World} {m m' : IMap} (hm : Ext m m') {pin : Option (List UInt8 × Nat)} : ∀ {l : FL} {es : List MapEntry}, PEnts w m pin l es → (∀ b ∈ entBs w (pin.map (·.1)) es, w'.heap[b]? = w.heap[b]?) →
    PEnts w' m' pin l es ∧ entBs w' (pin.map (·.1)) es = entBs w (pin.map (·.1)) es
  | [], _, h, _ => by simp only [PEnts] at h; subst h; exact ⟨rfl, rfl⟩
  | (k, x) :: l, _, h, hb => by
    obtain ⟨e, es', rfl, ⟨hk, he⟩, h2⟩ := h
    have hb2 : ∀ b ∈ entBs w (pin.map (·.1)) es', w'.heap[b]? = w.heap[b]? := fun b h => hb b (by simp [entBs, h])
    obtain ⟨h3, h4⟩ := PEnts.mono hm h2 hb2
    rcases he with ⟨R, b, h5, h6, h7⟩ | ⟨h5, h6⟩
    · refine ⟨⟨e, es', rfl, ⟨hk, .inl ⟨R, b, h5, hm.var h6, h7⟩⟩, h3⟩, ?_⟩
      rw [h5] at h4
      simp only [entBs, hk, keyOf_mk, h5, Option.map_some, if_true, List.nil_append]
      exact h4
    · have hs : ¬ pin.map (·.1) = some (keyOf e.key) := by
        rw [hk, keyOf_mk]
        cases pin with
        | none => simp
        | some q => obtain ⟨k', R⟩ := q; simp only [Option.map_some, Option.some.injEq]; intro e'; subst e'; exact h5 R rfl
      obtain ⟨h7, h8⟩ := h6.mono (w' := w') (fun b hb' => hb b (by simp [entBs, hs, hb']))
      exact ⟨⟨e, es', rfl, ⟨hk, .inr ⟨h5, h7⟩⟩, h3⟩, by simp only [entBs, h4, if_neg hs, h8]⟩
theorem PMap.mono {w w' : World} {m m' : IMap} (hm : Ext m m') {l : FL} {pin : Option (List UInt8 × Nat)} {bs : List Nat} {es : Array MapEntry} {clock : Nat} (h : PMap w m l pin bs es clock) (hb : ∀ b ∈ bs, w'.heap[b]? = w.heap[b]?) :
    PMap w' m' l pin bs es clock := by
  obtain ⟨h1, h2⟩ := h.ents.mono hm (fun b hb' => hb b (by rw [h.bs]; exact hb'))
  exact ⟨h1, h.keys, by rw [h.bs, h2], h.pin, h.stamped⟩
theorem OwnRow.mono {w w' : World} {ok ok' : Nat → Prop} {t : T} {xs : List t.den} {v : Value} (hk : Keeps w w' ok ok') (hb : ∀ b, b ∈ (Impl.arr v).blocks → w'.heap[b]? = w.heap[b]?)
    (h : OwnRow w ok t xs v) : OwnRow w' ok' t xs v := by
  rcases h with h | ⟨b, C, e, fr, cap, rfl, h1, h2, h3, h4, h5⟩
  · exact .inl h
  · refine .inr ⟨b, C, e, fr, cap, rfl, h1, h2, (hb b (by simp [Impl.blocks])).trans h3, h4, fun i x hi => ?_⟩
    obtain ⟨ds, hd, hj⟩ := h5 i x hi
    exact ⟨ds, T.holds_mono hk hd, hj⟩
/-! Rows of pointers at things of their own. -/
def SegAt (w : World) (ok : Nat → Prop) (x : SG) (v : Value) : Prop := ∃ p u u' e, v = .pointer (some ⟨p, 0, none⟩) ∧ w.heap[p]? = some (.cells #[.int .i64 x.1, .int .u64 x.2.1, u, u'] e (0, 0)) ∧
  OwnRow w ok (.int .i64) x.2.2.1 u ∧ OwnRow w ok (.slice (.int .u8)) x.2.2.2 u'
/-- The blocks behind a thing's pointer. -/
def segBs (w : World) : Value → List Nat
  | .pointer (some a) => a.block :: (match w.heap[a.block]? with
    | some (.cells C _ _) => (match C.toList with
      | [_, _, u, u'] => (Impl.arr u).blocks ++ (Impl.arr u').blocks
      | _ => [])
    | _ => [])
  | _ => []
def dBs (w : World) (skip : Option Nat) : Nat → List Value → List Nat
  | _, [] => []
  | j, u :: us => (if skip = some j then [] else segBs w u) ++ dBs w skip (j + 1) us
def DEnt (w : World) (ok : Nat → Prop) (m : IMap) (pin : Option (Nat × Nat)) (j : Nat) (x : SG) (u : Value) : Prop :=
  (∃ R b, pin = some (j, R) ∧ m R = some (.var b) ∧ u = .pointer (some ⟨b, 0, none⟩)) ∨ ((∀ R, pin ≠ some (j, R)) ∧ SegAt w ok x u)
def DEnts (w : World) (ok : Nat → Prop) (m : IMap) (pin : Option (Nat × Nat)) : Nat → List SG → List Value → Prop
  | _, [], us => us = []
  | j, x :: l, us => ∃ u us', us = u :: us' ∧ DEnt w ok m pin j x u ∧ DEnts w ok m pin (j + 1) l us'
/-- The values that a slice shows. -/
def shownOf (C : Array Value) (off n : Nat) : List Value := (C.toList.drop off).take n
structure DRow (w : World) (ok : Nat → Prop) (m : IMap) (l : List SG) (pin : Option (Nat × Nat)) (v : Value) (bs : List Nat) (b off cap : Nat) (C : Array Value) (e : TypeId) : Prop where
  v : v = .slice (some ⟨b, off, none⟩) l.length cap
  len : l.length ≤ cap
  cap : off + cap ≤ C.size
  heap : w.heap[b]? = some (.cells C e (0, 0))
  ents : DEnts w ok m pin 0 l (shownOf C off l.length)
  bs : bs = b :: dBs w (pin.map (·.1)) 0 (shownOf C off l.length)
  pin : ∀ i R, pin = some (i, R) → i < l.length
def DeepRow (w : World) (ok : Nat → Prop) (m : IMap) (l : List SG) (pin : Option (Nat × Nat)) (v : Value) (bs : List Nat) : Prop :=
  (v = .slice none 0 0 ∧ l = [] ∧ pin = none ∧ bs = []) ∨ ∃ b off cap C e, DRow w ok m l pin v bs b off cap C e
theorem SegAt.mono {w w' : World} {ok ok' : Nat → Prop} (hk : Keeps w w' ok ok') {x : SG} {v : Value} (h : SegAt w ok x v) (hb : ∀ b ∈ segBs w v, w'.heap[b]? = w.heap[b]?) : SegAt w' ok' x v ∧ segBs w' v = segBs w v := by
  obtain ⟨p, u, u', e, rfl, h1, h2, h3⟩ := h
  have hp : w'.heap[p]? = w.heap[p]? := hb p (by simp [segBs])
  have hbs : segBs w (.pointer (some ⟨p, 0, none⟩)) = p :: ((Impl.arr u).blocks ++ (Impl.arr u').blocks) := by simp [segBs, h1]
  rw [hbs] at hb
  exact ⟨⟨p, u, u', e, rfl, hp.trans h1, h2.mono hk (fun b hb' => hb b (by simp [hb'])), h3.mono hk (fun b hb' => hb b (by simp [hb']))⟩, by simp only [segBs, hp]⟩
theorem DEnts.mono {w w' : World} {ok ok' : Nat → Prop} (hk : Keeps w w' ok ok') {m m' : IMap} (hm : Ext m m') {pin : Option (Nat × Nat)} : ∀ {l : List SG} {j : Nat} {us : List Value}, DEnts w ok m pin j l us → (∀ b ∈ dBs w (pin.map (·.1)) j us, w'.heap[b]? = w.heap[b]?) →
    DEnts w' ok' m' pin j l us ∧ dBs w' (pin.map (·.1)) j us = dBs w (pin.map (·.1)) j us
  | [], _, _, h, _ => by simp only [DEnts] at h; subst h; exact ⟨rfl, rfl⟩
  | x :: l, j, _, h, hb => by
    obtain ⟨u, us', rfl, he, h2⟩ := h
    obtain ⟨h3, h4⟩ := DEnts.mono hk hm h2 (fun b h => hb b (by simp [dBs, h]))
    rcases he with ⟨R, b, h5, h6, h7⟩ | ⟨h5, h6⟩
    · refine ⟨⟨u, us', rfl, .inl ⟨R, b, h5, hm.var h6, h7⟩, h3⟩, ?_⟩
      rw [h5] at h4
      simp only [dBs, h5, Option.map_some, if_true, List.nil_append]
      exact h4
    · have hs : ¬ pin.map (·.1) = some j := by
        cases pin with
        | none => simp
        | some q => obtain ⟨i, R⟩ := q; simp only [Option.map_some, Option.some.injEq]; intro e'; subst e'; exact h5 R rfl
      obtain ⟨h7, h8⟩ := h6.mono (w' := w') hk (fun b hb' => hb b (by simp [dBs, hs, hb']))
      exact ⟨⟨u, us', rfl, .inr ⟨h5, h7⟩, h3⟩, by simp only [dBs, h4, if_neg hs, h8]⟩
theorem DRow.mono {w w' : World} {ok ok' : Nat → Prop} (hk : Keeps w w' ok ok') {m m' : IMap} (hm : Ext m m') {l : List SG} {pin : Option (Nat × Nat)} {v : Value} {bs : List Nat} {b off cap : Nat} {C : Array Value} {e : TypeId}
    (h : DRow w ok m l pin v bs b off cap C e) (hb : ∀ b ∈ bs, w'.heap[b]? = w.heap[b]?) : DRow w' ok' m' l pin v bs b off cap C e := by
  have hb' := hb
  rw [h.bs] at hb'
  obtain ⟨h1, h2⟩ := h.ents.mono hk hm (fun n hn => hb' n (by simp [hn]))
  exact ⟨h.v, h.len, h.cap, (hb' b (by simp)).trans h.heap, h1, by rw [h.bs, h2], h.pin⟩
theorem DeepRow.mono {w w' : World} {ok ok' : Nat → Prop} (hk : Keeps w w' ok ok') {m m' : IMap} (hm : Ext m m') {l : List SG} {pin : Option (Nat × Nat)} {v : Value} {bs : List Nat} (h : DeepRow w ok m l pin v bs)
    (hb : ∀ b ∈ bs, w'.heap[b]? = w.heap[b]?) : DeepRow w' ok' m' l pin v bs := by
  rcases h with h | ⟨b, off, cap, C, e, h⟩
  · exact .inl h
  · exact .inr ⟨b, off, cap, C, e, h.mono hk hm hb⟩
theorem DeepRow.slice {w : World} {ok : Nat → Prop} {m : IMap} {l : List SG} {pin : Option (Nat × Nat)} {v : Value} {bs : List Nat} (h : DeepRow w ok m l pin v bs) : ∃ A n c, v = .slice A n c := by
  rcases h with ⟨rfl, _⟩ | ⟨b, off, cap, C, e, h⟩
  · exact ⟨_, _, _, rfl⟩
  · exact ⟨_, _, _, h.v⟩
def CRep (P : Program) (w : World) (ok : Nat → Prop) (m : IMap) : C → Impl → Prop
  | .cells ls, .var b => ∃ vs e, w.heap[b]? = some (.cells vs.toArray e (0, 0)) ∧ LReps P w ok m ls vs
  | .arr t xs, .arr v => OwnRow w ok t xs v
  | .app t xs, .arr v => OwnRow w ok t xs v
  | .app t xs, .shr v => (T.slice t).holds w ok xs [v] ∧ ∃ A, v = .slice A xs.length xs.length
  | .blk t xs c, .blk A c' => c = c' ∧ OwnRow w ok t xs (.slice A xs.length c)
  | .pm l pin, .obj b bs => (b :: bs).Nodup ∧ ∃ es clock, w.heap[b]? = some (.map es clock) ∧ PMap w m l pin bs es clock
  | .segs l pin, .deep v bs => bs.Nodup ∧ DeepRow w ok m l pin v bs
  | .map kt et l, .var b => (kt.flat && et.flat) = true ∧ ∃ es clock, w.heap[b]? = some (.map es clock) ∧ Ents w ok kt et l es.toList
  | _, _ => False
theorem CRep.mono {P : Program} {w w' : World} {ok ok' : Nat → Prop} {m m' : IMap} {c : C} {i : Impl} (hk : Keeps w w' ok ok') (hm : Ext m m') (hb : ∀ b, b ∈ i.blocks → w'.heap[b]? = w.heap[b]?)
    (h : CRep P w ok m c i) : CRep P w' ok' m' c i := by
  cases c <;> cases i <;> simp only [CRep] at h ⊢
  · obtain ⟨vs, e, h1, h2⟩ := h
    exact ⟨vs, e, (hb _ (by simp [Impl.blocks])).trans h1, h2.mono hk hm⟩
  · exact h.mono hk hb
  · exact h.mono hk hb
  · exact ⟨T.holds_mono (t := .slice _) hk h.1, h.2⟩
  · refine ⟨h.1, h.2.mono hk (fun b hb' => hb b ?_)⟩
    rename_i A c'
    cases A with
    | none => simp [Impl.blocks] at hb'
    | some a => simpa [Impl.blocks] using hb'
  · obtain ⟨h0, es, clock, h1, h2⟩ := h
    exact ⟨h0, es, clock, (hb _ (by simp [Impl.blocks])).trans h1, h2.mono hk⟩
  · obtain ⟨h0, es, clock, h1, h2⟩ := h
    exact ⟨h0, es, clock, (hb _ (by simp [Impl.blocks])).trans h1, h2.mono hm (fun b' hb' => hb b' (by simp [Impl.blocks, hb']))⟩
  · exact ⟨h.1, h.2.mono hk hm (fun b' hb' => hb b' (by simpa [Impl.blocks] using hb'))⟩

theorem CRep.shape {P : Program} {w : World} {ok : Nat → Prop} {m : IMap} {c : C} {i : Impl} (h : CRep P w ok m c i) : i.shape := by
  have own : ∀ {t : T} {xs : List t.den} {v : Value}, OwnRow w ok t xs v → ∃ A n c, v = .slice A n c := by
    intro t xs v h
    rcases h with ⟨rfl, _⟩ | ⟨b, C, e, fr, cap, rfl, _⟩ <;> exact ⟨_, _, _, rfl⟩
  cases c <;> cases i <;> simp only [CRep] at h
  · trivial
  · exact own h
  · exact own h
  · obtain ⟨_, A, rfl⟩ := h; exact ⟨_, _, _, rfl⟩
  · trivial
  · trivial
  · exact h.1
  · exact ⟨h.1, h.2.slice⟩

/-! ### The relation -/
/-- The tables stand. -/
def Tabs.fine [Tabs] (w : World) (ok : Nat → Prop) : Prop := ∀ g k zs, Tabs.at? g = some (k, zs) → ok g ∧ ∃ e fr, w.heap[g]? = some (.cells (zs.map (Value.int k)).toArray e fr)
theorem Tabs.fine.keeps [Tabs] {w w' : World} {ok ok' : Nat → Prop} (h : Tabs.fine w ok) (hk : Keeps w w' ok ok') : Tabs.fine w' ok' := fun g k zs e => by
  obtain ⟨h1, ty, fr, h2⟩ := h g k zs e
  exact ⟨(hk g h1).1, ty, fr, (hk g h1).2 _ _ _ h2⟩
theorem Tabs.fine.mono [Tabs] {w : World} {ok ok' : Nat → Prop} (h : Tabs.fine w ok) (hk : ∀ b, ok b → ok' b) : Tabs.fine w ok' := h.keeps (Keeps.weaken hk)
structure Entry [Tabs] where
  w0 : World
  ok0 : Nat → Prop
  V0 : Nat → Prop
  lent : Nat → Option Nat
  N : Nat
  keep : Nat → Option Value
  low : Nat
  lowOk : low ≤ w0.heap.size
  fine : Tabs.fine w0 fun b => ok0 b ∧ ¬ V0 b
/-- May a name be written? -/
def Entry.may [Tabs] (E : Entry) (n : Nat) : Prop := n < E.N ∧ E.keep n = none
def Vof (m : IMap) (μ : Nat → Option C) (b : Nat) : Prop := ∃ r c i, μ r = some c ∧ m r = some i ∧ b ∈ i.blocks
def okOf [Tabs] (E : Entry) (m : IMap) (μ : Nat → Option C) (w : World) (b : Nat) : Prop :=
  b < w.heap.size ∧ (E.ok0 b ∨ E.V0 b ∨ E.w0.heap.size ≤ b) ∧ ¬ Vof m μ b
/-- The marks that ranges over functions have left among the deferred calls. -/
def Marks (ok : Nat → Prop) (w : World) (l : List Deferred) : Prop := ∃ Ds : List Nat, l = Ds.map (fun D => { target := .collected D, args := #[] }) ∧ Ds.Nodup ∧ ∀ D ∈ Ds, ok D ∧ w.heap[D]? = some (.deferred (some []))
theorem Marks.keeps {ok ok' : Nat → Prop} {w w' : World} {l : List Deferred} (h : Marks ok w l) (hk : ∀ b, ok b → ok' b ∧ w'.heap[b]? = w.heap[b]?) : Marks ok' w' l := by
  obtain ⟨Ds, h1, h2, h3⟩ := h
  exact ⟨Ds, h1, h2, fun D hD => ⟨(hk D (h3 D hD).1).1, (hk D (h3 D hD).1).2.trans (h3 D hD).2⟩⟩
theorem Marks.nil {ok : Nat → Prop} {w : World} : Marks ok w [] := ⟨[], rfl, List.nodup_nil, fun _ h => by simp at h⟩
/-- A world that has gone on from another one, whose blocks but some stand. -/
structure Goes (V : Nat → Prop) (w w' : World) : Prop where
  os : w'.os = w.os
  tape : w'.tape = w.tape
  output : w'.output = w.output
  size : w.heap.size ≤ w'.heap.size
  block : ∀ b, b < w.heap.size → ¬ V b → w'.heap[b]? = w.heap[b]?
theorem Goes.refl (V : Nat → Prop) (w : World) : Goes V w w := ⟨rfl, rfl, rfl, Nat.le_refl _, fun _ _ _ => rfl⟩
theorem Goes.of_below {V : Nat → Prop} {w w' : World} (h : Below w.heap.size w w') : Goes V w w' := ⟨h.os, h.tape, h.output, h.size, fun b hb _ => h.block b hb⟩
theorem Goes.below {w w' : World} (h : Goes (fun _ => False) w w') : Below w.heap.size w w' := ⟨h.os, h.tape, h.output, h.size, fun b hb => h.block b hb (fun h => h)⟩
structure Rel [Tabs] (P : Program) (E : Entry) (m : IMap) (s : St) (a : Act) (w : World) : Prop where
  env : ∀ t, LRep P w (okOf E m s.mem w) m (s.env t) (a.tmps.getD t undef)
  mem : ∀ r c, s.mem r = some c → ∃ i, m r = some i ∧ CRep P w (okOf E m s.mem w) m c i ∧ ∀ b, b ∈ i.blocks → b < w.heap.size ∧ (E.V0 b ∨ E.w0.heap.size ≤ b)
  inj : ∀ r r' c c' i i' b, s.mem r = some c → s.mem r' = some c' → m r = some i → m r' = some i' → b ∈ i.blocks → b ∈ i'.blocks → r = r'
  used : ∀ r, m r ≠ none → s.used r = true
  lent : ∀ r, (s.mem r).isSome → lentBase ≤ r → ∃ b, E.lent r = some b ∧ (m r = some (.var b) ∨ ∃ bs, m r = some (.obj b bs))
  goes : Goes E.V0 E.w0 w
  size : a.tmps.size = E.N
  defers : Marks (fun b => okOf E m s.mem w b ∧ E.low ≤ b) w a.defers
  shape : ∀ r i, m r = some i → i.shape
  keep : ∀ t v, E.keep t = some v → a.tmps.getD t undef = v
def Rel' [Tabs] (P : Program) (E : Entry) (s : St) (a : Act) (w : World) : Prop := ∃ m, Rel P E m s a w

theorem Rel.eval [Tabs] {P : Program} {E : Entry} {m : IMap} {s : St} {a : Act} {w : World} (h : Rel P E m s a w) (x : Operand) : LRep P w (okOf E m s.mem w) m (ev s x) (a.eval x) := by
  cases x with
  | tmp t => exact h.env t
  | const v => exact absV_rep v
  | global g => rfl
  | func f => exact ⟨[], rfl, rfl⟩
theorem Rel.fine [Tabs] {P : Program} {E : Entry} {m : IMap} {s : St} {a : Act} {w : World} (h : Rel P E m s a w) : Tabs.fine w (okOf E m s.mem w) := fun g k zs e => by
  obtain ⟨⟨h1, h2⟩, ty, fr, h3⟩ := E.fine g k zs e
  have hlt : g < E.w0.heap.size := by
    rw [Array.getElem?_eq_some_iff] at h3
    exact h3.1
  refine ⟨⟨Nat.lt_of_lt_of_le hlt h.goes.size, .inl h1, ?_⟩, ty, fr, by rw [h.goes.block g hlt h2]; exact h3⟩
  rintro ⟨r, c, i, hr, hi, hb⟩
  obtain ⟨i', h4, _, h5⟩ := h.mem r c hr
  rw [hi] at h4
  obtain rfl := Option.some.inj h4
  rcases (h5 g hb).2 with h6 | h6
  · exact h2 h6
  · omega
theorem Rel.evals [Tabs] {P : Program} {E : Entry} {m : IMap} {s : St} {a : Act} {w : World} (h : Rel P E m s a w) : ∀ xs : List Operand, LReps P w (okOf E m s.mem w) m (xs.map (ev s)) (xs.map a.eval)
  | [] => rfl
  | x :: xs => ⟨a.eval x, xs.map a.eval, rfl, h.eval x, h.evals xs⟩
theorem Rel.put [Tabs] {P : Program} {E : Entry} {m : IMap} {s : St} {a : Act} {w : World} {l : L} {v : Value} {d : Option Nat} (h : Rel P E m s a w) (hl : LRep P w (okOf E m s.mem w) m l v)
    (hd : ∀ n, d = some n → E.may n) : Rel P E m (put s d l) (a.put d v) w := by
  cases d with
  | none => exact h
  | some d =>
    have hlt := (hd d rfl).1
    refine ⟨fun t => ?_, h.mem, h.inj, h.used, h.lent, h.goes, by simp [Act.put, h.size], h.defers, h.shape, fun t u hu => ?_⟩
    rotate_left
    · have hne : ¬ t = d := fun e => by rw [e, (hd d rfl).2] at hu; cases hu
      show (a.tmps.setIfInBounds d v).getD t undef = u
      rw [Array.getD_eq_getD_getElem?, Array.getElem?_setIfInBounds_ne (fun hh => hne hh.symm), ← Array.getD_eq_getD_getElem?]
      exact h.keep t u hu
    simp only [GG.put, Act.put]
    by_cases e : t = d
    · subst e
      have : (a.tmps.setIfInBounds t v).getD t undef = v := by
        rw [Array.getD_eq_getD_getElem?, Array.getElem?_setIfInBounds_self, if_pos (by rw [h.size]; exact hlt)]; rfl
      rw [this]
      simpa using hl
    · have h1 : (a.tmps.setIfInBounds d v).getD t undef = a.tmps.getD t undef := by
        rw [Array.getD_eq_getD_getElem?, Array.getElem?_setIfInBounds_ne (fun hh => e hh.symm), Array.getD_eq_getD_getElem?]
      have h2 : Nat.beq t d = false := by
        cases hb : Nat.beq t d with
        | false => rfl
        | true => exact absurd (Nat.eq_of_beq_eq_true hb) e
      rw [h1, h2]
      exact h.env t
/-- The one step by which memory turns: another world, another map of blocks, another abstract memory. -/
theorem Rel.turn [Tabs] {P : Program} {E : Entry} {m m' : IMap} {s : St} {μ' : Nat → Option C} {u' : Nat → Bool} {a : Act} {w w' : World} (h : Rel P E m s a w)
    (hm : Ext m m') (hu : ∀ r, m' r ≠ none → u' r = true)
    (hg : ∀ b, b < E.w0.heap.size → ¬ E.V0 b → w'.heap[b]? = w.heap[b]?) (hsz : w.heap.size ≤ w'.heap.size) (hos : w'.os = w.os) (htp : w'.tape = w.tape) (hout : w'.output = w.output)
    (hok : ∀ b, okOf E m s.mem w b → w'.heap[b]? = w.heap[b]? ∧ ¬ Vof m' μ' b)
    (hmem : ∀ r c, μ' r = some c → ∃ i, m' r = some i ∧ CRep P w' (okOf E m' μ' w') m' c i ∧ ∀ b, b ∈ i.blocks → b < w'.heap.size ∧ (E.V0 b ∨ E.w0.heap.size ≤ b))
    (hinj : ∀ r r' c c' i i' b, μ' r = some c → μ' r' = some c' → m' r = some i → m' r' = some i' → b ∈ i.blocks → b ∈ i'.blocks → r = r')
    (hl : ∀ r, (μ' r).isSome → lentBase ≤ r → (s.mem r).isSome) (hsh : ∀ r i, m' r = some i → i.shape) :
    Rel P E m' { s with mem := μ', used := u' } a w' := by
  have hk0 : ∀ b, okOf E m s.mem w b → okOf E m' μ' w' b ∧ w'.heap[b]? = w.heap[b]? := fun b hb => ⟨⟨Nat.lt_of_lt_of_le hb.1 hsz, hb.2.1, (hok b hb).2⟩, (hok b hb).1⟩
  have hk : Keeps w w' (okOf E m s.mem w) (okOf E m' μ' w') := Keeps.of hk0
  refine ⟨fun t => (h.env t).mono hk hm, hmem, hinj, hu, fun r hr hb => ?_, ?_, h.size, h.defers.keeps fun b hb => ⟨⟨(hk0 b hb.1).1, hb.2⟩, (hk0 b hb.1).2⟩, hsh, h.keep⟩
  · obtain ⟨b, h1, h2⟩ := h.lent r (hl r hr hb) hb
    exact ⟨b, h1, h2.imp hm.var (fun ⟨_, h⟩ => hm.obj h)⟩
  · exact ⟨hos.trans h.goes.os, htp.trans h.goes.tape, hout.trans h.goes.output, Nat.le_trans h.goes.size hsz, fun b hb hv => (hg b hb hv).trans (h.goes.block b hb hv)⟩
theorem Rel.keeps [Tabs] {P : Program} {E : Entry} {m : IMap} {s : St} {a : Act} {w w' : World} (_ : Rel P E m s a w) {m' : IMap} {μ' : Nat → Option C} (hsz : w.heap.size ≤ w'.heap.size)
    (hok : ∀ b, okOf E m s.mem w b → w'.heap[b]? = w.heap[b]? ∧ ¬ Vof m' μ' b) : Keeps w w' (okOf E m s.mem w) (okOf E m' μ' w') :=
  Keeps.of fun b hb => ⟨⟨Nat.lt_of_lt_of_le hb.1 hsz, hb.2.1, (hok b hb).2⟩, (hok b hb).1⟩
theorem Rel.grow [Tabs] {P : Program} {E : Entry} {m : IMap} {s : St} {a : Act} {w w' : World} (h : Rel P E m s a w) (hb : Below w.heap.size w w') : Rel P E m s a w' := by
  have hok : ∀ b, okOf E m s.mem w b → w'.heap[b]? = w.heap[b]? ∧ ¬ Vof m s.mem b := fun b hb' => ⟨hb.block b hb'.1, hb'.2.2⟩
  refine h.turn (Ext.refl m) h.used (fun b hb' _ => hb.block b (Nat.lt_of_lt_of_le hb' h.goes.size)) hb.size hb.os hb.tape hb.output hok (fun r c hc => ?_) h.inj (fun _ hr _ => hr) h.shape
  obtain ⟨i, h1, h2, h3⟩ := h.mem r c hc
  exact ⟨i, h1, h2.mono (h.keeps hb.size hok) (Ext.refl m) (fun b hb' => hb.block b (h3 b hb').1), fun b hb' => ⟨Nat.lt_of_lt_of_le (h3 b hb').1 hb.size, (h3 b hb').2⟩⟩
/-- Rows are given away: nothing turns, but that they are fine from now on. -/
theorem Rel.drop [Tabs] {P : Program} {E : Entry} {m : IMap} {s : St} {a : Act} {w : World} (h : Rel P E m s a w) {μ' : Nat → Option C} (hμ : ∀ r c, μ' r = some c → s.mem r = some c) :
    Rel P E m { s with mem := μ' } a w := by
  have hV : ∀ b, Vof m μ' b → Vof m s.mem b := fun b ⟨r, c, i, h1, h2, h3⟩ => ⟨r, c, i, hμ r c h1, h2, h3⟩
  have hok : ∀ b, okOf E m s.mem w b → w.heap[b]? = w.heap[b]? ∧ ¬ Vof m μ' b := fun b hb => ⟨rfl, fun hv => hb.2.2 (hV b hv)⟩
  refine h.turn (Ext.refl m) h.used (fun _ _ _ => rfl) (Nat.le_refl _) rfl rfl rfl hok (fun r c hc => ?_) (fun r r' c c' i i' b h1 h2 => h.inj r r' c c' i i' b (hμ _ _ h1) (hμ _ _ h2)) (fun r hr _ => ?_) h.shape
  · obtain ⟨i, h1, h2, h3⟩ := h.mem r c (hμ r c hc)
    exact ⟨i, h1, h2.mono (h.keeps (Nat.le_refl _) hok) (Ext.refl m) (fun _ _ => rfl), h3⟩
  · obtain ⟨c, hc⟩ := Option.isSome_iff_exists.1 hr
    simp [hμ r c hc]
end Go.GG

/- What the operations do, and that the machine does so: those that leave memory alone. -/
namespace Go.GG
open Go.RowKit

/-! ### Reading memory -/
def RM.ev {α : Type} : RM α → (Nat → Option C) → Option (α × List Nat)
  | .pure a, _ => some (a, [])
  | .fail, _ => none
  | .get r k, μ => ((k (μ r)).ev μ).map fun p => (p.1, r :: p.2)
  | .assume b m, μ => cond b (m.ev μ) none
  | .opt o k, μ => o.bind fun x => (k x).ev μ
  | .cases o m k, μ => o.elim (m.ev μ) fun x => (k x).ev μ
  | .br b m n, μ => cond b (m.ev μ) (n.ev μ)
theorem RM.run_ev {α R : Type} : ∀ {m : RM α} {μ : Nat → Option C} {rs : List Nat} {K : α → List Nat → Option R} {r : R}, m.run μ rs K = some r →
    ∃ a r1 r2, m.ev μ = some (a, r1) ∧ K a r2 = some r ∧ (∀ x ∈ r1, x ∈ r2) ∧ ∀ x ∈ rs, x ∈ r2
  | .pure a, _, rs, _, _, h => ⟨a, [], rs, rfl, h, by simp, fun _ hx => hx⟩
  | .get r k, μ, rs, _, _, h => by
    obtain ⟨a, r1, r2, h1, h2, h3, h4⟩ := RM.run_ev (m := k (μ r)) h
    exact ⟨a, r :: r1, r2, by simp [RM.ev, h1], h2, fun x hx => by cases hx with
      | head => exact h4 r (by simp)
      | tail _ hx => exact h3 x hx, fun x hx => h4 x (by simp [hx])⟩
  | .assume b m, μ, rs, _, _, h => by
    cases b with
    | false => simp [RM.run] at h
    | true => exact RM.run_ev (m := m) h
  | .opt o k, μ, rs, _, _, h => by
    cases o with
    | none => simp [RM.run] at h
    | some x => exact RM.run_ev (m := k x) h
  | .cases o m k, μ, rs, _, _, h => by
    cases o with
    | none => exact RM.run_ev (m := m) h
    | some x => exact RM.run_ev (m := k x) h
  | .br b m n, μ, rs, _, _, h => by
    cases b with
    | false => exact RM.run_ev (m := n) h
    | true => exact RM.run_ev (m := m) h
theorem RM.ev_local {α : Type} : ∀ {m : RM α} {μ μ' : Nat → Option C} {a : α} {rs : List Nat}, m.ev μ = some (a, rs) → (∀ r ∈ rs, μ' r = μ r) → m.ev μ' = some (a, rs)
  | .pure a, _, _, _, _, h, _ => h
  | .fail, _, _, _, _, h, _ => by simp [RM.ev] at h
  | .get r k, μ, μ', a, rs, h, hr => by
    simp only [RM.ev, Option.map_eq_some_iff] at h
    obtain ⟨⟨b, rs1⟩, h1, h2⟩ := h
    simp at h2
    obtain ⟨rfl, rfl⟩ := h2
    have e : μ' r = μ r := hr r (by simp)
    simp only [RM.ev, e, RM.ev_local h1 (fun x hx => hr x (by simp [hx])), Option.map_some]
  | .assume b m, μ, μ', a, rs, h, hr => by
    cases b with
    | false => simp [RM.ev] at h
    | true => exact RM.ev_local (m := m) h hr
  | .opt o k, μ, μ', a, rs, h, hr => by
    cases o with
    | none => simp [RM.ev] at h
    | some x => exact RM.ev_local (m := k x) h hr
  | .cases o m k, μ, μ', a, rs, h, hr => by
    cases o with
    | none => exact RM.ev_local (m := m) h hr
    | some x => exact RM.ev_local (m := k x) h hr
  | .br b m n, μ, μ', a, rs, h, hr => by
    cases b with
    | false => exact RM.ev_local (m := n) h hr
    | true => exact RM.ev_local (m := m) h hr
/-- It comes to this. -/
def Ev {α : Type} (m : RM α) (μ : Nat → Option C) (a : α) : Prop := ∃ rs, m.ev μ = some (a, rs)
section
variable {α β : Type} {μ : Nat → Option C}
theorem ev_pure {a b : α} : Ev (.pure a) μ b ↔ a = b := by simp [Ev, RM.ev]
theorem ev_fail {b : α} : Ev (.fail : RM α) μ b ↔ False := by simp [Ev, RM.ev]
theorem ev_get {r : Nat} {k : Option C → RM α} {b : α} : Ev (.get r k) μ b ↔ Ev (k (μ r)) μ b := by
  constructor
  · rintro ⟨rs, h⟩
    simp only [RM.ev, Option.map_eq_some_iff] at h
    obtain ⟨⟨c, rs1⟩, h1, h2⟩ := h
    simp at h2
    exact ⟨rs1, h2.1 ▸ h1⟩
  · rintro ⟨rs, h⟩
    exact ⟨r :: rs, by simp [RM.ev, h]⟩
theorem ev_assume {c : Bool} {m : RM α} {b : α} : Ev (.assume c m) μ b ↔ c = true ∧ Ev m μ b := by cases c <;> simp [Ev, RM.ev]
theorem ev_opt {γ : Type} {o : Option γ} {k : γ → RM α} {b : α} : Ev (.opt o k) μ b ↔ ∃ x, o = some x ∧ Ev (k x) μ b := by cases o <;> simp [Ev, RM.ev]
theorem ev_cases {γ : Type} {o : Option γ} {m : RM α} {k : γ → RM α} {b : α} : Ev (.cases o m k) μ b ↔ (o = none ∧ Ev m μ b) ∨ ∃ x, o = some x ∧ Ev (k x) μ b := by cases o <;> simp [Ev, RM.ev]
theorem ev_br {c : Bool} {m n : RM α} {b : α} : Ev (.br c m n) μ b ↔ (c = true ∧ Ev m μ b) ∨ (c = false ∧ Ev n μ b) := by cases c <;> simp [Ev, RM.ev]
theorem ev_lift {o : Option α} {b : α} : Ev (RM.lift o) μ b ↔ o = some b := by cases o <;> simp [RM.lift, ev_pure, ev_fail]
theorem ev_bind : ∀ {m : RM α} {f : α → RM β} {b : β}, Ev (m.bind f) μ b ↔ ∃ a, Ev m μ a ∧ Ev (f a) μ b
  | .pure a, f, b => by simp [RM.bind, ev_pure]
  | .fail, f, b => by simp [RM.bind, ev_fail]
  | .get r k, f, b => by simp only [RM.bind, ev_get]; exact ev_bind
  | .assume c m, f, b => by simp only [RM.bind, ev_assume, ev_bind (m := m)]; exact ⟨fun ⟨h1, a, h2, h3⟩ => ⟨a, ⟨h1, h2⟩, h3⟩, fun ⟨a, ⟨h1, h2⟩, h3⟩ => ⟨h1, a, h2, h3⟩⟩
  | .opt o k, f, b => by
    cases o with
    | none => simp [RM.bind, ev_opt]
    | some x => simp only [RM.bind, ev_opt, Option.some.injEq, exists_eq_left']; exact ev_bind
  | .cases o m k, f, b => by
    cases o with
    | none => simp [RM.bind, ev_cases]; exact ev_bind
    | some x => simp [RM.bind, ev_cases]; exact ev_bind
  | .br c m n, f, b => by
    cases c with
    | false => simp [RM.bind, ev_br]; exact ev_bind
    | true => simp [RM.bind, ev_br]; exact ev_bind
theorem ev_cond {c : Bool} {m n : RM α} {b : α} : Ev (cond c m n) μ b ↔ (c = true ∧ Ev m μ b) ∨ (c = false ∧ Ev n μ b) := by cases c <;> simp
end

/-! ### The program's types -/
def EqOk (P : Program) (t : TypeId) (T' : T) : Prop := P.eqGuardType P.depth t = false ∧ ∀ (x y : T'.den) cs cs' w ok, T'.holds w ok x cs → T'.holds w ok y cs' →
  (Op.equal t (.agg cs.toArray) (.agg cs'.toArray)).run P w = .ok (T'.eqb x y) w
def Value.isAggV : Value → Bool
  | .agg _ => true
  | _ => false
structure TOk (P : Program) (t : TypeId) (i : TI) : Prop where
  und : (P.underlying t).map summ = some i.kind
  info : (P.info? t).map (fun j => (j.size, j.bytes, j.zero.map Value.cells)) = some (i.size, i.bytes, some i.zero.toArray)
  len : i.zero.length = i.size
  zagg : (P.info? t).map (fun j => j.zero.map Value.isAggV) = some (some i.isAgg)
  eq : i.eq = true → ∀ T', i.t = some T' → EqOk P t T'
def TabOk (P : Program) (tab : Tab) : Prop := ∀ t i, tab.get t = some i → TOk P t i

theorem run_underlying {P : Program} {w : World} {t : TypeId} {d : TypeDesc} (h : P.underlying t = some d) : (underlying t).run P w = .ok d w := by
  simp [underlying, h]
theorem run_typeInfo {P : Program} {w : World} {t : TypeId} {d : TypeInfo} (h : P.info? t = some d) : (typeInfo t).run P w = .ok d w := by
  simp [typeInfo, h]
theorem TOk.desc {P : Program} {t : TypeId} {i : TI} (h : TOk P t i) : ∃ d, P.underlying t = some d ∧ summ d = i.kind := by
  have := h.und
  simpa [Option.map_eq_some_iff] using this
theorem TOk.inf {P : Program} {t : TypeId} {i : TI} (h : TOk P t i) : ∃ d, P.info? t = some d ∧ d.size = i.size ∧ d.bytes = i.bytes ∧ ∃ z, d.zero = some z ∧ z.cells = i.zero.toArray := by
  have := h.info
  simp only [Option.map_eq_some_iff, Prod.mk.injEq] at this
  obtain ⟨d, h1, h2, h3, z, h4, h5⟩ := this
  exact ⟨d, h1, h2, h3, z, h4, h5⟩
theorem run_sizeOf {P : Program} {w : World} {t : TypeId} {i : TI} (h : TOk P t i) : (sizeOf t).run P w = .ok i.size w := by
  obtain ⟨d, h1, h2, _⟩ := h.inf
  simp [sizeOf, run_typeInfo h1, h2]
theorem run_zeroValue {P : Program} {w : World} {t : TypeId} {i : TI} (h : TOk P t i) : ∃ z, (zeroValue t).run P w = .ok z w ∧ z.cells = i.zero.toArray := by
  obtain ⟨d, h1, _, _, z, h4, h5⟩ := h.inf
  exact ⟨z, by simp [zeroValue, run_typeInfo h1, h4], h5⟩
theorem run_isAgg {P : Program} {w : World} {t : TypeId} {i : TI} (h : TOk P t i) : (isAgg t).run P w = .ok i.isAgg w := by
  obtain ⟨d, h1, h2⟩ := h.desc
  simp only [isAgg, Sem.run_bind, run_underlying h1, Result.andThen_ok]
  simp only [TI.isAgg, ← h2]
  cases d <;> simp [summ]
theorem summ_slice {d : TypeDesc} {e : TypeId} (h : summ d = .slice e) : d = .slice e := by cases d <;> simp_all [summ]
theorem summ_str {d : TypeDesc} (h : summ d = .str) : d = .string := by cases d <;> simp_all [summ]
theorem summ_int {d : TypeDesc} {k : IntKind} (h : summ d = .int k) : d = .int k := by cases d <;> simp_all [summ]
theorem summ_bool {d : TypeDesc} (h : summ d = .bool) : d = .bool := by cases d <;> simp_all [summ]
theorem summ_array {d : TypeDesc} {n : Nat} {e : TypeId} (h : summ d = .array n e) : d = .array n e := by cases d <;> simp_all [summ]
theorem summ_ptr {d : TypeDesc} {e : TypeId} (h : summ d = .ptr e) : d = .pointer e := by cases d <;> simp_all [summ]
theorem summ_struct {d : TypeDesc} {fs : List (TypeId × Nat)} (h : summ d = .struct fs) : ∃ gs, d = .struct gs ∧ gs.toList.map (fun f => (f.type, f.offset)) = fs := by
  cases d <;> simp_all [summ]

/-! ### Operations -/
/-- The machine does so. -/
def Does [Tabs] (P : Program) (E : Entry) (o : Oper) (s : St) (a : Act) (w : World) (res : Res) : Prop :=
  ∀ (next : Act → World → Prop) (Q : Exit → Act → World → Prop), (∀ a' w', Rel' P E (apply s o.dst res) a' w' → next a' w') → o.wp P a w next Q
theorem apply_of (s : St) (d : Option Nat) (l : L) : apply s d (.of l) = put s d l := rfl
section
variable {τ : Tabs} {P : Program} {E : Entry} {m : IMap} {s : St} {a : Act} {w : World} {o : Oper}
theorem does_val {l : L} {v : Value} (h : Rel P E m s a w) (hd : ∀ n, o.dst = some n → E.may n) (hr : (execOp a.eval o).run P w = .ok (.value v) w)
    (hl : LRep P w (okOf E m s.mem w) m l v) : Does P E o s a w (.of l) := by
  intro next Q hn
  unfold Oper.wp
  rw [hr]
  exact hn _ _ ⟨m, h.put hl hd⟩
theorem does_turn {res : Res} {v : Value} {w' : World} {m' : IMap} (hd : ∀ n, o.dst = some n → E.may n) (hr : (execOp a.eval o).run P w = .ok (.value v) w')
    (h : Rel P E m' { s with mem := editMem res.edits s.mem, used := addUsed res.allocs s.used } a w') (hl : LRep P w' (okOf E m' (editMem res.edits s.mem) w') m' res.val v) : Does P E o s a w res := by
  intro next Q hn
  unfold Oper.wp
  rw [hr]
  exact hn _ _ ⟨m', h.put hl hd⟩
theorem does_skip {res : Res} {w' : World} {m' : IMap} (hd : ∀ n, o.dst = some n → E.may n) (hr : (execOp a.eval o).run P w = .ok .skip w')
    (h : Rel P E m' { s with mem := editMem res.edits s.mem, used := addUsed res.allocs s.used } a w') (hl : res.val = .skipped) : Does P E o s a w res := by
  intro next Q hn
  unfold Oper.wp
  rw [hr]
  exact hn _ _ ⟨m', h.put (by rw [hl]; rfl) hd⟩
end

/-! #### Arithmetic -/
theorem run_boundsIf {P : Program} {w : World} {k : IntKind} {i : Int} {y : Nat} {c : BoundsCode} (h : 0 ≤ i ∧ i ≤ y) : (if 0 ≤ i ∧ i ≤ (y : Int) then (pure i.toNat : Sem Nat) else boundsPanic k i y c).run P w = .ok i.toNat w := by
  rw [if_pos h]; rfl
end Go.GG

/- Operations that leave memory alone: the machine does so. -/
namespace Go.GG
open Go.RowKit
section
variable {P : Program} {w : World} {ok : Nat → Prop} {m : IMap} {μ : Nat → Option C}

theorem rep_int {k : IntKind} {n : Int} {v : Value} (h : LRep P w ok m (.val (.int k) n) v) : v = .int k n := by simpa [LRep, T.holds] using h
theorem rep_bool {b : Bool} {v : Value} (h : LRep P w ok m (.val .bool b) v) : v = .bool b := by simpa [LRep, T.holds] using h
theorem rep_str {s : List UInt8} {v : Value} (h : LRep P w ok m (.val .str s) v) : v = .string ⟨s.toArray⟩ := by simpa [LRep, T.holds] using h
theorem mk_int (k : IntKind) (n : Int) : LRep P w ok m (.val (.int k) n) (.int k n) := by simp [LRep, T.holds]
theorem mk_bool (b : Bool) : LRep P w ok m (.val .bool b) (.bool b) := by simp [LRep, T.holds]
theorem mk_str (s : List UInt8) : LRep P w ok m (.val .str s) (.string ⟨s.toArray⟩) := by simp [LRep, T.holds]

theorem eqGuard_ok (op : BinOp) (t : TypeId) (x y : Operand) (a b : Value) (h1 : ¬ (a = .nilIface ∧ b = .nilIface)) (h2 : ∀ xs ys, a = .agg xs → b = .agg ys → P.eqGuardType P.depth t = false) :
    (eqGuard op t x y a b).run P w = .ok () w := by
  unfold eqGuard
  cases op <;> first
    | rfl
    | (simp only [Bool.not_true, Bool.false_eq_true, if_false]
       split
       · exact absurd ⟨rfl, rfl⟩ h1
       · rename_i xs ys
         simp [h2 xs ys rfl rfl]
       · rfl)

theorem eqNeq_run {op : BinOp} {b : Bool} {l : L} {t : TypeId} {vx vy : Value} (he : Ev (eqNeq op b) μ l) (hq : (Op.equal t vx vy).run P w = .ok b w)
    (hne : ∀ k c, vx ≠ .int k c) (hnf : ∀ k c, vx ≠ .float k c) (hnc : ∀ k c d, vx ≠ .complex k c d) (hns : ∀ c, vx ≠ .string c) :
    ∃ v, (binOp op t vx vy).run P w = .ok v w ∧ LRep P w ok m l v := by
  cases op <;> simp only [eqNeq, ev_pure, ev_fail] at he
  · subst he
    refine ⟨.bool b, ?_, mk_bool _⟩
    cases vx <;> simp_all [binOp]
  · subst he
    refine ⟨.bool (!b), ?_, mk_bool _⟩
    cases vx <;> simp_all [binOp]

theorem equal_bool {t : TypeId} (h : P.underlying t = some .bool) (a b : Bool) : (Op.equal t (.bool a) (.bool b)).run P w = .ok (a == b) w := by
  unfold Op.equal Op.maxDepth
  rw [Op.equalIn]
  simp [run_underlying h]
theorem equal_ptr_nil {t e : TypeId} (h : P.underlying t = some (.pointer e)) (a : Option Addr) : (Op.equal t (.pointer a) (.pointer none)).run P w = .ok a.isNone w := by
  unfold Op.equal Op.maxDepth
  rw [Op.equalIn]
  cases a <;> simp [run_underlying h]
theorem equal_nil_ptr {t e : TypeId} (h : P.underlying t = some (.pointer e)) (a : Option Addr) : (Op.equal t (.pointer none) (.pointer a)).run P w = .ok a.isNone w := by
  unfold Op.equal Op.maxDepth
  rw [Op.equalIn]
  simp [run_underlying h]
theorem equal_slice_nil {t e : TypeId} (h : P.underlying t = some (.slice e)) (a : Option Addr) (n c : Nat) : (Op.equal t (.slice a n c) (.slice none 0 0)).run P w = .ok a.isNone w := by
  unfold Op.equal Op.maxDepth
  rw [Op.equalIn]
  cases a <;> simp [run_underlying h]
theorem equal_nil_slice {t e : TypeId} (h : P.underlying t = some (.slice e)) (a : Option Addr) (n c : Nat) : (Op.equal t (.slice none 0 0) (.slice a n c)).run P w = .ok a.isNone w := by
  unfold Op.equal Op.maxDepth
  rw [Op.equalIn]
  simp [run_underlying h]

theorem equal_map_nil {t k e : TypeId} (h : P.underlying t = some (.map k e)) (a : Option Nat) : (Op.equal t (.map a) (.map none)).run P w = .ok a.isNone w := by
  unfold Op.equal Op.maxDepth
  rw [Op.equalIn]
  cases a <;> simp [run_underlying h]
theorem equal_nil_map {t k e : TypeId} (h : P.underlying t = some (.map k e)) (a : Option Nat) : (Op.equal t (.map none) (.map a)).run P w = .ok a.isNone w := by
  unfold Op.equal Op.maxDepth
  rw [Op.equalIn]
  simp [run_underlying h]
theorem summ_mapE {k e : TypeId} {d : TypeDesc} (h : summ d = .map k e) : d = .map k e := by
  cases d <;> simp_all [summ]

/-- What is known of the state's rows. -/
def MemOk (P : Program) (w : World) (ok : Nat → Prop) (m : IMap) (μ : Nat → Option C) : Prop := ∀ r c, μ r = some c → ∃ i, m r = some i ∧ CRep P w ok m c i
theorem slice_form {t : T} {xs : List t.den} {v : Value} (h : (T.slice t).holds w ok xs [v]) : ∃ A c, v = .slice A xs.length c ∧ (xs ≠ [] → A.isSome) := by
  simp only [T.holds] at h
  obtain ⟨A, c, hv, _, h⟩ := h
  refine ⟨A, c, by simpa using hv, fun hx => ?_⟩
  rcases h with h | ⟨b, off, C, e, fr, rfl, _⟩
  · exact absurd h.1 hx
  · rfl
theorem rowOf_some {c : Option C} {t : T} {xs : List t.den} (h : rowOf c = some ⟨t, xs⟩) : c = some (.arr t xs) ∨ c = some (.app t xs) := by
  unfold rowOf at h
  split at h <;> simp at h
  · obtain ⟨rfl, h⟩ := h; exact .inl (by simpa using h)
  · obtain ⟨rfl, h⟩ := h; exact .inr (by simpa using h)
theorem own_form {t : T} {xs : List t.den} {v : Value} (h : OwnRow w ok t xs v) : ∃ A c, v = .slice A xs.length c ∧ xs.length ≤ c ∧ (xs ≠ [] → A.isSome) := by
  rcases h with ⟨rfl, rfl⟩ | ⟨b, C, e, fr, cap, rfl, h1, _⟩
  · exact ⟨none, 0, rfl, Nat.le_refl _, fun h => absurd rfl h⟩
  · exact ⟨_, cap, rfl, h1, fun _ => rfl⟩
/-- A row of the state's own, as a value. -/
theorem sref_form (hm : MemOk P w ok m μ) {r : Nat} {t : T} {xs : List t.den} {v : Value} (h : rowOf (μ r) = some ⟨t, xs⟩) (hv : LRep P w ok m (.sref r) v) :
    ∃ A c, v = .slice A xs.length c ∧ (xs ≠ [] → A.isSome) := by
  simp only [LRep] at hv
  rcases rowOf_some h with h | h <;> (obtain ⟨i, h1, h2⟩ := hm _ _ h; rw [h1] at hv; rcases hv with hv | hv <;> (simp at hv; subst hv; simp only [CRep] at h2))
  · obtain ⟨A, c, h3, _, h4⟩ := own_form h2; exact ⟨A, c, h3, h4⟩
  · obtain ⟨A, c, h3, _, h4⟩ := own_form h2; exact ⟨A, c, h3, h4⟩
  · exact slice_form h2.1
theorem dref_form (hm : MemOk P w ok m μ) {r : Nat} {l : List SG} {pin : Option (Nat × Nat)} {v : Value} (h : μ r = some (.segs l pin)) (hv : LRep P w ok m (.dref r) v) :
    ∃ bs, m r = some (.deep v bs) ∧ bs.Nodup ∧ DeepRow w ok m l pin v bs := by
  obtain ⟨bs, hv⟩ := hv
  obtain ⟨i, h1, h2⟩ := hm _ _ h
  rw [hv] at h1; simp at h1; subst h1
  exact ⟨bs, hv, h2.1, h2.2⟩
theorem elemsAny_form (hm : MemOk P w ok m μ) {l : L} {t : T} {xs : List t.den} {v : Value} (h : Ev (elemsAny l) μ ⟨t, xs⟩) (hv : LRep P w ok m l v) :
    ∃ A c, v = .slice A xs.length c ∧ (xs ≠ [] → A.isSome) := by
  cases l
  case val t' x =>
    cases t' <;> simp only [elemsAny, ev_fail, ev_pure, Sigma.mk.injEq] at h
    obtain ⟨rfl, h⟩ := h
    obtain rfl := eq_of_heq h
    exact slice_form hv
  all_goals simp only [elemsAny, ev_fail] at h
  · simp only [ev_pure, Sigma.mk.injEq] at h; obtain ⟨rfl, h⟩ := h; obtain rfl := eq_of_heq h; exact slice_form hv.1
  · simp only [ev_pure, Sigma.mk.injEq] at h; obtain ⟨rfl, h⟩ := h; obtain rfl := eq_of_heq h; exact slice_form hv.1
  · rw [ev_get] at h
    split at h <;> simp only [ev_fail, ev_pure, Sigma.mk.injEq] at h
    rename_i hr
    obtain ⟨rfl, h⟩ := h
    obtain rfl := eq_of_heq h
    exact sref_form hm hr hv

theorem isNils_form (hm : MemOk P w ok m μ) {l : L} {b : Bool} {v : Value} (h : Ev (isNils l) μ b) (hv : LRep P w ok m l v) : ∃ A n c, v = .slice A n c ∧ A.isNone = b := by
  cases l
  case val t' x =>
    cases t' <;> simp only [isNils, ev_fail, ev_pure, ev_assume] at h
    obtain ⟨h1, rfl⟩ := h
    obtain ⟨A, c, rfl, h2⟩ := slice_form hv
    exact ⟨A, _, c, rfl, by have := h2 (by rintro rfl; simp at h1); cases A <;> simp_all⟩
  all_goals simp only [isNils, ev_fail] at h
  · simp only [ev_pure] at h; subst h
    obtain ⟨a, n, c, rfl⟩ := hv.2
    exact ⟨some a, n, c, rfl, rfl⟩
  · simp only [ev_pure] at h; subst h
    simp only [LRep] at hv; subst hv
    exact ⟨none, 0, 0, rfl, rfl⟩
  · simp only [ev_assume, ev_pure] at h
    obtain ⟨h1, rfl⟩ := h
    obtain ⟨A, c, rfl, h2⟩ := slice_form hv.1
    exact ⟨A, _, c, rfl, by have := h2 (by rintro rfl; simp at h1); cases A <;> simp_all⟩
  · rw [ev_get] at h
    split at h <;> simp only [ev_fail, ev_pure, ev_assume] at h
    rename_i hr
    obtain ⟨h1, rfl⟩ := h
    obtain ⟨A, c, rfl, h2⟩ := sref_form hm hr hv
    exact ⟨A, _, c, rfl, by have := h2 (by rintro rfl; simp at h1); cases A <;> simp_all⟩
theorem isNilp_form {l : L} {b : Bool} {v : Value} (h : Ev (isNilp l) μ b) (hv : LRep P w ok m l v) : ∃ A, v = .pointer A ∧ A.isNone = b := by
  cases l
  case val t x =>
    cases t <;> simp only [isNilp, ev_fail, ev_pure] at h
    · subst h
      rcases hv with ⟨rfl, hv⟩ | ⟨y, b, off, _, _, _, _, rfl, hv, _⟩ <;> (simp only [List.cons.injEq, and_true] at hv; subst hv; exact ⟨_, rfl, rfl⟩)
    · subst h
      rcases hv with ⟨rfl, hv⟩ | ⟨y, rfl, hv⟩ <;> (simp only [List.cons.injEq, and_true] at hv; subst hv; exact ⟨_, rfl, rfl⟩)
    · subst h
      simp only [LRep, T.holds, List.cons.injEq, and_true] at hv; subst hv; exact ⟨_, rfl, rfl⟩
  all_goals (simp only [isNilp, ev_fail, ev_pure] at h; try (subst h; simp only [LRep] at hv))
  · obtain ⟨b, _, rfl⟩ := hv; exact ⟨_, rfl, rfl⟩
  · subst hv; exact ⟨_, rfl, rfl⟩
  · obtain ⟨b, o, _, _, _, _, rfl, _⟩ := hv; exact ⟨_, rfl, rfl⟩
  · obtain ⟨b, o, _, _, _, rfl⟩ := hv; exact ⟨_, rfl, rfl⟩
  · obtain ⟨b, _, _, _, rfl, _⟩ := hv; exact ⟨_, rfl, rfl⟩
theorem isNilm_form {l : L} {b : Bool} {v : Value} (h : Ev (isNilm l) μ b) (hv : LRep P w ok m l v) : ∃ A, v = .map A ∧ A.isNone = b := by
  cases l <;> simp only [isNilm, ev_fail, ev_pure] at h <;> subst h <;> simp only [LRep] at hv
  · obtain ⟨b, _, rfl⟩ := hv; exact ⟨_, rfl, rfl⟩
  · subst hv; exact ⟨_, rfl, rfl⟩

theorem kindIs_spec {i? : Option TI} {f : TK → Bool} (h : kindIs i? f = true) : ∃ i, i? = some i ∧ f i.kind = true := by
  cases i? with
  | none => simp [kindIs] at h
  | some i => exact ⟨i, rfl, h⟩
theorem strOp_run {op : BinOp} {a b : List UInt8} {l : L} (he : Ev (binStr op a b) μ l) : ∃ v, (Op.stringOp op ⟨a.toArray⟩ ⟨b.toArray⟩).run P w = .ok v w ∧ LRep P w ok m l v := by
  have e1 : (ByteArray.mk a.toArray).toList = a := ByteArray.toList_mk a
  have e2 : (ByteArray.mk b.toArray).toList = b := ByteArray.toList_mk b
  cases op <;> simp only [binStr, ev_fail, ev_pure, ev_assume] at he
  · obtain ⟨h1, rfl⟩ := he
    refine ⟨.string ⟨(a ++ b).toArray⟩, ?_, mk_str _⟩
    have h2 : ¬ (((ByteArray.mk a.toArray).size + (ByteArray.mk b.toArray).size : Nat) : Int) > IntKind.i64.max := by
      have : IntKind.i64.max = 9223372036854775807 := by decide
      simp only [ByteArray.size, List.size_toArray, this]
      have := Nat.le_of_ble_eq_true h1
      omega
    simp only [Op.stringOp]
    rw [if_neg h2]
    simp only [Sem.run_pure]
    congr 2
  all_goals (subst he; refine ⟨_, ?_, mk_bool _⟩; simp [Op.stringOp, e1, e2, strLess])
theorem shift_run {op : BinOp} {k yk : IntKind} {a b : Int} {l : L} (he : Ev (binShift op k a b) μ l) : ∃ v, (Op.shift op k a yk b).run P w = .ok v w ∧ LRep P w ok m l v := by
  cases op <;> simp only [binShift, ev_fail, ev_assume, ev_pure] at he
  all_goals
    obtain ⟨h1, rfl⟩ := he
    have h2 : ¬ b < 0 := by have := of_decide_eq_true h1; omega
    refine ⟨_, ?_, mk_int _ _⟩
    simp [Op.shift, h2, shlv, shrv]
theorem int_run {op : BinOp} {k : IntKind} {a b : Int} {l : L} {t : TypeId} (he : Ev (binInt op k a b) μ l) : ∃ v, (binOp op t (.int k a) (.int k b)).run P w = .ok v w ∧ LRep P w ok m l v := by
  cases op <;> simp only [binInt, ev_fail, ev_assume, ev_pure] at he
  case quo => obtain ⟨h1, rfl⟩ := he; exact ⟨_, by simp [binOp, Op.intDiv, bne_iff_ne.1 h1], mk_int _ _⟩
  case rem => obtain ⟨h1, rfl⟩ := he; exact ⟨_, by simp [binOp, Op.intDiv, bne_iff_ne.1 h1], mk_int _ _⟩
  all_goals
    subst he
    first
      | (refine ⟨_, ?_, mk_int _ _⟩; simp only [binOp, ne_eq, not_true_eq_false, if_false]; rfl)
      | (refine ⟨_, ?_, mk_bool _⟩; simp only [binOp, ne_eq, not_true_eq_false, if_false]; rfl)

theorem equal_nili {t : TypeId} {ms : Array (String × TypeId)} (h : P.underlying t = some (.interface ms)) : (Op.equal t .nilIface .nilIface).run P w = .ok true w := by
  unfold Op.equal Op.maxDepth
  rw [Op.equalIn]
  simp [run_underlying h]
theorem nili_run {tab : Tab} (ht : TabOk P tab) {t : TypeId} {op : BinOp} {l : L} {x y : Operand} (hk : kindIs (tab.get t) TK.isIface = true) (hy : isConst y = true) (he : Ev (eqNeq op true) μ l) :
    ∃ v, (eqGuard op t x y .nilIface .nilIface >>= fun _ => binOp op t .nilIface .nilIface).run P w = .ok v w ∧ LRep P w ok m l v := by
  obtain ⟨i, hi, hk⟩ := kindIs_spec hk
  obtain ⟨d, hd, hs⟩ := (ht t i hi).desc
  have hki : i.kind = .iface := by cases h : i.kind <;> simp_all [TK.isIface]
  rw [hki] at hs
  obtain ⟨ms, rfl⟩ : ∃ ms, d = .interface ms := by cases d <;> simp_all [summ]
  cases y <;> simp only [isConst, Bool.false_eq_true] at hy
  have hg : (eqGuard op t x (.const ‹Value›) .nilIface .nilIface).run P w = .ok () w := by
    unfold eqGuard
    cases op <;> simp
  rw [Sem.run_bind, hg]
  simp only [Result.andThen_ok]
  exact eqNeq_run he (equal_nili hd) (by simp) (by simp) (by simp) (by simp)
theorem binop_run (hm : MemOk P w ok m μ) {tab : Tab} (ht : TabOk P tab) {t : TypeId} {op : BinOp} {lx ly l : L} {vx vy : Value} {x y : Operand} (he : Ev (binop (tab.get t) op lx ly) μ l)
    (hx : LRep P w ok m lx vx) (hy : LRep P w ok m ly vy) : ∃ v, (eqGuard op t x y vx vy >>= fun _ => binOp op t vx vy).run P w = .ok v w ∧ LRep P w ok m l v := by
  have hz : ∀ i, tab.get t = some i → TOk P t i := fun i hi => ht t i hi
  unfold binop at he
  split at he
  · have := rep_int hx; subst this
    have := rep_int hy; subst this
    rw [Sem.run_bind, eqGuard_ok _ _ _ _ _ _ (by simp) (by simp)]
    simp only [Result.andThen_ok]
    rename_i k a k' b
    cases op
    case shl => exact shift_run (yk := k') he
    case shr => exact shift_run (yk := k') he
    all_goals
      simp only at he
      split at he
      · rename_i e; subst e; exact int_run he
      · simp [ev_fail] at he
  · have := rep_str hx; subst this
    have := rep_str hy; subst this
    rw [Sem.run_bind, eqGuard_ok _ _ _ _ _ _ (by simp) (by simp)]
    simp only [Result.andThen_ok]
    have e : ∀ a b, binOp op t (.string a) (.string b) = Op.stringOp op a b := by intro a b; cases op <;> rfl
    rw [e]
    exact strOp_run he
  · have := rep_bool hx; subst this
    have := rep_bool hy; subst this
    rw [Sem.run_bind, eqGuard_ok _ _ _ _ _ _ (by simp) (by simp)]
    simp only [Result.andThen_ok]
    simp only [ev_cond, ev_fail, and_false, or_false] at he
    obtain ⟨hk, he⟩ := he
    obtain ⟨i, hi, hk⟩ := kindIs_spec hk
    obtain ⟨d, hd, hs⟩ := (hz i hi).desc
    have : i.kind = .bool := by cases h : i.kind <;> simp_all [TK.isBool]
    rw [this] at hs
    rw [summ_bool hs] at hd
    exact eqNeq_run he (equal_bool hd _ _) (by simp) (by simp) (by simp) (by simp)
  · obtain ⟨cs, rfl, hx⟩ := hx
    obtain ⟨cs', rfl, hy⟩ := hy
    split at he
    · simp [ev_fail] at he
    · rename_i i hi
      split at he
      · simp [ev_fail] at he
      · rename_i T' hT
        simp only [ev_cond, ev_fail, and_false, or_false, ev_bind, ev_lift] at he
        obtain ⟨hq, x', hx', y', hy', he⟩ := he
        obtain ⟨hg, hq⟩ := (hz i hi).eq (by simp_all) T' hT
        rw [Sem.run_bind, eqGuard_ok _ _ _ _ _ _ (by simp) (fun _ _ _ _ => hg)]
        simp only [Result.andThen_ok]
        exact eqNeq_run he (hq x' y' cs cs' w ok (implode_holds hx' hx) (implode_holds hy' hy)) (by simp) (by simp) (by simp) (by simp)
  · simp only [LRep] at hx; subst hx
    simp only [ev_cond, ev_fail, and_false, or_false, ev_bind] at he
    obtain ⟨hk, b, hb, he⟩ := he
    obtain ⟨i, hi, hk⟩ := kindIs_spec hk
    obtain ⟨d, hd, hs⟩ := (hz i hi).desc
    obtain ⟨e, hkk⟩ : ∃ e, i.kind = .ptr e := by cases h : i.kind <;> simp_all [TK.isPtr]
    rw [hkk] at hs
    rw [summ_ptr hs] at hd
    obtain ⟨A, rfl, hA⟩ := isNilp_form hb hy
    rw [Sem.run_bind, eqGuard_ok _ _ _ _ _ _ (by simp) (by simp)]
    simp only [Result.andThen_ok]
    exact eqNeq_run he (hA ▸ equal_nil_ptr hd A) (by simp) (by simp) (by simp) (by simp)
  · simp only [LRep] at hy; subst hy
    simp only [ev_cond, ev_fail, and_false, or_false, ev_bind] at he
    obtain ⟨hk, b, hb, he⟩ := he
    obtain ⟨i, hi, hk⟩ := kindIs_spec hk
    obtain ⟨d, hd, hs⟩ := (hz i hi).desc
    obtain ⟨e, hkk⟩ : ∃ e, i.kind = .ptr e := by cases h : i.kind <;> simp_all [TK.isPtr]
    rw [hkk] at hs
    rw [summ_ptr hs] at hd
    obtain ⟨A, rfl, hA⟩ := isNilp_form hb hx
    rw [Sem.run_bind, eqGuard_ok _ _ _ _ _ _ (by simp) (by simp)]
    simp only [Result.andThen_ok]
    exact eqNeq_run he (hA ▸ equal_ptr_nil hd A) (by simp) (by simp) (by simp) (by simp)
  · simp only [LRep] at hx; subst hx
    simp only [ev_cond, ev_fail, and_false, or_false, ev_bind] at he
    obtain ⟨hk, b, hb, he⟩ := he
    obtain ⟨i, hi, hk⟩ := kindIs_spec hk
    obtain ⟨d, hd, hs⟩ := (hz i hi).desc
    obtain ⟨e, hkk⟩ : ∃ e, i.kind = .slice e := by cases h : i.kind <;> simp_all [TK.isSlice]
    rw [hkk] at hs
    rw [summ_slice hs] at hd
    obtain ⟨A, n, c, rfl, hA⟩ := isNils_form hm hb hy
    rw [Sem.run_bind, eqGuard_ok _ _ _ _ _ _ (by simp) (by simp)]
    simp only [Result.andThen_ok]
    exact eqNeq_run he (hA ▸ equal_nil_slice hd A n c) (by simp) (by simp) (by simp) (by simp)
  · simp only [LRep] at hy; subst hy
    simp only [ev_cond, ev_fail, and_false, or_false, ev_bind] at he
    obtain ⟨hk, b, hb, he⟩ := he
    obtain ⟨i, hi, hk⟩ := kindIs_spec hk
    obtain ⟨d, hd, hs⟩ := (hz i hi).desc
    obtain ⟨e, hkk⟩ : ∃ e, i.kind = .slice e := by cases h : i.kind <;> simp_all [TK.isSlice]
    rw [hkk] at hs
    rw [summ_slice hs] at hd
    obtain ⟨A, n, c, rfl, hA⟩ := isNils_form hm hb hx
    rw [Sem.run_bind, eqGuard_ok _ _ _ _ _ _ (by simp) (by simp)]
    simp only [Result.andThen_ok]
    exact eqNeq_run he (hA ▸ equal_slice_nil hd A n c) (by simp) (by simp) (by simp) (by simp)
  · simp only [LRep] at hx; subst hx
    simp only [ev_cond, ev_fail, and_false, or_false, ev_bind] at he
    obtain ⟨hk, b, hb, he⟩ := he
    obtain ⟨i, hi, hk⟩ := kindIs_spec hk
    obtain ⟨d, hd, hs⟩ := (hz i hi).desc
    obtain ⟨k, e, hkk⟩ : ∃ k e, i.kind = .map k e := by cases h : i.kind <;> simp_all [TK.isMap]
    rw [hkk] at hs
    rw [summ_mapE hs] at hd
    obtain ⟨A, rfl, hA⟩ := isNilm_form hb hy
    rw [Sem.run_bind, eqGuard_ok _ _ _ _ _ _ (by simp) (by simp)]
    simp only [Result.andThen_ok]
    exact eqNeq_run he (hA ▸ equal_nil_map hd A) (by simp) (by simp) (by simp) (by simp)
  · simp only [LRep] at hy; subst hy
    simp only [ev_cond, ev_fail, and_false, or_false, ev_bind] at he
    obtain ⟨hk, b, hb, he⟩ := he
    obtain ⟨i, hi, hk⟩ := kindIs_spec hk
    obtain ⟨d, hd, hs⟩ := (hz i hi).desc
    obtain ⟨k, e, hkk⟩ : ∃ k e, i.kind = .map k e := by cases h : i.kind <;> simp_all [TK.isMap]
    rw [hkk] at hs
    rw [summ_mapE hs] at hd
    obtain ⟨A, rfl, hA⟩ := isNilm_form hb hx
    rw [Sem.run_bind, eqGuard_ok _ _ _ _ _ _ (by simp) (by simp)]
    simp only [Result.andThen_ok]
    exact eqNeq_run he (hA ▸ equal_map_nil hd A) (by simp) (by simp) (by simp) (by simp)
  · simp [ev_fail] at he

theorem unop_run {op : UnOp} {lx l : L} {vx : Value} (he : Ev (unop op lx) μ l) (hx : LRep P w ok m lx vx) : ∃ v, (Op.unary op vx).run P w = .ok v w ∧ LRep P w ok m l v := by
  unfold unop at he
  split at he
  · have := rep_bool hx; subst this
    cases op <;> simp only [ev_fail, ev_pure] at he
    subst he; exact ⟨_, by simp [Op.unary], mk_bool _⟩
  · have := rep_int hx; subst this
    cases op <;> simp only [ev_fail, ev_pure] at he
    · subst he; exact ⟨_, by simp [Op.unary, Op.intArith], mk_int _ _⟩
    · subst he; exact ⟨_, rfl, mk_int _ _⟩
  · simp [ev_fail] at he
end
end Go.GG

/- Reading memory, addresses, slices, strings: the machine does so. -/
namespace Go.GG
open Go.RowKit
section
variable {P : Program} {w : World} {ok : Nat → Prop} {m : IMap} {μ : Nat → Option C}

theorem cell_of {b o : Nat} {C : Array Value} {e : TypeId} {fr : Nat × Nat} (h : w.heap[b]? = some (.cells C e fr)) : w.cell? ⟨b, o, none⟩ = C[o]? := by
  simp [World.cell?, h]
theorem add_plain (b o j : Nat) : (⟨b, o, none⟩ : Addr).add j = ⟨b, o + j, none⟩ := by
  unfold Addr.add
  split
  · simp_all
  · rfl
theorem loadVar_run {t : TypeId} {i : TI} (ht : TOk P t i) {b o off : Nat} {C : Array Value} {e : TypeId} {fr : Nat × Nat} (hb : w.heap[b]? = some (.cells C e fr)) {ls : List L} {vs : List Value}
    (hl : LReps P w ok m ls vs) (hc : ∀ j v, vs[j]? = some v → C[o + j]? = some v) {l : L} (he : Ev (loadLs i ls off) μ l) :
    ∃ v, (loadVar t ⟨b, o + off, none⟩).run P w = .ok v w ∧ LRep P w ok m l v := by
  unfold loadLs at he
  simp only [loadVar, Sem.run_bind, run_isAgg ht, Result.andThen_ok]
  rw [ev_cond] at he
  rcases he with ⟨ha, he⟩ | ⟨ha, he⟩
  · rw [ev_cond, ev_fail, ev_pure] at he
    obtain ⟨hs, rfl⟩ := he.resolve_right (by simp)
    have hs' : off + i.size ≤ ls.length := Nat.le_of_ble_eq_true hs
    have hlen := hl.length
    have hv : LReps P w ok m ((ls.drop off).take i.size) ((vs.drop off).take i.size) := (hl.drop off).take i.size
    have hcl : ∀ j v, ((vs.drop off).take i.size)[j]? = some v → w.cell? ((⟨b, o + off, none⟩ : Addr).add j) = some v := by
      intro j v hj
      rw [List.getElem?_take] at hj
      split at hj
      · rw [List.getElem?_drop] at hj
        rw [add_plain, cell_of hb, Nat.add_assoc]
        exact hc _ _ hj
      · simp at hj
    have hr := run_loadCells_list (P := P) (w := w) ⟨b, o + off, none⟩ ((vs.drop off).take i.size) hcl
    have hn : ((vs.drop off).take i.size).length = i.size := by simp [hlen]; omega
    rw [hn] at hr
    refine ⟨.agg ((vs.drop off).take i.size).toArray, ?_, ⟨_, rfl, hv⟩⟩
    simp [ha, run_sizeOf ht, hr]
  · split at he
    · rename_i l' hl'
      rw [ev_pure] at he; subst he
      obtain ⟨v, hv, hr⟩ := hl.get hl'
      refine ⟨v, ?_, hr⟩
      simp [ha, cell_of hb, hc _ _ hv]
    · simp [ev_fail] at he

/-- A row, wherever it lies. -/
theorem own_at {t : T} {xs : List t.den} {b o n c : Nat} (h : OwnRow w ok t xs (.slice (some ⟨b, o, none⟩) n c)) {i : Nat} {x : t.den} (hi : xs[i]? = some x) :
    ∃ C e fr ds, w.heap[b]? = some (.cells C e fr) ∧ t.holds w ok x ds ∧ ∀ j u, ds[j]? = some u → C[o + i * t.cnt + j]? = some u := by
  rcases h with ⟨h, _⟩ | ⟨b', C, e, fr, cap, h, h1, h2, h3, h4, h5⟩
  · simp at h
  · simp only [Value.slice.injEq, Option.some.injEq, Addr.mk.injEq] at h
    obtain ⟨⟨rfl, rfl, _⟩, _, _⟩ := h
    obtain ⟨ds, hd, hj⟩ := h5 i x hi
    exact ⟨C, e, fr, ds, h3, hd, fun j u hu => by rw [Nat.zero_add]; exact hj j u hu⟩
theorem imm_at {t : T} {xs : List t.den} {A : Option Addr} {n c : Nat} (h : (T.slice t).holds w ok xs [.slice A n c]) {i : Nat} {x : t.den} (hi : xs[i]? = some x) :
    ∃ b o C e fr ds, A = some ⟨b, o, none⟩ ∧ ok b ∧ w.heap[b]? = some (.cells C e fr) ∧ t.holds w ok x ds ∧ ∀ j u, ds[j]? = some u → C[o + i * t.cnt + j]? = some u := by
  simp only [T.holds] at h
  obtain ⟨A', c', hv, _, h⟩ := h
  simp only [List.cons.injEq, and_true, Value.slice.injEq] at hv
  obtain ⟨rfl, rfl, rfl⟩ := hv
  rcases h with ⟨rfl, _⟩ | ⟨b, off, C, e, fr, rfl, hb, hh, hx⟩
  · simp at hi
  · obtain ⟨ds, hd, hj⟩ := hx i x hi
    exact ⟨b, off, C, e, fr, ds, rfl, hb, hh, hd, hj⟩
theorem rowOf_at (hm : MemOk P w ok m μ) {r : Nat} {t : T} {xs : List t.den} (h : rowOf (μ r) = some ⟨t, xs⟩) {b o n c : Nat} (hv : LRep P w ok m (.sref r) (.slice (some ⟨b, o, none⟩) n c)) {i : Nat} {x : t.den} (hi : xs[i]? = some x) :
    ∃ C e fr ds, w.heap[b]? = some (.cells C e fr) ∧ t.holds w ok x ds ∧ ∀ j u, ds[j]? = some u → C[o + i * t.cnt + j]? = some u := by
  simp only [LRep] at hv
  rcases rowOf_some h with h | h <;> (obtain ⟨im, h1, h2⟩ := hm _ _ h; rw [h1] at hv; rcases hv with hv | hv <;> (simp at hv; subst hv; simp only [CRep] at h2))
  · exact own_at h2 hi
  · exact own_at h2 hi
  · obtain ⟨b', o', C, e, fr, ds, hA, _, h3, h4, h5⟩ := imm_at h2.1 hi
    simp only [Option.some.injEq, Addr.mk.injEq] at hA
    obtain ⟨rfl, rfl, _⟩ := hA
    exact ⟨C, e, fr, ds, h3, h4, h5⟩

theorem load_run (hm : MemOk P w ok m μ) {t : TypeId} {i : TI} (ht : TOk P t i) {lx l : L} {vx : Value} (he : Ev (loadOp i lx) μ l) (hx : LRep P w ok m lx vx) :
    ∃ v, (Instr.loadAt t vx).run P w = .ok v w ∧ LRep P w ok m l v := by
  cases lx
  case ptr r off =>
    simp only [loadOp] at he
    rw [ev_get] at he
    split at he
    · rename_i ls hr
      obtain ⟨b, h1, rfl⟩ := hx
      obtain ⟨im, h2, h3⟩ := hm _ _ hr
      rw [h1] at h2; simp at h2; subst h2
      obtain ⟨vs, e, h4, h5⟩ := h3
      have := loadVar_run (o := 0) ht h4 h5 (fun j v hv => by simpa using hv) he
      simpa [Instr.loadAt, Instr.sureAddr] using this
    · simp [ev_fail] at he
  case eptr t' x off =>
    simp only [loadOp] at he
    obtain ⟨b, o, C, e, fr, cs, rfl, h1, h2, h3, h4⟩ := hx
    have := loadVar_run (o := o) ht h2 (explode_reps (m := m) h3) h4 he
    simpa [Instr.loadAt, Instr.sureAddr] using this
  case fptr ps b p =>
    simp only [loadOp] at he
    obtain ⟨bl, o, C, e, fr, u, rfl, h1, h2, h3, h4⟩ := hx
    have := loadVar_run (o := o) (off := 0) (m := m) (ls := [.fn ps b p]) (vs := [u]) ht h2 ⟨u, [], rfl, h4, rfl⟩ (fun j v hv => by
      cases j with
      | zero => simp at hv; subst hv; exact h3
      | succ j => simp at hv) he
    simpa [Instr.loadAt, Instr.sureAddr] using this
  case zd =>
    simp only [loadOp] at he
    obtain ⟨bl, C, e, fr, rfl, h1, h2, h3⟩ := hx
    have := loadVar_run (o := 0) (off := 0) (m := m) (ok := ok) (ls := [.nilm]) (vs := [.map none]) ht h2 ⟨_, [], rfl, rfl, rfl⟩ (fun j v hv => by
      cases j with
      | zero => simp at hv; subst hv; exact h3
      | succ j => simp at hv) he
    simpa [Instr.loadAt, Instr.sureAddr] using this
  case aptr r cnt n off =>
    simp only [loadOp] at he
    rw [ev_get] at he
    split at he
    · rename_i t' xs hr
      rw [ev_cond, ev_fail, ev_opt] at he
      replace he := he.resolve_right (by simp)
      obtain ⟨hc, x, hxi, he⟩ := he
      have hc' := Nat.eq_of_beq_eq_true hc
      obtain ⟨b, o, k, c, h1, rfl⟩ := hx
      obtain ⟨C, e, fr, ds, h3, h4, h5⟩ := rowOf_at hm hr (b := b) (o := o) (n := k) (c := c) h1 hxi
      subst hc'
      have := loadVar_run (o := o + n * t'.cnt) ht h3 (explode_reps (m := m) h4) h5 he
      simpa [Instr.loadAt, Instr.sureAddr] using this
    · simp [ev_fail] at he
  all_goals simp only [loadOp, ev_fail] at he

theorem shiftPtr_rep {o : Nat} {lx l : L} {vx : Value} (he : Ev (shiftPtr o lx) μ l) (hx : LRep P w ok m lx vx) : ∃ b off, vx = .pointer (some ⟨b, off, none⟩) ∧ LRep P w ok m l (.pointer (some ⟨b, off + o, none⟩)) := by
  cases lx
  case zd =>
    simp only [shiftPtr] at he
    rcases ev_cond.1 he with ⟨ho, he⟩ | ⟨_, he⟩
    · rw [ev_pure] at he; subst he
      have := Nat.eq_of_beq_eq_true ho; subst this
      obtain ⟨b, C, e, fr, rfl, h⟩ := hx
      exact ⟨b, 0, rfl, b, C, e, fr, rfl, h⟩
    · simp [ev_fail] at he
  all_goals simp only [shiftPtr, ev_fail, ev_pure] at he
  all_goals subst he
  · obtain ⟨b, h1, rfl⟩ := hx; exact ⟨b, _, rfl, b, h1, rfl⟩
  · obtain ⟨b, off, C, e, fr, cs, rfl, h⟩ := hx; exact ⟨b, _, rfl, b, off, C, e, fr, cs, by simp [Nat.add_assoc], h⟩
  · obtain ⟨b, off, n, c, h1, rfl⟩ := hx; exact ⟨b, _, rfl, b, off, n, c, h1, by simp [Nat.add_assoc]⟩

theorem struct_field {P : Program} {w : World} {t : TypeId} {gs : Array Field} {fs : List (TypeId × Nat)} (h : P.underlying t = some (.struct gs)) (hf : gs.toList.map (fun f => (f.type, f.offset)) = fs)
    {n : Nat} {ft : TypeId} {o : Nat} (hn : fs[n]? = some (ft, o)) : (underlying t).run P w = .ok (.struct gs) w ∧ ∃ f, gs[n]? = some f ∧ f.type = ft ∧ f.offset = o := by
  refine ⟨run_underlying h, ?_⟩
  subst hf
  rw [List.getElem?_map, Option.map_eq_some_iff] at hn
  obtain ⟨f, h1, h2⟩ := hn
  simp at h2
  exact ⟨f, by simpa using h1, h2.1, h2.2⟩

theorem fieldAddr_run {t : TypeId} {i : TI} (ht : TOk P t i) {fs : List (TypeId × Nat)} (hk : i.kind = .struct fs) {n : Nat} {ft : TypeId} {o : Nat} (hn : fs[n]? = some (ft, o)) {fi : TI} (hft : TOk P ft fi) (hsz : fi.size ≠ 0)
    {lx l : L} {vx : Value} (he : Ev (shiftPtr o lx) μ l) (hx : LRep P w ok m lx vx) : ∃ v, (Instr.fieldAt t vx n).run P w = .ok v w ∧ LRep P w ok m l v := by
  obtain ⟨d, hd, hs⟩ := ht.desc
  rw [hk] at hs
  obtain ⟨gs, rfl, hf⟩ := summ_struct hs
  obtain ⟨h1, f, h2, h3, h4⟩ := struct_field (w := w) hd hf hn
  obtain ⟨b, off, rfl, hl⟩ := shiftPtr_rep he hx
  refine ⟨_, ?_, hl⟩
  simp only [Instr.fieldAt, Sem.run_bind, h1, Result.andThen_ok, h2]
  simp only [Instr.sureAddr, Sem.run_pure, Result.andThen_ok, fieldPlace, Sem.run_bind, h3, run_sizeOf hft, hsz, if_false, h4, add_plain]

theorem part_run {t : TypeId} {i : TI} (ht : TOk P t i) {ls : List L} {vs : List Value} (hl : LReps P w ok m ls vs) {off : Nat} {l : L} (he : Ev (loadLs i ls off) μ l) :
    ∃ v, (part t vs.toArray off).run P w = .ok v w ∧ LRep P w ok m l v := by
  unfold loadLs at he
  simp only [part, Sem.run_bind, run_isAgg ht, Result.andThen_ok]
  rw [ev_cond] at he
  rcases he with ⟨ha, he⟩ | ⟨ha, he⟩
  · rw [ev_cond, ev_fail, ev_pure] at he
    obtain ⟨hs, rfl⟩ := he.resolve_right (by simp)
    refine ⟨.agg ((vs.drop off).take i.size).toArray, ?_, ⟨_, rfl, (hl.drop off).take i.size⟩⟩
    simp only [ha, if_true, Sem.run_bind, run_sizeOf ht, Result.andThen_ok, Sem.run_pure]
    congr 2
    simp [List.take_drop]
  · split at he
    · rename_i l' hl'
      rw [ev_pure] at he; subst he
      obtain ⟨v, hv, hr⟩ := hl.get hl'
      refine ⟨v, ?_, hr⟩
      simp [ha, hv]
    · simp [ev_fail] at he
theorem field_run {t : TypeId} {i : TI} (ht : TOk P t i) {fs : List (TypeId × Nat)} (hk : i.kind = .struct fs) {n : Nat} {ft : TypeId} {o : Nat} (hn : fs[n]? = some (ft, o)) {fi : TI} (hft : TOk P ft fi)
    {ls : List L} {l : L} {vx : Value} (he : Ev (loadLs fi ls o) μ l) (hx : LRep P w ok m (.agg ls) vx) : ∃ v, (Instr.field t vx n).run P w = .ok v w ∧ LRep P w ok m l v := by
  obtain ⟨d, hd, hs⟩ := ht.desc
  rw [hk] at hs
  obtain ⟨gs, rfl, hf⟩ := summ_struct hs
  obtain ⟨h1, f, h2, h3, h4⟩ := struct_field (w := w) hd hf hn
  obtain ⟨vs, rfl, hl⟩ := hx
  obtain ⟨v, hv, hr⟩ := part_run hft hl he
  refine ⟨v, ?_, hr⟩
  simp [Instr.field, h1, h2, asAgg, h3, h4, hv]

theorem asInt_rep {l : L} {n : Int} {v : Value} (he : Ev (asInt? l) μ n) (hl : LRep P w ok m l v) : ∃ k, v = .int k n := by
  cases l <;> simp only [asInt?, ev_fail] at he
  rename_i t x
  cases t <;> simp only [ev_fail, ev_pure] at he
  subst he
  exact ⟨_, rep_int hl⟩
theorem arrAddr_rep {τ : Tabs} (hf : Tabs.fine w ok) {size : Nat} {n : Int} {lx l : L} {vx : Value} (he : Ev (arrAddr size n lx) μ l) (hx : LRep P w ok m lx vx) :
    ∃ b off, vx = .pointer (some ⟨b, off, none⟩) ∧ LRep P w ok m l (.pointer (some ⟨b, off + n.toNat * size, none⟩)) := by
  cases lx
  case tab g =>
    simp only [arrAddr] at he
    split at he
    · rename_i k zs hg
      rw [ev_cond, ev_fail, ev_opt] at he
      obtain ⟨hc, y, hy, he⟩ := he.resolve_right (by simp)
      rw [ev_pure] at he; subst he
      have hc' := Nat.eq_of_beq_eq_true hc
      subst hc'
      have hx : vx = .pointer (some ⟨g, 0, none⟩) := hx
      subst hx
      obtain ⟨h1, e, fr, h2⟩ := hf g k zs hg
      obtain ⟨h3, h4, h5⟩ : 0 ≤ n ∧ n < (zs.length : Int) ∧ zs[n.toNat]? = some y := by
        unfold GG.at? at hy
        cases hd : decide (0 ≤ n) with
        | false => simp [hd] at hy
        | true =>
          simp only [hd, cond_true] at hy
          have h0 := of_decide_eq_true hd
          have := (List.getElem?_eq_some_iff.1 hy).1
          exact ⟨h0, by omega, hy⟩
      refine ⟨g, 0, rfl, g, 0 + n.toNat * 1, _, e, fr, [.int k y], rfl, h1, h2, rfl, fun j u hj => ?_⟩
      cases j with
      | zero =>
        simp at hj; subst hj
        simp [h5]
      | succ j => simp at hj
    · simp [ev_fail] at he
  all_goals (simp only [arrAddr] at he; exact shiftPtr_rep he hx)
theorem indexArr_run {τ : Tabs} (hf : Tabs.fine w ok) {t e : TypeId} {i ei : TI} {len : Nat} (ht : TOk P t i) (hk : i.kind = .array len e) (hte : TOk P e ei) {lx ln l : L} {vx vn : Value}
    (he : Ev ((asInt? ln).bind fun n => .assume (decide (0 ≤ n) && decide (n < len)) (arrAddr ei.size n lx)) μ l)
    (hx : LRep P w ok m lx vx) (hn : LRep P w ok m ln vn) : ∃ v, (Instr.indexAt t vx vn).run P w = .ok v w ∧ LRep P w ok m l v := by
  obtain ⟨d, hd, hs⟩ := ht.desc
  rw [hk] at hs
  rw [summ_array hs] at hd
  rw [ev_bind] at he
  obtain ⟨n, hn', he⟩ := he
  obtain ⟨k, rfl⟩ := asInt_rep hn' hn
  rw [ev_assume] at he
  obtain ⟨hb, he⟩ := he
  simp only [Bool.and_eq_true, decide_eq_true_eq] at hb
  obtain ⟨b, off, rfl, hl⟩ := arrAddr_rep hf he hx
  refine ⟨_, ?_, hl⟩
  simp only [Instr.indexAt, asIntOf, Instr.sureAddr, Sem.run_bind, Sem.run_pure, Result.andThen_ok, run_underlying hd]
  rw [if_pos ⟨hb.1, hb.2⟩]
  simp [run_sizeOf hte, add_plain]
theorem at?_some {α : Type} {xs : List α} {n : Int} {x : α} (h : at? xs n = some x) : 0 ≤ n ∧ n < xs.length ∧ xs[n.toNat]? = some x := by
  unfold at? at h
  cases hd : decide (0 ≤ n) with
  | false => simp [hd] at h
  | true =>
    simp only [hd, cond_true] at h
    have h0 := of_decide_eq_true hd
    have := (List.getElem?_eq_some_iff.1 h).1
    exact ⟨h0, by omega, h⟩
theorem indexAddr_run (hm : MemOk P w ok m μ) {t e : TypeId} {i ei : TI} (ht : TOk P t i) (hk : i.kind = .slice e) (hte : TOk P e ei) {lx ln l : L} {vx vn : Value} (he : Ev (indexAddrOp ei.size lx ln) μ l)
    (hx : LRep P w ok m lx vx) (hn : LRep P w ok m ln vn) : ∃ v, (Instr.indexAt t vx vn).run P w = .ok v w ∧ LRep P w ok m l v := by
  obtain ⟨d, hd, hs⟩ := ht.desc
  rw [hk] at hs
  rw [summ_slice hs] at hd
  unfold indexAddrOp at he
  rw [ev_bind] at he
  obtain ⟨n, hn', he⟩ := he
  obtain ⟨k, rfl⟩ := asInt_rep hn' hn
  have key : ∀ (b o len c : Nat), 0 ≤ n → n < (len : Int) → (Instr.indexAt t (.slice (some ⟨b, o, none⟩) len c) (.int k n)).run P w = .ok (.pointer (some ⟨b, o + n.toNat * ei.size, none⟩)) w := by
    intro b o len c h0 h1
    simp only [Instr.indexAt, asIntOf, Sem.run_bind, Sem.run_pure, Result.andThen_ok, run_underlying hd]
    rw [if_pos ⟨h0, h1⟩]
    simp [run_sizeOf hte, add_plain]
  split at he
  · rename_i r
    rw [ev_get] at he
    split at he
    · rename_i t' xs hr
      rw [ev_cond, ev_fail, ev_assume, ev_pure] at he
      obtain ⟨hc, h1, rfl⟩ := he.resolve_right (by simp)
      have hc' := Nat.eq_of_beq_eq_true hc
      simp only [Bool.and_eq_true, decide_eq_true_eq] at h1
      obtain ⟨A, c, rfl, hA⟩ := sref_form hm hr hx
      have hne : xs ≠ [] := by rintro rfl; simp at h1; omega
      obtain ⟨⟨b, o, sp⟩, rfl⟩ := Option.isSome_iff_exists.1 (hA hne)
      have hsp : sp = none := by
        have hx' := hx
        simp only [LRep] at hx'
        rcases rowOf_some hr with h | h <;> (obtain ⟨im, h2, h3⟩ := hm _ _ h; rw [h2] at hx'; rcases hx' with hv | hv <;> (simp at hv; subst hv; simp only [CRep] at h3))
        · rcases h3 with ⟨h3, _⟩ | ⟨_, _, _, _, _, h3, _⟩ <;> simp at h3; exact h3.1.2.2
        · rcases h3 with ⟨h3, _⟩ | ⟨_, _, _, _, _, h3, _⟩ <;> simp at h3; exact h3.1.2.2
        · obtain ⟨x, hx1⟩ : ∃ x, xs[0]? = some x := ⟨xs[0]'(by omega), by simp⟩
          obtain ⟨_, _, _, _, _, _, h4, _⟩ := imm_at h3.1 hx1
          simp at h4; exact h4.2.2
      subst hsp
      refine ⟨_, key b o _ c h1.1 h1.2, b, o, _, c, hx, ?_⟩
      simp [hc']
    · simp [ev_fail] at he
  · rename_i r
    rw [ev_get] at he
    split at he
    · rename_i l0 pin hr
      rw [ev_cond, ev_fail, ev_assume, ev_pure] at he
      obtain ⟨hc, h1, rfl⟩ := he.resolve_right (by simp)
      have hc' := Nat.eq_of_beq_eq_true hc
      simp only [Bool.and_eq_true, decide_eq_true_eq] at h1
      obtain ⟨bs, hmr, _, h2⟩ := dref_form hm hr hx
      rcases h2 with ⟨_, rfl, _⟩ | ⟨b, off, cap, C, e, h2⟩
      · simp at h1; omega
      rw [h2.v] at hmr ⊢
      refine ⟨_, key b off _ _ h1.1 h1.2, b, off, _, _, bs, hmr, ?_⟩
      simp [← hc']
    · simp [ev_fail] at he
  · rw [ev_bind] at he
    obtain ⟨⟨t', xs⟩, hxs, he⟩ := he
    rw [ev_cond, ev_fail, ev_opt] at he
    obtain ⟨hc, x, hat, he⟩ := he.resolve_right (by simp)
    rw [ev_pure] at he; subst he
    have hc' := Nat.eq_of_beq_eq_true hc
    obtain ⟨h0, h1, h2⟩ := at?_some hat
    rename_i hns hnd
    have himm : (T.slice t').holds w ok xs [vx] := by
      cases lx
      case val t1 x1 =>
        cases t1 <;> simp only [elemsAny, ev_fail, ev_pure, Sigma.mk.injEq] at hxs
        obtain ⟨rfl, h⟩ := hxs
        obtain rfl := eq_of_heq h
        exact hx
      case sref r => exact absurd rfl (hns r)
      all_goals simp only [elemsAny, ev_fail] at hxs
      all_goals
        simp only [ev_pure, Sigma.mk.injEq] at hxs; obtain ⟨rfl, h⟩ := hxs; obtain rfl := eq_of_heq h; exact hx.1
    obtain ⟨A, c, rfl, _⟩ := slice_form himm
    obtain ⟨b, o, C, e', fr, ds, rfl, hb, hh, hd', hj⟩ := imm_at himm h2
    refine ⟨_, key b o _ c h0 h1, b, o + n.toNat * ei.size, C, e', fr, ds, by simp, hb, hh, hd', fun j u hu => ?_⟩
    rw [← hc']; exact hj j u hu
theorem index_str_run {t : TypeId} {i : TI} (ht : TOk P t i) (hk : i.kind = .str) {s : List UInt8} {n : Int} {k : IntKind} {b : UInt8} (h : at? s n = some b) :
    (Instr.index t (.string ⟨s.toArray⟩) (.int k n)).run P w = .ok (.int .u8 b.toNat) w := by
  obtain ⟨d, hd, hs⟩ := ht.desc
  rw [hk] at hs
  rw [summ_str hs] at hd
  obtain ⟨h0, h1, h2⟩ := at?_some h
  have : (ByteArray.mk s.toArray)[n.toNat]? = some b := by
    obtain ⟨hl, h3⟩ := List.getElem?_eq_some_iff.1 h2
    rw [getElem?_pos _ _ (by simpa [ByteArray.size] using hl)]
    simp [← h3, ByteArray.getElem_eq_getElem_data]
  simp [Instr.index, asIntOf, run_underlying hd, h0, this]
theorem index_agg_run {t e : TypeId} {i ei : TI} {len : Nat} (ht : TOk P t i) (hk : i.kind = .array len e) (hte : TOk P e ei) {ls : List L} {vs : List Value} (hl : LReps P w ok m ls vs) {n : Int} {k : IntKind} (h0 : 0 ≤ n) (h1 : n < len)
    {l : L} (he : Ev (loadLs ei ls (n.toNat * ei.size)) μ l) : ∃ v, (Instr.index t (.agg vs.toArray) (.int k n)).run P w = .ok v w ∧ LRep P w ok m l v := by
  obtain ⟨d, hd, hs⟩ := ht.desc
  rw [hk] at hs
  rw [summ_array hs] at hd
  obtain ⟨v, hv, hr⟩ := part_run hte hl he
  refine ⟨v, ?_, hr⟩
  simp only [Instr.index, asIntOf, Sem.run_bind, Sem.run_pure, Result.andThen_ok, run_underlying hd]
  rw [if_pos ⟨h0, h1⟩]
  simp [run_sizeOf hte, hv]
end
end Go.GG

/- Slices, conversions, builtins that read; rows that are given away. -/
namespace Go.GG
open Go.RowKit

/-! ### Rows that are given away -/
theorem editMem_append (a b : List (Nat × Option C)) (μ : Nat → Option C) : editMem (a ++ b) μ = editMem b (editMem a μ) := by
  induction a generalizing μ with
  | nil => rfl
  | cons x a ih => obtain ⟨r, c⟩ := x; exact ih _
theorem editMem_none : ∀ {es : List (Nat × Option C)} {μ : Nat → Option C}, (∀ p ∈ es, p.2 = none) → ∀ {r : Nat} {c : C}, editMem es μ r = some c → μ r = some c ∧ r ∉ es.map (·.1)
  | [], _, _, _, _, h => ⟨h, by simp⟩
  | (x, y) :: es, μ, hp, r, c, h => by
    have hy : y = none := hp (x, y) (by simp)
    subst hy
    obtain ⟨h1, h2⟩ := editMem_none (es := es) (fun p hp' => hp p (by simp [hp'])) h
    cases hb : Nat.beq r x with
    | true => simp [hb] at h1
    | false =>
      simp [hb] at h1
      have : r ≠ x := fun e => by subst e; simp at hb
      exact ⟨h1, by simp [this]; exact fun y hy => h2 (List.mem_map.2 ⟨_, hy, rfl⟩)⟩
section
variable {τ : Tabs} {P : Program} {E : Entry} {m : IMap} {s : St} {a : Act} {w : World}
theorem Rel.memOk (h : Rel P E m s a w) : MemOk P w (okOf E m s.mem w) m s.mem := fun r c hc => let ⟨i, h1, h2, _⟩ := h.mem r c hc; ⟨i, h1, h2⟩
theorem ok_drop {μ' : Nat → Option C} (hμ : ∀ r c, μ' r = some c → s.mem r = some c) : ∀ b, okOf E m s.mem w b → okOf E m μ' w b :=
  fun _ hb => ⟨hb.1, hb.2.1, fun ⟨r, c, i, h1, h2, h3⟩ => hb.2.2 ⟨r, c, i, hμ r c h1, h2, h3⟩⟩
/-- A row that was given away is a value like others. -/
theorem given_row (h : Rel P E m s a w) {μ' : Nat → Option C} (hμ : ∀ r c, μ' r = some c → s.mem r = some c) {r : Nat} (hr : μ' r = none) {t : T} {xs : List t.den} (hx : rowOf (s.mem r) = some ⟨t, xs⟩) {v : Value}
    (hv : LRep P w (okOf E m s.mem w) m (.sref r) v) : (T.slice t).holds w (okOf E m μ' w) xs [v] := by
  have hk : Keeps w w (okOf E m s.mem w) (okOf E m μ' w) := Keeps.weaken (ok_drop hμ)
  have own : ∀ c, s.mem r = some c → m r = some (.arr v) → OwnRow w (okOf E m s.mem w) t xs v → (∀ b, b ∈ (Impl.arr v).blocks → b < w.heap.size ∧ (E.V0 b ∨ E.w0.heap.size ≤ b)) → (T.slice t).holds w (okOf E m μ' w) xs [v] := by
    intro c hc hm ho hb
    rcases ho with ⟨rfl, rfl⟩ | ⟨b, C, e, fr, cap, rfl, h1, h2, h3, h4, h5⟩
    · exact ⟨none, 0, rfl, Nat.le_refl _, .inl ⟨rfl, fun _ => rfl⟩⟩
    · refine ⟨_, cap, rfl, h1, .inr ⟨b, 0, C, e, fr, rfl, ⟨(hb b (by simp [Impl.blocks])).1, .inr (hb b (by simp [Impl.blocks])).2, ?_⟩, h3, fun i x hi => ?_⟩⟩
      · rintro ⟨r', c', i', h6, h7, h8⟩
        have := h.inj r' r c' c i' _ b (hμ _ _ h6) hc h7 hm h8 (by simp [Impl.blocks])
        subst this
        rw [hr] at h6; simp at h6
      · obtain ⟨ds, hd, hj⟩ := h5 i x hi
        exact ⟨ds, T.holds_mono hk hd, fun j u hu => by rw [Nat.zero_add]; exact hj j u hu⟩
  simp only [LRep] at hv
  rcases rowOf_some hx with hc | hc <;> (obtain ⟨im, h1, h2, h3⟩ := h.mem _ _ hc; have hm := h1; rw [h1] at hv; rcases hv with hv | hv <;> (simp at hv; subst hv; simp only [CRep] at h2))
  · exact own _ hc hm h2 h3
  · exact own _ hc hm h2 h3
  · exact T.holds_mono (t := .slice t) hk h2.1
theorem purify_none : ∀ {ls ls' : List L} {gone : List (Nat × Option C)} {μ : Nat → Option C}, Ev (purify ls) μ (ls', gone) → ∀ p ∈ gone, p.2 = none
  | [], ls', gone, μ, h => by simp only [purify, ev_pure, Prod.mk.injEq] at h; obtain ⟨rfl, rfl⟩ := h; simp
  | l :: ls, ls', gone, μ, h => by
    have key : ∀ l', Ev ((purify ls).bind fun x => RM.pure (l' :: x.1, x.2)) μ (ls', gone) → ∀ p ∈ gone, p.2 = none := by
      intro l' h
      rw [ev_bind] at h
      obtain ⟨⟨b1, b2⟩, hb, h⟩ := h
      simp only [ev_pure, Prod.mk.injEq] at h
      obtain ⟨rfl, rfl⟩ := h
      exact purify_none hb
    cases l
    case sref r =>
      simp only [purify] at h
      rw [ev_get] at h
      split at h
      · rw [ev_bind] at h
        obtain ⟨⟨b1, b2⟩, hb, h⟩ := h
        simp only [ev_pure, Prod.mk.injEq] at h
        obtain ⟨rfl, rfl⟩ := h
        intro p hp
        cases hp with
        | head => rfl
        | tail _ hp => exact purify_none hb p hp
      · simp [ev_fail] at h
    all_goals exact key _ h
theorem purify_reps (h : Rel P E m s a w) {μ' : Nat → Option C} (hμ : ∀ r c, μ' r = some c → s.mem r = some c) : ∀ {ls ls' : List L} {gone : List (Nat × Option C)} {vs : List Value}, Ev (purify ls) s.mem (ls', gone) → (∀ r ∈ gone.map (·.1), μ' r = none) →
    LReps P w (okOf E m s.mem w) m ls vs → LReps P w (okOf E m μ' w) m ls' vs
  | [], ls', gone, vs, hp, _, hl => by simp only [purify, ev_pure, Prod.mk.injEq] at hp; obtain ⟨rfl, rfl⟩ := hp; exact hl
  | l :: ls, ls', gone, vs, hp, hg, hl => by
    obtain ⟨v, vs', rfl, h1, h2⟩ := hl
    have key : Ev ((purify ls).bind fun x => RM.pure (l :: x.1, x.2)) s.mem (ls', gone) → LReps P w (okOf E m μ' w) m ls' (v :: vs') := by
      intro hp
      rw [ev_bind] at hp
      obtain ⟨⟨b1, b2⟩, hb, hp⟩ := hp
      simp only [ev_pure, Prod.mk.injEq] at hp
      obtain ⟨rfl, rfl⟩ := hp
      exact ⟨v, vs', rfl, h1.mono (Keeps.weaken (ok_drop hμ)) (Ext.refl m), purify_reps h hμ hb hg h2⟩
    cases l
    case sref r =>
      simp only [purify] at hp
      rw [ev_get] at hp
      split at hp
      · rename_i t xs hx
        rw [ev_bind] at hp
        obtain ⟨⟨b1, b2⟩, hb, hp⟩ := hp
        simp only [ev_pure, Prod.mk.injEq] at hp
        obtain ⟨rfl, rfl⟩ := hp
        exact ⟨v, vs', rfl, given_row h hμ (hg r (by simp)) hx h1, purify_reps h hμ hb (fun r' hr' => hg r' (by simp at hr' ⊢; exact .inr hr')) h2⟩
      · simp [ev_fail] at hp
    all_goals exact key hp
end

/-! ### Slices -/
section
variable {P : Program} {w : World} {ok : Nat → Prop} {m : IMap} {μ : Nat → Option C}
theorem cut_get {α : Type} {xs : List α} {l h : Int} {i : Nat} {x : α} (hi : (cut xs l h)[i]? = some x) : xs[l.toNat + i]? = some x := by
  unfold cut at hi
  rw [List.getElem?_drop, List.getElem?_take] at hi
  split at hi
  · exact hi
  · simp at hi
theorem cut_len {α : Type} {xs : List α} {l h : Int} (h0 : 0 ≤ l) (h1 : l ≤ h) (h2 : h ≤ xs.length) : (cut xs l h).length = h.toNat - l.toNat := by
  unfold cut
  simp
  omega
theorem slice_holds {t : T} {xs : List t.den} {A : Option Addr} {n c : Nat} (hx : (T.slice t).holds w ok xs [.slice A n c]) {l h : Int} (h0 : 0 ≤ l) (h1 : l ≤ h) (h2 : h ≤ xs.length) {cap : Nat} (hc : h.toNat ≤ cap) (hcc : cap ≤ c) :
    (T.slice t).holds w ok (cut xs l h) [.slice (if cap = l.toNat then A else A.map (·.add (l.toNat * t.cnt))) (h.toNat - l.toNat) (cap - l.toNat)] := by
  have hlen := cut_len h0 h1 h2
  refine ⟨_, _, by rw [hlen], by rw [hlen]; omega, ?_⟩
  by_cases he : cut xs l h = []
  · refine .inl ⟨he, fun hA => ?_⟩
    have hA' : A = none := by
      split at hA
      · exact hA
      · simpa using hA
    simp only [T.holds] at hx
    obtain ⟨A', c', hv, _, hx⟩ := hx
    simp only [List.cons.injEq, and_true, Value.slice.injEq] at hv
    obtain ⟨rfl, rfl, rfl⟩ := hv
    rcases hx with ⟨_, hx⟩ | ⟨b, off, C, e, fr, rfl, _⟩
    · have := hx hA'; omega
    · cases hA'
  · refine .inr ?_
    have hpos : 0 < (cut xs l h).length := List.length_pos_iff.2 he
    rw [hlen] at hpos
    rw [if_neg (by omega)]
    simp only [T.holds] at hx
    obtain ⟨A', c', hv, _, hx⟩ := hx
    simp only [List.cons.injEq, and_true, Value.slice.injEq] at hv
    obtain ⟨rfl, rfl, rfl⟩ := hv
    rcases hx with ⟨rfl, _⟩ | ⟨b, off, C, e, fr, rfl, hb, hh, hx⟩
    · simp [cut] at he
    · refine ⟨b, off + l.toNat * t.cnt, C, e, fr, by simp [add_plain], hb, hh, fun i x hi => ?_⟩
      obtain ⟨ds, hd, hj⟩ := hx _ x (cut_get hi)
      refine ⟨ds, hd, fun j u hu => ?_⟩
      have := hj j u hu
      rw [Nat.add_mul] at this
      rw [← this]
      congr 1
      omega
theorem boundOr_rep {d : Int} {lo : Option L} {l : Int} {v : Option Value} (he : Ev (boundOr d lo) μ l) (hl : match lo, v with | none, none => True | some x, some y => LRep P w ok m x y | _, _ => False) :
    (lo = none ∧ v = none ∧ l = d) ∨ ∃ k, v = some (.int k l) := by
  cases lo <;> cases v <;> simp only at hl <;> simp only [boundOr, ev_pure] at he
  · exact .inl ⟨rfl, rfl, he.symm⟩
  · obtain ⟨k, rfl⟩ := asInt_rep he hl; exact .inr ⟨k, rfl⟩
theorem sliceBound_run {k : IntKind} {i : Int} {y : Nat} {c : BoundsCode} (h0 : 0 ≤ i) (h1 : i ≤ y) : (Instr.sliceBound (.int k i) y c).run P w = .ok i.toNat w := by
  simp [Instr.sliceBound, asIntOf, h0, h1]
theorem run_slice_slice {t e : TypeId} (hd : P.underlying t = some (.slice e)) {a : Option Addr} {len cap : Nat} {lo hi mx : Option Value} :
    (Instr.sliceAt t (.slice a len cap) lo hi mx).run P w = ((Instr.sliceBounds true len cap lo hi mx).run P w).andThen fun x w' => ((sizeOf e).run P w').andThen fun size w'' =>
      .ok (.slice (if x.2.2 = x.1 then a else a.map (·.add (x.1 * size))) (x.2.1 - x.1) (x.2.2 - x.1)) w'' := by
  simp [Instr.sliceAt, Instr.slice, run_underlying hd]
theorem run_slice_str {t : TypeId} (hd : P.underlying t = some .string) {b : ByteArray} {lo hi : Option Value} :
    (Instr.sliceAt t (.string b) lo hi none).run P w = ((Instr.sliceBounds false b.size b.size lo hi none).run P w).andThen fun x w' => .ok (.string (b.extract x.1 x.2.1)) w' := by
  simp [Instr.sliceAt, Instr.slice, run_underlying hd]
/-- Where a slice's bounds lie. -/
theorem sliceBounds_run {isS : Bool} {len cap : Nat} {l h : Int} {lo hi : Option Value} (h0 : 0 ≤ l) (h1 : l ≤ h) (h2 : h ≤ cap)
    (hlo : (lo = none ∧ l = 0) ∨ ∃ k, lo = some (.int k l)) (hhi : (hi = none ∧ h = len) ∨ ∃ k, hi = some (.int k h)) : (Instr.sliceBounds isS len cap lo hi none).run P w = .ok (l.toNat, h.toNat, cap) w := by
  rcases hlo with ⟨rfl, rfl⟩ | ⟨k, rfl⟩ <;> rcases hhi with ⟨rfl, rfl⟩ | ⟨k', rfl⟩ <;> simp [Instr.sliceBounds]
  · rw [sliceBound_run (by omega) h2]; simp
  · rw [sliceBound_run h0 (by omega)]; simp
  · rw [sliceBound_run (by omega) h2]
    simp only [Result.andThen_ok]
    rw [sliceBound_run h0 (by omega)]; simp
theorem sliceBounds3_run {len cap : Nat} {l h : Int} {lo hi : Option Value} {k'' : IntKind} (h0 : 0 ≤ l) (h1 : l ≤ h) (h2 : h ≤ cap)
    (hlo : (lo = none ∧ l = 0) ∨ ∃ k, lo = some (.int k l)) (hhi : ∃ k, hi = some (.int k h)) : (Instr.sliceBounds true len cap lo hi (some (.int k'' h))).run P w = .ok (l.toNat, h.toNat, h.toNat) w := by
  obtain ⟨k', rfl⟩ := hhi
  rcases hlo with ⟨rfl, rfl⟩ | ⟨k, rfl⟩ <;> simp [Instr.sliceBounds]
  · rw [sliceBound_run (by omega) h2]; simp only [Result.andThen_ok]; rw [sliceBound_run (by omega) (by omega)]; simp
  · rw [sliceBound_run (by omega) h2]
    simp only [Result.andThen_ok]
    rw [sliceBound_run (by omega) (by omega)]
    simp only [Result.andThen_ok]
    rw [sliceBound_run h0 (by omega)]; simp
end
section
variable {τ : Tabs} {P : Program} {E : Entry} {m : IMap} {s : St} {a : Act} {w : World}
/-- A slice that is read, whosever it is: a value once its row is given away. -/
theorem elemsAny_given (h : Rel P E m s a w) {l : L} {t : T} {xs : List t.den} {v : Value} (he : Ev (elemsAny l) s.mem ⟨t, xs⟩) (hv : LRep P w (okOf E m s.mem w) m l v) {μ' : Nat → Option C}
    (hμ : ∀ r c, μ' r = some c → s.mem r = some c) (hr : ∀ r, l = .sref r → μ' r = none) : (T.slice t).holds w (okOf E m μ' w) xs [v] := by
  cases l
  case val t' x =>
    cases t' <;> simp only [elemsAny, ev_fail, ev_pure, Sigma.mk.injEq] at he
    obtain ⟨rfl, he⟩ := he
    obtain rfl := eq_of_heq he
    exact T.holds_mono (t := .slice _) (Keeps.weaken (ok_drop hμ)) hv
  case sref r =>
    simp only [elemsAny] at he
    rw [ev_get] at he
    split at he
    · rename_i t' xs' hx
      simp only [ev_pure, Sigma.mk.injEq] at he
      obtain ⟨rfl, he⟩ := he
      obtain rfl := eq_of_heq he
      exact given_row h hμ (hr r rfl) hx hv
    · simp [ev_fail] at he
  all_goals simp only [elemsAny, ev_fail] at he
  all_goals
    simp only [ev_pure, Sigma.mk.injEq] at he; obtain ⟨rfl, he⟩ := he; obtain rfl := eq_of_heq he
    exact T.holds_mono (t := .slice _) (Keeps.weaken (ok_drop hμ)) hv.1

def optRep (P : Program) (w : World) (ok : Nat → Prop) (m : IMap) : Option L → Option Value → Prop
  | none, none => True
  | some x, some y => LRep P w ok m x y
  | _, _ => False
theorem Rel.evalOpt (h : Rel P E m s a w) (x : Option Operand) : optRep P w (okOf E m s.mem w) m (x.map (ev s)) (x.map a.eval) := by
  cases x with
  | none => trivial
  | some x => exact h.eval x
theorem boundOr_rep' {d : Int} {lo : Option L} {l : Int} {v : Option Value} {ok : Nat → Prop} {μ : Nat → Option C} (he : Ev (boundOr d lo) μ l) (hl : optRep P w ok m lo v) : (v = none ∧ l = d) ∨ ∃ k, v = some (.int k l) := by
  cases lo <;> cases v <;> simp only [optRep] at hl <;> simp only [boundOr, ev_pure] at he
  · exact .inl ⟨rfl, he.symm⟩
  · obtain ⟨k, rfl⟩ := asInt_rep he hl; exact .inr ⟨k, rfl⟩
theorem slice_run (h : Rel P E m s a w) {tab : Tab} (hT : TabOk P tab) {t : TypeId} {i : TI} (ht : TOk P t i) {lx : L} {vx : Value} {lo hi mx : Option L} {vlo vhi vmx : Option Value} {res : Res}
    (he : Ev (sliceOp tab i lx lo hi mx) s.mem res) (hx : LRep P w (okOf E m s.mem w) m lx vx) (hlo : optRep P w (okOf E m s.mem w) m lo vlo) (hhi : optRep P w (okOf E m s.mem w) m hi vhi) (hmx : optRep P w (okOf E m s.mem w) m mx vmx) :
    res.allocs = [] ∧ (∀ p ∈ res.edits, p.2 = none) ∧ ∃ v, (Instr.sliceAt t vx vlo vhi vmx).run P w = .ok v w ∧ LRep P w (okOf E m (editMem res.edits s.mem) w) m res.val v := by
  obtain ⟨d, hd, hs⟩ := ht.desc
  unfold sliceOp at he
  split at he
  · rename_i hk
    rw [hk] at hs
    rw [summ_str hs] at hd
    split at he
    · rename_i str
      simp only [ev_bind, ev_assume, ev_pure] at he
      obtain ⟨l, hl, h', hh, hb, rfl⟩ := he
      simp only [Bool.and_eq_true, decide_eq_true_eq] at hb
      have := rep_str hx; subst this
      cases vmx <;> simp only [optRep] at hmx
      refine ⟨rfl, by simp [Res.of], .string ⟨(cut str l h').toArray⟩, ?_, mk_str _⟩
      have hsz : (ByteArray.mk str.toArray).size = str.length := by simp [ByteArray.size]
      rw [run_slice_str hd, sliceBounds_run (P := P) (l := l) (h := h') hb.1.1 hb.1.2 (by rw [hsz]; exact hb.2) (boundOr_rep' hl hlo) (by rw [hsz]; exact boundOr_rep' hh hhi)]
      simp only [Result.andThen_ok]
      congr 2
      apply ByteArray.ext
      apply Array.ext'
      rw [Lib.extract_data]
      simp [cut, List.drop_take]
    · simp [ev_fail] at he
  · rename_i e hk
    rw [hk] at hs
    rw [summ_slice hs] at hd
    simp only [ev_bind, ev_lift] at he
    obtain ⟨ei, hei, ⟨t', xs⟩, hxs, l, hl, h', hh, he⟩ := he
    rw [ev_assume, ev_cond, ev_fail] at he
    obtain ⟨hb, he⟩ := he
    simp only [Bool.and_eq_true, decide_eq_true_eq] at hb
    replace he := he.resolve_left (by simp)
    obtain ⟨hcnt, he⟩ := he
    have hcnt : t'.cnt = ei.size := Nat.eq_of_beq_eq_true (by simpa using hcnt)
    have hte := hT _ _ hei
    have hgone : ∀ p ∈ givenBy lx, p.2 = none := by cases lx <;> simp [givenBy]
    have hμ : ∀ r c, editMem (givenBy lx) s.mem r = some c → s.mem r = some c := fun r c hc => (editMem_none hgone hc).1
    have hr : ∀ r, lx = .sref r → editMem (givenBy lx) s.mem r = none := by
      intro r hr
      subst hr
      simp [editMem, givenBy]
    have hv := elemsAny_given h hxs hx hμ hr
    obtain ⟨A, c, rfl, _⟩ := slice_form hv
    have hcap : xs.length ≤ c := by
      simp only [T.holds] at hv
      obtain ⟨A', c', hv', hc, _⟩ := hv
      simp only [List.cons.injEq, and_true, Value.slice.injEq] at hv'
      omega
    split at he
    · simp only [ev_pure] at he
      subst he
      cases vmx <;> simp only [optRep] at hmx
      refine ⟨rfl, hgone, _, ?_, slice_holds hv hb.1.1 hb.1.2 hb.2 (cap := c) (by omega) (Nat.le_refl _)⟩
      rw [run_slice_slice hd, sliceBounds_run (P := P) (l := l) (h := h') hb.1.1 hb.1.2 (by omega) (boundOr_rep' hl hlo) (boundOr_rep' hh hhi)]
      simp [run_sizeOf hte, hcnt]
    · rename_i mx hi' 
      simp only [ev_bind, ev_assume, ev_pure] at he
      obtain ⟨m', hm', hmh, rfl⟩ := he
      have hmh : m' = h' := by simpa using hmh
      subst hmh
      cases vmx with
      | none => simp only [optRep] at hmx
      | some vm =>
        simp only [optRep] at hmx
        obtain ⟨k, rfl⟩ := asInt_rep hm' hmx
        have hres := slice_holds hv hb.1.1 hb.1.2 hb.2 (cap := m'.toNat) (by omega) (by omega)
        have hlen := cut_len hb.1.1 hb.1.2 hb.2
        refine ⟨rfl, hgone, _, ?_, hres, _, by rw [hlen]⟩
        have hhi' : ∃ k, vhi = some (.int k m') := by
          cases vhi with
          | none => simp only [optRep] at hhi
          | some v' =>
            simp only [optRep] at hhi
            simp only [boundOr] at hh
            obtain ⟨k, rfl⟩ := asInt_rep hh hhi
            exact ⟨k, rfl⟩
        rw [run_slice_slice hd, sliceBounds3_run (P := P) (l := l) (h := m') hb.1.1 hb.1.2 (by omega) (boundOr_rep' hl hlo) hhi']
        simp [run_sizeOf hte, hcnt]
    · simp [ev_fail] at he
  · simp [ev_fail] at he
end
end Go.GG

/- Structs that are put together, tuples, lengths, texts: the machine does so. -/
namespace Go.GG
open Go.RowKit
section
variable {P : Program} {w : World} {ok : Nat → Prop} {m : IMap} {μ : Nat → Option C}

theorem foldl_zip_size (v : List Value) (off : Nat) : ∀ (n : Nat) (cs : Array Value), ((v.zipIdx n).foldl (fun cs (x : Value × Nat) => cs.setIfInBounds (off + x.2) x.1) cs).size = cs.size := by
  induction v with
  | nil => intro n cs; rfl
  | cons a v ih => intro n cs; simp only [List.zipIdx_cons, List.foldl_cons]; rw [ih]; simp
theorem foldl_zip_get (v : List Value) (off : Nat) : ∀ (n : Nat) (cs : Array Value) (j : Nat), off + n + v.length ≤ cs.size →
    ((v.zipIdx n).foldl (fun cs (x : Value × Nat) => cs.setIfInBounds (off + x.2) x.1) cs)[j]? = if off + n ≤ j ∧ j < off + n + v.length then v[j - (off + n)]? else cs[j]? := by
  induction v with
  | nil => intro n cs j _; simp; intro h1 h2; omega
  | cons a v ih =>
    intro n cs j h
    simp only [List.zipIdx_cons, List.foldl_cons]
    rw [ih (n + 1) _ j (by simp at h ⊢; omega)]
    simp only [List.length_cons] at h ⊢
    by_cases h1 : off + n = j
    · subst h1
      rw [if_neg (by omega), if_pos (by omega), Array.getElem?_setIfInBounds_self_of_lt (by omega)]
      simp
    · by_cases h2 : off + n ≤ j ∧ j < off + n + (v.length + 1)
      · rw [if_pos (by omega), if_pos h2]
        rw [show j - (off + n) = (j - (off + (n + 1))) + 1 by omega, List.getElem?_cons_succ]
      · rw [if_neg (by omega), if_neg h2, Array.getElem?_setIfInBounds_ne (by omega)]
theorem foldl_zip (v : List Value) (off : Nat) (cs : List Value) (h : off + v.length ≤ cs.length) :
    ((v.zipIdx 0).foldl (fun (cs : Array Value) (x : Value × Nat) => cs.setIfInBounds (off + x.2) x.1) cs.toArray) = (cs.take off ++ v ++ cs.drop (off + v.length)).toArray := by
  apply Array.ext_getElem?
  intro j
  rw [foldl_zip_get v off 0 _ j (by simpa using h)]
  simp only [Nat.add_zero, List.getElem?_toArray]
  by_cases h1 : j < off
  · rw [if_neg (by omega), List.append_assoc, List.getElem?_append_left (by simp; omega), List.getElem?_take, if_pos h1]
  · by_cases h2 : j < off + v.length
    · rw [if_pos (by omega), List.append_assoc, List.getElem?_append_right (by simp; omega), List.getElem?_append_left (by simp; omega)]
      congr 1; simp; omega
    · rw [if_neg (by omega), List.getElem?_append_right (by simp; omega), List.getElem?_drop]
      congr 1; simp; omega
theorem leavesOf_reps {l : L} {v : Value} (h : LRep P w ok m l v) (h1 : (∀ ls, l ≠ .agg ls) → v.cells = #[v]) : LReps P w ok m (leavesOf l) v.cells.toList := by
  cases l
  case agg ls => obtain ⟨vs, rfl, h⟩ := h; simpa [leavesOf, Value.cells] using h
  all_goals (rw [h1 (by simp)]; exact ⟨v, [], rfl, h, rfl⟩)
theorem fill_run {pl : Nat → Option (Nat × Nat)} : ∀ {ps : List (Nat × Operand)} {ρ : Operand → L} {ρ' : Operand → Value} {cells ls : List L} {vs : List Value},
    fillLs pl cells (ps.map fun p => (p.1, ρ p.2)) = some ls → (∀ p ∈ ps, LReps P w ok m (leavesOf (ρ p.2)) (ρ' p.2).cells.toList) → LReps P w ok m cells vs →
    ∃ us, Instr.fill pl vs.toArray (ps.map fun p => (p.1, ρ' p.2)) = some us.toArray ∧ LReps P w ok m ls us
  | [], _, _, _, _, vs, h, _, hc => by simp only [List.map_nil, fillLs, Option.some.injEq] at h; subst h; exact ⟨vs, rfl, hc⟩
  | (i, x) :: ps, ρ, ρ', cells, ls, vs, h, hx, hc => by
    simp only [List.map_cons, fillLs] at h
    split at h
    · simp at h
    · rename_i off size hpl
      have hlx := hx (i, x) (by simp)
      have hl1 := hlx.length
      have hl2 := hc.length
      cases hb : (Nat.beq (leavesOf (ρ x)).length size && Nat.ble (off + size) cells.length) with
      | false => rw [hb] at h; simp at h
      | true =>
        rw [hb] at h
        simp only [cond_true] at h
        simp only [Bool.and_eq_true] at hb
        have hb1 := Nat.eq_of_beq_eq_true hb.1
        have hb2 := Nat.le_of_ble_eq_true hb.2
        have hnew : LReps P w ok m (cells.take off ++ leavesOf (ρ x) ++ cells.drop (off + size)) (vs.take off ++ (ρ' x).cells.toList ++ vs.drop (off + size)) := ((hc.take off).append hlx).append (hc.drop _)
        obtain ⟨us, h1, h2⟩ := fill_run (ps := ps) h (fun p hp => hx p (by simp [hp])) hnew
        refine ⟨us, ?_, h2⟩
        have hsz : (ρ' x).cells.size = size := by rw [← hb1, ← hl1]; simp
        simp only [List.map_cons, Instr.fill, hpl]
        rw [if_neg (by simp [hsz]; omega)]
        have := foldl_zip (ρ' x).cells.toList off vs (by simp [hsz]; omega)
        simp only [Array.length_toList, hsz] at this
        rw [← h1, ← this]
        congr 1
        rw [← Array.foldl_toList, Array.toList_zipIdx]

theorem fieldPlaces_run {tab : Tab} (hT : TabOk P tab) : ∀ {gs : List Field} {pl : List (Nat × Nat)}, fieldPlaces tab (gs.map fun f => (f.type, f.offset)) = some pl →
    (gs.mapM fun f => (do pure (f.offset, ← sizeOf f.type) : Sem (Nat × Nat))).run P w = .ok pl w
  | [], pl, h => by simp only [List.map_nil, fieldPlaces, Option.some.injEq] at h; subst h; rfl
  | g :: gs, pl, h => by
    simp only [List.map_cons, fieldPlaces] at h
    split at h
    · simp at h
    · rename_i i hi
      split at h
      · simp at h
      · rename_i l hl
        simp only [Option.some.injEq] at h; subst h
        have := fieldPlaces_run hT hl
        simp only [List.mapM_cons, Sem.run_bind, run_sizeOf (hT _ _ hi), Result.andThen_ok, Sem.run_pure, this]
theorem build_struct_run {tab : Tab} (hT : TabOk P tab) {t : TypeId} {i : TI} (ht : TOk P t i) {fs : List (TypeId × Nat)} (hk : i.kind = .struct fs) {pl : List (Nat × Nat)} (hpl : fieldPlaces tab fs = some pl)
    {ps : List (Nat × Operand)} {ρ : Operand → L} {ρ' : Operand → Value} {ls : List L} (h : fillLs (fun j => pl[j]?) (zeroLs i) (ps.map fun p => (p.1, ρ p.2)) = some ls) (hx : ∀ p ∈ ps, LReps P w ok m (leavesOf (ρ p.2)) (ρ' p.2).cells.toList) :
    ∃ v, (Instr.build t (ps.toArray.map fun (p : Nat × Operand) => (p.1, ρ' p.2))).run P w = .ok v w ∧ LRep P w ok m (.agg ls) v := by
  obtain ⟨d, hd, hs⟩ := ht.desc
  rw [hk] at hs
  obtain ⟨gs, rfl, hf⟩ := summ_struct hs
  obtain ⟨z, hz, hzc⟩ := run_zeroValue (w := w) ht
  have hz0 : LReps P w ok m (zeroLs i) i.zero := absLeaves_rep _
  obtain ⟨us, h1, h2⟩ := fill_run h hx hz0
  refine ⟨.agg us.toArray, ?_, us, rfl, h2⟩
  have hm : (gs.mapM fun f => (do pure (f.offset, ← sizeOf f.type) : Sem (Nat × Nat))).run P w = .ok pl.toArray w := by
    have := fieldPlaces_run (w := w) hT (gs := gs.toList) (by rw [hf]; exact hpl)
    rw [Array.mapM_eq_mapM_toList]
    simp only [Sem.run_map, this, Result.andThen_ok]
  simp only [Instr.build, Sem.run_bind, hz, Result.andThen_ok, run_underlying hd, hm]
  have e : (fun (j : Nat) => pl.toArray[j]?) = fun (j : Nat) => pl[j]? := by funext j; simp
  simp only [Array.toList_map]
  rw [e, hzc, h1]
  rfl
theorem build_array_run {t e : TypeId} {i ei : TI} {n : Nat} (ht : TOk P t i) (hk : i.kind = .array n e) (hte : TOk P e ei)
    {ps : List (Nat × Operand)} {ρ : Operand → L} {ρ' : Operand → Value} {ls : List L} (h : fillLs (fun j => some (j * ei.size, ei.size)) (zeroLs i) (ps.map fun p => (p.1, ρ p.2)) = some ls) (hx : ∀ p ∈ ps, LReps P w ok m (leavesOf (ρ p.2)) (ρ' p.2).cells.toList) :
    ∃ v, (Instr.build t (ps.toArray.map fun (p : Nat × Operand) => (p.1, ρ' p.2))).run P w = .ok v w ∧ LRep P w ok m (.agg ls) v := by
  obtain ⟨d, hd, hs⟩ := ht.desc
  rw [hk] at hs
  rw [summ_array hs] at hd
  obtain ⟨z, hz, hzc⟩ := run_zeroValue (w := w) ht
  have hz0 : LReps P w ok m (zeroLs i) i.zero := absLeaves_rep _
  obtain ⟨us, h1, h2⟩ := fill_run h hx hz0
  refine ⟨.agg us.toArray, ?_, us, rfl, h2⟩
  simp only [Instr.build, Sem.run_bind, hz, Result.andThen_ok, run_underlying hd, run_sizeOf hte, Array.toList_map, hzc]
  rw [h1]
  rfl

/-! #### len, min, max -/
theorem len_run (hm : MemOk P w ok m μ) {t : TypeId} {d : TypeDesc} (hd : P.underlying t = some d) {ty : TypeId} {lx l : L} {vx : Value} (hk : (∃ s, lx = .val .str s) ∧ d = .string ∨ ((∀ s, lx ≠ .val .str s) ∧ ∃ e, d = .slice e)) (he : Ev (lenOp lx) μ l) (hx : LRep P w ok m lx vx) :
    ∃ v, (Builtin.len_ #[t] ty #[vx]).run P w = .ok v w ∧ LRep P w ok m l v := by
  rcases hk with ⟨⟨s, rfl⟩, rfl⟩ | ⟨hns, e, rfl⟩
  · have := rep_str hx; subst this
    simp only [lenOp, ev_pure] at he; subst he
    refine ⟨_, ?_, mk_int _ _⟩
    have hz : (ByteArray.mk s.toArray).size = s.length := by simp [ByteArray.size]
    simp [Builtin.len_, run_underlying hd, goInt, hz]
  · have key : ∀ A n c, vx = .slice A n c → (Builtin.len_ #[t] ty #[vx]).run P w = .ok (.int .i64 n) w := by
      rintro A n c rfl
      simp [Builtin.len_, run_underlying hd, goInt]
    by_cases hn : lx = .nils
    · subst hn
      simp only [lenOp, ev_pure] at he; subst he
      simp only [LRep] at hx; subst hx
      exact ⟨_, key _ _ _ rfl, mk_int _ _⟩
    by_cases hvw : ∃ r cnt lo n, lx = .vw r cnt lo n
    · obtain ⟨r, cnt, lo, n, rfl⟩ := hvw
      simp only [lenOp, ev_pure] at he; subst he
      obtain ⟨A, c, k, _, rfl, _⟩ := hx
      exact ⟨_, key _ _ _ rfl, mk_int _ _⟩
    · have he' : Ev ((elemsAny lx).bind fun x => .pure (.val (.int .i64) (x.2.length : Int))) μ l := by
        cases lx
        case val t' x => cases t' <;> first | exact absurd rfl (hns x) | exact he
        case nils => exact absurd rfl hn
        case vw r cnt lo n => exact absurd ⟨r, cnt, lo, n, rfl⟩ hvw
        all_goals exact he
      rw [ev_bind] at he'
      obtain ⟨⟨t', xs⟩, hxs, he'⟩ := he'
      rw [ev_pure] at he'; subst he'
      obtain ⟨A, c, rfl, _⟩ := elemsAny_form hm hxs hx
      exact ⟨_, key _ _ _ rfl, mk_int _ _⟩
theorem min2_run {a b l : L} {va vb : Value} (he : Ev (min2 a b) μ l) (ha : LRep P w ok m a va) (hb : LRep P w ok m b vb) : ∃ v, (Builtin.min2 va vb).run P w = .ok v w ∧ LRep P w ok m l v := by
  unfold min2 at he
  split at he
  · have := rep_int ha; subst this
    have := rep_int hb; subst this
    rw [ev_pure] at he; subst he
    exact ⟨_, rfl, mk_int _ _⟩
  · have := rep_str ha; subst this
    have := rep_str hb; subst this
    rw [ev_pure] at he; subst he
    rename_i x y
    refine ⟨_, ?_, mk_str _⟩
    simp only [Builtin.min2, Op.stringOp, ByteArray.toList_mk, Sem.run_bind, Sem.run_pure, Result.andThen_ok, asBool]
    rw [show strMin x y = cond (Op.bytesLess x y || x == y) x y from rfl]
    cases (Op.bytesLess x y || x == y) <;> rfl
  · simp [ev_fail] at he
theorem max2_run {a b l : L} {va vb : Value} (he : Ev (max2 a b) μ l) (ha : LRep P w ok m a va) (hb : LRep P w ok m b vb) : ∃ v, (Builtin.max2 va vb).run P w = .ok v w ∧ LRep P w ok m l v := by
  unfold max2 at he
  split at he
  · have := rep_int ha; subst this
    have := rep_int hb; subst this
    rw [ev_pure] at he; subst he
    exact ⟨_, rfl, mk_int _ _⟩
  · have := rep_str ha; subst this
    have := rep_str hb; subst this
    rw [ev_pure] at he; subst he
    rename_i x y
    refine ⟨_, ?_, mk_str _⟩
    simp only [Builtin.max2, Op.stringOp, ByteArray.toList_mk, Sem.run_bind, Sem.run_pure, Result.andThen_ok, asBool]
    rw [show strMax x y = cond (Op.bytesLess x y) y x from rfl]
    cases (Op.bytesLess x y) <;> rfl
  · simp [ev_fail] at he
theorem fold_run {f : L → L → RM L} {g : Value → Value → Sem Value} (hf : ∀ {a b l va vb}, Ev (f a b) μ l → LRep P w ok m a va → LRep P w ok m b vb → ∃ v, (g va vb).run P w = .ok v w ∧ LRep P w ok m l v) :
    ∀ {ls : List L} {a l : L} {va : Value} {vs : List Value}, Ev (foldRM f a ls) μ l → LRep P w ok m a va → LReps P w ok m ls vs → ∃ v, (vs.foldlM g va).run P w = .ok v w ∧ LRep P w ok m l v
  | [], a, l, va, vs, he, ha, hl => by
    simp only [LReps] at hl; subst hl
    simp only [foldRM, ev_pure] at he; subst he
    exact ⟨va, rfl, ha⟩
  | b :: ls, a, l, va, _, he, ha, hl => by
    obtain ⟨vb, vs', rfl, h1, h2⟩ := hl
    simp only [foldRM, ev_bind] at he
    obtain ⟨c, hc, he⟩ := he
    obtain ⟨v, hv, hr⟩ := hf hc ha h1
    obtain ⟨u, hu, hr'⟩ := fold_run hf he hr h2
    exact ⟨u, by simp [List.foldlM_cons, hv, hu], hr'⟩

/-! #### Texts -/
theorem bytes_of_holds : ∀ {xs : List Int} {v : Value}, (T.slice (.int .u8)).holds w ok xs [v] → ∃ A c, v = .slice A xs.length c ∧ ((A = none ∧ xs = []) ∨ ∃ a, A = some a ∧ (loadCells a xs.length).run P w = .ok (xs.map (Value.int .u8)).toArray w) := by
  intro xs v h
  simp only [T.holds] at h
  obtain ⟨A, c, hv, _, h⟩ := h
  simp only [List.cons.injEq, and_true] at hv
  refine ⟨A, c, hv, ?_⟩
  rcases h with ⟨rfl, _⟩ | ⟨b, off, C, e, fr, rfl, _, hh, hx⟩
  · cases A with
    | none => exact .inl ⟨rfl, rfl⟩
    | some a => exact .inr ⟨a, rfl, by simpa using run_loadCells_list (P := P) (w := w) a [] (by simp)⟩
  · refine .inr ⟨_, rfl, ?_⟩
    have := run_loadCells_list (P := P) (w := w) ⟨b, off, none⟩ (xs.map (Value.int .u8)) (fun j u hu => by
      rw [List.getElem?_map, Option.map_eq_some_iff] at hu
      obtain ⟨x, hx1, rfl⟩ := hu
      obtain ⟨ds, hd, hj⟩ := hx j x hx1
      subst hd
      rw [add_plain, cell_of hh]
      have := hj 0 (.int .u8 x) rfl
      simpa [T.cnt] using this)
    simpa using this
theorem toStr_run {src dst e : TypeId} (hs : P.underlying src = some (.slice e)) (he : P.underlying e = some (.int .u8)) (hd : P.underlying dst = some .string) {xs : List Int} {v : Value} (h : (T.slice (.int .u8)).holds w ok xs [v]) :
    (convert src dst v).run P w = .ok (.string ⟨(toBytes xs).toArray⟩) w := by
  obtain ⟨A, c, rfl, hh⟩ := bytes_of_holds (P := P) h
  rcases hh with ⟨h1, rfl⟩ | ⟨a, h1, hl⟩ <;> subst h1
  · exact run_convert_bytes_nil w src e hs he 0 c dst hd
  · rw [run_convert_bytes_string w src dst e _ _ _ hs he hd, run_bytesToString w a _ _ xs hl, foldl_push_bytes]
    simp [ByteArray.empty, ByteArray.emptyWithCapacity, toBytes]
    rfl
end
end Go.GG

/- New blocks: the machine lays them so. -/
namespace Go.GG
open Go.RowKit
section
variable {τ : Tabs} {P : Program} {E : Entry} {m : IMap} {s : St} {a : Act} {w : World}

def setMem (μ : Nat → Option C) (id : Nat) (c : C) : Nat → Option C := fun r => cond (Nat.beq r id) (some c) (μ r)
theorem setMem_self (μ : Nat → Option C) (id : Nat) (c : C) : setMem μ id c id = some c := by simp [setMem]
theorem setMem_other (μ : Nat → Option C) {id r : Nat} (c : C) (h : r ≠ id) : setMem μ id c r = μ r := by
  have : Nat.beq r id = false := by
    cases hb : Nat.beq r id with
    | false => rfl
    | true => exact absurd (Nat.eq_of_beq_eq_true hb) h
  simp [setMem, this]
def setMap (m : IMap) (id : Nat) (i : Impl) : IMap := fun r => if r = id then some i else m r
theorem setMap_self (m : IMap) (id : Nat) (i : Impl) : setMap m id i id = some i := by simp [setMap]
theorem setMap_other (m : IMap) {id r : Nat} (i : Impl) (h : r ≠ id) : setMap m id i r = m r := by simp [setMap, h]
theorem Rel.fresh (h : Rel P E m s a w) {id : Nat} (hid : s.used id = false) : m id = none := by
  cases hm : m id with
  | none => rfl
  | some i => rw [h.used id (by rw [hm]; simp)] at hid; cases hid
theorem ext_set {id : Nat} {i : Impl} (h : m id = none) : Ext m (setMap m id i) := Ext.of fun r j hr => by
  rw [setMap_other _ _ (fun e => by subst e; rw [h] at hr; cases hr)]; exact hr
/-- A new block of the state's own. -/
theorem Rel.new (h : Rel P E m s a w) {id : Nat} (hid : s.used id = false) (hlt : id < lentBase) {c : C} {i : Impl} {w' : World} (hb : Below w.heap.size w w')
    (hblk : ∀ b, b ∈ i.blocks → w.heap.size ≤ b ∧ b < w'.heap.size)
    (hrep : ∀ ok' m', Keeps w w' (okOf E m s.mem w) ok' → Ext m m' → CRep P w' ok' m' c i) :
    Rel P E (setMap m id i) { s with mem := setMem s.mem id c, used := fun r => cond (Nat.beq r id) true (s.used r) } a w' ∧
      Ext m (setMap m id i) ∧ setMap m id i id = some i ∧ Keeps w w' (okOf E m s.mem w) (okOf E (setMap m id i) (setMem s.mem id c) w') := by
  have hm0 := h.fresh hid
  have hext : Ext m (setMap m id i) := ext_set hm0
  have hidmem : s.mem id = none := by
    cases hc : s.mem id with
    | none => rfl
    | some c => obtain ⟨j, hj, _⟩ := h.mem id c hc; rw [hm0] at hj; cases hj
  have old : ∀ r c', setMem s.mem id c r = some c' → (r = id ∧ c' = c) ∨ (r ≠ id ∧ s.mem r = some c' ∧ setMap m id i r = m r) := by
    intro r c' hr
    by_cases e : r = id
    · subst e; rw [setMem_self] at hr; exact .inl ⟨rfl, by simpa using hr.symm⟩
    · rw [setMem_other _ _ e] at hr; exact .inr ⟨e, hr, setMap_other _ _ e⟩
  have hok : ∀ b, okOf E m s.mem w b → w'.heap[b]? = w.heap[b]? ∧ ¬ Vof (setMap m id i) (setMem s.mem id c) b := by
    intro b hbo
    refine ⟨hb.block b hbo.1, ?_⟩
    rintro ⟨r, c', j, h1, h2, h3⟩
    rcases old r c' h1 with ⟨rfl, rfl⟩ | ⟨e, h4, h5⟩
    · rw [setMap_self] at h2; simp at h2; subst h2
      have := (hblk b h3).1
      have := hbo.1
      omega
    · rw [h5] at h2; exact hbo.2.2 ⟨r, c', j, h4, h2, h3⟩
  have hk := h.keeps hb.size hok
  refine ⟨h.turn hext (fun r hr => ?_) (fun b hb' _ => hb.block b (Nat.lt_of_lt_of_le hb' h.goes.size)) hb.size hb.os hb.tape hb.output hok (fun r c' hr => ?_) (fun r r' c1 c2 i1 i2 b h1 h2 h3 h4 h5 h6 => ?_) (fun r hr hl => ?_) (fun r j hj => ?_), hext, setMap_self _ _ _, hk⟩
  · by_cases e : r = id
    · subst e; simp
    · rw [setMap_other _ _ e] at hr; simp [h.used r hr]
  · rcases old r c' hr with ⟨rfl, rfl⟩ | ⟨e, h4, h5⟩
    · exact ⟨i, setMap_self _ _ _, hrep _ _ hk hext, fun b hb' => ⟨(hblk b hb').2, .inr (Nat.le_trans h.goes.size (hblk b hb').1)⟩⟩
    · obtain ⟨j, h1, h2, h3⟩ := h.mem r c' h4
      exact ⟨j, h5.trans h1, h2.mono hk hext (fun b hb' => hb.block b (h3 b hb').1), fun b hb' => ⟨Nat.lt_of_lt_of_le (h3 b hb').1 hb.size, (h3 b hb').2⟩⟩
  · rcases old r c1 h1 with ⟨rfl, rfl⟩ | ⟨e, h7, h8⟩ <;> rcases old r' c2 h2 with ⟨rfl, rfl⟩ | ⟨e', h9, h10⟩
    · rfl
    · rw [setMap_self] at h3; simp at h3; subst h3
      rw [h10] at h4
      obtain ⟨j, hj1, _, hj3⟩ := h.mem r' c2 h9
      rw [h4] at hj1; simp at hj1; subst hj1
      have := (hj3 b h6).1; have := (hblk b h5).1; omega
    · rw [setMap_self] at h4; simp at h4; subst h4
      rw [h8] at h3
      obtain ⟨j, hj1, _, hj3⟩ := h.mem r c1 h7
      rw [h3] at hj1; simp at hj1; subst hj1
      have := (hj3 b h5).1; have := (hblk b h6).1; omega
    · rw [h8] at h3; rw [h10] at h4; exact h.inj r r' c1 c2 i1 i2 b h7 h9 h3 h4 h5 h6
  · by_cases e : r = id
    · omega
    · rw [setMem_other _ _ e] at hr; exact hr
  · by_cases e : r = id
    · subst e; rw [setMap_self] at hj; simp at hj; subst hj; exact (hrep _ _ hk hext).shape
    · rw [setMap_other _ _ e] at hj; exact h.shape r j hj

theorem below_alloc (w : World) (o : Obj) : Below w.heap.size w (w.alloc o) := (Below.refl _ w).alloc (Nat.le_refl _) o
theorem alloc_new (w : World) (o : Obj) : (w.alloc o).heap[w.heap.size]? = some o := by
  show (w.heap.push o)[w.heap.size]? = some o
  simp

/-- What an operation without a world of its own gives. -/
theorem does_new {o : Oper} (h : Rel P E m s a w) (hd : ∀ n, o.dst = some n → E.may n) {id : Nat} (hid : s.used id = false) (hlt : id < lentBase) {c : C} {i : Impl} {w' : World} (hb : Below w.heap.size w w')
    (hblk : ∀ b, b ∈ i.blocks → w.heap.size ≤ b ∧ b < w'.heap.size)
    (hrep : ∀ ok' m', Keeps w w' (okOf E m s.mem w) ok' → Ext m m' → CRep P w' ok' m' c i) {l : L} {v : Value} (hr : (execOp a.eval o).run P w = .ok (.value v) w')
    (hl : ∀ ok' m', Ext m m' → m' id = some i → LRep P w' ok' m' l v) : Does P E o s a w ⟨l, [(id, some c)], [id]⟩ := by
  obtain ⟨h1, h2, h3, h4⟩ := h.new hid hlt hb hblk hrep
  exact does_turn hd hr h1 (hl _ _ h2 h3)

theorem alloc_does {dst t : Nat} {ty : TypeId} {pos : String} {after : Array Edge} {guard : Option (Nat × Bool)} (h : Rel P E m s a w) (hd : E.may dst) (hid : s.used dst = false) (hlt : dst < lentBase) {i : TI} (ht : TOk P t i) :
    Does P E ⟨some dst, .alloc t, ty, pos, after, guard⟩ s a w ⟨.ptr dst 0, [(dst, some (.cells (zeroLs i)))], [dst]⟩ := by
  obtain ⟨z, hz, hzc⟩ := run_zeroValue (w := w) ht
  refine does_new (w' := w.alloc (.cells i.zero.toArray t)) (i := .var w.heap.size) h (by simp; omega) hid hlt (below_alloc _ _) (fun b hb => ?_) (fun ok' m' _ _ => ?_) (v := .pointer (some ⟨w.heap.size, 0, none⟩)) ?_ (fun ok' m' _ hm => ⟨_, hm, rfl⟩)
  · simp [Impl.blocks] at hb; subst hb; simp
  · exact ⟨i.zero, t, alloc_new _ _, absLeaves_rep _⟩
  · simp [execOp, Instr.alloc, hz, newVar, newRow, hzc]
theorem box_does {dst t : Nat} {x : Operand} {ty : TypeId} {pos : String} {after : Array Edge} {guard : Option (Nat × Bool)} (h : Rel P E m s a w) (hd : E.may dst) (hid : s.used dst = false) (hlt : dst < lentBase)
    (hc : LReps P w (okOf E m s.mem w) m (leavesOf (ev s x)) (a.eval x).cells.toList) :
    Does P E ⟨some dst, .box t x, ty, pos, after, guard⟩ s a w ⟨.ptr dst 0, [(dst, some (.cells (leavesOf (ev s x))))], [dst]⟩ := by
  refine does_new (w' := w.alloc (.cells (a.eval x).cells t)) (i := .var w.heap.size) h (by simp; omega) hid hlt (below_alloc _ _) (fun b hb => ?_) (fun ok' m' hk hm => ?_) (v := .pointer (some ⟨w.heap.size, 0, none⟩)) ?_ (fun ok' m' _ hm => ⟨_, hm, rfl⟩)
  · simp [Impl.blocks] at hb; subst hb; simp
  · exact ⟨(a.eval x).cells.toList, t, by simpa using alloc_new w (.cells (a.eval x).cells t), hc.mono hk hm⟩
  · simp [execOp, Instr.box, newVar, newRow]

/-! ### Rows that are laid -/
theorem takeElems_row {ok : Nat → Prop} {t : T} : ∀ {n : Nat} {ls : List L} {xs : List t.den} {vs : List Value}, takeElems t t.cnt n ls = some xs → LReps P w ok m ls vs →
    xs.length = n ∧ ∀ i x, xs[i]? = some x → ∃ ds, t.holds w ok x ds ∧ ∀ j u, ds[j]? = some u → vs[i * t.cnt + j]? = some u
  | 0, ls, xs, vs, h, hl => by simp only [takeElems, Option.some.injEq] at h; subst h; simp
  | n + 1, ls, xs, vs, h, hl => by
    simp only [takeElems] at h
    split at h
    · simp at h
    · rename_i x hx
      split at h
      · simp at h
      · rename_i ys hy
        simp only [Option.some.injEq] at h; subst h
        obtain ⟨h1, h2⟩ := takeElems_row hy (hl.drop t.cnt)
        have h3 := implode_holds hx (hl.take t.cnt)
        refine ⟨by simp [h1], fun i x' hi => ?_⟩
        cases i with
        | zero =>
          simp at hi; subst hi
          refine ⟨_, h3, fun j u hu => ?_⟩
          rw [List.getElem?_take] at hu
          split at hu
          · simpa using hu
          · simp at hu
        | succ i =>
          simp at hi
          obtain ⟨ds, hd, hj⟩ := h2 i x' hi
          refine ⟨ds, hd, fun j u hu => ?_⟩
          have := hj j u hu
          rw [List.getElem?_drop] at this
          rw [← this]; congr 1; rw [Nat.add_mul]; omega
theorem repeatLs_reps {ok : Nat → Prop} {zs : List Value} : ∀ n, LReps P w ok m (repeatLs n (zs.map absLeaf)) (List.replicate n zs).flatten
  | 0 => rfl
  | n + 1 => by
    rw [List.replicate_succ, List.flatten_cons]
    exact (absLeaves_rep _).append (repeatLs_reps n)
theorem flatten_get {α : Type} (zs : List α) (hz : 0 < zs.length) : ∀ (n j : Nat), j < n * zs.length → (List.replicate n zs).flatten[j]? = zs[j % zs.length]?
  | 0, j, h => by simp at h
  | n + 1, j, h => by
    rw [List.replicate_succ, List.flatten_cons]
    by_cases hj : j < zs.length
    · rw [List.getElem?_append_left hj, Nat.mod_eq_of_lt hj]
    · rw [List.getElem?_append_right (by omega), flatten_get zs hz n _ (by rw [Nat.add_mul] at h; omega)]
      congr 1
      rw [Nat.mod_eq_sub_mod (by omega : zs.length ≤ j)]
theorem range_zero (zs : List Value) (n : Nat) (hz : 0 < zs.length) : (Array.range (n * zs.length)).map (fun i => zs.toArray[i % zs.toArray.size]!) = (List.replicate n zs).flatten.toArray := by
  apply Array.ext_getElem?
  intro j
  by_cases hj : j < n * zs.length
  · have h1 : j % zs.length < zs.length := Nat.mod_lt _ hz
    have e := flatten_get zs hz n j hj
    simp only [Array.getElem?_map, List.getElem?_toArray, e]
    simp [hj, h1]
  · rw [Array.getElem?_eq_none (by simp; omega), Array.getElem?_eq_none (by simp [List.length_flatten]; omega)]
theorem ownRow_new {ok : Nat → Prop} {t : T} {xs : List t.den} {cs : List Value} {e : TypeId} {cap b : Nat} {fr : Nat × Nat} (hb : w.heap[b]? = some (.cells cs.toArray e fr)) (hn : xs.length ≤ cap) (hc : cap * t.cnt ≤ cs.length)
    (hf : FrOk t cs.length fr) (hx : ∀ i x, xs[i]? = some x → ∃ ds, t.holds w ok x ds ∧ ∀ j u, ds[j]? = some u → cs[i * t.cnt + j]? = some u) : OwnRow w ok t xs (.slice (some ⟨b, 0, none⟩) xs.length cap) := by
  refine .inr ⟨b, cs.toArray, e, fr, cap, rfl, hn, by simpa using hc, hb, by simpa using hf, fun i x hi => ?_⟩
  obtain ⟨ds, hd, hj⟩ := hx i x hi
  exact ⟨ds, hd, fun j u hu => by simpa using hj j u hu⟩
theorem elems_mono {w' : World} {ok ok' : Nat → Prop} {t : T} {xs : List t.den} {cs : List Value} (hk : Keeps w w' ok ok') (hx : ∀ i x, xs[i]? = some x → ∃ ds, t.holds w ok x ds ∧ ∀ j u, ds[j]? = some u → cs[i * t.cnt + j]? = some u) :
    ∀ i x, xs[i]? = some x → ∃ ds, t.holds w' ok' x ds ∧ ∀ j u, ds[j]? = some u → cs[i * t.cnt + j]? = some u := fun i x hi =>
  let ⟨ds, hd, hj⟩ := hx i x hi
  ⟨ds, T.holds_mono hk hd, hj⟩
/-- A row that is laid in a block of its own. -/
theorem does_row {o : Oper} (h : Rel P E m s a w) (hd : ∀ n, o.dst = some n → E.may n) {id : Nat} (hid : s.used id = false) (hlt : id < lentBase) {t : T} {xs : List t.den} {cs : List Value} {e : TypeId} {cap : Nat} {fr : Nat × Nat} {w1 : World}
    (hw1 : Below w.heap.size w w1) (hsz : w1.heap.size = w.heap.size) (hn : xs.length ≤ cap) (hc : cap * t.cnt ≤ cs.length) (hf : FrOk t cs.length fr)
    (hx : ∀ i x, xs[i]? = some x → ∃ ds, t.holds w (okOf E m s.mem w) x ds ∧ ∀ j u, ds[j]? = some u → cs[i * t.cnt + j]? = some u)
    (hr : (execOp a.eval o).run P w = .ok (.value (.slice (some ⟨w.heap.size, 0, none⟩) xs.length cap)) (w1.alloc (.cells cs.toArray e fr))) : Does P E o s a w ⟨.sref id, [(id, some (.arr t xs))], [id]⟩ := by
  have hb : Below w.heap.size w (w1.alloc (.cells cs.toArray e fr)) := hw1.alloc (by omega) _
  have hnew : (w1.alloc (.cells cs.toArray e fr)).heap[w.heap.size]? = some (.cells cs.toArray e fr) := by rw [← hsz]; exact alloc_new _ _
  refine does_new (i := .arr (.slice (some ⟨w.heap.size, 0, none⟩) xs.length cap)) h hd hid hlt hb (fun b hb' => ?_) (fun ok' m' hk _ => ?_) hr (fun ok' m' _ hm => .inl hm)
  · simp [Impl.blocks] at hb'; subst hb'; simp [hsz]
  · exact ownRow_new hnew hn hc hf (elems_mono hk hx)
/-- A nil row. -/
theorem does_nil {o : Oper} (h : Rel P E m s a w) (hd : ∀ n, o.dst = some n → E.may n) {id : Nat} (hid : s.used id = false) (hlt : id < lentBase) {t : T}
    (hr : (execOp a.eval o).run P w = .ok (.value (.slice none 0 0)) w) : Does P E o s a w ⟨.sref id, [(id, some (.arr t []))], [id]⟩ :=
  does_new (c := .arr t []) (i := .arr (.slice none 0 0)) h hd hid hlt (Below.refl _ w) (fun b hb => by simp [Impl.blocks] at hb) (fun _ _ _ _ => Or.inl ⟨rfl, rfl⟩) hr (fun _ _ _ hm => Or.inl hm)

/-- The state, some rows given away first. -/
theorem does_drop {o : Oper} {μ' : Nat → Option C} {l : L} {es gone : List (Nat × Option C)} {al : List Nat} (hμ : editMem gone s.mem = μ')
    (hg : Does P E o { s with mem := μ' } a w ⟨l, es, al⟩) : Does P E o s a w ⟨l, gone ++ es, al⟩ := by
  intro next Q hn
  refine hg next Q (fun a' w' hr => hn a' w' ?_)
  have : apply s o.dst ⟨l, gone ++ es, al⟩ = apply { s with mem := μ' } o.dst ⟨l, es, al⟩ := by
    simp only [apply, editMem_append, hμ]
  rw [this]; exact hr

theorem range0 (f : Nat → Value) : (Array.range 0).map f = #[] := Array.eq_empty_of_size_eq_zero (by simp)
theorem fillLs_len {pl : Nat → Option (Nat × Nat)} : ∀ {ps : List (Nat × L)} {cells ls : List L}, fillLs pl cells ps = some ls → ls.length = cells.length
  | [], _, _, h => by simp only [fillLs, Option.some.injEq] at h; rw [h]
  | (i, l) :: ps, cells, ls, h => by
    simp only [fillLs] at h
    split at h
    · simp at h
    · rename_i off size _
      cases hb : (Nat.beq (leavesOf l).length size && Nat.ble (off + size) cells.length) with
      | false => rw [hb] at h; simp at h
      | true =>
        rw [hb] at h
        simp only [cond_true] at h
        simp only [Bool.and_eq_true] at hb
        have hb1 := Nat.eq_of_beq_eq_true hb.1
        have hb2 := Nat.le_of_ble_eq_true hb.2
        rw [fillLs_len h]
        simp
        omega
theorem repeatLs_len (n : Nat) (zs : List L) : (repeatLs n zs).length = n * zs.length := by
  induction n with
  | zero => simp [repeatLs]
  | succ n ih => simp only [repeatLs, List.length_append, ih, Nat.add_mul]; omega
theorem buildSlice_does {dst t n e : Nat} {ps : List (Nat × Operand)} {ty : TypeId} {pos : String} {after : Array Edge} {guard : Option (Nat × Bool)} (h : Rel P E m s a w) (hd : E.may dst) (hid : s.used dst = false) (hlt : dst < lentBase)
    {i ei : TI} (ht : TOk P t i) (hk : i.kind = .slice e) (hte : TOk P e ei) {et : T} (hcnt : et.cnt = ei.size) (hbig : n * ei.size ≤ 16777216) {ls ls' : List L} {gone : List (Nat × Option C)} {xs : List et.den}
    (hf : fillLs (fun j => some (j * ei.size, ei.size)) (repeatLs n (zeroLs ei)) (ps.map fun p => (p.1, ev s p.2)) = some ls) (hx : ∀ p ∈ ps, LReps P w (okOf E m s.mem w) m (leavesOf (ev s p.2)) (a.eval p.2).cells.toList)
    (hp : Ev (purify ls) s.mem (ls', gone)) (he : takeElems et ei.size n ls' = some xs) :
    Does P E ⟨some dst, .buildSlice t n ps.toArray, ty, pos, after, guard⟩ s a w ⟨.sref dst, gone ++ [(dst, some (.arr et xs))], [dst]⟩ := by
  obtain ⟨d, hdd, hs⟩ := ht.desc
  rw [hk] at hs
  rw [summ_slice hs] at hdd
  obtain ⟨z, hz, hzc⟩ := run_zeroValue (w := w) hte
  have hpos : 0 < ei.size := hcnt ▸ cnt_pos et
  have hone := purify_none hp
  have hμ : ∀ r c, editMem gone s.mem r = some c → s.mem r = some c := fun r c hc => (editMem_none hone hc).1
  have h' := h.drop hμ
  obtain ⟨us, hu1, hu2⟩ := fill_run (P := P) (w := w) hf hx (repeatLs_reps (zs := ei.zero) n)
  have hus := purify_reps h hμ hp (fun r hr => by
    cases hc : editMem gone s.mem r with
    | none => rfl
    | some c => exact absurd hr (editMem_none hone hc).2) hu2
  rw [← hcnt] at he
  obtain ⟨hxl, hxe⟩ := takeElems_row he hus
  have hul : us.length = n * ei.size := by
    rw [hu2.length, fillLs_len hf, repeatLs_len]
    simp [zeroLs, hte.len]
  refine does_drop rfl (does_row (w1 := w) (fr := (0, 0)) (e := e) (cs := us) (cap := n) h' (by simp; omega) hid hlt (Below.refl _ w) rfl (by omega) (by rw [hul, hcnt]; exact Nat.le_refl _) (.inl rfl) hxe ?_)
  have e1 : (ps.toArray.map fun (x : Nat × Operand) => (x.1, a.eval x.2)).toList = ps.map fun p => (p.1, a.eval p.2) := by simp
  simp only [execOp, Instr.buildSlice, Sem.run_bind, run_underlying hdd, Result.andThen_ok, run_sizeOf hte]
  rw [if_neg (by omega), hxl]
  by_cases hn : n * ei.size = 0
  · have hn0 : n = 0 := by rcases Nat.mul_eq_zero.1 hn with h1 | h1 <;> omega
    subst hn0
    simp only [hn, if_true, Sem.run_bind, Sem.run_pure, Result.andThen_ok]
    simp only [List.replicate_zero, List.flatten_nil] at hu1
    rw [e1, range0, hu1]
    simp [newRow]
  · have hr := range_zero ei.zero n (by rw [hte.len]; exact hpos)
    rw [hte.len] at hr
    simp only [if_neg hn, Sem.run_bind, Sem.run_pure, Result.andThen_ok, hz, hzc]
    rw [e1, hr, hu1]
    simp [newRow]
theorem replicate_row {ok : Nat → Prop} {t : T} {z : t.den} {zs : List Value} (hz : t.holds w ok z zs) (n : Nat) : ∀ i x, (List.replicate n z)[i]? = some x → ∃ ds, t.holds w ok x ds ∧ ∀ j u, ds[j]? = some u → (List.replicate n zs).flatten[i * t.cnt + j]? = some u := by
  intro i x hi
  rw [List.getElem?_replicate] at hi
  split at hi
  · rename_i hin
    simp at hi; subst hi
    have hl := T.holds_len hz
    refine ⟨zs, hz, fun j u hu => ?_⟩
    have hj : j < zs.length := (List.getElem?_eq_some_iff.1 hu).1
    rw [flatten_get zs (by omega) n _ (by
      have : (i + 1) * t.cnt ≤ n * t.cnt := Nat.mul_le_mul_right _ hin
      rw [Nat.add_mul] at this
      rw [hl]; omega)]
    rw [← hu, ← hl]
    congr 1
    rw [Nat.mul_comm, Nat.mul_add_mod, Nat.mod_eq_of_lt hj]
  · simp at hi
theorem wrap_i64 {n : Int} (h0 : -9223372036854775808 ≤ n) (h1 : n ≤ 9223372036854775807) : IntKind.i64.wrap n = n := by
  have : IntKind.i64.wrap n = if n % 18446744073709551616 ≥ 9223372036854775808 then n % 18446744073709551616 - 18446744073709551616 else n % 18446744073709551616 := by
    simp [IntKind.wrap, IntKind.bits, IntKind.signed]
  rw [this]
  split <;> omega
theorem makeSlice_does {dst t e : Nat} {x y : Operand} {ty : TypeId} {pos : String} {after : Array Edge} {guard : Option (Nat × Bool)} (h : Rel P E m s a w) (hd : E.may dst) (hid : s.used dst = false) (hlt : dst < lentBase)
    {i ei : TI} (ht : TOk P t i) (hk : i.kind = .slice e) (hte : TOk P e ei) {et : T} (hcnt : et.cnt = ei.size) {n : Int} {k k' : IntKind} (hx : a.eval x = .int k n) (hy : a.eval y = .int k' n) (h0 : 0 ≤ n) (hroom : n.toNat * ei.bytes ≤ 140737488355328) (hbytes : ei.bytes ≠ 0)
    {z : et.den} (hz : et.implode (zeroLs ei) = some z) :
    Does P E ⟨some dst, .makeSlice t x y, ty, pos, after, guard⟩ s a w ⟨.sref dst, [(dst, some (.arr et (List.replicate n.toNat z)))], [dst]⟩ := by
  obtain ⟨d, hdd, hs⟩ := ht.desc
  rw [hk] at hs
  rw [summ_slice hs] at hdd
  obtain ⟨zv, hzv, hzc⟩ := run_zeroValue (w := w) hte
  obtain ⟨di, hi1, _, hi3, _⟩ := hte.inf
  have hpos : 0 < ei.size := hcnt ▸ cnt_pos et
  have hzh : et.holds w (okOf E m s.mem w) z ei.zero := implode_holds (P := P) (m := m) hz (absLeaves_rep _)
  have hle : n.toNat ≤ 140737488355328 := Nat.le_trans (Nat.le_mul_of_pos_right _ (by omega)) hroom
  have hw : IntKind.i64.wrap n = n := wrap_i64 (by omega) (by omega)
  have hlen : (List.replicate n.toNat z).length = n.toNat := by simp
  have key : Does P E ⟨some dst, .makeSlice t x y, ty, pos, after, guard⟩ s a w ⟨.sref dst, [(dst, some (.arr et (List.replicate n.toNat z)))], [dst]⟩ := by
    refine does_row (w1 := w) (fr := (0, 0)) (e := e) (cs := (List.replicate n.toNat ei.zero).flatten) (cap := n.toNat) h (by simp; omega) hid hlt (Below.refl _ w) rfl (by simp) (by simp [List.length_flatten, hte.len, hcnt]) (.inl rfl) (replicate_row hzh _) ?_
    have htl : ¬ (n < 0 ∨ (2 : Int) ^ 48 < (ei.bytes : Int) * n) := by
      have h1 : (ei.bytes : Int) * n = ((n.toNat * ei.bytes : Nat) : Int) := by rw [Int.natCast_mul, Int.mul_comm]; congr 1; omega
      rw [h1]; omega
    have hn0 : ¬ n < 0 := by omega
    have hb : ¬ (2 : Int) ^ 48 < (ei.bytes : Int) * n := fun hh => htl (.inr hh)
    simp only [execOp, Instr.makeSlice, Sem.run_bind, run_underlying hdd, Result.andThen_ok, hx, hy, asInt, asIntOf, Sem.run_pure, run_typeInfo hi1, hi3, hw]
    simp only [hn0, decide_false, hb, gt_iff_lt, Bool.or_self, Int.lt_irrefl, Bool.false_eq_true, if_false, Sem.run_bind, run_askRoom, Result.andThen_ok, run_sizeOf hte]
    by_cases hn : n.toNat * ei.size = 0
    · have hn1 : n.toNat = 0 := by rcases Nat.mul_eq_zero.1 hn with h1 | h1 <;> omega
      simp only [hn, if_true, Sem.run_bind, Sem.run_pure, Result.andThen_ok]
      rw [hn1, range0]
      simp [newRow]
    · have hr := range_zero ei.zero n.toNat (by rw [hte.len]; exact hpos)
      rw [hte.len] at hr
      simp only [if_neg hn, Sem.run_bind, Sem.run_pure, Result.andThen_ok, hzv, hzc]
      rw [hr]
      simp [newRow]
  exact key
end
end Go.GG

/- Stores, appends: the machine does so. -/
namespace Go.GG
open Go.RowKit
section
variable {P : Program} {w : World} {ok : Nat → Prop} {m : IMap}
theorem holds_one : ∀ {t : T} {x : t.den} {cs : List Value}, t.holds w ok x cs → ∀ v ∈ cs, v.oneCell' = true
  | .int _, _, _, h => by simp only [T.holds] at h; subst h; simp [Value.oneCell']
  | .bool, _, _, h => by simp only [T.holds] at h; subst h; simp [Value.oneCell']
  | .str, _, _, h => by simp only [T.holds] at h; subst h; simp [Value.oneCell']
  | .slice _, _, _, h => by simp only [T.holds] at h; obtain ⟨_, _, rfl, _⟩ := h; simp [Value.oneCell']
  | .opt _, _, _, h => by simp only [T.holds] at h; rcases h with ⟨_, rfl⟩ | ⟨_, _, _, _, _, _, _, _, rfl, _⟩ <;> simp [Value.oneCell']
  | .pb, _, _, h => by simp only [T.holds] at h; rcases h with ⟨_, rfl⟩ | ⟨_, _, rfl⟩ <;> simp [Value.oneCell']
  | .raw, _, _, h => by simp only [T.holds] at h; subst h; simp [Value.oneCell']
  | .ib, _, _, h => by simp only [T.holds] at h; rcases h with ⟨_, rfl⟩ | ⟨_, _, _, rfl⟩ <;> simp [Value.oneCell']
  | .box _ _, _, _, h => by simp only [T.holds] at h; obtain ⟨_, _, _, _, _, rfl, _⟩ := h; simp [Value.oneCell']
  | .pair p q, x, _, h => by
    simp only [T.holds] at h
    obtain ⟨c, d, rfl, h1, h2⟩ := h
    intro v hv
    rcases List.mem_append.1 hv with hv | hv
    · exact holds_one h1 v hv
    · exact holds_one h2 v hv
end
section
variable {τ : Tabs} {P : Program} {E : Entry} {m : IMap} {s : St} {a : Act} {w : World}

def delMem (μ : Nat → Option C) (r : Nat) : Nat → Option C := fun r' => cond (Nat.beq r' r) none (μ r')
theorem delMem_some {μ : Nat → Option C} {r r' : Nat} {c : C} (h : delMem μ r r' = some c) : r' ≠ r ∧ μ r' = some c := by
  unfold delMem at h
  cases hb : Nat.beq r' r with
  | true => rw [hb] at h; simp at h
  | false => rw [hb] at h; exact ⟨fun e => by subst e; simp at hb, h⟩
/-- A block of the state's own is turned by a call. -/
theorem Rel.editG (h : Rel P E m s a w) {r : Nat} {c c' : C} {i : Impl} (hc : s.mem r = some c) (hi : m r = some i) {w' : World} (hw : Goes (fun b => b ∈ i.blocks) w w')
    (hrep : ∀ ok', Keeps w w' (okOf E m s.mem w) ok' → CRep P w' ok' m c' i) : Rel P E m { s with mem := setMem s.mem r c' } a w' := by
  obtain ⟨j, hj1, _, hj3⟩ := h.mem r c hc
  rw [hi] at hj1; simp at hj1; subst hj1
  have hV : ∀ b', Vof m (setMem s.mem r c') b' → Vof m s.mem b' := by
    rintro b' ⟨r', d, i', h1, h2, h3⟩
    by_cases e : r' = r
    · subst e; exact ⟨r', c, i', hc, h2, h3⟩
    · rw [setMem_other _ _ e] at h1; exact ⟨r', d, i', h1, h2, h3⟩
  have hok : ∀ b', okOf E m s.mem w b' → w'.heap[b']? = w.heap[b']? ∧ ¬ Vof m (setMem s.mem r c') b' := fun b' hb' =>
    ⟨hw.block b' hb'.1 (fun e => hb'.2.2 ⟨r, c, i, hc, hi, e⟩), fun hv => hb'.2.2 (hV b' hv)⟩
  have hk := h.keeps hw.size hok
  refine h.turn (Ext.refl m) h.used (fun b' hb' hv => hw.block b' (Nat.lt_of_lt_of_le hb' h.goes.size) (fun e => ?_)) hw.size hw.os hw.tape hw.output hok (fun r' d hd => ?_) (fun r1 r2 c1 c2 i1 i2 b' h1 h2 h3 h4 h5 h6 => ?_) (fun r' hr' _ => ?_) h.shape
  · have := (hj3 b' e).2; rcases this with h1 | h1
    · exact hv h1
    · omega
  · by_cases e : r' = r
    · subst e; rw [setMem_self] at hd; simp at hd; subst hd
      exact ⟨i, hi, hrep _ hk, fun b' hb' => ⟨Nat.lt_of_lt_of_le (hj3 b' hb').1 hw.size, (hj3 b' hb').2⟩⟩
    · rw [setMem_other _ _ e] at hd
      obtain ⟨i', h1, h2, h3⟩ := h.mem r' d hd
      exact ⟨i', h1, h2.mono hk (Ext.refl m) (fun b' hb' => hw.block b' (h3 b' hb').1 (fun e' => e (h.inj r' r d c i' i b' hd hc h1 hi hb' e'))), fun b' hb' => ⟨Nat.lt_of_lt_of_le (h3 b' hb').1 hw.size, (h3 b' hb').2⟩⟩
  · have g : ∀ r1 c1, setMem s.mem r c' r1 = some c1 → ∃ d1, s.mem r1 = some d1 := by
      intro r1 c1 h1
      by_cases e : r1 = r
      · exact ⟨c, e ▸ hc⟩
      · rw [setMem_other _ _ e] at h1; exact ⟨c1, h1⟩
    obtain ⟨d1, hd1⟩ := g r1 c1 h1
    obtain ⟨d2, hd2⟩ := g r2 c2 h2
    exact h.inj r1 r2 d1 d2 i1 i2 b' hd1 hd2 h3 h4 h5 h6
  · by_cases e : r' = r
    · subst e; simp [hc]
    · obtain ⟨d, hd⟩ := Option.isSome_iff_exists.1 hr'
      rw [setMem_other _ _ e] at hd
      simp [hd]
/-- A block of the state's own is written. -/
theorem Rel.edit (h : Rel P E m s a w) {r : Nat} {c c' : C} {i : Impl} {b : Nat} (hc : s.mem r = some c) (hi : m r = some i) (hb1 : i.blocks = [b]) {w' : World} (hw : ∀ k, k ≠ b → w'.heap[k]? = w.heap[k]?)
    (hsz : w'.heap.size = w.heap.size) (hos : w'.os = w.os) (htp : w'.tape = w.tape) (hout : w'.output = w.output)
    (hrep : ∀ ok', Keeps w w' (okOf E m s.mem w) ok' → CRep P w' ok' m c' i) : Rel P E m { s with mem := setMem s.mem r c' } a w' := by
  have hb : b ∈ i.blocks := by simp [hb1]
  obtain ⟨j, hj1, _, hj3⟩ := h.mem r c hc
  rw [hi] at hj1; simp at hj1; subst hj1
  have hV : ∀ b', Vof m (setMem s.mem r c') b' → Vof m s.mem b' := by
    rintro b' ⟨r', d, i', h1, h2, h3⟩
    by_cases e : r' = r
    · subst e; exact ⟨r', c, i', hc, h2, h3⟩
    · rw [setMem_other _ _ e] at h1; exact ⟨r', d, i', h1, h2, h3⟩
  have hok : ∀ b', okOf E m s.mem w b' → w'.heap[b']? = w.heap[b']? ∧ ¬ Vof m (setMem s.mem r c') b' := fun b' hb' =>
    ⟨hw b' (fun e => hb'.2.2 (e ▸ ⟨r, c, i, hc, hi, hb⟩)), fun hv => hb'.2.2 (hV b' hv)⟩
  have hk := h.keeps (by omega) hok
  refine h.turn (Ext.refl m) h.used (fun b' hb' hv => hw b' (fun e => ?_)) (by omega) hos htp hout hok (fun r' d hd => ?_) (fun r1 r2 c1 c2 i1 i2 b' h1 h2 h3 h4 h5 h6 => ?_) (fun r' hr' _ => ?_) h.shape
  · subst e; have := (hj3 b' hb).2; rcases this with h1 | h1
    · exact hv h1
    · omega
  · by_cases e : r' = r
    · subst e; rw [setMem_self] at hd; simp at hd; subst hd
      exact ⟨i, hi, hrep _ hk, fun b' hb' => ⟨by rw [hsz]; exact (hj3 b' hb').1, (hj3 b' hb').2⟩⟩
    · rw [setMem_other _ _ e] at hd
      obtain ⟨i', h1, h2, h3⟩ := h.mem r' d hd
      exact ⟨i', h1, h2.mono hk (Ext.refl m) (fun b' hb' => hw b' (fun e' => e (h.inj r' r d c i' i b' hd hc h1 hi hb' (e' ▸ hb)))), fun b' hb' => ⟨by rw [hsz]; exact (h3 b' hb').1, (h3 b' hb').2⟩⟩
  · have g : ∀ r1 c1, setMem s.mem r c' r1 = some c1 → ∃ d1, s.mem r1 = some d1 := by
      intro r1 c1 h1
      by_cases e : r1 = r
      · exact ⟨c, e ▸ hc⟩
      · rw [setMem_other _ _ e] at h1; exact ⟨c1, h1⟩
    obtain ⟨d1, hd1⟩ := g r1 c1 h1
    obtain ⟨d2, hd2⟩ := g r2 c2 h2
    exact h.inj r1 r2 d1 d2 i1 i2 b' hd1 hd2 h3 h4 h5 h6
  · by_cases e : r' = r
    · subst e; simp [hc]
    · rw [setMem_other _ _ e] at hr'; exact hr'
/-- A block goes on under another name. -/
theorem Rel.move (h : Rel P E m s a w) {r id : Nat} {c c' : C} {i i' : Impl} {b : Nat} (hc : s.mem r = some c) (hi : m r = some i) (hb1 : i.blocks = [b]) (hid : s.used id = false) (hlt : id < lentBase) {w' : World} (hw : ∀ k, k ≠ b → w'.heap[k]? = w.heap[k]?)
    (hsz : w'.heap.size = w.heap.size) (hos : w'.os = w.os) (htp : w'.tape = w.tape) (hout : w'.output = w.output) (hb' : i'.blocks = [b])
    (hrep : ∀ ok' m', Keeps w w' (okOf E m s.mem w) ok' → Ext m m' → CRep P w' ok' m' c' i') :
    Rel P E (setMap m id i') { s with mem := setMem (delMem s.mem r) id c', used := fun r => cond (Nat.beq r id) true (s.used r) } a w' ∧ setMap m id i' id = some i' := by
  have hb : b ∈ i.blocks := by simp [hb1]
  have hm0 := h.fresh hid
  have hext : Ext m (setMap m id i') := ext_set hm0
  obtain ⟨j, hj1, _, hj3⟩ := h.mem r c hc
  rw [hi] at hj1; simp at hj1; subst hj1
  have old : ∀ r' d, setMem (delMem s.mem r) id c' r' = some d → (r' = id ∧ d = c') ∨ (r' ≠ id ∧ r' ≠ r ∧ s.mem r' = some d ∧ setMap m id i' r' = m r') := by
    intro r' d hr
    by_cases e : r' = id
    · subst e; rw [setMem_self] at hr; exact .inl ⟨rfl, by simpa using hr.symm⟩
    · rw [setMem_other _ _ e] at hr
      obtain ⟨h1, h2⟩ := delMem_some hr
      exact .inr ⟨e, h1, h2, setMap_other _ _ e⟩
  have hok : ∀ b', okOf E m s.mem w b' → w'.heap[b']? = w.heap[b']? ∧ ¬ Vof (setMap m id i') (setMem (delMem s.mem r) id c') b' := by
    intro b' hbo
    refine ⟨hw b' (fun e => hbo.2.2 (e ▸ ⟨r, c, i, hc, hi, hb⟩)), ?_⟩
    rintro ⟨r', d, j, h1, h2, h3⟩
    rcases old r' d h1 with ⟨rfl, rfl⟩ | ⟨_, _, h4, h5⟩
    · rw [setMap_self] at h2; simp at h2; subst h2
      rw [hb', List.mem_singleton] at h3
      rw [h3] at hbo
      exact hbo.2.2 ⟨r, c, i, hc, hi, hb⟩
    · rw [h5] at h2; exact hbo.2.2 ⟨r', d, j, h4, h2, h3⟩
  have hk := h.keeps (by omega) hok
  refine ⟨h.turn hext (fun r' hr => ?_) (fun b1 hb1 hv => hw b1 (fun e => ?_)) (by omega) hos htp hout hok (fun r' d hd => ?_) (fun r1 r2 c1 c2 i1 i2 b1 h1 h2 h3 h4 h5 h6 => ?_) (fun r' hr hl => ?_) (fun r' j hj => ?_), setMap_self _ _ _⟩
  · by_cases e : r' = id
    · subst e; simp
    · rw [setMap_other _ _ e] at hr; simp [h.used r' hr]
  · subst e; have := (hj3 b1 hb).2; rcases this with h1 | h1
    · exact hv h1
    · omega
  · rcases old r' d hd with ⟨rfl, rfl⟩ | ⟨e1, e2, h4, h5⟩
    · exact ⟨i', setMap_self _ _ _, hrep _ _ hk hext, fun b1 hb1 => by rw [hb', List.mem_singleton] at hb1; rw [hb1]; exact ⟨by rw [hsz]; exact (hj3 b hb).1, (hj3 b hb).2⟩⟩
    · obtain ⟨i2, h1, h2, h3⟩ := h.mem r' d h4
      exact ⟨i2, h5.trans h1, h2.mono hk hext (fun b1 hb1 => hw b1 (fun e' => e2 (h.inj r' r d c i2 i b1 h4 hc h1 hi hb1 (e' ▸ hb)))), fun b1 hb1 => ⟨by rw [hsz]; exact (h3 b1 hb1).1, (h3 b1 hb1).2⟩⟩
  · rcases old r1 c1 h1 with ⟨rfl, rfl⟩ | ⟨e, e0, h7, h8⟩ <;> rcases old r2 c2 h2 with ⟨rfl, rfl⟩ | ⟨e', e0', h9, h10⟩
    · rfl
    · rw [setMap_self] at h3; simp at h3; subst h3
      rw [hb', List.mem_singleton] at h5
      rw [h5] at h6
      rw [h10] at h4
      exact absurd (h.inj r2 r c2 c i2 i b h9 hc h4 hi h6 hb) e0'
    · rw [setMap_self] at h4; simp at h4; subst h4
      rw [hb', List.mem_singleton] at h6
      rw [h6] at h5
      rw [h8] at h3
      exact absurd (h.inj r1 r c1 c i1 i b h7 hc h3 hi h5 hb) e0
    · rw [h8] at h3; rw [h10] at h4; exact h.inj r1 r2 c1 c2 i1 i2 b1 h7 h9 h3 h4 h5 h6
  · by_cases e : r' = id
    · omega
    · rw [setMem_other _ _ e] at hr
      obtain ⟨d, hd⟩ := Option.isSome_iff_exists.1 hr
      simp [(delMem_some hd).2]
  · by_cases e : r' = id
    · subst e; rw [setMap_self] at hj; simp at hj; subst hj; exact (hrep _ _ hk hext).shape
    · rw [setMap_other _ _ e] at hj; exact h.shape r' j hj

/-! ### Stores -/
theorem run_storeAt (b o : Nat) (t : TypeId) (fz : Nat × Nat) : ∀ (vs : List Value) (i : Nat) (cur : Array Value) (w : World), w.heap[b]? = some (.cells cur t fz) → (∀ j, j < cur.size → ¬ (fz.1 ≤ j ∧ j < fz.2)) → o + i + vs.length ≤ cur.size → (∀ v ∈ vs, v.oneCell' = true) →
    (storeCells ⟨b, o, none⟩ vs i).run P w = .ok () (w.setRow b (cur.toList.take (o + i) ++ vs ++ cur.toList.drop (o + i + vs.length)).toArray)
  | [], i, cur, w, hg, _, _, _ => by
    simp only [storeCells, List.append_nil, List.length_nil, Nat.add_zero, List.take_append_drop, Array.toArray_toList]
    rw [setRow_self w b cur t fz hg]
    rfl
  | v :: rest, i, cur, w, hg, hf, hl, h1 => by
    have hi : o + i < cur.size := by simp at hl; omega
    have hcell : w.cell? ⟨b, o + i, none⟩ = some cur[o + i] := by simp [World.cell?, hg, hi]
    have hfro : w.frozen? ⟨b, o + i, none⟩ = false := by
      have := hf _ hi
      simp only [World.frozen?, hg]
      simpa using this
    have hst : (store ((⟨b, o, none⟩ : Addr).add i) v).run P w = .ok () (w.setRow b (cur.setIfInBounds (o + i) v)) := by
      rw [add_plain, run_store P w _ v _ (h1 v (by simp)), hcell]
      simp [hfro, setCell_eq_setRow w b (o + i) cur t fz v hg]
    have ih := run_storeAt b o t fz rest (i + 1) (cur.setIfInBounds (o + i) v) (w.setRow b (cur.setIfInBounds (o + i) v)) (setRow_heap w b cur _ t _ hg) (by simpa using hf) (by simp at hl ⊢; omega) (fun x hx => h1 x (by simp [hx]))
    simp only [storeCells, Sem.run_bind, hst, Result.andThen_ok, ih, setRow_setRow]
    congr 3
    have e := list_seg_step cur.toList (o + i) v rest (by simp at hl ⊢; omega)
    simpa [Array.toList_setIfInBounds, Nat.add_assoc] using e
theorem rep_one (h : Rel P E m s a w) {l : L} {v : Value} (h1 : l.one = true) (hr : LRep P w (okOf E m s.mem w) m l v) : v.oneCell' = true := by
  cases l <;> simp only [L.one, Bool.false_eq_true] at h1
  · exact holds_one hr v (by simp)
  · obtain ⟨_, a, n, c, rfl⟩ := hr; rfl
  · simp only [LRep] at hr; subst hr; rfl
  · obtain ⟨_, A, rfl⟩ := hr; rfl
  · simp only [LRep] at hr
    rcases hr with hr | hr <;> (obtain ⟨A, n, c, rfl⟩ := h.shape _ _ hr; rfl)
  · obtain ⟨b, _, rfl⟩ := hr; rfl
  · simp only [LRep] at hr; subst hr; rfl
  · obtain ⟨b, o, _, _, _, _, rfl, _⟩ := hr; rfl
  · obtain ⟨b, o, _, _, _, rfl⟩ := hr; rfl
  · obtain ⟨caps, rfl, _⟩ := hr; rfl
  · obtain ⟨f, caps, rfl, _⟩ := hr; rfl
  · obtain ⟨_, _, _, _, _, _, rfl, _⟩ := hr; rfl
  · obtain ⟨A, c, k, _, rfl, _⟩ := hr; rfl
  · obtain ⟨b, _, rfl⟩ := hr; rfl
  · simp only [LRep] at hr; subst hr; rfl
  · obtain ⟨b, _, _, _, rfl, _⟩ := hr; rfl
  · obtain ⟨b, _, rfl⟩ := hr; rfl
  · obtain ⟨b, bx, ty, _, rfl, _⟩ := hr; rfl
  · obtain ⟨bs, hr⟩ := hr
    obtain ⟨_, A, n, c, rfl⟩ := h.shape _ _ hr; rfl
  · obtain ⟨b, o, n, c, bs, _, rfl⟩ := hr; rfl
  · simp only [LRep] at hr; subst hr; rfl
theorem reps_one (h : Rel P E m s a w) : ∀ {ls : List L} {vs : List Value}, LReps P w (okOf E m s.mem w) m ls vs → ls.all L.one = true → ∀ v ∈ vs, v.oneCell' = true
  | [], _, hl, _ => by simp only [LReps] at hl; subst hl; simp
  | l :: ls, _, hl, h1 => by
    obtain ⟨v, vs', rfl, h2, h3⟩ := hl
    simp only [List.all_cons, Bool.and_eq_true] at h1
    intro u hu
    cases hu with
    | head => exact rep_one h h1.1 h2
    | tail _ hu => exact reps_one h h3 h1.2 u hu
theorem leaves_cells (h : Rel P E m s a w) {l : L} {v : Value} (hl : LRep P w (okOf E m s.mem w) m l v) (h1 : (leavesOf l).all L.one = true) : LReps P w (okOf E m s.mem w) m (leavesOf l) v.cells.toList ∧ ∀ u ∈ v.cells.toList, u.oneCell' = true := by
  have hc : LReps P w (okOf E m s.mem w) m (leavesOf l) v.cells.toList := leavesOf_reps hl (fun hn => by
    have hl1 : leavesOf l = [l] := by cases l <;> first | rfl | exact absurd rfl (hn _)
    rw [hl1] at h1
    simp only [List.all_cons, List.all_nil, Bool.and_true] at h1
    have := rep_one h h1 hl
    cases v <;> first | rfl | simp [Value.oneCell'] at this)
  exact ⟨hc, reps_one h hc h1⟩
theorem storeLs_some {i : TI} {ls v ls' : List L} {off : Nat} (h : storeLs i ls off v = some ls') : v.length = i.size ∧ off + i.size ≤ ls.length ∧ ls' = ls.take off ++ v ++ ls.drop (off + i.size) := by
  unfold storeLs at h
  cases hb : (Nat.beq v.length i.size && Nat.ble (off + i.size) ls.length) with
  | false => rw [hb] at h; simp at h
  | true =>
    rw [hb] at h
    simp only [cond_true, Option.some.injEq] at h
    simp only [Bool.and_eq_true] at hb
    exact ⟨Nat.eq_of_beq_eq_true hb.1, Nat.le_of_ble_eq_true hb.2, h.symm⟩
theorem editMem_keep : ∀ {es : List (Nat × Option C)} {μ : Nat → Option C} {r : Nat}, r ∉ es.map (·.1) → editMem es μ r = μ r
  | [], _, _, _ => rfl
  | (x, c) :: es, μ, r, h => by
    simp only [List.map_cons, List.mem_cons, not_or] at h
    simp only [editMem]
    rw [editMem_keep h.2]
    have : Nat.beq r x = false := by
      cases hb : Nat.beq r x with
      | false => rfl
      | true => exact absurd (Nat.eq_of_beq_eq_true hb) h.1
    simp [this]
theorem purify_one : ∀ {ls ls' : List L} {gone : List (Nat × Option C)} {μ : Nat → Option C}, Ev (purify ls) μ (ls', gone) → ls'.all L.one = true → ls.all L.one = true
  | [], _, _, _, _, _ => rfl
  | l :: ls, ls', gone, μ, h, h1 => by
    have key : ∀ l', Ev ((purify ls).bind fun x => RM.pure (l' :: x.1, x.2)) μ (ls', gone) → l'.one = true ∧ ls.all L.one = true := by
      intro l' h
      rw [ev_bind] at h
      obtain ⟨⟨b1, b2⟩, hb, h⟩ := h
      simp only [ev_pure, Prod.mk.injEq] at h
      obtain ⟨rfl, rfl⟩ := h
      simp only [List.all_cons, Bool.and_eq_true] at h1
      exact ⟨h1.1, purify_one hb h1.2⟩
    simp only [List.all_cons, Bool.and_eq_true]
    cases l
    case sref r =>
      simp only [purify] at h
      rw [ev_get] at h
      split at h
      · rw [ev_bind] at h
        obtain ⟨⟨b1, b2⟩, hb, h⟩ := h
        simp only [ev_pure, Prod.mk.injEq] at h
        obtain ⟨rfl, rfl⟩ := h
        simp only [List.all_cons, Bool.and_eq_true] at h1
        exact ⟨rfl, purify_one hb h1.2⟩
      · simp [ev_fail] at h
    all_goals exact key _ h
theorem splice_get {α : Type} {C v : List α} {p : Nat} (h : p + v.length ≤ C.length) (k : Nat) : (C.take p ++ v ++ C.drop (p + v.length))[k]? = if k < p then C[k]? else if k < p + v.length then v[k - p]? else C[k]? := by
  by_cases h1 : k < p
  · rw [if_pos h1, List.append_assoc, List.getElem?_append_left (by simp; omega), List.getElem?_take, if_pos h1]
  · rw [if_neg h1]
    by_cases h2 : k < p + v.length
    · rw [if_pos h2, List.append_assoc, List.getElem?_append_right (by simp; omega), List.getElem?_append_left (by simp; omega)]
      congr 1; simp; omega
    · rw [if_neg h2, List.getElem?_append_right (by simp; omega), List.getElem?_drop]
      congr 1; simp; omega
theorem store_does {d : Option Nat} {t : Nat} {x y : Operand} {ty : TypeId} {pos : String} {after : Array Edge} {guard : Option (Nat × Bool)} (h : Rel P E m s a w) (hd : ∀ n, d = some n → E.may n)
    {i : TI} (ht : TOk P t i) {res : Res} (he : Ev (storeOp i (ev s y) (ev s x)) s.mem res) : Does P E ⟨d, .store t x y, ty, pos, after, guard⟩ s a w res := by
  have hx := h.eval x
  have hy := h.eval y
  have run : ∀ (b o : Nat) (C : Array Value) (e : TypeId) (fz : Nat × Nat), a.eval x = .pointer (some ⟨b, o, none⟩) → w.heap[b]? = some (.cells C e fz) → (∀ j, j < C.size → ¬ (fz.1 ≤ j ∧ j < fz.2)) → (a.eval y).cells.size = i.size →
      o + i.size ≤ C.size → (∀ u ∈ (a.eval y).cells.toList, u.oneCell' = true) → (execOp a.eval ⟨d, .store t x y, ty, pos, after, guard⟩).run P w = .ok .skip (w.setRow b (C.toList.take o ++ (a.eval y).cells.toList ++ C.toList.drop (o + i.size)).toArray) := by
    intro b o C e fz hp hb hf hsz hle h1
    have := run_storeAt (P := P) b o e fz (a.eval y).cells.toList 0 C w hb hf (by simp [hsz]; exact hle) h1
    simp only [Nat.add_zero, Array.length_toList, hsz] at this
    simp [execOp, Instr.storeAt, Instr.sureAddr, storeVar, hp, run_sizeOf ht, hsz, this]
  generalize hlx : ev s x = lx at he hx
  cases lx <;> simp only [storeOp, ev_fail] at he
  case ptr r off =>
    rw [ev_get] at he
    split at he
    · rename_i ls hr
      split at he
      · rename_i ls' hs
        rw [ev_cond, ev_fail, ev_pure] at he
        obtain ⟨h1, rfl⟩ := he.resolve_right (by simp)
        obtain ⟨hy1, hy2⟩ := leaves_cells h hy h1
        obtain ⟨hs1, hs2, rfl⟩ := storeLs_some hs
        obtain ⟨b, hm1, hp⟩ := hx
        obtain ⟨j, hj1, hj2, hj3⟩ := h.mem r _ hr
        rw [hm1] at hj1; simp at hj1; subst hj1
        obtain ⟨vs, e, hh, hv⟩ := hj2
        have hlen := hv.length
        have hysz : (a.eval y).cells.size = i.size := by have := hy1.length; simpa [hs1] using this
        refine does_skip hd (run b off vs.toArray e (0, 0) hp hh (by simp) hysz (by simp [hlen]; omega) hy2) (m' := m) (h.edit (c' := .cells (ls.take off ++ leavesOf (ev s y) ++ ls.drop (off + i.size))) hr hm1 rfl (fun k hk => setRow_other w b k _ hk) (by simp) rfl rfl rfl (fun ok' hk => ?_)) rfl
        exact ⟨vs.take off ++ (a.eval y).cells.toList ++ vs.drop (off + i.size), e, setRow_heap w b _ _ e _ hh, (((hv.take off).append hy1).append (hv.drop _)).mono hk (Ext.refl m)⟩
      · simp [ev_fail] at he
    · simp [ev_fail] at he
  case aptr r cnt n off =>
    rw [ev_bind] at he
    obtain ⟨⟨vs', gone⟩, hp, he⟩ := he
    rw [ev_get] at he
    split at he
    · rename_i t' xs hr
      rw [ev_cond, ev_fail] at he
      replace he := he.resolve_right (by simp)
      obtain ⟨hc, he⟩ := he
      simp only [Bool.and_eq_true] at hc
      obtain ⟨⟨hc1, hc2⟩, hc3⟩ := hc
      have hcnt := Nat.eq_of_beq_eq_true hc1
      subst hcnt
      rw [ev_opt] at he
      obtain ⟨z, hz, he⟩ := he
      split at he
      · rename_i ls' hs
        split at he
        · rename_i z' hz'
          rw [ev_pure] at he; subst he
          have hone := purify_none hp
          have hμ : ∀ r c, editMem gone s.mem r = some c → s.mem r = some c := fun r c hc => (editMem_none hone hc).1
          have hr1 : editMem gone s.mem r = some (.arr t' xs) := by rw [editMem_keep (by simpa [disjoint] using hc3)]; exact hr
          have h' := h.drop hμ
          obtain ⟨hy1, hy2⟩ := leaves_cells h hy (purify_one hp hc2)
          have hy3 := purify_reps h hμ hp (fun r hr => by
            cases hc : editMem gone s.mem r with
            | none => rfl
            | some c => exact absurd hr (editMem_none hone hc).2) hy1
          obtain ⟨hs1, hs2, rfl⟩ := storeLs_some hs
          rw [explode_len] at hs2
          obtain ⟨b, o, n', c, hm1, hpt⟩ := hx
          obtain ⟨j, hj1, hj2, hj3⟩ := h'.mem r _ hr1
          have hm1' : m r = some (.arr (.slice (some ⟨b, o, none⟩) n' c)) := by
            rcases hm1 with hm1 | hm1
            · exact hm1
            · rw [hm1] at hj1; simp at hj1; subst hj1; simp [CRep] at hj2
          rw [hm1'] at hj1; simp at hj1; subst hj1
          rcases hj2 with ⟨hbad, _⟩ | ⟨b', C, e, fr, cap, hsl, hcap1, hcap2, hh, hfr, hel⟩
          · simp at hbad
          simp only [Value.slice.injEq, Option.some.injEq, Addr.mk.injEq] at hsl
          obtain ⟨⟨rfl, rfl, _⟩, rfl, rfl⟩ := hsl
          have hysz : (a.eval y).cells.size = i.size := by have := hy3.length; simpa [hs1] using this
          have hn : n < xs.length := (List.getElem?_eq_some_iff.1 hz).1
          have hbound : (n + 1) * t'.cnt ≤ C.size := Nat.le_trans (Nat.mul_le_mul_right _ (by omega)) hcap2
          rw [Nat.add_mul] at hbound
          have hple : 0 + n * t'.cnt + off + i.size ≤ C.size := by omega
          refine does_drop rfl ?_
          refine does_skip hd (run b _ C e fr hpt hh hfr.free hysz hple hy2) (m' := m) (h'.edit (c' := .arr t' (xs.set n z')) hr1 hm1' rfl (fun k hk => setRow_other w b k _ hk) (by simp) rfl rfl rfl (fun ok' hk => ?_)) rfl
          have hsp := splice_get (C := C.toList) (v := (a.eval y).cells.toList) (p := 0 + n * t'.cnt + off) (by simp [hysz]; omega)
          simp only [Array.length_toList, hysz] at hsp
          refine .inr ⟨b, _, e, fr, c, by simp, by simp; omega, ?_, setRow_heap w b _ _ e _ hh, ?_, fun k x hk' => ?_⟩
          · simp [hysz]; omega
          · have hsz' : (C.toList.take (0 + n * t'.cnt + off) ++ (a.eval y).cells.toList ++ C.toList.drop (0 + n * t'.cnt + off + i.size)).toArray.size = C.size := by simp [hysz]; omega
            rw [hsz']; exact hfr
          · rw [List.getElem?_set] at hk'
            by_cases hkn : n = k
            · subst hkn
              simp [hn] at hk'
              subst hk'
              obtain ⟨ds, hd1, hd2⟩ := hel n z hz
              have hdl := T.holds_len hd1
              have hnew := (((explode_reps (P := P) (m := m) hd1).take off).append hy3).append ((explode_reps (P := P) (m := m) hd1).drop (off + i.size))
              refine ⟨ds.take off ++ (a.eval y).cells.toList ++ ds.drop (off + i.size), T.holds_mono hk (implode_holds hz' hnew), fun j u hu => ?_⟩
              have hsd := splice_get (C := ds) (v := (a.eval y).cells.toList) (p := off) (by simp [hysz, hdl]; omega) j
              simp only [Array.length_toList, hysz] at hsd
              rw [hsd] at hu
              simp only [List.getElem?_toArray]
              rw [hsp]
              by_cases h1 : j < off
              · rw [if_pos h1] at hu
                rw [if_pos (by omega)]
                simpa using hd2 j u hu
              · rw [if_neg h1] at hu
                by_cases h2 : j < off + i.size
                · rw [if_pos h2] at hu
                  rw [if_neg (by omega), if_pos (by omega), ← hu]
                  congr 1; omega
                · rw [if_neg h2] at hu
                  rw [if_neg (by omega), if_neg (by omega)]
                  simpa using hd2 j u hu
            · rw [if_neg hkn] at hk'
              obtain ⟨ds, hd1, hd2⟩ := hel k x hk'
              have hdl := T.holds_len hd1
              refine ⟨ds, T.holds_mono hk hd1, fun j u hu => ?_⟩
              have hj : j < t'.cnt := by rw [← hdl]; exact (List.getElem?_eq_some_iff.1 hu).1
              have hkk : k < n ∨ n < k := by omega
              simp only [List.getElem?_toArray]
              rw [hsp]
              rcases hkk with h1 | h1
              · have : (k + 1) * t'.cnt ≤ n * t'.cnt := Nat.mul_le_mul_right _ h1
                rw [Nat.add_mul] at this
                rw [if_pos (by omega)]
                simpa using hd2 j u hu
              · have : (n + 1) * t'.cnt ≤ k * t'.cnt := Nat.mul_le_mul_right _ h1
                rw [Nat.add_mul] at this
                rw [if_neg (by omega), if_neg (by omega)]
                simpa using hd2 j u hu
        · simp [ev_fail] at he
      · simp [ev_fail] at he
    · simp [ev_fail] at he
end
end Go.GG
