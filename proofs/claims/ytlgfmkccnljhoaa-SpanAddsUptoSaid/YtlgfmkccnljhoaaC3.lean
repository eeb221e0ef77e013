/- What the operations do, and that the machine does so: those that leave memory alone. -/
import Derived.Test.YtlgfmkccnljhoaaC2
import Derived.Laws.Sem
import Derived.Laws.Cells
import Derived.Laws.World
import Derived.Laws.Strings
import Derived.Lib.Strings
namespace Go.GG
open Go.RowKit

/-! ### Reading memory -/
def RM.ev {α : Type} : RM α → (Nat → Option C) → Option (α × List Nat)
  | .pure a, _ => some (a, [])
  | .fail, _ => none
  | .get r k, μ => ((k (μ r)).ev μ).map fun p => (p.1, r :: p.2)
  | .assume b m, μ => cond b (m.ev μ) none
  | .opt o k, μ => o.bind fun x => (k x).ev μ
  | .cases o m k, μ => o.elim (m.ev μ) fun x => (k x).ev μ
  | .br b m n, μ => cond b (m.ev μ) (n.ev μ)
theorem RM.run_ev {α R : Type} : ∀ {m : RM α} {μ : Nat → Option C} {rs : List Nat} {K : α → List Nat → Option R} {r : R}, m.run μ rs K = some r →
    ∃ a r1 r2, m.ev μ = some (a, r1) ∧ K a r2 = some r ∧ (∀ x ∈ r1, x ∈ r2) ∧ ∀ x ∈ rs, x ∈ r2
  | .pure a, _, rs, _, _, h => ⟨a, [], rs, rfl, h, by simp, fun _ hx => hx⟩
  | .get r k, μ, rs, _, _, h => by
    obtain ⟨a, r1, r2, h1, h2, h3, h4⟩ := RM.run_ev (m := k (μ r)) h
    exact ⟨a, r :: r1, r2, by simp [RM.ev, h1], h2, fun x hx => by cases hx with
      | head => exact h4 r (by simp)
      | tail _ hx => exact h3 x hx, fun x hx => h4 x (by simp [hx])⟩
  | .assume b m, μ, rs, _, _, h => by
    cases b with
    | false => simp [RM.run] at h
    | true => exact RM.run_ev (m := m) h
  | .opt o k, μ, rs, _, _, h => by
    cases o with
    | none => simp [RM.run] at h
    | some x => exact RM.run_ev (m := k x) h
  | .cases o m k, μ, rs, _, _, h => by
    cases o with
    | none => exact RM.run_ev (m := m) h
    | some x => exact RM.run_ev (m := k x) h
  | .br b m n, μ, rs, _, _, h => by
    cases b with
    | false => exact RM.run_ev (m := n) h
    | true => exact RM.run_ev (m := m) h
theorem RM.ev_local {α : Type} : ∀ {m : RM α} {μ μ' : Nat → Option C} {a : α} {rs : List Nat}, m.ev μ = some (a, rs) → (∀ r ∈ rs, μ' r = μ r) → m.ev μ' = some (a, rs)
  | .pure a, _, _, _, _, h, _ => h
  | .fail, _, _, _, _, h, _ => by simp [RM.ev] at h
  | .get r k, μ, μ', a, rs, h, hr => by
    simp only [RM.ev, Option.map_eq_some_iff] at h
    obtain ⟨⟨b, rs1⟩, h1, h2⟩ := h
    simp at h2
    obtain ⟨rfl, rfl⟩ := h2
    have e : μ' r = μ r := hr r (by simp)
    simp only [RM.ev, e, RM.ev_local h1 (fun x hx => hr x (by simp [hx])), Option.map_some]
  | .assume b m, μ, μ', a, rs, h, hr => by
    cases b with
    | false => simp [RM.ev] at h
    | true => exact RM.ev_local (m := m) h hr
  | .opt o k, μ, μ', a, rs, h, hr => by
    cases o with
    | none => simp [RM.ev] at h
    | some x => exact RM.ev_local (m := k x) h hr
  | .cases o m k, μ, μ', a, rs, h, hr => by
    cases o with
    | none => exact RM.ev_local (m := m) h hr
    | some x => exact RM.ev_local (m := k x) h hr
  | .br b m n, μ, μ', a, rs, h, hr => by
    cases b with
    | false => exact RM.ev_local (m := n) h hr
    | true => exact RM.ev_local (m := m) h hr
/-- It comes to this. -/
def Ev {α : Type} (m : RM α) (μ : Nat → Option C) (a : α) : Prop := ∃ rs, m.ev μ = some (a, rs)
section
variable {α β : Type} {μ : Nat → Option C}
theorem ev_pure {a b : α} : Ev (.pure a) μ b ↔ a = b := by simp [Ev, RM.ev]
theorem ev_fail {b : α} : Ev (.fail : RM α) μ b ↔ False := by simp [Ev, RM.ev]
theorem ev_get {r : Nat} {k : Option C → RM α} {b : α} : Ev (.get r k) μ b ↔ Ev (k (μ r)) μ b := by
  constructor
  · rintro ⟨rs, h⟩
    simp only [RM.ev, Option.map_eq_some_iff] at h
    obtain ⟨⟨c, rs1⟩, h1, h2⟩ := h
    simp at h2
    exact ⟨rs1, h2.1 ▸ h1⟩
  · rintro ⟨rs, h⟩
    exact ⟨r :: rs, by simp [RM.ev, h]⟩
theorem ev_assume {c : Bool} {m : RM α} {b : α} : Ev (.assume c m) μ b ↔ c = true ∧ Ev m μ b := by cases c <;> simp [Ev, RM.ev]
theorem ev_opt {γ : Type} {o : Option γ} {k : γ → RM α} {b : α} : Ev (.opt o k) μ b ↔ ∃ x, o = some x ∧ Ev (k x) μ b := by cases o <;> simp [Ev, RM.ev]
theorem ev_cases {γ : Type} {o : Option γ} {m : RM α} {k : γ → RM α} {b : α} : Ev (.cases o m k) μ b ↔ (o = none ∧ Ev m μ b) ∨ ∃ x, o = some x ∧ Ev (k x) μ b := by cases o <;> simp [Ev, RM.ev]
theorem ev_br {c : Bool} {m n : RM α} {b : α} : Ev (.br c m n) μ b ↔ (c = true ∧ Ev m μ b) ∨ (c = false ∧ Ev n μ b) := by cases c <;> simp [Ev, RM.ev]
theorem ev_lift {o : Option α} {b : α} : Ev (RM.lift o) μ b ↔ o = some b := by cases o <;> simp [RM.lift, ev_pure, ev_fail]
theorem ev_bind : ∀ {m : RM α} {f : α → RM β} {b : β}, Ev (m.bind f) μ b ↔ ∃ a, Ev m μ a ∧ Ev (f a) μ b
  | .pure a, f, b => by simp [RM.bind, ev_pure]
  | .fail, f, b => by simp [RM.bind, ev_fail]
  | .get r k, f, b => by simp only [RM.bind, ev_get]; exact ev_bind
  | .assume c m, f, b => by simp only [RM.bind, ev_assume, ev_bind (m := m)]; exact ⟨fun ⟨h1, a, h2, h3⟩ => ⟨a, ⟨h1, h2⟩, h3⟩, fun ⟨a, ⟨h1, h2⟩, h3⟩ => ⟨h1, a, h2, h3⟩⟩
  | .opt o k, f, b => by
    cases o with
    | none => simp [RM.bind, ev_opt]
    | some x => simp only [RM.bind, ev_opt, Option.some.injEq, exists_eq_left']; exact ev_bind
  | .cases o m k, f, b => by
    cases o with
    | none => simp [RM.bind, ev_cases]; exact ev_bind
    | some x => simp [RM.bind, ev_cases]; exact ev_bind
  | .br c m n, f, b => by
    cases c with
    | false => simp [RM.bind, ev_br]; exact ev_bind
    | true => simp [RM.bind, ev_br]; exact ev_bind
theorem ev_cond {c : Bool} {m n : RM α} {b : α} : Ev (cond c m n) μ b ↔ (c = true ∧ Ev m μ b) ∨ (c = false ∧ Ev n μ b) := by cases c <;> simp
end

/-! ### The program's types -/
def EqOk (P : Program) (t : TypeId) (T' : T) : Prop := P.eqGuardType P.depth t = false ∧ ∀ (x y : T'.den) cs cs' w ok, T'.holds w ok x cs → T'.holds w ok y cs' →
  (Op.equal t (.agg cs.toArray) (.agg cs'.toArray)).run P w = .ok (T'.eqb x y) w
structure TOk (P : Program) (t : TypeId) (i : TI) : Prop where
  und : (P.underlying t).map summ = some i.kind
  info : (P.info? t).map (fun j => (j.size, j.bytes, j.zero.map Value.cells)) = some (i.size, i.bytes, some i.zero.toArray)
  len : i.zero.length = i.size
  eq : i.eq = true → ∀ T', i.t = some T' → EqOk P t T'
def TabOk (P : Program) (tab : Tab) : Prop := ∀ t i, tab.get t = some i → TOk P t i

theorem run_underlying {P : Program} {w : World} {t : TypeId} {d : TypeDesc} (h : P.underlying t = some d) : (underlying t).run P w = .ok d w := by
  simp [underlying, h]
theorem run_typeInfo {P : Program} {w : World} {t : TypeId} {d : TypeInfo} (h : P.info? t = some d) : (typeInfo t).run P w = .ok d w := by
  simp [typeInfo, h]
theorem TOk.desc {P : Program} {t : TypeId} {i : TI} (h : TOk P t i) : ∃ d, P.underlying t = some d ∧ summ d = i.kind := by
  have := h.und
  simpa [Option.map_eq_some_iff] using this
theorem TOk.inf {P : Program} {t : TypeId} {i : TI} (h : TOk P t i) : ∃ d, P.info? t = some d ∧ d.size = i.size ∧ d.bytes = i.bytes ∧ ∃ z, d.zero = some z ∧ z.cells = i.zero.toArray := by
  have := h.info
  simp only [Option.map_eq_some_iff, Prod.mk.injEq] at this
  obtain ⟨d, h1, h2, h3, z, h4, h5⟩ := this
  exact ⟨d, h1, h2, h3, z, h4, h5⟩
theorem run_sizeOf {P : Program} {w : World} {t : TypeId} {i : TI} (h : TOk P t i) : (sizeOf t).run P w = .ok i.size w := by
  obtain ⟨d, h1, h2, _⟩ := h.inf
  simp [sizeOf, run_typeInfo h1, h2]
theorem run_zeroValue {P : Program} {w : World} {t : TypeId} {i : TI} (h : TOk P t i) : ∃ z, (zeroValue t).run P w = .ok z w ∧ z.cells = i.zero.toArray := by
  obtain ⟨d, h1, _, _, z, h4, h5⟩ := h.inf
  exact ⟨z, by simp [zeroValue, run_typeInfo h1, h4], h5⟩
theorem run_isAgg {P : Program} {w : World} {t : TypeId} {i : TI} (h : TOk P t i) : (isAgg t).run P w = .ok i.isAgg w := by
  obtain ⟨d, h1, h2⟩ := h.desc
  simp only [isAgg, Sem.run_bind, run_underlying h1, Result.andThen_ok]
  simp only [TI.isAgg, ← h2]
  cases d <;> simp [summ]
theorem summ_slice {d : TypeDesc} {e : TypeId} (h : summ d = .slice e) : d = .slice e := by cases d <;> simp_all [summ]
theorem summ_str {d : TypeDesc} (h : summ d = .str) : d = .string := by cases d <;> simp_all [summ]
theorem summ_int {d : TypeDesc} {k : IntKind} (h : summ d = .int k) : d = .int k := by cases d <;> simp_all [summ]
theorem summ_bool {d : TypeDesc} (h : summ d = .bool) : d = .bool := by cases d <;> simp_all [summ]
theorem summ_array {d : TypeDesc} {n : Nat} {e : TypeId} (h : summ d = .array n e) : d = .array n e := by cases d <;> simp_all [summ]
theorem summ_ptr {d : TypeDesc} {e : TypeId} (h : summ d = .ptr e) : d = .pointer e := by cases d <;> simp_all [summ]
theorem summ_struct {d : TypeDesc} {fs : List (TypeId × Nat)} (h : summ d = .struct fs) : ∃ gs, d = .struct gs ∧ gs.toList.map (fun f => (f.type, f.offset)) = fs := by
  cases d <;> simp_all [summ]

/-! ### Operations -/
/-- The machine does so. -/
def Does (P : Program) (E : Entry) (o : Oper) (s : St) (a : Act) (w : World) (res : Res) : Prop :=
  ∀ (next : Act → World → Prop) (Q : Exit → Act → World → Prop), (∀ a' w', Rel' P E (apply s o.dst res) a' w' → next a' w') → o.wp P a w next Q
theorem apply_of (s : St) (d : Option Nat) (l : L) : apply s d (.of l) = put s d l := rfl
section
variable {P : Program} {E : Entry} {m : IMap} {s : St} {a : Act} {w : World} {o : Oper}
theorem does_val {l : L} {v : Value} (h : Rel P E m s a w) (hd : ∀ n, o.dst = some n → n < E.N) (hr : (execOp a.eval o).run P w = .ok (.value v) w)
    (hl : LRep P w (okOf E m s.mem w) m l v) : Does P E o s a w (.of l) := by
  intro next Q hn
  unfold Oper.wp
  rw [hr]
  exact hn _ _ ⟨m, h.put hl hd⟩
theorem does_turn {res : Res} {v : Value} {w' : World} {m' : IMap} (hd : ∀ n, o.dst = some n → n < E.N) (hr : (execOp a.eval o).run P w = .ok (.value v) w')
    (h : Rel P E m' { s with mem := editMem res.edits s.mem, used := addUsed res.allocs s.used } a w') (hl : LRep P w' (okOf E m' (editMem res.edits s.mem) w') m' res.val v) : Does P E o s a w res := by
  intro next Q hn
  unfold Oper.wp
  rw [hr]
  exact hn _ _ ⟨m', h.put hl hd⟩
theorem does_skip {res : Res} {w' : World} {m' : IMap} (hd : ∀ n, o.dst = some n → n < E.N) (hr : (execOp a.eval o).run P w = .ok .skip w')
    (h : Rel P E m' { s with mem := editMem res.edits s.mem, used := addUsed res.allocs s.used } a w') (hl : res.val = .skipped) : Does P E o s a w res := by
  intro next Q hn
  unfold Oper.wp
  rw [hr]
  exact hn _ _ ⟨m', h.put (by rw [hl]; rfl) hd⟩
end

/-! #### Arithmetic -/
theorem run_boundsIf {P : Program} {w : World} {k : IntKind} {i : Int} {y : Nat} {c : BoundsCode} (h : 0 ≤ i ∧ i ≤ y) : (if 0 ≤ i ∧ i ≤ (y : Int) then (pure i.toNat : Sem Nat) else boundsPanic k i y c).run P w = .ok i.toNat w := by
  rw [if_pos h]; rfl
end Go.GG
