/- Every operation. -/
import Derived.Test.YtlgfmkccnljhoaaC17
namespace Go.GG
open Go.RowKit
section
variable {P : Program} {E : Entry} {m : IMap} {s : St} {a : Act} {w : World}

theorem tabRM_some {α : Type} {tab : Tab} {t : TypeId} {k : TI → RM α} {μ : Nat → Option C} {x : α} (h : Ev (tabRM tab t k) μ x) : ∃ i, tab.get t = some i ∧ Ev (k i) μ x := by
  unfold tabRM at h
  split at h
  · rename_i i hi; exact ⟨i, hi, h⟩
  · simp [ev_fail] at h
theorem opVal_some {mm : RM L} {μ : Nat → Option C} {res : Res} (h : Ev (opVal mm) μ res) : ∃ l, Ev mm μ l ∧ res = .of l := by
  simp only [opVal, ev_bind, ev_pure] at h
  obtain ⟨l, h1, h2⟩ := h
  exact ⟨l, h1, h2.symm⟩
theorem plain_cells (h : Rel P E m s a w) {x : Operand} (hp : (ev s x).plain = true) : LReps P w (okOf E m s.mem w) m (leavesOf (ev s x)) (a.eval x).cells.toList := by
  have hl := h.eval x
  cases hc : ev s x
  case agg ls => rw [hc] at hl; obtain ⟨vs, hv, h1⟩ := hl; rw [hv]; simpa [leavesOf, Value.cells] using h1
  all_goals
    rw [hc] at hl hp
    exact (leaves_cells h hl (by simpa [leavesOf, L.plain] using hp)).1
theorem okCaps_caps : ∀ {ls : List L} {cs : List (Nat × Nat)} {vs : List Value} {ok : Nat → Prop}, okCaps ls = some cs → LReps P w ok m ls vs → capHolds m cs vs
  | [], cs, _, _, h, hl => by simp only [okCaps, Option.some.injEq] at h; subst h; exact hl
  | l :: ls, cs, _, _, h, hl => by
    cases l
    case ptr r off =>
      simp only [okCaps] at h
      split at h
      · rename_i cs' hcs
        simp only [Option.some.injEq] at h; subst h
        obtain ⟨v, vs, rfl, ⟨b, h1, rfl⟩, h2⟩ := hl
        exact ⟨b, vs, h1, rfl, okCaps_caps hcs h2⟩
      · simp at h
    all_goals simp [okCaps] at h
theorem parts_array (ps : Array (Nat × Operand)) : ps = ps.toList.toArray := by simp
theorem array1 {α : Type} {x : Array α} {a : α} (h : x.toList = [a]) : x = #[a] := by apply Array.ext'; simp [h]
theorem array2 {α : Type} {x : Array α} {a b : α} (h : x.toList = [a, b]) : x = #[a, b] := by apply Array.ext'; simp [h]
theorem map1 {α β : Type} {x : Array α} {f : α → β} {b : β} (h : x.toList.map f = [b]) : ∃ a, x.toList = [a] ∧ f a = b := by
  match x.toList, h with
  | [a], h => simp at h; exact ⟨a, rfl, h⟩
theorem map2 {α β : Type} {x : Array α} {f : α → β} {b c : β} (h : x.toList.map f = [b, c]) : ∃ a a', x.toList = [a, a'] ∧ f a = b ∧ f a' = c := by
  match x.toList, h with
  | [a, a'], h => simp at h; exact ⟨a, a', rfl, h⟩
theorem pick_does {dst : Option Nat} {c x y : Operand} {k d : Nat} {tab : Tab} {Γ : Env} (h : Rel P E m s a w) (hd : ∀ n, dst = some n → n < E.N) {res : Res} (he : Ev (aop tab Γ k d (ev s) (.pick c x y)) s.mem res)
    {ty : TypeId} {pos : String} {after : Array Edge} {guard : Option (Nat × Bool)} : Does P E ⟨dst, .pick c x y, ty, pos, after, guard⟩ s a w res := by
  simp only [aop] at he
  split at he
  · rename_i t hc
    have hv := h.eval c
    rw [hc] at hv
    have hb := rep_bool hv
    simp only [ev_br, ev_pure] at he
    rcases he with ⟨rfl, rfl⟩ | ⟨rfl, rfl⟩
    · exact does_val h hd (v := a.eval x) (by simp [execOp, hb, asBool]) (h.eval x)
    · exact does_val h hd (v := a.eval y) (by simp [execOp, hb, asBool]) (h.eval y)
  · simp [ev_fail] at he
theorem build_does {dst : Option Nat} {t : TypeId} {ps : Array (Nat × Operand)} {k d : Nat} {tab : Tab} (hT : TabOk P tab) {Γ : Env} (h : Rel P E m s a w) (hd : ∀ n, dst = some n → n < E.N) {res : Res} (he : Ev (aop tab Γ k d (ev s) (.build t ps)) s.mem res)
    {ty : TypeId} {pos : String} {after : Array Edge} {guard : Option (Nat × Bool)} : Does P E ⟨dst, .build t ps, ty, pos, after, guard⟩ s a w res := by
  simp only [aop] at he
  rcases ev_cond.1 he with ⟨hpl, he⟩ | ⟨_, he⟩
  case inr => simp [ev_fail] at he
  have hx : ∀ p ∈ ps.toList, LReps P w (okOf E m s.mem w) m (leavesOf (ev s p.2)) (a.eval p.2).cells.toList := fun p hp => plain_cells h (List.all_eq_true.1 hpl p hp)
  obtain ⟨i, hi, he⟩ := tabRM_some he
  have ht := hT _ _ hi
  have fin : ∀ {ls : List L}, (∃ v, (Instr.build t (ps.toList.toArray.map fun (p : Nat × Operand) => (p.1, a.eval p.2))).run P w = .ok v w ∧ LRep P w (okOf E m s.mem w) m (.agg ls) v) → Does P E ⟨dst, .build t ps, ty, pos, after, guard⟩ s a w (.of (.agg ls)) := by
    rintro ls ⟨v, hv, hl⟩
    refine does_val h hd (v := v) ?_ hl
    simp only [Array.toArray_toList] at hv
    simp [execOp, hv]
  split at he
  · rename_i fs hk
    split at he
    · rename_i pl hpl'
      split at he
      · rename_i ls hf
        rw [ev_pure] at he; subst he
        exact fin (build_struct_run hT ht hk hpl' hf hx)
      · simp [ev_fail] at he
    · simp [ev_fail] at he
  · rename_i n e hk
    obtain ⟨ei, hei, he⟩ := tabRM_some he
    split at he
    · rename_i ls hf
      rw [ev_pure] at he; subst he
      exact fin (build_array_run ht hk (hT _ _ hei) hf hx)
    · simp [ev_fail] at he
  · simp [ev_fail] at he
theorem buildSl_does {dst : Nat} {t n : Nat} {ps : Array (Nat × Operand)} {k : Nat} {tab : Tab} (hT : TabOk P tab) {Γ : Env} (h : Rel P E m s a w) (hd : dst < E.N) {res : Res} (he : Ev (aop tab Γ k dst (ev s) (.buildSlice t n ps)) s.mem res)
    (hal : ∀ id ∈ res.allocs, s.used id = false ∧ id < lentBase) {ty : TypeId} {pos : String} {after : Array Edge} {guard : Option (Nat × Bool)} : Does P E ⟨some dst, .buildSlice t n ps, ty, pos, after, guard⟩ s a w res := by
  simp only [aop] at he
  rcases ev_cond.1 he with ⟨hpl, he⟩ | ⟨_, he⟩
  case inr => simp [ev_fail] at he
  have hx : ∀ p ∈ ps.toList, LReps P w (okOf E m s.mem w) m (leavesOf (ev s p.2)) (a.eval p.2).cells.toList := fun p hp => plain_cells h (List.all_eq_true.1 hpl p hp)
  obtain ⟨i, hi, he⟩ := tabRM_some he
  have ht := hT _ _ hi
  split at he
  · rename_i e et hk hit
    obtain ⟨ei, hei, he⟩ := tabRM_some he
    split at he
    · rename_i ls hf
      rcases ev_cond.1 he with ⟨_, he⟩ | ⟨hcnt, he⟩
      · simp [ev_fail] at he
      rw [ev_bind] at he
      obtain ⟨⟨ls', gone⟩, hp, he⟩ := he
      dsimp only at he
      split at he
      · rename_i xs hxs
        rw [ev_assume, ev_pure] at he
        obtain ⟨hbig, rfl⟩ := he
        have hc : et.cnt = ei.size := by simpa using hcnt
        obtain ⟨h1, h2⟩ := hal dst (by simp)
        have := buildSlice_does (ty := ty) (pos := pos) (after := after) (guard := guard) h hd h1 h2 ht hk (hT _ _ hei) hc (Nat.le_of_ble_eq_true hbig) hf hx hp hxs
        simpa using this
      · simp [ev_fail] at he
    · simp [ev_fail] at he
  · simp [ev_fail] at he
theorem makeSl_does {dst : Nat} {t : TypeId} {x y : Operand} {k : Nat} {tab : Tab} (hT : TabOk P tab) {Γ : Env} (h : Rel P E m s a w) (hd : dst < E.N) {res : Res} (he : Ev (aop tab Γ k dst (ev s) (.makeSlice t x y)) s.mem res)
    (hal : ∀ id ∈ res.allocs, s.used id = false ∧ id < lentBase) {ty : TypeId} {pos : String} {after : Array Edge} {guard : Option (Nat × Bool)} : Does P E ⟨some dst, .makeSlice t x y, ty, pos, after, guard⟩ s a w res := by
  simp only [aop] at he
  obtain ⟨i, hi, he⟩ := tabRM_some he
  have ht := hT _ _ hi
  split at he
  · rename_i e et hk hit
    obtain ⟨ei, hei, he⟩ := tabRM_some he
    rw [ev_bind] at he
    obtain ⟨n, hn, he⟩ := he
    rw [ev_bind] at he
    obtain ⟨c, hc, he⟩ := he
    split at he
    · rename_i z hz
      rcases ev_cond.1 he with ⟨_, he⟩ | ⟨hcnt, he⟩
      · simp [ev_fail] at he
      rw [ev_assume, ev_pure] at he
      obtain ⟨hb, rfl⟩ := he
      simp only [Bool.and_eq_true, beq_iff_eq, decide_eq_true_eq] at hb
      obtain ⟨⟨rfl, h0⟩, hroom⟩ := hb
      simp only [Bool.or_eq_false_iff, Bool.not_eq_false'] at hcnt
      obtain ⟨k1, hx⟩ := asInt_rep hn (h.eval x)
      obtain ⟨k2, hy⟩ := asInt_rep hc (h.eval y)
      obtain ⟨h1, h2⟩ := hal dst (by simp)
      exact makeSlice_does h hd h1 h2 ht hk (hT _ _ hei) (Nat.eq_of_beq_eq_true hcnt.1) hx hy h0 (by simpa [room] using hroom) (by intro e; simp [e] at hcnt) hz
    · simp [ev_fail] at he
  · simp [ev_fail] at he
theorem nilCheck_does {dst : Option Nat} {x : Operand} {k d : Nat} {tab : Tab} {Γ : Env} (h : Rel P E m s a w) (hd : ∀ n, dst = some n → n < E.N) {res : Res} (he : Ev (aop tab Γ k d (ev s) (.nilCheck x)) s.mem res)
    {ty : TypeId} {pos : String} {after : Array Edge} {guard : Option (Nat × Bool)} : Does P E ⟨dst, .nilCheck x, ty, pos, after, guard⟩ s a w res := by
  simp only [aop] at he
  have hv := h.eval x
  split at he
  · rename_i r off hx
    rw [ev_pure] at he; subst he
    rw [hx] at hv
    obtain ⟨b, h1, h2⟩ := id hv
    exact does_val h hd (v := a.eval x) (by simp [execOp, h2]) hv
  · rename_i t y off hx
    rw [ev_pure] at he; subst he
    rw [hx] at hv
    obtain ⟨b, o, _, _, _, _, h2, _⟩ := id hv
    exact does_val h hd (v := a.eval x) (by simp [execOp, h2]) hv
  · rename_i r c i off hx
    rw [ev_pure] at he; subst he
    rw [hx] at hv
    obtain ⟨b, o, _, _, _, h2⟩ := id hv
    exact does_val h hd (v := a.eval x) (by simp [execOp, h2]) hv
  · rename_i f cs hx
    rw [ev_pure] at he; subst he
    rw [hx] at hv
    obtain ⟨caps, h2, _⟩ := id hv
    exact does_val h hd (v := a.eval x) (by simp [execOp, h2]) hv
  · rename_i ps b p hx
    rw [ev_pure] at he; subst he
    rw [hx] at hv
    obtain ⟨f, caps, h2, _⟩ := id hv
    exact does_val h hd (v := a.eval x) (by simp [execOp, h2]) hv
  · simp [ev_fail] at he
end
end Go.GG
