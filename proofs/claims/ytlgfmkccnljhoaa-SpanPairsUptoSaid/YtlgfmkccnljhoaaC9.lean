/- Stores, appends: the machine does so. -/
import Derived.Test.YtlgfmkccnljhoaaC8
import Derived.Laws.CopyRow
namespace Go.GG
open Go.RowKit
section
variable {P : Program} {w : World} {ok : Nat → Prop} {m : IMap}
theorem holds_one : ∀ {t : T} {x : t.den} {cs : List Value}, t.holds w ok x cs → ∀ v ∈ cs, v.oneCell' = true
  | .int _, _, _, h => by simp only [T.holds] at h; subst h; simp [Value.oneCell']
  | .bool, _, _, h => by simp only [T.holds] at h; subst h; simp [Value.oneCell']
  | .str, _, _, h => by simp only [T.holds] at h; subst h; simp [Value.oneCell']
  | .slice _, _, _, h => by simp only [T.holds] at h; obtain ⟨_, _, rfl, _⟩ := h; simp [Value.oneCell']
  | .pair p q, x, _, h => by
    simp only [T.holds] at h
    obtain ⟨c, d, rfl, h1, h2⟩ := h
    intro v hv
    rcases List.mem_append.1 hv with hv | hv
    · exact holds_one h1 v hv
    · exact holds_one h2 v hv
end
section
variable {P : Program} {E : Entry} {m : IMap} {s : St} {a : Act} {w : World}

def delMem (μ : Nat → Option C) (r : Nat) : Nat → Option C := fun r' => cond (Nat.beq r' r) none (μ r')
theorem delMem_some {μ : Nat → Option C} {r r' : Nat} {c : C} (h : delMem μ r r' = some c) : r' ≠ r ∧ μ r' = some c := by
  unfold delMem at h
  cases hb : Nat.beq r' r with
  | true => rw [hb] at h; simp at h
  | false => rw [hb] at h; exact ⟨fun e => by subst e; simp at hb, h⟩
/-- A block of the state's own is written. -/
theorem Rel.edit (h : Rel P E m s a w) {r : Nat} {c c' : C} {i : Impl} {b : Nat} (hc : s.mem r = some c) (hi : m r = some i) (hb : i.block = some b) {w' : World} (hw : ∀ k, k ≠ b → w'.heap[k]? = w.heap[k]?)
    (hsz : w'.heap.size = w.heap.size) (hos : w'.os = w.os) (htp : w'.tape = w.tape) (hout : w'.output = w.output)
    (hrep : ∀ ok', Keeps w w' (okOf E m s.mem w) ok' → CRep P w' ok' m c' i) : Rel P E m { s with mem := setMem s.mem r c' } a w' := by
  obtain ⟨j, hj1, _, hj3⟩ := h.mem r c hc
  rw [hi] at hj1; simp at hj1; subst hj1
  have hV : ∀ b', Vof m (setMem s.mem r c') b' → Vof m s.mem b' := by
    rintro b' ⟨r', d, i', h1, h2, h3⟩
    by_cases e : r' = r
    · subst e; exact ⟨r', c, i', hc, h2, h3⟩
    · rw [setMem_other _ _ e] at h1; exact ⟨r', d, i', h1, h2, h3⟩
  have hok : ∀ b', okOf E m s.mem w b' → w'.heap[b']? = w.heap[b']? ∧ ¬ Vof m (setMem s.mem r c') b' := fun b' hb' =>
    ⟨hw b' (fun e => hb'.2.2 (e ▸ ⟨r, c, i, hc, hi, hb⟩)), fun hv => hb'.2.2 (hV b' hv)⟩
  have hk := h.keeps (by omega) hok
  refine h.turn (Ext.refl m) h.used (fun b' hb' hv => hw b' (fun e => ?_)) (by omega) hos htp hout hok (fun r' d hd => ?_) (fun r1 r2 c1 c2 i1 i2 b' h1 h2 h3 h4 h5 h6 => ?_) (fun r' hr' _ => ?_) h.shape
  · subst e; have := (hj3 b' hb).2; rcases this with h1 | h1
    · exact hv h1
    · omega
  · by_cases e : r' = r
    · subst e; rw [setMem_self] at hd; simp at hd; subst hd
      exact ⟨i, hi, hrep _ hk, fun b' hb' => ⟨by rw [hsz]; exact (hj3 b' hb').1, (hj3 b' hb').2⟩⟩
    · rw [setMem_other _ _ e] at hd
      obtain ⟨i', h1, h2, h3⟩ := h.mem r' d hd
      exact ⟨i', h1, h2.mono hk (Ext.refl m) (fun b' hb' => hw b' (fun e' => e (h.inj r' r d c i' i b' hd hc h1 hi hb' (e' ▸ hb)))), fun b' hb' => ⟨by rw [hsz]; exact (h3 b' hb').1, (h3 b' hb').2⟩⟩
  · have g : ∀ r1 c1, setMem s.mem r c' r1 = some c1 → ∃ d1, s.mem r1 = some d1 := by
      intro r1 c1 h1
      by_cases e : r1 = r
      · exact ⟨c, e ▸ hc⟩
      · rw [setMem_other _ _ e] at h1; exact ⟨c1, h1⟩
    obtain ⟨d1, hd1⟩ := g r1 c1 h1
    obtain ⟨d2, hd2⟩ := g r2 c2 h2
    exact h.inj r1 r2 d1 d2 i1 i2 b' hd1 hd2 h3 h4 h5 h6
  · by_cases e : r' = r
    · subst e; simp [hc]
    · rw [setMem_other _ _ e] at hr'; exact hr'
/-- A block goes on under another name. -/
theorem Rel.move (h : Rel P E m s a w) {r id : Nat} {c c' : C} {i i' : Impl} {b : Nat} (hc : s.mem r = some c) (hi : m r = some i) (hb : i.block = some b) (hid : s.used id = false) (hlt : id < lentBase) {w' : World} (hw : ∀ k, k ≠ b → w'.heap[k]? = w.heap[k]?)
    (hsz : w'.heap.size = w.heap.size) (hos : w'.os = w.os) (htp : w'.tape = w.tape) (hout : w'.output = w.output) (hb' : i'.block = some b)
    (hrep : ∀ ok' m', Keeps w w' (okOf E m s.mem w) ok' → Ext m m' → CRep P w' ok' m' c' i') :
    Rel P E (setMap m id i') { s with mem := setMem (delMem s.mem r) id c', used := fun r => cond (Nat.beq r id) true (s.used r) } a w' ∧ setMap m id i' id = some i' := by
  have hm0 := h.fresh hid
  have hext : Ext m (setMap m id i') := ext_set hm0
  obtain ⟨j, hj1, _, hj3⟩ := h.mem r c hc
  rw [hi] at hj1; simp at hj1; subst hj1
  have old : ∀ r' d, setMem (delMem s.mem r) id c' r' = some d → (r' = id ∧ d = c') ∨ (r' ≠ id ∧ r' ≠ r ∧ s.mem r' = some d ∧ setMap m id i' r' = m r') := by
    intro r' d hr
    by_cases e : r' = id
    · subst e; rw [setMem_self] at hr; exact .inl ⟨rfl, by simpa using hr.symm⟩
    · rw [setMem_other _ _ e] at hr
      obtain ⟨h1, h2⟩ := delMem_some hr
      exact .inr ⟨e, h1, h2, setMap_other _ _ e⟩
  have hok : ∀ b', okOf E m s.mem w b' → w'.heap[b']? = w.heap[b']? ∧ ¬ Vof (setMap m id i') (setMem (delMem s.mem r) id c') b' := by
    intro b' hbo
    refine ⟨hw b' (fun e => hbo.2.2 (e ▸ ⟨r, c, i, hc, hi, hb⟩)), ?_⟩
    rintro ⟨r', d, j, h1, h2, h3⟩
    rcases old r' d h1 with ⟨rfl, rfl⟩ | ⟨_, _, h4, h5⟩
    · rw [setMap_self] at h2; simp at h2; subst h2
      rw [hb'] at h3; simp at h3; subst h3
      exact hbo.2.2 ⟨r, c, i, hc, hi, hb⟩
    · rw [h5] at h2; exact hbo.2.2 ⟨r', d, j, h4, h2, h3⟩
  have hk := h.keeps (by omega) hok
  refine ⟨h.turn hext (fun r' hr => ?_) (fun b1 hb1 hv => hw b1 (fun e => ?_)) (by omega) hos htp hout hok (fun r' d hd => ?_) (fun r1 r2 c1 c2 i1 i2 b1 h1 h2 h3 h4 h5 h6 => ?_) (fun r' hr hl => ?_) (fun r' j hj => ?_), setMap_self _ _ _⟩
  · by_cases e : r' = id
    · subst e; simp
    · rw [setMap_other _ _ e] at hr; simp [h.used r' hr]
  · subst e; have := (hj3 b1 hb).2; rcases this with h1 | h1
    · exact hv h1
    · omega
  · rcases old r' d hd with ⟨rfl, rfl⟩ | ⟨e1, e2, h4, h5⟩
    · exact ⟨i', setMap_self _ _ _, hrep _ _ hk hext, fun b1 hb1 => by rw [hb'] at hb1; simp at hb1; subst hb1; exact ⟨by rw [hsz]; exact (hj3 b hb).1, (hj3 b hb).2⟩⟩
    · obtain ⟨i2, h1, h2, h3⟩ := h.mem r' d h4
      exact ⟨i2, h5.trans h1, h2.mono hk hext (fun b1 hb1 => hw b1 (fun e' => e2 (h.inj r' r d c i2 i b1 h4 hc h1 hi hb1 (e' ▸ hb)))), fun b1 hb1 => ⟨by rw [hsz]; exact (h3 b1 hb1).1, (h3 b1 hb1).2⟩⟩
  · rcases old r1 c1 h1 with ⟨rfl, rfl⟩ | ⟨e, e0, h7, h8⟩ <;> rcases old r2 c2 h2 with ⟨rfl, rfl⟩ | ⟨e', e0', h9, h10⟩
    · rfl
    · rw [setMap_self] at h3; simp at h3; subst h3
      rw [hb'] at h5; simp at h5; subst h5
      rw [h10] at h4
      exact absurd (h.inj r2 r c2 c i2 i b h9 hc h4 hi h6 hb) e0'
    · rw [setMap_self] at h4; simp at h4; subst h4
      rw [hb'] at h6; simp at h6; subst h6
      rw [h8] at h3
      exact absurd (h.inj r1 r c1 c i1 i b h7 hc h3 hi h5 hb) e0
    · rw [h8] at h3; rw [h10] at h4; exact h.inj r1 r2 c1 c2 i1 i2 b1 h7 h9 h3 h4 h5 h6
  · by_cases e : r' = id
    · omega
    · rw [setMem_other _ _ e] at hr
      obtain ⟨d, hd⟩ := Option.isSome_iff_exists.1 hr
      simp [(delMem_some hd).2]
  · by_cases e : r' = id
    · subst e; rw [setMap_self] at hj; simp at hj; subst hj; exact (hrep _ _ hk hext).shape
    · rw [setMap_other _ _ e] at hj; exact h.shape r' j hj

/-! ### Stores -/
theorem run_storeAt (b o : Nat) (t : TypeId) (fz : Nat × Nat) : ∀ (vs : List Value) (i : Nat) (cur : Array Value) (w : World), w.heap[b]? = some (.cells cur t fz) → (∀ j, j < cur.size → ¬ (fz.1 ≤ j ∧ j < fz.2)) → o + i + vs.length ≤ cur.size → (∀ v ∈ vs, v.oneCell' = true) →
    (storeCells ⟨b, o, none⟩ vs i).run P w = .ok () (w.setRow b (cur.toList.take (o + i) ++ vs ++ cur.toList.drop (o + i + vs.length)).toArray)
  | [], i, cur, w, hg, _, _, _ => by
    simp only [storeCells, List.append_nil, List.length_nil, Nat.add_zero, List.take_append_drop, Array.toArray_toList]
    rw [setRow_self w b cur t fz hg]
    rfl
  | v :: rest, i, cur, w, hg, hf, hl, h1 => by
    have hi : o + i < cur.size := by simp at hl; omega
    have hcell : w.cell? ⟨b, o + i, none⟩ = some cur[o + i] := by simp [World.cell?, hg, hi]
    have hfro : w.frozen? ⟨b, o + i, none⟩ = false := by
      have := hf _ hi
      simp only [World.frozen?, hg]
      simpa using this
    have hst : (store ((⟨b, o, none⟩ : Addr).add i) v).run P w = .ok () (w.setRow b (cur.setIfInBounds (o + i) v)) := by
      rw [add_plain, run_store P w _ v _ (h1 v (by simp)), hcell]
      simp [hfro, setCell_eq_setRow w b (o + i) cur t fz v hg]
    have ih := run_storeAt b o t fz rest (i + 1) (cur.setIfInBounds (o + i) v) (w.setRow b (cur.setIfInBounds (o + i) v)) (setRow_heap w b cur _ t _ hg) (by simpa using hf) (by simp at hl ⊢; omega) (fun x hx => h1 x (by simp [hx]))
    simp only [storeCells, Sem.run_bind, hst, Result.andThen_ok, ih, setRow_setRow]
    congr 3
    have e := list_seg_step cur.toList (o + i) v rest (by simp at hl ⊢; omega)
    simpa [Array.toList_setIfInBounds, Nat.add_assoc] using e
theorem rep_one (h : Rel P E m s a w) {l : L} {v : Value} (h1 : l.one = true) (hr : LRep P w (okOf E m s.mem w) m l v) : v.oneCell' = true := by
  cases l <;> simp only [L.one, Bool.false_eq_true] at h1
  · exact holds_one hr v (by simp)
  · obtain ⟨_, a, n, c, rfl⟩ := hr; rfl
  · simp only [LRep] at hr; subst hr; rfl
  · obtain ⟨_, A, rfl⟩ := hr; rfl
  · simp only [LRep] at hr
    rcases hr with hr | hr <;> (obtain ⟨A, n, c, rfl⟩ := h.shape _ _ hr; rfl)
  · obtain ⟨b, _, rfl⟩ := hr; rfl
  · simp only [LRep] at hr; subst hr; rfl
  · obtain ⟨b, o, _, _, _, _, rfl, _⟩ := hr; rfl
  · obtain ⟨b, o, _, _, _, rfl⟩ := hr; rfl
  · obtain ⟨caps, rfl, _⟩ := hr; rfl
  · obtain ⟨f, caps, rfl, _⟩ := hr; rfl
  · obtain ⟨A, c, k, _, rfl, _⟩ := hr; rfl
theorem reps_one (h : Rel P E m s a w) : ∀ {ls : List L} {vs : List Value}, LReps P w (okOf E m s.mem w) m ls vs → ls.all L.one = true → ∀ v ∈ vs, v.oneCell' = true
  | [], _, hl, _ => by simp only [LReps] at hl; subst hl; simp
  | l :: ls, _, hl, h1 => by
    obtain ⟨v, vs', rfl, h2, h3⟩ := hl
    simp only [List.all_cons, Bool.and_eq_true] at h1
    intro u hu
    cases hu with
    | head => exact rep_one h h1.1 h2
    | tail _ hu => exact reps_one h h3 h1.2 u hu
theorem leaves_cells (h : Rel P E m s a w) {l : L} {v : Value} (hl : LRep P w (okOf E m s.mem w) m l v) (h1 : (leavesOf l).all L.one = true) : LReps P w (okOf E m s.mem w) m (leavesOf l) v.cells.toList ∧ ∀ u ∈ v.cells.toList, u.oneCell' = true := by
  have hc : LReps P w (okOf E m s.mem w) m (leavesOf l) v.cells.toList := leavesOf_reps hl (fun hn => by
    have hl1 : leavesOf l = [l] := by cases l <;> first | rfl | exact absurd rfl (hn _)
    rw [hl1] at h1
    simp only [List.all_cons, List.all_nil, Bool.and_true] at h1
    have := rep_one h h1 hl
    cases v <;> first | rfl | simp [Value.oneCell'] at this)
  exact ⟨hc, reps_one h hc h1⟩
theorem storeLs_some {i : TI} {ls v ls' : List L} {off : Nat} (h : storeLs i ls off v = some ls') : v.length = i.size ∧ off + i.size ≤ ls.length ∧ ls' = ls.take off ++ v ++ ls.drop (off + i.size) := by
  unfold storeLs at h
  cases hb : (Nat.beq v.length i.size && Nat.ble (off + i.size) ls.length) with
  | false => rw [hb] at h; simp at h
  | true =>
    rw [hb] at h
    simp only [cond_true, Option.some.injEq] at h
    simp only [Bool.and_eq_true] at hb
    exact ⟨Nat.eq_of_beq_eq_true hb.1, Nat.le_of_ble_eq_true hb.2, h.symm⟩
theorem editMem_keep : ∀ {es : List (Nat × Option C)} {μ : Nat → Option C} {r : Nat}, r ∉ es.map (·.1) → editMem es μ r = μ r
  | [], _, _, _ => rfl
  | (x, c) :: es, μ, r, h => by
    simp only [List.map_cons, List.mem_cons, not_or] at h
    simp only [editMem]
    rw [editMem_keep h.2]
    have : Nat.beq r x = false := by
      cases hb : Nat.beq r x with
      | false => rfl
      | true => exact absurd (Nat.eq_of_beq_eq_true hb) h.1
    simp [this]
theorem purify_one : ∀ {ls ls' : List L} {gone : List (Nat × Option C)} {μ : Nat → Option C}, Ev (purify ls) μ (ls', gone) → ls'.all L.one = true → ls.all L.one = true
  | [], _, _, _, _, _ => rfl
  | l :: ls, ls', gone, μ, h, h1 => by
    have key : ∀ l', Ev ((purify ls).bind fun x => RM.pure (l' :: x.1, x.2)) μ (ls', gone) → l'.one = true ∧ ls.all L.one = true := by
      intro l' h
      rw [ev_bind] at h
      obtain ⟨⟨b1, b2⟩, hb, h⟩ := h
      simp only [ev_pure, Prod.mk.injEq] at h
      obtain ⟨rfl, rfl⟩ := h
      simp only [List.all_cons, Bool.and_eq_true] at h1
      exact ⟨h1.1, purify_one hb h1.2⟩
    simp only [List.all_cons, Bool.and_eq_true]
    cases l
    case sref r =>
      simp only [purify] at h
      rw [ev_get] at h
      split at h
      · rw [ev_bind] at h
        obtain ⟨⟨b1, b2⟩, hb, h⟩ := h
        simp only [ev_pure, Prod.mk.injEq] at h
        obtain ⟨rfl, rfl⟩ := h
        simp only [List.all_cons, Bool.and_eq_true] at h1
        exact ⟨rfl, purify_one hb h1.2⟩
      · simp [ev_fail] at h
    all_goals exact key _ h
theorem splice_get {α : Type} {C v : List α} {p : Nat} (h : p + v.length ≤ C.length) (k : Nat) : (C.take p ++ v ++ C.drop (p + v.length))[k]? = if k < p then C[k]? else if k < p + v.length then v[k - p]? else C[k]? := by
  by_cases h1 : k < p
  · rw [if_pos h1, List.append_assoc, List.getElem?_append_left (by simp; omega), List.getElem?_take, if_pos h1]
  · rw [if_neg h1]
    by_cases h2 : k < p + v.length
    · rw [if_pos h2, List.append_assoc, List.getElem?_append_right (by simp; omega), List.getElem?_append_left (by simp; omega)]
      congr 1; simp; omega
    · rw [if_neg h2, List.getElem?_append_right (by simp; omega), List.getElem?_drop]
      congr 1; simp; omega
theorem store_does {d : Option Nat} {t : Nat} {x y : Operand} {ty : TypeId} {pos : String} {after : Array Edge} {guard : Option (Nat × Bool)} (h : Rel P E m s a w) (hd : ∀ n, d = some n → n < E.N)
    {i : TI} (ht : TOk P t i) {res : Res} (he : Ev (storeOp i (ev s y) (ev s x)) s.mem res) : Does P E ⟨d, .store t x y, ty, pos, after, guard⟩ s a w res := by
  have hx := h.eval x
  have hy := h.eval y
  have run : ∀ (b o : Nat) (C : Array Value) (e : TypeId) (fz : Nat × Nat), a.eval x = .pointer (some ⟨b, o, none⟩) → w.heap[b]? = some (.cells C e fz) → (∀ j, j < C.size → ¬ (fz.1 ≤ j ∧ j < fz.2)) → (a.eval y).cells.size = i.size →
      o + i.size ≤ C.size → (∀ u ∈ (a.eval y).cells.toList, u.oneCell' = true) → (execOp a.eval ⟨d, .store t x y, ty, pos, after, guard⟩).run P w = .ok .skip (w.setRow b (C.toList.take o ++ (a.eval y).cells.toList ++ C.toList.drop (o + i.size)).toArray) := by
    intro b o C e fz hp hb hf hsz hle h1
    have := run_storeAt (P := P) b o e fz (a.eval y).cells.toList 0 C w hb hf (by simp [hsz]; exact hle) h1
    simp only [Nat.add_zero, Array.length_toList, hsz] at this
    simp [execOp, Instr.storeAt, Instr.sureAddr, storeVar, hp, run_sizeOf ht, hsz, this]
  generalize hlx : ev s x = lx at he hx
  cases lx <;> simp only [storeOp, ev_fail] at he
  case ptr r off =>
    rw [ev_get] at he
    split at he
    · rename_i ls hr
      split at he
      · rename_i ls' hs
        rw [ev_cond, ev_fail, ev_pure] at he
        obtain ⟨h1, rfl⟩ := he.resolve_right (by simp)
        obtain ⟨hy1, hy2⟩ := leaves_cells h hy h1
        obtain ⟨hs1, hs2, rfl⟩ := storeLs_some hs
        obtain ⟨b, hm1, hp⟩ := hx
        obtain ⟨j, hj1, hj2, hj3⟩ := h.mem r _ hr
        rw [hm1] at hj1; simp at hj1; subst hj1
        obtain ⟨vs, e, hh, hv⟩ := hj2
        have hlen := hv.length
        have hysz : (a.eval y).cells.size = i.size := by have := hy1.length; simpa [hs1] using this
        refine does_skip hd (run b off vs.toArray e (0, 0) hp hh (by simp) hysz (by simp [hlen]; omega) hy2) (m' := m) (h.edit (c' := .cells (ls.take off ++ leavesOf (ev s y) ++ ls.drop (off + i.size))) hr hm1 rfl (fun k hk => setRow_other w b k _ hk) (by simp) rfl rfl rfl (fun ok' hk => ?_)) rfl
        exact ⟨vs.take off ++ (a.eval y).cells.toList ++ vs.drop (off + i.size), e, setRow_heap w b _ _ e _ hh, (((hv.take off).append hy1).append (hv.drop _)).mono hk (Ext.refl m)⟩
      · simp [ev_fail] at he
    · simp [ev_fail] at he
  case aptr r cnt n off =>
    rw [ev_bind] at he
    obtain ⟨⟨vs', gone⟩, hp, he⟩ := he
    rw [ev_get] at he
    split at he
    · rename_i t' xs hr
      rw [ev_cond, ev_fail] at he
      replace he := he.resolve_right (by simp)
      obtain ⟨hc, he⟩ := he
      simp only [Bool.and_eq_true] at hc
      obtain ⟨⟨hc1, hc2⟩, hc3⟩ := hc
      have hcnt := Nat.eq_of_beq_eq_true hc1
      subst hcnt
      rw [ev_opt] at he
      obtain ⟨z, hz, he⟩ := he
      split at he
      · rename_i ls' hs
        split at he
        · rename_i z' hz'
          rw [ev_pure] at he; subst he
          have hone := purify_none hp
          have hμ : ∀ r c, editMem gone s.mem r = some c → s.mem r = some c := fun r c hc => (editMem_none hone hc).1
          have hr1 : editMem gone s.mem r = some (.arr t' xs) := by rw [editMem_keep (by simpa [disjoint] using hc3)]; exact hr
          have h' := h.drop hμ
          obtain ⟨hy1, hy2⟩ := leaves_cells h hy (purify_one hp hc2)
          have hy3 := purify_reps h hμ hp (fun r hr => by
            cases hc : editMem gone s.mem r with
            | none => rfl
            | some c => exact absurd hr (editMem_none hone hc).2) hy1
          obtain ⟨hs1, hs2, rfl⟩ := storeLs_some hs
          rw [explode_len] at hs2
          obtain ⟨b, o, n', c, hm1, hpt⟩ := hx
          obtain ⟨j, hj1, hj2, hj3⟩ := h'.mem r _ hr1
          have hm1' : m r = some (.arr (.slice (some ⟨b, o, none⟩) n' c)) := by
            rcases hm1 with hm1 | hm1
            · exact hm1
            · rw [hm1] at hj1; simp at hj1; subst hj1; simp [CRep] at hj2
          rw [hm1'] at hj1; simp at hj1; subst hj1
          rcases hj2 with ⟨hbad, _⟩ | ⟨b', C, e, fr, cap, hsl, hcap1, hcap2, hh, hfr, hel⟩
          · simp at hbad
          simp only [Value.slice.injEq, Option.some.injEq, Addr.mk.injEq] at hsl
          obtain ⟨⟨rfl, rfl, _⟩, rfl, rfl⟩ := hsl
          have hysz : (a.eval y).cells.size = i.size := by have := hy3.length; simpa [hs1] using this
          have hn : n < xs.length := (List.getElem?_eq_some_iff.1 hz).1
          have hbound : (n + 1) * t'.cnt ≤ C.size := Nat.le_trans (Nat.mul_le_mul_right _ (by omega)) hcap2
          rw [Nat.add_mul] at hbound
          have hple : 0 + n * t'.cnt + off + i.size ≤ C.size := by omega
          refine does_drop rfl ?_
          refine does_skip hd (run b _ C e fr hpt hh hfr.free hysz hple hy2) (m' := m) (h'.edit (c' := .arr t' (xs.set n z')) hr1 hm1' rfl (fun k hk => setRow_other w b k _ hk) (by simp) rfl rfl rfl (fun ok' hk => ?_)) rfl
          have hsp := splice_get (C := C.toList) (v := (a.eval y).cells.toList) (p := 0 + n * t'.cnt + off) (by simp [hysz]; omega)
          simp only [Array.length_toList, hysz] at hsp
          refine .inr ⟨b, _, e, fr, c, by simp, by simp; omega, ?_, setRow_heap w b _ _ e _ hh, ?_, fun k x hk' => ?_⟩
          · simp [hysz]; omega
          · have hsz' : (C.toList.take (0 + n * t'.cnt + off) ++ (a.eval y).cells.toList ++ C.toList.drop (0 + n * t'.cnt + off + i.size)).toArray.size = C.size := by simp [hysz]; omega
            rw [hsz']; exact hfr
          · rw [List.getElem?_set] at hk'
            by_cases hkn : n = k
            · subst hkn
              simp [hn] at hk'
              subst hk'
              obtain ⟨ds, hd1, hd2⟩ := hel n z hz
              have hdl := T.holds_len hd1
              have hnew := (((explode_reps (P := P) (m := m) hd1).take off).append hy3).append ((explode_reps (P := P) (m := m) hd1).drop (off + i.size))
              refine ⟨ds.take off ++ (a.eval y).cells.toList ++ ds.drop (off + i.size), T.holds_mono hk (implode_holds hz' hnew), fun j u hu => ?_⟩
              have hsd := splice_get (C := ds) (v := (a.eval y).cells.toList) (p := off) (by simp [hysz, hdl]; omega) j
              simp only [Array.length_toList, hysz] at hsd
              rw [hsd] at hu
              simp only [List.getElem?_toArray]
              rw [hsp]
              by_cases h1 : j < off
              · rw [if_pos h1] at hu
                rw [if_pos (by omega)]
                simpa using hd2 j u hu
              · rw [if_neg h1] at hu
                by_cases h2 : j < off + i.size
                · rw [if_pos h2] at hu
                  rw [if_neg (by omega), if_pos (by omega), ← hu]
                  congr 1; omega
                · rw [if_neg h2] at hu
                  rw [if_neg (by omega), if_neg (by omega)]
                  simpa using hd2 j u hu
            · rw [if_neg hkn] at hk'
              obtain ⟨ds, hd1, hd2⟩ := hel k x hk'
              have hdl := T.holds_len hd1
              refine ⟨ds, T.holds_mono hk hd1, fun j u hu => ?_⟩
              have hj : j < t'.cnt := by rw [← hdl]; exact (List.getElem?_eq_some_iff.1 hu).1
              have hkk : k < n ∨ n < k := by omega
              simp only [List.getElem?_toArray]
              rw [hsp]
              rcases hkk with h1 | h1
              · have : (k + 1) * t'.cnt ≤ n * t'.cnt := Nat.mul_le_mul_right _ h1
                rw [Nat.add_mul] at this
                rw [if_pos (by omega)]
                simpa using hd2 j u hu
              · have : (n + 1) * t'.cnt ≤ k * t'.cnt := Nat.mul_le_mul_right _ h1
                rw [Nat.add_mul] at this
                rw [if_neg (by omega), if_neg (by omega)]
                simpa using hd2 j u hu
        · simp [ev_fail] at he
      · simp [ev_fail] at he
    · simp [ev_fail] at he
end
end Go.GG
