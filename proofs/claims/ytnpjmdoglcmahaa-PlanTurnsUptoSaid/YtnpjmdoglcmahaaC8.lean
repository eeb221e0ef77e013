/- New blocks: the machine lays them so. -/
import Derived.Test.YtnpjmdoglcmahaaC7
namespace Go.GG
open Go.RowKit
section
variable {P : Program} {E : Entry} {m : IMap} {s : St} {a : Act} {w : World}

def setMem (μ : Nat → Option C) (id : Nat) (c : C) : Nat → Option C := fun r => cond (Nat.beq r id) (some c) (μ r)
theorem setMem_self (μ : Nat → Option C) (id : Nat) (c : C) : setMem μ id c id = some c := by simp [setMem]
theorem setMem_other (μ : Nat → Option C) {id r : Nat} (c : C) (h : r ≠ id) : setMem μ id c r = μ r := by
  have : Nat.beq r id = false := by
    cases hb : Nat.beq r id with
    | false => rfl
    | true => exact absurd (Nat.eq_of_beq_eq_true hb) h
  simp [setMem, this]
def setMap (m : IMap) (id : Nat) (i : Impl) : IMap := fun r => if r = id then some i else m r
theorem setMap_self (m : IMap) (id : Nat) (i : Impl) : setMap m id i id = some i := by simp [setMap]
theorem setMap_other (m : IMap) {id r : Nat} (i : Impl) (h : r ≠ id) : setMap m id i r = m r := by simp [setMap, h]
theorem Rel.fresh (h : Rel P E m s a w) {id : Nat} (hid : s.used id = false) : m id = none := by
  cases hm : m id with
  | none => rfl
  | some i => rw [h.used id (by rw [hm]; simp)] at hid; cases hid
theorem ext_set {id : Nat} {i : Impl} (h : m id = none) : Ext m (setMap m id i) := fun r j hr => by
  rw [setMap_other _ _ (fun e => by subst e; rw [h] at hr; cases hr)]; exact hr
/-- A new block of the state's own. -/
theorem Rel.new (h : Rel P E m s a w) {id : Nat} (hid : s.used id = false) (hlt : id < lentBase) {c : C} {i : Impl} {w' : World} (hb : Below w.heap.size w w')
    (hblk : ∀ b, i.block = some b → w.heap.size ≤ b ∧ b < w'.heap.size)
    (hrep : ∀ ok' m', Keeps w w' (okOf E m s.mem w) ok' → Ext m m' → CRep P w' ok' m' c i) :
    Rel P E (setMap m id i) { s with mem := setMem s.mem id c, used := fun r => cond (Nat.beq r id) true (s.used r) } a w' ∧
      Ext m (setMap m id i) ∧ setMap m id i id = some i ∧ Keeps w w' (okOf E m s.mem w) (okOf E (setMap m id i) (setMem s.mem id c) w') := by
  have hm0 := h.fresh hid
  have hext : Ext m (setMap m id i) := ext_set hm0
  have hidmem : s.mem id = none := by
    cases hc : s.mem id with
    | none => rfl
    | some c => obtain ⟨j, hj, _⟩ := h.mem id c hc; rw [hm0] at hj; cases hj
  have old : ∀ r c', setMem s.mem id c r = some c' → (r = id ∧ c' = c) ∨ (r ≠ id ∧ s.mem r = some c' ∧ setMap m id i r = m r) := by
    intro r c' hr
    by_cases e : r = id
    · subst e; rw [setMem_self] at hr; exact .inl ⟨rfl, by simpa using hr.symm⟩
    · rw [setMem_other _ _ e] at hr; exact .inr ⟨e, hr, setMap_other _ _ e⟩
  have hok : ∀ b, okOf E m s.mem w b → w'.heap[b]? = w.heap[b]? ∧ ¬ Vof (setMap m id i) (setMem s.mem id c) b := by
    intro b hbo
    refine ⟨hb.block b hbo.1, ?_⟩
    rintro ⟨r, c', j, h1, h2, h3⟩
    rcases old r c' h1 with ⟨rfl, rfl⟩ | ⟨e, h4, h5⟩
    · rw [setMap_self] at h2; simp at h2; subst h2
      have := (hblk b h3).1
      have := hbo.1
      omega
    · rw [h5] at h2; exact hbo.2.2 ⟨r, c', j, h4, h2, h3⟩
  have hk := h.keeps hb.size hok
  refine ⟨h.turn hext (fun r hr => ?_) (fun b hb' _ => hb.block b (Nat.lt_of_lt_of_le hb' h.goes.size)) hb.size hb.os hb.tape hb.output hok (fun r c' hr => ?_) (fun r r' c1 c2 i1 i2 b h1 h2 h3 h4 h5 h6 => ?_) (fun r hr hl => ?_) (fun r j hj => ?_), hext, setMap_self _ _ _, hk⟩
  · by_cases e : r = id
    · subst e; simp
    · rw [setMap_other _ _ e] at hr; simp [h.used r hr]
  · rcases old r c' hr with ⟨rfl, rfl⟩ | ⟨e, h4, h5⟩
    · exact ⟨i, setMap_self _ _ _, hrep _ _ hk hext, fun b hb' => ⟨(hblk b hb').2, .inr (Nat.le_trans h.goes.size (hblk b hb').1)⟩⟩
    · obtain ⟨j, h1, h2, h3⟩ := h.mem r c' h4
      exact ⟨j, h5.trans h1, h2.mono hk hext (fun b hb' => hb.block b (h3 b hb').1), fun b hb' => ⟨Nat.lt_of_lt_of_le (h3 b hb').1 hb.size, (h3 b hb').2⟩⟩
  · rcases old r c1 h1 with ⟨rfl, rfl⟩ | ⟨e, h7, h8⟩ <;> rcases old r' c2 h2 with ⟨rfl, rfl⟩ | ⟨e', h9, h10⟩
    · rfl
    · rw [setMap_self] at h3; simp at h3; subst h3
      rw [h10] at h4
      obtain ⟨j, hj1, _, hj3⟩ := h.mem r' c2 h9
      rw [h4] at hj1; simp at hj1; subst hj1
      have := (hj3 b h6).1; have := (hblk b h5).1; omega
    · rw [setMap_self] at h4; simp at h4; subst h4
      rw [h8] at h3
      obtain ⟨j, hj1, _, hj3⟩ := h.mem r c1 h7
      rw [h3] at hj1; simp at hj1; subst hj1
      have := (hj3 b h5).1; have := (hblk b h6).1; omega
    · rw [h8] at h3; rw [h10] at h4; exact h.inj r r' c1 c2 i1 i2 b h7 h9 h3 h4 h5 h6
  · by_cases e : r = id
    · omega
    · rw [setMem_other _ _ e] at hr; exact hr
  · by_cases e : r = id
    · subst e; rw [setMap_self] at hj; simp at hj; subst hj; exact (hrep _ _ hk hext).shape
    · rw [setMap_other _ _ e] at hj; exact h.shape r j hj

theorem below_alloc (w : World) (o : Obj) : Below w.heap.size w (w.alloc o) := (Below.refl _ w).alloc (Nat.le_refl _) o
theorem alloc_new (w : World) (o : Obj) : (w.alloc o).heap[w.heap.size]? = some o := by
  show (w.heap.push o)[w.heap.size]? = some o
  simp

/-- What an operation without a world of its own gives. -/
theorem does_new {o : Oper} (h : Rel P E m s a w) (hd : ∀ n, o.dst = some n → n < E.N) {id : Nat} (hid : s.used id = false) (hlt : id < lentBase) {c : C} {i : Impl} {w' : World} (hb : Below w.heap.size w w')
    (hblk : ∀ b, i.block = some b → w.heap.size ≤ b ∧ b < w'.heap.size)
    (hrep : ∀ ok' m', Keeps w w' (okOf E m s.mem w) ok' → Ext m m' → CRep P w' ok' m' c i) {l : L} {v : Value} (hr : (execOp a.eval o).run P w = .ok (.value v) w')
    (hl : ∀ ok' m', Ext m m' → m' id = some i → LRep P w' ok' m' l v) : Does P E o s a w ⟨l, [(id, some c)], [id]⟩ := by
  obtain ⟨h1, h2, h3, h4⟩ := h.new hid hlt hb hblk hrep
  exact does_turn hd hr h1 (hl _ _ h2 h3)

theorem alloc_does {dst t : Nat} {ty : TypeId} {pos : String} {after : Array Edge} {guard : Option (Nat × Bool)} (h : Rel P E m s a w) (hd : dst < E.N) (hid : s.used dst = false) (hlt : dst < lentBase) {i : TI} (ht : TOk P t i) :
    Does P E ⟨some dst, .alloc t, ty, pos, after, guard⟩ s a w ⟨.ptr dst 0, [(dst, some (.cells (zeroLs i)))], [dst]⟩ := by
  obtain ⟨z, hz, hzc⟩ := run_zeroValue (w := w) ht
  refine does_new (w' := w.alloc (.cells i.zero.toArray t)) (i := .var w.heap.size) h (by simp; omega) hid hlt (below_alloc _ _) (fun b hb => ?_) (fun ok' m' _ _ => ?_) (v := .pointer (some ⟨w.heap.size, 0, none⟩)) ?_ (fun ok' m' _ hm => ⟨_, hm, rfl⟩)
  · simp [Impl.block] at hb; subst hb; simp
  · exact ⟨i.zero, t, alloc_new _ _, absLeaves_rep _⟩
  · simp [execOp, Instr.alloc, hz, newVar, newRow, hzc]
theorem box_does {dst t : Nat} {x : Operand} {ty : TypeId} {pos : String} {after : Array Edge} {guard : Option (Nat × Bool)} (h : Rel P E m s a w) (hd : dst < E.N) (hid : s.used dst = false) (hlt : dst < lentBase)
    (hc : LReps P w (okOf E m s.mem w) m (leavesOf (ev s x)) (a.eval x).cells.toList) :
    Does P E ⟨some dst, .box t x, ty, pos, after, guard⟩ s a w ⟨.ptr dst 0, [(dst, some (.cells (leavesOf (ev s x))))], [dst]⟩ := by
  refine does_new (w' := w.alloc (.cells (a.eval x).cells t)) (i := .var w.heap.size) h (by simp; omega) hid hlt (below_alloc _ _) (fun b hb => ?_) (fun ok' m' hk hm => ?_) (v := .pointer (some ⟨w.heap.size, 0, none⟩)) ?_ (fun ok' m' _ hm => ⟨_, hm, rfl⟩)
  · simp [Impl.block] at hb; subst hb; simp
  · exact ⟨(a.eval x).cells.toList, t, by simpa using alloc_new w (.cells (a.eval x).cells t), hc.mono hk hm⟩
  · simp [execOp, Instr.box, newVar, newRow]

/-! ### Rows that are laid -/
theorem takeElems_row {ok : Nat → Prop} {t : T} : ∀ {n : Nat} {ls : List L} {xs : List t.den} {vs : List Value}, takeElems t t.cnt n ls = some xs → LReps P w ok m ls vs →
    xs.length = n ∧ ∀ i x, xs[i]? = some x → ∃ ds, t.holds w ok x ds ∧ ∀ j u, ds[j]? = some u → vs[i * t.cnt + j]? = some u
  | 0, ls, xs, vs, h, hl => by simp only [takeElems, Option.some.injEq] at h; subst h; simp
  | n + 1, ls, xs, vs, h, hl => by
    simp only [takeElems] at h
    split at h
    · simp at h
    · rename_i x hx
      split at h
      · simp at h
      · rename_i ys hy
        simp only [Option.some.injEq] at h; subst h
        obtain ⟨h1, h2⟩ := takeElems_row hy (hl.drop t.cnt)
        have h3 := implode_holds hx (hl.take t.cnt)
        refine ⟨by simp [h1], fun i x' hi => ?_⟩
        cases i with
        | zero =>
          simp at hi; subst hi
          refine ⟨_, h3, fun j u hu => ?_⟩
          rw [List.getElem?_take] at hu
          split at hu
          · simpa using hu
          · simp at hu
        | succ i =>
          simp at hi
          obtain ⟨ds, hd, hj⟩ := h2 i x' hi
          refine ⟨ds, hd, fun j u hu => ?_⟩
          have := hj j u hu
          rw [List.getElem?_drop] at this
          rw [← this]; congr 1; rw [Nat.add_mul]; omega
theorem repeatLs_reps {ok : Nat → Prop} {zs : List Value} : ∀ n, LReps P w ok m (repeatLs n (zs.map absLeaf)) (List.replicate n zs).flatten
  | 0 => rfl
  | n + 1 => by
    rw [List.replicate_succ, List.flatten_cons]
    exact (absLeaves_rep _).append (repeatLs_reps n)
theorem flatten_get {α : Type} (zs : List α) (hz : 0 < zs.length) : ∀ (n j : Nat), j < n * zs.length → (List.replicate n zs).flatten[j]? = zs[j % zs.length]?
  | 0, j, h => by simp at h
  | n + 1, j, h => by
    rw [List.replicate_succ, List.flatten_cons]
    by_cases hj : j < zs.length
    · rw [List.getElem?_append_left hj, Nat.mod_eq_of_lt hj]
    · rw [List.getElem?_append_right (by omega), flatten_get zs hz n _ (by rw [Nat.add_mul] at h; omega)]
      congr 1
      rw [Nat.mod_eq_sub_mod (by omega : zs.length ≤ j)]
theorem range_zero (zs : List Value) (n : Nat) (hz : 0 < zs.length) : (Array.range (n * zs.length)).map (fun i => zs.toArray[i % zs.toArray.size]!) = (List.replicate n zs).flatten.toArray := by
  apply Array.ext_getElem?
  intro j
  by_cases hj : j < n * zs.length
  · have h1 : j % zs.length < zs.length := Nat.mod_lt _ hz
    have e := flatten_get zs hz n j hj
    simp only [Array.getElem?_map, List.getElem?_toArray, e]
    simp [hj, h1]
  · rw [Array.getElem?_eq_none (by simp; omega), Array.getElem?_eq_none (by simp [List.length_flatten]; omega)]
theorem ownRow_new {ok : Nat → Prop} {t : T} {xs : List t.den} {cs : List Value} {e : TypeId} {cap b : Nat} {fr : Nat × Nat} (hb : w.heap[b]? = some (.cells cs.toArray e fr)) (hn : xs.length ≤ cap) (hc : cap * t.cnt ≤ cs.length)
    (hf : FrOk t cs.length fr) (hx : ∀ i x, xs[i]? = some x → ∃ ds, t.holds w ok x ds ∧ ∀ j u, ds[j]? = some u → cs[i * t.cnt + j]? = some u) : OwnRow w ok t xs (.slice (some ⟨b, 0, none⟩) xs.length cap) := by
  refine .inr ⟨b, cs.toArray, e, fr, cap, rfl, hn, by simpa using hc, hb, by simpa using hf, fun i x hi => ?_⟩
  obtain ⟨ds, hd, hj⟩ := hx i x hi
  exact ⟨ds, hd, fun j u hu => by simpa using hj j u hu⟩
theorem elems_mono {w' : World} {ok ok' : Nat → Prop} {t : T} {xs : List t.den} {cs : List Value} (hk : Keeps w w' ok ok') (hx : ∀ i x, xs[i]? = some x → ∃ ds, t.holds w ok x ds ∧ ∀ j u, ds[j]? = some u → cs[i * t.cnt + j]? = some u) :
    ∀ i x, xs[i]? = some x → ∃ ds, t.holds w' ok' x ds ∧ ∀ j u, ds[j]? = some u → cs[i * t.cnt + j]? = some u := fun i x hi =>
  let ⟨ds, hd, hj⟩ := hx i x hi
  ⟨ds, T.holds_mono hk hd, hj⟩
/-- A row that is laid in a block of its own. -/
theorem does_row {o : Oper} (h : Rel P E m s a w) (hd : ∀ n, o.dst = some n → n < E.N) {id : Nat} (hid : s.used id = false) (hlt : id < lentBase) {t : T} {xs : List t.den} {cs : List Value} {e : TypeId} {cap : Nat} {fr : Nat × Nat} {w1 : World}
    (hw1 : Below w.heap.size w w1) (hsz : w1.heap.size = w.heap.size) (hn : xs.length ≤ cap) (hc : cap * t.cnt ≤ cs.length) (hf : FrOk t cs.length fr)
    (hx : ∀ i x, xs[i]? = some x → ∃ ds, t.holds w (okOf E m s.mem w) x ds ∧ ∀ j u, ds[j]? = some u → cs[i * t.cnt + j]? = some u)
    (hr : (execOp a.eval o).run P w = .ok (.value (.slice (some ⟨w.heap.size, 0, none⟩) xs.length cap)) (w1.alloc (.cells cs.toArray e fr))) : Does P E o s a w ⟨.sref id, [(id, some (.arr t xs))], [id]⟩ := by
  have hb : Below w.heap.size w (w1.alloc (.cells cs.toArray e fr)) := hw1.alloc (by omega) _
  have hnew : (w1.alloc (.cells cs.toArray e fr)).heap[w.heap.size]? = some (.cells cs.toArray e fr) := by rw [← hsz]; exact alloc_new _ _
  refine does_new (i := .arr (.slice (some ⟨w.heap.size, 0, none⟩) xs.length cap)) h hd hid hlt hb (fun b hb' => ?_) (fun ok' m' hk _ => ?_) hr (fun ok' m' _ hm => .inl hm)
  · simp [Impl.block] at hb'; subst hb'; simp [hsz]
  · exact ownRow_new hnew hn hc hf (elems_mono hk hx)
/-- A nil row. -/
theorem does_nil {o : Oper} (h : Rel P E m s a w) (hd : ∀ n, o.dst = some n → n < E.N) {id : Nat} (hid : s.used id = false) (hlt : id < lentBase) {t : T}
    (hr : (execOp a.eval o).run P w = .ok (.value (.slice none 0 0)) w) : Does P E o s a w ⟨.sref id, [(id, some (.arr t []))], [id]⟩ :=
  does_new (c := .arr t []) (i := .arr (.slice none 0 0)) h hd hid hlt (Below.refl _ w) (fun b hb => by simp [Impl.block] at hb) (fun _ _ _ _ => Or.inl ⟨rfl, rfl⟩) hr (fun _ _ _ hm => Or.inl hm)

/-- The state, some rows given away first. -/
theorem does_drop {o : Oper} {μ' : Nat → Option C} {l : L} {es gone : List (Nat × Option C)} {al : List Nat} (hμ : editMem gone s.mem = μ')
    (hg : Does P E o { s with mem := μ' } a w ⟨l, es, al⟩) : Does P E o s a w ⟨l, gone ++ es, al⟩ := by
  intro next Q hn
  refine hg next Q (fun a' w' hr => hn a' w' ?_)
  have : apply s o.dst ⟨l, gone ++ es, al⟩ = apply { s with mem := μ' } o.dst ⟨l, es, al⟩ := by
    simp only [apply, editMem_append, hμ]
  rw [this]; exact hr

theorem range0 (f : Nat → Value) : (Array.range 0).map f = #[] := Array.eq_empty_of_size_eq_zero (by simp)
theorem fillLs_len {pl : Nat → Option (Nat × Nat)} : ∀ {ps : List (Nat × L)} {cells ls : List L}, fillLs pl cells ps = some ls → ls.length = cells.length
  | [], _, _, h => by simp only [fillLs, Option.some.injEq] at h; rw [h]
  | (i, l) :: ps, cells, ls, h => by
    simp only [fillLs] at h
    split at h
    · simp at h
    · rename_i off size _
      cases hb : (Nat.beq (leavesOf l).length size && Nat.ble (off + size) cells.length) with
      | false => rw [hb] at h; simp at h
      | true =>
        rw [hb] at h
        simp only [cond_true] at h
        simp only [Bool.and_eq_true] at hb
        have hb1 := Nat.eq_of_beq_eq_true hb.1
        have hb2 := Nat.le_of_ble_eq_true hb.2
        rw [fillLs_len h]
        simp
        omega
theorem repeatLs_len (n : Nat) (zs : List L) : (repeatLs n zs).length = n * zs.length := by
  induction n with
  | zero => simp [repeatLs]
  | succ n ih => simp only [repeatLs, List.length_append, ih, Nat.add_mul]; omega
theorem buildSlice_does {dst t n e : Nat} {ps : List (Nat × Operand)} {ty : TypeId} {pos : String} {after : Array Edge} {guard : Option (Nat × Bool)} (h : Rel P E m s a w) (hd : dst < E.N) (hid : s.used dst = false) (hlt : dst < lentBase)
    {i ei : TI} (ht : TOk P t i) (hk : i.kind = .slice e) (hte : TOk P e ei) {et : T} (hcnt : et.cnt = ei.size) (hbig : n * ei.size ≤ 16777216) {ls ls' : List L} {gone : List (Nat × Option C)} {xs : List et.den}
    (hf : fillLs (fun j => some (j * ei.size, ei.size)) (repeatLs n (zeroLs ei)) (ps.map fun p => (p.1, ev s p.2)) = some ls) (hx : ∀ p ∈ ps, LReps P w (okOf E m s.mem w) m (leavesOf (ev s p.2)) (a.eval p.2).cells.toList)
    (hp : Ev (purify ls) s.mem (ls', gone)) (he : takeElems et ei.size n ls' = some xs) :
    Does P E ⟨some dst, .buildSlice t n ps.toArray, ty, pos, after, guard⟩ s a w ⟨.sref dst, gone ++ [(dst, some (.arr et xs))], [dst]⟩ := by
  obtain ⟨d, hdd, hs⟩ := ht.desc
  rw [hk] at hs
  rw [summ_slice hs] at hdd
  obtain ⟨z, hz, hzc⟩ := run_zeroValue (w := w) hte
  have hpos : 0 < ei.size := hcnt ▸ cnt_pos et
  have hone := purify_none hp
  have hμ : ∀ r c, editMem gone s.mem r = some c → s.mem r = some c := fun r c hc => (editMem_none hone hc).1
  have h' := h.drop hμ
  obtain ⟨us, hu1, hu2⟩ := fill_run (P := P) (w := w) hf hx (repeatLs_reps (zs := ei.zero) n)
  have hus := purify_reps h hμ hp (fun r hr => by
    cases hc : editMem gone s.mem r with
    | none => rfl
    | some c => exact absurd hr (editMem_none hone hc).2) hu2
  rw [← hcnt] at he
  obtain ⟨hxl, hxe⟩ := takeElems_row he hus
  have hul : us.length = n * ei.size := by
    rw [hu2.length, fillLs_len hf, repeatLs_len]
    simp [zeroLs, hte.len]
  refine does_drop rfl (does_row (w1 := w) (fr := (0, 0)) (e := e) (cs := us) (cap := n) h' (by simp; omega) hid hlt (Below.refl _ w) rfl (by omega) (by rw [hul, hcnt]; exact Nat.le_refl _) (.inl rfl) hxe ?_)
  have e1 : (ps.toArray.map fun (x : Nat × Operand) => (x.1, a.eval x.2)).toList = ps.map fun p => (p.1, a.eval p.2) := by simp
  simp only [execOp, Instr.buildSlice, Sem.run_bind, run_underlying hdd, Result.andThen_ok, run_sizeOf hte]
  rw [if_neg (by omega), hxl]
  by_cases hn : n * ei.size = 0
  · have hn0 : n = 0 := by rcases Nat.mul_eq_zero.1 hn with h1 | h1 <;> omega
    subst hn0
    simp only [hn, if_true, Sem.run_bind, Sem.run_pure, Result.andThen_ok]
    simp only [List.replicate_zero, List.flatten_nil] at hu1
    rw [e1, range0, hu1]
    simp [newRow]
  · have hr := range_zero ei.zero n (by rw [hte.len]; exact hpos)
    rw [hte.len] at hr
    simp only [if_neg hn, Sem.run_bind, Sem.run_pure, Result.andThen_ok, hz, hzc]
    rw [e1, hr, hu1]
    simp [newRow]
theorem replicate_row {ok : Nat → Prop} {t : T} {z : t.den} {zs : List Value} (hz : t.holds w ok z zs) (n : Nat) : ∀ i x, (List.replicate n z)[i]? = some x → ∃ ds, t.holds w ok x ds ∧ ∀ j u, ds[j]? = some u → (List.replicate n zs).flatten[i * t.cnt + j]? = some u := by
  intro i x hi
  rw [List.getElem?_replicate] at hi
  split at hi
  · rename_i hin
    simp at hi; subst hi
    have hl := T.holds_len hz
    refine ⟨zs, hz, fun j u hu => ?_⟩
    have hj : j < zs.length := (List.getElem?_eq_some_iff.1 hu).1
    rw [flatten_get zs (by omega) n _ (by
      have : (i + 1) * t.cnt ≤ n * t.cnt := Nat.mul_le_mul_right _ hin
      rw [Nat.add_mul] at this
      rw [hl]; omega)]
    rw [← hu, ← hl]
    congr 1
    rw [Nat.mul_comm, Nat.mul_add_mod, Nat.mod_eq_of_lt hj]
  · simp at hi
theorem wrap_i64 {n : Int} (h0 : -9223372036854775808 ≤ n) (h1 : n ≤ 9223372036854775807) : IntKind.i64.wrap n = n := by
  have : IntKind.i64.wrap n = if n % 18446744073709551616 ≥ 9223372036854775808 then n % 18446744073709551616 - 18446744073709551616 else n % 18446744073709551616 := by
    simp [IntKind.wrap, IntKind.bits, IntKind.signed]
  rw [this]
  split <;> omega
theorem makeSlice_does {dst t e : Nat} {x y : Operand} {ty : TypeId} {pos : String} {after : Array Edge} {guard : Option (Nat × Bool)} (h : Rel P E m s a w) (hd : dst < E.N) (hid : s.used dst = false) (hlt : dst < lentBase)
    {i ei : TI} (ht : TOk P t i) (hk : i.kind = .slice e) (hte : TOk P e ei) {et : T} (hcnt : et.cnt = ei.size) {n : Int} {k k' : IntKind} (hx : a.eval x = .int k n) (hy : a.eval y = .int k' n) (h0 : 0 ≤ n) (hroom : n.toNat * ei.bytes ≤ 140737488355328) (hbytes : ei.bytes ≠ 0)
    {z : et.den} (hz : et.implode (zeroLs ei) = some z) :
    Does P E ⟨some dst, .makeSlice t x y, ty, pos, after, guard⟩ s a w ⟨.sref dst, [(dst, some (.arr et (List.replicate n.toNat z)))], [dst]⟩ := by
  obtain ⟨d, hdd, hs⟩ := ht.desc
  rw [hk] at hs
  rw [summ_slice hs] at hdd
  obtain ⟨zv, hzv, hzc⟩ := run_zeroValue (w := w) hte
  obtain ⟨di, hi1, _, hi3, _⟩ := hte.inf
  have hpos : 0 < ei.size := hcnt ▸ cnt_pos et
  have hzh : et.holds w (okOf E m s.mem w) z ei.zero := implode_holds (P := P) (m := m) hz (absLeaves_rep _)
  have hle : n.toNat ≤ 140737488355328 := Nat.le_trans (Nat.le_mul_of_pos_right _ (by omega)) hroom
  have hw : IntKind.i64.wrap n = n := wrap_i64 (by omega) (by omega)
  have hlen : (List.replicate n.toNat z).length = n.toNat := by simp
  have key : Does P E ⟨some dst, .makeSlice t x y, ty, pos, after, guard⟩ s a w ⟨.sref dst, [(dst, some (.arr et (List.replicate n.toNat z)))], [dst]⟩ := by
    refine does_row (w1 := w) (fr := (0, 0)) (e := e) (cs := (List.replicate n.toNat ei.zero).flatten) (cap := n.toNat) h (by simp; omega) hid hlt (Below.refl _ w) rfl (by simp) (by simp [List.length_flatten, hte.len, hcnt]) (.inl rfl) (replicate_row hzh _) ?_
    have htl : ¬ (n < 0 ∨ (2 : Int) ^ 48 < (ei.bytes : Int) * n) := by
      have h1 : (ei.bytes : Int) * n = ((n.toNat * ei.bytes : Nat) : Int) := by rw [Int.natCast_mul, Int.mul_comm]; congr 1; omega
      rw [h1]; omega
    have hn0 : ¬ n < 0 := by omega
    have hb : ¬ (2 : Int) ^ 48 < (ei.bytes : Int) * n := fun hh => htl (.inr hh)
    simp only [execOp, Instr.makeSlice, Sem.run_bind, run_underlying hdd, Result.andThen_ok, hx, hy, asInt, asIntOf, Sem.run_pure, run_typeInfo hi1, hi3, hw]
    simp only [hn0, decide_false, hb, gt_iff_lt, Bool.or_self, Int.lt_irrefl, Bool.false_eq_true, if_false, Sem.run_bind, run_askRoom, Result.andThen_ok, run_sizeOf hte]
    by_cases hn : n.toNat * ei.size = 0
    · have hn1 : n.toNat = 0 := by rcases Nat.mul_eq_zero.1 hn with h1 | h1 <;> omega
      simp only [hn, if_true, Sem.run_bind, Sem.run_pure, Result.andThen_ok]
      rw [hn1, range0]
      simp [newRow]
    · have hr := range_zero ei.zero n.toNat (by rw [hte.len]; exact hpos)
      rw [hte.len] at hr
      simp only [if_neg hn, Sem.run_bind, Sem.run_pure, Result.andThen_ok, hzv, hzc]
      rw [hr]
      simp [newRow]
  exact key
end
end Go.GG
