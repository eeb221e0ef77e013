/- Structs that are put together, tuples, lengths, texts: the machine does so. -/
import Derived.Test.YtlgfmkccnljhoaaC6
import Derived.Laws.BytesArg
import Derived.Laws.CopyRow
namespace Go.GG
open Go.RowKit
section
variable {P : Program} {w : World} {ok : Nat → Prop} {m : IMap} {μ : Nat → Option C}

theorem foldl_zip_size (v : List Value) (off : Nat) : ∀ (n : Nat) (cs : Array Value), ((v.zipIdx n).foldl (fun cs (x : Value × Nat) => cs.setIfInBounds (off + x.2) x.1) cs).size = cs.size := by
  induction v with
  | nil => intro n cs; rfl
  | cons a v ih => intro n cs; simp only [List.zipIdx_cons, List.foldl_cons]; rw [ih]; simp
theorem foldl_zip_get (v : List Value) (off : Nat) : ∀ (n : Nat) (cs : Array Value) (j : Nat), off + n + v.length ≤ cs.size →
    ((v.zipIdx n).foldl (fun cs (x : Value × Nat) => cs.setIfInBounds (off + x.2) x.1) cs)[j]? = if off + n ≤ j ∧ j < off + n + v.length then v[j - (off + n)]? else cs[j]? := by
  induction v with
  | nil => intro n cs j _; simp; intro h1 h2; omega
  | cons a v ih =>
    intro n cs j h
    simp only [List.zipIdx_cons, List.foldl_cons]
    rw [ih (n + 1) _ j (by simp at h ⊢; omega)]
    simp only [List.length_cons] at h ⊢
    by_cases h1 : off + n = j
    · subst h1
      rw [if_neg (by omega), if_pos (by omega), Array.getElem?_setIfInBounds_self_of_lt (by omega)]
      simp
    · by_cases h2 : off + n ≤ j ∧ j < off + n + (v.length + 1)
      · rw [if_pos (by omega), if_pos h2]
        rw [show j - (off + n) = (j - (off + (n + 1))) + 1 by omega, List.getElem?_cons_succ]
      · rw [if_neg (by omega), if_neg h2, Array.getElem?_setIfInBounds_ne (by omega)]
theorem foldl_zip (v : List Value) (off : Nat) (cs : List Value) (h : off + v.length ≤ cs.length) :
    ((v.zipIdx 0).foldl (fun (cs : Array Value) (x : Value × Nat) => cs.setIfInBounds (off + x.2) x.1) cs.toArray) = (cs.take off ++ v ++ cs.drop (off + v.length)).toArray := by
  apply Array.ext_getElem?
  intro j
  rw [foldl_zip_get v off 0 _ j (by simpa using h)]
  simp only [Nat.add_zero, List.getElem?_toArray]
  by_cases h1 : j < off
  · rw [if_neg (by omega), List.append_assoc, List.getElem?_append_left (by simp; omega), List.getElem?_take, if_pos h1]
  · by_cases h2 : j < off + v.length
    · rw [if_pos (by omega), List.append_assoc, List.getElem?_append_right (by simp; omega), List.getElem?_append_left (by simp; omega)]
      congr 1; simp; omega
    · rw [if_neg (by omega), List.getElem?_append_right (by simp; omega), List.getElem?_drop]
      congr 1; simp; omega
theorem leavesOf_reps {l : L} {v : Value} (h : LRep P w ok m l v) (h1 : (∀ ls, l ≠ .agg ls) → v.cells = #[v]) : LReps P w ok m (leavesOf l) v.cells.toList := by
  cases l
  case agg ls => obtain ⟨vs, rfl, h⟩ := h; simpa [leavesOf, Value.cells] using h
  all_goals (rw [h1 (by simp)]; exact ⟨v, [], rfl, h, rfl⟩)
theorem fill_run {pl : Nat → Option (Nat × Nat)} : ∀ {ps : List (Nat × Operand)} {ρ : Operand → L} {ρ' : Operand → Value} {cells ls : List L} {vs : List Value},
    fillLs pl cells (ps.map fun p => (p.1, ρ p.2)) = some ls → (∀ p ∈ ps, LReps P w ok m (leavesOf (ρ p.2)) (ρ' p.2).cells.toList) → LReps P w ok m cells vs →
    ∃ us, Instr.fill pl vs.toArray (ps.map fun p => (p.1, ρ' p.2)) = some us.toArray ∧ LReps P w ok m ls us
  | [], _, _, _, _, vs, h, _, hc => by simp only [List.map_nil, fillLs, Option.some.injEq] at h; subst h; exact ⟨vs, rfl, hc⟩
  | (i, x) :: ps, ρ, ρ', cells, ls, vs, h, hx, hc => by
    simp only [List.map_cons, fillLs] at h
    split at h
    · simp at h
    · rename_i off size hpl
      have hlx := hx (i, x) (by simp)
      have hl1 := hlx.length
      have hl2 := hc.length
      cases hb : (Nat.beq (leavesOf (ρ x)).length size && Nat.ble (off + size) cells.length) with
      | false => rw [hb] at h; simp at h
      | true =>
        rw [hb] at h
        simp only [cond_true] at h
        simp only [Bool.and_eq_true] at hb
        have hb1 := Nat.eq_of_beq_eq_true hb.1
        have hb2 := Nat.le_of_ble_eq_true hb.2
        have hnew : LReps P w ok m (cells.take off ++ leavesOf (ρ x) ++ cells.drop (off + size)) (vs.take off ++ (ρ' x).cells.toList ++ vs.drop (off + size)) := ((hc.take off).append hlx).append (hc.drop _)
        obtain ⟨us, h1, h2⟩ := fill_run (ps := ps) h (fun p hp => hx p (by simp [hp])) hnew
        refine ⟨us, ?_, h2⟩
        have hsz : (ρ' x).cells.size = size := by rw [← hb1, ← hl1]; simp
        simp only [List.map_cons, Instr.fill, hpl]
        rw [if_neg (by simp [hsz]; omega)]
        have := foldl_zip (ρ' x).cells.toList off vs (by simp [hsz]; omega)
        simp only [Array.length_toList, hsz] at this
        rw [← h1, ← this]
        congr 1
        rw [← Array.foldl_toList, Array.toList_zipIdx]

theorem fieldPlaces_run {tab : Tab} (hT : TabOk P tab) : ∀ {gs : List Field} {pl : List (Nat × Nat)}, fieldPlaces tab (gs.map fun f => (f.type, f.offset)) = some pl →
    (gs.mapM fun f => (do pure (f.offset, ← sizeOf f.type) : Sem (Nat × Nat))).run P w = .ok pl w
  | [], pl, h => by simp only [List.map_nil, fieldPlaces, Option.some.injEq] at h; subst h; rfl
  | g :: gs, pl, h => by
    simp only [List.map_cons, fieldPlaces] at h
    split at h
    · simp at h
    · rename_i i hi
      split at h
      · simp at h
      · rename_i l hl
        simp only [Option.some.injEq] at h; subst h
        have := fieldPlaces_run hT hl
        simp only [List.mapM_cons, Sem.run_bind, run_sizeOf (hT _ _ hi), Result.andThen_ok, Sem.run_pure, this]
theorem build_struct_run {tab : Tab} (hT : TabOk P tab) {t : TypeId} {i : TI} (ht : TOk P t i) {fs : List (TypeId × Nat)} (hk : i.kind = .struct fs) {pl : List (Nat × Nat)} (hpl : fieldPlaces tab fs = some pl)
    {ps : List (Nat × Operand)} {ρ : Operand → L} {ρ' : Operand → Value} {ls : List L} (h : fillLs (fun j => pl[j]?) (zeroLs i) (ps.map fun p => (p.1, ρ p.2)) = some ls) (hx : ∀ p ∈ ps, LReps P w ok m (leavesOf (ρ p.2)) (ρ' p.2).cells.toList) :
    ∃ v, (Instr.build t (ps.toArray.map fun (p : Nat × Operand) => (p.1, ρ' p.2))).run P w = .ok v w ∧ LRep P w ok m (.agg ls) v := by
  obtain ⟨d, hd, hs⟩ := ht.desc
  rw [hk] at hs
  obtain ⟨gs, rfl, hf⟩ := summ_struct hs
  obtain ⟨z, hz, hzc⟩ := run_zeroValue (w := w) ht
  have hz0 : LReps P w ok m (zeroLs i) i.zero := absLeaves_rep _
  obtain ⟨us, h1, h2⟩ := fill_run h hx hz0
  refine ⟨.agg us.toArray, ?_, us, rfl, h2⟩
  have hm : (gs.mapM fun f => (do pure (f.offset, ← sizeOf f.type) : Sem (Nat × Nat))).run P w = .ok pl.toArray w := by
    have := fieldPlaces_run (w := w) hT (gs := gs.toList) (by rw [hf]; exact hpl)
    rw [Array.mapM_eq_mapM_toList]
    simp only [Sem.run_map, this, Result.andThen_ok]
  simp only [Instr.build, Sem.run_bind, hz, Result.andThen_ok, run_underlying hd, hm]
  have e : (fun (j : Nat) => pl.toArray[j]?) = fun (j : Nat) => pl[j]? := by funext j; simp
  simp only [Array.toList_map]
  rw [e, hzc, h1]
  rfl
theorem build_array_run {t e : TypeId} {i ei : TI} {n : Nat} (ht : TOk P t i) (hk : i.kind = .array n e) (hte : TOk P e ei)
    {ps : List (Nat × Operand)} {ρ : Operand → L} {ρ' : Operand → Value} {ls : List L} (h : fillLs (fun j => some (j * ei.size, ei.size)) (zeroLs i) (ps.map fun p => (p.1, ρ p.2)) = some ls) (hx : ∀ p ∈ ps, LReps P w ok m (leavesOf (ρ p.2)) (ρ' p.2).cells.toList) :
    ∃ v, (Instr.build t (ps.toArray.map fun (p : Nat × Operand) => (p.1, ρ' p.2))).run P w = .ok v w ∧ LRep P w ok m (.agg ls) v := by
  obtain ⟨d, hd, hs⟩ := ht.desc
  rw [hk] at hs
  rw [summ_array hs] at hd
  obtain ⟨z, hz, hzc⟩ := run_zeroValue (w := w) ht
  have hz0 : LReps P w ok m (zeroLs i) i.zero := absLeaves_rep _
  obtain ⟨us, h1, h2⟩ := fill_run h hx hz0
  refine ⟨.agg us.toArray, ?_, us, rfl, h2⟩
  simp only [Instr.build, Sem.run_bind, hz, Result.andThen_ok, run_underlying hd, run_sizeOf hte, Array.toList_map, hzc]
  rw [h1]
  rfl

/-! #### len, min, max -/
theorem len_run (hm : MemOk P w ok m μ) {t : TypeId} {d : TypeDesc} (hd : P.underlying t = some d) {ty : TypeId} {lx l : L} {vx : Value} (hk : (∃ s, lx = .val .str s) ∧ d = .string ∨ ((∀ s, lx ≠ .val .str s) ∧ ∃ e, d = .slice e)) (he : Ev (lenOp lx) μ l) (hx : LRep P w ok m lx vx) :
    ∃ v, (Builtin.len_ #[t] ty #[vx]).run P w = .ok v w ∧ LRep P w ok m l v := by
  rcases hk with ⟨⟨s, rfl⟩, rfl⟩ | ⟨hns, e, rfl⟩
  · have := rep_str hx; subst this
    simp only [lenOp, ev_pure] at he; subst he
    refine ⟨_, ?_, mk_int _ _⟩
    have hz : (ByteArray.mk s.toArray).size = s.length := by simp [ByteArray.size]
    simp [Builtin.len_, run_underlying hd, goInt, hz]
  · have key : ∀ A n c, vx = .slice A n c → (Builtin.len_ #[t] ty #[vx]).run P w = .ok (.int .i64 n) w := by
      rintro A n c rfl
      simp [Builtin.len_, run_underlying hd, goInt]
    by_cases hn : lx = .nils
    · subst hn
      simp only [lenOp, ev_pure] at he; subst he
      simp only [LRep] at hx; subst hx
      exact ⟨_, key _ _ _ rfl, mk_int _ _⟩
    by_cases hvw : ∃ r cnt lo n, lx = .vw r cnt lo n
    · obtain ⟨r, cnt, lo, n, rfl⟩ := hvw
      simp only [lenOp, ev_pure] at he; subst he
      obtain ⟨A, c, k, _, rfl, _⟩ := hx
      exact ⟨_, key _ _ _ rfl, mk_int _ _⟩
    · have he' : Ev ((elemsAny lx).bind fun x => .pure (.val (.int .i64) (x.2.length : Int))) μ l := by
        cases lx
        case val t' x => cases t' <;> first | exact absurd rfl (hns x) | exact he
        case nils => exact absurd rfl hn
        case vw r cnt lo n => exact absurd ⟨r, cnt, lo, n, rfl⟩ hvw
        all_goals exact he
      rw [ev_bind] at he'
      obtain ⟨⟨t', xs⟩, hxs, he'⟩ := he'
      rw [ev_pure] at he'; subst he'
      obtain ⟨A, c, rfl, _⟩ := elemsAny_form hm hxs hx
      exact ⟨_, key _ _ _ rfl, mk_int _ _⟩
theorem min2_run {a b l : L} {va vb : Value} (he : Ev (min2 a b) μ l) (ha : LRep P w ok m a va) (hb : LRep P w ok m b vb) : ∃ v, (Builtin.min2 va vb).run P w = .ok v w ∧ LRep P w ok m l v := by
  unfold min2 at he
  split at he
  · have := rep_int ha; subst this
    have := rep_int hb; subst this
    rw [ev_pure] at he; subst he
    exact ⟨_, rfl, mk_int _ _⟩
  · have := rep_str ha; subst this
    have := rep_str hb; subst this
    rw [ev_pure] at he; subst he
    rename_i x y
    refine ⟨_, ?_, mk_str _⟩
    simp only [Builtin.min2, Op.stringOp, ByteArray.toList_mk, Sem.run_bind, Sem.run_pure, Result.andThen_ok, asBool]
    rw [show strMin x y = cond (Op.bytesLess x y || x == y) x y from rfl]
    cases (Op.bytesLess x y || x == y) <;> rfl
  · simp [ev_fail] at he
theorem max2_run {a b l : L} {va vb : Value} (he : Ev (max2 a b) μ l) (ha : LRep P w ok m a va) (hb : LRep P w ok m b vb) : ∃ v, (Builtin.max2 va vb).run P w = .ok v w ∧ LRep P w ok m l v := by
  unfold max2 at he
  split at he
  · have := rep_int ha; subst this
    have := rep_int hb; subst this
    rw [ev_pure] at he; subst he
    exact ⟨_, rfl, mk_int _ _⟩
  · have := rep_str ha; subst this
    have := rep_str hb; subst this
    rw [ev_pure] at he; subst he
    rename_i x y
    refine ⟨_, ?_, mk_str _⟩
    simp only [Builtin.max2, Op.stringOp, ByteArray.toList_mk, Sem.run_bind, Sem.run_pure, Result.andThen_ok, asBool]
    rw [show strMax x y = cond (Op.bytesLess x y) y x from rfl]
    cases (Op.bytesLess x y) <;> rfl
  · simp [ev_fail] at he
theorem fold_run {f : L → L → RM L} {g : Value → Value → Sem Value} (hf : ∀ {a b l va vb}, Ev (f a b) μ l → LRep P w ok m a va → LRep P w ok m b vb → ∃ v, (g va vb).run P w = .ok v w ∧ LRep P w ok m l v) :
    ∀ {ls : List L} {a l : L} {va : Value} {vs : List Value}, Ev (foldRM f a ls) μ l → LRep P w ok m a va → LReps P w ok m ls vs → ∃ v, (vs.foldlM g va).run P w = .ok v w ∧ LRep P w ok m l v
  | [], a, l, va, vs, he, ha, hl => by
    simp only [LReps] at hl; subst hl
    simp only [foldRM, ev_pure] at he; subst he
    exact ⟨va, rfl, ha⟩
  | b :: ls, a, l, va, _, he, ha, hl => by
    obtain ⟨vb, vs', rfl, h1, h2⟩ := hl
    simp only [foldRM, ev_bind] at he
    obtain ⟨c, hc, he⟩ := he
    obtain ⟨v, hv, hr⟩ := hf hc ha h1
    obtain ⟨u, hu, hr'⟩ := fold_run hf he hr h2
    exact ⟨u, by simp [List.foldlM_cons, hv, hu], hr'⟩

/-! #### Texts -/
theorem bytes_of_holds : ∀ {xs : List Int} {v : Value}, (T.slice (.int .u8)).holds w ok xs [v] → ∃ A c, v = .slice A xs.length c ∧ ((A = none ∧ xs = []) ∨ ∃ a, A = some a ∧ (loadCells a xs.length).run P w = .ok (xs.map (Value.int .u8)).toArray w) := by
  intro xs v h
  simp only [T.holds] at h
  obtain ⟨A, c, hv, _, h⟩ := h
  simp only [List.cons.injEq, and_true] at hv
  refine ⟨A, c, hv, ?_⟩
  rcases h with ⟨rfl, _⟩ | ⟨b, off, C, e, fr, rfl, _, hh, hx⟩
  · cases A with
    | none => exact .inl ⟨rfl, rfl⟩
    | some a => exact .inr ⟨a, rfl, by simpa using run_loadCells_list (P := P) (w := w) a [] (by simp)⟩
  · refine .inr ⟨_, rfl, ?_⟩
    have := run_loadCells_list (P := P) (w := w) ⟨b, off, none⟩ (xs.map (Value.int .u8)) (fun j u hu => by
      rw [List.getElem?_map, Option.map_eq_some_iff] at hu
      obtain ⟨x, hx1, rfl⟩ := hu
      obtain ⟨ds, hd, hj⟩ := hx j x hx1
      subst hd
      rw [add_plain, cell_of hh]
      have := hj 0 (.int .u8 x) rfl
      simpa [T.cnt] using this)
    simpa using this
theorem toStr_run {src dst e : TypeId} (hs : P.underlying src = some (.slice e)) (he : P.underlying e = some (.int .u8)) (hd : P.underlying dst = some .string) {xs : List Int} {v : Value} (h : (T.slice (.int .u8)).holds w ok xs [v]) :
    (convert src dst v).run P w = .ok (.string ⟨(toBytes xs).toArray⟩) w := by
  obtain ⟨A, c, rfl, hh⟩ := bytes_of_holds (P := P) h
  rcases hh with ⟨h1, rfl⟩ | ⟨a, h1, hl⟩ <;> subst h1
  · exact run_convert_bytes_nil w src e hs he 0 c dst hd
  · rw [run_convert_bytes_string w src dst e _ _ _ hs he hd, run_bytesToString w a _ _ xs hl, foldl_push_bytes]
    simp [ByteArray.empty, ByteArray.emptyWithCapacity, toBytes]
    rfl
end
end Go.GG
