/- Structs that are compared. -/
import Derived.Test.YtlgfmkccnljhoaaC32
import Derived.Laws.StructEq
namespace Go.GG
open Go.RowKit
def eqFieldsB (P : Program) (go : TypeId → T → Bool) : List Field → Nat → T → Bool
  | [], _, _ => false
  | [f], off, t => f.name != "_" && f.offset == off && go f.type t && P.cellsOf f.type == t.cnt
  | f :: g :: r, off, t => match t with
    | .pair a b => f.name != "_" && f.offset == off && go f.type a && P.cellsOf f.type == a.cnt && eqFieldsB P go (g :: r) (off + a.cnt) b
    | _ => false
def eqB (P : Program) : Nat → TypeId → T → Bool
  | 0, _, _ => false
  | n + 1, t, s => match P.underlying t with
    | some (.int k) => (match s with | .int k' => k == k' | _ => false)
    | some .bool => (match s with | .bool => true | _ => false)
    | some .string => (match s with | .str => true | _ => false)
    | some (.struct fs) => !P.stoodInHeld t && eqFieldsB P (eqB P n) fs.toList 0 s
    | _ => false
section
variable {P : Program} {w : World}
/-- Cells as one value of a type. -/
def packV (P : Program) (t : TypeId) (cs : List Value) : Value := match aggB P t with
  | true => .agg cs.toArray
  | false => cs.headD undef
theorem eqB_flat : ∀ {n : Nat} {t : TypeId} {s : T}, eqB P n t s = true → s.flat = true ∧ (aggB P t = false → s.cnt = 1)
  | 0, _, _, h => by simp [eqB] at h
  | n + 1, t, s, h => by
    have fields : ∀ {fs : List Field} {off : Nat} {s : T}, eqFieldsB P (eqB P n) fs off s = true → s.flat = true := by
      intro fs
      induction fs with
      | nil => intro off s h; simp [eqFieldsB] at h
      | cons f r ih =>
        intro off s h
        cases r with
        | nil =>
          simp only [eqFieldsB, Bool.and_eq_true] at h
          exact (eqB_flat h.1.2).1
        | cons g r =>
          cases s <;> simp only [eqFieldsB, Bool.and_eq_true, Bool.false_eq_true] at h
          simp only [T.flat, Bool.and_eq_true]
          exact ⟨(eqB_flat h.1.1.2).1, ih h.2⟩
    simp only [eqB] at h
    split at h
    · cases s <;> simp at h; exact ⟨rfl, fun _ => rfl⟩
    · cases s <;> simp at h; exact ⟨rfl, fun _ => rfl⟩
    · cases s <;> simp at h; exact ⟨rfl, fun _ => rfl⟩
    · rename_i fs hu
      simp only [Bool.and_eq_true] at h
      exact ⟨fields h.2, fun ha => by simp [aggB, hu] at ha⟩
    · simp at h
theorem run_isAgg' {t : TypeId} {d : TypeDesc} (h : P.underlying t = some d) : (isAgg t).run P w = .ok (aggB P t) w := by
  simp only [isAgg, Sem.run_bind, run_underlying h, Result.andThen_ok, aggB, h]
  cases d <;> rfl
theorem run_sizeOf' {t : TypeId} (h : 0 < P.cellsOf t) : (sizeOf t).run P w = .ok (P.cellsOf t) w := by
  unfold Program.cellsOf at h ⊢
  cases hi : P.info? t with
  | none => rw [hi] at h; simp at h
  | some i => simp [sizeOf, run_typeInfo hi]
theorem part_pack {n : Nat} {t : TypeId} {s : T} (h : eqB P n t s = true) (hc : P.cellsOf t = s.cnt) {cs : List Value} {off : Nat} (hl : off + s.cnt ≤ cs.length) :
    (part t cs.toArray off).run P w = .ok (packV P t ((cs.drop off).take s.cnt)) w := by
  have hu : ∃ d, P.underlying t = some d := by
    cases n with
    | zero => simp [eqB] at h
    | succ n =>
      simp only [eqB] at h
      cases hu : P.underlying t with
      | none => rw [hu] at h; simp at h
      | some d => exact ⟨d, rfl⟩
  obtain ⟨d, hu⟩ := hu
  have hpos := cnt_pos s
  simp only [part, Sem.run_bind, run_isAgg' hu, Result.andThen_ok]
  cases ha : aggB P t with
  | true =>
    simp only [if_true, Sem.run_bind, run_sizeOf' (hc ▸ hpos), Result.andThen_ok, Sem.run_pure, packV, ha, hc]
    congr 2
    simp [List.take_drop]
  | false =>
    have h1 := (eqB_flat h).2 ha
    have hlt : off < cs.length := by omega
    simp only [Bool.false_eq_true, if_false, packV, ha, h1]
    have e : (List.drop off cs).take 1 = [cs[off]] := by rw [List.drop_eq_getElem_cons hlt]; rfl
    rw [e]
    simp [hlt]
theorem eqB_run : ∀ (n : Nat) {d : Nat} {t : TypeId} {s : T}, eqB P n t s = true → n ≤ d → ∀ {ok : Nat → Prop} {x y : s.den} {cs cs' : List Value}, s.holds w ok x cs → s.holds w ok y cs' →
    (Op.equalIn d t (packV P t cs) (packV P t cs')).run P w = .ok (s.eqb x y) w
  | 0, _, _, _, h, _, _, _, _, _, _, _, _ => by simp [eqB] at h
  | n + 1, 0, _, _, _, h, _, _, _, _, _, _, _ => by omega
  | n + 1, d + 1, t, s, h, hd, ok, x, y, cs, cs', hx, hy => by
    simp only [eqB] at h
    split at h
    · rename_i k hu
      cases s <;> simp at h
      subst h
      simp only [T.holds] at hx hy
      subst hx; subst hy
      have ha : aggB P t = false := by simp [aggB, hu]
      simp only [packV, ha, List.headD_cons]
      exact run_equalIn_int w d t k k x y hu
    · rename_i hu
      cases s <;> simp at h
      simp only [T.holds] at hx hy
      subst hx; subst hy
      have ha : aggB P t = false := by simp [aggB, hu]
      simp only [packV, ha, List.headD_cons]
      exact run_equalIn_bool' w d t x y hu
    · rename_i hu
      cases s <;> simp at h
      simp only [T.holds] at hx hy
      subst hx; subst hy
      have ha : aggB P t = false := by simp [aggB, hu]
      simp only [packV, ha, List.headD_cons]
      rw [run_equalIn_string w d t _ _ hu, ByteArray.toList_eq, ByteArray.toList_eq]
      simp [T.eqb]
    · rename_i fs hu
      simp only [Bool.and_eq_true, Bool.not_eq_true'] at h
      have ha : aggB P t = true := by simp [aggB, hu]
      have hf : P.fieldsOf t = fs := by simp [Program.fieldsOf, hu]
      simp only [packV, ha]
      rw [run_equalIn_struct w d t _ _ (by rw [hf]; exact hu) h.1, hf]
      -- the fields, one by one
      have fields : ∀ {l : List Field} {off : Nat} {s : T} {x y : s.den}, eqFieldsB P (eqB P n) l off s = true → off + s.cnt ≤ cs.length → off + s.cnt ≤ cs'.length →
          s.holds w ok x ((cs.drop off).take s.cnt) → s.holds w ok y ((cs'.drop off).take s.cnt) → (Op.eqFields d cs.toArray cs'.toArray l).run P w = .ok (s.eqb x y) w := by
        intro l
        induction l with
        | nil => intro off s x y h; simp [eqFieldsB] at h
        | cons f r ih =>
          intro off s x y h hl hl' h1 h2
          cases r with
          | nil =>
            simp only [eqFieldsB, Bool.and_eq_true, bne_iff_ne, beq_iff_eq] at h
            obtain ⟨⟨⟨hn, ho⟩, hg⟩, hc⟩ := h
            subst ho
            have e1 := part_pack (w := w) hg hc hl
            have e2 := part_pack (w := w) hg hc hl'
            have e3 := eqB_run n (d := d) hg (by omega) h1 h2
            simp only [Op.eqFields, ne_eq, hn, not_false_eq_true, if_true, Sem.run_bind, e1, e2, Result.andThen_ok, e3]
            cases s.eqb x y <;> simp
          | cons g r =>
            cases s
            case pair a b =>
              simp only [eqFieldsB, Bool.and_eq_true, bne_iff_ne, beq_iff_eq] at h
              obtain ⟨⟨⟨⟨hn, ho⟩, hg⟩, hc⟩, hr⟩ := h
              subst ho
              simp only [T.cnt] at hl hl' h1 h2
              rw [take_drop] at h1 h2
              simp only [T.holds] at h1 h2
              obtain ⟨c1, c2, he1, h11, h12⟩ := h1
              obtain ⟨c1', c2', he2, h21, h22⟩ := h2
              have l1 := T.holds_len h11
              have l2 := T.holds_len h21
              have s1 := List.append_inj he1 (by rw [l1, List.length_take, List.length_drop]; omega)
              have s2 := List.append_inj he2 (by rw [l2, List.length_take, List.length_drop]; omega)
              obtain ⟨rfl, rfl⟩ := s1
              obtain ⟨rfl, rfl⟩ := s2
              have e1 := part_pack (w := w) hg hc (cs := cs) (off := f.offset) (by omega)
              have e2 := part_pack (w := w) hg hc (cs := cs') (off := f.offset) (by omega)
              have e3 := eqB_run n (d := d) hg (by omega) h11 h21
              have e4 := ih (off := f.offset + a.cnt) hr (by omega) (by omega) h12 h22
              rw [Op.eqFields]
              simp only [ne_eq, hn, not_false_eq_true, if_true, Sem.run_bind, e1, e2, Result.andThen_ok, e3]
              simp only [T.eqb]
              cases a.eqb x.1 y.1
              · simp
              · simpa using e4
            all_goals simp [eqFieldsB] at h
      have lx := T.holds_len hx
      have ly := T.holds_len hy
      refine fields h.2 (off := 0) (by omega) (by omega) ?_ ?_
      · rw [List.drop_zero, List.take_of_length_le (by omega)]; exact hx
      · rw [List.drop_zero, List.take_of_length_le (by omega)]; exact hy
    · simp at h
theorem eqOk_of {n : Nat} {t : TypeId} {s : T} (hg : P.eqGuardType P.depth t = false) (hn : n ≤ Op.maxDepth) (ha : aggB P t = true) (h : eqB P n t s = true) : EqOk P t s := by
  refine ⟨hg, fun x y cs cs' w ok hx hy => ?_⟩
  have := eqB_run (w := w) n h hn hx hy
  simp only [packV, ha] at this
  exact this
theorem tOk_eq {t : TypeId} {i : TI} {s : T} (h1 : (P.underlying t).map summ = some i.kind) (h2 : (P.info? t).map (fun j => (j.size, j.bytes, j.zero.map Value.cells)) = some (i.size, i.bytes, some i.zero.toArray)) (h3 : i.zero.length = i.size)
    (ht : i.t = some s) (hg : P.eqGuardType P.depth t = false) (ha : aggB P t = true) (he : eqB P 12 t s = true) : TOk P t i :=
  ⟨h1, h2, h3, fun _ T' hT => by rw [ht] at hT; simp at hT; subst hT; exact eqOk_of hg (by decide) ha he⟩
end
end Go.GG
