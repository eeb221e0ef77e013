/- append, texts as bytes: the machine does so. -/
import Derived.Test.YtnpjmdoglcmahaaC9
namespace Go.GG
open Go.RowKit

/-- A row's cells, one behind the other. -/
structure Row (w : World) (ok : Nat → Prop) (t : T) (xs : List t.den) (vs : List Value) : Prop where
  len : vs.length = xs.length * t.cnt
  el : ∀ i x, xs[i]? = some x → ∃ ds, t.holds w ok x ds ∧ ∀ j u, ds[j]? = some u → vs[i * t.cnt + j]? = some u
  one : ∀ u ∈ vs, u.oneCell' = true
theorem Row.nil (w : World) (ok : Nat → Prop) (t : T) : Row w ok t [] [] := ⟨by simp, by simp, by simp⟩
theorem Row.mono {w w' : World} {ok ok' : Nat → Prop} {t : T} {xs : List t.den} {vs : List Value} (hk : Keeps w w' ok ok') (h : Row w ok t xs vs) : Row w' ok' t xs vs :=
  ⟨h.len, elems_mono hk h.el, h.one⟩
theorem Row.append {w : World} {ok : Nat → Prop} {t : T} {xs ys : List t.den} {vs us : List Value} (h : Row w ok t xs vs) (h' : Row w ok t ys us) : Row w ok t (xs ++ ys) (vs ++ us) := by
  refine ⟨by simp [h.len, h'.len, Nat.add_mul], fun i x hi => ?_, fun u hu => ?_⟩
  · rw [List.getElem?_append] at hi
    split at hi
    · rename_i hlt
      obtain ⟨ds, hd, hj⟩ := h.el i x hi
      refine ⟨ds, hd, fun j u hu => ?_⟩
      have := hj j u hu
      rw [List.getElem?_append_left (List.getElem?_eq_some_iff.1 this).1]
      exact this
    · rename_i hge
      obtain ⟨ds, hd, hj⟩ := h'.el _ x hi
      refine ⟨ds, hd, fun j u hu => ?_⟩
      have := hj j u hu
      have e : i * t.cnt = xs.length * t.cnt + (i - xs.length) * t.cnt := by rw [← Nat.add_mul]; congr 1; omega
      rw [List.getElem?_append_right (by rw [h.len]; omega), ← this, h.len]
      congr 1; omega
  · rcases List.mem_append.1 hu with hu | hu
    · exact h.one u hu
    · exact h'.one u hu
theorem src_cells {P : Program} {w : World} {ok : Nat → Prop} {t : T} {xs : List t.den} {b off : Nat} {C : Array Value} {e : TypeId} {fr : Nat × Nat} (hh : w.heap[b]? = some (.cells C e fr))
    (hx : ∀ i x, xs[i]? = some x → ∃ ds, t.holds w ok x ds ∧ ∀ j u, ds[j]? = some u → C[off + i * t.cnt + j]? = some u) :
    ∃ vs, Row w ok t xs vs ∧ (loadCells ⟨b, off, none⟩ (xs.length * t.cnt)).run P w = .ok vs.toArray w := by
  have hpos := cnt_pos t
  have hsz : xs ≠ [] → off + xs.length * t.cnt ≤ C.size := by
    intro hne
    have hl : 0 < xs.length := List.length_pos_iff.2 hne
    obtain ⟨ds, hd, hj⟩ := hx (xs.length - 1) (xs[xs.length - 1]'(by omega)) (by simp)
    have hdl := T.holds_len hd
    have := hj (t.cnt - 1) (ds[t.cnt - 1]'(by omega)) (by simp)
    have h1 := (Array.getElem?_eq_some_iff.1 this).1
    have h2 : (xs.length - 1) * t.cnt + t.cnt = xs.length * t.cnt := by
      rw [← Nat.succ_mul]; congr 1; omega
    omega
  have hvs : ∀ k, k < xs.length * t.cnt → ((C.toList.drop off).take (xs.length * t.cnt))[k]? = C[off + k]? := by
    intro k hk
    rw [List.getElem?_take, if_pos hk, List.getElem?_drop]
    simp
  have hlen : ((C.toList.drop off).take (xs.length * t.cnt)).length = xs.length * t.cnt := by
    by_cases hne : xs = []
    · subst hne; simp
    · have := hsz hne
      simp; omega
  refine ⟨(C.toList.drop off).take (xs.length * t.cnt), ⟨hlen, fun i x hi => ?_, fun u hu => ?_⟩, ?_⟩
  · obtain ⟨ds, hd, hj⟩ := hx i x hi
    have hdl := T.holds_len hd
    have hil : i < xs.length := (List.getElem?_eq_some_iff.1 hi).1
    refine ⟨ds, hd, fun j u hu => ?_⟩
    have hjl : j < t.cnt := by rw [← hdl]; exact (List.getElem?_eq_some_iff.1 hu).1
    have h1 : (i + 1) * t.cnt ≤ xs.length * t.cnt := Nat.mul_le_mul_right _ hil
    rw [Nat.add_mul] at h1
    rw [hvs _ (by omega), ← hj j u hu]
    congr 1; omega
  · obtain ⟨k, hk, rfl⟩ := List.getElem_of_mem hu
    rw [hlen] at hk
    have hmod : k % t.cnt < t.cnt := Nat.mod_lt _ hpos
    have hdiv : k / t.cnt < xs.length := Nat.div_lt_of_lt_mul (by rw [Nat.mul_comm]; exact hk)
    obtain ⟨ds, hd, hj⟩ := hx (k / t.cnt) (xs[k / t.cnt]'hdiv) (by simp)
    have hdl := T.holds_len hd
    have h1 := hj (k % t.cnt) (ds[k % t.cnt]'(by omega)) (by simp)
    have h2 : off + k / t.cnt * t.cnt + k % t.cnt = off + k := by
      have := Nat.div_add_mod k t.cnt
      rw [Nat.mul_comm] at this; omega
    rw [h2, ← hvs k hk, List.getElem?_eq_getElem (by rw [hlen]; exact hk)] at h1
    simp only [Option.some.injEq] at h1
    rw [h1]
    exact holds_one hd _ (by simp)
  · have := run_loadCells_list (P := P) (w := w) ⟨b, off, none⟩ ((C.toList.drop off).take (xs.length * t.cnt)) (fun j v hj => by
      have hjl := (List.getElem?_eq_some_iff.1 hj).1
      rw [hlen] at hjl
      rw [hvs j hjl] at hj
      rw [add_plain, cell_of hh]; exact hj)
    rw [hlen] at this
    exact this
section
variable {P : Program} {E : Entry} {m : IMap} {s : St} {a : Act} {w : World}
/-- The cells of whatever is read. -/
theorem src_imm {ok : Nat → Prop} {t : T} {xs : List t.den} {A : Option Addr} {n c : Nat} (h : (T.slice t).holds w ok xs [.slice A n c]) : n = xs.length ∧ ∃ vs, Row w ok t xs vs ∧ (Builtin.firstCells t.cnt n (.slice A n c)).run P w = .ok vs.toArray w := by
  simp only [T.holds] at h
  obtain ⟨A', c', hv, _, h⟩ := h
  simp only [List.cons.injEq, and_true, Value.slice.injEq] at hv
  obtain ⟨rfl, rfl, rfl⟩ := hv
  refine ⟨rfl, ?_⟩
  rcases h with ⟨rfl, _⟩ | ⟨b, off, C, e, fr, rfl, _, hh, hx⟩
  · refine ⟨[], Row.nil _ _ _, ?_⟩
    cases A with
    | none => rfl
    | some ad => simpa [Builtin.firstCells] using run_loadCells_list (P := P) (w := w) ad [] (by simp)
  · obtain ⟨vs, h1, h2⟩ := src_cells (P := P) hh hx
    exact ⟨vs, h1, by simpa [Builtin.firstCells] using h2⟩
theorem src_own {ok : Nat → Prop} {t : T} {xs : List t.den} {A : Option Addr} {n c : Nat} (h : OwnRow w ok t xs (.slice A n c)) : n = xs.length ∧ ∃ vs, Row w ok t xs vs ∧ (Builtin.firstCells t.cnt n (.slice A n c)).run P w = .ok vs.toArray w := by
  rcases h with ⟨h1, rfl⟩ | ⟨b, C, e, fr, cap, h1, _, _, hh, _, hx⟩
  · simp only [Value.slice.injEq] at h1
    obtain ⟨rfl, rfl, rfl⟩ := h1
    exact ⟨rfl, [], Row.nil _ _ _, rfl⟩
  · simp only [Value.slice.injEq] at h1
    obtain ⟨rfl, rfl, rfl⟩ := h1
    obtain ⟨vs, h1, h2⟩ := src_cells (P := P) (off := 0) hh (by simpa using hx)
    exact ⟨rfl, vs, h1, by simpa [Builtin.firstCells] using h2⟩
theorem src_view {ok : Nat → Prop} {t : T} {xs : List t.den} {A : Option Addr} {n0 c lo n n' c' k : Nat} (h : OwnRow w ok t xs (.slice A n0 c)) (hn : lo + n ≤ xs.length) (hk : c = lo ∨ k = lo * t.cnt) :
    ∃ vs, Row w ok t ((xs.drop lo).take n) vs ∧ (Builtin.firstCells t.cnt n (.slice (A.map (·.add k)) n' c')).run P w = .ok vs.toArray w := by
  rcases h with ⟨h1, rfl⟩ | ⟨b, C, e, fr, cap, h1, hle, _, hh, _, hx⟩
  · simp only [Value.slice.injEq] at h1
    obtain ⟨rfl, rfl, rfl⟩ := h1
    simp at hn
    obtain ⟨rfl, rfl⟩ := hn
    exact ⟨[], by simpa using Row.nil _ _ _, rfl⟩
  · simp only [Value.slice.injEq] at h1
    obtain ⟨rfl, rfl, rfl⟩ := h1
    have hlen : ((xs.drop lo).take n).length = n := by simp; omega
    by_cases hc : c = lo
    · have hn0 : n = 0 := by omega
      subst hn0
      refine ⟨[], by simpa using Row.nil _ _ _, ?_⟩
      simpa [Builtin.firstCells] using run_loadCells_list (P := P) (w := w) ((⟨b, 0, none⟩ : Addr).add k) [] (by simp)
    · obtain ⟨vs, h2, h3⟩ := src_cells (P := P) (w := w) (ok := ok) (t := t) (xs := (xs.drop lo).take n) (off := lo * t.cnt) hh (fun i x hi => by
        rw [List.getElem?_take] at hi
        split at hi
        · rw [List.getElem?_drop] at hi
          obtain ⟨ds, hd, hj⟩ := hx _ x hi
          refine ⟨ds, hd, fun j u hu => ?_⟩
          rw [← hj j u hu, Nat.add_mul]
        · cases hi)
      rw [hlen] at h3
      refine ⟨vs, h2, ?_⟩
      obtain rfl := hk.resolve_left hc
      simp only [Option.map_some, Builtin.firstCells, add_plain, Nat.zero_add]
      exact h3
/-- What stands for a view's row. -/
theorem view_row (h : Rel P E m s a w) {r cnt lo n : Nat} {t : T} {xs : List t.den} {v : Value} (hr : rowAll (s.mem r) = some ⟨t, xs⟩) (hv : LRep P w (okOf E m s.mem w) m (.vw r cnt lo n) v) :
    ∃ A c k, OwnRow w (okOf E m s.mem w) t xs (.slice A xs.length c) ∧ v = .slice (A.map (·.add k)) n (c - lo) ∧ (c = lo ∨ k = lo * cnt) ∧ ∃ i, m r = some i ∧ i.block = A.map (·.block) := by
  obtain ⟨A, c, k, hm, rfl, hk⟩ := hv
  unfold rowAll at hr
  split at hr
  · rename_i t' ys hrr
    simp only [Option.some.injEq, Sigma.mk.injEq] at hr
    obtain ⟨rfl, hr⟩ := hr
    obtain rfl := eq_of_heq hr
    obtain ⟨i, h1, h2, _⟩ := h.mem _ _ hrr
    rcases hm with hm | ⟨n0, hm⟩ <;> (rw [hm] at h1; simp at h1; subst h1; simp only [CRep] at h2)
    obtain ⟨A', c', he, _⟩ := own_form h2
    simp only [Value.slice.injEq] at he
    obtain ⟨rfl, rfl, rfl⟩ := he
    exact ⟨A, c, k, h2, rfl, hk.imp_left And.left, _, hm, by cases A <;> rfl⟩
  · rename_i t' ys c0 hrr
    simp only [Option.some.injEq, Sigma.mk.injEq] at hr
    obtain ⟨rfl, hr⟩ := hr
    obtain rfl := eq_of_heq hr
    obtain ⟨i, h1, h2, _⟩ := h.mem _ _ hrr
    rcases hm with hm | ⟨n0, hm⟩ <;> (rw [hm] at h1; simp at h1; subst h1; simp only [CRep] at h2)
    obtain ⟨rfl, h2⟩ := h2
    exact ⟨A, c0, k, h2, rfl, hk.imp_left And.left, _, hm, by cases A <;> rfl⟩
  · cases hr
theorem holds_take {ok : Nat → Prop} {t : T} {xs : List t.den} {A : Option Addr} {n c k : Nat} (h : (T.slice t).holds w ok xs [.slice A n c]) (hk : k ≤ xs.length) : (T.slice t).holds w ok (xs.take k) [.slice A k c] := by
  simp only [T.holds] at h ⊢
  obtain ⟨A', c', hv, hc, h⟩ := h
  simp only [List.cons.injEq, and_true, Value.slice.injEq] at hv
  obtain ⟨rfl, rfl, rfl⟩ := hv
  refine ⟨A, c, by simp [show min k xs.length = k by omega], by simp; omega, ?_⟩
  rcases h with ⟨rfl, h⟩ | ⟨b, off, C, e, fr, h1, h2, h3, hx⟩
  · exact .inl ⟨by simp, h⟩
  · exact .inr ⟨b, off, C, e, fr, h1, h2, h3, fun i x hi => by
      rw [List.getElem?_take] at hi
      split at hi
      · exact hx i x hi
      · cases hi⟩
theorem own_take {ok : Nat → Prop} {t : T} {xs : List t.den} {A : Option Addr} {n c k : Nat} (h : OwnRow w ok t xs (.slice A n c)) (hk : k ≤ xs.length) : OwnRow w ok t (xs.take k) (.slice A k c) := by
  rcases h with ⟨h1, rfl⟩ | ⟨b, C, e, fr, cap, h1, h2, h3, hh, hf, hx⟩
  · simp only [Value.slice.injEq] at h1
    obtain ⟨rfl, rfl, rfl⟩ := h1
    simp at hk; subst hk
    exact .inl ⟨rfl, by simp⟩
  · simp only [Value.slice.injEq] at h1
    obtain ⟨rfl, rfl, rfl⟩ := h1
    refine .inr ⟨b, C, e, fr, c, by simp [show min k xs.length = k by omega], by simp; omega, h3, hh, hf, fun i x hi => by
      rw [List.getElem?_take] at hi
      split at hi
      · exact hx i x hi
      · cases hi⟩
theorem firstCells_any {size k n n' c c' : Nat} {A : Option Addr} : Builtin.firstCells size k (.slice A n c) = Builtin.firstCells size k (.slice A n' c') := by cases A <;> rfl
/-- The first elements, their cells. -/
theorem src_elems_take (h : Rel P E m s a w) {t : T} {l : L} {xs : List t.den} {v : Value} (he : Ev (elems t l) s.mem xs) (hv : LRep P w (okOf E m s.mem w) m l v) :
    ∃ A c, v = .slice A xs.length c ∧ ∀ k, k ≤ xs.length → ∃ vs, Row w (okOf E m s.mem w) t (xs.take k) vs ∧ (Builtin.firstCells t.cnt k v).run P w = .ok vs.toArray w := by
  have imm : (T.slice t).holds w (okOf E m s.mem w) xs [v] → ∃ A c, v = .slice A xs.length c ∧ ∀ k, k ≤ xs.length → ∃ vs, Row w (okOf E m s.mem w) t (xs.take k) vs ∧ (Builtin.firstCells t.cnt k v).run P w = .ok vs.toArray w := by
    intro hi
    obtain ⟨A, c, rfl, _⟩ := slice_form hi
    refine ⟨A, c, rfl, fun k hk => ?_⟩
    obtain ⟨_, vs, h1, h2⟩ := src_imm (P := P) (holds_take hi hk)
    exact ⟨vs, h1, by rw [firstCells_any (n' := k) (c' := c)]; exact h2⟩
  have own : OwnRow w (okOf E m s.mem w) t xs v → ∃ A c, v = .slice A xs.length c ∧ ∀ k, k ≤ xs.length → ∃ vs, Row w (okOf E m s.mem w) t (xs.take k) vs ∧ (Builtin.firstCells t.cnt k v).run P w = .ok vs.toArray w := by
    intro hi
    obtain ⟨A, c, rfl, _⟩ := own_form hi
    refine ⟨A, c, rfl, fun k hk => ?_⟩
    obtain ⟨_, vs, h1, h2⟩ := src_own (P := P) (own_take hi hk)
    exact ⟨vs, h1, by rw [firstCells_any (n' := k) (c' := c)]; exact h2⟩
  by_cases hs : ∃ r, l = .sref r
  · obtain ⟨r, rfl⟩ := hs
    simp only [elems] at he
    rw [ev_get] at he
    split at he
    · rename_i t' xs' hr
      rw [ev_lift] at he
      obtain ⟨e, he'⟩ := cast?_some he
      simp only [T.slice.injEq] at e
      subst e
      simp only at he'
      subst he'
      simp only [LRep] at hv
      rcases rowOf_some hr with hc | hc <;> (obtain ⟨i, h1, h2, _⟩ := h.mem _ _ hc; rw [h1] at hv; rcases hv with hv | hv <;> (simp at hv; subst hv; simp only [CRep] at h2))
      · exact own h2
      · exact own h2
      · exact imm h2.1
    · simp [ev_fail] at he
  by_cases hvw : ∃ r cnt lo n, l = .vw r cnt lo n
  · obtain ⟨r, cnt, lo, n, rfl⟩ := hvw
    simp only [elems] at he
    rw [ev_get] at he
    split at he
    · rename_i t' ys hr
      rw [ev_assume, ev_lift] at he
      obtain ⟨hb, he⟩ := he
      simp only [Bool.and_eq_true] at hb
      obtain ⟨hb1, hb2⟩ := hb
      have hb1 := Nat.le_of_ble_eq_true hb1
      have hb2 := Nat.eq_of_beq_eq_true hb2
      obtain ⟨e, he'⟩ := cast?_some he
      simp only [T.slice.injEq] at e
      subst e
      simp only at he'
      subst he'
      subst hb2
      obtain ⟨A, c, k0, h1, rfl, hk0, _⟩ := view_row h hr hv
      have hlen : ((ys.drop lo).take n).length = n := by simp; omega
      refine ⟨_, _, by rw [hlen], fun k hk => ?_⟩
      rw [hlen] at hk
      obtain ⟨vs, h2, h3⟩ := src_view (P := P) (lo := lo) (c' := c - lo) (n' := n) (n := k) h1 (by omega : lo + k ≤ ys.length) hk0
      refine ⟨vs, ?_, h3⟩
      rw [List.take_take, show min k n = k by omega]
      exact h2
    · simp [ev_fail] at he
  · have : Ev (RM.lift (leafVal? (.slice t) l)) s.mem xs := by
      cases l
      case sref r => exact absurd ⟨r, rfl⟩ hs
      case vw r cnt lo n => exact absurd ⟨r, cnt, lo, n, rfl⟩ hvw
      all_goals exact he
    rw [ev_lift] at this
    exact imm (leafVal?_holds this hv)
theorem src_upto (h : Rel P E m s a w) {t : T} {l : L} {j : Nat} {ys : List t.den} {v : Value} (he : Ev (elemsUpTo t j l) s.mem ys) (hv : LRep P w (okOf E m s.mem w) m l v) :
    ∃ A n c, v = .slice A n c ∧ ys.length = min n j ∧ ∃ vs, Row w (okOf E m s.mem w) t ys vs ∧ (Builtin.firstCells t.cnt (min n j) v).run P w = .ok vs.toArray w := by
  have other : (∀ r cnt lo n, l ≠ .vw r cnt lo n) → Ev ((elems t l).bind fun ys => .pure (ys.take j)) s.mem ys → ∃ A n c, v = .slice A n c ∧ ys.length = min n j ∧ ∃ vs, Row w (okOf E m s.mem w) t ys vs ∧ (Builtin.firstCells t.cnt (min n j) v).run P w = .ok vs.toArray w := by
    intro _ he
    simp only [ev_bind, ev_pure] at he
    obtain ⟨xs, hxs, rfl⟩ := he
    obtain ⟨A, c, h1, h2⟩ := src_elems_take h hxs hv
    obtain ⟨vs, h3, h4⟩ := h2 (min xs.length j) (by omega)
    have e : xs.take (min xs.length j) = xs.take j := by
      by_cases hle : j ≤ xs.length
      · rw [show min xs.length j = j by omega]
      · rw [show min xs.length j = xs.length by omega, List.take_length, List.take_of_length_le (by omega)]
    rw [e] at h3
    exact ⟨A, _, c, h1, by simp [Nat.min_comm], vs, h3, h4⟩
  cases l
  case vw r cnt lo n =>
    simp only [elemsUpTo] at he
    obtain ⟨A, c, k, hm, rfl, hk⟩ := hv
    obtain ⟨A', c', h1, h2⟩ := src_elems_take h he (v := .slice (A.map (·.add k)) (min n j) (c - lo)) ⟨A, c, k, hm, rfl, hk⟩
    simp only [Value.slice.injEq] at h1
    obtain ⟨rfl, h1, rfl⟩ := h1
    obtain ⟨vs, h3, h4⟩ := h2 ys.length (Nat.le_refl _)
    rw [List.take_length] at h3
    refine ⟨_, n, _, rfl, h1.symm, vs, h3, ?_⟩
    rw [h1, firstCells_any (n' := min n j) (c' := c - lo)]
    rw [← h1] at h4 ⊢
    exact h4
  all_goals exact other (by intro _ _ _ _ e; cases e) he
theorem src_elems (h : Rel P E m s a w) {t : T} {l : L} {xs : List t.den} {v : Value} (he : Ev (elems t l) s.mem xs) (hv : LRep P w (okOf E m s.mem w) m l v) :
    ∃ A c vs, v = .slice A xs.length c ∧ Row w (okOf E m s.mem w) t xs vs ∧ (Builtin.firstCells t.cnt xs.length v).run P w = .ok vs.toArray w := by
  obtain ⟨A, c, h1, h2⟩ := src_elems_take h he hv
  obtain ⟨vs, h3, h4⟩ := h2 xs.length (Nat.le_refl _)
  rw [List.take_length] at h3
  exact ⟨A, c, vs, h1, h3, h4⟩
theorem lenOf_slice {A : Option Addr} {n c : Nat} : (Builtin.lenOf (.slice A n c)).run P w = .ok n w := rfl
/-- What is appended, its cells. -/
theorem src_appended (h : Rel P E m s a w) {t : T} {l : L} {xs : List t.den} {v : Value} (he : Ev (appended t l) s.mem xs) (hv : LRep P w (okOf E m s.mem w) m l v) :
    ∃ vs, (Builtin.lenOf v).run P w = .ok xs.length w ∧ Row w (okOf E m s.mem w) t xs vs ∧ (Builtin.firstCells t.cnt xs.length v).run P w = .ok vs.toArray w := by
  by_cases hs : ∃ str, l = .val .str str
  · obtain ⟨str, rfl⟩ := hs
    have := rep_str hv; subst this
    simp only [appended] at he
    split at he
    · rw [ev_pure] at he; subst he
      refine ⟨str.map fun b => Value.int .u8 (b.toNat : Int), ?_, ⟨by simp [ofBytes, T.cnt], fun i x hi => ?_, fun u hu => ?_⟩, ?_⟩
      · simp [Builtin.lenOf, ofBytes, ByteArray.size]
      · simp only [ofBytes, List.getElem?_map, Option.map_eq_some_iff] at hi
        obtain ⟨b, hb, rfl⟩ := hi
        refine ⟨[.int .u8 b.toNat], rfl, fun j u hu => ?_⟩
        cases j with
        | zero => simp at hu; subst hu; simp [T.cnt, hb]
        | succ j => simp at hu
      · obtain ⟨b, _, rfl⟩ := List.mem_map.1 hu; rfl
      · have hsz : (ByteArray.mk str.toArray).size = str.length := by simp [ByteArray.size]
        simp only [Builtin.firstCells, ofBytes, List.length_map, Sem.run_pure]
        congr 1
        apply Array.ext'
        have := Lib.extract_data (ByteArray.mk str.toArray) 0 str.length
        simp only [Array.toList_map, this]
        simp
    · simp [ev_fail] at he
  · have : Ev (elems t l) s.mem xs := by
      cases l
      case val t' x =>
        cases t'
        case str => exact absurd ⟨x, rfl⟩ hs
        all_goals exact he
      all_goals exact he
    obtain ⟨A, c, vs, rfl, h1, h2⟩ := src_elems h this hv
    exact ⟨vs, rfl, h1, h2⟩

/-! ### append -/
theorem nextcap_le {need cap : Nat} (h : cap < need) : Builtin.nextslicecap need cap ≤ 2 * need := by
  have grow : ∀ (rounds c : Nat), c ≤ 2 * need → 256 ≤ need → Builtin.growBy need rounds c ≤ 2 * need := by
    intro rounds
    induction rounds with
    | zero => intro c hc _; exact hc
    | succ n ih =>
      intro c hc hn
      simp only [Builtin.growBy]
      split
      · exact hc
      · exact ih _ (by omega) hn
  unfold Builtin.nextslicecap
  split
  · omega
  · split
    · omega
    · exact grow 4 cap (by omega) (by omega)
theorem append_in {sT xT e ty : TypeId} {i j ei : TI} (hs : TOk P sT i) (hsk : i.kind = .slice e) (hx : TOk P xT j) (hxk : j.kind.isText = true) (hte : TOk P e ei) {A : Option Addr} {n cap : Nat} {v : Value} {k : Nat} {vs : List Value}
    (hl : (Builtin.lenOf v).run P w = .ok k w) (hf : (Builtin.firstCells ei.size k v).run P w = .ok vs.toArray w) (hle : n + k ≤ cap) {w' : World}
    (hst : (match A with | some a => storeCells (a.add (n * ei.size)) vs | none => pure ()).run P w = .ok () w') :
    (Builtin.append_ #[sT, xT] ty #[.slice A n cap, v]).run P w = .ok (.slice A (n + k) cap) w' := by
  obtain ⟨d, hd, hss⟩ := hs.desc
  rw [hsk] at hss
  rw [summ_slice hss] at hd
  obtain ⟨dx, hdx, hsx⟩ := hx.desc
  have hdx' : (∃ e', dx = .slice e') ∨ dx = .string := by
    rw [← hsx] at hxk
    cases dx <;> simp_all [summ, TK.isText]
  rcases hdx' with ⟨e', rfl⟩ | rfl
  all_goals
    simp only [Builtin.append_, List.getElem?_toArray, List.getElem?_cons_zero, List.getElem?_cons_succ, Sem.run_bind, run_underlying hd, run_underlying hdx, Result.andThen_ok, run_sizeOf hte, Sem.run_pure, Bool.false_eq_true, if_false, hl]
    rw [if_pos hle]
    simp only [Bool.not_false, if_true, Sem.run_bind, hf, Result.andThen_ok]
    cases A with
    | none => simp only [Sem.run_pure] at hst ⊢; simp_all
    | some ad => simp only [Sem.run_bind, hst, Result.andThen_ok, Sem.run_pure]
theorem append_new {sT xT e ty : TypeId} {i j ei : TI} (hs : TOk P sT i) (hsk : i.kind = .slice e) (hx : TOk P xT j) (hxk : j.kind.isText = true) (hte : TOk P e ei) (hb0 : ei.bytes ≠ 0) {A : Option Addr} {n cap : Nat} {v : Value} {k : Nat} {vs us : List Value}
    (hl : (Builtin.lenOf v).run P w = .ok k w) (hf : (Builtin.firstCells ei.size k v).run P w.drew = .ok vs.toArray w.drew) (ho : (Builtin.firstCells ei.size n (.slice A n cap)).run P w.drew = .ok us.toArray w.drew) (hgt : cap < n + k) (hroom : (n + k) * ei.bytes ≤ 140737488355328) :
    ∃ newCap, n + k ≤ newCap ∧ ∃ zs : List Value, zs.length = (newCap - (n + k)) * ei.size ∧
      (Builtin.append_ #[sT, xT] ty #[.slice A n cap, v]).run P w = .ok (.slice (some ⟨w.heap.size, 0, none⟩) (n + k) newCap) (w.drew.alloc (.cells (us ++ vs ++ zs).toArray e)) := by
  obtain ⟨d, hd, hss⟩ := hs.desc
  rw [hsk] at hss
  rw [summ_slice hss] at hd
  obtain ⟨dx, hdx, hsx⟩ := hx.desc
  have hdx' : (∃ e', dx = .slice e') ∨ dx = .string := by
    rw [← hsx] at hxk
    cases dx <;> simp_all [summ, TK.isText]
  obtain ⟨di, hi1, _, hi3, _⟩ := hte.inf
  obtain ⟨z, hz, hzc⟩ := run_zeroValue (w := w.drew) hte
  have hcap := nextcap_le hgt
  have hnb : ¬ (Builtin.nextslicecap (n + k) cap * ei.bytes > 2 ^ 48) := by
    have : Builtin.nextslicecap (n + k) cap * ei.bytes ≤ 2 * (n + k) * ei.bytes := Nat.mul_le_mul_right _ hcap
    rw [Nat.mul_assoc] at this
    omega
  refine ⟨(n + k) + w.tape w.drawn (.appendCap (n + k) cap e) % (2 ^ 63 - (n + k)), by omega, (Builtin.zeroCells ei.zero.toArray ((n + k) + w.tape w.drawn (.appendCap (n + k) cap e) % (2 ^ 63 - (n + k)) - (n + k))).toList, ?_, ?_⟩
  · simp [Builtin.zeroCells, hte.len]
  · have hq : (choose (.appendCap (n + k) cap e)).run P w = .ok ((n + k) + w.tape w.drawn (.appendCap (n + k) cap e) % (2 ^ 63 - (n + k))) w.drew := by
      rw [run_choose]
      simp [Question.forced, Question.cut]
    rcases hdx' with ⟨e', rfl⟩ | rfl
    all_goals
      simp only [Builtin.append_, List.getElem?_toArray, List.getElem?_cons_zero, List.getElem?_cons_succ, Sem.run_bind, run_underlying hd, run_underlying hdx, Result.andThen_ok, run_sizeOf hte, Sem.run_pure, Bool.false_eq_true, if_false, hl]
      rw [if_neg (by omega)]
      simp only [Sem.run_bind, run_typeInfo hi1, hi3, Result.andThen_ok, hb0, or_self, and_false, if_false]
      rw [if_neg hnb]
      simp only [Sem.run_bind, hq, Result.andThen_ok, run_typeInfo hi1, run_askRoom, ho, Bool.not_false, if_true, hf, hz, hzc, newRow, run_newObj, Sem.run_pure]
      have hC : ∀ Z : Array Value, us.toArray ++ vs.toArray ++ Z = (us ++ vs ++ Z.toList).toArray := by intro Z; simp
      rw [hC]
      rfl
theorem append_new_zeros {sT xT e ty : TypeId} {kk : IntKind} {i ei : TI} (hs : TOk P sT i) (hsk : i.kind = .slice e) (hdx : P.underlying xT = some (.int kk)) (hte : TOk P e ei) (hb0 : ei.bytes ≠ 0) (hsz : 0 < ei.size) {A : Option Addr} {n cap N : Nat} {k' : IntKind} {us : List Value}
    (ho : (Builtin.firstCells ei.size n (.slice A n cap)).run P w.drew = .ok us.toArray w.drew) (hgt : cap < n + N) (hN : 0 < N) (hroom : (n + N) * ei.bytes ≤ 140737488355328) :
    ∃ newCap, n + N ≤ newCap ∧ ∃ zs : List Value, zs.length = (newCap - (n + N)) * ei.size ∧
      (Builtin.append_ #[sT, xT] ty #[.slice A n cap, .int k' (N : Int)]).run P w = .ok (.slice (some ⟨w.heap.size, 0, none⟩) (n + N) newCap) (w.drew.alloc (.cells (us ++ (List.replicate N ei.zero).flatten ++ zs).toArray e)) := by
  obtain ⟨d, hd, hss⟩ := hs.desc
  rw [hsk] at hss
  rw [summ_slice hss] at hd
  obtain ⟨di, hi1, _, hi3, _⟩ := hte.inf
  obtain ⟨z, hz, hzc⟩ := run_zeroValue (w := w.drew) hte
  have hcap := nextcap_le hgt
  have hnb : ¬ (Builtin.nextslicecap (n + N) cap * ei.bytes > 2 ^ 48) := by
    have : Builtin.nextslicecap (n + N) cap * ei.bytes ≤ 2 * (n + N) * ei.bytes := Nat.mul_le_mul_right _ hcap
    rw [Nat.mul_assoc] at this
    omega
  have hle : n + N ≤ 140737488355328 := Nat.le_trans (Nat.le_mul_of_pos_right _ (by omega)) hroom
  have hNb : N * ei.bytes ≤ 140737488355328 := Nat.le_trans (Nat.mul_le_mul_right _ (by omega)) hroom
  have hw : IntKind.i64.wrap (N : Int) = N := wrap_i64 (by omega) (by omega)
  have h0 : ¬ ((N : Int) < 0) := by omega
  have h1 : ¬ ((N : Int) * (ei.bytes : Int) > 2 ^ 48) := by
    have : (N : Int) * (ei.bytes : Int) = ((N * ei.bytes : Nat) : Int) := by simp
    rw [this]; omega
  have h2 : ¬ (((n + N : Nat) : Int) > IntKind.i64.max) := by
    have : IntKind.i64.max = 9223372036854775807 := rfl
    rw [this]; omega
  have h3 : ¬ (N * ei.size = 0) := by
    have := Nat.mul_pos hN hsz; omega
  have hzl : 0 < ei.zero.length := by rw [hte.len]; exact hsz
  have hzz : Builtin.zeroCells ei.zero.toArray N = (List.replicate N ei.zero).flatten.toArray := by
    have := range_zero ei.zero N hzl
    unfold Builtin.zeroCells
    simpa using this
  refine ⟨(n + N) + w.tape w.drawn (.appendCap (n + N) cap e) % (2 ^ 63 - (n + N)), by omega, (Builtin.zeroCells ei.zero.toArray ((n + N) + w.tape w.drawn (.appendCap (n + N) cap e) % (2 ^ 63 - (n + N)) - (n + N))).toList, ?_, ?_⟩
  · simp [Builtin.zeroCells, hte.len]
  · have hq : (choose (.appendCap (n + N) cap e)).run P w = .ok ((n + N) + w.tape w.drawn (.appendCap (n + N) cap e) % (2 ^ 63 - (n + N))) w.drew := by
      rw [run_choose]
      simp [Question.forced, Question.cut]
    have hasint : (asInt (.int k' (N : Int))).run P w = .ok (N : Int) w := rfl
    simp only [Builtin.append_, List.getElem?_toArray, List.getElem?_cons_zero, List.getElem?_cons_succ, Sem.run_bind, run_underlying hd, run_underlying hdx, Result.andThen_ok, run_sizeOf hte, Sem.run_pure, if_true, hasint, hw, h0, if_false, run_typeInfo hi1, hi3, h1, Int.toNat_natCast]
    rw [if_neg (by omega)]
    simp only [Sem.run_bind, run_typeInfo hi1, hi3, Result.andThen_ok, h2, false_and, if_false]
    rw [if_neg hnb]
    simp only [Sem.run_bind, hq, Result.andThen_ok, run_typeInfo hi1, run_askRoom, ho, Bool.not_true, Bool.false_eq_true, if_false, h3, hz, hzc, newRow, run_newObj, Sem.run_pure, hzz]
    have hC : ∀ Z : Array Value, us.toArray ++ (List.replicate N ei.zero).flatten.toArray ++ Z = (us ++ (List.replicate N ei.zero).flatten ++ Z.toList).toArray := by intro Z; simp
    rw [hC]
    rfl
theorem append_no_zeros {sT xT e ty : TypeId} {kk k' : IntKind} {i ei : TI} (hs : TOk P sT i) (hsk : i.kind = .slice e) (hdx : P.underlying xT = some (.int kk)) (hte : TOk P e ei) (hb0 : ei.bytes ≠ 0) :
    (Builtin.append_ #[sT, xT] ty #[.slice none 0 0, .int k' ((0 : Nat) : Int)]).run P w = .ok (.slice none 0 0) w := by
  obtain ⟨d, hd, hss⟩ := hs.desc
  rw [hsk] at hss
  rw [summ_slice hss] at hd
  obtain ⟨di, hi1, _, hi3, _⟩ := hte.inf
  have hasint : (asInt (.int k' ((0 : Nat) : Int))).run P w = .ok 0 w := rfl
  have hw : IntKind.i64.wrap 0 = 0 := rfl
  have h0 : ¬ ((0 : Int) < 0) := by omega
  have h1 : ¬ ((0 : Int) * (ei.bytes : Int) > 2 ^ 48) := by simp
  simp only [Builtin.append_, List.getElem?_toArray, List.getElem?_cons_zero, List.getElem?_cons_succ, Sem.run_bind, run_underlying hd, run_underlying hdx, Result.andThen_ok, run_sizeOf hte, Sem.run_pure, if_true, hasint, hw, h0, if_false, run_typeInfo hi1, hi3, h1, Int.toNat_zero]
  simp
end
end Go.GG
