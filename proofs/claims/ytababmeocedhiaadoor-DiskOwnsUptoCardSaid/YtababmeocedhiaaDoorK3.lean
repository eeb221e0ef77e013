/- The core of our own, in one with others. -/
import Derived.Test.YtababmeocedhiaaDoorK2
import Derived.Lib.SlBytesConst
import Derived.RangeFuncSeq
/- append, texts as bytes: the machine does so. -/
namespace Go.GG
open Go.RowKit

/-- A row's cells, one behind the other. -/
structure Row (w : World) (ok : Nat → Prop) (t : T) (xs : List t.den) (vs : List Value) : Prop where
  len : vs.length = xs.length * t.cnt
  el : ∀ i x, xs[i]? = some x → ∃ ds, t.holds w ok x ds ∧ ∀ j u, ds[j]? = some u → vs[i * t.cnt + j]? = some u
  one : ∀ u ∈ vs, u.oneCell' = true
theorem Row.nil (w : World) (ok : Nat → Prop) (t : T) : Row w ok t [] [] := ⟨by simp, by simp, by simp⟩
theorem Row.mono {w w' : World} {ok ok' : Nat → Prop} {t : T} {xs : List t.den} {vs : List Value} (hk : Keeps w w' ok ok') (h : Row w ok t xs vs) : Row w' ok' t xs vs :=
  ⟨h.len, elems_mono hk h.el, h.one⟩
theorem Row.append {w : World} {ok : Nat → Prop} {t : T} {xs ys : List t.den} {vs us : List Value} (h : Row w ok t xs vs) (h' : Row w ok t ys us) : Row w ok t (xs ++ ys) (vs ++ us) := by
  refine ⟨by simp [h.len, h'.len, Nat.add_mul], fun i x hi => ?_, fun u hu => ?_⟩
  · rw [List.getElem?_append] at hi
    split at hi
    · rename_i hlt
      obtain ⟨ds, hd, hj⟩ := h.el i x hi
      refine ⟨ds, hd, fun j u hu => ?_⟩
      have := hj j u hu
      rw [List.getElem?_append_left (List.getElem?_eq_some_iff.1 this).1]
      exact this
    · rename_i hge
      obtain ⟨ds, hd, hj⟩ := h'.el _ x hi
      refine ⟨ds, hd, fun j u hu => ?_⟩
      have := hj j u hu
      have e : i * t.cnt = xs.length * t.cnt + (i - xs.length) * t.cnt := by rw [← Nat.add_mul]; congr 1; omega
      rw [List.getElem?_append_right (by rw [h.len]; omega), ← this, h.len]
      congr 1; omega
  · rcases List.mem_append.1 hu with hu | hu
    · exact h.one u hu
    · exact h'.one u hu
theorem src_cells {P : Program} {w : World} {ok : Nat → Prop} {t : T} {xs : List t.den} {b off : Nat} {C : Array Value} {e : TypeId} {fr : Nat × Nat} (hh : w.heap[b]? = some (.cells C e fr))
    (hx : ∀ i x, xs[i]? = some x → ∃ ds, t.holds w ok x ds ∧ ∀ j u, ds[j]? = some u → C[off + i * t.cnt + j]? = some u) :
    ∃ vs, Row w ok t xs vs ∧ (loadCells ⟨b, off, none⟩ (xs.length * t.cnt)).run P w = .ok vs.toArray w := by
  have hpos := cnt_pos t
  have hsz : xs ≠ [] → off + xs.length * t.cnt ≤ C.size := by
    intro hne
    have hl : 0 < xs.length := List.length_pos_iff.2 hne
    obtain ⟨ds, hd, hj⟩ := hx (xs.length - 1) (xs[xs.length - 1]'(by omega)) (by simp)
    have hdl := T.holds_len hd
    have := hj (t.cnt - 1) (ds[t.cnt - 1]'(by omega)) (by simp)
    have h1 := (Array.getElem?_eq_some_iff.1 this).1
    have h2 : (xs.length - 1) * t.cnt + t.cnt = xs.length * t.cnt := by
      rw [← Nat.succ_mul]; congr 1; omega
    omega
  have hvs : ∀ k, k < xs.length * t.cnt → ((C.toList.drop off).take (xs.length * t.cnt))[k]? = C[off + k]? := by
    intro k hk
    rw [List.getElem?_take, if_pos hk, List.getElem?_drop]
    simp
  have hlen : ((C.toList.drop off).take (xs.length * t.cnt)).length = xs.length * t.cnt := by
    by_cases hne : xs = []
    · subst hne; simp
    · have := hsz hne
      simp; omega
  refine ⟨(C.toList.drop off).take (xs.length * t.cnt), ⟨hlen, fun i x hi => ?_, fun u hu => ?_⟩, ?_⟩
  · obtain ⟨ds, hd, hj⟩ := hx i x hi
    have hdl := T.holds_len hd
    have hil : i < xs.length := (List.getElem?_eq_some_iff.1 hi).1
    refine ⟨ds, hd, fun j u hu => ?_⟩
    have hjl : j < t.cnt := by rw [← hdl]; exact (List.getElem?_eq_some_iff.1 hu).1
    have h1 : (i + 1) * t.cnt ≤ xs.length * t.cnt := Nat.mul_le_mul_right _ hil
    rw [Nat.add_mul] at h1
    rw [hvs _ (by omega), ← hj j u hu]
    congr 1; omega
  · obtain ⟨k, hk, rfl⟩ := List.getElem_of_mem hu
    rw [hlen] at hk
    have hmod : k % t.cnt < t.cnt := Nat.mod_lt _ hpos
    have hdiv : k / t.cnt < xs.length := Nat.div_lt_of_lt_mul (by rw [Nat.mul_comm]; exact hk)
    obtain ⟨ds, hd, hj⟩ := hx (k / t.cnt) (xs[k / t.cnt]'hdiv) (by simp)
    have hdl := T.holds_len hd
    have h1 := hj (k % t.cnt) (ds[k % t.cnt]'(by omega)) (by simp)
    have h2 : off + k / t.cnt * t.cnt + k % t.cnt = off + k := by
      have := Nat.div_add_mod k t.cnt
      rw [Nat.mul_comm] at this; omega
    rw [h2, ← hvs k hk, List.getElem?_eq_getElem (by rw [hlen]; exact hk)] at h1
    simp only [Option.some.injEq] at h1
    rw [h1]
    exact holds_one hd _ (by simp)
  · have := run_loadCells_list (P := P) (w := w) ⟨b, off, none⟩ ((C.toList.drop off).take (xs.length * t.cnt)) (fun j v hj => by
      have hjl := (List.getElem?_eq_some_iff.1 hj).1
      rw [hlen] at hjl
      rw [hvs j hjl] at hj
      rw [add_plain, cell_of hh]; exact hj)
    rw [hlen] at this
    exact this
section
variable {τ : Tabs} {P : Program} {E : Entry} {m : IMap} {s : St} {a : Act} {w : World}
/-- The cells of whatever is read. -/
theorem src_imm {ok : Nat → Prop} {t : T} {xs : List t.den} {A : Option Addr} {n c : Nat} (h : (T.slice t).holds w ok xs [.slice A n c]) : n = xs.length ∧ ∃ vs, Row w ok t xs vs ∧ (Builtin.firstCells t.cnt n (.slice A n c)).run P w = .ok vs.toArray w := by
  simp only [T.holds] at h
  obtain ⟨A', c', hv, _, h⟩ := h
  simp only [List.cons.injEq, and_true, Value.slice.injEq] at hv
  obtain ⟨rfl, rfl, rfl⟩ := hv
  refine ⟨rfl, ?_⟩
  rcases h with ⟨rfl, _⟩ | ⟨b, off, C, e, fr, rfl, _, hh, hx⟩
  · refine ⟨[], Row.nil _ _ _, ?_⟩
    cases A with
    | none => rfl
    | some ad => simpa [Builtin.firstCells] using run_loadCells_list (P := P) (w := w) ad [] (by simp)
  · obtain ⟨vs, h1, h2⟩ := src_cells (P := P) hh hx
    exact ⟨vs, h1, by simpa [Builtin.firstCells] using h2⟩
theorem src_own {ok : Nat → Prop} {t : T} {xs : List t.den} {A : Option Addr} {n c : Nat} (h : OwnRow w ok t xs (.slice A n c)) : n = xs.length ∧ ∃ vs, Row w ok t xs vs ∧ (Builtin.firstCells t.cnt n (.slice A n c)).run P w = .ok vs.toArray w := by
  rcases h with ⟨h1, rfl⟩ | ⟨b, C, e, fr, cap, h1, _, _, hh, _, hx⟩
  · simp only [Value.slice.injEq] at h1
    obtain ⟨rfl, rfl, rfl⟩ := h1
    exact ⟨rfl, [], Row.nil _ _ _, rfl⟩
  · simp only [Value.slice.injEq] at h1
    obtain ⟨rfl, rfl, rfl⟩ := h1
    obtain ⟨vs, h1, h2⟩ := src_cells (P := P) (off := 0) hh (by simpa using hx)
    exact ⟨rfl, vs, h1, by simpa [Builtin.firstCells] using h2⟩
theorem src_view {ok : Nat → Prop} {t : T} {xs : List t.den} {A : Option Addr} {n0 c lo n n' c' k : Nat} (h : OwnRow w ok t xs (.slice A n0 c)) (hn : lo + n ≤ xs.length) (hk : c = lo ∨ k = lo * t.cnt) :
    ∃ vs, Row w ok t ((xs.drop lo).take n) vs ∧ (Builtin.firstCells t.cnt n (.slice (A.map (·.add k)) n' c')).run P w = .ok vs.toArray w := by
  rcases h with ⟨h1, rfl⟩ | ⟨b, C, e, fr, cap, h1, hle, _, hh, _, hx⟩
  · simp only [Value.slice.injEq] at h1
    obtain ⟨rfl, rfl, rfl⟩ := h1
    simp at hn
    obtain ⟨rfl, rfl⟩ := hn
    exact ⟨[], by simpa using Row.nil _ _ _, rfl⟩
  · simp only [Value.slice.injEq] at h1
    obtain ⟨rfl, rfl, rfl⟩ := h1
    have hlen : ((xs.drop lo).take n).length = n := by simp; omega
    by_cases hc : c = lo
    · have hn0 : n = 0 := by omega
      subst hn0
      refine ⟨[], by simpa using Row.nil _ _ _, ?_⟩
      simpa [Builtin.firstCells] using run_loadCells_list (P := P) (w := w) ((⟨b, 0, none⟩ : Addr).add k) [] (by simp)
    · obtain ⟨vs, h2, h3⟩ := src_cells (P := P) (w := w) (ok := ok) (t := t) (xs := (xs.drop lo).take n) (off := lo * t.cnt) hh (fun i x hi => by
        rw [List.getElem?_take] at hi
        split at hi
        · rw [List.getElem?_drop] at hi
          obtain ⟨ds, hd, hj⟩ := hx _ x hi
          refine ⟨ds, hd, fun j u hu => ?_⟩
          rw [← hj j u hu, Nat.add_mul]
        · cases hi)
      rw [hlen] at h3
      refine ⟨vs, h2, ?_⟩
      obtain rfl := hk.resolve_left hc
      simp only [Option.map_some, Builtin.firstCells, add_plain, Nat.zero_add]
      exact h3
/-- What stands for a view's row. -/
theorem view_row (h : Rel P E m s a w) {r cnt lo n : Nat} {t : T} {xs : List t.den} {v : Value} (hr : rowAll (s.mem r) = some ⟨t, xs⟩) (hv : LRep P w (okOf E m s.mem w) m (.vw r cnt lo n) v) :
    ∃ A c k, OwnRow w (okOf E m s.mem w) t xs (.slice A xs.length c) ∧ v = .slice (A.map (·.add k)) n (c - lo) ∧ (c = lo ∨ k = lo * cnt) ∧ ∃ i, m r = some i ∧ i.blocks = (A.map (·.block)).toList := by
  obtain ⟨A, c, k, hm, rfl, hk⟩ := hv
  unfold rowAll at hr
  split at hr
  · rename_i t' ys hrr
    simp only [Option.some.injEq, Sigma.mk.injEq] at hr
    obtain ⟨rfl, hr⟩ := hr
    obtain rfl := eq_of_heq hr
    obtain ⟨i, h1, h2, _⟩ := h.mem _ _ hrr
    rcases hm with hm | ⟨n0, hm⟩ <;> (rw [hm] at h1; simp at h1; subst h1; simp only [CRep] at h2)
    obtain ⟨A', c', he, _⟩ := own_form h2
    simp only [Value.slice.injEq] at he
    obtain ⟨rfl, rfl, rfl⟩ := he
    exact ⟨A, c, k, h2, rfl, hk.imp_left And.left, _, hm, by cases A <;> rfl⟩
  · rename_i t' ys c0 hrr
    simp only [Option.some.injEq, Sigma.mk.injEq] at hr
    obtain ⟨rfl, hr⟩ := hr
    obtain rfl := eq_of_heq hr
    obtain ⟨i, h1, h2, _⟩ := h.mem _ _ hrr
    rcases hm with hm | ⟨n0, hm⟩ <;> (rw [hm] at h1; simp at h1; subst h1; simp only [CRep] at h2)
    obtain ⟨rfl, h2⟩ := h2
    exact ⟨A, c0, k, h2, rfl, hk.imp_left And.left, _, hm, by cases A <;> rfl⟩
  · cases hr
theorem holds_take {ok : Nat → Prop} {t : T} {xs : List t.den} {A : Option Addr} {n c k : Nat} (h : (T.slice t).holds w ok xs [.slice A n c]) (hk : k ≤ xs.length) : (T.slice t).holds w ok (xs.take k) [.slice A k c] := by
  simp only [T.holds] at h ⊢
  obtain ⟨A', c', hv, hc, h⟩ := h
  simp only [List.cons.injEq, and_true, Value.slice.injEq] at hv
  obtain ⟨rfl, rfl, rfl⟩ := hv
  refine ⟨A, c, by simp [show min k xs.length = k by omega], by simp; omega, ?_⟩
  rcases h with ⟨rfl, h⟩ | ⟨b, off, C, e, fr, h1, h2, h3, hx⟩
  · exact .inl ⟨by simp, h⟩
  · exact .inr ⟨b, off, C, e, fr, h1, h2, h3, fun i x hi => by
      rw [List.getElem?_take] at hi
      split at hi
      · exact hx i x hi
      · cases hi⟩
theorem own_take {ok : Nat → Prop} {t : T} {xs : List t.den} {A : Option Addr} {n c k : Nat} (h : OwnRow w ok t xs (.slice A n c)) (hk : k ≤ xs.length) : OwnRow w ok t (xs.take k) (.slice A k c) := by
  rcases h with ⟨h1, rfl⟩ | ⟨b, C, e, fr, cap, h1, h2, h3, hh, hf, hx⟩
  · simp only [Value.slice.injEq] at h1
    obtain ⟨rfl, rfl, rfl⟩ := h1
    simp at hk; subst hk
    exact .inl ⟨rfl, by simp⟩
  · simp only [Value.slice.injEq] at h1
    obtain ⟨rfl, rfl, rfl⟩ := h1
    refine .inr ⟨b, C, e, fr, c, by simp [show min k xs.length = k by omega], by simp; omega, h3, hh, hf, fun i x hi => by
      rw [List.getElem?_take] at hi
      split at hi
      · exact hx i x hi
      · cases hi⟩
theorem firstCells_any {size k n n' c c' : Nat} {A : Option Addr} : Builtin.firstCells size k (.slice A n c) = Builtin.firstCells size k (.slice A n' c') := by cases A <;> rfl
/-- The first elements, their cells. -/
theorem src_elems_take (h : Rel P E m s a w) {t : T} {l : L} {xs : List t.den} {v : Value} (he : Ev (elems t l) s.mem xs) (hv : LRep P w (okOf E m s.mem w) m l v) :
    ∃ A c, v = .slice A xs.length c ∧ ∀ k, k ≤ xs.length → ∃ vs, Row w (okOf E m s.mem w) t (xs.take k) vs ∧ (Builtin.firstCells t.cnt k v).run P w = .ok vs.toArray w := by
  have imm : (T.slice t).holds w (okOf E m s.mem w) xs [v] → ∃ A c, v = .slice A xs.length c ∧ ∀ k, k ≤ xs.length → ∃ vs, Row w (okOf E m s.mem w) t (xs.take k) vs ∧ (Builtin.firstCells t.cnt k v).run P w = .ok vs.toArray w := by
    intro hi
    obtain ⟨A, c, rfl, _⟩ := slice_form hi
    refine ⟨A, c, rfl, fun k hk => ?_⟩
    obtain ⟨_, vs, h1, h2⟩ := src_imm (P := P) (holds_take hi hk)
    exact ⟨vs, h1, by rw [firstCells_any (n' := k) (c' := c)]; exact h2⟩
  have own : OwnRow w (okOf E m s.mem w) t xs v → ∃ A c, v = .slice A xs.length c ∧ ∀ k, k ≤ xs.length → ∃ vs, Row w (okOf E m s.mem w) t (xs.take k) vs ∧ (Builtin.firstCells t.cnt k v).run P w = .ok vs.toArray w := by
    intro hi
    obtain ⟨A, c, rfl, _⟩ := own_form hi
    refine ⟨A, c, rfl, fun k hk => ?_⟩
    obtain ⟨_, vs, h1, h2⟩ := src_own (P := P) (own_take hi hk)
    exact ⟨vs, h1, by rw [firstCells_any (n' := k) (c' := c)]; exact h2⟩
  by_cases hs : ∃ r, l = .sref r
  · obtain ⟨r, rfl⟩ := hs
    simp only [elems] at he
    rw [ev_get] at he
    split at he
    · rename_i t' xs' hr
      rw [ev_lift] at he
      obtain ⟨e, he'⟩ := cast?_some he
      simp only [T.slice.injEq] at e
      subst e
      simp only at he'
      subst he'
      simp only [LRep] at hv
      rcases rowOf_some hr with hc | hc <;> (obtain ⟨i, h1, h2, _⟩ := h.mem _ _ hc; rw [h1] at hv; rcases hv with hv | hv <;> (simp at hv; subst hv; simp only [CRep] at h2))
      · exact own h2
      · exact own h2
      · exact imm h2.1
    · simp [ev_fail] at he
  by_cases hvw : ∃ r cnt lo n, l = .vw r cnt lo n
  · obtain ⟨r, cnt, lo, n, rfl⟩ := hvw
    simp only [elems] at he
    rw [ev_get] at he
    split at he
    · rename_i t' ys hr
      rw [ev_assume, ev_lift] at he
      obtain ⟨hb, he⟩ := he
      simp only [Bool.and_eq_true] at hb
      obtain ⟨hb1, hb2⟩ := hb
      have hb1 := Nat.le_of_ble_eq_true hb1
      have hb2 := Nat.eq_of_beq_eq_true hb2
      obtain ⟨e, he'⟩ := cast?_some he
      simp only [T.slice.injEq] at e
      subst e
      simp only at he'
      subst he'
      subst hb2
      obtain ⟨A, c, k0, h1, rfl, hk0, _⟩ := view_row h hr hv
      have hlen : ((ys.drop lo).take n).length = n := by simp; omega
      refine ⟨_, _, by rw [hlen], fun k hk => ?_⟩
      rw [hlen] at hk
      obtain ⟨vs, h2, h3⟩ := src_view (P := P) (lo := lo) (c' := c - lo) (n' := n) (n := k) h1 (by omega : lo + k ≤ ys.length) hk0
      refine ⟨vs, ?_, h3⟩
      rw [List.take_take, show min k n = k by omega]
      exact h2
    · simp [ev_fail] at he
  · have : Ev (RM.lift (leafVal? (.slice t) l)) s.mem xs := by
      cases l
      case sref r => exact absurd ⟨r, rfl⟩ hs
      case vw r cnt lo n => exact absurd ⟨r, cnt, lo, n, rfl⟩ hvw
      all_goals exact he
    rw [ev_lift] at this
    exact imm (leafVal?_holds this hv)
theorem src_upto (h : Rel P E m s a w) {t : T} {l : L} {j : Nat} {ys : List t.den} {v : Value} (he : Ev (elemsUpTo t j l) s.mem ys) (hv : LRep P w (okOf E m s.mem w) m l v) :
    ∃ A n c, v = .slice A n c ∧ ys.length = min n j ∧ ∃ vs, Row w (okOf E m s.mem w) t ys vs ∧ (Builtin.firstCells t.cnt (min n j) v).run P w = .ok vs.toArray w := by
  have other : (∀ r cnt lo n, l ≠ .vw r cnt lo n) → Ev ((elems t l).bind fun ys => .pure (ys.take j)) s.mem ys → ∃ A n c, v = .slice A n c ∧ ys.length = min n j ∧ ∃ vs, Row w (okOf E m s.mem w) t ys vs ∧ (Builtin.firstCells t.cnt (min n j) v).run P w = .ok vs.toArray w := by
    intro _ he
    simp only [ev_bind, ev_pure] at he
    obtain ⟨xs, hxs, rfl⟩ := he
    obtain ⟨A, c, h1, h2⟩ := src_elems_take h hxs hv
    obtain ⟨vs, h3, h4⟩ := h2 (min xs.length j) (by omega)
    have e : xs.take (min xs.length j) = xs.take j := by
      by_cases hle : j ≤ xs.length
      · rw [show min xs.length j = j by omega]
      · rw [show min xs.length j = xs.length by omega, List.take_length, List.take_of_length_le (by omega)]
    rw [e] at h3
    exact ⟨A, _, c, h1, by simp [Nat.min_comm], vs, h3, h4⟩
  cases l
  case vw r cnt lo n =>
    simp only [elemsUpTo] at he
    obtain ⟨A, c, k, hm, rfl, hk⟩ := hv
    obtain ⟨A', c', h1, h2⟩ := src_elems_take h he (v := .slice (A.map (·.add k)) (min n j) (c - lo)) ⟨A, c, k, hm, rfl, hk⟩
    simp only [Value.slice.injEq] at h1
    obtain ⟨rfl, h1, rfl⟩ := h1
    obtain ⟨vs, h3, h4⟩ := h2 ys.length (Nat.le_refl _)
    rw [List.take_length] at h3
    refine ⟨_, n, _, rfl, h1.symm, vs, h3, ?_⟩
    rw [h1, firstCells_any (n' := min n j) (c' := c - lo)]
    rw [← h1] at h4 ⊢
    exact h4
  all_goals exact other (by intro _ _ _ _ e; cases e) he
theorem src_elems (h : Rel P E m s a w) {t : T} {l : L} {xs : List t.den} {v : Value} (he : Ev (elems t l) s.mem xs) (hv : LRep P w (okOf E m s.mem w) m l v) :
    ∃ A c vs, v = .slice A xs.length c ∧ Row w (okOf E m s.mem w) t xs vs ∧ (Builtin.firstCells t.cnt xs.length v).run P w = .ok vs.toArray w := by
  obtain ⟨A, c, h1, h2⟩ := src_elems_take h he hv
  obtain ⟨vs, h3, h4⟩ := h2 xs.length (Nat.le_refl _)
  rw [List.take_length] at h3
  exact ⟨A, c, vs, h1, h3, h4⟩
theorem lenOf_slice {A : Option Addr} {n c : Nat} : (Builtin.lenOf (.slice A n c)).run P w = .ok n w := rfl
/-- What is appended, its cells. -/
theorem src_appended (h : Rel P E m s a w) {t : T} {l : L} {xs : List t.den} {v : Value} (he : Ev (appended t l) s.mem xs) (hv : LRep P w (okOf E m s.mem w) m l v) :
    ∃ vs, (Builtin.lenOf v).run P w = .ok xs.length w ∧ Row w (okOf E m s.mem w) t xs vs ∧ (Builtin.firstCells t.cnt xs.length v).run P w = .ok vs.toArray w := by
  by_cases hs : ∃ str, l = .val .str str
  · obtain ⟨str, rfl⟩ := hs
    have := rep_str hv; subst this
    simp only [appended] at he
    split at he
    · rw [ev_pure] at he; subst he
      refine ⟨str.map fun b => Value.int .u8 (b.toNat : Int), ?_, ⟨by simp [ofBytes, T.cnt], fun i x hi => ?_, fun u hu => ?_⟩, ?_⟩
      · simp [Builtin.lenOf, ofBytes, ByteArray.size]
      · simp only [ofBytes, List.getElem?_map, Option.map_eq_some_iff] at hi
        obtain ⟨b, hb, rfl⟩ := hi
        refine ⟨[.int .u8 b.toNat], rfl, fun j u hu => ?_⟩
        cases j with
        | zero => simp at hu; subst hu; simp [T.cnt, hb]
        | succ j => simp at hu
      · obtain ⟨b, _, rfl⟩ := List.mem_map.1 hu; rfl
      · have hsz : (ByteArray.mk str.toArray).size = str.length := by simp [ByteArray.size]
        simp only [Builtin.firstCells, ofBytes, List.length_map, Sem.run_pure]
        congr 1
        apply Array.ext'
        have := Lib.extract_data (ByteArray.mk str.toArray) 0 str.length
        simp only [Array.toList_map, this]
        simp
    · simp [ev_fail] at he
  · have : Ev (elems t l) s.mem xs := by
      cases l
      case val t' x =>
        cases t'
        case str => exact absurd ⟨x, rfl⟩ hs
        all_goals exact he
      all_goals exact he
    obtain ⟨A, c, vs, rfl, h1, h2⟩ := src_elems h this hv
    exact ⟨vs, rfl, h1, h2⟩

/-! ### append -/
theorem nextcap_le {need cap : Nat} (h : cap < need) : Builtin.nextslicecap need cap ≤ 2 * need := by
  have grow : ∀ (rounds c : Nat), c ≤ 2 * need → 256 ≤ need → Builtin.growBy need rounds c ≤ 2 * need := by
    intro rounds
    induction rounds with
    | zero => intro c hc _; exact hc
    | succ n ih =>
      intro c hc hn
      simp only [Builtin.growBy]
      split
      · exact hc
      · exact ih _ (by omega) hn
  unfold Builtin.nextslicecap
  split
  · omega
  · split
    · omega
    · exact grow 4 cap (by omega) (by omega)
theorem append_in {sT xT e ty : TypeId} {i j ei : TI} (hs : TOk P sT i) (hsk : i.kind = .slice e) (hx : TOk P xT j) (hxk : j.kind.isText = true) (hte : TOk P e ei) {A : Option Addr} {n cap : Nat} {v : Value} {k : Nat} {vs : List Value}
    (hl : (Builtin.lenOf v).run P w = .ok k w) (hf : (Builtin.firstCells ei.size k v).run P w = .ok vs.toArray w) (hle : n + k ≤ cap) {w' : World}
    (hst : (match A with | some a => storeCells (a.add (n * ei.size)) vs | none => pure ()).run P w = .ok () w') :
    (Builtin.append_ #[sT, xT] ty #[.slice A n cap, v]).run P w = .ok (.slice A (n + k) cap) w' := by
  obtain ⟨d, hd, hss⟩ := hs.desc
  rw [hsk] at hss
  rw [summ_slice hss] at hd
  obtain ⟨dx, hdx, hsx⟩ := hx.desc
  have hdx' : (∃ e', dx = .slice e') ∨ dx = .string := by
    rw [← hsx] at hxk
    cases dx <;> simp_all [summ, TK.isText]
  rcases hdx' with ⟨e', rfl⟩ | rfl
  all_goals
    simp only [Builtin.append_, List.getElem?_toArray, List.getElem?_cons_zero, List.getElem?_cons_succ, Sem.run_bind, run_underlying hd, run_underlying hdx, Result.andThen_ok, run_sizeOf hte, Sem.run_pure, Bool.false_eq_true, if_false, hl]
    rw [if_pos hle]
    simp only [Bool.not_false, if_true, Sem.run_bind, hf, Result.andThen_ok]
    cases A with
    | none => simp only [Sem.run_pure] at hst ⊢; simp_all
    | some ad => simp only [Sem.run_bind, hst, Result.andThen_ok, Sem.run_pure]
theorem append_new {sT xT e ty : TypeId} {i j ei : TI} (hs : TOk P sT i) (hsk : i.kind = .slice e) (hx : TOk P xT j) (hxk : j.kind.isText = true) (hte : TOk P e ei) (hb0 : ei.bytes ≠ 0) {A : Option Addr} {n cap : Nat} {v : Value} {k : Nat} {vs us : List Value}
    (hl : (Builtin.lenOf v).run P w = .ok k w) (hf : (Builtin.firstCells ei.size k v).run P w.drew = .ok vs.toArray w.drew) (ho : (Builtin.firstCells ei.size n (.slice A n cap)).run P w.drew = .ok us.toArray w.drew) (hgt : cap < n + k) (hroom : (n + k) * ei.bytes ≤ 140737488355328) :
    ∃ newCap, n + k ≤ newCap ∧ ∃ zs : List Value, zs.length = (newCap - (n + k)) * ei.size ∧
      (Builtin.append_ #[sT, xT] ty #[.slice A n cap, v]).run P w = .ok (.slice (some ⟨w.heap.size, 0, none⟩) (n + k) newCap) (w.drew.alloc (.cells (us ++ vs ++ zs).toArray e)) := by
  obtain ⟨d, hd, hss⟩ := hs.desc
  rw [hsk] at hss
  rw [summ_slice hss] at hd
  obtain ⟨dx, hdx, hsx⟩ := hx.desc
  have hdx' : (∃ e', dx = .slice e') ∨ dx = .string := by
    rw [← hsx] at hxk
    cases dx <;> simp_all [summ, TK.isText]
  obtain ⟨di, hi1, _, hi3, _⟩ := hte.inf
  obtain ⟨z, hz, hzc⟩ := run_zeroValue (w := w.drew) hte
  have hcap := nextcap_le hgt
  have hnb : ¬ (Builtin.nextslicecap (n + k) cap * ei.bytes > 2 ^ 48) := by
    have : Builtin.nextslicecap (n + k) cap * ei.bytes ≤ 2 * (n + k) * ei.bytes := Nat.mul_le_mul_right _ hcap
    rw [Nat.mul_assoc] at this
    omega
  refine ⟨(n + k) + w.tape w.drawn (.appendCap (n + k) cap e) % (2 ^ 63 - (n + k)), by omega, (Builtin.zeroCells ei.zero.toArray ((n + k) + w.tape w.drawn (.appendCap (n + k) cap e) % (2 ^ 63 - (n + k)) - (n + k))).toList, ?_, ?_⟩
  · simp [Builtin.zeroCells, hte.len]
  · have hq : (choose (.appendCap (n + k) cap e)).run P w = .ok ((n + k) + w.tape w.drawn (.appendCap (n + k) cap e) % (2 ^ 63 - (n + k))) w.drew := by
      rw [run_choose]
      simp [Question.forced, Question.cut]
    rcases hdx' with ⟨e', rfl⟩ | rfl
    all_goals
      simp only [Builtin.append_, List.getElem?_toArray, List.getElem?_cons_zero, List.getElem?_cons_succ, Sem.run_bind, run_underlying hd, run_underlying hdx, Result.andThen_ok, run_sizeOf hte, Sem.run_pure, Bool.false_eq_true, if_false, hl]
      rw [if_neg (by omega)]
      simp only [Sem.run_bind, run_typeInfo hi1, hi3, Result.andThen_ok, hb0, or_self, and_false, if_false]
      rw [if_neg hnb]
      simp only [Sem.run_bind, hq, Result.andThen_ok, run_typeInfo hi1, run_askRoom, ho, Bool.not_false, if_true, hf, hz, hzc, newRow, run_newObj, Sem.run_pure]
      have hC : ∀ Z : Array Value, us.toArray ++ vs.toArray ++ Z = (us ++ vs ++ Z.toList).toArray := by intro Z; simp
      rw [hC]
      rfl
theorem append_new_zeros {sT xT e ty : TypeId} {kk : IntKind} {i ei : TI} (hs : TOk P sT i) (hsk : i.kind = .slice e) (hdx : P.underlying xT = some (.int kk)) (hte : TOk P e ei) (hb0 : ei.bytes ≠ 0) (hsz : 0 < ei.size) {A : Option Addr} {n cap N : Nat} {k' : IntKind} {us : List Value}
    (ho : (Builtin.firstCells ei.size n (.slice A n cap)).run P w.drew = .ok us.toArray w.drew) (hgt : cap < n + N) (hN : 0 < N) (hroom : (n + N) * ei.bytes ≤ 140737488355328) :
    ∃ newCap, n + N ≤ newCap ∧ ∃ zs : List Value, zs.length = (newCap - (n + N)) * ei.size ∧
      (Builtin.append_ #[sT, xT] ty #[.slice A n cap, .int k' (N : Int)]).run P w = .ok (.slice (some ⟨w.heap.size, 0, none⟩) (n + N) newCap) (w.drew.alloc (.cells (us ++ (List.replicate N ei.zero).flatten ++ zs).toArray e)) := by
  obtain ⟨d, hd, hss⟩ := hs.desc
  rw [hsk] at hss
  rw [summ_slice hss] at hd
  obtain ⟨di, hi1, _, hi3, _⟩ := hte.inf
  obtain ⟨z, hz, hzc⟩ := run_zeroValue (w := w.drew) hte
  have hcap := nextcap_le hgt
  have hnb : ¬ (Builtin.nextslicecap (n + N) cap * ei.bytes > 2 ^ 48) := by
    have : Builtin.nextslicecap (n + N) cap * ei.bytes ≤ 2 * (n + N) * ei.bytes := Nat.mul_le_mul_right _ hcap
    rw [Nat.mul_assoc] at this
    omega
  have hle : n + N ≤ 140737488355328 := Nat.le_trans (Nat.le_mul_of_pos_right _ (by omega)) hroom
  have hNb : N * ei.bytes ≤ 140737488355328 := Nat.le_trans (Nat.mul_le_mul_right _ (by omega)) hroom
  have hw : IntKind.i64.wrap (N : Int) = N := wrap_i64 (by omega) (by omega)
  have h0 : ¬ ((N : Int) < 0) := by omega
  have h1 : ¬ ((N : Int) * (ei.bytes : Int) > 2 ^ 48) := by
    have : (N : Int) * (ei.bytes : Int) = ((N * ei.bytes : Nat) : Int) := by simp
    rw [this]; omega
  have h2 : ¬ (((n + N : Nat) : Int) > IntKind.i64.max) := by
    have : IntKind.i64.max = 9223372036854775807 := rfl
    rw [this]; omega
  have h3 : ¬ (N * ei.size = 0) := by
    have := Nat.mul_pos hN hsz; omega
  have hzl : 0 < ei.zero.length := by rw [hte.len]; exact hsz
  have hzz : Builtin.zeroCells ei.zero.toArray N = (List.replicate N ei.zero).flatten.toArray := by
    have := range_zero ei.zero N hzl
    unfold Builtin.zeroCells
    simpa using this
  refine ⟨(n + N) + w.tape w.drawn (.appendCap (n + N) cap e) % (2 ^ 63 - (n + N)), by omega, (Builtin.zeroCells ei.zero.toArray ((n + N) + w.tape w.drawn (.appendCap (n + N) cap e) % (2 ^ 63 - (n + N)) - (n + N))).toList, ?_, ?_⟩
  · simp [Builtin.zeroCells, hte.len]
  · have hq : (choose (.appendCap (n + N) cap e)).run P w = .ok ((n + N) + w.tape w.drawn (.appendCap (n + N) cap e) % (2 ^ 63 - (n + N))) w.drew := by
      rw [run_choose]
      simp [Question.forced, Question.cut]
    have hasint : (asInt (.int k' (N : Int))).run P w = .ok (N : Int) w := rfl
    simp only [Builtin.append_, List.getElem?_toArray, List.getElem?_cons_zero, List.getElem?_cons_succ, Sem.run_bind, run_underlying hd, run_underlying hdx, Result.andThen_ok, run_sizeOf hte, Sem.run_pure, if_true, hasint, hw, h0, if_false, run_typeInfo hi1, hi3, h1, Int.toNat_natCast]
    rw [if_neg (by omega)]
    simp only [Sem.run_bind, run_typeInfo hi1, hi3, Result.andThen_ok, h2, false_and, if_false]
    rw [if_neg hnb]
    simp only [Sem.run_bind, hq, Result.andThen_ok, run_typeInfo hi1, run_askRoom, ho, Bool.not_true, Bool.false_eq_true, if_false, h3, hz, hzc, newRow, run_newObj, Sem.run_pure, hzz]
    have hC : ∀ Z : Array Value, us.toArray ++ (List.replicate N ei.zero).flatten.toArray ++ Z = (us ++ (List.replicate N ei.zero).flatten ++ Z.toList).toArray := by intro Z; simp
    rw [hC]
    rfl
theorem append_no_zeros {sT xT e ty : TypeId} {kk k' : IntKind} {i ei : TI} (hs : TOk P sT i) (hsk : i.kind = .slice e) (hdx : P.underlying xT = some (.int kk)) (hte : TOk P e ei) (hb0 : ei.bytes ≠ 0) :
    (Builtin.append_ #[sT, xT] ty #[.slice none 0 0, .int k' ((0 : Nat) : Int)]).run P w = .ok (.slice none 0 0) w := by
  obtain ⟨d, hd, hss⟩ := hs.desc
  rw [hsk] at hss
  rw [summ_slice hss] at hd
  obtain ⟨di, hi1, _, hi3, _⟩ := hte.inf
  have hasint : (asInt (.int k' ((0 : Nat) : Int))).run P w = .ok 0 w := rfl
  have hw : IntKind.i64.wrap 0 = 0 := rfl
  have h0 : ¬ ((0 : Int) < 0) := by omega
  have h1 : ¬ ((0 : Int) * (ei.bytes : Int) > 2 ^ 48) := by simp
  simp only [Builtin.append_, List.getElem?_toArray, List.getElem?_cons_zero, List.getElem?_cons_succ, Sem.run_bind, run_underlying hd, run_underlying hdx, Result.andThen_ok, run_sizeOf hte, Sem.run_pure, if_true, hasint, hw, h0, if_false, run_typeInfo hi1, hi3, h1, Int.toNat_zero]
  simp
end
end Go.GG

/- append and texts, as operations. -/
namespace Go.GG
open Go.RowKit
section
variable {τ : Tabs} {P : Program} {E : Entry} {m : IMap} {s : St} {a : Act} {w : World}
theorem below_drew (w : World) : Below w.heap.size w w.drew := (Below.refl _ w).drew
theorem keeps_back {w : World} {ok : Nat → Prop} : Keeps w.drew w ok ok := fun _ h => ⟨h, fun _ _ _ h => h⟩
theorem run_append {dst : Option Nat} {x y : Operand} {sT xT ty : TypeId} {pos : String} {after : Array Edge} {guard : Option (Nat × Bool)} {v : Value} {w' : World}
    (h : (Builtin.append_ #[sT, xT] ty #[a.eval x, a.eval y]).run P w = .ok v w') :
    (execOp a.eval ⟨dst, .call { callee := .builtin .append, args := #[x, y], argTypes := #[sT, xT] }, ty, pos, after, guard⟩).run P w = .ok (.value v) w' := by
  simp [execOp, resolve, invoke, builtin, h]
/-- The new row of an append that does not fit. -/
theorem append_row {o : Oper} (h : Rel P E m s a w) (hd : ∀ n, o.dst = some n → E.may n) {id : Nat} (hid : s.used id = false) (hlt : id < lentBase) {t : T} {xs more : List t.den} {us vs zs : List Value} {e : TypeId} {cap : Nat}
    (hu : Row w (okOf E m s.mem w) t xs us) (hv : Row w (okOf E m s.mem w) t more vs) (hcap : xs.length + more.length ≤ cap) (hz : zs.length = (cap - (xs.length + more.length)) * t.cnt)
    (hr : (execOp a.eval o).run P w = .ok (.value (.slice (some ⟨w.heap.size, 0, none⟩) (xs.length + more.length) cap)) (w.drew.alloc (.cells (us ++ vs ++ zs).toArray e))) :
    Does P E o s a w ⟨.sref id, [(id, some (.arr t (xs ++ more)))], [id]⟩ := by
  have hrow := hu.append hv
  have hlen : (us ++ vs ++ zs).length = cap * t.cnt := by
    rw [List.length_append, hrow.len, hz, List.length_append, ← Nat.add_mul]
    congr 1; omega
  refine does_row (w1 := w.drew) (fr := (0, 0)) (e := e) (cs := us ++ vs ++ zs) (cap := cap) h hd hid hlt (below_drew w) rfl (by simpa using hcap) (by omega) (.inl rfl) (fun i x hi => ?_) (by simpa using hr)
  obtain ⟨ds, h1, h2⟩ := hrow.el i x hi
  refine ⟨ds, h1, fun j u hu' => ?_⟩
  have := h2 j u hu'
  rw [List.getElem?_append_left (List.getElem?_eq_some_iff.1 this).1]
  exact this
/-! Elements written over a row's own. -/
theorem splice_getE {α : Type} {xs ys : List α} {lo : Nat} (hlo : lo ≤ xs.length) (i : Nat) : (splice xs lo ys)[i]? = if i < lo then xs[i]? else if i < lo + ys.length then ys[i - lo]? else xs[i]? := by
  unfold splice
  by_cases h1 : i < lo
  · rw [if_pos h1, List.append_assoc, List.getElem?_append_left (by simp; omega), List.getElem?_take, if_pos h1]
  · rw [if_neg h1]
    by_cases h2 : i < lo + ys.length
    · rw [if_pos h2, List.append_assoc, List.getElem?_append_right (by simp; omega), List.getElem?_append_left (by simp; omega)]
      congr 1; simp; omega
    · rw [if_neg h2, List.getElem?_append_right (by simp; omega), List.getElem?_drop]
      congr 1; simp; omega
theorem splice_len {α : Type} {xs ys : List α} {lo : Nat} (hlo : lo ≤ xs.length) : (splice xs lo ys).length = max xs.length (lo + ys.length) := by simp [splice]; omega
theorem splice_nil {α : Type} (xs : List α) (lo : Nat) : splice xs lo [] = xs := by simp [splice]
theorem splice_row {w : World} {ok : Nat → Prop} {t : T} {xs ys : List t.den} {b : Nat} {C : Array Value} {e : TypeId} {fr : Nat × Nat} {vs : List Value} {lo : Nat} (hh : w.heap[b]? = some (.cells C e fr)) (hfr : FrOk t C.size fr)
    (hel : ∀ i x, xs[i]? = some x → ∃ ds, t.holds w ok x ds ∧ ∀ j u, ds[j]? = some u → C[i * t.cnt + j]? = some u) (hv : Row w ok t ys vs) (hlo : lo ≤ xs.length) (hc : (lo + ys.length) * t.cnt ≤ C.size) :
    ∃ C' : Array Value, (storeCells ⟨b, lo * t.cnt, none⟩ vs).run P w = .ok () (w.setRow b C') ∧ C'.size = C.size ∧
      ∀ i x, (splice xs lo ys)[i]? = some x → ∃ ds, t.holds w ok x ds ∧ ∀ j u, ds[j]? = some u → C'[i * t.cnt + j]? = some u := by
  have hpos := cnt_pos t
  have hsz : lo * t.cnt + vs.length ≤ C.size := by rw [hv.len, ← Nat.add_mul]; exact hc
  have hst := run_storeAt (P := P) b (lo * t.cnt) e fr vs 0 C w hh hfr.free (by omega) hv.one
  simp only [Nat.add_zero] at hst
  refine ⟨_, hst, by simp; omega, fun i x hi => ?_⟩
  have hsp := splice_get (C := C.toList) (v := vs) (p := lo * t.cnt) (by simpa using hsz)
  rw [splice_getE hlo] at hi
  simp only [List.getElem?_toArray]
  split at hi
  · rename_i hlt
    obtain ⟨ds, hd1, hd2⟩ := hel i x hi
    have hdl := T.holds_len hd1
    refine ⟨ds, hd1, fun j u hu => ?_⟩
    have hj : j < t.cnt := by rw [← hdl]; exact (List.getElem?_eq_some_iff.1 hu).1
    have : (i + 1) * t.cnt ≤ lo * t.cnt := Nat.mul_le_mul_right _ hlt
    rw [Nat.add_mul] at this
    rw [hsp, if_pos (by omega)]
    simpa using hd2 j u hu
  · rename_i hge
    split at hi
    · rename_i hlt
      obtain ⟨ds, hd1, hd2⟩ := hv.el _ x hi
      have hdl := T.holds_len hd1
      refine ⟨ds, hd1, fun j u hu => ?_⟩
      have hj : j < t.cnt := by rw [← hdl]; exact (List.getElem?_eq_some_iff.1 hu).1
      have e1 : i * t.cnt = lo * t.cnt + (i - lo) * t.cnt := by rw [← Nat.add_mul]; congr 1; omega
      have e2 : (i - lo + 1) * t.cnt ≤ ys.length * t.cnt := Nat.mul_le_mul_right _ (by omega)
      rw [Nat.add_mul] at e2
      rw [hsp, if_neg (by omega), if_pos (by rw [hv.len]; omega), ← hd2 j u hu]
      congr 1; omega
    · rename_i hge2
      obtain ⟨ds, hd1, hd2⟩ := hel i x hi
      have hdl := T.holds_len hd1
      refine ⟨ds, hd1, fun j u hu => ?_⟩
      have e2 : (lo + ys.length) * t.cnt ≤ i * t.cnt := Nat.mul_le_mul_right _ (by omega)
      rw [Nat.add_mul] at e2
      rw [hsp, if_neg (by omega), if_neg (by rw [hv.len]; omega)]
      simpa using hd2 j u hu
theorem addUsed_keep : ∀ (al : List Nat) (u : Nat → Bool) (r : Nat), u r = true → addUsed al u r = true
  | [], _, _, h => h
  | x :: al, u, r, h => by
    refine addUsed_keep al _ r ?_
    cases hb : Nat.beq r x with
    | true => rfl
    | false => exact h
theorem Rel.more (h : Rel P E m s a w) (al : List Nat) : Rel P E m { s with used := addUsed al s.used } a w :=
  ⟨h.env, h.mem, h.inj, fun r hr => addUsed_keep al _ r (h.used r hr), h.lent, h.goes, h.size, h.defers, h.shape, h.keep⟩
theorem write_does {o : Oper} (al : List Nat) (h : Rel P E m s a w) (hd : ∀ n, o.dst = some n → E.may n) {r cnt lo n : Nat} {v u : Value} {l : L} {t : T} {xs ys : List t.den} {vs : List Value} {c' : C}
    (hX : LRep P w (okOf E m s.mem w) m (.vw r cnt lo n) v) (hcnt : t.cnt = cnt) (hyn : ys.length ≤ n) (hv : Row w (okOf E m s.mem w) t ys vs)
    (hcase : (s.mem r = some (.arr t xs) ∧ lo + n ≤ xs.length ∧ c' = .arr t (splice xs lo ys)) ∨ (∃ c0, s.mem r = some (.blk t xs c0) ∧ lo + n ≤ c0 ∧ lo ≤ xs.length ∧ c' = .blk t (splice xs lo ys) c0))
    (hrun : ∀ A c w', v = .slice A n c → (match A with | some ad => storeCells ad vs | none => pure ()).run P w = .ok () w' → (execOp a.eval o).run P w = .ok (.value u) w')
    (hl : ∀ w' ok' m', Ext m m' → LRep P w' ok' m' l u) : Does P E o s a w ⟨l, [(r, some c')], al⟩ := by
  subst hcnt
  by_cases hys : ys = []
  · subst hys
    have hvs : vs = [] := by have := hv.len; simpa using this
    subst hvs
    have hmem : editMem [(r, some c')] s.mem = s.mem := by
      funext r'
      simp only [editMem]
      cases hb : Nat.beq r' r with
      | false => rfl
      | true =>
        have := Nat.eq_of_beq_eq_true hb
        subst this
        rw [splice_nil] at hcase
        rcases hcase with ⟨h1, _, h2⟩ | ⟨c0, h1, _, _, h2⟩ <;> rw [h1, h2] <;> rfl
    obtain ⟨A, c, k, _, rfl, _⟩ := hX
    have hr := hrun _ _ w rfl (by split <;> rfl)
    refine does_turn (m' := m) (w' := w) hd hr ?_ (hl _ _ _ (Ext.refl m))
    rw [hmem]; exact h.more al
  · have hn : 0 < n := by have := List.length_pos_iff.2 hys; omega
    have hlen : 0 < ys.length := List.length_pos_iff.2 hys
    rcases hcase with ⟨hr, hle, rfl⟩ | ⟨c0, hr, hle, hlo, rfl⟩
    · obtain ⟨i, h1, h2, _⟩ := h.mem r _ hr
      obtain ⟨A, c, k, hm, rfl, hk⟩ := hX
      rcases hm with hm | ⟨n0, hm⟩ <;> (rw [hm] at h1; simp at h1; subst h1; simp only [CRep] at h2)
      rcases h2 with ⟨hn', hx'⟩ | ⟨b, C, e, fr, cap, hsl, hc1, hc2, hh, hfr, hel⟩
      · subst hx'; simp at hle; omega
      simp only [Value.slice.injEq] at hsl
      obtain ⟨rfl, rfl, rfl⟩ := hsl
      have hcc : (lo + ys.length) * t.cnt ≤ C.size := Nat.le_trans (Nat.mul_le_mul_right _ (by omega)) hc2
      obtain ⟨C', h3, h4, h5⟩ := splice_row (P := P) hh hfr hel hv (by omega) hcc
      obtain rfl : k = lo * t.cnt := hk.resolve_left (by omega)
      have hadr : (some (⟨b, 0, none⟩ : Addr)).map (·.add (lo * t.cnt)) = some ⟨b, lo * t.cnt, none⟩ := by
        simp only [Option.map_some, add_plain, Nat.zero_add]
      have hrr := hrun _ _ _ rfl (by rw [hadr]; exact h3)
      have hedit := h.edit (c' := .arr t (splice xs lo ys)) hr hm rfl (w' := w.setRow b C') (fun k hk => setRow_other w b k _ hk) (by simp) rfl rfl rfl (fun ok' hk => by
        refine .inr ⟨b, C', e, fr, c, ?_, ?_, by rw [h4]; exact hc2, setRow_heap w b _ _ e _ hh, by rw [h4]; exact hfr, fun i x hi => ?_⟩
        · rw [splice_len (by omega)]; congr 1; omega
        · rw [splice_len (by omega)]; omega
        · obtain ⟨ds, g1, g2⟩ := h5 i x hi
          exact ⟨ds, T.holds_mono hk g1, g2⟩)
      exact does_turn (m' := m) hd hrr (hedit.more al) (hl _ _ _ (Ext.refl m))
    · obtain ⟨i, h1, h2, _⟩ := h.mem r _ hr
      obtain ⟨A, c, k, hm, rfl, hk⟩ := hX
      rcases hm with hm | ⟨n0, hm⟩ <;> (rw [hm] at h1; simp at h1; subst h1; simp only [CRep] at h2)
      obtain ⟨rfl, h2⟩ := h2
      rcases h2 with ⟨hn', hx'⟩ | ⟨b, C, e, fr, cap, hsl, hc1, hc2, hh, hfr, hel⟩
      · simp only [Value.slice.injEq] at hn'; omega
      simp only [Value.slice.injEq] at hsl
      obtain ⟨rfl, _, rfl⟩ := hsl
      have hcc : (lo + ys.length) * t.cnt ≤ C.size := Nat.le_trans (Nat.mul_le_mul_right _ (by omega)) hc2
      obtain ⟨C', h3, h4, h5⟩ := splice_row (P := P) hh hfr hel hv hlo hcc
      obtain rfl : k = lo * t.cnt := hk.resolve_left (by omega)
      have hadr : (some (⟨b, 0, none⟩ : Addr)).map (·.add (lo * t.cnt)) = some ⟨b, lo * t.cnt, none⟩ := by
        simp only [Option.map_some, add_plain, Nat.zero_add]
      have hrr := hrun _ _ _ rfl (by rw [hadr]; exact h3)
      have hedit := h.edit (c' := .blk t (splice xs lo ys) c0) hr hm rfl (w' := w.setRow b C') (fun k hk => setRow_other w b k _ hk) (by simp) rfl rfl rfl (fun ok' hk => by
        refine ⟨rfl, .inr ⟨b, C', e, fr, c0, rfl, ?_, by rw [h4]; exact hc2, setRow_heap w b _ _ e _ hh, by rw [h4]; exact hfr, fun i x hi => ?_⟩⟩
        · rw [splice_len hlo]; omega
        · obtain ⟨ds, g1, g2⟩ := h5 i x hi
          exact ⟨ds, T.holds_mono hk g1, g2⟩)
      exact does_turn (m' := m) hd hrr (hedit.more al) (hl _ _ _ (Ext.refl m))
theorem append_does {dst : Nat} {x y : Operand} {sT xT ty e : TypeId} {pos : String} {after : Array Edge} {guard : Option (Nat × Bool)} (h : Rel P E m s a w) (hd : E.may dst) (hid : s.used dst = false) (hlt : dst < lentBase)
    {i j ei : TI} (hs : TOk P sT i) (hsk : i.kind = .slice e) (hx : TOk P xT j) (hxk : j.kind.isText = true) (hte : TOk P e ei) (hb0 : ei.bytes ≠ 0) {t : T} (hcnt : t.cnt = ei.size) {more : List t.den} (hm : Ev (appended t (ev s y)) s.mem more)
    {res : Res} (he : Ev (appendOp dst t ei.bytes (ev s x) more) s.mem res) :
    Does P E ⟨some dst, .call { callee := .builtin .append, args := #[x, y], argTypes := #[sT, xT] }, ty, pos, after, guard⟩ s a w res := by
  have hd' : ∀ n, (some dst : Option Nat) = some n → E.may n := by intro n hn; simp at hn; subst hn; exact hd
  have h2 := h.grow (below_drew w)
  obtain ⟨vs, hl, hv, hf⟩ := src_appended h hm (h.eval y)
  obtain ⟨vs2, hl2, hv2, hf2⟩ := src_appended h2 hm (h2.eval y)
  have hv2' : Row w (okOf E m s.mem w) t more vs2 := hv2.mono keeps_back
  rw [hcnt] at hf hf2
  have hX := h.eval x
  -- the row that does not fit
  have new : ∀ (A : Option Addr) (n cap : Nat) (xs : List t.den) (μ' : Nat → Option C), a.eval x = .slice A n cap → n = xs.length → cap < n + more.length → room (xs ++ more).length ei.bytes = true →
      (∀ r c, μ' r = some c → s.mem r = some c) → (∃ us, Row w.drew (okOf E m s.mem w.drew) t xs us ∧ (Builtin.firstCells t.cnt n (.slice A n cap)).run P w.drew = .ok us.toArray w.drew) →
      Does P E ⟨some dst, .call { callee := .builtin .append, args := #[x, y], argTypes := #[sT, xT] }, ty, pos, after, guard⟩ { s with mem := μ' } a w ⟨.sref dst, [(dst, some (.arr t (xs ++ more)))], [dst]⟩ := by
    rintro A n cap xs μ' hev rfl hgt hroom hμ ⟨us, hu, ho⟩
    rw [hcnt] at ho
    have hr : (xs.length + more.length) * ei.bytes ≤ 140737488355328 := by
      have := of_decide_eq_true hroom
      simpa using this
    obtain ⟨newCap, h3, zs, h4, h5⟩ := append_new (ty := ty) hs hsk hx hxk hte hb0 hl hf2 ho hgt hr
    rw [← hev] at h5
    have hk : Keeps w w (okOf E m s.mem w) (okOf E m μ' w) := Keeps.weaken (ok_drop hμ)
    exact append_row (h.drop hμ) hd' hid hlt ((hu.mono keeps_back).mono hk) (hv2'.mono hk) h3 (by rw [hcnt]; exact h4) (run_append h5)
  have fit : ∀ (A : Option Addr) (n cap : Nat), a.eval x = .slice A n cap → n + more.length ≤ cap → ∀ w', (match A with | some ad => storeCells (ad.add (n * ei.size)) vs | none => pure ()).run P w = .ok () w' →
      (execOp a.eval ⟨some dst, .call { callee := .builtin .append, args := #[x, y], argTypes := #[sT, xT] }, ty, pos, after, guard⟩).run P w = .ok (.value (.slice A (n + more.length) cap)) w' := by
    intro A n cap hev hle w' hst
    have := append_in (ty := ty) hs hsk hx hxk hte hl hf hle hst
    rw [← hev] at this
    exact run_append this
  -- a row of the state's own
  have own : ∀ (r : Nat) (c : C) (xs : List t.den) (v : Value), s.mem r = some c → m r = some (.arr v) → OwnRow w (okOf E m s.mem w) t xs v → a.eval x = v → room (xs ++ more).length ei.bytes = true →
      Does P E ⟨some dst, .call { callee := .builtin .append, args := #[x, y], argTypes := #[sT, xT] }, ty, pos, after, guard⟩ s a w ⟨.sref dst, [(r, none), (dst, some (.arr t (xs ++ more)))], [dst]⟩ := by
    intro r c xs v hrc hmr ho hev hroom
    have hμ : ∀ r' c', editMem [(r, none)] s.mem r' = some c' → s.mem r' = some c' := fun r' c' h' => (editMem_none (by simp) h').1
    have ho2 : OwnRow w.drew (okOf E m s.mem w.drew) t xs v := OwnRow.mono (w := w) (ok := okOf E m s.mem w) (fun b hb => ⟨hb, fun _ _ _ h => h⟩) (fun _ _ => rfl) ho
    obtain ⟨A, cap, rfl, hc1, _⟩ := own_form ho
    by_cases hgt : cap < xs.length + more.length
    · refine does_drop (gone := [(r, none)]) rfl (new A _ cap xs _ hev rfl hgt hroom hμ ?_)
      obtain ⟨_, us, h3, h4⟩ := src_own (P := P) ho2
      exact ⟨us, h3, h4⟩
    · rcases ho with ⟨hn, hxs⟩ | ⟨b, C, e', fr, cap', hn, h3, h4, hh, hfr, hel⟩
      · subst hxs
        simp only [Value.slice.injEq] at hn
        obtain ⟨rfl, _, rfl⟩ := hn
        have : more = [] := by
          cases more with
          | nil => rfl
          | cons z zs => simp at hgt
        subst this
        refine does_drop (gone := [(r, none)]) rfl (does_nil (h.drop hμ) hd' hid hlt ?_)
        have := fit none 0 0 hev (by simp) w rfl
        simpa using this
      · simp only [Value.slice.injEq] at hn
        obtain ⟨rfl, _, rfl⟩ := hn
        have hpos := cnt_pos t
        have hle : (xs.length + more.length) * t.cnt ≤ C.size := Nat.le_trans (Nat.mul_le_mul_right _ (by omega)) h4
        have hsz : xs.length * t.cnt + vs.length ≤ C.size := by rw [hv.len, ← Nat.add_mul]; exact hle
        have hst := run_storeAt (P := P) b (xs.length * t.cnt) e' fr vs 0 C w hh hfr.free (by omega) hv.one
        have hrun := fit (some ⟨b, 0, none⟩) xs.length cap hev (by omega) _ (by
          show (storeCells ((⟨b, 0, none⟩ : Addr).add (xs.length * ei.size)) vs).run P w = _
          rw [add_plain, Nat.zero_add, ← hcnt]; exact hst)
        simp only [Nat.add_zero] at hrun
        obtain ⟨h5, h6⟩ := h.move (id := dst) (w' := w.setRow b (C.toList.take (xs.length * t.cnt) ++ vs ++ C.toList.drop (xs.length * t.cnt + vs.length)).toArray) (c' := .arr t (xs ++ more)) (i' := .arr (.slice (some ⟨b, 0, none⟩) (xs.length + more.length) cap)) hrc hmr rfl hid hlt (fun k hk => setRow_other w b k _ hk) (by simp) rfl rfl rfl rfl (fun ok' m' hk _ => by
          have hsp := splice_get (C := C.toList) (v := vs) (p := xs.length * t.cnt) (by simpa using hsz)
          refine .inr ⟨b, _, e', fr, cap, by simp, by simp; omega, ?_, setRow_heap w b _ _ e' _ hh, ?_, fun i x hi => ?_⟩
          · simp; omega
          · have hsz' : (C.toList.take (xs.length * t.cnt) ++ vs ++ C.toList.drop (xs.length * t.cnt + vs.length)).toArray.size = C.size := by simp; omega
            rw [hsz']; exact hfr
          · rw [List.getElem?_append] at hi
            simp only [List.getElem?_toArray]
            split at hi
            · rename_i hlt'
              obtain ⟨ds, hd1, hd2⟩ := hel i x hi
              have hdl := T.holds_len hd1
              refine ⟨ds, T.holds_mono hk hd1, fun j u hu => ?_⟩
              have hj : j < t.cnt := by rw [← hdl]; exact (List.getElem?_eq_some_iff.1 hu).1
              have : (i + 1) * t.cnt ≤ xs.length * t.cnt := Nat.mul_le_mul_right _ hlt'
              rw [Nat.add_mul] at this
              rw [hsp, if_pos (by omega)]
              simpa using hd2 j u hu
            · rename_i hge
              obtain ⟨ds, hd1, hd2⟩ := hv.el _ x hi
              have hdl := T.holds_len hd1
              refine ⟨ds, T.holds_mono hk hd1, fun j u hu => ?_⟩
              have hj : j < t.cnt := by rw [← hdl]; exact (List.getElem?_eq_some_iff.1 hu).1
              have hil : i - xs.length < more.length := (List.getElem?_eq_some_iff.1 hi).1
              have e1 : i * t.cnt = xs.length * t.cnt + (i - xs.length) * t.cnt := by rw [← Nat.add_mul]; congr 1; omega
              have e2 : (i - xs.length + 1) * t.cnt ≤ more.length * t.cnt := Nat.mul_le_mul_right _ hil
              rw [Nat.add_mul] at e2
              rw [hsp, if_neg (by omega), if_pos (by rw [hv.len]; omega), ← hd2 j u hu]
              congr 1; omega)
        exact does_turn hd' hrun h5 (.inl h6)
  generalize hlx : ev s x = lx at he hX
  unfold appendOp at he
  split at he
  · rename_i r
    rw [ev_get] at he
    split at he
    · rename_i t' xs0 hr
      split at he
      · rename_i xs hxs
        obtain ⟨e1, e2⟩ := cast?_some hxs
        simp only [T.slice.injEq] at e1
        subst e1
        simp only at e2
        subst e2
        rw [ev_assume, ev_pure] at he
        obtain ⟨hroom, rfl⟩ := he
        obtain ⟨im, h1, h3, _⟩ := h.mem r _ hr
        simp only [LRep] at hX
        rw [h1] at hX
        rcases hX with hX | hX <;> (simp at hX; subst hX; simp only [CRep] at h3)
        exact own r _ _ _ hr h1 h3 rfl hroom
      · simp [ev_fail] at he
    · rename_i t' xs0 hr
      split at he
      · rename_i xs hxs
        obtain ⟨e1, e2⟩ := cast?_some hxs
        simp only [T.slice.injEq] at e1
        subst e1
        simp only at e2
        subst e2
        rw [ev_assume, ev_assume, ev_pure] at he
        obtain ⟨hne, hroom, rfl⟩ := he
        obtain ⟨im, h1, h3, _⟩ := h.mem r _ hr
        simp only [LRep] at hX
        rw [h1] at hX
        rcases hX with hX | hX <;> (simp at hX; subst hX; simp only [CRep] at h3)
        · exact own r _ _ _ hr h1 h3 rfl hroom
        · have hμ : ∀ r' c', editMem [(r, none)] s.mem r' = some c' → s.mem r' = some c' := fun r' c' h' => (editMem_none (by simp) h').1
          obtain ⟨h4, A, h5⟩ := h3
          have hpos : 0 < more.length := by cases more <;> simp_all
          rw [h5] at h4
          obtain ⟨_, us, h6, h7⟩ := src_imm (P := P) (w := w.drew) (ok := okOf E m s.mem w.drew) (T.holds_mono (w := w) (w' := w.drew) (ok := okOf E m s.mem w) (ok' := okOf E m s.mem w.drew) (t := .slice t') (fun b hb => ⟨hb, fun _ _ _ h => h⟩) h4)
          exact does_drop (gone := [(r, none)]) rfl (new A _ _ xs0 _ h5 rfl (by omega) hroom hμ ⟨us, h6, h7⟩)
      · simp [ev_fail] at he
    · simp [ev_fail] at he
  · rw [ev_assume, ev_pure] at he
    obtain ⟨hroom, rfl⟩ := he
    simp only [LRep] at hX
    by_cases hne : more = []
    · subst hne
      refine does_nil h hd' hid hlt ?_
      have := fit none 0 0 hX (by simp) w rfl
      simpa using this
    · have hpos : 0 < more.length := List.length_pos_iff.2 hne
      have := new none 0 0 [] s.mem hX rfl (by omega) (by simpa using hroom) (fun _ _ h => h) ⟨[], Row.nil _ _ _, rfl⟩
      simpa using this
  · split at he
    · rename_i t' xs0 _ xs hxs
      obtain ⟨e1, e2⟩ := cast?_some hxs
      simp only [T.slice.injEq] at e1
      subst e1
      simp only at e2
      subst e2
      rw [ev_assume, ev_assume, ev_pure] at he
      obtain ⟨hne, hroom, rfl⟩ := he
      obtain ⟨h4, A, h5⟩ := hX
      have hpos : 0 < more.length := by cases more <;> simp_all
      rw [h5] at h4
      obtain ⟨_, us, h6, h7⟩ := src_imm (P := P) (w := w.drew) (ok := okOf E m s.mem w.drew) (T.holds_mono (w := w) (w' := w.drew) (ok := okOf E m s.mem w) (ok' := okOf E m s.mem w.drew) (t := .slice t') (fun b hb => ⟨hb, fun _ _ _ h => h⟩) h4)
      exact new A _ _ xs0 s.mem h5 rfl (by omega) hroom (fun _ _ h => h) ⟨us, h6, h7⟩
    · simp [ev_fail] at he
  · rename_i r cnt lo n
    rw [ev_get] at he
    split at he
    · rename_i t' xs0 c hr
      split at he
      · rename_i xs hxs
        obtain ⟨e1, e2⟩ := cast?_some hxs
        simp only [T.slice.injEq] at e1
        subst e1
        simp only at e2
        subst e2
        rw [ev_assume] at he
        obtain ⟨hb, he⟩ := he
        simp only [Bool.and_eq_true] at hb
        have hb1 := Nat.le_of_ble_eq_true hb.1
        have hb2 := Nat.eq_of_beq_eq_true hb.2
        subst hb2
        have hX0 := hX
        obtain ⟨A, c1, k, hm1, hev, hk⟩ := hX0
        obtain ⟨im, h1, h3, _⟩ := h.mem r _ hr
        rcases hm1 with hm1 | ⟨n0, hm1⟩ <;> (rw [hm1] at h1; simp at h1; subst h1; simp only [CRep] at h3)
        obtain ⟨rfl, ho⟩ := h3
        rw [ev_br] at he
        rcases he with ⟨hfit, he⟩ | ⟨hfit, he⟩
        · rw [ev_pure] at he; subst he
          have hfit := Nat.le_of_ble_eq_true hfit
          refine write_does [dst] (o := ⟨some dst, .call { callee := .builtin .append, args := #[x, y], argTypes := #[sT, xT] }, ty, pos, after, guard⟩) (t := t') (cnt := t'.cnt) (lo := lo + n) (n := more.length) (xs := xs0) (ys := more) (v := .slice (A.map (·.add ((lo + n) * t'.cnt))) more.length (c - (lo + n))) (u := .slice (A.map (·.add k)) (n + more.length) (c - lo)) h hd' ⟨A, c, _, .inl hm1, rfl, .inr rfl⟩ rfl (Nat.le_refl _) hv (.inr ⟨c, hr, hfit, by omega, rfl⟩) (fun A1 c1 w1 hv1 hst => ?_) (fun w1 ok1 m1 hext => ⟨A, c, k, .inl (hext.blk hm1), rfl, hk⟩)
          simp only [Value.slice.injEq] at hv1
          obtain ⟨rfl, _, _⟩ := hv1
          refine fit _ n (c - lo) hev (by omega) w1 ?_
          by_cases hmz : more = []
          · have hvz : vs = [] := by have := hv.len; rw [hmz] at this; simpa using this
            subst hvz
            have hw1 : w1 = w := by
              split at hst <;> (simp [storeCells] at hst; exact hst.symm)
            subst hw1
            split <;> rfl
          · have hpos : 0 < more.length := List.length_pos_iff.2 hmz
            obtain rfl : k = lo * t'.cnt := hk.resolve_left (by omega)
            rcases ho with ⟨hA, _⟩ | ⟨b, C, e', fr, cap', hA, _⟩
            · simp only [Value.slice.injEq] at hA
              omega
            · simp only [Value.slice.injEq] at hA
              obtain ⟨rfl, _, _⟩ := hA
              simp only [Option.map_some, add_plain] at hst ⊢
              rw [← hcnt, Nat.zero_add, ← Nat.add_mul]
              rw [Nat.zero_add] at hst
              exact hst
        · rw [ev_assume, ev_pure] at he
          obtain ⟨hroom, rfl⟩ := he
          have hfit : ¬ lo + n + more.length ≤ c := fun hh => by rw [Nat.ble_eq_true_of_le hh] at hfit; cases hfit
          have ho2 : OwnRow w.drew (okOf E m s.mem w.drew) t' xs0 (.slice A xs0.length c) := OwnRow.mono (w := w) (ok := okOf E m s.mem w) (fun b hb => ⟨hb, fun _ _ _ h => h⟩) (fun _ _ => rfl) ho
          obtain ⟨us, h6, h7⟩ := src_view (P := P) (lo := lo) (n := n) (n' := n) (c' := c - lo) ho2 hb1 (hk.imp_left And.left)
          have hl0 : ((xs0.drop lo).take n).length = n := by simp; omega
          have hcl : lo ≤ c := by
            rcases ho with ⟨hA, hx0⟩ | ⟨b, C, e', fr, cap', hA, hle, _⟩
            · subst hx0; simp at hb1; omega
            · simp only [Value.slice.injEq] at hA; omega
          exact new _ n (c - lo) ((xs0.drop lo).take n) s.mem hev hl0.symm (by omega) hroom (fun _ _ h => h) ⟨us, h6, h7⟩
      · simp [ev_fail] at he
    · simp [ev_fail] at he
  · simp [ev_fail] at he
end
end Go.GG

/- Conversions, and all operations together but calls. -/
namespace Go.GG
open Go.RowKit
section
variable {τ : Tabs} {P : Program} {E : Entry} {m : IMap} {s : St} {a : Act} {w : World}
theorem freeze_alloc (w : World) (C : Array Value) (e : TypeId) (k : Nat) : (w.alloc (.cells C e)).freeze ⟨w.heap.size, k, none⟩ 1 = w.alloc (.cells C e (k, k + 1)) := by
  have hm : ∀ (a : Array Obj) (x : Obj) (f : Obj → Obj), (a.push x).modify a.size f = a.push (f x) := by
    intro a x f
    apply Array.ext
    · simp
    · intro i h1 h2
      simp only [Array.getElem_modify, Array.getElem_push]
      by_cases h : a.size = i
      · subst h; simp
      · have hi : i < a.size := by simp at h1; omega
        simp [h, hi]
  unfold World.freeze
  rw [if_neg (by decide)]
  show ({ w.alloc (.cells C e) with heap := (w.heap.push (.cells C e)).modify w.heap.size _ } : World) = _
  rw [hm]
  rfl
theorem isBytes_spec {tab : Tab} (hT : TabOk P tab) {t : TypeId} {i : TI} (ht : TOk P t i) (h : isBytes tab i = true) : ∃ e, i.kind = .slice e ∧ P.underlying t = some (.slice e) ∧ P.underlying e = some (.int .u8) := by
  unfold isBytes at h
  split at h
  · rename_i e hk
    split at h
    · rename_i ei hei
      split at h
      · rename_i hke
        obtain ⟨d, hd, hs⟩ := ht.desc
        rw [hk] at hs
        rw [summ_slice hs] at hd
        obtain ⟨d', hd', hs'⟩ := (hT _ _ hei).desc
        rw [hke] at hs'
        rw [summ_int hs'] at hd'
        exact ⟨e, hk, hd, hd'⟩
      · cases h
    · cases h
  · cases h
theorem convert_does {dst src tgt : Nat} {x : Operand} {ty : TypeId} {pos : String} {after : Array Edge} {guard : Option (Nat × Bool)} (h : Rel P E m s a w) (hd : E.may dst) {tab : Tab} (hT : TabOk P tab) {i j : TI} (hs : TOk P src i) (hj : TOk P tgt j)
    {res : Res} (he : Ev (convertOp tab (Nat.beq src tgt) i j dst (ev s x)) s.mem res) (hfr : ∀ n ∈ res.allocs, s.used n = false ∧ n < lentBase) : Does P E ⟨some dst, .convert src tgt x, ty, pos, after, guard⟩ s a w res := by
  have hd' : ∀ n, (some dst : Option Nat) = some n → E.may n := by intro n hn; simp at hn; subst hn; exact hd
  have hX := h.eval x
  obtain ⟨ds, hds, hss⟩ := hs.desc
  obtain ⟨dt, hdt, hst⟩ := hj.desc
  have run : ∀ v w', (convert src tgt (a.eval x)).run P w = .ok v w' → (execOp a.eval ⟨some dst, .convert src tgt x, ty, pos, after, guard⟩).run P w = .ok (.value v) w' := by
    intro v w' h; simp [execOp, h]
  generalize ev s x = lx at he hX
  unfold convertOp at he
  split at he
  · have hv := rep_int hX
    split at he
    · rename_i k' hk
      rw [ev_pure] at he; subst he
      rw [hk] at hst
      have := summ_int hst; subst this
      refine does_val h hd' (run (.int k' _) w ?_) (mk_int _ _)
      rw [hv]
      simp [convert, run_underlying hds, run_underlying hdt, Conv.intToInt]
    · simp [ev_fail] at he
  · rename_i str
    have hv := rep_str hX
    split at he
    · rename_i hks
      rw [hks] at hss
      have := summ_str hss; subst this
      split at he
      · rename_i hk
        rw [ev_pure] at he; subst he
        rw [hk] at hst
        have := summ_str hst; subst this
        refine does_val h hd' (run (.string _) w ?_) (mk_str _)
        rw [hv]
        simp [convert, run_underlying hds, run_underlying hdt]
      · rw [ev_cond, ev_fail, ev_pure] at he
        obtain ⟨hb, rfl⟩ := he.resolve_right (by simp)
        obtain ⟨e, _, he1, he2⟩ := isBytes_spec hT hj hb
        have hcap : ∃ cap, str.length ≤ cap ∧ (choose (.appendCap (ByteArray.mk str.toArray).size 0 e)).run P w = .ok cap w.drew := by
          refine ⟨(ByteArray.mk str.toArray).size + w.tape w.drawn (.appendCap (ByteArray.mk str.toArray).size 0 e) % (2 ^ 63 - (ByteArray.mk str.toArray).size), by simp [ByteArray.size], ?_⟩
          rw [run_choose]
          simp [Question.forced, Question.cut]
        obtain ⟨cap, hc1, hc2⟩ := hcap
        have hsz : (ByteArray.mk str.toArray).size = str.length := by simp [ByteArray.size]
        have hcs : (((ByteArray.mk str.toArray).data.map fun b => Value.int .u8 (b.toNat : Int)) ++ Array.replicate (cap - (ByteArray.mk str.toArray).size) (.int .u8 0)) = (List.map (fun b : UInt8 => Value.int .u8 (b.toNat : Int)) str ++ List.replicate (cap - List.length str) (Value.int .u8 0)).toArray := by
          simp [hsz]
        have hlen : (List.map (fun b : UInt8 => Value.int .u8 (b.toNat : Int)) str ++ List.replicate (cap - List.length str) (Value.int .u8 0)).length = cap := by simp; omega
        have hofl : (ofBytes str).length = str.length := by simp [ofBytes]
        refine does_row (w1 := w.drew) (e := e) (fr := (cap, cap + 1)) (cs := List.map (fun b : UInt8 => Value.int .u8 (b.toNat : Int)) str ++ List.replicate (cap - List.length str) (Value.int .u8 0)) (cap := cap) h hd' (hfr dst (by simp)).1 (hfr dst (by simp)).2 (below_drew w) rfl (by omega) (by rw [hlen]; simp [T.cnt]) (.inr ⟨by rw [hlen]; exact Nat.le_refl _, rfl⟩) (fun k z hk => ?_) (run _ _ ?_)
        · simp only [ofBytes, List.getElem?_map, Option.map_eq_some_iff] at hk
          obtain ⟨b, hb', rfl⟩ := hk
          have hkl := (List.getElem?_eq_some_iff.1 hb').1
          refine ⟨[.int .u8 b.toNat], rfl, fun j u hu => ?_⟩
          cases j with
          | zero =>
            simp at hu; subst hu
            rw [List.getElem?_append_left (by simp [T.cnt]; exact hkl)]
            simp [T.cnt, hb']
          | succ j => simp at hu
        · rw [hv]
          simp only [convert, Sem.run_bind, run_underlying hds, run_underlying he1, Result.andThen_ok, run_underlying he2, Conv.stringToBytes, hc2, hcs, newRow, run_newObj, Sem.run_pure, markStringish, run_shape]
          have hshape : ∀ C : Array Value, ({ w.drew with heap := w.drew.heap.push (.cells C e) } : World).shape? w.drew.heap.size = some (e, C.size) := by
            intro C
            show (w.drew.alloc (.cells C e)).shape? w.drew.heap.size = _
            unfold World.shape?
            rw [alloc_new]
          rw [hshape]
          simp only [run_freeze, Result.andThen_ok]
          rw [hofl, hsz]
          have := freeze_alloc w.drew (List.map (fun b : UInt8 => Value.int .u8 (b.toNat : Int)) str ++ List.replicate (cap - List.length str) (Value.int .u8 0)).toArray e cap
          simp only [List.size_toArray, hlen]
          exact congrArg _ this
    · simp [ev_fail] at he
  · split at he
    · rename_i hk
      rw [ev_cond, ev_fail, ev_bind] at he
      replace he := he.resolve_right (by simp)
      obtain ⟨hb, xs, hxs, he⟩ := he
      rw [ev_pure] at he; subst he
      rw [hk] at hst
      have := summ_str hst; subst this
      obtain ⟨e, _, he1, he2⟩ := isBytes_spec hT hs hb
      obtain ⟨A, c, vs, hv, hrow, hf⟩ := src_elems h hxs hX
      refine does_val h hd' (run (.string _) w ?_) (mk_str _)
      have hvs : vs = xs.map (Value.int .u8) := by
        apply List.ext_getElem?
        intro k
        by_cases hk' : k < xs.length
        · obtain ⟨ds', hd1, hd2⟩ := hrow.el k xs[k] (by simp)
          have : ds' = [.int .u8 xs[k]] := hd1
          subst this
          have := hd2 0 _ rfl
          simp [T.cnt] at this
          rw [this]; simp [hk']
        · have := hrow.len
          rw [List.getElem?_eq_none (by rw [this]; simp [T.cnt]; omega), List.getElem?_eq_none (by simp; omega)]
      rw [hv] at hf ⊢
      cases A with
      | none =>
        simp only [Builtin.firstCells, Sem.run_pure, Result.ok.injEq, and_true] at hf
        have : vs = [] := by simpa using hf.symm
        rw [this] at hvs
        have : xs = [] := by simpa using hvs.symm
        subst this
        rw [run_convert_bytes_nil w src e he1 he2 _ c tgt hdt]
        rfl
      | some ad =>
        simp only [Builtin.firstCells, T.cnt, Nat.mul_one] at hf
        rw [hvs] at hf
        rw [run_convert_bytes_string w src tgt e _ _ _ he1 he2 hdt, run_bytesToString w ad _ _ xs hf, foldl_push_bytes]
        simp [ByteArray.empty, ByteArray.emptyWithCapacity, toBytes]
        rfl
    · split at he
      · rename_i r _ _
        rw [ev_cond, ev_fail, ev_get] at he
        replace he := he.resolve_right (by simp)
        obtain ⟨hb, he⟩ := he
        simp only [Bool.and_eq_true] at hb
        have hsame := Nat.eq_of_beq_eq_true hb.1
        subst hsame
        obtain ⟨e, _, he1, he2⟩ := isBytes_spec hT hs hb.2
        split at he
        · rename_i xs hr
          rw [ev_assume, ev_pure] at he
          obtain ⟨hne, rfl⟩ := he
          obtain ⟨im, h1, h2, _⟩ := h.mem r _ hr
          simp only [LRep] at hX
          rw [h1] at hX
          rcases hX with hX | hX <;> (simp at hX; subst hX; simp only [CRep] at h2)
          rcases h2 with ⟨_, rfl⟩ | ⟨b, C, e', fr, cap, hv, h3, h4, hh, hfz, hel⟩
          · simp at hne
          rw [hv] at h1
          have hblt : b < w.heap.size := (Array.getElem?_eq_some_iff.1 hh).1
          have hwf : (w.freeze ⟨b, C.size, none⟩ 1).heap[b]? = some (.cells C e' (if fr.1 == fr.2 then (C.size, C.size + 1) else (min fr.1 C.size, max fr.2 (C.size + 1)))) := by
            unfold World.freeze
            rw [if_neg (by decide)]
            obtain ⟨lo, hi⟩ := fr
            simp only [Array.getElem?_modify, hh, Option.map_some]
            simp
          obtain ⟨h5, h6⟩ := h.move (id := dst) (w' := w.freeze ⟨b, C.size, none⟩ 1) (c' := .arr (.int .u8) xs) (i' := .arr (.slice (some ⟨b, 0, none⟩) xs.length cap)) hr h1 rfl (hfr dst (by simp)).1 (hfr dst (by simp)).2 (fun k hk => by
              unfold World.freeze
              rw [if_neg (by decide)]
              simp only [Array.getElem?_modify]
              rw [if_neg (fun e => hk e.symm)]) (by unfold World.freeze; rw [if_neg (by decide)]; simp) (by unfold World.freeze; rw [if_neg (by decide)]) (by unfold World.freeze; rw [if_neg (by decide)]) (by unfold World.freeze; rw [if_neg (by decide)]) rfl (fun ok' m' hk _ => by
              refine .inr ⟨b, C, e', _, cap, rfl, h3, h4, hwf, ?_, fun i x hi => ?_⟩
              · rcases hfz with rfl | ⟨hfz, _⟩
                · exact .inr ⟨Nat.le_refl _, rfl⟩
                · split
                  · exact .inr ⟨Nat.le_refl _, rfl⟩
                  · exact .inr ⟨Nat.le_min.2 ⟨hfz, Nat.le_refl _⟩, rfl⟩
              · obtain ⟨ds', hd1, hd2⟩ := hel i x hi
                exact ⟨ds', T.holds_mono hk hd1, hd2⟩)
          refine does_turn hd' (run (.slice (some ⟨b, 0, none⟩) xs.length cap) _ ?_) h5 (.inl h6)
          rw [hv]
          have hshape : w.shape? b = some (e', C.size) := by simp [World.shape?, hh]
          simp [convert, run_underlying he1, run_underlying he2, markStringish, hshape]
        · simp [ev_fail] at he
      · simp [ev_fail] at he
    · simp [ev_fail] at he
end
end Go.GG

/- Maps of pointers to things of their own: one is taken out, put back, put in, deleted. -/
namespace Go.GG
open Go.RowKit
section
variable {w : World} {m m' : IMap}

theorem strEqb (a b : List UInt8) : T.str.eqb a b = decide (a = b) := by
  show (a == b) = decide (a = b)
  by_cases h : a = b <;> simp [h]
theorem PEnts.length {pin : Option (List UInt8 × Nat)} : ∀ {l : FL} {es : List MapEntry}, PEnts w m pin l es → es.length = l.length
  | [], _, h => by simp only [PEnts] at h; subst h; rfl
  | _ :: l, _, h => by obtain ⟨e, es', rfl, _, h⟩ := h; simp [h.length]
theorem PEnts.keys {pin : Option (List UInt8 × Nat)} : ∀ {l : FL} {es : List MapEntry}, PEnts w m pin l es → es.map (fun e => keyOf e.key) = l.map (·.1)
  | [], _, h => by simp only [PEnts] at h; subst h; rfl
  | (k, x) :: l, _, h => by obtain ⟨e, es', rfl, ⟨h1, _⟩, h⟩ := h; simp [h.keys, h1, keyOf_mk]
/-- No key of these is left out. -/
theorem entBs_none {k : List UInt8} : ∀ {es : List MapEntry}, k ∉ es.map (fun e => keyOf e.key) → entBs w (some k) es = entBs w none es
  | [], _ => rfl
  | e :: es, h => by
    simp only [List.map_cons, List.mem_cons, not_or] at h
    simp only [entBs, entBs_none h.2]
    rw [if_neg (by simpa using h.1), if_neg (by simp)]
theorem PEnts.none_pin {k : List UInt8} {R : Nat} : ∀ {l : FL} {es : List MapEntry}, k ∉ l.map (·.1) → (PEnts w m (some (k, R)) l es ↔ PEnts w m' none l es)
  | [], _, _ => Iff.rfl
  | (k', x) :: l, es, h => by
    simp only [List.map_cons, List.mem_cons, not_or] at h
    constructor
    · rintro ⟨e, es', rfl, ⟨hk, he⟩, h2⟩
      refine ⟨e, es', rfl, ⟨hk, .inr ⟨by simp, ?_⟩⟩, (PEnts.none_pin h.2).1 h2⟩
      rcases he with ⟨R', b, h5, _⟩ | he
      · simp only [Option.some.injEq, Prod.mk.injEq] at h5; exact absurd h5.1 h.1
      · exact he.2
    · rintro ⟨e, es', rfl, ⟨hk, he⟩, h2⟩
      refine ⟨e, es', rfl, ⟨hk, .inr ⟨fun R' e' => ?_, ?_⟩⟩, (PEnts.none_pin h.2).2 h2⟩
      · simp only [Option.some.injEq, Prod.mk.injEq] at e'; exact h.1 e'.1
      · rcases he with ⟨R', b, h5, _⟩ | he
        · cases h5
        · exact he.2
/-- One is found by its key. -/
theorem PEnts.take {k : List UInt8} {x : FT} : ∀ {l : FL} {es : List MapEntry}, PEnts w m none l es → (l.map (·.1)).Nodup → mfind (kt := .str) k l = some x →
    ∃ e ∈ es, keyOf e.key = k ∧ FileAt w x e.val ∧ (entBs w none es).Perm (fileBs w e.val ++ entBs w (some k) es) ∧ (∀ e' ∈ es, keyOf e'.key = k → e' = e) ∧
      ∀ (m' : IMap) R p, e.val = .pointer (some ⟨p, 0, none⟩) → m' R = some (.var p) → PEnts w m' (some (k, R)) l es
  | [], _, _, _, hf => by simp [mfind] at hf
  | (k', x') :: l, _, h, hn, hf => by
    obtain ⟨e, es', rfl, ⟨hk, he⟩, h2⟩ := h
    simp only [List.map_cons, List.nodup_cons] at hn
    have hkk : keyOf e.key = k' := by rw [hk, keyOf_mk]
    have hfile : FileAt w x' e.val := by
      rcases he with ⟨R, b, h5, _⟩ | he
      · cases h5
      · exact he.2
    simp only [mfind, strEqb] at hf
    by_cases e1 : k = k'
    · subst e1
      simp only [decide_true, cond_true, Option.some.injEq] at hf
      subst hf
      have hnk : k ∉ es'.map (fun e => keyOf e.key) := by rw [h2.keys]; exact hn.1
      refine ⟨e, by simp, hkk, hfile, ?_, fun e' he' hk' => ?_, fun m' R p hp hR => ⟨e, es', rfl, ⟨hk, .inl ⟨R, p, rfl, hR, hp⟩⟩, (PEnts.none_pin hn.1).2 h2⟩⟩
      · simp only [entBs, hkk, if_true, List.nil_append, entBs_none hnk]
        rw [if_neg (by simp)]
      · rcases List.mem_cons.1 he' with rfl | he'
        · rfl
        · exact absurd (List.mem_map.2 ⟨e', he', hk'⟩) hnk
    · simp only [decide_eq_false e1, cond_false] at hf
      obtain ⟨e2, he2, h3, h4, h5, h6, h7⟩ := h2.take hn.2 hf
      refine ⟨e2, by simp [he2], h3, h4, ?_, fun e' he' hk' => ?_, fun m' R p hp hR => ⟨e, es', rfl, ⟨hk, .inr ⟨fun R' e' => ?_, hfile⟩⟩, h7 m' R p hp hR⟩⟩
      · simp only [entBs, hkk, Option.some.injEq]
        rw [if_neg (by simp), if_neg e1]
        refine (List.Perm.append_left _ h5).trans ?_
        rw [← List.append_assoc, ← List.append_assoc]
        exact List.Perm.append_right _ List.perm_append_comm
      · rcases List.mem_cons.1 he' with rfl | he'
        · exact absurd (hkk.symm.trans hk').symm e1
        · exact h6 e' he' hk'
      · simp only [Option.some.injEq, Prod.mk.injEq] at e'; exact e1 e'.1
theorem PMap.take {l : FL} {bs : List Nat} {es : Array MapEntry} {clock : Nat} (h : PMap w m l none bs es clock) {k : List UInt8} {x : FT} (hf : mfind (kt := .str) k l = some x) :
    ∃ e ∈ es.toList, keyOf e.key = k ∧ FileAt w x e.val ∧ bs.Perm (fileBs w e.val ++ entBs w (some k) es.toList) ∧ (∀ e' ∈ es.toList, keyOf e'.key = k → e' = e) ∧
      ∀ (m' : IMap) R p, e.val = .pointer (some ⟨p, 0, none⟩) → m' R = some (.var p) → PMap w m' l (some (k, R)) (entBs w (some k) es.toList) es clock := by
  obtain ⟨e, h1, h2, h3, h4, h5, h6⟩ := h.ents.take h.keys hf
  refine ⟨e, h1, h2, h3, by rw [h.bs]; exact h4, h5, fun m' R p hp hR => ⟨h6 m' R p hp hR, h.keys, rfl, fun k' R' e' => ?_, h.stamped⟩⟩
  simp only [Option.some.injEq, Prod.mk.injEq] at e'
  rw [← e'.1, ← h.ents.keys]
  exact List.mem_map.2 ⟨e, h1, h2⟩

theorem mset_keys {k : List UInt8} {x : FT} : ∀ {l : FL}, k ∈ l.map (·.1) → (mset (kt := .str) k x l).map (·.1) = l.map (·.1)
  | [], h => by simp at h
  | (k', x') :: l, h => by
    simp only [mset, strEqb]
    by_cases e : k = k'
    · subst e; simp
    · simp only [decide_eq_false e, cond_false, List.map_cons]
      rw [mset_keys (by simpa [e] using h)]
theorem mset_new {k : List UInt8} {x : FT} : ∀ {l : FL}, k ∉ l.map (·.1) → mset (kt := .str) k x l = l ++ [(k, x)]
  | [], _ => rfl
  | (k', x') :: l, h => by
    simp only [List.map_cons, List.mem_cons, not_or] at h
    simp only [mset, strEqb, decide_eq_false h.1, cond_false, mset_new h.2, List.cons_append]
/-- What was taken out is put back. -/
theorem PEnts.put {k : List UInt8} {R p : Nat} {x : FT} (hR : m R = some (.var p)) (hfile : FileAt w x (.pointer (some ⟨p, 0, none⟩))) : ∀ {l : FL} {es : List MapEntry}, PEnts w m (some (k, R)) l es → (l.map (·.1)).Nodup → k ∈ l.map (·.1) →
    PEnts w m' none (mset (kt := .str) k x l) es ∧ (entBs w none es).Perm (fileBs w (.pointer (some ⟨p, 0, none⟩)) ++ entBs w (some k) es)
  | [], _, _, _, hk => by simp at hk
  | (k', x') :: l, _, h, hn, hk => by
    obtain ⟨e, es', rfl, ⟨hke, he⟩, h2⟩ := h
    simp only [List.map_cons, List.nodup_cons] at hn
    have hkk : keyOf e.key = k' := by rw [hke, keyOf_mk]
    by_cases e1 : k = k'
    · subst e1
      have hnk : k ∉ es'.map (fun e => keyOf e.key) := by rw [h2.keys]; exact hn.1
      have hp : e.val = .pointer (some ⟨p, 0, none⟩) := by
        rcases he with ⟨R', b, h5, h6, h7⟩ | he
        · simp only [Option.some.injEq, Prod.mk.injEq, true_and] at h5
          subst h5
          rw [hR] at h6; simp at h6; subst h6; exact h7
        · exact absurd rfl (he.1 R)
      refine ⟨?_, ?_⟩
      · simp only [mset, strEqb, decide_true, cond_true]
        exact ⟨e, es', rfl, ⟨hke, .inr ⟨by simp, hp ▸ hfile⟩⟩, (PEnts.none_pin hn.1).1 h2⟩
      · simp only [entBs, hkk, if_true, List.nil_append, entBs_none hnk]
        rw [if_neg (by simp), hp]
    · have hfile' : FileAt w x' e.val := by
        rcases he with ⟨R', b, h5, _⟩ | he
        · simp only [Option.some.injEq, Prod.mk.injEq] at h5; exact absurd h5.1 e1
        · exact he.2
      obtain ⟨h3, h4⟩ := PEnts.put hR hfile h2 hn.2 (by simpa [e1] using hk)
      refine ⟨?_, ?_⟩
      · simp only [mset, strEqb, decide_eq_false e1, cond_false]
        exact ⟨e, es', rfl, ⟨hke, .inr ⟨by simp, hfile'⟩⟩, h3⟩
      · simp only [entBs, hkk, Option.some.injEq]
        rw [if_neg (by simp), if_neg e1]
        refine (List.Perm.append_left _ h4).trans ?_
        rw [← List.append_assoc, ← List.append_assoc]
        exact List.Perm.append_right _ List.perm_append_comm
theorem PMap.put {l : FL} {bs : List Nat} {es : Array MapEntry} {clock : Nat} {k : List UInt8} {R p : Nat} {x : FT} (h : PMap w m l (some (k, R)) bs es clock) (hR : m R = some (.var p)) (hfile : FileAt w x (.pointer (some ⟨p, 0, none⟩))) :
    PMap w m' (mset (kt := .str) k x l) none (entBs w none es.toList) es clock ∧ (entBs w none es.toList).Perm (fileBs w (.pointer (some ⟨p, 0, none⟩)) ++ bs) := by
  have hk := h.pin k R rfl
  obtain ⟨h1, h2⟩ := PEnts.put (m' := m') hR hfile h.ents h.keys hk
  exact ⟨⟨h1, by rw [mset_keys hk]; exact h.keys, rfl, by simp, h.stamped⟩, by rw [h.bs]; exact h2⟩
end
end Go.GG

/- What a function's specification says; what a caller hands over. -/
namespace Go.GG
open Go.RowKit

/-! ### Contracts -/
def VarAt (w : World) (ok : Nat → Prop) (t : T) (x : t.den) (b : Nat) : Prop := ∃ vs e, w.heap[b]? = some (.cells vs.toArray e (0, 0)) ∧ t.holds w ok x vs
def ptrBlock : Value → List Nat
  | .pointer (some a) => [a.block]
  | _ => []
def rowBlock : Value → List Nat
  | .slice (some a) _ _ => [a.block]
  | _ => []
def PtrAt (w : World) (b0 b : Nat) : Prop := ∃ e, w.heap[b0]? = some (.cells #[.pointer (some ⟨b, 0, none⟩)] e (0, 0))
/-- A variable's block that holds a pointer, and the block that it points at. -/
def twoBlocks (w : World) : Value → List Nat
  | .pointer (some a) => match w.heap[a.block]? with
    | some (.cells C _ _) => match C.toList with
      | [.pointer (some a')] => [a.block, a'.block]
      | _ => []
    | _ => []
  | _ => []
theorem twoBlocks_of {w : World} {b0 b : Nat} (h : PtrAt w b0 b) : twoBlocks w (.pointer (some ⟨b0, 0, none⟩)) = [b0, b] := by
  obtain ⟨e, h⟩ := h
  simp [twoBlocks, h]
/-! A variable that holds a map of things. -/
def MPtrAt (w : World) (b0 b : Nat) : Prop := ∃ e, w.heap[b0]? = some (.cells #[.map (some b)] e (0, 0))
def mapBs (w : World) (b : Nat) : List Nat := match w.heap[b]? with
  | some (.map es _) => entBs w none es.toList
  | _ => []
def MapAt (w : World) (l : FL) (b : Nat) : Prop := ∃ es clock, w.heap[b]? = some (.map es clock) ∧ PMap w (fun _ => none) l none (mapBs w b) es clock
def mapOf (w : World) (b0 : Nat) : Option Nat := match w.heap[b0]? with
  | some (.cells C _ _) => match C.toList with
    | [.map (some b)] => some b
    | _ => none
  | _ => none
def diskRoots (w : World) : Value → List Nat
  | .pointer (some a) => match mapOf w a.block with
    | some b => [a.block, b]
    | none => []
  | _ => []
def diskBs (w : World) : Value → List Nat
  | .pointer (some a) => match mapOf w a.block with
    | some b => a.block :: b :: mapBs w b
    | none => []
  | _ => []
theorem PEnts.free {w : World} {m m' : IMap} : ∀ {l : FL} {es : List MapEntry}, PEnts w m none l es → PEnts w m' none l es
  | [], _, h => h
  | (k, x) :: l, _, h => by
    obtain ⟨e, es', rfl, ⟨hk, he⟩, h2⟩ := h
    refine ⟨e, es', rfl, ⟨hk, .inr ?_⟩, h2.free⟩
    rcases he with ⟨R, b, h5, _⟩ | he
    · cases h5
    · exact he
theorem PMap.free {w : World} {m m' : IMap} {l : FL} {bs : List Nat} {es : Array MapEntry} {clock : Nat} (h : PMap w m l none bs es clock) : PMap w m' l none bs es clock :=
  ⟨h.ents.free, h.keys, h.bs, (fun k R e => by cases e), h.stamped⟩
theorem mapBs_of {w : World} {b : Nat} {es : Array MapEntry} {clock : Nat} (h : w.heap[b]? = some (.map es clock)) : mapBs w b = entBs w none es.toList := by simp [mapBs, h]
theorem MapAt.of {w : World} {m : IMap} {l : FL} {b : Nat} {bs : List Nat} {es : Array MapEntry} {clock : Nat} (h : w.heap[b]? = some (.map es clock)) (h2 : PMap w m l none bs es clock) : MapAt w l b ∧ mapBs w b = bs := by
  have e : mapBs w b = bs := by rw [mapBs_of h, h2.bs]; rfl
  exact ⟨⟨es, clock, h, e ▸ h2.free⟩, e⟩
theorem mapOf_of {w : World} {b0 b : Nat} (h : MPtrAt w b0 b) : mapOf w b0 = some b := by
  obtain ⟨e, h⟩ := h
  simp [mapOf, h]
theorem diskRoots_of {w : World} {b0 b : Nat} (h : MPtrAt w b0 b) : diskRoots w (.pointer (some ⟨b0, 0, none⟩)) = [b0, b] := by simp [diskRoots, mapOf_of h]
theorem diskBs_of {w : World} {b0 b : Nat} (h : MPtrAt w b0 b) : diskBs w (.pointer (some ⟨b0, 0, none⟩)) = b0 :: b :: mapBs w b := by simp [diskBs, mapOf_of h]
/-! Rows of pointers at things of their own, and things whose cells hold such. -/
def deepBs (w : World) : Value → List Nat
  | .slice (some a) n _ => a.block :: (match w.heap[a.block]? with
    | some (.cells C _ _) => dBs w none 0 (shownOf C a.off n)
    | _ => [])
  | _ => []
def DeepAt (w : World) (ok : Nat → Prop) (l : List SG) (v : Value) : Prop := DeepRow w ok (fun _ => none) l none v (deepBs w v)
theorem DEnts.free {w : World} {ok : Nat → Prop} {m m' : IMap} : ∀ {l : List SG} {j : Nat} {us : List Value}, DEnts w ok m none j l us → DEnts w ok m' none j l us
  | [], _, _, h => h
  | x :: l, j, _, h => by
    obtain ⟨u, us', rfl, he, h2⟩ := h
    refine ⟨u, us', rfl, .inr ?_, h2.free⟩
    rcases he with ⟨R, b, h5, _⟩ | he
    · cases h5
    · exact he
theorem DRow.free {w : World} {ok : Nat → Prop} {m m' : IMap} {l : List SG} {v : Value} {bs : List Nat} {b off cap : Nat} {C : Array Value} {e : TypeId} (h : DRow w ok m l none v bs b off cap C e) : DRow w ok m' l none v bs b off cap C e :=
  ⟨h.v, h.len, h.cap, h.heap, h.ents.free, h.bs, fun i R e => by cases e⟩
theorem DeepRow.free {w : World} {ok : Nat → Prop} {m m' : IMap} {l : List SG} {v : Value} {bs : List Nat} (h : DeepRow w ok m l none v bs) : DeepRow w ok m' l none v bs := by
  rcases h with h | ⟨b, off, cap, C, e, h⟩
  · exact .inl h
  · exact .inr ⟨b, off, cap, C, e, h.free⟩
theorem DeepRow.bs_eq {w : World} {ok : Nat → Prop} {m : IMap} {l : List SG} {v : Value} {bs : List Nat} (h : DeepRow w ok m l none v bs) : deepBs w v = bs := by
  rcases h with ⟨rfl, _, _, rfl⟩ | ⟨b, off, cap, C, e, h⟩
  · rfl
  · rw [h.v, h.bs]
    simp only [deepBs, h.heap, Option.map_none]
theorem DeepAt.of {w : World} {ok : Nat → Prop} {m : IMap} {l : List SG} {v : Value} {bs : List Nat} (h : DeepRow w ok m l none v bs) : DeepAt w ok l v ∧ deepBs w v = bs := by
  have e := h.bs_eq
  exact ⟨by unfold DeepAt; rw [e]; exact h.free, e⟩
theorem DeepAt.mono {w : World} {ok ok' : Nat → Prop} (hk : Keeps w w ok ok') {l : List SG} {v : Value} (h : DeepAt w ok l v) : DeepAt w ok' l v := DeepRow.mono hk (Ext.refl _) h (fun _ _ => rfl)
/-- What the cells of a thing of one's own hold; the last list: the roots of what was lent. -/
def FReps (w : World) (ok : Nat → Prop) : (fs : List FK) → RD FK.den fs → List Value → List Nat → Prop
  | [], _, us, _ => us = []
  | .imm t :: fs, x, us, bs => ∃ u us', us = u :: us' ∧ t.holds w ok (RD.hd (k := FK.imm t) x) [u] ∧ FReps w ok fs (RD.tl (k := FK.imm t) x) us' bs
  | .row t :: fs, x, us, bs => ∃ u us', us = u :: us' ∧ OwnRow w ok t (RD.hd (k := FK.row t) x) u ∧ FReps w ok fs (RD.tl (k := FK.row t) x) us' bs
  | .segs :: fs, x, us, bs => ∃ u us', us = u :: us' ∧ DeepAt w ok (RD.hd (k := FK.segs) x) u ∧ FReps w ok fs (RD.tl (k := FK.segs) x) us' bs
  | .dsk :: fs, x, us, bs => ∃ b0 b bs' us', bs = b0 :: b :: bs' ∧ us = .pointer (some ⟨b0, 0, none⟩) :: us' ∧ MPtrAt w b0 b ∧ MapAt w (RD.hd (k := FK.dsk) x) b ∧ FReps w ok fs (RD.tl (k := FK.dsk) x) us' bs'
  | .als :: fs, x, us, bs => ∃ b0 bs' us', bs = b0 :: bs' ∧ us = .pointer (some ⟨b0, 0, none⟩) :: us' ∧ FReps w ok fs (RD.tl (k := FK.als) x) us' bs
/-- The blocks behind these cells, but the roots of what was lent. -/
def fOwn (w : World) : List FK → List Value → List Nat → List Nat
  | .row _ :: fs, u :: us, bs => rowBlock u ++ fOwn w fs us bs
  | .segs :: fs, u :: us, bs => deepBs w u ++ fOwn w fs us bs
  | .dsk :: fs, _ :: us, _ :: b :: bs => mapBs w b ++ fOwn w fs us bs
  | .imm _ :: fs, _ :: us, bs => fOwn w fs us bs
  | .als :: fs, _ :: us, bs => fOwn w fs us bs
  | _, _, _ => []
/-- All blocks behind these cells. -/
def fAll (w : World) : List FK → List Value → List Nat
  | .row _ :: fs, u :: us => rowBlock u ++ fAll w fs us
  | .segs :: fs, u :: us => deepBs w u ++ fAll w fs us
  | .dsk :: fs, u :: us => diskBs w u ++ fAll w fs us
  | _ :: fs, _ :: us => fAll w fs us
  | _, _ => []
def fRoots (w : World) : List FK → List Value → List Nat
  | .dsk :: fs, u :: us => diskRoots w u ++ fRoots w fs us
  | _ :: fs, _ :: us => fRoots w fs us
  | _, _ => []
/-- What is left of the roots. -/
def fRest : List FK → List Nat → List Nat
  | [], bs => bs
  | .dsk :: fs, _ :: _ :: bs => fRest fs bs
  | _ :: fs, bs => fRest fs bs
def cellsAt (w : World) (b : Nat) : List Value := match w.heap[b]? with
  | some (.cells C _ _) => C.toList
  | _ => []
theorem cellsAt_of {w : World} {b : Nat} {us : List Value} {e : TypeId} (h : w.heap[b]? = some (.cells us.toArray e (0, 0))) : cellsAt w b = us := by simp [cellsAt, h]
def lentoBs (w : World) (fs : List FK) : Value → List Nat
  | .pointer (some a) => a.block :: fAll w fs (cellsAt w a.block)
  | _ => []
def lentoRoots (w : World) (fs : List FK) : Value → List Nat
  | .pointer (some a) => a.block :: fRoots w fs (cellsAt w a.block)
  | _ => []
def lentoOwn (w : World) (fs : List FK) : Value → List Nat → List Nat
  | .pointer (some a), bs => a.block :: fOwn w fs (cellsAt w a.block) bs
  | _, _ => []
def PRep (P : Program) (w : World) (ok : Nat → Prop) : (p : PK) → p.den → Value → Prop
  | .imm t, x, v => t.holds w ok x [v]
  | .agg t, x, v => ∃ cs, v = .agg cs.toArray ∧ t.holds w ok x cs
  | .lent t, x, v => ∃ b, v = .pointer (some ⟨b, 0, none⟩) ∧ VarAt w ok t x b
  | .lentp t, x, v => ∃ b0 b, v = .pointer (some ⟨b0, 0, none⟩) ∧ PtrAt w b0 b ∧ VarAt w ok t x b
  | .ro t, x, v => ∃ b o C e fr cs, v = .pointer (some ⟨b, o, none⟩) ∧ ok b ∧ w.heap[b]? = some (.cells C e fr) ∧ t.holds w ok x cs ∧ ∀ j u, cs[j]? = some u → C[o + j]? = some u
  | .own t, xs, v => OwnRow w ok t xs v
  | .fn as b, p, v => FnHolds P w ok as b p v
  | .rof as b, p, v => ∃ bl o C e fr u, v = .pointer (some ⟨bl, o, none⟩) ∧ ok bl ∧ w.heap[bl]? = some (.cells C e fr) ∧ C[o]? = some u ∧ FnHolds P w ok as b p u
  | .nilp, _, v => v = .pointer none
  | .nils, _, v => v = .slice none 0 0
  | .nnil t, xs, v => (T.slice t).holds w ok xs [v] ∧ ∃ a n c, v = .slice (some a) n c
  | .blk t, x, v => ∃ A, v = .slice A x.1.length x.2 ∧ OwnRow w ok t x.1 v
  | .ext t, x, v => t.holds w ok x [v]
  | .lrow t, x, v => OwnRow w ok t x v
  | .disk, l, v => ∃ b0 b, v = .pointer (some ⟨b0, 0, none⟩) ∧ MPtrAt w b0 b ∧ MapAt w l b
  | .mapk _, _, _ => False
  | .seqk _, _, _ => False
  | .wend, _, _ => False
  | .iter _, _, _ => False
  | .lento fs, x, v => fieldsFine fs = true ∧ ∃ b us e, v = .pointer (some ⟨b, 0, none⟩) ∧ w.heap[b]? = some (.cells us.toArray e (0, 0)) ∧ FReps w ok fs x us (fRoots w fs us)
  | .zd, _, v => ∃ b C e fr, v = .pointer (some ⟨b, 0, none⟩) ∧ ok b ∧ w.heap[b]? = some (.cells C e fr) ∧ C[0]? = some (.map none)
  | .view, _, v => ∃ A n c, v = .slice A n c ∧ ∀ a, A = some a → ok a.block ∧ a.spot = none ∧ ∃ C e, w.heap[a.block]? = some (.cells C e (0, 0))
def PReps (P : Program) (w : World) (ok : Nat → Prop) : (ps : List PK) → RD PK.den ps → List Value → Prop
  | [], _, vs => vs = []
  | p :: ps, x, vs => ∃ v vs', vs = v :: vs' ∧ PRep P w ok p (RD.hd (k := p) x) v ∧ PReps P w ok ps (RD.tl (k := p) x) vs'
def pblocks (w : World) : List PK → List Value → List Nat
  | .lent _ :: ps, v :: vs => ptrBlock v ++ pblocks w ps vs
  | .lentp _ :: ps, v :: vs => twoBlocks w v ++ pblocks w ps vs
  | .own _ :: ps, v :: vs => rowBlock v ++ pblocks w ps vs
  | .blk _ :: ps, v :: vs => rowBlock v ++ pblocks w ps vs
  | .disk :: ps, v :: vs => diskBs w v ++ pblocks w ps vs
  | .lento fs :: ps, v :: vs => lentoBs w fs v ++ pblocks w ps vs
  | _ :: ps, _ :: vs => pblocks w ps vs
  | _, _ => []
def lblocks (w : World) : List PK → List Value → List Nat
  | .lent _ :: ps, v :: vs => ptrBlock v ++ lblocks w ps vs
  | .lentp _ :: ps, v :: vs => twoBlocks w v ++ lblocks w ps vs
  | .disk :: ps, v :: vs => diskRoots w v ++ lblocks w ps vs
  | .lento fs :: ps, v :: vs => lentoRoots w fs v ++ lblocks w ps vs
  | _ :: ps, _ :: vs => lblocks w ps vs
  | _, _ => []
def vblk : PK → Value → List Nat
  | .view, v => rowBlock v
  | _, _ => []
def vblocks : List PK → List Value → List Nat
  | .view :: ps, v :: vs => rowBlock v ++ vblocks ps vs
  | _ :: ps, _ :: vs => vblocks ps vs
  | _, _ => []
theorem vblocks_cons (p : PK) (ps : List PK) (v : Value) (vs : List Value) : vblocks (p :: ps) (v :: vs) = vblk p v ++ vblocks ps vs := by cases p <;> rfl
def RRep (w : World) (ok : Nat → Prop) : (r : RK) → r.den → Value → Prop
  | .imm t, x, v => t.holds w ok x [v]
  | .agg t, x, v => ∃ cs, v = .agg cs.toArray ∧ t.holds w ok x cs
  | .own t, xs, v => OwnRow w ok t xs v
  | .full t, xs, v => (T.slice t).holds w ok xs [v] ∧ ∃ A, v = .slice A xs.length xs.length
  | .fresh t, x, v => ∃ b, v = .pointer (some ⟨b, 0, none⟩) ∧ VarAt w ok t x b
  | .ofresh t, o, v => (o = none ∧ v = .pointer none) ∨ ∃ x b, o = some x ∧ v = .pointer (some ⟨b, 0, none⟩) ∧ VarAt w ok t x b
  | .nsl t, o, v => (o = none ∧ v = .slice none 0 0) ∨ ∃ xs, o = some xs ∧ (T.slice t).holds w ok xs [v] ∧ ∃ a n c, v = .slice (some a) n c
  | .nilp, _, v => v = .pointer none
  | .nils, _, v => v = .slice none 0 0
  | .back _, _, _ => False
  | .backp _, _, _ => False
  | .backd, _, _ => False
  | .find, _, _ => False
  | .backo _, _, _ => False
  | .ofresho _, _, _ => False
  | .owns, l, v => DeepAt w ok l v
  | .nili, _, v => v = .nilIface
  | .freshd, l, v => ∃ b0 b, v = .pointer (some ⟨b0, 0, none⟩) ∧ MPtrAt w b0 b ∧ MapAt w l b
  | .ofreshd, o, v => (o = none ∧ v = .pointer none) ∨ ∃ l b0 b, o = some l ∧ v = .pointer (some ⟨b0, 0, none⟩) ∧ MPtrAt w b0 b ∧ MapAt w l b
/-- What a search hands back: nothing, or the pointer that stands by a key. -/
def Taken (w : World) (o : Option (List UInt8)) (b : Nat) (v : Value) : Prop := (o = none ∧ v = .pointer none) ∨ ∃ k es clock e, o = some k ∧ w.heap[b]? = some (.map es clock) ∧ e ∈ es.toList ∧ keyOf e.key = k ∧ e.val = v
def RReps (w : World) (ok : Nat → Prop) : (rs : List RK) → RD RK.den rs → List Value → List Nat → Prop
  | [], _, vs, bs => vs = [] ∧ bs = []
  | .back t :: rs, y, vs, bs => ∃ b bs', bs = b :: bs' ∧ VarAt w ok t (RD.hd (k := RK.back t) y) b ∧ RReps w ok rs (RD.tl (k := RK.back t) y) vs bs'
  | .backp t :: rs, y, vs, bs => ∃ b0 b bs', bs = b0 :: b :: bs' ∧ PtrAt w b0 b ∧ VarAt w ok t (RD.hd (k := RK.backp t) y) b ∧ RReps w ok rs (RD.tl (k := RK.backp t) y) vs bs'
  | .backd :: rs, y, vs, bs => ∃ b0 b bs', bs = b0 :: b :: bs' ∧ MPtrAt w b0 b ∧ MapAt w (RD.hd (k := RK.backd) y) b ∧ RReps w ok rs (RD.tl (k := RK.backd) y) vs bs'
  | .find :: rs, y, vs, bs => ∃ b0 b bs' v vs', bs = b0 :: b :: bs' ∧ vs = v :: vs' ∧ MPtrAt w b0 b ∧ MapAt w (RD.hd (k := RK.find) y).1 b ∧ Taken w (RD.hd (k := RK.find) y).2 b v ∧ RReps w ok rs (RD.tl (k := RK.find) y) vs' bs'
  | .backo fs :: rs, y, vs, bs => ∃ b us e bs', bs = b :: bs' ∧ w.heap[b]? = some (.cells us.toArray e (0, 0)) ∧ FReps w ok fs (RD.hd (k := RK.backo fs) y) us bs' ∧ RReps w ok rs (RD.tl (k := RK.backo fs) y) vs (fRest fs bs')
  | .ofresho fs :: rs, y, vs, bs => ∃ v vs', vs = v :: vs' ∧ ((RD.hd (k := RK.ofresho fs) y = none ∧ v = .pointer none) ∨ ∃ x b us e, RD.hd (k := RK.ofresho fs) y = some x ∧ v = .pointer (some ⟨b, 0, none⟩) ∧ fs.any FK.isDsk = false ∧
      w.heap[b]? = some (.cells us.toArray e (0, 0)) ∧ FReps w ok fs x us bs) ∧ RReps w ok rs (RD.tl (k := RK.ofresho fs) y) vs' bs
  | r :: rs, y, vs, bs => ∃ v vs', vs = v :: vs' ∧ RRep w ok r (RD.hd (k := r) y) v ∧ RReps w ok rs (RD.tl (k := r) y) vs' bs
/-- The blocks that come with results; the last list: the roots of what was lent. -/
def rblocks (w : World) : List RK → List Value → List Nat → List Nat
  | .back _ :: rs, vs, _ :: bs => rblocks w rs vs bs
  | .backp _ :: rs, vs, _ :: _ :: bs => rblocks w rs vs bs
  | .backd :: rs, vs, _ :: b :: bs => mapBs w b ++ rblocks w rs vs bs
  | .find :: rs, _ :: vs, _ :: b :: bs => mapBs w b ++ rblocks w rs vs bs
  | .own _ :: rs, v :: vs, bs => rowBlock v ++ rblocks w rs vs bs
  | .fresh _ :: rs, v :: vs, bs => ptrBlock v ++ rblocks w rs vs bs
  | .ofresh _ :: rs, v :: vs, bs => ptrBlock v ++ rblocks w rs vs bs
  | .freshd :: rs, v :: vs, bs => diskBs w v ++ rblocks w rs vs bs
  | .ofreshd :: rs, v :: vs, bs => diskBs w v ++ rblocks w rs vs bs
  | .backo fs :: rs, vs, b :: bs => fOwn w fs (cellsAt w b) bs ++ rblocks w rs vs (fRest fs bs)
  | .ofresho fs :: rs, v :: vs, bs => lentoOwn w fs v bs ++ rblocks w rs vs bs
  | .owns :: rs, v :: vs, bs => deepBs w v ++ rblocks w rs vs bs
  | _ :: rs, _ :: vs, bs => rblocks w rs vs bs
  | _, _, _ => []
def valOf : List Value → Value
  | [v] => v
  | vs => .tuple vs.toArray
def SpecOk [Tabs] (P : Program) (f : FuncId) (s : FSpec) : Prop := Runs P f ∧ ∀ k x y, s.F k x = some y → ∀ (w : World) (ok0 : Nat → Prop) (vals : List Value), (∀ b, ok0 b → b < w.heap.size) → Tabs.fine w ok0 →
  PReps P w ok0 s.ps x vals → (pblocks w s.ps vals ++ vblocks s.ps vals).Nodup → (∀ b ∈ pblocks w s.ps vals, b < w.heap.size ∧ ¬ ok0 b) →
  Calls P f vals.toArray w fun e w' => ∃ vs, e = .returned (valOf vs) ∧ Goes (· ∈ pblocks w s.ps vals) w w' ∧ (rblocks w' s.rs vs (lblocks w s.ps vals) ++ lblocks w s.ps vals).Nodup ∧
    (∀ b ∈ rblocks w' s.rs vs (lblocks w s.ps vals), b < w'.heap.size ∧ (b ∈ pblocks w s.ps vals ∨ w.heap.size ≤ b)) ∧
    RReps w' (fun b => b < w'.heap.size ∧ (ok0 b ∨ b ∈ pblocks w s.ps vals ∨ w.heap.size ≤ b) ∧ b ∉ rblocks w' s.rs vs (lblocks w s.ps vals) ++ lblocks w s.ps vals) s.rs y vs (lblocks w s.ps vals)
/-- A function of the model's own. -/
def PK.outer : PK → Bool
  | .view => true
  | .ext _ => true
  | _ => false
structure XSpec (P : Program) (f : FuncId) (s : FSpec) : Prop where
  ps : s.ps.all PK.outer = true
  many : s.ps ≠ []
  rs : ∃ b, s.rs = [.imm b] ∧ b.flat = true
  run : ∀ k x y, s.F k x = some y → ∀ (w : World) (ok0 : Nat → Prop) (vals : List Value), (∀ b, ok0 b → b < w.heap.size) → PReps P w ok0 s.ps x vals → (vblocks s.ps vals).Nodup →
    ∃ v, (callFunc f vals.toArray).run P w = .ok (.value v) w ∧ RReps w ok0 s.rs y [v] []
/-- A function that turns its row in place keeps its specification. -/
def RowOk1 (P : Program) (f : FuncId) (s : FSpec) : Prop := ∃ (t : T) (F : Nat → RD PK.den [.lrow t] → Option (RD RK.den [.own t])), s = ⟨[.lrow t], [.own t], F⟩ ∧ t.flat = true ∧
  ∀ (k : Nat) (x y : List t.den), F k x = some y → ∀ (w : World) (ok : Nat → Prop) (v : Value), OwnRow w ok t x v → (∀ b ∈ rowBlock v, b < w.heap.size) →
    Calls P f #[v] w fun e w' => e = .returned (.tuple #[]) ∧ Goes (· ∈ rowBlock v) w w' ∧ OwnRow w' ok t y v
/-- A function that hands a map's keys out. -/
def KeysOk (P : Program) (f : FuncId) (s : FSpec) : Prop := ∃ g rs F, s = ⟨[.mapk g], rs, F⟩ ∧ ∀ (w : World) (b : Nat), b < w.heap.size →
  Calls P f #[.map (some b)] w fun e w' => ∃ ty, e = .returned (.func (.func g) #[] #[.pointer (some ⟨w.heap.size, 0, none⟩)]) ∧ w' = w.alloc (.cells #[.map (some b)] ty)
/-- A function that brings a map's keys into order. -/
def SeqOk (P : Program) (f : FuncId) (s : FSpec) : Prop := ∃ (g : Nat) (F : Nat → RD PK.den [.seqk g] → Option (RD RK.den [.own .str])), s = ⟨[.seqk g], [.own .str], F⟩ ∧
  ∀ (k : Nat) (l : FL) (ys : List (List UInt8)), F k l = some ys → ∀ (w : World) (b bx : Nat) (ty : TypeId) (bs : List Nat) (es : Array MapEntry) (clock : Nat), w.heap[bx]? = some (.cells #[.map (some b)] ty (0, 0)) → w.heap[b]? = some (.map es clock) →
    PMap w (fun _ => none) l none bs es clock → Calls P f #[.func (.func g) #[] #[.pointer (some ⟨bx, 0, none⟩)]] w fun e w' => ∃ v, e = .returned v ∧ OwnRow w' (fun _ => True) .str ys v ∧ Below w.heap.size w w' ∧ ∀ n ∈ (Impl.arr v).blocks, w.heap.size ≤ n ∧ n < w'.heap.size
/-- A function that hands out the last one of a row of pointers. -/
def EndOk (P : Program) (f : FuncId) (s : FSpec) : Prop := ∃ rs F, s = ⟨[.wend], rs, F⟩ ∧ ∀ (w : World) (q : Nat) (a : Addr) (u : Value) (e : TypeId), w.heap[q]? = some (.cells #[.pointer (some a), u] e (0, 0)) →
  (∀ cap A, u = .slice A 0 cap → Calls P f #[.pointer (some ⟨q, 0, none⟩)] w fun e w' => e = .returned (.pointer none) ∧ Below w.heap.size w w') ∧
  (∀ (b off n cap : Nat) (C : Array Value) (e' : TypeId) (A : Option Addr), u = .slice (some ⟨b, off, none⟩) (n + 1) cap → n + 1 ≤ 4611686018427387904 → n + 1 ≤ cap → w.heap[b]? = some (.cells C e' (0, 0)) → (∀ i, i < n + 1 → ∃ A, C[off + i]? = some (.pointer A)) → C[off + n]? = some (.pointer A) →
    Calls P f #[.pointer (some ⟨q, 0, none⟩)] w fun e w' => e = .returned (.pointer A) ∧ Below w.heap.size w w')
/-- A closure that hands a list's elements to a loop's body, from the last one on. -/
def BackOk (P : Program) (g : FuncId) (s : FSpec) : Prop := ∃ t rs F, s = ⟨[.iter t], rs, F⟩ ∧ ∀ (l b : Nat) (ok : Nat → Prop) (xs : List t.den) (J : Nat → World → Prop) (W : World), xs.length ≤ 4611686018427387904 →
  (∀ i W, J i W → (T.box g (.slice t)).holds W ok xs [.func (.func g) #[] #[.pointer (some ⟨b, 0, none⟩)]]) → (∀ i W d, J i W → J i { W with drawn := d }) →
  (∀ i x W cs, xs[i]? = some x → J (i + 1) W → t.holds W ok x cs → YieldAt Fence.wide 0 P l #[.int .i64 i, .agg cs.toArray] W fun e W' => e = .returned (.bool true) ∧ J i W') →
  J xs.length W → Calls P g #[.func (.yield l) #[] #[], .pointer (some ⟨b, 0, none⟩)] W fun e W' => (∃ v, e = .returned v) ∧ J 0 W'
def RowOk (P : Program) (f : FuncId) (s : FSpec) : Prop := Runs P f ∧ (RowOk1 P f s ∨ KeysOk P f s ∨ SeqOk P f s ∨ EndOk P f s ∨ BackOk P f s)
def EnvOk [Tabs] (P : Program) (Γ : Env) : Prop := ∀ f s, s ∈ Γ f → (s.row = false → SpecOk P f s ∨ XSpec P f s) ∧ (s.row = true → RowOk P f s)
theorem row_unfit {s : FSpec} (h : s.row = true) : ∀ as cs, closFits s.ps as cs = false := by
  intro as cs
  unfold FSpec.row at h
  split at h
  · rename_i t hp
    rw [hp]; cases as <;> rfl
  · rename_i g hp
    rw [hp]; cases as <;> rfl
  · rename_i g hp
    rw [hp]; cases as <;> rfl
  · rename_i hp
    rw [hp]; cases as <;> rfl
  · rename_i t hp
    rw [hp]; cases as <;> rfl
  · cases h
theorem XSpec.unfit {P : Program} {f : FuncId} {s : FSpec} (h : XSpec P f s) : ∀ as cs, closFits s.ps as cs = false := by
  intro as cs
  have h1 := h.ps
  have h2 := h.many
  cases hp : s.ps with
  | nil => exact absurd hp h2
  | cons p ps =>
    rw [hp] at h1
    simp only [List.all_cons, Bool.and_eq_true] at h1
    cases p <;> simp [PK.outer] at h1 <;> simp [closFits]

/-! ### Handing over -/
section
variable {τ : Tabs} {P : Program} {E : Entry} {m : IMap} {s : St} {a : Act} {w : World}
/-- What a callee may look at: what is fine, and what is shown to it. -/
def okC [Tabs] (E : Entry) (m : IMap) (μ : Nat → Option C) (w : World) (sh : List Nat) (b : Nat) : Prop := okOf E m μ w b ∨ ∃ r ∈ sh, ∃ i, m r = some i ∧ b ∈ i.blocks
theorem keeps_okC (sh : List Nat) : Keeps w w (okOf E m s.mem w) (okC E m s.mem w sh) := Keeps.weaken fun _ h => .inl h
theorem shown_row (h : Rel P E m s a w) {sh : List Nat} {r : Nat} (hr : r ∈ sh) {t : T} {xs : List t.den} (hx : rowOf (s.mem r) = some ⟨t, xs⟩) {v : Value}
    (hv : LRep P w (okOf E m s.mem w) m (.sref r) v) : (T.slice t).holds w (okC E m s.mem w sh) xs [v] := by
  have own : m r = some (.arr v) → OwnRow w (okOf E m s.mem w) t xs v → (T.slice t).holds w (okC E m s.mem w sh) xs [v] := by
    intro hm ho
    rcases ho with ⟨rfl, rfl⟩ | ⟨b, C, e, fr, cap, rfl, h1, h2, h3, h4, h5⟩
    · exact ⟨none, 0, rfl, Nat.le_refl _, .inl ⟨rfl, fun _ => rfl⟩⟩
    · refine ⟨_, cap, rfl, h1, .inr ⟨b, 0, C, e, fr, rfl, .inr ⟨r, hr, _, hm, (by simp [Impl.blocks])⟩, h3, fun i x hi => ?_⟩⟩
      obtain ⟨ds, hd, hj⟩ := h5 i x hi
      exact ⟨ds, T.holds_mono (keeps_okC sh) hd, fun j u hu => by rw [Nat.zero_add]; exact hj j u hu⟩
  simp only [LRep] at hv
  rcases rowOf_some hx with hc | hc <;> (obtain ⟨im, h1, h2, h3⟩ := h.mem _ _ hc; have hm := h1; rw [h1] at hv; rcases hv with hv | hv <;> (simp at hv; subst hv; simp only [CRep] at h2))
  · exact own hm h2
  · exact own hm h2
  · exact T.holds_mono (t := .slice t) (keeps_okC sh) h2.1
/-- A row of pointers is shown: it holds pointers at things that stand. -/
theorem DEnts.shown {w : World} {ok ok' : Nat → Prop} {m : IMap} (hk : Keeps w w ok ok') : ∀ {l : List SG} {j : Nat} {us : List Value}, DEnts w ok m none j l us → (∀ n ∈ dBs w none j us, ok' n) →
    ∀ (i : Nat) (x : Option SG), (l.map some)[i]? = some x → ∃ u : Value, us[i]? = some u ∧ (T.opt sgT).holds w ok' x [u]
  | [], _, _, _, _, i, x, hi => by simp at hi
  | y :: l, j, _, h, hb, i, x, hi => by
    obtain ⟨u, us', rfl, he, h2⟩ := h
    cases i with
    | succ i =>
      simp only [List.map_cons, List.getElem?_cons_succ] at hi ⊢
      exact DEnts.shown hk h2 (fun n hn => hb n (by simp [dBs, hn])) i x hi
    | zero =>
      simp only [List.map_cons, List.getElem?_cons_zero, Option.some.injEq] at hi
      subst hi
      refine ⟨u, rfl, ?_⟩
      rcases he with ⟨R, b, h5, _⟩ | ⟨_, p, v1, v2, e, rfl, h3, h4, h5⟩
      · cases h5
      have hbs : ∀ n ∈ segBs w (.pointer (some ⟨p, 0, none⟩)), ok' n := fun n hn => hb n (by simp [dBs, hn])
      have hs : segBs w (.pointer (some ⟨p, 0, none⟩)) = p :: ((Impl.arr v1).blocks ++ (Impl.arr v2).blocks) := by simp [segBs, h3]
      rw [hs] at hbs
      have row : ∀ {t : T} {xs : List t.den} {v : Value}, OwnRow w ok t xs v → (∀ n ∈ (Impl.arr v).blocks, ok' n) → (T.slice t).holds w ok' xs [v] := by
        intro t xs v ho hb'
        rcases ho with ⟨rfl, rfl⟩ | ⟨b, C, e, fr, cap, rfl, g1, g2, g3, g4, g5⟩
        · exact ⟨none, 0, rfl, Nat.le_refl _, .inl ⟨rfl, fun _ => rfl⟩⟩
        · refine ⟨_, cap, rfl, g1, .inr ⟨b, 0, C, e, fr, rfl, hb' b (by simp [Impl.blocks]), g3, fun i x hi => ?_⟩⟩
          obtain ⟨ds, hd, hj⟩ := g5 i x hi
          exact ⟨ds, T.holds_mono hk hd, fun j u hu => by rw [Nat.zero_add]; exact hj j u hu⟩
      refine .inr ⟨y, p, 0, _, e, _, [.int .i64 y.1, .int .u64 y.2.1, v1, v2], rfl, rfl, hbs p (by simp), h3, ?_, fun j u hu => by simpa using hu⟩
      exact ⟨[_], [_, _, _], rfl, rfl, [_], [_, _], rfl, rfl, [_], [_], rfl, row h4 (fun n hn => hbs n (by simp [hn])), row h5 (fun n hn => hbs n (by simp [hn]))⟩
theorem shown_deep (h : Rel P E m s a w) {sh : List Nat} {r : Nat} (hr : r ∈ sh) {xs : List SG} (hx : s.mem r = some (.segs xs none)) {v : Value}
    (hv : LRep P w (okOf E m s.mem w) m (.dref r) v) : (T.slice (.opt sgT)).holds w (okC E m s.mem w sh) (xs.map some) [v] := by
  obtain ⟨bs, hm⟩ := hv
  obtain ⟨im, h1, h2, h3⟩ := h.mem _ _ hx
  rw [hm] at h1; simp at h1; subst h1
  have hok : ∀ n ∈ bs, okC E m s.mem w sh n := fun n hn => .inr ⟨r, hr, _, hm, hn⟩
  rcases h2.2 with ⟨rfl, rfl, _⟩ | ⟨b, off, cap, C, e, h2⟩
  · exact ⟨none, 0, rfl, Nat.le_refl _, .inl ⟨rfl, fun _ => rfl⟩⟩
  · rw [h2.v]
    rw [h2.bs] at hok
    refine ⟨some ⟨b, off, none⟩, cap, by simp, by simpa using h2.len, .inr ⟨b, off, C, e, _, rfl, hok b (by simp), h2.heap, fun i x hi => ?_⟩⟩
    obtain ⟨u, hu, hu2⟩ := h2.ents.shown (keeps_okC sh) (fun n hn => hok n (by simp [hn])) i x hi
    refine ⟨[u], hu2, fun j u' hj => ?_⟩
    cases j with
    | succ j => simp at hj
    | zero =>
      simp at hj; subst hj
      have hlt : i < xs.length := by have := (List.getElem?_eq_some_iff.1 hi).1; simpa using this
      simp only [shownOf, List.getElem?_take, hlt, if_true, List.getElem?_drop] at hu
      simpa [T.cnt] using hu
theorem shown_leaves (h : Rel P E m s a w) {sh : List Nat} : ∀ {ls ls' : List L} {rs : List Nat} {vs : List Value}, Ev (showLeaves ls) s.mem (ls', rs) → (∀ r ∈ rs, r ∈ sh) → LReps P w (okOf E m s.mem w) m ls vs → LReps P w (okC E m s.mem w sh) m ls' vs ∧ ∀ r ∈ rs, (s.mem r).isSome
  | [], ls', rs, vs, hp, _, hl => by simp only [showLeaves, ev_pure, Prod.mk.injEq] at hp; obtain ⟨rfl, rfl⟩ := hp; exact ⟨hl, by simp⟩
  | l :: ls, ls', rs, vs, hp, hg, hl => by
    obtain ⟨v, vs', rfl, h1, h2⟩ := hl
    have key : Ev ((showLeaves ls).bind fun x => RM.pure (l :: x.1, x.2)) s.mem (ls', rs) → LReps P w (okC E m s.mem w sh) m ls' (v :: vs') ∧ ∀ r ∈ rs, (s.mem r).isSome := by
      intro hp
      rw [ev_bind] at hp
      obtain ⟨⟨b1, b2⟩, hb, hp⟩ := hp
      simp only [ev_pure, Prod.mk.injEq] at hp
      obtain ⟨rfl, rfl⟩ := hp
      obtain ⟨h3, h4⟩ := shown_leaves h hb hg h2
      exact ⟨⟨v, vs', rfl, h1.mono (keeps_okC sh) (Ext.refl m), h3⟩, h4⟩
    cases l
    case sref r =>
      simp only [showLeaves] at hp
      rw [ev_get] at hp
      split at hp
      · rename_i t xs hx
        rw [ev_bind] at hp
        obtain ⟨⟨b1, b2⟩, hb, hp⟩ := hp
        simp only [ev_pure, Prod.mk.injEq] at hp
        obtain ⟨rfl, rfl⟩ := hp
        obtain ⟨h3, h4⟩ := shown_leaves h hb (fun r' hr' => hg r' (by simp [hr'])) h2
        refine ⟨⟨v, vs', rfl, shown_row h (hg r (by simp)) hx h1, h3⟩, fun r' hr' => ?_⟩
        cases hr' with
        | head => rcases rowOf_some hx with hc | hc <;> simp [hc]
        | tail _ hr' => exact h4 r' hr'
      · simp [ev_fail] at hp
    case dref r =>
      simp only [showLeaves] at hp
      rw [ev_get] at hp
      split at hp
      · rename_i xs hx
        rw [ev_bind] at hp
        obtain ⟨⟨b1, b2⟩, hb, hp⟩ := hp
        simp only [ev_pure, Prod.mk.injEq] at hp
        obtain ⟨rfl, rfl⟩ := hp
        obtain ⟨h3, h4⟩ := shown_leaves h hb (fun r' hr' => hg r' (by simp [hr'])) h2
        refine ⟨⟨v, vs', rfl, shown_deep h (hg r (by simp)) hx h1, h3⟩, fun r' hr' => ?_⟩
        cases hr' with
        | head => simp [hx]
        | tail _ hr' => exact h4 r' hr'
      · simp [ev_fail] at hp
    all_goals exact key hp

theorem AKs_len {ok : Nat → Prop} : ∀ {as : List AK} {y : RD AK.den as} {vs : List Value}, AKs w ok as y vs → vs.length = as.length
  | [], _, _, h => by simp only [AKs] at h; subst h; rfl
  | a :: as, _, _, h => by simp only [AKs] at h; obtain ⟨v, vs', rfl, _, h⟩ := h; simp [AKs_len h]
/-- A closure's captured variables. -/
def RoReps (P : Program) (w : World) (ok : Nat → Prop) : List (List L) → List Value → Prop
  | [], vs => vs = []
  | ls :: lss, vs => ∃ b C e us vs', vs = .pointer (some ⟨b, 0, none⟩) :: vs' ∧ ok b ∧ w.heap[b]? = some (.cells C e (0, 0)) ∧ C = us.toArray ∧ ((∀ t x, T.implode t ls = some x → t.holds w ok x us) ∧
      ∀ as b p, ls = [.fn as b p] → ∃ u, us = [u] ∧ FnHolds P w ok as b p u) ∧ RoReps P w ok lss vs'
theorem RoReps.mono {P : Program} {w w' : World} {ok ok' : Nat → Prop} (hk : Keeps w w' ok ok') : ∀ {lss : List (List L)} {vs : List Value}, RoReps P w ok lss vs → RoReps P w' ok' lss vs
  | [], _, h => h
  | ls :: lss, _, h => by
    obtain ⟨b, C, e, us, vs', h1, h2, h3, h4, ⟨h5, h5'⟩, h6⟩ := h
    exact ⟨b, C, e, us, vs', h1, (hk b h2).1, (hk b h2).2 _ _ _ h3, h4, ⟨fun t x hx => T.holds_mono hk (h5 t x hx), fun as b p hp => by
      obtain ⟨u, hu, hf⟩ := h5' as b p hp
      exact ⟨u, hu, FnHolds.mono hk hf⟩⟩, h6.mono hk⟩
theorem closArgs_reps {ok : Nat → Prop} : ∀ {ps : List PK} {as : List AK} {y : RD AK.den as} {caps : List (List L)} {x : RD PK.den ps} {vals vs : List Value}, closArgs ps as y caps = some x → AKs w ok as y vals → RoReps P w ok caps vs →
    PReps P w ok ps x (vals ++ vs) ∧ pblocks w ps (vals ++ vs) = [] ∧ lblocks w ps (vals ++ vs) = [] ∧ vblocks ps (vals ++ vs) = []
  | [], [], y, [], x, vals, vs, h, ha, hr => by
    simp only [AKs] at ha; subst ha
    simp only [RoReps] at hr; subst hr
    exact ⟨rfl, rfl, rfl, rfl⟩
  | .imm t :: ps, ⟨t', false⟩ :: as, y, caps, x, vals, vs, h, ha, hr => by
    simp only [closArgs] at h
    split at h
    · simp at h
    · rename_i z hz
      split at h
      · simp at h
      · rename_i q hq
        simp only [Option.some.injEq] at h; subst h
        simp only [AKs] at ha
        obtain ⟨v, vals', rfl, h1, h2⟩ := ha
        obtain ⟨rfl, rfl⟩ := cast?_some hz
        obtain ⟨h3, h4, h5, h5v⟩ := closArgs_reps hq h2 hr
        have e1 : RD.hd (k := PK.imm t') (RD.mk (k := PK.imm t') (RD.hd (k := (⟨t', false⟩ : AK)) y) q) = RD.hd (k := (⟨t', false⟩ : AK)) y := by cases ps <;> rfl
        have e2 : RD.tl (k := PK.imm t') (RD.mk (k := PK.imm t') (RD.hd (k := (⟨t', false⟩ : AK)) y) q) = q := by cases ps <;> rfl
        refine ⟨⟨v, vals' ++ vs, rfl, ?_, by rw [e2]; exact h3⟩, h4, h5, h5v⟩
        rw [e1]; exact h1
  | .agg t :: ps, ⟨t', true⟩ :: as, y, caps, x, vals, vs, h, ha, hr => by
    simp only [closArgs] at h
    split at h
    · simp at h
    · rename_i z hz
      split at h
      · simp at h
      · rename_i q hq
        simp only [Option.some.injEq] at h; subst h
        simp only [AKs] at ha
        obtain ⟨v, vals', rfl, h1, h2⟩ := ha
        obtain ⟨rfl, rfl⟩ := cast?_some hz
        obtain ⟨h3, h4, h5, h5v⟩ := closArgs_reps hq h2 hr
        have e1 : RD.hd (k := PK.agg t') (RD.mk (k := PK.agg t') (RD.hd (k := (⟨t', true⟩ : AK)) y) q) = RD.hd (k := (⟨t', true⟩ : AK)) y := by cases ps <;> rfl
        have e2 : RD.tl (k := PK.agg t') (RD.mk (k := PK.agg t') (RD.hd (k := (⟨t', true⟩ : AK)) y) q) = q := by cases ps <;> rfl
        refine ⟨⟨v, vals' ++ vs, rfl, ?_, by rw [e2]; exact h3⟩, h4, h5, h5v⟩
        rw [e1]; exact h1
  | .ro t :: ps, [], y, c :: caps, x, vals, vs, h, ha, hr => by
    simp only [closArgs] at h
    split at h
    · simp at h
    · rename_i z hz
      split at h
      · simp at h
      · rename_i q hq
        simp only [Option.some.injEq] at h; subst h
        have ha' : vals = [] := ha
        subst ha'
        obtain ⟨b, C, e, us, vs', rfl, h1, h2, h3, ⟨h4, _⟩, h5⟩ := hr
        obtain ⟨h6, h7, h8, h8v⟩ := closArgs_reps (vals := []) (y := y) hq rfl h5
        have e1 : RD.hd (k := PK.ro t) (RD.mk (k := PK.ro t) z q) = z := by cases ps <;> rfl
        have e2 : RD.tl (k := PK.ro t) (RD.mk (k := PK.ro t) z q) = q := by cases ps <;> rfl
        refine ⟨⟨_, vs', rfl, ?_, by rw [e2]; exact h6⟩, h7, h8, h8v⟩
        rw [e1]
        exact ⟨b, 0, C, e, (0, 0), us, rfl, h1, h2, h4 t z hz, fun j u hu => by subst h3; simpa using hu⟩
  | .rof qs b0 :: ps, [], y, c :: caps, x, vals, vs, h, ha, hr => by
    simp only [closArgs] at h
    split at h
    · rename_i qs' b' p
      split at h
      · rename_i hh
        obtain ⟨rfl, rfl⟩ := hh
        split at h
        · simp at h
        · rename_i q hq
          simp only [Option.some.injEq] at h; subst h
          have ha' : vals = [] := ha
          subst ha'
          obtain ⟨b, C, e, us, vs', rfl, h1, h2, h3, ⟨_, h4⟩, h5⟩ := hr
          obtain ⟨h6, h7, h8, h8v⟩ := closArgs_reps (vals := []) (y := y) hq rfl h5
          obtain ⟨u, hu, hf⟩ := h4 _ _ _ rfl
          have e1 : RD.hd (k := PK.rof qs' b') (RD.mk (k := PK.rof qs' b') p q) = p := by cases ps <;> rfl
          have e2 : RD.tl (k := PK.rof qs' b') (RD.mk (k := PK.rof qs' b') p q) = q := by cases ps <;> rfl
          refine ⟨⟨_, vs', rfl, ?_, by rw [e2]; exact h6⟩, h7, h8, h8v⟩
          rw [e1]
          exact ⟨b, 0, C, e, (0, 0), u, rfl, h1, h2, by subst h3; rw [hu]; rfl, hf⟩
      · simp at h
    · simp at h
theorem caps_reps (h : Rel P E m s a w) {sh : List Nat} : ∀ {cs : List (Nat × Nat)} {lss : List (List L)} {rs : List Nat} {vs : List Value}, Ev (capTypes cs) s.mem (lss, rs) → (∀ r ∈ rs, r ∈ sh) → capHolds m cs vs →
    RoReps P w (okC E m s.mem w sh) lss vs ∧ ∀ r ∈ rs, (s.mem r).isSome
  | [], lss, rs, vs, he, _, hc => by simp only [capTypes, ev_pure, Prod.mk.injEq] at he; obtain ⟨rfl, rfl⟩ := he; exact ⟨hc, by simp⟩
  | (r, off) :: cs, lss, rs, vs, he, hg, hc => by
    simp only [capTypes] at he
    rw [ev_get] at he
    split at he
    · rename_i ls hr
      simp only [ev_bind, ev_pure, Prod.mk.injEq] at he
      obtain ⟨⟨l1, r1⟩, hl, ⟨l2, r2⟩, hl2, rfl, rfl⟩ := he
      obtain ⟨b, vs', hm, rfl, hc'⟩ := hc
      obtain ⟨i, h1, h2, h3⟩ := h.mem r _ hr
      rw [hm] at h1; simp at h1; subst h1
      obtain ⟨us, e, h4, h5⟩ := h2
      obtain ⟨h6, h7⟩ := shown_leaves h (sh := sh) hl (fun r' hr' => hg r' (by simp [hr'])) h5
      obtain ⟨h8, h9⟩ := caps_reps h (sh := sh) hl2 (fun r' hr' => hg r' (by simp [hr'])) hc'
      refine ⟨⟨b, us.toArray, e, us, vs', rfl, .inr ⟨r, hg r (by simp), _, hm, (by simp [Impl.blocks])⟩, h4, rfl, ⟨fun t x hx => implode_holds hx h6, fun as b p hp => by
        subst hp
        obtain ⟨u, us', hu, hf, hn⟩ := h6
        simp only [LReps] at hn; subst hn
        exact ⟨u, hu, hf⟩⟩, h8⟩, fun r' hr' => ?_⟩
      simp only [List.mem_cons, List.mem_append] at hr'
      rcases hr' with rfl | hr' | hr'
      · simp [hr]
      · exact h7 r' hr'
      · exact h9 r' hr'
    · simp [ev_fail] at he
theorem single_holds {ok : Nat → Prop} : ∀ {rs : List RK} {b : T} {y : RD RK.den rs} {r : b.den} {vs : List Value}, single? rs b y = some r → RReps w ok rs y vs [] → ∃ v, vs = [v] ∧ b.holds w ok r [v] := by
  intro rs b y r vs h hR
  unfold single? at h
  split at h
  · obtain ⟨rfl, rfl⟩ := cast?_some h
    obtain ⟨v', vs', rfl, h6, h7, _⟩ := hR
    subst h7
    exact ⟨v', rfl, h6⟩
  · simp at h
theorem clos_holds (h : Rel P E m s a w) {Γ : Env} (hΓ : EnvOk P Γ) {sh : List Nat} {f : FuncId} {caps : List (Nat × Nat)} {v : Value} (hv : LRep P w (okOf E m s.mem w) m (.clos f caps) v) {sp : FSpec} (hs : sp ∈ Γ f) {k : Nat} {as : List AK} {b : T} (hfit : ∃ cs, closFits sp.ps as cs = true)
    {lss : List (List L)} {rs : List Nat} (he : Ev (capTypes caps) s.mem (lss, rs)) (hg : ∀ r ∈ rs, r ∈ sh) : FnHolds P w (okC E m s.mem w sh) as b (closFn k sp as b lss) v := by
  obtain ⟨cvs, rfl, hc⟩ := hv
  obtain ⟨h1, h2⟩ := caps_reps h he hg hc
  have hnr : sp.row = false := by
    cases hr : sp.row with
    | false => rfl
    | true => obtain ⟨cs, hf⟩ := hfit; rw [row_unfit hr] at hf; cases hf
  obtain ⟨hrun, hsp⟩ := ((hΓ f sp hs).1 hnr).resolve_right (fun hx => by
    obtain ⟨cs, hf⟩ := hfit
    rw [hx.unfit] at hf; cases hf)
  refine ⟨f, cvs.toArray, rfl, hrun, fun w' ok' hk hlt y vals ha r hr => ?_⟩
  unfold closFn at hr
  split at hr
  · simp at hr
  · rename_i x hx
    rw [Option.bind_eq_some_iff] at hr
    obtain ⟨z, hz, hr⟩ := hr
    obtain ⟨h3, h4, h5, h5v⟩ := closArgs_reps (P := P) hx ha (h1.mono hk)
    have := hsp k x z hz w' ok' (vals ++ cvs) hlt ((h.fine.mono fun b hb => .inl hb).keeps hk) h3 (by rw [h4, h5v]; exact List.nodup_nil) (by rw [h4]; simp)
    have e : vals.toArray ++ cvs.toArray = (vals ++ cvs).toArray := by simp
    rw [e]
    refine this.mono fun e' w'' ⟨vs, he', hgo, _, _, hR⟩ => ?_
    rw [h4] at hgo hR
    rw [h5] at hR
    obtain ⟨v', hv', h6⟩ := single_holds hr hR
    subst hv'
    refine ⟨v', he', (Goes.below ⟨hgo.os, hgo.tape, hgo.output, hgo.size, fun b hb _ => hgo.block b hb (by simp)⟩), T.holds_mono (Keeps.weaken fun n hn => ?_) h6⟩
    rcases hn.2.1 with h8 | h8 | h8
    · exact .inl h8
    · simp at h8
    · exact .inr ⟨h8, hn.1⟩
end
end Go.GG

/- Calls: what is handed over, and what comes back. -/
namespace Go.GG
open Go.RowKit
section
variable {τ : Tabs} {P : Program} {E : Entry} {m : IMap} {s : St} {a : Act} {w : World}

/-- The blocks behind references. -/
def blk (m : IMap) (r : Nat) : List Nat := match m r with
  | some i => i.blocks
  | none => []
def blks (m : IMap) (rs : List Nat) : List Nat := rs.flatMap (blk m)
theorem mem_blk {m : IMap} {r b : Nat} (h : b ∈ blk m r) : ∃ i, m r = some i ∧ b ∈ i.blocks := by
  unfold blk at h
  split at h
  · rename_i i hi
    exact ⟨i, hi, h⟩
  · simp at h
theorem mem_blks {m : IMap} {rs : List Nat} {b : Nat} (h : b ∈ blks m rs) : ∃ r ∈ rs, ∃ i, m r = some i ∧ b ∈ i.blocks := by
  simp only [blks, List.mem_flatMap] at h
  obtain ⟨r, hr, hb⟩ := h
  exact ⟨r, hr, mem_blk hb⟩
theorem Impl.nodup {i : Impl} (h : i.shape) : i.blocks.Nodup := by
  cases i with
  | var b => simp [Impl.blocks]
  | arr v => obtain ⟨A, n, c, rfl⟩ := h; cases A <;> simp [Impl.blocks]
  | shr v => simp [Impl.blocks]
  | blk A c => cases A <;> simp [Impl.blocks]
  | obj b bs => exact h
  | deep v bs => exact h.1
theorem blk_nodup {m : IMap} (h : ∀ r i, m r = some i → i.shape) (r : Nat) : (blk m r).Nodup := by
  unfold blk
  split
  · rename_i i hi; exact Impl.nodup (h r i hi)
  · simp
/-- The first block of what a reference stands for: a lent one keeps it. -/
def Impl.roots : Impl → List Nat
  | .obj b _ => [b]
  | i => i.blocks
def rt (m : IMap) (r : Nat) : List Nat := match m r with
  | some i => i.roots
  | none => []
def rts (m : IMap) (rs : List Nat) : List Nat := rs.flatMap (rt m)
theorem roots_sub (i : Impl) : i.roots.Sublist i.blocks := by
  cases i with
  | obj b bs => simp [Impl.roots, Impl.blocks]
  | _ => exact List.Sublist.refl _
theorem rt_sub (m : IMap) (r : Nat) : (rt m r).Sublist (blk m r) := by
  unfold rt blk
  split
  · exact roots_sub _
  · exact List.Sublist.refl _
theorem rts_sub (m : IMap) : ∀ rs : List Nat, (rts m rs).Sublist (blks m rs)
  | [] => List.Sublist.refl _
  | r :: rs => by simp only [rts, blks, List.flatMap_cons]; exact List.Sublist.append (rt_sub m r) (rts_sub m rs)
theorem nodup_iff : ∀ {l : List Nat}, nodup l = true → l.Nodup
  | [], _ => List.nodup_nil
  | a :: l, h => by
    simp only [nodup, Bool.and_eq_true, Bool.not_eq_true', List.contains_eq_mem, decide_eq_false_iff_not] at h
    exact List.nodup_cons.2 ⟨h.1, nodup_iff h.2⟩
theorem Rel.blks_nodup (h : Rel P E m s a w) : ∀ {rs : List Nat}, rs.Nodup → (∀ r ∈ rs, (s.mem r).isSome) → (blks m rs).Nodup
  | [], _, _ => List.nodup_nil
  | r :: rs, hn, ha => by
    rw [List.nodup_cons] at hn
    simp only [blks, List.flatMap_cons]
    refine List.nodup_append.2 ⟨blk_nodup h.shape r, h.blks_nodup hn.2 (fun r' hr' => ha r' (by simp [hr'])), fun b hb b' hb' e => ?_⟩
    subst e
    obtain ⟨i, hi, hib⟩ := mem_blk hb
    obtain ⟨r', hr', i', hi', hib'⟩ := mem_blks hb'
    obtain ⟨c, hc⟩ := Option.isSome_iff_exists.1 (ha r (by simp))
    obtain ⟨c', hc'⟩ := Option.isSome_iff_exists.1 (ha r' (by simp [hr']))
    have := h.inj r r' c c' i i' b hc hc' hi hi' hib hib'
    subst this
    exact hn.1 hr'

def pblk (w : World) : PK → Value → List Nat
  | .lent _, v => ptrBlock v
  | .lentp _, v => twoBlocks w v
  | .own _, v => rowBlock v
  | .blk _, v => rowBlock v
  | .disk, v => diskBs w v
  | .lento fs, v => lentoBs w fs v
  | _, _ => []
def lblk (w : World) : PK → Value → List Nat
  | .lent _, v => ptrBlock v
  | .lentp _, v => twoBlocks w v
  | .disk, v => diskRoots w v
  | .lento fs, v => lentoRoots w fs v
  | _, _ => []
theorem pblocks_cons (w : World) (p : PK) (ps : List PK) (v : Value) (vs : List Value) : pblocks w (p :: ps) (v :: vs) = pblk w p v ++ pblocks w ps vs := by cases p <;> rfl
theorem lblocks_cons (w : World) (p : PK) (ps : List PK) (v : Value) (vs : List Value) : lblocks w (p :: ps) (v :: vs) = lblk w p v ++ lblocks w ps vs := by cases p <;> rfl

theorem rowBlock_of {v : Value} (h : (Impl.arr v).shape) : rowBlock v = (Impl.arr v).blocks := by
  obtain ⟨A, n, c, rfl⟩ := h
  cases A <;> rfl
/-- What handing one argument over says. -/
structure Hands (P : Program) (m : IMap) (s : St) (w : World) (ok : Nat → Prop) (α : PK) (h : Handed α.den) (v : Value) : Prop where
  rep : PRep P w ok α h.x v
  pb : pblk w α v = blks m h.refs
  lb : lblk w α v = rts m h.lent
  alive : ∀ r ∈ h.refs ++ h.shown, (s.mem r).isSome
  var : ∀ r ∈ h.lent, ∃ b, m r = some (.var b) ∨ ∃ bs, m r = some (.obj b bs)
  sub : ∀ r, r ∈ h.refs ↔ r ∈ h.given ∨ r ∈ h.lent
  vb : (vblk α v).Sublist (blks m h.shown)
  lentSub : h.lent.Sublist h.refs
theorem view_hands (_h : Rel P E m s a w) {sh : List Nat} {r : Nat} {t : T} {xs : List t.den} (hr : rowAll (s.mem r) = some ⟨t, xs⟩) (hu : t ≠ .int .u8) (hin : r ∈ sh) {A : Option Addr} {k0 n c c' : Nat} {v : Value}
    (ho : OwnRow w (okOf E m s.mem w) t xs (.slice A xs.length c)) (hv : v = .slice (A.map (·.add k0)) n c') {im : Impl} (him : m r = some im) (hblk : im.blocks = (A.map (·.block)).toList) :
    Hands P m s w (okC E m s.mem w sh) .view ⟨(), [], [], [], [r]⟩ v := by
  have hsome : (s.mem r).isSome := by
    unfold rowAll at hr
    cases hc : s.mem r with
    | none => rw [hc] at hr; cases hr
    | some d => rfl
  subst hv
  refine ⟨⟨_, n, _, rfl, fun ad had => ?_⟩, rfl, rfl, by simpa using hsome, by simp, by simp, ?_, by simp⟩
  · rcases ho with ⟨h1, h2⟩ | ⟨b, C, e, fr, cap, h1, _, h3, hh, hfr, _⟩
    · simp only [Value.slice.injEq] at h1
      obtain ⟨rfl, _, _⟩ := h1
      simp at had
    · simp only [Value.slice.injEq] at h1
      obtain ⟨rfl, _, rfl⟩ := h1
      have hb : ad.block = b ∧ ad.spot = none := by
        simp only [Option.map_some, add_plain, Option.some.injEq] at had; subst had; exact ⟨rfl, rfl⟩
      have hfr : fr = (0, 0) := hfr.resolve_right (fun hh => hu hh.2)
      subst hfr
      refine ⟨.inr ⟨r, hin, im, him, by rw [hblk, hb.1]; simp⟩, hb.2, C, e, by rw [hb.1]; exact hh⟩
  · show (rowBlock _).Sublist _
    cases A with
    | none => exact List.nil_sublist _
    | some ad => 
      simp only [Option.map_some, rowBlock, blks, List.flatMap_cons, List.flatMap_nil, List.append_nil]
      simp only [blk, him, hblk, Option.map_some]
      have hb : (ad.add k0).block = ad.block := by
        rcases ho with ⟨h1, _⟩ | ⟨b, C, e, fr, cap, h1, _⟩
        · simp at h1
        · simp only [Value.slice.injEq, Option.some.injEq] at h1
          obtain ⟨rfl, _⟩ := h1
          rw [add_plain]
      rw [hb]
      exact List.Sublist.refl _
theorem row_rm (h : Rel P E m s a w) {t : T} {l : L} {xs : List t.den} {rs : List Nat} {v : Value} (he : Ev (rowRM t l) s.mem (xs, rs)) (hl : LRep P w (okOf E m s.mem w) m l v) :
    OwnRow w (okOf E m s.mem w) t xs v ∧ rowBlock v = blks m rs ∧ ∀ r ∈ rs, (s.mem r).isSome := by
  unfold rowRM at he
  split at he
  · rename_i r
    rw [ev_get] at he
    split at he
    · rename_i t' ys hr
      split at he
      · rename_i y hy
        rw [ev_pure] at he
        simp only [Prod.mk.injEq] at he
        obtain ⟨rfl, rfl⟩ := he
        obtain ⟨e, hy⟩ := cast?_some hy
        cases e; subst hy
        obtain ⟨i, h1, h2, h3⟩ := h.mem r _ hr
        simp only [LRep] at hl
        rw [h1] at hl
        rcases hl with hl | hl <;> (simp at hl; subst hl; simp only [CRep] at h2)
        refine ⟨h2, ?_, by simp [hr]⟩
        simp only [blks, List.flatMap_cons, List.flatMap_nil, List.append_nil, blk, h1]
        exact rowBlock_of (h.shape r _ h1)
      · simp [ev_fail] at he
    · simp [ev_fail] at he
  · rw [ev_pure] at he
    simp only [Prod.mk.injEq] at he
    obtain ⟨rfl, rfl⟩ := he
    simp only [LRep] at hl; subst hl
    exact ⟨.inl ⟨rfl, rfl⟩, rfl, by simp⟩
  · simp [ev_fail] at he
/-- What handing the fields of a thing of one's own over says. -/
structure HandsF (P : Program) (m : IMap) (s : St) (w : World) (ok : Nat → Prop) (fs : List FK) (h : Handed (RD FK.den fs)) (us : List Value) : Prop where
  rep : FReps w ok fs h.x us (fRoots w fs us)
  pb : fAll w fs us = blks m h.refs
  lb : fRoots w fs us = rts m h.lent
  alive : ∀ r ∈ h.refs, (s.mem r).isSome
  var : ∀ r ∈ h.lent, ∃ b, m r = some (.var b) ∨ ∃ bs, m r = some (.obj b bs)
  sub : ∀ r, r ∈ h.refs ↔ r ∈ h.given ∨ r ∈ h.lent
  shown : h.shown = []
  lentSub : h.lent.Sublist h.refs
theorem hdF_mk {k : FK} {r : List FK} (a : k.den) (b : RD FK.den r) : RD.hd (k := k) (RD.mk (k := k) a b) = a := by cases r <;> rfl
theorem tlF_mk {k : FK} {r : List FK} (a : k.den) (b : RD FK.den r) : RD.tl (k := k) (RD.mk (k := k) a b) = b := by cases r <;> rfl
theorem blks_append (m : IMap) (a b : List Nat) : blks m (a ++ b) = blks m a ++ blks m b := by simp [blks]
theorem hand_F (h : Rel P E m s a w) {ok : Nat → Prop} (kc : Keeps w w (okOf E m s.mem w) ok) : ∀ {fs : List FK} {ls : List L} {x : Handed (RD FK.den fs)} {us : List Value}, Ev (handF fs ls) s.mem x → LReps P w (okOf E m s.mem w) m ls us → HandsF P m s w ok fs x us
  | [], [], x, us, he, hl => by
    simp only [handF, ev_pure] at he; subst he
    simp only [LReps] at hl; subst hl
    exact ⟨rfl, rfl, rfl, by simp, by simp, by simp, rfl, by simp⟩
  | .imm t :: fs, l :: ls, x, _, he, hl => by
    obtain ⟨u, us, rfl, h1, h2⟩ := hl
    simp only [handF] at he
    rcases ev_cond.1 he with ⟨_, he⟩ | ⟨_, he⟩
    case inr => simp [ev_fail] at he
    simp only [ev_bind, ev_lift, ev_pure] at he
    obtain ⟨y, hy, b, hb, rfl⟩ := he
    have g := hand_F h kc hb h2
    exact ⟨⟨u, us, rfl, by rw [hdF_mk]; exact T.holds_mono kc (leafVal?_holds hy h1), by rw [tlF_mk]; exact g.rep⟩, g.pb, g.lb, g.alive, g.var, g.sub, rfl, g.lentSub⟩
  | .row t :: fs, l :: ls, x, _, he, hl => by
    obtain ⟨u, us, rfl, h1, h2⟩ := hl
    simp only [handF, ev_bind, ev_pure] at he
    obtain ⟨⟨y, rs⟩, hy, b, hb, rfl⟩ := he
    have g := hand_F h kc hb h2
    obtain ⟨g1, g2, g3⟩ := row_rm h hy h1
    refine ⟨⟨u, us, rfl, by rw [hdF_mk]; exact g1.mono kc (fun _ _ => rfl), by rw [tlF_mk]; exact g.rep⟩, ?_, g.lb, fun r hr => ?_, g.var, fun r => ?_, rfl, g.lentSub.trans (List.sublist_append_right _ _)⟩
    · simp only [fAll, blks_append, g2, g.pb]
    · rcases List.mem_append.1 hr with hr | hr
      · exact g3 r hr
      · exact g.alive r hr
    · simp only [List.mem_append, g.sub, or_assoc]
  | .segs :: fs, l :: ls, x, _, he, hl => by
    obtain ⟨u, us, rfl, h1, h2⟩ := hl
    cases l <;> simp only [handF, ev_fail] at he
    case nils =>
      simp only [ev_bind, ev_pure] at he
      obtain ⟨b, hb, rfl⟩ := he
      have g := hand_F h kc hb h2
      simp only [LRep] at h1; subst h1
      exact ⟨⟨_, us, rfl, by rw [hdF_mk]; exact .inl ⟨rfl, rfl, rfl, rfl⟩, by rw [tlF_mk]; exact g.rep⟩, g.pb, g.lb, g.alive, g.var, g.sub, rfl, g.lentSub⟩
    case dref r =>
      rw [ev_get] at he
      split at he
      case h_2 => simp [ev_fail] at he
      rename_i xs hr
      simp only [ev_bind, ev_pure] at he
      obtain ⟨b, hb, rfl⟩ := he
      have g := hand_F h kc hb h2
      obtain ⟨bs, hm⟩ := h1
      obtain ⟨i, k1, k2, k3⟩ := h.mem r _ hr
      rw [hm] at k1; simp at k1; subst k1
      obtain ⟨k4, k5⟩ := DeepAt.of k2.2
      have hb : blk m r = bs := by simp [blk, hm, Impl.blocks]
      refine ⟨⟨u, us, rfl, by rw [hdF_mk]; exact k4.mono kc, by rw [tlF_mk]; exact g.rep⟩, ?_, g.lb, fun q hq => ?_, g.var, fun q => ?_, rfl, g.lentSub.cons _⟩
      · simp only [fAll, blks, List.flatMap_cons, k5, hb]
        rw [g.pb]; rfl
      · rcases List.mem_cons.1 hq with rfl | hq
        · simp [hr]
        · exact g.alive q hq
      · simp only [List.mem_cons, g.sub, or_assoc]
  | .dsk :: fs, l :: ls, x, _, he, hl => by
    obtain ⟨u, us, rfl, h1, h2⟩ := hl
    cases l <;> try (simp only [handF, ev_fail] at he; done)
    rename_i r o
    cases o
    case succ => simp only [handF, ev_fail] at he
    simp only [handF] at he
    rw [ev_get] at he
    split at he
    case h_2 => simp [ev_fail] at he
    rename_i r' hr
    rw [ev_get] at he
    split at he
    case h_2 => simp [ev_fail] at he
    rename_i l hr'
    simp only [ev_bind, ev_pure] at he
    obtain ⟨b, hb, rfl⟩ := he
    have g := hand_F h kc hb h2
    obtain ⟨b0, hm, rfl⟩ := h1
    obtain ⟨i, k1, k2, k3⟩ := h.mem r _ hr
    rw [hm] at k1; simp at k1; subst k1
    obtain ⟨us0, e0, k4, k5⟩ := k2
    obtain ⟨v0, vs0, rfl, ⟨bl, hm', rfl⟩, k6⟩ := k5
    simp only [LReps] at k6; subst k6
    obtain ⟨i', j1, j2, j3⟩ := h.mem r' _ hr'
    obtain ⟨bs, hmo⟩ : ∃ bs, m r' = some (.obj bl bs) := by
      rcases hm' with hm' | hm'
      · rw [hm'] at j1; simp at j1; subst j1; exact j2.elim
      · exact hm'
    rw [hmo] at j1; simp at j1; subst j1
    obtain ⟨hnd, es, clock, j7, j8⟩ := j2
    have hp : MPtrAt w b0 bl := ⟨e0, by simpa using k4⟩
    obtain ⟨j9, j10⟩ := MapAt.of j7 j8
    have hb0 : blk m r = [b0] := by simp [blk, hm, Impl.blocks]
    have hbl : blk m r' = bl :: bs := by simp [blk, hmo, Impl.blocks]
    have hrt0 : rt m r = [b0] := by simp [rt, hm, Impl.roots, Impl.blocks]
    have hrt : rt m r' = [bl] := by simp [rt, hmo, Impl.roots]
    refine ⟨?_, ?_, ?_, fun q hq => ?_, fun q hq => ?_, fun q => ?_, rfl, (g.lentSub.cons_cons _).cons_cons _⟩
    · simp only [fRoots, diskRoots_of hp]
      exact ⟨b0, bl, _, us, rfl, rfl, hp, by rw [hdF_mk]; exact j9, by rw [tlF_mk]; exact g.rep⟩
    · simp only [fAll, diskBs_of hp, j10, blks, List.flatMap_cons, hb0, hbl]
      rw [g.pb]; rfl
    · simp only [fRoots, diskRoots_of hp, rts, List.flatMap_cons, hrt0, hrt]
      rw [g.lb]; rfl
    · simp only [List.mem_cons] at hq
      rcases hq with rfl | rfl | hq
      · simp [hr]
      · simp [hr']
      · exact g.alive q hq
    · simp only [List.mem_cons] at hq
      rcases hq with rfl | rfl | hq
      · exact ⟨_, .inl hm⟩
      · exact ⟨_, .inr ⟨_, hmo⟩⟩
      · exact g.var q hq
    · simp only [List.mem_cons, g.sub]
      constructor
      · rintro (h | h | h | h) <;> simp [h]
      · rintro (h | h | h | h) <;> simp [h]
  | .als :: _, _ :: _, _, _, he, _ => by simp [handF, ev_fail] at he
  | [], _ :: _, _, _, he, _ => by simp [handF, ev_fail] at he
  | .imm _ :: _, [], _, _, he, _ => by simp [handF, ev_fail] at he
  | .row _ :: _, [], _, _, he, _ => by simp [handF, ev_fail] at he
  | .segs :: _, [], _, _, he, _ => by simp [handF, ev_fail] at he
  | .dsk :: _, [], _, _, he, _ => by simp [handF, ev_fail] at he
  | .als :: _, [], _, _, he, _ => by simp [handF, ev_fail] at he
theorem hand_one (h : Rel P E m s a w) {Γ : Env} (hΓ : EnvOk P Γ) {k : Nat} {sh : List Nat} : ∀ {p : PK} {l : L} {x : Handed p.den} {v : Value}, Ev (handOne Γ k p l) s.mem x → (∀ r ∈ x.shown, r ∈ sh) →
    LRep P w (okOf E m s.mem w) m l v → Hands P m s w (okC E m s.mem w sh) p x v := by
  intro p l x v he hg hl
  have kc : Keeps w w (okOf E m s.mem w) (okC E m s.mem w sh) := keeps_okC sh
  unfold handOne at he
  split at he
  · -- imm, sref
    rename_i t r
    rw [ev_get] at he
    split at he
    · rename_i t' xs hx
      split at he
      · rename_i y hy
        rw [ev_pure] at he; subst he
        obtain ⟨rfl, rfl⟩ := cast?_some hy
        exact ⟨shown_row h (hg r (by simp)) hx hl, rfl, rfl, fun r' hr' => by simp at hr'; subst hr'; rcases rowOf_some hx with hc | hc <;> simp [hc], by simp, by simp, List.nil_sublist _, by simp⟩
      · simp [ev_fail] at he
    · simp [ev_fail] at he
  · -- imm, dref
    rename_i t r
    rw [ev_get] at he
    split at he
    · rename_i xs hx
      simp only [ev_bind, ev_lift, ev_pure] at he
      obtain ⟨y, hy, rfl⟩ := he
      obtain ⟨rfl, rfl⟩ := cast?_some hy
      exact ⟨shown_deep h (hg r (by simp)) hx hl, rfl, rfl, by simp [hx], by simp, by simp, List.nil_sublist _, by simp⟩
    · simp [ev_fail] at he
  · -- imm
    rename_i t l _ _
    rw [ev_bind] at he
    obtain ⟨y, hy, he⟩ := he
    rw [ev_lift] at hy
    rw [ev_pure] at he; subst he
    exact ⟨T.holds_mono kc (leafVal?_holds hy hl), rfl, rfl, by simp, by simp, by simp, List.nil_sublist _, by simp⟩
  · -- agg
    rename_i t ls
    simp only [ev_bind, ev_lift, ev_pure] at he
    obtain ⟨⟨ls', rs⟩, h1, y, hy, rfl⟩ := he
    obtain ⟨vs, rfl, hvs⟩ := hl
    obtain ⟨h2, h3⟩ := shown_leaves h (sh := sh) h1 hg hvs
    exact ⟨⟨vs, rfl, implode_holds hy h2⟩, rfl, rfl, by simpa using h3, by simp, by simp, List.nil_sublist _, by simp⟩
  · -- lent
    rename_i t r
    rw [ev_get] at he
    split at he
    · rename_i ls hr
      simp only [ev_bind, ev_lift, ev_pure] at he
      obtain ⟨y, hy, rfl⟩ := he
      obtain ⟨b, hm, rfl⟩ := hl
      obtain ⟨i, h1, h2, h3⟩ := h.mem r _ hr
      rw [hm] at h1; simp at h1; subst h1
      obtain ⟨us, e, h4, h5⟩ := h2
      have hb : blk m r = [b] := by simp [blk, hm, Impl.blocks]
      have hrt : rt m r = [b] := by simp [rt, hm, Impl.roots, Impl.blocks]
      exact ⟨⟨b, rfl, us, e, h4, T.holds_mono kc (implode_holds hy h5)⟩, by simp [pblk, ptrBlock, blks, hb], by simp [lblk, ptrBlock, rts, hrt], by simp [hr], by simp [hm], by simp, List.nil_sublist _, by simp⟩
    · simp [ev_fail] at he
  · -- lentp
    rename_i t r
    rw [ev_get] at he
    split at he
    · rename_i r' hr
      rw [ev_get] at he
      split at he
      · rename_i ls hr'
        simp only [ev_bind, ev_lift, ev_pure] at he
        obtain ⟨y, hy, rfl⟩ := he
        obtain ⟨b0, hm, rfl⟩ := hl
        obtain ⟨i, h1, h2, h3⟩ := h.mem r _ hr
        rw [hm] at h1; simp at h1; subst h1
        obtain ⟨us0, e0, h4, h5⟩ := h2
        obtain ⟨v0, vs0, rfl, ⟨b, hm', rfl⟩, h6⟩ := h5
        simp only [LReps] at h6; subst h6
        obtain ⟨i', h1', h2', h3'⟩ := h.mem r' _ hr'
        rw [hm'] at h1'; simp at h1'; subst h1'
        obtain ⟨us, e, h7, h8⟩ := h2'
        have hp : PtrAt w b0 b := ⟨e0, by simpa using h4⟩
        have hb0 : blk m r = [b0] := by simp [blk, hm, Impl.blocks]
        have hb : blk m r' = [b] := by simp [blk, hm', Impl.blocks]
        have hrt0 : rt m r = [b0] := by simp [rt, hm, Impl.roots, Impl.blocks]
        have hrt : rt m r' = [b] := by simp [rt, hm', Impl.roots, Impl.blocks]
        refine ⟨⟨b0, b, rfl, hp, us, e, h7, T.holds_mono kc (implode_holds hy h8)⟩, by simp [pblk, twoBlocks_of hp, blks, hb, hb0], by simp [lblk, twoBlocks_of hp, rts, hrt, hrt0], fun q hq => ?_, fun q hq => ?_, by simp, List.nil_sublist _, by simp⟩
        · simp only [List.append_nil, List.mem_cons, List.not_mem_nil, or_false] at hq
          rcases hq with rfl | rfl
          · simp [hr]
          · simp [hr']
        · simp only [List.mem_cons, List.not_mem_nil, or_false] at hq
          rcases hq with rfl | rfl
          · exact ⟨_, .inl hm⟩
          · exact ⟨_, .inl hm'⟩
      · simp [ev_fail] at he
    · simp [ev_fail] at he
  · -- ro, eptr
    rename_i t t' x0
    simp only [ev_bind, ev_lift, ev_pure] at he
    obtain ⟨y, hy, rfl⟩ := he
    obtain ⟨rfl, rfl⟩ := cast?_some hy
    obtain ⟨b, o, C, e, fr, cs, rfl, h2, h3, h4, h5⟩ := hl
    exact ⟨⟨b, o, C, e, fr, cs, rfl, .inl h2, h3, T.holds_mono kc h4, h5⟩, rfl, rfl, by simp, by simp, by simp, List.nil_sublist _, by simp⟩
  · -- ro, ptr
    rename_i t r
    rw [ev_get] at he
    split at he
    · rename_i ls hr
      simp only [ev_bind, ev_lift, ev_pure] at he
      obtain ⟨⟨ls', rs⟩, h1, y, hy, rfl⟩ := he
      obtain ⟨b, hm, rfl⟩ := hl
      obtain ⟨i, h1', h2, h3⟩ := h.mem r _ hr
      rw [hm] at h1'; simp at h1'; subst h1'
      obtain ⟨us, e, h4, h5⟩ := h2
      obtain ⟨h6, h7⟩ := shown_leaves h (sh := sh) h1 (fun r' hr' => hg r' (by simp [hr'])) h5
      refine ⟨⟨b, 0, _, e, _, us, rfl, .inr ⟨r, hg r (by simp), _, hm, by simp [Impl.blocks]⟩, h4, implode_holds hy h6, fun j u hu => by simpa using hu⟩, rfl, rfl, fun r' hr' => ?_, by simp, by simp, List.nil_sublist _, by simp⟩
      simp at hr'
      rcases hr' with rfl | hr'
      · simp [hr]
      · exact h7 r' hr'
    · simp [ev_fail] at he
  · -- own, sref
    rename_i t r
    rw [ev_get] at he
    split at he
    · rename_i t' xs hr
      split at he
      · rename_i y hy
        rw [ev_pure] at he; subst he
        obtain ⟨e, he⟩ := cast?_some hy
        cases e; subst he
        obtain ⟨i, h1, h2, h3⟩ := h.mem r _ hr
        simp only [LRep] at hl
        rw [h1] at hl
        rcases hl with hl | hl <;> (simp at hl; subst hl; simp only [CRep] at h2)
        refine ⟨h2.mono kc (fun _ _ => rfl), ?_, rfl, by simp [hr], by simp, by simp, List.nil_sublist _, by simp⟩
        simp only [pblk, blks, List.flatMap_cons, List.flatMap_nil, List.append_nil, blk, h1]
        exact rowBlock_of (h.shape r _ h1)
      · simp [ev_fail] at he
    · simp [ev_fail] at he
  · -- own, nils
    rw [ev_pure] at he; subst he
    simp only [LRep] at hl; subst hl
    exact ⟨.inl ⟨rfl, rfl⟩, rfl, rfl, by simp, by simp, by simp, List.nil_sublist _, by simp⟩
  · -- fn, fn
    rename_i ps b ps' b' q
    split at he
    · rename_i hh
      rw [ev_pure] at he; subst he
      obtain ⟨rfl, rfl⟩ := hh
      exact ⟨FnHolds.mono kc hl, rfl, rfl, by simp, by simp, by simp, List.nil_sublist _, by simp⟩
    · simp [ev_fail] at he
  · -- fn, clos
    rename_i ps b f caps
    split at he
    · simp [ev_fail] at he
    · rename_i sp hsp
      simp only [ev_bind, ev_pure] at he
      obtain ⟨⟨cs, rs⟩, h1, rfl⟩ := he
      have hmem : sp ∈ Γ f := List.mem_of_find?_eq_some hsp
      have h2 := clos_holds h hΓ (sh := sh) (as := ps) (b := b) (k := k) hl hmem ⟨caps, by simpa using List.find?_some hsp⟩ h1 hg
      refine ⟨h2, rfl, rfl, ?_, by simp, by simp, List.nil_sublist _, by simp⟩
      obtain ⟨cvs, rfl, hc⟩ := hl
      simpa using (caps_reps h (sh := sh) h1 hg hc).2
  · rw [ev_pure] at he; subst he
    exact ⟨hl, rfl, rfl, by simp, by simp, by simp, List.nil_sublist _, by simp⟩
  · rw [ev_pure] at he; subst he
    exact ⟨hl, rfl, rfl, by simp, by simp, by simp, List.nil_sublist _, by simp⟩
  · rename_i r cnt lo n
    rw [ev_get] at he
    split at he
    · rename_i t xs hr
      rcases ev_cond.1 he with ⟨_, he⟩ | ⟨hu8, he⟩
      · simp [ev_fail] at he
      rw [ev_pure] at he; subst he
      obtain ⟨A', c', k0, ho, hv, _, im, him, hblk⟩ := view_row h hr hl
      exact view_hands h hr (by simpa using hu8) (hg r (by simp)) ho hv him hblk
    · simp [ev_fail] at he
  · rename_i r
    rw [ev_get] at he
    split at he
    · rename_i t xs hr
      rcases ev_cond.1 he with ⟨_, he⟩ | ⟨hu8, he⟩
      · simp [ev_fail] at he
      rw [ev_pure] at he; subst he
      simp only [LRep] at hl
      have hr0 := hr
      unfold rowAll at hr
      split at hr
      · rename_i t' ys hrr
        simp only [Option.some.injEq, Sigma.mk.injEq] at hr
        obtain ⟨rfl, hr⟩ := hr
        obtain rfl := eq_of_heq hr
        obtain ⟨i, h1, h2, _⟩ := h.mem _ _ hrr
        rw [h1] at hl
        rcases hl with hl | hl <;> (simp at hl; subst hl; simp only [CRep] at h2)
        obtain ⟨A, c, rfl, _⟩ := own_form h2
        have hA : A.map (·.add 0) = A := by
          rcases h2 with ⟨h3, _⟩ | ⟨b, C, e, fr, cap, h3, _⟩
          · simp only [Value.slice.injEq] at h3
            obtain ⟨rfl, _⟩ := h3
            rfl
          · simp only [Value.slice.injEq] at h3
            obtain ⟨rfl, _⟩ := h3
            rfl
        exact view_hands h hr0 (by simpa using hu8) (hg r (by simp)) h2 (by rw [hA]) h1 (by cases A <;> rfl)
      · rename_i t' ys c hrr
        obtain ⟨i, h1, h2, _⟩ := h.mem _ _ hrr
        rw [h1] at hl
        rcases hl with hl | hl <;> (simp at hl; subst hl; simp only [CRep] at h2)
      · cases hr
    · simp [ev_fail] at he
  · rename_i t l
    simp only [ev_bind, ev_lift, ev_pure] at he
    obtain ⟨y, hy, rfl⟩ := he
    exact ⟨T.holds_mono kc (leafVal?_holds hy hl), rfl, rfl, by simp, by simp, by simp, List.nil_sublist _, by simp⟩
  · rename_i t t' xs
    simp only [ev_bind, ev_lift, ev_pure] at he
    obtain ⟨y, hy, rfl⟩ := he
    obtain ⟨e, he'⟩ := cast?_some hy
    simp only [T.slice.injEq] at e
    subst e
    simp only at he'
    subst he'
    exact ⟨⟨T.holds_mono (t := .slice _) kc hl.1, hl.2⟩, rfl, rfl, by simp, by simp, by simp, List.nil_sublist _, by simp⟩
  · -- disk
    rename_i r
    rw [ev_get] at he
    split at he
    · rename_i r' hr
      rw [ev_get] at he
      split at he
      · rename_i l hr'
        rw [ev_pure] at he; subst he
        obtain ⟨b0, hm, rfl⟩ := hl
        obtain ⟨i, h1, h2, h3⟩ := h.mem r _ hr
        rw [hm] at h1; simp at h1; subst h1
        obtain ⟨us0, e0, h4, h5⟩ := h2
        obtain ⟨v0, vs0, rfl, ⟨b, hm', rfl⟩, h6⟩ := h5
        simp only [LReps] at h6; subst h6
        obtain ⟨i', h1', h2', h3'⟩ := h.mem r' _ hr'
        obtain ⟨bs, hmo⟩ : ∃ bs, m r' = some (.obj b bs) := by
          rcases hm' with hm' | hm'
          · rw [hm'] at h1'; simp at h1'; subst h1'; exact h2'.elim
          · exact hm'
        rw [hmo] at h1'; simp at h1'; subst h1'
        obtain ⟨hnd, es, clock, h7, h8⟩ := h2'
        have hp : MPtrAt w b0 b := ⟨e0, by simpa using h4⟩
        obtain ⟨h9, h10⟩ := MapAt.of h7 h8
        have hb0 : blk m r = [b0] := by simp [blk, hm, Impl.blocks]
        have hb : blk m r' = b :: bs := by simp [blk, hmo, Impl.blocks]
        have hrt0 : rt m r = [b0] := by simp [rt, hm, Impl.roots, Impl.blocks]
        have hrt : rt m r' = [b] := by simp [rt, hmo, Impl.roots]
        refine ⟨⟨b0, b, rfl, hp, h9⟩, by simp [pblk, diskBs_of hp, blks, hb, hb0, h10], by simp [lblk, diskRoots_of hp, rts, hrt, hrt0], fun q hq => ?_, fun q hq => ?_, by simp, List.nil_sublist _, by simp⟩
        · simp only [List.append_nil, List.mem_cons, List.not_mem_nil, or_false] at hq
          rcases hq with rfl | rfl
          · simp [hr]
          · simp [hr']
        · simp only [List.mem_cons, List.not_mem_nil, or_false] at hq
          rcases hq with rfl | rfl
          · exact ⟨_, .inl hm⟩
          · exact ⟨_, .inr ⟨_, hmo⟩⟩
      · simp [ev_fail] at he
    · simp [ev_fail] at he
  · -- zp
    rename_i r
    rw [ev_get] at he
    split at he
    · rename_i hr
      rw [ev_pure] at he; subst he
      obtain ⟨b, hm, rfl⟩ := hl
      obtain ⟨i, h1, h2, h3⟩ := h.mem r _ hr
      rw [hm] at h1; simp at h1; subst h1
      obtain ⟨us, e, h4, h5⟩ := h2
      obtain ⟨v0, vs0, rfl, h6, h7⟩ := h5
      simp only [LReps] at h7; subst h7
      simp only [LRep] at h6; subst h6
      refine ⟨⟨b, _, e, (0, 0), rfl, .inr ⟨r, hg r (by simp), _, hm, by simp [Impl.blocks]⟩, h4, by simp⟩, rfl, rfl, by simp [hr], by simp, by simp, List.nil_sublist _, by simp⟩
    · simp [ev_fail] at he
  · -- zd
    rw [ev_pure] at he; subst he
    obtain ⟨b, C, e, fr, rfl, h1, h2, h3⟩ := hl
    exact ⟨⟨b, C, e, fr, rfl, .inl h1, h2, h3⟩, rfl, rfl, by simp, by simp, by simp, List.nil_sublist _, by simp⟩
  · -- ro, opt
    rename_i t t' o
    simp only [ev_opt, ev_bind, ev_lift, ev_pure] at he
    obtain ⟨x0, rfl, y, hy, rfl⟩ := he
    obtain ⟨rfl, rfl⟩ := cast?_some hy
    rcases hl with ⟨hl, _⟩ | ⟨x1, b, o, C, e, fr, cs, hl, hv, h2, h3, h4, h5⟩
    · cases hl
    · simp only [Option.some.injEq] at hl; subst hl
      simp only [List.cons.injEq, and_true] at hv; subst hv
      exact ⟨⟨b, o, C, e, fr, cs, rfl, .inl h2, h3, T.holds_mono kc h4, h5⟩, rfl, rfl, by simp, by simp, by simp, List.nil_sublist _, by simp⟩
  · -- lento
    rename_i fs r
    rcases ev_cond.1 he with ⟨hfine, he⟩ | ⟨_, he⟩
    case inr => simp [ev_fail] at he
    rw [ev_get] at he
    split at he
    · rename_i ls hr
      simp only [ev_bind, ev_pure] at he
      obtain ⟨y, hy, rfl⟩ := he
      obtain ⟨b, hm, rfl⟩ := hl
      obtain ⟨i, h1, h2, h3⟩ := h.mem r _ hr
      rw [hm] at h1; simp at h1; subst h1
      obtain ⟨us, e, h4, h5⟩ := h2
      have g := hand_F h kc hy h5
      have hb : blk m r = [b] := by simp [blk, hm, Impl.blocks]
      have hrt : rt m r = [b] := by simp [rt, hm, Impl.roots, Impl.blocks]
      have hc := cellsAt_of h4
      refine ⟨⟨hfine, b, us, e, rfl, h4, g.rep⟩, ?_, ?_, fun q hq => ?_, fun q hq => ?_, fun q => ?_, List.nil_sublist _, g.lentSub.cons_cons _⟩
      · simp only [pblk, lentoBs, hc, g.pb, blks, List.flatMap_cons, hb]; rfl
      · simp only [lblk, lentoRoots, hc, g.lb, rts, List.flatMap_cons, hrt]; rfl
      · simp only [List.append_nil, List.mem_cons] at hq
        rcases hq with rfl | hq
        · simp [hr]
        · exact g.alive q hq
      · rcases List.mem_cons.1 hq with rfl | hq
        · exact ⟨_, .inl hm⟩
        · exact g.var q hq
      · simp only [List.mem_cons, g.sub]
        constructor
        · rintro (h | h | h) <;> simp [h]
        · rintro (h | h | h) <;> simp [h]
    · simp [ev_fail] at he
  · simp [ev_fail] at he
structure HandsAll (P : Program) (m : IMap) (s : St) (w : World) (ok : Nat → Prop) (ps : List PK) (h : Handed (RD PK.den ps)) (vs : List Value) : Prop where
  rep : PReps P w ok ps h.x vs
  pb : pblocks w ps vs = blks m h.refs
  lb : lblocks w ps vs = rts m h.lent
  alive : ∀ r ∈ h.refs ++ h.shown, (s.mem r).isSome
  var : ∀ r ∈ h.lent, ∃ b, m r = some (.var b) ∨ ∃ bs, m r = some (.obj b bs)
  sub : ∀ r, r ∈ h.refs ↔ r ∈ h.given ∨ r ∈ h.lent
  vb : (vblocks ps vs).Sublist (blks m h.shown)
  lentSub : h.lent.Sublist h.refs
theorem hd_mk {K : Type} {den : K → Type} {k : K} {r : List K} (a : den k) (b : RD den r) : RD.hd (k := k) (RD.mk (k := k) a b) = a := by cases r <;> rfl
theorem tl_mk {K : Type} {den : K → Type} {k : K} {r : List K} (a : den k) (b : RD den r) : RD.tl (k := k) (RD.mk (k := k) a b) = b := by cases r <;> rfl
theorem hand_all (h : Rel P E m s a w) {Γ : Env} (hΓ : EnvOk P Γ) {k : Nat} {sh : List Nat} : ∀ {ps : List PK} {ls : List L} {x : Handed (RD PK.den ps)} {vs : List Value}, Ev (handAll Γ k ps ls) s.mem x → (∀ r ∈ x.shown, r ∈ sh) →
    LReps P w (okOf E m s.mem w) m ls vs → HandsAll P m s w (okC E m s.mem w sh) ps x vs
  | [], [], x, vs, he, _, hl => by
    simp only [handAll, ev_pure] at he; subst he
    simp only [LReps] at hl; subst hl
    exact ⟨rfl, rfl, rfl, by simp, by simp, by simp, List.nil_sublist _, by simp⟩
  | p :: ps, l :: ls, x, _, he, hg, hl => by
    simp only [handAll, ev_bind, ev_pure] at he
    obtain ⟨y, hy, z, hz, rfl⟩ := he
    obtain ⟨v, vs, rfl, h1, h2⟩ := hl
    have a1 := hand_one h hΓ (sh := sh) hy (fun r hr => hg r (by simp [hr])) h1
    have a2 := hand_all h hΓ (sh := sh) hz (fun r hr => hg r (by simp [hr])) h2
    refine ⟨⟨v, vs, rfl, by rw [hd_mk]; exact a1.rep, by rw [tl_mk]; exact a2.rep⟩, ?_, ?_, ?_, ?_, ?_, ?_, List.Sublist.append a1.lentSub a2.lentSub⟩
    · rw [pblocks_cons, a1.pb, a2.pb]; simp [blks]
    · rw [lblocks_cons, a1.lb, a2.lb]; simp [rts]
    · intro r hr
      simp only [List.mem_append] at hr
      rcases hr with (hr | hr) | (hr | hr)
      · exact a1.alive r (by simp [hr])
      · exact a2.alive r (by simp [hr])
      · exact a1.alive r (by simp [hr])
      · exact a2.alive r (by simp [hr])
    · intro r hr
      simp only [List.mem_append] at hr
      exact hr.elim (a1.var r) (a2.var r)
    · intro r
      simp only [List.mem_append, a1.sub, a2.sub]
      constructor <;> (intro hh; rcases hh with (hh | hh) | (hh | hh) <;> simp [hh])
    · rw [vblocks_cons]
      have : blks m (y.shown ++ z.shown) = blks m y.shown ++ blks m z.shown := by simp [blks]
      show (vblk p v ++ vblocks ps vs).Sublist (blks m (y.shown ++ z.shown))
      rw [this]
      exact List.Sublist.append a1.vb a2.vb
  | [], _ :: _, _, _, he, _, _ => by simp [handAll, ev_fail] at he
  | _ :: _, [], _, _, he, _, _ => by simp [handAll, ev_fail] at he
end
end Go.GG

/- Calls: what comes back, and what memory then is. -/
namespace Go.GG
open Go.RowKit
section
variable {τ : Tabs} {P : Program} {E : Entry} {m : IMap} {s : St} {a : Act} {w : World}

def bk (i : Impl) : List Nat := i.blocks
theorem blk_some {r : Nat} {i : Impl} (h : m r = some i) : blk m r = bk i := by simp [blk, h, bk]
theorem rt_some {r : Nat} {i : Impl} (h : m r = some i) : rt m r = i.roots := by simp [rt, h]
/-- What kind of thing stands for what kind of content. -/
def Kin : C → Impl → Prop
  | .cells _, .var _ => True
  | .cells _, _ => False
  | .pm _ _, .obj _ _ => True
  | .pm _ _, _ => False
  | .segs _ _, .deep _ _ => True
  | .segs _ _, _ => False
  | _, _ => True
theorem CRep.kin {ok : Nat → Prop} {c : C} {i : Impl} (h : CRep P w ok m c i) : Kin c i := by cases c <;> cases i <;> simp_all [CRep, Kin]
theorem T.holds_flat {w w' : World} {ok ok' : Nat → Prop} : ∀ {t : T} {x : t.den} {cs : List Value}, t.flat = true → t.holds w ok x cs → t.holds w' ok' x cs
  | .int _, _, _, _, h => h
  | .bool, _, _, _, h => h
  | .str, _, _, _, h => h
  | .pb, _, _, hf, _ => by simp [T.flat] at hf
  | .raw, _, _, hf, _ => by simp [T.flat] at hf
  | .ib, _, _, hf, _ => by simp [T.flat] at hf
  | .box _ _, _, _, hf, _ => by simp [T.flat] at hf
  | .opt _, _, _, hf, _ => by simp [T.flat] at hf
  | .pair a b, x, _, hf, h => by
    simp only [T.flat, Bool.and_eq_true] at hf
    simp only [T.holds] at h ⊢
    obtain ⟨c, d, rfl, h1, h2⟩ := h
    exact ⟨c, d, rfl, T.holds_flat hf.1 h1, T.holds_flat hf.2 h2⟩
  | .slice _, _, _, hf, _ => by simp [T.flat] at hf
theorem flat_of {t : T} (h : (!t.flat) = false) : t.flat = true := by simpa using h
theorem VarAt.flat {ok ok' : Nat → Prop} {t : T} {x : t.den} {b : Nat} (hf : t.flat = true) (h : VarAt w ok t x b) : VarAt w ok' t x b := by
  obtain ⟨vs, e, h1, h2⟩ := h
  exact ⟨vs, e, h1, T.holds_flat hf h2⟩
theorem OwnRow.flat {ok ok' : Nat → Prop} {t : T} {x : List t.den} {v : Value} (hf : t.flat = true) (h : OwnRow w ok t x v) : OwnRow w ok' t x v := by
  rcases h with h | ⟨b, C, e, fr, cap, h0, h1, h2, h3, h4, h5⟩
  · exact .inl h
  · refine .inr ⟨b, C, e, fr, cap, h0, h1, h2, h3, h4, fun i x hi => ?_⟩
    obtain ⟨ds, hd, hj⟩ := h5 i x hi
    exact ⟨ds, T.holds_flat hf hd, hj⟩
theorem RRep.flat {ok ok' : Nat → Prop} : ∀ {r : RK} {x : r.den} {v : Value}, r.leads = false → RRep w ok r x v → RRep w ok' r x v
  | .imm _, _, _, hf, h => T.holds_flat (flat_of hf) h
  | .agg _, _, _, hf, h => by obtain ⟨cs, h1, h2⟩ := h; exact ⟨cs, h1, T.holds_flat (flat_of hf) h2⟩
  | .own _, _, _, hf, h => OwnRow.flat (flat_of hf) h
  | .full _, _, _, hf, _ => by simp [RK.leads] at hf
  | .fresh _, _, _, hf, h => by obtain ⟨b, h1, h2⟩ := h; exact ⟨b, h1, h2.flat (flat_of hf)⟩
  | .ofresh _, _, _, hf, h => h.imp id fun ⟨x, b, h1, h2, h3⟩ => ⟨x, b, h1, h2, h3.flat (flat_of hf)⟩
  | .nsl _, _, _, hf, _ => by simp [RK.leads] at hf
  | .nilp, _, _, _, h => h
  | .nils, _, _, _, h => h
  | .back _, _, _, _, h => h
  | .backp _, _, _, _, h => h
  | .backd, _, _, _, h => h
  | .find, _, _, _, h => h
  | .freshd, _, _, _, h => h
  | .ofreshd, _, _, _, h => h
  | .backo _, _, _, _, h => h
  | .ofresho _, _, _, _, h => h
  | .owns, _, _, hf, _ => by simp [RK.leads] at hf
  | .nili, _, _, _, h => h
theorem FReps.flat {ok ok' : Nat → Prop} : ∀ {fs : List FK} {x : RD FK.den fs} {us : List Value} {bs : List Nat}, fs.any FK.leads = false → FReps w ok fs x us bs → FReps w ok' fs x us bs
  | [], _, _, _, _, h => h
  | f :: fs, x, us, bs, hf, h => by
    simp only [List.any_cons, Bool.or_eq_false_iff] at hf
    cases f
    case imm t => obtain ⟨u, us', h0, h1, h2⟩ := h; exact ⟨u, us', h0, T.holds_flat (flat_of hf.1) h1, FReps.flat hf.2 h2⟩
    case row t => obtain ⟨u, us', h0, h1, h2⟩ := h; exact ⟨u, us', h0, OwnRow.flat (flat_of hf.1) h1, FReps.flat hf.2 h2⟩
    case segs => simp [FK.leads] at hf
    case dsk => obtain ⟨b0, b, bs', us', h0, h1, h2, h3, h4⟩ := h; exact ⟨b0, b, bs', us', h0, h1, h2, h3, FReps.flat hf.2 h4⟩
    case als => obtain ⟨b0, bs', us', h0, h1, h2⟩ := h; exact ⟨b0, bs', us', h0, h1, FReps.flat hf.2 h2⟩
theorem FReps.mono {ok ok' : Nat → Prop} (hk : ∀ n, ok n → ok' n) : ∀ {fs : List FK} {x : RD FK.den fs} {us : List Value} {bs : List Nat}, FReps w ok fs x us bs → FReps w ok' fs x us bs
  | [], _, _, _, h => h
  | f :: fs, x, us, bs, h => by
    cases f
    case imm t => obtain ⟨u, us', h0, h1, h2⟩ := h; exact ⟨u, us', h0, T.holds_mono (Keeps.weaken hk) h1, FReps.mono hk h2⟩
    case row t => obtain ⟨u, us', h0, h1, h2⟩ := h; exact ⟨u, us', h0, OwnRow.mono (Keeps.weaken hk) (fun _ _ => rfl) h1, FReps.mono hk h2⟩
    case segs => obtain ⟨u, us', h0, h1, h2⟩ := h; exact ⟨u, us', h0, h1.mono (Keeps.weaken hk), FReps.mono hk h2⟩
    case dsk => obtain ⟨b0, b, bs', us', h0, h1, h2, h3, h4⟩ := h; exact ⟨b0, b, bs', us', h0, h1, h2, h3, FReps.mono hk h4⟩
    case als => obtain ⟨b0, bs', us', h0, h1, h2⟩ := h; exact ⟨b0, bs', us', h0, h1, FReps.mono hk h2⟩
theorem RReps.flat {ok ok' : Nat → Prop} : ∀ {rs : List RK} {y : RD RK.den rs} {vs : List Value} {bs : List Nat}, rs.any RK.leads = false → RReps w ok rs y vs bs → RReps w ok' rs y vs bs
  | [], _, _, _, _, h => h
  | r :: rs, y, vs, bs, hf, h => by
    simp only [List.any_cons, Bool.or_eq_false_iff] at hf
    cases r
    case back t =>
      obtain ⟨b, bs', rfl, h1, h2⟩ := h
      exact ⟨b, bs', rfl, h1.flat (flat_of hf.1), RReps.flat hf.2 h2⟩
    case backp t =>
      obtain ⟨b0, b, bs', rfl, h0, h1, h2⟩ := h
      exact ⟨b0, b, bs', rfl, h0, h1.flat (flat_of hf.1), RReps.flat hf.2 h2⟩
    case backd =>
      obtain ⟨b0, b, bs', rfl, h0, h1, h2⟩ := h
      exact ⟨b0, b, bs', rfl, h0, h1, RReps.flat hf.2 h2⟩
    case find =>
      obtain ⟨b0, b, bs', v, vs', rfl, rfl, h0, h1, h2, h3⟩ := h
      exact ⟨b0, b, bs', v, vs', rfl, rfl, h0, h1, h2, RReps.flat hf.2 h3⟩
    case backo fs =>
      obtain ⟨b, us, e, bs', rfl, h1, h2, h3⟩ := h
      exact ⟨b, us, e, bs', rfl, h1, h2.flat hf.1, RReps.flat hf.2 h3⟩
    case ofresho fs =>
      obtain ⟨v, vs', rfl, h1, h2⟩ := h
      exact ⟨v, vs', rfl, h1.imp (fun h => h) (fun ⟨x, b, us, e, g1, g2, g2', g3, g4⟩ => ⟨x, b, us, e, g1, g2, g2', g3, g4.flat hf.1⟩), RReps.flat hf.2 h2⟩
    all_goals
      obtain ⟨v, vs', rfl, h1, h2⟩ := h
      exact ⟨v, vs', rfl, RRep.flat hf.1 h1, RReps.flat hf.2 h2⟩
theorem VarAt.mono {ok ok' : Nat → Prop} {t : T} {x : t.den} {b : Nat} (hk : ∀ n, ok n → ok' n) (h : VarAt w ok t x b) : VarAt w ok' t x b := by
  obtain ⟨vs, e, h1, h2⟩ := h
  exact ⟨vs, e, h1, T.holds_mono (Keeps.weaken hk) h2⟩
theorem RRep.mono {ok ok' : Nat → Prop} (hk : ∀ n, ok n → ok' n) : ∀ {r : RK} {x : r.den} {v : Value}, RRep w ok r x v → RRep w ok' r x v
  | .imm t, _, _, h => T.holds_mono (t := t) (Keeps.weaken hk) h
  | .agg t, _, _, h => by obtain ⟨cs, h1, h2⟩ := h; exact ⟨cs, h1, T.holds_mono (t := t) (Keeps.weaken hk) h2⟩
  | .own _, _, _, h => OwnRow.mono (Keeps.weaken hk) (fun _ _ => rfl) h
  | .full t, _, _, h => ⟨T.holds_mono (t := .slice t) (Keeps.weaken hk) h.1, h.2⟩
  | .fresh _, _, _, h => by obtain ⟨b, h1, h2⟩ := h; exact ⟨b, h1, h2.mono hk⟩
  | .ofresh _, _, _, h => h.imp id fun ⟨x, b, h1, h2, h3⟩ => ⟨x, b, h1, h2, h3.mono hk⟩
  | .nsl t, _, _, h => h.imp id fun ⟨xs, h1, h2, h3⟩ => ⟨xs, h1, T.holds_mono (t := .slice t) (Keeps.weaken hk) h2, h3⟩
  | .nilp, _, _, h => h
  | .nils, _, _, h => h
  | .back _, _, _, h => h
  | .backp _, _, _, h => h
  | .backd, _, _, h => h
  | .find, _, _, h => h
  | .freshd, _, _, h => h
  | .ofreshd, _, _, h => h
  | .backo _, _, _, h => h
  | .ofresho _, _, _, h => h
  | .owns, _, _, h => DeepAt.mono (Keeps.weaken hk) h
  | .nili, _, _, h => h
theorem RReps.mono {ok ok' : Nat → Prop} (hk : ∀ n, ok n → ok' n) : ∀ {rs : List RK} {y : RD RK.den rs} {vs : List Value} {bs : List Nat}, RReps w ok rs y vs bs → RReps w ok' rs y vs bs
  | [], _, _, _, h => h
  | r :: rs, y, vs, bs, h => by
    cases r
    case back t =>
      obtain ⟨b, bs', rfl, h1, h2⟩ := h
      exact ⟨b, bs', rfl, h1.mono hk, RReps.mono hk h2⟩
    case backp t =>
      obtain ⟨b0, b, bs', rfl, h0, h1, h2⟩ := h
      exact ⟨b0, b, bs', rfl, h0, h1.mono hk, RReps.mono hk h2⟩
    case backd =>
      obtain ⟨b0, b, bs', rfl, h0, h1, h2⟩ := h
      exact ⟨b0, b, bs', rfl, h0, h1, RReps.mono hk h2⟩
    case find =>
      obtain ⟨b0, b, bs', v, vs', rfl, rfl, h0, h1, h2, h3⟩ := h
      exact ⟨b0, b, bs', v, vs', rfl, rfl, h0, h1, h2, RReps.mono hk h3⟩
    case backo fs =>
      obtain ⟨b, us, e, bs', rfl, h1, h2, h3⟩ := h
      exact ⟨b, us, e, bs', rfl, h1, h2.mono hk, RReps.mono hk h3⟩
    case ofresho fs =>
      obtain ⟨v, vs', rfl, h1, h2⟩ := h
      exact ⟨v, vs', rfl, h1.imp (fun h => h) (fun ⟨x, b, us, e, g1, g2, g2', g3, g4⟩ => ⟨x, b, us, e, g1, g2, g2', g3, g4.mono hk⟩), RReps.mono hk h2⟩
    all_goals
      obtain ⟨v, vs', rfl, h1, h2⟩ := h
      exact ⟨v, vs', rfl, RRep.mono hk h1, RReps.mono hk h2⟩

theorem VarAt.crep {ok : Nat → Prop} {t : T} {x : t.den} {b : Nat} (h : VarAt w ok t x b) (m' : IMap) : CRep P w ok m' (.cells (t.explode x)) (.var b) := by
  obtain ⟨vs, e, h1, h2⟩ := h
  exact ⟨vs, e, h1, explode_reps h2⟩
structure Given (P : Program) (m : IMap) (w : World) (ok : Nat → Prop) (μ : Nat → Option C) (lent : List Nat) (rs : List RK) (vs : List Value) (b : Back) (is : List Impl) (ts : List (Nat × List Nat)) : Prop where
  len : is.length = b.news.length
  blocks : (is.flatMap bk ++ ts.flatMap (·.2)).Perm (rblocks w rs vs (rts m lent))
  turned : (ts.map (·.1)).Sublist lent
  objs : ∀ p ∈ ts, ∃ bl bs, m p.1 = some (.obj bl bs)
  all : ∀ r ∈ lent, r ∉ b.backs.map (·.1) → ∀ c, μ r = some c → ∃ bl, m r = some (.var bl) ∧ ∀ m', Ext m m' → CRep P w ok m' c (.var bl)
  shape : ∀ i ∈ is, (bk i).Nodup → i.shape
  back : ∀ p ∈ b.backs, p.1 ∈ lent ∧ ((∃ bl, m p.1 = some (.var bl) ∧ ∀ m' : IMap, Ext m m' → (∀ q ∈ b.news.zip is, m' q.1.1 = some q.2) → CRep P w ok m' p.2 (.var bl)) ∨
    ∃ bl bs bs', m p.1 = some (.obj bl bs) ∧ (p.1, bs') ∈ ts ∧ ∀ m' : IMap, (∀ q ∈ b.news.zip is, m' q.1.1 = some q.2) → (bl :: bs').Nodup → CRep P w ok m' p.2 (.obj bl bs'))
  new : ∀ m' : IMap, Ext m m' → (∀ q ∈ b.news.zip is, m' q.1.1 = some q.2) → ∀ p ∈ b.news.zip is, p.2.shape → CRep P w ok m' p.1.2 p.2
  ls : ∀ m' : IMap, (∀ p ∈ b.news.zip is, m' p.1.1 = some p.2) → LReps P w ok m' b.ls vs
theorem ownRow_any {ok ok' : Nat → Prop} {xs : List Int} {v : Value} (h : OwnRow w ok (.int .u8) xs v) : OwnRow w ok' (.int .u8) xs v := OwnRow.flat rfl h
/-- A thing that stands by itself: its cells, and its row. -/
theorem file_crep {ok : Nat → Prop} {m' : IMap} {x : FT} {p id' : Nat} {u : Value} {e : TypeId} (h1 : w.heap[p]? = some (.cells #[u, .int .i64 x.2] e (0, 0))) (hm : m' id' = some (.arr u)) :
    CRep P w ok m' (.cells [.sref id', .val (.int .i64) x.2]) (.var p) :=
  ⟨[u, .int .i64 x.2], e, h1, u, _, rfl, .inl hm, _, [], rfl, rfl, rfl⟩
theorem mapPtr_crep {ok : Nat → Prop} {m' : IMap} {b0 b q : Nat} (h : MPtrAt w b0 b) (hm : m' q = some (.var b) ∨ ∃ bs, m' q = some (.obj b bs)) : CRep P w ok m' (.cells [.mref q]) (.var b0) := by
  obtain ⟨e, h⟩ := h
  exact ⟨[.map (some b)], e, by simpa using h, _, [], rfl, ⟨b, hm, rfl⟩, rfl⟩
theorem perm_swap4 {a b c d : List Nat} : ((a ++ b) ++ (c ++ d)).Perm ((a ++ c) ++ (b ++ d)) := by
  simp only [List.append_assoc]
  refine List.Perm.append_left a ?_
  rw [← List.append_assoc, ← List.append_assoc]
  exact List.Perm.append_right _ List.perm_append_comm
/-- What the cells of a thing of one's own are, when it comes back. -/
structure GivenF (P : Program) (m : IMap) (w : World) (ok : Nat → Prop) (μ : Nat → Option C) (lent : List Nat) (fs : List FK) (us : List Value) (b : BackF) (is : List Impl) (ts : List (Nat × List Nat)) (pre : List Nat) : Prop where
  len : is.length = b.news.length
  blocks : (is.flatMap bk ++ ts.flatMap (·.2)).Perm (fOwn w fs us (rts m lent))
  rest : fRest fs (rts m lent) = rts m b.lent
  spl : lent = pre ++ b.lent
  turned : (ts.map (·.1)).Sublist pre
  objs : ∀ p ∈ ts, ∃ bl bs, m p.1 = some (.obj bl bs)
  all : ∀ r ∈ pre, r ∉ b.backs.map (·.1) → ∀ c, μ r = some c → ∃ bl, m r = some (.var bl) ∧ ∀ m', Ext m m' → CRep P w ok m' c (.var bl)
  shape : ∀ i ∈ is, (bk i).Nodup → i.shape
  back : ∀ p ∈ b.backs, p.1 ∈ pre ∧ ∃ bl bs bs', m p.1 = some (.obj bl bs) ∧ (p.1, bs') ∈ ts ∧ ∀ m' : IMap, (bl :: bs').Nodup → CRep P w ok m' p.2 (.obj bl bs')
  nodsk : fs.any FK.isDsk = false → b.backs = [] ∧ pre = []
  new : ∀ m' : IMap, ∀ p ∈ b.news.zip is, p.2.shape → CRep P w ok m' p.1.2 p.2
  ls : ∀ m' : IMap, Ext m m' → (∀ p ∈ b.news.zip is, m' p.1.1 = some p.2) → LReps P w ok m' b.ls us
theorem deep_shape {ok : Nat → Prop} {m' : IMap} {l : List SG} {pin : Option (Nat × Nat)} {v : Value} {bs : List Nat} (h : DeepRow w ok m' l pin v bs) (hn : bs.Nodup) : (Impl.deep v bs).shape := ⟨hn, h.slice⟩
theorem back_F {μ : Nat → Option C} (hk : ∀ r c, μ r = some c → ∃ i, m r = some i ∧ Kin c i) {ok : Nat → Prop} {id : Nat} : ∀ {fs : List FK} {i : Nat} {lent : List Nat} {y : RD FK.den fs} {us : List Value} {b : BackF}, Ev (backF id fs i lent y) μ b →
    FReps w ok fs y us (rts m lent) → ∃ is ts pre, GivenF P m w ok μ lent fs us b is ts pre
  | [], i, lent, y, us, b, he, hr => by
    simp only [backF, ev_pure] at he; subst he
    simp only [FReps] at hr; subst hr
    exact ⟨[], [], [], rfl, by simp [fOwn], rfl, rfl, List.nil_sublist _, by simp, by simp, by simp, by simp, by simp, by simp, fun _ _ _ => rfl⟩
  | .imm t :: fs, i, lent, y, us, b, he, hr => by
    simp only [backF, ev_bind, ev_pure] at he
    obtain ⟨b', h1, rfl⟩ := he
    obtain ⟨u, us', rfl, h2, h3⟩ := hr
    obtain ⟨is, ts, pre, g⟩ := back_F hk h1 h3
    exact ⟨is, ts, pre, g.len, by simpa [fOwn] using g.blocks, g.rest, g.spl, g.turned, g.objs, g.all, g.shape, g.back, fun hd => g.nodsk (by simpa [FK.isDsk] using hd), g.new, fun m' hx hm' => ⟨u, us', rfl, h2, g.ls m' hx hm'⟩⟩
  | .row t :: fs, i, lent, y, us, b, he, hr => by
    simp only [backF, ev_bind, ev_pure] at he
    obtain ⟨b', h1, rfl⟩ := he
    obtain ⟨u, us', rfl, h2, h3⟩ := hr
    obtain ⟨is, ts, pre, g⟩ := back_F hk h1 h3
    have hs : (Impl.arr u).shape := CRep.shape (P := P) (m := m) (c := .arr t _) h2
    refine ⟨.arr u :: is, ts, pre, by simp [g.len], ?_, g.rest, g.spl, g.turned, g.objs, g.all, fun i' hi' hn => ?_, g.back, fun hd => g.nodsk (by simpa [FK.isDsk] using hd), fun m' p hp hps => ?_, fun m' hx hm' => ⟨u, us', rfl, .inl (hm' ((fldId id i, .arr t (RD.hd (k := FK.row t) y)), .arr u) (by simp)), g.ls m' hx fun p hp => hm' p (by simp [hp])⟩⟩
    · simp only [fOwn, rowBlock_of hs, List.flatMap_cons, List.append_assoc]
      exact List.Perm.append_left _ g.blocks
    · rcases List.mem_cons.1 hi' with rfl | hi'
      · exact hs
      · exact g.shape i' hi' hn
    · simp only [List.zip_cons_cons, List.mem_cons] at hp
      rcases hp with rfl | hp
      · exact h2
      · exact g.new m' p hp hps
  | .segs :: fs, i, lent, y, us, b, he, hr => by
    simp only [backF, ev_bind, ev_pure] at he
    obtain ⟨b', h1, rfl⟩ := he
    obtain ⟨u, us', rfl, h2, h3⟩ := hr
    obtain ⟨is, ts, pre, g⟩ := back_F hk h1 h3
    refine ⟨.deep u (deepBs w u) :: is, ts, pre, by simp [g.len], ?_, g.rest, g.spl, g.turned, g.objs, g.all, fun i' hi' hn => ?_, g.back, fun hd => g.nodsk (by simpa [FK.isDsk] using hd), fun m' p hp hps => ?_, fun m' hx hm' => ⟨u, us', rfl, ⟨_, hm' ((fldId id i, .segs (RD.hd (k := FK.segs) y) none), .deep u (deepBs w u)) (by simp)⟩, g.ls m' hx fun p hp => hm' p (by simp [hp])⟩⟩
    · simp only [fOwn, List.flatMap_cons, List.append_assoc]
      exact List.Perm.append_left _ g.blocks
    · rcases List.mem_cons.1 hi' with rfl | hi'
      · exact deep_shape h2 hn
      · exact g.shape i' hi' hn
    · simp only [List.zip_cons_cons, List.mem_cons] at hp
      rcases hp with rfl | hp
      · exact ⟨hps.1, DeepRow.free h2⟩
      · exact g.new m' p hp hps
  | .dsk :: fs, i, lent, y, us, b, he, hr => by
    obtain ⟨b0, bl, bs', us', hbs, rfl, hp, ⟨es, clock, hh, hpm⟩, h3⟩ := hr
    cases lent with
    | nil => simp [backF, ev_fail] at he
    | cons r0 lent =>
    cases lent with
    | nil => simp [backF, ev_fail] at he
    | cons r lent =>
      simp only [backF] at he
      rw [ev_get] at he
      split at he
      case h_2 => simp [ev_fail] at he
      rename_i q hq
      rw [ev_get] at he
      split at he
      case h_2 => simp [ev_fail] at he
      rename_i l0 pin0 hr0
      simp only [ev_assume, ev_bind, ev_pure] at he
      obtain ⟨hqr, b', h1, rfl⟩ := he
      obtain rfl := Nat.eq_of_beq_eq_true hqr
      obtain ⟨i0, hi0, hk0⟩ := hk r0 _ hq
      cases i0 <;> simp only [Kin] at hk0
      rename_i bl0
      obtain ⟨i1, hi1, hk1⟩ := hk q _ hr0
      cases i1 <;> simp only [Kin] at hk1
      rename_i bl1 bso
      have e : rts m (r0 :: q :: lent) = bl0 :: bl1 :: rts m lent := by simp [rts, rt_some hi0, rt_some hi1, Impl.roots, Impl.blocks]
      rw [e] at hbs
      simp only [List.cons.injEq] at hbs
      obtain ⟨rfl, rfl, rfl⟩ := hbs
      obtain ⟨is, ts, pre, g⟩ := back_F hk h1 h3
      refine ⟨is, (q, mapBs w bl1) :: ts, r0 :: q :: pre, g.len, ?_, by rw [e]; exact g.rest, by simp [← g.spl], by simpa using (g.turned.cons_cons q).cons r0, fun p hp' => ?_, fun q' hq' hn => ?_, g.shape, fun p hp' => ?_, fun hd => by simp [FK.isDsk] at hd, g.new,
        fun m' hx hm' => ⟨_, us', rfl, ⟨bl0, hx.var hi0, rfl⟩, g.ls m' hx hm'⟩⟩
      · rw [e]
        simp only [fOwn, List.flatMap_cons]
        refine List.Perm.trans ?_ (List.Perm.append_left (mapBs w bl1) g.blocks)
        rw [← List.append_assoc, ← List.append_assoc]
        exact List.Perm.append_right _ List.perm_append_comm
      · rcases List.mem_cons.1 hp' with rfl | hp'
        · exact ⟨_, _, hi1⟩
        · exact g.objs p hp'
      · simp only [List.map_cons, List.mem_cons, not_or] at hn
        rcases List.mem_cons.1 hq' with rfl | hq'
        · intro c hc
          rw [hq] at hc
          simp only [Option.some.injEq] at hc; subst hc
          exact ⟨bl0, hi0, fun m' hx => mapPtr_crep hp (.inr (hx.obj hi1))⟩
        · exact g.all q' ((List.mem_cons.1 hq').resolve_left hn.1) hn.2
      · simp only [List.mem_cons] at hp'
        rcases hp' with rfl | hp'
        · exact ⟨by simp, bl1, bso, mapBs w bl1, hi1, by simp, fun m' hn => ⟨hn, es, clock, hh, hpm.free⟩⟩
        · obtain ⟨g1, bl, bs, bs', h3, h4, h5⟩ := g.back p hp'
          exact ⟨by simp [g1], bl, bs, bs', h3, by simp [h4], h5⟩
  | .als :: fs, i, lent, y, us, b, he, hr => by
    obtain ⟨b0, bs', us', hbs, rfl, h3⟩ := hr
    cases lent with
    | nil => simp [backF, ev_fail] at he
    | cons r lent =>
      simp only [backF] at he
      rw [ev_get] at he
      split at he
      case h_2 => simp [ev_fail] at he
      rename_i ls0 hr0
      simp only [ev_bind, ev_pure] at he
      obtain ⟨b', h1, rfl⟩ := he
      obtain ⟨i0, hi0, hk0⟩ := hk r _ hr0
      cases i0 <;> simp only [Kin] at hk0
      rename_i bl0
      have e : rts m (r :: lent) = bl0 :: rts m lent := by simp [rts, rt_some hi0, Impl.roots, Impl.blocks]
      rw [e] at hbs
      simp only [List.cons.injEq] at hbs
      obtain ⟨rfl, rfl⟩ := hbs
      obtain ⟨is, ts, pre, g⟩ := back_F hk h1 h3
      exact ⟨is, ts, pre, g.len, by simpa [fOwn] using g.blocks, g.rest, g.spl, g.turned, g.objs, g.all, g.shape, g.back, fun hd => g.nodsk (by simpa [FK.isDsk] using hd), g.new, fun m' hx hm' => ⟨_, us', rfl, ⟨bl0, hx.var hi0, rfl⟩, g.ls m' hx hm'⟩⟩
theorem back_all {μ : Nat → Option C} (hk : ∀ r c, μ r = some c → ∃ i, m r = some i ∧ Kin c i) {ok : Nat → Prop} {dst : Nat} : ∀ {rs : List RK} {j : Nat} {lent : List Nat} {y : RD RK.den rs} {vs : List Value} {b : Back}, Ev (backAll dst rs j lent y) μ b →
    RReps w ok rs y vs (rts m lent) → ∃ is ts, Given P m w ok μ lent rs vs b is ts
  | [], j, [], y, vs, b, he, hr => by
    simp only [backAll, ev_pure] at he; subst he
    simp only [RReps] at hr
    obtain ⟨rfl, _⟩ := hr
    exact ⟨[], [], rfl, List.Perm.refl _, List.nil_sublist _, by simp, by simp, by simp, by simp, by simp, fun _ _ => rfl⟩
  | r :: rs, j, lent, y, vs, b, he, hr => by
    have plain : ∀ {l : L} {v : Value} {vs' : List Value} {b' : Back} {is : List Impl} {ts : List (Nat × List Nat)}, Given P m w ok μ lent rs vs' b' is ts → (∀ m', LRep P w ok m' l v) → rblocks w (r :: rs) (v :: vs') (rts m lent) = rblocks w rs vs' (rts m lent) →
        ∃ is ts, Given P m w ok μ lent (r :: rs) (v :: vs') ⟨l :: b'.ls, b'.news, b'.backs⟩ is ts := by
      intro l v vs' b' is ts g hl hb
      exact ⟨is, ts, g.len, by rw [hb]; exact g.blocks, g.turned, g.objs, g.all, g.shape, g.back, g.new, fun m' hm' => ⟨v, vs', rfl, hl m', g.ls m' hm'⟩⟩
    have more : ∀ {l : L} {v : Value} {vs' : List Value} {b' : Back} {is : List Impl} {ts : List (Nat × List Nat)} {id : Nat} {c : C} {i : Impl}, Given P m w ok μ lent rs vs' b' is ts → (∀ m' : IMap, m' id = some i → LRep P w ok m' l v) →
        i.shape → (∀ m', CRep P w ok m' c i) → rblocks w (r :: rs) (v :: vs') (rts m lent) = bk i ++ rblocks w rs vs' (rts m lent) →
        ∃ is ts, Given P m w ok μ lent (r :: rs) (v :: vs') ⟨l :: b'.ls, (id, c) :: b'.news, b'.backs⟩ is ts := by
      intro l v vs' b' is ts id c i g hl hs hc hb
      refine ⟨i :: is, ts, by simp [g.len], by rw [hb]; simpa using List.Perm.append_left (bk i) g.blocks, g.turned, g.objs, g.all, fun i' hi' hn => ?_, fun p hp => ?_, fun m' hx hm' p hp hps => ?_, fun m' hm' => ⟨v, vs', rfl, hl m' ?_, g.ls m' fun p hp => ?_⟩⟩
      · cases hi' with
        | head => exact hs
        | tail _ hi' => exact g.shape i' hi' hn
      · obtain ⟨h1, h2⟩ := g.back p hp
        refine ⟨h1, h2.imp (fun ⟨bl, h3, h4⟩ => ⟨bl, h3, fun m' hx hm' => h4 m' hx fun q hq => hm' q (by simp [hq])⟩) fun ⟨bl, bs, bs', h3, h4, h5⟩ => ⟨bl, bs, bs', h3, h4, fun m' hm' => h5 m' fun q hq => hm' q (by simp [hq])⟩⟩
      · simp only [List.zip_cons_cons, List.mem_cons] at hp
        rcases hp with rfl | hp
        · exact hc m'
        · exact g.new m' hx (fun q hq => hm' q (by simp [hq])) p hp hps
      · exact hm' ((id, c), i) (by simp)
      · exact hm' p (by simp [hp])
    -- an object of its own
    have moreD : ∀ {vs' : List Value} {b' : Back} {is : List Impl} {ts : List (Nat × List Nat)} {id id' : Nat} {b0 bl : Nat} {l : FL}, Given P m w ok μ lent rs vs' b' is ts → MPtrAt w b0 bl → MapAt w l bl →
        rblocks w (r :: rs) (.pointer (some ⟨b0, 0, none⟩) :: vs') (rts m lent) = (b0 :: bl :: mapBs w bl) ++ rblocks w rs vs' (rts m lent) →
        ∃ is ts, Given P m w ok μ lent (r :: rs) (.pointer (some ⟨b0, 0, none⟩) :: vs') ⟨.ptr id 0 :: b'.ls, (id, .cells [.mref id']) :: (id', .pm l none) :: b'.news, b'.backs⟩ is ts := by
      intro vs' b' is ts id id' b0 bl l g h0 h1 hb
      obtain ⟨es, clock, hh, hpm⟩ := h1
      refine ⟨.var b0 :: .obj bl (mapBs w bl) :: is, ts, by simp [g.len], ?_, g.turned, g.objs, g.all, fun i' hi' hn => ?_, fun p hp => ?_, fun m' hx hm' p hp hps => ?_, fun m' hm' => ⟨_, vs', rfl, ⟨b0, hm' ((id, .cells [.mref id']), .var b0) (by simp), rfl⟩, g.ls m' fun p hp => hm' p (by simp [hp])⟩⟩
      · rw [hb]
        have := List.Perm.append_left (b0 :: bl :: mapBs w bl) g.blocks
        simpa [bk, Impl.blocks] using this
      · simp only [List.mem_cons] at hi'
        rcases hi' with rfl | rfl | hi'
        · trivial
        · exact hn
        · exact g.shape i' hi' hn
      · obtain ⟨h1, h2⟩ := g.back p hp
        refine ⟨h1, h2.imp (fun ⟨bl, h3, h4⟩ => ⟨bl, h3, fun m' hx hm' => h4 m' hx fun q hq => hm' q (by simp [hq])⟩) fun ⟨bl, bs, bs', h3, h4, h5⟩ => ⟨bl, bs, bs', h3, h4, fun m' hm' => h5 m' fun q hq => hm' q (by simp [hq])⟩⟩
      · simp only [List.zip_cons_cons, List.mem_cons] at hp
        rcases hp with rfl | rfl | hp
        · exact mapPtr_crep h0 (.inr ⟨_, hm' ((id', .pm l none), .obj bl (mapBs w bl)) (by simp)⟩)
        · exact ⟨hps, es, clock, hh, hpm.free⟩
        · exact g.new m' hx (fun q hq => hm' q (by simp [hq])) p hp hps
    cases r
    case back t =>
      cases lent with
      | nil => simp [backAll, ev_fail] at he
      | cons r lent =>
        simp only [backAll] at he
        rw [ev_get] at he
        split at he
        case h_2 => simp [ev_fail] at he
        rename_i ls0 hr0
        obtain ⟨i0, hi0, hk0⟩ := hk r _ hr0
        cases i0 <;> simp only [Kin] at hk0
        rename_i bl
        simp only [ev_bind, ev_pure] at he
        obtain ⟨b', h1, rfl⟩ := he
        obtain ⟨b0, bs', hbs, h2, h3⟩ := hr
        have e : rts m (r :: lent) = bl :: rts m lent := by simp [rts, rt_some hi0, Impl.roots, Impl.blocks]
        rw [e] at hbs
        simp only [List.cons.injEq] at hbs
        obtain ⟨rfl, rfl⟩ := hbs
        obtain ⟨is, ts, g⟩ := back_all hk h1 h3
        refine ⟨is, ts, g.len, by rw [e]; exact g.blocks, g.turned.cons _, g.objs, fun q hq hn => ?_, g.shape, fun p hp => ?_, g.new, g.ls⟩
        · simp only [List.map_cons, List.mem_cons, not_or] at hn
          exact g.all q ((List.mem_cons.1 hq).resolve_left hn.1) hn.2
        simp only [List.mem_cons] at hp
        rcases hp with rfl | hp
        · exact ⟨by simp, .inl ⟨_, hi0, fun m' _ _ => h2.crep m'⟩⟩
        · exact ⟨by simp [(g.back p hp).1], (g.back p hp).2⟩
    case backp t =>
      cases lent with
      | nil => simp [backAll, ev_fail] at he
      | cons r0 lent =>
      cases lent with
      | nil => simp [backAll, ev_fail] at he
      | cons r lent =>
        simp only [backAll] at he
        rw [ev_get] at he
        split at he
        · rename_i q hq
          rw [ev_get] at he
          split at he
          case h_2 => simp [ev_fail] at he
          rename_i ls0 hr0
          simp only [ev_assume, ev_bind, ev_pure] at he
          obtain ⟨hqr, b', h1, rfl⟩ := he
          obtain rfl := Nat.eq_of_beq_eq_true hqr
          obtain ⟨b0, b1, bs', hbs, hp, h2, h3⟩ := hr
          obtain ⟨i0, hi0, hk0⟩ := hk r0 _ hq
          cases i0 <;> simp only [Kin] at hk0
          rename_i bl0
          obtain ⟨i1, hi1, hk1⟩ := hk q _ hr0
          cases i1 <;> simp only [Kin] at hk1
          rename_i bl
          have e : rts m (r0 :: q :: lent) = bl0 :: bl :: rts m lent := by simp [rts, rt_some hi0, rt_some hi1, Impl.roots, Impl.blocks]
          rw [e] at hbs
          simp only [List.cons.injEq] at hbs
          obtain ⟨rfl, rfl, rfl⟩ := hbs
          obtain ⟨is, ts, g⟩ := back_all hk h1 h3
          refine ⟨is, ts, g.len, by rw [e]; exact g.blocks, (g.turned.cons _).cons _, g.objs, fun q' hq' hn => ?_, g.shape, fun p hp' => ?_, g.new, g.ls⟩
          · simp only [List.map_cons, List.mem_cons, not_or] at hn
            rcases List.mem_cons.1 hq' with rfl | hq'
            · intro c hc
              rw [hq] at hc
              simp only [Option.some.injEq] at hc; subst hc
              obtain ⟨e0, he0⟩ := hp
              exact ⟨bl0, hi0, fun m' hx => ⟨[.pointer (some ⟨bl, 0, none⟩)], e0, by simpa using he0, _, [], rfl, ⟨bl, hx.var hi1, rfl⟩, rfl⟩⟩
            · exact g.all q' ((List.mem_cons.1 hq').resolve_left hn.1) hn.2
          · simp only [List.mem_cons] at hp'
            rcases hp' with rfl | hp'
            · exact ⟨by simp, .inl ⟨_, hi1, fun m' _ _ => h2.crep m'⟩⟩
            · exact ⟨by simp [(g.back p hp').1], (g.back p hp').2⟩
        · simp [ev_fail] at he
    case backd =>
      cases lent with
      | nil => simp [backAll, ev_fail] at he
      | cons r0 lent =>
      cases lent with
      | nil => simp [backAll, ev_fail] at he
      | cons r lent =>
        simp only [backAll] at he
        rw [ev_get] at he
        split at he
        · rename_i q hq
          rw [ev_get] at he
          split at he
          case h_2 => simp [ev_fail] at he
          rename_i l0 pin0 hr0
          simp only [ev_assume, ev_bind, ev_pure] at he
          obtain ⟨hqr, b', h1, rfl⟩ := he
          obtain rfl := Nat.eq_of_beq_eq_true hqr
          obtain ⟨b0, b1, bs', hbs, hp, ⟨es, clock, hh, hpm⟩, h3⟩ := hr
          obtain ⟨i0, hi0, hk0⟩ := hk r0 _ hq
          cases i0 <;> simp only [Kin] at hk0
          rename_i bl0
          obtain ⟨i1, hi1, hk1⟩ := hk q _ hr0
          cases i1 <;> simp only [Kin] at hk1
          rename_i bl bso
          have e : rts m (r0 :: q :: lent) = bl0 :: bl :: rts m lent := by simp [rts, rt_some hi0, rt_some hi1, Impl.roots, Impl.blocks]
          rw [e] at hbs
          simp only [List.cons.injEq] at hbs
          obtain ⟨rfl, rfl, rfl⟩ := hbs
          obtain ⟨is, ts, g⟩ := back_all hk h1 h3
          refine ⟨is, (q, mapBs w bl) :: ts, g.len, ?_, by simpa using (g.turned.cons_cons q).cons r0, fun p hp' => ?_, fun q' hq' hn => ?_, g.shape, fun p hp' => ?_, g.new, g.ls⟩
          · rw [e]
            simp only [rblocks, List.flatMap_cons]
            refine List.Perm.trans ?_ (List.Perm.append_left (mapBs w bl) g.blocks)
            rw [← List.append_assoc, ← List.append_assoc]
            exact List.Perm.append_right _ List.perm_append_comm
          · rcases List.mem_cons.1 hp' with rfl | hp'
            · exact ⟨_, _, hi1⟩
            · exact g.objs p hp'
          · simp only [List.map_cons, List.mem_cons, not_or] at hn
            rcases List.mem_cons.1 hq' with rfl | hq'
            · intro c hc
              rw [hq] at hc
              simp only [Option.some.injEq] at hc; subst hc
              exact ⟨bl0, hi0, fun m' hx => mapPtr_crep hp (.inr (hx.obj hi1))⟩
            · exact g.all q' ((List.mem_cons.1 hq').resolve_left hn.1) hn.2
          · simp only [List.mem_cons] at hp'
            rcases hp' with rfl | hp'
            · exact ⟨by simp, .inr ⟨bl, bso, mapBs w bl, hi1, by simp, fun m' _ hn => ⟨hn, es, clock, hh, hpm.free⟩⟩⟩
            · obtain ⟨g1, g2⟩ := g.back p hp'
              exact ⟨by simp [g1], g2.imp (fun h => h) fun ⟨bl, bs, bs', h3, h4, h5⟩ => ⟨bl, bs, bs', h3, by simp [h4], h5⟩⟩
        · simp [ev_fail] at he
    case find =>
      cases lent with
      | nil => simp [backAll, ev_fail] at he
      | cons r0 lent =>
      cases lent with
      | nil => simp [backAll, ev_fail] at he
      | cons r lent =>
        simp only [backAll] at he
        rw [ev_get] at he
        split at he
        · rename_i q hq
          rw [ev_get] at he
          split at he
          case h_2 => simp [ev_fail] at he
          rename_i l0 pin0 hr0
          simp only [ev_assume, ev_bind, ev_cases, ev_opt, ev_pure] at he
          obtain ⟨hqr, b', h1, he⟩ := he
          obtain rfl := Nat.eq_of_beq_eq_true hqr
          obtain ⟨b0, b1, bs', v, vs', hbs, rfl, hp, ⟨es, clock, hh, hpm⟩, htk, h3⟩ := hr
          obtain ⟨i0, hi0, hk0⟩ := hk r0 _ hq
          cases i0 <;> simp only [Kin] at hk0
          rename_i bl0
          obtain ⟨i1, hi1, hk1⟩ := hk q _ hr0
          cases i1 <;> simp only [Kin] at hk1
          rename_i bl bso
          have e : rts m (r0 :: q :: lent) = bl0 :: bl :: rts m lent := by simp [rts, rt_some hi0, rt_some hi1, Impl.roots, Impl.blocks]
          rw [e] at hbs
          simp only [List.cons.injEq] at hbs
          obtain ⟨rfl, rfl, rfl⟩ := hbs
          obtain ⟨is, ts, g⟩ := back_all hk h1 h3
          rcases he with ⟨ho, rfl⟩ | ⟨k, ho, x, hx, rfl⟩
          · rcases htk with ⟨_, rfl⟩ | ⟨k, _, _, _, ho', _⟩
            case inr => rw [ho] at ho'; cases ho'
            refine ⟨is, (q, mapBs w bl) :: ts, g.len, ?_, by simpa using (g.turned.cons_cons q).cons r0, fun p hp' => ?_, fun q' hq' hn => ?_, g.shape, fun p hp' => ?_, g.new, fun m' hm' => ⟨_, vs', rfl, rfl, g.ls m' hm'⟩⟩
            · rw [e]
              simp only [rblocks, List.flatMap_cons]
              refine List.Perm.trans ?_ (List.Perm.append_left (mapBs w bl) g.blocks)
              rw [← List.append_assoc, ← List.append_assoc]
              exact List.Perm.append_right _ List.perm_append_comm
            · rcases List.mem_cons.1 hp' with rfl | hp'
              · exact ⟨_, _, hi1⟩
              · exact g.objs p hp'
            · simp only [List.map_cons, List.mem_cons, not_or] at hn
              rcases List.mem_cons.1 hq' with rfl | hq'
              · intro c hc
                rw [hq] at hc
                simp only [Option.some.injEq] at hc; subst hc
                exact ⟨bl0, hi0, fun m' hx => mapPtr_crep hp (.inr (hx.obj hi1))⟩
              · exact g.all q' ((List.mem_cons.1 hq').resolve_left hn.1) hn.2
            · simp only [List.mem_cons] at hp'
              rcases hp' with rfl | hp'
              · exact ⟨by simp, .inr ⟨bl, bso, mapBs w bl, hi1, by simp, fun m' _ hn => ⟨hn, es, clock, hh, hpm.free⟩⟩⟩
              · obtain ⟨g1, g2⟩ := g.back p hp'
                exact ⟨by simp [g1], g2.imp (fun h => h) fun ⟨bl, bs, bs', h3, h4, h5⟩ => ⟨bl, bs, bs', h3, by simp [h4], h5⟩⟩
          · rcases htk with ⟨ho', _⟩ | ⟨k', es', clock', en, ho', hh', hen, hkey, rfl⟩
            · rw [ho] at ho'; cases ho'
            rw [ho] at ho'; simp only [Option.some.injEq] at ho'; subst ho'
            rw [hh] at hh'; simp only [Option.some.injEq, Obj.map.injEq] at hh'
            obtain ⟨rfl, rfl⟩ := hh'
            obtain ⟨en', t1, t2, ⟨p, u, ety, t3, t4, t5⟩, t6, t7, t8⟩ := hpm.take hx
            have := t7 en hen hkey; subst this
            rw [t3] at t6 t8 ⊢
            have hfb : fileBs w (.pointer (some ⟨p, 0, none⟩)) = p :: (Impl.arr u).blocks := by simp [fileBs, t4]
            have hu : (Impl.arr u).shape := CRep.shape (P := P) (m := m) (ok := fun _ => True) (c := .arr (.int .u8) _) t5
            refine ⟨.var p :: .arr u :: is, (q, entBs w (some k) es.toList) :: ts, by simp [g.len], ?_, by simpa using (g.turned.cons_cons q).cons r0, fun p hp' => ?_, fun q' hq' hn => ?_, fun i' hi' hn => ?_, fun p' hp' => ?_, fun m' hx hm' p' hp' hps => ?_,
              fun m' hm' => ⟨_, vs', rfl, ⟨p, hm' ((resId dst j, .cells [.sref (rowId (resId dst j)), .val (.int .i64) x.2]), .var p) (by simp), rfl⟩, g.ls m' fun p hp => hm' p (by simp [hp])⟩⟩
            · rw [e]
              simp only [rblocks, List.flatMap_cons]
              refine List.Perm.trans ?_ (List.Perm.append_right _ t6.symm)
              refine List.Perm.trans ?_ (List.Perm.append_left _ g.blocks)
              rw [hfb]
              have : bk (.var p) ++ (bk (.arr u) ++ is.flatMap bk) ++ (entBs w (some k) es.toList ++ ts.flatMap (·.2)) = ((p :: (Impl.arr u).blocks) ++ is.flatMap bk) ++ (entBs w (some k) es.toList ++ ts.flatMap (·.2)) := by simp [bk, Impl.blocks]
              rw [this]
              exact perm_swap4
            · rcases List.mem_cons.1 hp' with rfl | hp'
              · exact ⟨_, _, hi1⟩
              · exact g.objs _ hp'
            · simp only [List.map_cons, List.mem_cons, not_or] at hn
              rcases List.mem_cons.1 hq' with rfl | hq'
              · intro c hc
                rw [hq] at hc
                simp only [Option.some.injEq] at hc; subst hc
                exact ⟨bl0, hi0, fun m' hx => mapPtr_crep hp (.inr (hx.obj hi1))⟩
              · exact g.all q' ((List.mem_cons.1 hq').resolve_left hn.1) hn.2
            · simp only [List.mem_cons] at hi'
              rcases hi' with rfl | rfl | hi'
              · trivial
              · exact hu
              · exact g.shape i' hi' hn
            · simp only [List.mem_cons] at hp'
              rcases hp' with rfl | hp'
              · refine ⟨by simp, .inr ⟨bl, bso, _, hi1, by simp, fun m' hm' hn => ⟨hn, es, clock, hh, t8 m' _ p rfl ?_⟩⟩⟩
                exact hm' ((resId dst j, .cells [.sref (rowId (resId dst j)), .val (.int .i64) x.2]), .var p) (by simp)
              · obtain ⟨g1, g2⟩ := g.back p' hp'
                exact ⟨by simp [g1], g2.imp (fun ⟨bl, h3, h4⟩ => ⟨bl, h3, fun m' hx hm' => h4 m' hx fun q hq => hm' q (by simp [hq])⟩) fun ⟨bl, bs, bs', h3, h4, h5⟩ => ⟨bl, bs, bs', h3, by simp [h4], fun m' hm' => h5 m' fun q hq => hm' q (by simp [hq])⟩⟩
            · simp only [List.zip_cons_cons, List.mem_cons] at hp'
              rcases hp' with rfl | rfl | hp'
              · exact file_crep t4 (hm' ((rowId (resId dst j), .arr (.int .u8) x.1), .arr u) (by simp))
              · exact ownRow_any t5
              · exact g.new m' hx (fun q hq => hm' q (by simp [hq])) p' hp' hps
        · simp [ev_fail] at he
    case backo fs =>
      cases lent with
      | nil => simp [backAll, ev_fail] at he
      | cons q lent =>
        simp only [backAll] at he
        rw [ev_get] at he
        split at he
        case h_2 => simp [ev_fail] at he
        rename_i ls0 hq
        simp only [ev_bind, ev_pure] at he
        obtain ⟨f, hf, b', h1, rfl⟩ := he
        obtain ⟨b0, us, e, bs', hbs, hh, hF, h3⟩ := hr
        obtain ⟨i0, hi0, hk0⟩ := hk q _ hq
        cases i0 <;> simp only [Kin] at hk0
        rename_i bl0
        have er : rts m (q :: lent) = bl0 :: rts m lent := by simp [rts, rt_some hi0, Impl.roots, Impl.blocks]
        rw [er] at hbs
        simp only [List.cons.injEq] at hbs
        obtain ⟨rfl, rfl⟩ := hbs
        obtain ⟨isF, tsF, pre, gF⟩ := back_F (P := P) hk hf hF
        rw [gF.rest] at h3
        obtain ⟨is, ts, g⟩ := back_all hk h1 h3
        have hz : (f.news ++ b'.news).zip (isF ++ is) = f.news.zip isF ++ b'.news.zip is := List.zip_append gF.len.symm
        refine ⟨isF ++ is, tsF ++ ts, by simp [gF.len, g.len], ?_, ?_, fun p hp => ?_, fun r' hr' hn => ?_, fun i' hi' hn => ?_, fun p hp => ?_, fun m' hx hm' p hp hps => ?_, fun m' hm' => g.ls m' fun p hp => hm' p (by rw [hz]; simp [hp])⟩
        · rw [er]
          simp only [rblocks, cellsAt_of hh, List.flatMap_append, gF.rest]
          exact perm_swap4.trans (List.Perm.append gF.blocks g.blocks)
        · rw [List.map_append]
          have := List.Sublist.append gF.turned g.turned
          rw [← gF.spl] at this
          exact this.cons _
        · rcases List.mem_append.1 hp with hp | hp
          · exact gF.objs p hp
          · exact g.objs p hp
        · simp only [List.map_cons, List.map_append, List.mem_cons, List.mem_append, not_or] at hn
          have hr2 := (List.mem_cons.1 hr').resolve_left hn.1
          rw [gF.spl] at hr2
          rcases List.mem_append.1 hr2 with hr2 | hr2
          · exact gF.all r' hr2 hn.2.1
          · exact g.all r' hr2 hn.2.2
        · rcases List.mem_append.1 hi' with hi' | hi'
          · exact gF.shape i' hi' hn
          · exact g.shape i' hi' hn
        · simp only [List.mem_cons, List.mem_append] at hp
          rcases hp with rfl | hp | hp
          · exact ⟨by simp, .inl ⟨bl0, hi0, fun m' hx hm' => ⟨us, e, hh, gF.ls m' hx fun p hp => hm' p (by rw [hz]; simp [hp])⟩⟩⟩
          · obtain ⟨g1, bl, bs, bs', g2, g3, g4⟩ := gF.back p hp
            exact ⟨by rw [gF.spl]; simp [g1], .inr ⟨bl, bs, bs', g2, by simp [g3], fun m' _ hn => g4 m' hn⟩⟩
          · obtain ⟨g1, g2⟩ := g.back p hp
            refine ⟨by rw [gF.spl]; simp [g1], g2.imp (fun ⟨bl, h3, h4⟩ => ⟨bl, h3, fun m' hx hm' => h4 m' hx fun q hq => hm' q (by rw [hz]; simp [hq])⟩) fun ⟨bl, bs, bs', h3, h4, h5⟩ => ⟨bl, bs, bs', h3, by simp [h4], fun m' hm' => h5 m' fun q hq => hm' q (by rw [hz]; simp [hq])⟩⟩
        · rw [hz] at hp hm'
          rcases List.mem_append.1 hp with hp | hp
          · exact gF.new m' p hp hps
          · exact g.new m' hx (fun q hq => hm' q (by simp [hq])) p hp hps
    case ofresho fs =>
      simp only [backAll, ev_bind, ev_cases, ev_pure] at he
      obtain ⟨b', h1, he⟩ := he
      obtain ⟨v, vs', rfl, h2, h3⟩ := hr
      obtain ⟨is, ts, g⟩ := back_all hk h1 h3
      rcases he with ⟨ho, rfl⟩ | ⟨x, ho, he⟩ <;> rcases h2 with ⟨h2, hv⟩ | ⟨x', b0, us, e, h2, hv, hd, hh, hF⟩
      · subst hv; exact plain g (fun m' => rfl) rfl
      · rw [ho] at h2; simp at h2
      · rw [ho] at h2; simp at h2
      · rw [ho] at h2; simp only [Option.some.injEq] at h2; subst h2; subst hv
        rcases ev_cond.1 he with ⟨_, he⟩ | ⟨_, he⟩
        case inl => simp [ev_fail] at he
        simp only [ev_bind, ev_pure] at he
        obtain ⟨f, hf, rfl⟩ := he
        obtain ⟨isF, tsF, pre, gF⟩ := back_F (P := P) hk hf hF
        obtain ⟨hb0, hpre⟩ := gF.nodsk hd
        subst hpre
        have hts : tsF = [] := by have := gF.turned; simpa using this
        subst hts
        have hz : (f.news ++ b'.news).zip (isF ++ is) = f.news.zip isF ++ b'.news.zip is := List.zip_append gF.len.symm
        refine ⟨.var b0 :: (isF ++ is), ts, by simp [gF.len, g.len], ?_, g.turned, g.objs, g.all, fun i' hi' hn => ?_, fun p hp => ?_, fun m' hx hm' p hp hps => ?_, fun m' hm' => ⟨_, vs', rfl, ⟨b0, hm' ((resId dst j, .cells f.ls), .var b0) (by simp), rfl⟩, g.ls m' fun p hp => hm' p (by simp [hz, hp])⟩⟩
        · have hb := gF.blocks
          simp only [List.flatMap_nil, List.append_nil] at hb
          simp only [rblocks, lentoOwn, cellsAt_of hh, List.flatMap_cons, List.flatMap_append, List.append_assoc]
          exact List.Perm.cons b0 (show (isF.flatMap bk ++ (is.flatMap bk ++ ts.flatMap (·.2))).Perm _ from List.Perm.append hb g.blocks)
        · simp only [List.mem_cons, List.mem_append] at hi'
          rcases hi' with rfl | hi' | hi'
          · trivial
          · exact gF.shape i' hi' hn
          · exact g.shape i' hi' hn
        · obtain ⟨g1, g2⟩ := g.back p hp
          exact ⟨g1, g2.imp (fun ⟨bl, h3, h4⟩ => ⟨bl, h3, fun m' hx hm' => h4 m' hx fun q hq => hm' q (by simp [hz, hq])⟩) fun ⟨bl, bs, bs', h3, h4, h5⟩ => ⟨bl, bs, bs', h3, h4, fun m' hm' => h5 m' fun q hq => hm' q (by simp [hz, hq])⟩⟩
        · simp only [List.zip_cons_cons, List.mem_cons, hz, List.mem_append] at hp hm'
          rcases hp with rfl | hp | hp
          · exact ⟨us, e, hh, gF.ls m' hx fun p hp => hm' p (by simp [hp])⟩
          · exact gF.new m' p hp hps
          · exact g.new m' hx (fun q hq => hm' q (by simp [hq])) p hp hps
    case owns =>
      simp only [backAll, ev_bind, ev_pure] at he
      obtain ⟨b', h1, rfl⟩ := he
      obtain ⟨v, vs', rfl, h2, h3⟩ := hr
      obtain ⟨is, ts, g⟩ := back_all hk h1 h3
      refine ⟨.deep v (deepBs w v) :: is, ts, by simp [g.len], by simp only [rblocks, List.flatMap_cons, List.append_assoc]; exact List.Perm.append_left _ g.blocks, g.turned, g.objs, g.all, fun i' hi' hn => ?_, fun p hp => ?_, fun m' hx hm' p hp hps => ?_, fun m' hm' => ⟨v, vs', rfl, ⟨_, hm' ((resId dst j, .segs (RD.hd (k := RK.owns) y) none), .deep v (deepBs w v)) (by simp)⟩, g.ls m' fun p hp => hm' p (by simp [hp])⟩⟩
      · rcases List.mem_cons.1 hi' with rfl | hi'
        · exact deep_shape h2 hn
        · exact g.shape i' hi' hn
      · obtain ⟨g1, g2⟩ := g.back p hp
        exact ⟨g1, g2.imp (fun ⟨bl, h3, h4⟩ => ⟨bl, h3, fun m' hx hm' => h4 m' hx fun q hq => hm' q (by simp [hq])⟩) fun ⟨bl, bs, bs', h3, h4, h5⟩ => ⟨bl, bs, bs', h3, h4, fun m' hm' => h5 m' fun q hq => hm' q (by simp [hq])⟩⟩
      · simp only [List.zip_cons_cons, List.mem_cons] at hp
        rcases hp with rfl | hp
        · exact ⟨hps.1, DeepRow.free h2⟩
        · exact g.new m' hx (fun q hq => hm' q (by simp [hq])) p hp hps
    case nili =>
      simp only [backAll, ev_bind, ev_pure] at he
      obtain ⟨b', h1, rfl⟩ := he
      obtain ⟨v, vs', rfl, h2, h3⟩ := hr
      obtain ⟨is, ts, g⟩ := back_all hk h1 h3
      exact plain g (fun m' => h2) rfl
    case freshd =>
      simp only [backAll, ev_bind, ev_pure] at he
      obtain ⟨b', h1, rfl⟩ := he
      obtain ⟨v, vs', rfl, ⟨b0, bl, rfl, h4, h5⟩, h3⟩ := hr
      obtain ⟨is, ts, g⟩ := back_all hk h1 h3
      exact moreD g h4 h5 (by simp only [rblocks, diskBs_of h4])
    case ofreshd =>
      simp only [backAll, ev_bind, ev_cases, ev_pure] at he
      obtain ⟨b', h1, he⟩ := he
      obtain ⟨v, vs', rfl, h2, h3⟩ := hr
      obtain ⟨is, ts, g⟩ := back_all hk h1 h3
      rcases he with ⟨ho, rfl⟩ | ⟨x, ho, rfl⟩ <;> rcases h2 with ⟨h2, hv⟩ | ⟨x', b0, bl, h2, hv, h4, h5⟩
      · subst hv; exact plain g (fun m' => rfl) rfl
      · rw [ho] at h2; simp at h2
      · rw [ho] at h2; simp at h2
      · rw [ho] at h2; simp at h2; subst h2; subst hv
        exact moreD g h4 h5 (by simp only [rblocks, diskBs_of h4])
    case imm t =>
      simp only [backAll, ev_bind, ev_pure] at he
      obtain ⟨b', h1, rfl⟩ := he
      obtain ⟨v, vs', rfl, h2, h3⟩ := hr
      obtain ⟨is, ts, g⟩ := back_all hk h1 h3
      exact plain g (fun m' => h2) rfl
    case agg t =>
      simp only [backAll, ev_bind, ev_pure] at he
      obtain ⟨b', h1, rfl⟩ := he
      obtain ⟨v, vs', rfl, h2, h3⟩ := hr
      obtain ⟨is, ts, g⟩ := back_all hk h1 h3
      obtain ⟨cs, rfl, h4⟩ := h2
      exact plain g (fun m' => ⟨cs, rfl, explode_reps h4⟩) rfl
    case full t =>
      simp only [backAll, ev_bind, ev_pure] at he
      obtain ⟨b', h1, rfl⟩ := he
      obtain ⟨v, vs', rfl, h2, h3⟩ := hr
      obtain ⟨is, ts, g⟩ := back_all hk h1 h3
      exact plain g (fun m' => h2) rfl
    case nilp =>
      simp only [backAll, ev_bind, ev_pure] at he
      obtain ⟨b', h1, rfl⟩ := he
      obtain ⟨v, vs', rfl, h2, h3⟩ := hr
      obtain ⟨is, ts, g⟩ := back_all hk h1 h3
      exact plain g (fun m' => h2) rfl
    case nils =>
      simp only [backAll, ev_bind, ev_pure] at he
      obtain ⟨b', h1, rfl⟩ := he
      obtain ⟨v, vs', rfl, h2, h3⟩ := hr
      obtain ⟨is, ts, g⟩ := back_all hk h1 h3
      exact plain g (fun m' => h2) rfl
    case nsl t =>
      simp only [backAll, ev_bind, ev_cases, ev_pure] at he
      obtain ⟨b', h1, he⟩ := he
      obtain ⟨v, vs', rfl, h2, h3⟩ := hr
      obtain ⟨is, ts, g⟩ := back_all hk h1 h3
      rcases he with ⟨ho, rfl⟩ | ⟨x, ho, rfl⟩ <;> rcases h2 with ⟨h2, hv⟩ | ⟨x', h2, hv, h4⟩
      · exact plain g (fun m' => hv) rfl
      · rw [ho] at h2; simp at h2
      · rw [ho] at h2; simp at h2
      · rw [ho] at h2; simp at h2; subst h2; exact plain g (fun m' => ⟨hv, h4⟩) rfl
    case own t =>
      simp only [backAll, ev_bind, ev_pure] at he
      obtain ⟨b', h1, rfl⟩ := he
      obtain ⟨v, vs', rfl, h2, h3⟩ := hr
      obtain ⟨is, ts, g⟩ := back_all hk h1 h3
      have hs : (Impl.arr v).shape := CRep.shape (P := P) (m := m) (c := .arr t _) h2
      exact more (i := .arr v) g (fun m' hm' => .inl hm') hs (fun m' => h2) (by simp only [rblocks]; rw [rowBlock_of hs]; rfl)
    case fresh t =>
      simp only [backAll, ev_bind, ev_pure] at he
      obtain ⟨b', h1, rfl⟩ := he
      obtain ⟨v, vs', rfl, h2, h3⟩ := hr
      obtain ⟨is, ts, g⟩ := back_all hk h1 h3
      obtain ⟨bl, rfl, h4⟩ := h2
      exact more (i := .var bl) g (fun m' hm' => ⟨bl, hm', rfl⟩) trivial (fun m' => h4.crep m') rfl
    case ofresh t =>
      simp only [backAll, ev_bind, ev_cases, ev_pure] at he
      obtain ⟨b', h1, he⟩ := he
      obtain ⟨v, vs', rfl, h2, h3⟩ := hr
      obtain ⟨is, ts, g⟩ := back_all hk h1 h3
      rcases he with ⟨ho, rfl⟩ | ⟨x, ho, rfl⟩ <;> rcases h2 with ⟨h2, hv⟩ | ⟨x', bl, h2, hv, h4⟩
      · subst hv; exact plain g (fun m' => rfl) rfl
      · rw [ho] at h2; simp at h2
      · rw [ho] at h2; simp at h2
      · rw [ho] at h2; simp at h2; subst h2; subst hv
        exact more (i := .var bl) g (fun m' hm' => ⟨bl, hm', rfl⟩) trivial (fun m' => h4.crep m') rfl
  | [], _, _ :: _, _, _, _, he, _ => by simp [backAll, ev_fail] at he
end
end Go.GG

/- Calls: memory after one. -/
namespace Go.GG
open Go.RowKit
section
variable {τ : Tabs} {P : Program} {E : Entry} {m : IMap} {s : St} {a : Act} {w : World}

theorem editMem_puts : ∀ {l : List (Nat × C)} {μ : Nat → Option C} {r : Nat} {c : C}, editMem (puts l) μ r = some c → (r, c) ∈ l ∨ (r ∉ l.map (·.1) ∧ μ r = some c)
  | [], _, _, _, h => .inr ⟨by simp, h⟩
  | (r0, c0) :: l, μ, r, c, h => by
    simp only [puts, List.map_cons, editMem] at h
    rcases editMem_puts (l := l) h with h1 | ⟨h1, h2⟩
    · exact .inl (by simp [h1])
    · cases hb : Nat.beq r r0 with
      | true =>
        rw [hb] at h2
        simp at h2
        subst h2
        have := Nat.eq_of_beq_eq_true hb
        subst this
        exact .inl (by simp)
      | false =>
        rw [hb] at h2
        refine .inr ⟨?_, h2⟩
        simp only [List.map_cons, List.mem_cons, not_or]
        exact ⟨fun e => by subst e; simp at hb, h1⟩
theorem editMem_gone {l : List Nat} {μ : Nat → Option C} {r : Nat} {c : C} (h : editMem (gone l) μ r = some c) : r ∉ l ∧ μ r = some c := by
  obtain ⟨h1, h2⟩ := editMem_none (es := gone l) (by simp [gone]) h
  exact ⟨by simpa [gone, List.map_map, Function.comp_def] using h2, h1⟩
theorem addUsed_true : ∀ {ids : List Nat} {u : Nat → Bool} {r : Nat}, (r ∈ ids ∨ u r = true) → addUsed ids u r = true
  | [], _, _, h => by simpa [addUsed] using h
  | i :: ids, u, r, h => by
    simp only [addUsed]
    apply addUsed_true
    rcases h with h | h
    · cases h with
      | head => right; simp
      | tail _ h => exact .inl h
    · right; cases Nat.beq r i <;> simp [h]
def withNews (m : IMap) : List ((Nat × C) × Impl) → IMap
  | [] => m
  | (p, i) :: r => fun n => if n = p.1 then some i else withNews m r n
theorem withNews_other : ∀ {zs : List ((Nat × C) × Impl)} {r : Nat}, r ∉ zs.map (·.1.1) → withNews m zs r = m r
  | [], _, _ => rfl
  | (p, i) :: zs, r, h => by
    simp only [List.map_cons, List.mem_cons, not_or] at h
    simp only [withNews, if_neg h.1]
    exact withNews_other h.2
theorem withNews_self : ∀ {zs : List ((Nat × C) × Impl)}, (zs.map (·.1.1)).Nodup → ∀ p ∈ zs, withNews m zs p.1.1 = some p.2
  | [], _, p, hp => by simp at hp
  | (q, i) :: zs, hn, p, hp => by
    simp only [List.map_cons, List.nodup_cons] at hn
    simp only [withNews]
    cases hp with
    | head => simp
    | tail _ hp =>
      have : p.1.1 ≠ q.1 := fun e => hn.1 (e ▸ List.mem_map_of_mem hp)
      rw [if_neg this]
      exact withNews_self hn.2 p hp
theorem withNews_some : ∀ {zs : List ((Nat × C) × Impl)} {r : Nat} {i : Impl}, withNews m zs r = some i → (∃ p ∈ zs, p.1.1 = r ∧ p.2 = i) ∨ m r = some i
  | [], _, _, h => .inr h
  | (q, j) :: zs, r, i, h => by
    simp only [withNews] at h
    split at h
    · rename_i e; simp at h; exact .inl ⟨(q, j), by simp, e.symm, h⟩
    · rcases withNews_some h with ⟨p, hp, h1⟩ | h1
      · exact .inl ⟨p, by simp [hp], h1⟩
      · exact .inr h1
theorem zip_fst {α β : Type} : ∀ {l : List (Nat × α)} {is : List β}, is.length = l.length → (l.zip is).map (·.1.1) = l.map (·.1)
  | [], _, _ => by simp
  | p :: l, [], h => by simp at h
  | p :: l, i :: is, h => by simp [zip_fst (l := l) (is := is) (by simpa using h)]
theorem zip_mem {α β : Type} : ∀ {l : List α} {is : List β}, is.length = l.length → ∀ p ∈ l, ∃ i, (p, i) ∈ l.zip is
  | [], _, _, p, hp => by simp at hp
  | q :: l, [], h, _, _ => by simp at h
  | q :: l, i :: is, h, p, hp => by
    cases hp with
    | head => exact ⟨i, by simp⟩
    | tail _ hp => obtain ⟨j, hj⟩ := zip_mem (l := l) (is := is) (by simpa using h) p hp; exact ⟨j, by simp [hj]⟩
/-- Two different places of a zip share no block. -/
theorem zip_inj {α : Type} : ∀ {l : List (Nat × α)} {is : List Impl}, (is.flatMap bk).Nodup → ∀ {p q : (Nat × α) × Impl} {b : Nat}, p ∈ l.zip is → q ∈ l.zip is → b ∈ p.2.blocks → b ∈ q.2.blocks → p.1.1 = q.1.1
  | [], _, _, _, _, _, hp, _, _, _ => by simp at hp
  | _ :: _, [], _, _, _, _, hp, _, _, _ => by simp at hp
  | x :: l, i :: is, hn, p, q, b, hp, hq, h1, h2 => by
    simp only [List.flatMap_cons] at hn
    have hd := List.nodup_append.1 hn
    simp only [List.zip_cons_cons, List.mem_cons] at hp hq
    have tailBlock : ∀ {p : (Nat × α) × Impl}, p ∈ l.zip is → b ∈ p.2.blocks → b ∈ is.flatMap bk := by
      intro p hp hb
      have : p.2 ∈ is := (List.of_mem_zip hp).2
      exact List.mem_flatMap.2 ⟨p.2, this, by simp [bk, hb]⟩
    rcases hp with rfl | hp <;> rcases hq with rfl | hq
    · rfl
    · exact absurd rfl (hd.2.2 b (by simp only at h1; simp [bk, h1]) b (tailBlock hq h2))
    · exact absurd rfl (hd.2.2 b (by simp only at h2; simp [bk, h2]) b (tailBlock hp h1))
    · exact zip_inj hd.2.1 hp hq h1 h2

/-- Objects with other blocks behind their roots. -/
def turnM (m : IMap) : List (Nat × List Nat) → IMap
  | [] => m
  | (r, bs) :: ts => fun n => if n = r then (match m n with
    | some (.obj b _) => some (.obj b bs)
    | o => o) else turnM m ts n
theorem turnM_other : ∀ {ts : List (Nat × List Nat)} {r : Nat}, r ∉ ts.map (·.1) → turnM m ts r = m r
  | [], _, _ => rfl
  | (q, bs) :: ts, r, h => by
    simp only [List.map_cons, List.mem_cons, not_or] at h
    simp only [turnM, if_neg h.1]
    exact turnM_other h.2
theorem turnM_self : ∀ {ts : List (Nat × List Nat)} {r bl : Nat} {bs bs' : List Nat}, (ts.map (·.1)).Nodup → (r, bs') ∈ ts → m r = some (.obj bl bs) → turnM m ts r = some (.obj bl bs')
  | [], _, _, _, _, _, h, _ => by simp at h
  | (q, b1) :: ts, r, bl, bs, bs', hn, h, hm => by
    simp only [List.map_cons, List.nodup_cons] at hn
    simp only [turnM]
    rcases List.mem_cons.1 h with h | h
    · simp only [Prod.mk.injEq] at h
      obtain ⟨rfl, rfl⟩ := h
      simp [hm]
    · have : r ≠ q := fun e => hn.1 (e ▸ List.mem_map.2 ⟨_, h, rfl⟩)
      rw [if_neg this]
      exact turnM_self hn.2 h hm
theorem turnM_ext : ∀ {ts : List (Nat × List Nat)}, Ext m (turnM m ts)
  | [] => Ext.refl m
  | (q, bs) :: ts => fun r i hr => by
    simp only [turnM]
    split
    · rw [hr]
      cases i with
      | obj b bs0 => exact ⟨_, rfl, _, rfl⟩
      | deep v bs0 => exact ⟨_, rfl, _, rfl⟩
      | _ => exact ⟨_, rfl, rfl⟩
    · exact turnM_ext r i hr
theorem turnM_none : ∀ {ts : List (Nat × List Nat)} {r : Nat}, m r = none → turnM m ts r = none
  | [], _, h => h
  | (q, bs) :: ts, r, h => by
    simp only [turnM]
    split
    · rw [h]
    · exact turnM_none h
theorem turnM_some : ∀ {ts : List (Nat × List Nat)} {r : Nat} {i : Impl}, turnM m ts r = some i → m r = some i ∨ ∃ bl bs bs', m r = some (.obj bl bs) ∧ (r, bs') ∈ ts ∧ i = .obj bl bs'
  | [], _, _, h => .inl h
  | (q, bs) :: ts, r, i, h => by
    simp only [turnM] at h
    split at h
    · rename_i e; subst e
      cases hm : m r with
      | none => rw [hm] at h; simp at h
      | some j =>
        rw [hm] at h
        cases j with
        | obj bl bs0 => simp only [Option.some.injEq] at h; exact .inr ⟨bl, bs0, bs, rfl, by simp, h.symm⟩
        | _ => simp only [Option.some.injEq] at h; exact .inl (by rw [h])
    · rcases turnM_some h with h1 | ⟨bl, bs0, bs', h1, h2, h3⟩
      · exact .inl h1
      · exact .inr ⟨bl, bs0, bs', h1, by simp [h2], h3⟩
theorem flat_same : ∀ {ts : List (Nat × List Nat)}, (ts.flatMap (·.2)).Nodup → ∀ {p q : Nat × List Nat} {b : Nat}, p ∈ ts → q ∈ ts → b ∈ p.2 → b ∈ q.2 → p = q
  | [], _, _, _, _, hp, _, _, _ => by simp at hp
  | x :: ts, hn, p, q, b, hp, hq, h1, h2 => by
    simp only [List.flatMap_cons] at hn
    have hd := List.nodup_append.1 hn
    simp only [List.mem_cons] at hp hq
    rcases hp with rfl | hp <;> rcases hq with rfl | hq
    · rfl
    · exact absurd rfl (hd.2.2 b h1 b (List.mem_flatMap.2 ⟨_, hq, h2⟩))
    · exact absurd rfl (hd.2.2 b h2 b (List.mem_flatMap.2 ⟨_, hp, h1⟩))
    · exact flat_same hd.2.1 hp hq h1 h2
theorem mem_rts {r bl : Nat} {i : Impl} {rs : List Nat} (hr : r ∈ rs) (hi : m r = some i) (hb : bl ∈ i.roots) : bl ∈ rts m rs := List.mem_flatMap.2 ⟨r, hr, by rw [rt_some hi]; exact hb⟩

theorem call_turn (h : Rel P E m s a w) {ps : List PK} {rs : List RK} {x : Handed (RD PK.den ps)} {vals vs : List Value} {b : Back} {is : List Impl} {ts : List (Nat × List Nat)} {w' : World} {leads : Bool} {ok : Nat → Prop}
    (ha : HandsAll P m s w ok ps x vals) (hln : x.lent.Nodup) (hgo : Goes (· ∈ blks m x.refs) w w') (hbn : ((is.flatMap bk ++ ts.flatMap (·.2)) ++ rts m x.lent).Nodup)
    (hbb : ∀ b ∈ is.flatMap bk ++ ts.flatMap (·.2), b < w'.heap.size ∧ (b ∈ blks m x.refs ∨ w.heap.size ≤ b))
    (hg : Given P m w' (fun n => (n < w'.heap.size ∧ (okC E m s.mem w x.shown n ∨ n ∈ blks m x.refs ∨ w.heap.size ≤ n) ∧ n ∉ (is.flatMap bk ++ ts.flatMap (·.2)) ++ rts m x.lent) ∧ (leads = false → n ∉ blks m x.shown)) s.mem x.lent rs vs b is ts)
    (hid : ∀ id ∈ b.news.map (·.1), s.used id = false ∧ id < lentBase) (hids : (b.news.map (·.1)).Nodup) {μ' : Nat → Option C}
    (hμ : μ' = editMem (gone x.given ++ (cond leads (gone x.shown) [] ++ (puts b.backs ++ puts b.news))) s.mem) :
    ∃ m', Rel P E m' { s with mem := μ', used := addUsed (b.news.map (·.1)) s.used } a w' ∧ LReps P w' (okOf E m' μ' w') m' b.ls vs := by
  have hz : (b.news.zip is).map (·.1.1) = b.news.map (·.1) := zip_fst hg.len
  have hfresh : ∀ id ∈ b.news.map (·.1), m id = none := fun id hi => h.fresh (hid id hi).1
  generalize hOK : (fun n => (n < w'.heap.size ∧ (okC E m s.mem w x.shown n ∨ n ∈ blks m x.refs ∨ w.heap.size ≤ n) ∧ n ∉ (is.flatMap bk ++ ts.flatMap (·.2)) ++ rts m x.lent) ∧ (leads = false → n ∉ blks m x.shown)) = OK at hg
  have tsn : (ts.map (·.1)).Nodup := hln.sublist hg.turned
  have hbd := List.nodup_append.1 hbn
  have hbd1 := List.nodup_append.1 hbd.1
  let m' := withNews (turnM m ts) (b.news.zip is)
  have hnew : ∀ p ∈ b.news.zip is, m' p.1.1 = some p.2 := withNews_self (by rw [hz]; exact hids)
  have hold0 : ∀ r, r ∉ b.news.map (·.1) → m' r = turnM m ts r := fun r hr => withNews_other (by rw [hz]; exact hr)
  have hext : Ext m m' := fun r i hr => by
    have : r ∉ b.news.map (·.1) := fun hh => by rw [hfresh r hh] at hr; simp at hr
    rw [hold0 r this]; exact turnM_ext r i hr
  -- a lent thing: what it is now
  let Lent1 : Nat → C → Prop := fun r c => (∃ bl, m r = some (.var bl) ∧ m' r = some (.var bl) ∧ CRep P w' OK m' c (.var bl)) ∨ ∃ bl bs bs', m r = some (.obj bl bs) ∧ (r, bs') ∈ ts ∧ m' r = some (.obj bl bs') ∧ CRep P w' OK m' c (.obj bl bs')
  have subLent : ∀ r, r ∈ ts.map (·.1) → r ∈ x.lent := fun r hr => hg.turned.subset hr
  have lentRefs' : ∀ r, r ∈ x.lent → r ∈ x.refs := fun r hr => (ha.sub r).2 (.inr hr)
  have rootIn : ∀ {r i bl}, r ∈ x.lent → m r = some i → bl ∈ i.roots → bl ∈ rts m x.lent := fun hr hi hb => mem_rts hr hi hb
  have tsIn : ∀ {r bs' bl}, (r, bs') ∈ ts → bl ∈ bs' → bl ∈ ts.flatMap (·.2) := fun hr hb => List.mem_flatMap.2 ⟨_, hr, hb⟩
  have objNodup : ∀ {r bl bs bs'}, r ∈ x.lent → m r = some (.obj bl bs) → (r, bs') ∈ ts → (bl :: bs').Nodup := by
    intro r bl bs bs' hr hm ht
    refine List.nodup_cons.2 ⟨fun hh => ?_, ?_⟩
    · exact hbd.2.2 bl (by simp only [List.mem_append]; exact .inr (tsIn ht hh)) bl (rootIn hr hm (by simp [Impl.roots])) rfl
    · exact (List.sublist_flatten_of_mem (l := bs') (L := ts.map (·.2)) (List.mem_map.2 ⟨_, ht, rfl⟩)).nodup (by rw [← List.flatMap_def]; exact hbd1.2.1)
  have lentVar : ∀ {r bl}, r ∈ x.lent → m r = some (.var bl) → m' r = some (.var bl) := fun _ hm => hext.var hm
  have lentObj : ∀ {r bl bs bs'}, m r = some (.obj bl bs) → (r, bs') ∈ ts → m' r = some (.obj bl bs') := by
    intro r bl bs bs' hm ht
    have : r ∉ b.news.map (·.1) := fun hh => by rw [hfresh r hh] at hm; simp at hm
    rw [hold0 r this]
    exact turnM_self tsn ht hm
  -- what is alive afterwards
  have cls : ∀ r c, μ' r = some c → (∃ i, ((r, c), i) ∈ b.news.zip is) ∨ (r ∉ b.news.map (·.1) ∧ (s.mem r).isSome ∧ ((r ∈ x.lent ∧ Lent1 r c) ∨ (s.mem r = some c ∧ r ∉ x.refs ∧ (leads = true → r ∉ x.shown)))) := by
    intro r c hr
    rw [hμ, editMem_append, editMem_append, editMem_append] at hr
    rcases editMem_puts hr with h1 | ⟨h1, h2⟩
    · exact .inl (zip_mem hg.len _ h1)
    · rcases editMem_puts h2 with h3 | ⟨h3, h4⟩
      · obtain ⟨h5, h6⟩ := hg.back _ h3
        refine .inr ⟨h1, ha.alive r (by simp [lentRefs' r h5]), .inl ⟨h5, ?_⟩⟩
        rcases h6 with ⟨bl, h6, h7⟩ | ⟨bl, bs, bs', h6, h7, h8⟩
        · exact .inl ⟨bl, h6, lentVar h5 h6, h7 m' hext hnew⟩
        · exact .inr ⟨bl, bs, bs', h6, h7, lentObj h6 h7, h8 m' hnew (objNodup h5 h6 h7)⟩
      · have h5 : (leads = true → r ∉ x.shown) ∧ editMem (gone x.given) s.mem r = some c := by
          cases leads with
          | false => exact ⟨by simp, h4⟩
          | true => exact ⟨fun _ => (editMem_gone h4).1, (editMem_gone h4).2⟩
        obtain ⟨h6, h7⟩ := editMem_gone h5.2
        by_cases hl : r ∈ x.lent
        · obtain ⟨bl, h8, h9⟩ := hg.all r hl h3 c h7
          exact .inr ⟨h1, by simp [h7], .inl ⟨hl, .inl ⟨bl, h8, lentVar hl h8, h9 m' hext⟩⟩⟩
        · exact .inr ⟨h1, by simp [h7], .inr ⟨h7, fun hh => ((ha.sub r).1 hh).elim h6 hl, h5.1⟩⟩
  have hold : ∀ r, r ∉ b.news.map (·.1) → r ∉ x.refs → m' r = m r := fun r hr hr' => by
    rw [hold0 r hr]; exact turnM_other fun hh => hr' (lentRefs' r (subLent r hh))
  -- blocks
  have oldB : ∀ r i bl, (s.mem r).isSome → m r = some i → bl ∈ i.blocks → bl < w.heap.size ∧ (E.V0 bl ∨ E.w0.heap.size ≤ bl) := by
    intro r i bl hr hi hb
    obtain ⟨c, hc⟩ := Option.isSome_iff_exists.1 hr
    obtain ⟨i', h1, _, h3⟩ := h.mem r c hc
    rw [hi] at h1; simp at h1; subst h1
    exact h3 bl hb
  have inj : ∀ r r' i i' bl, (s.mem r).isSome → (s.mem r').isSome → m r = some i → m r' = some i' → bl ∈ i.blocks → bl ∈ i'.blocks → r = r' := by
    intro r r' i i' bl hr hr' hi hi' hb hb'
    obtain ⟨c, hc⟩ := Option.isSome_iff_exists.1 hr
    obtain ⟨c', hc'⟩ := Option.isSome_iff_exists.1 hr'
    exact h.inj r r' c c' i i' bl hc hc' hi hi' hb hb'
  have aliveR : ∀ r ∈ x.refs, (s.mem r).isSome := fun r hr => ha.alive r (by simp [hr])
  have inRefs : ∀ r i bl, (s.mem r).isSome → m r = some i → bl ∈ i.blocks → bl ∈ blks m x.refs → r ∈ x.refs := by
    intro r i bl hr hi hb hbl
    obtain ⟨r', hr', i', hi', hb'⟩ := mem_blks hbl
    have := inj r r' i i' bl hr (aliveR r' hr') hi hi' hb hb'
    subst this; exact hr'
  have newMem : ∀ p ∈ b.news.zip is, ∀ bl, bl ∈ p.2.blocks → bl ∈ is.flatMap bk := fun p hp bl hb => List.mem_flatMap.2 ⟨p.2, (List.of_mem_zip hp).2, by simp [bk, hb]⟩
  -- a lent thing's blocks: its root as it was, and what stands behind it now
  have lentBlocks : ∀ {r c i bl}, r ∈ x.lent → Lent1 r c → m' r = some i → bl ∈ i.blocks → (bl ∈ rts m x.lent ∧ ∃ i0, m r = some i0 ∧ bl ∈ i0.blocks) ∨ ∃ bs', (r, bs') ∈ ts ∧ bl ∈ bs' := by
    intro r c i bl hr hl hi hb
    rcases hl with ⟨bl0, h1, h2, _⟩ | ⟨bl0, bs, bs', h1, h2, h3, _⟩
    · rw [h2] at hi; simp at hi; subst hi
      simp only [Impl.blocks, List.mem_singleton] at hb; subst hb
      exact .inl ⟨rootIn hr h1 (by simp [Impl.roots, Impl.blocks]), _, h1, by simp [Impl.blocks]⟩
    · rw [h3] at hi; simp at hi; subst hi
      simp only [Impl.blocks, List.mem_cons] at hb
      rcases hb with rfl | hb
      · exact .inl ⟨rootIn hr h1 (by simp [Impl.roots]), _, h1, by simp [Impl.blocks]⟩
      · exact .inr ⟨bs', h2, hb⟩
  -- nothing fine belongs to a block of the function's own
  have notV : ∀ n, n ∉ (is.flatMap bk ++ ts.flatMap (·.2)) ++ rts m x.lent → ((∀ r i, (s.mem r).isSome → m r = some i → n ∈ i.blocks → r ∈ x.refs ∨ (leads = true ∧ r ∈ x.shown))) → ¬ Vof m' μ' n := by
    rintro n hn hr ⟨r, c, i, h1, h2, h3⟩
    simp only [List.mem_append, not_or] at hn
    rcases cls r c h1 with ⟨j, hj⟩ | ⟨h4, h5, h6⟩
    · have := hnew _ hj
      rw [h2] at this; simp at this; subst this
      exact hn.1.1 (newMem _ hj n h3)
    · rcases h6 with ⟨h6, h7⟩ | ⟨_, h6, h7⟩
      · rcases lentBlocks h6 h7 h2 h3 with ⟨h8, _⟩ | ⟨bs', h8, h9⟩
        · exact hn.2 h8
        · exact hn.1.2 (tsIn h8 h9)
      · rw [hold r h4 h6] at h2
        rcases hr r i h5 h2 h3 with h8 | ⟨h8, h9⟩
        · exact h6 h8
        · exact h7 h8 h9
  have notBig : ∀ n, w.heap.size ≤ n → ∀ r i, (s.mem r).isSome → m r = some i → n ∈ i.blocks → False := fun n hn r i hr hi hb => absurd (oldB r i n hr hi hb).1 (Nat.not_lt.2 hn)
  have okStay : ∀ n, okOf E m s.mem w n → w'.heap[n]? = w.heap[n]? ∧ ¬ Vof m' μ' n := by
    intro n hn
    have hv : ∀ r i, (s.mem r).isSome → m r = some i → n ∈ i.blocks → False := by
      intro r i hr hi hb
      obtain ⟨c, hc⟩ := Option.isSome_iff_exists.1 hr
      exact hn.2.2 ⟨r, c, i, hc, hi, hb⟩
    have h1 : n ∉ blks m x.refs := fun hh => by obtain ⟨r, hr, i, hi, hb⟩ := mem_blks hh; exact hv r i (aliveR r hr) hi hb
    refine ⟨hgo.block n hn.1 h1, notV n ?_ fun r i hr hi hb => (hv r i hr hi hb).elim⟩
    rw [List.mem_append, not_or]
    refine ⟨fun hh => ?_, fun hh => ?_⟩
    · rcases (hbb n hh).2 with h2 | h2
      · exact h1 h2
      · exact absurd hn.1 (Nat.not_lt.2 h2)
    · obtain ⟨r, hr, i, hi, hb⟩ := mem_blks ((rts_sub m x.lent).subset hh)
      exact hv r i (aliveR r ((ha.sub r).2 (.inr hr))) hi hb
  have okNew : ∀ n, OK n → okOf E m' μ' w' n := by
    subst hOK
    rintro n ⟨⟨h1, h2, h3⟩, h4⟩
    rcases h2 with (h2 | ⟨r, hr, i, hi, hb⟩) | h2 | h2
    · exact ⟨h1, h2.2.1, (okStay n h2).2⟩
    · have al := ha.alive r (by simp [hr])
      refine ⟨h1, .inr (oldB r i n al hi hb).2, notV n h3 fun r' i' hr' hi' hb' => ?_⟩
      have := inj r r' i i' n al hr' hi hi' hb hb'
      subst this
      cases hl : leads with
      | true => exact .inr ⟨rfl, hr⟩
      | false => exact absurd (List.mem_flatMap.2 ⟨r, hr, by simp [blk, hi, hb]⟩) (h4 hl)
    · obtain ⟨r, hr, i, hi, hb⟩ := mem_blks h2
      refine ⟨h1, .inr (oldB r i n (aliveR r hr) hi hb).2, notV n h3 fun r' i' hr' hi' hb' => ?_⟩
      have := inj r r' i i' n (aliveR r hr) hr' hi hi' hb hb'
      subst this
      exact .inl hr
    · exact ⟨h1, .inr (.inr (Nat.le_trans h.goes.size h2)), notV n h3 fun r' i' hr' hi' hb' => (notBig n h2 r' i' hr' hi' hb').elim⟩
  have weak : ∀ {c : C} {i : Impl}, CRep P w' OK m' c i → CRep P w' (okOf E m' μ' w') m' c i := fun hc => hc.mono (Keeps.weaken okNew) (Ext.refl m') (fun _ _ => rfl)
  have keep : Keeps w w' (okOf E m s.mem w) (okOf E m' μ' w') := h.keeps hgo.size okStay
  have shp : ∀ p ∈ b.news.zip is, p.2.shape := fun p hp => hg.shape _ (List.of_mem_zip hp).2 ((List.sublist_flatten_of_mem (l := bk p.2) (L := is.map bk) (List.mem_map.2 ⟨_, (List.of_mem_zip hp).2, rfl⟩)).nodup (by rw [← List.flatMap_def]; exact hbd1.1))
  have oldRefs : ∀ {bl}, bl ∈ blks m x.refs → E.V0 bl ∨ E.w0.heap.size ≤ bl := fun hh => by
    obtain ⟨r', hr', i', hi', hb'⟩ := mem_blks hh
    exact (oldB r' i' _ (aliveR r' hr') hi' hb').2
  have ownB : ∀ {bl}, bl ∈ is.flatMap bk ++ ts.flatMap (·.2) → bl < w'.heap.size ∧ (E.V0 bl ∨ E.w0.heap.size ≤ bl) := fun hh => by
    obtain ⟨h7, h8⟩ := hbb _ hh
    exact ⟨h7, h8.elim oldRefs fun h8 => .inr (Nat.le_trans h.goes.size h8)⟩
  refine ⟨m', ?_, (hg.ls m' hnew).mono (Keeps.weaken okNew) (Ext.refl m')⟩
  refine h.turn hext ?_ ?_ hgo.size hgo.os hgo.tape hgo.output okStay ?_ ?_ ?_ ?_
  · intro r hr
    apply addUsed_true
    by_cases hh : r ∈ b.news.map (·.1)
    · exact .inl hh
    · refine .inr (h.used r fun e => ?_)
      rw [hold0 r hh, turnM_none e] at hr; exact hr rfl
  · intro n hn hv
    refine hgo.block n (Nat.lt_of_lt_of_le hn h.goes.size) fun hh => ?_
    rcases oldRefs hh with h1 | h1
    · exact hv h1
    · omega
  · intro r c hr
    rcases cls r c hr with ⟨i, hi⟩ | ⟨h4, h5, h6⟩
    · exact ⟨i, hnew _ hi, weak (hg.new m' hext hnew _ hi (shp _ hi)), fun bl hb => ownB (List.mem_append.2 (.inl (newMem _ hi bl hb)))⟩
    · rcases h6 with ⟨h6, h7⟩ | ⟨h6, h7, _⟩
      · have key : ∃ i, m' r = some i ∧ CRep P w' OK m' c i := by
          rcases h7 with ⟨bl, _, h8, h9⟩ | ⟨bl, bs, bs', _, _, h8, h9⟩
          · exact ⟨_, h8, h9⟩
          · exact ⟨_, h8, h9⟩
        obtain ⟨i, h8, h9⟩ := key
        refine ⟨i, h8, weak h9, fun bl hb => ?_⟩
        rcases lentBlocks h6 h7 h8 hb with ⟨_, i0, h10, h11⟩ | ⟨bs', h10, h11⟩
        · obtain ⟨h12, h13⟩ := oldB r i0 bl h5 h10 h11
          exact ⟨Nat.lt_of_lt_of_le h12 hgo.size, h13⟩
        · exact ownB (List.mem_append.2 (.inr (tsIn h10 h11)))
      · obtain ⟨i, h8, h9, h10⟩ := h.mem r c h6
        refine ⟨i, (hold r h4 h7).trans h8, h9.mono keep hext (fun bl hb => ?_), fun bl hb => ⟨Nat.lt_of_lt_of_le (h10 bl hb).1 hgo.size, (h10 bl hb).2⟩⟩
        exact hgo.block bl (h10 bl hb).1 fun hh => h7 (inRefs r i bl h5 h8 hb hh)
  · intro r r' c c' i i' bl hr hr' hi hi' hb hb'
    -- what is new against the rest
    have crossN : ∀ {r r' : Nat} {c c' : C} {i i' : Impl}, ((∃ j, ((r, c), j) ∈ b.news.zip is)) → m' r = some i → bl ∈ i.blocks →
        (r' ∉ b.news.map (·.1) ∧ (s.mem r').isSome ∧ ((r' ∈ x.lent ∧ Lent1 r' c') ∨ (s.mem r' = some c' ∧ r' ∉ x.refs ∧ (leads = true → r' ∉ x.shown)))) → m' r' = some i' → bl ∈ i'.blocks → False := by
      rintro r r' c c' i i' ⟨j, hj⟩ hi hb ⟨h4, h5, h6⟩ hi' hb'
      have e := hnew _ hj
      rw [hi] at e; simp at e; subst e
      have h7 := newMem _ hj bl hb
      rcases h6 with ⟨h6, h8⟩ | ⟨_, h6, _⟩
      · rcases lentBlocks h6 h8 hi' hb' with ⟨h9, _⟩ | ⟨bs', h9, h10⟩
        · exact hbd.2.2 bl (List.mem_append.2 (.inl h7)) bl h9 rfl
        · exact hbd1.2.2 bl h7 bl (tsIn h9 h10) rfl
      · rw [hold r' h4 h6] at hi'
        rcases (hbb bl (List.mem_append.2 (.inl h7))).2 with h8 | h8
        · exact h6 (inRefs r' i' bl h5 hi' hb' h8)
        · exact notBig bl h8 r' i' h5 hi' hb'
    -- what was lent against what was neither lent nor given
    have crossL : ∀ {r r' : Nat} {c c' : C} {i i' : Impl}, r ∈ x.lent → (s.mem r).isSome → Lent1 r c → m' r = some i → bl ∈ i.blocks → r' ∉ b.news.map (·.1) → (s.mem r').isSome → r' ∉ x.refs → m' r' = some i' → bl ∈ i'.blocks → False := by
      intro r r' c c' i i' h1 h2 h3 hi hb h4 h5 h6 hi' hb'
      rw [hold r' h4 h6] at hi'
      rcases lentBlocks h1 h3 hi hb with ⟨_, i0, h10, h11⟩ | ⟨bs', h10, h11⟩
      · have := inj r r' i0 i' bl h2 h5 h10 hi' h11 hb'
        subst this
        exact h6 (lentRefs' r h1)
      · rcases (hbb bl (List.mem_append.2 (.inr (tsIn h10 h11)))).2 with h8 | h8
        · exact h6 (inRefs r' i' bl h5 hi' hb' h8)
        · exact notBig bl h8 r' i' h5 hi' hb'
    rcases cls r c hr with h1 | h1 <;> rcases cls r' c' hr' with h2 | h2
    · obtain ⟨j, hj⟩ := h1
      obtain ⟨j', hj'⟩ := h2
      have e := hnew _ hj
      rw [hi] at e; simp at e; subst e
      have e := hnew _ hj'
      rw [hi'] at e; simp at e; subst e
      exact zip_inj hbd1.1 hj hj' hb hb'
    · exact (crossN h1 hi hb h2 hi' hb').elim
    · exact (crossN h2 hi' hb' h1 hi hb).elim
    · obtain ⟨a1, a2, a3⟩ := h1
      obtain ⟨b1, b2, b3⟩ := h2
      rcases a3 with ⟨a3, a4⟩ | ⟨a3, a4, _⟩ <;> rcases b3 with ⟨b3, b4⟩ | ⟨b3, b4, _⟩
      · rcases lentBlocks a3 a4 hi hb with ⟨h3, i0, h5, h6⟩ | ⟨bs1, h5, h6⟩ <;> rcases lentBlocks b3 b4 hi' hb' with ⟨h7, j0, h8, h9⟩ | ⟨bs2, h8, h9⟩
        · exact inj r r' i0 j0 bl a2 b2 h5 h8 h6 h9
        · exact absurd rfl (hbd.2.2 bl (List.mem_append.2 (.inr (tsIn h8 h9))) bl h3)
        · exact absurd rfl (hbd.2.2 bl (List.mem_append.2 (.inr (tsIn h5 h6))) bl h7)
        · exact congrArg Prod.fst (flat_same hbd1.2.1 h5 h8 h6 h9)
      · exact (crossL (c' := c') a3 a2 a4 hi hb b1 b2 b4 hi' hb').elim
      · exact (crossL (c' := c) b3 b2 b4 hi' hb' a1 a2 a4 hi hb).elim
      · exact inj r r' i i' bl a2 b2 ((hold r a1 a4) ▸ hi) ((hold r' b1 b4) ▸ hi') hb hb'
  · intro r hr hl
    obtain ⟨c, hc⟩ := Option.isSome_iff_exists.1 hr
    rcases cls r c hc with ⟨i, hi⟩ | h1
    · have : r ∈ b.news.map (·.1) := List.mem_map.2 ⟨(r, c), (List.of_mem_zip hi).1, rfl⟩
      exact absurd (hid r this).2 (Nat.not_lt.2 hl)
    · exact h1.2.1
  · intro r i hr
    rcases withNews_some hr with ⟨p, hp, _, h2⟩ | h1
    · subst h2; exact shp p hp
    · rcases turnM_some h1 with h3 | ⟨bl, bs, bs', h3, h2, rfl⟩
      · exact h.shape r i h3
      · exact objNodup (subLent r (List.mem_map.2 ⟨_, h2, rfl⟩)) h3 h2
end
end Go.GG
