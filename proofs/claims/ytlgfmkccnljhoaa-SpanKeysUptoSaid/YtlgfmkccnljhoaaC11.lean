/- append and texts, as operations. -/
import Derived.Test.YtlgfmkccnljhoaaC10
import Derived.Lib.SlBytesConst
namespace Go.GG
open Go.RowKit
section
variable {P : Program} {E : Entry} {m : IMap} {s : St} {a : Act} {w : World}
theorem below_drew (w : World) : Below w.heap.size w w.drew := (Below.refl _ w).drew
theorem keeps_back {w : World} {ok : Nat → Prop} : Keeps w.drew w ok ok := fun _ h => ⟨h, rfl⟩
theorem run_append {dst : Option Nat} {x y : Operand} {sT xT ty : TypeId} {pos : String} {after : Array Edge} {guard : Option (Nat × Bool)} {v : Value} {w' : World}
    (h : (Builtin.append_ #[sT, xT] ty #[a.eval x, a.eval y]).run P w = .ok v w') :
    (execOp a.eval ⟨dst, .call { callee := .builtin .append, args := #[x, y], argTypes := #[sT, xT] }, ty, pos, after, guard⟩).run P w = .ok (.value v) w' := by
  simp [execOp, resolve, invoke, builtin, h]
/-- The new row of an append that does not fit. -/
theorem append_row {o : Oper} (h : Rel P E m s a w) (hd : ∀ n, o.dst = some n → n < E.N) {id : Nat} (hid : s.used id = false) (hlt : id < lentBase) {t : T} {xs more : List t.den} {us vs zs : List Value} {e : TypeId} {cap : Nat}
    (hu : Row w (okOf E m s.mem w) t xs us) (hv : Row w (okOf E m s.mem w) t more vs) (hcap : xs.length + more.length ≤ cap) (hz : zs.length = (cap - (xs.length + more.length)) * t.cnt)
    (hr : (execOp a.eval o).run P w = .ok (.value (.slice (some ⟨w.heap.size, 0, none⟩) (xs.length + more.length) cap)) (w.drew.alloc (.cells (us ++ vs ++ zs).toArray e))) :
    Does P E o s a w ⟨.sref id, [(id, some (.arr t (xs ++ more)))], [id]⟩ := by
  have hrow := hu.append hv
  have hlen : (us ++ vs ++ zs).length = cap * t.cnt := by
    rw [List.length_append, hrow.len, hz, List.length_append, ← Nat.add_mul]
    congr 1; omega
  refine does_row (w1 := w.drew) (fr := (0, 0)) (e := e) (cs := us ++ vs ++ zs) (cap := cap) h hd hid hlt (below_drew w) rfl (by simpa using hcap) (by omega) (.inl rfl) (fun i x hi => ?_) (by simpa using hr)
  obtain ⟨ds, h1, h2⟩ := hrow.el i x hi
  refine ⟨ds, h1, fun j u hu' => ?_⟩
  have := h2 j u hu'
  rw [List.getElem?_append_left (List.getElem?_eq_some_iff.1 this).1]
  exact this
/-! Elements written over a row's own. -/
theorem splice_getE {α : Type} {xs ys : List α} {lo : Nat} (hlo : lo ≤ xs.length) (i : Nat) : (splice xs lo ys)[i]? = if i < lo then xs[i]? else if i < lo + ys.length then ys[i - lo]? else xs[i]? := by
  unfold splice
  by_cases h1 : i < lo
  · rw [if_pos h1, List.append_assoc, List.getElem?_append_left (by simp; omega), List.getElem?_take, if_pos h1]
  · rw [if_neg h1]
    by_cases h2 : i < lo + ys.length
    · rw [if_pos h2, List.append_assoc, List.getElem?_append_right (by simp; omega), List.getElem?_append_left (by simp; omega)]
      congr 1; simp; omega
    · rw [if_neg h2, List.getElem?_append_right (by simp; omega), List.getElem?_drop]
      congr 1; simp; omega
theorem splice_len {α : Type} {xs ys : List α} {lo : Nat} (hlo : lo ≤ xs.length) : (splice xs lo ys).length = max xs.length (lo + ys.length) := by simp [splice]; omega
theorem splice_nil {α : Type} (xs : List α) (lo : Nat) : splice xs lo [] = xs := by simp [splice]
theorem splice_row {w : World} {ok : Nat → Prop} {t : T} {xs ys : List t.den} {b : Nat} {C : Array Value} {e : TypeId} {fr : Nat × Nat} {vs : List Value} {lo : Nat} (hh : w.heap[b]? = some (.cells C e fr)) (hfr : FrOk t C.size fr)
    (hel : ∀ i x, xs[i]? = some x → ∃ ds, t.holds w ok x ds ∧ ∀ j u, ds[j]? = some u → C[i * t.cnt + j]? = some u) (hv : Row w ok t ys vs) (hlo : lo ≤ xs.length) (hc : (lo + ys.length) * t.cnt ≤ C.size) :
    ∃ C' : Array Value, (storeCells ⟨b, lo * t.cnt, none⟩ vs).run P w = .ok () (w.setRow b C') ∧ C'.size = C.size ∧
      ∀ i x, (splice xs lo ys)[i]? = some x → ∃ ds, t.holds w ok x ds ∧ ∀ j u, ds[j]? = some u → C'[i * t.cnt + j]? = some u := by
  have hpos := cnt_pos t
  have hsz : lo * t.cnt + vs.length ≤ C.size := by rw [hv.len, ← Nat.add_mul]; exact hc
  have hst := run_storeAt (P := P) b (lo * t.cnt) e fr vs 0 C w hh hfr.free (by omega) hv.one
  simp only [Nat.add_zero] at hst
  refine ⟨_, hst, by simp; omega, fun i x hi => ?_⟩
  have hsp := splice_get (C := C.toList) (v := vs) (p := lo * t.cnt) (by simpa using hsz)
  rw [splice_getE hlo] at hi
  simp only [List.getElem?_toArray]
  split at hi
  · rename_i hlt
    obtain ⟨ds, hd1, hd2⟩ := hel i x hi
    have hdl := T.holds_len hd1
    refine ⟨ds, hd1, fun j u hu => ?_⟩
    have hj : j < t.cnt := by rw [← hdl]; exact (List.getElem?_eq_some_iff.1 hu).1
    have : (i + 1) * t.cnt ≤ lo * t.cnt := Nat.mul_le_mul_right _ hlt
    rw [Nat.add_mul] at this
    rw [hsp, if_pos (by omega)]
    simpa using hd2 j u hu
  · rename_i hge
    split at hi
    · rename_i hlt
      obtain ⟨ds, hd1, hd2⟩ := hv.el _ x hi
      have hdl := T.holds_len hd1
      refine ⟨ds, hd1, fun j u hu => ?_⟩
      have hj : j < t.cnt := by rw [← hdl]; exact (List.getElem?_eq_some_iff.1 hu).1
      have e1 : i * t.cnt = lo * t.cnt + (i - lo) * t.cnt := by rw [← Nat.add_mul]; congr 1; omega
      have e2 : (i - lo + 1) * t.cnt ≤ ys.length * t.cnt := Nat.mul_le_mul_right _ (by omega)
      rw [Nat.add_mul] at e2
      rw [hsp, if_neg (by omega), if_pos (by rw [hv.len]; omega), ← hd2 j u hu]
      congr 1; omega
    · rename_i hge2
      obtain ⟨ds, hd1, hd2⟩ := hel i x hi
      have hdl := T.holds_len hd1
      refine ⟨ds, hd1, fun j u hu => ?_⟩
      have e2 : (lo + ys.length) * t.cnt ≤ i * t.cnt := Nat.mul_le_mul_right _ (by omega)
      rw [Nat.add_mul] at e2
      rw [hsp, if_neg (by omega), if_neg (by rw [hv.len]; omega)]
      simpa using hd2 j u hu
theorem addUsed_keep : ∀ (al : List Nat) (u : Nat → Bool) (r : Nat), u r = true → addUsed al u r = true
  | [], _, _, h => h
  | x :: al, u, r, h => by
    refine addUsed_keep al _ r ?_
    cases hb : Nat.beq r x with
    | true => rfl
    | false => exact h
theorem Rel.more (h : Rel P E m s a w) (al : List Nat) : Rel P E m { s with used := addUsed al s.used } a w :=
  ⟨h.env, h.mem, h.inj, fun r hr => addUsed_keep al _ r (h.used r hr), h.lent, h.goes, h.size, h.defers, h.shape⟩
theorem write_does {o : Oper} (al : List Nat) (h : Rel P E m s a w) (hd : ∀ n, o.dst = some n → n < E.N) {r cnt lo n : Nat} {v u : Value} {l : L} {t : T} {xs ys : List t.den} {vs : List Value} {c' : C}
    (hX : LRep P w (okOf E m s.mem w) m (.vw r cnt lo n) v) (hcnt : t.cnt = cnt) (hyn : ys.length ≤ n) (hv : Row w (okOf E m s.mem w) t ys vs)
    (hcase : (s.mem r = some (.arr t xs) ∧ lo + n ≤ xs.length ∧ c' = .arr t (splice xs lo ys)) ∨ (∃ c0, s.mem r = some (.blk t xs c0) ∧ lo + n ≤ c0 ∧ lo ≤ xs.length ∧ c' = .blk t (splice xs lo ys) c0))
    (hrun : ∀ A c w', v = .slice A n c → (match A with | some ad => storeCells ad vs | none => pure ()).run P w = .ok () w' → (execOp a.eval o).run P w = .ok (.value u) w')
    (hl : ∀ w' ok' m', Ext m m' → LRep P w' ok' m' l u) : Does P E o s a w ⟨l, [(r, some c')], al⟩ := by
  subst hcnt
  by_cases hys : ys = []
  · subst hys
    have hvs : vs = [] := by have := hv.len; simpa using this
    subst hvs
    have hmem : editMem [(r, some c')] s.mem = s.mem := by
      funext r'
      simp only [editMem]
      cases hb : Nat.beq r' r with
      | false => rfl
      | true =>
        have := Nat.eq_of_beq_eq_true hb
        subst this
        rw [splice_nil] at hcase
        rcases hcase with ⟨h1, _, h2⟩ | ⟨c0, h1, _, _, h2⟩ <;> rw [h1, h2] <;> rfl
    obtain ⟨A, c, k, _, rfl, _⟩ := hX
    have hr := hrun _ _ w rfl (by split <;> rfl)
    refine does_turn (m' := m) (w' := w) hd hr ?_ (hl _ _ _ (Ext.refl m))
    rw [hmem]; exact h.more al
  · have hn : 0 < n := by have := List.length_pos_iff.2 hys; omega
    have hlen : 0 < ys.length := List.length_pos_iff.2 hys
    rcases hcase with ⟨hr, hle, rfl⟩ | ⟨c0, hr, hle, hlo, rfl⟩
    · obtain ⟨i, h1, h2, _⟩ := h.mem r _ hr
      obtain ⟨A, c, k, hm, rfl, hk⟩ := hX
      rcases hm with hm | ⟨n0, hm⟩ <;> (rw [hm] at h1; simp at h1; subst h1; simp only [CRep] at h2)
      rcases h2 with ⟨hn', hx'⟩ | ⟨b, C, e, fr, cap, hsl, hc1, hc2, hh, hfr, hel⟩
      · subst hx'; simp at hle; omega
      simp only [Value.slice.injEq] at hsl
      obtain ⟨rfl, rfl, rfl⟩ := hsl
      have hcc : (lo + ys.length) * t.cnt ≤ C.size := Nat.le_trans (Nat.mul_le_mul_right _ (by omega)) hc2
      obtain ⟨C', h3, h4, h5⟩ := splice_row (P := P) hh hfr hel hv (by omega) hcc
      obtain rfl : k = lo * t.cnt := hk.resolve_left (by omega)
      have hadr : (some (⟨b, 0, none⟩ : Addr)).map (·.add (lo * t.cnt)) = some ⟨b, lo * t.cnt, none⟩ := by
        simp only [Option.map_some, add_plain, Nat.zero_add]
      have hrr := hrun _ _ _ rfl (by rw [hadr]; exact h3)
      have hedit := h.edit (c' := .arr t (splice xs lo ys)) hr hm rfl (w' := w.setRow b C') (fun k hk => setRow_other w b k _ hk) (by simp) rfl rfl rfl (fun ok' hk => by
        refine .inr ⟨b, C', e, fr, c, ?_, ?_, by rw [h4]; exact hc2, setRow_heap w b _ _ e _ hh, by rw [h4]; exact hfr, fun i x hi => ?_⟩
        · rw [splice_len (by omega)]; congr 1; omega
        · rw [splice_len (by omega)]; omega
        · obtain ⟨ds, g1, g2⟩ := h5 i x hi
          exact ⟨ds, T.holds_mono hk g1, g2⟩)
      exact does_turn (m' := m) hd hrr (hedit.more al) (hl _ _ _ (Ext.refl m))
    · obtain ⟨i, h1, h2, _⟩ := h.mem r _ hr
      obtain ⟨A, c, k, hm, rfl, hk⟩ := hX
      rcases hm with hm | ⟨n0, hm⟩ <;> (rw [hm] at h1; simp at h1; subst h1; simp only [CRep] at h2)
      obtain ⟨rfl, h2⟩ := h2
      rcases h2 with ⟨hn', hx'⟩ | ⟨b, C, e, fr, cap, hsl, hc1, hc2, hh, hfr, hel⟩
      · simp only [Value.slice.injEq] at hn'; omega
      simp only [Value.slice.injEq] at hsl
      obtain ⟨rfl, _, rfl⟩ := hsl
      have hcc : (lo + ys.length) * t.cnt ≤ C.size := Nat.le_trans (Nat.mul_le_mul_right _ (by omega)) hc2
      obtain ⟨C', h3, h4, h5⟩ := splice_row (P := P) hh hfr hel hv hlo hcc
      obtain rfl : k = lo * t.cnt := hk.resolve_left (by omega)
      have hadr : (some (⟨b, 0, none⟩ : Addr)).map (·.add (lo * t.cnt)) = some ⟨b, lo * t.cnt, none⟩ := by
        simp only [Option.map_some, add_plain, Nat.zero_add]
      have hrr := hrun _ _ _ rfl (by rw [hadr]; exact h3)
      have hedit := h.edit (c' := .blk t (splice xs lo ys) c0) hr hm rfl (w' := w.setRow b C') (fun k hk => setRow_other w b k _ hk) (by simp) rfl rfl rfl (fun ok' hk => by
        refine ⟨rfl, .inr ⟨b, C', e, fr, c0, rfl, ?_, by rw [h4]; exact hc2, setRow_heap w b _ _ e _ hh, by rw [h4]; exact hfr, fun i x hi => ?_⟩⟩
        · rw [splice_len hlo]; omega
        · obtain ⟨ds, g1, g2⟩ := h5 i x hi
          exact ⟨ds, T.holds_mono hk g1, g2⟩)
      exact does_turn (m' := m) hd hrr (hedit.more al) (hl _ _ _ (Ext.refl m))
theorem append_does {dst : Nat} {x y : Operand} {sT xT ty e : TypeId} {pos : String} {after : Array Edge} {guard : Option (Nat × Bool)} (h : Rel P E m s a w) (hd : dst < E.N) (hid : s.used dst = false) (hlt : dst < lentBase)
    {i j ei : TI} (hs : TOk P sT i) (hsk : i.kind = .slice e) (hx : TOk P xT j) (hxk : j.kind.isText = true) (hte : TOk P e ei) (hb0 : ei.bytes ≠ 0) {t : T} (hcnt : t.cnt = ei.size) {more : List t.den} (hm : Ev (appended t (ev s y)) s.mem more)
    {res : Res} (he : Ev (appendOp dst t ei.bytes (ev s x) more) s.mem res) :
    Does P E ⟨some dst, .call { callee := .builtin .append, args := #[x, y], argTypes := #[sT, xT] }, ty, pos, after, guard⟩ s a w res := by
  have hd' : ∀ n, (some dst : Option Nat) = some n → n < E.N := by intro n hn; simp at hn; omega
  have h2 := h.grow (below_drew w)
  obtain ⟨vs, hl, hv, hf⟩ := src_appended h hm (h.eval y)
  obtain ⟨vs2, hl2, hv2, hf2⟩ := src_appended h2 hm (h2.eval y)
  have hv2' : Row w (okOf E m s.mem w) t more vs2 := hv2.mono keeps_back
  rw [hcnt] at hf hf2
  have hX := h.eval x
  -- the row that does not fit
  have new : ∀ (A : Option Addr) (n cap : Nat) (xs : List t.den) (μ' : Nat → Option C), a.eval x = .slice A n cap → n = xs.length → cap < n + more.length → room (xs ++ more).length ei.bytes = true →
      (∀ r c, μ' r = some c → s.mem r = some c) → (∃ us, Row w.drew (okOf E m s.mem w.drew) t xs us ∧ (Builtin.firstCells t.cnt n (.slice A n cap)).run P w.drew = .ok us.toArray w.drew) →
      Does P E ⟨some dst, .call { callee := .builtin .append, args := #[x, y], argTypes := #[sT, xT] }, ty, pos, after, guard⟩ { s with mem := μ' } a w ⟨.sref dst, [(dst, some (.arr t (xs ++ more)))], [dst]⟩ := by
    rintro A n cap xs μ' hev rfl hgt hroom hμ ⟨us, hu, ho⟩
    rw [hcnt] at ho
    have hr : (xs.length + more.length) * ei.bytes ≤ 140737488355328 := by
      have := of_decide_eq_true hroom
      simpa using this
    obtain ⟨newCap, h3, zs, h4, h5⟩ := append_new (ty := ty) hs hsk hx hxk hte hb0 hl hf2 ho hgt hr
    rw [← hev] at h5
    have hk : Keeps w w (okOf E m s.mem w) (okOf E m μ' w) := Keeps.weaken (ok_drop hμ)
    exact append_row (h.drop hμ) hd' hid hlt ((hu.mono keeps_back).mono hk) (hv2'.mono hk) h3 (by rw [hcnt]; exact h4) (run_append h5)
  have fit : ∀ (A : Option Addr) (n cap : Nat), a.eval x = .slice A n cap → n + more.length ≤ cap → ∀ w', (match A with | some ad => storeCells (ad.add (n * ei.size)) vs | none => pure ()).run P w = .ok () w' →
      (execOp a.eval ⟨some dst, .call { callee := .builtin .append, args := #[x, y], argTypes := #[sT, xT] }, ty, pos, after, guard⟩).run P w = .ok (.value (.slice A (n + more.length) cap)) w' := by
    intro A n cap hev hle w' hst
    have := append_in (ty := ty) hs hsk hx hxk hte hl hf hle hst
    rw [← hev] at this
    exact run_append this
  -- a row of the state's own
  have own : ∀ (r : Nat) (c : C) (xs : List t.den) (v : Value), s.mem r = some c → m r = some (.arr v) → OwnRow w (okOf E m s.mem w) t xs v → a.eval x = v → room (xs ++ more).length ei.bytes = true →
      Does P E ⟨some dst, .call { callee := .builtin .append, args := #[x, y], argTypes := #[sT, xT] }, ty, pos, after, guard⟩ s a w ⟨.sref dst, [(r, none), (dst, some (.arr t (xs ++ more)))], [dst]⟩ := by
    intro r c xs v hrc hmr ho hev hroom
    have hμ : ∀ r' c', editMem [(r, none)] s.mem r' = some c' → s.mem r' = some c' := fun r' c' h' => (editMem_none (by simp) h').1
    have ho2 : OwnRow w.drew (okOf E m s.mem w.drew) t xs v := OwnRow.mono (w := w) (ok := okOf E m s.mem w) (fun b hb => ⟨hb, rfl⟩) (fun _ _ => rfl) ho
    obtain ⟨A, cap, rfl, hc1, _⟩ := own_form ho
    by_cases hgt : cap < xs.length + more.length
    · refine does_drop (gone := [(r, none)]) rfl (new A _ cap xs _ hev rfl hgt hroom hμ ?_)
      obtain ⟨_, us, h3, h4⟩ := src_own (P := P) ho2
      exact ⟨us, h3, h4⟩
    · rcases ho with ⟨hn, hxs⟩ | ⟨b, C, e', fr, cap', hn, h3, h4, hh, hfr, hel⟩
      · subst hxs
        simp only [Value.slice.injEq] at hn
        obtain ⟨rfl, _, rfl⟩ := hn
        have : more = [] := by
          cases more with
          | nil => rfl
          | cons z zs => simp at hgt
        subst this
        refine does_drop (gone := [(r, none)]) rfl (does_nil (h.drop hμ) hd' hid hlt ?_)
        have := fit none 0 0 hev (by simp) w rfl
        simpa using this
      · simp only [Value.slice.injEq] at hn
        obtain ⟨rfl, _, rfl⟩ := hn
        have hpos := cnt_pos t
        have hle : (xs.length + more.length) * t.cnt ≤ C.size := Nat.le_trans (Nat.mul_le_mul_right _ (by omega)) h4
        have hsz : xs.length * t.cnt + vs.length ≤ C.size := by rw [hv.len, ← Nat.add_mul]; exact hle
        have hst := run_storeAt (P := P) b (xs.length * t.cnt) e' fr vs 0 C w hh hfr.free (by omega) hv.one
        have hrun := fit (some ⟨b, 0, none⟩) xs.length cap hev (by omega) _ (by
          show (storeCells ((⟨b, 0, none⟩ : Addr).add (xs.length * ei.size)) vs).run P w = _
          rw [add_plain, Nat.zero_add, ← hcnt]; exact hst)
        simp only [Nat.add_zero] at hrun
        obtain ⟨h5, h6⟩ := h.move (id := dst) (w' := w.setRow b (C.toList.take (xs.length * t.cnt) ++ vs ++ C.toList.drop (xs.length * t.cnt + vs.length)).toArray) (c' := .arr t (xs ++ more)) (i' := .arr (.slice (some ⟨b, 0, none⟩) (xs.length + more.length) cap)) hrc hmr rfl hid hlt (fun k hk => setRow_other w b k _ hk) (by simp) rfl rfl rfl rfl (fun ok' m' hk _ => by
          have hsp := splice_get (C := C.toList) (v := vs) (p := xs.length * t.cnt) (by simpa using hsz)
          refine .inr ⟨b, _, e', fr, cap, by simp, by simp; omega, ?_, setRow_heap w b _ _ e' _ hh, ?_, fun i x hi => ?_⟩
          · simp; omega
          · have hsz' : (C.toList.take (xs.length * t.cnt) ++ vs ++ C.toList.drop (xs.length * t.cnt + vs.length)).toArray.size = C.size := by simp; omega
            rw [hsz']; exact hfr
          · rw [List.getElem?_append] at hi
            simp only [List.getElem?_toArray]
            split at hi
            · rename_i hlt'
              obtain ⟨ds, hd1, hd2⟩ := hel i x hi
              have hdl := T.holds_len hd1
              refine ⟨ds, T.holds_mono hk hd1, fun j u hu => ?_⟩
              have hj : j < t.cnt := by rw [← hdl]; exact (List.getElem?_eq_some_iff.1 hu).1
              have : (i + 1) * t.cnt ≤ xs.length * t.cnt := Nat.mul_le_mul_right _ hlt'
              rw [Nat.add_mul] at this
              rw [hsp, if_pos (by omega)]
              simpa using hd2 j u hu
            · rename_i hge
              obtain ⟨ds, hd1, hd2⟩ := hv.el _ x hi
              have hdl := T.holds_len hd1
              refine ⟨ds, T.holds_mono hk hd1, fun j u hu => ?_⟩
              have hj : j < t.cnt := by rw [← hdl]; exact (List.getElem?_eq_some_iff.1 hu).1
              have hil : i - xs.length < more.length := (List.getElem?_eq_some_iff.1 hi).1
              have e1 : i * t.cnt = xs.length * t.cnt + (i - xs.length) * t.cnt := by rw [← Nat.add_mul]; congr 1; omega
              have e2 : (i - xs.length + 1) * t.cnt ≤ more.length * t.cnt := Nat.mul_le_mul_right _ hil
              rw [Nat.add_mul] at e2
              rw [hsp, if_neg (by omega), if_pos (by rw [hv.len]; omega), ← hd2 j u hu]
              congr 1; omega)
        exact does_turn hd' hrun h5 (.inl h6)
  generalize hlx : ev s x = lx at he hX
  unfold appendOp at he
  split at he
  · rename_i r
    rw [ev_get] at he
    split at he
    · rename_i t' xs0 hr
      split at he
      · rename_i xs hxs
        obtain ⟨e1, e2⟩ := cast?_some hxs
        simp only [T.slice.injEq] at e1
        subst e1
        simp only at e2
        subst e2
        rw [ev_assume, ev_pure] at he
        obtain ⟨hroom, rfl⟩ := he
        obtain ⟨im, h1, h3, _⟩ := h.mem r _ hr
        simp only [LRep] at hX
        rw [h1] at hX
        rcases hX with hX | hX <;> (simp at hX; subst hX; simp only [CRep] at h3)
        exact own r _ _ _ hr h1 h3 rfl hroom
      · simp [ev_fail] at he
    · rename_i t' xs0 hr
      split at he
      · rename_i xs hxs
        obtain ⟨e1, e2⟩ := cast?_some hxs
        simp only [T.slice.injEq] at e1
        subst e1
        simp only at e2
        subst e2
        rw [ev_assume, ev_assume, ev_pure] at he
        obtain ⟨hne, hroom, rfl⟩ := he
        obtain ⟨im, h1, h3, _⟩ := h.mem r _ hr
        simp only [LRep] at hX
        rw [h1] at hX
        rcases hX with hX | hX <;> (simp at hX; subst hX; simp only [CRep] at h3)
        · exact own r _ _ _ hr h1 h3 rfl hroom
        · have hμ : ∀ r' c', editMem [(r, none)] s.mem r' = some c' → s.mem r' = some c' := fun r' c' h' => (editMem_none (by simp) h').1
          obtain ⟨h4, A, h5⟩ := h3
          have hpos : 0 < more.length := by cases more <;> simp_all
          rw [h5] at h4
          obtain ⟨_, us, h6, h7⟩ := src_imm (P := P) (w := w.drew) (ok := okOf E m s.mem w.drew) (T.holds_mono (w := w) (w' := w.drew) (ok := okOf E m s.mem w) (ok' := okOf E m s.mem w.drew) (t := .slice t') (fun b hb => ⟨hb, rfl⟩) h4)
          exact does_drop (gone := [(r, none)]) rfl (new A _ _ xs0 _ h5 rfl (by omega) hroom hμ ⟨us, h6, h7⟩)
      · simp [ev_fail] at he
    · simp [ev_fail] at he
  · rw [ev_assume, ev_pure] at he
    obtain ⟨hroom, rfl⟩ := he
    simp only [LRep] at hX
    by_cases hne : more = []
    · subst hne
      refine does_nil h hd' hid hlt ?_
      have := fit none 0 0 hX (by simp) w rfl
      simpa using this
    · have hpos : 0 < more.length := List.length_pos_iff.2 hne
      have := new none 0 0 [] s.mem hX rfl (by omega) (by simpa using hroom) (fun _ _ h => h) ⟨[], Row.nil _ _ _, rfl⟩
      simpa using this
  · split at he
    · rename_i t' xs0 _ xs hxs
      obtain ⟨e1, e2⟩ := cast?_some hxs
      simp only [T.slice.injEq] at e1
      subst e1
      simp only at e2
      subst e2
      rw [ev_assume, ev_assume, ev_pure] at he
      obtain ⟨hne, hroom, rfl⟩ := he
      obtain ⟨h4, A, h5⟩ := hX
      have hpos : 0 < more.length := by cases more <;> simp_all
      rw [h5] at h4
      obtain ⟨_, us, h6, h7⟩ := src_imm (P := P) (w := w.drew) (ok := okOf E m s.mem w.drew) (T.holds_mono (w := w) (w' := w.drew) (ok := okOf E m s.mem w) (ok' := okOf E m s.mem w.drew) (t := .slice t') (fun b hb => ⟨hb, rfl⟩) h4)
      exact new A _ _ xs0 s.mem h5 rfl (by omega) hroom (fun _ _ h => h) ⟨us, h6, h7⟩
    · simp [ev_fail] at he
  · rename_i r cnt lo n
    rw [ev_get] at he
    split at he
    · rename_i t' xs0 c hr
      split at he
      · rename_i xs hxs
        obtain ⟨e1, e2⟩ := cast?_some hxs
        simp only [T.slice.injEq] at e1
        subst e1
        simp only at e2
        subst e2
        rw [ev_assume] at he
        obtain ⟨hb, he⟩ := he
        simp only [Bool.and_eq_true] at hb
        have hb1 := Nat.le_of_ble_eq_true hb.1
        have hb2 := Nat.eq_of_beq_eq_true hb.2
        subst hb2
        have hX0 := hX
        obtain ⟨A, c1, k, hm1, hev, hk⟩ := hX0
        obtain ⟨im, h1, h3, _⟩ := h.mem r _ hr
        rcases hm1 with hm1 | ⟨n0, hm1⟩ <;> (rw [hm1] at h1; simp at h1; subst h1; simp only [CRep] at h3)
        obtain ⟨rfl, ho⟩ := h3
        rw [ev_br] at he
        rcases he with ⟨hfit, he⟩ | ⟨hfit, he⟩
        · rw [ev_pure] at he; subst he
          have hfit := Nat.le_of_ble_eq_true hfit
          refine write_does [dst] (o := ⟨some dst, .call { callee := .builtin .append, args := #[x, y], argTypes := #[sT, xT] }, ty, pos, after, guard⟩) (t := t') (cnt := t'.cnt) (lo := lo + n) (n := more.length) (xs := xs0) (ys := more) (v := .slice (A.map (·.add ((lo + n) * t'.cnt))) more.length (c - (lo + n))) (u := .slice (A.map (·.add k)) (n + more.length) (c - lo)) h hd' ⟨A, c, _, .inl hm1, rfl, .inr rfl⟩ rfl (Nat.le_refl _) hv (.inr ⟨c, hr, hfit, by omega, rfl⟩) (fun A1 c1 w1 hv1 hst => ?_) (fun w1 ok1 m1 hext => ⟨A, c, k, .inl (hext _ _ hm1), rfl, hk⟩)
          simp only [Value.slice.injEq] at hv1
          obtain ⟨rfl, _, _⟩ := hv1
          refine fit _ n (c - lo) hev (by omega) w1 ?_
          by_cases hmz : more = []
          · have hvz : vs = [] := by have := hv.len; rw [hmz] at this; simpa using this
            subst hvz
            have hw1 : w1 = w := by
              split at hst <;> (simp [storeCells] at hst; exact hst.symm)
            subst hw1
            split <;> rfl
          · have hpos : 0 < more.length := List.length_pos_iff.2 hmz
            obtain rfl : k = lo * t'.cnt := hk.resolve_left (by omega)
            rcases ho with ⟨hA, _⟩ | ⟨b, C, e', fr, cap', hA, _⟩
            · simp only [Value.slice.injEq] at hA
              omega
            · simp only [Value.slice.injEq] at hA
              obtain ⟨rfl, _, _⟩ := hA
              simp only [Option.map_some, add_plain] at hst ⊢
              rw [← hcnt, Nat.zero_add, ← Nat.add_mul]
              rw [Nat.zero_add] at hst
              exact hst
        · rw [ev_assume, ev_pure] at he
          obtain ⟨hroom, rfl⟩ := he
          have hfit : ¬ lo + n + more.length ≤ c := fun hh => by rw [Nat.ble_eq_true_of_le hh] at hfit; cases hfit
          have ho2 : OwnRow w.drew (okOf E m s.mem w.drew) t' xs0 (.slice A xs0.length c) := OwnRow.mono (w := w) (ok := okOf E m s.mem w) (fun b hb => ⟨hb, rfl⟩) (fun _ _ => rfl) ho
          obtain ⟨us, h6, h7⟩ := src_view (P := P) (lo := lo) (n := n) (n' := n) (c' := c - lo) ho2 hb1 (hk.imp_left And.left)
          have hl0 : ((xs0.drop lo).take n).length = n := by simp; omega
          have hcl : lo ≤ c := by
            rcases ho with ⟨hA, hx0⟩ | ⟨b, C, e', fr, cap', hA, hle, _⟩
            · subst hx0; simp at hb1; omega
            · simp only [Value.slice.injEq] at hA; omega
          exact new _ n (c - lo) ((xs0.drop lo).take n) s.mem hev hl0.symm (by omega) hroom (fun _ _ h => h) ⟨us, h6, h7⟩
      · simp [ev_fail] at he
    · simp [ev_fail] at he
  · simp [ev_fail] at he
end
end Go.GG
