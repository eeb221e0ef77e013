/- append and texts, as operations. -/
import Derived.Test.YtdmegcnkfngojaaC10
import Derived.Lib.SlBytesConst
namespace Go.GG
open Go.RowKit
section
variable {P : Program} {E : Entry} {m : IMap} {s : St} {a : Act} {w : World}
theorem below_drew (w : World) : Below w.heap.size w w.drew := (Below.refl _ w).drew
theorem keeps_back {w : World} {ok : Nat → Prop} : Keeps w.drew w ok ok := fun _ h => ⟨h, rfl⟩
theorem run_append {dst : Option Nat} {x y : Operand} {sT xT ty : TypeId} {pos : String} {after : Array Edge} {guard : Option (Nat × Bool)} {v : Value} {w' : World}
    (h : (Builtin.append_ #[sT, xT] ty #[a.eval x, a.eval y]).run P w = .ok v w') :
    (execOp a.eval ⟨dst, .call { callee := .builtin .append, args := #[x, y], argTypes := #[sT, xT] }, ty, pos, after, guard⟩).run P w = .ok (.value v) w' := by
  simp [execOp, resolve, invoke, builtin, h]
/-- The new row of an append that does not fit. -/
theorem append_row {o : Oper} (h : Rel P E m s a w) (hd : ∀ n, o.dst = some n → n < E.N) {id : Nat} (hid : s.used id = false) (hlt : id < lentBase) {t : T} {xs more : List t.den} {us vs zs : List Value} {e : TypeId} {cap : Nat}
    (hu : Row w (okOf E m s.mem w) t xs us) (hv : Row w (okOf E m s.mem w) t more vs) (hcap : xs.length + more.length ≤ cap) (hz : zs.length = (cap - (xs.length + more.length)) * t.cnt)
    (hr : (execOp a.eval o).run P w = .ok (.value (.slice (some ⟨w.heap.size, 0, none⟩) (xs.length + more.length) cap)) (w.drew.alloc (.cells (us ++ vs ++ zs).toArray e))) :
    Does P E o s a w ⟨.sref id, [(id, some (.arr t (xs ++ more)))], [id]⟩ := by
  have hrow := hu.append hv
  have hlen : (us ++ vs ++ zs).length = cap * t.cnt := by
    rw [List.length_append, hrow.len, hz, List.length_append, ← Nat.add_mul]
    congr 1; omega
  refine does_row (w1 := w.drew) (fr := (0, 0)) (e := e) (cs := us ++ vs ++ zs) (cap := cap) h hd hid hlt (below_drew w) rfl (by simpa using hcap) (by omega) (.inl rfl) (fun i x hi => ?_) (by simpa using hr)
  obtain ⟨ds, h1, h2⟩ := hrow.el i x hi
  refine ⟨ds, h1, fun j u hu' => ?_⟩
  have := h2 j u hu'
  rw [List.getElem?_append_left (List.getElem?_eq_some_iff.1 this).1]
  exact this
theorem append_does {dst : Nat} {x y : Operand} {sT xT ty e : TypeId} {pos : String} {after : Array Edge} {guard : Option (Nat × Bool)} (h : Rel P E m s a w) (hd : dst < E.N) (hid : s.used dst = false) (hlt : dst < lentBase)
    {i j ei : TI} (hs : TOk P sT i) (hsk : i.kind = .slice e) (hx : TOk P xT j) (hxk : j.kind.isText = true) (hte : TOk P e ei) (hb0 : ei.bytes ≠ 0) {t : T} (hcnt : t.cnt = ei.size) {more : List t.den} (hm : Ev (appended t (ev s y)) s.mem more)
    {res : Res} (he : Ev (appendOp dst t ei.bytes (ev s x) more) s.mem res) :
    Does P E ⟨some dst, .call { callee := .builtin .append, args := #[x, y], argTypes := #[sT, xT] }, ty, pos, after, guard⟩ s a w res := by
  have hd' : ∀ n, (some dst : Option Nat) = some n → n < E.N := by intro n hn; simp at hn; omega
  have h2 := h.grow (below_drew w)
  obtain ⟨vs, hl, hv, hf⟩ := src_appended h hm (h.eval y)
  obtain ⟨vs2, hl2, hv2, hf2⟩ := src_appended h2 hm (h2.eval y)
  have hv2' : Row w (okOf E m s.mem w) t more vs2 := hv2.mono keeps_back
  rw [hcnt] at hf hf2
  have hX := h.eval x
  -- the row that does not fit
  have new : ∀ (A : Option Addr) (n cap : Nat) (xs : List t.den) (μ' : Nat → Option C), a.eval x = .slice A n cap → n = xs.length → cap < n + more.length → room (xs ++ more).length ei.bytes = true →
      (∀ r c, μ' r = some c → s.mem r = some c) → (∃ us, Row w.drew (okOf E m s.mem w.drew) t xs us ∧ (Builtin.firstCells t.cnt n (.slice A n cap)).run P w.drew = .ok us.toArray w.drew) →
      Does P E ⟨some dst, .call { callee := .builtin .append, args := #[x, y], argTypes := #[sT, xT] }, ty, pos, after, guard⟩ { s with mem := μ' } a w ⟨.sref dst, [(dst, some (.arr t (xs ++ more)))], [dst]⟩ := by
    rintro A n cap xs μ' hev rfl hgt hroom hμ ⟨us, hu, ho⟩
    rw [hcnt] at ho
    have hr : (xs.length + more.length) * ei.bytes ≤ 140737488355328 := by
      have := of_decide_eq_true hroom
      simpa using this
    obtain ⟨newCap, h3, zs, h4, h5⟩ := append_new (ty := ty) hs hsk hx hxk hte hb0 hl hf2 ho hgt hr
    rw [← hev] at h5
    have hk : Keeps w w (okOf E m s.mem w) (okOf E m μ' w) := Keeps.weaken (ok_drop hμ)
    exact append_row (h.drop hμ) hd' hid hlt ((hu.mono keeps_back).mono hk) (hv2'.mono hk) h3 (by rw [hcnt]; exact h4) (run_append h5)
  have fit : ∀ (A : Option Addr) (n cap : Nat), a.eval x = .slice A n cap → n + more.length ≤ cap → ∀ w', (match A with | some ad => storeCells (ad.add (n * ei.size)) vs | none => pure ()).run P w = .ok () w' →
      (execOp a.eval ⟨some dst, .call { callee := .builtin .append, args := #[x, y], argTypes := #[sT, xT] }, ty, pos, after, guard⟩).run P w = .ok (.value (.slice A (n + more.length) cap)) w' := by
    intro A n cap hev hle w' hst
    have := append_in (ty := ty) hs hsk hx hxk hte hl hf hle hst
    rw [← hev] at this
    exact run_append this
  -- a row of the state's own
  have own : ∀ (r : Nat) (c : C) (xs : List t.den) (v : Value), s.mem r = some c → m r = some (.arr v) → OwnRow w (okOf E m s.mem w) t xs v → a.eval x = v → room (xs ++ more).length ei.bytes = true →
      Does P E ⟨some dst, .call { callee := .builtin .append, args := #[x, y], argTypes := #[sT, xT] }, ty, pos, after, guard⟩ s a w ⟨.sref dst, [(r, none), (dst, some (.arr t (xs ++ more)))], [dst]⟩ := by
    intro r c xs v hrc hmr ho hev hroom
    have hμ : ∀ r' c', editMem [(r, none)] s.mem r' = some c' → s.mem r' = some c' := fun r' c' h' => (editMem_none (by simp) h').1
    have ho2 : OwnRow w.drew (okOf E m s.mem w.drew) t xs v := OwnRow.mono (w := w) (ok := okOf E m s.mem w) (fun b hb => ⟨hb, rfl⟩) (fun _ _ => rfl) ho
    obtain ⟨A, cap, rfl, hc1, _⟩ := own_form ho
    by_cases hgt : cap < xs.length + more.length
    · refine does_drop (gone := [(r, none)]) rfl (new A _ cap xs _ hev rfl hgt hroom hμ ?_)
      obtain ⟨_, us, h3, h4⟩ := src_own (P := P) ho2
      exact ⟨us, h3, h4⟩
    · rcases ho with ⟨hn, hxs⟩ | ⟨b, C, e', fr, cap', hn, h3, h4, hh, hfr, hel⟩
      · subst hxs
        simp only [Value.slice.injEq] at hn
        obtain ⟨rfl, _, rfl⟩ := hn
        have : more = [] := by
          cases more with
          | nil => rfl
          | cons z zs => simp at hgt
        subst this
        refine does_drop (gone := [(r, none)]) rfl (does_nil (h.drop hμ) hd' hid hlt ?_)
        have := fit none 0 0 hev (by simp) w rfl
        simpa using this
      · simp only [Value.slice.injEq] at hn
        obtain ⟨rfl, _, rfl⟩ := hn
        have hpos := cnt_pos t
        have hle : (xs.length + more.length) * t.cnt ≤ C.size := Nat.le_trans (Nat.mul_le_mul_right _ (by omega)) h4
        have hsz : xs.length * t.cnt + vs.length ≤ C.size := by rw [hv.len, ← Nat.add_mul]; exact hle
        have hst := run_storeAt (P := P) b (xs.length * t.cnt) e' fr vs 0 C w hh hfr.free (by omega) hv.one
        have hrun := fit (some ⟨b, 0, none⟩) xs.length cap hev (by omega) _ (by
          show (storeCells ((⟨b, 0, none⟩ : Addr).add (xs.length * ei.size)) vs).run P w = _
          rw [add_plain, Nat.zero_add, ← hcnt]; exact hst)
        simp only [Nat.add_zero] at hrun
        obtain ⟨h5, h6⟩ := h.move (id := dst) (w' := w.setRow b (C.toList.take (xs.length * t.cnt) ++ vs ++ C.toList.drop (xs.length * t.cnt + vs.length)).toArray) (c' := .arr t (xs ++ more)) (i' := .arr (.slice (some ⟨b, 0, none⟩) (xs.length + more.length) cap)) hrc hmr rfl hid hlt (fun k hk => setRow_other w b k _ hk) (by simp) rfl rfl rfl rfl (fun ok' m' hk _ => by
          have hsp := splice_get (C := C.toList) (v := vs) (p := xs.length * t.cnt) (by simpa using hsz)
          refine .inr ⟨b, _, e', fr, cap, by simp, by simp; omega, ?_, setRow_heap w b _ _ e' _ hh, ?_, fun i x hi => ?_⟩
          · simp; omega
          · have hsz' : (C.toList.take (xs.length * t.cnt) ++ vs ++ C.toList.drop (xs.length * t.cnt + vs.length)).toArray.size = C.size := by simp; omega
            rw [hsz']; exact hfr
          · rw [List.getElem?_append] at hi
            simp only [List.getElem?_toArray]
            split at hi
            · rename_i hlt'
              obtain ⟨ds, hd1, hd2⟩ := hel i x hi
              have hdl := T.holds_len hd1
              refine ⟨ds, T.holds_mono hk hd1, fun j u hu => ?_⟩
              have hj : j < t.cnt := by rw [← hdl]; exact (List.getElem?_eq_some_iff.1 hu).1
              have : (i + 1) * t.cnt ≤ xs.length * t.cnt := Nat.mul_le_mul_right _ hlt'
              rw [Nat.add_mul] at this
              rw [hsp, if_pos (by omega)]
              simpa using hd2 j u hu
            · rename_i hge
              obtain ⟨ds, hd1, hd2⟩ := hv.el _ x hi
              have hdl := T.holds_len hd1
              refine ⟨ds, T.holds_mono hk hd1, fun j u hu => ?_⟩
              have hj : j < t.cnt := by rw [← hdl]; exact (List.getElem?_eq_some_iff.1 hu).1
              have hil : i - xs.length < more.length := (List.getElem?_eq_some_iff.1 hi).1
              have e1 : i * t.cnt = xs.length * t.cnt + (i - xs.length) * t.cnt := by rw [← Nat.add_mul]; congr 1; omega
              have e2 : (i - xs.length + 1) * t.cnt ≤ more.length * t.cnt := Nat.mul_le_mul_right _ hil
              rw [Nat.add_mul] at e2
              rw [hsp, if_neg (by omega), if_pos (by rw [hv.len]; omega), ← hd2 j u hu]
              congr 1; omega)
        exact does_turn hd' hrun h5 (.inl h6)
  generalize hlx : ev s x = lx at he hX
  unfold appendOp at he
  split at he
  · rename_i r
    rw [ev_get] at he
    split at he
    · rename_i t' xs0 hr
      split at he
      · rename_i xs hxs
        obtain ⟨e1, e2⟩ := cast?_some hxs
        simp only [T.slice.injEq] at e1
        subst e1
        simp only at e2
        subst e2
        rw [ev_assume, ev_pure] at he
        obtain ⟨hroom, rfl⟩ := he
        obtain ⟨im, h1, h3, _⟩ := h.mem r _ hr
        simp only [LRep] at hX
        rw [h1] at hX
        rcases hX with hX | hX <;> (simp at hX; subst hX; simp only [CRep] at h3)
        exact own r _ _ _ hr h1 h3 rfl hroom
      · simp [ev_fail] at he
    · rename_i t' xs0 hr
      split at he
      · rename_i xs hxs
        obtain ⟨e1, e2⟩ := cast?_some hxs
        simp only [T.slice.injEq] at e1
        subst e1
        simp only at e2
        subst e2
        rw [ev_assume, ev_assume, ev_pure] at he
        obtain ⟨hne, hroom, rfl⟩ := he
        obtain ⟨im, h1, h3, _⟩ := h.mem r _ hr
        simp only [LRep] at hX
        rw [h1] at hX
        rcases hX with hX | hX <;> (simp at hX; subst hX; simp only [CRep] at h3)
        · exact own r _ _ _ hr h1 h3 rfl hroom
        · have hμ : ∀ r' c', editMem [(r, none)] s.mem r' = some c' → s.mem r' = some c' := fun r' c' h' => (editMem_none (by simp) h').1
          obtain ⟨h4, A, h5⟩ := h3
          have hpos : 0 < more.length := by cases more <;> simp_all
          rw [h5] at h4
          obtain ⟨_, us, h6, h7⟩ := src_imm (P := P) (w := w.drew) (ok := okOf E m s.mem w.drew) (T.holds_mono (w := w) (w' := w.drew) (ok := okOf E m s.mem w) (ok' := okOf E m s.mem w.drew) (t := .slice t') (fun b hb => ⟨hb, rfl⟩) h4)
          exact does_drop (gone := [(r, none)]) rfl (new A _ _ xs0 _ h5 rfl (by omega) hroom hμ ⟨us, h6, h7⟩)
      · simp [ev_fail] at he
    · simp [ev_fail] at he
  · rw [ev_assume, ev_pure] at he
    obtain ⟨hroom, rfl⟩ := he
    simp only [LRep] at hX
    by_cases hne : more = []
    · subst hne
      refine does_nil h hd' hid hlt ?_
      have := fit none 0 0 hX (by simp) w rfl
      simpa using this
    · have hpos : 0 < more.length := List.length_pos_iff.2 hne
      have := new none 0 0 [] s.mem hX rfl (by omega) (by simpa using hroom) (fun _ _ h => h) ⟨[], Row.nil _ _ _, rfl⟩
      simpa using this
  · split at he
    · rename_i t' xs0 _ xs hxs
      obtain ⟨e1, e2⟩ := cast?_some hxs
      simp only [T.slice.injEq] at e1
      subst e1
      simp only at e2
      subst e2
      rw [ev_assume, ev_assume, ev_pure] at he
      obtain ⟨hne, hroom, rfl⟩ := he
      obtain ⟨h4, A, h5⟩ := hX
      have hpos : 0 < more.length := by cases more <;> simp_all
      rw [h5] at h4
      obtain ⟨_, us, h6, h7⟩ := src_imm (P := P) (w := w.drew) (ok := okOf E m s.mem w.drew) (T.holds_mono (w := w) (w' := w.drew) (ok := okOf E m s.mem w) (ok' := okOf E m s.mem w.drew) (t := .slice t') (fun b hb => ⟨hb, rfl⟩) h4)
      exact new A _ _ xs0 s.mem h5 rfl (by omega) hroom (fun _ _ h => h) ⟨us, h6, h7⟩
    · simp [ev_fail] at he
  · simp [ev_fail] at he
end
end Go.GG
