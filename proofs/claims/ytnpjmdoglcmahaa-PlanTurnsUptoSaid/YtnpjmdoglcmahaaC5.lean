/- Reading memory, addresses, slices, strings: the machine does so. -/
import Derived.Test.YtnpjmdoglcmahaaC4
namespace Go.GG
open Go.RowKit
section
variable {P : Program} {w : World} {ok : Nat → Prop} {m : IMap} {μ : Nat → Option C}

theorem cell_of {b o : Nat} {C : Array Value} {e : TypeId} {fr : Nat × Nat} (h : w.heap[b]? = some (.cells C e fr)) : w.cell? ⟨b, o, none⟩ = C[o]? := by
  simp [World.cell?, h]
theorem add_plain (b o j : Nat) : (⟨b, o, none⟩ : Addr).add j = ⟨b, o + j, none⟩ := by
  unfold Addr.add
  split
  · simp_all
  · rfl
theorem loadVar_run {t : TypeId} {i : TI} (ht : TOk P t i) {b o off : Nat} {C : Array Value} {e : TypeId} {fr : Nat × Nat} (hb : w.heap[b]? = some (.cells C e fr)) {ls : List L} {vs : List Value}
    (hl : LReps P w ok m ls vs) (hc : ∀ j v, vs[j]? = some v → C[o + j]? = some v) {l : L} (he : Ev (loadLs i ls off) μ l) :
    ∃ v, (loadVar t ⟨b, o + off, none⟩).run P w = .ok v w ∧ LRep P w ok m l v := by
  unfold loadLs at he
  simp only [loadVar, Sem.run_bind, run_isAgg ht, Result.andThen_ok]
  rw [ev_cond] at he
  rcases he with ⟨ha, he⟩ | ⟨ha, he⟩
  · rw [ev_cond, ev_fail, ev_pure] at he
    obtain ⟨hs, rfl⟩ := he.resolve_right (by simp)
    have hs' : off + i.size ≤ ls.length := Nat.le_of_ble_eq_true hs
    have hlen := hl.length
    have hv : LReps P w ok m ((ls.drop off).take i.size) ((vs.drop off).take i.size) := (hl.drop off).take i.size
    have hcl : ∀ j v, ((vs.drop off).take i.size)[j]? = some v → w.cell? ((⟨b, o + off, none⟩ : Addr).add j) = some v := by
      intro j v hj
      rw [List.getElem?_take] at hj
      split at hj
      · rw [List.getElem?_drop] at hj
        rw [add_plain, cell_of hb, Nat.add_assoc]
        exact hc _ _ hj
      · simp at hj
    have hr := run_loadCells_list (P := P) (w := w) ⟨b, o + off, none⟩ ((vs.drop off).take i.size) hcl
    have hn : ((vs.drop off).take i.size).length = i.size := by simp [hlen]; omega
    rw [hn] at hr
    refine ⟨.agg ((vs.drop off).take i.size).toArray, ?_, ⟨_, rfl, hv⟩⟩
    simp [ha, run_sizeOf ht, hr]
  · split at he
    · rename_i l' hl'
      rw [ev_pure] at he; subst he
      obtain ⟨v, hv, hr⟩ := hl.get hl'
      refine ⟨v, ?_, hr⟩
      simp [ha, cell_of hb, hc _ _ hv]
    · simp [ev_fail] at he

/-- A row, wherever it lies. -/
theorem own_at {t : T} {xs : List t.den} {b o n c : Nat} (h : OwnRow w ok t xs (.slice (some ⟨b, o, none⟩) n c)) {i : Nat} {x : t.den} (hi : xs[i]? = some x) :
    ∃ C e fr ds, w.heap[b]? = some (.cells C e fr) ∧ t.holds w ok x ds ∧ ∀ j u, ds[j]? = some u → C[o + i * t.cnt + j]? = some u := by
  rcases h with ⟨h, _⟩ | ⟨b', C, e, fr, cap, h, h1, h2, h3, h4, h5⟩
  · simp at h
  · simp only [Value.slice.injEq, Option.some.injEq, Addr.mk.injEq] at h
    obtain ⟨⟨rfl, rfl, _⟩, _, _⟩ := h
    obtain ⟨ds, hd, hj⟩ := h5 i x hi
    exact ⟨C, e, fr, ds, h3, hd, fun j u hu => by rw [Nat.zero_add]; exact hj j u hu⟩
theorem imm_at {t : T} {xs : List t.den} {A : Option Addr} {n c : Nat} (h : (T.slice t).holds w ok xs [.slice A n c]) {i : Nat} {x : t.den} (hi : xs[i]? = some x) :
    ∃ b o C e fr ds, A = some ⟨b, o, none⟩ ∧ ok b ∧ w.heap[b]? = some (.cells C e fr) ∧ t.holds w ok x ds ∧ ∀ j u, ds[j]? = some u → C[o + i * t.cnt + j]? = some u := by
  simp only [T.holds] at h
  obtain ⟨A', c', hv, _, h⟩ := h
  simp only [List.cons.injEq, and_true, Value.slice.injEq] at hv
  obtain ⟨rfl, rfl, rfl⟩ := hv
  rcases h with ⟨rfl, _⟩ | ⟨b, off, C, e, fr, rfl, hb, hh, hx⟩
  · simp at hi
  · obtain ⟨ds, hd, hj⟩ := hx i x hi
    exact ⟨b, off, C, e, fr, ds, rfl, hb, hh, hd, hj⟩
theorem rowOf_at (hm : MemOk P w ok m μ) {r : Nat} {t : T} {xs : List t.den} (h : rowOf (μ r) = some ⟨t, xs⟩) {b o n c : Nat} (hv : LRep P w ok m (.sref r) (.slice (some ⟨b, o, none⟩) n c)) {i : Nat} {x : t.den} (hi : xs[i]? = some x) :
    ∃ C e fr ds, w.heap[b]? = some (.cells C e fr) ∧ t.holds w ok x ds ∧ ∀ j u, ds[j]? = some u → C[o + i * t.cnt + j]? = some u := by
  simp only [LRep] at hv
  rcases rowOf_some h with h | h <;> (obtain ⟨im, h1, h2⟩ := hm _ _ h; rw [h1] at hv; rcases hv with hv | hv <;> (simp at hv; subst hv; simp only [CRep] at h2))
  · exact own_at h2 hi
  · exact own_at h2 hi
  · obtain ⟨b', o', C, e, fr, ds, hA, _, h3, h4, h5⟩ := imm_at h2.1 hi
    simp only [Option.some.injEq, Addr.mk.injEq] at hA
    obtain ⟨rfl, rfl, _⟩ := hA
    exact ⟨C, e, fr, ds, h3, h4, h5⟩

theorem load_run (hm : MemOk P w ok m μ) {t : TypeId} {i : TI} (ht : TOk P t i) {lx l : L} {vx : Value} (he : Ev (loadOp i lx) μ l) (hx : LRep P w ok m lx vx) :
    ∃ v, (Instr.loadAt t vx).run P w = .ok v w ∧ LRep P w ok m l v := by
  cases lx
  case ptr r off =>
    simp only [loadOp] at he
    rw [ev_get] at he
    split at he
    · rename_i ls hr
      obtain ⟨b, h1, rfl⟩ := hx
      obtain ⟨im, h2, h3⟩ := hm _ _ hr
      rw [h1] at h2; simp at h2; subst h2
      obtain ⟨vs, e, h4, h5⟩ := h3
      have := loadVar_run (o := 0) ht h4 h5 (fun j v hv => by simpa using hv) he
      simpa [Instr.loadAt, Instr.sureAddr] using this
    · simp [ev_fail] at he
  case eptr t' x off =>
    simp only [loadOp] at he
    obtain ⟨b, o, C, e, fr, cs, rfl, h1, h2, h3, h4⟩ := hx
    have := loadVar_run (o := o) ht h2 (explode_reps (m := m) h3) h4 he
    simpa [Instr.loadAt, Instr.sureAddr] using this
  case aptr r cnt n off =>
    simp only [loadOp] at he
    rw [ev_get] at he
    split at he
    · rename_i t' xs hr
      rw [ev_cond, ev_fail, ev_opt] at he
      replace he := he.resolve_right (by simp)
      obtain ⟨hc, x, hxi, he⟩ := he
      have hc' := Nat.eq_of_beq_eq_true hc
      obtain ⟨b, o, k, c, h1, rfl⟩ := hx
      obtain ⟨C, e, fr, ds, h3, h4, h5⟩ := rowOf_at hm hr (b := b) (o := o) (n := k) (c := c) h1 hxi
      subst hc'
      have := loadVar_run (o := o + n * t'.cnt) ht h3 (explode_reps (m := m) h4) h5 he
      simpa [Instr.loadAt, Instr.sureAddr] using this
    · simp [ev_fail] at he
  all_goals simp only [loadOp, ev_fail] at he

theorem shiftPtr_rep {o : Nat} {lx l : L} {vx : Value} (he : Ev (shiftPtr o lx) μ l) (hx : LRep P w ok m lx vx) : ∃ b off, vx = .pointer (some ⟨b, off, none⟩) ∧ LRep P w ok m l (.pointer (some ⟨b, off + o, none⟩)) := by
  cases lx <;> simp only [shiftPtr, ev_fail, ev_pure] at he <;> subst he
  · obtain ⟨b, h1, rfl⟩ := hx; exact ⟨b, _, rfl, b, h1, rfl⟩
  · obtain ⟨b, off, C, e, fr, cs, rfl, h⟩ := hx; exact ⟨b, _, rfl, b, off, C, e, fr, cs, by simp [Nat.add_assoc], h⟩
  · obtain ⟨b, off, n, c, h1, rfl⟩ := hx; exact ⟨b, _, rfl, b, off, n, c, h1, by simp [Nat.add_assoc]⟩

theorem struct_field {P : Program} {w : World} {t : TypeId} {gs : Array Field} {fs : List (TypeId × Nat)} (h : P.underlying t = some (.struct gs)) (hf : gs.toList.map (fun f => (f.type, f.offset)) = fs)
    {n : Nat} {ft : TypeId} {o : Nat} (hn : fs[n]? = some (ft, o)) : (underlying t).run P w = .ok (.struct gs) w ∧ ∃ f, gs[n]? = some f ∧ f.type = ft ∧ f.offset = o := by
  refine ⟨run_underlying h, ?_⟩
  subst hf
  rw [List.getElem?_map, Option.map_eq_some_iff] at hn
  obtain ⟨f, h1, h2⟩ := hn
  simp at h2
  exact ⟨f, by simpa using h1, h2.1, h2.2⟩

theorem fieldAddr_run {t : TypeId} {i : TI} (ht : TOk P t i) {fs : List (TypeId × Nat)} (hk : i.kind = .struct fs) {n : Nat} {ft : TypeId} {o : Nat} (hn : fs[n]? = some (ft, o)) {fi : TI} (hft : TOk P ft fi) (hsz : fi.size ≠ 0)
    {lx l : L} {vx : Value} (he : Ev (shiftPtr o lx) μ l) (hx : LRep P w ok m lx vx) : ∃ v, (Instr.fieldAt t vx n).run P w = .ok v w ∧ LRep P w ok m l v := by
  obtain ⟨d, hd, hs⟩ := ht.desc
  rw [hk] at hs
  obtain ⟨gs, rfl, hf⟩ := summ_struct hs
  obtain ⟨h1, f, h2, h3, h4⟩ := struct_field (w := w) hd hf hn
  obtain ⟨b, off, rfl, hl⟩ := shiftPtr_rep he hx
  refine ⟨_, ?_, hl⟩
  simp only [Instr.fieldAt, Sem.run_bind, h1, Result.andThen_ok, h2]
  simp only [Instr.sureAddr, Sem.run_pure, Result.andThen_ok, fieldPlace, Sem.run_bind, h3, run_sizeOf hft, hsz, if_false, h4, add_plain]

theorem part_run {t : TypeId} {i : TI} (ht : TOk P t i) {ls : List L} {vs : List Value} (hl : LReps P w ok m ls vs) {off : Nat} {l : L} (he : Ev (loadLs i ls off) μ l) :
    ∃ v, (part t vs.toArray off).run P w = .ok v w ∧ LRep P w ok m l v := by
  unfold loadLs at he
  simp only [part, Sem.run_bind, run_isAgg ht, Result.andThen_ok]
  rw [ev_cond] at he
  rcases he with ⟨ha, he⟩ | ⟨ha, he⟩
  · rw [ev_cond, ev_fail, ev_pure] at he
    obtain ⟨hs, rfl⟩ := he.resolve_right (by simp)
    refine ⟨.agg ((vs.drop off).take i.size).toArray, ?_, ⟨_, rfl, (hl.drop off).take i.size⟩⟩
    simp only [ha, if_true, Sem.run_bind, run_sizeOf ht, Result.andThen_ok, Sem.run_pure]
    congr 2
    simp [List.take_drop]
  · split at he
    · rename_i l' hl'
      rw [ev_pure] at he; subst he
      obtain ⟨v, hv, hr⟩ := hl.get hl'
      refine ⟨v, ?_, hr⟩
      simp [ha, hv]
    · simp [ev_fail] at he
theorem field_run {t : TypeId} {i : TI} (ht : TOk P t i) {fs : List (TypeId × Nat)} (hk : i.kind = .struct fs) {n : Nat} {ft : TypeId} {o : Nat} (hn : fs[n]? = some (ft, o)) {fi : TI} (hft : TOk P ft fi)
    {ls : List L} {l : L} {vx : Value} (he : Ev (loadLs fi ls o) μ l) (hx : LRep P w ok m (.agg ls) vx) : ∃ v, (Instr.field t vx n).run P w = .ok v w ∧ LRep P w ok m l v := by
  obtain ⟨d, hd, hs⟩ := ht.desc
  rw [hk] at hs
  obtain ⟨gs, rfl, hf⟩ := summ_struct hs
  obtain ⟨h1, f, h2, h3, h4⟩ := struct_field (w := w) hd hf hn
  obtain ⟨vs, rfl, hl⟩ := hx
  obtain ⟨v, hv, hr⟩ := part_run hft hl he
  refine ⟨v, ?_, hr⟩
  simp [Instr.field, h1, h2, asAgg, h3, h4, hv]

theorem asInt_rep {l : L} {n : Int} {v : Value} (he : Ev (asInt? l) μ n) (hl : LRep P w ok m l v) : ∃ k, v = .int k n := by
  cases l <;> simp only [asInt?, ev_fail] at he
  rename_i t x
  cases t <;> simp only [ev_fail, ev_pure] at he
  subst he
  exact ⟨_, rep_int hl⟩
theorem at?_some {α : Type} {xs : List α} {n : Int} {x : α} (h : at? xs n = some x) : 0 ≤ n ∧ n < xs.length ∧ xs[n.toNat]? = some x := by
  unfold at? at h
  cases hd : decide (0 ≤ n) with
  | false => simp [hd] at h
  | true =>
    simp only [hd, cond_true] at h
    have h0 := of_decide_eq_true hd
    have := (List.getElem?_eq_some_iff.1 h).1
    exact ⟨h0, by omega, h⟩
theorem indexAddr_run (hm : MemOk P w ok m μ) {t e : TypeId} {i ei : TI} (ht : TOk P t i) (hk : i.kind = .slice e) (hte : TOk P e ei) {lx ln l : L} {vx vn : Value} (he : Ev (indexAddrOp ei.size lx ln) μ l)
    (hx : LRep P w ok m lx vx) (hn : LRep P w ok m ln vn) : ∃ v, (Instr.indexAt t vx vn).run P w = .ok v w ∧ LRep P w ok m l v := by
  obtain ⟨d, hd, hs⟩ := ht.desc
  rw [hk] at hs
  rw [summ_slice hs] at hd
  unfold indexAddrOp at he
  rw [ev_bind] at he
  obtain ⟨n, hn', he⟩ := he
  obtain ⟨k, rfl⟩ := asInt_rep hn' hn
  have key : ∀ (b o len c : Nat), 0 ≤ n → n < (len : Int) → (Instr.indexAt t (.slice (some ⟨b, o, none⟩) len c) (.int k n)).run P w = .ok (.pointer (some ⟨b, o + n.toNat * ei.size, none⟩)) w := by
    intro b o len c h0 h1
    simp only [Instr.indexAt, asIntOf, Sem.run_bind, Sem.run_pure, Result.andThen_ok, run_underlying hd]
    rw [if_pos ⟨h0, h1⟩]
    simp [run_sizeOf hte, add_plain]
  split at he
  · rename_i r
    rw [ev_get] at he
    split at he
    · rename_i t' xs hr
      rw [ev_cond, ev_fail, ev_assume, ev_pure] at he
      obtain ⟨hc, h1, rfl⟩ := he.resolve_right (by simp)
      have hc' := Nat.eq_of_beq_eq_true hc
      simp only [Bool.and_eq_true, decide_eq_true_eq] at h1
      obtain ⟨A, c, rfl, hA⟩ := sref_form hm hr hx
      have hne : xs ≠ [] := by rintro rfl; simp at h1; omega
      obtain ⟨⟨b, o, sp⟩, rfl⟩ := Option.isSome_iff_exists.1 (hA hne)
      have hsp : sp = none := by
        have hx' := hx
        simp only [LRep] at hx'
        rcases rowOf_some hr with h | h <;> (obtain ⟨im, h2, h3⟩ := hm _ _ h; rw [h2] at hx'; rcases hx' with hv | hv <;> (simp at hv; subst hv; simp only [CRep] at h3))
        · rcases h3 with ⟨h3, _⟩ | ⟨_, _, _, _, _, h3, _⟩ <;> simp at h3; exact h3.1.2.2
        · rcases h3 with ⟨h3, _⟩ | ⟨_, _, _, _, _, h3, _⟩ <;> simp at h3; exact h3.1.2.2
        · obtain ⟨x, hx1⟩ : ∃ x, xs[0]? = some x := ⟨xs[0]'(by omega), by simp⟩
          obtain ⟨_, _, _, _, _, _, h4, _⟩ := imm_at h3.1 hx1
          simp at h4; exact h4.2.2
      subst hsp
      refine ⟨_, key b o _ c h1.1 h1.2, b, o, _, c, hx, ?_⟩
      simp [hc']
    · simp [ev_fail] at he
  · rw [ev_bind] at he
    obtain ⟨⟨t', xs⟩, hxs, he⟩ := he
    rw [ev_cond, ev_fail, ev_opt] at he
    obtain ⟨hc, x, hat, he⟩ := he.resolve_right (by simp)
    rw [ev_pure] at he; subst he
    have hc' := Nat.eq_of_beq_eq_true hc
    obtain ⟨h0, h1, h2⟩ := at?_some hat
    rename_i hns
    have himm : (T.slice t').holds w ok xs [vx] := by
      cases lx
      case val t1 x1 =>
        cases t1 <;> simp only [elemsAny, ev_fail, ev_pure, Sigma.mk.injEq] at hxs
        obtain ⟨rfl, h⟩ := hxs
        obtain rfl := eq_of_heq h
        exact hx
      case sref r => exact absurd rfl (hns r)
      all_goals simp only [elemsAny, ev_fail] at hxs
      all_goals
        simp only [ev_pure, Sigma.mk.injEq] at hxs; obtain ⟨rfl, h⟩ := hxs; obtain rfl := eq_of_heq h; exact hx.1
    obtain ⟨A, c, rfl, _⟩ := slice_form himm
    obtain ⟨b, o, C, e', fr, ds, rfl, hb, hh, hd', hj⟩ := imm_at himm h2
    refine ⟨_, key b o _ c h0 h1, b, o + n.toNat * ei.size, C, e', fr, ds, by simp, hb, hh, hd', fun j u hu => ?_⟩
    rw [← hc']; exact hj j u hu
theorem index_str_run {t : TypeId} {i : TI} (ht : TOk P t i) (hk : i.kind = .str) {s : List UInt8} {n : Int} {k : IntKind} {b : UInt8} (h : at? s n = some b) :
    (Instr.index t (.string ⟨s.toArray⟩) (.int k n)).run P w = .ok (.int .u8 b.toNat) w := by
  obtain ⟨d, hd, hs⟩ := ht.desc
  rw [hk] at hs
  rw [summ_str hs] at hd
  obtain ⟨h0, h1, h2⟩ := at?_some h
  have : (ByteArray.mk s.toArray)[n.toNat]? = some b := by
    obtain ⟨hl, h3⟩ := List.getElem?_eq_some_iff.1 h2
    rw [getElem?_pos _ _ (by simpa [ByteArray.size] using hl)]
    simp [← h3, ByteArray.getElem_eq_getElem_data]
  simp [Instr.index, asIntOf, run_underlying hd, h0, this]
theorem index_agg_run {t e : TypeId} {i ei : TI} {len : Nat} (ht : TOk P t i) (hk : i.kind = .array len e) (hte : TOk P e ei) {ls : List L} {vs : List Value} (hl : LReps P w ok m ls vs) {n : Int} {k : IntKind} (h0 : 0 ≤ n) (h1 : n < len)
    {l : L} (he : Ev (loadLs ei ls (n.toNat * ei.size)) μ l) : ∃ v, (Instr.index t (.agg vs.toArray) (.int k n)).run P w = .ok v w ∧ LRep P w ok m l v := by
  obtain ⟨d, hd, hs⟩ := ht.desc
  rw [hk] at hs
  rw [summ_array hs] at hd
  obtain ⟨v, hv, hr⟩ := part_run hte hl he
  refine ⟨v, ?_, hr⟩
  simp only [Instr.index, asIntOf, Sem.run_bind, Sem.run_pure, Result.andThen_ok, run_underlying hd]
  rw [if_pos ⟨h0, h1⟩]
  simp [run_sizeOf hte, hv]
end
end Go.GG
