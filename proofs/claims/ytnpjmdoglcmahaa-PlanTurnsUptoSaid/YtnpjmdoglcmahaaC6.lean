/- Slices, conversions, builtins that read; rows that are given away. -/
import Derived.Test.YtnpjmdoglcmahaaC5
namespace Go.GG
open Go.RowKit

/-! ### Rows that are given away -/
theorem editMem_append (a b : List (Nat × Option C)) (μ : Nat → Option C) : editMem (a ++ b) μ = editMem b (editMem a μ) := by
  induction a generalizing μ with
  | nil => rfl
  | cons x a ih => obtain ⟨r, c⟩ := x; exact ih _
theorem editMem_none : ∀ {es : List (Nat × Option C)} {μ : Nat → Option C}, (∀ p ∈ es, p.2 = none) → ∀ {r : Nat} {c : C}, editMem es μ r = some c → μ r = some c ∧ r ∉ es.map (·.1)
  | [], _, _, _, _, h => ⟨h, by simp⟩
  | (x, y) :: es, μ, hp, r, c, h => by
    have hy : y = none := hp (x, y) (by simp)
    subst hy
    obtain ⟨h1, h2⟩ := editMem_none (es := es) (fun p hp' => hp p (by simp [hp'])) h
    cases hb : Nat.beq r x with
    | true => simp [hb] at h1
    | false =>
      simp [hb] at h1
      have : r ≠ x := fun e => by subst e; simp at hb
      exact ⟨h1, by simp [this]; exact fun y hy => h2 (List.mem_map.2 ⟨_, hy, rfl⟩)⟩
section
variable {P : Program} {E : Entry} {m : IMap} {s : St} {a : Act} {w : World}
theorem Rel.memOk (h : Rel P E m s a w) : MemOk P w (okOf E m s.mem w) m s.mem := fun r c hc => let ⟨i, h1, h2, _⟩ := h.mem r c hc; ⟨i, h1, h2⟩
theorem ok_drop {μ' : Nat → Option C} (hμ : ∀ r c, μ' r = some c → s.mem r = some c) : ∀ b, okOf E m s.mem w b → okOf E m μ' w b :=
  fun _ hb => ⟨hb.1, hb.2.1, fun ⟨r, c, i, h1, h2, h3⟩ => hb.2.2 ⟨r, c, i, hμ r c h1, h2, h3⟩⟩
/-- A row that was given away is a value like others. -/
theorem given_row (h : Rel P E m s a w) {μ' : Nat → Option C} (hμ : ∀ r c, μ' r = some c → s.mem r = some c) {r : Nat} (hr : μ' r = none) {t : T} {xs : List t.den} (hx : rowOf (s.mem r) = some ⟨t, xs⟩) {v : Value}
    (hv : LRep P w (okOf E m s.mem w) m (.sref r) v) : (T.slice t).holds w (okOf E m μ' w) xs [v] := by
  have hk : Keeps w w (okOf E m s.mem w) (okOf E m μ' w) := Keeps.weaken (ok_drop hμ)
  have own : ∀ c, s.mem r = some c → m r = some (.arr v) → OwnRow w (okOf E m s.mem w) t xs v → (∀ b, (Impl.arr v).block = some b → b < w.heap.size ∧ (E.V0 b ∨ E.w0.heap.size ≤ b)) → (T.slice t).holds w (okOf E m μ' w) xs [v] := by
    intro c hc hm ho hb
    rcases ho with ⟨rfl, rfl⟩ | ⟨b, C, e, fr, cap, rfl, h1, h2, h3, h4, h5⟩
    · exact ⟨none, 0, rfl, Nat.le_refl _, .inl ⟨rfl, fun _ => rfl⟩⟩
    · refine ⟨_, cap, rfl, h1, .inr ⟨b, 0, C, e, fr, rfl, ⟨(hb b rfl).1, .inr (hb b rfl).2, ?_⟩, h3, fun i x hi => ?_⟩⟩
      · rintro ⟨r', c', i', h6, h7, h8⟩
        have := h.inj r' r c' c i' _ b (hμ _ _ h6) hc h7 hm h8 rfl
        subst this
        rw [hr] at h6; simp at h6
      · obtain ⟨ds, hd, hj⟩ := h5 i x hi
        exact ⟨ds, T.holds_mono hk hd, fun j u hu => by rw [Nat.zero_add]; exact hj j u hu⟩
  simp only [LRep] at hv
  rcases rowOf_some hx with hc | hc <;> (obtain ⟨im, h1, h2, h3⟩ := h.mem _ _ hc; have hm := h1; rw [h1] at hv; rcases hv with hv | hv <;> (simp at hv; subst hv; simp only [CRep] at h2))
  · exact own _ hc hm h2 h3
  · exact own _ hc hm h2 h3
  · exact T.holds_mono (t := .slice t) hk h2.1
theorem purify_none : ∀ {ls ls' : List L} {gone : List (Nat × Option C)} {μ : Nat → Option C}, Ev (purify ls) μ (ls', gone) → ∀ p ∈ gone, p.2 = none
  | [], ls', gone, μ, h => by simp only [purify, ev_pure, Prod.mk.injEq] at h; obtain ⟨rfl, rfl⟩ := h; simp
  | l :: ls, ls', gone, μ, h => by
    have key : ∀ l', Ev ((purify ls).bind fun x => RM.pure (l' :: x.1, x.2)) μ (ls', gone) → ∀ p ∈ gone, p.2 = none := by
      intro l' h
      rw [ev_bind] at h
      obtain ⟨⟨b1, b2⟩, hb, h⟩ := h
      simp only [ev_pure, Prod.mk.injEq] at h
      obtain ⟨rfl, rfl⟩ := h
      exact purify_none hb
    cases l
    case sref r =>
      simp only [purify] at h
      rw [ev_get] at h
      split at h
      · rw [ev_bind] at h
        obtain ⟨⟨b1, b2⟩, hb, h⟩ := h
        simp only [ev_pure, Prod.mk.injEq] at h
        obtain ⟨rfl, rfl⟩ := h
        intro p hp
        cases hp with
        | head => rfl
        | tail _ hp => exact purify_none hb p hp
      · simp [ev_fail] at h
    all_goals exact key _ h
theorem purify_reps (h : Rel P E m s a w) {μ' : Nat → Option C} (hμ : ∀ r c, μ' r = some c → s.mem r = some c) : ∀ {ls ls' : List L} {gone : List (Nat × Option C)} {vs : List Value}, Ev (purify ls) s.mem (ls', gone) → (∀ r ∈ gone.map (·.1), μ' r = none) →
    LReps P w (okOf E m s.mem w) m ls vs → LReps P w (okOf E m μ' w) m ls' vs
  | [], ls', gone, vs, hp, _, hl => by simp only [purify, ev_pure, Prod.mk.injEq] at hp; obtain ⟨rfl, rfl⟩ := hp; exact hl
  | l :: ls, ls', gone, vs, hp, hg, hl => by
    obtain ⟨v, vs', rfl, h1, h2⟩ := hl
    have key : Ev ((purify ls).bind fun x => RM.pure (l :: x.1, x.2)) s.mem (ls', gone) → LReps P w (okOf E m μ' w) m ls' (v :: vs') := by
      intro hp
      rw [ev_bind] at hp
      obtain ⟨⟨b1, b2⟩, hb, hp⟩ := hp
      simp only [ev_pure, Prod.mk.injEq] at hp
      obtain ⟨rfl, rfl⟩ := hp
      exact ⟨v, vs', rfl, h1.mono (Keeps.weaken (ok_drop hμ)) (Ext.refl m), purify_reps h hμ hb hg h2⟩
    cases l
    case sref r =>
      simp only [purify] at hp
      rw [ev_get] at hp
      split at hp
      · rename_i t xs hx
        rw [ev_bind] at hp
        obtain ⟨⟨b1, b2⟩, hb, hp⟩ := hp
        simp only [ev_pure, Prod.mk.injEq] at hp
        obtain ⟨rfl, rfl⟩ := hp
        exact ⟨v, vs', rfl, given_row h hμ (hg r (by simp)) hx h1, purify_reps h hμ hb (fun r' hr' => hg r' (by simp at hr' ⊢; exact .inr hr')) h2⟩
      · simp [ev_fail] at hp
    all_goals exact key hp
end

/-! ### Slices -/
section
variable {P : Program} {w : World} {ok : Nat → Prop} {m : IMap} {μ : Nat → Option C}
theorem cut_get {α : Type} {xs : List α} {l h : Int} {i : Nat} {x : α} (hi : (cut xs l h)[i]? = some x) : xs[l.toNat + i]? = some x := by
  unfold cut at hi
  rw [List.getElem?_drop, List.getElem?_take] at hi
  split at hi
  · exact hi
  · simp at hi
theorem cut_len {α : Type} {xs : List α} {l h : Int} (h0 : 0 ≤ l) (h1 : l ≤ h) (h2 : h ≤ xs.length) : (cut xs l h).length = h.toNat - l.toNat := by
  unfold cut
  simp
  omega
theorem slice_holds {t : T} {xs : List t.den} {A : Option Addr} {n c : Nat} (hx : (T.slice t).holds w ok xs [.slice A n c]) {l h : Int} (h0 : 0 ≤ l) (h1 : l ≤ h) (h2 : h ≤ xs.length) {cap : Nat} (hc : h.toNat ≤ cap) (hcc : cap ≤ c) :
    (T.slice t).holds w ok (cut xs l h) [.slice (if cap = l.toNat then A else A.map (·.add (l.toNat * t.cnt))) (h.toNat - l.toNat) (cap - l.toNat)] := by
  have hlen := cut_len h0 h1 h2
  refine ⟨_, _, by rw [hlen], by rw [hlen]; omega, ?_⟩
  by_cases he : cut xs l h = []
  · refine .inl ⟨he, fun hA => ?_⟩
    have hA' : A = none := by
      split at hA
      · exact hA
      · simpa using hA
    simp only [T.holds] at hx
    obtain ⟨A', c', hv, _, hx⟩ := hx
    simp only [List.cons.injEq, and_true, Value.slice.injEq] at hv
    obtain ⟨rfl, rfl, rfl⟩ := hv
    rcases hx with ⟨_, hx⟩ | ⟨b, off, C, e, fr, rfl, _⟩
    · have := hx hA'; omega
    · cases hA'
  · refine .inr ?_
    have hpos : 0 < (cut xs l h).length := List.length_pos_iff.2 he
    rw [hlen] at hpos
    rw [if_neg (by omega)]
    simp only [T.holds] at hx
    obtain ⟨A', c', hv, _, hx⟩ := hx
    simp only [List.cons.injEq, and_true, Value.slice.injEq] at hv
    obtain ⟨rfl, rfl, rfl⟩ := hv
    rcases hx with ⟨rfl, _⟩ | ⟨b, off, C, e, fr, rfl, hb, hh, hx⟩
    · simp [cut] at he
    · refine ⟨b, off + l.toNat * t.cnt, C, e, fr, by simp [add_plain], hb, hh, fun i x hi => ?_⟩
      obtain ⟨ds, hd, hj⟩ := hx _ x (cut_get hi)
      refine ⟨ds, hd, fun j u hu => ?_⟩
      have := hj j u hu
      rw [Nat.add_mul] at this
      rw [← this]
      congr 1
      omega
theorem boundOr_rep {d : Int} {lo : Option L} {l : Int} {v : Option Value} (he : Ev (boundOr d lo) μ l) (hl : match lo, v with | none, none => True | some x, some y => LRep P w ok m x y | _, _ => False) :
    (lo = none ∧ v = none ∧ l = d) ∨ ∃ k, v = some (.int k l) := by
  cases lo <;> cases v <;> simp only at hl <;> simp only [boundOr, ev_pure] at he
  · exact .inl ⟨rfl, rfl, he.symm⟩
  · obtain ⟨k, rfl⟩ := asInt_rep he hl; exact .inr ⟨k, rfl⟩
theorem sliceBound_run {k : IntKind} {i : Int} {y : Nat} {c : BoundsCode} (h0 : 0 ≤ i) (h1 : i ≤ y) : (Instr.sliceBound (.int k i) y c).run P w = .ok i.toNat w := by
  simp [Instr.sliceBound, asIntOf, h0, h1]
theorem run_slice_slice {t e : TypeId} (hd : P.underlying t = some (.slice e)) {a : Option Addr} {len cap : Nat} {lo hi mx : Option Value} :
    (Instr.sliceAt t (.slice a len cap) lo hi mx).run P w = ((Instr.sliceBounds true len cap lo hi mx).run P w).andThen fun x w' => ((sizeOf e).run P w').andThen fun size w'' =>
      .ok (.slice (if x.2.2 = x.1 then a else a.map (·.add (x.1 * size))) (x.2.1 - x.1) (x.2.2 - x.1)) w'' := by
  simp [Instr.sliceAt, Instr.slice, run_underlying hd]
theorem run_slice_str {t : TypeId} (hd : P.underlying t = some .string) {b : ByteArray} {lo hi : Option Value} :
    (Instr.sliceAt t (.string b) lo hi none).run P w = ((Instr.sliceBounds false b.size b.size lo hi none).run P w).andThen fun x w' => .ok (.string (b.extract x.1 x.2.1)) w' := by
  simp [Instr.sliceAt, Instr.slice, run_underlying hd]
/-- Where a slice's bounds lie. -/
theorem sliceBounds_run {isS : Bool} {len cap : Nat} {l h : Int} {lo hi : Option Value} (h0 : 0 ≤ l) (h1 : l ≤ h) (h2 : h ≤ cap)
    (hlo : (lo = none ∧ l = 0) ∨ ∃ k, lo = some (.int k l)) (hhi : (hi = none ∧ h = len) ∨ ∃ k, hi = some (.int k h)) : (Instr.sliceBounds isS len cap lo hi none).run P w = .ok (l.toNat, h.toNat, cap) w := by
  rcases hlo with ⟨rfl, rfl⟩ | ⟨k, rfl⟩ <;> rcases hhi with ⟨rfl, rfl⟩ | ⟨k', rfl⟩ <;> simp [Instr.sliceBounds]
  · rw [sliceBound_run (by omega) h2]; simp
  · rw [sliceBound_run h0 (by omega)]; simp
  · rw [sliceBound_run (by omega) h2]
    simp only [Result.andThen_ok]
    rw [sliceBound_run h0 (by omega)]; simp
theorem sliceBounds3_run {len cap : Nat} {l h : Int} {lo hi : Option Value} {k'' : IntKind} (h0 : 0 ≤ l) (h1 : l ≤ h) (h2 : h ≤ cap)
    (hlo : (lo = none ∧ l = 0) ∨ ∃ k, lo = some (.int k l)) (hhi : ∃ k, hi = some (.int k h)) : (Instr.sliceBounds true len cap lo hi (some (.int k'' h))).run P w = .ok (l.toNat, h.toNat, h.toNat) w := by
  obtain ⟨k', rfl⟩ := hhi
  rcases hlo with ⟨rfl, rfl⟩ | ⟨k, rfl⟩ <;> simp [Instr.sliceBounds]
  · rw [sliceBound_run (by omega) h2]; simp only [Result.andThen_ok]; rw [sliceBound_run (by omega) (by omega)]; simp
  · rw [sliceBound_run (by omega) h2]
    simp only [Result.andThen_ok]
    rw [sliceBound_run (by omega) (by omega)]
    simp only [Result.andThen_ok]
    rw [sliceBound_run h0 (by omega)]; simp
end
section
variable {P : Program} {E : Entry} {m : IMap} {s : St} {a : Act} {w : World}
/-- A slice that is read, whosever it is: a value once its row is given away. -/
theorem elemsAny_given (h : Rel P E m s a w) {l : L} {t : T} {xs : List t.den} {v : Value} (he : Ev (elemsAny l) s.mem ⟨t, xs⟩) (hv : LRep P w (okOf E m s.mem w) m l v) {μ' : Nat → Option C}
    (hμ : ∀ r c, μ' r = some c → s.mem r = some c) (hr : ∀ r, l = .sref r → μ' r = none) : (T.slice t).holds w (okOf E m μ' w) xs [v] := by
  cases l
  case val t' x =>
    cases t' <;> simp only [elemsAny, ev_fail, ev_pure, Sigma.mk.injEq] at he
    obtain ⟨rfl, he⟩ := he
    obtain rfl := eq_of_heq he
    exact T.holds_mono (t := .slice _) (Keeps.weaken (ok_drop hμ)) hv
  case sref r =>
    simp only [elemsAny] at he
    rw [ev_get] at he
    split at he
    · rename_i t' xs' hx
      simp only [ev_pure, Sigma.mk.injEq] at he
      obtain ⟨rfl, he⟩ := he
      obtain rfl := eq_of_heq he
      exact given_row h hμ (hr r rfl) hx hv
    · simp [ev_fail] at he
  all_goals simp only [elemsAny, ev_fail] at he
  all_goals
    simp only [ev_pure, Sigma.mk.injEq] at he; obtain ⟨rfl, he⟩ := he; obtain rfl := eq_of_heq he
    exact T.holds_mono (t := .slice _) (Keeps.weaken (ok_drop hμ)) hv.1

def optRep (P : Program) (w : World) (ok : Nat → Prop) (m : IMap) : Option L → Option Value → Prop
  | none, none => True
  | some x, some y => LRep P w ok m x y
  | _, _ => False
theorem Rel.evalOpt (h : Rel P E m s a w) (x : Option Operand) : optRep P w (okOf E m s.mem w) m (x.map (ev s)) (x.map a.eval) := by
  cases x with
  | none => trivial
  | some x => exact h.eval x
theorem boundOr_rep' {d : Int} {lo : Option L} {l : Int} {v : Option Value} {ok : Nat → Prop} {μ : Nat → Option C} (he : Ev (boundOr d lo) μ l) (hl : optRep P w ok m lo v) : (v = none ∧ l = d) ∨ ∃ k, v = some (.int k l) := by
  cases lo <;> cases v <;> simp only [optRep] at hl <;> simp only [boundOr, ev_pure] at he
  · exact .inl ⟨rfl, he.symm⟩
  · obtain ⟨k, rfl⟩ := asInt_rep he hl; exact .inr ⟨k, rfl⟩
theorem slice_run (h : Rel P E m s a w) {tab : Tab} (hT : TabOk P tab) {t : TypeId} {i : TI} (ht : TOk P t i) {lx : L} {vx : Value} {lo hi mx : Option L} {vlo vhi vmx : Option Value} {res : Res}
    (he : Ev (sliceOp tab i lx lo hi mx) s.mem res) (hx : LRep P w (okOf E m s.mem w) m lx vx) (hlo : optRep P w (okOf E m s.mem w) m lo vlo) (hhi : optRep P w (okOf E m s.mem w) m hi vhi) (hmx : optRep P w (okOf E m s.mem w) m mx vmx) :
    res.allocs = [] ∧ (∀ p ∈ res.edits, p.2 = none) ∧ ∃ v, (Instr.sliceAt t vx vlo vhi vmx).run P w = .ok v w ∧ LRep P w (okOf E m (editMem res.edits s.mem) w) m res.val v := by
  obtain ⟨d, hd, hs⟩ := ht.desc
  unfold sliceOp at he
  split at he
  · rename_i hk
    rw [hk] at hs
    rw [summ_str hs] at hd
    split at he
    · rename_i str
      simp only [ev_bind, ev_assume, ev_pure] at he
      obtain ⟨l, hl, h', hh, hb, rfl⟩ := he
      simp only [Bool.and_eq_true, decide_eq_true_eq] at hb
      have := rep_str hx; subst this
      cases vmx <;> simp only [optRep] at hmx
      refine ⟨rfl, by simp [Res.of], .string ⟨(cut str l h').toArray⟩, ?_, mk_str _⟩
      have hsz : (ByteArray.mk str.toArray).size = str.length := by simp [ByteArray.size]
      rw [run_slice_str hd, sliceBounds_run (P := P) (l := l) (h := h') hb.1.1 hb.1.2 (by rw [hsz]; exact hb.2) (boundOr_rep' hl hlo) (by rw [hsz]; exact boundOr_rep' hh hhi)]
      simp only [Result.andThen_ok]
      congr 2
      apply ByteArray.ext
      apply Array.ext'
      rw [Lib.extract_data]
      simp [cut, List.drop_take]
    · simp [ev_fail] at he
  · rename_i e hk
    rw [hk] at hs
    rw [summ_slice hs] at hd
    simp only [ev_bind, ev_lift] at he
    obtain ⟨ei, hei, ⟨t', xs⟩, hxs, l, hl, h', hh, he⟩ := he
    rw [ev_assume, ev_cond, ev_fail] at he
    obtain ⟨hb, he⟩ := he
    simp only [Bool.and_eq_true, decide_eq_true_eq] at hb
    replace he := he.resolve_left (by simp)
    obtain ⟨hcnt, he⟩ := he
    have hcnt : t'.cnt = ei.size := Nat.eq_of_beq_eq_true (by simpa using hcnt)
    have hte := hT _ _ hei
    have hgone : ∀ p ∈ givenBy lx, p.2 = none := by cases lx <;> simp [givenBy]
    have hμ : ∀ r c, editMem (givenBy lx) s.mem r = some c → s.mem r = some c := fun r c hc => (editMem_none hgone hc).1
    have hr : ∀ r, lx = .sref r → editMem (givenBy lx) s.mem r = none := by
      intro r hr
      subst hr
      simp [editMem, givenBy]
    have hv := elemsAny_given h hxs hx hμ hr
    obtain ⟨A, c, rfl, _⟩ := slice_form hv
    have hcap : xs.length ≤ c := by
      simp only [T.holds] at hv
      obtain ⟨A', c', hv', hc, _⟩ := hv
      simp only [List.cons.injEq, and_true, Value.slice.injEq] at hv'
      omega
    split at he
    · simp only [ev_pure] at he
      subst he
      cases vmx <;> simp only [optRep] at hmx
      refine ⟨rfl, hgone, _, ?_, slice_holds hv hb.1.1 hb.1.2 hb.2 (cap := c) (by omega) (Nat.le_refl _)⟩
      rw [run_slice_slice hd, sliceBounds_run (P := P) (l := l) (h := h') hb.1.1 hb.1.2 (by omega) (boundOr_rep' hl hlo) (boundOr_rep' hh hhi)]
      simp [run_sizeOf hte, hcnt]
    · rename_i mx hi' 
      simp only [ev_bind, ev_assume, ev_pure] at he
      obtain ⟨m', hm', hmh, rfl⟩ := he
      have hmh : m' = h' := by simpa using hmh
      subst hmh
      cases vmx with
      | none => simp only [optRep] at hmx
      | some vm =>
        simp only [optRep] at hmx
        obtain ⟨k, rfl⟩ := asInt_rep hm' hmx
        have hres := slice_holds hv hb.1.1 hb.1.2 hb.2 (cap := m'.toNat) (by omega) (by omega)
        have hlen := cut_len hb.1.1 hb.1.2 hb.2
        refine ⟨rfl, hgone, _, ?_, hres, _, by rw [hlen]⟩
        have hhi' : ∃ k, vhi = some (.int k m') := by
          cases vhi with
          | none => simp only [optRep] at hhi
          | some v' =>
            simp only [optRep] at hhi
            simp only [boundOr] at hh
            obtain ⟨k, rfl⟩ := asInt_rep hh hhi
            exact ⟨k, rfl⟩
        rw [run_slice_slice hd, sliceBounds3_run (P := P) (l := l) (h := m') hb.1.1 hb.1.2 (by omega) (boundOr_rep' hl hlo) hhi']
        simp [run_sizeOf hte, hcnt]
    · simp [ev_fail] at he
  · simp [ev_fail] at he
end
end Go.GG
