/- Every operation does what is said of it. -/
import Derived.Test.YtdmegcnkfngojaaC19
namespace Go.GG
open Go.RowKit
section
variable {P : Program} {E : Entry} {m : IMap} {s : St} {a : Act} {w : World}

theorem call_op {dst : Option Nat} {c : Call} {k : Nat} {tab : Tab} (hT : TabOk P tab) {Γ : Env} (hΓ : EnvOk P Γ) (h : Rel P E m s a w) (hd : ∀ n, dst = some n → n < E.N) (hn : needsDst (.call c) = true → dst.isSome = true) {res : Res}
    (he : Ev (aop tab Γ k (dst.getD 0) (ev s) (.call c)) s.mem res) (hal : ∀ id ∈ res.allocs, s.used id = false ∧ id < lentBase)
    {ty : TypeId} {pos : String} {after : Array Edge} {guard : Option (Nat × Bool)} : Does P E ⟨dst, .call c, ty, pos, after, guard⟩ s a w res := by
  have hl := h.evals c.args.toList
  simp only [aop] at he
  split at he
  · rename_i b hc
    have : dst.isSome = true := hn (by simp only [needsDst, hc])
    obtain ⟨d, rfl⟩ := Option.isSome_iff_exists.1 this
    exact builtin_does hc hT h (hd d rfl) he hal
  · rename_i f hc
    have hx : a.eval (.func f) = .func (.func f) #[] ([] : List Value).toArray := rfl
    exact call_does h hΓ hc hx (by simpa using hl) he hal hd
  · rename_i x hnf hc
    have hv := h.eval x
    split at he
    · rename_i f caps hx
      rw [hx] at hv
      obtain ⟨cvs, hv, hcap⟩ := hv
      exact call_does h hΓ hc hv (hl.append (cap_ptrs hcap)) he hal hd
    · rename_i ps b p hx
      rw [hx] at hv
      split at he
      · rename_i y hy
        rw [ev_opt] at he
        obtain ⟨z, hz, he⟩ := he
        rw [ev_pure] at he; subst he
        exact fn_does h hc hv hl hy hz hd
      · simp [ev_fail] at he
    · simp [ev_fail] at he
  · simp [ev_fail] at he
theorem op_sound {tab : Tab} (hT : TabOk P tab) {Γ : Env} (hΓ : EnvOk P Γ) {k : Nat} (h : Rel P E m s a w) {o : Oper} (hd : ∀ n, o.dst = some n → n < E.N) (hn : needsDst o.op = true → o.dst.isSome = true) {res : Res}
    (he : Ev (aop tab Γ k (o.dst.getD 0) (ev s) o.op) s.mem res) (hal : ∀ id ∈ res.allocs, s.used id = false ∧ id < lentBase) : Does P E o s a w res := by
  obtain ⟨dst, op, ty, pos, after, guard⟩ := o
  cases op
  case call c => exact call_op hT hΓ h hd hn he hal
  case pick c x y => exact pick_does h hd he
  case build t ps => exact build_does hT h hd he
  case nilCheck x => exact nilCheck_does h hd he
  case move x =>
    simp only [aop, ev_pure] at he; subst he
    exact does_val h hd (v := a.eval x) (by simp [execOp]) (h.eval x)
  case assign x =>
    simp only [aop, ev_pure] at he; subst he
    exact does_val h hd (v := a.eval x) (by simp [execOp]) (h.eval x)
  case alloc t =>
    obtain ⟨d, rfl⟩ := Option.isSome_iff_exists.1 (hn rfl)
    simp only [aop] at he
    obtain ⟨i, hi, he⟩ := tabRM_some he
    rw [ev_pure] at he; subst he
    obtain ⟨h1, h2⟩ := hal d (by simp)
    exact alloc_does h (hd d rfl) h1 h2 (hT _ _ hi)
  case box t x =>
    obtain ⟨d, rfl⟩ := Option.isSome_iff_exists.1 (hn rfl)
    simp only [aop] at he
    rcases ev_cond.1 he with ⟨hp, he⟩ | ⟨_, he⟩
    case inr => simp [ev_fail] at he
    rw [ev_pure] at he; subst he
    obtain ⟨h1, h2⟩ := hal d (by simp)
    exact box_does h (hd d rfl) h1 h2 (plain_cells h hp)
  case buildSlice t n ps =>
    obtain ⟨d, rfl⟩ := Option.isSome_iff_exists.1 (hn rfl)
    exact buildSl_does hT h (hd d rfl) he hal
  case makeSlice t x y =>
    obtain ⟨d, rfl⟩ := Option.isSome_iff_exists.1 (hn rfl)
    exact makeSl_does hT h (hd d rfl) he hal
  case load t x =>
    simp only [aop] at he
    obtain ⟨i, hi, he⟩ := tabRM_some he
    obtain ⟨l, hl, rfl⟩ := opVal_some he
    obtain ⟨v, hv, hr⟩ := load_run h.memOk (hT _ _ hi) hl (h.eval x)
    exact does_val h hd (by simp [execOp, hv]) hr
  case store t x y =>
    simp only [aop] at he
    obtain ⟨i, hi, he⟩ := tabRM_some he
    exact store_does h hd (hT _ _ hi) he
  case binOp op t x y z =>
    simp only [aop] at he
    obtain ⟨l, hl, rfl⟩ := opVal_some he
    obtain ⟨v, hv, hr⟩ := binop_run h.memOk hT (x := x) (y := y) hl (h.eval x) (h.eval y)
    exact does_val h hd (by
      simp only [execOp, Sem.run_bind] at hv ⊢
      rw [hv]; rfl) hr
  case unOp op t x =>
    simp only [aop] at he
    obtain ⟨l, hl, rfl⟩ := opVal_some he
    obtain ⟨v, hv, hr⟩ := unop_run hl (h.eval x)
    exact does_val h hd (by simp [execOp, hv]) hr
  case convert src tgt x =>
    obtain ⟨d, rfl⟩ := Option.isSome_iff_exists.1 (hn rfl)
    simp only [aop] at he
    obtain ⟨i, hi, he⟩ := tabRM_some he
    obtain ⟨j, hj, he⟩ := tabRM_some he
    exact convert_does h (hd d rfl) hT (hT _ _ hi) (hT _ _ hj) he hal
  case slice t x lo hi mx =>
    simp only [aop] at he
    obtain ⟨i, hi', he⟩ := tabRM_some he
    obtain ⟨h1, h2, v, hv, hr⟩ := slice_run h hT (hT _ _ hi') he (h.eval x) (h.evalOpt lo) (h.evalOpt hi) (h.evalOpt mx)
    have hμ : ∀ r c, editMem res.edits s.mem r = some c → s.mem r = some c := fun r c hc => (editMem_none h2 hc).1
    refine does_turn (m' := m) (w' := w) (v := v) hd (by simp [execOp, hv]) ?_ hr
    rw [h1]
    exact h.drop hμ
  case fieldAddr t x f =>
    simp only [aop] at he
    obtain ⟨i, hi, he⟩ := tabRM_some he
    split at he
    · rename_i fs hk
      split at he
      · rename_i ft o hf
        obtain ⟨fi, hfi, he⟩ := tabRM_some he
        rcases ev_cond.1 he with ⟨_, he⟩ | ⟨hz, he⟩
        · simp [ev_fail] at he
        obtain ⟨l, hl, rfl⟩ := opVal_some he
        obtain ⟨v, hv, hr⟩ := fieldAddr_run (hT _ _ hi) hk hf (hT _ _ hfi) (by intro e; simp [e] at hz) hl (h.eval x)
        exact does_val h hd (by simp [execOp, hv]) hr
      · simp [ev_fail] at he
    · simp [ev_fail] at he
  case field t x f =>
    simp only [aop] at he
    obtain ⟨i, hi, he⟩ := tabRM_some he
    split at he
    · rename_i fs hk
      split at he
      · rename_i ft o ls hf hx
        obtain ⟨fi, hfi, he⟩ := tabRM_some he
        obtain ⟨l, hl, rfl⟩ := opVal_some he
        have hv := h.eval x
        rw [hx] at hv
        obtain ⟨v, hv, hr⟩ := field_run (hT _ _ hi) hk hf (hT _ _ hfi) hl hv
        exact does_val h hd (by simp [execOp, hv]) hr
      · simp [ev_fail] at he
    · simp [ev_fail] at he
  case indexAddr t x y =>
    simp only [aop] at he
    obtain ⟨i, hi, he⟩ := tabRM_some he
    split at he
    · rename_i e hk
      obtain ⟨ei, hei, he⟩ := tabRM_some he
      obtain ⟨l, hl, rfl⟩ := opVal_some he
      obtain ⟨v, hv, hr⟩ := indexAddr_run h.memOk (hT _ _ hi) hk (hT _ _ hei) hl (h.eval x) (h.eval y)
      exact does_val h hd (by simp [execOp, hv]) hr
    · simp [ev_fail] at he
  case index t x y =>
    simp only [aop] at he
    obtain ⟨i, hi, he⟩ := tabRM_some he
    have hvx := h.eval x
    split at he
    · rename_i st hk hx
      rw [hx] at hvx
      have hvx := rep_str hvx
      simp only [ev_bind, ev_opt, ev_pure] at he
      obtain ⟨n, hn, b, hb, rfl⟩ := he
      obtain ⟨k', hvy⟩ := asInt_rep hn (h.eval y)
      have := index_str_run (w := w) (k := k') (hT _ _ hi) hk hb
      exact does_val h hd (v := .int .u8 b.toNat) (by simp [execOp, hvx, hvy, this]) (mk_int _ _)
    · rename_i len e ls hk hx
      rw [hx] at hvx
      obtain ⟨vs, hvx, hls⟩ := hvx
      split at he
      · rename_i k' n hy
        obtain ⟨ei, hei, he⟩ := tabRM_some he
        rw [ev_assume] at he
        obtain ⟨hb, he⟩ := he
        obtain ⟨l, hl, rfl⟩ := opVal_some he
        have hvy := h.eval y
        rw [hy] at hvy
        have hvy := rep_int hvy
        simp only [Bool.and_eq_true, decide_eq_true_eq] at hb
        obtain ⟨v, hv, hr⟩ := index_agg_run (k := k') (hT _ _ hi) hk (hT _ _ hei) hls hb.1 hb.2 hl
        exact does_val h hd (by simp [execOp, hvx, hvy, hv]) hr
      · simp [ev_fail] at he
    · simp [ev_fail] at he
  case extract t n =>
    simp only [aop] at he
    have hv := h.eval t
    split at he
    · rename_i ls hx
      rw [hx] at hv
      obtain ⟨vs, hv, hls⟩ := hv
      split at he
      · rename_i l hl
        rw [ev_pure] at he; subst he
        obtain ⟨v, h1, h2⟩ := hls.get hl
        exact does_val h hd (v := v) (by simp [execOp, hv, Instr.extract, h1]) h2
      · simp [ev_fail] at he
    · simp [ev_fail] at he
  case makeFunc fn first caps =>
    simp only [aop] at he
    split at he
    · rename_i f hfirst
      split at he
      · rename_i cs hcs
        rw [ev_pure] at he; subst he
        have hf : first = #[] := by apply Array.ext'; simpa using hfirst
        have hc := okCaps_caps hcs (h.evals caps.toList)
        refine does_val h hd (v := .func (.func f) #[] (caps.map a.eval)) (by simp [execOp, Instr.makeFunc, hf]) ⟨_, ?_, hc⟩
        congr 1
        apply Array.ext'; simp
      · simp [ev_fail] at he
    · simp [ev_fail] at he
  all_goals (simp only [aop] at he; simp [ev_fail] at he)
end
end Go.GG
