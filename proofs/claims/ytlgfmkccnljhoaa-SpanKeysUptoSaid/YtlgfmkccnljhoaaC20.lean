/- Every operation does what is said of it. -/
import Derived.Test.YtlgfmkccnljhoaaC19
namespace Go.GG
open Go.RowKit
section
variable {P : Program} {E : Entry} {m : IMap} {s : St} {a : Act} {w : World}

theorem call_op {dst : Option Nat} {c : Call} {k : Nat} {tab : Tab} (hT : TabOk P tab) {Γ : Env} (hΓ : EnvOk P Γ) (h : Rel P E m s a w) (hd : ∀ n, dst = some n → n < E.N) (hn : needsDst (.call c) = true → dst.isSome = true) {res : Res}
    (he : Ev (aop tab Γ k (dst.getD 0) (ev s) (.call c)) s.mem res) (hal : ∀ id ∈ res.allocs, s.used id = false ∧ id < lentBase)
    {ty : TypeId} {pos : String} {after : Array Edge} {guard : Option (Nat × Bool)} : Does P E ⟨dst, .call c, ty, pos, after, guard⟩ s a w res := by
  have hl := h.evals c.args.toList
  simp only [aop] at he
  split at he
  · rename_i b hc
    by_cases hb1 : b = .clear
    · subst hb1
      cases hargs : c.args.toList.map (ev s) with
      | nil => rw [hargs] at he; simp [builtinOp, ev_fail] at he
      | cons l ls =>
        cases ls with
        | nil =>
          obtain ⟨x, hx, rfl⟩ := map1 hargs
          rw [hargs] at he
          exact clear_does hc hx hT h hd he
        | cons l' ls => rw [hargs] at he; simp [builtinOp, ev_fail] at he
    by_cases hb2 : b = .copy
    · subst hb2
      cases hargs : c.args.toList.map (ev s) with
      | nil => rw [hargs] at he; simp [builtinOp, ev_fail] at he
      | cons l ls =>
        cases ls with
        | nil => rw [hargs] at he; simp [builtinOp, ev_fail] at he
        | cons l' ls =>
          cases ls with
          | nil =>
            obtain ⟨x, y, hx, rfl, rfl⟩ := map2 hargs
            rw [hargs] at he
            exact copy_does hc hx hT h hd he
          | cons l'' ls => rw [hargs] at he; simp [builtinOp, ev_fail] at he
    have : dst.isSome = true := hn (by cases b <;> simp_all [needsDst])
    obtain ⟨d, rfl⟩ := Option.isSome_iff_exists.1 this
    exact builtin_does hc hT h (hd d rfl) he hal
  · rename_i f hc
    have hx : a.eval (.func f) = .func (.func f) #[] ([] : List Value).toArray := rfl
    exact call_does h hΓ hc hx (by simpa using hl) he hal hd
  · rename_i x hnf hc
    have hv := h.eval x
    split at he
    · rename_i f caps hx
      rw [hx] at hv
      obtain ⟨cvs, hv, hcap⟩ := hv
      exact call_does h hΓ hc hv (hl.append (cap_ptrs hcap)) he hal hd
    · rename_i ps b p hx
      rw [hx] at hv
      split at he
      · rename_i y hy
        rw [ev_opt] at he
        obtain ⟨z, hz, he⟩ := he
        rw [ev_pure] at he; subst he
        exact fn_does h hc hv hl hy hz hd
      · simp [ev_fail] at he
    · simp [ev_fail] at he
  · simp [ev_fail] at he
/-! Slices of rows that may be written. -/
theorem add_zero_plain {A : Option Addr} (h : ∀ a, A = some a → ∃ b, a = ⟨b, 0, none⟩) : A.map (·.add 0) = A := by
  cases A with
  | none => rfl
  | some a => obtain ⟨b, rfl⟩ := h a rfl; simp [add_plain]
theorem own_plain {ok : Nat → Prop} {t : T} {xs : List t.den} {A : Option Addr} {n c : Nat} (h : OwnRow w ok t xs (.slice A n c)) : ∀ a, A = some a → ∃ b, a = ⟨b, 0, none⟩ := by
  rintro a rfl
  rcases h with ⟨h1, _⟩ | ⟨b, C, e, fr, cap, h1, _⟩
  · simp at h1
  · simp only [Value.slice.injEq, Option.some.injEq] at h1
    exact ⟨b, h1.1⟩
theorem sliceBoundsM_run {len cap : Nat} {l h mx : Int} {lo hi : Option Value} {k'' : IntKind} (h0 : 0 ≤ l) (h1 : l ≤ h) (h2 : h ≤ mx) (h3 : mx ≤ cap)
    (hlo : (lo = none ∧ l = 0) ∨ ∃ k, lo = some (.int k l)) (hhi : ∃ k, hi = some (.int k h)) : (Instr.sliceBounds true len cap lo hi (some (.int k'' mx))).run P w = .ok (l.toNat, h.toNat, mx.toNat) w := by
  obtain ⟨k', rfl⟩ := hhi
  rcases hlo with ⟨rfl, rfl⟩ | ⟨k, rfl⟩ <;> simp [Instr.sliceBounds]
  · rw [sliceBound_run (by omega) h3]; simp only [Result.andThen_ok]
    rw [sliceBound_run (by omega) (by omega)]; simp
  · rw [sliceBound_run (by omega) h3]
    simp only [Result.andThen_ok]
    rw [sliceBound_run (by omega) (by omega)]
    simp only [Result.andThen_ok]
    rw [sliceBound_run h0 (by omega)]; simp
theorem view_run (h : Rel P E m s a w) {t e : TypeId} {i ei : TI} (ht : TOk P t i) (hk : i.kind = .slice e) (hte : TOk P e ei) {lx : L} {vx : Value} {lo hi mx : Option L} {vlo vhi vmx : Option Value} {res : Res}
    (hiv : isView lx lo hi mx = true) (he : Ev (viewOp ei.size lx lo hi mx) s.mem res) (hx : LRep P w (okOf E m s.mem w) m lx vx) (hlo : optRep P w (okOf E m s.mem w) m lo vlo) (hhi : optRep P w (okOf E m s.mem w) m hi vhi) (hmx : optRep P w (okOf E m s.mem w) m mx vmx) :
    ∃ l v, res = .of l ∧ (Instr.sliceAt t vx vlo vhi vmx).run P w = .ok v w ∧ LRep P w (okOf E m s.mem w) m l v := by
  obtain ⟨d, hd, hs⟩ := ht.desc
  rw [hk] at hs
  rw [summ_slice hs] at hd
  unfold viewOp at he
  split at he
  · -- nil
    have hmn : mx = none := by cases mx with | none => rfl | some _ => simp [isView] at hiv
    subst hmn
    cases vmx with
    | some _ => simp only [optRep] at hmx
    | none =>
    simp only [ev_bind, ev_assume, ev_pure, Bool.and_eq_true, beq_iff_eq] at he
    obtain ⟨l, hl, h', hh, ⟨rfl, rfl⟩, rfl⟩ := he
    simp only [LRep] at hx; subst hx
    refine ⟨_, .slice none 0 0, rfl, ?_, rfl⟩
    rw [run_slice_slice hd, sliceBounds_run (P := P) (l := 0) (h := 0) (by omega) (by omega) (by omega) (boundOr_rep' hl hlo) (by rcases boundOr_rep' hh hhi with ⟨h1, h2⟩ | h1; exact .inl ⟨h1, by simp⟩; exact .inr h1)]
    simp [run_sizeOf hte]
  · -- a view
    rename_i r cnt lo0 n
    rw [ev_get] at he
    split at he
    · rename_i t' xs c hr
      simp only [ev_bind] at he
      obtain ⟨l, hl, h', hh, he⟩ := he
      split at he
      case h_2 m0 =>
        rcases ev_cond.1 he with ⟨his, he⟩ | ⟨_, he⟩
        case inr => simp [ev_fail] at he
        simp only [ev_bind, ev_assume, ev_pure, Bool.and_eq_true, decide_eq_true_eq] at he
        have hhi2 : ∃ k, vhi = some (.int k h') := by
          rcases boundOr_rep' hh hhi with ⟨h1, _⟩ | h1
          · subst h1
            cases hi with
            | none => simp at his
            | some _ => simp only [optRep] at hhi
          · exact h1
        obtain ⟨m', hm', ⟨⟨⟨hb1, hb2⟩, hb3⟩, hb4⟩, rfl⟩ := he
        obtain ⟨A, c1, k, hm, rfl, hk1⟩ := hx
        obtain ⟨im, h1, h2, _⟩ := h.mem _ _ hr
        rcases hm with hm | ⟨n0, hm⟩ <;> (rw [hm] at h1; simp at h1; subst h1; simp only [CRep] at h2)
        obtain ⟨rfl, ho⟩ := h2
        cases vmx with
        | none => simp only [optRep] at hmx
        | some vm =>
        obtain ⟨km, hvm⟩ := asInt_rep hm' hmx
        subst hvm
        obtain ⟨r, hr'⟩ : ∃ r, (Instr.sliceBounds true n (c - lo0) vlo vhi (some (.int km m'))).run P w = .ok r w := by
          refine ⟨_, sliceBoundsM_run (P := P) (l := l) (h := h') hb1 hb2 hb3 (by omega) (boundOr_rep' hl hlo) hhi2⟩
        have hex : ∃ v, (Instr.sliceAt t (Value.slice (Option.map (fun x => x.add k) A) n (c - lo0)) vlo vhi (some (.int km m'))).run P w = .ok v w := by
          rw [run_slice_slice hd, hr']
          simp only [Result.andThen_ok, run_sizeOf hte]
          exact ⟨_, rfl⟩
        obtain ⟨v, hv⟩ := hex
        exact ⟨_, v, rfl, hv, trivial⟩
      simp only [ev_assume, Bool.and_eq_true, decide_eq_true_eq] at he
      obtain ⟨⟨⟨hb1, hb2⟩, hb3⟩, he⟩ := he
      cases vmx with
      | some _ => simp only [optRep] at hmx
      | none =>
      rcases ev_cond.1 he with ⟨hsz, he⟩ | ⟨_, he⟩
      case inr => simp [ev_fail] at he
      rw [ev_pure] at he; subst he
      simp only [Bool.and_eq_true] at hsz
      have hcnt := Nat.eq_of_beq_eq_true hsz.2
      obtain ⟨A, c1, k, hm, rfl, hk1⟩ := hx
      obtain ⟨im, h1, h2, _⟩ := h.mem _ _ hr
      have hm0 := hm
      rcases hm with hm | ⟨n0, hm⟩ <;> (rw [hm] at h1; simp at h1; subst h1; simp only [CRep] at h2)
      obtain ⟨rfl, ho⟩ := h2
      have hpl := own_plain ho
      refine ⟨_, .slice (A.map (·.add (if c - lo0 = l.toNat then k else k + l.toNat * ei.size))) (h'.toNat - l.toNat) (c - (lo0 + l.toNat)), rfl, ?_, A, c, _, .inl hm, rfl, ?_⟩
      · rw [run_slice_slice hd, sliceBounds_run (P := P) (l := l) (h := h') hb1 hb2 (by omega) (boundOr_rep' hl hlo) (boundOr_rep' hh hhi)]
        simp only [Result.andThen_ok, run_sizeOf hte]
        have e1 : c - lo0 - l.toNat = c - (lo0 + l.toNat) := by omega
        rw [e1]
        have e2 : (if c - lo0 = l.toNat then A.map (·.add k) else (A.map (·.add k)).map (·.add (l.toNat * ei.size))) = A.map (·.add (if c - lo0 = l.toNat then k else k + l.toNat * ei.size)) := by
          split
          · rfl
          · cases A with
            | none => rfl
            | some ad => obtain ⟨b, rfl⟩ := hpl ad rfl; simp [add_plain, Nat.add_assoc]
        rw [e2]
      · by_cases hz : c - lo0 = l.toNat
        · by_cases hp : lo0 + l.toNat = 0
          · obtain ⟨rfl, hl0⟩ : lo0 = 0 ∧ l.toNat = 0 := by omega
            rw [if_pos hz, hl0]
            exact .inr (hk1.resolve_left (by omega))
          · exact .inl (by omega)
        · rw [if_neg hz]
          have : k = lo0 * cnt := hk1.resolve_left (by omega)
          right
          rw [this, ← hcnt, Nat.add_mul]
    · simp [ev_fail] at he
  · -- a row
    rename_i r
    have hhn : hi = none := by
      cases lo <;> cases hi <;> simp [isView] at hiv
      rfl
    subst hhn
    cases vhi with
    | some _ => simp only [optRep] at hhi
    | none =>
    have hmn : mx = none := by cases lo <;> cases mx <;> simp [isView] at hiv; rfl
    subst hmn
    cases vmx with
    | some _ => simp only [optRep] at hmx
    | none =>
    rw [ev_get] at he
    split at he
    · rename_i t' xs hr
      simp only [ev_bind, ev_assume, Bool.and_eq_true, decide_eq_true_eq] at he
      obtain ⟨l, hl, ⟨hb1, hb2⟩, he⟩ := he
      rcases ev_cond.1 he with ⟨hsz, he⟩ | ⟨_, he⟩
      case inr => simp [ev_fail] at he
      rw [ev_pure] at he; subst he
      have hcnt := Nat.eq_of_beq_eq_true hsz
      obtain ⟨im, h1, h2, _⟩ := h.mem _ _ hr
      simp only [LRep] at hx
      rw [h1] at hx
      rcases hx with hx | hx <;> (simp at hx; subst hx; simp only [CRep] at h2)
      obtain ⟨A, c, rfl, hcl, _⟩ := own_form h2
      have hpl := own_plain h2
      refine ⟨_, .slice (A.map (·.add (if c = l.toNat then 0 else l.toNat * ei.size))) (xs.length - l.toNat) (c - l.toNat), rfl, ?_, A, c, _, .inr ⟨_, h1⟩, rfl, ?_⟩
      · rw [run_slice_slice hd, sliceBounds_run (P := P) (l := l) (h := (xs.length : Int)) hb1 hb2 (by omega) (boundOr_rep' hl hlo) (.inl ⟨rfl, rfl⟩)]
        simp only [Result.andThen_ok, run_sizeOf hte, Int.toNat_natCast]
        split
        · rw [add_zero_plain hpl]
        · rfl
      · by_cases hz : c = l.toNat
        · by_cases hp : l.toNat = 0
          · rw [if_pos hz, hp]; exact .inr (Nat.zero_mul _).symm
          · exact .inl ⟨hz, by omega⟩
        · rw [if_neg hz, hcnt]; exact .inr rfl
    · simp [ev_fail] at he
  · simp [ev_fail] at he
theorem cut_does {dst : Nat} {t e : TypeId} {x y : Operand} {r : Nat} {i ei : TI} (h : Rel P E m s a w) (hd : dst < E.N) (hid : s.used dst = false) (hlt : dst < lentBase) (ht : TOk P t i) (hk : i.kind = .slice e) (hte : TOk P e ei) (hxe : ev s x = .sref r) {res : Res}
    (he : Ev (cutOp ei.size dst r (ev s y)) s.mem res)
    {ty : TypeId} {pos : String} {after : Array Edge} {guard : Option (Nat × Bool)} : Does P E ⟨some dst, .slice t x none (some y) none, ty, pos, after, guard⟩ s a w res := by
  have hd' : ∀ n, (some dst : Option Nat) = some n → n < E.N := by intro n hn; simp at hn; omega
  obtain ⟨d, hdd, hs⟩ := ht.desc
  rw [hk] at hs
  rw [summ_slice hs] at hdd
  have hX := h.eval x
  rw [hxe] at hX
  unfold cutOp at he
  rw [ev_get] at he
  split at he
  · rename_i t' xs hr
    simp only [ev_bind, ev_assume, Bool.and_eq_true, decide_eq_true_eq] at he
    obtain ⟨n, hn, ⟨hb1, hb2⟩, he⟩ := he
    rcases ev_cond.1 he with ⟨_, he⟩ | ⟨hsz, he⟩
    · simp [ev_fail] at he
    rw [ev_pure] at he; subst he
    obtain ⟨k', hy⟩ := asInt_rep hn (h.eval y)
    obtain ⟨im, h1, h2, _⟩ := h.mem _ _ hr
    simp only [LRep] at hX
    rw [h1] at hX
    rcases hX with hX | hX <;> (simp at hX; subst hX; simp only [CRep] at h2)
    obtain ⟨A, c, hv, hcl, _⟩ := own_form h2
    rw [hv] at h2 h1
    have hpl := own_plain h2
    have hcut : cut xs 0 n = xs.take n.toNat := by simp [cut]
    have hrun : (execOp a.eval ⟨some dst, .slice t x none (some y) none, ty, pos, after, guard⟩).run P w = .ok (.value (.slice A n.toNat c)) w := by
      have : (Instr.sliceAt t (a.eval x) none (some (a.eval y)) none).run P w = .ok (.slice A n.toNat c) w := by
        rw [hv, hy, run_slice_slice hdd, sliceBounds_run (P := P) (l := 0) (h := n) (by omega) hb1 (by omega) (.inl ⟨rfl, rfl⟩) (.inr ⟨k', rfl⟩)]
        simp only [Result.andThen_ok, run_sizeOf hte, Int.toNat_zero, Nat.zero_mul, Nat.sub_zero, add_zero_plain hpl, ite_self]
      simp [execOp, this]
    have hpre := own_take h2 (k := n.toNat) (by omega)
    rw [hcut]
    cases A with
    | none =>
      have hx0 : xs = [] := by
        rcases h2 with ⟨_, hx⟩ | ⟨b, C, e', fr, cap, hbad, _⟩
        · exact hx
        · simp at hbad
      have hc0 : c = 0 := by
        rcases h2 with ⟨hx, _⟩ | ⟨b, C, e', fr, cap, hbad, _⟩
        · simp at hx; exact hx.2
        · simp at hbad
      subst hx0
      have hn0 : n.toNat = 0 := by simp at hb2; omega
      have hμ : ∀ r' c', editMem [(r, none)] s.mem r' = some c' → s.mem r' = some c' := fun r' c' h' => (editMem_none (by simp) h').1
      rw [hn0, hc0] at hrun
      refine does_drop (gone := [(r, none)]) rfl ?_
      have := does_nil (h.drop hμ) hd' hid hlt (t := t') hrun
      simpa using this
    | some ad =>
      obtain ⟨b, rfl⟩ := hpl ad rfl
      obtain ⟨h5, h6⟩ := h.move (id := dst) (w' := w) (c' := .arr t' (xs.take n.toNat)) (i' := .arr (.slice (some ⟨b, 0, none⟩) n.toNat c)) hr h1 rfl hid hlt (fun _ _ => rfl) rfl rfl rfl rfl rfl (fun ok' m' hk' _ => hpre.mono hk' (fun _ _ => rfl))
      exact does_turn hd' hrun h5 (.inl h6)
  · simp [ev_fail] at he
theorem op_sound {tab : Tab} (hT : TabOk P tab) {Γ : Env} (hΓ : EnvOk P Γ) {k : Nat} (h : Rel P E m s a w) {o : Oper} (hd : ∀ n, o.dst = some n → n < E.N) (hn : needsDst o.op = true → o.dst.isSome = true) {res : Res}
    (he : Ev (aop tab Γ k (o.dst.getD 0) (ev s) o.op) s.mem res) (hal : ∀ id ∈ res.allocs, s.used id = false ∧ id < lentBase) : Does P E o s a w res := by
  obtain ⟨dst, op, ty, pos, after, guard⟩ := o
  cases op
  case call c => exact call_op hT hΓ h hd hn he hal
  case pick c x y => exact pick_does h hd he
  case build t ps => exact build_does hT h hd he
  case nilCheck x => exact nilCheck_does h hd he
  case move x =>
    simp only [aop, ev_pure] at he; subst he
    exact does_val h hd (v := a.eval x) (by simp [execOp]) (h.eval x)
  case assign x =>
    simp only [aop, ev_pure] at he; subst he
    exact does_val h hd (v := a.eval x) (by simp [execOp]) (h.eval x)
  case alloc t =>
    obtain ⟨d, rfl⟩ := Option.isSome_iff_exists.1 (hn rfl)
    simp only [aop] at he
    obtain ⟨i, hi, he⟩ := tabRM_some he
    rw [ev_pure] at he; subst he
    obtain ⟨h1, h2⟩ := hal d (by simp)
    exact alloc_does h (hd d rfl) h1 h2 (hT _ _ hi)
  case box t x =>
    obtain ⟨d, rfl⟩ := Option.isSome_iff_exists.1 (hn rfl)
    simp only [aop] at he
    rcases ev_cond.1 he with ⟨hp, he⟩ | ⟨_, he⟩
    case inr => simp [ev_fail] at he
    rw [ev_pure] at he; subst he
    obtain ⟨h1, h2⟩ := hal d (by simp)
    exact box_does h (hd d rfl) h1 h2 (plain_cells h hp)
  case buildSlice t n ps =>
    obtain ⟨d, rfl⟩ := Option.isSome_iff_exists.1 (hn rfl)
    exact buildSl_does hT h (hd d rfl) he hal
  case makeSlice t x y =>
    obtain ⟨d, rfl⟩ := Option.isSome_iff_exists.1 (hn rfl)
    exact makeSl_does hT h (hd d rfl) he hal
  case load t x =>
    simp only [aop] at he
    obtain ⟨i, hi, he⟩ := tabRM_some he
    obtain ⟨l, hl, rfl⟩ := opVal_some he
    obtain ⟨v, hv, hr⟩ := load_run h.memOk (hT _ _ hi) hl (h.eval x)
    exact does_val h hd (by simp [execOp, hv]) hr
  case store t x y =>
    simp only [aop] at he
    obtain ⟨i, hi, he⟩ := tabRM_some he
    exact store_does h hd (hT _ _ hi) he
  case binOp op t x y z =>
    simp only [aop] at he
    obtain ⟨l, hl, rfl⟩ := opVal_some he
    obtain ⟨v, hv, hr⟩ := binop_run h.memOk hT (x := x) (y := y) hl (h.eval x) (h.eval y)
    exact does_val h hd (by
      simp only [execOp, Sem.run_bind] at hv ⊢
      rw [hv]; rfl) hr
  case unOp op t x =>
    simp only [aop] at he
    obtain ⟨l, hl, rfl⟩ := opVal_some he
    obtain ⟨v, hv, hr⟩ := unop_run hl (h.eval x)
    exact does_val h hd (by simp [execOp, hv]) hr
  case convert src tgt x =>
    obtain ⟨d, rfl⟩ := Option.isSome_iff_exists.1 (hn rfl)
    simp only [aop] at he
    obtain ⟨i, hi, he⟩ := tabRM_some he
    obtain ⟨j, hj, he⟩ := tabRM_some he
    exact convert_does h (hd d rfl) hT (hT _ _ hi) (hT _ _ hj) he hal
  case slice t x lo hi mx =>
    simp only [aop] at he
    obtain ⟨i, hi', he⟩ := tabRM_some he
    have plain : Ev (sliceOp tab i (ev s x) (lo.map (ev s)) (hi.map (ev s)) (mx.map (ev s))) s.mem res → Does P E ⟨dst, .slice t x lo hi mx, ty, pos, after, guard⟩ s a w res := by
      intro he
      obtain ⟨h1, h2, v, hv, hr⟩ := slice_run h hT (hT _ _ hi') he (h.eval x) (h.evalOpt lo) (h.evalOpt hi) (h.evalOpt mx)
      have hμ : ∀ r c, editMem res.edits s.mem r = some c → s.mem r = some c := fun r c hc => (editMem_none h2 hc).1
      refine does_turn (m' := m) (w' := w) (v := v) hd (by simp [execOp, hv]) ?_ hr
      rw [h1]
      exact h.drop hμ
    split at he
    · rename_i e hk
      obtain ⟨ei, hei, he⟩ := tabRM_some he
      rcases ev_cond.1 he with ⟨hiv, he2⟩ | ⟨hnv, he2⟩
      · obtain ⟨l, v, hres, hv, hr⟩ := view_run h (hT _ _ hi') hk (hT _ _ hei) hiv he2 (h.eval x) (h.evalOpt lo) (h.evalOpt hi) (h.evalOpt mx)
        rw [hres]
        exact does_val h hd (v := v) (by simp [execOp, hv]) hr
      · replace he := he2
        clear he2
        cases lo <;> cases hi <;> cases mx <;> (split at he) <;> first | exact plain he | skip
        all_goals rename_i h1 h2 h3 h4
        all_goals first | (simp at h2; done) | (simp at h3; done) | (simp at h4; done) | skip
        simp only [Option.map_some, Option.some.injEq] at h3
        subst h3
        rw [ev_get] at he
        split at he
        · obtain ⟨d, rfl⟩ := Option.isSome_iff_exists.1 (hn rfl)
          have hal' : s.used d = false ∧ d < lentBase := by
            refine hal d ?_
            unfold cutOp at he
            rw [ev_get] at he
            split at he
            · simp only [ev_bind, ev_assume] at he
              obtain ⟨_, _, _, he⟩ := he
              rcases ev_cond.1 he with ⟨_, he⟩ | ⟨_, he⟩
              · simp [ev_fail] at he
              · rw [ev_pure] at he; subst he; simp
            · simp [ev_fail] at he
          exact cut_does (x := x) h (hd d rfl) hal'.1 hal'.2 (hT _ _ hi') hk (hT _ _ hei) h1 he
        · exact plain he
    · exact plain he
  case fieldAddr t x f =>
    simp only [aop] at he
    obtain ⟨i, hi, he⟩ := tabRM_some he
    split at he
    · rename_i fs hk
      split at he
      · rename_i ft o hf
        obtain ⟨fi, hfi, he⟩ := tabRM_some he
        rcases ev_cond.1 he with ⟨_, he⟩ | ⟨hz, he⟩
        · simp [ev_fail] at he
        obtain ⟨l, hl, rfl⟩ := opVal_some he
        obtain ⟨v, hv, hr⟩ := fieldAddr_run (hT _ _ hi) hk hf (hT _ _ hfi) (by intro e; simp [e] at hz) hl (h.eval x)
        exact does_val h hd (by simp [execOp, hv]) hr
      · simp [ev_fail] at he
    · simp [ev_fail] at he
  case field t x f =>
    simp only [aop] at he
    obtain ⟨i, hi, he⟩ := tabRM_some he
    split at he
    · rename_i fs hk
      split at he
      · rename_i ft o ls hf hx
        obtain ⟨fi, hfi, he⟩ := tabRM_some he
        obtain ⟨l, hl, rfl⟩ := opVal_some he
        have hv := h.eval x
        rw [hx] at hv
        obtain ⟨v, hv, hr⟩ := field_run (hT _ _ hi) hk hf (hT _ _ hfi) hl hv
        exact does_val h hd (by simp [execOp, hv]) hr
      · simp [ev_fail] at he
    · simp [ev_fail] at he
  case indexAddr t x y =>
    simp only [aop] at he
    obtain ⟨i, hi, he⟩ := tabRM_some he
    split at he
    · rename_i e hk
      obtain ⟨ei, hei, he⟩ := tabRM_some he
      obtain ⟨l, hl, rfl⟩ := opVal_some he
      obtain ⟨v, hv, hr⟩ := indexAddr_run h.memOk (hT _ _ hi) hk (hT _ _ hei) hl (h.eval x) (h.eval y)
      exact does_val h hd (by simp [execOp, hv]) hr
    · simp [ev_fail] at he
  case index t x y =>
    simp only [aop] at he
    obtain ⟨i, hi, he⟩ := tabRM_some he
    have hvx := h.eval x
    split at he
    · rename_i st hk hx
      rw [hx] at hvx
      have hvx := rep_str hvx
      simp only [ev_bind, ev_opt, ev_pure] at he
      obtain ⟨n, hn, b, hb, rfl⟩ := he
      obtain ⟨k', hvy⟩ := asInt_rep hn (h.eval y)
      have := index_str_run (w := w) (k := k') (hT _ _ hi) hk hb
      exact does_val h hd (v := .int .u8 b.toNat) (by simp [execOp, hvx, hvy, this]) (mk_int _ _)
    · rename_i len e ls hk hx
      rw [hx] at hvx
      obtain ⟨vs, hvx, hls⟩ := hvx
      split at he
      · rename_i k' n hy
        obtain ⟨ei, hei, he⟩ := tabRM_some he
        rw [ev_assume] at he
        obtain ⟨hb, he⟩ := he
        obtain ⟨l, hl, rfl⟩ := opVal_some he
        have hvy := h.eval y
        rw [hy] at hvy
        have hvy := rep_int hvy
        simp only [Bool.and_eq_true, decide_eq_true_eq] at hb
        obtain ⟨v, hv, hr⟩ := index_agg_run (k := k') (hT _ _ hi) hk (hT _ _ hei) hls hb.1 hb.2 hl
        exact does_val h hd (by simp [execOp, hvx, hvy, hv]) hr
      · simp [ev_fail] at he
    · simp [ev_fail] at he
  case extract t n =>
    simp only [aop] at he
    have hv := h.eval t
    split at he
    · rename_i ls hx
      rw [hx] at hv
      obtain ⟨vs, hv, hls⟩ := hv
      split at he
      · rename_i l hl
        rw [ev_pure] at he; subst he
        obtain ⟨v, h1, h2⟩ := hls.get hl
        exact does_val h hd (v := v) (by simp [execOp, hv, Instr.extract, h1]) h2
      · simp [ev_fail] at he
    · simp [ev_fail] at he
  case makeFunc fn first caps =>
    simp only [aop] at he
    split at he
    · rename_i f hfirst
      split at he
      · rename_i cs hcs
        rw [ev_pure] at he; subst he
        have hf : first = #[] := by apply Array.ext'; simpa using hfirst
        have hc := okCaps_caps hcs (h.evals caps.toList)
        refine does_val h hd (v := .func (.func f) #[] (caps.map a.eval)) (by simp [execOp, Instr.makeFunc, hf]) ⟨_, ?_, hc⟩
        congr 1
        apply Array.ext'; simp
      · simp [ev_fail] at he
    · simp [ev_fail] at he
  all_goals (simp only [aop] at he; simp [ev_fail] at he)
end
end Go.GG
