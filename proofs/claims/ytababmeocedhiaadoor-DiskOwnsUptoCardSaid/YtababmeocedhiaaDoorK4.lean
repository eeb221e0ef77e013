/- The core of our own, in one with others. -/
import Derived.Test.YtababmeocedhiaaDoorK7
import Derived.OrdersIn
import Derived.LoopNIn
import Derived.RangeFuncIn
import Derived.RangeFuncLeaves
import Derived.RangeFuncOwn
/- Every operation does what is said of it. -/
namespace Go.GG
open Go.RowKit
section
variable {τ : Tabs} {P : Program} {E : Entry} {m : IMap} {s : St} {a : Act} {w : World}

theorem call_op {dst : Option Nat} {c : Call} {k : Nat} {tab : Tab} (hT : TabOk P tab) {Γ : Env} (hΓ : EnvOk P Γ) (h : Rel P E m s a w) (hd : ∀ n, dst = some n → E.may n) (hn : needsDst (.call c) = true → dst.isSome = true) {res : Res}
    (he : Ev (aop tab Γ k (dst.getD 0) (ev s) (.call c)) s.mem res) (hal : ∀ id ∈ res.allocs, s.used id = false ∧ id < lentBase)
    {ty : TypeId} {pos : String} {after : Array Edge} {guard : Option (Nat × Bool)} : Does P E ⟨dst, .call c, ty, pos, after, guard⟩ s a w res := by
  have hl := h.evals c.args.toList
  simp only [aop] at he
  split at he
  · rename_i b hc
    by_cases hb1 : b = .clear
    · subst hb1
      cases hargs : c.args.toList.map (ev s) with
      | nil => rw [hargs] at he; simp [builtinOp, ev_fail] at he
      | cons l ls =>
        cases ls with
        | nil =>
          obtain ⟨x, hx, rfl⟩ := map1 hargs
          rw [hargs] at he
          exact clear_does hc hx hT h hd he
        | cons l' ls => rw [hargs] at he; simp [builtinOp, ev_fail] at he
    by_cases hb2 : b = .copy
    · subst hb2
      cases hargs : c.args.toList.map (ev s) with
      | nil => rw [hargs] at he; simp [builtinOp, ev_fail] at he
      | cons l ls =>
        cases ls with
        | nil => rw [hargs] at he; simp [builtinOp, ev_fail] at he
        | cons l' ls =>
          cases ls with
          | nil =>
            obtain ⟨x, y, hx, rfl, rfl⟩ := map2 hargs
            rw [hargs] at he
            exact copy_does hc hx hT h hd he
          | cons l'' ls => rw [hargs] at he; simp [builtinOp, ev_fail] at he
    by_cases hb3 : b = .delete
    · subst hb3
      cases hargs : c.args.toList.map (ev s) with
      | nil => rw [hargs] at he; simp [builtinOp, ev_fail] at he
      | cons l ls =>
        cases ls with
        | nil => rw [hargs] at he; simp [builtinOp, ev_fail] at he
        | cons l' ls =>
          cases ls with
          | nil =>
            obtain ⟨x, y, hx, rfl, rfl⟩ := map2 hargs
            rw [hargs] at he
            exact delete_does hc hx hT h hd he
          | cons l'' ls => rw [hargs] at he; simp [builtinOp, ev_fail] at he
    have : dst.isSome = true := hn (by cases b <;> simp_all [needsDst])
    obtain ⟨d, rfl⟩ := Option.isSome_iff_exists.1 this
    exact builtin_does hc hb3 hT h (hd d rfl) he hal
  · rename_i f hc
    have hx : a.eval (.func f) = .func (.func f) #[] ([] : List Value).toArray := rfl
    exact call_does h hΓ hc hx (by simpa using hl) he hal hd
  · rename_i x hnf hc
    have hv := h.eval x
    split at he
    · rename_i f caps hx
      rw [hx] at hv
      obtain ⟨cvs, hv, hcap⟩ := hv
      exact call_does h hΓ hc hv (hl.append (cap_ptrs hcap)) he hal hd
    · rename_i ps b p hx
      rw [hx] at hv
      split at he
      · rename_i y hy
        rw [ev_opt] at he
        obtain ⟨z, hz, he⟩ := he
        rw [ev_pure] at he; subst he
        exact fn_does h hc hv hl hy hz hd
      · simp [ev_fail] at he
    · simp [ev_fail] at he
  · simp [ev_fail] at he
/-! Slices of rows that may be written. -/
theorem add_zero_plain {A : Option Addr} (h : ∀ a, A = some a → ∃ b, a = ⟨b, 0, none⟩) : A.map (·.add 0) = A := by
  cases A with
  | none => rfl
  | some a => obtain ⟨b, rfl⟩ := h a rfl; simp [add_plain]
theorem own_plain {ok : Nat → Prop} {t : T} {xs : List t.den} {A : Option Addr} {n c : Nat} (h : OwnRow w ok t xs (.slice A n c)) : ∀ a, A = some a → ∃ b, a = ⟨b, 0, none⟩ := by
  rintro a rfl
  rcases h with ⟨h1, _⟩ | ⟨b, C, e, fr, cap, h1, _⟩
  · simp at h1
  · simp only [Value.slice.injEq, Option.some.injEq] at h1
    exact ⟨b, h1.1⟩
theorem sliceBoundsM_run {len cap : Nat} {l h mx : Int} {lo hi : Option Value} {k'' : IntKind} (h0 : 0 ≤ l) (h1 : l ≤ h) (h2 : h ≤ mx) (h3 : mx ≤ cap)
    (hlo : (lo = none ∧ l = 0) ∨ ∃ k, lo = some (.int k l)) (hhi : ∃ k, hi = some (.int k h)) : (Instr.sliceBounds true len cap lo hi (some (.int k'' mx))).run P w = .ok (l.toNat, h.toNat, mx.toNat) w := by
  obtain ⟨k', rfl⟩ := hhi
  rcases hlo with ⟨rfl, rfl⟩ | ⟨k, rfl⟩ <;> simp [Instr.sliceBounds]
  · rw [sliceBound_run (by omega) h3]; simp only [Result.andThen_ok]
    rw [sliceBound_run (by omega) (by omega)]; simp
  · rw [sliceBound_run (by omega) h3]
    simp only [Result.andThen_ok]
    rw [sliceBound_run (by omega) (by omega)]
    simp only [Result.andThen_ok]
    rw [sliceBound_run h0 (by omega)]; simp
theorem view_run (h : Rel P E m s a w) {t e : TypeId} {i ei : TI} (ht : TOk P t i) (hk : i.kind = .slice e) (hte : TOk P e ei) {lx : L} {vx : Value} {lo hi mx : Option L} {vlo vhi vmx : Option Value} {res : Res}
    (hiv : isView lx lo hi mx = true) (he : Ev (viewOp ei.size lx lo hi mx) s.mem res) (hx : LRep P w (okOf E m s.mem w) m lx vx) (hlo : optRep P w (okOf E m s.mem w) m lo vlo) (hhi : optRep P w (okOf E m s.mem w) m hi vhi) (hmx : optRep P w (okOf E m s.mem w) m mx vmx) :
    ∃ l v, res = .of l ∧ (Instr.sliceAt t vx vlo vhi vmx).run P w = .ok v w ∧ LRep P w (okOf E m s.mem w) m l v := by
  obtain ⟨d, hd, hs⟩ := ht.desc
  rw [hk] at hs
  rw [summ_slice hs] at hd
  unfold viewOp at he
  split at he
  · -- nil
    have hmn : mx = none := by cases mx with | none => rfl | some _ => simp [isView] at hiv
    subst hmn
    cases vmx with
    | some _ => simp only [optRep] at hmx
    | none =>
    simp only [ev_bind, ev_assume, ev_pure, Bool.and_eq_true, beq_iff_eq] at he
    obtain ⟨l, hl, h', hh, ⟨rfl, rfl⟩, rfl⟩ := he
    simp only [LRep] at hx; subst hx
    refine ⟨_, .slice none 0 0, rfl, ?_, rfl⟩
    rw [run_slice_slice hd, sliceBounds_run (P := P) (l := 0) (h := 0) (by omega) (by omega) (by omega) (boundOr_rep' hl hlo) (by rcases boundOr_rep' hh hhi with ⟨h1, h2⟩ | h1; exact .inl ⟨h1, by simp⟩; exact .inr h1)]
    simp [run_sizeOf hte]
  · -- a view
    rename_i r cnt lo0 n
    rw [ev_get] at he
    split at he
    · rename_i t' xs c hr
      simp only [ev_bind] at he
      obtain ⟨l, hl, h', hh, he⟩ := he
      split at he
      case h_2 m0 =>
        rcases ev_cond.1 he with ⟨his, he⟩ | ⟨_, he⟩
        case inr => simp [ev_fail] at he
        simp only [ev_bind, ev_assume, ev_pure, Bool.and_eq_true, decide_eq_true_eq] at he
        have hhi2 : ∃ k, vhi = some (.int k h') := by
          rcases boundOr_rep' hh hhi with ⟨h1, _⟩ | h1
          · subst h1
            cases hi with
            | none => simp at his
            | some _ => simp only [optRep] at hhi
          · exact h1
        obtain ⟨m', hm', ⟨⟨⟨hb1, hb2⟩, hb3⟩, hb4⟩, rfl⟩ := he
        obtain ⟨A, c1, k, hm, rfl, hk1⟩ := hx
        obtain ⟨im, h1, h2, _⟩ := h.mem _ _ hr
        rcases hm with hm | ⟨n0, hm⟩ <;> (rw [hm] at h1; simp at h1; subst h1; simp only [CRep] at h2)
        obtain ⟨rfl, ho⟩ := h2
        cases vmx with
        | none => simp only [optRep] at hmx
        | some vm =>
        obtain ⟨km, hvm⟩ := asInt_rep hm' hmx
        subst hvm
        obtain ⟨r, hr'⟩ : ∃ r, (Instr.sliceBounds true n (c - lo0) vlo vhi (some (.int km m'))).run P w = .ok r w := by
          refine ⟨_, sliceBoundsM_run (P := P) (l := l) (h := h') hb1 hb2 hb3 (by omega) (boundOr_rep' hl hlo) hhi2⟩
        have hex : ∃ v, (Instr.sliceAt t (Value.slice (Option.map (fun x => x.add k) A) n (c - lo0)) vlo vhi (some (.int km m'))).run P w = .ok v w := by
          rw [run_slice_slice hd, hr']
          simp only [Result.andThen_ok, run_sizeOf hte]
          exact ⟨_, rfl⟩
        obtain ⟨v, hv⟩ := hex
        exact ⟨_, v, rfl, hv, trivial⟩
      simp only [ev_assume, Bool.and_eq_true, decide_eq_true_eq] at he
      obtain ⟨⟨⟨hb1, hb2⟩, hb3⟩, he⟩ := he
      cases vmx with
      | some _ => simp only [optRep] at hmx
      | none =>
      rcases ev_cond.1 he with ⟨hsz, he⟩ | ⟨_, he⟩
      case inr => simp [ev_fail] at he
      rw [ev_pure] at he; subst he
      simp only [Bool.and_eq_true] at hsz
      have hcnt := Nat.eq_of_beq_eq_true hsz.2
      obtain ⟨A, c1, k, hm, rfl, hk1⟩ := hx
      obtain ⟨im, h1, h2, _⟩ := h.mem _ _ hr
      have hm0 := hm
      rcases hm with hm | ⟨n0, hm⟩ <;> (rw [hm] at h1; simp at h1; subst h1; simp only [CRep] at h2)
      obtain ⟨rfl, ho⟩ := h2
      have hpl := own_plain ho
      refine ⟨_, .slice (A.map (·.add (if c - lo0 = l.toNat then k else k + l.toNat * ei.size))) (h'.toNat - l.toNat) (c - (lo0 + l.toNat)), rfl, ?_, A, c, _, .inl hm, rfl, ?_⟩
      · rw [run_slice_slice hd, sliceBounds_run (P := P) (l := l) (h := h') hb1 hb2 (by omega) (boundOr_rep' hl hlo) (boundOr_rep' hh hhi)]
        simp only [Result.andThen_ok, run_sizeOf hte]
        have e1 : c - lo0 - l.toNat = c - (lo0 + l.toNat) := by omega
        rw [e1]
        have e2 : (if c - lo0 = l.toNat then A.map (·.add k) else (A.map (·.add k)).map (·.add (l.toNat * ei.size))) = A.map (·.add (if c - lo0 = l.toNat then k else k + l.toNat * ei.size)) := by
          split
          · rfl
          · cases A with
            | none => rfl
            | some ad => obtain ⟨b, rfl⟩ := hpl ad rfl; simp [add_plain, Nat.add_assoc]
        rw [e2]
      · by_cases hz : c - lo0 = l.toNat
        · by_cases hp : lo0 + l.toNat = 0
          · obtain ⟨rfl, hl0⟩ : lo0 = 0 ∧ l.toNat = 0 := by omega
            rw [if_pos hz, hl0]
            exact .inr (hk1.resolve_left (by omega))
          · exact .inl (by omega)
        · rw [if_neg hz]
          have : k = lo0 * cnt := hk1.resolve_left (by omega)
          right
          rw [this, ← hcnt, Nat.add_mul]
    · simp [ev_fail] at he
  · -- a row
    rename_i r
    have hhn : hi = none := by
      cases lo <;> cases hi <;> simp [isView] at hiv
      rfl
    subst hhn
    cases vhi with
    | some _ => simp only [optRep] at hhi
    | none =>
    have hmn : mx = none := by cases lo <;> cases mx <;> simp [isView] at hiv; rfl
    subst hmn
    cases vmx with
    | some _ => simp only [optRep] at hmx
    | none =>
    rw [ev_get] at he
    split at he
    · rename_i t' xs hr
      simp only [ev_bind, ev_assume, Bool.and_eq_true, decide_eq_true_eq] at he
      obtain ⟨l, hl, ⟨hb1, hb2⟩, he⟩ := he
      rcases ev_cond.1 he with ⟨hsz, he⟩ | ⟨_, he⟩
      case inr => simp [ev_fail] at he
      rw [ev_pure] at he; subst he
      have hcnt := Nat.eq_of_beq_eq_true hsz
      obtain ⟨im, h1, h2, _⟩ := h.mem _ _ hr
      simp only [LRep] at hx
      rw [h1] at hx
      rcases hx with hx | hx <;> (simp at hx; subst hx; simp only [CRep] at h2)
      obtain ⟨A, c, rfl, hcl, _⟩ := own_form h2
      have hpl := own_plain h2
      refine ⟨_, .slice (A.map (·.add (if c = l.toNat then 0 else l.toNat * ei.size))) (xs.length - l.toNat) (c - l.toNat), rfl, ?_, A, c, _, .inr ⟨_, h1⟩, rfl, ?_⟩
      · rw [run_slice_slice hd, sliceBounds_run (P := P) (l := l) (h := (xs.length : Int)) hb1 hb2 (by omega) (boundOr_rep' hl hlo) (.inl ⟨rfl, rfl⟩)]
        simp only [Result.andThen_ok, run_sizeOf hte, Int.toNat_natCast]
        split
        · rw [add_zero_plain hpl]
        · rfl
      · by_cases hz : c = l.toNat
        · by_cases hp : l.toNat = 0
          · rw [if_pos hz, hp]; exact .inr (Nat.zero_mul _).symm
          · exact .inl ⟨hz, by omega⟩
        · rw [if_neg hz, hcnt]; exact .inr rfl
    · simp [ev_fail] at he
  · simp [ev_fail] at he
theorem cut_does {dst : Nat} {t e : TypeId} {x y : Operand} {r : Nat} {i ei : TI} (h : Rel P E m s a w) (hd : E.may dst) (hid : s.used dst = false) (hlt : dst < lentBase) (ht : TOk P t i) (hk : i.kind = .slice e) (hte : TOk P e ei) (hxe : ev s x = .sref r) {res : Res}
    (he : Ev (cutOp ei.size dst r (ev s y)) s.mem res)
    {ty : TypeId} {pos : String} {after : Array Edge} {guard : Option (Nat × Bool)} : Does P E ⟨some dst, .slice t x none (some y) none, ty, pos, after, guard⟩ s a w res := by
  have hd' : ∀ n, (some dst : Option Nat) = some n → E.may n := by intro n hn; simp at hn; subst hn; exact hd
  obtain ⟨d, hdd, hs⟩ := ht.desc
  rw [hk] at hs
  rw [summ_slice hs] at hdd
  have hX := h.eval x
  rw [hxe] at hX
  unfold cutOp at he
  rw [ev_get] at he
  split at he
  · rename_i t' xs hr
    simp only [ev_bind, ev_assume, Bool.and_eq_true, decide_eq_true_eq] at he
    obtain ⟨n, hn, ⟨hb1, hb2⟩, he⟩ := he
    rcases ev_cond.1 he with ⟨_, he⟩ | ⟨hsz, he⟩
    · simp [ev_fail] at he
    rw [ev_pure] at he; subst he
    obtain ⟨k', hy⟩ := asInt_rep hn (h.eval y)
    obtain ⟨im, h1, h2, _⟩ := h.mem _ _ hr
    simp only [LRep] at hX
    rw [h1] at hX
    rcases hX with hX | hX <;> (simp at hX; subst hX; simp only [CRep] at h2)
    obtain ⟨A, c, hv, hcl, _⟩ := own_form h2
    rw [hv] at h2 h1
    have hpl := own_plain h2
    have hcut : cut xs 0 n = xs.take n.toNat := by simp [cut]
    have hrun : (execOp a.eval ⟨some dst, .slice t x none (some y) none, ty, pos, after, guard⟩).run P w = .ok (.value (.slice A n.toNat c)) w := by
      have : (Instr.sliceAt t (a.eval x) none (some (a.eval y)) none).run P w = .ok (.slice A n.toNat c) w := by
        rw [hv, hy, run_slice_slice hdd, sliceBounds_run (P := P) (l := 0) (h := n) (by omega) hb1 (by omega) (.inl ⟨rfl, rfl⟩) (.inr ⟨k', rfl⟩)]
        simp only [Result.andThen_ok, run_sizeOf hte, Int.toNat_zero, Nat.zero_mul, Nat.sub_zero, add_zero_plain hpl, ite_self]
      simp [execOp, this]
    have hpre := own_take h2 (k := n.toNat) (by omega)
    rw [hcut]
    cases A with
    | none =>
      have hx0 : xs = [] := by
        rcases h2 with ⟨_, hx⟩ | ⟨b, C, e', fr, cap, hbad, _⟩
        · exact hx
        · simp at hbad
      have hc0 : c = 0 := by
        rcases h2 with ⟨hx, _⟩ | ⟨b, C, e', fr, cap, hbad, _⟩
        · simp at hx; exact hx.2
        · simp at hbad
      subst hx0
      have hn0 : n.toNat = 0 := by simp at hb2; omega
      have hμ : ∀ r' c', editMem [(r, none)] s.mem r' = some c' → s.mem r' = some c' := fun r' c' h' => (editMem_none (by simp) h').1
      rw [hn0, hc0] at hrun
      refine does_drop (gone := [(r, none)]) rfl ?_
      have := does_nil (h.drop hμ) hd' hid hlt (t := t') hrun
      simpa using this
    | some ad =>
      obtain ⟨b, rfl⟩ := hpl ad rfl
      obtain ⟨h5, h6⟩ := h.move (id := dst) (w' := w) (c' := .arr t' (xs.take n.toNat)) (i' := .arr (.slice (some ⟨b, 0, none⟩) n.toNat c)) hr h1 rfl hid hlt (fun _ _ => rfl) rfl rfl rfl rfl rfl (fun ok' m' hk' _ => hpre.mono hk' (fun _ _ => rfl))
      exact does_turn hd' hrun h5 (.inl h6)
  · simp [ev_fail] at he
theorem op_sound {tab : Tab} (hT : TabOk P tab) {Γ : Env} (hΓ : EnvOk P Γ) {k : Nat} (h : Rel P E m s a w) {o : Oper} (hd : ∀ n, o.dst = some n → E.may n) (hn : needsDst o.op = true → o.dst.isSome = true) {res : Res}
    (he : Ev (aop tab Γ k (o.dst.getD 0) (ev s) o.op) s.mem res) (hal : ∀ id ∈ res.allocs, s.used id = false ∧ id < lentBase) : Does P E o s a w res := by
  obtain ⟨dst, op, ty, pos, after, guard⟩ := o
  cases op
  case call c => exact call_op hT hΓ h hd hn he hal
  case pick c x y => exact pick_does h hd he
  case build t ps => exact build_does hT h hd he
  case nilCheck x => exact nilCheck_does h hd he
  case move x =>
    simp only [aop, ev_pure] at he; subst he
    exact does_val h hd (v := a.eval x) (by simp [execOp]) (h.eval x)
  case assign x =>
    simp only [aop, ev_pure] at he; subst he
    exact does_val h hd (v := a.eval x) (by simp [execOp]) (h.eval x)
  case alloc t =>
    obtain ⟨d, rfl⟩ := Option.isSome_iff_exists.1 (hn rfl)
    simp only [aop] at he
    obtain ⟨i, hi, he⟩ := tabRM_some he
    rw [ev_pure] at he; subst he
    obtain ⟨h1, h2⟩ := hal d (by simp)
    exact alloc_does h (hd d rfl) h1 h2 (hT _ _ hi)
  case box t x =>
    obtain ⟨d, rfl⟩ := Option.isSome_iff_exists.1 (hn rfl)
    simp only [aop] at he
    rcases ev_cond.1 he with ⟨hp, he⟩ | ⟨_, he⟩
    case inr => simp [ev_fail] at he
    rw [ev_pure] at he; subst he
    obtain ⟨h1, h2⟩ := hal d (by simp)
    exact box_does h (hd d rfl) h1 h2 (plain_cells h hp)
  case buildSlice t n ps =>
    obtain ⟨d, rfl⟩ := Option.isSome_iff_exists.1 (hn rfl)
    exact buildSl_does hT h (hd d rfl) he hal
  case makeSlice t x y =>
    obtain ⟨d, rfl⟩ := Option.isSome_iff_exists.1 (hn rfl)
    exact makeSl_does hT h (hd d rfl) he hal
  case load t x =>
    simp only [aop] at he
    obtain ⟨i, hi, he⟩ := tabRM_some he
    split at he
    · rename_i r n hx
      rcases ev_cond.1 he with ⟨_, he⟩ | ⟨hagg, he⟩
      · simp [ev_fail] at he
      rw [ev_get] at he
      split at he
      case h_2 => simp [ev_fail] at he
      rename_i l pin hr
      obtain ⟨d, rfl⟩ := Option.isSome_iff_exists.1 (hn rfl)
      exact pinLoad_does h (hd d rfl) (hT _ _ hi) hagg hx hr he hal
    · obtain ⟨l, hl, rfl⟩ := opVal_some he
      obtain ⟨v, hv, hr⟩ := load_run h.memOk (hT _ _ hi) hl (h.eval x)
      exact does_val h hd (by simp [execOp, hv]) hr
  case store t x y =>
    simp only [aop] at he
    obtain ⟨i, hi, he⟩ := tabRM_some he
    exact store_does h hd (hT _ _ hi) he
  case binOp op t x y z =>
    simp only [aop] at he
    split at he
    · rename_i hx hy
      rcases ev_cond.1 he with ⟨hk, he⟩ | ⟨_, he⟩
      case inr => simp [ev_fail] at he
      obtain ⟨l, hl, rfl⟩ := opVal_some he
      simp only [Bool.and_eq_true] at hk
      have hvx := h.eval x
      have hvy := h.eval y
      rw [hx] at hvx
      rw [hy] at hvy
      simp only [LRep] at hvx hvy
      obtain ⟨v, hv, hr⟩ := nili_run (P := P) (w := w) (m := m) (ok := okOf E m s.mem w) hT (x := x) (y := y) hk.1 hk.2 hl
      rw [← hvx] at hv
      rw [show eqGuard op t x y (a.eval x) (a.eval x) = eqGuard op t x y (a.eval x) (a.eval y) by rw [hvx, hvy], show binOp op t (a.eval x) (a.eval x) = binOp op t (a.eval x) (a.eval y) by rw [hvx, hvy]] at hv
      exact does_val h hd (by
        simp only [execOp, Sem.run_bind] at hv ⊢
        rw [hv]; rfl) hr
    · obtain ⟨l, hl, rfl⟩ := opVal_some he
      obtain ⟨v, hv, hr⟩ := binop_run h.memOk hT (x := x) (y := y) hl (h.eval x) (h.eval y)
      exact does_val h hd (by
        simp only [execOp, Sem.run_bind] at hv ⊢
        rw [hv]; rfl) hr
  case unOp op t x =>
    simp only [aop] at he
    obtain ⟨l, hl, rfl⟩ := opVal_some he
    obtain ⟨v, hv, hr⟩ := unop_run hl (h.eval x)
    exact does_val h hd (by simp [execOp, hv]) hr
  case convert src tgt x =>
    obtain ⟨d, rfl⟩ := Option.isSome_iff_exists.1 (hn rfl)
    simp only [aop] at he
    obtain ⟨i, hi, he⟩ := tabRM_some he
    obtain ⟨j, hj, he⟩ := tabRM_some he
    exact convert_does h (hd d rfl) hT (hT _ _ hi) (hT _ _ hj) he hal
  case slice t x lo hi mx =>
    simp only [aop] at he
    obtain ⟨i, hi', he⟩ := tabRM_some he
    have plain : Ev (sliceOp tab i (ev s x) (lo.map (ev s)) (hi.map (ev s)) (mx.map (ev s))) s.mem res → Does P E ⟨dst, .slice t x lo hi mx, ty, pos, after, guard⟩ s a w res := by
      intro he
      obtain ⟨h1, h2, v, hv, hr⟩ := slice_run h hT (hT _ _ hi') he (h.eval x) (h.evalOpt lo) (h.evalOpt hi) (h.evalOpt mx)
      have hμ : ∀ r c, editMem res.edits s.mem r = some c → s.mem r = some c := fun r c hc => (editMem_none h2 hc).1
      refine does_turn (m' := m) (w' := w) (v := v) hd (by simp [execOp, hv]) ?_ hr
      rw [h1]
      exact h.drop hμ
    split at he
    · rename_i e hk
      obtain ⟨ei, hei, he⟩ := tabRM_some he
      rcases ev_cond.1 he with ⟨hiv, he2⟩ | ⟨hnv, he2⟩
      · obtain ⟨l, v, hres, hv, hr⟩ := view_run h (hT _ _ hi') hk (hT _ _ hei) hiv he2 (h.eval x) (h.evalOpt lo) (h.evalOpt hi) (h.evalOpt mx)
        rw [hres]
        exact does_val h hd (v := v) (by simp [execOp, hv]) hr
      · replace he := he2
        clear he2
        have deep : ∀ {r : Nat}, ev s x = .dref r → mx = none → Ev (cond (Nat.beq ei.size 1 && ((lo.map (ev s)).isSome || (hi.map (ev s)).isSome)) (segsSlice (dst.getD 0) r (lo.map (ev s)) (hi.map (ev s))) .fail) s.mem res → Does P E ⟨dst, .slice t x lo hi mx, ty, pos, after, guard⟩ s a w res := by
          intro r hx hmx hq
          subst hmx
          rcases ev_cond.1 hq with ⟨hc, hq⟩ | ⟨_, hq⟩
          case inr => simp [ev_fail] at hq
          simp only [Bool.and_eq_true] at hc
          obtain ⟨d, rfl⟩ := Option.isSome_iff_exists.1 (hn (by cases lo <;> cases hi <;> first | rfl | (simp at hc)))
          exact segsSlice_does h (hd d rfl) hT (hT _ _ hi') hk (hT _ _ hei) (Nat.eq_of_beq_eq_true hc.1) hx hq hal
        cases lo <;> cases hi <;> cases mx <;> (split at he) <;> first | exact plain he | (rename_i r a b hx _ _ _; simp_all; done) | skip
        all_goals rename_i h1 h2 h3 h4
        all_goals first | (simp at h2; done) | (simp at h3; done) | (simp at h4; done) | skip
        simp only [Option.map_some, Option.some.injEq] at h3
        subst h3
        rw [ev_get] at he
        split at he
        · obtain ⟨d, rfl⟩ := Option.isSome_iff_exists.1 (hn rfl)
          have hal' : s.used d = false ∧ d < lentBase := by
            refine hal d ?_
            unfold cutOp at he
            rw [ev_get] at he
            split at he
            · simp only [ev_bind, ev_assume] at he
              obtain ⟨_, _, _, he⟩ := he
              rcases ev_cond.1 he with ⟨_, he⟩ | ⟨_, he⟩
              · simp [ev_fail] at he
              · rw [ev_pure] at he; subst he; simp
            · simp [ev_fail] at he
          exact cut_does (x := x) h (hd d rfl) hal'.1 hal'.2 (hT _ _ hi') hk (hT _ _ hei) h1 he
        · exact plain he
    · exact plain he
  case fieldAddr t x f =>
    simp only [aop] at he
    obtain ⟨i, hi, he⟩ := tabRM_some he
    split at he
    · rename_i fs hk
      split at he
      · rename_i ft o hf
        obtain ⟨fi, hfi, he⟩ := tabRM_some he
        rcases ev_cond.1 he with ⟨_, he⟩ | ⟨hz, he⟩
        · simp [ev_fail] at he
        obtain ⟨l, hl, rfl⟩ := opVal_some he
        obtain ⟨v, hv, hr⟩ := fieldAddr_run (hT _ _ hi) hk hf (hT _ _ hfi) (by intro e; simp [e] at hz) hl (h.eval x)
        exact does_val h hd (by simp [execOp, hv]) hr
      · simp [ev_fail] at he
    · simp [ev_fail] at he
  case field t x f =>
    simp only [aop] at he
    obtain ⟨i, hi, he⟩ := tabRM_some he
    split at he
    · rename_i fs hk
      split at he
      · rename_i ft o ls hf hx
        obtain ⟨fi, hfi, he⟩ := tabRM_some he
        obtain ⟨l, hl, rfl⟩ := opVal_some he
        have hv := h.eval x
        rw [hx] at hv
        obtain ⟨v, hv, hr⟩ := field_run (hT _ _ hi) hk hf (hT _ _ hfi) hl hv
        exact does_val h hd (by simp [execOp, hv]) hr
      · simp [ev_fail] at he
    · simp [ev_fail] at he
  case indexAddr t x y =>
    simp only [aop] at he
    obtain ⟨i, hi, he⟩ := tabRM_some he
    split at he
    · rename_i e hk
      obtain ⟨ei, hei, he⟩ := tabRM_some he
      obtain ⟨l, hl, rfl⟩ := opVal_some he
      obtain ⟨v, hv, hr⟩ := indexAddr_run h.memOk (hT _ _ hi) hk (hT _ _ hei) hl (h.eval x) (h.eval y)
      exact does_val h hd (by simp [execOp, hv]) hr
    · rename_i len e hk
      obtain ⟨ei, hei, he⟩ := tabRM_some he
      obtain ⟨l, hl, rfl⟩ := opVal_some he
      obtain ⟨v, hv, hr⟩ := indexArr_run h.fine (hT _ _ hi) hk (hT _ _ hei) hl (h.eval x) (h.eval y)
      exact does_val h hd (by simp [execOp, hv]) hr
    · simp [ev_fail] at he
  case index t x y =>
    simp only [aop] at he
    obtain ⟨i, hi, he⟩ := tabRM_some he
    have hvx := h.eval x
    split at he
    · rename_i st hk hx
      rw [hx] at hvx
      have hvx := rep_str hvx
      simp only [ev_bind, ev_opt, ev_pure] at he
      obtain ⟨n, hn, b, hb, rfl⟩ := he
      obtain ⟨k', hvy⟩ := asInt_rep hn (h.eval y)
      have := index_str_run (w := w) (k := k') (hT _ _ hi) hk hb
      exact does_val h hd (v := .int .u8 b.toNat) (by simp [execOp, hvx, hvy, this]) (mk_int _ _)
    · rename_i len e ls hk hx
      rw [hx] at hvx
      obtain ⟨vs, hvx, hls⟩ := hvx
      split at he
      · rename_i k' n hy
        obtain ⟨ei, hei, he⟩ := tabRM_some he
        rw [ev_assume] at he
        obtain ⟨hb, he⟩ := he
        obtain ⟨l, hl, rfl⟩ := opVal_some he
        have hvy := h.eval y
        rw [hy] at hvy
        have hvy := rep_int hvy
        simp only [Bool.and_eq_true, decide_eq_true_eq] at hb
        obtain ⟨v, hv, hr⟩ := index_agg_run (k := k') (hT _ _ hi) hk (hT _ _ hei) hls hb.1 hb.2 hl
        exact does_val h hd (by simp [execOp, hvx, hvy, hv]) hr
      · simp [ev_fail] at he
    · simp [ev_fail] at he
  case extract t n =>
    simp only [aop] at he
    have hv := h.eval t
    split at he
    · rename_i ls hx
      rw [hx] at hv
      obtain ⟨vs, hv, hls⟩ := hv
      split at he
      · rename_i l hl
        rw [ev_pure] at he; subst he
        obtain ⟨v, h1, h2⟩ := hls.get hl
        exact does_val h hd (v := v) (by simp [execOp, hv, Instr.extract, h1]) h2
      · simp [ev_fail] at he
    · simp [ev_fail] at he
  case makeFunc fn first caps =>
    simp only [aop] at he
    split at he
    · rename_i f hfirst
      split at he
      · rename_i cs hcs
        rw [ev_pure] at he; subst he
        have hf : first = #[] := by apply Array.ext'; simpa using hfirst
        have hc := okCaps_caps hcs (h.evals caps.toList)
        refine does_val h hd (v := .func (.func f) #[] (caps.map a.eval)) (by simp [execOp, Instr.makeFunc, hf]) ⟨_, ?_, hc⟩
        congr 1
        apply Array.ext'; simp
      · simp [ev_fail] at he
    · simp [ev_fail] at he
  case makeMap t r =>
    obtain ⟨d, rfl⟩ := Option.isSome_iff_exists.1 (hn rfl)
    cases r with
    | none =>
      simp only [aop] at he
      exact makeMap_does h (hd d rfl) he hal
    | some x => simp only [aop] at he; simp [ev_fail] at he
  case lookup t x y c =>
    obtain ⟨d, rfl⟩ := Option.isSome_iff_exists.1 (hn rfl)
    simp only [aop] at he
    rcases ev_cond.1 he with ⟨hp, he⟩ | ⟨_, he⟩
    · exact pmLookup_does h (hd d rfl) hT hp he hal
    cases c with
    | true => simp only [cond_true] at he; simp [ev_fail] at he
    | false =>
      simp only [cond_false] at he
      obtain ⟨l, hl, rfl⟩ := opVal_some he
      obtain ⟨v, hv, hr⟩ := lookup_run h hT hl (h.eval x) (h.eval y)
      exact does_val h hd (by simp [execOp, hv]) hr
  case mapUpdate t x y z =>
    simp only [aop] at he
    rcases ev_cond.1 he with ⟨hp, he⟩ | ⟨_, he⟩
    · exact pmUpdate_does h hd hT hp he
    exact mapUpdate_does h hd hT he
  all_goals (simp only [aop] at he; simp [ev_fail] at he)
end
end Go.GG

/- Regions: one step, and two steps that have nothing in common. -/
namespace Go.GG
open Go.RowKit
section
variable {τ : Tabs} {tab : Tab} {Γ : Env} {k : Nat}

theorem map_congr {α β : Type} {x : Array α} {f g : α → β} (h : ∀ a ∈ x, f a = g a) : x.toList.map f = x.toList.map g := List.map_congr_left fun a ha => h a (by simpa using ha)
theorem aop_congr {d : Nat} {ρ ρ' : Operand → L} {op : Op} (h : ∀ x ∈ op.operands, ρ x = ρ' x) : aop tab Γ k d ρ op = aop tab Γ k d ρ' op := by
  have parts : ∀ ps : Array (Nat × Operand), (∀ x ∈ ps.map (·.2), ρ x = ρ' x) → (ps.toList.map fun p => (p.1, ρ p.2)) = (ps.toList.map fun p => (p.1, ρ' p.2)) := fun ps hp =>
    List.map_congr_left fun p hm => by rw [hp p.2 (Array.mem_map.2 ⟨p, by simpa using hm, rfl⟩)]
  have plain : ∀ ps : Array (Nat × Operand), (∀ x ∈ ps.map (·.2), ρ x = ρ' x) → (ps.toList.all fun p => (ρ p.2).plain) = (ps.toList.all fun p => (ρ' p.2).plain) := fun ps hp => by
    rw [Bool.eq_iff_iff, List.all_eq_true, List.all_eq_true]
    exact ⟨fun hh p hm => by rw [← hp p.2 (Array.mem_map.2 ⟨p, by simpa using hm, rfl⟩)]; exact hh p hm, fun hh p hm => by rw [hp p.2 (Array.mem_map.2 ⟨p, by simpa using hm, rfl⟩)]; exact hh p hm⟩
  cases op <;> simp only [Op.operands] at h <;> simp only [aop]
  case build t ps => rw [parts ps fun x hx => h x (by simpa using hx), plain ps fun x hx => h x (by simpa using hx)]
  case buildSlice t n ps => rw [parts ps fun x hx => h x (by simpa using hx), plain ps fun x hx => h x (by simpa using hx)]
  case makeFunc fn first captured => rw [map_congr (x := captured) fun x hx => h x (by simp [hx])]
  case call c =>
    have ha : c.args.toList.map ρ = c.args.toList.map ρ' := map_congr fun x hx => h x (by simp [Call.operands, hx])
    rw [ha]
    cases hc : c.callee with
    | builtin b => rfl
    | invoke r n => rfl
    | value x =>
      have hx : ρ x = ρ' x := h x (by simp [Call.operands, hc])
      cases x <;> simp only [hx]
  case makeMap t r => cases r <;> rfl
  case lookup t x y c =>
    have hx := h x (by simp)
    have hy := h y (by simp)
    cases c <;> simp only [aop, hx, hy]
  case slice t x lo hi mx => cases lo <;> cases hi <;> cases mx <;> simp_all
  all_goals (first | rfl | (simp_all; done))

/-! ### One step -/
def Wants (ops : Array Oper) (s : St) (o : Oper) : Prop := ∀ j want, o.guard = some (j, want) → ∃ d, dstOf ops.toList j = some d ∧ s.env d = .val .bool want
def Skips (ops : Array Oper) (s : St) (o : Oper) : Prop := ∃ j want d, o.guard = some (j, want) ∧ dstOf ops.toList j = some d ∧ (s.env d = .val .bool (!want) ∨ s.env d = .skipped)
def Acts [Tabs] (tab : Tab) (Γ : Env) (k : Nat) (o : Oper) (s : St) (f : Foot) (s' : St) : Prop := ∃ res rs, (aop tab Γ k (o.dst.getD 0) (ev s) o.op).ev s.mem = some (res, rs) ∧ (∀ r ∈ rs, r ∈ f.reads) ∧ f.writes = res.edits.map (·.1) ++ res.allocs ∧
  (∀ id ∈ res.allocs, s.used id = false ∧ id < lentBase) ∧ (needsDst o.op = true → o.dst.isSome = true) ∧ s' = apply s o.dst res
def Step [Tabs] (tab : Tab) (Γ : Env) (k : Nat) (ops : Array Oper) (i : Nat) (s : St) (fs : List Foot) (s' : St) : Prop := ∃ o, ops[i]? = some o ∧
  ((Wants ops s o ∧ ∃ f, f.i = i ∧ fs = [f] ∧ Acts tab Γ k o s f s') ∨ (Skips ops s o ∧ fs = [] ∧ s' = put s o.dst .skipped))
inductive RunF [Tabs] (tab : Tab) (Γ : Env) (k : Nat) (ops : Array Oper) : List Nat → St → List Foot → St → Prop
  | nil (s : St) : RunF tab Γ k ops [] s [] s
  | cons {i : Nat} {l : List Nat} {s s' s'' : St} {fs gs : List Foot} : Step tab Γ k ops i s fs s' → RunF tab Γ k ops l s' gs s'' → RunF tab Γ k ops (i :: l) s (fs ++ gs) s''

theorem put_same {s : St} {d : Nat} {l : L} (h : s.env d = l) : put s (some d) l = s := by
  subst h
  have : (fun t => cond (Nat.beq t d) (s.env d) (s.env t)) = s.env := by
    funext t
    cases hb : Nat.beq t d with
    | true => rw [Nat.eq_of_beq_eq_true hb]; rfl
    | false => rfl
  show ({ s with env := fun t => cond (Nat.beq t d) (s.env d) (s.env t) } : St) = s
  rw [this]
theorem execOpA_acts {R : Type} {i : Nat} {o : Oper} {s : St} {K : St → Foot → Option R} {r : R} (h : execOpA tab Γ k i o s K = some r) : ∃ f s', f.i = i ∧ Acts tab Γ k o s f s' ∧ K s' f = some r := by
  unfold execOpA at h
  obtain ⟨res, r1, r2, h1, h2, h3, _⟩ := RM.run_ev h
  cases hc : ((res.allocs.all fun a => !s.used a && Nat.blt a lentBase) && (!needsDst o.op || o.dst.isSome)) with
  | false => rw [hc] at h2; simp at h2
  | true =>
    rw [hc] at h2
    simp only [Bool.and_eq_true, List.all_eq_true, Bool.not_eq_true', Bool.or_eq_true] at hc
    refine ⟨_, _, rfl, ⟨res, r1, h1, h3, rfl, fun id hid => ⟨(hc.1 id hid).1, Nat.le_of_ble_eq_true (hc.1 id hid).2⟩, fun hn => ?_, rfl⟩, h2⟩
    rcases hc.2 with h4 | h4
    · rw [hn] at h4; simp at h4
    · exact h4
theorem stepA_step {R : Type} {ops : Array Oper} {i : Nat} {o : Oper} (ho : ops[i]? = some o) {s : St} {K : St → List Foot → Option R} {r : R} (h : stepA tab Γ k ops.toList i o s K = some r) :
    ∃ fs s', Step tab Γ k ops i s fs s' ∧ K s' fs = some r := by
  unfold stepA at h
  split at h
  · rename_i hg
    obtain ⟨f, s', h1, h2, h3⟩ := execOpA_acts h
    exact ⟨[f], s', ⟨o, ho, .inl ⟨fun j want hh => by rw [hg] at hh; simp at hh, f, h1, rfl, h2⟩⟩, h3⟩
  · rename_i j want hg
    split at h
    · simp at h
    · rename_i d hd
      have skip : s.env d = .val .bool (!want) ∨ s.env d = .skipped → K (put s o.dst .skipped) [] = some r → ∃ fs s', Step tab Γ k ops i s fs s' ∧ K s' fs = some r :=
        fun he hk => ⟨[], _, ⟨o, ho, .inr ⟨⟨j, want, d, hg, hd, he⟩, rfl, rfl⟩⟩, hk⟩
      have run : s.env d = .val .bool want → execOpA tab Γ k i o s (fun s f => K s [f]) = some r → ∃ fs s', Step tab Γ k ops i s fs s' ∧ K s' fs = some r := by
        intro he hk
        obtain ⟨f, s', h1, h2, h3⟩ := execOpA_acts hk
        refine ⟨[f], s', ⟨o, ho, .inl ⟨fun j' want' hh => ?_, f, h1, rfl, h2⟩⟩, h3⟩
        rw [hg] at hh
        simp at hh
        obtain ⟨rfl, rfl⟩ := hh
        exact ⟨d, hd, he⟩
      split at h
      · rename_i b hb
        cases b with
        | true =>
          rw [put_same hb] at h
          cases want with
          | true => exact run hb h
          | false => exact skip (.inl hb) h
        | false =>
          rw [put_same hb] at h
          cases want with
          | true => exact skip (.inl hb) h
          | false => exact run hb h
      · rename_i hb
        exact skip (.inr hb) h
      · simp at h
theorem opsA_run {R : Type} {ops : Array Oper} : ∀ {rest : List Oper} {i : Nat} {s : St} {fs : List Foot} {K : St → List Foot → Option R} {r : R}, (∀ j, rest[j]? = ops[i + j]?) → opsA tab Γ k ops.toList i rest s fs K = some r →
    ∃ gs s', RunF tab Γ k ops (List.range' i rest.length) s gs s' ∧ K s' (gs.reverse ++ fs) = some r
  | [], i, s, fs, K, r, _, h => ⟨[], s, .nil s, by simpa [opsA] using h⟩
  | o :: rest, i, s, fs, K, r, hr, h => by
    simp only [opsA] at h
    have ho : ops[i]? = some o := by have := hr 0; simpa using this.symm
    obtain ⟨f, s1, h1, h2⟩ := stepA_step ho h
    obtain ⟨gs, s2, h3, h4⟩ := opsA_run (ops := ops) (rest := rest) (fun j => by have := hr (j + 1); simpa [Nat.add_assoc, Nat.add_comm 1 j] using this) h2
    have hf : f.reverse = f := by
      obtain ⟨_, _, ⟨_, _, _, rfl, _⟩ | ⟨_, rfl, _⟩⟩ := h1 <;> rfl
    refine ⟨f ++ gs, s2, .cons h1 h3, ?_⟩
    rw [List.reverse_append, hf, List.append_assoc]
    exact h4
end
end Go.GG

/- Regions: steps that have nothing in common change places. -/
namespace Go.GG
open Go.RowKit
section
variable {τ : Tabs} {tab : Tab} {Γ : Env} {k : Nat} {ops : Array Oper}

theorem editMem_at : ∀ {es : List (Nat × Option C)} {μ μ' : Nat → Option C} {r : Nat}, (r ∈ es.map (·.1) ∨ μ r = μ' r) → editMem es μ r = editMem es μ' r
  | [], _, _, _, h => by simpa [editMem] using h
  | (a, c) :: es, μ, μ', r, h => by
    simp only [editMem]
    apply editMem_at
    by_cases e : r = a
    · subst e; right; simp
    · simp only [List.map_cons, List.mem_cons, e, false_or] at h
      rcases h with h | h
      · exact .inl h
      · right; rw [h]
theorem editMem_comm {es fs : List (Nat × Option C)} {μ : Nat → Option C} (h : ∀ r, r ∈ es.map (·.1) → r ∉ fs.map (·.1)) : editMem es (editMem fs μ) = editMem fs (editMem es μ) := by
  funext r
  by_cases he : r ∈ es.map (·.1)
  · rw [editMem_keep (es := fs) (h r he)]
    exact editMem_at (.inl he)
  · rw [editMem_keep (es := es) he]
    exact editMem_at (.inr (editMem_keep he).symm)
theorem addUsed_or : ∀ {ids : List Nat} {u : Nat → Bool} {r : Nat}, addUsed ids u r = (decide (r ∈ ids) || u r)
  | [], _, _ => by simp [addUsed]
  | i :: ids, u, r => by
    simp only [addUsed, addUsed_or (ids := ids)]
    by_cases e : r = i
    · subst e; simp
    · have : Nat.beq r i = false := by
        cases hb : Nat.beq r i with
        | false => rfl
        | true => exact absurd (Nat.eq_of_beq_eq_true hb) e
      simp [this, e]
theorem addUsed_comm {is js : List Nat} {u : Nat → Bool} : addUsed is (addUsed js u) = addUsed js (addUsed is u) := by
  funext r
  simp only [addUsed_or]
  cases decide (r ∈ is) <;> cases decide (r ∈ js) <;> simp
theorem put_env_other {s : St} {d : Option Nat} {l : L} {t : Nat} (h : d ≠ some t) : (put s d l).env t = s.env t := by
  cases d with
  | none => rfl
  | some d =>
    have : Nat.beq t d = false := by
      cases hb : Nat.beq t d with
      | false => rfl
      | true => exact absurd (by rw [Nat.eq_of_beq_eq_true hb]) h
    simp [put, this]
theorem put_mem {s : St} {d : Option Nat} {l : L} : (put s d l).mem = s.mem := by cases d <;> rfl
theorem put_used {s : St} {d : Option Nat} {l : L} : (put s d l).used = s.used := by cases d <;> rfl
theorem st_ext {s s' : St} (h1 : s.env = s'.env) (h2 : s.mem = s'.mem) (h3 : s.used = s'.used) : s = s' := by
  cases s; cases s'; simp only at h1 h2 h3; subst h1; subst h2; subst h3; rfl
theorem put_comm {s : St} {d e : Option Nat} {l l' : L} (h : ∀ t, d = some t → e ≠ some t) : put (put s d l) e l' = put (put s e l') d l := by
  cases d with
  | none => rfl
  | some d =>
    cases e with
    | none => rfl
    | some e =>
      have hne : d ≠ e := fun x => h d rfl (by rw [x])
      refine st_ext ?_ rfl rfl
      funext t
      simp only [put]
      cases h1 : Nat.beq t e with
      | false => rfl
      | true =>
        cases h2 : Nat.beq t d with
        | false => rfl
        | true => exact absurd ((Nat.eq_of_beq_eq_true h2).symm.trans (Nat.eq_of_beq_eq_true h1)) hne
theorem put_env_congr {s s' : St} {d : Option Nat} {l : L} (h : s.env = s'.env) : (put s d l).env = (put s' d l).env := by
  cases d with
  | none => exact h
  | some d => funext t; simp only [put, h]
theorem apply_env {s : St} {d : Option Nat} {r : Res} : (apply s d r).env = (put s d r.val).env := by cases d <;> rfl
theorem apply_mem {s : St} {d : Option Nat} {r : Res} : (apply s d r).mem = editMem r.edits s.mem := by cases d <;> rfl
theorem apply_used {s : St} {d : Option Nat} {r : Res} : (apply s d r).used = addUsed r.allocs s.used := by cases d <;> rfl

/-! ### What a step looks at -/
theorem operand_looks {o : Oper} {t : Nat} (h : (Operand.tmp t) ∈ o.op.operands) : t ∈ o.looksAt ops :=
  List.mem_append_left _ (List.mem_filterMap.2 ⟨.tmp t, by simpa using h, rfl⟩)
theorem guard_looks {o : Oper} {j d : Nat} {want : Bool} (h : o.guard = some (j, want)) (hd : dstOf ops.toList j = some d) : d ∈ o.looksAt ops := by
  refine List.mem_append_right _ ?_
  rw [h]
  unfold dstOf at hd
  simp only
  have e : ops.toList[j]? = ops[j]? := by simp
  rw [e] at hd
  split at hd
  · rename_i o' ho'
    rw [ho']
    simpa using hd
  · simp at hd
/-- Two states that agree on what a step looks at. -/
structure Same (ops : Array Oper) (o : Oper) (s s' : St) : Prop where
  env : ∀ t ∈ o.looksAt ops, s'.env t = s.env t
theorem Same.evs {o : Oper} {s s' : St} (h : Same ops o s s') : ∀ x ∈ o.op.operands, ev s' x = ev s x := by
  intro x hx
  cases x with
  | tmp t => exact h.env t (operand_looks hx)
  | _ => rfl
theorem Same.wants {o : Oper} {s s' : St} (h : Same ops o s s') (hw : Wants ops s o) : Wants ops s' o := fun j want hg => by
  obtain ⟨d, hd, he⟩ := hw j want hg
  exact ⟨d, hd, (h.env d (guard_looks hg hd)).trans he⟩
theorem Same.skips {o : Oper} {s s' : St} (h : Same ops o s s') (hw : Skips ops s o) : Skips ops s' o := by
  obtain ⟨j, want, d, hg, hd, he⟩ := hw
  exact ⟨j, want, d, hg, hd, by rw [h.env d (guard_looks hg hd)]; exact he⟩
theorem Same.acts {o : Oper} {s s' : St} {f : Foot} {s1 : St} (h : Same ops o s s') (hm : ∀ r ∈ f.reads, s'.mem r = s.mem r) (hu : ∀ id ∈ f.writes, s.used id = false → s'.used id = false) (ha : Acts tab Γ k o s f s1) :
    ∃ res, Acts tab Γ k o s' f (apply s' o.dst res) ∧ s1 = apply s o.dst res ∧ f.writes = res.edits.map (·.1) ++ res.allocs := by
  obtain ⟨res, rs, h1, h2, h3, h4, h5, rfl⟩ := ha
  refine ⟨res, ⟨res, rs, ?_, h2, h3, fun id hid => ⟨hu id (by rw [h3]; simp [hid]) (h4 id hid).1, (h4 id hid).2⟩, h5, rfl⟩, rfl, h3⟩
  rw [aop_congr h.evs]
  exact RM.ev_local h1 fun r hr => hm r (h2 r hr)
theorem disjoint_spec {a b : List Nat} (h : disjoint a b = true) : ∀ r ∈ a, r ∉ b := by
  intro r hr
  have := List.all_eq_true.1 h r hr
  simpa using this
theorem apart_foot {f g : Foot} (h : f.apart g = true) : (∀ r ∈ f.writes, r ∉ g.reads) ∧ (∀ r ∈ f.writes, r ∉ g.writes) ∧ (∀ r ∈ g.writes, r ∉ f.reads) := by
  simp only [Foot.apart, Bool.and_eq_true] at h
  exact ⟨disjoint_spec h.1.1, disjoint_spec h.1.2, disjoint_spec h.2⟩
/-- Two steps in turn that have nothing in common may come in the other order. -/
theorem step_swap {i j : Nat} {oi oj : Oper} {s s1 s2 : St} {fi fj : List Foot} (hoi : ops[i]? = some oi) (hoj : ops[j]? = some oj) (hap : oj.apart ops oi = true) (hfa : ∀ f ∈ fj, ∀ g ∈ fi, g.apart f = true)
    (hj : Step tab Γ k ops j s fj s1) (hi : Step tab Γ k ops i s1 fi s2) : ∃ s1', Step tab Γ k ops i s fi s1' ∧ Step tab Γ k ops j s1' fj s2 := by
  obtain ⟨h1, h2, h3⟩ := Oper.apart_spec hap
  obtain ⟨o, ho, hj⟩ := hj
  rw [hoj] at ho; simp at ho; subst ho
  obtain ⟨o, ho, hi⟩ := hi
  rw [hoi] at ho; simp at ho; subst ho
  have hne : ∀ t, oj.dst = some t → oi.dst ≠ some t := h2
  -- what i sees is not changed by j, and the other way round
  have env1 : ∀ {l : L} {s' : St}, s'.env = (put s oj.dst l).env → Same ops oi s' s := fun {l s'} he => ⟨fun t ht => by
    rw [he]; exact (put_env_other (fun hh => h1 t hh ht)).symm⟩
  have env2 : ∀ {l : L} {s' : St}, s'.env = (put s oi.dst l).env → Same ops oj s s' := fun {l s'} he => ⟨fun t ht => by
    rw [he]; exact put_env_other (fun hh => h3 t hh ht)⟩
  rcases hj with ⟨hwj, fj, hfj, rfl, haj⟩ | ⟨hsj, rfl, rfl⟩ <;> rcases hi with ⟨hwi, fi, hfi, rfl, hai⟩ | ⟨hsi, rfl, rfl⟩
  · obtain ⟨hf1, hf2, hf3⟩ := apart_foot (hfa fj (by simp) fi (by simp))
    have haj' := haj
    obtain ⟨rj, _, _, _, hwrj, _, _, rfl⟩ := haj'
    have S1 : Same ops oi (apply s oj.dst rj) s := env1 apply_env
    have notj : ∀ r, r ∉ fj.writes → r ∉ rj.edits.map (·.1) ∧ r ∉ rj.allocs := fun r hr => by rw [hwrj] at hr; simpa using hr
    obtain ⟨ri, hai', e, hwri⟩ := S1.acts (fun r hr => by rw [apply_mem, editMem_keep (notj r fun hh => hf3 r hh hr).1]) (fun id hid hu => by
      rw [apply_used, addUsed_or] at hu; simp only [Bool.or_eq_false_iff] at hu; exact hu.2) hai
    have noti : ∀ r, r ∉ fi.writes → r ∉ ri.edits.map (·.1) ∧ r ∉ ri.allocs := fun r hr => by rw [hwri] at hr; simpa using hr
    have S2 : Same ops oj s (apply s oi.dst ri) := env2 apply_env
    obtain ⟨rj', haj', e', hwrj'⟩ := S2.acts (fun r hr => by rw [apply_mem, editMem_keep (noti r fun hh => hf1 r hh hr).1]) (fun id hid hu => by
      rw [apply_used, addUsed_or, hu, Bool.or_false, decide_eq_false_iff_not]; exact (noti id fun hh => hf2 id hh hid).2) haj
    refine ⟨_, ⟨oi, hoi, .inl ⟨S1.wants hwi, fi, hfi, rfl, hai'⟩⟩, oj, hoj, .inl ⟨S2.wants hwj, fj, hfj, rfl, ?_⟩⟩
    have : apply (apply s oi.dst ri) oj.dst rj' = s2 := by
      rw [e, e']
      have dis : ∀ r, r ∈ rj'.edits.map (·.1) → r ∉ ri.edits.map (·.1) := fun r hr => (noti r fun hh => hf2 r hh (by rw [hwrj']; simp at hr ⊢; exact .inl hr)).1
      refine st_ext ?_ ?_ ?_
      · rw [apply_env, apply_env]
        rw [put_env_congr (apply_env (s := s) (d := oi.dst) (r := ri)), put_env_congr (apply_env (s := s) (d := oj.dst) (r := rj')), put_comm hne]
      · simp only [apply_mem]; exact editMem_comm dis
      · simp only [apply_used]; exact addUsed_comm
    rw [← this]
    exact haj'
  · have haj' := haj
    obtain ⟨rj, _, _, _, hwrj, _, _, rfl⟩ := haj'
    have S1 : Same ops oi (apply s oj.dst rj) s := env1 apply_env
    have S2 : Same ops oj s (put s oi.dst .skipped) := env2 rfl
    obtain ⟨rj', haj', e', _⟩ := S2.acts (fun r _ => by rw [put_mem]) (fun id _ hu => by rw [put_used]; exact hu) haj
    refine ⟨_, ⟨oi, hoi, .inr ⟨S1.skips hsi, rfl, rfl⟩⟩, oj, hoj, .inl ⟨S2.wants hwj, fj, hfj, rfl, ?_⟩⟩
    have : apply (put s oi.dst .skipped) oj.dst rj' = put (apply s oj.dst rj) oi.dst .skipped := by
      rw [e']
      refine st_ext ?_ (by simp [apply_mem, put_mem]) (by simp [apply_used, put_used])
      rw [apply_env, put_comm (fun t ht hh => hne t hh ht)]
      exact (put_env_congr apply_env).symm
    rw [← this]
    exact haj'
  · have S1 : Same ops oi (put s oj.dst .skipped) s := env1 rfl
    obtain ⟨ri, hai', e, hwri⟩ := S1.acts (fun r _ => by rw [put_mem]) (fun id _ hu => by rw [put_used] at hu; exact hu) hai
    have S2 : Same ops oj s (apply s oi.dst ri) := env2 apply_env
    refine ⟨_, ⟨oi, hoi, .inl ⟨S1.wants hwi, fi, hfi, rfl, hai'⟩⟩, oj, hoj, .inr ⟨S2.skips hsj, rfl, ?_⟩⟩
    rw [e]
    refine st_ext ?_ (by simp [apply_mem, put_mem]) (by simp [apply_used, put_used])
    rw [apply_env, put_comm hne]
    exact put_env_congr apply_env.symm
  · have S1 : Same ops oi (put s oj.dst .skipped) s := env1 rfl
    have S2 : Same ops oj s (put s oi.dst .skipped) := env2 rfl
    exact ⟨_, ⟨oi, hoi, .inr ⟨S1.skips hsi, rfl, rfl⟩⟩, oj, hoj, .inr ⟨S2.skips hsj, rfl, put_comm hne⟩⟩
end
end Go.GG

/- Regions: whatever the order, it comes to the same. -/
namespace Go.GG
open Go.RowKit
section
variable {τ : Tabs} {tab : Tab} {Γ : Env} {k : Nat} {ops : Array Oper}

/-! ### What stands before what -/
theorem mask_spec {acc : Array Nat} {j : Nat} : ∀ {l : List Edge} {s : Nat}, (l.foldl (fun s e => if Region.binds .any e then s ||| 2 ^ e.on ||| acc.getD e.on 0 else s) s).testBit j = true →
    s.testBit j = true ∨ ∃ e ∈ l, Region.binds .any e = true ∧ (j = e.on ∨ (acc.getD e.on 0).testBit j = true)
  | [], s, h => .inl h
  | e :: l, s, h => by
    simp only [List.foldl_cons] at h
    rcases mask_spec h with h1 | ⟨e', he', h1⟩
    · split at h1
      · rename_i hb
        simp only [Nat.testBit_or, Nat.testBit_two_pow, Bool.or_eq_true, decide_eq_true_eq] at h1
        rcases h1 with (h1 | h1) | h1
        · exact .inl h1
        · exact .inr ⟨e, by simp, hb, .inl h1.symm⟩
        · exact .inr ⟨e, by simp, hb, .inr h1⟩
      · exact .inl h1
    · exact .inr ⟨e', by simp [he'], h1⟩
def Closed (ops : Array Oper) (L : Nat → Prop) : Prop := ∀ i o e, ops[i]? = some o → L i → e ∈ o.after.toList → Region.binds .any e = true → L e.on
theorem before_go : ∀ {l : List Oper} {acc : Array Nat}, (∀ j, l[j]? = ops[acc.size + j]?) → (∀ i j, (acc.getD i 0).testBit j = true → ∀ L, Closed ops L → L i → L j) →
    ∀ i j, ((l.foldl (fun acc o => acc.push (o.after.foldl (fun s e => if Region.binds .any e then s ||| 2 ^ e.on ||| acc.getD e.on 0 else s) 0)) acc).getD i 0).testBit j = true → ∀ L, Closed ops L → L i → L j
  | [], acc, _, h => h
  | o :: l, acc, hl, h => by
    simp only [List.foldl_cons]
    apply before_go
    · intro j
      have := hl (j + 1)
      simp only [List.getElem?_cons_succ, Array.size_push] at this ⊢
      rw [this]; congr 1; omega
    · intro i j hb L hL hi
      have ho : ops[acc.size]? = some o := by have := hl 0; simpa using this.symm
      rw [Array.getD_eq_getD_getElem?, Array.getElem?_push] at hb
      split at hb
      · rename_i hs
        subst hs
        rw [Option.getD_some, ← Array.foldl_toList] at hb
        rcases mask_spec hb with h1 | ⟨e, he, hbd, h1⟩
        · simp at h1
        · have hLe := hL _ o e ho hi he hbd
          rcases h1 with rfl | h1
          · exact hLe
          · exact h e.on j h1 L hL hLe
      · rw [← Array.getD_eq_getD_getElem?] at hb
        exact h i j hb L hL hi
theorem before_closed {i j : Nat} (h : ((Region.before ops).getD i 0).testBit j = true) {L : Nat → Prop} (hL : Closed ops L) (hi : L i) : L j := by
  unfold Region.before at h
  rw [← Array.foldl_toList] at h
  exact before_go (ops := ops) (l := ops.toList) (acc := #[]) (by intro j; simp) (by intro i j hh; simp at hh) i j h L hL hi

/-! ### One step to the front -/
def Free (before : Array Nat) (gs : List Foot) : Prop := gs.Pairwise fun f g => g.apart f = true ∨ (before.getD g.i 0).testBit f.i = true
theorem footsOk_free {before : Array Nat} : ∀ {fs : List Foot}, footsOk before fs = true → Free before fs.reverse
  | [], _ => List.Pairwise.nil
  | f :: fs, h => by
    simp only [footsOk, Bool.and_eq_true, List.all_eq_true, Bool.or_eq_true] at h
    rw [List.reverse_cons]
    refine List.pairwise_append.2 ⟨footsOk_free h.2, List.pairwise_singleton _ _, fun g hg f' hf' => ?_⟩
    simp at hf'; subst hf'
    exact h.1 g (by simpa using hg)
theorem Step.feet {i : Nat} {s s' : St} {fs : List Foot} (h : Step tab Γ k ops i s fs s') : ∀ f ∈ fs, f.i = i := by
  obtain ⟨_, _, ⟨_, f, hf, rfl, _⟩ | ⟨_, rfl, _⟩⟩ := h
  · intro g hg; simp at hg; subst hg; exact hf
  · simp
theorem bubble {before : Array Nat} {i : Nat} {b : List Nat} : ∀ {a : List Nat} {s sf : St} {gs : List Foot}, RunF tab Γ k ops (a ++ i :: b) s gs sf → Free before gs → (∀ j ∈ a, (before.getD i 0).testBit j = false) →
    (∀ j ∈ a, ∀ oj oi, ops[j]? = some oj → ops[i]? = some oi → oj.apart ops oi = true) →
    ∃ fi s1 hs, Step tab Γ k ops i s fi s1 ∧ RunF tab Γ k ops (a ++ b) s1 hs sf ∧ hs.Sublist gs ∧ ∀ g ∈ fi, g ∈ gs
  | [], s, sf, _, h, _, _, _ => by
    cases h with
    | cons h1 h2 => exact ⟨_, _, _, h1, h2, List.sublist_append_right _ _, fun g hg => by simp [hg]⟩
  | j :: a, s, sf, _, h, hf, hb, ht => by
    cases h with
    | @cons _ _ _ s1 _ fj gs' h1 h2 =>
      have hf' := (List.pairwise_append.1 hf)
      obtain ⟨fi, s2, hs, h3, h4, h5, h6⟩ := bubble h2 hf'.2.1 (fun j' hj' => hb j' (by simp [hj'])) (fun j' hj' => ht j' (by simp [hj']))
      have ⟨oj, hoj, _⟩ := id h1
      have ⟨oi, hoi, _⟩ := id h3
      obtain ⟨s1', h7, h8⟩ := step_swap hoi hoj (ht j (by simp) oj oi hoj hoi) (fun f hff g hg => by
        rcases hf'.2.2 f hff g (h6 g hg) with h9 | h9
        · exact h9
        · rw [h3.feet g hg, h1.feet f hff, hb j (by simp)] at h9
          simp at h9) h1 h3
      exact ⟨fi, s1', fj ++ hs, h7, .cons h8 h4, List.Sublist.append (List.Sublist.refl _) h5, fun g hg => by simp [h6 g hg]⟩
end

/-! ### The machine's steps -/
section
variable {τ : Tabs} {P : Program} {E : Entry} {tab : Tab} {Γ : Env} {k : Nat} {ops : Array Oper} {Q : Exit → Act → World → Prop}

theorem dstOf_eq {j : Nat} : dstOf ops.toList j = (ops[j]?).bind (·.dst) := by
  have e : ops.toList[j]? = ops[j]? := by simp
  unfold dstOf
  rw [e]
  cases ops[j]? <;> rfl
theorem getD_of {a : Act} {d : Nat} {v : Value} (hv : v ≠ undef) (h : a.tmps.getD d undef = v) : a.tmps[d]? = some v := by
  rw [Array.getD_eq_getD_getElem?] at h
  cases hx : a.tmps[d]? with
  | none => rw [hx] at h; exact absurd h.symm hv
  | some u => rw [hx] at h; simp at h; rw [h]
theorem wants_true {m : IMap} {s : St} {a : Act} {w : World} (h : Rel P E m s a w) {o : Oper} (hw : Wants ops s o) : Region.wanted o (yielded ops a.tmps) = true := by
  unfold Region.wanted
  cases hg : o.guard with
  | none => rfl
  | some gw =>
    obtain ⟨j, want⟩ := gw
    obtain ⟨d, hd, he⟩ := hw j want hg
    have hv := h.env d
    rw [he] at hv
    have hv := getD_of (by simp [undef]) (rep_bool hv)
    rw [dstOf_eq] at hd
    simp [yielded, hd, hv]
theorem skips_false {m : IMap} {s : St} {a : Act} {w : World} (h : Rel P E m s a w) {o : Oper} (hw : Skips ops s o) : Region.wanted o (yielded ops a.tmps) = false := by
  obtain ⟨j, want, d, hg, hd, he⟩ := hw
  rw [dstOf_eq] at hd
  have hv := h.env d
  unfold Region.wanted
  rw [hg]
  simp only [yielded, hd, Option.bind_some]
  rcases he with he | he
  · rw [he] at hv
    have hv := getD_of (by simp [undef]) (rep_bool hv)
    rw [hv]
    cases want <;> simp
  · rw [he] at hv
    simp only [LRep] at hv
    rw [Array.getD_eq_getD_getElem?] at hv
    cases hx : a.tmps[d]? with
    | none => simp
    | some u => rw [hx] at hv; simp at hv; subst hv; simp [undef]
theorem step_wpOp (hT : TabOk P tab) (hΓ : EnvOk P Γ) (hd : ∀ (i : Nat) (o : Oper), ops[i]? = some o → ∀ n, o.dst = some n → E.may n) {i : Nat} {s s1 : St} {fs : List Foot} {a : Act} {w : World} (h : Rel' P E s a w) (hs : Step tab Γ k ops i s fs s1)
    {K : Act → World → Prop} (hK : ∀ a' w', Rel' P E s1 a' w' → K a' w') : wpOp P ops Q i K a w := by
  obtain ⟨m, h⟩ := h
  obtain ⟨o, ho, ⟨hw, f, _, _, res, rs, h1, _, _, h2, h3, rfl⟩ | ⟨hw, _, rfl⟩⟩ := hs
  · unfold wpOp
    rw [ho]
    simp only [wants_true h hw, if_true]
    exact .inl (op_sound hT hΓ h (hd i o ho) h3 ⟨rs, h1⟩ h2 K Q hK)
  · unfold wpOp
    rw [ho]
    simp only [skips_false h hw, Bool.false_eq_true, if_false]
    exact hK _ _ ⟨m, h.put rfl (hd i o ho)⟩
theorem run_wpOps (hT : TabOk P tab) (hΓ : EnvOk P Γ) (hd : ∀ (i : Nat) (o : Oper), ops[i]? = some o → ∀ n, o.dst = some n → E.may n) : ∀ {l : List Nat} {s sf : St} {gs : List Foot} {a : Act} {w : World}, RunF tab Γ k ops l s gs sf → Rel' P E s a w →
    (∀ a' w', Rel' P E sf a' w' → Q .normal a' w') → wpOps P ops Q l a w
  | [], _, _, _, a, w, hr, h, hQ => by cases hr; exact hQ a w h
  | i :: l, _, _, _, a, w, hr, h, hQ => by
    cases hr with
    | cons h1 h2 =>
      rw [wpOps_cons]
      exact step_wpOp hT hΓ hd h h1 fun a' w' h' => run_wpOps hT hΓ hd h2 h' hQ

/-! ### Any order -/
def left (ops : Array Oper) (listed : Array Bool) : List Nat := (List.range ops.size).filter fun i => !listed.getD i true
theorem left_set {listed : Array Bool} {i : Nat} {a b : List Nat} (h : left ops listed = a ++ i :: b) : left ops (listed.setIfInBounds i true) = a ++ b := by
  have e : left ops (listed.setIfInBounds i true) = (left ops listed).filter fun j => decide (j ≠ i) := by
    unfold left
    rw [List.filter_filter]
    apply List.filter_congr
    intro j _
    by_cases hj : j = i
    · subst hj
      have : (listed.setIfInBounds j true).getD j true = true := by
        rw [Array.getD_eq_getD_getElem?, Array.getElem?_setIfInBounds_self]
        split <;> rfl
      rw [this]; simp
    · rw [getD_set_ne true (Ne.symm hj)]; simp [hj]
  have hn : (left ops listed).Nodup := List.Pairwise.filter _ List.nodup_range
  rw [e, h]
  rw [h] at hn
  have h1 := List.nodup_append.1 hn
  rw [List.filter_append, List.filter_cons]
  simp only [ne_eq, not_true_eq_false, decide_false, Bool.false_eq_true, if_false]
  congr 1
  · apply List.filter_eq_self.2
    intro j hj
    simpa using h1.2.2 j hj i (by simp)
  · apply List.filter_eq_self.2
    intro j hj
    have := (List.nodup_cons.1 h1.2.1).1
    simp only [decide_eq_true_eq]
    exact fun e => this (e ▸ hj)
theorem left_sorted {listed : Array Bool} : (left ops listed).Pairwise (· < ·) := List.Pairwise.filter _ List.pairwise_lt_range
theorem any_sound (hT : TabOk P tab) (hΓ : EnvOk P Γ) (hd : ∀ (i : Nat) (o : Oper), ops[i]? = some o → ∀ n, o.dst = some n → E.may n)
    (htmp : ∀ (j i : Nat) (oj oi : Oper), j < i → ops[j]? = some oj → ops[i]? = some oi → oj.apart ops oi = true ∨ ((Region.before ops).getD i 0).testBit j = true)
    (hedge : ∀ (i : Nat) (o : Oper) (e : Edge), ops[i]? = some o → e ∈ o.after.toList → Region.binds .any e = true → e.on < i) {sf : St} (hQ : ∀ a' w', Rel' P E sf a' w' → Q .normal a' w') :
    ∀ (fuel : Nat) (listed : Array Bool) (s : St) (gs : List Foot) (a : Act) (w : World), (left ops listed).length = fuel → RunF tab Γ k ops (left ops listed) s gs sf → Free (Region.before ops) gs →
      Closed ops (fun i => listed.getD i false = true) → Rel' P E s a w → wpAny P .any ops Q fuel listed a w
  | 0, listed, s, gs, a, w, hl, hr, _, _, h => by
    have hnil : left ops listed = [] := List.eq_nil_of_length_eq_zero hl
    rw [hnil] at hr
    cases hr
    refine ⟨?_, hQ a w h⟩
    cases hc : Region.ready .any ops listed with
    | nil => rfl
    | cons i r =>
      have hi : i ∈ Region.ready .any ops listed := by rw [hc]; simp
      obtain ⟨h1, o, ho, _⟩ := mem_ready.1 hi
      have : i ∈ left ops listed := List.mem_filter.2 ⟨List.mem_range.2 (Array.getElem?_eq_some_iff.1 ho).1, by rw [h1]; rfl⟩
      rw [hnil] at this
      simp at this
  | fuel + 1, listed, s, gs, a, w, hl, hr, hf, hc, h => by
    have in_left : ∀ i, i ∈ left ops listed ↔ i < ops.size ∧ listed.getD i true = false := fun i => by simp [left]
    refine ⟨fun h0 => ?_, fun i hi => ?_⟩
    · cases hle : left ops listed with
      | nil => rw [hle] at hl; simp at hl
      | cons i r =>
        have hi : i ∈ left ops listed := by rw [hle]; simp
        obtain ⟨h1, h2⟩ := (in_left i).1 hi
        have : i ∈ Region.ready .any ops listed := by
          refine mem_ready.2 ⟨h2, ops[i], by simp [h1], fun e he hb => ?_⟩
          have hlt := hedge i ops[i] e (by simp [h1]) (by simpa using he) hb
          have hs := left_sorted (ops := ops) (listed := listed)
          rw [hle] at hs
          have hnot : e.on ∉ left ops listed := fun hh => by
            rw [hle] at hh
            cases hh with
            | head => omega
            | tail _ hh => have := (List.pairwise_cons.1 hs).1 _ hh; omega
          have h3 : ¬ (e.on < ops.size ∧ listed.getD e.on true = false) := fun hh => hnot ((in_left _).2 hh)
          have h4 : listed.getD e.on true = true := by
            cases hx : listed.getD e.on true with
            | true => rfl
            | false => exact absurd ⟨by omega, hx⟩ h3
          have hsz : i < listed.size := by
            rcases Nat.lt_or_ge i listed.size with h5 | h5
            · exact h5
            · rw [Array.getD_eq_getD_getElem?, Array.getElem?_eq_none h5] at h2; simp at h2
          have hes : e.on < listed.size := by omega
          rw [Array.getD_eq_getD_getElem?, Array.getElem?_eq_getElem hes] at h4 ⊢
          simpa using h4
        rw [h0] at this
        simp at this
    · obtain ⟨h1, oi, hoi, h2⟩ := mem_ready.1 hi
      have hil : i ∈ left ops listed := (in_left i).2 ⟨(Array.getElem?_eq_some_iff.1 hoi).1, h1⟩
      obtain ⟨l1, l2, hle⟩ := List.append_of_mem hil
      have hs := left_sorted (ops := ops) (listed := listed)
      rw [hle] at hs hr
      have hlt : ∀ j ∈ l1, j < i := fun j hj => (List.pairwise_append.1 hs).2.2 j hj i (by simp)
      have hc' : Closed ops (fun n => (listed.setIfInBounds i true).getD n false = true) := by
        intro n o e ho hn he hb
        by_cases hni : n = i
        · subst hni
          rw [hoi] at ho; simp at ho; subst ho
          exact getD_set_true (h2 e (by simpa using he) hb)
        · rw [getD_set_ne false (Ne.symm hni)] at hn
          exact getD_set_true (hc n o e ho hn he hb)
      have hbit : ∀ j ∈ l1, ((Region.before ops).getD i 0).testBit j = false := by
        intro j hj
        cases hb : ((Region.before ops).getD i 0).testBit j with
        | false => rfl
        | true =>
          have hji := hlt j hj
          have hsz : i < listed.size := by
            rcases Nat.lt_or_ge i listed.size with h5 | h5
            · exact h5
            · rw [Array.getD_eq_getD_getElem?, Array.getElem?_eq_none h5] at h1; simp at h1
          have := before_closed hb hc' (by simp [hsz])
          rw [getD_set_ne false (by omega)] at this
          have hjl : j ∈ left ops listed := by rw [hle]; simp [hj]
          have hjf := ((in_left j).1 hjl).2
          have hjs : j < listed.size := by omega
          rw [Array.getD_eq_getD_getElem?, Array.getElem?_eq_getElem hjs] at this hjf
          simp at this hjf
          rw [this] at hjf
          simp at hjf
      obtain ⟨fi, s1, hs', h3, h4, h5, _⟩ := bubble hr hf hbit (fun j hj oj oi' hoj hoi' => by
        rcases htmp j i oj oi' (hlt j hj) hoj hoi' with h6 | h6
        · exact h6
        · rw [hbit j hj] at h6; simp at h6)
      refine step_wpOp hT hΓ hd h h3 fun a' w' h' => ?_
      have hleft := left_set hle
      refine any_sound hT hΓ hd htmp hedge hQ fuel _ s1 hs' a' w' ?_ (by rw [hleft]; exact h4) (List.Pairwise.sublist h5 hf) hc' h'
      rw [hleft]
      rw [hle] at hl
      simp at hl ⊢
      omega
end
end Go.GG

/- States in a pattern's form. -/
namespace Go.GG
open Go.RowKit
section
variable {τ : Tabs} {P : Program} {E : Entry} {m : IMap} {s : St} {a : Act} {w : World}

/-- A map of things that goes on to the letter. -/
def ExtS (m m' : IMap) : Prop := ∀ r i, m r = some i → m' r = some i
theorem ExtS.refl (m : IMap) : ExtS m m := fun _ _ h => h
theorem ExtS.trans {a b c : IMap} (h : ExtS a b) (h' : ExtS b c) : ExtS a c := fun r i hr => h' r i (h r i hr)
theorem ExtS.ext {m m' : IMap} (h : ExtS m m') : Ext m m' := Ext.of h
def SrcOk (w : World) (ok : Nat → Prop) (m : IMap) : Src → Impl → Prop
  | .ref d, i => m d = some i
  | .nil, i => i = .arr (.slice none 0 0)
  | .dnil, i => i = .deep (.slice none 0 0) []
  | .full t xs, i => ∃ v, i = .shr v ∧ (T.slice t).holds w ok xs [v] ∧ ∃ A, v = .slice A xs.length xs.length
def look : List (Nat × Impl) → IMap
  | [], _ => none
  | (r, i) :: l, n => if r = n then some i else look l n
inductive SubOk (w : World) (ok : Nat → Prop) (m : IMap) : Sub → List (Nat × Impl) → Prop
  | nil : SubOk w ok m [] []
  | cons {R : Nat} {src : Src} {θ : Sub} {i : Impl} {mm : List (Nat × Impl)} : θ.get R = none → SrcOk w ok m src i → SubOk w ok m θ mm → SubOk w ok m ((R, src) :: θ) ((R, i) :: mm)
theorem sub_get_cons {R a : Nat} {src : Src} {θ : Sub} : Sub.get ((a, src) :: θ) R = if a = R then some src else θ.get R := by
  simp only [Sub.get]
  by_cases e : a = R
  · subst e; simp
  · have : Nat.beq a R = false := by
      cases hb : Nat.beq a R with
      | false => rfl
      | true => exact absurd (Nat.eq_of_beq_eq_true hb) e
    simp [this, e]
theorem SubOk.look {ok : Nat → Prop} : ∀ {θ : Sub} {mm : List (Nat × Impl)}, SubOk w ok m θ mm → ∀ {R : Nat}, (θ.get R = none → look mm R = none) ∧ ∀ {src}, θ.get R = some src → ∃ i, look mm R = some i ∧ SrcOk w ok m src i
  | _, _, .nil, R => ⟨fun _ => rfl, fun h => by simp [Sub.get] at h⟩
  | _, _, .cons (R := R') h1 h2 h3, R => by
    rw [sub_get_cons]
    simp only [GG.look]
    by_cases e : R' = R
    · subst e
      simp only [if_true]
      exact ⟨fun h => by simp at h, fun h => by simp at h; subst h; exact ⟨_, rfl, h2⟩⟩
    · simp only [if_neg e]
      exact h3.look
theorem SubOk.back {ok : Nat → Prop} {θ : Sub} {mm : List (Nat × Impl)} (h : SubOk w ok m θ mm) {R : Nat} {i : Impl} (hl : GG.look mm R = some i) : ∃ src, θ.get R = some src ∧ SrcOk w ok m src i := by
  cases hg : θ.get R with
  | none => rw [(h.look (R := R)).1 hg] at hl; simp at hl
  | some src =>
    obtain ⟨j, h1, h2⟩ := (h.look (R := R)).2 hg
    rw [hl] at h1; simp at h1; subst h1
    exact ⟨src, rfl, h2⟩
theorem SubOk.ext {ok : Nat → Prop} {θ : Sub} {mm : List (Nat × Impl)} (h : SubOk w ok m θ mm) {R : Nat} {i : Impl} (hg : θ.get R = none) : ExtS (GG.look mm) (GG.look ((R, i) :: mm)) := by
  intro r j hr
  simp only [GG.look]
  have : R ≠ r := fun e => by subst e; rw [(h.look (R := R)).1 hg] at hr; simp at hr
  rw [if_neg this]; exact hr
theorem bindRef_ref {ok : Nat → Prop} {θ θ' : Sub} {mm : List (Nat × Impl)} (h : SubOk w ok m θ mm) {R d : Nat} {i : Impl} (hi : m d = some i) (hb : bindRef θ R (.ref d) = some θ') :
    ∃ mm', SubOk w ok m θ' mm' ∧ ExtS (look mm) (look mm') ∧ look mm' R = some i := by
  unfold bindRef at hb
  split at hb
  · rename_i hg
    simp at hb; subst hb
    exact ⟨(R, i) :: mm, .cons hg hi h, h.ext hg, by simp [look]⟩
  · rename_i a' hg
    simp only at hb
    cases hq : Nat.beq a' d with
    | false => rw [hq] at hb; simp at hb
    | true =>
      rw [hq] at hb
      simp at hb; subst hb
      obtain ⟨j, h1, h2⟩ := (h.look (R := R)).2 hg
      simp only [SrcOk] at h2
      rw [Nat.eq_of_beq_eq_true hq, hi] at h2; simp at h2; subst h2
      exact ⟨mm, h, ExtS.refl _, h1⟩
  · simp at hb
  · simp at hb
  · simp at hb
theorem bindCaps_ok {ok : Nat → Prop} : ∀ {cs cs' : List (Nat × Nat)} {θ θ' : Sub} {mm : List (Nat × Impl)} {vs : List Value}, SubOk w ok m θ mm → bindCaps θ cs cs' = some θ' → capHolds m cs' vs →
    ∃ mm', SubOk w ok m θ' mm' ∧ ExtS (look mm) (look mm') ∧ capHolds (look mm') cs vs
  | [], [], _, _, mm, vs, h, hb, hc => by
    simp only [bindCaps, Option.some.injEq] at hb; subst hb
    exact ⟨mm, h, ExtS.refl _, hc⟩
  | (R, o) :: cs, (r, o') :: cs', θ, θ', mm, vs, h, hb, hc => by
    simp only [bindCaps] at hb
    split at hb
    · rename_i e
      subst e
      split at hb
      · rename_i θ1 hb1
        obtain ⟨b, vs', h1, rfl, h2⟩ := hc
        obtain ⟨mm1, h3, h4, h5⟩ := bindRef_ref h h1 hb1
        obtain ⟨mm2, h6, h7, h8⟩ := bindCaps_ok h3 hb h2
        exact ⟨mm2, h6, h4.trans h7, b, vs', h7 _ _ h5, rfl, h8⟩
      · simp at hb
    · simp at hb
  | [], _ :: _, _, _, _, _, _, hb, _ => by simp [bindCaps] at hb
  | _ :: _, [], _, _, _, _, _, hb, _ => by simp [bindCaps] at hb
theorem bindStat_ok {ok : Nat → Prop} {θ θ' : Sub} {mm : List (Nat × Impl)} {l l' : L} {v : Value} (h : SubOk w ok m θ mm) (hb : bindStat θ l l' = some θ') (hv : LRep P w ok m l' v) :
    ∃ mm', SubOk w ok m θ' mm' ∧ ExtS (look mm) (look mm') ∧ ∀ ok' m'', ExtS (look mm') m'' → LRep P w ok' m'' l v := by
  unfold bindStat at hb
  split at hb
  · -- sref, sref
    rename_i R r
    simp only [LRep] at hv
    rcases hv with hv | hv <;> (obtain ⟨mm', h1, h2, h3⟩ := bindRef_ref h hv hb; refine ⟨mm', h1, h2, fun ok' m'' he => ?_⟩)
    · exact .inl (he _ _ h3)
    · exact .inr (he _ _ h3)
  · -- sref, nils
    rename_i R
    simp only [LRep] at hv; subst hv
    unfold bindRef at hb
    split at hb
    · rename_i hg
      simp at hb; subst hb
      exact ⟨_, .cons (i := .arr (.slice none 0 0)) hg rfl h, h.ext hg, fun ok' m'' he => .inl (he _ _ (by simp [look]))⟩
    · simp at hb
    · rename_i hg
      simp at hb; subst hb
      obtain ⟨j, h1, h2⟩ := (h.look (R := R)).2 hg
      simp only [SrcOk] at h2; subst h2
      exact ⟨mm, h, ExtS.refl _, fun ok' m'' he => .inl (he _ _ h1)⟩
    · simp at hb
    · simp at hb
  · -- sref, full
    rename_i R t xs
    unfold bindRef at hb
    split at hb
    · rename_i hg
      simp at hb; subst hb
      exact ⟨_, .cons (i := .shr v) hg ⟨v, rfl, hv.1, hv.2⟩ h, h.ext hg, fun ok' m'' he => .inr (he _ _ (by simp [look]))⟩
    · simp at hb
    · simp at hb
    · simp at hb
    · simp at hb
  · -- ptr
    rename_i R o r o'
    split at hb
    · rename_i e
      subst e
      obtain ⟨b, h1, rfl⟩ := hv
      obtain ⟨mm', h2, h3, h4⟩ := bindRef_ref h h1 hb
      exact ⟨mm', h2, h3, fun ok' m'' he => ⟨b, he _ _ h4, rfl⟩⟩
    · simp at hb
  · -- mref
    obtain ⟨b, h1, rfl⟩ := hv
    rcases h1 with h1 | ⟨bs, h1⟩
    · obtain ⟨mm', h2, h3, h4⟩ := bindRef_ref h h1 hb
      exact ⟨mm', h2, h3, fun ok' m'' he => ⟨b, .inl (he _ _ h4), rfl⟩⟩
    · obtain ⟨mm', h2, h3, h4⟩ := bindRef_ref h h1 hb
      exact ⟨mm', h2, h3, fun ok' m'' he => ⟨b, .inr ⟨bs, he _ _ h4⟩, rfl⟩⟩
  · -- dref, dref
    obtain ⟨bs, h1⟩ := hv
    obtain ⟨mm', h2, h3, h4⟩ := bindRef_ref h h1 hb
    exact ⟨mm', h2, h3, fun ok' m'' he => ⟨bs, he _ _ h4⟩⟩
  · -- dref, nils
    rename_i R
    simp only [LRep] at hv; subst hv
    unfold bindRef at hb
    split at hb
    · rename_i hg
      simp at hb; subst hb
      exact ⟨_, .cons (i := .deep (.slice none 0 0) []) hg rfl h, h.ext hg, fun ok' m'' he => ⟨[], he _ _ (by simp [look])⟩⟩
    · simp at hb
    · simp at hb
    · rename_i hg
      simp at hb; subst hb
      obtain ⟨j, h1, h2⟩ := (h.look (R := R)).2 hg
      simp only [SrcOk] at h2; subst h2
      exact ⟨mm, h, ExtS.refl _, fun ok' m'' he => ⟨[], he _ _ h1⟩⟩
    · simp at hb
  · simp at hb; subst hb; exact ⟨mm, h, ExtS.refl _, fun _ _ _ => hv⟩
  · simp at hb; subst hb; exact ⟨mm, h, ExtS.refl _, fun _ _ _ => hv⟩
  · simp at hb; subst hb; exact ⟨mm, h, ExtS.refl _, fun _ _ _ => hv⟩
  · simp at hb; subst hb; exact ⟨mm, h, ExtS.refl _, fun _ _ _ => hv⟩
  · simp at hb; subst hb; exact ⟨mm, h, ExtS.refl _, fun _ _ _ => hv⟩
  · simp at hb; subst hb; exact ⟨mm, h, ExtS.refl _, fun _ _ _ => trivial⟩
  · rename_i f cs f' cs'
    split at hb
    · rename_i e
      subst e
      obtain ⟨caps, rfl, hc⟩ := hv
      obtain ⟨mm', h1, h2, h3⟩ := bindCaps_ok h hb hc
      exact ⟨mm', h1, h2, fun ok' m'' he => ⟨caps, rfl, h3.mono he.ext⟩⟩
    · simp at hb
  · simp at hb
theorem bindStats_ok (h : Rel P E m s a w) : ∀ {st : List (Nat × L)} {θ θ' : Sub} {mm : List (Nat × Impl)}, SubOk w (okOf E m s.mem w) m θ mm → bindStats s θ st = some θ' →
    ∃ mm', SubOk w (okOf E m s.mem w) m θ' mm' ∧ ExtS (look mm) (look mm') ∧ ∀ ok' m'', ExtS (look mm') m'' → ∀ t, LRep P w ok' m'' (statEnv st t) (a.tmps.getD t undef)
  | [], θ, θ', mm, hs, hb => by
    simp only [bindStats, Option.some.injEq] at hb; subst hb
    exact ⟨mm, hs, ExtS.refl _, fun _ _ _ _ => trivial⟩
  | (i, l) :: st, θ, θ', mm, hs, hb => by
    simp only [bindStats] at hb
    split at hb
    · simp at hb
    · rename_i θ1 h1
      obtain ⟨mm1, h2, h3, h4⟩ := bindStat_ok hs h1 (h.env i)
      obtain ⟨mm2, h5, h6, h7⟩ := bindStats_ok h h2 hb
      refine ⟨mm2, h5, h3.trans h6, fun ok' m'' he t => ?_⟩
      simp only [statEnv]
      cases ht : Nat.beq t i with
      | true =>
        rw [Nat.eq_of_beq_eq_true ht]
        exact h4 ok' m'' (h6.trans he)
      | false => exact h7 ok' m'' he t

/-! ### What is picked -/
/-- What the rows given away are to be: fine. -/
structure Lets [Tabs] (E : Entry) (m : IMap) (s : St) (w : World) (ok' : Nat → Prop) (G : List Nat) : Prop where
  old : ∀ b, okOf E m s.mem w b → ok' b
  row : ∀ r ∈ G, ∀ i b, m r = some i → b ∈ i.blocks → ok' b
theorem Lets.left {ok' : Nat → Prop} {g g' : List Nat} (h : Lets E m s w ok' (g ++ g')) : Lets E m s w ok' g := ⟨h.old, fun r hr => h.row r (by simp [hr])⟩
theorem Lets.right {ok' : Nat → Prop} {g g' : List Nat} (h : Lets E m s w ok' (g ++ g')) : Lets E m s w ok' g' := ⟨h.old, fun r hr => h.row r (by simp [hr])⟩
theorem let_row (h : Rel P E m s a w) {ok' : Nat → Prop} {G : List Nat} (hk : Lets E m s w ok' G) {r : Nat} (hr : r ∈ G) {t : T} {xs : List t.den} (hx : rowOf (s.mem r) = some ⟨t, xs⟩) {v : Value}
    (hv : LRep P w (okOf E m s.mem w) m (.sref r) v) : (T.slice t).holds w ok' xs [v] := by
  have kp : Keeps w w (okOf E m s.mem w) ok' := Keeps.weaken hk.old
  have own : m r = some (.arr v) → OwnRow w (okOf E m s.mem w) t xs v → (T.slice t).holds w ok' xs [v] := by
    intro hm ho
    rcases ho with ⟨rfl, rfl⟩ | ⟨b, C, e, fr, cap, rfl, h1, h2, h3, h4, h5⟩
    · exact ⟨none, 0, rfl, Nat.le_refl _, .inl ⟨rfl, fun _ => rfl⟩⟩
    · refine ⟨_, cap, rfl, h1, .inr ⟨b, 0, C, e, fr, rfl, hk.row r hr _ b hm (by simp [Impl.blocks]), h3, fun i x hi => ?_⟩⟩
      obtain ⟨ds, hd, hj⟩ := h5 i x hi
      exact ⟨ds, T.holds_mono kp hd, fun j u hu => by rw [Nat.zero_add]; exact hj j u hu⟩
  simp only [LRep] at hv
  rcases rowOf_some hx with hc | hc <;> (obtain ⟨im, h1, h2, h3⟩ := h.mem _ _ hc; have hm := h1; rw [h1] at hv; rcases hv with hv | hv <;> (simp at hv; subst hv; simp only [CRep] at h2))
  · exact own hm h2
  · exact own hm h2
  · exact T.holds_mono (t := .slice t) kp h2.1
theorem rowOf_alive {μ : Nat → Option C} {r : Nat} {x : (t : T) × List t.den} (h : rowOf (μ r) = some x) : (μ r).isSome := by
  cases hc : μ r with
  | none => rw [hc] at h; simp [rowOf] at h
  | some c => rfl
theorem pickVal_ok (h : Rel P E m s a w) {t : T} {l : L} {x : t.den} {g : List Nat} {v : Value} (hp : pickVal s t l = some (x, g)) (hv : LRep P w (okOf E m s.mem w) m l v) :
    (∀ r ∈ g, (s.mem r).isSome) ∧ ∀ ok', Lets E m s w ok' g → t.holds w ok' x [v] := by
  unfold pickVal at hp
  split at hp
  · rename_i r
    split at hp
    · rename_i t' xs hx
      split at hp
      · rename_i y hy
        simp only [Option.some.injEq, Prod.mk.injEq] at hp
        obtain ⟨rfl, rfl⟩ := hp
        obtain ⟨rfl, rfl⟩ := cast?_some hy
        exact ⟨fun r' hr' => by simp at hr'; subst hr'; exact rowOf_alive hx, fun ok' hk => let_row h hk (by simp) hx hv⟩
      · simp at hp
    · simp at hp
  · split at hp
    · rename_i y hy
      simp only [Option.some.injEq, Prod.mk.injEq] at hp
      obtain ⟨rfl, rfl⟩ := hp
      exact ⟨by simp, fun ok' hk => T.holds_mono (Keeps.weaken hk.old) (leafVal?_holds hy hv)⟩
    · simp at hp
theorem pickLeaves_ok (h : Rel P E m s a w) : ∀ {ls ls' : List L} {g : List Nat} {vs : List Value}, pickLeaves s ls = some (ls', g) → LReps P w (okOf E m s.mem w) m ls vs →
    (∀ r ∈ g, (s.mem r).isSome) ∧ ∀ ok', Lets E m s w ok' g → LReps P w ok' m ls' vs
  | [], ls', g, vs, hp, hl => by
    simp only [pickLeaves, Option.some.injEq, Prod.mk.injEq] at hp
    obtain ⟨rfl, rfl⟩ := hp
    exact ⟨by simp, fun _ _ => hl⟩
  | l :: ls, ls', g, _, hp, hl => by
    obtain ⟨v, vs, rfl, h1, h2⟩ := hl
    cases l
    case sref r =>
      simp only [pickLeaves] at hp
      split at hp
      · rename_i t xs hx
        split at hp
        · rename_i a' b' hq
          simp only [Option.some.injEq, Prod.mk.injEq] at hp
          obtain ⟨rfl, rfl⟩ := hp
          obtain ⟨h3, h4⟩ := pickLeaves_ok h hq h2
          refine ⟨fun r' hr' => ?_, fun ok' hk => ⟨v, vs, rfl, let_row h hk (by simp) hx h1, h4 ok' ⟨hk.old, fun r' hr' => hk.row r' (by simp [hr'])⟩⟩⟩
          cases hr' with
          | head => exact rowOf_alive hx
          | tail _ hr' => exact h3 r' hr'
        · simp at hp
      · simp at hp
    all_goals
      simp only [pickLeaves] at hp
      split at hp
      · rename_i a' b' hq
        simp only [Option.some.injEq, Prod.mk.injEq] at hp
        obtain ⟨rfl, rfl⟩ := hp
        obtain ⟨h3, h4⟩ := pickLeaves_ok h hq h2
        exact ⟨h3, fun ok' hk => ⟨v, vs, rfl, h1.mono (Keeps.weaken hk.old) (Ext.refl m), h4 ok' hk⟩⟩
      · simp at hp
theorem pickCells_ok (h : Rel P E m s a w) : ∀ {ps : List PLeaf} {ls : List L} {x : RD T.den (dynTs ps)} {θ θ' : Sub} {g : List Nat} {vs : List Value} {mm : List (Nat × Impl)}, SubOk w (okOf E m s.mem w) m θ mm → pickCells s θ ps ls = some (x, θ', g) →
    LReps P w (okOf E m s.mem w) m ls vs → ∃ mm', SubOk w (okOf E m s.mem w) m θ' mm' ∧ ExtS (look mm) (look mm') ∧ (∀ r ∈ g, (s.mem r).isSome) ∧
      ∀ ok' m'', Lets E m s w ok' g → ExtS (look mm') m'' → LReps P w ok' m'' (cellsOf ps x) vs
  | [], [], x, θ, θ', g, vs, mm, hs, hp, hl => by
    simp only [pickCells, Option.some.injEq, Prod.mk.injEq] at hp
    obtain ⟨rfl, rfl, rfl⟩ := hp
    exact ⟨mm, hs, ExtS.refl _, by simp, fun _ _ _ _ => hl⟩
  | .dyn t :: ps, l :: ls, x, θ, θ', g, _, mm, hs, hp, hl => by
    simp only [pickCells] at hp
    split at hp
    · simp at hp
    · rename_i y g1 hy
      split at hp
      · simp at hp
      · rename_i z θ1 g2 hz
        simp only [Option.some.injEq, Prod.mk.injEq] at hp
        obtain ⟨rfl, rfl, rfl⟩ := hp
        obtain ⟨v, vs, rfl, h1, h2⟩ := hl
        obtain ⟨h3, h4⟩ := pickVal_ok h hy h1
        obtain ⟨mm', h5, h6, h7, h8⟩ := pickCells_ok h hs hz h2
        refine ⟨mm', h5, h6, fun r hr => ?_, fun ok' m'' hk he => ⟨v, vs, rfl, ?_, ?_⟩⟩
        · rcases List.mem_append.1 hr with hr | hr
          · exact h3 r hr
          · exact h7 r hr
        · simp only [LRep]; rw [hd_mk]; exact h4 ok' hk.left
        · rw [tl_mk]; exact h8 ok' m'' hk.right he
  | .stat e :: ps, l :: ls, x, θ, θ', g, _, mm, hs, hp, hl => by
    simp only [pickCells] at hp
    split at hp
    · simp at hp
    · rename_i θ1 hb
      obtain ⟨v, vs, rfl, h1, h2⟩ := hl
      obtain ⟨mm1, h3, h4, h5⟩ := bindStat_ok hs hb h1
      obtain ⟨mm', h6, h7, h8, h9⟩ := pickCells_ok h h3 hp h2
      exact ⟨mm', h6, h4.trans h7, h8, fun ok' m'' hk he => ⟨v, vs, rfl, h5 ok' m'' (h7.trans he), h9 ok' m'' hk he⟩⟩
  | [], _ :: _, _, _, _, _, _, _, _, hp, _ => by simp [pickCells] at hp
  | .dyn _ :: _, [], _, _, _, _, _, _, _, hp, _ => by simp [pickCells] at hp
  | .stat _ :: _, [], _, _, _, _, _, _, _, hp, _ => by simp [pickCells] at hp
end
end Go.GG

/- States in a pattern's form, together. -/
namespace Go.GG
open Go.RowKit
section
variable {τ : Tabs} {P : Program} {E : Entry} {m : IMap} {s : St} {a : Act} {w : World}

theorem beq_iff {x y : Nat} : Nat.beq x y = true ↔ x = y := ⟨Nat.eq_of_beq_eq_true, fun h => by subst h; simp⟩
/-- What is picked stands for what was there. -/
structure Picked (P : Program) (w : World) (m : IMap) (s : St) (a : Act) (ok' : Nat → Prop) (m'' : IMap) (θ : Sub) (ps : List PE) (x : RD PE.den ps) : Prop where
  env : ∀ e0 : Nat → L, (∀ t, LRep P w ok' m'' (e0 t) (a.tmps.getD t undef)) → ∀ t, LRep P w ok' m'' (dynEnv ps x e0 t) (a.tmps.getD t undef)
  mem : ∀ R c, dynMem ps x R = some c → ∃ i, m'' R = some i ∧ CRep P w ok' m'' c i ∧ ∀ b, b ∈ i.blocks → ∃ d, θ.get R = some (.ref d) ∧ m d = some i ∧ (s.mem d).isSome
  src : ∀ R, (dynMem ps x R).isSome → ∃ src, θ.get R = some src ∧ ∀ d, src = .ref d → (s.mem d).isSome
theorem envAt {ok' : Nat → Prop} {m'' : IMap} {l : L} {i : Nat} (h : LRep P w ok' m'' l (a.tmps.getD i undef)) {e0 : Nat → L} (h0 : ∀ t, LRep P w ok' m'' (e0 t) (a.tmps.getD t undef)) :
    ∀ t, LRep P w ok' m'' (cond (Nat.beq t i) l (e0 t)) (a.tmps.getD t undef) := by
  intro t
  cases ht : Nat.beq t i with
  | true => rw [Nat.eq_of_beq_eq_true ht]; exact h
  | false => exact h0 t

/-- Bindings stay. -/
def Grows (θ θ' : Sub) : Prop := ∀ R src, θ.get R = some src → θ'.get R = some src
theorem bindRef_grows {θ θ' : Sub} {R : Nat} {d : Src} (h : bindRef θ R d = some θ') : Grows θ θ' := by
  unfold bindRef at h
  split at h
  · rename_i hg
    simp at h; subst h
    intro R' src hR
    rw [sub_get_cons]
    by_cases e : R = R'
    · subst e; rw [hg] at hR; simp at hR
    · rw [if_neg e]; exact hR
  · rename_i a' hg
    split at h
    · rename_i b
      cases hq : Nat.beq a' b with
      | false => rw [hq] at h; simp at h
      | true => rw [hq] at h; simp at h; subst h; exact fun _ _ h => h
    · simp at h
  · split at h
    · simp at h; subst h; exact fun _ _ h => h
    · simp at h
  · split at h
    · simp at h; subst h; exact fun _ _ h => h
    · simp at h
  · simp at h
theorem bindCaps_grows : ∀ {cs cs' : List (Nat × Nat)} {θ θ' : Sub}, bindCaps θ cs cs' = some θ' → Grows θ θ'
  | [], [], θ, θ', h => by simp only [bindCaps, Option.some.injEq] at h; subst h; exact fun _ _ h => h
  | (R, o) :: cs, (r, o') :: cs', θ, θ', h => by
    simp only [bindCaps] at h
    split at h
    · split at h
      · rename_i θ1 h1
        exact fun R src hR => bindCaps_grows h R src (bindRef_grows h1 R src hR)
      · simp at h
    · simp at h
  | [], _ :: _, _, _, h => by simp [bindCaps] at h
  | _ :: _, [], _, _, h => by simp [bindCaps] at h
theorem bindStat_grows {θ θ' : Sub} {l l' : L} (h : bindStat θ l l' = some θ') : Grows θ θ' := by
  unfold bindStat at h
  split at h
  · exact bindRef_grows h
  · exact bindRef_grows h
  · exact bindRef_grows h
  · split at h
    · exact bindRef_grows h
    · simp at h
  · exact bindRef_grows h
  · exact bindRef_grows h
  · exact bindRef_grows h
  · simp at h; subst h; exact fun _ _ h => h
  · simp at h; subst h; exact fun _ _ h => h
  · simp at h; subst h; exact fun _ _ h => h
  · simp at h; subst h; exact fun _ _ h => h
  · simp at h; subst h; exact fun _ _ h => h
  · simp at h; subst h; exact fun _ _ h => h
  · split at h
    · exact bindCaps_grows h
    · simp at h
  · simp at h
theorem pickCells_grows : ∀ {ps : List PLeaf} {ls : List L} {x : RD T.den (dynTs ps)} {θ θ' : Sub} {g : List Nat}, pickCells s θ ps ls = some (x, θ', g) → Grows θ θ'
  | [], [], x, θ, θ', g, h => by
    simp only [pickCells, Option.some.injEq, Prod.mk.injEq] at h
    obtain ⟨_, rfl, _⟩ := h
    exact fun _ _ h => h
  | .dyn t :: ps, l :: ls, x, θ, θ', g, h => by
    simp only [pickCells] at h
    split at h
    · simp at h
    · split at h
      · simp at h
      · rename_i z θ1 g2 hz
        simp only [Option.some.injEq, Prod.mk.injEq] at h
        obtain ⟨_, rfl, _⟩ := h
        exact pickCells_grows hz
  | .stat e :: ps, l :: ls, x, θ, θ', g, h => by
    simp only [pickCells] at h
    split at h
    · simp at h
    · rename_i θ1 hb
      exact fun R src hR => pickCells_grows h R src (bindStat_grows hb R src hR)
  | [], _ :: _, _, _, _, _, h => by simp [pickCells] at h
  | .dyn _ :: _, [], _, _, _, _, h => by simp [pickCells] at h
  | .stat _ :: _, [], _, _, _, _, h => by simp [pickCells] at h

/-- One place of a pattern: what it puts into the environment, or what block it stands for. -/
structure Puts (P : Program) (w : World) (m : IMap) (s : St) (a : Act) (ok' : Nat → Prop) (m'' : IMap) (θ : Sub) (p : PE) (x : p.den) : Prop where
  one : (∃ i l, (∀ (ps : List PE) (y : RD PE.den ps) (e : Nat → L), dynEnv (p :: ps) (RD.mk (k := p) x y) e = dynEnv ps y fun n => cond (Nat.beq n i) l (e n)) ∧
      (∀ (ps : List PE) (y : RD PE.den ps), dynMem (p :: ps) (RD.mk (k := p) x y) = dynMem ps y) ∧ LRep P w ok' m'' l (a.tmps.getD i undef)) ∨
    (∃ R c, (∀ (ps : List PE) (y : RD PE.den ps) (e : Nat → L), dynEnv (p :: ps) (RD.mk (k := p) x y) e = dynEnv ps y e) ∧
      (∀ (ps : List PE) (y : RD PE.den ps), dynMem (p :: ps) (RD.mk (k := p) x y) = fun n => cond (Nat.beq n R) (some c) (dynMem ps y n)) ∧
      (∃ i, m'' R = some i ∧ CRep P w ok' m'' c i ∧ ∀ b, b ∈ i.blocks → ∃ d, θ.get R = some (.ref d) ∧ m d = some i ∧ (s.mem d).isSome) ∧
      ∃ src, θ.get R = some src ∧ ∀ d, src = .ref d → (s.mem d).isSome)
theorem pickOne_ok (h : Rel P E m s a w) {p : PE} {x : p.den} {θ θ' : Sub} {g : List Nat} {mm : List (Nat × Impl)} (hs : SubOk w (okOf E m s.mem w) m θ mm) (hp : pickOne s θ p = some (x, θ', g)) :
    Grows θ θ' ∧ ∃ mm', SubOk w (okOf E m s.mem w) m θ' mm' ∧ ExtS (look mm) (look mm') ∧ (∀ r ∈ g, (s.mem r).isSome) ∧
      ∀ ok' m'' θ'', Lets E m s w ok' g → ExtS (look mm') m'' → Grows θ' θ'' → Puts P w m s a ok' m'' θ'' p x := by
  have hv := fun i => h.env i
  have idG : Grows θ θ := fun _ _ h => h
  unfold pickOne at hp
  split at hp
  · -- val
    rename_i i t
    split at hp
    · rename_i y g1 hy
      simp only [Option.some.injEq, Prod.mk.injEq] at hp
      obtain ⟨rfl, rfl, rfl⟩ := hp
      obtain ⟨h1, h2⟩ := pickVal_ok h hy (hv i)
      exact ⟨idG, mm, hs, ExtS.refl _, h1, fun ok' m'' θ'' hk _ _ => ⟨.inl ⟨i, .val t y, fun ps z e => by simp only [dynEnv, hd_mk, tl_mk], fun ps z => by simp only [dynMem, tl_mk], h2 ok' hk⟩⟩⟩
    · simp at hp
  · -- agg
    rename_i i t
    split at hp
    · rename_i ls hl
      split at hp
      · rename_i ls' g1 hq
        split at hp
        · rename_i y hy
          simp only [Option.some.injEq, Prod.mk.injEq] at hp
          obtain ⟨rfl, rfl, rfl⟩ := hp
          have hv := hv i
          rw [hl] at hv
          obtain ⟨vs, hvs, hls⟩ := hv
          obtain ⟨h1, h2⟩ := pickLeaves_ok h hq hls
          exact ⟨idG, mm, hs, ExtS.refl _, h1, fun ok' m'' θ'' hk _ _ => ⟨.inl ⟨i, .agg (t.explode y), fun ps z e => by simp only [dynEnv, hd_mk, tl_mk], fun ps z => by simp only [dynMem, tl_mk],
            ⟨vs, hvs, explode_reps (implode_holds hy (h2 ok' hk))⟩⟩⟩⟩
        · simp at hp
      · simp at hp
    · simp at hp
  · -- full
    rename_i i t
    split at hp
    · rename_i t' xs hl
      split at hp
      · rename_i y hy
        simp only [Option.some.injEq, Prod.mk.injEq] at hp
        obtain ⟨rfl, rfl, rfl⟩ := hp
        obtain ⟨e, he⟩ := cast?_some hy
        cases e; subst he
        have hv := hv i
        rw [hl] at hv
        exact ⟨idG, mm, hs, ExtS.refl _, by simp, fun ok' m'' θ'' hk _ _ => ⟨.inl ⟨i, .full _ _, fun ps z e => by simp only [dynEnv, hd_mk, tl_mk], fun ps z => by simp only [dynMem, tl_mk],
          ⟨T.holds_mono (t := .slice _) (Keeps.weaken hk.old) hv.1, hv.2⟩⟩⟩⟩
      · simp at hp
    · simp at hp
  · -- nnil
    rename_i i t
    split at hp
    · rename_i t' xs hl
      split at hp
      · rename_i y hy
        simp only [Option.some.injEq, Prod.mk.injEq] at hp
        obtain ⟨rfl, rfl, rfl⟩ := hp
        obtain ⟨e, he⟩ := cast?_some hy
        cases e; subst he
        have hv := hv i
        rw [hl] at hv
        exact ⟨idG, mm, hs, ExtS.refl _, by simp, fun ok' m'' θ'' hk _ _ => ⟨.inl ⟨i, .nnil _ _, fun ps z e => by simp only [dynEnv, hd_mk, tl_mk], fun ps z => by simp only [dynMem, tl_mk],
          ⟨T.holds_mono (t := .slice _) (Keeps.weaken hk.old) hv.1, hv.2⟩⟩⟩⟩
      · simp at hp
    · simp at hp
  · -- eptr
    rename_i i t off
    split at hp
    · rename_i t' y off' hl
      split at hp
      · rename_i e0
        subst e0
        split at hp
        · rename_i z hz
          simp only [Option.some.injEq, Prod.mk.injEq] at hp
          obtain ⟨rfl, rfl, rfl⟩ := hp
          obtain ⟨rfl, rfl⟩ := cast?_some hz
          have hv := hv i
          rw [hl] at hv
          exact ⟨idG, mm, hs, ExtS.refl _, by simp, fun ok' m'' θ'' hk _ _ => ⟨.inl ⟨i, .eptr _ _ off, fun ps z e => by simp only [dynEnv, hd_mk, tl_mk], fun ps z => by simp only [dynMem, tl_mk],
            (LRep.mono (m := m) (m' := m) (l := .eptr _ _ off) (Keeps.weaken hk.old) (Ext.refl m) hv)⟩⟩⟩
        · simp at hp
      · simp at hp
    · simp at hp
  · -- fn
    rename_i i qs b
    split at hp
    · rename_i ps' b' q hl
      split at hp
      · rename_i hh
        obtain ⟨rfl, rfl⟩ := hh
        simp only [Option.some.injEq, Prod.mk.injEq] at hp
        obtain ⟨rfl, rfl, rfl⟩ := hp
        have hv := hv i
        rw [hl] at hv
        exact ⟨idG, mm, hs, ExtS.refl _, by simp, fun ok' m'' θ'' hk _ _ => ⟨.inl ⟨i, .fn ps' b' q, fun ps z e => by simp only [dynEnv, hd_mk, tl_mk], fun ps z => by simp only [dynMem, tl_mk],
          FnHolds.mono (Keeps.weaken hk.old) hv⟩⟩⟩
      · simp at hp
    · simp at hp
  · -- cells
    rename_i R ls
    split at hp
    · rename_i r hR
      split at hp
      · rename_i ms hr
        obtain ⟨i, h1, h2, h3⟩ := h.mem r _ hr
        cases i with
        | var b =>
          obtain ⟨vs, e, h4, h5⟩ := h2
          obtain ⟨mm', h6, h7, h8, h9⟩ := pickCells_ok h hs hp h5
          obtain ⟨j, h10, h11⟩ := (hs.look (R := R)).2 hR
          simp only [SrcOk] at h11
          rw [h1] at h11; simp at h11; subst h11
          have hgr := pickCells_grows hp
          refine ⟨hgr, mm', h6, h7, h8, fun ok' m'' θ'' hk he hθ => ⟨.inr ⟨R, .cells (cellsOf ls x), fun ps z e => by simp only [dynEnv, tl_mk], fun ps z => by funext n; simp only [dynMem, hd_mk, tl_mk],
            ⟨.var b, he _ _ (h7 _ _ h10), ⟨vs, e, h4, h9 ok' m'' hk he⟩, fun b' hb' => ⟨r, hθ _ _ (hgr _ _ hR), h1, by simp [hr]⟩⟩, .ref r, hθ _ _ (hgr _ _ hR), fun d hd => by cases hd; simp [hr]⟩⟩⟩
        | arr v => exact h2.elim
        | shr v => exact h2.elim
        | blk A c => exact h2.elim
        | obj b bs => exact h2.elim
        | deep v bs => exact h2.elim
      · simp at hp
    · simp at hp
  · -- arr
    rename_i R t
    split at hp
    · rename_i r hR
      split at hp
      · rename_i t' xs hr
        split at hp
        · rename_i y hy
          simp only [Option.some.injEq, Prod.mk.injEq] at hp
          obtain ⟨rfl, rfl, rfl⟩ := hp
          obtain ⟨e, he⟩ := cast?_some hy
          cases e; subst he
          obtain ⟨i, h1, h2, h3⟩ := h.mem r _ hr
          obtain ⟨j, h10, h11⟩ := (hs.look (R := R)).2 hR
          simp only [SrcOk] at h11
          rw [h1] at h11; simp at h11; subst h11
          refine ⟨idG, mm, hs, ExtS.refl _, by simp, fun ok' m'' θ'' hk he hθ => ⟨.inr ⟨R, .arr _ xs, fun ps z e => by simp only [dynEnv, tl_mk], fun ps z => by funext n; simp only [dynMem, hd_mk, tl_mk],
            ⟨i, he _ _ h10, ?_, fun b' hb' => ⟨r, hθ _ _ hR, h1, by simp [hr]⟩⟩, .ref r, hθ _ _ hR, fun d hd => by cases hd; simp [hr]⟩⟩⟩
          cases i with
          | var b => exact h2.elim
          | shr v => exact h2.elim
          | blk A c => exact h2.elim
          | obj b bs => exact h2.elim
          | deep v bs => exact h2.elim
          | arr v => exact OwnRow.mono (Keeps.weaken hk.old) (fun _ _ => rfl) h2
        · simp at hp
      · simp at hp
    · rename_i hR
      simp only [Option.some.injEq, Prod.mk.injEq] at hp
      obtain ⟨rfl, rfl, rfl⟩ := hp
      obtain ⟨j, h10, h11⟩ := (hs.look (R := R)).2 hR
      simp only [SrcOk] at h11; subst h11
      exact ⟨idG, mm, hs, ExtS.refl _, by simp, fun ok' m'' θ'' hk he hθ => ⟨.inr ⟨R, .arr t [], fun ps z e => by simp only [dynEnv, tl_mk], fun ps z => by funext n; simp only [dynMem, hd_mk, tl_mk],
        ⟨_, he _ _ h10, .inl ⟨rfl, rfl⟩, fun b' hb' => by simp [Impl.blocks] at hb'⟩, .nil, hθ _ _ hR, fun d hd => by cases hd⟩⟩⟩
    · simp at hp
  · -- app
    rename_i R t
    split at hp
    · rename_i r hR
      split at hp
      · rename_i t' xs hx
        split at hp
        · rename_i y hy
          simp only [Option.some.injEq, Prod.mk.injEq] at hp
          obtain ⟨rfl, rfl, rfl⟩ := hp
          obtain ⟨e, he⟩ := cast?_some hy
          cases e; subst he
          obtain ⟨j, h10, h11⟩ := (hs.look (R := R)).2 hR
          simp only [SrcOk] at h11
          have key : ∃ c, s.mem r = some c ∧ ∃ i, m r = some i ∧ ∀ ok', (∀ b, okOf E m s.mem w b → ok' b) → ∀ m'', CRep P w ok' m'' (.app _ xs) i := by
            rcases rowOf_some hx with hc | hc <;> (obtain ⟨i, h1, h2, h3⟩ := h.mem r _ hc; refine ⟨_, hc, i, h1, fun ok' hk m'' => ?_⟩; cases i <;> simp only [CRep] at h2 ⊢)
            · exact OwnRow.mono (Keeps.weaken hk) (fun _ _ => rfl) h2
            · exact OwnRow.mono (Keeps.weaken hk) (fun _ _ => rfl) h2
            · exact ⟨T.holds_mono (t := .slice _) (Keeps.weaken hk) h2.1, h2.2⟩
          obtain ⟨c, hc, i, h1, h2⟩ := key
          rw [h1] at h11; simp at h11; subst h11
          exact ⟨idG, mm, hs, ExtS.refl _, by simp, fun ok' m'' θ'' hk he hθ => ⟨.inr ⟨R, .app _ xs, fun ps z e => by simp only [dynEnv, tl_mk], fun ps z => by funext n; simp only [dynMem, hd_mk, tl_mk],
            ⟨i, he _ _ h10, h2 ok' hk.old m'', fun b' hb' => ⟨r, hθ _ _ hR, h1, by simp [hc]⟩⟩, .ref r, hθ _ _ hR, fun d hd => by cases hd; simp [hc]⟩⟩⟩
        · simp at hp
      · simp at hp
    · rename_i hR
      simp only [Option.some.injEq, Prod.mk.injEq] at hp
      obtain ⟨rfl, rfl, rfl⟩ := hp
      obtain ⟨j, h10, h11⟩ := (hs.look (R := R)).2 hR
      simp only [SrcOk] at h11; subst h11
      exact ⟨idG, mm, hs, ExtS.refl _, by simp, fun ok' m'' θ'' hk he hθ => ⟨.inr ⟨R, .app t [], fun ps z e => by simp only [dynEnv, tl_mk], fun ps z => by funext n; simp only [dynMem, hd_mk, tl_mk],
        ⟨_, he _ _ h10, .inl ⟨rfl, rfl⟩, fun b' hb' => by simp [Impl.blocks] at hb'⟩, .nil, hθ _ _ hR, fun d hd => by cases hd⟩⟩⟩
    · rename_i t' xs hR
      split at hp
      · rename_i y hy
        simp only [Option.some.injEq, Prod.mk.injEq] at hp
        obtain ⟨rfl, rfl, rfl⟩ := hp
        obtain ⟨e, he⟩ := cast?_some hy
        cases e; subst he
        obtain ⟨j, h10, h11⟩ := (hs.look (R := R)).2 hR
        simp only [SrcOk] at h11
        obtain ⟨v, rfl, h12, h13⟩ := h11
        exact ⟨idG, mm, hs, ExtS.refl _, by simp, fun ok' m'' θ'' hk he hθ => ⟨.inr ⟨R, .app _ xs, fun ps z e => by simp only [dynEnv, tl_mk], fun ps z => by funext n; simp only [dynMem, hd_mk, tl_mk],
          ⟨_, he _ _ h10, ⟨T.holds_mono (t := .slice _) (Keeps.weaken hk.old) h12, h13⟩, fun b' hb' => by simp [Impl.blocks] at hb'⟩, .full _ _, hθ _ _ hR, fun d hd => by cases hd⟩⟩⟩
      · simp at hp
    · simp at hp
  · -- map
    rename_i R kt vt
    split at hp
    · rename_i r hR
      split at hp
      · rename_i kt' vt' l hr
        split at hp
        · rename_i y hy
          simp only [Option.some.injEq, Prod.mk.injEq] at hp
          obtain ⟨rfl, rfl, rfl⟩ := hp
          obtain ⟨e, he⟩ := cast?_some hy
          cases e; subst he
          obtain ⟨i, h1, h2, h3⟩ := h.mem r _ hr
          obtain ⟨j, h10, h11⟩ := (hs.look (R := R)).2 hR
          simp only [SrcOk] at h11
          rw [h1] at h11; simp at h11; subst h11
          refine ⟨idG, mm, hs, ExtS.refl _, by simp, fun ok' m'' θ'' hk he hθ => ⟨.inr ⟨R, .map _ _ l, fun ps z e => by simp only [dynEnv, tl_mk], fun ps z => by funext n; simp only [dynMem, hd_mk, tl_mk],
            ⟨i, he _ _ h10, ?_, fun b' hb' => ⟨r, hθ _ _ hR, h1, by simp [hr]⟩⟩, .ref r, hθ _ _ hR, fun d hd => by cases hd; simp [hr]⟩⟩⟩
          cases i with
          | arr v => exact h2.elim
          | shr v => exact h2.elim
          | blk A c => exact h2.elim
          | var b =>
            obtain ⟨g0, es, clock, g1, g2⟩ := h2
            exact ⟨g0, es, clock, g1, g2.mono (Keeps.weaken hk.old)⟩
          | obj b bs => exact h2.elim
          | deep v bs => exact h2.elim
        · simp at hp
      · simp at hp
    · simp at hp
  · -- pm
    rename_i R
    split at hp
    · rename_i r hR
      split at hp
      · rename_i l hr
        simp only [Option.some.injEq, Prod.mk.injEq] at hp
        obtain ⟨rfl, rfl, rfl⟩ := hp
        obtain ⟨i, h1, h2, h3⟩ := h.mem r _ hr
        obtain ⟨j, h10, h11⟩ := (hs.look (R := R)).2 hR
        simp only [SrcOk] at h11
        rw [h1] at h11; simp at h11; subst h11
        refine ⟨idG, mm, hs, ExtS.refl _, by simp, fun ok' m'' θ'' hk he hθ => ⟨.inr ⟨R, .pm l none, fun ps z e => by simp only [dynEnv, tl_mk], fun ps z => by funext n; simp only [dynMem, hd_mk, tl_mk],
          ⟨i, he _ _ h10, ?_, fun b' hb' => ⟨r, hθ _ _ hR, h1, by simp [hr]⟩⟩, .ref r, hθ _ _ hR, fun d hd => by cases hd; simp [hr]⟩⟩⟩
        cases i with
        | arr v => exact h2.elim
        | shr v => exact h2.elim
        | blk A c => exact h2.elim
        | var b => exact h2.elim
        | obj b bs =>
          obtain ⟨g0, es, clock, g1, g2⟩ := h2
          exact ⟨g0, es, clock, g1, g2.free⟩
        | deep v bs => exact h2.elim
      · simp at hp
    · simp at hp
  · -- segs
    rename_i R
    split at hp
    · rename_i r hR
      split at hp
      · rename_i l hr
        simp only [Option.some.injEq, Prod.mk.injEq] at hp
        obtain ⟨rfl, rfl, rfl⟩ := hp
        obtain ⟨i, h1, h2, h3⟩ := h.mem r _ hr
        obtain ⟨j, h10, h11⟩ := (hs.look (R := R)).2 hR
        simp only [SrcOk] at h11
        rw [h1] at h11; simp at h11; subst h11
        refine ⟨idG, mm, hs, ExtS.refl _, by simp, fun ok' m'' θ'' hk he hθ => ⟨.inr ⟨R, .segs l none, fun ps z e => by simp only [dynEnv, tl_mk], fun ps z => by funext n; simp only [dynMem, hd_mk, tl_mk],
          ⟨i, he _ _ h10, ?_, fun b' hb' => ⟨r, hθ _ _ hR, h1, by simp [hr]⟩⟩, .ref r, hθ _ _ hR, fun d hd => by cases hd; simp [hr]⟩⟩⟩
        cases i with
        | arr v => exact h2.elim
        | shr v => exact h2.elim
        | blk A c => exact h2.elim
        | var b => exact h2.elim
        | obj b bs => exact h2.elim
        | deep v bs => exact ⟨h2.1, (DeepRow.free h2.2 (m' := m'')).mono (Keeps.weaken hk.old) (Ext.refl _) (fun _ _ => rfl)⟩
      · simp at hp
    · rename_i hR
      simp only [Option.some.injEq, Prod.mk.injEq] at hp
      obtain ⟨rfl, rfl, rfl⟩ := hp
      obtain ⟨j, h10, h11⟩ := (hs.look (R := R)).2 hR
      simp only [SrcOk] at h11; subst h11
      exact ⟨idG, mm, hs, ExtS.refl _, by simp, fun ok' m'' θ'' hk he hθ => ⟨.inr ⟨R, .segs [] none, fun ps z e => by simp only [dynEnv, tl_mk], fun ps z => by funext n; simp only [dynMem, hd_mk, tl_mk],
        ⟨_, he _ _ h10, ⟨List.nodup_nil, .inl ⟨rfl, rfl, rfl, rfl⟩⟩, fun b' hb' => by simp [Impl.blocks] at hb'⟩, .dnil, hθ _ _ hR, fun d hd => by cases hd⟩⟩⟩
    · simp at hp
theorem pickAll_ok (h : Rel P E m s a w) : ∀ {ps : List PE} {x : RD PE.den ps} {θ θ' : Sub} {g : List Nat} {mm : List (Nat × Impl)}, SubOk w (okOf E m s.mem w) m θ mm → pickAll s θ ps = some (x, θ', g) →
    Grows θ θ' ∧ ∃ mm', SubOk w (okOf E m s.mem w) m θ' mm' ∧ ExtS (look mm) (look mm') ∧ (∀ r ∈ g, (s.mem r).isSome) ∧
      ∀ ok' m'' θ'', Lets E m s w ok' g → ExtS (look mm') m'' → Grows θ' θ'' → Picked P w m s a ok' m'' θ'' ps x
  | [], x, θ, θ', g, mm, hs, hp => by
    simp only [pickAll, Option.some.injEq, Prod.mk.injEq] at hp
    obtain ⟨_, rfl, rfl⟩ := hp
    exact ⟨fun _ _ h => h, mm, hs, ExtS.refl _, by simp, fun ok' m'' θ'' _ _ _ => ⟨fun _ h0 => h0, fun R c hc => by simp [dynMem] at hc, fun R hR => by simp [dynMem] at hR⟩⟩
  | p :: ps, x, θ, θ', g, mm, hs, hp => by
    simp only [pickAll] at hp
    split at hp
    · simp at hp
    · rename_i y θ1 g1 h1
      split at hp
      · simp at hp
      · rename_i z θ2 g2 h2
        simp only [Option.some.injEq, Prod.mk.injEq] at hp
        obtain ⟨rfl, rfl, rfl⟩ := hp
        obtain ⟨gr1, mm1, h3, h4, h5, h6⟩ := pickOne_ok h hs h1
        obtain ⟨gr2, mm2, h7, h8, h9, h10⟩ := pickAll_ok h h3 h2
        refine ⟨fun R src hR => gr2 R src (gr1 R src hR), mm2, h7, h4.trans h8, fun r hr => ?_, fun ok' m'' θ'' hk he hθ => ?_⟩
        · rcases List.mem_append.1 hr with hr | hr
          · exact h5 r hr
          · exact h9 r hr
        · have A := h6 ok' m'' θ'' hk.left (h8.trans he) (fun R src hR => hθ R src (gr2 R src hR))
          have B := h10 ok' m'' θ'' hk.right he hθ
          rcases A.one with ⟨i, l, a1, a2, a3⟩ | ⟨R, c, a1, a2, a3, a4⟩
          · refine ⟨fun e0 h0 => ?_, ?_, ?_⟩
            · rw [a1]; exact B.env _ (envAt a3 h0)
            · rw [a2]; exact B.mem
            · rw [a2]; exact B.src
          · refine ⟨fun e0 h0 => ?_, fun R' c' hc => ?_, fun R' hc => ?_⟩
            · rw [a1]; exact B.env _ h0
            · rw [a2] at hc
              have hc : cond (Nat.beq R' R) (some c) (dynMem ps z R') = some c' := hc
              cases hb : Nat.beq R' R with
              | true =>
                rw [hb] at hc
                simp at hc; subst hc
                rw [Nat.eq_of_beq_eq_true hb]
                exact a3
              | false => rw [hb] at hc; exact B.mem R' c' hc
            · rw [a2] at hc
              have hc : (cond (Nat.beq R' R) (some c) (dynMem ps z R')).isSome := hc
              cases hb : Nat.beq R' R with
              | true => rw [Nat.eq_of_beq_eq_true hb]; exact a4
              | false => rw [hb] at hc; exact B.src R' hc
end
end Go.GG

/- What holds of a code anywhere holds of it in a round of a range over a function. -/
namespace Go.GG
open Go.RowKit
/-- The fence that lets everything through, in a round or out of one. -/
def wideAt (r : Option Nat) : Fence := { Fence.wide with round := r }
theorem wideAt_none : wideAt none = Fence.wide := rfl
theorem wideAt_some (l : Nat) : wideAt (some l) = Fence.wide.inRound l := rfl
theorem callsIn_at {r : Option Nat} {n : Nat} {P : Program} {f : FuncId} {args : Array Value} {w : World} {R : Ending → World → Prop} (h : Calls P f args w R) : CallsIn (wideAt r) n P f args w R := by
  have h1 : CallsIn Fence.wide n P f args w R := callsIn_wide.2 h
  exact h1
theorem rowsIn_at {r : Option Nat} {n : Nat} {P : Program} {row : String} {args : Array Value} {w : World} {R : Value → World → Prop} (h : Rows P row args w R) : RowsIn (wideAt r) n P row args w R := by
  have h1 : RowsIn Fence.wide n P row args w R := fun c cs _ => by
    obtain ⟨v, w', h1, h2⟩ := h c cs
    exact ⟨v, w', h1, stepsIn_wide.2 h2⟩
  exact h1
theorem op_at {r : Option Nat} {n : Nat} {P : Program} {o : Oper} {a : Act} {w : World} {K K' : Act → World → Prop} {Q : Exit → Act → World → Prop} (hd : r = none ∨ notDefer o.op = true) (hK : ∀ a w, K a w → K' a w)
    (h : o.wp P a w K Q) : o.wpIn (wideAt r) n P a w K' Q := by
  unfold Oper.wp at h
  unfold Oper.wpIn
  refine ⟨fun _ _ => trivial, ?_⟩
  have e : Oper.semAt (wideAt r).round a.eval o = execOp a.eval o := by
    rcases hd with rfl | hd
    · rfl
    · exact Oper.semAt_eq _ _ _ fun c hc => by rw [hc] at hd; cases hd
  rw [e]
  generalize (execOp a.eval o).run P w = res at *
  cases res with
  | ok x w' =>
    cases x <;> simp only [Oper.upon, Oper.uponIn] at h ⊢ <;>
      first
        | exact hK _ _ h
        | exact ⟨fun h => by simp [wideAt, Fence.wide] at h, (callsIn_at h).mono (fun e w'' he => by cases e <;> first | exact hK _ _ he | exact he)⟩
        | exact ⟨fun h => by simp [wideAt, Fence.wide] at h, (rowsIn_at h).mono (fun _ _ he => hK _ _ he)⟩
  | halt x w' => cases x <;> simp only [Oper.upon, Oper.uponIn] at h ⊢ <;> exact h
theorem wpOp_at {r : Option Nat} {n : Nat} {P : Program} {ops : Array Oper} {Q : Exit → Act → World → Prop} (hq : ¬ LetsOut Q) (hd : ∀ o ∈ ops.toList, r = none ∨ notDefer o.op = true) {i : Nat} {a : Act} {w : World} {K K' : Act → World → Prop}
    (hK : ∀ a w, K a w → K' a w) (h : wpOp P ops Q i K a w) : wpOpIn (wideAt r) n P ops Q i K' a w := by
  unfold wpOp at h
  unfold wpOpIn
  cases ho : ops[i]? with
  | none => rw [ho] at h; exact hK _ _ h
  | some o =>
    rw [ho] at h
    simp only at h ⊢
    split
    · rename_i hw
      rw [if_pos hw] at h
      rcases h with h | ⟨_, h⟩
      · exact op_at (hd o (by simpa using Array.mem_of_getElem? ho)) hK h
      · exact absurd h hq
    · rename_i hw
      rw [if_neg hw] at h
      exact ⟨fun _ _ => trivial, hK _ _ h⟩
theorem wpOps_at {r : Option Nat} {n : Nat} {P : Program} {ops : Array Oper} {Q : Exit → Act → World → Prop} (hq : ¬ LetsOut Q) (hd : ∀ o ∈ ops.toList, r = none ∨ notDefer o.op = true) :
    ∀ (l : List Nat) {a : Act} {w : World}, wpOps P ops Q l a w → wpOpsIn (wideAt r) n P ops Q l a w
  | [], a, w, h => h
  | i :: l, a, w, h => by
    rw [wpOps_cons] at h
    rw [wpOpsIn_cons]
    exact wpOp_at hq hd (fun a w h => wpOps_at hq hd l h) h
theorem wpAny_at {r : Option Nat} {n : Nat} {P : Program} {md : Region.Mode} {ops : Array Oper} {Q : Exit → Act → World → Prop} (hq : ¬ LetsOut Q) (hd : ∀ o ∈ ops.toList, r = none ∨ notDefer o.op = true) :
    ∀ (k : Nat) {l : Array Bool} {a : Act} {w : World}, wpAny P md ops Q k l a w → wpAnyIn (wideAt r) n P md ops Q k l a w
  | 0, _, a, w, h => h
  | k + 1, l, a, w, h => ⟨h.1, fun i hi => wpOp_at hq hd (fun a w h => wpAny_at hq hd k h) (h.2 i hi)⟩
end Go.GG

/- A state in a pattern's form stands for the same machine. -/
namespace Go.GG
open Go.RowKit
section
variable {τ : Tabs} {P : Program} {E : Entry} {s : St} {a : Act} {w : World}

theorem mem_olds : ∀ {θ : Sub} {R d : Nat}, θ.get R = some (.ref d) → d ∈ θ.olds
  | [], _, _, h => by simp [Sub.get] at h
  | (a, src) :: θ, R, d, h => by
    rw [sub_get_cons] at h
    split at h
    · simp at h; subst h; simp [Sub.olds]
    · have := mem_olds h
      cases src <;> simp [Sub.olds, this]
/-- Two names of one block are one name. -/
theorem olds_inj : ∀ {θ : Sub} {R R' d : Nat}, θ.olds.Nodup → θ.get R = some (.ref d) → θ.get R' = some (.ref d) → R = R'
  | [], _, _, _, _, h, _ => by simp [Sub.get] at h
  | (a, src) :: θ, R, R', d, hn, h, h' => by
    rw [sub_get_cons] at h h'
    have hn' : (Sub.olds θ).Nodup := by
      cases src <;> simp only [Sub.olds] at hn
      · exact (List.nodup_cons.1 hn).2
      · exact hn
      · exact hn
      · exact hn
    split at h <;> split at h'
    · omega
    · simp at h; subst h
      simp only [Sub.olds] at hn
      exact absurd (mem_olds h') (List.nodup_cons.1 hn).1
    · simp at h'; subst h'
      simp only [Sub.olds] at hn
      exact absurd (mem_olds h) (List.nodup_cons.1 hn).1
    · exact olds_inj hn' h h'
theorem get_mem : ∀ {θ : Sub} {R : Nat} {src : Src}, θ.get R = some src → (R, src) ∈ θ
  | [], _, _, h => by simp [Sub.get] at h
  | (a, s0) :: θ, R, src, h => by
    rw [sub_get_cons] at h
    split at h
    · rename_i e; subst e; simp at h; subst h; simp
    · simp [get_mem h]
theorem lentOk_get : ∀ {θ : Sub} {R : Nat} {src : Src}, lentOk θ = true → (R, src) ∈ θ → lentBase ≤ R → src = .ref R
  | [], _, _, _, h, _ => by simp at h
  | (a, s0) :: θ, R, src, hl, h, hb => by
    simp only [lentOk, Bool.and_eq_true] at hl
    cases h with
    | head =>
      have hb' : Nat.ble lentBase a = true := by rw [Nat.ble_eq]; exact hb
      cases s0 with
      | ref d =>
        have h1 := hl.1
        simp only [hb', Bool.true_or, cond_true] at h1
        rw [Nat.eq_of_beq_eq_true h1]
      | nil => have h1 := hl.1; simp [hb'] at h1
      | dnil => have h1 := hl.1; simp [hb'] at h1
      | full t xs => have h1 := hl.1; simp [hb'] at h1
    | tail _ h => exact lentOk_get hl.2 h hb
theorem coerce0_sound {p : Pat} {x : RD PE.den p.dyn} (hc : coerce0 p s = some x) (hr : Rel' P E s a w) : Rel' P E (p.state x) a w := by
  obtain ⟨m, h⟩ := hr
  unfold coerce0 at hc
  split at hc
  · simp at hc
  · rename_i θ0 hb
    split at hc
    · simp at hc
    · rename_i x' θ g hp
      cases hk : (nodup θ.olds && disjoint θ.olds g && (lentOk θ && θ.all fun q => (patRefs p.dyn).contains q.1)) with
      | false => rw [hk] at hc; simp at hc
      | true =>
        rw [hk] at hc
        simp at hc; subst hc
        simp only [Bool.and_eq_true, List.all_eq_true] at hk
        obtain ⟨⟨hn, hdj⟩, hlent, hkeys⟩ := hk
        have hnd : θ.olds.Nodup ∧ True ∧ ∀ d ∈ θ.olds, ∀ r ∈ g, d = r → False := ⟨nodup_iff hn, trivial, fun d hd r hr e => by
          subst e
          simp only [disjoint, List.all_eq_true] at hdj
          have := hdj d hd
          simp [hr] at this⟩
        obtain ⟨mm0, h1, _, h3⟩ := bindStats_ok h .nil hb
        obtain ⟨_, mm, h4, h5, h6, h7⟩ := pickAll_ok h h1 hp
        let m' := look mm
        let μ' := dynMem p.dyn x'
        -- what stands in the new map
        have back : ∀ {R i}, m' R = some i → ∃ src, θ.get R = some src ∧ SrcOk w (okOf E m s.mem w) m src i := fun hi => h4.back hi
        have ofBlock : ∀ {R i b}, m' R = some i → b ∈ i.blocks → ∃ d, θ.get R = some (.ref d) ∧ m d = some i := by
          intro R i b hi hbk
          obtain ⟨src, hg, hs⟩ := back hi
          cases src with
          | ref d => exact ⟨d, hg, hs⟩
          | nil => simp only [SrcOk] at hs; subst hs; simp [Impl.blocks] at hbk
          | dnil => simp only [SrcOk] at hs; subst hs; simp [Impl.blocks] at hbk
          | full t xs => simp only [SrcOk] at hs; obtain ⟨v, rfl, _⟩ := hs; simp [Impl.blocks] at hbk
        -- a block of the new state's is one of the old state's
        have alive : ∀ {b}, Vof m' μ' b → ∃ R d i, (μ' R).isSome ∧ θ.get R = some (.ref d) ∧ m d = some i ∧ b ∈ i.blocks ∧ (s.mem d).isSome := by
          rintro b ⟨R, c, i, hc, hi, hbk⟩
          obtain ⟨d, hg, hd⟩ := ofBlock hi hbk
          -- by the pattern's own word
          have : (s.mem d).isSome := by
            obtain ⟨src, hsrc, hal⟩ := (h7 (fun _ => True) m' θ ⟨fun _ _ => trivial, fun _ _ _ _ _ _ => trivial⟩ (ExtS.refl _) (fun _ _ h => h)).src R (by show (μ' R).isSome = true; rw [hc]; rfl)
            rw [hg] at hsrc; simp at hsrc; subst hsrc
            exact hal d rfl
          exact ⟨R, d, i, by rw [hc]; rfl, hg, hd, hbk, this⟩
        have vof : ∀ b, Vof m' μ' b → Vof m s.mem b := by
          intro b hv
          obtain ⟨R, d, i, _, _, hd, hbk, hal⟩ := alive hv
          obtain ⟨c, hc⟩ := Option.isSome_iff_exists.1 hal
          exact ⟨d, c, i, hc, hd, hbk⟩
        have inj : ∀ r r' i i' bl, (s.mem r).isSome → (s.mem r').isSome → m r = some i → m r' = some i' → bl ∈ i.blocks → bl ∈ i'.blocks → r = r' := by
          intro r r' i i' bl hr hr' hi hi' hb hb'
          obtain ⟨c, hc⟩ := Option.isSome_iff_exists.1 hr
          obtain ⟨c', hc'⟩ := Option.isSome_iff_exists.1 hr'
          exact h.inj r r' c c' i i' bl hc hc' hi hi' hb hb'
        have lets : Lets E m s w (okOf E m' μ' w) g := by
          refine ⟨fun b hb => ⟨hb.1, hb.2.1, fun hv => hb.2.2 (vof b hv)⟩, fun r hr i b hi hbk => ?_⟩
          obtain ⟨c, hc⟩ := Option.isSome_iff_exists.1 (h6 r hr)
          obtain ⟨i', h8, _, h9⟩ := h.mem r c hc
          rw [hi] at h8; simp at h8; subst h8
          refine ⟨(h9 b hbk).1, .inr (h9 b hbk).2, fun hv => ?_⟩
          obtain ⟨R, d, i', _, hg, hd, hbk', hal⟩ := alive hv
          have := inj r d i i' b (h6 r hr) hal hi hd hbk hbk'
          subst this
          exact hnd.2.2 _ (mem_olds hg) _ hr rfl
        have pk := h7 (okOf E m' μ' w) m' θ lets (ExtS.refl _) (fun _ _ h => h)
        refine ⟨m', pk.env _ (h3 _ _ h5), fun R c hc => ?_, fun R R' c c' i i' b hc hc' hi hi' hbk hbk' => ?_, fun R hR => ?_, fun R hR hl => ?_, h.goes, h.size, h.defers.keeps (fun b hb => ⟨⟨lets.old b hb.1, hb.2⟩, rfl⟩), fun R i hi => ?_, h.keep⟩
        · obtain ⟨i, h8, h9, h10⟩ := pk.mem R c hc
          refine ⟨i, h8, h9, fun b hbk => ?_⟩
          obtain ⟨d, hg, hd, hal⟩ := h10 b hbk
          obtain ⟨c', hc'⟩ := Option.isSome_iff_exists.1 hal
          obtain ⟨i', h11, _, h12⟩ := h.mem d c' hc'
          rw [hd] at h11; simp at h11; subst h11
          exact h12 b hbk
        · obtain ⟨i1, h8, _, h10⟩ := pk.mem R c hc
          rw [hi] at h8; simp at h8; subst h8
          obtain ⟨i2, h8, _, h10'⟩ := pk.mem R' c' hc'
          rw [hi'] at h8; simp at h8; subst h8
          obtain ⟨d, hg, hd, hal⟩ := h10 b hbk
          obtain ⟨d', hg', hd', hal'⟩ := h10' b hbk'
          have := inj d d' i i' b hal hal' hd hd' hbk hbk'
          subst this
          exact olds_inj hnd.1 hg hg'
        · cases hx : m' R with
          | none => exact absurd hx hR
          | some i =>
            obtain ⟨src, hg, _⟩ := back hx
            exact hkeys _ (get_mem hg)
        · obtain ⟨src, hg, hal⟩ := pk.src R hR
          have := lentOk_get hlent (get_mem hg) hl
          subst this
          obtain ⟨b, h8, h9⟩ := h.lent R (hal R rfl) hl
          obtain ⟨i, h10, h11⟩ := (h4.look (R := R)).2 hg
          simp only [SrcOk] at h11
          rcases h9 with h9 | ⟨bs, h9⟩
          · rw [h9] at h11; simp at h11; subst h11
            exact ⟨b, h8, .inl h10⟩
          · rw [h9] at h11; simp at h11; subst h11
            exact ⟨b, h8, .inr ⟨bs, h10⟩⟩
        · obtain ⟨src, _, hs⟩ := back hi
          cases src with
          | ref d => exact h.shape d i hs
          | nil => simp only [SrcOk] at hs; subst hs; exact ⟨_, _, _, rfl⟩
          | dnil => simp only [SrcOk] at hs; subst hs; exact ⟨List.nodup_nil, _, _, _, rfl⟩
          | full t xs => simp only [SrcOk] at hs; obtain ⟨v, rfl, _, A, rfl⟩ := hs; exact ⟨_, _, _, rfl⟩
theorem coerce_sound {p : Pat} {x : RD PE.den p.dyn} (hc : coerce p s = some x) (hr : Rel' P E s a w) : Rel' P E (p.state x) a w := by
  obtain ⟨m, h⟩ := hr
  exact coerce0_sound hc (settles_rel h)
/-- What a part leaves by is what is gone on with. -/
theorem leave_dispatch {R : Type} {K : AE → St → Option R} {r : R} {e : AE} : ∀ {outs : List (AE × Pat)} {o : OD outs}, leave outs e s = some o → dispatch outs o K = some r → Rel' P E s a w →
    ∃ s', K e s' = some r ∧ Rel' P E s' a w
  | [], o, h, _, _ => by simp [leave] at h
  | [o1], o, h, hd, hr => by
    simp only [leave] at h
    split at h
    · rename_i he
      subst he
      exact ⟨_, hd, coerce_sound h hr⟩
    · simp at h
  | o1 :: o2 :: outs, o, h, hd, hr => by
    simp only [leave] at h
    split at h
    · rename_i he
      subst he
      split at h
      · rename_i x hx
        simp at h; subst h
        exact ⟨_, hd, coerce_sound hx hr⟩
      · simp at h
    · split at h
      · rename_i y hy
        simp at h; subst h
        exact leave_dispatch (outs := o2 :: outs) hy hd hr
      · simp at h

/-! ### The code -/
def AE.out : AE → Exit
  | .normal => .normal
  | .exit id => .exit id
  | .ret => .ret
theorem dsts_spec {N : Nat} : ∀ {l : List Oper}, dstsOk N l = true → ∀ o ∈ l, ∀ n, o.dst = some n → n < N
  | [], _, o, ho, _, _ => by simp at ho
  | o1 :: l, h, o, ho, n, hn => by
    simp only [dstsOk, Bool.and_eq_true] at h
    cases ho with
    | head => rw [hn] at h; exact Nat.le_of_ble_eq_true h.1
    | tail _ ho => exact dsts_spec h.2 o ho n hn
theorem numbered_mem : ∀ {l : List Oper} {i j : Nat} {o : Oper}, l[j]? = some o → (i + j, o) ∈ numbered i l
  | [], _, _, _, h => by simp at h
  | o1 :: l, i, j, o, h => by
    cases j with
    | zero => simp at h; subst h; simp [numbered]
    | succ j =>
      simp only [List.getElem?_cons_succ] at h
      have := numbered_mem (i := i + 1) h
      simp only [numbered, List.mem_cons]
      right
      have e : i + 1 + j = i + (j + 1) := by omega
      rw [← e]; exact this
theorem tmps_spec {ops : Array Oper} {b : Array Nat} : ∀ {l : List Oper} {n : Nat}, tmpsOk ops b (numbered n l) = true → ∀ (j i : Nat) (oj oi : Oper), j < i → l[j]? = some oj → l[i]? = some oi →
    oj.apart ops oi = true ∨ (b.getD (n + i) 0).testBit (n + j) = true
  | [], _, _, j, i, oj, oi, _, h, _ => by simp at h
  | o1 :: l, n, h, j, i, oj, oi, hji, hj, hi => by
    simp only [numbered, tmpsOk, Bool.and_eq_true, List.all_eq_true, Bool.or_eq_true] at h
    cases i with
    | zero => omega
    | succ i =>
      simp only [List.getElem?_cons_succ] at hi
      cases j with
      | zero =>
        simp at hj; subst hj
        have := h.1 _ (numbered_mem (i := n + 1) hi)
        simp only at this
        have e : n + 1 + i = n + (i + 1) := by omega
        rw [e] at this
        exact this
      | succ j =>
        simp only [List.getElem?_cons_succ] at hj
        have := tmps_spec h.2 j i oj oi (by omega) hj hi
        have e : n + 1 + i = n + (i + 1) := by omega
        have e' : n + 1 + j = n + (j + 1) := by omega
        rw [e, e'] at this
        exact this
theorem edges_spec : ∀ {l : List Oper} {n : Nat}, edgesOk (numbered n l) = true → ∀ (i : Nat) (o : Oper) (e : Edge), l[i]? = some o → e ∈ o.after.toList → Region.binds .any e = true → e.on < n + i
  | [], _, _, i, o, e, h, _, _ => by simp at h
  | o1 :: l, n, h, i, o, e, hi, he, hb => by
    simp only [numbered, edgesOk, Bool.and_eq_true, List.all_eq_true, Bool.or_eq_true] at h
    cases i with
    | zero =>
      simp at hi; subst hi
      rcases h.1 e he with h1 | h1
      · rw [hb] at h1; simp at h1
      · exact Nat.le_of_ble_eq_true h1
    | succ i =>
      simp only [List.getElem?_cons_succ] at hi
      have := edges_spec h.2 i o e hi he hb
      omega
theorem Rel'.drawn (h : Rel' P E s a w) : Rel' P E s a { w with drawn := w.drawn + 1 } := by
  obtain ⟨m, h⟩ := h
  exact ⟨m, h.grow (w' := { w with drawn := w.drawn + 1 }) ⟨rfl, rfl, rfl, Nat.le_refl _, fun _ _ => rfl⟩⟩
theorem region_sound {tab : Tab} (hT : TabOk P tab) {Γ : Env} (hΓ : EnvOk P Γ) (hm : P.follows .mixedOrders = true) {k id : Nat} {ops : Array Oper} {draw : Bool} {R : Type} {K : St → Option R} {r : R} {Q : Exit → Act → World → Prop} {ro : Option Nat} {d : Nat}
    (hreg : regionsOk E.N (.region id ops draw) = true) (hkeep : ∀ t ∈ dstsC (.region id ops draw), E.keep t = none) (hpl : ro = none ∨ plainC (.region id ops draw) = true) (hout : ∀ a w, ¬ Q .outgrown a w)
    (he : regionA tab Γ k ops draw s K = some r) (h : Rel' P E s a w) (hQ : ∀ s' a' w', K s' = some r → Rel' P E s' a' w' → Q .normal a' w') : (Code.region id ops draw).wpIn (wideAt ro) d P Q a w := by
  simp only [regionsOk, Bool.and_eq_true] at hreg
  have hd : ∀ (i : Nat) (o : Oper), ops[i]? = some o → ∀ n, o.dst = some n → E.may n := fun i o ho n hn =>
    ⟨dsts_spec hreg.1 o (by simpa using Array.mem_of_getElem? ho) n hn, hkeep n (by
      simp only [dstsC, List.mem_filterMap]
      exact ⟨o, by simpa using Array.mem_of_getElem? ho, hn⟩)⟩
  have hq : ¬ LetsOut Q := fun ⟨a, w, h⟩ => hout a w h
  have hnd : ∀ o ∈ ops.toList, ro = none ∨ notDefer o.op = true := fun o ho => hpl.imp (fun h => h) fun h => by
    simp only [plainC, List.all_eq_true] at h
    exact h o ho
  unfold regionA at he
  obtain ⟨gs, sf, h1, h2⟩ := opsA_run (ops := ops) (rest := ops.toList) (fun j => by simp) he
  have hl : List.range' 0 ops.toList.length = List.range ops.size := by rw [List.range_eq_range']; simp
  rw [hl] at h1
  cases draw with
  | false => exact wpIn_region (wpOps_at hq hnd _ (run_wpOps hT hΓ hd h1 h fun a' w' h' => hQ sf a' w' h2 h'))
  | true =>
    simp only [List.append_nil] at h2
    cases hf : footsOk (Region.before ops) gs.reverse with
    | false => rw [hf] at h2; simp at h2
    | true =>
      rw [hf] at h2
      have hreg2 := hreg.2
      simp only [Bool.not_true, Bool.false_or, Bool.and_eq_true] at hreg2
      have hfree := footsOk_free hf
      rw [List.reverse_reverse] at hfree
      have hleft : left ops (Array.replicate ops.size false) = List.range ops.size := by
        unfold left
        apply List.filter_eq_self.2
        intro i hi
        have := List.mem_range.1 hi
        simp [this]
      refine wpIn_region_any hm (wpAny_at hq hnd _ (any_sound hT hΓ hd ?_ ?_ (sf := sf) (fun a' w' h' => hQ sf a' w' h2 h') ops.size _ s gs a _ (by rw [hleft]; simp) (by rw [hleft]; exact h1) hfree ?_ h.drawn))
      · intro j i oj oi hji hj hi
        have := tmps_spec hreg2.1 j i oj oi hji (by simpa using hj) (by simpa using hi)
        simpa using this
      · intro i o e ho he' hb
        have := edges_spec hreg2.2 i o e (by simpa using ho) he' hb
        omega
      · intro i o e _ hi _ _
        simp at hi
        by_cases hlt : i < ops.size
        · simp [hlt] at hi
        · simp [hlt] at hi
end
end Go.GG

/- A range over a function: the caller's side. -/
namespace Go.GG
open Go.RowKit
section
variable {τ : Tabs} {P : Program}
/-- What stands for a machine stands for it as another entry sees it. -/
theorem Rel.shiftK {E : Entry} {m : IMap} {s : St} {a : Act} {w : World} (h : Rel P E m s a w) {E2 : Entry} {a2 : Act} {w2 : World}
    (hk : Keeps w w2 (okOf E m s.mem w) (okOf E2 m s.mem w2))
    (hown : ∀ b, Vof m s.mem b → b < w2.heap.size ∧ (E2.V0 b ∨ E2.w0.heap.size ≤ b) ∧ w2.heap[b]? = w.heap[b]?)
    (hlent : E2.lent = E.lent) (hgoes : Goes E2.V0 E2.w0 w2) (henv : ∀ t, s.env t = .unk ∨ a2.tmps.getD t undef = a.tmps.getD t undef) (hsize : a2.tmps.size = E2.N)
    (hdef : Marks (fun b => okOf E2 m s.mem w2 b ∧ E2.low ≤ b) w2 a2.defers) (hkeep : ∀ t v, E2.keep t = some v → a2.tmps.getD t undef = v) : Rel P E2 m s a2 w2 := by
  refine ⟨fun t => ?_, fun r c hc => ?_, h.inj, h.used, fun r hr hb => ?_, hgoes, hsize, hdef, h.shape, hkeep⟩
  · rcases henv t with e | e
    · rw [e]; trivial
    · rw [e]; exact (h.env t).mono hk (Ext.refl m)
  · obtain ⟨i, h1, h2, h3⟩ := h.mem r c hc
    have hv : ∀ b, b ∈ i.blocks → Vof m s.mem b := fun b hb => ⟨r, c, i, hc, h1, hb⟩
    exact ⟨i, h1, h2.mono hk (Ext.refl m) (fun b hb => (hown b (hv b hb)).2.2), fun b hb => ⟨(hown b (hv b hb)).1, (hown b (hv b hb)).2.1⟩⟩
  · rw [hlent]; exact h.lent r hr hb
theorem Rel.shift {E : Entry} {m : IMap} {s : St} {a : Act} {w : World} (h : Rel P E m s a w) {E2 : Entry} {a2 : Act} {w2 : World}
    (hok : ∀ b, okOf E m s.mem w b → okOf E2 m s.mem w2 b ∧ w2.heap[b]? = w.heap[b]?)
    (hown : ∀ b, Vof m s.mem b → b < w2.heap.size ∧ (E2.V0 b ∨ E2.w0.heap.size ≤ b) ∧ w2.heap[b]? = w.heap[b]?)
    (hlent : E2.lent = E.lent) (hgoes : Goes E2.V0 E2.w0 w2) (henv : ∀ t, s.env t = .unk ∨ a2.tmps.getD t undef = a.tmps.getD t undef) (hsize : a2.tmps.size = E2.N)
    (hdef : Marks (fun b => okOf E2 m s.mem w2 b ∧ E2.low ≤ b) w2 a2.defers) (hkeep : ∀ t v, E2.keep t = some v → a2.tmps.getD t undef = v) : Rel P E2 m s a2 w2 :=
  h.shiftK (Keeps.of hok) hown hlent hgoes henv hsize hdef hkeep
/-- What lies outside of the loop's own record and of the deferred calls' block. -/
def outer (E : Entry) (l D b : Nat) : Prop := b ≠ l ∧ b ≠ D ∧ (E.ok0 b ∨ E.V0 b ∨ E.w0.heap.size ≤ b)
def loopE (E : Entry) (l D : Nat) (kp : Nat → Option Value) (W : World) (V : Nat → Prop) (hf : Tabs.fine W fun b => outer E l D b ∧ ¬ V b) : Entry :=
  { w0 := W, ok0 := outer E l D, V0 := V, lent := E.lent, N := E.N, keep := kp, low := 0, lowOk := Nat.zero_le _, fine := hf }
/-- What is so all through the loop. -/
structure Outs (E : Entry) (l D : Nat) (ok : Nat → Prop) (w : World) (V : Nat → Prop) (W : World) : Prop where
  base : E.w0.heap.size ≤ l ∧ E.w0.heap.size ≤ D
  own : ∀ b, V b → b ≠ l ∧ b ≠ D ∧ (E.V0 b ∨ E.w0.heap.size ≤ b)
  goes : Goes E.V0 E.w0 W
  lt : l < W.heap.size ∧ D < W.heap.size
  okl : ∀ b, ok b → b < W.heap.size ∧ b ≠ l ∧ b ≠ D ∧ W.heap[b]? = w.heap[b]? ∧ ¬ V b
section
variable {E : Entry} {l D : Nat} {ok : Nat → Prop} {w W W1 : World} {V : Nat → Prop} {kp : Nat → Option Value} {hf : Tabs.fine W fun b => outer E l D b ∧ ¬ V b} {m : IMap} {s : St} {a : Act}
theorem Outs.fresh (h : Outs E l D ok w V W) {b : Nat} (hb : W.heap.size ≤ b) : b ≠ l ∧ b ≠ D ∧ E.w0.heap.size ≤ b := ⟨by have := h.lt.1; omega, by have := h.lt.2; omega, Nat.le_trans h.goes.size hb⟩
theorem Outs.vof (h : Outs E l D ok w V W) (hr : Rel P (loopE E l D kp W V hf) m s a W1) {b : Nat} (hb : Vof m s.mem b) : b < W1.heap.size ∧ (V b ∨ W.heap.size ≤ b) := by
  obtain ⟨r, c, i, h1, h2, h3⟩ := hb
  obtain ⟨i', h4, _, h5⟩ := hr.mem r c h1
  rw [h2] at h4
  obtain rfl := Option.some.inj h4
  exact h5 b h3
theorem Outs.isOuter (h : Outs E l D ok w V W) {b : Nat} (hb : (loopE E l D kp W V hf).ok0 b ∨ (loopE E l D kp W V hf).V0 b ∨ (loopE E l D kp W V hf).w0.heap.size ≤ b) : outer E l D b := by
  rcases hb with hb | hb | hb
  · exact hb
  · obtain ⟨h1, h2, h3⟩ := h.own b hb
    exact ⟨h1, h2, h3.elim (fun h => .inr (.inl h)) fun h => .inr (.inr h)⟩
  · obtain ⟨h1, h2, h3⟩ := h.fresh hb
    exact ⟨h1, h2, .inr (.inr h3)⟩
/-- Behind a step of the loop's code, its record turned. -/
theorem Outs.step (h : Outs E l D ok w V W) (hr : Rel P (loopE E l D kp W V hf) m s a W1) (o : Obj) : Outs E l D ok w (Vof m s.mem) (W1.putObj l o) := by
  have hl : ∀ b, b ≠ l → (W1.putObj l o).heap[b]? = W1.heap[b]? := fun b hb => World.putObj_heap_other hb
  have hg := hr.goes
  refine ⟨h.base, fun b hb => ?_, ?_, ?_, fun b hb => ?_⟩
  · rcases (h.vof hr hb).2 with hv | hv
    · exact h.own b hv
    · obtain ⟨h1, h2, h3⟩ := h.fresh hv
      exact ⟨h1, h2, .inr h3⟩
  · refine ⟨hg.os.trans h.goes.os, hg.tape.trans h.goes.tape, hg.output.trans h.goes.output, ?_, fun b hb hv => ?_⟩
    · rw [World.putObj_size]; exact Nat.le_trans h.goes.size hg.size
    · rw [hl b (by have := h.base.1; omega)]
      refine (hg.block b (Nat.lt_of_lt_of_le hb h.goes.size) fun hV => ?_).trans (h.goes.block b hb hv)
      rcases (h.own b hV).2.2 with h1 | h1
      · exact hv h1
      · omega
  · rw [World.putObj_size]; exact ⟨Nat.lt_of_lt_of_le h.lt.1 hg.size, Nat.lt_of_lt_of_le h.lt.2 hg.size⟩
  · obtain ⟨h1, h2, h3, h4, h5⟩ := h.okl b hb
    refine ⟨by rw [World.putObj_size]; exact Nat.lt_of_lt_of_le h1 hg.size, h2, h3, ?_, fun hv => ?_⟩
    · rw [hl b h2]; exact (hg.block b h1 h5).trans h4
    · rcases (h.vof hr hv).2 with hv | hv
      · exact h5 hv
      · have : W.heap.size ≤ b := hv
        omega
theorem Outs.fineAt (h : Outs E l D ok w V W) (hr : Rel P (loopE E l D kp W V hf) m s a W1) (o : Obj) : Tabs.fine (W1.putObj l o) fun b => outer E l D b ∧ ¬ Vof m s.mem b :=
  hr.fine.keeps (Keeps.of fun b hb => ⟨⟨h.isOuter hb.2.1, hb.2.2⟩, World.putObj_heap_other (h.isOuter hb.2.1).1⟩)
theorem Outs.relAt (h : Outs E l D ok w V W) (hr : Rel P (loopE E l D kp W V hf) m s a W1) (o : Obj) {a2 : Act} (henv : ∀ t, s.env t = .unk ∨ a2.tmps.getD t undef = a.tmps.getD t undef) (hsize : a2.tmps.size = E.N) (hdef : a2.defers = a.defers ∨ a2.defers = [])
    (hkeep : ∀ t v, kp t = some v → a2.tmps.getD t undef = v) : Rel P (loopE E l D kp (W1.putObj l o) (Vof m s.mem) (h.fineAt hr o)) m s a2 (W1.putObj l o) := by
  refine hr.shift (fun b hb => ⟨⟨by rw [World.putObj_size]; exact hb.1, .inl (h.isOuter hb.2.1), hb.2.2⟩, World.putObj_heap_other (h.isOuter hb.2.1).1⟩)
    (fun b hb => ⟨by rw [World.putObj_size]; exact (h.vof hr hb).1, .inl hb, World.putObj_heap_other ((h.step hr o).own b hb).1⟩) rfl (Goes.refl _ _) henv hsize (by
      rcases hdef with e | e
      · rw [e]
        exact hr.defers.keeps fun b hb => ⟨⟨⟨by rw [World.putObj_size]; exact hb.1.1, .inl (h.isOuter hb.1.2.1), hb.1.2.2⟩, Nat.zero_le _⟩, World.putObj_heap_other (h.isOuter hb.1.2.1).1⟩
      · rw [e]; exact Marks.nil) hkeep
/-- The loop's record and the deferred calls' block stand while the code runs. -/
theorem Outs.stand (h : Outs E l D ok w V W) (hr : Rel P (loopE E l D kp W V hf) m s a W1) : W1.heap[l]? = W.heap[l]? ∧ W1.heap[D]? = W.heap[D]? :=
  ⟨hr.goes.block l h.lt.1 fun hv => (h.own l hv).1 rfl, hr.goes.block D h.lt.2 fun hv => (h.own D hv).2.1 rfl⟩
end
/-- What is proved of a code. -/
def Sound (P : Program) (tab : Tab) (Γ : Env) (Λ : Parts) (c : Code) (n : Nat) : Prop :=
  ∀ (k d : Nat) (r : Option Nat) (E : Entry), regionsOk E.N c = true → (∀ t ∈ dstsC c, E.keep t = none) → (r = none ∨ plainC c = true) →
    ∀ {R : Type} {K : AE → St → Option R} {y : R} {s : St} {a : Act} {w : World} {Q : Exit → Act → World → Prop}, aexec tab Γ Λ k n c s K = some y → Rel' P E s a w → (∀ a w, ¬ Q .outgrown a w) →
      (∀ e s' a' w', K e s' = some y → Rel' P E s' a' w' → Q e.out a' w') → c.wpIn (wideAt r) d P Q a w
theorem dynEnv_unk : ∀ {ps : List PE} {x : RD PE.den ps} {e : Nat → L} {t : Nat}, t ∉ dynTemps ps → dynEnv ps x e t = e t
  | [], _, _, _, _ => rfl
  | p :: ps, x, e, t, h => by
    have cut : ∀ {i : Nat} {l l' : L}, t ≠ i → cond (Nat.beq t i) l l' = l' := fun {i l l'} hne => by
      cases hb : Nat.beq t i with
      | false => rfl
      | true => exact absurd (Nat.eq_of_beq_eq_true hb) hne
    cases p <;> simp only [dynTemps, List.mem_cons, not_or] at h <;> simp only [dynEnv] <;> first
      | (rw [dynEnv_unk h.2]; exact cut h.1)
      | exact dynEnv_unk h
theorem statEnv_unk : ∀ {l : List (Nat × L)} {t : Nat}, t ∉ l.map (·.1) → statEnv l t = .unk
  | [], _, _ => rfl
  | (i, v) :: r, t, h => by
    simp only [List.map_cons, List.mem_cons, not_or] at h
    simp only [statEnv]
    cases hb : Nat.beq t i with
    | false => exact statEnv_unk h.2
    | true => exact absurd (Nat.eq_of_beq_eq_true hb) h.1
theorem state_unk {p : Pat} {x : RD PE.den p.dyn} {t : Nat} (h : t ∉ patTemps p) : (p.state x).env t = .unk := by
  simp only [patTemps, List.mem_append, not_or] at h
  show dynEnv p.dyn x (statEnv p.stat) t = .unk
  rw [dynEnv_unk h.1, statEnv_unk h.2]
end
end Go.GG

/- A range over a list from its end, by the closure's contract and one round's soundness. -/
namespace Go.GG
open Go.RowKit
section
variable {τ : Tabs} {P : Program} {tab : Tab} {Γ : Env} {Λ : Parts}
theorem backOk_of {g : FuncId} {sp : FSpec} {t : T} (h : RowOk P g sp) (hps : sp.ps = [.iter t]) : Runs P g ∧ ∃ rs F, BackOk P g ⟨[.iter t], rs, F⟩ := by
  obtain ⟨hr, ⟨t', F, rfl, _⟩ | ⟨g', rs0, F, rfl, _⟩ | ⟨g', F, rfl, _⟩ | ⟨rs0, F, rfl, _⟩ | hb⟩ := h
  · cases hps
  · cases hps
  · cases hps
  · cases hps
  · refine ⟨hr, ?_⟩
    have hb' := hb
    obtain ⟨t', rs, F, rfl, _⟩ := hb'
    simp only [List.cons.injEq, PK.iter.injEq, and_true] at hps
    subst hps
    exact ⟨rs, F, hb⟩
theorem cells_alloc {w : World} {o : Obj} {b : Nat} (h : b < w.heap.size) : (w.alloc o).heap[b]? = w.heap[b]? := Below.heap_alloc w o b h
theorem range_sound0 (hΓ : EnvOk P Γ) {n : Nat} {assign body : Code} {p : Pat} {t : T} {g gt p0 p1 : Nat} {get : RD PE.den p.dyn → List t.den} {B : Nat → Nat → t.den → RD PE.den p.dyn → Option (RD PE.den p.dyn)} {sp : FSpec}
    (hsp : sp ∈ Γ g) (hspp : sp.ps = [.iter t]) (hget : ∀ x, (p.state x).env gt = .val (.box g (.slice t)) (get x)) (hB' : ∀ k i e x, B k i e x = roundA tab Γ Λ k n assign body p p0 p1 t i e x) (hfine : rangeFine p p0 p1 assign body = true)
    (hA : Sound (τ := τ) P tab Γ Λ assign (n + 1)) (hB : Sound (τ := τ) P tab Γ Λ body (n + 1 + nodes assign))
    {k d : Nat} {E : Entry} (hreg : regionsOk E.N (.rangeFunc (.tmp gt) #[p0, p1] assign body) = true) {z o : RD PE.den p.dyn} (hlen : (get z).length ≤ 4611686018427387904) (ho : backN (B k) (get z) (get z).length z = some o) {R : Type} {K : AE → St → Option R} {y : R} (hd : K .normal (p.state o) = some y)
    {a : Act} {w : World} (hr : Rel' P E (p.state z) a w) {Q : Exit → Act → World → Prop} (hQ : ∀ e s' a' w', K e s' = some y → Rel' P E s' a' w' → Q e.out a' w') : (Code.rangeFunc (.tmp gt) #[p0, p1] assign body).wpIn Fence.wide d P Q a w := by
  obtain ⟨m, h⟩ := hr
  have hv := h.env gt
  have hgz : (p.state z).env gt = .val (.box g (.slice t)) (get z) := hget z
  rw [hgz] at hv
  have hv0 := hv
  simp only [LRep, T.holds] at hv
  obtain ⟨b, C, e, fr, ds, hv1, hbok, hbh, hds, hdj⟩ := hv
  simp only [List.cons.injEq, and_true] at hv1
  obtain ⟨hruns, rs, F, t', rs', F', heq, hbk⟩ := backOk_of ((hΓ g sp hsp).2 (by unfold FSpec.row; rw [hspp])) hspp
  simp only [FSpec.mk.injEq, List.cons.injEq, PK.iter.injEq, and_true] at heq
  obtain rfl := heq.1
  clear heq
  simp only [rangeFine, Bool.and_eq_true, List.all_eq_true] at hfine
  obtain ⟨hne, hpa, hpb, hpt⟩ := hfine
  simp only [regionsOk, Bool.and_eq_true] at hreg
  obtain ⟨hps, hra, hrb⟩ := hreg
  have hp0 : p0 < E.N ∧ p1 < E.N := by
    have := hps
    simp [Nat.blt_eq] at this
    exact this
  obtain ⟨kp, hkp⟩ : ∃ kp : Nat → Option Value, kp = fun t => if (p0 :: p1 :: (dstsC assign ++ dstsC body)).contains t then none else some (a.tmps.getD t undef) := ⟨_, rfl⟩
  have hkn : ∀ t, t ∈ p0 :: p1 :: (dstsC assign ++ dstsC body) → kp t = none := fun t ht => by
    rw [hkp]
    exact if_pos (by simpa using ht)
  have hks : ∀ t v, kp t = some v → a.tmps.getD t undef = v := fun t v hv => by
    rw [hkp] at hv
    dsimp only at hv
    split at hv
    · cases hv
    · exact Option.some.inj hv
  have hkt : ∀ t, t ∈ patTemps p → kp t = some (a.tmps.getD t undef) := fun t ht => by
    rw [hkp]
    have := hpt t ht
    simp only [Bool.not_eq_true'] at this
    exact if_neg (by rw [this]; simp)
  refine wpIn_rangeFunc (F := Fence.wide) ?_
  intro fn hfn
  obtain ⟨rec, hrec⟩ : ∃ rec : LoopState → Option Code → Loop, rec = fun st pe => { state := st, pending := pe, fn, tmps := a.tmps, params := #[p0, p1], assign, body, defers := w.heap.size } := ⟨_, rfl⟩
  obtain ⟨W1, hW1⟩ : ∃ W1, (w.alloc (.deferred (some []))).alloc (.loop (rec .ready none)) = W1 := ⟨_, rfl⟩
  obtain ⟨D, hD⟩ : ∃ D, w.heap.size = D := ⟨_, rfl⟩
  obtain ⟨l, hl⟩ : ∃ l, D + 1 = l := ⟨_, rfl⟩
  have hlD : l = w.heap.size + 1 := by omega
  have hs1 : W1.heap.size = D + 2 := by rw [← hW1, World.size_alloc, World.size_alloc, hD]
  have hL1 : W1.heap[l]? = some (.loop (rec .ready none)) := by
    rw [← hW1, hlD]; have := World.alloc_heap_new (w.alloc (.deferred (some []))) (.loop (rec .ready none)); rwa [World.size_alloc] at this
  have hK1 : W1.heap[D]? = some (.deferred (some [])) := by
    rw [← hW1, ← hD]; exact (cells_alloc (by simp)).trans (World.alloc_heap_new w _)
  have hold : ∀ b, b < D → W1.heap[b]? = w.heap[b]? := fun b hb => by
    rw [← hW1, cells_alloc (by rw [World.size_alloc]; omega), cells_alloc (by omega)]
  have hx1 : W1.os = w.os ∧ W1.tape = w.tape ∧ W1.output = w.output := by rw [← hW1]; exact ⟨rfl, rfl, rfl⟩
  have hsz := h.goes.size
  have vofw : ∀ {b}, Vof m (p.state z).mem b → b < D ∧ (E.V0 b ∨ E.w0.heap.size ≤ b) := by
    rintro b ⟨r, c, i, h1, h2, h3⟩
    obtain ⟨i', h4, _, h5⟩ := h.mem r c h1
    rw [h2] at h4
    obtain rfl := Option.some.inj h4
    exact ⟨by rw [← hD]; exact (h5 b h3).1, (h5 b h3).2⟩
  have okw : ∀ {b}, okOf E m (p.state z).mem w b → b < D := fun hb => by rw [← hD]; exact hb.1
  have outs1 : Outs E l D (okOf E m (p.state z).mem w) w (Vof m (p.state z).mem) W1 := by
    refine ⟨⟨by omega, by omega⟩, fun b hb => ⟨by have := (vofw hb).1; omega, by have := (vofw hb).1; omega, (vofw hb).2⟩, ⟨hx1.1.trans h.goes.os, hx1.2.1.trans h.goes.tape, hx1.2.2.trans h.goes.output, by omega, fun b hb hv => (hold b (by omega)).trans (h.goes.block b hb hv)⟩, ⟨by omega, by omega⟩, fun b hb => ?_⟩
    have := okw hb
    exact ⟨by omega, by omega, by omega, hold b this, hb.2.2⟩
  have fine1 : Tabs.fine W1 fun b => outer E l D b ∧ ¬ Vof m (p.state z).mem b := h.fine.keeps (Keeps.of fun b hb => by
    have := okw hb
    exact ⟨⟨⟨by omega, by omega, hb.2.1⟩, hb.2.2⟩, hold b this⟩)
  have rel1 : Rel P (loopE E l D kp W1 (Vof m (p.state z).mem) fine1) m (p.state z) { tmps := a.tmps, defers := [] } W1 := by
    refine h.shift (fun b hb => ?_) (fun b hb => ?_) rfl (Goes.refl _ _) (fun t => .inr rfl) h.size Marks.nil hks
    · have := okw hb
      exact ⟨⟨by omega, .inl ⟨by omega, by omega, hb.2.1⟩, hb.2.2⟩, hold b this⟩
    · have := (vofw hb).1
      exact ⟨by omega, .inl hb, hold b this⟩
  have hshow : ∀ {W : World} {V : Nat → Prop}, Outs E l D (okOf E m (p.state z).mem w) w V W → ∀ {t : T} {x : t.den} {cs : List Value}, t.holds w (okOf E m (p.state z).mem w) x cs → t.holds W (okOf E m (p.state z).mem w) x cs := by
    intro W V ho t x cs hh
    exact T.holds_mono (Keeps.of fun b hb => ⟨hb, (ho.okl b hb).2.2.2.1⟩) hh
  refine ⟨l, [{ target := .collected D, args := #[] }], W1, { target := .fn (.func g) #[.pointer (some ⟨b, 0, none⟩)], args := #[.func (.yield l) #[] #[]] }, W1, g,
    #[.func (.yield l) #[] #[]] ++ #[.pointer (some ⟨b, 0, none⟩)], W1, ?_, ?_, ?_, ?_, fun hh => by simp [Fence.wide] at hh, ?_⟩
  · rw [← hW1, hrec, hlD, ← hD]; exact run_enterLoop_outer _ _ _ _ _
  · have hg : a.eval (.tmp gt) = .func (.func g) #[] #[.pointer (some ⟨b, 0, none⟩)] := hv1
    simp only [resolve, hg]
    simp [go_sem]
  · intro f' _; trivial
  · simp [invoke, go_sem, run_callFunc hruns]
  refine callsIn_wide.2 ((hbk l b (okOf E m (p.state z).mem w) (get z) (fun i W => ∃ (x : RD PE.den p.dyn) (m' : IMap) (hf : Tabs.fine W fun b => outer E l D b ∧ ¬ Vof m' (p.state x).mem b),
      backN (B k) (get z) i x = some o ∧ W.heap[l]? = some (.loop (rec .ready none)) ∧ W.heap[D]? = some (.deferred (some [])) ∧ Rel P (loopE E l D kp W (Vof m' (p.state x).mem) hf) m' (p.state x) { tmps := a.tmps, defers := [] } W ∧
      Outs E l D (okOf E m (p.state z).mem w) w (Vof m' (p.state x).mem) W) W1 hlen ?_ ?_ ?_ ⟨z, m, fine1, ho, hL1, hK1, rel1, outs1⟩).mono ?_)
  · rintro i W ⟨x, m', hf, _, _, _, _, outs⟩
    refine hshow outs ?_
    have : [a.tmps.getD gt undef] = [Value.func (.func g) #[] #[.pointer (some ⟨b, 0, none⟩)]] := by rw [hv1]
    rw [← this]
    exact hv0
  · rintro i W dr ⟨x, m', hf, h1, h2, h3, h4, h5⟩
    refine ⟨x, m', hf, h1, h2, h3, ?_, ⟨h5.base, h5.own, ⟨h5.goes.os, h5.goes.tape, h5.goes.output, h5.goes.size, h5.goes.block⟩, h5.lt, h5.okl⟩⟩
    refine h4.shift (fun b hb => ⟨⟨hb.1, .inl (h5.isOuter hb.2.1), hb.2.2⟩, rfl⟩) (fun b hb => ⟨(h5.vof h4 hb).1, .inl hb, rfl⟩) rfl (Goes.refl _ _) (fun t => .inr rfl) h.size Marks.nil hks
  · rintro i x0 W cs hxi ⟨x, m', hf, hbn, hlW, hDW, hrel, houts⟩ hcs
    simp only [backN, hxi, Option.bind_some] at hbn
    obtain ⟨x1, hx1, hbn1⟩ := Option.bind_eq_some_iff.1 hbn
    rw [hB'] at hx1
    unfold roundA at hx1
    have hy := run_yield (P := P) (args := #[.int .i64 (i : Int), .agg cs.toArray]) hlW (by rw [hrec]; rfl)
    rw [hrec] at hy
    refine ⟨fn, _, assign, body, hy, roundIn_of_wpIn (n := 0) trivial ?_⟩
    refine hA k 0 (some l) (loopE E l D kp W (Vof m' (p.state x).mem) hf) hra (fun t ht => hkn t (by simp [ht])) (.inr hpa) hx1 ⟨m', ?_⟩ (fun _ _ h => h) ?_
    · have e1 := hrel.put (d := some p0) (l := .val (.int .i64) (i : Int)) (v := .int .i64 (i : Int)) rfl (fun n hn => by cases hn; exact ⟨hp0.1, hkn p0 (by simp)⟩)
      have e2 := e1.put (d := some p1) (l := .agg (t.explode x0)) (v := .agg cs.toArray) ⟨cs, rfl, explode_reps (T.holds_mono (Keeps.of fun b hb => ?_) hcs)⟩ (fun n hn => by cases hn; exact ⟨hp0.2, hkn p1 (by simp)⟩)
      · have hfold : ∀ v0 v1 : Value, Array.foldl (fun (tmps : Array Value) (x : Tmp × Value) => match x with | (t, a) => tmps.setIfInBounds t a) a.tmps ((#[p0, p1] : Array Tmp).zip #[v0, v1]) = (a.tmps.setIfInBounds p0 v0).setIfInBounds p1 v1 := fun _ _ => by simp
        exact cast (congrArg (fun tm => Rel P (loopE E l D kp W (Vof m' (p.state x).mem) hf) m' (elemSt (p.state x) p0 p1 i t x0) ({ tmps := tm, defers := [] } : Act) W) (hfold _ _).symm) e2
      · obtain ⟨q1, q2, q3, q4, q5⟩ := houts.okl b hb
        exact ⟨⟨q1, .inl ⟨q2, q3, hb.2.1⟩, q5⟩, rfl⟩
    · rintro ex s1 a1 Wa hk1 ⟨m1, hr1⟩
      cases ex with
      | exit id => cases hk1
      | ret => cases hk1
      | normal =>
        have hst := houts.stand hr1
        have hla : Wa.heap[l]? = some (.loop (rec .ready none)) := hst.1.trans hlW
        refine ⟨_, run_beginRound hla (by rw [hrec]), ?_⟩
        have o1 := houts.step hr1 (.loop { rec .ready none with state := .busy })
        have r1 := houts.relAt hr1 (.loop { rec .ready none with state := .busy }) (a2 := a1) (fun t => .inr rfl) hr1.size (.inl rfl) hr1.keep
        have hlb : (Wa.putObj l (.loop { rec .ready none with state := .busy })).heap[l]? = some (.loop { rec .ready none with state := .busy }) := World.putObj_heap_same (by have := (Array.getElem?_eq_some_iff.1 hla).1; exact this)
        have hDb : (Wa.putObj l (.loop { rec .ready none with state := .busy })).heap[D]? = some (.deferred (some [])) := (World.putObj_heap_other (by omega)).trans (hst.2.trans hDW)
        refine hB k 0 (some l) (loopE E l D kp _ (Vof m1 s1.mem) (houts.fineAt hr1 (.loop { rec .ready none with state := .busy }))) hrb (fun t ht => hkn t (by simp [ht])) (.inr hpb) hk1 ⟨m1, r1⟩ (fun _ _ h => h) ?_
        rintro ex s2 a2 Wc hk2 hr2
        cases ex with
        | exit id => cases hk2
        | ret => cases hk2
        | normal =>
          obtain ⟨m2, hr2⟩ := coerce_sound hk2 hr2
          have hst2 := o1.stand hr2
          have hlc := hst2.1.trans hlb
          have hre := run_endRound (P := P) none hlc
          refine ⟨_, _, hre, rfl, x1, m2, o1.fineAt hr2 _, hbn1, ?_, (World.putObj_heap_other (by omega)).trans (hst2.2.trans hDb), o1.relAt hr2 _ (fun t => ?_) h.size (.inr rfl) hks, o1.step hr2 _⟩
          · rw [World.putObj_heap_same (Array.getElem?_eq_some_iff.1 hlc).1, hrec]; rfl
          · by_cases ht : t ∈ patTemps p
            · exact .inr (hr2.keep t _ (hkt t ht)).symm
            · exact .inl (state_unk ht)
  · rintro ex W2 ⟨⟨v, rfl⟩, x, m', hf, hbn, hlW, hDW, hrel, houts⟩
    simp only [backN, Option.some.injEq] at hbn
    subst hbn
    refine ⟨none, _, by have := run_endLoop (P := P) hlW (by rw [hrec]; simp); rw [hrec] at this; exact this, hQ .normal _ _ _ hd ⟨m', ?_⟩⟩
    have hn : ∀ b, b ≠ l → (W2.putObj l (.loop { state := .exhausted, pending := none, fn := fn, tmps := a.tmps, params := #[p0, p1], assign := assign, body := body, defers := w.heap.size })).heap[b]? = W2.heap[b]? := fun b hb => World.putObj_heap_other hb
    refine hrel.shift (fun b hb => ?_) (fun b hb => ?_) rfl (houts.step hrel _).goes (fun t => .inr rfl) h.size ?_ h.keep
    · have ho := houts.isOuter hb.2.1
      exact ⟨⟨by rw [World.putObj_size]; exact hb.1, ho.2.2, hb.2.2⟩, hn b ho.1⟩
    · exact ⟨by rw [World.putObj_size]; exact (houts.vof hrel hb).1, (houts.own b hb).2.2, hn b (houts.own b hb).1⟩
    · obtain ⟨Ds, q1, q2, q3⟩ := h.defers
      refine ⟨D :: Ds, by simp [q1], List.nodup_cons.2 ⟨fun hin => ?_, q2⟩, fun D' hD' => ?_⟩
      · have := okw (q3 D hin).1.1; omega
      · rcases List.mem_cons.1 hD' with rfl | hD'
        · refine ⟨⟨⟨by rw [World.putObj_size]; exact houts.lt.2, .inr (.inr (by omega)), fun hv => (houts.own _ hv).2.1 rfl⟩, by have := E.lowOk; omega⟩, (hn _ (by omega)).trans hDW⟩
        · obtain ⟨⟨r1, r2⟩, r3⟩ := q3 D' hD'
          obtain ⟨q4, q5, q6, q7, q8⟩ := houts.okl D' r1
          exact ⟨⟨⟨by rw [World.putObj_size]; exact q4, r1.2.1, q8⟩, r2⟩, (hn _ q5).trans (q7.trans r3)⟩
theorem range_sound (hΓ : EnvOk P Γ) {n : Nat} {x : Operand} {ps : Array Tmp} {assign body : Code} {u : Part} (hu : RangeOk tab Γ Λ n x ps assign body u) (hA : Sound (τ := τ) P tab Γ Λ assign (n + 1)) (hB : Sound (τ := τ) P tab Γ Λ body (n + 1 + nodes assign))
    {k d : Nat} {E : Entry} (hreg : regionsOk E.N (.rangeFunc x ps assign body) = true) {z : RD PE.den u.head.dyn} {o : OD u.outs} (ho : u.F k z = some o) {R : Type} {K : AE → St → Option R} {y : R} (hd : dispatch u.outs o K = some y)
    {a : Act} {w : World} (hr : Rel' P E (u.head.state z) a w) {Q : Exit → Act → World → Prop} (hQ : ∀ e s' a' w', K e s' = some y → Rel' P E s' a' w' → Q e.out a' w') : (Code.rangeFunc x ps assign body).wpIn Fence.wide d P Q a w := by
  obtain ⟨p, t, g, gt, p0, p1, get, B, sp, rfl, rfl, rfl, hleaf, hsp, hspp, hget, hB', hfine⟩ := hu
  have ho' : cond (Nat.ble (get z).length 4611686018427387904) (backN (B k) (get z) (get z).length z) none = some o := ho
  cases hb : Nat.ble (get z).length 4611686018427387904 with
  | false => rw [hb] at ho'; cases ho'
  | true =>
    rw [hb] at ho'
    exact range_sound0 hΓ hsp hspp hget hB' hfine hA hB hreg (Nat.le_of_ble_eq_true hb) ho' hd hr hQ
end
end Go.GG

/- The code does what its parts' functions say. -/
namespace Go.GG
open Go.RowKit
section
variable {τ : Tabs} {P : Program} {E : Entry} {tab : Tab} {Γ : Env} {Λ : Parts}

theorem aexec_sound (hT : TabOk P tab) (hΓ : EnvOk P Γ) (hm : P.follows .mixedOrders = true) : ∀ (c : Code) (n : Nat), PartsOk tab Γ Λ n c → Sound (τ := τ) P tab Γ Λ c n
  | .region id ops draw, n, _, k, d, ro, E, hreg, hkp, hpl, R, K, r, s, a, w, Q, he, h, hout, hQ => by
    simp only [aexec] at he
    exact region_sound hT hΓ hm hreg hkp hpl hout he h fun s' a' w' hk hr => hQ .normal s' a' w' hk hr
  | .seq x y, n, hp, k, d, ro, E, hreg, hkp, hpl, R, K, r, s, a, w, Q, he, h, hout, hQ => by
    simp only [regionsOk, Bool.and_eq_true] at hreg
    simp only [PartsOk] at hp
    obtain ⟨hpart, hpx, hpy⟩ := hp
    simp only [aexec] at he
    have hkx : ∀ t ∈ dstsC x, E.keep t = none := fun t ht => hkp t (by simp [dstsC, ht])
    have hky : ∀ t ∈ dstsC y, E.keep t = none := fun t ht => hkp t (by simp [dstsC, ht])
    have hplx : ro = none ∨ plainC x = true := hpl.imp (fun h => h) fun h => by simp only [plainC, Bool.and_eq_true] at h; exact h.1
    have hply : ro = none ∨ plainC y = true := hpl.imp (fun h => h) fun h => by simp only [plainC, Bool.and_eq_true] at h; exact h.2
    -- what comes after the first code
    have next : ∀ e s' a' w', thenA K (fun s => aexec tab Γ Λ k (n + 1 + nodes x) y s K) e s' = some r → Rel' P E s' a' w' → Exit.then (y.wpIn (wideAt ro) d P Q) Q e.out a' w' := by
      intro e s' a' w' hk hr
      cases e with
      | normal => exact aexec_sound hT hΓ hm y _ hpy k d ro E hreg.2 hky hply hk hr hout hQ
      | exit id => exact hQ (.exit id) s' a' w' hk hr
      | ret => exact hQ .ret s' a' w' hk hr
    refine wpIn_seq ?_
    split at he
    · exact aexec_sound hT hΓ hm x _ hpx k d ro E hreg.1 hkx hplx he h (fun a w h => hout a w h) next
    · rename_i u hu
      rw [hu] at hpart
      simp only [PartOk] at hpart
      unfold viaPart at he
      split at he
      · simp at he
      · rename_i z hz
        rw [Option.bind_eq_some_iff] at he
        obtain ⟨o, ho, hd⟩ := he
        rw [hpart] at ho
        refine aexec_sound hT hΓ hm x _ hpx k d ro E hreg.1 hkx hplx ho (coerce_sound hz h) (fun a w h => hout a w h) fun e s' a' w' hk hr => ?_
        obtain ⟨s'', hk', hr'⟩ := leave_dispatch hk hd hr
        exact next e s'' a' w' hk' hr'
  | .cond c x y, n, hp, k, d, ro, E, hreg, hkp, hpl, R, K, r, s, a, w, Q, he, h, hout, hQ => by
    simp only [regionsOk, Bool.and_eq_true] at hreg
    simp only [PartsOk] at hp
    simp only [aexec] at he
    have hkx : ∀ t ∈ dstsC x, E.keep t = none := fun t ht => hkp t (by simp [dstsC, ht])
    have hky : ∀ t ∈ dstsC y, E.keep t = none := fun t ht => hkp t (by simp [dstsC, ht])
    have hplx : ro = none ∨ plainC x = true := hpl.imp (fun h => h) fun h => by simp only [plainC, Bool.and_eq_true] at h; exact h.1
    have hply : ro = none ∨ plainC y = true := hpl.imp (fun h => h) fun h => by simp only [plainC, Bool.and_eq_true] at h; exact h.2
    have ⟨m, h'⟩ := h
    have hv := h'.eval c
    split at he
    · rename_i b hb
      rw [hb] at hv
      refine wpIn_cond (rep_bool hv) ?_
      cases b with
      | true => exact aexec_sound hT hΓ hm x _ hp.1 k d ro E hreg.1 hkx hplx he h hout hQ
      | false => exact aexec_sound hT hΓ hm y _ hp.2 k d ro E hreg.2 hky hply he h hout hQ
    · simp at he
  | .block id c, n, hp, k, d, ro, E, hreg, hkp, hpl, R, K, r, s, a, w, Q, he, h, hout, hQ => by
    simp only [regionsOk] at hreg
    simp only [PartsOk] at hp
    simp only [aexec] at he
    refine wpIn_block (aexec_sound hT hΓ hm c _ hp k d ro E hreg (fun t ht => hkp t (by simpa [dstsC] using ht)) (hpl.imp (fun h => h) fun h => by simpa only [plainC] using h) he h (fun a w h => hout a w h) fun e s' a' w' hk hr => ?_)
    cases e with
    | normal => exact hQ .normal s' a' w' hk hr
    | ret => exact hQ .ret s' a' w' hk hr
    | exit id' =>
      simp only [AE.out, Exit.inBlock]
      simp only at hk
      cases hb : Nat.beq id' id with
      | true =>
        rw [hb] at hk
        rw [if_pos (Nat.eq_of_beq_eq_true hb)]
        exact hQ .normal s' a' w' hk hr
      | false =>
        rw [hb] at hk
        rw [if_neg (fun e => by subst e; simp at hb)]
        exact hQ (.exit id') s' a' w' hk hr
  | .loop c, n, hp, k, d, ro, E, hreg, hkp, hpl, R, K, r, s, a, w, Q, he, h, hout, hQ => by
    simp only [regionsOk] at hreg
    simp only [PartsOk] at hp
    obtain ⟨hpart, hpc⟩ := hp
    simp only [aexec] at he
    split at he
    · simp at he
    · rename_i u hu
      rw [hu] at hpart
      simp only [PartOk] at hpart
      obtain ⟨h0, hs⟩ := hpart
      unfold viaPart at he
      split at he
      · simp at he
      · rename_i z hz
        rw [Option.bind_eq_some_iff] at he
        obtain ⟨o, ho, hd⟩ := he
        have rounds : ∀ k x a w, u.F k x = some o → Rel' P E (u.head.state x) a w → Code.roundsIn (wideAt ro) d P c Q k a w := by
          intro k
          induction k with
          | zero => intro x a w hx _; rw [h0] at hx; simp at hx
          | succ k ih =>
            intro x a w hx hr
            rw [hs] at hx
            rw [roundsIn_succ]
            refine aexec_sound hT hΓ hm c _ hpc k d ro E hreg (fun t ht => hkp t (by simpa [dstsC] using ht)) (hpl.imp (fun h => h) fun h => by simpa only [plainC] using h) hx hr (fun a w h => hout a w h) fun e s' a' w' hk hr' => ?_
            cases e with
            | normal =>
              simp only at hk
              split at hk
              · simp at hk
              · rename_i y hy
                exact ih y a' w' hk (coerce_sound hy hr')
            | ret =>
              obtain ⟨s'', hk', hr''⟩ := leave_dispatch hk hd hr'
              exact hQ .ret s'' a' w' hk' hr''
            | exit id =>
              obtain ⟨s'', hk', hr''⟩ := leave_dispatch hk hd hr'
              exact hQ (.exit id) s'' a' w' hk' hr''
        exact wpIn_loop_rounds k (rounds k z a w ho (coerce_sound hz h))
  | .exit id, n, _, k, d, ro, E, _, _, _, R, K, r, s, a, w, Q, he, h, _, hQ => wpIn_exit (hQ (.exit id) s a w he h)
  | .ret, n, _, k, d, ro, E, _, _, _, R, K, r, s, a, w, Q, he, h, _, hQ => wpIn_ret (hQ .ret s a w he h)
  | .skip, n, _, k, d, ro, E, _, _, _, R, K, r, s, a, w, Q, he, h, _, hQ => wpIn_skip (hQ .normal s a w he h)
  | .label l, n, _, k, d, ro, E, _, _, _, R, K, r, s, a, w, Q, he, h, _, hQ => wpIn_label (hQ .normal s a w he h)
  | .rangeFunc x ps assign body, n, hp, k, d, ro, E, hreg, hkp, hpl, R, K, r, s, a, w, Q, he, h, hout, hQ => by
    obtain rfl : ro = none := hpl.elim (fun h => h) fun h => by simp [plainC] at h
    simp only [PartsOk] at hp
    obtain ⟨hpart, hpa, hpb⟩ := hp
    simp only [aexec] at he
    split at he
    · simp at he
    · rename_i u hu
      rw [hu] at hpart
      simp only at hpart
      unfold viaPart at he
      split at he
      · simp at he
      · rename_i z hz
        rw [Option.bind_eq_some_iff] at he
        obtain ⟨o, ho, hd⟩ := he
        exact range_sound hΓ hpart (aexec_sound hT hΓ hm assign _ hpa) (aexec_sound hT hΓ hm body _ hpb) hreg ho hd (coerce_sound hz h) hQ
  | .scope _, _, _, _, _, _, _, _, _, _, _, _, _, _, _, _, _, he, _, _, _ => by simp [aexec] at he
  | .goto _, _, _, _, _, _, _, _, _, _, _, _, _, _, _, _, _, he, _, _, _ => by simp [aexec] at he
  | .refuse _, _, _, _, _, _, _, _, _, _, _, _, _, _, _, _, _, he, _, _, _ => by simp [aexec] at he
end
end Go.GG

/- A function keeps its specification: how it starts. -/
namespace Go.GG
open Go.RowKit
section
variable {τ : Tabs} {P : Program} {w : World}

def ptrBlk : Value → Nat
  | .pointer (some a) => a.block
  | _ => 0
def blkOf : Value → Impl
  | .slice A _ c => .blk A c
  | _ => .blk none 0
def ptrAt (w : World) : Value → Nat
  | .pointer (some a) => match w.heap[a.block]? with
    | some (.cells C _ _) => match C.toList with
      | [.pointer (some a')] => a'.block
      | _ => 0
    | _ => 0
  | _ => 0
theorem ptrAt_of {w : World} {b0 b : Nat} (h : PtrAt w b0 b) : ptrAt w (.pointer (some ⟨b0, 0, none⟩)) = b := by
  obtain ⟨e, h⟩ := h
  simp [ptrAt, h]
def mapAt (w : World) : Value → Nat
  | .pointer (some a) => (mapOf w a.block).getD 0
  | _ => 0
theorem mapAt_of {w : World} {b0 b : Nat} (h : MPtrAt w b0 b) : mapAt w (.pointer (some ⟨b0, 0, none⟩)) = b := by simp [mapAt, mapOf_of h]
/-- The blocks behind the cells of a thing of one's own. -/
def fimpls (w : World) (j : Nat) : List FK → Nat → List Value → List (Nat × Impl)
  | .row _ :: fs, i, u :: us => (ownId j i, .arr u) :: fimpls w j fs (i + 1) us
  | .segs :: fs, i, u :: us => (ownId j i, .deep u (deepBs w u)) :: fimpls w j fs (i + 1) us
  | .dsk :: fs, i, u :: us => (2 * lentBase + j, .var (ptrBlk u)) :: (lentBase + j, .obj (mapAt w u) (mapBs w (mapAt w u))) :: fimpls w j fs (i + 1) us
  | .imm _ :: fs, i, _ :: us => fimpls w j fs (i + 1) us
  | .als :: fs, i, _ :: us => fimpls w j fs (i + 1) us
  | _, _, _ => []
structure FStarts (P : Program) (w : World) (ok0 : Nat → Prop) (j : Nat) (fs : List FK) (i : Nat) (x : RD FK.den fs) (us : List Value) : Prop where
  ls : ∀ (m : IMap) ok, (∀ p ∈ fimpls w j fs i us, m p.1 = some p.2) → (∀ b, ok0 b → ok b) → LReps P w ok m (fldLs j fs i x) us
  mem : ∀ r c, (r, c) ∈ fldMem j fs i x → ∃ im, (r, im) ∈ fimpls w j fs i us ∧ ∀ (m : IMap) ok, (∀ p ∈ fimpls w j fs i us, m p.1 = some p.2) → (∀ b, ok0 b → ok b) → (bk im).Nodup → CRep P w ok m c im
  keys : (fimpls w j fs i us).map (·.1) = (fldMem j fs i x).map (·.1)
  range : ∀ p ∈ fimpls w j fs i us, ((p.1 = lentBase + j ∨ p.1 = 2 * lentBase + j) ∧ (∃ b, p.2 = .var b ∨ ∃ bs, p.2 = .obj b bs) ∧ 0 < fs.countP FK.isDsk) ∨ ∃ k, i < k ∧ k ≤ i + fs.length ∧ p.1 + 1000 * k + j + 1 = lentBase
  nodup : ((fimpls w j fs i us).map (·.1)).Nodup
  blocks : (fimpls w j fs i us).flatMap (fun p => bk p.2) = fAll w fs us
  shape : ∀ p ∈ fimpls w j fs i us, (bk p.2).Nodup → p.2.shape
  lents : ∀ m : IMap, (∀ p ∈ fimpls w j fs i us, m p.1 = some p.2) → rts m (fldRefs j fs) = fRoots w fs us
theorem ownId_eq {j i : Nat} (hj : j < 1000) (hi : i < 900) : ownId j i + 1000 * (i + 1) + j + 1 = lentBase := by
  have : lentBase = 1000000 := rfl
  simp only [ownId]; omega
theorem fstarts {ok0 : Nat → Prop} {j : Nat} (hj : j < 1000) : ∀ {fs : List FK} {i : Nat} {x : RD FK.den fs} {us : List Value}, FReps w ok0 fs x us (fRoots w fs us) → i + fs.length ≤ 900 → fs.countP FK.isDsk ≤ 1 → fs.any FK.isAls = false → FStarts P w ok0 j fs i x us
  | [], i, x, us, h, _, _, _ => by
    simp only [FReps] at h; subst h
    exact ⟨fun _ _ _ _ => rfl, by simp [fldMem], rfl, by simp [fimpls], by simp [fimpls], rfl, by simp [fimpls], fun _ _ => rfl⟩
  | .imm t :: fs, i, x, us, h, hi, hd, ha => by
    obtain ⟨u, us, rfl, h1, h2⟩ := h
    have A := fstarts hj (i := i + 1) h2 (by simp at hi ⊢; omega) (by simpa [FK.isDsk] using hd) (by simpa [FK.isAls] using ha)
    refine ⟨fun m ok hm hok => ⟨u, us, rfl, T.holds_mono (t := t) (Keeps.weaken hok) h1, A.ls m ok hm hok⟩, A.mem, A.keys, fun p hp => ?_, A.nodup, A.blocks, A.shape, A.lents⟩
    rcases A.range p hp with ⟨a1, a2, a3⟩ | ⟨k, a1, a2, a3⟩
    · exact .inl ⟨a1, a2, by simpa [FK.isDsk] using a3⟩
    · exact .inr ⟨k, by omega, by simp only [List.length_cons]; omega, a3⟩
  | .row t :: fs, i, x, us, h, hi, hd, ha => by
    obtain ⟨u, us, rfl, h1, h2⟩ := h
    simp only [List.length_cons] at hi
    have A := fstarts hj (i := i + 1) h2 (by omega) (by simpa [FK.isDsk] using hd) (by simpa [FK.isAls] using ha)
    have hid := ownId_eq hj (show i < 900 by omega)
    have hs : (Impl.arr u).shape := CRep.shape (P := P) (w := w) (ok := ok0) (m := fun _ => none) (c := .arr t _) h1
    refine ⟨fun m ok hm hok => ⟨u, us, rfl, .inl (hm (ownId j i, .arr u) (by simp [fimpls])), A.ls m ok (fun p hp => hm p (by simp [fimpls, hp])) hok⟩, fun r c hc => ?_, by simp [fimpls, fldMem, A.keys], fun p hp => ?_, ?_, ?_, fun p hp => ?_, fun m hm => A.lents m fun p hp => hm p (by simp [fimpls, hp])⟩
    · simp only [fldMem, List.mem_cons, Prod.mk.injEq] at hc
      rcases hc with ⟨rfl, rfl⟩ | hc
      · exact ⟨.arr u, by simp [fimpls], fun m ok _ hok _ => OwnRow.mono (Keeps.weaken hok) (fun _ _ => rfl) h1⟩
      · obtain ⟨im, g1, g2⟩ := A.mem r c hc
        exact ⟨im, by simp [fimpls, g1], fun m ok hm hok => g2 m ok (fun p hp => hm p (by simp [fimpls, hp])) hok⟩
    · simp only [fimpls, List.mem_cons] at hp
      rcases hp with rfl | hp
      · exact .inr ⟨i + 1, by omega, by simp only [List.length_cons]; omega, hid⟩
      · rcases A.range p hp with ⟨a1, a2, a3⟩ | ⟨k, a1, a2, a3⟩
        · exact .inl ⟨a1, a2, by simpa [FK.isDsk] using a3⟩
        · exact .inr ⟨k, by omega, by simp only [List.length_cons]; omega, a3⟩
    · simp only [fimpls, List.map_cons, List.nodup_cons]
      refine ⟨fun hh => ?_, A.nodup⟩
      obtain ⟨q, hq, e⟩ := List.mem_map.1 hh
      rcases A.range q hq with ⟨a1, _⟩ | ⟨k, a1, a2, a3⟩ <;> omega
    · simp only [fimpls, List.flatMap_cons, A.blocks, fAll]
      rw [rowBlock_of hs]; rfl
    · simp only [fimpls, List.mem_cons] at hp
      rcases hp with rfl | hp
      · exact fun _ => hs
      · exact A.shape p hp
  | .segs :: fs, i, x, us, h, hi, hd, ha => by
    obtain ⟨u, us, rfl, h1, h2⟩ := h
    simp only [List.length_cons] at hi
    have A := fstarts hj (i := i + 1) h2 (by omega) (by simpa [FK.isDsk] using hd) (by simpa [FK.isAls] using ha)
    have hid := ownId_eq hj (show i < 900 by omega)
    refine ⟨fun m ok hm hok => ⟨u, us, rfl, ⟨_, hm (ownId j i, .deep u (deepBs w u)) (by simp [fimpls])⟩, A.ls m ok (fun p hp => hm p (by simp [fimpls, hp])) hok⟩, fun r c hc => ?_, by simp [fimpls, fldMem, A.keys], fun p hp => ?_, ?_, ?_, fun p hp => ?_, fun m hm => A.lents m fun p hp => hm p (by simp [fimpls, hp])⟩
    · simp only [fldMem, List.mem_cons, Prod.mk.injEq] at hc
      rcases hc with ⟨rfl, rfl⟩ | hc
      · exact ⟨.deep u (deepBs w u), by simp [fimpls], fun m ok _ hok hn => ⟨hn, (DeepRow.free h1).mono (Keeps.weaken hok) (Ext.refl _) (fun _ _ => rfl)⟩⟩
      · obtain ⟨im, g1, g2⟩ := A.mem r c hc
        exact ⟨im, by simp [fimpls, g1], fun m ok hm hok => g2 m ok (fun p hp => hm p (by simp [fimpls, hp])) hok⟩
    · simp only [fimpls, List.mem_cons] at hp
      rcases hp with rfl | hp
      · exact .inr ⟨i + 1, by omega, by simp only [List.length_cons]; omega, hid⟩
      · rcases A.range p hp with ⟨a1, a2, a3⟩ | ⟨k, a1, a2, a3⟩
        · exact .inl ⟨a1, a2, by simpa [FK.isDsk] using a3⟩
        · exact .inr ⟨k, by omega, by simp only [List.length_cons]; omega, a3⟩
    · simp only [fimpls, List.map_cons, List.nodup_cons]
      refine ⟨fun hh => ?_, A.nodup⟩
      obtain ⟨q, hq, e⟩ := List.mem_map.1 hh
      rcases A.range q hq with ⟨a1, _⟩ | ⟨k, a1, a2, a3⟩ <;> omega
    · simp only [fimpls, List.flatMap_cons, A.blocks, fAll]
      rfl
    · simp only [fimpls, List.mem_cons] at hp
      rcases hp with rfl | hp
      · exact fun hn => deep_shape h1 hn
      · exact A.shape p hp
  | .dsk :: fs, i, x, us, h, hi, hd, ha => by
    obtain ⟨b0, b, bs', us', hbs, rfl, hp, ⟨es, clock, hh, hpm⟩, h2⟩ := h
    simp only [List.length_cons] at hi
    have hd0 : fs.countP FK.isDsk = 0 := by
      simp only [List.countP_cons, FK.isDsk, if_true] at hd; omega
    simp only [fRoots, diskRoots_of hp, List.cons_append, List.nil_append, List.cons.injEq, true_and] at hbs
    rw [← hbs] at h2
    have A := fstarts hj (i := i + 1) h2 (by omega) (by omega) (by simpa [FK.isAls] using ha)
    have hpa := mapAt_of hp
    have hfi : fimpls w j (.dsk :: fs) i (.pointer (some ⟨b0, 0, none⟩) :: us') = (2 * lentBase + j, .var b0) :: (lentBase + j, .obj b (mapBs w b)) :: fimpls w j fs (i + 1) us' := by
      simp only [fimpls, hpa]; rfl
    have hlb : lentBase = 1000000 := rfl
    have notin : ∀ p ∈ fimpls w j fs (i + 1) us', p.1 ≠ lentBase + j ∧ p.1 ≠ 2 * lentBase + j := fun p hp => by
      rcases A.range p hp with ⟨_, _, a3⟩ | ⟨k, a1, a2, a3⟩
      · omega
      · omega
    refine ⟨fun m ok hm hok => ?_, fun r c hc => ?_, by rw [hfi]; simp [fldMem, A.keys], fun p hp => ?_, ?_, ?_, fun p hp => ?_, fun m hm => ?_⟩
    · rw [hfi] at hm
      exact ⟨_, us', rfl, ⟨b0, hm (2 * lentBase + j, .var b0) (by simp), rfl⟩, A.ls m ok (fun p hp => hm p (by simp [hp])) hok⟩
    · rw [hfi]
      simp only [fldMem, List.mem_cons, Prod.mk.injEq] at hc
      rcases hc with ⟨rfl, rfl⟩ | ⟨rfl, rfl⟩ | hc
      · exact ⟨.var b0, by simp, fun m ok hm hok hnd => mapPtr_crep hp (.inr ⟨_, hm (lentBase + j, .obj b (mapBs w b)) (by simp)⟩)⟩
      · exact ⟨.obj b (mapBs w b), by simp, fun m ok _ hok hnd => ⟨hnd, es, clock, hh, hpm.free⟩⟩
      · obtain ⟨im, g1, g2⟩ := A.mem r c hc
        exact ⟨im, by simp [g1], fun m ok hm hok => g2 m ok (fun p hp => hm p (by simp [hp])) hok⟩
    · rw [hfi] at hp
      simp only [List.mem_cons] at hp
      have hcp : 0 < (FK.dsk :: fs).countP FK.isDsk := by simp [FK.isDsk]
      rcases hp with rfl | rfl | hp
      · exact .inl ⟨.inr rfl, ⟨_, .inl rfl⟩, hcp⟩
      · exact .inl ⟨.inl rfl, ⟨_, .inr ⟨_, rfl⟩⟩, hcp⟩
      · rcases A.range p hp with ⟨a1, a2, a3⟩ | ⟨k, a1, a2, a3⟩
        · exact .inl ⟨a1, a2, hcp⟩
        · exact .inr ⟨k, by omega, by simp only [List.length_cons]; omega, a3⟩
    · rw [hfi]
      simp only [List.map_cons, List.nodup_cons, List.mem_cons]
      refine ⟨?_, fun hh => ?_, A.nodup⟩
      · rintro (hh | hh)
        · omega
        · obtain ⟨q, hq, e⟩ := List.mem_map.1 hh
          exact (notin q hq).2 e
      · obtain ⟨q, hq, e⟩ := List.mem_map.1 hh
        exact (notin q hq).1 e
    · rw [hfi]
      simp only [List.flatMap_cons, A.blocks, fAll, diskBs_of hp]
      rfl
    · rw [hfi] at hp
      simp only [List.mem_cons] at hp
      rcases hp with rfl | rfl | hp
      · exact fun _ => trivial
      · exact fun h => h
      · exact A.shape p hp
    · rw [hfi] at hm
      have h5 := hm (2 * lentBase + j, .var b0) (by simp)
      have h6 := hm (lentBase + j, .obj b (mapBs w b)) (by simp)
      simp only [fldRefs, rts, List.flatMap_cons, fRoots, diskRoots_of hp]
      rw [rt_some h5, rt_some h6]
      have := A.lents m (fun p hp => hm p (by simp [hp]))
      simp only [rts] at this
      rw [this]
      rfl
  | .als :: _, _, _, _, _, _, _, ha => by simp [FK.isAls] at ha
def pimpls (w : World) : List PK → Nat → List Value → List (Nat × Impl)
  | .lent _ :: ps, j, v :: vs => (lentBase + j, .var (ptrBlk v)) :: pimpls w ps (j + 1) vs
  | .lentp _ :: ps, j, v :: vs => (2 * lentBase + j, .var (ptrBlk v)) :: (lentBase + j, .var (ptrAt w v)) :: pimpls w ps (j + 1) vs
  | .disk :: ps, j, v :: vs => (2 * lentBase + j, .var (ptrBlk v)) :: (lentBase + j, .obj (mapAt w v) (mapBs w (mapAt w v))) :: pimpls w ps (j + 1) vs
  | .lento fs :: ps, j, v :: vs => (3 * lentBase + j, .var (ptrBlk v)) :: (fimpls w j fs 0 (cellsAt w (ptrBlk v)) ++ pimpls w ps (j + 1) vs)
  | .own _ :: ps, j, v :: vs => (lentBase - 1 - j, .arr v) :: pimpls w ps (j + 1) vs
  | .blk _ :: ps, j, v :: vs => (lentBase - 1 - j, blkOf v) :: pimpls w ps (j + 1) vs
  | _ :: ps, j, _ :: vs => pimpls w ps (j + 1) vs
  | _, _, _ => []
structure Starts (P : Program) (w : World) (ok0 : Nat → Prop) (ps : List PK) (j : Nat) (x : RD PK.den ps) (vals : List Value) : Prop where
  len : vals.length = ps.length
  ls : ∀ (m : IMap) ok, (∀ p ∈ pimpls w ps j vals, m p.1 = some p.2) → (∀ b, ok0 b → ok b) → LReps P w ok m (paramLs ps j x) vals
  mem : ∀ r c, memOf (paramMem ps j x) r = some c → ∃ i, (r, i) ∈ pimpls w ps j vals ∧ ∀ (m : IMap) ok, (∀ p ∈ pimpls w ps j vals, m p.1 = some p.2) → (∀ b, ok0 b → ok b) → (bk i).Nodup → CRep P w ok m c i
  keys : (pimpls w ps j vals).map (·.1) = (paramMem ps j x).map (·.1)
  range : ∀ p ∈ pimpls w ps j vals, ∃ i, j ≤ i ∧ i < 1000 ∧ (((p.1 = lentBase + i ∨ p.1 = 2 * lentBase + i ∨ p.1 = 3 * lentBase + i) ∧ ∃ b, p.2 = .var b ∨ ∃ bs, p.2 = .obj b bs) ∨ ∃ k, k ≤ 900 ∧ p.1 + 1000 * k + i + 1 = lentBase)
  nodup : ((pimpls w ps j vals).map (·.1)).Nodup
  blocks : (pimpls w ps j vals).flatMap (fun p => bk p.2) = pblocks w ps vals
  shape : ∀ p ∈ pimpls w ps j vals, (bk p.2).Nodup → p.2.shape
  lents : ∀ m : IMap, (∀ p ∈ pimpls w ps j vals, m p.1 = some p.2) → rts m (lentRefs ps j) = lblocks w ps vals
theorem memOf_cons {r r' : Nat} {c c' : C} {l : List (Nat × C)} (h : memOf ((r', c') :: l) r = some c) : (r = r' ∧ c = c') ∨ memOf l r = some c := by
  simp only [memOf] at h
  cases hb : Nat.beq r r' with
  | true => rw [hb] at h; simp at h; exact .inl ⟨Nat.eq_of_beq_eq_true hb, h.symm⟩
  | false => rw [hb] at h; exact .inr h
theorem memOf_append {r : Nat} {c : C} {l' : List (Nat × C)} : ∀ {l : List (Nat × C)}, memOf (l ++ l') r = some c → (r, c) ∈ l ∨ memOf l' r = some c
  | [], h => .inr h
  | (r', c') :: l, h => by
    rcases memOf_cons h with ⟨rfl, rfl⟩ | h
    · exact .inl (by simp)
    · exact (memOf_append h).imp (fun h => by simp [h]) (fun h => h)
theorem starts {ok0 : Nat → Prop} : ∀ {ps : List PK} {j : Nat} {x : RD PK.den ps} {vals : List Value}, PReps P w ok0 ps x vals → j + ps.length ≤ 1000 → Starts P w ok0 ps j x vals
  | [], j, x, vals, h, _ => by
    simp only [PReps] at h; subst h
    exact ⟨rfl, fun _ _ _ _ => rfl, fun r c hc => by simp [paramMem, memOf] at hc, rfl, by simp [pimpls], by simp [pimpls], rfl, by simp [pimpls], fun _ _ => rfl⟩
  | p :: ps, j, x, _, h, hj => by
    obtain ⟨v, vals, rfl, h1, h2⟩ := h
    have A := starts (j := j + 1) h2 (by simp at hj ⊢; omega)
    have hj' : j + 1 + ps.length ≤ 1000 := by simp at hj; omega
    have hlb : lentBase = 1000000 := rfl
    have range' : ∀ q ∈ pimpls w ps (j + 1) vals, ∃ i, j ≤ i ∧ i < 1000 ∧ (((q.1 = lentBase + i ∨ q.1 = 2 * lentBase + i ∨ q.1 = 3 * lentBase + i) ∧ ∃ b, q.2 = .var b ∨ ∃ bs, q.2 = .obj b bs) ∨ ∃ k, k ≤ 900 ∧ q.1 + 1000 * k + i + 1 = lentBase) := fun q hq => by
      obtain ⟨i, h1, h2⟩ := A.range q hq
      exact ⟨i, by omega, h2⟩
    -- a name of a later parameter is none of these
    have later : ∀ q ∈ pimpls w ps (j + 1) vals, q.1 ≠ lentBase + j ∧ q.1 ≠ 2 * lentBase + j ∧ q.1 ≠ 3 * lentBase + j ∧ ∀ k, k ≤ 900 → q.1 + 1000 * k + j + 1 ≠ lentBase := fun q hq => by
      obtain ⟨i, h1, h2, h3⟩ := A.range q hq
      rcases h3 with ⟨h3 | h3 | h3, _⟩ | ⟨k', h3, h4⟩
      · refine ⟨?_, ?_, ?_, fun k hk => ?_⟩ <;> omega
      · refine ⟨?_, ?_, ?_, fun k hk => ?_⟩ <;> omega
      · refine ⟨?_, ?_, ?_, fun k hk => ?_⟩ <;> omega
      · refine ⟨?_, ?_, ?_, fun k hk => ?_⟩ <;> omega
    -- a parameter without a block of its own
    have plain : pimpls w (p :: ps) j (v :: vals) = pimpls w ps (j + 1) vals → paramMem (p :: ps) j x = paramMem ps (j + 1) (RD.tl (k := p) x) → lentRefs (p :: ps) j = lentRefs ps (j + 1) →
        pblk w p v = [] → lblk w p v = [] → (∃ l, paramLs (p :: ps) j x = l :: paramLs ps (j + 1) (RD.tl (k := p) x) ∧ ∀ (m : IMap) ok, (∀ b, ok0 b → ok b) → LRep P w ok m l v) → Starts P w ok0 (p :: ps) j x (v :: vals) := by
      intro e1 e2 e3 e4 e5 ⟨l, e6, e7⟩
      refine ⟨by simp [A.len], fun m ok hm hok => ?_, ?_, ?_, ?_, ?_, ?_, ?_, ?_⟩
      · rw [e6]; rw [e1] at hm; exact ⟨v, vals, rfl, e7 m ok hok, A.ls m ok hm hok⟩
      · rw [e1, e2]; exact A.mem
      · rw [e1, e2]; exact A.keys
      · rw [e1]; exact range'
      · rw [e1]; exact A.nodup
      · rw [e1, A.blocks, pblocks_cons, e4]; rfl
      · rw [e1]; exact A.shape
      · rw [e1, e3, lblocks_cons, e5]; exact A.lents
    cases p
    case imm t => exact plain rfl rfl rfl rfl rfl ⟨_, rfl, fun m ok hok => T.holds_mono (t := t) (Keeps.weaken hok) h1⟩
    case agg t =>
      obtain ⟨cs, rfl, h3⟩ := h1
      exact plain rfl rfl rfl rfl rfl ⟨_, rfl, fun m ok hok => ⟨cs, rfl, explode_reps (T.holds_mono (Keeps.weaken hok) h3)⟩⟩
    case ro t =>
      obtain ⟨b, o, C, e, fr, cs, rfl, h3, h4, h5, h6⟩ := h1
      exact plain rfl rfl rfl rfl rfl ⟨_, rfl, fun m ok hok => ⟨b, o, C, e, fr, cs, rfl, hok b h3, h4, T.holds_mono (Keeps.weaken hok) h5, h6⟩⟩
    case fn as b => exact plain rfl rfl rfl rfl rfl ⟨_, rfl, fun m ok hok => FnHolds.mono (Keeps.weaken hok) h1⟩
    case rof as b =>
      obtain ⟨bl, o, C, e, fr, u, rfl, h3, h4, h5, h6⟩ := h1
      exact plain rfl rfl rfl rfl rfl ⟨_, rfl, fun m ok hok => ⟨bl, o, C, e, fr, u, rfl, hok bl h3, h4, h5, FnHolds.mono (Keeps.weaken hok) h6⟩⟩
    case nilp => exact plain rfl rfl rfl rfl rfl ⟨_, rfl, fun m ok hok => h1⟩
    case nils => exact plain rfl rfl rfl rfl rfl ⟨_, rfl, fun m ok hok => h1⟩
    case nnil t => exact plain rfl rfl rfl rfl rfl ⟨_, rfl, fun m ok hok => ⟨T.holds_mono (t := .slice t) (Keeps.weaken hok) h1.1, h1.2⟩⟩
    case lent t =>
      obtain ⟨b, rfl, us, e, h3, h4⟩ := h1
      have notin : ∀ p ∈ pimpls w ps (j + 1) vals, p.1 ≠ lentBase + j := fun p hp => (later p hp).1
      refine ⟨by simp [A.len], fun m ok hm hok => ⟨_, vals, rfl, ⟨b, hm (lentBase + j, .var b) (by simp [pimpls, ptrBlk]), rfl⟩, A.ls m ok (fun p hp => hm p (by simp [pimpls, hp])) hok⟩, fun r c hc => ?_, ?_, ?_, ?_, ?_, ?_, ?_⟩
      · simp only [paramMem, memOf] at hc
        cases hb : Nat.beq r (lentBase + j) with
        | true =>
          rw [hb] at hc
          simp at hc; subst hc
          exact ⟨.var b, by rw [Nat.eq_of_beq_eq_true hb]; simp [pimpls, ptrBlk], fun m ok _ hok _ => ⟨us, e, h3, explode_reps (T.holds_mono (Keeps.weaken hok) h4)⟩⟩
        | false =>
          rw [hb] at hc
          obtain ⟨i, hi, hr⟩ := A.mem r c hc
          exact ⟨i, by simp [pimpls, hi], fun m ok hm hok => hr m ok (fun p hp => hm p (by simp [pimpls, hp])) hok⟩
      · simp [pimpls, paramMem, A.keys]
      · intro q hq
        simp only [pimpls, List.mem_cons] at hq
        rcases hq with rfl | hq
        · exact ⟨j, Nat.le_refl _, by omega, .inl ⟨.inl rfl, _, .inl rfl⟩⟩
        · exact range' q hq
      · simp only [pimpls, List.map_cons, List.nodup_cons]
        refine ⟨fun hh => ?_, A.nodup⟩
        obtain ⟨q, hq, e⟩ := List.mem_map.1 hh
        exact notin q hq e
      · simp only [pimpls, List.flatMap_cons, A.blocks, pblocks]
        rfl
      · intro q hq
        simp only [pimpls, List.mem_cons] at hq
        rcases hq with rfl | hq
        · exact fun _ => trivial
        · exact A.shape q hq
      · intro m hm
        have := hm (lentBase + j, .var b) (by simp [pimpls, ptrBlk])
        simp only [lentRefs, rts, List.flatMap_cons, lblocks, ptrBlock]
        rw [rt_some this]
        have := A.lents m (fun p hp => hm p (by simp [pimpls, hp]))
        simp only [rts] at this
        rw [this]
        rfl
    case lentp t =>
      obtain ⟨b0, b, rfl, hp, us, e, h3, h4⟩ := h1
      have hpa := ptrAt_of hp
      have htw := twoBlocks_of hp
      have hpi : pimpls w (.lentp t :: ps) j (.pointer (some ⟨b0, 0, none⟩) :: vals) = (2 * lentBase + j, .var b0) :: (lentBase + j, .var b) :: pimpls w ps (j + 1) vals := by
        simp only [pimpls, hpa]; rfl
      have notin : ∀ p ∈ pimpls w ps (j + 1) vals, p.1 ≠ lentBase + j ∧ p.1 ≠ 2 * lentBase + j := fun p hp => ⟨(later p hp).1, (later p hp).2.1⟩
      obtain ⟨e0, hp0⟩ := hp
      refine ⟨by simp [A.len], fun m ok hm hok => ⟨_, vals, rfl, ⟨b0, hm (2 * lentBase + j, .var b0) (by rw [hpi]; simp), rfl⟩, A.ls m ok (fun p hp => hm p (by rw [hpi]; simp [hp])) hok⟩, fun r c hc => ?_, ?_, ?_, ?_, ?_, ?_, ?_⟩
      · rw [hpi]
        simp only [paramMem, memOf] at hc
        cases hb : Nat.beq r (2 * lentBase + j) with
        | true =>
          rw [hb] at hc
          simp at hc; subst hc
          refine ⟨.var b0, by rw [Nat.eq_of_beq_eq_true hb]; simp, fun m ok hm hok _ => ⟨[.pointer (some ⟨b, 0, none⟩)], e0, by simpa using hp0, _, [], rfl, ⟨b, hm (lentBase + j, .var b) (by simp), rfl⟩, rfl⟩⟩
        | false =>
          rw [hb] at hc
          simp only [cond_false] at hc
          cases hb' : Nat.beq r (lentBase + j) with
          | true =>
            rw [hb'] at hc
            simp at hc; subst hc
            exact ⟨.var b, by rw [Nat.eq_of_beq_eq_true hb']; simp, fun m ok hm hok _ => ⟨us, e, h3, explode_reps (T.holds_mono (Keeps.weaken hok) h4)⟩⟩
          | false =>
            rw [hb'] at hc
            obtain ⟨i, hi, hr⟩ := A.mem r c hc
            exact ⟨i, by simp [hi], fun m ok hm hok => hr m ok (fun p hp => hm p (by simp [hp])) hok⟩
      · rw [hpi]; simp [paramMem, A.keys]
      · rw [hpi]
        intro q hq
        simp only [List.mem_cons] at hq
        rcases hq with rfl | rfl | hq
        · exact ⟨j, Nat.le_refl _, by omega, .inl ⟨.inr (.inl rfl), _, .inl rfl⟩⟩
        · exact ⟨j, Nat.le_refl _, by omega, .inl ⟨.inl rfl, _, .inl rfl⟩⟩
        · exact range' q hq
      · rw [hpi]
        simp only [List.map_cons, List.nodup_cons, List.mem_cons]
        refine ⟨?_, fun hh => ?_, A.nodup⟩
        · rintro (hh | hh)
          · omega
          · obtain ⟨q, hq, e⟩ := List.mem_map.1 hh
            exact (notin q hq).2 e
        · obtain ⟨q, hq, e⟩ := List.mem_map.1 hh
          exact (notin q hq).1 e
      · rw [hpi]
        simp only [List.flatMap_cons, A.blocks, pblocks, htw]
        rfl
      · rw [hpi]
        intro q hq
        simp only [List.mem_cons] at hq
        rcases hq with rfl | rfl | hq
        · exact fun _ => trivial
        · exact fun _ => trivial
        · exact A.shape q hq
      · intro m hm
        rw [hpi] at hm
        have h5 := hm (2 * lentBase + j, .var b0) (by simp)
        have h6 := hm (lentBase + j, .var b) (by simp)
        simp only [lentRefs, rts, List.flatMap_cons, lblocks, htw]
        rw [rt_some h5, rt_some h6]
        have := A.lents m (fun p hp => hm p (by simp [hp]))
        simp only [rts] at this
        rw [this]
        rfl
    case disk =>
      obtain ⟨b0, b, rfl, hp, es, clock, hh, hpm⟩ := h1
      have hpa := mapAt_of hp
      have htw := diskBs_of hp
      have htr := diskRoots_of hp
      have hpi : pimpls w (.disk :: ps) j (.pointer (some ⟨b0, 0, none⟩) :: vals) = (2 * lentBase + j, .var b0) :: (lentBase + j, .obj b (mapBs w b)) :: pimpls w ps (j + 1) vals := by
        simp only [pimpls, hpa]; rfl
      have notin : ∀ p ∈ pimpls w ps (j + 1) vals, p.1 ≠ lentBase + j ∧ p.1 ≠ 2 * lentBase + j := fun p hp => ⟨(later p hp).1, (later p hp).2.1⟩
      refine ⟨by simp [A.len], fun m ok hm hok => ⟨_, vals, rfl, ⟨b0, hm (2 * lentBase + j, .var b0) (by rw [hpi]; simp), rfl⟩, A.ls m ok (fun p hp => hm p (by rw [hpi]; simp [hp])) hok⟩, fun r c hc => ?_, ?_, ?_, ?_, ?_, ?_, ?_⟩
      · rw [hpi]
        simp only [paramMem, memOf] at hc
        cases hb : Nat.beq r (2 * lentBase + j) with
        | true =>
          rw [hb] at hc
          simp at hc; subst hc
          exact ⟨.var b0, by rw [Nat.eq_of_beq_eq_true hb]; simp, fun m ok hm hok hnd => mapPtr_crep hp (.inr ⟨_, hm (lentBase + j, .obj b (mapBs w b)) (by simp)⟩)⟩
        | false =>
          rw [hb] at hc
          simp only [cond_false] at hc
          cases hb' : Nat.beq r (lentBase + j) with
          | true =>
            rw [hb'] at hc
            simp at hc; subst hc
            exact ⟨.obj b (mapBs w b), by rw [Nat.eq_of_beq_eq_true hb']; simp, fun m ok _ hok hnd => ⟨hnd, es, clock, hh, hpm.free⟩⟩
          | false =>
            rw [hb'] at hc
            obtain ⟨i, hi, hr⟩ := A.mem r c hc
            exact ⟨i, by simp [hi], fun m ok hm hok => hr m ok (fun p hp => hm p (by simp [hp])) hok⟩
      · rw [hpi]; simp [paramMem, A.keys]
      · rw [hpi]
        intro q hq
        simp only [List.mem_cons] at hq
        rcases hq with rfl | rfl | hq
        · exact ⟨j, Nat.le_refl _, by omega, .inl ⟨.inr (.inl rfl), _, .inl rfl⟩⟩
        · exact ⟨j, Nat.le_refl _, by omega, .inl ⟨.inl rfl, _, .inr ⟨_, rfl⟩⟩⟩
        · exact range' q hq
      · rw [hpi]
        simp only [List.map_cons, List.nodup_cons, List.mem_cons]
        refine ⟨?_, fun hh => ?_, A.nodup⟩
        · rintro (hh | hh)
          · omega
          · obtain ⟨q, hq, e⟩ := List.mem_map.1 hh
            exact (notin q hq).2 e
        · obtain ⟨q, hq, e⟩ := List.mem_map.1 hh
          exact (notin q hq).1 e
      · rw [hpi]
        simp only [List.flatMap_cons, A.blocks, pblocks, htw]
        rfl
      · rw [hpi]
        intro q hq
        simp only [List.mem_cons] at hq
        rcases hq with rfl | rfl | hq
        · exact fun _ => trivial
        · exact fun h => h
        · exact A.shape q hq
      · intro m hm
        rw [hpi] at hm
        have h5 := hm (2 * lentBase + j, .var b0) (by simp)
        have h6 := hm (lentBase + j, .obj b (mapBs w b)) (by simp)
        simp only [lentRefs, rts, List.flatMap_cons, lblocks, htr]
        rw [rt_some h5, rt_some h6]
        have := A.lents m (fun p hp => hm p (by simp [hp]))
        simp only [rts] at this
        rw [this]
        rfl
    case zd =>
      obtain ⟨b, C, e, fr, rfl, h3, h4, h5⟩ := h1
      exact plain rfl rfl rfl rfl rfl ⟨_, rfl, fun m ok hok => ⟨b, C, e, fr, rfl, hok b h3, h4, h5⟩⟩
    case own t =>
      have hs : (Impl.arr v).shape := CRep.shape (P := P) (w := w) (ok := ok0) (m := fun _ => none) (c := .arr t _) h1
      have notin : ∀ p ∈ pimpls w ps (j + 1) vals, p.1 ≠ lentBase - 1 - j := fun p hp e => by
        have := (later p hp).2.2.2 0 (by omega)
        omega
      refine ⟨by simp [A.len], fun m ok hm hok => ⟨v, vals, rfl, .inl (hm (lentBase - 1 - j, .arr v) (by simp [pimpls])), A.ls m ok (fun p hp => hm p (by simp [pimpls, hp])) hok⟩, fun r c hc => ?_, ?_, ?_, ?_, ?_, ?_, ?_⟩
      · simp only [paramMem, memOf] at hc
        cases hb : Nat.beq r (lentBase - 1 - j) with
        | true =>
          rw [hb] at hc
          simp at hc; subst hc
          exact ⟨.arr v, by rw [Nat.eq_of_beq_eq_true hb]; simp [pimpls], fun m ok _ hok _ => OwnRow.mono (Keeps.weaken hok) (fun _ _ => rfl) h1⟩
        | false =>
          rw [hb] at hc
          obtain ⟨i, hi, hr⟩ := A.mem r c hc
          exact ⟨i, by simp [pimpls, hi], fun m ok hm hok => hr m ok (fun p hp => hm p (by simp [pimpls, hp])) hok⟩
      · simp [pimpls, paramMem, A.keys]
      · intro q hq
        simp only [pimpls, List.mem_cons] at hq
        rcases hq with rfl | hq
        · exact ⟨j, Nat.le_refl _, by omega, .inr ⟨0, by omega, by simp only; omega⟩⟩
        · exact range' q hq
      · simp only [pimpls, List.map_cons, List.nodup_cons]
        refine ⟨fun hh => ?_, A.nodup⟩
        obtain ⟨q, hq, e⟩ := List.mem_map.1 hh
        exact notin q hq e
      · simp only [pimpls, List.flatMap_cons, A.blocks, pblocks]
        rw [rowBlock_of hs]; rfl
      · intro q hq
        simp only [pimpls, List.mem_cons] at hq
        rcases hq with rfl | hq
        · exact fun _ => hs
        · exact A.shape q hq
      · intro m hm
        have := A.lents m (fun p hp => hm p (by simp [pimpls, hp]))
        exact this
    case blk t =>
      obtain ⟨A0, rfl, h1⟩ := h1
      have ek : ∀ k : Nat, A0.map (·.add (0 * k)) = A0 := fun k => by
        rw [Nat.zero_mul]
        cases A0 <;> rfl
      have notin : ∀ p ∈ pimpls w ps (j + 1) vals, p.1 ≠ lentBase - 1 - j := fun p hp e => by
        have := (later p hp).2.2.2 0 (by omega)
        omega
      refine ⟨by simp [A.len], fun m ok hm hok => ⟨_, vals, rfl, ⟨A0, (RD.hd (k := PK.blk t) x).2, 0 * t.cnt, .inl (hm (lentBase - 1 - j, .blk A0 (RD.hd (k := PK.blk t) x).2) (List.mem_cons_self ..)), by rw [ek]; rfl, .inr rfl⟩, A.ls m ok (fun p hp => hm p (by simp [pimpls, hp])) hok⟩, fun r c hc => ?_, ?_, ?_, ?_, ?_, ?_, ?_⟩
      · simp only [paramMem, memOf] at hc
        cases hb : Nat.beq r (lentBase - 1 - j) with
        | true =>
          rw [hb] at hc
          simp at hc; subst hc
          exact ⟨.blk A0 (RD.hd (k := PK.blk t) x).2, by rw [Nat.eq_of_beq_eq_true hb]; exact List.mem_cons_self .., fun m ok _ hok _ => ⟨rfl, OwnRow.mono (Keeps.weaken hok) (fun _ _ => rfl) h1⟩⟩
        | false =>
          rw [hb] at hc
          obtain ⟨i, hi, hr⟩ := A.mem r c hc
          exact ⟨i, by simp [pimpls, hi], fun m ok hm hok => hr m ok (fun p hp => hm p (by simp [pimpls, hp])) hok⟩
      · simp [pimpls, paramMem, A.keys]
      · intro q hq
        simp only [pimpls, List.mem_cons] at hq
        rcases hq with rfl | hq
        · exact ⟨j, Nat.le_refl _, by omega, .inr ⟨0, by omega, by simp only; omega⟩⟩
        · exact range' q hq
      · simp only [pimpls, List.map_cons, List.nodup_cons]
        refine ⟨fun hh => ?_, A.nodup⟩
        obtain ⟨q, hq, e⟩ := List.mem_map.1 hh
        exact notin q hq e
      · simp only [pimpls, List.flatMap_cons, A.blocks, pblocks]
        cases A0 <;> rfl
      · intro q hq
        simp only [pimpls, List.mem_cons] at hq
        rcases hq with rfl | hq
        · exact fun _ => trivial
        · exact A.shape q hq
      · intro m hm
        have := A.lents m (fun p hp => hm p (by simp [pimpls, hp]))
        exact this
    case wend => exact h1.elim
    case iter t => exact h1.elim
    case lento fs =>
      obtain ⟨hfine, b0, us, e, rfl, hh, hF⟩ := h1
      simp only [fieldsFine, Bool.and_eq_true, Bool.not_eq_true'] at hfine
      obtain ⟨⟨f1, f2⟩, f3⟩ := hfine
      have B := fstarts (P := P) (j := j) (by omega) (i := 0) hF (by have := Nat.le_of_ble_eq_true f1; omega) (Nat.le_of_ble_eq_true f2) f3
      have hfl := Nat.le_of_ble_eq_true f1
      have hpi : pimpls w (.lento fs :: ps) j (.pointer (some ⟨b0, 0, none⟩) :: vals) = (3 * lentBase + j, .var b0) :: (fimpls w j fs 0 us ++ pimpls w ps (j + 1) vals) := by
        simp only [pimpls, ptrBlk, cellsAt_of hh]
      have rangeF : ∀ q ∈ fimpls w j fs 0 us, q.1 = lentBase + j ∨ q.1 = 2 * lentBase + j ∨ ∃ k, k ≤ 900 ∧ q.1 + 1000 * k + j + 1 = lentBase := fun q hq => by
        rcases B.range q hq with ⟨a1 | a1, _⟩ | ⟨k, a1, a2, a3⟩
        · exact .inl a1
        · exact .inr (.inl a1)
        · exact .inr (.inr ⟨k, by omega, a3⟩)
      refine ⟨by simp [A.len], fun m ok hm hok => ⟨_, vals, rfl, ⟨b0, hm (3 * lentBase + j, .var b0) (by rw [hpi]; simp), rfl⟩, A.ls m ok (fun p hp => hm p (by rw [hpi]; simp [hp])) hok⟩, fun r c hc => ?_, ?_, ?_, ?_, ?_, ?_, ?_⟩
      · rw [hpi]
        simp only [paramMem] at hc
        rcases memOf_cons hc with ⟨rfl, rfl⟩ | hc
        · exact ⟨.var b0, by simp, fun m ok hm hok _ => ⟨us, e, hh, B.ls m ok (fun p hp => hm p (by simp [hp])) hok⟩⟩
        · rcases memOf_append hc with hc | hc
          · obtain ⟨im, g1, g2⟩ := B.mem r c hc
            exact ⟨im, by simp [g1], fun m ok hm hok => g2 m ok (fun p hp => hm p (by simp [hp])) hok⟩
          · obtain ⟨i, hi, hr⟩ := A.mem r c hc
            exact ⟨i, by simp [hi], fun m ok hm hok => hr m ok (fun p hp => hm p (by simp [hp])) hok⟩
      · rw [hpi]; simp [paramMem, A.keys, B.keys]
      · rw [hpi]
        intro q hq
        simp only [List.mem_cons, List.mem_append] at hq
        rcases hq with rfl | hq | hq
        · exact ⟨j, Nat.le_refl _, by omega, .inl ⟨.inr (.inr rfl), _, .inl rfl⟩⟩
        · rcases B.range q hq with ⟨a1, a2, _⟩ | ⟨k, a1, a2, a3⟩
          · exact ⟨j, Nat.le_refl _, by omega, .inl ⟨a1.imp (fun h => h) .inl, a2⟩⟩
          · exact ⟨j, Nat.le_refl _, by omega, .inr ⟨k, by omega, a3⟩⟩
        · exact range' q hq
      · rw [hpi]
        simp only [List.map_cons, List.map_append, List.nodup_cons, List.mem_append]
        refine ⟨?_, List.nodup_append.2 ⟨B.nodup, A.nodup, ?_⟩⟩
        · rintro (hh | hh)
          · obtain ⟨q, hq, e⟩ := List.mem_map.1 hh
            rcases rangeF q hq with h | h | ⟨k, h, h'⟩ <;> omega
          · obtain ⟨q, hq, e⟩ := List.mem_map.1 hh
            exact (later q hq).2.2.1 e
        · intro a ha b hb e
          obtain ⟨q, hq, rfl⟩ := List.mem_map.1 ha
          obtain ⟨q', hq', rfl⟩ := List.mem_map.1 hb
          obtain ⟨l1, l2, l3, l4⟩ := later q' hq'
          rcases rangeF q hq with h | h | ⟨k, h, h'⟩
          · exact l1 (e ▸ h)
          · exact l2 (e ▸ h)
          · exact l4 k h (e ▸ h')
      · rw [hpi]
        simp only [List.flatMap_cons, List.flatMap_append, A.blocks, B.blocks, pblocks, lentoBs, cellsAt_of hh]
        rfl
      · rw [hpi]
        intro q hq
        simp only [List.mem_cons, List.mem_append] at hq
        rcases hq with rfl | hq | hq
        · exact fun _ => trivial
        · exact B.shape q hq
        · exact A.shape q hq
      · intro m hm
        rw [hpi] at hm
        have h5 := hm (3 * lentBase + j, .var b0) (by simp)
        have h6 := B.lents m (fun p hp => hm p (by simp [hp]))
        have h7 := A.lents m (fun p hp => hm p (by simp [hp]))
        simp only [lentRefs, rts, List.flatMap_cons, List.flatMap_append, lblocks, lentoRoots, cellsAt_of hh] at h6 h7 ⊢
        rw [rt_some h5, h6, h7]
        rfl
    case mapk g => exact h1.elim
    case seqk g => exact h1.elim
    case lrow t => exact plain rfl rfl rfl rfl rfl ⟨_, rfl, fun m ok hok => trivial⟩
    case ext t => exact plain rfl rfl rfl rfl rfl ⟨_, rfl, fun m ok hok => trivial⟩
    case view => exact plain rfl rfl rfl rfl rfl ⟨_, rfl, fun m ok hok => trivial⟩
theorem look_mem : ∀ {l : List (Nat × Impl)}, (l.map (·.1)).Nodup → ∀ p ∈ l, look l p.1 = some p.2
  | [], _, p, hp => by simp at hp
  | (r, i) :: l, hn, p, hp => by
    simp only [List.map_cons, List.nodup_cons] at hn
    simp only [look]
    cases hp with
    | head => simp
    | tail _ hp =>
      have : r ≠ p.1 := fun e => hn.1 (e ▸ List.mem_map_of_mem hp)
      rw [if_neg this]
      exact look_mem hn.2 p hp
theorem mem_look : ∀ {l : List (Nat × Impl)} {r : Nat} {i : Impl}, look l r = some i → (r, i) ∈ l
  | [], _, _, h => by simp [look] at h
  | (r', i') :: l, r, i, h => by
    simp only [look] at h
    split at h
    · rename_i e; subst e; simp at h; subst h; simp
    · simp [mem_look h]
theorem pair_inj : ∀ {l : List (Nat × Impl)}, (l.flatMap fun p => bk p.2).Nodup → ∀ {p q : Nat × Impl} {b : Nat}, p ∈ l → q ∈ l → b ∈ p.2.blocks → b ∈ q.2.blocks → p.1 = q.1
  | [], _, _, _, _, hp, _, _, _ => by simp at hp
  | x :: l, hn, p, q, b, hp, hq, h1, h2 => by
    simp only [List.flatMap_cons] at hn
    have hd := List.nodup_append.1 hn
    have tailBlock : ∀ {p : Nat × Impl}, p ∈ l → b ∈ p.2.blocks → b ∈ l.flatMap fun p => bk p.2 := fun hp hb => List.mem_flatMap.2 ⟨_, hp, by simp [bk, hb]⟩
    simp only [List.mem_cons] at hp hq
    rcases hp with rfl | hp <;> rcases hq with rfl | hq
    · rfl
    · exact absurd rfl (hd.2.2 b (by simp [bk, h1]) b (tailBlock hq h2))
    · exact absurd rfl (hd.2.2 b (by simp [bk, h2]) b (tailBlock hp h1))
    · exact pair_inj hd.2.1 hp hq h1 h2
theorem memOf_key : ∀ {l : List (Nat × C)} {r : Nat} {c : C}, memOf l r = some c → r ∈ l.map (·.1)
  | [], _, _, h => by simp [memOf] at h
  | (r', c') :: l, r, c, h => by
    simp only [memOf] at h
    cases hb : Nat.beq r r' with
    | true => rw [Nat.eq_of_beq_eq_true hb]; simp
    | false => rw [hb] at h; simp [memOf_key h]
theorem envOf_rep {ok : Nat → Prop} {m : IMap} : ∀ {ls : List L} {vs : List Value}, LReps P w ok m ls vs → ∀ t, LRep P w ok m (envOf ls t) (vs.getD t undef)
  | [], _, h, t => by simp only [envOf]; trivial
  | l :: ls, _, h, t => by
    obtain ⟨v, vs, rfl, h1, h2⟩ := h
    cases t with
    | zero => exact h1
    | succ t => exact envOf_rep h2 t
def entry [Tabs] (w : World) (ok0 : Nat → Prop) (ps : List PK) (vals : List Value) (N : Nat) (hf : Tabs.fine w fun b => ok0 b ∧ ¬ b ∈ pblocks w ps vals) : Entry where
  w0 := w
  ok0 := ok0
  V0 := fun b => b ∈ pblocks w ps vals
  lent := fun r => match look (pimpls w ps 0 vals) r with
    | some (.var b) => some b
    | some (.obj b _) => some b
    | _ => none
  N := N
  keep := fun _ => none
  low := w.heap.size
  lowOk := Nat.le_refl _
  fine := hf
theorem start_rel {ok0 : Nat → Prop} {ps : List PK} {x : RD PK.den ps} {vals : List Value} {N : Nat} (hok : ∀ b, ok0 b → b < w.heap.size) (hp : PReps P w ok0 ps x vals) (hl : ps.length ≤ 1000) (hN : ps.length ≤ N)
    (hnd : (pblocks w ps vals).Nodup) (hpb : ∀ b ∈ pblocks w ps vals, b < w.heap.size ∧ ¬ ok0 b) (hfi : Tabs.fine w fun b => ok0 b ∧ ¬ b ∈ pblocks w ps vals) :
    Rel P (entry w ok0 ps vals N hfi) (look (pimpls w ps 0 vals)) (startSt ps x) { tmps := vals.toArray ++ Array.replicate (N - vals.toArray.size) undef, defers := [] } w := by
  have A := starts (j := 0) hp (by omega)
  have hm : ∀ p ∈ pimpls w ps 0 vals, look (pimpls w ps 0 vals) p.1 = some p.2 := look_mem A.nodup
  have inBlocks : ∀ {p : Nat × Impl} {b : Nat}, p ∈ pimpls w ps 0 vals → b ∈ p.2.blocks → b ∈ pblocks w ps vals := fun hp hb => by
    rw [← A.blocks]; exact List.mem_flatMap.2 ⟨_, hp, by simp [bk, hb]⟩
  have oks : ∀ b, ok0 b → okOf (entry w ok0 ps vals N hfi) (look (pimpls w ps 0 vals)) (startSt ps x).mem w b := fun b hb =>
    ⟨hok b hb, .inl hb, fun ⟨r, c, i, _, hi, hbk⟩ => (hpb b (inBlocks (mem_look hi) hbk)).2 hb⟩
  have hn' : (pblocks w ps vals).Nodup := hnd
  rw [← A.blocks] at hn'
  have bkn : ∀ {p : Nat × Impl}, p ∈ pimpls w ps 0 vals → (bk p.2).Nodup := fun {p} hp =>
    (List.sublist_flatten_of_mem (l := bk p.2) (L := (pimpls w ps 0 vals).map fun p => bk p.2) (List.mem_map.2 ⟨_, hp, rfl⟩)).nodup (by rw [← List.flatMap_def]; exact hn')
  refine ⟨fun t => ?_, fun r c hc => ?_, fun r r' c c' i i' b _ _ hi hi' hb hb' => pair_inj hn' (mem_look hi) (mem_look hi') hb hb', fun r hr => ?_, fun r hr hbase => ?_, Goes.refl _ _, ?_, Marks.nil, fun r i hi => A.shape _ (mem_look hi) (bkn (mem_look hi)), fun _ _ h => by cases h⟩
  · have := envOf_rep (A.ls _ _ hm oks) t
    have e : (vals.toArray ++ Array.replicate (N - vals.toArray.size) undef).getD t undef = vals.getD t undef := by
      rw [Array.getD_eq_getD_getElem?, List.getD_eq_getElem?_getD, Array.getElem?_append]
      split
      · simp
      · rename_i h
        have : vals[t]? = none := List.getElem?_eq_none (by simpa using h)
        rw [this, Array.getElem?_replicate]
        split <;> rfl
    rw [e]
    exact this
  · obtain ⟨i, hi, hr⟩ := A.mem r c hc
    exact ⟨i, hm _ hi, hr _ _ hm oks (bkn hi), fun b hb => ⟨(hpb b (inBlocks hi hb)).1, .inl (inBlocks hi hb)⟩⟩
  · cases hx : look (pimpls w ps 0 vals) r with
    | none => exact absurd hx hr
    | some i =>
      have : r ∈ (pimpls w ps 0 vals).map (·.1) := List.mem_map.2 ⟨_, mem_look hx, rfl⟩
      rw [A.keys] at this
      simpa [startSt] using this
  · obtain ⟨c, hc⟩ := Option.isSome_iff_exists.1 hr
    obtain ⟨i, hi, _⟩ := A.mem r c hc
    have := hm _ hi
    obtain ⟨_, _, _, ⟨_, b, hb⟩ | ⟨k, _, h'⟩⟩ := A.range _ hi
    · rcases hb with hb | ⟨bs, hb⟩ <;> (simp only at hb this; subst hb)
      · exact ⟨b, by simp [entry, this], .inl this⟩
      · exact ⟨b, by simp [entry, this], .inr ⟨bs, this⟩⟩
    · simp only at h'; omega
  · have := A.len
    simp [entry]; omega
end
end Go.GG

/- A function keeps its specification: how it ends. -/
namespace Go.GG
open Go.RowKit
section
variable {τ : Tabs} {P : Program} {E : Entry} {m : IMap} {s : St} {a : Act} {w : World}

/-- What is handed on, and what is given away. -/
structure Ends [Tabs] (P : Program) (E : Entry) (m : IMap) (s : St) (w : World) (rs : List RK) (y : RD RK.den rs) (g : List Nat) (lent : List Nat) (vs : List Value) (G Rs : List Nat) : Prop where
  perm : g.Perm (G ++ (Rs ++ lent))
  alive : ∀ r ∈ G ++ (Rs ++ lent), (s.mem r).isSome
  blocks : (rblocks w rs vs (rts m lent) ++ rts m lent).Perm (blks m Rs ++ blks m lent)
  rep : ∀ ok', Lets E m s w ok' G → RReps w ok' rs y vs (rts m lent)
/-- A result that stands for one value, and leads to nothing that was lent. -/
def RK.plain : RK → Prop
  | .back _ => False
  | .backp _ => False
  | .backd => False
  | .find => False
  | .backo _ => False
  | .ofresho _ => False
  | _ => True
structure EndsOne [Tabs] (P : Program) (E : Entry) (m : IMap) (s : St) (w : World) (r : RK) (x : r.den) (g : List Nat) (v : Value) (G Rs : List Nat) : Prop where
  perm : g.Perm (G ++ Rs)
  alive : ∀ r ∈ G ++ Rs, (s.mem r).isSome
  blocks : ∀ rs vs bs, rblocks w (r :: rs) (v :: vs) bs = blks m Rs ++ rblocks w rs vs bs
  rep : ∀ ok', Lets E m s w ok' G → RRep w ok' r x v
  notBack : r.plain
theorem fresh_ok (h : Rel P E m s a w) {r : Nat} {ls ls' : List L} {g : List Nat} {t : T} {x : t.den} (hr : s.mem r = some (.cells ls)) (hp : pickLeaves s ls = some (ls', g)) (hi : t.implode ls' = some x) :
    (∀ r ∈ g, (s.mem r).isSome) ∧ ∃ b, m r = some (.var b) ∧ ∀ ok', Lets E m s w ok' g → VarAt w ok' t x b := by
  obtain ⟨i, h1, h2, h3⟩ := h.mem r _ hr
  cases i with
  | var b =>
    obtain ⟨us, e, h4, h5⟩ := h2
    obtain ⟨h6, h7⟩ := pickLeaves_ok h hp h5
    exact ⟨h6, b, h1, fun ok' hk => ⟨us, e, h4, implode_holds hi (h7 ok' hk)⟩⟩
  | arr v => exact h2.elim
  | shr v => exact h2.elim
  | blk A c => exact h2.elim
  | obj b bs => exact h2.elim
  | deep v bs => exact h2.elim
/-- A disk of the function's own. -/
theorem disk_parts (h : Rel P E m s a w) {r r' : Nat} {l : FL} {pin : Option (List UInt8 × Nat)} (hr : s.mem r = some (.cells [.mref r'])) (hr' : s.mem r' = some (.pm l pin)) :
    ∃ b0 b bs es clock, m r = some (.var b0) ∧ MPtrAt w b0 b ∧ m r' = some (.obj b bs) ∧ (b :: bs).Nodup ∧ w.heap[b]? = some (.map es clock) ∧ PMap w m l pin bs es clock := by
  obtain ⟨i, h1, h2, h0⟩ := h.mem r _ hr
  cases i <;> simp only [CRep] at h2
  rename_i b0
  obtain ⟨us, e, h3, v, vs, rfl, ⟨b, hb, rfl⟩, h4⟩ := h2
  simp only [LReps] at h4; subst h4
  obtain ⟨bs, es, clock, k1, k2, k3, k4⟩ := obj_of h hr' hb
  exact ⟨b0, b, bs, es, clock, h1, ⟨e, by simpa using h3⟩, k1, k2, k3, k4⟩
theorem diskOk (h : Rel P E m s a w) {r r' : Nat} {l : FL} {v : Value} (hr : s.mem r = some (.cells [.mref r'])) (hr' : s.mem r' = some (.pm l none)) (hl : LRep P w (okOf E m s.mem w) m (.ptr r 0) v) :
    ∃ b0 b, m r = some (.var b0) ∧ v = .pointer (some ⟨b0, 0, none⟩) ∧ MPtrAt w b0 b ∧ MapAt w l b ∧ diskBs w (.pointer (some ⟨b0, 0, none⟩)) = blks m [r, r'] ∧ True := by
  obtain ⟨b0, b, bs, es, clock, k1, k2, k3, k4, k5, k6⟩ := disk_parts h hr hr'
  obtain ⟨b1, h1, rfl⟩ := hl
  rw [k1] at h1; simp at h1; subst h1
  obtain ⟨h2, h3⟩ := MapAt.of k5 k6
  refine ⟨b0, b, k1, rfl, k2, h2, ?_, trivial⟩
  rw [diskBs_of k2, h3]
  simp [blks, blk, k1, k3, Impl.blocks]
theorem outOne_ok (h : Rel P E m s a w) {r : RK} {l : L} {x : r.den} {g : List Nat} {v : Value} (ho : outOne s r l = some (x, g)) (hfit : outFit s l = true) (hl : LRep P w (okOf E m s.mem w) m l v) :
    ∃ G Rs, EndsOne P E m s w r x g v G Rs := by
  unfold outOne at ho
  split at ho
  · -- imm
    obtain ⟨h1, h2⟩ := pickVal_ok h ho hl
    exact ⟨g, [], by simp, by simpa using h1, fun _ _ _ => rfl, h2, trivial⟩
  · -- agg
    split at ho
    · rename_i ls' g1 hp
      split at ho
      · rename_i z hz
        simp only [Option.some.injEq, Prod.mk.injEq] at ho
        obtain ⟨rfl, rfl⟩ := ho
        obtain ⟨vs, rfl, hls⟩ := hl
        obtain ⟨h1, h2⟩ := pickLeaves_ok h hp hls
        exact ⟨g1, [], by simp, by simpa using h1, fun _ _ _ => rfl, fun ok' hk => ⟨vs, rfl, implode_holds hz (h2 ok' hk)⟩, trivial⟩
      · simp at ho
    · simp at ho
  · -- own
    rename_i t r
    split at ho
    · rename_i t' xs hr
      split at ho
      · rename_i z hz
        simp only [Option.some.injEq, Prod.mk.injEq] at ho
        obtain ⟨rfl, rfl⟩ := ho
        obtain ⟨e, he⟩ := cast?_some hz
        cases e; subst he
        obtain ⟨i, h1, h2, h3⟩ := h.mem r _ hr
        simp only [LRep] at hl
        rw [h1] at hl
        rcases hl with hl | hl <;> (simp at hl; subst hl; simp only [CRep] at h2)
        refine ⟨[], [r], by simp, by simp [hr], fun rs vs bs => ?_, fun ok' hk => OwnRow.mono (Keeps.weaken hk.old) (fun _ _ => rfl) h2, trivial⟩
        simp only [rblocks, blks, List.flatMap_cons, List.flatMap_nil, List.append_nil]
        rw [rowBlock_of (h.shape _ _ h1), blk_some h1]
        rfl
      · simp at ho
    · simp at ho
  · -- own, nils
    simp only [Option.some.injEq, Prod.mk.injEq] at ho
    obtain ⟨rfl, rfl⟩ := ho
    simp only [LRep] at hl; subst hl
    exact ⟨[], [], by simp, by simp, fun _ _ _ => rfl, fun _ _ => .inl ⟨rfl, rfl⟩, trivial⟩
  · -- own, a view of a block
    rename_i t r cnt n
    split at ho
    · rename_i t' xs c hr
      simp only [outFit, hr] at hfit
      have hn := Nat.le_of_ble_eq_true hfit
      · split at ho
        · rename_i z hz
          simp only [Option.some.injEq, Prod.mk.injEq] at ho
          obtain ⟨rfl, rfl⟩ := ho
          obtain ⟨e, he⟩ := cast?_some hz
          cases e; subst he
          obtain ⟨A, c1, k, hm, rfl, hk⟩ := hl
          obtain ⟨i, h1, h2, h3⟩ := h.mem r _ hr
          have hm0 := hm
          rcases hm with hm | ⟨n0, hm⟩ <;> (rw [hm] at h1; simp at h1; subst h1; simp only [CRep] at h2)
          obtain ⟨rfl, h2⟩ := h2
          obtain rfl : k = 0 := by
            have := hk.resolve_left (by omega)
            omega
          have hA : A.map (·.add 0) = A := by
            rcases h2 with ⟨h4, _⟩ | ⟨b, C, e', fr, cap, h4, _⟩
            · simp only [Value.slice.injEq] at h4
              obtain ⟨rfl, _⟩ := h4
              rfl
            · simp only [Value.slice.injEq] at h4
              obtain ⟨rfl, _⟩ := h4
              rfl
          rw [hA]
          have hpre := own_take h2 (k := n) hn
          refine ⟨[], [r], by simp, by simp [hr], fun rs vs bs => ?_, fun ok' hk => OwnRow.mono (Keeps.weaken hk.old) (fun _ _ => rfl) hpre, trivial⟩
          simp only [rblocks, blks, List.flatMap_cons, List.flatMap_nil, List.append_nil]
          rw [blk_some hm]
          cases A <;> rfl
        · simp at ho
    · simp at ho
  · -- full
    split at ho
    · rename_i z hz
      simp only [Option.some.injEq, Prod.mk.injEq] at ho
      obtain ⟨rfl, rfl⟩ := ho
      obtain ⟨e, he⟩ := cast?_some hz
      cases e; subst he
      exact ⟨[], [], by simp, by simp, fun _ _ _ => rfl, fun ok' hk => ⟨T.holds_mono (t := .slice _) (Keeps.weaken hk.old) hl.1, hl.2⟩, trivial⟩
    · simp at ho
  · -- fresh
    rename_i t r
    split at ho
    · rename_i ls hr
      split at ho
      · rename_i ls' g1 hp
        split at ho
        · rename_i z hz
          cases hb : Nat.ble lentBase r with
          | true => rw [hb] at ho; simp at ho
          | false =>
            rw [hb] at ho
            simp only [cond_false, Option.some.injEq, Prod.mk.injEq] at ho
            obtain ⟨rfl, rfl⟩ := ho
            obtain ⟨h1, b, h2, h3⟩ := fresh_ok h hr hp hz
            obtain ⟨b', h4, rfl⟩ := hl
            rw [h2] at h4; simp at h4; subst h4
            refine ⟨g1, [r], ?_, fun r' hr' => ?_, fun rs vs bs => ?_, fun ok' hk => ⟨b, rfl, h3 ok' hk⟩, trivial⟩
            · exact (List.perm_append_singleton r g1).symm
            · rcases List.mem_append.1 hr' with hr' | hr'
              · exact h1 r' hr'
              · simp at hr'; subst hr'; simp [hr]
            · simp only [rblocks, blks, List.flatMap_cons, List.flatMap_nil, List.append_nil, ptrBlock]
              rw [blk_some h2]; rfl
        · simp at ho
      · simp at ho
    · simp at ho
  · -- ofresh, nilp
    simp only [Option.some.injEq, Prod.mk.injEq] at ho
    obtain ⟨rfl, rfl⟩ := ho
    simp only [LRep] at hl; subst hl
    exact ⟨[], [], by simp, by simp, fun _ _ _ => rfl, fun _ _ => .inl ⟨rfl, rfl⟩, trivial⟩
  · -- ofresh, ptr
    rename_i t r
    split at ho
    · rename_i ls hr
      split at ho
      · rename_i ls' g1 hp
        split at ho
        · rename_i z hz
          cases hb : Nat.ble lentBase r with
          | true => rw [hb] at ho; simp at ho
          | false =>
            rw [hb] at ho
            simp only [cond_false, Option.some.injEq, Prod.mk.injEq] at ho
            obtain ⟨rfl, rfl⟩ := ho
            obtain ⟨h1, b, h2, h3⟩ := fresh_ok h hr hp hz
            obtain ⟨b', h4, rfl⟩ := hl
            rw [h2] at h4; simp at h4; subst h4
            refine ⟨g1, [r], ?_, fun r' hr' => ?_, fun rs vs bs => ?_, fun ok' hk => .inr ⟨z, b, rfl, rfl, h3 ok' hk⟩, trivial⟩
            · exact (List.perm_append_singleton r g1).symm
            · rcases List.mem_append.1 hr' with hr' | hr'
              · exact h1 r' hr'
              · simp at hr'; subst hr'; simp [hr]
            · simp only [rblocks, blks, List.flatMap_cons, List.flatMap_nil, List.append_nil, ptrBlock]
              rw [blk_some h2]; rfl
        · simp at ho
      · simp at ho
    · simp at ho
  · -- nsl, nils
    simp only [Option.some.injEq, Prod.mk.injEq] at ho
    obtain ⟨rfl, rfl⟩ := ho
    exact ⟨[], [], by simp, by simp, fun _ _ _ => rfl, fun _ _ => .inl ⟨rfl, hl⟩, trivial⟩
  · -- nsl, nnil
    split at ho
    · rename_i z hz
      simp only [Option.some.injEq, Prod.mk.injEq] at ho
      obtain ⟨rfl, rfl⟩ := ho
      obtain ⟨e, he⟩ := cast?_some hz
      cases e; subst he
      exact ⟨[], [], by simp, by simp, fun _ _ _ => rfl, fun ok' hk => .inr ⟨_, rfl, T.holds_mono (t := .slice _) (Keeps.weaken hk.old) hl.1, hl.2⟩, trivial⟩
    · simp at ho
  · simp only [Option.some.injEq, Prod.mk.injEq] at ho
    obtain ⟨_, rfl⟩ := ho
    exact ⟨[], [], by simp, by simp, fun _ _ _ => rfl, fun _ _ => hl, trivial⟩
  · simp only [Option.some.injEq, Prod.mk.injEq] at ho
    obtain ⟨_, rfl⟩ := ho
    exact ⟨[], [], by simp, by simp, fun _ _ _ => rfl, fun _ _ => hl, trivial⟩
  · simp only [Option.some.injEq, Prod.mk.injEq] at ho
    obtain ⟨_, rfl⟩ := ho
    exact ⟨[], [], by simp, by simp, fun _ _ _ => rfl, fun _ _ => hl, trivial⟩
  · -- freshd
    rename_i r
    split at ho
    · rename_i r' hr
      split at ho
      · rename_i l0 hr'
        cases hb : (Nat.ble lentBase r || Nat.ble lentBase r') with
        | true => rw [hb] at ho; simp at ho
        | false =>
          rw [hb] at ho
          simp only [cond_false, Option.some.injEq, Prod.mk.injEq] at ho
          obtain ⟨rfl, rfl⟩ := ho
          obtain ⟨b0, b, k1, rfl, k2, k3, k4, k5⟩ := diskOk h hr hr' hl
          exact ⟨[], [r, r'], by simp, by simp [hr, hr'], fun rs vs bs => by simp only [rblocks, k4], fun ok' hk => ⟨b0, b, rfl, k2, k3⟩, trivial⟩
      · simp at ho
    · simp at ho
  · -- ofreshd, nilp
    simp only [Option.some.injEq, Prod.mk.injEq] at ho
    obtain ⟨rfl, rfl⟩ := ho
    simp only [LRep] at hl; subst hl
    exact ⟨[], [], by simp, by simp, fun _ _ _ => rfl, fun _ _ => .inl ⟨rfl, rfl⟩, trivial⟩
  · -- ofreshd
    rename_i r
    split at ho
    · rename_i r' hr
      split at ho
      · rename_i l0 hr'
        cases hb : (Nat.ble lentBase r || Nat.ble lentBase r') with
        | true => rw [hb] at ho; simp at ho
        | false =>
          rw [hb] at ho
          simp only [cond_false, Option.some.injEq, Prod.mk.injEq] at ho
          obtain ⟨rfl, rfl⟩ := ho
          obtain ⟨b0, b, k1, rfl, k2, k3, k4, k5⟩ := diskOk h hr hr' hl
          exact ⟨[], [r, r'], by simp, by simp [hr, hr'], fun rs vs bs => by simp only [rblocks, k4], fun ok' hk => .inr ⟨l0, b0, b, rfl, rfl, k2, k3⟩, trivial⟩
      · simp at ho
    · simp at ho
  · -- owns
    rename_i r
    split at ho
    · rename_i l0 hr
      simp only [Option.some.injEq, Prod.mk.injEq] at ho
      obtain ⟨rfl, rfl⟩ := ho
      obtain ⟨v0, bs, k1, k2, k3⟩ := deep_of h hr
      obtain ⟨_, hl⟩ := hl
      rw [k1] at hl
      simp only [Option.some.injEq, Impl.deep.injEq] at hl
      obtain ⟨rfl, rfl⟩ := hl
      obtain ⟨k4, k5⟩ := DeepAt.of k3
      refine ⟨[], [r], by simp, by simp [hr], fun rs vs bs' => ?_, fun ok' hk => DeepAt.mono (Keeps.weaken hk.old) k4, trivial⟩
      simp only [rblocks, blks, List.flatMap_cons, List.flatMap_nil, List.append_nil, k5]
      rw [blk_some k1]
      rfl
    · simp at ho
  · -- owns, nils
    simp only [Option.some.injEq, Prod.mk.injEq] at ho
    obtain ⟨rfl, rfl⟩ := ho
    simp only [LRep] at hl; subst hl
    exact ⟨[], [], by simp, by simp, fun _ _ _ => rfl, fun _ _ => .inl ⟨rfl, rfl, rfl, rfl⟩, trivial⟩
  · simp at ho
theorem rreps_cons {ok : Nat → Prop} {r : RK} (hn : r.plain) {rs : List RK} {x : r.den} {y : RD RK.den rs} {v : Value} {vs : List Value} {bs : List Nat} (h1 : RRep w ok r x v) (h2 : RReps w ok rs y vs bs) :
    RReps w ok (r :: rs) (RD.mk (k := r) x y) (v :: vs) bs := by
  cases r
  case back t => exact hn.elim
  case backp t => exact hn.elim
  case backd => exact hn.elim
  case find => exact hn.elim
  case backo fs => exact hn.elim
  case ofresho fs => exact hn.elim
  all_goals exact ⟨v, vs, rfl, by rw [hd_mk]; exact h1, by rw [tl_mk]; exact h2⟩
theorem perm_four (G1 R1 G2 R2 l : List Nat) : ((G1 ++ R1) ++ (G2 ++ (R2 ++ l))).Perm ((G1 ++ G2) ++ ((R1 ++ R2) ++ l)) := by
  simp only [List.append_assoc]
  refine List.Perm.append_left G1 ?_
  rw [← List.append_assoc, ← List.append_assoc G2]
  exact List.Perm.append_right _ List.perm_append_comm
theorem perm_ins {x y u v p : List Nat} (h : (x ++ y).Perm (u ++ v)) : (x ++ (p ++ y)).Perm (u ++ (p ++ v)) := by
  refine List.perm_iff_count.2 fun n => ?_
  have := h.count_eq n
  simp only [List.count_append] at this ⊢
  omega
theorem PEnts.pinned {k : List UInt8} {R p : Nat} (hR : m R = some (.var p)) : ∀ {l : FL} {es : List MapEntry}, PEnts w m (some (k, R)) l es → k ∈ l.map (·.1) → ∃ e ∈ es, keyOf e.key = k ∧ e.val = .pointer (some ⟨p, 0, none⟩)
  | [], _, _, hk => by simp at hk
  | (k', x) :: l, _, h, hk => by
    obtain ⟨e, es', rfl, ⟨h1, h2⟩, h3⟩ := h
    by_cases e1 : k' = k
    · subst e1
      refine ⟨e, by simp, by rw [h1, keyOf_mk], ?_⟩
      rcases h2 with ⟨R', b, h4, h5, h6⟩ | h2
      · simp only [Option.some.injEq, Prod.mk.injEq, true_and] at h4; subst h4
        rw [hR] at h5; simp at h5; subst h5; exact h6
      · exact absurd rfl (h2.1 R)
    · obtain ⟨e2, h4, h5, h6⟩ := PEnts.pinned hR h3 (by simpa [Ne.symm e1] using hk)
      exact ⟨e2, by simp [h4], h5, h6⟩
/-- What the cells of a thing of one's own are given back as. -/
structure EndsF [Tabs] (P : Program) (E : Entry) (m : IMap) (s : St) (w : World) (fs : List FK) (x : RD FK.den fs) (g : List Nat) (us : List Value) (lent lent' G Rs pre : List Nat) : Prop where
  perm : g.Perm (G ++ (Rs ++ pre))
  alive : ∀ r ∈ G ++ (Rs ++ pre), (s.mem r).isSome
  spl : lent = pre ++ lent'
  rest : fRest fs (rts m lent) = rts m lent'
  blocks : (fOwn w fs us (rts m lent) ++ rts m pre).Perm (blks m Rs ++ blks m pre)
  rep : ∀ ok', Lets E m s w ok' G → FReps w ok' fs x us (rts m lent)
  nodsk : fs.any FK.isDsk = false → pre = []
theorem rts_append (m : IMap) (a b : List Nat) : rts m (a ++ b) = rts m a ++ rts m b := by simp [rts]
theorem outF_ok (h : Rel P E m s a w) : ∀ {fs : List FK} {ls : List L} {lent lent' : List Nat} {x : RD FK.den fs} {g : List Nat} {us : List Value}, outF s fs ls lent = some (x, g, lent') → LReps P w (okOf E m s.mem w) m ls us →
    ∃ G Rs pre, EndsF P E m s w fs x g us lent lent' G Rs pre
  | [], ls, lent, lent', x, g, us, ho, hl => by
    cases ls with
    | cons l ls => simp [outF] at ho
    | nil =>
      simp only [outF, Option.some.injEq, Prod.mk.injEq] at ho
      obtain ⟨_, rfl, rfl⟩ := ho
      simp only [LReps] at hl; subst hl
      exact ⟨[], [], [], by simp, by simp, rfl, rfl, by simp [fOwn, blks, rts], fun _ _ => rfl, fun _ => rfl⟩
  | .imm t :: fs, ls, lent, lent', x, g, us, ho, hl => by
    cases ls with
    | nil => simp [outF] at ho
    | cons l ls =>
      obtain ⟨u, us', rfl, h1, h2⟩ := hl
      simp only [outF] at ho
      split at ho
      · rename_i y g1 hy
        split at ho
        · rename_i z g2 lent2 hz
          cases ht : t.leaf with
          | false => rw [ht] at ho; simp at ho
          | true =>
            rw [ht] at ho
            simp only [cond_true, Option.some.injEq, Prod.mk.injEq] at ho
            obtain ⟨rfl, rfl, rfl⟩ := ho
            obtain ⟨k1, k2⟩ := pickVal_ok h hy h1
            obtain ⟨G, Rs, pre, A⟩ := outF_ok h hz h2
            refine ⟨g1 ++ G, Rs, pre, ?_, fun r hr => ?_, A.spl, A.rest, A.blocks, fun ok' hk => ⟨u, us', rfl, by rw [hdF_mk]; exact k2 ok' hk.left, by rw [tlF_mk]; exact A.rep ok' hk.right⟩, fun hd => A.nodsk (by simpa [FK.isDsk] using hd)⟩
            · rw [List.append_assoc]; exact List.Perm.append_left g1 A.perm
            · rw [List.append_assoc] at hr
              rcases List.mem_append.1 hr with hr | hr
              · exact k1 r hr
              · exact A.alive r hr
        · simp at ho
      · simp at ho
  | .row t :: fs, ls, lent, lent', x, g, us, ho, hl => by
    cases ls with
    | nil => simp [outF] at ho
    | cons l ls =>
      obtain ⟨u, us', rfl, h1, h2⟩ := hl
      cases l <;> simp only [outF] at ho <;> try (cases ho; done)
      case nils =>
        split at ho
        · rename_i z g2 lent2 hz
          simp only [Option.some.injEq, Prod.mk.injEq] at ho
          obtain ⟨rfl, rfl, rfl⟩ := ho
          obtain ⟨G, Rs, pre, A⟩ := outF_ok h hz h2
          simp only [LRep] at h1; subst h1
          exact ⟨G, Rs, pre, A.perm, A.alive, A.spl, A.rest, A.blocks, fun ok' hk => ⟨_, us', rfl, by rw [hdF_mk]; exact .inl ⟨rfl, rfl⟩, by rw [tlF_mk]; exact A.rep ok' hk⟩, fun hd => A.nodsk (by simpa [FK.isDsk] using hd)⟩
        · simp at ho
      case sref r =>
        split at ho
        · rename_i t' xs hr
          split at ho
          · rename_i y hy
            split at ho
            · rename_i z g2 lent2 hz
              simp only [Option.some.injEq, Prod.mk.injEq] at ho
              obtain ⟨rfl, rfl, rfl⟩ := ho
              obtain ⟨e, he⟩ := cast?_some hy
              cases e; subst he
              obtain ⟨G, Rs, pre, A⟩ := outF_ok h hz h2
              obtain ⟨i, k1, k2, k3⟩ := h.mem r _ hr
              simp only [LRep] at h1
              rw [k1] at h1
              rcases h1 with h1 | h1 <;> (simp at h1; subst h1; simp only [CRep] at k2)
              have hb : rowBlock u = blk m r := by rw [rowBlock_of (h.shape _ _ k1), blk_some k1]; rfl
              refine ⟨G, r :: Rs, pre, ?_, fun q hq => ?_, A.spl, A.rest, ?_, fun ok' hk => ⟨_, us', rfl, by rw [hdF_mk]; exact OwnRow.mono (Keeps.weaken hk.old) (fun _ _ => rfl) k2, by rw [tlF_mk]; exact A.rep ok' hk⟩, fun hd => A.nodsk (by simpa [FK.isDsk] using hd)⟩
              · refine (A.perm.cons r).trans (List.perm_iff_count.2 fun n => ?_)
                simp only [List.count_append, List.count_cons]
                omega
              · simp only [List.mem_append, List.mem_cons] at hq
                rcases hq with hq | (rfl | hq) | hq
                · exact A.alive _ (by simp [hq])
                · simp [hr]
                · exact A.alive _ (by simp [hq])
                · exact A.alive _ (by simp [hq])
              · simp only [fOwn, hb, blks, List.flatMap_cons, List.append_assoc]
                exact List.Perm.append_left _ A.blocks
            · simp at ho
          · simp at ho
        · simp at ho
  | .segs :: fs, ls, lent, lent', x, g, us, ho, hl => by
    cases ls with
    | nil => simp [outF] at ho
    | cons l ls =>
      obtain ⟨u, us', rfl, h1, h2⟩ := hl
      cases l <;> simp only [outF] at ho <;> try (cases ho; done)
      case nils =>
        split at ho
        · rename_i z g2 lent2 hz
          simp only [Option.some.injEq, Prod.mk.injEq] at ho
          obtain ⟨rfl, rfl, rfl⟩ := ho
          obtain ⟨G, Rs, pre, A⟩ := outF_ok h hz h2
          simp only [LRep] at h1; subst h1
          exact ⟨G, Rs, pre, A.perm, A.alive, A.spl, A.rest, A.blocks, fun ok' hk => ⟨_, us', rfl, by rw [hdF_mk]; exact .inl ⟨rfl, rfl, rfl, rfl⟩, by rw [tlF_mk]; exact A.rep ok' hk⟩, fun hd => A.nodsk (by simpa [FK.isDsk] using hd)⟩
        · simp at ho
      case dref r =>
        split at ho
        · rename_i l0 hr
          split at ho
          · rename_i z g2 lent2 hz
            simp only [Option.some.injEq, Prod.mk.injEq] at ho
            obtain ⟨rfl, rfl, rfl⟩ := ho
            obtain ⟨G, Rs, pre, A⟩ := outF_ok h hz h2
            obtain ⟨v0, bs, k1, k2, k3⟩ := deep_of h hr
            obtain ⟨_, h1⟩ := h1
            rw [k1] at h1
            simp only [Option.some.injEq, Impl.deep.injEq] at h1
            obtain ⟨rfl, rfl⟩ := h1
            obtain ⟨k4, k5⟩ := DeepAt.of k3
            have hb : deepBs w v0 = blk m r := by rw [k5, blk_some k1]; rfl
            refine ⟨G, r :: Rs, pre, ?_, fun q hq => ?_, A.spl, A.rest, ?_, fun ok' hk => ⟨_, us', rfl, by rw [hdF_mk]; exact DeepAt.mono (Keeps.weaken hk.old) k4, by rw [tlF_mk]; exact A.rep ok' hk⟩, fun hd => A.nodsk (by simpa [FK.isDsk] using hd)⟩
            · refine (A.perm.cons r).trans (List.perm_iff_count.2 fun n => ?_)
              simp only [List.count_append, List.count_cons]
              omega
            · simp only [List.mem_append, List.mem_cons] at hq
              rcases hq with hq | (rfl | hq) | hq
              · exact A.alive _ (by simp [hq])
              · simp [hr]
              · exact A.alive _ (by simp [hq])
              · exact A.alive _ (by simp [hq])
            · simp only [fOwn, hb, blks, List.flatMap_cons, List.append_assoc]
              exact List.Perm.append_left _ A.blocks
          · simp at ho
        · simp at ho
  | .dsk :: fs, ls, lent, lent', x, g, us, ho, hl => by
    cases ls with
    | nil => cases lent with
      | nil => simp [outF] at ho
      | cons r0 lent => cases lent <;> simp [outF] at ho
    | cons l ls =>
    cases lent with
    | nil => simp [outF] at ho
    | cons r0 lent =>
    cases lent with
    | nil => simp [outF] at ho
    | cons r1 lent =>
      obtain ⟨u, us', rfl, h1, h2⟩ := hl
      cases l <;> try (simp [outF] at ho; done)
      rename_i r o
      cases o
      case succ => simp [outF] at ho
      simp only [outF] at ho
      split at ho
      · rename_i r' hr0
        split at ho
        · rename_i l0 hr1
          split at ho
          · rename_i z g2 lent2 hz
            cases hb : (Nat.beq r r0 && Nat.beq r' r1) with
            | false => rw [hb] at ho; simp at ho
            | true =>
              rw [hb] at ho
              simp only [cond_true, Option.some.injEq, Prod.mk.injEq] at ho
              obtain ⟨rfl, rfl, rfl⟩ := ho
              simp only [Bool.and_eq_true] at hb
              obtain rfl := Nat.eq_of_beq_eq_true hb.1
              obtain rfl := Nat.eq_of_beq_eq_true hb.2
              obtain ⟨G, Rs, pre, A⟩ := outF_ok h hz h2
              obtain ⟨b0, b, bs, es, clock, k1, k2, k3, k4, k5, k6⟩ := disk_parts h hr0 hr1
              obtain ⟨k7, k8⟩ := MapAt.of k5 k6
              obtain ⟨b', h1, rfl⟩ := h1
              rw [k1] at h1; simp at h1; subst h1
              have e : ∀ q, rts m (r :: r' :: q) = b0 :: b :: rts m q := fun q => by simp [rts, rt_some k1, rt_some k3, Impl.roots, Impl.blocks]
              have e' : ∀ q, blks m (r :: r' :: q) = b0 :: b :: (bs ++ blks m q) := fun q => by simp [blks, blk_some k1, blk_some k3, bk, Impl.blocks]
              refine ⟨G, Rs, r :: r' :: pre, ?_, fun q hq => ?_, by simp [← A.spl], by rw [e]; exact A.rest, ?_, fun ok' hk => ?_, fun hd => by simp [FK.isDsk] at hd⟩
              · refine ((A.perm.cons r').cons r).trans (List.perm_iff_count.2 fun n => ?_)
                simp only [List.count_append, List.count_cons]
                omega
              · simp only [List.mem_append, List.mem_cons] at hq
                rcases hq with hq | hq | rfl | rfl | hq
                · exact A.alive _ (by simp [hq])
                · exact A.alive _ (by simp [hq])
                · simp [hr0]
                · simp [hr1]
                · exact A.alive _ (by simp [hq])
              · rw [e, e, e']
                simp only [fOwn]
                rw [k8]
                refine List.perm_iff_count.2 fun n => ?_
                have := A.blocks.count_eq n
                simp only [List.count_append, List.count_cons] at this ⊢
                omega
              · rw [e]
                exact ⟨b0, b, _, us', rfl, rfl, k2, by rw [hdF_mk]; exact k7, by rw [tlF_mk]; exact A.rep ok' hk⟩
          · simp at ho
        · simp at ho
      · simp at ho
  | .als :: fs, ls, lent, lent', x, g, us, ho, hl => by
    cases ls with
    | nil => cases lent <;> simp [outF] at ho
    | cons l ls =>
    cases lent with
    | nil => simp [outF] at ho
    | cons r0 lent =>
      obtain ⟨u, us', rfl, h1, h2⟩ := hl
      cases l <;> try (simp [outF] at ho; done)
      rename_i r o
      cases o
      case succ => simp [outF] at ho
      simp only [outF] at ho
      split at ho
      · rename_i z g2 lent2 hz
        cases hb : Nat.beq r r0 with
        | false => rw [hb] at ho; simp at ho
        | true =>
          rw [hb] at ho
          simp only [cond_true, Option.some.injEq, Prod.mk.injEq] at ho
          obtain ⟨rfl, rfl, rfl⟩ := ho
          obtain rfl := Nat.eq_of_beq_eq_true hb
          obtain ⟨G, Rs, pre, A⟩ := outF_ok h hz h2
          obtain ⟨b', h1, rfl⟩ := h1
          have e : rts m (r :: lent) = b' :: rts m lent := by simp [rts, rt_some h1, Impl.roots, Impl.blocks]
          refine ⟨G, Rs, pre, A.perm, A.alive, A.spl, A.rest, A.blocks, fun ok' hk => ?_, fun hd => A.nodsk (by simpa [FK.isDsk] using hd)⟩
          have := A.rep ok' hk
          rw [e] at this ⊢
          exact ⟨b', _, us', rfl, rfl, by rw [tlF_mk]; exact this⟩
      · simp at ho
theorem outAll_ok (h : Rel P E m s a w) : ∀ {rs : List RK} {ls : List L} {lent : List Nat} {y : RD RK.den rs} {g : List Nat} {vs : List Value}, outAll s rs ls lent = some (y, g) → ls.all (outFit s) = true → LReps P w (okOf E m s.mem w) m ls vs →
    ∃ G Rs, Ends P E m s w rs y g lent vs G Rs
  | [], ls, lent, y, g, vs, ho, _, hl => by
    cases ls with
    | cons l ls => simp [outAll] at ho
    | nil =>
      cases lent with
      | cons r lent => simp [outAll] at ho
      | nil =>
        simp only [outAll, Option.some.injEq, Prod.mk.injEq] at ho
        obtain ⟨_, rfl⟩ := ho
        simp only [LReps] at hl; subst hl
        exact ⟨[], [], by simp, by simp, List.Perm.refl _, fun _ _ => ⟨rfl, rfl⟩⟩
  | r :: rs, ls, lent, y, g, vs, ho, hfit, hl => by
    by_cases hb : ∃ t, r = .back t
    · obtain ⟨t, rfl⟩ := hb
      cases lent with
      | nil => cases ls <;> simp [outAll, outOne] at ho
      | cons r0 lent =>
        simp only [outAll] at ho
        split at ho
        · rename_i ms hr
          split at ho
          · rename_i ms' g1 hp
            split at ho
            · rename_i x hx
              split at ho
              · rename_i z g2 hz
                simp only [Option.some.injEq, Prod.mk.injEq] at ho
                obtain ⟨rfl, rfl⟩ := ho
                obtain ⟨h1, b, h2, h3⟩ := fresh_ok h hr hp hx
                obtain ⟨G, Rs, A⟩ := outAll_ok h hz hfit hl
                refine ⟨g1 ++ G, Rs, ?_, fun r' hr' => ?_, ?_, fun ok' hk => ?_⟩
                · have p1 : (g1 ++ g2).Perm (g1 ++ (G ++ (Rs ++ lent))) := List.Perm.append_left g1 A.perm
                  have p2 : (r0 :: (g1 ++ (G ++ (Rs ++ lent)))).Perm ((g1 ++ G) ++ (Rs ++ (r0 :: lent))) := by
                    have : (g1 ++ G) ++ (Rs ++ (r0 :: lent)) = ((g1 ++ G) ++ Rs) ++ r0 :: lent := by simp
                    rw [this]
                    have := (List.perm_middle (a := r0) (l₁ := (g1 ++ G) ++ Rs) (l₂ := lent)).symm
                    simpa [List.append_assoc] using this
                  exact (p1.cons r0).trans p2
                · simp only [List.mem_append, List.mem_cons] at hr'
                  rcases hr' with (hr' | hr') | hr' | hr' | hr'
                  · exact h1 r' hr'
                  · exact A.alive r' (by simp [hr'])
                  · exact A.alive r' (by simp [hr'])
                  · subst hr'; simp [hr]
                  · exact A.alive r' (by simp [hr'])
                · have e : rts m (r0 :: lent) = b :: rts m lent := by simp [rts, rt_some h2, Impl.roots, Impl.blocks]
                  have e' : blks m (r0 :: lent) = b :: blks m lent := by simp [blks, blk_some h2, bk, Impl.blocks]
                  rw [e, e']
                  simp only [rblocks]
                  exact perm_ins (p := [b]) A.blocks
                · have e : rts m (r0 :: lent) = b :: rts m lent := by simp [rts, rt_some h2, Impl.roots, Impl.blocks]
                  rw [e]
                  exact ⟨b, _, rfl, by rw [hd_mk]; exact h3 ok' hk.left, by rw [tl_mk]; exact A.rep ok' hk.right⟩
              · simp at ho
            · simp at ho
          · simp at ho
        · simp at ho
    by_cases hbp : ∃ t, r = .backp t
    · obtain ⟨t, rfl⟩ := hbp
      cases lent with
      | nil => cases ls <;> simp [outAll, outOne] at ho
      | cons r0 lent =>
      cases lent with
      | nil => cases ls <;> simp [outAll, outOne] at ho
      | cons r1 lent =>
        simp only [outAll] at ho
        split at ho
        · rename_i r' hr0
          cases hbq : Nat.beq r' r1 with
          | false => rw [hbq] at ho; simp at ho
          | true =>
          rw [hbq] at ho
          simp only [cond_true] at ho
          obtain rfl := Nat.eq_of_beq_eq_true hbq
          split at ho
          · rename_i ms hr
            split at ho
            · rename_i ms' g1 hp
              split at ho
              · rename_i x hx
                split at ho
                · rename_i z g2 hz
                  simp only [Option.some.injEq, Prod.mk.injEq] at ho
                  obtain ⟨rfl, rfl⟩ := ho
                  obtain ⟨h1, b, h2, h3⟩ := fresh_ok h hr hp hx
                  obtain ⟨G, Rs, A⟩ := outAll_ok h hz hfit hl
                  obtain ⟨b0, hm0, hpt⟩ : ∃ b0, m r0 = some (.var b0) ∧ PtrAt w b0 b := by
                    obtain ⟨i, q1, q2, _⟩ := h.mem r0 _ hr0
                    cases i with
                    | var b0 =>
                      obtain ⟨us, e, q3, v0, vs0, rfl, ⟨b', q4, rfl⟩, q5⟩ := q2
                      simp only [LReps] at q5; subst q5
                      rw [h2] at q4
                      simp only [Option.some.injEq, Impl.var.injEq] at q4
                      subst q4
                      exact ⟨b0, q1, e, by simpa using q3⟩
                    | arr v => exact q2.elim
                    | shr v => exact q2.elim
                    | blk A c => exact q2.elim
                    | obj b bs => exact q2.elim
                    | deep v bs => exact q2.elim
                  refine ⟨g1 ++ G, Rs, ?_, fun r' hr' => ?_, ?_, fun ok' hk => ?_⟩
                  · have p1 : (g1 ++ g2).Perm (g1 ++ (G ++ (Rs ++ lent))) := List.Perm.append_left g1 A.perm
                    have p2 : (r0 :: r' :: (g1 ++ (G ++ (Rs ++ lent)))).Perm ((g1 ++ G) ++ (Rs ++ (r0 :: r' :: lent))) := by
                      have : (g1 ++ G) ++ (Rs ++ (r0 :: r' :: lent)) = ((g1 ++ G) ++ Rs) ++ ([r0, r'] ++ lent) := by simp
                      rw [this]
                      have p3 : ([r0, r'] ++ (((g1 ++ G) ++ Rs) ++ lent)).Perm ((((g1 ++ G) ++ Rs)) ++ ([r0, r'] ++ lent)) := by
                        generalize (g1 ++ G) ++ Rs = q
                        rw [← List.append_assoc, ← List.append_assoc]
                        exact List.Perm.append_right _ List.perm_append_comm
                      simpa [List.append_assoc] using p3
                    exact ((p1.cons r').cons r0).trans p2
                  · simp only [List.mem_append, List.mem_cons] at hr'
                    rcases hr' with (hr' | hr') | hr' | hr' | hr' | hr'
                    · exact h1 _ hr'
                    · exact A.alive _ (by simp [hr'])
                    · exact A.alive _ (by simp [hr'])
                    · subst hr'; simp [hr0]
                    · subst hr'; simp [hr]
                    · exact A.alive _ (by simp [hr'])
                  · have e : rts m (r0 :: r' :: lent) = b0 :: b :: rts m lent := by simp [rts, rt_some h2, rt_some hm0, Impl.roots, Impl.blocks]
                    have e' : blks m (r0 :: r' :: lent) = b0 :: b :: blks m lent := by simp [blks, blk_some h2, blk_some hm0, bk, Impl.blocks]
                    rw [e, e']
                    simp only [rblocks]
                    exact perm_ins (p := [b0, b]) A.blocks
                  · have e : rts m (r0 :: r' :: lent) = b0 :: b :: rts m lent := by simp [rts, rt_some h2, rt_some hm0, Impl.roots, Impl.blocks]
                    rw [e]
                    exact ⟨b0, b, _, rfl, hpt, by rw [hd_mk]; exact h3 ok' hk.left, by rw [tl_mk]; exact A.rep ok' hk.right⟩
                · simp at ho
              · simp at ho
            · simp at ho
          · simp at ho
        · simp at ho
    by_cases hbd : r = .backd
    · subst hbd
      cases lent with
      | nil => cases ls <;> simp [outAll, outOne] at ho
      | cons r0 lent =>
      cases lent with
      | nil => cases ls <;> simp [outAll, outOne] at ho
      | cons r1 lent =>
        simp only [outAll] at ho
        split at ho
        · rename_i r' hr0
          cases hbq : Nat.beq r' r1 with
          | false => rw [hbq] at ho; simp at ho
          | true =>
          rw [hbq] at ho
          simp only [cond_true] at ho
          obtain rfl := Nat.eq_of_beq_eq_true hbq
          split at ho
          · rename_i l hr
            split at ho
            · rename_i z g2 hz
              simp only [Option.some.injEq, Prod.mk.injEq] at ho
              obtain ⟨rfl, rfl⟩ := ho
              obtain ⟨G, Rs, A⟩ := outAll_ok h hz hfit hl
              obtain ⟨b0, b, bs, es, clock, k1, k2, k3, k4, k5, k6⟩ := disk_parts h hr0 hr
              obtain ⟨k7, k8⟩ := MapAt.of k5 k6
              have e : rts m (r0 :: r' :: lent) = b0 :: b :: rts m lent := by simp [rts, rt_some k1, rt_some k3, Impl.roots, Impl.blocks]
              have e' : blks m (r0 :: r' :: lent) = b0 :: b :: (bs ++ blks m lent) := by simp [blks, blk_some k1, blk_some k3, bk, Impl.blocks]
              refine ⟨G, Rs, ?_, fun r'' hr'' => ?_, ?_, fun ok' hk => ?_⟩
              · exact (List.Perm.append_left [r0, r'] A.perm).trans (by
                  refine List.perm_iff_count.2 fun n => ?_
                  simp only [List.count_append, List.count_cons, List.count_nil]
                  omega)
              · simp only [List.mem_append, List.mem_cons] at hr''
                rcases hr'' with hr'' | hr'' | rfl | rfl | hr''
                · exact A.alive _ (by simp [hr''])
                · exact A.alive _ (by simp [hr''])
                · simp [hr0]
                · simp [hr]
                · exact A.alive _ (by simp [hr''])
              · rw [e, e']
                simp only [rblocks]
                rw [k8]
                refine List.perm_iff_count.2 fun n => ?_
                have := A.blocks.count_eq n
                simp only [List.count_append, List.count_cons] at this ⊢
                omega
              · rw [e]
                exact ⟨b0, b, _, rfl, k2, by rw [hd_mk]; exact k7, by rw [tl_mk]; exact A.rep ok' hk⟩
            · simp at ho
          · simp at ho
        · simp at ho
    by_cases hfd : r = .find
    · subst hfd
      cases ls with
      | nil => cases lent with
        | nil => simp [outAll] at ho
        | cons r0 lent => cases lent <;> simp [outAll] at ho
      | cons l0 ls =>
      cases lent with
      | nil => simp [outAll, outOne] at ho
      | cons r0 lent =>
      cases lent with
      | nil => simp [outAll, outOne] at ho
      | cons r1 lent =>
        obtain ⟨v0, vs', rfl, hv0, hl'⟩ := hl
        simp only [List.all_cons, Bool.and_eq_true] at hfit
        simp only [outAll] at ho
        split at ho
        · rename_i r' hr0
          cases hbq : Nat.beq r' r1 with
          | false => rw [hbq] at ho; simp at ho
          | true =>
          rw [hbq] at ho
          simp only [cond_true] at ho
          obtain rfl := Nat.eq_of_beq_eq_true hbq
          split at ho
          · rename_i f hr
            split at ho
            · split at ho
              · rename_i z g2 hz
                simp only [Option.some.injEq, Prod.mk.injEq] at ho
                obtain ⟨rfl, rfl⟩ := ho
                obtain ⟨G, Rs, A⟩ := outAll_ok h hz hfit.2 hl'
                obtain ⟨b0, b, bs, es, clock, k1, k2, k3, k4, k5, k6⟩ := disk_parts h hr0 hr
                obtain ⟨k7, k8⟩ := MapAt.of k5 k6
                have e : rts m (r0 :: r' :: lent) = b0 :: b :: rts m lent := by simp [rts, rt_some k1, rt_some k3, Impl.roots, Impl.blocks]
                have e' : blks m (r0 :: r' :: lent) = b0 :: b :: (bs ++ blks m lent) := by simp [blks, blk_some k1, blk_some k3, bk, Impl.blocks]
                simp only [LRep] at hv0
                refine ⟨G, Rs, ?_, fun r'' hr'' => ?_, ?_, fun ok' hk => ?_⟩
                · exact (List.Perm.append_left [r0, r'] A.perm).trans (by
                    refine List.perm_iff_count.2 fun n => ?_
                    simp only [List.count_append, List.count_cons, List.count_nil]
                    omega)
                · simp only [List.mem_append, List.mem_cons] at hr''
                  rcases hr'' with hr'' | hr'' | rfl | rfl | hr''
                  · exact A.alive _ (by simp [hr''])
                  · exact A.alive _ (by simp [hr''])
                  · simp [hr0]
                  · simp [hr]
                  · exact A.alive _ (by simp [hr''])
                · rw [e, e']
                  simp only [rblocks]
                  rw [k8]
                  refine List.perm_iff_count.2 fun n => ?_
                  have := A.blocks.count_eq n
                  simp only [List.count_append, List.count_cons] at this ⊢
                  omega
                · rw [e]
                  exact ⟨b0, b, _, v0, vs', rfl, rfl, k2, by rw [hd_mk]; exact k7, by rw [hd_mk]; exact .inl ⟨rfl, hv0⟩, by rw [tl_mk]; exact A.rep ok' hk⟩
              · simp at ho
            · simp at ho
          · rename_i f k R hr
            split at ho
            · rename_i R'
              split at ho
              · rename_i ls0 hR
                split at ho
                · rename_i x rs0 hth
                  cases hbr : Nat.beq R R' with
                  | false => rw [hbr] at ho; simp at ho
                  | true =>
                  rw [hbr] at ho
                  simp only [cond_true] at ho
                  obtain rfl := Nat.eq_of_beq_eq_true hbr
                  split at ho
                  · rename_i z g2 hz
                    simp only [Option.some.injEq, Prod.mk.injEq] at ho
                    obtain ⟨rfl, rfl⟩ := ho
                    obtain ⟨G, Rs, A⟩ := outAll_ok h hz hfit.2 hl'
                    obtain ⟨b0, b, bs, es, clock, k1, k2, k3, k4, k5, k6⟩ := disk_parts h hr0 hr
                    obtain ⟨p, j1, j2, j3, j4⟩ := thing_at h hR hth
                    obtain ⟨q1, q2⟩ := k6.put (m' := m) j1 j2
                    obtain ⟨k7, k8⟩ := MapAt.of k5 q1
                    obtain ⟨p', hp', rfl⟩ := hv0
                    rw [j1] at hp'; simp at hp'; subst hp'
                    obtain ⟨en, n1, n2, n3⟩ := k6.ents.pinned j1 (k6.pin k R rfl)
                    have e : rts m (r0 :: r' :: lent) = b0 :: b :: rts m lent := by simp [rts, rt_some k1, rt_some k3, Impl.roots, Impl.blocks]
                    have e' : blks m (r0 :: r' :: lent) = b0 :: b :: (bs ++ blks m lent) := by simp [blks, blk_some k1, blk_some k3, bk, Impl.blocks]
                    have e2 : blks m ((R :: rs0) ++ Rs) = (p :: blks m rs0) ++ blks m Rs := by simp [blks, blk_some j1, bk, Impl.blocks]
                    refine ⟨G, (R :: rs0) ++ Rs, ?_, fun r'' hr'' => ?_, ?_, fun ok' hk => ?_⟩
                    · exact (List.Perm.append_left ([r0, r', R] ++ rs0) A.perm).trans (by
                        refine List.perm_iff_count.2 fun n => ?_
                        simp only [List.count_append, List.count_cons, List.count_nil]
                        omega)
                    · simp only [List.mem_append, List.mem_cons] at hr''
                      rcases hr'' with hr'' | ((rfl | hr'') | hr'') | rfl | rfl | hr''
                      · exact A.alive _ (by simp [hr''])
                      · simp [hR]
                      · exact j4 _ hr''
                      · exact A.alive _ (by simp [hr''])
                      · simp [hr0]
                      · simp [hr]
                      · exact A.alive _ (by simp [hr''])
                    · rw [e, e', e2]
                      simp only [rblocks]
                      rw [k8]
                      rw [j3] at q2
                      refine List.perm_iff_count.2 fun n => ?_
                      have h1 := A.blocks.count_eq n
                      have h2 := q2.count_eq n
                      simp only [List.count_append, List.count_cons] at h1 h2 ⊢
                      omega
                    · rw [e]
                      exact ⟨b0, b, _, _, vs', rfl, rfl, k2, by rw [hd_mk]; exact k7, by rw [hd_mk]; exact .inr ⟨k, es, clock, en, rfl, k5, n1, n2, n3⟩, by rw [tl_mk]; exact A.rep ok' hk⟩
                  · simp at ho
                · simp at ho
              · simp at ho
            · simp at ho
          · simp at ho
        · simp at ho
    by_cases hbo : ∃ fs, r = .backo fs
    · obtain ⟨fs, rfl⟩ := hbo
      cases lent with
      | nil => cases ls <;> simp [outAll, outOne] at ho
      | cons q lent =>
        simp only [outAll] at ho
        split at ho
        · rename_i ms hq
          split at ho
          · rename_i x gF lent2 hF
            split at ho
            · rename_i z g2 hz
              cases ha : fs.any FK.isAls with
              | true => rw [ha] at ho; simp at ho
              | false =>
              rw [ha] at ho
              simp only [cond_false, Option.some.injEq, Prod.mk.injEq] at ho
              obtain ⟨rfl, rfl⟩ := ho
              obtain ⟨i, q1, q2, q0⟩ := h.mem q _ hq
              cases i <;> simp only [CRep] at q2
              rename_i b
              obtain ⟨us, e, q3, q4⟩ := q2
              obtain ⟨GF, RF, pre, EF⟩ := outF_ok h hF q4
              obtain ⟨G2, R2, A⟩ := outAll_ok h hz hfit hl
              have e1 : rts m (q :: lent) = b :: rts m lent := by simp [rts, rt_some q1, Impl.roots, Impl.blocks]
              have e2 : blks m (q :: lent) = b :: blks m lent := by simp [blks, blk_some q1, bk, Impl.blocks]
              have e3 : rts m lent = rts m pre ++ rts m lent2 := by rw [EF.spl, rts_append]
              have e4 : blks m lent = blks m pre ++ blks m lent2 := by rw [EF.spl, blks_append]
              refine ⟨GF ++ G2, RF ++ R2, ?_, fun r' hr' => ?_, ?_, fun ok' hk => ?_⟩
              · refine ((List.Perm.append EF.perm A.perm).cons q).trans (List.perm_iff_count.2 fun n => ?_)
                rw [EF.spl]
                simp only [List.count_append, List.count_cons]
                omega
              · rw [EF.spl] at hr'
                simp only [List.mem_append, List.mem_cons] at hr'
                rcases hr' with (hr' | hr') | (hr' | hr') | rfl | hr' | hr'
                · exact EF.alive _ (by simp [hr'])
                · exact A.alive _ (by simp [hr'])
                · exact EF.alive _ (by simp [hr'])
                · exact A.alive _ (by simp [hr'])
                · simp [hq]
                · exact EF.alive _ (by simp [hr'])
                · exact A.alive _ (by simp [hr'])
              · rw [e1, e2]
                simp only [rblocks, cellsAt_of q3, EF.rest, blks_append]
                refine List.perm_iff_count.2 fun n => ?_
                have h1 := EF.blocks.count_eq n
                have h2 := A.blocks.count_eq n
                rw [e4]
                simp only [List.count_append, List.count_cons] at h1 h2 ⊢
                have h3 : (rts m lent).count n = (rts m pre).count n + (rts m lent2).count n := by rw [e3, List.count_append]
                omega
              · rw [e1]
                exact ⟨b, us, e, _, rfl, q3, by rw [hd_mk]; exact EF.rep ok' hk.left, by rw [tl_mk, EF.rest]; exact A.rep ok' hk.right⟩
            · simp at ho
          · simp at ho
        · simp at ho
    by_cases hof : ∃ fs, r = .ofresho fs
    · obtain ⟨fs, rfl⟩ := hof
      cases ls with
      | nil => simp [outAll] at ho
      | cons l ls =>
        obtain ⟨v, vs', rfl, h1, h2⟩ := hl
        simp only [List.all_cons, Bool.and_eq_true] at hfit
        simp only [outAll] at ho
        split at ho
        · split at ho
          · rename_i z g2 hz
            simp only [Option.some.injEq, Prod.mk.injEq] at ho
            obtain ⟨rfl, rfl⟩ := ho
            obtain ⟨G2, R2, A⟩ := outAll_ok h hz hfit.2 h2
            simp only [LRep] at h1; subst h1
            exact ⟨G2, R2, A.perm, A.alive, A.blocks, fun ok' hk => ⟨_, vs', rfl, .inl ⟨by rw [hd_mk], rfl⟩, by rw [tl_mk]; exact A.rep ok' hk⟩⟩
          · simp at ho
        · rename_i q
          split at ho
          · rename_i ms hq
            split at ho
            · rename_i x gF lent2 hF
              split at ho
              · rename_i z g2 hz
                cases ha : (Nat.ble lentBase q || fs.any FK.isDsk) with
                | true => rw [ha] at ho; simp at ho
                | false =>
                rw [ha] at ho
                simp only [cond_false, Option.some.injEq, Prod.mk.injEq] at ho
                obtain ⟨rfl, rfl⟩ := ho
                simp only [Bool.or_eq_false_iff] at ha
                obtain ⟨i, q1, q2, q0⟩ := h.mem q _ hq
                cases i <;> simp only [CRep] at q2
                rename_i b
                obtain ⟨us, e, q3, q4⟩ := q2
                obtain ⟨b', h1, rfl⟩ := h1
                rw [q1] at h1; simp at h1; subst h1
                obtain ⟨GF, RF, pre, EF⟩ := outF_ok h hF q4
                obtain ⟨G2, R2, A⟩ := outAll_ok h hz hfit.2 h2
                have hpre := EF.nodsk ha.2
                subst hpre
                refine ⟨GF ++ G2, (q :: RF) ++ R2, ?_, fun r' hr' => ?_, ?_, fun ok' hk => ⟨_, vs', rfl, .inr ⟨x, b, us, e, by rw [hd_mk], rfl, ha.2, q3, EF.rep ok' hk.left⟩, by rw [tl_mk]; exact A.rep ok' hk.right⟩⟩
                · refine ((List.Perm.append EF.perm A.perm).cons q).trans (List.perm_iff_count.2 fun n => ?_)
                  simp only [List.count_append, List.count_cons, List.count_nil]
                  omega
                · simp only [List.mem_append, List.mem_cons] at hr'
                  rcases hr' with (hr' | hr') | ((rfl | hr') | hr') | hr'
                  · exact EF.alive _ (by simp [hr'])
                  · exact A.alive _ (by simp [hr'])
                  · simp [hq]
                  · exact EF.alive _ (by simp [hr'])
                  · exact A.alive _ (by simp [hr'])
                  · exact A.alive _ (by simp [hr'])
                · have e2 : blks m ((q :: RF) ++ R2) = (b :: blks m RF) ++ blks m R2 := by simp [blks, blk_some q1, bk, Impl.blocks]
                  rw [e2]
                  simp only [rblocks, lentoOwn, cellsAt_of q3]
                  refine List.perm_iff_count.2 fun n => ?_
                  have h1 := EF.blocks.count_eq n
                  have h2 := A.blocks.count_eq n
                  simp only [rts, blks, List.flatMap_nil, List.append_nil] at h1
                  simp only [List.count_append, List.count_cons] at h1 h2 ⊢
                  simp only [rts, blks] at h2 ⊢
                  omega
              · simp at ho
            · simp at ho
          · simp at ho
        · simp at ho
    · have hnb : r.plain := by
        cases r <;> first | trivial | (exfalso; simp_all)
      cases ls with
      | nil =>
        cases r
        case back t => exact hnb.elim
        case backp t => exact hnb.elim
        case backd => exact hnb.elim
        case find => exact hnb.elim
        case backo t => exact hnb.elim
        case ofresho t => exact hnb.elim
        all_goals (cases lent <;> simp [outAll] at ho)
      | cons l ls =>
        obtain ⟨v, vs', rfl, h1, h2⟩ := hl
        have ho' : ∃ x g1 z g2, outOne s r l = some (x, g1) ∧ outAll s rs ls lent = some (z, g2) ∧ y = RD.mk (k := r) x z ∧ g = g1 ++ g2 := by
          cases r
          case back t => exact hnb.elim
          case backp t => exact hnb.elim
          case backd => exact hnb.elim
          case find => exact hnb.elim
          case backo t => exact hnb.elim
          case ofresho t => exact hnb.elim
          all_goals
            simp only [outAll] at ho
            split at ho
            · rename_i x g1 hx
              split at ho
              · rename_i z g2 hz
                simp only [Option.some.injEq, Prod.mk.injEq] at ho
                obtain ⟨rfl, rfl⟩ := ho
                exact ⟨x, g1, z, g2, hx, hz, rfl, rfl⟩
              · simp at ho
            · simp at ho
        obtain ⟨x, g1, z, g2, hx, hz, rfl, rfl⟩ := ho'
        simp only [List.all_cons, Bool.and_eq_true] at hfit
        obtain ⟨G1, R1, A⟩ := outOne_ok h hx hfit.1 h1
        obtain ⟨G2, R2, B⟩ := outAll_ok h hz hfit.2 h2
        refine ⟨G1 ++ G2, R1 ++ R2, (List.Perm.append A.perm B.perm).trans (perm_four _ _ _ _ _), fun r' hr' => ?_, ?_, fun ok' hk => ?_⟩
        · simp only [List.mem_append] at hr'
          rcases hr' with (hr' | hr') | (hr' | hr') | hr'
          · exact A.alive r' (by simp [hr'])
          · exact B.alive r' (by simp [hr'])
          · exact A.alive r' (by simp [hr'])
          · exact B.alive r' (by simp [hr'])
          · exact B.alive r' (by simp [hr'])
        · rw [A.blocks]
          refine List.perm_iff_count.2 fun n => ?_
          have := B.blocks.count_eq n
          have e : blks m (R1 ++ R2) = blks m R1 ++ blks m R2 := by simp [blks]
          rw [e]
          simp only [List.count_append] at this ⊢
          omega
        · exact rreps_cons hnb (A.rep ok' hk.left) (B.rep ok' hk.right)

theorem resultL_ok (h : Rel P E m s a w) {tab : Tab} (hT : TabOk P tab) {v : ResultVar} {l : L} (hr : resultL tab s v = some l) : ∃ u, (match v with
    | .tmp t => pure (a.tmps.getD t undef)
    | .cell b t => do loadVar t (← asAddr (a.tmps.getD b undef)) : Sem Value).run P w = .ok u w ∧ LRep P w (okOf E m s.mem w) m l u := by
  cases v with
  | tmp t => simp only [resultL, Option.some.injEq] at hr; subst hr; exact ⟨_, rfl, h.env t⟩
  | cell b t =>
    simp only [resultL] at hr
    split at hr
    · rename_i i r off hi hb
      split at hr
      · rename_i ls hls
        have hv := h.env b
        rw [hb] at hv
        obtain ⟨bl, h1, h2⟩ := hv
        obtain ⟨j, h3, h4, _⟩ := h.mem r _ hls
        rw [h1] at h3; simp at h3; subst h3
        obtain ⟨us, e, h5, h6⟩ := h4
        have he : Ev (loadLs i ls off) s.mem l := by
          unfold loadLs
          cases ha : i.isAgg with
          | true =>
            rw [ha] at hr
            simp only [cond_true] at hr ⊢
            cases hb2 : Nat.ble (off + i.size) ls.length with
            | true => rw [hb2] at hr; simp at hr; subst hr; exact ev_pure.2 rfl
            | false => rw [hb2] at hr; simp at hr
          | false =>
            rw [ha] at hr
            simp only [cond_false] at hr ⊢
            rw [hr]
            exact ev_pure.2 rfl
        obtain ⟨u, hu, hru⟩ := loadVar_run (o := 0) (hT _ _ hi) h5 h6 (fun j v hv => by simpa using hv) he
        refine ⟨u, ?_, hru⟩
        show (do loadVar t (← asAddr (a.tmps.getD b undef)) : Sem Value).run P w = _
        rw [h2]
        simp only [Nat.zero_add] at hu
        simp [asAddr, hu]
      · simp at hr
    · simp at hr
theorem resultLs_ok (h : Rel P E m s a w) {tab : Tab} (hT : TabOk P tab) : ∀ {l : List ResultVar} {ls : List L}, resultLs tab s l = some ls → ∃ us, (l.mapM fun v => (match v with
    | .tmp t => pure (a.tmps.getD t undef)
    | .cell b t => do loadVar t (← asAddr (a.tmps.getD b undef)) : Sem Value)).run P w = .ok us w ∧ LReps P w (okOf E m s.mem w) m ls us
  | [], ls, hr => by simp only [resultLs, Option.some.injEq] at hr; subst hr; exact ⟨[], rfl, rfl⟩
  | v :: l, ls, hr => by
    simp only [resultLs] at hr
    split at hr
    · simp at hr
    · rename_i l1 h1
      split at hr
      · simp at hr
      · rename_i ls1 h2
        simp only [Option.some.injEq] at hr; subst hr
        obtain ⟨u, hu, hru⟩ := resultL_ok h hT h1
        obtain ⟨us, hus, hrus⟩ := resultLs_ok h hT h2
        exact ⟨u :: us, by simp only [List.mapM_cons, Sem.run_bind, hu, Result.andThen_ok, hus, Sem.run_pure], u, us, rfl, hru, hrus⟩
theorem results_ok (h : Rel P E m s a w) {tab : Tab} (hT : TabOk P tab) {fn : Func} {ls : List L} (hr : resultLs tab s fn.results.toList = some ls) :
    ∃ us, (results fn a.tmps).run P w = .ok (valOf us) w ∧ LReps P w (okOf E m s.mem w) m ls us := by
  obtain ⟨us, h1, h2⟩ := resultLs_ok h hT hr
  refine ⟨us, ?_, h2⟩
  unfold results
  rw [Array.mapM_eq_mapM_toList]
  simp only [Sem.run_bind, Sem.run_map]
  have h1' := h1
  erw [h1']
  simp only [Result.andThen_ok, Sem.run_pure]
  match us with
  | [] => rfl
  | [v] => rfl
  | v :: u :: us => simp [valOf]

theorem rts_congr {m m' : IMap} : ∀ {rs : List Nat}, (∀ r ∈ rs, rt m r = rt m' r) → rts m rs = rts m' rs
  | [], _ => rfl
  | r :: rs, h => by
    have := rts_congr (rs := rs) fun r' hr' => h r' (by simp [hr'])
    simp only [rts, List.flatMap_cons] at this ⊢
    rw [this, h r (by simp)]
theorem blks_congr {m m' : IMap} : ∀ {rs : List Nat}, (∀ r ∈ rs, blk m r = blk m' r) → blks m rs = blks m' rs
  | [], _ => rfl
  | r :: rs, h => by
    have := blks_congr (rs := rs) fun r' hr' => h r' (by simp [hr'])
    simp only [blks, List.flatMap_cons] at this ⊢
    rw [this, h r (by simp)]
/-- The marks are shut, one after the other. -/
theorem marks_leave {E : Entry} {fn : Func} {R : Ending → World → Prop} {n : Nat} (hlow : E.low = E.w0.heap.size) : ∀ (Ds : List Nat) {m : IMap} {s : St} {a : Act} {w : World}, Rel P E m s a w → a.defers = Ds.map (fun D => { target := .collected D, args := #[] }) → Ds.Nodup →
    (∀ D ∈ Ds, (okOf E m s.mem w D ∧ E.low ≤ D) ∧ w.heap[D]? = some (.deferred (some []))) → (∀ a2 w2, a2.tmps = a.tmps → Rel P E m s a2 w2 → ∃ v, (results fn a2.tmps).run P w2 = .ok v w2 ∧ R (.returned v) w2) →
    LeavesInM Fence.wide n P fn a.tmps R a.defers .returning w
  | [], m, s, a, w, h, hd, _, _, hmain => by
    rw [hd]
    exact hmain a w rfl h
  | D :: Ds, m, s, a, w, h, hd, hn, hm, hmain => by
    rw [hd]
    obtain ⟨⟨hok, hlo⟩, hh⟩ := hm D (List.mem_cons_self ..)
    have hn' := List.nodup_cons.1 hn
    have hne : ∀ b, b ≠ D → (w.putObj D (.deferred none)).heap[b]? = w.heap[b]? := fun b hb => World.putObj_heap_other hb
    refine ⟨by simp, .inl ⟨D, _, rfl, run_takeDeferred hh, ?_⟩⟩
    have hr : Rel P E m s { a with defers := Ds.map (fun D => { target := .collected D, args := #[] }) } (w.putObj D (.deferred none)) := by
      refine h.shiftK (fun b hb => ⟨⟨by rw [World.putObj_size]; exact hb.1, hb.2.1, hb.2.2⟩, fun C e fr hc => ?_⟩) (fun b hb => ?_) rfl ⟨h.goes.os, h.goes.tape, h.goes.output, by rw [World.putObj_size]; exact h.goes.size, fun b hb hv => ?_⟩ (fun t => .inr rfl) h.size ?_ h.keep
      · by_cases e' : b = D
        · subst e'; rw [hh] at hc; cases hc
        · rw [hne b e']; exact hc
      · have hbD : b ≠ D := fun e' => by subst e'; exact hok.2.2 hb
        obtain ⟨r, c, i, h1, h2, h3⟩ := hb
        obtain ⟨i', h4, _, h5⟩ := h.mem r c h1
        rw [h2] at h4
        obtain rfl := Option.some.inj h4
        exact ⟨by rw [World.putObj_size]; exact (h5 b h3).1, (h5 b h3).2, hne b hbD⟩
      · rw [hne b (by omega)]; exact h.goes.block b hb hv
      · refine ⟨Ds, rfl, hn'.2, fun D' hD' => ?_⟩
        obtain ⟨⟨h1, h2⟩, h3⟩ := hm D' (List.mem_cons_of_mem _ hD')
        refine ⟨⟨⟨by rw [World.putObj_size]; exact h1.1, h1.2.1, h1.2.2⟩, h2⟩, (hne D' fun e' => hn'.1 (e' ▸ hD')).trans h3⟩
    have := marks_leave (n := n) (fn := fn) (R := R) hlow Ds hr rfl hn'.2 (fun D' hD' => ?_) (fun a2 w2 e2 hr2 => hmain a2 w2 e2 hr2)
    · exact this
    · obtain ⟨⟨h1, h2⟩, h3⟩ := hm D' (List.mem_cons_of_mem _ hD')
      exact ⟨⟨⟨by rw [World.putObj_size]; exact h1.1, h1.2.1, h1.2.2⟩, h2⟩, (hne D' fun e' => hn'.1 (e' ▸ hD')).trans h3⟩
/-- A function whose parts are right keeps its specification. -/
theorem func_sound {tab : Tab} (hT : TabOk P tab) {Γ : Env} (hΓ : EnvOk P Γ) (hm : P.follows .mixedOrders = true) {f : FuncId} {fn : Func} {c : Code} {sp : FSpec} {Λ : Parts} (hf : P.funcs[f]? = some fn) (hb : fn.body = some c) (hname : fn.name ≠ "runtime.NumGoroutine")
    (hN : sp.ps.length ≤ fn.ntmps) (hl : sp.ps.length ≤ 1000) (hreg : regionsOk fn.ntmps c = true) (hparts : PartsOk tab Γ Λ 0 c) (hfunc : FuncOk tab Γ Λ fn c sp) : SpecOk P f sp := by
  refine ⟨⟨fn, hf, hname, by rw [hb]; rfl⟩, fun k x y hy w ok0 vals hok htb hp hnd hpb => ?_⟩
  have hfi : Tabs.fine w fun b => ok0 b ∧ ¬ b ∈ pblocks w sp.ps vals := htb.mono fun b hb => ⟨hb, fun hp => (hpb b hp).2 hb⟩
  have hlen : vals.length = sp.ps.length := (starts (j := 0) hp (by omega)).len
  have A := starts (P := P) (w := w) (j := 0) hp (by omega)
  refine callsIn_wide.1 (callsIn_of_wp_marks (F := Fence.wide) (n := 0) hf hb trivial ?_)
  rw [hfunc k x] at hy
  refine aexec_sound hT hΓ hm c 0 hparts k 0 none (entry w ok0 sp.ps vals fn.ntmps hfi) hreg (fun _ _ => rfl) (.inl rfl) hy ⟨_, start_rel hok hp hl hN (List.nodup_append.1 hnd).1 hpb hfi⟩ (fun a w h => by obtain ⟨vs, h, _⟩ := h; cases h) ?_
  rintro e s0 a0 w0' hfin ⟨m0, h0⟩
  obtain ⟨m, hrel⟩ : ∃ m, Rel P (entry w ok0 sp.ps vals fn.ntmps hfi) m (cond (sp.rs.any RK.isFind) s0 (settles s0 (diskRefs sp.ps 0 ++ (lentoDrefs s0 sp.ps 0 ++ resDrefs s0 fn.results.toList)))) a0 w0' := by
    cases sp.rs.any RK.isFind with
    | true => exact ⟨m0, h0⟩
    | false => exact settles_rel h0
  unfold finish at hfin
  generalize cond (sp.rs.any RK.isFind) s0 (settles s0 (diskRefs sp.ps 0 ++ (lentoDrefs s0 sp.ps 0 ++ resDrefs s0 fn.results.toList))) = s at hrel hfin
  have done : ∀ a' w', Rel P (entry w ok0 sp.ps vals fn.ntmps hfi) m s a' w' → resultLs tab s fn.results.toList = none ∨ (∃ ls, resultLs tab s fn.results.toList = some ls ∧ ∃ g, outAll s sp.rs ls (lentRefs sp.ps 0) = some (y, g) ∧ nodup g = true ∧ ls.all (outFit s) = true) → e ≠ .exit 0 → (resultLs tab s fn.results.toList ≠ none) →
      ∃ v, (results fn a'.tmps).run P w' = .ok v w' ∧ ∃ vs, Ending.returned v = .returned (valOf vs) ∧ Goes (· ∈ pblocks w sp.ps vals) w w' ∧ (rblocks w' sp.rs vs (lblocks w sp.ps vals) ++ lblocks w sp.ps vals).Nodup ∧
        (∀ b ∈ rblocks w' sp.rs vs (lblocks w sp.ps vals), b < w'.heap.size ∧ (b ∈ pblocks w sp.ps vals ∨ w.heap.size ≤ b)) ∧
        RReps w' (fun b => b < w'.heap.size ∧ (ok0 b ∨ b ∈ pblocks w sp.ps vals ∨ w.heap.size ≤ b) ∧ b ∉ rblocks w' sp.rs vs (lblocks w sp.ps vals) ++ lblocks w sp.ps vals) sp.rs y vs (lblocks w sp.ps vals) := by
    rintro a' w' h (hnone | ⟨ls, hls, g, ho, hg, hfit⟩) _ hsome
    · exact absurd hnone hsome
    obtain ⟨vs, h1, h2⟩ := results_ok h hT hls
    obtain ⟨G, Rs, B⟩ := outAll_ok h ho hfit h2
    have hgn : (G ++ (Rs ++ lentRefs sp.ps 0)).Nodup := B.perm.nodup_iff.1 (nodup_iff hg)
    have hgd := List.nodup_append.1 hgn
    -- the lent blocks are where they were
    have hlb : rts m (lentRefs sp.ps 0) = lblocks w sp.ps vals := by
      rw [← A.lents (look (pimpls w sp.ps 0 vals)) (look_mem A.nodup)]
      have key : ∀ r ∈ lentRefs sp.ps 0, rt m r = rt (look (pimpls w sp.ps 0 vals)) r := by
        intro r hr
        have hbase : lentBase ≤ r := by
          have : ∀ (ps : List PK) (j r : Nat), r ∈ lentRefs ps j → lentBase ≤ r := by
            intro ps
            induction ps with
            | nil => intro j r hr; simp [lentRefs] at hr
            | cons p ps ih =>
              intro j r hr
              cases p <;> simp only [lentRefs, List.mem_cons] at hr
              case lent t =>
                rcases hr with rfl | hr
                · omega
                · exact ih _ _ hr
              case lentp t =>
                rcases hr with rfl | rfl | hr
                · simp only [lentBase]; omega
                · omega
                · exact ih _ _ hr
              case disk =>
                rcases hr with rfl | rfl | hr
                · simp only [lentBase]; omega
                · omega
                · exact ih _ _ hr
              case lento fs =>
                rw [List.mem_append] at hr
                rcases hr with rfl | hr | hr
                · simp only [lentBase]; omega
                · have fr : ∀ (fs : List FK) (r : Nat), r ∈ fldRefs j fs → lentBase ≤ r := by
                    intro fs
                    induction fs with
                    | nil => intro r hr; simp [fldRefs] at hr
                    | cons f fs ihf =>
                      intro r hr
                      cases f <;> simp only [fldRefs, List.mem_cons] at hr
                      case dsk =>
                        rcases hr with rfl | rfl | hr
                        · simp only [lentBase]; omega
                        · omega
                        · exact ihf _ hr
                      all_goals exact ihf _ hr
                  exact fr fs r hr
                · exact ih _ _ hr
              all_goals exact ih _ _ hr
          exact this _ _ _ hr
        obtain ⟨b, h3, h4⟩ := h.lent r (B.alive r (by simp [hr])) hbase
        simp only [entry] at h3
        have h4' : rt m r = [b] := by
          rcases h4 with h4 | ⟨bs, h4⟩ <;> simp [rt_some h4, Impl.roots, Impl.blocks]
        split at h3
        · rename_i b' hb'
          simp at h3; subst h3
          rw [h4', rt_some hb']; rfl
        · rename_i b' bs' hb'
          simp at h3; subst h3
          rw [h4', rt_some hb']; rfl
        · simp at h3
      exact rts_congr key
    have alive2 : ∀ r ∈ Rs ++ lentRefs sp.ps 0, (s.mem r).isSome := fun r hr => B.alive r (List.mem_append_right _ hr)
    have hblk : (rblocks w' sp.rs vs (lblocks w sp.ps vals) ++ lblocks w sp.ps vals).Perm (blks m (Rs ++ lentRefs sp.ps 0)) := by
      have e : blks m (Rs ++ lentRefs sp.ps 0) = blks m Rs ++ blks m (lentRefs sp.ps 0) := by simp [blks]
      rw [e, ← hlb]; exact B.blocks
    refine ⟨_, h1, vs, rfl, h.goes, hblk.nodup_iff.2 (h.blks_nodup hgd.2.1 alive2), fun b hb => ?_, ?_⟩
    · have hb := hblk.mem_iff.1 (List.mem_append.2 (.inl hb))
      obtain ⟨r, hr, i, hi, hbk⟩ := mem_blks hb
      obtain ⟨c', hc'⟩ := Option.isSome_iff_exists.1 (alive2 r hr)
      obtain ⟨i', h3, _, h5⟩ := h.mem r c' hc'
      rw [hi] at h3; simp at h3; subst h3
      exact h5 b hbk
    · have hm' : ∀ n, n ∉ rblocks w' sp.rs vs (lblocks w sp.ps vals) ++ lblocks w sp.ps vals ↔ n ∉ blks m (Rs ++ lentRefs sp.ps 0) := fun n => by rw [hblk.mem_iff]
      simp only [hm']
      rw [← hlb]
      refine B.rep _ ⟨fun b hb => ⟨hb.1, hb.2.1, fun hh => ?_⟩, fun r hr i b hi hbk => ?_⟩
      · obtain ⟨r, hr, i, hi, hbk⟩ := mem_blks hh
        obtain ⟨c', hc'⟩ := Option.isSome_iff_exists.1 (alive2 r hr)
        exact hb.2.2 ⟨r, c', i, hc', hi, hbk⟩
      · obtain ⟨c', hc'⟩ := Option.isSome_iff_exists.1 (B.alive r (by simp [hr]))
        obtain ⟨i', h3, _, h5⟩ := h.mem r c' hc'
        rw [hi] at h3; simp at h3; subst h3
        refine ⟨(h5 b hbk).1, .inr (h5 b hbk).2, fun hh => ?_⟩
        obtain ⟨r', hr', i', hi', hbk'⟩ := mem_blks hh
        obtain ⟨c'', hc''⟩ := Option.isSome_iff_exists.1 (alive2 r' hr')
        have := h.inj r r' c' c'' i i' b hc' hc'' hi hi' hbk hbk'
        subst this
        exact hgd.2.2 r hr r hr' rfl
  have fin : ∀ {o : Option (RD RK.den sp.rs)}, o = some y → o = (match resultLs tab s fn.results.toList with
      | none => none
      | some ls => cond (ls.all (outFit s)) (match outAll s sp.rs ls (lentRefs sp.ps 0) with
        | none => none
        | some (y, g) => cond (nodup g) (some y) none) none) → ∃ ls, resultLs tab s fn.results.toList = some ls ∧ ∃ g, outAll s sp.rs ls (lentRefs sp.ps 0) = some (y, g) ∧ nodup g = true ∧ ls.all (outFit s) = true := by
    intro o ho he
    rw [ho] at he
    split at he
    · simp at he
    · rename_i ls hls
      cases hfit : ls.all (outFit s) with
      | false => rw [hfit] at he; simp at he
      | true =>
      rw [hfit] at he
      simp only [cond_true] at he
      split at he
      · simp at he
      · rename_i y' g hg
        cases hn : nodup g with
        | false => rw [hn] at he; simp at he
        | true => rw [hn] at he; simp at he; subst he; exact ⟨ls, hls, g, hg, hn, hfit⟩
  cases e with
  | exit id => simp [finish0] at hfin
  | normal =>
    have hx := fin hfin rfl
    obtain ⟨ls, hls, hrest⟩ := hx
    obtain ⟨Ds, q1, q2, q3⟩ := hrel.defers
    exact marks_leave rfl Ds hrel q1 q2 q3 fun a2 w2 _ hr2 => done a2 w2 hr2 (.inr ⟨ls, hls, hrest⟩) (by simp) (by simp [hls])
  | ret =>
    have hx := fin hfin rfl
    obtain ⟨ls, hls, hrest⟩ := hx
    obtain ⟨Ds, q1, q2, q3⟩ := hrel.defers
    exact marks_leave rfl Ds hrel q1 q2 q3 fun a2 w2 _ hr2 => done a2 w2 hr2 (.inr ⟨ls, hls, hrest⟩) (by simp) (by simp [hls])
end
end Go.GG
