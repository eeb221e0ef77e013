/- Operations that leave memory alone: the machine does so. -/
import Derived.Test.YtnpjmdoglcmahaaC3
namespace Go.GG
open Go.RowKit
section
variable {P : Program} {w : World} {ok : Nat → Prop} {m : IMap} {μ : Nat → Option C}

theorem rep_int {k : IntKind} {n : Int} {v : Value} (h : LRep P w ok m (.val (.int k) n) v) : v = .int k n := by simpa [LRep, T.holds] using h
theorem rep_bool {b : Bool} {v : Value} (h : LRep P w ok m (.val .bool b) v) : v = .bool b := by simpa [LRep, T.holds] using h
theorem rep_str {s : List UInt8} {v : Value} (h : LRep P w ok m (.val .str s) v) : v = .string ⟨s.toArray⟩ := by simpa [LRep, T.holds] using h
theorem mk_int (k : IntKind) (n : Int) : LRep P w ok m (.val (.int k) n) (.int k n) := by simp [LRep, T.holds]
theorem mk_bool (b : Bool) : LRep P w ok m (.val .bool b) (.bool b) := by simp [LRep, T.holds]
theorem mk_str (s : List UInt8) : LRep P w ok m (.val .str s) (.string ⟨s.toArray⟩) := by simp [LRep, T.holds]

theorem eqGuard_ok (op : BinOp) (t : TypeId) (x y : Operand) (a b : Value) (h1 : ¬ (a = .nilIface ∧ b = .nilIface)) (h2 : ∀ xs ys, a = .agg xs → b = .agg ys → P.eqGuardType P.depth t = false) :
    (eqGuard op t x y a b).run P w = .ok () w := by
  unfold eqGuard
  cases op <;> first
    | rfl
    | (simp only [Bool.not_true, Bool.false_eq_true, if_false]
       split
       · exact absurd ⟨rfl, rfl⟩ h1
       · rename_i xs ys
         simp [h2 xs ys rfl rfl]
       · rfl)

theorem eqNeq_run {op : BinOp} {b : Bool} {l : L} {t : TypeId} {vx vy : Value} (he : Ev (eqNeq op b) μ l) (hq : (Op.equal t vx vy).run P w = .ok b w)
    (hne : ∀ k c, vx ≠ .int k c) (hnf : ∀ k c, vx ≠ .float k c) (hnc : ∀ k c d, vx ≠ .complex k c d) (hns : ∀ c, vx ≠ .string c) :
    ∃ v, (binOp op t vx vy).run P w = .ok v w ∧ LRep P w ok m l v := by
  cases op <;> simp only [eqNeq, ev_pure, ev_fail] at he
  · subst he
    refine ⟨.bool b, ?_, mk_bool _⟩
    cases vx <;> simp_all [binOp]
  · subst he
    refine ⟨.bool (!b), ?_, mk_bool _⟩
    cases vx <;> simp_all [binOp]

theorem equal_bool {t : TypeId} (h : P.underlying t = some .bool) (a b : Bool) : (Op.equal t (.bool a) (.bool b)).run P w = .ok (a == b) w := by
  unfold Op.equal Op.maxDepth
  rw [Op.equalIn]
  simp [run_underlying h]
theorem equal_ptr_nil {t e : TypeId} (h : P.underlying t = some (.pointer e)) (a : Option Addr) : (Op.equal t (.pointer a) (.pointer none)).run P w = .ok a.isNone w := by
  unfold Op.equal Op.maxDepth
  rw [Op.equalIn]
  cases a <;> simp [run_underlying h]
theorem equal_nil_ptr {t e : TypeId} (h : P.underlying t = some (.pointer e)) (a : Option Addr) : (Op.equal t (.pointer none) (.pointer a)).run P w = .ok a.isNone w := by
  unfold Op.equal Op.maxDepth
  rw [Op.equalIn]
  simp [run_underlying h]
theorem equal_slice_nil {t e : TypeId} (h : P.underlying t = some (.slice e)) (a : Option Addr) (n c : Nat) : (Op.equal t (.slice a n c) (.slice none 0 0)).run P w = .ok a.isNone w := by
  unfold Op.equal Op.maxDepth
  rw [Op.equalIn]
  cases a <;> simp [run_underlying h]
theorem equal_nil_slice {t e : TypeId} (h : P.underlying t = some (.slice e)) (a : Option Addr) (n c : Nat) : (Op.equal t (.slice none 0 0) (.slice a n c)).run P w = .ok a.isNone w := by
  unfold Op.equal Op.maxDepth
  rw [Op.equalIn]
  simp [run_underlying h]

/-- What is known of the state's rows. -/
def MemOk (P : Program) (w : World) (ok : Nat → Prop) (m : IMap) (μ : Nat → Option C) : Prop := ∀ r c, μ r = some c → ∃ i, m r = some i ∧ CRep P w ok m c i
theorem slice_form {t : T} {xs : List t.den} {v : Value} (h : (T.slice t).holds w ok xs [v]) : ∃ A c, v = .slice A xs.length c ∧ (xs ≠ [] → A.isSome) := by
  simp only [T.holds] at h
  obtain ⟨A, c, hv, _, h⟩ := h
  refine ⟨A, c, by simpa using hv, fun hx => ?_⟩
  rcases h with h | ⟨b, off, C, e, fr, rfl, _⟩
  · exact absurd h.1 hx
  · rfl
theorem rowOf_some {c : Option C} {t : T} {xs : List t.den} (h : rowOf c = some ⟨t, xs⟩) : c = some (.arr t xs) ∨ c = some (.app t xs) := by
  unfold rowOf at h
  split at h <;> simp at h
  · obtain ⟨rfl, h⟩ := h; exact .inl (by simpa using h)
  · obtain ⟨rfl, h⟩ := h; exact .inr (by simpa using h)
theorem own_form {t : T} {xs : List t.den} {v : Value} (h : OwnRow w ok t xs v) : ∃ A c, v = .slice A xs.length c ∧ xs.length ≤ c ∧ (xs ≠ [] → A.isSome) := by
  rcases h with ⟨rfl, rfl⟩ | ⟨b, C, e, fr, cap, rfl, h1, _⟩
  · exact ⟨none, 0, rfl, Nat.le_refl _, fun h => absurd rfl h⟩
  · exact ⟨_, cap, rfl, h1, fun _ => rfl⟩
/-- A row of the state's own, as a value. -/
theorem sref_form (hm : MemOk P w ok m μ) {r : Nat} {t : T} {xs : List t.den} {v : Value} (h : rowOf (μ r) = some ⟨t, xs⟩) (hv : LRep P w ok m (.sref r) v) :
    ∃ A c, v = .slice A xs.length c ∧ (xs ≠ [] → A.isSome) := by
  simp only [LRep] at hv
  rcases rowOf_some h with h | h <;> (obtain ⟨i, h1, h2⟩ := hm _ _ h; rw [h1] at hv; rcases hv with hv | hv <;> (simp at hv; subst hv; simp only [CRep] at h2))
  · obtain ⟨A, c, h3, _, h4⟩ := own_form h2; exact ⟨A, c, h3, h4⟩
  · obtain ⟨A, c, h3, _, h4⟩ := own_form h2; exact ⟨A, c, h3, h4⟩
  · exact slice_form h2.1
theorem elemsAny_form (hm : MemOk P w ok m μ) {l : L} {t : T} {xs : List t.den} {v : Value} (h : Ev (elemsAny l) μ ⟨t, xs⟩) (hv : LRep P w ok m l v) :
    ∃ A c, v = .slice A xs.length c ∧ (xs ≠ [] → A.isSome) := by
  cases l
  case val t' x =>
    cases t' <;> simp only [elemsAny, ev_fail, ev_pure, Sigma.mk.injEq] at h
    obtain ⟨rfl, h⟩ := h
    obtain rfl := eq_of_heq h
    exact slice_form hv
  all_goals simp only [elemsAny, ev_fail] at h
  · simp only [ev_pure, Sigma.mk.injEq] at h; obtain ⟨rfl, h⟩ := h; obtain rfl := eq_of_heq h; exact slice_form hv.1
  · simp only [ev_pure, Sigma.mk.injEq] at h; obtain ⟨rfl, h⟩ := h; obtain rfl := eq_of_heq h; exact slice_form hv.1
  · rw [ev_get] at h
    split at h <;> simp only [ev_fail, ev_pure, Sigma.mk.injEq] at h
    rename_i hr
    obtain ⟨rfl, h⟩ := h
    obtain rfl := eq_of_heq h
    exact sref_form hm hr hv

theorem isNils_form (hm : MemOk P w ok m μ) {l : L} {b : Bool} {v : Value} (h : Ev (isNils l) μ b) (hv : LRep P w ok m l v) : ∃ A n c, v = .slice A n c ∧ A.isNone = b := by
  cases l
  case val t' x =>
    cases t' <;> simp only [isNils, ev_fail, ev_pure, ev_assume] at h
    obtain ⟨h1, rfl⟩ := h
    obtain ⟨A, c, rfl, h2⟩ := slice_form hv
    exact ⟨A, _, c, rfl, by have := h2 (by rintro rfl; simp at h1); cases A <;> simp_all⟩
  all_goals simp only [isNils, ev_fail] at h
  · simp only [ev_pure] at h; subst h
    obtain ⟨a, n, c, rfl⟩ := hv.2
    exact ⟨some a, n, c, rfl, rfl⟩
  · simp only [ev_pure] at h; subst h
    simp only [LRep] at hv; subst hv
    exact ⟨none, 0, 0, rfl, rfl⟩
  · simp only [ev_assume, ev_pure] at h
    obtain ⟨h1, rfl⟩ := h
    obtain ⟨A, c, rfl, h2⟩ := slice_form hv.1
    exact ⟨A, _, c, rfl, by have := h2 (by rintro rfl; simp at h1); cases A <;> simp_all⟩
  · rw [ev_get] at h
    split at h <;> simp only [ev_fail, ev_pure, ev_assume] at h
    rename_i hr
    obtain ⟨h1, rfl⟩ := h
    obtain ⟨A, c, rfl, h2⟩ := sref_form hm hr hv
    exact ⟨A, _, c, rfl, by have := h2 (by rintro rfl; simp at h1); cases A <;> simp_all⟩
theorem isNilp_form {l : L} {b : Bool} {v : Value} (h : Ev (isNilp l) μ b) (hv : LRep P w ok m l v) : ∃ A, v = .pointer A ∧ A.isNone = b := by
  cases l <;> simp only [isNilp, ev_fail, ev_pure] at h <;> subst h <;> simp only [LRep] at hv
  · obtain ⟨b, _, rfl⟩ := hv; exact ⟨_, rfl, rfl⟩
  · subst hv; exact ⟨_, rfl, rfl⟩
  · obtain ⟨b, o, _, _, _, _, rfl, _⟩ := hv; exact ⟨_, rfl, rfl⟩
  · obtain ⟨b, o, _, _, _, rfl⟩ := hv; exact ⟨_, rfl, rfl⟩

theorem kindIs_spec {i? : Option TI} {f : TK → Bool} (h : kindIs i? f = true) : ∃ i, i? = some i ∧ f i.kind = true := by
  cases i? with
  | none => simp [kindIs] at h
  | some i => exact ⟨i, rfl, h⟩
theorem strOp_run {op : BinOp} {a b : List UInt8} {l : L} (he : Ev (binStr op a b) μ l) : ∃ v, (Op.stringOp op ⟨a.toArray⟩ ⟨b.toArray⟩).run P w = .ok v w ∧ LRep P w ok m l v := by
  have e1 : (ByteArray.mk a.toArray).toList = a := ByteArray.toList_mk a
  have e2 : (ByteArray.mk b.toArray).toList = b := ByteArray.toList_mk b
  cases op <;> simp only [binStr, ev_fail, ev_pure, ev_assume] at he
  · obtain ⟨h1, rfl⟩ := he
    refine ⟨.string ⟨(a ++ b).toArray⟩, ?_, mk_str _⟩
    have h2 : ¬ (((ByteArray.mk a.toArray).size + (ByteArray.mk b.toArray).size : Nat) : Int) > IntKind.i64.max := by
      have : IntKind.i64.max = 9223372036854775807 := by decide
      simp only [ByteArray.size, List.size_toArray, this]
      have := of_decide_eq_true h1
      omega
    simp only [Op.stringOp]
    rw [if_neg h2]
    simp only [Sem.run_pure]
    congr 2
  all_goals (subst he; refine ⟨_, ?_, mk_bool _⟩; simp [Op.stringOp, e1, e2, strLess])
theorem shift_run {op : BinOp} {k yk : IntKind} {a b : Int} {l : L} (he : Ev (binShift op k a b) μ l) : ∃ v, (Op.shift op k a yk b).run P w = .ok v w ∧ LRep P w ok m l v := by
  cases op <;> simp only [binShift, ev_fail, ev_assume, ev_pure] at he
  all_goals
    obtain ⟨h1, rfl⟩ := he
    have h2 : ¬ b < 0 := by have := of_decide_eq_true h1; omega
    refine ⟨_, ?_, mk_int _ _⟩
    simp [Op.shift, h2, shlv, shrv]
theorem int_run {op : BinOp} {k : IntKind} {a b : Int} {l : L} {t : TypeId} (he : Ev (binInt op k a b) μ l) : ∃ v, (binOp op t (.int k a) (.int k b)).run P w = .ok v w ∧ LRep P w ok m l v := by
  cases op <;> simp only [binInt, ev_fail, ev_assume, ev_pure] at he
  case quo => obtain ⟨h1, rfl⟩ := he; exact ⟨_, by simp [binOp, Op.intDiv, bne_iff_ne.1 h1], mk_int _ _⟩
  case rem => obtain ⟨h1, rfl⟩ := he; exact ⟨_, by simp [binOp, Op.intDiv, bne_iff_ne.1 h1], mk_int _ _⟩
  all_goals
    subst he
    first
      | (refine ⟨_, ?_, mk_int _ _⟩; simp only [binOp, ne_eq, not_true_eq_false, if_false]; rfl)
      | (refine ⟨_, ?_, mk_bool _⟩; simp only [binOp, ne_eq, not_true_eq_false, if_false]; rfl)

theorem binop_run (hm : MemOk P w ok m μ) {tab : Tab} (ht : TabOk P tab) {t : TypeId} {op : BinOp} {lx ly l : L} {vx vy : Value} {x y : Operand} (he : Ev (binop (tab.get t) op lx ly) μ l)
    (hx : LRep P w ok m lx vx) (hy : LRep P w ok m ly vy) : ∃ v, (eqGuard op t x y vx vy >>= fun _ => binOp op t vx vy).run P w = .ok v w ∧ LRep P w ok m l v := by
  have hz : ∀ i, tab.get t = some i → TOk P t i := fun i hi => ht t i hi
  unfold binop at he
  split at he
  · have := rep_int hx; subst this
    have := rep_int hy; subst this
    rw [Sem.run_bind, eqGuard_ok _ _ _ _ _ _ (by simp) (by simp)]
    simp only [Result.andThen_ok]
    rename_i k a k' b
    cases op
    case shl => exact shift_run (yk := k') he
    case shr => exact shift_run (yk := k') he
    all_goals
      simp only at he
      split at he
      · rename_i e; subst e; exact int_run he
      · simp [ev_fail] at he
  · have := rep_str hx; subst this
    have := rep_str hy; subst this
    rw [Sem.run_bind, eqGuard_ok _ _ _ _ _ _ (by simp) (by simp)]
    simp only [Result.andThen_ok]
    have e : ∀ a b, binOp op t (.string a) (.string b) = Op.stringOp op a b := by intro a b; cases op <;> rfl
    rw [e]
    exact strOp_run he
  · have := rep_bool hx; subst this
    have := rep_bool hy; subst this
    rw [Sem.run_bind, eqGuard_ok _ _ _ _ _ _ (by simp) (by simp)]
    simp only [Result.andThen_ok]
    simp only [ev_cond, ev_fail, and_false, or_false] at he
    obtain ⟨hk, he⟩ := he
    obtain ⟨i, hi, hk⟩ := kindIs_spec hk
    obtain ⟨d, hd, hs⟩ := (hz i hi).desc
    have : i.kind = .bool := by cases h : i.kind <;> simp_all [TK.isBool]
    rw [this] at hs
    rw [summ_bool hs] at hd
    exact eqNeq_run he (equal_bool hd _ _) (by simp) (by simp) (by simp) (by simp)
  · obtain ⟨cs, rfl, hx⟩ := hx
    obtain ⟨cs', rfl, hy⟩ := hy
    split at he
    · simp [ev_fail] at he
    · rename_i i hi
      split at he
      · simp [ev_fail] at he
      · rename_i T' hT
        simp only [ev_cond, ev_fail, and_false, or_false, ev_bind, ev_lift] at he
        obtain ⟨hq, x', hx', y', hy', he⟩ := he
        obtain ⟨hg, hq⟩ := (hz i hi).eq (by simp_all) T' hT
        rw [Sem.run_bind, eqGuard_ok _ _ _ _ _ _ (by simp) (fun _ _ _ _ => hg)]
        simp only [Result.andThen_ok]
        exact eqNeq_run he (hq x' y' cs cs' w ok (implode_holds hx' hx) (implode_holds hy' hy)) (by simp) (by simp) (by simp) (by simp)
  · simp only [LRep] at hx; subst hx
    simp only [ev_cond, ev_fail, and_false, or_false, ev_bind] at he
    obtain ⟨hk, b, hb, he⟩ := he
    obtain ⟨i, hi, hk⟩ := kindIs_spec hk
    obtain ⟨d, hd, hs⟩ := (hz i hi).desc
    obtain ⟨e, hkk⟩ : ∃ e, i.kind = .ptr e := by cases h : i.kind <;> simp_all [TK.isPtr]
    rw [hkk] at hs
    rw [summ_ptr hs] at hd
    obtain ⟨A, rfl, hA⟩ := isNilp_form hb hy
    rw [Sem.run_bind, eqGuard_ok _ _ _ _ _ _ (by simp) (by simp)]
    simp only [Result.andThen_ok]
    exact eqNeq_run he (hA ▸ equal_nil_ptr hd A) (by simp) (by simp) (by simp) (by simp)
  · simp only [LRep] at hy; subst hy
    simp only [ev_cond, ev_fail, and_false, or_false, ev_bind] at he
    obtain ⟨hk, b, hb, he⟩ := he
    obtain ⟨i, hi, hk⟩ := kindIs_spec hk
    obtain ⟨d, hd, hs⟩ := (hz i hi).desc
    obtain ⟨e, hkk⟩ : ∃ e, i.kind = .ptr e := by cases h : i.kind <;> simp_all [TK.isPtr]
    rw [hkk] at hs
    rw [summ_ptr hs] at hd
    obtain ⟨A, rfl, hA⟩ := isNilp_form hb hx
    rw [Sem.run_bind, eqGuard_ok _ _ _ _ _ _ (by simp) (by simp)]
    simp only [Result.andThen_ok]
    exact eqNeq_run he (hA ▸ equal_ptr_nil hd A) (by simp) (by simp) (by simp) (by simp)
  · simp only [LRep] at hx; subst hx
    simp only [ev_cond, ev_fail, and_false, or_false, ev_bind] at he
    obtain ⟨hk, b, hb, he⟩ := he
    obtain ⟨i, hi, hk⟩ := kindIs_spec hk
    obtain ⟨d, hd, hs⟩ := (hz i hi).desc
    obtain ⟨e, hkk⟩ : ∃ e, i.kind = .slice e := by cases h : i.kind <;> simp_all [TK.isSlice]
    rw [hkk] at hs
    rw [summ_slice hs] at hd
    obtain ⟨A, n, c, rfl, hA⟩ := isNils_form hm hb hy
    rw [Sem.run_bind, eqGuard_ok _ _ _ _ _ _ (by simp) (by simp)]
    simp only [Result.andThen_ok]
    exact eqNeq_run he (hA ▸ equal_nil_slice hd A n c) (by simp) (by simp) (by simp) (by simp)
  · simp only [LRep] at hy; subst hy
    simp only [ev_cond, ev_fail, and_false, or_false, ev_bind] at he
    obtain ⟨hk, b, hb, he⟩ := he
    obtain ⟨i, hi, hk⟩ := kindIs_spec hk
    obtain ⟨d, hd, hs⟩ := (hz i hi).desc
    obtain ⟨e, hkk⟩ : ∃ e, i.kind = .slice e := by cases h : i.kind <;> simp_all [TK.isSlice]
    rw [hkk] at hs
    rw [summ_slice hs] at hd
    obtain ⟨A, n, c, rfl, hA⟩ := isNils_form hm hb hx
    rw [Sem.run_bind, eqGuard_ok _ _ _ _ _ _ (by simp) (by simp)]
    simp only [Result.andThen_ok]
    exact eqNeq_run he (hA ▸ equal_slice_nil hd A n c) (by simp) (by simp) (by simp) (by simp)
  · simp [ev_fail] at he

theorem unop_run {op : UnOp} {lx l : L} {vx : Value} (he : Ev (unop op lx) μ l) (hx : LRep P w ok m lx vx) : ∃ v, (Op.unary op vx).run P w = .ok v w ∧ LRep P w ok m l v := by
  unfold unop at he
  split at he
  · have := rep_bool hx; subst this
    cases op <;> simp only [ev_fail, ev_pure] at he
    subst he; exact ⟨_, by simp [Op.unary], mk_bool _⟩
  · have := rep_int hx; subst this
    cases op <;> simp only [ev_fail, ev_pure] at he
    · subst he; exact ⟨_, by simp [Op.unary, Op.intArith], mk_int _ _⟩
    · subst he; exact ⟨_, rfl, mk_int _ _⟩
  · simp [ev_fail] at he
end
end Go.GG
