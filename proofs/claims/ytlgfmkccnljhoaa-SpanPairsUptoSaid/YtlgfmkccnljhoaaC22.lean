/- Regions: steps that have nothing in common change places. -/
import Derived.Test.YtlgfmkccnljhoaaC21
namespace Go.GG
open Go.RowKit
section
variable {tab : Tab} {Γ : Env} {k : Nat} {ops : Array Oper}

theorem editMem_at : ∀ {es : List (Nat × Option C)} {μ μ' : Nat → Option C} {r : Nat}, (r ∈ es.map (·.1) ∨ μ r = μ' r) → editMem es μ r = editMem es μ' r
  | [], _, _, _, h => by simpa [editMem] using h
  | (a, c) :: es, μ, μ', r, h => by
    simp only [editMem]
    apply editMem_at
    by_cases e : r = a
    · subst e; right; simp
    · simp only [List.map_cons, List.mem_cons, e, false_or] at h
      rcases h with h | h
      · exact .inl h
      · right; rw [h]
theorem editMem_comm {es fs : List (Nat × Option C)} {μ : Nat → Option C} (h : ∀ r, r ∈ es.map (·.1) → r ∉ fs.map (·.1)) : editMem es (editMem fs μ) = editMem fs (editMem es μ) := by
  funext r
  by_cases he : r ∈ es.map (·.1)
  · rw [editMem_keep (es := fs) (h r he)]
    exact editMem_at (.inl he)
  · rw [editMem_keep (es := es) he]
    exact editMem_at (.inr (editMem_keep he).symm)
theorem addUsed_or : ∀ {ids : List Nat} {u : Nat → Bool} {r : Nat}, addUsed ids u r = (decide (r ∈ ids) || u r)
  | [], _, _ => by simp [addUsed]
  | i :: ids, u, r => by
    simp only [addUsed, addUsed_or (ids := ids)]
    by_cases e : r = i
    · subst e; simp
    · have : Nat.beq r i = false := by
        cases hb : Nat.beq r i with
        | false => rfl
        | true => exact absurd (Nat.eq_of_beq_eq_true hb) e
      simp [this, e]
theorem addUsed_comm {is js : List Nat} {u : Nat → Bool} : addUsed is (addUsed js u) = addUsed js (addUsed is u) := by
  funext r
  simp only [addUsed_or]
  cases decide (r ∈ is) <;> cases decide (r ∈ js) <;> simp
theorem put_env_other {s : St} {d : Option Nat} {l : L} {t : Nat} (h : d ≠ some t) : (put s d l).env t = s.env t := by
  cases d with
  | none => rfl
  | some d =>
    have : Nat.beq t d = false := by
      cases hb : Nat.beq t d with
      | false => rfl
      | true => exact absurd (by rw [Nat.eq_of_beq_eq_true hb]) h
    simp [put, this]
theorem put_mem {s : St} {d : Option Nat} {l : L} : (put s d l).mem = s.mem := by cases d <;> rfl
theorem put_used {s : St} {d : Option Nat} {l : L} : (put s d l).used = s.used := by cases d <;> rfl
theorem st_ext {s s' : St} (h1 : s.env = s'.env) (h2 : s.mem = s'.mem) (h3 : s.used = s'.used) : s = s' := by
  cases s; cases s'; simp only at h1 h2 h3; subst h1; subst h2; subst h3; rfl
theorem put_comm {s : St} {d e : Option Nat} {l l' : L} (h : ∀ t, d = some t → e ≠ some t) : put (put s d l) e l' = put (put s e l') d l := by
  cases d with
  | none => rfl
  | some d =>
    cases e with
    | none => rfl
    | some e =>
      have hne : d ≠ e := fun x => h d rfl (by rw [x])
      refine st_ext ?_ rfl rfl
      funext t
      simp only [put]
      cases h1 : Nat.beq t e with
      | false => rfl
      | true =>
        cases h2 : Nat.beq t d with
        | false => rfl
        | true => exact absurd ((Nat.eq_of_beq_eq_true h2).symm.trans (Nat.eq_of_beq_eq_true h1)) hne
theorem put_env_congr {s s' : St} {d : Option Nat} {l : L} (h : s.env = s'.env) : (put s d l).env = (put s' d l).env := by
  cases d with
  | none => exact h
  | some d => funext t; simp only [put, h]
theorem apply_env {s : St} {d : Option Nat} {r : Res} : (apply s d r).env = (put s d r.val).env := by cases d <;> rfl
theorem apply_mem {s : St} {d : Option Nat} {r : Res} : (apply s d r).mem = editMem r.edits s.mem := by cases d <;> rfl
theorem apply_used {s : St} {d : Option Nat} {r : Res} : (apply s d r).used = addUsed r.allocs s.used := by cases d <;> rfl

/-! ### What a step looks at -/
theorem operand_looks {o : Oper} {t : Nat} (h : (Operand.tmp t) ∈ o.op.operands) : t ∈ o.looksAt ops :=
  List.mem_append_left _ (List.mem_filterMap.2 ⟨.tmp t, by simpa using h, rfl⟩)
theorem guard_looks {o : Oper} {j d : Nat} {want : Bool} (h : o.guard = some (j, want)) (hd : dstOf ops.toList j = some d) : d ∈ o.looksAt ops := by
  refine List.mem_append_right _ ?_
  rw [h]
  unfold dstOf at hd
  simp only
  have e : ops.toList[j]? = ops[j]? := by simp
  rw [e] at hd
  split at hd
  · rename_i o' ho'
    rw [ho']
    simpa using hd
  · simp at hd
/-- Two states that agree on what a step looks at. -/
structure Same (ops : Array Oper) (o : Oper) (s s' : St) : Prop where
  env : ∀ t ∈ o.looksAt ops, s'.env t = s.env t
theorem Same.evs {o : Oper} {s s' : St} (h : Same ops o s s') : ∀ x ∈ o.op.operands, ev s' x = ev s x := by
  intro x hx
  cases x with
  | tmp t => exact h.env t (operand_looks hx)
  | _ => rfl
theorem Same.wants {o : Oper} {s s' : St} (h : Same ops o s s') (hw : Wants ops s o) : Wants ops s' o := fun j want hg => by
  obtain ⟨d, hd, he⟩ := hw j want hg
  exact ⟨d, hd, (h.env d (guard_looks hg hd)).trans he⟩
theorem Same.skips {o : Oper} {s s' : St} (h : Same ops o s s') (hw : Skips ops s o) : Skips ops s' o := by
  obtain ⟨j, want, d, hg, hd, he⟩ := hw
  exact ⟨j, want, d, hg, hd, by rw [h.env d (guard_looks hg hd)]; exact he⟩
theorem Same.acts {o : Oper} {s s' : St} {f : Foot} {s1 : St} (h : Same ops o s s') (hm : ∀ r ∈ f.reads, s'.mem r = s.mem r) (hu : ∀ id ∈ f.writes, s.used id = false → s'.used id = false) (ha : Acts tab Γ k o s f s1) :
    ∃ res, Acts tab Γ k o s' f (apply s' o.dst res) ∧ s1 = apply s o.dst res ∧ f.writes = res.edits.map (·.1) ++ res.allocs := by
  obtain ⟨res, rs, h1, h2, h3, h4, h5, rfl⟩ := ha
  refine ⟨res, ⟨res, rs, ?_, h2, h3, fun id hid => ⟨hu id (by rw [h3]; simp [hid]) (h4 id hid).1, (h4 id hid).2⟩, h5, rfl⟩, rfl, h3⟩
  rw [aop_congr h.evs]
  exact RM.ev_local h1 fun r hr => hm r (h2 r hr)
theorem disjoint_spec {a b : List Nat} (h : disjoint a b = true) : ∀ r ∈ a, r ∉ b := by
  intro r hr
  have := List.all_eq_true.1 h r hr
  simpa using this
theorem apart_foot {f g : Foot} (h : f.apart g = true) : (∀ r ∈ f.writes, r ∉ g.reads) ∧ (∀ r ∈ f.writes, r ∉ g.writes) ∧ (∀ r ∈ g.writes, r ∉ f.reads) := by
  simp only [Foot.apart, Bool.and_eq_true] at h
  exact ⟨disjoint_spec h.1.1, disjoint_spec h.1.2, disjoint_spec h.2⟩
/-- Two steps in turn that have nothing in common may come in the other order. -/
theorem step_swap {i j : Nat} {oi oj : Oper} {s s1 s2 : St} {fi fj : List Foot} (hoi : ops[i]? = some oi) (hoj : ops[j]? = some oj) (hap : oj.apart ops oi = true) (hfa : ∀ f ∈ fj, ∀ g ∈ fi, g.apart f = true)
    (hj : Step tab Γ k ops j s fj s1) (hi : Step tab Γ k ops i s1 fi s2) : ∃ s1', Step tab Γ k ops i s fi s1' ∧ Step tab Γ k ops j s1' fj s2 := by
  obtain ⟨h1, h2, h3⟩ := Oper.apart_spec hap
  obtain ⟨o, ho, hj⟩ := hj
  rw [hoj] at ho; simp at ho; subst ho
  obtain ⟨o, ho, hi⟩ := hi
  rw [hoi] at ho; simp at ho; subst ho
  have hne : ∀ t, oj.dst = some t → oi.dst ≠ some t := h2
  -- what i sees is not changed by j, and the other way round
  have env1 : ∀ {l : L} {s' : St}, s'.env = (put s oj.dst l).env → Same ops oi s' s := fun {l s'} he => ⟨fun t ht => by
    rw [he]; exact (put_env_other (fun hh => h1 t hh ht)).symm⟩
  have env2 : ∀ {l : L} {s' : St}, s'.env = (put s oi.dst l).env → Same ops oj s s' := fun {l s'} he => ⟨fun t ht => by
    rw [he]; exact put_env_other (fun hh => h3 t hh ht)⟩
  rcases hj with ⟨hwj, fj, hfj, rfl, haj⟩ | ⟨hsj, rfl, rfl⟩ <;> rcases hi with ⟨hwi, fi, hfi, rfl, hai⟩ | ⟨hsi, rfl, rfl⟩
  · obtain ⟨hf1, hf2, hf3⟩ := apart_foot (hfa fj (by simp) fi (by simp))
    have haj' := haj
    obtain ⟨rj, _, _, _, hwrj, _, _, rfl⟩ := haj'
    have S1 : Same ops oi (apply s oj.dst rj) s := env1 apply_env
    have notj : ∀ r, r ∉ fj.writes → r ∉ rj.edits.map (·.1) ∧ r ∉ rj.allocs := fun r hr => by rw [hwrj] at hr; simpa using hr
    obtain ⟨ri, hai', e, hwri⟩ := S1.acts (fun r hr => by rw [apply_mem, editMem_keep (notj r fun hh => hf3 r hh hr).1]) (fun id hid hu => by
      rw [apply_used, addUsed_or] at hu; simp only [Bool.or_eq_false_iff] at hu; exact hu.2) hai
    have noti : ∀ r, r ∉ fi.writes → r ∉ ri.edits.map (·.1) ∧ r ∉ ri.allocs := fun r hr => by rw [hwri] at hr; simpa using hr
    have S2 : Same ops oj s (apply s oi.dst ri) := env2 apply_env
    obtain ⟨rj', haj', e', hwrj'⟩ := S2.acts (fun r hr => by rw [apply_mem, editMem_keep (noti r fun hh => hf1 r hh hr).1]) (fun id hid hu => by
      rw [apply_used, addUsed_or, hu, Bool.or_false, decide_eq_false_iff_not]; exact (noti id fun hh => hf2 id hh hid).2) haj
    refine ⟨_, ⟨oi, hoi, .inl ⟨S1.wants hwi, fi, hfi, rfl, hai'⟩⟩, oj, hoj, .inl ⟨S2.wants hwj, fj, hfj, rfl, ?_⟩⟩
    have : apply (apply s oi.dst ri) oj.dst rj' = s2 := by
      rw [e, e']
      have dis : ∀ r, r ∈ rj'.edits.map (·.1) → r ∉ ri.edits.map (·.1) := fun r hr => (noti r fun hh => hf2 r hh (by rw [hwrj']; simp at hr ⊢; exact .inl hr)).1
      refine st_ext ?_ ?_ ?_
      · rw [apply_env, apply_env]
        rw [put_env_congr (apply_env (s := s) (d := oi.dst) (r := ri)), put_env_congr (apply_env (s := s) (d := oj.dst) (r := rj')), put_comm hne]
      · simp only [apply_mem]; exact editMem_comm dis
      · simp only [apply_used]; exact addUsed_comm
    rw [← this]
    exact haj'
  · have haj' := haj
    obtain ⟨rj, _, _, _, hwrj, _, _, rfl⟩ := haj'
    have S1 : Same ops oi (apply s oj.dst rj) s := env1 apply_env
    have S2 : Same ops oj s (put s oi.dst .skipped) := env2 rfl
    obtain ⟨rj', haj', e', _⟩ := S2.acts (fun r _ => by rw [put_mem]) (fun id _ hu => by rw [put_used]; exact hu) haj
    refine ⟨_, ⟨oi, hoi, .inr ⟨S1.skips hsi, rfl, rfl⟩⟩, oj, hoj, .inl ⟨S2.wants hwj, fj, hfj, rfl, ?_⟩⟩
    have : apply (put s oi.dst .skipped) oj.dst rj' = put (apply s oj.dst rj) oi.dst .skipped := by
      rw [e']
      refine st_ext ?_ (by simp [apply_mem, put_mem]) (by simp [apply_used, put_used])
      rw [apply_env, put_comm (fun t ht hh => hne t hh ht)]
      exact (put_env_congr apply_env).symm
    rw [← this]
    exact haj'
  · have S1 : Same ops oi (put s oj.dst .skipped) s := env1 rfl
    obtain ⟨ri, hai', e, hwri⟩ := S1.acts (fun r _ => by rw [put_mem]) (fun id _ hu => by rw [put_used] at hu; exact hu) hai
    have S2 : Same ops oj s (apply s oi.dst ri) := env2 apply_env
    refine ⟨_, ⟨oi, hoi, .inl ⟨S1.wants hwi, fi, hfi, rfl, hai'⟩⟩, oj, hoj, .inr ⟨S2.skips hsj, rfl, ?_⟩⟩
    rw [e]
    refine st_ext ?_ (by simp [apply_mem, put_mem]) (by simp [apply_used, put_used])
    rw [apply_env, put_comm hne]
    exact put_env_congr apply_env.symm
  · have S1 : Same ops oi (put s oj.dst .skipped) s := env1 rfl
    have S2 : Same ops oj s (put s oi.dst .skipped) := env2 rfl
    exact ⟨_, ⟨oi, hoi, .inr ⟨S1.skips hsi, rfl, rfl⟩⟩, oj, hoj, .inr ⟨S2.skips hsj, rfl, put_comm hne⟩⟩
end
end Go.GG
