/- Regions: one step, and two steps that have nothing in common. -/
import Derived.Test.YtlgfmkccnljhoaaC20
namespace Go.GG
open Go.RowKit
section
variable {tab : Tab} {Γ : Env} {k : Nat}

theorem map_congr {α β : Type} {x : Array α} {f g : α → β} (h : ∀ a ∈ x, f a = g a) : x.toList.map f = x.toList.map g := List.map_congr_left fun a ha => h a (by simpa using ha)
theorem aop_congr {d : Nat} {ρ ρ' : Operand → L} {op : Op} (h : ∀ x ∈ op.operands, ρ x = ρ' x) : aop tab Γ k d ρ op = aop tab Γ k d ρ' op := by
  have parts : ∀ ps : Array (Nat × Operand), (∀ x ∈ ps.map (·.2), ρ x = ρ' x) → (ps.toList.map fun p => (p.1, ρ p.2)) = (ps.toList.map fun p => (p.1, ρ' p.2)) := fun ps hp =>
    List.map_congr_left fun p hm => by rw [hp p.2 (Array.mem_map.2 ⟨p, by simpa using hm, rfl⟩)]
  have plain : ∀ ps : Array (Nat × Operand), (∀ x ∈ ps.map (·.2), ρ x = ρ' x) → (ps.toList.all fun p => (ρ p.2).plain) = (ps.toList.all fun p => (ρ' p.2).plain) := fun ps hp => by
    rw [Bool.eq_iff_iff, List.all_eq_true, List.all_eq_true]
    exact ⟨fun hh p hm => by rw [← hp p.2 (Array.mem_map.2 ⟨p, by simpa using hm, rfl⟩)]; exact hh p hm, fun hh p hm => by rw [hp p.2 (Array.mem_map.2 ⟨p, by simpa using hm, rfl⟩)]; exact hh p hm⟩
  cases op <;> simp only [Op.operands] at h <;> simp only [aop]
  case build t ps => rw [parts ps fun x hx => h x (by simpa using hx), plain ps fun x hx => h x (by simpa using hx)]
  case buildSlice t n ps => rw [parts ps fun x hx => h x (by simpa using hx), plain ps fun x hx => h x (by simpa using hx)]
  case makeFunc fn first captured => rw [map_congr (x := captured) fun x hx => h x (by simp [hx])]
  case call c =>
    have ha : c.args.toList.map ρ = c.args.toList.map ρ' := map_congr fun x hx => h x (by simp [Call.operands, hx])
    rw [ha]
    cases hc : c.callee with
    | builtin b => rfl
    | invoke r n => rfl
    | value x =>
      have hx : ρ x = ρ' x := h x (by simp [Call.operands, hc])
      cases x <;> simp only [hx]
  case slice t x lo hi mx => cases lo <;> cases hi <;> cases mx <;> simp_all
  all_goals (first | rfl | (simp_all; done))

/-! ### One step -/
def Wants (ops : Array Oper) (s : St) (o : Oper) : Prop := ∀ j want, o.guard = some (j, want) → ∃ d, dstOf ops.toList j = some d ∧ s.env d = .val .bool want
def Skips (ops : Array Oper) (s : St) (o : Oper) : Prop := ∃ j want d, o.guard = some (j, want) ∧ dstOf ops.toList j = some d ∧ (s.env d = .val .bool (!want) ∨ s.env d = .skipped)
def Acts (tab : Tab) (Γ : Env) (k : Nat) (o : Oper) (s : St) (f : Foot) (s' : St) : Prop := ∃ res rs, (aop tab Γ k (o.dst.getD 0) (ev s) o.op).ev s.mem = some (res, rs) ∧ (∀ r ∈ rs, r ∈ f.reads) ∧ f.writes = res.edits.map (·.1) ++ res.allocs ∧
  (∀ id ∈ res.allocs, s.used id = false ∧ id < lentBase) ∧ (needsDst o.op = true → o.dst.isSome = true) ∧ s' = apply s o.dst res
def Step (tab : Tab) (Γ : Env) (k : Nat) (ops : Array Oper) (i : Nat) (s : St) (fs : List Foot) (s' : St) : Prop := ∃ o, ops[i]? = some o ∧
  ((Wants ops s o ∧ ∃ f, f.i = i ∧ fs = [f] ∧ Acts tab Γ k o s f s') ∨ (Skips ops s o ∧ fs = [] ∧ s' = put s o.dst .skipped))
inductive RunF (tab : Tab) (Γ : Env) (k : Nat) (ops : Array Oper) : List Nat → St → List Foot → St → Prop
  | nil (s : St) : RunF tab Γ k ops [] s [] s
  | cons {i : Nat} {l : List Nat} {s s' s'' : St} {fs gs : List Foot} : Step tab Γ k ops i s fs s' → RunF tab Γ k ops l s' gs s'' → RunF tab Γ k ops (i :: l) s (fs ++ gs) s''

theorem put_same {s : St} {d : Nat} {l : L} (h : s.env d = l) : put s (some d) l = s := by
  subst h
  have : (fun t => cond (Nat.beq t d) (s.env d) (s.env t)) = s.env := by
    funext t
    cases hb : Nat.beq t d with
    | true => rw [Nat.eq_of_beq_eq_true hb]; rfl
    | false => rfl
  show ({ s with env := fun t => cond (Nat.beq t d) (s.env d) (s.env t) } : St) = s
  rw [this]
theorem execOpA_acts {R : Type} {i : Nat} {o : Oper} {s : St} {K : St → Foot → Option R} {r : R} (h : execOpA tab Γ k i o s K = some r) : ∃ f s', f.i = i ∧ Acts tab Γ k o s f s' ∧ K s' f = some r := by
  unfold execOpA at h
  obtain ⟨res, r1, r2, h1, h2, h3, _⟩ := RM.run_ev h
  cases hc : ((res.allocs.all fun a => !s.used a && Nat.blt a lentBase) && (!needsDst o.op || o.dst.isSome)) with
  | false => rw [hc] at h2; simp at h2
  | true =>
    rw [hc] at h2
    simp only [Bool.and_eq_true, List.all_eq_true, Bool.not_eq_true', Bool.or_eq_true] at hc
    refine ⟨_, _, rfl, ⟨res, r1, h1, h3, rfl, fun id hid => ⟨(hc.1 id hid).1, Nat.le_of_ble_eq_true (hc.1 id hid).2⟩, fun hn => ?_, rfl⟩, h2⟩
    rcases hc.2 with h4 | h4
    · rw [hn] at h4; simp at h4
    · exact h4
theorem stepA_step {R : Type} {ops : Array Oper} {i : Nat} {o : Oper} (ho : ops[i]? = some o) {s : St} {K : St → List Foot → Option R} {r : R} (h : stepA tab Γ k ops.toList i o s K = some r) :
    ∃ fs s', Step tab Γ k ops i s fs s' ∧ K s' fs = some r := by
  unfold stepA at h
  split at h
  · rename_i hg
    obtain ⟨f, s', h1, h2, h3⟩ := execOpA_acts h
    exact ⟨[f], s', ⟨o, ho, .inl ⟨fun j want hh => by rw [hg] at hh; simp at hh, f, h1, rfl, h2⟩⟩, h3⟩
  · rename_i j want hg
    split at h
    · simp at h
    · rename_i d hd
      have skip : s.env d = .val .bool (!want) ∨ s.env d = .skipped → K (put s o.dst .skipped) [] = some r → ∃ fs s', Step tab Γ k ops i s fs s' ∧ K s' fs = some r :=
        fun he hk => ⟨[], _, ⟨o, ho, .inr ⟨⟨j, want, d, hg, hd, he⟩, rfl, rfl⟩⟩, hk⟩
      have run : s.env d = .val .bool want → execOpA tab Γ k i o s (fun s f => K s [f]) = some r → ∃ fs s', Step tab Γ k ops i s fs s' ∧ K s' fs = some r := by
        intro he hk
        obtain ⟨f, s', h1, h2, h3⟩ := execOpA_acts hk
        refine ⟨[f], s', ⟨o, ho, .inl ⟨fun j' want' hh => ?_, f, h1, rfl, h2⟩⟩, h3⟩
        rw [hg] at hh
        simp at hh
        obtain ⟨rfl, rfl⟩ := hh
        exact ⟨d, hd, he⟩
      split at h
      · rename_i b hb
        cases b with
        | true =>
          rw [put_same hb] at h
          cases want with
          | true => exact run hb h
          | false => exact skip (.inl hb) h
        | false =>
          rw [put_same hb] at h
          cases want with
          | true => exact skip (.inl hb) h
          | false => exact run hb h
      · rename_i hb
        exact skip (.inr hb) h
      · simp at h
theorem opsA_run {R : Type} {ops : Array Oper} : ∀ {rest : List Oper} {i : Nat} {s : St} {fs : List Foot} {K : St → List Foot → Option R} {r : R}, (∀ j, rest[j]? = ops[i + j]?) → opsA tab Γ k ops.toList i rest s fs K = some r →
    ∃ gs s', RunF tab Γ k ops (List.range' i rest.length) s gs s' ∧ K s' (gs.reverse ++ fs) = some r
  | [], i, s, fs, K, r, _, h => ⟨[], s, .nil s, by simpa [opsA] using h⟩
  | o :: rest, i, s, fs, K, r, hr, h => by
    simp only [opsA] at h
    have ho : ops[i]? = some o := by have := hr 0; simpa using this.symm
    obtain ⟨f, s1, h1, h2⟩ := stepA_step ho h
    obtain ⟨gs, s2, h3, h4⟩ := opsA_run (ops := ops) (rest := rest) (fun j => by have := hr (j + 1); simpa [Nat.add_assoc, Nat.add_comm 1 j] using this) h2
    have hf : f.reverse = f := by
      obtain ⟨_, _, ⟨_, _, _, rfl, _⟩ | ⟨_, rfl, _⟩⟩ := h1 <;> rfl
    refine ⟨f ++ gs, s2, .cons h1 h3, ?_⟩
    rw [List.reverse_append, hf, List.append_assoc]
    exact h4
end
end Go.GG
