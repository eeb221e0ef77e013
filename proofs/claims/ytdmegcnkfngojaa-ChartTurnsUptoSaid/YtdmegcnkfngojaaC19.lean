/- Every operation, together. -/
import Derived.Test.YtdmegcnkfngojaaC18
namespace Go.GG
open Go.RowKit
section
variable {P : Program} {E : Entry} {m : IMap} {s : St} {a : Act} {w : World}

theorem builtin_args {b : Builtin} {dst : Option Nat} {c : Call} (hc : c.callee = .builtin b) {v : Value} {w' : World} {ty : TypeId} {pos : String} {after : Array Edge} {guard : Option (Nat × Bool)}
    (h : (builtin b c.argTypes ty (c.args.map fun | .const _ => true | _ => false) (c.args.map a.eval)).run P w = .ok (.value v) w') :
    (execOp a.eval ⟨dst, .call c, ty, pos, after, guard⟩).run P w = .ok (.value v) w' := by
  simp only [execOp, resolve, hc, Sem.run_bind, Sem.run_pure, Result.andThen_ok, invoke]
  exact h
theorem isSlice_spec {t : TypeId} {i : TI} (ht : TOk P t i) (hk : i.kind.isSlice = true) : ∃ e, P.underlying t = some (.slice e) := by
  obtain ⟨d, hd, hs⟩ := ht.desc
  cases hkk : i.kind <;> rw [hkk] at hk hs <;> simp [TK.isSlice] at hk
  rw [summ_slice hs] at hd
  exact ⟨_, hd⟩
theorem isStr_spec {t : TypeId} {i : TI} (ht : TOk P t i) (hk : i.kind.isStr = true) : P.underlying t = some .string := by
  obtain ⟨d, hd, hs⟩ := ht.desc
  cases hkk : i.kind <;> rw [hkk] at hk hs <;> simp [TK.isStr] at hk
  rw [summ_str hs] at hd
  exact hd
theorem minmax_reps {ok : Nat → Prop} {c : Call} {l : L} {ls : List L} (ha : c.args.toList.map (ev s) = l :: ls) (hl : LReps P w ok m (c.args.toList.map (ev s)) (c.args.toList.map a.eval)) :
    ∃ v vs, (c.args.map a.eval).toList = v :: vs ∧ LRep P w ok m l v ∧ LReps P w ok m ls vs := by
  rw [ha] at hl
  obtain ⟨v, vs, h1, h2, h3⟩ := hl
  exact ⟨v, vs, by simpa using h1, h2, h3⟩
theorem call_args {c : Call} {b : Builtin} {x y : Operand} {sT xT : TypeId} (hc : c.callee = .builtin b) (hx : c.args.toList = [x, y]) (ht : c.argTypes.toList = [sT, xT]) : c = { callee := .builtin b, args := #[x, y], argTypes := #[sT, xT] } := by
  cases c
  simp only at hc hx ht
  rw [hc, array2 hx, array2 ht]
theorem builtin_does {dst : Nat} {c : Call} {b : Builtin} (hc : c.callee = .builtin b) {tab : Tab} (hT : TabOk P tab) (h : Rel P E m s a w) (hd : dst < E.N) {res : Res}
    (he : Ev (builtinOp tab b dst c.argTypes.toList (c.args.toList.map (ev s))) s.mem res) (hal : ∀ id ∈ res.allocs, s.used id = false ∧ id < lentBase)
    {ty : TypeId} {pos : String} {after : Array Edge} {guard : Option (Nat × Bool)} : Does P E ⟨some dst, .call c, ty, pos, after, guard⟩ s a w res := by
  have hd' : ∀ n, (⟨some dst, .call c, ty, pos, after, guard⟩ : Oper).dst = some n → n < E.N := fun n hn => by cases hn; exact hd
  have hl := h.evals c.args.toList
  unfold builtinOp at he
  split at he
  · -- len
    rename_i lx hargs
    obtain ⟨x, hx, rfl⟩ := map1 hargs
    have hx' := array1 hx
    split at he
    · rename_i t htl
      have ht' := array1 htl
      split at he
      · rename_i i hi
        have ht := hT _ _ hi
        have fin : ∀ {l : L}, (∃ v, (Builtin.len_ #[t] ty #[a.eval x]).run P w = .ok v w ∧ LRep P w (okOf E m s.mem w) m l v) → Does P E ⟨some dst, .call c, ty, pos, after, guard⟩ s a w (.of l) := by
          rintro l ⟨v, hv, hr⟩
          exact does_val h hd' (builtin_args hc (by rw [hx', ht']; simp [builtin, hv])) hr
        split at he
        · rename_i st hst
          rcases ev_cond.1 he with ⟨hk, he⟩ | ⟨_, he⟩
          case inr => simp [ev_fail] at he
          rw [ev_pure] at he; subst he
          exact fin (len_run h.memOk (isStr_spec ht hk) (.inl ⟨⟨st, hst⟩, rfl⟩) (by rw [hst]; simp [lenOp, ev_pure]) (h.eval x))
        · rename_i hns
          rcases ev_cond.1 he with ⟨hk, he⟩ | ⟨_, he⟩
          case inr => simp [ev_fail] at he
          simp only [ev_bind, ev_pure] at he
          obtain ⟨l, hl, rfl⟩ := he
          obtain ⟨e, hu⟩ := isSlice_spec ht hk
          exact fin (len_run h.memOk hu (.inr ⟨hns, e, rfl⟩) hl (h.eval x))
      · simp [ev_fail] at he
    · simp [ev_fail] at he
  · -- min
    rename_i l ls hargs
    simp only [ev_bind, ev_pure] at he
    obtain ⟨r, hr, rfl⟩ := he
    obtain ⟨v, vs, h1, h2, h3⟩ := minmax_reps hargs hl
    obtain ⟨u, hu, hru⟩ := fold_run (g := Builtin.min2) (fun h1 h2 h3 => min2_run h1 h2 h3) hr h2 h3
    exact does_val h hd' (builtin_args hc (by simp only [builtin, Builtin.min_, h1]; simp [hu])) hru
  · -- max
    rename_i l ls hargs
    simp only [ev_bind, ev_pure] at he
    obtain ⟨r, hr, rfl⟩ := he
    obtain ⟨v, vs, h1, h2, h3⟩ := minmax_reps hargs hl
    obtain ⟨u, hu, hru⟩ := fold_run (g := Builtin.max2) (fun h1 h2 h3 => max2_run h1 h2 h3) hr h2 h3
    exact does_val h hd' (builtin_args hc (by simp only [builtin, Builtin.max_, h1]; simp [hu])) hru
  · -- append
    rename_i lx ly hargs
    obtain ⟨x, y, hx, rfl, rfl⟩ := map2 hargs
    split at he
    · rename_i sT xT htl
      split at he
      · rename_i i j hi hj
        split at he
        · rename_i e t hk hit
          split at he
          · rename_i ei hei
            rcases ev_cond.1 he with ⟨hb, he⟩ | ⟨_, he⟩
            case inr => simp [ev_fail] at he
            simp only [Bool.and_eq_true, Bool.not_eq_true'] at hb
            rw [ev_bind] at he
            obtain ⟨more, hm, he⟩ := he
            have hcc := call_args hc hx htl
            obtain ⟨h1, h2⟩ : s.used dst = false ∧ dst < lentBase := by
              refine hal dst ?_
              unfold appendOp at he
              repeat' (first | split at he | (simp only [ev_get, ev_assume, ev_pure, ev_fail] at he))
              all_goals first
                | exact he.elim
                | (subst he; simp; done)
                | (obtain ⟨_, rfl⟩ := he; simp; done)
                | (obtain ⟨_, _, rfl⟩ := he; simp; done)
                | skip
            rw [hcc]
            exact append_does h hd h1 h2 (hT _ _ hi) hk (hT _ _ hj) hb.2 (hT _ _ hei) (by intro e0; simp [e0] at hb) (Nat.eq_of_beq_eq_true hb.1.1) hm he
          · simp [ev_fail] at he
        · simp [ev_fail] at he
      · simp [ev_fail] at he
    · simp [ev_fail] at he
  · simp [ev_fail] at he
end
end Go.GG
