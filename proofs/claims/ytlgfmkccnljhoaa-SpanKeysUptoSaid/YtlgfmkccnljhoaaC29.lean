/- A function keeps its specification: how it ends. -/
import Derived.Test.YtlgfmkccnljhoaaC28
namespace Go.GG
open Go.RowKit
section
variable {P : Program} {E : Entry} {m : IMap} {s : St} {a : Act} {w : World}

/-- What is handed on, and what is given away. -/
structure Ends (P : Program) (E : Entry) (m : IMap) (s : St) (w : World) (rs : List RK) (y : RD RK.den rs) (g : List Nat) (lent : List Nat) (vs : List Value) (G Rs : List Nat) : Prop where
  perm : g.Perm (G ++ (Rs ++ lent))
  alive : ∀ r ∈ G ++ (Rs ++ lent), (s.mem r).isSome
  blocks : rblocks rs vs = blks m Rs
  rep : ∀ ok', Lets E m s w ok' G → RReps w ok' rs y vs (blks m lent)
structure EndsOne (P : Program) (E : Entry) (m : IMap) (s : St) (w : World) (r : RK) (x : r.den) (g : List Nat) (v : Value) (G Rs : List Nat) : Prop where
  perm : g.Perm (G ++ Rs)
  alive : ∀ r ∈ G ++ Rs, (s.mem r).isSome
  blocks : ∀ rs vs, rblocks (r :: rs) (v :: vs) = blks m Rs ++ rblocks rs vs
  rep : ∀ ok', Lets E m s w ok' G → RRep w ok' r x v
  notBack : ∀ t, r ≠ .back t
theorem fresh_ok (h : Rel P E m s a w) {r : Nat} {ls ls' : List L} {g : List Nat} {t : T} {x : t.den} (hr : s.mem r = some (.cells ls)) (hp : pickLeaves s ls = some (ls', g)) (hi : t.implode ls' = some x) :
    (∀ r ∈ g, (s.mem r).isSome) ∧ ∃ b, m r = some (.var b) ∧ ∀ ok', Lets E m s w ok' g → VarAt w ok' t x b := by
  obtain ⟨i, h1, h2, h3⟩ := h.mem r _ hr
  cases i with
  | var b =>
    obtain ⟨us, e, h4, h5⟩ := h2
    obtain ⟨h6, h7⟩ := pickLeaves_ok h hp h5
    exact ⟨h6, b, h1, fun ok' hk => ⟨us, e, h4, implode_holds hi (h7 ok' hk)⟩⟩
  | arr v => exact h2.elim
  | shr v => exact h2.elim
  | blk A c => exact h2.elim
theorem outOne_ok (h : Rel P E m s a w) {r : RK} {l : L} {x : r.den} {g : List Nat} {v : Value} (ho : outOne s r l = some (x, g)) (hfit : outFit s l = true) (hl : LRep P w (okOf E m s.mem w) m l v) :
    ∃ G Rs, EndsOne P E m s w r x g v G Rs := by
  unfold outOne at ho
  split at ho
  · -- imm
    obtain ⟨h1, h2⟩ := pickVal_ok h ho hl
    exact ⟨g, [], by simp, by simpa using h1, fun _ _ => rfl, h2, by simp⟩
  · -- agg
    split at ho
    · rename_i ls' g1 hp
      split at ho
      · rename_i z hz
        simp only [Option.some.injEq, Prod.mk.injEq] at ho
        obtain ⟨rfl, rfl⟩ := ho
        obtain ⟨vs, rfl, hls⟩ := hl
        obtain ⟨h1, h2⟩ := pickLeaves_ok h hp hls
        exact ⟨g1, [], by simp, by simpa using h1, fun _ _ => rfl, fun ok' hk => ⟨vs, rfl, implode_holds hz (h2 ok' hk)⟩, by simp⟩
      · simp at ho
    · simp at ho
  · -- own
    rename_i t r
    split at ho
    · rename_i t' xs hr
      split at ho
      · rename_i z hz
        simp only [Option.some.injEq, Prod.mk.injEq] at ho
        obtain ⟨rfl, rfl⟩ := ho
        obtain ⟨e, he⟩ := cast?_some hz
        cases e; subst he
        obtain ⟨i, h1, h2, h3⟩ := h.mem r _ hr
        simp only [LRep] at hl
        rw [h1] at hl
        rcases hl with hl | hl <;> (simp at hl; subst hl; simp only [CRep] at h2)
        refine ⟨[], [r], by simp, by simp [hr], fun rs vs => ?_, fun ok' hk => OwnRow.mono (Keeps.weaken hk.old) (fun _ _ => rfl) h2, by simp⟩
        simp only [rblocks, blks, List.flatMap_cons, List.flatMap_nil, List.append_nil]
        rw [rowBlock_of (h.shape _ _ h1), blk_some h1]
        rfl
      · simp at ho
    · simp at ho
  · -- own, nils
    simp only [Option.some.injEq, Prod.mk.injEq] at ho
    obtain ⟨rfl, rfl⟩ := ho
    simp only [LRep] at hl; subst hl
    exact ⟨[], [], by simp, by simp, fun _ _ => rfl, fun _ _ => .inl ⟨rfl, rfl⟩, by simp⟩
  · -- own, a view of a block
    rename_i t r cnt n
    split at ho
    · rename_i t' xs c hr
      simp only [outFit, hr] at hfit
      have hn := Nat.le_of_ble_eq_true hfit
      · split at ho
        · rename_i z hz
          simp only [Option.some.injEq, Prod.mk.injEq] at ho
          obtain ⟨rfl, rfl⟩ := ho
          obtain ⟨e, he⟩ := cast?_some hz
          cases e; subst he
          obtain ⟨A, c1, k, hm, rfl, hk⟩ := hl
          obtain ⟨i, h1, h2, h3⟩ := h.mem r _ hr
          have hm0 := hm
          rcases hm with hm | ⟨n0, hm⟩ <;> (rw [hm] at h1; simp at h1; subst h1; simp only [CRep] at h2)
          obtain ⟨rfl, h2⟩ := h2
          obtain rfl : k = 0 := by
            have := hk.resolve_left (by omega)
            omega
          have hA : A.map (·.add 0) = A := by
            rcases h2 with ⟨h4, _⟩ | ⟨b, C, e', fr, cap, h4, _⟩
            · simp only [Value.slice.injEq] at h4
              obtain ⟨rfl, _⟩ := h4
              rfl
            · simp only [Value.slice.injEq] at h4
              obtain ⟨rfl, _⟩ := h4
              rfl
          rw [hA]
          have hpre := own_take h2 (k := n) hn
          refine ⟨[], [r], by simp, by simp [hr], fun rs vs => ?_, fun ok' hk => OwnRow.mono (Keeps.weaken hk.old) (fun _ _ => rfl) hpre, by simp⟩
          simp only [rblocks, blks, List.flatMap_cons, List.flatMap_nil, List.append_nil]
          rw [blk_some hm]
          cases A <;> rfl
        · simp at ho
    · simp at ho
  · -- full
    split at ho
    · rename_i z hz
      simp only [Option.some.injEq, Prod.mk.injEq] at ho
      obtain ⟨rfl, rfl⟩ := ho
      obtain ⟨e, he⟩ := cast?_some hz
      cases e; subst he
      exact ⟨[], [], by simp, by simp, fun _ _ => rfl, fun ok' hk => ⟨T.holds_mono (t := .slice _) (Keeps.weaken hk.old) hl.1, hl.2⟩, by simp⟩
    · simp at ho
  · -- fresh
    rename_i t r
    split at ho
    · rename_i ls hr
      split at ho
      · rename_i ls' g1 hp
        split at ho
        · rename_i z hz
          cases hb : Nat.ble lentBase r with
          | true => rw [hb] at ho; simp at ho
          | false =>
            rw [hb] at ho
            simp only [cond_false, Option.some.injEq, Prod.mk.injEq] at ho
            obtain ⟨rfl, rfl⟩ := ho
            obtain ⟨h1, b, h2, h3⟩ := fresh_ok h hr hp hz
            obtain ⟨b', h4, rfl⟩ := hl
            rw [h2] at h4; simp at h4; subst h4
            refine ⟨g1, [r], ?_, fun r' hr' => ?_, fun rs vs => ?_, fun ok' hk => ⟨b, rfl, h3 ok' hk⟩, by simp⟩
            · exact (List.perm_append_singleton r g1).symm
            · rcases List.mem_append.1 hr' with hr' | hr'
              · exact h1 r' hr'
              · simp at hr'; subst hr'; simp [hr]
            · simp only [rblocks, blks, List.flatMap_cons, List.flatMap_nil, List.append_nil, ptrBlock]
              rw [blk_some h2]; rfl
        · simp at ho
      · simp at ho
    · simp at ho
  · -- ofresh, nilp
    simp only [Option.some.injEq, Prod.mk.injEq] at ho
    obtain ⟨rfl, rfl⟩ := ho
    simp only [LRep] at hl; subst hl
    exact ⟨[], [], by simp, by simp, fun _ _ => rfl, fun _ _ => .inl ⟨rfl, rfl⟩, by simp⟩
  · -- ofresh, ptr
    rename_i t r
    split at ho
    · rename_i ls hr
      split at ho
      · rename_i ls' g1 hp
        split at ho
        · rename_i z hz
          cases hb : Nat.ble lentBase r with
          | true => rw [hb] at ho; simp at ho
          | false =>
            rw [hb] at ho
            simp only [cond_false, Option.some.injEq, Prod.mk.injEq] at ho
            obtain ⟨rfl, rfl⟩ := ho
            obtain ⟨h1, b, h2, h3⟩ := fresh_ok h hr hp hz
            obtain ⟨b', h4, rfl⟩ := hl
            rw [h2] at h4; simp at h4; subst h4
            refine ⟨g1, [r], ?_, fun r' hr' => ?_, fun rs vs => ?_, fun ok' hk => .inr ⟨z, b, rfl, rfl, h3 ok' hk⟩, by simp⟩
            · exact (List.perm_append_singleton r g1).symm
            · rcases List.mem_append.1 hr' with hr' | hr'
              · exact h1 r' hr'
              · simp at hr'; subst hr'; simp [hr]
            · simp only [rblocks, blks, List.flatMap_cons, List.flatMap_nil, List.append_nil, ptrBlock]
              rw [blk_some h2]; rfl
        · simp at ho
      · simp at ho
    · simp at ho
  · -- nsl, nils
    simp only [Option.some.injEq, Prod.mk.injEq] at ho
    obtain ⟨rfl, rfl⟩ := ho
    exact ⟨[], [], by simp, by simp, fun _ _ => rfl, fun _ _ => .inl ⟨rfl, hl⟩, by simp⟩
  · -- nsl, nnil
    split at ho
    · rename_i z hz
      simp only [Option.some.injEq, Prod.mk.injEq] at ho
      obtain ⟨rfl, rfl⟩ := ho
      obtain ⟨e, he⟩ := cast?_some hz
      cases e; subst he
      exact ⟨[], [], by simp, by simp, fun _ _ => rfl, fun ok' hk => .inr ⟨_, rfl, T.holds_mono (t := .slice _) (Keeps.weaken hk.old) hl.1, hl.2⟩, by simp⟩
    · simp at ho
  · simp only [Option.some.injEq, Prod.mk.injEq] at ho
    obtain ⟨_, rfl⟩ := ho
    exact ⟨[], [], by simp, by simp, fun _ _ => rfl, fun _ _ => hl, by simp⟩
  · simp at ho
theorem rreps_cons {ok : Nat → Prop} {r : RK} (hn : ∀ t, r ≠ .back t) {rs : List RK} {x : r.den} {y : RD RK.den rs} {v : Value} {vs : List Value} {bs : List Nat} (h1 : RRep w ok r x v) (h2 : RReps w ok rs y vs bs) :
    RReps w ok (r :: rs) (RD.mk (k := r) x y) (v :: vs) bs := by
  cases r
  case back t => exact absurd rfl (hn t)
  all_goals exact ⟨v, vs, rfl, by rw [hd_mk]; exact h1, by rw [tl_mk]; exact h2⟩
theorem perm_four (G1 R1 G2 R2 l : List Nat) : ((G1 ++ R1) ++ (G2 ++ (R2 ++ l))).Perm ((G1 ++ G2) ++ ((R1 ++ R2) ++ l)) := by
  simp only [List.append_assoc]
  refine List.Perm.append_left G1 ?_
  rw [← List.append_assoc, ← List.append_assoc G2]
  exact List.Perm.append_right _ List.perm_append_comm
theorem outAll_ok (h : Rel P E m s a w) : ∀ {rs : List RK} {ls : List L} {lent : List Nat} {y : RD RK.den rs} {g : List Nat} {vs : List Value}, outAll s rs ls lent = some (y, g) → ls.all (outFit s) = true → LReps P w (okOf E m s.mem w) m ls vs →
    ∃ G Rs, Ends P E m s w rs y g lent vs G Rs
  | [], ls, lent, y, g, vs, ho, _, hl => by
    cases ls with
    | cons l ls => simp [outAll] at ho
    | nil =>
      cases lent with
      | cons r lent => simp [outAll] at ho
      | nil =>
        simp only [outAll, Option.some.injEq, Prod.mk.injEq] at ho
        obtain ⟨_, rfl⟩ := ho
        simp only [LReps] at hl; subst hl
        exact ⟨[], [], by simp, by simp, rfl, fun _ _ => ⟨rfl, rfl⟩⟩
  | r :: rs, ls, lent, y, g, vs, ho, hfit, hl => by
    by_cases hb : ∃ t, r = .back t
    · obtain ⟨t, rfl⟩ := hb
      cases lent with
      | nil => cases ls <;> simp [outAll, outOne] at ho
      | cons r0 lent =>
        simp only [outAll] at ho
        split at ho
        · rename_i ms hr
          split at ho
          · rename_i ms' g1 hp
            split at ho
            · rename_i x hx
              split at ho
              · rename_i z g2 hz
                simp only [Option.some.injEq, Prod.mk.injEq] at ho
                obtain ⟨rfl, rfl⟩ := ho
                obtain ⟨h1, b, h2, h3⟩ := fresh_ok h hr hp hx
                obtain ⟨G, Rs, A⟩ := outAll_ok h hz hfit hl
                refine ⟨g1 ++ G, Rs, ?_, fun r' hr' => ?_, ?_, fun ok' hk => ?_⟩
                · have p1 : (g1 ++ g2).Perm (g1 ++ (G ++ (Rs ++ lent))) := List.Perm.append_left g1 A.perm
                  have p2 : (r0 :: (g1 ++ (G ++ (Rs ++ lent)))).Perm ((g1 ++ G) ++ (Rs ++ (r0 :: lent))) := by
                    have : (g1 ++ G) ++ (Rs ++ (r0 :: lent)) = ((g1 ++ G) ++ Rs) ++ r0 :: lent := by simp
                    rw [this]
                    have := (List.perm_middle (a := r0) (l₁ := (g1 ++ G) ++ Rs) (l₂ := lent)).symm
                    simpa [List.append_assoc] using this
                  exact (p1.cons r0).trans p2
                · simp only [List.mem_append, List.mem_cons] at hr'
                  rcases hr' with (hr' | hr') | hr' | hr' | hr'
                  · exact h1 r' hr'
                  · exact A.alive r' (by simp [hr'])
                  · exact A.alive r' (by simp [hr'])
                  · subst hr'; simp [hr]
                  · exact A.alive r' (by simp [hr'])
                · have : rblocks (.back t :: rs) vs = rblocks rs vs := by cases vs <;> rfl
                  rw [this]; exact A.blocks
                · have e : blks m (r0 :: lent) = b :: blks m lent := by simp [blks, blk_some h2, bk, Impl.block]
                  rw [e]
                  exact ⟨b, _, rfl, by rw [hd_mk]; exact h3 ok' hk.left, by rw [tl_mk]; exact A.rep ok' hk.right⟩
              · simp at ho
            · simp at ho
          · simp at ho
        · simp at ho
    · have hnb : ∀ t, r ≠ .back t := fun t e => hb ⟨t, e⟩
      cases ls with
      | nil => cases lent <;> cases r <;> simp [outAll] at ho <;> exact absurd rfl (hnb _)
      | cons l ls =>
        obtain ⟨v, vs', rfl, h1, h2⟩ := hl
        have ho' : ∃ x g1 z g2, outOne s r l = some (x, g1) ∧ outAll s rs ls lent = some (z, g2) ∧ y = RD.mk (k := r) x z ∧ g = g1 ++ g2 := by
          cases r
          case back t => exact absurd rfl (hnb t)
          all_goals
            simp only [outAll] at ho
            split at ho
            · rename_i x g1 hx
              split at ho
              · rename_i z g2 hz
                simp only [Option.some.injEq, Prod.mk.injEq] at ho
                obtain ⟨rfl, rfl⟩ := ho
                exact ⟨x, g1, z, g2, hx, hz, rfl, rfl⟩
              · simp at ho
            · simp at ho
        obtain ⟨x, g1, z, g2, hx, hz, rfl, rfl⟩ := ho'
        simp only [List.all_cons, Bool.and_eq_true] at hfit
        obtain ⟨G1, R1, A⟩ := outOne_ok h hx hfit.1 h1
        obtain ⟨G2, R2, B⟩ := outAll_ok h hz hfit.2 h2
        refine ⟨G1 ++ G2, R1 ++ R2, (List.Perm.append A.perm B.perm).trans (perm_four _ _ _ _ _), fun r' hr' => ?_, ?_, fun ok' hk => ?_⟩
        · simp only [List.mem_append] at hr'
          rcases hr' with (hr' | hr') | (hr' | hr') | hr'
          · exact A.alive r' (by simp [hr'])
          · exact B.alive r' (by simp [hr'])
          · exact A.alive r' (by simp [hr'])
          · exact B.alive r' (by simp [hr'])
          · exact B.alive r' (by simp [hr'])
        · rw [A.blocks, B.blocks]; simp [blks]
        · exact rreps_cons hnb (A.rep ok' hk.left) (B.rep ok' hk.right)

theorem resultL_ok (h : Rel P E m s a w) {tab : Tab} (hT : TabOk P tab) {v : ResultVar} {l : L} (hr : resultL tab s v = some l) : ∃ u, (match v with
    | .tmp t => pure (a.tmps.getD t undef)
    | .cell b t => do loadVar t (← asAddr (a.tmps.getD b undef)) : Sem Value).run P w = .ok u w ∧ LRep P w (okOf E m s.mem w) m l u := by
  cases v with
  | tmp t => simp only [resultL, Option.some.injEq] at hr; subst hr; exact ⟨_, rfl, h.env t⟩
  | cell b t =>
    simp only [resultL] at hr
    split at hr
    · rename_i i r off hi hb
      split at hr
      · rename_i ls hls
        have hv := h.env b
        rw [hb] at hv
        obtain ⟨bl, h1, h2⟩ := hv
        obtain ⟨j, h3, h4, _⟩ := h.mem r _ hls
        rw [h1] at h3; simp at h3; subst h3
        obtain ⟨us, e, h5, h6⟩ := h4
        have he : Ev (loadLs i ls off) s.mem l := by
          unfold loadLs
          cases ha : i.isAgg with
          | true =>
            rw [ha] at hr
            simp only [cond_true] at hr ⊢
            cases hb2 : Nat.ble (off + i.size) ls.length with
            | true => rw [hb2] at hr; simp at hr; subst hr; exact ev_pure.2 rfl
            | false => rw [hb2] at hr; simp at hr
          | false =>
            rw [ha] at hr
            simp only [cond_false] at hr ⊢
            rw [hr]
            exact ev_pure.2 rfl
        obtain ⟨u, hu, hru⟩ := loadVar_run (o := 0) (hT _ _ hi) h5 h6 (fun j v hv => by simpa using hv) he
        refine ⟨u, ?_, hru⟩
        show (do loadVar t (← asAddr (a.tmps.getD b undef)) : Sem Value).run P w = _
        rw [h2]
        simp only [Nat.zero_add] at hu
        simp [asAddr, hu]
      · simp at hr
    · simp at hr
theorem resultLs_ok (h : Rel P E m s a w) {tab : Tab} (hT : TabOk P tab) : ∀ {l : List ResultVar} {ls : List L}, resultLs tab s l = some ls → ∃ us, (l.mapM fun v => (match v with
    | .tmp t => pure (a.tmps.getD t undef)
    | .cell b t => do loadVar t (← asAddr (a.tmps.getD b undef)) : Sem Value)).run P w = .ok us w ∧ LReps P w (okOf E m s.mem w) m ls us
  | [], ls, hr => by simp only [resultLs, Option.some.injEq] at hr; subst hr; exact ⟨[], rfl, rfl⟩
  | v :: l, ls, hr => by
    simp only [resultLs] at hr
    split at hr
    · simp at hr
    · rename_i l1 h1
      split at hr
      · simp at hr
      · rename_i ls1 h2
        simp only [Option.some.injEq] at hr; subst hr
        obtain ⟨u, hu, hru⟩ := resultL_ok h hT h1
        obtain ⟨us, hus, hrus⟩ := resultLs_ok h hT h2
        exact ⟨u :: us, by simp only [List.mapM_cons, Sem.run_bind, hu, Result.andThen_ok, hus, Sem.run_pure], u, us, rfl, hru, hrus⟩
theorem results_ok (h : Rel P E m s a w) {tab : Tab} (hT : TabOk P tab) {fn : Func} {ls : List L} (hr : resultLs tab s fn.results.toList = some ls) :
    ∃ us, (results fn a.tmps).run P w = .ok (valOf us) w ∧ LReps P w (okOf E m s.mem w) m ls us := by
  obtain ⟨us, h1, h2⟩ := resultLs_ok h hT hr
  refine ⟨us, ?_, h2⟩
  unfold results
  rw [Array.mapM_eq_mapM_toList]
  simp only [Sem.run_bind, Sem.run_map]
  have h1' := h1
  erw [h1']
  simp only [Result.andThen_ok, Sem.run_pure]
  match us with
  | [] => rfl
  | [v] => rfl
  | v :: u :: us => simp [valOf]

theorem blks_congr {m m' : IMap} : ∀ {rs : List Nat}, (∀ r ∈ rs, blk m r = blk m' r) → blks m rs = blks m' rs
  | [], _ => rfl
  | r :: rs, h => by
    have := blks_congr (rs := rs) fun r' hr' => h r' (by simp [hr'])
    simp only [blks, List.flatMap_cons] at this ⊢
    rw [this, h r (by simp)]
/-- A function whose parts are right keeps its specification. -/
theorem func_sound {tab : Tab} (hT : TabOk P tab) {Γ : Env} (hΓ : EnvOk P Γ) (hm : P.follows .mixedOrders = true) {f : FuncId} {fn : Func} {c : Code} {sp : FSpec} {Λ : Parts} (hf : P.funcs[f]? = some fn) (hb : fn.body = some c) (hname : fn.name ≠ "runtime.NumGoroutine")
    (hN : sp.ps.length ≤ fn.ntmps) (hl : sp.ps.length ≤ lentBase) (hreg : regionsOk fn.ntmps c = true) (hparts : PartsOk tab Γ Λ 0 c) (hfunc : FuncOk tab Γ Λ fn c sp) : SpecOk P f sp := by
  refine ⟨⟨fn, hf, hname, by rw [hb]; rfl⟩, fun k x y hy w ok0 vals hok hp hnd hpb => ?_⟩
  have hlen : vals.length = sp.ps.length := (starts (j := 0) hp (by omega)).len
  have A := starts (P := P) (w := w) (j := 0) hp (by omega)
  refine calls_of_wp hf hb ?_
  rw [hfunc k x] at hy
  refine aexec_sound (E := entry w ok0 sp.ps vals fn.ntmps) hT hΓ hm c 0 k hparts hreg hy ⟨_, start_rel hok hp hl hN (List.nodup_append.1 hnd).1 hpb⟩ ?_
  rintro e s a' w' hfin ⟨m, h⟩
  have done : resultLs tab s fn.results.toList = none ∨ (∃ ls, resultLs tab s fn.results.toList = some ls ∧ ∃ g, outAll s sp.rs ls (lentRefs sp.ps 0) = some (y, g) ∧ nodup g = true ∧ ls.all (outFit s) = true) → e ≠ .exit 0 → (resultLs tab s fn.results.toList ≠ none) →
      a'.defers = [] ∧ ∃ v, (results fn a'.tmps).run P w' = .ok v w' ∧ ∃ vs, Ending.returned v = .returned (valOf vs) ∧ Goes (· ∈ pblocks sp.ps vals) w w' ∧ (rblocks sp.rs vs ++ lblocks sp.ps vals).Nodup ∧
        (∀ b ∈ rblocks sp.rs vs, b < w'.heap.size ∧ (b ∈ pblocks sp.ps vals ∨ w.heap.size ≤ b)) ∧
        RReps w' (fun b => b < w'.heap.size ∧ (ok0 b ∨ b ∈ pblocks sp.ps vals ∨ w.heap.size ≤ b) ∧ b ∉ rblocks sp.rs vs ++ lblocks sp.ps vals) sp.rs y vs (lblocks sp.ps vals) := by
    rintro (hnone | ⟨ls, hls, g, ho, hg, hfit⟩) _ hsome
    · exact absurd hnone hsome
    obtain ⟨vs, h1, h2⟩ := results_ok h hT hls
    obtain ⟨G, Rs, B⟩ := outAll_ok h ho hfit h2
    have hgn : (G ++ (Rs ++ lentRefs sp.ps 0)).Nodup := B.perm.nodup_iff.1 (nodup_iff hg)
    have hgd := List.nodup_append.1 hgn
    -- the lent blocks are where they were
    have hlb : blks m (lentRefs sp.ps 0) = lblocks sp.ps vals := by
      rw [← A.lents (look (pimpls sp.ps 0 vals)) (look_mem A.nodup)]
      have key : ∀ r ∈ lentRefs sp.ps 0, blk m r = blk (look (pimpls sp.ps 0 vals)) r := by
        intro r hr
        have hbase : lentBase ≤ r := by
          have : ∀ (ps : List PK) (j r : Nat), r ∈ lentRefs ps j → lentBase ≤ r := by
            intro ps
            induction ps with
            | nil => intro j r hr; simp [lentRefs] at hr
            | cons p ps ih =>
              intro j r hr
              cases p <;> simp only [lentRefs, List.mem_cons] at hr
              case lent t =>
                rcases hr with rfl | hr
                · omega
                · exact ih _ _ hr
              all_goals exact ih _ _ hr
          exact this _ _ _ hr
        obtain ⟨b, h3, h4⟩ := h.lent r (B.alive r (by simp [hr])) hbase
        simp only [entry] at h3
        split at h3
        · rename_i b' hb'
          simp at h3; subst h3
          rw [blk_some h4, blk_some hb']
        · simp at h3
      exact blks_congr key
    have alive2 : ∀ r ∈ Rs ++ lentRefs sp.ps 0, (s.mem r).isSome := fun r hr => B.alive r (List.mem_append_right _ hr)
    have hblk : rblocks sp.rs vs ++ lblocks sp.ps vals = blks m (Rs ++ lentRefs sp.ps 0) := by rw [B.blocks, ← hlb]; simp [blks]
    refine ⟨h.defers, _, h1, vs, rfl, h.goes, by rw [hblk]; exact h.blks_nodup hgd.2.1 alive2, fun b hb => ?_, ?_⟩
    · rw [B.blocks] at hb
      obtain ⟨r, hr, i, hi, hbk⟩ := mem_blks hb
      obtain ⟨c', hc'⟩ := Option.isSome_iff_exists.1 (B.alive r (by simp [hr]))
      obtain ⟨i', h3, _, h5⟩ := h.mem r c' hc'
      rw [hi] at h3; simp at h3; subst h3
      exact h5 b hbk
    · rw [hblk, ← hlb]
      refine B.rep _ ⟨fun b hb => ⟨hb.1, hb.2.1, fun hh => ?_⟩, fun r hr i b hi hbk => ?_⟩
      · obtain ⟨r, hr, i, hi, hbk⟩ := mem_blks hh
        obtain ⟨c', hc'⟩ := Option.isSome_iff_exists.1 (alive2 r hr)
        exact hb.2.2 ⟨r, c', i, hc', hi, hbk⟩
      · obtain ⟨c', hc'⟩ := Option.isSome_iff_exists.1 (B.alive r (by simp [hr]))
        obtain ⟨i', h3, _, h5⟩ := h.mem r c' hc'
        rw [hi] at h3; simp at h3; subst h3
        refine ⟨(h5 b hbk).1, .inr (h5 b hbk).2, fun hh => ?_⟩
        obtain ⟨r', hr', i', hi', hbk'⟩ := mem_blks hh
        obtain ⟨c'', hc''⟩ := Option.isSome_iff_exists.1 (alive2 r' hr')
        have := h.inj r r' c' c'' i i' b hc' hc'' hi hi' hbk hbk'
        subst this
        exact hgd.2.2 r hr r hr' rfl
  have fin : ∀ {o : Option (RD RK.den sp.rs)}, o = some y → o = (match resultLs tab s fn.results.toList with
      | none => none
      | some ls => cond (ls.all (outFit s)) (match outAll s sp.rs ls (lentRefs sp.ps 0) with
        | none => none
        | some (y, g) => cond (nodup g) (some y) none) none) → ∃ ls, resultLs tab s fn.results.toList = some ls ∧ ∃ g, outAll s sp.rs ls (lentRefs sp.ps 0) = some (y, g) ∧ nodup g = true ∧ ls.all (outFit s) = true := by
    intro o ho he
    rw [ho] at he
    split at he
    · simp at he
    · rename_i ls hls
      cases hfit : ls.all (outFit s) with
      | false => rw [hfit] at he; simp at he
      | true =>
      rw [hfit] at he
      simp only [cond_true] at he
      split at he
      · simp at he
      · rename_i y' g hg
        cases hn : nodup g with
        | false => rw [hn] at he; simp at he
        | true => rw [hn] at he; simp at he; subst he; exact ⟨ls, hls, g, hg, hn, hfit⟩
  cases e with
  | exit id => simp [finish] at hfin
  | normal =>
    have hx := fin hfin rfl
    obtain ⟨ls, hls, hrest⟩ := hx
    exact done (.inr ⟨ls, hls, hrest⟩) (by simp) (by simp [hls])
  | ret =>
    have hx := fin hfin rfl
    obtain ⟨ls, hls, hrest⟩ := hx
    exact done (.inr ⟨ls, hls, hrest⟩) (by simp) (by simp [hls])
end
end Go.GG
