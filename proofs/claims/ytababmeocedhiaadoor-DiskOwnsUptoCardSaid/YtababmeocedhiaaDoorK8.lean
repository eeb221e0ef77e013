/- The core of our own, in one with others. -/
import Derived.Test.YtababmeocedhiaaDoorK3
/- Rows of pointers at things of one's own: how memory turns. -/
namespace Go.GG
open Go.RowKit
section
variable {τ : Tabs} {P : Program} {E : Entry} {m : IMap} {s : St} {a : Act} {w : World}

/-- The one step by which memory turns, where nothing turns but what is named. -/
theorem Rel.recast (h : Rel P E m s a w) (D : Nat → Prop) {μ' : Nat → Option C} {m' : IMap} {u' : Nat → Bool} {w' : World}
    (hext : Ext m m') (hu : ∀ r, m' r ≠ none → u' r = true) (hout : ∀ r, ¬ D r → μ' r = s.mem r ∧ ((s.mem r).isSome → m' r = m r))
    (hw : Goes (fun b => ∃ r c i, D r ∧ s.mem r = some c ∧ m r = some i ∧ b ∈ i.blocks) w w')
    (hin : ∀ r c, D r → μ' r = some c → ∃ i, m' r = some i ∧ (∀ ok', Keeps w w' (okOf E m s.mem w) ok' → CRep P w' ok' m' c i) ∧
      ∀ b ∈ i.blocks, b < w'.heap.size ∧ ((∃ r0 c0 i0, D r0 ∧ s.mem r0 = some c0 ∧ m r0 = some i0 ∧ b ∈ i0.blocks) ∨ w.heap.size ≤ b))
    (hinj : ∀ r r' c c' i i' b, D r → D r' → μ' r = some c → μ' r' = some c' → m' r = some i → m' r' = some i' → b ∈ i.blocks → b ∈ i'.blocks → r = r')
    (hlive : ∀ r, D r → (μ' r).isSome → lentBase ≤ r → (s.mem r).isSome) (hsh : ∀ r i, m' r = some i → i.shape) :
    Rel P E m' { s with mem := μ', used := u' } a w' := by
  have oldB : ∀ {r c i b}, s.mem r = some c → m r = some i → b ∈ i.blocks → b < w.heap.size ∧ (E.V0 b ∨ E.w0.heap.size ≤ b) := by
    intro r c i b hc hi hb
    obtain ⟨i', h1, _, h3⟩ := h.mem r c hc
    rw [hi] at h1; simp at h1; subst h1
    exact h3 b hb
  -- what was not named stands
  have stay : ∀ {r c i b}, ¬ D r → s.mem r = some c → m r = some i → b ∈ i.blocks → w'.heap[b]? = w.heap[b]? := by
    intro r c i b hD hc hi hb
    refine hw.block b (oldB hc hi hb).1 ?_
    rintro ⟨r0, c0, i0, h1, h2, h3, h4⟩
    have := h.inj r r0 c c0 i i0 b hc h2 hi h3 hb h4
    subst this
    exact hD h1
  have hok : ∀ b, okOf E m s.mem w b → w'.heap[b]? = w.heap[b]? ∧ ¬ Vof m' μ' b := by
    intro b hb
    refine ⟨hw.block b hb.1 fun ⟨r, c, i, _, h2, h3, h4⟩ => hb.2.2 ⟨r, c, i, h2, h3, h4⟩, ?_⟩
    rintro ⟨r, c, i, h1, h2, h3⟩
    by_cases hD : D r
    · obtain ⟨i', h4, _, h5⟩ := hin r c hD h1
      rw [h2] at h4; simp at h4; subst h4
      rcases (h5 b h3).2 with ⟨r0, c0, i0, _, h6, h7, h8⟩ | h6
      · exact hb.2.2 ⟨r0, c0, i0, h6, h7, h8⟩
      · exact absurd hb.1 (Nat.not_lt.2 h6)
    · obtain ⟨h4, h5⟩ := hout r hD
      rw [h4] at h1
      rw [h5 (by rw [h1]; rfl)] at h2
      exact hb.2.2 ⟨r, c, i, h1, h2, h3⟩
  have hk := h.keeps hw.size hok
  refine h.turn hext hu (fun b hb hv => hw.block b (Nat.lt_of_lt_of_le hb h.goes.size) ?_) hw.size hw.os hw.tape hw.output hok (fun r c hr => ?_) (fun r r' c c' i i' b hr hr' hi hi' hb hb' => ?_) (fun r hr hl => ?_) hsh
  · rintro ⟨r, c, i, _, h2, h3, h4⟩
    rcases (oldB h2 h3 h4).2 with h5 | h5
    · exact hv h5
    · omega
  · by_cases hD : D r
    · obtain ⟨i, h1, h2, h3⟩ := hin r c hD hr
      refine ⟨i, h1, h2 _ hk, fun b hb => ⟨(h3 b hb).1, ?_⟩⟩
      rcases (h3 b hb).2 with ⟨r0, c0, i0, _, h6, h7, h8⟩ | h6
      · exact (oldB h6 h7 h8).2
      · exact .inr (Nat.le_trans h.goes.size h6)
    · obtain ⟨h4, h5⟩ := hout r hD
      rw [h4] at hr
      obtain ⟨i, h1, h2, h3⟩ := h.mem r c hr
      exact ⟨i, (h5 (by rw [hr]; rfl)).trans h1, h2.mono hk hext (fun b hb => stay hD hr h1 hb), fun b hb => ⟨Nat.lt_of_lt_of_le (h3 b hb).1 hw.size, (h3 b hb).2⟩⟩
  · have cross : ∀ {r r' c c' i i'}, D r → ¬ D r' → μ' r = some c → μ' r' = some c' → m' r = some i → m' r' = some i' → b ∈ i.blocks → b ∈ i'.blocks → False := by
      intro r r' c c' i i' hD hD' hr hr' hi hi' hb hb'
      obtain ⟨i1, h1, _, h3⟩ := hin r c hD hr
      rw [hi] at h1; simp at h1; subst h1
      obtain ⟨h4, h5⟩ := hout r' hD'
      rw [h4] at hr'
      rw [h5 (by rw [hr']; rfl)] at hi'
      rcases (h3 b hb).2 with ⟨r0, c0, i0, h6, h7, h8, h9⟩ | h6
      · have := h.inj r0 r' c0 c' i0 i' b h7 hr' h8 hi' h9 hb'
        subst this
        exact hD' h6
      · exact absurd (oldB hr' hi' hb').1 (Nat.not_lt.2 h6)
    by_cases hD : D r <;> by_cases hD' : D r'
    · exact hinj r r' c c' i i' b hD hD' hr hr' hi hi' hb hb'
    · exact (cross hD hD' hr hr' hi hi' hb hb').elim
    · exact (cross hD' hD hr' hr hi' hi hb' hb).elim
    · obtain ⟨h4, h5⟩ := hout r hD
      obtain ⟨h6, h7⟩ := hout r' hD'
      rw [h4] at hr; rw [h6] at hr'
      rw [h5 (by rw [hr]; rfl)] at hi
      rw [h7 (by rw [hr']; rfl)] at hi'
      exact h.inj r r' c c' i i' b hr hr' hi hi' hb hb'
  · by_cases hD : D r
    · exact hlive r hD hr hl
    · rw [(hout r hD).1] at hr; exact hr

theorem editMem_gone' {l : List Nat} {μ : Nat → Option C} {r : Nat} (h : r ∉ l) : editMem (gone l) μ r = μ r := by
  induction l generalizing μ with
  | nil => rfl
  | cons q l ih =>
    simp only [List.mem_cons, not_or] at h
    simp only [gone, List.map_cons, editMem]
    have := ih (μ := fun r' => cond (Nat.beq r' q) none (μ r')) h.2
    simp only [gone] at this
    rw [this]
    cases hb : Nat.beq r q with
    | true => exact absurd (Nat.eq_of_beq_eq_true hb) h.1
    | false => rfl
theorem editMem_gone_in {l : List Nat} {μ : Nat → Option C} {r : Nat} (h : r ∈ l) : editMem (gone l) μ r = none := by
  cases hc : editMem (gone l) μ r with
  | none => rfl
  | some c => exact absurd h (editMem_gone hc).1

/-! ### A thing that stands by itself -/
theorem sgOf_ev {μ : Nat → Option C} {ls : List L} {p : SG × List Nat} (h : sgOf μ ls = some p) : Ev (sgRM ls) μ p := by
  obtain ⟨a, r1, r2, h1, h2, _⟩ := RM.run_ev (m := sgRM ls) h
  simp only [Option.some.injEq] at h2; subst h2
  exact ⟨r1, h1⟩
theorem sg_at (h : Rel P E m s a w) {R : Nat} {ls : List L} {x : SG} {rs : List Nat} (hR : s.mem R = some (.cells ls)) (he : Ev (sgRM ls) s.mem (x, rs)) :
    ∃ p, m R = some (.var p) ∧ SegAt w (okOf E m s.mem w) x (.pointer (some ⟨p, 0, none⟩)) ∧ segBs w (.pointer (some ⟨p, 0, none⟩)) = p :: blks m rs ∧ ∀ q ∈ rs, (s.mem q).isSome := by
  obtain ⟨i, h1, h2, h0⟩ := h.mem R _ hR
  cases i <;> simp only [CRep] at h2
  rename_i p
  obtain ⟨vs, e, h3, h4⟩ := h2
  refine ⟨p, h1, ?_⟩
  unfold sgRM at he
  split at he
  case h_2 => simp [ev_fail] at he
  rename_i n f la lb
  simp only [ev_bind, ev_pure, Prod.mk.injEq] at he
  obtain ⟨⟨x1, r1⟩, hx1, ⟨x2, r2⟩, hx2, rfl, rfl⟩ := he
  obtain ⟨u1, vs1, rfl, g1, u2, vs2, rfl, g2, u3, vs3, rfl, g3, u4, vs4, rfl, g4, g5⟩ := h4
  simp only [LReps] at g5; subst g5
  have := rep_int g1; subst this
  have := rep_int g2; subst this
  obtain ⟨k1, k2, k3⟩ := row_rm h hx1 g3
  obtain ⟨j1, j2, j3⟩ := row_rm h hx2 g4
  have s1 : (Impl.arr u3).shape := CRep.shape (P := P) (m := m) (c := .arr (.int .i64) x1) k1
  have s2 : (Impl.arr u4).shape := CRep.shape (P := P) (m := m) (c := .arr (.slice (.int .u8)) x2) j1
  refine ⟨⟨p, u3, u4, e, rfl, by simpa using h3, k1, j1⟩, ?_, fun q hq => ?_⟩
  · have hh : w.heap[p]? = some (.cells #[.int .i64 n, .int .u64 f, u3, u4] e (0, 0)) := by simpa using h3
    simp only [segBs, hh]
    rw [blks_append, ← k2, ← j2, rowBlock_of s1, rowBlock_of s2]
  · rcases List.mem_append.1 hq with hq | hq
    · exact k3 q hq
    · exact j3 q hq

/-! ### A row's pointers, place by place -/
theorem DEnts.get {ok : Nat → Prop} {pin : Option (Nat × Nat)} : ∀ {l : List SG} {j : Nat} {us : List Value}, DEnts w ok m pin j l us → us.length = l.length ∧ ∀ (i : Nat) (x : SG), l[i]? = some x → ∃ u, us[i]? = some u ∧ DEnt w ok m pin (j + i) x u
  | [], _, _, h => by simp only [DEnts] at h; subst h; simp
  | y :: l, j, _, h => by
    obtain ⟨u, us', rfl, h1, h2⟩ := h
    obtain ⟨g1, g2⟩ := h2.get
    refine ⟨by simp [g1], fun i x hi => ?_⟩
    cases i with
    | zero => simp only [List.getElem?_cons_zero, Option.some.injEq] at hi; subst hi; exact ⟨u, rfl, h1⟩
    | succ i =>
      simp only [List.getElem?_cons_succ] at hi
      obtain ⟨u', g3, g4⟩ := g2 i x hi
      exact ⟨u', by simpa using g3, by rw [show j + (i + 1) = j + 1 + i by omega]; exact g4⟩
theorem DEnts.of {ok : Nat → Prop} {pin : Option (Nat × Nat)} : ∀ {l : List SG} {j : Nat} {us : List Value}, us.length = l.length → (∀ (i : Nat) (x : SG), l[i]? = some x → ∃ u, us[i]? = some u ∧ DEnt w ok m pin (j + i) x u) → DEnts w ok m pin j l us
  | [], _, us, h, _ => by simpa [DEnts] using h
  | y :: l, j, us, h, hx => by
    cases us with
    | nil => simp at h
    | cons u us =>
      refine ⟨u, us, rfl, ?_, DEnts.of (by simpa using h) fun i x hi => ?_⟩
      · obtain ⟨u', h1, h2⟩ := hx 0 y rfl
        simp only [List.getElem?_cons_zero, Option.some.injEq] at h1; subst h1
        exact h2
      · obtain ⟨u', h1, h2⟩ := hx (i + 1) x (by simpa using hi)
        exact ⟨u', by simpa using h1, by rw [show j + 1 + i = j + (i + 1) by omega]; exact h2⟩
theorem dBs_off {k : Nat} : ∀ {us : List Value} {j : Nat}, k < j → dBs w (some k) j us = dBs w none j us
  | [], _, _ => rfl
  | u :: us, j, h => by
    simp only [dBs, dBs_off (us := us) (show k < j + 1 by omega)]
    rw [if_neg (by simp; omega), if_neg (by simp)]
theorem dBs_pin : ∀ {us : List Value} {j i : Nat} {u : Value}, us[i]? = some u → (dBs w none j us).Perm (segBs w u ++ dBs w (some (j + i)) j us)
  | [], _, _, _, h => by simp at h
  | y :: us, j, i, u, h => by
    cases i with
    | zero =>
      simp only [List.getElem?_cons_zero, Option.some.injEq] at h; subst h
      simp only [dBs, Nat.add_zero, if_true, reduceCtorEq, if_false, List.nil_append]
      rw [dBs_off (by omega)]
    | succ i =>
      simp only [List.getElem?_cons_succ] at h
      have ih := dBs_pin (j := j + 1) h
      simp only [dBs]
      rw [if_neg (by simp), if_neg (by simp), show j + (i + 1) = j + 1 + i by omega]
      refine (List.Perm.append_left _ ih).trans ?_
      rw [← List.append_assoc, ← List.append_assoc]
      exact List.Perm.append_right _ List.perm_append_comm
theorem dBs_len {k : Nat} : ∀ {us : List Value} {j : Nat}, j + us.length ≤ k → dBs w (some k) j us = dBs w none j us
  | [], _, _ => rfl
  | u :: us, j, h => by
    simp only [List.length_cons] at h
    simp only [dBs]
    rw [dBs_len (k := k) (us := us) (j := j + 1) (by omega)]
    rw [if_neg (by simp; omega), if_neg (by simp)]
theorem dBs_append {sk : Option Nat} : ∀ {us us' : List Value} {j : Nat}, dBs w sk j (us ++ us') = dBs w sk j us ++ dBs w sk (j + us.length) us'
  | [], _, _ => by simp [dBs]
  | u :: us, us', j => by simp only [List.cons_append, dBs, dBs_append (us := us), List.append_assoc, List.length_cons, show j + (us.length + 1) = j + 1 + us.length by omega]
theorem dBs_shift {k : Nat} : ∀ {us : List Value} {j : Nat} {sk : Option Nat}, dBs w (sk.map (k + ·)) (k + j) us = dBs w sk j us
  | [], _, _ => rfl
  | u :: us, j, sk => by
    simp only [dBs, Nat.add_assoc, dBs_shift (us := us)]
    congr 1
    cases sk with
    | none => rfl
    | some q =>
      by_cases e : q = j
      · subst e; simp
      · rw [if_neg (by simp [e]), if_neg (by simp only [Option.map_some, Option.some.injEq]; omega)]
theorem dBs_drop {us : List Value} : ∀ (n : Nat) {j : Nat}, (dBs w none j (us.drop n)).Sublist (dBs w none j us) := by
  intro n j
  have h : us = us.take n ++ us.drop n := (List.take_append_drop n us).symm
  have e : dBs w none j us = dBs w none j (us.take n) ++ dBs w none (j + (us.take n).length) (us.drop n) := by rw [← dBs_append, ← h]
  rw [e, show dBs w none (j + (us.take n).length) (us.drop n) = dBs w none j (us.drop n) by
    rw [Nat.add_comm]; exact dBs_shift (sk := none)]
  exact List.sublist_append_right _ _
theorem dBs_take {us : List Value} (n : Nat) {j : Nat} : (dBs w none j (us.take n)).Sublist (dBs w none j us) := by
  have e : dBs w none j us = dBs w none j (us.take n) ++ dBs w none (j + (us.take n).length) (us.drop n) := by rw [← dBs_append, List.take_append_drop]
  rw [e]
  exact List.sublist_append_left _ _
theorem shownOf_get {C : Array Value} {off n i : Nat} (h : i < n) : (shownOf C off n)[i]? = C[off + i]? := by simp [shownOf, List.getElem?_take, h, List.getElem?_drop]
theorem shownOf_len {C : Array Value} {off n : Nat} (h : off + n ≤ C.size) : (shownOf C off n).length = n := by simp [shownOf]; omega
theorem blks_inj : ∀ {N : List Nat}, (blks m N).Nodup → ∀ {q q' : Nat} {i i' : Impl} {b : Nat}, q ∈ N → q' ∈ N → m q = some i → m q' = some i' → b ∈ i.blocks → b ∈ i'.blocks → q = q'
  | [], _, _, _, _, _, _, hq, _, _, _, _, _ => by simp at hq
  | r :: N, hn, q, q', i, i', b, hq, hq', hi, hi', hb, hb' => by
    simp only [blks, List.flatMap_cons] at hn
    have hd := List.nodup_append.1 hn
    have inT : ∀ {p j}, p ∈ N → m p = some j → b ∈ j.blocks → b ∈ N.flatMap (blk m) := fun {p j} hp hj hbj => List.mem_flatMap.2 ⟨p, hp, by simp [blk, hj, hbj]⟩
    have inH : ∀ {j}, m r = some j → b ∈ j.blocks → b ∈ blk m r := fun {j} hj hbj => by simp [blk, hj, hbj]
    rcases List.mem_cons.1 hq with h1 | h1 <;> rcases List.mem_cons.1 hq' with h2 | h2
    · rw [h1, h2]
    · exact absurd rfl (hd.2.2 b (inH (h1 ▸ hi) hb) b (inT h2 hi' hb'))
    · exact absurd rfl (hd.2.2 b (inH (h2 ▸ hi') hb') b (inT h1 hi hb))
    · exact blks_inj hd.2.1 h1 h2 hi hi' hb hb'

/-! ### What was taken out is put back -/
theorem DRow.settle {ok : Nat → Prop} {l : List SG} {i R p : Nat} {v : Value} {bs : List Nat} {b off cap : Nat} {C : Array Value} {e : TypeId} {x : SG} (h : DRow w ok m l (some (i, R)) v bs b off cap C e) (hR : m R = some (.var p))
    (hx : SegAt w ok x (.pointer (some ⟨p, 0, none⟩))) (m' : IMap) : ∃ bs', DRow w ok m' (l.set i x) none v bs' b off cap C e ∧ bs'.Perm (bs ++ segBs w (.pointer (some ⟨p, 0, none⟩))) := by
  obtain ⟨g1, g2⟩ := h.ents.get
  have hil := h.pin i R rfl
  obtain ⟨u, hu, hd⟩ := g2 i l[i] (List.getElem?_eq_getElem hil)
  rw [Nat.zero_add] at hd
  have hup : u = .pointer (some ⟨p, 0, none⟩) := by
    rcases hd with ⟨R', b', h1, h2, h3⟩ | ⟨h1, _⟩
    · simp only [Option.some.injEq, Prod.mk.injEq, true_and] at h1; subst h1
      rw [hR] at h2; simp at h2; subst h2; exact h3
    · exact absurd rfl (h1 R)
  subst hup
  refine ⟨b :: dBs w none 0 (shownOf C off l.length), ⟨by rw [List.length_set]; exact h.v, by rw [List.length_set]; exact h.len, h.cap, h.heap, ?_, by rw [List.length_set]; rfl, fun i R e => by cases e⟩, ?_⟩
  · rw [List.length_set]
    refine DEnts.of (by rw [g1, List.length_set]) fun k y hk => ?_
    by_cases e : k = i
    · subst e
      rw [List.getElem?_set_self hil] at hk
      simp only [Option.some.injEq] at hk; subst hk
      exact ⟨_, hu, .inr ⟨by simp, hx⟩⟩
    · rw [List.getElem?_set_ne (fun e' => e e'.symm)] at hk
      obtain ⟨u', g3, g4⟩ := g2 k y hk
      refine ⟨u', g3, .inr ⟨by simp, ?_⟩⟩
      rcases g4 with ⟨R', b', h1, _⟩ | ⟨_, h1⟩
      · simp only [Option.some.injEq, Prod.mk.injEq, Nat.zero_add] at h1; exact absurd h1.1.symm e
      · exact h1
  · rw [h.bs]
    refine List.Perm.cons b ?_
    have := dBs_pin (w := w) (j := 0) hu
    rw [Nat.zero_add] at this
    exact this.trans List.perm_append_comm
/-- A thing that stood by itself goes into the keeping of another one. -/
theorem Rel.absorbD (h : Rel P E m s a w) {r R p : Nat} {c c' : C} {i i' : Impl} {ls : List L} {rs : List Nat} (hr : s.mem r = some c) (hm : m r = some i) (hlike : i.like i') (hR : s.mem R = some (.cells ls)) (hal : ∀ q ∈ rs, (s.mem q).isSome)
    (hn : (r :: R :: rs).Nodup) (hp : m R = some (.var p)) (hsub : ∀ n ∈ i'.blocks, n ∈ i.blocks ∨ n ∈ p :: blks m rs) (hsh : i'.shape) (hrep : ∀ m' ok', Ext m m' → Keeps w w (okOf E m s.mem w) ok' → CRep P w ok' m' c' i') :
    ∃ m', Ext m m' ∧ m' r = some i' ∧ Rel P E m' { s with mem := editMem ((r, some c') :: (R, none) :: gone rs) s.mem } a w := by
  have hμr : editMem ((r, some c') :: (R, none) :: gone rs) s.mem r = some c' := by
    have : r ∉ R :: rs := (List.nodup_cons.1 hn).1
    show editMem (gone (R :: rs)) _ r = _
    rw [editMem_gone' this]
    simp
  have hμg : ∀ q, q = R ∨ q ∈ rs → editMem ((r, some c') :: (R, none) :: gone rs) s.mem q = none := fun q hq => by
    show editMem (gone (R :: rs)) _ q = _
    exact editMem_gone_in (by simpa using hq)
  have hμo : ∀ q, q ≠ r → q ≠ R → q ∉ rs → editMem ((r, some c') :: (R, none) :: gone rs) s.mem q = s.mem q := fun q h1 h2 h3 => by
    show editMem (gone (R :: rs)) _ q = _
    rw [editMem_gone' (by simp [h2, h3])]
    have : Nat.beq q r = false := by
      cases hb : Nat.beq q r with
      | false => rfl
      | true => exact absurd (Nat.eq_of_beq_eq_true hb) h1
    simp [this]
  let m' : IMap := fun n => if n = r then some i' else m n
  have hm'r : m' r = some i' := by simp [m']
  have hm'o : ∀ q, q ≠ r → m' q = m q := fun q hq => by simp [m', hq]
  have hext : Ext m m' := fun q j hq => by
    by_cases e : q = r
    · subst e
      rw [hm] at hq; simp at hq; subst hq
      exact ⟨_, hm'r, hlike⟩
    · exact ⟨j, (hm'o q e).trans hq, j.like_refl⟩
  refine ⟨m', hext, hm'r, h.recast (fun q => q = r ∨ q = R ∨ q ∈ rs) hext (fun q hq => ?_) (fun q hq => ?_) (Goes.refl _ w) (fun q d hq hd => ?_) (fun q q' d d' i i' n hq hq' hd hd' _ _ _ _ => ?_) (fun q hq _ _ => ?_) (fun q i hq => ?_)⟩
  · by_cases e : q = r
    · subst e; exact h.used q (by rw [hm]; simp)
    · rw [hm'o q e] at hq; exact h.used q hq
  · simp only [not_or] at hq
    exact ⟨hμo q hq.1 hq.2.1 hq.2.2, fun _ => hm'o q hq.1⟩
  · by_cases e : q = r
    · subst e
      rw [hμr] at hd; simp at hd; subst hd
      have fromOld : ∀ n, (∃ r0 c0 i0, (r0 = q ∨ r0 = R ∨ r0 ∈ rs) ∧ s.mem r0 = some c0 ∧ m r0 = some i0 ∧ n ∈ i0.blocks) → n < w.heap.size ∧ ((∃ r0 c0 i0, (r0 = q ∨ r0 = R ∨ r0 ∈ rs) ∧ s.mem r0 = some c0 ∧ m r0 = some i0 ∧ n ∈ i0.blocks) ∨ w.heap.size ≤ n) := by
        rintro n ⟨r0, c0, i0, g1, g2, g3, g4⟩
        obtain ⟨i', k1, _, k3⟩ := h.mem r0 c0 g2
        rw [g3] at k1; simp at k1; subst k1
        exact ⟨(k3 n g4).1, .inl ⟨r0, c0, i0, g1, g2, g3, g4⟩⟩
      refine ⟨_, hm'r, fun ok' hk => hrep m' ok' hext hk, fun n hn' => fromOld n ?_⟩
      rcases hsub n hn' with g | g
      · exact ⟨q, c, _, .inl rfl, hr, hm, g⟩
      · rw [List.mem_cons] at g
        rcases g with rfl | g
        · exact ⟨R, _, _, .inr (.inl rfl), hR, hp, by simp [Impl.blocks]⟩
        · obtain ⟨q', hq', i', hi', hb'⟩ := mem_blks g
          obtain ⟨c0, hc0⟩ := Option.isSome_iff_exists.1 (hal q' hq')
          exact ⟨q', c0, i', .inr (.inr hq'), hc0, hi', hb'⟩
    · rw [hμg q (hq.resolve_left e)] at hd; cases hd
  · have key : ∀ {q d}, (q = r ∨ q = R ∨ q ∈ rs) → editMem ((r, some c') :: (R, none) :: gone rs) s.mem q = some d → q = r := fun {q d} hq hd => by
      rcases hq with hq | hq
      · exact hq
      · rw [hμg q hq] at hd; cases hd
    rw [key hq hd, key hq' hd']
  · rcases hq with rfl | rfl | hq
    · simp [hr]
    · simp [hR]
    · exact hal q hq
  · by_cases e : q = r
    · subst e; rw [hm'r] at hq; simp at hq; subst hq; exact hsh
    · rw [hm'o q e] at hq; exact h.shape q i hq
theorem deep_of (h : Rel P E m s a w) {r : Nat} {l : List SG} {pin : Option (Nat × Nat)} (hr : s.mem r = some (.segs l pin)) : ∃ v bs, m r = some (.deep v bs) ∧ bs.Nodup ∧ DeepRow w (okOf E m s.mem w) m l pin v bs := by
  obtain ⟨i, h1, h2, _⟩ := h.mem r _ hr
  cases i <;> simp only [CRep] at h2
  exact ⟨_, _, h1, h2.1, h2.2⟩
theorem segs_settle (h : Rel P E m s a w) {r i R : Nat} {l : List SG} {ls : List L} {x : SG} {rs : List Nat} (hr : s.mem r = some (.segs l (some (i, R)))) (hR : s.mem R = some (.cells ls)) (he : Ev (sgRM ls) s.mem (x, rs)) (hn : (r :: R :: rs).Nodup) :
    ∃ m', Ext m m' ∧ Rel P E m' { s with mem := editMem ((r, some (.segs (l.set i x) none)) :: (R, none) :: gone rs) s.mem } a w := by
  obtain ⟨v, bs, hm, hnd, hrow⟩ := deep_of h hr
  obtain ⟨p, hp, hseg, hsb, hal⟩ := sg_at h hR he
  rcases hrow with ⟨_, _, h0, _⟩ | ⟨b, off, cap, C, e, hrow⟩
  · cases h0
  obtain ⟨bs', h1, h2⟩ := hrow.settle hp hseg m
  have hbn : bs'.Nodup := by
    refine h2.nodup_iff.2 ?_
    have hx : (blks m (r :: R :: rs)).Nodup := h.blks_nodup hn (fun q hq => by
      rcases List.mem_cons.1 hq with rfl | hq
      · simp [hr]
      · rcases List.mem_cons.1 hq with rfl | hq
        · simp [hR]
        · exact hal q hq)
    have e : blks m (r :: R :: rs) = bs ++ (p :: blks m rs) := by
      simp only [blks, List.flatMap_cons, blk, hm, hp, Impl.blocks]
      rfl
    rw [e, ← hsb] at hx
    exact hx
  obtain ⟨m', g1, _, g2⟩ := h.absorbD (c' := .segs (l.set i x) none) (i' := .deep v bs') hr hm ⟨_, rfl⟩ hR hal hn hp (fun n hn => by
      rcases List.mem_append.1 (h2.mem_iff.1 hn) with hn | hn
      · exact .inl hn
      · exact .inr (hsb ▸ hn)) ⟨hbn, _, _, _, h1.v⟩ (fun m' ok' hx hk => ⟨hbn, .inr ⟨b, off, cap, C, e, (h1.free (m' := m')).mono hk (Ext.refl _) (fun _ _ => rfl)⟩⟩)
  exact ⟨m', g1, g2⟩
theorem segs_rm (h : Rel P E m s a w) {r : Nat} {l l' : List SG} {pin : Option (Nat × Nat)} {g : List Nat} (hr : s.mem r = some (.segs l pin)) (he : Ev (segsRM r l pin) s.mem (l', g)) :
    ∃ m', Ext m m' ∧ Rel P E m' { s with mem := editMem (settleEd r l' g) s.mem } a w ∧ r ∉ g ∧ (∀ q ∈ g, (s.mem q).isSome ∧ q < lentBase ∨ (s.mem q).isSome) ∧ l'.length = l.length := by
  cases pin with
  | none =>
    simp only [segsRM, ev_pure, Prod.mk.injEq] at he
    obtain ⟨rfl, rfl⟩ := he
    refine ⟨m, Ext.refl m, ?_, by simp, by simp, rfl⟩
    have : editMem (settleEd r l []) s.mem = s.mem := by
      funext q
      simp only [settleEd, gone, List.map_nil, editMem]
      cases hb : Nat.beq q r with
      | false => rfl
      | true => rw [Nat.eq_of_beq_eq_true hb, hr]; rfl
    rw [this]; exact h
  | some q =>
    obtain ⟨i, R⟩ := q
    simp only [segsRM] at he
    rw [ev_get] at he
    split at he
    case h_2 => simp [ev_fail] at he
    rename_i ls hR
    rw [ev_bind] at he
    obtain ⟨⟨x, rs⟩, hx, he⟩ := he
    rcases ev_cond.1 he with ⟨hc, he⟩ | ⟨_, he⟩
    case inr => simp [ev_fail] at he
    simp only [ev_pure, Prod.mk.injEq] at he
    obtain ⟨rfl, rfl⟩ := he
    simp only [Bool.and_eq_true] at hc
    have hn := nodup_iff hc.1
    obtain ⟨m', g1, g2⟩ := segs_settle h hr hR hx hn
    refine ⟨m', g1, g2, (List.nodup_cons.1 hn).1, fun q hq => .inr ?_, by simp⟩
    rcases List.mem_cons.1 hq with rfl | hq
    · simp [hR]
    · obtain ⟨_, _, _, _, hal⟩ := sg_at h hR hx
      exact hal q hq
theorem settleEd_self {r : Nat} {l : List SG} {g : List Nat} {μ : Nat → Option C} (h : r ∉ g) : editMem (settleEd r l g) μ r = some (.segs l none) := by
  show editMem (gone g) _ r = _
  rw [editMem_gone' h]
  simp

/-! ### A thing is taken out -/
theorem Rel.pinOut (h : Rel P E m s a w) {r dst d1 d2 n : Nat} {l : List SG} {x : SG} (hr : s.mem r = some (.segs l none)) (hx : l[n]? = some x) (h0 : s.used dst = false ∧ dst < lentBase) (h1 : s.used d1 = false ∧ d1 < lentBase) (h2 : s.used d2 = false ∧ d2 < lentBase)
    (n1 : dst ≠ d1) (n2 : dst ≠ d2) (n3 : d1 ≠ d2) :
    ∃ p b off cap C e bs, m r = some (.deep (.slice (some ⟨b, off, none⟩) l.length cap) bs) ∧ w.heap[b]? = some (.cells C e (0, 0)) ∧ C[off + n]? = some (.pointer (some ⟨p, 0, none⟩)) ∧ ∃ m', Ext m m' ∧ m' dst = some (.var p) ∧
      Rel P E m' { s with mem := editMem [(r, some (.segs l (some (n, dst)))), (dst, some (.cells [.val (.int .i64) x.1, .val (.int .u64) x.2.1, .sref d1, .sref d2])), (d1, some (.arr (.int .i64) x.2.2.1)), (d2, some (.arr (.slice (.int .u8)) x.2.2.2))] s.mem, used := addUsed [dst, d1, d2] s.used } a w := by
  obtain ⟨v, bs, hm, hnd, hrow⟩ := deep_of h hr
  have hlt : n < l.length := (List.getElem?_eq_some_iff.1 hx).1
  rcases hrow with ⟨_, rfl, _⟩ | ⟨b, off, cap, C, e, hrow⟩
  · simp at hx
  obtain ⟨g1, g2⟩ := hrow.ents.get
  obtain ⟨u, hu, hd⟩ := g2 n x hx
  have hu' := hu
  rw [shownOf_get hlt] at hu'
  rcases hd with ⟨R, b', h3, _⟩ | ⟨_, p, u1, u2, ety, rfl, h4, h5, h6⟩
  · cases h3
  have hv := hrow.v
  rw [hv] at hm
  refine ⟨p, b, off, cap, C, e, bs, hm, hrow.heap, hu', ?_⟩
  have hsb : segBs w (.pointer (some ⟨p, 0, none⟩)) = p :: ((Impl.arr u1).blocks ++ (Impl.arr u2).blocks) := by simp [segBs, h4]
  have hperm := dBs_pin (w := w) (j := 0) hu
  rw [Nat.zero_add, hsb] at hperm
  have s1 : (Impl.arr u1).shape := CRep.shape (P := P) (m := m) (ok := okOf E m s.mem w) (c := .arr (.int .i64) x.2.2.1) h5
  have s2 : (Impl.arr u2).shape := CRep.shape (P := P) (m := m) (ok := okOf E m s.mem w) (c := .arr (.slice (.int .u8)) x.2.2.2) h6
  have f0 := h.fresh h0.1
  have f1 := h.fresh h1.1
  have f2 := h.fresh h2.1
  have k0 : dst ≠ r := fun e => by subst e; rw [f0] at hm; cases hm
  have k1 : d1 ≠ r := fun e => by subst e; rw [f1] at hm; cases hm
  have k2 : d2 ≠ r := fun e => by subst e; rw [f2] at hm; cases hm
  let bs1 := b :: dBs w (some n) 0 (shownOf C off l.length)
  have hbs : bs = b :: dBs w none 0 (shownOf C off l.length) := hrow.bs
  have hbp : bs.Perm (bs1 ++ (p :: ((Impl.arr u1).blocks ++ (Impl.arr u2).blocks))) := by
    rw [hbs]
    exact List.Perm.cons b (hperm.trans List.perm_append_comm)
  let m' : IMap := fun q => if q = r then some (.deep (.slice (some ⟨b, off, none⟩) l.length cap) bs1) else if q = dst then some (.var p) else if q = d1 then some (.arr u1) else if q = d2 then some (.arr u2) else m q
  have e1 : m' r = some (.deep (.slice (some ⟨b, off, none⟩) l.length cap) bs1) := by simp [m']
  have e2 : m' dst = some (.var p) := by simp [m', k0]
  have e3 : m' d1 = some (.arr u1) := by simp [m', k1, n1.symm]
  have e4 : m' d2 = some (.arr u2) := by simp [m', k2, n2.symm, n3.symm]
  have e5 : ∀ q, q ≠ r → q ≠ dst → q ≠ d1 → q ≠ d2 → m' q = m q := fun q a b c d => by simp [m', a, b, c, d]
  have bq : ∀ {x y : Nat}, x ≠ y → Nat.beq x y = false := fun {x y} hne => by
    cases hb : Nat.beq x y with
    | false => rfl
    | true => exact absurd (Nat.eq_of_beq_eq_true hb) hne
  let μ' := editMem [(r, some (.segs l (some (n, dst)))), (dst, some (.cells [.val (.int .i64) x.1, .val (.int .u64) x.2.1, .sref d1, .sref d2])), (d1, some (.arr (.int .i64) x.2.2.1)), (d2, some (.arr (.slice (.int .u8)) x.2.2.2))] s.mem
  have c1 : μ' r = some (.segs l (some (n, dst))) := by simp [μ', editMem, bq k0.symm, bq k1.symm, bq k2.symm]
  have c2 : μ' dst = some (.cells [.val (.int .i64) x.1, .val (.int .u64) x.2.1, .sref d1, .sref d2]) := by simp [μ', editMem, bq n1, bq n2]
  have c3 : μ' d1 = some (.arr (.int .i64) x.2.2.1) := by simp [μ', editMem, bq n3]
  have c4 : μ' d2 = some (.arr (.slice (.int .u8)) x.2.2.2) := by simp [μ', editMem]
  have c5 : ∀ q, q ≠ r → q ≠ dst → q ≠ d1 → q ≠ d2 → μ' q = s.mem q := fun q a b c d => by simp [μ', editMem, bq a, bq b, bq c, bq d]
  have hall : (blks m' [r, dst, d1, d2]).Nodup := by
    have e : blks m' [r, dst, d1, d2] = bs1 ++ (p :: ((Impl.arr u1).blocks ++ (Impl.arr u2).blocks)) := by
      simp only [blks, List.flatMap_cons, List.flatMap_nil, blk, e1, e2, e3, e4, Impl.blocks, List.append_nil]
      rfl
    rw [e]
    exact hbp.nodup_iff.1 hnd
  have hin : ∀ q i n', q ∈ [r, dst, d1, d2] → m' q = some i → n' ∈ i.blocks → n' ∈ bs := fun q i n' hq hi hn' => by
    refine hbp.mem_iff.2 ?_
    simp only [List.mem_cons, List.not_mem_nil, or_false] at hq
    rcases hq with rfl | rfl | rfl | rfl
    · rw [e1] at hi; simp at hi; subst hi; exact List.mem_append.2 (.inl hn')
    · rw [e2] at hi; simp at hi; subst hi; simp only [Impl.blocks, List.mem_singleton] at hn'; simp [hn']
    · rw [e3] at hi; simp at hi; subst hi; simp [hn']
    · rw [e4] at hi; simp at hi; subst hi; simp [hn']
  have hext : Ext m m' := fun q i hq => by
    by_cases a1 : q = r
    · subst a1; rw [hm] at hq; simp at hq; subst hq; exact ⟨_, e1, _, rfl⟩
    · by_cases a2 : q = dst
      · subst a2; rw [f0] at hq; cases hq
      · by_cases a3 : q = d1
        · subst a3; rw [f1] at hq; cases hq
        · by_cases a4 : q = d2
          · subst a4; rw [f2] at hq; cases hq
          · exact ⟨i, (e5 q a1 a2 a3 a4).trans hq, i.like_refl⟩
  have mem4 : ∀ {q}, (q = r ∨ q = dst ∨ q = d1 ∨ q = d2) → q ∈ [r, dst, d1, d2] := fun {q} hq => by simpa using hq
  obtain ⟨i0, j1, _, j3⟩ := h.mem r _ hr
  rw [hm] at j1; simp at j1; subst j1
  refine ⟨m', hext, e2, h.recast (fun q => q = r ∨ q = dst ∨ q = d1 ∨ q = d2) hext (fun q hq => ?_) (fun q hq => ?_) (Goes.refl _ w) (fun q d hq hd => ?_) (fun q q' d d' i i' n' hq hq' hd hd' hi hi' hb hb' => blks_inj hall (mem4 hq) (mem4 hq') hi hi' hb hb') (fun q hq _ hl => ?_) (fun q i hq => ?_)⟩
  · apply addUsed_true
    by_cases a1 : q = r
    · subst a1; exact .inr (h.used q (by rw [hm]; simp))
    · by_cases a2 : q = dst
      · exact .inl (by simp [a2])
      · by_cases a3 : q = d1
        · exact .inl (by simp [a3])
        · by_cases a4 : q = d2
          · exact .inl (by simp [a4])
          · rw [e5 q a1 a2 a3 a4] at hq; exact .inr (h.used q hq)
  · simp only [not_or] at hq
    exact ⟨c5 q hq.1 hq.2.1 hq.2.2.1 hq.2.2.2, fun _ => e5 q hq.1 hq.2.1 hq.2.2.1 hq.2.2.2⟩
  · have old : ∀ i n', m' q = some i → n' ∈ i.blocks → n' < w.heap.size ∧ ((∃ r0 c0 i0, (r0 = r ∨ r0 = dst ∨ r0 = d1 ∨ r0 = d2) ∧ s.mem r0 = some c0 ∧ m r0 = some i0 ∧ n' ∈ i0.blocks) ∨ w.heap.size ≤ n') :=
      fun i n' hi hn' => by
        have := hin q i n' (mem4 hq) hi hn'
        exact ⟨(j3 n' this).1, .inl ⟨r, _, _, .inl rfl, hr, hm, this⟩⟩
    have hd : μ' q = some d := hd
    rcases hq with rfl | rfl | rfl | rfl
    · rw [c1] at hd; simp only [Option.some.injEq] at hd; subst hd
      refine ⟨_, e1, fun ok' hk => ⟨(List.nodup_append.1 (hbp.nodup_iff.1 hnd)).1, .inr ⟨b, off, cap, C, e, rfl, hrow.len, hrow.cap, hrow.heap, ?_, rfl, fun i R hiR => ?_⟩⟩, fun n' hn' => old _ n' e1 hn'⟩
      · refine DEnts.of g1 fun k y hk' => ?_
        obtain ⟨u', g3, g4⟩ := g2 k y hk'
        refine ⟨u', g3, ?_⟩
        rw [Nat.zero_add] at g4 ⊢
        by_cases ek : k = n
        · subst ek
          rw [hu] at g3; simp only [Option.some.injEq] at g3; subst g3
          exact .inl ⟨dst, p, rfl, e2, rfl⟩
        · refine .inr ⟨fun R hR => ?_, ?_⟩
          · simp only [Option.some.injEq, Prod.mk.injEq] at hR; exact ek hR.1.symm
          · rcases g4 with ⟨R', b', h1, _⟩ | ⟨_, h1⟩
            · cases h1
            · exact (h1.mono hk (fun _ _ => rfl)).1
      · simp only [Option.some.injEq, Prod.mk.injEq] at hiR; omega
    · rw [c2] at hd; simp only [Option.some.injEq] at hd; subst hd
      exact ⟨_, e2, fun ok' _ => ⟨[.int .i64 x.1, .int .u64 x.2.1, u1, u2], ety, h4, _, _, rfl, rfl, _, _, rfl, rfl, _, _, rfl, .inl e3, _, _, rfl, .inl e4, rfl⟩, fun n' hn' => old _ n' e2 hn'⟩
    · rw [c3] at hd; simp only [Option.some.injEq] at hd; subst hd
      exact ⟨_, e3, fun ok' hk => h5.mono hk (fun _ _ => rfl), fun n' hn' => old _ n' e3 hn'⟩
    · rw [c4] at hd; simp only [Option.some.injEq] at hd; subst hd
      exact ⟨_, e4, fun ok' hk => h6.mono hk (fun _ _ => rfl), fun n' hn' => old _ n' e4 hn'⟩
  · rcases hq with rfl | rfl | rfl | rfl
    · simp [hr]
    · omega
    · omega
    · omega
  · by_cases a1 : q = r
    · subst a1; rw [e1] at hq; simp at hq; subst hq
      exact ⟨(List.nodup_append.1 (hbp.nodup_iff.1 hnd)).1, _, _, _, rfl⟩
    · by_cases a2 : q = dst
      · subst a2; rw [e2] at hq; simp at hq; subst hq; trivial
      · by_cases a3 : q = d1
        · subst a3; rw [e3] at hq; simp at hq; subst hq; exact s1
        · by_cases a4 : q = d2
          · subst a4; rw [e4] at hq; simp at hq; subst hq; exact s2
          · rw [e5 q a1 a2 a3 a4] at hq; exact h.shape q i hq
theorem pinOp_rel (h : Rel P E m s a w) {dst r n : Nat} {l : List SG} {pin : Option (Nat × Nat)} {res : Res} (hr : s.mem r = some (.segs l pin)) (he : Ev (pinOp dst r n l pin) s.mem res) (hal : ∀ id ∈ res.allocs, s.used id = false ∧ id < lentBase) :
    ∃ p b off cap C e bs, res.val = .ptr dst 0 ∧ m r = some (.deep (.slice (some ⟨b, off, none⟩) l.length cap) bs) ∧ w.heap[b]? = some (.cells C e (0, 0)) ∧ C[off + n]? = some (.pointer (some ⟨p, 0, none⟩)) ∧ l.length ≤ cap ∧ n < l.length ∧ (∀ i, i < l.length → ∃ A, C[off + i]? = some (.pointer A)) ∧
      ∃ m', Ext m m' ∧ m' dst = some (.var p) ∧ Rel P E m' { s with mem := editMem res.edits s.mem, used := addUsed res.allocs s.used } a w := by
  simp only [pinOp, ev_bind, ev_opt, ev_pure] at he
  obtain ⟨⟨l', g⟩, hl, x, hx, rfl⟩ := he
  obtain ⟨m1, hx1, h1, hrg, _, hlen⟩ := segs_rm h hr hl
  have hr1 : (({ s with mem := editMem (settleEd r l' g) s.mem } : St)).mem r = some (.segs l' none) := settleEd_self hrg
  have u1 : dst ≠ rowId dst := by simp [rowId]; omega
  have u2 : dst ≠ rowId dst + 1 := by simp [rowId]; omega
  obtain ⟨p, b, off, cap, C, e, bs, g1, g2, g3, m2, hx2, g4, g5⟩ := h1.pinOut (dst := dst) (d1 := rowId dst) (d2 := rowId dst + 1) hr1 hx (hal _ (by simp)) (hal _ (by simp)) (hal _ (by simp)) u1 u2 (by omega)
  obtain ⟨v0, bs0, k1, k2, k3⟩ := deep_of h hr
  obtain ⟨bs1, k4⟩ := hx1.deep k1
  rw [g1] at k4
  simp only [Option.some.injEq, Impl.deep.injEq] at k4
  obtain ⟨k4, rfl⟩ := k4
  obtain ⟨v1, bs1, j1, j2, j3⟩ := deep_of h1 hr1
  rw [g1] at j1
  simp only [Option.some.injEq, Impl.deep.injEq] at j1
  obtain ⟨rfl, rfl⟩ := j1
  have hnl : n < l'.length := (List.getElem?_eq_some_iff.1 hx).1
  refine ⟨p, b, off, cap, C, e, bs0, rfl, by rw [k1, ← k4, hlen], g2, g3, ?_, by omega, fun i hi => ?_, m2, hx1.trans hx2, g4, ?_⟩
  · rcases j3 with ⟨j3, _⟩ | ⟨b', off', cap', C', e', j3⟩
    · cases j3
    · have hv := j3.v
      simp only [Value.slice.injEq] at hv
      have := j3.len; omega
  · rcases j3 with ⟨j3, _⟩ | ⟨b', off', cap', C', e', j3⟩
    · cases j3
    · have hv := j3.v
      simp only [Value.slice.injEq, Option.some.injEq, Addr.mk.injEq, and_true, true_and] at hv
      obtain ⟨⟨rfl, rfl⟩, rfl⟩ := hv
      have hh := j3.heap
      rw [g2] at hh
      simp only [Option.some.injEq, Obj.cells.injEq] at hh
      obtain ⟨rfl, _⟩ := hh
      obtain ⟨_, j5⟩ := j3.ents.get
      obtain ⟨u, j6, j7⟩ := j5 i l'[i] (List.getElem?_eq_getElem (by omega))
      rw [shownOf_get (by omega)] at j6
      rcases j7 with ⟨_, _, j7, _⟩ | ⟨_, _, _, _, _, rfl, _⟩
      · cases j7
      · exact ⟨_, j6⟩
  · rw [editMem_append]
    exact g5
end
end Go.GG

/- Calls: the operation. -/
namespace Go.GG
open Go.RowKit
section
variable {τ : Tabs} {P : Program} {E : Entry} {m : IMap} {s : St} {a : Act} {w : World}

theorem oneOrTup_rep {ok : Nat → Prop} {ls : List L} {vs : List Value} (h : LReps P w ok m ls vs) : LRep P w ok m (oneOrTup ls) (valOf vs) := by
  match ls, vs, h with
  | [], _, h => simp only [LReps] at h; subst h; exact ⟨[], rfl, rfl⟩
  | [l], _, h =>
    obtain ⟨v, vs', rfl, h1, h2⟩ := h
    simp only [LReps] at h2; subst h2
    exact h1
  | l :: l' :: ls, _, h =>
    obtain ⟨v, vs', rfl, h1, v', vs'', rfl, h2⟩ := h
    exact ⟨_, rfl, v, _, rfl, h1, v', vs'', rfl, h2⟩
theorem spec_calls (h : Rel P E m s a w) {Γ : Env} (hΓ : EnvOk P Γ) {f : FuncId} {sp : FSpec} (hs : SpecOk P f sp) {k dst : Nat} {ls : List L} {vals : List Value} {res : Res} {d : Option Nat}
    (he : Ev (callSpec Γ k sp dst ls) s.mem res) (hl : LReps P w (okOf E m s.mem w) m ls vals) (hal : ∀ id ∈ res.allocs, s.used id = false ∧ id < lentBase) (hd : ∀ n, d = some n → E.may n) :
    Calls P f vals.toArray w fun e w' => ∃ v, e = .returned v ∧ Rel' P E (apply s d res) (a.put d v) w' := by
  simp only [callSpec, ev_bind, ev_assume, ev_opt, ev_pure] at he
  obtain ⟨x, hx, hn, y, hy, b, hb, hids, rfl⟩ := he
  have ha := hand_all h hΓ (sh := x.shown) hx (fun _ hr => hr) hl
  have hnd := nodup_iff hn
  have hr := (List.nodup_append.1 hnd)
  have alR : ∀ r ∈ x.refs, (s.mem r).isSome := fun r hr => ha.alive r (by simp [hr])
  have inj : ∀ r r' i i' bl, (s.mem r).isSome → (s.mem r').isSome → m r = some i → m r' = some i' → bl ∈ i.blocks → bl ∈ i'.blocks → r = r' := by
    intro r r' i i' bl hr hr' hi hi' hb hb'
    obtain ⟨c, hc⟩ := Option.isSome_iff_exists.1 hr
    obtain ⟨c', hc'⟩ := Option.isSome_iff_exists.1 hr'
    exact h.inj r r' c c' i i' bl hc hc' hi hi' hb hb'
  have lt : ∀ n, okC E m s.mem w x.shown n → n < w.heap.size := by
    rintro n (hn | ⟨r, hr, i, hi, hb⟩)
    · exact hn.1
    · obtain ⟨c, hc⟩ := Option.isSome_iff_exists.1 (ha.alive r (by simp [hr]))
      obtain ⟨i', h1, _, h3⟩ := h.mem r c hc
      rw [hi] at h1; simp at h1; subst h1
      exact (h3 n hb).1
  have hpn : (pblocks w sp.ps vals ++ vblocks sp.ps vals).Nodup := by
    rw [ha.pb]
    have := h.blks_nodup hnd (fun r hr => ha.alive r hr)
    rw [show blks m (x.refs ++ x.shown) = blks m x.refs ++ blks m x.shown by simp [blks]] at this
    exact this.sublist (List.Sublist.append (List.Sublist.refl _) ha.vb)
  have hpo : ∀ b ∈ pblocks w sp.ps vals, b < w.heap.size ∧ ¬ okC E m s.mem w x.shown b := by
    intro n hn
    rw [ha.pb] at hn
    obtain ⟨r, hrr, i, hi, hb⟩ := mem_blks hn
    obtain ⟨c, hc⟩ := Option.isSome_iff_exists.1 (alR r hrr)
    obtain ⟨i', h1, _, h3⟩ := h.mem r c hc
    rw [hi] at h1; simp at h1; subst h1
    refine ⟨(h3 n hb).1, ?_⟩
    rintro (h4 | ⟨r', hr', i', hi', hb'⟩)
    · exact h4.2.2 ⟨r, c, i, hc, hi, hb⟩
    · have := inj r r' i i' n (alR r hrr) (ha.alive r' (by simp [hr'])) hi hi' hb hb'
      subst this
      exact hr.2.2 r hrr r hr' rfl
  refine (hs.2 k x.x y hy w _ vals lt (h.fine.mono fun b hb => .inl hb) ha.rep hpn hpo).mono ?_
  rintro e w' ⟨vs, he, hgo, hbn, hbb, hR⟩
  refine ⟨valOf vs, he, ?_⟩
  rw [ha.pb] at hgo hbb hR
  rw [ha.lb] at hbn hbb hR
  -- what comes back, where nothing that was shown may be led to unless a result leads
  have hR2 : RReps w' (fun n => (n < w'.heap.size ∧ (okC E m s.mem w x.shown n ∨ n ∈ blks m x.refs ∨ w.heap.size ≤ n) ∧ n ∉ rblocks w' sp.rs vs (rts m x.lent) ++ rts m x.lent) ∧ (sp.rs.any RK.leads = false → n ∉ blks m x.shown)) sp.rs y vs (rts m x.lent) := by
    cases hc : sp.rs.any RK.leads with
    | false => exact hR.flat hc
    | true => exact hR.mono fun n hn => ⟨hn, by simp⟩
  obtain ⟨is, ts, hg⟩ := back_all (P := P) (fun r c hc => by obtain ⟨i, h1, h2, _⟩ := h.mem r c hc; exact ⟨i, h1, h2.kin⟩) hb hR2
  have hln : x.lent.Nodup := by
    have h1 := ha.lentSub
    exact (List.nodup_append.1 hnd).1.sublist h1
  have hp := hg.blocks
  have hbn' : ((is.flatMap bk ++ ts.flatMap (·.2)) ++ rts m x.lent).Nodup := (List.Perm.append_right _ hp).nodup_iff.2 hbn
  have hbb' : ∀ b ∈ is.flatMap bk ++ ts.flatMap (·.2), b < w'.heap.size ∧ (b ∈ blks m x.refs ∨ w.heap.size ≤ b) := fun b hb => hbb b (hp.mem_iff.1 hb)
  have hmem : ∀ n, (n ∉ rblocks w' sp.rs vs (rts m x.lent) ++ rts m x.lent) ↔ n ∉ (is.flatMap bk ++ ts.flatMap (·.2)) ++ rts m x.lent := fun n => by
    rw [List.mem_append, List.mem_append (s := is.flatMap bk ++ ts.flatMap (·.2)), hp.mem_iff]
  simp only [hmem] at hg
  obtain ⟨m', h1, h2⟩ := call_turn h ha hln hgo hbn' hbb' hg hal (nodup_iff hids) rfl
  exact ⟨m', h1.put (oneOrTup_rep h2) hd⟩

theorem run_callFunc {f : FuncId} (hf : Runs P f) (args : Array Value) : (callFunc f args).run P w = .ok (.enter f args) w := by
  obtain ⟨fn, h1, h2, h3⟩ := hf
  have h3' : ¬ fn.body = none := by intro e; simp [e] at h3
  simp [callFunc, h1, h2, h3']
theorem run_call_func {f : FuncId} (hf : Runs P f) {dst : Option Nat} {c : Call} {x : Operand} (hc : c.callee = .value x) {caps : Array Value} (hx : a.eval x = .func (.func f) #[] caps) {ty : TypeId} {pos : String} {after : Array Edge} {guard : Option (Nat × Bool)} :
    (execOp a.eval ⟨dst, .call c, ty, pos, after, guard⟩).run P w = .ok (.enter f ((c.args.toList.map a.eval).toArray ++ caps)) w := by
  have e : (c.args.toList.map a.eval).toArray = c.args.map a.eval := by apply Array.ext'; simp
  simp only [execOp, resolve, hc, hx, Deferred.ofValue, Sem.run_bind, Sem.run_pure, Result.andThen_ok, invoke, run_callFunc hf, Array.empty_append, e]
theorem cap_ptrs : ∀ {cs : List (Nat × Nat)} {vs : List Value} {ok : Nat → Prop}, capHolds m cs vs → LReps P w ok m (cs.map fun p => .ptr p.1 p.2) vs
  | [], _, _, h => h
  | (r, off) :: cs, _, _, h => by
    obtain ⟨b, vs', h1, rfl, h2⟩ := h
    exact ⟨_, vs', rfl, ⟨b, h1, rfl⟩, cap_ptrs h2⟩
theorem run_call_ext {f : FuncId} {v : Value} {dst : Option Nat} {c : Call} {x : Operand} (hc : c.callee = .value x) {caps : Array Value} (hx : a.eval x = .func (.func f) #[] caps)
    (hr : (callFunc f ((c.args.toList.map a.eval).toArray ++ caps)).run P w = .ok (.value v) w) {ty : TypeId} {pos : String} {after : Array Edge} {guard : Option (Nat × Bool)} :
    (execOp a.eval ⟨dst, .call c, ty, pos, after, guard⟩).run P w = .ok (.value v) w := by
  have e : (c.args.toList.map a.eval).toArray = c.args.map a.eval := by apply Array.ext'; simp
  rw [e] at hr
  simp only [execOp, resolve, hc, hx, Deferred.ofValue, Sem.run_bind, Sem.run_pure, Result.andThen_ok, invoke, hr, Array.empty_append]
theorem outer_hands {Γ : Env} {k : Nat} {μ : Nat → Option C} : ∀ {ps : List PK} {ls : List L} {x : Handed (RD PK.den ps)}, ps.all PK.outer = true → Ev (handAll Γ k ps ls) μ x → x.refs = [] ∧ x.given = [] ∧ x.lent = []
  | [], [], x, _, he => by simp only [handAll, ev_pure] at he; subst he; exact ⟨rfl, rfl, rfl⟩
  | p :: ps, l :: ls, x, ho, he => by
    simp only [List.all_cons, Bool.and_eq_true] at ho
    simp only [handAll, ev_bind, ev_pure] at he
    obtain ⟨y, hy, z, hz, rfl⟩ := he
    obtain ⟨h1, h2, h3⟩ := outer_hands ho.2 hz
    have one : y.refs = [] ∧ y.given = [] ∧ y.lent = [] := by
      cases p <;> simp [PK.outer] at ho
      case view =>
        cases l <;> simp only [handOne, ev_fail] at hy
        all_goals
          rw [ev_get] at hy
          split at hy
          · rcases ev_cond.1 hy with ⟨_, hy⟩ | ⟨_, hy⟩
            · simp [ev_fail] at hy
            · rw [ev_pure] at hy; subst hy; exact ⟨rfl, rfl, rfl⟩
          · simp [ev_fail] at hy
      case ext t =>
        simp only [handOne, ev_bind, ev_lift, ev_pure] at hy
        obtain ⟨_, _, rfl⟩ := hy
        exact ⟨rfl, rfl, rfl⟩
    simp [h1, h2, h3, one]
  | [], _ :: _, _, _, he => by simp [handAll, ev_fail] at he
  | _ :: _, [], _, _, he => by simp [handAll, ev_fail] at he
theorem xcall_does (h : Rel P E m s a w) {Γ : Env} (hΓ : EnvOk P Γ) {f : FuncId} {sp : FSpec} (hs : XSpec P f sp) {k d : Nat} {dst : Option Nat} {c : Call} {x : Operand} (hc : c.callee = .value x) {caps : List Value} (hx : a.eval x = .func (.func f) #[] caps.toArray) {ls : List L}
    (hl : LReps P w (okOf E m s.mem w) m ls (c.args.toList.map a.eval ++ caps)) {res : Res} (he : Ev (callSpec Γ k sp d ls) s.mem res)
    (hd : ∀ n, dst = some n → E.may n) {ty : TypeId} {pos : String} {after : Array Edge} {guard : Option (Nat × Bool)} :
    Does P E ⟨dst, .call c, ty, pos, after, guard⟩ s a w res := by
  simp only [callSpec, ev_bind, ev_assume, ev_opt, ev_pure] at he
  obtain ⟨x, hx', hn, y, hy, b, hb, hids, rfl⟩ := he
  have ha := hand_all h hΓ (sh := x.shown) hx' (fun _ hr => hr) hl
  have hnd := nodup_iff hn
  have lt : ∀ n, okC E m s.mem w x.shown n → n < w.heap.size := by
    rintro n (hn | ⟨r, hr, i, hi, hb⟩)
    · exact hn.1
    · obtain ⟨c, hc⟩ := Option.isSome_iff_exists.1 (ha.alive r (by simp [hr]))
      obtain ⟨i', h1, _, h3⟩ := h.mem r c hc
      rw [hi] at h1; simp at h1; subst h1
      exact (h3 n hb).1
  have hvn : (vblocks sp.ps (c.args.toList.map a.eval ++ caps)).Nodup := (h.blks_nodup (List.nodup_append.1 hnd).2.1 (fun r hr => ha.alive r (by simp [hr]))).sublist ha.vb
  obtain ⟨v, hrun, hR⟩ := hs.run k x.x y hy w _ _ lt ha.rep hvn
  obtain ⟨h1, h2, h3⟩ := outer_hands hs.ps hx'
  obtain ⟨bt, hrs, hfl⟩ := hs.rs
  obtain ⟨ps, rs, F⟩ := sp
  simp only at hrs; subst hrs
  rw [h3] at hb
  simp only [backAll, ev_bind, ev_pure] at hb
  obtain ⟨_, rfl, rfl⟩ := hb
  rw [h2]
  obtain ⟨v', vs', hv, hv1, hv2⟩ := hR
  simp only [RReps] at hv2
  obtain ⟨rfl, _⟩ := hv2
  simp only [List.cons.injEq, and_true] at hv
  subst hv
  have hleads : ([RK.imm bt] : List RK).any RK.leads = false := by simp [RK.leads, hfl]
  have e : (c.args.toList.map a.eval).toArray ++ caps.toArray = (c.args.toList.map a.eval ++ caps).toArray := by simp
  have hfin := does_val (o := ⟨dst, .call c, ty, pos, after, guard⟩) (l := .val bt (RD.hd (k := RK.imm bt) y)) h hd (run_call_ext hc hx (by rw [e]; exact hrun)) (T.holds_flat hfl hv1)
  simpa [hleads, oneOrTup, gone, puts, Res.of] using hfin
theorem row_calls (h : Rel P E m s a w) {f : FuncId} {sp : FSpec} (hs : RowOk P f sp) {k dst : Nat} {ls : List L} {vals : List Value} {res : Res} {d : Option Nat}
    (he : Ev (rowCall k sp dst ls) s.mem res) (hl : LReps P w (okOf E m s.mem w) m ls vals) (hal : ∀ id ∈ res.allocs, s.used id = false ∧ id < lentBase) (hd : ∀ n, d = some n → E.may n) :
    Calls P f vals.toArray w fun e w' => ∃ v, e = .returned v ∧ Rel' P E (apply s d res) (a.put d v) w' := by
  obtain ⟨_, ⟨t, F, rfl, hf, hF⟩ | ⟨g, rs0, F, rfl, hF⟩ | ⟨g, F, rfl, hF⟩ | ⟨rs0, F, rfl, hF⟩ | ⟨t, rs0, F, rfl, hF⟩⟩ := hs
  · unfold rowCall at he
    split at he
    · rename_i heq; cases heq
    · rename_i heq; cases heq
    · rename_i heq; cases heq
    case h_5 => simp [ev_fail] at he
    rename_i t1 u1 F1 r heq
    simp only [FSpec.mk.injEq, List.cons.injEq, PK.lrow.injEq, RK.own.injEq, and_true] at heq
    obtain ⟨rfl, rfl, hFF⟩ := heq
    obtain rfl := eq_of_heq hFF
    rw [ev_get] at he
    split at he
    · rename_i t' xs hr
      split at he
      · rename_i x hx
        obtain ⟨e, hx⟩ := cast?_some hx
        simp only [T.slice.injEq] at e
        subst e
        simp only at hx
        subst hx
        simp only [ev_opt, ev_pure] at he
        obtain ⟨y, hy, rfl⟩ := he
        obtain ⟨v, vs, rfl, h1, h2⟩ := hl
        simp only [LReps] at h2; subst h2
        obtain ⟨i, hi1, hi2, hi3⟩ := h.mem r _ hr
        simp only [LRep] at h1
        rw [hi1] at h1
        rcases h1 with h1 | h1 <;> (simp at h1; subst h1; simp only [CRep] at hi2)
        have hblk : ∀ b, b ∈ rowBlock v ↔ b ∈ (Impl.arr v).blocks := by
          intro b
          obtain ⟨A, n, c, rfl⟩ := h.shape r _ hi1
          cases A <;> simp [rowBlock, Impl.blocks, eq_comm]
        refine (hF k _ y hy w _ v hi2 (fun b hb => (hi3 b ((hblk b).1 hb)).1)).mono ?_
        rintro e w' ⟨rfl, hgo, hrow⟩
        refine ⟨_, rfl, m, ?_⟩
        have hg : Goes (fun b => b ∈ (Impl.arr v).blocks) w w' := ⟨hgo.os, hgo.tape, hgo.output, hgo.size, fun b hb hn => hgo.block b hb (fun hh => hn ((hblk b).1 hh))⟩
        have := h.editG (c' := .arr _ y) hr hi1 hg (fun ok' hk => hrow.flat hf)
        exact this.put (l := .tup []) ⟨[], rfl, rfl⟩ hd
      · simp [ev_fail] at he
    · simp [ev_fail] at he
  · unfold rowCall at he
    split at he
    case h_2 heq => cases heq
    case h_3 heq => cases heq
    case h_4 heq => cases heq
    case h_5 => simp [ev_fail] at he
    rename_i g1 rs1 F1 r heq
    simp only [FSpec.mk.injEq, List.cons.injEq, PK.mapk.injEq, and_true] at heq
    obtain ⟨rfl, _⟩ := heq
    rw [ev_get] at he
    split at he
    case h_2 => simp [ev_fail] at he
    rename_i l hr
    rw [ev_pure] at he; subst he
    obtain ⟨v, vs, rfl, ⟨b, hb, rfl⟩, h2⟩ := hl
    simp only [LReps] at h2; subst h2
    obtain ⟨i1, g1', g2', g3'⟩ := h.mem r _ hr
    have hlt : b < w.heap.size := by
      rcases hb with hb | ⟨bs, hb⟩ <;> (rw [hb] at g1'; simp at g1'; subst g1'; exact (g3' b (by simp [Impl.blocks])).1)
    refine (hF w b hlt).mono ?_
    rintro e w' ⟨ty, rfl, rfl⟩
    have hbel : Below w.heap.size w (w.alloc (.cells #[.map (some b)] ty)) := below_alloc _ _
    refine ⟨_, rfl, m, (h.grow hbel).put (l := .keys r g) ⟨b, w.heap.size, ty, hb, rfl, ⟨?_, ?_, ?_⟩, alloc_new _ _⟩ hd⟩
    · have := alloc_new w (.cells #[.map (some b)] ty)
      exact (Array.getElem?_eq_some_iff.1 this).1
    · exact .inr (.inr h.goes.size)
    · rintro ⟨r', c', i', hr', hi', hb'⟩
      obtain ⟨i2, k1, _, k3⟩ := h.mem r' c' hr'
      rw [hi'] at k1; simp at k1; subst k1
      exact absurd (k3 _ hb').1 (Nat.lt_irrefl _)
  · unfold rowCall at he
    split at he
    case h_1 heq => cases heq
    case h_3 heq => cases heq
    case h_4 heq => cases heq
    case h_5 => simp [ev_fail] at he
    rename_i g1 u1 F1 r g2 heq
    simp only [FSpec.mk.injEq, List.cons.injEq, PK.seqk.injEq, RK.own.injEq, and_true] at heq
    obtain ⟨rfl, rfl, hFF⟩ := heq
    obtain rfl := eq_of_heq hFF
    rw [ev_get] at he
    split at he
    case h_2 => simp [ev_fail] at he
    rename_i l hr
    rcases ev_cond.1 he with ⟨hg, he2⟩ | ⟨_, he2⟩
    case inr => simp [ev_fail] at he2
    clear he
    have hg := Nat.eq_of_beq_eq_true hg
    subst hg
    rw [ev_opt] at he2
    obtain ⟨y, hy, he2⟩ := he2
    rw [ev_pure] at he2; subst he2
    obtain ⟨v, vs, rfl, ⟨b, bx, ty, hb, rfl, _, hbx⟩, h2⟩ := hl
    simp only [LReps] at h2; subst h2
    obtain ⟨i1, g1', g2', g3'⟩ := h.mem r _ hr
    cases i1 <;> simp only [CRep] at g2'
    rename_i b' bs
    obtain ⟨_, es, clock, hh, hpm⟩ := g2'
    have : b = b' := by
      rcases hb with hb | ⟨bs, hb⟩ <;> (rw [hb] at g1'; simp at g1')
      exact g1'.1
    subst this
    refine (hF k l y hy w b bx ty bs es clock hbx hh hpm.free).mono ?_
    rintro e w' ⟨u, rfl, hrow, hbel, hnew⟩
    obtain ⟨a1, a2⟩ := hal dst (by simp)
    obtain ⟨k1, _, k3, _⟩ := h.new (id := dst) (c := .arr .str y) (i := .arr u) a1 a2 hbel hnew (fun ok' m' _ _ => OwnRow.flat rfl hrow)
    exact ⟨_, rfl, _, k1.put (l := .sref dst) (.inl k3) hd⟩
  · unfold rowCall at he
    split at he
    case h_1 heq => cases heq
    case h_2 heq => cases heq
    case h_4 heq => cases heq
    case h_5 => simp [ev_fail] at he
    rename_i rs1 F1 q heq
    obtain ⟨v, vs, rfl, ⟨bq, hbq, rfl⟩, h2⟩ := hl
    simp only [LReps] at h2; subst h2
    have fin : ∀ {w' : World}, Below w.heap.size w w' → Rel' P E (apply s d (Res.of .nilp)) (a.put d (.pointer none)) w' := fun hb => ⟨m, (h.grow hb).put (l := .nilp) rfl hd⟩
    rw [ev_get] at he
    split at he
    · rename_i r0 hq
      rw [ev_pure] at he; subst he
      obtain ⟨i, g1, g2, _⟩ := h.mem q _ hq
      rw [hbq] at g1; simp at g1; subst g1
      obtain ⟨us, e, g3, u1, us1, rfl, ⟨b1, _, rfl⟩, u2, us2, rfl, g4, g5⟩ := g2
      simp only [LReps] at g5; subst g5
      simp only [LRep] at g4; subst g4
      refine ((hF w bq _ _ e (by simpa using g3)).1 0 none rfl).mono ?_
      rintro e w' ⟨rfl, hb⟩
      exact ⟨_, rfl, fin hb⟩
    · rename_i r0 r hq
      obtain ⟨i, g1, g2, _⟩ := h.mem q _ hq
      rw [hbq] at g1; simp at g1; subst g1
      obtain ⟨us, e, g3, u1, us1, rfl, ⟨b1, _, rfl⟩, u2, us2, rfl, ⟨bs, g4⟩, g5⟩ := g2
      simp only [LReps] at g5; subst g5
      rw [ev_get] at he
      split at he
      case h_2 => simp [ev_fail] at he
      rename_i l pin hr
      rw [ev_assume] at he
      obtain ⟨hsay, he⟩ := he
      obtain ⟨v0, bs0, k1, k2, k3⟩ := deep_of h hr
      rw [g4] at k1
      simp only [Option.some.injEq, Impl.deep.injEq] at k1
      obtain ⟨rfl, rfl⟩ := k1
      rcases ev_br.1 he with ⟨hz, he⟩ | ⟨hz, he⟩
      · rw [ev_pure] at he; subst he
        have hz := Nat.eq_of_beq_eq_true hz
        have hu : ∃ A cap, u2 = .slice A 0 cap := by
          rcases k3 with ⟨rfl, _⟩ | ⟨b, off, cap, C, e, k3⟩
          · exact ⟨_, _, rfl⟩
          · rw [k3.v, hz]; exact ⟨_, _, rfl⟩
        obtain ⟨A, cap, rfl⟩ := hu
        refine ((hF w bq _ _ e (by simpa using g3)).1 cap A rfl).mono ?_
        rintro e w' ⟨rfl, hb⟩
        exact ⟨_, rfl, fin hb⟩
      · obtain ⟨p, b, off, cap, C, e', bs', j1, j2, j3, j4, j5, j6, j7, m', hx, j8, j9⟩ := pinOp_rel h hr he hal
        rw [g4] at j2
        simp only [Option.some.injEq, Impl.deep.injEq] at j2
        obtain ⟨rfl, _⟩ := j2
        obtain ⟨n, hn⟩ : ∃ n, l.length = n + 1 := ⟨l.length - 1, by omega⟩
        rw [hn] at j5 j7
        rw [show l.length - 1 = n by omega] at j4
        refine ((hF w bq _ _ e (by simpa using g3)).2 b off n cap C e' _ (by rw [hn]) (by have := Nat.le_of_ble_eq_true hsay; rw [hn] at this; exact this) j5 j3 j7 j4).mono ?_
        rintro e w' ⟨rfl, hb⟩
        refine ⟨_, rfl, m', ?_⟩
        have := (j9.grow hb).put (l := .ptr dst 0) ⟨p, j8, rfl⟩ hd
        unfold apply
        rw [j1]
        exact this
    · simp [ev_fail] at he
  · unfold rowCall at he
    split at he
    · rename_i heq; cases heq
    · rename_i heq; cases heq
    · rename_i heq; cases heq
    · rename_i heq; cases heq
    · simp [ev_fail] at he
theorem callOne_does (h : Rel P E m s a w) {Γ : Env} (hΓ : EnvOk P Γ) {f : FuncId} {k d : Nat} {dst : Option Nat} {c : Call} {x : Operand} (hc : c.callee = .value x) {caps : List Value} (hx : a.eval x = .func (.func f) #[] caps.toArray) {ls : List L}
    (hl : LReps P w (okOf E m s.mem w) m ls (c.args.toList.map a.eval ++ caps)) {res : Res} (he : Ev (callOne Γ k f d ls) s.mem res)
    (hal : ∀ id ∈ res.allocs, s.used id = false ∧ id < lentBase) (hd : ∀ n, dst = some n → E.may n) {ty : TypeId} {pos : String} {after : Array Edge} {guard : Option (Nat × Bool)} :
    Does P E ⟨dst, .call c, ty, pos, after, guard⟩ s a w res := by
  unfold callOne at he
  split at he
  · simp [ev_fail] at he
  · rename_i sp hsp
    have hs : sp ∈ Γ f := List.mem_of_find?_eq_some hsp
    intro next Q hn
    cases hrow : sp.row with
    | true =>
      rw [hrow] at he
      simp only [cond_true] at he
      have hr := (hΓ f sp hs).2 hrow
      unfold Oper.wp
      rw [run_call_func hr.1 hc hx, Oper.upon_enter]
      have e : (c.args.toList.map a.eval).toArray ++ caps.toArray = (c.args.toList.map a.eval ++ caps).toArray := by simp
      rw [e]
      refine (row_calls h hr he hl hal hd).mono ?_
      rintro e w' ⟨v, rfl, hr⟩
      exact hn _ _ hr
    | false =>
    rw [hrow] at he
    simp only [cond_false] at he
    rcases (hΓ f sp hs).1 hrow with hs | hs
    case inr => exact xcall_does h hΓ hs hc hx hl he hd next Q hn
    unfold Oper.wp
    rw [run_call_func hs.1 hc hx, Oper.upon_enter]
    have e : (c.args.toList.map a.eval).toArray ++ caps.toArray = (c.args.toList.map a.eval ++ caps).toArray := by simp
    rw [e]
    refine (spec_calls h hΓ hs he hl hal hd).mono ?_
    rintro e w' ⟨v, rfl, hr⟩
    exact hn _ _ hr
theorem zview_reps {ok : Nat → Prop} {μ : Nat → Option C} : ∀ {ls ls' : List L} {vs : List Value}, Ev (zview ls) μ ls' → LReps P w ok m ls vs → LReps P w ok m ls' vs
  | [], _, _, he, hl => by simp only [zview, ev_pure] at he; subst he; exact hl
  | l :: ls, ls', _, he, hl => by
    obtain ⟨v, vs, rfl, h1, h2⟩ := hl
    have plain : Ev ((zview ls).bind fun ls => .pure (l :: ls)) μ ls' → LReps P w ok m ls' (v :: vs) := fun he => by
      simp only [ev_bind, ev_pure] at he
      obtain ⟨ls1, h3, rfl⟩ := he
      exact ⟨v, vs, rfl, h1, zview_reps h3 h2⟩
    unfold zview at he
    split at he
    · rename_i heq; cases heq
    · rename_i r ls0 heq
      simp only [List.cons.injEq] at heq
      obtain ⟨rfl, rfl⟩ := heq
      rw [ev_get] at he
      split at he
      · simp only [ev_bind, ev_pure] at he
        obtain ⟨ls1, h3, rfl⟩ := he
        exact ⟨v, vs, rfl, h1, zview_reps h3 h2⟩
      · exact plain he
    · rename_i l0 ls0 _ heq
      simp only [List.cons.injEq] at heq
      obtain ⟨rfl, rfl⟩ := heq
      exact plain he
theorem call_does (h : Rel P E m s a w) {Γ : Env} (hΓ : EnvOk P Γ) {f : FuncId} {k d : Nat} {dst : Option Nat} {c : Call} {x : Operand} (hc : c.callee = .value x) {caps : List Value} (hx : a.eval x = .func (.func f) #[] caps.toArray) {ls : List L}
    (hl : LReps P w (okOf E m s.mem w) m ls (c.args.toList.map a.eval ++ caps)) {res : Res} (he : Ev (callFn Γ k f d ls) s.mem res)
    (hal : ∀ id ∈ res.allocs, s.used id = false ∧ id < lentBase) (hd : ∀ n, dst = some n → E.may n) {ty : TypeId} {pos : String} {after : Array Edge} {guard : Option (Nat × Bool)} :
    Does P E ⟨dst, .call c, ty, pos, after, guard⟩ s a w res := by
  unfold callFn at he
  rcases ev_cond.1 he with ⟨_, he⟩ | ⟨_, he⟩
  · rw [ev_bind] at he
    obtain ⟨ls', h1, he⟩ := he
    exact callOne_does h hΓ hc hx (zview_reps h1 hl) he hal hd
  · exact callOne_does h hΓ hc hx hl he hal hd
theorem valArgs_reps {ok : Nat → Prop} : ∀ {as : List AK} {ls : List L} {y : RD AK.den as} {vs : List Value}, valArgs as ls = some y → LReps P w ok m ls vs → AKs w ok as y vs
  | [], [], _, _, _, hl => hl
  | ⟨t, false⟩ :: as, l :: ls, y, _, h, hl => by
    simp only [valArgs] at h
    split at h
    · simp at h
    · rename_i x hx
      split at h
      · simp at h
      · rename_i z hz
        simp only [Option.some.injEq] at h; subst h
        obtain ⟨v, vs, rfl, h1, h2⟩ := hl
        exact ⟨v, vs, rfl, by rw [hd_mk]; exact leafVal?_holds hx h1, by rw [tl_mk]; exact valArgs_reps hz h2⟩
  | ⟨t, true⟩ :: as, l :: ls, y, _, h, hl => by
    cases l
    case agg ms =>
      simp only [valArgs] at h
      split at h
      · simp at h
      · rename_i x hx
        split at h
        · simp at h
        · rename_i z hz
          simp only [Option.some.injEq] at h; subst h
          obtain ⟨v, vs, rfl, ⟨us, rfl, h1⟩, h2⟩ := hl
          exact ⟨_, vs, rfl, by rw [hd_mk]; exact ⟨us, rfl, implode_holds hx h1⟩, by rw [tl_mk]; exact valArgs_reps hz h2⟩
    all_goals simp [valArgs] at h
  | [], _ :: _, _, _, h, _ => by simp [valArgs] at h
  | ⟨_, false⟩ :: _, [], _, _, h, _ => by simp [valArgs] at h
  | ⟨_, true⟩ :: _, [], _, _, h, _ => by simp [valArgs] at h
theorem fn_does (h : Rel P E m s a w) {dst : Option Nat} {c : Call} {x : Operand} (hc : c.callee = .value x) {ps : List AK} {b : T} {p : RD AK.den ps → Option b.den} (hx : LRep P w (okOf E m s.mem w) m (.fn ps b p) (a.eval x)) {ls : List L}
    (hl : LReps P w (okOf E m s.mem w) m ls (c.args.toList.map a.eval)) {y : RD AK.den ps} (hy : valArgs ps ls = some y) {z : b.den} (hz : p y = some z) (hd : ∀ n, dst = some n → E.may n)
    {ty : TypeId} {pos : String} {after : Array Edge} {guard : Option (Nat × Bool)} : Does P E ⟨dst, .call c, ty, pos, after, guard⟩ s a w (.of (.val b z)) := by
  obtain ⟨f, caps, hv, hrun, hF⟩ := hx
  intro next Q hn
  unfold Oper.wp
  rw [run_call_func hrun hc hv, Oper.upon_enter]
  refine (hF w _ (Keeps.refl w _) (fun n hn => hn.1) y _ (valArgs_reps hy hl) z hz).mono ?_
  rintro e w' ⟨u, rfl, hbel, hu⟩
  have hg := h.grow hbel
  refine hn _ _ ⟨m, hg.put (l := .val b z) (T.holds_mono (Keeps.weaken ?_) hu) hd⟩
  rintro n (⟨h1, h2, h3⟩ | ⟨h1, h2⟩)
  · exact ⟨Nat.lt_of_lt_of_le h1 hbel.size, h2, h3⟩
  · refine ⟨h2, .inr (.inr (Nat.le_trans h.goes.size h1)), ?_⟩
    rintro ⟨r, c', i, hr, hi, hb⟩
    obtain ⟨i', h4, _, h5⟩ := h.mem r c' hr
    rw [hi] at h4; simp at h4; subst h4
    have := (h5 n hb).1
    omega
end
end Go.GG

/- Rows of pointers at things of one's own: the operations. -/
namespace Go.GG
open Go.RowKit
section
variable {τ : Tabs} {P : Program} {E : Entry} {m : IMap} {s : St} {a : Act} {w : World}

/-- Rows are gone, and another one stands in their place. -/
theorem Rel.renew (h : Rel P E m s a w) {N : List Nat} {dst : Nat} {c' : C} {i' : Impl} {w' : World} (hal : ∀ r ∈ N, (s.mem r).isSome) (h0 : s.used dst = false ∧ dst < lentBase)
    (hw : Goes (· ∈ blks m N) w w') (hblk : ∀ b ∈ i'.blocks, b < w'.heap.size ∧ (b ∈ blks m N ∨ w.heap.size ≤ b)) (hsh : i'.shape)
    (hrep : ∀ m' ok', Ext m m' → Keeps w w' (okOf E m s.mem w) ok' → CRep P w' ok' m' c' i') :
    ∃ m', Ext m m' ∧ m' dst = some i' ∧ Rel P E m' { s with mem := editMem (gone N ++ [(dst, some c')]) s.mem, used := addUsed [dst] s.used } a w' := by
  have f0 := h.fresh h0.1
  have hdN : dst ∉ N := fun hh => by
    obtain ⟨c, hc⟩ := Option.isSome_iff_exists.1 (hal dst hh)
    obtain ⟨i, hi, _⟩ := h.mem dst c hc
    rw [f0] at hi; cases hi
  have bq : ∀ {x y : Nat}, x ≠ y → Nat.beq x y = false := fun {x y} hne => by
    cases hb : Nat.beq x y with
    | false => rfl
    | true => exact absurd (Nat.eq_of_beq_eq_true hb) hne
  let μ' := editMem (gone N ++ [(dst, some c')]) s.mem
  have c1 : μ' dst = some c' := by simp [μ', editMem_append, editMem]
  have c2 : ∀ q ∈ N, μ' q = none := fun q hq => by
    have : q ≠ dst := fun e => hdN (e ▸ hq)
    simp only [μ', editMem_append, editMem, bq this, cond_false]
    exact editMem_gone_in hq
  have c3 : ∀ q, q ≠ dst → q ∉ N → μ' q = s.mem q := fun q h1 h2 => by
    simp only [μ', editMem_append, editMem, bq h1, cond_false]
    exact editMem_gone' h2
  let m' : IMap := fun q => if q = dst then some i' else m q
  have e1 : m' dst = some i' := by simp [m']
  have e2 : ∀ q, q ≠ dst → m' q = m q := fun q h => by simp [m', h]
  have hext : Ext m m' := fun q i hq => by
    by_cases e : q = dst
    · subst e; rw [f0] at hq; cases hq
    · exact ⟨i, (e2 q e).trans hq, i.like_refl⟩
  refine ⟨m', hext, e1, h.recast (fun q => q = dst ∨ q ∈ N) hext (fun q hq => ?_) (fun q hq => ?_) ⟨hw.os, hw.tape, hw.output, hw.size, fun n hn1 hn2 => hw.block n hn1 fun e => hn2 ?_⟩ (fun q d hq hd => ?_) (fun q q' d d' i i' n hq hq' hd hd' _ _ _ _ => ?_) (fun q hq hs hl => ?_) (fun q i hq => ?_)⟩
  · apply addUsed_true
    by_cases e : q = dst
    · exact .inl (by simp [e])
    · rw [e2 q e] at hq; exact .inr (h.used q hq)
  · simp only [not_or] at hq
    exact ⟨c3 q hq.1 hq.2, fun _ => e2 q hq.1⟩
  · obtain ⟨r, hr, i, hi, hb⟩ := mem_blks e
    obtain ⟨c, hc⟩ := Option.isSome_iff_exists.1 (hal r hr)
    exact ⟨r, c, i, .inr hr, hc, hi, hb⟩
  · have hd : μ' q = some d := hd
    rcases hq with rfl | hq
    · rw [c1] at hd; simp only [Option.some.injEq] at hd; subst hd
      refine ⟨i', e1, fun ok' hk => hrep m' ok' hext hk, fun b hb => ?_⟩
      obtain ⟨h1, h2⟩ := hblk b hb
      refine ⟨h1, h2.imp (fun h2 => ?_) (fun h => h)⟩
      obtain ⟨r, hr, i, hi, hb⟩ := mem_blks h2
      obtain ⟨c, hc⟩ := Option.isSome_iff_exists.1 (hal r hr)
      exact ⟨r, c, i, .inr hr, hc, hi, hb⟩
    · rw [c2 q hq] at hd; cases hd
  · have key : ∀ {q d}, (q = dst ∨ q ∈ N) → μ' q = some d → q = dst := fun {q d} hq hd => by
      rcases hq with hq | hq
      · exact hq
      · rw [c2 q hq] at hd; cases hd
    rw [key hq hd, key hq' hd']
  · rcases hq with rfl | hq
    · omega
    · exact hal q hq
  · by_cases e : q = dst
    · subst e; rw [e1] at hq; simp at hq; subst hq; exact hsh
    · rw [e2 q e] at hq; exact h.shape q i hq

/-! ### What a row of pointers is to the machine -/
theorem deep_cells {ok : Nat → Prop} {l : List SG} {pin : Option (Nat × Nat)} {v : Value} {bs : List Nat} (h : DeepRow w ok m l pin v bs) :
    ∃ A cap us, v = .slice A l.length cap ∧ l.length ≤ cap ∧ us.length = l.length ∧ DEnts w ok m pin 0 l us ∧ (∀ u ∈ us, u.oneCell' = true) ∧ (∀ (w2 : World) n c, w2.heap = w.heap → (Builtin.firstCells 1 l.length (.slice A n c)).run P w2 = .ok us.toArray w2) ∧
      ((A = none ∧ cap = 0 ∧ l = [] ∧ bs = []) ∨ ∃ b off C e, A = some ⟨b, off, none⟩ ∧ off + cap ≤ C.size ∧ w.heap[b]? = some (.cells C e (0, 0)) ∧ us = shownOf C off l.length ∧ bs = b :: dBs w (pin.map (·.1)) 0 us) := by
  rcases h with ⟨rfl, rfl, rfl, rfl⟩ | ⟨b, off, cap, C, e, h⟩
  · exact ⟨none, 0, [], rfl, Nat.le_refl _, rfl, rfl, by simp, fun _ _ _ _ => rfl, .inl ⟨rfl, rfl, rfl, rfl⟩⟩
  · obtain ⟨g1, g2⟩ := h.ents.get
    have hcap := h.cap
    have hlen := h.len
    refine ⟨some ⟨b, off, none⟩, cap, shownOf C off l.length, h.v, h.len, g1, h.ents, fun u hu => ?_, fun w2 n c hw2 => ?_, .inr ⟨b, off, C, e, rfl, h.cap, h.heap, rfl, h.bs⟩⟩
    · obtain ⟨i, hi⟩ := List.getElem?_of_mem hu
      have hil : i < l.length := by have := (List.getElem?_eq_some_iff.1 hi).1; omega
      obtain ⟨u', h1, h2⟩ := g2 i l[i] (List.getElem?_eq_getElem hil)
      rw [hi] at h1; simp only [Option.some.injEq] at h1; subst h1
      rcases h2 with ⟨_, _, _, _, rfl⟩ | ⟨_, _, _, _, _, rfl, _⟩ <;> rfl
    · simp only [Builtin.firstCells, Nat.mul_one]
      have := run_loadCells_list (P := P) w2 ⟨b, off, none⟩ (shownOf C off l.length) (fun j v hv => by
        rw [add_plain]
        have hj : j < l.length := by have := (List.getElem?_eq_some_iff.1 hv).1; omega
        rw [shownOf_get hj] at hv
        simp [World.cell?, hw2, h.heap, hv])
      rw [g1] at this
      exact this
theorem DEnts.join {ok : Nat → Prop} {l l2 : List SG} {us us2 : List Value} {pin : Option (Nat × Nat)} (h : DEnts w ok m none 0 l us) (h2 : DEnts w ok m pin 0 l2 us2) : DEnts w ok m (pin.map fun p => (l.length + p.1, p.2)) 0 (l ++ l2) (us ++ us2) := by
  obtain ⟨g1, g2⟩ := h.get
  obtain ⟨k1, k2⟩ := h2.get
  refine DEnts.of (by simp [g1, k1]) fun i x hi => ?_
  by_cases e : i < l.length
  · rw [List.getElem?_append_left e] at hi
    obtain ⟨u, h3, h4⟩ := g2 i x hi
    refine ⟨u, by rw [List.getElem?_append_left (by omega)]; exact h3, .inr ⟨fun R hR => ?_, ?_⟩⟩
    · cases pin with
      | none => cases hR
      | some p => simp only [Option.map_some, Option.some.injEq, Prod.mk.injEq] at hR; omega
    · rcases h4 with ⟨_, _, h4, _⟩ | ⟨_, h4⟩
      · cases h4
      · exact h4
  · rw [List.getElem?_append_right (by omega)] at hi
    obtain ⟨u, h3, h4⟩ := k2 _ x hi
    refine ⟨u, by rw [List.getElem?_append_right (by omega), g1]; exact h3, ?_⟩
    rcases h4 with ⟨R, b, h4, h5, h6⟩ | ⟨h4, h5⟩
    · refine .inl ⟨R, b, ?_, h5, h6⟩
      rw [h4]
      simp only [Option.map_some, Option.some.injEq, Prod.mk.injEq, and_true]
      omega
    · refine .inr ⟨fun R hR => ?_, h5⟩
      cases pin with
      | none => cases hR
      | some p =>
        simp only [Option.map_some, Option.some.injEq, Prod.mk.injEq] at hR
        exact h4 R (by rw [← hR.2]; simp only [Option.some.injEq, Prod.ext_iff, and_true]; omega)
theorem dBs_join {us us2 : List Value} {pin : Option Nat} : dBs w (pin.map fun p => us.length + p) 0 (us ++ us2) = dBs w none 0 us ++ dBs w pin 0 us2 := by
  rw [dBs_append, Nat.zero_add]
  congr 1
  · cases pin with
    | none => rfl
    | some p => exact dBs_len (k := us.length + p) (by omega)
  · exact dBs_shift (k := us.length) (j := 0) (sk := pin)

/-! ### One pointer -/
theorem segsOne_does {dst t n e : Nat} {ps : List (Nat × Operand)} {ty : TypeId} {pos : String} {after : Array Edge} {guard : Option (Nat × Bool)} (h : Rel P E m s a w) (hd : E.may dst) {i ei : TI} (ht : TOk P t i) (hk : i.kind = .slice e) (hte : TOk P e ei)
    {R : Nat} (hf : fillLs (fun j => some (j * ei.size, ei.size)) (repeatLs n (zeroLs ei)) (ps.map fun p => (p.1, ev s p.2)) = some [.ptr R 0]) (hx : ∀ p ∈ ps, LReps P w (okOf E m s.mem w) m (leavesOf (ev s p.2)) (a.eval p.2).cells.toList)
    {res : Res} (he : Ev (segsOne dst R) s.mem res) (hal : ∀ id ∈ res.allocs, s.used id = false ∧ id < lentBase) :
    Does P E ⟨some dst, .buildSlice t n ps.toArray, ty, pos, after, guard⟩ s a w res := by
  obtain ⟨d, hdd, hs⟩ := ht.desc
  rw [hk] at hs
  rw [summ_slice hs] at hdd
  obtain ⟨z, hz, hzc⟩ := run_zeroValue (w := w) hte
  unfold segsOne at he
  rw [ev_get] at he
  split at he
  case h_2 => simp [ev_fail] at he
  rename_i ls hR
  rw [ev_bind] at he
  obtain ⟨⟨x, rs⟩, hxs, he⟩ := he
  rcases ev_cond.1 he with ⟨_, he⟩ | ⟨_, he⟩
  case inr => simp [ev_fail] at he
  rw [ev_pure] at he; subst he
  obtain ⟨hid, hlt⟩ := hal dst (by simp)
  obtain ⟨us, hu1, hu2⟩ := fill_run (P := P) (w := w) hf hx (repeatLs_reps (zs := ei.zero) n)
  obtain ⟨v, us', rfl, ⟨p, hp, rfl⟩, hn⟩ := hu2
  simp only [LReps] at hn; subst hn
  have hsz : n * ei.size = 1 := by
    have := fillLs_len hf
    rw [repeatLs_len] at this
    simpa [zeroLs, hte.len] using this.symm
  have hn1 : n = 1 := Nat.eq_one_of_mul_eq_one_right hsz
  subst hn1
  refine does_new (i := .deep (.slice (some ⟨w.heap.size, 0, none⟩) 1 1) [w.heap.size]) (w' := w.alloc (.cells #[.pointer (some ⟨p, 0, none⟩)] e)) h (by simp; omega) hid hlt (below_alloc _ _) (fun b hb => ?_) (fun ok' m' _ hm => ?_) (v := .slice (some ⟨w.heap.size, 0, none⟩) 1 1) ?_ (fun ok' m' _ hm => ⟨_, hm⟩)
  · simp only [Impl.blocks, List.mem_singleton] at hb; subst hb
    exact ⟨Nat.le_refl _, (Array.getElem?_eq_some_iff.1 (alloc_new w (.cells #[.pointer (some ⟨p, 0, none⟩)] e))).1⟩
  · refine ⟨by simp, .inr ⟨w.heap.size, 0, 1, #[.pointer (some ⟨p, 0, none⟩)], e, rfl, Nat.le_refl _, Nat.le_refl _, alloc_new _ _, ⟨_, [], rfl, .inl ⟨R, p, rfl, hm.var hp, rfl⟩, rfl⟩, rfl, fun i R' e' => ?_⟩⟩
    simp only [Option.some.injEq, Prod.mk.injEq] at e'
    simp [← e'.1]
  · have e1 : (ps.toArray.map fun (x : Nat × Operand) => (x.1, a.eval x.2)).toList = ps.map fun p => (p.1, a.eval p.2) := by simp
    simp only [execOp, Instr.buildSlice, Sem.run_bind, run_underlying hdd, Result.andThen_ok, run_sizeOf hte]
    rw [if_neg (by omega)]
    have hr := range_zero ei.zero 1 (by rw [hte.len]; omega)
    rw [hte.len] at hr
    simp only [if_neg (show ¬ 1 * ei.size = 0 by omega), Sem.run_bind, Sem.run_pure, Result.andThen_ok, hz, hzc]
    rw [e1, hr, hu1]
    simp [newRow]

/-! ### A row is cut -/
theorem segsSlice_does {dst : Nat} {t : TypeId} {x : Operand} {lo hi : Option Operand} {ty : TypeId} {pos : String} {after : Array Edge} {guard : Option (Nat × Bool)} (h : Rel P E m s a w) (hd : E.may dst) {tab : Tab} (_hT : TabOk P tab) {i ei : TI} {e : TypeId} (ht : TOk P t i)
    (hk : i.kind = .slice e) (hte : TOk P e ei) (hsz : ei.size = 1) {r : Nat} (hx : ev s x = .dref r) {res : Res} (he : Ev (segsSlice dst r (lo.map (ev s)) (hi.map (ev s))) s.mem res) (hal : ∀ id ∈ res.allocs, s.used id = false ∧ id < lentBase) :
    Does P E ⟨some dst, .slice t x lo hi none, ty, pos, after, guard⟩ s a w res := by
  obtain ⟨d, hdd, hs⟩ := ht.desc
  rw [hk] at hs
  rw [summ_slice hs] at hdd
  unfold segsSlice at he
  rw [ev_get] at he
  split at he
  case h_2 => simp [ev_fail] at he
  rename_i l pin hr
  simp only [ev_bind, ev_assume, ev_pure] at he
  obtain ⟨⟨l', g⟩, hl, av, hlo, bv, hhi, hb, rfl⟩ := he
  simp only [Bool.and_eq_true, decide_eq_true_eq] at hb
  obtain ⟨⟨b0, b1⟩, b2⟩ := hb
  obtain ⟨m1, hx1, h1, hrg, _, hlen⟩ := segs_rm h hr hl
  have hr1 : (({ s with mem := editMem (settleEd r l' g) s.mem } : St)).mem r = some (.segs l' none) := settleEd_self hrg
  have hv := h.eval x
  rw [hx] at hv
  obtain ⟨bs0, hv⟩ := hv
  obtain ⟨v1, bs1, j1, j2, j3⟩ := deep_of h1 hr1
  obtain ⟨_, k1⟩ := hx1.deep hv
  rw [j1] at k1
  simp only [Option.some.injEq, Impl.deep.injEq] at k1
  obtain ⟨rfl, rfl⟩ := k1
  obtain ⟨A, cap, us, hva, hcap, hul, hde, _, _, hcase⟩ := deep_cells (P := P) j3
  have hlo' := boundOr_rep' hlo (h.evalOpt lo)
  have hhi' := boundOr_rep' hhi (h.evalOpt hi)
  have hrun : (execOp a.eval ⟨some dst, .slice t x lo hi none, ty, pos, after, guard⟩).run P w = .ok (.value (.slice (if cap = av.toNat then A else A.map (·.add av.toNat)) (bv.toNat - av.toNat) (cap - av.toNat))) w := by
    have := run_slice_slice (P := P) (w := w) hdd (a := A) (len := l'.length) (cap := cap) (lo := lo.map a.eval) (hi := hi.map a.eval) (mx := none)
    rw [sliceBounds_run (P := P) (l := av) (h := bv) b0 b1 (by omega) hlo' hhi'] at this
    simp only [Result.andThen_ok, run_sizeOf hte, hsz, Nat.mul_one] at this
    simp only [execOp, hva, Option.map_none, Sem.run_bind, this, Result.andThen_ok, Sem.run_pure]
  obtain ⟨hid, hlt⟩ := hal dst (by simp)
  have hcut : (cut l' av bv).length = bv.toNat - av.toNat := by simp [cut]; omega
  -- the row that is left
  obtain ⟨bs', hb1, hb2, hrow⟩ : ∃ bs', bs'.Sublist bs1 ∧ bs'.Nodup ∧ ∀ ok' m' , Keeps w w (okOf E m1 (editMem (settleEd r l' g) s.mem) w) ok' → Ext m1 m' → DeepRow w ok' m' (cut l' av bv) none (.slice (if cap = av.toNat then A else A.map (·.add av.toNat)) (bv.toNat - av.toNat) (cap - av.toNat)) bs' := by
    rcases hcase with ⟨rfl, rfl, rfl, rfl⟩ | ⟨b, off, C, e', rfl, hC, hh, hus, hbs⟩
    · refine ⟨[], List.Sublist.refl _, List.nodup_nil, fun ok' m' _ _ => .inl ⟨?_, ?_, rfl, rfl⟩⟩
      · simp at b2
        have : av.toNat = 0 := by omega
        simp [this]; omega
      · simp [cut]
    · have hsub : (dBs w none 0 (shownOf C (off + av.toNat) (bv.toNat - av.toNat))).Sublist (dBs w none 0 us) := by
        have e1 : shownOf C (off + av.toNat) (bv.toNat - av.toNat) = (us.drop av.toNat).take (bv.toNat - av.toNat) := by
          rw [hus]
          simp only [shownOf, List.drop_take, List.drop_drop, List.take_take]
          congr 1; omega
        rw [e1]
        exact (dBs_take _).trans (dBs_drop _)
      have hbs' : (b :: dBs w none 0 (shownOf C (off + av.toNat) (bv.toNat - av.toNat))).Sublist bs1 := by
        rw [hbs]; exact List.Sublist.cons_cons _ hsub
      obtain ⟨g1, g2⟩ := hde.get
      have ents : ∀ ok' m', Keeps w w (okOf E m1 (editMem (settleEd r l' g) s.mem) w) ok' → DEnts w ok' m' none 0 (cut l' av bv) (shownOf C (off + av.toNat) (bv.toNat - av.toNat)) := fun ok' m' hk => by
        refine DEnts.of (by rw [hcut]; exact shownOf_len (by omega)) fun k y hk' => ?_
        have hkl : k < bv.toNat - av.toNat := by have := (List.getElem?_eq_some_iff.1 hk').1; rw [hcut] at this; exact this
        have hy : l'[av.toNat + k]? = some y := by
          simp only [cut, List.getElem?_drop, List.getElem?_take] at hk'
          rw [if_pos (by omega)] at hk'
          exact hk'
        obtain ⟨u, h3, h4⟩ := g2 _ y hy
        refine ⟨u, ?_, .inr ⟨by simp, ?_⟩⟩
        · rw [hus, shownOf_get (by omega)] at h3
          rw [shownOf_get hkl, ← h3]; congr 1; omega
        · rcases h4 with ⟨_, _, h4, _⟩ | ⟨_, h4⟩
          · cases h4
          · exact (h4.mono hk (fun _ _ => rfl)).1
      by_cases hc : cap = av.toNat
      · have hz : bv.toNat - av.toNat = 0 := by omega
        refine ⟨b :: dBs w none 0 (shownOf C (off + av.toNat) (bv.toNat - av.toNat)), hbs', hbs'.nodup j2, fun ok' m' hk _ => .inr ⟨b, off, 0, C, e', ?_, by rw [hcut, hz]; exact Nat.le_refl _, by omega, hh, ?_, ?_, fun i R e => by cases e⟩⟩
        · rw [if_pos hc, hcut, show cap - av.toNat = 0 by omega]
        · have := ents ok' m' hk
          rw [hcut, hz] at *
          simpa [shownOf] using this
        · rw [hcut, hz]; simp [shownOf]
      · refine ⟨b :: dBs w none 0 (shownOf C (off + av.toNat) (bv.toNat - av.toNat)), hbs', hbs'.nodup j2, fun ok' m' hk _ => .inr ⟨b, off + av.toNat, cap - av.toNat, C, e', ?_, by rw [hcut]; omega, by omega, hh, by rw [hcut]; exact ents ok' m' hk, by rw [hcut]; rfl, fun i R e => by cases e⟩⟩
        rw [if_neg hc, hcut]
        simp only [Option.map_some, add_plain]
  have hblk1 : blks m1 [r] = bs1 := by simp [blks, blk, j1, Impl.blocks]
  obtain ⟨m2, hx2, e2, h2⟩ := h1.renew (N := [r]) (dst := dst) (c' := .segs (cut l' av bv) none) (i' := .deep _ bs') (fun q hq => by
      simp only [List.mem_singleton] at hq; subst hq
      exact Option.isSome_iff_exists.2 ⟨_, hr1⟩) ⟨hid, hlt⟩ (Goes.refl _ w) (fun b hb => by
      rw [hblk1]
      obtain ⟨i, k1, k2, k3⟩ := h1.mem r _ hr1
      rw [j1] at k1; simp at k1; subst k1
      exact ⟨(k3 b (hb1.subset hb)).1, .inl (hb1.subset hb)⟩) ⟨hb2, _, _, _, rfl⟩ (fun m' ok' hx hk => ⟨hb2, hrow ok' m' hk hx⟩)
  have hd' : ∀ n, (some dst : Option Nat) = some n → E.may n := by intro n hn; simp at hn; subst hn; exact hd
  refine does_turn (m' := m2) hd' hrun ?_ ⟨_, e2⟩
  rw [editMem_append]
  exact h2
/-! ### Two rows are put together -/
theorem append_deep {dst : Nat} {x y : Operand} {sT xT ty e : TypeId} {pos : String} {after : Array Edge} {guard : Option (Nat × Bool)} {s1 : St} {m1 : IMap} (h1 : Rel P E m1 s1 a w) (hd : E.may dst)
    {i j ei : TI} (hs : TOk P sT i) (hsk : i.kind = .slice e) (hx : TOk P xT j) (hxk : j.kind.isText = true) (hte : TOk P e ei) (hb8 : ei.bytes = 8) (hsz : ei.size = 1) {N : List Nat} (hal : ∀ r ∈ N, (s1.mem r).isSome) (h0 : s1.used dst = false ∧ dst < lentBase)
    {l1 l2 : List SG} {pin : Option (Nat × Nat)} {bs1 bs2 : List Nat} (d1 : DeepRow w (okOf E m1 s1.mem w) m1 l1 none (a.eval x) bs1) (d2 : DeepRow w (okOf E m1 s1.mem w) m1 l2 pin (a.eval y) bs2) (hN : ∀ b ∈ bs1 ++ bs2, b ∈ blks m1 N) (hnd : (bs1 ++ bs2).Nodup)
    (hroom : room (l1.length + l2.length) 8 = true) :
    Does P E ⟨some dst, .call { callee := .builtin .append, args := #[x, y], argTypes := #[sT, xT] }, ty, pos, after, guard⟩ s1 a w ⟨.dref dst, gone N ++ [(dst, some (.segs (l1 ++ l2) (pin.map fun p => (l1.length + p.1, p.2))))], [dst]⟩ := by
  obtain ⟨A1, cap1, us1, hv1, hc1, hu1, he1, ho1, hf1, hcase1⟩ := deep_cells (P := P) d1
  obtain ⟨A2, cap2, us2, hv2, hc2, hu2, he2, ho2, hf2, hcase2⟩ := deep_cells (P := P) d2
  have hd' : ∀ n, (some dst : Option Nat) = some n → E.may n := by intro n hn; simp at hn; subst hn; exact hd
  have hpinb : ∀ i R, pin = some (i, R) → i < l2.length := by
    rcases d2 with ⟨_, _, h, _⟩ | ⟨_, _, _, _, _, h⟩
    · intro i R e; rw [h] at e; cases e
    · exact h.pin
  have hpin' : ∀ i R, (pin.map fun p => (l1.length + p.1, p.2)) = some (i, R) → i < (l1 ++ l2).length := fun i R e => by
    cases pin with
    | none => cases e
    | some p =>
      simp only [Option.map_some, Option.some.injEq, Prod.mk.injEq] at e
      have := hpinb p.1 p.2 rfl
      rw [List.length_append]; omega
  have hpm : (pin.map fun p => (l1.length + p.1, p.2)).map (·.1) = (pin.map (·.1)).map (fun p => us1.length + p) := by
    cases pin <;> simp [hu1]
  -- the blocks behind the pointers
  have hsub2 : (dBs w (pin.map (·.1)) 0 us2).Sublist bs2 := by
    rcases hcase2 with ⟨_, _, h, hb⟩ | ⟨b, off, C, e, _, _, _, _, hb⟩
    · have : us2 = [] := by rw [h] at hu2; simpa using hu2
      subst this; simp [dBs]
    · rw [hb]; exact List.sublist_cons_self _ _
  have lt : ∀ b ∈ bs1 ++ bs2, b < w.heap.size := fun b hb => by
    obtain ⟨r, hr, i, hi, hib⟩ := mem_blks (hN b hb)
    obtain ⟨c, hc⟩ := Option.isSome_iff_exists.1 (hal r hr)
    obtain ⟨i', k1, _, k3⟩ := h1.mem r c hc
    rw [hi] at k1; simp at k1; subst k1
    exact (k3 b hib).1
  by_cases hfit : l1.length + l2.length ≤ cap1
  · rcases hcase1 with ⟨rfl, rfl, rfl, rfl⟩ | ⟨b, off, C, ec, rfl, hC, hh, hus, hbs⟩
    · -- nothing to nothing
      have hl2 : l2 = [] := by
        simp at hfit; exact hfit
      subst hl2
      have hus2 : us2 = [] := by simpa using hu2
      subst hus2
      have hpn : pin = none := by
        cases pin with
        | none => rfl
        | some p => have := hpinb p.1 p.2 rfl; simp at this
      subst hpn
      have hrun := append_in (ty := ty) (P := P) (w := w) hs hsk hx hxk hte (A := none) (n := 0) (cap := 0) (v := a.eval y) (k := 0) (vs := []) (by rw [hv2]; exact lenOf_slice) (by rw [hv2, hsz]; exact hf2 w _ _ rfl) (Nat.le_refl _) (w' := w) rfl
      obtain ⟨m2, hx2, e2, h2⟩ := h1.renew (N := N) (dst := dst) (c' := .segs [] none) (i' := .deep (.slice none 0 0) []) hal h0 (Goes.refl _ w) (by simp [Impl.blocks]) ⟨List.nodup_nil, _, _, _, rfl⟩ (fun _ _ _ _ => ⟨List.nodup_nil, .inl ⟨rfl, rfl, rfl, rfl⟩⟩)
      exact does_turn (m' := m2) (v := .slice none 0 0) hd' (run_append (by rw [hv1]; exact hrun)) h2 ⟨_, e2⟩
    · -- in place
      let C' := (C.toList.take (off + l1.length) ++ us2 ++ C.toList.drop (off + l1.length + us2.length)).toArray
      have hst : (storeCells ((⟨b, off, none⟩ : Addr).add (l1.length * ei.size)) us2).run P w = .ok () (w.setRow b C') := by
        have := run_storeAt (P := P) b (off + l1.length) ec (0, 0) us2 0 C w hh (by simp) (by rw [hu2]; omega) ho2
        simp only [Nat.add_zero] at this
        rw [hsz, Nat.mul_one, add_plain]
        exact this
      have hrun := append_in (ty := ty) (P := P) (w := w) hs hsk hx hxk hte (A := some ⟨b, off, none⟩) (n := l1.length) (cap := cap1) (v := a.eval y) (k := l2.length) (vs := us2) (by rw [hv2]; exact lenOf_slice) (by rw [hv2, hsz]; exact hf2 w _ _ rfl) hfit hst
      have hshow : shownOf C' off (l1.length + l2.length) = us1 ++ us2 := by
        rw [hus]
        apply List.ext_getElem?
        intro k
        by_cases hk : k < l1.length + l2.length
        · rw [shownOf_get hk]
          simp only [C', List.getElem?_toArray]
          have hlen1 : (shownOf C off l1.length).length = l1.length := shownOf_len (by omega)
          have ht : (C.toList.take (off + l1.length)).length = off + l1.length := by simp; omega
          by_cases hk1 : k < l1.length
          · rw [List.append_assoc, List.getElem?_append_left (by omega), List.getElem?_take, if_pos (by omega), List.getElem?_append_left (by omega), shownOf_get hk1]
            simp
          · rw [List.append_assoc, List.getElem?_append_right (by omega), List.getElem?_append_left (by omega), List.getElem?_append_right (by omega), hlen1, ht]
            congr 1; omega
        · rw [List.getElem?_eq_none (by simp [shownOf]; omega), List.getElem?_eq_none (by rw [List.length_append, shownOf_len (by omega), hu2]; omega)]
      have hC' : C'.size = C.size := by simp [C']; omega
      have hbsx : bs1 = b :: dBs w none 0 us1 := hbs
      have hnd1 : (b :: (dBs w none 0 us1 ++ dBs w (pin.map (·.1)) 0 us2)).Nodup := by
        rw [hbsx, List.cons_append] at hnd
        exact hnd.sublist (List.Sublist.cons_cons _ (List.Sublist.append (List.Sublist.refl _) hsub2))
      have hother : ∀ n ∈ dBs w none 0 us1 ++ dBs w (pin.map (·.1)) 0 us2, (w.setRow b C').heap[n]? = w.heap[n]? := fun n hn => setRow_other w b n _ (fun e => (List.nodup_cons.1 hnd1).1 (e ▸ hn))
      have hbin : b ∈ blks m1 N := hN b (by rw [hbsx]; simp)
      obtain ⟨m2, hx2, e2, h2⟩ := h1.renew (N := N) (dst := dst) (w' := w.setRow b C') (c' := .segs (l1 ++ l2) (pin.map fun p => (l1.length + p.1, p.2))) (i' := .deep (.slice (some ⟨b, off, none⟩) (l1.length + l2.length) cap1) (b :: (dBs w none 0 us1 ++ dBs w (pin.map (·.1)) 0 us2))) hal h0
        ⟨rfl, rfl, rfl, by simp, fun n _ hn => setRow_other w b n _ (fun e => hn (e ▸ hbin))⟩ (fun n hn => by
          have : n ∈ bs1 ++ bs2 := by
            simp only [Impl.blocks, List.mem_cons, List.mem_append] at hn
            rw [hbsx]
            rcases hn with rfl | hn | hn
            · simp
            · simp [hn]
            · simp [hsub2.subset hn]
          exact ⟨by simpa using lt n this, .inl (hN n this)⟩) ⟨hnd1, _, _, _, rfl⟩ (fun m' ok' hx hk => by
          obtain ⟨k1, k2⟩ := he1.mono hk hx (pin := none) (fun n hn => hother n (List.mem_append.2 (.inl hn)))
          obtain ⟨k3, k4⟩ := he2.mono hk hx (fun n hn => hother n (List.mem_append.2 (.inr hn)))
          refine ⟨hnd1, .inr ⟨b, off, cap1, C', ec, by rw [List.length_append], by rw [List.length_append]; exact hfit, by rw [hC']; exact hC, setRow_heap w b C _ ec _ hh, ?_, ?_, hpin'⟩⟩
          · rw [List.length_append, hshow]; exact k1.join k3
          · rw [List.length_append, hshow, hpm, dBs_join]
            rw [Option.map_none] at k2
            rw [k2, k4])
      exact does_turn (m' := m2) hd' (run_append (by rw [hv1]; exact hrun)) h2 ⟨_, e2⟩
  · -- a new block
    have hr : (l1.length + l2.length) * ei.bytes ≤ 140737488355328 := by
      have := of_decide_eq_true hroom
      rw [hb8]; exact this
    obtain ⟨newCap, hn1, zs, hn2, hrun⟩ := append_new (ty := ty) (P := P) (w := w) hs hsk hx hxk hte (by omega) (A := A1) (n := l1.length) (cap := cap1) (v := a.eval y) (k := l2.length) (vs := us2) (us := us1) (by rw [hv2]; exact lenOf_slice) (by rw [hv2, hsz]; exact hf2 _ _ _ rfl) (by rw [hsz]; exact hf1 _ _ _ rfl) (by omega) hr
    rw [hsz, Nat.mul_one] at hn2
    let w' := w.drew.alloc (.cells (us1 ++ us2 ++ zs).toArray e)
    have hbel : Below w.heap.size w w' := (below_drew w).alloc (Nat.le_refl _) _
    have hnew : w'.heap[w.heap.size]? = some (.cells (us1 ++ us2 ++ zs).toArray e (0, 0)) := alloc_new w.drew _
    have hsub1 : (dBs w none 0 us1).Sublist bs1 := by
      rcases hcase1 with ⟨_, _, h, hb⟩ | ⟨b, off, C, e, _, _, _, _, hb⟩
      · have : us1 = [] := by rw [h] at hu1; simpa using hu1
        subst this; simp [dBs]
      · rw [hb]; exact List.sublist_cons_self _ _
    have hin : ∀ n ∈ dBs w none 0 us1 ++ dBs w (pin.map (·.1)) 0 us2, n ∈ bs1 ++ bs2 := fun n hn => (List.Sublist.append hsub1 hsub2).subset hn
    have hnd1 : (w.heap.size :: (dBs w none 0 us1 ++ dBs w (pin.map (·.1)) 0 us2)).Nodup := by
      refine List.nodup_cons.2 ⟨fun hh => absurd (lt _ (hin _ hh)) (Nat.lt_irrefl _), hnd.sublist (List.Sublist.append hsub1 hsub2)⟩
    have hother : ∀ n ∈ dBs w none 0 us1 ++ dBs w (pin.map (·.1)) 0 us2, w'.heap[n]? = w.heap[n]? := fun n hn => hbel.block n (lt n (hin n hn))
    have hshow : shownOf (us1 ++ us2 ++ zs).toArray 0 (l1.length + l2.length) = us1 ++ us2 := by
      simp only [shownOf, List.drop_zero]
      rw [List.take_append_of_le_length (by simp; omega), List.take_of_length_le (by simp; omega)]
    obtain ⟨m2, hx2, e2, h2⟩ := h1.renew (N := N) (dst := dst) (w' := w') (c' := .segs (l1 ++ l2) (pin.map fun p => (l1.length + p.1, p.2))) (i' := .deep (.slice (some ⟨w.heap.size, 0, none⟩) (l1.length + l2.length) newCap) (w.heap.size :: (dBs w none 0 us1 ++ dBs w (pin.map (·.1)) 0 us2))) hal h0
      ⟨hbel.os, hbel.tape, hbel.output, hbel.size, fun n hn _ => hbel.block n hn⟩ (fun n hn => by
        simp only [Impl.blocks, List.mem_cons] at hn
        rcases hn with rfl | hn
        · exact ⟨(Array.getElem?_eq_some_iff.1 hnew).1, .inr (Nat.le_refl _)⟩
        · exact ⟨Nat.lt_of_lt_of_le (lt n (hin n hn)) hbel.size, .inl (hN n (hin n hn))⟩) ⟨hnd1, _, _, _, rfl⟩ (fun m' ok' hx hk => by
        obtain ⟨k1, k2⟩ := he1.mono hk hx (pin := none) (fun n hn => hother n (List.mem_append.2 (.inl hn)))
        obtain ⟨k3, k4⟩ := he2.mono hk hx (fun n hn => hother n (List.mem_append.2 (.inr hn)))
        refine ⟨hnd1, .inr ⟨w.heap.size, 0, newCap, _, e, by rw [List.length_append], by rw [List.length_append]; exact hn1, by simp; omega, hnew, ?_, ?_, hpin'⟩⟩
        · rw [List.length_append, hshow]; exact k1.join k3
        · rw [List.length_append, hshow, hpm, dBs_join]
          rw [Option.map_none] at k2
          rw [k2, k4])
    exact does_turn (m' := m2) hd' (run_append (by rw [hv1]; exact hrun)) h2 ⟨_, e2⟩
theorem segsAppend_does {dst : Nat} {x y : Operand} {sT xT ty e : TypeId} {pos : String} {after : Array Edge} {guard : Option (Nat × Bool)} (h : Rel P E m s a w) (hd : E.may dst)
    {i j ei : TI} (hs : TOk P sT i) (hsk : i.kind = .slice e) (hx : TOk P xT j) (hxk : j.kind.isText = true) (hte : TOk P e ei) (hb8 : ei.bytes = 8) (hsz : ei.size = 1) {res : Res}
    (he : Ev (segsAppend dst (ev s x) (ev s y)) s.mem res) (hal : ∀ id ∈ res.allocs, s.used id = false ∧ id < lentBase) :
    Does P E ⟨some dst, .call { callee := .builtin .append, args := #[x, y], argTypes := #[sT, xT] }, ty, pos, after, guard⟩ s a w res := by
  have hvx := h.eval x
  have hvy := h.eval y
  unfold segsAppend at he
  split at he
  · rename_i r2 hlx hly
    rw [hlx] at hvx; rw [hly] at hvy
    rw [ev_get] at he
    split at he
    case h_2 => simp [ev_fail] at he
    rename_i l2 pin2 hr2
    rw [ev_assume, ev_pure] at he
    obtain ⟨hroom, rfl⟩ := he
    obtain ⟨v2, bs2, j1, j2, j3⟩ := deep_of h hr2
    obtain ⟨_, hvy⟩ := hvy
    rw [j1] at hvy
    simp only [Option.some.injEq, Impl.deep.injEq] at hvy
    obtain ⟨hv2, rfl⟩ := hvy
    simp only [LRep] at hvx
    have := append_deep (ty := ty) (pos := pos) (after := after) (guard := guard) (x := x) (y := y) (N := [r2]) (l1 := []) (bs1 := []) h hd hs hsk hx hxk hte hb8 hsz (fun q hq => by
      simp only [List.mem_singleton] at hq; subst hq
      exact Option.isSome_iff_exists.2 ⟨_, hr2⟩) (hal dst (by simp)) (.inl ⟨hvx, rfl, rfl, rfl⟩) (hv2 ▸ j3) (fun b hb => by simpa [blks, blk, j1, Impl.blocks] using hb) (by simpa using j2) (by simpa using hroom)
    cases pin2 with
    | none => simpa [gone] using this
    | some p => simpa [gone] using this
  · rename_i r r2 hlx hly
    rw [hlx] at hvx; rw [hly] at hvy
    rw [ev_get] at he
    split at he
    case h_2 => simp [ev_fail] at he
    rename_i l2 pin2 hr2
    rw [ev_get] at he
    split at he
    case h_2 => simp [ev_fail] at he
    rename_i l pin hr
    simp only [ev_bind, ev_assume] at he
    obtain ⟨⟨l', g⟩, hl, hroom, he⟩ := he
    rcases ev_cond.1 he with ⟨hc, he⟩ | ⟨_, he⟩
    case inr => simp [ev_fail] at he
    rw [ev_pure] at he; subst he
    simp only [Bool.and_eq_true] at hc
    have hn := nodup_iff hc.1
    obtain ⟨m1, hx1, h1, hrg, _, hlen⟩ := segs_rm h hr hl
    have hr1 : (({ s with mem := editMem (settleEd r l' g) s.mem } : St)).mem r = some (.segs l' none) := settleEd_self hrg
    have hne : r2 ≠ r ∧ r2 ∉ g := by
      rw [List.nodup_cons] at hn
      simpa using hn.1
    have hr21 : (({ s with mem := editMem (settleEd r l' g) s.mem } : St)).mem r2 = some (.segs l2 pin2) := by
      show editMem (gone g) _ r2 = _
      rw [editMem_gone' hne.2]
      have : Nat.beq r2 r = false := by
        cases hb : Nat.beq r2 r with
        | false => rfl
        | true => exact absurd (Nat.eq_of_beq_eq_true hb) hne.1
      simp [this, hr2]
    obtain ⟨v1, bs1, k1, k2, k3⟩ := deep_of h1 hr1
    obtain ⟨v2, bs2, j1, j2, j3⟩ := deep_of h1 hr21
    have h1x := h1.eval x
    have h1y := h1.eval y
    rw [show ev ({ s with mem := editMem (settleEd r l' g) s.mem } : St) x = ev s x by cases x <;> rfl, hlx] at h1x
    rw [show ev ({ s with mem := editMem (settleEd r l' g) s.mem } : St) y = ev s y by cases y <;> rfl, hly] at h1y
    obtain ⟨_, h1x⟩ := h1x
    obtain ⟨_, h1y⟩ := h1y
    rw [k1] at h1x
    rw [j1] at h1y
    simp only [Option.some.injEq, Impl.deep.injEq] at h1x h1y
    obtain ⟨hv1, rfl⟩ := h1x
    obtain ⟨hv2, rfl⟩ := h1y
    have hal2 : ∀ q ∈ [r, r2], (({ s with mem := editMem (settleEd r l' g) s.mem } : St).mem q).isSome := fun q hq => by
      simp only [List.mem_cons, List.not_mem_nil, or_false] at hq
      rcases hq with rfl | rfl
      · exact Option.isSome_iff_exists.2 ⟨_, hr1⟩
      · exact Option.isSome_iff_exists.2 ⟨_, hr21⟩
    have hbl : blks m1 [r, r2] = bs1 ++ bs2 := by simp [blks, blk, k1, j1, Impl.blocks]
    have hnd := h1.blks_nodup (rs := [r, r2]) (by simp [Ne.symm hne.1]) hal2
    rw [hbl] at hnd
    have := append_deep (ty := ty) (pos := pos) (after := after) (guard := guard) (x := x) (y := y) (N := [r, r2]) (dst := dst) h1 hd hs hsk hx hxk hte hb8 hsz hal2 (hal dst (by simp)) (hv1 ▸ k3) (hv2 ▸ j3) (fun b hb => by rw [hbl]; exact hb) hnd hroom
    intro next Q hn
    refine this next Q fun a' w' hr' => hn a' w' ?_
    have e : apply ({ s with mem := editMem (settleEd r l' g) s.mem } : St) (some dst) ⟨.dref dst, gone [r, r2] ++ [(dst, some (.segs (l' ++ l2) (pin2.map fun p => (l'.length + p.1, p.2))))], [dst]⟩ =
        apply s (some dst) ⟨.dref dst, settleEd r l' g ++ [(r, none), (r2, none), (dst, some (.segs (l' ++ l2) (pin2.map fun p => (l'.length + p.1, p.2))))], [dst]⟩ := by
      simp only [apply, editMem_append]
      rfl
    rw [← e]
    exact hr'
  · simp [ev_fail] at he

/-! ### One is taken out -/
theorem pinLoad_does {dst : Nat} {t : TypeId} {x : Operand} {ty : TypeId} {pos : String} {after : Array Edge} {guard : Option (Nat × Bool)} (h : Rel P E m s a w) (hd : E.may dst) {i : TI} (ht : TOk P t i) (hagg : i.isAgg = false) {r n : Nat} (hx : ev s x = .dptr r n)
    {l : List SG} {pin : Option (Nat × Nat)} (hr : s.mem r = some (.segs l pin)) {res : Res} (he : Ev (pinOp dst r n l pin) s.mem res) (hal : ∀ id ∈ res.allocs, s.used id = false ∧ id < lentBase) :
    Does P E ⟨some dst, .load t x, ty, pos, after, guard⟩ s a w res := by
  obtain ⟨p, b, off, cap, C, e, bs, j1, j2, j3, j4, j5, j6, j7, m', hxx, j8, j9⟩ := pinOp_rel h hr he hal
  have hv := h.eval x
  rw [hx] at hv
  obtain ⟨b', o, k, c, bs', hv1, hv2⟩ := hv
  rw [j2] at hv1
  simp only [Option.some.injEq, Impl.deep.injEq, Value.slice.injEq, Addr.mk.injEq, and_true] at hv1
  obtain ⟨⟨⟨rfl, rfl⟩, _⟩, _⟩ := hv1
  have hd' : ∀ n, (some dst : Option Nat) = some n → E.may n := by intro n hn; simp at hn; subst hn; exact hd
  have hload : (Instr.loadAt t (a.eval x)).run P w = .ok (.pointer (some ⟨p, 0, none⟩)) w := by
    obtain ⟨v, h1, h2⟩ := loadVar_run (P := P) (w := w) (m := m) (ok := fun _ => True) (μ := s.mem) (o := off + n) (off := 0) (ls := [.val .raw (some ⟨p, 0, none⟩)]) (vs := [.pointer (some ⟨p, 0, none⟩)]) (l := .val .raw (some ⟨p, 0, none⟩)) ht j3 ⟨_, [], rfl, rfl, rfl⟩ (fun j v hv => by
      cases j with
      | zero => simp at hv; subst hv; exact j4
      | succ j => simp at hv) (by simp [loadLs, hagg, ev_pure])
    simp only [LRep, T.holds, List.cons.injEq, and_true] at h2
    subst h2
    rw [hv2]
    simpa [Instr.loadAt, Instr.sureAddr] using h1
  refine does_turn (m' := m') (v := .pointer (some ⟨p, 0, none⟩)) hd' (by simp [execOp, hload]) j9 ?_
  rw [j1]
  exact ⟨p, j8, rfl⟩
end
end Go.GG

/- Every operation. -/
namespace Go.GG
open Go.RowKit
section
variable {τ : Tabs} {P : Program} {E : Entry} {m : IMap} {s : St} {a : Act} {w : World}

theorem tabRM_some {α : Type} {tab : Tab} {t : TypeId} {k : TI → RM α} {μ : Nat → Option C} {x : α} (h : Ev (tabRM tab t k) μ x) : ∃ i, tab.get t = some i ∧ Ev (k i) μ x := by
  unfold tabRM at h
  split at h
  · rename_i i hi; exact ⟨i, hi, h⟩
  · simp [ev_fail] at h
theorem opVal_some {mm : RM L} {μ : Nat → Option C} {res : Res} (h : Ev (opVal mm) μ res) : ∃ l, Ev mm μ l ∧ res = .of l := by
  simp only [opVal, ev_bind, ev_pure] at h
  obtain ⟨l, h1, h2⟩ := h
  exact ⟨l, h1, h2.symm⟩
theorem plain_cells (h : Rel P E m s a w) {x : Operand} (hp : (ev s x).plain = true) : LReps P w (okOf E m s.mem w) m (leavesOf (ev s x)) (a.eval x).cells.toList := by
  have hl := h.eval x
  cases hc : ev s x
  case agg ls => rw [hc] at hl; obtain ⟨vs, hv, h1⟩ := hl; rw [hv]; simpa [leavesOf, Value.cells] using h1
  all_goals
    rw [hc] at hl hp
    exact (leaves_cells h hl (by simpa [leavesOf, L.plain] using hp)).1
theorem okCaps_caps : ∀ {ls : List L} {cs : List (Nat × Nat)} {vs : List Value} {ok : Nat → Prop}, okCaps ls = some cs → LReps P w ok m ls vs → capHolds m cs vs
  | [], cs, _, _, h, hl => by simp only [okCaps, Option.some.injEq] at h; subst h; exact hl
  | l :: ls, cs, _, _, h, hl => by
    cases l
    case ptr r off =>
      simp only [okCaps] at h
      split at h
      · rename_i cs' hcs
        simp only [Option.some.injEq] at h; subst h
        obtain ⟨v, vs, rfl, ⟨b, h1, rfl⟩, h2⟩ := hl
        exact ⟨b, vs, h1, rfl, okCaps_caps hcs h2⟩
      · simp at h
    all_goals simp [okCaps] at h
theorem parts_array (ps : Array (Nat × Operand)) : ps = ps.toList.toArray := by simp
theorem array1 {α : Type} {x : Array α} {a : α} (h : x.toList = [a]) : x = #[a] := by apply Array.ext'; simp [h]
theorem array2 {α : Type} {x : Array α} {a b : α} (h : x.toList = [a, b]) : x = #[a, b] := by apply Array.ext'; simp [h]
theorem map1 {α β : Type} {x : Array α} {f : α → β} {b : β} (h : x.toList.map f = [b]) : ∃ a, x.toList = [a] ∧ f a = b := by
  match x.toList, h with
  | [a], h => simp at h; exact ⟨a, rfl, h⟩
theorem map2 {α β : Type} {x : Array α} {f : α → β} {b c : β} (h : x.toList.map f = [b, c]) : ∃ a a', x.toList = [a, a'] ∧ f a = b ∧ f a' = c := by
  match x.toList, h with
  | [a, a'], h => simp at h; exact ⟨a, a', rfl, h⟩
theorem pick_does {dst : Option Nat} {c x y : Operand} {k d : Nat} {tab : Tab} {Γ : Env} (h : Rel P E m s a w) (hd : ∀ n, dst = some n → E.may n) {res : Res} (he : Ev (aop tab Γ k d (ev s) (.pick c x y)) s.mem res)
    {ty : TypeId} {pos : String} {after : Array Edge} {guard : Option (Nat × Bool)} : Does P E ⟨dst, .pick c x y, ty, pos, after, guard⟩ s a w res := by
  simp only [aop] at he
  split at he
  · rename_i t hc
    have hv := h.eval c
    rw [hc] at hv
    have hb := rep_bool hv
    simp only [ev_br, ev_pure] at he
    rcases he with ⟨rfl, rfl⟩ | ⟨rfl, rfl⟩
    · exact does_val h hd (v := a.eval x) (by simp [execOp, hb, asBool]) (h.eval x)
    · exact does_val h hd (v := a.eval y) (by simp [execOp, hb, asBool]) (h.eval y)
  · simp [ev_fail] at he
theorem build_does {dst : Option Nat} {t : TypeId} {ps : Array (Nat × Operand)} {k d : Nat} {tab : Tab} (hT : TabOk P tab) {Γ : Env} (h : Rel P E m s a w) (hd : ∀ n, dst = some n → E.may n) {res : Res} (he : Ev (aop tab Γ k d (ev s) (.build t ps)) s.mem res)
    {ty : TypeId} {pos : String} {after : Array Edge} {guard : Option (Nat × Bool)} : Does P E ⟨dst, .build t ps, ty, pos, after, guard⟩ s a w res := by
  simp only [aop] at he
  rcases ev_cond.1 he with ⟨hpl, he⟩ | ⟨_, he⟩
  case inr => simp [ev_fail] at he
  have hx : ∀ p ∈ ps.toList, LReps P w (okOf E m s.mem w) m (leavesOf (ev s p.2)) (a.eval p.2).cells.toList := fun p hp => plain_cells h (List.all_eq_true.1 hpl p hp)
  obtain ⟨i, hi, he⟩ := tabRM_some he
  have ht := hT _ _ hi
  have fin : ∀ {ls : List L}, (∃ v, (Instr.build t (ps.toList.toArray.map fun (p : Nat × Operand) => (p.1, a.eval p.2))).run P w = .ok v w ∧ LRep P w (okOf E m s.mem w) m (.agg ls) v) → Does P E ⟨dst, .build t ps, ty, pos, after, guard⟩ s a w (.of (.agg ls)) := by
    rintro ls ⟨v, hv, hl⟩
    refine does_val h hd (v := v) ?_ hl
    simp only [Array.toArray_toList] at hv
    simp [execOp, hv]
  split at he
  · rename_i fs hk
    split at he
    · rename_i pl hpl'
      split at he
      · rename_i ls hf
        rw [ev_pure] at he; subst he
        exact fin (build_struct_run hT ht hk hpl' hf hx)
      · simp [ev_fail] at he
    · simp [ev_fail] at he
  · rename_i n e hk
    obtain ⟨ei, hei, he⟩ := tabRM_some he
    split at he
    · rename_i ls hf
      rw [ev_pure] at he; subst he
      exact fin (build_array_run ht hk (hT _ _ hei) hf hx)
    · simp [ev_fail] at he
  · simp [ev_fail] at he
theorem buildSl_does {dst : Nat} {t n : Nat} {ps : Array (Nat × Operand)} {k : Nat} {tab : Tab} (hT : TabOk P tab) {Γ : Env} (h : Rel P E m s a w) (hd : E.may dst) {res : Res} (he : Ev (aop tab Γ k dst (ev s) (.buildSlice t n ps)) s.mem res)
    (hal : ∀ id ∈ res.allocs, s.used id = false ∧ id < lentBase) {ty : TypeId} {pos : String} {after : Array Edge} {guard : Option (Nat × Bool)} : Does P E ⟨some dst, .buildSlice t n ps, ty, pos, after, guard⟩ s a w res := by
  simp only [aop] at he
  rcases ev_cond.1 he with ⟨hpl, he⟩ | ⟨_, he⟩
  case inr => simp [ev_fail] at he
  have hx : ∀ p ∈ ps.toList, LReps P w (okOf E m s.mem w) m (leavesOf (ev s p.2)) (a.eval p.2).cells.toList := fun p hp => plain_cells h (List.all_eq_true.1 hpl p hp)
  obtain ⟨i, hi, he⟩ := tabRM_some he
  have ht := hT _ _ hi
  split at he
  · rename_i e et hk hit
    obtain ⟨ei, hei, he⟩ := tabRM_some he
    split at he
    · rename_i ls hf
      rcases ev_cond.1 he with ⟨_, he⟩ | ⟨hcnt, he⟩
      · simp [ev_fail] at he
      split at he
      · have := segsOne_does (ty := ty) (pos := pos) (after := after) (guard := guard) h hd ht hk (hT _ _ hei) hf hx he hal
        simpa using this
      rw [ev_bind] at he
      obtain ⟨⟨ls', gone⟩, hp, he⟩ := he
      dsimp only at he
      split at he
      · rename_i xs hxs
        rw [ev_assume, ev_pure] at he
        obtain ⟨hbig, rfl⟩ := he
        have hc : et.cnt = ei.size := by simpa using hcnt
        obtain ⟨h1, h2⟩ := hal dst (by simp)
        have := buildSlice_does (ty := ty) (pos := pos) (after := after) (guard := guard) h hd h1 h2 ht hk (hT _ _ hei) hc (Nat.le_of_ble_eq_true hbig) hf hx hp hxs
        simpa using this
      · simp [ev_fail] at he
    · simp [ev_fail] at he
  · simp [ev_fail] at he
theorem makeSl_does {dst : Nat} {t : TypeId} {x y : Operand} {k : Nat} {tab : Tab} (hT : TabOk P tab) {Γ : Env} (h : Rel P E m s a w) (hd : E.may dst) {res : Res} (he : Ev (aop tab Γ k dst (ev s) (.makeSlice t x y)) s.mem res)
    (hal : ∀ id ∈ res.allocs, s.used id = false ∧ id < lentBase) {ty : TypeId} {pos : String} {after : Array Edge} {guard : Option (Nat × Bool)} : Does P E ⟨some dst, .makeSlice t x y, ty, pos, after, guard⟩ s a w res := by
  simp only [aop] at he
  obtain ⟨i, hi, he⟩ := tabRM_some he
  have ht := hT _ _ hi
  split at he
  · rename_i e et hk hit
    obtain ⟨ei, hei, he⟩ := tabRM_some he
    rw [ev_bind] at he
    obtain ⟨n, hn, he⟩ := he
    rw [ev_bind] at he
    obtain ⟨c, hc, he⟩ := he
    split at he
    · rename_i z hz
      rcases ev_cond.1 he with ⟨_, he⟩ | ⟨hcnt, he⟩
      · simp [ev_fail] at he
      rw [ev_assume, ev_pure] at he
      obtain ⟨hb, rfl⟩ := he
      simp only [Bool.and_eq_true, beq_iff_eq, decide_eq_true_eq] at hb
      obtain ⟨⟨rfl, h0⟩, hroom⟩ := hb
      simp only [Bool.or_eq_false_iff, Bool.not_eq_false'] at hcnt
      obtain ⟨k1, hx⟩ := asInt_rep hn (h.eval x)
      obtain ⟨k2, hy⟩ := asInt_rep hc (h.eval y)
      obtain ⟨h1, h2⟩ := hal dst (by simp)
      exact makeSlice_does h hd h1 h2 ht hk (hT _ _ hei) (Nat.eq_of_beq_eq_true hcnt.1) hx hy h0 (by simpa [room] using hroom) (by intro e; simp [e] at hcnt) hz
    · simp [ev_fail] at he
  · simp [ev_fail] at he
theorem nilCheck_does {dst : Option Nat} {x : Operand} {k d : Nat} {tab : Tab} {Γ : Env} (h : Rel P E m s a w) (hd : ∀ n, dst = some n → E.may n) {res : Res} (he : Ev (aop tab Γ k d (ev s) (.nilCheck x)) s.mem res)
    {ty : TypeId} {pos : String} {after : Array Edge} {guard : Option (Nat × Bool)} : Does P E ⟨dst, .nilCheck x, ty, pos, after, guard⟩ s a w res := by
  simp only [aop] at he
  have hv := h.eval x
  split at he
  · rename_i r off hx
    rw [ev_pure] at he; subst he
    rw [hx] at hv
    obtain ⟨b, h1, h2⟩ := id hv
    exact does_val h hd (v := a.eval x) (by simp [execOp, h2]) hv
  · rename_i t y off hx
    rw [ev_pure] at he; subst he
    rw [hx] at hv
    obtain ⟨b, o, _, _, _, _, h2, _⟩ := id hv
    exact does_val h hd (v := a.eval x) (by simp [execOp, h2]) hv
  · rename_i ps b p hx
    rw [ev_pure] at he; subst he
    rw [hx] at hv
    obtain ⟨bl, o, _, _, _, u, h2, _⟩ := id hv
    exact does_val h hd (v := a.eval x) (by simp [execOp, h2]) hv
  · rename_i r c i off hx
    rw [ev_pure] at he; subst he
    rw [hx] at hv
    obtain ⟨b, o, _, _, _, h2⟩ := id hv
    exact does_val h hd (v := a.eval x) (by simp [execOp, h2]) hv
  · rename_i f cs hx
    rw [ev_pure] at he; subst he
    rw [hx] at hv
    obtain ⟨caps, h2, _⟩ := id hv
    exact does_val h hd (v := a.eval x) (by simp [execOp, h2]) hv
  · rename_i ps b p hx
    rw [ev_pure] at he; subst he
    rw [hx] at hv
    obtain ⟨f, caps, h2, _⟩ := id hv
    exact does_val h hd (v := a.eval x) (by simp [execOp, h2]) hv
  · rename_i hx
    rw [ev_pure] at he; subst he
    rw [hx] at hv
    obtain ⟨b, _, _, _, h2, _⟩ := id hv
    exact does_val h hd (v := a.eval x) (by simp [execOp, h2]) hv
  · rename_i g hx
    rw [ev_pure] at he; subst he
    rw [hx] at hv
    have h2 : a.eval x = .pointer (some ⟨g, 0, none⟩) := hv
    exact does_val h hd (v := a.eval x) (by simp [execOp, h2]) hv
  · rename_i r i hx
    rw [ev_pure] at he; subst he
    rw [hx] at hv
    obtain ⟨b, o, _, _, _, _, h2⟩ := id hv
    exact does_val h hd (v := a.eval x) (by simp [execOp, h2]) hv
  · rename_i t o hx
    rw [ev_opt] at he
    obtain ⟨y, rfl, he⟩ := he
    rw [ev_pure] at he; subst he
    rw [hx] at hv
    rcases hv with ⟨hv, _⟩ | ⟨y', b, off, C, e, fr, ds, hv, h2, h3, h4, h5, h6⟩
    · cases hv
    · simp only [Option.some.injEq] at hv; subst hv
      simp only [List.cons.injEq, and_true] at h2
      exact does_val h hd (v := a.eval x) (by simp [execOp, h2]) ⟨b, off, C, e, fr, ds, h2, h3, h4, h5, h6⟩
  · simp [ev_fail] at he
end
end Go.GG
