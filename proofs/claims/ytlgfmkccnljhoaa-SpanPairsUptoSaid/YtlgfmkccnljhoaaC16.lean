/- Calls: memory after one. -/
import Derived.Test.YtlgfmkccnljhoaaC15
namespace Go.GG
open Go.RowKit
section
variable {P : Program} {E : Entry} {m : IMap} {s : St} {a : Act} {w : World}

theorem editMem_puts : ∀ {l : List (Nat × C)} {μ : Nat → Option C} {r : Nat} {c : C}, editMem (puts l) μ r = some c → (r, c) ∈ l ∨ (r ∉ l.map (·.1) ∧ μ r = some c)
  | [], _, _, _, h => .inr ⟨by simp, h⟩
  | (r0, c0) :: l, μ, r, c, h => by
    simp only [puts, List.map_cons, editMem] at h
    rcases editMem_puts (l := l) h with h1 | ⟨h1, h2⟩
    · exact .inl (by simp [h1])
    · cases hb : Nat.beq r r0 with
      | true =>
        rw [hb] at h2
        simp at h2
        subst h2
        have := Nat.eq_of_beq_eq_true hb
        subst this
        exact .inl (by simp)
      | false =>
        rw [hb] at h2
        refine .inr ⟨?_, h2⟩
        simp only [List.map_cons, List.mem_cons, not_or]
        exact ⟨fun e => by subst e; simp at hb, h1⟩
theorem editMem_gone {l : List Nat} {μ : Nat → Option C} {r : Nat} {c : C} (h : editMem (gone l) μ r = some c) : r ∉ l ∧ μ r = some c := by
  obtain ⟨h1, h2⟩ := editMem_none (es := gone l) (by simp [gone]) h
  exact ⟨by simpa [gone, List.map_map, Function.comp_def] using h2, h1⟩
theorem addUsed_true : ∀ {ids : List Nat} {u : Nat → Bool} {r : Nat}, (r ∈ ids ∨ u r = true) → addUsed ids u r = true
  | [], _, _, h => by simpa [addUsed] using h
  | i :: ids, u, r, h => by
    simp only [addUsed]
    apply addUsed_true
    rcases h with h | h
    · cases h with
      | head => right; simp
      | tail _ h => exact .inl h
    · right; cases Nat.beq r i <;> simp [h]
def withNews (m : IMap) : List ((Nat × C) × Impl) → IMap
  | [] => m
  | (p, i) :: r => fun n => if n = p.1 then some i else withNews m r n
theorem withNews_other : ∀ {zs : List ((Nat × C) × Impl)} {r : Nat}, r ∉ zs.map (·.1.1) → withNews m zs r = m r
  | [], _, _ => rfl
  | (p, i) :: zs, r, h => by
    simp only [List.map_cons, List.mem_cons, not_or] at h
    simp only [withNews, if_neg h.1]
    exact withNews_other h.2
theorem withNews_self : ∀ {zs : List ((Nat × C) × Impl)}, (zs.map (·.1.1)).Nodup → ∀ p ∈ zs, withNews m zs p.1.1 = some p.2
  | [], _, p, hp => by simp at hp
  | (q, i) :: zs, hn, p, hp => by
    simp only [List.map_cons, List.nodup_cons] at hn
    simp only [withNews]
    cases hp with
    | head => simp
    | tail _ hp =>
      have : p.1.1 ≠ q.1 := fun e => hn.1 (e ▸ List.mem_map_of_mem hp)
      rw [if_neg this]
      exact withNews_self hn.2 p hp
theorem withNews_some : ∀ {zs : List ((Nat × C) × Impl)} {r : Nat} {i : Impl}, withNews m zs r = some i → (∃ p ∈ zs, p.1.1 = r ∧ p.2 = i) ∨ m r = some i
  | [], _, _, h => .inr h
  | (q, j) :: zs, r, i, h => by
    simp only [withNews] at h
    split at h
    · rename_i e; simp at h; exact .inl ⟨(q, j), by simp, e.symm, h⟩
    · rcases withNews_some h with ⟨p, hp, h1⟩ | h1
      · exact .inl ⟨p, by simp [hp], h1⟩
      · exact .inr h1
theorem zip_fst {α β : Type} : ∀ {l : List (Nat × α)} {is : List β}, is.length = l.length → (l.zip is).map (·.1.1) = l.map (·.1)
  | [], _, _ => by simp
  | p :: l, [], h => by simp at h
  | p :: l, i :: is, h => by simp [zip_fst (l := l) (is := is) (by simpa using h)]
theorem zip_mem {α β : Type} : ∀ {l : List α} {is : List β}, is.length = l.length → ∀ p ∈ l, ∃ i, (p, i) ∈ l.zip is
  | [], _, _, p, hp => by simp at hp
  | q :: l, [], h, _, _ => by simp at h
  | q :: l, i :: is, h, p, hp => by
    cases hp with
    | head => exact ⟨i, by simp⟩
    | tail _ hp => obtain ⟨j, hj⟩ := zip_mem (l := l) (is := is) (by simpa using h) p hp; exact ⟨j, by simp [hj]⟩
/-- Two different places of a zip share no block. -/
theorem zip_inj {α : Type} : ∀ {l : List (Nat × α)} {is : List Impl}, (is.flatMap bk).Nodup → ∀ {p q : (Nat × α) × Impl} {b : Nat}, p ∈ l.zip is → q ∈ l.zip is → p.2.block = some b → q.2.block = some b → p.1.1 = q.1.1
  | [], _, _, _, _, _, hp, _, _, _ => by simp at hp
  | _ :: _, [], _, _, _, _, hp, _, _, _ => by simp at hp
  | x :: l, i :: is, hn, p, q, b, hp, hq, h1, h2 => by
    simp only [List.flatMap_cons] at hn
    have hd := List.nodup_append.1 hn
    simp only [List.zip_cons_cons, List.mem_cons] at hp hq
    have tailBlock : ∀ {p : (Nat × α) × Impl}, p ∈ l.zip is → p.2.block = some b → b ∈ is.flatMap bk := by
      intro p hp hb
      have : p.2 ∈ is := (List.of_mem_zip hp).2
      exact List.mem_flatMap.2 ⟨p.2, this, by simp [bk, hb]⟩
    rcases hp with rfl | hp <;> rcases hq with rfl | hq
    · rfl
    · exact absurd rfl (hd.2.2 b (by simp only at h1; simp [bk, h1]) b (tailBlock hq h2))
    · exact absurd rfl (hd.2.2 b (by simp only at h2; simp [bk, h2]) b (tailBlock hp h1))
    · exact zip_inj hd.2.1 hp hq h1 h2

theorem call_turn (h : Rel P E m s a w) {ps : List PK} {rs : List RK} {x : Handed (RD PK.den ps)} {vals vs : List Value} {b : Back} {is : List Impl} {w' : World} {leads : Bool} {ok : Nat → Prop}
    (ha : HandsAll P m s w ok ps x vals) (hgo : Goes (· ∈ blks m x.refs) w w') (hbn : (is.flatMap bk ++ blks m x.lent).Nodup)
    (hbb : ∀ b ∈ is.flatMap bk, b < w'.heap.size ∧ (b ∈ blks m x.refs ∨ w.heap.size ≤ b))
    (hg : Given P m w' (fun n => (n < w'.heap.size ∧ (okC E m s.mem w x.shown n ∨ n ∈ blks m x.refs ∨ w.heap.size ≤ n) ∧ n ∉ is.flatMap bk ++ blks m x.lent) ∧ (leads = false → n ∉ blks m x.shown)) x.lent rs vs b is)
    (hid : ∀ id ∈ b.news.map (·.1), s.used id = false ∧ id < lentBase) (hids : (b.news.map (·.1)).Nodup) {μ' : Nat → Option C}
    (hμ : μ' = editMem (gone x.given ++ (cond leads (gone x.shown) [] ++ (puts b.backs ++ puts b.news))) s.mem) :
    ∃ m', Rel P E m' { s with mem := μ', used := addUsed (b.news.map (·.1)) s.used } a w' ∧ LReps P w' (okOf E m' μ' w') m' b.ls vs := by
  have hz : (b.news.zip is).map (·.1.1) = b.news.map (·.1) := zip_fst hg.len
  have hfresh : ∀ id ∈ b.news.map (·.1), m id = none := fun id hi => h.fresh (hid id hi).1
  -- what is alive afterwards
  have cls : ∀ r c, μ' r = some c → (∃ i, ((r, c), i) ∈ b.news.zip is) ∨ (r ∉ b.news.map (·.1) ∧ (s.mem r).isSome ∧ ((r ∈ x.lent ∧ (r, c) ∈ b.backs) ∨ (s.mem r = some c ∧ r ∉ x.refs ∧ (leads = true → r ∉ x.shown)))) := by
    intro r c hr
    rw [hμ, editMem_append, editMem_append, editMem_append] at hr
    rcases editMem_puts hr with h1 | ⟨h1, h2⟩
    · exact .inl (zip_mem hg.len _ h1)
    · rcases editMem_puts h2 with h3 | ⟨h3, h4⟩
      · have := (hg.back _ h3).1
        exact .inr ⟨h1, ha.alive r (by simp [(ha.sub r).2 (.inr this)]), .inl ⟨this, h3⟩⟩
      · rw [hg.all] at h3
        have h5 : (leads = true → r ∉ x.shown) ∧ editMem (gone x.given) s.mem r = some c := by
          cases leads with
          | false => exact ⟨by simp, h4⟩
          | true => exact ⟨fun _ => (editMem_gone h4).1, (editMem_gone h4).2⟩
        obtain ⟨h6, h7⟩ := editMem_gone h5.2
        exact .inr ⟨h1, by simp [h7], .inr ⟨h7, fun hh => ((ha.sub r).1 hh).elim h6 h3, h5.1⟩⟩
  let m' := withNews m (b.news.zip is)
  have hnew : ∀ p ∈ b.news.zip is, m' p.1.1 = some p.2 := withNews_self (by rw [hz]; exact hids)
  have hold : ∀ r, r ∉ b.news.map (·.1) → m' r = m r := fun r hr => withNews_other (by rw [hz]; exact hr)
  have hext : Ext m m' := fun r i hr => by
    have : r ∉ b.news.map (·.1) := fun hh => by rw [hfresh r hh] at hr; simp at hr
    rw [hold r this]; exact hr
  -- blocks
  have oldB : ∀ r i bl, (s.mem r).isSome → m r = some i → i.block = some bl → bl < w.heap.size ∧ (E.V0 bl ∨ E.w0.heap.size ≤ bl) := by
    intro r i bl hr hi hb
    obtain ⟨c, hc⟩ := Option.isSome_iff_exists.1 hr
    obtain ⟨i', h1, _, h3⟩ := h.mem r c hc
    rw [hi] at h1; simp at h1; subst h1
    exact h3 bl hb
  have inj : ∀ r r' i i' bl, (s.mem r).isSome → (s.mem r').isSome → m r = some i → m r' = some i' → i.block = some bl → i'.block = some bl → r = r' := by
    intro r r' i i' bl hr hr' hi hi' hb hb'
    obtain ⟨c, hc⟩ := Option.isSome_iff_exists.1 hr
    obtain ⟨c', hc'⟩ := Option.isSome_iff_exists.1 hr'
    exact h.inj r r' c c' i i' bl hc hc' hi hi' hb hb'
  have aliveR : ∀ r ∈ x.refs, (s.mem r).isSome := fun r hr => ha.alive r (by simp [hr])
  have inRefs : ∀ r i bl, (s.mem r).isSome → m r = some i → i.block = some bl → bl ∈ blks m x.refs → r ∈ x.refs := by
    intro r i bl hr hi hb hbl
    obtain ⟨r', hr', i', hi', hb'⟩ := mem_blks hbl
    have := inj r r' i i' bl hr (aliveR r' hr') hi hi' hb hb'
    subst this; exact hr'
  have lentMem : ∀ r i bl, r ∈ x.lent → m r = some i → i.block = some bl → bl ∈ blks m x.lent := fun r i bl hr hi hb => List.mem_flatMap.2 ⟨r, hr, by simp [blk, hi, hb]⟩
  have newMem : ∀ p ∈ b.news.zip is, ∀ bl, p.2.block = some bl → bl ∈ is.flatMap bk := fun p hp bl hb => List.mem_flatMap.2 ⟨p.2, (List.of_mem_zip hp).2, by simp [bk, hb]⟩
  have hbd := List.nodup_append.1 hbn
  -- nothing fine belongs to a block of the function's own
  have notV : ∀ n, n ∉ is.flatMap bk ++ blks m x.lent → ((∀ r i, (s.mem r).isSome → m r = some i → i.block = some n → r ∈ x.refs ∨ (leads = true ∧ r ∈ x.shown))) → ¬ Vof m' μ' n := by
    rintro n hn hr ⟨r, c, i, h1, h2, h3⟩
    simp only [List.mem_append, not_or] at hn
    rcases cls r c h1 with ⟨j, hj⟩ | ⟨h4, h5, h6⟩
    · have := hnew _ hj
      rw [h2] at this; simp at this; subst this
      exact hn.1 (newMem _ hj n h3)
    · rw [hold r h4] at h2
      rcases h6 with ⟨h6, _⟩ | ⟨_, h6, h7⟩
      · exact hn.2 (lentMem r i n h6 h2 h3)
      · rcases hr r i h5 h2 h3 with h8 | ⟨h8, h9⟩
        · exact h6 h8
        · exact h7 h8 h9
  have notBig : ∀ n, w.heap.size ≤ n → ∀ r i, (s.mem r).isSome → m r = some i → i.block = some n → False := fun n hn r i hr hi hb => absurd (oldB r i n hr hi hb).1 (Nat.not_lt.2 hn)
  have okStay : ∀ n, okOf E m s.mem w n → w'.heap[n]? = w.heap[n]? ∧ ¬ Vof m' μ' n := by
    intro n hn
    have hv : ∀ r i, (s.mem r).isSome → m r = some i → i.block = some n → False := by
      intro r i hr hi hb
      obtain ⟨c, hc⟩ := Option.isSome_iff_exists.1 hr
      exact hn.2.2 ⟨r, c, i, hc, hi, hb⟩
    have h1 : n ∉ blks m x.refs := fun hh => by obtain ⟨r, hr, i, hi, hb⟩ := mem_blks hh; exact hv r i (aliveR r hr) hi hb
    refine ⟨hgo.block n hn.1 h1, notV n ?_ fun r i hr hi hb => (hv r i hr hi hb).elim⟩
    simp only [List.mem_append, not_or]
    refine ⟨fun hh => ?_, fun hh => ?_⟩
    · rcases (hbb n hh).2 with h2 | h2
      · exact h1 h2
      · exact absurd hn.1 (Nat.not_lt.2 h2)
    · obtain ⟨r, hr, i, hi, hb⟩ := mem_blks hh
      exact hv r i (aliveR r ((ha.sub r).2 (.inr hr))) hi hb
  have okNew : ∀ n, (n < w'.heap.size ∧ (okC E m s.mem w x.shown n ∨ n ∈ blks m x.refs ∨ w.heap.size ≤ n) ∧ n ∉ is.flatMap bk ++ blks m x.lent) ∧ (leads = false → n ∉ blks m x.shown) → okOf E m' μ' w' n := by
    rintro n ⟨⟨h1, h2, h3⟩, h4⟩
    rcases h2 with (h2 | ⟨r, hr, i, hi, hb⟩) | h2 | h2
    · exact ⟨h1, h2.2.1, (okStay n h2).2⟩
    · have al := ha.alive r (by simp [hr])
      refine ⟨h1, .inr (oldB r i n al hi hb).2, notV n h3 fun r' i' hr' hi' hb' => ?_⟩
      have := inj r r' i i' n al hr' hi hi' hb hb'
      subst this
      cases hl : leads with
      | true => exact .inr ⟨rfl, hr⟩
      | false => exact absurd (List.mem_flatMap.2 ⟨r, hr, by simp [blk, hi, hb]⟩) (h4 hl)
    · obtain ⟨r, hr, i, hi, hb⟩ := mem_blks h2
      refine ⟨h1, .inr (oldB r i n (aliveR r hr) hi hb).2, notV n h3 fun r' i' hr' hi' hb' => ?_⟩
      have := inj r r' i i' n (aliveR r hr) hr' hi hi' hb hb'
      subst this
      exact .inl hr
    · exact ⟨h1, .inr (.inr (Nat.le_trans h.goes.size h2)), notV n h3 fun r' i' hr' hi' hb' => (notBig n h2 r' i' hr' hi' hb').elim⟩
  have weak : ∀ {c : C} {i : Impl}, CRep P w' _ m' c i → CRep P w' (okOf E m' μ' w') m' c i := fun hc => hc.mono (Keeps.weaken okNew) (Ext.refl m') (fun _ _ => rfl)
  have keep : Keeps w w' (okOf E m s.mem w) (okOf E m' μ' w') := h.keeps hgo.size okStay
  refine ⟨m', ?_, (hg.ls m' hnew).mono (Keeps.weaken okNew) (Ext.refl m')⟩
  refine h.turn hext ?_ ?_ hgo.size hgo.os hgo.tape hgo.output okStay ?_ ?_ ?_ ?_
  · intro r hr
    apply addUsed_true
    by_cases hh : r ∈ b.news.map (·.1)
    · exact .inl hh
    · rw [hold r hh] at hr; exact .inr (h.used r hr)
  · intro n hn hv
    refine hgo.block n (Nat.lt_of_lt_of_le hn h.goes.size) fun hh => ?_
    obtain ⟨r, hr, i, hi, hb⟩ := mem_blks hh
    rcases (oldB r i n (aliveR r hr) hi hb).2 with h1 | h1
    · exact hv h1
    · omega
  · intro r c hr
    rcases cls r c hr with ⟨i, hi⟩ | ⟨h4, h5, h6⟩
    · refine ⟨i, hnew _ hi, weak (hg.new m' _ hi), fun bl hb => ?_⟩
      obtain ⟨h7, h8⟩ := hbb bl (newMem _ hi bl hb)
      refine ⟨h7, ?_⟩
      rcases h8 with h8 | h8
      · obtain ⟨r', hr', i', hi', hb'⟩ := mem_blks h8
        exact (oldB r' i' bl (aliveR r' hr') hi' hb').2
      · exact .inr (Nat.le_trans h.goes.size h8)
    · rcases h6 with ⟨h6, h7⟩ | ⟨h6, h7, _⟩
      · obtain ⟨bl, hbl⟩ := ha.var r h6
        refine ⟨.var bl, (hold r h4).trans hbl, weak ((hg.back _ h7).2 m' bl hbl), fun bl' hb => ?_⟩
        obtain ⟨h8, h9⟩ := oldB r _ bl' h5 hbl hb
        exact ⟨Nat.lt_of_lt_of_le h8 hgo.size, h9⟩
      · obtain ⟨i, h8, h9, h10⟩ := h.mem r c h6
        refine ⟨i, (hold r h4).trans h8, h9.mono keep hext (fun bl hb => ?_), fun bl hb => ⟨Nat.lt_of_lt_of_le (h10 bl hb).1 hgo.size, (h10 bl hb).2⟩⟩
        exact hgo.block bl (h10 bl hb).1 fun hh => h7 (inRefs r i bl h5 h8 hb hh)
  · intro r r' c c' i i' bl hr hr' hi hi' hb hb'
    have cross : ∀ {r r' : Nat} {c c' : C} {i i' : Impl}, ((∃ j, ((r, c), j) ∈ b.news.zip is)) → m' r = some i → i.block = some bl →
        (r' ∉ b.news.map (·.1) ∧ (s.mem r').isSome ∧ ((r' ∈ x.lent ∧ (r', c') ∈ b.backs) ∨ (s.mem r' = some c' ∧ r' ∉ x.refs ∧ (leads = true → r' ∉ x.shown)))) → m' r' = some i' → i'.block = some bl → False := by
      rintro r r' c c' i i' ⟨j, hj⟩ hi hb ⟨h4, h5, h6⟩ hi' hb'
      have e := hnew _ hj
      rw [hi] at e; simp at e; subst e
      rw [hold r' h4] at hi'
      have h7 := newMem _ hj bl hb
      rcases h6 with ⟨h6, _⟩ | ⟨_, h6, _⟩
      · exact hbd.2.2 bl h7 bl (lentMem r' i' bl h6 hi' hb') rfl
      · rcases (hbb bl h7).2 with h8 | h8
        · exact h6 (inRefs r' i' bl h5 hi' hb' h8)
        · exact notBig bl h8 r' i' h5 hi' hb'
    rcases cls r c hr with h1 | h1 <;> rcases cls r' c' hr' with h2 | h2
    · obtain ⟨j, hj⟩ := h1
      obtain ⟨j', hj'⟩ := h2
      have e := hnew _ hj
      rw [hi] at e; simp at e; subst e
      have e := hnew _ hj'
      rw [hi'] at e; simp at e; subst e
      exact zip_inj hbd.1 hj hj' hb hb'
    · exact (cross h1 hi hb h2 hi' hb').elim
    · exact (cross h2 hi' hb' h1 hi hb).elim
    · exact inj r r' i i' bl h1.2.1 h2.2.1 ((hold r h1.1) ▸ hi) ((hold r' h2.1) ▸ hi') hb hb'
  · intro r hr hl
    obtain ⟨c, hc⟩ := Option.isSome_iff_exists.1 hr
    rcases cls r c hc with ⟨i, hi⟩ | h1
    · have : r ∈ b.news.map (·.1) := List.mem_map.2 ⟨(r, c), (List.of_mem_zip hi).1, rfl⟩
      exact absurd (hid r this).2 (Nat.not_lt.2 hl)
    · exact h1.2.1
  · intro r i hr
    rcases withNews_some hr with ⟨p, hp, _, h2⟩ | h1
    · subst h2; exact hg.shape _ (List.of_mem_zip hp).2
    · exact h.shape r i h1
end
end Go.GG
