/- A function keeps its specification: how it starts. -/
import Derived.Test.YtlgfmkccnljhoaaC27
namespace Go.GG
open Go.RowKit
section
variable {P : Program} {w : World}

def ptrBlk : Value → Nat
  | .pointer (some a) => a.block
  | _ => 0
def blkOf : Value → Impl
  | .slice A _ c => .blk A c
  | _ => .blk none 0
def pimpls : List PK → Nat → List Value → List (Nat × Impl)
  | .lent _ :: ps, j, v :: vs => (lentBase + j, .var (ptrBlk v)) :: pimpls ps (j + 1) vs
  | .own _ :: ps, j, v :: vs => (lentBase - 1 - j, .arr v) :: pimpls ps (j + 1) vs
  | .blk _ :: ps, j, v :: vs => (lentBase - 1 - j, blkOf v) :: pimpls ps (j + 1) vs
  | _ :: ps, j, _ :: vs => pimpls ps (j + 1) vs
  | _, _, _ => []
structure Starts (P : Program) (w : World) (ok0 : Nat → Prop) (ps : List PK) (j : Nat) (x : RD PK.den ps) (vals : List Value) : Prop where
  len : vals.length = ps.length
  ls : ∀ (m : IMap) ok, (∀ p ∈ pimpls ps j vals, m p.1 = some p.2) → (∀ b, ok0 b → ok b) → LReps P w ok m (paramLs ps j x) vals
  mem : ∀ r c, memOf (paramMem ps j x) r = some c → ∃ i, (r, i) ∈ pimpls ps j vals ∧ ∀ m ok, (∀ b, ok0 b → ok b) → CRep P w ok m c i
  keys : (pimpls ps j vals).map (·.1) = (paramMem ps j x).map (·.1)
  range : ∀ p ∈ pimpls ps j vals, (lentBase + j ≤ p.1 ∧ ∃ b, p.2 = .var b) ∨ p.1 + j < lentBase
  nodup : ((pimpls ps j vals).map (·.1)).Nodup
  blocks : (pimpls ps j vals).flatMap (fun p => bk p.2) = pblocks ps vals
  shape : ∀ p ∈ pimpls ps j vals, p.2.shape
  lents : ∀ m : IMap, (∀ p ∈ pimpls ps j vals, m p.1 = some p.2) → blks m (lentRefs ps j) = lblocks ps vals
theorem starts {ok0 : Nat → Prop} : ∀ {ps : List PK} {j : Nat} {x : RD PK.den ps} {vals : List Value}, PReps P w ok0 ps x vals → j + ps.length ≤ lentBase → Starts P w ok0 ps j x vals
  | [], j, x, vals, h, _ => by
    simp only [PReps] at h; subst h
    exact ⟨rfl, fun _ _ _ _ => rfl, fun r c hc => by simp [paramMem, memOf] at hc, rfl, by simp [pimpls], by simp [pimpls], rfl, by simp [pimpls], fun _ _ => rfl⟩
  | p :: ps, j, x, _, h, hj => by
    obtain ⟨v, vals, rfl, h1, h2⟩ := h
    have A := starts (j := j + 1) h2 (by simp at hj ⊢; omega)
    have hj' : j + 1 + ps.length ≤ lentBase := by simp at hj; omega
    -- a parameter without a block of its own
    have plain : pimpls (p :: ps) j (v :: vals) = pimpls ps (j + 1) vals → paramMem (p :: ps) j x = paramMem ps (j + 1) (RD.tl (k := p) x) → lentRefs (p :: ps) j = lentRefs ps (j + 1) →
        pblk p v = [] → lblk p v = [] → (∃ l, paramLs (p :: ps) j x = l :: paramLs ps (j + 1) (RD.tl (k := p) x) ∧ ∀ (m : IMap) ok, (∀ b, ok0 b → ok b) → LRep P w ok m l v) → Starts P w ok0 (p :: ps) j x (v :: vals) := by
      intro e1 e2 e3 e4 e5 ⟨l, e6, e7⟩
      refine ⟨by simp [A.len], fun m ok hm hok => ?_, ?_, ?_, ?_, ?_, ?_, ?_, ?_⟩
      · rw [e6]; rw [e1] at hm; exact ⟨v, vals, rfl, e7 m ok hok, A.ls m ok hm hok⟩
      · rw [e1, e2]; exact A.mem
      · rw [e1, e2]; exact A.keys
      · rw [e1]; intro q hq; rcases A.range q hq with hr | hr
        · exact .inl ⟨by omega, hr.2⟩
        · exact .inr (by omega)
      · rw [e1]; exact A.nodup
      · rw [e1, A.blocks, pblocks_cons, e4]; rfl
      · rw [e1]; exact A.shape
      · rw [e1, e3, lblocks_cons, e5]; exact A.lents
    cases p
    case imm t => exact plain rfl rfl rfl rfl rfl ⟨_, rfl, fun m ok hok => T.holds_mono (t := t) (Keeps.weaken hok) h1⟩
    case agg t =>
      obtain ⟨cs, rfl, h3⟩ := h1
      exact plain rfl rfl rfl rfl rfl ⟨_, rfl, fun m ok hok => ⟨cs, rfl, explode_reps (T.holds_mono (Keeps.weaken hok) h3)⟩⟩
    case ro t =>
      obtain ⟨b, o, C, e, fr, cs, rfl, h3, h4, h5, h6⟩ := h1
      exact plain rfl rfl rfl rfl rfl ⟨_, rfl, fun m ok hok => ⟨b, o, C, e, fr, cs, rfl, hok b h3, h4, T.holds_mono (Keeps.weaken hok) h5, h6⟩⟩
    case fn as b => exact plain rfl rfl rfl rfl rfl ⟨_, rfl, fun m ok hok => FnHolds.mono (Keeps.weaken hok) h1⟩
    case nilp => exact plain rfl rfl rfl rfl rfl ⟨_, rfl, fun m ok hok => h1⟩
    case nils => exact plain rfl rfl rfl rfl rfl ⟨_, rfl, fun m ok hok => h1⟩
    case nnil t => exact plain rfl rfl rfl rfl rfl ⟨_, rfl, fun m ok hok => ⟨T.holds_mono (t := .slice t) (Keeps.weaken hok) h1.1, h1.2⟩⟩
    case lent t =>
      obtain ⟨b, rfl, us, e, h3, h4⟩ := h1
      have notin : ∀ p ∈ pimpls ps (j + 1) vals, p.1 ≠ lentBase + j := fun p hp e => by
        rcases A.range p hp with hr | hr <;> omega
      refine ⟨by simp [A.len], fun m ok hm hok => ⟨_, vals, rfl, ⟨b, hm (lentBase + j, .var b) (by simp [pimpls, ptrBlk]), rfl⟩, A.ls m ok (fun p hp => hm p (by simp [pimpls, hp])) hok⟩, fun r c hc => ?_, ?_, ?_, ?_, ?_, ?_, ?_⟩
      · simp only [paramMem, memOf] at hc
        cases hb : Nat.beq r (lentBase + j) with
        | true =>
          rw [hb] at hc
          simp at hc; subst hc
          exact ⟨.var b, by rw [Nat.eq_of_beq_eq_true hb]; simp [pimpls, ptrBlk], fun m ok hok => ⟨us, e, h3, explode_reps (T.holds_mono (Keeps.weaken hok) h4)⟩⟩
        | false =>
          rw [hb] at hc
          obtain ⟨i, hi, hr⟩ := A.mem r c hc
          exact ⟨i, by simp [pimpls, hi], hr⟩
      · simp [pimpls, paramMem, A.keys]
      · intro q hq
        simp only [pimpls, List.mem_cons] at hq
        rcases hq with rfl | hq
        · exact .inl ⟨Nat.le_refl _, _, rfl⟩
        · rcases A.range q hq with hr | hr
          · exact .inl ⟨by omega, hr.2⟩
          · exact .inr (by omega)
      · simp only [pimpls, List.map_cons, List.nodup_cons]
        refine ⟨fun hh => ?_, A.nodup⟩
        obtain ⟨q, hq, e⟩ := List.mem_map.1 hh
        exact notin q hq e
      · simp only [pimpls, List.flatMap_cons, A.blocks, pblocks]
        rfl
      · intro q hq
        simp only [pimpls, List.mem_cons] at hq
        rcases hq with rfl | hq
        · trivial
        · exact A.shape q hq
      · intro m hm
        have := hm (lentBase + j, .var b) (by simp [pimpls, ptrBlk])
        simp only [lentRefs, blks, List.flatMap_cons, lblocks, ptrBlock]
        rw [blk_some this]
        have := A.lents m (fun p hp => hm p (by simp [pimpls, hp]))
        simp only [blks] at this
        rw [this]
        rfl
    case own t =>
      have hs : (Impl.arr v).shape := CRep.shape (P := P) (w := w) (ok := ok0) (m := fun _ => none) (c := .arr t _) h1
      have notin : ∀ p ∈ pimpls ps (j + 1) vals, p.1 ≠ lentBase - 1 - j := fun p hp e => by
        rcases A.range p hp with hr | hr <;> omega
      refine ⟨by simp [A.len], fun m ok hm hok => ⟨v, vals, rfl, .inl (hm (lentBase - 1 - j, .arr v) (by simp [pimpls])), A.ls m ok (fun p hp => hm p (by simp [pimpls, hp])) hok⟩, fun r c hc => ?_, ?_, ?_, ?_, ?_, ?_, ?_⟩
      · simp only [paramMem, memOf] at hc
        cases hb : Nat.beq r (lentBase - 1 - j) with
        | true =>
          rw [hb] at hc
          simp at hc; subst hc
          exact ⟨.arr v, by rw [Nat.eq_of_beq_eq_true hb]; simp [pimpls], fun m ok hok => OwnRow.mono (Keeps.weaken hok) (fun _ _ => rfl) h1⟩
        | false =>
          rw [hb] at hc
          obtain ⟨i, hi, hr⟩ := A.mem r c hc
          exact ⟨i, by simp [pimpls, hi], hr⟩
      · simp [pimpls, paramMem, A.keys]
      · intro q hq
        simp only [pimpls, List.mem_cons] at hq
        rcases hq with rfl | hq
        · exact .inr (by simp only; omega)
        · rcases A.range q hq with hr | hr
          · exact .inl ⟨by omega, hr.2⟩
          · exact .inr (by omega)
      · simp only [pimpls, List.map_cons, List.nodup_cons]
        refine ⟨fun hh => ?_, A.nodup⟩
        obtain ⟨q, hq, e⟩ := List.mem_map.1 hh
        exact notin q hq e
      · simp only [pimpls, List.flatMap_cons, A.blocks, pblocks]
        rw [rowBlock_of hs]; rfl
      · intro q hq
        simp only [pimpls, List.mem_cons] at hq
        rcases hq with rfl | hq
        · exact hs
        · exact A.shape q hq
      · intro m hm
        have := A.lents m (fun p hp => hm p (by simp [pimpls, hp]))
        exact this
    case blk t =>
      obtain ⟨A0, rfl, h1⟩ := h1
      have ek : ∀ k : Nat, A0.map (·.add (0 * k)) = A0 := fun k => by
        rw [Nat.zero_mul]
        cases A0 <;> rfl
      have notin : ∀ p ∈ pimpls ps (j + 1) vals, p.1 ≠ lentBase - 1 - j := fun p hp e => by
        rcases A.range p hp with hr | hr <;> omega
      refine ⟨by simp [A.len], fun m ok hm hok => ⟨_, vals, rfl, ⟨A0, (RD.hd (k := PK.blk t) x).2, 0 * t.cnt, .inl (hm (lentBase - 1 - j, .blk A0 (RD.hd (k := PK.blk t) x).2) (List.mem_cons_self ..)), by rw [ek]; rfl, .inr rfl⟩, A.ls m ok (fun p hp => hm p (by simp [pimpls, hp])) hok⟩, fun r c hc => ?_, ?_, ?_, ?_, ?_, ?_, ?_⟩
      · simp only [paramMem, memOf] at hc
        cases hb : Nat.beq r (lentBase - 1 - j) with
        | true =>
          rw [hb] at hc
          simp at hc; subst hc
          exact ⟨.blk A0 (RD.hd (k := PK.blk t) x).2, by rw [Nat.eq_of_beq_eq_true hb]; exact List.mem_cons_self .., fun m ok hok => ⟨rfl, OwnRow.mono (Keeps.weaken hok) (fun _ _ => rfl) h1⟩⟩
        | false =>
          rw [hb] at hc
          obtain ⟨i, hi, hr⟩ := A.mem r c hc
          exact ⟨i, by simp [pimpls, hi], hr⟩
      · simp [pimpls, paramMem, A.keys]
      · intro q hq
        simp only [pimpls, List.mem_cons] at hq
        rcases hq with rfl | hq
        · exact .inr (by simp only; omega)
        · rcases A.range q hq with hr | hr
          · exact .inl ⟨by omega, hr.2⟩
          · exact .inr (by omega)
      · simp only [pimpls, List.map_cons, List.nodup_cons]
        refine ⟨fun hh => ?_, A.nodup⟩
        obtain ⟨q, hq, e⟩ := List.mem_map.1 hh
        exact notin q hq e
      · simp only [pimpls, List.flatMap_cons, A.blocks, pblocks]
        cases A0 <;> rfl
      · intro q hq
        simp only [pimpls, List.mem_cons] at hq
        rcases hq with rfl | hq
        · trivial
        · exact A.shape q hq
      · intro m hm
        have := A.lents m (fun p hp => hm p (by simp [pimpls, hp]))
        exact this
    case ext t => exact plain rfl rfl rfl rfl rfl ⟨_, rfl, fun m ok hok => trivial⟩
    case view => exact plain rfl rfl rfl rfl rfl ⟨_, rfl, fun m ok hok => trivial⟩
theorem look_mem : ∀ {l : List (Nat × Impl)}, (l.map (·.1)).Nodup → ∀ p ∈ l, look l p.1 = some p.2
  | [], _, p, hp => by simp at hp
  | (r, i) :: l, hn, p, hp => by
    simp only [List.map_cons, List.nodup_cons] at hn
    simp only [look]
    cases hp with
    | head => simp
    | tail _ hp =>
      have : r ≠ p.1 := fun e => hn.1 (e ▸ List.mem_map_of_mem hp)
      rw [if_neg this]
      exact look_mem hn.2 p hp
theorem mem_look : ∀ {l : List (Nat × Impl)} {r : Nat} {i : Impl}, look l r = some i → (r, i) ∈ l
  | [], _, _, h => by simp [look] at h
  | (r', i') :: l, r, i, h => by
    simp only [look] at h
    split at h
    · rename_i e; subst e; simp at h; subst h; simp
    · simp [mem_look h]
theorem pair_inj : ∀ {l : List (Nat × Impl)}, (l.flatMap fun p => bk p.2).Nodup → ∀ {p q : Nat × Impl} {b : Nat}, p ∈ l → q ∈ l → p.2.block = some b → q.2.block = some b → p.1 = q.1
  | [], _, _, _, _, hp, _, _, _ => by simp at hp
  | x :: l, hn, p, q, b, hp, hq, h1, h2 => by
    simp only [List.flatMap_cons] at hn
    have hd := List.nodup_append.1 hn
    have tailBlock : ∀ {p : Nat × Impl}, p ∈ l → p.2.block = some b → b ∈ l.flatMap fun p => bk p.2 := fun hp hb => List.mem_flatMap.2 ⟨_, hp, by simp [bk, hb]⟩
    simp only [List.mem_cons] at hp hq
    rcases hp with rfl | hp <;> rcases hq with rfl | hq
    · rfl
    · exact absurd rfl (hd.2.2 b (by simp [bk, h1]) b (tailBlock hq h2))
    · exact absurd rfl (hd.2.2 b (by simp [bk, h2]) b (tailBlock hp h1))
    · exact pair_inj hd.2.1 hp hq h1 h2
theorem memOf_key : ∀ {l : List (Nat × C)} {r : Nat} {c : C}, memOf l r = some c → r ∈ l.map (·.1)
  | [], _, _, h => by simp [memOf] at h
  | (r', c') :: l, r, c, h => by
    simp only [memOf] at h
    cases hb : Nat.beq r r' with
    | true => rw [Nat.eq_of_beq_eq_true hb]; simp
    | false => rw [hb] at h; simp [memOf_key h]
theorem envOf_rep {ok : Nat → Prop} {m : IMap} : ∀ {ls : List L} {vs : List Value}, LReps P w ok m ls vs → ∀ t, LRep P w ok m (envOf ls t) (vs.getD t undef)
  | [], _, h, t => by simp only [envOf]; trivial
  | l :: ls, _, h, t => by
    obtain ⟨v, vs, rfl, h1, h2⟩ := h
    cases t with
    | zero => exact h1
    | succ t => exact envOf_rep h2 t
def entry (w : World) (ok0 : Nat → Prop) (ps : List PK) (vals : List Value) (N : Nat) : Entry where
  w0 := w
  ok0 := ok0
  V0 := fun b => b ∈ pblocks ps vals
  lent := fun r => match look (pimpls ps 0 vals) r with
    | some (.var b) => some b
    | _ => none
  N := N
theorem start_rel {ok0 : Nat → Prop} {ps : List PK} {x : RD PK.den ps} {vals : List Value} {N : Nat} (hok : ∀ b, ok0 b → b < w.heap.size) (hp : PReps P w ok0 ps x vals) (hl : ps.length ≤ lentBase) (hN : ps.length ≤ N)
    (hnd : (pblocks ps vals).Nodup) (hpb : ∀ b ∈ pblocks ps vals, b < w.heap.size ∧ ¬ ok0 b) :
    Rel P (entry w ok0 ps vals N) (look (pimpls ps 0 vals)) (startSt ps x) { tmps := vals.toArray ++ Array.replicate (N - vals.toArray.size) undef, defers := [] } w := by
  have A := starts (j := 0) hp (by omega)
  have hm : ∀ p ∈ pimpls ps 0 vals, look (pimpls ps 0 vals) p.1 = some p.2 := look_mem A.nodup
  have inBlocks : ∀ {p : Nat × Impl} {b : Nat}, p ∈ pimpls ps 0 vals → p.2.block = some b → b ∈ pblocks ps vals := fun hp hb => by
    rw [← A.blocks]; exact List.mem_flatMap.2 ⟨_, hp, by simp [bk, hb]⟩
  have oks : ∀ b, ok0 b → okOf (entry w ok0 ps vals N) (look (pimpls ps 0 vals)) (startSt ps x).mem w b := fun b hb =>
    ⟨hok b hb, .inl hb, fun ⟨r, c, i, _, hi, hbk⟩ => (hpb b (inBlocks (mem_look hi) hbk)).2 hb⟩
  have hn' : (pblocks ps vals).Nodup := hnd
  rw [← A.blocks] at hn'
  refine ⟨fun t => ?_, fun r c hc => ?_, fun r r' c c' i i' b _ _ hi hi' hb hb' => pair_inj hn' (mem_look hi) (mem_look hi') hb hb', fun r hr => ?_, fun r hr hbase => ?_, Goes.refl _ _, ?_, rfl, fun r i hi => A.shape _ (mem_look hi)⟩
  · have := envOf_rep (A.ls _ _ hm oks) t
    have e : (vals.toArray ++ Array.replicate (N - vals.toArray.size) undef).getD t undef = vals.getD t undef := by
      rw [Array.getD_eq_getD_getElem?, List.getD_eq_getElem?_getD, Array.getElem?_append]
      split
      · simp
      · rename_i h
        have : vals[t]? = none := List.getElem?_eq_none (by simpa using h)
        rw [this, Array.getElem?_replicate]
        split <;> rfl
    rw [e]
    exact this
  · obtain ⟨i, hi, hr⟩ := A.mem r c hc
    exact ⟨i, hm _ hi, hr _ _ oks, fun b hb => ⟨(hpb b (inBlocks hi hb)).1, .inl (inBlocks hi hb)⟩⟩
  · cases hx : look (pimpls ps 0 vals) r with
    | none => exact absurd hx hr
    | some i =>
      have : r ∈ (pimpls ps 0 vals).map (·.1) := List.mem_map.2 ⟨_, mem_look hx, rfl⟩
      rw [A.keys] at this
      simpa [startSt] using this
  · obtain ⟨c, hc⟩ := Option.isSome_iff_exists.1 hr
    obtain ⟨i, hi, _⟩ := A.mem r c hc
    have := hm _ hi
    rcases A.range _ hi with ⟨_, b, hb⟩ | h'
    · simp only at hb this; subst hb
      exact ⟨b, by simp [entry, this], this⟩
    · simp only at h'; omega
  · have := A.len
    simp [entry]; omega
end
end Go.GG
