/- A law that is kept answers true. -/
import Derived.Test.YtlgfmkccnljhoaaC30
namespace Go.GG
open Go.RowKit Go.ChangeShapes

def aggB (P : Program) (t : TypeId) : Bool := match P.underlying t with
  | some (.struct _) => true
  | some (.array _ _) => true
  | _ => false
def argB (P : Program) : TypeId → PK → Bool
  | t, .imm s => !aggB P t && fitsB P 12 t s
  | t, .agg s => aggB P t && fitsB P 12 t s
  | _, _ => false
def argsB (P : Program) : List TypeId → List PK → Bool
  | [], [] => true
  | t :: ts, p :: ps => argB P t p && argsB P ts ps
  | _, _ => false
def PK.wf : (p : PK) → p.den → Prop
  | .imm t, x => t.wf x
  | .agg t, x => t.wf x
  | _, _ => True
def PK.bulk : (p : PK) → p.den → Nat
  | .imm t, x => t.bulk x
  | .agg t, x => t.bulk x
  | _, _ => 0
def wfAll : (ps : List PK) → RD PK.den ps → Prop
  | [], _ => True
  | p :: ps, x => p.wf (RD.hd (k := p) x) ∧ wfAll ps (RD.tl (k := p) x)
def bulkAll : (ps : List PK) → RD PK.den ps → Nat
  | [], _ => 0
  | p :: ps, x => p.bulk (RD.hd (k := p) x) + bulkAll ps (RD.tl (k := p) x)
section
variable {H : Type} {enc : TypeId × Value → H} {P : Program} {W : World}

theorem cells_plain {t : TypeId} {base : Nat} {v : Value} (hn : aggB P t = false) {n : Nat} {s : T} (hf : fitsB P (n + 1) t s = true) (hv : Value.okWide P W .any base t v) : v.cells.toList = [v] := by
  unfold aggB at hn
  unfold Value.okWide at hv
  simp only [fitsB] at hf
  cases hu : P.underlying t with
  | none => rw [hu] at hf; simp at hf
  | some d =>
    rw [hu] at hn hv hf
    cases d <;> simp at hn hf
    all_goals
      simp only [Cell.okWide, hu, Cell.ok] at hv
      cases v <;> first | rfl | (simp at hv; done)
theorem agg_cells {t : TypeId} {base : Nat} {v : Value} (hn : aggB P t = true) (hv : Value.okWide P W .any base t v) : ∃ cs, v = .agg cs := by
  unfold aggB at hn
  unfold Value.okWide at hv
  split at hn
  · rename_i hu; rw [hu] at hv; obtain ⟨cs, h, _⟩ := hv; exact ⟨cs, h⟩
  · rename_i hu; rw [hu] at hv; obtain ⟨cs, h, _⟩ := hv; exact ⟨cs, h⟩
  · simp at hn
theorem args_read {B : Bulk H} {base : Nat} : ∀ {ts : List TypeId} {vs : List Value} {ds : List (DataW H)} {p : List MemPlace} {ps : List PK}, DataW.TrodAll enc P W 0 (fun _ => true) true ts vs ds p →
    (∀ (j : Nat) t v, ts[j]? = some t → vs[j]? = some v → Value.okWide P W .any base t v) → argsB P ts ps = true →
    ∃ x, PReps P W (okAll W) ps x vs ∧ wfAll ps x ∧ bulkAll ps x ≤ B.all ds ∧ pblocks ps vs = [] ∧ lblocks ps vs = [] ∧ vblocks ps vs = []
  | [], vs, ds, p, ps, h, _, hf => by
    cases ps with
    | cons q ps => simp [argsB] at hf
    | nil =>
      cases vs with
      | cons v vs => simp [DataW.TrodAll] at h
      | nil => exact ⟨(), rfl, trivial, Nat.zero_le _, rfl, rfl, rfl⟩
  | t :: ts, vs, ds, p, ps, h, hv, hf => by
    cases ps with
    | nil => simp [argsB] at hf
    | cons q ps =>
      cases vs with
      | nil => simp [DataW.TrodAll] at h
      | cons v vs =>
        cases ds with
        | nil => simp [DataW.TrodAll] at h
        | cons d ds =>
          simp only [DataW.TrodAll] at h
          obtain ⟨p1, q1, ⟨fuel, h1⟩, h2, rfl⟩ := h
          simp only [argsB, Bool.and_eq_true] at hf
          have hv0 := hv 0 t v rfl rfl
          obtain ⟨y, h3, h4, h5, h6, h7, h7v⟩ := args_read (B := B) h2 (fun j t' v' hj hj' => hv (j + 1) t' v' (by simpa using hj) (by simpa using hj')) hf.2
          cases q
          case imm s =>
            have hf1 := hf.1
            simp only [argB, Bool.and_eq_true, Bool.not_eq_true'] at hf1
            rw [cells_plain hf1.1 hf1.2 hv0] at h1
            obtain ⟨x, h8, h9, h10⟩ := trod_read (B := B) 12 fuel _ _ _ _ _ hf1.2 h1
            refine ⟨RD.mk (k := PK.imm s) x y, ⟨v, vs, rfl, by rw [hd_mk]; exact h8, by rw [tl_mk]; exact h3⟩, ⟨by rw [hd_mk]; exact h9, by rw [tl_mk]; exact h4⟩, ?_, h6, h7, h7v⟩
            simp only [bulkAll]; rw [hd_mk, tl_mk, B.cons]; simp only [PK.bulk]; omega
          case agg s =>
            have hf1 := hf.1
            simp only [argB, Bool.and_eq_true] at hf1
            obtain ⟨cs, rfl⟩ := agg_cells hf1.1 hv0
            obtain ⟨x, h8, h9, h10⟩ := trod_read (B := B) 12 fuel _ _ _ _ _ hf1.2 h1
            refine ⟨RD.mk (k := PK.agg s) x y, ⟨_, vs, rfl, by rw [hd_mk]; exact ⟨cs.toList, by simp, h8⟩, by rw [tl_mk]; exact h3⟩, ⟨by rw [hd_mk]; exact h9, by rw [tl_mk]; exact h4⟩, ?_, h6, h7, h7v⟩
            simp only [bulkAll]; rw [hd_mk, tl_mk, B.cons]; simp only [PK.bulk]; omega
          all_goals simp [argB] at hf
theorem args_after {W' : World} (hl : laidOutB P = true) (hb : Below W.heap.size W W') : ∀ {ts : List TypeId} {vs : List Value} {ds : List (DataW H)} {p : List MemPlace}, (∀ t ∈ ts, P.readableRec t = true ∧ t < P.types.size) →
    DataW.TrodAll enc P W 0 (fun _ => true) true ts vs ds p → (∀ x ∈ p, x.block < W.heap.size) → DataW.TrodAll enc P W' 0 (fun b => decide (b < W.heap.size)) true ts vs ds p
  | [], [], [], p, _, h, _ => h
  | t :: ts, v :: vs, d :: ds, p, hr, h, hlt => by
    obtain ⟨p1, q1, h1, h2, rfl⟩ := h
    exact ⟨p1, q1, Below.trod hl (hr t (by simp)).1 (hr t (by simp)).2 h1 hb (fun x hx => hlt x (by simp [hx])), args_after hl hb (fun t' ht' => hr t' (by simp [ht'])) h2 (fun x hx => hlt x (by simp [hx])), rfl⟩
  | [], _ :: _, _, _, _, h, _ => by simp [DataW.TrodAll] at h
  | [], [], _ :: _, _, _, h, _ => by simp [DataW.TrodAll] at h
  | _ :: _, [], _, _, _, h, _ => by simp [DataW.TrodAll] at h
  | _ :: _, _ :: _, [], _, _, h, _ => by simp [DataW.TrodAll] at h
/-- From a law's specification to the row's contract. -/
theorem law_contract {f : FuncId} {fn : Func} {s : ChangeSpec} {ps : List PK} {F : Nat → RD PK.den ps → Option Bool} {tb : TypeId} (B : Bulk H) (hspec : SpecOk P f ⟨ps, [.imm .bool], F⟩)
    (hfits : argsB P fn.params.toList ps = true) (hvars : s.vars = []) (hres : fn.resultTypes = #[tb]) (htb : P.underlying tb = some .bool) (hl : laidOutB P = true)
    (hrec : (fn.params.toList.all fun t => P.readableRec t && decide (t < P.types.size)) = true)
    {base : Nat} {args : Array Value} {ds gs : List (DataW H)} {before : List MemPlace}
    (hval : ∀ (j : Nat) t v, fn.params[j]? = some t → args[j]? = some v → Value.okWide P W .any base t v)
    (hW : DataW.Whole enc P fn.params.toList s.vars false W args.toList ds gs before)
    (hs : ∀ ds : List (DataW H), ds.length = fn.params.size → s.fn H ds = { results := [.lit (.bool true)], args := ds })
    (law : ∀ x, wfAll ps x → bulkAll ps x ≤ B.all (ds ++ gs) → ∃ k, F k x = some true) :
    Calls P f args W fun e W' => ∃ v, e = .returned v ∧ s.post enc P fn false true false false W args v W' := by
  have hW' := hW
  obtain ⟨p, q, hA, hV, rfl, _, _⟩ := hW
  rw [hvars] at hV
  have hg : gs = [] ∧ q = [] := by
    cases gs with
    | nil => exact ⟨rfl, hV⟩
    | cons g gs => simp [DataW.TrodVars] at hV
  obtain ⟨rfl, rfl⟩ := hg
  obtain ⟨x, h1, h2, h3, h4, h5, h5v⟩ := args_read (B := B) hA (fun j t v hj hv => hval j t v (by simpa using hj) (by simpa using hv)) hfits
  obtain ⟨k, hk⟩ := law x h2 (by simpa using h3)
  have hc := hspec.2 k x true hk W (okAll W) args.toList (fun b hb => hb) h1 (by rw [h4, h5v]; exact List.nodup_nil) (by rw [h4]; simp)
  simp only [Array.toArray_toList] at hc
  refine hc.mono ?_
  rintro e W' ⟨vs, he, hgo, _, _, hR⟩
  rw [h4] at hgo
  have hb : Below W.heap.size W W' := ⟨hgo.os, hgo.tape, hgo.output, hgo.size, fun b hb => hgo.block b hb (by simp)⟩
  obtain ⟨v, vs', rfl, h6, h7⟩ := hR
  simp only [RReps] at h7
  obtain ⟨rfl, _⟩ := h7
  simp only [RRep, T.holds] at h6
  have hv : v = .bool true := by
    have : RD.hd (K := RK) (den := RK.den) (k := RK.imm T.bool) (r := []) true = true := rfl
    rw [this] at h6
    simpa using h6
  subst hv
  refine ⟨_, he, ?_⟩
  have hlen : ds.length = fn.params.size := by
    have key : ∀ {ts : List TypeId} {vs : List Value} {ds : List (DataW H)} {p : List MemPlace}, DataW.TrodAll enc P W 0 (fun _ => true) true ts vs ds p → ds.length = ts.length := by
      intro ts
      induction ts with
      | nil => intro vs ds p h; cases vs <;> cases ds <;> simp [DataW.TrodAll] at h; rfl
      | cons t ts ih =>
        intro vs ds p h
        cases vs <;> cases ds <;> simp [DataW.TrodAll] at h
        obtain ⟨_, _, _, h, _⟩ := h
        simp [ih h]
    have := key hA
    simpa using this
  have hfn := hs (ds ++ []) (by simpa using hlen)
  refine ⟨ds, [], p ++ [], [], p, [], hW', ?_, ?_, ?_, hb.frame _, by simp⟩
  · rw [hfn, hres]
    exact trodAll_mk1 (shut_bool htb true)
  · rw [hfn]
    simp only [List.append_nil]
    refine args_after hl hb (fun t ht => ?_) hA (fun m hm => ?_)
    · have := List.all_eq_true.1 hrec t ht
      simpa using this
    · have := hW'.lt m (by simp [hm])
      simpa using this
  · rw [hfn, hvars]
    rfl
end
end Go.GG
