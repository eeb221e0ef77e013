/- Regions: whatever the order, it comes to the same. -/
import Derived.Test.YtlgfmkccnljhoaaC22
namespace Go.GG
open Go.RowKit
section
variable {tab : Tab} {Γ : Env} {k : Nat} {ops : Array Oper}

/-! ### What stands before what -/
theorem mask_spec {acc : Array Nat} {j : Nat} : ∀ {l : List Edge} {s : Nat}, (l.foldl (fun s e => if Region.binds .any e then s ||| 2 ^ e.on ||| acc.getD e.on 0 else s) s).testBit j = true →
    s.testBit j = true ∨ ∃ e ∈ l, Region.binds .any e = true ∧ (j = e.on ∨ (acc.getD e.on 0).testBit j = true)
  | [], s, h => .inl h
  | e :: l, s, h => by
    simp only [List.foldl_cons] at h
    rcases mask_spec h with h1 | ⟨e', he', h1⟩
    · split at h1
      · rename_i hb
        simp only [Nat.testBit_or, Nat.testBit_two_pow, Bool.or_eq_true, decide_eq_true_eq] at h1
        rcases h1 with (h1 | h1) | h1
        · exact .inl h1
        · exact .inr ⟨e, by simp, hb, .inl h1.symm⟩
        · exact .inr ⟨e, by simp, hb, .inr h1⟩
      · exact .inl h1
    · exact .inr ⟨e', by simp [he'], h1⟩
def Closed (ops : Array Oper) (L : Nat → Prop) : Prop := ∀ i o e, ops[i]? = some o → L i → e ∈ o.after.toList → Region.binds .any e = true → L e.on
theorem before_go : ∀ {l : List Oper} {acc : Array Nat}, (∀ j, l[j]? = ops[acc.size + j]?) → (∀ i j, (acc.getD i 0).testBit j = true → ∀ L, Closed ops L → L i → L j) →
    ∀ i j, ((l.foldl (fun acc o => acc.push (o.after.foldl (fun s e => if Region.binds .any e then s ||| 2 ^ e.on ||| acc.getD e.on 0 else s) 0)) acc).getD i 0).testBit j = true → ∀ L, Closed ops L → L i → L j
  | [], acc, _, h => h
  | o :: l, acc, hl, h => by
    simp only [List.foldl_cons]
    apply before_go
    · intro j
      have := hl (j + 1)
      simp only [List.getElem?_cons_succ, Array.size_push] at this ⊢
      rw [this]; congr 1; omega
    · intro i j hb L hL hi
      have ho : ops[acc.size]? = some o := by have := hl 0; simpa using this.symm
      rw [Array.getD_eq_getD_getElem?, Array.getElem?_push] at hb
      split at hb
      · rename_i hs
        subst hs
        rw [Option.getD_some, ← Array.foldl_toList] at hb
        rcases mask_spec hb with h1 | ⟨e, he, hbd, h1⟩
        · simp at h1
        · have hLe := hL _ o e ho hi he hbd
          rcases h1 with rfl | h1
          · exact hLe
          · exact h e.on j h1 L hL hLe
      · rw [← Array.getD_eq_getD_getElem?] at hb
        exact h i j hb L hL hi
theorem before_closed {i j : Nat} (h : ((Region.before ops).getD i 0).testBit j = true) {L : Nat → Prop} (hL : Closed ops L) (hi : L i) : L j := by
  unfold Region.before at h
  rw [← Array.foldl_toList] at h
  exact before_go (ops := ops) (l := ops.toList) (acc := #[]) (by intro j; simp) (by intro i j hh; simp at hh) i j h L hL hi

/-! ### One step to the front -/
def Free (before : Array Nat) (gs : List Foot) : Prop := gs.Pairwise fun f g => g.apart f = true ∨ (before.getD g.i 0).testBit f.i = true
theorem footsOk_free {before : Array Nat} : ∀ {fs : List Foot}, footsOk before fs = true → Free before fs.reverse
  | [], _ => List.Pairwise.nil
  | f :: fs, h => by
    simp only [footsOk, Bool.and_eq_true, List.all_eq_true, Bool.or_eq_true] at h
    rw [List.reverse_cons]
    refine List.pairwise_append.2 ⟨footsOk_free h.2, List.pairwise_singleton _ _, fun g hg f' hf' => ?_⟩
    simp at hf'; subst hf'
    exact h.1 g (by simpa using hg)
theorem Step.feet {i : Nat} {s s' : St} {fs : List Foot} (h : Step tab Γ k ops i s fs s') : ∀ f ∈ fs, f.i = i := by
  obtain ⟨_, _, ⟨_, f, hf, rfl, _⟩ | ⟨_, rfl, _⟩⟩ := h
  · intro g hg; simp at hg; subst hg; exact hf
  · simp
theorem bubble {before : Array Nat} {i : Nat} {b : List Nat} : ∀ {a : List Nat} {s sf : St} {gs : List Foot}, RunF tab Γ k ops (a ++ i :: b) s gs sf → Free before gs → (∀ j ∈ a, (before.getD i 0).testBit j = false) →
    (∀ j ∈ a, ∀ oj oi, ops[j]? = some oj → ops[i]? = some oi → oj.apart ops oi = true) →
    ∃ fi s1 hs, Step tab Γ k ops i s fi s1 ∧ RunF tab Γ k ops (a ++ b) s1 hs sf ∧ hs.Sublist gs ∧ ∀ g ∈ fi, g ∈ gs
  | [], s, sf, _, h, _, _, _ => by
    cases h with
    | cons h1 h2 => exact ⟨_, _, _, h1, h2, List.sublist_append_right _ _, fun g hg => by simp [hg]⟩
  | j :: a, s, sf, _, h, hf, hb, ht => by
    cases h with
    | @cons _ _ _ s1 _ fj gs' h1 h2 =>
      have hf' := (List.pairwise_append.1 hf)
      obtain ⟨fi, s2, hs, h3, h4, h5, h6⟩ := bubble h2 hf'.2.1 (fun j' hj' => hb j' (by simp [hj'])) (fun j' hj' => ht j' (by simp [hj']))
      have ⟨oj, hoj, _⟩ := id h1
      have ⟨oi, hoi, _⟩ := id h3
      obtain ⟨s1', h7, h8⟩ := step_swap hoi hoj (ht j (by simp) oj oi hoj hoi) (fun f hff g hg => by
        rcases hf'.2.2 f hff g (h6 g hg) with h9 | h9
        · exact h9
        · rw [h3.feet g hg, h1.feet f hff, hb j (by simp)] at h9
          simp at h9) h1 h3
      exact ⟨fi, s1', fj ++ hs, h7, .cons h8 h4, List.Sublist.append (List.Sublist.refl _) h5, fun g hg => by simp [h6 g hg]⟩
end

/-! ### The machine's steps -/
section
variable {P : Program} {E : Entry} {tab : Tab} {Γ : Env} {k : Nat} {ops : Array Oper} {Q : Exit → Act → World → Prop}

theorem dstOf_eq {j : Nat} : dstOf ops.toList j = (ops[j]?).bind (·.dst) := by
  have e : ops.toList[j]? = ops[j]? := by simp
  unfold dstOf
  rw [e]
  cases ops[j]? <;> rfl
theorem getD_of {a : Act} {d : Nat} {v : Value} (hv : v ≠ undef) (h : a.tmps.getD d undef = v) : a.tmps[d]? = some v := by
  rw [Array.getD_eq_getD_getElem?] at h
  cases hx : a.tmps[d]? with
  | none => rw [hx] at h; exact absurd h.symm hv
  | some u => rw [hx] at h; simp at h; rw [h]
theorem wants_true {m : IMap} {s : St} {a : Act} {w : World} (h : Rel P E m s a w) {o : Oper} (hw : Wants ops s o) : Region.wanted o (yielded ops a.tmps) = true := by
  unfold Region.wanted
  cases hg : o.guard with
  | none => rfl
  | some gw =>
    obtain ⟨j, want⟩ := gw
    obtain ⟨d, hd, he⟩ := hw j want hg
    have hv := h.env d
    rw [he] at hv
    have hv := getD_of (by simp [undef]) (rep_bool hv)
    rw [dstOf_eq] at hd
    simp [yielded, hd, hv]
theorem skips_false {m : IMap} {s : St} {a : Act} {w : World} (h : Rel P E m s a w) {o : Oper} (hw : Skips ops s o) : Region.wanted o (yielded ops a.tmps) = false := by
  obtain ⟨j, want, d, hg, hd, he⟩ := hw
  rw [dstOf_eq] at hd
  have hv := h.env d
  unfold Region.wanted
  rw [hg]
  simp only [yielded, hd, Option.bind_some]
  rcases he with he | he
  · rw [he] at hv
    have hv := getD_of (by simp [undef]) (rep_bool hv)
    rw [hv]
    cases want <;> simp
  · rw [he] at hv
    simp only [LRep] at hv
    rw [Array.getD_eq_getD_getElem?] at hv
    cases hx : a.tmps[d]? with
    | none => simp
    | some u => rw [hx] at hv; simp at hv; subst hv; simp [undef]
theorem step_wpOp (hT : TabOk P tab) (hΓ : EnvOk P Γ) (hd : ∀ (i : Nat) (o : Oper), ops[i]? = some o → ∀ n, o.dst = some n → n < E.N) {i : Nat} {s s1 : St} {fs : List Foot} {a : Act} {w : World} (h : Rel' P E s a w) (hs : Step tab Γ k ops i s fs s1)
    {K : Act → World → Prop} (hK : ∀ a' w', Rel' P E s1 a' w' → K a' w') : wpOp P ops Q i K a w := by
  obtain ⟨m, h⟩ := h
  obtain ⟨o, ho, ⟨hw, f, _, _, res, rs, h1, _, _, h2, h3, rfl⟩ | ⟨hw, _, rfl⟩⟩ := hs
  · unfold wpOp
    rw [ho]
    simp only [wants_true h hw, if_true]
    exact .inl (op_sound hT hΓ h (hd i o ho) h3 ⟨rs, h1⟩ h2 K Q hK)
  · unfold wpOp
    rw [ho]
    simp only [skips_false h hw, Bool.false_eq_true, if_false]
    exact hK _ _ ⟨m, h.put rfl (hd i o ho)⟩
theorem run_wpOps (hT : TabOk P tab) (hΓ : EnvOk P Γ) (hd : ∀ (i : Nat) (o : Oper), ops[i]? = some o → ∀ n, o.dst = some n → n < E.N) : ∀ {l : List Nat} {s sf : St} {gs : List Foot} {a : Act} {w : World}, RunF tab Γ k ops l s gs sf → Rel' P E s a w →
    (∀ a' w', Rel' P E sf a' w' → Q .normal a' w') → wpOps P ops Q l a w
  | [], _, _, _, a, w, hr, h, hQ => by cases hr; exact hQ a w h
  | i :: l, _, _, _, a, w, hr, h, hQ => by
    cases hr with
    | cons h1 h2 =>
      rw [wpOps_cons]
      exact step_wpOp hT hΓ hd h h1 fun a' w' h' => run_wpOps hT hΓ hd h2 h' hQ

/-! ### Any order -/
def left (ops : Array Oper) (listed : Array Bool) : List Nat := (List.range ops.size).filter fun i => !listed.getD i true
theorem left_set {listed : Array Bool} {i : Nat} {a b : List Nat} (h : left ops listed = a ++ i :: b) : left ops (listed.setIfInBounds i true) = a ++ b := by
  have e : left ops (listed.setIfInBounds i true) = (left ops listed).filter fun j => decide (j ≠ i) := by
    unfold left
    rw [List.filter_filter]
    apply List.filter_congr
    intro j _
    by_cases hj : j = i
    · subst hj
      have : (listed.setIfInBounds j true).getD j true = true := by
        rw [Array.getD_eq_getD_getElem?, Array.getElem?_setIfInBounds_self]
        split <;> rfl
      rw [this]; simp
    · rw [getD_set_ne true (Ne.symm hj)]; simp [hj]
  have hn : (left ops listed).Nodup := List.Pairwise.filter _ List.nodup_range
  rw [e, h]
  rw [h] at hn
  have h1 := List.nodup_append.1 hn
  rw [List.filter_append, List.filter_cons]
  simp only [ne_eq, not_true_eq_false, decide_false, Bool.false_eq_true, if_false]
  congr 1
  · apply List.filter_eq_self.2
    intro j hj
    simpa using h1.2.2 j hj i (by simp)
  · apply List.filter_eq_self.2
    intro j hj
    have := (List.nodup_cons.1 h1.2.1).1
    simp only [decide_eq_true_eq]
    exact fun e => this (e ▸ hj)
theorem left_sorted {listed : Array Bool} : (left ops listed).Pairwise (· < ·) := List.Pairwise.filter _ List.pairwise_lt_range
theorem any_sound (hT : TabOk P tab) (hΓ : EnvOk P Γ) (hd : ∀ (i : Nat) (o : Oper), ops[i]? = some o → ∀ n, o.dst = some n → n < E.N)
    (htmp : ∀ (j i : Nat) (oj oi : Oper), j < i → ops[j]? = some oj → ops[i]? = some oi → oj.apart ops oi = true ∨ ((Region.before ops).getD i 0).testBit j = true)
    (hedge : ∀ (i : Nat) (o : Oper) (e : Edge), ops[i]? = some o → e ∈ o.after.toList → Region.binds .any e = true → e.on < i) {sf : St} (hQ : ∀ a' w', Rel' P E sf a' w' → Q .normal a' w') :
    ∀ (fuel : Nat) (listed : Array Bool) (s : St) (gs : List Foot) (a : Act) (w : World), (left ops listed).length = fuel → RunF tab Γ k ops (left ops listed) s gs sf → Free (Region.before ops) gs →
      Closed ops (fun i => listed.getD i false = true) → Rel' P E s a w → wpAny P .any ops Q fuel listed a w
  | 0, listed, s, gs, a, w, hl, hr, _, _, h => by
    have hnil : left ops listed = [] := List.eq_nil_of_length_eq_zero hl
    rw [hnil] at hr
    cases hr
    refine ⟨?_, hQ a w h⟩
    cases hc : Region.ready .any ops listed with
    | nil => rfl
    | cons i r =>
      have hi : i ∈ Region.ready .any ops listed := by rw [hc]; simp
      obtain ⟨h1, o, ho, _⟩ := mem_ready.1 hi
      have : i ∈ left ops listed := List.mem_filter.2 ⟨List.mem_range.2 (Array.getElem?_eq_some_iff.1 ho).1, by rw [h1]; rfl⟩
      rw [hnil] at this
      simp at this
  | fuel + 1, listed, s, gs, a, w, hl, hr, hf, hc, h => by
    have in_left : ∀ i, i ∈ left ops listed ↔ i < ops.size ∧ listed.getD i true = false := fun i => by simp [left]
    refine ⟨fun h0 => ?_, fun i hi => ?_⟩
    · cases hle : left ops listed with
      | nil => rw [hle] at hl; simp at hl
      | cons i r =>
        have hi : i ∈ left ops listed := by rw [hle]; simp
        obtain ⟨h1, h2⟩ := (in_left i).1 hi
        have : i ∈ Region.ready .any ops listed := by
          refine mem_ready.2 ⟨h2, ops[i], by simp [h1], fun e he hb => ?_⟩
          have hlt := hedge i ops[i] e (by simp [h1]) (by simpa using he) hb
          have hs := left_sorted (ops := ops) (listed := listed)
          rw [hle] at hs
          have hnot : e.on ∉ left ops listed := fun hh => by
            rw [hle] at hh
            cases hh with
            | head => omega
            | tail _ hh => have := (List.pairwise_cons.1 hs).1 _ hh; omega
          have h3 : ¬ (e.on < ops.size ∧ listed.getD e.on true = false) := fun hh => hnot ((in_left _).2 hh)
          have h4 : listed.getD e.on true = true := by
            cases hx : listed.getD e.on true with
            | true => rfl
            | false => exact absurd ⟨by omega, hx⟩ h3
          have hsz : i < listed.size := by
            rcases Nat.lt_or_ge i listed.size with h5 | h5
            · exact h5
            · rw [Array.getD_eq_getD_getElem?, Array.getElem?_eq_none h5] at h2; simp at h2
          have hes : e.on < listed.size := by omega
          rw [Array.getD_eq_getD_getElem?, Array.getElem?_eq_getElem hes] at h4 ⊢
          simpa using h4
        rw [h0] at this
        simp at this
    · obtain ⟨h1, oi, hoi, h2⟩ := mem_ready.1 hi
      have hil : i ∈ left ops listed := (in_left i).2 ⟨(Array.getElem?_eq_some_iff.1 hoi).1, h1⟩
      obtain ⟨l1, l2, hle⟩ := List.append_of_mem hil
      have hs := left_sorted (ops := ops) (listed := listed)
      rw [hle] at hs hr
      have hlt : ∀ j ∈ l1, j < i := fun j hj => (List.pairwise_append.1 hs).2.2 j hj i (by simp)
      have hc' : Closed ops (fun n => (listed.setIfInBounds i true).getD n false = true) := by
        intro n o e ho hn he hb
        by_cases hni : n = i
        · subst hni
          rw [hoi] at ho; simp at ho; subst ho
          exact getD_set_true (h2 e (by simpa using he) hb)
        · rw [getD_set_ne false (Ne.symm hni)] at hn
          exact getD_set_true (hc n o e ho hn he hb)
      have hbit : ∀ j ∈ l1, ((Region.before ops).getD i 0).testBit j = false := by
        intro j hj
        cases hb : ((Region.before ops).getD i 0).testBit j with
        | false => rfl
        | true =>
          have hji := hlt j hj
          have hsz : i < listed.size := by
            rcases Nat.lt_or_ge i listed.size with h5 | h5
            · exact h5
            · rw [Array.getD_eq_getD_getElem?, Array.getElem?_eq_none h5] at h1; simp at h1
          have := before_closed hb hc' (by simp [hsz])
          rw [getD_set_ne false (by omega)] at this
          have hjl : j ∈ left ops listed := by rw [hle]; simp [hj]
          have hjf := ((in_left j).1 hjl).2
          have hjs : j < listed.size := by omega
          rw [Array.getD_eq_getD_getElem?, Array.getElem?_eq_getElem hjs] at this hjf
          simp at this hjf
          rw [this] at hjf
          simp at hjf
      obtain ⟨fi, s1, hs', h3, h4, h5, _⟩ := bubble hr hf hbit (fun j hj oj oi' hoj hoi' => by
        rcases htmp j i oj oi' (hlt j hj) hoj hoi' with h6 | h6
        · exact h6
        · rw [hbit j hj] at h6; simp at h6)
      refine step_wpOp hT hΓ hd h h3 fun a' w' h' => ?_
      have hleft := left_set hle
      refine any_sound hT hΓ hd htmp hedge hQ fuel _ s1 hs' a' w' ?_ (by rw [hleft]; exact h4) (List.Pairwise.sublist h5 hf) hc' h'
      rw [hleft]
      rw [hle] at hl
      simp at hl ⊢
      omega
end
end Go.GG
