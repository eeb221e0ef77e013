/- The way and its theorem; who has caught up: the plain laws. -/
import Derived.Test.YtnpfogjbebdlfaaA
open Go Go.GG
set_option linter.unusedVariables false
namespace Go.Proofs.Ytnpfogjbebdlfaa.gg
theorem Count_eq {a b : List Int} (ha : a.length ≤ 1048576) (hb : b.length ≤ 1048576) : ref12_Count' a b = some (((a.filter fun x => b.contains x).length : Nat) : Int) := by
  have key := fold_loop a (fun (n : Int) x => bif b.contains x then n + 1 else n) 0 (fun i n => ref12_Count_p8' a b n (i : Int)) (out := fun n => some n) (fun i hi => by
    try dsimp only
    have hl : ((a.take i).filter fun x => b.contains x).length ≤ 1048576 := Nat.le_trans (List.length_filter_le _ _) (by rw [List.length_take]; omega)
    rw [foldl_count, ref12_Count_p8_eq, decide_eq_true (by omega : (i : Int) < (a.length : Int)), at?_lt hi]
    simp only [cond_true, Option.bind_some, Int.zero_add]
    have hl2 : ((a.take i).filter b.contains).length ≤ 1048576 := hl
    rw [In_eq (by omega), wrap_succ (by omega)]
    simp only [Option.bind_some]
    rw [i64_in (by omega) (by omega)]
    cases b.contains a[i] <;> rfl) (by
    try dsimp only
    rw [ref12_Count_p8_eq, decide_eq_false (by omega : ¬ (a.length : Int) < (a.length : Int))]; rfl)
  unfold ref12_Count'
  simp only [show ((0 : Nat) : Int) = 0 from rfl] at key
  rw [key, foldl_count, Int.zero_add]
  rfl
theorem common {a b : List Int} (ha : Rise a) (hb : Rise b) : a.filter (fun x => b.contains x) = b.filter (fun x => a.contains x) := by
  refine (ha.filter _).ext (hb.filter _) fun x => ?_
  simp only [List.mem_filter, List.contains_iff_mem]
  exact ⟨fun h => ⟨h.2, h.1⟩, fun h => ⟨h.2, h.1⟩⟩
theorem Differ_eq {a b : List Int} (ha : Rise a) (hb : Rise b) (hla : a.length ≤ 1048576) (hlb : b.length ≤ 1048576) : ref12_Differ' a b = some ((((newOf a b).length + (newOf b a).length : Nat)) : Int) := by
  unfold ref12_Differ'
  rw [Count_eq hla hlb]
  simp only [Option.bind_some]
  have h1 := filter_len_not (fun x => b.contains x) a
  have h2 := filter_len_not (fun x => a.contains x) b
  have h3 := congrArg List.length (common ha hb)
  rw [i64_in (n := (a.length : Int) + (b.length : Int)) (by omega) (by omega), i64_in (n := 2 * _) (by omega) (by omega), i64_in (by omega) (by omega)]
  congr 1
  unfold newOf
  omega
/-- From some voters one by one to others. -/
structure Good (f : List Int) (o : List (List Int)) (l : List Int) : Prop where
  ne : 0 < o.length
  first : nth o 0 [] = f
  last : nth o (o.length - 1) [] = l
  chain : ∀ i, 0 < i → i < o.length → Vot (nth o i []) ∧ (newOf (nth o (i - 1) []) (nth o i [])).length + (newOf (nth o i []) (nth o (i - 1) [])).length = 1
theorem nth_app {α : Type} {o r : List α} {i : Nat} (h : i < o.length) (d : α) : nth (o ++ r) i d = nth o i d := by
  rw [getD_lt h, getD_lt (by rw [List.length_append]; omega), List.getElem_append_left h]
theorem nth_snoc {α : Type} (o : List α) (x d : α) : nth (o ++ [x]) o.length d = x := by
  rw [getD_lt (by simp)]; simp
theorem Good.snoc {f l x : List Int} {o : List (List Int)} (h : Good f o l) (hx : Vot x) (hd : (newOf l x).length + (newOf x l).length = 1) : Good f (o ++ [x]) x := by
  have hne := h.ne
  refine ⟨by simp, ?_, ?_, fun i h0 hi => ?_⟩
  · rw [nth_app h.ne]; exact h.first
  · rw [List.length_append, List.length_singleton, Nat.add_sub_cancel]; exact nth_snoc o x []
  · rw [List.length_append, List.length_singleton] at hi
    by_cases hlt : i < o.length
    · rw [nth_app hlt, nth_app (by omega)]
      exact h.chain i h0 hlt
    · obtain rfl : i = o.length := by omega
      rw [nth_snoc, nth_app (by omega), h.last]
      exact ⟨hx, hd⟩
theorem add_one {l : List Int} {n : Int} (h : Rise l) (hn : n ∉ l) : (newOf l (addI l n)).length + (newOf (addI l n) l).length = 1 := by
  have h1 : newOf l (addI l n) = [n] := by
    refine (rise_newOf (rise_addI h hn)).ext (by simp) fun x => ?_
    rw [mem_newOf, mem_addI, List.mem_singleton]
    constructor
    · rintro ⟨h1 | h1, h2⟩
      · exact absurd h1 h2
      · exact h1
    · rintro rfl; exact ⟨.inr rfl, hn⟩
  have h2 : newOf (addI l n) l = [] := by
    cases hx : newOf (addI l n) l with
    | nil => rfl
    | cons x r =>
      have : x ∈ newOf (addI l n) l := by rw [hx]; simp
      rw [mem_newOf, mem_addI] at this
      exact absurd (.inl this.1) this.2
  rw [h1, h2]; rfl
theorem out_one {l : List Int} {n : Int} (h : Rise l) (hn : n ∈ l) : (newOf l (outI l n)).length + (newOf (outI l n) l).length = 1 := by
  have h1 : newOf (outI l n) l = [n] := by
    refine (rise_newOf h).ext (by simp) fun x => ?_
    rw [mem_newOf, mem_outI, List.mem_singleton]
    constructor
    · rintro ⟨h1, h2⟩
      by_cases e : x = n
      · exact e
      · exact absurd ⟨h1, e⟩ h2
    · rintro rfl; exact ⟨hn, fun hh => hh.2 rfl⟩
  have h2 : newOf l (outI l n) = [] := by
    cases hx : newOf l (outI l n) with
    | nil => rfl
    | cons x r =>
      have : x ∈ newOf l (outI l n) := by rw [hx]; simp
      rw [mem_newOf, mem_outI] at this
      exact absurd this.1.1 this.2
  rw [h1, h2]; rfl
theorem adds_all {f : List Int} : ∀ (L : List Int) (s : List Int × List (List Int)), Vot s.1 → L.Nodup → (∀ x ∈ L, (1 ≤ x ∧ x ≤ 7) ∧ x ∉ s.1) →
    Vot (L.foldl goAdd s).1 ∧ (∀ x, x ∈ (L.foldl goAdd s).1 ↔ x ∈ s.1 ∨ x ∈ L) ∧ (L.foldl goAdd s).2.length = s.2.length + L.length ∧ (∃ r, (L.foldl goAdd s).2 = s.2 ++ r) ∧ (Good f s.2 s.1 → Good f (L.foldl goAdd s).2 (L.foldl goAdd s).1)
  | [], s, hv, _, _ => ⟨hv, by simp, by simp, ⟨[], by simp⟩, fun h => h⟩
  | n :: L, s, hv, hn, hL => by
    obtain ⟨hb, hns⟩ := hL n (by simp)
    have hnd := List.nodup_cons.1 hn
    obtain ⟨h1, h2, h3, ⟨r, h4⟩, h5⟩ := adds_all (f := f) L (goAdd s n) (vot_add hv hb.1 hb.2 hns) hnd.2 (fun x hx => ⟨(hL x (by simp [hx])).1, fun hh => by
      rcases mem_addI.1 hh with hh | rfl
      · exact (hL x (by simp [hx])).2 hh
      · exact hnd.1 hx⟩)
    rw [List.foldl_cons]
    refine ⟨h1, fun x => ?_, ?_, ⟨[addI s.1 n] ++ r, ?_⟩, fun hg => h5 (hg.snoc (vot_add hv hb.1 hb.2 hns) (add_one hv.rise hns))⟩
    · rw [h2, goAdd, mem_addI, List.mem_cons]
      constructor
      · rintro ((h | h) | h)
        · exact .inl h
        · exact .inr (.inl h)
        · exact .inr (.inr h)
      · rintro (h | h | h)
        · exact .inl (.inl h)
        · exact .inl (.inr h)
        · exact .inr h
    · rw [h3]; simp [goAdd]; omega
    · rw [h4]; simp [goAdd]
theorem outs_all {f : List Int} {m : Int} : ∀ (M : List Int) (s : List Int × List (List Int)), Vot s.1 → M.Nodup → m ∈ s.1 → m ∉ M → (∀ x ∈ M, x ∈ s.1) →
    Vot (M.foldl goOut s).1 ∧ (∀ x, x ∈ (M.foldl goOut s).1 ↔ x ∈ s.1 ∧ x ∉ M) ∧ (M.foldl goOut s).2.length = s.2.length + M.length ∧ (∃ r, (M.foldl goOut s).2 = s.2 ++ r) ∧ (Good f s.2 s.1 → Good f (M.foldl goOut s).2 (M.foldl goOut s).1)
  | [], s, hv, _, _, _, _ => ⟨hv, by simp, by simp, ⟨[], by simp⟩, fun h => h⟩
  | n :: M, s, hv, hn, hm, hmM, hM => by
    have hns := hM n (by simp)
    have hnd := List.nodup_cons.1 hn
    have hne : m ≠ n := fun e => hmM (by simp [e])
    obtain ⟨h1, h2, h3, ⟨r, h4⟩, h5⟩ := outs_all (f := f) M (goOut s n) (vot_out hv hm hne) hnd.2 (mem_outI.2 ⟨hm, hne⟩) (fun h => hmM (by simp [h])) (fun x hx => mem_outI.2 ⟨hM x (by simp [hx]), fun e => hnd.1 (e ▸ hx)⟩)
    rw [List.foldl_cons]
    refine ⟨h1, fun x => ?_, ?_, ⟨[outI s.1 n] ++ r, ?_⟩, fun hg => h5 (hg.snoc (vot_out hv hm hne) (out_one hv.rise hns))⟩
    · rw [h2, goOut, mem_outI, List.mem_cons]
      constructor
      · rintro ⟨⟨h, h'⟩, h''⟩
        exact ⟨h, fun hh => hh.elim h' h''⟩
      · rintro ⟨h, h'⟩
        exact ⟨⟨h, fun e => h' (.inl e)⟩, fun e => h' (.inr e)⟩
    · rw [h3]; simp [goOut]; omega
    · rw [h4]; simp [goOut]
theorem good_one (f : List Int) : Good f [f] f := ⟨by simp, rfl, rfl, fun i h0 hi => by simp at hi; omega⟩
structure Way (f t : List Int) : Prop where
  good : Good f (wayOf f t) t
  len : (wayOf f t).length = 1 + (newOf f t).length + (newOf t f).length
  next : (stepF f t).2 = true → nth (wayOf f t) 1 [] = (stepF f t).1
  more : (stepF f t).2 = decide (1 < (wayOf f t).length)
theorem way_all {f t : List Int} (hf : Vot f) (ht : Vot t) : Way f t := by
  obtain ⟨m, hm⟩ : ∃ m, m ∈ t := ⟨t[0]'ht.ne, List.getElem_mem ht.ne⟩
  obtain ⟨a1, a2, a3, ⟨r, a4⟩, a5⟩ := adds_all (f := f) (newOf f t) (f, [f]) hf (rise_newOf ht.rise).nodup (fun x hx => ⟨ht.each x (mem_newOf.1 hx).1, (mem_newOf.1 hx).2⟩)
  obtain ⟨b1, b2, b3, ⟨r', b4⟩, b5⟩ := outs_all (f := f) (m := m) (newOf t f) ((newOf f t).foldl goAdd (f, [f])) a1 (rise_newOf hf.rise).nodup ((a2 m).2 (by
      by_cases h : m ∈ f
      · exact .inl h
      · exact .inr (mem_newOf.2 ⟨hm, h⟩))) (fun h => (mem_newOf.1 h).2 hm) (fun x hx => (a2 x).2 (.inl (mem_newOf.1 hx).1))
  have hlast : ((newOf t f).foldl goOut ((newOf f t).foldl goAdd (f, [f]))).1 = t := by
    refine b1.rise.ext ht.rise fun x => ?_
    rw [b2, a2]
    simp only [mem_newOf]
    constructor
    · rintro ⟨h | h, h2⟩
      · by_cases hx : x ∈ t
        · exact hx
        · exact absurd ⟨h, hx⟩ h2
      · exact h.1
    · intro hx
      refine ⟨?_, fun h => h.2 hx⟩
      by_cases h : x ∈ f
      · exact .inl h
      · exact .inr ⟨hx, h⟩
  have hg := b5 (a5 (good_one f))
  rw [hlast] at hg
  have hlen : (wayOf f t).length = 1 + (newOf f t).length + (newOf t f).length := by
    unfold wayOf
    rw [b3, a3]; simp
  refine ⟨hg, hlen, fun hs => ?_, ?_⟩
  · unfold stepF at hs ⊢
    unfold wayOf
    rw [b4]
    cases hL : newOf f t with
    | cons n L =>
      have hnd := List.nodup_cons.1 (hL ▸ (rise_newOf (f := f) ht.rise).nodup : (n :: L).Nodup)
      have hn : n ∈ newOf f t := by rw [hL]; simp
      have hb := ht.each n (mem_newOf.1 hn).1
      obtain ⟨_, _, _, ⟨q, hq⟩, _⟩ := adds_all (f := f) L (goAdd (f, [f]) n) (vot_add hf hb.1 hb.2 (mem_newOf.1 hn).2) hnd.2 (fun x hx => by
        have hx' : x ∈ newOf f t := by rw [hL]; simp [hx]
        refine ⟨ht.each x (mem_newOf.1 hx').1, fun hh => ?_⟩
        rcases mem_addI.1 hh with hh | rfl
        · exact (mem_newOf.1 hx').2 hh
        · exact hnd.1 hx)
      rw [List.foldl_cons, hq]
      rfl
    | nil =>
      rw [hL] at b4 hs
      cases hM : newOf t f with
      | nil => rw [hM] at hs; cases hs
      | cons n M =>
        rw [hM] at b4
        have hnd := List.nodup_cons.1 (hM ▸ (rise_newOf (f := t) hf.rise).nodup : (n :: M).Nodup)
        have hn : n ∈ newOf t f := by rw [hM]; simp
        have hmf : m ∈ f := newOf_nil hL m hm
        have hne : m ≠ n := fun e => (mem_newOf.1 hn).2 (e ▸ hm)
        obtain ⟨_, _, _, ⟨q, hq⟩, _⟩ := outs_all (f := f) (m := m) M (goOut (f, [f]) n) (vot_out hf hmf hne) hnd.2 (mem_outI.2 ⟨hmf, hne⟩) (fun h => (mem_newOf.1 (hM ▸ (by simp [h]) : m ∈ newOf t f)).2 hm) (fun x hx => mem_outI.2 ⟨(mem_newOf.1 (hM ▸ (by simp [hx]) : x ∈ newOf t f)).1, fun e => hnd.1 (e ▸ hx)⟩)
        rw [← b4, List.foldl_nil]
        show nth (M.foldl goOut (goOut (f, [f]) n)).2 1 [] = _
        rw [hq]
        rfl
  · rw [hlen]
    unfold stepF
    cases hL : newOf f t with
    | cons n L => simp only [List.length_cons]; rw [decide_eq_true (by omega)]
    | nil =>
      cases hM : newOf t f with
      | cons n M => simp only [List.length_cons, List.length_nil]; rw [decide_eq_true (by omega)]
      | nil => rfl
theorem Way.each {f t : List Int} (h : Way f t) (hf : Vot f) : ∀ i, i < (wayOf f t).length → Vot (nth (wayOf f t) i []) := by
  intro i hi
  by_cases h0 : i = 0
  · subst h0; rw [h.good.first]; exact hf
  · exact (h.good.chain i (by omega) hi).1
theorem awake15_eq : law15_awake' = some true := law15_awake_lm.of_some 60 (by decide +kernel)
theorem law_ConfSafe (f t : List Int) (hf : f.length ≤ 1048576) (ht : t.length ≤ 1048576) : ∃ k, law15_ConfSafe k f t = some true := by
  refine (law15_ConfSafe_lm f t).fin ?_
  unfold law15_ConfSafe'
  rw [awake15_eq, Way_eq hf ht]
  cases hv : (vot f && vot t) with
  | false => rfl
  | true =>
    rw [Bool.and_eq_true, vot_iff, vot_iff] at hv
    obtain ⟨hvf, hvt⟩ := hv
    have W := way_all hvf hvt
    have n1 := newOf_len f t
    have n2 := newOf_len t f
    have l1 := hvf.len
    have l2 := hvt.len
    have hlen := W.len
    simp only [cond_true, Option.bind_some, bne_self_eq_false, cond_false]
    rw [Differ_eq hvf.rise hvt.rise hf ht]
    simp only [Option.bind_some]
    rw [i64_in (n := 1 + _) (by omega) (by omega), show (((wayOf f t).length : Int) != 1 + (((newOf f t).length + (newOf t f).length : Nat) : Int)) = false by rw [bne_eq_false_iff_eq]; omega]
    simp only [cond_false]
    rw [show decide ((0 : Int) ≤ 0) = true from rfl, decide_eq_true (by omega : (0 : Int) < ((wayOf f t).length : Int)), show Int.toNat 0 = 0 from rfl, get?_getD (by omega : 0 < (wayOf f t).length) [], W.good.first]
    simp only [Bool.and_self, cond_true, Option.bind_some]
    rw [Ints_eq (by omega), decide_eq_true rfl]
    simp only [Option.bind_some, Bool.not_true, cond_false]
    rw [i64_in (n := ((wayOf f t).length : Int) - 1) (by omega) (by omega), decide_eq_true (by omega), decide_eq_true (by omega), show Int.toNat (((wayOf f t).length : Int) - 1) = (wayOf f t).length - 1 by omega, get?_getD (by omega : (wayOf f t).length - 1 < (wayOf f t).length) [], W.good.last]
    simp only [Bool.and_self, cond_true, Option.bind_some]
    rw [Ints_eq (by omega), decide_eq_true rfl]
    simp only [Option.bind_some, Bool.not_true, cond_false]
    have key := check_loop ((wayOf f t).length - 1) (fun i => law15_ConfSafe_p24' ((i + 1 : Nat) : Int) (wayOf f t)) (fun _ => true) (a := some (.inl ())) (b := some (.inr false)) (fun i hi => by
      try dsimp only
      have hc := W.good.chain (i + 1) (by omega) (by omega)
      rw [Nat.add_sub_cancel] at hc
      have v1 := W.each hvf i (by omega)
      have h7 := v1.len
      have h7' := hc.1.len
      rw [law15_ConfSafe_p24_eq, decide_eq_true (by omega : ((i + 1 : Nat) : Int) < ((wayOf f t).length : Int)), decide_eq_true (by omega : (0 : Int) ≤ ((i + 1 : Nat) : Int)), Int.toNat_natCast, get?_getD (by omega : i + 1 < (wayOf f t).length) []]
      simp only [Bool.and_self, cond_true, Option.bind_some]
      rw [Voters_eq (by omega), vot_iff.2 hc.1]
      simp only [Option.bind_some, Bool.not_true, cond_false]
      rw [wrap_pred (by omega) (by omega), Nat.add_sub_cancel, decide_eq_true (by omega : (0 : Int) ≤ (i : Int)), decide_eq_true (by omega : (i : Int) < ((wayOf f t).length : Int)), Int.toNat_natCast, get?_getD (by omega : i < (wayOf f t).length) []]
      simp only [Bool.and_self, cond_true, Option.bind_some]
      rw [Differ_eq v1.rise hc.1.rise (by omega) (by omega), hc.2]
      simp only [Option.bind_some]
      rw [wrap_succ (by omega)]
      rfl) (by
      try dsimp only
      rw [show (wayOf f t).length - 1 + 1 = (wayOf f t).length by omega, law15_ConfSafe_p24_eq, decide_eq_false (by omega)]; rfl)
    simp only [show ((0 + 1 : Nat) : Int) = 1 from rfl] at key
    rw [key, allB_iff.2 fun _ _ => rfl]
    rfl
theorem foldl_cond {α S : Type} (p : α → Bool) (g : S → α → S) : ∀ (l : List α) (s : S), l.foldl (fun s x => bif p x then g s x else s) s = (l.filter p).foldl g s
  | [], s => rfl
  | x :: l, s => by
    rw [List.foldl_cons, foldl_cond p g l]
    cases hp : p x <;> simp [hp]
theorem take_upTo {n i : Nat} (h : i ≤ n) : (upTo n).take i = upTo i := by
  unfold upTo
  rw [← List.map_take, List.take_range, Nat.min_eq_left h]
theorem p41_eq (f t l : List Int) (n : Int) (k : Int) (hk : k = 0 ∨ k = 1) (a b : Bool) (o : List (List Int)) :
    ref15_Way_p41' f t l k n a b o = some (f, t, l, k, n, (bif k == 0 then b && !a else a && !b), o) := by
  unfold ref15_Way_p41'
  rcases hk with rfl | rfl <;> cases a <;> cases b <;> rfl
theorem refAdds {f t : List Int} (hf : Vot f) (ht : Vot t) : ref15_Way_p30' f t f 0 1 [f] = some (f, t, ((newOf f t).foldl goAdd (f, [f])).1, 0, ((newOf f t).foldl goAdd (f, [f])).2) := by
  have l1 := hf.len
  have l2 := ht.len
  have hsub : ∀ i, ∀ x ∈ (upTo i).filter (fun x => t.contains x && !f.contains x), x ∈ t ∧ x ∉ f ∧ x ≤ i := by
    intro i x hx
    rw [List.mem_filter, mem_upTo] at hx
    simp only [Bool.and_eq_true, Bool.not_eq_true', List.contains_iff_mem] at hx
    exact ⟨hx.2.1, by simpa using hx.2.2, hx.1.2⟩
  have key := fold_loop (upTo 7) (fun (s : List Int × List (List Int)) x => bif (t.contains x && !f.contains x) then goAdd s x else s) (f, [f]) (fun i s => ref15_Way_p30' f t s.1 0 ((i + 1 : Nat) : Int) s.2) (out := fun s => some (f, t, s.1, 0, s.2)) (fun i hi => by
    try dsimp only
    rw [upTo_len] at hi
    rw [upTo_get (by rw [upTo_len]; exact hi), foldl_cond, take_upTo (by omega)]
    obtain ⟨a1, a2, a3, _, _⟩ := adds_all (f := f) ((upTo i).filter (fun x => t.contains x && !f.contains x)) (f, [f]) hf ((rise_upTo i).filter _).nodup (fun x hx => ⟨ht.each x (hsub i x hx).1, (hsub i x hx).2.1⟩)
    have hli : ((upTo i).filter (fun x => t.contains x && !f.contains x)).length ≤ i := by
      refine Nat.le_trans (List.length_filter_le _ _) ?_
      rw [upTo_len]; omega
    generalize hS : ((upTo i).filter (fun x => t.contains x && !f.contains x)).foldl goAdd (f, [f]) = S at *
    rw [ref15_Way_p30_eq, decide_eq_true (by omega), In_eq (by omega), In_eq (by omega)]
    simp only [cond_true, Option.bind_some, p41_eq f t S.1 _ 0 (.inl rfl)]
    rw [show ((0 : Int) == 0) = true from rfl]
    simp only [cond_true]
    cases hc : (t.contains ((i + 1 : Nat) : Int) && !f.contains ((i + 1 : Nat) : Int)) with
    | false =>
      simp only [cond_false]
      rw [wrap_succ (by omega)]
    | true =>
      have hc2 := hc
      simp only [Bool.and_eq_true, Bool.not_eq_true', List.contains_iff_mem] at hc2
      have hb := ht.each _ hc2.1
      have hns : ((i + 1 : Nat) : Int) ∉ S.1 := by
        rw [a2]
        rintro (h | h)
        · have := hc2.2; simp at this; exact this h
        · have := (hsub i _ h).2.2; omega
      simp only [cond_true]
      rw [rNext_eq a1 hb.1 hb.2, show S.1.contains ((i + 1 : Nat) : Int) = false by simpa using hns]
      simp only [Option.bind_some]
      rw [show (false == true) = false from rfl]
      simp only [cond_false, cond_true]
      rw [room_of (by rw [List.length_append, List.length_singleton, a3]; simp only [List.length_singleton]; omega), wrap_succ (by omega)]
      rfl) (by
    try dsimp only
    rw [upTo_len, ref15_Way_p30_eq, decide_eq_false (by omega)]; rfl)
  try dsimp only at key
  simp only [show ((0 + 1 : Nat) : Int) = 1 from rfl] at key
  rw [key, foldl_cond]
  have he : (upTo 7).filter (fun x => t.contains x && !f.contains x) = newOf f t := by
    refine ((rise_upTo 7).filter _).ext (rise_newOf ht.rise) fun x => ?_
    rw [List.mem_filter, mem_upTo, mem_newOf]
    simp only [Bool.and_eq_true, Bool.not_eq_true', List.contains_iff_mem]
    constructor
    · rintro ⟨_, h1, h2⟩; exact ⟨h1, by simpa using h2⟩
    · rintro ⟨h1, h2⟩; exact ⟨ht.each x h1, h1, by simpa using h2⟩
  rw [he]
theorem refOuts {f t : List Int} {s0 : List Int × List (List Int)} (hf : Vot f) (ht : Vot t) (hs : Vot s0.1) (hm : ∀ x, x ∈ s0.1 ↔ x ∈ f ∨ x ∈ t) (ho : s0.2.length ≤ 100) :
    ref15_Way_p30' f t s0.1 1 1 s0.2 = some (f, t, ((newOf t f).foldl goOut s0).1, 1, ((newOf t f).foldl goOut s0).2) := by
  have l1 := hf.len
  have l2 := ht.len
  obtain ⟨m, hmt⟩ : ∃ m, m ∈ t := ⟨t[0]'ht.ne, List.getElem_mem ht.ne⟩
  have hsub : ∀ i, ∀ x ∈ (upTo i).filter (fun x => f.contains x && !t.contains x), x ∈ f ∧ x ∉ t ∧ x ≤ i := by
    intro i x hx
    rw [List.mem_filter, mem_upTo] at hx
    simp only [Bool.and_eq_true, Bool.not_eq_true', List.contains_iff_mem] at hx
    exact ⟨hx.2.1, by simpa using hx.2.2, hx.1.2⟩
  have key := fold_loop (upTo 7) (fun (s : List Int × List (List Int)) x => bif (f.contains x && !t.contains x) then goOut s x else s) s0 (fun i s => ref15_Way_p30' f t s.1 1 ((i + 1 : Nat) : Int) s.2) (out := fun s => some (f, t, s.1, 1, s.2)) (fun i hi => by
    try dsimp only
    rw [upTo_len] at hi
    rw [upTo_get (by rw [upTo_len]; exact hi), foldl_cond, take_upTo (by omega)]
    obtain ⟨a1, a2, a3, _, _⟩ := outs_all (f := f) (m := m) ((upTo i).filter (fun x => f.contains x && !t.contains x)) s0 hs ((rise_upTo i).filter _).nodup ((hm m).2 (.inr hmt)) (fun h => (hsub i m h).2.1 hmt) (fun x hx => (hm x).2 (.inl (hsub i x hx).1))
    have hli : ((upTo i).filter (fun x => f.contains x && !t.contains x)).length ≤ i := by
      refine Nat.le_trans (List.length_filter_le _ _) ?_
      rw [upTo_len]; omega
    have hmi : m ∉ (upTo i).filter (fun x => f.contains x && !t.contains x) := fun h => (hsub i m h).2.1 hmt
    generalize hS : ((upTo i).filter (fun x => f.contains x && !t.contains x)).foldl goOut s0 = S at *
    rw [ref15_Way_p30_eq, decide_eq_true (by omega), In_eq (by omega), In_eq (by omega)]
    simp only [cond_true, Option.bind_some, p41_eq f t S.1 _ 1 (.inr rfl)]
    rw [show ((1 : Int) == 0) = false from rfl]
    simp only [cond_false]
    cases hc : (f.contains ((i + 1 : Nat) : Int) && !t.contains ((i + 1 : Nat) : Int)) with
    | false =>
      simp only [cond_false]
      rw [wrap_succ (by omega)]
    | true =>
      have hc2 := hc
      simp only [Bool.and_eq_true, Bool.not_eq_true', List.contains_iff_mem] at hc2
      have hb := hf.each _ hc2.1
      have hnt : ((i + 1 : Nat) : Int) ∉ t := by have := hc2.2; simpa using this
      have hns : ((i + 1 : Nat) : Int) ∈ S.1 := by
        rw [a2]
        exact ⟨(hm _).2 (.inl hc2.1), fun h => by have := (hsub i _ h).2.2; omega⟩
      have hms : m ∈ S.1 := (a2 m).2 ⟨(hm m).2 (.inr hmt), hmi⟩
      have hlen : ((S.1.length : Int) == 1) = false := by
        rw [beq_eq_false_iff_ne]
        intro e
        have h2 := (List.nodup_cons.2 ⟨by simpa using (fun e => hnt (e ▸ hmt) : ¬ ((i + 1 : Nat) : Int) = m), by simp⟩ : ([((i + 1 : Nat) : Int), m] : List Int).Nodup).length_le_of_subset (l₂ := S.1) (by
          intro y hy
          simp only [List.mem_cons, List.not_mem_nil, or_false] at hy
          rcases hy with rfl | rfl
          · exact hns
          · exact hms)
        simp only [List.length_cons, List.length_nil] at h2
        omega
      simp only [cond_true]
      rw [rNext_eq a1 hb.1 hb.2, show S.1.contains ((i + 1 : Nat) : Int) = true by simpa using hns, hlen]
      simp only [Option.bind_some]
      rw [show (true == false) = false from rfl]
      simp only [cond_false]
      rw [room_of (by rw [List.length_append, List.length_singleton, a3]; omega), wrap_succ (by omega)]
      rfl) (by
    try dsimp only
    rw [upTo_len, ref15_Way_p30_eq, decide_eq_false (by omega)]; rfl)
  try dsimp only at key
  simp only [show ((0 + 1 : Nat) : Int) = 1 from rfl] at key
  rw [key, foldl_cond]
  have he : (upTo 7).filter (fun x => f.contains x && !t.contains x) = newOf t f := by
    refine ((rise_upTo 7).filter _).ext (rise_newOf hf.rise) fun x => ?_
    rw [List.mem_filter, mem_upTo, mem_newOf]
    simp only [Bool.and_eq_true, Bool.not_eq_true', List.contains_iff_mem]
    constructor
    · rintro ⟨_, h1, h2⟩; exact ⟨h1, by simpa using h2⟩
    · rintro ⟨h1, h2⟩; exact ⟨hf.each x h1, h1, by simpa using h2⟩
  rw [he]
theorem refWay_eq {f t : List Int} (hf : f.length ≤ 1048576) (ht : t.length ≤ 1048576) : ref15_Way' f t = some (bif vot f && vot t then (wayOf f t, 0) else ([], 1)) := by
  unfold ref15_Way'
  rw [Voters_eq (by omega), Voters_eq (by omega)]
  simp only [Option.bind_some]
  cases h1 : vot f <;> cases h2 : vot t <;> try rfl
  have hvf := vot_iff.1 h1
  have hvt := vot_iff.1 h2
  have l1 := hvf.len
  have l2 := hvt.len
  have n1 := newOf_len f t
  obtain ⟨a1, a2, a3, _, _⟩ := adds_all (f := f) (newOf f t) (f, [f]) hvf (rise_newOf hvt.rise).nodup (fun x hx => ⟨hvt.each x (mem_newOf.1 hx).1, (mem_newOf.1 hx).2⟩)
  simp only [Bool.not_true, cond_false, Bool.and_self, cond_true]
  rw [ref15_Way_p18_eq, show decide ((0 : Int) < 2) = true from rfl, refAdds hvf hvt]
  simp only [cond_true, Option.bind_some]
  rw [show IntKind.wrap .i64 (0 + 1) = 1 from by decide, ref15_Way_p18_eq, show decide ((1 : Int) < 2) = true from rfl]
  rw [refOuts hvf hvt a1 (fun x => by
    rw [a2, mem_newOf]
    constructor
    · rintro (h | h)
      · exact .inl h
      · exact .inr h.1
    · rintro (h | h)
      · exact .inl h
      · by_cases hx : x ∈ f
        · exact .inl hx
        · exact .inr ⟨h, hx⟩) (by rw [a3]; simp only [List.length_singleton]; omega)]
  simp only [cond_true, Option.bind_some]
  rw [show IntKind.wrap .i64 (1 + 1) = 2 from by decide, ref15_Way_p18_eq, show decide ((2 : Int) < 2) = false from rfl]
  rfl
theorem Step_bad {f t : List Int} (hf : f.length ≤ 1048576) (ht : t.length ≤ 1048576) (h : (vot f && vot t) = false) : conf_Step' f t = some ([], false, 1) := by
  unfold conf_Step'
  rw [qCheck_eq (by omega), qCheck_eq (by omega)]
  simp only [Option.bind_some]
  cases h1 : vot f <;> cases h2 : vot t <;> try rfl
  rw [h1, h2] at h; cases h
theorem step_stay {f t : List Int} (hs : (stepF f t).2 = false) : (stepF f t).1 = f := by
  unfold stepF at hs ⊢
  split at hs
  · cases hs
  · split at hs
    · cases hs
    · rfl
theorem law_ConfWays (f t : List Int) (hf : f.length ≤ 1048576) (ht : t.length ≤ 1048576) : ∃ k, law15_ConfWays k f t = some true := by
  refine (law15_ConfWays_lm f t).fin ?_
  unfold law15_ConfWays'
  rw [awake15_eq, Way_eq hf ht, refWay_eq hf ht, Learners_eq hf ht]
  cases hv : (vot f && vot t) with
  | false => rw [Step_bad hf ht hv]; rfl
  | true =>
    rw [Bool.and_eq_true, vot_iff, vot_iff] at hv
    obtain ⟨hvf, hvt⟩ := hv
    have W := way_all hvf hvt
    have n1 := newOf_len f t
    have n2 := newOf_len t f
    have l1 := hvf.len
    have l2 := hvt.len
    have hlen := W.len
    have hr := rise_newOf (f := f) hvt.rise
    rw [Step_eq hvf hvt]
    simp only [cond_true, Option.bind_some, bne_self_eq_false, cond_false]
    have key := check_loop (wayOf f t).length (fun i => law15_ConfWays_p30' f t (stepF f t).2 (i : Int) (wayOf f t) (wayOf f t) (stepF f t).1 (newOf f t)) (fun _ => true) (a := some (.inl (f, t, (stepF f t).2, wayOf f t, (stepF f t).1, newOf f t))) (b := some (.inr false)) (fun i hi => by
      try dsimp only
      have h7 := (W.each hvf i hi).len
      rw [law15_ConfWays_p30_eq, decide_eq_true (by omega : (i : Int) < ((wayOf f t).length : Int)), decide_eq_true (by omega : (0 : Int) ≤ (i : Int)), Int.toNat_natCast, get?_getD hi []]
      simp only [Bool.and_self, cond_true, Option.bind_some]
      rw [Ints_eq (by omega), decide_eq_true rfl, wrap_succ (by omega)]
      rfl) (by
      try dsimp only
      rw [law15_ConfWays_p30_eq, decide_eq_false (by omega)]; rfl)
    simp only [show ((0 : Nat) : Int) = 0 from rfl] at key
    rw [key, allB_iff.2 fun _ _ => rfl]
    simp only [cond_true, Option.bind_some, Sum.elim_inl]
    have key2 := check_loop (newOf f t).length (fun i => law15_ConfWays_p51' f t (stepF f t).2 (i : Int) (wayOf f t) (stepF f t).1 (newOf f t)) (fun _ => true) (a := some (.inl (f, t, (stepF f t).2, wayOf f t, (stepF f t).1, newOf f t))) (b := some (.inr false)) (fun i hi => by
      try dsimp only
      have hm : nth (newOf f t) i 0 ∈ newOf f t := by rw [getD_lt hi]; exact List.getElem_mem hi
      obtain ⟨m1, m2⟩ := mem_newOf.1 hm
      rw [law15_ConfWays_p51_eq, decide_eq_true (by omega : (i : Int) < ((newOf f t).length : Int)), decide_eq_true (by omega : (0 : Int) ≤ (i : Int)), Int.toNat_natCast, get?_getD hi (0 : Int)]
      simp only [Bool.and_self, cond_true, Option.bind_some]
      rw [In_eq (by omega), In_eq (by omega), show f.contains (nth (newOf f t) i 0) = false by simpa using m2, show t.contains (nth (newOf f t) i 0) = true by simpa using m1]
      simp only [Option.bind_some, cond_false, Bool.not_true]
      by_cases h0 : i = 0
      · rw [decide_eq_false (by omega : ¬ (i : Int) > 0), wrap_succ (by omega)]; rfl
      · rw [decide_eq_true (by omega : (i : Int) > 0), wrap_pred (by omega) (by omega), decide_eq_true (by omega), decide_eq_true (by omega), Int.toNat_natCast, get?_getD (by omega : i - 1 < (newOf f t).length) (0 : Int)]
        simp only [Bool.and_self, cond_true, Option.bind_some]
        have h3 : nth (newOf f t) (i - 1) 0 < nth (newOf f t) i 0 := by
          rw [getD_lt hi, getD_lt (by omega : i - 1 < (newOf f t).length)]
          exact List.pairwise_iff_getElem.1 hr (i - 1) i (by omega) hi (by omega)
        rw [decide_eq_false (by omega), wrap_succ (by omega)]; rfl) (by
      try dsimp only
      rw [law15_ConfWays_p51_eq, decide_eq_false (by omega)]; rfl)
    simp only [show ((0 : Nat) : Int) = 0 from rfl] at key2
    rw [key2, allB_iff.2 fun _ _ => rfl]
    simp only [cond_true, Option.bind_some, Sum.elim_inl]
    rw [Count_eq ht hf]
    simp only [Option.bind_some]
    have hcl := filter_len_not (fun x => f.contains x) t
    have e1 : (((newOf f t).length : Int) != IntKind.wrap .i64 ((t.length : Int) - (((t.filter fun x => f.contains x).length : Nat) : Int))) = false := by
      rw [i64_in (by omega) (by omega), bne_eq_false_iff_eq]
      unfold newOf; omega
    rw [e1]
    have hmore := W.more
    cases hs : (stepF f t).2 with
    | false =>
      rw [hs] at hmore
      have : ¬ (1 < (wayOf f t).length) := by simpa using hmore.symm
      rw [decide_eq_false (by omega)]
      rw [step_stay hs, Ints_eq (by omega), decide_eq_true rfl]
      rfl
    | true =>
      rw [hs] at hmore
      have h1 : 1 < (wayOf f t).length := by simpa using hmore.symm
      have h7 := (W.each hvf 1 h1).len
      rw [W.next hs] at h7
      rw [decide_eq_true (by omega : ((wayOf f t).length : Int) > 1), show decide ((0 : Int) ≤ 1) = true from rfl, show Int.toNat 1 = 1 from rfl, get?_getD h1 [], W.next hs]
      simp only [Bool.and_self, cond_true, Option.bind_some, beq_self_eq_true, Bool.not_true, cond_false]
      rw [Ints_eq (by omega), decide_eq_true rfl]
      rfl
def caughtOf (m c l : Int) : Bool := decide (c ≤ m) || decide (l - m ≤ 8)
theorem refCaught_in {m l : Int} (hm : 0 ≤ m ∧ m < 18446744073709551616) (hl : 0 ≤ l ∧ l < 18446744073709551616) : ref15_Caught_p32' l m 0 = some (bif decide (l - m ≤ 8) then .inr true else .inl ()) := by
  have key := any_loop (List.range 9) (fun i => decide (l ≤ m + (i : Int))) (fun i => ref15_Caught_p32' l m (i : Int)) (b := some (.inr true)) (a := some (.inl ())) (fun i hi => by
    try dsimp only
    rw [List.length_range] at hi
    rw [List.getElem_range, ref15_Caught_p32_eq, decide_eq_true (by omega), u64_in (n := (i : Int)) (by omega) (by omega), wrap_succ (by omega)]
    simp only [cond_true]
    by_cases ho : m + (i : Int) < 18446744073709551616
    · rw [u64_in (by omega) ho, decide_eq_false (by omega)]
      rfl
    · have : IntKind.wrap .u64 (m + (i : Int)) = m + i - 18446744073709551616 := by rw [wrap_u64]; omega
      rw [this, decide_eq_true (by omega : m + (i : Int) - 18446744073709551616 < m), decide_eq_true (by omega : l ≤ m + (i : Int))]
      rfl) (by
    try dsimp only
    rw [List.length_range, ref15_Caught_p32_eq]; rfl)
  simp only [show ((0 : Nat) : Int) = 0 from rfl] at key
  rw [key]
  have : (List.range 9).any (fun i => decide (l ≤ m + (i : Int))) = decide (l - m ≤ 8) := by
    rw [Bool.eq_iff_iff, List.any_eq_true, decide_eq_true_eq]
    constructor
    · rintro ⟨i, hi, h⟩
      rw [List.mem_range] at hi
      rw [decide_eq_true_eq] at h
      omega
    · intro h
      exact ⟨8, by simp, by rw [decide_eq_true_eq]; omega⟩
  rw [this]
  cases decide (l - m ≤ 8) <;> rfl
theorem caught_same {ps : List Pr} {n : Int} {x : Int × Int} (hl : ps.length ≤ 1048576) (hp : ∀ p ∈ ps, 0 ≤ p.2.2 ∧ p.2.2 < 18446744073709551616) (h2 : 0 ≤ x.2 ∧ x.2 < 18446744073709551616) :
    conf_Caught' ps n x.1 x.2 = ref15_Caught' ps n x.1 x.2 := by
  have key := index_loop ps (fun p => p.1 == n) (fun i => ref15_Caught_p6' ps n x.1 x.2 (i : Int)) (f := fun i => (at? ps (i : Int)).bind fun e => some (.inr (caughtOf e.2.2 x.1 x.2))) (a := some (.inl ())) (fun i hi => by
    try dsimp only
    have hb := hp _ (List.getElem_mem hi)
    rw [ref15_Caught_p6_eq, decide_eq_true (by omega : (i : Int) < (ps.length : Int)), at?_lt hi, wrap_succ (by omega)]
    simp only [cond_true, Option.bind_some]
    cases (ps[i].1 == n) with
    | false => rfl
    | true =>
      simp only [cond_true]
      rw [refCaught_in hb h2]
      unfold caughtOf
      show (bif decide (x.1 ≤ ps[i].2.2) then _ else _) = _
      cases decide (x.1 ≤ ps[i].2.2) <;> cases decide (x.2 - ps[i].2.2 ≤ 8) <;> rfl) (by
    try dsimp only
    rw [ref15_Caught_p6_eq, decide_eq_false (by omega : ¬ (ps.length : Int) < (ps.length : Int))]; rfl)
  unfold conf_Caught' ref15_Caught'
  simp only [show ((0 : Nat) : Int) = 0 from rfl] at key
  rw [key, slices_IndexFunc_api_Peer_api_Peer_is ps (fun y1 => ((conf_Caught_1' y1 n).bind fun z => some z)) (fun p => p.1 == n) (by omega) (fun p => rfl)]
  cases hi : ps.findIdx? (fun p => p.1 == n) with
  | none => rfl
  | some i =>
    obtain ⟨h1, _, _⟩ := List.findIdx?_eq_some_iff_getElem.1 hi
    have hb := hp _ (List.getElem_mem h1)
    simp only [Option.bind_some]
    rw [decide_eq_false (by omega), at?_lt h1]
    simp only [cond_false, Option.bind_some, Sum.elim_inr]
    unfold caughtOf
    show (bif decide (x.1 ≤ ps[i].2.2) then _ else bif decide (x.2 ≤ ps[i].2.2) then _ else _) = _
    cases decide (x.1 ≤ ps[i].2.2) with
    | true => rfl
    | false =>
      simp only [cond_false, Bool.false_or]
      by_cases hx : x.2 ≤ ps[i].2.2
      · rw [decide_eq_true hx, decide_eq_true (by omega : x.2 - ps[i].2.2 ≤ 8)]; rfl
      · rw [decide_eq_false hx, u64_in (by omega) (by omega)]; rfl
theorem law_ConfCaught (ps : List Pr) (n : Int) (x : Int × Int) (hl : ps.length ≤ 1048576) (hp : ∀ p ∈ ps, 0 ≤ p.2.2 ∧ p.2.2 < 18446744073709551616) (h2 : 0 ≤ x.2 ∧ x.2 < 18446744073709551616) : ∃ k, law15_ConfCaught k ps n x = some true := by
  refine (law15_ConfCaught_lm ps n x).fin ?_
  unfold law15_ConfCaught'
  rw [awake15_eq, caught_same hl hp h2]
  cases decide ((ps.length : Int) > 300) with
  | true => rfl
  | false =>
    have : ∃ b, ref15_Caught' ps n x.1 x.2 = some b := by
      rw [← caught_same hl hp h2]
      unfold conf_Caught'
      rw [slices_IndexFunc_api_Peer_api_Peer_is ps (fun y1 => ((conf_Caught_1' y1 n).bind fun z => some z)) (fun p => p.1 == n) (by omega) (fun p => rfl)]
      cases hi : ps.findIdx? (fun p => p.1 == n) with
      | none => exact ⟨_, rfl⟩
      | some i =>
        obtain ⟨h1, _, _⟩ := List.findIdx?_eq_some_iff_getElem.1 hi
        simp only [Option.bind_some]
        rw [decide_eq_false (by omega), at?_lt h1]
        simp only [cond_false, Option.bind_some]
        cases decide (ps[i].2.2 ≥ x.1) <;> cases decide (ps[i].2.2 ≥ x.2) <;> exact ⟨_, rfl⟩
    obtain ⟨b, hb⟩ := this
    rw [hb]
    simp
end Go.Proofs.Ytnpfogjbebdlfaa.gg
