/- What comes in: a reading of the arguments as pure values. -/
import Derived.Test.YtlgfmkccnljhoaaC29
import Derived.RowKit
import Derived.JoinedCond
import Derived.Carry
namespace Go.GG
open Go.RowKit

/-! ### Types that fit -/
def fieldsB (P : Program) (go : TypeId → T → Bool) : List Field → Nat → T → Bool
  | [], _, _ => false
  | [f], off, t => f.offset == off && go f.type t && P.cellsOf f.type == t.cnt
  | f :: g :: r, off, t => match t with
    | .pair a b => f.offset == off && go f.type a && P.cellsOf f.type == a.cnt && fieldsB P go (g :: r) (off + a.cnt) b
    | _ => false
def arrB (P : Program) (go : TypeId → T → Bool) (e : TypeId) : Nat → T → Bool
  | 0, _ => false
  | 1, t => go e t && P.cellsOf e == t.cnt
  | n + 2, t => match t with
    | .pair a b => go e a && P.cellsOf e == a.cnt && arrB P go e (n + 1) b
    | _ => false
def fitsB (P : Program) : Nat → TypeId → T → Bool
  | 0, _, _ => false
  | n + 1, t, s => match P.underlying t with
    | some (.int k) => (match s with | .int k' => k == k' | _ => false)
    | some .bool => (match s with | .bool => true | _ => false)
    | some .string => (match s with | .str => true | _ => false)
    | some (.slice e) => (match s with | .slice s' => fitsB P n e s' && P.cellsOf e == s'.cnt | _ => false)
    | some (.struct fs) => P.cellsOf t == s.cnt && fieldsB P (fitsB P n) fs.toList 0 s
    | some (.array m e) => P.cellsOf t == s.cnt && arrB P (fitsB P n) e m s
    | _ => false

/-! ### Sizes -/
def T.wf : (t : T) → t.den → Prop
  | .int k, n => k.min ≤ n ∧ n ≤ k.max
  | .bool, _ => True
  | .str, _ => True
  | .slice t, xs => ∀ x ∈ xs, t.wf x
  | .pair a b, x => a.wf x.1 ∧ b.wf x.2
def T.bulk : (t : T) → t.den → Nat
  | .int _, _ => 1
  | .bool, _ => 1
  | .str, s => s.length + 1
  | .slice t, xs => (xs.map t.bulk).sum + 1
  | .pair a b, x => a.bulk x.1 + b.bulk x.2
/-- A measure of readings. -/
structure Bulk (H : Type) where
  one : DataW H → Nat
  all : List (DataW H) → Nat
  nil : all [] = 0
  cons : ∀ d r, all (d :: r) = one d + all r
  lit : ∀ l, 1 ≤ one (.lit l)
  str : ∀ s, one (.lit (.string s)) = s.length + 1
  none : one .nil = 1
  slice : ∀ e s, one (.slice e s) = all e + all s + 1
  agg : ∀ p, one (.agg p) = all p + 1

section
variable {H : Type} {enc : TypeId × Value → H} {P : Program} {w : World} {spare : Nat → Bool}

inductive All3 {α β γ : Type} (R : α → β → γ → Prop) : List α → List β → List γ → Prop
  | nil : All3 R [] [] []
  | cons {a b c as bs cs} : R a b c → All3 R as bs cs → All3 R (a :: as) (b :: bs) (c :: cs)
theorem mapM_all3 {α β γ : Type} {f : α → Option β} {R : α → β → γ → Prop} : ∀ {l : List α} {ys : List β}, l.mapM f = some ys → (∀ a ∈ l, ∀ b, f a = some b → ∃ c, R a b c) → ∃ xs, All3 R l ys xs
  | [], ys, h, _ => by simp at h; subst h; exact ⟨[], .nil⟩
  | a :: l, ys, h, hR => by
    rw [List.mapM_cons] at h
    cases hfa : f a with
    | none => rw [hfa] at h; simp at h
    | some b =>
      cases hfl : l.mapM f with
      | none => rw [hfa, hfl] at h; simp at h
      | some bs =>
        rw [hfa, hfl] at h
        simp at h; subst h
        obtain ⟨c, hc⟩ := hR a (by simp) b hfa
        obtain ⟨cs, hcs⟩ := mapM_all3 hfl (fun a' ha' => hR a' (by simp [ha']))
        exact ⟨c :: cs, .cons hc hcs⟩
theorem All3.get {α β γ : Type} {R : α → β → γ → Prop} : ∀ {as : List α} {bs : List β} {cs : List γ}, All3 R as bs cs → ∀ {i : Nat} {c : γ}, cs[i]? = some c → ∃ a b, as[i]? = some a ∧ bs[i]? = some b ∧ R a b c
  | _, _, _, .nil, i, c, h => by simp at h
  | _, _, _, .cons h1 h2, i, c, h => by
    cases i with
    | zero => simp at h; subst h; exact ⟨_, _, rfl, rfl, h1⟩
    | succ i => simp at h; obtain ⟨a, b, ha, hb, hr⟩ := h2.get h; exact ⟨a, b, by simpa using ha, by simpa using hb, hr⟩
theorem All3.len {α β γ : Type} {R : α → β → γ → Prop} : ∀ {as : List α} {bs : List β} {cs : List γ}, All3 R as bs cs → cs.length = as.length ∧ bs.length = as.length
  | _, _, _, .nil => ⟨rfl, rfl⟩
  | _, _, _, .cons _ h2 => by simp [h2.len]
theorem cells_spec {a : Addr} {n : Nat} {cs : List Value} (h : w.cells? 0 a n = some cs) : cs.length = n ∧ ∀ j, j < n → ∃ v, cs[j]? = some v ∧ w.cell? (a.add j) = some v := by
  unfold World.cells? at h
  rw [if_pos (Nat.zero_le _)] at h
  obtain ⟨xs, hx⟩ := mapM_all3 (R := fun j v (_ : Unit) => w.cell? (a.add j) = some v) h (fun j _ v hv => ⟨(), hv⟩)
  have hl := hx.len
  simp at hl
  refine ⟨hl.2, fun j hj => ?_⟩
  have : xs[j]? = some () := by rw [List.getElem?_eq_getElem (by omega)]
  obtain ⟨j', v, h1, h2, h3⟩ := hx.get this
  simp [List.getElem?_range hj] at h1
  subst h1
  exact ⟨v, h2, h3⟩
theorem cell_block {b o : Nat} {sp : Option Nat} {v : Value} (h : w.cell? ⟨b, o, sp⟩ = some v) : ∃ C e fr, w.heap[b]? = some (.cells C e fr) ∧ sp = none ∧ C[o]? = some v := by
  unfold World.cell? at h
  split at h
  · rename_i C e fr hb
    split at h
    · simp at h
    · rename_i hs
      exact ⟨C, e, fr, hb, by simpa using hs, h⟩
  · simp at h
def okAll (w : World) (b : Nat) : Prop := b < w.heap.size
/-- What a reading stands for. -/
def Reads (w : World) (B : Bulk H) (t : T) (cs : List Value) (d : DataW H) : Prop := ∃ x : t.den, t.holds w (okAll w) x cs ∧ t.wf x ∧ t.bulk x ≤ B.one d
def Reading (enc : TypeId × Value → H) (P : Program) (w : World) (spare : Nat → Bool) (B : Bulk H) (go : TypeId → T → Bool) (fuel : Nat) : Prop :=
  ∀ t s cs d ps, go t s = true → DataW.trod enc P w 0 spare true fuel t cs = some (d, ps) → Reads w B s cs d
theorem take_drop {α : Type} (l : List α) (off m n : Nat) : (l.drop off).take (m + n) = (l.drop off).take m ++ (l.drop (off + m)).take n := by
  rw [List.take_add, List.drop_drop]
theorem fields_read {B : Bulk H} {go : TypeId → T → Bool} {fuel : Nat} (hgo : Reading enc P w spare B go fuel) {cs : List Value} : ∀ {fs : List Field} {off : Nat} {s : T} {ys : List (DataW H × List MemPlace)}, fieldsB P go fs off s = true →
    (fs.mapM fun f => DataW.trod enc P w 0 spare true fuel f.type ((cs.drop f.offset).take (P.cellsOf f.type))) = some ys →
    ∃ x : s.den, s.holds w (okAll w) x ((cs.drop off).take s.cnt) ∧ s.wf x ∧ s.bulk x ≤ B.all (ys.map (·.1))
  | [], _, _, _, h, _ => by simp [fieldsB] at h
  | [f], off, s, ys, h, hm => by
    simp only [fieldsB, Bool.and_eq_true, beq_iff_eq] at h
    obtain ⟨⟨h1, h2⟩, h3⟩ := h
    simp only [List.mapM_cons, List.mapM_nil, Option.pure_def, Option.bind_eq_bind, Option.bind_some] at hm
    rw [Option.bind_eq_some_iff] at hm
    obtain ⟨⟨d, p⟩, hd, hm⟩ := hm
    simp at hm; subst hm
    obtain ⟨x, h4, h5, h6⟩ := hgo _ _ _ _ _ h2 hd
    rw [h1, h3] at h4
    refine ⟨x, h4, h5, ?_⟩
    simp only [List.map_cons, List.map_nil, B.cons, B.nil]
    omega
  | f :: g :: r, off, s, ys, h, hm => by
    cases s
    case pair a b =>
      simp only [fieldsB, Bool.and_eq_true, beq_iff_eq] at h
      obtain ⟨⟨⟨h1, h2⟩, h3⟩, h4⟩ := h
      rw [List.mapM_cons] at hm
      simp only [Option.pure_def, Option.bind_eq_bind] at hm
      rw [Option.bind_eq_some_iff] at hm
      obtain ⟨⟨d, p⟩, hd, hm⟩ := hm
      rw [Option.bind_eq_some_iff] at hm
      obtain ⟨ys', hys, hm⟩ := hm
      simp at hm; subst hm
      obtain ⟨x, h5, h6, h7⟩ := hgo _ _ _ _ _ h2 hd
      obtain ⟨y, h8, h9, h10⟩ := fields_read hgo h4 hys
      rw [h1, h3] at h5
      refine ⟨(x, y), ⟨_, _, take_drop cs off a.cnt b.cnt, h5, h8⟩, ⟨h6, h9⟩, ?_⟩
      simp only [List.map_cons, B.cons, T.bulk]
      omega
    all_goals simp [fieldsB] at h
theorem arr_read {B : Bulk H} {go : TypeId → T → Bool} {fuel : Nat} (hgo : Reading enc P w spare B go fuel) {cs : List Value} {e : TypeId} : ∀ {n : Nat} {i : Nat} {s : T} {ys : List (DataW H × List MemPlace)}, arrB P go e n s = true →
    ((List.range' i n).mapM fun j => DataW.trod enc P w 0 spare true fuel e ((cs.drop (j * P.cellsOf e)).take (P.cellsOf e))) = some ys →
    ∃ x : s.den, s.holds w (okAll w) x ((cs.drop (i * P.cellsOf e)).take s.cnt) ∧ s.wf x ∧ s.bulk x ≤ B.all (ys.map (·.1))
  | 0, _, _, _, h, _ => by simp [arrB] at h
  | 1, i, s, ys, h, hm => by
    simp only [arrB, Bool.and_eq_true, beq_iff_eq] at h
    obtain ⟨h2, h3⟩ := h
    simp only [List.range'_one, List.mapM_cons, List.mapM_nil, Option.pure_def, Option.bind_eq_bind, Option.bind_some] at hm
    rw [Option.bind_eq_some_iff] at hm
    obtain ⟨⟨d, p⟩, hd, hm⟩ := hm
    simp at hm; subst hm
    obtain ⟨x, h4, h5, h6⟩ := hgo _ _ _ _ _ h2 hd
    rw [← h3]
    refine ⟨x, h4, h5, ?_⟩
    simp only [List.map_cons, List.map_nil, B.cons, B.nil]
    omega
  | n + 2, i, s, ys, h, hm => by
    cases s
    case pair a b =>
      simp only [arrB, Bool.and_eq_true, beq_iff_eq] at h
      obtain ⟨⟨h2, h3⟩, h4⟩ := h
      rw [List.range'_succ, List.mapM_cons] at hm
      simp only [Option.pure_def, Option.bind_eq_bind] at hm
      rw [Option.bind_eq_some_iff] at hm
      obtain ⟨⟨d, p⟩, hd, hm⟩ := hm
      rw [Option.bind_eq_some_iff] at hm
      obtain ⟨ys', hys, hm⟩ := hm
      simp at hm; subst hm
      obtain ⟨x, h5, h6, h7⟩ := hgo _ _ _ _ _ h2 hd
      obtain ⟨y, h8, h9, h10⟩ := arr_read hgo h4 hys
      have e1 : (i + 1) * P.cellsOf e = i * P.cellsOf e + a.cnt := by rw [Nat.add_mul, h3]; omega
      rw [e1] at h8
      rw [h3] at h5
      have h3' : i * P.cellsOf e = i * a.cnt := by rw [h3]
      rw [h3'] at h8 ⊢
      refine ⟨(x, y), ⟨_, _, take_drop cs (i * a.cnt) a.cnt b.cnt, h5, h8⟩, ⟨h6, h9⟩, ?_⟩
      simp only [List.map_cons, B.cons, T.bulk]
      omega
    all_goals simp [arrB] at h
theorem bulk_sum {B : Bulk H} {t : T} {R : Nat → DataW H × List MemPlace → t.den → Prop} : ∀ {is : List Nat} {ys : List (DataW H × List MemPlace)} {xs : List t.den}, All3 R is ys xs → (∀ i y x, R i y x → t.bulk x ≤ B.one y.1) → (xs.map t.bulk).sum ≤ B.all (ys.map (·.1))
  | _, _, _, .nil, _ => by simp
  | _, _, _, .cons h1 h2, h => by
    have := bulk_sum h2 h
    have := h _ _ _ h1
    simp only [List.map_cons, List.sum_cons, B.cons]
    omega
theorem trod_read {B : Bulk H} : ∀ (n fuel : Nat), Reading enc P w spare B (fitsB P n) fuel
  | 0, _, t, s, cs, d, ps, h, _ => by simp [fitsB] at h
  | n + 1, 0, t, s, cs, d, ps, _, h => by simp [DataW.trod] at h
  | n + 1, fuel + 1, t, s, cs, d, ps, hf, h => by
    have ih := trod_read (B := B) n fuel
    simp only [fitsB] at hf
    split at hf
    · -- int
      rename_i k hu
      cases s <;> simp at hf
      subst hf
      unfold DataW.trod at h
      rw [hu] at h
      split at h
      case h_2 k' q n1 e1 =>
        simp at e1; subst e1
        split at h
        · rename_i hw
          obtain ⟨rfl, hw⟩ := hw
          simp only [Option.some.injEq, Prod.mk.injEq] at h
          obtain ⟨rfl, rfl⟩ := h
          simp only [Lit.wf, Bool.and_eq_true, decide_eq_true_eq] at hw
          exact ⟨n1, rfl, hw, B.lit _⟩
        · simp at h
      all_goals (exfalso; simp_all)
    · -- bool
      rename_i hu
      cases s <;> simp at hf
      unfold DataW.trod at h
      rw [hu] at h
      split at h
      case h_1 b e1 =>
        simp only [Option.some.injEq, Prod.mk.injEq] at h
        obtain ⟨rfl, rfl⟩ := h
        exact ⟨b, rfl, trivial, B.lit _⟩
      all_goals (exfalso; simp_all)
    · -- string
      rename_i hu
      cases s <;> simp at hf
      unfold DataW.trod at h
      rw [hu] at h
      split at h
      case h_4 b e1 =>
        split at h
        · simp only [Option.some.injEq, Prod.mk.injEq] at h
          obtain ⟨rfl, rfl⟩ := h
          refine ⟨b.data.toList, ?_, trivial, by simp only [T.bulk, B.str]; exact Nat.le_refl _⟩
          simp [T.holds]
        · simp at h
      all_goals (exfalso; simp_all)
    · -- slice
      rename_i e hu
      cases s <;> simp at hf
      rename_i s
      obtain ⟨hf, hcnt⟩ := hf
      unfold DataW.trod at h
      rw [hu] at h
      split at h
      case h_7 e' e1 =>
        simp only [Option.some.injEq, Prod.mk.injEq] at h
        obtain ⟨rfl, rfl⟩ := h
        exact ⟨[], ⟨none, 0, rfl, Nat.le_refl _, .inl ⟨rfl, fun _ => rfl⟩⟩, by simp [T.wf], by simp [T.bulk, B.none]⟩
      case h_8 e' a len cap e1 =>
        simp at e1; subst e1
        split at h
        · rename_i hcap
          rw [Option.bind_eq_some_iff] at h
          obtain ⟨ys, hys, h⟩ := h
          rw [Option.map_eq_some_iff] at h
          obtain ⟨rest, _, h⟩ := h
          simp only [Prod.mk.injEq] at h
          obtain ⟨rfl, rfl⟩ := h
          obtain ⟨xs, hxs⟩ := mapM_all3 (R := fun i y (x : s.den) => (∃ ds, w.cells? 0 (a.add (i * P.cellsOf e)) (P.cellsOf e) = some ds ∧ s.holds w (okAll w) x ds) ∧ s.wf x ∧ s.bulk x ≤ B.one y.1) hys (fun i _ y hy => by
            rw [Option.bind_eq_some_iff] at hy
            obtain ⟨ds, h1, h2⟩ := hy
            obtain ⟨x, h3, h4, h5⟩ := ih e s ds y.1 y.2 hf h2
            exact ⟨x, ⟨ds, h1, h3⟩, h4, h5⟩)
          have hlen : xs.length = len := by have := hxs.len; simp at this; exact this.1
          refine ⟨xs, ?_, fun x hx => ?_, ?_⟩
          · refine ⟨some a, cap, by rw [hlen], by rw [hlen]; exact hcap.2.1, ?_⟩
            by_cases hx0 : xs = []
            · exact .inl ⟨hx0, fun hh => by cases hh⟩
            · right
              have hpos : 0 < xs.length := List.length_pos_iff.2 hx0
              have hcp : 0 < P.cellsOf e := by rw [hcnt]; exact cnt_pos s
              -- the first cell
              have first : ∃ v, w.cell? a = some v := by
                obtain ⟨i, y, h1, h2, ⟨ds, h3, _⟩, _⟩ := hxs.get (i := 0) (c := xs[0]) (by simp [hpos])
                rw [List.getElem?_range (by omega)] at h1
                simp at h1; subst h1
                obtain ⟨_, h4⟩ := cells_spec h3
                obtain ⟨v, _, h5⟩ := h4 0 hcp
                exact ⟨v, by simpa [Addr.add] using h5⟩
              obtain ⟨v, hv⟩ := first
              obtain ⟨b, o, sp⟩ := a
              obtain ⟨C, et, fr, hb, rfl, _⟩ := cell_block hv
              have hblt : b < w.heap.size := by
                rcases Nat.lt_or_ge b w.heap.size with h1 | h1
                · exact h1
                · rw [Array.getElem?_eq_none h1] at hb; simp at hb
              refine ⟨b, o, C, et, fr, rfl, hblt, hb, fun i x hi => ?_⟩
              obtain ⟨i', y, h1, h2, ⟨ds, h3, h4⟩, _⟩ := hxs.get hi
              have hil : i < len := by
                rw [← hlen]
                rcases Nat.lt_or_ge i xs.length with h5 | h5
                · exact h5
                · rw [List.getElem?_eq_none h5] at hi; simp at hi
              rw [List.getElem?_range hil] at h1
              simp at h1; subst h1
              refine ⟨ds, h4, fun j u hu => ?_⟩
              obtain ⟨h5, h6⟩ := cells_spec h3
              have hj : j < P.cellsOf e := by
                rw [← h5]
                rcases Nat.lt_or_ge j ds.length with h7 | h7
                · exact h7
                · rw [List.getElem?_eq_none h7] at hu; simp at hu
              obtain ⟨v', h7, h8⟩ := h6 j hj
              rw [hu] at h7; simp at h7; subst h7
              rw [add_plain, add_plain, cell_of hb] at h8
              rw [← hcnt]
              exact h8
          · obtain ⟨i, hi⟩ := List.getElem?_of_mem hx
            obtain ⟨_, _, _, _, _, h5, _⟩ := hxs.get hi
            exact h5
          · have := bulk_sum (B := B) hxs (fun i y x hr => hr.2.2)
            simp only [T.bulk, B.slice]
            omega
        · simp at h
      all_goals (exfalso; simp_all)
    · -- struct
      rename_i fs hu
      simp only [Bool.and_eq_true, beq_iff_eq] at hf
      unfold DataW.trod at h
      rw [hu] at h
      split at h
      case h_9 fs' e1 =>
        simp at e1; subst e1
        split at h
        · rename_i hlen
          rw [Option.map_eq_some_iff] at h
          obtain ⟨ys, hys, h⟩ := h
          simp only [Prod.mk.injEq] at h
          obtain ⟨rfl, rfl⟩ := h
          obtain ⟨x, h1, h2, h3⟩ := fields_read ih hf.2 hys
          rw [List.drop_zero, List.take_of_length_le (by omega)] at h1
          exact ⟨x, h1, h2, by rw [B.agg]; omega⟩
        · simp at h
      all_goals (exfalso; simp_all)
    · -- array
      rename_i m e hu
      simp only [Bool.and_eq_true, beq_iff_eq] at hf
      unfold DataW.trod at h
      rw [hu] at h
      split at h
      case h_10 m' e' e1 =>
        simp at e1
        obtain ⟨rfl, rfl⟩ := e1
        split at h
        · rename_i hlen
          rw [Option.map_eq_some_iff] at h
          obtain ⟨ys, hys, h⟩ := h
          simp only [Prod.mk.injEq] at h
          obtain ⟨rfl, rfl⟩ := h
          rw [List.range_eq_range'] at hys
          obtain ⟨x, h1, h2, h3⟩ := arr_read ih hf.2 hys
          rw [Nat.zero_mul, List.drop_zero, List.take_of_length_le (by omega)] at h1
          exact ⟨x, h1, h2, by rw [B.agg]; omega⟩
        · simp at h
      all_goals (exfalso; simp_all)
    · simp at hf
end
end Go.GG
