/- The core of our own, in one with others. -/
import Derived.Test.YtababmeocedhiaaDoorK4
import Derived.RowKit
import Derived.JoinedCond
import Derived.Carry
import Derived.Laws.StructEq
import Derived.Laws.Externs
import Derived.Lib.Overlaps
import Derived.Lib.Bytealg
/- What comes in: a reading of the arguments as pure values. -/
namespace Go.GG
open Go.RowKit

/-! ### Types that fit -/
def fieldsB (P : Program) (go : TypeId → T → Bool) : List Field → Nat → T → Bool
  | [], _, _ => false
  | [f], off, t => f.offset == off && go f.type t && P.cellsOf f.type == t.cnt
  | f :: g :: r, off, t => match t with
    | .pair a b => f.offset == off && go f.type a && P.cellsOf f.type == a.cnt && fieldsB P go (g :: r) (off + a.cnt) b
    | _ => false
def arrB (P : Program) (go : TypeId → T → Bool) (e : TypeId) : Nat → T → Bool
  | 0, _ => false
  | 1, t => go e t && P.cellsOf e == t.cnt
  | n + 2, t => match t with
    | .pair a b => go e a && P.cellsOf e == a.cnt && arrB P go e (n + 1) b
    | _ => false
def fitsB (P : Program) : Nat → TypeId → T → Bool
  | 0, _, _ => false
  | n + 1, t, s => match P.underlying t with
    | some (.int k) => (match s with | .int k' => k == k' | _ => false)
    | some .bool => (match s with | .bool => true | _ => false)
    | some .string => (match s with | .str => true | _ => false)
    | some (.slice e) => (match s with | .slice s' => fitsB P n e s' && P.cellsOf e == s'.cnt | _ => false)
    | some (.struct fs) => P.cellsOf t == s.cnt && fieldsB P (fitsB P n) fs.toList 0 s
    | some (.array m e) => P.cellsOf t == s.cnt && arrB P (fitsB P n) e m s
    | _ => false

/-! ### Sizes -/
def T.wf : (t : T) → t.den → Prop
  | .int k, n => k.min ≤ n ∧ n ≤ k.max
  | .bool, _ => True
  | .str, _ => True
  | .slice t, xs => ∀ x ∈ xs, t.wf x
  | .opt _, _ => True
  | .pb, _ => True
  | .raw, _ => True
  | .ib, _ => True
  | .box _ _, _ => True
  | .pair a b, x => a.wf x.1 ∧ b.wf x.2
def T.bulk : (t : T) → t.den → Nat
  | .int _, _ => 1
  | .bool, _ => 1
  | .str, s => s.length + 1
  | .slice t, xs => (xs.map t.bulk).sum + 1
  | .opt _, _ => 1
  | .pb, _ => 1
  | .raw, _ => 1
  | .ib, _ => 1
  | .box _ _, _ => 1
  | .pair a b, x => a.bulk x.1 + b.bulk x.2
/-- A measure of readings. -/
structure Bulk (H : Type) where
  one : DataW H → Nat
  all : List (DataW H) → Nat
  nil : all [] = 0
  cons : ∀ d r, all (d :: r) = one d + all r
  lit : ∀ l, 1 ≤ one (.lit l)
  str : ∀ s, one (.lit (.string s)) = s.length + 1
  none : one .nil = 1
  slice : ∀ e s, one (.slice e s) = all e + all s + 1
  agg : ∀ p, one (.agg p) = all p + 1

section
variable {H : Type} {enc : TypeId × Value → H} {P : Program} {w : World} {spare : Nat → Bool}

inductive All3 {α β γ : Type} (R : α → β → γ → Prop) : List α → List β → List γ → Prop
  | nil : All3 R [] [] []
  | cons {a b c as bs cs} : R a b c → All3 R as bs cs → All3 R (a :: as) (b :: bs) (c :: cs)
theorem mapM_all3 {α β γ : Type} {f : α → Option β} {R : α → β → γ → Prop} : ∀ {l : List α} {ys : List β}, l.mapM f = some ys → (∀ a ∈ l, ∀ b, f a = some b → ∃ c, R a b c) → ∃ xs, All3 R l ys xs
  | [], ys, h, _ => by simp at h; subst h; exact ⟨[], .nil⟩
  | a :: l, ys, h, hR => by
    rw [List.mapM_cons] at h
    cases hfa : f a with
    | none => rw [hfa] at h; simp at h
    | some b =>
      cases hfl : l.mapM f with
      | none => rw [hfa, hfl] at h; simp at h
      | some bs =>
        rw [hfa, hfl] at h
        simp at h; subst h
        obtain ⟨c, hc⟩ := hR a (by simp) b hfa
        obtain ⟨cs, hcs⟩ := mapM_all3 hfl (fun a' ha' => hR a' (by simp [ha']))
        exact ⟨c :: cs, .cons hc hcs⟩
theorem All3.get {α β γ : Type} {R : α → β → γ → Prop} : ∀ {as : List α} {bs : List β} {cs : List γ}, All3 R as bs cs → ∀ {i : Nat} {c : γ}, cs[i]? = some c → ∃ a b, as[i]? = some a ∧ bs[i]? = some b ∧ R a b c
  | _, _, _, .nil, i, c, h => by simp at h
  | _, _, _, .cons h1 h2, i, c, h => by
    cases i with
    | zero => simp at h; subst h; exact ⟨_, _, rfl, rfl, h1⟩
    | succ i => simp at h; obtain ⟨a, b, ha, hb, hr⟩ := h2.get h; exact ⟨a, b, by simpa using ha, by simpa using hb, hr⟩
theorem All3.len {α β γ : Type} {R : α → β → γ → Prop} : ∀ {as : List α} {bs : List β} {cs : List γ}, All3 R as bs cs → cs.length = as.length ∧ bs.length = as.length
  | _, _, _, .nil => ⟨rfl, rfl⟩
  | _, _, _, .cons _ h2 => by simp [h2.len]
theorem cells_spec {a : Addr} {n : Nat} {cs : List Value} (h : w.cells? 0 a n = some cs) : cs.length = n ∧ ∀ j, j < n → ∃ v, cs[j]? = some v ∧ w.cell? (a.add j) = some v := by
  unfold World.cells? at h
  rw [if_pos (Nat.zero_le _)] at h
  obtain ⟨xs, hx⟩ := mapM_all3 (R := fun j v (_ : Unit) => w.cell? (a.add j) = some v) h (fun j _ v hv => ⟨(), hv⟩)
  have hl := hx.len
  simp at hl
  refine ⟨hl.2, fun j hj => ?_⟩
  have : xs[j]? = some () := by rw [List.getElem?_eq_getElem (by omega)]
  obtain ⟨j', v, h1, h2, h3⟩ := hx.get this
  simp [List.getElem?_range hj] at h1
  subst h1
  exact ⟨v, h2, h3⟩
theorem cell_block {b o : Nat} {sp : Option Nat} {v : Value} (h : w.cell? ⟨b, o, sp⟩ = some v) : ∃ C e fr, w.heap[b]? = some (.cells C e fr) ∧ sp = none ∧ C[o]? = some v := by
  unfold World.cell? at h
  split at h
  · rename_i C e fr hb
    split at h
    · simp at h
    · rename_i hs
      exact ⟨C, e, fr, hb, by simpa using hs, h⟩
  · simp at h
def okAll (w : World) (b : Nat) : Prop := b < w.heap.size
/-- What a reading stands for. -/
def Reads (w : World) (B : Bulk H) (t : T) (cs : List Value) (d : DataW H) : Prop := ∃ x : t.den, t.holds w (okAll w) x cs ∧ t.wf x ∧ t.bulk x ≤ B.one d
def Reading (enc : TypeId × Value → H) (P : Program) (w : World) (spare : Nat → Bool) (B : Bulk H) (go : TypeId → T → Bool) (fuel : Nat) : Prop :=
  ∀ t s cs d ps, go t s = true → DataW.trod enc P w 0 spare true fuel t cs = some (d, ps) → Reads w B s cs d
theorem take_drop {α : Type} (l : List α) (off m n : Nat) : (l.drop off).take (m + n) = (l.drop off).take m ++ (l.drop (off + m)).take n := by
  rw [List.take_add, List.drop_drop]
theorem fields_read {B : Bulk H} {go : TypeId → T → Bool} {fuel : Nat} (hgo : Reading enc P w spare B go fuel) {cs : List Value} : ∀ {fs : List Field} {off : Nat} {s : T} {ys : List (DataW H × List MemPlace)}, fieldsB P go fs off s = true →
    (fs.mapM fun f => DataW.trod enc P w 0 spare true fuel f.type ((cs.drop f.offset).take (P.cellsOf f.type))) = some ys →
    ∃ x : s.den, s.holds w (okAll w) x ((cs.drop off).take s.cnt) ∧ s.wf x ∧ s.bulk x ≤ B.all (ys.map (·.1))
  | [], _, _, _, h, _ => by simp [fieldsB] at h
  | [f], off, s, ys, h, hm => by
    simp only [fieldsB, Bool.and_eq_true, beq_iff_eq] at h
    obtain ⟨⟨h1, h2⟩, h3⟩ := h
    simp only [List.mapM_cons, List.mapM_nil, Option.pure_def, Option.bind_eq_bind, Option.bind_some] at hm
    rw [Option.bind_eq_some_iff] at hm
    obtain ⟨⟨d, p⟩, hd, hm⟩ := hm
    simp at hm; subst hm
    obtain ⟨x, h4, h5, h6⟩ := hgo _ _ _ _ _ h2 hd
    rw [h1, h3] at h4
    refine ⟨x, h4, h5, ?_⟩
    simp only [List.map_cons, List.map_nil, B.cons, B.nil]
    omega
  | f :: g :: r, off, s, ys, h, hm => by
    cases s
    case pair a b =>
      simp only [fieldsB, Bool.and_eq_true, beq_iff_eq] at h
      obtain ⟨⟨⟨h1, h2⟩, h3⟩, h4⟩ := h
      rw [List.mapM_cons] at hm
      simp only [Option.pure_def, Option.bind_eq_bind] at hm
      rw [Option.bind_eq_some_iff] at hm
      obtain ⟨⟨d, p⟩, hd, hm⟩ := hm
      rw [Option.bind_eq_some_iff] at hm
      obtain ⟨ys', hys, hm⟩ := hm
      simp at hm; subst hm
      obtain ⟨x, h5, h6, h7⟩ := hgo _ _ _ _ _ h2 hd
      obtain ⟨y, h8, h9, h10⟩ := fields_read hgo h4 hys
      rw [h1, h3] at h5
      refine ⟨(x, y), ⟨_, _, take_drop cs off a.cnt b.cnt, h5, h8⟩, ⟨h6, h9⟩, ?_⟩
      simp only [List.map_cons, B.cons, T.bulk]
      omega
    all_goals simp [fieldsB] at h
theorem arr_read {B : Bulk H} {go : TypeId → T → Bool} {fuel : Nat} (hgo : Reading enc P w spare B go fuel) {cs : List Value} {e : TypeId} : ∀ {n : Nat} {i : Nat} {s : T} {ys : List (DataW H × List MemPlace)}, arrB P go e n s = true →
    ((List.range' i n).mapM fun j => DataW.trod enc P w 0 spare true fuel e ((cs.drop (j * P.cellsOf e)).take (P.cellsOf e))) = some ys →
    ∃ x : s.den, s.holds w (okAll w) x ((cs.drop (i * P.cellsOf e)).take s.cnt) ∧ s.wf x ∧ s.bulk x ≤ B.all (ys.map (·.1))
  | 0, _, _, _, h, _ => by simp [arrB] at h
  | 1, i, s, ys, h, hm => by
    simp only [arrB, Bool.and_eq_true, beq_iff_eq] at h
    obtain ⟨h2, h3⟩ := h
    simp only [List.range'_one, List.mapM_cons, List.mapM_nil, Option.pure_def, Option.bind_eq_bind, Option.bind_some] at hm
    rw [Option.bind_eq_some_iff] at hm
    obtain ⟨⟨d, p⟩, hd, hm⟩ := hm
    simp at hm; subst hm
    obtain ⟨x, h4, h5, h6⟩ := hgo _ _ _ _ _ h2 hd
    rw [← h3]
    refine ⟨x, h4, h5, ?_⟩
    simp only [List.map_cons, List.map_nil, B.cons, B.nil]
    omega
  | n + 2, i, s, ys, h, hm => by
    cases s
    case pair a b =>
      simp only [arrB, Bool.and_eq_true, beq_iff_eq] at h
      obtain ⟨⟨h2, h3⟩, h4⟩ := h
      rw [List.range'_succ, List.mapM_cons] at hm
      simp only [Option.pure_def, Option.bind_eq_bind] at hm
      rw [Option.bind_eq_some_iff] at hm
      obtain ⟨⟨d, p⟩, hd, hm⟩ := hm
      rw [Option.bind_eq_some_iff] at hm
      obtain ⟨ys', hys, hm⟩ := hm
      simp at hm; subst hm
      obtain ⟨x, h5, h6, h7⟩ := hgo _ _ _ _ _ h2 hd
      obtain ⟨y, h8, h9, h10⟩ := arr_read hgo h4 hys
      have e1 : (i + 1) * P.cellsOf e = i * P.cellsOf e + a.cnt := by rw [Nat.add_mul, h3]; omega
      rw [e1] at h8
      rw [h3] at h5
      have h3' : i * P.cellsOf e = i * a.cnt := by rw [h3]
      rw [h3'] at h8 ⊢
      refine ⟨(x, y), ⟨_, _, take_drop cs (i * a.cnt) a.cnt b.cnt, h5, h8⟩, ⟨h6, h9⟩, ?_⟩
      simp only [List.map_cons, B.cons, T.bulk]
      omega
    all_goals simp [arrB] at h
theorem bulk_sum {B : Bulk H} {t : T} {R : Nat → DataW H × List MemPlace → t.den → Prop} : ∀ {is : List Nat} {ys : List (DataW H × List MemPlace)} {xs : List t.den}, All3 R is ys xs → (∀ i y x, R i y x → t.bulk x ≤ B.one y.1) → (xs.map t.bulk).sum ≤ B.all (ys.map (·.1))
  | _, _, _, .nil, _ => by simp
  | _, _, _, .cons h1 h2, h => by
    have := bulk_sum h2 h
    have := h _ _ _ h1
    simp only [List.map_cons, List.sum_cons, B.cons]
    omega
theorem trod_read {B : Bulk H} : ∀ (n fuel : Nat), Reading enc P w spare B (fitsB P n) fuel
  | 0, _, t, s, cs, d, ps, h, _ => by simp [fitsB] at h
  | n + 1, 0, t, s, cs, d, ps, _, h => by simp [DataW.trod] at h
  | n + 1, fuel + 1, t, s, cs, d, ps, hf, h => by
    have ih := trod_read (B := B) n fuel
    simp only [fitsB] at hf
    split at hf
    · -- int
      rename_i k hu
      cases s <;> simp at hf
      subst hf
      unfold DataW.trod at h
      rw [hu] at h
      split at h
      case h_2 k' q n1 e1 =>
        simp at e1; subst e1
        split at h
        · rename_i hw
          obtain ⟨rfl, hw⟩ := hw
          simp only [Option.some.injEq, Prod.mk.injEq] at h
          obtain ⟨rfl, rfl⟩ := h
          simp only [Lit.wf, Bool.and_eq_true, decide_eq_true_eq] at hw
          exact ⟨n1, rfl, hw, B.lit _⟩
        · simp at h
      all_goals (exfalso; simp_all)
    · -- bool
      rename_i hu
      cases s <;> simp at hf
      unfold DataW.trod at h
      rw [hu] at h
      split at h
      case h_1 b e1 =>
        simp only [Option.some.injEq, Prod.mk.injEq] at h
        obtain ⟨rfl, rfl⟩ := h
        exact ⟨b, rfl, trivial, B.lit _⟩
      all_goals (exfalso; simp_all)
    · -- string
      rename_i hu
      cases s <;> simp at hf
      unfold DataW.trod at h
      rw [hu] at h
      split at h
      case h_4 b e1 =>
        split at h
        · simp only [Option.some.injEq, Prod.mk.injEq] at h
          obtain ⟨rfl, rfl⟩ := h
          refine ⟨b.data.toList, ?_, trivial, by simp only [T.bulk, B.str]; exact Nat.le_refl _⟩
          simp [T.holds]
        · simp at h
      all_goals (exfalso; simp_all)
    · -- slice
      rename_i e hu
      cases s <;> simp at hf
      rename_i s
      obtain ⟨hf, hcnt⟩ := hf
      unfold DataW.trod at h
      rw [hu] at h
      split at h
      case h_7 e' e1 =>
        simp only [Option.some.injEq, Prod.mk.injEq] at h
        obtain ⟨rfl, rfl⟩ := h
        exact ⟨[], ⟨none, 0, rfl, Nat.le_refl _, .inl ⟨rfl, fun _ => rfl⟩⟩, by simp [T.wf], by simp [T.bulk, B.none]⟩
      case h_8 e' a len cap e1 =>
        simp at e1; subst e1
        split at h
        · rename_i hcap
          rw [Option.bind_eq_some_iff] at h
          obtain ⟨ys, hys, h⟩ := h
          rw [Option.map_eq_some_iff] at h
          obtain ⟨rest, _, h⟩ := h
          simp only [Prod.mk.injEq] at h
          obtain ⟨rfl, rfl⟩ := h
          obtain ⟨xs, hxs⟩ := mapM_all3 (R := fun i y (x : s.den) => (∃ ds, w.cells? 0 (a.add (i * P.cellsOf e)) (P.cellsOf e) = some ds ∧ s.holds w (okAll w) x ds) ∧ s.wf x ∧ s.bulk x ≤ B.one y.1) hys (fun i _ y hy => by
            rw [Option.bind_eq_some_iff] at hy
            obtain ⟨ds, h1, h2⟩ := hy
            obtain ⟨x, h3, h4, h5⟩ := ih e s ds y.1 y.2 hf h2
            exact ⟨x, ⟨ds, h1, h3⟩, h4, h5⟩)
          have hlen : xs.length = len := by have := hxs.len; simp at this; exact this.1
          refine ⟨xs, ?_, fun x hx => ?_, ?_⟩
          · refine ⟨some a, cap, by rw [hlen], by rw [hlen]; exact hcap.2.1, ?_⟩
            by_cases hx0 : xs = []
            · exact .inl ⟨hx0, fun hh => by cases hh⟩
            · right
              have hpos : 0 < xs.length := List.length_pos_iff.2 hx0
              have hcp : 0 < P.cellsOf e := by rw [hcnt]; exact cnt_pos s
              -- the first cell
              have first : ∃ v, w.cell? a = some v := by
                obtain ⟨i, y, h1, h2, ⟨ds, h3, _⟩, _⟩ := hxs.get (i := 0) (c := xs[0]) (by simp [hpos])
                rw [List.getElem?_range (by omega)] at h1
                simp at h1; subst h1
                obtain ⟨_, h4⟩ := cells_spec h3
                obtain ⟨v, _, h5⟩ := h4 0 hcp
                exact ⟨v, by simpa [Addr.add] using h5⟩
              obtain ⟨v, hv⟩ := first
              obtain ⟨b, o, sp⟩ := a
              obtain ⟨C, et, fr, hb, rfl, _⟩ := cell_block hv
              have hblt : b < w.heap.size := by
                rcases Nat.lt_or_ge b w.heap.size with h1 | h1
                · exact h1
                · rw [Array.getElem?_eq_none h1] at hb; simp at hb
              refine ⟨b, o, C, et, fr, rfl, hblt, hb, fun i x hi => ?_⟩
              obtain ⟨i', y, h1, h2, ⟨ds, h3, h4⟩, _⟩ := hxs.get hi
              have hil : i < len := by
                rw [← hlen]
                rcases Nat.lt_or_ge i xs.length with h5 | h5
                · exact h5
                · rw [List.getElem?_eq_none h5] at hi; simp at hi
              rw [List.getElem?_range hil] at h1
              simp at h1; subst h1
              refine ⟨ds, h4, fun j u hu => ?_⟩
              obtain ⟨h5, h6⟩ := cells_spec h3
              have hj : j < P.cellsOf e := by
                rw [← h5]
                rcases Nat.lt_or_ge j ds.length with h7 | h7
                · exact h7
                · rw [List.getElem?_eq_none h7] at hu; simp at hu
              obtain ⟨v', h7, h8⟩ := h6 j hj
              rw [hu] at h7; simp at h7; subst h7
              rw [add_plain, add_plain, cell_of hb] at h8
              rw [← hcnt]
              exact h8
          · obtain ⟨i, hi⟩ := List.getElem?_of_mem hx
            obtain ⟨_, _, _, _, _, h5, _⟩ := hxs.get hi
            exact h5
          · have := bulk_sum (B := B) hxs (fun i y x hr => hr.2.2)
            simp only [T.bulk, B.slice]
            omega
        · simp at h
      all_goals (exfalso; simp_all)
    · -- struct
      rename_i fs hu
      simp only [Bool.and_eq_true, beq_iff_eq] at hf
      unfold DataW.trod at h
      rw [hu] at h
      split at h
      case h_9 fs' e1 =>
        simp at e1; subst e1
        split at h
        · rename_i hlen
          rw [Option.map_eq_some_iff] at h
          obtain ⟨ys, hys, h⟩ := h
          simp only [Prod.mk.injEq] at h
          obtain ⟨rfl, rfl⟩ := h
          obtain ⟨x, h1, h2, h3⟩ := fields_read ih hf.2 hys
          rw [List.drop_zero, List.take_of_length_le (by omega)] at h1
          exact ⟨x, h1, h2, by rw [B.agg]; omega⟩
        · simp at h
      all_goals (exfalso; simp_all)
    · -- array
      rename_i m e hu
      simp only [Bool.and_eq_true, beq_iff_eq] at hf
      unfold DataW.trod at h
      rw [hu] at h
      split at h
      case h_10 m' e' e1 =>
        simp at e1
        obtain ⟨rfl, rfl⟩ := e1
        split at h
        · rename_i hlen
          rw [Option.map_eq_some_iff] at h
          obtain ⟨ys, hys, h⟩ := h
          simp only [Prod.mk.injEq] at h
          obtain ⟨rfl, rfl⟩ := h
          rw [List.range_eq_range'] at hys
          obtain ⟨x, h1, h2, h3⟩ := arr_read ih hf.2 hys
          rw [Nat.zero_mul, List.drop_zero, List.take_of_length_le (by omega)] at h1
          exact ⟨x, h1, h2, by rw [B.agg]; omega⟩
        · simp at h
      all_goals (exfalso; simp_all)
    · simp at hf
end
end Go.GG

/- A law that is kept answers true. -/
namespace Go.GG
open Go.RowKit Go.ChangeShapes

def aggB (P : Program) (t : TypeId) : Bool := match P.underlying t with
  | some (.struct _) => true
  | some (.array _ _) => true
  | _ => false
def argB (P : Program) : TypeId → PK → Bool
  | t, .imm s => !aggB P t && fitsB P 12 t s
  | t, .agg s => aggB P t && fitsB P 12 t s
  | _, _ => false
def argsB (P : Program) : List TypeId → List PK → Bool
  | [], [] => true
  | t :: ts, p :: ps => argB P t p && argsB P ts ps
  | _, _ => false
def PK.wf : (p : PK) → p.den → Prop
  | .imm t, x => t.wf x
  | .agg t, x => t.wf x
  | _, _ => True
def PK.bulk : (p : PK) → p.den → Nat
  | .imm t, x => t.bulk x
  | .agg t, x => t.bulk x
  | _, _ => 0
def wfAll : (ps : List PK) → RD PK.den ps → Prop
  | [], _ => True
  | p :: ps, x => p.wf (RD.hd (k := p) x) ∧ wfAll ps (RD.tl (k := p) x)
def bulkAll : (ps : List PK) → RD PK.den ps → Nat
  | [], _ => 0
  | p :: ps, x => p.bulk (RD.hd (k := p) x) + bulkAll ps (RD.tl (k := p) x)
section
variable {H : Type} {enc : TypeId × Value → H} {P : Program} {W : World}

theorem cells_plain {t : TypeId} {base : Nat} {v : Value} (hn : aggB P t = false) {n : Nat} {s : T} (hf : fitsB P (n + 1) t s = true) (hv : Value.okWide P W .any base t v) : v.cells.toList = [v] := by
  unfold aggB at hn
  unfold Value.okWide at hv
  simp only [fitsB] at hf
  cases hu : P.underlying t with
  | none => rw [hu] at hf; simp at hf
  | some d =>
    rw [hu] at hn hv hf
    cases d <;> simp at hn hf
    all_goals
      simp only [Cell.okWide, hu, Cell.ok] at hv
      cases v <;> first | rfl | (simp at hv; done)
theorem agg_cells {t : TypeId} {base : Nat} {v : Value} (hn : aggB P t = true) (hv : Value.okWide P W .any base t v) : ∃ cs, v = .agg cs := by
  unfold aggB at hn
  unfold Value.okWide at hv
  split at hn
  · rename_i hu; rw [hu] at hv; obtain ⟨cs, h, _⟩ := hv; exact ⟨cs, h⟩
  · rename_i hu; rw [hu] at hv; obtain ⟨cs, h, _⟩ := hv; exact ⟨cs, h⟩
  · simp at hn
theorem args_read {B : Bulk H} {base : Nat} : ∀ {ts : List TypeId} {vs : List Value} {ds : List (DataW H)} {p : List MemPlace} {ps : List PK}, DataW.TrodAll enc P W 0 (fun _ => true) true ts vs ds p →
    (∀ (j : Nat) t v, ts[j]? = some t → vs[j]? = some v → Value.okWide P W .any base t v) → argsB P ts ps = true →
    ∃ x, PReps P W (okAll W) ps x vs ∧ wfAll ps x ∧ bulkAll ps x ≤ B.all ds ∧ pblocks W ps vs = [] ∧ lblocks W ps vs = [] ∧ vblocks ps vs = []
  | [], vs, ds, p, ps, h, _, hf => by
    cases ps with
    | cons q ps => simp [argsB] at hf
    | nil =>
      cases vs with
      | cons v vs => simp [DataW.TrodAll] at h
      | nil => exact ⟨(), rfl, trivial, Nat.zero_le _, rfl, rfl, rfl⟩
  | t :: ts, vs, ds, p, ps, h, hv, hf => by
    cases ps with
    | nil => simp [argsB] at hf
    | cons q ps =>
      cases vs with
      | nil => simp [DataW.TrodAll] at h
      | cons v vs =>
        cases ds with
        | nil => simp [DataW.TrodAll] at h
        | cons d ds =>
          simp only [DataW.TrodAll] at h
          obtain ⟨p1, q1, ⟨fuel, h1⟩, h2, rfl⟩ := h
          simp only [argsB, Bool.and_eq_true] at hf
          have hv0 := hv 0 t v rfl rfl
          obtain ⟨y, h3, h4, h5, h6, h7, h7v⟩ := args_read (B := B) h2 (fun j t' v' hj hj' => hv (j + 1) t' v' (by simpa using hj) (by simpa using hj')) hf.2
          cases q
          case imm s =>
            have hf1 := hf.1
            simp only [argB, Bool.and_eq_true, Bool.not_eq_true'] at hf1
            rw [cells_plain hf1.1 hf1.2 hv0] at h1
            obtain ⟨x, h8, h9, h10⟩ := trod_read (B := B) 12 fuel _ _ _ _ _ hf1.2 h1
            refine ⟨RD.mk (k := PK.imm s) x y, ⟨v, vs, rfl, by rw [hd_mk]; exact h8, by rw [tl_mk]; exact h3⟩, ⟨by rw [hd_mk]; exact h9, by rw [tl_mk]; exact h4⟩, ?_, h6, h7, h7v⟩
            simp only [bulkAll]; rw [hd_mk, tl_mk, B.cons]; simp only [PK.bulk]; omega
          case agg s =>
            have hf1 := hf.1
            simp only [argB, Bool.and_eq_true] at hf1
            obtain ⟨cs, rfl⟩ := agg_cells hf1.1 hv0
            obtain ⟨x, h8, h9, h10⟩ := trod_read (B := B) 12 fuel _ _ _ _ _ hf1.2 h1
            refine ⟨RD.mk (k := PK.agg s) x y, ⟨_, vs, rfl, by rw [hd_mk]; exact ⟨cs.toList, by simp, h8⟩, by rw [tl_mk]; exact h3⟩, ⟨by rw [hd_mk]; exact h9, by rw [tl_mk]; exact h4⟩, ?_, h6, h7, h7v⟩
            simp only [bulkAll]; rw [hd_mk, tl_mk, B.cons]; simp only [PK.bulk]; omega
          all_goals simp [argB] at hf
theorem args_after {W' : World} (hl : laidOutB P = true) (hb : Below W.heap.size W W') : ∀ {ts : List TypeId} {vs : List Value} {ds : List (DataW H)} {p : List MemPlace}, (∀ t ∈ ts, P.readableRec t = true ∧ t < P.types.size) →
    DataW.TrodAll enc P W 0 (fun _ => true) true ts vs ds p → (∀ x ∈ p, x.block < W.heap.size) → DataW.TrodAll enc P W' 0 (fun b => decide (b < W.heap.size)) true ts vs ds p
  | [], [], [], p, _, h, _ => h
  | t :: ts, v :: vs, d :: ds, p, hr, h, hlt => by
    obtain ⟨p1, q1, h1, h2, rfl⟩ := h
    exact ⟨p1, q1, Below.trod hl (hr t (by simp)).1 (hr t (by simp)).2 h1 hb (fun x hx => hlt x (by simp [hx])), args_after hl hb (fun t' ht' => hr t' (by simp [ht'])) h2 (fun x hx => hlt x (by simp [hx])), rfl⟩
  | [], _ :: _, _, _, _, h, _ => by simp [DataW.TrodAll] at h
  | [], [], _ :: _, _, _, h, _ => by simp [DataW.TrodAll] at h
  | _ :: _, [], _, _, _, h, _ => by simp [DataW.TrodAll] at h
  | _ :: _, _ :: _, [], _, _, h, _ => by simp [DataW.TrodAll] at h
/-- From a law's specification to the row's contract. -/
theorem law_contract [Tabs] {f : FuncId} {fn : Func} {s : ChangeSpec} {ps : List PK} {F : Nat → RD PK.den ps → Option Bool} {tb : TypeId} (B : Bulk H) (hspec : SpecOk P f ⟨ps, [.imm .bool], F⟩)
    (hfits : argsB P fn.params.toList ps = true) (hvars : s.vars = []) (hres : fn.resultTypes = #[tb]) (htB : P.underlying tb = some .bool) (hl : laidOutB P = true)
    (hrec : (fn.params.toList.all fun t => P.readableRec t && decide (t < P.types.size)) = true)
    {base : Nat} {args : Array Value} {ds gs : List (DataW H)} {before : List MemPlace}
    (hval : ∀ (j : Nat) t v, fn.params[j]? = some t → args[j]? = some v → Value.okWide P W .any base t v)
    (hW : DataW.Whole enc P fn.params.toList s.vars false W args.toList ds gs before)
    (hs : ∀ ds : List (DataW H), ds.length = fn.params.size → s.fn H ds = { results := [.lit (.bool true)], args := ds })
    (htb : Tabs.fine W (okAll W)) (law : ∀ x, wfAll ps x → bulkAll ps x ≤ B.all (ds ++ gs) → ∃ k, F k x = some true) :
    Calls P f args W fun e W' => ∃ v, e = .returned v ∧ s.post enc P fn false true false false W args v W' := by
  have hW' := hW
  obtain ⟨p, q, hA, hV, rfl, _, _⟩ := hW
  rw [hvars] at hV
  have hg : gs = [] ∧ q = [] := by
    cases gs with
    | nil => exact ⟨rfl, hV⟩
    | cons g gs => simp [DataW.TrodVars] at hV
  obtain ⟨rfl, rfl⟩ := hg
  obtain ⟨x, h1, h2, h3, h4, h5, h5v⟩ := args_read (B := B) hA (fun j t v hj hv => hval j t v (by simpa using hj) (by simpa using hv)) hfits
  obtain ⟨k, hk⟩ := law x h2 (by simpa using h3)
  have hc := hspec.2 k x true hk W (okAll W) args.toList (fun b hb => hb) htb h1 (by rw [h4, h5v]; exact List.nodup_nil) (by rw [h4]; simp)
  simp only [Array.toArray_toList] at hc
  refine hc.mono ?_
  rintro e W' ⟨vs, he, hgo, _, _, hR⟩
  rw [h4] at hgo
  have hb : Below W.heap.size W W' := ⟨hgo.os, hgo.tape, hgo.output, hgo.size, fun b hb => hgo.block b hb (by simp)⟩
  obtain ⟨v, vs', rfl, h6, h7⟩ := hR
  simp only [RReps] at h7
  obtain ⟨rfl, _⟩ := h7
  simp only [RRep, T.holds] at h6
  have hv : v = .bool true := by
    have : RD.hd (K := RK) (den := RK.den) (k := RK.imm T.bool) (r := []) true = true := rfl
    rw [this] at h6
    simpa using h6
  subst hv
  refine ⟨_, he, ?_⟩
  have hlen : ds.length = fn.params.size := by
    have key : ∀ {ts : List TypeId} {vs : List Value} {ds : List (DataW H)} {p : List MemPlace}, DataW.TrodAll enc P W 0 (fun _ => true) true ts vs ds p → ds.length = ts.length := by
      intro ts
      induction ts with
      | nil => intro vs ds p h; cases vs <;> cases ds <;> simp [DataW.TrodAll] at h; rfl
      | cons t ts ih =>
        intro vs ds p h
        cases vs <;> cases ds <;> simp [DataW.TrodAll] at h
        obtain ⟨_, _, _, h, _⟩ := h
        simp [ih h]
    have := key hA
    simpa using this
  have hfn := hs (ds ++ []) (by simpa using hlen)
  refine ⟨ds, [], p ++ [], [], p, [], hW', ?_, ?_, ?_, hb.frame _, by simp⟩
  · rw [hfn, hres]
    exact trodAll_mk1 (shut_bool htB true)
  · rw [hfn]
    simp only [List.append_nil]
    refine args_after hl hb (fun t ht => ?_) hA (fun m hm => ?_)
    · have := List.all_eq_true.1 hrec t ht
      simpa using this
    · have := hW'.lt m (by simp [hm])
      simpa using this
  · rw [hfn, hvars]
    rfl
end
end Go.GG

/- Tables and environments, row by row. -/
namespace Go.GG
section
variable {τ : Tabs} {P : Program}
theorem tabOk_nil : TabOk P [] := fun _ _ h => by simp [Tab.get] at h
theorem tabOk_cons {t : TypeId} {i : TI} {r : Tab} (h : TOk P t i) (hr : TabOk P r) : TabOk P ((t, i) :: r) := fun t' i' h' => by
  simp only [Tab.get] at h'
  cases hb : Nat.beq t t' with
  | true => rw [hb] at h'; simp at h'; subst h'; rw [← Nat.eq_of_beq_eq_true hb]; exact h
  | false => rw [hb] at h'; exact hr t' i' h'
def envL : List (Nat × FSpec) → Env
  | [], _ => []
  | (g, s) :: r, f => cond (Nat.beq g f) (s :: envL r f) (envL r f)
theorem envOk_nil : EnvOk P (envL []) := fun _ _ h => by simp [envL] at h
theorem envOk_cons' {g : FuncId} {s : FSpec} {r : List (Nat × FSpec)} (h : (s.row = false → SpecOk P g s ∨ XSpec P g s) ∧ (s.row = true → RowOk P g s)) (hr : EnvOk P (envL r)) : EnvOk P (envL ((g, s) :: r)) := fun f s' h' => by
  simp only [envL] at h'
  cases hb : Nat.beq g f with
  | true =>
    rw [hb] at h'
    simp at h'
    rcases h' with rfl | h'
    · rw [← Nat.eq_of_beq_eq_true hb]; exact h
    · exact hr f s' h'
  | false => rw [hb] at h'; exact hr f s' h'
theorem envOk_cons {g : FuncId} {s : FSpec} {r : List (Nat × FSpec)} (h : SpecOk P g s) (hr : EnvOk P (envL r)) (hn : s.row = false := by rfl) : EnvOk P (envL ((g, s) :: r)) := envOk_cons' ⟨fun _ => .inl h, fun hh => by rw [hn] at hh; cases hh⟩ hr
theorem envOk_consx {g : FuncId} {s : FSpec} {r : List (Nat × FSpec)} (h : XSpec P g s) (hr : EnvOk P (envL r)) (hn : s.row = false := by rfl) : EnvOk P (envL ((g, s) :: r)) := envOk_cons' ⟨fun _ => .inr h, fun hh => by rw [hn] at hh; cases hh⟩ hr
theorem envOk_consr {g : FuncId} {s : FSpec} {r : List (Nat × FSpec)} (h : RowOk P g s) (hr : EnvOk P (envL r)) (hn : s.row = true := by rfl) : EnvOk P (envL ((g, s) :: r)) := envOk_cons' ⟨fun hh => (by rw [hn] at hh; cases hh), fun _ => h⟩ hr
end
end Go.GG

/- Structs that are compared. -/
namespace Go.GG
open Go.RowKit
def eqFieldsB (P : Program) (go : TypeId → T → Bool) : List Field → Nat → T → Bool
  | [], _, _ => false
  | [f], off, t => f.name != "_" && f.offset == off && go f.type t && P.cellsOf f.type == t.cnt
  | f :: g :: r, off, t => match t with
    | .pair a b => f.name != "_" && f.offset == off && go f.type a && P.cellsOf f.type == a.cnt && eqFieldsB P go (g :: r) (off + a.cnt) b
    | _ => false
def eqB (P : Program) : Nat → TypeId → T → Bool
  | 0, _, _ => false
  | n + 1, t, s => match P.underlying t with
    | some (.int k) => (match s with | .int k' => k == k' | _ => false)
    | some .bool => (match s with | .bool => true | _ => false)
    | some .string => (match s with | .str => true | _ => false)
    | some (.struct fs) => !P.stoodInHeld t && eqFieldsB P (eqB P n) fs.toList 0 s
    | _ => false
section
variable {P : Program} {w : World}
/-- Cells as one value of a type. -/
def packV (P : Program) (t : TypeId) (cs : List Value) : Value := match aggB P t with
  | true => .agg cs.toArray
  | false => cs.headD undef
theorem eqB_flat : ∀ {n : Nat} {t : TypeId} {s : T}, eqB P n t s = true → s.flat = true ∧ (aggB P t = false → s.cnt = 1)
  | 0, _, _, h => by simp [eqB] at h
  | n + 1, t, s, h => by
    have fields : ∀ {fs : List Field} {off : Nat} {s : T}, eqFieldsB P (eqB P n) fs off s = true → s.flat = true := by
      intro fs
      induction fs with
      | nil => intro off s h; simp [eqFieldsB] at h
      | cons f r ih =>
        intro off s h
        cases r with
        | nil =>
          simp only [eqFieldsB, Bool.and_eq_true] at h
          exact (eqB_flat h.1.2).1
        | cons g r =>
          cases s <;> simp only [eqFieldsB, Bool.and_eq_true, Bool.false_eq_true] at h
          simp only [T.flat, Bool.and_eq_true]
          exact ⟨(eqB_flat h.1.1.2).1, ih h.2⟩
    simp only [eqB] at h
    split at h
    · cases s <;> simp at h; exact ⟨rfl, fun _ => rfl⟩
    · cases s <;> simp at h; exact ⟨rfl, fun _ => rfl⟩
    · cases s <;> simp at h; exact ⟨rfl, fun _ => rfl⟩
    · rename_i fs hu
      simp only [Bool.and_eq_true] at h
      exact ⟨fields h.2, fun ha => by simp [aggB, hu] at ha⟩
    · simp at h
theorem run_isAgg' {t : TypeId} {d : TypeDesc} (h : P.underlying t = some d) : (isAgg t).run P w = .ok (aggB P t) w := by
  simp only [isAgg, Sem.run_bind, run_underlying h, Result.andThen_ok, aggB, h]
  cases d <;> rfl
theorem run_sizeOf' {t : TypeId} (h : 0 < P.cellsOf t) : (sizeOf t).run P w = .ok (P.cellsOf t) w := by
  unfold Program.cellsOf at h ⊢
  cases hi : P.info? t with
  | none => rw [hi] at h; simp at h
  | some i => simp [sizeOf, run_typeInfo hi]
theorem part_pack {n : Nat} {t : TypeId} {s : T} (h : eqB P n t s = true) (hc : P.cellsOf t = s.cnt) {cs : List Value} {off : Nat} (hl : off + s.cnt ≤ cs.length) :
    (part t cs.toArray off).run P w = .ok (packV P t ((cs.drop off).take s.cnt)) w := by
  have hu : ∃ d, P.underlying t = some d := by
    cases n with
    | zero => simp [eqB] at h
    | succ n =>
      simp only [eqB] at h
      cases hu : P.underlying t with
      | none => rw [hu] at h; simp at h
      | some d => exact ⟨d, rfl⟩
  obtain ⟨d, hu⟩ := hu
  have hpos := cnt_pos s
  simp only [part, Sem.run_bind, run_isAgg' hu, Result.andThen_ok]
  cases ha : aggB P t with
  | true =>
    simp only [if_true, Sem.run_bind, run_sizeOf' (hc ▸ hpos), Result.andThen_ok, Sem.run_pure, packV, ha, hc]
    congr 2
    simp [List.take_drop]
  | false =>
    have h1 := (eqB_flat h).2 ha
    have hlt : off < cs.length := by omega
    simp only [Bool.false_eq_true, if_false, packV, ha, h1]
    have e : (List.drop off cs).take 1 = [cs[off]] := by rw [List.drop_eq_getElem_cons hlt]; rfl
    rw [e]
    simp [hlt]
theorem eqB_run : ∀ (n : Nat) {d : Nat} {t : TypeId} {s : T}, eqB P n t s = true → n ≤ d → ∀ {ok : Nat → Prop} {x y : s.den} {cs cs' : List Value}, s.holds w ok x cs → s.holds w ok y cs' →
    (Op.equalIn d t (packV P t cs) (packV P t cs')).run P w = .ok (s.eqb x y) w
  | 0, _, _, _, h, _, _, _, _, _, _, _, _ => by simp [eqB] at h
  | n + 1, 0, _, _, _, h, _, _, _, _, _, _, _ => by omega
  | n + 1, d + 1, t, s, h, hd, ok, x, y, cs, cs', hx, hy => by
    simp only [eqB] at h
    split at h
    · rename_i k hu
      cases s <;> simp at h
      subst h
      simp only [T.holds] at hx hy
      subst hx; subst hy
      have ha : aggB P t = false := by simp [aggB, hu]
      simp only [packV, ha, List.headD_cons]
      exact run_equalIn_int w d t k k x y hu
    · rename_i hu
      cases s <;> simp at h
      simp only [T.holds] at hx hy
      subst hx; subst hy
      have ha : aggB P t = false := by simp [aggB, hu]
      simp only [packV, ha, List.headD_cons]
      exact run_equalIn_bool' w d t x y hu
    · rename_i hu
      cases s <;> simp at h
      simp only [T.holds] at hx hy
      subst hx; subst hy
      have ha : aggB P t = false := by simp [aggB, hu]
      simp only [packV, ha, List.headD_cons]
      rw [run_equalIn_string w d t _ _ hu, ByteArray.toList_eq, ByteArray.toList_eq]
      simp [T.eqb]
    · rename_i fs hu
      simp only [Bool.and_eq_true, Bool.not_eq_true'] at h
      have ha : aggB P t = true := by simp [aggB, hu]
      have hf : P.fieldsOf t = fs := by simp [Program.fieldsOf, hu]
      simp only [packV, ha]
      rw [run_equalIn_struct w d t _ _ (by rw [hf]; exact hu) h.1, hf]
      -- the fields, one by one
      have fields : ∀ {l : List Field} {off : Nat} {s : T} {x y : s.den}, eqFieldsB P (eqB P n) l off s = true → off + s.cnt ≤ cs.length → off + s.cnt ≤ cs'.length →
          s.holds w ok x ((cs.drop off).take s.cnt) → s.holds w ok y ((cs'.drop off).take s.cnt) → (Op.eqFields d cs.toArray cs'.toArray l).run P w = .ok (s.eqb x y) w := by
        intro l
        induction l with
        | nil => intro off s x y h; simp [eqFieldsB] at h
        | cons f r ih =>
          intro off s x y h hl hl' h1 h2
          cases r with
          | nil =>
            simp only [eqFieldsB, Bool.and_eq_true, bne_iff_ne, beq_iff_eq] at h
            obtain ⟨⟨⟨hn, ho⟩, hg⟩, hc⟩ := h
            subst ho
            have e1 := part_pack (w := w) hg hc hl
            have e2 := part_pack (w := w) hg hc hl'
            have e3 := eqB_run n (d := d) hg (by omega) h1 h2
            simp only [Op.eqFields, ne_eq, hn, not_false_eq_true, if_true, Sem.run_bind, e1, e2, Result.andThen_ok, e3]
            cases s.eqb x y <;> simp
          | cons g r =>
            cases s
            case pair a b =>
              simp only [eqFieldsB, Bool.and_eq_true, bne_iff_ne, beq_iff_eq] at h
              obtain ⟨⟨⟨⟨hn, ho⟩, hg⟩, hc⟩, hr⟩ := h
              subst ho
              simp only [T.cnt] at hl hl' h1 h2
              rw [take_drop] at h1 h2
              simp only [T.holds] at h1 h2
              obtain ⟨c1, c2, he1, h11, h12⟩ := h1
              obtain ⟨c1', c2', he2, h21, h22⟩ := h2
              have l1 := T.holds_len h11
              have l2 := T.holds_len h21
              have s1 := List.append_inj he1 (by rw [l1, List.length_take, List.length_drop]; omega)
              have s2 := List.append_inj he2 (by rw [l2, List.length_take, List.length_drop]; omega)
              obtain ⟨rfl, rfl⟩ := s1
              obtain ⟨rfl, rfl⟩ := s2
              have e1 := part_pack (w := w) hg hc (cs := cs) (off := f.offset) (by omega)
              have e2 := part_pack (w := w) hg hc (cs := cs') (off := f.offset) (by omega)
              have e3 := eqB_run n (d := d) hg (by omega) h11 h21
              have e4 := ih (off := f.offset + a.cnt) hr (by omega) (by omega) h12 h22
              rw [Op.eqFields]
              simp only [ne_eq, hn, not_false_eq_true, if_true, Sem.run_bind, e1, e2, Result.andThen_ok, e3]
              simp only [T.eqb]
              cases a.eqb x.1 y.1
              · simp
              · simpa using e4
            all_goals simp [eqFieldsB] at h
      have lx := T.holds_len hx
      have ly := T.holds_len hy
      refine fields h.2 (off := 0) (by omega) (by omega) ?_ ?_
      · rw [List.drop_zero, List.take_of_length_le (by omega)]; exact hx
      · rw [List.drop_zero, List.take_of_length_le (by omega)]; exact hy
    · simp at h
theorem eqOk_of {n : Nat} {t : TypeId} {s : T} (hg : P.eqGuardType P.depth t = false) (hn : n ≤ Op.maxDepth) (ha : aggB P t = true) (h : eqB P n t s = true) : EqOk P t s := by
  refine ⟨hg, fun x y cs cs' w ok hx hy => ?_⟩
  have := eqB_run (w := w) n h hn hx hy
  simp only [packV, ha] at this
  exact this
theorem tOk_eq {t : TypeId} {i : TI} {s : T} (h1 : (P.underlying t).map summ = some i.kind) (h2 : (P.info? t).map (fun j => (j.size, j.bytes, j.zero.map Value.cells)) = some (i.size, i.bytes, some i.zero.toArray)) (h3 : i.zero.length = i.size) (hz : (P.info? t).map (fun j => j.zero.map Value.isAggV) = some (some i.isAgg))
    (ht : i.t = some s) (hg : P.eqGuardType P.depth t = false) (ha : aggB P t = true) (he : eqB P 12 t s = true) : TOk P t i :=
  ⟨h1, h2, h3, hz, fun _ T' hT => by rw [ht] at hT; simp at hT; subst hT; exact eqOk_of hg (by decide) ha he⟩
end
end Go.GG

/- A slice that may be nil: two specifications as one. -/
namespace Go.GG
open Go.RowKit
section
variable {τ : Tabs} {P : Program}
/-- A specification by others, whichever fits what comes in. -/
theorem spec_via {f : FuncId} {ps : List PK} {rs : List RK} {F : Nat → RD PK.den ps → Option (RD RK.den rs)} (hr : Runs P f)
    (h : ∀ k x y, F k x = some y → ∀ (w : World) (ok : Nat → Prop) (vals : List Value), PReps P w ok ps x vals →
      ∃ (ps' : List PK) (F' : Nat → RD PK.den ps' → Option (RD RK.den rs)) (x' : RD PK.den ps'), SpecOk P f ⟨ps', rs, F'⟩ ∧ F' k x' = some y ∧ PReps P w ok ps' x' vals ∧ pblocks w ps' vals = pblocks w ps vals ∧ lblocks w ps' vals = lblocks w ps vals ∧ vblocks ps' vals = vblocks ps vals) :
    SpecOk P f ⟨ps, rs, F⟩ := by
  refine ⟨hr, fun k x y hy w ok0 vals hok htb hp hnd hpb => ?_⟩
  obtain ⟨ps', F', x', h1, h2, h3, h4, h5, h6⟩ := h k x y hy w ok0 vals hp
  have := h1.2 k x' y h2 w ok0 vals hok htb h3 (by simp only; rw [h4, h6]; exact hnd) (by simp only; rw [h4]; exact hpb)
  simp only [h4, h5] at this
  exact this
theorem nil_or {w : World} {ok : Nat → Prop} {t : T} {xs : List t.den} {v : Value} (h : (T.slice t).holds w ok xs [v]) : (v = .slice none 0 0 ∧ xs = []) ∨ ∃ a n c, v = .slice (some a) n c := by
  have h0 := h
  simp only [T.holds] at h
  obtain ⟨A, c, hv, _, h⟩ := h
  simp only [List.cons.injEq, and_true] at hv
  subst hv
  cases A with
  | some a => exact .inr ⟨a, _, c, rfl⟩
  | none =>
    rcases h with ⟨rfl, hc⟩ | ⟨b, off, C, e, fr, hA, _⟩
    · rw [hc rfl]; exact .inl ⟨rfl, rfl⟩
    · cases hA
theorem spec_nil0 {f : FuncId} {t : T} {post : List PK} {rs : List RK} {F : Nat → RD PK.den (.imm (.slice t) :: post) → Option (RD RK.den rs)} {Fn : Nat → RD PK.den (.nils :: post) → Option (RD RK.den rs)} {Fs : Nat → RD PK.den (.nnil t :: post) → Option (RD RK.den rs)}
    (hn : SpecOk P f ⟨.nils :: post, rs, Fn⟩) (hs : SpecOk P f ⟨.nnil t :: post, rs, Fs⟩)
    (h1 : ∀ k (xs : List t.den) (r : RD PK.den post), F k (RD.mk (k := PK.imm (.slice t)) xs r) = Fs k (RD.mk (k := PK.nnil t) xs r))
    (h2 : ∀ k (r : RD PK.den post), F k (RD.mk (k := PK.imm (.slice t)) [] r) = Fn k (RD.mk (k := PK.nils) () r)) : SpecOk P f ⟨.imm (.slice t) :: post, rs, F⟩ := by
  have eta : ∀ (x : RD PK.den (.imm (.slice t) :: post)), x = RD.mk (k := PK.imm (.slice t)) (RD.hd (k := PK.imm (.slice t)) x) (RD.tl (k := PK.imm (.slice t)) x) := by
    intro x; cases post <;> rfl
  refine spec_via hn.1 fun k x y hy w ok vals hp => ?_
  obtain ⟨v, vs', rfl, hv, hvs⟩ := hp
  rw [eta x] at hy
  rcases nil_or hv with ⟨rfl, he⟩ | ⟨a, n, c, rfl⟩
  · refine ⟨_, Fn, RD.mk (k := PK.nils) () (RD.tl (k := PK.imm (.slice t)) x), hn, ?_, ⟨_, vs', rfl, rfl, ?_⟩, rfl, rfl, rfl⟩
    · rw [← h2, ← hy, he]
    · rw [tl_mk]; exact hvs
  · refine ⟨_, Fs, RD.mk (k := PK.nnil t) (RD.hd (k := PK.imm (.slice t)) x) (RD.tl (k := PK.imm (.slice t)) x), hs, ?_, ⟨_, vs', rfl, ?_, ?_⟩, rfl, rfl, rfl⟩
    · rw [← h1, ← hy]
    · rw [hd_mk]; exact ⟨hv, a, n, c, rfl⟩
    · rw [tl_mk]; exact hvs
end
end Go.GG

/- Functions of the model's own; a row of the caller's, whatever room its block has. -/
namespace Go.GG
open Go.RowKit
section
variable {τ : Tabs} {P : Program}
theorem spec_own0 {f : FuncId} {t : T} {post : List PK} {rs : List RK} {F : Nat → RD PK.den (.own t :: post) → Option (RD RK.den rs)} {Fb : Nat → RD PK.den (.blk t :: post) → Option (RD RK.den rs)}
    (hb : SpecOk P f ⟨.blk t :: post, rs, Fb⟩)
    (h : ∀ k (xs : List t.den) (c : Nat) (r : RD PK.den post) y, xs.length ≤ c → F k (RD.mk (k := PK.own t) xs r) = some y → Fb k (RD.mk (k := PK.blk t) (xs, c) r) = some y) : SpecOk P f ⟨.own t :: post, rs, F⟩ := by
  have eta : ∀ (x : RD PK.den (.own t :: post)), x = RD.mk (k := PK.own t) (RD.hd (k := PK.own t) x) (RD.tl (k := PK.own t) x) := by
    intro x; cases post <;> rfl
  refine spec_via hb.1 fun k x y hy w ok vals hp => ?_
  obtain ⟨v, vs', rfl, hv, hvs⟩ := hp
  rw [eta x] at hy
  have hv : OwnRow w ok t (RD.hd (k := PK.own t) x) v := hv
  obtain ⟨A, c, rfl, hcl, _⟩ := own_form hv
  refine ⟨_, Fb, RD.mk (k := PK.blk t) (RD.hd (k := PK.own t) x, c) (RD.tl (k := PK.own t) x), hb, h k _ c _ y hcl hy, ⟨_, vs', rfl, ?_, ?_⟩, rfl, rfl, rfl⟩
  · rw [hd_mk]; exact ⟨A, rfl, hv⟩
  · rw [tl_mk]; exact hvs
/-! slices.overlaps: never, where the blocks are two and no string's bytes. -/
theorem run_overlaps {w : World} {tS tR e : TypeId} (ht : P.underlying tS = some (.slice e)) {size : Nat} (hz : ∀ w, (Go.sizeOf e).run P w = .ok size w) {A B : Option Addr} {la ca lb cb : Nat}
    (hA : ∀ a, A = some a → a.spot = none ∧ ∃ C e, w.heap[a.block]? = some (.cells C e (0, 0))) (hB : ∀ a, B = some a → a.spot = none ∧ ∃ C e, w.heap[a.block]? = some (.cells C e (0, 0)))
    (hne : ∀ a b, A = some a → B = some b → a.block ≠ b.block) :
    (Extern.SlicesOverlaps.overlaps #[tS, tS] #[tR] #[.slice A la ca, .slice B lb cb]).run P w = .ok (.bool false) w := by
  change Sem.run P (α := Value) (do
    let some t := (#[tS, tS] : Array TypeId)[0]? | stuck "slices.overlaps: no parameter types"
    let .slice elem ← underlying t | stuck "slices.overlaps: slice type expected"
    let size ← sizeOf elem
    match A, B with
    | some a, some b =>
      if la = 0 ∨ lb = 0 ∨ size = 0 then pure (Value.bool false)
      else if a.block != b.block && (← frozen a) && (← frozen b) then unsupported .addressObserved
      else do
        if a.block != b.block then do
          noView a; noView b
          if ← mayBeOne a b then return Value.bool ((← choose (.extern "sameAddr.stringBytes" 2)) == 1)
        pure (Value.bool (a.block == b.block && a.off < b.off + lb * size && b.off < a.off + la * size))
    | _, _ => pure (Value.bool false)) w = _
  cases A with
  | none => simp [run_underlying ht, hz]
  | some a => cases B with
    | none => simp [run_underlying ht, hz]
    | some b =>
      obtain ⟨_, C, e1, ha⟩ := hA a rfl
      obtain ⟨_, D, e2, hb⟩ := hB b rfl
      have hn := hne a b rfl rfl
      have hnb : (a.block != b.block) = true := by simpa using hn
      have hnb' : (a.block == b.block) = false := by simpa using hn
      have fa : ∀ o s, w.frozen? ⟨a.block, o, s⟩ = false := fun o s => by simp [World.frozen?, ha]
      have fb : ∀ o s, w.frozen? ⟨b.block, o, s⟩ = false := fun o s => by simp [World.frozen?, hb]
      have fa' : w.frozen? a = false := fa a.off a.spot
      have fb' : w.frozen? b = false := fb b.off b.spot
      have sa : w.shape? a.block = some (e1, C.size) := by simp [World.shape?, ha]
      have sb : w.shape? b.block = some (e2, D.size) := by simp [World.shape?, hb]
      by_cases h0 : la = 0 ∨ lb = 0 ∨ size = 0
      · simp [run_underlying ht, hz, h0]
      · simp [run_underlying ht, hz, h0, hnb, hnb', frozen, noView, viewAt, mayBeOne, stringish, shape, Sem.run, sa, sb, fa, fb]
def overlapsSpec : FSpec := ⟨[.view, .view], [.imm .bool], fun _ _ => some false⟩
theorem overlaps_ok {f : FuncId} {fn : Func} {tS tR e : TypeId} (hf : P.funcs[f]? = some fn) (hname : (fn.name == "runtime.NumGoroutine") = false) (hb : fn.body.isNone = true) (hn : Extern.findNext fn = none)
    (he : Extern.find fn = some (Extern.SlicesOverlaps.overlaps #[tS, tS] #[tR])) (ht : P.underlying tS = some (.slice e)) (hz : 0 < P.cellsOf e) : XSpec P f overlapsSpec := by
  refine ⟨rfl, by simp [overlapsSpec], ⟨_, rfl, rfl⟩, fun k x y hy w ok0 vals hok hp hnd => ?_⟩
  obtain ⟨v1, vs1, rfl, h1, v2, vs2, rfl, h2, h3⟩ := hp
  simp only [PReps] at h3; subst h3
  obtain ⟨A, n, c, rfl, hA⟩ := h1
  obtain ⟨B, n', c', rfl, hB⟩ := h2
  obtain rfl : false = y := Option.some.inj hy
  refine ⟨.bool false, ?_, ?_⟩
  · rw [run_callFunc_extern hf hname hb hn he]
    rw [run_overlaps ht (fun w => run_sizeOf' hz) (fun a ha => (hA a ha).2) (fun a ha => (hB a ha).2) ?_]
    · rfl
    · rintro a b rfl rfl hab
      simp only [overlapsSpec, vblocks, rowBlock] at hnd
      rw [hab] at hnd
      simp at hnd
  · exact ⟨_, _, rfl, rfl, rfl, rfl⟩
/-! bytealg's comparing of texts. -/
def strCmp (x y : List UInt8) : Int := cond (strLess x y) (-1) (cond (strLess y x) 1 0)
theorem compareBytes_eq : ∀ x y : List UInt8, Lib.compareBytes x y = strCmp x y
  | [], [] => rfl
  | [], _ :: _ => rfl
  | _ :: _, [] => rfl
  | a :: x, b :: y => by
    have ih := compareBytes_eq x y
    have e : ∀ (a b : UInt8) (x y : List UInt8), strLess (a :: x) (b :: y) = (decide (a < b) || (a == b && strLess x y)) := fun _ _ _ _ => rfl
    unfold strCmp at ih ⊢
    simp only [Lib.compareBytes, e]
    by_cases h1 : a < b
    · simp [h1]
    · by_cases h2 : b < a
      · have hab : a ≠ b := fun e => by subst e; exact h1 h2
        have hab' : (a == b) = false := by simpa using hab
        simp [h1, h2, hab']
      · have hab : a = b := UInt8.le_antisymm (UInt8.not_lt.1 h2) (UInt8.not_lt.1 h1)
        subst hab
        simp [h1, ih]
def cmpSpec : FSpec := ⟨[.ext .str, .ext .str], [.imm (.int .i64)], fun _ x => some (strCmp x.1 x.2)⟩
theorem cmp_ok {f : FuncId} {fn : Func} (hf : P.funcs[f]? = some fn) (hname : (fn.name == "runtime.NumGoroutine") = false) (hb : fn.body.isNone = true) (hn : Extern.findNext fn = none)
    (he : Extern.find fn = some Extern.BytealgCompare.compare) : XSpec P f cmpSpec := by
  refine ⟨rfl, by simp [cmpSpec], ⟨_, rfl, rfl⟩, fun k x y hy w ok0 vals hok hp hnd => ?_⟩
  obtain ⟨v1, vs1, rfl, h1, v2, vs2, rfl, h2, h3⟩ := hp
  simp only [PReps] at h3; subst h3
  have e1 := rep_str (P := P) (m := fun _ => none) h1
  have e2 := rep_str (P := P) (m := fun _ => none) h2
  subst e1 e2
  obtain rfl : strCmp x.1 x.2 = y := Option.some.inj hy
  refine ⟨.int .i64 (strCmp x.1 x.2), ?_, ?_⟩
  · rw [run_callFunc_extern hf hname hb hn he, Lib.run_compareString, compareBytes_eq]
    rfl
  · exact ⟨_, _, rfl, rfl, rfl, rfl⟩
end
/-! What slices.Insert (of one element) and slices.Delete come to. -/
def insertF {α : Type} (b : Nat) (xs : List α) (i : Int) (vs : List α) : Option (List α) :=
  cond (decide (0 ≤ i) && decide (i ≤ xs.length) && Nat.beq vs.length 1 && room (xs.length + vs.length) b) (some (xs.take i.toNat ++ vs ++ xs.drop i.toNat)) none
def deleteF {α : Type} (xs : List α) (i j : Int) : Option (List α) :=
  cond (decide (0 ≤ i) && decide (i ≤ j) && decide (j ≤ xs.length)) (some (xs.take i.toNat ++ xs.drop j.toNat)) none
end Go.GG
