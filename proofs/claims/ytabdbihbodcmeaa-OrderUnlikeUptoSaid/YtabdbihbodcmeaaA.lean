/- Orders: their form as bytes; which may be. -/
import Derived.Test.YtabdbihbodcmeaaK6
import Derived.Test.YtabdbihbodcmeaaM
import Derived.Test.YtabdbihbodcmeaaW
open Go Go.GG
set_option linter.unusedVariables false
set_option linter.unusedSimpArgs false
namespace Go.Proofs.Ytabdbihbodcmeaa.gg
/-! Short names of small laws. -/
theorem w0 {α : Type} [BEq α] [ReflBEq α] (a : α) : (a == a) = true := beq_self_eq_true a
theorem w1 {α : Type} (x y : α) : cond true x y = x := rfl
theorem w2 {α : Type} (x y : α) : cond false x y = y := rfl
theorem w3 {α β : Type} (a : α) (f : α → Option β) : (some a).bind f = f a := rfl
theorem w4 : (!false) = true := rfl
theorem w5 : (!true) = false := rfl
theorem w6 (b : Bool) : (!!b) = b := Bool.not_not b
theorem w7 (b : Bool) : (true && b) = b := Bool.true_and b
theorem w8 (b : Bool) : (false && b) = false := rfl
theorem w9 (b : Bool) : (b && true) = b := Bool.and_true b
theorem w10 (b : Bool) : (b && false) = false := Bool.and_false b
theorem w11 (b : Bool) : (b || false) = b := Bool.or_false b
theorem w12 (b : Bool) : (b || true) = true := Bool.or_true b
theorem w13 (b : Bool) : (true || b) = true := rfl
theorem w14 (b : Bool) : (false || b) = b := rfl
theorem w15 : (false == true) = false := rfl
theorem w16 : (true == false) = false := rfl
abbrev Cal := Int × List Str × Int × Int
abbrev Pln := Int × (Str × Str) × Int × Int × Int
abbrev Hl := Str × Int × Int
abbrev Mk := Str × Int
abbrev Pcl := Int × (Str × Str) × List Hl × List Mk
abbrev Or := Int × (Int × Int) × Cal × List Int × Int × Int × Int × Bool × Pln × Pcl × Str × Int
abbrev Fl := Int × Int × Int × Int × (List Str) × Int × Int × (List Int) × Int × Int × Int × Bool × Int × Str × Str × Int × Int × Int × Int × Str × Str × (List Hl) × (List Mk) × Str × Int
abbrev mk0 : Mk := ([], 0)
abbrev hl0 : Hl := ([], 0, 0)
abbrev or0 : Or := (0, (0, 0), (0, [], 0, 0), [], 0, 0, 0, false, (0, ([], []), 0, 0, 0), (0, ([], []), [], []), [], 0)
theorem slices_IndexFunc_string_string_is (l : List (List UInt8)) (f : List UInt8 → Option Bool) (p : List UInt8 → Bool) (hl : l.length ≤ 1000000000000) (hf : ∀ x, f x = some (p x)) : slices_IndexFunc_string_string' l f = some (match l.findIdx? p with | some i => (i : Int) | none => -1) := by
  have key0 := index_loop l p (fun i => slices_IndexFunc_string_string_p6' l f (l.length : Int) (i : Int)) (f := fun i => some (.inr (i : Int))) (a := some (.inl ())) (fun i hi => by
    try dsimp only
    rw [slices_IndexFunc_string_string_p6_eq, decide_eq_true (by omega : (i : Int) < (l.length : Int)), at?_lt hi]
    simp only [cond_true, Option.bind_some, hf]
    rw [wrap_succ (by omega)]) (by
    try dsimp only
    rw [slices_IndexFunc_string_string_p6_eq, decide_eq_false (by omega : ¬ (l.length : Int) < (l.length : Int))]; rfl)
  unfold slices_IndexFunc_string_string'
  simp only [show ((0 : Nat) : Int) = 0 from rfl] at key0
  rw [key0]
  cases l.findIdx? p <;> rfl
theorem slices_ContainsFunc_string_string_is (l : List (List UInt8)) (f : List UInt8 → Option Bool) (p : List UInt8 → Bool) (hl : l.length ≤ 1000000000000) (hf : ∀ x, f x = some (p x)) : slices_ContainsFunc_string_string' l f = some (l.any p) := by
  unfold slices_ContainsFunc_string_string'
  rw [slices_IndexFunc_string_string_is l f p hl hf]
  simp only [Option.bind_some]
  cases hi : l.findIdx? p with
  | none =>
    rw [List.findIdx?_eq_none_iff] at hi
    have : l.any p = false := by
      rw [List.any_eq_false]
      intro x hx
      rw [hi x hx]; simp
    rw [this]; rfl
  | some i =>
    obtain ⟨h1, h2, _⟩ := List.findIdx?_eq_some_iff_getElem.1 hi
    have : l.any p = true := List.any_eq_true.2 ⟨_, List.getElem_mem h1, h2⟩
    rw [this]
    simp only
    rw [decide_eq_true (by omega : (i : Int) ≥ 0)]
theorem slices_IndexFunc_int_int_is (l : List (Int)) (f : Int → Option Bool) (p : Int → Bool) (hl : l.length ≤ 1000000000000) (hf : ∀ x, f x = some (p x)) : slices_IndexFunc_int_int' l f = some (match l.findIdx? p with | some i => (i : Int) | none => -1) := by
  have key0 := index_loop l p (fun i => slices_IndexFunc_int_int_p6' l f (l.length : Int) (i : Int)) (f := fun i => some (.inr (i : Int))) (a := some (.inl ())) (fun i hi => by
    try dsimp only
    rw [slices_IndexFunc_int_int_p6_eq, decide_eq_true (by omega : (i : Int) < (l.length : Int)), at?_lt hi]
    simp only [cond_true, Option.bind_some, hf]
    rw [wrap_succ (by omega)]) (by
    try dsimp only
    rw [slices_IndexFunc_int_int_p6_eq, decide_eq_false (by omega : ¬ (l.length : Int) < (l.length : Int))]; rfl)
  unfold slices_IndexFunc_int_int'
  simp only [show ((0 : Nat) : Int) = 0 from rfl] at key0
  rw [key0]
  cases l.findIdx? p <;> rfl
theorem slices_ContainsFunc_int_int_is (l : List (Int)) (f : Int → Option Bool) (p : Int → Bool) (hl : l.length ≤ 1000000000000) (hf : ∀ x, f x = some (p x)) : slices_ContainsFunc_int_int' l f = some (l.any p) := by
  unfold slices_ContainsFunc_int_int'
  rw [slices_IndexFunc_int_int_is l f p hl hf]
  simp only [Option.bind_some]
  cases hi : l.findIdx? p with
  | none =>
    rw [List.findIdx?_eq_none_iff] at hi
    have : l.any p = false := by
      rw [List.any_eq_false]
      intro x hx
      rw [hi x hx]; simp
    rw [this]; rfl
  | some i =>
    obtain ⟨h1, h2, _⟩ := List.findIdx?_eq_some_iff_getElem.1 hi
    have : l.any p = true := List.any_eq_true.2 ⟨_, List.getElem_mem h1, h2⟩
    rw [this]
    simp only
    rw [decide_eq_true (by omega : (i : Int) ≥ 0)]
theorem slices_IndexFunc_api_Hold_api_Hold_is (l : List (Hl)) (f : Hl → Option Bool) (p : Hl → Bool) (hl : l.length ≤ 1000000000000) (hf : ∀ x, f x = some (p x)) : slices_IndexFunc_api_Hold_api_Hold' l f = some (match l.findIdx? p with | some i => (i : Int) | none => -1) := by
  have key0 := index_loop l p (fun i => slices_IndexFunc_api_Hold_api_Hold_p6' l f (l.length : Int) (i : Int)) (f := fun i => some (.inr (i : Int))) (a := some (.inl ())) (fun i hi => by
    try dsimp only
    rw [slices_IndexFunc_api_Hold_api_Hold_p6_eq, decide_eq_true (by omega : (i : Int) < (l.length : Int)), at?_lt hi]
    simp only [cond_true, Option.bind_some, hf]
    rw [wrap_succ (by omega)]) (by
    try dsimp only
    rw [slices_IndexFunc_api_Hold_api_Hold_p6_eq, decide_eq_false (by omega : ¬ (l.length : Int) < (l.length : Int))]; rfl)
  unfold slices_IndexFunc_api_Hold_api_Hold'
  simp only [show ((0 : Nat) : Int) = 0 from rfl] at key0
  rw [key0]
  cases l.findIdx? p <;> rfl
theorem slices_ContainsFunc_api_Hold_api_Hold_is (l : List (Hl)) (f : Hl → Option Bool) (p : Hl → Bool) (hl : l.length ≤ 1000000000000) (hf : ∀ x, f x = some (p x)) : slices_ContainsFunc_api_Hold_api_Hold' l f = some (l.any p) := by
  unfold slices_ContainsFunc_api_Hold_api_Hold'
  rw [slices_IndexFunc_api_Hold_api_Hold_is l f p hl hf]
  simp only [Option.bind_some]
  cases hi : l.findIdx? p with
  | none =>
    rw [List.findIdx?_eq_none_iff] at hi
    have : l.any p = false := by
      rw [List.any_eq_false]
      intro x hx
      rw [hi x hx]; simp
    rw [this]; rfl
  | some i =>
    obtain ⟨h1, h2, _⟩ := List.findIdx?_eq_some_iff_getElem.1 hi
    have : l.any p = true := List.any_eq_true.2 ⟨_, List.getElem_mem h1, h2⟩
    rw [this]
    simp only
    rw [decide_eq_true (by omega : (i : Int) ≥ 0)]
theorem slices_IndexFunc_api_Mark_api_Mark_is (l : List (Mk)) (f : Mk → Option Bool) (p : Mk → Bool) (hl : l.length ≤ 1000000000000) (hf : ∀ x, f x = some (p x)) : slices_IndexFunc_api_Mark_api_Mark' l f = some (match l.findIdx? p with | some i => (i : Int) | none => -1) := by
  have key0 := index_loop l p (fun i => slices_IndexFunc_api_Mark_api_Mark_p6' l f (l.length : Int) (i : Int)) (f := fun i => some (.inr (i : Int))) (a := some (.inl ())) (fun i hi => by
    try dsimp only
    rw [slices_IndexFunc_api_Mark_api_Mark_p6_eq, decide_eq_true (by omega : (i : Int) < (l.length : Int)), at?_lt hi]
    simp only [cond_true, Option.bind_some, hf]
    rw [wrap_succ (by omega)]) (by
    try dsimp only
    rw [slices_IndexFunc_api_Mark_api_Mark_p6_eq, decide_eq_false (by omega : ¬ (l.length : Int) < (l.length : Int))]; rfl)
  unfold slices_IndexFunc_api_Mark_api_Mark'
  simp only [show ((0 : Nat) : Int) = 0 from rfl] at key0
  rw [key0]
  cases l.findIdx? p <;> rfl
theorem slices_ContainsFunc_api_Mark_api_Mark_is (l : List (Mk)) (f : Mk → Option Bool) (p : Mk → Bool) (hl : l.length ≤ 1000000000000) (hf : ∀ x, f x = some (p x)) : slices_ContainsFunc_api_Mark_api_Mark' l f = some (l.any p) := by
  unfold slices_ContainsFunc_api_Mark_api_Mark'
  rw [slices_IndexFunc_api_Mark_api_Mark_is l f p hl hf]
  simp only [Option.bind_some]
  cases hi : l.findIdx? p with
  | none =>
    rw [List.findIdx?_eq_none_iff] at hi
    have : l.any p = false := by
      rw [List.any_eq_false]
      intro x hx
      rw [hi x hx]; simp
    rw [this]; rfl
  | some i =>
    obtain ⟨h1, h2, _⟩ := List.findIdx?_eq_some_iff_getElem.1 hi
    have : l.any p = true := List.any_eq_true.2 ⟨_, List.getElem_mem h1, h2⟩
    rw [this]
    simp only
    rw [decide_eq_true (by omega : (i : Int) ≥ 0)]
def nC : Cd Int := Cd.num 2147483647 (by decide) (by decide)
def tC : Cd Str := Cd.str 64 (by decide)
def hlC : Cd Hl := tC.pair (Cd.u.pair nC)
def mkC : Cd Mk := tC.pair Cd.u
def calC : Cd Cal := nC.pair ((tC.list 16 (by decide)).pair (Cd.u.pair nC))
def plnC : Cd Pln := Cd.u.pair ((tC.pair tC).pair (nC.pair (nC.pair nC)))
def pclC : Cd Pcl := Cd.u.pair ((tC.pair tC).pair ((hlC.list 256 (by decide)).pair (mkC.list 256 (by decide))))
def orC : Cd Or := nC.pair ((nC.pair Cd.u).pair (calC.pair ((nC.list 16 (by decide)).pair (nC.pair (nC.pair (Cd.u.pair (Cd.bit.pair (plnC.pair (pclC.pair (tC.pair nC))))))))))
/-! ### Which may be -/
def btw (x m : Int) : Bool := decide (x ≥ 0) && decide (x ≤ m)
def keyB (s : Str) : Bool := decide ((s.length : Int) ≤ 64)
def calB (c : Cal) : Bool := btw c.1 4 && (decide ((c.2.1.length : Int) ≤ 16) && (c.2.1.all keyB && btw c.2.2.2 1048576))
def hlB (h : Hl) : Bool := keyB h.1 && btw h.2.2 2147483647
def pclB (p : Pcl) : Bool := [p.2.1.1, p.2.1.2].all keyB && (decide ((p.2.2.1.length : Int) ≤ 256) && (decide ((p.2.2.2.length : Int) ≤ 256) && (p.2.2.1.all hlB && p.2.2.2.all fun m => keyB m.1)))
def orMay : Or → Bool := fun (kind, (client, _), c, groups, group, code, _, _, (_, (pf, pt), pfrom, pto, pstep), p, key, n) =>
  decide (kind ≥ 1) && (decide (kind < 18) && (btw client 7 && (calB c && (decide ((groups.length : Int) ≤ 16) && (([group, pfrom, pto] ++ groups).all (btw · 16) && (btw code 255 && (btw pstep 255 && ([pf, pt, key].all keyB && (btw n 2147483647 && pclB p)))))))))
theorem lt_ge (a b : Int) : decide (a < b) = !decide (a ≥ b) := by
  by_cases h : a < b
  · rw [decide_eq_true h, decide_eq_false (by omega)]; rfl
  · rw [decide_eq_false h, decide_eq_true (by omega)]; rfl
theorem gt_le (a b : Int) : decide (a > b) = !decide (a ≤ b) := by
  by_cases h : a ≤ b
  · rw [decide_eq_true h, decide_eq_false (by omega)]; rfl
  · rw [decide_eq_false h, decide_eq_true (by omega)]; rfl
theorem within_eq (x m : Int) : order_within' x m = some (btw x m) := by
  unfold order_within' btw
  cases decide (x ≥ 0) <;> rfl
theorem refWithin_eq (x m : Int) : ref22_within' x m = some (btw x m) := by
  unfold ref22_within' btw
  cases decide (x ≥ 0) <;> rfl
theorem not_any_not {α : Type} (l : List α) (p : α → Bool) : (!l.any fun x => !p x) = l.all p := by
  rw [List.all_eq_not_any_not]
theorem keys_eq (l : List Str) (hl : l.length ≤ 1048576) : order_keys' l = some (l.all keyB) := by
  unfold order_keys'
  rw [slices_ContainsFunc_string_string_is l (fun y1 => ((order_keys_1' y1).bind fun z => some z)) (fun s => !keyB s) (by omega) (fun x => rfl)]
  simp only [Option.bind_some]
  rw [not_any_not]
theorem call_eq (c : Cal) (hl : c.2.1.length ≤ 1048576) : order_call' c = some (calB c) := by
  obtain ⟨k, ks, tok, ttl⟩ := c
  unfold order_call' calB
  simp only [within_eq, Option.bind_some]
  rw [keys_eq _ hl]
  cases btw k 4 <;> cases decide ((ks.length : Int) ≤ 16) <;> cases ks.all keyB <;> rfl
theorem parcel_eq (p : Pcl) (h1 : p.2.2.1.length ≤ 1048576) (h2 : p.2.2.2.length ≤ 1048576) : order_parcel' p = some (pclB p) := by
  obtain ⟨q, ⟨f, t⟩, hs, ms⟩ := p
  simp only at h1 h2
  unfold order_parcel' pclB
  simp only [gt_le]
  rw [keys_eq _ (by simp), slices_ContainsFunc_api_Hold_api_Hold_is hs (fun y2 => ((order_parcel_1' y2).bind fun z => some z)) (fun h => !hlB h) (by omega) (fun x => by
    try dsimp only
    unfold order_parcel_1' order_key' hlB keyB
    simp only [within_eq, Option.bind_some]
    cases decide ((x.1.length : Int) ≤ 64) <;> rfl), slices_ContainsFunc_api_Mark_api_Mark_is ms (fun y4 => ((order_parcel_2' y4).bind fun z => some z)) (fun m => !keyB m.1) (by omega) (fun x => rfl)]
  simp only [Option.bind_some]
  rw [not_any_not, not_any_not ms (fun m => keyB m.1)]
  cases [f, t].all keyB <;> cases decide ((hs.length : Int) ≤ 256) <;> cases decide ((ms.length : Int) ≤ 256) <;> cases hs.all hlB <;> rfl
/-- How much an order has at most. -/
structure Sz (o : Or) : Prop where
  keys : o.2.2.1.2.1.length ≤ 1048576
  groups : o.2.2.2.1.length ≤ 1048576
  holds : o.2.2.2.2.2.2.2.2.2.1.2.2.1.length ≤ 1048576
  marks : o.2.2.2.2.2.2.2.2.2.1.2.2.2.length ≤ 1048576
theorem Check_eq (o : Or) (hz : Sz o) : order_Check' o = some (bif orMay o then 0 else 1) := by
  obtain ⟨hz1, hz2, hz3, hz4⟩ := hz
  obtain ⟨kind, ⟨client, seq⟩, ⟨ck, keys, tok, ttl⟩, groups, group, code, token, take, ⟨pid, ⟨pf, pt⟩, pfrom, pto, pstep⟩, ⟨qplan, ⟨qf, qt⟩, holds, marks⟩, key, n⟩ := o
  simp only at hz1 hz2 hz3 hz4
  unfold order_Check' orMay
  simp only [within_eq, Option.bind_some, lt_ge, gt_le]
  rw [call_eq _ hz1, room_of (by simp; omega), slices_ContainsFunc_int_int_is ([group, pfrom, pto] ++ groups) (fun y3 => ((order_Check_1' y3).bind fun z => some z)) (fun g => !btw g 16) (by simp; omega) (fun x => by
    try dsimp only
    unfold order_Check_1'
    simp only [within_eq, Option.bind_some]), keys_eq _ (by simp), parcel_eq _ hz3 hz4]
  simp only [Option.bind_some, cond_true]
  rw [show (([group, pfrom, pto] ++ groups).any fun g => !btw g 16) = !([group, pfrom, pto] ++ groups).all (btw · 16) by rw [← not_any_not, Bool.not_not]]
  cases decide (kind ≥ 1)
  · rfl
  cases decide (kind ≥ 18)
  case true => rfl
  cases btw client 7
  · rfl
  cases calB (ck, keys, tok, ttl)
  · rfl
  cases decide ((groups.length : Int) ≤ 16)
  · rfl
  cases ([group, pfrom, pto] ++ groups).all (btw · 16)
  · rfl
  cases btw code 255
  · rfl
  cases btw pstep 255
  · rfl
  cases [pf, pt, key].all keyB
  · rfl
  cases btw n 2147483647
  · rfl
  cases pclB (qplan, (qf, qt), holds, marks) <;> rfl
/-! ### The second reading -/
theorem may16 (v : Fl) (ts : List Str) (hl : v.2.2.2.2.2.2.2.1.length ≤ 1048576) : ref22_May_p16' 0 v ts = bif v.2.2.2.2.2.2.2.1.all (btw · 16) then some (.inl (v, ts)) else some (.inr false) := by
  have key := all_loop v.2.2.2.2.2.2.2.1 (btw · 16) (fun i => ref22_May_p16' (i : Int) v ts) (a := some (.inl (v, ts))) (b := some (.inr false)) (fun i hi => by
    try dsimp only
    rw [ref22_May_p16_eq, decide_eq_true (by omega : (i : Int) < (v.2.2.2.2.2.2.2.1.length : Int)), at?_lt hi, wrap_succ (by omega)]
    simp only [cond_true, Option.bind_some, refWithin_eq]
    cases btw (v.2.2.2.2.2.2.2.1[i]) 16 <;> rfl) (by
    try dsimp only
    rw [ref22_May_p16_eq, decide_eq_false (by omega)]; rfl)
  exact key
def hsOf (v : Fl) : List Hl := v.2.2.2.2.2.2.2.2.2.2.2.2.2.2.2.2.2.2.2.2.2.1
def msOf (v : Fl) : List Mk := v.2.2.2.2.2.2.2.2.2.2.2.2.2.2.2.2.2.2.2.2.2.2.1
theorem may45 (v : Fl) (hl : (hsOf v).length ≤ 1048576) : ∀ (m i : Nat) (ts : List Str), i + m = (hsOf v).length → ts.length + m ≤ 4000000 →
    ref22_May_p45' (i : Int) v ts = bif ((hsOf v).drop i).all (fun h => btw h.2.2 2147483647) then some (.inl (v, ts ++ ((hsOf v).drop i).map (·.1))) else some (.inr false)
  | 0, i, ts, hi, ht => by
    rw [ref22_May_p45_eq]
    rw [show v.2.2.2.2.2.2.2.2.2.2.2.2.2.2.2.2.2.2.2.2.2.1 = hsOf v from rfl, decide_eq_false (by omega : ¬ (i : Int) < ((hsOf v).length : Int)), List.drop_of_length_le (by omega)]
    simp
  | m + 1, i, ts, hi, ht => by
    have hlt : i < (hsOf v).length := by omega
    have ih := may45 v hl m (i + 1) (ts ++ [((hsOf v)[i]).1]) (by omega) (by simp; omega)
    rw [ref22_May_p45_eq]
    rw [show v.2.2.2.2.2.2.2.2.2.2.2.2.2.2.2.2.2.2.2.2.2.1 = hsOf v from rfl, decide_eq_true (by omega : (i : Int) < ((hsOf v).length : Int)), at?_lt hlt, wrap_succ (by omega)]
    simp only [cond_true, Option.bind_some, refWithin_eq]
    rw [room_of (by simp; omega), ih, List.drop_eq_getElem_cons hlt]
    simp only [cond_true, List.all_cons, List.map_cons, List.append_assoc, List.singleton_append]
    cases btw ((hsOf v)[i]).2.2 2147483647 <;> rfl
theorem may68 (v : Fl) (hl : (msOf v).length ≤ 1048576) : ∀ (m i : Nat) (ts : List Str), i + m = (msOf v).length → ts.length + m ≤ 4000000 →
    ref22_May_p68' (i : Int) v ts = some (v, ts ++ ((msOf v).drop i).map (·.1))
  | 0, i, ts, hi, ht => by
    rw [ref22_May_p68_eq]
    rw [show v.2.2.2.2.2.2.2.2.2.2.2.2.2.2.2.2.2.2.2.2.2.2.1 = msOf v from rfl, decide_eq_false (by omega : ¬ (i : Int) < ((msOf v).length : Int)), List.drop_of_length_le (by omega)]
    simp
  | m + 1, i, ts, hi, ht => by
    have hlt : i < (msOf v).length := by omega
    have ih := may68 v hl m (i + 1) (ts ++ [((msOf v)[i]).1]) (by omega) (by simp; omega)
    rw [ref22_May_p68_eq]
    rw [show v.2.2.2.2.2.2.2.2.2.2.2.2.2.2.2.2.2.2.2.2.2.2.1 = msOf v from rfl, decide_eq_true (by omega : (i : Int) < ((msOf v).length : Int)), at?_lt hlt, wrap_succ (by omega)]
    simp only [cond_true, Option.bind_some]
    rw [room_of (by simp; omega), ih, List.drop_eq_getElem_cons hlt]
    simp only [cond_true, List.map_cons, List.append_assoc, List.singleton_append]
theorem may83 (v : Fl) (ts : List Str) (hl : ts.length ≤ 100000000) : ref22_May_p83' 0 v ts = bif ts.all keyB then some (.inl v) else some (.inr false) := by
  have key := all_loop ts keyB (fun i => ref22_May_p83' (i : Int) v ts) (a := some (.inl v)) (b := some (.inr false)) (fun i hi => by
    try dsimp only
    rw [ref22_May_p83_eq, decide_eq_true (by omega : (i : Int) < (ts.length : Int)), decide_eq_true (by omega : (0 : Int) ≤ (i : Int)), wrap_succ (by omega), Int.toNat_natCast, List.getElem?_eq_getElem hi]
    simp only [cond_true, Option.bind_some, Bool.and_self, gt_le, keyB]
    cases decide ((ts[i].length : Int) ≤ 64) <;> rfl) (by
    try dsimp only
    rw [ref22_May_p83_eq, decide_eq_false (by omega)]; rfl)
  exact key
theorem all_and {α : Type} (l : List α) (p q : α → Bool) : l.all (fun x => p x && q x) = (l.all p && l.all q) := by
  induction l with
  | nil => rfl
  | cons x l ih =>
    simp only [List.all_cons, ih]
    cases p x <;> cases q x <;> cases l.all p <;> rfl
theorem lt_not_ge18 (k : Int) : decide (k < 18) = !decide (k ≥ 18) := lt_ge k 18
theorem refMay_eq (o : Or) (hz : Sz o) : ref22_May' o = some (orMay o) := by
  obtain ⟨hz1, hz2, hz3, hz4⟩ := hz
  obtain ⟨kind, ⟨client, seq⟩, ⟨ck, keys, tok, ttl⟩, groups, group, code, token, take, ⟨pid, ⟨pf, pt⟩, pfrom, pto, pstep⟩, ⟨qplan, ⟨qf, qt⟩, holds, marks⟩, key, n⟩ := o
  simp only at hz1 hz2 hz3 hz4
  unfold ref22_May'
  simp only [refWithin_eq, Option.bind_some, lt_ge, gt_le]
  rw [room_of (by simp; omega), may16 _ _ hz2]
  simp only [cond_true]
  have e : ∀ ts : List Str, ts.length ≤ 1100000 → ref22_May_p45' 0 (kind, client, seq, ck, keys, tok, ttl, groups, group, code, token, take, pid, pf, pt, pfrom, pto, pstep, qplan, qf, qt, holds, marks, key, n) ts = bif holds.all (fun h => btw h.2.2 2147483647) then some (.inl ((kind, client, seq, ck, keys, tok, ttl, groups, group, code, token, take, pid, pf, pt, pfrom, pto, pstep, qplan, qf, qt, holds, marks, key, n), ts ++ holds.map (·.1))) else some (.inr false) := by
    intro ts ht
    exact may45 (kind, client, seq, ck, keys, tok, ttl, groups, group, code, token, take, pid, pf, pt, pfrom, pto, pstep, qplan, qf, qt, holds, marks, key, n) hz3 holds.length 0 ts (Nat.zero_add _) (by omega)
  have e2 : ∀ ts : List Str, ts.length ≤ 2500000 → ref22_May_p68' 0 (kind, client, seq, ck, keys, tok, ttl, groups, group, code, token, take, pid, pf, pt, pfrom, pto, pstep, qplan, qf, qt, holds, marks, key, n) ts = some ((kind, client, seq, ck, keys, tok, ttl, groups, group, code, token, take, pid, pf, pt, pfrom, pto, pstep, qplan, qf, qt, holds, marks, key, n), ts ++ marks.map (·.1)) := by
    intro ts ht
    exact may68 (kind, client, seq, ck, keys, tok, ttl, groups, group, code, token, take, pid, pf, pt, pfrom, pto, pstep, qplan, qf, qt, holds, marks, key, n) hz4 marks.length 0 ts (Nat.zero_add _) (by omega)
  have hmay : orMay (kind, (client, seq), (ck, keys, tok, ttl), groups, group, code, token, take, (pid, (pf, pt), pfrom, pto, pstep), (qplan, (qf, qt), holds, marks), key, n) =
      (decide (kind ≥ 1) && (!decide (kind ≥ 18) && (btw client 7 && (btw ck 4 && (decide ((keys.length : Int) ≤ 16) && (btw ttl 1048576 && (decide ((groups.length : Int) ≤ 16) && (btw group 16 && (groups.all (btw · 16) && (decide ((holds.length : Int) ≤ 256) && (decide ((marks.length : Int) ≤ 256) && (holds.all (fun h => btw h.2.2 2147483647) && ((([pf, pt, qf, qt, key] ++ keys ++ holds.map (·.1)) ++ marks.map (·.1)).all keyB && (btw code 255 && (btw pfrom 16 && (btw pto 16 && (btw pstep 255 && btw n 2147483647))))))))))))))))) := by
    unfold orMay calB pclB hlB
    simp only [lt_ge, List.all_append, List.all_cons, List.all_nil, Bool.and_true, all_and, List.all_map, Function.comp_def]
    ac_rfl
  rw [hmay]
  cases decide (kind ≥ 1)
  · rfl
  cases decide (kind ≥ 18)
  case true => rfl
  cases btw client 7
  · rfl
  cases btw ck 4
  · rfl
  cases decide ((keys.length : Int) ≤ 16)
  · rfl
  cases btw ttl 1048576
  · rfl
  cases decide ((groups.length : Int) ≤ 16)
  · rfl
  cases btw group 16
  · rfl
  cases groups.all (btw · 16)
  · rfl
  simp only [Int.reduceBEq, w0, w1, w2, w3, w4, w5, w6, w7, w8, w9, w10, w11, w12, w13, w14, w15, w16, Sum.elim_inl]
  cases decide ((holds.length : Int) ≤ 256)
  · rfl
  cases decide ((marks.length : Int) ≤ 256)
  · rfl
  simp only [Int.reduceBEq, w0, w1, w2, w3, w4, w5, w6, w7, w8, w9, w10, w11, w12, w13, w14, w15, w16]
  rw [e _ (by simp; omega)]
  cases holds.all (fun h => btw h.2.2 2147483647)
  · rfl
  simp only [Int.reduceBEq, w0, w1, w2, w3, w4, w5, w6, w7, w8, w9, w10, w11, w12, w13, w14, w15, w16, Sum.elim_inl]
  rw [e2 _ (by simp; omega)]
  simp only [Int.reduceBEq, w0, w1, w2, w3, w4, w5, w6, w7, w8, w9, w10, w11, w12, w13, w14, w15, w16]
  rw [may83 _ _ (by simp; omega)]
  cases (([pf, pt, qf, qt, key] ++ keys ++ holds.map (·.1)) ++ marks.map (·.1)).all keyB
  · rfl
  simp only [Int.reduceBEq, w0, w1, w2, w3, w4, w5, w6, w7, w8, w9, w10, w11, w12, w13, w14, w15, w16, Sum.elim_inl]
  cases btw code 255
  · rfl
  cases btw pfrom 16
  · rfl
  cases btw pto 16
  · rfl
  cases btw pstep 255
  · rfl
  rfl
end Go.Proofs.Ytabdbihbodcmeaa.gg
