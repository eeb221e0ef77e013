/- Every operation, together. -/
import Derived.Test.YtlgfmkccnljhoaaC18
namespace Go.GG
open Go.RowKit
section
variable {P : Program} {E : Entry} {m : IMap} {s : St} {a : Act} {w : World}

theorem builtin_args {b : Builtin} {dst : Option Nat} {c : Call} (hc : c.callee = .builtin b) {v : Value} {w' : World} {ty : TypeId} {pos : String} {after : Array Edge} {guard : Option (Nat × Bool)}
    (h : (builtin b c.argTypes ty (c.args.map fun | .const _ => true | _ => false) (c.args.map a.eval)).run P w = .ok (.value v) w') :
    (execOp a.eval ⟨dst, .call c, ty, pos, after, guard⟩).run P w = .ok (.value v) w' := by
  simp only [execOp, resolve, hc, Sem.run_bind, Sem.run_pure, Result.andThen_ok, invoke]
  exact h
theorem isSlice_spec {t : TypeId} {i : TI} (ht : TOk P t i) (hk : i.kind.isSlice = true) : ∃ e, P.underlying t = some (.slice e) := by
  obtain ⟨d, hd, hs⟩ := ht.desc
  cases hkk : i.kind <;> rw [hkk] at hk hs <;> simp [TK.isSlice] at hk
  rw [summ_slice hs] at hd
  exact ⟨_, hd⟩
theorem isStr_spec {t : TypeId} {i : TI} (ht : TOk P t i) (hk : i.kind.isStr = true) : P.underlying t = some .string := by
  obtain ⟨d, hd, hs⟩ := ht.desc
  cases hkk : i.kind <;> rw [hkk] at hk hs <;> simp [TK.isStr] at hk
  rw [summ_str hs] at hd
  exact hd
theorem minmax_reps {ok : Nat → Prop} {c : Call} {l : L} {ls : List L} (ha : c.args.toList.map (ev s) = l :: ls) (hl : LReps P w ok m (c.args.toList.map (ev s)) (c.args.toList.map a.eval)) :
    ∃ v vs, (c.args.map a.eval).toList = v :: vs ∧ LRep P w ok m l v ∧ LReps P w ok m ls vs := by
  rw [ha] at hl
  obtain ⟨v, vs, h1, h2, h3⟩ := hl
  exact ⟨v, vs, by simpa using h1, h2, h3⟩
theorem call_args {c : Call} {b : Builtin} {x y : Operand} {sT xT : TypeId} (hc : c.callee = .builtin b) (hx : c.args.toList = [x, y]) (ht : c.argTypes.toList = [sT, xT]) : c = { callee := .builtin b, args := #[x, y], argTypes := #[sT, xT] } := by
  cases c
  simp only at hc hx ht
  rw [hc, array2 hx, array2 ht]
/-! Zero values, and what is written over rows. -/
theorem zero_cells (zs : List Value) (n : Nat) (hz : 0 < zs.length) : Builtin.zeroCells zs.toArray n = (List.replicate n zs).flatten.toArray := by
  have := range_zero zs n hz
  unfold Builtin.zeroCells
  simpa using this
theorem zero_row {ok : Nat → Prop} {t : T} {z : t.den} {zs : List Value} (hz : t.holds w ok z zs) (n : Nat) : Row w ok t (List.replicate n z) (List.replicate n zs).flatten := by
  refine ⟨by simp [List.length_flatten, T.holds_len hz], replicate_row hz n, fun u hu => ?_⟩
  simp only [List.mem_flatten, List.mem_replicate] at hu
  obtain ⟨l, ⟨_, rfl⟩, hu⟩ := hu
  exact holds_one hz u hu
theorem zero_holds (P : Program) {ok : Nat → Prop} {t : T} {ei : TI} {z : t.den} (hz : t.implode (zeroLs ei) = some z) : t.holds w ok z ei.zero :=
  implode_holds (P := P) (m := fun _ => none) hz (absLeaves_rep _)
theorem writeOp_does {o : Oper} (h : Rel P E m s a w) (hd : ∀ n, o.dst = some n → n < E.N) {r cnt lo n : Nat} {v : Value} {l : L} {k : (t : T) → RM (List t.den)} {res : Res}
    (he : Ev (writeOp r cnt lo n l k) s.mem res) (hX : LRep P w (okOf E m s.mem w) m (.vw r cnt lo n) v)
    (hk : ∀ t ys, t.cnt = cnt → Ev (k t) s.mem ys → ys.length ≤ n → ∃ vs u, Row w (okOf E m s.mem w) t ys vs ∧ (∀ w' ok' m', Ext m m' → LRep P w' ok' m' l u) ∧
      ∀ A c w', v = .slice A n c → (match A with | some ad => storeCells ad vs | none => pure ()).run P w = .ok () w' → (execOp a.eval o).run P w = .ok (.value u) w') : Does P E o s a w res := by
  unfold writeOp at he
  rw [ev_get] at he
  split at he
  · rename_i t xs hr
    simp only [ev_bind, ev_assume, ev_pure] at he
    obtain ⟨ys, hys, hb, rfl⟩ := he
    simp only [Bool.and_eq_true] at hb
    have hb1 := Nat.eq_of_beq_eq_true hb.1.1
    have hb2 := Nat.le_of_ble_eq_true hb.1.2
    have hb3 := Nat.le_of_ble_eq_true hb.2
    obtain ⟨vs, u, h1, h2, h3⟩ := hk t ys hb1 hys hb2
    exact write_does [] h hd hX hb1 hb2 h1 (.inl ⟨hr, hb3, rfl⟩) h3 h2
  · rename_i t xs c hr
    simp only [ev_bind, ev_assume, ev_pure] at he
    obtain ⟨ys, hys, hb, rfl⟩ := he
    simp only [Bool.and_eq_true] at hb
    have hb1 := Nat.eq_of_beq_eq_true hb.1.1.1
    have hb2 := Nat.le_of_ble_eq_true hb.1.1.2
    have hb3 := Nat.le_of_ble_eq_true hb.1.2
    have hb4 := Nat.le_of_ble_eq_true hb.2
    obtain ⟨vs, u, h1, h2, h3⟩ := hk t ys hb1 hys hb2
    exact write_does [] h hd hX hb1 hb2 h1 (.inr ⟨c, hr, hb3, hb4, rfl⟩) h3 h2
  · simp [ev_fail] at he
theorem clear_does {dst : Option Nat} {c : Call} {x : Operand} (hc : c.callee = .builtin .clear) (hx : c.args.toList = [x]) {tab : Tab} (hT : TabOk P tab) (h : Rel P E m s a w) (hd : ∀ n, dst = some n → n < E.N) {res : Res}
    (he : Ev (clearOp tab c.argTypes.toList (ev s x)) s.mem res)
    {ty : TypeId} {pos : String} {after : Array Edge} {guard : Option (Nat × Bool)} : Does P E ⟨dst, .call c, ty, pos, after, guard⟩ s a w res := by
  have hX := h.eval x
  have hx' := array1 hx
  unfold clearOp at he
  split at he
  · rename_i sT r cnt lo n htl hxe
    have ht' := array1 htl
    rw [hxe] at hX
    split at he
    · rename_i i hi
      split at he
      · rename_i e hk
        split at he
        · rename_i ei hei
          have hte := hT _ _ hei
          obtain ⟨d, hdd, hs⟩ := (hT _ _ hi).desc
          rw [hk] at hs
          rw [summ_slice hs] at hdd
          obtain ⟨zv, hzv, hzc⟩ := run_zeroValue (w := w) hte
          refine writeOp_does (o := ⟨dst, .call c, ty, pos, after, guard⟩) h hd he hX (fun t ys hcnt hys hyn => ?_)
          split at hys
          · rename_i z hz
            rcases ev_cond.1 hys with ⟨hsz, hys⟩ | ⟨_, hys⟩
            case inr => simp [ev_fail] at hys
            rw [ev_pure] at hys; subst hys
            have hsz := Nat.eq_of_beq_eq_true hsz
            have hzh := zero_holds P (w := w) (ok := okOf E m s.mem w) hz
            have hpos : 0 < ei.zero.length := by rw [T.holds_len hzh]; exact cnt_pos t
            refine ⟨_, .tuple #[], zero_row hzh n, fun _ _ _ _ => ⟨[], rfl, rfl⟩, fun A c1 w1 hv hst => ?_⟩
            refine builtin_args hc ?_
            rw [hx', ht']
            have hz' : (Builtin.zeroCells zv.cells n).toList = (List.replicate n ei.zero).flatten := by rw [hzc, zero_cells _ _ hpos]
            simp only [builtin, Builtin.clear_, List.map_toArray, List.map_cons, List.map_nil, hv, List.getElem?_toArray, List.getElem?_cons_zero, Sem.run_bind, run_underlying hdd, Result.andThen_ok]
            cases A with
            | none =>
              simp at hst; subst hst
              simp
            | some ad =>
              by_cases hn0 : n = 0
              · subst hn0
                simp [storeCells] at hst
                subst hst
                simp
              · obtain ⟨n', rfl⟩ : ∃ n', n = n' + 1 := ⟨n - 1, by omega⟩
                simp only [Sem.run_bind, hzv, Result.andThen_ok, hz', hst]
                simp
          · simp [ev_fail] at hys
        · simp [ev_fail] at he
      · simp [ev_fail] at he
    · simp [ev_fail] at he
  · simp [ev_fail] at he
theorem copy_does {dst : Option Nat} {c : Call} {x y : Operand} (hc : c.callee = .builtin .copy) (hx : c.args.toList = [x, y]) {tab : Tab} (hT : TabOk P tab) (h : Rel P E m s a w) (hd : ∀ n, dst = some n → n < E.N) {res : Res}
    (he : Ev (copyOp tab c.argTypes.toList (ev s x) (ev s y)) s.mem res)
    {ty : TypeId} {pos : String} {after : Array Edge} {guard : Option (Nat × Bool)} : Does P E ⟨dst, .call c, ty, pos, after, guard⟩ s a w res := by
  have hX := h.eval x
  have hx' := array2 hx
  unfold copyOp at he
  split at he
  · rename_i sT xT r cnt lo n htl hxe
    have ht' := array2 htl
    rw [hxe] at hX
    split at he
    · rename_i i hi
      split at he
      · rename_i e hk
        split at he
        · rename_i ei hei
          have hte := hT _ _ hei
          obtain ⟨d, hdd, hs⟩ := (hT _ _ hi).desc
          rw [hk] at hs
          rw [summ_slice hs] at hdd
          refine writeOp_does (o := ⟨dst, .call c, ty, pos, after, guard⟩) h hd he hX (fun t ys hcnt hys hyn => ?_)
          rcases ev_cond.1 hys with ⟨hsz, hys⟩ | ⟨_, hys⟩
          case inr => simp [ev_fail] at hys
          have hsz := Nat.eq_of_beq_eq_true hsz
          obtain ⟨A', n1, c', hv', _, vs, h1, h2⟩ := src_upto h hys (h.eval y)
          refine ⟨vs, goInt (min n1 n), h1, fun _ _ _ _ => trivial, fun A c1 w1 hv hst => ?_⟩
          refine builtin_args hc ?_
          rw [hx', ht']
          rw [hsz] at h2
          have hlen : (Builtin.lenOf (a.eval y)).run P w = .ok n1 w := by rw [hv']; rfl
          have hmin : Nat.min n1 n = min n1 n := rfl
          simp only [builtin, Builtin.copy_, List.map_toArray, List.map_cons, List.map_nil, hv, List.getElem?_toArray, List.getElem?_cons_zero, List.getElem?_cons_succ, Sem.run_bind, run_underlying hdd, Result.andThen_ok, hlen, run_sizeOf hte, hmin, h2]
          cases A with
          | none =>
            simp at hst; subst hst
            simp
            first | done | (congr 1; omega)
          | some ad =>
            simp [hst]
            first | done | (congr 1; omega)
        · simp [ev_fail] at he
      · simp [ev_fail] at he
    · simp [ev_fail] at he
  · simp [ev_fail] at he
theorem zeros_does {dst : Nat} {c : Call} {x y : Operand} {sT xT e : TypeId} (hc : c = { callee := .builtin .append, args := #[x, y], argTypes := #[sT, xT] }) (h : Rel P E m s a w) (hd : dst < E.N) (hid : s.used dst = false) (hlt : dst < lentBase)
    {i j ei : TI} (hs : TOk P sT i) (hsk : i.kind = .slice e) (hx : TOk P xT j) (hte : TOk P e ei) (hb0 : ei.bytes ≠ 0) {t : T} (hcnt : t.cnt = ei.size) {res : Res} (he : Ev (zerosOp dst t ei j (ev s x) (ev s y)) s.mem res)
    {ty : TypeId} {pos : String} {after : Array Edge} {guard : Option (Nat × Bool)} : Does P E ⟨some dst, .call c, ty, pos, after, guard⟩ s a w res := by
  subst hc
  have hd' : ∀ n, (some dst : Option Nat) = some n → n < E.N := by intro n hn; simp at hn; omega
  have hX := h.eval x
  have hY := h.eval y
  unfold zerosOp at he
  split at he
  · rename_i kk z hjk hz
    obtain ⟨dx, hdx, hsx⟩ := hx.desc
    rw [hjk] at hsx
    have := summ_int hsx; subst this
    simp only [ev_bind, ev_assume] at he
    obtain ⟨n, hn, h0, he⟩ := he
    have h0 : 0 ≤ n := by simpa using h0
    obtain ⟨k', hyv⟩ := asInt_rep hn hY
    have hzh := zero_holds P (w := w) (ok := okOf E m s.mem w) hz
    have hN : n = ((n.toNat : Nat) : Int) := by omega
    have new : ∀ (A : Option Addr) (n0 cap : Nat) (xs : List t.den), a.eval x = .slice A n0 cap → n0 = xs.length → cap < n0 + n.toNat → 0 < n.toNat → room (n0 + n.toNat) ei.bytes = true →
        (∃ us, Row w.drew (okOf E m s.mem w.drew) t xs us ∧ (Builtin.firstCells t.cnt n0 (.slice A n0 cap)).run P w.drew = .ok us.toArray w.drew) →
        Does P E ⟨some dst, .call { callee := .builtin .append, args := #[x, y], argTypes := #[sT, xT] }, ty, pos, after, guard⟩ s a w ⟨.sref dst, [(dst, some (.arr t (xs ++ List.replicate n.toNat z)))], [dst]⟩ := by
      rintro A n0 cap xs hev rfl hgt hpos hroom ⟨us, hu, ho⟩
      rw [hcnt] at ho
      have hr : (xs.length + n.toNat) * ei.bytes ≤ 140737488355328 := of_decide_eq_true hroom
      obtain ⟨newCap, h3, zs, h4, h5⟩ := append_new_zeros (ty := ty) hs hsk hdx hte hb0 (by rw [← hcnt]; exact cnt_pos t) (k' := k') ho hgt hpos hr
      rw [← hev, ← hN, ← hyv] at h5
      have hrow := zero_row hzh n.toNat
      have hlr : (List.replicate n.toNat z).length = n.toNat := by simp
      refine append_row (e := e) h hd' hid hlt (hu.mono keeps_back) hrow (by rw [hlr]; exact h3) (by rw [hlr, hcnt]; exact h4) ?_
      rw [hlr]
      exact run_append h5
    split at he
    · rename_i hxe
      rw [hxe] at hX
      simp only [ev_assume, ev_pure] at he
      obtain ⟨hroom, rfl⟩ := he
      have hX : a.eval x = .slice none 0 0 := hX
      by_cases hz0 : n.toNat = 0
      · rw [hz0]
        refine does_nil h hd' hid hlt ?_
        rw [run_append (v := .slice none 0 0) (w' := w) ?_]
        rw [hX, hyv, hN, hz0]
        exact append_no_zeros hs hsk hdx hte hb0
      · have := new none 0 0 [] hX rfl (by omega) (by omega) (by simpa using hroom) ⟨[], Row.nil _ _ _, rfl⟩
        simpa using this
    · rename_i r cnt lo m0 hxe
      rw [hxe] at hX
      rw [ev_get] at he
      split at he
      · rename_i t' xs0 c hr
        split at he
        · rename_i xs hxs
          obtain ⟨e1, e2⟩ := cast?_some hxs
          simp only [T.slice.injEq] at e1
          subst e1
          simp only at e2
          subst e2
          simp only [ev_assume, ev_pure, Bool.and_eq_true] at he
          obtain ⟨⟨⟨⟨hb1, hb2⟩, hb3⟩, hroom⟩, rfl⟩ := he
          have hb1 := Nat.le_of_ble_eq_true hb1
          have hb2 := Nat.eq_of_beq_eq_true hb2
          have hb3 : c < lo + m0 + n.toNat := Nat.lt_of_lt_of_le (Nat.lt_succ_self c) (Nat.le_of_ble_eq_true hb3)
          subst hb2
          obtain ⟨A, c1, k1, hm1, hev, hk1⟩ := hX
          obtain ⟨im, h1, h3, _⟩ := h.mem r _ hr
          rcases hm1 with hm1 | ⟨n0, hm1⟩ <;> (rw [hm1] at h1; simp at h1; subst h1; simp only [CRep] at h3)
          obtain ⟨rfl, ho⟩ := h3
          have ho2 : OwnRow w.drew (okOf E m s.mem w.drew) t' xs0 (.slice A xs0.length c) := OwnRow.mono (w := w) (ok := okOf E m s.mem w) (fun b hb => ⟨hb, rfl⟩) (fun _ _ => rfl) ho
          obtain ⟨us, h6, h7⟩ := src_view (P := P) (lo := lo) (n := m0) (n' := m0) (c' := c - lo) ho2 hb1 (hk1.imp_left And.left)
          have hl0 : ((xs0.drop lo).take m0).length = m0 := by simp; omega
          have hcl : xs0.length ≤ c := by
            rcases ho with ⟨hA, hx0⟩ | ⟨b, C, e', fr, cap', hA, hle, _⟩
            · subst hx0; simp
            · simp only [Value.slice.injEq] at hA; omega
          exact new _ m0 (c - lo) ((xs0.drop lo).take m0) hev hl0.symm (by omega) (by omega) hroom ⟨us, h6, h7⟩
        · simp [ev_fail] at he
      · simp [ev_fail] at he
    · simp [ev_fail] at he
  · simp [ev_fail] at he
theorem builtin_does {dst : Nat} {c : Call} {b : Builtin} (hc : c.callee = .builtin b) {tab : Tab} (hT : TabOk P tab) (h : Rel P E m s a w) (hd : dst < E.N) {res : Res}
    (he : Ev (builtinOp tab b dst c.argTypes.toList (c.args.toList.map (ev s))) s.mem res) (hal : ∀ id ∈ res.allocs, s.used id = false ∧ id < lentBase)
    {ty : TypeId} {pos : String} {after : Array Edge} {guard : Option (Nat × Bool)} : Does P E ⟨some dst, .call c, ty, pos, after, guard⟩ s a w res := by
  have hd' : ∀ n, (⟨some dst, .call c, ty, pos, after, guard⟩ : Oper).dst = some n → n < E.N := fun n hn => by cases hn; exact hd
  have hl := h.evals c.args.toList
  unfold builtinOp at he
  split at he
  · -- len
    rename_i lx hargs
    obtain ⟨x, hx, rfl⟩ := map1 hargs
    have hx' := array1 hx
    split at he
    · rename_i t htl
      have ht' := array1 htl
      split at he
      · rename_i i hi
        have ht := hT _ _ hi
        have fin : ∀ {l : L}, (∃ v, (Builtin.len_ #[t] ty #[a.eval x]).run P w = .ok v w ∧ LRep P w (okOf E m s.mem w) m l v) → Does P E ⟨some dst, .call c, ty, pos, after, guard⟩ s a w (.of l) := by
          rintro l ⟨v, hv, hr⟩
          exact does_val h hd' (builtin_args hc (by rw [hx', ht']; simp [builtin, hv])) hr
        split at he
        · rename_i st hst
          rcases ev_cond.1 he with ⟨hk, he⟩ | ⟨_, he⟩
          case inr => simp [ev_fail] at he
          rw [ev_pure] at he; subst he
          exact fin (len_run h.memOk (isStr_spec ht hk) (.inl ⟨⟨st, hst⟩, rfl⟩) (by rw [hst]; simp [lenOp, ev_pure]) (h.eval x))
        · rename_i hns
          rcases ev_cond.1 he with ⟨hk, he⟩ | ⟨_, he⟩
          case inr => simp [ev_fail] at he
          simp only [ev_bind, ev_pure] at he
          obtain ⟨l, hl, rfl⟩ := he
          obtain ⟨e, hu⟩ := isSlice_spec ht hk
          exact fin (len_run h.memOk hu (.inr ⟨hns, e, rfl⟩) hl (h.eval x))
      · simp [ev_fail] at he
    · simp [ev_fail] at he
  · -- min
    rename_i l ls hargs
    simp only [ev_bind, ev_pure] at he
    obtain ⟨r, hr, rfl⟩ := he
    obtain ⟨v, vs, h1, h2, h3⟩ := minmax_reps hargs hl
    obtain ⟨u, hu, hru⟩ := fold_run (g := Builtin.min2) (fun h1 h2 h3 => min2_run h1 h2 h3) hr h2 h3
    exact does_val h hd' (builtin_args hc (by simp only [builtin, Builtin.min_, h1]; simp [hu])) hru
  · -- cap
    rename_i lx hargs
    obtain ⟨x, hx, rfl⟩ := map1 hargs
    have hx' := array1 hx
    have hX := h.eval x
    unfold capOp at he
    split at he
    · rename_i t htl
      have ht' := array1 htl
      split at he
      · rename_i i hi
        rcases ev_cond.1 he with ⟨hk, he⟩ | ⟨_, he⟩
        case inr => simp [ev_fail] at he
        obtain ⟨e, hu⟩ := isSlice_spec (hT _ _ hi) hk
        have fin : ∀ A n (c1 : Nat), a.eval x = .slice A n c1 → (execOp a.eval ⟨some dst, .call c, ty, pos, after, guard⟩).run P w = .ok (.value (.int .i64 c1)) w := fun A n c1 hv => by
          refine builtin_args hc ?_
          rw [hx', ht']
          simp [builtin, Builtin.cap_, hv, run_underlying hu, goInt]
        split at he
        · rename_i hxe
          rw [hxe] at hX
          rw [ev_pure] at he; subst he
          exact does_val h hd' (fin _ _ _ hX) (mk_int _ _)
        · rename_i r cnt lo n hxe
          rw [hxe] at hX
          rw [ev_get] at he
          split at he
          · rename_i t' xs c0 hr
            rw [ev_pure] at he; subst he
            obtain ⟨A, c1, k1, hm, hv, _⟩ := hX
            obtain ⟨im, h1, h2, _⟩ := h.mem _ _ hr
            rcases hm with hm | ⟨n0, hm⟩ <;> (rw [hm] at h1; simp at h1; subst h1; simp only [CRep] at h2)
            obtain ⟨rfl, _⟩ := h2
            exact does_val h hd' (fin _ _ _ hv) (mk_int _ _)
          · simp [ev_fail] at he
        · simp [ev_fail] at he
      · simp [ev_fail] at he
    · simp [ev_fail] at he
  · -- clear
    rename_i lx hargs
    obtain ⟨x, hx, rfl⟩ := map1 hargs
    exact clear_does hc hx hT h hd' he
  · -- copy
    rename_i ld lx hargs
    obtain ⟨x, y, hx, rfl, rfl⟩ := map2 hargs
    exact copy_does hc hx hT h hd' he
  · -- max
    rename_i l ls hargs
    simp only [ev_bind, ev_pure] at he
    obtain ⟨r, hr, rfl⟩ := he
    obtain ⟨v, vs, h1, h2, h3⟩ := minmax_reps hargs hl
    obtain ⟨u, hu, hru⟩ := fold_run (g := Builtin.max2) (fun h1 h2 h3 => max2_run h1 h2 h3) hr h2 h3
    exact does_val h hd' (builtin_args hc (by simp only [builtin, Builtin.max_, h1]; simp [hu])) hru
  · -- append
    rename_i lx ly hargs
    obtain ⟨x, y, hx, rfl, rfl⟩ := map2 hargs
    split at he
    · rename_i sT xT htl
      split at he
      · rename_i i j hi hj
        split at he
        · rename_i e t hk hit
          split at he
          · rename_i ei hei
            have hcc := call_args hc hx htl
            rcases ev_cond.1 he with ⟨hb, he⟩ | ⟨_, he⟩
            case inr =>
              rcases ev_cond.1 he with ⟨hb, he⟩ | ⟨_, he⟩
              case inr => simp [ev_fail] at he
              simp only [Bool.and_eq_true, Bool.not_eq_true'] at hb
              obtain ⟨h1, h2⟩ : s.used dst = false ∧ dst < lentBase := by
                refine hal dst ?_
                unfold zerosOp at he
                repeat' (first | split at he | (simp only [ev_get, ev_assume, ev_bind, ev_pure, ev_fail] at he))
                all_goals first
                  | exact he.elim
                  | (obtain ⟨_, _, _, _, rfl⟩ := he; simp; done)
                  | (obtain ⟨_, _, _, he⟩ := he; repeat' (first | split at he | (simp only [ev_get, ev_assume, ev_bind, ev_pure, ev_fail] at he))
                     all_goals first | exact he.elim | (obtain ⟨_, rfl⟩ := he; simp; done))
                  | skip
              exact zeros_does hcc h hd h1 h2 (hT _ _ hi) hk (hT _ _ hj) (hT _ _ hei) (by intro e0; simp [e0] at hb) (Nat.eq_of_beq_eq_true hb.1) he
            simp only [Bool.and_eq_true, Bool.not_eq_true'] at hb
            rw [ev_bind] at he
            obtain ⟨more, hm, he⟩ := he
            obtain ⟨h1, h2⟩ : s.used dst = false ∧ dst < lentBase := by
              refine hal dst ?_
              unfold appendOp at he
              repeat' (first | split at he | (simp only [ev_get, ev_assume, ev_pure, ev_fail] at he))
              all_goals first
                | exact he.elim
                | (subst he; simp; done)
                | (obtain ⟨_, rfl⟩ := he; simp; done)
                | (obtain ⟨_, _, rfl⟩ := he; simp; done)
                | (obtain ⟨_, he⟩ := he; rw [ev_br] at he; rcases he with ⟨_, he⟩ | ⟨_, he⟩
                   · rw [ev_pure] at he; subst he; simp
                   · rw [ev_assume, ev_pure] at he; obtain ⟨_, rfl⟩ := he; simp)
                | skip
            rw [hcc]
            exact append_does h hd h1 h2 (hT _ _ hi) hk (hT _ _ hj) hb.2 (hT _ _ hei) (by intro e0; simp [e0] at hb) (Nat.eq_of_beq_eq_true hb.1.1) hm he
          · simp [ev_fail] at he
        · simp [ev_fail] at he
      · simp [ev_fail] at he
    · simp [ev_fail] at he
  · simp [ev_fail] at he
end
end Go.GG
