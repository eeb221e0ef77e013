/- Conversions, and all operations together but calls. -/
import Derived.Test.YtlgfmkccnljhoaaC11
namespace Go.GG
open Go.RowKit
section
variable {P : Program} {E : Entry} {m : IMap} {s : St} {a : Act} {w : World}
theorem freeze_alloc (w : World) (C : Array Value) (e : TypeId) (k : Nat) : (w.alloc (.cells C e)).freeze ⟨w.heap.size, k, none⟩ 1 = w.alloc (.cells C e (k, k + 1)) := by
  have hm : ∀ (a : Array Obj) (x : Obj) (f : Obj → Obj), (a.push x).modify a.size f = a.push (f x) := by
    intro a x f
    apply Array.ext
    · simp
    · intro i h1 h2
      simp only [Array.getElem_modify, Array.getElem_push]
      by_cases h : a.size = i
      · subst h; simp
      · have hi : i < a.size := by simp at h1; omega
        simp [h, hi]
  unfold World.freeze
  rw [if_neg (by decide)]
  show ({ w.alloc (.cells C e) with heap := (w.heap.push (.cells C e)).modify w.heap.size _ } : World) = _
  rw [hm]
  rfl
theorem isBytes_spec {tab : Tab} (hT : TabOk P tab) {t : TypeId} {i : TI} (ht : TOk P t i) (h : isBytes tab i = true) : ∃ e, i.kind = .slice e ∧ P.underlying t = some (.slice e) ∧ P.underlying e = some (.int .u8) := by
  unfold isBytes at h
  split at h
  · rename_i e hk
    split at h
    · rename_i ei hei
      split at h
      · rename_i hke
        obtain ⟨d, hd, hs⟩ := ht.desc
        rw [hk] at hs
        rw [summ_slice hs] at hd
        obtain ⟨d', hd', hs'⟩ := (hT _ _ hei).desc
        rw [hke] at hs'
        rw [summ_int hs'] at hd'
        exact ⟨e, hk, hd, hd'⟩
      · cases h
    · cases h
  · cases h
theorem convert_does {dst src tgt : Nat} {x : Operand} {ty : TypeId} {pos : String} {after : Array Edge} {guard : Option (Nat × Bool)} (h : Rel P E m s a w) (hd : dst < E.N) {tab : Tab} (hT : TabOk P tab) {i j : TI} (hs : TOk P src i) (hj : TOk P tgt j)
    {res : Res} (he : Ev (convertOp tab (Nat.beq src tgt) i j dst (ev s x)) s.mem res) (hfr : ∀ n ∈ res.allocs, s.used n = false ∧ n < lentBase) : Does P E ⟨some dst, .convert src tgt x, ty, pos, after, guard⟩ s a w res := by
  have hd' : ∀ n, (some dst : Option Nat) = some n → n < E.N := by intro n hn; simp at hn; omega
  have hX := h.eval x
  obtain ⟨ds, hds, hss⟩ := hs.desc
  obtain ⟨dt, hdt, hst⟩ := hj.desc
  have run : ∀ v w', (convert src tgt (a.eval x)).run P w = .ok v w' → (execOp a.eval ⟨some dst, .convert src tgt x, ty, pos, after, guard⟩).run P w = .ok (.value v) w' := by
    intro v w' h; simp [execOp, h]
  generalize ev s x = lx at he hX
  unfold convertOp at he
  split at he
  · have hv := rep_int hX
    split at he
    · rename_i k' hk
      rw [ev_pure] at he; subst he
      rw [hk] at hst
      have := summ_int hst; subst this
      refine does_val h hd' (run (.int k' _) w ?_) (mk_int _ _)
      rw [hv]
      simp [convert, run_underlying hds, run_underlying hdt, Conv.intToInt]
    · simp [ev_fail] at he
  · rename_i str
    have hv := rep_str hX
    split at he
    · rename_i hks
      rw [hks] at hss
      have := summ_str hss; subst this
      split at he
      · rename_i hk
        rw [ev_pure] at he; subst he
        rw [hk] at hst
        have := summ_str hst; subst this
        refine does_val h hd' (run (.string _) w ?_) (mk_str _)
        rw [hv]
        simp [convert, run_underlying hds, run_underlying hdt]
      · rw [ev_cond, ev_fail, ev_pure] at he
        obtain ⟨hb, rfl⟩ := he.resolve_right (by simp)
        obtain ⟨e, _, he1, he2⟩ := isBytes_spec hT hj hb
        have hcap : ∃ cap, str.length ≤ cap ∧ (choose (.appendCap (ByteArray.mk str.toArray).size 0 e)).run P w = .ok cap w.drew := by
          refine ⟨(ByteArray.mk str.toArray).size + w.tape w.drawn (.appendCap (ByteArray.mk str.toArray).size 0 e) % (2 ^ 63 - (ByteArray.mk str.toArray).size), by simp [ByteArray.size], ?_⟩
          rw [run_choose]
          simp [Question.forced, Question.cut]
        obtain ⟨cap, hc1, hc2⟩ := hcap
        have hsz : (ByteArray.mk str.toArray).size = str.length := by simp [ByteArray.size]
        have hcs : (((ByteArray.mk str.toArray).data.map fun b => Value.int .u8 (b.toNat : Int)) ++ Array.replicate (cap - (ByteArray.mk str.toArray).size) (.int .u8 0)) = (List.map (fun b : UInt8 => Value.int .u8 (b.toNat : Int)) str ++ List.replicate (cap - List.length str) (Value.int .u8 0)).toArray := by
          simp [hsz]
        have hlen : (List.map (fun b : UInt8 => Value.int .u8 (b.toNat : Int)) str ++ List.replicate (cap - List.length str) (Value.int .u8 0)).length = cap := by simp; omega
        have hofl : (ofBytes str).length = str.length := by simp [ofBytes]
        refine does_row (w1 := w.drew) (e := e) (fr := (cap, cap + 1)) (cs := List.map (fun b : UInt8 => Value.int .u8 (b.toNat : Int)) str ++ List.replicate (cap - List.length str) (Value.int .u8 0)) (cap := cap) h hd' (hfr dst (by simp)).1 (hfr dst (by simp)).2 (below_drew w) rfl (by omega) (by rw [hlen]; simp [T.cnt]) (.inr ⟨by rw [hlen]; exact Nat.le_refl _, rfl⟩) (fun k z hk => ?_) (run _ _ ?_)
        · simp only [ofBytes, List.getElem?_map, Option.map_eq_some_iff] at hk
          obtain ⟨b, hb', rfl⟩ := hk
          have hkl := (List.getElem?_eq_some_iff.1 hb').1
          refine ⟨[.int .u8 b.toNat], rfl, fun j u hu => ?_⟩
          cases j with
          | zero =>
            simp at hu; subst hu
            rw [List.getElem?_append_left (by simp [T.cnt]; exact hkl)]
            simp [T.cnt, hb']
          | succ j => simp at hu
        · rw [hv]
          simp only [convert, Sem.run_bind, run_underlying hds, run_underlying he1, Result.andThen_ok, run_underlying he2, Conv.stringToBytes, hc2, hcs, newRow, run_newObj, Sem.run_pure, markStringish, run_shape]
          have hshape : ∀ C : Array Value, ({ w.drew with heap := w.drew.heap.push (.cells C e) } : World).shape? w.drew.heap.size = some (e, C.size) := by
            intro C
            show (w.drew.alloc (.cells C e)).shape? w.drew.heap.size = _
            unfold World.shape?
            rw [alloc_new]
          rw [hshape]
          simp only [run_freeze, Result.andThen_ok]
          rw [hofl, hsz]
          have := freeze_alloc w.drew (List.map (fun b : UInt8 => Value.int .u8 (b.toNat : Int)) str ++ List.replicate (cap - List.length str) (Value.int .u8 0)).toArray e cap
          simp only [List.size_toArray, hlen]
          exact congrArg _ this
    · simp [ev_fail] at he
  · split at he
    · rename_i hk
      rw [ev_cond, ev_fail, ev_bind] at he
      replace he := he.resolve_right (by simp)
      obtain ⟨hb, xs, hxs, he⟩ := he
      rw [ev_pure] at he; subst he
      rw [hk] at hst
      have := summ_str hst; subst this
      obtain ⟨e, _, he1, he2⟩ := isBytes_spec hT hs hb
      obtain ⟨A, c, vs, hv, hrow, hf⟩ := src_elems h hxs hX
      refine does_val h hd' (run (.string _) w ?_) (mk_str _)
      have hvs : vs = xs.map (Value.int .u8) := by
        apply List.ext_getElem?
        intro k
        by_cases hk' : k < xs.length
        · obtain ⟨ds', hd1, hd2⟩ := hrow.el k xs[k] (by simp)
          have : ds' = [.int .u8 xs[k]] := hd1
          subst this
          have := hd2 0 _ rfl
          simp [T.cnt] at this
          rw [this]; simp [hk']
        · have := hrow.len
          rw [List.getElem?_eq_none (by rw [this]; simp [T.cnt]; omega), List.getElem?_eq_none (by simp; omega)]
      rw [hv] at hf ⊢
      cases A with
      | none =>
        simp only [Builtin.firstCells, Sem.run_pure, Result.ok.injEq, and_true] at hf
        have : vs = [] := by simpa using hf.symm
        rw [this] at hvs
        have : xs = [] := by simpa using hvs.symm
        subst this
        rw [run_convert_bytes_nil w src e he1 he2 _ c tgt hdt]
        rfl
      | some ad =>
        simp only [Builtin.firstCells, T.cnt, Nat.mul_one] at hf
        rw [hvs] at hf
        rw [run_convert_bytes_string w src tgt e _ _ _ he1 he2 hdt, run_bytesToString w ad _ _ xs hf, foldl_push_bytes]
        simp [ByteArray.empty, ByteArray.emptyWithCapacity, toBytes]
        rfl
    · split at he
      · rename_i r _ _
        rw [ev_cond, ev_fail, ev_get] at he
        replace he := he.resolve_right (by simp)
        obtain ⟨hb, he⟩ := he
        simp only [Bool.and_eq_true] at hb
        have hsame := Nat.eq_of_beq_eq_true hb.1
        subst hsame
        obtain ⟨e, _, he1, he2⟩ := isBytes_spec hT hs hb.2
        split at he
        · rename_i xs hr
          rw [ev_assume, ev_pure] at he
          obtain ⟨hne, rfl⟩ := he
          obtain ⟨im, h1, h2, _⟩ := h.mem r _ hr
          simp only [LRep] at hX
          rw [h1] at hX
          rcases hX with hX | hX <;> (simp at hX; subst hX; simp only [CRep] at h2)
          rcases h2 with ⟨_, rfl⟩ | ⟨b, C, e', fr, cap, hv, h3, h4, hh, hfz, hel⟩
          · simp at hne
          rw [hv] at h1
          have hblt : b < w.heap.size := (Array.getElem?_eq_some_iff.1 hh).1
          have hwf : (w.freeze ⟨b, C.size, none⟩ 1).heap[b]? = some (.cells C e' (if fr.1 == fr.2 then (C.size, C.size + 1) else (min fr.1 C.size, max fr.2 (C.size + 1)))) := by
            unfold World.freeze
            rw [if_neg (by decide)]
            obtain ⟨lo, hi⟩ := fr
            simp only [Array.getElem?_modify, hh, Option.map_some]
            simp
          obtain ⟨h5, h6⟩ := h.move (id := dst) (w' := w.freeze ⟨b, C.size, none⟩ 1) (c' := .arr (.int .u8) xs) (i' := .arr (.slice (some ⟨b, 0, none⟩) xs.length cap)) hr h1 rfl (hfr dst (by simp)).1 (hfr dst (by simp)).2 (fun k hk => by
              unfold World.freeze
              rw [if_neg (by decide)]
              simp only [Array.getElem?_modify]
              rw [if_neg (fun e => hk e.symm)]) (by unfold World.freeze; rw [if_neg (by decide)]; simp) (by unfold World.freeze; rw [if_neg (by decide)]) (by unfold World.freeze; rw [if_neg (by decide)]) (by unfold World.freeze; rw [if_neg (by decide)]) rfl (fun ok' m' hk _ => by
              refine .inr ⟨b, C, e', _, cap, rfl, h3, h4, hwf, ?_, fun i x hi => ?_⟩
              · rcases hfz with rfl | ⟨hfz, _⟩
                · exact .inr ⟨Nat.le_refl _, rfl⟩
                · split
                  · exact .inr ⟨Nat.le_refl _, rfl⟩
                  · exact .inr ⟨Nat.le_min.2 ⟨hfz, Nat.le_refl _⟩, rfl⟩
              · obtain ⟨ds', hd1, hd2⟩ := hel i x hi
                exact ⟨ds', T.holds_mono hk hd1, hd2⟩)
          refine does_turn hd' (run (.slice (some ⟨b, 0, none⟩) xs.length cap) _ ?_) h5 (.inl h6)
          rw [hv]
          have hshape : w.shape? b = some (e', C.size) := by simp [World.shape?, hh]
          simp [convert, run_underlying he1, run_underlying he2, markStringish, hshape]
        · simp [ev_fail] at he
      · simp [ev_fail] at he
    · simp [ev_fail] at he
end
end Go.GG
