/- A disk by hand: what it hands out is not its own. -/
import Derived.Test.YtababmeocedhiaaDoorO
import Derived.Test.YtababmeocedhiaaDoorP
import Derived.Below
import Derived.KernelRfl
import Derived.WalkKit
import Derived.OwnWalkIn
import Derived.TacticsInMore
import Derived.RegionIn
import Derived.LoopNIn
import Derived.LoopIn
import Derived.Shelf.RegionOpen
import Derived.Stop.RegionWithIn
section
namespace Go.GG
open Go.RowKit
def DkAt (w : World) (d : Value) (l : FL) : Prop := ∃ b0 b, d = .pointer (some ⟨b0, 0, none⟩) ∧ MPtrAt w b0 b ∧ MapAt w l b
theorem MapAt.keep {w w' : World} {l : FL} {b : Nat} (h : MapAt w l b) (hb : w'.heap[b]? = w.heap[b]?) (hs : ∀ x ∈ mapBs w b, w'.heap[x]? = w.heap[x]?) : MapAt w' l b ∧ mapBs w' b = mapBs w b := by
  obtain ⟨es, c, h1, h2⟩ := h
  have h3 : w'.heap[b]? = some (.map es c) := by rw [hb, h1]
  have h4 : PMap w' (fun _ => none) l none (mapBs w b) es c := h2.mono (Ext.refl _) hs
  exact MapAt.of h3 h4
theorem DkAt.keep {w w' : World} {l : FL} {d : Value} (h : DkAt w d l) (hs : ∀ x ∈ diskBs w d, w'.heap[x]? = w.heap[x]?) : DkAt w' d l ∧ diskBs w' d = diskBs w d := by
  obtain ⟨b0, b, rfl, ⟨e, h1⟩, h2⟩ := h
  have hd := diskBs_of (w := w) (b0 := b0) (b := b) ⟨e, h1⟩
  rw [hd] at hs ⊢
  have h3 : MPtrAt w' b0 b := ⟨e, by rw [hs b0 (by simp), h1]⟩
  obtain ⟨h4, h5⟩ := h2.keep (hs b (by simp)) (fun x hx => hs x (by simp [hx]))
  exact ⟨⟨b0, b, rfl, h3, h4⟩, by rw [diskBs_of h3, h5]⟩
/-- A disk made since. -/
structure Dk (w0 w : World) (d : Value) (l : FL) : Prop where
  rep : DkAt w d l
  nodup : (diskBs w d).Nodup
  fresh : ∀ x ∈ diskBs w d, w0.heap.size ≤ x ∧ x < w.heap.size
  below : Below w0.heap.size w0 w
theorem Dk.keep {w0 w w' : World} {d : Value} {l : FL} (h : Dk w0 w d l) (hs : ∀ x ∈ diskBs w d, w'.heap[x]? = w.heap[x]?) (hz : w.heap.size ≤ w'.heap.size) (hb : Below w0.heap.size w0 w') : Dk w0 w' d l := by
  obtain ⟨h1, h2⟩ := h.rep.keep hs
  exact ⟨h1, by rw [h2]; exact h.nodup, fun x hx => by rw [h2] at hx; have := h.fresh x hx; omega, hb⟩
theorem below_trans {n : Nat} {a b c : World} (h : Below n a b) (hos : c.os = b.os) (ht : c.tape = b.tape) (ho : c.output = b.output) (hs : b.heap.size ≤ c.heap.size) (hh : ∀ x, x < n → c.heap[x]? = b.heap[x]?) : Below n a c :=
  ⟨hos.trans h.os, ht.trans h.tape, ho.trans h.output, Nat.le_trans h.size hs, fun x hx => (hh x hx).trans (h.block x hx)⟩
/-- What comes of a call that was lent the disk. -/
theorem Dk.lent {w0 w w' : World} {d : Value} {l l' : FL} (h : Dk w0 w d l) (hg : Goes (· ∈ diskBs w d) w w') {b0 b : Nat} (hd : diskRoots w d = [b0, b]) (hp : MPtrAt w' b0 b) (hm : MapAt w' l' b) (hn : (mapBs w' b ++ [b0, b]).Nodup) (hf : ∀ x ∈ mapBs w' b, x < w'.heap.size ∧ (x ∈ diskBs w d ∨ w.heap.size ≤ x)) : Dk w0 w' d l' := by
  obtain ⟨c0, c, rfl, h1, h2⟩ := h.rep
  rw [diskRoots_of h1] at hd
  simp only [List.cons.injEq, and_true] at hd
  obtain ⟨rfl, rfl⟩ := hd
  have hz := h.below.size
  have hsz := hg.size
  have hr : ∀ x ∈ [c0, c], w0.heap.size ≤ x ∧ x < w.heap.size := fun x hx => h.fresh x (by rw [diskBs_of h1]; simp only [List.mem_cons, List.not_mem_nil, or_false] at hx ⊢; rcases hx with h | h <;> simp [h])
  refine ⟨⟨c0, c, rfl, hp, hm⟩, ?_, fun x hx => ?_, ?_⟩
  · rw [diskBs_of hp]
    exact (List.perm_append_comm (l₁ := mapBs w' c) (l₂ := [c0, c])).nodup_iff.1 hn
  · rw [diskBs_of hp] at hx
    simp only [List.mem_cons] at hx
    rcases hx with rfl | rfl | hx
    · have := hr x (by simp); omega
    · have := hr x (by simp); omega
    · obtain ⟨q1, q2⟩ := hf x hx
      rcases q2 with q2 | q2
      · have := h.fresh x q2; omega
      · omega
  · refine below_trans h.below hg.os hg.tape hg.output hg.size fun x hx => hg.block x (by omega) fun hv => ?_
    have := h.fresh x hv
    omega
end Go.GG
end
section
namespace Go.Proofs.YtababmeocedhiaaDoor.gg
open Go Go.GG Go.RowKit Go.Proofs
theorem fine0 (w : World) (ok : Nat → Prop) : Tabs.fine w ok := fun g k zs e => absurd (tabsOf_mem e) (by simp)
theorem c_new (w0 : World) : Calls Tryd.prog 7 #[] w0 fun e w => ∃ d, e = .returned d ∧ Dk w0 w d [] := by
  obtain ⟨k, hk⟩ := (disk_New_lm.2 []).1 rfl
  refine (disk_New_sok.2 k () ([] : FL) hk w0 (fun _ => False) [] (fun b h => h.elim) (fine0 _ _) rfl List.nodup_nil (fun b h => by cases h)).mono ?_
  rintro e w ⟨vs, rfl, hg, hn, hf, hr⟩
  obtain ⟨v, vs', rfl, ⟨b0, b, rfl, hp, hm⟩, rfl, _⟩ := hr
  have hb : Below w0.heap.size w0 w := ⟨hg.os, hg.tape, hg.output, hg.size, fun x hx => hg.block x hx (by simp [pblocks, disk_New_spec])⟩
  refine ⟨.pointer (some ⟨b0, 0, none⟩), rfl, ⟨b0, b, rfl, hp, hm⟩, ?_, fun x hx => ?_, hb⟩
  · simpa [rblocks, lblocks, disk_New_spec] using hn
  · have := hf x (by simpa [rblocks, lblocks, disk_New_spec] using hx)
    simp [pblocks, disk_New_spec] at this
    omega
theorem args0 {w0 w : World} {ok0 : Nat → Prop} {d : Value} {l : FL} (h : Dk w0 w d l) (hok : ∀ b, ok0 b → b < w0.heap.size) : (∀ b, ok0 b → b < w.heap.size) ∧ Keeps w0 w ok0 ok0 ∧ ∀ b ∈ diskBs w d, b < w.heap.size ∧ ¬ ok0 b :=
  ⟨fun b hb => Nat.lt_of_lt_of_le (hok b hb) h.below.size, Keeps.of fun b hb => ⟨hb, h.below.block b (hok b hb)⟩, fun b hb => ⟨(h.fresh b hb).2, fun ho => by have := hok b ho; have := (h.fresh b hb).1; omega⟩⟩
theorem c_app {w0 w : World} {ok0 : Nat → Prop} {d v : Value} {l l' : FL} {name : List UInt8} {b : List Int} {r : Int} (h : Dk w0 w d l) (hok : ∀ b, ok0 b → b < w0.heap.size) (hv : (T.slice (.int .u8)).holds w0 ok0 b [v]) (hF : disk_Disk_Append' l name b = some (r, l')) :
    Calls Tryd.prog 8 #[d, .string ⟨name.toArray⟩, v] w fun e w' => e = .returned (.int .i64 r) ∧ Dk w0 w' d l' := by
  obtain ⟨k, hk⟩ := ((disk_Disk_Append_lm l name b).2 _).1 hF
  obtain ⟨a1, a2, a3⟩ := args0 h hok
  obtain ⟨b0, bm, rfl, hp, hm⟩ := h.rep
  refine (disk_Disk_Append_sok.2 k (l, name, b) (r, l') hk w ok0 [.pointer (some ⟨b0, 0, none⟩), .string ⟨name.toArray⟩, v] a1 (fine0 _ _) ⟨_, _, rfl, ⟨b0, bm, rfl, hp, hm⟩, _, _, rfl, rfl, _, _, rfl, T.holds_mono a2 hv, rfl⟩ (by simpa [pblocks, vblocks, disk_Disk_Append_spec] using h.nodup) (by simpa [pblocks, disk_Disk_Append_spec] using a3)).mono ?_
  rintro e w' ⟨vs, rfl, hg, hn, hf, hr⟩
  simp only [disk_Disk_Append_spec, pblocks, lblocks, List.append_nil, diskRoots_of hp] at hg hn hf hr
  obtain ⟨u, us, rfl, hu, c0, c, bs, e1, hp', hm', rfl, rfl⟩ := hr
  simp only [List.cons.injEq] at e1
  obtain ⟨rfl, rfl, _⟩ := e1
  have hu : u = .int .i64 r := by
    have : [u] = [Value.int .i64 r] := hu
    simpa using this
  subst hu
  simp only [rblocks, List.append_nil] at hn hf
  exact ⟨rfl, h.lent hg (diskRoots_of hp) hp' hm' hn hf⟩
theorem c_read {w0 w : World} {d : Value} {l l' : FL} {name : List UInt8} {xs : List Int} {o : Bool} (h : Dk w0 w d l) (hF : disk_Disk_Read' l name = some (xs, o, l')) :
    Calls Tryd.prog 10 #[d, .string ⟨name.toArray⟩] w fun e w' => ∃ rv, e = .returned (.tuple #[rv, .bool o]) ∧ Dk w0 w' d l' ∧ OwnRow w' (fun _ => True) (.int .u8) xs rv ∧ (∀ x ∈ rowBlock rv, x ∉ diskBs w' d ∧ w0.heap.size ≤ x ∧ x < w'.heap.size) := by
  obtain ⟨k, hk⟩ := ((disk_Disk_Read_lm l name).2 _).1 hF
  obtain ⟨a1, a2, a3⟩ := args0 (ok0 := fun _ => False) h (fun _ h => h.elim)
  obtain ⟨b0, bm, rfl, hp, hm⟩ := h.rep
  refine (disk_Disk_Read_sok.2 k (l, name) (xs, o, l') hk w (fun _ => False) [.pointer (some ⟨b0, 0, none⟩), .string ⟨name.toArray⟩] a1 (fine0 _ _) ⟨_, _, rfl, ⟨b0, bm, rfl, hp, hm⟩, _, _, rfl, rfl, rfl⟩ (by simpa [pblocks, vblocks, disk_Disk_Read_spec] using h.nodup) (by simpa [pblocks, disk_Disk_Read_spec] using a3)).mono ?_
  rintro e w' ⟨vs, rfl, hg, hn, hf, hr⟩
  simp only [disk_Disk_Read_spec, pblocks, lblocks, List.append_nil, diskRoots_of hp] at hg hn hf hr
  obtain ⟨rv, us, rfl, hrow, u, us2, rfl, hu, c0, c, bs, e1, hp', hm', rfl, rfl⟩ := hr
  simp only [List.cons.injEq] at e1
  obtain ⟨rfl, rfl, _⟩ := e1
  have hu : u = .bool o := by
    have : [u] = [Value.bool o] := hu
    simpa using this
  subst hu
  simp only [rblocks, List.append_nil] at hn hf
  have hn2 : (mapBs w' bm ++ [b0, bm]).Nodup := by
    rw [List.append_assoc] at hn
    exact (List.nodup_append.1 hn).2.1
  have hD := h.lent hg (diskRoots_of hp) hp' hm' hn2 (fun x hx => hf x (List.mem_append_right _ hx))
  refine ⟨rv, rfl, hD, OwnRow.flat rfl hrow, fun x hx => ⟨fun hx2 => ?_, ?_, (hf x (List.mem_append_left _ hx)).1⟩⟩
  · rw [List.append_assoc] at hn
    rw [diskBs_of hp'] at hx2
    refine (List.nodup_append.1 hn).2.2 x hx x ?_ rfl
    simp only [List.mem_cons] at hx2
    simp only [List.mem_append, List.mem_cons, List.not_mem_nil, or_false]
    rcases hx2 with h | h | h <;> simp [h]
  · rcases (hf x (List.mem_append_left _ hx)).2 with q | q
    · exact (h.fresh x q).1
    · have := h.below.size; omega
theorem c_names {w0 w : World} {d : Value} {l l' : FL} {xs : List (List UInt8)} (h : Dk w0 w d l) (hF : disk_Disk_names' l = some (xs, l')) :
    Calls Tryd.prog 27 #[d] w fun e w' => ∃ rv, e = .returned rv ∧ Dk w0 w' d l' ∧ OwnRow w' (fun _ => True) .str xs rv ∧ (∀ x ∈ rowBlock rv, x ∉ diskBs w' d ∧ w0.heap.size ≤ x ∧ x < w'.heap.size) := by
  obtain ⟨k, hk⟩ := ((disk_Disk_names_lm l).2 _).1 hF
  obtain ⟨a1, a2, a3⟩ := args0 (ok0 := fun _ => False) h (fun _ h => h.elim)
  obtain ⟨b0, bm, rfl, hp, hm⟩ := h.rep
  refine (disk_Disk_names_sok.2 k l (xs, l') hk w (fun _ => False) [.pointer (some ⟨b0, 0, none⟩)] a1 (fine0 _ _) ⟨_, _, rfl, ⟨b0, bm, rfl, hp, hm⟩, rfl⟩ (by simpa [pblocks, vblocks, disk_Disk_names_spec] using h.nodup) (by simpa [pblocks, disk_Disk_names_spec] using a3)).mono ?_
  rintro e w' ⟨vs, rfl, hg, hn, hf, hr⟩
  simp only [disk_Disk_names_spec, pblocks, lblocks, List.append_nil, diskRoots_of hp] at hg hn hf hr
  obtain ⟨rv, us, rfl, hrow, c0, c, bs, e1, hp', hm', rfl, rfl⟩ := hr
  simp only [List.cons.injEq] at e1
  obtain ⟨rfl, rfl, _⟩ := e1
  simp only [rblocks, List.append_nil] at hn hf
  have hn2 : (mapBs w' bm ++ [b0, bm]).Nodup := by
    rw [List.append_assoc] at hn
    exact (List.nodup_append.1 hn).2.1
  have hD := h.lent hg (diskRoots_of hp) hp' hm' hn2 (fun x hx => hf x (List.mem_append_right _ hx))
  refine ⟨rv, rfl, hD, OwnRow.flat rfl hrow, fun x hx => ⟨fun hx2 => ?_, ?_, (hf x (List.mem_append_left _ hx)).1⟩⟩
  · rw [List.append_assoc] at hn
    rw [diskBs_of hp'] at hx2
    refine (List.nodup_append.1 hn).2.2 x hx x ?_ rfl
    simp only [List.mem_cons] at hx2
    simp only [List.mem_append, List.mem_cons, List.not_mem_nil, or_false]
    rcases hx2 with h | h | h <;> simp [h]
  · rcases (hf x (List.mem_append_left _ hx)).2 with q | q
    · exact (h.fresh x q).1
    · have := h.below.size; omega
theorem c_awake (w0 w : World) (h : w0.heap.size ≤ w.heap.size) : Calls Tryd.prog 9 #[] w fun e w' => e = .returned (.bool true) ∧ Below w.heap.size w w' := by
  obtain ⟨k, hk⟩ : ∃ k, law05_awake k = some true := law05_awake_lm.fin (law05_awake_lm.of_some 40 (by decide +kernel))
  refine (law05_awake_sok.2 k () true hk w (fun _ => False) [] (fun b h => h.elim) (fine0 _ _) rfl List.nodup_nil (fun b h => by cases h)).mono ?_
  rintro e w' ⟨vs, rfl, hg, hn, hf, hr⟩
  obtain ⟨v, vs', rfl, hv, rfl, _⟩ := hr
  have hv : v = .bool true := by
    have : [v] = [Value.bool true] := hv
    simpa using this
  subst hv
  exact ⟨rfl, ⟨hg.os, hg.tape, hg.output, hg.size, fun x hx => hg.block x hx (by simp [pblocks, law05_awake_spec])⟩⟩
end Go.Proofs.YtababmeocedhiaaDoor.gg
end
section
namespace Go.Proofs.YtababmeocedhiaaDoor.gg
open Go Go.GG Go.RowKit Go.Proofs
theorem run_look {w : World} {bm clock : Nat} {name : List UInt8} {es : Array MapEntry} {en : MapEntry} (hh : w.heap[bm]? = some (.map es clock)) (he : es.toList = [en]) (hkey : en.key = .string ⟨name.toArray⟩) :
    (Instr.lookup 44 (.map (some bm)) (.string ⟨name.toArray⟩) false).run Tryd.prog w = .ok en.val w := by
  have hu : Tryd.prog.underlying 44 = some (.map 9 58) := by kernel_rfl
  have hk : Tryd.prog.underlying 9 = some .string := by kernel_rfl
  have hck := MapKept.run_checkKey (P := Tryd.prog) (w := w) hk (isKey_str name) es.isEmpty 9999
  have h1 : Instr.findNow .string (.string ⟨name.toArray⟩) es.toList 0 = some (some (0, en.val)) := by
    rcases MapKept.findNow_spec (isKey_str name) es.toList 0 (fun x hx => by
      rw [he] at hx
      rw [List.mem_singleton.1 hx, hkey]
      exact isKey_str name) with ⟨_, h2⟩ | ⟨j, e, h1, h2, h3⟩
    · exact absurd hkey (h2 en (by rw [he]; simp))
    · rw [he] at h2
      have : j = 0 ∧ e = en := by
        cases j with
        | zero => simp at h2; exact ⟨rfl, h2.symm⟩
        | succ j => simp at h2
      obtain ⟨rfl, rfl⟩ := this
      exact h1
  have hr := GG.run_underlying (w := w) hu
  simp [Instr.lookup, hr, MapKept.run_getObj_map hh, hck, MapKept.run_findKey hk h1, Result.andThen]
end Go.Proofs.YtababmeocedhiaaDoor.gg
end
section
namespace Go.Proofs.YtababmeocedhiaaDoor.gg
open Go Go.GG Go.RowKit Go.Proofs
set_option linter.unusedVariables false
theorem c_clone {w : World} {u : Value} {xs : List Int} (h : OwnRow w (fun _ => True) (.int .u8) xs u) (hl : xs.length ≤ 1048576) (hlt : ∀ x ∈ rowBlock u, x < w.heap.size) :
    Calls Tryd.prog 26 #[u] w fun e w' => ∃ rv, e = .returned rv ∧ Below w.heap.size w w' ∧ OwnRow w' (fun _ => True) (.int .u8) xs rv ∧ (∀ x ∈ rowBlock rv, w.heap.size ≤ x ∧ x < w'.heap.size) := by
  have hF : slices_Clone_byte_byte' xs = some xs := by
    unfold slices_Clone_byte_byte'
    rw [room_of (by simp; omega)]; simp
  obtain ⟨k, hk⟩ := ((slices_Clone_byte_byte_lm xs).2 _).1 hF
  have hv : (T.slice (.int .u8)).holds w (· ∈ rowBlock u) xs [u] := by
    simp only [T.holds]
    rcases h with ⟨rfl, rfl⟩ | ⟨B, C, e, fr, cap, rfl, h1, h2, h3, h4, h5⟩
    · exact ⟨none, 0, rfl, Nat.le_refl _, .inl ⟨rfl, fun _ => rfl⟩⟩
    · refine ⟨_, _, rfl, h1, .inr ⟨B, 0, C, e, fr, rfl, by simp [rowBlock], h3, fun i x hx => ?_⟩⟩
      obtain ⟨ds, hd, hj⟩ := h5 i x hx
      simp only [T.holds] at hd
      exact ⟨ds, hd, by simpa using hj⟩
  refine (slices_Clone_byte_byte_sok.2 k xs xs hk w (· ∈ rowBlock u) [u] hlt (fine0 _ _) ⟨_, _, rfl, hv, rfl⟩ List.nodup_nil (fun b h => by cases h)).mono ?_
  rintro e w' ⟨vs, rfl, hg, hn, hf, hr⟩
  obtain ⟨rv, vs', rfl, hrow, rfl, _⟩ := hr
  simp only [slices_Clone_byte_byte_spec, rblocks, pblocks, lblocks, List.append_nil] at hn hf hg
  exact ⟨rv, rfl, ⟨hg.os, hg.tape, hg.output, hg.size, fun x hx => hg.block x hx (by simp)⟩, OwnRow.flat rfl hrow, fun x hx => by have := hf x hx; simp at this; omega⟩
theorem own_slice {w : World} {ok : Nat → Prop} {t : T} {xs : List t.den} {v : Value} (h : OwnRow w ok t xs v) : ∃ A n c, v = .slice A n c := by
  rcases h with ⟨rfl, _⟩ | ⟨b, C, e, fr, cap, rfl, _⟩
  · exact ⟨_, _, _, rfl⟩
  · exact ⟨_, _, _, rfl⟩
def FinF (w0 : World) (d : Value) (name : List UInt8) (xs : List Int) (s : Int) (rv : Value) (w' : World) : Prop :=
  ∃ R cap C e2 fr sv, rv = .slice (some ⟨R, 0, none⟩) 1 cap ∧ Dk w0 w' d [(name, (xs, s))] ∧ w'.heap[R]? = some (.cells C e2 fr) ∧ C[1]? = some sv ∧ R ∉ diskBs w' d ∧ w0.heap.size ≤ R ∧ R < w'.heap.size ∧
    OwnRow w' (fun _ => True) (.int .u8) xs sv ∧ ∀ x ∈ rowBlock sv, x ≠ R ∧ x ∉ diskBs w' d ∧ w0.heap.size ≤ x ∧ x < w'.heap.size
theorem file_sub {w : World} {b0 bm p clock : Nat} {em ef : TypeId} {es : Array MapEntry} {en : MapEntry} {u y : Value} (hpm : w.heap[b0]? = some (.cells #[.map (some bm)] em)) (hmap : w.heap[bm]? = some (.map es clock)) (e1 : es.toList = [en]) (hev : en.val = .pointer (some ⟨p, 0, none⟩)) (hpf : w.heap[p]? = some (.cells #[u, y] ef)) : ∀ x ∈ p :: rowBlock u, x ∈ diskBs w (.pointer (some ⟨b0, 0, none⟩)) := by
  rw [diskBs_of ⟨em, hpm⟩, mapBs_of hmap, e1]
  intro x hx
  simp only [entBs, hev, fileBs, hpf]
  cases u <;> simp_all [Impl.blocks, rowBlock]
  rename_i A n c
  cases A <;> simp_all
theorem finF_mk {w0 wr w3 : World} {d : Value} {name : List UInt8} {xs : List Int} {s : Int} {sv y : Value} {cap : Nat} {zs : Array Value} (h1 : Dk w0 wr d [(name, (xs, s))]) (hb : Below wr.drew.heap.size wr.drew w3) (hrow : OwnRow w3 (fun _ => True) (.int .u8) xs sv) (hrb : ∀ x ∈ rowBlock sv, wr.drew.heap.size ≤ x ∧ x < w3.heap.size) (o : Obj) :
    FinF w0 d name xs s (.slice (some ⟨w3.heap.size + 1, 0, none⟩) 1 cap) ((w3.alloc o).alloc (.cells (#[.string ⟨name.toArray⟩, sv, y] ++ zs) 33)).drew := by
  have hz : wr.heap.size ≤ w3.heap.size := hb.size
  have hz0 := h1.below.size
  have hold : ∀ x, x < w3.heap.size → ((w3.alloc o).alloc (.cells (#[.string ⟨name.toArray⟩, sv, y] ++ zs) 33)).drew.heap[x]? = w3.heap[x]? := fun x hx => by
    show (((w3.heap.push o).push _)[x]?) = _
    rw [Array.getElem?_push, Array.getElem?_push]
    simp only [Array.size_push]
    rw [if_neg (by omega), if_neg (by omega)]
  have hsz : ((w3.alloc o).alloc (.cells (#[.string ⟨name.toArray⟩, sv, y] ++ zs) 33)).drew.heap.size = w3.heap.size + 2 := by
    show ((w3.heap.push o).push _).size = _
    simp
  have hb2 : Below w0.heap.size w0 ((w3.alloc o).alloc (.cells (#[.string ⟨name.toArray⟩, sv, y] ++ zs) 33)).drew :=
    below_trans h1.below hb.os hb.tape hb.output (by rw [hsz]; omega) fun x hx => by
      rw [hold x (by omega)]
      exact hb.block x (show x < wr.heap.size by omega)
  have hk : ∀ x ∈ diskBs wr d, ((w3.alloc o).alloc (.cells (#[.string ⟨name.toArray⟩, sv, y] ++ zs) 33)).drew.heap[x]? = wr.heap[x]? := fun x hx => by
    have := (h1.fresh x hx).2
    rw [hold x (by omega)]
    exact hb.block x this
  have hd := (h1.rep.keep hk).2
  have hblk : ∀ x ∈ (Impl.arr sv).blocks, x ∈ rowBlock sv := by
    intro x hx
    cases sv <;> simp_all [Impl.blocks, rowBlock]
    rename_i A n c
    cases A <;> simp_all
  refine ⟨w3.heap.size + 1, cap, #[.string ⟨name.toArray⟩, sv, y] ++ zs, 33, (0, 0), sv, rfl, h1.keep hk (by rw [hsz]; omega) hb2, ?_, by rw [Array.getElem?_append_left (by simp)]; rfl, ?_, by omega, by rw [hsz]; omega, ?_, fun x hx => ?_⟩
  · show (((w3.heap.push o).push _)[w3.heap.size + 1]?) = _
    rw [Array.getElem?_push, if_pos (by simp)]
  · rw [hd]
    intro hx
    have := (h1.fresh _ hx).2
    omega
  · exact OwnRow.mono (fun b hb => ⟨hb, fun _ _ _ h => by rw [hold b (Array.getElem?_eq_some_iff.1 h).1]; exact h⟩) (fun x hx => hold x (hrb x (hblk x hx)).2) hrow
  · have := hrb x hx
    have h5 : wr.heap.size ≤ x := this.1
    rw [hd, hsz]
    refine ⟨by omega, fun hx2 => ?_, by omega, by omega⟩
    have := (h1.fresh _ hx2).2
    omega
set_option maxRecDepth 100000 in
set_option maxHeartbeats 8000000 in
theorem files1 {w0 w : World} {d : Value} {name : List UInt8} {xs : List Int} {s : Int} (h : Dk w0 w d [(name, (xs, s))]) (hxs : xs.length ≤ 1048576) (hN : disk_Disk_names' [(name, (xs, s))] = some ([name], [(name, (xs, s))])) :
    Calls Tryd.prog 11 #[d] w fun e w' => ∃ rv, e = .returned rv ∧ FinF w0 d name xs s rv w' := by
  refine (callsIn_wide (n := 0)).1 (callsIn_of_wp Tryd.func11 rfl trivial ?_ rfl)
  simp only [Tryd.ntmps11, List.size_toArray, List.length_cons, List.length_nil, Nat.reduceAdd, Nat.reduceSub, Array.replicate_succ, Array.replicate_zero, List.push_toArray, List.append_toArray, List.nil_append, List.cons_append]
  have mixed : Tryd.prog.follows .mixedOrders = true := by kernel_rfl
  gi_wp2
  refine ⟨trivial, rfl, ((callsIn_wide (n := 0)).2 (c_names h hN)).mono ?_⟩
  rintro e w1 ⟨rv, rfl, h1, hrow, hrb⟩
  rcases hrow with ⟨_, q⟩ | ⟨B, C, e, fr, cap, rfl, r1, r2, r3, r4, r5⟩
  · cases q
  obtain ⟨ds, hd, hj⟩ := r5 0 _ rfl
  simp only [T.holds] at hd
  subst hd
  have hcell : w1.cell? ⟨B, 0, none⟩ = some (.string ⟨name.toArray⟩) := by
    have := hj 0 _ rfl
    simp [World.cell?, r3]
    simpa using this
  obtain ⟨b0, bm, rfl, ⟨em, hpm⟩, es, clock, hmap, hP⟩ := h1.rep
  have hmc : w1.cell? ⟨b0, 0, none⟩ = some (.map (some bm)) := by simp [World.cell?, hpm]
  obtain ⟨en, es', e1, ⟨hkey, hval⟩, e2⟩ := hP.ents
  obtain rfl : es' = [] := e2
  have hval : FileAt w1 (xs, s) en.val := by
    rcases hval with ⟨R, b, q, _⟩ | ⟨_, q⟩
    · cases q
    · exact q
  obtain ⟨p, u, ef, hev, hpf, hu⟩ := hval
  have hc0 : w1.cell? ⟨p, 0, none⟩ = some u := by simp [World.cell?, hpf]
  have hc1 : w1.cell? ⟨p, 1, none⟩ = some (.int .i64 s) := by simp [World.cell?, hpf]
  simp only [List.length_cons, List.length_nil, Nat.zero_add]
  gi_wp2
  gi_loopw [3, 10] (fun v3 v10 wr => (v10 = .int .i64 0 ∧ v3 = .slice none 0 0 ∧ wr = w1) ∨ (v10 = .int .i64 1 ∧ FinF w0 (.pointer (some ⟨b0, 0, none⟩)) name xs s v3 wr)) (fun _ v10 _ => (1 - RowKit.intOf v10).toNat)
  case atStart => exact .inl ⟨rfl, rfl, rfl⟩
  case round =>
    rcases hrel with ⟨rfl, rfl, rfl⟩ | ⟨rfl, hfin⟩
    · gi_wp2
      rw [run_look hmap e1 hkey]
      rw [hev]
      have hsub := file_sub hpm hmap e1 hev hpf
      have hult : ∀ x ∈ rowBlock u, x < wr.drew.heap.size := fun x hx => (h1.fresh x (hsub x (List.mem_cons_of_mem _ hx))).2
      have hplt : p < wr.heap.size := (h1.fresh p (hsub p (List.mem_cons_self ..))).2
      gi_wp2
      gi_region_with (first | (refine ⟨trivial, rfl, ((callsIn_wide (n := 0)).2 (c_clone (w := wr.drew) hu hxs hult)).mono ?_⟩; rintro e w3 ⟨rv, rfl, hb3, hrow3, hrb3⟩; obtain ⟨A3, n3, c3, rfl⟩ := own_slice hrow3; have hc3 : w3.cell? ⟨p, 1, none⟩ = some (.int .i64 s) := (by have := hb3.block p hplt; simp only [World.cell?] at hc1 ⊢; rw [this]; exact hc1)))
      all_goals (gi_wp2; exact ⟨.inr ⟨rfl, finF_mk h1 hb3 hrow3 hrb3 _⟩, by decide⟩)
    · gi_wp2
      go_ret
      exact ⟨_, rfl, hfin⟩
end Go.Proofs.YtababmeocedhiaaDoor.gg
end
section
namespace Go.Proofs.YtababmeocedhiaaDoor.gg
open Go Go.GG Go.RowKit Go.Proofs
set_option linter.unusedVariables false
/-- Some bytes that are not the disk's. -/
def Row8 (w0 w : World) (bad : Nat → Prop) (A : Option Addr) (n : Nat) : Prop := n = 0 ∨ ∃ B C e fr, A = some ⟨B, 0, none⟩ ∧ w.heap[B]? = some (.cells C e fr) ∧ (∀ o, o < C.size → ¬ (fr.1 ≤ o ∧ o < fr.2)) ∧ (∀ i, i < n → ∃ z, C[i]? = some (.int .u8 z)) ∧ ¬ bad B ∧ w0.heap.size ≤ B ∧ B < w.heap.size
theorem row8_of {w0 w : World} {ok bad : Nat → Prop} {xs : List Int} {A : Option Addr} {n c : Nat} (h : OwnRow w ok (.int .u8) xs (.slice A n c)) (hb : ∀ x ∈ rowBlock (.slice A n c), ¬ bad x ∧ w0.heap.size ≤ x ∧ x < w.heap.size) : Row8 w0 w bad A n ∧ n = xs.length := by
  rcases h with ⟨h1, rfl⟩ | ⟨B, C, e, fr, cap, h1, h2, h3, h4, h5, h6⟩
  · cases h1; exact ⟨.inl rfl, rfl⟩
  · cases h1
    have := hb B (by simp [rowBlock])
    refine ⟨.inr ⟨B, C, e, fr, rfl, h4, h5.free, fun i hi => ?_, this.1, this.2.1, this.2.2⟩, rfl⟩
    obtain ⟨ds, hd, hj⟩ := h6 i _ (List.getElem?_eq_getElem hi)
    simp only [T.holds] at hd
    subst hd
    exact ⟨_, by simpa [T.cnt] using hj 0 _ rfl⟩
theorem Row8.cell {w0 w : World} {bad : Nat → Prop} {A : Option Addr} {n i : Nat} (h : Row8 w0 w bad A n) (hi : i < n) : ∃ B z, A = some ⟨B, 0, none⟩ ∧ w.cell? ⟨B, i, none⟩ = some (.int .u8 z) ∧ w.frozen? ⟨B, i, none⟩ = false ∧ ¬ bad B ∧ w0.heap.size ≤ B ∧ B < w.heap.size ∧
    ∀ z', Row8 w0 (w.setCell ⟨B, i, none⟩ (.int .u8 z')) bad A n := by
  rcases h with h | ⟨B, C, e, fr, rfl, h1, h2, h3, h4, h5, h6⟩
  · omega
  · obtain ⟨z, hz⟩ := h3 i hi
    have hC : i < C.size := by
      rcases Nat.lt_or_ge i C.size with h | h
      · exact h
      · rw [Array.getElem?_eq_none h] at hz; cases hz
    refine ⟨B, z, rfl, by simp [World.cell?, h1, hz], ?_, h4, h5, h6, fun z' => .inr ?_⟩
    · have := h2 i hC
      simp only [World.frozen?, h1]
      simp only [Bool.and_eq_false_iff, decide_eq_false_iff_not]
      omega
    · refine ⟨B, C.setIfInBounds i (.int .u8 z'), e, fr, rfl, ?_, by simpa using h2, fun j hj => ?_, h4, h5, ?_⟩
      · simp [World.setCell, Array.getElem?_modify, h1]
      · obtain ⟨y, hy⟩ := h3 j hj
        by_cases e : i = j
        · subst e; exact ⟨z', by simp [Array.getElem?_setIfInBounds, hC]⟩
        · exact ⟨y, by rw [Array.getElem?_setIfInBounds_ne e, hy]⟩
      · simpa [World.setCell] using h6
theorem setCell_other {w : World} {B i x : Nat} {v : Value} (h : x ≠ B) : (w.setCell ⟨B, i, none⟩ v).heap[x]? = w.heap[x]? := Below.heap_setCell w _ v x h
theorem setCell_size {w : World} {B i : Nat} {v : Value} : (w.setCell ⟨B, i, none⟩ v).heap.size = w.heap.size := by simp [World.setCell]
theorem dk_set {w0 w : World} {d : Value} {l : FL} {B i : Nat} {v : Value} (h : Dk w0 w d l) (hB : B ∉ diskBs w d) (h0 : w0.heap.size ≤ B) : Dk w0 (w.setCell ⟨B, i, none⟩ v) d l ∧ diskBs (w.setCell ⟨B, i, none⟩ v) d = diskBs w d := by
  have hk : ∀ x ∈ diskBs w d, (w.setCell ⟨B, i, none⟩ v).heap[x]? = w.heap[x]? := fun x hx => setCell_other fun e => hB (e ▸ hx)
  exact ⟨h.keep hk (by rw [setCell_size]; exact Nat.le_refl _) (h.below.setCell h0 v), (h.rep.keep hk).2⟩
theorem own_holds {w : World} {xs : List Int} {u : Value} (h : OwnRow w (fun _ => True) (.int .u8) xs u) : (T.slice (.int .u8)).holds w (fun _ => True) xs [u] := by
  simp only [T.holds]
  rcases h with ⟨rfl, rfl⟩ | ⟨B, C, e, fr, cap, rfl, h1, h2, h3, h4, h5⟩
  · exact ⟨none, 0, rfl, Nat.le_refl _, .inl ⟨rfl, fun _ => rfl⟩⟩
  · refine ⟨_, _, rfl, h1, .inr ⟨B, 0, C, e, fr, rfl, trivial, h3, fun i x hx => ?_⟩⟩
    obtain ⟨ds, hd, hj⟩ := h5 i x hx
    simp only [T.holds] at hd
    exact ⟨ds, hd, by simpa using hj⟩
set_option maxRecDepth 100000 in
set_option maxHeartbeats 8000000 in
theorem owns_run {w0 : World} {ok0 : Nat → Prop} {name : List UInt8} {b : List Int} {v : Value} (hok : ∀ b, ok0 b → b < w0.heap.size) (hv : (T.slice (.int .u8)).holds w0 ok0 b [v]) (hl : b.length ≤ 1048576) :
    Calls Tryd.prog 3 #[.string ⟨name.toArray⟩, v] w0 fun e w => e = .returned (.bool true) ∧ Below w0.heap.size w0 w := by
  have mixed : Tryd.prog.follows .mixedOrders = true := by kernel_rfl
  rcases owns_case name hl with ⟨r, l, hr, hA⟩ | ⟨hA, hN, hR⟩
  · refine (callsIn_wide (n := 0)).1 (callsIn_of_wp Tryd.func3 rfl trivial ?_ rfl)
    simp only [Tryd.ntmps3, List.size_toArray, List.length_cons, List.length_nil, Nat.reduceAdd, Nat.reduceSub, Array.replicate_succ, Array.replicate_zero, List.push_toArray, List.append_toArray, List.nil_append, List.cons_append]
    gi_wp2
    refine ⟨trivial, rfl, ((callsIn_wide (n := 0)).2 (c_new w0)).mono ?_⟩
    rintro e w1 ⟨d, rfl, h1⟩
    obtain ⟨b0, bm, rfl, hpm, hmap⟩ := h1.rep
    gi_wp2
    refine ⟨trivial, rfl, ((callsIn_wide (n := 0)).2 (c_app h1 hok hv hA)).mono ?_⟩
    rintro e w2 ⟨rfl, h2⟩
    gi_wp2
    · refine ⟨trivial, rfl, ((callsIn_wide (n := 0)).2 (c_awake w0 w2 h2.below.size)).mono ?_⟩
      rintro e w3 ⟨rfl, h3⟩
      gi_wp2
      go_ret
      exact ⟨rfl, below_trans h2.below h3.os h3.tape h3.output h3.size fun x hx => h3.block x (Nat.lt_of_lt_of_le hx h2.below.size)⟩
  · refine (callsIn_wide (n := 0)).1 (callsIn_of_wp Tryd.func3 rfl trivial ?_ rfl)
    simp only [Tryd.ntmps3, List.size_toArray, List.length_cons, List.length_nil, Nat.reduceAdd, Nat.reduceSub, Array.replicate_succ, Array.replicate_zero, List.push_toArray, List.append_toArray, List.nil_append, List.cons_append]
    gi_wp2
    refine ⟨trivial, rfl, ((callsIn_wide (n := 0)).2 (c_new w0)).mono ?_⟩
    rintro e w1 ⟨d, rfl, h1⟩
    obtain ⟨b0, bm, rfl, hpm, hmap⟩ := h1.rep
    gi_wp2
    refine ⟨trivial, rfl, ((callsIn_wide (n := 0)).2 (c_app h1 hok hv hA)).mono ?_⟩
    rintro e w2 ⟨rfl, h2⟩
    gi_wp2
    refine ⟨trivial, rfl, ((callsIn_wide (n := 0)).2 (c_read h2 hR)).mono ?_⟩
    rintro e w3 ⟨rv, rfl, h3, hrow, hrb⟩
    obtain ⟨A3, n3, c3, rfl⟩ := own_slice hrow
    gi_wp2
    obtain ⟨hrow8, hn3⟩ := row8_of (bad := (· ∈ diskBs w3 (.pointer (some ⟨b0, 0, none⟩)))) hrow hrb
    gi_loopw [8] (fun v8 w => ∃ i : Nat, v8 = .int .i64 i ∧ i ≤ n3 ∧ Dk w0 w (.pointer (some ⟨b0, 0, none⟩)) [(name, (b, 0))] ∧ Row8 w0 w (· ∈ diskBs w (.pointer (some ⟨b0, 0, none⟩))) A3 n3) (fun v8 _ => n3 - (RowKit.intOf v8).toNat)
    case atStart => exact ⟨0, rfl, Nat.zero_le _, h3, hrow8⟩
    case round =>
      obtain ⟨i, rfl, hin, h4, hrow4⟩ := hrel
      have hn64 : n3 ≤ 1048576 := by omega
      by_cases hi : i < n3
      · obtain ⟨B, z, rfl, hcell, hfro, hB, hB0, hB1, hset⟩ := hrow4.cell hi
        have q1 : (i : Int) < (n3 : Int) := by omega
        gi_wp2
        obtain ⟨k1, k2⟩ := dk_set h4 (i := i) (v := .int .u8 ((z + 1) % 256)) hB hB0
        refine ⟨⟨i + 1, rfl, hi, k1, ?_⟩, ?_⟩
        · rw [k2]; exact hset _
        · simp only [RowKit.intOf]; omega
      · have q1 : ¬ (i : Int) < (n3 : Int) := by omega
        gi_wp2
        refine ⟨trivial, rfl, ((callsIn_wide (n := 0)).2 (files1 h4 hl hN)).mono ?_⟩
        rintro e w5 ⟨rv, rfl, R, cap5, C5, e5, fr5, sv, rfl, h5, hR5, hsv, hRd, hR0, hR1, hrow5, hrb5⟩
        obtain ⟨A5, n5, c5, rfl⟩ := own_slice hrow5
        obtain ⟨hrow6, hn5⟩ := row8_of (bad := fun x => x = R ∨ x ∈ diskBs w5 (.pointer (some ⟨b0, 0, none⟩))) hrow5 (fun x hx => by
          obtain ⟨y1, y2, y3, y4⟩ := hrb5 x hx
          exact ⟨fun h => h.elim y1 y2, y3, y4⟩)
        have hc5 : w5.cell? ⟨R, 1, none⟩ = some (.slice A5 n5 c5) := by simp [World.cell?, hR5, hsv]
        gi_wp2
        gi_loopw [10] (fun v10 w => ∃ i : Nat, v10 = .int .i64 i ∧ i ≤ n5 ∧ Dk w0 w (.pointer (some ⟨b0, 0, none⟩)) [(name, (b, 0))] ∧ w.cell? ⟨R, 1, none⟩ = some (.slice A5 n5 c5) ∧ Row8 w0 w (fun x => x = R ∨ x ∈ diskBs w (.pointer (some ⟨b0, 0, none⟩))) A5 n5) (fun v10 _ => n5 - (RowKit.intOf v10).toNat)
        case atStart => exact ⟨0, rfl, Nat.zero_le _, h5, hc5, hrow6⟩
        case round =>
          obtain ⟨j, rfl, hjn, h6, hc6, hrow7⟩ := hrel
          have hn65 : n5 ≤ 1048576 := by omega
          by_cases hj : j < n5
          · obtain ⟨B, z, rfl, hcell, hfro, hB, hB0, hB1, hset⟩ := hrow7.cell hj
            have q2 : (j : Int) < (n5 : Int) := by omega
            gi_wp2
            obtain ⟨k1, k2⟩ := dk_set h6 (i := j) (v := .int .u8 ((z + 1) % 256)) (fun h => hB (.inr h)) hB0
            refine ⟨⟨j + 1, rfl, hj, k1, ?_, ?_⟩, ?_⟩
            · rw [← hc6]
              simp only [World.cell?]
              rw [setCell_other fun e => hB (.inl e.symm)]
            · rw [k2]; exact hset _
            · simp only [RowKit.intOf]; omega
          · have q1 : ¬ (j : Int) < (n5 : Int) := by omega
            gi_wp2
            refine ⟨trivial, rfl, ((callsIn_wide (n := 0)).2 (c_read h6 hR)).mono ?_⟩
            rintro e w7 ⟨rv, rfl, h7, hrow7, hrb7⟩
            obtain ⟨A7, n7, c7, rfl⟩ := own_slice hrow7
            gi_wp2
            have u22 : Tryd.prog.underlying 22 = some (.slice 5) := by kernel_rfl
            have u5 : Tryd.prog.underlying 5 = some (.int .u8) := by kernel_rfl
            have u9 : Tryd.prog.underlying 9 = some .string := by kernel_rfl
            rw [toStr_run u22 u5 u9 (own_holds hrow7)]
            gi_wp2
            rw [toStr_run u22 u5 u9 (T.holds_mono (args0 h7 hok).2.1 hv)]
            gi_wp2
            refine ⟨trivial, rfl, ((callsIn_wide (n := 0)).2 (c_awake w0 w7 h7.below.size)).mono ?_⟩
            rintro e w8 ⟨rfl, h8⟩
            gi_wp2
            go_ret
            exact ⟨rfl, below_trans h7.below h8.os h8.tape h8.output h8.size fun x hx => h8.block x (Nat.lt_of_lt_of_le hx h7.below.size)⟩
end Go.Proofs.YtababmeocedhiaaDoor.gg
end
section
namespace Go.Proofs.YtababmeocedhiaaDoor.gg
open Go Go.GG Go.RowKit Go.Proofs
def law05_DiskOwns (k : Nat) (x0 : List UInt8) (x1 : List Int) : Option Bool := bif decide (x1.length ≤ 1048576) then some true else none
def law05_DiskOwns_spec : FSpec := ⟨[.imm .str, .imm (.slice (.int .u8))], [.imm .bool], fun k x => law05_DiskOwns k x.1 x.2⟩
theorem law05_DiskOwns_sok : SpecOk Tryd.prog 3 law05_DiskOwns_spec := by
  refine ⟨⟨Tryd.f3, Tryd.func3, by decide +kernel, rfl⟩, ?_⟩
  intro k x y hF w ok0 vals hok _ hp _ _
  obtain ⟨v1, vs1, rfl, h1, v2, vs2, rfl, h2, rfl⟩ := hp
  have hl : x.2.length ≤ 1048576 := by
    by_cases h : x.2.length ≤ 1048576
    · exact h
    · have hF : law05_DiskOwns k x.1 x.2 = some y := hF
      unfold law05_DiskOwns at hF
      rw [decide_eq_false h] at hF
      cases hF
  have hy : y = true := by
    have hF : law05_DiskOwns k x.1 x.2 = some y := hF
    unfold law05_DiskOwns at hF
    rw [decide_eq_true hl] at hF
    exact (Option.some.inj hF).symm
  have h1 : T.str.holds w ok0 x.1 [v1] := h1
  have h2 : (T.slice (.int .u8)).holds w ok0 x.2 [v2] := h2
  have e1 : v1 = .string ⟨x.1.toArray⟩ := by
    simp only [T.holds] at h1
    simpa using h1
  subst e1
  subst hy
  refine (owns_run hok h2 hl).mono ?_
  rintro e w' ⟨rfl, hb⟩
  refine ⟨[.bool true], rfl, ⟨hb.os, hb.tape, hb.output, hb.size, fun x hx _ => hb.block x hx⟩, ?_, ?_, ?_⟩
  · simp [rblocks, lblocks, law05_DiskOwns_spec]
  · intro b hb
    simp [rblocks, lblocks, law05_DiskOwns_spec] at hb
  · exact ⟨_, _, rfl, by simp only [RRep, T.holds]; rfl, rfl, rfl⟩
theorem law_DiskOwns (x0 : List UInt8) (x1 : List Int) (h : x1.length ≤ 1048576) : ∃ k, law05_DiskOwns k x0 x1 = some true := ⟨0, by unfold law05_DiskOwns; rw [decide_eq_true h]; rfl⟩
end Go.Proofs.YtababmeocedhiaaDoor.gg
end
