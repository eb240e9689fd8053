/- Maps keyed by strings whose elements are pointers, as lists of pairs: look-up, store of a new key, delete, len, range. No program in sight. -/
import Derived.Test.YthjpjekaiflibaaBase
import Derived.MapKept
import Derived.Maps.RangeRun
import Derived.Carry
namespace Go.Proofs.Ythjpjekaiflibaa
open Go.RowKit Go.MapKept
open Go.ChangeMaps (setBlock)

def ptr (b : Nat) : Value := .pointer (some ⟨b, 0, none⟩)
def MapOf (w : World) (mb : Nat) (m : List (ByteArray × Nat)) : Prop :=
  ∃ es clock, w.heap[mb]? = some (.map es clock) ∧ Stamped es clock ∧ es.toList.map (fun e => (e.key, e.val)) = m.map fun p => (Value.string p.1, ptr p.2)

theorem MapOf.fr {S : Nat → Prop} {w w' : World} {mb : Nat} {m : List (ByteArray × Nat)} (h : MapOf w mb m) (hF : Fr S w w') (hs : ¬ S mb) : MapOf w' mb m := by
  obtain ⟨es, clock, hb, r⟩ := h
  exact ⟨es, clock, hF.at hb hs, r⟩
theorem MapOf.lt {w : World} {mb : Nat} {m : List (ByteArray × Nat)} (h : MapOf w mb m) : mb < w.heap.size := by
  obtain ⟨es, clock, hb, r⟩ := h
  exact block_lt hb
theorem keys_of {es : List MapEntry} {m : List (ByteArray × Nat)} (h : es.map (fun e => (e.key, e.val)) = m.map fun p => (Value.string p.1, ptr p.2)) : es.map (·.key) = m.map fun p => Value.string p.1 := by
  have := congrArg (List.map Prod.fst) h
  simpa [List.map_map, Function.comp_def] using this
theorem MapOf.nodup {w : World} {mb : Nat} {m : List (ByteArray × Nat)} (h : MapOf w mb m) : (m.map (·.1)).Nodup := by
  obtain ⟨es, clock, hb, ⟨_, _, hk⟩, he⟩ := h
  rw [keys_of he] at hk
  have : (m.map fun p => Value.string p.1) = (m.map (·.1)).map Value.string := by simp
  rw [this] at hk
  exact (List.pairwise_map.1 hk).imp fun hne e => hne (by rw [e])
theorem isKeys {es : Array MapEntry} {m : List (ByteArray × Nat)} (h : es.toList.map (fun e => (e.key, e.val)) = m.map fun p => (Value.string p.1, ptr p.2)) : ∀ x ∈ es.toList, IsKey .string x.key := by
  intro x hx
  have : x.key ∈ es.toList.map (·.key) := List.mem_map.2 ⟨x, hx, rfl⟩
  rw [keys_of h] at this
  obtain ⟨p, _, e⟩ := List.mem_map.1 this
  rw [← e]; trivial
theorem at_of {es : List MapEntry} {m : List (ByteArray × Nat)} (h : es.map (fun e => (e.key, e.val)) = m.map fun p => (Value.string p.1, ptr p.2)) {j : Nat} {e : MapEntry} (hj : es[j]? = some e) :
    ∃ p, m[j]? = some p ∧ e.key = .string p.1 ∧ e.val = ptr p.2 := by
  have := congrArg (fun l => l[j]?) h
  simp only [List.getElem?_map, hj, Option.map_some] at this
  cases hm : m[j]? with
  | none => simp [hm] at this
  | some p => simp [hm] at this; exact ⟨p, rfl, this.1, this.2⟩
theorem find_at : ∀ {m : List (ByteArray × Nat)} {j : Nat} {p : ByteArray × Nat} (_ : (m.map (·.1)).Nodup) (_ : m[j]? = some p), m.find? (fun q => decide (q.1 = p.1)) = some p
  | [], _, _, _, h => by simp at h
  | q :: m, 0, p, _, h => by simp at h; subst h; simp
  | q :: m, j + 1, p, hn, h => by
    simp at h hn
    have hne : q.1 ≠ p.1 := fun e => hn.1 p.2 (by
      have := List.mem_of_getElem? h
      rw [e]; exact this)
    rw [List.find?_cons_of_neg (by simpa using hne)]
    exact find_at hn.2 h
theorem none_of {es : List MapEntry} {m : List (ByteArray × Nat)} {s : ByteArray} (h : es.map (fun e => (e.key, e.val)) = m.map fun p => (Value.string p.1, ptr p.2)) (hn : ∀ x ∈ es, x.key ≠ .string s) :
    m.find? (fun q => decide (q.1 = s)) = none := by
  rw [List.find?_eq_none]
  intro p hp
  have hk := keys_of h
  have : Value.string p.1 ∈ es.map (·.key) := by rw [hk]; exact List.mem_map.2 ⟨p, hp, rfl⟩
  obtain ⟨x, hx, e⟩ := List.mem_map.1 this
  have := hn x hx
  simp
  intro e'
  rw [e, e'] at this
  exact this rfl

section
variable {P : Program} {T K E : TypeId} (hT : P.underlying T = some (.map K E)) (hK : P.underlying K = some .string)
include hT hK
/-- What the key's element is; nil where there is none. -/
def lookOf (m : List (ByteArray × Nat)) (s : ByteArray) : Value := match m.find? (fun q => decide (q.1 = s)) with | some p => ptr p.2 | none => .pointer none
theorem MapOf.look {w : World} {mb : Nat} {m : List (ByteArray × Nat)} (hz : (zeroValue E).run P w = .ok (.pointer none) w) (h : MapOf w mb m) (s : ByteArray) :
    (Instr.lookup T (.map (some mb)) (.string s) false).run P w = .ok (lookOf m s) w := by
  have hn := h.nodup
  obtain ⟨es, clock, hb, hs, he⟩ := h
  rcases findNow_spec (d := .string) (k := .string s) trivial es.toList 0 (isKeys he) with ⟨h1, h2⟩ | ⟨j, e, h1, h2, h3⟩
  · have := none_of he h2
    simp [Instr.lookup, run_underlying hT, MapKept.run_getObj_map hb, run_checkKey hK (k := .string s) trivial, run_findKey hK h1, Result.andThen, hz, lookOf, this]
  · obtain ⟨p, hp, hk, hv⟩ := at_of he h2
    have : p.1 = s := by rw [h3] at hk; cases hk; rfl
    have hf := find_at hn hp
    rw [this] at hf
    simp [Instr.lookup, run_underlying hT, MapKept.run_getObj_map hb, run_checkKey hK (k := .string s) trivial, run_findKey hK h1, Result.andThen, lookOf, hf, hv]
omit hK in
theorem MapOf.len {w : World} {mb : Nat} {m : List (ByteArray × Nat)} (h : MapOf w mb m) (ty : TypeId) : (Builtin.len_ #[T] ty #[.map (some mb)]).run P w = .ok (.int .i64 m.length) w := by
  obtain ⟨es, clock, hb, hs, he⟩ := h
  have : es.size = m.length := by have := congrArg List.length he; simpa using this
  simp [Builtin.len_, run_underlying hT, MapKept.run_getObj_map hb, Result.andThen, goInt, this]
theorem MapOf.put {w : World} {mb : Nat} {m : List (ByteArray × Nat)} (h : MapOf w mb m) (s : ByteArray) (b : Nat) (hno : m.find? (fun q => decide (q.1 = s)) = none) :
    ∃ w', (Instr.mapUpdate T (.map (some mb)) (.string s) (ptr b)).run P w = .ok () w' ∧ MapOf w' mb (m ++ [(s, b)]) ∧ Fr (Is (some mb)) w w' ∧ w'.heap.size = w.heap.size := by
  have hn := h.nodup
  obtain ⟨es, clock, hb, hs, he⟩ := h
  rcases findNow_spec (d := .string) (k := .string s) trivial es.toList 0 (isKeys he) with ⟨h1, h2⟩ | ⟨j, e, h1, h2, h3⟩
  · refine ⟨{ w with heap := w.heap.setIfInBounds mb (.map (es.push { key := .string s, val := ptr b, born := clock }) (clock + 1)) }, by simp [Instr.mapUpdate, run_underlying hT, MapKept.run_getObj_map hb, run_checkKey hK (k := .string s) trivial, run_findKey hK h1, MapKept.run_setObj_map _ hb, Result.andThen], ⟨_, _, (heap_set hb).1, stamped_push hs h2, by simp [he]⟩, ⟨rfl, rfl, rfl, by simp, fun k _ hk => (heap_set hb).2 k fun e => hk (by simp [Is, e])⟩, by simp⟩
  · obtain ⟨p, hp, hk, hv⟩ := at_of he h2
    have : p.1 = s := by rw [h3] at hk; cases hk; rfl
    have hf := find_at hn hp
    rw [this, hno] at hf
    cases hf
omit E hT hK in
theorem filter_erase : ∀ {m : List (ByteArray × Nat)} {j : Nat} {p : ByteArray × Nat} (_ : (m.map (·.1)).Nodup) (_ : m[j]? = some p), m.eraseIdx j = m.filter fun q => decide (q.1 ≠ p.1)
  | [], _, _, _, h => by simp at h
  | q :: m, 0, p, hn, h => by
    simp at h hn; subst h
    simp
    rw [List.filter_eq_self.2]
    intro x hx
    have := hn.1 x.2
    simp
    intro e
    exact this (by rw [← e]; exact hx)
  | q :: m, j + 1, p, hn, h => by
    simp at h hn
    have hne : q.1 ≠ p.1 := fun e => hn.1 p.2 (by
      have := List.mem_of_getElem? h
      rw [e]; exact this)
    rw [List.filter_cons_of_pos (by simpa using hne), List.eraseIdx_cons_succ, filter_erase hn.2 h]
theorem MapOf.drop {w : World} {mb : Nat} {m : List (ByteArray × Nat)} (h : MapOf w mb m) (s : ByteArray) (A ty : TypeId) :
    ∃ w', (Builtin.delete_ #[T, A] ty #[.map (some mb), .string s]).run P w = .ok (.tuple #[]) w' ∧ MapOf w' mb (m.filter fun q => decide (q.1 ≠ s)) ∧ Fr (Is (some mb)) w w' ∧ w'.heap.size = w.heap.size := by
  have hn := h.nodup
  obtain ⟨es, clock, hb, hs, he⟩ := h
  rcases findNow_spec (d := .string) (k := .string s) trivial es.toList 0 (isKeys he) with ⟨h1, h2⟩ | ⟨j, e, h1, h2, h3⟩
  · refine ⟨{ w with heap := w.heap.setIfInBounds mb (.map es clock) }, by simp [Builtin.delete_, run_underlying hT, MapKept.run_getObj_map hb, run_checkKey hK (k := .string s) trivial, run_findKey hK h1, MapKept.run_setObj_map _ hb, Result.andThen], ⟨_, _, (heap_set hb).1, hs, ?_⟩, ⟨rfl, rfl, rfl, by simp, fun k _ hk => (heap_set hb).2 k fun e => hk (by simp [Is, e])⟩, by simp⟩
    have := none_of he h2
    rw [List.find?_eq_none] at this
    rw [he, List.filter_eq_self.2]
    intro x hx
    simpa using this x hx
  · obtain ⟨p, hp, hk, hv⟩ := at_of he h2
    have hps : p.1 = s := by rw [h3] at hk; cases hk; rfl
    have hjl : j < es.size := by have := (List.getElem?_eq_some_iff.1 h2).1; simpa using this
    refine ⟨{ w with heap := w.heap.setIfInBounds mb (.map (es.eraseIdxIfInBounds j) clock) }, by simp [Builtin.delete_, run_underlying hT, MapKept.run_getObj_map hb, run_checkKey hK (k := .string s) trivial, run_findKey hK h1, MapKept.run_setObj_map _ hb, Result.andThen], ⟨_, _, (heap_set hb).1, stamped_erase hs j, ?_⟩, ⟨rfl, rfl, rfl, by simp, fun k _ hk => (heap_set hb).2 k fun e => hk (by simp [Is, e])⟩, by simp⟩
    have e1 : (es.eraseIdxIfInBounds j).toList = es.toList.eraseIdx j := by simp [Array.eraseIdxIfInBounds, hjl]
    rw [e1]
    have e2 : (es.toList.eraseIdx j).map (fun e => (e.key, e.val)) = (es.toList.map fun e => (e.key, e.val)).eraseIdx j := Go.ChangeMaps.map_eraseIdx _ _ _
    rw [e2, he, ← Go.ChangeMaps.map_eraseIdx, filter_erase hn hp, hps]

/-- An iterator's block r over the map's block: the keys that are still to come. -/
def ItOf (w : World) (mb r : Nat) (left : List ByteArray) : Prop :=
  ∃ es clock seen, w.heap[mb]? = some (.map es clock) ∧ Stamped es clock ∧ w.heap[r]? = some (.mapIter (some mb) clock seen clock) ∧ (leftOf es seen).toList.map (·.key) = left.map Value.string
omit hT hK in
theorem ItOf.fr {S : Nat → Prop} {w w' : World} {mb r : Nat} {left : List ByteArray} (h : ItOf w mb r left) (hF : Fr S w w') (hs : ¬ S mb) (hr : ¬ S r) : ItOf w' mb r left := by
  obtain ⟨es, clock, seen, hb, h1, h2, h3⟩ := h
  exact ⟨es, clock, seen, hF.at hb hs, h1, hF.at h2 hr, h3⟩
omit hK in
theorem MapOf.range {w : World} {mb : Nat} {m : List (ByteArray × Nat)} (h : MapOf w mb m) :
    ∃ w', (Instr.range T (.map (some mb))).run P w = .ok (ptr w.heap.size) w' ∧ w' = w.alloc (.mapIter (some mb) h.choose_spec.choose #[] h.choose_spec.choose) ∧ ItOf w' mb w.heap.size (m.map (·.1)) := by
  obtain ⟨hb, hs, he⟩ := h.choose_spec.choose_spec
  have hlt := block_lt hb
  refine ⟨_, run_range_map w T K E mb _ _ hT hb, rfl, _, _, #[], (Below.heap_alloc _ _ _ hlt).trans hb, hs, heap_new w _, ?_⟩
  simp only [leftOf]
  rw [Array.filter_eq_self.2 (by simp), keys_of he]
  simp
omit hT hK in
theorem ItOf.next {w : World} {mb r : Nat} {left : List ByteArray} (h : ItOf w mb r left) (ty : TypeId) :
    (left = [] ∧ (Instr.next (.pointer (some ⟨r, 0, none⟩)) false ty).run P w = .ok (.tuple #[.bool false]) w) ∨
    ∃ pre k post v w', left = pre ++ k :: post ∧ (Instr.next (.pointer (some ⟨r, 0, none⟩)) false ty).run P w = .ok (.tuple #[.bool true, .string k, v]) w' ∧ ItOf w' mb r (pre ++ post) ∧
      (∀ w2, w2.heap[r]? = w'.heap[r]? → w2.heap[mb]? = w'.heap[mb]? → (Instr.entry (.pointer (some ⟨r, 0, none⟩))).run P w2 = .ok (.tuple #[.string k, v]) w2) ∧ Fr (Is (some r)) w w' ∧ w'.heap.size = w.heap.size := by
  obtain ⟨es, clock, seen, hb, hs, hr, hl⟩ := h
  have hne : r ≠ mb := fun e => by subst e; rw [hb] at hr; cases hr
  rcases run_next_at (P := P) w ty r mb clock clock seen es clock hr hb hs.1 (Nat.le_refl _) with ⟨h0, h1⟩ | ⟨e, hem, w1, hal, h1⟩
  · left
    refine ⟨?_, h1⟩
    have : (leftOf es seen).toList = [] := by simpa using h0
    rw [this] at hl
    simpa using hl.symm
  · right
    have hbn : ((leftOf es seen).toList.map (·.born)).Nodup := by
      have hsub : (leftOf es seen).toList.Sublist es.toList := by simp only [leftOf, Array.toList_filter]; exact List.filter_sublist
      exact (hsub.map _).nodup hs.2.1
    obtain ⟨A, B, hAB⟩ := List.append_of_mem hem
    rw [hAB] at hl hbn
    simp only [List.map_append, List.map_cons] at hl
    obtain ⟨pre, rest, rfl, h2, h3⟩ := List.map_eq_append_iff.1 hl.symm
    obtain ⟨k, post, rfl, h4, h5⟩ := List.map_eq_cons_iff.1 h3
    have hh1 : w1.heap = w.heap := by rcases hal with rfl | rfl <;> rfl
    have hrl : r < w1.heap.size := by rw [hh1]; exact block_lt hr
    have hee : e ∈ es.toList := by
      have : e ∈ (leftOf es seen).toList := hem
      simp only [leftOf, Array.toList_filter, List.mem_filter] at this
      exact this.1
    refine ⟨pre, k, post, e.val, _, rfl, by rw [h1, ← h4], ⟨es, clock, seen.push e.born, ?_, hs, ?_, ?_⟩, ?_, ?_, ?_⟩
    · simp only [setBlock]; rw [Array.getElem?_setIfInBounds_ne hne, hh1, hb]
    · simp only [setBlock]; rw [Array.getElem?_setIfInBounds_self_of_lt hrl]
    · have e1 : (leftOf es (seen.push e.born)).toList = (leftOf es seen).toList.filter fun x => decide (x.born ≠ e.born) := by
        simp only [leftOf, Array.toList_filter, List.filter_filter]
        apply List.filter_congr
        intro x _
        simp [Bool.and_comm]
      rw [e1, hAB]
      simp only [List.map_append, List.map_cons] at hbn
      have hbn' := List.nodup_append.1 hbn
      have hc := List.nodup_cons.1 hbn'.2.1
      have f1 : A.filter (fun x => decide (x.born ≠ e.born)) = A := List.filter_eq_self.2 fun x hx => by
        simp only [decide_eq_true_eq]
        exact fun q => (hbn'.2.2 x.born (List.mem_map.2 ⟨x, hx, rfl⟩) e.born (by simp)) q
      have f2 : B.filter (fun x => decide (x.born ≠ e.born)) = B := List.filter_eq_self.2 fun x hx => by
        simp only [decide_eq_true_eq]
        exact fun q => hc.1 (by rw [← q]; exact List.mem_map.2 ⟨x, hx, rfl⟩)
      rw [List.filter_append, List.filter_cons_of_neg (by simp), f1, f2, List.map_append, List.map_append, h2, h5]
    · intro w2 hw2 hm2
      have hr2 : w2.heap[r]? = some (.mapIter (some mb) clock (seen.push e.born) clock) := by
        rw [hw2]; simp only [setBlock]; rw [Array.getElem?_setIfInBounds_self_of_lt hrl]
      have hb2 : w2.heap[mb]? = some (.map es clock) := by
        rw [hm2]; simp only [setBlock]; rw [Array.getElem?_setIfInBounds_ne hne, hh1, hb]
      rw [h4]
      exact run_entry_at w2 r mb clock seen es clock e hr2 hb2 hee hs.2.1
    · rcases hal with rfl | rfl
      · exact ⟨rfl, rfl, rfl, by simp [setBlock], fun k _ hk => by simp only [setBlock]; rw [Array.getElem?_setIfInBounds_ne (fun e => hk (by simp [Is, e]))]⟩
      · exact ⟨rfl, rfl, rfl, by simp [setBlock], fun k _ hk => by simp only [setBlock]; rw [Array.getElem?_setIfInBounds_ne (fun e => hk (by simp [Is, e]))]; rfl⟩
    · simp [setBlock, hh1]
end
theorem run_makeMapD {P : Program} (w : World) (t : TypeId) : ∃ w', (Instr.makeMap t none).run P w = .ok (.map (some w.heap.size)) w' ∧ w' = w.alloc (.map #[] 0) ∧ MapOf w' w.heap.size [] := by
  refine ⟨w.alloc (.map #[] 0), ?_, rfl, #[], 0, heap_new w _, stamped_empty 0, rfl⟩
  simp [Instr.makeMap, Result.andThen]
end Go.Proofs.Ythjpjekaiflibaa
