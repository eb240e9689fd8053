/- What the laws are handed, opened: bytes, whole numbers. -/
import Derived.Test.YthjpjekaiflibaaDoorAt
import Derived.Test.YthjpjekaiflibaaDoorRows
import Derived.ProofKit
import Derived.Deep.Fields
import Derived.Deep.Slices
namespace Go.Proofs.YthjpjekaiflibaaDoor
open Go.RowKit Go.ChangeShapes Go.WideShapes Go.ChangeAt Go.Deep

section
variable {H : Type} {enc : TypeId × Value → H} {w : World} {base : Nat} {spare : Nat → Bool} {held : Bool}
theorem lt_of_cell {w : World} {a : Addr} {v : Value} (h : w.cell? a = some v) : a.block < w.heap.size := World.block_lt_of_cell? w a h
theorem spot_of_cell {w : World} {a : Addr} {v : Value} (h : w.cell? a = some v) : a = ⟨a.block, a.off, none⟩ := by
  obtain ⟨b, o, s⟩ := a
  cases s with
  | none => rfl
  | some s =>
    simp only [World.cell?] at h
    split at h <;> simp at h
theorem add_mk (b o j : Nat) : (Addr.mk b o none).add j = ⟨b, o + j, none⟩ := by
  unfold Addr.add
  split
  · rename_i h; subst h; rfl
  · rfl
/-- What the bulk of a reading bounds. -/
theorem bulk_one {H : Type} (d : DataW H) : 1 ≤ Rows.uptoBulk d := by
  cases d with
  | lit l => cases l <;> simp [Rows.uptoBulk]
  | nil => simp [Rows.uptoBulk]
  | ptr d => simp [Rows.uptoBulk]
  | slice elems spare => simp [Rows.uptoBulk]
  | agg parts => simp [Rows.uptoBulk]
  | iface t d => simp [Rows.uptoBulk]
  | map entries => simp [Rows.uptoBulk]
  | held h => simp [Rows.uptoBulk]
theorem bulk_part {H : Type} {d : DataW H} {l : List (DataW H)} (h : d ∈ l) : Rows.uptoBulk d ≤ Rows.uptoBulkAll l := by
  induction l with
  | nil => cases h
  | cons x r ih =>
    simp only [Rows.uptoBulkAll]
    rcases List.mem_cons.1 h with e | e
    · subst e; omega
    · have := ih e; omega
theorem bulk_length {H : Type} (l : List (DataW H)) : l.length ≤ Rows.uptoBulkAll l := by
  induction l with
  | nil => simp [Rows.uptoBulkAll]
  | cons x r ih => have := bulk_one x; simp only [Rows.uptoBulkAll, List.length_cons]; omega
/-- Numbers that came in, as a slice that is only read. -/
theorem open_nums {t e : TypeId} {k : IntKind} {fuel : Nat} {cs : List Value} {x : DataW H × List MemPlace} (ht : Tryd.prog.underlying t = some (.slice e)) (he : Tryd.prog.underlying e = some (.int k)) (hc : Tryd.prog.cellsOf e = 1)
    (h : DataW.trod enc Tryd.prog w base spare held fuel t cs = some x) :
    ∃ (v : Value) (g : Option Nat) (zs : List Int), cs = [v] ∧ Src w 1 v g zs.length (zs.map (Value.int k)) ∧ (∀ n, g = some n → n < w.heap.size) ∧ (∀ z ∈ zs, k.min ≤ z ∧ z ≤ k.max) ∧ zs.length ≤ Rows.uptoBulk x.1 := by
  rcases open_ints ht he hc h with ⟨rfl, _⟩ | ⟨a, len, cap, zs, rfl, _, h1, h2, h3, hx, h4, h5⟩
  · exact ⟨_, none, [], rfl, (Sl.nil w 0 1).src, fun n e => (by cases e), (fun z hz => by cases hz), Nat.zero_le _⟩
  · have hle : len ≤ zs.length := by rw [h3]; split <;> omega
    have hl : (zs.take len).length = len := by simp; omega
    have hw : ∀ z ∈ zs.take len, k.min ≤ z ∧ z ≤ k.max := fun z hz => by
      have := h5 z (List.mem_of_mem_take hz)
      simpa [Lit.wf] using this
    have hbk : (zs.take len).length ≤ Rows.uptoBulk x.1 := by
      rw [hx]
      simp only [Rows.uptoBulk]
      have := bulk_length (lits (H := H) k (zs.take len))
      simp only [lits, List.length_map] at this
      simp only [lits]
      omega
    by_cases h0 : len = 0
    · refine ⟨_, none, zs.take len, rfl, ⟨by simp, some a, cap, by rw [hl], by omega, h2, (fun e => by cases e), .inl (by omega)⟩, (fun n e => by cases e), hw, hbk⟩
    · have hc0 := h4 0 (by omega)
      rw [show a.add 0 = a from rfl] at hc0
      have ha := spot_of_cell hc0
      have hlt := lt_of_cell hc0
      generalize a.block = b at ha hlt
      generalize a.off = o at ha
      subst ha
      refine ⟨_, some b, zs.take len, rfl, ⟨by simp, some ⟨b, o, none⟩, cap, by rw [hl], by omega, h2, (fun e => by cases e), .inr ⟨b, o, rfl, rfl, fun j u hj => ?_⟩⟩, (fun n e => by cases e; exact hlt), hw, hbk⟩
      have hj0 : j < (zs.take len).length := by
        have := (List.getElem?_eq_some_iff.1 hj).1
        simpa using this
      have h6 := h4 j (by omega)
      rw [add_mk] at h6
      rw [h6, ← hj, List.getElem?_map, List.getElem?_eq_getElem hj0]
      simp [List.getD, List.getElem?_eq_getElem (show j < zs.length by omega)]
theorem open_loss {fuel : Nat} {cs : List Value} {x : DataW H × List MemPlace} (h : DataW.trod enc Tryd.prog w base spare held fuel 72 cs = some x) :
    ∃ (v : Value) (g : Option Nat) (zs : List Int), cs = [v] ∧ Is64 w v g zs ∧ (∀ n, g = some n → n < w.heap.size) ∧ (∀ z ∈ zs, -9223372036854775808 ≤ z ∧ z ≤ 9223372036854775807) ∧ zs.length ≤ Rows.uptoBulk x.1 :=
  open_nums (e := 3) (by kernel_rfl) (k := .i64) (by kernel_rfl) (by kernel_rfl) h
theorem open_bytes {fuel : Nat} {cs : List Value} {x : DataW H × List MemPlace} (h : DataW.trod enc Tryd.prog w base spare held fuel 38 cs = some x) :
    ∃ (v : Value) (g : Option Nat) (bs : List UInt8), cs = [v] ∧ Bs w v g bs ∧ (∀ n, g = some n → n < w.heap.size) ∧ bs.length ≤ Rows.uptoBulk x.1 := by
  obtain ⟨v, g, zs, rfl, h1, h2, h3, h4⟩ := open_nums uBytes u8 (by kernel_rfl) h
  refine ⟨v, g, zs.map fun z => UInt8.ofNat z.toNat, rfl, ?_, h2, by simpa using h4⟩
  have e : (zs.map fun z => UInt8.ofNat z.toNat).map encB = zs.map (Value.int .u8) := by
    rw [List.map_map]
    apply List.map_congr_left
    intro z hz
    have := h3 z hz
    simp only [IntKind.min, IntKind.max] at this
    simp only [Function.comp_def, encB, UInt8.toNat_ofNat']
    congr 1
    have h5 : (0 : Int) ≤ z ∧ z ≤ 255 := this
    omega
  unfold Bs
  rw [e]
  simpa using h1

end
end Go.Proofs.YthjpjekaiflibaaDoor
