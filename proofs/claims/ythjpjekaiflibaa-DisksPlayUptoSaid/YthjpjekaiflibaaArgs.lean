/- What the laws are handed, opened: bytes, whole numbers, a doing, a slice of doings. -/
import Derived.Test.YthjpjekaiflibaaAt
import Derived.Test.YthjpjekaiflibaaRows
import Derived.ProofKit
import Derived.Deep.Fields
import Derived.Deep.Slices
namespace Go.Proofs.Ythjpjekaiflibaa
open Go.RowKit Go.ChangeShapes Go.WideShapes Go.ChangeAt Go.Deep

section
variable {H : Type} {enc : TypeId × Value → H} {w : World} {base : Nat} {spare : Nat → Bool} {held : Bool}
theorem lt_of_cell {w : World} {a : Addr} {v : Value} (h : w.cell? a = some v) : a.block < w.heap.size := World.block_lt_of_cell? w a h
theorem spot_of_cell {w : World} {a : Addr} {v : Value} (h : w.cell? a = some v) : a = ⟨a.block, a.off, none⟩ := by
  obtain ⟨b, o, s⟩ := a
  cases s with
  | none => rfl
  | some s =>
    simp only [World.cell?] at h
    split at h <;> simp at h
theorem add_mk (b o j : Nat) : (Addr.mk b o none).add j = ⟨b, o + j, none⟩ := by
  unfold Addr.add
  split
  · rename_i h; subst h; rfl
  · rfl
/-- What the bulk of a reading bounds. -/
theorem bulk_one {H : Type} (d : DataW H) : 1 ≤ Rows.uptoBulk d := by
  cases d with
  | lit l => cases l <;> simp [Rows.uptoBulk]
  | nil => simp [Rows.uptoBulk]
  | ptr d => simp [Rows.uptoBulk]
  | slice elems spare => simp [Rows.uptoBulk]
  | agg parts => simp [Rows.uptoBulk]
  | iface t d => simp [Rows.uptoBulk]
  | map entries => simp [Rows.uptoBulk]
  | held h => simp [Rows.uptoBulk]
theorem bulk_part {H : Type} {d : DataW H} {l : List (DataW H)} (h : d ∈ l) : Rows.uptoBulk d ≤ Rows.uptoBulkAll l := by
  induction l with
  | nil => cases h
  | cons x r ih =>
    simp only [Rows.uptoBulkAll]
    rcases List.mem_cons.1 h with e | e
    · subst e; omega
    · have := ih e; omega
theorem bulk_length {H : Type} (l : List (DataW H)) : l.length ≤ Rows.uptoBulkAll l := by
  induction l with
  | nil => simp [Rows.uptoBulkAll]
  | cons x r ih => have := bulk_one x; simp only [Rows.uptoBulkAll, List.length_cons]; omega
/-- Numbers that came in, as a slice that is only read. -/
theorem open_nums {t e : TypeId} {k : IntKind} {fuel : Nat} {cs : List Value} {x : DataW H × List MemPlace} (ht : Try.prog.underlying t = some (.slice e)) (he : Try.prog.underlying e = some (.int k)) (hc : Try.prog.cellsOf e = 1)
    (h : DataW.trod enc Try.prog w base spare held fuel t cs = some x) :
    ∃ (v : Value) (g : Option Nat) (zs : List Int), cs = [v] ∧ Src w 1 v g zs.length (zs.map (Value.int k)) ∧ (∀ n, g = some n → n < w.heap.size) ∧ (∀ z ∈ zs, k.min ≤ z ∧ z ≤ k.max) ∧ zs.length ≤ Rows.uptoBulk x.1 := by
  rcases open_ints ht he hc h with ⟨rfl, _⟩ | ⟨a, len, cap, zs, rfl, _, h1, h2, h3, hx, h4, h5⟩
  · exact ⟨_, none, [], rfl, (Sl.nil w 0 1).src, fun n e => (by cases e), (fun z hz => by cases hz), Nat.zero_le _⟩
  · have hle : len ≤ zs.length := by rw [h3]; split <;> omega
    have hl : (zs.take len).length = len := by simp; omega
    have hw : ∀ z ∈ zs.take len, k.min ≤ z ∧ z ≤ k.max := fun z hz => by
      have := h5 z (List.mem_of_mem_take hz)
      simpa [Lit.wf] using this
    have hbk : (zs.take len).length ≤ Rows.uptoBulk x.1 := by
      rw [hx]
      simp only [Rows.uptoBulk]
      have := bulk_length (lits (H := H) k (zs.take len))
      simp only [lits, List.length_map] at this
      simp only [lits]
      omega
    by_cases h0 : len = 0
    · refine ⟨_, none, zs.take len, rfl, ⟨by simp, some a, cap, by rw [hl], by omega, h2, (fun e => by cases e), .inl (by omega)⟩, (fun n e => by cases e), hw, hbk⟩
    · have hc0 := h4 0 (by omega)
      rw [show a.add 0 = a from rfl] at hc0
      have ha := spot_of_cell hc0
      have hlt := lt_of_cell hc0
      generalize a.block = b at ha hlt
      generalize a.off = o at ha
      subst ha
      refine ⟨_, some b, zs.take len, rfl, ⟨by simp, some ⟨b, o, none⟩, cap, by rw [hl], by omega, h2, (fun e => by cases e), .inr ⟨b, o, rfl, rfl, fun j u hj => ?_⟩⟩, (fun n e => by cases e; exact hlt), hw, hbk⟩
      have hj0 : j < (zs.take len).length := by
        have := (List.getElem?_eq_some_iff.1 hj).1
        simpa using this
      have h6 := h4 j (by omega)
      rw [add_mk] at h6
      rw [h6, ← hj, List.getElem?_map, List.getElem?_eq_getElem hj0]
      simp [List.getD, List.getElem?_eq_getElem (show j < zs.length by omega)]
theorem open_loss {fuel : Nat} {cs : List Value} {x : DataW H × List MemPlace} (h : DataW.trod enc Try.prog w base spare held fuel 33 cs = some x) :
    ∃ (v : Value) (g : Option Nat) (zs : List Int), cs = [v] ∧ Is64 w v g zs ∧ (∀ n, g = some n → n < w.heap.size) ∧ (∀ z ∈ zs, -9223372036854775808 ≤ z ∧ z ≤ 9223372036854775807) ∧ zs.length ≤ Rows.uptoBulk x.1 :=
  open_nums (e := 3) (by kernel_rfl) (k := .i64) (by kernel_rfl) (by kernel_rfl) h
theorem open_bytes {fuel : Nat} {cs : List Value} {x : DataW H × List MemPlace} (h : DataW.trod enc Try.prog w base spare held fuel 28 cs = some x) :
    ∃ (v : Value) (g : Option Nat) (bs : List UInt8), cs = [v] ∧ Bs w v g bs ∧ (∀ n, g = some n → n < w.heap.size) ∧ bs.length ≤ Rows.uptoBulk x.1 := by
  obtain ⟨v, g, zs, rfl, h1, h2, h3, h4⟩ := open_nums uBytes u8 (by kernel_rfl) h
  refine ⟨v, g, zs.map fun z => UInt8.ofNat z.toNat, rfl, ?_, h2, by simpa using h4⟩
  have e : (zs.map fun z => UInt8.ofNat z.toNat).map encB = zs.map (Value.int .u8) := by
    rw [List.map_map]
    apply List.map_congr_left
    intro z hz
    have := h3 z hz
    simp only [IntKind.min, IntKind.max] at this
    simp only [Function.comp_def, encB, UInt8.toNat_ofNat']
    congr 1
    have h5 : (0 : Int) ≤ z ∧ z ≤ 255 := this
    omega
  unfold Bs
  rw [e]
  simpa using h1

/-- A doing. -/
structure ActD where
  kind : Int
  name : ByteArray
  b : List UInt8
  n : Int
  loss : List Int
/-- Nothing of it is longer. -/
def ActD.small (A : ActD) (n : Nat) : Prop := A.name.size ≤ n ∧ A.b.length ≤ n ∧ A.loss.length ≤ n
/-- The five places of a doing. -/
structure ActV (w : World) (cs : List Value) (A : ActD) : Prop where
  cs : ∃ v2 v4, cs = [.int .u8 A.kind, .string A.name, v2, .int .i64 A.n, v4] ∧ (∃ g, Bs w v2 g A.b ∧ ∀ k, g = some k → k < w.heap.size) ∧ ∃ g, Is64 w v4 g A.loss ∧ ∀ k, g = some k → k < w.heap.size
  kind : 0 ≤ A.kind ∧ A.kind < 256
  n : -9223372036854775808 ≤ A.n ∧ A.n ≤ 9223372036854775807
  loss : ∀ z ∈ A.loss, -9223372036854775808 ≤ z ∧ z ≤ 9223372036854775807
set_option maxRecDepth 100000 in
theorem open_act {fuel : Nat} {cs : List Value} {x : DataW H × List MemPlace} (h : DataW.trod enc Try.prog w base spare held fuel 43 cs = some x) : ∃ A, ActV w cs A ∧ A.small (Rows.uptoBulk x.1) := by
  obtain ⟨xs, n, _, hxx, hl, hx, hf⟩ := DataW.trod_struct Try.underlying43 h
  have hC : Try.prog.cellsOf 43 = 5 := by kernel_rfl
  rw [hC] at hl
  have k8 : Try.prog.cellsOf 5 = 1 := by kernel_rfl
  have kS : Try.prog.cellsOf 9 = 1 := by kernel_rfl
  have kB : Try.prog.cellsOf 28 = 1 := by kernel_rfl
  have kI : Try.prog.cellsOf 3 = 1 := by kernel_rfl
  have kL : Try.prog.cellsOf 33 = 1 := by kernel_rfl
  match cs, hl, xs, hx with
  | [c0, c1, c2, c3, c4], _, [y0, y1, y2, y3, y4], _ =>
    have h0 := hf 0 _ rfl
    have h1 := hf 1 _ rfl
    have h2 := hf 2 _ rfl
    have h3 := hf 3 _ rfl
    have h4 := hf 4 _ rfl
    simp only [k8, kS, kB, kI, kL, List.drop_succ_cons, List.drop_zero, List.take_succ_cons, List.take_zero, List.getElem?_cons_zero, List.getElem?_cons_succ, List.getElem_toArray, List.getElem_cons_zero, List.getElem_cons_succ] at h0 h1 h2 h3 h4
    obtain ⟨kd, e0, _, w0⟩ := DataW.trod_int u8 h0
    obtain ⟨nm, e1, ex1, _⟩ := DataW.trod_string uStr h1
    obtain ⟨v2, g2, bs, e2, b1, b2, b3⟩ := open_bytes h2
    obtain ⟨z, e3, _, w3⟩ := DataW.trod_int (k := .i64) (by kernel_rfl) h3
    obtain ⟨v4, g4, zs, e4, l1, l2, l3, l4⟩ := open_loss h4
    cases e0; cases e1; cases e2; cases e3; cases e4
    refine ⟨⟨kd, nm, bs, z, zs⟩, ⟨⟨_, _, rfl, ⟨g2, b1, b2⟩, ⟨g4, l1, l2⟩⟩, ?_, ?_, l3⟩, ?_⟩
    · have : IntKind.u8.min ≤ kd ∧ kd ≤ IntKind.u8.max := by simpa [Lit.wf] using w0
      have h5 : (0 : Int) ≤ kd ∧ kd ≤ 255 := this
      show 0 ≤ kd ∧ kd < 256
      omega
    · have : IntKind.i64.min ≤ z ∧ z ≤ IntKind.i64.max := by simpa [Lit.wf] using w3
      exact this
    · have e1 : nm.size + 1 ≤ Rows.uptoBulk y1.1 := by
        rw [ex1]
        simp only [Rows.uptoBulk, Array.length_toList]
        exact Nat.le_refl _
      rw [hxx]
      simp only [Rows.uptoBulk, List.map_cons, List.map_nil, Rows.uptoBulkAll]
      exact ⟨show nm.size ≤ _ by omega, show bs.length ≤ _ by omega, show zs.length ≤ _ by omega⟩
theorem ActV.fr {S : Nat → Prop} {w w' : World} {cs : List Value} {A : ActD} (h : ActV w cs A) (hF : Fr S w w') (hS : ∀ k, k < w.heap.size → ¬ S k) : ActV w' cs A := by
  obtain ⟨⟨v2, v4, e, ⟨g2, b1, b2⟩, g4, l1, l2⟩, h1, h2, h3⟩ := h
  have := hF.size
  exact ⟨⟨v2, v4, e, ⟨g2, b1.fr hF fun k hk => hS k (b2 k hk), fun k hk => by have := b2 k hk; omega⟩, g4, l1.fr hF fun k hk => hS k (l2 k hk), fun k hk => by have := l2 k hk; omega⟩, h1, h2, h3⟩
/-- Doings in a row. -/
def ActsV (w : World) (v : Value) (L : List ActD) : Prop :=
  ∃ p c, v = .slice p L.length c ∧ L.length ≤ c ∧ c ≤ maxLen ∧ (L.length = 0 ∨ ∃ b o, p = some ⟨b, o, none⟩ ∧ b < w.heap.size ∧ ∀ i A, L[i]? = some A → ∃ cs : List Value, ActV w cs A ∧ ∀ j u, cs[j]? = some u → w.cell? ⟨b, o + (i * 5 + j), none⟩ = some u)
theorem open_acts {fuel : Nat} {cs : List Value} {x : DataW H × List MemPlace} (h : DataW.trod enc Try.prog w base spare held fuel 35 cs = some x) : ∃ (v : Value) (L : List ActD), cs = [v] ∧ ActsV w v L ∧ L.length ≤ Rows.uptoBulk x.1 ∧ ∀ A ∈ L, A.small (Rows.uptoBulk x.1) := by
  have hC : Try.prog.cellsOf 43 = 5 := by kernel_rfl
  rcases open_slice Try.underlying35 h with ⟨rfl, _⟩ | ⟨a, len, cap, m, n, D, Pl, rfl, _, h1, h2, h3, hx, h4⟩
  · exact ⟨_, [], rfl, ⟨none, 0, rfl, Nat.le_refl _, Nat.zero_le _, .inl rfl⟩, Nat.zero_le _, fun A hA => by cases hA⟩
  · rw [hC] at h4
    have hlm : len ≤ m := by rw [h3]; split <;> omega
    have hbk : Rows.uptoBulkAll ((List.range len).map D) ≤ Rows.uptoBulk x.1 := by rw [hx]; simp only [Rows.uptoBulk]; omega
    have hbl : len ≤ Rows.uptoBulk x.1 := by have := bulk_length ((List.range len).map D); simp at this; omega
    have each : ∀ i, i < len → ∃ A : ActD, A.small (Rows.uptoBulk x.1) ∧ ∃ cs : List Value, ActV w cs A ∧ ∀ j u, cs[j]? = some u → w.cell? ((a.add (i * 5)).add j) = some u := by
      intro i hi
      obtain ⟨cs', hc, ht⟩ := h4 i (by omega)
      obtain ⟨A, hA, hs⟩ := open_act ht
      have hDi : Rows.uptoBulk (D i) ≤ Rows.uptoBulk x.1 := Nat.le_trans (bulk_part (List.mem_map.2 ⟨i, List.mem_range.2 hi, rfl⟩)) hbk
      refine ⟨A, ⟨Nat.le_trans hs.1 hDi, Nat.le_trans hs.2.1 hDi, Nat.le_trans hs.2.2 hDi⟩, cs', hA, fun j u hj => ?_⟩
      obtain ⟨_, hcl, hat⟩ := World.cells?_some hc
      have hj5 := (List.getElem?_eq_some_iff.1 hj).1
      rw [hat j (by omega)]
      exact hj
    by_cases h0 : len = 0
    · subst h0
      exact ⟨_, [], rfl, ⟨some a, cap, rfl, Nat.zero_le _, h2, .inl rfl⟩, Nat.zero_le _, fun A hA => by cases hA⟩
    · have : ∃ L : List ActD, L.length = len ∧ ∀ i A, L[i]? = some A → A.small (Rows.uptoBulk x.1) ∧ ∃ cs : List Value, ActV w cs A ∧ ∀ j u, cs[j]? = some u → w.cell? ((a.add (i * 5)).add j) = some u := by
        refine ⟨(List.range len).map fun i => if hi : i < len then (each i hi).choose else ⟨0, ⟨#[]⟩, [], 0, []⟩, by simp, fun i A hA => ?_⟩
        rw [List.getElem?_map] at hA
        by_cases hi : i < len
        · rw [List.getElem?_range hi] at hA
          simp only [Option.map_some, Option.some.injEq] at hA
          rw [dif_pos hi] at hA
          subst hA
          exact (each i hi).choose_spec
        · rw [List.getElem?_eq_none (by simpa using hi)] at hA
          cases hA
      obtain ⟨L, hL, hE⟩ := this
      obtain ⟨A0, _, cs0, ⟨⟨v2, v4, e0, _⟩, _⟩, hc0⟩ := each 0 (by omega)
      have hc1 := hc0 0 _ (by rw [e0]; rfl)
      rw [show (a.add (0 * 5)).add 0 = a from rfl] at hc1
      have ha := spot_of_cell hc1
      have hlt := lt_of_cell hc1
      generalize a.block = b at ha hlt
      generalize a.off = o at ha
      subst ha
      refine ⟨_, L, rfl, ⟨_, cap, by rw [hL], by omega, h2, .inr ⟨b, o, rfl, hlt, fun i A hA => ?_⟩⟩, by omega, fun A hA => ?_⟩
      rotate_left
      · obtain ⟨i, hi, e⟩ := List.mem_iff_getElem.1 hA
        exact (hE i A (by rw [List.getElem?_eq_getElem hi, e])).1
      obtain ⟨_, cs, k1, k2⟩ := hE i A hA
      refine ⟨cs, k1, fun j u hj => ?_⟩
      have := k2 j u hj
      rwa [add_mk, add_mk, Nat.add_assoc] at this
theorem ActsV.fr {S : Nat → Prop} {w w' : World} {v : Value} {L : List ActD} (h : ActsV w v L) (hF : Fr S w w') (hS : ∀ k, k < w.heap.size → ¬ S k) : ActsV w' v L := by
  obtain ⟨p, c, h1, h2, h3, h4⟩ := h
  refine ⟨p, c, h1, h2, h3, h4.imp id fun ⟨b, o, e, hb, hc⟩ => ⟨b, o, e, by have := hF.size; omega, fun i A hA => ?_⟩⟩
  obtain ⟨cs, k1, k2⟩ := hc i A hA
  exact ⟨cs, k1.fr hF hS, fun j u hj => hF.cell (k2 j u hj) (hS b hb)⟩
end
end Go.Proofs.Ythjpjekaiflibaa
