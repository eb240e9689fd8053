/- What the laws on votes are handed, opened: a say; says in a row. -/
import Derived.Test.YtcpaphcodhlggaaBase
import Derived.Test.YtcpaphcodhlggaaRows
import Derived.ProofKit
import Derived.OpenShut
import Derived.Deep.Fields
import Derived.Deep.Slices
namespace Go.Proofs.Ytcpaphcodhlggaa
open Go.RowKit Go.ChangeShapes Go.WideShapes Go.ChangeAt Go.Deep
section
variable {H : Type} {enc : TypeId × Value → H} {w : World} {base : Nat} {spare : Nat → Bool} {held : Bool}
set_option maxRecDepth 100000 in
theorem open_say {fuel : Nat} {cs : List Value} {x : DataW H × List MemPlace} (h : DataW.trod enc Try.prog w base spare held fuel 30 cs = some x) : ∃ (t : Nat) (y : Bool), cs = [.int .u8 (t : Int), .bool y] ∧ t < 256 := by
  obtain ⟨xs, n, _, hxx, hl, hx, hf⟩ := DataW.trod_struct Try.underlying30 h
  have hC : Try.prog.cellsOf 30 = 2 := by kernel_rfl
  rw [hC] at hl
  have k8 : Try.prog.cellsOf 5 = 1 := by kernel_rfl
  have kb : Try.prog.cellsOf 4 = 1 := by kernel_rfl
  match cs, hl, xs, hx with
  | [c0, c1], _, [y0, y1], _ =>
    have h0 := hf 0 _ rfl
    have h1 := hf 1 _ rfl
    simp only [k8, kb, List.drop_succ_cons, List.drop_zero, List.take_succ_cons, List.take_zero, List.getElem?_cons_zero, List.getElem?_cons_succ, List.getElem_toArray, List.getElem_cons_zero, List.getElem_cons_succ] at h0 h1
    obtain ⟨z, e0, _, w0⟩ := DataW.trod_int (k := .u8) Try.underlying5 h0
    obtain ⟨y, e1, _⟩ := DataW.trod_bool Try.underlying4 h1
    have hz : (0 : Int) ≤ z ∧ z ≤ 255 := by
      have : IntKind.u8.min ≤ z ∧ z ≤ IntKind.u8.max := by simpa [Lit.wf] using w0
      exact this
    cases e0; cases e1
    exact ⟨z.toNat, y, by rw [show ((z.toNat : Nat) : Int) = z by omega], by omega⟩
theorem spot_of_cell {w : World} {a : Addr} {v : Value} (h : w.cell? a = some v) : a = ⟨a.block, a.off, none⟩ := by
  obtain ⟨b, o, s⟩ := a
  cases s with
  | none => rfl
  | some s =>
    simp only [World.cell?] at h
    split at h <;> simp at h
theorem add_mk (b o j : Nat) : (Addr.mk b o none).add j = ⟨b, o + j, none⟩ := by
  unfold Addr.add
  split
  · rename_i h; subst h; rfl
  · rfl
/-- Says in a row. -/
def SaysV (w : World) (v : Value) (L : List (Nat × Bool)) : Prop :=
  ∃ p c, v = .slice p L.length c ∧ L.length ≤ c ∧ c ≤ maxLen ∧ (L.length = 0 ∨ ∃ b o, p = some ⟨b, o, none⟩ ∧ b < w.heap.size ∧ ∀ i x, L[i]? = some x → w.cell? ⟨b, o + i * 2, none⟩ = some (.int .u8 (x.1 : Int)) ∧ w.cell? ⟨b, o + i * 2 + 1, none⟩ = some (.bool x.2) ∧ x.1 < 256)
theorem open_says {fuel : Nat} {cs : List Value} {x : DataW H × List MemPlace} (h : DataW.trod enc Try.prog w base spare held fuel 22 cs = some x) : ∃ (v : Value) (L : List (Nat × Bool)), cs = [v] ∧ SaysV w v L := by
  have hC : Try.prog.cellsOf 30 = 2 := by kernel_rfl
  rcases open_slice Try.underlying22 h with ⟨rfl, _⟩ | ⟨a, len, cap, m, n, D, Pl, rfl, _, h1, h2, h3, hx, h4⟩
  · exact ⟨_, [], rfl, ⟨none, 0, rfl, Nat.le_refl _, Nat.zero_le _, .inl rfl⟩⟩
  · rw [hC] at h4
    have hlm : len ≤ m := by rw [h3]; split <;> omega
    have each : ∀ i, i < len → ∃ y : Nat × Bool, w.cell? (a.add (i * 2)) = some (.int .u8 (y.1 : Int)) ∧ w.cell? ((a.add (i * 2)).add 1) = some (.bool y.2) ∧ y.1 < 256 := by
      intro i hi
      obtain ⟨cs', hc, ht⟩ := h4 i (by omega)
      obtain ⟨t, y, hcs, hlt⟩ := open_say ht
      obtain ⟨_, hcl, hat⟩ := World.cells?_some hc
      have e0 := hat 0 (by omega)
      have e1 := hat 1 (by omega)
      subst hcs
      exact ⟨(t, y), e0, e1, hlt⟩
    obtain ⟨f, hf⟩ : ∃ f : Nat → Nat × Bool, ∀ i, i < len → w.cell? (a.add (i * 2)) = some (.int .u8 ((f i).1 : Int)) ∧ w.cell? ((a.add (i * 2)).add 1) = some (.bool (f i).2) ∧ (f i).1 < 256 :=
      ⟨fun i => if hi : i < len then (each i hi).choose else (0, false), fun i hi => by dsimp only; rw [dif_pos hi]; exact (each i hi).choose_spec⟩
    by_cases h0 : len = 0
    · subst h0
      exact ⟨_, [], rfl, ⟨some a, cap, rfl, Nat.zero_le _, h2, .inl rfl⟩⟩
    · have hc0 := (hf 0 (by omega)).1
      clear each
      rw [show a.add (0 * 2) = a from rfl] at hc0
      have ha := spot_of_cell hc0
      have hlt := World.block_lt_of_cell? w a hc0
      generalize a.block = b at ha hlt
      generalize a.off = o at ha
      subst ha
      refine ⟨_, (List.range len).map f, rfl, ⟨_, cap, by simp, by simpa using h1, h2, .inr ⟨b, o, rfl, hlt, fun i x hx => ?_⟩⟩⟩
      rw [List.getElem?_map] at hx
      by_cases hi : i < len
      · rw [List.getElem?_range hi] at hx
        simp only [Option.map_some, Option.some.injEq] at hx
        subst hx
        obtain ⟨k1, k2, k3⟩ := hf i hi
        rw [add_mk] at k1 k2
        rw [add_mk] at k2
        exact ⟨k1, k2, k3⟩
      · rw [List.getElem?_eq_none (by simpa using hi)] at hx
        cases hx
theorem SaysV.fr {w w' : World} {v : Value} {L : List (Nat × Bool)} (h : SaysV w v L) (hF : Fr No w w') : SaysV w' v L := by
  obtain ⟨p, c, h1, h2, h3, h4⟩ := h
  refine ⟨p, c, h1, h2, h3, h4.imp id fun ⟨b, o, e, hb, hc⟩ => ⟨b, o, e, by have := hF.size; omega, fun i x hx => ?_⟩⟩
  obtain ⟨k1, k2, k3⟩ := hc i x hx
  exact ⟨hF.cell k1 fun x => x, hF.cell k2 fun x => x, k3⟩
end
end Go.Proofs.Ytcpaphcodhlggaa
