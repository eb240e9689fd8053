/- Numbers in a row, as a law is handed them. -/
import Derived.Test.YtcpaphcodhlggaaArgs22
import Derived.Test.YtcpaphcodhlggaaLives22
namespace Go.Proofs.Ytcpaphcodhlggaa
open Go.RowKit Go.ChangeShapes Go.WideShapes Go.ChangeAt Go.Deep
/-- v is a slice of the numbers zs; they lie in block g. -/
structure NumsV (w : World) (v : Value) (g : Option Nat) (zs : List Int) : Prop where
  s : Src w 1 v g zs.length (zs.map encU)
  b : ∀ z ∈ zs, 0 ≤ z ∧ z < 18446744073709551616
  l : ∀ k, g = some k → k < w.heap.size
theorem NumsV.fr {w w' : World} {v : Value} {g : Option Nat} {zs : List Int} (h : NumsV w v g zs) (hF : Fr No w w') : NumsV w' v g zs :=
  ⟨h.s.fr hF fun _ _ x => x, h.b, fun k e => Nat.lt_of_lt_of_le (h.l k e) hF.size⟩
theorem NumsV.out {w : World} {v : Value} {g : Option Nat} {zs : List Int} (h : NumsV w v g zs) (h0 : zs ≠ []) :
    ∃ b o c, v = .slice (some ⟨b, o, none⟩) zs.length c ∧ g = some b ∧ b < w.heap.size ∧ zs.length ≤ c ∧ c ≤ maxLen ∧ ∀ j, j < zs.length → w.cell? ⟨b, o + j, none⟩ = some (.int .u64 (zs[j]?.getD 0)) := by
  obtain ⟨_, p, c, rfl, h2, h3, h4, h5⟩ := h.s
  rcases h5 with h5 | ⟨b, o, rfl, e2, e3⟩
  · exact absurd (List.eq_nil_of_length_eq_zero h5) h0
  · refine ⟨b, o, c, rfl, e2, h.l b e2, h2, h3, fun j hj => e3 j _ ?_⟩
    rw [List.getElem?_map, List.getElem?_eq_getElem hj]
    rfl
theorem NumsV.ints {w : World} {v : Value} {g : Option Nat} {zs : List Int} (h : NumsV w v g zs) (h0 : zs ≠ []) : Ints w.heap.size w v zs := by
  obtain ⟨b, o, c, e1, _, e3, _, _, e4⟩ := h.out h0
  exact .inr ⟨b, o, c, e1, e3, e4⟩
theorem encU_one : ∀ (zs : List Int), ∀ u ∈ zs.map encU, u.oneCell' = true := by
  intro zs u hu
  obtain ⟨z, _, rfl⟩ := List.mem_map.1 hu
  rfl
section
variable {H : Type} {enc : TypeId × Value → H} {w : World} {base : Nat} {spare : Nat → Bool} {held : Bool}
theorem open_nums {fuel : Nat} {cs : List Value} {x : DataW H × List MemPlace} (h : DataW.trod enc Try.prog w base spare held fuel 34 cs = some x) : ∃ (v : Value) (g : Option Nat) (zs : List Int), cs = [v] ∧ NumsV w v g zs := by
  have hC : Try.prog.cellsOf 35 = 1 := by kernel_rfl
  rcases open_slice Try.underlying34 h with ⟨rfl, _⟩ | ⟨a, len, cap, m, n, D, Pl, rfl, _, h1, h2, h3, hx, h4⟩
  · exact ⟨_, none, [], rfl, ⟨⟨rfl, none, 0, rfl, Nat.le_refl _, Nat.zero_le _, fun _ => ⟨rfl, rfl⟩, .inl rfl⟩, (fun _ h => by cases h), (fun _ h => by cases h)⟩⟩
  · rw [hC] at h4
    have hlm : len ≤ m := by rw [h3]; split <;> omega
    have each : ∀ i, i < len → ∃ z : Int, w.cell? (a.add (i * 1)) = some (.int .u64 z) ∧ 0 ≤ z ∧ z < 18446744073709551616 := by
      intro i hi
      obtain ⟨cs', hc, ht⟩ := h4 i (by omega)
      obtain ⟨z, e0, _, w0⟩ := DataW.trod_int (k := .u64) Try.underlying35 ht
      obtain ⟨_, hcl, hat⟩ := World.cells?_some hc
      have e1 := hat 0 (by omega)
      subst e0
      have hz : (0 : Int) ≤ z ∧ z ≤ 18446744073709551615 := by
        have : IntKind.u64.min ≤ z ∧ z ≤ IntKind.u64.max := by simpa [Lit.wf] using w0
        exact this
      exact ⟨z, e1, by omega, by omega⟩
    obtain ⟨f, hf⟩ : ∃ f : Nat → Int, ∀ i, i < len → w.cell? (a.add (i * 1)) = some (.int .u64 (f i)) ∧ 0 ≤ f i ∧ f i < 18446744073709551616 :=
      ⟨fun i => if hi : i < len then (each i hi).choose else 0, fun i hi => by dsimp only; rw [dif_pos hi]; exact (each i hi).choose_spec⟩
    by_cases h0 : len = 0
    · subst h0
      exact ⟨_, none, [], rfl, ⟨⟨rfl, some a, cap, rfl, Nat.zero_le _, h2, (fun e => by cases e), .inl rfl⟩, (fun _ h => by cases h), (fun _ h => by cases h)⟩⟩
    · have hc0 := (hf 0 (by omega)).1
      clear each
      rw [show a.add (0 * 1) = a from rfl] at hc0
      have ha := spot_of_cell hc0
      have hlt := World.block_lt_of_cell? w a hc0
      generalize a.block = b at ha hlt
      generalize a.off = o at ha
      subst ha
      refine ⟨_, some b, (List.range len).map f, rfl, ⟨⟨by simp, some ⟨b, o, none⟩, cap, by simp, by simpa using h1, h2, (fun e => by cases e), .inr ⟨b, o, rfl, rfl, fun i u hu => ?_⟩⟩, fun z hz => ?_, fun k e => by cases e; exact hlt⟩⟩
      · rw [List.getElem?_map, List.getElem?_map] at hu
        by_cases hi : i < len
        · rw [List.getElem?_range hi] at hu
          simp only [Option.map_some, Option.some.injEq] at hu
          subst hu
          have k1 := (hf i hi).1
          rw [Nat.mul_one, add_mk] at k1
          exact k1
        · rw [List.getElem?_eq_none (by simpa using hi)] at hu
          cases hu
      · obtain ⟨i, hi, rfl⟩ := List.mem_map.1 hz
        exact (hf i (by simpa using hi)).2
end
end Go.Proofs.Ytcpaphcodhlggaa
