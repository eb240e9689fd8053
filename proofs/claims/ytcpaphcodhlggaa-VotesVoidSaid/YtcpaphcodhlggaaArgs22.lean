/- What the laws on votes are handed, opened: a say; says in a row. -/
import Derived.Test.YtcpaphcodhlggaaBase
import Derived.Test.YtcpaphcodhlggaaRows
import Derived.ProofKit
import Derived.OpenShut
import Derived.Deep.Fields
import Derived.Deep.Slices
namespace Go.Proofs.Ytcpaphcodhlggaa
open Go.RowKit Go.ChangeShapes Go.WideShapes Go.ChangeAt Go.Deep
section
variable {H : Type} {enc : TypeId × Value → H} {w : World} {base : Nat} {spare : Nat → Bool} {held : Bool}
set_option maxRecDepth 100000 in
theorem open_say {fuel : Nat} {cs : List Value} {x : DataW H × List MemPlace} (h : DataW.trod enc Try.prog w base spare held fuel 30 cs = some x) : ∃ (t : Nat) (y : Bool), cs = [.int .u8 (t : Int), .bool y] ∧ t < 256 := by
  obtain ⟨xs, n, _, hxx, hl, hx, hf⟩ := DataW.trod_struct Try.underlying30 h
  have hC : Try.prog.cellsOf 30 = 2 := by kernel_rfl
  rw [hC] at hl
  have k8 : Try.prog.cellsOf 5 = 1 := by kernel_rfl
  have kb : Try.prog.cellsOf 4 = 1 := by kernel_rfl
  match cs, hl, xs, hx with
  | [c0, c1], _, [y0, y1], _ =>
    have h0 := hf 0 _ rfl
    have h1 := hf 1 _ rfl
    simp only [k8, kb, List.drop_succ_cons, List.drop_zero, List.take_succ_cons, List.take_zero, List.getElem?_cons_zero, List.getElem?_cons_succ, List.getElem_toArray, List.getElem_cons_zero, List.getElem_cons_succ] at h0 h1
    obtain ⟨z, e0, _, w0⟩ := DataW.trod_int (k := .u8) Try.underlying5 h0
    obtain ⟨y, e1, _⟩ := DataW.trod_bool Try.underlying4 h1
    have hz : (0 : Int) ≤ z ∧ z ≤ 255 := by
      have : IntKind.u8.min ≤ z ∧ z ≤ IntKind.u8.max := by simpa [Lit.wf] using w0
      exact this
    cases e0; cases e1
    exact ⟨z.toNat, y, by rw [show ((z.toNat : Nat) : Int) = z by omega], by omega⟩
end
end Go.Proofs.Ytcpaphcodhlggaa
