/- states.Open: without a disk; of a disk without the file. -/
import Derived.Test.YthjpjekaiflibaaDoorSet
namespace Go.Proofs.YthjpjekaiflibaaDoor
open Go.RowKit
set_option maxRecDepth 100000 in
set_option maxHeartbeats 4000000 in
theorem open_none {R : Ending → World → Prop} (w : World) (hR : R (.returned (.tuple #[.pointer none, .int .i64 2])) w) :
    Calls Tryd.prog 10 #[.pointer none] w R := by
  have HR := Lib.hid hR
  clear hR
  go_enter Tryd.func10, Tryd.ntmps10
  go_wp2
  exact HR.out
set_option maxRecDepth 100000 in
set_option maxHeartbeats 4000000 in
theorem open_new {R : Ending → World → Prop} {w : World} {bd : Nat} {M : DM} {O : List Nat} (h : DiskAt w bd M O) (hr : M.read nState = ([], 7))
    (hR : ∀ bp w', PromiseAt w' bp 0 0 bd false → DiskAt w' bd M O → bp ∉ O → Fr No w w' → w.heap.size ≤ bp → R (.returned (.tuple #[.pointer (some ⟨bp, 0, none⟩), .int .i64 0])) w') :
    Calls Tryd.prog 10 #[.pointer (some ⟨bd, 0, none⟩)] w R := by
  have HR := Lib.hid hR
  have HD := Lib.hid h
  have HRD := Lib.hid hr
  clear hR h hr
  go_enter Tryd.func10, Tryd.ntmps10
  go_wp2_with (go_at_call 42; refine disk_read HD.out nState ?_; intro vr g b c w1 h1 h2 h3 h4x h5x; rw [HRD.out] at h1; cases h1; obtain rfl := h5x (by decide); clear h4x h5x; have H1 := Lib.hid h3; clear h2 h3)
  have hF : Fr No w (w1.alloc (.cells #[.int .u64 0, .int .u8 0, .pointer (some ⟨bd, 0, none⟩), .bool false] 27)) := H1.out.trans (Fr.alloc _ _ _)
  exact HR.out _ _ (heap_new w1 _) (HD.out.fr hF fun _ _ x => x) (fun e => by have := HD.out.lt _ e; have := H1.out.size; omega) hF H1.out.size
end Go.Proofs.YthjpjekaiflibaaDoor
