/- states.Open of a disk that has the file. -/
import Derived.Test.YthjpjekaiflibaaDoorRead20
namespace Go.Proofs.YthjpjekaiflibaaDoor
open Go.RowKit
set_option maxRecDepth 100000 in
set_option maxHeartbeats 4000000 in
theorem open_read {R : Ending → World → Prop} {w : World} {bd : Nat} {M : DM} {O : List Nat} (h : DiskAt w bd M O) (ht : Tab w) {bs : List UInt8} {t v : Nat} (hr : M.read nState = (bs, 0)) (hrd : readD bs = (t, v, true))
    (hR : ∀ bp w', PromiseAt w' bp t v bd false → DiskAt w' bd M O → bp ∉ O → Fr No w w' → w.heap.size ≤ bp → R (.returned (.tuple #[.pointer (some ⟨bp, 0, none⟩), .int .i64 0])) w') :
    Calls Tryd.prog 10 #[.pointer (some ⟨bd, 0, none⟩)] w R := by
  have HR := Lib.hid hR
  have HD := Lib.hid h
  have HRD := Lib.hid hr
  have HRR := Lib.hid hrd
  have HT := Lib.hid ht
  clear hR h hr ht hrd
  go_enter Tryd.func10, Tryd.ntmps10
  go_wp2_with (first
    | (go_at_call 42; refine disk_read HD.out nState ?_; intro vr g b c w1 h1 h2 h3 h4x h5x; rw [HRD.out] at h1; cases h1; obtain ⟨p1, c1, rfl, _⟩ := Sl.form h2; clear h4x h5x; have H1 := Lib.hid h2; have H2 := Lib.hid h3; clear h2 h3)
    | (go_at_call 43; refine read20_any _ g _ _ (HT.out.fr H2.out fun x => x) H1.out.src ?_; intro w2 h2; rw [HRR.out]; have H3 := Lib.hid h2; clear h2))
  have hF := (H2.out.trans H3.out).trans (Fr.alloc No w2 (.cells #[.int .u64 t, .int .u8 v] 24))
  have hF2 := hF.trans (Fr.alloc No _ (.cells #[.int .u64 t, .int .u8 v, .pointer (some ⟨bd, 0, none⟩), .bool false] 27))
  have hz := hF.size
  have hp : PromiseAt ((w2.alloc (.cells #[.int .u64 t, .int .u8 v] 24)).alloc (.cells #[.int .u64 t, .int .u8 v, .pointer (some ⟨bd, 0, none⟩), .bool false] 27)) (w2.heap.size + 1) t v bd false := by
    have := heap_new (w2.alloc (.cells #[.int .u64 t, .int .u8 v] 24)) (.cells #[.int .u64 t, .int .u8 v, .pointer (some ⟨bd, 0, none⟩), .bool false] 27)
    rwa [show (w2.alloc (.cells #[.int .u64 t, .int .u8 v] 24)).heap.size = w2.heap.size + 1 by simp] at this
  have hz2 : w.heap.size ≤ w2.heap.size + 1 := by simpa using hz
  exact HR.out _ _ hp (HD.out.fr hF2 fun _ _ x => x) (fun e => by have := HD.out.lt _ e; have h1 := H2.out.size; have h2 := H3.out.size; omega) hF2 hz2
end Go.Proofs.YthjpjekaiflibaaDoor
