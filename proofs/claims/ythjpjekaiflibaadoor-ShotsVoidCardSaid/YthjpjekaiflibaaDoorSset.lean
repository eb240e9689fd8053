/- A shot is set. -/
import Derived.Test.YthjpjekaiflibaaDoorShot
namespace Go.Proofs.YthjpjekaiflibaaDoor
open Go.RowKit
set_option maxRecDepth 100000 in
set_option maxHeartbeats 4000000 in
theorem sset_arg {R : Ending → World → Prop} {w : World} {ba i t : Nat} {v : Value} {g : Option Nat} {bs : List UInt8} {bd : Nat} (h : AlbumAt w ba i t v g bs (some ⟨bd, 0, none⟩) false) (i' t' : Nat) (hi : i' ≤ i) (a : Option Addr) (n c : Nat) (hR : ∀ w', Fr No w w' → R (.returned (.int .i64 1)) w') :
    Calls Tryd.prog 17 #[.pointer (some ⟨ba, 0, none⟩), .agg #[.int .u64 i', .int .u64 t', .slice a n c]] w R := by
  have HR := Lib.hid hR
  obtain ⟨wa, hwa⟩ : ∃ wa, w.alloc (.cells #[.int .u64 i', .int .u64 t', .slice a n c] 40) = wa := ⟨_, rfl⟩
  have hF : Fr No w wa := by rw [← hwa]; exact Fr.alloc _ _ _
  have hb0 : wa.heap[w.heap.size]? = some (.cells #[.int .u64 i', .int .u64 t', .slice a n c] 40 (0, 0)) := by rw [← hwa]; exact heap_new w _
  have c0 : wa.cell? ⟨ba, 0, none⟩ = some (.int .u64 (i : Nat)) := hF.cell (cell_at h.a 0 rfl) fun x => x
  have c1 : wa.cell? ⟨ba, 1, none⟩ = some (.int .u64 (t : Nat)) := hF.cell (cell_at h.a 1 rfl) fun x => x
  have c3 : wa.cell? ⟨ba, 3, none⟩ = some (.pointer (some ⟨bd, 0, none⟩)) := hF.cell (cell_at h.a 3 rfl) fun x => x
  have c4 : wa.cell? ⟨ba, 4, none⟩ = some (.bool false) := hF.cell (cell_at h.a 4 rfl) fun x => x
  have q0 : wa.cell? ⟨w.heap.size, 0, none⟩ = some (.int .u64 (i' : Nat)) := cell_at hb0 0 rfl
  have q1 : wa.cell? ⟨w.heap.size, 1, none⟩ = some (.int .u64 (t' : Nat)) := cell_at hb0 1 rfl
  have HWA := Lib.hid hwa
  have HF := Lib.hid hF
  have ji : (i' : Int) ≤ (i : Int) := by omega
  clear hR h hwa hF hb0
  go_enter Tryd.func17, Tryd.ntmps17
  go_upto_region 1 with fail
  rw [HWA.out]
  go_wp2
  go_quiet (fail)
  go_wp2_with fail
  exact HR.out _ (HF.out.trans (Fr.drewN No wa nq))
end Go.Proofs.YthjpjekaiflibaaDoor
