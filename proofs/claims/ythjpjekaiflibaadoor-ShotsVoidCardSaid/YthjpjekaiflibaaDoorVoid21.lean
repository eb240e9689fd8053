/- An album that is not there, or that no call made. -/
import Derived.Test.YthjpjekaiflibaaDoorShot
namespace Go.Proofs.YthjpjekaiflibaaDoor
open Go.RowKit
set_option maxRecDepth 100000 in
set_option maxHeartbeats 4000000 in
theorem shot_void {R : Ending → World → Prop} {p : Option Addr} {w : World} (h : NoAlbum w p) (hR : ∀ p' c' w', Fr No w w' → R (.returned (.agg #[.int .u64 0, .int .u64 0, .slice p' 0 c'])) w') :
    Calls Tryd.prog 16 #[.pointer p] w R := by
  rcases h with rfl | ⟨b, rfl, h⟩
  · have HR := Lib.hid hR
    obtain ⟨wa, hwa⟩ : ∃ wa, w.alloc (.cells #[.int .u64 0, .int .u64 0, .slice none 0 0] 40) = wa := ⟨_, rfl⟩
    have hF : Fr No w wa := by rw [← hwa]; exact Fr.alloc _ _ _
    have hb0 : wa.heap[w.heap.size]? = some (.cells #[.int .u64 0, .int .u64 0, .slice none 0 0] 40 (0, 0)) := by rw [← hwa]; exact heap_new w _
    have HWA := Lib.hid hwa
    have HF := Lib.hid hF
    have H0 := Lib.hid hb0
    have u0 := free_at hb0 0
    have u1 := free_at hb0 1
    have u2 := free_at hb0 2
    have z0 := cell_at hb0 0 rfl
    have z1 := cell_at hb0 1 rfl
    have z2 := cell_at hb0 2 rfl
    clear hR hwa hF hb0
    go_enter Tryd.func16, Tryd.ntmps16
    go_upto_if 4 with fail
    rw [HWA.out]
    go_wp2
    have hb5 : (((wa.setCell ⟨w.heap.size, 0, none⟩ (.int .u64 0)).setCell ⟨w.heap.size, 1, none⟩ (.int .u64 0)).setCell ⟨w.heap.size, 2, none⟩ (.slice none 0 0)).heap[w.heap.size]? = some (.cells #[.int .u64 0, .int .u64 0, .slice none 0 0] 40 (0, 0)) := setCell_box (k := 2) (setCell_box (k := 1) (setCell_box (k := 0) H0.out _) _) _
    have hF5 : Fr (Is (some w.heap.size)) wa (((wa.setCell ⟨w.heap.size, 0, none⟩ (.int .u64 0)).setCell ⟨w.heap.size, 1, none⟩ (.int .u64 0)).setCell ⟨w.heap.size, 2, none⟩ (.slice none 0 0)) := ((Fr.set _ _ _ _).trans (Fr.set _ _ _ _)).trans (Fr.set _ _ _ _)
    refine bodyPost_ret (results_cell_row rfl _ _ w.heap.size 40 _ (0, 0) _ rfl hb5 Tryd.underlying40 rfl (by kernel_rfl)) rfl ?_
    refine HR.out _ _ _ (HF.out.step hF5 fun k hk hp => ?_)
    have : w.heap.size = k := Option.some.inj hp
    omega
  · refine shot_any (i := 0) (t := 0) (v := .slice none 0 0) (pd := none) (lost := false) (g := none) (bs := []) ⟨h, By.nil _, fun k e => by cases e⟩ (by simp) fun v' g' w' h1 h2 _ => ?_
    obtain ⟨p', c', rfl, _⟩ := Sl.form h1
    exact hR p' c' w' h2
set_option maxRecDepth 100000 in
set_option maxHeartbeats 4000000 in
theorem sset_void {R : Ending → World → Prop} {p : Option Addr} {w : World} (h : NoAlbum w p) (i t : Int) (a : Option Addr) (n c : Nat) (hR : ∀ w', Fr No w w' → R (.returned (.int .i64 2)) w') :
    Calls Tryd.prog 17 #[.pointer p, .agg #[.int .u64 i, .int .u64 t, .slice a n c]] w R := by
  have HR := Lib.hid (hR _ ((Fr.alloc No w (.cells #[.int .u64 i, .int .u64 t, .slice a n c] 40))))
  clear hR
  rcases h with rfl | ⟨b, rfl, h⟩
  · go_enter Tryd.func17, Tryd.ntmps17
    go_wp2
    exact HR.out
  · have c3 := cell_alloc (cell_at h 3 rfl)
    clear h
    go_enter Tryd.func17, Tryd.ntmps17
    go_wp2
    exact HR.out
end Go.Proofs.YthjpjekaiflibaaDoor
