/- The law of the albums that are not there. -/
import Derived.Test.YthjpjekaiflibaaDoorLives21
namespace Go.Proofs.YthjpjekaiflibaaDoor
open Go.RowKit
def VoidRel (w : World) (i : Value) (w' : World) : Prop := ∃ k : Nat, i = .int .i64 k ∧ k ≤ 2 ∧ Fr No w w'
theorem size_alloc (w : World) (o : Obj) : (w.alloc o).heap.size = w.heap.size + 1 := by simp
set_option maxRecDepth 100000 in
set_option maxHeartbeats 8000000 in
theorem void21_any {R : Ending → World → Prop} (w : World) (ht : Tab w) (h0 : 0 < w.heap.size) (i t : Int) (p : Option Addr) (n c : Nat) (hR : ∀ w', Fr No w w' → R (.returned (.bool true)) w') :
    Calls Tryd.prog 4 #[.agg #[.int .u64 i, .int .u64 t, .slice p n c]] w R := by
  have HR := Lib.hid hR
  have HT := Lib.hid ht
  have H0 := Lib.hid h0
  clear hR ht h0
  obtain ⟨wa, hwa⟩ : ∃ wa, w.alloc (Obj.cells #[.int .u64 i, .int .u64 t, .slice p n c] 40) = wa := ⟨_, rfl⟩
  have hza : wa.heap.size = w.heap.size + 1 := by rw [← hwa]; simp
  have hFa : Fr No w wa := by rw [← hwa]; exact Fr.alloc _ _ _
  have hba : wa.heap[w.heap.size]? = some (Obj.cells #[.int .u64 i, .int .u64 t, .slice p n c] 40) := by rw [← hwa]; exact heap_new w _
  obtain ⟨w3, hw3⟩ : ∃ w3, w3 = (wa.alloc (Obj.cells #[.int .u64 0, .int .u64 0, .slice none 0 0, .pointer none, .bool false] 42)).alloc (Obj.cells #[Value.pointer none, Value.pointer (some { block := w.heap.size + 1, off := 0 })] 43) := ⟨_, rfl⟩
  have hF3 : Fr No wa w3 := by rw [hw3]; exact (Fr.alloc _ _ _).trans (Fr.alloc _ _ _)
  have hz : w3.heap[w.heap.size + 1]? = some (Obj.cells #[.int .u64 0, .int .u64 0, .slice none 0 0, .pointer none, .bool false] 42) := by
    rw [hw3]
    have := (Fr.alloc No _ (Obj.cells #[Value.pointer none, Value.pointer (some { block := w.heap.size + 1, off := 0 })] 43)).at (heap_new wa (Obj.cells #[.int .u64 0, .int .u64 0, .slice none 0 0, .pointer none, .bool false] 42)) fun x => x
    rwa [hza] at this
  have hl : w3.heap[w.heap.size + 2]? = some (Obj.cells #[Value.pointer none, Value.pointer (some { block := w.heap.size + 1, off := 0 })] 43) := by
    rw [hw3]
    have := heap_new (wa.alloc (Obj.cells #[.int .u64 0, .int .u64 0, .slice none 0 0, .pointer none, .bool false] 42)) (Obj.cells #[Value.pointer none, Value.pointer (some { block := w.heap.size + 1, off := 0 })] 43)
    rwa [size_alloc, hza] at this
  have HW3 := Lib.hid hw3
  have HWA := Lib.hid hwa
  have HF3 := Lib.hid (hFa.trans hF3)
  have HZ := Lib.hid hz
  have HL := Lib.hid hl
  have HBA := Lib.hid (hF3.at hba fun x => x)
  clear hw3 hF3 hz hl hwa hba hFa hza
  go_enter Tryd.func4, Tryd.ntmps4
  go_wp2_with (go_at_call 15; refine sopen_none _ ?_)
  rw [HWA.out, ← HW3.out]
  go_loopw [7] (fun i wr => VoidRel w3 i wr) (fun i _ => 2 - (intOf i).toNat)
  case atStart => exact ⟨0, rfl, by omega, Fr.refl _ _⟩
  case round =>
    obtain ⟨k, rfl, hk, hF⟩ := hrel
    by_cases hlt : k < 2
    · obtain ⟨p, hp, hvoid⟩ : ∃ p, wr.cell? ⟨w.heap.size + 2, k, none⟩ = some (.pointer p) ∧ NoAlbum wr p := by
        have hl2 := hF.at HL.out fun x => x
        match k, hlt with
        | 0, _ => exact ⟨_, cell_at hl2 0 rfl, .inl rfl⟩
        | 1, _ => exact ⟨_, cell_at hl2 1 rfl, .inr ⟨_, rfl, hF.at HZ.out fun x => x⟩⟩
      have ik : (0 : Int) ≤ (k : Int) := by omega
      have il : (k : Int) < 2 := by omega
      have HV := Lib.hid hvoid
      have HFF := Lib.hid hF
      have HBR := Lib.hid (hF.at HBA.out fun x => x)
      have HP := Lib.hid hp
      clear hvoid hF
      go_upto_region 10 with (go_at_call 16; refine shot_void HV.out ?_; intro p1 c1 w1 h1; have F1 := Lib.hid h1; clear h1)
      have hFz : Fr No w1 (w1.alloc (.cells #[.int .u64 0, .int .u64 0, .slice p1 0 c1] 40)) := Fr.alloc _ _ _
      have hb8 := heap_new w1 (.cells #[.int .u64 0, .int .u64 0, .slice p1 0 c1] 40)
      have hF8 := F1.out.trans hFz
      have hbz := hF8.at HBR.out fun x => x
      have hp8 := hF8.cell HP.out fun x => x
      have a0 := cell_at hb8 0 rfl
      have a1 := cell_at hb8 1 rfl
      have a2 := cell_at hb8 2 rfl
      have q0 := cell_at hbz 0 rfl
      have q1 := cell_at hbz 1 rfl
      have q2 := cell_at hbz 2 rfl
      have HV8 := Lib.hid (HV.out.fr hF8)
      have HF8 := Lib.hid (HFF.out.trans hF8)
      clear hFz hb8 hbz hF8 hp
      generalize w1.alloc (.cells #[.int .u64 0, .int .u64 0, .slice p1 0 c1] 40) = wb at *
      go_region_with (go_at_call 17; refine sset_void (HV8.out.fr (Fr.drew No wb)) _ _ _ _ _ ?_; intro w5 h5; have b0 := h5.cell a0 (fun x => x); have b1 := h5.cell a1 (fun x => x); have b2 := h5.cell a2 (fun x => x); have F5 := Lib.hid ((Fr.drew No wb).trans h5); clear h5)
      all_goals go_wp2_with fail
      all_goals exact ⟨⟨k + 1, by go_num, by omega, HF8.out.trans F5.out⟩, by simp [intOf]; omega⟩
    · have HFF := Lib.hid hF
      clear hF
      go_wp2_with (go_at_call 18; refine lives21_any _ ((HT.out.fr HF3.out fun x => x).fr HFF.out fun x => x) (by have h1 := HF3.out.size; have h2 := HFF.out.size; have h3 := H0.out; omega) ?_; intro wz hFz; have HFz := Lib.hid hFz; clear hFz)
      exact HR.out _ ((HF3.out.trans HFF.out).trans HFz.out)
end Go.Proofs.YthjpjekaiflibaaDoor
