/- The law of the polls that are not there. -/
import Derived.Test.YtcpaphcodhlggaaLives22
namespace Go.Proofs.Ytcpaphcodhlggaa
open Go.RowKit
theorem size_alloc (w : World) (o : Obj) : (w.alloc o).heap.size = w.heap.size + 1 := by simp
def VoidRel (w : World) (i : Value) (w' : World) : Prop := ∃ k : Nat, i = .int .i64 k ∧ k ≤ 2 ∧ Fr No w w'
set_option maxRecDepth 100000 in
set_option maxHeartbeats 8000000 in
theorem void22_any {R : Ending → World → Prop} (w : World) (t : Nat) (y : Bool) (hR : ∀ w', Fr No w w' → R (.returned (.bool true)) w') :
    Calls Try.prog 5 #[.agg #[.int .u8 t, .bool y]] w R := by
  have HR := Lib.hid hR
  clear hR
  obtain ⟨w3, hw3⟩ : ∃ w3, w3 = ((w.alloc (Obj.cells #[Value.int IntKind.u8 (t : Int), Value.bool y] 30)).alloc (Obj.cells #[Value.int IntKind.i64 0, Value.int IntKind.u8 0, Value.int IntKind.u8 0, Value.int IntKind.u8 0, Value.int IntKind.u8 0, Value.int IntKind.u8 0, Value.int IntKind.u8 0, Value.int IntKind.u8 0] 41)).alloc
      (Obj.cells #[Value.pointer none, Value.pointer (some { block := w.heap.size + 1, off := 0 })] 24) := ⟨_, rfl⟩
  have hF3 : Fr No w w3 := by rw [hw3]; exact ((Fr.alloc _ _ _).trans (Fr.alloc _ _ _)).trans (Fr.alloc _ _ _)
  have hc : w3.cell? ⟨w.heap.size, 0, none⟩ = some (.int .u8 (t : Int)) ∧ w3.cell? ⟨w.heap.size, 1, none⟩ = some (.bool y) ∧ w3.cell? ⟨w.heap.size + 1, 0, none⟩ = some (.int .i64 0) ∧ w3.cell? ⟨w.heap.size + 1 + 1, 0, none⟩ = some (.pointer none) ∧ w3.cell? ⟨w.heap.size + 1 + 1, 1, none⟩ = some (.pointer (some ⟨w.heap.size + 1, 0, none⟩)) := by
    rw [hw3]
    have a0 := heap_new w (Obj.cells #[Value.int IntKind.u8 (t : Int), Value.bool y] 30)
    have a1 := heap_new (w.alloc (Obj.cells #[Value.int IntKind.u8 (t : Int), Value.bool y] 30)) (Obj.cells #[Value.int IntKind.i64 0, Value.int IntKind.u8 0, Value.int IntKind.u8 0, Value.int IntKind.u8 0, Value.int IntKind.u8 0, Value.int IntKind.u8 0, Value.int IntKind.u8 0, Value.int IntKind.u8 0] 41)
    have a2 := heap_new ((w.alloc (Obj.cells #[Value.int IntKind.u8 (t : Int), Value.bool y] 30)).alloc (Obj.cells #[Value.int IntKind.i64 0, Value.int IntKind.u8 0, Value.int IntKind.u8 0, Value.int IntKind.u8 0, Value.int IntKind.u8 0, Value.int IntKind.u8 0, Value.int IntKind.u8 0, Value.int IntKind.u8 0] 41))
      (Obj.cells #[Value.pointer none, Value.pointer (some { block := w.heap.size + 1, off := 0 })] 24)
    simp only [size_alloc] at a1 a2
    exact ⟨cell_alloc2 (cell_at a0 0 rfl) _ _, cell_alloc2 (cell_at a0 1 rfl) _ _, cell_alloc (cell_at a1 0 rfl) _, cell_at a2 0 rfl, cell_at a2 1 rfl⟩
  have HW3 := Lib.hid hw3
  have HF3 := Lib.hid hF3
  have HC := Lib.hid hc
  clear hw3 hF3 hc
  go_enter Try.func5, Try.ntmps5
  go_wp2
  rw [← HW3.out]
  go_loopw [5] (fun i wr => VoidRel w3 i wr) (fun i _ => 2 - (intOf i).toNat)
  case atStart => exact ⟨0, rfl, by omega, Fr.refl _ _⟩
  case round =>
    obtain ⟨k, rfl, hk, hF⟩ := hrel
    by_cases hlt : k < 2
    · obtain ⟨h0, h1, h2, h3, h4⟩ := HC.out
      have c0 := hF.cell h0 fun x => x
      have c1 := hF.cell h1 fun x => x
      obtain ⟨p, hp, hvoid⟩ : ∃ p, wr.cell? ⟨w.heap.size + 1 + 1, k, none⟩ = some (.pointer p) ∧ NoPoll wr p := by
        match k, hlt with
        | 0, _ => exact ⟨_, hF.cell h3 fun x => x, .inl rfl⟩
        | 1, _ => exact ⟨_, hF.cell h4 fun x => x, .inr ⟨_, rfl, hF.cell h2 fun x => x⟩⟩
      have ik : (0 : Int) ≤ (k : Int) := by omega
      have il : (k : Int) < 2 := by omega
      have HV := Lib.hid hvoid
      have HFF := Lib.hid hF
      clear hvoid hF h0 h1 h2 h3 h4
      go_wp2
      go_quiet ((first
        | (go_at_call 11; exact Calls.quiet_of_same (flip (say_void (HV.out.fr (Fr.drewN No _ _)) _ _)))
        | (go_at_call 13; exact Calls.quiet_of_same (flip (yes_void (HV.out.fr (Fr.drewN No _ _)))))
        | (go_at_call 15; exact Calls.quiet_of (won_void_quiet (HV.out.fr (Fr.drewN No _ _))))
        | (go_at_call 16; exact Calls.quiet_of (lost_void_quiet (HV.out.fr (Fr.drewN No _ _))))))
      go_wp2
      exact ⟨⟨k + 1, by go_num, by omega, HFF.out.trans (Fr.drewN _ _ _)⟩, by simp [intOf]; omega⟩
    · have HFF := Lib.hid hF
      clear hF
      go_wp2_with (go_at_call 8; refine lives22_any _ ?_; intro wz hFz; have HFz := Lib.hid hFz; clear hFz)
      exact HR.out _ ((HF3.out.trans HFF.out).trans HFz.out)
end Go.Proofs.Ytcpaphcodhlggaa
