/- The law of the disks that are not there: each call answers as the law says. -/
import Derived.Test.YthjpjekaiflibaaLives17
import Derived.Test.YthjpjekaiflibaaVoid
import Derived.Test.YthjpjekaiflibaaArgs
namespace Go.Proofs.Ythjpjekaiflibaa
open Go.RowKit
theorem size_alloc (w : World) (o : Obj) : (w.alloc o).heap.size = w.heap.size + 1 := by simp
def VoidRel (w : World) (i : Value) (w' : World) : Prop := ∃ k : Nat, i = .int .i64 k ∧ k ≤ 2 ∧ Fr No w w'
/-- What a round finds. -/
structure VoidAt (ba bz bl : Nat) (nm : ByteArray) (v2 : Value) (n : Int) (v4 : Value) (w : World) : Prop where
  c1 : w.cell? ⟨ba, 1, none⟩ = some (.string nm)
  c2 : w.cell? ⟨ba, 2, none⟩ = some v2
  c3 : w.cell? ⟨ba, 3, none⟩ = some (.int .i64 n)
  c4 : w.cell? ⟨ba, 4, none⟩ = some v4
  z0 : w.cell? ⟨bz, 0, none⟩ = some (.map none)
  l0 : w.cell? ⟨bl, 0, none⟩ = some (.pointer none)
  l1 : w.cell? ⟨bl, 1, none⟩ = some (.pointer (some ⟨bz, 0, none⟩))
theorem VoidAt.fr {ba bz bl : Nat} {nm : ByteArray} {v2 : Value} {n : Int} {v4 : Value} {w w' : World} (h : VoidAt ba bz bl nm v2 n v4 w) (hF : Fr No w w') : VoidAt ba bz bl nm v2 n v4 w' :=
  have no : ∀ k, ¬ No k := fun _ x => x
  ⟨hF.cell h.c1 (no _), hF.cell h.c2 (no _), hF.cell h.c3 (no _), hF.cell h.c4 (no _), hF.cell h.z0 (no _), hF.cell h.l0 (no _), hF.cell h.l1 (no _)⟩
set_option maxRecDepth 100000 in
set_option maxHeartbeats 8000000 in
theorem void17_any {R : Ending → World → Prop} (w : World) (cs : List Value) (A : ActD) (h : ActV w cs A) (hR : ∀ w', Fr No w w' → R (.returned (.bool true)) w') :
    Calls Try.prog 5 #[.agg cs.toArray] w R := by
  obtain ⟨⟨v2, v4, rfl, ⟨g2, b1, _⟩, g4, l1, _⟩, _, hn, _⟩ := h
  obtain ⟨p2, q2, rfl, _⟩ := Src.form b1
  obtain ⟨p4, q4, rfl, _⟩ := Src.form l1
  obtain ⟨kd, nm, bs, n, loss⟩ := A
  have HR := Lib.hid hR
  clear hR b1 l1
  obtain ⟨w3, hw3⟩ : ∃ w3, w3 = (((w.alloc (Obj.cells #[Value.int IntKind.u8 kd, Value.string nm, Value.slice p2 bs.length q2, Value.int IntKind.i64 n, Value.slice p4 loss.length q4] 43)).alloc
          (Obj.cells #[Value.map none, Value.int IntKind.i64 0, Value.bool false] 47)).alloc (Obj.cells #[Value.pointer none, Value.pointer (some { block := w.heap.size + 1, off := 0 })] 23)) := ⟨_, rfl⟩
  have hF3 : Fr No w w3 := by rw [hw3]; exact ((Fr.alloc _ _ _).trans (Fr.alloc _ _ _)).trans (Fr.alloc _ _ _)
  have hV : VoidAt w.heap.size (w.heap.size + 1) (w.heap.size + 1 + 1) nm (.slice p2 bs.length q2) n (.slice p4 loss.length q4) w3 := by
    rw [hw3]
    have a0 := heap_new w (Obj.cells #[Value.int IntKind.u8 kd, Value.string nm, Value.slice p2 bs.length q2, Value.int IntKind.i64 n, Value.slice p4 loss.length q4] 43)
    have a1 := heap_new (w.alloc (Obj.cells #[Value.int IntKind.u8 kd, Value.string nm, Value.slice p2 bs.length q2, Value.int IntKind.i64 n, Value.slice p4 loss.length q4] 43)) (Obj.cells #[Value.map none, Value.int IntKind.i64 0, Value.bool false] 47)
    have a2 := heap_new ((w.alloc (Obj.cells #[Value.int IntKind.u8 kd, Value.string nm, Value.slice p2 bs.length q2, Value.int IntKind.i64 n, Value.slice p4 loss.length q4] 43)).alloc
          (Obj.cells #[Value.map none, Value.int IntKind.i64 0, Value.bool false] 47)) (Obj.cells #[Value.pointer none, Value.pointer (some { block := w.heap.size + 1, off := 0 })] 23)
    simp only [size_alloc] at a1 a2
    exact ⟨cell_alloc2 (cell_at a0 1 rfl) _ _, cell_alloc2 (cell_at a0 2 rfl) _ _, cell_alloc2 (cell_at a0 3 rfl) _ _, cell_alloc2 (cell_at a0 4 rfl) _ _, cell_alloc (cell_at a1 0 rfl) _, cell_at a2 0 rfl, cell_at a2 1 rfl⟩
  have HW3 := Lib.hid hw3
  have HF3 := Lib.hid hF3
  have HV := Lib.hid hV
  clear hw3 hF3 hV
  go_enter Try.func5, Try.ntmps5
  go_wp2_with fail
  rw [← HW3.out]
  go_loopw [5] (fun i wr => VoidRel w3 i wr) (fun i _ => 2 - (intOf i).toNat)
  case atStart => exact ⟨0, rfl, by omega, Fr.refl _ _⟩
  case round =>
    obtain ⟨k, rfl, hk, hF⟩ := hrel
    have hV := HV.out.fr hF
    by_cases hlt : k < 2
    · obtain ⟨p, hp, hvoid⟩ : ∃ p, wr.cell? ⟨w.heap.size + 1 + 1, k, none⟩ = some (.pointer p) ∧ Void wr p := by
        match k, hlt with
        | 0, _ => exact ⟨_, hV.l0, .inl rfl⟩
        | 1, _ => exact ⟨_, hV.l1, .inr ⟨_, rfl, hV.z0⟩⟩
      have ik : (0 : Int) ≤ (k : Int) := by omega
      have il : (k : Int) < 2 := by omega
      have c1 := hV.c1
      have c2 := hV.c2
      have c3 := hV.c3
      have c4 := hV.c4
      have HV0 := Lib.hid hV
      have HP0 := Lib.hid hvoid
      have HF0 := Lib.hid hF
      clear hV hvoid hF
      go_wp2_with (first
        | (go_at_call 11; refine (read_void HP0.out _).mono ?_; rintro e w' ⟨rfl, rfl⟩)
        | (go_at_call 8; refine (fuse_void HP0.out _).mono ?_; rintro e w' ⟨rfl, rfl⟩)
        | (go_at_call 12; refine (lift_void HP0.out _).mono ?_; rintro e w' ⟨rfl, rfl⟩)
        | (go_at_call 9; refine add_void HP0.out _ _ _ _ ?_; intro wa hFa; have a1 := hFa.cell c1 (fun x => x); have a2 := hFa.cell c2 (fun x => x); have HPa := Lib.hid (HP0.out.fr hFa); have HFa := Lib.hid (HF0.out.trans hFa); clear hFa)
        | (go_at_call 17; refine (sure_void HPa.out _).mono ?_; rintro e w' ⟨rfl, rfl⟩)
        | (go_at_call 18; refine put_void HPa.out _ _ _ _ ?_; intro wb hFb; have b1 := hFb.cell a1 (fun x => x); have HPb := Lib.hid (HPa.out.fr hFb); have HFb := Lib.hid (HFa.out.trans hFb); clear hFb)
        | (go_at_call 19; refine drop_void HPb.out _ ?_; intro wc hFc; have HPc := Lib.hid (HPb.out.fr hFc); have HFc := Lib.hid (HFb.out.trans hFc); clear hFc)
        | (go_at_call 10; refine (dead_void HPc.out).mono ?_; rintro e w' ⟨rfl, rfl⟩)
        | (go_at_call 20; refine (names_void HPc.out).mono ?_; rintro e w' ⟨rfl, rfl⟩))
      exact ⟨⟨k + 1, by go_num, by omega, HFc.out⟩, by simp [intOf]; omega⟩
    · clear hV
      have HF0 := Lib.hid hF
      clear hF
      go_wp2_with ((go_at_call 13; refine lives17_any _ ?_; intro wz hFz; have HFz := Lib.hid hFz; clear hFz))
      exact HR.out _ ((HF3.out.trans HF0.out).trans HFz.out)
end Go.Proofs.Ythjpjekaiflibaa
