/- A promise that is not there, or that no call made; the law. -/
import Derived.Test.YthjpjekaiflibaaDoorLives20
namespace Go.Proofs.YthjpjekaiflibaaDoor
open Go.RowKit
def NoPromise (w : World) (p : Option Addr) : Prop := p = none ∨ ∃ b, p = some ⟨b, 0, none⟩ ∧ w.heap[b]? = some (.cells #[.int .u64 0, .int .u8 0, .pointer none, .bool false] 27 (0, 0))
theorem NoPromise.fr {w w' : World} {p : Option Addr} (h : NoPromise w p) (hF : Fr No w w') : NoPromise w' p := by
  rcases h with h | ⟨b, h1, h2⟩
  · exact .inl h
  · exact .inr ⟨b, h1, hF.at h2 fun x => x⟩
set_option maxRecDepth 100000 in
set_option maxHeartbeats 4000000 in
theorem term_void {p : Option Addr} {w : World} (h : NoPromise w p) :
    Calls Tryd.prog 12 #[.pointer p] w fun e w' => e = .returned (.int .u64 0) ∧ w = w' := by
  rcases h with rfl | ⟨b, rfl, h⟩
  · go_enter Tryd.func12, Tryd.ntmps12
    go_wp2
    go_ret
    exact ⟨rfl, rfl⟩
  · have c0 := cell_at h 0 rfl
    clear h
    go_enter Tryd.func12, Tryd.ntmps12
    go_wp2
    go_ret
    exact ⟨rfl, rfl⟩
set_option maxRecDepth 100000 in
set_option maxHeartbeats 4000000 in
theorem vote_void {p : Option Addr} {w : World} (h : NoPromise w p) :
    Calls Tryd.prog 13 #[.pointer p] w fun e w' => e = .returned (.int .u8 0) ∧ w = w' := by
  rcases h with rfl | ⟨b, rfl, h⟩
  · go_enter Tryd.func13, Tryd.ntmps13
    go_wp2
    go_ret
    exact ⟨rfl, rfl⟩
  · have c1 := cell_at h 1 rfl
    clear h
    go_enter Tryd.func13, Tryd.ntmps13
    go_wp2
    go_ret
    exact ⟨rfl, rfl⟩
set_option maxRecDepth 100000 in
set_option maxHeartbeats 4000000 in
theorem set_void {R : Ending → World → Prop} {p : Option Addr} {w : World} (h : NoPromise w p) (t v : Nat) (hR : ∀ w', Fr No w w' → R (.returned (.int .i64 2)) w') :
    Calls Tryd.prog 11 #[.pointer p, .int .u64 t, .int .u8 v] w R := by
  have HR := Lib.hid (hR _ (Fr.alloc No w (.cells #[.int .u64 t, .int .u8 v] 24)))
  clear hR
  rcases h with rfl | ⟨b, rfl, h⟩
  · go_enter Tryd.func11, Tryd.ntmps11
    go_wp2
    exact HR.out
  · have c2 : (w.alloc (.cells #[.int .u64 t, .int .u8 v] 24)).cell? ⟨b, 2, none⟩ = some (.pointer none) := cell_alloc (cell_at h 2 rfl) _
    clear h
    go_enter Tryd.func11, Tryd.ntmps11
    go_wp2
    exact HR.out
def VoidRel (w : World) (i : Value) (w' : World) : Prop := ∃ k : Nat, i = .int .i64 k ∧ k ≤ 2 ∧ Fr No w w'
theorem size_alloc (w : World) (o : Obj) : (w.alloc o).heap.size = w.heap.size + 1 := by simp
set_option maxRecDepth 100000 in
set_option maxHeartbeats 8000000 in
theorem void20_any {R : Ending → World → Prop} (w : World) (ht : Tab w) (h0 : 0 < w.heap.size) (t v : Nat) (hR : ∀ w', Fr No w w' → R (.returned (.bool true)) w') :
    Calls Tryd.prog 3 #[.int .u64 t, .int .u8 v] w R := by
  have HR := Lib.hid hR
  have HT := Lib.hid ht
  have H0 := Lib.hid h0
  clear hR ht h0
  obtain ⟨w3, hw3⟩ : ∃ w3, w3 = (w.alloc (Obj.cells #[.int .u64 0, .int .u8 0, .pointer none, .bool false] 27)).alloc (Obj.cells #[Value.pointer none, Value.pointer (some { block := w.heap.size, off := 0 })] 28) := ⟨_, rfl⟩
  have hF3 : Fr No w w3 := by rw [hw3]; exact (Fr.alloc _ _ _).trans (Fr.alloc _ _ _)
  have hz : w3.heap[w.heap.size]? = some (Obj.cells #[.int .u64 0, .int .u8 0, .pointer none, .bool false] 27) := by
    rw [hw3]
    exact (Fr.alloc No _ _).at (heap_new w _) fun x => x
  have hl : w3.heap[w.heap.size + 1]? = some (Obj.cells #[Value.pointer none, Value.pointer (some { block := w.heap.size, off := 0 })] 28) := by
    rw [hw3]
    have := heap_new (w.alloc (Obj.cells #[.int .u64 0, .int .u8 0, .pointer none, .bool false] 27)) (Obj.cells #[Value.pointer none, Value.pointer (some { block := w.heap.size, off := 0 })] 28)
    rwa [size_alloc] at this
  have HW3 := Lib.hid hw3
  have HF3 := Lib.hid hF3
  have HZ := Lib.hid hz
  have HL := Lib.hid hl
  clear hw3 hF3 hz hl
  go_enter Tryd.func3, Tryd.ntmps3
  go_wp2_with (go_at_call 10; refine open_none _ ?_)
  rw [← HW3.out]
  go_loopw [9] (fun i wr => VoidRel w3 i wr) (fun i _ => 2 - (intOf i).toNat)
  case atStart => exact ⟨0, rfl, by omega, Fr.refl _ _⟩
  case round =>
    obtain ⟨k, rfl, hk, hF⟩ := hrel
    by_cases hlt : k < 2
    · obtain ⟨p, hp, hvoid⟩ : ∃ p, wr.cell? ⟨w.heap.size + 1, k, none⟩ = some (.pointer p) ∧ NoPromise wr p := by
        have hl2 := hF.at HL.out fun x => x
        match k, hlt with
        | 0, _ => exact ⟨_, cell_at hl2 0 rfl, .inl rfl⟩
        | 1, _ => exact ⟨_, cell_at hl2 1 rfl, .inr ⟨_, rfl, hF.at HZ.out fun x => x⟩⟩
      have ik : (0 : Int) ≤ (k : Int) := by omega
      have il : (k : Int) < 2 := by omega
      have HV := Lib.hid hvoid
      have HFF := Lib.hid hF
      clear hvoid hF
      go_wp2_with (first
        | (go_at_call 11; refine set_void HV.out t v ?_; intro wa hFa; have hp2 := hFa.cell hp (fun x => x); have HV2 := Lib.hid (HV.out.fr hFa); have HFa := Lib.hid (HFF.out.trans hFa); clear hFa)
        | (go_at_call 12; refine (term_void HV2.out).mono ?_; rintro e w' ⟨rfl, rfl⟩)
        | (go_at_call 13; refine (vote_void HV2.out).mono ?_; rintro e w' ⟨rfl, rfl⟩))
      exact ⟨⟨k + 1, by go_num, by omega, HFa.out⟩, by simp [intOf]; omega⟩
    · have HFF := Lib.hid hF
      clear hF
      go_wp2_with (go_at_call 14; refine lives20_any _ ((HT.out.fr HF3.out fun x => x).fr HFF.out fun x => x) (by have h1 := HF3.out.size; have h2 := HFF.out.size; have h3 := H0.out; omega) ?_; intro wz hFz; have HFz := Lib.hid hFz; clear hFz)
      exact HR.out _ ((HF3.out.trans HFF.out).trans HFz.out)
end Go.Proofs.YthjpjekaiflibaaDoor
