/- Package votes: a poll's cells; what each call answers. -/
import Derived.Test.YtcpaphcodhlggaaBase
import Derived.Test.YtcpaphcodhlggaaProg
namespace Go.Proofs.Ytcpaphcodhlggaa
open Go.RowKit
theorem setCell_box {w : World} {b k : Nat} {cs : Array Value} {t : TypeId} {fz : Nat × Nat} (h : w.heap[b]? = some (.cells cs t fz)) (v : Value) : (w.setCell ⟨b, k, none⟩ v).heap[b]? = some (.cells (cs.setIfInBounds k v) t fz) := by
  simp only [World.setCell, Array.getElem?_modify, if_pos]
  rw [h]
  simp
theorem flip {P : Program} {f : FuncId} {args : Array Value} {w : World} {v : Value} (h : Calls P f args w fun e w' => e = .returned v ∧ w = w') : Calls P f args w fun e w' => e = .returned v ∧ w' = w := h.mono fun _ _ h => ⟨h.1, h.2.symm⟩
/-- A poll's eight cells: how many nodes; what each said. -/
def saidC (x : Nat) : Value := .int .u8 (x : Int)
def pollC (n : Nat) (s : List Nat) : Array Value := (Value.int .i64 (n : Int) :: s.map saidC).toArray
def PollAt (w : World) (b n : Nat) (s : List Nat) : Prop := s.length = 7 ∧ w.heap[b]? = some (.cells (pollC n s) 41 (0, 0))
theorem PollAt.c0 {w : World} {b n : Nat} {s : List Nat} (h : PollAt w b n s) : w.cell? ⟨b, 0, none⟩ = some (.int .i64 n) := cell_at h.2 0 rfl
theorem PollAt.ck {w : World} {b n : Nat} {s : List Nat} (h : PollAt w b n s) (k : Nat) (hk : k < 7) : w.cell? ⟨b, 1 + k, none⟩ = some (.int .u8 (s.getD k 0 : Nat)) := by
  refine cell_at h.2 (1 + k) ?_
  rw [Nat.add_comm]
  have := h.1
  simp [pollC, saidC, List.getD_eq_getElem?_getD, List.getElem?_eq_getElem (show k < s.length by omega)]
theorem PollAt.free {w : World} {b n : Nat} {s : List Nat} (h : PollAt w b n s) (k : Nat) : w.frozen? ⟨b, k, none⟩ = false := free_at h.2 k
theorem PollAt.fr {S : Nat → Prop} {w w' : World} {b n : Nat} {s : List Nat} (h : PollAt w b n s) (hF : Fr S w w') (hs : ¬ S b) : PollAt w' b n s := ⟨h.1, hF.at h.2 hs⟩
theorem PollAt.set {w : World} {b n : Nat} {s : List Nat} (h : PollAt w b n s) (k x : Nat) : PollAt (w.setCell ⟨b, 1 + k, none⟩ (.int .u8 (x : Nat))) b n (s.set k x) := by
  refine ⟨by simpa using h.1, ?_⟩
  rw [setCell_box h.2]
  congr 2
  rw [Nat.add_comm]
  simp only [pollC, saidC, List.setIfInBounds_toArray, List.set_cons_succ, List.map_set]
set_option maxHeartbeats 400000 in
theorem there_int (b : Nat) (n : Int) (w : World) (h : w.cell? ⟨b, 0, none⟩ = some (.int .i64 n)) :
    Calls Try.prog 20 #[.pointer (some ⟨b, 0, none⟩)] w fun e w' => e = .returned (.bool (decide (0 < n))) ∧ w = w' := by
  go_enter Try.func20, Try.ntmps20
  go_wp2
  go_ret
  exact ⟨rfl, rfl⟩
theorem there_at (b n : Nat) (w : World) (h : w.cell? ⟨b, 0, none⟩ = some (.int .i64 n)) (h0 : 0 < n) :
    Calls Try.prog 20 #[.pointer (some ⟨b, 0, none⟩)] w fun e w' => e = .returned (.bool true) ∧ w = w' := by
  have := there_int b n w h
  rwa [show decide ((0 : Int) < (n : Int)) = true from decide_eq_true (by omega)] at this
set_option maxHeartbeats 400000 in
theorem there_nil (w : World) :
    Calls Try.prog 20 #[.pointer none] w fun e w' => e = .returned (.bool false) ∧ w = w' := by
  go_enter Try.func20, Try.ntmps20
  go_wp2
  go_ret
  exact ⟨rfl, rfl⟩
/-- No poll: none, or of no nodes. -/
def NoPoll (w : World) (p : Option Addr) : Prop := p = none ∨ ∃ b, p = some ⟨b, 0, none⟩ ∧ w.cell? ⟨b, 0, none⟩ = some (.int .i64 0)
theorem NoPoll.fr {w w' : World} {p : Option Addr} (h : NoPoll w p) (hF : Fr No w w') : NoPoll w' p := by
  rcases h with h | ⟨b, h1, h2⟩
  · exact .inl h
  · exact .inr ⟨b, h1, hF.cell h2 fun x => x⟩
theorem there_void {w : World} {p : Option Addr} (h : NoPoll w p) :
    Calls Try.prog 20 #[.pointer p] w fun e w' => e = .returned (.bool false) ∧ w = w' := by
  rcases h with rfl | ⟨b, rfl, h⟩
  · exact there_nil w
  · exact there_int b 0 w h
set_option maxHeartbeats 400000 in
theorem say_void {w : World} {p : Option Addr} (h : NoPoll w p) (k : Int) (y : Bool) :
    Calls Try.prog 11 #[.pointer p, .int .u8 k, .bool y] w fun e w' => e = .returned (.bool false) ∧ w = w' := by
  have H := Lib.hid h
  clear h
  go_enter Try.func11, Try.ntmps11
  go_wp2_with (go_at_call 20; refine (there_void H.out).mono ?_; rintro e w' ⟨rfl, rfl⟩)
  go_ret
  exact ⟨rfl, rfl⟩
set_option maxHeartbeats 400000 in
theorem many_void {w : World} {p : Option Addr} (h : NoPoll w p) (k : Int) :
    Calls Try.prog 21 #[.pointer p, .int .u8 k] w fun e w' => e = .returned (.int .i64 0) ∧ w = w' := by
  have H := Lib.hid h
  clear h
  go_enter Try.func21, Try.ntmps21
  go_wp2_with (go_at_call 20; refine (there_void H.out).mono ?_; rintro e w' ⟨rfl, rfl⟩)
  go_ret
  exact ⟨rfl, rfl⟩
set_option maxHeartbeats 400000 in
theorem yes_void {w : World} {p : Option Addr} (h : NoPoll w p) :
    Calls Try.prog 13 #[.pointer p] w fun e w' => e = .returned (.int .i64 0) ∧ w = w' := by
  have H := Lib.hid h
  clear h
  go_enter Try.func13, Try.ntmps13
  go_wp2_with (go_at_call 21; refine (many_void H.out _).mono ?_; rintro e w' ⟨rfl, rfl⟩)
  go_ret
  exact ⟨rfl, rfl⟩
set_option maxHeartbeats 400000 in
theorem won_void {R : Ending → World → Prop} {w : World} {p : Option Addr} (h : NoPoll w p) (hR : ∀ m, R (.returned (.bool false)) (w.drewN m)) :
    Calls Try.prog 15 #[.pointer p] w R := by
  have H := Lib.hid h
  have HR := Lib.hid hR
  clear h hR
  go_enter Try.func15, Try.ntmps15
  go_wp2
  go_quiet ((go_at_call 20; exact Calls.quiet_of_same (flip (there_void (H.out.fr (Fr.drewN No _ _))))))
  go_wp2
  exact HR.out _
set_option maxHeartbeats 400000 in
theorem lost_void {R : Ending → World → Prop} {w : World} {p : Option Addr} (h : NoPoll w p) (hR : ∀ m, R (.returned (.bool false)) (w.drewN m)) :
    Calls Try.prog 16 #[.pointer p] w R := by
  have H := Lib.hid h
  have HR := Lib.hid hR
  clear h hR
  go_enter Try.func16, Try.ntmps16
  go_wp2
  go_quiet ((go_at_call 20; exact Calls.quiet_of_same (flip (there_void (H.out.fr (Fr.drewN No _ _))))))
  go_wp2
  exact HR.out _
theorem won_void_quiet {w : World} {p : Option Addr} (h : NoPoll w p) :
    Calls Try.prog 15 #[.pointer p] w fun e w' => e = .returned (.bool false) ∧ ∃ m, w' = w.drewN m := won_void h fun m => ⟨rfl, m, rfl⟩
theorem lost_void_quiet {w : World} {p : Option Addr} (h : NoPoll w p) :
    Calls Try.prog 16 #[.pointer p] w fun e w' => e = .returned (.bool false) ∧ ∃ m, w' = w.drewN m := lost_void h fun m => ⟨rfl, m, rfl⟩
end Go.Proofs.Ytcpaphcodhlggaa
