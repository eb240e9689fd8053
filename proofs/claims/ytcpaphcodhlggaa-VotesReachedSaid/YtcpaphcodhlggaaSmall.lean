/- slices.Sort of few numbers; Reached of three. -/
import Derived.Test.YtcpaphcodhlggaaIns
import Derived.Test.YtcpaphcodhlggaaIter2
namespace Go.Proofs.Ytcpaphcodhlggaa
open Go.RowKit Go.Sort
def SomeInt (w : World) (e : Ending) (w' : World) : Prop := ∃ q, e = .returned (.int .i64 q) ∧ w = w'
set_option maxHeartbeats 4000000 in
set_option maxRecDepth 100000 in
theorem len_three (w : World) : Calls Try.prog 29 #[.int .u64 3] w (SomeInt w) := by
  go_enter Try.func29, Try.ntmps29
  go_wp2
  go_ret
  exact ⟨_, rfl, rfl⟩
set_option maxRecDepth 100000 in
set_option maxHeartbeats 4000000 in
theorem pdq_few {R : Ending → World → Prop} (blk off cap a b : Nat) (limit : Int) (d : Array Int) (w : World) (hH : Holds encU w blk off d) (hab : a ≤ b) (hb : b ≤ d.size) (h12 : b - a ≤ 12) (hsz : d.size ≤ 1000000)
    (hR : ∀ w', RowAt w blk off (Sort.insertionSort ltInt d a b) w' → R (.returned (.tuple #[])) w') :
    Calls Try.prog 28 #[.slice (some ⟨blk, off, none⟩) d.size cap, .int .i64 a, .int .i64 b, .int .i64 limit] w R := by
  have HR := Lib.hid hR
  have HH := Lib.hid hH
  have ja : ((a : Nat) : Int) ≤ (b : Nat) := by omega
  have jb : ((b : Nat) : Int) ≤ 1000000 := by omega
  have jb2 : ((b : Nat) : Int) ≤ (d.size : Nat) := by omega
  have j12 : ((b : Nat) : Int) - (a : Nat) ≤ 12 := by omega
  clear hR hH
  go_enter Try.func28, Try.ntmps28
  go_wp2
  go_loopw [1, 2, 3] (fun va vb vl wr => va = .int .i64 a ∧ vb = .int .i64 b ∧ vl = .int .i64 limit ∧ wr = w) (fun _ _ _ _ => 0)
  case atStart => exact ⟨rfl, rfl, rfl, rfl⟩
  case round =>
    obtain ⟨rfl, rfl, rfl, rfl⟩ := hrel
    go_wp2_with (go_at_call 30; refine insertion_any _ _ _ _ _ _ _ HH.out hab hb hsz ?_; intro w1 hr1; have HR1 := Lib.hid (HR.out w1 hr1); clear hr1)
    refine bodyPost_ret (results_none rfl _ _ _) rfl ?_
    exact HR1.out
set_option maxRecDepth 100000 in
set_option maxHeartbeats 4000000 in
theorem sort_three {R : Ending → World → Prop} (blk off cap : Nat) (d : Array Int) (w : World) (hH : Holds encU w blk off d) (h3 : d.size = 3)
    (hR : ∀ w', RowAt w blk off (Sort.insertionSort ltInt d 0 3) w' → R (.returned (.tuple #[])) w') :
    Calls Try.prog 25 #[.slice (some ⟨blk, off, none⟩) 3 cap] w R := by
  have hp : ∀ q : Int, Calls Try.prog 28 #[.slice (some ⟨blk, off, none⟩) 3 cap, .int .i64 0, .int .i64 3, .int .i64 q] w fun e w' => e = .returned (.tuple #[]) ∧ RowAt w blk off (Sort.insertionSort ltInt d 0 3) w' := fun q => by
    have := pdq_few (R := fun e w' => e = .returned (.tuple #[]) ∧ RowAt w blk off (Sort.insertionSort ltInt d 0 3) w') blk off cap 0 3 q d w hH (by omega) (by omega) (by omega) (by omega) fun w' h => ⟨rfl, h⟩
    rw [h3] at this
    exact this
  have HR := Lib.hid hR
  have HP := Lib.hid hp
  clear hp hR hH h3
  go_enter Try.func25, Try.ntmps25
  go_wp2_with (first
    | (go_at_call 29; refine (len_three _).mono ?_; rintro e w' ⟨q, rfl, rfl⟩)
    | (go_at_call 28; refine (HP.out _).mono ?_; rintro e w' ⟨rfl, hr1⟩; have HR1 := Lib.hid (HR.out _ hr1); clear hr1))
  go_end0
  exact HR1.out
end Go.Proofs.Ytcpaphcodhlggaa
