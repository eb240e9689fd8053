/- Package disks: New, there, asked, burns. -/
import Derived.Test.YthjpjekaiflibaaMap
import Derived.Test.YthjpjekaiflibaaProg
namespace Go.Proofs.Ythjpjekaiflibaa
open Go.RowKit

theorem uMap : Try.prog.underlying 45 = some (.map 9 55) := by kernel_rfl
theorem uStr : Try.prog.underlying 9 = some .string := by kernel_rfl
theorem uPf : Try.prog.underlying 55 = some (.pointer 59) := by kernel_rfl
theorem zPf (w : World) : (zeroValue 55).run Try.prog w = .ok (.pointer none) w := by kernel_rfl

set_option maxHeartbeats 400000 in
theorem there_nil (w : World) :
    Calls Try.prog 21 #[.pointer none] w fun e w' => e = .returned (.bool false) ∧ w = w' := by
  go_enter Try.func21, Try.ntmps21
  go_wp2
  go_ret
  exact ⟨rfl, rfl⟩
set_option maxHeartbeats 400000 in
theorem there_zero (b : Nat) (w : World) (h : w.cell? ⟨b, 0, none⟩ = some (.map none)) :
    Calls Try.prog 21 #[.pointer (some ⟨b, 0, none⟩)] w fun e w' => e = .returned (.bool false) ∧ w = w' := by
  have qT := fun (w : World) (r : Option Nat) => Go.run_neq_map_nil (P := Try.prog) w _ _ _ r uMap
  go_enter Try.func21, Try.ntmps21
  go_wp2
  go_ret
  exact ⟨rfl, rfl⟩
set_option maxHeartbeats 400000 in
theorem there_at (b mb : Nat) (w : World) (h : w.cell? ⟨b, 0, none⟩ = some (.map (some mb))) :
    Calls Try.prog 21 #[.pointer (some ⟨b, 0, none⟩)] w fun e w' => e = .returned (.bool true) ∧ w = w' := by
  have qT := fun (w : World) (r : Option Nat) => Go.run_neq_map_nil (P := Try.prog) w _ _ _ r uMap
  go_enter Try.func21, Try.ntmps21
  go_wp2
  go_ret
  exact ⟨rfl, rfl⟩
set_option maxHeartbeats 400000 in
theorem new_any (w : World) :
    Calls Try.prog 7 #[] w fun e w' => e = .returned (.pointer (some ⟨w.heap.size + 1, 0, none⟩)) ∧ w' = (w.alloc (.map #[] 0)).alloc (.cells #[.map (some w.heap.size), .int .i64 (-1), .bool false] 47) := by
  have hmm := @run_makeMap Try.prog
  go_enter Try.func7, Try.ntmps7
  go_wp2
  go_ret
  exact ⟨rfl, rfl⟩
/-- What 'asked' answers. -/
def askedE (dead : Bool) (s : ByteArray) : Int := if dead = true then 17 else if s.toList = [] ∨ 16 < s.size then 1 else 0
set_option maxHeartbeats 400000 in
theorem asked_any (b mb : Nat) (dead : Bool) (s : ByteArray) (w : World) (h : w.cell? ⟨b, 0, none⟩ = some (.map (some mb))) (h2 : w.cell? ⟨b, 2, none⟩ = some (.bool dead)) :
    Calls Try.prog 25 #[.pointer (some ⟨b, 0, none⟩), .string s] w fun e w' => e = .returned (.int .i64 (askedE dead s)) ∧ w = w' := by
  cases dead
  · by_cases h3 : s.toList = []
    · go_enter Try.func25, Try.ntmps25
      go_wp2_with (go_at_call 21; refine (there_at _ _ _ h).mono ?_; rintro e w' ⟨rfl, rfl⟩)
      go_ret
      exact ⟨by simp [askedE, h3], rfl⟩
    · have h4 : s.toList.isEmpty = false := by simpa using h3
      by_cases h5 : 16 < s.size
      · go_enter Try.func25, Try.ntmps25
        go_wp2_with (go_at_call 21; refine (there_at _ _ _ h).mono ?_; rintro e w' ⟨rfl, rfl⟩)
        go_ret
        exact ⟨by simp [askedE, h5], rfl⟩
      · go_enter Try.func25, Try.ntmps25
        go_wp2_with (go_at_call 21; refine (there_at _ _ _ h).mono ?_; rintro e w' ⟨rfl, rfl⟩)
        go_ret
        exact ⟨by simp [askedE, h3, h5], rfl⟩
  · go_enter Try.func25, Try.ntmps25
    go_wp2_with (go_at_call 21; refine (there_at _ _ _ h).mono ?_; rintro e w' ⟨rfl, rfl⟩)
    go_ret
    exact ⟨by simp [askedE], rfl⟩
set_option maxHeartbeats 400000 in
theorem asked_not (p : Option Addr) (w : World) (hp : p = none ∨ ∃ b, p = some ⟨b, 0, none⟩ ∧ w.cell? ⟨b, 0, none⟩ = some (.map none)) (s : ByteArray) :
    Calls Try.prog 25 #[.pointer p, .string s] w fun e w' => e = .returned (.int .i64 2) ∧ w = w' := by
  rcases hp with rfl | ⟨b, rfl, h⟩
  · go_enter Try.func25, Try.ntmps25
    go_wp2_with (go_at_call 21; refine (there_nil _).mono ?_; rintro e w' ⟨rfl, rfl⟩)
    go_ret
    exact ⟨rfl, rfl⟩
  · go_enter Try.func25, Try.ntmps25
    go_wp2_with (go_at_call 21; refine (there_zero _ _ h).mono ?_; rintro e w' ⟨rfl, rfl⟩)
    go_ret
    exact ⟨rfl, rfl⟩
set_option maxHeartbeats 400000 in
theorem burns_out (b : Nat) (w : World) (h : w.cell? ⟨b, 1, none⟩ = some (.int .i64 0)) (h2 : w.cell? ⟨b, 2, none⟩ = some (.bool false)) (hf : w.frozen? ⟨b, 2, none⟩ = false) :
    Calls Try.prog 45 #[.pointer (some ⟨b, 0, none⟩)] w fun e w' => e = .returned (.int .i64 17) ∧ w' = w.setCell ⟨b, 2, none⟩ (.bool true) := by
  go_enter Try.func45, Try.ntmps45
  go_wp2
  go_ret
  exact ⟨rfl, rfl⟩
set_option maxHeartbeats 400000 in
theorem burns_one (b : Nat) (n : Int) (w : World) (h : w.cell? ⟨b, 1, none⟩ = some (.int .i64 n)) (hf : w.frozen? ⟨b, 1, none⟩ = false) (h0 : 0 < n) (h1 : n ≤ 9223372036854775807) :
    Calls Try.prog 45 #[.pointer (some ⟨b, 0, none⟩)] w fun e w' => e = .returned (.int .i64 0) ∧ w' = w.setCell ⟨b, 1, none⟩ (.int .i64 (n - 1)) := by
  go_enter Try.func45, Try.ntmps45
  go_wp2
  go_ret
  exact ⟨rfl, rfl⟩
set_option maxHeartbeats 400000 in
theorem burns_any (b : Nat) (n : Int) (w : World) (h : w.cell? ⟨b, 1, none⟩ = some (.int .i64 n)) (h0 : n < 0) :
    Calls Try.prog 45 #[.pointer (some ⟨b, 0, none⟩)] w fun e w' => e = .returned (.int .i64 0) ∧ w = w' := by
  have : ¬ n = 0 := by omega
  go_enter Try.func45, Try.ntmps45
  go_wp2
  go_ret
  exact ⟨rfl, rfl⟩
end Go.Proofs.Ythjpjekaiflibaa
