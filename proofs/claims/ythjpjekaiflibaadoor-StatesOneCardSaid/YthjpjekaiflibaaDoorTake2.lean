/- Take; a number that was put is got again. -/
import Derived.Test.YthjpjekaiflibaaDoorTake
namespace Go.Proofs.YthjpjekaiflibaaDoor
open Go.RowKit
theorem takeG_num (r : List UInt8) : ∀ (d i acc n : Nat), i + d = 9 → n < 128 ^ d * 2 → (0 < i → 0 < n) → takeG i acc (num n ++ r) = (acc + n * 128 ^ i, i + (num n).length, 0) := by
  intro d
  induction d with
  | zero =>
    intro i acc n hi hn h0
    have hn2 : n < 2 := by simpa using hn
    have hb : (UInt8.ofNat n).toNat = n := by rw [UInt8.toNat_ofNat']; omega
    rw [num_small (by omega), List.singleton_append, takeG, hb, if_neg (by omega), if_neg (by omega), if_pos (by omega), if_neg (by omega)]
    rw [show n % 128 = n by omega]
    rfl
  | succ d ih =>
    intro i acc n hi hn h0
    by_cases hs : n < 128
    · have hb : (UInt8.ofNat n).toNat = n := by rw [UInt8.toNat_ofNat']; omega
      rw [num_small hs, List.singleton_append, takeG, hb, if_neg (by omega), if_neg (by omega), if_pos hs, if_neg (by omega)]
      rw [show n % 128 = n by omega]
      rfl
    · have hb : (UInt8.ofNat (n % 128 + 128)).toNat = n % 128 + 128 := by rw [UInt8.toNat_ofNat']; omega
      rw [num_great (by omega), List.cons_append, takeG, hb, if_neg (by omega), if_neg (by omega), if_neg (by omega)]
      rw [ih (i + 1) _ (n / 128) (by omega) (by rw [Nat.pow_succ] at hn; omega) (fun _ => by omega)]
      have e1 : (n % 128 + 128) % 128 = n % 128 := by omega
      have e2 : n % 128 * 128 ^ i + n / 128 * 128 ^ (i + 1) = n * 128 ^ i := by
        rw [Nat.pow_succ, Nat.mul_comm (128 ^ i) 128, ← Nat.mul_assoc, ← Nat.add_mul]
        congr 1
        omega
      rw [e1, List.length_cons, Nat.add_assoc, e2, show i + 1 + (num (n / 128)).length = i + ((num (n / 128)).length + 1) by omega]
theorem take_num (n : Nat) (hn : n < 18446744073709551616) (r : List UInt8) : takeD (num n ++ r) = (n, (num n).length, 0) := by
  have := takeG_num r 9 0 0 n rfl (by omega) (fun h => absurd h (by omega))
  simpa [takeD] using this
set_option maxRecDepth 100000 in
set_option maxHeartbeats 4000000 in
theorem Take_any {R : Ending → World → Prop} (v : Value) (g : Option Nat) (bs : List UInt8) (w : World) (h : Bs w v g bs)
    (hR : R (.returned (.tuple #[.int .u64 (takeD bs).1, .int .i64 (takeD bs).2.1])) w) :
    Calls Tryd.prog 81 #[v] w R := by
  have HR := Lib.hid hR
  have H := Lib.hid h
  clear hR h
  go_enter Tryd.func81, Tryd.ntmps81
  go_wp2_with (go_at_call 108; refine take_any _ _ _ _ H.out ?_)
  exact HR.out
/-- What take tells fits. -/
theorem takeG_small : ∀ (l : List UInt8) (i acc : Nat), acc < 128 ^ i → i ≤ 10 → (takeG i acc l).1 < 18446744073709551616 ∧ (takeG i acc l).2.1 ≤ 10 ∧ (takeG i acc l).2.1 ≤ i + l.length
  | [], i, acc, _, _ => by unfold takeG; split <;> simp
  | c :: r, i, acc, ha, hi => by
    rw [takeG]
    split
    · simp
    · rename_i h10
      split
      · simp
      · rename_i h9
        split
        · split
          · simp
          · obtain ⟨_, h2, _⟩ := or_place acc c i ha (by omega) (fun e => by omega)
            exact ⟨h2, by dsimp only; omega, by simp only [List.length_cons]; omega⟩
        · rename_i hx
          have hi9 : i < 9 := by
            rcases Nat.lt_or_ge i 9 with h | h
            · exact h
            · have : i = 9 := by omega
              omega
          obtain ⟨_, _, h3⟩ := or_place acc c i ha (by omega) (fun e => by omega)
          have := takeG_small r (i + 1) _ (h3 hi9) (by omega)
          refine ⟨this.1, this.2.1, ?_⟩
          simp only [List.length_cons]
          omega
theorem takeD_small (l : List UInt8) : (takeD l).1 < 18446744073709551616 ∧ (takeD l).2.1 ≤ 10 ∧ (takeD l).2.1 ≤ l.length := by
  have := takeG_small l 0 0 (by decide) (by omega)
  simpa [takeD] using this
end Go.Proofs.YthjpjekaiflibaaDoor
