/- Numbers out of bytes: take, Take. -/
import Derived.Test.YthjpjekaiflibaaDoorNum
import Derived.Laws.BitsAllLaws
namespace Go.Proofs.YthjpjekaiflibaaDoor
open Go.RowKit
/-- What take makes of bytes, from place i on. -/
def takeG : Nat → Nat → List UInt8 → Nat × Nat × Nat
  | i, _, [] => if 10 ≤ i then (0, 0, 4) else (0, 0, 5)
  | i, acc, c :: r =>
    if 10 ≤ i then (0, 0, 4)
    else if i = 9 ∧ 1 < c.toNat then (0, 0, 4)
    else if c.toNat < 128 then (if c.toNat = 0 ∧ 0 < i then (0, 0, 4) else (acc + c.toNat % 128 * 128 ^ i, i + 1, 0))
    else takeG (i + 1) (acc + c.toNat % 128 * 128 ^ i) r
def takeD (bs : List UInt8) : Nat × Nat × Nat := takeG 0 0 bs
def TakeRel (w : World) (bs : List UInt8) (n i : Value) (w' : World) : Prop :=
  ∃ (k acc : Nat), n = .int .u64 acc ∧ i = .int .i64 k ∧ k ≤ 10 ∧ k ≤ bs.length ∧ acc < 128 ^ k ∧ takeD bs = takeG k acc (bs.drop k) ∧ w' = w
theorem low_seven (c : UInt8) : bits .andNot .u8 (c.toNat : Int) 128 = ((c.toNat % 128 : Nat) : Int) := by
  have h : ∀ x : Fin 256, bits .andNot .u8 ((x.val : Nat) : Int) 128 = ((x.val % 128 : Nat) : Int) := by decide +kernel
  exact h ⟨c.toNat, c.toNat_lt⟩
theorem or_place (acc : Nat) (x : UInt8) (k : Nat) (hacc : acc < 128 ^ k) (hk : k < 10) (h9 : k = 9 → x.toNat ≤ 1) :
    bits .or .u64 (acc : Int) (IntKind.u64.wrap ((x.toNat : Int) % 128 * 2 ^ (7 * k))) = ((acc + x.toNat % 128 * 128 ^ k : Nat) : Int) ∧ acc + x.toNat % 128 * 128 ^ k < 18446744073709551616 ∧ (k < 9 → acc + x.toNat % 128 * 128 ^ k < 128 ^ (k + 1)) := by
  have hp : (2 : Nat) ^ (7 * k) = 128 ^ k := by rw [Nat.pow_mul]
  have hm : x.toNat % 128 < 128 := Nat.mod_lt _ (by decide)
  have h8 : k < 9 → acc + x.toNat % 128 * 128 ^ k < 128 ^ (k + 1) := fun _ => by
    have : x.toNat % 128 * 128 ^ k ≤ 127 * 128 ^ k := Nat.mul_le_mul_right _ (by omega)
    rw [Nat.pow_succ]
    omega
  have hlt : acc + x.toNat % 128 * 128 ^ k < 18446744073709551616 := by
    by_cases h : k = 9
    · subst h
      have h1 := h9 rfl
      have : x.toNat % 128 * 128 ^ 9 ≤ 1 * 128 ^ 9 := Nat.mul_le_mul_right _ (by omega)
      have e : (128 : Nat) ^ 9 = 9223372036854775808 := by decide
      rw [e] at hacc this ⊢
      omega
    · have h1 := h8 (by omega)
      have h2 : (128 : Nat) ^ (k + 1) ≤ 128 ^ 9 := Nat.pow_le_pow_right (by decide) (by omega)
      have e : (128 : Nat) ^ 9 = 9223372036854775808 := by decide
      omega
  refine ⟨?_, hlt, h8⟩
  have e1 : ((x.toNat : Int) % 128 * 2 ^ (7 * k)) = ((x.toNat % 128 * 128 ^ k : Nat) : Int) := by
    rw [← hp]
    push_cast
    rfl
  rw [e1, IntWalk.u64_in _ (by omega), Go.u64_or_nat _ _ (by omega) (by omega)]
  congr 1
  have h3 := Nat.shiftLeft_add_eq_or_of_lt (i := 7 * k) (b := acc) (by rw [hp]; exact hacc) (x.toNat % 128)
  rw [Nat.shiftLeft_eq, hp] at h3
  rw [Nat.or_comm, ← h3, Nat.add_comm]
set_option maxRecDepth 100000 in
set_option maxHeartbeats 4000000 in
theorem take_any {R : Ending → World → Prop} (v : Value) (g : Option Nat) (bs : List UInt8) (w : World) (h : Bs w v g bs)
    (hR : R (.returned (.tuple #[.int .u64 (takeD bs).1, .int .i64 (takeD bs).2.1, .int .i64 (takeD bs).2.2])) w) :
    Calls Tryd.prog 108 #[v] w R := by
  have HR := Lib.hid hR
  have H := Lib.hid h
  obtain ⟨p, c, rfl, hpc⟩ := Src.form h
  have hmx := Src.len_le h
  have hlen : bs.length ≤ 9223372036854775807 := by unfold maxLen at hmx; omega
  clear hR h hmx
  go_enter Tryd.func108, Tryd.ntmps108
  go_wp2_with fail
  go_loopw [2, 7] (fun n i wr => TakeRel w bs n i wr) (fun _ i _ => 20 - (intOf i).toNat)
  case atStart => exact ⟨0, 0, rfl, rfl, by omega, by omega, by omega, rfl, rfl⟩
  case round =>
    obtain ⟨k, acc, rfl, rfl, hk, hkl, hacc, heq, rfl⟩ := hrel
    have HE := Lib.hid heq
    clear heq
    by_cases h10 : k < 10
    · by_cases hl : k < bs.length
      · have ik : (k : Int) < 10 := by omega
        have ik0 : (0 : Int) ≤ (k : Int) := by omega
        have il : (k : Int) < (bs.length : Int) := by omega
        obtain ⟨b, o, rfl, hcell⟩ : ∃ b o, p = some ⟨b, o, none⟩ ∧ wr.cell? ⟨b, o + k, none⟩ = some (.int .u8 (bs[k].toNat : Int)) := by
          obtain ⟨_, p', c', e, _, _, _, h0 | ⟨b, o, e1, _, hc⟩⟩ := H.out
          · omega
          · refine ⟨b, o, ?_, hc k (encB bs[k]) (by simp [hl])⟩
            have : p = p' ∧ c = c' := by simpa using e
            exact this.1.trans e1
        have hdrop := List.drop_eq_getElem_cons hl
        generalize hx : bs[k] = x at hcell hdrop
        have h7 := low_seven x
        have hx0 : (x.toNat : Int) < 256 := by have := x.toNat_lt; omega
        rw [hdrop] at HE
        have HX := Lib.hid hx
        clear hdrop hx
        by_cases h9 : k = 9
        · subst h9
          by_cases hbad : 1 < x.toNat
          · have ib : (1 : Int) < (x.toNat : Int) := by omega
            have hr : takeD bs = (0, 0, 4) := by rw [HE.out, takeG, if_neg (by omega), if_pos ⟨rfl, hbad⟩]
            rw [hr] at HR
            go_wp2_with fail
            go_ret3
            exact HR.out
          · obtain ⟨hor, hlt, _⟩ := or_place acc x 9 hacc (by omega) (fun _ => by omega)
            have x1 : (x.toNat : Int) ≤ 1 := by omega
            have x2 : (x.toNat : Int) < 128 := by omega
            by_cases h0 : x.toNat = 0
            · have hr : takeD bs = (0, 0, 4) := by rw [HE.out, takeG, if_neg (by omega), if_neg (by omega), if_pos (by omega), if_pos ⟨h0, by omega⟩]
              rw [hr] at HR
              have x3 : (x.toNat : Int) = 0 := by omega
              clear hor
              go_wp2_with fail
              go_ret3
              exact HR.out
            · have hr : takeD bs = (acc + x.toNat % 128 * 128 ^ 9, 10, 0) := by rw [HE.out, takeG, if_neg (by omega), if_neg (by omega), if_pos (by omega), if_neg (by omega)]
              rw [hr] at HR
              have x3 : ¬ (x.toNat : Int) = 0 := by omega
              rw [show (2 : Int) ^ (7 * 9) = 9223372036854775808 by decide, IntWalk.u64_in _ (by omega)] at hor
              go_wp2_with fail
              go_ret3
              exact HR.out
        · have i9 : ¬ (k : Int) = 9 := by omega
          have i9b : ((k : Int) == 9) = false := by simp; omega
          obtain ⟨hor, hlt, hnx⟩ := or_place acc x k hacc (by omega) (fun e => absurd e h9)
          have hnx := hnx (by omega)
          by_cases hx128 : x.toNat < 128
          · have x2 : (x.toNat : Int) < 128 := by omega
            by_cases h0 : x.toNat = 0
            · have x3 : (x.toNat : Int) = 0 := by omega
              by_cases hk0 : 0 < k
              · have hr : takeD bs = (0, 0, 4) := by rw [HE.out, takeG, if_neg (by omega), if_neg (by omega), if_pos (by omega), if_pos ⟨h0, by omega⟩]
                rw [hr] at HR
                have j0 : (0 : Int) < (k : Int) := by omega
                clear hor
                go_wp2_with fail
                go_ret3
                exact HR.out
              · have hk00 : k = 0 := by omega
                subst hk00
                have hr : takeD bs = (acc + x.toNat % 128 * 128 ^ 0, 1, 0) := by rw [HE.out, takeG, if_neg (by omega), if_neg (by omega), if_pos (by omega), if_neg (by omega)]
                rw [hr] at HR
                have hacc0 : acc = 0 := by simpa using hacc
                subst hacc0
                rw [h0] at hor HR h7 hcell
                have il0 : (0 : Int) < (bs.length : Int) := by omega
                have hne : ¬ bs.length = 0 := by omega
                have hnl : ¬ bs = [] := fun e => hne (by rw [e]; rfl)
                have hc0 : wr.cell? ⟨b, o, none⟩ = some (.int .u8 0) := by simpa using hcell
                have h70 : bits .andNot .u8 0 128 = 0 := by decide +kernel
                have ho0 : bits .or .u64 0 0 = 0 := by decide +kernel
                have how : bits .or .u64 0 (IntKind.u64.wrap 0) = 0 := by decide +kernel
                have HR2 := Lib.hid (show R (.returned (.tuple #[.int .u64 0, .int .i64 1, .int .i64 0])) wr from HR.out)
                clear ik ik0 il i9 i9b hkl hk h10 hlt hnx h9 hr h0 x2 x3 hx128 hx0 hk0 hcell h7 hor HR HE hacc hl HX
                go_wp2_with fail
                go_ret3
                exact HR2.out
            · have hr : takeD bs = (acc + x.toNat % 128 * 128 ^ k, k + 1, 0) := by rw [HE.out, takeG, if_neg (by omega), if_neg (by omega), if_pos (by omega), if_neg (by omega)]
              rw [hr] at HR
              have x3 : ¬ (x.toNat : Int) = 0 := by omega
              go_wp2_with fail
              go_ret3
              exact HR.out
          · have x2 : (128 : Int) ≤ (x.toNat : Int) := by omega
            have hr : takeD bs = takeG (k + 1) (acc + x.toNat % 128 * 128 ^ k) (bs.drop (k + 1)) := by rw [HE.out, takeG, if_neg (by omega), if_neg (by omega), if_neg (by omega)]
            have HRR := Lib.hid hr
            clear hr
            go_wp2_with fail
            exact ⟨⟨k + 1, _, rfl, by go_num, by omega, by omega, hnx, HRR.out, rfl⟩, by simp [intOf]; omega⟩
      · have ik : (k : Int) < 10 := by omega
        have il : (bs.length : Int) ≤ (k : Int) := by omega
        have hr : takeD bs = (0, 0, 5) := by rw [HE.out, List.drop_eq_nil_of_le (by omega), takeG, if_neg (by omega)]
        rw [hr] at HR
        go_wp2_with fail
        go_ret3
        exact HR.out
    · have ik : (10 : Int) ≤ (k : Int) := by omega
      have hr : takeD bs = (0, 0, 4) := by
        rw [HE.out]
        cases bs.drop k <;> rw [takeG, if_pos (by omega)]
      rw [hr] at HR
      go_wp2_with fail
      go_ret3
      exact HR.out
end Go.Proofs.YthjpjekaiflibaaDoor
