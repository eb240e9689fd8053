/- Numbers as bytes: Num, as the model has it. -/
import Derived.Test.YthjpjekaiflibaaDoorLit
namespace Go.Proofs.YthjpjekaiflibaaDoor
open Go.RowKit
/-- A number's bytes. -/
def num (n : Nat) : List UInt8 := if n < 128 then [UInt8.ofNat n] else UInt8.ofNat (n % 128 + 128) :: num (n / 128)
termination_by n
decreasing_by omega
theorem num_small {n : Nat} (h : n < 128) : num n = [UInt8.ofNat n] := by rw [num, if_pos h]
theorem num_great {n : Nat} (h : 128 ≤ n) : num n = UInt8.ofNat (n % 128 + 128) :: num (n / 128) := by rw [num, if_neg (by omega)]
theorem num_length (k : Nat) : ∀ n, n < 128 ^ (k + 1) → (num n).length ≤ k + 1 := by
  induction k with
  | zero => intro n h; rw [num_small (by omega)]; simp
  | succ k ih =>
    intro n h
    by_cases hn : n < 128
    · rw [num_small hn]; simp
    · rw [num_great (by omega)]
      have := ih (n / 128) (by rw [Nat.pow_succ] at h; omega)
      simp; omega
theorem num_ten {n : Nat} (h : n < 18446744073709551616) : (num n).length ≤ 10 := num_length 9 n (by omega)
theorem num_pos (n : Nat) : 1 ≤ (num n).length := by
  by_cases h : n < 128
  · rw [num_small h]; simp
  · rw [num_great (by omega)]; simp
def NumRel (w : World) (goal : List UInt8) (n out : Value) (w' : World) : Prop :=
  ∃ (m : Nat) (xs : List UInt8) (p : Option Addr) (c : Nat) (g : Option Nat), n = .int .u64 m ∧ m < 18446744073709551616 ∧ out = .slice p xs.length c ∧ By w' (.slice p xs.length c) g xs ∧ xs ++ num m = goal ∧ Fr No w w' ∧ New w g
def natOf : Value → Nat
  | .int _ n => n.toNat
  | _ => 0
theorem or_high (m : Nat) : bits .or .u8 ((m : Int) % 256) 128 = ((m % 128 + 128 : Nat) : Int) := by
  have h : ∀ x : Fin 256, bits .or .u8 ((x.val : Nat) : Int) 128 = ((x.val % 128 + 128 : Nat) : Int) := by decide +kernel
  have := h ⟨m % 256, by omega⟩
  dsimp only at this
  rw [show ((m : Int) % 256) = ((m % 256 : Nat) : Int) by omega, this]
  omega
/-- One byte more, as append is handed it. -/
theorem one_src (w : World) (x : Int) (b : UInt8) (hx : x = (b.toNat : Int)) : Src (w.alloc (.cells #[.int .u8 x] 5)) 1 (.slice (some ⟨w.heap.size, 0, none⟩) 1 1) (some w.heap.size) 1 ([b].map encB) := by
  subst hx
  exact (By.lit w [b] (by simp [maxLen])).src
set_option maxRecDepth 100000 in
set_option maxHeartbeats 4000000 in
theorem num_any {R : Ending → World → Prop} (v : Value) (g : Option Nat) (bs : List UInt8) (n : Nat) (w : World) (h : Bs w v g bs) (hmax : bs.length ≤ 140737488355000) (hn : n < 18446744073709551616)
    (hR : ∀ v' g' w', By w' v' g' (bs ++ num n) → Fr No w w' → New w g' → R (.returned v') w') :
    Calls Tryd.prog 46 #[v, .int .u64 n] w R := by
  have HR := Lib.hid hR
  have H := Lib.hid h
  clear hR h
  obtain ⟨i0, hi, hz0, hz1, hz2⟩ := info_parts info8
  go_enter Tryd.func46, Tryd.ntmps46
  go_wp2_with (first
    | (go_at_call 71; refine clone_any _ _ _ _ H.out (by omega) ?_; intro v1 g1 w1 h1 h2 h3 h4; have H1 := Lib.hid h1; have H2 := Lib.hid h2; have H3 := Lib.hid h3; clear h2 h3 h4; obtain ⟨p1, c1, rfl, _⟩ := Sl.form h1; clear h1))
  have hten := num_ten hn
  go_loopw [1, 5] (fun i o wr => NumRel w (bs ++ num n) i o wr) (fun i _ _ => natOf i)
  case atStart => exact ⟨n, bs, p1, c1, g1, rfl, hn, rfl, H1.out, rfl, H2.out, H3.out⟩
  case round =>
    obtain ⟨m, xs, p, c, gx, rfl, hm, rfl, hby, hxs, hF, hN⟩ := hrel
    have HBY := Lib.hid hby
    have HXS := Lib.hid hxs
    have HF := Lib.hid hF
    have HN := Lib.hid hN
    have hlen : xs.length + (num m).length = bs.length + (num n).length := by rw [← List.length_append, hxs, List.length_append]
    have hpos := num_pos m
    clear hby hxs hF hN
    have b1 : xs.length + 1 ≤ maxLen := by unfold maxLen; omega
    have b2 : (xs.length + 1) * 1 ≤ 140737488355328 := by omega
    by_cases hlt : m < 128
    · have jl : (m : Int) < 128 := by omega
      have HB2 := Lib.hid (show (m : Int) = ((UInt8.ofNat m).toNat : Int) by rw [UInt8.toNat_ofNat']; omega)
      have hS := Lib.hid (HBY.out.fr (Fr.alloc No wr (.cells #[.int .u8 m] 5)) fun _ _ x => x)
      go_wp2_with (first
        | (at_builtin; refine wpList_appendSl _ rfl _ _ 38 rfl 5 i0 (.int .u8 0) 1 1 uBytes hi hz0 hz1 hz2 rfl (by omega) _ _ _ _ rfl hS.out _ _ _ _ rfl (one_src wr m _ HB2.out) (encB_one _) b1 b2 ?_; intro p' c' g' w' h1 h2 h3; have K1 := Lib.hid h1; have K2 := Lib.hid h2; have K3 := Lib.hid h3; clear h1 h2 h3)
        | (go_at_call 79; refine clip_any _ _ (xs ++ [UInt8.ofNat m]) _ (by have := K1.out; simpa [By] using this) ?_; intro v' h1 _; have K4 := Lib.hid h1; clear h1))
      refine HR.out v' g' w' ?_ (HF.out.step ((Fr.alloc (Is gx) wr _).trans K2.out) fun i hi e => ?_) ?_
      · have h9 := K4.out
        rw [← num_small hlt, HXS.out] at h9
        exact h9
      · have := HN.out i e
        omega
      · rcases K3.out with e | ⟨e, _⟩
        · rw [e]; exact HN.out
        · intro k hk
          rw [e] at hk
          cases hk
          have := HF.out.size
          simp; omega
    · have jl : (128 : Int) ≤ (m : Int) := by omega
      have hor := or_high m
      have HB2 := Lib.hid (show ((m % 128 + 128 : Nat) : Int) = ((UInt8.ofNat (m % 128 + 128)).toNat : Int) by rw [UInt8.toNat_ofNat']; omega)
      have hS := Lib.hid (HBY.out.fr (Fr.alloc No wr (.cells #[.int .u8 (m % 128 + 128 : Nat)] 5)) fun _ _ x => x)
      go_wp2_with (first
        | (at_builtin; refine wpList_appendSl _ rfl _ _ 38 rfl 5 i0 (.int .u8 0) 1 1 uBytes hi hz0 hz1 hz2 rfl (by omega) _ _ _ _ rfl hS.out _ _ _ _ rfl (one_src wr _ _ HB2.out) (encB_one _) b1 b2 ?_; intro p' c' g' w' h1 h2 h3; have K1 := Lib.hid h1; have K2 := Lib.hid h2; have K3 := Lib.hid h3; clear h1 h2 h3))
      have hg := num_great (n := m) (by omega)
      refine ⟨⟨m / 128, xs ++ [UInt8.ofNat (m % 128 + 128)], p', c', g', by go_num, by omega, by simp, by have := K1.out; simpa [By] using this, ?_, HF.out.step ((Fr.alloc (Is gx) wr _).trans K2.out) fun i hi e => ?_, ?_⟩, by simp [natOf]; omega⟩
      · rw [← HXS.out, hg]
        simp
      · have := HN.out i e
        omega
      · rcases K3.out with e | ⟨e, _⟩
        · rw [e]; exact HN.out
        · intro k hk
          rw [e] at hk
          cases hk
          have := HF.out.size
          simp; omega
end Go.Proofs.YthjpjekaiflibaaDoor
