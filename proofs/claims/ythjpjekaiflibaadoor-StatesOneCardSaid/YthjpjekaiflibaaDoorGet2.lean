/- sums.Ends, slices.ContainsFunc. -/
import Derived.Test.YthjpjekaiflibaaDoorGet
namespace Go.Proofs.YthjpjekaiflibaaDoor
open Go.RowKit
def endsD (bs : List UInt8) : Bool := decide (4 ≤ bs.length) && decide (bs.drop (bs.length - 4) = fourD (crc 0 (bs.take (bs.length - 4))))
set_option maxRecDepth 100000 in
set_option maxHeartbeats 4000000 in
theorem ends_any {R : Ending → World → Prop} (v : Value) (g : Option Nat) (bs : List UInt8) (w : World) (hT : Tab w) (h : Bs w v g bs)
    (hR : ∀ w', Fr No w w' → R (.returned (.bool (endsD bs))) w') :
    Calls Tryd.prog 107 #[v] w R := by
  have HR := Lib.hid hR
  have H := Lib.hid h
  have HT := Lib.hid hT
  obtain ⟨p, c, rfl, _⟩ := Src.form h
  have hm := Src.len_le h
  have hl : bs.length ≤ 9223372036854775807 := by unfold maxLen at hm; omega
  clear hR h hm hT
  by_cases h4 : bs.length < 4
  · have j4 : (bs.length : Int) < 4 := by omega
    have h3 := HR.out _ (Fr.refl No w)
    rw [show endsD bs = false by simp [endsD]; omega] at h3
    have HR3 := Lib.hid h3
    clear h3
    go_enter Tryd.func107, Tryd.ntmps107
    go_wp2_with fail
    exact HR3.out
  · obtain ⟨m, hm⟩ : ∃ m, bs.length = m + 4 := ⟨bs.length - 4, by omega⟩
    have HM := Lib.hid hm
    have hs : endsD bs = decide (bs.drop m = fourD (crc 0 (bs.take m))) := by
      unfold endsD
      rw [show bs.length - 4 = m by omega, decide_eq_true (show 4 ≤ bs.length by omega), Bool.true_and]
    rw [hs] at HR
    obtain ⟨b, o, rfl⟩ := H.out.addr (by omega)
    have e1 : (bs.drop m).take 4 = bs.drop m := List.take_of_length_le (by simp; omega)
    have e2 : (bs.drop 0).take m = bs.take m := by simp
    have hcm : ¬ c = m := by omega
    have hc0 : ¬ c = 0 := by omega
    have hmc : (m : Int) ≤ (c : Int) := by omega
    have HA := Lib.hid (H.out.part m 4 (c' := c - m) (by omega) (by omega) (by omega))
    have HB := Lib.hid (H.out.part 0 m (c' := c) (by omega) (by omega) (by omega))
    rw [e1] at HA
    rw [e2] at HB
    clear e1 e2 hs
    rw [hm] at hl ⊢
    clear hm h4
    go_enter Tryd.func107, Tryd.ntmps107
    go_wp2_with fail
    go_region_with (first
      | (go_at_call 125; refine equal_any _ _ g g1 (bs.drop m) _ _ (HA.out.fr F1.out fun _ _ x => x) G1.out.src ?_; intro w2 h2; have F2 := Lib.hid h2; clear h2)
      | (go_at_call 110; refine four_any _ _ (crc_small 0 (bs.take m)) ?_; intro v1 g1 w1 k1 k2 k3; obtain ⟨p1, q1, rfl, _⟩ := Sl.form k1; have G1 := Lib.hid k1; have F1 := Lib.hid ((Fr.drew No w).trans k2); clear k1 k2 k3)
      | (go_at_call 111; refine of_any _ g (bs.take m) _ (HT.out.fr (Fr.drew No w) fun x => x) (HB.out.fr (Fr.drew No w) fun _ _ x => x) ?_))
    all_goals
      go_wp2_with fail
      go_ret
      exact HR.out _ (F1.out.trans F2.out)
set_option maxRecDepth 100000 in
set_option maxHeartbeats 4000000 in
theorem low_any (x : UInt8) (w : World) : Calls Tryd.prog 124 #[.int .u8 (x.toNat : Int)] w fun e w' => e = .returned (.bool (decide ((x.toNat : Int) < 128))) ∧ w = w' := by
  go_enter Tryd.func124, Tryd.ntmps124
  go_wp2_with fail
  go_ret
  exact ⟨rfl, rfl⟩
def IndexRel (w : World) (bs : List UInt8) (i : Value) (w' : World) : Prop := ∃ k : Nat, i = .int .i64 k ∧ k ≤ bs.length ∧ (bs.take k).any (fun c => decide (c.toNat < 128)) = false ∧ w' = w
set_option maxRecDepth 100000 in
set_option maxHeartbeats 4000000 in
theorem index_any {R : Ending → World → Prop} (v : Value) (g : Option Nat) (bs : List UInt8) (w : World) (h : Bs w v g bs)
    (hR : ∀ i : Int, -1 ≤ i → decide (0 ≤ i) = bs.any (fun c => decide (c.toNat < 128)) → R (.returned (.int .i64 i)) w) :
    Calls Tryd.prog 146 #[v, .func (.func 124) #[] #[]] w R := by
  have HR := Lib.hid hR
  have H := Lib.hid h
  obtain ⟨p, c, rfl, _⟩ := Src.form h
  have hm := Src.len_le h
  have hl : bs.length ≤ 9223372036854775807 := by unfold maxLen at hm; omega
  clear hR h hm
  go_enter Tryd.func146, Tryd.ntmps146
  go_wp2_with fail
  go_loopw [5, 8] (fun _ i wr => IndexRel w bs i wr) (fun _ i _ => bs.length - (intOf i).toNat)
  case atStart => exact ⟨0, rfl, by omega, rfl, rfl⟩
  case round =>
    obtain ⟨k, rfl, hk, hany, rfl⟩ := hrel
    by_cases hlt : k < bs.length
    · obtain ⟨b, o, rfl, e1⟩ := H.out.at hlt
      have t1 := List.take_succ_eq_append_getElem hlt
      have m1 : bs[k] ∈ bs := List.getElem_mem hlt
      generalize bs[k] = x at *
      have ik0 : (0 : Int) ≤ (k : Int) := by omega
      have il : (k : Int) < (bs.length : Int) := by omega
      have HM := Lib.hid m1
      have HA := Lib.hid hany
      have HT := Lib.hid t1
      clear hany t1 m1
      by_cases hx : x.toNat < 128
      · have hd : decide ((x.toNat : Int) < 128) = true := by simp; omega
        have hb : bs.any (fun c => decide (c.toNat < 128)) = true := List.any_eq_true.2 ⟨x, HM.out, by simpa using hx⟩
        have HR3 := Lib.hid (HR.out k (by omega) (by rw [hb]; simp))
        have hlow := low_any x
        rw [hd] at hlow
        have HLOW := Lib.hid hlow
        clear hb hlow hd hx
        go_wp2_with (go_at_call 124; refine (HLOW.out _).mono ?_; rintro e w' ⟨rfl, rfl⟩)
        exact HR3.out
      · have hd : decide ((x.toNat : Int) < 128) = false := by simp; omega
        have HAN := Lib.hid (show (bs.take (k + 1)).any (fun c => decide (c.toNat < 128)) = false by rw [HT.out, List.any_append, HA.out]; simp; omega)
        have hlow := low_any x
        rw [hd] at hlow
        have HLOW := Lib.hid hlow
        clear hlow hd hx
        go_wp2_with (go_at_call 124; refine (HLOW.out _).mono ?_; rintro e w' ⟨rfl, rfl⟩)
        exact ⟨⟨k + 1, by go_num, by omega, HAN.out, rfl⟩, by simp [intOf]; omega⟩
    · have hkl : k = bs.length := by omega
      subst hkl
      rw [List.take_length] at hany
      have HR3 := Lib.hid (HR.out (-1) (by omega) (by rw [hany]; decide))
      clear hany
      go_wp2_with fail
      exact HR3.out
set_option maxRecDepth 100000 in
set_option maxHeartbeats 4000000 in
theorem contains_any {R : Ending → World → Prop} (v : Value) (g : Option Nat) (bs : List UInt8) (w : World) (h : Bs w v g bs)
    (hR : R (.returned (.bool (bs.any (fun c => decide (c.toNat < 128))))) w) :
    Calls Tryd.prog 123 #[v, .func (.func 124) #[] #[]] w R := by
  have HR := Lib.hid hR
  have H := Lib.hid h
  clear hR h
  go_enter Tryd.func123, Tryd.ntmps123
  go_wp2_with (go_at_call 146; refine index_any _ g bs _ H.out ?_; intro i hi hd; rw [← hd] at HR; clear hd)
  exact HR.out
end Go.Proofs.YthjpjekaiflibaaDoor
