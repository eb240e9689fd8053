/- What most of some numbers reach: the plain law, and the walk. -/
import Derived.Test.YtcpaphcodhlggaaSort22
namespace Go.Proofs.Ytcpaphcodhlggaa
open Go.RowKit
def cntD (p : Int → Bool) (zs : List Int) (k : Nat) : Nat := (zs.take k).countP p
theorem cntD_succ (p : Int → Bool) (zs : List Int) (k : Nat) (h : k < zs.length) : cntD p zs (k + 1) = cntD p zs k + if p zs[k] = true then 1 else 0 := by
  unfold cntD
  rw [← List.take_concat_get h, List.concat_eq_append, List.countP_append, List.countP_singleton]
theorem cntD_le (p : Int → Bool) (zs : List Int) (k : Nat) : cntD p zs k ≤ k := Nat.le_trans List.countP_le_length (List.length_take_le _ _)
theorem cntD_all (p : Int → Bool) (zs : List Int) : cntD p zs zs.length = zs.countP p := by unfold cntD; rw [List.take_length]
def hasD (x : Int) (zs : List Int) (k : Nat) : Bool := decide (x ∈ zs.take k)
theorem hasD_succ (x : Int) (zs : List Int) (k : Nat) (h : k < zs.length) : hasD x zs (k + 1) = (hasD x zs k || decide (zs[k] = x)) := by
  unfold hasD
  rw [← List.take_concat_get h, List.concat_eq_append]
  simp only [List.mem_append, List.mem_singleton, Bool.decide_or]
  congr 1
  exact decide_eq_decide.2 eq_comm
/-- A round: k of the numbers are looked at. -/
def AllRel (w : World) (x : Int) (zs : List Int) (g : Option Nat) (v : Value) (sat sab sis si : Value) (wr : World) : Prop :=
  ∃ k : Nat, si = .int .i64 k ∧ k ≤ zs.length ∧ sat = .int .i64 (cntD (fun y => decide (x ≤ y)) zs k : Nat) ∧ sab = .int .i64 (cntD (fun y => decide (x < y)) zs k : Nat) ∧ sis = .bool (hasD x zs k) ∧ NumsV wr v g zs ∧ Fr No w wr
set_option maxRecDepth 100000 in
set_option maxHeartbeats 4000000 in
theorem all22_in {R : Ending → World → Prop} {w : World} {v : Value} {g : Option Nat} {zs : List Int} (h : NumsV w v g zs) (h0 : zs ≠ []) (hlen : zs.length ≤ 300) (hR : ∀ w', Fr No w w' → R (.returned (.bool true)) w') :
    Calls Try.prog 7 #[v] w R := by
  have HR := Lib.hid hR
  have HV := Lib.hid h
  obtain ⟨b, o, c, rfl, _, _, _, _, _⟩ := h.out h0
  have hpos : 0 < zs.length := List.length_pos_iff.2 h0
  have jl : (zs.length : Int) ≤ 300 := by omega
  have jp : (0 : Int) < (zs.length : Int) := by omega
  have H0 := Lib.hid h0
  clear hR h h0
  go_enter Try.func7, Try.ntmps7
  go_wp2_with (go_at_call 17; refine reached_any HV.out (by omega) ?_; intro x w1 hx hF; have HX := Lib.hid hx; have HF := Lib.hid hF; clear hx hF)
  go_loopw [4, 5, 6, 7] (fun s4 s5 s6 s7 wr => AllRel w x zs g (.slice (some ⟨b, o, none⟩) zs.length c) s4 s5 s6 s7 wr) (fun _ _ _ s7 _ => zs.length - (intOf s7).toNat)
  case atStart => exact ⟨0, rfl, by omega, rfl, rfl, rfl, HV.out.fr HF.out, HF.out⟩
  case round =>
    obtain ⟨k, rfl, hk, rfl, rfl, rfl, hV, hF⟩ := hrel
    have HVk := Lib.hid hV
    have HFk := Lib.hid hF
    have n1 := cntD_le (fun y => decide (x ≤ y)) zs k
    have n2 := cntD_le (fun y => decide (x < y)) zs k
    by_cases hlt : k < zs.length
    · have il : (k : Int) < (zs.length : Int) := by omega
      have e1 := cntD_succ (fun y => decide (x ≤ y)) zs k hlt
      have e2 := cntD_succ (fun y => decide (x < y)) zs k hlt
      have e3 := hasD_succ x zs k hlt
      obtain ⟨b2, o2, c2, ee, _, _, _, _, hc⟩ := HVk.out.out H0.out
      obtain ⟨⟨rfl, rfl⟩, rfl⟩ : (b = b2 ∧ o = o2) ∧ c = c2 := by simpa using ee
      have cz := hc k hlt
      rw [List.getElem?_eq_getElem hlt, Option.getD_some] at cz
      generalize zs[k] = z at cz e1 e2 e3
      have E3 := Lib.hid e3
      have E1 := Lib.hid e1
      have E2 := Lib.hid e2
      clear e1 e2 e3 hc ee hV hF
      generalize cntD (fun y => decide (x ≤ y)) zs k = q1 at *
      generalize cntD (fun y => decide (x < y)) zs k = q2 at *
      generalize hasD x zs k = q3 at *
      have m1 : (q1 : Int) ≤ 300 := by omega
      have m2 : (q2 : Int) ≤ 300 := by omega
      clear n1 n2
      rcases Int.lt_trichotomy x z with hxz | hxz | hxz
      · have i1 : x ≤ z := by omega
        have i2 : ¬ x = z := by omega
        have i4 : (z == x) = false := beq_eq_false_iff_ne.2 (by omega)
        cases q3 <;> go_wp2
        all_goals exact ⟨⟨k + 1, by go_num, by omega, by rw [E1.out]; simp [i1], by rw [E2.out]; simp [hxz], by rw [E3.out, decide_eq_false (show ¬ z = x by omega)]; first | rfl | (rw [i4]; rfl), HVk.out, HFk.out⟩, by simp [intOf]; omega⟩
      · subst hxz
        cases q3 <;> go_wp2
        all_goals exact ⟨⟨k + 1, by go_num, by omega, by rw [E1.out]; simp, by rw [E2.out]; simp, by rw [E3.out]; simp, HVk.out, HFk.out⟩, by simp [intOf]; omega⟩
      · have i1 : ¬ x ≤ z := by omega
        have i2 : ¬ x = z := by omega
        have i4 : (z == x) = false := beq_eq_false_iff_ne.2 (by omega)
        have i3 : ¬ x < z := by omega
        cases q3 <;> go_wp2
        all_goals exact ⟨⟨k + 1, by go_num, by omega, by rw [E1.out]; simp [i1], by rw [E2.out]; simp [i3], by rw [E3.out, decide_eq_false (show ¬ z = x by omega)]; first | rfl | (rw [i4]; rfl), HVk.out, HFk.out⟩, by simp [intOf]; omega⟩
    · have hkl : k = zs.length := by omega
      subst hkl
      have A := HX.out
      rcases A with ⟨A, _⟩ | ⟨_, A⟩
      · exact absurd A H0.out
      have a1 := A.at_
      have a2 := A.ab
      have a3 : hasD x zs zs.length = true := by unfold hasD; rw [List.take_length]; exact decide_eq_true A.one
      rw [a3]
      rw [cntD_all, cntD_all] at *
      generalize zs.countP (fun y => decide (x ≤ y)) = q1 at *
      generalize zs.countP (fun y => decide (x < y)) = q2 at *
      have HM := Lib.hid (fun w => most_any zs.length w (by omega))
      generalize mostD zs.length = m at HM a1 a2
      have b1 : (m : Int) ≤ (q1 : Int) := by omega
      have b2 : (q2 : Int) < (m : Int) := by omega
      clear A a1 a2 a3 hV hF
      go_wp2_with (first
        | (go_at_call 19; refine (HM.out _).mono ?_; rintro e w' ⟨rfl, rfl⟩)
        | (go_at_call 8; refine lives22_any _ ?_; intro wz hFz; have HFz := Lib.hid hFz; clear hFz))
      exact HR.out _ (HFk.out.trans HFz.out)
set_option maxRecDepth 100000 in
set_option maxHeartbeats 4000000 in
theorem all22_any {R : Ending → World → Prop} {w : World} {v : Value} {g : Option Nat} {zs : List Int} (h : NumsV w v g zs) (hR : ∀ w', Fr No w w' → R (.returned (.bool true)) w') :
    Calls Try.prog 7 #[v] w R := by
  by_cases hlen : zs.length ≤ 300
  · by_cases h0 : zs = []
    · obtain ⟨_, p, c, rfl, _⟩ := h.s
      subst h0
      have HR := Lib.hid hR
      have HM := Lib.hid (fun w => most_any 0 w (by omega))
      clear hR h
      go_enter Try.func7, Try.ntmps7
      go_wp2_with (go_at_call 17; refine reached_nil _ _ _ ?_)
      go_loopw [4, 5, 6, 7] (fun s4 s5 s6 s7 wr => s4 = .int .i64 0 ∧ s5 = .int .i64 0 ∧ s6 = .bool true ∧ s7 = .int .i64 0 ∧ wr = w) (fun _ _ _ _ _ => 0)
      case atStart => exact ⟨rfl, rfl, rfl, rfl, rfl⟩
      case round =>
        obtain ⟨rfl, rfl, rfl, rfl, rfl⟩ := hrel
        have h00 : mostD 0 = 0 := rfl
        go_wp2_with (first
          | (go_at_call 19; refine (HM.out _).mono ?_; rintro e w' ⟨rfl, rfl⟩)
          | (go_at_call 8; refine lives22_any _ ?_; intro wz hFz; have HFz := Lib.hid hFz; clear hFz))
        exact HR.out _ HFz.out
    · exact all22_in h h0 hlen hR
  · have HR := Lib.hid hR
    obtain ⟨_, p, c, rfl, _⟩ := h.s
    have jl : (300 : Int) < (zs.length : Int) := by omega
    clear hR h hlen
    go_enter Try.func7, Try.ntmps7
    go_wp2_with (go_at_call 8; refine lives22_any _ ?_; intro wz hFz; have HFz := Lib.hid hFz; clear hFz)
    exact HR.out _ HFz.out
end Go.Proofs.Ytcpaphcodhlggaa
