/- The document's Reached. -/
import Derived.Test.YtcpaphcodhlggaaAll22
namespace Go.Proofs.Ytcpaphcodhlggaa
open Go.RowKit
/-- The best of the first k numbers. -/
def bestD (zs : List Int) : Nat → Int
  | 0 => 0
  | k + 1 => if zs.length < 2 * zs.countP (fun y => decide ((zs[k]?.getD 0) ≤ y)) ∧ bestD zs k < (zs[k]?.getD 0) then (zs[k]?.getD 0) else bestD zs k
def quals (zs : List Int) (y : Int) : Prop := y ∈ zs ∧ zs.length < 2 * zs.countP (fun u => decide (y ≤ u))
theorem bestD_inv (zs : List Int) : ∀ k, k ≤ zs.length → (bestD zs k = 0 ∨ quals zs (bestD zs k)) ∧ 0 ≤ bestD zs k ∧ ∀ i, i < k → zs.length < 2 * zs.countP (fun y => decide ((zs[i]?.getD 0) ≤ y)) → zs[i]?.getD 0 ≤ bestD zs k
  | 0, _ => ⟨.inl rfl, Int.le_refl _, fun i h => absurd h (Nat.not_lt_zero _)⟩
  | k + 1, hk => by
    obtain ⟨h1, h2, h3⟩ := bestD_inv zs k (by omega)
    have hm : zs[k]?.getD 0 ∈ zs := by rw [List.getElem?_eq_getElem (by omega : k < zs.length), Option.getD_some]; exact List.getElem_mem _
    unfold bestD
    split
    · rename_i hc
      refine ⟨.inr ⟨hm, hc.1⟩, by omega, fun i hi hq => ?_⟩
      rcases Nat.lt_or_ge i k with h | h
      · have := h3 i h hq; omega
      · have : i = k := by omega
        subst this; exact Int.le_refl _
    · rename_i hc
      refine ⟨h1, h2, fun i hi hq => ?_⟩
      rcases Nat.lt_or_ge i k with h | h
      · exact h3 i h hq
      · have : i = k := by omega
        subst this
        by_cases h9 : bestD zs i < (zs[i]?.getD 0)
        · exact absurd ⟨hq, h9⟩ hc
        · omega
theorem countP_mono {p q : Int → Bool} : ∀ (l : List Int), (∀ x, p x = true → q x = true) → l.countP p ≤ l.countP q
  | l, h => List.countP_mono_left fun x _ => h x
theorem best_is (zs : List Int) (x : Int) (hb : ∀ z ∈ zs, 0 ≤ z ∧ z < 18446744073709551616) (hA : Answers zs x) : bestD zs zs.length = x := by
  rcases hA with ⟨rfl, rfl⟩ | ⟨h0, hr⟩
  · rfl
  · have hl0 : 0 < zs.length := List.length_pos_iff.2 h0
    have hm : mostD zs.length = zs.length / 2 + 1 := by unfold mostD; rw [if_neg (by omega)]
    obtain ⟨h1, h2, h3⟩ := bestD_inv zs zs.length (Nat.le_refl _)
    obtain ⟨i, hi, hix⟩ := List.mem_iff_getElem.1 hr.one
    have hg : zs[i]?.getD 0 = x := by rw [List.getElem?_eq_getElem hi, Option.getD_some, hix]
    have hx := h3 i hi (by rw [hg]; have := hr.at_; omega)
    rw [hg] at hx
    have hx0 := (hb x hr.one).1
    rcases h1 with h1 | ⟨_, h1⟩
    · omega
    · by_cases h9 : x < bestD zs zs.length
      · have k1 := countP_mono (p := fun u => decide (bestD zs zs.length ≤ u)) (q := fun u => decide (x < u)) zs fun u hu => by simp at hu ⊢; omega
        have := hr.ab
        omega
      · omega
def OutR (w : World) (zs : List Int) (g : Option Nat) (v : Value) (sb si : Value) (wr : World) : Prop :=
  ∃ k : Nat, si = .int .i64 k ∧ k ≤ zs.length ∧ sb = .int .u64 (bestD zs k) ∧ NumsV wr v g zs ∧ Fr No w wr
def InR (w : World) (zs : List Int) (z : Int) (g : Option Nat) (v : Value) (sn si : Value) (wr : World) : Prop :=
  ∃ k : Nat, si = .int .i64 k ∧ k ≤ zs.length ∧ sn = .int .i64 (cntD (fun y => decide (z ≤ y)) zs k : Nat) ∧ NumsV wr v g zs ∧ Fr No w wr
set_option maxRecDepth 100000 in
set_option maxHeartbeats 4000000 in
theorem rreached_any {R : Ending → World → Prop} {w : World} {v : Value} {g : Option Nat} {zs : List Int} (h : NumsV w v g zs) (hlen : zs.length ≤ 300) (hR : ∀ w', Fr No w w' → R (.returned (.int .u64 (bestD zs zs.length))) w') :
    Calls Try.prog 18 #[v] w R := by
  have HR := Lib.hid hR
  have HV := Lib.hid h
  obtain ⟨_, p, c, rfl, _, _, _, _⟩ := h.s
  have jl : (zs.length : Int) ≤ 300 := by omega
  clear hR h
  go_enter Try.func18, Try.ntmps18
  go_wp2_with fail
  go_loopw [3, 4] (fun s3 s4 wr => OutR w zs g (.slice p zs.length c) s3 s4 wr) (fun _ s4 _ => zs.length - (intOf s4).toNat)
  case atStart => exact ⟨0, rfl, by omega, rfl, HV.out, Fr.refl _ _⟩
  case round =>
    obtain ⟨k, rfl, hk, rfl, hV, hF⟩ := hrel
    have HVk := Lib.hid hV
    have HFk := Lib.hid hF
    by_cases hlt : k < zs.length
    · have il : (k : Int) < (zs.length : Int) := by omega
      have h0 : zs ≠ [] := by intro e; rw [e] at hlt; exact absurd hlt (Nat.not_lt_zero _)
      have H0 := Lib.hid h0
      obtain ⟨b, o, c2, ee, _, _, _, _, _⟩ := HVk.out.out h0
      obtain ⟨rfl, rfl⟩ : p = some ⟨b, o, none⟩ ∧ c = c2 := by simpa using ee
      have HB := Lib.hid (show bestD zs (k + 1) = if zs.length < 2 * zs.countP (fun y => decide ((zs[k]?.getD 0) ≤ y)) ∧ bestD zs k < (zs[k]?.getD 0) then (zs[k]?.getD 0) else bestD zs k from rfl)
      have HZ := Lib.hid (show ∀ w', NumsV w' (.slice (some ⟨b, o, none⟩) zs.length c) g zs → w'.cell? ⟨b, o + k, none⟩ = some (.int .u64 (zs[k]?.getD 0)) from fun w' hv => by
        obtain ⟨b3, o3, c3, e3, _, _, _, _, hc⟩ := hv.out h0
        obtain ⟨⟨rfl, rfl⟩, rfl⟩ : (b = b3 ∧ o = o3) ∧ c = c3 := by simpa using e3
        exact hc k hlt)
      generalize zs[k]?.getD 0 = z at HB HZ
      generalize bestD zs k = best at HB
      clear ee h0 hV hF
      go_wp2_with fail
      go_loopw [5, 6] (fun s5 s6 wx => InR wr zs z g (.slice (some ⟨b, o, none⟩) zs.length c) s5 s6 wx) (fun _ s6 _ => zs.length - (intOf s6).toNat)
      case atStart => exact ⟨0, rfl, by omega, rfl, HVk.out, Fr.refl _ _⟩
      case round =>
        obtain ⟨j, rfl, hj, rfl, hV2, hF2⟩ := hrel
        have HVj := Lib.hid hV2
        have HFj := Lib.hid hF2
        have n1 := cntD_le (fun y => decide (z ≤ y)) zs j
        by_cases hlt2 : j < zs.length
        · have il2 : (j : Int) < (zs.length : Int) := by omega
          have e1 := cntD_succ (fun y => decide (z ≤ y)) zs j hlt2
          obtain ⟨b3, o3, c3, e3, _, _, _, _, hc⟩ := HVj.out.out H0.out
          obtain ⟨⟨rfl, rfl⟩, rfl⟩ : (b = b3 ∧ o = o3) ∧ c = c3 := by simpa using e3
          have cj := hc j hlt2
          have ck := HZ.out _ HVj.out
          rw [List.getElem?_eq_getElem hlt2, Option.getD_some] at cj
          generalize zs[j] = y at cj e1
          have E1 := Lib.hid e1
          clear e1 hc e3 hV2 hF2
          generalize cntD (fun y => decide (z ≤ y)) zs j = q1 at *
          have m1 : (q1 : Int) ≤ 300 := by omega
          clear n1
          by_cases hzy : z ≤ y
          · go_wp2
            all_goals go_region
            all_goals go_wp2
            all_goals exact ⟨⟨j + 1, by go_num, by omega, by rw [E1.out]; simp [hzy], HVj.out.fr (Fr.drewN _ _ _), HFj.out.trans (Fr.drewN _ _ _)⟩, by simp [intOf]; omega⟩
          · have hyz : y < z := by omega
            have E2 := Lib.hid (E1.out.trans (show q1 + (if decide (z ≤ y) = true then 1 else 0) = q1 by rw [decide_eq_false hzy]; rfl))
            go_wp2
            all_goals go_region
            all_goals go_wp2
            all_goals exact ⟨⟨j + 1, by go_num, by omega, by rw [E2.out], HVj.out.fr (Fr.drewN _ _ _), HFj.out.trans (Fr.drewN _ _ _)⟩, by simp [intOf]; omega⟩
        · have hjl : j = zs.length := by omega
          subst hjl
          rw [cntD_all] at *
          generalize zs.countP (fun y => decide (z ≤ y)) = q1 at *
          have ck := HZ.out _ HVj.out
          have m1 : (q1 : Int) ≤ 300 := by omega
          have v1 : IntKind.i64.wrap (2 * (q1 : Int)) = 2 * (q1 : Int) := IntWalk.i64_in _ (by omega)
          have HF3 := Lib.hid (HFk.out.trans HFj.out)
          clear n1 hV2 hF2
          by_cases h1 : zs.length < 2 * q1
          · have i1 : (zs.length : Int) < 2 * (q1 : Int) := by omega
            by_cases h2 : best < z
            · go_wp2
              all_goals exact ⟨⟨k + 1, by go_num, by omega, by rw [HB.out, if_pos ⟨h1, h2⟩], HVj.out, HF3.out⟩, by simp [intOf]; omega⟩
            · go_wp2
              all_goals exact ⟨⟨k + 1, by go_num, by omega, by rw [HB.out, if_neg (fun h => h2 h.2)], HVj.out, HF3.out⟩, by simp [intOf]; omega⟩
          · have i1 : ¬ (zs.length : Int) < 2 * (q1 : Int) := by omega
            go_wp2
            all_goals exact ⟨⟨k + 1, by go_num, by omega, by rw [HB.out, if_neg (fun h => h1 h.1)], HVj.out, HF3.out⟩, by simp [intOf]; omega⟩
    · have hkl : k = zs.length := by omega
      subst hkl
      clear hV hF
      go_wp2
      exact HR.out _ HFk.out
end Go.Proofs.Ytcpaphcodhlggaa
