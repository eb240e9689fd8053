/- What most reach is the document's: the walk. -/
import Derived.Test.YtcpaphcodhlggaaRefR22
namespace Go.Proofs.Ytcpaphcodhlggaa
open Go.RowKit
theorem infoU64 : (Try.prog.info? 35).map (fun i => (i.zero, i.size, i.bytes)) = some (some (.int .u64 0), 1, 8) := by kernel_rfl
theorem NumsV.copied {w w' : World} {p : Option Addr} {n c : Nat} {v : Value} {g : Option Nat} {zs : List Int} (h : NumsV w v g zs) {g' : Option Nat} {v' : Value} (hs : Sl w' 35 1 v' g' zs.length (zs.map encU)) : NumsV w' v' g' zs :=
  ⟨hs.src, h.b, hs.lt⟩
def SameR (w : World) (zs : List Int) (g g' : Option Nat) (v v' : Value) (si : Value) (wr : World) : Prop :=
  ∃ k : Nat, si = .int .i64 k ∧ k ≤ zs.length ∧ NumsV wr v g zs ∧ NumsV wr v' g' zs ∧ Fr No w wr
set_option maxRecDepth 100000 in
set_option maxHeartbeats 4000000 in
theorem reached22_in {R : Ending → World → Prop} {w : World} {v : Value} {g : Option Nat} {zs : List Int} (h : NumsV w v g zs) (hlen : zs.length ≤ 300) (hR : ∀ w', Fr No w w' → R (.returned (.bool true)) w') :
    Calls Try.prog 4 #[v] w R := by
  obtain ⟨i0, hi, hz0, hz1, hz2⟩ := info_parts infoU64
  have HR := Lib.hid hR
  have HV := Lib.hid h
  obtain ⟨_, p, c, rfl, _, _, _, _⟩ := h.s
  have jl : (zs.length : Int) ≤ 300 := by omega
  have hm1 : 0 + zs.length ≤ maxLen := by unfold maxLen; omega
  have hm2 : (0 + zs.length) * 8 ≤ 140737488355328 := by omega
  clear hR h
  go_enter Try.func4, Try.ntmps4
  go_wp2_with (first
    | (at_builtin; refine wpList_appendSl _ rfl _ _ 34 rfl 35 i0 (.int .u64 0) 1 8 Try.underlying34 hi hz0 hz1 hz2 rfl (by omega) _ _ _ _ rfl (Sl.nil _ _ _) _ _ _ _ rfl HV.out.s (encU_one _) hm1 hm2 ?_; intro p' c' g' w1 h1 h2 h3; rw [Nat.zero_add, List.nil_append] at h1; rw [show 0 + zs.length = zs.length from Nat.zero_add _]; have K1 := Lib.hid (HV.out.copied (p := none) (n := 0) (c := 0) h1); have K2 := Lib.hid (show Fr No w w1 from h2.mono fun i hi hp => by cases hp); clear h1 h2 h3 hm1 hm2 hi hz0 hz1 hz2)
    | (go_at_call 17; refine reached_any K1.out (by omega) ?_; intro x w2 hx hF; have HX := Lib.hid (best_is zs x HV.out.b hx); have HF := Lib.hid (K2.out.trans hF); replace K1 := Lib.hid (K1.out.fr hF); clear hx hF))
  have HV2 := Lib.hid (HV.out.fr HF.out)
  go_loopw [5] (fun s5 wr => SameR w zs g g' (.slice p zs.length c) (.slice p' zs.length c') s5 wr) (fun s5 _ => zs.length - (intOf s5).toNat)
  case atStart => exact ⟨0, rfl, by omega, HV2.out, K1.out, HF.out⟩
  case round =>
    clear HV HV2 K1 HF K2
    obtain ⟨k, rfl, hk, hV, hT, hF⟩ := hrel
    have HVk := Lib.hid hV
    have HTk := Lib.hid hT
    have HFk := Lib.hid hF
    by_cases hlt : k < zs.length
    · have il : (k : Int) < (zs.length : Int) := by omega
      have h0 : zs ≠ [] := by intro e; rw [e] at hlt; exact absurd hlt (Nat.not_lt_zero _)
      obtain ⟨b, o, c2, ee, _, _, _, _, hc⟩ := HVk.out.out h0
      obtain ⟨rfl, rfl⟩ : p = some ⟨b, o, none⟩ ∧ c = c2 := by simpa using ee
      obtain ⟨b3, o3, c3, ee3, _, _, _, _, hc3⟩ := HTk.out.out h0
      obtain ⟨rfl, rfl⟩ : p' = some ⟨b3, o3, none⟩ ∧ c' = c3 := by simpa using ee3
      have ck := hc k hlt
      have cj := hc3 k hlt
      generalize zs[k]?.getD 0 = z at ck cj
      clear ee ee3 h0 hV hF hT hc hc3
      go_wp2
      go_region
      all_goals go_wp2
      all_goals exact ⟨⟨k + 1, by go_num, by omega, HVk.out.fr (Fr.drewN _ _ _), HTk.out.fr (Fr.drewN _ _ _), HFk.out.trans (Fr.drewN _ _ _)⟩, by simp [intOf]; omega⟩
    · have hkl : k = zs.length := by omega
      subst hkl
      clear hV hF hT
      go_wp2_with (first
        | (go_at_call 18; refine rreached_any HVk.out hlen ?_; intro w4 hF4; rw [HX.out]; have HF4 := Lib.hid hF4; clear hF4)
        | (go_at_call 8; refine lives22_any _ ?_; intro wz hFz; have HFz := Lib.hid hFz; clear hFz))
      exact HR.out _ ((HFk.out.trans HF4.out).trans HFz.out)
set_option maxRecDepth 100000 in
set_option maxHeartbeats 4000000 in
theorem reached22_any {R : Ending → World → Prop} {w : World} {v : Value} {g : Option Nat} {zs : List Int} (h : NumsV w v g zs) (hR : ∀ w', Fr No w w' → R (.returned (.bool true)) w') :
    Calls Try.prog 4 #[v] w R := by
  by_cases hlen : zs.length ≤ 300
  · exact reached22_in h hlen hR
  · have HR := Lib.hid hR
    obtain ⟨_, p, c, rfl, _⟩ := h.s
    have jl : (300 : Int) < (zs.length : Int) := by omega
    clear hR h hlen
    go_enter Try.func4, Try.ntmps4
    go_wp2_with (go_at_call 8; refine lives22_any _ ?_; intro wz hFz; have HFz := Lib.hid hFz; clear hFz)
    exact HR.out _ HFz.out
end Go.Proofs.Ytcpaphcodhlggaa
