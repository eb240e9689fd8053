/- The chapter's example on disks. -/
import Derived.Test.YthjpjekaiflibaaLit
namespace Go.Proofs.Ythjpjekaiflibaa
open Go.RowKit
def nA : ByteArray := ⟨#[97]⟩
theorem l17_1 : (DM.mk [] (-1) false).add nA [1, 2] = (0, ⟨[⟨nA, [1, 2], 0⟩], -1, false⟩) := by kernel_rfl
theorem l17_2 : (DM.mk [⟨nA, [1, 2], 0⟩] (-1) false).sure nA = (0, ⟨[⟨nA, [1, 2], 2⟩], -1, false⟩) := by kernel_rfl
theorem l17_3 : (DM.mk [⟨nA, [1, 2], 2⟩] (-1) false).add nA [3, 4] = (0, ⟨[⟨nA, [1, 2, 3, 4], 2⟩], -1, false⟩) := by kernel_rfl
theorem l17_4 : (DM.mk [⟨nA, [1, 2, 3, 4], 2⟩] (-1) false).lift [1] = ⟨[⟨nA, [1, 2, 3], 3⟩], -1, false⟩ := by
  simp only [DM.lift, List.map_cons, List.map_nil, sortL, List.mergeSort_singleton]
  kernel_rfl
theorem l17_5 : (DM.mk [⟨nA, [1, 2, 3], 3⟩] (-1) false).read nA = ([1, 2, 3], 0) := by kernel_rfl
theorem l17_6 : (DM.mk [⟨nA, [1, 2, 3], 3⟩] (-1) false).setFuse 0 = ⟨[⟨nA, [1, 2, 3], 3⟩], 0, false⟩ := by kernel_rfl
theorem l17_7 : (DM.mk [⟨nA, [1, 2, 3], 3⟩] 0 false).put nA [9] = (17, ⟨[⟨nA, [1, 2, 3], 3⟩], 0, true⟩) := by kernel_rfl
set_option maxRecDepth 100000 in
set_option maxHeartbeats 4000000 in
/-- The example answers true; nothing that was there is written. -/
theorem lives17_any {R : Ending → World → Prop} (w : World) (hR : ∀ w', Fr No w w' → R (.returned (.bool true)) w') :
    Calls Try.prog 13 #[] w R := by
  have HR := Lib.hid hR
  clear hR
  go_enter Try.func13, Try.ntmps13
  go_wp2_with (first
    | (go_at_call 7; refine disk_new _ ?_; intro bd O1 w1 hD hM _; have D1 := Lib.hid hD; have M1 := Lib.hid hM; clear hD hM)
    | (go_at_call 9; refine disk_add (D1.out.no _).1 nA _ _ [1, 2] (By.lit _ [1, 2] (by decide)).src (D1.out.no (.cells #[] 0)).2.2 (by decide) ?_; intro c w2 M' O2 hm hD hM; rw [l17_1] at hm; cases hm; have D2 := Lib.hid hD; have M2 := Lib.hid (M1.out.trans ((D1.out.no _).2.1.trans hM)); clear hD hM D1 M1)
    | (go_at_call 17; refine disk_sure D2.out nA ?_; intro c w3 M' O3 hm hD hM; rw [l17_2] at hm; cases hm; have D3 := Lib.hid hD; have M3 := Lib.hid (M2.out.trans hM); clear hD hM D2 M2)
    | (go_at_call 9; refine disk_add (D3.out.no _).1 nA _ _ [3, 4] (By.lit _ [3, 4] (by decide)).src (D3.out.no (.cells #[] 0)).2.2 (by decide) ?_; intro c w4 M' O4 hm hD hM; rw [l17_3] at hm; cases hm; have D4 := Lib.hid hD; have M4 := Lib.hid (M3.out.trans ((D3.out.no _).2.1.trans hM)); clear hD hM D3 M3)
    | (go_at_call 12; refine disk_lift (D4.out.no _).1 _ _ [1] (Is64.lit _ [1] (by decide)) (D4.out.no (.cells #[] 0)).2.2 (by decide) ?_; intro w5 O5 hD hM; rw [l17_4] at hD; have D5 := Lib.hid hD; have M5 := Lib.hid (M4.out.trans ((D4.out.no _).2.1.trans hM)); clear hD hM D4 M4)
    | (go_at_call 11; refine disk_read D5.out nA ?_; intro vr gr bsr c w6 hm hB hF hN _; rw [l17_5] at hm; cases hm; have D6 := Lib.hid (D5.out.fr hF fun _ _ x => x); have M6 := Lib.hid (M5.out.trans (Mv.of_no hF)); have CV := Lib.hid (fun (w' : World) (hF' : Fr (· ∈ O5) w6 w') => By.str (hB.fr hF' fun k hk hk' => by have h1 := D5.out.lt k hk'; have h2 := hN k hk; omega)); clear hB hF hN D5 M5)
    | (go_at_call 8; refine disk_fuse D6.out 0 (by decide) ?_; intro w7 hD hM; rw [l17_6] at hD; have D7 := Lib.hid hD; have M7 := Lib.hid (M6.out.trans hM); have F7 := Lib.hid hM.1; clear hD hM D6 M6)
    | (go_at_call 18; refine disk_put (D7.out.no _).1 nA _ _ [9] (By.lit _ [9] (by decide)).src (D7.out.no (.cells #[] 0)).2.2 ?_; intro c w8 M' O8 hm hD hM; rw [l17_7] at hm; cases hm; have D8 := Lib.hid hD; have M8 := Lib.hid (M7.out.trans ((D7.out.no _).2.1.trans hM)); have cv := CV.out w8 (F7.out.trans ((Fr.alloc _ _ _).trans hM.1)); clear hD hM D7 M7 CV F7)
    | (go_at_call 10; refine (disk_dead D8.out).mono ?_; rintro e w' ⟨rfl, rfl⟩))
  exact HR.out _ (M8.out.1.mono fun i _ hi => absurd hi List.not_mem_nil)
end Go.Proofs.Ythjpjekaiflibaa
