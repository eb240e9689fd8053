/- The chapter's example on disks. -/
import Derived.Test.YthjpjekaiflibaaAt
import Derived.Laws.BytesArg
import Derived.Laws.IdiomStrings
namespace Go.Proofs.Ythjpjekaiflibaa
open Go.RowKit
def nA : ByteArray := ⟨#[97]⟩
theorem l17_1 : (DM.mk [] (-1) false).add nA [1, 2] = (0, ⟨[⟨nA, [1, 2], 0⟩], -1, false⟩) := by kernel_rfl
theorem l17_2 : (DM.mk [⟨nA, [1, 2], 0⟩] (-1) false).sure nA = (0, ⟨[⟨nA, [1, 2], 2⟩], -1, false⟩) := by kernel_rfl
theorem l17_3 : (DM.mk [⟨nA, [1, 2], 2⟩] (-1) false).add nA [3, 4] = (0, ⟨[⟨nA, [1, 2, 3, 4], 2⟩], -1, false⟩) := by kernel_rfl
theorem l17_4 : (DM.mk [⟨nA, [1, 2, 3, 4], 2⟩] (-1) false).lift [1] = ⟨[⟨nA, [1, 2, 3], 3⟩], -1, false⟩ := by
  simp only [DM.lift, List.map_cons, List.map_nil, sortL, List.mergeSort_singleton]
  kernel_rfl
theorem l17_5 : (DM.mk [⟨nA, [1, 2, 3], 3⟩] (-1) false).read nA = ([1, 2, 3], 0) := by kernel_rfl
theorem l17_6 : (DM.mk [⟨nA, [1, 2, 3], 3⟩] (-1) false).setFuse 0 = ⟨[⟨nA, [1, 2, 3], 3⟩], 0, false⟩ := by kernel_rfl
theorem l17_7 : (DM.mk [⟨nA, [1, 2, 3], 3⟩] 0 false).put nA [9] = (17, ⟨[⟨nA, [1, 2, 3], 3⟩], 0, true⟩) := by kernel_rfl
/-- Bytes as a string. -/
theorem By.str {w : World} {v : Value} {g : Option Nat} {bs : List UInt8} (h : By w v g bs) : (convert 28 9 v).run Try.prog w = .ok (.string ⟨bs.toArray⟩) w := by
  rcases Sl.out h with ⟨rfl, _, _, h0⟩ | ⟨b, o, cap, rfl, _, h1, h2, _, hc, _⟩
  · have : bs = [] := by cases bs with
      | nil => rfl
      | cons _ _ => cases h0
    subst this
    exact run_convert_bytes_nil w _ _ uBytes u8 0 0 _ uStr
  · refine run_convert_bytes_back w _ _ _ ⟨b, o, none⟩ cap bs uBytes u8 uStr fun j hj => ?_
    have h3 := hc j (encB bs[j]) (by simp [List.getElem?_eq_getElem hj])
    have e : (Addr.mk b o none).add j = ⟨b, o + j, none⟩ := by
      simp only [Addr.add]
      split
      · rename_i hj; rw [hj]; rfl
      · rfl
    rw [e]
    exact h3
/-- A literal of bytes, of whole numbers. -/
theorem By.lit (w : World) (bs : List UInt8) (hn : bs.length ≤ maxLen) : By (w.alloc (.cells (bs.map encB).toArray 5)) (.slice (some ⟨w.heap.size, 0, none⟩) bs.length bs.length) (some w.heap.size) bs := by
  have h := Sl.made w 5 1 bs.length (bs.map encB).toArray bs.length (Nat.le_refl _) hn (by simp)
  rw [show (bs.map encB).toArray.toList.take (bs.length * 1) = bs.map encB from List.take_of_length_le (by simp)] at h
  exact h
theorem Is64.lit (w : World) (zs : List Int) (hn : zs.length ≤ maxLen) : Is64 (w.alloc (.cells (zs.map (Value.int .i64)).toArray 3)) (.slice (some ⟨w.heap.size, 0, none⟩) zs.length zs.length) (some w.heap.size) zs := by
  have h := Sl.made w 3 1 zs.length (zs.map (Value.int .i64)).toArray zs.length (Nat.le_refl _) hn (by simp)
  rw [show (zs.map (Value.int .i64)).toArray.toList.take (zs.length * 1) = zs.map (Value.int .i64) from List.take_of_length_le (by simp)] at h
  exact Sl.src h
theorem DiskAt.no {w : World} {bd : Nat} {M : DM} {O : List Nat} (h : DiskAt w bd M O) (k : Obj) : DiskAt (w.alloc k) bd M O ∧ Mv w (w.alloc k) O O ∧ ∀ j, some w.heap.size = some j → j ∉ O :=
  ⟨h.fr (Fr.alloc No _ _) fun _ _ x => x, Mv.of_no (Fr.alloc No _ _), fun j e hj => by have := h.lt _ hj; cases e; omega⟩
set_option maxRecDepth 100000 in
set_option maxHeartbeats 4000000 in
/-- The example answers true; nothing that was there is written. -/
theorem lives17_any {R : Ending → World → Prop} (w : World) (hR : ∀ w', Fr No w w' → R (.returned (.bool true)) w') :
    Calls Try.prog 13 #[] w R := by
  have HR := Lib.hid hR
  clear hR
  go_enter Try.func13, Try.ntmps13
  go_wp2_with (first
    | (go_at_call 7; refine disk_new _ ?_; intro bd O1 w1 hD hM _; have D1 := Lib.hid hD; have M1 := Lib.hid hM; clear hD hM)
    | (go_at_call 9; refine disk_add (D1.out.no _).1 nA _ _ [1, 2] (By.lit _ [1, 2] (by decide)).src (D1.out.no (.cells #[] 0)).2.2 (by decide) ?_; intro c w2 M' O2 hm hD hM; rw [l17_1] at hm; cases hm; have D2 := Lib.hid hD; have M2 := Lib.hid (M1.out.trans ((D1.out.no _).2.1.trans hM)); clear hD hM D1 M1)
    | (go_at_call 17; refine disk_sure D2.out nA ?_; intro c w3 M' O3 hm hD hM; rw [l17_2] at hm; cases hm; have D3 := Lib.hid hD; have M3 := Lib.hid (M2.out.trans hM); clear hD hM D2 M2)
    | (go_at_call 9; refine disk_add (D3.out.no _).1 nA _ _ [3, 4] (By.lit _ [3, 4] (by decide)).src (D3.out.no (.cells #[] 0)).2.2 (by decide) ?_; intro c w4 M' O4 hm hD hM; rw [l17_3] at hm; cases hm; have D4 := Lib.hid hD; have M4 := Lib.hid (M3.out.trans ((D3.out.no _).2.1.trans hM)); clear hD hM D3 M3)
    | (go_at_call 12; refine disk_lift (D4.out.no _).1 _ _ [1] (Is64.lit _ [1] (by decide)) (D4.out.no (.cells #[] 0)).2.2 (by decide) ?_; intro w5 O5 hD hM; rw [l17_4] at hD; have D5 := Lib.hid hD; have M5 := Lib.hid (M4.out.trans ((D4.out.no _).2.1.trans hM)); clear hD hM D4 M4)
    | (go_at_call 11; refine disk_read D5.out nA ?_; intro vr gr bsr c w6 hm hB hF hN _; rw [l17_5] at hm; cases hm; have D6 := Lib.hid (D5.out.fr hF fun _ _ x => x); have M6 := Lib.hid (M5.out.trans (Mv.of_no hF)); have CV := Lib.hid (fun (w' : World) (hF' : Fr (· ∈ O5) w6 w') => By.str (hB.fr hF' fun k hk hk' => by have h1 := D5.out.lt k hk'; have h2 := hN k hk; omega)); clear hB hF hN D5 M5)
    | (go_at_call 8; refine disk_fuse D6.out 0 (by decide) ?_; intro w7 hD hM; rw [l17_6] at hD; have D7 := Lib.hid hD; have M7 := Lib.hid (M6.out.trans hM); have F7 := Lib.hid hM.1; clear hD hM D6 M6)
    | (go_at_call 18; refine disk_put (D7.out.no _).1 nA _ _ [9] (By.lit _ [9] (by decide)).src (D7.out.no (.cells #[] 0)).2.2 ?_; intro c w8 M' O8 hm hD hM; rw [l17_7] at hm; cases hm; have D8 := Lib.hid hD; have M8 := Lib.hid (M7.out.trans ((D7.out.no _).2.1.trans hM)); have cv := CV.out w8 (F7.out.trans ((Fr.alloc _ _ _).trans hM.1)); clear hD hM D7 M7 CV F7)
    | (go_at_call 10; refine (disk_dead D8.out).mono ?_; rintro e w' ⟨rfl, rfl⟩))
  exact HR.out _ (M8.out.1.mono fun i _ hi => absurd hi List.not_mem_nil)
end Go.Proofs.Ythjpjekaiflibaa
