/- What stands behind a row is written over; a row that was written over stands. -/
import Derived.Test.YthjpjekaiflibaaBook
namespace Go.Proofs.Ythjpjekaiflibaa
open Go.RowKit
set_option maxRecDepth 100000 in
set_option maxHeartbeats 4000000 in
theorem behind_any {R : Ending → World → Prop} (v : Value) (g : Option Nat) (n : Nat) (all : List Value) (m1 m2 : UInt8) (w : World) (h : AllAt w v g n all)
    (hR : ∀ w' all', WroteI w v g n all (encB m2) n all.length all' w' → R (.returned (.tuple #[])) w') :
    Calls Try.prog 92 #[.agg #[v, .int .u8 (m1.toNat : Int), .int .u8 (m2.toNat : Int)]] w R := by
  have HR := Lib.hid hR
  obtain ⟨p, rfl⟩ := h.form
  obtain ⟨hle, hmx⟩ := h.le
  obtain ⟨wa, hwa⟩ : ∃ wa, w.alloc (.cells #[.slice p n all.length, .int .u8 (m1.toNat : Int), .int .u8 (m2.toNat : Int)] 77) = wa := ⟨_, rfl⟩
  have hF : Fr No w wa := by rw [← hwa]; exact Fr.alloc _ _ _
  have hb0 : wa.heap[w.heap.size]? = some (.cells #[.slice p n all.length, .int .u8 (m1.toNat : Int), .int .u8 (m2.toNat : Int)] 77 (0, 0)) := by rw [← hwa]; exact heap_new w _
  have HW0 := Lib.hid (WroteI.mk (m := encB m2) (lo := n) (k := n) (h.fr hF fun _ _ x => x) rfl (fun j h1 hj => absurd hj (by omega)) (fun j _ => rfl) hF.of_no)
  have HB0 := Lib.hid hb0
  have HLT := Lib.hid h.lt
  have HWA := Lib.hid hwa
  have y0 := cell_at hb0 0 rfl
  clear hR h hwa hF hb0
  go_enter Try.func92, Try.ntmps92
  go_upto_region 1 with fail
  rw [HWA.out]
  go_wp2_with fail
  clear y0
  go_loopw [3] (fun i wr => WroteRel w (.slice p n all.length) g n all (encB m2) n all.length i wr ∧ wr.heap[w.heap.size]? = some (.cells #[.slice p n all.length, .int .u8 (m1.toNat : Int), .int .u8 (m2.toNat : Int)] 77 (0, 0))) (fun i _ => all.length - (intOf i).toNat)
  case atStart => exact ⟨⟨n, all, rfl, by omega, by omega, HW0.out⟩, HB0.out⟩
  case round =>
    obtain ⟨⟨k, all', rfl, hlo, hk, hI⟩, hbx⟩ := hrel
    have x2 := cell_at hbx 2 rfl
    have ik0 : (0 : Int) ≤ (k : Int) := by omega
    by_cases hlt : k < all.length
    · obtain ⟨b, o, rfl, hg, ⟨u, q1⟩, q2, hst⟩ := hI.step hlo (by have := hI.l; omega)
      have il : (k : Int) < (all.length : Int) := by omega
      have HST := Lib.hid hst
      have HBX := Lib.hid ((Fr.set wr b (o + k) (encB m2)).at hbx fun e => by have h9 := HLT.out b hg; have : b = w.heap.size := Option.some.inj e; omega)
      clear hst hI hg hbx
      go_wp2_with fail
      exact ⟨⟨⟨k + 1, _, by go_num, by omega, by omega, HST.out⟩, HBX.out⟩, by simp [intOf]; omega⟩
    · obtain rfl : k = all.length := by omega
      have HI := Lib.hid hI
      clear hI hbx
      go_wp2_with fail
      refine bodyPost_ret (results_none rfl _ _ _) rfl ?_
      exact HR.out _ _ HI.out
def StandRel (w : World) (len : Nat) (i : Value) (w' : World) : Prop := ∃ k : Nat, i = .int .i64 k ∧ k ≤ len ∧ Fr No w w'
set_option maxRecDepth 100000 in
set_option maxHeartbeats 8000000 in
theorem stands_any {R : Ending → World → Prop} (v : Value) (g : Option Nat) (n : Nat) (all : List Value) (m1 m2 : UInt8) (w : World) (h : AllAt w v g n all) (h1 : ∀ j, j < n → all[j]? = some (encB m1)) (h2 : ∀ j, n ≤ j → j < all.length → all[j]? = some (encB m2))
    (hR : ∀ w', Fr No w w' → R (.returned (.bool true)) w') :
    Calls Try.prog 90 #[.agg #[v, .int .u8 (m1.toNat : Int), .int .u8 (m2.toNat : Int)]] w R := by
  have HR := Lib.hid hR
  have H1 := Lib.hid h1
  have H2 := Lib.hid h2
  obtain ⟨p, rfl⟩ := h.form
  obtain ⟨hle, hmx⟩ := h.le
  obtain ⟨wa, hwa⟩ : ∃ wa, w.alloc (.cells #[.slice p n all.length, .int .u8 (m1.toNat : Int), .int .u8 (m2.toNat : Int)] 77) = wa := ⟨_, rfl⟩
  have hF : Fr No w wa := by rw [← hwa]; exact Fr.alloc _ _ _
  have hb0 : wa.heap[w.heap.size]? = some (.cells #[.slice p n all.length, .int .u8 (m1.toNat : Int), .int .u8 (m2.toNat : Int)] 77 (0, 0)) := by rw [← hwa]; exact heap_new w _
  have H := Lib.hid (h.fr hF fun _ _ x => x)
  have HF := Lib.hid hF
  have HB0 := Lib.hid hb0
  have HWA := Lib.hid hwa
  have y0 := cell_at hb0 0 rfl
  clear hR h hwa hF hb0 h1 h2
  go_enter Try.func90, Try.ntmps90
  go_upto_region 1 with fail
  rw [HWA.out]
  go_wp2_with fail
  clear y0
  go_loopw [4] (fun i wr => StandRel wa all.length i wr) (fun i _ => all.length - (intOf i).toNat)
  case atStart => exact ⟨0, rfl, by omega, Fr.refl _ _⟩
  case round =>
    obtain ⟨k, rfl, hk, hFr⟩ := hrel
    have hbx := hFr.at HB0.out fun x => x
    have x0 := cell_at hbx 0 rfl
    have x1 := cell_at hbx 1 rfl
    have x2 := cell_at hbx 2 rfl
    have ik0 : (0 : Int) ≤ (k : Int) := by omega
    have HFR := Lib.hid hFr
    by_cases hlt : k < all.length
    · obtain ⟨b, o, rfl, _, q1, _⟩ := (H.out.fr hFr fun _ _ x => x).one hlt
      have il : (k : Int) < (all.length : Int) := by omega
      clear hbx hFr
      by_cases hkn : k < n
      · have jn : (k : Int) < (n : Int) := by omega
        have jd1 : decide ((n : Int) ≤ (k : Int)) = false := by simp; omega
        have jd2 : decide (n ≤ k) = false := by simp; omega
        have e := H1.out k hkn
        rw [List.getElem?_eq_getElem hlt] at e
        rw [Option.some.inj e, encB] at q1
        clear e
        go_wp2_with fail
        go_quiet (fail)
        go_wp2_with fail
        exact ⟨⟨k + 1, by go_num, by omega, HFR.out.trans (Fr.drewN _ _ _)⟩, by simp [intOf]; omega⟩
      · have jn : (n : Int) ≤ (k : Int) := by omega
        have jd1 : decide ((k : Int) < (n : Int)) = false := by simp; omega
        have jd2 : decide (k < n) = false := by simp; omega
        have e := H2.out k (by omega) hlt
        rw [List.getElem?_eq_getElem hlt] at e
        rw [Option.some.inj e, encB] at q1
        clear e
        go_wp2_with fail
        go_quiet (fail)
        go_wp2_with fail
        exact ⟨⟨k + 1, by go_num, by omega, HFR.out.trans (Fr.drewN _ _ _)⟩, by simp [intOf]; omega⟩
    · obtain rfl : k = all.length := by omega
      clear hbx hFr
      go_wp2_with fail
      exact HR.out _ (HF.out.trans HFR.out)
end Go.Proofs.Ythjpjekaiflibaa
