/- A doing on both disks: they answer alike. (Printed by wip/gen/does17.py.) -/
import Derived.Test.YthjpjekaiflibaaDoes
import Derived.Test.YthjpjekaiflibaaApart
import Derived.Test.YthjpjekaiflibaaGreat17
import Derived.Test.YthjpjekaiflibaaDrop
namespace Go.Proofs.Ythjpjekaiflibaa
open Go.RowKit
def DoesOwes (w0 : World) (bd br : Nat) (Q : Ending → World → Prop) : Prop := ∀ w' M' R' O' P', PD w0 w' bd br M' R' O' P' → Twin M' R' → Q (.returned (.bool true)) w'
set_option maxRecDepth 100000 in
set_option maxHeartbeats 40000000 in
theorem does_add {Q : Ending → World → Prop} {w0 w : World} {bd br : Nat} {M : DM} {R : RM} {O P : List Nat} (h : PD w0 w bd br M R O P) (ht : Twin M R) (A : ActD) (hk : A.kind % 8 = 0 ∨ A.kind % 8 = 1) (hkd : 0 ≤ A.kind ∧ A.kind < 256) (hn : -9223372036854775808 ≤ A.n ∧ A.n ≤ 9223372036854775807) (v2 v4 : Value) (g2 g4 : Option Nat) (hb : Bs w0 v2 g2 A.b) (hg2 : ∀ k, g2 = some k → k < w0.heap.size) (hl4 : Is64 w0 v4 g4 A.loss) (hg4 : ∀ k, g4 = some k → k < w0.heap.size) (hlr : ∀ z ∈ A.loss, -9223372036854775808 ≤ z ∧ z ≤ 9223372036854775807) (hmax : A.b.length ≤ 1048576)
    (hQ : DoesOwes w0 bd br Q) :
    Calls Try.prog 15 #[.pointer (some ⟨bd, 0, none⟩), .pointer (some ⟨br, 0, none⟩), .agg #[.int .u8 A.kind, .string A.name, v2, .int .i64 A.n, v4]] w Q := by
  have HQ := Lib.hid hQ
  have HT := Lib.hid ht
  have HB := Lib.hid hb
  have HG2 := Lib.hid hg2
  have HL4 := Lib.hid hl4
  have HG4 := Lib.hid hg4
  have HLR := Lib.hid hlr
  have HNN := Lib.hid hn
  obtain ⟨p2, q2, rfl, _⟩ := Src.form hb
  obtain ⟨p4, q4, rfl, _⟩ := Src.form hl4
  obtain ⟨wa, hwa⟩ : ∃ wa, w.alloc (.cells #[.int .u8 A.kind, .string A.name, .slice p2 A.b.length q2, .int .i64 A.n, .slice p4 A.loss.length q4] 43) = wa := ⟨_, rfl⟩
  have hFa : Fr No w wa := by rw [← hwa]; exact Fr.alloc _ _ _
  have hbx : wa.heap[w.heap.size]? = some (.cells #[.int .u8 A.kind, .string A.name, .slice p2 A.b.length q2, .int .i64 A.n, .slice p4 A.loss.length q4] 43 (0, 0)) := by rw [← hwa]; exact heap_new w _
  have hno : w.heap.size ∉ O := fun hj => by have := h.d.lt _ hj; omega
  have hnp : w.heap.size ∉ P := fun hj => by have := h.r.lt _ hj; omega
  have HPD := Lib.hid (h.no hFa)
  have HBX := Lib.hid hbx
  have HNO := Lib.hid hno
  have HNP := Lib.hid hnp
  have HWA := Lib.hid hwa
  have HW0 := Lib.hid h.f.size
  have kd0 := hkd.1
  have x2 := cell_at hbx 2 rfl
  obtain ⟨hc1, hc2⟩ := twin_add ht A.name A.b
  obtain ⟨c, M1, hM1⟩ : ∃ c M1, M.add A.name A.b = (c, M1) := ⟨_, _, rfl⟩
  obtain ⟨c', R1, hR1⟩ : ∃ c' R1, R.add A.name A.b = (c', R1) := ⟨_, _, rfl⟩
  rw [hM1, hR1] at hc1 hc2
  obtain rfl : c = c' := hc1
  have HM1 := Lib.hid hM1
  have HR1 := Lib.hid hR1
  have HT1 := Lib.hid (show Twin M1 R1 from hc2)
  clear hc2 hM1 hR1
  clear h hQ ht hb hg2 hl4 hwa hFa hbx hno hnp hkd hg4 hlr hn
  go_enter Try.func15, Try.ntmps15
  go_upto_region 1 with fail
  rw [HWA.out]
  go_upto_region 3 with (go_at_call 28; refine twinB_any _ g2 A.b _ (HPD.out.came HB.out HG2.out).1 (by omega) ?_; intro vt gt w1 h1 h2 h3; have K1 := Lib.hid h1; have K2 := Lib.hid h2; have K3 := Lib.hid h3; obtain ⟨bt, ot, ct, rfl, _⟩ := h1; clear h2 h3)
  have hPD1 := HPD.out.no K2.out
  have hBox : BoxD w1 w.heap.size A (.slice p2 A.b.length q2) (.slice p4 A.loss.length q4) (.slice (some ⟨bt, ot, none⟩) A.b.length ct) gt O P :=
    ⟨K2.out.at HBX.out fun x => x, HNO.out, HNP.out, K1.out, fun k hk ho => by have := K3.out k hk; have := HPD.out.d.lt k ho; omega, fun k hk ho => by have := K3.out k hk; have := HPD.out.r.lt k ho; omega⟩
  have y0 := cell_at hBox.x 0 rfl
  have y1 := cell_at hBox.x 1 rfl
  have y2 := cell_at hBox.x 2 rfl
  have y3 := cell_at hBox.x 3 rfl
  have y4 := cell_at hBox.x 4 rfl
  have HPD1 := Lib.hid hPD1
  have HBOX := Lib.hid hBox
  have HBW := Lib.hid (show w0.heap.size ≤ w.heap.size from HW0.out)
  clear hPD1 hBox K1 K2 K3 HBX HPD x2
  generalize w.heap.size = bx at *
  rcases hk with hq | hq
  · skip
    go_upto_region 13 with fail
    go_region_held3 (fun w' => w'.cell? ⟨bx, 1, none⟩ = some (.string A.name) ∧ w'.cell? ⟨bx, 2, none⟩ = some (.slice p2 A.b.length q2))
      (first | exact ⟨by assumption, by assumption⟩ | go_keep)
      (first
        | (go_at_call 29; refine ref_add P2.out.r A.name _ g2 A.b (P2.out.came HB.out HG2.out).1 (P2.out.came HB.out HG2.out).2.2 (by omega) ?_; intro cc w3 R' O3 h1 h2 h3; rw [HR1.out] at h1; cases h1; have P3 := Lib.hid (P2.out.ref h2 h3); have B3 := Lib.hid (B2.out.ref h3); have r1 := cell_at B3.out.x 1 rfl; have r2 := cell_at B3.out.x 2 rfl; clear h2 h3)
        | (go_at_call 9; refine disk_add (HPD1.out.no (Fr.drew No w1)).d A.name _ gt A.b (HBOX.out.no (Fr.drew No w1)).t.bs HBOX.out.tn (by omega) ?_; intro cc w2 M' O2 h1 h2 h3; rw [HM1.out] at h1; cases h1; have P2 := Lib.hid ((HPD1.out.no (Fr.drew No w1)).disk h2 h3); have B2 := Lib.hid ((HBOX.out.no (Fr.drew No w1)).disk h3); have s1 := cell_at B2.out.x 1 rfl; have s2 := cell_at B2.out.x 2 rfl; clear h2 h3))
    all_goals
      go_wp2_with (go_at_call 39; refine leftB_any _ _ gt g2 A.b _ B3.out.t (P3.out.came HB.out HG2.out).1 ?_; intro w5 h1; have F5 := Lib.hid h1; clear h1)
      exact HQ.out _ _ _ _ _ (P3.out.no F5.out) HT1.out
  · skip
    go_upto_region 13 with fail
    go_region_held3 (fun w' => w'.cell? ⟨bx, 1, none⟩ = some (.string A.name) ∧ w'.cell? ⟨bx, 2, none⟩ = some (.slice p2 A.b.length q2))
      (first | exact ⟨by assumption, by assumption⟩ | go_keep)
      (first
        | (go_at_call 29; refine ref_add P2.out.r A.name _ g2 A.b (P2.out.came HB.out HG2.out).1 (P2.out.came HB.out HG2.out).2.2 (by omega) ?_; intro cc w3 R' O3 h1 h2 h3; rw [HR1.out] at h1; cases h1; have P3 := Lib.hid (P2.out.ref h2 h3); have B3 := Lib.hid (B2.out.ref h3); have r1 := cell_at B3.out.x 1 rfl; have r2 := cell_at B3.out.x 2 rfl; clear h2 h3)
        | (go_at_call 9; refine disk_add (HPD1.out.no (Fr.drew No w1)).d A.name _ gt A.b (HBOX.out.no (Fr.drew No w1)).t.bs HBOX.out.tn (by omega) ?_; intro cc w2 M' O2 h1 h2 h3; rw [HM1.out] at h1; cases h1; have P2 := Lib.hid ((HPD1.out.no (Fr.drew No w1)).disk h2 h3); have B2 := Lib.hid ((HBOX.out.no (Fr.drew No w1)).disk h3); have s1 := cell_at B2.out.x 1 rfl; have s2 := cell_at B2.out.x 2 rfl; clear h2 h3))
    all_goals
      go_wp2_with (go_at_call 39; refine leftB_any _ _ gt g2 A.b _ B3.out.t (P3.out.came HB.out HG2.out).1 ?_; intro w5 h1; have F5 := Lib.hid h1; clear h1)
      exact HQ.out _ _ _ _ _ (P3.out.no F5.out) HT1.out
set_option maxRecDepth 100000 in
set_option maxHeartbeats 40000000 in
theorem does_sure {Q : Ending → World → Prop} {w0 w : World} {bd br : Nat} {M : DM} {R : RM} {O P : List Nat} (h : PD w0 w bd br M R O P) (ht : Twin M R) (A : ActD) (hk : A.kind % 8 = 2) (hkd : 0 ≤ A.kind ∧ A.kind < 256) (hn : -9223372036854775808 ≤ A.n ∧ A.n ≤ 9223372036854775807) (v2 v4 : Value) (g2 g4 : Option Nat) (hb : Bs w0 v2 g2 A.b) (hg2 : ∀ k, g2 = some k → k < w0.heap.size) (hl4 : Is64 w0 v4 g4 A.loss) (hg4 : ∀ k, g4 = some k → k < w0.heap.size) (hlr : ∀ z ∈ A.loss, -9223372036854775808 ≤ z ∧ z ≤ 9223372036854775807) (hmax : A.b.length ≤ 1048576)
    (hQ : DoesOwes w0 bd br Q) :
    Calls Try.prog 15 #[.pointer (some ⟨bd, 0, none⟩), .pointer (some ⟨br, 0, none⟩), .agg #[.int .u8 A.kind, .string A.name, v2, .int .i64 A.n, v4]] w Q := by
  have HQ := Lib.hid hQ
  have HT := Lib.hid ht
  have HB := Lib.hid hb
  have HG2 := Lib.hid hg2
  have HL4 := Lib.hid hl4
  have HG4 := Lib.hid hg4
  have HLR := Lib.hid hlr
  have HNN := Lib.hid hn
  obtain ⟨p2, q2, rfl, _⟩ := Src.form hb
  obtain ⟨p4, q4, rfl, _⟩ := Src.form hl4
  obtain ⟨wa, hwa⟩ : ∃ wa, w.alloc (.cells #[.int .u8 A.kind, .string A.name, .slice p2 A.b.length q2, .int .i64 A.n, .slice p4 A.loss.length q4] 43) = wa := ⟨_, rfl⟩
  have hFa : Fr No w wa := by rw [← hwa]; exact Fr.alloc _ _ _
  have hbx : wa.heap[w.heap.size]? = some (.cells #[.int .u8 A.kind, .string A.name, .slice p2 A.b.length q2, .int .i64 A.n, .slice p4 A.loss.length q4] 43 (0, 0)) := by rw [← hwa]; exact heap_new w _
  have hno : w.heap.size ∉ O := fun hj => by have := h.d.lt _ hj; omega
  have hnp : w.heap.size ∉ P := fun hj => by have := h.r.lt _ hj; omega
  have HPD := Lib.hid (h.no hFa)
  have HBX := Lib.hid hbx
  have HNO := Lib.hid hno
  have HNP := Lib.hid hnp
  have HWA := Lib.hid hwa
  have HW0 := Lib.hid h.f.size
  have kd0 := hkd.1
  have x2 := cell_at hbx 2 rfl
  obtain ⟨hc1, hc2⟩ := twin_sure ht A.name
  obtain ⟨c, M1, hM1⟩ : ∃ c M1, M.sure A.name = (c, M1) := ⟨_, _, rfl⟩
  obtain ⟨c', R1, hR1⟩ : ∃ c' R1, R.sure A.name = (c', R1) := ⟨_, _, rfl⟩
  rw [hM1, hR1] at hc1 hc2
  obtain rfl : c = c' := hc1
  have HM1 := Lib.hid hM1
  have HR1 := Lib.hid hR1
  have HT1 := Lib.hid (show Twin M1 R1 from hc2)
  clear hc2 hM1 hR1
  clear h hQ ht hb hg2 hl4 hwa hFa hbx hno hnp hkd hg4 hlr hn
  go_enter Try.func15, Try.ntmps15
  go_upto_region 1 with fail
  rw [HWA.out]
  go_upto_region 3 with (go_at_call 28; refine twinB_any _ g2 A.b _ (HPD.out.came HB.out HG2.out).1 (by omega) ?_; intro vt gt w1 h1 h2 h3; have K1 := Lib.hid h1; have K2 := Lib.hid h2; have K3 := Lib.hid h3; obtain ⟨bt, ot, ct, rfl, _⟩ := h1; clear h2 h3)
  have hPD1 := HPD.out.no K2.out
  have hBox : BoxD w1 w.heap.size A (.slice p2 A.b.length q2) (.slice p4 A.loss.length q4) (.slice (some ⟨bt, ot, none⟩) A.b.length ct) gt O P :=
    ⟨K2.out.at HBX.out fun x => x, HNO.out, HNP.out, K1.out, fun k hk ho => by have := K3.out k hk; have := HPD.out.d.lt k ho; omega, fun k hk ho => by have := K3.out k hk; have := HPD.out.r.lt k ho; omega⟩
  have y0 := cell_at hBox.x 0 rfl
  have y1 := cell_at hBox.x 1 rfl
  have y2 := cell_at hBox.x 2 rfl
  have y3 := cell_at hBox.x 3 rfl
  have y4 := cell_at hBox.x 4 rfl
  have HPD1 := Lib.hid hPD1
  have HBOX := Lib.hid hBox
  have HBW := Lib.hid (show w0.heap.size ≤ w.heap.size from HW0.out)
  clear hPD1 hBox K1 K2 K3 HBX HPD x2
  generalize w.heap.size = bx at *
  go_upto_region 15 with fail
  go_region_held3 (fun w' => w'.cell? ⟨bx, 1, none⟩ = some (.string A.name))
    (first | assumption | go_keep)
    (first
      | (go_at_call 30; refine ref_sure P2.out.r A.name ?_; intro cc w3 R' O3 h1 h2 h3; rw [HR1.out] at h1; cases h1; have P3 := Lib.hid (P2.out.ref h2 h3); have B3 := Lib.hid (B2.out.ref h3); have r1 := cell_at B3.out.x 1 rfl; have r2 := cell_at B3.out.x 2 rfl; clear h2 h3)
      | (go_at_call 17; refine disk_sure (HPD1.out.no (Fr.drew No w1)).d A.name ?_; intro cc w2 M' O2 h1 h2 h3; rw [HM1.out] at h1; cases h1; have P2 := Lib.hid ((HPD1.out.no (Fr.drew No w1)).disk h2 h3); have B2 := Lib.hid ((HBOX.out.no (Fr.drew No w1)).disk h3); have s1 := cell_at B2.out.x 1 rfl; have s2 := cell_at B2.out.x 2 rfl; clear h2 h3))
  all_goals
    go_wp2_with (go_at_call 39; refine leftB_any _ _ gt g2 A.b _ B3.out.t (P3.out.came HB.out HG2.out).1 ?_; intro w5 h1; have F5 := Lib.hid h1; clear h1)
    exact HQ.out _ _ _ _ _ (P3.out.no F5.out) HT1.out
set_option maxRecDepth 100000 in
set_option maxHeartbeats 40000000 in
theorem does_put {Q : Ending → World → Prop} {w0 w : World} {bd br : Nat} {M : DM} {R : RM} {O P : List Nat} (h : PD w0 w bd br M R O P) (ht : Twin M R) (A : ActD) (hk : A.kind % 8 = 3) (hkd : 0 ≤ A.kind ∧ A.kind < 256) (hn : -9223372036854775808 ≤ A.n ∧ A.n ≤ 9223372036854775807) (v2 v4 : Value) (g2 g4 : Option Nat) (hb : Bs w0 v2 g2 A.b) (hg2 : ∀ k, g2 = some k → k < w0.heap.size) (hl4 : Is64 w0 v4 g4 A.loss) (hg4 : ∀ k, g4 = some k → k < w0.heap.size) (hlr : ∀ z ∈ A.loss, -9223372036854775808 ≤ z ∧ z ≤ 9223372036854775807) (hmax : A.b.length ≤ 1048576)
    (hQ : DoesOwes w0 bd br Q) :
    Calls Try.prog 15 #[.pointer (some ⟨bd, 0, none⟩), .pointer (some ⟨br, 0, none⟩), .agg #[.int .u8 A.kind, .string A.name, v2, .int .i64 A.n, v4]] w Q := by
  have HQ := Lib.hid hQ
  have HT := Lib.hid ht
  have HB := Lib.hid hb
  have HG2 := Lib.hid hg2
  have HL4 := Lib.hid hl4
  have HG4 := Lib.hid hg4
  have HLR := Lib.hid hlr
  have HNN := Lib.hid hn
  obtain ⟨p2, q2, rfl, _⟩ := Src.form hb
  obtain ⟨p4, q4, rfl, _⟩ := Src.form hl4
  obtain ⟨wa, hwa⟩ : ∃ wa, w.alloc (.cells #[.int .u8 A.kind, .string A.name, .slice p2 A.b.length q2, .int .i64 A.n, .slice p4 A.loss.length q4] 43) = wa := ⟨_, rfl⟩
  have hFa : Fr No w wa := by rw [← hwa]; exact Fr.alloc _ _ _
  have hbx : wa.heap[w.heap.size]? = some (.cells #[.int .u8 A.kind, .string A.name, .slice p2 A.b.length q2, .int .i64 A.n, .slice p4 A.loss.length q4] 43 (0, 0)) := by rw [← hwa]; exact heap_new w _
  have hno : w.heap.size ∉ O := fun hj => by have := h.d.lt _ hj; omega
  have hnp : w.heap.size ∉ P := fun hj => by have := h.r.lt _ hj; omega
  have HPD := Lib.hid (h.no hFa)
  have HBX := Lib.hid hbx
  have HNO := Lib.hid hno
  have HNP := Lib.hid hnp
  have HWA := Lib.hid hwa
  have HW0 := Lib.hid h.f.size
  have kd0 := hkd.1
  have x2 := cell_at hbx 2 rfl
  obtain ⟨hc1, hc2⟩ := twin_put ht A.name A.b
  obtain ⟨c, M1, hM1⟩ : ∃ c M1, M.put A.name A.b = (c, M1) := ⟨_, _, rfl⟩
  obtain ⟨c', R1, hR1⟩ : ∃ c' R1, R.put A.name A.b = (c', R1) := ⟨_, _, rfl⟩
  rw [hM1, hR1] at hc1 hc2
  obtain rfl : c = c' := hc1
  have HM1 := Lib.hid hM1
  have HR1 := Lib.hid hR1
  have HT1 := Lib.hid (show Twin M1 R1 from hc2)
  clear hc2 hM1 hR1
  clear h hQ ht hb hg2 hl4 hwa hFa hbx hno hnp hkd hg4 hlr hn
  go_enter Try.func15, Try.ntmps15
  go_upto_region 1 with fail
  rw [HWA.out]
  go_upto_region 3 with (go_at_call 28; refine twinB_any _ g2 A.b _ (HPD.out.came HB.out HG2.out).1 (by omega) ?_; intro vt gt w1 h1 h2 h3; have K1 := Lib.hid h1; have K2 := Lib.hid h2; have K3 := Lib.hid h3; obtain ⟨bt, ot, ct, rfl, _⟩ := h1; clear h2 h3)
  have hPD1 := HPD.out.no K2.out
  have hBox : BoxD w1 w.heap.size A (.slice p2 A.b.length q2) (.slice p4 A.loss.length q4) (.slice (some ⟨bt, ot, none⟩) A.b.length ct) gt O P :=
    ⟨K2.out.at HBX.out fun x => x, HNO.out, HNP.out, K1.out, fun k hk ho => by have := K3.out k hk; have := HPD.out.d.lt k ho; omega, fun k hk ho => by have := K3.out k hk; have := HPD.out.r.lt k ho; omega⟩
  have y0 := cell_at hBox.x 0 rfl
  have y1 := cell_at hBox.x 1 rfl
  have y2 := cell_at hBox.x 2 rfl
  have y3 := cell_at hBox.x 3 rfl
  have y4 := cell_at hBox.x 4 rfl
  have HPD1 := Lib.hid hPD1
  have HBOX := Lib.hid hBox
  have HBW := Lib.hid (show w0.heap.size ≤ w.heap.size from HW0.out)
  clear hPD1 hBox K1 K2 K3 HBX HPD x2
  generalize w.heap.size = bx at *
  go_upto_region 17 with fail
  go_region_held3 (fun w' => w'.cell? ⟨bx, 1, none⟩ = some (.string A.name) ∧ w'.cell? ⟨bx, 2, none⟩ = some (.slice p2 A.b.length q2))
    (first | exact ⟨by assumption, by assumption⟩ | go_keep)
    (first
      | (go_at_call 31; refine ref_put P2.out.r A.name _ g2 A.b (P2.out.came HB.out HG2.out).1 (P2.out.came HB.out HG2.out).2.2 ?_; intro cc w3 R' O3 h1 h2 h3; rw [HR1.out] at h1; cases h1; have P3 := Lib.hid (P2.out.ref h2 h3); have B3 := Lib.hid (B2.out.ref h3); have r1 := cell_at B3.out.x 1 rfl; have r2 := cell_at B3.out.x 2 rfl; clear h2 h3)
      | (go_at_call 18; refine disk_put (HPD1.out.no (Fr.drew No w1)).d A.name _ gt A.b (HBOX.out.no (Fr.drew No w1)).t.bs HBOX.out.tn ?_; intro cc w2 M' O2 h1 h2 h3; rw [HM1.out] at h1; cases h1; have P2 := Lib.hid ((HPD1.out.no (Fr.drew No w1)).disk h2 h3); have B2 := Lib.hid ((HBOX.out.no (Fr.drew No w1)).disk h3); have s1 := cell_at B2.out.x 1 rfl; have s2 := cell_at B2.out.x 2 rfl; clear h2 h3))
  all_goals
    go_wp2_with (go_at_call 39; refine leftB_any _ _ gt g2 A.b _ B3.out.t (P3.out.came HB.out HG2.out).1 ?_; intro w5 h1; have F5 := Lib.hid h1; clear h1)
    exact HQ.out _ _ _ _ _ (P3.out.no F5.out) HT1.out
set_option maxRecDepth 100000 in
set_option maxHeartbeats 40000000 in
theorem does_drop {Q : Ending → World → Prop} {w0 w : World} {bd br : Nat} {M : DM} {R : RM} {O P : List Nat} (h : PD w0 w bd br M R O P) (ht : Twin M R) (A : ActD) (hk : A.kind % 8 = 4) (hkd : 0 ≤ A.kind ∧ A.kind < 256) (hn : -9223372036854775808 ≤ A.n ∧ A.n ≤ 9223372036854775807) (v2 v4 : Value) (g2 g4 : Option Nat) (hb : Bs w0 v2 g2 A.b) (hg2 : ∀ k, g2 = some k → k < w0.heap.size) (hl4 : Is64 w0 v4 g4 A.loss) (hg4 : ∀ k, g4 = some k → k < w0.heap.size) (hlr : ∀ z ∈ A.loss, -9223372036854775808 ≤ z ∧ z ≤ 9223372036854775807) (hmax : A.b.length ≤ 1048576)
    (hQ : DoesOwes w0 bd br Q) :
    Calls Try.prog 15 #[.pointer (some ⟨bd, 0, none⟩), .pointer (some ⟨br, 0, none⟩), .agg #[.int .u8 A.kind, .string A.name, v2, .int .i64 A.n, v4]] w Q := by
  have HQ := Lib.hid hQ
  have HT := Lib.hid ht
  have HB := Lib.hid hb
  have HG2 := Lib.hid hg2
  have HL4 := Lib.hid hl4
  have HG4 := Lib.hid hg4
  have HLR := Lib.hid hlr
  have HNN := Lib.hid hn
  obtain ⟨p2, q2, rfl, _⟩ := Src.form hb
  obtain ⟨p4, q4, rfl, _⟩ := Src.form hl4
  obtain ⟨wa, hwa⟩ : ∃ wa, w.alloc (.cells #[.int .u8 A.kind, .string A.name, .slice p2 A.b.length q2, .int .i64 A.n, .slice p4 A.loss.length q4] 43) = wa := ⟨_, rfl⟩
  have hFa : Fr No w wa := by rw [← hwa]; exact Fr.alloc _ _ _
  have hbx : wa.heap[w.heap.size]? = some (.cells #[.int .u8 A.kind, .string A.name, .slice p2 A.b.length q2, .int .i64 A.n, .slice p4 A.loss.length q4] 43 (0, 0)) := by rw [← hwa]; exact heap_new w _
  have hno : w.heap.size ∉ O := fun hj => by have := h.d.lt _ hj; omega
  have hnp : w.heap.size ∉ P := fun hj => by have := h.r.lt _ hj; omega
  have HPD := Lib.hid (h.no hFa)
  have HBX := Lib.hid hbx
  have HNO := Lib.hid hno
  have HNP := Lib.hid hnp
  have HWA := Lib.hid hwa
  have HW0 := Lib.hid h.f.size
  have kd0 := hkd.1
  have x2 := cell_at hbx 2 rfl
  obtain ⟨hc1, hc2⟩ := twin_drop ht A.name
  obtain ⟨c, M1, hM1⟩ : ∃ c M1, M.drop A.name = (c, M1) := ⟨_, _, rfl⟩
  obtain ⟨c', R1, hR1⟩ : ∃ c' R1, R.drop A.name = (c', R1) := ⟨_, _, rfl⟩
  rw [hM1, hR1] at hc1 hc2
  obtain rfl : c = c' := hc1
  have HM1 := Lib.hid hM1
  have HR1 := Lib.hid hR1
  have HT1 := Lib.hid (show Twin M1 R1 from hc2)
  clear hc2 hM1 hR1
  clear h hQ ht hb hg2 hl4 hwa hFa hbx hno hnp hkd hg4 hlr hn
  go_enter Try.func15, Try.ntmps15
  go_upto_region 1 with fail
  rw [HWA.out]
  go_upto_region 3 with (go_at_call 28; refine twinB_any _ g2 A.b _ (HPD.out.came HB.out HG2.out).1 (by omega) ?_; intro vt gt w1 h1 h2 h3; have K1 := Lib.hid h1; have K2 := Lib.hid h2; have K3 := Lib.hid h3; obtain ⟨bt, ot, ct, rfl, _⟩ := h1; clear h2 h3)
  have hPD1 := HPD.out.no K2.out
  have hBox : BoxD w1 w.heap.size A (.slice p2 A.b.length q2) (.slice p4 A.loss.length q4) (.slice (some ⟨bt, ot, none⟩) A.b.length ct) gt O P :=
    ⟨K2.out.at HBX.out fun x => x, HNO.out, HNP.out, K1.out, fun k hk ho => by have := K3.out k hk; have := HPD.out.d.lt k ho; omega, fun k hk ho => by have := K3.out k hk; have := HPD.out.r.lt k ho; omega⟩
  have y0 := cell_at hBox.x 0 rfl
  have y1 := cell_at hBox.x 1 rfl
  have y2 := cell_at hBox.x 2 rfl
  have y3 := cell_at hBox.x 3 rfl
  have y4 := cell_at hBox.x 4 rfl
  have HPD1 := Lib.hid hPD1
  have HBOX := Lib.hid hBox
  have HBW := Lib.hid (show w0.heap.size ≤ w.heap.size from HW0.out)
  clear hPD1 hBox K1 K2 K3 HBX HPD x2
  generalize w.heap.size = bx at *
  go_upto_region 19 with fail
  go_region_held3 (fun w' => w'.cell? ⟨bx, 1, none⟩ = some (.string A.name))
    (first | assumption | go_keep)
    (first
      | (go_at_call 32; refine ref_drop P2.out.r A.name ?_; intro cc w3 R' O3 h1 h2 h3; rw [HR1.out] at h1; cases h1; have P3 := Lib.hid (P2.out.ref h2 h3); have B3 := Lib.hid (B2.out.ref h3); have r1 := cell_at B3.out.x 1 rfl; have r2 := cell_at B3.out.x 2 rfl; clear h2 h3)
      | (go_at_call 19; refine disk_drop (HPD1.out.no (Fr.drew No w1)).d A.name ?_; intro cc w2 M' O2 h1 h2 h3; rw [HM1.out] at h1; cases h1; have P2 := Lib.hid ((HPD1.out.no (Fr.drew No w1)).disk h2 h3); have B2 := Lib.hid ((HBOX.out.no (Fr.drew No w1)).disk h3); have s1 := cell_at B2.out.x 1 rfl; have s2 := cell_at B2.out.x 2 rfl; clear h2 h3))
  all_goals
    go_wp2_with (go_at_call 39; refine leftB_any _ _ gt g2 A.b _ B3.out.t (P3.out.came HB.out HG2.out).1 ?_; intro w5 h1; have F5 := Lib.hid h1; clear h1)
    exact HQ.out _ _ _ _ _ (P3.out.no F5.out) HT1.out
set_option maxRecDepth 100000 in
set_option maxHeartbeats 40000000 in
theorem does_lift {Q : Ending → World → Prop} {w0 w : World} {bd br : Nat} {M : DM} {R : RM} {O P : List Nat} (h : PD w0 w bd br M R O P) (ht : Twin M R) (A : ActD) (hk : A.kind % 8 = 6) (hkd : 0 ≤ A.kind ∧ A.kind < 256) (hn : -9223372036854775808 ≤ A.n ∧ A.n ≤ 9223372036854775807) (v2 v4 : Value) (g2 g4 : Option Nat) (hb : Bs w0 v2 g2 A.b) (hg2 : ∀ k, g2 = some k → k < w0.heap.size) (hl4 : Is64 w0 v4 g4 A.loss) (hg4 : ∀ k, g4 = some k → k < w0.heap.size) (hlr : ∀ z ∈ A.loss, -9223372036854775808 ≤ z ∧ z ≤ 9223372036854775807) (hmax : A.b.length ≤ 1048576)
    (hQ : DoesOwes w0 bd br Q) :
    Calls Try.prog 15 #[.pointer (some ⟨bd, 0, none⟩), .pointer (some ⟨br, 0, none⟩), .agg #[.int .u8 A.kind, .string A.name, v2, .int .i64 A.n, v4]] w Q := by
  have HQ := Lib.hid hQ
  have HT := Lib.hid ht
  have HB := Lib.hid hb
  have HG2 := Lib.hid hg2
  have HL4 := Lib.hid hl4
  have HG4 := Lib.hid hg4
  have HLR := Lib.hid hlr
  have HNN := Lib.hid hn
  obtain ⟨p2, q2, rfl, _⟩ := Src.form hb
  obtain ⟨p4, q4, rfl, _⟩ := Src.form hl4
  obtain ⟨wa, hwa⟩ : ∃ wa, w.alloc (.cells #[.int .u8 A.kind, .string A.name, .slice p2 A.b.length q2, .int .i64 A.n, .slice p4 A.loss.length q4] 43) = wa := ⟨_, rfl⟩
  have hFa : Fr No w wa := by rw [← hwa]; exact Fr.alloc _ _ _
  have hbx : wa.heap[w.heap.size]? = some (.cells #[.int .u8 A.kind, .string A.name, .slice p2 A.b.length q2, .int .i64 A.n, .slice p4 A.loss.length q4] 43 (0, 0)) := by rw [← hwa]; exact heap_new w _
  have hno : w.heap.size ∉ O := fun hj => by have := h.d.lt _ hj; omega
  have hnp : w.heap.size ∉ P := fun hj => by have := h.r.lt _ hj; omega
  have HPD := Lib.hid (h.no hFa)
  have HBX := Lib.hid hbx
  have HNO := Lib.hid hno
  have HNP := Lib.hid hnp
  have HWA := Lib.hid hwa
  have HW0 := Lib.hid h.f.size
  have kd0 := hkd.1
  have x2 := cell_at hbx 2 rfl
  have HT1 := Lib.hid (twin_lift ht A.loss)
  clear h hQ ht hb hg2 hl4 hwa hFa hbx hno hnp hkd hg4 hlr hn
  go_enter Try.func15, Try.ntmps15
  go_upto_region 1 with fail
  rw [HWA.out]
  go_upto_region 3 with (go_at_call 28; refine twinB_any _ g2 A.b _ (HPD.out.came HB.out HG2.out).1 (by omega) ?_; intro vt gt w1 h1 h2 h3; have K1 := Lib.hid h1; have K2 := Lib.hid h2; have K3 := Lib.hid h3; obtain ⟨bt, ot, ct, rfl, _⟩ := h1; clear h2 h3)
  have hPD1 := HPD.out.no K2.out
  have hBox : BoxD w1 w.heap.size A (.slice p2 A.b.length q2) (.slice p4 A.loss.length q4) (.slice (some ⟨bt, ot, none⟩) A.b.length ct) gt O P :=
    ⟨K2.out.at HBX.out fun x => x, HNO.out, HNP.out, K1.out, fun k hk ho => by have := K3.out k hk; have := HPD.out.d.lt k ho; omega, fun k hk ho => by have := K3.out k hk; have := HPD.out.r.lt k ho; omega⟩
  have y0 := cell_at hBox.x 0 rfl
  have y1 := cell_at hBox.x 1 rfl
  have y2 := cell_at hBox.x 2 rfl
  have y3 := cell_at hBox.x 3 rfl
  have y4 := cell_at hBox.x 4 rfl
  have HPD1 := Lib.hid hPD1
  have HBOX := Lib.hid hBox
  have HBW := Lib.hid (show w0.heap.size ≤ w.heap.size from HW0.out)
  clear hPD1 hBox K1 K2 K3 HBX HPD x2
  generalize w.heap.size = bx at *
  go_upto_region 26 with (go_at_call 12; refine disk_lift HPD1.out.d _ g4 A.loss (HPD1.out.came64 HL4.out HG4.out).1 (HPD1.out.came64 HL4.out HG4.out).2.1 HLR.out ?_; intro w2 O2 h2 h3; have P2 := Lib.hid (HPD1.out.disk h2 h3); have B2 := Lib.hid (HBOX.out.disk h3); have s4 := cell_at B2.out.x 4 rfl; clear h2 h3)
  go_upto_region 27 with (go_at_call 34; refine ref_lift P2.out.r _ g4 A.loss (P2.out.came64 HL4.out HG4.out).1 (P2.out.came64 HL4.out HG4.out).2.2 ?_; intro w3 O3 h2 h3; have P3 := Lib.hid (P2.out.ref h2 h3); have B3 := Lib.hid (B2.out.ref h3); have r2 := cell_at B3.out.x 2 rfl; clear h2 h3)
  go_wp2_with (go_at_call 39; refine leftB_any _ _ gt g2 A.b _ B3.out.t (P3.out.came HB.out HG2.out).1 ?_; intro w5 h1; have F5 := Lib.hid h1; clear h1)
  exact HQ.out _ _ _ _ _ (P3.out.no F5.out) HT1.out
set_option maxRecDepth 100000 in
set_option maxHeartbeats 40000000 in
theorem does_fuse {Q : Ending → World → Prop} {w0 w : World} {bd br : Nat} {M : DM} {R : RM} {O P : List Nat} (h : PD w0 w bd br M R O P) (ht : Twin M R) (A : ActD) (hk : A.kind % 8 = 5) (hkd : 0 ≤ A.kind ∧ A.kind < 256) (hn : -9223372036854775808 ≤ A.n ∧ A.n ≤ 9223372036854775807) (v2 v4 : Value) (g2 g4 : Option Nat) (hb : Bs w0 v2 g2 A.b) (hg2 : ∀ k, g2 = some k → k < w0.heap.size) (hl4 : Is64 w0 v4 g4 A.loss) (hg4 : ∀ k, g4 = some k → k < w0.heap.size) (hlr : ∀ z ∈ A.loss, -9223372036854775808 ≤ z ∧ z ≤ 9223372036854775807) (hmax : A.b.length ≤ 1048576)
    (hQ : DoesOwes w0 bd br Q) :
    Calls Try.prog 15 #[.pointer (some ⟨bd, 0, none⟩), .pointer (some ⟨br, 0, none⟩), .agg #[.int .u8 A.kind, .string A.name, v2, .int .i64 A.n, v4]] w Q := by
  have HQ := Lib.hid hQ
  have HT := Lib.hid ht
  have HB := Lib.hid hb
  have HG2 := Lib.hid hg2
  have HL4 := Lib.hid hl4
  have HG4 := Lib.hid hg4
  have HLR := Lib.hid hlr
  have HNN := Lib.hid hn
  obtain ⟨p2, q2, rfl, _⟩ := Src.form hb
  obtain ⟨p4, q4, rfl, _⟩ := Src.form hl4
  obtain ⟨wa, hwa⟩ : ∃ wa, w.alloc (.cells #[.int .u8 A.kind, .string A.name, .slice p2 A.b.length q2, .int .i64 A.n, .slice p4 A.loss.length q4] 43) = wa := ⟨_, rfl⟩
  have hFa : Fr No w wa := by rw [← hwa]; exact Fr.alloc _ _ _
  have hbx : wa.heap[w.heap.size]? = some (.cells #[.int .u8 A.kind, .string A.name, .slice p2 A.b.length q2, .int .i64 A.n, .slice p4 A.loss.length q4] 43 (0, 0)) := by rw [← hwa]; exact heap_new w _
  have hno : w.heap.size ∉ O := fun hj => by have := h.d.lt _ hj; omega
  have hnp : w.heap.size ∉ P := fun hj => by have := h.r.lt _ hj; omega
  have HPD := Lib.hid (h.no hFa)
  have HBX := Lib.hid hbx
  have HNO := Lib.hid hno
  have HNP := Lib.hid hnp
  have HWA := Lib.hid hwa
  have HW0 := Lib.hid h.f.size
  have kd0 := hkd.1
  have x2 := cell_at hbx 2 rfl
  have HT1 := Lib.hid (twin_fuse ht (A.n.tdiv 4))
  clear h hQ ht hb hg2 hl4 hwa hFa hbx hno hnp hkd hg4 hlr hn
  go_enter Try.func15, Try.ntmps15
  go_upto_region 1 with fail
  rw [HWA.out]
  go_upto_region 3 with (go_at_call 28; refine twinB_any _ g2 A.b _ (HPD.out.came HB.out HG2.out).1 (by omega) ?_; intro vt gt w1 h1 h2 h3; have K1 := Lib.hid h1; have K2 := Lib.hid h2; have K3 := Lib.hid h3; obtain ⟨bt, ot, ct, rfl, _⟩ := h1; clear h2 h3)
  have hPD1 := HPD.out.no K2.out
  have hBox : BoxD w1 w.heap.size A (.slice p2 A.b.length q2) (.slice p4 A.loss.length q4) (.slice (some ⟨bt, ot, none⟩) A.b.length ct) gt O P :=
    ⟨K2.out.at HBX.out fun x => x, HNO.out, HNP.out, K1.out, fun k hk ho => by have := K3.out k hk; have := HPD.out.d.lt k ho; omega, fun k hk ho => by have := K3.out k hk; have := HPD.out.r.lt k ho; omega⟩
  have y0 := cell_at hBox.x 0 rfl
  have y1 := cell_at hBox.x 1 rfl
  have y2 := cell_at hBox.x 2 rfl
  have y3 := cell_at hBox.x 3 rfl
  have y4 := cell_at hBox.x 4 rfl
  have HPD1 := Lib.hid hPD1
  have HBOX := Lib.hid hBox
  have HBW := Lib.hid (show w0.heap.size ≤ w.heap.size from HW0.out)
  clear hPD1 hBox K1 K2 K3 HBX HPD x2
  generalize w.heap.size = bx at *
  have h63 : A.n.tdiv 4 ≤ 9223372036854775807 := by
    have := HNN.out
    rw [Int.tdiv_eq_ediv]
    split
    · omega
    · rw [show Int.sign 4 = 1 from rfl]; omega
  have h64 : -9223372036854775808 ≤ A.n.tdiv 4 := by
    have := HNN.out
    rw [Int.tdiv_eq_ediv]
    split
    · omega
    · rw [show Int.sign 4 = 1 from rfl]; omega
  have hw : wrap64 (A.n.tdiv 4) = A.n.tdiv 4 := by unfold wrap64; omega
  have HN63 := Lib.hid h63
  clear h63 h64
  by_cases hn4 : A.n.tmod 4 = 0
  · go_upto_region 23 with (go_at_call 8; refine disk_fuse HPD1.out.d _ HN63.out ?_; intro w2 h2 h3; have P2 := Lib.hid (HPD1.out.disk h2 h3); have B2 := Lib.hid (HBOX.out.disk h3); have s3 := cell_at B2.out.x 3 rfl; clear h2 h3)
    go_upto_region 27 with (go_at_call 33; refine ref_fuse P2.out.r _ HN63.out ?_; intro w3 h2 h3; have P3 := Lib.hid (P2.out.ref h2 h3); have B3 := Lib.hid (B2.out.ref h3); have r2 := cell_at B3.out.x 2 rfl; clear h2 h3)
    go_wp2_with (go_at_call 39; refine leftB_any _ _ gt g2 A.b _ B3.out.t (P3.out.came HB.out HG2.out).1 ?_; intro w5 h1; have F5 := Lib.hid h1; clear h1)
    exact HQ.out _ _ _ _ _ (P3.out.no F5.out) HT1.out
  · skip
    go_wp2_with (go_at_call 39; refine leftB_any _ _ gt g2 A.b _ HBOX.out.t (HPD1.out.came HB.out HG2.out).1 ?_; intro w5 h1; have F5 := Lib.hid h1; clear h1)
    exact HQ.out _ _ _ _ _ (HPD1.out.no F5.out) HT.out
end Go.Proofs.Ythjpjekaiflibaa
