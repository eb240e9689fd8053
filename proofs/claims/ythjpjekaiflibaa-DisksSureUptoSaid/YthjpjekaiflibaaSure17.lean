/- The law of what was made sure: it is there behind each lift, till it is put anew, or dropped. -/
import Derived.Test.YthjpjekaiflibaaOne17
import Derived.Test.YthjpjekaiflibaaGreat17
import Derived.Test.YthjpjekaiflibaaDrop
namespace Go.Proofs.Ythjpjekaiflibaa
open Go.RowKit
theorem ActOne.fr {w w' : World} {b o k : Nat} {A : ActD} {v2 v4 : Value} (h : ActOne w b o k A v2 v4) (hF : Fr No w w') : ActOne w' b o k A v2 v4 :=
  ⟨hF.cell h.c0 fun x => x, hF.cell h.c1 fun x => x, hF.cell h.c2 fun x => x, hF.cell h.c3 fun x => x, hF.cell h.c4 fun x => x⟩
theorem one_read' {M : DM} {a s : List UInt8} (h : One M a s) (hd : M.dead = false) : ∃ c, M.read nF = (a, c) := by
  rcases one_read h hd with ⟨h1, rfl, _⟩ | h1
  · exact ⟨_, h1⟩
  · exact ⟨_, h1⟩
theorem cat_lists (a b : List UInt8) : (⟨a.toArray⟩ : ByteArray) ++ ⟨b.toArray⟩ = ⟨(a ++ b).toArray⟩ := by
  apply ByteArray.ext
  rw [ByteArray.data_append]
  simp
theorem cut_lists (a : List UInt8) (n : Nat) : (⟨a.toArray⟩ : ByteArray).extract 0 n = ⟨(a.take n).toArray⟩ := by
  apply ByteArray.ext
  rw [ByteArray.data_extract]
  simp
theorem one_most {w : World} {bd : Nat} {M : DM} {O : List Nat} (h : DiskAt w bd M O) {a s : List UInt8} (hO : One M a s) : a.length ≤ 1048576 := by
  obtain ⟨mb, rs, h1, h2, _⟩ := h
  rcases hO with ⟨_, rfl, _⟩ | ⟨n, e, _, _⟩
  · simp
  · rw [← h2] at e
    obtain ⟨r, hr, hf⟩ : ∃ r ∈ rs, r.f = ⟨nF, a, n⟩ := by
      have : (⟨nF, a, n⟩ : File) ∈ files rs := by rw [e]; exact List.mem_cons_self ..
      obtain ⟨r, hr, hf⟩ := List.mem_map.1 this
      exact ⟨r, hr, hf⟩
    have := (h1.files r hr).most
    rw [hf] at this
    exact this
def SureRel (w0 : World) (bd : Nat) (L : List ActD) (va vs v : Value) (w' : World) : Prop :=
  ∃ (k : Nat) (O : List Nat) (M : DM) (a s : List UInt8), v = .int .i64 k ∧ k ≤ L.length ∧ DiskAt w' bd M O ∧ Mv w0 w' [] O ∧ One M a s ∧ va = .string ⟨a.toArray⟩ ∧ vs = .string ⟨s.toArray⟩
set_option maxRecDepth 100000 in
set_option maxHeartbeats 40000000 in
theorem sure17_any {R : Ending → World → Prop} (w : World) (v : Value) (L : List ActD) (h : ActsV w v L) (hs : ∀ A ∈ L, A.small 1048576) (hR : ∀ w', Fr No w w' → R (.returned (.bool true)) w') :
    Calls Try.prog 6 #[v] w R := by
  have HV := Lib.hid h
  have HR := Lib.hid hR
  have HS := Lib.hid hs
  obtain ⟨p, c, rfl, h1, h2, _⟩ := h
  clear hR hs
  cases hg : greatD L
  · have hlen : L.length ≤ 150 := by simp [greatD] at hg; omega
    have HG := Lib.hid hg
    clear hg
    go_enter Try.func6, Try.ntmps6
    go_wp2_with (first
      | (go_at_call 14; refine great_any _ _ L HV.out HS.out ?_; intro w1 hF; rw [HG.out]; have HF1 := Lib.hid hF; have HV1 := Lib.hid (HV.out.fr hF fun _ _ x => x); clear hF HV)
      | (go_at_call 7; refine disk_new _ ?_; intro bd O2 w2 hD hM _; have HD2 := Lib.hid hD; have HM2 := Lib.hid hM; clear hD hM))
    go_loopw [4, 5, 6] (fun va vs i wr => SureRel w1 bd L va vs i wr) (fun _ _ i _ => 200 - (intOf i).toNat)
    case atStart => exact ⟨0, O2, _, [], [], rfl, by omega, HD2.out, HM2.out, .inl ⟨rfl, rfl, rfl⟩, rfl, rfl⟩
    case round =>
      obtain ⟨k, O, M, a, s, rfl, hk, hD, hM, hO, rfl, rfl⟩ := hrel
      have HD := Lib.hid hD
      have HM := Lib.hid hM
      have HO := Lib.hid hO
      clear hD hM hO
      by_cases hlt : k < L.length
      · obtain ⟨b, o, c', v2, v4, e, hone1, hact⟩ := HV1.out.one hlt
        have hone := hone1.fr HM.out.no
        obtain ⟨rfl, rfl⟩ : p = some ⟨b, o, none⟩ ∧ c = c' := by simpa using e
        have hsm := HS.out _ (List.getElem_mem hlt)
        generalize L[k] = A at hone hact hsm
        obtain ⟨⟨w2', w4', ew, ⟨g2, b1, b2⟩, g4, l1, l2⟩, hkd, hnr, hlr⟩ := hact
        obtain ⟨rfl, rfl⟩ : v2 = w2' ∧ v4 = w4' := by simpa using ew
        obtain ⟨p2, q2, rfl, _⟩ := Src.form b1
        obtain ⟨p4, q4, rfl, _⟩ := Src.form l1
        have HB := Lib.hid b1
        have HLS := Lib.hid l1
        have HLR := Lib.hid hlr
        have HSM := Lib.hid hsm
        have HG2 := Lib.hid (show ∀ (P : List Nat) (w' : World), Mv w1 w' [] P → ∀ j, g2 = some j → j ∉ P from fun P w' hM j e hj => by
          have h5 := b2 j e
          rcases hM.2 j hj with h6 | h6
          · cases h6
          · omega)
        have HG4 := Lib.hid (show ∀ (P : List Nat) (w' : World), Mv w1 w' [] P → ∀ j, g4 = some j → j ∉ P from fun P w' hM j e hj => by
          have h5 := l2 j e
          rcases hM.2 j hj with h6 | h6
          · cases h6
          · omega)
        clear e ew hsm b1 l1 b2 l2 hlr hone1
        obtain ⟨c0, c1, c2, c3, c4⟩ := hone
        have ik : (0 : Int) ≤ (k : Int) := by omega
        have il : (k : Int) < (L.length : Int) := by omega
        go_upto_region 10 with fail
        have hFa : Fr No wr (wr.alloc (Obj.cells #[Value.int IntKind.u8 A.kind, Value.string A.name, Value.slice p2 A.b.length q2, Value.int IntKind.i64 A.n, Value.slice p4 A.loss.length q4] 43)) := Fr.alloc _ _ _
        have hbx := heap_new wr (Obj.cells #[Value.int IntKind.u8 A.kind, Value.string A.name, Value.slice p2 A.b.length q2, Value.int IntKind.i64 A.n, Value.slice p4 A.loss.length q4] 43)
        have HDa := Lib.hid (HD.out.fr hFa fun _ _ x => x)
        have HMa := Lib.hid (HM.out.trans (Mv.of_no hFa))
        have hbxn : wr.heap.size ∉ O := fun hj => by have := HD.out.lt _ hj; omega
        clear hFa c0 c1 c2 c3 c4 HD HM
        generalize wr.alloc (Obj.cells #[Value.int IntKind.u8 A.kind, Value.string A.name, Value.slice p2 A.b.length q2, Value.int IntKind.i64 A.n, Value.slice p4 A.loss.length q4] 43) = wa at *
        generalize wr.heap.size = bx at *
        have d0 := cell_at hbx 0 rfl
        have d2 := cell_at hbx 2 rfl
        have d3 := cell_at hbx 3 rfl
        have d4 := cell_at hbx 4 rfl
        have HBX := Lib.hid hbxn
        have kd0 := hkd.1
        have hk8 : A.kind % 8 = 0 ∨ A.kind % 8 = 1 ∨ A.kind % 8 = 2 ∨ A.kind % 8 = 3 ∨ A.kind % 8 = 4 ∨ A.kind % 8 = 5 ∨ A.kind % 8 = 6 ∨ A.kind % 8 = 7 := by omega
        have hn1 := hnr.1
        have hn2 := hnr.2
        clear hbx hbxn hkd hnr
        rcases hk8 with hq | hq | hq | hq | hq | hq | hq | hq
        · obtain ⟨cc, Mm, hadd⟩ : ∃ cc Mm, M.add nF A.b = (cc, Mm) := ⟨_, _, rfl⟩
          have HADD := Lib.hid hadd
          rcases one_add HO.out hadd with ⟨rfl, hom⟩ | ⟨hc, hom⟩
          · have HOm := Lib.hid hom
            clear hadd hom
            have hm1 := one_most HDa.out HO.out
            have hm2 := HSM.out.2.1
            have hcat1 : a.length + A.b.length ≤ 9223372036854775807 := by omega
            have hcat2 : (a.length : Int) + (A.b.length : Int) ≤ 9223372036854775807 := by omega
            clear hm1 hm2
            go_upto_region 36 with (go_at_call 9; refine disk_add HDa.out nF _ _ A.b (HB.out.fr HMa.out.no fun _ _ x => x) (HG2.out _ _ HMa.out) (by have := HSM.out.2.1; omega) ?_; intro c w' M' Om h1 h2 h3; rw [HADD.out] at h1; cases h1; have HDm := Lib.hid h2; have HMm := Lib.hid (HMa.out.trans h3); have d2' := h3.1.cell d2 HBX.out; have cvb := Bs.str (HB.out.fr HMm.out.no fun _ _ x => x); clear h2 h3)
            rw [cat_lists]
            cases hdd : Mm.dead
            · obtain ⟨cr, hr⟩ := one_read' HOm.out hdd
              have HRD := Lib.hid hr
              clear hr
              go_wp2_with (first
                | (go_at_call 10; refine (disk_dead HDm.out).mono ?_; rintro e w' ⟨rfl, rfl⟩; rw [hdd])
                | (go_at_call 11; refine disk_read HDm.out nF ?_; intro vr gr bsr cr wn h1 h2 h3 _ _; rw [HRD.out] at h1; cases h1; have cv := Bs.str h2.src; have HDz := Lib.hid (HDm.out.fr h3 fun _ _ x => x); have HMz := Lib.hid (HMm.out.trans (Mv.of_no h3)); clear h2 h3))
              exact ⟨⟨k + 1, _, _, _, _, by go_num, by omega, HDz.out, HMz.out, HOm.out, rfl, rfl⟩, by simp [intOf]; omega⟩
            · go_wp2_with (go_at_call 10; refine (disk_dead HDm.out).mono ?_; rintro e w' ⟨rfl, rfl⟩; rw [hdd])
              have HDz := HDm
              have HMz := HMm
              exact ⟨⟨k + 1, _, _, _, _, by go_num, by omega, HDz.out, HMz.out, HOm.out, rfl, rfl⟩, by simp [intOf]; omega⟩
          · have HOm := Lib.hid hom
            clear hadd hom
            go_upto_region 36 with (go_at_call 9; refine disk_add HDa.out nF _ _ A.b (HB.out.fr HMa.out.no fun _ _ x => x) (HG2.out _ _ HMa.out) (by have := HSM.out.2.1; omega) ?_; intro c w' M' Om h1 h2 h3; rw [HADD.out] at h1; cases h1; have HDm := Lib.hid h2; have HMm := Lib.hid (HMa.out.trans h3); clear h2 h3)
            cases hdd : Mm.dead
            · obtain ⟨cr, hr⟩ := one_read' HOm.out hdd
              have HRD := Lib.hid hr
              clear hr
              go_wp2_with (first
                | (go_at_call 10; refine (disk_dead HDm.out).mono ?_; rintro e w' ⟨rfl, rfl⟩; rw [hdd])
                | (go_at_call 11; refine disk_read HDm.out nF ?_; intro vr gr bsr cr wn h1 h2 h3 _ _; rw [HRD.out] at h1; cases h1; have cv := Bs.str h2.src; have HDz := Lib.hid (HDm.out.fr h3 fun _ _ x => x); have HMz := Lib.hid (HMm.out.trans (Mv.of_no h3)); clear h2 h3))
              exact ⟨⟨k + 1, _, _, _, _, by go_num, by omega, HDz.out, HMz.out, HOm.out, rfl, rfl⟩, by simp [intOf]; omega⟩
            · go_wp2_with (go_at_call 10; refine (disk_dead HDm.out).mono ?_; rintro e w' ⟨rfl, rfl⟩; rw [hdd])
              have HDz := HDm
              have HMz := HMm
              exact ⟨⟨k + 1, _, _, _, _, by go_num, by omega, HDz.out, HMz.out, HOm.out, rfl, rfl⟩, by simp [intOf]; omega⟩
        · obtain ⟨cc, Mm, hadd⟩ : ∃ cc Mm, M.add nF A.b = (cc, Mm) := ⟨_, _, rfl⟩
          have HADD := Lib.hid hadd
          rcases one_add HO.out hadd with ⟨rfl, hom⟩ | ⟨hc, hom⟩
          · have HOm := Lib.hid hom
            clear hadd hom
            have hm1 := one_most HDa.out HO.out
            have hm2 := HSM.out.2.1
            have hcat1 : a.length + A.b.length ≤ 9223372036854775807 := by omega
            have hcat2 : (a.length : Int) + (A.b.length : Int) ≤ 9223372036854775807 := by omega
            clear hm1 hm2
            go_upto_region 36 with (go_at_call 9; refine disk_add HDa.out nF _ _ A.b (HB.out.fr HMa.out.no fun _ _ x => x) (HG2.out _ _ HMa.out) (by have := HSM.out.2.1; omega) ?_; intro c w' M' Om h1 h2 h3; rw [HADD.out] at h1; cases h1; have HDm := Lib.hid h2; have HMm := Lib.hid (HMa.out.trans h3); have d2' := h3.1.cell d2 HBX.out; have cvb := Bs.str (HB.out.fr HMm.out.no fun _ _ x => x); clear h2 h3)
            rw [cat_lists]
            cases hdd : Mm.dead
            · obtain ⟨cr, hr⟩ := one_read' HOm.out hdd
              have HRD := Lib.hid hr
              clear hr
              go_wp2_with (first
                | (go_at_call 10; refine (disk_dead HDm.out).mono ?_; rintro e w' ⟨rfl, rfl⟩; rw [hdd])
                | (go_at_call 11; refine disk_read HDm.out nF ?_; intro vr gr bsr cr wn h1 h2 h3 _ _; rw [HRD.out] at h1; cases h1; have cv := Bs.str h2.src; have HDz := Lib.hid (HDm.out.fr h3 fun _ _ x => x); have HMz := Lib.hid (HMm.out.trans (Mv.of_no h3)); clear h2 h3))
              exact ⟨⟨k + 1, _, _, _, _, by go_num, by omega, HDz.out, HMz.out, HOm.out, rfl, rfl⟩, by simp [intOf]; omega⟩
            · go_wp2_with (go_at_call 10; refine (disk_dead HDm.out).mono ?_; rintro e w' ⟨rfl, rfl⟩; rw [hdd])
              have HDz := HDm
              have HMz := HMm
              exact ⟨⟨k + 1, _, _, _, _, by go_num, by omega, HDz.out, HMz.out, HOm.out, rfl, rfl⟩, by simp [intOf]; omega⟩
          · have HOm := Lib.hid hom
            clear hadd hom
            go_upto_region 36 with (go_at_call 9; refine disk_add HDa.out nF _ _ A.b (HB.out.fr HMa.out.no fun _ _ x => x) (HG2.out _ _ HMa.out) (by have := HSM.out.2.1; omega) ?_; intro c w' M' Om h1 h2 h3; rw [HADD.out] at h1; cases h1; have HDm := Lib.hid h2; have HMm := Lib.hid (HMa.out.trans h3); clear h2 h3)
            cases hdd : Mm.dead
            · obtain ⟨cr, hr⟩ := one_read' HOm.out hdd
              have HRD := Lib.hid hr
              clear hr
              go_wp2_with (first
                | (go_at_call 10; refine (disk_dead HDm.out).mono ?_; rintro e w' ⟨rfl, rfl⟩; rw [hdd])
                | (go_at_call 11; refine disk_read HDm.out nF ?_; intro vr gr bsr cr wn h1 h2 h3 _ _; rw [HRD.out] at h1; cases h1; have cv := Bs.str h2.src; have HDz := Lib.hid (HDm.out.fr h3 fun _ _ x => x); have HMz := Lib.hid (HMm.out.trans (Mv.of_no h3)); clear h2 h3))
              exact ⟨⟨k + 1, _, _, _, _, by go_num, by omega, HDz.out, HMz.out, HOm.out, rfl, rfl⟩, by simp [intOf]; omega⟩
            · go_wp2_with (go_at_call 10; refine (disk_dead HDm.out).mono ?_; rintro e w' ⟨rfl, rfl⟩; rw [hdd])
              have HDz := HDm
              have HMz := HMm
              exact ⟨⟨k + 1, _, _, _, _, by go_num, by omega, HDz.out, HMz.out, HOm.out, rfl, rfl⟩, by simp [intOf]; omega⟩
        · obtain ⟨cc, Mm, hadd⟩ : ∃ cc Mm, M.sure nF = (cc, Mm) := ⟨_, _, rfl⟩
          have HADD := Lib.hid hadd
          rcases one_sure HO.out hadd with ⟨rfl, hom⟩ | ⟨hc, hom⟩
          · have HOm := Lib.hid hom
            clear hadd hom
            go_upto_region 36 with (go_at_call 17; refine disk_sure HDa.out nF ?_; intro c w' M' Om h1 h2 h3; rw [HADD.out] at h1; cases h1; have HDm := Lib.hid h2; have HMm := Lib.hid (HMa.out.trans h3); clear h2 h3)
            cases hdd : Mm.dead
            · obtain ⟨cr, hr⟩ := one_read' HOm.out hdd
              have HRD := Lib.hid hr
              clear hr
              go_wp2_with (first
                | (go_at_call 10; refine (disk_dead HDm.out).mono ?_; rintro e w' ⟨rfl, rfl⟩; rw [hdd])
                | (go_at_call 11; refine disk_read HDm.out nF ?_; intro vr gr bsr cr wn h1 h2 h3 _ _; rw [HRD.out] at h1; cases h1; have cv := Bs.str h2.src; have HDz := Lib.hid (HDm.out.fr h3 fun _ _ x => x); have HMz := Lib.hid (HMm.out.trans (Mv.of_no h3)); clear h2 h3))
              exact ⟨⟨k + 1, _, _, _, _, by go_num, by omega, HDz.out, HMz.out, HOm.out, rfl, rfl⟩, by simp [intOf]; omega⟩
            · go_wp2_with (go_at_call 10; refine (disk_dead HDm.out).mono ?_; rintro e w' ⟨rfl, rfl⟩; rw [hdd])
              have HDz := HDm
              have HMz := HMm
              exact ⟨⟨k + 1, _, _, _, _, by go_num, by omega, HDz.out, HMz.out, HOm.out, rfl, rfl⟩, by simp [intOf]; omega⟩
          · have HOm := Lib.hid hom
            clear hadd hom
            go_upto_region 36 with (go_at_call 17; refine disk_sure HDa.out nF ?_; intro c w' M' Om h1 h2 h3; rw [HADD.out] at h1; cases h1; have HDm := Lib.hid h2; have HMm := Lib.hid (HMa.out.trans h3); clear h2 h3)
            cases hdd : Mm.dead
            · obtain ⟨cr, hr⟩ := one_read' HOm.out hdd
              have HRD := Lib.hid hr
              clear hr
              go_wp2_with (first
                | (go_at_call 10; refine (disk_dead HDm.out).mono ?_; rintro e w' ⟨rfl, rfl⟩; rw [hdd])
                | (go_at_call 11; refine disk_read HDm.out nF ?_; intro vr gr bsr cr wn h1 h2 h3 _ _; rw [HRD.out] at h1; cases h1; have cv := Bs.str h2.src; have HDz := Lib.hid (HDm.out.fr h3 fun _ _ x => x); have HMz := Lib.hid (HMm.out.trans (Mv.of_no h3)); clear h2 h3))
              exact ⟨⟨k + 1, _, _, _, _, by go_num, by omega, HDz.out, HMz.out, HOm.out, rfl, rfl⟩, by simp [intOf]; omega⟩
            · go_wp2_with (go_at_call 10; refine (disk_dead HDm.out).mono ?_; rintro e w' ⟨rfl, rfl⟩; rw [hdd])
              have HDz := HDm
              have HMz := HMm
              exact ⟨⟨k + 1, _, _, _, _, by go_num, by omega, HDz.out, HMz.out, HOm.out, rfl, rfl⟩, by simp [intOf]; omega⟩
        · obtain ⟨cc, Mm, hadd⟩ : ∃ cc Mm, M.put nF A.b = (cc, Mm) := ⟨_, _, rfl⟩
          have HADD := Lib.hid hadd
          rcases one_put HO.out hadd with ⟨rfl, hom⟩ | ⟨hc, hom⟩
          · have HOm := Lib.hid hom
            clear hadd hom
            go_upto_region 36 with (go_at_call 18; refine disk_put HDa.out nF _ _ A.b (HB.out.fr HMa.out.no fun _ _ x => x) (HG2.out _ _ HMa.out) ?_; intro c w' M' Om h1 h2 h3; rw [HADD.out] at h1; cases h1; have HDm := Lib.hid h2; have HMm := Lib.hid (HMa.out.trans h3); have d2' := h3.1.cell d2 HBX.out; have cvb := Bs.str (HB.out.fr HMm.out.no fun _ _ x => x); clear h2 h3)
            cases hdd : Mm.dead
            · obtain ⟨cr, hr⟩ := one_read' HOm.out hdd
              have HRD := Lib.hid hr
              clear hr
              go_wp2_with (first
                | (go_at_call 10; refine (disk_dead HDm.out).mono ?_; rintro e w' ⟨rfl, rfl⟩; rw [hdd])
                | (go_at_call 11; refine disk_read HDm.out nF ?_; intro vr gr bsr cr wn h1 h2 h3 _ _; rw [HRD.out] at h1; cases h1; have cv := Bs.str h2.src; have HDz := Lib.hid (HDm.out.fr h3 fun _ _ x => x); have HMz := Lib.hid (HMm.out.trans (Mv.of_no h3)); clear h2 h3))
              exact ⟨⟨k + 1, _, _, _, _, by go_num, by omega, HDz.out, HMz.out, HOm.out, rfl, rfl⟩, by simp [intOf]; omega⟩
            · go_wp2_with (go_at_call 10; refine (disk_dead HDm.out).mono ?_; rintro e w' ⟨rfl, rfl⟩; rw [hdd])
              have HDz := HDm
              have HMz := HMm
              exact ⟨⟨k + 1, _, _, _, _, by go_num, by omega, HDz.out, HMz.out, HOm.out, rfl, rfl⟩, by simp [intOf]; omega⟩
          · have HOm := Lib.hid hom
            clear hadd hom
            go_upto_region 36 with (go_at_call 18; refine disk_put HDa.out nF _ _ A.b (HB.out.fr HMa.out.no fun _ _ x => x) (HG2.out _ _ HMa.out) ?_; intro c w' M' Om h1 h2 h3; rw [HADD.out] at h1; cases h1; have HDm := Lib.hid h2; have HMm := Lib.hid (HMa.out.trans h3); clear h2 h3)
            cases hdd : Mm.dead
            · obtain ⟨cr, hr⟩ := one_read' HOm.out hdd
              have HRD := Lib.hid hr
              clear hr
              go_wp2_with (first
                | (go_at_call 10; refine (disk_dead HDm.out).mono ?_; rintro e w' ⟨rfl, rfl⟩; rw [hdd])
                | (go_at_call 11; refine disk_read HDm.out nF ?_; intro vr gr bsr cr wn h1 h2 h3 _ _; rw [HRD.out] at h1; cases h1; have cv := Bs.str h2.src; have HDz := Lib.hid (HDm.out.fr h3 fun _ _ x => x); have HMz := Lib.hid (HMm.out.trans (Mv.of_no h3)); clear h2 h3))
              exact ⟨⟨k + 1, _, _, _, _, by go_num, by omega, HDz.out, HMz.out, HOm.out, rfl, rfl⟩, by simp [intOf]; omega⟩
            · go_wp2_with (go_at_call 10; refine (disk_dead HDm.out).mono ?_; rintro e w' ⟨rfl, rfl⟩; rw [hdd])
              have HDz := HDm
              have HMz := HMm
              exact ⟨⟨k + 1, _, _, _, _, by go_num, by omega, HDz.out, HMz.out, HOm.out, rfl, rfl⟩, by simp [intOf]; omega⟩
        · obtain ⟨cc, Mm, hadd⟩ : ∃ cc Mm, M.drop nF = (cc, Mm) := ⟨_, _, rfl⟩
          have HADD := Lib.hid hadd
          rcases one_drop HO.out hadd with ⟨rfl, hom⟩ | ⟨hc, hom⟩
          · have HOm := Lib.hid hom
            clear hadd hom
            go_upto_region 36 with (go_at_call 19; refine disk_drop HDa.out nF ?_; intro c w' M' Om h1 h2 h3; rw [HADD.out] at h1; cases h1; have HDm := Lib.hid h2; have HMm := Lib.hid (HMa.out.trans h3); clear h2 h3)
            cases hdd : Mm.dead
            · obtain ⟨cr, hr⟩ := one_read' HOm.out hdd
              have HRD := Lib.hid hr
              clear hr
              go_wp2_with (first
                | (go_at_call 10; refine (disk_dead HDm.out).mono ?_; rintro e w' ⟨rfl, rfl⟩; rw [hdd])
                | (go_at_call 11; refine disk_read HDm.out nF ?_; intro vr gr bsr cr wn h1 h2 h3 _ _; rw [HRD.out] at h1; cases h1; have cv := Bs.str h2.src; have HDz := Lib.hid (HDm.out.fr h3 fun _ _ x => x); have HMz := Lib.hid (HMm.out.trans (Mv.of_no h3)); clear h2 h3))
              exact ⟨⟨k + 1, _, _, _, _, by go_num, by omega, HDz.out, HMz.out, HOm.out, rfl, rfl⟩, by simp [intOf]; omega⟩
            · go_wp2_with (go_at_call 10; refine (disk_dead HDm.out).mono ?_; rintro e w' ⟨rfl, rfl⟩; rw [hdd])
              have HDz := HDm
              have HMz := HMm
              exact ⟨⟨k + 1, _, _, _, _, by go_num, by omega, HDz.out, HMz.out, HOm.out, rfl, rfl⟩, by simp [intOf]; omega⟩
          · have HOm := Lib.hid hom
            clear hadd hom
            go_upto_region 36 with (go_at_call 19; refine disk_drop HDa.out nF ?_; intro c w' M' Om h1 h2 h3; rw [HADD.out] at h1; cases h1; have HDm := Lib.hid h2; have HMm := Lib.hid (HMa.out.trans h3); clear h2 h3)
            cases hdd : Mm.dead
            · obtain ⟨cr, hr⟩ := one_read' HOm.out hdd
              have HRD := Lib.hid hr
              clear hr
              go_wp2_with (first
                | (go_at_call 10; refine (disk_dead HDm.out).mono ?_; rintro e w' ⟨rfl, rfl⟩; rw [hdd])
                | (go_at_call 11; refine disk_read HDm.out nF ?_; intro vr gr bsr cr wn h1 h2 h3 _ _; rw [HRD.out] at h1; cases h1; have cv := Bs.str h2.src; have HDz := Lib.hid (HDm.out.fr h3 fun _ _ x => x); have HMz := Lib.hid (HMm.out.trans (Mv.of_no h3)); clear h2 h3))
              exact ⟨⟨k + 1, _, _, _, _, by go_num, by omega, HDz.out, HMz.out, HOm.out, rfl, rfl⟩, by simp [intOf]; omega⟩
            · go_wp2_with (go_at_call 10; refine (disk_dead HDm.out).mono ?_; rintro e w' ⟨rfl, rfl⟩; rw [hdd])
              have HDz := HDm
              have HMz := HMm
              exact ⟨⟨k + 1, _, _, _, _, by go_num, by omega, HDz.out, HMz.out, HOm.out, rfl, rfl⟩, by simp [intOf]; omega⟩
        · obtain ⟨Mm, hMm⟩ : ∃ Mm, Mm = M.setFuse A.n := ⟨_, rfl⟩
          have HOm := Lib.hid (show One Mm a s from one_files HO.out (by rw [hMm]; rfl))
          go_upto_region 36 with (go_at_call 8; refine disk_fuse HDa.out A.n hn2 ?_; intro w' h2 h3; rw [← hMm] at h2; have HDm := Lib.hid h2; have HMm := Lib.hid (HMa.out.trans h3); clear h2 h3)
          cases hdd : Mm.dead
          · obtain ⟨cr, hr⟩ := one_read' HOm.out hdd
            have HRD := Lib.hid hr
            clear hr
            go_wp2_with (first
              | (go_at_call 10; refine (disk_dead HDm.out).mono ?_; rintro e w' ⟨rfl, rfl⟩; rw [hdd])
              | (go_at_call 11; refine disk_read HDm.out nF ?_; intro vr gr bsr cr wn h1 h2 h3 _ _; rw [HRD.out] at h1; cases h1; have cv := Bs.str h2.src; have HDz := Lib.hid (HDm.out.fr h3 fun _ _ x => x); have HMz := Lib.hid (HMm.out.trans (Mv.of_no h3)); clear h2 h3))
            exact ⟨⟨k + 1, _, _, _, _, by go_num, by omega, HDz.out, HMz.out, HOm.out, rfl, rfl⟩, by simp [intOf]; omega⟩
          · go_wp2_with (go_at_call 10; refine (disk_dead HDm.out).mono ?_; rintro e w' ⟨rfl, rfl⟩; rw [hdd])
            have HDz := HDm
            have HMz := HMm
            exact ⟨⟨k + 1, _, _, _, _, by go_num, by omega, HDz.out, HMz.out, HOm.out, rfl, rfl⟩, by simp [intOf]; omega⟩
        · obtain ⟨a', h1, hdl, h3, h4, h5⟩ := one_lift HO.out A.loss
          obtain ⟨Mm, hMm⟩ : ∃ Mm, Mm = M.lift A.loss := ⟨_, rfl⟩
          rw [← hMm] at h1 hdl
          have HOm := Lib.hid h1
          have HMl := Lib.hid hMm
          have hcut : (⟨a.toArray⟩ : ByteArray).extract 0 a'.length = ⟨a'.toArray⟩ := by rw [cut_lists, ← h5]
          obtain ⟨cr, hr, hcase⟩ : ∃ cr, Mm.read nF = (a', cr) ∧ (cr = 0 ∨ (cr = 7 ∧ s = [])) := by
            rcases one_read h1 hdl with ⟨h6, h7, _⟩ | h6
            · exact ⟨7, by rw [h6, h7], .inr ⟨rfl, List.eq_nil_of_length_eq_zero (by rw [h7] at h3; simpa using h3)⟩⟩
            · exact ⟨0, h6, .inl rfl⟩
          have HRD := Lib.hid hr
          have s1 : (s.length : Int) ≤ (a'.length : Int) := by omega
          have s2 : (a'.length : Int) ≤ (a.length : Int) := by omega
          have s3 : (0 : Int) ≤ (a'.length : Int) := by omega
          have t1 : decide ((a'.length : Int) < (s.length : Int)) = false := by simp; omega
          have t2 : decide ((a.length : Int) < (a'.length : Int)) = false := by simp; omega
          have t3 : decide (a'.length < s.length) = false := by simp; omega
          have t4 : decide (a.length < a'.length) = false := by simp; omega
          clear hMm h1 hdl h5 hr h3 h4
          rcases hcase with rfl | ⟨rfl, rfl⟩
          · go_upto_region 15 with (first
              | (go_at_call 12; refine disk_lift HDa.out _ _ A.loss (HLS.out.fr HMa.out.no fun _ _ x => x) (HG4.out _ _ HMa.out) HLR.out ?_; intro wl Ol h2 h3; rw [← HMl.out] at h2; have HDl := Lib.hid h2; have HMd := Lib.hid (HMa.out.trans h3); clear h2 h3)
              | (go_at_call 11; refine disk_read HDl.out nF ?_; intro vr gr bsr cr wn h1 h2 h3 h4x h5x; clear h4x h5x; rw [HRD.out] at h1; cases h1; obtain ⟨pr, qr, rfl, _⟩ := Sl.form h2; have HV2 := Lib.hid h2; have HDn := Lib.hid (HDl.out.fr h3 fun _ _ x => x); have HMn := Lib.hid (HMd.out.trans (Mv.of_no h3)); clear h2 h3))
            have cv : ∀ n : Nat, (convert 28 9 (.slice pr a'.length qr)).run Try.prog (wn.drewN n) = .ok (.string ⟨a'.toArray⟩) (wn.drewN n) := fun n => Bs.str (HV2.out.src.fr (Fr.drewN No wn n) fun _ _ x => x)
            go_quiet (fail)
            have HDm := Lib.hid (HDn.out.fr (Fr.drewN No wn nq) fun _ _ x => x)
            have HMm := Lib.hid (HMn.out.trans (Mv.of_no (Fr.drewN No wn nq)))
            have cv2 := cv nq
            clear cv
            generalize wn.drewN nq = wm at *
            go_upto_region 36 with fail
            cases hdd : Mm.dead
            · obtain ⟨cr, hr⟩ := one_read' HOm.out hdd
              have HRD := Lib.hid hr
              clear hr
              go_wp2_with (first
                | (go_at_call 10; refine (disk_dead HDm.out).mono ?_; rintro e w' ⟨rfl, rfl⟩; rw [hdd])
                | (go_at_call 11; refine disk_read HDm.out nF ?_; intro vr gr bsr cr wn h1 h2 h3 _ _; rw [HRD.out] at h1; cases h1; have cv := Bs.str h2.src; have HDz := Lib.hid (HDm.out.fr h3 fun _ _ x => x); have HMz := Lib.hid (HMm.out.trans (Mv.of_no h3)); clear h2 h3))
              exact ⟨⟨k + 1, _, _, _, _, by go_num, by omega, HDz.out, HMz.out, HOm.out, rfl, rfl⟩, by simp [intOf]; omega⟩
            · go_wp2_with (go_at_call 10; refine (disk_dead HDm.out).mono ?_; rintro e w' ⟨rfl, rfl⟩; rw [hdd])
              have HDz := HDm
              have HMz := HMm
              exact ⟨⟨k + 1, _, _, _, _, by go_num, by omega, HDz.out, HMz.out, HOm.out, rfl, rfl⟩, by simp [intOf]; omega⟩
          · go_upto_region 15 with (first
              | (go_at_call 12; refine disk_lift HDa.out _ _ A.loss (HLS.out.fr HMa.out.no fun _ _ x => x) (HG4.out _ _ HMa.out) HLR.out ?_; intro wl Ol h2 h3; rw [← HMl.out] at h2; have HDl := Lib.hid h2; have HMd := Lib.hid (HMa.out.trans h3); clear h2 h3)
              | (go_at_call 11; refine disk_read HDl.out nF ?_; intro vr gr bsr cr wn h1 h2 h3 h4x h5x; clear h4x h5x; rw [HRD.out] at h1; cases h1; obtain ⟨pr, qr, rfl, _⟩ := Sl.form h2; have HV2 := Lib.hid h2; have HDn := Lib.hid (HDl.out.fr h3 fun _ _ x => x); have HMn := Lib.hid (HMd.out.trans (Mv.of_no h3)); clear h2 h3))
            have cv : ∀ n : Nat, (convert 28 9 (.slice pr a'.length qr)).run Try.prog (wn.drewN n) = .ok (.string ⟨a'.toArray⟩) (wn.drewN n) := fun n => Bs.str (HV2.out.src.fr (Fr.drewN No wn n) fun _ _ x => x)
            go_quiet (fail)
            have HDm := Lib.hid (HDn.out.fr (Fr.drewN No wn nq) fun _ _ x => x)
            have HMm := Lib.hid (HMn.out.trans (Mv.of_no (Fr.drewN No wn nq)))
            have cv2 := cv nq
            clear cv
            generalize wn.drewN nq = wm at *
            go_upto_region 36 with fail
            cases hdd : Mm.dead
            · obtain ⟨cr, hr⟩ := one_read' HOm.out hdd
              have HRD := Lib.hid hr
              clear hr
              go_wp2_with (first
                | (go_at_call 10; refine (disk_dead HDm.out).mono ?_; rintro e w' ⟨rfl, rfl⟩; rw [hdd])
                | (go_at_call 11; refine disk_read HDm.out nF ?_; intro vr gr bsr cr wn h1 h2 h3 _ _; rw [HRD.out] at h1; cases h1; have cv := Bs.str h2.src; have HDz := Lib.hid (HDm.out.fr h3 fun _ _ x => x); have HMz := Lib.hid (HMm.out.trans (Mv.of_no h3)); clear h2 h3))
              exact ⟨⟨k + 1, _, _, _, _, by go_num, by omega, HDz.out, HMz.out, HOm.out, rfl, rfl⟩, by simp [intOf]; omega⟩
            · go_wp2_with (go_at_call 10; refine (disk_dead HDm.out).mono ?_; rintro e w' ⟨rfl, rfl⟩; rw [hdd])
              have HDz := HDm
              have HMz := HMm
              exact ⟨⟨k + 1, _, _, _, _, by go_num, by omega, HDz.out, HMz.out, HOm.out, rfl, rfl⟩, by simp [intOf]; omega⟩
        · obtain ⟨a', h1, hdl, h3, h4, h5⟩ := one_lift HO.out A.loss
          obtain ⟨Mm, hMm⟩ : ∃ Mm, Mm = M.lift A.loss := ⟨_, rfl⟩
          rw [← hMm] at h1 hdl
          have HOm := Lib.hid h1
          have HMl := Lib.hid hMm
          have hcut : (⟨a.toArray⟩ : ByteArray).extract 0 a'.length = ⟨a'.toArray⟩ := by rw [cut_lists, ← h5]
          obtain ⟨cr, hr, hcase⟩ : ∃ cr, Mm.read nF = (a', cr) ∧ (cr = 0 ∨ (cr = 7 ∧ s = [])) := by
            rcases one_read h1 hdl with ⟨h6, h7, _⟩ | h6
            · exact ⟨7, by rw [h6, h7], .inr ⟨rfl, List.eq_nil_of_length_eq_zero (by rw [h7] at h3; simpa using h3)⟩⟩
            · exact ⟨0, h6, .inl rfl⟩
          have HRD := Lib.hid hr
          have s1 : (s.length : Int) ≤ (a'.length : Int) := by omega
          have s2 : (a'.length : Int) ≤ (a.length : Int) := by omega
          have s3 : (0 : Int) ≤ (a'.length : Int) := by omega
          have t1 : decide ((a'.length : Int) < (s.length : Int)) = false := by simp; omega
          have t2 : decide ((a.length : Int) < (a'.length : Int)) = false := by simp; omega
          have t3 : decide (a'.length < s.length) = false := by simp; omega
          have t4 : decide (a.length < a'.length) = false := by simp; omega
          clear hMm h1 hdl h5 hr h3 h4
          rcases hcase with rfl | ⟨rfl, rfl⟩
          · go_upto_region 15 with (first
              | (go_at_call 12; refine disk_lift HDa.out _ _ A.loss (HLS.out.fr HMa.out.no fun _ _ x => x) (HG4.out _ _ HMa.out) HLR.out ?_; intro wl Ol h2 h3; rw [← HMl.out] at h2; have HDl := Lib.hid h2; have HMd := Lib.hid (HMa.out.trans h3); clear h2 h3)
              | (go_at_call 11; refine disk_read HDl.out nF ?_; intro vr gr bsr cr wn h1 h2 h3 h4x h5x; clear h4x h5x; rw [HRD.out] at h1; cases h1; obtain ⟨pr, qr, rfl, _⟩ := Sl.form h2; have HV2 := Lib.hid h2; have HDn := Lib.hid (HDl.out.fr h3 fun _ _ x => x); have HMn := Lib.hid (HMd.out.trans (Mv.of_no h3)); clear h2 h3))
            have cv : ∀ n : Nat, (convert 28 9 (.slice pr a'.length qr)).run Try.prog (wn.drewN n) = .ok (.string ⟨a'.toArray⟩) (wn.drewN n) := fun n => Bs.str (HV2.out.src.fr (Fr.drewN No wn n) fun _ _ x => x)
            go_quiet (fail)
            have HDm := Lib.hid (HDn.out.fr (Fr.drewN No wn nq) fun _ _ x => x)
            have HMm := Lib.hid (HMn.out.trans (Mv.of_no (Fr.drewN No wn nq)))
            have cv2 := cv nq
            clear cv
            generalize wn.drewN nq = wm at *
            go_upto_region 36 with fail
            cases hdd : Mm.dead
            · obtain ⟨cr, hr⟩ := one_read' HOm.out hdd
              have HRD := Lib.hid hr
              clear hr
              go_wp2_with (first
                | (go_at_call 10; refine (disk_dead HDm.out).mono ?_; rintro e w' ⟨rfl, rfl⟩; rw [hdd])
                | (go_at_call 11; refine disk_read HDm.out nF ?_; intro vr gr bsr cr wn h1 h2 h3 _ _; rw [HRD.out] at h1; cases h1; have cv := Bs.str h2.src; have HDz := Lib.hid (HDm.out.fr h3 fun _ _ x => x); have HMz := Lib.hid (HMm.out.trans (Mv.of_no h3)); clear h2 h3))
              exact ⟨⟨k + 1, _, _, _, _, by go_num, by omega, HDz.out, HMz.out, HOm.out, rfl, rfl⟩, by simp [intOf]; omega⟩
            · go_wp2_with (go_at_call 10; refine (disk_dead HDm.out).mono ?_; rintro e w' ⟨rfl, rfl⟩; rw [hdd])
              have HDz := HDm
              have HMz := HMm
              exact ⟨⟨k + 1, _, _, _, _, by go_num, by omega, HDz.out, HMz.out, HOm.out, rfl, rfl⟩, by simp [intOf]; omega⟩
          · go_upto_region 15 with (first
              | (go_at_call 12; refine disk_lift HDa.out _ _ A.loss (HLS.out.fr HMa.out.no fun _ _ x => x) (HG4.out _ _ HMa.out) HLR.out ?_; intro wl Ol h2 h3; rw [← HMl.out] at h2; have HDl := Lib.hid h2; have HMd := Lib.hid (HMa.out.trans h3); clear h2 h3)
              | (go_at_call 11; refine disk_read HDl.out nF ?_; intro vr gr bsr cr wn h1 h2 h3 h4x h5x; clear h4x h5x; rw [HRD.out] at h1; cases h1; obtain ⟨pr, qr, rfl, _⟩ := Sl.form h2; have HV2 := Lib.hid h2; have HDn := Lib.hid (HDl.out.fr h3 fun _ _ x => x); have HMn := Lib.hid (HMd.out.trans (Mv.of_no h3)); clear h2 h3))
            have cv : ∀ n : Nat, (convert 28 9 (.slice pr a'.length qr)).run Try.prog (wn.drewN n) = .ok (.string ⟨a'.toArray⟩) (wn.drewN n) := fun n => Bs.str (HV2.out.src.fr (Fr.drewN No wn n) fun _ _ x => x)
            go_quiet (fail)
            have HDm := Lib.hid (HDn.out.fr (Fr.drewN No wn nq) fun _ _ x => x)
            have HMm := Lib.hid (HMn.out.trans (Mv.of_no (Fr.drewN No wn nq)))
            have cv2 := cv nq
            clear cv
            generalize wn.drewN nq = wm at *
            go_upto_region 36 with fail
            cases hdd : Mm.dead
            · obtain ⟨cr, hr⟩ := one_read' HOm.out hdd
              have HRD := Lib.hid hr
              clear hr
              go_wp2_with (first
                | (go_at_call 10; refine (disk_dead HDm.out).mono ?_; rintro e w' ⟨rfl, rfl⟩; rw [hdd])
                | (go_at_call 11; refine disk_read HDm.out nF ?_; intro vr gr bsr cr wn h1 h2 h3 _ _; rw [HRD.out] at h1; cases h1; have cv := Bs.str h2.src; have HDz := Lib.hid (HDm.out.fr h3 fun _ _ x => x); have HMz := Lib.hid (HMm.out.trans (Mv.of_no h3)); clear h2 h3))
              exact ⟨⟨k + 1, _, _, _, _, by go_num, by omega, HDz.out, HMz.out, HOm.out, rfl, rfl⟩, by simp [intOf]; omega⟩
            · go_wp2_with (go_at_call 10; refine (disk_dead HDm.out).mono ?_; rintro e w' ⟨rfl, rfl⟩; rw [hdd])
              have HDz := HDm
              have HMz := HMm
              exact ⟨⟨k + 1, _, _, _, _, by go_num, by omega, HDz.out, HMz.out, HOm.out, rfl, rfl⟩, by simp [intOf]; omega⟩
      · have hk' : k = L.length := by omega
        clear hk'
        go_wp2_with ((go_at_call 13; refine lives17_any _ ?_; intro wz hFz; have HFz := Lib.hid hFz; clear hFz))
        exact HR.out _ ((HF1.out.trans HM.out.no).trans HFz.out)
  · have HG := Lib.hid hg
    clear hg
    go_enter Try.func6, Try.ntmps6
    go_wp2_with (first
      | (go_at_call 14; refine great_any _ _ L HV.out HS.out ?_; intro w1 hF; rw [HG.out]; have HF1 := Lib.hid hF; clear hF)
      | (go_at_call 13; refine lives17_any _ ?_; intro wz hFz; have HFz := Lib.hid hFz; clear hFz))
    exact HR.out _ (HF1.out.trans HFz.out)
end Go.Proofs.Ythjpjekaiflibaa
