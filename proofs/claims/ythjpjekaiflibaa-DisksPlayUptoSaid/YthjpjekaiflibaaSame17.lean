/- Both disks are asked alike: Same answers true. -/
import Derived.Test.YthjpjekaiflibaaSame
namespace Go.Proofs.Ythjpjekaiflibaa
open Go.RowKit
theorem twin_names {M : DM} {R : RM} (h : Twin M R) : sortL (M.files.map fun f => f.name.data.toList) = R.files.map fun f => f.name.data.toList := by
  unfold sortL
  have hp : (M.files.map fun f => f.name.data.toList).Perm (R.files.map fun f => f.name.data.toList) := h.perm.symm.map _
  have hr : (R.files.map fun f => f.name.data.toList).Pairwise fun x y => x ≤ y := by
    rw [List.pairwise_map]
    refine h.sorted.imp fun {a b} hab => ?_
    unfold nless at hab
    rw [Go.ByteArray.toList_eq, Go.ByteArray.toList_eq] at hab
    exact Std.le_of_lt (less_lt hab)
  have h1 := mergeSort_of_perm hp
  have h2 : (R.files.map fun f => f.name.data.toList).mergeSort (fun x y => decide (x ≤ y)) = R.files.map fun f => f.name.data.toList := List.mergeSort_of_pairwise (hr.imp fun h => by simpa using h)
  exact (show _ = (R.files.map fun f => f.name.data.toList).mergeSort (fun x y => decide (x ≤ y)) from h1).trans h2
def S17Rel (w : World) (n : Nat) (i : Value) (w' : World) : Prop := ∃ k : Nat, i = .int .i64 k ∧ k ≤ n ∧ Fr No w w'
set_option maxRecDepth 100000 in
set_option maxHeartbeats 40000000 in
theorem same17_any {Q : Ending → World → Prop} {w : World} {bd br : Nat} {M : DM} {R : RM} {O P : List Nat} (hd : DiskAt w bd M O) (hr : RefAt w br R P) (ht : Twin M R) (hQ : ∀ w', Fr No w w' → Q (.returned (.bool true)) w') :
    Calls Try.prog 16 #[.pointer (some ⟨bd, 0, none⟩), .pointer (some ⟨br, 0, none⟩)] w Q := by
  have HQ := Lib.hid hQ
  have HD := Lib.hid hd
  have HR := Lib.hid hr
  have HT := Lib.hid ht
  obtain ⟨L0, hL0⟩ : ∃ L0, (R.files.map fun f => f.name.data.toList) = L0 := ⟨_, rfl⟩
  have HNM := Lib.hid ((twin_names ht).trans hL0)
  have HL0 := Lib.hid hL0
  obtain ⟨vl, gl, fs, hrep, hfs, rfl, _⟩ := hr
  have HREP := Lib.hid hrep
  have HFS := Lib.hid hfs
  have hfew := hrep.few
  obtain ⟨pl, cl, rfl, _⟩ := Sl.form hrep.l
  have hlen : L0.length = fs.length := by rw [← hL0, ← hfs]; simp
  have HLEN := Lib.hid hlen
  have hdead := ht.dead
  have HDE := Lib.hid hdead
  clear hQ hd ht hrep hfs hlen hdead hL0
  go_enter Try.func16, Try.ntmps16
  go_upto_region 2 with (go_at_call 20; refine disk_names HD.out ?_; intro v g w1 h1 h2 _; rw [HNM.out] at h1; obtain ⟨pn, cn, rfl, _⟩ := Sl.form h1; have S1 := Lib.hid h1; have F1 := Lib.hid h2; clear h1 h2)
  rw [HLEN.out]
  have hrep1 := HREP.out.fr F1.out fun _ _ x => x
  have c0 := cell_at hrep1.box 0 rfl
  have c3 := cell_at hrep1.box 3 rfl
  rw [HDE.out] at c3
  have HDEAD := Lib.hid fun m => ((disk_dead ((HD.out.fr F1.out fun _ _ x => x).fr (Fr.drewN No w1 m) fun _ _ x => x)).mono fun _ _ ⟨a, b⟩ => ⟨a, b.symm⟩ : Calls Try.prog 10 #[.pointer (some ⟨bd, 0, none⟩)] (w1.drewN m) fun e w' => e = .returned (.bool M.dead) ∧ w' = w1.drewN m)
  clear hrep1
  go_quiet ((go_at_call 10; exact Calls.quiet_of_same (HDEAD.out _)))
  go_wp2_with fail
  have F2 := Lib.hid (F1.out.trans (Fr.drewN No w1 nq))
  have S2 := Lib.hid (S1.out.fr (Fr.drewN No w1 nq) fun _ _ x => x)
  clear c0 c3 HDEAD S1 F1
  generalize w1.drewN nq = w2 at *
  go_loopw [6] (fun i wr => S17Rel w2 fs.length i wr) (fun i _ => 20 - (intOf i).toNat)
  case atStart => exact ⟨0, rfl, by omega, Fr.refl _ _⟩
  case round =>
    obtain ⟨k, rfl, hk, hF⟩ := hrel
    by_cases hlt : k < fs.length
    · have hlt0 : k < L0.length := by rw [HLEN.out]; exact hlt
      have hrep2 := HREP.out.fr (F2.out.trans hF) fun _ _ x => x
      obtain ⟨b, o, c', e, _, e0, _, _⟩ := hrep2.one hlt
      obtain ⟨rfl, rfl⟩ : pl = some ⟨b, o, none⟩ ∧ cl = c' := by simpa using e
      have c0 := cell_at hrep2.box 0 rfl
      obtain ⟨bn, on, rfl, x0⟩ : ∃ bn on, pn = some ⟨bn, on, none⟩ ∧ wr.cell? ⟨bn, on + k, none⟩ = some (.string fs[k].f.name) := by
        have hs := S2.out.fr hF fun _ _ x => x
        rcases Sl.out hs with ⟨_, _, e9, _⟩ | ⟨bn, on, cap, e9, _, _, _, _, hc, _⟩
        · omega
        · have := hc k (.string fs[k].f.name) (by
            rw [List.getElem?_map, List.getElem?_eq_getElem hlt0]
            simp only [Option.map_some, Option.some.injEq]
            rw [string_enc]
            congr 1
            have : (R.files.map fun f => f.name.data.toList)[k]? = some L0[k] := by rw [HL0.out]; exact List.getElem?_eq_getElem hlt0
            rw [← HFS.out, List.map_map, List.getElem?_map, List.getElem?_eq_getElem hlt] at this
            exact (Option.some.inj this).symm)
          exact ⟨bn, on, by injection e9, this⟩
      have ik0 : (0 : Int) ≤ (k : Int) := by omega
      have il : (k : Int) < (fs.length : Int) := by omega
      have HF := Lib.hid (F2.out.trans hF)
      have HFk := Lib.hid hF
      clear hrep2 e hF
      generalize fs[k].f.name = nm at *
      obtain ⟨bs, ce, hrd⟩ : ∃ bs ce, M.read nm = (bs, ce) := ⟨_, _, rfl⟩
      have hrd2 := (twin_read HT.out nm).symm.trans hrd
      have HRD := Lib.hid hrd
      have HRD2 := Lib.hid hrd2
      clear hrd hrd2
      go_upto_region 9 with (first
        | (go_at_call 35; refine ref_read (HR.out.fr (HF.out.trans A2.out) fun _ _ x => x) nm ?_; intro vr gr b2 c2 w4 h1 h2 h3 h4; rw [HRD2.out] at h1; cases h1; obtain ⟨p4, c4, rfl, _⟩ := Sl.form h2; have B1 := Lib.hid h2.src; have B2 := Lib.hid (A2.out.trans h3); have A3 := Lib.hid (A1.out.fr h3 fun _ _ x => x); have y0 := (A2.out.trans h3).cell c0 (fun x => x); have y1 := (A2.out.trans h3).cell e0 (fun x => x); have y2 := (A2.out.trans h3).cell x0 (fun x => x); clear h2 h3 h4)
        | (go_at_call 11; refine disk_read (HD.out.fr HF.out fun _ _ x => x) nm ?_; intro vr ga b1 c1 w3 h1 h2 h3 _ _; rw [HRD.out] at h1; cases h1; obtain ⟨p3, c3, rfl, _⟩ := Sl.form h2; have A1 := Lib.hid h2.src; have A2 := Lib.hid h3; have z0 := h3.cell c0 (fun x => x); have z2 := h3.cell x0 (fun x => x); clear h2 h3))
      have HSQ := Lib.hid (sameB_quiet _ _ ga gr bs bs w4 A3.out B1.out)
      rw [decide_eq_true rfl] at HSQ
      go_quiet ((go_at_call 37; exact HSQ.out _))
      go_wp2_with fail
      exact ⟨⟨k + 1, by go_num, by omega, (HFk.out.trans B2.out).trans (Fr.drewN _ _ _)⟩, by simp [intOf]; omega⟩
    · obtain rfl : k = fs.length := by omega
      have HF := Lib.hid (F2.out.trans hF)
      clear hF
      go_wp2_with fail
      exact HQ.out _ HF.out
end Go.Proofs.Ythjpjekaiflibaa
