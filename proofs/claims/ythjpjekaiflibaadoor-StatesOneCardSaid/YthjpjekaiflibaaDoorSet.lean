/- A promise is set. -/
import Derived.Test.YthjpjekaiflibaaDoorPromise
namespace Go.Proofs.YthjpjekaiflibaaDoor
open Go.RowKit
def vowB (t v : Nat) : List UInt8 := frameD (num t ++ num v)
def setD (t v : Nat) (lost : Bool) (M : DM) (t' v' : Nat) : Int × Nat × Nat × Bool × DM :=
  if lost = true then (17, t, v, true, M)
  else if mayD t v t' v' = false then (1, t, v, false, M)
  else if t' = t ∧ v' = v then (0, t, v, false, M)
  else if (M.put nState (vowB t' v')).1 = 0 then (0, t', v', false, (M.put nState (vowB t' v')).2) else (17, t, v, true, (M.put nState (vowB t' v')).2)
/-- What Set owes. -/
def SetOwes (w : World) (bp bd : Nat) (O : List Nat) (r : Int × Nat × Nat × Bool × DM) (R : Ending → World → Prop) : Prop :=
  ∀ w' O', PromiseAt w' bp r.2.1 r.2.2.1 bd r.2.2.2.1 → DiskAt w' bd r.2.2.2.2 O' → Fr (fun k => k = bp ∨ k ∈ O) w w' → (∀ k ∈ O', k ∈ O ∨ w.heap.size ≤ k) → R (.returned (.int .i64 r.1)) w'
set_option maxRecDepth 100000 in
set_option maxHeartbeats 8000000 in
theorem set_any {R : Ending → World → Prop} {w : World} {bp t v bd : Nat} {lost : Bool} {M : DM} {O : List Nat} (h : PromiseAt w bp t v bd lost) (hd : DiskAt w bd M O) (hno : bp ∉ O) (ht : Tab w) (t' v' : Nat) (ht' : t' < 18446744073709551616) (hv' : v' < 256)
    (hR : SetOwes w bp bd O (setD t v lost M t' v') R) :
    Calls Tryd.prog 11 #[.pointer (some ⟨bp, 0, none⟩), .int .u64 t', .int .u8 v'] w R := by
  have HR := Lib.hid hR
  have hFa : Fr No w (w.alloc (.cells #[.int .u64 t', .int .u8 v'] 24)) := Fr.alloc _ _ _
  have hPa := h.fr hFa fun x => x
  have hq := heap_new w (.cells #[.int .u64 t', .int .u8 v'] 24)
  have HDa := Lib.hid (hd.fr hFa fun _ _ x => x)
  have HTa := Lib.hid (ht.fr hFa fun x => x)
  have HFa := Lib.hid hFa
  have HP := Lib.hid hPa
  have p0 : (w.alloc (.cells #[.int .u64 t', .int .u8 v'] 24)).cell? ⟨bp, 0, none⟩ = some (.int .u64 t) := cell_at hPa 0 rfl
  have p1 : (w.alloc (.cells #[.int .u64 t', .int .u8 v'] 24)).cell? ⟨bp, 1, none⟩ = some (.int .u8 v) := cell_at hPa 1 rfl
  have p2 : (w.alloc (.cells #[.int .u64 t', .int .u8 v'] 24)).cell? ⟨bp, 2, none⟩ = some (.pointer (some ⟨bd, 0, none⟩)) := cell_at hPa 2 rfl
  have p3 : (w.alloc (.cells #[.int .u64 t', .int .u8 v'] 24)).cell? ⟨bp, 3, none⟩ = some (.bool lost) := cell_at hPa 3 rfl
  have q0 : (w.alloc (.cells #[.int .u64 t', .int .u8 v'] 24)).cell? ⟨w.heap.size, 0, none⟩ = some (.int .u64 t') := cell_at hq 0 rfl
  have q1 : (w.alloc (.cells #[.int .u64 t', .int .u8 v'] 24)).cell? ⟨w.heap.size, 1, none⟩ = some (.int .u8 v') := cell_at hq 1 rfl
  clear hR hFa hPa hq h hd ht
  generalize hwa : w.alloc (.cells #[.int .u64 t', .int .u8 v'] 24) = wa at *
  have HWA := Lib.hid hwa
  clear hwa
  cases lost
  · cases hm : mayD t v t' v'
    · have hr : setD t v false M t' v' = (1, t, v, false, M) := by simp [setD, hm]
      rw [hr] at HR
      clear hr
      have HMAY := Lib.hid hm
      clear hm
      go_enter Tryd.func11, Tryd.ntmps11
      go_upto_region 2 with fail
      rw [HWA.out]
      go_upto_region 6 with fail
      go_region_with (go_at_call 44; refine may_any t v t' v' _ ?_; intro wb hFb; rw [HMAY.out]; have HFb := Lib.hid hFb; clear hFb)
      all_goals
        go_wp2_with fail
        have hFw := (HFa.out.trans (Fr.drew No wa)).trans HFb.out
        have hFw2 := (Fr.drew No wa).trans HFb.out
        exact HR.out _ O (HP.out.fr hFw2 fun x => x) (HDa.out.fr hFw2 fun _ _ x => x) hFw.of_no fun _ h => .inl h
    · have HMAY := Lib.hid hm
      by_cases hsame : t' = t ∧ v' = v
      · have hr : setD t v false M t' v' = (0, t, v, false, M) := by rw [setD, if_neg (by decide), if_neg (by rw [hm]; decide), if_pos hsame]
        rw [hr] at HR
        clear hr hm
        obtain ⟨rfl, rfl⟩ := hsame
        go_enter Tryd.func11, Tryd.ntmps11
        go_upto_region 2 with fail
        rw [HWA.out]
        go_upto_region 6 with fail
        go_region_with (go_at_call 44; refine may_any t' v' t' v' _ ?_; intro wb hFb; rw [HMAY.out]; have r0 := hFb.cell p0 (fun x => x); have r1 := hFb.cell p1 (fun x => x); have s0 := hFb.cell q0 (fun x => x); have s1 := hFb.cell q1 (fun x => x); have HFb := Lib.hid hFb; clear hFb)
        all_goals
          go_upto_region 8 with fail
          go_quiet (fail)
          go_wp2_with fail
          have hFw2 := ((Fr.drew No wa).trans HFb.out).trans (Fr.drewN No wb nq)
          have hFw := HFa.out.trans hFw2
          exact HR.out _ O (HP.out.fr hFw2 fun x => x) (HDa.out.fr hFw2 fun _ _ x => x) hFw.of_no fun _ h => .inl h
      · obtain ⟨b1, hb1⟩ : ∃ b1, num t' = b1 := ⟨_, rfl⟩
        obtain ⟨b2, hb2⟩ : ∃ b2, b1 ++ num v' = b2 := ⟨_, rfl⟩
        obtain ⟨frm, hfrm⟩ : ∃ frm, frameD b2 = frm := ⟨_, rfl⟩
        have hl1 : b1.length ≤ 140737488355000 := by rw [← hb1]; have := num_ten ht'; omega
        have hl2 : b2.length ≤ 8192 := by
          rw [← hb2, List.length_append, ← hb1]
          have := num_ten ht'
          have := num_ten (n := v') (by omega)
          omega
        have hvow : vowB t' v' = frm := by rw [vowB, hb1, hb2, hfrm]
        have HB1 := Lib.hid hb1
        have HB2 := Lib.hid hb2
        have HFRM := Lib.hid hfrm
        have HVOW := Lib.hid hvow
        clear hb1 hb2 hfrm hvow
        go_enter Tryd.func11, Tryd.ntmps11
        go_upto_region 2 with fail
        rw [HWA.out]
        go_upto_region 6 with fail
        go_region_with (go_at_call 44; refine may_any t v t' v' _ ?_; intro wb hFb; rw [HMAY.out]; have r0 := hFb.cell p0 (fun x => x); have r1 := hFb.cell p1 (fun x => x); have r2 := hFb.cell p2 (fun x => x); have s0 := hFb.cell q0 (fun x => x); have s1 := hFb.cell q1 (fun x => x); have HFb := Lib.hid hFb; clear hFb)
        all_goals
          go_upto_region 8 with fail
          by_cases ht2 : t = t'
          · have hv2 : ¬ v = v' := fun e => hsame ⟨ht2.symm, e.symm⟩
            have hv3 : ¬ (v : Int) = (v' : Int) := by omega
            have ht3 : (t : Int) = (t' : Int) := by omega
            clear ht2
            go_quiet (fail)
            clear ht3 hv3 hv2
            have hFw2 := ((Fr.drew No wa).trans HFb.out).trans (Fr.drewN No wb nq)
            have HFW := Lib.hid hFw2
            have HDw := Lib.hid (HDa.out.fr hFw2 fun _ _ x => x)
            have HTw := Lib.hid (HTa.out.fr hFw2 fun x => x)
            have HPw := Lib.hid (HP.out.fr hFw2 fun x => x)
            have x2 : (wb.drewN nq).cell? ⟨bp, 2, none⟩ = some (.pointer (some ⟨bd, 0, none⟩)) := cell_at HPw.out 2 rfl
            clear hFw2 r0 r1 r2 s0 s1 p0 p1 p2 p3 q0 q1 HDa HTa HP
            generalize wb.drewN nq = wd at *
            go_upto_region 11 with (first
              | (go_at_call 45; refine fput_any _ _ none g2 [] b2 w2 (HTw.out.fr N5.out fun x => x) (By.nil _).src N4.out.src (fun k e => by cases e) (fun k hk => Sl.lt N4.out k hk) (by simp) hl2 ?_; intro v3 g3 w3 h1 h2 h3; rw [List.nil_append, HFRM.out] at h1; obtain ⟨p3, c3, rfl, _⟩ := Sl.form h1; have G1 := Lib.hid h1; have G2 := Lib.hid (N5.out.trans h2); have G3 := Lib.hid h3; clear h1 h2 h3)
              | (go_at_call 46; refine num_any _ g1 b1 v' w1 N1.out.src hl1 (by omega) ?_; intro v2 g2 w2 h1 h2 h3; rw [HB2.out] at h1; obtain ⟨p2, c2, rfl, _⟩ := Sl.form h1; have N4 := Lib.hid h1; have N5 := Lib.hid (N2.out.trans h2); clear h1 h2 h3)
              | (go_at_call 46; refine num_any _ none [] t' wd (By.nil wd).src (by simp) (by omega) ?_; intro v1 g1 w1 h1 h2 h3; rw [List.nil_append, HB1.out] at h1; obtain ⟨p1, c1, rfl, _⟩ := Sl.form h1; have N1 := Lib.hid h1; have N2 := Lib.hid h2; clear h1 h2 h3))
            have x2' := G2.out.cell x2 (fun x => x)
            obtain ⟨cc, M', hput⟩ : ∃ cc M', M.put nState frm = (cc, M') := ⟨_, _, rfl⟩
            have HPUT := Lib.hid hput
            have HDy := Lib.hid (HDw.out.fr G2.out fun _ _ x => x)
            have HPy := Lib.hid (HPw.out.fr G2.out fun x => x)
            have hg3 : ∀ k, g3 = some k → k ∉ O := fun k hk hO => by
              have := G3.out k hk
              have := N5.out.size
              have := HDw.out.lt k hO
              omega
            have HG3 := Lib.hid hg3
            have HNO := Lib.hid hno
            clear hput hg3
            by_cases hc : cc = 0
            · subst hc
              have hr : setD t v false M t' v' = (0, t', v', false, M') := by rw [setD, if_neg (by decide), if_neg (by rw [hm]; decide), if_neg hsame, HVOW.out, HPUT.out, if_pos rfl]
              rw [hr] at HR
              clear hr
              go_wp2_with (go_at_call 38; refine disk_put HDy.out nState _ g3 frm G1.out.src HG3.out ?_; intro c' w4 M2 O4 h1 h2 h3; rw [HPUT.out] at h1; cases h1; have D4 := Lib.hid h2; have F4 := Lib.hid h3.1; have L4 := Lib.hid h3.2; have hP4 := HPy.out.fr h3.1 HNO.out; have P4 := Lib.hid hP4; have y0 := cell_at hP4 0 rfl; have y1 := cell_at hP4 1 rfl; have z0 := free_at hP4 0; have z1 := free_at hP4 1; clear h2 h3 hP4)
              have hsz : w.heap.size ≤ w3.heap.size := by
                have h1 := HFa.out.size
                have h2 := HFW.out.size
                have h3 := G2.out.size
                omega
              have hb4 : bp ∉ O4 := fun e => by
                rcases L4.out bp e with h | h
                · exact HNO.out h
                · have := block_lt HPy.out
                  omega
              have hF5 : Fr (Is (some bp)) w4 ((w4.setCell ⟨bp, 0, none⟩ (.int .u64 t')).setCell ⟨bp, 1, none⟩ (.int .u8 v')) := (Fr.set w4 bp 0 _).trans (Fr.set _ bp 1 _)
              have hA : Fr (fun k => k = bp ∨ k ∈ O) w w3 := ((HFa.out.trans HFW.out).trans G2.out).of_no
              refine HR.out _ O4 ?_ (D4.out.fr hF5 fun k hk e => hb4 (by cases e; exact hk)) ((hA.trans (F4.out.mono fun i _ hi => .inr hi)).trans (hF5.mono fun i _ hi => .inl (by cases hi; rfl))) fun k hk => ?_
              · show PromiseAt _ bp t' v' bd false
                unfold PromiseAt
                rw [setCell_box (setCell_box P4.out _)]
                simp
              · rcases L4.out k hk with h | h
                · exact .inl h
                · exact .inr (by omega)
            · have hr : setD t v false M t' v' = (17, t, v, true, M') := by rw [setD, if_neg (by decide), if_neg (by rw [hm]; decide), if_neg hsame, HVOW.out, HPUT.out, if_neg hc]
              rw [hr] at HR
              clear hr
              go_wp2_with (go_at_call 38; refine disk_put HDy.out nState _ g3 frm G1.out.src HG3.out ?_; intro c' w4 M2 O4 h1 h2 h3; rw [HPUT.out] at h1; cases h1; have D4 := Lib.hid h2; have F4 := Lib.hid h3.1; have L4 := Lib.hid h3.2; have hP4 := HPy.out.fr h3.1 HNO.out; have P4 := Lib.hid hP4; have y3 := cell_at hP4 3 rfl; have z3 := free_at hP4 3; clear h2 h3 hP4)
              have hsz : w.heap.size ≤ w3.heap.size := by
                have h1 := HFa.out.size
                have h2 := HFW.out.size
                have h3 := G2.out.size
                omega
              have hb4 : bp ∉ O4 := fun e => by
                rcases L4.out bp e with h | h
                · exact HNO.out h
                · have := block_lt HPy.out
                  omega
              have hF5 : Fr (Is (some bp)) w4 (w4.setCell ⟨bp, 3, none⟩ (.bool true)) := Fr.set w4 bp 3 _
              have hA : Fr (fun k => k = bp ∨ k ∈ O) w w3 := ((HFa.out.trans HFW.out).trans G2.out).of_no
              refine HR.out _ O4 ?_ (D4.out.fr hF5 fun k hk e => hb4 (by cases e; exact hk)) ((hA.trans (F4.out.mono fun i _ hi => .inr hi)).trans (hF5.mono fun i _ hi => .inl (by cases hi; rfl))) fun k hk => ?_
              · show PromiseAt _ bp t v bd true
                unfold PromiseAt
                rw [setCell_box P4.out]
                simp
              · rcases L4.out k hk with h | h
                · exact .inl h
                · exact .inr (by omega)
          · have ht3 : ¬ (t : Int) = (t' : Int) := by omega
            clear ht2
            go_quiet (fail)
            clear ht3
            have hFw2 := ((Fr.drew No wa).trans HFb.out).trans (Fr.drewN No wb nq)
            have HFW := Lib.hid hFw2
            have HDw := Lib.hid (HDa.out.fr hFw2 fun _ _ x => x)
            have HTw := Lib.hid (HTa.out.fr hFw2 fun x => x)
            have HPw := Lib.hid (HP.out.fr hFw2 fun x => x)
            have x2 : (wb.drewN nq).cell? ⟨bp, 2, none⟩ = some (.pointer (some ⟨bd, 0, none⟩)) := cell_at HPw.out 2 rfl
            clear hFw2 r0 r1 r2 s0 s1 p0 p1 p2 p3 q0 q1 HDa HTa HP
            generalize wb.drewN nq = wd at *
            go_upto_region 11 with (first
              | (go_at_call 45; refine fput_any _ _ none g2 [] b2 w2 (HTw.out.fr N5.out fun x => x) (By.nil _).src N4.out.src (fun k e => by cases e) (fun k hk => Sl.lt N4.out k hk) (by simp) hl2 ?_; intro v3 g3 w3 h1 h2 h3; rw [List.nil_append, HFRM.out] at h1; obtain ⟨p3, c3, rfl, _⟩ := Sl.form h1; have G1 := Lib.hid h1; have G2 := Lib.hid (N5.out.trans h2); have G3 := Lib.hid h3; clear h1 h2 h3)
              | (go_at_call 46; refine num_any _ g1 b1 v' w1 N1.out.src hl1 (by omega) ?_; intro v2 g2 w2 h1 h2 h3; rw [HB2.out] at h1; obtain ⟨p2, c2, rfl, _⟩ := Sl.form h1; have N4 := Lib.hid h1; have N5 := Lib.hid (N2.out.trans h2); clear h1 h2 h3)
              | (go_at_call 46; refine num_any _ none [] t' wd (By.nil wd).src (by simp) (by omega) ?_; intro v1 g1 w1 h1 h2 h3; rw [List.nil_append, HB1.out] at h1; obtain ⟨p1, c1, rfl, _⟩ := Sl.form h1; have N1 := Lib.hid h1; have N2 := Lib.hid h2; clear h1 h2 h3))
            have x2' := G2.out.cell x2 (fun x => x)
            obtain ⟨cc, M', hput⟩ : ∃ cc M', M.put nState frm = (cc, M') := ⟨_, _, rfl⟩
            have HPUT := Lib.hid hput
            have HDy := Lib.hid (HDw.out.fr G2.out fun _ _ x => x)
            have HPy := Lib.hid (HPw.out.fr G2.out fun x => x)
            have hg3 : ∀ k, g3 = some k → k ∉ O := fun k hk hO => by
              have := G3.out k hk
              have := N5.out.size
              have := HDw.out.lt k hO
              omega
            have HG3 := Lib.hid hg3
            have HNO := Lib.hid hno
            clear hput hg3
            by_cases hc : cc = 0
            · subst hc
              have hr : setD t v false M t' v' = (0, t', v', false, M') := by rw [setD, if_neg (by decide), if_neg (by rw [hm]; decide), if_neg hsame, HVOW.out, HPUT.out, if_pos rfl]
              rw [hr] at HR
              clear hr
              go_wp2_with (go_at_call 38; refine disk_put HDy.out nState _ g3 frm G1.out.src HG3.out ?_; intro c' w4 M2 O4 h1 h2 h3; rw [HPUT.out] at h1; cases h1; have D4 := Lib.hid h2; have F4 := Lib.hid h3.1; have L4 := Lib.hid h3.2; have hP4 := HPy.out.fr h3.1 HNO.out; have P4 := Lib.hid hP4; have y0 := cell_at hP4 0 rfl; have y1 := cell_at hP4 1 rfl; have z0 := free_at hP4 0; have z1 := free_at hP4 1; clear h2 h3 hP4)
              have hsz : w.heap.size ≤ w3.heap.size := by
                have h1 := HFa.out.size
                have h2 := HFW.out.size
                have h3 := G2.out.size
                omega
              have hb4 : bp ∉ O4 := fun e => by
                rcases L4.out bp e with h | h
                · exact HNO.out h
                · have := block_lt HPy.out
                  omega
              have hF5 : Fr (Is (some bp)) w4 ((w4.setCell ⟨bp, 0, none⟩ (.int .u64 t')).setCell ⟨bp, 1, none⟩ (.int .u8 v')) := (Fr.set w4 bp 0 _).trans (Fr.set _ bp 1 _)
              have hA : Fr (fun k => k = bp ∨ k ∈ O) w w3 := ((HFa.out.trans HFW.out).trans G2.out).of_no
              refine HR.out _ O4 ?_ (D4.out.fr hF5 fun k hk e => hb4 (by cases e; exact hk)) ((hA.trans (F4.out.mono fun i _ hi => .inr hi)).trans (hF5.mono fun i _ hi => .inl (by cases hi; rfl))) fun k hk => ?_
              · show PromiseAt _ bp t' v' bd false
                unfold PromiseAt
                rw [setCell_box (setCell_box P4.out _)]
                simp
              · rcases L4.out k hk with h | h
                · exact .inl h
                · exact .inr (by omega)
            · have hr : setD t v false M t' v' = (17, t, v, true, M') := by rw [setD, if_neg (by decide), if_neg (by rw [hm]; decide), if_neg hsame, HVOW.out, HPUT.out, if_neg hc]
              rw [hr] at HR
              clear hr
              go_wp2_with (go_at_call 38; refine disk_put HDy.out nState _ g3 frm G1.out.src HG3.out ?_; intro c' w4 M2 O4 h1 h2 h3; rw [HPUT.out] at h1; cases h1; have D4 := Lib.hid h2; have F4 := Lib.hid h3.1; have L4 := Lib.hid h3.2; have hP4 := HPy.out.fr h3.1 HNO.out; have P4 := Lib.hid hP4; have y3 := cell_at hP4 3 rfl; have z3 := free_at hP4 3; clear h2 h3 hP4)
              have hsz : w.heap.size ≤ w3.heap.size := by
                have h1 := HFa.out.size
                have h2 := HFW.out.size
                have h3 := G2.out.size
                omega
              have hb4 : bp ∉ O4 := fun e => by
                rcases L4.out bp e with h | h
                · exact HNO.out h
                · have := block_lt HPy.out
                  omega
              have hF5 : Fr (Is (some bp)) w4 (w4.setCell ⟨bp, 3, none⟩ (.bool true)) := Fr.set w4 bp 3 _
              have hA : Fr (fun k => k = bp ∨ k ∈ O) w w3 := ((HFa.out.trans HFW.out).trans G2.out).of_no
              refine HR.out _ O4 ?_ (D4.out.fr hF5 fun k hk e => hb4 (by cases e; exact hk)) ((hA.trans (F4.out.mono fun i _ hi => .inr hi)).trans (hF5.mono fun i _ hi => .inl (by cases hi; rfl))) fun k hk => ?_
              · show PromiseAt _ bp t v bd true
                unfold PromiseAt
                rw [setCell_box P4.out]
                simp
              · rcases L4.out k hk with h | h
                · exact .inl h
                · exact .inr (by omega)
  · have hr : setD t v true M t' v' = (17, t, v, true, M) := by simp [setD]
    rw [hr] at HR
    clear hr
    go_enter Tryd.func11, Tryd.ntmps11
    go_upto_region 2 with fail
    rw [HWA.out]
    go_wp2_with fail
    exact HR.out _ O HP.out HDa.out (HFa.out.of_no) fun _ h => .inl h
end Go.Proofs.YthjpjekaiflibaaDoor
