/- The law of one vote a term: whatever is asked, wherever the disk fails, and whatever is lost. -/
import Derived.Test.YthjpjekaiflibaaDoorOneS
namespace Go.Proofs.YthjpjekaiflibaaDoor
open Go.RowKit
theorem toList_none {w0 w : World} {bp bd : Nat} {M : DM} {O : List Nat} {mb n : Nat} {f : Nat → Nat} (_h : OneB w0 w bp bd M O mb n f) : True := trivial
/-- Asks in a row. -/
structure AskAt (w : World) (b o k : Nat) (A : AskD) : Prop where
  c0 : w.cell? ⟨b, o + k * 4, none⟩ = some (.int .u8 A.term)
  c1 : w.cell? ⟨b, o + k * 4 + 1, none⟩ = some (.int .u8 A.vote)
  c2 : w.cell? ⟨b, o + k * 4 + 2, none⟩ = some (.int .u8 A.fuse)
  c3 : w.cell? ⟨b, o + k * 4 + 3, none⟩ = some (.int .i64 A.loss)
  t8 : A.term < 256
  v8 : A.vote < 256
  f8 : A.fuse < 256
  l64 : -9223372036854775808 ≤ A.loss ∧ A.loss ≤ 9223372036854775807
theorem AskAt.fr {S : Nat → Prop} {w w' : World} {b o k : Nat} {A : AskD} (h : AskAt w b o k A) (hF : Fr S w w') (hs : ¬ S b) : AskAt w' b o k A :=
  ⟨hF.cell h.c0 hs, hF.cell h.c1 hs, hF.cell h.c2 hs, hF.cell h.c3 hs, h.t8, h.v8, h.f8, h.l64⟩
def AsksV (w : World) (v : Value) (L : List AskD) : Prop :=
  ∃ p c, v = .slice p L.length c ∧ L.length ≤ c ∧ c ≤ maxLen ∧ (L.length = 0 ∨ ∃ b o, p = some ⟨b, o, none⟩ ∧ b < w.heap.size ∧ ∀ i (hi : i < L.length), AskAt w b o i L[i])
def OneRel (w0 : World) (bd mb : Nat) (L : List AskD) (p term i : Value) (w' : World) : Prop :=
  ∃ (k bp t v n : Nat) (M : DM) (O : List Nat) (f : Nat → Nat), i = .int .i64 k ∧ k ≤ L.length ∧ p = .pointer (some ⟨bp, 0, none⟩) ∧ term = .int .u64 t ∧ OneB w0 w' bp bd M O mb n f ∧ PromiseAt w' bp t v bd false ∧ M.dead = false ∧ FileIs M t v ∧
    n ≤ k ∧ t ≤ 2 * k ∧ v < 256 ∧ (∀ j, t < j → f j = 0) ∧ (f t = 0 ∨ f t = v)
theorem one_end {w0 w : World} {bp bd t n t2 v2 : Nat} {M2 : DM} {O : List Nat} {mb : Nat} {f : Nat → Nat} {L : List AskD} {k : Nat} (hk : k < L.length) (hB : OneB w0 w bp bd M2 O mb (n + 1) fun j => if j = t2 then v2 else f j) (hP : PromiseAt w bp t2 v2 bd false) (hd : M2.dead = false) (hf : FileIs M2 t2 v2)
    (hn : n ≤ k) (hle : t ≤ t2) (h2 : t2 ≤ 2 * (k + 1)) (hv : v2 < 256) (hall : ∀ j, t < j → f j = 0) {i : Value} (hi : i = .int .i64 ((k + 1 : Nat) : Int)) : OneRel w0 bd mb L (.pointer (some ⟨bp, 0, none⟩)) (.int .u64 t2) i w :=
  ⟨k + 1, bp, t2, v2, n + 1, M2, O, _, hi, hk, rfl, rfl, hB, hP, hd, hf, by omega, h2, hv, fun j hj => by rw [if_neg (by omega)]; exact hall j (by omega), .inr (by rw [if_pos rfl])⟩
/-- Between the steps of a round. -/
structure MidS (w0 w : World) (bp bd t v : Nat) (M : DM) (O : List Nat) (mb n : Nat) (f : Nat → Nat) (bx : Nat) (A : AskD) : Prop where
  b : OneB w0 w bp bd M O mb n f
  p : PromiseAt w bp t v bd false
  d : M.dead = false
  f : FileIs M t v
  x : BoxAt w bp O bx A
/-- Of one term it never has a vote for two. -/
theorem one_vote {t v t' v' : Nat} {f : Nat → Nat} (hm : mayD t v t' v' = true) (hall : ∀ j, t < j → f j = 0) (h0 : f t = 0 ∨ f t = v) : t ≤ t' ∧ (f t' = 0 ∨ f t' = v') := by
  simp only [mayD, Bool.or_eq_true, Bool.and_eq_true, decide_eq_true_eq] at hm
  rcases hm with h | ⟨rfl, rfl⟩ | ⟨rfl, rfl⟩
  · exact ⟨by omega, .inl (hall _ h)⟩
  · exact ⟨Nat.le_refl _, h0⟩
  · exact ⟨Nat.le_refl _, .inl (by rcases h0 with h | h <;> exact h)⟩
theorem set_mid {M M2 : DM} {t v tt vt : Nat} {e : Int} {t2 v2 : Nat} {l2 : Bool} {f : Nat → Nat} {b : Nat} (h : FileIs M t v) (hd : M.dead = false) (htt : tt < 18446744073709551616) (hvt : vt < 256) (hv : v < 256) (htb : t ≤ b) (httb : tt ≤ b) (hall : ∀ j, t < j → f j = 0) (hft : f t = 0 ∨ f t = v) (hs : setD t v false M tt vt = (e, t2, v2, l2, M2)) :
    (FileIs M2 t2 v2 ∧ t ≤ t2 ∧ t2 ≤ b ∧ v2 < 256 ∧ (f t2 = 0 ∨ f t2 = v2)) ∧ ((e = 0 ∧ l2 = false ∧ M2.dead = false ∧ t2 = tt ∧ v2 = vt) ∨ (e = 1 ∧ l2 = false ∧ M2.dead = false) ∨ (e = 17 ∧ l2 = true)) := by
  rcases set_file h htt hvt hs with ⟨rfl, rfl, rfl, rfl, hm, h1, h2⟩ | ⟨rfl, rfl, rfl, rfl, rfl⟩ | ⟨rfl, rfl, rfl, rfl, h1⟩
  · obtain ⟨k1, k2⟩ := one_vote hm hall hft
    exact ⟨⟨h1, k1, httb, hvt, k2⟩, .inl ⟨rfl, rfl, h2.trans hd, rfl, rfl⟩⟩
  · exact ⟨⟨h, Nat.le_refl _, htb, hv, hft⟩, .inr (.inl ⟨rfl, rfl, hd⟩)⟩
  · exact ⟨⟨file_files h h1, Nat.le_refl _, htb, hv, hft⟩, .inr (.inr ⟨rfl, rfl⟩)⟩
set_option maxRecDepth 100000 in
set_option maxHeartbeats 40000000 in
theorem one20_any {R : Ending → World → Prop} (w : World) (ht : Tab w) (h0 : 0 < w.heap.size) (v : Value) (L : List AskD) (h : AsksV w v L) (hR : ∀ w', Fr No w w' → R (.returned (.bool true)) w') :
    Calls Tryd.prog 7 #[v] w R := by
  have HR := Lib.hid hR
  have HT := Lib.hid ht
  have H0 := Lib.hid h0
  have HV := Lib.hid h
  obtain ⟨p, c, rfl, hpc, hcm, _⟩ := h
  unfold maxLen at hcm
  clear hR ht h0
  by_cases hlen : 200 < L.length
  · have jl : (200 : Int) < (L.length : Int) := by omega
    go_enter Tryd.func7, Tryd.ntmps7
    go_wp2_with (go_at_call 14; refine lives20_any _ HT.out H0.out ?_; intro wz hFz; have HFz := Lib.hid hFz; clear hFz)
    exact HR.out _ HFz.out
  · have jl : (L.length : Int) ≤ 200 := by omega
    have hmm := @run_makeMap Tryd.prog
    go_enter Tryd.func7, Tryd.ntmps7
    go_upto_region 4 with (go_at_call 19; refine disk_new _ ?_; intro bd O1 w1 hD hM _; have D1 := Lib.hid hD; have M1 := Lib.hid hM; clear hD hM)
    go_upto_region 5 with (go_at_call 10; refine open_new D1.out read_new ?_; intro bp w2 hP hD hbp hF hge; have P2 := Lib.hid hP; have D2 := Lib.hid hD; have BN := Lib.hid hbp; have F2 := Lib.hid hF; have GE := Lib.hid hge; clear hP hD hbp hF hge)
    go_wp2_with fail
    have HM1 := Lib.hid M1.out.no
    have hF3 : Fr No w (w2.alloc (.map #[] 0)) := (HM1.out.trans F2.out).trans (Fr.alloc _ _ _)
    have hB0 : OneB w (w2.alloc (.map #[] 0)) bp bd ⟨[], -1, false⟩ O1 w2.heap.size 0 fun _ => 0 := by
      have hz1 := HM1.out.size
      have hz2 := F2.out.size
      have hge := GE.out
      have hbl := block_lt P2.out
      exact ⟨D2.out.fr (Fr.alloc No _ _) fun _ _ x => x, HT.out.fr hF3 fun x => x, hF3, fun k hk => by rcases M1.out.2 k hk with h | h; cases h; exact h, H0.out, BN.out, by omega, by simp; omega, VotedAt.made w2, fun hk => by have := D2.out.lt _ hk; omega, by omega, by omega⟩
    have HB0 := Lib.hid hB0
    have HP0 := Lib.hid (P2.out.fr (Fr.alloc No w2 (.map #[] 0)) fun x => x)
    clear hF3 hB0 hmm
    go_loopw [4, 6, 8] (fun p term i wr => OneRel w bd w2.heap.size L p term i wr) (fun _ _ i _ => 300 - (intOf i).toNat)
    case atStart => exact ⟨0, bp, 0, 0, 0, _, O1, _, rfl, by omega, rfl, rfl, HB0.out, HP0.out, rfl, .inl ⟨rfl, rfl, rfl⟩, by omega, by omega, by omega, fun _ _ => rfl, .inl rfl⟩
    case round =>
      clear HB0 HP0 P2 D2 BN F2 GE HM1 M1 D1
      generalize w2.heap.size = mb at *
      obtain ⟨k, bp, t, v, n, M, O, f, rfl, hk, rfl, rfl, hB, hP, hd, hf, hn, ht2, hv, hall, hft⟩ := hrel
      by_cases hlt : k < L.length
      · obtain ⟨b, o, A, rfl, hA⟩ : ∃ b o A, p = some ⟨b, o, none⟩ ∧ AskAt wr b o k A := by
          obtain ⟨p', c', e, _, _, h0 | ⟨b, o, e1, _, he⟩⟩ := HV.out
          · omega
          · refine ⟨b, o, L[k], ?_, (he k hlt).fr hB.fw fun x => x⟩
            have : p = p' ∧ c = c' := by simpa using e
            exact this.1.trans e1
        obtain ⟨c0, c1, c2, c3, t8, v8, f8, l64⟩ := hA
        have ik : (0 : Int) ≤ (k : Int) := by omega
        have il : (k : Int) < (L.length : Int) := by omega
        have HB := Lib.hid hB
        have HP := Lib.hid hP
        have HFI := Lib.hid hf
        have HALL := Lib.hid hall
        have HFT := Lib.hid hft
        have HDD := Lib.hid hd
        clear hB hP hf hall hft hd
        go_upto_region 13 with fail
        have hbx := heap_new wr (.cells #[.int .u8 A.term, .int .u8 A.vote, .int .u8 A.fuse, .int .i64 A.loss] 89)
        have hFa : Fr No wr (wr.alloc (.cells #[.int .u8 A.term, .int .u8 A.vote, .int .u8 A.fuse, .int .i64 A.loss] 89)) := Fr.alloc _ _ _
        have HBa := Lib.hid (HB.out.no hFa)
        have HPa := Lib.hid (HP.out.fr hFa fun x => x)
        have HX := Lib.hid (BoxAt.mk (bp := bp) (O := O) (bx := wr.heap.size) (A := A) hbx (fun hj => by have := HB.out.d.lt _ hj; omega) (by have := HB.out.bl; omega))
        clear hbx hFa c0 c1 c2 c3 HB HP
        generalize wr.alloc (.cells #[.int .u8 A.term, .int .u8 A.vote, .int .u8 A.fuse, .int .i64 A.loss] 89) = wa at *
        generalize wr.heap.size = bx at *
        have HMID := Lib.hid (MidS.mk HBa.out HPa.out HDD.out HFI.out HX.out)
        clear HBa HPa HX HFI HDD
        obtain ⟨fz, hfz⟩ : ∃ x, A.fuse % 8 = x := ⟨_, rfl⟩
        have jfz : (A.fuse : Int) % 8 = (fz : Int) := by omega
        have hfz8 : fz < 8 := by omega
        have d2 : wa.cell? ⟨bx, 2, none⟩ = some (.int .u8 A.fuse) := cell_at HMID.out.x.x 2 rfl
        clear hfz
        go_upto_if 40 with fail
        go_cut [] (fun wc => ∃ M1 O1, MidS w wc bp bd t v M1 O1 mb n f bx A)
        case first =>
          by_cases hz : fz = 0
          · subst hz
            go_wp2_with fail
            go_meet
            exact ⟨_, _, HMID.out⟩
          · have jz : (0 : Int) < (fz : Int) := by omega
            go_wp2_with (go_at_call 32; refine disk_fuse HMID.out.b.d _ (by omega) ?_; intro w2 hD hM; have HM2 := Lib.hid hM; have HD2 := Lib.hid hD; clear hM hD)
            go_meet
            exact ⟨_, _, HMID.out.b.disk HD2.out HM2.out, HMID.out.p.fr HM2.out.1 HMID.out.b.bn, HMID.out.d, file_files HMID.out.f rfl, HMID.out.x.disk HM2.out⟩
        case rest =>
        clear HMID d2 hfz8 jfz fz M O
        obtain ⟨M, O, hmid⟩ := hcut
        have HMID := Lib.hid hmid
        clear hmid
        obtain ⟨tt, hto⟩ : ∃ x, t + A.term % 3 = x := ⟨_, rfl⟩
        obtain ⟨vt, hvt⟩ : ∃ x, A.vote % 4 = x := ⟨_, rfl⟩
        have jto : (t : Int) + (A.term : Int) % 3 = (tt : Int) := by omega
        have jvt : (A.vote : Int) % 4 = (vt : Int) := by omega
        have hto2 : tt ≤ 2 * (k + 1) := by omega
        have htole : t ≤ tt := by omega
        have hvt8 : vt < 256 := by omega
        have HX := Lib.hid HMID.out.x.x
        have d0 : wc.cell? ⟨bx, 0, none⟩ = some (.int .u8 A.term) := cell_at HX.out 0 rfl
        have d1 : wc.cell? ⟨bx, 1, none⟩ = some (.int .u8 A.vote) := cell_at HX.out 1 rfl
        clear hto hvt
        obtain ⟨⟨e, t2, v2, l2, M2⟩, hset⟩ : ∃ r, setD t v false M tt vt = r := ⟨_, rfl⟩
        have hsf := set_mid (b := 2 * (k + 1)) HMID.out.f HMID.out.d (by omega) hvt8 hv (by omega) hto2 HALL.out HFT.out hset
        have HSET := Lib.hid hset
        have HSF := Lib.hid hsf
        clear hset hsf
        go_upto_region 17 with (go_at_call 12; refine (term_any HMID.out.p).mono ?_; rintro e w' ⟨rfl, rfl⟩)
        go_upto_region 18 with (go_at_call 11; refine set_any HMID.out.p HMID.out.b.d HMID.out.b.bn HMID.out.b.tab tt vt (by omega) hvt8 ?_; rw [HSET.out]; intro w3 O3 h1 h2 h3 h4; have HP3 := Lib.hid h1; have HB3 := Lib.hid (HMID.out.b.mv h2 h3 h4); have HX3 := Lib.hid (HMID.out.x.mv h3 h4); clear h1 h2 h3 h4)
        obtain ⟨⟨hfi, hle, h2k, hv2, hfv⟩, hcase⟩ := HSF.out
        have HFI2 := Lib.hid hfi
        have HFV := Lib.hid hfv
        have jle : ¬ (t2 : Int) < (t : Int) := by omega
        clear HSF HSET hfi hfv HMID HX HFT d0 d1
        rcases hcase with ⟨rfl, rfl, hde, h1, h2⟩ | ⟨rfl, rfl, hde⟩ | ⟨rfl, rfl⟩
        · subst h1 h2
          have HDE := Lib.hid hde
          have d1 : w3.cell? ⟨bx, 1, none⟩ = some (.int .u8 A.vote) := cell_at HX3.out.x 1 rfl
          have HTERM := Lib.hid fun m => ((term_any (HP3.out.fr (Fr.drewN No w3 m) fun x => x)).mono fun _ _ ⟨a, b⟩ => ⟨a, b.symm⟩ : Calls Tryd.prog 12 #[.pointer (some ⟨bp, 0, none⟩)] (w3.drewN m) fun e w' => e = .returned (.int .u64 t2) ∧ w' = w3.drewN m)
          have HVOTE := Lib.hid fun m => ((vote_any (HP3.out.fr (Fr.drewN No w3 m) fun x => x)).mono fun _ _ ⟨a, b⟩ => ⟨a, b.symm⟩ : Calls Tryd.prog 13 #[.pointer (some ⟨bp, 0, none⟩)] (w3.drewN m) fun e w' => e = .returned (.int .u8 v2) ∧ w' = w3.drewN m)
          clear hde
          go_quiet ((first | (go_at_call 12; exact Calls.quiet_of_same (HTERM.out _)) | (go_at_call 13; exact Calls.quiet_of_same (HVOTE.out _))))
          go_upto_region 25 with fail
          have HBt := Lib.hid (HB3.out.no (Fr.drewN No w3 nq))
          have HPt := Lib.hid (HP3.out.fr (Fr.drewN No w3 nq) fun x => x)
          have HDt := HDE
          have HFt := HFI2
          clear HB3 HP3 HX3
          generalize w3.drewN nq = wt at *
          go_upto_region 29 with (first
            | (go_at_call 12; refine (term_any HPt.out).mono ?_; rintro e w' ⟨rfl, rfl⟩)
            | (go_at_call 13; refine (vote_any HPt.out).mono ?_; rintro e w' ⟨rfl, rfl⟩))
          have hlook := HBt.out.m.look t2 (by omega)
          obtain ⟨w9, hst, hm9, hF9⟩ := HBt.out.m.store t2 v2 (by omega) hv2 (by unfold maxLen; omega)
          have hPe := HPt.out.fr hF9 fun e => HBt.out.mp (Option.some.inj e)
          have HEND := Lib.hid fun i hi => one_end (i := i) hlt (HBt.out.put hm9 hF9) hPe HDt.out HFt.out hn hle h2k hv2 HALL.out hi
          clear hm9 hF9 hPe HBt HPt HDt HFt
          rcases HFV.out with h9 | h9
          · rw [h9] at hlook
            clear h9
            go_wp2_with fail
            exact ⟨HEND.out _ (by go_num), by simp [intOf]; omega⟩
          · by_cases hv0 : v2 = 0
            · rw [h9, hv0] at hlook
              clear h9 hv0
              go_wp2_with fail
              exact ⟨HEND.out _ (by go_num), by simp [intOf]; omega⟩
            · rw [h9] at hlook
              clear h9
              have jv : ¬ (v2 : Int) = 0 := by omega
              have jv2 : ((v2 : Int) == 0) = false := by simp; omega
              go_wp2_with fail
              exact ⟨HEND.out _ (by go_num), by simp [intOf]; omega⟩
        · have HDE := Lib.hid hde
          clear hde
          go_quiet (fail)
          go_upto_region 25 with fail
          have HBt := Lib.hid (HB3.out.no (Fr.drewN No w3 nq))
          have HPt := Lib.hid (HP3.out.fr (Fr.drewN No w3 nq) fun x => x)
          have HDt := HDE
          have HFt := HFI2
          clear HB3 HP3 HX3
          generalize w3.drewN nq = wt at *
          go_upto_region 29 with (first
            | (go_at_call 12; refine (term_any HPt.out).mono ?_; rintro e w' ⟨rfl, rfl⟩)
            | (go_at_call 13; refine (vote_any HPt.out).mono ?_; rintro e w' ⟨rfl, rfl⟩))
          have hlook := HBt.out.m.look t2 (by omega)
          obtain ⟨w9, hst, hm9, hF9⟩ := HBt.out.m.store t2 v2 (by omega) hv2 (by unfold maxLen; omega)
          have hPe := HPt.out.fr hF9 fun e => HBt.out.mp (Option.some.inj e)
          have HEND := Lib.hid fun i hi => one_end (i := i) hlt (HBt.out.put hm9 hF9) hPe HDt.out HFt.out hn hle h2k hv2 HALL.out hi
          clear hm9 hF9 hPe HBt HPt HDt HFt
          rcases HFV.out with h9 | h9
          · rw [h9] at hlook
            clear h9
            go_wp2_with fail
            exact ⟨HEND.out _ (by go_num), by simp [intOf]; omega⟩
          · by_cases hv0 : v2 = 0
            · rw [h9, hv0] at hlook
              clear h9 hv0
              go_wp2_with fail
              exact ⟨HEND.out _ (by go_num), by simp [intOf]; omega⟩
            · rw [h9] at hlook
              clear h9
              have jv : ¬ (v2 : Int) = 0 := by omega
              have jv2 : ((v2 : Int) == 0) = false := by simp; omega
              go_wp2_with fail
              exact ⟨HEND.out _ (by go_num), by simp [intOf]; omega⟩
        · have d3 : w3.cell? ⟨bx, 3, none⟩ = some (.int .i64 A.loss) := cell_at HX3.out.x 3 rfl
          go_quiet (fail)
          go_upto_region 21 with fail
          have d4 : (w3.drewN nq).cell? ⟨bx, 3, none⟩ = some (.int .i64 A.loss) := d3
          have HBq := Lib.hid (HB3.out.no (Fr.drewN No w3 nq))
          have HL64 := Lib.hid l64
          clear HB3 HP3 HX3 d3
          generalize w3.drewN nq = wq at *
          go_upto_region 22 with (go_at_call 33; (refine disk_lift (HBq.out.d.no _).1 _ _ [A.loss] (Is64.lit _ [A.loss] (by simp [maxLen])) (HBq.out.d.no (.cells #[] 0)).2.2 (by intro z hz; rw [List.mem_singleton] at hz; rw [hz]; exact HL64.out) ?_); intro w5 O5 hD hM; have HB5 := Lib.hid ((HBq.out.no (Fr.alloc No _ _)).disk hD hM); clear hD hM)
          obtain ⟨hf5, hd5⟩ := lift_file HFI2.out [A.loss]
          have HFt := Lib.hid hf5
          have HDt := Lib.hid hd5
          clear hf5 hd5 HBq
          go_upto_region 25 with (go_at_call 10; (refine open_file HB5.out.d HB5.out.tab HFt.out HDt.out (by omega) hv2 ?_); intro bp6 wt h1 h2 h3; have HPt := Lib.hid h1; have HBt := Lib.hid (HB5.out.other h2 h3 (block_lt h1)); clear h1 h2 h3)
          go_upto_region 29 with (first
            | (go_at_call 12; refine (term_any HPt.out).mono ?_; rintro e w' ⟨rfl, rfl⟩)
            | (go_at_call 13; refine (vote_any HPt.out).mono ?_; rintro e w' ⟨rfl, rfl⟩))
          have hlook := HBt.out.m.look t2 (by omega)
          obtain ⟨w9, hst, hm9, hF9⟩ := HBt.out.m.store t2 v2 (by omega) hv2 (by unfold maxLen; omega)
          have hPe := HPt.out.fr hF9 fun e => HBt.out.mp (Option.some.inj e)
          have HEND := Lib.hid fun i hi => one_end (i := i) hlt (HBt.out.put hm9 hF9) hPe HDt.out HFt.out hn hle h2k hv2 HALL.out hi
          clear hm9 hF9 hPe HBt HPt HDt HFt
          rcases HFV.out with h9 | h9
          · rw [h9] at hlook
            clear h9
            go_wp2_with fail
            exact ⟨HEND.out _ (by go_num), by simp [intOf]; omega⟩
          · by_cases hv0 : v2 = 0
            · rw [h9, hv0] at hlook
              clear h9 hv0
              go_wp2_with fail
              exact ⟨HEND.out _ (by go_num), by simp [intOf]; omega⟩
            · rw [h9] at hlook
              clear h9
              have jv : ¬ (v2 : Int) = 0 := by omega
              have jv2 : ((v2 : Int) == 0) = false := by simp; omega
              go_wp2_with fail
              exact ⟨HEND.out _ (by go_num), by simp [intOf]; omega⟩
      · clear hf hall hft
        have HFW := Lib.hid hB.fw
        have HTB := Lib.hid hB.tab
        clear hB hP hd
        have il : (L.length : Int) ≤ (k : Int) := by omega
        go_wp2_with (go_at_call 14; refine lives20_any _ HTB.out (by have := HFW.out.size; have := H0.out; omega) ?_; intro wz hFz; have HFz := Lib.hid hFz; clear hFz)
        exact HR.out _ (HFW.out.trans HFz.out)
end Go.Proofs.YthjpjekaiflibaaDoor
