/- The document's disk: Lift. -/
import Derived.Test.YthjpjekaiflibaaRef9
namespace Go.Proofs.Ythjpjekaiflibaa
open Go.RowKit
theorem set_same {α : Type} : ∀ {l : List α} {k : Nat} {x : α}, l[k]? = some x → l.set k x = l
  | [], _, _, _ => rfl
  | a :: l, 0, x, h => by simp at h; rw [h]; rfl
  | a :: l, k + 1, x, h => by rw [List.set_cons_succ, set_same (by simpa using h)]
theorem lift_rep {w : World} {br b o c : Nat} {fs : List RRep} {burns : Bool} {fuse : Int} {dead : Bool} (h : RefRep w br (.slice (some ⟨b, o, none⟩) fs.length c) (some b) fs burns fuse dead) {k : Nat} (hk : k < fs.length) (bs : List UInt8) (sure : Nat) (v : Value) (g : Option Nat) (hb : By w v g bs) (hg : ∀ j, g = some j → j ≠ br ∧ j ≠ b) (hfit : bs.length ≤ 1048576) (hsure : sure ≤ bs.length) {W : World} (hW : Fr No ((w.setCell ⟨b, o + k * 3 + 1, none⟩ v).setCell ⟨b, o + k * 3 + 2, none⟩ (.int .i64 sure)) W) :
    RefRep W br (.slice (some ⟨b, o, none⟩) fs.length c) (some b) (fs.set k ⟨⟨fs[k].f.name, bs, sure⟩, v, g⟩) burns fuse dead ∧ Fr (Is (some b)) w W := by
  have hF0 : Fr (Is (some b)) w ((w.setCell ⟨b, o + k * 3 + 1, none⟩ v).setCell ⟨b, o + k * 3 + 2, none⟩ (.int .i64 sure)) := (Fr.set _ _ _ _).trans (Fr.set _ _ _ _)
  have hF := hF0.trans hW.of_no
  have hbr : b ≠ br := fun e => h.nb (by rw [e])
  refine ⟨⟨hF.at h.box fun e => hbr (Option.some.inj e), ?_, fun r hr => ?_, h.nb, fun r hr => ?_, by simpa using h.few, fun r hr => ?_, h.fz⟩, hF⟩
  · have l2 := Sl.set h.l (k * 3 + 1) (by omega) v
    have l3 := Sl.set l2 (k * 3 + 2) (by omega) (.int .i64 sure)
    rw [List.length_set, rcells_set hk, set_same (rcells_at hk).1]
    exact l3.fr hW fun _ _ x => x
  · rcases List.mem_or_eq_of_mem_set hr with hr | rfl
    · exact (h.files r hr).fr hF fun j hj e => (h.nf r hr j hj).2 (by rw [Option.some.inj e])
    · exact hb.fr hF fun j hj e => (hg j hj).2 (Option.some.inj e).symm
  · rcases List.mem_or_eq_of_mem_set hr with hr | rfl
    · exact h.nf r hr
    · exact fun j hj => ⟨(hg j hj).1, fun e => (hg j hj).2 (Option.some.inj e).symm⟩
  · rcases List.mem_or_eq_of_mem_set hr with hr | rfl
    · exact h.most r hr
    · exact ⟨hfit, hsure⟩
theorem bs_take {w : World} {p : Option Addr} {c : Nat} {g : Option Nat} {bs : List UInt8} (h : Bs w (.slice p bs.length c) g bs) (n : Nat) (hn : n ≤ bs.length) : Bs w (.slice p n c) g (bs.take n) := by
  have h1 := Src.sliced h (lo := 0) (hi := n) (by omega) hn
  have hsub : sliced p 0 n c 1 = .slice p n c := by unfold sliced; cases p <;> simp [Addr.add]
  rw [hsub] at h1
  unfold Bs
  have hl : (bs.take n).length = n := by simp; omega
  rw [hl]
  simpa [List.map_take] using h1
def liftR (loss : List Int) : Nat → List File → List File
  | _, [] => []
  | i, f :: r => liftF (more loss i) f :: liftR loss (i + 1) r
def RM.lift (R : RM) (loss : List Int) : RM := ⟨liftR loss 0 R.files, false, 0, false⟩
theorem liftR_length (loss : List Int) : ∀ (l : List File) (i : Nat), (liftR loss i l).length = l.length
  | [], _ => rfl
  | _ :: l, i => by simp [liftR, liftR_length loss l (i + 1)]
theorem liftR_at (loss : List Int) : ∀ (l : List File) (i j : Nat) (hj : j < l.length), (liftR loss i l)[j]? = some (liftF (more loss (i + j)) l[j])
  | f :: l, i, 0, _ => rfl
  | f :: l, i, j + 1, hj => by
    have := liftR_at loss l (i + 1) j (by simpa using hj)
    rw [liftR, List.getElem?_cons_succ, this, show i + 1 + j = i + (j + 1) by omega]
    rfl
theorem liftR_names (loss : List Int) : ∀ (l : List File) (i : Nat), (liftR loss i l).map (·.name) = l.map (·.name)
  | [], _ => rfl
  | f :: l, i => by simp [liftR, liftR_names loss l (i + 1), liftF]
theorem sorted_names {L : List File} : Sorted L ↔ (L.map (·.name)).Pairwise fun a b => Op.bytesLess a.toList b.toList = true := by
  rw [List.pairwise_map]
  rfl
structure LiftI (w0 : World) (br : Nat) (vl : Value) (gl : Option Nat) (fs0 : List RRep) (burns : Bool) (fuse : Int) (dead : Bool) (loss : List Int) (k : Nat) (fs : List RRep) (w : World) : Prop where
  rep : RefRep w br vl gl fs burns fuse dead
  len : fs.length = fs0.length
  at_ : ∀ (j : Nat) (hj : j < fs.length) (hj0 : j < fs0.length), fs[j].f = if j < k then liftF (more loss j) fs0[j].f else fs0[j].f
  f : Fr (· ∈ rown br gl fs0) w0 w
  n : ∀ i ∈ rown br gl fs, i ∈ rown br gl fs0 ∨ w0.heap.size ≤ i
def RLiftRel (w0 : World) (br : Nat) (vl : Value) (gl : Option Nat) (fs0 : List RRep) (burns : Bool) (fuse : Int) (dead : Bool) (loss : List Int) (i : Value) (w : World) : Prop :=
  ∃ (k : Nat) (fs : List RRep), i = .int .i64 k ∧ k ≤ fs0.length ∧ LiftI w0 br vl gl fs0 burns fuse dead loss k fs w
theorem lift_step {w0 w w2 W : World} {br b o c : Nat} {fs0 fs : List RRep} {burns : Bool} {fuse : Int} {dead : Bool} {loss : List Int} {k n : Nat} (h : LiftI w0 br (.slice (some ⟨b, o, none⟩) fs0.length c) (some b) fs0 burns fuse dead loss k fs w) (hk : k < fs.length) (hk0 : k < fs0.length) (hn : n = liftN (more loss k) fs0[k].f) (hnl : n ≤ fs0[k].f.bytes.length)
    (hF2 : Fr No w w2) {v2 : Value} {g2 : Option Nat} (hb : By w2 v2 g2 (fs0[k].f.bytes.take n)) (hg2 : New w g2) (hW : Fr No ((w2.setCell ⟨b, o + k * 3 + 1, none⟩ v2).setCell ⟨b, o + k * 3 + 2, none⟩ (.int .i64 n)) W) :
    ∃ fs', LiftI w0 br (.slice (some ⟨b, o, none⟩) fs0.length c) (some b) fs0 burns fuse dead loss (k + 1) fs' W := by
  have hlt := h.rep.lt
  have hbr := hlt br (mem_rown.2 (.inl rfl))
  have hbb := hlt b (mem_rown.2 (.inr (.inl rfl)))
  have hlen : (fs0[k].f.bytes.take n).length = n := by simp; omega
  have hfk : fs[k].f = fs0[k].f := by have := h.at_ k hk hk0; rwa [if_neg (by omega)] at this
  have hmo := h.rep.most _ (List.getElem_mem hk)
  rw [hfk] at hmo
  have hrep := h.rep
  rw [← h.len] at hrep
  obtain ⟨k1, k2⟩ := lift_rep (hrep.fr hF2 fun _ _ x => x) hk (fs0[k].f.bytes.take n) n v2 g2 hb (fun j hj => by have := hg2 j hj; exact ⟨by omega, by omega⟩) (by rw [hlen]; omega) (by rw [hlen]; exact Nat.le_refl _) hW
  have hz := h.f.size
  rw [h.len] at k1
  refine ⟨_, k1, by rw [List.length_set]; exact h.len, fun j hj hj0 => ?_, h.f.trans ((hF2.of_no.trans k2).mono fun i _ hi => mem_rown.2 (.inr (.inl hi))), fun i hi => ?_⟩
  · rw [List.getElem_set]
    by_cases e : k = j
    · subst e
      rw [if_pos rfl, if_pos (by omega)]
      show (⟨fs[k].f.name, fs0[k].f.bytes.take n, n⟩ : File) = _
      rw [hfk, liftF, ← hn]
    · rw [if_neg e]
      have := h.at_ j (by simpa using hj) hj0
      rw [this]
      by_cases h9 : j < k
      · rw [if_pos h9, if_pos (by omega)]
      · rw [if_neg h9, if_neg (by omega)]
  · rcases mem_rown.1 hi with hi | hi | ⟨r, hr, hi⟩
    · exact .inl (mem_rown.2 (.inl hi))
    · exact .inl (mem_rown.2 (.inr (.inl hi)))
    · rcases List.mem_or_eq_of_mem_set hr with hr | rfl
      · exact h.n i (mem_rown.2 (.inr (.inr ⟨r, hr, hi⟩)))
      · exact .inr (by have := hg2 i hi; omega)
set_option maxRecDepth 100000 in
set_option maxHeartbeats 80000000 in
theorem ref_lift {Q : Ending → World → Prop} {w : World} {br : Nat} {R : RM} {O : List Nat} (h : RefAt w br R O) (vl : Value) (gl' : Option Nat) (loss : List Int) (hl : Is64 w vl gl' loss) (hgl : ∀ k, gl' = some k → k ∉ O)
    (hQ : ∀ w' O', RefAt w' br (R.lift loss) O' → Mv w w' O O' → Q (.returned (.tuple #[])) w') :
    Calls Try.prog 34 #[.pointer (some ⟨br, 0, none⟩), vl] w Q := by
  have HQ := Lib.hid hQ
  obtain ⟨vd, gl, fs0, hrep, hfs, rfl, hst⟩ := h
  have HREP := Lib.hid hrep
  have HFS := Lib.hid hfs
  have HST := Lib.hid hst
  have hfew := hrep.few
  have HLS := Lib.hid hl
  have HGL := Lib.hid hgl
  have hlo := hl.len_le
  have hlo2 : loss.length ≤ 9223372036854775807 := by unfold maxLen at hlo; omega
  obtain ⟨pl, cl, rfl, _⟩ := Src.form hl
  obtain ⟨pd, cd, rfl, _⟩ := Sl.form hrep.l
  obtain ⟨i0, hi0, hz0, hz1, hz2⟩ := info_parts info8
  have HI0 := Lib.hid (LiftI.mk (loss := loss) (k := 0) hrep rfl (fun j _ _ => by rw [if_neg (by omega)]) (Fr.refl _ w) (fun _ h => .inl h))
  clear hQ hrep hfs hst hl hgl hlo
  go_enter Try.func34, Try.ntmps34
  go_wp2_with fail
  go_loopw [4] (fun i wr => RLiftRel w br (.slice pd fs0.length cd) gl fs0 R.burns R.fuse R.dead loss i wr) (fun i _ => 20 - (intOf i).toNat)
  case atStart => exact ⟨0, fs0, rfl, by omega, HI0.out⟩
  case round =>
    obtain ⟨k, fs, rfl, hk, hI⟩ := hrel
    have HI := Lib.hid hI
    have c0 := cell_at hI.rep.box 0 rfl
    clear HI0
    by_cases hlt : k < fs0.length
    · have hlt' : k < fs.length := by have := hI.len; omega
      obtain ⟨b, o, c', e, hg, e0, e1, e2⟩ := hI.rep.one hlt'
      obtain ⟨rfl, rfl⟩ : pd = some ⟨b, o, none⟩ ∧ cd = c' := by
        have : pd = some ⟨b, o, none⟩ ∧ fs0.length = fs.length ∧ cd = c' := by simpa using e
        exact ⟨this.1, this.2.2⟩
      have hfk : fs[k].f = fs0[k].f := by have := hI.at_ k hlt' hlt; rwa [if_neg (by omega)] at this
      have hby := hI.rep.files _ (List.getElem_mem hlt')
      have hmo := hI.rep.most _ (List.getElem_mem hlt')
      rw [hfk] at hby hmo e2
      obtain ⟨p9, c9, hv, hc9⟩ := Sl.form hby
      rw [hv] at hby e1
      have HBY := Lib.hid hby
      subst hg
      obtain ⟨n, hn⟩ : ∃ n, n = liftN (more loss k) fs0[k].f := ⟨_, rfl⟩
      have hnl : n ≤ fs0[k].f.bytes.length := by rw [hn]; unfold liftN; omega
      have HN := Lib.hid hn
      generalize hff : fs0[k].f = f at *
      have HFF := Lib.hid hff
      have hm1 := hmo.1
      have hm2 := hmo.2
      have ik0 : (0 : Int) ≤ (k : Int) := by omega
      have il : (k : Int) < (fs0.length : Int) := by omega
      clear e hv hby hn hff hI hfk hmo e0
      by_cases hkl : k < loss.length
      · obtain ⟨bl, ol, rfl, hcell⟩ : ∃ bl ol, pl = some ⟨bl, ol, none⟩ ∧ wr.cell? ⟨bl, ol + k, none⟩ = some (.int .i64 (loss.getD k 0)) := by
          obtain ⟨_, p, c, e, _, _, _, h0 | ⟨b, o, e1, hgb, hc⟩⟩ := HLS.out
          · exact absurd hkl (by rw [h0]; omega)
          · refine ⟨b, o, ?_, HI.out.f.cell (hc k _ (by simp [hkl])) (HGL.out b hgb)⟩
            have : pl = p ∧ cl = c := by simpa using e
            exact this.1.trans e1
        have jl : (k : Int) < (loss.length : Int) := by omega
        have hmm : more loss k = max 0 (loss.getD k 0) := by rw [more, if_pos hkl]
        generalize loss.getD k 0 = z at *
        by_cases hzp : 0 < z
        · by_cases hzl : z < (f.bytes.length : Int) - (f.sure : Int)
          · have hnz : (f.sure : Int) + z = (n : Int) := by rw [HN.out, hmm, liftN]; omega
            clear hmm
            have b1 : 0 + n ≤ maxLen := by unfold maxLen; omega
            have b2 : (0 + n) * 1 ≤ 140737488355328 := by omega
            have hS1 := bs_take (By.src HBY.out) n (by omega)
            have HS1 := Lib.hid hS1
            have hu := HI.out.rep.l
            have HUF := Lib.hid (show ∀ w2, Fr No wr w2 → ∀ j, w2.frozen? ⟨b, j, none⟩ = false from fun w2 hF j => by
              rcases (hu.fr hF fun _ _ x => x).out with ⟨e, _⟩ | ⟨b', o', cap, e', _, _, _, _, _, hz⟩
              · cases e
              · obtain rfl : b = b' := by
                  have : (b = b' ∧ o = o') ∧ fs0.length = fs.length ∧ cd = cap := by simpa using e'
                  exact this.1.1
                exact hz j)
            have HS2 := Lib.hid (show Src wr 1 (.slice p9 n c9) fs[k].g n ((f.bytes.take n).map encB) by have h9 := HS1.out; unfold Bs at h9; rwa [show (f.bytes.take n).length = n by rw [List.length_take]; omega] at h9)
            clear hS1 hu
            have jn9 : (n : Int) ≤ (c9 : Int) := by omega
            go_upto_region 9 with fail
            go_region_law ((refine step_appendSl (by rfl) _ _ 28 (by rfl) 5 i0 (.int .u8 0) 1 1 uBytes hi0 hz0 hz1 hz2 rfl (by omega) _ _ _ _ (by rfl) (Sl.nil _ _ _) _ _ _ _ (by rfl) (HS2.out.fr (Fr.drew No wr) fun _ _ x => x) (encB_one _) b1 b2 ?_; intro p2 c2 g2 w2 h1 h2 h3; have K1 := Lib.hid h1; have K2 := Lib.hid ((Fr.drew No wr).trans h2.of_isnone); have K3 := Lib.hid (show New wr g2 from new_of h3); have x0 := K2.out.cell c0 (fun x => x); have x1 := K2.out.cell e1 (fun x => x); have x2 := K2.out.cell e2 (fun x => x); have y1 := HUF.out w2 K2.out (o + k * 3 + 1); have y2 := HUF.out w2 K2.out (o + k * 3 + 2); clear h1 h2 h3))
            all_goals go_wp2_with fail
            all_goals
              have hby2 : By w2 (.slice p2 n c2) g2 (fs0[k].f.bytes.take n) := by
                rw [HFF.out]
                have h9 := K1.out
                unfold By
                rw [show (f.bytes.take n).length = n by rw [List.length_take]; omega]
                simpa using h9
              obtain ⟨fs', hI'⟩ := lift_step HI.out hlt' hlt (by rw [HFF.out]; exact HN.out) (by rw [HFF.out]; exact hnl) K2.out hby2 K3.out (Fr.refl No _)
              exact ⟨⟨k + 1, fs', by go_num, by omega, hI'⟩, by simp [intOf]; omega⟩
          · obtain rfl : n = f.bytes.length := by rw [HN.out, hmm, liftN]; omega
            have hnz : (f.sure : Int) + ((f.bytes.length : Int) - (f.sure : Int)) = (f.bytes.length : Int) := by omega
            clear hmm
            have b1 : 0 + f.bytes.length ≤ maxLen := by unfold maxLen; omega
            have b2 : (0 + f.bytes.length) * 1 ≤ 140737488355328 := by omega
            have hS1 := bs_take (By.src HBY.out) f.bytes.length (by omega)
            have HS1 := Lib.hid hS1
            have hu := HI.out.rep.l
            have HUF := Lib.hid (show ∀ w2, Fr No wr w2 → ∀ j, w2.frozen? ⟨b, j, none⟩ = false from fun w2 hF j => by
              rcases (hu.fr hF fun _ _ x => x).out with ⟨e, _⟩ | ⟨b', o', cap, e', _, _, _, _, _, hz⟩
              · cases e
              · obtain rfl : b = b' := by
                  have : (b = b' ∧ o = o') ∧ fs0.length = fs.length ∧ cd = cap := by simpa using e'
                  exact this.1.1
                exact hz j)
            have HS2 := Lib.hid (show Src wr 1 (.slice p9 f.bytes.length c9) fs[k].g f.bytes.length ((f.bytes.take f.bytes.length).map encB) by have h9 := HS1.out; unfold Bs at h9; rwa [show (f.bytes.take f.bytes.length).length = f.bytes.length by rw [List.length_take]; omega] at h9)
            clear hS1 hu
            have jn9 : (f.bytes.length : Int) ≤ (c9 : Int) := by omega
            go_upto_region 9 with fail
            go_region_law ((refine step_appendSl (by rfl) _ _ 28 (by rfl) 5 i0 (.int .u8 0) 1 1 uBytes hi0 hz0 hz1 hz2 rfl (by omega) _ _ _ _ (by rfl) (Sl.nil _ _ _) _ _ _ _ (by rfl) (HS2.out.fr (Fr.drew No wr) fun _ _ x => x) (encB_one _) b1 b2 ?_; intro p2 c2 g2 w2 h1 h2 h3; have K1 := Lib.hid h1; have K2 := Lib.hid ((Fr.drew No wr).trans h2.of_isnone); have K3 := Lib.hid (show New wr g2 from new_of h3); have x0 := K2.out.cell c0 (fun x => x); have x1 := K2.out.cell e1 (fun x => x); have x2 := K2.out.cell e2 (fun x => x); have y1 := HUF.out w2 K2.out (o + k * 3 + 1); have y2 := HUF.out w2 K2.out (o + k * 3 + 2); clear h1 h2 h3))
            all_goals go_wp2_with fail
            all_goals
              have hby2 : By w2 (.slice p2 f.bytes.length c2) g2 (fs0[k].f.bytes.take f.bytes.length) := by
                rw [HFF.out]
                have h9 := K1.out
                unfold By
                rw [show (f.bytes.take f.bytes.length).length = f.bytes.length by rw [List.length_take]; omega]
                simpa using h9
              obtain ⟨fs', hI'⟩ := lift_step HI.out hlt' hlt (by rw [HFF.out]; exact HN.out) (by rw [HFF.out]; exact hnl) K2.out hby2 K3.out (Fr.refl No _)
              exact ⟨⟨k + 1, fs', by go_num, by omega, hI'⟩, by simp [intOf]; omega⟩
        · obtain rfl : n = f.sure := by rw [HN.out, hmm, liftN]; omega
          clear hmm
          have b1 : 0 + f.sure ≤ maxLen := by unfold maxLen; omega
          have b2 : (0 + f.sure) * 1 ≤ 140737488355328 := by omega
          have hS1 := bs_take (By.src HBY.out) f.sure (by omega)
          have HS1 := Lib.hid hS1
          have hu := HI.out.rep.l
          have HUF := Lib.hid (show ∀ w2, Fr No wr w2 → ∀ j, w2.frozen? ⟨b, j, none⟩ = false from fun w2 hF j => by
            rcases (hu.fr hF fun _ _ x => x).out with ⟨e, _⟩ | ⟨b', o', cap, e', _, _, _, _, _, hz⟩
            · cases e
            · obtain rfl : b = b' := by
                have : (b = b' ∧ o = o') ∧ fs0.length = fs.length ∧ cd = cap := by simpa using e'
                exact this.1.1
              exact hz j)
          have HS2 := Lib.hid (show Src wr 1 (.slice p9 f.sure c9) fs[k].g f.sure ((f.bytes.take f.sure).map encB) by have h9 := HS1.out; unfold Bs at h9; rwa [show (f.bytes.take f.sure).length = f.sure by rw [List.length_take]; omega] at h9)
          clear hS1 hu
          have jn9 : (f.sure : Int) ≤ (c9 : Int) := by omega
          go_upto_region 9 with fail
          go_region_law ((refine step_appendSl (by rfl) _ _ 28 (by rfl) 5 i0 (.int .u8 0) 1 1 uBytes hi0 hz0 hz1 hz2 rfl (by omega) _ _ _ _ (by rfl) (Sl.nil _ _ _) _ _ _ _ (by rfl) (HS2.out.fr (Fr.drew No wr) fun _ _ x => x) (encB_one _) b1 b2 ?_; intro p2 c2 g2 w2 h1 h2 h3; have K1 := Lib.hid h1; have K2 := Lib.hid ((Fr.drew No wr).trans h2.of_isnone); have K3 := Lib.hid (show New wr g2 from new_of h3); have x0 := K2.out.cell c0 (fun x => x); have x1 := K2.out.cell e1 (fun x => x); have x2 := K2.out.cell e2 (fun x => x); have y1 := HUF.out w2 K2.out (o + k * 3 + 1); have y2 := HUF.out w2 K2.out (o + k * 3 + 2); clear h1 h2 h3))
          all_goals go_wp2_with fail
          all_goals
            have hby2 : By w2 (.slice p2 f.sure c2) g2 (fs0[k].f.bytes.take f.sure) := by
              rw [HFF.out]
              have h9 := K1.out
              unfold By
              rw [show (f.bytes.take f.sure).length = f.sure by rw [List.length_take]; omega]
              simpa using h9
            obtain ⟨fs', hI'⟩ := lift_step HI.out hlt' hlt (by rw [HFF.out]; exact HN.out) (by rw [HFF.out]; exact hnl) K2.out hby2 K3.out (Fr.refl No _)
            exact ⟨⟨k + 1, fs', by go_num, by omega, hI'⟩, by simp [intOf]; omega⟩
      · have jl : (loss.length : Int) ≤ (k : Int) := by omega
        obtain rfl : n = f.sure := by rw [HN.out, more, if_neg hkl, liftN]; omega
        have b1 : 0 + f.sure ≤ maxLen := by unfold maxLen; omega
        have b2 : (0 + f.sure) * 1 ≤ 140737488355328 := by omega
        have hS1 := bs_take (By.src HBY.out) f.sure (by omega)
        have HS1 := Lib.hid hS1
        have hu := HI.out.rep.l
        have HUF := Lib.hid (show ∀ w2, Fr No wr w2 → ∀ j, w2.frozen? ⟨b, j, none⟩ = false from fun w2 hF j => by
          rcases (hu.fr hF fun _ _ x => x).out with ⟨e, _⟩ | ⟨b', o', cap, e', _, _, _, _, _, hz⟩
          · cases e
          · obtain rfl : b = b' := by
              have : (b = b' ∧ o = o') ∧ fs0.length = fs.length ∧ cd = cap := by simpa using e'
              exact this.1.1
            exact hz j)
        have HS2 := Lib.hid (show Src wr 1 (.slice p9 f.sure c9) fs[k].g f.sure ((f.bytes.take f.sure).map encB) by have h9 := HS1.out; unfold Bs at h9; rwa [show (f.bytes.take f.sure).length = f.sure by rw [List.length_take]; omega] at h9)
        clear hS1 hu
        have jn9 : (f.sure : Int) ≤ (c9 : Int) := by omega
        go_upto_region 9 with fail
        go_region_law ((refine step_appendSl (by rfl) _ _ 28 (by rfl) 5 i0 (.int .u8 0) 1 1 uBytes hi0 hz0 hz1 hz2 rfl (by omega) _ _ _ _ (by rfl) (Sl.nil _ _ _) _ _ _ _ (by rfl) (HS2.out.fr (Fr.drew No wr) fun _ _ x => x) (encB_one _) b1 b2 ?_; intro p2 c2 g2 w2 h1 h2 h3; have K1 := Lib.hid h1; have K2 := Lib.hid ((Fr.drew No wr).trans h2.of_isnone); have K3 := Lib.hid (show New wr g2 from new_of h3); have x0 := K2.out.cell c0 (fun x => x); have x1 := K2.out.cell e1 (fun x => x); have x2 := K2.out.cell e2 (fun x => x); have y1 := HUF.out w2 K2.out (o + k * 3 + 1); have y2 := HUF.out w2 K2.out (o + k * 3 + 2); clear h1 h2 h3))
        all_goals go_wp2_with fail
        all_goals
          have hby2 : By w2 (.slice p2 f.sure c2) g2 (fs0[k].f.bytes.take f.sure) := by
            rw [HFF.out]
            have h9 := K1.out
            unfold By
            rw [show (f.bytes.take f.sure).length = f.sure by rw [List.length_take]; omega]
            simpa using h9
          obtain ⟨fs', hI'⟩ := lift_step HI.out hlt' hlt (by rw [HFF.out]; exact HN.out) (by rw [HFF.out]; exact hnl) K2.out hby2 K3.out (Fr.refl No _)
          exact ⟨⟨k + 1, fs', by go_num, by omega, hI'⟩, by simp [intOf]; omega⟩
    · have hkl : k = fs0.length := by omega
      have u1 := free_at hI.rep.box 1
      have u2 := free_at hI.rep.box 2
      have u3 := free_at hI.rep.box 3
      have c1 := cell_at hI.rep.box 1 rfl
      have c2 := cell_at hI.rep.box 2 rfl
      have c3 := cell_at hI.rep.box 3 rfl
      clear hI
      have il : (fs0.length : Int) ≤ (k : Int) := by omega
      go_wp2_with fail
      refine bodyPost_ret (results_none rfl _ _ _) rfl ?_
      have hI := HI.out
      have hF : Fr (Is (some br)) wr (((wr.setCell ⟨br, 3, none⟩ (.bool false)).setCell ⟨br, 1, none⟩ (.bool false)).setCell ⟨br, 2, none⟩ (.int .i64 0)) := ((Fr.set _ _ _ _).trans (Fr.set _ _ _ _)).trans (Fr.set _ _ _ _)
      have hbox := setCell_box (k := 2) (setCell_box (k := 1) (setCell_box (k := 3) hI.rep.box (.bool false)) (.bool false)) (.int .i64 0)
      have hmap : fs.map (·.f) = liftR loss 0 R.files := by
        rw [← HFS.out]
        apply List.ext_getElem?
        intro j
        by_cases hj : j < fs.length
        · have hj0 : j < fs0.length := by have := hI.len; omega
          rw [liftR_at loss _ 0 j (by simpa using hj0), List.getElem?_map, List.getElem?_eq_getElem hj]
          have := hI.at_ j hj hj0
          rw [if_pos (by omega)] at this
          simp [this]
        · rw [List.getElem?_eq_none (by simpa using hj), List.getElem?_eq_none (by rw [liftR_length]; have := hI.len; simp; omega)]
      refine HQ.out _ (rown br gl fs) ⟨_, gl, fs, ⟨by simpa [RM.lift] using hbox, hI.rep.l.fr hF fun j hj e => hI.rep.nb (by rw [hj, Option.some.inj e]), fun r hr => (hI.rep.files r hr).fr hF fun j hj e => (hI.rep.nf r hr j hj).1 (Option.some.inj e).symm, hI.rep.nb, hI.rep.nf, hI.rep.few, hI.rep.most, by simp [RM.lift]⟩, hmap, rfl, ?_⟩ ⟨hI.f.trans (hF.mono fun i _ hi => mem_rown.2 (.inl (Option.some.inj hi).symm)), hI.n⟩
      show Sorted (liftR loss 0 R.files)
      rw [sorted_names, liftR_names, ← sorted_names]
      exact HST.out
end Go.Proofs.Ythjpjekaiflibaa
