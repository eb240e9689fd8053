/- The law of the fuse: of as many doings as it lets just so many are done. -/
import Derived.Test.YthjpjekaiflibaaLives17
import Derived.Test.YthjpjekaiflibaaArgs
import Derived.BigQuiet
namespace Go.Proofs.Ythjpjekaiflibaa
open Go.RowKit
def nF : ByteArray := ⟨#[102]⟩
/-- The disk behind i doings, of m that are let. -/
def fM (bs : List UInt8) (m i : Nat) : DM := ⟨if min i m = 0 then [] else [⟨nF, bs.take (min i m), 0⟩], ((m - min i m : Nat) : Int), decide (m < i)⟩
theorem asked_f : askedE false nF = 0 := by kernel_rfl
theorem asked_dead : askedE true nF = 17 := by kernel_rfl
theorem fM_fuse (bs : List UInt8) (m : Nat) : (DM.mk [] (-1) false).setFuse m = fM bs m 0 := by
  simp [DM.setFuse, fM]
theorem fM_find (bs : List UInt8) (m i : Nat) : (fM bs m i).find nF = if min i m = 0 then none else some ⟨nF, bs.take (min i m), 0⟩ := by
  unfold DM.find fM
  dsimp only
  split <;> simp
theorem fM_add (bs : List UInt8) (m i : Nat) (hm : m < 90) (hi : i < bs.length) (hb : bs.length = 100) : (fM bs m i).add nF [bs[i]] = (if i < m then 0 else 17, fM bs m (i + 1)) := by
  by_cases h1 : m < i
  · have e1 : min i m = min (i + 1) m := by omega
    have : ¬ i < m := by omega
    simp only [DM.add, DM.does, this, if_false]
    have hd : (fM bs m i).dead = true := by simp [fM, h1]
    rw [hd, asked_dead, if_neg (by decide)]
    simp only [fM, e1, h1, show m < i + 1 by omega]
  · have hd : (fM bs m i).dead = false := by simp [fM]; omega
    have hfu : (fM bs m i).fuse = ((m - i : Nat) : Int) := by simp only [fM]; rw [show min i m = i by omega]
    simp only [DM.add, DM.does, hd, asked_f, if_true, DM.size, fM_find, hfu]
    by_cases h0 : min i m = 0
    · simp only [h0, if_true, Option.map_none, Option.getD_none]
      have hi0 : i = 0 := by omega
      subst hi0
      rw [if_neg (by decide), if_neg (by simp [fM])]
      by_cases hm0 : m = 0
      · subst hm0
        simp [fM]
      · rw [if_neg (by omega), if_pos (by omega)]
        have e1 : min 1 m = 1 := by omega
        simp only [fM, Nat.zero_min, if_true, Nat.zero_add, e1, if_neg (show ¬ 1 = 0 by decide), List.nil_append, burnt]
        cases bs with
        | nil => simp at hb
        | cons b r => simp; omega
    · simp only [h0, if_false, Option.map_some, Option.getD_some]
      have hlen : (bs.take (min i m)).length = i := by simp; omega
      rw [if_neg (by rw [hlen]; simp; omega)]
      by_cases him : i < m
      · rw [if_neg (by omega), if_pos him]
        have e1 : min i m = i := by omega
        have e2 : min (i + 1) m = i + 1 := by omega
        simp only [fM, e1, e2, if_neg (show ¬ i + 1 = 0 by omega), if_neg (show ¬ i = 0 by omega), fput, List.map_cons, List.map_nil, if_true, burnt]
        have : bs.take (i + 1) = bs.take i ++ [bs[i]] := List.take_succ_eq_append_getElem hi
        have e4 : decide (m < i + 1) = false := by simp; omega
        have e5 : ((m - i : Nat) : Int) - 1 = ((m - (i + 1) : Nat) : Int) := by omega
        rw [this, e4, if_pos (by omega), e5]
      · rw [if_pos (by omega), if_neg him]
        have e1 : min (i + 1) m = min i m := by omega
        have e2 : min i m = i := by omega
        simp only [fM, e1, e2, show m < i + 1 by omega, decide_true]
theorem fM_read_dead (bs : List UInt8) (m : Nat) (hm : m < 90) : (fM bs m 100).read nF = ([], 17) := by
  have hd : (fM bs m 100).dead = true := by simp [fM]; omega
  simp only [DM.read, hd, asked_dead]
  rfl
/-- The disk behind the lift. -/
def fL (bs : List UInt8) (m : Nat) : DM := ⟨if m = 0 then [] else [⟨nF, bs.take m, m⟩], -1, false⟩
theorem fM_lift (bs : List UInt8) (m : Nat) (hm : m < 90) (hb : bs.length = 100) : (fM bs m 100).lift [1000] = fL bs m := by
  have e : min 100 m = m := by omega
  unfold DM.lift fL fM
  rw [e]
  by_cases h0 : m = 0
  · simp [h0, liftAll, sortL]
  · simp only [h0, if_false, List.map_cons, List.map_nil, sortL, List.mergeSort_singleton, liftAll, if_true, more, List.length_cons, List.length_nil]
    have hl : liftN (max 0 ([1000].getD 0 0)) ⟨nF, bs.take m, 0⟩ = m := by
      simp [liftN]; omega
    simp only [liftF, if_pos (show 0 < 0 + 1 by decide), hl]
    rw [List.take_take, Nat.min_self]
theorem fL_read (bs : List UInt8) (m : Nat) : (fL bs m).read nF = if m = 0 then ([], 7) else (bs.take m, 0) := by
  simp only [DM.read, fL, asked_f, if_true, DM.find]
  by_cases h0 : m = 0 <;> simp [h0]
theorem fL_add (bs : List UInt8) (m : Nat) (hm : m < 90) (hb : bs.length = 100) : ((fL bs m).add nF bs).1 = 0 := by
  simp only [DM.add, DM.does, fL, asked_f, if_true, DM.find, DM.size]
  by_cases h0 : m = 0
  · simp [h0, hb]
  · simp [h0, hb]
    rw [if_neg (by omega)]
def FuseRel (w0 : World) (bd : Nat) (bs : List UInt8) (m : Nat) (v : Value) (w' : World) : Prop := ∃ (k : Nat) (O : List Nat), v = .int .i64 k ∧ k ≤ 100 ∧ DiskAt w' bd (fM bs m k) O ∧ Mv w0 w' [] O
theorem Bs.str {w : World} {v : Value} {g : Option Nat} {bs : List UInt8} (h : Bs w v g bs) : (convert 28 9 v).run Try.prog w = .ok (.string ⟨bs.toArray⟩) w := by
  rcases Src.out h with ⟨rfl, _, h0⟩ | ⟨a, cap, rfl, h1, h2, hc⟩
  · have : bs = [] := by cases bs with
      | nil => rfl
      | cons _ _ => cases h0
    subst this
    exact run_convert_bytes_nil w _ _ uBytes u8 0 0 _ uStr
  · exact run_convert_bytes_back w _ _ _ a cap bs uBytes u8 uStr fun j hj => hc j (encB bs[j]) (by simp [List.getElem?_eq_getElem hj])
theorem Mv.no {w w' : World} {O : List Nat} (h : Mv w w' [] O) : Fr No w w' := h.1.mono fun _ _ hi => absurd hi List.not_mem_nil
set_option maxRecDepth 100000 in
set_option maxHeartbeats 8000000 in
theorem fuse17_any {R : Ending → World → Prop} (w : World) (bs : List UInt8) (hb : bs.length = 100) (n : Nat) (hn : n < 256) (hR : ∀ w', Fr No w w' → R (.returned (.bool true)) w') :
    Calls Try.prog 3 #[.agg (bs.map encB).toArray, .int .u8 n] w R := by
  obtain ⟨m, hm⟩ : ∃ m, m = n % 90 := ⟨_, rfl⟩
  have hm90 : m < 90 := by omega
  have hmi : (n : Int) % 90 = (m : Int) := by omega
  clear hm
  have hwi : IntKind.i64.wrap (n : Int) = (n : Int) := IntWalk.i64_in _ (by omega)
  obtain ⟨w0, hw0⟩ : ∃ w0, w0 = w.alloc (.cells (bs.map encB).toArray 22) := ⟨_, rfl⟩
  have hF0 : Fr No w w0 := by rw [hw0]; exact Fr.alloc _ _ _
  have hbox : w0.heap[w.heap.size]? = some (.cells (bs.map encB).toArray 22 (0, 0)) := by rw [hw0]; exact heap_new _ _
  have HR := Lib.hid hR
  have HW0 := Lib.hid hw0
  have HF0 := Lib.hid hF0
  have HB := Lib.hid hbox
  have HL := Lib.hid hb
  clear hR hw0 hF0 hbox hb
  go_enter Try.func3, Try.ntmps3
  go_wp2_with (first
    | (go_at_call 7; rw [← HW0.out]; refine disk_new _ ?_; intro bd O1 w1 hD hM _; have D1 := Lib.hid hD; have M1 := Lib.hid hM; clear hD hM)
    | (go_at_call 8; refine disk_fuse D1.out m (by omega) ?_; intro w2 hD hM; rw [fM_fuse bs m] at hD; have D2 := Lib.hid hD; have M2 := Lib.hid (M1.out.trans hM); clear hD hM D1 M1))
  have hrem : ∀ k : Nat, k < 100 → ∀ w', Fr No w0 w' → w'.cell? ⟨w.heap.size, k, none⟩ = some (.int .u8 ((bs.getD k 0).toNat : Int)) := by
    intro k hk w' hF
    refine hF.cell (cell_at HB.out k ?_) (fun x => x)
    have := HL.out
    simp [encB, List.getElem?_eq_getElem (show k < bs.length by omega), List.getD]
  have HREM := Lib.hid hrem
  clear hrem
  clear hmi hwi
  go_loopw [7] (fun i wr => FuseRel w0 bd bs m i wr) (fun i _ => 100 - (intOf i).toNat)
  case atStart => exact ⟨0, O1, rfl, by omega, D2.out, M2.out⟩
  case round =>
    obtain ⟨k, O, rfl, hk, hD, hM⟩ := hrel
    have HD := Lib.hid hD
    have HM := Lib.hid hM
    clear hD hM
    by_cases hlt : k < 100
    · have ik : (0 : Int) ≤ (k : Int) := by omega
      have il : (k : Int) < 100 := by omega
      have hc := HREM.out k hlt wr HM.out.no
      have hg : bs.getD k 0 = bs[k]'(by have := HL.out; omega) := by simp [List.getD, List.getElem?_eq_getElem (show k < bs.length by have := HL.out; omega)]
      have hadd := fM_add bs m k hm90 (by have := HL.out; omega) HL.out
      rw [← hg] at hadd
      generalize bs.getD k 0 = bk at hc hadd
      have HADD := Lib.hid hadd
      clear hg hadd
      by_cases hkm : k < m
      · have jm : (k : Int) < (m : Int) := by omega
        have hdead : (fM bs m (k + 1)).dead = false := by simp [fM]; omega
        go_wp2_with (first
          | (go_at_call 9; refine disk_add (HD.out.no _).1 nF _ _ [bk] (By.lit _ [bk] (by simp [maxLen])).src (HD.out.no (.cells #[] 0)).2.2 (by simp) ?_; intro c w4 M' O4 h1 h2 h3; rw [HADD.out, if_pos hkm] at h1; cases h1; have HD4 := Lib.hid h2; have HM4 := Lib.hid (HM.out.trans ((HD.out.no _).2.1.trans h3)); clear h2 h3)
          | (go_at_call 10; refine (disk_dead HD4.out).mono ?_; rintro e w' ⟨rfl, rfl⟩; rw [hdead]))
        exact ⟨⟨k + 1, O4, by go_num, by omega, HD4.out, HM4.out⟩, by simp [intOf]; omega⟩
      · have jm : (m : Int) ≤ (k : Int) := by omega
        have hdead : (fM bs m (k + 1)).dead = true := by simp [fM]; omega
        go_wp2_with (first
          | (go_at_call 9; refine disk_add (HD.out.no _).1 nF _ _ [bk] (By.lit _ [bk] (by simp [maxLen])).src (HD.out.no (.cells #[] 0)).2.2 (by simp) ?_; intro c w4 M' O4 h1 h2 h3; rw [HADD.out, if_neg hkm] at h1; cases h1; have HD4 := Lib.hid h2; have HM4 := Lib.hid (HM.out.trans ((HD.out.no _).2.1.trans h3)); clear h2 h3)
          | (go_at_call 10; refine (disk_dead HD4.out).mono ?_; rintro e w' ⟨rfl, rfl⟩; rw [hdead]))
        exact ⟨⟨k + 1, O4, by go_num, by omega, HD4.out, HM4.out⟩, by simp [intOf]; omega⟩
    · have hk100 : k = 100 := by omega
      subst hk100
      have hsl : ∀ j : Nat, j ≤ 100 → ∀ w', Fr No w0 w' → Bs w' (.slice (some ⟨w.heap.size, 0, none⟩) j 100) (some w.heap.size) (bs.take j) := by
        intro j hj w' hF
        have hL := HL.out
        have hl : (bs.take j).length = j := by simp; omega
        refine ⟨by simp, _, 100, by rw [hl], by omega, by simp [maxLen], (fun e => by cases e), .inr ⟨_, 0, rfl, rfl, fun i u hi => ?_⟩⟩
        have hij : i < j := by
          have := (List.getElem?_eq_some_iff.1 hi).1
          simp at this; omega
        rw [Nat.zero_add, HREM.out i (by omega) w' hF, ← hi, List.getElem?_map, List.getElem?_take, if_pos hij, List.getElem?_eq_getElem (show i < bs.length by omega)]
        simp [encB, List.getD, List.getElem?_eq_getElem (show i < bs.length by omega)]
      have HSL := Lib.hid hsl
      have hno : ∀ (P : List Nat) (w' : World), Mv w0 w' [] P → ∀ j, some w.heap.size = some j → j ∉ P := by
        intro P w' hM j hj hP
        cases hj
        rcases hM.2 _ hP with h | h
        · cases h
        · have := block_lt HB.out
          omega
      have HNO := Lib.hid hno
      have m0 : (0 : Int) ≤ (m : Int) := by omega
      have m1 : (m : Int) ≤ 100 := by omega
      clear hsl hno
      by_cases hmz : m = 0
      · have jm : (m : Int) = 0 := by omega
        have hr2 := fL_read bs m
        rw [if_pos hmz] at hr2
        have HR2 := Lib.hid hr2
        clear hr2
        go_upto_region 13 with (first
          | (go_at_call 11; refine disk_read HD.out nF ?_; intro v g b c w3 h1 h2 h3 _ h5; rw [fM_read_dead bs m hm90] at h1; cases h1; obtain rfl := h5 (by decide); have HD3 := Lib.hid (HD.out.fr h3 fun _ _ x => x); have HM3 := Lib.hid (HM.out.trans (Mv.of_no h3)); clear h2 h3)
          | (go_at_call 12; refine disk_lift (HD3.out.no _).1 _ _ [1000] (Is64.lit _ [1000] (by decide)) (HD3.out.no (.cells #[] 0)).2.2 (by decide) ?_; intro w4 O4 hD hM; rw [fM_lift bs m hm90 HL.out] at hD; have HD4 := Lib.hid hD; have HM4 := Lib.hid (HM3.out.trans ((HD3.out.no _).2.1.trans hM)); clear hD hM)
          | (go_at_call 11; refine disk_read HD4.out nF ?_; intro v g b c w5 h1 h2 h3 _ h5; rw [HR2.out] at h1; cases h1; obtain rfl := h5 (by decide); have HD5 := Lib.hid (HD4.out.fr h3 fun _ _ x => x); have HM5 := Lib.hid (HM4.out.trans (Mv.of_no h3)); clear h2 h3))
        have HDEAD := Lib.hid (fun n : Nat => ((disk_dead (HD5.out.fr (Fr.drewN No w5 n) fun _ _ x => x)).mono fun e w' h => ⟨h.1, h.2.symm⟩ : Calls Try.prog 10 #[.pointer (some ⟨bd, 0, none⟩)] (w5.drewN n) fun e w' => e = .returned (.bool false) ∧ w' = w5.drewN n))
        clear hmz
        go_quiet ((go_at_call 10; exact Calls.quiet_of_same (HDEAD.out _)))
        have hF6 := Fr.drewN No w5 nq
        have HM6 := Lib.hid (HM5.out.trans (Mv.of_no hF6))
        have HD6 := Lib.hid (HD5.out.fr hF6 fun _ _ x => x)
        have h100 : Bs (w5.drewN nq) (.slice (some ⟨w.heap.size, 0, none⟩) 100 100) (some w.heap.size) bs := by
          have := HSL.out 100 (by omega) (w5.drewN nq) HM6.out.no
          rwa [List.take_of_length_le (by have := HL.out; omega)] at this
        have HB6 := Lib.hid h100
        have hadd := fL_add bs m hm90 HL.out
        have HADD := Lib.hid hadd
        clear hF6 h100 hadd
        generalize w5.drewN nq = w6 at *
        go_wp2_with (first
          | (go_at_call 9; refine disk_add HD6.out nF _ _ bs HB6.out (HNO.out _ _ HM6.out) (by have := HL.out; omega) ?_; intro c w7 M' O7 h1 h2 h3; have h4 := HADD.out; rw [h1] at h4; cases h4; have HM7 := Lib.hid (HM6.out.trans h3); clear h1 h2 h3)
          | (go_at_call 13; refine lives17_any _ ?_; intro w8 hF8; have HF8 := Lib.hid hF8; clear hF8))
        exact HR.out _ (HF0.out.trans (HM7.out.no.trans HF8.out))
      · have jm : (0 : Int) < (m : Int) := by omega
        have jn : 0 < m := by omega
        have hr2 := fL_read bs m
        rw [if_neg hmz] at hr2
        have HR2 := Lib.hid hr2
        clear hr2
        go_upto_region 13 with (first
          | (go_at_call 11; refine disk_read HD.out nF ?_; intro v g b c w3 h1 h2 h3 _ h5; rw [fM_read_dead bs m hm90] at h1; cases h1; obtain rfl := h5 (by decide); have HD3 := Lib.hid (HD.out.fr h3 fun _ _ x => x); have HM3 := Lib.hid (HM.out.trans (Mv.of_no h3)); clear h2 h3)
          | (go_at_call 12; refine disk_lift (HD3.out.no _).1 _ _ [1000] (Is64.lit _ [1000] (by decide)) (HD3.out.no (.cells #[] 0)).2.2 (by decide) ?_; intro w4 O4 hD hM; rw [fM_lift bs m hm90 HL.out] at hD; have HD4 := Lib.hid hD; have HM4 := Lib.hid (HM3.out.trans ((HD3.out.no _).2.1.trans hM)); clear hD hM)
          | (go_at_call 11; refine disk_read HD4.out nF ?_; intro vr g b c w5 h1 h2 h3 _ h5; rw [HR2.out] at h1; cases h1; have HV5 := Lib.hid h2; have HD5 := Lib.hid (HD4.out.fr h3 fun _ _ x => x); have HM5 := Lib.hid (HM4.out.trans (Mv.of_no h3)); clear h2 h3 h5))
        have HDEAD := Lib.hid (fun n : Nat => ((disk_dead (HD5.out.fr (Fr.drewN No w5 n) fun _ _ x => x)).mono fun e w' h => ⟨h.1, h.2.symm⟩ : Calls Try.prog 10 #[.pointer (some ⟨bd, 0, none⟩)] (w5.drewN n) fun e w' => e = .returned (.bool false) ∧ w' = w5.drewN n))
        obtain ⟨bsm, hbsm⟩ : ∃ bsm : ByteArray, bsm = ⟨(bs.take m).toArray⟩ := ⟨_, rfl⟩
        have cv1 : ∀ n : Nat, (convert 28 9 vr).run Try.prog (w5.drewN n) = .ok (.string bsm) (w5.drewN n) := fun n => by rw [hbsm]; exact Bs.str (HV5.out.src.fr (Fr.drewN No w5 n) fun _ _ x => x)
        have cv2 : ∀ n : Nat, (convert 28 9 (.slice (some ⟨w.heap.size, 0, none⟩) m 100)).run Try.prog (w5.drewN n) = .ok (.string bsm) (w5.drewN n) := fun n => by rw [hbsm]; exact Bs.str (HSL.out m (by omega) (w5.drewN n) (HM5.out.no.trans (Fr.drewN No w5 n)))
        clear hmz hbsm
        go_quiet ((go_at_call 10; exact Calls.quiet_of_same (HDEAD.out _)))
        have hF6 := Fr.drewN No w5 nq
        have HM6 := Lib.hid (HM5.out.trans (Mv.of_no hF6))
        have HD6 := Lib.hid (HD5.out.fr hF6 fun _ _ x => x)
        have h100 : Bs (w5.drewN nq) (.slice (some ⟨w.heap.size, 0, none⟩) 100 100) (some w.heap.size) bs := by
          have := HSL.out 100 (by omega) (w5.drewN nq) HM6.out.no
          rwa [List.take_of_length_le (by have := HL.out; omega)] at this
        have HB6 := Lib.hid h100
        have hadd := fL_add bs m hm90 HL.out
        have HADD := Lib.hid hadd
        clear hF6 h100 hadd cv1 cv2
        generalize w5.drewN nq = w6 at *
        go_wp2_with (first
          | (go_at_call 9; refine disk_add HD6.out nF _ _ bs HB6.out (HNO.out _ _ HM6.out) (by have := HL.out; omega) ?_; intro c w7 M' O7 h1 h2 h3; have h4 := HADD.out; rw [h1] at h4; cases h4; have HM7 := Lib.hid (HM6.out.trans h3); clear h1 h2 h3)
          | (go_at_call 13; refine lives17_any _ ?_; intro w8 hF8; have HF8 := Lib.hid hF8; clear hF8))
        exact HR.out _ (HF0.out.trans (HM7.out.no.trans HF8.out))
end Go.Proofs.Ythjpjekaiflibaa
