/- The partial insertion sort: the library's text makes what the plain function says (printed by wip/gen/partial22.py). -/
import Derived.Test.YtcpaphcodhlggaaRev
namespace Go.Proofs.Ytcpaphcodhlggaa
open Go.RowKit Go.Sort
section
variable {α : Type} [Inhabited α] (lt : α → α → Bool)
theorem sorted_go (d : Array α) (b i : Nat) (h : i < b) (hl : lt d[i]! d[i - 1]! = false) : Sort.scanSorted lt d b i = Sort.scanSorted lt d b (i + 1) := by
  rw [Sort.scanSorted.eq_1 lt d b i, hl]
  simp [h]
theorem sorted_stop (d : Array α) (b i : Nat) (h : ¬ (i < b ∧ lt d[i]! d[i - 1]! = false)) : Sort.scanSorted lt d b i = i := by
  rw [Sort.scanSorted]
  by_cases h1 : i < b
  · cases e : lt d[i]! d[i - 1]! with
    | false => exact absurd ⟨h1, e⟩ h
    | true => simp
  · simp [h1]
theorem shiftDown_go (j : Nat) (d : Array α) (hj : 1 ≤ j) (hl : lt d[j]! d[j - 1]! = true) : Sort.shiftDown lt j d = Sort.shiftDown lt (j - 1) (swp d j (j - 1)) := by
  obtain ⟨k, rfl⟩ : ∃ k, j = k + 1 := ⟨j - 1, by omega⟩
  rw [Nat.add_sub_cancel] at hl ⊢
  rw [Sort.shiftDown, hl]
  simp
theorem shiftDown_stop (j : Nat) (d : Array α) (h : j < 1 ∨ lt d[j]! d[j - 1]! = false) : Sort.shiftDown lt j d = d := by
  cases j with
  | zero => rw [Sort.shiftDown]
  | succ k =>
    rcases h with h | h
    · omega
    · rw [Nat.add_sub_cancel] at h
      rw [Sort.shiftDown, h]
      simp
theorem shiftUp_go (b j : Nat) (d : Array α) (hj : j < b) (hl : lt d[j]! d[j - 1]! = true) : Sort.shiftUp lt b j d = Sort.shiftUp lt b (j + 1) (swp d j (j - 1)) := by
  rw [Sort.shiftUp.eq_1 lt b j d, if_pos hj, hl]
  simp
theorem shiftUp_stop (b j : Nat) (d : Array α) (h : b ≤ j ∨ lt d[j]! d[j - 1]! = false) : Sort.shiftUp lt b j d = d := by
  rw [Sort.shiftUp]
  split
  · rcases h with h | h
    · omega
    · rw [h]; simp
  · rfl
theorem partialIns_go (a b s i0 i : Nat) (d d1 d2 d3 : Array α) (h1 : Sort.scanSorted lt d b i0 = i) (hb : i ≠ b) (h50 : ¬ b - a < 50) (e1 : swp d i (i - 1) = d1) (e2 : (if i - a ≥ 2 then Sort.shiftDown lt (i - 1) d1 else d1) = d2) (e3 : (if b - i ≥ 2 then Sort.shiftUp lt b (i + 1) d2 else d2) = d3) :
    Sort.partialIns lt a b (s + 1) i0 d = Sort.partialIns lt a b s i d3 := by
  rw [Sort.partialIns]
  simp only [h1, e1]
  rw [if_neg hb, if_neg h50]
  simp only [e2, e3]
theorem partialIns_true (a b s i0 : Nat) (d : Array α) (h1 : Sort.scanSorted lt d b i0 = b) : Sort.partialIns lt a b (s + 1) i0 d = (d, true) := by
  rw [Sort.partialIns]
  simp only [h1]
  rw [if_pos trivial]
theorem partialIns_false (a b s i0 i : Nat) (d : Array α) (h1 : Sort.scanSorted lt d b i0 = i) (hb : i ≠ b) (h50 : b - a < 50) : Sort.partialIns lt a b (s + 1) i0 d = (d, false) := by
  rw [Sort.partialIns]
  simp only [h1]
  rw [if_neg hb, if_pos h50]
end
def ScanRel (w : World) (blk off : Nat) (dk : Array Int) (b i0 : Nat) (v : Value) (wr : World) : Prop :=
  ∃ i : Nat, v = .int .i64 i ∧ i0 ≤ i ∧ i ≤ b ∧ RowAt w blk off dk wr ∧ Sort.scanSorted ltInt dk b i = Sort.scanSorted ltInt dk b i0
def DownShift (w : World) (blk off : Nat) (d d1 : Array Int) (i : Nat) (v : Value) (wr : World) : Prop :=
  ∃ (k : Nat) (dj : Array Int), v = .int .i64 k ∧ k < i ∧ dj.size = d.size ∧ RowAt w blk off dj wr ∧ Sort.shiftDown ltInt k dj = Sort.shiftDown ltInt (i - 1) d1
def UpShift (w : World) (blk off : Nat) (d d2 : Array Int) (b i : Nat) (v : Value) (wr : World) : Prop :=
  ∃ (k : Nat) (dj : Array Int), v = .int .i64 k ∧ i + 1 ≤ k ∧ k ≤ b ∧ dj.size = d.size ∧ RowAt w blk off dj wr ∧ Sort.shiftUp ltInt b k dj = Sort.shiftUp ltInt b (i + 1) d2
def PIRel (w : World) (blk off : Nat) (d : Array Int) (r : Array Int × Bool) (a b : Nat) (vi vj : Value) (wr : World) : Prop :=
  ∃ (jj i : Nat) (dk : Array Int), vj = .int .i64 jj ∧ vi = .int .i64 i ∧ jj ≤ 5 ∧ a + 1 ≤ i ∧ i ≤ b ∧ dk.size = d.size ∧ RowAt w blk off dk wr ∧ Sort.partialIns ltInt a b (5 - jj) i dk = r
set_option maxRecDepth 100000 in
set_option maxHeartbeats 32000000 in
theorem partial_any {R : Ending → World → Prop} (blk off cap a b n : Nat) (d : Array Int) (w : World) (hn : d.size = n) (hH : Holds encU w blk off d) (hab : a < b) (hb : b ≤ n) (hsz : n ≤ 1000000)
    (hR : ∀ w', RowAt w blk off (Sort.partialInsertionSort ltInt d a b).1 w' → R (.returned (.bool (Sort.partialInsertionSort ltInt d a b).2)) w') :
    Calls Try.prog 35 #[.slice (some ⟨blk, off, none⟩) n cap, .int .i64 a, .int .i64 b] w R := by
  obtain ⟨r, hr⟩ : ∃ r, Sort.partialInsertionSort ltInt d a b = r := ⟨_, rfl⟩
  rw [hr] at hR
  have HR := Lib.hid hR
  have HH := Lib.hid hH
  have HN := Lib.hid hn
  have HPI := Lib.hid hr
  have j1 : (a : Int) < (b : Int) := by omega
  have j3 : (b : Int) ≤ (n : Int) := by omega
  have j4 : (n : Int) ≤ 1000000 := by omega
  clear hR hH hn hr
  go_enter Try.func35, Try.ntmps35
  go_wp2_with fail
  go_loopw [7, 8] (fun vi vj wr => PIRel w blk off d r a b vi vj wr) (fun _ vj _ => 5 - (intOf vj).toNat)
  case atStart => exact ⟨0, a + 1, d, rfl, by go_num, by omega, by omega, by omega, rfl, .start HH.out, HPI.out⟩
  case round =>
    obtain ⟨jj, i0, dk, rfl, rfl, hjj, hi1, hi2, hsk, hrow, hO⟩ := hrel
    have HO := Lib.hid hO
    have HRow := Lib.hid hrow
    have HSk := Lib.hid hsk
    clear hO hrow hsk
    by_cases hj5 : jj < 5
    · have jj5 : (jj : Int) < 5 := by omega
      obtain ⟨s, hs⟩ : ∃ s, 5 - jj = s + 1 := ⟨4 - jj, by omega⟩
      have hs2 : 5 - (jj + 1) = s := by omega
      rw [hs] at HO
      have ji1 : (a : Int) + 1 ≤ (i0 : Int) := by omega
      have ji2 : (i0 : Int) ≤ (b : Int) := by omega
      clear hs
      go_wp2_with fail
      go_loopw [7] (fun v wr => ScanRel w blk off dk b i0 v wr) (fun v _ => b - (intOf v).toNat)
      case atStart => exact ⟨i0, rfl, Nat.le_refl _, hi2, HRow.out, rfl⟩
      case round =>
        obtain ⟨i, rfl, hk1, hk2, hrow, hS⟩ := hrel
        obtain ⟨G, hG, hcw, hfw⟩ := hrow.reads HH.out HSk.out
        have HG := Lib.hid hG
        have HRW := Lib.hid hrow
        have HS := Lib.hid hS
        have hdn := HN.out
        have jk1 : (i : Int) ≤ (b : Int) := by omega
        have jk2 : (a : Int) + 1 ≤ (i : Int) := by omega
        have nk : ((i : Int) - 1).toNat = i - 1 := by omega
        clear hG hrow hS
        by_cases hgo : i < b ∧ ltInt dk[i]! dk[i - 1]! = false
        · obtain ⟨hij, hl⟩ := hgo
          have hl2 : ltInt (G i) (G (i - 1)) = false := by rw [HG.out, HG.out]; exact hl
          have jij : (i : Int) < (b : Int) := by omega
          have c1 := hcw i (by omega)
          have c2 := hcw (i - 1) (by omega)
          have HE := Lib.hid (sorted_go ltInt dk b i hij hl)
          clear hdn
          go_wp2
          go_quiet ((go_at_call 36; exact Calls.quiet_of_same (less_any _ _ _)))
          go_wp2
          exact ⟨⟨i + 1, by go_num, by omega, by omega, HRW.out.drewN _, by rw [← HS.out]; exact HE.out.symm⟩, by simp [intOf]; omega⟩
        · have HX : Hid (Sort.scanSorted ltInt dk b i0 = i) := Lib.hid (by rw [← HS.out]; exact sorted_stop ltInt dk b i hgo)
          by_cases hij : i < b
          · have hl2 : ltInt (G i) (G (i - 1)) = true := by
              rw [HG.out, HG.out]
              cases e : ltInt dk[i]! dk[i - 1]! with
              | false => exact absurd ⟨hij, e⟩ hgo
              | true => rfl
            have jij : (i : Int) < (b : Int) := by omega
            have jne : ((i : Int) == (b : Int)) = false := by rw [beq_eq_false_iff_ne]; omega
            have c1 := hcw i (by omega)
            have c2 := hcw (i - 1) (by omega)
            have f1 := hfw i (by omega)
            have f2 := hfw (i - 1) (by omega)
            clear hdn hgo
            by_cases h50 : b - a < 50
            · have j50 : (b : Int) - (a : Int) < 50 := by omega
              have hE : (dk, false) = r := by rw [← HO.out]; exact (partialIns_false ltInt a b s i0 i dk HX.out (by omega) h50).symm
              have HE := Lib.hid (fun q => HR.out (wr.drewN q) (by rw [← hE]; exact HRW.out.drewN q))
              rw [← hE] at HE
              clear hE
              go_wp2
              go_quiet ((go_at_call 36; exact Calls.quiet_of_same (less_any _ _ _)))
              go_wp2
              exact HE.out _
            · have j50 : 50 ≤ (b : Int) - (a : Int) := by omega
              go_wp2
              go_quiet ((go_at_call 36; exact Calls.quiet_of_same (less_any _ _ _)))
              go_wp2_with fail
              obtain ⟨wa, hwa⟩ : ∃ x, wr.drewN nq = x := ⟨_, rfl⟩
              have HRa := Lib.hid (show RowAt w blk off dk wa by rw [← hwa]; exact HRW.out.drewN nq)
              rw [hwa]
              clear hwa c1 c2 f1 f2 hcw hfw HG
              obtain ⟨G, hG, hcw, hfw⟩ := HRa.out.reads HH.out HSk.out
              have HG := Lib.hid hG
              have hdn := HN.out
              have c1 := hcw i (by omega)
              have c2 := hcw (i - 1) (by omega)
              have f1 := hfw i (by omega)
              have f2 := hfw (i - 1) (by omega)
              obtain ⟨v1, hs1⟩ := cell?_setCell_some (w := wa) (p := ⟨blk, off + i, none⟩) (x := .int .u64 (G (i - 1))) (q := ⟨blk, off + (i - 1), none⟩) (v := .int .u64 (G (i - 1))) c2
              obtain ⟨v2, hs2'⟩ := cell?_setCell_some (w := wa) (p := ⟨blk, off + (i - 1), none⟩) (x := .int .u64 (G i)) (q := ⟨blk, off + i, none⟩) (v := .int .u64 (G i)) c1
              clear hdn hG
              obtain ⟨d1, hd1⟩ : ∃ x, swp dk i (i - 1) = x := ⟨_, rfl⟩
              have HS1 : Hid (d1.size = d.size) := Lib.hid (by rw [← hd1, size_swp]; exact HSk.out)
              have HR1q : Hid (∀ q, RowAt w blk off d1 (((wa.drewN q).setCell ⟨blk, off + i, none⟩ (.int .u64 (G (i - 1)))).setCell ⟨blk, off + (i - 1), none⟩ (.int .u64 (G i)))) := Lib.hid fun q => by
                rw [← hd1, HG.out, HG.out]
                exact HRa.out.swap q i (i - 1) (by have := HN.out; rw [HSk.out]; omega) (by have := HN.out; rw [HSk.out]; omega)
              obtain ⟨d2, hd2⟩ : ∃ x, (if i - a ≥ 2 then Sort.shiftDown ltInt (i - 1) d1 else d1) = x := ⟨_, rfl⟩
              obtain ⟨d3, hd3⟩ : ∃ x, (if b - i ≥ 2 then Sort.shiftUp ltInt b (i + 1) d2 else d2) = x := ⟨_, rfl⟩
              have HNX : Hid (Sort.partialIns ltInt a b (s + 1) i0 dk = Sort.partialIns ltInt a b (5 - (jj + 1)) i d3) := Lib.hid (by rw [hs2]; exact partialIns_go ltInt a b s i0 i dk d1 d2 d3 HX.out (by omega) h50 hd1 hd2 hd3)
              have HD2 := Lib.hid hd2
              have HD3 := Lib.hid hd3
              clear hd1 hd2 hd3
              by_cases h2 : 2 ≤ i - a
              · by_cases h3 : 2 ≤ b - i
                · have j20 : 2 ≤ (i : Int) - (a : Int) := by omega
                  have j30 : 2 ≤ (b : Int) - (i : Int) := by omega
                  go_region
                  all_goals go_wp2_with fail
                  obtain ⟨w1, hw1⟩ : ∃ x, ((wa.drewN 1).setCell ⟨blk, off + i, none⟩ (.int .u64 (G (i - 1)))).setCell ⟨blk, off + (i - 1), none⟩ (.int .u64 (G i)) = x := ⟨_, rfl⟩
                  have HR1 : Hid (RowAt w blk off d1 w1) := Lib.hid (by rw [← hw1]; exact HR1q.out 1)
                  change Code.wp _ _ _ _ (((wa.drewN 1).setCell ⟨blk, off + i, none⟩ (.int .u64 (G (i - 1)))).setCell ⟨blk, off + (i - 1), none⟩ (.int .u64 (G i)))
                  rw [hw1]
                  clear hw1 HR1q c1 c2 f1 f2 hs1 hs2' hcw hfw HG HRW HRa HX HS
                  have hd2' : Sort.shiftDown ltInt (i - 1) d1 = d2 := by rw [← HD2.out, if_pos (by omega)]
                  have HD2' := Lib.hid hd2'
                  clear hd2'
                  go_loopw [9] (fun v wr => DownShift w blk off d d1 i v wr) (fun v _ => (intOf v).toNat)
                  case atStart => exact ⟨i - 1, d1, by congr 1; omega, by omega, HS1.out, HR1.out, rfl⟩
                  case' round =>
                    obtain ⟨k, dj, rfl, hk2, hsj, hrj, hU⟩ := hrel
                    have HSj := Lib.hid hsj
                    have HRj := Lib.hid hrj
                    have HU := Lib.hid hU
                    clear hsj hrj hU
                    have jk2 : (k : Int) < (i : Int) := by omega
                    by_cases hkb : 1 ≤ k
                    case' pos =>
                      have jkb : (1 : Int) ≤ (k : Int) := by omega
                      obtain ⟨G, hG, hcw, hfw⟩ := HRj.out.reads HH.out HSj.out
                      have HG := Lib.hid hG
                      have hdn := HN.out
                      have c1 := hcw k (by omega)
                      have c2 := hcw (k - 1) (by omega)
                      have f1 := hfw k (by omega)
                      have f2 := hfw (k - 1) (by omega)
                      have nk : ((k : Int) - 1).toNat = k - 1 := by omega
                      clear hG hdn
                      by_cases hl : ltInt (G k) (G (k - 1)) = true
                      case pos =>
                        go_wp2
                        go_quiet ((go_at_call 36; exact Calls.quiet_of_same (less_any _ _ _)))
                        go_wp2
                        go_region
                        all_goals go_wp2
                        exact ⟨⟨k - 1, swp dj k (k - 1), by congr 1; omega, by omega, by rw [size_swp]; exact HSj.out, by rw [HG.out, HG.out]; exact HRj.out.swap _ k (k - 1) (by have := HN.out; rw [HSj.out]; omega) (by have := HN.out; rw [HSj.out]; omega), by rw [← HU.out]; exact (shiftDown_go ltInt k dj hkb (by rw [← HG.out, ← HG.out]; exact hl)).symm⟩, by simp [intOf]; omega⟩
                      case' neg =>
                        have hl : ltInt (G k) (G (k - 1)) = false := by simpa using hl
                        have HE2 : Hid (dj = d2) := Lib.hid (by rw [← HD2'.out, ← HU.out, shiftDown_stop ltInt k dj (.inr (by rw [← HG.out, ← HG.out]; exact hl))])
                        go_wp2
                        go_quiet ((go_at_call 36; exact Calls.quiet_of_same (less_any _ _ _)))
                        go_wp2_with fail
                        obtain ⟨wc, hwc⟩ : ∃ x, wr.drewN nq = x := ⟨_, rfl⟩
                        have HR2 : Hid (RowAt w blk off d2 wc) := Lib.hid (by rw [← hwc, ← HE2.out]; exact HRj.out.drewN nq)
                        have HS2 : Hid (d2.size = d.size) := Lib.hid (by rw [← HE2.out]; exact HSj.out)
                        rw [hwc]
                        clear hwc hcw hfw c1 c2 f1 f2 hl nk jkb HE2 HG
                    case' neg =>
                      have jkb : (k : Int) < 1 := by omega
                      have HE2 : Hid (dj = d2) := Lib.hid (by rw [← HD2'.out, ← HU.out, shiftDown_stop ltInt k dj (.inl (by omega))])
                      have HR2 : Hid (RowAt w blk off d2 wr) := Lib.hid (by rw [← HE2.out]; exact HRj.out)
                      have HS2 : Hid (d2.size = d.size) := Lib.hid (by rw [← HE2.out]; exact HSj.out)
                      go_wp2_with fail
                      obtain ⟨wc, hwc⟩ : ∃ x, x = wr := ⟨_, rfl⟩
                      rw [← hwc] at HR2 ⊢
                      clear hwc jkb HE2
                  all_goals
                    have hd3' : Sort.shiftUp ltInt b (i + 1) d2 = d3 := by rw [← HD3.out, if_pos (by omega)]
                    have HD3' := Lib.hid hd3'
                    clear hd3'
                    go_loopw [10] (fun v wr => UpShift w blk off d d2 b i v wr) (fun v _ => b - (intOf v).toNat)
                    case atStart => exact ⟨i + 1, d2, by go_num, by omega, by omega, HS2.out, HR2.out, rfl⟩
                    case' round =>
                      obtain ⟨k, dj, rfl, hk1, hk2, hsj, hrj, hU⟩ := hrel
                      have HSj := Lib.hid hsj
                      have HRj := Lib.hid hrj
                      have HU := Lib.hid hU
                      clear hsj hrj hU
                      have jk1 : (i : Int) + 1 ≤ (k : Int) := by omega
                      have jk2 : (k : Int) ≤ (b : Int) := by omega
                      by_cases hkb : k < b
                      case' pos =>
                        have jkb : (k : Int) < (b : Int) := by omega
                        obtain ⟨G, hG, hcw, hfw⟩ := HRj.out.reads HH.out HSj.out
                        have HG := Lib.hid hG
                        have hdn := HN.out
                        have c1 := hcw k (by omega)
                        have c2 := hcw (k - 1) (by omega)
                        have f1 := hfw k (by omega)
                        have f2 := hfw (k - 1) (by omega)
                        have nk : ((k : Int) - 1).toNat = k - 1 := by omega
                        clear hG hdn
                        by_cases hl : ltInt (G k) (G (k - 1)) = true
                        case' pos =>
                          go_wp2
                          go_quiet ((go_at_call 36; exact Calls.quiet_of_same (less_any _ _ _)))
                          go_wp2
                          go_region
                          all_goals go_wp2
                          exact ⟨⟨k + 1, swp dj k (k - 1), by go_num, by omega, by omega, by rw [size_swp]; exact HSj.out, by rw [HG.out, HG.out]; exact HRj.out.swap _ k (k - 1) (by have := HN.out; rw [HSj.out]; omega) (by have := HN.out; rw [HSj.out]; omega), by rw [← HU.out]; exact (shiftUp_go ltInt b k dj hkb (by rw [← HG.out, ← HG.out]; exact hl)).symm⟩, by simp [intOf]; omega⟩
                        case' neg =>
                          have hl : ltInt (G k) (G (k - 1)) = false := by simpa using hl
                          have HE3 : Hid (dj = d3) := Lib.hid (by rw [← HD3'.out, ← HU.out, shiftUp_stop ltInt b k dj (.inr (by rw [← HG.out, ← HG.out]; exact hl))])
                          go_wp2
                          go_quiet ((go_at_call 36; exact Calls.quiet_of_same (less_any _ _ _)))
                          go_wp2
                          have HR3 : Hid (RowAt w blk off d3 (wr.drewN nq)) := Lib.hid (by rw [← HE3.out]; exact HRj.out.drewN nq)
                          have HS3 : Hid (d3.size = d.size) := Lib.hid (by rw [← HE3.out]; exact HSj.out)
                          exact ⟨⟨jj + 1, i, d3, by go_num, rfl, by omega, by omega, by omega, HS3.out, HR3.out, by rw [← HO.out]; exact HNX.out.symm⟩, by simp [intOf]; omega⟩
                      case' neg =>
                        have jkb : (b : Int) ≤ (k : Int) := by omega
                        have HE3 : Hid (dj = d3) := Lib.hid (by rw [← HD3'.out, ← HU.out, shiftUp_stop ltInt b k dj (.inl (by omega))])
                        have HR3 : Hid (RowAt w blk off d3 wr) := Lib.hid (by rw [← HE3.out]; exact HRj.out)
                        have HS3 : Hid (d3.size = d.size) := Lib.hid (by rw [← HE3.out]; exact HSj.out)
                        go_wp2
                        exact ⟨⟨jj + 1, i, d3, by go_num, rfl, by omega, by omega, by omega, HS3.out, HR3.out, by rw [← HO.out]; exact HNX.out.symm⟩, by simp [intOf]; omega⟩
                · have j20 : 2 ≤ (i : Int) - (a : Int) := by omega
                  have j30 : (b : Int) - (i : Int) < 2 := by omega
                  go_region
                  all_goals go_wp2_with fail
                  obtain ⟨w1, hw1⟩ : ∃ x, ((wa.drewN 1).setCell ⟨blk, off + i, none⟩ (.int .u64 (G (i - 1)))).setCell ⟨blk, off + (i - 1), none⟩ (.int .u64 (G i)) = x := ⟨_, rfl⟩
                  have HR1 : Hid (RowAt w blk off d1 w1) := Lib.hid (by rw [← hw1]; exact HR1q.out 1)
                  change Code.wp _ _ _ _ (((wa.drewN 1).setCell ⟨blk, off + i, none⟩ (.int .u64 (G (i - 1)))).setCell ⟨blk, off + (i - 1), none⟩ (.int .u64 (G i)))
                  rw [hw1]
                  clear hw1 HR1q c1 c2 f1 f2 hs1 hs2' hcw hfw HG HRW HRa HX HS
                  have hd2' : Sort.shiftDown ltInt (i - 1) d1 = d2 := by rw [← HD2.out, if_pos (by omega)]
                  have HD2' := Lib.hid hd2'
                  clear hd2'
                  go_loopw [9] (fun v wr => DownShift w blk off d d1 i v wr) (fun v _ => (intOf v).toNat)
                  case atStart => exact ⟨i - 1, d1, by congr 1; omega, by omega, HS1.out, HR1.out, rfl⟩
                  case' round =>
                    obtain ⟨k, dj, rfl, hk2, hsj, hrj, hU⟩ := hrel
                    have HSj := Lib.hid hsj
                    have HRj := Lib.hid hrj
                    have HU := Lib.hid hU
                    clear hsj hrj hU
                    have jk2 : (k : Int) < (i : Int) := by omega
                    by_cases hkb : 1 ≤ k
                    case' pos =>
                      have jkb : (1 : Int) ≤ (k : Int) := by omega
                      obtain ⟨G, hG, hcw, hfw⟩ := HRj.out.reads HH.out HSj.out
                      have HG := Lib.hid hG
                      have hdn := HN.out
                      have c1 := hcw k (by omega)
                      have c2 := hcw (k - 1) (by omega)
                      have f1 := hfw k (by omega)
                      have f2 := hfw (k - 1) (by omega)
                      have nk : ((k : Int) - 1).toNat = k - 1 := by omega
                      clear hG hdn
                      by_cases hl : ltInt (G k) (G (k - 1)) = true
                      case pos =>
                        go_wp2
                        go_quiet ((go_at_call 36; exact Calls.quiet_of_same (less_any _ _ _)))
                        go_wp2
                        go_region
                        all_goals go_wp2
                        exact ⟨⟨k - 1, swp dj k (k - 1), by congr 1; omega, by omega, by rw [size_swp]; exact HSj.out, by rw [HG.out, HG.out]; exact HRj.out.swap _ k (k - 1) (by have := HN.out; rw [HSj.out]; omega) (by have := HN.out; rw [HSj.out]; omega), by rw [← HU.out]; exact (shiftDown_go ltInt k dj hkb (by rw [← HG.out, ← HG.out]; exact hl)).symm⟩, by simp [intOf]; omega⟩
                      case' neg =>
                        have hl : ltInt (G k) (G (k - 1)) = false := by simpa using hl
                        have HE2 : Hid (dj = d2) := Lib.hid (by rw [← HD2'.out, ← HU.out, shiftDown_stop ltInt k dj (.inr (by rw [← HG.out, ← HG.out]; exact hl))])
                        go_wp2
                        go_quiet ((go_at_call 36; exact Calls.quiet_of_same (less_any _ _ _)))
                        go_wp2_with fail
                        obtain ⟨wc, hwc⟩ : ∃ x, wr.drewN nq = x := ⟨_, rfl⟩
                        have HR2 : Hid (RowAt w blk off d2 wc) := Lib.hid (by rw [← hwc, ← HE2.out]; exact HRj.out.drewN nq)
                        have HS2 : Hid (d2.size = d.size) := Lib.hid (by rw [← HE2.out]; exact HSj.out)
                        rw [hwc]
                        clear hwc hcw hfw c1 c2 f1 f2 hl nk jkb HE2 HG
                    case' neg =>
                      have jkb : (k : Int) < 1 := by omega
                      have HE2 : Hid (dj = d2) := Lib.hid (by rw [← HD2'.out, ← HU.out, shiftDown_stop ltInt k dj (.inl (by omega))])
                      have HR2 : Hid (RowAt w blk off d2 wr) := Lib.hid (by rw [← HE2.out]; exact HRj.out)
                      have HS2 : Hid (d2.size = d.size) := Lib.hid (by rw [← HE2.out]; exact HSj.out)
                      go_wp2_with fail
                      obtain ⟨wc, hwc⟩ : ∃ x, x = wr := ⟨_, rfl⟩
                      rw [← hwc] at HR2 ⊢
                      clear hwc jkb HE2
                  all_goals
                    have HE3 : Hid (d2 = d3) := Lib.hid (by rw [← HD3.out, if_neg (by omega)])
                    have HR3 : Hid (RowAt w blk off d3 wc) := Lib.hid (by rw [← HE3.out]; exact HR2.out)
                    have HS3 : Hid (d3.size = d.size) := Lib.hid (by rw [← HE3.out]; exact HS2.out)
                    exact ⟨⟨jj + 1, i, d3, by go_num, rfl, by omega, by omega, by omega, HS3.out, HR3.out, by rw [← HO.out]; exact HNX.out.symm⟩, by simp [intOf]; omega⟩
              · by_cases h3 : 2 ≤ b - i
                · have j20 : (i : Int) - (a : Int) < 2 := by omega
                  have j30 : 2 ≤ (b : Int) - (i : Int) := by omega
                  go_region
                  all_goals go_wp2_with fail
                  obtain ⟨w1, hw1⟩ : ∃ x, ((wa.drewN 1).setCell ⟨blk, off + i, none⟩ (.int .u64 (G (i - 1)))).setCell ⟨blk, off + (i - 1), none⟩ (.int .u64 (G i)) = x := ⟨_, rfl⟩
                  have HR1 : Hid (RowAt w blk off d1 w1) := Lib.hid (by rw [← hw1]; exact HR1q.out 1)
                  change Code.wp _ _ _ _ (((wa.drewN 1).setCell ⟨blk, off + i, none⟩ (.int .u64 (G (i - 1)))).setCell ⟨blk, off + (i - 1), none⟩ (.int .u64 (G i)))
                  rw [hw1]
                  clear hw1 HR1q c1 c2 f1 f2 hs1 hs2' hcw hfw HG HRW HRa HX HS
                  have HE2 : Hid (d1 = d2) := Lib.hid (by rw [← HD2.out, if_neg (by omega)])
                  have HR2 : Hid (RowAt w blk off d2 w1) := Lib.hid (by rw [← HE2.out]; exact HR1.out)
                  have HS2 : Hid (d2.size = d.size) := Lib.hid (by rw [← HE2.out]; exact HS1.out)
                  have hd3' : Sort.shiftUp ltInt b (i + 1) d2 = d3 := by rw [← HD3.out, if_pos (by omega)]
                  have HD3' := Lib.hid hd3'
                  clear hd3'
                  go_loopw [10] (fun v wr => UpShift w blk off d d2 b i v wr) (fun v _ => b - (intOf v).toNat)
                  case atStart => exact ⟨i + 1, d2, by go_num, by omega, by omega, HS2.out, HR2.out, rfl⟩
                  case' round =>
                    obtain ⟨k, dj, rfl, hk1, hk2, hsj, hrj, hU⟩ := hrel
                    have HSj := Lib.hid hsj
                    have HRj := Lib.hid hrj
                    have HU := Lib.hid hU
                    clear hsj hrj hU
                    have jk1 : (i : Int) + 1 ≤ (k : Int) := by omega
                    have jk2 : (k : Int) ≤ (b : Int) := by omega
                    by_cases hkb : k < b
                    case' pos =>
                      have jkb : (k : Int) < (b : Int) := by omega
                      obtain ⟨G, hG, hcw, hfw⟩ := HRj.out.reads HH.out HSj.out
                      have HG := Lib.hid hG
                      have hdn := HN.out
                      have c1 := hcw k (by omega)
                      have c2 := hcw (k - 1) (by omega)
                      have f1 := hfw k (by omega)
                      have f2 := hfw (k - 1) (by omega)
                      have nk : ((k : Int) - 1).toNat = k - 1 := by omega
                      clear hG hdn
                      by_cases hl : ltInt (G k) (G (k - 1)) = true
                      case' pos =>
                        go_wp2
                        go_quiet ((go_at_call 36; exact Calls.quiet_of_same (less_any _ _ _)))
                        go_wp2
                        go_region
                        all_goals go_wp2
                        exact ⟨⟨k + 1, swp dj k (k - 1), by go_num, by omega, by omega, by rw [size_swp]; exact HSj.out, by rw [HG.out, HG.out]; exact HRj.out.swap _ k (k - 1) (by have := HN.out; rw [HSj.out]; omega) (by have := HN.out; rw [HSj.out]; omega), by rw [← HU.out]; exact (shiftUp_go ltInt b k dj hkb (by rw [← HG.out, ← HG.out]; exact hl)).symm⟩, by simp [intOf]; omega⟩
                      case' neg =>
                        have hl : ltInt (G k) (G (k - 1)) = false := by simpa using hl
                        have HE3 : Hid (dj = d3) := Lib.hid (by rw [← HD3'.out, ← HU.out, shiftUp_stop ltInt b k dj (.inr (by rw [← HG.out, ← HG.out]; exact hl))])
                        go_wp2
                        go_quiet ((go_at_call 36; exact Calls.quiet_of_same (less_any _ _ _)))
                        go_wp2
                        have HR3 : Hid (RowAt w blk off d3 (wr.drewN nq)) := Lib.hid (by rw [← HE3.out]; exact HRj.out.drewN nq)
                        have HS3 : Hid (d3.size = d.size) := Lib.hid (by rw [← HE3.out]; exact HSj.out)
                        exact ⟨⟨jj + 1, i, d3, by go_num, rfl, by omega, by omega, by omega, HS3.out, HR3.out, by rw [← HO.out]; exact HNX.out.symm⟩, by simp [intOf]; omega⟩
                    case' neg =>
                      have jkb : (b : Int) ≤ (k : Int) := by omega
                      have HE3 : Hid (dj = d3) := Lib.hid (by rw [← HD3'.out, ← HU.out, shiftUp_stop ltInt b k dj (.inl (by omega))])
                      have HR3 : Hid (RowAt w blk off d3 wr) := Lib.hid (by rw [← HE3.out]; exact HRj.out)
                      have HS3 : Hid (d3.size = d.size) := Lib.hid (by rw [← HE3.out]; exact HSj.out)
                      go_wp2
                      exact ⟨⟨jj + 1, i, d3, by go_num, rfl, by omega, by omega, by omega, HS3.out, HR3.out, by rw [← HO.out]; exact HNX.out.symm⟩, by simp [intOf]; omega⟩
                · omega
          · have jij : (b : Int) ≤ (i : Int) := by omega
            have hib : i = b := by omega
            subst hib
            have hE : (dk, true) = r := by rw [← HO.out]; exact (partialIns_true ltInt a i s i0 dk HX.out).symm
            have HE := Lib.hid (fun q => HR.out (wr.drewN q) (by rw [← hE]; exact HRW.out.drewN q))
            rw [← hE] at HE
            clear hE hdn hgo
            go_wp2
            go_quiet ((go_at_call 36; exact Calls.quiet_of_same (less_any _ _ _)))
            go_wp2
            exact HE.out _
    · have hj : jj = 5 := by omega
      subst hj
      have hE : (dk, false) = r := by rw [← HO.out]; rw [Sort.partialIns]
      have HE := Lib.hid (HR.out wr (by rw [← hE]; exact HRow.out))
      rw [← hE] at HE
      clear hE
      go_wp2
      exact HE.out
end Go.Proofs.Ytcpaphcodhlggaa
