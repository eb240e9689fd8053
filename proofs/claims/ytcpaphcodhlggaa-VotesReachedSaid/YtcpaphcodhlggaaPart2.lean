/- The partition (printed by wip/gen/part22.py). -/
import Derived.Test.YtcpaphcodhlggaaPart
namespace Go.Proofs.Ytcpaphcodhlggaa
open Go.RowKit Go.Sort
theorem part_first {d d0 : Array Int} {a b b1 p i j : Nat} (h0 : swp d a p = d0) (hb : b - 1 = b1) (h1 : Sort.scanUp (fun x => ltInt x d0[a]!) d0 b1 (a + 1) = i) (h2 : Sort.scanDown (fun x => !ltInt x d0[a]!) d0 i b1 = j) (hij : j < i) :
    Sort.partition ltInt d a b p = (j, true, swp d0 j a) := by
  unfold Sort.partition
  simp only [h0, hb, h1, h2]
  rw [if_pos hij]
theorem part_then {d d0 : Array Int} {a b b1 p i j : Nat} (h0 : swp d a p = d0) (hb : b - 1 = b1) (h1 : Sort.scanUp (fun x => ltInt x d0[a]!) d0 b1 (a + 1) = i) (h2 : Sort.scanDown (fun x => !ltInt x d0[a]!) d0 i b1 = j) (hij : i ≤ j) {r : Nat × Array Int} (hr : Sort.partLoop ltInt a (i + 1) (j - 1) (swp d0 i j) = r) :
    Sort.partition ltInt d a b p = (r.1, false, swp r.2 r.1 a) := by
  unfold Sort.partition
  simp only [h0, hb, h1, h2]
  rw [if_neg (by omega), hr]
def PartRel (w : World) (blk off : Nat) (d : Array Int) (r : Nat × Array Int) (a b : Nat) (vi vj : Value) (wr : World) : Prop :=
  ∃ (i j : Nat) (dk : Array Int), vi = .int .i64 i ∧ vj = .int .i64 j ∧ a + 1 ≤ i ∧ (i ≤ j + 2 ∧ i ≤ b) ∧ (a ≤ j ∧ j < b) ∧ dk.size = d.size ∧ RowAt w blk off dk wr ∧ Sort.partLoop ltInt a i j dk = r
set_option maxRecDepth 100000 in
set_option maxHeartbeats 32000000 in
theorem part_any {R : Ending → World → Prop} (blk off cap a b p n : Nat) (d : Array Int) (w : World) (hn : d.size = n) (hH : Holds encU w blk off d) (hp1 : a ≤ p) (hp2 : p < b) (hb : b ≤ n) (hsz : n ≤ 1000000)
    (hR : ∀ w', RowAt w blk off (Sort.partition ltInt d a b p).2.2 w' → R (.returned (.tuple #[.int .i64 ((Sort.partition ltInt d a b p).1 : Nat), .bool (Sort.partition ltInt d a b p).2.1])) w') :
    Calls Try.prog 38 #[.slice (some ⟨blk, off, none⟩) n cap, .int .i64 a, .int .i64 b, .int .i64 p] w R := by
  obtain ⟨b1, hb1⟩ : ∃ x, b - 1 = x := ⟨_, rfl⟩
  have HB1 := Lib.hid hb1
  have jb1 : (b : Int) - 1 = (b1 : Int) := by omega
  have jb2 : (b1 : Int) < (b : Int) := by omega
  have HR := Lib.hid hR
  have HH := Lib.hid hH
  have HN := Lib.hid hn
  have j1 : (a : Int) ≤ (p : Int) := by omega
  have j2 : (p : Int) < (b : Int) := by omega
  have j3 : (b : Int) ≤ (n : Int) := by omega
  have j4 : (n : Int) ≤ 1000000 := by omega
  obtain ⟨G, hG, hcw, hfw⟩ := (RowAt.start hH).reads hH rfl
  have HG := Lib.hid hG
  have c1 := hcw p (by omega)
  have c2 := hcw a (by omega)
  have f1 := hfw p (by omega)
  have f2 := hfw a (by omega)
  obtain ⟨v1, hs1⟩ := cell?_setCell_some (w := w) (p := ⟨blk, off + a, none⟩) (x := .int .u64 (G p)) (q := ⟨blk, off + p, none⟩) (v := .int .u64 (G p)) c1
  obtain ⟨v2, hs2⟩ := cell?_setCell_some (w := w) (p := ⟨blk, off + p, none⟩) (x := .int .u64 (G a)) (q := ⟨blk, off + a, none⟩) (v := .int .u64 (G a)) c2
  have hsw : RowAt w blk off (swp d a p) (((w.drewN 1).setCell ⟨blk, off + a, none⟩ (.int .u64 (G p))).setCell ⟨blk, off + p, none⟩ (.int .u64 (G a))) := by
    rw [hG, hG]
    exact (RowAt.start hH).swap 1 a p (by omega) (by omega)
  have HSW := Lib.hid hsw
  obtain ⟨d0, hd0⟩ : ∃ x, swp d a p = x := ⟨_, rfl⟩
  have HD0 := Lib.hid hd0
  have HS0 : Hid (d0.size = d.size) := Lib.hid (by rw [← hd0, size_swp])
  rw [hd0] at HSW
  clear hR hH hn hG hsw hd0
  go_enter Try.func38, Try.ntmps38
  go_wp2
  go_region
  all_goals go_wp2_with fail
  obtain ⟨w0, hw0⟩ : ∃ x, ((w.drewN 1).setCell ⟨blk, off + a, none⟩ (.int .u64 (G p))).setCell ⟨blk, off + p, none⟩ (.int .u64 (G a)) = x := ⟨_, rfl⟩
  have HR0 : Hid (RowAt w blk off d0 w0) := Lib.hid (by rw [← hw0]; exact HSW.out)
  change Code.wp _ _ _ _ (((w.drewN 1).setCell ⟨blk, off + a, none⟩ (.int .u64 (G p))).setCell ⟨blk, off + p, none⟩ (.int .u64 (G a)))
  rw [hw0]
  clear hw0 HSW c1 c2 f1 f2 hs1 hs2 hcw hfw HG
  go_loopw [10] (fun v wr => UpRel w blk off d0 (fun x => ltInt x d0[a]!) a b b1 (a + 1) v wr) (fun v _ => b + 1 - (intOf v).toNat)
  case atStart => exact ⟨_, (by first | rfl | (congr 1; omega)), by omega, by omega, HR0.out, rfl⟩
  case round =>
    obtain ⟨i, rfl, hk1, hk2, hrow, hS⟩ := hrel
    obtain ⟨G, hG, hcw, hfw⟩ := hrow.reads HH.out HS0.out
    have HG := Lib.hid hG
    have HRW := Lib.hid hrow
    have HS := Lib.hid hS
    have hdn := HN.out
    have jk1 : (i : Int) ≤ (b : Int) := by omega
    have jk2 : (a : Int) ≤ (i : Int) := by omega
    clear hG hrow hS
    by_cases hgo : i ≤ b1 ∧ ltInt d0[i]! d0[a]! = true
    · obtain ⟨hij, hl⟩ := hgo
      have hl2 : ltInt (G i) (G a) = true := by rw [HG.out, HG.out]; exact hl
      have jij : (i : Int) ≤ (b1 : Int) := by omega
      have c1 := hcw i (by omega)
      have c2 := hcw a (by omega)
      have HE := Lib.hid (scanUp_go (fun x => ltInt x d0[a]!) d0 b1 i (by omega) hij (by first | (rw [hl]; done) | (rw [hl]; rfl)))
      clear hdn
      go_wp2
      go_quiet ((go_at_call 36; exact Calls.quiet_of_same (less_any _ _ _)))
      go_wp2
      exact ⟨⟨i + 1, by go_num, by omega, by omega, HRW.out.drewN _, by rw [← HS.out]; exact HE.out.symm⟩, by simp [intOf] <;> omega⟩
    · have HX := Lib.hid (up_end HS.out hgo)
      by_cases hij : i ≤ b1
      case' pos =>
        have hl2 : ltInt (G i) (G a) = false := by
          rw [HG.out, HG.out]
          cases e : ltInt d0[i]! d0[a]! with
          | true => exact absurd ⟨hij, e⟩ hgo
          | false => rfl
        have jij : (i : Int) ≤ (b1 : Int) := by omega
        have c1 := hcw i (by omega)
        have c2 := hcw a (by omega)
        clear hdn
        go_wp2
        go_quiet ((go_at_call 36; exact Calls.quiet_of_same (less_any _ _ _)))
        go_wp2_with fail
      case' neg =>
        have jij : (b1 : Int) < (i : Int) := by omega
        clear hdn
        go_wp2
        go_quiet ((go_at_call 36; exact Calls.quiet_of_same (less_any _ _ _)))
        go_wp2_with fail
      all_goals
        obtain ⟨wa, hwa⟩ : ∃ x, wr.drewN nq = x := ⟨_, rfl⟩
        have HRa := Lib.hid (show RowAt w blk off d0 wa by rw [← hwa]; exact HRW.out.drewN nq)
        rw [hwa]
        clear hwa hgo
        clear hij
        have HX1 := HX
        clear HX
        go_loopw [11] (fun v wr => DownRel w blk off d0 (fun x => !ltInt x d0[a]!) a b i (b1) v wr) (fun v _ => (intOf v + 1).toNat)
        case atStart => exact ⟨_, (by first | rfl | (congr 1; omega)), by omega, by omega, HRa.out, rfl⟩
        case round =>
          obtain ⟨j, rfl, hk1, hk2, hrow, hS⟩ := hrel
          obtain ⟨G, hG, hcw, hfw⟩ := hrow.reads HH.out HS0.out
          have HG := Lib.hid hG
          have HRW := Lib.hid hrow
          have HS := Lib.hid hS
          have hdn := HN.out
          have jk1 : (j : Int) ≤ (b : Int) := by omega
          have jk2 : (a : Int) ≤ (j : Int) := by omega
          clear hG hrow hS
          by_cases hgo : i ≤ j ∧ ltInt d0[j]! d0[a]! = false
          · obtain ⟨hij, hl⟩ := hgo
            have hl2 : ltInt (G j) (G a) = false := by rw [HG.out, HG.out]; exact hl
            have jij : (i : Int) ≤ (j : Int) := by omega
            have c1 := hcw j (by omega)
            have c2 := hcw a (by omega)
            have HE := Lib.hid (scanDown_go (fun x => !ltInt x d0[a]!) d0 i j (by omega) hij (by first | (rw [hl]; done) | (rw [hl]; rfl)))
            clear hdn
            go_wp2
            go_quiet ((go_at_call 36; exact Calls.quiet_of_same (less_any _ _ _)))
            go_wp2
            exact ⟨⟨j - 1, by congr 1; omega, by omega, by omega, HRW.out.drewN _, by rw [← HS.out]; exact HE.out.symm⟩, by simp [intOf] <;> omega⟩
          · have HX := Lib.hid (down_end HS.out (by omega) hgo)
            by_cases hij : i ≤ j
            case' pos =>
              have hl2 : ltInt (G j) (G a) = true := by
                rw [HG.out, HG.out]
                cases e : ltInt d0[j]! d0[a]! with
                | false => exact absurd ⟨hij, e⟩ hgo
                | true => rfl
              have jij : (i : Int) ≤ (j : Int) := by omega
              have c1 := hcw j (by omega)
              have c2 := hcw a (by omega)
              clear hdn
              go_wp2
              go_quiet ((go_at_call 36; exact Calls.quiet_of_same (less_any _ _ _)))
              go_wp2_with fail
              all_goals
                obtain ⟨wb, hwa⟩ : ∃ x, wr.drewN nq = x := ⟨_, rfl⟩
                have HRb := Lib.hid (show RowAt w blk off d0 wb by rw [← hwa]; exact HRW.out.drewN nq)
                rw [hwa]
                clear hwa hgo
                obtain ⟨G, hG, hcw, hfw⟩ := HRb.out.reads HH.out HS0.out
                have HG := Lib.hid hG
                have hdn := HN.out
                have c1 := hcw i (by omega)
                have c2 := hcw j (by omega)
                have f1 := hfw i (by omega)
                have f2 := hfw j (by omega)
                obtain ⟨v1, hs1⟩ := cell?_setCell_some (w := wb) (p := ⟨blk, off + i, none⟩) (x := .int .u64 (G j)) (q := ⟨blk, off + j, none⟩) (v := .int .u64 (G j)) c2
                obtain ⟨v2, hs2⟩ := cell?_setCell_some (w := wb) (p := ⟨blk, off + j, none⟩) (x := .int .u64 (G i)) (q := ⟨blk, off + i, none⟩) (v := .int .u64 (G i)) c1
                clear hdn hG
                obtain ⟨d1, hd1⟩ : ∃ x, swp d0 i j = x := ⟨_, rfl⟩
                have HS1 : Hid (d1.size = d.size) := Lib.hid (by rw [← hd1, size_swp]; exact HS0.out)
                have HR1 : Hid (∀ q, RowAt w blk off d1 (((wb.drewN q).setCell ⟨blk, off + i, none⟩ (.int .u64 (G j))).setCell ⟨blk, off + j, none⟩ (.int .u64 (G i)))) := Lib.hid fun q => by
                  rw [← hd1, HG.out, HG.out]
                  exact HRb.out.swap q i j (by have := HN.out; rw [HS0.out]; omega) (by have := HN.out; rw [HS0.out]; omega)
                obtain ⟨r, hr⟩ : ∃ r, Sort.partLoop ltInt a (i + 1) (j - 1) d1 = r := ⟨_, rfl⟩
                have HPT : Hid (Sort.partition ltInt d a b p = (r.1, false, swp r.2 r.1 a)) := Lib.hid (part_then HD0.out HB1.out HX1.out HX.out hij (by rw [hd1]; exact hr))
                have HPR := Lib.hid hr
                clear hr hd1
                go_region
                all_goals go_wp2_with fail
                obtain ⟨w1, hw1⟩ : ∃ x, ((wb.drewN 1).setCell ⟨blk, off + i, none⟩ (.int .u64 (G j))).setCell ⟨blk, off + j, none⟩ (.int .u64 (G i)) = x := ⟨_, rfl⟩
                have HRw : Hid (RowAt w blk off d1 w1) := Lib.hid (by rw [← hw1]; exact HR1.out 1)
                change Code.wp _ _ _ _ (((wb.drewN 1).setCell ⟨blk, off + i, none⟩ (.int .u64 (G j))).setCell ⟨blk, off + j, none⟩ (.int .u64 (G i)))
                rw [hw1]
                clear hw1 HR1 c1 c2 f1 f2 hs1 hs2 hcw hfw HG
                go_loopw [10, 11] (fun vi vj wr => PartRel w blk off d r a b vi vj wr) (fun _ vj _ => (intOf vj + 1).toNat)
                case atStart => exact ⟨i + 1, j - 1, d1, by go_num, by congr 1; omega, by omega, by omega, by omega, HS1.out, HRw.out, HPR.out⟩
                case round =>
                  clear HX HX1 HRb HRa HRw HS1 HPR
                  obtain ⟨i0, j0, dk, rfl, rfl, hi0, hij0, hj0, hsk, hrow, hO⟩ := hrel
                  have HO := Lib.hid hO
                  have HRow := Lib.hid hrow
                  have HSk := Lib.hid hsk
                  have ji1 : (a : Int) + 1 ≤ (i0 : Int) := by omega
                  have ji2 : (i0 : Int) ≤ (b : Int) := by omega
                  have jj1 : (a : Int) ≤ (j0 : Int) := by omega
                  have jj2 : (j0 : Int) < (b : Int) := by omega
                  clear hO hrow hsk
                  go_wp2_with fail
                  go_loopw [10] (fun v wr => UpRel w blk off dk (fun x => ltInt x dk[a]!) a b j0 (i0) v wr) (fun v _ => b + 1 - (intOf v).toNat)
                  case atStart => exact ⟨_, (by first | rfl | (congr 1; omega)), by omega, by omega, HRow.out, rfl⟩
                  case round =>
                    obtain ⟨i, rfl, hk1, hk2, hrow, hS⟩ := hrel
                    obtain ⟨G, hG, hcw, hfw⟩ := hrow.reads HH.out HSk.out
                    have HG := Lib.hid hG
                    have HRW := Lib.hid hrow
                    have HS := Lib.hid hS
                    have hdn := HN.out
                    have jk1 : (i : Int) ≤ (b : Int) := by omega
                    have jk2 : (a : Int) ≤ (i : Int) := by omega
                    clear hG hrow hS
                    by_cases hgo : i ≤ j0 ∧ ltInt dk[i]! dk[a]! = true
                    · obtain ⟨hij, hl⟩ := hgo
                      have hl2 : ltInt (G i) (G a) = true := by rw [HG.out, HG.out]; exact hl
                      have jij : (i : Int) ≤ (j0 : Int) := by omega
                      have c1 := hcw i (by omega)
                      have c2 := hcw a (by omega)
                      have HE := Lib.hid (scanUp_go (fun x => ltInt x dk[a]!) dk j0 i (by omega) hij (by first | (rw [hl]; done) | (rw [hl]; rfl)))
                      clear hdn
                      go_wp2
                      go_quiet ((go_at_call 36; exact Calls.quiet_of_same (less_any _ _ _)))
                      go_wp2
                      exact ⟨⟨i + 1, by go_num, by omega, by omega, HRW.out.drewN _, by rw [← HS.out]; exact HE.out.symm⟩, by simp [intOf] <;> omega⟩
                    · have HX := Lib.hid (up_end HS.out hgo)
                      by_cases hij : i ≤ j0
                      case' pos =>
                        have hl2 : ltInt (G i) (G a) = false := by
                          rw [HG.out, HG.out]
                          cases e : ltInt dk[i]! dk[a]! with
                          | true => exact absurd ⟨hij, e⟩ hgo
                          | false => rfl
                        have jij : (i : Int) ≤ (j0 : Int) := by omega
                        have c1 := hcw i (by omega)
                        have c2 := hcw a (by omega)
                        clear hdn
                        go_wp2
                        go_quiet ((go_at_call 36; exact Calls.quiet_of_same (less_any _ _ _)))
                        go_wp2_with fail
                      case' neg =>
                        have jij : (j0 : Int) < (i : Int) := by omega
                        clear hdn
                        go_wp2
                        go_quiet ((go_at_call 36; exact Calls.quiet_of_same (less_any _ _ _)))
                        go_wp2_with fail
                      all_goals
                        obtain ⟨wa, hwa⟩ : ∃ x, wr.drewN nq = x := ⟨_, rfl⟩
                        have HRa := Lib.hid (show RowAt w blk off dk wa by rw [← hwa]; exact HRW.out.drewN nq)
                        rw [hwa]
                        clear hwa hgo
                        clear hij
                        have HX1 := HX
                        clear HX
                        go_loopw [11] (fun v wr => DownRel w blk off dk (fun x => !ltInt x dk[a]!) a b i (j0) v wr) (fun v _ => (intOf v + 1).toNat)
                        case atStart => exact ⟨_, (by first | rfl | (congr 1; omega)), by omega, by omega, HRa.out, rfl⟩
                        case round =>
                          obtain ⟨j, rfl, hk1, hk2, hrow, hS⟩ := hrel
                          obtain ⟨G, hG, hcw, hfw⟩ := hrow.reads HH.out HSk.out
                          have HG := Lib.hid hG
                          have HRW := Lib.hid hrow
                          have HS := Lib.hid hS
                          have hdn := HN.out
                          have jk1 : (j : Int) ≤ (b : Int) := by omega
                          have jk2 : (a : Int) ≤ (j : Int) := by omega
                          clear hG hrow hS
                          by_cases hgo : i ≤ j ∧ ltInt dk[j]! dk[a]! = false
                          · obtain ⟨hij, hl⟩ := hgo
                            have hl2 : ltInt (G j) (G a) = false := by rw [HG.out, HG.out]; exact hl
                            have jij : (i : Int) ≤ (j : Int) := by omega
                            have c1 := hcw j (by omega)
                            have c2 := hcw a (by omega)
                            have HE := Lib.hid (scanDown_go (fun x => !ltInt x dk[a]!) dk i j (by omega) hij (by first | (rw [hl]; done) | (rw [hl]; rfl)))
                            clear hdn
                            go_wp2
                            go_quiet ((go_at_call 36; exact Calls.quiet_of_same (less_any _ _ _)))
                            go_wp2
                            exact ⟨⟨j - 1, by congr 1; omega, by omega, by omega, HRW.out.drewN _, by rw [← HS.out]; exact HE.out.symm⟩, by simp [intOf] <;> omega⟩
                          · have HX := Lib.hid (down_end HS.out (by omega) hgo)
                            by_cases hij : i ≤ j
                            case' pos =>
                              have hl2 : ltInt (G j) (G a) = true := by
                                rw [HG.out, HG.out]
                                cases e : ltInt dk[j]! dk[a]! with
                                | false => exact absurd ⟨hij, e⟩ hgo
                                | true => rfl
                              have jij : (i : Int) ≤ (j : Int) := by omega
                              have c1 := hcw j (by omega)
                              have c2 := hcw a (by omega)
                              clear hdn
                              go_wp2
                              go_quiet ((go_at_call 36; exact Calls.quiet_of_same (less_any _ _ _)))
                              go_wp2_with fail
                              all_goals
                                obtain ⟨wb, hwa⟩ : ∃ x, wr.drewN nq = x := ⟨_, rfl⟩
                                have HRb := Lib.hid (show RowAt w blk off dk wb by rw [← hwa]; exact HRW.out.drewN nq)
                                rw [hwa]
                                clear hwa hgo
                                obtain ⟨G, hG, hcw, hfw⟩ := HRb.out.reads HH.out HSk.out
                                have HG := Lib.hid hG
                                have hdn := HN.out
                                have c1 := hcw i (by omega)
                                have c2 := hcw j (by omega)
                                have f1 := hfw i (by omega)
                                have f2 := hfw j (by omega)
                                obtain ⟨v1, hs1⟩ := cell?_setCell_some (w := wb) (p := ⟨blk, off + i, none⟩) (x := .int .u64 (G j)) (q := ⟨blk, off + j, none⟩) (v := .int .u64 (G j)) c2
                                obtain ⟨v2, hs2⟩ := cell?_setCell_some (w := wb) (p := ⟨blk, off + j, none⟩) (x := .int .u64 (G i)) (q := ⟨blk, off + i, none⟩) (v := .int .u64 (G i)) c1
                                clear hdn hG
                                obtain ⟨dn, hdn⟩ : ∃ x, swp dk i j = x := ⟨_, rfl⟩
                                have HSn : Hid (dn.size = d.size) := Lib.hid (by rw [← hdn, size_swp]; exact HSk.out)
                                have HRn : Hid (∀ q, RowAt w blk off dn (((wb.drewN q).setCell ⟨blk, off + i, none⟩ (.int .u64 (G j))).setCell ⟨blk, off + j, none⟩ (.int .u64 (G i)))) := Lib.hid fun q => by
                                  rw [← hdn, HG.out, HG.out]
                                  exact HRb.out.swap q i j (by have := HN.out; rw [HSk.out]; omega) (by have := HN.out; rw [HSk.out]; omega)
                                have HO2 : Hid (Sort.partLoop ltInt a (i + 1) (j - 1) dn = r) := Lib.hid (by rw [← HO.out, part_go HX1.out HX.out (by omega) (by omega) (by omega) (by omega), hdn])
                                go_region
                                all_goals go_wp2
                                exact ⟨⟨i + 1, j - 1, dn, by go_num, by congr 1; omega, by omega, by omega, by omega, HSn.out, HRn.out 1, HO2.out⟩, by simp [intOf]; omega⟩
                            case' neg =>
                              have jij : (j : Int) < (i : Int) := by omega
                              clear hdn
                              go_wp2
                              go_quiet ((go_at_call 36; exact Calls.quiet_of_same (less_any _ _ _)))
                              go_wp2_with fail
                              all_goals
                                obtain ⟨wb, hwa⟩ : ∃ x, wr.drewN nq = x := ⟨_, rfl⟩
                                have HRb := Lib.hid (show RowAt w blk off dk wb by rw [← hwa]; exact HRW.out.drewN nq)
                                rw [hwa]
                                clear hwa hgo
                                have he : Sort.partition ltInt d a b p = (j, false, swp dk j a) := by
                                  rw [HPT.out, ← HO.out, part_end HX1.out HX.out (by omega)]
                                obtain ⟨G, hG, hcw, hfw⟩ := HRb.out.reads HH.out HSk.out
                                have HG := Lib.hid hG
                                have hdn := HN.out
                                have c1 := hcw j (by omega)
                                have c2 := hcw a (by omega)
                                have f1 := hfw j (by omega)
                                have f2 := hfw a (by omega)
                                obtain ⟨v1, hs1⟩ := cell?_setCell_some (w := wb) (p := ⟨blk, off + j, none⟩) (x := .int .u64 (G a)) (q := ⟨blk, off + a, none⟩) (v := .int .u64 (G a)) c2
                                obtain ⟨v2, hs2⟩ := cell?_setCell_some (w := wb) (p := ⟨blk, off + a, none⟩) (x := .int .u64 (G j)) (q := ⟨blk, off + j, none⟩) (v := .int .u64 (G j)) c1
                                clear hdn hG
                                obtain ⟨dn, hdn⟩ : ∃ x, swp dk j a = x := ⟨_, rfl⟩
                                have HSn : Hid (dn.size = d.size) := Lib.hid (by rw [← hdn, size_swp]; exact HSk.out)
                                have HRn : Hid (∀ q, RowAt w blk off dn (((wb.drewN q).setCell ⟨blk, off + j, none⟩ (.int .u64 (G a))).setCell ⟨blk, off + a, none⟩ (.int .u64 (G j)))) := Lib.hid fun q => by
                                  rw [← hdn, HG.out, HG.out]
                                  exact HRb.out.swap q j a (by have := HN.out; rw [HSk.out]; omega) (by have := HN.out; rw [HSk.out]; omega)
                                have HE := Lib.hid (HR.out _ (by rw [he, hdn]; exact HRn.out 1))
                                rw [he] at HE
                                clear he
                                go_region
                                all_goals go_wp2
                                exact HE.out


            case' neg =>
              have jij : (j : Int) < (i : Int) := by omega
              clear hdn
              go_wp2
              go_quiet ((go_at_call 36; exact Calls.quiet_of_same (less_any _ _ _)))
              go_wp2_with fail
              all_goals
                obtain ⟨wb, hwa⟩ : ∃ x, wr.drewN nq = x := ⟨_, rfl⟩
                have HRb := Lib.hid (show RowAt w blk off d0 wb by rw [← hwa]; exact HRW.out.drewN nq)
                rw [hwa]
                clear hwa hgo
                have he : Sort.partition ltInt d a b p = (j, true, swp d0 j a) := part_first HD0.out HB1.out HX1.out HX.out (by omega)
                obtain ⟨G, hG, hcw, hfw⟩ := HRb.out.reads HH.out HS0.out
                have HG := Lib.hid hG
                have hdn := HN.out
                have c1 := hcw j (by omega)
                have c2 := hcw a (by omega)
                have f1 := hfw j (by omega)
                have f2 := hfw a (by omega)
                obtain ⟨v1, hs1⟩ := cell?_setCell_some (w := wb) (p := ⟨blk, off + j, none⟩) (x := .int .u64 (G a)) (q := ⟨blk, off + a, none⟩) (v := .int .u64 (G a)) c2
                obtain ⟨v2, hs2⟩ := cell?_setCell_some (w := wb) (p := ⟨blk, off + a, none⟩) (x := .int .u64 (G j)) (q := ⟨blk, off + j, none⟩) (v := .int .u64 (G j)) c1
                clear hdn hG
                obtain ⟨dn, hdn⟩ : ∃ x, swp d0 j a = x := ⟨_, rfl⟩
                have HSn : Hid (dn.size = d.size) := Lib.hid (by rw [← hdn, size_swp]; exact HS0.out)
                have HRn : Hid (∀ q, RowAt w blk off dn (((wb.drewN q).setCell ⟨blk, off + j, none⟩ (.int .u64 (G a))).setCell ⟨blk, off + a, none⟩ (.int .u64 (G j)))) := Lib.hid fun q => by
                  rw [← hdn, HG.out, HG.out]
                  exact HRb.out.swap q j a (by have := HN.out; rw [HS0.out]; omega) (by have := HN.out; rw [HS0.out]; omega)
                have HE := Lib.hid (HR.out _ (by rw [he, hdn]; exact HRn.out 1))
                rw [he] at HE
                clear he
                go_region
                all_goals go_wp2
                exact HE.out

end Go.Proofs.Ytcpaphcodhlggaa
