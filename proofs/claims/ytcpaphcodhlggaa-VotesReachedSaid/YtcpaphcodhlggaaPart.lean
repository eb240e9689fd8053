/- The two partitions: the library's text makes what the plain functions say (printed by wip/gen/part22.py). -/
import Derived.Test.YtcpaphcodhlggaaRev
import Derived.Sort.LotC
namespace Go.Proofs.Ytcpaphcodhlggaa
open Go.RowKit Go.Sort
section
variable {α : Type} [Inhabited α]
theorem scanUp_go (p : α → Bool) (d : Array α) (j i : Nat) (_ : i < i + 1) (h : i ≤ j) (hp : p d[i]! = true) : Sort.scanUp p d j i = Sort.scanUp p d j (i + 1) := by
  rw [Sort.scanUp.eq_1 p d j i, hp]
  simp [h]
theorem scanUp_stop (p : α → Bool) (d : Array α) (j i : Nat) (h : ¬ (i ≤ j ∧ p d[i]! = true)) : Sort.scanUp p d j i = i := by
  rw [Sort.scanUp]
  by_cases h1 : i ≤ j
  · cases e : p d[i]! with
    | true => exact absurd ⟨h1, e⟩ h
    | false => simp
  · simp [h1]
theorem scanDown_go (p : α → Bool) (d : Array α) (i j : Nat) (hj : 0 < j) (h : i ≤ j) (hp : p d[j]! = true) : Sort.scanDown p d i j = Sort.scanDown p d i (j - 1) := by
  obtain ⟨k, rfl⟩ : ∃ k, j = k + 1 := ⟨j - 1, by omega⟩
  rw [Sort.scanDown, hp]
  simp [h]
theorem scanDown_stop (p : α → Bool) (d : Array α) (i j : Nat) (_hi : 0 < i) (h : ¬ (i ≤ j ∧ p d[j]! = true)) : Sort.scanDown p d i j = j := by
  cases j with
  | zero => rw [Sort.scanDown]
  | succ k =>
    rw [Sort.scanDown]
    by_cases h1 : i ≤ k + 1
    · cases e : p d[k + 1]! with
      | true => exact absurd ⟨h1, e⟩ h
      | false => simp
    · simp [h1]
end
def UpRel (w : World) (blk off : Nat) (dk : Array Int) (p : Int → Bool) (a b j start : Nat) (v : Value) (wr : World) : Prop :=
  ∃ i : Nat, v = .int .i64 i ∧ a + 1 ≤ i ∧ (start ≤ i ∧ i ≤ b) ∧ RowAt w blk off dk wr ∧ Sort.scanUp p dk j i = Sort.scanUp p dk j start
def DownRel (w : World) (blk off : Nat) (dk : Array Int) (p : Int → Bool) (a b i start : Nat) (v : Value) (wr : World) : Prop :=
  ∃ j : Nat, v = .int .i64 j ∧ a ≤ j ∧ (j ≤ start ∧ j < b) ∧ RowAt w blk off dk wr ∧ Sort.scanDown p dk i j = Sort.scanDown p dk i start
theorem up_end {dk : Array Int} {a j i start : Nat} (h : Sort.scanUp (fun x => ltInt x dk[a]!) dk j i = Sort.scanUp (fun x => ltInt x dk[a]!) dk j start) (hg : ¬ (i ≤ j ∧ ltInt dk[i]! dk[a]! = true)) : Sort.scanUp (fun x => ltInt x dk[a]!) dk j start = i := by
  rw [← h]; exact scanUp_stop _ _ _ _ hg
theorem up_end2 {dk : Array Int} {a j i start : Nat} (h : Sort.scanUp (fun x => !ltInt dk[a]! x) dk j i = Sort.scanUp (fun x => !ltInt dk[a]! x) dk j start) (hg : ¬ (i ≤ j ∧ ltInt dk[a]! dk[i]! = false)) : Sort.scanUp (fun x => !ltInt dk[a]! x) dk j start = i := by
  rw [← h]; exact scanUp_stop _ _ _ _ fun ⟨h1, h2⟩ => hg ⟨h1, by simpa using h2⟩
theorem down_end {dk : Array Int} {a j i start : Nat} (h : Sort.scanDown (fun x => !ltInt x dk[a]!) dk i j = Sort.scanDown (fun x => !ltInt x dk[a]!) dk i start) (hi : 0 < i) (hg : ¬ (i ≤ j ∧ ltInt dk[j]! dk[a]! = false)) : Sort.scanDown (fun x => !ltInt x dk[a]!) dk i start = j := by
  rw [← h]; exact scanDown_stop _ _ _ _ hi fun ⟨h1, h2⟩ => hg ⟨h1, by simpa using h2⟩
theorem down_end2 {dk : Array Int} {a j i start : Nat} (h : Sort.scanDown (fun x => ltInt dk[a]! x) dk i j = Sort.scanDown (fun x => ltInt dk[a]! x) dk i start) (hi : 0 < i) (hg : ¬ (i ≤ j ∧ ltInt dk[a]! dk[j]! = true)) : Sort.scanDown (fun x => ltInt dk[a]! x) dk i start = j := by
  rw [← h]; exact scanDown_stop _ _ _ _ hi hg
theorem partEq_go {a i j i2 j2 : Nat} {d : Array Int} (h1 : Sort.scanUp (fun x => !ltInt d[a]! x) d j i = i2) (h2 : Sort.scanDown (fun x => ltInt d[a]! x) d i2 j = j2) (hi : i ≤ i2) (hj : j2 ≤ j) (hij : i2 ≤ j2) (_ : 0 < i) :
    Sort.partEqLoop ltInt a i j d = Sort.partEqLoop ltInt a (i2 + 1) (j2 - 1) (swp d i2 j2) := by
  rw [Sort.partEqLoop.eq_1 ltInt a i j d]
  simp only [h1, h2]
  rw [if_neg (by omega), dif_pos (by omega)]
theorem partEq_end {a i j i2 j2 : Nat} {d : Array Int} (h1 : Sort.scanUp (fun x => !ltInt d[a]! x) d j i = i2) (h2 : Sort.scanDown (fun x => ltInt d[a]! x) d i2 j = j2) (hij : j2 < i2) :
    Sort.partEqLoop ltInt a i j d = (i2, d) := by
  rw [Sort.partEqLoop]
  simp only [h1, h2]
  rw [if_pos hij]
theorem part_go {a i j i2 j2 : Nat} {d : Array Int} (h1 : Sort.scanUp (fun x => ltInt x d[a]!) d j i = i2) (h2 : Sort.scanDown (fun x => !ltInt x d[a]!) d i2 j = j2) (hi : i ≤ i2) (hj : j2 ≤ j) (hij : i2 ≤ j2) (_ : 0 < i) :
    Sort.partLoop ltInt a i j d = Sort.partLoop ltInt a (i2 + 1) (j2 - 1) (swp d i2 j2) := by
  rw [Sort.partLoop.eq_1 ltInt a i j d]
  simp only [h1, h2]
  rw [if_neg (by omega), dif_pos (by omega)]
theorem part_end {a i j i2 j2 : Nat} {d : Array Int} (h1 : Sort.scanUp (fun x => ltInt x d[a]!) d j i = i2) (h2 : Sort.scanDown (fun x => !ltInt x d[a]!) d i2 j = j2) (hij : j2 < i2) :
    Sort.partLoop ltInt a i j d = (j2, d) := by
  rw [Sort.partLoop]
  simp only [h1, h2]
  rw [if_pos hij]
def EqRel (w : World) (blk off : Nat) (d d0 : Array Int) (a b : Nat) (vi vj : Value) (wr : World) : Prop :=
  ∃ (i j : Nat) (dk : Array Int), vi = .int .i64 i ∧ vj = .int .i64 j ∧ a + 1 ≤ i ∧ (i ≤ j + 2 ∧ i ≤ b) ∧ (a ≤ j ∧ j < b) ∧ dk.size = d.size ∧ RowAt w blk off dk wr ∧ Sort.partEqLoop ltInt a i j dk = Sort.partEqLoop ltInt a (a + 1) (b - 1) d0
set_option maxRecDepth 100000 in
set_option maxHeartbeats 16000000 in
theorem partEq_any {R : Ending → World → Prop} (blk off cap a b p n : Nat) (d : Array Int) (w : World) (hn : d.size = n) (hH : Holds encU w blk off d) (hp1 : a ≤ p) (hp2 : p < b) (hb : b ≤ n) (hsz : n ≤ 1000000)
    (hR : ∀ w', RowAt w blk off (Sort.partitionEqual ltInt d a b p).2 w' → R (.returned (.int .i64 ((Sort.partitionEqual ltInt d a b p).1 : Nat))) w') :
    Calls Try.prog 37 #[.slice (some ⟨blk, off, none⟩) n cap, .int .i64 a, .int .i64 b, .int .i64 p] w R := by
  have HR := Lib.hid hR
  have HH := Lib.hid hH
  have HN := Lib.hid hn
  have j1 : (a : Int) ≤ (p : Int) := by omega
  have j2 : (p : Int) < (b : Int) := by omega
  have j3 : (b : Int) ≤ (n : Int) := by omega
  have j4 : (n : Int) ≤ 1000000 := by omega
  obtain ⟨G, hG, hcw, hfw⟩ := (RowAt.start hH).reads hH rfl
  have HG := Lib.hid hG
  have c1 := hcw p (by omega)
  have c2 := hcw a (by omega)
  have f1 := hfw p (by omega)
  have f2 := hfw a (by omega)
  obtain ⟨v1, hs1⟩ := cell?_setCell_some (w := w) (p := ⟨blk, off + a, none⟩) (x := .int .u64 (G p)) (q := ⟨blk, off + p, none⟩) (v := .int .u64 (G p)) c1
  obtain ⟨v2, hs2⟩ := cell?_setCell_some (w := w) (p := ⟨blk, off + p, none⟩) (x := .int .u64 (G a)) (q := ⟨blk, off + a, none⟩) (v := .int .u64 (G a)) c2
  have hsw : RowAt w blk off (swp d a p) (((w.drewN 1).setCell ⟨blk, off + a, none⟩ (.int .u64 (G p))).setCell ⟨blk, off + p, none⟩ (.int .u64 (G a))) := by
    rw [hG, hG]
    exact (RowAt.start hH).swap 1 a p (by omega) (by omega)
  have HSW := Lib.hid hsw
  obtain ⟨d0, hd0⟩ : ∃ x, swp d a p = x := ⟨_, rfl⟩
  have HD0 := Lib.hid hd0
  have HS0 : Hid (d0.size = d.size) := Lib.hid (by rw [← hd0, size_swp])
  rw [hd0] at HSW
  clear hR hH hn hG hsw hd0
  go_enter Try.func37, Try.ntmps37
  go_wp2
  go_region
  all_goals go_wp2_with fail
  obtain ⟨w0, hw0⟩ : ∃ x, ((w.drewN 1).setCell ⟨blk, off + a, none⟩ (.int .u64 (G p))).setCell ⟨blk, off + p, none⟩ (.int .u64 (G a)) = x := ⟨_, rfl⟩
  have HR0 : Hid (RowAt w blk off d0 w0) := Lib.hid (by rw [← hw0]; exact HSW.out)
  change Code.wp _ _ _ _ (((w.drewN 1).setCell ⟨blk, off + a, none⟩ (.int .u64 (G p))).setCell ⟨blk, off + p, none⟩ (.int .u64 (G a)))
  rw [hw0]
  clear hw0 HSW c1 c2 f1 f2 hs1 hs2 hcw hfw HG
  go_loopw [9, 10] (fun vi vj wr => EqRel w blk off d d0 a b vi vj wr) (fun _ vj _ => (intOf vj + 1).toNat)
  case atStart => exact ⟨a + 1, b - 1, d0, by go_num, by congr 1; omega, by omega, by omega, by omega, HS0.out, HR0.out, rfl⟩
  case round =>
    obtain ⟨i0, j0, dk, rfl, rfl, hi0, hij0, hj0, hsk, hrow, hO⟩ := hrel
    have HO := Lib.hid hO
    have HRow := Lib.hid hrow
    have HSk := Lib.hid hsk
    have ji1 : (a : Int) + 1 ≤ (i0 : Int) := by omega
    have ji2 : (i0 : Int) ≤ (b : Int) := by omega
    have jj1 : (a : Int) ≤ (j0 : Int) := by omega
    have jj2 : (j0 : Int) < (b : Int) := by omega
    clear hO hrow hsk
    go_wp2_with fail
    go_loopw [9] (fun v wr => UpRel w blk off dk (fun x => !ltInt dk[a]! x) a b j0 (i0) v wr) (fun v _ => b + 1 - (intOf v).toNat)
    case atStart => exact ⟨_, (by first | rfl | (congr 1; omega)), by omega, by omega, HRow.out, rfl⟩
    case round =>
      obtain ⟨i, rfl, hk1, hk2, hrow, hS⟩ := hrel
      obtain ⟨G, hG, hcw, hfw⟩ := hrow.reads HH.out HSk.out
      have HG := Lib.hid hG
      have HRW := Lib.hid hrow
      have HS := Lib.hid hS
      have hdn := HN.out
      have jk1 : (i : Int) ≤ (b : Int) := by omega
      have jk2 : (a : Int) ≤ (i : Int) := by omega
      clear hG hrow hS
      by_cases hgo : i ≤ j0 ∧ ltInt dk[a]! dk[i]! = false
      · obtain ⟨hij, hl⟩ := hgo
        have hl2 : ltInt (G a) (G i) = false := by rw [HG.out, HG.out]; exact hl
        have jij : (i : Int) ≤ (j0 : Int) := by omega
        have c1 := hcw i (by omega)
        have c2 := hcw a (by omega)
        have HE := Lib.hid (scanUp_go (fun x => !ltInt dk[a]! x) dk j0 i (by omega) hij (by first | (rw [hl]; done) | (rw [hl]; rfl)))
        clear hdn
        go_wp2
        go_quiet ((go_at_call 36; exact Calls.quiet_of_same (less_any _ _ _)))
        go_wp2
        exact ⟨⟨i + 1, by go_num, by omega, by omega, HRW.out.drewN _, by rw [← HS.out]; exact HE.out.symm⟩, by simp [intOf] <;> omega⟩
      · have HX := Lib.hid (up_end2 HS.out hgo)
        by_cases hij : i ≤ j0
        case' pos =>
          have hl2 : ltInt (G a) (G i) = true := by
            rw [HG.out, HG.out]
            cases e : ltInt dk[a]! dk[i]! with
            | false => exact absurd ⟨hij, e⟩ hgo
            | true => rfl
          have jij : (i : Int) ≤ (j0 : Int) := by omega
          have c1 := hcw i (by omega)
          have c2 := hcw a (by omega)
          clear hdn
          go_wp2
          go_quiet ((go_at_call 36; exact Calls.quiet_of_same (less_any _ _ _)))
          go_wp2_with fail
        case' neg =>
          have jij : (j0 : Int) < (i : Int) := by omega
          clear hdn
          go_wp2
          go_quiet ((go_at_call 36; exact Calls.quiet_of_same (less_any _ _ _)))
          go_wp2_with fail
        all_goals
          obtain ⟨wa, hwa⟩ : ∃ x, wr.drewN nq = x := ⟨_, rfl⟩
          have HRa := Lib.hid (show RowAt w blk off dk wa by rw [← hwa]; exact HRW.out.drewN nq)
          rw [hwa]
          clear hwa hgo
          clear hij
          have HX1 := HX
          clear HX
          go_loopw [10] (fun v wr => DownRel w blk off dk (fun x => ltInt dk[a]! x) a b i (j0) v wr) (fun v _ => (intOf v + 1).toNat)
          case atStart => exact ⟨_, (by first | rfl | (congr 1; omega)), by omega, by omega, HRa.out, rfl⟩
          case round =>
            obtain ⟨j, rfl, hk1, hk2, hrow, hS⟩ := hrel
            obtain ⟨G, hG, hcw, hfw⟩ := hrow.reads HH.out HSk.out
            have HG := Lib.hid hG
            have HRW := Lib.hid hrow
            have HS := Lib.hid hS
            have hdn := HN.out
            have jk1 : (j : Int) ≤ (b : Int) := by omega
            have jk2 : (a : Int) ≤ (j : Int) := by omega
            clear hG hrow hS
            by_cases hgo : i ≤ j ∧ ltInt dk[a]! dk[j]! = true
            · obtain ⟨hij, hl⟩ := hgo
              have hl2 : ltInt (G a) (G j) = true := by rw [HG.out, HG.out]; exact hl
              have jij : (i : Int) ≤ (j : Int) := by omega
              have c1 := hcw j (by omega)
              have c2 := hcw a (by omega)
              have HE := Lib.hid (scanDown_go (fun x => ltInt dk[a]! x) dk i j (by omega) hij (by first | (rw [hl]; done) | (rw [hl]; rfl)))
              clear hdn
              go_wp2
              go_quiet ((go_at_call 36; exact Calls.quiet_of_same (less_any _ _ _)))
              go_wp2
              exact ⟨⟨j - 1, by congr 1; omega, by omega, by omega, HRW.out.drewN _, by rw [← HS.out]; exact HE.out.symm⟩, by simp [intOf] <;> omega⟩
            · have HX := Lib.hid (down_end2 HS.out (by omega) hgo)
              by_cases hij : i ≤ j
              case' pos =>
                have hl2 : ltInt (G a) (G j) = false := by
                  rw [HG.out, HG.out]
                  cases e : ltInt dk[a]! dk[j]! with
                  | true => exact absurd ⟨hij, e⟩ hgo
                  | false => rfl
                have jij : (i : Int) ≤ (j : Int) := by omega
                have c1 := hcw j (by omega)
                have c2 := hcw a (by omega)
                clear hdn
                go_wp2
                go_quiet ((go_at_call 36; exact Calls.quiet_of_same (less_any _ _ _)))
                go_wp2_with fail
                all_goals
                  obtain ⟨wb, hwa⟩ : ∃ x, wr.drewN nq = x := ⟨_, rfl⟩
                  have HRb := Lib.hid (show RowAt w blk off dk wb by rw [← hwa]; exact HRW.out.drewN nq)
                  rw [hwa]
                  clear hwa hgo
                  obtain ⟨G, hG, hcw, hfw⟩ := HRb.out.reads HH.out HSk.out
                  have HG := Lib.hid hG
                  have hdn := HN.out
                  have c1 := hcw i (by omega)
                  have c2 := hcw j (by omega)
                  have f1 := hfw i (by omega)
                  have f2 := hfw j (by omega)
                  obtain ⟨v1, hs1⟩ := cell?_setCell_some (w := wb) (p := ⟨blk, off + i, none⟩) (x := .int .u64 (G j)) (q := ⟨blk, off + j, none⟩) (v := .int .u64 (G j)) c2
                  obtain ⟨v2, hs2⟩ := cell?_setCell_some (w := wb) (p := ⟨blk, off + j, none⟩) (x := .int .u64 (G i)) (q := ⟨blk, off + i, none⟩) (v := .int .u64 (G i)) c1
                  clear hdn hG
                  obtain ⟨dn, hdn⟩ : ∃ x, swp dk i j = x := ⟨_, rfl⟩
                  have HSn : Hid (dn.size = d.size) := Lib.hid (by rw [← hdn, size_swp]; exact HSk.out)
                  have HRn : Hid (∀ q, RowAt w blk off dn (((wb.drewN q).setCell ⟨blk, off + i, none⟩ (.int .u64 (G j))).setCell ⟨blk, off + j, none⟩ (.int .u64 (G i)))) := Lib.hid fun q => by
                    rw [← hdn, HG.out, HG.out]
                    exact HRb.out.swap q i j (by have := HN.out; rw [HSk.out]; omega) (by have := HN.out; rw [HSk.out]; omega)
                  have HO2 : Hid (Sort.partEqLoop ltInt a (i + 1) (j - 1) dn = Sort.partEqLoop ltInt a (a + 1) (b - 1) d0) := Lib.hid (by rw [← HO.out, partEq_go HX1.out HX.out (by omega) (by omega) (by omega) (by omega), hdn])
                  go_region
                  all_goals go_wp2
                  exact ⟨⟨i + 1, j - 1, dn, by go_num, by congr 1; omega, by omega, by omega, by omega, HSn.out, HRn.out 1, HO2.out⟩, by simp [intOf]; omega⟩
              case' neg =>
                have jij : (j : Int) < (i : Int) := by omega
                clear hdn
                go_wp2
                go_quiet ((go_at_call 36; exact Calls.quiet_of_same (less_any _ _ _)))
                go_wp2_with fail
                all_goals
                  obtain ⟨wb, hwa⟩ : ∃ x, wr.drewN nq = x := ⟨_, rfl⟩
                  have HRb := Lib.hid (show RowAt w blk off dk wb by rw [← hwa]; exact HRW.out.drewN nq)
                  rw [hwa]
                  clear hwa hgo
                  have HE := Lib.hid (HR.out wb (by rw [Sort.partitionEqual, HD0.out, ← HO.out, partEq_end HX1.out HX.out (by omega)]; exact HRb.out))
                  have HE2 : Hid ((Sort.partitionEqual ltInt d a b p).1 = i) := Lib.hid (by rw [Sort.partitionEqual, HD0.out, ← HO.out, partEq_end HX1.out HX.out (by omega)])
                  rw [HE2.out] at HE
                  exact HE.out

end Go.Proofs.Ytcpaphcodhlggaa
