/- Sifting down, heap sort, turning a range round: the library's text makes what the plain functions say. -/
import Derived.Test.YtcpaphcodhlggaaIns
import Derived.Sort.LotB
import Derived.IntWalk
namespace Go.Proofs.Ytcpaphcodhlggaa
open Go.RowKit Go.Sort
section
variable {α : Type} [Inhabited α] (lt : α → α → Bool)
theorem sift_out (hi first root : Nat) (d : Array α) (h : hi ≤ 2 * root + 1) : Sort.siftDown lt hi first root d = d := by
  rw [Sort.siftDown, dif_pos (by omega)]
theorem sift_left (hi first root c fr fc : Nat) (d : Array α) (hc : 2 * root + 1 = c) (h1 : first + root = fr) (h2 : first + c = fc) (h : c < hi) (hn : ¬ (c + 1 < hi) ∨ lt d[fc]! d[fc + 1]! = false) :
    Sort.siftDown lt hi first root d = if lt d[fr]! d[fc]! = true then Sort.siftDown lt hi first c (swp d fr fc) else d := by
  subst hc h1 h2
  rw [Sort.siftDown, dif_neg (by omega)]
  have e : (decide (2 * root + 1 + 1 < hi) && lt d[first + (2 * root + 1)]! d[first + (2 * root + 1) + 1]!) = false := by
    rcases hn with hn | hn
    · simp [hn]
    · rw [hn]; simp
  rw [e, if_neg (by decide)]
  cases lt d[first + root]! d[first + (2 * root + 1)]! <;> simp
theorem sift_right (hi first root c fr fc : Nat) (d : Array α) (hc : 2 * root + 1 = c) (h1 : first + root = fr) (h2 : first + c = fc) (h : c + 1 < hi) (hn : lt d[fc]! d[fc + 1]! = true) :
    Sort.siftDown lt hi first root d = if lt d[fr]! d[fc + 1]! = true then Sort.siftDown lt hi first (c + 1) (swp d fr (fc + 1)) else d := by
  subst hc h1 h2
  rw [Sort.siftDown, dif_neg (by omega)]
  have e : (decide (2 * root + 1 + 1 < hi) && lt d[first + (2 * root + 1)]! d[first + (2 * root + 1) + 1]!) = true := by rw [hn]; simp [h]
  rw [e, if_pos rfl]
  rw [show first + (2 * root + 2) = first + (2 * root + 1) + 1 by omega, show 2 * root + 2 = 2 * root + 1 + 1 by omega, dif_pos h]
  cases lt d[first + root]! d[first + (2 * root + 1) + 1]! <;> simp
end
def SiftRel (w : World) (blk off : Nat) (d : Array Int) (lo hi first : Nat) (v : Value) (wr : World) : Prop :=
  ∃ (root : Nat) (dk : Array Int), v = .int .i64 root ∧ dk.size = d.size ∧ root ≤ 1000000 ∧ RowAt w blk off dk wr ∧ Sort.siftDown ltInt hi first root dk = Sort.siftDown ltInt hi first lo d
set_option maxRecDepth 100000 in
set_option maxHeartbeats 8000000 in
theorem sift_any {R : Ending → World → Prop} (blk off cap lo hi first : Nat) (d : Array Int) (w : World) (hH : Holds encU w blk off d) (hlo : lo ≤ 1000000) (hb : first + hi ≤ d.size) (hsz : d.size ≤ 1000000)
    (hR : ∀ w', RowAt w blk off (Sort.siftDown ltInt hi first lo d) w' → R (.returned (.tuple #[])) w') :
    Calls Try.prog 41 #[.slice (some ⟨blk, off, none⟩) d.size cap, .int .i64 lo, .int .i64 hi, .int .i64 first] w R := by
  have HR := Lib.hid hR
  have HH := Lib.hid hH
  have j1 : ((first : Nat) : Int) + (hi : Nat) ≤ (d.size : Nat) := by omega
  have j2 : ((d.size : Nat) : Int) ≤ 1000000 := by omega
  clear hR hH
  go_enter Try.func41, Try.ntmps41
  go_wp2
  go_loopw [8] (fun v wr => SiftRel w blk off d lo hi first v wr) (fun v _ => hi - (intOf v).toNat)
  case atStart => exact ⟨lo, d, rfl, rfl, hlo, .start HH.out, rfl⟩
  case round =>
    obtain ⟨root, dk, rfl, hsk, hr1, hrow, hO⟩ := hrel
    obtain ⟨G, hG, hcw, hfw⟩ := hrow.reads HH.out hsk
    have HO := Lib.hid hO
    have HRow := Lib.hid hrow
    have HSk := Lib.hid hsk
    have HG := Lib.hid hG
    clear hO hrow hsk hG
    obtain ⟨c, hc⟩ : ∃ c, 2 * root + 1 = c := ⟨_, rfl⟩
    obtain ⟨fr, hfr⟩ : ∃ x, first + root = x := ⟨_, rfl⟩
    obtain ⟨fc, hfc⟩ : ∃ x, first + c = x := ⟨_, rfl⟩
    have r1 : 2 * (root : Int) + 1 = (c : Int) := by omega
    have r2 : (first : Int) + (root : Int) = (fr : Int) := by omega
    have r3 : (first : Int) + (c : Int) = (fc : Int) := by omega
    have r0 : (root : Int) ≤ 1000000 := by omega
    have hcl : (c : Int) ≤ 2000001 := by omega
    by_cases h1 : c < hi
    · have i1 : (c : Int) < (hi : Int) := by omega
      have k1 : (fc : Int) < (d.size : Int) := by omega
      have k2 : (fr : Int) < (d.size : Int) := by omega
      have w1 : IntKind.i64.wrap (fr : Int) = (fr : Int) := IntWalk.i64_in _ (by omega)
      have w2 : IntKind.i64.wrap (fc : Int) = (fc : Int) := IntWalk.i64_in _ (by omega)
      have w3 : IntKind.i64.wrap ((fc : Int) + 1) = (fc : Int) + 1 := IntWalk.i64_in _ (by omega)
      have c1 := hcw fr (by omega)
      have c2 := hcw fc (by omega)
      have f1 := hfw fr (by omega)
      have f2 := hfw fc (by omega)
      by_cases h2 : c + 1 < hi
      · have i2 : (c : Int) + 1 < (hi : Int) := by omega
        have k3 : (fc : Int) + 1 < (d.size : Int) := by omega
        have c3 := hcw (fc + 1) (by omega)
        have f3 := hfw (fc + 1) (by omega)
        go_wp2
        go_quiet ((go_at_call 36; first | exact Calls.quiet_of_same (less_any _ _ _) | exact less_quiet _ _ _ _ _))
        go_wp2
        · have hl2 : ltInt (G fc) (G (fc + 1)) = true := by assumption
          have r4 : (first : Int) + ((c : Int) + 1) = (fc : Int) + 1 := by omega
          have n1 : (0 : Int) ≤ (fc : Int) + 1 := by omega
          have n2 : ((fc : Int) + 1).toNat = fc + 1 := by omega
          go_quiet ((go_at_call 36; first | exact Calls.quiet_of_same (less_any _ _ _) | exact less_quiet _ _ _ _ _))
          go_wp2
          · have hl : ltInt (G fr) (G (fc + 1)) = false := by have h : (!ltInt (G fr) (G (fc + 1))) = true := by assumption
                                                              simpa using h
            have HE := Lib.hid (fun q q2 => HR.out ((wr.drewN q).drewN q2) (by rw [← HO.out, sift_right ltInt hi first root c fr fc dk hc hfr hfc h2 (by rw [← HG.out, ← HG.out]; exact hl2), if_neg (by rw [← HG.out, ← HG.out, hl]; decide)]; exact (HRow.out.drewN q).drewN q2))
            refine bodyPost_ret (results_none rfl _ _ _) rfl ?_
            exact HE.out _ _
          · have hl : ltInt (G fr) (G (fc + 1)) = true := by have h : (!ltInt (G fr) (G (fc + 1))) = false := by assumption
                                                             simpa using h
            go_region
            all_goals go_wp2
            exact ⟨⟨c + 1, swp dk fr (fc + 1), by go_num, by rw [size_swp]; exact HSk.out, by omega, by rw [HG.out, HG.out]; exact HRow.out.swap _ fr (fc + 1) (by rw [HSk.out]; omega) (by rw [HSk.out]; omega), by rw [← HO.out, sift_right ltInt hi first root c fr fc dk hc hfr hfc h2 (by rw [← HG.out, ← HG.out]; exact hl2), if_pos (by rw [← HG.out, ← HG.out]; exact hl)]⟩, by simp [intOf]; omega⟩
        · have hl2 : ltInt (G fc) (G (fc + 1)) = false := by assumption
          go_quiet ((go_at_call 36; first | exact Calls.quiet_of_same (less_any _ _ _) | exact less_quiet _ _ _ _ _))
          go_wp2
          · have hl : ltInt (G fr) (G fc) = false := by have h : (!ltInt (G fr) (G fc)) = true := by assumption
                                                        simpa using h
            have HE := Lib.hid (fun q q2 => HR.out ((wr.drewN q).drewN q2) (by rw [← HO.out, sift_left ltInt hi first root c fr fc dk hc hfr hfc h1 (.inr (by rw [← HG.out, ← HG.out]; exact hl2)), if_neg (by rw [← HG.out, ← HG.out, hl]; decide)]; exact (HRow.out.drewN q).drewN q2))
            refine bodyPost_ret (results_none rfl _ _ _) rfl ?_
            exact HE.out _ _
          · have hl : ltInt (G fr) (G fc) = true := by have h : (!ltInt (G fr) (G fc)) = false := by assumption
                                                       simpa using h
            go_region
            all_goals go_wp2
            exact ⟨⟨c, swp dk fr fc, by go_num, by rw [size_swp]; exact HSk.out, by omega, by rw [HG.out, HG.out]; exact HRow.out.swap _ fr fc (by rw [HSk.out]; omega) (by rw [HSk.out]; omega), by rw [← HO.out, sift_left ltInt hi first root c fr fc dk hc hfr hfc h1 (.inr (by rw [← HG.out, ← HG.out]; exact hl2)), if_pos (by rw [← HG.out, ← HG.out]; exact hl)]⟩, by simp [intOf]; omega⟩
      · have i2 : (hi : Int) ≤ (c : Int) + 1 := by omega
        have d2 : decide ((c : Int) + 1 < (hi : Int)) = false := by simpa using i2
        go_wp2
        go_quiet ((go_at_call 36; first | exact Calls.quiet_of_same (less_any _ _ _) | exact less_quiet _ _ _ _ _))
        go_wp2
        go_quiet ((go_at_call 36; first | exact Calls.quiet_of_same (less_any _ _ _) | exact less_quiet _ _ _ _ _))
        go_wp2
        · have hl : ltInt (G fr) (G fc) = false := by have h : (!ltInt (G fr) (G fc)) = true := by assumption
                                                      simpa using h
          have HE := Lib.hid (fun q q2 => HR.out ((wr.drewN q).drewN q2) (by rw [← HO.out, sift_left ltInt hi first root c fr fc dk hc hfr hfc h1 (.inl h2), if_neg (by rw [← HG.out, ← HG.out, hl]; decide)]; exact (HRow.out.drewN q).drewN q2))
          refine bodyPost_ret (results_none rfl _ _ _) rfl ?_
          exact HE.out _ _
        · have hl : ltInt (G fr) (G fc) = true := by have h : (!ltInt (G fr) (G fc)) = false := by assumption
                                                     simpa using h
          go_region
          all_goals go_wp2
          exact ⟨⟨c, swp dk fr fc, by go_num, by rw [size_swp]; exact HSk.out, by omega, by rw [HG.out, HG.out]; exact HRow.out.swap _ fr fc (by rw [HSk.out]; omega) (by rw [HSk.out]; omega), by rw [← HO.out, sift_left ltInt hi first root c fr fc dk hc hfr hfc h1 (.inl h2), if_pos (by rw [← HG.out, ← HG.out]; exact hl)]⟩, by simp [intOf]; omega⟩
    · have i1 : (hi : Int) ≤ (c : Int) := by omega
      have HE := Lib.hid (HR.out wr (by rw [← HO.out, sift_out ltInt hi first root dk (by omega)]; exact HRow.out))
      go_wp2
      go_end0
      exact HE.out
def BuildRel (w : World) (blk off : Nat) (d : Array Int) (hi first : Nat) (v : Value) (wr : World) : Prop :=
  ∃ (k : Nat) (dk : Array Int), v = .int .i64 ((k : Int) - 1) ∧ k ≤ 1000001 ∧ dk.size = d.size ∧ RowAt w blk off dk wr ∧ Sort.heapBuild ltInt hi first k dk = Sort.heapBuild ltInt hi first ((hi - 1) / 2 + 1) d
def PopRel (w : World) (blk off : Nat) (d d2 : Array Int) (hi first : Nat) (v : Value) (wr : World) : Prop :=
  ∃ (k : Nat) (dk : Array Int), v = .int .i64 ((k : Int) - 1) ∧ k ≤ hi ∧ dk.size = d.size ∧ RowAt w blk off dk wr ∧ Sort.heapPop ltInt first k dk = Sort.heapPop ltInt first hi d2
theorem RowAt.holds {w wr : World} {blk off : Nat} {d dk : Array Int} (hH : Holds encU w blk off d) (hs : dk.size = d.size) (h : RowAt w blk off dk wr) : Holds encU wr blk off dk := by
  obtain ⟨n, rfl⟩ := h
  exact holds_putRow encU _ blk off d dk (holds_ahead _ _ _ _ _ _ hH) hs
theorem RowAt.trans {w w1 w2 : World} {blk off : Nat} {d1 d2 : Array Int} (h : RowAt w blk off d1 w1) (k : RowAt w1 blk off d2 w2) (hs : d2.size = d1.size) : RowAt w blk off d2 w2 := by
  obtain ⟨n, rfl⟩ := h
  obtain ⟨m, rfl⟩ := k
  exact ⟨n + m, putRow_ahead_putRow encU w n m blk off d1 d2 hs⟩
theorem sift_size (hi first : Nat) : ∀ (n root : Nat) (d : Array Int), hi - root ≤ n → (Sort.siftDown ltInt hi first root d).size = d.size := by
  intro n
  induction n with
  | zero => intro root d h; rw [sift_out _ _ _ _ _ (by omega)]
  | succ n ih =>
    intro root d h
    rw [Sort.siftDown]
    split
    · rfl
    · split
      · split
        · rfl
        · split
          · rw [ih _ _ (by omega), size_swp]
          · rfl
      · split
        · rfl
        · rw [ih _ _ (by omega), size_swp]
theorem sift_len {R : Ending → World → Prop} (blk off cap lo hi first n : Nat) (d : Array Int) (w : World) (hn : d.size = n) (hH : Holds encU w blk off d) (hlo : lo ≤ 1000000) (hb : first + hi ≤ n) (hsz : n ≤ 1000000)
    (hR : ∀ w', RowAt w blk off (Sort.siftDown ltInt hi first lo d) w' → R (.returned (.tuple #[])) w') :
    Calls Try.prog 41 #[.slice (some ⟨blk, off, none⟩) n cap, .int .i64 lo, .int .i64 hi, .int .i64 first] w R := by
  subst hn
  exact sift_any blk off cap lo hi first d w hH hlo hb hsz hR
set_option maxRecDepth 100000 in
set_option maxHeartbeats 8000000 in
theorem heap_any {R : Ending → World → Prop} (blk off cap a b n : Nat) (d : Array Int) (w : World) (hn : d.size = n) (hH : Holds encU w blk off d) (hab : a < b) (hb : b ≤ n) (hsz : n ≤ 1000000)
    (hR : ∀ w', RowAt w blk off (Sort.heapSort ltInt d a b) w' → R (.returned (.tuple #[])) w') :
    Calls Try.prog 31 #[.slice (some ⟨blk, off, none⟩) n cap, .int .i64 a, .int .i64 b] w R := by
  have HR := Lib.hid hR
  have HH := Lib.hid hH
  have HN := Lib.hid hn
  obtain ⟨hi, hhi⟩ : ∃ x, b - a = x := ⟨_, rfl⟩
  obtain ⟨m, hm⟩ : ∃ x, (hi - 1) / 2 = x := ⟨_, rfl⟩
  have e1 : (b : Int) - (a : Int) = (hi : Int) := by omega
  have e2 : ((hi : Int) - 1) / 2 = (m : Int) := by omega
  have j1 : (1 : Int) ≤ (hi : Int) := by omega
  have j2 : (hi : Int) ≤ 1000000 := by omega
  have j3 : (m : Int) ≤ 1000000 := by omega
  have j4 : (a : Int) + (hi : Int) ≤ (n : Int) := by omega
  have j5 : (n : Int) ≤ 1000000 := by omega
  have jb : (b : Int) ≤ 1000000 := by omega
  have HHI := Lib.hid hhi
  have HM := Lib.hid hm
  have A1 : a + hi ≤ n := by omega
  have E2 := Lib.hid e2
  clear hR hH hn hhi hm e2
  go_enter Try.func31, Try.ntmps31
  go_wp2
  go_loopw [9] (fun v wr => BuildRel w blk off d hi a v wr) (fun v _ => (intOf v + 1).toNat)
  case atStart => exact ⟨m + 1, d, by rw [E2.out]; congr 1; omega, by omega, rfl, .start HH.out, by rw [HM.out]⟩
  case round =>
    obtain ⟨k, dk, rfl, hk, hsk, hrow, hO⟩ := hrel
    have HO := Lib.hid hO
    have HRow := Lib.hid hrow
    have HSk := Lib.hid hsk
    clear hO hrow hsk
    cases k with
    | succ k =>
      rw [show (((k + 1 : Nat) : Int) - 1) = (k : Int) by omega]
      have ik : (k : Int) ≤ 1000000 := by omega
      go_wp2_with (go_at_call 41; refine sift_len _ _ _ k hi a n dk _ (HSk.out.trans HN.out) (HRow.out.holds HH.out HSk.out) (by omega) A1 hsz ?_; intro w2 h2; have HR2 := Lib.hid (HRow.out.trans h2 (sift_size hi a _ k dk (Nat.le_refl _))); clear h2)
      exact ⟨⟨k, _, rfl, by omega, (sift_size hi a _ k dk (Nat.le_refl _)).trans HSk.out, HR2.out, by rw [← HO.out, Sort.heapBuild]⟩, by simp [intOf] <;> omega⟩
    | zero =>
      have HO2 : Hid (Sort.heapSort ltInt d a b = Sort.heapPop ltInt a hi dk) := Lib.hid (by rw [Sort.heapSort, HHI.out, ← HO.out, Sort.heapBuild])
      rw [show (((0 : Nat) : Int) - 1) = -1 by decide]
      go_wp2
      go_loopw [10] (fun v wr => PopRel w blk off d dk hi a v wr) (fun v _ => (intOf v + 1).toNat)
      case atStart => exact ⟨hi, dk, rfl, Nat.le_refl _, HSk.out, HRow.out, rfl⟩
      case round =>
        obtain ⟨k, dj, rfl, hk, hsj, hrj, hP⟩ := hrel
        have HP := Lib.hid hP
        obtain ⟨G, hG, hcw, hfw⟩ := hrj.reads HH.out hsj
        have HRj := Lib.hid hrj
        have HSj := Lib.hid hsj
        have HG := Lib.hid hG
        clear hP hrj hsj hG
        cases k with
        | succ k =>
          rw [show (((k + 1 : Nat) : Int) - 1) = (k : Int) by omega]
          obtain ⟨ak, hak⟩ : ∃ x, a + k = x := ⟨_, rfl⟩
          have ik : (k : Int) < (hi : Int) := by omega
          have HAK := Lib.hid hak
          have r1 : (a : Int) + (k : Int) = (ak : Int) := by omega
          have k1 : (ak : Int) < (n : Int) := by omega
          have k2 : (a : Int) < (n : Int) := by omega
          have w1 : IntKind.i64.wrap (ak : Int) = (ak : Int) := IntWalk.i64_in _ (by omega)
          have hdn := HN.out
          have c1 := hcw ak (by omega)
          have c2 := hcw a (by omega)
          have f1 := hfw ak (by omega)
          have f2 := hfw a (by omega)
          clear hdn
          obtain ⟨v1, hs1⟩ := cell?_setCell_some (w := wr) (p := ⟨blk, off + a, none⟩) (x := .int .u64 (G ak)) (q := ⟨blk, off + ak, none⟩) (v := .int .u64 (G ak)) c1
          obtain ⟨v2, hs2⟩ := cell?_setCell_some (w := wr) (p := ⟨blk, off + ak, none⟩) (x := .int .u64 (G a)) (q := ⟨blk, off + a, none⟩) (v := .int .u64 (G a)) c2
          go_wp2
          go_region
          have hsw : ∀ q, RowAt w blk off (swp dj a ak) (((wr.drewN q).setCell ⟨blk, off + a, none⟩ (.int .u64 (G ak))).setCell ⟨blk, off + ak, none⟩ (.int .u64 (G a))) := fun q => by
            rw [HG.out, HG.out]
            exact HRj.out.swap q a ak (by have := HN.out; rw [HSj.out]; omega) (by have := HN.out; rw [HSj.out]; omega)
          have hss : (swp dj a ak).size = d.size := by rw [size_swp]; exact HSj.out
          have HSW := Lib.hid hsw
          have HSS := Lib.hid hss
          clear hsw hss
          all_goals go_wp2_with (go_at_call 41; refine sift_len _ _ _ 0 k a n (swp dj a ak) _ (HSS.out.trans HN.out) ((HSW.out 1).holds HH.out HSS.out) (by omega) (by omega) hsz ?_; intro w2 h2; have HR2 := Lib.hid ((HSW.out 1).trans h2 (sift_size k a _ 0 _ (Nat.le_refl _))); clear h2)
          exact ⟨⟨k, _, rfl, by omega, (sift_size k a _ 0 _ (Nat.le_refl _)).trans HSS.out, HR2.out, by rw [← HP.out, Sort.heapPop, HAK.out]⟩, by simp [intOf] <;> omega⟩
        | zero =>
          have HE := Lib.hid (HR.out wr (by rw [HO2.out, ← HP.out, Sort.heapPop]; exact HRj.out))
          go_wp2
          go_end0
          exact HE.out
end Go.Proofs.Ytcpaphcodhlggaa
