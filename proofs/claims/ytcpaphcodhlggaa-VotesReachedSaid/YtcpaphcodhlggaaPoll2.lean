/- Package votes: a poll of nodes: New, Most, Say, many, Yes, Won, Lost. -/
import Derived.Test.YtcpaphcodhlggaaPoll
namespace Go.Proofs.Ytcpaphcodhlggaa
open Go.RowKit
/-- What a say does: its answer, and what was said behind it. -/
def mayB (n : Nat) (s : List Nat) (k : Nat) : Bool := decide (1 ≤ k ∧ k ≤ n ∧ s.getD (k - 1) 0 = 0)
def sayD (n : Nat) (s : List Nat) (k : Nat) (y : Bool) : List Nat := if mayB n s k = true then s.set (k - 1) (if y = true then 1 else 2) else s
def mostD (n : Nat) : Nat := if n < 1 then 0 else n / 2 + 1
def saidN (n : Nat) (s : List Nat) (x : Nat) : Nat := (s.take n).count x
def wonD (n : Nat) (s : List Nat) : Bool := decide (mostD n ≤ saidN n s 1)
def lostD (n : Nat) (s : List Nat) : Bool := decide (n - saidN n s 2 < mostD n)
theorem saidN_le (n : Nat) (s : List Nat) (x : Nat) : saidN n s x ≤ n := Nat.le_trans List.count_le_length (List.length_take_le _ _)
theorem saidN_succ (n : Nat) (s : List Nat) (x : Nat) (h : n < s.length) : saidN (n + 1) s x = saidN n s x + if s.getD n 0 = x then 1 else 0 := by
  unfold saidN
  rw [List.take_succ_eq_append_getElem h, List.count_append, List.getD_eq_getElem?_getD, List.getElem?_eq_getElem h]
  simp [List.count_singleton]
set_option maxHeartbeats 1000000 in
theorem new_any {R : Ending → World → Prop} (n : Nat) (w : World) (h1 : 1 ≤ n) (h7 : n ≤ 7) (hR : ∀ b w', PollAt w' b n [0, 0, 0, 0, 0, 0, 0] → Fr No w w' → w.heap.size ≤ b → R (.returned (.pointer (some ⟨b, 0, none⟩))) w') :
    Calls Try.prog 9 #[.int .i64 n] w R := by
  have HR := Lib.hid (hR _ _ ⟨rfl, heap_new w (.cells (pollC n [0, 0, 0, 0, 0, 0, 0]) 41)⟩ (Fr.alloc No w _) (Nat.le_refl _))
  clear hR
  have j1 : (1 : Int) ≤ (n : Int) := by omega
  have j2 : (n : Int) ≤ 7 := by omega
  clear h1 h7
  go_enter Try.func9, Try.ntmps9
  go_wp2
  exact HR.out
set_option maxHeartbeats 1000000 in
theorem new_out {R : Ending → World → Prop} (n : Int) (w : World) (h : n < 1 ∨ 7 < n) (hR : R (.returned (.pointer none)) w) :
    Calls Try.prog 9 #[.int .i64 n] w R := by
  have HR := Lib.hid hR
  clear hR
  rcases h with h | h
  · go_enter Try.func9, Try.ntmps9
    go_wp2
    exact HR.out
  · have j : ¬ n < 1 := by omega
    go_enter Try.func9, Try.ntmps9
    go_wp2
    exact HR.out
set_option maxHeartbeats 1000000 in
theorem most_any (n : Nat) (w : World) (h : n ≤ 1000000) :
    Calls Try.prog 19 #[.int .i64 n] w fun e w' => e = .returned (.int .i64 (mostD n : Nat)) ∧ w = w' := by
  unfold mostD
  by_cases h1 : n < 1
  · have j : (n : Int) < 1 := by omega
    rw [if_pos h1]
    clear h1
    go_enter Try.func19, Try.ntmps19
    go_wp2
    go_ret
    exact ⟨rfl, rfl⟩
  · have j : (1 : Int) ≤ (n : Int) := by omega
    have j2 : (n : Int) ≤ 1000000 := by omega
    rw [if_neg h1]
    have e : ((n / 2 + 1 : Nat) : Int) = (n : Int) / 2 + 1 := by omega
    rw [e]
    clear h1 h e
    go_enter Try.func19, Try.ntmps19
    go_wp2
    go_ret
    exact ⟨rfl, rfl⟩
theorem sayD_no {n : Nat} {s : List Nat} {k : Nat} {y : Bool} (h : mayB n s k = false) : sayD n s k y = s := by
  unfold sayD
  rw [h, if_neg (by decide)]
set_option maxHeartbeats 4000000 in
theorem say_any {R : Ending → World → Prop} {b n : Nat} {s : List Nat} {w : World} (h : PollAt w b n s) (h1 : 1 ≤ n) (h7 : n ≤ 7) (hs : ∀ x ∈ s, x ≤ 2) (k : Nat) (hk : k < 256) (y : Bool)
    (hR : ∀ w', PollAt w' b n (sayD n s k y) → Fr (Is (some b)) w w' → R (.returned (.bool (mayB n s k))) w') :
    Calls Try.prog 11 #[.pointer (some ⟨b, 0, none⟩), .int .u8 k, .bool y] w R := by
  have c0 := h.c0
  have HN : 0 < n := h1
  have j0 : (0 : Int) < (n : Int) := by omega
  have k256 : (k : Int) ≤ 255 := by omega
  have k0 : (0 : Int) ≤ (k : Int) := by omega
  have H := Lib.hid h
  by_cases hm : mayB n s k = true
  · have hm' : 1 ≤ k ∧ k ≤ n ∧ s.getD (k - 1) 0 = 0 := by simpa [mayB] using hm
    obtain ⟨j, rfl⟩ : ∃ j, k = j + 1 := ⟨k - 1, by omega⟩
    have ck := h.ck j (by omega)
    rw [show s.getD j 0 = 0 from hm'.2.2] at ck
    have fr := h.free (1 + j)
    have jkn : (j : Int) + 1 ≤ (n : Int) := by omega
    have jk7 : (j : Int) + 1 ≤ 7 := by omega
    have jj : (0 : Int) ≤ (j : Int) := by omega
    have HR := Lib.hid (fun w' => hR w')
    rw [hm] at HR
    have HD := Lib.hid (show sayD n s (j + 1) y = s.set j (if y = true then 1 else 2) by unfold sayD; rw [if_pos hm]; rfl)
    clear h hR hm hm' k256 k0
    cases y
    · have HF := Lib.hid (HR.out (w.setCell ⟨b, 1 + j, none⟩ (.int .u8 2)) (by rw [HD.out]; exact H.out.set j 2) (Fr.set _ _ _ _))
      clear HR HD H
      go_enter Try.func11, Try.ntmps11
      go_wp2_with (go_at_call 20; refine (there_at _ _ _ c0 HN).mono ?_; rintro e w' ⟨rfl, rfl⟩)
      exact HF.out
    · have HF := Lib.hid (HR.out ((w.setCell ⟨b, 1 + j, none⟩ (.int .u8 2)).setCell ⟨b, 1 + j, none⟩ (.int .u8 1)) (by rw [HD.out]; have := (H.out.set j 2).set j 1; rw [List.set_set] at this; exact this) ((Fr.set _ _ _ _).trans (Fr.set _ _ _ _)))
      clear HR HD H
      go_enter Try.func11, Try.ntmps11
      go_wp2_with (go_at_call 20; refine (there_at _ _ _ c0 HN).mono ?_; rintro e w' ⟨rfl, rfl⟩)
      exact HF.out
  · have hm : mayB n s k = false := by simpa using hm
    have HF := Lib.hid (hR w (by rw [sayD_no hm]; exact h) (Fr.refl _ _))
    rw [hm] at HF
    by_cases h1 : 1 ≤ k
    · have j1 : (1 : Int) ≤ (k : Int) := by omega
      by_cases h2 : k ≤ n
      · obtain ⟨j, rfl⟩ : ∃ j, k = j + 1 := ⟨k - 1, by omega⟩
        have ck := h.ck j (by omega)
        have hx2 : s.getD j 0 ≤ 2 := by
          have := h.1
          rw [List.getD_eq_getElem?_getD, List.getElem?_eq_getElem (show j < s.length by omega)]
          exact hs _ (List.getElem_mem _)
        have hx0 : s.getD j 0 ≠ 0 := fun e => by
          have : mayB n s (j + 1) = true := by simp only [mayB, decide_eq_true_eq]; exact ⟨by omega, h2, e⟩
          rw [hm] at this
          cases this
        generalize s.getD j 0 = x at ck hx2 hx0
        have jkn : (j : Int) + 1 ≤ (n : Int) := by omega
        have jk7 : (j : Int) + 1 ≤ 7 := by omega
        have jj : (0 : Int) ≤ (j : Int) := by omega
        have jx : ((x : Int) != 0) = true := by simp; omega
        have jx2 : ((x : Int) == 0) = false := by simp; omega
        clear h hR hm k256 k0 hs H j1
        go_enter Try.func11, Try.ntmps11
        go_wp2_with (go_at_call 20; refine (there_at _ _ _ c0 HN).mono ?_; rintro e w' ⟨rfl, rfl⟩)
        exact HF.out
      · have j2 : (n : Int) < (k : Int) := by omega
        clear h hR hm hs H
        go_enter Try.func11, Try.ntmps11
        go_wp2_with (go_at_call 20; refine (there_at _ _ _ c0 HN).mono ?_; rintro e w' ⟨rfl, rfl⟩)
        exact HF.out
    · have j1 : (k : Int) < 1 := by omega
      clear h hR hm hs H
      go_enter Try.func11, Try.ntmps11
      go_wp2_with (go_at_call 20; refine (there_at _ _ _ c0 HN).mono ?_; rintro e w' ⟨rfl, rfl⟩)
      exact HF.out
def ManyRel (w : World) (n : Nat) (s : List Nat) (x : Nat) (c i : Value) (w' : World) : Prop :=
  ∃ j : Nat, j ≤ n ∧ i = .int .i64 j ∧ c = .int .i64 (saidN j s x : Nat) ∧ ∃ m, w' = w.drewN m
set_option maxHeartbeats 4000000 in
theorem many_any {R : Ending → World → Prop} {b n : Nat} {s : List Nat} {w : World} (h : PollAt w b n s) (h1 : 1 ≤ n) (h7 : n ≤ 7) (x : Nat)
    (hR : ∀ m, R (.returned (.int .i64 (saidN n s x : Nat))) (w.drewN m)) :
    Calls Try.prog 21 #[.pointer (some ⟨b, 0, none⟩), .int .u8 x] w R := by
  have c0 := h.c0
  have HN : 0 < n := h1
  have j1 : (1 : Int) ≤ (n : Int) := by omega
  have j0 : (0 : Int) < (n : Int) := by omega
  have j7 : (n : Int) ≤ 7 := by omega
  have HR := Lib.hid hR
  have H := Lib.hid h
  clear hR h
  go_enter Try.func21, Try.ntmps21
  go_wp2_with (go_at_call 20; refine (there_at _ _ _ c0 HN).mono ?_; rintro e w' ⟨rfl, rfl⟩)
  go_quiet (fail)
  go_wp2
  go_loopw [4, 18] (fun c i wr => ManyRel w n s x c i wr) (fun _ i _ => n - (intOf i).toNat)
  case atStart => exact ⟨0, by omega, rfl, by simp [saidN], _, rfl⟩
  case round =>
    obtain ⟨j, hj, rfl, rfl, hW⟩ := hrel
    have hF : Fr No w wr := by obtain ⟨m, rfl⟩ := hW; exact Fr.drewN _ _ _
    have HFF := Lib.hid hW
    clear hW
    by_cases hlt : j < n
    · have hP := H.out.fr hF fun x => x
      have ck := hP.ck j (by omega)
      have hb := saidN_le j s x
      have HS := Lib.hid (saidN_succ j s x (by have := hP.1; omega))
      have il : (j : Int) < (n : Int) := by omega
      have jb : ((saidN j s x : Nat) : Int) ≤ 7 := by omega
      have jb0 : (0 : Int) ≤ ((saidN j s x : Nat) : Int) := by omega
      clear hP hF hb
      generalize s.getD j 0 = v at ck HS
      by_cases hk : v = x
      · have hk1 : ((v : Int) == (x : Int)) = true := by simp; omega
        have hk2 : (v : Int) = (x : Int) := by omega
        have HE : Hid (saidN (j + 1) s x = saidN j s x + 1) := Lib.hid (by rw [HS.out, if_pos hk])
        clear HS hk
        go_wp2
        exact ⟨⟨j + 1, by omega, by go_num, by rw [HE.out]; go_num, HFF.out⟩, by simp [intOf]; omega⟩
      · have hk1 : ((v : Int) == (x : Int)) = false := by simp; omega
        have hk2 : ¬ (v : Int) = (x : Int) := by omega
        have HE : Hid (saidN (j + 1) s x = saidN j s x) := Lib.hid (by rw [HS.out, if_neg hk]; rfl)
        clear HS hk
        go_wp2
        exact ⟨⟨j + 1, by omega, by go_num, by rw [HE.out], HFF.out⟩, by simp [intOf]; omega⟩
    · have hjn : j = n := by omega
      subst hjn
      clear hF
      go_wp2
      obtain ⟨m, hm⟩ := HFF.out
      have := HR.out m
      rw [← hm] at this
      exact this
set_option maxHeartbeats 1000000 in
theorem yes_any {R : Ending → World → Prop} {b n : Nat} {s : List Nat} {w : World} (h : PollAt w b n s) (h1 : 1 ≤ n) (h7 : n ≤ 7)
    (hR : ∀ m, R (.returned (.int .i64 (saidN n s 1 : Nat))) (w.drewN m)) :
    Calls Try.prog 13 #[.pointer (some ⟨b, 0, none⟩)] w R := by
  have HR := Lib.hid hR
  have H := Lib.hid h
  clear hR h
  go_enter Try.func13, Try.ntmps13
  go_wp2_with (go_at_call 21; refine many_any H.out h1 h7 1 ?_; intro m1)
  exact HR.out _
theorem many_quiet {b n : Nat} {s : List Nat} {w : World} (h : PollAt w b n s) (h1 : 1 ≤ n) (h7 : n ≤ 7) (x : Nat) :
    Calls Try.prog 21 #[.pointer (some ⟨b, 0, none⟩), .int .u8 x] w fun e w' => e = .returned (.int .i64 (saidN n s x : Nat)) ∧ ∃ m, w' = w.drewN m :=
  many_any h h1 h7 x fun m => ⟨rfl, m, rfl⟩
theorem yes_quiet {b n : Nat} {s : List Nat} {w : World} (h : PollAt w b n s) (h1 : 1 ≤ n) (h7 : n ≤ 7) :
    Calls Try.prog 13 #[.pointer (some ⟨b, 0, none⟩)] w fun e w' => e = .returned (.int .i64 (saidN n s 1 : Nat)) ∧ ∃ m, w' = w.drewN m :=
  yes_any h h1 h7 fun m => ⟨rfl, m, rfl⟩
set_option maxHeartbeats 1000000 in
theorem won_any {R : Ending → World → Prop} {b n : Nat} {s : List Nat} {w : World} (h : PollAt w b n s) (h1 : 1 ≤ n) (h7 : n ≤ 7)
    (hR : ∀ m, R (.returned (.bool (decide (mostD n ≤ saidN n s 1)))) (w.drewN m)) :
    Calls Try.prog 15 #[.pointer (some ⟨b, 0, none⟩)] w R := by
  have c0 := h.c0
  have HN : 0 < n := h1
  have HR := Lib.hid hR
  have H := Lib.hid h
  clear hR h
  go_enter Try.func15, Try.ntmps15
  go_wp2
  go_quiet ((first
    | (go_at_call 20; exact Calls.quiet_of_same (flip (there_at _ _ _ (by simpa using c0) HN)))
    | (go_at_call 13; exact Calls.quiet_of (yes_quiet (H.out.fr (Fr.drewN No _ _) fun x => x) h1 h7))
    | (go_at_call 19; exact Calls.quiet_of_same (flip (most_any _ _ (by omega))))))
  go_wp2
  exact HR.out _
set_option maxHeartbeats 1000000 in
theorem lost_any {R : Ending → World → Prop} {b n : Nat} {s : List Nat} {w : World} (h : PollAt w b n s) (h1 : 1 ≤ n) (h7 : n ≤ 7)
    (hR : ∀ m, R (.returned (.bool (decide ((n : Int) - (saidN n s 2 : Int) < (mostD n : Int))))) (w.drewN m)) :
    Calls Try.prog 16 #[.pointer (some ⟨b, 0, none⟩)] w R := by
  have c0 := h.c0
  have HN : 0 < n := h1
  have HR := Lib.hid hR
  have H := Lib.hid h
  have hs := saidN_le n s 2
  have hs2 : ((saidN n s 2 : Nat) : Int) ≤ (n : Int) := by omega
  have hs0 : (0 : Int) ≤ ((saidN n s 2 : Nat) : Int) := by omega
  have hn7 : (n : Int) ≤ 7 := by omega
  clear hR h hs
  go_enter Try.func16, Try.ntmps16
  go_wp2
  have hsub : IntKind.i64.wrap ((n : Int) - ((saidN n s 2 : Nat) : Int)) = (n : Int) - ((saidN n s 2 : Nat) : Int) := IntWalk.i64_in _ (by omega)
  go_quiet ((first
    | (go_at_call 20; exact Calls.quiet_of_same (flip (there_at _ _ _ (by simpa using c0) HN)))
    | (go_at_call 21; exact Calls.quiet_of (many_quiet (H.out.fr (Fr.drewN No _ _) fun x => x) h1 h7 2))
    | (go_at_call 19; exact Calls.quiet_of_same (flip (most_any _ _ (by omega))))))
  go_wp2
  exact HR.out _
theorem lostD_eq (n : Nat) (s : List Nat) : decide ((n : Int) - (saidN n s 2 : Int) < (mostD n : Int)) = lostD n s := by
  unfold lostD
  have := saidN_le n s 2
  congr 1
  exact propext ⟨fun h => by omega, fun h => by omega⟩
end Go.Proofs.Ytcpaphcodhlggaa
