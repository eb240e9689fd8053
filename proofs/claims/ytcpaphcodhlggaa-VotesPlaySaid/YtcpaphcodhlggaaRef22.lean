/- The document's poll: New, Say, Many. -/
import Derived.Test.YtcpaphcodhlggaaLives22
import Derived.Laws.MakeOwn
import Derived.Laws.OwnMore
import Derived.Maps.AppendAt
namespace Go.Proofs.Ytcpaphcodhlggaa
open Go.RowKit
/-- The document's poll at block b: its numbers lie in block c. -/
structure RefAt (w : World) (b c : Nat) (r : List Nat) : Prop where
  p : w.heap[b]? = some (.cells #[.slice (some ⟨c, 0, none⟩) r.length r.length] 47 (0, 0))
  q : w.heap[c]? = some (.cells (r.map fun x : Nat => Value.int .i64 (x : Int)).toArray 3 (0, 0))
theorem RefAt.fr {S : Nat → Prop} {w w' : World} {b c : Nat} {r : List Nat} (h : RefAt w b c r) (hF : Fr S w w') (hs : ¬ S b) (hs2 : ¬ S c) : RefAt w' b c r := ⟨hF.at h.p hs, hF.at h.q hs2⟩
theorem RefAt.ck {w : World} {b c : Nat} {r : List Nat} (h : RefAt w b c r) (k : Nat) (hk : k < r.length) : w.cell? ⟨c, k, none⟩ = some (.int .i64 (r.getD k 0 : Nat)) := by
  refine cell_at h.q k ?_
  simp [List.getD_eq_getElem?_getD, List.getElem?_eq_getElem hk]
theorem RefAt.set {w : World} {b c : Nat} {r : List Nat} (h : RefAt w b c r) (hne : b ≠ c) (k x : Nat) : RefAt (w.setCell ⟨c, k, none⟩ (.int .i64 (x : Nat))) b c (r.set k x) := by
  refine ⟨?_, ?_⟩
  · have := (Fr.set w c k (.int .i64 (x : Nat))).at h.p (fun e => hne (by simpa [Is] using e.symm))
    rwa [List.length_set]
  · rw [setCell_box h.q]
    simp only [List.setIfInBounds_toArray, List.map_set]
theorem infoI : (Try.prog.info? 3).map (fun i => (i.zero, i.size, i.bytes)) = some (some (.int .i64 0), 1, 8) := by kernel_rfl
theorem rmake (n : Nat) (w : World) (h7 : n ≤ 7) : (Instr.makeSlice 45 (.int .i64 n) (.int .i64 n)).run Try.prog w = .ok (.slice (some ⟨w.heap.size, 0, none⟩) n n) (w.alloc (.cells ((List.replicate n 0).map fun x : Nat => Value.int .i64 (x : Int)).toArray 3)) := by
  obtain ⟨i0, hi, hz0, hz1, hz2⟩ := info_parts infoI
  have h := run_makeSlice (P := Try.prog) w 45 3 i0 _ Try.underlying45 hi hz0 .i64 .i64 (n : Int) (n : Int) (by omega) (by omega) (by rw [hz1]; omega) (by rw [hz2]; omega) (by omega)
  rw [h, hz1]
  have e : madeCells (Value.int .i64 0).cells ((n : Int).toNat * 1) = ((List.replicate n 0).map fun x : Nat => Value.int .i64 (x : Int)).toArray := by
    apply Array.toList_inj.1
    rw [show (Value.int IntKind.i64 0).cells = #[Value.int .i64 0] from rfl, toList_madeCells_one, List.map_replicate]
    simp
  rw [e]
  simp
set_option maxHeartbeats 1000000 in
theorem rnew_any {R : Ending → World → Prop} (n : Nat) (w : World) (h1 : 1 ≤ n) (h7 : n ≤ 7) (hR : ∀ b c w', RefAt w' b c (List.replicate n 0) → Fr No w w' → w.heap.size ≤ b → w.heap.size ≤ c → b ≠ c → R (.returned (.pointer (some ⟨b, 0, none⟩))) w') :
    Calls Try.prog 10 #[.int .i64 n] w R := by
  have HR := Lib.hid hR
  have j1 : (1 : Int) ≤ (n : Int) := by omega
  have j2 : (n : Int) ≤ 7 := by omega
  have hmk := rmake n w h7
  have h0 := HR.out (w.heap.size + 1) w.heap.size ((w.alloc (.cells ((List.replicate n 0).map fun x : Nat => Value.int .i64 (x : Int)).toArray 3)).alloc (.cells #[.slice (some ⟨w.heap.size, 0, none⟩) n n] 47))
    ⟨by have := heap_new (w.alloc (.cells ((List.replicate n 0).map fun x : Nat => Value.int .i64 (x : Int)).toArray 3)) (.cells #[.slice (some ⟨w.heap.size, 0, none⟩) n n] 47)
        rw [show (w.alloc (.cells ((List.replicate n 0).map fun x : Nat => Value.int .i64 (x : Int)).toArray 3)).heap.size = w.heap.size + 1 by simp] at this
        rw [List.length_replicate]
        exact this, (Fr.alloc No _ _).at (heap_new w _) fun x => x⟩ ((Fr.alloc _ _ _).trans (Fr.alloc _ _ _)) (by omega) (Nat.le_refl _) (by omega)
  have HF := Lib.hid h0
  clear hR HR h0
  generalize ((List.replicate n 0).map fun x : Nat => Value.int .i64 (x : Int)).toArray = arr at hmk HF
  go_enter Try.func10, Try.ntmps10
  go_wp2
  exact HF.out
def rsayB (r : List Nat) (k : Nat) : Bool := decide (1 ≤ k ∧ k ≤ r.length ∧ r.getD (k - 1) 0 = 0)
def rsayD (r : List Nat) (k : Nat) (y : Bool) : List Nat := if rsayB r k = true then r.set (k - 1) (if y = true then 1 else 2) else r
set_option maxHeartbeats 4000000 in
theorem rsay_any {R : Ending → World → Prop} {b c : Nat} {r : List Nat} {w : World} (h : RefAt w b c r) (hne : b ≠ c) (hl : r.length ≤ 7) (hs : ∀ x ∈ r, x ≤ 2) (k : Nat) (hk : k < 256) (y : Bool)
    (hR : ∀ w', RefAt w' b c (rsayD r k y) → Fr (Is (some c)) w w' → R (.returned (.bool (rsayB r k))) w') :
    Calls Try.prog 12 #[.pointer (some ⟨b, 0, none⟩), .int .u8 k, .bool y] w R := by
  have c0 := cell_at h.p 0 rfl
  have k256 : (k : Int) ≤ 255 := by omega
  have jl : (r.length : Int) ≤ 7 := by omega
  have H := Lib.hid h
  by_cases hm : rsayB r k = true
  · have hm' : 1 ≤ k ∧ k ≤ r.length ∧ r.getD (k - 1) 0 = 0 := by simpa [rsayB] using hm
    obtain ⟨j, rfl⟩ : ∃ j, k = j + 1 := ⟨k - 1, by omega⟩
    have ck := h.ck j (by omega)
    rw [show r.getD j 0 = 0 from hm'.2.2] at ck
    have fr := free_at h.q j
    have jkn : (j : Int) + 1 ≤ (r.length : Int) := by omega
    have HR := Lib.hid (fun w' => hR w')
    rw [hm] at HR
    have HD := Lib.hid (show rsayD r (j + 1) y = r.set j (if y = true then 1 else 2) by unfold rsayD; rw [if_pos hm]; rfl)
    have hcb : ¬ c = b := fun e => hne e.symm
    clear h hR hm hm' k256
    cases y
    · have HF := Lib.hid (HR.out (w.setCell ⟨c, j, none⟩ (.int .i64 2)) (by rw [HD.out]; exact H.out.set hne j 2) (Fr.set _ _ _ _))
      clear HR HD H
      go_enter Try.func12, Try.ntmps12
      go_wp2
      exact HF.out
    · have HF := Lib.hid (HR.out ((w.setCell ⟨c, j, none⟩ (.int .i64 2)).setCell ⟨c, j, none⟩ (.int .i64 1)) (by rw [HD.out]; have := (H.out.set hne j 2).set hne j 1; rw [List.set_set] at this; exact this) ((Fr.set _ _ _ _).trans (Fr.set _ _ _ _)))
      clear HR HD H
      go_enter Try.func12, Try.ntmps12
      go_wp2
      exact HF.out
  · have hm : rsayB r k = false := by simpa using hm
    have HF := Lib.hid (hR w (by unfold rsayD; rw [hm, if_neg (by decide)]; exact h) (Fr.refl _ _))
    rw [hm] at HF
    by_cases h1 : 1 ≤ k
    · by_cases h2 : k ≤ r.length
      · obtain ⟨j, rfl⟩ : ∃ j, k = j + 1 := ⟨k - 1, by omega⟩
        have ck := h.ck j (by omega)
        have hx2 : r.getD j 0 ≤ 2 := by
          rw [List.getD_eq_getElem?_getD, List.getElem?_eq_getElem (show j < r.length by omega)]
          exact hs _ (List.getElem_mem _)
        have hx0 : r.getD j 0 ≠ 0 := fun e => by
          have : rsayB r (j + 1) = true := by simp only [rsayB, decide_eq_true_eq]; exact ⟨by omega, h2, e⟩
          rw [hm] at this
          cases this
        generalize r.getD j 0 = x at ck hx2 hx0
        have jkn : (j : Int) + 1 ≤ (r.length : Int) := by omega
        have jx : ((x : Int) != 0) = true := by simp; omega
        have jx2 : ((x : Int) == 0) = false := by simp; omega
        clear h hR hm k256 hs H h1
        go_enter Try.func12, Try.ntmps12
        go_wp2
        exact HF.out
      · have j2 : (r.length : Int) < (k : Int) := by omega
        have j3 : (1 : Int) ≤ (k : Int) := by omega
        clear h hR hm hs H
        go_enter Try.func12, Try.ntmps12
        go_wp2
        exact HF.out
    · have hk0 : k = 0 := by omega
      subst hk0
      clear h hR hm hs H
      go_enter Try.func12, Try.ntmps12
      go_wp2
      exact HF.out
def RManyRel (w : World) (r : List Nat) (x : Nat) (c i : Value) (w' : World) : Prop :=
  ∃ j : Nat, j ≤ r.length ∧ i = .int .i64 j ∧ c = .int .i64 ((r.take j).count x : Nat) ∧ ∃ m, w' = w.drewN m
theorem rcount_succ (r : List Nat) (x j : Nat) (h : j < r.length) : (r.take (j + 1)).count x = (r.take j).count x + if r.getD j 0 = x then 1 else 0 := by
  rw [List.take_succ_eq_append_getElem h, List.count_append, List.getD_eq_getElem?_getD, List.getElem?_eq_getElem h]
  simp [List.count_singleton]
set_option maxHeartbeats 4000000 in
theorem rmany_any {R : Ending → World → Prop} {b c : Nat} {r : List Nat} {w : World} (h : RefAt w b c r) (hl : r.length ≤ 7) (x : Nat)
    (hR : ∀ m, R (.returned (.int .i64 (r.count x : Nat))) (w.drewN m)) :
    Calls Try.prog 14 #[.pointer (some ⟨b, 0, none⟩), .int .i64 x] w R := by
  have jl : (r.length : Int) ≤ 7 := by omega
  have HR := Lib.hid hR
  have H := Lib.hid h
  clear hR h
  go_enter Try.func14, Try.ntmps14
  go_wp2
  go_loopw [5, 6] (fun c i wr => RManyRel w r x c i wr) (fun _ i _ => r.length - (intOf i).toNat)
  case atStart => exact ⟨0, by omega, rfl, by simp, 0, rfl⟩
  case round =>
    obtain ⟨j, hj, rfl, rfl, hW⟩ := hrel
    have hF : Fr No w wr := by obtain ⟨m, rfl⟩ := hW; exact Fr.drewN _ _ _
    have hP := H.out.fr hF (fun x => x) (fun x => x)
    have c0 := cell_at hP.p 0 rfl
    have HFF := Lib.hid hW
    clear hW
    by_cases hlt : j < r.length
    · have ck := hP.ck j hlt
      have hb : (r.take j).count x ≤ j := Nat.le_trans List.count_le_length (List.length_take_le _ _)
      have HS := Lib.hid (rcount_succ r x j hlt)
      have il : (j : Int) < (r.length : Int) := by omega
      have jb : (((r.take j).count x : Nat) : Int) ≤ 7 := by omega
      have jb0 : (0 : Int) ≤ (((r.take j).count x : Nat) : Int) := by omega
      clear hP hF hb
      generalize r.getD j 0 = v at ck HS
      generalize (r.take j).count x = q at *
      by_cases hk : v = x
      · have hk1 : ((v : Int) == (x : Int)) = true := by simp; omega
        have hk2 : (v : Int) = (x : Int) := by omega
        have HE : Hid ((r.take (j + 1)).count x = q + 1) := Lib.hid (by rw [HS.out, if_pos hk])
        clear HS hk
        go_wp2
        exact ⟨⟨j + 1, by omega, by go_num, by rw [HE.out]; go_num, HFF.out⟩, by simp [intOf]; omega⟩
      · have hk1 : ((v : Int) == (x : Int)) = false := by simp; omega
        have hk2 : ¬ (v : Int) = (x : Int) := by omega
        have HE : Hid ((r.take (j + 1)).count x = q) := Lib.hid (by rw [HS.out, if_neg hk]; rfl)
        clear HS hk
        go_wp2
        exact ⟨⟨j + 1, by omega, by go_num, by rw [HE.out], HFF.out⟩, by simp [intOf]; omega⟩
    · have hjn : j = r.length := by omega
      have HT := Lib.hid (show (r.take j).count x = r.count x by rw [hjn, List.take_length])
      have il : (r.length : Int) ≤ (j : Int) := by omega
      clear hF hP hjn
      generalize (r.take j).count x = q at *
      obtain ⟨m, hm⟩ := HFF.out
      have hRm := HR.out m
      rw [← hm, ← HT.out] at hRm
      have HRm := Lib.hid hRm
      clear hm hRm
      go_wp2
      exact HRm.out
theorem rmany_quiet {b c : Nat} {r : List Nat} {w : World} (h : RefAt w b c r) (hl : r.length ≤ 7) (x : Nat) :
    Calls Try.prog 14 #[.pointer (some ⟨b, 0, none⟩), .int .i64 x] w fun e w' => e = .returned (.int .i64 (r.count x : Nat)) ∧ ∃ m, w' = w.drewN m :=
  rmany_any h hl x fun m => ⟨rfl, m, rfl⟩
end Go.Proofs.Ytcpaphcodhlggaa
