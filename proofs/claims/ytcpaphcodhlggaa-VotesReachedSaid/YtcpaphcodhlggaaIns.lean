/- Whole numbers compared and sorted by insertion: the library's text makes what 'Sort.insertionSort' says. -/
import Derived.Test.YtcpaphcodhlggaaBase
import Derived.Test.YtcpaphcodhlggaaProg
import Derived.Sort.Row
import Derived.Sort.LotA
import Derived.CellFam
import Derived.BigGuard
import Derived.BigCall
import Derived.Deep.Draws
namespace Go.Proofs.Ytcpaphcodhlggaa
open Go.RowKit Go.Sort
set_option maxHeartbeats 1000000 in
theorem isNaN_any (x : Int) (w : World) : Calls Try.prog 46 #[.int .u64 x] w fun e w' => e = .returned (.bool false) ∧ w = w' := by
  go_enter Try.func46, Try.ntmps46
  go_wp2
  go_ret
  exact ⟨by simp, rfl⟩
set_option maxHeartbeats 1000000 in
theorem less_any (x y : Int) (w : World) : Calls Try.prog 36 #[.int .u64 x, .int .u64 y] w fun e w' => e = .returned (.bool (Sort.ltInt x y)) ∧ w' = w := by
  go_enter Try.func36, Try.ntmps36
  go_wp2_with (go_at_call 46; refine (isNaN_any _ _).mono ?_; rintro e w' ⟨rfl, rfl⟩)
  go_ret
  exact ⟨rfl, rfl⟩
/-- Less in a quiet region behind another one. -/
theorem less_quiet (x y : Int) (w : World) (a n : Nat) : Calls Try.prog 36 #[.int .u64 x, .int .u64 y] (w.drewN (a + n)) fun e w' => e = .returned (.bool (Sort.ltInt x y)) ∧ ∃ m, w' = w.drewN (a + m) :=
  (less_any x y (w.drewN (a + n))).mono fun _ _ h => ⟨h.1, n, h.2⟩
abbrev encU : Int → Value := Value.int .u64
section
variable {α : Type} [Inhabited α] (lt : α → α → Bool)
theorem inner_go (a j : Nat) (d : Array α) (hj : a < j) (hl : lt d[j]! d[j - 1]! = true) : insInner lt a j d = insInner lt a (j - 1) (swp d j (j - 1)) := by
  obtain ⟨k, rfl⟩ : ∃ k, j = k + 1 := ⟨j - 1, by omega⟩
  rw [insInner]
  rw [Nat.add_sub_cancel] at hl ⊢
  simp [hj, hl]
theorem inner_stop (a j : Nat) (d : Array α) (h : j ≤ a ∨ lt d[j]! d[j - 1]! = false) : insInner lt a j d = d := by
  cases j with
  | zero => rw [insInner]
  | succ k =>
    rw [insInner]
    rw [Nat.add_sub_cancel] at h
    rcases h with h | h
    · simp [show ¬ k + 1 > a by omega]
    · simp [h]
theorem outer_go (a b i : Nat) (d : Array α) (h : i < b) : insOuter lt a b i d = insOuter lt a b (i + 1) (insInner lt a i d) := by rw [insOuter, if_pos h]
end
/-- The row at block blk, from place off on, holds dk; the world has drawn on, and nothing else has turned. -/
def RowAt (w : World) (blk off : Nat) (dk : Array Int) (wr : World) : Prop := ∃ n, wr = putRow encU (Sort.ahead w n) blk off dk
theorem RowAt.start {w : World} {blk off : Nat} {d : Array Int} (hH : Holds encU w blk off d) : RowAt w blk off d w := ⟨0, (putRow_self _ _ _ _ _ hH).symm⟩
theorem RowAt.drewN {w wr : World} {blk off : Nat} {dk : Array Int} (h : RowAt w blk off dk wr) (q : Nat) : RowAt w blk off dk (wr.drewN q) := by
  obtain ⟨n, rfl⟩ := h
  refine ⟨n + q, ?_⟩
  show Sort.ahead (putRow encU (Sort.ahead w n) blk off dk) q = _
  rw [putRow_ahead encU w n, ahead_ahead, ← putRow_ahead]
theorem RowAt.swap {w wr : World} {blk off : Nat} {dk : Array Int} (h : RowAt w blk off dk wr) (q j k : Nat) (hj : j < dk.size) (hk : k < dk.size) :
    RowAt w blk off (swp dk j k) (((wr.drewN q).setCell ⟨blk, off + j, none⟩ (.int .u64 dk[k]!)).setCell ⟨blk, off + k, none⟩ (.int .u64 dk[j]!)) := by
  obtain ⟨n, hn⟩ := h.drewN q
  exact ⟨n, by rw [hn]; exact putRow_swp encU _ blk off dk j k hj hk⟩
/-- What may be read of it. -/
theorem RowAt.reads {w wr : World} {blk off : Nat} {d dk : Array Int} (hH : Holds encU w blk off d) (hs : dk.size = d.size) (h : RowAt w blk off dk wr) :
    ∃ G : Nat → Int, (∀ t, G t = dk[t]!) ∧ (∀ t, t < d.size → wr.cell? ⟨blk, off + t, none⟩ = some (.int .u64 (G t))) ∧ ∀ t, t < d.size → wr.frozen? ⟨blk, off + t, none⟩ = false := by
  obtain ⟨n, rfl⟩ := h
  refine ⟨fun t => dk[t]!, fun _ => rfl, fun t ht => ?_, fun t ht => ?_⟩
  · exact cell?_putRow _ _ _ _ d dk (holds_ahead _ _ _ _ _ _ hH) hs t (by omega)
  · rw [frozen?_putRow]; exact ((holds_ahead _ _ n _ _ _ hH) t ht).2
def OutRel (w : World) (blk off : Nat) (d : Array Int) (a b : Nat) (vi : Value) (wr : World) : Prop :=
  ∃ (i : Nat) (dk : Array Int), vi = .int .i64 i ∧ a < i ∧ i ≤ b + 1 ∧ dk.size = d.size ∧ RowAt w blk off dk wr ∧ insOuter ltInt a b i dk = insOuter ltInt a b (a + 1) d
def InRel (w : World) (blk off : Nat) (d dk : Array Int) (a i : Nat) (vj : Value) (wr : World) : Prop :=
  ∃ (j : Nat) (dj : Array Int), vj = .int .i64 j ∧ a ≤ j ∧ j ≤ i ∧ dj.size = d.size ∧ RowAt w blk off dj wr ∧ insInner ltInt a j dj = insInner ltInt a i dk
set_option maxRecDepth 100000 in
set_option maxHeartbeats 4000000 in
theorem insertion_any {R : Ending → World → Prop} (blk off cap a b : Nat) (d : Array Int) (w : World) (hH : Holds encU w blk off d) (hab : a ≤ b) (hb : b ≤ d.size) (hsz : d.size ≤ 1000000)
    (hR : ∀ w', RowAt w blk off (Sort.insertionSort ltInt d a b) w' → R (.returned (.tuple #[])) w') :
    Calls Try.prog 30 #[.slice (some ⟨blk, off, none⟩) d.size cap, .int .i64 a, .int .i64 b] w R := by
  have HR := Lib.hid hR
  have HH := Lib.hid hH
  have ja : ((a : Nat) : Int) ≤ (b : Nat) := by omega
  have jb : ((b : Nat) : Int) ≤ 1000000 := by omega
  have jb2 : ((b : Nat) : Int) ≤ (d.size : Nat) := by omega
  clear hR hH
  go_enter Try.func30, Try.ntmps30
  go_wp2
  go_loopw [6] (fun vi wr => OutRel w blk off d a b vi wr) (fun vi _ => b + 1 - (intOf vi).toNat)
  case atStart => exact ⟨a + 1, d, by go_num, by omega, by omega, rfl, .start HH.out, rfl⟩
  case round =>
    obtain ⟨i, dk, rfl, hai, hib, hsk, hrow, hO⟩ := hrel
    have HO := Lib.hid hO
    have HRow := Lib.hid hrow
    have HSk := Lib.hid hsk
    clear hO hrow hsk
    by_cases hlt : i < b
    · have il : ((i : Nat) : Int) < (b : Nat) := by omega
      go_wp2
      go_loopw [7] (fun vj wr2 => InRel w blk off d dk a i vj wr2) (fun vj _ => (intOf vj).toNat)
      case atStart => exact ⟨i, dk, rfl, by omega, Nat.le_refl _, HSk.out, HRow.out, rfl⟩
      case round =>
        obtain ⟨j, dj, rfl, haj, hji, hsj, hrj, hI⟩ := hrel
        obtain ⟨G, hG, hcw, hfw⟩ := hrj.reads HH.out hsj
        have HG := Lib.hid hG
        have HI := Lib.hid hI
        have HRj := Lib.hid hrj
        have HSj := Lib.hid hsj
        clear hG hI hrj hsj
        have out : (j ≤ a ∨ ltInt (G j) (G (j - 1)) = false) → ∀ q, OutRel w blk off d a b (.int .i64 ((i : Int) + 1)) (wr.drewN q) := fun hs q =>
          ⟨i + 1, dj, by go_num, by omega, by omega, HSj.out, HRj.out.drewN q, by rw [← HO.out, outer_go _ _ _ _ _ hlt, ← HI.out, inner_stop _ _ _ _ (by rw [← HG.out, ← HG.out]; exact hs)]⟩
        have OUT := Lib.hid out
        clear out
        have ij : ((j : Nat) : Int) ≤ (i : Nat) := by omega
        go_wp2
        by_cases hja : a < j
        · go_quiet ((go_at_call 36; exact Calls.quiet_of_same (less_any _ _ _)))
          go_wp2
          · have hl : ltInt (G j) (G (j - 1)) = true := by assumption
            go_region
            all_goals go_wp2
            exact ⟨⟨j - 1, swp dj j (j - 1), by congr 1; omega, by omega, by omega, by rw [size_swp]; exact HSj.out, by rw [HG.out, HG.out]; exact HRj.out.swap (nq + 1) j (j - 1) (by rw [HSj.out]; omega) (by rw [HSj.out]; omega), by rw [← HI.out, inner_go ltInt a j dj hja (by rw [← HG.out, ← HG.out]; exact hl)]⟩, by simp [intOf]; omega⟩
          · have hl : ltInt (G j) (G (j - 1)) = false := by assumption
            exact ⟨OUT.out (.inr hl) nq, by simp [intOf]; omega⟩
        · go_quiet ((go_at_call 36; exact Calls.quiet_of_same (less_any _ _ _)))
          go_wp2
          exact ⟨OUT.out (.inl (by omega)) nq, by simp [intOf]; omega⟩
    · have il : ((b : Nat) : Int) ≤ (i : Nat) := by omega
      have hend : Sort.insertionSort ltInt d a b = dk := by
        unfold Sort.insertionSort
        rw [← HO.out, insOuter, if_neg hlt]
      have HE := Lib.hid (HR.out wr (by rw [hend]; exact HRow.out))
      clear hend
      go_wp2
      go_end0
      exact HE.out
end Go.Proofs.Ytcpaphcodhlggaa
