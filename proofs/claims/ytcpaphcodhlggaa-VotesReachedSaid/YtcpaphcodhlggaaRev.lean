/- Turning a range round. -/
import Derived.Test.YtcpaphcodhlggaaHeap
namespace Go.Proofs.Ytcpaphcodhlggaa
open Go.RowKit Go.Sort
def RevRel (w : World) (blk off : Nat) (d : Array Int) (a b : Nat) (vi vj : Value) (wr : World) : Prop :=
  ∃ (i j : Nat) (dk : Array Int), vi = .int .i64 i ∧ vj = .int .i64 j ∧ i ≤ b ∧ j < b ∧ dk.size = d.size ∧ RowAt w blk off dk wr ∧ Sort.reverseLoop i j dk = Sort.reverseLoop a (b - 1) d
set_option maxRecDepth 100000 in
set_option maxHeartbeats 8000000 in
theorem rev_any {R : Ending → World → Prop} (blk off cap a b n : Nat) (d : Array Int) (w : World) (hn : d.size = n) (hH : Holds encU w blk off d) (hab : a < b) (hb : b ≤ n) (hsz : n ≤ 1000000)
    (hR : ∀ w', RowAt w blk off (Sort.reverseRange d a b) w' → R (.returned (.tuple #[])) w') :
    Calls Try.prog 34 #[.slice (some ⟨blk, off, none⟩) n cap, .int .i64 a, .int .i64 b] w R := by
  have HR := Lib.hid hR
  have HH := Lib.hid hH
  have HN := Lib.hid hn
  have j1 : (a : Int) < (b : Int) := by omega
  have j2 : (b : Int) ≤ (n : Int) := by omega
  have j3 : (n : Int) ≤ 1000000 := by omega
  clear hR hH hn
  go_enter Try.func34, Try.ntmps34
  go_wp2
  go_loopw [6, 7] (fun vi vj wr => RevRel w blk off d a b vi vj wr) (fun _ vj _ => (intOf vj).toNat)
  case atStart => exact ⟨a, b - 1, d, rfl, by congr 1; omega, by omega, by omega, rfl, .start HH.out, rfl⟩
  case round =>
    obtain ⟨i, j, dk, rfl, rfl, hi, hj, hsk, hrow, hO⟩ := hrel
    obtain ⟨G, hG, hcw, hfw⟩ := hrow.reads HH.out hsk
    have HO := Lib.hid hO
    have HRow := Lib.hid hrow
    have HSk := Lib.hid hsk
    have HG := Lib.hid hG
    have hdn := HN.out
    clear hO hrow hsk hG
    have ji : (i : Int) ≤ (b : Int) := by omega
    have jj : (j : Int) < (b : Int) := by omega
    by_cases hlt : i < j
    · have il : (i : Int) < (j : Int) := by omega
      have c1 := hcw i (by omega)
      have c2 := hcw j (by omega)
      have f1 := hfw i (by omega)
      have f2 := hfw j (by omega)
      obtain ⟨v1, hs1⟩ := cell?_setCell_some (w := wr) (p := ⟨blk, off + i, none⟩) (x := .int .u64 (G j)) (q := ⟨blk, off + j, none⟩) (v := .int .u64 (G j)) c2
      obtain ⟨v2, hs2⟩ := cell?_setCell_some (w := wr) (p := ⟨blk, off + j, none⟩) (x := .int .u64 (G i)) (q := ⟨blk, off + i, none⟩) (v := .int .u64 (G i)) c1
      clear hdn
      go_wp2
      go_region
      all_goals go_wp2
      exact ⟨⟨i + 1, j - 1, swp dk i j, by go_num, by congr 1; omega, by omega, by omega, by rw [size_swp]; exact HSk.out, by rw [HG.out, HG.out]; exact HRow.out.swap _ i j (by have := HN.out; rw [HSk.out]; omega) (by have := HN.out; rw [HSk.out]; omega), by rw [← HO.out, Sort.reverseLoop.eq_1 i j, if_pos hlt]⟩, by simp [intOf]; omega⟩
    · have il : (j : Int) ≤ (i : Int) := by omega
      have HE := Lib.hid (HR.out wr (by rw [Sort.reverseRange, ← HO.out, Sort.reverseLoop, if_neg hlt]; exact HRow.out))
      clear hdn
      go_wp2
      go_end0
      exact HE.out
end Go.Proofs.Ytcpaphcodhlggaa
