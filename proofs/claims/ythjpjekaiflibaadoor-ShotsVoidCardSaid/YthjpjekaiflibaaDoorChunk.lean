/- slices.Chunk over bytes, by pieces of 4096 (after the guide's worked text on iterators over a slice). -/
import Derived.Test.YthjpjekaiflibaaDoorFrames
import Derived.RangeFuncBox
import Derived.RangeFuncLeaves
import Derived.RangeFuncCalls
import Derived.Shelf.Abstract
import Derived.WalkKit
import Derived.OwnWalkIn
import Derived.TacticsInMore
import Derived.LoopNIn
import Derived.LoopIn
import Derived.BigRegionIn
import Derived.Sort.CutIn
namespace Go.Proofs.YthjpjekaiflibaaDoor
open Go.RowKit Go.Shelf
attribute [local go_sem] Oper.semAt_some
/-- How many pieces n bytes have. -/
def pieces (n : Nat) : Nat := (n + 4095) / 4096
theorem pieces_lt {n k : Nat} : k < pieces n ↔ 4096 * k < n := by unfold pieces; omega
def partLen (n k : Nat) : Nat := min 4096 (n - 4096 * k)
def partV (b off n k : Nat) : Value := .slice (some ⟨b, off + 4096 * k, none⟩) (partLen n k) (partLen n k)
/-- Two blocks are kept. -/
def Keeps2 (x y : Nat) (A B : World) : Prop := B.heap[x]? = A.heap[x]? ∧ B.heap[y]? = A.heap[y]?
theorem Keeps2.trans {x y : Nat} {A B C : World} (h : Keeps2 x y A B) (k : Keeps2 x y B C) : Keeps2 x y A C := ⟨k.1.trans h.1, k.2.trans h.2⟩
/-- The first k pieces. -/
def firsts (m k : Nat) : List (Fin m) := (List.finRange m).take k
theorem firsts_len (m k : Nat) (h : k ≤ m) : (firsts m k).length = k := by simp [firsts, h]
theorem firsts_succ (m k : Nat) (h : k < m) : firsts m (k + 1) = firsts m k ++ [⟨k, h⟩] := by
  unfold firsts
  rw [← List.take_concat_get (by simpa using h : k < (List.finRange m).length), List.concat_eq_append]
  simp
theorem firsts_all (m : Nat) : firsts m m = List.finRange m := by
  unfold firsts
  exact List.take_of_length_le (by simp)
set_option maxRecDepth 100000 in
set_option maxHeartbeats 4000000 in
theorem chunk1_in (F : Fence) (d : Nat) (hf : F.fn 114) (hro : F.round = none) (hd : 1 ≤ d) (l Bs Bn b off n cap : Nat) (p : Option Addr) (hp : n = 0 ∨ p = some ⟨b, off, none⟩) (hn : n ≤ 1000000) (hcap : n ≤ cap) (J Jx : List (Fin (pieces n)) → World → Prop)
    (hY : ∀ pre (x : Fin (pieces n)) W, J pre W → pre.length < pieces n → YieldAt F (d - 1) Tryd.prog l #[partV b off n x.1] W fun e W' =>
      (e = .returned (.bool true) ∧ J (pre ++ [x]) W' ∧ Keeps2 Bs Bn W W') ∨ (e = .returned (.bool false) ∧ Jx (pre ++ [x]) W'))
    (hJ : ∀ s A, J s A → J s A.drew)
    (W : World) (hBs : W.cell? ⟨Bs, 0, none⟩ = some (.slice p n cap)) (hBn : W.cell? ⟨Bn, 0, none⟩ = some (.int .i64 4096)) (h0 : J [] W) :
    CallsIn F d Tryd.prog 114 #[.func (.yield l) #[] #[], .pointer (some ⟨Bs, 0, none⟩), .pointer (some ⟨Bn, 0, none⟩)] W fun e W' => (∃ v, e = .returned v) ∧
      ((J (List.finRange (pieces n)) W') ∨ (∃ pre, (∃ k, k ≤ pieces n ∧ pre = firsts (pieces n) k) ∧ Jx pre W')) := by
  refine callsIn_of_wp Tryd.func114 rfl hf ?_ hro
  simp only [Tryd.ntmps114, List.size_toArray, List.length_cons, List.length_nil, Nat.reduceAdd, Nat.reduceSub, Array.replicate_succ, Array.replicate_zero, List.push_toArray, List.append_toArray, List.nil_append, List.cons_append]
  have jn : (n : Int) ≤ 1000000 := by omega
  have jc : (n : Int) ≤ (cap : Int) := by omega
  have HY := Lib.hid hY
  have HBS := Lib.hid hBs
  have HBN := Lib.hid hBn
  have HP := Lib.hid hp
  clear hY hBs hBn hp
  gi_wp2
  gi_loopw [4] (fun i wr => ∃ k j : Nat, k ≤ pieces n ∧ 4096 * k = j ∧ i = .int .i64 j ∧ J (firsts (pieces n) k) wr ∧ Keeps2 Bs Bn W wr)
    (fun i _ => 4096 * pieces n - (intOf i).toNat)
  case atStart => exact ⟨0, 0, Nat.zero_le _, rfl, rfl, h0, rfl, rfl⟩
  case round =>
    obtain ⟨k, j, hk, hj, rfl, hJs, hnx⟩ := hrel
    have cs : wr.cell? ⟨Bs, 0, none⟩ = some (.slice p n cap) := (World.cell?_of_block (a := ⟨Bs, 0, none⟩) hnx.1).trans HBS.out
    have cn : wr.cell? ⟨Bn, 0, none⟩ = some (.int .i64 4096) := (World.cell?_of_block (a := ⟨Bn, 0, none⟩) hnx.2).trans HBN.out
    by_cases hlt : k < pieces n
    · have hjn : j < n := by have := pieces_lt.1 hlt; omega
      have ij : (j : Int) < (n : Int) := by omega
      obtain rfl : p = some ⟨b, off, none⟩ := by
        rcases HP.out with h | h
        · omega
        · exact h
      obtain ⟨e, he⟩ : ∃ e, partLen n k = e := ⟨_, rfl⟩
      have hmin : min (4096 : Int) ((n - j : Nat) : Int) = (e : Int) := by rw [← he]; unfold partLen; omega
      have htn : ((j : Int) + (e : Int)).toNat - j = e := by omega
      have hje : (j : Int) + (e : Int) ≤ (n : Int) := by rw [← he]; unfold partLen; omega
      have he0 : (0 : Int) ≤ (e : Int) := by omega
      have hpv : partV b off n k = .slice (some ⟨b, off + j, none⟩) e e := by unfold partV; rw [he, hj]
      have hy := HY.out _ ⟨k, hlt⟩ wr.drew (hJ _ _ hJs) (by rw [firsts_len _ _ hk]; exact hlt)
      rw [show ((⟨k, hlt⟩ : Fin (pieces n)).1) = k from rfl, hpv] at hy
      obtain ⟨fn, tmps, assign, body, hy, hR⟩ := hy
      have HE := Lib.hid he
      have HJ := Lib.hid hj
      have HR := Lib.hid hR
      clear he hpv hj hR
      gi_upto_region 3 with fail
      gi_cut [5] from 6 (fun s5 wc => s5 = .int .i64 e ∧ wc = wr.drew)
      case first =>
        gi_region
        all_goals gi_wp2
        all_goals gi_meet
        all_goals exact ⟨rfl, rfl⟩
      case rest =>
      obtain ⟨rfl, rfl⟩ := hcut
      gi_wp2
      refine HR.out.mono ?_
      rintro e2 W3 (⟨rfl, hJ3, hk3⟩ | ⟨rfl, hJx3⟩)
      · have hb3 : Keeps2 Bs Bn W W3 := hnx.trans hk3
        have cn3 : W3.cell? ⟨Bn, 0, none⟩ = some (.int .i64 4096) := (World.cell?_of_block (a := ⟨Bn, 0, none⟩) hb3.2).trans HBN.out
        have HB3 := Lib.hid hb3
        clear hk3 hb3 hnx hJs cs cn
        gi_wp2
        go_roundw
        case rel => exact ⟨k + 1, j + 4096, by omega, by have := HJ.out; omega, by simp, by rw [firsts_succ _ _ hlt]; exact hJ3, HB3.out⟩
        case measure => have := HJ.out; simp [intOf]; omega
      · gi_wp2
        refine bodyPost_ret (results_none rfl _ _ _) rfl ?_
        exact ⟨⟨_, rfl⟩, .inr ⟨_, ⟨k + 1, by omega, (firsts_succ _ _ hlt).symm⟩, hJx3⟩⟩
    · have hkp : k = pieces n := by omega
      have hjn : ¬ (j : Int) < (n : Int) := by have := mt pieces_lt.2 hlt; omega
      have HJ := Lib.hid hj
      subst hkp
      rw [firsts_all] at hJs
      have HK := Lib.hid hJs
      clear hj hJs
      gi_wp2
      go_end0
      exact ⟨⟨_, rfl⟩, .inl HK.out⟩
theorem chunk_stops (F : Fence) (d : Nat) (hf : F.fn 114) (hro : F.round = none) (hd : 1 ≤ d) (Bs Bn b off n cap : Nat) (p : Option Addr) (hp : n = 0 ∨ p = some ⟨b, off, none⟩) (hn : n ≤ 1000000) (hcap : n ≤ cap) (w : World) (hBs0 : Bs < w.heap.size) (hBn0 : Bn < w.heap.size)
    (hBs : w.cell? ⟨Bs, 0, none⟩ = some (.slice p n cap)) (hBn : w.cell? ⟨Bn, 0, none⟩ = some (.int .i64 4096)) :
    SeqStopsK F d Tryd.prog 114 #[.pointer (some ⟨Bs, 0, none⟩), .pointer (some ⟨Bn, 0, none⟩)] (fun x : Fin (pieces n) => #[partV b off n x.1]) (Keeps2 Bs Bn) (fun ys => ys = List.finRange (pieces n)) (fun _ => True) (pieces n) w := fun l J Jx W hW hJ _ hY h0 => by
  refine (chunk1_in F d hf hro hd l Bs Bn b off n cap p hp hn hcap J Jx hY (fun s A h => hJ s A A.drew none h ⟨rfl, rfl, rfl, Nat.le_refl _, fun _ _ _ => rfl⟩ (fun r e => by cases e)) W ((hW.cell (p := ⟨Bs, 0, none⟩) hBs0).trans hBs) ((hW.cell (p := ⟨Bn, 0, none⟩) hBn0).trans hBn) h0).mono ?_
  rintro e W' ⟨he, hj | ⟨pre, _, hj⟩⟩
  · exact ⟨he, .inl ⟨_, rfl, hj⟩⟩
  · exact ⟨he, .inr ⟨_, trivial, hj⟩⟩
end Go.Proofs.YthjpjekaiflibaaDoor
