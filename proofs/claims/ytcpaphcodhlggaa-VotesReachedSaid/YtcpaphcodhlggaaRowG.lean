/- A row that holds other numbers, where new blocks may have come. -/
import Derived.Test.YtcpaphcodhlggaaHeap
namespace Go.Proofs.Ytcpaphcodhlggaa
open Go.RowKit Go.Sort
theorem RowAt.fr {w wr : World} {blk off : Nat} {dk : Array Int} (h : RowAt w blk off dk wr) : Fr (Is (some blk)) w wr := by
  obtain ⟨n, rfl⟩ := h
  refine ⟨rfl, rfl, rfl, by simp, fun k _ hs => ?_⟩
  simp only [putRow, mapBlock, heap_ahead, Array.getElem?_modify]
  rw [if_neg fun e => hs (by simp [Is, e])]
def RowG (w : World) (blk off : Nat) (dk : Array Int) (wr : World) : Prop := Fr (Is (some blk)) w wr ∧ wr.heap[blk]? = (putRow encU w blk off dk).heap[blk]?
theorem RowAt.g {w wr : World} {blk off : Nat} {dk : Array Int} (h : RowAt w blk off dk wr) : RowG w blk off dk wr := by
  refine ⟨h.fr, ?_⟩
  obtain ⟨n, rfl⟩ := h
  rfl
theorem RowG.no {w w1 w2 : World} {blk off : Nat} {dk : Array Int} (h : RowG w blk off dk w1) (hb : blk < w.heap.size) (hF : Fr No w1 w2) : RowG w blk off dk w2 :=
  ⟨h.1.trans hF.of_no, (hF.block blk (Nat.lt_of_lt_of_le hb h.1.size) fun x => x).trans h.2⟩
theorem heap_putRow_at (w : World) (blk off : Nat) (d : Array Int) : (putRow encU w blk off d).heap[blk]? = (w.heap[blk]?).map (onCells (putCells encU off d)) := by
  simp [putRow, mapBlock, Array.getElem?_modify]
theorem RowG.trans {w w1 w2 : World} {blk off : Nat} {d1 d2 : Array Int} (h : RowG w blk off d1 w1) (k : RowG w1 blk off d2 w2) (hs : d2.size = d1.size) : RowG w blk off d2 w2 := by
  refine ⟨h.1.trans k.1, ?_⟩
  rw [k.2, heap_putRow_at, h.2, ← heap_putRow_at, putRow_putRow encU w blk off d1 d2 hs]
theorem RowG.start {w : World} {blk off : Nat} {d : Array Int} (hH : Holds encU w blk off d) : RowG w blk off d w := (RowAt.start hH).g
theorem frozen_of_block {w w' : World} {a : Addr} (h : w'.heap[a.block]? = w.heap[a.block]?) : w'.frozen? a = w.frozen? a := by
  simp only [World.frozen?, h]
theorem RowG.holds {w wr : World} {blk off : Nat} {d dk : Array Int} (hH : Holds encU w blk off d) (hs : dk.size = d.size) (h : RowG w blk off dk wr) : Holds encU wr blk off dk := by
  have hp := holds_putRow encU w blk off d dk hH hs
  intro j hj
  obtain ⟨h1, h2⟩ := hp j hj
  exact ⟨(World.cell?_of_block (a := ⟨blk, off + j, none⟩) h.2).trans h1, (frozen_of_block (a := ⟨blk, off + j, none⟩) h.2).trans h2⟩
theorem RowG.cell {w wr : World} {blk : Nat} {d dk : Array Int} (hH : Holds encU w blk 0 d) (hs : dk.size = d.size) (h : RowG w blk 0 dk wr) (j : Nat) (hj : j < dk.size) : wr.cell? ⟨blk, j, none⟩ = some (.int .u64 dk[j]!) := by
  have := (h.holds hH hs j hj).1
  rwa [Nat.zero_add] at this
end Go.Proofs.Ytcpaphcodhlggaa
