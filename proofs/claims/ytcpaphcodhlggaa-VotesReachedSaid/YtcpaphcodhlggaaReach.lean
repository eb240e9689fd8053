/- slices.Sorted of slices.Values, and Reached, where slices.Sort makes a row of another. -/
import Derived.Test.YtcpaphcodhlggaaRowG
import Derived.Test.YtcpaphcodhlggaaIter2
import Derived.Test.YtcpaphcodhlggaaPoll2
namespace Go.Proofs.Ytcpaphcodhlggaa
open Go.RowKit Go.Sort
theorem holds_cells {w : World} {g : Nat} {cur : Array Value} {e : TypeId} {zs : List Int} (hb : w.heap[g]? = some (.cells cur e (0, 0))) (ht : cur.toList.take zs.length = zs.map encU) : Holds encU w g 0 zs.toArray := by
  intro j hj
  have hj' : j < zs.length := by simpa using hj
  refine ⟨?_, by simp [World.frozen?, hb]⟩
  have h1 : (cur.toList.take zs.length)[j]? = (zs.map encU)[j]? := by rw [ht]
  rw [List.getElem?_take, if_pos hj', List.getElem?_map, List.getElem?_eq_getElem hj'] at h1
  rw [Nat.zero_add, getElem!_pos zs.toArray j hj]
  have h2 : cur[j]? = some (encU zs[j]) := by simpa using h1
  simp [World.cell?, hb, h2]
/-- slices.Sort makes d of zs. -/
def SortsTo (zs : List Int) (d : Array Int) : Prop :=
  d.size = zs.length ∧ ∀ (blk cap : Nat) (w : World), Holds encU w blk 0 zs.toArray → blk < w.heap.size →
    Calls Try.prog 25 #[.slice (some ⟨blk, 0, none⟩) zs.length cap] w fun e w' => e = .returned (.tuple #[]) ∧ RowG w blk 0 d w'
def SortedAt (w : World) (n : Nat) (d : Array Int) (e : Ending) (w' : World) : Prop :=
  ∃ g cap, e = .returned (.slice (some ⟨g, 0, none⟩) n cap) ∧ (∀ j, j < n → w'.cell? ⟨g, j, none⟩ = some (.int .u64 d[j]!)) ∧ n ≤ cap ∧ Fr No w w'
set_option maxRecDepth 100000 in
set_option maxHeartbeats 4000000 in
theorem sorted_with (Bs : Nat) (sv : Value) (zs : List Int) (d : Array Int) (h0 : zs ≠ []) (hlen : zs.length ≤ 1000000) (w : World) (hBs : Bs < w.heap.size) (hbx : w.cell? ⟨Bs, 0, none⟩ = some sv) (hI : Ints w.heap.size w sv zs) (hs : SortsTo zs d) :
    Calls Try.prog 22 #[.func (.func 26) #[] #[.pointer (some ⟨Bs, 0, none⟩)]] w (SortedAt w zs.length d) := by
  have HC := Lib.hid (collect_any Bs sv zs hlen w hBs hbx hI)
  have HS := Lib.hid hs
  have H0 := Lib.hid h0
  clear hBs hbx hI hs h0
  go_enter Try.func22, Try.ntmps22
  go_wp2_with (go_at_call 24; refine HC.out.mono ?_; rintro e w1 ⟨v, rfl, hrow, hnil, hb⟩)
  rcases hrow.2 with ⟨hv, _⟩ | ⟨g, cap, cur, hv, hbase, hgb, r1, r2, r3, r4⟩
  · exact absurd (hnil.1 hv) H0.out
  · subst hv
    have hH : Holds encU w1 g 0 zs.toArray := holds_cells hgb (by simpa using r4)
    have hgl : g < w1.heap.size := block_lt hgb
    have HS2 := Lib.hid (HS.out.2 g cap w1 hH hgl)
    have HB := Lib.hid hb
    have HBase := Lib.hid hbase
    have HH := Lib.hid hH
    have R1 := Lib.hid r1
    clear hrow hnil hb hbase hgb r1 r2 r3 r4 hH hgl
    go_wp2_with (go_at_call 25; refine HS2.out.mono ?_; rintro e w2 ⟨rfl, hr⟩; have HRow := Lib.hid hr; clear hr)
    go_ret
    have h2 : d.size = zs.length := HS.out.1
    refine ⟨g, cap, rfl, fun j hj => HRow.out.cell HH.out (by simpa using h2) j (by omega), R1.out, ?_⟩
    have f1 : Fr (fun k => w.heap.size ≤ k) w w1 := Fr.below HB.out
    have f2 : Fr (fun k => w.heap.size ≤ k) w w2 := f1.step HRow.out.1 fun i hi hp => by
      have := HBase.out
      have e : g = i := by simpa [Is] using hp
      omega
    exact f2.mono fun i hi hp => by omega
set_option maxRecDepth 100000 in
set_option maxHeartbeats 4000000 in
theorem reached_with {R : Ending → World → Prop} (b off cap : Nat) (zs : List Int) (d : Array Int) (h0 : zs ≠ []) (hlen : zs.length ≤ 1000000) (w : World) (hI : Ints w.heap.size w (.slice (some ⟨b, off, none⟩) zs.length cap) zs) (hs : SortsTo zs d)
    (hR : ∀ w', Fr No w w' → R (.returned (.int .u64 d[zs.length - mostD zs.length]!)) w') :
    Calls Try.prog 17 #[.slice (some ⟨b, off, none⟩) zs.length cap] w R := by
  have hd := hs.1
  have hl0 : 0 < zs.length := by cases zs with
    | nil => exact absurd rfl h0
    | cons _ _ => simp
  have HR := Lib.hid hR
  have hV : w.heap.size < (w.alloc (.cells #[.slice (some ⟨b, off, none⟩) zs.length cap] 34)).heap.size := by simp
  have HS := Lib.hid (sorted_with w.heap.size _ zs d h0 hlen (w.alloc (.cells #[.slice (some ⟨b, off, none⟩) zs.length cap] 34)) hV (cell_at (heap_new w _) 0 rfl) ((hI.below ((Below.refl _ w).alloc (Nat.le_refl _) _)).mono (by omega)) hs)
  have HD := Lib.hid hd
  have il : (0 : Int) < (zs.length : Int) := by omega
  have il2 : (zs.length : Int) ≤ 1000000 := by omega
  clear hR hI hs hd hV h0
  generalize hn : zs.length = n at *
  have hm1 : 1 ≤ mostD n ∧ mostD n ≤ n := by unfold mostD; rw [if_neg (by omega)]; omega
  have hmc : Calls Try.prog 19 #[.int .i64 n] w (fun e w' => e = .returned (.int .i64 (mostD n : Nat)) ∧ w = w') := most_any n w hlen
  have HM := Lib.hid (fun w => most_any n w hlen)
  clear hmc
  obtain ⟨m, hm⟩ : ∃ m, mostD n = m := ⟨_, rfl⟩
  rw [hm] at HM HR hm1
  obtain ⟨m1, m2⟩ := hm1
  have jm1 : (1 : Int) ≤ (m : Int) := by omega
  have jm2 : (m : Int) ≤ (n : Int) := by omega
  clear hm
  go_enter Try.func17, Try.ntmps17
  go_wp2_with (first
    | (go_at_call 23; refine values_any _ _ _ _ ?_)
    | (go_at_call 22; refine HS.out.mono ?_; rintro e w2 ⟨g, cap2, rfl, hc, hcap, hF⟩; have hcell := hc (n - m) (by omega); have HF := Lib.hid hF; have HCap := Lib.hid hcap; clear hc hF hcap)
    | (go_at_call 19; refine (HM.out _).mono ?_; rintro e w' ⟨rfl, rfl⟩))
  exact HR.out _ ((Fr.alloc _ _ _).trans HF.out)
end Go.Proofs.Ytcpaphcodhlggaa
