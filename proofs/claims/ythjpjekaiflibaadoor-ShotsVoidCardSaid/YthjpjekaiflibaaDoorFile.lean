/- A shot's file. -/
import Derived.Test.YthjpjekaiflibaaDoorChunk
namespace Go.Proofs.YthjpjekaiflibaaDoor
open Go.RowKit Go.Shelf
attribute [local go_sem] Oper.semAt_some
set_option maxHeartbeats 1000000 in
theorem chunk_any {R : Ending → World → Prop} (p : Option Addr) (n cap : Nat) (w : World)
    (hR : R (.returned (.func (.func 114) #[] #[.pointer (some ⟨w.heap.size, 0, none⟩), .pointer (some ⟨w.heap.size + 1, 0, none⟩)])) ((w.alloc (.cells #[.slice p n cap] 38)).alloc (.cells #[.int .i64 4096] 3))) :
    Calls Tryd.prog 85 #[.slice p n cap, .int .i64 4096] w R := by
  have HR := Lib.hid hR
  clear hR
  go_enter Tryd.func85, Tryd.ntmps85
  go_wp2
  exact HR.out
set_option maxRecDepth 100000 in
set_option maxHeartbeats 4000000 in
theorem own_any {R : Ending → World → Prop} (i t : Int) (v : Value) (g : Option Nat) (bs : List UInt8) (w : World) (h : Bs w v g bs) (hmax : bs.length ≤ 1000000)
    (hR : ∀ v' g' w', By w' v' g' bs → Fr No w w' → New w g' → R (.returned (.agg #[.int .u64 i, .int .u64 t, v'])) w') :
    Calls Tryd.prog 48 #[.agg #[.int .u64 i, .int .u64 t, v]] w R := by
  have HR := Lib.hid hR
  obtain ⟨p, c, rfl, _⟩ := Src.form h
  obtain ⟨wa, hwa⟩ : ∃ wa, (w.alloc (.cells #[.int .u64 i, .int .u64 t, .slice p bs.length c] 40)).alloc (.cells #[.int .u64 0, .int .u64 0, .slice none 0 0] 40) = wa := ⟨_, rfl⟩
  have hF : Fr No w wa := by rw [← hwa]; exact (Fr.alloc _ _ _).trans (Fr.alloc _ _ _)
  have hb0 : wa.heap[w.heap.size]? = some (.cells #[.int .u64 i, .int .u64 t, .slice p bs.length c] 40 (0, 0)) := by rw [← hwa]; exact (Fr.alloc No _ _).at (heap_new w _) fun x => x
  have hb1 : wa.heap[w.heap.size + 1]? = some (.cells #[.int .u64 0, .int .u64 0, .slice none 0 0] 40 (0, 0)) := by
    rw [← hwa]
    have := heap_new (w.alloc (.cells #[.int .u64 i, .int .u64 t, .slice p bs.length c] 40)) (.cells #[.int .u64 0, .int .u64 0, .slice none 0 0] 40)
    simpa using this
  have HWA := Lib.hid hwa
  have HB := Lib.hid (h.fr hF fun _ _ x => x)
  have HF := Lib.hid hF
  have H0 := Lib.hid hb0
  have H1 := Lib.hid hb1
  have q2 := cell_at hb0 2 rfl
  clear hR h hwa hF hb0 hb1
  go_enter Tryd.func48, Tryd.ntmps48
  go_upto_region 1 with fail
  rw [HWA.out]
  go_upto_region 2 with (first
    | (go_at_call 79; refine clip_any _ _ _ _ K1.out ?_; intro v' h1 _; have L1 := Lib.hid h1; obtain ⟨p2, c2, rfl, _⟩ := Sl.form h1; clear h1)
    | (go_at_call 71; refine clone_any _ g bs _ HB.out (by omega) ?_; intro v' g' w1 h1 h2 h3 _; obtain ⟨p1, c1, rfl, _⟩ := Sl.form h1; have K1 := Lib.hid h1; have K2 := Lib.hid h2; have K3 := Lib.hid h3; have e0 := Lib.hid (h2.at H0.out fun x => x); have e1 := Lib.hid (h2.at H1.out fun x => x); have f0 := free_at e0.out 2; have x2 := cell_at e0.out 2 rfl; clear h1 h2 h3))
  have hF3 : Fr No w (w1.setCell ⟨w.heap.size, 2, none⟩ (.slice p2 bs.length c2)) := (HF.out.trans K2.out).step (Fr.set w1 w.heap.size 2 _) fun k hk hp => by
    have : w.heap.size = k := by simpa [Is] using hp
    omega
  have hb3 : (w1.setCell ⟨w.heap.size, 2, none⟩ (.slice p2 bs.length c2)).heap[w.heap.size]? = some (.cells #[.int .u64 i, .int .u64 t, .slice p2 bs.length c2] 40 (0, 0)) := setCell_box (k := 2) e0.out (.slice p2 bs.length c2)
  have hb4 := (Fr.set w1 w.heap.size 2 (.slice p2 bs.length c2)).at e1.out (by simp [Is])
  have hg : ∀ k, g' = some k → w.heap.size + 2 ≤ k := fun k hk => by
    have := K3.out k hk
    have : wa.heap.size = w.heap.size + 2 := by rw [← HWA.out]; simp
    omega
  have hL : By (w1.setCell ⟨w.heap.size, 2, none⟩ (.slice p2 bs.length c2)) (.slice p2 bs.length c2) g' bs := By.fr L1.out (Fr.set w1 w.heap.size 2 _) fun k hk he => by
    have : w.heap.size = k := by simpa [Is] using he
    have := hg k hk
    omega
  have HL := Lib.hid hL
  have HG := Lib.hid hg
  have HF3 := Lib.hid hF3
  have y0 := cell_at hb3 0 rfl
  have y1 := cell_at hb3 1 rfl
  have y2 := cell_at hb3 2 rfl
  have z0 := cell_at hb4 0 rfl
  have z1 := cell_at hb4 1 rfl
  have z2 := cell_at hb4 2 rfl
  have u0 := free_at hb4 0
  have u1 := free_at hb4 1
  have u2 := free_at hb4 2
  have HB4 := Lib.hid hb4
  clear hF3 hb3 hb4 hg hL x2 f0 q2
  generalize w1.setCell ⟨w.heap.size, 2, none⟩ (.slice p2 bs.length c2) = w3 at *
  go_wp2
  have hb5 : (((w3.setCell ⟨w.heap.size + 1, 0, none⟩ (.int .u64 i)).setCell ⟨w.heap.size + 1, 1, none⟩ (.int .u64 t)).setCell ⟨w.heap.size + 1, 2, none⟩ (.slice p2 bs.length c2)).heap[w.heap.size + 1]? = some (.cells #[.int .u64 i, .int .u64 t, .slice p2 bs.length c2] 40 (0, 0)) := setCell_box (k := 2) (setCell_box (k := 1) (setCell_box (k := 0) HB4.out _) _) _
  have hF5 : Fr (Is (some (w.heap.size + 1))) w3 (((w3.setCell ⟨w.heap.size + 1, 0, none⟩ (.int .u64 i)).setCell ⟨w.heap.size + 1, 1, none⟩ (.int .u64 t)).setCell ⟨w.heap.size + 1, 2, none⟩ (.slice p2 bs.length c2)) := ((Fr.set _ _ _ _).trans (Fr.set _ _ _ _)).trans (Fr.set _ _ _ _)
  refine bodyPost_ret (results_cell_row rfl _ _ (w.heap.size + 1) 40 _ (0, 0) _ rfl hb5 Tryd.underlying40 rfl (by kernel_rfl)) rfl ?_
  refine HR.out _ g' _ (By.fr HL.out hF5 fun k hk he => ?_) (HF3.out.step hF5 fun k hk hp => ?_) fun k hk => ?_
  · have : w.heap.size + 1 = k := by simpa [Is] using he
    have := HG.out k hk
    omega
  · have : w.heap.size + 1 = k := by simpa [Is] using hp
    omega
  · have := HG.out k hk
    omega
def piece (data : List UInt8) (k : Nat) : List UInt8 := (data.drop (4096 * k)).take 4096
def accD (i t : Nat) (data : List UInt8) (pre : List (Fin (pieces data.length))) : List UInt8 := frameD (num i ++ num t) ++ pre.flatMap fun k => frameD (piece data k.1)
def fileD (i t : Nat) (data : List UInt8) : List UInt8 := accD i t data (List.finRange (pieces data.length))
theorem frameD_len (b : List UInt8) (h : b.length ≤ 8192) : (frameD b).length ≤ 9004 := by
  have h3 := num_ten (n := b.length) (by omega)
  have h4 : ∀ n, (fourD n).length = 4 := fun _ => rfl
  simp only [frameD, sealD, List.length_append, h4]
  omega
theorem piece_len (data : List UInt8) (k : Nat) : (piece data k).length = partLen data.length k := by
  unfold piece partLen
  rw [List.length_take, List.length_drop]
theorem accD_len (i t : Nat) (data : List UInt8) (hi : i < 18446744073709551616) (ht : t < 18446744073709551616) : ∀ pre, (accD i t data pre).length ≤ 9004 * (pre.length + 1) := by
  intro pre
  have h0 : (frameD (num i ++ num t)).length ≤ 9004 := frameD_len _ (by
    have h1 := num_ten hi
    have h2 := num_ten ht
    rw [List.length_append]
    omega)
  have h1 : ∀ pre : List (Fin (pieces data.length)), (pre.flatMap fun k => frameD (piece data k.1)).length ≤ 9004 * pre.length := by
    intro pre
    induction pre with
    | nil => simp
    | cons x xs ih =>
      rw [List.flatMap_cons, List.length_append, List.length_cons]
      have := frameD_len (piece data x.1) (by rw [piece_len]; unfold partLen; omega)
      omega
  unfold accD
  rw [List.length_append]
  have := h1 pre
  omega
theorem accD_snoc (i t : Nat) (data : List UInt8) (pre : List (Fin (pieces data.length))) (x : Fin (pieces data.length)) : accD i t data (pre ++ [x]) = accD i t data pre ++ frameD (piece data x.1) := by
  unfold accD
  rw [List.flatMap_append, List.append_assoc]
  simp
/-- A piece of what is read. -/
theorem piece_src {w : World} {b o c : Nat} {g : Option Nat} {data : List UInt8} (h : Bs w (.slice (some ⟨b, o, none⟩) data.length c) g data) (x : Fin (pieces data.length)) : Bs w (partV b o data.length x.1) g (piece data x.1) := by
  obtain ⟨h1, p, cc, h2, h3, h4, h5, h6⟩ := h
  have hx := pieces_lt.1 x.2
  have hl := piece_len data x.1
  obtain ⟨rfl, rfl⟩ : some ⟨b, o, none⟩ = p ∧ c = cc := by simpa using h2
  rcases h6 with h6 | ⟨b2, o2, e1, e2, e3⟩
  · omega
  · obtain ⟨rfl, rfl⟩ : b = b2 ∧ o = o2 := by simpa using e1
    refine ⟨by simp, _, _, by rw [hl]; rfl, by rw [hl]; exact Nat.le_refl _, ?_, (fun e => by cases e), .inr ⟨b, o + 4096 * x.1, rfl, e2, fun j u hj => ?_⟩⟩
    · unfold partLen; omega
    · have : (data.map encB)[4096 * x.1 + j]? = some u := by
        rw [List.getElem?_map] at hj ⊢
        have hj2 : j < (piece data x.1).length := by
          rcases Nat.lt_or_ge j (piece data x.1).length with h | h
          · exact h
          · rw [List.getElem?_eq_none h] at hj; cases hj
        have : (piece data x.1)[j]? = data[4096 * x.1 + j]? := by
          unfold piece
          rw [List.getElem?_take, if_pos (by rw [hl] at hj2; unfold partLen at hj2; omega), List.getElem?_drop]
        rw [← this]; exact hj
      have := e3 _ _ this
      rwa [← Nat.add_assoc] at this
end Go.Proofs.YthjpjekaiflibaaDoor
