/- Copies of bytes with a mark behind them; are bytes the same? -/
import Derived.Test.YthjpjekaiflibaaTwin
import Derived.Laws.MakeOwn
namespace Go.Proofs.Ythjpjekaiflibaa
open Go.RowKit
/-- A copy with two marks behind it. -/
def TwAt (w : World) (v : Value) (g : Option Nat) (bs : List UInt8) : Prop := ∃ b o c, v = .slice (some ⟨b, o, none⟩) bs.length c ∧ g = some b ∧ By w (.slice (some ⟨b, o, none⟩) (bs ++ [195, 195]).length c) g (bs ++ [195, 195])
theorem TwAt.fr {S : Nat → Prop} {w w' : World} {v : Value} {g : Option Nat} {bs : List UInt8} (h : TwAt w v g bs) (hF : Fr S w w') (hs : ∀ k, g = some k → ¬ S k) : TwAt w' v g bs := by
  obtain ⟨b, o, c, e1, e2, h⟩ := h
  exact ⟨b, o, c, e1, e2, h.fr hF hs⟩
theorem TwAt.bs {w : World} {v : Value} {g : Option Nat} {bs : List UInt8} (h : TwAt w v g bs) : Bs w v g bs := by
  obtain ⟨b, o, c, rfl, e2, h⟩ := h
  have := bs_take h.src bs.length (by simp)
  rwa [List.take_left] at this
theorem TwAt.lt {w : World} {v : Value} {g : Option Nat} {bs : List UInt8} (h : TwAt w v g bs) : ∀ k, g = some k → k < w.heap.size := by
  obtain ⟨b, o, c, rfl, e2, h⟩ := h
  exact Sl.lt h
theorem two_at {w : World} {p : Option Addr} {c : Nat} {g : Option Nat} {xs : List UInt8} (h : Sl w 5 1 (.slice p (xs.length + 2) c) g (xs.length + 2) (xs.map encB ++ ([195, 195] : List UInt8).map encB)) : By w (.slice p (xs ++ [195, 195]).length c) g (xs ++ [195, 195]) := by
  have e8 : xs.length + 2 = (xs ++ [195, 195]).length := by simp
  rw [e8] at h
  unfold By
  rw [List.map_append]
  exact h
theorem two_some {w : World} {p : Option Addr} {c : Nat} {g : Option Nat} {xs : List UInt8} (h : By w (.slice p (xs ++ [195, 195]).length c) g (xs ++ [195, 195])) : ∃ b o, p = some ⟨b, o, none⟩ ∧ g = some b ∧ xs.length + 2 ≤ c := by
  rcases Sl.out h with ⟨_, _, e, _⟩ | ⟨b, o, cap, e, hg, hc, _⟩
  · simp at e
  · have : p = some ⟨b, o, none⟩ ∧ c = cap := by simpa using e
    refine ⟨b, o, this.1, hg, ?_⟩
    rw [this.2]
    simpa using hc
set_option maxRecDepth 100000 in
set_option maxHeartbeats 8000000 in
theorem twin_any {R : Ending → World → Prop} (v : Value) (g : Option Nat) (bs : List UInt8) (w : World) (h : Bs w v g bs) (hmax : bs.length ≤ 1000000000000)
    (hR : ∀ v' g' w', TwAt w' v' g' bs → Fr No w w' → New w g' → R (.returned v') w') :
    Calls Try.prog 46 #[v, .int .u8 195] w R := by
  have HR := Lib.hid hR
  have H := Lib.hid h
  obtain ⟨p, c, rfl, _⟩ := Src.form h
  obtain ⟨i0, hi0, hz0, hz1, hz2⟩ := info_parts info8
  have hmk := run_make (P := Try.prog) w 28 5 i0 (.int .u8 0) uBytes hi0 hz0 .i64 .i64 0 ((bs.length : Int) + 2) (by omega) (by omega) (by rw [hz2]; omega) (by omega)
  rw [show ((bs.length : Int) + 2).toNat = bs.length + 2 by omega, hz1] at hmk
  have hmade := Sl.made w 5 1 0 (madeCells (Value.int .u8 0).cells ((bs.length + 2) * 1)) (bs.length + 2) (by omega) (by unfold maxLen; omega) (by rw [size_madeCells]; omega)
  obtain ⟨wm, hwm⟩ : ∃ wm, w.alloc (.cells (madeCells (Value.int .u8 0).cells ((bs.length + 2) * 1)) 5) = wm := ⟨_, rfl⟩
  have hFm : Fr No w wm := by rw [← hwm]; exact Fr.alloc _ _ _
  rw [hwm] at hmk hmade
  have HM := Lib.hid (show By wm (.slice (some ⟨w.heap.size, 0, none⟩) 0 (bs.length + 2)) (some w.heap.size) [] by simpa [By] using hmade)
  have HFM := Lib.hid hFm
  have HB := Lib.hid (h.fr hFm fun _ _ x => x)
  have b1 : 0 + bs.length ≤ maxLen := by unfold maxLen; omega
  have b2 : (0 + bs.length) * 1 ≤ 140737488355328 := by omega
  have b3 : bs.length + 2 ≤ maxLen := by unfold maxLen; omega
  have b4 : (bs.length + 2) * 1 ≤ 140737488355328 := by omega
  have jl : (bs.length : Int) ≤ 1000000000000 := by omega
  clear hR h hwm hFm hmade
  simp only [Int.toNat_zero] at hmk
  go_enter Try.func46, Try.ntmps46
  go_upto_region 3 with (at_builtin; refine wpList_appendSl _ rfl _ _ 28 rfl 5 i0 (.int .u8 0) 1 1 uBytes hi0 hz0 hz1 hz2 rfl (by omega) _ _ _ _ rfl HM.out _ _ _ _ rfl HB.out (encB_one _) b1 b2 ?_; intro p2 c2 g2 w2 h1 h2 h3; have K1 := Lib.hid (show By w2 (.slice p2 bs.length c2) g2 bs by simpa [By] using h1); have K2 := Lib.hid h2; have K3 := Lib.hid h3; clear h1 h2 h3)
  have HMK := Lib.hid (show Src (w2.alloc (.cells #[.int .u8 195, .int .u8 195] 5)) 1 (.slice (some ⟨w2.heap.size, 0, none⟩) 2 2) (some w2.heap.size) 2 (([195, 195] : List UInt8).map encB) from (By.lit w2 [195, 195] (by simp [maxLen])).src)
  have K4 := Lib.hid (K1.out.fr (Fr.alloc No w2 (.cells #[.int .u8 195, .int .u8 195] 5)) fun _ _ x => x)
  go_wp2_with (at_builtin; refine wpList_appendSl _ rfl _ _ 28 rfl 5 i0 (.int .u8 0) 1 1 uBytes hi0 hz0 hz1 hz2 rfl (by omega) _ _ _ _ rfl K4.out _ _ _ _ rfl HMK.out (encB_one _) b3 b4 ?_; intro p3 c3 g3 w3 h1 h2 h3; have h9 := two_at h1; obtain ⟨b, o, rfl, rfl, hc3⟩ := two_some h9; have L1 := Lib.hid h9; have L2 := Lib.hid h2; have L3 := Lib.hid h3; have j1 : (bs.length : Int) ≤ (c3 : Int) := (by omega); have j2 : ¬ c3 = 0 := (by omega); clear h1 h2 h3 h9)
  refine HR.out _ (some b) w3 ⟨b, o, c3, rfl, rfl, L1.out⟩ ((HFM.out.step K2.out fun i hi e => ?_).step ((Fr.alloc (Is g2) _ _).trans L2.out) fun i hi e => ?_) fun k hk => ?_
  · have : w.heap.size = i := Option.some.inj e
    omega
  · have hn2 : w.heap.size ≤ i := by
      rcases K3.out with e2 | ⟨e2, _⟩
      · rw [e2] at e
        have : w.heap.size = i := Option.some.inj e
        omega
      · rw [e2] at e
        have : wm.heap.size = i := Option.some.inj e
        have := HFM.out.size
        omega
    omega
  · have z1 := HFM.out.size
    have z2 := K2.out.size
    rcases L3.out with e | ⟨e, _⟩
    · rcases K3.out with e2 | ⟨e2, _⟩
      · rw [← e, hk] at e2
        have : k = w.heap.size := Option.some.inj e2
        omega
      · rw [← e, hk] at e2
        have : k = wm.heap.size := Option.some.inj e2
        omega
    · rw [hk] at e
      have : k = _ := Option.some.inj e
      simp at this
      omega
end Go.Proofs.Ythjpjekaiflibaa
