/- slices.Grow of nothing, slices.Concat of two; Of, four. -/
import Derived.Test.YthjpjekaiflibaaDoorSums
import Derived.Lib.AppendZeros
namespace Go.Proofs.YthjpjekaiflibaaDoor
open Go.RowKit
set_option maxRecDepth 100000 in
set_option maxHeartbeats 4000000 in
theorem grow_nil {R : Ending → World → Prop} (n : Nat) (w : World) (hn : n ≤ 140737488355328)
    (hR : ∀ v' g' w', By w' v' g' [] → Fr No w w' → New w g' → R (.returned v') w') :
    Calls Tryd.prog 109 #[.slice none 0 0, .int .i64 n] w R := by
  obtain ⟨i0, hi, hz0, hz1, hz2⟩ := info_parts info8
  have HR := Lib.hid hR
  clear hR
  by_cases h0 : n = 0
  · subst h0
    go_enter Tryd.func109, Tryd.ntmps109
    go_wp2
    exact HR.out _ none _ (By.nil _) (Fr.refl _ _) (fun k e => by cases e)
  · have n0 : (0 : Int) < (n : Int) := by omega
    have hw : IntKind.i64.wrap (n : Int) = (n : Int) := IntWalk.i64_in _ (by omega)
    have hrz := fun ty => Lib.run_append_nil_zeros (P := Tryd.prog) w 38 3 ty 5 i0 (.int .u8 0) .i64 .i64 uBytes (by kernel_rfl) hi hz0 n (by omega) (by omega) (by omega) (by rw [hz2]; omega)
    have hge := grownCap_ge w n 0 5
    have hgm := grownCap_le_maxLen w n 0 5 (by unfold maxLen; omega)
    have HF : Fr No w (w.drew.alloc (.cells (Builtin.zeroCells (Value.int .u8 0).cells n ++ Builtin.zeroCells (Value.int .u8 0).cells (grownCap w n 0 5 - n)) 5)) := (Fr.drew _ _).trans (Fr.alloc _ _ _)
    have HS := Lib.hid (show By (w.drew.alloc (.cells (Builtin.zeroCells (Value.int .u8 0).cells n ++ Builtin.zeroCells (Value.int .u8 0).cells (grownCap w n 0 5 - n)) 5)) (.slice (some ⟨w.heap.size, 0, none⟩) 0 (grownCap w n 0 5)) (some w.heap.size) [] from by
      have := Sl.made w.drew 5 1 0 (Builtin.zeroCells (Value.int .u8 0).cells n ++ Builtin.zeroCells (Value.int .u8 0).cells (grownCap w n 0 5 - n)) (grownCap w n 0 5) (by omega) hgm (by
        have hc1 : (Value.int .u8 0).cells.size = 1 := rfl
        simp only [Array.size_append, size_zeroCells, hc1, Nat.mul_one]
        omega)
      simpa [By] using this)
    have HF' := Lib.hid HF
    clear HF hz0 hz1 hz2 hi
    generalize hG : grownCap w n 0 5 = G at *
    have g0 : (0 : Int) ≤ (G : Int) := by omega
    clear hG
    go_enter Tryd.func109, Tryd.ntmps109
    go_wp2_with (at_builtin; refine Lib.wpList_append_run _ rfl _ _ _ _ rfl _ _ rfl rfl _ _ (hrz _) ?_)
    exact HR.out _ _ _ HS.out HF'.out (fun k e => by cases e; exact Nat.le_refl _)
/-- What lies at block b: two slices of bytes. -/
def PairAt (w : World) (b : Nat) (v1 v2 : Value) : Prop := w.cell? ⟨b, 0, none⟩ = some v1 ∧ w.cell? ⟨b, 1, none⟩ = some v2
def ConcatA (w : World) (n1 n2 : Nat) (s i : Value) (w' : World) : Prop := ∃ k : Nat, i = .int .i64 k ∧ k ≤ 2 ∧ s = .int .i64 (if k = 0 then 0 else if k = 1 then n1 else n1 + n2 : Nat) ∧ w' = w
def ConcatB (w : World) (xs ys : List UInt8) (s i : Value) (w' : World) : Prop := ∃ (k : Nat) (g : Option Nat) (zs : List UInt8) (p : Option Addr) (c : Nat), i = .int .i64 k ∧ k ≤ 2 ∧ zs = (if k = 0 then [] else if k = 1 then xs else xs ++ ys) ∧ s = .slice p zs.length c ∧ By w' (.slice p zs.length c) g zs ∧ Fr No w w' ∧ New w g
set_option maxRecDepth 100000 in
set_option maxHeartbeats 8000000 in
theorem concat_any {R : Ending → World → Prop} (b c : Nat) (v1 v2 : Value) (g1 g2 : Option Nat) (xs ys : List UInt8) (w : World) (hp : PairAt w b v1 v2) (h1 : Bs w v1 g1 xs) (h2 : Bs w v2 g2 ys)
    (hmax : xs.length + ys.length ≤ 140737488355328) (hg1 : ∀ k, g1 = some k → k < w.heap.size) (hg2 : ∀ k, g2 = some k → k < w.heap.size) 
    (hR : ∀ v' g' w', By w' v' g' (xs ++ ys) → Fr No w w' → New w g' → R (.returned v') w') :
    Calls Tryd.prog 82 #[.slice (some ⟨b, 0, none⟩) 2 c] w R := by
  obtain ⟨i0, hi, hz0, hz1, hz2⟩ := info_parts info8
  have HR := Lib.hid hR
  have HP := Lib.hid hp
  have H1 := Lib.hid h1
  have H2 := Lib.hid h2
  obtain ⟨p1, q1, rfl, _⟩ := Src.form h1
  obtain ⟨p2, q2, rfl, _⟩ := Src.form h2
  obtain ⟨c0, c1⟩ := hp
  clear hR h1 h2
  go_enter Tryd.func82, Tryd.ntmps82
  go_wp2_with fail
  go_loopw [3, 11] (fun s i wr => ConcatA w xs.length ys.length s i wr) (fun _ i _ => 2 - (intOf i).toNat)
  case atStart => exact ⟨0, rfl, by omega, rfl, rfl⟩
  case round =>
    obtain ⟨k, rfl, hk, rfl, rfl⟩ := hrel
    match k, hk with
    | 0, _ =>
      have x1 : IntKind.i64.wrap (xs.length : Int) = (xs.length : Int) := IntWalk.i64_in _ (by omega)
      have x2 : (0 : Int) ≤ (xs.length : Int) := by omega
      go_wp2_with fail
      exact ⟨⟨1, rfl, by omega, rfl, rfl⟩, by simp [intOf]⟩
    | 1, _ =>
      have x1 : IntKind.i64.wrap ((xs.length : Int) + (ys.length : Int)) = (xs.length : Int) + (ys.length : Int) := IntWalk.i64_in _ (by omega)
      have x2 : (0 : Int) ≤ (xs.length : Int) + (ys.length : Int) := by omega
      go_wp2_with fail
      exact ⟨⟨2, rfl, by omega, rfl, rfl⟩, by simp [intOf]⟩
    | 2, _ =>
      go_wp2_with (go_at_call 109; refine grow_nil (xs.length + ys.length) wr hmax ?_; intro v3 g3 w3 h3 h4 h5; obtain ⟨p3, c3, rfl, _⟩ := Sl.form h3; have H3 := Lib.hid h3; have H4 := Lib.hid h4; have H5 := Lib.hid h5; clear h3 h4 h5)
      go_loopw [6, 27] (fun s i wz => ConcatB wr xs ys s i wz) (fun _ i _ => 2 - (intOf i).toNat)
      case atStart => exact ⟨0, g3, [], p3, c3, rfl, by omega, rfl, rfl, H3.out, H4.out, H5.out⟩
      case round =>
        obtain ⟨k, gz, zs, ps, cs, rfl, hk, hzs, rfl, hby, hF, hN⟩ := hrel
        have d0 := hF.cell c0 fun x => x
        have d1 := hF.cell c1 fun x => x
        have HF := Lib.hid hF
        have HN := Lib.hid hN
        clear hF hN
        match k, hk with
        | 0, _ =>
          obtain rfl : zs = [] := hzs
          have HBY := Lib.hid hby
          have HS := Lib.hid (H1.out.fr HF.out fun _ _ x => x)
          have hm1 : ([] : List UInt8).length + xs.length ≤ maxLen := by unfold maxLen; simp; omega
          have hm2 : (([] : List UInt8).length + xs.length) * 1 ≤ 140737488355328 := by simp; omega
          clear hby
          go_wp2_with (at_builtin; refine wpList_appendSl _ rfl _ _ 38 rfl 5 i0 (.int .u8 0) 1 1 uBytes hi hz0 hz1 hz2 rfl (by omega) _ _ _ _ rfl HBY.out _ _ _ _ rfl HS.out (encB_one _) hm1 hm2 ?_; intro p' c' g' w' h1 h2 h3; have K1 := Lib.hid h1; have K2 := Lib.hid h2; have K3 := Lib.hid h3; clear h1 h2 h3)
          refine ⟨⟨1, g', xs, p', c', rfl, by omega, rfl, by simp, by have := K1.out; simpa [By] using this, HF.out.step K2.out fun i hi e => by have := HN.out i e; omega, ?_⟩, by simp [intOf]⟩
          rcases K3.out with e | ⟨e, _⟩
          · rw [e]; exact HN.out
          · intro j hj
            rw [e] at hj
            cases hj
            exact HF.out.size
        | 1, _ =>
          obtain rfl : zs = xs := hzs
          have HBY := Lib.hid hby
          have HS := Lib.hid (H2.out.fr HF.out fun _ _ x => x)
          have hm1 : (zs : List UInt8).length + ys.length ≤ maxLen := by unfold maxLen; simp; omega
          have hm2 : ((zs : List UInt8).length + ys.length) * 1 ≤ 140737488355328 := by simp; omega
          clear hby
          go_wp2_with (at_builtin; refine wpList_appendSl _ rfl _ _ 38 rfl 5 i0 (.int .u8 0) 1 1 uBytes hi hz0 hz1 hz2 rfl (by omega) _ _ _ _ rfl HBY.out _ _ _ _ rfl HS.out (encB_one _) hm1 hm2 ?_; intro p' c' g' w' h1 h2 h3; have K1 := Lib.hid h1; have K2 := Lib.hid h2; have K3 := Lib.hid h3; clear h1 h2 h3)
          refine ⟨⟨2, g', zs ++ ys, p', c', rfl, by omega, rfl, by simp, by have := K1.out; simpa [By] using this, HF.out.step K2.out fun i hi e => by have := HN.out i e; omega, ?_⟩, by simp [intOf]⟩
          rcases K3.out with e | ⟨e, _⟩
          · rw [e]; exact HN.out
          · intro j hj
            rw [e] at hj
            cases hj
            exact HF.out.size
        | 2, _ =>
          obtain rfl : zs = (xs ++ ys) := hzs
          have HBY := Lib.hid hby
          clear hby
          go_wp2_with fail
          exact HR.out _ gz _ HBY.out HF.out HN.out
end Go.Proofs.YthjpjekaiflibaaDoor
