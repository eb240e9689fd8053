/- frames.Put. -/
import Derived.Test.YthjpjekaiflibaaDoorSums2
namespace Go.Proofs.YthjpjekaiflibaaDoor
open Go.RowKit
/-- A body's frame. -/
def frameD (body : List UInt8) : List UInt8 := sealD (num body.length ++ body)
set_option maxRecDepth 100000 in
set_option maxHeartbeats 8000000 in
theorem fput_any {R : Ending → World → Prop} (vb v : Value) (gb g : Option Nat) (pre body : List UInt8) (w : World) (ht : Tab w) (hb : Bs w vb gb pre) (h : Bs w v g body) (hgb : ∀ k, gb = some k → k < w.heap.size) (hg : ∀ k, g = some k → k < w.heap.size) (hp : pre.length ≤ 1000000000) (hs : body.length ≤ 8192)
    (hR : ∀ v' g' w', By w' v' g' (pre ++ frameD body) → Fr No w w' → New w g' → R (.returned (.tuple #[v', .int .i64 0])) w') :
    Calls Tryd.prog 45 #[vb, v] w R := by
  have HR := Lib.hid hR
  have HB := Lib.hid hb
  have H := Lib.hid h
  have HT := Lib.hid ht
  have HG := Lib.hid hg
  have HGB := Lib.hid hgb
  obtain ⟨p, q, rfl, _⟩ := Src.form h
  obtain ⟨pb, qb, rfl, _⟩ := Src.form hb
  obtain ⟨n, hn⟩ : ∃ n, n = body.length := ⟨_, rfl⟩
  have HN := Lib.hid hn
  rw [← hn]
  have jn : (n : Int) ≤ 8192 := by omega
  have jn0 : (0 : Int) ≤ (n : Int) := by omega
  have hten : (num n).length ≤ 10 := num_ten (by omega)
  obtain ⟨hd, hhd⟩ : ∃ hd, num n = hd := ⟨_, rfl⟩
  rw [hhd] at hten
  obtain ⟨hb2, hhb⟩ : ∃ x, hd ++ body = x := ⟨_, rfl⟩
  obtain ⟨sl, hsl⟩ : ∃ x, sealD hb2 = x := ⟨_, rfl⟩
  obtain ⟨al, hal⟩ : ∃ x, pre ++ sl = x := ⟨_, rfl⟩
  have hl1 : hb2.length ≤ 9000 := by rw [← hhb, List.length_append]; omega
  have hl2 : sl.length ≤ 9004 := by
    rw [← hsl, sealD, List.length_append]
    have : (fourD (crc 0 hb2)).length = 4 := rfl
    omega
  have HD := Lib.hid hhd
  have HHB := Lib.hid hhb
  have HSL := Lib.hid hsl
  have HAL := Lib.hid hal
  clear hR h hb ht hg hgb hhd hhb hsl hal hn
  go_enter Tryd.func45, Tryd.ntmps45
  go_wp2_with (first
    | (go_at_call 46; refine num_any _ none [] n w (By.nil w).src (by simp) (by omega) ?_; intro v1 g1 w1 h1 h2 h3; rw [List.nil_append, HD.out] at h1; obtain ⟨p1, q1, rfl, _⟩ := Sl.form h1; have A1 := Lib.hid h1; have A2 := Lib.hid h2; have A3 := Lib.hid h3; clear h1 h2 h3)
    | (go_at_call 82; refine concat_any w3.heap.size 2 _ _ gb g3 pre sl _ ⟨cell_at (heap_new w3 _) 0 rfl, cell_at (heap_new w3 _) 1 rfl⟩ ((HB.out.fr C2.out fun _ _ x => x).fr (Fr.alloc No w3 _) fun _ _ x => x) (C1.out.src.fr (Fr.alloc No w3 _) fun _ _ x => x) (by omega) (fun k hk => by have := HGB.out k hk; have := C2.out.size; simp; omega) (fun k hk => by have := Sl.lt C1.out k hk; simp; omega) ?_; intro v4 g4 w4 h1 h2 h3; rw [HAL.out] at h1; have D1 := Lib.hid h1; have D2 := Lib.hid ((C2.out.trans (Fr.alloc No w3 _)).trans h2); have D3 := Lib.hid h3; clear h2 h3; obtain ⟨p4, q4, rfl, _⟩ := Sl.form h1; clear h1)
    | (go_at_call 82; refine concat_any w1.heap.size 2 _ _ g1 g hd body _ ⟨cell_at (heap_new w1 _) 0 rfl, cell_at (heap_new w1 _) 1 (by rw [← HN.out]; rfl)⟩ (A1.out.src.fr (Fr.alloc No w1 _) fun _ _ x => x) ((H.out.fr A2.out fun _ _ x => x).fr (Fr.alloc No w1 _) fun _ _ x => x) (by have := HN.out; omega) (fun k hk => by have := Sl.lt A1.out k hk; simp; omega) (fun k hk => by have := HG.out k hk; have := A2.out.size; simp; omega) ?_; intro v2 g2 w2 h1 h2 h3; rw [HHB.out] at h1; have B1 := Lib.hid h1; have B2 := Lib.hid ((A2.out.trans (Fr.alloc No w1 _)).trans h2); clear h2 h3; obtain ⟨p2, q2, rfl, _⟩ := Sl.form h1; clear h1)
    | (go_at_call 83; refine sput_any _ _ hb2 _ (HT.out.fr B2.out fun x => x) B1.out.src (fun k hk => Sl.lt B1.out k hk) (by omega) ?_; intro v3 g3 w3 h1 h2 h3; rw [HSL.out] at h1; have C1 := Lib.hid h1; have C2 := Lib.hid (B2.out.trans h2); clear h2 h3; obtain ⟨p3, q3, rfl, _⟩ := Sl.form h1; clear h1)
    | (go_at_call 79; refine clip_any _ _ al _ D1.out ?_; intro v' h1 _; have E1 := Lib.hid h1; clear h1))
  have K5 := E1.out
  rw [← HAL.out, ← HSL.out, ← HHB.out, ← HD.out, HN.out] at K5
  refine HR.out v' g4 w4 K5 D2.out fun k hk => ?_
  have := D3.out k hk
  have := C2.out.size
  simp at *
  omega
end Go.Proofs.YthjpjekaiflibaaDoor
