/- Of, four, sums.Put; slices.Equal at bytes; Ends. -/
import Derived.Test.YthjpjekaiflibaaDoorConcat
import Derived.BigQuiet
namespace Go.Proofs.YthjpjekaiflibaaDoor
open Go.RowKit
def fourD (n : Nat) : List UInt8 := [UInt8.ofNat (n % 256), UInt8.ofNat (n / 256 % 256), UInt8.ofNat (n / 65536 % 256), UInt8.ofNat (n / 16777216)]
/-- Bytes and their sum. -/
def sealD (bs : List UInt8) : List UInt8 := bs ++ fourD (crc 0 bs)
set_option maxRecDepth 100000 in
set_option maxHeartbeats 4000000 in
theorem of_any {R : Ending → World → Prop} (v : Value) (g : Option Nat) (bs : List UInt8) (w : World) (ht : Tab w) (h : Bs w v g bs)
    (hR : R (.returned (.int .u32 (crc 0 bs))) w) :
    Calls Tryd.prog 111 #[v] w R := by
  have HR := Lib.hid hR
  have H := Lib.hid h
  have HT := Lib.hid ht
  clear hR h ht
  go_enter Tryd.func111, Tryd.ntmps111
  go_wp2_with (go_at_call 126; refine more_any 0 _ _ bs _ (by decide) HT.out H.out ?_)
  exact HR.out
set_option maxRecDepth 100000 in
set_option maxHeartbeats 4000000 in
theorem four_any {R : Ending → World → Prop} (n : Nat) (w : World) (hn : n < 4294967296)
    (hR : ∀ v' g' w', By w' v' g' (fourD n) → Fr No w w' → New w g' → R (.returned v') w') :
    Calls Tryd.prog 110 #[.int .u32 n] w R := by
  have hA : (#[.int .u8 ((n : Int) % 256), .int .u8 ((n : Int) / 256 % 256), .int .u8 ((n : Int) / 65536 % 256), .int .u8 ((n : Int) / 16777216)] : Array Value) = ((fourD n).map encB).toArray := by
    have e1 : ((UInt8.ofNat (n % 256)).toNat : Int) = (n : Int) % 256 := by rw [UInt8.toNat_ofNat']; omega
    have e2 : ((UInt8.ofNat (n / 256 % 256)).toNat : Int) = (n : Int) / 256 % 256 := by rw [UInt8.toNat_ofNat']; omega
    have e3 : ((UInt8.ofNat (n / 65536 % 256)).toNat : Int) = (n : Int) / 65536 % 256 := by rw [UInt8.toNat_ofNat']; omega
    have e4 : ((UInt8.ofNat (n / 16777216)).toNat : Int) = (n : Int) / 16777216 := by rw [UInt8.toNat_ofNat']; omega
    simp only [fourD, List.map_cons, List.map_nil, encB, e1, e2, e3, e4]
  have HR := Lib.hid (hR _ _ _ (By.lit w (fourD n) (by simp [fourD, maxLen])) (Fr.alloc _ _ _) (fun k e => by cases e; exact Nat.le_refl _))
  rw [← hA] at HR
  clear hR hA
  go_enter Tryd.func110, Tryd.ntmps110
  go_wp2
  exact HR.out
set_option maxRecDepth 100000 in
set_option maxHeartbeats 4000000 in
theorem sput_any {R : Ending → World → Prop} (v : Value) (g : Option Nat) (bs : List UInt8) (w : World) (ht : Tab w) (h : Bs w v g bs) (hg : ∀ k, g = some k → k < w.heap.size) (hmax : bs.length ≤ 140737488355000)
    (hR : ∀ v' g' w', By w' v' g' (sealD bs) → Fr No w w' → New w g' → R (.returned v') w') :
    Calls Tryd.prog 83 #[v] w R := by
  have HR := Lib.hid hR
  have H := Lib.hid h
  have HT := Lib.hid ht
  have HG := Lib.hid hg
  obtain ⟨p, q, rfl, _⟩ := Src.form h
  obtain ⟨zs, hzs⟩ : ∃ zs, bs ++ fourD (crc 0 bs) = zs := ⟨_, rfl⟩
  have HZ := Lib.hid hzs
  clear hzs
  clear hR h ht hg
  go_enter Tryd.func83, Tryd.ntmps83
  go_wp2_with (first
    | (go_at_call 111; refine of_any _ _ bs _ HT.out H.out ?_)
    | (go_at_call 110; refine four_any _ _ (crc_small 0 bs) ?_; intro v1 g1 w1 h1 h2 h3; obtain ⟨p1, q1, rfl, _⟩ := Sl.form h1; have H1 := Lib.hid h1; have H2 := Lib.hid h2; have H3 := Lib.hid h3; clear h1 h2 h3)
    | (go_at_call 82; refine concat_any w1.heap.size 2 _ _ g g1 bs (fourD (crc 0 bs)) _ ⟨cell_at (heap_new w1 _) 0 rfl, cell_at (heap_new w1 _) 1 rfl⟩ ((H.out.fr H2.out fun _ _ x => x).fr (Fr.alloc No w1 _) fun _ _ x => x) (H1.out.src.fr (Fr.alloc No w1 _) fun _ _ x => x) (by have : (fourD (crc 0 bs)).length = 4 := rfl; omega) (fun k hk => by have := HG.out k hk; have := H2.out.size; simp; omega) (fun k hk => by have := Sl.lt H1.out k hk; simp; omega) ?_; intro v2 g2 w2 h1 h2 h3; rw [HZ.out] at h1; have K1 := Lib.hid h1; have K2 := Lib.hid h2; have K3 := Lib.hid h3; clear h2 h3; obtain ⟨p2, q2, rfl, _⟩ := Sl.form h1; clear h1)
    | (go_at_call 79; refine clip_any _ _ zs _ K1.out ?_; intro v' h1 _; have K4 := Lib.hid h1; clear h1))
  have K5 := K4.out
  rw [← HZ.out] at K5
  refine HR.out v' g2 w2 K5 ((H2.out.trans (Fr.alloc _ _ _)).trans K2.out) fun k hk => ?_
  have := K3.out k hk
  have := H2.out.size
  simp at *
  omega
end Go.Proofs.YthjpjekaiflibaaDoor
