/- An album: opened, asked. -/
import Derived.Test.YthjpjekaiflibaaDoorFile2
import Derived.Test.YthjpjekaiflibaaDoorOpen
namespace Go.Proofs.YthjpjekaiflibaaDoor
open Go.RowKit
def nShot : ByteArray := ⟨#[115, 104, 111, 116]⟩
/-- The album at block ba: its shot's numbers, its data v (the bytes bs, in block g), its disk. -/
structure AlbumAt (w : World) (ba i t : Nat) (v : Value) (g : Option Nat) (bs : List UInt8) (pd : Option Addr) (lost : Bool) : Prop where
  a : w.heap[ba]? = some (.cells #[.int .u64 i, .int .u64 t, v, .pointer pd, .bool lost] 42 (0, 0))
  b : By w v g bs
  n : ∀ k, g = some k → k ≠ ba
theorem AlbumAt.fr {S : Nat → Prop} {w w' : World} {ba i t : Nat} {v : Value} {g : Option Nat} {bs : List UInt8} {pd : Option Addr} {lost : Bool} (h : AlbumAt w ba i t v g bs pd lost) (hF : Fr S w w') (hs : ¬ S ba) (hg : ∀ k, g = some k → ¬ S k) : AlbumAt w' ba i t v g bs pd lost :=
  ⟨hF.at h.a hs, h.b.fr hF hg, h.n⟩
set_option maxRecDepth 100000 in
set_option maxHeartbeats 4000000 in
theorem sopen_none {R : Ending → World → Prop} (w : World) (hR : R (.returned (.tuple #[.pointer none, .int .i64 2])) w) :
    Calls Tryd.prog 15 #[.pointer none] w R := by
  have HR := Lib.hid hR
  clear hR
  go_enter Tryd.func15, Tryd.ntmps15
  go_wp2
  exact HR.out
set_option maxRecDepth 100000 in
set_option maxHeartbeats 4000000 in
theorem sopen_new {R : Ending → World → Prop} {w : World} {bd : Nat} {M : DM} {O : List Nat} (h : DiskAt w bd M O) (hr : M.read nShot = ([], 7))
    (hR : ∀ bp w', AlbumAt w' bp 0 0 (.slice none 0 0) none [] (some ⟨bd, 0, none⟩) false → DiskAt w' bd M O → bp ∉ O → Fr No w w' → w.heap.size ≤ bp → R (.returned (.tuple #[.pointer (some ⟨bp, 0, none⟩), .int .i64 0])) w') :
    Calls Tryd.prog 15 #[.pointer (some ⟨bd, 0, none⟩)] w R := by
  have HR := Lib.hid hR
  have HD := Lib.hid h
  have HRD := Lib.hid hr
  clear hR h hr
  go_enter Tryd.func15, Tryd.ntmps15
  go_wp2_with (go_at_call 42; refine disk_read HD.out nShot ?_; intro vr g b c w1 h1 h2 h3 h4x h5x; rw [HRD.out] at h1; cases h1; obtain rfl := h5x (by decide); clear h4x h5x; have H1 := Lib.hid h3; clear h2 h3)
  have hF : Fr No w (w1.alloc (.cells #[.int .u64 0, .int .u64 0, .slice none 0 0, .pointer (some ⟨bd, 0, none⟩), .bool false] 42)) := H1.out.trans (Fr.alloc _ _ _)
  exact HR.out _ _ ⟨heap_new w1 _, By.nil _, fun k e => by cases e⟩ (HD.out.fr hF fun _ _ x => x) (fun e => by have := HD.out.lt _ e; have := H1.out.size; omega) hF H1.out.size
/-- An album that is not there, or that no call made. -/
def NoAlbum (w : World) (p : Option Addr) : Prop := p = none ∨ ∃ b, p = some ⟨b, 0, none⟩ ∧ w.heap[b]? = some (.cells #[.int .u64 0, .int .u64 0, .slice none 0 0, .pointer none, .bool false] 42 (0, 0))
theorem NoAlbum.fr {w w' : World} {p : Option Addr} (h : NoAlbum w p) (hF : Fr No w w') : NoAlbum w' p := by
  rcases h with h | ⟨b, h1, h2⟩
  · exact .inl h
  · exact .inr ⟨b, h1, hF.at h2 fun x => x⟩
set_option maxRecDepth 100000 in
set_option maxHeartbeats 4000000 in
theorem shot_any {R : Ending → World → Prop} {w : World} {ba i t : Nat} {v : Value} {g : Option Nat} {bs : List UInt8} {pd : Option Addr} {lost : Bool} (h : AlbumAt w ba i t v g bs pd lost) (hmax : bs.length ≤ 1000000)
    (hR : ∀ v' g' w', By w' v' g' bs → Fr No w w' → New w g' → R (.returned (.agg #[.int .u64 i, .int .u64 t, v'])) w') :
    Calls Tryd.prog 16 #[.pointer (some ⟨ba, 0, none⟩)] w R := by
  have HR := Lib.hid hR
  obtain ⟨p, c, rfl, _⟩ := Sl.form h.b
  obtain ⟨wa, hwa⟩ : ∃ wa, w.alloc (.cells #[.int .u64 0, .int .u64 0, .slice none 0 0] 40) = wa := ⟨_, rfl⟩
  have hF : Fr No w wa := by rw [← hwa]; exact Fr.alloc _ _ _
  have hb0 : wa.heap[w.heap.size]? = some (.cells #[.int .u64 0, .int .u64 0, .slice none 0 0] 40 (0, 0)) := by rw [← hwa]; exact heap_new w _
  have hsz : wa.heap.size = w.heap.size + 1 := by rw [← hwa]; simp
  have c0 : wa.cell? ⟨ba, 0, none⟩ = some (.int .u64 (i : Nat)) := hF.cell (cell_at h.a 0 rfl) fun x => x
  have c1 : wa.cell? ⟨ba, 1, none⟩ = some (.int .u64 (t : Nat)) := hF.cell (cell_at h.a 1 rfl) fun x => x
  have c2 : wa.cell? ⟨ba, 2, none⟩ = some (.slice p bs.length c) := hF.cell (cell_at h.a 2 rfl) fun x => x
  have HB := Lib.hid (h.b.fr hF fun _ _ x => x)
  have HWA := Lib.hid hwa
  have HF := Lib.hid hF
  have H0 := Lib.hid hb0
  have HSZ := Lib.hid hsz
  clear hR h hwa hF hb0 hsz
  go_enter Tryd.func16, Tryd.ntmps16
  go_upto_if 4 with fail
  rw [HWA.out]
  go_wp2_with (go_at_call 48; refine own_any _ _ _ g bs _ HB.out.src hmax ?_; intro v' g' w' h1 h2 h3; obtain ⟨p2, c2', rfl, _⟩ := Sl.form h1; have L1 := Lib.hid h1; have L2 := Lib.hid h2; have L3 := Lib.hid h3; have e1 := Lib.hid (h2.at H0.out fun x => x); have z0 := cell_at e1.out 0 rfl; have z1 := cell_at e1.out 1 rfl; have z2 := cell_at e1.out 2 rfl; have u0 := free_at e1.out 0; have u1 := free_at e1.out 1; have u2 := free_at e1.out 2; clear h1 h2 h3)
  have hb5 : (((w'.setCell ⟨w.heap.size, 0, none⟩ (.int .u64 (i : Nat))).setCell ⟨w.heap.size, 1, none⟩ (.int .u64 (t : Nat))).setCell ⟨w.heap.size, 2, none⟩ (.slice p2 bs.length c2')).heap[w.heap.size]? = some (.cells #[.int .u64 (i : Nat), .int .u64 (t : Nat), .slice p2 bs.length c2'] 40 (0, 0)) := setCell_box (k := 2) (setCell_box (k := 1) (setCell_box (k := 0) e1.out _) _) _
  have hF5 : Fr (Is (some w.heap.size)) w' (((w'.setCell ⟨w.heap.size, 0, none⟩ (.int .u64 (i : Nat))).setCell ⟨w.heap.size, 1, none⟩ (.int .u64 (t : Nat))).setCell ⟨w.heap.size, 2, none⟩ (.slice p2 bs.length c2')) := ((Fr.set _ _ _ _).trans (Fr.set _ _ _ _)).trans (Fr.set _ _ _ _)
  refine bodyPost_ret (results_cell_row rfl _ _ w.heap.size 40 _ (0, 0) _ rfl hb5 Tryd.underlying40 rfl (by kernel_rfl)) rfl ?_
  refine HR.out _ g' _ (By.fr L1.out hF5 fun k hk he => ?_) ((HF.out.trans L2.out).step hF5 fun k hk hp => ?_) fun k hk => ?_
  · have : w.heap.size = k := Option.some.inj he
    have := L3.out k hk
    have := HSZ.out
    omega
  · have : w.heap.size = k := Option.some.inj hp
    omega
  · have := L3.out k hk
    have := HSZ.out
    omega
end Go.Proofs.YthjpjekaiflibaaDoor
