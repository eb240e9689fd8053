/- The chapter's example on shots. -/
import Derived.Test.YthjpjekaiflibaaDoorSput
import Derived.Test.YthjpjekaiflibaaDoorVoid21
namespace Go.Proofs.YthjpjekaiflibaaDoor
open Go.RowKit
theorem asked_shot : askedE false nShot = 0 := by kernel_rfl
theorem read_new_shot : (DM.mk [] (-1) false).read nShot = ([], 7) := by kernel_rfl
theorem put_new_shot (b : List UInt8) (hb : b.length ≤ 1048576) : ∃ M', (DM.mk [] (-1) false).put nShot b = (0, M') := by
  have hn : ¬ (1048576 : Int) < (b.length : Int) := by omega
  refine ⟨((DM.mk [] (-1) false).put nShot b).2, Prod.ext ?_ rfl⟩
  simp only [DM.put, DM.does, asked_shot, if_true, DM.find, List.find?_nil]
  simp [hn, burnt]
theorem fileD_len (i t : Nat) (data : List UInt8) (hi : i < 18446744073709551616) (ht : t < 18446744073709551616) (hl : data.length ≤ 65536) : (fileD i t data).length ≤ 1048576 := by
  have h := accD_len i t data hi ht (List.finRange (pieces data.length))
  have hp : pieces data.length ≤ 17 := by unfold pieces; omega
  rw [List.length_finRange] at h
  unfold fileD
  omega
/-- An album and its disk, both made since w0. -/
structure SS (w0 w : World) (ba i t : Nat) (v : Value) (g : Option Nat) (bs : List UInt8) (bd : Nat) (M : DM) (O : List Nat) : Prop where
  a : AlbumAt w ba i t v g bs (some ⟨bd, 0, none⟩) false
  d : DiskAt w bd M O
  n : ba ∉ O
  gn : ∀ k, g = some k → k ∉ O ∧ w0.heap.size ≤ k
  tab : Tab w
  f : Fr No w0 w
  g0 : w0.heap.size ≤ ba
  o : ∀ k ∈ O, w0.heap.size ≤ k
  z : 0 < w0.heap.size
theorem SS.no {w0 w w' : World} {ba i t : Nat} {v : Value} {g : Option Nat} {bs : List UInt8} {bd : Nat} {M : DM} {O : List Nat} (h : SS w0 w ba i t v g bs bd M O) (hF : Fr No w w') : SS w0 w' ba i t v g bs bd M O :=
  ⟨h.a.fr hF (fun x => x) fun _ _ x => x, h.d.fr hF fun _ _ x => x, h.n, h.gn, h.tab.fr hF fun x => x, h.f.trans hF, h.g0, h.o, h.z⟩
theorem ss_put {R : Ending → World → Prop} {w0 w : World} {ba i t : Nat} {v : Value} {g : Option Nat} {bs : List UInt8} {bd : Nat} {M : DM} {O : List Nat} (h : SS w0 w ba i t v g bs bd M O) (i' t' : Nat) (hi : i < i') (ht : t ≤ t') (hi6 : i' < 18446744073709551616) (ht6 : t' < 18446744073709551616)
    (a : Option Addr) (c : Nat) (ga : Option Nat) (data : List UInt8) (hb : Bs w (.slice a data.length c) ga data) (hga : ∀ k, ga = some k → k < w.heap.size) (hgaO : ∀ k, ga = some k → k ∉ O) (hlen : data.length ≤ 65536) {M' : DM} (hput : M.put nShot (fileD i' t' data) = (0, M'))
    (hR : ∀ w' O' v' g', SS w0 w' ba i' t' v' g' data bd M' O' → Fr (fun k => k = ba ∨ k ∈ O) w w' → R (.returned (.int .i64 0)) w') :
    Calls Tryd.prog 17 #[.pointer (some ⟨ba, 0, none⟩), .agg #[.int .u64 i', .int .u64 t', .slice a data.length c]] w R := by
  have hsz := h.f.size
  have hal := block_lt h.a.a
  refine sset_put h.a h.d h.n (fun k hk => (h.gn k hk).1) h.tab (by have := h.z; omega) i' t' hi ht hi6 ht6 a c ga data hb hga hgaO hlen hput fun w' O' v' g' h1 h2 h3 h4 h5 => ?_
  simp only [↓reduceIte] at h1 ⊢
  refine hR w' O' v' g' ⟨h1, h2, fun hO => ?_, fun k hk => ⟨(h5 k hk).2, by have := (h5 k hk).1; omega⟩, h.tab.fr h3 ?_, h.f.step h3 fun k hk hp => ?_, h.g0, fun k hk => ?_, h.z⟩ h3
  · rcases h4 ba hO with hh | hh
    · exact h.n hh
    · omega
  · rintro (hh | hh)
    · have := h.g0; have := h.z; omega
    · have := h.o 0 hh; have := h.z; omega
  · rcases hp with hh | hh
    · have := h.g0; omega
    · have := h.o k hh; omega
  · rcases h4 k hk with hh | hh
    · exact h.o k hh
    · omega
set_option maxRecDepth 100000 in
set_option maxHeartbeats 8000000 in
theorem lives21_any {R : Ending → World → Prop} (w : World) (ht : Tab w) (h0 : 0 < w.heap.size) (hR : ∀ w', Fr No w w' → R (.returned (.bool true)) w') :
    Calls Tryd.prog 18 #[] w R := by
  have HR := Lib.hid hR
  have HT := Lib.hid ht
  obtain ⟨Ma, hma⟩ := put_new_shot (fileD 5 2 [1]) (fileD_len 5 2 [1] (by decide) (by decide) (by decide))
  have HMA := Lib.hid hma
  clear hR ht hma
  go_enter Tryd.func18, Tryd.ntmps18
  go_wp2_with (go_at_call 19; refine disk_new _ ?_; intro bd O1 w1 hD hM _; have D1 := Lib.hid hD; have M1 := Lib.hid hM; clear hD hM)
  go_wp2_with (go_at_call 15; refine sopen_new D1.out read_new_shot ?_; intro bp w2 hP hD hbp hF hge; have S2 := Lib.hid (show SS w w2 bp 0 0 _ none [] bd _ O1 from ⟨hP, hD, hbp, (fun k e => by cases e), (HT.out.fr (M1.out.1.mono fun _ _ hi => absurd hi List.not_mem_nil : Fr No w w1) fun x => x).fr hF fun x => x, (M1.out.1.mono fun _ _ hi => absurd hi List.not_mem_nil : Fr No w w1).trans hF, by have := M1.out.1.size; omega, fun k hk => by rcases M1.out.2 k hk with h | h; cases h; exact h, h0⟩); clear hP hD hbp hF hge)
  go_wp2_with (go_at_call 16; refine shot_any S2.out.a (by simp) ?_; intro v3 g3 w3 h1 h2 h3; obtain ⟨p3, c3, rfl, _⟩ := Sl.form h1; have S3 := Lib.hid (S2.out.no h2); clear h1 h2 h3)
  have hbx := heap_new w3 (.cells #[.int .u64 0, .int .u64 0, .slice p3 0 c3] 40)
  have S4 := Lib.hid (S3.out.no (Fr.alloc No w3 (.cells #[.int .u64 0, .int .u64 0, .slice p3 0 c3] 40)))
  have hz4 : (w3.alloc (.cells #[.int .u64 0, .int .u64 0, .slice p3 0 c3] 40)).heap.size = w3.heap.size + 1 := by simp
  have hlt3 : ∀ k ∈ O1, k < w3.heap.size := S3.out.d.lt
  have hlb3 : bp < w3.heap.size := block_lt S3.out.a.a
  generalize hw4 : w3.alloc (.cells #[.int .u64 0, .int .u64 0, .slice p3 0 c3] 40) = w4 at *
  have HBX := Lib.hid hbx
  have HZ4 := Lib.hid hz4
  have HL3 := Lib.hid hlt3
  have HLB := Lib.hid hlb3
  clear hbx hz4 hw4 hlt3 hlb3 S3
  have hlit := By.lit w4 [1] (by decide)
  have HLIT := Lib.hid (show Bs (w4.alloc (.cells #[.int .u8 1] 5)) (.slice (some ⟨w3.heap.size + 1, 0, none⟩) 1 1) (some w4.heap.size) [1] from by have h9 := hlit.src; rw [HZ4.out] at h9; rw [HZ4.out]; exact h9)
  have S5 := Lib.hid (S4.out.no (Fr.alloc No w4 (.cells #[.int .u8 1] 5)))
  clear hlit
  go_upto_region 4 with (go_at_call 17; refine ss_put S5.out 5 2 (by decide) (by decide) (by decide) (by decide) _ 1 (some w4.heap.size) [1] HLIT.out (fun k hk => by cases hk; simp) (fun k hk hO => by cases hk; have h1 := HL3.out _ hO; have := HZ4.out; omega) (by decide) HMA.out ?_; intro w5 O5 v5 g5 h5 h6; have S6 := Lib.hid h5; have F6 := Lib.hid h6; clear h5 h6)
  have hbx6 := F6.out.at ((Fr.alloc No w4 (.cells #[.int .u8 1] 5)).at HBX.out fun x => x) (fun hk => by rcases hk with hk | hk; (have := HLB.out; omega); have := HL3.out _ hk; omega)
  have HB6 := Lib.hid hbx6
  clear hbx6 S4 S5 HLIT HBX F6
  go_upto_region 5 with (go_at_call 17; refine sset_arg S6.out.a 5 3 (by decide) none 0 0 ?_; intro w6 h6; have S7 := Lib.hid (S6.out.no h6); have HB7 := Lib.hid (h6.at HB6.out fun x => x); clear h6)
  clear S6 HB6
  go_upto_region 6 with (go_at_call 16; refine shot_any S7.out.a (by simp) ?_; intro v8 g8 w8 h1 h2 h3; obtain ⟨p8, c8, rfl, _⟩ := Sl.form h1; have S8 := Lib.hid (S7.out.no h2); have HB8 := Lib.hid (h2.at HB7.out fun x => x); have K8 := Lib.hid h1; clear h1 h2 h3)
  have hFz : Fr No w8 (w8.alloc (.cells #[.int .u64 5, .int .u64 2, .slice p8 1 c8] 40)) := Fr.alloc _ _ _
  have hb8 := heap_new w8 (.cells #[.int .u64 5, .int .u64 2, .slice p8 1 c8] 40)
  have hbz := hFz.at HB8.out fun x => x
  have cv := By.str (show By _ (.slice p8 1 c8) g8 [1] from K8.out.fr hFz fun _ _ x => x)
  have a0 := cell_at hb8 0 rfl
  have a1 := cell_at hb8 1 rfl
  have a2 := cell_at hb8 2 rfl
  have q0 := cell_at hbz 0 rfl
  have q1 := cell_at hbz 1 rfl
  have HE := Lib.hid (HR.out _ (S8.out.f.trans hFz))
  clear hFz hb8 hbz HB8 K8 S7 HB7
  generalize w8.alloc (.cells #[.int .u64 5, .int .u64 2, .slice p8 1 c8] 40) = wz at *
  go_wp2_with fail
  exact HE.out
end Go.Proofs.YthjpjekaiflibaaDoor
