/- A file is read on both disks; what is read shares nothing. (Printed by wip/gen/does17.py.) -/
import Derived.Test.YthjpjekaiflibaaDoes2
namespace Go.Proofs.Ythjpjekaiflibaa
open Go.RowKit
theorem PD.oth {S : Nat → Prop} {w0 w w' : World} {bd br : Nat} {M : DM} {R : RM} {O P : List Nat} (h : PD w0 w bd br M R O P) (hF : Fr S w w') (hO : ∀ k ∈ O, ¬ S k) (hP : ∀ k ∈ P, ¬ S k) (h0 : ∀ k, k < w0.heap.size → ¬ S k) : PD w0 w' bd br M R O P :=
  ⟨h.d.fr hF hO, h.r.fr hF hP, h.dis, h.f.step hF fun k hk hs => absurd hs (h0 k hk), h.o, h.p⟩
theorem BoxD.oth {S : Nat → Prop} {w w' : World} {bx : Nat} {A : ActD} {v2 v4 t : Value} {gt : Option Nat} {O P : List Nat} (h : BoxD w bx A v2 v4 t gt O P) (hF : Fr S w w') (hb : ¬ S bx) (hg : ∀ k, gt = some k → ¬ S k) : BoxD w' bx A v2 v4 t gt O P :=
  ⟨hF.at h.x hb, h.xo, h.xp, h.t.fr hF hg, h.tn, h.tp⟩
/-- Blocks from n on. -/
def From (n : Nat) : Nat → Prop := fun k => n ≤ k
theorem PD.late {w0 w w1 w' : World} {bd br : Nat} {M : DM} {R : RM} {O P : List Nat} (h : PD w0 w bd br M R O P) (hF : Fr No w w1) (hL : Fr (From w.heap.size) w1 w') : PD w0 w' bd br M R O P :=
  (h.no hF).oth hL (fun k hk (e : w.heap.size ≤ k) => by have := h.d.lt k hk; omega) (fun k hk (e : w.heap.size ≤ k) => by have := h.r.lt k hk; omega) fun k hk (e : w.heap.size ≤ k) => by have := h.f.size; omega
theorem BoxD.late {w w1 w' : World} {bx : Nat} {A : ActD} {v2 v4 t : Value} {gt : Option Nat} {O P : List Nat} (h : BoxD w bx A v2 v4 t gt O P) (hF : Fr No w w1) (hL : Fr (From w.heap.size) w1 w') : BoxD w' bx A v2 v4 t gt O P :=
  (h.no hF).oth hL (fun (e : w.heap.size ≤ bx) => by have := block_lt h.x; omega) fun k hk (e : w.heap.size ≤ k) => by have := h.t.lt k hk; omega
set_option maxRecDepth 100000 in
set_option maxHeartbeats 40000000 in
theorem does_read {Q : Ending → World → Prop} {w0 w : World} {bd br : Nat} {M : DM} {R : RM} {O P : List Nat} (h : PD w0 w bd br M R O P) (ht : Twin M R) (A : ActD) (hk : A.kind % 8 = 7) (hkd : 0 ≤ A.kind ∧ A.kind < 256) (hn : -9223372036854775808 ≤ A.n ∧ A.n ≤ 9223372036854775807) (v2 v4 : Value) (g2 g4 : Option Nat) (hb : Bs w0 v2 g2 A.b) (hg2 : ∀ k, g2 = some k → k < w0.heap.size) (hl4 : Is64 w0 v4 g4 A.loss) (hg4 : ∀ k, g4 = some k → k < w0.heap.size) (hlr : ∀ z ∈ A.loss, -9223372036854775808 ≤ z ∧ z ≤ 9223372036854775807) (hmax : A.b.length ≤ 1048576)
    (hQ : DoesOwes w0 bd br Q) :
    Calls Try.prog 15 #[.pointer (some ⟨bd, 0, none⟩), .pointer (some ⟨br, 0, none⟩), .agg #[.int .u8 A.kind, .string A.name, v2, .int .i64 A.n, v4]] w Q := by
  have HQ := Lib.hid hQ
  have HT := Lib.hid ht
  have HB := Lib.hid hb
  have HG2 := Lib.hid hg2
  have HL4 := Lib.hid hl4
  have HG4 := Lib.hid hg4
  have HLR := Lib.hid hlr
  have HNN := Lib.hid hn
  obtain ⟨p2, q2, rfl, _⟩ := Src.form hb
  obtain ⟨p4, q4, rfl, _⟩ := Src.form hl4
  obtain ⟨wa, hwa⟩ : ∃ wa, w.alloc (.cells #[.int .u8 A.kind, .string A.name, .slice p2 A.b.length q2, .int .i64 A.n, .slice p4 A.loss.length q4] 43) = wa := ⟨_, rfl⟩
  have hFa : Fr No w wa := by rw [← hwa]; exact Fr.alloc _ _ _
  have hbx : wa.heap[w.heap.size]? = some (.cells #[.int .u8 A.kind, .string A.name, .slice p2 A.b.length q2, .int .i64 A.n, .slice p4 A.loss.length q4] 43 (0, 0)) := by rw [← hwa]; exact heap_new w _
  have hno : w.heap.size ∉ O := fun hj => by have := h.d.lt _ hj; omega
  have hnp : w.heap.size ∉ P := fun hj => by have := h.r.lt _ hj; omega
  have HPD := Lib.hid (h.no hFa)
  have HBX := Lib.hid hbx
  have HNO := Lib.hid hno
  have HNP := Lib.hid hnp
  have HWA := Lib.hid hwa
  have HW0 := Lib.hid h.f.size
  have kd0 := hkd.1
  have x2 := cell_at hbx 2 rfl
  obtain ⟨bs, ce, hrd⟩ : ∃ bs ce, M.read A.name = (bs, ce) := ⟨_, _, rfl⟩
  have HRD := Lib.hid hrd
  have HRD2 := Lib.hid ((twin_read ht A.name).symm.trans hrd)
  clear hrd
  clear h hQ ht hb hg2 hl4 hwa hFa hbx hno hnp hkd hg4 hlr hn
  go_enter Try.func15, Try.ntmps15
  go_upto_region 1 with fail
  rw [HWA.out]
  go_upto_region 3 with (go_at_call 28; refine twinB_any _ g2 A.b _ (HPD.out.came HB.out HG2.out).1 (by omega) ?_; intro vt gt w1 h1 h2 h3; have K1 := Lib.hid h1; have K2 := Lib.hid h2; have K3 := Lib.hid h3; obtain ⟨bt, ot, ct, rfl, _⟩ := h1; clear h2 h3)
  have hPD1 := HPD.out.no K2.out
  have hBox : BoxD w1 w.heap.size A (.slice p2 A.b.length q2) (.slice p4 A.loss.length q4) (.slice (some ⟨bt, ot, none⟩) A.b.length ct) gt O P :=
    ⟨K2.out.at HBX.out fun x => x, HNO.out, HNP.out, K1.out, fun k hk ho => by have := K3.out k hk; have := HPD.out.d.lt k ho; omega, fun k hk ho => by have := K3.out k hk; have := HPD.out.r.lt k ho; omega⟩
  have y0 := cell_at hBox.x 0 rfl
  have y1 := cell_at hBox.x 1 rfl
  have y2 := cell_at hBox.x 2 rfl
  have y3 := cell_at hBox.x 3 rfl
  have y4 := cell_at hBox.x 4 rfl
  have HPD1 := Lib.hid hPD1
  have HBOX := Lib.hid hBox
  have HBW := Lib.hid (show w0.heap.size ≤ w.heap.size from HW0.out)
  clear hPD1 hBox K1 K2 K3 HBX HPD x2
  generalize w.heap.size = bx at *
  go_upto_region 5 with (go_at_call 11; refine disk_read HPD1.out.d A.name ?_; intro va ga b1 c1 w2 h1 h2 h3 h4 _; rw [HRD.out] at h1; cases h1; obtain ⟨pa, ca, rfl, _⟩ := Sl.form h2; have A1 := Lib.hid h2; have A2 := Lib.hid h3; have A3 := Lib.hid h4; have s1 := h3.cell y1 (fun x => x); clear h2 h3 h4)
  go_upto_region 6 with (go_at_call 35; refine ref_read (HPD1.out.no A2.out).r A.name ?_; intro vb gb b1 c1 w3 h1 h2 h3 h4; rw [HRD2.out] at h1; cases h1; obtain ⟨pb, cb, rfl, _⟩ := Sl.form h2; have B1 := Lib.hid h2; have B2 := Lib.hid h3; have t1 := h3.cell s1 (fun x => x); clear h2 h3 h4)
  go_upto_region 7 with fail
  have hbk := heap_new w3 (.cells #[.slice none 0 0] 64)
  have F4 := Lib.hid ((A2.out.trans B2.out).trans (Fr.alloc No w3 (.cells #[.slice none 0 0] 64)))
  have A4 := Lib.hid ((A1.out.fr B2.out fun _ _ x => x).fr (Fr.alloc No w3 (.cells #[.slice none 0 0] 64)) fun _ _ x => x)
  have B4 := Lib.hid (B1.out.fr (Fr.alloc No w3 (.cells #[.slice none 0 0] 64)) fun _ _ x => x)
  have q1 := (Fr.alloc No w3 (.cells #[.slice none 0 0] 64)).cell t1 fun x => x
  have z3 : w1.heap.size ≤ w3.heap.size := by have := A2.out.size; have := B2.out.size; omega
  have la : ∀ k, ga = some k → k < w3.heap.size := fun k hk => by have := A1.out.lt k hk; have := B2.out.size; omega
  have lb : ∀ k, gb = some k → k < w3.heap.size := fun k hk => B1.out.lt k hk
  have z4 : (w3.alloc (.cells #[.slice none 0 0] 64)).heap.size = w3.heap.size + 1 := by simp
  have HLA := Lib.hid la
  have HLB := Lib.hid lb
  have Z3 := Lib.hid z3
  have Z4 := Lib.hid z4
  have HBK := Lib.hid (show BookAt _ w3.heap.size [] none from ⟨_, hbk, Sl.nil _ _ _, by simp⟩)
  clear hbk z3 z4 la lb s1 t1 A1 B1 A2 B2
  generalize w3.alloc (.cells #[.slice none 0 0] 64) = w4 at *
  generalize w3.heap.size = bk at *
  go_upto_region 8 with (go_at_call 36; refine bookB_any bk [] none pa bs.length ca w4 HBK.out (by simp) ?_; intro w5 gp1 h1 h2 h3; have K1 := Lib.hid (show BookAt w5 bk [pageV (.slice pa bs.length ca) 1 129] gp1 from h1); have K2 := Lib.hid h2; have K3 := Lib.hid h3; clear h1 h2 h3)
  have hL5 : Fr (From w1.heap.size) w4 w5 := K2.out.mono fun i _ hi => by rcases hi with e | e; (show w1.heap.size ≤ i; have := Z3.out; omega); cases e
  have HL5 := Lib.hid hL5
  have hn5 : ∀ k, k ≠ bk → ¬ (k = bk ∨ (none : Option Nat) = some k) := fun k h1 h2 => by rcases h2 with e | e; exact h1 e; cases e
  have A5 := Lib.hid (A4.out.fr K2.out fun k hk => hn5 k (by have := HLA.out k hk; omega))
  have B5 := Lib.hid (B4.out.fr K2.out fun k hk => hn5 k (by have := HLB.out k hk; omega))
  have P5 := Lib.hid (HPD1.out.late F4.out hL5)
  have X5 := Lib.hid (HBOX.out.late F4.out hL5)
  have hg1 : ∀ k, gp1 = some k → w4.heap.size ≤ k := fun k hk => by rcases K3.out with e | e; (rw [e] at hk; cases hk); exact e k hk
  have HG1 := Lib.hid hg1
  have r1 := cell_at X5.out.x 1 rfl
  clear hL5 hn5 hg1 q1
  go_upto_region 9 with (go_at_call 11; refine disk_read P5.out.d A.name ?_; intro vc gc b1 c1 w6 h1 h2 h3 h4 _; rw [HRD.out] at h1; cases h1; obtain ⟨pc, cc, rfl, _⟩ := Sl.form h2; have C1 := Lib.hid h2; have C2 := Lib.hid h3; have C3 := Lib.hid h4; clear h2 h3 h4)
  go_upto_region 10 with (go_at_call 36; refine bookB_any bk [pageV (.slice pa bs.length ca) 1 129] gp1 pc bs.length cc w6 (K1.out.fr C2.out (fun x => x) fun _ _ x => x) (by simp) ?_; intro w7 gp2 h1 h2 h3; have D1 := Lib.hid (show BookAt w7 bk [pageV (.slice pa bs.length ca) 1 129, pageV (.slice pc bs.length cc) 2 130] gp2 from h1); have D2 := Lib.hid h2; have D3 := Lib.hid h3; clear h1 h2 h3)
  have hz5 : w4.heap.size ≤ w5.heap.size := K2.out.size
  have hz6 : w5.heap.size ≤ w6.heap.size := C2.out.size
  have hlg1 : ∀ k, gp1 = some k → k < w5.heap.size := fun k hk => by obtain ⟨vp, _, hs, _⟩ := K1.out; exact hs.lt k hk
  have hbk5 : bk < w4.heap.size := by have := Z4.out; omega
  have hL7 : Fr (From w1.heap.size) w6 w7 := D2.out.mono fun i _ hi => by rcases hi with e | e; (show w1.heap.size ≤ i; have := Z3.out; omega); (show w1.heap.size ≤ i; have := HG1.out i e; have := Z3.out; omega)
  have A7 := Lib.hid ((A5.out.fr C2.out fun _ _ x => x).fr D2.out fun k hk hs => by have h9 := HLA.out k hk; rcases hs with e | e; (omega); (have := HG1.out k e; omega))
  have B7 := Lib.hid ((B5.out.fr C2.out fun _ _ x => x).fr D2.out fun k hk hs => by have h9 := HLB.out k hk; rcases hs with e | e; (omega); (have := HG1.out k e; omega))
  have C7 := Lib.hid (C1.out.fr D2.out fun k hk hs => by have h9 := C3.out k hk; rcases hs with e | e; (omega); (have := hlg1 k e; omega))
  have HLT := Lib.hid (show Fr (From w1.heap.size) w4 w7 from (HL5.out.trans C2.out.of_no).trans hL7)
  have HGA := Lib.hid (show ∀ k, ga = some k → w1.heap.size ≤ k from fun k hk => A3.out k hk)
  have HGC := Lib.hid (show ∀ k, gc = some k → w5.heap.size ≤ k ∧ k < w6.heap.size from fun k hk => ⟨C3.out k hk, C1.out.lt k hk⟩)
  have HGP2 := Lib.hid (show ∀ k, gp2 = some k → (w4.heap.size ≤ k ∧ k < w5.heap.size) ∨ w6.heap.size ≤ k from fun k hk => by rcases D3.out with e | e; (rw [e] at hk; exact .inl ⟨HG1.out k hk, hlg1 k hk⟩); exact .inr (e k hk))
  have HZ5 := Lib.hid (show w4.heap.size ≤ w5.heap.size ∧ w5.heap.size ≤ w6.heap.size from ⟨hz5, hz6⟩)
  have HBK5 := Lib.hid hbk5
  clear hz5 hz6 hlg1 hbk5 hL7 K1 K2 K3 C1 C2 C3 D2 D3 A5 B5 A4 B4 HL5
  go_upto_region 27 with (first
    | (go_at_call 38; refine apart_any bk gp2 _ _ ga gc bs.length bs.length _ (D1.out.fr E8.out (fun x => x) fun _ _ x => x) ((By.row A7.out 1 129).fr E8.out fun _ _ x => x) ((By.row C7.out 2 130).fr E8.out fun _ _ x => x) (fun k h1 h2 => by have := HLA.out k h1; have := HGC.out k h2; have := HZ5.out; have := HBK5.out; omega) (fun k h1 => ⟨by have := HLA.out k h1; omega, fun h2 => by have := HLA.out k h1; have := HGP2.out k h2; have := HZ5.out; have := HBK5.out; omega⟩) (fun k h1 => ⟨by have := HGC.out k h1; have := HZ5.out; have := HBK5.out; omega, fun h2 => by have := HGC.out k h1; have := HGP2.out k h2; omega⟩) ?_; intro w9 h1; have E9 := Lib.hid h1; clear h1)
    | (go_at_call 37; refine sameB_any _ _ ga gb bs bs _ A7.out.src B7.out.src ?_; intro w8 h1; rw [decide_eq_true rfl]; have E8 := Lib.hid h1; clear h1))
  have hL9 : Fr (From w1.heap.size) w4 w9 := (HLT.out.trans E8.out.of_no).trans (E9.out.mono fun i _ hi => by rcases hi with e | e; (exact HGA.out i e); (show w1.heap.size ≤ i; have := HGC.out i e; have := HZ5.out; have := HBK5.out; have := Z3.out; omega))
  have P9 := Lib.hid (HPD1.out.late F4.out hL9)
  have X9 := Lib.hid (HBOX.out.late F4.out hL9)
  have r2 := cell_at X9.out.x 2 rfl
  clear hL9
  go_wp2_with (go_at_call 39; refine leftB_any _ _ gt g2 A.b _ X9.out.t (P9.out.came HB.out HG2.out).1 ?_; intro w10 h1; have F5 := Lib.hid h1; clear h1)
  exact HQ.out _ _ _ _ _ (P9.out.no F5.out) HT.out
end Go.Proofs.Ythjpjekaiflibaa
