/- A shot is set, and kept. -/
import Derived.Test.YthjpjekaiflibaaDoorSset
namespace Go.Proofs.YthjpjekaiflibaaDoor
open Go.RowKit
set_option maxRecDepth 100000 in
set_option maxHeartbeats 4000000 in
theorem sset_put {R : Ending → World → Prop} {w : World} {ba i t : Nat} {v : Value} {g : Option Nat} {bs : List UInt8} {bd : Nat} {M : DM} {O : List Nat} (h : AlbumAt w ba i t v g bs (some ⟨bd, 0, none⟩) false) (hd : DiskAt w bd M O) (hno : ba ∉ O) (hgO : ∀ k, g = some k → k ∉ O) (hT : Tab w) (h0 : 0 < w.heap.size) (i' t' : Nat) (hi : i < i') (ht : t ≤ t') (hi6 : i' < 18446744073709551616) (ht6 : t' < 18446744073709551616)
    (a : Option Addr) (c : Nat) (ga : Option Nat) (data : List UInt8) (hb : Bs w (.slice a data.length c) ga data) (hga : ∀ k, ga = some k → k < w.heap.size) (hgaO : ∀ k, ga = some k → k ∉ O) (hlen : data.length ≤ 65536) {cc : Int} {M' : DM} (hput : M.put nShot (fileD i' t' data) = (cc, M'))
    (hR : ∀ w' O' v' g', (if cc = 0 then AlbumAt w' ba i' t' v' g' data (some ⟨bd, 0, none⟩) false else AlbumAt w' ba i t v g bs (some ⟨bd, 0, none⟩) true) → DiskAt w' bd M' O' → Fr (fun k => k = ba ∨ k ∈ O) w w' → (∀ k ∈ O', k ∈ O ∨ w.heap.size ≤ k) → (∀ k, g' = some k → w.heap.size ≤ k ∧ k ∉ O') → R (.returned (.int .i64 (if cc = 0 then 0 else 17))) w') :
    Calls Tryd.prog 17 #[.pointer (some ⟨ba, 0, none⟩), .agg #[.int .u64 i', .int .u64 t', .slice a data.length c]] w R := by
  have HR := Lib.hid hR
  have HPUT := Lib.hid hput
  obtain ⟨wa, hwa⟩ : ∃ wa, w.alloc (.cells #[.int .u64 i', .int .u64 t', .slice a data.length c] 40) = wa := ⟨_, rfl⟩
  have hF : Fr No w wa := by rw [← hwa]; exact Fr.alloc _ _ _
  have hb0 : wa.heap[w.heap.size]? = some (.cells #[.int .u64 i', .int .u64 t', .slice a data.length c] 40 (0, 0)) := by rw [← hwa]; exact heap_new w _
  have c0 : wa.cell? ⟨ba, 0, none⟩ = some (.int .u64 (i : Nat)) := hF.cell (cell_at h.a 0 rfl) fun x => x
  have c1 : wa.cell? ⟨ba, 1, none⟩ = some (.int .u64 (t : Nat)) := hF.cell (cell_at h.a 1 rfl) fun x => x
  have c3 : wa.cell? ⟨ba, 3, none⟩ = some (.pointer (some ⟨bd, 0, none⟩)) := hF.cell (cell_at h.a 3 rfl) fun x => x
  have c4 : wa.cell? ⟨ba, 4, none⟩ = some (.bool false) := hF.cell (cell_at h.a 4 rfl) fun x => x
  have q0 : wa.cell? ⟨w.heap.size, 0, none⟩ = some (.int .u64 (i' : Nat)) := cell_at hb0 0 rfl
  have q1 : wa.cell? ⟨w.heap.size, 1, none⟩ = some (.int .u64 (t' : Nat)) := cell_at hb0 1 rfl
  have q2 : wa.cell? ⟨w.heap.size, 2, none⟩ = some (.slice a data.length c) := cell_at hb0 2 rfl
  have HA := Lib.hid (h.fr hF (fun x => x) fun _ _ x => x)
  have HD := Lib.hid (hd.fr hF fun _ _ x => x)
  have HT := Lib.hid (hT.fr hF fun x => x)
  have HB := Lib.hid (hb.fr hF fun _ _ x => x)
  have H0 := Lib.hid hb0
  have HWA := Lib.hid hwa
  have HF := Lib.hid hF
  have HNO := Lib.hid hno
  have HGO := Lib.hid hgO
  have HGA := Lib.hid hga
  have HGAO := Lib.hid hgaO
  have HDL := Lib.hid hd.lt
  have HGL := Lib.hid (fun k hk => Sl.lt h.b k hk)
  have HGN := Lib.hid h.n
  have HBA := Lib.hid (block_lt h.a)
  have ji : ¬ (i' : Int) ≤ (i : Int) := by omega
  have jt : ¬ (t' : Int) < (t : Int) := by omega
  have jl : (data.length : Int) ≤ 65536 := by omega
  clear hR h hwa hF hb0 hd hT hb hno hgO hga hgaO hput
  go_enter Tryd.func17, Tryd.ntmps17
  go_upto_region 1 with fail
  rw [HWA.out]
  go_wp2
  go_quiet (fail)
  go_upto_region 9 with fail
  have hFb : Fr No wa (wa.drewN nq) := Fr.drewN _ _ _
  have b3 := hFb.cell c3 fun x => x
  have p0 := hFb.cell q0 fun x => x
  have p1 := hFb.cell q1 fun x => x
  have p2 := hFb.cell q2 fun x => x
  have HA2 := Lib.hid (HA.out.fr hFb (fun x => x) fun _ _ x => x)
  have HD2 := Lib.hid (HD.out.fr hFb fun _ _ x => x)
  have HT2 := Lib.hid (HT.out.fr hFb fun x => x)
  have HB2 := Lib.hid (HB.out.fr hFb fun _ _ x => x)
  have HF2 := Lib.hid (HF.out.trans hFb)
  have H2 := Lib.hid (hFb.at H0.out fun x => x)
  clear hFb c0 c1 c3 c4 q0 q1 q2 HA HD HT HB HF H0
  generalize wa.drewN nq = wb at *
  go_region_with (first
    | (go_at_call 38; refine disk_put (HD2.out.fr G2.out fun _ _ x => x) nShot _ g3 _ G1.out.src (fun k hk hO => by have k1 := G3.out k hk; have k2 := HD2.out.lt k hO; simp at k1; omega) ?_; intro cc2 w4 M2 O4 h1 h2 h3; rw [HPUT.out] at h1; cases h1; have D2 := Lib.hid h2; have D3 := Lib.hid h3; clear h2 h3)
    | (go_at_call 49; refine file_any i' t' _ ga data _ (HB2.out.fr (Fr.drew No wb) fun _ _ x => x) (fun k hk => by have k1 := HGA.out k hk; have k2 := HF2.out.size; simp; omega) (HT2.out.fr (Fr.drew No wb) fun x => x) (by have k2 := HF2.out.size; simp; omega) hi6 ht6 hlen ?_; intro v3 g3 w3 h1 h2 h3; obtain ⟨p3, c3, rfl, _⟩ := Sl.form h1; have G1 := Lib.hid h1; have G2 := Lib.hid ((Fr.drew No wb).trans h2); have G3 := Lib.hid h3; have b3 := G2.out.cell b3 fun x => x; clear h1 h2 h3))
  all_goals
    have s1 := HF2.out.size
    have s2 := G2.out.size
    have s3 := D3.out.1.size
    have hA4 := (HA2.out.fr (S := No) G2.out (fun x => x) fun _ _ x => x).fr D3.out.1 HNO.out HGO.out
  all_goals
    have hx4 := D3.out.1.at (G2.out.at H2.out fun x => x) (fun hO => by have := HDL.out _ hO; omega)
    have HB4 := Lib.hid ((HB2.out.fr G2.out fun _ _ x => x).fr D3.out.1 HGAO.out)
    have HA4 := Lib.hid hA4
    have y0 : w4.cell? ⟨w.heap.size, 0, none⟩ = some (.int .u64 (i' : Nat)) := cell_at hx4 0 rfl
    have y1 : w4.cell? ⟨w.heap.size, 1, none⟩ = some (.int .u64 (t' : Nat)) := cell_at hx4 1 rfl
    have y2 : w4.cell? ⟨w.heap.size, 2, none⟩ = some (.slice a data.length c) := cell_at hx4 2 rfl
    have f4 := cell_at hA4.a 4 rfl
    have g4 := free_at hA4.a 4
    clear hx4 hA4
  all_goals by_cases hc : cc = 0
  all_goals first
    | (subst hc
       go_wp2_with (go_at_call 48; refine own_any _ _ _ ga data _ HB4.out (by omega) ?_; intro v5 g5 w5 h1 h2 h3; obtain ⟨p5, c5, rfl, _⟩ := Sl.form h1; have K1 := Lib.hid h1; have K2 := Lib.hid h2; have K3 := Lib.hid h3; have HA5 := Lib.hid (HA4.out.fr h2 (fun x => x) fun _ _ x => x); have l0 := cell_at HA5.out.a 0 rfl; have l1 := cell_at HA5.out.a 1 rfl; have l2 := cell_at HA5.out.a 2 rfl; have m0 := free_at HA5.out.a 0; have m1 := free_at HA5.out.a 1; have m2 := free_at HA5.out.a 2; clear h1 h2 h3)
       have hR0 := HR.out
       simp only [↓reduceIte] at hR0
       have hF5 : Fr (Is (some ba)) w5 (((w5.setCell ⟨ba, 0, none⟩ (.int .u64 (i' : Nat))).setCell ⟨ba, 1, none⟩ (.int .u64 (t' : Nat))).setCell ⟨ba, 2, none⟩ (.slice p5 data.length c5)) := ((Fr.set _ _ _ _).trans (Fr.set _ _ _ _)).trans (Fr.set _ _ _ _)
       have hb5 := setCell_box (k := 2) (setCell_box (k := 1) (setCell_box (k := 0) HA5.out.a (.int .u64 (i' : Nat))) (.int .u64 (t' : Nat))) (.slice p5 data.length c5)
       have hsz : w.heap.size ≤ w4.heap.size := by omega
       have hg5 : ∀ k, g5 = some k → w.heap.size ≤ k ∧ k ∉ O4 := fun k hk => by
         have k1 := K3.out k hk
         refine ⟨by omega, fun hO => ?_⟩
         have := D2.out.lt k hO
         omega
       have hbO : ba ∉ O4 := fun hO => by
         rcases D3.out.2 ba hO with hh | hh
         · exact HNO.out hh
         · have := HBA.out; omega
       have hA : Fr (fun k => k = ba ∨ k ∈ O) w w3 := (HF2.out.trans G2.out).of_no
       refine hR0 _ O4 _ g5 ⟨hb5, K1.out.fr hF5 fun k hk e => ?_, fun k hk e => ?_⟩ ((D2.out.fr (S := No) K2.out fun _ _ x => x).fr hF5 fun k hk e => ?_) (((hA.trans (D3.out.1.mono fun _ _ hi => .inr hi)).trans K2.out.of_no).trans (hF5.mono fun _ _ hi => .inl (Option.some.inj hi).symm)) (fun k hk => ?_) hg5
       · have e1 : ba = k := Option.some.inj e
         have := (hg5 k hk).1
         have := HBA.out
         omega
       · have := (hg5 k hk).1
         have := HBA.out
         omega
       · have e1 : ba = k := Option.some.inj e
         subst e1
         exact hbO hk
       · rcases D3.out.2 k hk with hh | hh
         · exact .inl hh
         · exact .inr (by omega))
    | (have hcc : ¬ cc = 0 := hc
       go_wp2
       have hR0 := HR.out
       simp only [hcc, ↓reduceIte] at hR0
       have hF5 : Fr (Is (some ba)) w4 (w4.setCell ⟨ba, 4, none⟩ (.bool true)) := Fr.set _ _ _ _
       have hb5 := setCell_box (k := 4) HA4.out.a (.bool true)
       have hsz : w.heap.size ≤ w4.heap.size := by omega
       have hbO : ba ∉ O4 := fun hO => by
         rcases D3.out.2 ba hO with hh | hh
         · exact HNO.out hh
         · have := HBA.out; omega
       have hA : Fr (fun k => k = ba ∨ k ∈ O) w w3 := (HF2.out.trans G2.out).of_no
       refine hR0 _ O4 (.slice none 0 0) none ⟨hb5, HA4.out.b.fr hF5 fun k hk e => HGN.out k hk (Option.some.inj e).symm, HGN.out⟩ (D2.out.fr hF5 fun k hk e => ?_) ((hA.trans (D3.out.1.mono fun _ _ hi => .inr hi)).trans (hF5.mono fun _ _ hi => .inl (Option.some.inj hi).symm)) (fun k hk => ?_) (fun k hk => by cases hk)
       · have e1 : ba = k := Option.some.inj e
         subst e1
         exact hbO hk
       · rcases D3.out.2 k hk with hh | hh
         · exact .inl hh
         · exact .inr (by omega))
end Go.Proofs.YthjpjekaiflibaaDoor
