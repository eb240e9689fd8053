/- A shot's file, walked. -/
import Derived.Test.YthjpjekaiflibaaDoorFile
import Derived.Deep.CutRange
import Derived.Deep.RegionHeld3
namespace Go.Proofs.YthjpjekaiflibaaDoor
open Go.RowKit Go.Shelf
attribute [local go_sem] Oper.semAt_some
/-- Behind the head: the file so far lies in block q. -/
def HeadAt (w wc : World) (s3 : Value) (acc : List UInt8) : Prop :=
  ∃ (q : Nat) (v : Value) (g : Option Nat), s3 = .pointer (some ⟨q, 0, none⟩) ∧ wc.heap[q]? = some (.cells #[v] 38 (0, 0)) ∧ By wc v g acc ∧ Fr No w wc ∧ w.heap.size ≤ q ∧ (∀ k, g = some k → w.heap.size ≤ k ∧ k ≠ q)
theorem head_set {w wc : World} {q : Nat} {v0 v : Value} {g : Option Nat} {acc : List UInt8} {B : Obj} (hq : wc.heap[q]? = some (.cells #[v0] 38 (0, 0))) (hF : Fr No w wc) (hge : w.heap.size < q) (hB : By wc v g acc) (hg : ∀ k, g = some k → w.heap.size ≤ k ∧ k ≠ q) (hb0 : wc.heap[w.heap.size]? = some B) :
    HeadAt w (wc.setCell ⟨q, 0, none⟩ v) (.pointer (some ⟨q, 0, none⟩)) acc ∧ (wc.setCell ⟨q, 0, none⟩ v).heap[w.heap.size]? = some B := by
  refine ⟨⟨q, v, g, rfl, setCell_box hq v, hB.fr (Fr.set wc q 0 v) fun k hk e => (hg k hk).2 (Option.some.inj e).symm, hF.step (Fr.set wc q 0 v) fun k hk e => ?_, by omega, hg⟩, (Fr.set wc q 0 v).at hb0 fun e => ?_⟩
  · have : q = k := Option.some.inj e
    omega
  · have : q = w.heap.size := Option.some.inj e
    omega
/-- Between two rounds. -/
structure FileI (w : World) (n q i t : Nat) (data : List UInt8) (p : Option Addr) (c : Nat) (g : Option Nat) (pre : List (Fin (pieces data.length))) (W : World) : Prop where
  ex : ∃ v gq, W.heap[q]? = some (.cells #[v] 38 (0, 0)) ∧ By W v gq (accD i t data pre) ∧ ∀ k, gq = some k → w.heap.size ≤ k ∧ k ≠ q
  src : Bs W (.slice p data.length c) g data
  tab : Tab W
  f : Fr No w W
  z : n ≤ W.heap.size
theorem fileI_own {w wl : World} {q i t : Nat} {data : List UInt8} {p : Option Addr} {c : Nat} {g : Option Nat} (h0 : 0 < w.heap.size) (hg : ∀ k, g = some k → k < w.heap.size) (hq : q < wl.heap.size) (hw : w.heap.size ≤ wl.heap.size) : OwnFrom wl.heap.size (FileI w wl.heap.size q i t data p c g) := by
  rintro pre A B row ⟨⟨v, gq, h1, h2, h3⟩, h4, h5, h6, h7⟩ hgr hr
  have hF : Fr (Is row) A B := Fr.grownBy hgr
  have hlow : ∀ k, k < wl.heap.size → ¬ Is row k := fun k hk e => by have := (hr k e).1; omega
  refine ⟨⟨v, gq, hF.at h1 (hlow q hq), h2.fr hF fun k hk e => ?_, h3⟩, h4.fr hF fun k hk => hlow k (by have := hg k hk; omega), h5.fr hF (hlow 0 (by omega)), h6.step hF fun k hk e => hlow k (by omega) e, Nat.le_trans h7 hF.size⟩
  obtain ⟨_, o, ho, hc⟩ := hr k e
  obtain ⟨_, hn | ⟨b, o2, cap, cur, _, e2, hb, _⟩⟩ := h2
  · rw [hn.2.1] at hk; cases hk
  · obtain rfl : k = b := by rw [hk] at e2; exact Option.some.inj e2
    rw [hb] at ho
    cases ho
    cases hc
theorem wp_then {P : Program} {c : Code} {K : Act → World → Prop} {Q : Exit → Act → World → Prop} {a : Act} {w : World} (h : c.wp P (Exit.then K (fun _ _ _ => False)) a w) : c.wp P (Exit.then K Q) a w :=
  wp_mono h fun e a w h => by
    cases e <;> first | exact h | exact False.elim h
set_option maxRecDepth 100000 in
set_option maxHeartbeats 4000000 in
theorem file_any {R : Ending → World → Prop} (i t : Nat) (v : Value) (g : Option Nat) (data : List UInt8) (w : World) (h : Bs w v g data) (hg : ∀ k, g = some k → k < w.heap.size) (hT : Tab w) (h0 : 0 < w.heap.size) (hi : i < 18446744073709551616) (ht : t < 18446744073709551616) (hlen : data.length ≤ 65536)
    (hR : ∀ v' g' w', By w' v' g' (fileD i t data) → Fr No w w' → New w g' → R (.returned v') w') :
    Calls Tryd.prog 49 #[.agg #[.int .u64 i, .int .u64 t, v]] w R := by
  have HR := Lib.hid hR
  obtain ⟨p, c, rfl, _⟩ := Src.form h
  obtain ⟨wa, hwa⟩ : ∃ wa, w.alloc (.cells #[.int .u64 i, .int .u64 t, .slice p data.length c] 40) = wa := ⟨_, rfl⟩
  have hF : Fr No w wa := by rw [← hwa]; exact Fr.alloc _ _ _
  have hb0 : wa.heap[w.heap.size]? = some (.cells #[.int .u64 i, .int .u64 t, .slice p data.length c] 40 (0, 0)) := by rw [← hwa]; exact heap_new w _
  have hsz : wa.heap.size = w.heap.size + 1 := by rw [← hwa]; simp
  have HWA := Lib.hid hwa
  have HF := Lib.hid hF
  have H0 := Lib.hid hb0
  have HTw := Lib.hid hT
  have HT := Lib.hid (hT.fr hF fun x => x)
  have HB := Lib.hid h
  have HG := Lib.hid hg
  have HSZ := Lib.hid hsz
  obtain ⟨b1, hb1⟩ : ∃ b1, num i = b1 := ⟨_, rfl⟩
  obtain ⟨b2, hb2⟩ : ∃ b2, b1 ++ num t = b2 := ⟨_, rfl⟩
  obtain ⟨fr, hfr⟩ : ∃ fr, frameD b2 = fr := ⟨_, rfl⟩
  have hl1 : b1.length ≤ 140737488355000 := by rw [← hb1]; have := num_ten hi; omega
  have hl2 : b2.length ≤ 8192 := by
    rw [← hb2, List.length_append, ← hb1]
    have := num_ten hi
    have := num_ten ht
    omega
  have HB1 := Lib.hid hb1
  have HB2 := Lib.hid hb2
  have HFR := Lib.hid hfr
  have q0 : wa.cell? ⟨w.heap.size, 0, none⟩ = some (.int .u64 (i : Nat)) := cell_at hb0 0 rfl
  have q1 : wa.cell? ⟨w.heap.size, 1, none⟩ = some (.int .u64 (t : Nat)) := cell_at hb0 1 rfl
  clear hR h hwa hF hb0 hb1 hb2 hfr hT hg hsz
  have hwide : ∀ f, Fence.wide.fn f := fun _ => trivial
  refine (callsIn_wide (n := 5)).1 (callsIn_of_wp_marks Tryd.func49 rfl trivial ?_ rfl)
  simp only [Tryd.ntmps49, List.size_toArray, List.length_cons, List.length_nil, Nat.reduceAdd, Nat.reduceSub, Array.replicate_succ, Array.replicate_zero, List.push_toArray, List.append_toArray, List.nil_append, List.cons_append]
  refine wpIn_wide.2 ?_
  go_upto_region 1 with fail
  rw [HWA.out]
  go_cut [3] from 4 to 26 (fun s3 wc => HeadAt w wc s3 fr ∧ wc.heap[w.heap.size]? = some (.cells #[.int .u64 i, .int .u64 t, .slice p data.length c] 40 (0, 0)))
  case first =>
    refine wp_then ?_
    go_region_held3 (fun w' => w'.cell? ⟨w.heap.size, 0, none⟩ = some (.int .u64 (i : Nat)) ∧ w'.cell? ⟨w.heap.size, 1, none⟩ = some (.int .u64 (t : Nat))) (first | exact ⟨by assumption, by assumption⟩ | exact ⟨(Fr.set _ _ _ _).cell (by assumption) (fun e => by have e : _ = w.heap.size := Option.some.inj e; have := HSZ.out; have := N2.out.size; have := N5.out.size; have := G2.out.size; omega), (Fr.set _ _ _ _).cell (by assumption) (fun e => by have e : _ = w.heap.size := Option.some.inj e; have := HSZ.out; have := N2.out.size; have := N5.out.size; have := G2.out.size; omega)⟩ | go_keep) (first
      | (go_at_call 45; refine fput_any _ _ none g2 [] b2 _ (by first | exact HT.out.fr N5.out fun x => x | exact (HT.out.fr N5.out fun x => x).fr (Fr.alloc No _ _) fun x => x) (By.nil _).src (by first | exact N4.out.src | exact N4.out.src.fr (Fr.alloc No _ _) fun _ _ x => x) (fun k e => by cases e) (fun k hk => by have := Sl.lt N4.out k hk; first | exact this | (simp; omega)) (by simp) hl2 ?_; intro v3 g3 w3 h1 h2 h3; rw [List.nil_append, HFR.out] at h1; obtain ⟨p3, c3, rfl, _⟩ := Sl.form h1; have G1 := Lib.hid h1; have G3 := Lib.hid h3; (first | (have G2 := Lib.hid (N5.out.trans h2); (try (have lq := Lib.hid (block_lt bq.out); replace bq := Lib.hid (h2.at bq.out (fun x => x))))) | (have G2 := Lib.hid ((N5.out.trans (Fr.alloc No _ _)).trans h2); have bq := Lib.hid (h2.at (heap_new w2 _) (fun x => x)))); (try have bc := cell_at bq.out 0 rfl); (try have bf := free_at bq.out 0); have r0 := G2.out.cell q0 (fun x => x); have r1 := G2.out.cell q1 (fun x => x); clear h1 h2 h3)
      | (go_at_call 46; refine num_any _ g1 b1 t _ (by first | exact N1.out.src | exact N1.out.src.fr (Fr.alloc No _ _) fun _ _ x => x) hl1 ht ?_; intro v2 g2 w2 h1 h2 h3; rw [HB2.out] at h1; obtain ⟨p2, c2, rfl, _⟩ := Sl.form h1; have N4 := Lib.hid h1; (first | (have N5 := Lib.hid (N2.out.trans h2); (try replace bq := Lib.hid (h2.at bq.out (fun x => x)))) | (have N5 := Lib.hid ((N2.out.trans (Fr.alloc No _ _)).trans h2); have bq := Lib.hid (h2.at (heap_new w1 _) (fun x => x)))); have r0 := N5.out.cell q0 (fun x => x); have r1 := N5.out.cell q1 (fun x => x); clear h1 h2 h3)
      | (go_at_call 46; refine num_any _ none [] i _ (By.nil _).src (by simp) hi ?_; intro v1 g1 w1 h1 h2 h3; rw [List.nil_append, HB1.out] at h1; obtain ⟨p1, c1, rfl, _⟩ := Sl.form h1; have N1 := Lib.hid h1; (first | (have N2 := Lib.hid ((Fr.drew No wa).trans h2)) | (have N2 := Lib.hid (((Fr.drew No wa).trans (Fr.alloc No _ _)).trans h2); have bq := Lib.hid (show w1.heap[wa.heap.size]? = some (.cells #[.slice none 0 0] 38 (0, 0)) from h2.at (heap_new wa.drew _) (fun x => x)))); have r0 := N2.out.cell q0 (fun x => x); have r1 := N2.out.cell q1 (fun x => x); clear h1 h2 h3))
    all_goals (go_wp2_with fail; go_meet)
    all_goals
      have s1 := HSZ.out
      have s2 := N2.out.size
      have s3 := N5.out.size
      have s4 := G2.out.size
      have hF3 := HF.out.trans G2.out
      have hB0 := G2.out.at H0.out (fun x => x)
    all_goals first
      | exact head_set bq.out hF3 (by omega) G1.out (fun k hk => by have k1 := G3.out k hk; have k2 := lq.out; omega) hB0
      | exact head_set bq.out hF3 (by omega) G1.out (fun k hk => by have k1 := G3.out k hk; simp at k1; omega) hB0
      | exact ⟨⟨w3.heap.size, _, g3, rfl, heap_new w3 _, G1.out.fr (Fr.alloc No _ _) fun _ _ x => x, hF3.trans (Fr.alloc No _ _), by omega, fun k hk => by have k1 := G3.out k hk; have k2 := Sl.lt G1.out k hk; omega⟩, (Fr.alloc No _ _).at hB0 fun x => x⟩
  case rest =>
    obtain ⟨⟨q, vq, gq, rfl, hq, hBq, hFq, hge, hgq⟩, hbx⟩ := hcut
    obtain ⟨pq, cq, rfl, _⟩ := Sl.form hBq
    have x2 : wc.cell? ⟨w.heap.size, 2, none⟩ = some (.slice p data.length c) := cell_at hbx 2 rfl
    have HQ := Lib.hid hq
    have HBQ := Lib.hid hBq
    have HFQ := Lib.hid hFq
    have HGQ := Lib.hid hgq
    clear hq hBq hFq hgq hbx
    obtain ⟨b, o, hpb⟩ : ∃ b o, data.length = 0 ∨ p = some ⟨b, o, none⟩ := by
      obtain ⟨_, p', c', e1, _, _, _, h6⟩ := HB.out
      rcases h6 with h6 | ⟨b, o, e2, _⟩
      · exact ⟨0, 0, .inl h6⟩
      · refine ⟨b, o, .inr ?_⟩
        have : p = p' := by injection e1
        rw [this, e2]
    have hcap : data.length ≤ c := by assumption
    have HP := Lib.hid hpb
    have HC := Lib.hid hcap
    clear hpb
    go_wp2_with (go_at_call 85; refine chunk_any _ _ _ _ ?_)
    obtain ⟨wl, hwl⟩ : ∃ x, (wc.alloc (.cells #[.slice p data.length c] 38)).alloc (.cells #[.int .i64 4096] 3) = x := ⟨_, rfl⟩
    rw [hwl]
    have hFl : Fr No wc wl := by rw [← hwl]; exact (Fr.alloc _ _ _).trans (Fr.alloc _ _ _)
    have hszl : wl.heap.size = wc.heap.size + 2 := by rw [← hwl]; simp
    have c1 : wl.cell? ⟨wc.heap.size, 0, none⟩ = some (.slice p data.length c) := by rw [← hwl]; exact cell_at ((Fr.alloc No _ _).at (heap_new wc _) fun x => x) 0 rfl
    have c2 : wl.cell? ⟨wc.heap.size + 1, 0, none⟩ = some (.int .i64 4096) := by
      rw [← hwl]
      have := heap_new (wc.alloc (.cells #[.slice p data.length c] 38)) (.cells #[.int .i64 4096] 3)
      exact cell_at (by simpa using this) 0 rfl
    have hql : q < wc.heap.size := block_lt HQ.out
    have hwc : w.heap.size ≤ wc.heap.size := HFQ.out.size
    have hFw := HFQ.out.trans hFl
    have hI0 : FileI w wl.heap.size q i t data p c g [] wl := ⟨⟨_, gq, hFl.at HQ.out (fun x => x), by
        have := HBQ.out.fr hFl (fun _ _ x => x)
        rw [show accD i t data [] = fr by unfold accD; rw [HB1.out, HB2.out, HFR.out]; simp]
        exact this, HGQ.out⟩, HB.out.fr hFw (fun _ _ x => x), (HTw.out.fr hFw fun x => x), hFw, Nat.le_refl _⟩
    refine (wpIn_wide (n := 5)).1 ?_
    refine wpIn_rangeFunc_ownG (F := Fence.wide) rfl (by omega) (gf := 114) (lb := #[.pointer (some ⟨wc.heap.size, 0, none⟩), .pointer (some ⟨wc.heap.size + 1, 0, none⟩)]) rfl trivial (enters_of Tryd.func114 (by kernel_rfl) rfl)
      (chunk_stops Fence.wide 4 trivial rfl (by omega) wc.heap.size (wc.heap.size + 1) b o data.length c p HP.out (by omega) HC.out wl (by omega) (by omega) c1 c2) (fun h k => h.trans k) (fun W l o o' hl _ _ _ => ⟨World.putObj_heap_other (by omega), World.putObj_heap_other (by omega)⟩) (Below.refl _ _) (fun _ => rfl)
      (FileI w wl.heap.size q i t data p c g) (fun _ _ _ => False) (fileI_own h0 HG.out (by omega) (by omega)) (fun _ _ _ _ _ hs _ _ => hs) hI0
      (fun x => { tmps := #[.agg #[.int .u64 i, .int .u64 t, .slice p data.length c], .pointer (some ⟨w.heap.size, 0, none⟩), .slice none 0 0, .pointer (some ⟨q, 0, none⟩), u4, partV b o data.length x.1, u6, u7, u8, u9, u10, u11, u12, u13, u14, u15, .pointer (some ⟨w.heap.size, 2, none⟩), .slice p data.length c, .func (.func 114) #[] #[.pointer (some ⟨wc.heap.size, 0, none⟩), .pointer (some ⟨wc.heap.size + 1, 0, none⟩)], partV b o data.length x.1, u20, u21, u22, u23, u24, u25, u26], defers := [] }) ?assign ?body ?done ?stop
    case assign =>
      intro l x W K hK
      gi_wp2
      exact hK
    case body =>
      rintro l pre x W ⟨⟨v, gq2, h1, h2, h3⟩, h4, h5, h6, h7⟩ hlt
      have A7 := Lib.hid h7
      clear h7
      have hne : data.length ≠ 0 := by have := pieces_lt.1 x.2; omega
      obtain rfl : p = some ⟨b, o, none⟩ := HP.out.resolve_left hne
      obtain ⟨pv, cv, rfl, _⟩ := Sl.form h2
      have hps := piece_src h4 x
      have hpl := piece_len data x.1
      have hal := accD_len i t data hi ht pre
      have hpn : pieces data.length ≤ 17 := by unfold pieces; omega
      have hc : W.cell? ⟨q, 0, none⟩ = some (.slice pv (accD i t data pre).length cv) := cell_at h1 0 rfl
      have hf := free_at h1 0
      have A1 := Lib.hid h1
      have A2 := Lib.hid h2
      have A3 := Lib.hid h3
      have A4 := Lib.hid h4
      have A5 := Lib.hid h5
      have A6 := Lib.hid h6
      have B1 := Lib.hid hps
      have B2 := Lib.hid (show (accD i t data pre).length ≤ 1000000000 by omega)
      have B3 := Lib.hid (show (piece data x.1).length ≤ 8192 by rw [hpl]; unfold partLen; omega)
      have B4 := Lib.hid (accD_snoc i t data pre x)
      clear h1 h2 h3 h4 h5 h6 hps hpl hal
      gi_wp2_with (gi_at_call 45; refine CallsIn.inRound l (callsIn_wide.2 (fput_any _ _ gq2 g _ (piece data x.1) W A5.out A2.out.src B1.out (fun k hk => Sl.lt A2.out k hk) (fun k hk => Nat.lt_of_lt_of_le (HG.out k hk) A6.out.size) B2.out B3.out ?_)); intro v' g' w' k1 k2 k3; obtain ⟨p', c', rfl, _⟩ := Sl.form k1; have C1 := Lib.hid k1; have C2 := Lib.hid k2; have C3 := Lib.hid k3; have hc' := k2.cell hc (fun x => x); have hf' := free_at (k2.at A1.out fun x => x) 0; clear k1 k2 k3)
      have hFs := (C2.out.of_no : Fr (Is (some q)) W w').trans (Fr.set w' q 0 (.slice p' ((accD i t data pre).length + (frameD (piece data x.1)).length) c'))
      have a7 := A7.out
      have hng : ∀ k, g' = some k → ¬ Is (some q) k := fun k hk e => by
        have k1 := C3.out k hk
        have k2 : q = k := Option.some.inj e
        omega
      refine ⟨⟨hFs.size, fun k o2 hk ho _ => (hFs.block k (by exact (Array.getElem?_eq_some_iff.1 ho).1) fun e => ?_).trans ho⟩, ⟨hFs.block _ (by omega) fun e => ?_, hFs.block _ (by omega) fun e => ?_⟩, ⟨_, g', setCell_box (C2.out.at A1.out fun x => x) _, ?_, fun k hk => ?_⟩, A4.out.fr hFs fun k hk e => ?_, A5.out.fr hFs fun e => ?_, A6.out.step hFs fun k hk e => ?_, Nat.le_trans a7 hFs.size⟩
      · have : q = k := Option.some.inj e
        omega
      · have : q = wc.heap.size := Option.some.inj e
        omega
      · have : q = wc.heap.size + 1 := Option.some.inj e
        omega
      · have k1 := By.fr C1.out (Fr.set w' q 0 (.slice p' ((accD i t data pre).length + (frameD (piece data x.1)).length) c')) hng
        rw [List.length_append] at k1
        rw [B4.out]
        exact k1
      · have k1 := C3.out k hk
        have := A6.out.size
        exact ⟨by omega, by omega⟩
      · have k1 := HG.out k hk
        have : q = k := Option.some.inj e
        omega
      · have : q = 0 := Option.some.inj e
        omega
      · have : q = k := Option.some.inj e
        omega
    case done =>
      rintro D ys W hD rfl ⟨⟨v, gq2, h1, h2, h3⟩, h4, h5, h6, _⟩ hK
      obtain ⟨pv, cv, rfl, _⟩ := Sl.form h2
      have hc : W.cell? ⟨q, 0, none⟩ = some (.slice pv (accD i t data (List.finRange (pieces data.length))).length cv) := cell_at h1 0 rfl
      have A1 := Lib.hid h1
      have A2 := Lib.hid h2
      have A3 := Lib.hid h3
      have A6 := Lib.hid h6
      have AK := Lib.hid hK
      clear h1 h2 h3 h4 h5 h6 hK
      go_wp2
      refine ⟨by simp, .inl ⟨_, _, rfl, run_takeDeferred AK.out, ?_⟩⟩
      have hFd : Fr (Is (some D)) W (W.putObj D (.deferred none)) := Fr.grownBy (grownBy_putObj' W D _)
      refine ⟨_, results_tmp rfl _ _ _, HR.out _ gq2 _ (By.fr A2.out hFd fun k hk e => ?_) (A6.out.step hFd fun k hk e => ?_) fun k hk => (A3.out k hk).1⟩
      · have e1 : D = k := Option.some.inj e
        subst e1
        obtain ⟨_, hn | ⟨b5, o5, cap, cur, _, e2, hb, _⟩⟩ := A2.out
        · rw [hn.2.1] at hk; cases hk
        · obtain rfl : D = b5 := by rw [hk] at e2; exact Option.some.inj e2
          have := AK.out
          rw [hb] at this
          cases this
      · have : D = k := Option.some.inj e
        omega
    case stop =>
      rintro D c' pre W _ _ h _
      exact h.elim
end Go.Proofs.YthjpjekaiflibaaDoor
