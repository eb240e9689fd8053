/- The doings themselves: the function literals of Add, Sure, Put, Drop. -/
import Derived.Test.YthjpjekaiflibaaDisk3
import Derived.Test.YthjpjekaiflibaaSlices
namespace Go.Proofs.Ythjpjekaiflibaa
open Go.RowKit

theorem FileAt.c0 {w : World} {r : Rep} (h : FileAt w r) : w.cell? ⟨r.fb, 0, none⟩ = some r.v := by simp [World.cell?, h.box]
theorem FileAt.c1 {w : World} {r : Rep} (h : FileAt w r) : w.cell? ⟨r.fb, 1, none⟩ = some (.int .i64 r.f.sure) := by simp [World.cell?, h.box]
theorem FileAt.c2 {w : World} {r : Rep} (h : FileAt w r) : w.cell? ⟨r.fb, 2, none⟩ = some (.string r.f.name) := by simp [World.cell?, h.box]
theorem FileAt.fz {w : World} {r : Rep} (h : FileAt w r) (k : Nat) : w.frozen? ⟨r.fb, k, none⟩ = false := by simp [World.frozen?, h.box]

set_option maxRecDepth 100000 in
set_option maxHeartbeats 400000 in
theorem sure1_any {R : Ending → World → Prop} (r : Rep) (w : World) (h : FileAt w r) (hne : r.g ≠ some r.fb)
    (hR : ∀ w', FileAt w' { r with f := { r.f with sure := r.f.bytes.length } } → Fr (Is (some r.fb)) w w' → R (.returned (.tuple #[])) w') :
    Calls Try.prog 40 #[.pointer (some ⟨r.fb, 0, none⟩)] w R := by
  have c0 := h.c0
  have f1 := h.fz 1
  obtain ⟨p, c, hv, _⟩ := Sl.form h.by_
  have c1 := h.c1
  have HR := Lib.hid (hR (w.setCell ⟨r.fb, 1, none⟩ (.int .i64 r.f.bytes.length)) ⟨by rw [setCell_box h.box]; simp, h.by_.fr (Fr.setCell (S := Is (some r.fb)) _ _ _ fun _ => rfl) (fun k hk e => hne (by rw [hk, e])), Nat.le_refl _, h.most, h.nm⟩ (Fr.setCell _ _ _ fun _ => rfl))
  rw [hv] at c0
  clear hR h hv hne
  generalize r.f.bytes.length = n at *
  generalize r.fb = fb at *
  go_enter Try.func40, Try.ntmps40
  go_wp2
  go_end0
  exact HR.out

set_option maxRecDepth 100000 in
set_option maxHeartbeats 400000 in
/-- Add's literal: cb: the block where b is captured. -/
theorem add1_any {R : Ending → World → Prop} (r : Rep) (cb : Nat) (v : Value) (gv : Option Nat) (bs : List UInt8) (w : World) (h : FileAt w r) (hne : r.g ≠ some r.fb)
    (hc : w.cell? ⟨cb, 0, none⟩ = some v) (hb : Bs w v gv bs) (hmax : r.f.bytes.length + bs.length ≤ 1048576)
    (hR : ∀ w' v' g', FileAt w' { f := { r.f with bytes := r.f.bytes ++ bs }, fb := r.fb, v := v', g := g' } → Fr (fun k => k = r.fb ∨ r.g = some k) w w' → (g' = r.g ∨ New w g') → R (.returned (.tuple #[])) w') :
    Calls Try.prog 24 #[.pointer (some ⟨r.fb, 0, none⟩), .pointer (some ⟨cb, 0, none⟩)] w R := by
  obtain ⟨i0, hi, hz0, hz1, hz2⟩ := info_parts info8
  have c0 := h.c0
  have f0 := h.fz 0
  obtain ⟨p, c, hv, _⟩ := Sl.form h.by_
  obtain ⟨pv, cv, rfl, _⟩ := Src.form hb
  have HS := Lib.hid (h.by_.fr (Fr.drew No w) (fun _ _ x => x))
  have HB := Lib.hid (hb.fr (Fr.drew No w) (fun _ _ x => x))
  have HR := Lib.hid hR
  have HM := Lib.hid hmax
  have HF := Lib.hid h
  have HX := Lib.hid h.box
  have HG := Lib.hid (show ¬ Is r.g r.fb from fun e => hne e)
  rw [hv] at c0 HS HX
  clear hR h hv hmax hb hne
  obtain ⟨fb, hfb⟩ : ∃ fb, fb = r.fb := ⟨_, rfl⟩
  rw [← hfb] at c0 f0 HX HG ⊢
  have HE := Lib.hid hfb
  clear hfb
  go_enter Try.func24, Try.ntmps24
  go_region_law ((refine step_appendSl (by rfl) _ _ 28 (by rfl) 5 i0 (.int .u8 0) 1 1 uBytes hi hz0 hz1 hz2 rfl (by omega) _ _ _ _ (by rfl) HS.out _ _ _ _ (by rfl) HB.out (encB_one bs) (by have := HM.out; unfold maxLen; omega) (by have := HM.out; omega) ?_; intro p' c' g' w' hs hF hg; have hbx := Lib.hid (hF.at (b := fb) HX.out HG.out); have c0' := cell_at hbx.out 0 rfl; have f0' := free_at hbx.out 0; have hs' := Lib.hid hs; have hF' := Lib.hid hF; have hg' := Lib.hid hg; clear hs hF hg))
  all_goals
    go_end0
    have hsl : By w' (.slice p' (r.f.bytes.length + bs.length) c') g' (r.f.bytes ++ bs) := by
      have := hs'.out
      simpa [By] using this
    have hbx' := hbx.out
    have hF1 : Fr (Is r.g) w w' := (Fr.drew (Is r.g) w).trans hF'.out
    have hlt : r.fb < w.heap.size := block_lt HF.out.box
    have hE := HE.out
    subst hE
    have hgf : g' ≠ some r.fb := by
      rcases hg'.out with e | ⟨e, _⟩
      · rw [e]; exact fun e => HG.out e
      · rw [e]; intro q; have : w.heap.size = r.fb := Option.some.inj q; omega
    refine HR.out _ (.slice p' (r.f.bytes.length + bs.length) c') g' ⟨by rw [setCell_box hbx']; simp, hsl.fr (Fr.setCell (S := Is (some r.fb)) _ _ _ fun _ => rfl) (fun k hk e => hgf (by rw [hk, e])), ?_, by have := HM.out; simpa using this, HF.out.nm⟩ ?_ ?_
    · have := HF.out.sure
      simp
      omega
    · exact (hF1.mono fun i _ hi => .inr hi).trans (Fr.setCell _ _ _ fun _ => .inl rfl)
    · rcases hg'.out with e | ⟨e, _⟩
      · exact .inl e
      · refine .inr fun k hk => ?_
        rw [e] at hk
        cases hk
        exact Nat.le_refl _

set_option maxRecDepth 100000 in
set_option maxHeartbeats 400000 in
/-- Put's literal. -/
theorem put1_any {R : Ending → World → Prop} (r : Rep) (cb : Nat) (v : Value) (gv : Option Nat) (bs : List UInt8) (w : World) (h : FileAt w r)
    (hc : w.cell? ⟨cb, 0, none⟩ = some v) (hb : Bs w v gv bs) (hmax : bs.length ≤ 1048576)
    (hR : ∀ w' v' g', FileAt w' { f := { r.f with bytes := bs, sure := bs.length }, fb := r.fb, v := v', g := g' } → Fr (Is (some r.fb)) w w' → New w g' → R (.returned (.tuple #[])) w') :
    Calls Try.prog 41 #[.pointer (some ⟨r.fb, 0, none⟩), .pointer (some ⟨cb, 0, none⟩)] w R := by
  have c0 := h.c0
  have c1 := h.c1
  have f0 := h.fz 0
  have f1 := h.fz 1
  obtain ⟨p, c, hv, _⟩ := Sl.form h.by_
  obtain ⟨pv, cv, rfl, _⟩ := Src.form hb
  have HB := Lib.hid hb
  have HR := Lib.hid hR
  have HM := Lib.hid hmax
  have HF := Lib.hid h
  have HX := Lib.hid h.box
  rw [hv] at c0 HX
  clear hR h hv hmax hb
  obtain ⟨fb, hfb⟩ : ∃ fb, fb = r.fb := ⟨_, rfl⟩
  rw [← hfb] at c0 f0 c1 f1 HX ⊢
  have HE := Lib.hid hfb
  clear hfb
  go_enter Try.func41, Try.ntmps41
  go_region_with ((go_at_call 27; refine clone_any _ _ _ _ (HB.out.fr (Fr.drew No w) (fun _ _ x => x)) (by have := HM.out; omega) ?_; intro v' g' w' hs hF hN _; obtain ⟨p', c', rfl, _⟩ := Sl.form hs; have hc' := hF.cell hc (fun x => x); have c0' := hF.cell c0 (fun x => x); have c1' := hF.cell c1 (fun x => x); have hbx := Lib.hid (hF.at HX.out (fun x => x)); have f0' := free_at hbx.out 0; have f1' := free_at hbx.out 1; have hs' := Lib.hid hs; have hF' := Lib.hid hF; have hN' := Lib.hid hN; clear hs hF hN))
  all_goals
    go_end0
    have hE := HE.out
    subst hE
    have hF0 : Fr No w w' := (Fr.drew No w).trans hF'.out
    have hlt : r.fb < w.heap.size := block_lt HF.out.box
    have hN0 : New w g' := hN'.out
    refine HR.out _ (.slice p' bs.length c') g' ⟨by rw [setCell_box (setCell_box hbx.out _)]; simp, hs'.out.fr ((Fr.set w' r.fb 0 _).trans (Fr.set _ r.fb 1 _)) (fun k hk e => ?_), Nat.le_refl _, HM.out, HF.out.nm⟩ ?_ hN0
    · cases e
      have := hN0 _ hk
      omega
    · exact (hF0.of_no.trans (Fr.set w' r.fb 0 _)).trans (Fr.set _ r.fb 1 _)

end Go.Proofs.Ythjpjekaiflibaa
