/- A book of two rows. -/
import Derived.Test.YthjpjekaiflibaaBook2
namespace Go.Proofs.Ythjpjekaiflibaa
open Go.RowKit
theorem info_page : (Try.prog.info? 79).map (fun i => (i.zero, i.size, i.bytes)) = some (some .nilIface, 1, 16) := by kernel_rfl
theorem uPages : Try.prog.underlying 62 = some (.slice 79) := Try.underlying62
set_option maxRecDepth 100000 in
set_option maxHeartbeats 4000000 in
theorem number_any {R : Ending → World → Prop} (bk : Nat) (p : Option Addr) (n c : Nat) (w : World) (h : w.cell? ⟨bk, 0, none⟩ = some (.slice p n c)) (hn : n ≤ 2)
    (hR : R (.returned (.int .i64 ((n : Int) + 1))) w) :
    Calls Try.prog 51 #[.pointer (some ⟨bk, 0, none⟩)] w R := by
  have HR := Lib.hid hR
  clear hR
  go_enter Try.func51, Try.ntmps51
  go_wp2_with fail
  exact HR.out
def pageV (v : Value) (m1 m2 : UInt8) : Value := .iface 77 (.agg #[v, .int .u8 (m1.toNat : Int), .int .u8 (m2.toNat : Int)])
/-- The book at block bk has these pages. -/
def BookAt (w : World) (bk : Nat) (ps : List Value) (gp : Option Nat) : Prop := ∃ vp, w.heap[bk]? = some (.cells #[vp] 64 (0, 0)) ∧ Sl w 79 1 vp gp ps.length ps ∧ gp ≠ some bk
theorem BookAt.fr {S : Nat → Prop} {w w' : World} {bk : Nat} {ps : List Value} {gp : Option Nat} (h : BookAt w bk ps gp) (hF : Fr S w w') (hb : ¬ S bk) (hg : ∀ k, gp = some k → ¬ S k) : BookAt w' bk ps gp := by
  obtain ⟨vp, h1, h2, h3⟩ := h
  exact ⟨vp, hF.at h1 hb, h2.fr hF hg, h3⟩
set_option maxRecDepth 100000 in
set_option maxHeartbeats 4000000 in
theorem bookB_any {R : Ending → World → Prop} (bk : Nat) (ps : List Value) (gp : Option Nat) (p : Option Addr) (n c : Nat) (w : World) (h : BookAt w bk ps gp) (hps : ps.length ≤ 1)
    (hR : ∀ w' gp', BookAt w' bk (ps ++ [pageV (.slice p n c) (UInt8.ofNat (ps.length + 1)) (UInt8.ofNat (ps.length + 129))]) gp' → Fr (fun k => k = bk ∨ gp = some k) w w' → (gp' = gp ∨ ∀ k, gp' = some k → w.heap.size ≤ k) → R (.returned (.tuple #[])) w') :
    Calls Try.prog 36 #[.pointer (some ⟨bk, 0, none⟩), .slice p n c] w R := by
  have HR := Lib.hid hR
  obtain ⟨vp, hb, hs, hne⟩ := h
  obtain ⟨pp, cp, rfl, _⟩ := Sl.form hs
  have c0 := cell_at hb 0 rfl
  have HB := Lib.hid hb
  have HS := Lib.hid hs
  have HNE := Lib.hid hne
  obtain ⟨i1, hi1, hy0, hy1, hy2⟩ := info_parts info_page
  clear hR hb hs hne
  match ps, hps with
  | [], _ =>
    simp only [List.length_cons, List.length_nil] at HS c0 HB HR ⊢
    have HN := Lib.hid (show Src (w.alloc (.cells #[pageV (.slice p n c) 1 129] 79)) 1 (.slice (some ⟨w.heap.size, 0, none⟩) 1 1) (some w.heap.size) 1 [pageV (.slice p n c) 1 129] from
      (Sl.made w 79 1 1 #[pageV (.slice p n c) 1 129] 1 (by omega) (by unfold maxLen; omega) (by simp)).src)
    have HO := Lib.hid (show ∀ u ∈ [pageV (.slice p n c) 1 129], u.oneCell' = true by intro u hu; rw [List.mem_singleton] at hu; rw [hu]; rfl)
    have HS2 := Lib.hid (HS.out.fr (Fr.alloc No w (.cells #[pageV (.slice p n c) 1 129] 79)) fun _ _ x => x)
    have hx : bits .xor .u8 1 128 = 129 := by decide +kernel
    have b1 : 0 + 1 ≤ maxLen := by unfold maxLen; omega
    have b2 : (0 + 1) * 16 ≤ 140737488355328 := by omega
    go_enter Try.func36, Try.ntmps36
    go_wp2_with (first
      | (go_at_call 51; refine number_any bk pp 0 cp _ c0 (by omega) ?_)
      | (at_builtin; refine wpList_appendSl _ rfl _ _ 62 rfl 79 i1 .nilIface 1 16 uPages hi1 hy0 hy1 hy2 rfl (by omega) _ _ _ _ rfl HS2.out _ _ _ _ rfl HN.out HO.out b1 b2 ?_; intro p2 c2 g2 w2 h1 h2 h3; have K1 := Lib.hid h1; have K2 := Lib.hid h2; have K3 := Lib.hid h3; have hb2 := h2.at ((Fr.alloc No w _).at HB.out fun x => x) HNE.out; have d0 := cell_at hb2 0 rfl; have u0 := free_at hb2 0; have HB2 := Lib.hid hb2; clear h1 h2 h3 hb2))
    refine bodyPost_ret (results_none rfl _ _ _) rfl ?_
    have hbl := block_lt HB.out
    have hg2 : g2 = gp ∨ ∀ k, g2 = some k → w.heap.size ≤ k := by
      rcases K3.out with e | ⟨e, _⟩
      · exact .inl e
      · exact .inr fun k hk => by rw [e] at hk; have : _ = k := Option.some.inj hk; simp at this; omega
    have hn2 : g2 ≠ some bk := fun e => by
      rcases hg2 with h | h
      · exact HNE.out (h.symm.trans e)
      · have := h bk e; omega
    have hFs := Fr.set w2 bk 0 (.slice p2 (0 + 1) c2)
    refine HR.out _ g2 ⟨_, setCell_box HB2.out _, Sl.fr K1.out hFs fun k hk e => hn2 (by rw [hk, Option.some.inj e]), hn2⟩ (((Fr.alloc _ w _).trans (K2.out.mono fun i _ hi => .inr hi)).trans (hFs.mono fun i _ hi => .inl (Option.some.inj hi).symm)) hg2
  | [x], _ =>
    simp only [List.length_cons, List.length_nil] at HS c0 HB HR ⊢
    have HN := Lib.hid (show Src (w.alloc (.cells #[pageV (.slice p n c) 2 130] 79)) 1 (.slice (some ⟨w.heap.size, 0, none⟩) 1 1) (some w.heap.size) 1 [pageV (.slice p n c) 2 130] from
      (Sl.made w 79 1 1 #[pageV (.slice p n c) 2 130] 1 (by omega) (by unfold maxLen; omega) (by simp)).src)
    have HO := Lib.hid (show ∀ u ∈ [pageV (.slice p n c) 2 130], u.oneCell' = true by intro u hu; rw [List.mem_singleton] at hu; rw [hu]; rfl)
    have HS2 := Lib.hid (HS.out.fr (Fr.alloc No w (.cells #[pageV (.slice p n c) 2 130] 79)) fun _ _ x => x)
    have hx : bits .xor .u8 2 128 = 130 := by decide +kernel
    have b1 : 1 + 1 ≤ maxLen := by unfold maxLen; omega
    have b2 : (1 + 1) * 16 ≤ 140737488355328 := by omega
    go_enter Try.func36, Try.ntmps36
    go_wp2_with (first
      | (go_at_call 51; refine number_any bk pp 1 cp _ c0 (by omega) ?_)
      | (at_builtin; refine wpList_appendSl _ rfl _ _ 62 rfl 79 i1 .nilIface 1 16 uPages hi1 hy0 hy1 hy2 rfl (by omega) _ _ _ _ rfl HS2.out _ _ _ _ rfl HN.out HO.out b1 b2 ?_; intro p2 c2 g2 w2 h1 h2 h3; have K1 := Lib.hid h1; have K2 := Lib.hid h2; have K3 := Lib.hid h3; have hb2 := h2.at ((Fr.alloc No w _).at HB.out fun x => x) HNE.out; have d0 := cell_at hb2 0 rfl; have u0 := free_at hb2 0; have HB2 := Lib.hid hb2; clear h1 h2 h3 hb2))
    refine bodyPost_ret (results_none rfl _ _ _) rfl ?_
    have hbl := block_lt HB.out
    have hg2 : g2 = gp ∨ ∀ k, g2 = some k → w.heap.size ≤ k := by
      rcases K3.out with e | ⟨e, _⟩
      · exact .inl e
      · exact .inr fun k hk => by rw [e] at hk; have : _ = k := Option.some.inj hk; simp at this; omega
    have hn2 : g2 ≠ some bk := fun e => by
      rcases hg2 with h | h
      · exact HNE.out (h.symm.trans e)
      · have := h bk e; omega
    have hFs := Fr.set w2 bk 0 (.slice p2 (1 + 1) c2)
    refine HR.out _ g2 ⟨_, setCell_box HB2.out _, Sl.fr K1.out hFs fun k hk e => hn2 (by rw [hk, Option.some.inj e]), hn2⟩ (((Fr.alloc _ w _).trans (K2.out.mono fun i _ hi => .inr hi)).trans (hFs.mono fun i _ hi => .inl (Option.some.inj hi).symm)) hg2
end Go.Proofs.Ythjpjekaiflibaa
