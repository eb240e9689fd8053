/- The document's disk: Add. -/
import Derived.Test.YthjpjekaiflibaaRef7
namespace Go.Proofs.Ythjpjekaiflibaa
open Go.RowKit
theorem two_bs {w : World} {p : Option Addr} {c : Nat} {g : Option Nat} {xs ys : List UInt8} (h : Sl w 5 1 (.slice p (xs.length + ys.length) c) g (xs.length + ys.length) (xs.map encB ++ ys.map encB)) : Bs w (.slice p (xs.length + ys.length) c) g (xs ++ ys) := by
  have e8 : xs.length + ys.length = (xs ++ ys).length := by simp
  have h9 := Sl.src h
  rw [e8] at h9 ⊢
  unfold Bs
  rw [List.map_append]
  exact h9
section
variable {Q : Ending → World → Prop} {w : World} {br : Nat} {R : RM} {O : List Nat} (h : RefAt w br R O)
include h
set_option maxRecDepth 100000 in
set_option maxHeartbeats 80000000 in
theorem ref_add (s : ByteArray) (v : Value) (gv : Option Nat) (bs : List UInt8) (hb : Bs w v gv bs) (hgv : ∀ k, gv = some k → k ∉ O) (hmax : bs.length ≤ 140737480000000)
    (hQ : ∀ c w' R' O', R.add s bs = (c, R') → RefAt w' br R' O' → Mv w w' O O' → Q (.returned (.int .i64 c)) w') :
    Calls Try.prog 29 #[.pointer (some ⟨br, 0, none⟩), .string s, v] w Q := by
  have HQ := Lib.hid hQ
  have H := Lib.hid h
  have HB := Lib.hid hb
  obtain ⟨vl, gl, fs, hrep, hfs, rfl, hst⟩ := h
  have HREP := Lib.hid hrep
  have HAF := Lib.hid fun i => at_find (s := s) (i := i) hfs hst
  have hfew := hrep.few
  have HGV := Lib.hid (show gv ≠ some br from fun e => hgv br e (mem_rown.2 (.inl rfl)))
  obtain ⟨i0, hi0, hz0, hz1, hz2⟩ := info_parts info8
  obtain ⟨p, c, rfl, _⟩ := Src.form hb
  obtain ⟨pl, cl, rfl, _⟩ := Sl.form hrep.l
  have c0 := cell_at hrep.box 0 rfl
  clear hQ hb hgv hrep hfs hst
  by_cases ha : askedE R.dead s = 0
  · have HA := Lib.hid ha
    cases hfind : R.find s with
    | none =>
      have HFD := Lib.hid hfind
      have e : R.add s bs = R.set s bs 0 := by rw [RM.add, if_pos ha, hfind]
      rw [e] at HQ
      clear e ha hfind hi0 hz0 hz1 hz2
      go_enter Try.func29, Try.ntmps29
      go_wp2_with (first
        | (go_at_call 47; refine rasked_any HREP.out s ?_; rw [HA.out])
        | (go_at_call 48; refine rat_any HREP.out s ?_; intro i hi; obtain rfl : i = -1 := by (rcases HAF.out i hi with ⟨e, _⟩ | ⟨k, hk, _, e⟩; exact e; rw [HFD.out] at e; cases e))
        | (go_at_call 49; refine ref_set H.out s _ gv bs HB.out HGV.out 0 (Nat.zero_le _) ?_; intro c w' R' O' h1 h2 h3; have K := Lib.hid (HQ.out c w' R' O' h1 h2 h3); clear h1 h2 h3))
      exact K.out
    | some f =>
      have HFD := Lib.hid hfind
      have e : R.add s bs = R.set s (f.bytes ++ bs) f.sure := by rw [RM.add, if_pos ha, hfind]
      rw [e] at HQ
      clear e ha hfind
      go_enter Try.func29, Try.ntmps29
      go_upto_region 5 with (first
        | (go_at_call 47; refine rasked_any HREP.out s ?_; rw [HA.out])
        | (go_at_call 48; refine rat_any HREP.out s ?_; intro i hi; obtain ⟨k, hk, rfl, hf⟩ : ∃ (k : Nat) (hk : k < fs.length), i = k ∧ fs[k].f = f := by (rcases HAF.out i hi with ⟨_, e⟩ | ⟨k, hk, e1, e2⟩; rw [HFD.out] at e; cases e; rw [HFD.out] at e2; exact ⟨k, hk, e1, (Option.some.inj e2).symm⟩)))
      obtain ⟨b, o, c', e, hgl, e0, e1, e2⟩ := HREP.out.one hk
      obtain ⟨rfl, rfl⟩ : pl = some ⟨b, o, none⟩ ∧ cl = c' := by simpa using e
      have hby := HREP.out.files _ (List.getElem_mem hk)
      have hmo := HREP.out.most _ (List.getElem_mem hk)
      rw [hf] at hby hmo e2
      have HBY := Lib.hid hby.src
      have HSU := Lib.hid hmo.2
      have hl1 := hmo.1
      have ik0 : (0 : Int) ≤ (k : Int) := by omega
      have il : (k : Int) < (fs.length : Int) := by omega
      obtain ⟨p9, c9, hv, _⟩ := Src.form HBY.out
      rw [hv] at HBY e1
      have b1 : 0 + f.bytes.length ≤ maxLen := by unfold maxLen; omega
      have b2 : (0 + f.bytes.length) * 1 ≤ 140737488355328 := by omega
      have b3 : f.bytes.length + bs.length ≤ maxLen := by unfold maxLen; omega
      have b4 : (f.bytes.length + bs.length) * 1 ≤ 140737488355328 := by omega
      have HSL := Lib.hid (show f.sure ≤ (f.bytes ++ bs).length by have := HSU.out; rw [List.length_append]; omega)
      have HGR := Lib.hid (show br < w.heap.size from block_lt HREP.out.box)
      clear hby e e0 hv hf hgl hmo
      go_wp2_with fail
      go_region_law
        (first
          | (go_simp; go_at_call 49; (with_reducible refine ref_set (H.out.fr F3.out fun _ _ x => x) s _ g3 (f.bytes ++ bs) L1.out NB.out f.sure HSL.out ?_); intro c w' R' O' h1 h2 h3; have K := Lib.hid (HQ.out c w' R' O' h1 h2 ((Mv.of_no F3.out).trans h3)); clear h1 h2 h3)
          | (refine step_appendSl (by rfl) _ _ 28 (by rfl) 5 i0 (.int .u8 0) 1 1 uBytes hi0 hz0 hz1 hz2 rfl (by omega) _ _ _ _ (by rfl) K1.out _ _ _ _ (by rfl) (HB.out.fr K2.out fun _ _ x => x) (encB_one _) b3 b4 ?_; intro p3 c3 g3 w3 h1 h2 h3; have L1 := Lib.hid (two_bs h1); have F3 := Lib.hid (K2.out.step h2 fun i hi e => by have := K3.out i e; omega : Fr No w w3); have N3 := Lib.hid (show New w g3 from fun j hj => by rcases h3 with e | ⟨e, _⟩; exact K3.out j (by rw [← e]; exact hj); rw [e] at hj; cases hj; exact K2.out.size); have NB := Lib.hid (show g3 ≠ some br from fun e => by have h9 := N3.out br e; have := HGR.out; omega); have x0 := F3.out.cell c0 (fun x => x); have x1 := F3.out.cell e1 (fun x => x); have x2 := F3.out.cell e2 (fun x => x); clear h1 h2 h3)
          | (refine step_appendSl (by rfl) _ _ 28 (by rfl) 5 i0 (.int .u8 0) 1 1 uBytes hi0 hz0 hz1 hz2 rfl (by omega) _ _ _ _ (by rfl) (Sl.nil _ _ _) _ _ _ _ (by rfl) (HBY.out.fr (Fr.drew No w) fun _ _ x => x) (encB_one _) b1 b2 ?_; intro p2 c2 g2 w2 h1 h2 h3; have K1 := Lib.hid (show By w2 (.slice p2 f.bytes.length c2) g2 f.bytes by simpa [By] using h1); have K2 := Lib.hid ((Fr.drew No w).trans h2.of_isnone); have K3 := Lib.hid (show New w g2 from new_of h3); have y0 := K2.out.cell c0 (fun x => x); have y1 := K2.out.cell e1 (fun x => x); have y2 := K2.out.cell e2 (fun x => x); clear h1 h2 h3))
      all_goals
        go_wp2_with fail
        go_ret
        exact K.out
  · have K := Lib.hid (HQ.out _ w R _ (by rw [RM.add, if_neg ha]) H.out (Mv.refl _ _))
    clear hi0 hz0 hz1 hz2
    generalize hc0 : askedE R.dead s = c at *
    have HC := Lib.hid hc0
    have ha' : (c != 0) = true := by simpa using ha
    clear ha hc0
    go_enter Try.func29, Try.ntmps29
    go_wp2_with (go_at_call 47; refine rasked_any HREP.out s ?_; rw [HC.out])
    exact K.out
end
end Go.Proofs.Ythjpjekaiflibaa
