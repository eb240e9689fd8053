/- The document's disk: Drop. -/
import Derived.Test.YthjpjekaiflibaaRef8
namespace Go.Proofs.Ythjpjekaiflibaa
open Go.RowKit
theorem drop_map {fs : List RRep} {k : Nat} (hk : k < fs.length) (hs : Sorted (fs.map (·.f))) (s : ByteArray) (hn : fs[k].f.name = s) : (fs.take k ++ fs.drop (k + 1)).map (·.f) = (fs.map (·.f)).filter fun f => decide (f.name ≠ s) := by
  have e : fs = fs.take k ++ fs[k] :: fs.drop (k + 1) := by rw [← List.drop_eq_getElem_cons hk, List.take_append_drop]
  have hne : ∀ r ∈ fs.take k ++ fs.drop (k + 1), r.f.name ≠ s := by
    intro r hr e2
    have hp := List.pairwise_iff_getElem.1 hs
    rcases List.mem_append.1 hr with hr | hr
    · obtain ⟨j, hj, rfl⟩ := List.mem_iff_getElem.1 hr
      have hjk : j < k := by simp at hj; omega
      have := hp j k (by simp; omega) (by simpa using hk) hjk
      unfold nless at this
      simp only [List.getElem_map] at this
      rw [List.getElem_take] at e2
      rw [e2, hn, bytesLess_irrefl] at this
      cases this
    · obtain ⟨j, hj, rfl⟩ := List.mem_iff_getElem.1 hr
      have hjl : k + 1 + j < fs.length := by simp at hj; omega
      have := hp k (k + 1 + j) (by simpa using hk) (by simpa using hjl) (by omega)
      unfold nless at this
      simp only [List.getElem_map] at this
      rw [List.getElem_drop] at e2
      rw [e2, hn, bytesLess_irrefl] at this
      cases this
  have h1 : (fs.map (·.f)).filter (fun f => decide (f.name ≠ s)) = ((fs.take k ++ fs[k] :: fs.drop (k + 1)).map (·.f)).filter (fun f => decide (f.name ≠ s)) := by rw [← e]
  rw [h1, List.map_append, List.map_append, List.filter_append, List.map_cons, List.filter_cons, if_neg (by simpa using hn)]
  have h2 : ∀ l : List RRep, (∀ r ∈ l, r.f.name ≠ s) → (l.map (·.f)).filter (fun f => decide (f.name ≠ s)) = l.map (·.f) := fun l hl => by
    rw [List.filter_eq_self]
    intro f hf
    obtain ⟨r, hr, rfl⟩ := List.mem_map.1 hf
    simpa using hl r hr
  rw [h2 _ fun r hr => hne r (List.mem_append.2 (.inl hr)), h2 _ fun r hr => hne r (List.mem_append.2 (.inr hr))]
theorem drop_done {w w1 w3 : World} {br : Nat} {vl v3 : Value} {gl g3 : Option Nat} {fs : List RRep} {burns : Bool} {fuse : Int} {dead : Bool} (h : RefRep w1 br vl gl fs burns fuse dead) (h1 : Fr (Is (some br)) w w1) (hF : Fr No w1 w3) (hn : New w1 g3) (k : Nat) {n : Nat} (hk : n = (fs.take k ++ fs.drop (k + 1)).length) (hl : Sl w3 68 3 v3 g3 n (rcells (fs.take k) ++ rcells (fs.drop (k + 1)))) :
    RefRep (w3.setCell ⟨br, 0, none⟩ v3) br v3 g3 (fs.take k ++ fs.drop (k + 1)) burns fuse dead ∧ Mv w (w3.setCell ⟨br, 0, none⟩ v3) (rown br gl fs) (rown br g3 (fs.take k ++ fs.drop (k + 1))) := by
  subst hk
  rw [← rcells_append] at hl
  have hmem : ∀ r ∈ fs.take k ++ fs.drop (k + 1), r ∈ fs := fun r hr => by
    rcases List.mem_append.1 hr with hr | hr
    · exact List.mem_of_mem_take hr
    · exact List.mem_of_mem_drop hr
  have hfew := h.few
  obtain ⟨k1, k2⟩ := new_rep h hF hn (fun r hr => .inl (hmem r hr)) hl (by rw [List.length_append, List.length_take, List.length_drop]; omega)
  have z1 := h1.size
  refine ⟨k1, (h1.trans k2).mono fun i _ hi => mem_rown.2 (.inl (Option.some.inj hi).symm), fun j hj => ?_⟩
  rcases mem_rown.1 hj with rfl | hj | ⟨r, hr, hj⟩
  · exact .inl (mem_rown.2 (.inl rfl))
  · exact .inr (by have := hn j hj; omega)
  · exact .inl (mem_rown.2 (.inr (.inr ⟨r, hmem r hr, hj⟩)))
section
variable {Q : Ending → World → Prop} {w : World} {br : Nat} {R : RM} {O : List Nat} (h : RefAt w br R O)
include h
set_option maxRecDepth 100000 in
set_option maxHeartbeats 80000000 in
theorem ref_drop (s : ByteArray)
    (hQ : ∀ c w' R' O', R.drop s = (c, R') → RefAt w' br R' O' → Mv w w' O O' → Q (.returned (.int .i64 c)) w') :
    Calls Try.prog 32 #[.pointer (some ⟨br, 0, none⟩), .string s] w Q := by
  have HQ := Lib.hid hQ
  have H := Lib.hid h
  obtain ⟨vl, gl, fs, hrep, hfs, rfl, hst⟩ := h
  have HREP := Lib.hid hrep
  have HFS := Lib.hid hfs
  have HST := Lib.hid hst
  have HAF := Lib.hid fun i => at_find (s := s) (i := i) hfs hst
  have hfew := hrep.few
  obtain ⟨i1, hi1, hy0, hy1, hy2⟩ := info_parts info_file
  obtain ⟨pl, cl, rfl, hlc⟩ := Sl.form hrep.l
  have hml := hrep.l.len_le
  have c0 := cell_at hrep.box 0 rfl
  clear hQ hrep hfs hst
  by_cases ha : askedE R.dead s = 0
  · have HA := Lib.hid ha
    cases hfind : R.find s with
    | none =>
      have K := Lib.hid (HQ.out 7 w R _ (by rw [RM.drop, if_pos ha, hfind]) H.out (Mv.refl _ _))
      have HFD := Lib.hid hfind
      clear ha hfind hi1 hy0 hy1 hy2
      go_enter Try.func32, Try.ntmps32
      go_wp2_with (first
        | (go_at_call 47; refine rasked_any HREP.out s ?_; rw [HA.out])
        | (go_at_call 48; refine rat_any HREP.out s ?_; intro i hi; obtain rfl : i = -1 := by (rcases HAF.out i hi with ⟨e, _⟩ | ⟨k, hk, _, e⟩; exact e; rw [HFD.out] at e; cases e)))
      exact K.out
    | some f =>
      have HFD := Lib.hid hfind
      cases hbu : burnOk R.burns R.fuse
      · have K := Lib.hid (fun (w' : World) (h1 : RefRep w' br (.slice pl fs.length cl) gl fs R.burns R.fuse true) (h2 : Mv w w' (rown br gl fs) (rown br gl fs)) => HQ.out 17 w' { R with dead := true } (rown br gl fs) (by rw [RM.drop, if_pos ha, hfind]; simp [hbu]) ⟨_, gl, fs, h1, HFS.out, rfl, HST.out⟩ h2)
        have HBU := Lib.hid hbu
        clear ha hfind hi1 hy0 hy1 hy2 hbu
        go_enter Try.func32, Try.ntmps32
        go_wp2_with (first
          | (go_at_call 47; refine rasked_any HREP.out s ?_; rw [HA.out])
          | (go_at_call 48; refine rat_any HREP.out s ?_; intro i hi; obtain ⟨k, hk, rfl, hf⟩ : ∃ (k : Nat) (hk : k < fs.length), i = k ∧ fs[k].f = f := by (rcases HAF.out i hi with ⟨_, e⟩ | ⟨k, hk, e1, e2⟩; rw [HFD.out] at e; cases e; rw [HFD.out] at e2; exact ⟨k, hk, e1, (Option.some.inj e2).symm⟩))
          | (go_at_call 50; refine rburn_any HREP.out ?_; rw [HBU.out]; intro w1 h1 h2; have H1 := Lib.hid h1; have H2 := Lib.hid h2; clear h1 h2))
        refine K.out w1 ?_ ⟨H2.out.mono fun i _ hi => mem_rown.2 (.inl (Option.some.inj hi).symm), fun _ h => .inl h⟩
        have hbu := HBU.out
        have h9 := H1.out
        obtain ⟨e1, e2⟩ : R.burns = true ∧ R.fuse = 0 := by simpa [burnOk] using hbu
        simpa [e1, e2] using h9
      · have HBU := Lib.hid hbu
        have HDR := Lib.hid (show R.drop s = (0, { R with files := R.files.filter fun f => decide (f.name ≠ s), fuse := rfuse R.burns R.fuse }) by rw [RM.drop, if_pos ha, hfind]; simp [hbu])
        clear ha hfind hbu
        go_enter Try.func32, Try.ntmps32
        go_upto_region 9 with (first
          | (go_at_call 47; refine rasked_any HREP.out s ?_; rw [HA.out])
          | (go_at_call 48; refine rat_any HREP.out s ?_; intro i hi; obtain ⟨k, hk, rfl, hf⟩ : ∃ (k : Nat) (hk : k < fs.length), i = k ∧ fs[k].f = f := by (rcases HAF.out i hi with ⟨_, e⟩ | ⟨k, hk, e1, e2⟩; rw [HFD.out] at e; cases e; rw [HFD.out] at e2; exact ⟨k, hk, e1, (Option.some.inj e2).symm⟩))
          | (go_at_call 50; refine rburn_any HREP.out ?_; rw [HBU.out]; intro w1 h1 h2; rw [Bool.not_true, Bool.or_false] at h1; have H1 := Lib.hid (show RefRep w1 br _ gl fs R.burns (rfuse R.burns R.fuse) R.dead from h1); have H2 := Lib.hid h2; clear h1 h2))
        have HF := Lib.hid hf
        clear hf
        obtain ⟨b, o, c', e, hgl, _⟩ := H1.out.one hk
        obtain ⟨rfl, rfl⟩ : pl = some ⟨b, o, none⟩ ∧ cl = c' := by simpa using e
        clear e hgl
        have c0 := cell_at H1.out.box 0 rfl
        have u0 := free_at H1.out.box 0
        have ik0 : (0 : Int) ≤ (k : Int) := by omega
        have ikc : (k : Int) ≤ (cl : Int) := by omega
        have il : (k : Int) + 1 ≤ (fs.length : Int) := by omega
        have iw : IntKind.i64.wrap ((k : Int) + 1) = (k : Int) + 1 := IntWalk.i64_in _ (by omega)
        have iw0 : (0 : Int) ≤ (k : Int) + 1 := by omega
        have iw1 : ((k : Int) + 1).toNat = k + 1 := by omega
        have hc0 : ¬ cl = 0 := by omega
        have hs1 := H1.out.l.src.sliced (lo := 0) (hi := k) (by omega) (by omega)
        have hs2 := H1.out.l.src.sliced (lo := k + 1) (hi := fs.length) (by omega) (Nat.le_refl _)
        have hsub : sliced (some ⟨b, o, none⟩) 0 k cl 3 = .slice (some ⟨b, o, none⟩) k cl := by unfold sliced; simp [Addr.add]
        rw [hsub, Nat.sub_zero, Nat.zero_mul, List.drop_zero, rcells_take] at hs1
        rw [rcells_drop, List.take_of_length_le (by rw [rcells_length]; simp)] at hs2
        have HO1 := Lib.hid (show ∀ u ∈ rcells (fs.take k), u.oneCell' = true from rcells_one (w := w1) fun r hr => H1.out.files r (List.mem_of_mem_take hr))
        have HO2 := Lib.hid (show ∀ u ∈ rcells (fs.drop (k + 1)), u.oneCell' = true from rcells_one (w := w1) fun r hr => H1.out.files r (List.mem_of_mem_drop hr))
        have b1 : 0 + k ≤ maxLen := by unfold maxLen; omega
        have b2 : (0 + k) * 48 ≤ 140737488355328 := by omega
        have b3 : k + (fs.length - (k + 1)) ≤ maxLen := by unfold maxLen; omega
        have b4 : (k + (fs.length - (k + 1))) * 48 ≤ 140737488355328 := by omega
        have HS1 := Lib.hid hs1
        have HIL := Lib.hid hk
        have HEW := Lib.hid hfew
        clear hs1 hsub hml
        by_cases hck : cl = k + 1
        · subst hck
          have ikd : (k : Int) ≤ (k : Int) + 1 := by omega
          have hs3 : sliced (some ⟨b, o, none⟩) (k + 1) fs.length (k + 1) 3 = .slice (some ⟨b, o, none⟩) (fs.length - (k + 1)) 0 := by
            unfold sliced
            rw [if_pos rfl, Nat.sub_self]
          have h00 : fs.length - (k + 1) = 0 := by omega
          rw [hs3, h00] at hs2
          rw [h00] at b3 b4
          have HS2 := Lib.hid hs2
          clear hs2 hs3 h00
          go_region_law (first
            | (refine step_appendSl (by rfl) _ _ 38 (by rfl) 68 i1 (.agg #[.string ByteArray.empty, .slice none 0 0, .int .i64 0]) 3 48 uFiles hi1 hy0 hy1 hy2 rfl (by omega) _ _ _ _ (by rfl) K1.out _ _ _ _ (by rfl) (HS2.out.fr K2.out fun _ _ x => x) HO2.out b3 b4 ?_; intro p3 c3 g3 w3 h1 h2 h3; have L1 := Lib.hid h1; have F3 := Lib.hid (K2.out.step h2 fun i hi e => by have := K3.out i e; omega : Fr No w1 w3); have N3 := Lib.hid (show New w1 g3 from fun j hj => by rcases h3 with e | ⟨e, _⟩; exact K3.out j (by rw [← e]; exact hj); rw [e] at hj; cases hj; exact K2.out.size); have x0 := F3.out.cell c0 (fun x => x); have x1 := free_at (F3.out.at H1.out.box fun x => x) 0; clear h1 h2 h3)
            | (refine step_appendSl (by rfl) _ _ 38 (by rfl) 68 i1 (.agg #[.string ByteArray.empty, .slice none 0 0, .int .i64 0]) 3 48 uFiles hi1 hy0 hy1 hy2 rfl (by omega) _ _ _ _ (by rfl) (Sl.nil _ _ _) _ _ _ _ (by rfl) (HS1.out.fr (Fr.drew No w1) fun _ _ x => x) HO1.out b1 b2 ?_; intro p2 c2 g2 w2 h1 h2 h3; have K1 := Lib.hid (show Sl w2 68 3 (.slice p2 k c2) g2 k (rcells (fs.take k)) by simpa using h1); have K2 := Lib.hid ((Fr.drew No w1).trans h2.of_isnone); have K3 := Lib.hid (show New w1 g2 from new_of h3); have y0 := K2.out.cell c0 (fun x => x); clear h1 h2 h3))
          all_goals
            go_wp2_with fail
            have hmap := drop_map HIL.out (by rw [HFS.out]; exact HST.out) s (by rw [HF.out]; have := List.find?_some HFD.out; simpa using this)
            rw [HFS.out] at hmap
            obtain ⟨q1, q2⟩ := drop_done H1.out H2.out F3.out N3.out k (by rw [List.length_append, List.length_take, List.length_drop]; have := HIL.out; omega) L1.out
            exact HQ.out 0 _ _ _ HDR.out ⟨_, g3, _, q1, hmap, rfl, HST.out.filter _⟩ q2
        · have hs3 : sliced (some ⟨b, o, none⟩) (k + 1) fs.length cl 3 = .slice (some ⟨b, o + (k + 1) * 3, none⟩) (fs.length - (k + 1)) (cl - (k + 1)) := by
            unfold sliced
            rw [if_neg hck]
            simp [Addr.add]
          rw [hs3] at hs2
          have HS2 := Lib.hid hs2
          clear hs2 hs3
          go_region_law (first
            | (refine step_appendSl (by rfl) _ _ 38 (by rfl) 68 i1 (.agg #[.string ByteArray.empty, .slice none 0 0, .int .i64 0]) 3 48 uFiles hi1 hy0 hy1 hy2 rfl (by omega) _ _ _ _ (by rfl) K1.out _ _ _ _ (by rfl) (HS2.out.fr K2.out fun _ _ x => x) HO2.out b3 b4 ?_; intro p3 c3 g3 w3 h1 h2 h3; have L1 := Lib.hid h1; have F3 := Lib.hid (K2.out.step h2 fun i hi e => by have := K3.out i e; omega : Fr No w1 w3); have N3 := Lib.hid (show New w1 g3 from fun j hj => by rcases h3 with e | ⟨e, _⟩; exact K3.out j (by rw [← e]; exact hj); rw [e] at hj; cases hj; exact K2.out.size); have x0 := F3.out.cell c0 (fun x => x); have x1 := free_at (F3.out.at H1.out.box fun x => x) 0; clear h1 h2 h3)
            | (refine step_appendSl (by rfl) _ _ 38 (by rfl) 68 i1 (.agg #[.string ByteArray.empty, .slice none 0 0, .int .i64 0]) 3 48 uFiles hi1 hy0 hy1 hy2 rfl (by omega) _ _ _ _ (by rfl) (Sl.nil _ _ _) _ _ _ _ (by rfl) (HS1.out.fr (Fr.drew No w1) fun _ _ x => x) HO1.out b1 b2 ?_; intro p2 c2 g2 w2 h1 h2 h3; have K1 := Lib.hid (show Sl w2 68 3 (.slice p2 k c2) g2 k (rcells (fs.take k)) by simpa using h1); have K2 := Lib.hid ((Fr.drew No w1).trans h2.of_isnone); have K3 := Lib.hid (show New w1 g2 from new_of h3); have y0 := K2.out.cell c0 (fun x => x); clear h1 h2 h3))
          all_goals
            go_wp2_with fail
            have hmap := drop_map HIL.out (by rw [HFS.out]; exact HST.out) s (by rw [HF.out]; have := List.find?_some HFD.out; simpa using this)
            rw [HFS.out] at hmap
            obtain ⟨q1, q2⟩ := drop_done H1.out H2.out F3.out N3.out k (by rw [List.length_append, List.length_take, List.length_drop]; have := HIL.out; omega) L1.out
            exact HQ.out 0 _ _ _ HDR.out ⟨_, g3, _, q1, hmap, rfl, HST.out.filter _⟩ q2
  · have K := Lib.hid (HQ.out _ w R _ (by rw [RM.drop, if_neg ha]) H.out (Mv.refl _ _))
    clear hi1 hy0 hy1 hy2
    generalize hc0 : askedE R.dead s = c at *
    have HC := Lib.hid hc0
    have ha' : (c != 0) = true := by simpa using ha
    clear ha hc0
    go_enter Try.func32, Try.ntmps32
    go_wp2_with (go_at_call 47; refine rasked_any HREP.out s ?_; rw [HC.out])
    exact K.out
end
end Go.Proofs.Ythjpjekaiflibaa
