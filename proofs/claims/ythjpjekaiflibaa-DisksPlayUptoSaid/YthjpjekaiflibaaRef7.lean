/- The document's disk: Put, Sure, Read, SetFuse. -/
import Derived.Test.YthjpjekaiflibaaRef6
namespace Go.Proofs.Ythjpjekaiflibaa
open Go.RowKit
def RM.add (R : RM) (s : ByteArray) (bs : List UInt8) : Int × RM :=
  if askedE R.dead s = 0 then
    match R.find s with
    | none => R.set s bs 0
    | some f => R.set s (f.bytes ++ bs) f.sure
  else (askedE R.dead s, R)
def RM.put (R : RM) (s : ByteArray) (bs : List UInt8) : Int × RM := if askedE R.dead s = 0 then R.set s bs bs.length else (askedE R.dead s, R)
def RM.sure (R : RM) (s : ByteArray) : Int × RM :=
  if askedE R.dead s = 0 then
    match R.find s with
    | none => (7, R)
    | some f => R.set s f.bytes f.bytes.length
  else (askedE R.dead s, R)
def RM.drop (R : RM) (s : ByteArray) : Int × RM :=
  if askedE R.dead s = 0 then
    match R.find s with
    | none => (7, R)
    | some _ => if burnOk R.burns R.fuse = false then (17, { R with dead := true }) else (0, { R with files := R.files.filter fun f => decide (f.name ≠ s), fuse := rfuse R.burns R.fuse })
  else (askedE R.dead s, R)
def RM.read (R : RM) (s : ByteArray) : List UInt8 × Int :=
  if askedE R.dead s = 0 then
    match R.find s with
    | none => ([], 7)
    | some f => (f.bytes, 0)
  else ([], askedE R.dead s)
def RM.setFuse (R : RM) (n : Int) : RM := { R with burns := true, fuse := max 0 n }
theorem RefAt.fr {S : Nat → Prop} {w w' : World} {br : Nat} {R : RM} {O : List Nat} (h : RefAt w br R O) (hF : Fr S w w') (hs : ∀ k, k ∈ O → ¬ S k) : RefAt w' br R O := by
  obtain ⟨vl, gl, fs, h1, h2, rfl, h3⟩ := h
  exact ⟨vl, gl, fs, h1.fr hF hs, h2, rfl, h3⟩
theorem RefAt.lt {w : World} {br : Nat} {R : RM} {O : List Nat} (h : RefAt w br R O) : ∀ k, k ∈ O → k < w.heap.size := by
  obtain ⟨vl, gl, fs, h1, h2, rfl, h3⟩ := h
  exact h1.lt
theorem at_find {fs : List RRep} {R : RM} {s : ByteArray} {i : Int} (hfs : fs.map (·.f) = R.files) (hst : Sorted R.files) (h : AtIs fs s i) : (i = -1 ∧ R.find s = none) ∨ ∃ (k : Nat) (hk : k < fs.length), i = k ∧ R.find s = some fs[k].f := by
  rcases h with ⟨rfl, hno⟩ | ⟨k, hk, rfl, hn⟩
  · refine .inl ⟨rfl, find_none.2 fun f hf => ?_⟩
    rw [← hfs] at hf
    obtain ⟨r, hr, rfl⟩ := List.mem_map.1 hf
    exact hno r hr
  · refine .inr ⟨k, hk, rfl, ?_⟩
    have hm : fs[k].f ∈ R.files := by rw [← hfs]; exact List.mem_map.2 ⟨_, List.getElem_mem hk, rfl⟩
    cases e : R.find s with
    | none => exact absurd hn (find_none.1 e _ hm)
    | some f =>
      have h1 := List.mem_of_find?_eq_some e
      have h2 := List.find?_some e
      rw [hst.unique h1 hm (by rw [hn]; simpa using h2)]
section
variable {Q : Ending → World → Prop} {w : World} {br : Nat} {R : RM} {O : List Nat} (h : RefAt w br R O)
include h
set_option maxRecDepth 100000 in
set_option maxHeartbeats 4000000 in
theorem ref_put (s : ByteArray) (v : Value) (gv : Option Nat) (bs : List UInt8) (hb : Bs w v gv bs) (hgv : ∀ k, gv = some k → k ∉ O)
    (hQ : ∀ c w' R' O', R.put s bs = (c, R') → RefAt w' br R' O' → Mv w w' O O' → Q (.returned (.int .i64 c)) w') :
    Calls Try.prog 31 #[.pointer (some ⟨br, 0, none⟩), .string s, v] w Q := by
  have HQ := Lib.hid hQ
  have H := Lib.hid h
  have HB := Lib.hid hb
  obtain ⟨vl, gl, fs, hrep, hfs, rfl, hst⟩ := h
  have HREP := Lib.hid hrep
  have HGV := Lib.hid (show gv ≠ some br from fun e => hgv br e (mem_rown.2 (.inl rfl)))
  obtain ⟨p, c, rfl, _⟩ := Src.form hb
  clear hQ hb hgv hrep hfs hst
  by_cases ha : askedE R.dead s = 0
  · have e : R.put s bs = R.set s bs bs.length := by rw [RM.put, if_pos ha]
    rw [e] at HQ
    have HA := Lib.hid ha
    clear e ha
    go_enter Try.func31, Try.ntmps31
    go_wp2_with (first
      | (go_at_call 47; refine rasked_any HREP.out s ?_; rw [HA.out])
      | (go_at_call 49; refine ref_set H.out s _ gv bs HB.out HGV.out bs.length (Nat.le_refl _) ?_; intro c w' R' O' h1 h2 h3; have K := Lib.hid (HQ.out c w' R' O' h1 h2 h3); clear h1 h2 h3))
    exact K.out
  · have K := Lib.hid (HQ.out _ w R _ (by rw [RM.put, if_neg ha]) H.out (Mv.refl _ _))
    generalize hc0 : askedE R.dead s = c at *
    have HC := Lib.hid hc0
    have ha' : (c != 0) = true := by simpa using ha
    clear ha hc0
    go_enter Try.func31, Try.ntmps31
    go_wp2_with (go_at_call 47; refine rasked_any HREP.out s ?_; rw [HC.out])
    exact K.out
set_option maxRecDepth 100000 in
set_option maxHeartbeats 4000000 in
theorem ref_sure (s : ByteArray)
    (hQ : ∀ c w' R' O', R.sure s = (c, R') → RefAt w' br R' O' → Mv w w' O O' → Q (.returned (.int .i64 c)) w') :
    Calls Try.prog 30 #[.pointer (some ⟨br, 0, none⟩), .string s] w Q := by
  have HQ := Lib.hid hQ
  have H := Lib.hid h
  obtain ⟨vl, gl, fs, hrep, hfs, rfl, hst⟩ := h
  have HREP := Lib.hid hrep
  have HAF := Lib.hid fun i => at_find (s := s) (i := i) hfs hst
  have hfew := hrep.few
  obtain ⟨pl, cl, rfl, _⟩ := Sl.form hrep.l
  have c0 := cell_at hrep.box 0 rfl
  clear hQ hrep hfs hst
  by_cases ha : askedE R.dead s = 0
  · have HA := Lib.hid ha
    cases hfind : R.find s with
    | none =>
      have K := Lib.hid (HQ.out 7 w R _ (by rw [RM.sure, if_pos ha, hfind]) H.out (Mv.refl _ _))
      have HFD := Lib.hid hfind
      clear ha hfind
      go_enter Try.func30, Try.ntmps30
      go_wp2_with (first
        | (go_at_call 47; refine rasked_any HREP.out s ?_; rw [HA.out])
        | (go_at_call 48; refine rat_any HREP.out s ?_; intro i hi; obtain rfl : i = -1 := by (rcases HAF.out i hi with ⟨e, _⟩ | ⟨k, hk, _, e⟩; exact e; rw [HFD.out] at e; cases e)))
      exact K.out
    | some f =>
      have HFD := Lib.hid hfind
      have e : R.sure s = R.set s f.bytes f.bytes.length := by rw [RM.sure, if_pos ha, hfind]
      rw [e] at HQ
      clear e ha hfind
      go_enter Try.func30, Try.ntmps30
      go_upto_region 5 with (first
        | (go_at_call 47; refine rasked_any HREP.out s ?_; rw [HA.out])
        | (go_at_call 48; refine rat_any HREP.out s ?_; intro i hi; obtain ⟨k, hk, rfl, hf⟩ : ∃ (k : Nat) (hk : k < fs.length), i = k ∧ fs[k].f = f := by (rcases HAF.out i hi with ⟨_, e⟩ | ⟨k, hk, e1, e2⟩; rw [HFD.out] at e; cases e; rw [HFD.out] at e2; exact ⟨k, hk, e1, (Option.some.inj e2).symm⟩)))
      obtain ⟨b, o, c', e, hgl, e0, e1, e2⟩ := HREP.out.one hk
      obtain ⟨rfl, rfl⟩ : pl = some ⟨b, o, none⟩ ∧ cl = c' := by simpa using e
      have hby := HREP.out.files _ (List.getElem_mem hk)
      have hnf := HREP.out.nf _ (List.getElem_mem hk)
      rw [hf] at hby
      have HBY := Lib.hid hby.src
      have HNF := Lib.hid (show fs[k].g ≠ some br from fun e => (hnf br e).1 rfl)
      have ik0 : (0 : Int) ≤ (k : Int) := by omega
      have il : (k : Int) < (fs.length : Int) := by omega
      obtain ⟨p, c, hv, _⟩ := Src.form HBY.out
      rw [hv] at HBY e1
      generalize fs[k].g = gx at *
      clear hby hnf e e0 e2 hv hf hgl
      go_wp2_with fail
      go_region_with (go_at_call 49; refine ref_set (H.out.fr (Fr.drew No w) fun _ _ x => x) s _ gx f.bytes (HBY.out.fr (Fr.drew No w) fun _ _ x => x) HNF.out f.bytes.length (Nat.le_refl _) ?_; intro c w' R' O' h1 h2 h3; have K := Lib.hid (HQ.out c w' R' O' h1 h2 ((Mv.of_no (Fr.drew No w)).trans h3)); clear h1 h2 h3)
      all_goals
        go_wp2_with fail
        go_ret
        exact K.out
  · have K := Lib.hid (HQ.out _ w R _ (by rw [RM.sure, if_neg ha]) H.out (Mv.refl _ _))
    generalize hc0 : askedE R.dead s = c at *
    have HC := Lib.hid hc0
    have ha' : (c != 0) = true := by simpa using ha
    clear ha hc0
    go_enter Try.func30, Try.ntmps30
    go_wp2_with (go_at_call 47; refine rasked_any HREP.out s ?_; rw [HC.out])
    exact K.out
set_option maxRecDepth 100000 in
set_option maxHeartbeats 4000000 in
theorem ref_read (s : ByteArray)
    (hQ : ∀ v g bs c w', R.read s = (bs, c) → By w' v g bs → Fr No w w' → New w g → Q (.returned (.tuple #[v, .int .i64 c])) w') :
    Calls Try.prog 35 #[.pointer (some ⟨br, 0, none⟩), .string s] w Q := by
  have HQ := Lib.hid hQ
  obtain ⟨vl, gl, fs, hrep, hfs, rfl, hst⟩ := h
  have HREP := Lib.hid hrep
  have HAF := Lib.hid fun i => at_find (s := s) (i := i) hfs hst
  have hfew := hrep.few
  obtain ⟨pl, cl, rfl, _⟩ := Sl.form hrep.l
  have c0 := cell_at hrep.box 0 rfl
  obtain ⟨i0, hi0, hz0, hz1, hz2⟩ := info_parts info8
  clear hQ hrep hfs hst
  by_cases ha : askedE R.dead s = 0
  · have HA := Lib.hid ha
    cases hfind : R.find s with
    | none =>
      have K := Lib.hid (HQ.out (.slice none 0 0) none [] 7 w (by rw [RM.read, if_pos ha, hfind]) (By.nil _) (Fr.refl _ _) (fun k e => by cases e))
      have HFD := Lib.hid hfind
      clear ha hfind hi0 hz0 hz1 hz2
      go_enter Try.func35, Try.ntmps35
      go_wp2_with (first
        | (go_at_call 47; refine rasked_any HREP.out s ?_; rw [HA.out])
        | (go_at_call 48; refine rat_any HREP.out s ?_; intro i hi; obtain rfl : i = -1 := by (rcases HAF.out i hi with ⟨e, _⟩ | ⟨k, hk, _, e⟩; exact e; rw [HFD.out] at e; cases e)))
      exact K.out
    | some f =>
      have HFD := Lib.hid hfind
      have HRD := Lib.hid (show R.read s = (f.bytes, 0) by rw [RM.read, if_pos ha, hfind])
      clear ha hfind
      go_enter Try.func35, Try.ntmps35
      go_upto_region 5 with (first
        | (go_at_call 47; refine rasked_any HREP.out s ?_; rw [HA.out])
        | (go_at_call 48; refine rat_any HREP.out s ?_; intro i hi; obtain ⟨k, hk, rfl, hf⟩ : ∃ (k : Nat) (hk : k < fs.length), i = k ∧ fs[k].f = f := by (rcases HAF.out i hi with ⟨_, e⟩ | ⟨k, hk, e1, e2⟩; rw [HFD.out] at e; cases e; rw [HFD.out] at e2; exact ⟨k, hk, e1, (Option.some.inj e2).symm⟩)))
      obtain ⟨b, o, c', e, hgl, e0, e1, e2⟩ := HREP.out.one hk
      obtain ⟨rfl, rfl⟩ : pl = some ⟨b, o, none⟩ ∧ cl = c' := by simpa using e
      have hby := HREP.out.files _ (List.getElem_mem hk)
      have hmo := HREP.out.most _ (List.getElem_mem hk)
      rw [hf] at hby hmo
      have HBY := Lib.hid hby.src
      have ik0 : (0 : Int) ≤ (k : Int) := by omega
      have il : (k : Int) < (fs.length : Int) := by omega
      obtain ⟨p, c, hv, _⟩ := Src.form HBY.out
      rw [hv] at HBY e1
      have b1 : 0 + f.bytes.length ≤ maxLen := by unfold maxLen; omega
      have b2 : (0 + f.bytes.length) * 1 ≤ 140737488355328 := by omega
      clear hby e e0 e2 hv hf hgl hmo
      go_wp2_with (at_builtin; refine wpList_appendSl _ rfl _ _ 28 rfl 5 i0 (.int .u8 0) 1 1 uBytes hi0 hz0 hz1 hz2 rfl (by omega) _ _ _ _ rfl (Sl.nil _ _ _) _ _ _ _ rfl HBY.out (encB_one _) b1 b2 ?_; intro p2 c2 g2 w2 h1 h2 h3; have K1 := Lib.hid (show By w2 (.slice p2 f.bytes.length c2) g2 f.bytes by simpa [By] using h1); have K2 := Lib.hid h2.of_isnone; have K3 := Lib.hid (new_of h3); clear h1 h2 h3)
      exact HQ.out _ g2 _ _ _ HRD.out K1.out K2.out K3.out
  · have K := Lib.hid (HQ.out (.slice none 0 0) none [] _ w (by rw [RM.read, if_neg ha]) (By.nil _) (Fr.refl _ _) (fun k e => by cases e))
    clear hi0 hz0 hz1 hz2
    generalize hc0 : askedE R.dead s = c at *
    have HC := Lib.hid hc0
    have ha' : (c != 0) = true := by simpa using ha
    clear ha hc0
    go_enter Try.func35, Try.ntmps35
    go_wp2_with (go_at_call 47; refine rasked_any HREP.out s ?_; rw [HC.out])
    exact K.out
set_option maxRecDepth 100000 in
set_option maxHeartbeats 4000000 in
theorem ref_fuse (n : Int) (hn : n ≤ 9223372036854775807)
    (hQ : ∀ w', RefAt w' br (R.setFuse n) O → Mv w w' O O → Q (.returned (.tuple #[])) w') :
    Calls Try.prog 33 #[.pointer (some ⟨br, 0, none⟩), .int .i64 n] w Q := by
  have HQ := Lib.hid hQ
  obtain ⟨vl, gl, fs, hrep, hfs, rfl, hst⟩ := h
  have HREP := Lib.hid hrep
  have HFS := Lib.hid hfs
  have HST := Lib.hid hst
  have c1 := cell_at hrep.box 1 rfl
  have c2 := cell_at hrep.box 2 rfl
  have u1 := free_at hrep.box 1
  have u2 := free_at hrep.box 2
  have done : ∀ w', Fr (Is (some br)) w w' → w'.heap[br]? = some (.cells #[vl, .bool true, .int .i64 (max 0 n), .bool R.dead] 40 (0, 0)) → Q (.returned (.tuple #[])) w' := fun w' hF hb =>
    HQ.out w' ⟨vl, gl, fs, ⟨hb, hrep.l.fr hF fun k hk e => hrep.nb (by rw [hk, Option.some.inj e]), fun r hr => (hrep.files r hr).fr hF fun k hk e => (hrep.nf r hr k hk).1 (Option.some.inj e).symm, hrep.nb, hrep.nf, hrep.few, hrep.most, by simp only [RM.setFuse]; omega⟩, hfs, rfl, hst⟩ ⟨hF.mono fun i _ hi => mem_rown.2 (.inl (Option.some.inj hi).symm), fun _ h => .inl h⟩
  have HDONE := Lib.hid done
  clear hQ hrep hfs hst done
  by_cases hn0 : n < 0
  · go_enter Try.func33, Try.ntmps33
    go_wp2_with fail
    refine bodyPost_ret (results_none rfl _ _ _) rfl ?_
    refine HDONE.out _ (((Fr.set _ _ _ _).trans (Fr.set _ _ _ _)).trans (Fr.set _ _ _ _)) ?_
    rw [setCell_box (setCell_box (setCell_box HREP.out.box _) _) _, show max 0 n = 0 by omega]
    rfl
  · go_enter Try.func33, Try.ntmps33
    go_wp2_with fail
    refine bodyPost_ret (results_none rfl _ _ _) rfl ?_
    refine HDONE.out _ ((Fr.set _ _ _ _).trans (Fr.set _ _ _ _)) ?_
    rw [setCell_box (setCell_box HREP.out.box _) _, show max 0 n = n by omega]
    rfl
end
end Go.Proofs.Ythjpjekaiflibaa
