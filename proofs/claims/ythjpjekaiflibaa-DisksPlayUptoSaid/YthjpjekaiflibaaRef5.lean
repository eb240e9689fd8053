/- The document's disk: a new file is set, in its place. -/
import Derived.Test.YthjpjekaiflibaaRef4
namespace Go.Proofs.Ythjpjekaiflibaa
open Go.RowKit
theorem uFiles : Try.prog.underlying 38 = some (.slice 68) := Try.underlying38
theorem rcells_one {w : World} {fs : List RRep} (h : ∀ r ∈ fs, By w r.v r.g r.f.bytes) : ∀ u ∈ rcells fs, u.oneCell' = true := by
  intro u hu
  obtain ⟨r, hr, hu⟩ := List.mem_flatMap.1 hu
  obtain ⟨p, c, e, _⟩ := Sl.form (h r hr)
  simp only [List.mem_cons, List.not_mem_nil, or_false] at hu
  rcases hu with rfl | rfl | rfl
  · rfl
  · rw [e]; rfl
  · rfl
/-- The new list is laid. -/
theorem new_rep {w w1 : World} {br : Nat} {vl vl' : Value} {gl gl' : Option Nat} {fs : List RRep} {burns : Bool} {fuse : Int} {dead : Bool} (h : RefRep w br vl gl fs burns fuse dead) (hF : Fr No w w1) (hn : New w gl') {gs : List RRep} (hgs : ∀ r ∈ gs, (r ∈ fs ∨ (By w r.v r.g r.f.bytes ∧ (∀ j, r.g = some j → j ≠ br ∧ j < w.heap.size) ∧ r.f.bytes.length ≤ 1048576 ∧ r.f.sure ≤ r.f.bytes.length)))
    (hl : Sl w1 68 3 vl' gl' gs.length (rcells gs)) (hlen : gs.length ≤ 16) :
    RefRep (w1.setCell ⟨br, 0, none⟩ vl') br vl' gl' gs burns fuse dead ∧ Fr (Is (some br)) w (w1.setCell ⟨br, 0, none⟩ vl') := by
  have hbl := block_lt h.box
  have hgb : ∀ j, gl' = some j → j ≠ br := fun j hj => by have := hn j hj; omega
  have hFs : Fr (Is (some br)) w1 (w1.setCell ⟨br, 0, none⟩ vl') := Fr.set _ _ _ _
  have hFa : Fr (Is (some br)) w (w1.setCell ⟨br, 0, none⟩ vl') := (hF.of_no).trans hFs
  refine ⟨⟨by rw [setCell_box (hF.at h.box fun x => x)]; rfl, hl.fr hFs fun j hj e => hgb j hj (Option.some.inj e).symm, fun r hr => ?_, fun e => hgb br e rfl, fun r hr j hj => ?_, hlen, fun r hr => ?_, h.fz⟩, hFa⟩
  · rcases hgs r hr with hr | ⟨h1, h2, _⟩
    · exact (h.files r hr).fr hFa fun j hj e => (h.nf r hr j hj).1 (Option.some.inj e).symm
    · exact h1.fr hFa fun j hj e => (h2 j hj).1 (Option.some.inj e).symm
  · have hlt : j ≠ br ∧ j < w.heap.size := by
      rcases hgs r hr with hr | ⟨_, h2, _⟩
      · exact ⟨(h.nf r hr j hj).1, (h.files r hr).lt j hj⟩
      · exact h2 j hj
    exact ⟨hlt.1, fun e => by have := hn j e; omega⟩
  · rcases hgs r hr with hr | ⟨_, _, h3⟩
    · exact h.most r hr
    · exact h3
theorem ins_done {w w1 w3 w6 : World} {br : Nat} {vl v6 : Value} {gl g6 : Option Nat} {fs : List RRep} {burns : Bool} {fuse : Int} {dead : Bool} (h : RefRep w3 br vl gl fs burns fuse dead) (h1 : Fr (Is (some br)) w w1) (h3 : Fr No w1 w3) (hF6 : Fr No w3 w6) (hn6 : New w3 g6) (k : Nat) (s : ByteArray) (bs : List UInt8) (sure : Nat) (v2 : Value) (g2 : Option Nat) (hb : By w3 v2 g2 bs) (hg2 : New w1 g2) (hbr : br < w.heap.size) (hfit : bs.length ≤ 1048576) (hsure : sure ≤ bs.length) (hlen : fs.length < 16)
    (hl : Sl w6 68 3 v6 g6 (fs.take k ++ ⟨⟨s, bs, sure⟩, v2, g2⟩ :: fs.drop k).length (rcells (fs.take k ++ ⟨⟨s, bs, sure⟩, v2, g2⟩ :: fs.drop k))) :
    SetTo w (w6.setCell ⟨br, 0, none⟩ v6) br gl fs v6 g6 (fs.take k ++ ⟨⟨s, bs, sure⟩, v2, g2⟩ :: fs.drop k) burns fuse dead := by
  have z1 := h1.size
  have z3 := h3.size
  have hmem : ∀ r ∈ fs.take k ++ ⟨⟨s, bs, sure⟩, v2, g2⟩ :: fs.drop k, r ∈ fs ∨ r = ⟨⟨s, bs, sure⟩, v2, g2⟩ := fun r hr => by
    rcases List.mem_append.1 hr with hr | hr
    · exact .inl (List.mem_of_mem_take hr)
    · rcases List.mem_cons.1 hr with rfl | hr
      · exact .inr rfl
      · exact .inl (List.mem_of_mem_drop hr)
  obtain ⟨k1, k2⟩ := new_rep h hF6 hn6 (fun r hr => by
    rcases hmem r hr with hr | rfl
    · exact .inl hr
    · exact .inr ⟨hb, fun j hj => ⟨by have := hg2 j hj; omega, hb.lt j hj⟩, hfit, hsure⟩) hl (by simp; omega)
  refine ⟨k1, ((h1.trans h3.of_no).trans k2).mono fun i _ hi => mem_rown.2 (.inl (Option.some.inj hi).symm), fun j hj => ?_⟩
  rcases mem_rown.1 hj with rfl | hj | ⟨r, hr, hj⟩
  · exact .inl (mem_rown.2 (.inl rfl))
  · exact .inr (by have := hn6 j hj; omega)
  · rcases hmem r hr with hr | rfl
    · exact .inl (mem_rown.2 (.inr (.inr ⟨r, hr, hj⟩)))
    · exact .inr (by have := hg2 j hj; omega)
def InsRel (w : World) (fs : List RRep) (s : ByteArray) (i : Value) (w' : World) : Prop := ∃ k : Nat, i = .int .i64 k ∧ k ≤ fs.length ∧ (∀ (j : Nat) (hj : j < fs.length), j < k → Op.bytesLess fs[j].f.name.toList s.toList = true) ∧ w' = w
set_option maxRecDepth 100000 in
set_option maxHeartbeats 8000000 in
theorem rset_new {R : Ending → World → Prop} {w : World} {br : Nat} {vl : Value} {gl : Option Nat} {fs : List RRep} {burns : Bool} {fuse : Int} {dead : Bool} (h : RefRep w br vl gl fs burns fuse dead) (s : ByteArray) (v : Value) (gv : Option Nat) (bs : List UInt8) (hb : Bs w v gv bs) (hgv : gv ≠ some br) (sure : Nat)
    (hfit : bs.length ≤ 1048576) (hsure : sure ≤ bs.length) (hnew : ∀ r ∈ fs, r.f.name ≠ s) (hlen : fs.length < 16) (hbu : burnOk burns fuse = true)
    (hR : ∀ (k : Nat) w' vl' gl' v' g', k ≤ fs.length → (∀ (j : Nat) (hj : j < fs.length), j < k → Op.bytesLess fs[j].f.name.toList s.toList = true) → (∀ (hk : k < fs.length), Op.bytesLess fs[k].f.name.toList s.toList = false) →
      SetTo w w' br gl fs vl' gl' (fs.take k ++ ⟨⟨s, bs, sure⟩, v', g'⟩ :: fs.drop k) burns (rfuse burns fuse) dead → R (.returned (.int .i64 0)) w') :
    Calls Try.prog 49 #[.pointer (some ⟨br, 0, none⟩), .string s, v, .int .i64 sure] w R := by
  have HR := Lib.hid hR
  have H := Lib.hid h
  have HB := Lib.hid hb
  obtain ⟨i0, hi0, hz0, hz1, hz2⟩ := info_parts info8
  obtain ⟨i1, hi1, hy0, hy1, hy2⟩ := info_parts info_file
  obtain ⟨p, c, rfl, _⟩ := Src.form hb
  obtain ⟨pl, cl, rfl, hlc⟩ := Sl.form h.l
  have c0 := cell_at h.box 0 rfl
  have HBU := Lib.hid hbu
  have jb : (bs.length : Int) ≤ 1048576 := by omega
  have j16 : (fs.length : Int) < 16 := by omega
  have hex : ∀ i, AtIs fs s i → i = -1 := fun i hi => by
    rcases hi with ⟨e, _⟩ | ⟨k, hk, _, e⟩
    · exact e
    · exact absurd e (hnew _ (List.getElem_mem hk))
  have HEX := Lib.hid hex
  have HGV := Lib.hid hgv
  have HLEN := Lib.hid hlen
  have HBR := Lib.hid (block_lt h.box)
  have b1 : 0 + bs.length ≤ maxLen := by unfold maxLen; omega
  have b2 : (0 + bs.length) * 1 ≤ 140737488355328 := by omega
  clear hR h hb hbu hnew hex hgv
  go_enter Try.func49, Try.ntmps49
  go_upto_region 2 with (go_at_call 48; refine rat_any H.out s ?_; intro i hi; obtain rfl := HEX.out i hi; clear hi)
  go_upto_region 6 with (go_at_call 50; refine rburn_any H.out ?_; rw [HBU.out]; intro w1 h1 h2; rw [Bool.not_true, Bool.or_false] at h1; have H1 := Lib.hid (show RefRep w1 br _ gl fs burns (rfuse burns fuse) dead from h1); have H2 := Lib.hid h2; have HB1 := Lib.hid (HB.out.fr h2 fun k hk e => HGV.out (by rw [hk, Option.some.inj e])); clear h1 h2)
  go_upto_region 7 with (at_builtin; refine wpList_appendSl _ rfl _ _ 28 rfl 5 i0 (.int .u8 0) 1 1 uBytes hi0 hz0 hz1 hz2 rfl (by omega) _ _ _ _ rfl (Sl.nil _ _ _) _ _ _ _ rfl HB1.out (encB_one _) b1 b2 ?_; intro p2 c2 g2 w2 h1 h2 h3; have K1 := Lib.hid (show By w2 (.slice p2 bs.length c2) g2 bs by simpa [By] using h1); have K2 := Lib.hid h2.of_isnone; have K3 := Lib.hid (new_of h3); clear h1 h2 h3)
  have hF3 : Fr No w1 (w2.alloc (.cells #[.string s, .slice p2 bs.length c2, .int .i64 sure] 68)) := K2.out.trans (Fr.alloc _ _ _)
  have hbx := heap_new w2 (.cells #[.string s, .slice p2 bs.length c2, .int .i64 sure] 68)
  have K4 := Lib.hid (K1.out.fr (Fr.alloc No w2 (.cells #[.string s, .slice p2 bs.length c2, .int .i64 sure] 68)) fun _ _ x => x)
  have H3 := Lib.hid (H1.out.fr hF3 fun _ _ x => x)
  have HF3 := Lib.hid hF3
  have HSZ := Lib.hid (K2.out.size)
  have HBX := Lib.hid hbx
  clear hF3 K1 K2 c0 hbx
  generalize w2.alloc (.cells #[.string s, .slice p2 bs.length c2, .int .i64 sure] 68) = w3 at *
  generalize w2.heap.size = bx at *
  have c0 := cell_at H3.out.box 0 rfl
  go_wp2_with fail
  go_loopw [11] (fun i wr => InsRel w3 fs s i wr) (fun i _ => 20 - (intOf i).toNat)
  case atStart => exact ⟨0, rfl, by omega, fun j _ hj => absurd hj (by omega), rfl⟩
  case round =>
    obtain ⟨k, rfl, hk, hall, rfl⟩ := hrel
    have ik0 : (0 : Int) ≤ (k : Int) := by omega
    by_cases hnext : ∃ hk : k < fs.length, Op.bytesLess fs[k].f.name.toList s.toList = true
    · obtain ⟨hlt, hless⟩ := hnext
      obtain ⟨b, o, c', e, hgl, e0, e1, e2⟩ := H3.out.one hlt
      obtain ⟨rfl, rfl⟩ : pl = some ⟨b, o, none⟩ ∧ cl = c' := by simpa using e
      have il : (k : Int) < (fs.length : Int) := by omega
      have HAL := Lib.hid (show ∀ (j : Nat) (hj : j < fs.length), j < k + 1 → Op.bytesLess fs[j].f.name.toList s.toList = true from fun j hj h2 => by
        by_cases e : j = k
        · subst e; exact hless
        · exact hall j hj (by omega))
      generalize fs[k].f.name = nm at *
      clear hall e1 e2 e hgl
      go_wp2_with fail
      exact ⟨⟨k + 1, by go_num, by omega, HAL.out, rfl⟩, by simp [intOf]; omega⟩
    · have hstop : ∀ hk : k < fs.length, Op.bytesLess fs[k].f.name.toList s.toList = false := fun hk => by
        cases e : Op.bytesLess fs[k].f.name.toList s.toList
        · rfl
        · exact absurd ⟨hk, e⟩ hnext
      have HAL := Lib.hid hall
      have HST := Lib.hid hstop
      clear hall hnext hstop
      have hkl : k ≤ 16 := by omega
      have hsub : sliced pl 0 k cl 3 = .slice pl k cl := by unfold sliced; cases pl <;> simp [Addr.add]
      have hs1 := H3.out.l.src.sliced (lo := 0) (hi := k) (by omega) hk
      have hs2 := H3.out.l.src.sliced (lo := k) (hi := fs.length) hk (Nat.le_refl _)
      rw [hsub, Nat.sub_zero, Nat.zero_mul, List.drop_zero, rcells_take] at hs1
      rw [rcells_drop, List.take_of_length_le (by rw [rcells_length]; simp)] at hs2
      have HS1 := Lib.hid hs1
      have HO1 := Lib.hid (show ∀ u ∈ rcells (fs.take k), u.oneCell' = true from rcells_one (w := wr) fun r hr => H3.out.files r (List.mem_of_mem_take hr))
      have HO2 := Lib.hid (show ∀ u ∈ rcells (fs.drop k), u.oneCell' = true from rcells_one (w := wr) fun r hr => H3.out.files r (List.mem_of_mem_drop hr))
      have q1 : 0 + k ≤ maxLen := by unfold maxLen; omega
      have q2 : (0 + k) * 48 ≤ 140737488355328 := by omega
      clear hs1 hsub
      have HS2 := Lib.hid hs2
      by_cases hck : cl = k
      · have hkk : k = fs.length := by omega
        have il : (fs.length : Int) ≤ (k : Int) := by omega
        clear hs2
        subst hkk
        subst hck
        go_upto_region 15 with (at_builtin; refine wpList_appendSl _ rfl _ _ 38 rfl 68 i1 (.agg #[.string ByteArray.empty, .slice none 0 0, .int .i64 0]) 3 48 uFiles hi1 hy0 hy1 hy2 rfl (by omega) _ _ _ _ rfl (Sl.nil _ _ _) _ _ _ _ rfl HS1.out HO1.out q1 q2 ?_; intro p4 c4 g4 w4 h1 h2 h3; have A1 := Lib.hid h1; have A2 := Lib.hid h2.of_isnone; have A3 := Lib.hid (new_of h3); clear h1 h2 h3)
        have hA1 := A1.out
        simp only [Nat.zero_add, List.nil_append] at hA1
        have x0 := A2.out.cell (cell_at HBX.out 0 rfl) (fun x => x)
        have x1 := A2.out.cell (cell_at HBX.out 1 rfl) (fun x => x)
        have x2 := A2.out.cell (cell_at HBX.out 2 rfl) (fun x => x)
        have A4 := Lib.hid hA1
        have q3 : fs.length + 1 ≤ maxLen := by unfold maxLen; omega
        have q4 : (fs.length + 1) * 48 ≤ 140737488355328 := by omega
        have HN1 := Lib.hid (show Src (w4.alloc (.cells #[.string s, .slice p2 bs.length c2, .int .i64 sure] 68)) 3 (.slice (some ⟨w4.heap.size, 0, none⟩) 1 1) (some w4.heap.size) 1 (rcells [⟨⟨s, bs, sure⟩, .slice p2 bs.length c2, g2⟩]) from
          (Sl.made w4 68 3 1 #[.string s, .slice p2 bs.length c2, .int .i64 sure] 1 (by omega) (by unfold maxLen; omega) (by simp)).src)
        have A5 := Lib.hid (A4.out.fr (Fr.alloc No w4 (.cells #[.string s, .slice p2 bs.length c2, .int .i64 sure] 68)) fun _ _ x => x)
        have HO3 := Lib.hid (show ∀ u ∈ rcells [⟨⟨s, bs, sure⟩, .slice p2 bs.length c2, g2⟩], u.oneCell' = true by intro u hu; simp only [rcells, List.flatMap_cons, List.flatMap_nil, List.append_nil, List.mem_cons, List.not_mem_nil, or_false] at hu; rcases hu with rfl | rfl | rfl <;> rfl)
        clear hA1
        go_upto_region 16 with (at_builtin; refine wpList_appendSl _ rfl _ _ 38 rfl 68 i1 (.agg #[.string ByteArray.empty, .slice none 0 0, .int .i64 0]) 3 48 uFiles hi1 hy0 hy1 hy2 rfl (by omega) _ _ _ _ rfl A5.out _ _ _ _ rfl HN1.out HO3.out q3 q4 ?_; intro p5 c5 g5 w5 h1 h2 h3; have B1 := Lib.hid h1; have B2 := Lib.hid h2; have B3 := Lib.hid h3; clear h1 h2 h3)
        have hF5 := A2.out.step ((Fr.alloc (Is g4) _ _).trans B2.out) fun i hi e => by have := A3.out i e; omega
        have hn5 : New wr g5 := fun j hj => by
          rcases B3.out with e | ⟨e, _⟩
          · exact A3.out j (by rw [← e]; exact hj)
          · rw [e] at hj; cases hj; have := A2.out.size; simp; omega
        have c5' := hF5.cell c0 (fun x => x)
        have HSE := Lib.hid (show Src w5 3 (.slice pl 0 0) gl 0 (rcells (fs.drop fs.length)) from by have := HS2.out.fr hF5 fun _ _ x => x; simpa [sliced] using this)
        have HF5 := Lib.hid hF5
        have HN5 := Lib.hid hn5
        have q5 : fs.length + 1 + 0 ≤ maxLen := by unfold maxLen; omega
        have q6 : (fs.length + 1 + 0) * 48 ≤ 140737488355328 := by omega
        clear hF5 hn5 x0 x1 x2
        go_wp2_with (at_builtin; refine wpList_appendSl _ rfl _ _ 38 rfl 68 i1 (.agg #[.string ByteArray.empty, .slice none 0 0, .int .i64 0]) 3 48 uFiles hi1 hy0 hy1 hy2 rfl (by omega) _ _ _ _ rfl B1.out _ _ _ _ rfl HSE.out HO2.out q5 q6 ?_; intro p6 c6 g6 w6 h1 h2 h3; have C1 := Lib.hid h1; have C2 := Lib.hid h2; have C3 := Lib.hid h3; have c6' := (HF5.out.step h2 fun i hi e => by have := HN5.out i e; omega : Fr No wr w6).cell c0 (fun x => x); have c6f := free_at ((HF5.out.step h2 fun i hi e => by have := HN5.out i e; omega : Fr No wr w6).at H3.out.box fun x => x) 0; clear h1 h2 h3)
        have hF6 : Fr No wr w6 := HF5.out.step C2.out fun i hi e => by have := HN5.out i e; omega
        have hn6 : New wr g6 := fun j hj => by
          rcases C3.out with e | ⟨e, _⟩
          · exact HN5.out j (by rw [← e]; exact hj)
          · rw [e] at hj; cases hj; exact HF5.out.size
        have hN : fs.length + 1 + 0 = (fs.take fs.length ++ (⟨⟨s, bs, sure⟩, .slice p2 bs.length c2, g2⟩ : RRep) :: fs.drop fs.length).length := by rw [List.length_append, List.length_cons, List.length_take, List.length_drop]; omega
        have hrc : rcells (fs.take fs.length) ++ rcells [⟨⟨s, bs, sure⟩, .slice p2 bs.length c2, g2⟩] ++ rcells (fs.drop fs.length) = rcells (fs.take fs.length ++ (⟨⟨s, bs, sure⟩, .slice p2 bs.length c2, g2⟩ : RRep) :: fs.drop fs.length) := by
          rw [← rcells_append, ← rcells_append, List.append_assoc]; rfl
        have hl6 := C1.out
        rw [hrc, hN] at hl6
        have hdone := ins_done H3.out H2.out HF3.out hF6 hn6 fs.length s bs sure (.slice p2 bs.length c2) g2 K4.out (fun j hj => K3.out j hj) HBR.out hfit hsure HLEN.out hl6
        rw [← hN] at hdone
        exact HR.out fs.length _ _ _ _ _ hk HAL.out HST.out hdone
      · obtain ⟨b, o, rfl⟩ : ∃ b o, pl = some ⟨b, o, none⟩ := by
          rcases H3.out.l.out with ⟨e, _, e2, _⟩ | ⟨b, o, cap, e, _⟩
          · obtain ⟨_, _, h9⟩ : pl = none ∧ fs.length = 0 ∧ cl = 0 := by simpa using e
            omega
          · exact ⟨b, o, by injection e⟩
        have hs3 : sliced (some ⟨b, o, none⟩) k fs.length cl 3 = .slice (some ⟨b, o + k * 3, none⟩) (fs.length - k) (cl - k) := by
          unfold sliced
          rw [if_neg hck]
          simp only [Option.map_some]
          congr 2
          unfold Addr.add
          split
          · rename_i h9; rw [h9]; rfl
          · rfl
        rw [hs3] at hs2
        replace HS2 := Lib.hid hs2
        clear hs2 hs3
        by_cases hlt : k < fs.length
        · have il : (k : Int) < (fs.length : Int) := by omega
          obtain ⟨b', o', c', e, _, e0, e1, e2⟩ := H3.out.one hlt
          obtain ⟨⟨rfl, rfl⟩, rfl⟩ : (b = b' ∧ o = o') ∧ cl = c' := by simpa using e
          have hst := HST.out hlt
          generalize fs[k].f.name = nm at *
          clear e e1 e2
          go_upto_region 15 with (at_builtin; refine wpList_appendSl _ rfl _ _ 38 rfl 68 i1 (.agg #[.string ByteArray.empty, .slice none 0 0, .int .i64 0]) 3 48 uFiles hi1 hy0 hy1 hy2 rfl (by omega) _ _ _ _ rfl (Sl.nil _ _ _) _ _ _ _ rfl HS1.out HO1.out q1 q2 ?_; intro p4 c4 g4 w4 h1 h2 h3; have A1 := Lib.hid h1; have A2 := Lib.hid h2.of_isnone; have A3 := Lib.hid (new_of h3); clear h1 h2 h3)
          have hA1 := A1.out
          simp only [Nat.zero_add, List.nil_append] at hA1
          have x0 := A2.out.cell (cell_at HBX.out 0 rfl) (fun x => x)
          have x1 := A2.out.cell (cell_at HBX.out 1 rfl) (fun x => x)
          have x2 := A2.out.cell (cell_at HBX.out 2 rfl) (fun x => x)
          have A4 := Lib.hid hA1
          have q3 : k + 1 ≤ maxLen := by unfold maxLen; omega
          have q4 : (k + 1) * 48 ≤ 140737488355328 := by omega
          have HN1 := Lib.hid (show Src (w4.alloc (.cells #[.string s, .slice p2 bs.length c2, .int .i64 sure] 68)) 3 (.slice (some ⟨w4.heap.size, 0, none⟩) 1 1) (some w4.heap.size) 1 (rcells [⟨⟨s, bs, sure⟩, .slice p2 bs.length c2, g2⟩]) from
            (Sl.made w4 68 3 1 #[.string s, .slice p2 bs.length c2, .int .i64 sure] 1 (by omega) (by unfold maxLen; omega) (by simp)).src)
          have A5 := Lib.hid (A4.out.fr (Fr.alloc No w4 (.cells #[.string s, .slice p2 bs.length c2, .int .i64 sure] 68)) fun _ _ x => x)
          have HO3 := Lib.hid (show ∀ u ∈ rcells [⟨⟨s, bs, sure⟩, .slice p2 bs.length c2, g2⟩], u.oneCell' = true by intro u hu; simp only [rcells, List.flatMap_cons, List.flatMap_nil, List.append_nil, List.mem_cons, List.not_mem_nil, or_false] at hu; rcases hu with rfl | rfl | rfl <;> rfl)
          clear hA1
          go_upto_region 16 with (at_builtin; refine wpList_appendSl _ rfl _ _ 38 rfl 68 i1 (.agg #[.string ByteArray.empty, .slice none 0 0, .int .i64 0]) 3 48 uFiles hi1 hy0 hy1 hy2 rfl (by omega) _ _ _ _ rfl A5.out _ _ _ _ rfl HN1.out HO3.out q3 q4 ?_; intro p5 c5 g5 w5 h1 h2 h3; have B1 := Lib.hid h1; have B2 := Lib.hid h2; have B3 := Lib.hid h3; clear h1 h2 h3)
          have hF5 := A2.out.step ((Fr.alloc (Is g4) _ _).trans B2.out) fun i hi e => by have := A3.out i e; omega
          have hn5 : New wr g5 := fun j hj => by
            rcases B3.out with e | ⟨e, _⟩
            · exact A3.out j (by rw [← e]; exact hj)
            · rw [e] at hj; cases hj; have := A2.out.size; simp; omega
          have c5' := hF5.cell c0 (fun x => x)
          have HSE := Lib.hid (HS2.out.fr hF5 fun _ _ x => x)
          have HF5 := Lib.hid hF5
          have HN5 := Lib.hid hn5
          have q5 : k + 1 + (fs.length - k) ≤ maxLen := by unfold maxLen; omega
          have q6 : (k + 1 + (fs.length - k)) * 48 ≤ 140737488355328 := by omega
          clear hF5 hn5 x0 x1 x2
          go_wp2_with (at_builtin; refine wpList_appendSl _ rfl _ _ 38 rfl 68 i1 (.agg #[.string ByteArray.empty, .slice none 0 0, .int .i64 0]) 3 48 uFiles hi1 hy0 hy1 hy2 rfl (by omega) _ _ _ _ rfl B1.out _ _ _ _ rfl HSE.out HO2.out q5 q6 ?_; intro p6 c6 g6 w6 h1 h2 h3; have C1 := Lib.hid h1; have C2 := Lib.hid h2; have C3 := Lib.hid h3; have c6' := (HF5.out.step h2 fun i hi e => by have := HN5.out i e; omega : Fr No wr w6).cell c0 (fun x => x); have c6f := free_at ((HF5.out.step h2 fun i hi e => by have := HN5.out i e; omega : Fr No wr w6).at H3.out.box fun x => x) 0; clear h1 h2 h3)
          have hF6 : Fr No wr w6 := HF5.out.step C2.out fun i hi e => by have := HN5.out i e; omega
          have hn6 : New wr g6 := fun j hj => by
            rcases C3.out with e | ⟨e, _⟩
            · exact HN5.out j (by rw [← e]; exact hj)
            · rw [e] at hj; cases hj; exact HF5.out.size
          have hN : k + 1 + (fs.length - k) = (fs.take k ++ (⟨⟨s, bs, sure⟩, .slice p2 bs.length c2, g2⟩ : RRep) :: fs.drop k).length := by rw [List.length_append, List.length_cons, List.length_take, List.length_drop]; omega
          have hrc : rcells (fs.take k) ++ rcells [⟨⟨s, bs, sure⟩, .slice p2 bs.length c2, g2⟩] ++ rcells (fs.drop k) = rcells (fs.take k ++ (⟨⟨s, bs, sure⟩, .slice p2 bs.length c2, g2⟩ : RRep) :: fs.drop k) := by
            rw [← rcells_append, ← rcells_append, List.append_assoc]; rfl
          have hl6 := C1.out
          rw [hrc, hN] at hl6
          have hdone := ins_done H3.out H2.out HF3.out hF6 hn6 k s bs sure (.slice p2 bs.length c2) g2 K4.out (fun j hj => K3.out j hj) HBR.out hfit hsure HLEN.out hl6
          rw [← hN] at hdone
          exact HR.out k _ _ _ _ _ hk HAL.out HST.out hdone

        · have il : (fs.length : Int) ≤ (k : Int) := by omega
          go_upto_region 15 with (at_builtin; refine wpList_appendSl _ rfl _ _ 38 rfl 68 i1 (.agg #[.string ByteArray.empty, .slice none 0 0, .int .i64 0]) 3 48 uFiles hi1 hy0 hy1 hy2 rfl (by omega) _ _ _ _ rfl (Sl.nil _ _ _) _ _ _ _ rfl HS1.out HO1.out q1 q2 ?_; intro p4 c4 g4 w4 h1 h2 h3; have A1 := Lib.hid h1; have A2 := Lib.hid h2.of_isnone; have A3 := Lib.hid (new_of h3); clear h1 h2 h3)
          have hA1 := A1.out
          simp only [Nat.zero_add, List.nil_append] at hA1
          have x0 := A2.out.cell (cell_at HBX.out 0 rfl) (fun x => x)
          have x1 := A2.out.cell (cell_at HBX.out 1 rfl) (fun x => x)
          have x2 := A2.out.cell (cell_at HBX.out 2 rfl) (fun x => x)
          have A4 := Lib.hid hA1
          have q3 : k + 1 ≤ maxLen := by unfold maxLen; omega
          have q4 : (k + 1) * 48 ≤ 140737488355328 := by omega
          have HN1 := Lib.hid (show Src (w4.alloc (.cells #[.string s, .slice p2 bs.length c2, .int .i64 sure] 68)) 3 (.slice (some ⟨w4.heap.size, 0, none⟩) 1 1) (some w4.heap.size) 1 (rcells [⟨⟨s, bs, sure⟩, .slice p2 bs.length c2, g2⟩]) from
            (Sl.made w4 68 3 1 #[.string s, .slice p2 bs.length c2, .int .i64 sure] 1 (by omega) (by unfold maxLen; omega) (by simp)).src)
          have A5 := Lib.hid (A4.out.fr (Fr.alloc No w4 (.cells #[.string s, .slice p2 bs.length c2, .int .i64 sure] 68)) fun _ _ x => x)
          have HO3 := Lib.hid (show ∀ u ∈ rcells [⟨⟨s, bs, sure⟩, .slice p2 bs.length c2, g2⟩], u.oneCell' = true by intro u hu; simp only [rcells, List.flatMap_cons, List.flatMap_nil, List.append_nil, List.mem_cons, List.not_mem_nil, or_false] at hu; rcases hu with rfl | rfl | rfl <;> rfl)
          clear hA1
          go_upto_region 16 with (at_builtin; refine wpList_appendSl _ rfl _ _ 38 rfl 68 i1 (.agg #[.string ByteArray.empty, .slice none 0 0, .int .i64 0]) 3 48 uFiles hi1 hy0 hy1 hy2 rfl (by omega) _ _ _ _ rfl A5.out _ _ _ _ rfl HN1.out HO3.out q3 q4 ?_; intro p5 c5 g5 w5 h1 h2 h3; have B1 := Lib.hid h1; have B2 := Lib.hid h2; have B3 := Lib.hid h3; clear h1 h2 h3)
          have hF5 := A2.out.step ((Fr.alloc (Is g4) _ _).trans B2.out) fun i hi e => by have := A3.out i e; omega
          have hn5 : New wr g5 := fun j hj => by
            rcases B3.out with e | ⟨e, _⟩
            · exact A3.out j (by rw [← e]; exact hj)
            · rw [e] at hj; cases hj; have := A2.out.size; simp; omega
          have c5' := hF5.cell c0 (fun x => x)
          have HSE := Lib.hid (HS2.out.fr hF5 fun _ _ x => x)
          have HF5 := Lib.hid hF5
          have HN5 := Lib.hid hn5
          have q5 : k + 1 + (fs.length - k) ≤ maxLen := by unfold maxLen; omega
          have q6 : (k + 1 + (fs.length - k)) * 48 ≤ 140737488355328 := by omega
          clear hF5 hn5 x0 x1 x2
          go_wp2_with (at_builtin; refine wpList_appendSl _ rfl _ _ 38 rfl 68 i1 (.agg #[.string ByteArray.empty, .slice none 0 0, .int .i64 0]) 3 48 uFiles hi1 hy0 hy1 hy2 rfl (by omega) _ _ _ _ rfl B1.out _ _ _ _ rfl HSE.out HO2.out q5 q6 ?_; intro p6 c6 g6 w6 h1 h2 h3; have C1 := Lib.hid h1; have C2 := Lib.hid h2; have C3 := Lib.hid h3; have c6' := (HF5.out.step h2 fun i hi e => by have := HN5.out i e; omega : Fr No wr w6).cell c0 (fun x => x); have c6f := free_at ((HF5.out.step h2 fun i hi e => by have := HN5.out i e; omega : Fr No wr w6).at H3.out.box fun x => x) 0; clear h1 h2 h3)
          have hF6 : Fr No wr w6 := HF5.out.step C2.out fun i hi e => by have := HN5.out i e; omega
          have hn6 : New wr g6 := fun j hj => by
            rcases C3.out with e | ⟨e, _⟩
            · exact HN5.out j (by rw [← e]; exact hj)
            · rw [e] at hj; cases hj; exact HF5.out.size
          have hN : k + 1 + (fs.length - k) = (fs.take k ++ (⟨⟨s, bs, sure⟩, .slice p2 bs.length c2, g2⟩ : RRep) :: fs.drop k).length := by rw [List.length_append, List.length_cons, List.length_take, List.length_drop]; omega
          have hrc : rcells (fs.take k) ++ rcells [⟨⟨s, bs, sure⟩, .slice p2 bs.length c2, g2⟩] ++ rcells (fs.drop k) = rcells (fs.take k ++ (⟨⟨s, bs, sure⟩, .slice p2 bs.length c2, g2⟩ : RRep) :: fs.drop k) := by
            rw [← rcells_append, ← rcells_append, List.append_assoc]; rfl
          have hl6 := C1.out
          rw [hrc, hN] at hl6
          have hdone := ins_done H3.out H2.out HF3.out hF6 hn6 k s bs sure (.slice p2 bs.length c2) g2 K4.out (fun j hj => K3.out j hj) HBR.out hfit hsure HLEN.out hl6
          rw [← hN] at hdone
          exact HR.out k _ _ _ _ _ hk HAL.out HST.out hdone

end Go.Proofs.Ythjpjekaiflibaa
