/- The document's disk: a file that is there is set anew. -/
import Derived.Test.YthjpjekaiflibaaRef3
import Derived.RegionTactic
import Derived.BigRegion
namespace Go.Proofs.Ythjpjekaiflibaa
open Go.RowKit
theorem info_file : (Try.prog.info? 68).map (fun i => (i.zero, i.size, i.bytes)) = some (some (.agg #[.string ByteArray.empty, .slice none 0 0, .int .i64 0]), 3, 48) := by kernel_rfl
theorem Fr.of_isnone {w w' : World} (h : Fr (Is none) w w') : Fr No w w' := h.mono fun _ _ e => by cases e
theorem new_of {w w' : World} {g : Option Nat} (h : g = none ∨ (g = some w.heap.size ∧ w.heap.size < w'.heap.size)) : New w g := by
  intro k hk
  rcases h with h | ⟨h, _⟩
  · rw [h] at hk; cases hk
  · rw [h] at hk; cases hk; exact Nat.le_refl _
theorem set_rep {w : World} {br b o c : Nat} {fs : List RRep} {burns : Bool} {fuse : Int} {dead : Bool} (h : RefRep w br (.slice (some ⟨b, o, none⟩) fs.length c) (some b) fs burns fuse dead) {k : Nat} (hk : k < fs.length) (s : ByteArray) (bs : List UInt8) (sure : Nat) (v : Value) (g : Option Nat) (hb : By w v g bs) (hg : ∀ j, g = some j → j ≠ br ∧ j ≠ b) (hfit : bs.length ≤ 1048576) (hsure : sure ≤ bs.length) :
    RefRep ((((w.setCell ⟨b, o + k * 3, none⟩ (.string s)).setCell ⟨b, o + k * 3 + 1, none⟩ v).setCell ⟨b, o + k * 3 + 2, none⟩ (.int .i64 sure)).drew) br (.slice (some ⟨b, o, none⟩) fs.length c) (some b) (fs.set k ⟨⟨s, bs, sure⟩, v, g⟩) burns fuse dead ∧
      Fr (Is (some b)) w ((((w.setCell ⟨b, o + k * 3, none⟩ (.string s)).setCell ⟨b, o + k * 3 + 1, none⟩ v).setCell ⟨b, o + k * 3 + 2, none⟩ (.int .i64 sure)).drew) := by
  have hF : Fr (Is (some b)) w ((((w.setCell ⟨b, o + k * 3, none⟩ (.string s)).setCell ⟨b, o + k * 3 + 1, none⟩ v).setCell ⟨b, o + k * 3 + 2, none⟩ (.int .i64 sure)).drew) :=
    (((Fr.set _ _ _ _).trans (Fr.set _ _ _ _)).trans (Fr.set _ _ _ _)).trans (Fr.drew _ _)
  have hbr : b ≠ br := fun e => h.nb (by rw [e])
  refine ⟨⟨hF.at h.box fun e => hbr (Option.some.inj e), ?_, fun r hr => ?_, h.nb, fun r hr => ?_, by simpa using h.few, fun r hr => ?_, h.fz⟩, hF⟩
  · have l1 := Sl.set h.l (k * 3) (by omega) (.string s)
    have l2 := Sl.set l1 (k * 3 + 1) (by omega) v
    have l3 := Sl.set l2 (k * 3 + 2) (by omega) (.int .i64 sure)
    rw [List.length_set, rcells_set hk]
    exact (l3.fr (Fr.drew No _) fun _ _ x => x)
  · rcases List.mem_or_eq_of_mem_set hr with hr | rfl
    · exact (h.files r hr).fr hF fun j hj e => (h.nf r hr j hj).2 (by rw [Option.some.inj e])
    · exact hb.fr hF fun j hj e => (hg j hj).2 (Option.some.inj e).symm
  · rcases List.mem_or_eq_of_mem_set hr with hr | rfl
    · exact h.nf r hr
    · exact fun j hj => ⟨(hg j hj).1, fun e => (hg j hj).2 (Option.some.inj e).symm⟩
  · rcases List.mem_or_eq_of_mem_set hr with hr | rfl
    · exact h.most r hr
    · exact ⟨hfit, hsure⟩
set_option maxRecDepth 100000 in
set_option maxHeartbeats 8000000 in
theorem rset_old {R : Ending → World → Prop} {w : World} {br : Nat} {vl : Value} {gl : Option Nat} {fs : List RRep} {burns : Bool} {fuse : Int} {dead : Bool} (h : RefRep w br vl gl fs burns fuse dead) (s : ByteArray) (v : Value) (gv : Option Nat) (bs : List UInt8) (hb : Bs w v gv bs) (hgv : gv ≠ some br) (sure : Nat)
    (hfit : bs.length ≤ 1048576) (hsure : sure ≤ bs.length) (hold : ∃ r ∈ fs, r.f.name = s) (hbu : burnOk burns fuse = true)
    (hR : ∀ (k : Nat) (hk : k < fs.length) w' v' g', fs[k].f.name = s → SetTo w w' br gl fs vl gl (fs.set k ⟨⟨s, bs, sure⟩, v', g'⟩) burns (rfuse burns fuse) dead → R (.returned (.int .i64 0)) w') :
    Calls Try.prog 49 #[.pointer (some ⟨br, 0, none⟩), .string s, v, .int .i64 sure] w R := by
  have HR := Lib.hid hR
  have H := Lib.hid h
  have HB := Lib.hid hb
  obtain ⟨i0, hi0, hz0, hz1, hz2⟩ := info_parts info8
  obtain ⟨p, c, rfl, _⟩ := Src.form hb
  obtain ⟨pl, cl, rfl, _⟩ := Sl.form h.l
  have c0 := cell_at h.box 0 rfl
  have HBU := Lib.hid hbu
  have jb : (bs.length : Int) ≤ 1048576 := by omega
  have hex : ∀ i, AtIs fs s i → ∃ (k : Nat) (hk : k < fs.length), i = k ∧ fs[k].f.name = s := fun i hi => by
    rcases hi with ⟨rfl, hno⟩ | h
    · obtain ⟨r, hr, e⟩ := hold
      exact absurd e (hno r hr)
    · exact h
  have HEX := Lib.hid hex
  have HGV := Lib.hid hgv
  have b1 : 0 + bs.length ≤ maxLen := by unfold maxLen; omega
  have b2 : (0 + bs.length) * 1 ≤ 140737488355328 := by omega
  clear hR h hb hbu hold hex hgv
  go_enter Try.func49, Try.ntmps49
  go_upto_region 2 with (go_at_call 48; refine rat_any H.out s ?_; intro i hi; obtain ⟨k, hk, rfl, hnm⟩ := HEX.out i hi; clear hi)
  have hfew := H.out.few
  have ik0 : (0 : Int) ≤ (k : Int) := by omega
  have HNM := Lib.hid hnm
  clear hnm
  go_upto_region 6 with (go_at_call 50; refine rburn_any H.out ?_; rw [HBU.out]; intro w1 h1 h2; rw [Bool.not_true, Bool.or_false] at h1; have H1 := Lib.hid (show RefRep w1 br _ gl fs burns (rfuse burns fuse) dead from h1); have H2 := Lib.hid h2; have HB1 := Lib.hid (HB.out.fr h2 fun k hk e => HGV.out (by rw [hk, Option.some.inj e])); clear h1 h2)
  go_upto_region 7 with (at_builtin; refine wpList_appendSl _ rfl _ _ 28 rfl 5 i0 (.int .u8 0) 1 1 uBytes hi0 hz0 hz1 hz2 rfl (by omega) _ _ _ _ rfl (Sl.nil _ _ _) _ _ _ _ rfl HB1.out (encB_one _) b1 b2 ?_; intro p2 c2 g2 w2 h1 h2 h3; have K1 := Lib.hid (show By w2 (.slice p2 bs.length c2) g2 bs by simpa [By] using h1); have K2 := Lib.hid h2.of_isnone; have K3 := Lib.hid (new_of h3); clear h1 h2 h3)
  have hF3 : Fr No w1 (w2.alloc (.cells #[.string s, .slice p2 bs.length c2, .int .i64 sure] 68)) := K2.out.trans (Fr.alloc _ _ _)
  have hbx := heap_new w2 (.cells #[.string s, .slice p2 bs.length c2, .int .i64 sure] 68)
  have K4 := Lib.hid (K1.out.fr (Fr.alloc No w2 (.cells #[.string s, .slice p2 bs.length c2, .int .i64 sure] 68)) fun _ _ x => x)
  have H3 := Lib.hid (H1.out.fr hF3 fun _ _ x => x)
  have HF3 := Lib.hid hF3
  have HSZ := Lib.hid (K2.out.size)
  clear hF3 K1 K2 c0
  generalize w2.alloc (.cells #[.string s, .slice p2 bs.length c2, .int .i64 sure] 68) = w3 at *
  generalize w2.heap.size = bx at *
  obtain ⟨b, o, c', e, hgl, e0, e1, e2⟩ := H3.out.one hk
  obtain ⟨rfl, rfl⟩ : pl = some ⟨b, o, none⟩ ∧ cl = c' := by simpa using e
  have HGL := Lib.hid hgl
  have c0 := cell_at H3.out.box 0 rfl
  have x0 := cell_at hbx 0 rfl
  have x1 := cell_at hbx 1 rfl
  have x2 := cell_at hbx 2 rfl
  have hfree : ∀ j, w3.frozen? ⟨b, j, none⟩ = false := by
    rcases H3.out.l.out with ⟨e, _⟩ | ⟨b', o', cap, e', _, _, _, _, _, hz⟩
    · cases e
    · obtain ⟨⟨rfl, rfl⟩, rfl⟩ : (b = b' ∧ o = o') ∧ cl = cap := by simpa using e'
      exact hz
  have u0 := hfree (o + k * 3)
  have u1 := hfree (o + k * 3 + 1)
  have u2 := hfree (o + k * 3 + 2)
  have il : (k : Int) < (fs.length : Int) := by omega
  clear hfree hgl e hbx
  go_wp2_with fail
  go_region
  go_wp2_with fail
  refine HR.out k hk _ (.slice p2 bs.length c2) g2 HNM.out ?_
  have hlt := H1.out.lt
  have hg2 : ∀ j, g2 = some j → j ≠ br ∧ j ≠ b := fun j hj => by
    have k3 := K3.out j hj
    have k1 := hlt br (mem_rown.2 (.inl rfl))
    have k2 := hlt b (mem_rown.2 (.inr (.inl HGL.out)))
    exact ⟨by omega, by omega⟩
  have hg := HGL.out
  subst hg
  obtain ⟨hr, hFx⟩ := set_rep H3.out hk s bs sure (.slice p2 bs.length c2) g2 K4.out hg2 hfit hsure
  have hF12 := H2.out.trans (HF3.out.of_no (T := Is (some br)))
  refine ⟨hr, (hF12.mono fun i _ hi => mem_rown.2 (.inl (Option.some.inj hi).symm)).trans (hFx.mono fun i _ hi => mem_rown.2 (.inr (.inl hi))), fun j hj => ?_⟩
  rcases mem_rown.1 hj with hj | hj | ⟨r, hr, hj⟩
  · exact .inl (mem_rown.2 (.inl hj))
  · exact .inl (mem_rown.2 (.inr (.inl hj)))
  · rcases List.mem_or_eq_of_mem_set hr with hr | rfl
    · exact .inl (mem_rown.2 (.inr (.inr ⟨r, hr, hj⟩)))
    · have := K3.out j hj
      have := H2.out.size
      exact .inr (by omega)
end Go.Proofs.Ythjpjekaiflibaa
