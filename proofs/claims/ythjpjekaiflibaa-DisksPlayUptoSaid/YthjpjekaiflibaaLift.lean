/- Lift: what a loss leaves. -/
import Derived.Test.YthjpjekaiflibaaNames
namespace Go.Proofs.Ythjpjekaiflibaa
open Go.RowKit

/-- How many of the bytes that were not sure are left at a place. -/
def more (loss : List Int) (i : Nat) : Int := if i < loss.length then max 0 (loss.getD i 0) else 0
def liftN (m : Int) (f : File) : Nat := f.sure + (min m ((f.bytes.length : Int) - f.sure)).toNat
def liftF (m : Int) (f : File) : File := { f with bytes := f.bytes.take (liftN m f), sure := liftN m f }
def liftAll (loss : List Int) : Nat → List (List UInt8) → List File → List File
  | _, [], L => L
  | i, s :: ss, L => liftAll loss (i + 1) ss (L.map fun f => if f.name.data.toList = s then liftF (more loss i) f else f)
/-- A slice of whole numbers. -/
def Is64 (w : World) (v : Value) (g : Option Nat) (zs : List Int) : Prop := Src w 1 v g zs.length (zs.map (Value.int .i64))
theorem Is64.fr {S : Nat → Prop} {w w' : World} {v : Value} {g : Option Nat} {zs : List Int} (h : Is64 w v g zs) (hF : Fr S w w') (hs : ∀ k, g = some k → ¬ S k) : Is64 w' v g zs := Src.fr h hF hs

/-- A file's block, sure and bytes cut. -/
theorem FileAt.cut {w : World} {r : Rep} (h : FileAt w r) (hne : r.g ≠ some r.fb) (n : Nat) (hn : n ≤ r.f.bytes.length) (p : Option Addr) (hp : ∃ c, r.v = .slice p r.f.bytes.length c) :
    FileAt ((w.setCell ⟨r.fb, 1, none⟩ (.int .i64 n)).setCell ⟨r.fb, 0, none⟩ (.slice p n n)) { r with f := { r.f with bytes := r.f.bytes.take n, sure := n }, v := .slice p n n } := by
  have hF : Fr (Is (some r.fb)) w ((w.setCell ⟨r.fb, 1, none⟩ (.int .i64 n)).setCell ⟨r.fb, 0, none⟩ (.slice p n n)) := (Fr.set w r.fb 1 _).trans (Fr.set _ r.fb 0 _)
  obtain ⟨c, hc⟩ := hp
  have hb : By w (.slice p n n) r.g (r.f.bytes.take n) := by
    have hl := h.by_
    rw [hc] at hl
    have hlen : (r.f.bytes.take n).length = n := by simp; omega
    refine ⟨by simp, ?_⟩
    rcases hl.2 with ⟨e1, e2, e3⟩ | ⟨b, o, cap, cur, e1, e2, hb, h1, h2, h3, h4⟩
    · left
      have hn0 : n = 0 := by omega
      have e4 : p = none := by
        have := e1
        simp at this
        exact this.1
      subst hn0 e4
      exact ⟨rfl, e2, by simp⟩
    · right
      have e4 : p = some ⟨b, o, none⟩ ∧ c = cap := by simpa using e1
      obtain ⟨rfl, rfl⟩ := e4
      refine ⟨b, o, n, cur, by rw [hlen], e2, hb, by omega, by omega, by omega, ?_⟩
      rw [hlen, List.map_take, ← h4, List.take_take]
      congr 1
      omega
  exact ⟨by rw [setCell_box (setCell_box h.box _)]; simp, hb.fr hF (fun k hk e => hne (by rw [hk]; exact e.symm)), by simp; omega, by have := h.most; simp; omega, h.nm⟩

/-- Up to a place of the names. -/
theorem liftAll_snoc (loss : List Int) (s : List UInt8) : ∀ (A : List (List UInt8)) (i : Nat) (L : List File), liftAll loss i (A ++ [s]) L = (liftAll loss i A L).map fun f => if f.name.data.toList = s then liftF (more loss (i + A.length)) f else f
  | [], i, L => by simp [liftAll]
  | a :: A, i, L => by
    simp only [List.cons_append, liftAll, liftAll_snoc loss s A (i + 1), List.length_cons]
    rw [show i + 1 + A.length = i + (A.length + 1) by omega]
theorem liftAll_names (loss : List Int) : ∀ (A : List (List UInt8)) (i : Nat) (L : List File), (liftAll loss i A L).map (·.name) = L.map (·.name)
  | [], i, L => rfl
  | a :: A, i, L => by
    rw [liftAll, liftAll_names loss A]
    rw [List.map_map]
    apply List.map_congr_left
    intro f _
    simp only [Function.comp_def]
    split <;> rfl
theorem rep_ne {w : World} {bd mb : Nat} {fuse : Int} {dead : Bool} {rs : List Rep} (h : DiskRep w bd mb fuse dead rs) {r : Rep} (hr : r ∈ rs) : r.g ≠ some r.fb := by
  intro e
  have hn := h.nodup
  simp only [own, List.nodup_cons] at hn
  have := (List.pairwise_flatMap.1 hn.2.2).1 r hr
  simp [Rep.blocks, e] at this
theorem nodup_eq : ∀ {L : List File} {a b : File} (_ : (L.map (·.name)).Nodup) (_ : a ∈ L) (_ : b ∈ L) (_ : a.name = b.name), a = b
  | [], _, _, _, h, _, _ => by simp at h
  | x :: L, a, b, hn, ha, hb, e => by
    simp only [List.map_cons, List.nodup_cons] at hn
    have ha := List.mem_cons.1 ha
    have hb := List.mem_cons.1 hb
    rcases ha with ha | ha
    · rcases hb with hb | hb
      · rw [ha, hb]
      · exact absurd (by rw [← ha, e]; exact List.mem_map.2 ⟨b, hb, rfl⟩) hn.1
    · rcases hb with hb | hb
      · exact absurd (by rw [← hb, ← e]; exact List.mem_map.2 ⟨a, ha, rfl⟩) hn.1
      · exact nodup_eq hn.2 ha hb e
theorem own_same {bd mb : Nat} {rs : List Rep} {s : ByteArray} {r r' : Rep} (hr : repOf rs s = some r) (hb : r'.fb = r.fb) (hg : r'.g = r.g) : ∀ k, k ∈ own bd mb (turned rs s r') → k ∈ own bd mb rs := by
  intro k hk
  have hm := repOf_mem hr
  simp only [own, turned, List.mem_cons, List.mem_flatMap, List.mem_map] at hk ⊢
  rcases hk with h | h | ⟨q, ⟨q0, hq0, rfl⟩, hk⟩
  · exact .inl h
  · exact .inr (.inl h)
  · split at hk
    · exact .inr (.inr ⟨r, hm.1, by simpa [Rep.blocks, hb, hg] using hk⟩)
    · exact .inr (.inr ⟨q0, hq0, hk⟩)
/-- Between two rounds of Lift. -/
def LiftRel (bd mb : Nat) (fuse : Int) (dead : Bool) (rs : List Rep) (loss : List Int) (ns : List (List UInt8)) (w1 : World) (i : Value) (wr : World) : Prop :=
  ∃ (k : Nat) (rs' : List Rep), i = .int .i64 k ∧ k ≤ ns.length ∧ DiskRep wr bd mb fuse dead rs' ∧ files rs' = liftAll loss 0 (ns.take k) (files rs) ∧ (∀ x, x ∈ own bd mb rs' → x ∈ own bd mb rs) ∧ Fr (· ∈ own bd mb rs) w1 wr
section
variable {bd mb : Nat} {fuse : Int} {dead : Bool} {rs : List Rep} {w : World} (h : DiskRep w bd mb fuse dead rs)
include h
set_option maxRecDepth 100000 in
set_option maxHeartbeats 4000000 in
theorem lift_any (HSort : SortS) {R : Ending → World → Prop} (vl : Value) (gl : Option Nat) (loss : List Int) (hl : Is64 w vl gl loss) (hgl : ∀ k, gl = some k → k ∉ own bd mb rs) (hz : ∀ z ∈ loss, -9223372036854775808 ≤ z ∧ z ≤ 9223372036854775807)
    (hR : ∀ w', Left bd mb rs w w' ⟨liftAll loss 0 (sortL (rs.map fun r => r.f.name.data.toList)) (files rs), -1, false⟩ → R (.returned (.tuple #[])) w') :
    Calls Try.prog 12 #[.pointer (some ⟨bd, 0, none⟩), vl] w R := by
  have HR := Lib.hid hR
  have c0 := h.c0
  have hfew := h.few
  have hlow := h.low
  have hhigh := h.high
  obtain ⟨pl, cl, rfl, hcl⟩ := Src.form hl
  have hlen : loss.length ≤ 9223372036854775807 := by have := Src.len_le hl; unfold maxLen at this; omega
  have HL := Lib.hid hl
  have HGL := Lib.hid hgl
  have HZ := Lib.hid hz
  have HD := Lib.hid h
  clear hR h hl hgl hz
  go_enter Try.func12, Try.ntmps12
  go_wp2_with (first
    | (go_at_call 21; refine (there_at _ _ _ c0).mono ?_; rintro e w' ⟨rfl, rfl⟩)
    | (go_at_call 20; refine names_any HD.out HSort ?_; intro vn gn w1 h1 h2 h3; obtain ⟨pn, cn, rfl, hcn⟩ := Sl.form h1; have h1' := Lib.hid h1; have h2' := Lib.hid h2; have h3' := Lib.hid h3; clear h1 h2 h3))
  obtain ⟨ns, hns⟩ : ∃ ns, ns = sortL (rs.map fun r => r.f.name.data.toList) := ⟨_, rfl⟩
  rw [← hns] at HR h1' hcn ⊢
  have HNS := Lib.hid hns
  have hnl : ns.length = rs.length := by rw [hns]; simp [sortL]
  have hn16 : ns.length ≤ 16 := by omega
  clear hns hnl
  go_loopw [14] (fun i wr => LiftRel bd mb fuse dead rs loss ns w1 i wr) (fun i _ => 16 - (intOf i).toNat)
  case atStart => exact ⟨0, rs, rfl, Nat.zero_le _, HD.out.fr h2'.out fun _ _ x => x, rfl, fun x hx => hx, Fr.refl _ _⟩
  case round =>
    obtain ⟨k, rs', rfl, hk, hd, hfs, hown, hF⟩ := hrel
    have HD' := Lib.hid hd
    have HFS := Lib.hid hfs
    have HOWN := Lib.hid hown
    have HF := Lib.hid hF
    by_cases hlt : k < ns.length
    · have hnew : ∀ j, gn = some j → ¬ j ∈ own bd mb rs := fun j hj e => by have := h3'.out j hj; have := HD.out.lt j e; omega
      have hst : St wr (.slice pn ns.length cn) gn ns := h1'.out.fr hF hnew
      obtain ⟨bn, on, rfl, hcell⟩ : ∃ bn on, pn = some ⟨bn, on, none⟩ ∧ ∀ j u, (ns.map encStr)[j]? = some u → wr.cell? ⟨bn, on + j, none⟩ = some u := by
        rcases Sl.out hst with ⟨e, _, h0, _⟩ | ⟨b, o, cap, e, _, _, _, _, hc, _⟩
        · exact absurd hlt (by rw [h0]; omega)
        · refine ⟨b, o, ?_, hc⟩
          have : pn = some ⟨b, o, none⟩ ∧ cn = cap := by simpa using e
          exact this.1
      have hname := hcell k (encStr ns[k]) (by simp [hlt])
      have hnm : ns[k] ∈ rs.map fun r => r.f.name.data.toList := by
        have h0 : ns[k] ∈ ns := List.getElem_mem hlt
        have h1 : ∀ x, x ∈ ns → x ∈ sortL (rs.map fun r => r.f.name.data.toList) := fun x hx => by rw [← HNS.out]; exact hx
        exact (List.mergeSort_perm _ _).subset (h1 _ h0)
      generalize hs : ns[k] = s at hname hnm
      have HSK := Lib.hid hs
      obtain ⟨r, hr⟩ : ∃ r, repOf rs' ⟨s.toArray⟩ = some r := by
        have e1 : (files rs').map (·.name) = (files rs).map (·.name) := by rw [hfs, liftAll_names]
        simp only [files, List.map_map, Function.comp_def] at e1
        obtain ⟨r0, hr0, e0⟩ := List.mem_map.1 hnm
        have : r0.f.name ∈ rs'.map fun r => r.f.name := by rw [e1]; exact List.mem_map.2 ⟨r0, hr0, rfl⟩
        obtain ⟨r1, hr1, e2⟩ := List.mem_map.1 this
        have hq : r1.f.name = ⟨s.toArray⟩ := by rw [e2, ← e0]
        cases hh : repOf rs' ⟨s.toArray⟩ with
        | some r => exact ⟨r, rfl⟩
        | none =>
          simp only [repOf, List.find?_eq_none] at hh
          exact absurd (by simpa using hq) (hh r1 hr1)
      have hlook := hd.map.look uMap uStr (zPf wr) ⟨s.toArray⟩
      rw [look_rep, hr] at hlook
      simp only [ptr] at hlook
      have hm := repOf_mem hr
      have hfile := hd.files r hm.1
      have d0 := hd.c0
      have e0 := hfile.c0
      have e1 := hfile.c1
      have g0 := hfile.fz 0
      have g1 := hfile.fz 1
      obtain ⟨pr, cr, hv, hcr⟩ := Sl.form hfile.by_
      rw [hv] at e0
      have hsu := hfile.sure
      have hmo := hfile.most
      have HREP := Lib.hid hr
      have HV := Lib.hid hv
      have hls : Is64 wr (.slice pl loss.length cl) gl loss := (HL.out.fr h2'.out (fun _ _ x => x)).fr hF HGL.out
      have HLS := Lib.hid hls
      clear hd hfs hown hF hnew hst hcell hs hnm hr hm hfile hv hls
      have ik : (0 : Int) ≤ (k : Int) := by omega
      have il : (k : Int) < (ns.length : Int) := by omega
      go_upto_if 28 with fail
      obtain ⟨m, hm⟩ : ∃ m, m = more loss k := ⟨_, rfl⟩
      have HM := Lib.hid hm
      clear hm
      go_cut [7] (fun v wc => v = .int .i64 m ∧ wc = wr)
      case first =>
        by_cases hkl : k < loss.length
        · have jl : (k : Int) < (loss.length : Int) := by omega
          obtain ⟨bl, ol, rfl, hcell⟩ : ∃ bl ol, pl = some ⟨bl, ol, none⟩ ∧ wr.cell? ⟨bl, ol + k, none⟩ = some (.int .i64 (loss.getD k 0)) := by
            obtain ⟨_, p, c, e, _, _, _, h0 | ⟨b, o, e1, _, hc⟩⟩ := HLS.out
            · exact absurd hkl (by rw [h0]; omega)
            · refine ⟨b, o, ?_, hc k _ (by simp [hkl])⟩
              have : pl = p ∧ cl = c := by simpa using e
              exact this.1.trans e1
          have hmm : m = max 0 (loss.getD k 0) := by rw [HM.out, more, if_pos hkl]
          generalize loss.getD k 0 = z at *
          have HMM := Lib.hid hmm
          clear hmm
          by_cases hz0 : 0 < z
          · go_wp2_with fail
            go_meet
            case rel => exact ⟨by rw [HMM.out, show max 0 z = z by omega], rfl⟩
          · go_wp2_with fail
            go_meet
            case rel => exact ⟨by rw [HMM.out, show max 0 z = 0 by omega], rfl⟩
        · have hmm : m = 0 := by rw [HM.out, more, if_neg hkl]
          have HMM := Lib.hid hmm
          clear hmm
          go_wp2_with fail
          go_meet
          case rel => exact ⟨by rw [HMM.out], rfl⟩
      case rest =>
        obtain ⟨rfl, rfl⟩ := hcut
        go_upto_region 7 with fail
        have hm0 : 0 ≤ m := by rw [HM.out, more]; split <;> omega
        have w1' : IntKind.i64.wrap ((r.f.bytes.length : Int) - (r.f.sure : Int)) = (r.f.bytes.length : Int) - (r.f.sure : Int) := IntWalk.i64_in _ (by omega)
        go_cut [] (fun wx => wx = (wc.setCell ⟨r.fb, 1, none⟩ (.int .i64 (liftN m r.f : Nat))).drew)
        case first =>
          by_cases hmin : m ≤ (r.f.bytes.length : Int) - (r.f.sure : Int)
          · have w2' : IntKind.i64.wrap ((r.f.sure : Int) + m) = (r.f.sure : Int) + m := IntWalk.i64_in _ (by omega)
            have hn : ((liftN m r.f : Nat) : Int) = (r.f.sure : Int) + m := by unfold liftN; omega
            have HN := Lib.hid hn
            clear hn
            go_region
            go_wp2_with fail
            go_meet
            case rel => rw [HN.out]
          · have hmin' : (r.f.bytes.length : Int) - (r.f.sure : Int) < m := by omega
            have w2' : IntKind.i64.wrap ((r.f.sure : Int) + ((r.f.bytes.length : Int) - (r.f.sure : Int))) = (r.f.sure : Int) + ((r.f.bytes.length : Int) - (r.f.sure : Int)) := IntWalk.i64_in _ (by omega)
            have hn : ((liftN m r.f : Nat) : Int) = (r.f.sure : Int) + ((r.f.bytes.length : Int) - (r.f.sure : Int)) := by unfold liftN; omega
            have HN := Lib.hid hn
            clear hn
            go_region
            go_wp2_with fail
            go_meet
            case rel => rw [HN.out]
        case rest =>
          subst hcut
          have hnle : liftN m r.f ≤ r.f.bytes.length := by unfold liftN; omega
          obtain ⟨n, hn⟩ : ∃ n, n = liftN m r.f := ⟨_, rfl⟩
          rw [← hn] at hnle ⊢
          have HN := Lib.hid hn
          clear hn
          have n1 : (0 : Int) ≤ (n : Int) := by omega
          have n2 : (n : Int) ≤ (cr : Int) := by omega
          go_wp2_with fail
          go_region
          go_wp2_with fail
          have hd := HD'.out
          have hr := HREP.out
          have hm2 := repOf_mem hr
          have hfile := hd.files r hm2.1
          have hne : r.g ≠ some r.fb := rep_ne hd hm2.1
          have hcut := hfile.cut hne n hnle pr ⟨cr, HV.out⟩
          have hFw : Fr (Is (some r.fb)) wc (((wc.setCell ⟨r.fb, 1, none⟩ (.int .i64 n)).setCell ⟨r.fb, 0, none⟩ (.slice pr n n)).drew.drew) := (((Fr.set wc r.fb 1 _).trans (Fr.set _ r.fb 0 _)).trans (Fr.drew _ _)).trans (Fr.drew _ _)
          have hfile2 := hcut.fr (((Fr.drew No _).trans (Fr.drew No _)) : Fr No _ (((wc.setCell ⟨r.fb, 1, none⟩ (.int .i64 n)).setCell ⟨r.fb, 0, none⟩ (.slice pr n n)).drew.drew)) (fun _ _ x => x)
          have hU := hd.update hr hfile2 rfl rfl (hFw.mono fun i _ hi => .inl (by cases hi; rfl)) (.inl rfl)
          refine ⟨⟨k + 1, _, by go_num, by omega, hU, ?_, fun x hx => ?_, HF.out.trans (hFw.mono fun i _ hi => ?_)⟩, by simp [intOf]; omega⟩
          · rw [files_turned, HFS.out, List.take_succ_eq_append_getElem hlt, liftAll_snoc]
            have e1 : min k ns.length = k := by omega
            simp only [List.length_take, e1, Nat.zero_add, HSK.out]
            have hrf : r.f ∈ liftAll loss 0 (ns.take k) (files rs) := by rw [← HFS.out]; exact List.mem_map.2 ⟨r, hm2.1, rfl⟩
            have hnd : ((liftAll loss 0 (ns.take k) (files rs)).map (·.name)).Nodup := by
              rw [← HFS.out]
              have := hd.names
              simpa [files, List.map_map, Function.comp_def] using this
            unfold fput
            apply List.map_congr_left
            intro f hf
            have hkey : f.name = ⟨s.toArray⟩ ↔ f.name.data.toList = s := by
              constructor
              · intro e; rw [e]
              · intro e; rw [← e]
            by_cases hfs : f.name = ⟨s.toArray⟩
            · rw [if_pos hfs, if_pos (hkey.1 hfs)]
              have : f = r.f := nodup_eq hnd hf hrf (by rw [hfs, hm2.2])
              rw [this, liftF, HN.out, HM.out]
            · rw [if_neg hfs, if_neg (fun e => hfs (hkey.2 e))]
          · exact HOWN.out x (own_same hr (r' := { r with f := { r.f with bytes := r.f.bytes.take n, sure := n }, v := .slice pr n n }) rfl rfl x hx)
          · have hri : i = r.fb := by cases hi; rfl
            exact HOWN.out i (by rw [hri]; simp only [own, List.mem_cons, List.mem_flatMap]; exact .inr (.inr ⟨r, hm2.1, by simp [Rep.blocks]⟩))
    · have c0' := hd.c0
      have c1' := hd.c1
      have c2' := hd.c2
      have f1' := hd.fz 1
      have f2' := hd.fz 2
      clear hd hfs hown hF
      go_wp2
      go_end0
      have hk' : k = ns.length := by omega
      refine HR.out _ ⟨rs', (HD'.out.setDead false).setFuse (-1) (by omega) (by omega), ?_, ?_, fun x hx => .inl (HOWN.out x hx)⟩
      · rw [HFS.out, hk', List.take_of_length_le (Nat.le_refl _)]
      · exact ((h2'.out.of_no.trans HF.out).trans ((Fr.set wr bd 2 _).mono fun i _ hi => own_burnt i hi)).trans ((Fr.set _ bd 1 _).mono fun i _ hi => own_burnt i hi)
end
end Go.Proofs.Ythjpjekaiflibaa
