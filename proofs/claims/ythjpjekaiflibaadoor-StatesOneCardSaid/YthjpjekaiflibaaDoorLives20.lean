/- The chapter's example on promises. -/
import Derived.Test.YthjpjekaiflibaaDoorOpen
namespace Go.Proofs.YthjpjekaiflibaaDoor
open Go.RowKit
/-- A disk that has at most the state's file, and no fuse. -/
def Calm (M : DM) : Prop := M.fuse = -1 ∧ M.dead = false ∧ (M.files = [] ∨ ∃ f, M.files = [f] ∧ f.name = nState)
theorem asked_state : askedE false nState = 0 := by kernel_rfl
theorem calm_put {M : DM} (h : Calm M) (b : List UInt8) (hb : b.length ≤ 1048576) : (M.put nState b).1 = 0 ∧ Calm (M.put nState b).2 := by
  obtain ⟨L, fu, dead⟩ := M
  obtain ⟨h1, h2, h3⟩ := h
  dsimp only at h1 h2 h3
  subst h1 h2
  have hn : ¬ (1048576 : Int) < (b.length : Int) := by omega
  rcases h3 with rfl | ⟨f, rfl, hf⟩
  · simp only [DM.put, DM.does, asked_state, if_true, DM.find, List.find?_nil]
    simp [hn, Calm, burnt]
  · simp only [DM.put, DM.does, asked_state, if_true, DM.find, List.find?_cons, hf, decide_true]
    simp [hn, Calm, burnt, fput, hf]
theorem vowB_length (t v : Nat) (ht : t < 18446744073709551616) (hv : v < 18446744073709551616) : (vowB t v).length ≤ 1048576 := by
  have h1 := num_ten ht
  have h2 := num_ten hv
  have h3 := num_ten (n := (num t ++ num v).length) (by rw [List.length_append]; omega)
  rw [List.length_append] at h3
  have h4 : ∀ n, (fourD n).length = 4 := fun _ => rfl
  simp only [vowB, frameD, sealD, List.length_append, h4]
  omega
/-- A set that is done. -/
theorem set_done {t v : Nat} {M : DM} (t' v' : Nat) (ht' : t' < 18446744073709551616) (hv' : v' < 256) (hm : mayD t v t' v' = true) (hne : ¬ (t' = t ∧ v' = v)) (h : Calm M) :
    ∃ M', setD t v false M t' v' = (0, t', v', false, M') ∧ Calm M' := by
  obtain ⟨h1, h2⟩ := calm_put h (vowB t' v') (vowB_length t' v' ht' (by omega))
  exact ⟨_, by rw [setD, if_neg (by decide), if_neg (by rw [hm]; decide), if_neg hne, if_pos h1], h2⟩
theorem read_new : (DM.mk [] (-1) false).read nState = ([], 7) := by kernel_rfl
theorem set_not {t v : Nat} {M : DM} (t' v' : Nat) (hm : mayD t v t' v' = false) : setD t v false M t' v' = (1, t, v, false, M) := by
  rw [setD, if_neg (by decide), if_pos hm]
/-- A promise and its disk, both made since w0. -/
structure PS (w0 w : World) (bp bd t v : Nat) (M : DM) (O : List Nat) : Prop where
  p : PromiseAt w bp t v bd false
  d : DiskAt w bd M O
  n : bp ∉ O
  tab : Tab w
  f : Fr No w0 w
  g : w0.heap.size ≤ bp
  o : ∀ k ∈ O, w0.heap.size ≤ k
  z : 0 < w0.heap.size
theorem ps_set {R : Ending → World → Prop} {w0 w : World} {bp bd t v : Nat} {M : DM} {O : List Nat} (h : PS w0 w bp bd t v M O) (t' v' : Nat) (ht' : t' < 18446744073709551616) (hv' : v' < 256) {e : Int} {t2 v2 : Nat} {M2 : DM} (hr : setD t v false M t' v' = (e, t2, v2, false, M2))
    (hR : ∀ w' O', PS w0 w' bp bd t2 v2 M2 O' → R (.returned (.int .i64 e)) w') :
    Calls Tryd.prog 11 #[.pointer (some ⟨bp, 0, none⟩), .int .u64 t', .int .u8 v'] w R := by
  refine set_any h.p h.d h.n h.tab t' v' ht' hv' ?_
  rw [hr]
  intro w' O' h1 h2 h3 h4
  have hbl : bp < w.heap.size := block_lt h.p
  refine hR w' O' ⟨h1, h2, fun hb => ?_, h.tab.fr h3 ?_, h.f.step h3 ?_, h.g, fun k hk => ?_, h.z⟩
  · rcases h4 bp hb with h5 | h5
    · exact h.n h5
    · omega
  · rintro (h5 | h5)
    · have := h.g; have := h.z; omega
    · have := h.o 0 h5; have := h.z; omega
  · intro i hi hp
    rcases hp with h5 | h5
    · have := h.g; omega
    · have := h.o i h5; omega
  · rcases h4 k hk with h5 | h5
    · exact h.o k h5
    · have := h.f.size; omega
set_option maxRecDepth 100000 in
set_option maxHeartbeats 8000000 in
theorem lives20_any {R : Ending → World → Prop} (w : World) (ht : Tab w) (h0 : 0 < w.heap.size) (hR : ∀ w', Fr No w w' → R (.returned (.bool true)) w') :
    Calls Tryd.prog 14 #[] w R := by
  have HR := Lib.hid hR
  have HT := Lib.hid ht
  clear hR ht
  go_enter Tryd.func14, Tryd.ntmps14
  have hc0 : Calm (DM.mk [] (-1) false) := ⟨rfl, rfl, .inl rfl⟩
  obtain ⟨Ma, ha, hca⟩ := set_done (t := 0) (v := 0) 3 2 (by decide) (by decide) (by decide) (by decide) hc0
  have hb := set_not (t := 3) (v := 2) (M := Ma) 3 1 (by decide)
  have hb2 := set_not (t := 3) (v := 2) (M := Ma) 2 1 (by decide)
  obtain ⟨Mb, hd, hcb⟩ := set_done (t := 3) (v := 2) 4 0 (by decide) (by decide) (by decide) (by decide) hca
  obtain ⟨Mc, he, hcc⟩ := set_done (t := 4) (v := 0) 4 1 (by decide) (by decide) (by decide) (by decide) hcb
  have HA := Lib.hid ha
  have HB := Lib.hid hb
  have HB2 := Lib.hid hb2
  have HD := Lib.hid hd
  have HE := Lib.hid he
  clear ha hb hb2 hd he hc0 hca hcb hcc
  go_wp2_with (first
    | (go_at_call 11; refine ps_set S6.out 4 1 (by decide) (by decide) HE.out ?_; intro w7 O7 h; have S7 := Lib.hid h; clear h S6)
    | (go_at_call 11; refine ps_set S5.out 4 0 (by decide) (by decide) HD.out ?_; intro w6 O6 h; have S6 := Lib.hid h; clear h S5)
    | (go_at_call 11; refine ps_set S4.out 2 1 (by decide) (by decide) HB2.out ?_; intro w5 O5 h; have S5 := Lib.hid h; clear h S4)
    | (go_at_call 11; refine ps_set S3.out 3 1 (by decide) (by decide) HB.out ?_; intro w4 O4 h; have S4 := Lib.hid h; clear h S3)
    | (go_at_call 11; refine ps_set S2.out 3 2 (by decide) (by decide) HA.out ?_; intro w3 O3 h; have S3 := Lib.hid h; clear h S2)
    | (go_at_call 19; refine disk_new _ ?_; intro bd O1 w1 hD hM _; have D1 := Lib.hid hD; have M1 := Lib.hid hM; clear hD hM)
    | (go_at_call 10; refine open_new D1.out read_new ?_; intro bp w2 hP hD hbp hF hge; have S2 := Lib.hid (show PS w w2 bp bd 0 0 _ O1 from ⟨hP, hD, hbp, (HT.out.fr (M1.out.1.mono fun _ _ hi => absurd hi List.not_mem_nil : Fr No w w1) fun x => x).fr hF fun x => x, (M1.out.1.mono fun _ _ hi => absurd hi List.not_mem_nil : Fr No w w1).trans hF, by have := M1.out.1.size; omega, fun k hk => by rcases M1.out.2 k hk with h | h; cases h; exact h, h0⟩); clear hP hD hbp hF hge)
    | (go_at_call 12; refine (term_any S7.out.p).mono ?_; rintro e w' ⟨rfl, rfl⟩)
    | (go_at_call 13; refine (vote_any S7.out.p).mono ?_; rintro e w' ⟨rfl, rfl⟩)
    | (go_at_call 12; refine (term_any S2.out.p).mono ?_; rintro e w' ⟨rfl, rfl⟩)
    | (go_at_call 13; refine (vote_any S2.out.p).mono ?_; rintro e w' ⟨rfl, rfl⟩))
  exact HR.out _ S7.out.f
end Go.Proofs.YthjpjekaiflibaaDoor
