/- The law of the disks: whatever is done, each answer, and each file, is the chapter's. -/
import Derived.Test.YthjpjekaiflibaaDoes3
import Derived.Test.YthjpjekaiflibaaLives17
namespace Go.Proofs.Ythjpjekaiflibaa
open Go.RowKit
theorem does_any {Q : Ending → World → Prop} {w0 w : World} {bd br : Nat} {M : DM} {R : RM} {O P : List Nat} (h : PD w0 w bd br M R O P) (ht : Twin M R) (A : ActD) (hkd : 0 ≤ A.kind ∧ A.kind < 256) (hn : -9223372036854775808 ≤ A.n ∧ A.n ≤ 9223372036854775807) (v2 v4 : Value) (g2 g4 : Option Nat) (hb : Bs w0 v2 g2 A.b) (hg2 : ∀ k, g2 = some k → k < w0.heap.size) (hl4 : Is64 w0 v4 g4 A.loss) (hg4 : ∀ k, g4 = some k → k < w0.heap.size) (hlr : ∀ z ∈ A.loss, -9223372036854775808 ≤ z ∧ z ≤ 9223372036854775807) (hmax : A.b.length ≤ 1048576)
    (hQ : DoesOwes w0 bd br Q) :
    Calls Try.prog 15 #[.pointer (some ⟨bd, 0, none⟩), .pointer (some ⟨br, 0, none⟩), .agg #[.int .u8 A.kind, .string A.name, v2, .int .i64 A.n, v4]] w Q := by
  have hk8 : (A.kind % 8 = 0 ∨ A.kind % 8 = 1) ∨ A.kind % 8 = 2 ∨ A.kind % 8 = 3 ∨ A.kind % 8 = 4 ∨ A.kind % 8 = 5 ∨ A.kind % 8 = 6 ∨ A.kind % 8 = 7 := by omega
  rcases hk8 with hk | hk | hk | hk | hk | hk | hk
  · exact does_add h ht A hk hkd hn v2 v4 g2 g4 hb hg2 hl4 hg4 hlr hmax hQ
  · exact does_sure h ht A hk hkd hn v2 v4 g2 g4 hb hg2 hl4 hg4 hlr hmax hQ
  · exact does_put h ht A hk hkd hn v2 v4 g2 g4 hb hg2 hl4 hg4 hlr hmax hQ
  · exact does_drop h ht A hk hkd hn v2 v4 g2 g4 hb hg2 hl4 hg4 hlr hmax hQ
  · exact does_fuse h ht A hk hkd hn v2 v4 g2 g4 hb hg2 hl4 hg4 hlr hmax hQ
  · exact does_lift h ht A hk hkd hn v2 v4 g2 g4 hb hg2 hl4 hg4 hlr hmax hQ
  · exact does_read h ht A hk hkd hn v2 v4 g2 g4 hb hg2 hl4 hg4 hlr hmax hQ
theorem ActOne.fr {w w' : World} {b o k : Nat} {A : ActD} {v2 v4 : Value} (h : ActOne w b o k A v2 v4) (hF : Fr No w w') : ActOne w' b o k A v2 v4 :=
  ⟨hF.cell h.c0 fun x => x, hF.cell h.c1 fun x => x, hF.cell h.c2 fun x => x, hF.cell h.c3 fun x => x, hF.cell h.c4 fun x => x⟩
def PlayRel (w0 : World) (bd br : Nat) (L : List ActD) (v : Value) (w' : World) : Prop :=
  ∃ (k : Nat) (M : DM) (R : RM) (O P : List Nat), v = .int .i64 k ∧ k ≤ L.length ∧ PD w0 w' bd br M R O P ∧ Twin M R
theorem pd_start {w1 w2 w3 : World} {bd : Nat} {O : List Nat} (hD : DiskAt w2 bd ⟨[], -1, false⟩ O) (hM : Mv w1 w2 [] O) (hw : w2.alloc (.cells #[.slice none 0 0, .bool false, .int .i64 0, .bool false] 40) = w3) :
    PD w1 w3 bd w2.heap.size ⟨[], -1, false⟩ ⟨[], false, 0, false⟩ O [w2.heap.size] ∧ Twin ⟨[], -1, false⟩ ⟨[], false, 0, false⟩ := by
  subst hw
  have hz := hM.1.size
  refine ⟨⟨hD.fr (Fr.alloc No _ _) fun _ _ x => x, ⟨.slice none 0 0, none, [], ⟨heap_new _ _, Sl.nil _ _ _, (fun r hr => by cases hr), by simp, (fun r hr => by cases hr), by simp, (fun r hr => by cases hr), by simp⟩, rfl, by simp [rown], List.Pairwise.nil⟩, fun k hk hp => ?_, hM.no.trans (Fr.alloc _ _ _), fun k hk => ?_, fun k hk => ?_⟩, ⟨List.Perm.refl _, List.Pairwise.nil, rfl, rfl, by simp, fun f hf => by cases hf⟩⟩
  · rw [List.mem_singleton] at hp
    subst hp
    have := hD.lt _ hk
    omega
  · rcases hM.2 k hk with e | e
    · cases e
    · exact e
  · rw [List.mem_singleton] at hk
    omega
set_option maxRecDepth 100000 in
set_option maxHeartbeats 40000000 in
theorem play17_any {Q : Ending → World → Prop} (w : World) (v : Value) (L : List ActD) (h : ActsV w v L) (hs : ∀ A ∈ L, A.small 1048576) (hQ : ∀ w', Fr No w w' → Q (.returned (.bool true)) w') :
    Calls Try.prog 4 #[v] w Q := by
  have HV := Lib.hid h
  have HQ := Lib.hid hQ
  have HS := Lib.hid hs
  obtain ⟨p, c, rfl, h1, h2, _⟩ := h
  clear hQ hs
  cases hg : greatD L
  · have hlen : L.length ≤ 150 := by simp [greatD] at hg; omega
    have HG := Lib.hid hg
    clear hg
    go_enter Try.func4, Try.ntmps4
    go_upto_region 5 with (first
      | (go_at_call 14; refine great_any _ _ L HV.out HS.out ?_; intro w1 hF; rw [HG.out]; have HF1 := Lib.hid hF; have HV1 := Lib.hid (HV.out.fr hF fun _ _ x => x); clear hF HV)
      | (go_at_call 7; refine disk_new _ ?_; intro bd O2 w2 hD hM _; have HD2 := Lib.hid hD; have HM2 := Lib.hid hM; clear hD hM))
    obtain ⟨w3, hw3⟩ : ∃ w3, w2.alloc (.cells #[.slice none 0 0, .bool false, .int .i64 0, .bool false] 40) = w3 := ⟨_, rfl⟩
    obtain ⟨hpd, htw⟩ := pd_start HD2.out HM2.out hw3
    have HPD := Lib.hid hpd
    have HTW := Lib.hid htw
    rw [hw3]
    clear hpd htw hw3 HD2 HM2
    generalize w2.heap.size = br at *
    go_wp2_with fail
    go_loopw [5] (fun i wr => PlayRel w1 bd br L i wr) (fun i _ => 200 - (intOf i).toNat)
    case atStart => exact ⟨0, _, _, _, _, rfl, by omega, HPD.out, HTW.out⟩
    case round =>
      obtain ⟨k, M, R, O, P, rfl, hk, hP, hT⟩ := hrel
      have HP := Lib.hid hP
      have HT := Lib.hid hT
      clear hP hT HPD HTW
      by_cases hlt : k < L.length
      · obtain ⟨b, o, c', v2, v4, e, hone1, hact⟩ := HV1.out.one hlt
        have hone := hone1.fr HP.out.f
        obtain ⟨rfl, rfl⟩ : p = some ⟨b, o, none⟩ ∧ c = c' := by simpa using e
        have hsm := HS.out _ (List.getElem_mem hlt)
        generalize L[k] = A at hone hact hsm
        obtain ⟨⟨w2', w4', ew, ⟨g2, b1, b2⟩, g4, l1, l2⟩, hkd, hnr, hlr⟩ := hact
        obtain ⟨rfl, rfl⟩ : v2 = w2' ∧ v4 = w4' := by simpa using ew
        have HDO := Lib.hid (fun (Q' : Ending → World → Prop) (hq : DoesOwes w1 bd br Q') => does_any HP.out HT.out A hkd hnr v2 v4 g2 g4 b1 b2 l1 l2 hlr hsm.2.1 hq)
        obtain ⟨p2, q2, rfl, _⟩ := Src.form b1
        obtain ⟨p4, q4, rfl, _⟩ := Src.form l1
        clear e ew hsm b1 l1 b2 l2 hlr hone1 hkd hnr
        obtain ⟨c0, c1, c2, c3, c4⟩ := hone
        have ik : (0 : Int) ≤ (k : Int) := by omega
        have il : (k : Int) < (L.length : Int) := by omega
        go_wp2_with (first
          | (go_at_call 16; refine same17_any P3.out.d P3.out.r T3.out ?_; intro w4 h9; have F4 := Lib.hid h9; clear h9)
          | (go_at_call 15; refine HDO.out _ ?_; intro w3 M3 R3 O3 P3x h8 h9; have P3 := Lib.hid h8; have T3 := Lib.hid h9; clear h8 h9))
        exact ⟨⟨k + 1, _, _, _, _, by go_num, by omega, P3.out.no F4.out, T3.out⟩, by simp [intOf]; omega⟩
      · have il : (L.length : Int) ≤ (k : Int) := by omega
        go_wp2_with (go_at_call 13; refine lives17_any _ ?_; intro wz hFz; have HFz := Lib.hid hFz; clear hFz)
        exact HQ.out _ ((HF1.out.trans HP.out.f).trans HFz.out)
  · have HG := Lib.hid hg
    clear hg
    go_enter Try.func4, Try.ntmps4
    go_wp2_with (first
      | (go_at_call 14; refine great_any _ _ L HV.out HS.out ?_; intro w1 hF; rw [HG.out]; have HF1 := Lib.hid hF; clear hF)
      | (go_at_call 13; refine lives17_any _ ?_; intro wz hFz; have HFz := Lib.hid hFz; clear hFz))
    exact HQ.out _ (HF1.out.trans HFz.out)
end Go.Proofs.Ythjpjekaiflibaa
