/- Polls and the document's, played: the plain law, and the walk. -/
import Derived.Test.YtcpaphcodhlggaaRef22
import Derived.Test.YtcpaphcodhlggaaArgs22
namespace Go.Proofs.Ytcpaphcodhlggaa
open Go.RowKit
theorem rsayB_eq {n : Nat} {s : List Nat} (hs : s.length = 7) (hn : n ≤ 7) (k : Nat) : rsayB (s.take n) k = mayB n s k := by
  unfold rsayB mayB
  congr 1
  rw [List.length_take, hs, Nat.min_eq_left hn]
  refine propext ⟨fun ⟨h1, h2, h3⟩ => ⟨h1, h2, ?_⟩, fun ⟨h1, h2, h3⟩ => ⟨h1, h2, ?_⟩⟩
  · rw [List.getD_eq_getElem?_getD, List.getElem?_take, if_pos (by omega)] at h3
    rwa [List.getD_eq_getElem?_getD]
  · rw [List.getD_eq_getElem?_getD, List.getElem?_take, if_pos (by omega)]
    rwa [List.getD_eq_getElem?_getD] at h3
theorem rsayD_eq {n : Nat} {s : List Nat} (hs : s.length = 7) (hn : n ≤ 7) (k : Nat) (y : Bool) : rsayD (s.take n) k y = (sayD n s k y).take n := by
  unfold rsayD sayD
  rw [rsayB_eq hs hn]
  split
  · rw [List.take_set]
  · rfl
theorem take_len {n : Nat} {s : List Nat} (hs : s.length = 7) (hn : n ≤ 7) : (s.take n).length = n := by rw [List.length_take, hs, Nat.min_eq_left hn]
/-- Both polls, made since w0. -/
structure PlayAt (w0 w : World) (n bp bq bc : Nat) (s : List Nat) : Prop where
  p : PL w0 w bp n s
  q : RefAt w bq bc (s.take n)
  gq : w0.heap.size ≤ bq
  gc : w0.heap.size ≤ bc
  n1 : bp ≠ bq
  n2 : bp ≠ bc
  n3 : bq ≠ bc
theorem PlayAt.no {w0 w w' : World} {n bp bq bc : Nat} {s : List Nat} (h : PlayAt w0 w n bp bq bc s) (hF : Fr No w w') : PlayAt w0 w' n bp bq bc s :=
  ⟨h.p.no hF, h.q.fr hF (fun x => x) (fun x => x), h.gq, h.gc, h.n1, h.n2, h.n3⟩
/-- Between the two says. -/
structure HalfAt (w0 w : World) (n bp bq bc : Nat) (s s' : List Nat) : Prop where
  p : PL w0 w bp n s'
  q : RefAt w bq bc (s.take n)
  s7 : s.length = 7
  s2 : ∀ x ∈ s, x ≤ 2
  gq : w0.heap.size ≤ bq
  gc : w0.heap.size ≤ bc
  n1 : bp ≠ bq
  n2 : bp ≠ bc
  n3 : bq ≠ bc
theorem play_p {R : Ending → World → Prop} {w0 w : World} {n bp bq bc : Nat} {s : List Nat} (h : PlayAt w0 w n bp bq bc s) (k : Nat) (hk : k < 256) (y : Bool) (hR : ∀ w', HalfAt w0 w' n bp bq bc s (sayD n s k y) → R (.returned (.bool (mayB n s k))) w') :
    Calls Try.prog 11 #[.pointer (some ⟨bp, 0, none⟩), .int .u8 k, .bool y] w R :=
  pl_say h.p k hk y rfl rfl fun w' hp hF => hR w' ⟨hp, h.q.fr hF (fun e => h.n1 (by simpa [Is] using e)) (fun e => h.n2 (by simpa [Is] using e)), h.p.p.1, h.p.s2, h.gq, h.gc, h.n1, h.n2, h.n3⟩
theorem play_q {R : Ending → World → Prop} {w0 w : World} {n bp bq bc : Nat} {s s' : List Nat} (k : Nat) (y : Bool) (h : HalfAt w0 w n bp bq bc s s') (hs : sayD n s k y = s') (hk : k < 256) (hR : ∀ w', PlayAt w0 w' n bp bq bc s' → R (.returned (.bool (mayB n s k))) w') :
    Calls Try.prog 12 #[.pointer (some ⟨bq, 0, none⟩), .int .u8 k, .bool y] w R := by
  have h7 := h.p.n7
  refine rsay_any h.q h.n3 (by rw [take_len h.s7 h7]; exact h7) (fun x hx => h.s2 x (List.mem_of_mem_take hx)) k hk y fun w' hq hF => ?_
  rw [rsayB_eq h.s7 h7]
  rw [rsayD_eq h.s7 h7, hs] at hq
  have hF0 : Fr No w0 w' := h.p.f.step hF fun i hi hp => by
    have e : bc = i := by simpa [Is] using hp
    have := h.gc
    omega
  exact hR w' ⟨h.p.other hF (Ne.symm h.n2) hF0, hq, h.gq, h.gc, h.n1, h.n2, h.n3⟩
theorem play_new {R : Ending → World → Prop} {w0 w : World} {n bp : Nat} (h : PL w0 w bp n [0, 0, 0, 0, 0, 0, 0]) (hR : ∀ bq bc w', PlayAt w0 w' n bp bq bc [0, 0, 0, 0, 0, 0, 0] → R (.returned (.pointer (some ⟨bq, 0, none⟩))) w') :
    Calls Try.prog 10 #[.int .i64 n] w R := by
  have h7 := h.n7
  refine rnew_any n w h.n1 h7 fun bq bc w' hq hF hgq hgc hne => hR bq bc w' ⟨h.no hF, ?_, ?_, ?_, ?_, ?_, hne⟩
  · have e : List.replicate n 0 = [0, 0, 0, 0, 0, 0, 0].take n := by
      match n, h7 with
      | 0, _ => rfl
      | 1, _ => rfl
      | 2, _ => rfl
      | 3, _ => rfl
      | 4, _ => rfl
      | 5, _ => rfl
      | 6, _ => rfl
      | 7, _ => rfl
    rw [← e]
    exact hq
  · have := h.f.size; omega
  · have := h.f.size; omega
  · have := block_lt h.p.2; omega
  · have := block_lt h.p.2; omega
theorem play_yes {R : Ending → World → Prop} {w0 w : World} {n bp bq bc : Nat} {s : List Nat} (h : PlayAt w0 w n bp bq bc s) {q : Nat} (hq : saidN n s 1 = q) (hR : ∀ w', PlayAt w0 w' n bp bq bc s → R (.returned (.int .i64 q)) w') :
    Calls Try.prog 13 #[.pointer (some ⟨bp, 0, none⟩)] w R := by
  subst hq
  exact yes_any h.p.p h.p.n1 h.p.n7 fun m => hR _ (h.no (Fr.drewN _ _ _))
theorem play_many {R : Ending → World → Prop} {w0 w : World} {n bp bq bc : Nat} {s : List Nat} (h : PlayAt w0 w n bp bq bc s) (x : Nat) {q : Nat} (hq : saidN n s x = q) (hR : ∀ w', PlayAt w0 w' n bp bq bc s → R (.returned (.int .i64 q)) w') :
    Calls Try.prog 14 #[.pointer (some ⟨bq, 0, none⟩), .int .i64 x] w R := by
  subst hq
  exact rmany_any h.q (by rw [take_len h.p.p.1 h.p.n7]; exact h.p.n7) x fun m => hR _ (h.no (Fr.drewN _ _ _))
theorem play_many1 {R : Ending → World → Prop} {w0 w : World} {n bp bq bc : Nat} {s : List Nat} (h : PlayAt w0 w n bp bq bc s) {q : Nat} (hq : saidN n s 1 = q) (hR : ∀ w', PlayAt w0 w' n bp bq bc s → R (.returned (.int .i64 q)) w') :
    Calls Try.prog 14 #[.pointer (some ⟨bq, 0, none⟩), .int .i64 1] w R := play_many h 1 hq hR
theorem play_many2 {R : Ending → World → Prop} {w0 w : World} {n bp bq bc : Nat} {s : List Nat} (h : PlayAt w0 w n bp bq bc s) {q : Nat} (hq : saidN n s 2 = q) (hR : ∀ w', PlayAt w0 w' n bp bq bc s → R (.returned (.int .i64 q)) w') :
    Calls Try.prog 14 #[.pointer (some ⟨bq, 0, none⟩), .int .i64 2] w R := play_many h 2 hq hR
theorem play_won {R : Ending → World → Prop} {w0 w : World} {n bp bq bc : Nat} {s : List Nat} (h : PlayAt w0 w n bp bq bc s) {x : Bool} (hx : wonD n s = x) (hR : ∀ w', PlayAt w0 w' n bp bq bc s → R (.returned (.bool x)) w') :
    Calls Try.prog 15 #[.pointer (some ⟨bp, 0, none⟩)] w R :=
  pl_won h.p hx fun w' _ hF => hR w' (h.no hF)
theorem play_lost {R : Ending → World → Prop} {w0 w : World} {n bp bq bc : Nat} {s : List Nat} (h : PlayAt w0 w n bp bq bc s) {x : Bool} (hx : lostD n s = x) (hR : ∀ w', PlayAt w0 w' n bp bq bc s → R (.returned (.bool x)) w') :
    Calls Try.prog 16 #[.pointer (some ⟨bp, 0, none⟩)] w R :=
  pl_lost h.p hx fun w' _ hF => hR w' (h.no hF)
theorem won_two (n q : Nat) (h : 1 ≤ n) : decide ((n : Int) < 2 * (q : Int)) = decide (mostD n ≤ q) := by
  unfold mostD
  rw [if_neg (by omega)]
  congr 1
  exact propext ⟨fun h => by omega, fun h => by omega⟩
theorem lost_two (n q : Nat) (h : 1 ≤ n) (hq : q ≤ n) : decide (2 * ((n : Int) - (q : Int)) ≤ (n : Int)) = decide (n - q < mostD n) := by
  unfold mostD
  rw [if_neg (by omega)]
  congr 1
  exact propext ⟨fun h => by omega, fun h => by omega⟩
def PlayRel (w0 : World) (n bp bq bc len : Nat) (i : Value) (w : World) : Prop := ∃ (k : Nat) (s : List Nat), i = .int .i64 k ∧ k ≤ len ∧ PlayAt w0 w n bp bq bc s
set_option maxRecDepth 100000 in
set_option maxHeartbeats 8000000 in
theorem play22_in {R : Ending → World → Prop} (w : World) (n : Nat) (h1 : 1 ≤ n) (h7 : n ≤ 7) (v : Value) (L : List (Nat × Bool)) (hv : SaysV w v L) (hl : L.length ≤ 200) (hR : ∀ w', Fr No w w' → R (.returned (.bool true)) w') :
    Calls Try.prog 3 #[.int .i64 n, v] w R := by
  have HR := Lib.hid hR
  have HV := Lib.hid hv
  obtain ⟨p, c, rfl, hc, _, _⟩ := hv
  have j1 : (1 : Int) ≤ (n : Int) := by omega
  have j7 : (n : Int) ≤ 7 := by omega
  have jl : (L.length : Int) ≤ 200 := by omega
  clear hR hc
  go_enter Try.func3, Try.ntmps3
  go_wp2_with (first
    | (go_at_call 10; refine play_new P0.out ?_; intro bq bc w2 hq; have M0 := Lib.hid hq; clear hq P0)
    | (go_at_call 9; refine pl_new n _ h1 h7 ?_; intro bp w1 hp; have P0 := Lib.hid hp; clear hp))
  go_loopw [7] (fun i wr => PlayRel w n bp bq bc L.length i wr) (fun i _ => L.length - (intOf i).toNat)
  case atStart => exact ⟨0, _, rfl, by omega, M0.out⟩
  case round =>
    obtain ⟨k, s, rfl, hk, hM⟩ := hrel
    by_cases hlt : k < L.length
    · obtain ⟨_, _, _, _, _, h0 | ⟨b, o, hp, hb, hcell⟩⟩ := HV.out
      · omega
      rename_i pp cc hpp _ _
      obtain ⟨e1, e2⟩ : p = pp ∧ c = cc := by simpa using hpp
      subst e1 e2 hp
      obtain ⟨g0, g1, gx⟩ := hcell k L[k] (List.getElem?_eq_getElem hlt)
      generalize L[k] = x at g0 g1 gx
      obtain ⟨x, y⟩ := x
      have G0 := Lib.hid g0
      have G1 := Lib.hid g1
      have d0 := hM.p.f.cell g0 (fun x => x)
      have d1 := hM.p.f.cell g1 (fun x => x)
      have il : (k : Int) < (L.length : Int) := by omega
      obtain ⟨s', hs'⟩ : ∃ s', sayD n s x y = s' := ⟨_, rfl⟩
      obtain ⟨r, hr⟩ : ∃ r, mayB n s x = r := ⟨_, rfl⟩
      obtain ⟨q1, hq1⟩ : ∃ q, saidN n s' 1 = q := ⟨_, rfl⟩
      obtain ⟨q2, hq2⟩ : ∃ q, saidN n s' 2 = q := ⟨_, rfl⟩
      obtain ⟨x1, hx1⟩ : ∃ x, wonD n s' = x := ⟨_, rfl⟩
      obtain ⟨x2, hx2⟩ : ∃ x, lostD n s' = x := ⟨_, rfl⟩
      have hw1 : decide ((n : Int) < 2 * (q1 : Int)) = x1 := by rw [won_two n q1 h1, ← hx1, wonD, hq1]
      have hw2 : decide (2 * ((n : Int) - (q2 : Int)) ≤ (n : Int)) = x2 := by rw [lost_two n q2 h1 (by rw [← hq2]; exact saidN_le _ _ _), ← hx2, lostD, hq2]
      have b1 : (q1 : Int) ≤ 7 := by have := saidN_le n s' 1; omega
      have b2 : (q2 : Int) ≤ 7 := by have := saidN_le n s' 2; omega
      have v1 : IntKind.i64.wrap (2 * (q1 : Int)) = 2 * (q1 : Int) := IntWalk.i64_in _ (by omega)
      have v2 : IntKind.i64.wrap ((n : Int) - (q2 : Int)) = (n : Int) - (q2 : Int) := IntWalk.i64_in _ (by omega)
      have v3 : IntKind.i64.wrap (2 * ((n : Int) - (q2 : Int))) = 2 * ((n : Int) - (q2 : Int)) := IntWalk.i64_in _ (by omega)
      have HS := Lib.hid hs'
      have Hr := Lib.hid hr
      have Hq1 := Lib.hid hq1
      have Hq2 := Lib.hid hq2
      have Hx1 := Lib.hid hx1
      have Hx2 := Lib.hid hx2
      have HM := Lib.hid hM
      clear hs' hr hq1 hq2 hx1 hx2 hM g0 g1 hcell hpp
      dsimp only at *
      go_wp2
      go_region_held3 (fun w' => w'.cell? ⟨b, o + k * 2, none⟩ = some (.int .u8 (x : Int)) ∧ w'.cell? ⟨b, o + k * 2 + 1, none⟩ = some (.bool y)) (first | exact ⟨by assumption, by assumption⟩ | go_keep)
        (first
          | (go_at_call 11; refine play_p (HM.out.no (Fr.drew No _)) x gx y ?_; intro w3 h3; rw [Hr.out]; rw [HS.out] at h3; have d0 := h3.p.f.cell G0.out (fun x => x); have d1 := h3.p.f.cell G1.out (fun x => x); have HH := Lib.hid h3; clear h3)
          | (go_at_call 12; refine play_q x y HH.out HS.out gx ?_; intro w3 h3; rw [Hr.out]; have d0 := h3.p.f.cell G0.out (fun x => x); have d1 := h3.p.f.cell G1.out (fun x => x); replace HM := Lib.hid h3; clear h3)
          | (go_at_call 13; refine play_yes HM.out Hq1.out ?_; intro w3 h3; have d0 := h3.p.f.cell G0.out (fun x => x); have d1 := h3.p.f.cell G1.out (fun x => x); replace HM := Lib.hid h3; clear h3)
          | (go_at_call 14; (with_reducible refine play_many1 HM.out Hq1.out ?_); intro w3 h3; have d0 := h3.p.f.cell G0.out (fun x => x); have d1 := h3.p.f.cell G1.out (fun x => x); replace HM := Lib.hid h3; clear h3)
          | (go_at_call 14; (with_reducible refine play_many2 HM.out Hq2.out ?_); intro w3 h3; have d0 := h3.p.f.cell G0.out (fun x => x); have d1 := h3.p.f.cell G1.out (fun x => x); replace HM := Lib.hid h3; clear h3)
          | (go_at_call 15; refine play_won HM.out Hx1.out ?_; intro w3 h3; have d0 := h3.p.f.cell G0.out (fun x => x); have d1 := h3.p.f.cell G1.out (fun x => x); replace HM := Lib.hid h3; clear h3)
          | (go_at_call 16; refine play_lost HM.out Hx2.out ?_; intro w3 h3; have d0 := h3.p.f.cell G0.out (fun x => x); have d1 := h3.p.f.cell G1.out (fun x => x); replace HM := Lib.hid h3; clear h3))
      all_goals go_wp2
      all_goals exact ⟨⟨k + 1, s', by go_num, by omega, HM.out⟩, by simp [intOf]; omega⟩
    · have HM := Lib.hid hM
      have il : (L.length : Int) ≤ (k : Int) := by omega
      clear hM
      go_wp2_with (go_at_call 8; refine lives22_any _ ?_; intro wz hFz; have HFz := Lib.hid hFz; clear hFz)
      exact HR.out _ (HM.out.p.f.trans HFz.out)
set_option maxRecDepth 100000 in
set_option maxHeartbeats 4000000 in
theorem play22_any {R : Ending → World → Prop} (w : World) (z : Int) (hz : -9223372036854775808 ≤ z ∧ z ≤ 9223372036854775807) (v : Value) (L : List (Nat × Bool)) (hv : SaysV w v L) (hR : ∀ w', Fr No w w' → R (.returned (.bool true)) w') :
    Calls Try.prog 3 #[.int .i64 z, v] w R := by
  by_cases hl : L.length ≤ 200
  · by_cases h1 : 1 ≤ z ∧ z ≤ 7
    · have := play22_in w z.toNat (by omega) (by omega) v L hv hl hR
      rwa [show ((z.toNat : Nat) : Int) = z by omega] at this
    · have HR := Lib.hid hR
      obtain ⟨p, c, rfl, hc, _, _⟩ := hv
      have jl : (L.length : Int) ≤ 200 := by omega
      clear hR hc
      by_cases h0 : z < 1
      · go_enter Try.func3, Try.ntmps3
        go_wp2_with (first
          | (go_at_call 8; refine lives22_any _ ?_; intro wz hFz; have HFz := Lib.hid hFz; clear hFz)
          | (go_at_call 9; refine new_out z _ (by omega) ?_))
        exact HR.out _ HFz.out
      · have h8 : 7 < z := by omega
        go_enter Try.func3, Try.ntmps3
        go_wp2_with (first
          | (go_at_call 8; refine lives22_any _ ?_; intro wz hFz; have HFz := Lib.hid hFz; clear hFz)
          | (go_at_call 9; refine new_out z _ (by omega) ?_))
        exact HR.out _ HFz.out
  · have HR := Lib.hid hR
    obtain ⟨p, c, rfl, hc, _, _⟩ := hv
    have jl : (200 : Int) < (L.length : Int) := by omega
    clear hR hc hl
    go_enter Try.func3, Try.ntmps3
    go_wp2_with (go_at_call 8; refine lives22_any _ ?_; intro wz hFz; have HFz := Lib.hid hFz; clear hFz)
    exact HR.out _ HFz.out
end Go.Proofs.Ytcpaphcodhlggaa
