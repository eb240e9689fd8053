/- Two that are most of the same nodes: the plain law, and the walk. -/
import Derived.Test.YtcpaphcodhlggaaLives22
import Derived.Laws.BitsAllLaws
namespace Go.Proofs.Ytcpaphcodhlggaa
open Go.RowKit
def bitB (a i : Nat) : Bool := decide (a / 2 ^ i % 2 = 1)
def pollL (f : Nat → Bool) (i : Nat) : List Nat := (List.range 7).map fun j => if j < i then (if f j = true then 1 else 2) else 0
def cntB (f : Nat → Bool) : Nat → Nat
  | 0 => 0
  | i + 1 => cntB f i + if f i = true then 1 else 0
theorem cntB_le (f : Nat → Bool) : ∀ i, cntB f i ≤ i
  | 0 => Nat.le_refl _
  | i + 1 => by have := cntB_le f i; rw [cntB]; split <;> omega
theorem cntB_both (f g : Nat → Bool) : ∀ i, cntB f i + cntB g i ≤ i + cntB (fun j => f j && g j) i
  | 0 => Nat.le_refl _
  | i + 1 => by
    have := cntB_both f g i
    rw [cntB, cntB, cntB]
    cases f i <;> cases g i <;> simp <;> omega
theorem pollL_length (f : Nat → Bool) (i : Nat) : (pollL f i).length = 7 := by simp [pollL]
theorem pollL_get (f : Nat → Bool) (i j : Nat) (hj : j < 7) : (pollL f i).getD j 0 = if j < i then (if f j = true then 1 else 2) else 0 := by
  simp [pollL, List.getD_eq_getElem?_getD, List.getElem?_map, List.getElem?_range hj]
theorem pollL_zero (f : Nat → Bool) : pollL f 0 = [0, 0, 0, 0, 0, 0, 0] := by simp [pollL, List.range_succ]
theorem pollL_set (f : Nat → Bool) (i : Nat) : (pollL f i).set i (if f i = true then 1 else 2) = pollL f (i + 1) := by
  apply List.ext_getElem
  · simp [pollL]
  · intro j h1 h2
    simp only [pollL, List.getElem_set, List.getElem_map, List.getElem_range]
    by_cases e : i = j
    · subst e; simp
    · rw [if_neg e]
      by_cases h : j < i
      · rw [if_pos h, if_pos (show j < i + 1 by omega)]
      · rw [if_neg h, if_neg (show ¬ j < i + 1 by omega)]
theorem pollL_may (f : Nat → Bool) (n i : Nat) (hn : n ≤ 7) (hi : i < n) : mayB n (pollL f i) (i + 1) = true := by
  unfold mayB
  rw [decide_eq_true_iff]
  refine ⟨by omega, by omega, ?_⟩
  rw [Nat.add_sub_cancel, pollL_get f i i (by omega), if_neg (by omega)]
theorem pollL_say (f : Nat → Bool) (n i : Nat) (hn : n ≤ 7) (hi : i < n) : sayD n (pollL f i) (i + 1) (f i) = pollL f (i + 1) := by
  unfold sayD
  rw [pollL_may f n i hn hi, if_pos rfl, Nat.add_sub_cancel]
  exact pollL_set f i
theorem saidN_one (f : Nat → Bool) (n : Nat) (hn : n ≤ 7) : ∀ m, m ≤ n → saidN m (pollL f n) 1 = cntB f m
  | 0, _ => by simp [saidN, cntB]
  | m + 1, h => by
    rw [saidN_succ m _ 1 (by rw [pollL_length]; omega), saidN_one f n hn m (by omega), pollL_get f n m (by omega), if_pos (show m < n by omega), cntB]
    cases f m <;> rfl
theorem saidN_two (f : Nat → Bool) (n : Nat) (hn : n ≤ 7) : ∀ m, m ≤ n → saidN m (pollL f n) 2 + cntB f m = m
  | 0, _ => by simp [saidN, cntB]
  | m + 1, h => by
    have ih := saidN_two f n hn m (by omega)
    rw [saidN_succ m _ 2 (by rw [pollL_length]; omega), pollL_get f n m (by omega), if_pos (show m < n by omega), cntB]
    cases f m <;> simp <;> omega
theorem won_of (f : Nat → Bool) (n : Nat) (hn : n ≤ 7) : wonD n (pollL f n) = decide (mostD n ≤ cntB f n) := by
  unfold wonD
  rw [saidN_one f n hn n (Nat.le_refl _)]
theorem lost_of (f : Nat → Bool) (n : Nat) (hn : n ≤ 7) : lostD n (pollL f n) = !decide (mostD n ≤ cntB f n) := by
  unfold lostD
  have h := saidN_two f n hn n (Nat.le_refl _)
  rw [← decide_not]
  congr 1
  exact propext ⟨fun h => by omega, fun h => by omega⟩
theorem mostD_two (n : Nat) (h : 1 ≤ n) : n < 2 * mostD n ∧ 2 * (mostD n - 1) ≤ n ∧ 1 ≤ mostD n := by unfold mostD; rw [if_neg (by omega)]; omega
/-- What a round finds. -/
structure MeetAt (w0 : World) (a b n bp bq : Nat) (i : Nat) (w : World) : Prop where
  p : PL w0 w bp n (pollL (bitB a) i)
  q : PL w0 w bq n (pollL (bitB b) i)
  ne : bp ≠ bq
def MeetRel (w0 : World) (a b n bp bq : Nat) (both inn i : Value) (w : World) : Prop :=
  ∃ k : Nat, i = .int .i64 k ∧ k ≤ n ∧ inn = .int .i64 (cntB (bitB a) k : Nat) ∧ both = .int .i64 (cntB (fun j => bitB a j && bitB b j) k : Nat) ∧ MeetAt w0 a b n bp bq k w
theorem meet_new {w0 w1 w2 : World} {a b n bp bq : Nat} (hp : PL w0 w1 bp n [0, 0, 0, 0, 0, 0, 0]) (hq : PL w1 w2 bq n [0, 0, 0, 0, 0, 0, 0]) : MeetAt w0 a b n bp bq 0 w2 := by
  refine ⟨by rw [pollL_zero]; exact hp.no hq.f, ?_, ?_⟩
  · rw [pollL_zero]
    exact ⟨hq.p, hp.f.trans hq.f, by have := hq.g; have := hp.f.size; omega, hq.n1, hq.n7, hq.s2⟩
  · have h1 := hq.g
    have h2 := block_lt hp.p.2
    omega
theorem bit_is (a k : Nat) (ha : a < 256) : (bits .and .u8 ((a : Int) / 2 ^ k) 1 == 1) = bitB a k := by
  have e : ((a : Int) / 2 ^ k) = ((a / 2 ^ k : Nat) : Int) := by push_cast; rfl
  have hlt : a / 2 ^ k < 256 := Nat.lt_of_le_of_lt (Nat.div_le_self _ _) ha
  have h := Go.u8_and_nat (a / 2 ^ k) 1 hlt (by decide)
  rw [show ((1 : Nat) : Int) = 1 from rfl] at h
  rw [e, h, Nat.and_one_is_mod]
  unfold bitB
  have : a / 2 ^ k % 2 < 2 := Nat.mod_lt _ (by decide)
  by_cases h1 : a / 2 ^ k % 2 = 1
  · rw [h1]; rfl
  · have : a / 2 ^ k % 2 = 0 := by omega
    rw [this]; rfl
theorem PL.other {w0 w w' : World} {b c n : Nat} {s : List Nat} (h : PL w0 w b n s) (hF : Fr (Is (some c)) w w') (hne : c ≠ b) (hF0 : Fr No w0 w') : PL w0 w' b n s :=
  ⟨h.p.fr hF fun e => hne (by simpa [Is] using e), hF0, h.g, h.n1, h.n7, h.s2⟩
/-- Between the two says of a round. -/
structure MidAt (w0 : World) (a b n bp bq : Nat) (i : Nat) (w : World) : Prop where
  p : PL w0 w bp n (pollL (bitB a) (i + 1))
  q : PL w0 w bq n (pollL (bitB b) i)
  ne : bp ≠ bq
theorem meet_p {R : Ending → World → Prop} {w0 w : World} {a b n bp bq i : Nat} (h : MeetAt w0 a b n bp bq i w) (hi : i < n) {x : Bool} (hx : bitB a i = x) (hR : ∀ w', MidAt w0 a b n bp bq i w' → R (.returned (.bool true)) w') :
    Calls Try.prog 11 #[.pointer (some ⟨bp, 0, none⟩), .int .u8 ((i : Int) + 1), .bool x] w R := by
  have h7 := h.p.n7
  subst hx
  exact pl_say h.p (i + 1) (by omega) (bitB a i) (pollL_may _ n i h7 hi) (pollL_say _ n i h7 hi) fun w' hp hF => hR w' ⟨hp, h.q.other hF h.ne hp.f, h.ne⟩
theorem meet_q {R : Ending → World → Prop} {w0 w : World} {a b n bp bq i : Nat} (h : MidAt w0 a b n bp bq i w) (hi : i < n) {x : Bool} (hx : bitB b i = x) (hR : ∀ w', MeetAt w0 a b n bp bq (i + 1) w' → R (.returned (.bool true)) w') :
    Calls Try.prog 11 #[.pointer (some ⟨bq, 0, none⟩), .int .u8 ((i : Int) + 1), .bool x] w R := by
  have h7 := h.p.n7
  subst hx
  exact pl_say h.q (i + 1) (by omega) (bitB b i) (pollL_may _ n i h7 hi) (pollL_say _ n i h7 hi) fun w' hq hF => hR w' ⟨h.p.other hF (Ne.symm h.ne) hq.f, hq, h.ne⟩
theorem cntB_hit {f : Nat → Bool} {i : Nat} (h : f i = true) : cntB f (i + 1) = cntB f i + 1 := by rw [cntB, h, if_pos rfl]
theorem cntB_miss {f : Nat → Bool} {i : Nat} (h : f i = false) : cntB f (i + 1) = cntB f i := by rw [cntB, h, if_neg (by decide)]; rfl
theorem MeetAt.no {w0 w w' : World} {a b n bp bq i : Nat} (h : MeetAt w0 a b n bp bq i w) (hF : Fr No w w') : MeetAt w0 a b n bp bq i w' := ⟨h.p.no hF, h.q.no hF, h.ne⟩
theorem meet_won_p {R : Ending → World → Prop} {w0 w : World} {a b n bp bq : Nat} (h : MeetAt w0 a b n bp bq n w) {x : Bool} (hx : decide (mostD n ≤ cntB (bitB a) n) = x) (hR : ∀ w', MeetAt w0 a b n bp bq n w' → R (.returned (.bool x)) w') :
    Calls Try.prog 15 #[.pointer (some ⟨bp, 0, none⟩)] w R :=
  pl_won h.p (by rw [won_of _ _ h.p.n7, hx]) fun w' _ hF => hR w' (h.no hF)
theorem meet_won_q {R : Ending → World → Prop} {w0 w : World} {a b n bp bq : Nat} (h : MeetAt w0 a b n bp bq n w) {x : Bool} (hx : decide (mostD n ≤ cntB (bitB b) n) = x) (hR : ∀ w', MeetAt w0 a b n bp bq n w' → R (.returned (.bool x)) w') :
    Calls Try.prog 15 #[.pointer (some ⟨bq, 0, none⟩)] w R :=
  pl_won h.q (by rw [won_of _ _ h.p.n7, hx]) fun w' _ hF => hR w' (h.no hF)
theorem meet_lost_p {R : Ending → World → Prop} {w0 w : World} {a b n bp bq : Nat} (h : MeetAt w0 a b n bp bq n w) {x : Bool} (hx : decide (mostD n ≤ cntB (bitB a) n) = x) (hR : ∀ w', MeetAt w0 a b n bp bq n w' → R (.returned (.bool (!x))) w') :
    Calls Try.prog 16 #[.pointer (some ⟨bp, 0, none⟩)] w R :=
  pl_lost h.p (by rw [lost_of _ _ h.p.n7, hx]) fun w' _ hF => hR w' (h.no hF)
set_option maxRecDepth 100000 in
set_option maxHeartbeats 8000000 in
theorem meet22_any {R : Ending → World → Prop} (w : World) (a b n : Nat) (ha : a < 256) (hb : b < 256) (hn : n < 256) (hR : ∀ w', Fr No w w' → R (.returned (.bool true)) w') :
    Calls Try.prog 6 #[.int .u8 a, .int .u8 b, .int .u8 n] w R := by
  have HR := Lib.hid hR
  clear hR
  obtain ⟨m, hm⟩ : ∃ m, 1 + n % 7 = m := ⟨_, rfl⟩
  have hm1 : 1 ≤ m := by omega
  have hm7 : m ≤ 7 := by omega
  have jn : (n : Int) ≤ 255 := by omega
  have ja : (a : Int) ≤ 255 := by omega
  have jb : (b : Int) ≤ 255 := by omega
  have em : 1 + (n : Int) % 7 = (m : Int) := by omega
  clear hm
  go_enter Try.func6, Try.ntmps6
  go_wp2_with (first
    | (go_at_call 9; refine pl_new m _ hm1 hm7 ?_; intro bq w2 hq; have M0 := Lib.hid (meet_new (a := a) (b := b) P0.out hq); clear hq P0)
    | (go_at_call 9; refine pl_new m _ hm1 hm7 ?_; intro bp w1 hp; have P0 := Lib.hid hp; clear hp))
  have HMP := Lib.hid em
  clear em
  go_loopw [10, 11, 12] (fun both inn i wr => MeetRel w a b m bp bq both inn i wr) (fun _ _ i _ => m - (intOf i).toNat)
  case atStart => exact ⟨0, rfl, by omega, rfl, rfl, M0.out⟩
  case round =>
    obtain ⟨k, rfl, hk, rfl, rfl, hM⟩ := hrel
    have HM := Lib.hid hM
    clear hM
    by_cases hlt : k < m
    · have il : (k : Int) < (m : Int) := by omega
      have im : (m : Int) ≤ 7 := by omega
      have c1 := cntB_le (bitB a) k
      have c2 := cntB_le (fun j => bitB a j && bitB b j) k
      have jc1 : ((cntB (bitB a) k : Nat) : Int) ≤ 7 := by omega
      have jc2 : ((cntB (fun j => bitB a j && bitB b j) k : Nat) : Int) ≤ 7 := by omega
      clear c1 c2
      rcases hx : bitB a k with _ | _ <;> rcases hy : bitB b k with _ | _
      · have fx : (bits .and .u8 ((a : Int) / 2 ^ k) 1 == 1) = false := by rw [bit_is a k ha, hx]
        have fy : (bits .and .u8 ((b : Int) / 2 ^ k) 1 == 1) = false := by rw [bit_is b k hb, hy]
        have HC := Lib.hid (cntB_miss (f := bitB a) hx)
        have HB := Lib.hid (cntB_miss (f := fun j => bitB a j && bitB b j) (i := k) (by simp [hx, hy]))
        have HX := Lib.hid hx
        have HY := Lib.hid hy
        clear hx hy
        go_wp2_with (first
          | (go_at_call 11; refine meet_q HM1.out hlt HY.out ?_; intro w4 h4; have HM2 := Lib.hid h4; clear h4 HM1)
          | (go_at_call 11; refine meet_p HM.out hlt HX.out ?_; intro w3 h3; have HM1 := Lib.hid h3; clear h3 HM))
        exact ⟨⟨k + 1, by go_num, by omega, by rw [HC.out]; try go_num, by rw [HB.out]; try go_num, HM2.out⟩, by simp [intOf]; omega⟩
      · have fx : (bits .and .u8 ((a : Int) / 2 ^ k) 1 == 1) = false := by rw [bit_is a k ha, hx]
        have fy : (bits .and .u8 ((b : Int) / 2 ^ k) 1 == 1) = true := by rw [bit_is b k hb, hy]
        have HC := Lib.hid (cntB_miss (f := bitB a) hx)
        have HB := Lib.hid (cntB_miss (f := fun j => bitB a j && bitB b j) (i := k) (by simp [hx, hy]))
        have HX := Lib.hid hx
        have HY := Lib.hid hy
        clear hx hy
        go_wp2_with (first
          | (go_at_call 11; refine meet_q HM1.out hlt HY.out ?_; intro w4 h4; have HM2 := Lib.hid h4; clear h4 HM1)
          | (go_at_call 11; refine meet_p HM.out hlt HX.out ?_; intro w3 h3; have HM1 := Lib.hid h3; clear h3 HM))
        exact ⟨⟨k + 1, by go_num, by omega, by rw [HC.out]; try go_num, by rw [HB.out]; try go_num, HM2.out⟩, by simp [intOf]; omega⟩
      · have fx : (bits .and .u8 ((a : Int) / 2 ^ k) 1 == 1) = true := by rw [bit_is a k ha, hx]
        have fy : (bits .and .u8 ((b : Int) / 2 ^ k) 1 == 1) = false := by rw [bit_is b k hb, hy]
        have HC := Lib.hid (cntB_hit (f := bitB a) hx)
        have HB := Lib.hid (cntB_miss (f := fun j => bitB a j && bitB b j) (i := k) (by simp [hx, hy]))
        have HX := Lib.hid hx
        have HY := Lib.hid hy
        clear hx hy
        go_wp2_with (first
          | (go_at_call 11; refine meet_q HM1.out hlt HY.out ?_; intro w4 h4; have HM2 := Lib.hid h4; clear h4 HM1)
          | (go_at_call 11; refine meet_p HM.out hlt HX.out ?_; intro w3 h3; have HM1 := Lib.hid h3; clear h3 HM))
        exact ⟨⟨k + 1, by go_num, by omega, by rw [HC.out]; try go_num, by rw [HB.out]; try go_num, HM2.out⟩, by simp [intOf]; omega⟩
      · have fx : (bits .and .u8 ((a : Int) / 2 ^ k) 1 == 1) = true := by rw [bit_is a k ha, hx]
        have fy : (bits .and .u8 ((b : Int) / 2 ^ k) 1 == 1) = true := by rw [bit_is b k hb, hy]
        have HC := Lib.hid (cntB_hit (f := bitB a) hx)
        have HB := Lib.hid (cntB_hit (f := fun j => bitB a j && bitB b j) (i := k) (by simp [hx, hy]))
        have HX := Lib.hid hx
        have HY := Lib.hid hy
        clear hx hy
        go_wp2_with (first
          | (go_at_call 11; refine meet_q HM1.out hlt HY.out ?_; intro w4 h4; have HM2 := Lib.hid h4; clear h4 HM1)
          | (go_at_call 11; refine meet_p HM.out hlt HX.out ?_; intro w3 h3; have HM1 := Lib.hid h3; clear h3 HM))
        exact ⟨⟨k + 1, by go_num, by omega, by rw [HC.out]; try go_num, by rw [HB.out]; try go_num, HM2.out⟩, by simp [intOf]; omega⟩
    · have hkm : k = m := by omega
      subst hkm
      have h2 := mostD_two k hm1
      obtain ⟨m1, m2, m3⟩ := h2
      have jm1 : (k : Int) < 2 * ((mostD k : Nat) : Int) := by omega
      have jm2 : 2 * (((mostD k : Nat) : Int) - 1) ≤ (k : Int) := by omega
      have jm3 : (1 : Int) ≤ ((mostD k : Nat) : Int) := by omega
      have jm4 : ((mostD k : Nat) : Int) ≤ 8 := by omega
      clear m1 m2 m3
      rcases hx : decide (mostD k ≤ cntB (bitB a) k) with _ | _ <;> rcases hy : decide (mostD k ≤ cntB (bitB b) k) with _ | _
      · have HX := Lib.hid hx
        have HY := Lib.hid hy
        have hs : cntB (bitB a) k < mostD k := by simpa using hx
        have js : (((mostD k : Nat) : Int) > ((cntB (bitB a) k : Nat) : Int)) := by omega
        skip
        clear hx hy
        go_wp2_with (first
          | (go_at_call 8; refine lives22_any _ ?_; intro wz hFz; have HFz := Lib.hid (HM.out.p.f.trans hFz); clear hFz)
          | (go_at_call 15; refine meet_won_p HM.out HX.out ?_; intro w5 h5; replace HM := Lib.hid h5; clear h5)
          | (go_at_call 15; refine meet_won_q HM.out HY.out ?_; intro w5 h5; replace HM := Lib.hid h5; clear h5)
          | (go_at_call 16; refine meet_lost_p HM.out HX.out ?_; intro w5 h5; replace HM := Lib.hid h5; clear h5)
          | (go_at_call 19; refine (most_any k _ (by omega)).mono ?_; rintro e w' ⟨rfl, rfl⟩))
        exact HR.out _ HFz.out
      · have HX := Lib.hid hx
        have HY := Lib.hid hy
        have hs : cntB (bitB a) k < mostD k := by simpa using hx
        have js : (((mostD k : Nat) : Int) > ((cntB (bitB a) k : Nat) : Int)) := by omega
        skip
        clear hx hy
        go_wp2_with (first
          | (go_at_call 8; refine lives22_any _ ?_; intro wz hFz; have HFz := Lib.hid (HM.out.p.f.trans hFz); clear hFz)
          | (go_at_call 15; refine meet_won_p HM.out HX.out ?_; intro w5 h5; replace HM := Lib.hid h5; clear h5)
          | (go_at_call 15; refine meet_won_q HM.out HY.out ?_; intro w5 h5; replace HM := Lib.hid h5; clear h5)
          | (go_at_call 16; refine meet_lost_p HM.out HX.out ?_; intro w5 h5; replace HM := Lib.hid h5; clear h5)
          | (go_at_call 19; refine (most_any k _ (by omega)).mono ?_; rintro e w' ⟨rfl, rfl⟩))
        exact HR.out _ HFz.out
      · have HX := Lib.hid hx
        have HY := Lib.hid hy
        have hs : mostD k ≤ cntB (bitB a) k := by simpa using hx
        have js : ((mostD k : Nat) ≤ ((cntB (bitB a) k : Nat) : Int)) := by omega
        skip
        clear hx hy
        go_wp2_with (first
          | (go_at_call 8; refine lives22_any _ ?_; intro wz hFz; have HFz := Lib.hid (HM.out.p.f.trans hFz); clear hFz)
          | (go_at_call 15; refine meet_won_p HM.out HX.out ?_; intro w5 h5; replace HM := Lib.hid h5; clear h5)
          | (go_at_call 15; refine meet_won_q HM.out HY.out ?_; intro w5 h5; replace HM := Lib.hid h5; clear h5)
          | (go_at_call 16; refine meet_lost_p HM.out HX.out ?_; intro w5 h5; replace HM := Lib.hid h5; clear h5)
          | (go_at_call 19; refine (most_any k _ (by omega)).mono ?_; rintro e w' ⟨rfl, rfl⟩))
        exact HR.out _ HFz.out
      · have HX := Lib.hid hx
        have HY := Lib.hid hy
        have hs : mostD k ≤ cntB (bitB a) k := by simpa using hx
        have js : ((mostD k : Nat) ≤ ((cntB (bitB a) k : Nat) : Int)) := by omega
        have hb0 : (((cntB (fun j => bitB a j && bitB b j) k : Nat) : Int) == 0) = false := by
          have h2 : mostD k ≤ cntB (bitB b) k := by simpa using hy
          have h3 := cntB_both (bitB a) (bitB b) k
          rw [beq_eq_false_iff_ne]
          omega
        clear hx hy
        go_wp2_with (first
          | (go_at_call 8; refine lives22_any _ ?_; intro wz hFz; have HFz := Lib.hid (HM.out.p.f.trans hFz); clear hFz)
          | (go_at_call 15; refine meet_won_p HM.out HX.out ?_; intro w5 h5; replace HM := Lib.hid h5; clear h5)
          | (go_at_call 15; refine meet_won_q HM.out HY.out ?_; intro w5 h5; replace HM := Lib.hid h5; clear h5)
          | (go_at_call 16; refine meet_lost_p HM.out HX.out ?_; intro w5 h5; replace HM := Lib.hid h5; clear h5)
          | (go_at_call 19; refine (most_any k _ (by omega)).mono ?_; rintro e w' ⟨rfl, rfl⟩))
        exact HR.out _ HFz.out
end Go.Proofs.Ytcpaphcodhlggaa
