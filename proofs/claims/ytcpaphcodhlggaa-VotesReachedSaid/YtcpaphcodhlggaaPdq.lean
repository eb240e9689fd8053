/- pdqsort: whatever numbers a range has, it has them sorted then. -/
import Derived.Test.YtcpaphcodhlggaaBreak
import Derived.Test.YtcpaphcodhlggaaPart2
import Derived.Test.YtcpaphcodhlggaaPartial
import Derived.Sort.LotA
import Derived.Sort.LotB
import Derived.Sort.LotC
import Derived.Sort.LotD3
import Derived.Deep.LoopGhost
import Derived.Deep.DeepCutAuto
namespace Go.Proofs.Ytcpaphcodhlggaa
open Go.RowKit Go.Sort
/-- A round's state: what is left to sort is [a', b') of dk. -/
structure Pst (w : World) (blk off : Nat) (d : Array Int) (a b a' b' : Nat) (dk : Array Int) (wr : World) : Prop where
  h : Holds encU w blk off d
  l : blk < w.heap.size
  sz : dk.size = d.size
  ra : a ≤ a'
  rm : a' ≤ b'
  rb : b' ≤ b
  bd : b ≤ d.size
  row : RowG w blk off dk wr
  bel : Go.Sort.Below ltInt a' b' dk
  fin : ∀ R', PermIn a' b' dk R' → SortedIn ltInt a' b' R' → PermIn a b d R' ∧ SortedIn ltInt a b R'
theorem Pst.holds {w wr : World} {blk off a b a' b' : Nat} {d dk : Array Int} (h : Pst w blk off d a b a' b' dk wr) : Holds encU wr blk off dk := h.row.holds h.h h.sz
theorem Pst.lt {w wr : World} {blk off a b a' b' : Nat} {d dk : Array Int} (h : Pst w blk off d a b a' b' dk wr) : blk < wr.heap.size := Nat.lt_of_lt_of_le h.l h.row.1.size
theorem Pst.no {w wr w' : World} {blk off a b a' b' : Nat} {d dk : Array Int} (h : Pst w blk off d a b a' b' dk wr) (hF : Fr No wr w') : Pst w blk off d a b a' b' dk w' :=
  ⟨h.h, h.l, h.sz, h.ra, h.rm, h.rb, h.bd, h.row.no h.l hF, h.bel, h.fin⟩
theorem Pst.perm {w wr w' : World} {blk off a b a' b' : Nat} {d dk d1 : Array Int} (h : Pst w blk off d a b a' b' dk wr) (hp : PermIn a' b' dk d1) (hr : RowG wr blk off d1 w') : Pst w blk off d a b a' b' d1 w' := by
  have hb : b' ≤ dk.size := by have := h.sz; have := h.rb; have := h.bd; omega
  exact ⟨h.h, h.l, hp.1.trans h.sz, h.ra, h.rm, h.rb, h.bd, h.row.trans hr hp.1, h.bel.perm hb hp, fun R' h1 h2 => h.fin R' (permIn_trans _ _ _ a' b' hp h1) h2⟩
theorem Pst.done {w wr w' : World} {blk off a b a' b' : Nat} {d dk d1 : Array Int} (h : Pst w blk off d a b a' b' dk wr) (hp : PermIn a' b' dk d1) (hs : SortedIn ltInt a' b' d1) (hr : RowG wr blk off d1 w') : PermIn a b d d1 ∧ SortedIn ltInt a b d1 ∧ RowG w blk off d1 w' :=
  ⟨(h.fin d1 hp hs).1, (h.fin d1 hp hs).2, h.row.trans hr hp.1⟩
theorem Pst.read {w wr : World} {blk off a b a' b' : Nat} {d dk : Array Int} (h : Pst w blk off d a b a' b' dk wr) (t : Nat) (ht : t < d.size) : ∃ x, dk[t]! = x ∧ wr.cell? ⟨blk, off + t, none⟩ = some (.int .u64 x) :=
  ⟨_, rfl, (h.holds t (by rw [h.sz]; exact ht)).1⟩
def PdqRel (w : World) (blk off : Nat) (d : Array Int) (a b k : Nat) (va vb vl v8 v9 : Value) (wr : World) : Prop :=
  ∃ (a' b' lim : Nat) (wb wp : Bool) (dk : Array Int), va = .int .i64 a' ∧ vb = .int .i64 b' ∧ vl = .int .i64 lim ∧ v8 = .bool wb ∧ v9 = .bool wp ∧ lim ≤ 64 ∧ b' - a' ≤ k ∧ Pst w blk off d a b a' b' dk wr
theorem Pst.eq {w wr w' : World} {blk off a b a' b' p : Nat} {d dk : Array Int} (h : Pst w blk off d a b a' b' dk wr) (h0 : 0 < a') (hp1 : a' ≤ p) (hp2 : p < b') (hnl : ltInt dk[a' - 1]! dk[p]! = false) (hr : RowG wr blk off (Sort.partitionEqual ltInt dk a' b' p).2 w') :
    a' < (Sort.partitionEqual ltInt dk a' b' p).1 ∧ Pst w blk off d a b (Sort.partitionEqual ltInt dk a' b' p).1 b' (Sort.partitionEqual ltInt dk a' b' p).2 w' := by
  have hb : b' ≤ dk.size := by have := h.sz; have := h.rb; have := h.bd; omega
  obtain ⟨r1, r2, r3, r4, r5⟩ := round_eq swo_ltInt (partitionEqual_holds ltInt) (mid := (Sort.partitionEqual ltInt dk a' b' p).1) (d4 := (Sort.partitionEqual ltInt dk a' b' p).2) h0 hp1 hp2 hb h.bel hnl rfl
  refine ⟨r1, h.h, h.l, r3.trans h.sz, by have := h.ra; omega, r2, h.rb, h.bd, h.row.trans hr r3, r4, fun R' h1 h2 => ?_⟩
  obtain ⟨k1, k2⟩ := r5 R' h1 h2
  exact h.fin R' k1 k2
/-- Behind a partition at m: the two parts, and what is won of them. -/
structure Split (w : World) (blk off : Nat) (d : Array Int) (a b a' b' m : Nat) (dk : Array Int) (wr : World) : Prop where
  h : Holds encU w blk off d
  l : blk < w.heap.size
  sz : dk.size = d.size
  ra : a ≤ a'
  m1 : a' ≤ m
  m2 : m < b'
  rb : b' ≤ b
  bd : b ≤ d.size
  row : RowG w blk off dk wr
  belL : Go.Sort.Below ltInt a' m dk
  belR : Go.Sort.Below ltInt (m + 1) b' dk
  left : ∀ L, PermIn a' m dk L → SortedIn ltInt a' m L → Go.Sort.Below ltInt (m + 1) b' L ∧ ∀ R, PermIn (m + 1) b' L R → SortedIn ltInt (m + 1) b' R → PermIn a b d R ∧ SortedIn ltInt a b R
  right : ∀ L, PermIn (m + 1) b' dk L → SortedIn ltInt (m + 1) b' L → Go.Sort.Below ltInt a' m L ∧ ∀ R, PermIn a' m L R → SortedIn ltInt a' m R → PermIn a b d R ∧ SortedIn ltInt a b R
theorem Split.holds {w wr : World} {blk off a b a' b' m : Nat} {d dk : Array Int} (h : Split w blk off d a b a' b' m dk wr) : Holds encU wr blk off dk := h.row.holds h.h h.sz
theorem Split.lt {w wr : World} {blk off a b a' b' m : Nat} {d dk : Array Int} (h : Split w blk off d a b a' b' m dk wr) : blk < wr.heap.size := Nat.lt_of_lt_of_le h.l h.row.1.size
theorem Pst.part {w wr w' : World} {blk off a b a' b' p : Nat} {d dk : Array Int} (h : Pst w blk off d a b a' b' dk wr) (hp1 : a' ≤ p) (hp2 : p < b') (hr : RowG wr blk off (Sort.partition ltInt dk a' b' p).2.2 w') :
    Split w blk off d a b a' b' (Sort.partition ltInt dk a' b' p).1 (Sort.partition ltInt dk a' b' p).2.2 w' := by
  have hb : b' ≤ dk.size := by have := h.sz; have := h.rb; have := h.bd; omega
  obtain ⟨r1, r2, r3, r4, r5, r6, r7⟩ := round_part swo_ltInt (partition_holds ltInt) (mid := (Sort.partition ltInt dk a' b' p).1) (d4 := (Sort.partition ltInt dk a' b' p).2.2) hp1 hp2 hb h.bel (ap := (Sort.partition ltInt dk a' b' p).2.1) rfl
  refine ⟨h.h, h.l, r3.trans h.sz, h.ra, r1, r2, h.rb, h.bd, h.row.trans hr r3, r4, r5, fun L h1 h2 => ?_, fun L h1 h2 => ?_⟩
  · obtain ⟨k1, k2⟩ := r6 L h1 h2
    exact ⟨k1, fun R h3 h4 => by obtain ⟨k3, k4⟩ := k2 R h3 h4; exact h.fin R k3 k4⟩
  · obtain ⟨k1, k2⟩ := r7 L h1 h2
    exact ⟨k1, fun R h3 h4 => by obtain ⟨k3, k4⟩ := k2 R h3 h4; exact h.fin R k3 k4⟩
theorem Split.goRight {w wr w' : World} {blk off a b a' b' m : Nat} {d dk d1 : Array Int} (h : Split w blk off d a b a' b' m dk wr) (hp : PermIn a' m dk d1) (hs : SortedIn ltInt a' m d1) (hr : RowG wr blk off d1 w') : Pst w blk off d a b (m + 1) b' d1 w' := by
  obtain ⟨k1, k2⟩ := h.left d1 hp hs
  have := h.m2; have := h.ra; have := h.m1
  exact ⟨h.h, h.l, hp.1.trans h.sz, by omega, by omega, h.rb, h.bd, h.row.trans hr hp.1, k1, k2⟩
theorem Split.goLeft {w wr w' : World} {blk off a b a' b' m : Nat} {d dk d1 : Array Int} (h : Split w blk off d a b a' b' m dk wr) (hp : PermIn (m + 1) b' dk d1) (hs : SortedIn ltInt (m + 1) b' d1) (hr : RowG wr blk off d1 w') : Pst w blk off d a b a' m d1 w' := by
  obtain ⟨k1, k2⟩ := h.right d1 hp hs
  have := h.m2; have := h.rb
  exact ⟨h.h, h.l, hp.1.trans h.sz, h.ra, h.m1, by omega, h.bd, h.row.trans hr hp.1, k1, k2⟩
theorem part_st {R : Ending → World → Prop} {w0 w : World} {blk off a b a' b' p n : Nat} {d dk : Array Int} (cap : Nat) (h : Pst w0 blk off d a b a' b' dk w) (hn : d.size = n) (hp1 : a' ≤ p) (hp2 : p < b') (hsz : n ≤ 1000000)
    (hR : ∀ (m m1 : Nat) (ap : Bool) (d4 : Array Int) (w' : World), m + 1 = m1 → a' ≤ m → m < b' → Split w0 blk off d a b a' b' m d4 w' → R (.returned (.tuple #[.int .i64 m, .bool ap])) w') :
    Calls Try.prog 38 #[.slice (some ⟨blk, off, none⟩) n cap, .int .i64 a', .int .i64 b', .int .i64 p] w R := by
  refine part_any blk off cap a' b' p n dk w (h.sz.trans hn) h.holds hp1 hp2 (by have := h.rb; have := h.bd; omega) hsz fun w4 h4 => ?_
  have hP := h.part hp1 hp2 h4.g
  exact hR _ _ _ _ _ rfl hP.m1 hP.m2 hP
theorem partEq_st {R : Ending → World → Prop} {w0 w : World} {blk off a b a' b' p n : Nat} {d dk : Array Int} (cap : Nat) (h : Pst w0 blk off d a b a' b' dk w) (hn : d.size = n) (h0 : 0 < a') (hp1 : a' ≤ p) (hp2 : p < b') (hnl : ltInt dk[a' - 1]! dk[p]! = false) (hsz : n ≤ 1000000)
    (hR : ∀ (m : Nat) (d4 : Array Int) (w' : World), a' < m → Pst w0 blk off d a b m b' d4 w' → R (.returned (.int .i64 m)) w') :
    Calls Try.prog 37 #[.slice (some ⟨blk, off, none⟩) n cap, .int .i64 a', .int .i64 b', .int .i64 p] w R := by
  refine partEq_any blk off cap a' b' p n dk w (h.sz.trans hn) h.holds hp1 hp2 (by have := h.rb; have := h.bd; omega) hsz fun w4 h4 => ?_
  obtain ⟨k1, k2⟩ := h.eq h0 hp1 hp2 hnl h4.g
  exact hR _ _ _ k1 k2
theorem insertion_st {R : Ending → World → Prop} {w0 w : World} {blk off a b a' b' n : Nat} {d dk : Array Int} (cap : Nat) (h : Pst w0 blk off d a b a' b' dk w) (hn : d.size = n) (hsz : n ≤ 1000000)
    (hR : ∀ (d4 : Array Int) (w' : World), PermIn a b d d4 → SortedIn ltInt a b d4 → RowG w0 blk off d4 w' → R (.returned (.tuple #[])) w') :
    Calls Try.prog 30 #[.slice (some ⟨blk, off, none⟩) n cap, .int .i64 a', .int .i64 b'] w R := by
  have hb : b' ≤ dk.size := by have := h.sz; have := h.rb; have := h.bd; omega
  obtain ⟨k1, k2⟩ := insertionSort_holds (lt := ltInt) swo_ltInt dk a' b' h.rm hb
  have he : dk.size = n := h.sz.trans hn
  subst he
  refine insertion_any blk off cap a' b' dk w h.holds h.rm hb hsz fun w4 h4 => ?_
  obtain ⟨k3, k4, k5⟩ := h.done k1 k2 h4.g
  exact hR _ _ k3 k4 k5
theorem heap_st {R : Ending → World → Prop} {w0 w : World} {blk off a b a' b' n : Nat} {d dk : Array Int} (cap : Nat) (h : Pst w0 blk off d a b a' b' dk w) (hn : d.size = n) (hlt : a' < b') (hsz : n ≤ 1000000)
    (hR : ∀ (d4 : Array Int) (w' : World), PermIn a b d d4 → SortedIn ltInt a b d4 → RowG w0 blk off d4 w' → R (.returned (.tuple #[])) w') :
    Calls Try.prog 31 #[.slice (some ⟨blk, off, none⟩) n cap, .int .i64 a', .int .i64 b'] w R := by
  have hb : b' ≤ dk.size := by have := h.sz; have := h.rb; have := h.bd; omega
  obtain ⟨k1, k2⟩ := heapSort_holds (lt := ltInt) swo_ltInt dk a' b' h.rm hb
  refine heap_any blk off cap a' b' n dk w (h.sz.trans hn) h.holds hlt (by have := h.sz; omega) hsz fun w4 h4 => ?_
  obtain ⟨k3, k4, k5⟩ := h.done k1 k2 h4.g
  exact hR _ _ k3 k4 k5
set_option maxRecDepth 100000 in
set_option maxHeartbeats 64000000 in
theorem pdq_any (blk off cap n : Nat) (hsz : n ≤ 1000000) : ∀ (N a b lim : Nat) (d : Array Int) (w : World), b - a ≤ N → d.size = n → Holds encU w blk off d → blk < w.heap.size → a ≤ b → b ≤ n → lim ≤ 64 → Go.Sort.Below ltInt a b d → ∀ {R : Ending → World → Prop},
    (∀ d' w', PermIn a b d d' → SortedIn ltInt a b d' → RowG w blk off d' w' → R (.returned (.tuple #[])) w') →
    Calls Try.prog 28 #[.slice (some ⟨blk, off, none⟩) n cap, .int .i64 a, .int .i64 b, .int .i64 lim] w R := by
  intro N
  induction N using Nat.strongRecOn with
  | ind N ih =>
  intro a b lim d w hN hn hH hbl hab hb hlim hbel R hR
  have HR := Lib.hid hR
  have HN := Lib.hid hn
  have HIH := Lib.hid ih
  have HP0 := Lib.hid (show Pst w blk off d a b a b d w from ⟨hH, hbl, rfl, Nat.le_refl _, hab, Nat.le_refl _, by omega, .start hH, hbel, fun R' h1 h2 => ⟨h1, h2⟩⟩)
  have HB := Lib.hid (And.intro hN hab)
  have j4 : (n : Int) ≤ 1000000 := by omega
  have jb : (b : Int) ≤ (n : Int) := by omega
  clear hR hn hH hbl hbel ih hN hab
  go_enter Try.func28, Try.ntmps28
  go_wp2_with fail
  go_loopg [1, 2, 3, 8, 9] (b - a) (fun k va vb vl v8 v9 wr => PdqRel w blk off d a b k va vb vl v8 v9 wr)
  case atStart => exact ⟨a, b, lim, true, true, d, rfl, rfl, rfl, rfl, rfl, hlim, Nat.le_refl _, HP0.out⟩
  case round =>
    clear hlim HP0
    obtain ⟨a', b', lim', wb, wp, dk, rfl, rfl, rfl, rfl, rfl, hlim, hmeas, hP⟩ := hrel
    have HS := Lib.hid hP
    obtain ⟨l, hl⟩ : ∃ x, b' - a' = x := ⟨_, rfl⟩
    have hrm := hP.rm
    have hrb := hP.rb
    have r1 : (b' : Int) - (a' : Int) = (l : Int) := by omega
    have ja' : (a' : Int) ≤ (b' : Int) := by omega
    have jb' : (b' : Int) ≤ (n : Int) := by omega
    have jl : (l : Int) ≤ 1000000 := by omega
    have HL := Lib.hid (And.intro hl (And.intro hrm hrb))
    have jlim : (lim' : Int) ≤ 64 := by omega
    have hdz : dk.size = n := hP.sz.trans HN.out
    have HDZ := Lib.hid hdz
    clear hP hl hrm hrb hdz
    by_cases h12 : l ≤ 12
    · have j12 : (l : Int) ≤ 12 := by omega
      go_wp2_with (go_at_call 30; refine insertion_st _ HS.out HN.out hsz ?_; intro d4 w4 hp4 hs4 hr4)
      (try simp only [Exit.inBlock, Exit.then]); refine bodyPost_ret (results_none rfl _ _ _) rfl ?_
      exact HR.out _ _ hp4 hs4 hr4
    · have j12 : 12 < (l : Int) := by omega
      by_cases hlz : lim' = 0
      · subst hlz
        go_wp2_with (go_at_call 31; refine heap_st _ HS.out HN.out (by have := HL.out; omega) hsz ?_; intro d4 w4 hp4 hs4 hr4)
        (try simp only [Exit.inBlock, Exit.then]); refine bodyPost_ret (results_none rfl _ _ _) rfl ?_
        exact HR.out _ _ hp4 hs4 hr4
      · obtain ⟨lim1, hlim1⟩ : ∃ x, lim' - 1 = x := ⟨_, rfl⟩
        have r2 : (lim' : Int) - 1 = (lim1 : Int) := by omega
        have r3 : ((lim' : Int) == 0) = false := by rw [beq_eq_false_iff_ne]; omega
        have hlim2 : lim1 ≤ 64 := by omega
        clear hlim1
        go_upto_if 35 with fail
        go_cut [3] (fun s3 wc => ∃ (lim1 : Nat) (d1 : Array Int), s3 = .int .i64 lim1 ∧ lim1 ≤ 64 ∧ Pst w blk off d a b a' b' d1 wc)
        case first =>
          cases wb
          · go_wp2_with (go_at_call 32; refine break_any _ _ _ a' b' n _ _ (HS.out.sz.trans HN.out) HS.out.holds HS.out.lt (by have := HL.out; omega) (by omega) hsz ?_; intro d2 w2 hp hr; replace HS := Lib.hid (HS.out.perm hp hr); clear hp hr)
            go_meet
            case rel => exact ⟨lim1, _, rfl, hlim2, HS.out⟩
          · go_wp2_with fail
            go_meet
            case rel => exact ⟨lim', _, rfl, hlim, HS.out⟩
        case rest =>
        clear hlim2 r2 r3 hlz hlim jlim lim1 HDZ
        obtain ⟨lim1, d1, rfl, hlim1, hP1⟩ := hcut
        replace HS := Lib.hid hP1
        have jlim : (lim1 : Int) ≤ 64 := by omega
        clear hP1
        go_upto_if 50 with (go_at_call 33; refine pivot_any _ _ _ a' b' n _ _ (HS.out.sz.trans HN.out) HS.out.holds HS.out.lt (by have := HL.out; omega) (by omega) hsz ?_; intro p h w2 hp1 hp2 hh hF; replace HS := Lib.hid (HS.out.no hF); obtain ⟨q, hq⟩ : ∃ x, b' - 1 - (p - a') = x := ⟨_, rfl⟩; have rq : (b' : Int) - 1 - ((p : Int) - (a' : Int)) = (q : Int) := by { omega }; have hq1 : a' ≤ q := by { omega }; have hq2 : q < b' := by { omega }; clear hq hF)
        go_cut [11, 12] (fun s11 s12 wc => ∃ (p1 : Nat) (h1 : Int) (d2 : Array Int), s11 = .int .i64 p1 ∧ s12 = .int .i64 h1 ∧ a' ≤ p1 ∧ p1 < b' ∧ Pst w blk off d a b a' b' d2 wc)
        case first =>
          go_wp2_with (go_at_call 34; refine rev_any _ _ _ a' b' n _ _ (HS.out.sz.trans HN.out) HS.out.holds (by have := HL.out; omega) (by omega) hsz ?_; intro w2 h2; replace HS := Lib.hid (HS.out.perm (reverseRange_holds _ a' b' (by have := HL.out; omega) (by have := HS.out.sz.trans HN.out; omega)) h2.g); clear h2)
          all_goals go_meet
          case' rel => skip
          all_goals first
            | exact ⟨p, _, _, rfl, rfl, hp1, hp2, HS.out⟩
            | exact ⟨q, _, _, rfl, rfl, hq1, hq2, HS.out⟩
        case rest =>
        clear hh hp1 hp2 hq1 hq2 rq q HS p h
        obtain ⟨p, h, d2, rfl, rfl, hp1, hp2, hP1⟩ := hcut
        have HS := Lib.hid hP1
        clear hP1
        go_upto_region 15 with fail
        go_cut [68] (fun s68 wx => ∃ x : Bool, s68 = .bool x ∧ Pst w blk off d a b a' b' d2 wx)
        case first =>
          cases wb <;> cases wp <;> go_wp2_with fail
          all_goals go_meet
          all_goals exact ⟨_, rfl, HS.out⟩
        case rest =>
        clear HS
        obtain ⟨x, rfl, hP1⟩ := hcut
        have HS := Lib.hid hP1
        clear hP1
        go_upto_if 68 with fail
        go_cut [] (fun wx => ∃ d3 : Array Int, Pst w blk off d a b a' b' d3 wx)
        case first =>
          go_wp2_with (go_at_call 35; refine partial_any _ _ _ a' b' n _ _ (HS.out.sz.trans HN.out) HS.out.holds (by have := HL.out; omega) (by omega) hsz ?_; intro w2 h2; have HPT := Lib.hid (partialInsertionSort_holds (lt := ltInt) swo_ltInt _ a' b' (by have := HL.out; omega) (by have := HS.out.sz.trans HN.out; omega) HS.out.bel); replace HS := Lib.hid (HS.out.perm HPT.out.1 h2.g); clear h2)
          all_goals first
            | (go_meet
               exact ⟨_, HS.out⟩)
            | ((try simp only [Exit.inBlock, Exit.then])
               refine bodyPost_ret (results_none rfl _ _ _) rfl ?_
               have hfin := HS.out.fin _ (permIn_refl _ _ _) (HPT.out.2 (by assumption))
               exact HR.out _ _ hfin.1 hfin.2 HS.out.row)
        case rest =>
          clear HS
          obtain ⟨d3, hP1⟩ := hcut
          have HS := Lib.hid hP1
          clear hP1
          go_upto_region 17 with fail
          obtain ⟨x2, hx2, c2⟩ := HS.out.read p (by have := HL.out; have := HN.out; omega)
          have k2 : (p : Int) < (n : Int) := by omega
          by_cases h0 : 0 < a'
          · have j0 : (0 : Int) < (a' : Int) := by omega
            obtain ⟨x1, hx1, c1⟩ := HS.out.read (a' - 1) (by have := HL.out; have := HN.out; omega)
            have nk : ((a' : Int) - 1).toNat = a' - 1 := by omega
            have HX := Lib.hid (And.intro hx1 hx2)
            clear hx1 hx2
            by_cases hl : ltInt x1 x2 = true
            · go_quiet ((go_at_call 36; first | exact Calls.quiet_of_same (less_any _ _ _) | exact less_quiet _ _ _ _ _))
              go_wp2_with (first
                | (go_at_call 28; with_reducible refine HI1.out _ (by assumption) _ ?_; intro d5 w5 hp5 hs5 hr5; have HG := Lib.hid (HP.out.goRight hp5 hs5 hr5); clear hp5 hs5 hr5)
                | (go_at_call 28; with_reducible refine HI2.out _ (by assumption) _ ?_; intro d5 w5 hp5 hs5 hr5; rw [← HM1.out] at hp5 hs5; have HG := Lib.hid (HP.out.goLeft hp5 hs5 hr5); clear hp5 hs5 hr5)
                | (go_at_call 38; refine part_st _ (HS.out.no (Fr.drewN No _ _)) HN.out hp1 hp2 hsz ?_; intro m m1 ap d4 w4 hm1 mm1 mm2 hP; have HP := Lib.hid hP; have rm1 : (m : Int) + 1 = (m1 : Int) := by { omega }; have jm1 : (a' : Int) ≤ (m : Int) := by { omega }; have jm2 : (m : Int) < (b' : Int) := by { omega }; have HM1 := Lib.hid hm1; have HI1 := Lib.hid (fun (lim : Nat) (hq : lim ≤ 64) (R : Ending → World → Prop) => HIH.out (l - 1) (by have := HL.out; have := HB.out; have := HP.out.ra; omega) a' m lim _ _ (by have := HL.out; have := HP.out.m2; omega) (HP.out.sz.trans HN.out) HP.out.holds HP.out.lt HP.out.m1 (by have := HL.out; have := HP.out.m2; omega) hq HP.out.belL (R := R)); have HI2 := Lib.hid (fun (lim : Nat) (hq : lim ≤ 64) (R : Ending → World → Prop) => HIH.out (l - 1) (by have := HL.out; have := HB.out; have := HP.out.ra; omega) m1 b' lim _ _ (by have := HL.out; have := HM1.out; have := HP.out.m1; omega) (HP.out.sz.trans HN.out) HP.out.holds HP.out.lt (by have := HM1.out; have := HP.out.m2; omega) (by have := HL.out; omega) hq (by have h9 := HP.out.belR; rw [HM1.out] at h9; exact h9) (R := R)); clear hP hm1 mm1 mm2))
              all_goals first
                | (go_roundg (b' - m1)
                   case measure => omega
                   case rel => exact ⟨m1, b', _, _, _, _, rfl, rfl, rfl, rfl, rfl, by omega, Nat.le_refl _, by rw [← HM1.out]; exact HG.out⟩)
                | (go_roundg (m - a')
                   case measure => omega
                   case rel => exact ⟨a', m, _, _, _, _, rfl, rfl, rfl, rfl, rfl, by omega, Nat.le_refl _, HG.out⟩)
            · have hl : ltInt x1 x2 = false := by simpa using hl
              have HLL := Lib.hid hl
              go_quiet ((go_at_call 36; first | exact Calls.quiet_of_same (less_any _ _ _) | exact less_quiet _ _ _ _ _))
              go_wp2_with (go_at_call 37; refine partEq_st _ (HS.out.no (Fr.drewN No _ _)) HN.out h0 hp1 hp2 (by rw [HX.out.1, HX.out.2]; exact HLL.out) hsz ?_; intro m d4 w4 mm1 hP; have HP := Lib.hid hP; clear hP)
              go_roundg (b' - m)
              case measure => have := HP.out.rm; omega
              case rel => exact ⟨m, b', _, _, _, _, rfl, rfl, rfl, rfl, rfl, by omega, Nat.le_refl _, HP.out⟩
          · have d0 : decide ((0 : Int) < (a' : Int)) = false := by simp; omega
            clear hx2
            go_quiet ((go_at_call 36; first | exact Calls.quiet_of_same (less_any _ _ _) | exact less_quiet _ _ _ _ _))
            go_wp2_with (first
              | (go_at_call 28; with_reducible refine HI1.out _ (by assumption) _ ?_; intro d5 w5 hp5 hs5 hr5; have HG := Lib.hid (HP.out.goRight hp5 hs5 hr5); clear hp5 hs5 hr5)
              | (go_at_call 28; with_reducible refine HI2.out _ (by assumption) _ ?_; intro d5 w5 hp5 hs5 hr5; rw [← HM1.out] at hp5 hs5; have HG := Lib.hid (HP.out.goLeft hp5 hs5 hr5); clear hp5 hs5 hr5)
              | (go_at_call 38; refine part_st _ (HS.out.no (Fr.drewN No _ _)) HN.out hp1 hp2 hsz ?_; intro m m1 ap d4 w4 hm1 mm1 mm2 hP; have HP := Lib.hid hP; have rm1 : (m : Int) + 1 = (m1 : Int) := by { omega }; have jm1 : (a' : Int) ≤ (m : Int) := by { omega }; have jm2 : (m : Int) < (b' : Int) := by { omega }; have HM1 := Lib.hid hm1; have HI1 := Lib.hid (fun (lim : Nat) (hq : lim ≤ 64) (R : Ending → World → Prop) => HIH.out (l - 1) (by have := HL.out; have := HB.out; have := HP.out.ra; omega) a' m lim _ _ (by have := HL.out; have := HP.out.m2; omega) (HP.out.sz.trans HN.out) HP.out.holds HP.out.lt HP.out.m1 (by have := HL.out; have := HP.out.m2; omega) hq HP.out.belL (R := R)); have HI2 := Lib.hid (fun (lim : Nat) (hq : lim ≤ 64) (R : Ending → World → Prop) => HIH.out (l - 1) (by have := HL.out; have := HB.out; have := HP.out.ra; omega) m1 b' lim _ _ (by have := HL.out; have := HM1.out; have := HP.out.m1; omega) (HP.out.sz.trans HN.out) HP.out.holds HP.out.lt (by have := HM1.out; have := HP.out.m2; omega) (by have := HL.out; omega) hq (by have h9 := HP.out.belR; rw [HM1.out] at h9; exact h9) (R := R)); clear hP hm1 mm1 mm2))
            all_goals first
              | (go_roundg (b' - m1)
                 case measure => omega
                 case rel => exact ⟨m1, b', _, _, _, _, rfl, rfl, rfl, rfl, rfl, by omega, Nat.le_refl _, by rw [← HM1.out]; exact HG.out⟩)
              | (go_roundg (m - a')
                 case measure => omega
                 case rel => exact ⟨a', m, _, _, _, _, rfl, rfl, rfl, rfl, rfl, by omega, Nat.le_refl _, HG.out⟩)
end Go.Proofs.Ytcpaphcodhlggaa
