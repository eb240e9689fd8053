/- Patterns broken: a range whose numbers change places. -/
import Derived.Test.YtcpaphcodhlggaaPivot
import Derived.Test.YtcpaphcodhlggaaBits
import Derived.Laws.BitsAllLaws
import Derived.Laws.Bits64
import Derived.Lib.ItoaNum
import Derived.Sort.LotD2
namespace Go.Proofs.Ytcpaphcodhlggaa
open Go.RowKit Go.Sort
/-- The state of the stir lies at block q; what else lay in wB lies as it lay. -/
structure UAt (wB : World) (q s : Nat) (w : World) : Prop where
  f : Fr (Is (some q)) wB w
  h : w.heap[q]? = some (.cells #[.int .u64 s] 72 (0, 0))
theorem UAt.set {wB w : World} {q s : Nat} (h : UAt wB q s w) (s' : Nat) : UAt wB q s' (w.setCell ⟨q, 0, none⟩ (.int .u64 (s' : Nat))) :=
  ⟨h.f.trans (Fr.set _ _ _ _), by rw [setCell_box h.h]; rfl⟩
theorem UAt.drewN {wB w : World} {q s : Nat} (h : UAt wB q s w) (m : Nat) : UAt wB q s (w.drewN m) := ⟨h.f.trans (Fr.drewN _ _ _), (Fr.drewN No w m).at h.h fun x => x⟩
theorem xor_some (x y : Int) (hx : 0 ≤ x ∧ x < 18446744073709551616) (hy : 0 ≤ y ∧ y < 18446744073709551616) : ∃ z : Nat, z < 18446744073709551616 ∧ bits .xor .u64 x y = (z : Int) := by
  have h := Go.u64_xor_nat x.toNat y.toNat (by omega) (by omega)
  rw [show ((x.toNat : Nat) : Int) = x by omega, show ((y.toNat : Nat) : Int) = y by omega] at h
  exact ⟨_, Nat.xor_lt_two_pow (n := 64) (by omega) (by omega), h⟩
theorem and_some (x y : Int) (hx : 0 ≤ x ∧ x < 18446744073709551616) (hy : 0 ≤ y ∧ y < 18446744073709551616) : ∃ z : Nat, (z : Int) ≤ y ∧ bits .and .u64 x y = (z : Int) := by
  have h := Go.u64_and_nat x.toNat y.toNat (by omega) (by omega)
  rw [show ((x.toNat : Nat) : Int) = x by omega, show ((y.toNat : Nat) : Int) = y by omega] at h
  have := @Nat.and_le_right x.toNat y.toNat
  exact ⟨_, by omega, h⟩
theorem wrap_range (x : Int) : 0 ≤ IntKind.u64.wrap x ∧ IntKind.u64.wrap x < 18446744073709551616 := by rw [IntKind.wrap_u64]; omega
set_option maxRecDepth 100000 in
set_option maxHeartbeats 4000000 in
theorem next_any {R : Ending → World → Prop} {wB w : World} {q s : Nat} (h : UAt wB q s w) (hs : s < 18446744073709551616) (hR : ∀ s' w', s' < 18446744073709551616 → UAt wB q s' w' → R (.returned (.int .u64 (s' : Nat))) w') :
    Calls Try.prog 43 #[.pointer (some ⟨q, 0, none⟩)] w R := by
  have c0 : w.cell? ⟨q, 0, none⟩ = some (.int .u64 s) := cell_at h.h 0 rfl
  have f0 := free_at h.h 0
  obtain ⟨z1, hz1, e1⟩ := xor_some (s : Int) (IntKind.u64.wrap ((s : Int) * 8192)) (by omega) (wrap_range _)
  obtain ⟨z2, hz2, e2⟩ := xor_some (z1 : Int) ((z1 : Int) / 128) (by omega) (by omega)
  obtain ⟨z3, hz3, e3⟩ := xor_some (z2 : Int) (IntKind.u64.wrap ((z2 : Int) * 131072)) (by omega) (wrap_range _)
  have HD := Lib.hid (fun a b c : Nat => hR z3 (((((((w.drewN a).setCell ⟨q, 0, none⟩ (.int .u64 z1)).drewN b).setCell ⟨q, 0, none⟩ (.int .u64 z2)).drewN c).setCell ⟨q, 0, none⟩ (.int .u64 z3))) hz3 ((((((h.drewN a).set z1).drewN b).set z2).drewN c).set z3))
  have c3 : (((w.setCell ⟨q, 0, none⟩ (.int .u64 z1)).setCell ⟨q, 0, none⟩ (.int .u64 z2)).setCell ⟨q, 0, none⟩ (.int .u64 z3)).cell? ⟨q, 0, none⟩ = some (.int .u64 z3) := cell_at (((h.set z1).set z2).set z3).h 0 rfl
  clear h hR hs hz1 hz2 hz3
  go_enter Try.func43, Try.ntmps43
  go_wp2
  go_region
  all_goals go_wp2
  go_region
  all_goals go_wp2
  go_region
  all_goals go_wp2
  exact HD.out 1 1 1
theorem power_le (n : Nat) (h1 : 1 ≤ n) (hn : n ≤ 1000000) : n < 2 ^ Lib.bitLen n ∧ 2 ^ Lib.bitLen n ≤ 2 * n ∧ Lib.bitLen n ≤ 20 := by
  obtain ⟨a1, a2, a3⟩ := Lib.bitLenAux_bounds 64 n (by omega) (by omega)
  have a4 := Lib.bitLenAux_le 64 n 20 (by omega)
  have e : Lib.bitLen n = Lib.bitLenAux 64 n := rfl
  rw [e]
  refine ⟨a3, ?_, a4⟩
  obtain ⟨k, hk⟩ : ∃ k, Lib.bitLenAux 64 n = k + 1 := ⟨_, (Nat.sub_add_cancel a1).symm⟩
  rw [hk] at a2 ⊢
  rw [Nat.add_sub_cancel] at a2
  rw [Nat.pow_succ]
  omega
def PowerIs (n : Nat) (w : World) (e : Ending) (w' : World) : Prop := ∃ m : Nat, n < m ∧ m ≤ 2 * n ∧ e = .returned (.int .u64 (m : Int)) ∧ w = w'
set_option maxRecDepth 100000 in
set_option maxHeartbeats 4000000 in
theorem power_any (n : Nat) (w : World) (h1 : 1 ≤ n) (hn : n ≤ 1000000) :
    Calls Try.prog 42 #[.int .i64 n] w (PowerIs n w) := by
  have hlen : Calls Try.prog 29 #[.int .u64 n] w fun e w' => e = .returned (.int .i64 (Lib.bitLen n)) ∧ w' = w := Any.bits_Len Try.bitsLays n w (by omega) (by omega)
  have HL := Lib.hid hlen
  obtain ⟨p1, p2, p3⟩ := power_le n h1 hn
  have HP := Lib.hid (And.intro p1 p2)
  generalize Lib.bitLen n = k at HL HP p3
  have jk : (k : Int) ≤ 20 := by omega
  have hmin : min k 64 = k := by omega
  have hw : IntKind.u64.wrap (2 ^ k) = ((2 ^ k : Nat) : Int) := by
    have h2 : (2 : Nat) ^ k ≤ 2000000 := by have := HP.out; omega
    have h3 : ((2 : Int) ^ k) = ((2 ^ k : Nat) : Int) := by push_cast; rfl
    rw [h3, IntKind.wrap_u64]
    generalize 2 ^ k = m at h2
    omega
  clear hlen p1 p2
  go_enter Try.func42, Try.ntmps42
  go_wp2_with (go_at_call 29; refine HL.out.mono ?_; rintro e w' ⟨rfl, rfl⟩)
  go_ret
  exact ⟨2 ^ k, HP.out.1, HP.out.2, rfl, rfl⟩
/-- A world of the stir: the row holds dk; its own state lies at block q. -/
structure BAt (w : World) (blk off : Nat) (d : Array Int) (a b q : Nat) (dk : Array Int) (s : Nat) (wr : World) : Prop where
  p : PermIn a b d dk
  f : Fr (fun i => blk = i ∨ q = i) w wr
  r : wr.heap[blk]? = (putRow encU w blk off dk).heap[blk]?
  h : wr.heap[q]? = some (.cells #[.int .u64 s] 72 (0, 0))
theorem setCell_congr {w1 w2 : World} {b k : Nat} {v : Value} (h : w1.heap[b]? = w2.heap[b]?) : (w1.setCell ⟨b, k, none⟩ v).heap[b]? = (w2.setCell ⟨b, k, none⟩ v).heap[b]? := by
  simp [World.setCell, Array.getElem?_modify, h]
theorem BAt.holds {w wr : World} {blk off a b q s : Nat} {d dk : Array Int} (h : BAt w blk off d a b q dk s wr) (hH : Holds encU w blk off d) : Holds encU wr blk off dk := by
  have hp := holds_putRow encU w blk off d dk hH h.p.1
  intro j hj
  obtain ⟨h1, h2⟩ := hp j hj
  exact ⟨(World.cell?_of_block (a := ⟨blk, off + j, none⟩) h.r).trans h1, (frozen_of_block (a := ⟨blk, off + j, none⟩) h.r).trans h2⟩
theorem BAt.next {w wr w' : World} {blk off a b q s s' : Nat} {d dk : Array Int} (h : BAt w blk off d a b q dk s wr) (hu : UAt wr q s' w') (hne : blk ≠ q) (hl : blk < w.heap.size) : BAt w blk off d a b q dk s' w' :=
  ⟨h.p, h.f.trans (hu.f.mono fun i _ e => .inr (by simpa [Is] using e)), (hu.f.block blk (Nat.lt_of_lt_of_le hl h.f.size) fun e => hne (by simpa [Is] using e.symm)).trans h.r, hu.h⟩
theorem BAt.swap {w wr : World} {blk off a b q s i j : Nat} {d dk : Array Int} (h : BAt w blk off d a b q dk s wr) (hne : blk ≠ q) (hi : a ≤ i ∧ i < b) (hj : a ≤ j ∧ j < b) (hb : b ≤ d.size) (n : Nat) :
    BAt w blk off d a b q (swp dk i j) s (((wr.drewN n).setCell ⟨blk, off + i, none⟩ (.int .u64 dk[j]!)).setCell ⟨blk, off + j, none⟩ (.int .u64 dk[i]!)) := by
  have hs := h.p.1
  refine ⟨permIn_trans _ _ _ a b h.p (swp_permIn dk a b i j hi.1 hi.2 hj.1 hj.2 (by omega)), ?_, ?_, ?_⟩
  · exact ((h.f.trans ((Fr.drewN _ _ _))).trans (Fr.setCell _ _ _ fun _ => .inl rfl)).trans (Fr.setCell _ _ _ fun _ => .inl rfl)
  · rw [← putRow_swp encU w blk off dk i j (by omega) (by omega)]
    exact setCell_congr (setCell_congr h.r)
  · have f : Fr (Is (some blk)) wr (((wr.drewN n).setCell ⟨blk, off + i, none⟩ (.int .u64 dk[j]!)).setCell ⟨blk, off + j, none⟩ (.int .u64 dk[i]!)) := ((Fr.drewN _ _ _).trans (Fr.set _ _ _ _)).trans (Fr.set _ _ _ _)
    exact f.at h.h fun e => hne (by simpa [Is] using e)
def BRel (w : World) (blk off : Nat) (d : Array Int) (a b q lo hi : Nat) (v : Value) (wr : World) : Prop :=
  ∃ (idx s : Nat) (dk : Array Int), v = .int .i64 idx ∧ lo ≤ idx ∧ idx ≤ hi + 1 ∧ s < 18446744073709551616 ∧ BAt w blk off d a b q dk s wr
set_option maxRecDepth 100000 in
set_option maxHeartbeats 8000000 in
theorem break_any {R : Ending → World → Prop} (blk off cap a b n : Nat) (d : Array Int) (w : World) (hn : d.size = n) (hH : Holds encU w blk off d) (hbl : blk < w.heap.size) (hab : a + 12 < b) (hb : b ≤ n) (hsz : n ≤ 1000000)
    (hR : ∀ d' w', PermIn a b d d' → RowG w blk off d' w' → R (.returned (.tuple #[])) w') :
    Calls Try.prog 32 #[.slice (some ⟨blk, off, none⟩) n cap, .int .i64 a, .int .i64 b] w R := by
  have HR := Lib.hid hR
  have HH := Lib.hid hH
  have HN := Lib.hid hn
  obtain ⟨l, hl⟩ : ∃ x, b - a = x := ⟨_, rfl⟩
  obtain ⟨lo, hlo⟩ : ∃ x, a + l / 4 * 2 - 1 = x := ⟨_, rfl⟩
  have r1 : (b : Int) - (a : Int) = (l : Int) := by omega
  have jn : (n : Int) ≤ 1000000 := by omega
  have jl : (l : Int) ≤ 1000000 := by omega
  have jl2 : 13 ≤ (l : Int) := by omega
  have ja : (a : Int) ≤ 1000000 := by omega
  have HL := Lib.hid hl
  have HLO := Lib.hid hlo
  have r2 : (a : Int) + (l : Int) / 4 * 2 - 1 = (lo : Int) := by omega
  have r3 : (a : Int) + (l : Int) / 4 * 2 + 1 = (lo : Int) + 2 := by omega
  have jlo : (lo : Int) ≤ 1000000 := by omega
  have HB := Lib.hid (show a ≤ lo ∧ lo + 2 < b by omega)
  clear hR hl hlo hH hn
  go_enter Try.func32, Try.ntmps32
  go_wp2_with (go_at_call 42; refine (power_any l _ (by have := HL.out; omega) (by have := HL.out; omega)).mono ?_; rintro e w' ⟨m, hm1, hm2, rfl, rfl⟩)
  have HM := Lib.hid (And.intro hm1 hm2)
  have jm1 : (l : Int) < (m : Int) := by omega
  have jm2 : (m : Int) ≤ 2 * (l : Int) := by omega
  have HNE := Lib.hid (show blk ≠ w.heap.size by omega)
  clear hm1 hm2
  go_loopw [9] (fun v wr => BRel w blk off d a b w.heap.size lo (lo + 2) v wr) (fun v _ => lo + 3 - (intOf v).toNat)
  case atStart => exact ⟨lo, l, d, rfl, Nat.le_refl _, by omega, by omega, permIn_refl _ _ _, (Fr.alloc _ _ _), (Fr.alloc No w _).block blk hbl (fun x => x) |>.trans (RowG.start HH.out).2, heap_new w _⟩
  case round =>
    obtain ⟨idx, s, dk, rfl, hi1, hi2, hs, hB⟩ := hrel
    have HB0 := Lib.hid hB
    clear hB
    have ji1 : (lo : Int) ≤ (idx : Int) := by omega
    have ji2 : (idx : Int) ≤ (lo : Int) + 3 := by omega
    by_cases hlt : idx ≤ lo + 2
    · have il : (idx : Int) ≤ (lo : Int) + 2 := by omega
      go_wp2_with (go_at_call 43; refine next_any (wB := wr) ⟨Fr.refl _ _, HB0.out.h⟩ hs ?_; intro s2 w2 hs2u hu; obtain ⟨z, hz, ez⟩ := and_some (s2 : Int) ((m : Int) - 1) (by omega) (by omega); have HB1 := Lib.hid (HB0.out.next hu HNE.out hbl); clear hu)
      · obtain ⟨o, ho⟩ : ∃ x, z - l = x := ⟨_, rfl⟩
        have hlz : (l : Int) ≤ (z : Int) := by omega
        have r5 : (z : Int) - (l : Int) = (o : Int) := by omega
        obtain ⟨ao, hao⟩ : ∃ x, a + o = x := ⟨_, rfl⟩
        have r6 : (a : Int) + (o : Int) = (ao : Int) := by omega
        have wao : IntKind.i64.wrap (ao : Int) = (ao : Int) := IntWalk.i64_in _ (by omega)
        have hao1 : a ≤ ao ∧ ao < b := by have := HL.out; omega
        have HAO := Lib.hid hao1
        have hHd := HB1.out.holds HH.out
        have hsz1 := HB1.out.p.1
        have hdn := HN.out
        have c1 := (hHd idx (by have := HB.out; omega)).1
        have c2 := (hHd ao (by omega)).1
        have f1 := (hHd idx (by have := HB.out; omega)).2
        have f2 := (hHd ao (by omega)).2
        have k1 : (idx : Int) < (n : Int) := by have := HB.out; omega
        have k2 : (ao : Int) < (n : Int) := by omega
        obtain ⟨v1, hs1⟩ := cell?_setCell_some (w := w2) (p := ⟨blk, off + idx, none⟩) (x := .int .u64 dk[ao]!) (q := ⟨blk, off + ao, none⟩) (v := .int .u64 dk[ao]!) c2
        obtain ⟨v2, hs2⟩ := cell?_setCell_some (w := w2) (p := ⟨blk, off + ao, none⟩) (x := .int .u64 dk[idx]!) (q := ⟨blk, off + idx, none⟩) (v := .int .u64 dk[idx]!) c1
        have HS1 := Lib.hid hs1
        have HB2 := Lib.hid (HB1.out.swap HNE.out (i := idx) (j := ao) (by have := HB.out; omega) hao1 (by omega) 1)
        obtain ⟨x1, hx1⟩ : ∃ x, dk[idx]! = x := ⟨_, rfl⟩
        obtain ⟨x2, hx2⟩ : ∃ x, dk[ao]! = x := ⟨_, rfl⟩
        rw [hx1] at c1 hs2 HB2
        rw [hx2] at c2 hs1 HB2
        clear hao1 hHd hsz1 hdn HS1 hx1 hx2
        go_region
        all_goals go_wp2
        exact ⟨⟨idx + 1, s2, _, by go_num, by omega, by omega, hs2u, HB2.out⟩, by simp [intOf]; omega⟩
      · have hlz : (z : Int) < (l : Int) := by omega
        obtain ⟨ao, hao⟩ : ∃ x, a + z = x := ⟨_, rfl⟩
        have r6 : (a : Int) + (z : Int) = (ao : Int) := by omega
        have wao : IntKind.i64.wrap (ao : Int) = (ao : Int) := IntWalk.i64_in _ (by omega)
        have hao1 : a ≤ ao ∧ ao < b := by have := HL.out; omega
        have HAO := Lib.hid hao1
        have hHd := HB1.out.holds HH.out
        have hsz1 := HB1.out.p.1
        have hdn := HN.out
        have c1 := (hHd idx (by have := HB.out; omega)).1
        have c2 := (hHd ao (by omega)).1
        have f1 := (hHd idx (by have := HB.out; omega)).2
        have f2 := (hHd ao (by omega)).2
        have k1 : (idx : Int) < (n : Int) := by have := HB.out; omega
        have k2 : (ao : Int) < (n : Int) := by omega
        obtain ⟨v1, hs1⟩ := cell?_setCell_some (w := w2) (p := ⟨blk, off + idx, none⟩) (x := .int .u64 dk[ao]!) (q := ⟨blk, off + ao, none⟩) (v := .int .u64 dk[ao]!) c2
        obtain ⟨v2, hs2⟩ := cell?_setCell_some (w := w2) (p := ⟨blk, off + ao, none⟩) (x := .int .u64 dk[idx]!) (q := ⟨blk, off + idx, none⟩) (v := .int .u64 dk[idx]!) c1
        have HS1 := Lib.hid hs1
        have HB2 := Lib.hid (HB1.out.swap HNE.out (i := idx) (j := ao) (by have := HB.out; omega) hao1 (by omega) 1)
        obtain ⟨x1, hx1⟩ : ∃ x, dk[idx]! = x := ⟨_, rfl⟩
        obtain ⟨x2, hx2⟩ : ∃ x, dk[ao]! = x := ⟨_, rfl⟩
        rw [hx1] at c1 hs2 HB2
        rw [hx2] at c2 hs1 HB2
        clear hao1 hHd hsz1 hdn HS1 hx1 hx2
        go_region
        all_goals go_wp2
        exact ⟨⟨idx + 1, s2, _, by go_num, by omega, by omega, hs2u, HB2.out⟩, by simp [intOf]; omega⟩
    · have il : (lo : Int) + 2 < (idx : Int) := by omega
      have HE := Lib.hid (HR.out dk wr HB0.out.p ⟨HB0.out.f.mono fun i hi e => e.elim (fun e => by simp [Is, e]) (fun e => by omega), HB0.out.r⟩)
      go_wp2
      go_end0
      exact HE.out
end Go.Proofs.Ytcpaphcodhlggaa
