/- The pivot: some place of the range, and some hint; nothing that lay there turns. -/
import Derived.Test.YtcpaphcodhlggaaRowG
import Derived.Test.YtcpaphcodhlggaaPoll
namespace Go.Proofs.Ytcpaphcodhlggaa
open Go.RowKit Go.Sort
/-- The count of swaps lies at block q; what else lay in wB lies as it lay. -/
structure QAt (wB : World) (q s : Nat) (w : World) : Prop where
  f : Fr (Is (some q)) wB w
  h : w.heap[q]? = some (.cells #[.int .i64 s] 3 (0, 0))
def Reads (w : World) (blk off n : Nat) (G : Nat → Int) : Prop := ∀ t, t < n → w.cell? ⟨blk, off + t, none⟩ = some (.int .u64 (G t))
theorem QAt.cell {wB w : World} {q s blk off n : Nat} {G : Nat → Int} (h : QAt wB q s w) (hG : Reads wB blk off n G) (hne : blk ≠ q) (t : Nat) (ht : t < n) : w.cell? ⟨blk, off + t, none⟩ = some (.int .u64 (G t)) :=
  h.f.cell (hG t ht) fun e => hne (by simpa [Is] using e.symm)
theorem QAt.drewN {wB w : World} {q s : Nat} (h : QAt wB q s w) (m : Nat) : QAt wB q s (w.drewN m) := ⟨h.f.trans (Fr.drewN _ _ _), (Fr.drewN No w m).at h.h fun x => x⟩
theorem QAt.set {wB w : World} {q s : Nat} (h : QAt wB q s w) (s' : Nat) : QAt wB q s' (w.setCell ⟨q, 0, none⟩ (.int .i64 (s' : Nat))) :=
  ⟨h.f.trans (Fr.set _ _ _ _), by rw [setCell_box h.h]; rfl⟩
theorem QAt.no {w w' : World} {o : Obj} {s : Nat} (h : QAt (w.alloc o) w.heap.size s w') : Fr No w w' :=
  (Fr.alloc No w _).step h.f fun i hi e => by
    have e2 : w.heap.size = i := by simpa [Is] using e
    omega
set_option maxRecDepth 100000 in
set_option maxHeartbeats 4000000 in
theorem order2_any {R : Ending → World → Prop} {wB w : World} {q s blk off n cap a b : Nat} {G : Nat → Int} (h : QAt wB q s w) (hG : Reads wB blk off n G) (hne : blk ≠ q) (ha : a < n) (hb : b < n) (hs : s ≤ 1000) (hn : n ≤ 1000000)
    (hR : ∀ x y s' w', (x = a ∧ y = b ∨ x = b ∧ y = a) → s' ≤ s + 1 → QAt wB q s' w' → R (.returned (.tuple #[.int .i64 (x : Nat), .int .i64 (y : Nat)])) w') :
    Calls Try.prog 47 #[.slice (some ⟨blk, off, none⟩) n cap, .int .i64 a, .int .i64 b, .pointer (some ⟨q, 0, none⟩)] w R := by
  have c0 := cell_at h.h 0 rfl
  have f0 := free_at h.h 0
  have c1 := h.cell hG hne a ha
  have c2 := h.cell hG hne b hb
  have ja : (a : Int) < (n : Int) := by omega
  have jb : (b : Int) < (n : Int) := by omega
  have jn : (n : Int) ≤ 1000000 := by omega
  have js : (s : Int) ≤ 1000 := by omega
  have HR := Lib.hid hR
  have HQ := Lib.hid h
  clear hR h hG
  go_enter Try.func47, Try.ntmps47
  go_wp2_with fail
  go_quiet ((go_at_call 36; exact Calls.quiet_of_same (less_any _ _ _)))
  go_wp2
  · exact HR.out b a (s + 1) _ (.inr ⟨rfl, rfl⟩) (Nat.le_refl _) ((HQ.out.drewN _).set (s + 1))
  · exact HR.out a b s _ (.inl ⟨rfl, rfl⟩) (by omega) (HQ.out.drewN _)
set_option maxRecDepth 100000 in
set_option maxHeartbeats 4000000 in
theorem median_any {R : Ending → World → Prop} {wB w : World} {q s blk off n cap a b c : Nat} {G : Nat → Int} (h : QAt wB q s w) (hG : Reads wB blk off n G) (hne : blk ≠ q) (ha : a < n) (hb : b < n) (hc : c < n) (hs : s ≤ 900) (hn : n ≤ 1000000)
    (hR : ∀ x s' w', (x = a ∨ x = b ∨ x = c) → s' ≤ s + 3 → QAt wB q s' w' → R (.returned (.int .i64 (x : Nat))) w') :
    Calls Try.prog 45 #[.slice (some ⟨blk, off, none⟩) n cap, .int .i64 a, .int .i64 b, .int .i64 c, .pointer (some ⟨q, 0, none⟩)] w R := by
  have HR := Lib.hid hR
  have HQ := Lib.hid h
  have HG := Lib.hid hG
  clear hR h hG
  go_enter Try.func45, Try.ntmps45
  go_wp2_with (first
    | (go_at_call 47; refine order2_any Q2.out HG.out hne X2.out.1 X2.out.2.1 (by have := X2.out.2.2.1; omega) hn ?_; intro x3 y3 s3 w3 h3 hs3 hq3; have Q3 := Lib.hid hq3; have X3 := Lib.hid (And.intro h3 hs3); clear h3 hs3 hq3)
    | (go_at_call 47; refine order2_any Q1.out HG.out hne X1.out.2.1 hc (by have := X1.out.2.2.1; omega) hn ?_; intro x2 y2 s2 w2 h2 hs2 hq2; have Q2 := Lib.hid hq2; have X2 : Hid (x1 < n ∧ x2 < n ∧ s2 ≤ s + 2 ∧ (x1 = a ∨ x1 = b) ∧ (x2 = a ∨ x2 = b ∨ x2 = c)) := Lib.hid (by have := X1.out; rcases h2 with ⟨rfl, rfl⟩ | ⟨rfl, rfl⟩ <;> omega); clear h2 hs2 hq2)
    | (go_at_call 47; refine order2_any HQ.out HG.out hne ha hb (by omega) hn ?_; intro x1 y1 s1 w1 h1 hs1 hq1; have Q1 := Lib.hid hq1; have X1 : Hid (x1 < n ∧ y1 < n ∧ s1 ≤ s + 1 ∧ (x1 = a ∨ x1 = b) ∧ (y1 = a ∨ y1 = b)) := Lib.hid (by rcases h1 with ⟨rfl, rfl⟩ | ⟨rfl, rfl⟩ <;> omega); clear h1 hs1 hq1))
  exact HR.out y3 s3 _ (by have := X3.out; have := X2.out; omega) (by have := X3.out; have := X2.out; omega) Q3.out
set_option maxRecDepth 100000 in
set_option maxHeartbeats 4000000 in
theorem adjacent_any {R : Ending → World → Prop} {wB w : World} {q s blk off n cap a : Nat} {G : Nat → Int} (h : QAt wB q s w) (hG : Reads wB blk off n G) (hne : blk ≠ q) (h1 : 1 ≤ a) (ha : a + 1 < n) (hs : s ≤ 900) (hn : n ≤ 1000000)
    (hR : ∀ x s' w', (x = a - 1 ∨ x = a ∨ x = a + 1) → s' ≤ s + 3 → QAt wB q s' w' → R (.returned (.int .i64 (x : Nat))) w') :
    Calls Try.prog 44 #[.slice (some ⟨blk, off, none⟩) n cap, .int .i64 a, .pointer (some ⟨q, 0, none⟩)] w R := by
  obtain ⟨a1, ha1⟩ : ∃ x, a - 1 = x := ⟨_, rfl⟩
  obtain ⟨a2, ha2⟩ : ∃ x, a + 1 = x := ⟨_, rfl⟩
  have r1 : (a : Int) - 1 = (a1 : Int) := by omega
  have r2 : (a : Int) + 1 = (a2 : Int) := by omega
  have b1 : (a1 : Int) ≤ 1000000 := by omega
  have b2 : (a2 : Int) ≤ 1000000 := by omega
  have b3 : (a : Int) ≤ 1000000 := by omega
  have l1 : a1 < n := by omega
  have l2 : a2 < n := by omega
  have l3 : a < n := by omega
  rw [ha1, ha2] at hR
  have HR := Lib.hid hR
  have HQ := Lib.hid h
  have HG := Lib.hid hG
  clear hR h hG ha1 ha2
  go_enter Try.func44, Try.ntmps44
  go_wp2_with (go_at_call 45; refine median_any HQ.out HG.out hne l1 l3 l2 hs hn ?_; intro x1 s1 w1 h1 hs1 hq1; have Q1 := Lib.hid hq1; have X1 := Lib.hid (And.intro h1 hs1); clear h1 hs1 hq1)
  exact HR.out x1 s1 _ X1.out.1 X1.out.2 Q1.out
set_option maxRecDepth 100000 in
set_option maxHeartbeats 8000000 in
theorem pivot_any {R : Ending → World → Prop} (blk off cap a b n : Nat) (d : Array Int) (w : World) (hn : d.size = n) (hH : Holds encU w blk off d) (hbl : blk < w.heap.size) (hab : a + 12 < b) (hb : b ≤ n) (hsz : n ≤ 1000000)
    (hR : ∀ (x : Nat) (h : Int) w', a ≤ x → x < b → (h = 0 ∨ h = 1 ∨ h = 2) → Fr No w w' → R (.returned (.tuple #[.int .i64 x, .int .i64 h])) w') :
    Calls Try.prog 33 #[.slice (some ⟨blk, off, none⟩) n cap, .int .i64 a, .int .i64 b] w R := by
  have HR := Lib.hid hR
  obtain ⟨l, hl⟩ : ∃ x, b - a = x := ⟨_, rfl⟩
  obtain ⟨i, hi⟩ : ∃ x, a + l / 4 = x := ⟨_, rfl⟩
  obtain ⟨j, hj⟩ : ∃ x, a + l / 4 * 2 = x := ⟨_, rfl⟩
  obtain ⟨k, hk⟩ : ∃ x, a + l / 4 * 3 = x := ⟨_, rfl⟩
  have r1 : (b : Int) - (a : Int) = (l : Int) := by omega
  have r2 : (a : Int) + (l : Int) / 4 = (i : Int) := by omega
  have r3 : (a : Int) + (l : Int) / 4 * 2 = (j : Int) := by omega
  have r4 : (a : Int) + (l : Int) / 4 * 3 = (k : Int) := by omega
  have jn : (n : Int) ≤ 1000000 := by omega
  have jl : (l : Int) ≤ 1000000 := by omega
  have jl2 : 13 ≤ (l : Int) := by omega
  have ja : (a : Int) ≤ 1000000 := by omega
  have ji : (i : Int) ≤ 1000000 := by omega
  have jj : (j : Int) ≤ 1000000 := by omega
  have jk : (k : Int) ≤ 1000000 := by omega
  have b1 : a + 3 ≤ i ∧ i + 3 ≤ j ∧ j + 3 ≤ k ∧ k + 3 ≤ b := by omega
  have HB1 := Lib.hid b1
  have hG : Reads (w.alloc (.cells #[.int .i64 0] 3)) blk off n (fun t => d[t]!) := fun t ht => (Fr.alloc No w _).cell (hH t (by omega)).1 fun x => x
  have hq : QAt (w.alloc (.cells #[.int .i64 0] 3)) w.heap.size 0 (w.alloc (.cells #[.int .i64 0] 3)) := ⟨Fr.refl _ _, heap_new w _⟩
  have hne : blk ≠ w.heap.size := by omega
  have HG := Lib.hid hG
  have HQ0 := Lib.hid hq
  have HL := Lib.hid hl
  clear hR hH hn hG hq hi hj hk b1 hl
  by_cases h50 : 50 ≤ l
  · have j50 : 50 ≤ (l : Int) := by omega
    go_enter Try.func33, Try.ntmps33
    go_wp2_with (first
      | (go_at_call 45; refine median_any Q3.out HG.out hne (by have := X1.out; have := HB1.out; omega) (by have := X2.out; have := HB1.out; omega) (by have := X3.out; have := HB1.out; omega) (by have := X3.out; have := X2.out; have := X1.out; omega) hsz ?_; intro x4 s4 w4 h4 hs4 hq4; have Q4 := Lib.hid hq4; have X4 := Lib.hid (And.intro h4 hs4); have d4 := cell_at Q4.out.h 0 rfl; clear h4 hs4 hq4)
      | (go_at_call 44; refine adjacent_any Q2.out HG.out hne (by have := HB1.out; omega) (by have := HB1.out; omega) (by have := X2.out; have := X1.out; omega) hsz ?_; intro x3 s3 w3 h3 hs3 hq3; have Q3 := Lib.hid hq3; have X3 := Lib.hid (And.intro h3 hs3); clear h3 hs3 hq3)
      | (go_at_call 44; refine adjacent_any Q1.out HG.out hne (by have := HB1.out; omega) (by have := HB1.out; omega) (by have := X1.out; omega) hsz ?_; intro x2 s2 w2 h2 hs2 hq2; have Q2 := Lib.hid hq2; have X2 := Lib.hid (And.intro h2 hs2); clear h2 hs2 hq2)
      | (go_at_call 44; refine adjacent_any HQ0.out HG.out hne (by have := HB1.out; omega) (by have := HB1.out; omega) (by omega) hsz ?_; intro x1 s1 w1 h1 hs1 hq1; have Q1 := Lib.hid hq1; have X1 := Lib.hid (And.intro h1 hs1); clear h1 hs1 hq1))
    all_goals
      have hx := (show a ≤ x4 ∧ x4 < b by have h1 := HB1.out; have h2 := X4.out; have h3 := X3.out; have h4 := X2.out; have h5 := X1.out; omega)
      exact HR.out x4 _ _ hx.1 hx.2 (by decide) (QAt.no Q4.out)
  · have j50 : (l : Int) < 50 := by omega
    go_enter Try.func33, Try.ntmps33
    go_wp2_with (go_at_call 45; refine median_any HQ0.out HG.out hne (by have := HB1.out; omega) (by have := HB1.out; omega) (by have := HB1.out; omega) (by omega) hsz ?_; intro x4 s4 w4 h4 hs4 hq4; have Q4 := Lib.hid hq4; have X4 := Lib.hid (And.intro h4 hs4); have d4 := cell_at Q4.out.h 0 rfl; clear h4 hs4 hq4)
    all_goals
      have hx := (show a ≤ x4 ∧ x4 < b by have h1 := HB1.out; have h2 := X4.out; omega)
      exact HR.out x4 _ _ hx.1 hx.2 (by decide) (QAt.no Q4.out)
end Go.Proofs.Ytcpaphcodhlggaa
