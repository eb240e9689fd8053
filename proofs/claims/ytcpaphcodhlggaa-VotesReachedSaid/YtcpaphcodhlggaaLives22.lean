/- The chapter's example on votes. -/
import Derived.Test.YtcpaphcodhlggaaSmall
import Derived.Test.YtcpaphcodhlggaaReach
namespace Go.Proofs.Ytcpaphcodhlggaa
open Go.RowKit Go.Sort
theorem sorts_597 : SortsTo [5, 9, 7] #[5, 7, 9] := by
  refine ⟨rfl, fun blk cap w hH _ => sort_three blk 0 cap _ w hH rfl fun w' h => ⟨rfl, ?_⟩⟩
  have e : Sort.insertionSort ltInt (List.toArray [5, 9, 7]) 0 3 = #[5, 7, 9] := by decide +kernel
  rw [e] at h
  exact h.g
/-- A poll that was made since w0. -/
structure PL (w0 w : World) (b n : Nat) (s : List Nat) : Prop where
  p : PollAt w b n s
  f : Fr No w0 w
  g : w0.heap.size ≤ b
  n1 : 1 ≤ n
  n7 : n ≤ 7
  s2 : ∀ x ∈ s, x ≤ 2
theorem PL.no {w0 w w' : World} {b n : Nat} {s : List Nat} (h : PL w0 w b n s) (hF : Fr No w w') : PL w0 w' b n s := ⟨h.p.fr hF fun x => x, h.f.trans hF, h.g, h.n1, h.n7, h.s2⟩
theorem PL.other {w0 w w' : World} {b c n : Nat} {s : List Nat} (h : PL w0 w b n s) (hF : Fr (Is (some c)) w w') (hne : c ≠ b) (hF0 : Fr No w0 w') : PL w0 w' b n s :=
  ⟨h.p.fr hF fun e => hne (by simpa [Is] using e), hF0, h.g, h.n1, h.n7, h.s2⟩
theorem sayD_two {n : Nat} {s : List Nat} (k : Nat) (y : Bool) (h : ∀ x ∈ s, x ≤ 2) : ∀ x ∈ sayD n s k y, x ≤ 2 := by
  unfold sayD
  split
  · intro x hx
    rcases List.mem_or_eq_of_mem_set hx with h1 | h1
    · exact h x h1
    · rw [h1]; split <;> omega
  · exact h
theorem pl_new {R : Ending → World → Prop} (n : Nat) (w : World) (h1 : 1 ≤ n) (h7 : n ≤ 7) (hR : ∀ b w', PL w w' b n [0, 0, 0, 0, 0, 0, 0] → R (.returned (.pointer (some ⟨b, 0, none⟩))) w') :
    Calls Try.prog 9 #[.int .i64 n] w R :=
  new_any n w h1 h7 fun b w' hp hF hge => hR b w' ⟨hp, hF, hge, h1, h7, by decide⟩
theorem pl_say {R : Ending → World → Prop} {w0 w : World} {b n : Nat} {s : List Nat} (h : PL w0 w b n s) (k : Nat) (hk : k < 256) (y : Bool) {r : Bool} {s' : List Nat} (hr : mayB n s k = r) (hs : sayD n s k y = s')
    (hR : ∀ w', PL w0 w' b n s' → Fr (Is (some b)) w w' → R (.returned (.bool r)) w') :
    Calls Try.prog 11 #[.pointer (some ⟨b, 0, none⟩), .int .u8 k, .bool y] w R := by
  subst hr hs
  refine say_any h.p h.n1 h.n7 h.s2 k hk y fun w' hp hF => hR w' ⟨hp, h.f.step hF fun i hi hp => ?_, h.g, h.n1, h.n7, sayD_two k y h.s2⟩ hF
  have e : b = i := by simpa [Is] using hp
  have := h.g
  omega
theorem pl_won {R : Ending → World → Prop} {w0 w : World} {b n : Nat} {s : List Nat} (h : PL w0 w b n s) {r : Bool} (hr : wonD n s = r)
    (hR : ∀ w', PL w0 w' b n s → Fr No w w' → R (.returned (.bool r)) w') :
    Calls Try.prog 15 #[.pointer (some ⟨b, 0, none⟩)] w R := by
  subst hr
  exact won_any h.p h.n1 h.n7 fun m => hR _ (h.no (Fr.drewN _ _ _)) (Fr.drewN _ _ _)
theorem pl_lost {R : Ending → World → Prop} {w0 w : World} {b n : Nat} {s : List Nat} (h : PL w0 w b n s) {r : Bool} (hr : lostD n s = r)
    (hR : ∀ w', PL w0 w' b n s → Fr No w w' → R (.returned (.bool r)) w') :
    Calls Try.prog 16 #[.pointer (some ⟨b, 0, none⟩)] w R := by
  subst hr
  exact lost_any h.p h.n1 h.n7 fun m => by rw [lostD_eq]; exact hR _ (h.no (Fr.drewN _ _ _)) (Fr.drewN _ _ _)
theorem ints_597 (w : World) : Ints (w.alloc (.cells #[.int .u64 5, .int .u64 9, .int .u64 7] 35)).heap.size (w.alloc (.cells #[.int .u64 5, .int .u64 9, .int .u64 7] 35)) (.slice (some ⟨w.heap.size, 0, none⟩) 3 3) [5, 9, 7] := by
  have h := heap_new w (.cells #[.int .u64 5, .int .u64 9, .int .u64 7] 35)
  refine .inr ⟨w.heap.size, 0, 3, rfl, by simp, fun j hj => ?_⟩
  match j, hj with
  | 0, _ => exact cell_at h 0 rfl
  | 1, _ => exact cell_at h 1 rfl
  | 2, _ => exact cell_at h 2 rfl
theorem reached_597 {R : Ending → World → Prop} (w : World) (hR : ∀ w', Fr No w w' → R (.returned (.int .u64 7)) w') :
    Calls Try.prog 17 #[.slice (some ⟨w.heap.size, 0, none⟩) 3 3] (w.alloc (.cells #[.int .u64 5, .int .u64 9, .int .u64 7] 35)) R :=
  reached_with w.heap.size 0 3 [5, 9, 7] #[5, 7, 9] (by decide) (by decide) _ (ints_597 w) sorts_597 fun w' hF => hR w' ((Fr.alloc _ _ _).trans hF)
set_option maxRecDepth 100000 in
set_option maxHeartbeats 8000000 in
theorem lives22_any {R : Ending → World → Prop} (w : World) (hR : ∀ w', Fr No w w' → R (.returned (.bool true)) w') :
    Calls Try.prog 8 #[] w R := by
  have HR := Lib.hid hR
  clear hR
  go_enter Try.func8, Try.ntmps8
  go_wp2_with (first
    | (go_at_call 16; refine pl_lost P6.out (r := false) (by decide) ?_; intro w7 hp _; have P7 := Lib.hid hp; clear hp P6)
    | (go_at_call 15; refine pl_won P5.out (r := true) (by decide) ?_; intro w6 hp _; have P6 := Lib.hid hp; clear hp P5)
    | (go_at_call 17; refine reached_597 _ ?_; intro w5 hF; have P5 := Lib.hid (P4.out.no hF); clear hF P4)
    | (go_at_call 19; refine (most_any 4 _ (by omega)).mono ?_; rintro e w' ⟨rfl, rfl⟩)
    | (go_at_call 11; refine pl_say P3.out 2 (by omega) true (r := true) (s' := [1, 1, 0, 0, 0, 0, 0]) (by decide) (by decide) ?_; intro w4 hp _; have P4 := Lib.hid hp; clear hp P3)
    | (go_at_call 15; refine pl_won P2b.out (r := false) (by decide) ?_; intro w3 hp _; have P3 := Lib.hid hp; clear hp P2b)
    | (go_at_call 11; refine pl_say P2.out 1 (by omega) false (r := false) (s' := [1, 0, 0, 0, 0, 0, 0]) (by decide) (by decide) ?_; intro w2b hp _; have P2b := Lib.hid hp; clear hp P2)
    | (go_at_call 11; refine pl_say P1.out 1 (by omega) true (r := true) (s' := [1, 0, 0, 0, 0, 0, 0]) (by decide) (by decide) ?_; intro w2 hp _; have P2 := Lib.hid hp; clear hp P1)
    | (go_at_call 9; refine pl_new 3 _ (by omega) (by omega) ?_; intro b w1 hp; have P1 := Lib.hid hp; clear hp))
  exact HR.out _ P7.out.f
end Go.Proofs.Ytcpaphcodhlggaa
