/- slices.Sort at uint64; Reached of any numbers. -/
import Derived.Test.YtcpaphcodhlggaaPdq
import Derived.Test.YtcpaphcodhlggaaSorted
import Derived.Test.YtcpaphcodhlggaaArgsU22
namespace Go.Proofs.Ytcpaphcodhlggaa
open Go.RowKit Go.Sort
set_option maxRecDepth 100000 in
set_option maxHeartbeats 4000000 in
theorem sort_any {R : Ending → World → Prop} (blk cap n : Nat) (d : Array Int) (w : World) (hn : d.size = n) (hsz : n ≤ 1000000) (hH : Holds encU w blk 0 d) (hl : blk < w.heap.size)
    (hR : ∀ d' w', PermIn 0 n d d' → SortedIn ltInt 0 n d' → RowG w blk 0 d' w' → R (.returned (.tuple #[])) w') :
    Calls Try.prog 25 #[.slice (some ⟨blk, 0, none⟩) n cap] w R := by
  have hlen : Calls Try.prog 29 #[.int .u64 n] w fun e w' => e = .returned (.int .i64 (Lib.bitLen n)) ∧ w' = w := Any.bits_Len Try.bitsLays n w (by omega) (by omega)
  have HL := Lib.hid hlen
  have a4 : Lib.bitLen n ≤ 20 := Lib.bitLenAux_le 64 n 20 (by omega)
  have hp : ∀ {R : Ending → World → Prop}, (∀ d' w', PermIn 0 n d d' → SortedIn ltInt 0 n d' → RowG w blk 0 d' w' → R (.returned (.tuple #[])) w') → Calls Try.prog 28 #[.slice (some ⟨blk, 0, none⟩) n cap, .int .i64 ((0 : Nat) : Int), .int .i64 n, .int .i64 (Lib.bitLen n : Nat)] w R :=
    fun h => pdq_any blk 0 cap n hsz n 0 n (Lib.bitLen n) d w (by omega) hn hH hl (by omega) (Nat.le_refl _) (by omega) (.inl rfl) h
  have HP := Lib.hid (hp (R := fun e w' => e = .returned (.tuple #[]) ∧ R (.returned (.tuple #[])) w') fun d' w' h1 h2 h3 => ⟨rfl, hR d' w' h1 h2 h3⟩)
  generalize Lib.bitLen n = k at HL HP a4
  have jk : (k : Int) ≤ 20 := by omega
  clear hlen hp hR hH hl hn
  go_enter Try.func25, Try.ntmps25
  go_wp2_with (first
    | (go_at_call 29; refine HL.out.mono ?_; rintro e w' ⟨rfl, rfl⟩)
    | (go_at_call 28; refine HP.out.mono ?_; rintro e w' ⟨rfl, hr⟩; have HE := Lib.hid hr; clear hr))
  go_end0
  exact HE.out
theorem sorts_to (zs : List Int) (hlen : zs.length ≤ 1000000) : SortsTo zs (sortD zs).toArray := by
  refine ⟨by simp [sortD_len], fun blk cap w hH hl => ?_⟩
  refine sort_any blk cap zs.length zs.toArray w (by simp) hlen hH hl fun d' w' h1 h2 h3 => ⟨rfl, ?_⟩
  have e : d' = (sortD zs).toArray := by rw [← sorted_is zs d' h1 h2]
  rwa [e] at h3
set_option maxHeartbeats 1000000 in
theorem reached_nil {R : Ending → World → Prop} (p : Option Addr) (c : Nat) (w : World) (hR : R (.returned (.int .u64 0)) w) : Calls Try.prog 17 #[.slice p 0 c] w R := by
  have HR := Lib.hid hR
  clear hR
  go_enter Try.func17, Try.ntmps17
  go_wp2
  exact HR.out
/-- What Reached answers: 0 of nothing; else what most reach. -/
def Answers (zs : List Int) (x : Int) : Prop := (zs = [] ∧ x = 0) ∨ (zs ≠ [] ∧ ReachOf zs x)
theorem reached_any {R : Ending → World → Prop} {w : World} {v : Value} {g : Option Nat} {zs : List Int} (h : NumsV w v g zs) (hlen : zs.length ≤ 1000000)
    (hR : ∀ x w', Answers zs x → Fr No w w' → R (.returned (.int .u64 x)) w') :
    Calls Try.prog 17 #[v] w R := by
  by_cases h0 : zs = []
  · obtain ⟨_, p, c, rfl, _⟩ := h.s
    rw [h0]
    exact reached_nil p c w (hR 0 w (.inl ⟨h0, rfl⟩) (Fr.refl _ _))
  · have hI := h.ints h0
    obtain ⟨b, o, c, rfl, _⟩ := h.out h0
    exact reached_with b o c zs (sortD zs).toArray h0 hlen w hI (sorts_to zs hlen) fun w' hF => hR _ w' (.inr ⟨h0, reach_sortD zs h0⟩) hF
end Go.Proofs.Ytcpaphcodhlggaa
