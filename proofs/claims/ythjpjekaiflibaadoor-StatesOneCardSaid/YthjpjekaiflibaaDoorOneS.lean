/- What stands in memory between two asks; what a step of the disk, or of the promise, leaves of it. -/
import Derived.Test.YthjpjekaiflibaaDoorVoted
namespace Go.Proofs.YthjpjekaiflibaaDoor
open Go.RowKit
structure AskD where
  term : Nat
  vote : Nat
  fuse : Nat
  loss : Int
structure OneB (w0 w : World) (bp bd : Nat) (M : DM) (O : List Nat) (mb n : Nat) (f : Nat → Nat) : Prop where
  d : DiskAt w bd M O
  tab : Tab w
  fw : Fr No w0 w
  o : ∀ k ∈ O, w0.heap.size ≤ k
  z : 0 < w0.heap.size
  bn : bp ∉ O
  bg : w0.heap.size ≤ bp
  bl : bp < w.heap.size
  m : VotedAt w mb n f
  mo : mb ∉ O
  mp : mb ≠ bp
  mg : w0.heap.size ≤ mb
theorem OneB.mv {w0 w w' : World} {bp bd : Nat} {M M' : DM} {O O' : List Nat} {mb n : Nat} {f : Nat → Nat} (h : OneB w0 w bp bd M O mb n f) (hd : DiskAt w' bd M' O') (hF : Fr (fun k => k = bp ∨ k ∈ O) w w') (hO : ∀ k ∈ O', k ∈ O ∨ w.heap.size ≤ k) : OneB w0 w' bp bd M' O' mb n f := by
  have hml := h.m.lt
  have hs := hF.size
  have hs0 := h.fw.size
  refine ⟨hd, h.tab.fr hF ?_, h.fw.step hF fun k hk hp => ?_, fun k hk => ?_, h.z, fun hk => ?_, h.bg, by have := h.bl; omega, h.m.fr hF ?_, fun hk => ?_, h.mp, h.mg⟩
  · rintro (e | e)
    · have := h.bg; have := h.z; omega
    · have := h.o 0 e; have := h.z; omega
  · rcases hp with e | e
    · have := h.bg; omega
    · have := h.o k e; omega
  · rcases hO k hk with e | e
    · exact h.o k e
    · omega
  · rcases hO bp hk with e | e
    · exact h.bn e
    · have := h.bl; omega
  · rintro (e | e)
    · exact h.mp e
    · exact h.mo e
  · rcases hO mb hk with e | e
    · exact h.mo e
    · omega
theorem OneB.disk {w0 w w' : World} {bp bd : Nat} {M M' : DM} {O O' : List Nat} {mb n : Nat} {f : Nat → Nat} (h : OneB w0 w bp bd M O mb n f) (hd : DiskAt w' bd M' O') (hM : Mv w w' O O') : OneB w0 w' bp bd M' O' mb n f :=
  h.mv hd (hM.1.mono fun _ _ x => .inr x) hM.2
theorem OneB.no {w0 w w' : World} {bp bd : Nat} {M : DM} {O : List Nat} {mb n : Nat} {f : Nat → Nat} (h : OneB w0 w bp bd M O mb n f) (hF : Fr No w w') : OneB w0 w' bp bd M O mb n f :=
  h.disk (h.d.fr hF fun _ _ x => x) (Mv.of_no hF)
/-- Another promise, made since. -/
theorem OneB.other {w0 w w' : World} {bp bp' bd : Nat} {M : DM} {O : List Nat} {mb n : Nat} {f : Nat → Nat} (h : OneB w0 w bp bd M O mb n f) (hF : Fr No w w') (hl : w.heap.size ≤ bp') (hl2 : bp' < w'.heap.size) : OneB w0 w' bp' bd M O mb n f := by
  have k := h.no hF
  have hml := h.m.lt
  have := h.fw.size
  exact ⟨k.d, k.tab, k.fw, k.o, k.z, fun hk => by have := h.d.lt _ hk; omega, by omega, hl2, k.m, k.mo, by omega, k.mg⟩
/-- The map is written. -/
theorem OneB.put {w0 w w' : World} {bp bd : Nat} {M : DM} {O : List Nat} {mb n n' : Nat} {f f' : Nat → Nat} (h : OneB w0 w bp bd M O mb n f) (hm : VotedAt w' mb n' f') (hF : Fr (Is (some mb)) w w') : OneB w0 w' bp bd M O mb n' f' := by
  have hs := hF.size
  have hO : ∀ k, k ∈ O → ¬ Is (some mb) k := fun k hk e => h.mo (by rw [Option.some.inj e]; exact hk)
  refine ⟨h.d.fr hF hO, h.tab.fr hF fun e => ?_, h.fw.step hF fun k hk e => ?_, h.o, h.z, h.bn, h.bg, by have := h.bl; omega, hm, h.mo, h.mp, h.mg⟩
  · have : mb = 0 := Option.some.inj e
    have := h.mg; have := h.z; omega
  · have : mb = k := Option.some.inj e
    have := h.mg; omega
/-- An ask in its box. -/
structure BoxAt (w : World) (bp : Nat) (O : List Nat) (bx : Nat) (A : AskD) : Prop where
  x : w.heap[bx]? = some (.cells #[.int .u8 A.term, .int .u8 A.vote, .int .u8 A.fuse, .int .i64 A.loss] 89 (0, 0))
  o : bx ∉ O
  p : bx ≠ bp
theorem BoxAt.mv {w w' : World} {bp : Nat} {O O' : List Nat} {bx : Nat} {A : AskD} (h : BoxAt w bp O bx A) (hF : Fr (fun k => k = bp ∨ k ∈ O) w w') (hO : ∀ k ∈ O', k ∈ O ∨ w.heap.size ≤ k) : BoxAt w' bp O' bx A := by
  have hl := block_lt h.x
  refine ⟨hF.at h.x ?_, fun hk => ?_, h.p⟩
  · rintro (e | e)
    · exact h.p e
    · exact h.o e
  · rcases hO bx hk with e | e
    · exact h.o e
    · omega
theorem BoxAt.disk {w w' : World} {bp : Nat} {O O' : List Nat} {bx : Nat} {A : AskD} (h : BoxAt w bp O bx A) (hM : Mv w w' O O') : BoxAt w' bp O' bx A := h.mv (hM.1.mono fun _ _ x => .inr x) hM.2
/-- Open finds what was promised. -/
theorem open_file {R : Ending → World → Prop} {w : World} {bd t v : Nat} {M : DM} {O : List Nat} (h : DiskAt w bd M O) (ht : Tab w) (hf : FileIs M t v) (hd : M.dead = false) (htt : t < 18446744073709551616) (hv : v < 256)
    (hR : ∀ bp w', PromiseAt w' bp t v bd false → Fr No w w' → w.heap.size ≤ bp → R (.returned (.tuple #[.pointer (some ⟨bp, 0, none⟩), .int .i64 0])) w') :
    Calls Tryd.prog 10 #[.pointer (some ⟨bd, 0, none⟩)] w R := by
  rcases read_file hf hd with ⟨hr, rfl, rfl⟩ | hr
  · exact open_new h hr fun bp w' h1 _ _ h2 h3 => hR bp w' h1 h2 h3
  · exact open_read h ht hr (readD_vow t v htt hv) fun bp w' h1 _ _ h2 h3 => hR bp w' h1 h2 h3
end Go.Proofs.YthjpjekaiflibaaDoor
