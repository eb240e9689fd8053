/- Both disks, side by side. -/
import Derived.Test.YthjpjekaiflibaaSame17
import Derived.Test.YthjpjekaiflibaaArgs
namespace Go.Proofs.Ythjpjekaiflibaa
open Go.RowKit
structure PD (w0 w : World) (bd br : Nat) (M : DM) (R : RM) (O P : List Nat) : Prop where
  d : DiskAt w bd M O
  r : RefAt w br R P
  dis : ∀ k ∈ O, k ∉ P
  f : Fr No w0 w
  o : ∀ k ∈ O, w0.heap.size ≤ k
  p : ∀ k ∈ P, w0.heap.size ≤ k
theorem PD.disk {w0 w w' : World} {bd br : Nat} {M M' : DM} {R : RM} {O O' P : List Nat} (h : PD w0 w bd br M R O P) (hd : DiskAt w' bd M' O') (hM : Mv w w' O O') : PD w0 w' bd br M' R O' P := by
  have := h.f.size
  refine ⟨hd, h.r.fr hM.1 fun k hk ho => h.dis k ho hk, fun k hk hp => ?_, h.f.step hM.1 fun k hk ho => ?_, fun k hk => ?_, h.p⟩
  · rcases hM.2 k hk with e | e
    · exact h.dis k e hp
    · have := h.r.lt k hp; omega
  · have := h.o k ho; omega
  · rcases hM.2 k hk with e | e
    · exact h.o k e
    · omega
theorem PD.ref {w0 w w' : World} {bd br : Nat} {M : DM} {R R' : RM} {O P P' : List Nat} (h : PD w0 w bd br M R O P) (hr : RefAt w' br R' P') (hM : Mv w w' P P') : PD w0 w' bd br M R' O P' := by
  have := h.f.size
  refine ⟨h.d.fr hM.1 fun k hk ho => h.dis k hk ho, hr, fun k hk hp => ?_, h.f.step hM.1 fun k hk ho => ?_, h.o, fun k hk => ?_⟩
  · rcases hM.2 k hp with e | e
    · exact h.dis k hk e
    · have := h.d.lt k hk; omega
  · have := h.p k ho; omega
  · rcases hM.2 k hk with e | e
    · exact h.p k e
    · omega
theorem PD.no {w0 w w' : World} {bd br : Nat} {M : DM} {R : RM} {O P : List Nat} (h : PD w0 w bd br M R O P) (hF : Fr No w w') : PD w0 w' bd br M R O P :=
  ⟨h.d.fr hF fun _ _ x => x, h.r.fr hF fun _ _ x => x, h.dis, h.f.trans hF, h.o, h.p⟩
/-- What a doing has beside them: its box, its copy of the bytes. -/
structure BoxD (w : World) (bx : Nat) (A : ActD) (v2 v4 : Value) (t : Value) (gt : Option Nat) (O P : List Nat) : Prop where
  x : w.heap[bx]? = some (.cells #[.int .u8 A.kind, .string A.name, v2, .int .i64 A.n, v4] 43 (0, 0))
  xo : bx ∉ O
  xp : bx ∉ P
  t : TwAt w t gt A.b
  tn : ∀ k, gt = some k → k ∉ O
  tp : ∀ k, gt = some k → k ∉ P
theorem BoxD.disk {w w' : World} {bx : Nat} {A : ActD} {v2 v4 t : Value} {gt : Option Nat} {O O' P : List Nat} (h : BoxD w bx A v2 v4 t gt O P) (hM : Mv w w' O O') : BoxD w' bx A v2 v4 t gt O' P := by
  have hl := block_lt h.x
  refine ⟨hM.1.at h.x h.xo, fun hk => ?_, h.xp, h.t.fr hM.1 h.tn, fun k hk ho => ?_, h.tp⟩
  · rcases hM.2 bx hk with e | e
    · exact h.xo e
    · omega
  · rcases hM.2 k ho with e | e
    · exact h.tn k hk e
    · have := h.t.lt k hk; omega
theorem BoxD.ref {w w' : World} {bx : Nat} {A : ActD} {v2 v4 t : Value} {gt : Option Nat} {O P P' : List Nat} (h : BoxD w bx A v2 v4 t gt O P) (hM : Mv w w' P P') : BoxD w' bx A v2 v4 t gt O P' := by
  have hl := block_lt h.x
  refine ⟨hM.1.at h.x h.xp, h.xo, fun hk => ?_, h.t.fr hM.1 h.tp, h.tn, fun k hk ho => ?_⟩
  · rcases hM.2 bx hk with e | e
    · exact h.xp e
    · omega
  · rcases hM.2 k ho with e | e
    · exact h.tp k hk e
    · have := h.t.lt k hk; omega
theorem BoxD.no {w w' : World} {bx : Nat} {A : ActD} {v2 v4 t : Value} {gt : Option Nat} {O P : List Nat} (h : BoxD w bx A v2 v4 t gt O P) (hF : Fr No w w') : BoxD w' bx A v2 v4 t gt O P :=
  ⟨hF.at h.x fun x => x, h.xo, h.xp, h.t.fr hF fun _ _ x => x, h.tn, h.tp⟩
/-- What came in stays. -/
theorem PD.came {w0 w : World} {bd br : Nat} {M : DM} {R : RM} {O P : List Nat} (h : PD w0 w bd br M R O P) {v : Value} {g : Option Nat} {bs : List UInt8} (hb : Bs w0 v g bs) (hg : ∀ k, g = some k → k < w0.heap.size) : Bs w v g bs ∧ (∀ k, g = some k → k ∉ O) ∧ ∀ k, g = some k → k ∉ P :=
  ⟨hb.fr h.f fun _ _ x => x, fun k hk ho => by have := hg k hk; have := h.o k ho; omega, fun k hk ho => by have := hg k hk; have := h.p k ho; omega⟩
theorem PD.came64 {w0 w : World} {bd br : Nat} {M : DM} {R : RM} {O P : List Nat} (h : PD w0 w bd br M R O P) {v : Value} {g : Option Nat} {zs : List Int} (hb : Is64 w0 v g zs) (hg : ∀ k, g = some k → k < w0.heap.size) : Is64 w v g zs ∧ (∀ k, g = some k → k ∉ O) ∧ ∀ k, g = some k → k ∉ P :=
  ⟨hb.fr h.f fun _ _ x => x, fun k hk ho => by have := hg k hk; have := h.o k ho; omega, fun k hk ho => by have := hg k hk; have := h.p k ho; omega⟩
end Go.Proofs.Ythjpjekaiflibaa
