/- The document's disk: a file is set. -/
import Derived.Test.YthjpjekaiflibaaRef2
namespace Go.Proofs.Ythjpjekaiflibaa
open Go.RowKit
/-- What set's memory is. -/
structure SetTo (w w' : World) (br : Nat) (gl : Option Nat) (fs : List RRep) (vl' : Value) (gl' : Option Nat) (fs' : List RRep) (burns : Bool) (fuse : Int) (dead : Bool) : Prop where
  rep : RefRep w' br vl' gl' fs' burns fuse dead
  f : Fr (· ∈ rown br gl fs) w w'
  n : ∀ k ∈ rown br gl' fs', k ∈ rown br gl fs ∨ w.heap.size ≤ k
def rfuse (burns : Bool) (fuse : Int) : Int := if burns = true ∧ fuse ≠ 0 then fuse - 1 else fuse
set_option maxRecDepth 100000 in
set_option maxHeartbeats 8000000 in
theorem rset_limit {R : Ending → World → Prop} {w : World} {br : Nat} {vl : Value} {gl : Option Nat} {fs : List RRep} {burns : Bool} {fuse : Int} {dead : Bool} (h : RefRep w br vl gl fs burns fuse dead) (s : ByteArray) (v : Value) (gv : Option Nat) (bs : List UInt8) (hb : Bs w v gv bs) (sure : Int)
    (hlim : 1048576 < bs.length ∨ ((∀ r ∈ fs, r.f.name ≠ s) ∧ 16 ≤ fs.length)) (hR : R (.returned (.int .i64 3)) w) :
    Calls Try.prog 49 #[.pointer (some ⟨br, 0, none⟩), .string s, v, .int .i64 sure] w R := by
  have HR := Lib.hid hR
  have H := Lib.hid h
  obtain ⟨p, c, rfl, _⟩ := Src.form hb
  obtain ⟨pl, cl, rfl, _⟩ := Sl.form h.l
  have c0 := cell_at h.box 0 rfl
  clear hR h hb
  by_cases hbig : 1048576 < bs.length
  · have jb : (1048576 : Int) < (bs.length : Int) := by omega
    clear hlim
    go_enter Try.func49, Try.ntmps49
    go_wp2_with (go_at_call 48; refine rat_any H.out s ?_; intro i _)
    exact HR.out
  · have jb : (bs.length : Int) ≤ 1048576 := by omega
    obtain ⟨hno, h16⟩ := hlim.resolve_left hbig
    have HNO := Lib.hid hno
    have j16 : (16 : Int) ≤ (fs.length : Int) := by omega
    clear hlim hno
    go_enter Try.func49, Try.ntmps49
    go_wp2_with (go_at_call 48; refine rat_any H.out s ?_; intro i hi; obtain rfl : i = -1 := by (rcases hi with ⟨e, _⟩ | ⟨k, hk, _, e⟩; exact e; exact absurd e (HNO.out _ (List.getElem_mem hk))))
    exact HR.out
set_option maxRecDepth 100000 in
set_option maxHeartbeats 8000000 in
theorem rset_out {R : Ending → World → Prop} {w : World} {br : Nat} {vl : Value} {gl : Option Nat} {fs : List RRep} {burns : Bool} {fuse : Int} {dead : Bool} (h : RefRep w br vl gl fs burns fuse dead) (s : ByteArray) (v : Value) (gv : Option Nat) (bs : List UInt8) (hb : Bs w v gv bs) (sure : Int)
    (hfit : bs.length ≤ 1048576) (hroom : (∃ r ∈ fs, r.f.name = s) ∨ fs.length < 16) (hbu : burnOk burns fuse = false) (hR : ∀ w', RefRep w' br vl gl fs burns fuse true → Fr (Is (some br)) w w' → R (.returned (.int .i64 17)) w') :
    Calls Try.prog 49 #[.pointer (some ⟨br, 0, none⟩), .string s, v, .int .i64 sure] w R := by
  have HR := Lib.hid hR
  have H := Lib.hid h
  obtain ⟨p, c, rfl, _⟩ := Src.form hb
  obtain ⟨pl, cl, rfl, _⟩ := Sl.form h.l
  have c0 := cell_at h.box 0 rfl
  obtain ⟨rfl, rfl⟩ : burns = true ∧ fuse = 0 := by simpa [burnOk] using hbu
  have HBU := Lib.hid hbu
  have jb : (bs.length : Int) ≤ 1048576 := by omega
  have hex : ∀ i, AtIs fs s i → (0 ≤ i ∧ i < 16) ∨ (i = -1 ∧ fs.length < 16) := fun i hi => by
    rcases hi with ⟨rfl, hno⟩ | ⟨k, hk, rfl, _⟩
    · refine .inr ⟨rfl, ?_⟩
      rcases hroom with ⟨r, hr, e⟩ | h
      · exact absurd e (hno r hr)
      · exact h
    · have := h.few
      exact .inl ⟨by omega, by omega⟩
  have HEX := Lib.hid hex
  clear hR h hb hbu hroom hex
  go_enter Try.func49, Try.ntmps49
  go_upto_region 2 with (go_at_call 48; refine rat_any H.out s ?_; intro i hi; have hi2 := HEX.out i hi; clear hi)
  rcases hi2 with ⟨i1, i2⟩ | ⟨rfl, i2⟩
  · go_wp2_with (go_at_call 50; refine rburn_any H.out ?_; rw [HBU.out]; intro w1 h1 h2; have H1 := Lib.hid h1; have H2 := Lib.hid h2; clear h1 h2)
    exact HR.out _ (by simpa using H1.out) H2.out
  · have j16 : (fs.length : Int) < 16 := by omega
    go_wp2_with (go_at_call 50; refine rburn_any H.out ?_; rw [HBU.out]; intro w1 h1 h2; have H1 := Lib.hid h1; have H2 := Lib.hid h2; clear h1 h2)
    exact HR.out _ (by simpa using H1.out) H2.out
end Go.Proofs.Ythjpjekaiflibaa
