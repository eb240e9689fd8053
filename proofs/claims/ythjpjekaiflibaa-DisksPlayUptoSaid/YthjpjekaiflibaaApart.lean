/- A book of two rows that share nothing: they stand apart. -/
import Derived.Test.YthjpjekaiflibaaBook3
namespace Go.Proofs.Ythjpjekaiflibaa
open Go.RowKit
theorem m_write (v : Value) (a b : Int) (w : World) : (method 223 77 (.agg #[v, .int .u8 a, .int .u8 b]) "countinghouse/countinghouselaw01.write").run Try.prog w = .ok (91, .agg #[v, .int .u8 a, .int .u8 b]) w := by kernel_rfl
theorem m_behind (v : Value) (a b : Int) (w : World) : (method 223 77 (.agg #[v, .int .u8 a, .int .u8 b]) "countinghouse/countinghouselaw01.writeBehind").run Try.prog w = .ok (92, .agg #[v, .int .u8 a, .int .u8 b]) w := by kernel_rfl
theorem m_stands (v : Value) (a b : Int) (w : World) : (method 223 77 (.agg #[v, .int .u8 a, .int .u8 b]) "countinghouse/countinghouselaw01.stands").run Try.prog w = .ok (90, .agg #[v, .int .u8 a, .int .u8 b]) w := by kernel_rfl
def Row (w : World) (v : Value) (g : Option Nat) (n : Nat) (m1 m2 : UInt8) (s : Nat) : Prop := ∃ all, AllAt w v g n all ∧ (1 ≤ s → ∀ j, j < n → all[j]? = some (encB m1)) ∧ (2 ≤ s → ∀ j, n ≤ j → j < all.length → all[j]? = some (encB m2))
theorem Row.fr {S : Nat → Prop} {w w' : World} {v : Value} {g : Option Nat} {n : Nat} {m1 m2 : UInt8} {s : Nat} (h : Row w v g n m1 m2 s) (hF : Fr S w w') (hs : ∀ k, g = some k → ¬ S k) : Row w' v g n m1 m2 s := by
  obtain ⟨all, h1, h2, h3⟩ := h
  exact ⟨all, h1.fr hF hs, h2, h3⟩
theorem By.row {w : World} {v : Value} {g : Option Nat} {bs : List UInt8} (h : By w v g bs) (m1 m2 : UInt8) : Row w v g bs.length m1 m2 0 := by
  obtain ⟨all, h1⟩ := h.all
  exact ⟨all, h1, fun h => absurd h (by omega), fun h => absurd h (by omega)⟩
theorem row_write {R : Ending → World → Prop} (v : Value) (g : Option Nat) (n : Nat) (m1 m2 : UInt8) (w : World) (h : Row w v g n m1 m2 0) (hR : ∀ w', Row w' v g n m1 m2 1 → Fr (Is g) w w' → R (.returned (.tuple #[])) w') :
    Calls Try.prog 91 #[.agg #[v, .int .u8 (m1.toNat : Int), .int .u8 (m2.toNat : Int)]] w R := by
  obtain ⟨all, h1, _⟩ := h
  exact write_any v g n all m1 m2 w h1 fun w' all' hI => hR w' ⟨all', hI.a, fun _ j hj => hI.m j (Nat.zero_le _) hj, fun h => absurd h (by omega)⟩ hI.f
theorem row_behind {R : Ending → World → Prop} (v : Value) (g : Option Nat) (n : Nat) (m1 m2 : UInt8) (w : World) (h : Row w v g n m1 m2 1) (hR : ∀ w', Row w' v g n m1 m2 2 → Fr (Is g) w w' → R (.returned (.tuple #[])) w') :
    Calls Try.prog 92 #[.agg #[v, .int .u8 (m1.toNat : Int), .int .u8 (m2.toNat : Int)]] w R := by
  obtain ⟨all, h1, h2, _⟩ := h
  exact behind_any v g n all m1 m2 w h1 fun w' all' hI => hR w' ⟨all', hI.a, fun _ j hj => by rw [hI.r j (.inl hj)]; exact h2 (by omega) j hj, fun _ j hj hl => hI.m j hj (by rw [← hI.l]; exact hl)⟩ hI.f
theorem row_stands {R : Ending → World → Prop} (v : Value) (g : Option Nat) (n : Nat) (m1 m2 : UInt8) (w : World) (h : Row w v g n m1 m2 2) (hR : ∀ w', Fr No w w' → R (.returned (.bool true)) w') :
    Calls Try.prog 90 #[.agg #[v, .int .u8 (m1.toNat : Int), .int .u8 (m2.toNat : Int)]] w R := by
  obtain ⟨all, h1, h2, h3⟩ := h
  exact stands_any v g n all m1 m2 w h1 (h2 (by omega)) (h3 (by omega)) hR
structure ApI (w0 : World) (bk : Nat) (gp : Option Nat) (v1 v2 : Value) (g1 g2 : Option Nat) (n1 n2 : Nat) (s1 s2 : Nat) (w : World) : Prop where
  b : BookAt w bk [pageV v1 1 129, pageV v2 2 130] gp
  r1 : Row w v1 g1 n1 1 129 s1
  r2 : Row w v2 g2 n2 2 130 s2
  f : Fr (fun k => g1 = some k ∨ g2 = some k) w0 w
theorem BookAt.two {w : World} {bk : Nat} {gp : Option Nat} {x y : Value} (h : BookAt w bk [x, y] gp) : ∃ b o c, w.cell? ⟨bk, 0, none⟩ = some (.slice (some ⟨b, o, none⟩) 2 c) ∧ w.cell? ⟨b, o, none⟩ = some x ∧ w.cell? ⟨b, o + 1, none⟩ = some y := by
  obtain ⟨vp, hb, hs, _⟩ := h
  rcases hs.out with ⟨_, _, e, _⟩ | ⟨b, o, cap, rfl, _, _, _, _, hc, _⟩
  · simp at e
  · exact ⟨b, o, cap, cell_at hb 0 rfl, hc 0 _ rfl, hc 1 _ rfl⟩
section
variable {w0 : World} {bk : Nat} {gp : Option Nat} {v1 v2 : Value} {g1 g2 : Option Nat} {n1 n2 s1 s2 s' : Nat} {w w' : World} (h : ApI w0 bk gp v1 v2 g1 g2 n1 n2 s1 s2 w) (d12 : ∀ k, g1 = some k → g2 ≠ some k) (d1 : ∀ k, g1 = some k → k ≠ bk ∧ gp ≠ some k) (d2 : ∀ k, g2 = some k → k ≠ bk ∧ gp ≠ some k)
include h d12
include d1 in
theorem ApI.one (hr : Row w' v1 g1 n1 1 129 s') (hF : Fr (Is g1) w w') : ApI w0 bk gp v1 v2 g1 g2 n1 n2 s' s2 w' :=
  ⟨h.b.fr hF (fun e => (d1 bk e).1 rfl) fun k hk e => (d1 k e).2 hk, hr, h.r2.fr hF fun k hk e => d12 k e hk, h.f.trans (hF.mono fun _ _ hi => .inl hi)⟩
include d2 in
theorem ApI.two (hr : Row w' v2 g2 n2 2 130 s') (hF : Fr (Is g2) w w') : ApI w0 bk gp v1 v2 g1 g2 n1 n2 s1 s' w' :=
  ⟨h.b.fr hF (fun e => (d2 bk e).1 rfl) fun k hk e => (d2 k e).2 hk, h.r1.fr hF fun k hk e => d12 k hk e, hr, h.f.trans (hF.mono fun _ _ hi => .inr hi)⟩
end
theorem ApI.no {w0 w w' : World} {bk : Nat} {gp : Option Nat} {v1 v2 : Value} {g1 g2 : Option Nat} {n1 n2 s1 s2 : Nat} (h : ApI w0 bk gp v1 v2 g1 g2 n1 n2 s1 s2 w) (hF : Fr No w w') : ApI w0 bk gp v1 v2 g1 g2 n1 n2 s1 s2 w' :=
  ⟨h.b.fr hF (fun x => x) fun _ _ x => x, h.r1.fr hF fun _ _ x => x, h.r2.fr hF fun _ _ x => x, h.f.trans hF.of_no⟩
def ApRel (w0 : World) (bk : Nat) (gp : Option Nat) (v1 v2 : Value) (g1 g2 : Option Nat) (n1 n2 : Nat) (s : Nat) (i : Value) (w : World) : Prop :=
  ∃ k : Nat, i = .int .i64 k ∧ k ≤ 2 ∧ ApI w0 bk gp v1 v2 g1 g2 n1 n2 (if 1 ≤ k then s + 1 else s) (if 2 ≤ k then s + 1 else s) w
set_option maxRecDepth 100000 in
set_option maxHeartbeats 8000000 in
theorem apart_any {R : Ending → World → Prop} (bk : Nat) (gp : Option Nat) (v1 v2 : Value) (g1 g2 : Option Nat) (n1 n2 : Nat) (w : World) (h : BookAt w bk [pageV v1 1 129, pageV v2 2 130] gp) (h1 : Row w v1 g1 n1 1 129 0) (h2 : Row w v2 g2 n2 2 130 0)
    (d12 : ∀ k, g1 = some k → g2 ≠ some k) (d1 : ∀ k, g1 = some k → k ≠ bk ∧ gp ≠ some k) (d2 : ∀ k, g2 = some k → k ≠ bk ∧ gp ≠ some k)
    (hR : ∀ w', Fr (fun k => g1 = some k ∨ g2 = some k) w w' → R (.returned (.bool true)) w') :
    Calls Try.prog 38 #[.pointer (some ⟨bk, 0, none⟩)] w R := by
  have HR := Lib.hid hR
  have HI := Lib.hid (ApI.mk h h1 h2 (Fr.refl _ w))
  have D12 := Lib.hid d12
  have D1 := Lib.hid d1
  have D2 := Lib.hid d2
  obtain ⟨b9, o9, c9, c0, _, _⟩ := h.two
  clear hR h h1 h2 d12 d1 d2
  have mw := m_write
  have mb := m_behind
  have ms := m_stands
  go_enter Try.func38, Try.ntmps38
  go_wp2_with fail
  go_loopw [3] (fun i wr => ApRel w bk gp v1 v2 g1 g2 n1 n2 0 i wr) (fun i _ => 2 - (intOf i).toNat)
  case atStart => exact ⟨0, rfl, by omega, HI.out⟩
  case round =>
    obtain ⟨k, rfl, hk, hI⟩ := hrel
    obtain ⟨b, o, c, e0, x0, x1⟩ := hI.b.two
    unfold pageV at x0 x1
    have HI0 := Lib.hid hI
    clear hI
    match k, hk with
    | 0, _ =>
      go_wp2_with (go_at_call 91; refine row_write v1 g1 n1 1 129 _ HI0.out.r1 ?_; intro w2 h1 h2; have K := Lib.hid (HI0.out.one D12.out D1.out h1 h2); clear h1 h2)
      exact ⟨⟨1, rfl, by omega, K.out⟩, by simp [intOf]⟩
    | 1, _ =>
      go_wp2_with (go_at_call 91; refine row_write v2 g2 n2 2 130 _ HI0.out.r2 ?_; intro w2 h1 h2; have K := Lib.hid (HI0.out.two D12.out D2.out h1 h2); clear h1 h2)
      exact ⟨⟨2, rfl, by omega, K.out⟩, by simp [intOf]⟩
    | 2, _ =>
      rw [show ((2 : Nat) : Int) = (2 : Int) from rfl]
      go_wp2_with fail
      go_loopw [4] (fun i wr => ApRel w bk gp v1 v2 g1 g2 n1 n2 1 i wr) (fun i _ => 2 - (intOf i).toNat)
      case atStart => exact ⟨0, rfl, by omega, HI0.out⟩
      case round =>
        obtain ⟨k, rfl, hk, hI⟩ := hrel
        obtain ⟨b, o, c, e0, x0, x1⟩ := hI.b.two
        unfold pageV at x0 x1
        have HI1 := Lib.hid hI
        clear hI
        match k, hk with
        | 0, _ =>
          go_wp2_with (go_at_call 92; refine row_behind v1 g1 n1 1 129 _ HI1.out.r1 ?_; intro w2 h1 h2; have K := Lib.hid (HI1.out.one D12.out D1.out h1 h2); clear h1 h2)
          exact ⟨⟨1, rfl, by omega, K.out⟩, by simp [intOf]⟩
        | 1, _ =>
          go_wp2_with (go_at_call 92; refine row_behind v2 g2 n2 2 130 _ HI1.out.r2 ?_; intro w2 h1 h2; have K := Lib.hid (HI1.out.two D12.out D2.out h1 h2); clear h1 h2)
          exact ⟨⟨2, rfl, by omega, K.out⟩, by simp [intOf]⟩
        | 2, _ =>
          rw [show ((2 : Nat) : Int) = (2 : Int) from rfl]
          go_wp2_with fail
          go_loopw [5] (fun i wr => ∃ k : Nat, i = .int .i64 k ∧ k ≤ 2 ∧ ApI w bk gp v1 v2 g1 g2 n1 n2 2 2 wr) (fun i _ => 2 - (intOf i).toNat)
          case atStart => exact ⟨0, rfl, by omega, HI1.out⟩
          case round =>
            obtain ⟨k, rfl, hk, hI⟩ := hrel
            obtain ⟨b, o, c, e0, x0, x1⟩ := hI.b.two
            unfold pageV at x0 x1
            have HI2 := Lib.hid hI
            clear hI
            match k, hk with
            | 0, _ =>
              go_wp2_with (go_at_call 90; refine row_stands v1 g1 n1 1 129 _ HI2.out.r1 ?_; intro w2 h1; have K := Lib.hid (HI2.out.no h1); clear h1)
              exact ⟨⟨1, rfl, by omega, K.out⟩, by simp [intOf]⟩
            | 1, _ =>
              go_wp2_with (go_at_call 90; refine row_stands v2 g2 n2 2 130 _ HI2.out.r2 ?_; intro w2 h1; have K := Lib.hid (HI2.out.no h1); clear h1)
              exact ⟨⟨2, rfl, by omega, K.out⟩, by simp [intOf]⟩
            | 2, _ =>
              go_wp2_with fail
              exact HR.out _ HI2.out.f
end Go.Proofs.Ythjpjekaiflibaa
