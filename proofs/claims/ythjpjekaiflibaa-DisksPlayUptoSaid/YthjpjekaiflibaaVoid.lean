/- A disk that is not there, or that no call made: each call, what it answers. -/
import Derived.Test.YthjpjekaiflibaaLift
namespace Go.Proofs.Ythjpjekaiflibaa
open Go.RowKit

def Void (w : World) (p : Option Addr) : Prop := p = none ∨ ∃ b, p = some ⟨b, 0, none⟩ ∧ w.cell? ⟨b, 0, none⟩ = some (.map none)
theorem Void.fr {w w' : World} {p : Option Addr} (h : Void w p) (hF : Fr No w w') : Void w' p := by
  rcases h with h | ⟨b, h1, h2⟩
  · exact .inl h
  · exact .inr ⟨b, h1, hF.cell h2 fun x => x⟩
theorem there_void {p : Option Addr} {w : World} (h : Void w p) :
    Calls Try.prog 21 #[.pointer p] w fun e w' => e = .returned (.bool false) ∧ w = w' := by
  rcases h with rfl | ⟨b, rfl, h⟩
  · exact there_nil w
  · exact there_zero b w h
theorem asked_void {p : Option Addr} {w : World} (h : Void w p) (s : ByteArray) :
    Calls Try.prog 25 #[.pointer p, .string s] w fun e w' => e = .returned (.int .i64 2) ∧ w = w' := asked_not p w h s
set_option maxRecDepth 100000 in
set_option maxHeartbeats 1000000 in
theorem does_void {p : Option Addr} {w : World} (h : Void w p) (s : ByteArray) (n : Int) (m : Bool) (f : Value) :
    Calls Try.prog 22 #[.pointer p, .string s, .int .i64 n, .bool m, f] w fun e w' => e = .returned (.int .i64 2) ∧ w = w' := by
  have H := Lib.hid h
  clear h
  go_enter Try.func22, Try.ntmps22
  go_wp2_with (go_at_call 25; refine (asked_void H.out s).mono ?_; rintro e w' ⟨rfl, rfl⟩)
  go_ret
  exact ⟨rfl, rfl⟩
set_option maxRecDepth 100000 in
set_option maxHeartbeats 1000000 in
theorem size_void {p : Option Addr} {w : World} (h : Void w p) (s : ByteArray) :
    Calls Try.prog 23 #[.pointer p, .string s] w fun e w' => e = .returned (.int .i64 0) ∧ w = w' := by
  have H := Lib.hid h
  clear h
  go_enter Try.func23, Try.ntmps23
  go_wp2_with (go_at_call 21; refine (there_void H.out).mono ?_; rintro e w' ⟨rfl, rfl⟩)
  go_ret
  exact ⟨rfl, rfl⟩
set_option maxRecDepth 100000 in
set_option maxHeartbeats 1000000 in
theorem sure_void {p : Option Addr} {w : World} (h : Void w p) (s : ByteArray) :
    Calls Try.prog 17 #[.pointer p, .string s] w fun e w' => e = .returned (.int .i64 2) ∧ w = w' := by
  have H := Lib.hid h
  clear h
  go_enter Try.func17, Try.ntmps17
  go_wp2_with (go_at_call 22; refine (does_void H.out _ _ _ _).mono ?_; rintro e w' ⟨rfl, rfl⟩)
  go_ret
  exact ⟨rfl, rfl⟩
set_option maxRecDepth 100000 in
set_option maxHeartbeats 1000000 in
theorem put_void {R : Ending → World → Prop} {p : Option Addr} {w : World} (h : Void w p) (s : ByteArray) (q : Option Addr) (n c : Nat) (hR : ∀ w', Fr No w w' → R (.returned (.int .i64 2)) w') :
    Calls Try.prog 18 #[.pointer p, .string s, .slice q n c] w R := by
  have H := Lib.hid (h.fr (Fr.alloc No w (.cells #[.slice q n c] 28)))
  have HR := Lib.hid (hR _ (Fr.alloc No w (.cells #[.slice q n c] 28)))
  clear h hR
  go_enter Try.func18, Try.ntmps18
  go_wp2_with (go_at_call 22; refine (does_void H.out _ _ _ _).mono ?_; rintro e w' ⟨rfl, rfl⟩)
  exact HR.out
set_option maxRecDepth 100000 in
set_option maxHeartbeats 4000000 in
theorem add_void {R : Ending → World → Prop} {p : Option Addr} {w : World} (h : Void w p) (s : ByteArray) (q : Option Addr) (n c : Nat) (hR : ∀ w', Fr No w w' → R (.returned (.int .i64 2)) w') :
    Calls Try.prog 9 #[.pointer p, .string s, .slice q n c] w R := by
  have hF : Fr No w (w.alloc (.cells #[.slice q n c] 28)).drew := (Fr.alloc _ _ _).trans (Fr.drew _ _)
  have H := Lib.hid (h.fr hF)
  have HR := Lib.hid (hR _ hF)
  clear h hR hF
  go_enter Try.func9, Try.ntmps9
  go_wp2_with fail
  go_region_with (first
    | (go_at_call 23; refine (size_void H.out _).mono ?_; rintro e w' ⟨rfl, rfl⟩)
    | (go_at_call 22; refine (does_void H.out _ _ _ _).mono ?_; rintro e w' ⟨rfl, rfl⟩))
  all_goals
    go_wp2
    go_ret
    exact HR.out
set_option maxRecDepth 100000 in
set_option maxHeartbeats 1000000 in
theorem read_void {p : Option Addr} {w : World} (h : Void w p) (s : ByteArray) :
    Calls Try.prog 11 #[.pointer p, .string s] w fun e w' => e = .returned (.tuple #[.slice none 0 0, .int .i64 2]) ∧ w = w' := by
  have H := Lib.hid h
  clear h
  go_enter Try.func11, Try.ntmps11
  go_wp2_with (go_at_call 25; refine (asked_void H.out s).mono ?_; rintro e w' ⟨rfl, rfl⟩)
  go_ret2
  exact ⟨rfl, rfl⟩
set_option maxRecDepth 100000 in
set_option maxHeartbeats 1000000 in
theorem fuse_void {p : Option Addr} {w : World} (h : Void w p) (n : Int) :
    Calls Try.prog 8 #[.pointer p, .int .i64 n] w fun e w' => e = .returned (.tuple #[]) ∧ w = w' := by
  have H := Lib.hid h
  clear h
  go_enter Try.func8, Try.ntmps8
  go_wp2_with (go_at_call 21; refine (there_void H.out).mono ?_; rintro e w' ⟨rfl, rfl⟩)
  go_end0
  exact ⟨rfl, rfl⟩
set_option maxRecDepth 100000 in
set_option maxHeartbeats 1000000 in
theorem dead_void {p : Option Addr} {w : World} (h : Void w p) :
    Calls Try.prog 10 #[.pointer p] w fun e w' => e = .returned (.bool false) ∧ w = w' := by
  have H := Lib.hid h
  clear h
  go_enter Try.func10, Try.ntmps10
  go_wp2_with (go_at_call 21; refine (there_void H.out).mono ?_; rintro e w' ⟨rfl, rfl⟩)
  go_ret
  exact ⟨rfl, rfl⟩
set_option maxRecDepth 100000 in
set_option maxHeartbeats 1000000 in
theorem names_void {p : Option Addr} {w : World} (h : Void w p) :
    Calls Try.prog 20 #[.pointer p] w fun e w' => e = .returned (.slice none 0 0) ∧ w = w' := by
  have H := Lib.hid h
  clear h
  go_enter Try.func20, Try.ntmps20
  go_wp2_with (go_at_call 21; refine (there_void H.out).mono ?_; rintro e w' ⟨rfl, rfl⟩)
  go_ret
  exact ⟨rfl, rfl⟩
set_option maxRecDepth 100000 in
set_option maxHeartbeats 1000000 in
theorem lift_void {p : Option Addr} {w : World} (h : Void w p) (v : Value) :
    Calls Try.prog 12 #[.pointer p, v] w fun e w' => e = .returned (.tuple #[]) ∧ w = w' := by
  have H := Lib.hid h
  clear h
  go_enter Try.func12, Try.ntmps12
  go_wp2_with (go_at_call 21; refine (there_void H.out).mono ?_; rintro e w' ⟨rfl, rfl⟩)
  refine bodyPost_ret (results_none rfl _ _ _) rfl ?_
  exact ⟨rfl, rfl⟩
end Go.Proofs.Ythjpjekaiflibaa
