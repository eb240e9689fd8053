/- Read, Fuse, Dead. -/
import Derived.Test.YthjpjekaiflibaaDisk6
namespace Go.Proofs.Ythjpjekaiflibaa
open Go.RowKit
section
variable {bd mb : Nat} {fuse : Int} {dead : Bool} {rs : List Rep} {w : World} (h : DiskRep w bd mb fuse dead rs)
include h
set_option maxRecDepth 100000 in
set_option maxHeartbeats 1000000 in
theorem read_any {R : Ending → World → Prop} (s : ByteArray)
    (hR : ∀ v g bs c w', (DM.mk (files rs) fuse dead).read s = (bs, c) → By w' v g bs → Fr No w w' → New w g → (c ≠ 0 → v = .slice none 0 0) → R (.returned (.tuple #[v, .int .i64 c])) w') :
    Calls Try.prog 11 #[.pointer (some ⟨bd, 0, none⟩), .string s] w R := by
  have c0 := h.c0
  have c2 := h.c2
  have hl := h.map.look uMap uStr (zPf w) s
  rw [look_rep] at hl
  have hfind := find_files rs s fuse dead
  have HR := Lib.hid hR
  clear hR
  by_cases ha : askedE dead s = 0
  · have hc := Lib.hid ha
    cases hr : repOf rs s with
    | none =>
      rw [hr] at hl hfind
      simp only [Option.map_none] at hfind
      have HM := Lib.hid (show (DM.mk (files rs) fuse dead).read s = ([], 7) by simp [DM.read, ha, hfind])
      clear hr h ha hfind
      go_enter Try.func11, Try.ntmps11
      go_wp2_with (go_at_call 25; refine (asked_any _ _ _ _ _ c0 c2).mono ?_; rintro e w' ⟨rfl, rfl⟩; rw [hc.out])
      exact HR.out _ none _ _ _ HM.out (By.nil _) (Fr.refl _ _) (fun k e => by cases e) (fun _ => rfl)
    | some r =>
      rw [hr] at hl hfind
      simp only [ptr] at hl
      simp only [Option.map_some] at hfind
      have hf := h.files r (repOf_mem hr).1
      have HM := Lib.hid (show (DM.mk (files rs) fuse dead).read s = (r.f.bytes, 0) by simp [DM.read, ha, hfind])
      have c3 := hf.c0
      obtain ⟨p, c, hv, _⟩ := Sl.form hf.by_
      have HB := Lib.hid hf.by_
      have HL := Lib.hid hf.most
      rw [hv] at c3 HB
      clear hr h hf hv ha hfind
      go_enter Try.func11, Try.ntmps11
      go_wp2_with (first
        | (go_at_call 25; refine (asked_any _ _ _ _ _ c0 c2).mono ?_; rintro e w' ⟨rfl, rfl⟩; rw [hc.out])
        | (go_at_call 27; refine clone_any _ _ _ _ HB.out.src (by have := HL.out; omega) ?_; intro v1 g1 w1 b1 f1 n1 _; have b1' := Lib.hid b1; have f1' := Lib.hid f1; have n1' := Lib.hid n1; clear b1 f1 n1)
        | (go_at_call 26; refine clip_any _ _ _ _ b1'.out ?_; intro v2 b2 _; have b2' := Lib.hid b2; clear b2))
      exact HR.out _ _ _ _ _ HM.out b2'.out f1'.out n1'.out (fun e => absurd rfl e)
  · have HM := Lib.hid (show (DM.mk (files rs) fuse dead).read s = ([], askedE dead s) by simp [DM.read, ha])
    generalize hc0 : askedE dead s = c at *
    have hc := Lib.hid hc0
    have ha' : (c != 0) = true := by simpa using ha
    clear h hfind hl ha hc0
    go_enter Try.func11, Try.ntmps11
    go_wp2_with (go_at_call 25; refine (asked_any _ _ _ _ _ c0 c2).mono ?_; rintro e w' ⟨rfl, rfl⟩; rw [hc.out])
    exact HR.out _ none _ _ _ HM.out (By.nil _) (Fr.refl _ _) (fun k e => by cases e) (fun _ => rfl)
set_option maxRecDepth 100000 in
set_option maxHeartbeats 1000000 in
theorem fuse_any {R : Ending → World → Prop} (n : Int) (hn : n ≤ 9223372036854775807)
    (hR : ∀ w', DiskRep w' bd mb (max 0 n) dead rs → Fr (Is (some bd)) w w' → w'.heap.size = w.heap.size → R (.returned (.tuple #[])) w') :
    Calls Try.prog 8 #[.pointer (some ⟨bd, 0, none⟩), .int .i64 n] w R := by
  have c0 := h.c0
  have c1 := h.c1
  have f1 := h.fz 1
  have hd := h.setFuse (max 0 n) (by omega) (by omega)
  have HR := Lib.hid (hR _ hd (Fr.set _ _ _ _) (by simp [World.setCell]))
  clear hR h hd
  by_cases h0 : 0 < n
  · rw [show max 0 n = n by omega] at HR
    go_enter Try.func8, Try.ntmps8
    go_wp2_with (go_at_call 21; refine (there_at _ _ _ c0).mono ?_; rintro e w' ⟨rfl, rfl⟩)
    go_end0
    exact HR.out
  · rw [show max 0 n = 0 by omega] at HR
    go_enter Try.func8, Try.ntmps8
    go_wp2_with (go_at_call 21; refine (there_at _ _ _ c0).mono ?_; rintro e w' ⟨rfl, rfl⟩)
    go_end0
    exact HR.out
set_option maxRecDepth 100000 in
set_option maxHeartbeats 1000000 in
theorem dead_any : Calls Try.prog 10 #[.pointer (some ⟨bd, 0, none⟩)] w fun e w' => e = .returned (.bool dead) ∧ w = w' := by
  have c0 := h.c0
  have c2 := h.c2
  clear h
  go_enter Try.func10, Try.ntmps10
  go_wp2_with (go_at_call 21; refine (there_at _ _ _ c0).mono ?_; rintro e w' ⟨rfl, rfl⟩)
  go_ret
  exact ⟨rfl, rfl⟩
end
end Go.Proofs.Ythjpjekaiflibaa
