/- What 'does' does, whatever the doing. -/
import Derived.Test.YthjpjekaiflibaaDisk2
namespace Go.Proofs.Ythjpjekaiflibaa
open Go.RowKit

def Answers (R : Int → World → Prop) (e : Ending) (w' : World) : Prop := ∃ c, e = .returned (.int .i64 c) ∧ R c w'
section
variable (bd mb : Nat) (fuse : Int) (dead : Bool) (rs : List Rep) (s : ByteArray) (size : Int) (made : Bool) (g : Nat) (cap : Array Value) (w : World) (h : DiskRep w bd mb fuse dead rs) (R : Int → World → Prop)
include h
set_option maxRecDepth 100000 in
set_option maxHeartbeats 400000 in
theorem does_asked (ha : askedE dead s ≠ 0) (hR : R (askedE dead s) w) :
    Calls Try.prog 22 #[.pointer (some ⟨bd, 0, none⟩), .string s, .int .i64 size, .bool made, .func (.func g) #[] cap] w (Answers R) := by
  have c0 := h.c0
  have c2 := h.c2
  generalize hc : askedE dead s = c at *
  have hc' := Lib.hid hc
  have ha' : (c != 0) = true := by simpa using ha
  clear hc h ha
  go_enter Try.func22, Try.ntmps22
  go_wp2_with (go_at_call 25; refine (asked_any _ _ _ _ _ c0 c2).mono ?_; rintro e w' ⟨rfl, rfl⟩; rw [hc'.out])
  go_ret
  exact ⟨c, rfl, hR⟩
set_option maxRecDepth 100000 in
set_option maxHeartbeats 400000 in
theorem does_none (ha : askedE dead s = 0) (hno : repOf rs s = none) (hR : R 7 w) :
    Calls Try.prog 22 #[.pointer (some ⟨bd, 0, none⟩), .string s, .int .i64 size, .bool false, .func (.func g) #[] cap] w (Answers R) := by
  have c0 := h.c0
  have c2 := h.c2
  have hl := h.map.look uMap uStr (zPf w) s
  rw [look_rep, hno] at hl
  have hc' := Lib.hid ha
  clear h ha hno
  go_enter Try.func22, Try.ntmps22
  go_wp2_with (go_at_call 25; refine (asked_any _ _ _ _ _ c0 c2).mono ?_; rintro e w' ⟨rfl, rfl⟩; rw [hc'.out])
  go_ret
  exact ⟨7, rfl, hR⟩
set_option maxRecDepth 100000 in
set_option maxHeartbeats 400000 in
theorem does_limit_old (ha : askedE dead s = 0) {r : Rep} (hr : repOf rs s = some r) (hs : 1048576 < size) (hR : R 3 w) :
    Calls Try.prog 22 #[.pointer (some ⟨bd, 0, none⟩), .string s, .int .i64 size, .bool made, .func (.func g) #[] cap] w (Answers R) := by
  have c0 := h.c0
  have c2 := h.c2
  have hl := h.map.look uMap uStr (zPf w) s
  rw [look_rep, hr] at hl
  simp only [ptr] at hl
  have hc' := Lib.hid ha
  clear h ha hr
  go_enter Try.func22, Try.ntmps22
  go_wp2_with (go_at_call 25; refine (asked_any _ _ _ _ _ c0 c2).mono ?_; rintro e w' ⟨rfl, rfl⟩; rw [hc'.out])
  go_ret
  exact ⟨3, rfl, hR⟩
set_option maxRecDepth 100000 in
set_option maxHeartbeats 400000 in
theorem does_limit_new (ha : askedE dead s = 0) (hr : repOf rs s = none) (hs : 1048576 < size ∨ 16 ≤ rs.length) (hR : R 3 w) :
    Calls Try.prog 22 #[.pointer (some ⟨bd, 0, none⟩), .string s, .int .i64 size, .bool true, .func (.func g) #[] cap] w (Answers R) := by
  have c0 := h.c0
  have c2 := h.c2
  have hl := h.map.look uMap uStr (zPf w) s
  rw [look_rep, hr] at hl
  have hlen := h.map.len uMap 3
  simp only [List.length_map] at hlen
  have hc' := Lib.hid ha
  clear h ha hr
  by_cases hs1 : 1048576 < size
  · clear hs
    go_enter Try.func22, Try.ntmps22
    go_wp2_with (go_at_call 25; refine (asked_any _ _ _ _ _ c0 c2).mono ?_; rintro e w' ⟨rfl, rfl⟩; rw [hc'.out])
    go_ret
    exact ⟨3, rfl, hR⟩
  · have hs2 : (16 : Int) ≤ (rs.length : Int) := by omega
    clear hs
    go_enter Try.func22, Try.ntmps22
    go_wp2_with (go_at_call 25; refine (asked_any _ _ _ _ _ c0 c2).mono ?_; rintro e w' ⟨rfl, rfl⟩; rw [hc'.out])
    go_ret
    exact ⟨3, rfl, hR⟩
set_option maxRecDepth 100000 in
set_option maxHeartbeats 400000 in
theorem does_out_old (ha : askedE dead s = 0) {r : Rep} (hr : repOf rs s = some r) (hs : size ≤ 1048576) (hb : fuse = 0) (hd : dead = false) (hR : R 17 (w.setCell ⟨bd, 2, none⟩ (.bool true))) :
    Calls Try.prog 22 #[.pointer (some ⟨bd, 0, none⟩), .string s, .int .i64 size, .bool made, .func (.func g) #[] cap] w (Answers R) := by
  subst hb hd
  have c0 := h.c0
  have c1 := h.c1
  have c2 := h.c2
  have f2 := h.fz 2
  have hl := h.map.look uMap uStr (zPf w) s
  rw [look_rep, hr] at hl
  simp only [ptr] at hl
  have hc' := Lib.hid ha
  clear h ha hr
  go_enter Try.func22, Try.ntmps22
  go_wp2_with (first
    | (go_at_call 25; refine (asked_any _ _ _ _ _ c0 c2).mono ?_; rintro e w' ⟨rfl, rfl⟩; rw [hc'.out])
    | (go_at_call 45; refine (burns_out _ _ c1 c2 f2).mono ?_; rintro e w' ⟨rfl, rfl⟩))
  go_ret
  exact ⟨17, rfl, hR⟩
set_option maxRecDepth 100000 in
set_option maxHeartbeats 400000 in
theorem does_out_new (ha : askedE dead s = 0) (hr : repOf rs s = none) (hs : size ≤ 1048576) (hf : rs.length < 16) (hb : fuse = 0) (hd : dead = false) (hR : R 17 (w.setCell ⟨bd, 2, none⟩ (.bool true))) :
    Calls Try.prog 22 #[.pointer (some ⟨bd, 0, none⟩), .string s, .int .i64 size, .bool true, .func (.func g) #[] cap] w (Answers R) := by
  subst hb hd
  have c0 := h.c0
  have c1 := h.c1
  have c2 := h.c2
  have f2 := h.fz 2
  have hl := h.map.look uMap uStr (zPf w) s
  rw [look_rep, hr] at hl
  have hlen := h.map.len uMap 3
  simp only [List.length_map] at hlen
  have hf' : ¬ ((16 : Int) ≤ (rs.length : Int)) := by omega
  have hc' := Lib.hid ha
  clear h ha hr hf
  go_enter Try.func22, Try.ntmps22
  go_wp2_with (first
    | (go_at_call 25; refine (asked_any _ _ _ _ _ c0 c2).mono ?_; rintro e w' ⟨rfl, rfl⟩; rw [hc'.out])
    | (go_at_call 45; refine (burns_out _ _ c1 c2 f2).mono ?_; rintro e w' ⟨rfl, rfl⟩))
  go_ret
  exact ⟨17, rfl, hR⟩
theorem burnsW (hb : fuse ≠ 0) :
    Calls Try.prog 45 #[.pointer (some ⟨bd, 0, none⟩)] w fun e w' => e = .returned (.int .i64 0) ∧ w' = burntW w bd fuse := by
  have c1 := h.c1
  have f1 := h.fz 1
  have := h.high
  unfold burntW
  by_cases h0 : 0 < fuse
  · rw [if_pos h0]
    exact burns_one bd fuse w c1 f1 h0 (by omega)
  · rw [if_neg h0]
    exact (burns_any bd fuse w c1 (by omega)).mono fun e w' x => ⟨x.1, x.2.symm⟩
set_option maxRecDepth 100000 in
set_option maxHeartbeats 400000 in
theorem does_old (ha : askedE dead s = 0) {r : Rep} (hr : repOf rs s = some r) (hs : size ≤ 1048576) (hb : fuse ≠ 0) (eg : ∀ args w, (callFunc g args).run Try.prog w = .ok (.enter g args) w)
    (hR : DiskRep (burntW w bd fuse) bd mb (burnt fuse) dead rs → Calls Try.prog g (#[.pointer (some ⟨r.fb, 0, none⟩)] ++ cap) (burntW w bd fuse) fun e w' => e = .returned (.tuple #[]) ∧ R 0 w') :
    Calls Try.prog 22 #[.pointer (some ⟨bd, 0, none⟩), .string s, .int .i64 size, .bool made, .func (.func g) #[] cap] w (Answers R) := by
  have c0 := h.c0
  have c2 := h.c2
  have hB := h.burnt
  have hl := h.map.look uMap uStr (zPf w) s
  rw [look_rep, hr] at hl
  simp only [ptr] at hl
  have hc' := Lib.hid ha
  have cb := Lib.hid (burnsW bd mb fuse dead rs w h hb)
  have hR' := Lib.hid (hR hB)
  clear h ha hr hb hR
  generalize burntW w bd fuse = w1 at *
  have c0' := hB.c0
  clear hB
  go_enter Try.func22, Try.ntmps22
  go_wp2_with (first
    | (go_at_call 25; refine (asked_any _ _ _ _ _ c0 c2).mono ?_; rintro e w' ⟨rfl, rfl⟩; rw [hc'.out])
    | (go_at_call 45; refine cb.out.mono ?_; rintro e w' ⟨rfl, rfl⟩)
    | (with_reducible refine hR'.out.mono ?_; rintro e w' ⟨rfl, hR0⟩))
  go_ret
  exact ⟨0, rfl, hR0⟩
set_option maxRecDepth 100000 in
set_option maxHeartbeats 400000 in
theorem does_new (ha : askedE dead s = 0) (hn : 0 < s.size ∧ s.size ≤ 16) (hr : repOf rs s = none) (hs : size ≤ 1048576) (hf : rs.length < 16) (hb : fuse ≠ 0) (eg : ∀ args w, (callFunc g args).run Try.prog w = .ok (.enter g args) w)
    (hR : ∀ w1, DiskRep w1 bd mb (burnt fuse) dead (rs ++ [newRep s w.heap.size]) → Fr (· ∈ own bd mb rs) w w1 → w1.heap.size = w.heap.size + 1 →
      Calls Try.prog g (#[.pointer (some ⟨w.heap.size, 0, none⟩)] ++ cap) w1 fun e w' => e = .returned (.tuple #[]) ∧ R 0 w') :
    Calls Try.prog 22 #[.pointer (some ⟨bd, 0, none⟩), .string s, .int .i64 size, .bool true, .func (.func g) #[] cap] w (Answers R) := by
  have c0 := h.c0
  have c2 := h.c2
  have hB := h.burnt
  have hl := h.map.look uMap uStr (zPf w) s
  rw [look_rep, hr] at hl
  have hlen := h.map.len uMap 3
  simp only [List.length_map] at hlen
  have hf' : ¬ ((16 : Int) ≤ (rs.length : Int)) := by omega
  have hc' := Lib.hid ha
  have cb := Lib.hid (burnsW bd mb fuse dead rs w h hb)
  have hF1 := burntW_fr w bd fuse
  have hsz := burntW_size w bd fuse
  obtain ⟨w2, hput, hD2, hF2, hsz2⟩ := hB.newFile s hn hr hf
  have hR' := Lib.hid (hR w2 (by rw [hsz] at hD2; exact hD2) ((hF1.mono fun i _ e => by cases e; simp [own]).trans (hF2.mono fun i _ e => by cases e; simp [own])) (by omega))
  rw [← hsz] at hR'
  clear h ha hr hb hR hf hsz hsz2 hF1 hF2 hn hD2
  generalize burntW w bd fuse = w1 at *
  have c0' := hB.c0
  have c0'' := cell_alloc c0'
  clear hB
  go_enter Try.func22, Try.ntmps22
  go_wp2_with (first
    | (go_at_call 25; refine (asked_any _ _ _ _ _ c0 c2).mono ?_; rintro e w' ⟨rfl, rfl⟩; rw [hc'.out])
    | (go_at_call 45; refine cb.out.mono ?_; rintro e w' ⟨rfl, rfl⟩)
    | (with_reducible refine hR'.out.mono ?_; rintro e w' ⟨rfl, hR0⟩))
  go_ret
  exact ⟨0, rfl, hR0⟩
end
end Go.Proofs.Ythjpjekaiflibaa
