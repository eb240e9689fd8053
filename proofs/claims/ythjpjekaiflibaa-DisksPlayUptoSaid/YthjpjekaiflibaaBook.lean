/- A row of bytes is written over, what stands behind it too; both stand. -/
import Derived.Test.YthjpjekaiflibaaSame
namespace Go.Proofs.Ythjpjekaiflibaa
open Go.RowKit
/-- All places of a list that owns its memory. -/
def AllAt (w : World) (v : Value) (g : Option Nat) (n : Nat) (all : List Value) : Prop := (v = .slice none 0 0 ∧ g = none ∧ n = 0 ∧ all = []) ∨ ∃ b o, v = .slice (some ⟨b, o, none⟩) n all.length ∧ g = some b ∧ n ≤ all.length ∧ Sl w 5 1 (.slice (some ⟨b, o, none⟩) all.length all.length) (some b) all.length all
theorem AllAt.fr {S : Nat → Prop} {w w' : World} {v : Value} {g : Option Nat} {n : Nat} {all : List Value} (h : AllAt w v g n all) (hF : Fr S w w') (hs : ∀ k, g = some k → ¬ S k) : AllAt w' v g n all := by
  rcases h with h | ⟨b, o, e1, e2, h1, h3⟩
  · exact .inl h
  · exact .inr ⟨b, o, e1, e2, h1, h3.fr hF fun k hk => hs k (e2.trans hk)⟩
theorem By.all {w : World} {v : Value} {g : Option Nat} {bs : List UInt8} (h : By w v g bs) : ∃ all, AllAt w v g bs.length all := by
  obtain ⟨_, ⟨e1, e2, e3⟩ | ⟨b, o, cap, cur, e1, e2, hb, h1, h2, h3, _⟩⟩ := h
  · exact ⟨[], .inl ⟨e1, e2, e3, rfl⟩⟩
  · have hl : ((cur.toList.drop o).take cap).length = cap := by simp; omega
    refine ⟨(cur.toList.drop o).take cap, .inr ⟨b, o, by rw [hl]; exact e1, e2, by omega, ?_⟩⟩
    rw [hl]
    refine ⟨by rw [hl, Nat.mul_one], .inr ⟨b, o, cap, cur, rfl, rfl, hb, Nat.le_refl _, h2, h3, by rw [Nat.mul_one]⟩⟩
theorem AllAt.lt {w : World} {v : Value} {g : Option Nat} {n : Nat} {all : List Value} (h : AllAt w v g n all) : ∀ k, g = some k → k < w.heap.size := by
  rcases h with ⟨_, e, _⟩ | ⟨b, o, _, e2, _, h3⟩
  · intro k hk; rw [e] at hk; cases hk
  · intro k hk; exact h3.lt k (e2.symm.trans hk)
theorem AllAt.le {w : World} {v : Value} {g : Option Nat} {n : Nat} {all : List Value} (h : AllAt w v g n all) : n ≤ all.length ∧ all.length ≤ 9223372036854775807 := by
  rcases h with ⟨_, _, rfl, rfl⟩ | ⟨b, o, _, e2, h1, h3⟩
  · simp
  · have := h3.len_le
    unfold maxLen at this
    exact ⟨h1, by omega⟩
theorem AllAt.form {w : World} {v : Value} {g : Option Nat} {n : Nat} {all : List Value} (h : AllAt w v g n all) : ∃ p, v = .slice p n all.length := by
  rcases h with ⟨e, _, rfl, rfl⟩ | ⟨b, o, e, _⟩
  · exact ⟨none, e⟩
  · exact ⟨_, e⟩
/-- One place. -/
theorem AllAt.one {w : World} {p : Option Addr} {c : Nat} {g : Option Nat} {n : Nat} {all : List Value} (h : AllAt w (.slice p n c) g n all) {k : Nat} (hk : k < all.length) : ∃ b o, p = some ⟨b, o, none⟩ ∧ g = some b ∧ w.cell? ⟨b, o + k, none⟩ = some all[k] ∧ w.frozen? ⟨b, o + k, none⟩ = false ∧
    ∀ u, AllAt (w.setCell ⟨b, o + k, none⟩ u) (.slice p n c) g n (all.set k u) := by
  rcases h with ⟨_, _, _, rfl⟩ | ⟨b, o, e, e2, h1, h3⟩
  · simp at hk
  · obtain ⟨rfl, rfl⟩ : p = some ⟨b, o, none⟩ ∧ c = all.length := by simpa using e
    rcases h3.out with ⟨e9, _⟩ | ⟨b', o', cap, e9, _, _, _, _, hc, hz⟩
    · cases e9
    · obtain ⟨rfl, rfl⟩ : b = b' ∧ o = o' := by have := e9; simp at this; exact this.1
      refine ⟨b, o, rfl, e2, hc k _ (List.getElem?_eq_getElem hk), hz _, fun u => .inr ⟨b, o, by simp, e2, by simpa using h1, ?_⟩⟩
      have := Sl.set h3 k (by omega) u
      simpa using this
structure WroteI (w0 : World) (v : Value) (g : Option Nat) (n : Nat) (all : List Value) (m : Value) (lo k : Nat) (all' : List Value) (w : World) : Prop where
  a : AllAt w v g n all'
  l : all'.length = all.length
  m : ∀ j, lo ≤ j → j < k → all'[j]? = some m
  r : ∀ j, j < lo ∨ k ≤ j → all'[j]? = all[j]?
  f : Fr (Is g) w0 w
def WroteRel (w0 : World) (v : Value) (g : Option Nat) (n : Nat) (all : List Value) (m : Value) (lo hi : Nat) (i : Value) (w : World) : Prop := ∃ (k : Nat) (all' : List Value), i = .int .i64 k ∧ lo ≤ k ∧ k ≤ hi ∧ WroteI w0 v g n all m lo k all' w
theorem WroteI.step {w0 w : World} {p : Option Addr} {c : Nat} {g : Option Nat} {n : Nat} {all : List Value} {m : Value} {lo k : Nat} {all' : List Value} (h : WroteI w0 (.slice p n c) g n all m lo k all' w) (hlo : lo ≤ k) (hk : k < all'.length) :
    ∃ b o, p = some ⟨b, o, none⟩ ∧ g = some b ∧ (∃ u, w.cell? ⟨b, o + k, none⟩ = some u) ∧ w.frozen? ⟨b, o + k, none⟩ = false ∧ WroteI w0 (.slice p n c) g n all m lo (k + 1) (all'.set k m) (w.setCell ⟨b, o + k, none⟩ m) := by
  obtain ⟨b, o, e1, e2, h1, h2, h3⟩ := h.a.one hk
  refine ⟨b, o, e1, e2, ⟨_, h1⟩, h2, h3 m, by simpa using h.l, fun j hj1 hj2 => ?_, fun j hj => ?_, h.f.trans (by rw [e2]; exact Fr.set _ _ _ _)⟩
  · rw [List.getElem?_set]
    by_cases e : k = j
    · rw [if_pos e, if_pos (by omega)]
    · rw [if_neg e]; exact h.m j hj1 (by omega)
  · rw [List.getElem?_set, if_neg (by omega)]
    exact h.r j (by omega)
set_option maxRecDepth 100000 in
set_option maxHeartbeats 4000000 in
theorem write_any {R : Ending → World → Prop} (v : Value) (g : Option Nat) (n : Nat) (all : List Value) (m1 m2 : UInt8) (w : World) (h : AllAt w v g n all)
    (hR : ∀ w' all', WroteI w v g n all (encB m1) 0 n all' w' → R (.returned (.tuple #[])) w') :
    Calls Try.prog 91 #[.agg #[v, .int .u8 (m1.toNat : Int), .int .u8 (m2.toNat : Int)]] w R := by
  have HR := Lib.hid hR
  obtain ⟨p, rfl⟩ := h.form
  obtain ⟨hle, hmx⟩ := h.le
  obtain ⟨wa, hwa⟩ : ∃ wa, w.alloc (.cells #[.slice p n all.length, .int .u8 (m1.toNat : Int), .int .u8 (m2.toNat : Int)] 77) = wa := ⟨_, rfl⟩
  have hF : Fr No w wa := by rw [← hwa]; exact Fr.alloc _ _ _
  have hb0 : wa.heap[w.heap.size]? = some (.cells #[.slice p n all.length, .int .u8 (m1.toNat : Int), .int .u8 (m2.toNat : Int)] 77 (0, 0)) := by rw [← hwa]; exact heap_new w _
  have HW0 := Lib.hid (WroteI.mk (m := encB m1) (lo := 0) (k := 0) (h.fr hF fun _ _ x => x) rfl (fun j _ hj => absurd hj (by omega)) (fun j _ => rfl) hF.of_no)
  have HB0 := Lib.hid hb0
  have HLT := Lib.hid h.lt
  have HWA := Lib.hid hwa
  clear hR h hwa hF hb0
  go_enter Try.func91, Try.ntmps91
  go_wp2_with fail
  rw [HWA.out]
  go_loopw [2] (fun i wr => WroteRel w (.slice p n all.length) g n all (encB m1) 0 n i wr ∧ wr.heap[w.heap.size]? = some (.cells #[.slice p n all.length, .int .u8 (m1.toNat : Int), .int .u8 (m2.toNat : Int)] 77 (0, 0))) (fun i _ => n - (intOf i).toNat)
  case atStart => exact ⟨⟨0, all, rfl, by omega, by omega, HW0.out⟩, HB0.out⟩
  case round =>
    obtain ⟨⟨k, all', rfl, _, hk, hI⟩, hbx⟩ := hrel
    have x0 := cell_at hbx 0 rfl
    have x1 := cell_at hbx 1 rfl
    have ik0 : (0 : Int) ≤ (k : Int) := by omega
    by_cases hlt : k < n
    · obtain ⟨b, o, rfl, hg, ⟨u, q1⟩, q2, hst⟩ := hI.step (Nat.zero_le _) (by have := hI.l; omega)
      have il : (k : Int) < (n : Int) := by omega
      have HST := Lib.hid hst
      have HBX := Lib.hid ((Fr.set wr b (o + k) (encB m1)).at hbx fun e => by have h9 := HLT.out b hg; have : b = w.heap.size := Option.some.inj e; omega)
      clear hst hI hg hbx
      go_wp2_with fail
      exact ⟨⟨⟨k + 1, _, by go_num, by omega, by omega, HST.out⟩, HBX.out⟩, by simp [intOf]; omega⟩
    · obtain rfl : k = n := by omega
      have HI := Lib.hid hI
      clear hI hbx
      go_wp2_with fail
      refine bodyPost_ret (results_none rfl _ _ _) rfl ?_
      exact HR.out _ _ HI.out
end Go.Proofs.Ythjpjekaiflibaa
