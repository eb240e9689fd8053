/- Slices of what is read; slices.Equal, sums.Ends, slices.ContainsFunc. -/
import Derived.Test.YthjpjekaiflibaaDoorFrames
namespace Go.Proofs.YthjpjekaiflibaaDoor
open Go.RowKit
theorem Bs.sliced {w : World} {p : Option Addr} {n c : Nat} {g : Option Nat} {bs : List UInt8} (h : Bs w (.slice p n c) g bs) {lo hi : Nat} (h1 : lo ≤ hi) (h2 : hi ≤ bs.length) : Bs w (sliced p lo hi c 1) g ((bs.drop lo).take (hi - lo)) := by
  obtain ⟨k0, p', c', e, k2, k3, k4, k5⟩ := h
  obtain ⟨rfl, rfl, rfl⟩ : p = p' ∧ n = bs.length ∧ c = c' := by simpa using e
  have hl : ((bs.drop lo).take (hi - lo)).length = hi - lo := by simp; omega
  refine ⟨by simp, (if c = lo then p else p.map (·.add (lo * 1))), c - lo, by unfold Go.sliced; rw [hl], by omega, by omega, fun hp => ?_, ?_⟩
  · have hp' : p = none := by
      by_cases hcl : c = lo
      · rw [if_pos hcl] at hp; exact hp
      · rw [if_neg hcl] at hp; simpa using hp
    have := k4 hp'
    omega
  · rcases k5 with k5 | ⟨b, o, rfl, k6, k7⟩
    · exact .inl (by omega)
    · by_cases h0 : hi - lo = 0
      · exact .inl (by omega)
      · refine .inr ⟨b, o + lo, ?_, k6, fun j u hj => ?_⟩
        · rw [if_neg (by omega)]
          simp only [Option.map_some, Nat.mul_one]
          congr 1
          unfold Addr.add
          split
          · rename_i h9; subst h9; rfl
          · rfl
        · have hj2 : j < hi - lo := by
            rcases Nat.lt_or_ge j (hi - lo) with h | h
            · exact h
            · rw [List.getElem?_eq_none (by simp; omega)] at hj; cases hj
          have : (bs.map encB)[lo + j]? = some u := by
            rw [List.getElem?_map] at hj ⊢
            rw [List.getElem?_take, if_pos hj2, List.getElem?_drop] at hj
            exact hj
          have := k7 _ _ this
          rwa [← Nat.add_assoc] at this
theorem Bs.at {w : World} {p : Option Addr} {n c : Nat} {g : Option Nat} {bs : List UInt8} (h : Bs w (.slice p n c) g bs) {k : Nat} (hk : k < bs.length) : ∃ b o, p = some ⟨b, o, none⟩ ∧ w.cell? ⟨b, o + k, none⟩ = some (.int .u8 (bs[k].toNat : Int)) := by
  obtain ⟨_, p', c', e, _, _, _, h0 | ⟨b, o, e1, _, hc⟩⟩ := h
  · omega
  · refine ⟨b, o, ?_, hc k (encB bs[k]) (by simp [hk])⟩
    have : p = p' ∧ n = bs.length ∧ c = c' := by simpa using e
    exact this.1.trans e1
theorem Bs.addr {w : World} {p : Option Addr} {n c : Nat} {g : Option Nat} {bs : List UInt8} (h : Bs w (.slice p n c) g bs) (hk : 0 < bs.length) : ∃ b o, p = some ⟨b, o, none⟩ :=
  let ⟨b, o, e, _⟩ := h.at hk
  ⟨b, o, e⟩
/-- A part of what is read. -/
theorem Bs.part {w : World} {b o n c : Nat} {g : Option Nat} {bs : List UInt8} (h : Bs w (.slice (some ⟨b, o, none⟩) n c) g bs) (lo m : Nat) {c' : Nat} (h1 : lo + m ≤ bs.length) (h2 : m ≤ c') (h3 : c' ≤ c) : Bs w (.slice (some ⟨b, o + lo, none⟩) m c') g ((bs.drop lo).take m) := by
  obtain ⟨k0, p', cc, e, k2, k3, k4, k5⟩ := h
  obtain ⟨rfl, rfl, rfl⟩ : some ⟨b, o, none⟩ = p' ∧ n = bs.length ∧ c = cc := by simpa using e
  have hl : ((bs.drop lo).take m).length = m := by simp; omega
  refine ⟨by simp, some ⟨b, o + lo, none⟩, c', by rw [hl], by omega, by omega, (fun e => by cases e), ?_⟩
  rcases k5 with k5 | ⟨b2, o2, e1, k6, k7⟩
  · exact .inl (by omega)
  · obtain ⟨rfl, rfl⟩ : b = b2 ∧ o = o2 := by simpa using e1
    refine .inr ⟨b, o + lo, rfl, k6, fun j u hj => ?_⟩
    have hj2 : j < m := by
      rcases Nat.lt_or_ge j m with h | h
      · exact h
      · rw [List.getElem?_eq_none (by simp; omega)] at hj; cases hj
    have : (bs.map encB)[lo + j]? = some u := by
      rw [List.getElem?_map] at hj ⊢
      rw [List.getElem?_take, if_pos hj2, List.getElem?_drop] at hj
      exact hj
    have := k7 _ _ this
    rwa [← Nat.add_assoc] at this
def EqualRel (w : World) (xs ys : List UInt8) (i : Value) (w' : World) : Prop := ∃ k : Nat, i = .int .i64 k ∧ k ≤ xs.length ∧ xs.take k = ys.take k ∧ Fr No w w'
set_option maxRecDepth 100000 in
set_option maxHeartbeats 4000000 in
theorem equal_any {R : Ending → World → Prop} (v1 v2 : Value) (g1 g2 : Option Nat) (xs ys : List UInt8) (w : World) (h1 : Bs w v1 g1 xs) (h2 : Bs w v2 g2 ys)
    (hR : ∀ w', Fr No w w' → R (.returned (.bool (decide (xs = ys)))) w') :
    Calls Tryd.prog 125 #[v1, v2] w R := by
  have HR := Lib.hid hR
  have H1 := Lib.hid h1
  have H2 := Lib.hid h2
  obtain ⟨p1, c1, rfl, _⟩ := Src.form h1
  obtain ⟨p2, c2, rfl, _⟩ := Src.form h2
  have hm1 := Src.len_le h1
  have hl1 : xs.length ≤ 9223372036854775807 := by unfold maxLen at hm1; omega
  clear hR h1 h2 hm1
  by_cases hlen : xs.length = ys.length
  · have jl : (xs.length : Int) = (ys.length : Int) := by omega
    have HL := Lib.hid hlen
    rw [← hlen]
    clear jl hlen
    go_enter Tryd.func125, Tryd.ntmps125
    go_wp2_with fail
    go_loopw [5, 13] (fun _ i wr => EqualRel w xs ys i wr) (fun _ i _ => xs.length - (intOf i).toNat)
    case atStart => exact ⟨0, rfl, by omega, rfl, Fr.refl _ _⟩
    case round =>
      obtain ⟨k, rfl, hk, heq, hF⟩ := hrel
      have HF := Lib.hid hF
      by_cases hlt : k < xs.length
      · obtain ⟨b1, o1, rfl, e1⟩ := (H1.out.fr hF fun _ _ x => x).at hlt
        have hlt2 : k < ys.length := by have := HL.out; omega
        obtain ⟨b2, o2, rfl, e2⟩ := (H2.out.fr hF fun _ _ x => x).at hlt2
        have t1 := List.take_succ_eq_append_getElem hlt
        have t2 := List.take_succ_eq_append_getElem hlt2
        have d1 : xs[k]? = some xs[k] := List.getElem?_eq_getElem hlt
        have d2 : ys[k]? = some ys[k] := List.getElem?_eq_getElem hlt2
        generalize xs[k] = x at *
        generalize ys[k] = y at *
        have ik0 : (0 : Int) ≤ (k : Int) := by omega
        have il : (k : Int) < (xs.length : Int) := by omega
        by_cases hxy : x = y
        · subst hxy
          have HT := Lib.hid (show xs.take (k + 1) = ys.take (k + 1) by rw [t1, t2, heq])
          clear t1 t2 d1 d2 heq hF hlt2
          go_wp2_with fail
          go_quiet (fail)
          go_wp2_with fail
          exact ⟨⟨k + 1, by go_num, by omega, HT.out, HF.out.trans (Fr.drewN _ _ _)⟩, by simp [intOf]; omega⟩
        · have hne : decide (xs = ys) = false := by
            rw [decide_eq_false_iff_not]
            intro e
            rw [e, d2] at d1
            exact hxy (Option.some.inj d1).symm
          have jx : ¬ (x.toNat : Int) = (y.toNat : Int) := fun e => hxy (UInt8.toNat_inj.1 (by omega))
          have HNE := Lib.hid hne
          clear t1 t2 d1 d2 heq hF hne hlt2
          go_wp2_with fail
          go_quiet (fail)
          go_wp2_with fail
          have := HR.out _ (HF.out.trans (Fr.drewN No wr nq))
          rw [HNE.out] at this
          exact this
      · have hkl : k = xs.length := by omega
        subst hkl
        have hxy : decide (xs = ys) = true := by
          rw [decide_eq_true_eq]
          rw [List.take_length] at heq
          rw [heq, HL.out, List.take_length]
        have h3 := HR.out _ HF.out
        rw [hxy] at h3
        have HR3 := Lib.hid h3
        clear h3 hxy heq hF
        go_wp2_with fail
        exact HR3.out
  · have jl : ¬ (xs.length : Int) = (ys.length : Int) := by omega
    have hne : decide (xs = ys) = false := by
      rw [decide_eq_false_iff_not]
      intro e
      exact hlen (by rw [e])
    have h3 := HR.out _ (Fr.refl No w)
    rw [hne] at h3
    have HR3 := Lib.hid h3
    clear h3 hne hlen
    go_enter Tryd.func125, Tryd.ntmps125
    go_wp2_with fail
    exact HR3.out
end Go.Proofs.YthjpjekaiflibaaDoor
