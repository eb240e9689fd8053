/- Parts of bytes that are read. -/
import Derived.Test.YthjpjekaiflibaaLit
namespace Go.Proofs.Ythjpjekaiflibaa
open Go.RowKit
theorem Bs.sliced {w : World} {p : Option Addr} {n c : Nat} {g : Option Nat} {bs : List UInt8} (h : Bs w (.slice p n c) g bs) {lo hi : Nat} (h1 : lo ≤ hi) (h2 : hi ≤ bs.length) : Bs w (sliced p lo hi c 1) g ((bs.drop lo).take (hi - lo)) := by
  obtain ⟨k0, p', c', e, k2, k3, k4, k5⟩ := h
  obtain ⟨rfl, rfl, rfl⟩ : p = p' ∧ n = bs.length ∧ c = c' := by simpa using e
  have hl : ((bs.drop lo).take (hi - lo)).length = hi - lo := by simp; omega
  refine ⟨by simp, (if c = lo then p else p.map (·.add (lo * 1))), c - lo, by unfold Go.sliced; rw [hl], by omega, by omega, fun hp => ?_, ?_⟩
  · have hp' : p = none := by
      by_cases hcl : c = lo
      · rw [if_pos hcl] at hp; exact hp
      · rw [if_neg hcl] at hp; simpa using hp
    have := k4 hp'
    omega
  · rcases k5 with k5 | ⟨b, o, rfl, k6, k7⟩
    · exact .inl (by omega)
    · by_cases h0 : hi - lo = 0
      · exact .inl (by omega)
      · refine .inr ⟨b, o + lo, ?_, k6, fun j u hj => ?_⟩
        · rw [if_neg (by omega)]
          simp only [Option.map_some, Nat.mul_one]
          congr 1
          unfold Addr.add
          split
          · rename_i h9; subst h9; rfl
          · rfl
        · have hj2 : j < hi - lo := by
            rcases Nat.lt_or_ge j (hi - lo) with h | h
            · exact h
            · rw [List.getElem?_eq_none (by simp; omega)] at hj; cases hj
          have : (bs.map encB)[lo + j]? = some u := by
            rw [List.getElem?_map] at hj ⊢
            rw [List.getElem?_take, if_pos hj2, List.getElem?_drop] at hj
            exact hj
          have := k7 _ _ this
          rwa [← Nat.add_assoc] at this
theorem Bs.at {w : World} {p : Option Addr} {n c : Nat} {g : Option Nat} {bs : List UInt8} (h : Bs w (.slice p n c) g bs) {k : Nat} (hk : k < bs.length) : ∃ b o, p = some ⟨b, o, none⟩ ∧ w.cell? ⟨b, o + k, none⟩ = some (.int .u8 (bs[k].toNat : Int)) := by
  obtain ⟨_, p', c', e, _, _, _, h0 | ⟨b, o, e1, _, hc⟩⟩ := h
  · omega
  · refine ⟨b, o, ?_, hc k (encB bs[k]) (by simp [hk])⟩
    have : p = p' ∧ n = bs.length ∧ c = c' := by simpa using e
    exact this.1.trans e1
theorem Bs.addr {w : World} {p : Option Addr} {n c : Nat} {g : Option Nat} {bs : List UInt8} (h : Bs w (.slice p n c) g bs) (hk : 0 < bs.length) : ∃ b o, p = some ⟨b, o, none⟩ :=
  let ⟨b, o, e, _⟩ := h.at hk
  ⟨b, o, e⟩
/-- A part of what is read. -/
theorem Bs.part {w : World} {b o n c : Nat} {g : Option Nat} {bs : List UInt8} (h : Bs w (.slice (some ⟨b, o, none⟩) n c) g bs) (lo m : Nat) {c' : Nat} (h1 : lo + m ≤ bs.length) (h2 : m ≤ c') (h3 : c' ≤ c) : Bs w (.slice (some ⟨b, o + lo, none⟩) m c') g ((bs.drop lo).take m) := by
  obtain ⟨k0, p', cc, e, k2, k3, k4, k5⟩ := h
  obtain ⟨rfl, rfl, rfl⟩ : some ⟨b, o, none⟩ = p' ∧ n = bs.length ∧ c = cc := by simpa using e
  have hl : ((bs.drop lo).take m).length = m := by simp; omega
  refine ⟨by simp, some ⟨b, o + lo, none⟩, c', by rw [hl], by omega, by omega, (fun e => by cases e), ?_⟩
  rcases k5 with k5 | ⟨b2, o2, e1, k6, k7⟩
  · exact .inl (by omega)
  · obtain ⟨rfl, rfl⟩ : b = b2 ∧ o = o2 := by simpa using e1
    refine .inr ⟨b, o + lo, rfl, k6, fun j u hj => ?_⟩
    have hj2 : j < m := by
      rcases Nat.lt_or_ge j m with h | h
      · exact h
      · rw [List.getElem?_eq_none (by simp; omega)] at hj; cases hj
    have : (bs.map encB)[lo + j]? = some u := by
      rw [List.getElem?_map] at hj ⊢
      rw [List.getElem?_take, if_pos hj2, List.getElem?_drop] at hj
      exact hj
    have := k7 _ _ this
    rwa [← Nat.add_assoc] at this
end Go.Proofs.Ythjpjekaiflibaa
