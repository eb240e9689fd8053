/- The document's disk: set. -/
import Derived.Test.YthjpjekaiflibaaRef1
namespace Go.Proofs.Ythjpjekaiflibaa
open Go.RowKit
/-- A part of what is read, of cells in rows of z. -/
theorem Src.sliced {w : World} {z : Nat} {p : Option Addr} {n c : Nat} {g : Option Nat} {xs : List Value} (h : Src w z (.slice p n c) g n xs) {lo hi : Nat} (h1 : lo ≤ hi) (h2 : hi ≤ n) : Src w z (sliced p lo hi c z) g (hi - lo) ((xs.drop (lo * z)).take ((hi - lo) * z)) := by
  obtain ⟨k0, p', c', e, k2, k3, k4, k5⟩ := h
  obtain ⟨rfl, rfl⟩ : p = p' ∧ c = c' := by simpa using e
  have hm : (hi - lo) * z + lo * z = hi * z := by rw [← Nat.add_mul]; congr 1; omega
  have hm2 : hi * z ≤ n * z := Nat.mul_le_mul_right z h2
  refine ⟨by simp; omega, (if c = lo then p else p.map (·.add (lo * z))), c - lo, by unfold Go.sliced; rfl, by omega, by omega, fun hp => ?_, ?_⟩
  · have hp' : p = none := by
      by_cases hcl : c = lo
      · rw [if_pos hcl] at hp; exact hp
      · rw [if_neg hcl] at hp; simpa using hp
    have := k4 hp'
    omega
  · rcases k5 with k5 | ⟨b, o, rfl, k6, k7⟩
    · exact .inl (by omega)
    · by_cases h0 : hi - lo = 0
      · exact .inl (by omega)
      · refine .inr ⟨b, o + lo * z, ?_, k6, fun j u hj => ?_⟩
        · rw [if_neg (by omega)]
          simp only [Option.map_some]
          congr 1
          unfold Addr.add
          split
          · rename_i h9; rw [h9]; rfl
          · rfl
        · have hj2 : j < (hi - lo) * z := by
            rcases Nat.lt_or_ge j ((hi - lo) * z) with h | h
            · exact h
            · rw [List.getElem?_eq_none (by simp; omega)] at hj; cases hj
          have : xs[lo * z + j]? = some u := by
            rw [List.getElem?_take, if_pos hj2, List.getElem?_drop] at hj
            exact hj
          have := k7 _ _ this
          rwa [← Nat.add_assoc] at this
theorem rcells_take (fs : List RRep) (k : Nat) : (rcells fs).take (k * 3) = rcells (fs.take k) := by
  induction fs generalizing k with
  | nil => simp [rcells]
  | cons r rs ih =>
    cases k with
    | zero => simp [rcells]
    | succ k =>
      have e : rcells (r :: rs) = [.string r.f.name, r.v, .int .i64 (r.f.sure : Int)] ++ rcells rs := rfl
      have e2 : rcells (r :: rs.take k) = [.string r.f.name, r.v, .int .i64 (r.f.sure : Int)] ++ rcells (rs.take k) := rfl
      rw [List.take_succ_cons, e, e2, ← ih k, List.take_append, List.take_of_length_le (by simp; omega)]
      congr 2
      simp
      omega
theorem rcells_drop (fs : List RRep) (k : Nat) : (rcells fs).drop (k * 3) = rcells (fs.drop k) := by
  have h : rcells fs = rcells (fs.take k) ++ rcells (fs.drop k) := by rw [← rcells_append, List.take_append_drop]
  by_cases hk : k ≤ fs.length
  · have hl : (rcells (fs.take k)).length = k * 3 := by rw [rcells_length, List.length_take, Nat.min_eq_left hk]
    rw [h, ← hl, List.drop_left]
  · rw [List.drop_eq_nil_of_le (by rw [rcells_length]; omega), List.drop_eq_nil_of_le (by omega)]
    rfl
/-- A cell of a slice is written. -/
theorem Sl.set {w : World} {e : TypeId} {z : Nat} {b o n c : Nat} {xs : List Value} (h : Sl w e z (.slice (some ⟨b, o, none⟩) n c) (some b) n xs) (j : Nat) (hj : j < n * z) (u : Value) : Sl (w.setCell ⟨b, o + j, none⟩ u) e z (.slice (some ⟨b, o, none⟩) n c) (some b) n (xs.set j u) := by
  obtain ⟨hl, ⟨hn, _⟩ | ⟨b', o', cap, cur, hv, hb', hb, h1, h2, h3, h4⟩⟩ := h
  · cases hn
  · obtain ⟨⟨rfl, rfl⟩, rfl⟩ : (b = b' ∧ o = o') ∧ c = cap := by simpa using hv
    have hm : n * z ≤ c * z := Nat.mul_le_mul_right z h1
    refine ⟨by simpa using hl, .inr ⟨b, o, c, _, rfl, rfl, setCell_box hb u, h1, h2, by simpa using h3, ?_⟩⟩
    rw [← h4]
    apply List.ext_getElem?
    intro i
    by_cases hi : i < n * z
    · rw [List.getElem?_take, if_pos hi, List.getElem?_drop, List.getElem?_set]
      by_cases hij : j = i
      · subst hij
        have h5 : j < (List.take (n * z) (List.drop o cur.toList)).length := by rw [h4]; omega
        rw [if_pos rfl, if_pos h5]
        have h6 : o + j < cur.size := by omega
        simp [h6]
      · rw [if_neg hij, List.getElem?_take, if_pos hi, List.getElem?_drop]
        simp
        rw [List.getElem?_set, if_neg (by omega)]
        simp
    · rw [List.getElem?_eq_none (by simp; omega), List.getElem?_eq_none (by simp; omega)]
theorem rcells_set {fs : List RRep} {k : Nat} (hk : k < fs.length) (r : RRep) : rcells (fs.set k r) = (((rcells fs).set (k * 3) (.string r.f.name)).set (k * 3 + 1) r.v).set (k * 3 + 2) (.int .i64 (r.f.sure : Int)) := by
  induction fs generalizing k with
  | nil => cases hk
  | cons q rs ih =>
    have e : ∀ q rs, rcells (q :: rs) = .string q.f.name :: q.v :: .int .i64 (q.f.sure : Int) :: rcells rs := fun _ _ => rfl
    cases k with
    | zero => simp [e]
    | succ k =>
      rw [List.set_cons_succ, e, e, ih (by simpa using hk)]
      rw [show (k + 1) * 3 = k * 3 + 1 + 1 + 1 by omega]
      simp [List.set_cons_succ]
end Go.Proofs.Ythjpjekaiflibaa
