/- Plain: of a sorted row, what most of its numbers reach. -/
import Derived.Test.YtcpaphcodhlggaaPoll2
import Derived.Sort.LotA
namespace Go.Proofs.Ytcpaphcodhlggaa
open Go.RowKit Go.Sort
def sortD (zs : List Int) : List Int := zs.mergeSort (fun x y => !ltInt y x)
theorem sortD_perm (zs : List Int) : (sortD zs).Perm zs := List.mergeSort_perm _ _
theorem sortD_len (zs : List Int) : (sortD zs).length = zs.length := (sortD_perm zs).length_eq
theorem sortD_asc (zs : List Int) : (sortD zs).Pairwise (· ≤ ·) := by
  have h := List.pairwise_mergeSort (le := fun x y => !ltInt y x) (fun a b c h1 h2 => by simp [ltInt] at h1 h2 ⊢; omega) (fun a b => by simp [ltInt]; omega) zs
  exact h.imp fun {a b} h => by simpa [ltInt] using h
theorem sorted_is (zs : List Int) (d : Array Int) (hp : PermIn 0 zs.length zs.toArray d) (hs : SortedIn ltInt 0 zs.length d) : d.toList = sortD zs := by
  have h := sorted_unique_holds (lt := ltInt) swo_ltInt (fun x y h1 h2 => by simp [ltInt] at h1 h2; omega) zs.toArray d (by simpa using hp) (by simpa using hs)
  simpa [sortD] using h
/-- What most of zs reach: v is one of them; most are v, or above; fewer than most are above. -/
structure ReachOf (zs : List Int) (v : Int) : Prop where
  one : v ∈ zs
  at_ : mostD zs.length ≤ zs.countP (fun x => decide (v ≤ x))
  ab : zs.countP (fun x => decide (v < x)) < mostD zs.length
theorem countP_all {α : Type} (p : α → Bool) : ∀ (l : List α), (∀ x ∈ l, p x = true) → l.countP p = l.length
  | [], _ => rfl
  | x :: l, h => by rw [List.countP_cons_of_pos (h x (by simp)), countP_all p l fun y hy => h y (by simp [hy])]; rfl
theorem countP_none {α : Type} (p : α → Bool) : ∀ (l : List α), (∀ x ∈ l, p x = false) → l.countP p = 0
  | [], _ => rfl
  | x :: l, h => by rw [List.countP_cons_of_neg (by rw [h x (by simp)]; simp), countP_none p l fun y hy => h y (by simp [hy])]
theorem reach_of_sorted (s : List Int) (hs : s.Pairwise (· ≤ ·)) (k : Nat) (hk : k < s.length) : s.length - k ≤ s.countP (fun x => decide (s[k] ≤ x)) ∧ s.countP (fun x => decide (s[k] < x)) ≤ s.length - (k + 1) := by
  have hg := List.pairwise_iff_getElem.1 hs
  constructor
  · have e : s = s.take k ++ s.drop k := (List.take_append_drop k s).symm
    have h1 : (s.drop k).countP (fun x => decide (s[k] ≤ x)) = (s.drop k).length := countP_all _ _ fun x hx => by
      obtain ⟨i, hi, rfl⟩ := List.mem_iff_getElem.1 hx
      rw [List.getElem_drop]
      have hi' : k + i < s.length := by simpa [Nat.add_comm, Nat.lt_sub_iff_add_lt] using hi
      rcases Nat.eq_zero_or_pos i with h0 | h0
      · subst h0; simp
      · exact decide_eq_true (hg k (k + i) hk hi' (by omega))
    have h2 : s.countP (fun x => decide (s[k] ≤ x)) = (s.take k).countP (fun x => decide (s[k] ≤ x)) + (s.drop k).countP (fun x => decide (s[k] ≤ x)) := by
      rw [← List.countP_append, List.take_append_drop]
    rw [h2, h1, List.length_drop]
    omega
  · have h1 : (s.take (k + 1)).countP (fun x => decide (s[k] < x)) = 0 := countP_none _ _ fun x hx => by
      obtain ⟨i, hi, rfl⟩ := List.mem_iff_getElem.1 hx
      rw [List.getElem_take]
      have hi' : i < k + 1 := by rw [List.length_take] at hi; omega
      rcases Nat.lt_or_ge i k with h0 | h0
      · have := hg i k (by omega) hk h0
        simp; omega
      · have : i = k := by omega
        subst this; simp
    have h2 : s.countP (fun x => decide (s[k] < x)) = (s.take (k + 1)).countP (fun x => decide (s[k] < x)) + (s.drop (k + 1)).countP (fun x => decide (s[k] < x)) := by
      rw [← List.countP_append, List.take_append_drop]
    have h3 := List.countP_le_length (p := fun x => decide (s[k] < x)) (l := s.drop (k + 1))
    rw [h2, h1]
    rw [List.length_drop] at h3
    omega
theorem reach_sortD (zs : List Int) (h0 : zs ≠ []) : ReachOf zs (sortD zs).toArray[zs.length - mostD zs.length]! := by
  have hl0 : 0 < zs.length := List.length_pos_iff.2 h0
  have hm1 : 1 ≤ mostD zs.length ∧ mostD zs.length ≤ zs.length := by unfold mostD; rw [if_neg (by omega)]; omega
  have hk : zs.length - mostD zs.length < (sortD zs).length := by rw [sortD_len]; omega
  have hv : (sortD zs).toArray[zs.length - mostD zs.length]! = (sortD zs)[zs.length - mostD zs.length]'hk := by
    rw [getElem!_pos (sortD zs).toArray _ (by simpa using hk)]; simp
  obtain ⟨h1, h2⟩ := reach_of_sorted (sortD zs) (sortD_asc zs) _ hk
  rw [hv]
  generalize hz : (sortD zs)[zs.length - mostD zs.length]'hk = v at h1 h2
  rw [(sortD_perm zs).countP_eq, sortD_len] at h1 h2
  refine ⟨(sortD_perm zs).mem_iff.1 (hz ▸ List.getElem_mem hk), by omega, by omega⟩
end Go.Proofs.Ytcpaphcodhlggaa
