/- slices.Sort at []string sorts: the shelf's contract, in the words of Names. -/
import Derived.Test.YthjpjekaiflibaaNames
import Derived.Test.YthjpjekaiflibaaSort
namespace Go.Proofs.Ythjpjekaiflibaa
open Go.RowKit Go.Sort
theorem sortS : SortS := by
  intro R v g ss w h hm hR
  have e0 : sortL [] = [] := by simp [sortL]
  have hl := Sl.len_le h
  unfold maxLen at hl
  obtain ⟨hlen, ⟨rfl, rfl, h0⟩ | ⟨b, o, cap, cur, rfl, rfl, hb, h1, h2, h3, h4⟩⟩ := h
  · have hss : ss = [] := List.eq_nil_of_length_eq_zero h0
    subst hss
    refine (Try.slices_Sort_string_none none 0 w).mono ?_
    rintro e w' ⟨rfl, rfl⟩
    exact hR _ (by rw [e0]; exact Sl.nil _ _ _) (Fr.refl _ _)
  · by_cases hc : ss.length = 0
    · have hss : ss = [] := List.eq_nil_of_length_eq_zero hc
      subst hss
      refine (Try.slices_Sort_string_none (some ⟨b, o, none⟩) cap w).mono ?_
      rintro e w' ⟨rfl, rfl⟩
      exact hR _ (by rw [e0]; exact ⟨by simp, .inr ⟨b, o, cap, cur, rfl, rfl, hb, by simp, h2, h3, by simp⟩⟩) (Fr.refl _ _)
    · refine (Try.slices_Sort_string b o cap ss w (holds_Sl encStr ss hb h4) (block_lt hb) (by omega)).mono ?_
      rintro e w' ⟨rfl, n, os, rfl⟩
      have hsl : (sortL ss).length = ss.length := by simp [sortL]
      have := Sl.sorted encStr (n := n) (os := os) (sortL ss) hsl hb h1 h2 h3
      exact hR _ (by have h := this.1; unfold St; rw [hsl]; exact h) this.2
end Go.Proofs.Ythjpjekaiflibaa
