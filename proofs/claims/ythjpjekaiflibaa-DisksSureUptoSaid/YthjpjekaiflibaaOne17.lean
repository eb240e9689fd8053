/- A disk of one file at most: what each call makes of it. No program in sight. -/
import Derived.Test.YthjpjekaiflibaaFuse17
namespace Go.Proofs.Ythjpjekaiflibaa
/-- The disk has no file but f; its bytes, those that are sure. -/
def One (M : DM) (a s : List UInt8) : Prop := (M.files = [] ∧ a = [] ∧ s = []) ∨ ∃ n, M.files = [⟨nF, a, n⟩] ∧ n ≤ a.length ∧ s = a.take n
theorem one_files {M M' : DM} {a s : List UInt8} (h : One M a s) (e : M'.files = M.files) : One M' a s := by
  unfold One at h ⊢
  rw [e]
  exact h
theorem one_add {M M' : DM} {a s b : List UInt8} {c : Int} (h : One M a s) (e : M.add nF b = (c, M')) : (c = 0 ∧ One M' (a ++ b) s) ∨ (c ≠ 0 ∧ One M' a s) := by
  obtain ⟨L, fu, dead⟩ := M
  cases dead
  · rcases h with ⟨h1, rfl, rfl⟩ | ⟨n, h1, h2, rfl⟩
    · dsimp only at h1
      subst h1
      simp only [DM.add, DM.does, asked_f, if_true, DM.find, DM.size, List.find?_nil, Option.map_none, Option.getD_none] at e
      rw [if_neg (by decide)] at e
      split at e
      · cases e; exact .inr ⟨by decide, .inl ⟨rfl, rfl, rfl⟩⟩
      · split at e
        · cases e; exact .inr ⟨by decide, .inl ⟨rfl, rfl, rfl⟩⟩
        · cases e; exact .inl ⟨rfl, .inr ⟨0, by simp, by simp, by simp⟩⟩
    · dsimp only at h1
      subst h1
      simp only [DM.add, DM.does, asked_f, if_true, DM.find, DM.size, List.find?_cons, decide_true, Option.map_some, Option.getD_some] at e
      split at e
      · cases e; exact .inr ⟨by decide, .inr ⟨n, rfl, h2, rfl⟩⟩
      · split at e
        · cases e; exact .inr ⟨by decide, .inr ⟨n, rfl, h2, rfl⟩⟩
        · cases e; exact .inl ⟨rfl, .inr ⟨n, by simp [fput], by simp; omega, by rw [List.take_append_of_le_length h2]⟩⟩
  · simp only [DM.add, DM.does, asked_dead] at e
    rw [if_neg (by decide)] at e
    cases e
    exact .inr ⟨by decide, h⟩
theorem one_sure {M M' : DM} {a s : List UInt8} {c : Int} (h : One M a s) (e : M.sure nF = (c, M')) : (c = 0 ∧ One M' a a) ∨ (c ≠ 0 ∧ One M' a s) := by
  obtain ⟨L, fu, dead⟩ := M
  cases dead
  · rcases h with ⟨h1, rfl, rfl⟩ | ⟨n, h1, h2, rfl⟩
    · dsimp only at h1
      subst h1
      simp only [DM.sure, DM.does, asked_f, if_true, DM.find, List.find?_nil] at e
      cases e; exact .inr ⟨by decide, .inl ⟨rfl, rfl, rfl⟩⟩
    · dsimp only at h1
      subst h1
      simp only [DM.sure, DM.does, asked_f, if_true, DM.find, List.find?_cons, decide_true] at e
      rw [if_neg (by decide)] at e
      split at e
      · cases e; exact .inr ⟨by decide, .inr ⟨n, rfl, h2, rfl⟩⟩
      · cases e; exact .inl ⟨rfl, .inr ⟨a.length, by simp [fput], by simp, by simp⟩⟩
  · simp only [DM.sure, DM.does, asked_dead] at e
    rw [if_neg (by decide)] at e
    cases e
    exact .inr ⟨by decide, h⟩
theorem one_put {M M' : DM} {a s b : List UInt8} {c : Int} (h : One M a s) (e : M.put nF b = (c, M')) : (c = 0 ∧ One M' b b) ∨ (c ≠ 0 ∧ One M' a s) := by
  obtain ⟨L, fu, dead⟩ := M
  cases dead
  · rcases h with ⟨h1, rfl, rfl⟩ | ⟨n, h1, h2, rfl⟩
    · dsimp only at h1
      subst h1
      simp only [DM.put, DM.does, asked_f, if_true, DM.find, List.find?_nil] at e
      rw [if_neg (by decide)] at e
      split at e
      · cases e; exact .inr ⟨by decide, .inl ⟨rfl, rfl, rfl⟩⟩
      · split at e
        · cases e; exact .inr ⟨by decide, .inl ⟨rfl, rfl, rfl⟩⟩
        · cases e; exact .inl ⟨rfl, .inr ⟨b.length, by simp, by simp, by simp⟩⟩
    · dsimp only at h1
      subst h1
      simp only [DM.put, DM.does, asked_f, if_true, DM.find, List.find?_cons, decide_true] at e
      split at e
      · cases e; exact .inr ⟨by decide, .inr ⟨n, rfl, h2, rfl⟩⟩
      · split at e
        · cases e; exact .inr ⟨by decide, .inr ⟨n, rfl, h2, rfl⟩⟩
        · cases e; exact .inl ⟨rfl, .inr ⟨b.length, by simp [fput], by simp, by simp⟩⟩
  · simp only [DM.put, DM.does, asked_dead] at e
    rw [if_neg (by decide)] at e
    cases e
    exact .inr ⟨by decide, h⟩
theorem one_drop {M M' : DM} {a s : List UInt8} {c : Int} (h : One M a s) (e : M.drop nF = (c, M')) : (c = 0 ∧ One M' [] []) ∨ (c ≠ 0 ∧ One M' a s) := by
  obtain ⟨L, fu, dead⟩ := M
  cases dead
  · rcases h with ⟨h1, rfl, rfl⟩ | ⟨n, h1, h2, rfl⟩
    · dsimp only at h1
      subst h1
      simp only [DM.drop, asked_f, if_true, DM.find, List.find?_nil] at e
      cases e; exact .inr ⟨by decide, .inl ⟨rfl, rfl, rfl⟩⟩
    · dsimp only at h1
      subst h1
      simp only [DM.drop, asked_f, if_true, DM.find, List.find?_cons, decide_true] at e
      split at e
      · cases e; exact .inr ⟨by decide, .inr ⟨n, rfl, h2, rfl⟩⟩
      · cases e; exact .inl ⟨rfl, .inl ⟨by simp, rfl, rfl⟩⟩
  · simp only [DM.drop, asked_dead] at e
    rw [if_neg (by decide)] at e
    cases e
    exact .inr ⟨by decide, h⟩
theorem one_read {M : DM} {a s : List UInt8} (h : One M a s) (hd : M.dead = false) : (M.read nF = ([], 7) ∧ a = [] ∧ s = [] ∧ M.files = []) ∨ M.read nF = (a, 0) := by
  obtain ⟨L, fu, dead⟩ := M
  dsimp only at hd
  subst hd
  rcases h with ⟨h1, rfl, rfl⟩ | ⟨n, h1, h2, rfl⟩
  · dsimp only at h1
    subst h1
    exact .inl ⟨by simp [DM.read, asked_f, DM.find], rfl, rfl, rfl⟩
  · dsimp only at h1
    subst h1
    exact .inr (by simp [DM.read, asked_f, DM.find])
/-- Behind a lift: a beginning is left, all of it sure, and all that was sure is in it. -/
theorem one_lift {M : DM} {a s : List UInt8} (h : One M a s) (loss : List Int) : ∃ a', One (M.lift loss) a' a' ∧ (M.lift loss).dead = false ∧ s.length ≤ a'.length ∧ a'.length ≤ a.length ∧ a' = a.take a'.length := by
  obtain ⟨L, fu, dead⟩ := M
  rcases h with ⟨h1, rfl, rfl⟩ | ⟨n, h1, h2, rfl⟩
  · dsimp only at h1
    subst h1
    exact ⟨[], .inl ⟨by simp [DM.lift, sortL, liftAll], rfl, rfl⟩, rfl, by simp, by simp, by simp⟩
  · dsimp only at h1
    subst h1
    have hk : liftN (more loss 0) ⟨nF, a, n⟩ ≤ a.length := by simp only [liftN]; omega
    have hn : n ≤ liftN (more loss 0) ⟨nF, a, n⟩ := by simp only [liftN]; omega
    have hl : (a.take (liftN (more loss 0) ⟨nF, a, n⟩)).length = liftN (more loss 0) ⟨nF, a, n⟩ := by simp; omega
    refine ⟨a.take (liftN (more loss 0) ⟨nF, a, n⟩), .inr ⟨liftN (more loss 0) ⟨nF, a, n⟩, ?_, by omega, ?_⟩, rfl, ?_, by omega, by rw [hl]⟩
    · simp only [DM.lift, List.map_cons, List.map_nil, sortL, List.mergeSort_singleton, liftAll, if_true, liftF]
    · rw [List.take_take, Nat.min_self]
    · rw [hl]; simp; omega
end Go.Proofs.Ythjpjekaiflibaa
