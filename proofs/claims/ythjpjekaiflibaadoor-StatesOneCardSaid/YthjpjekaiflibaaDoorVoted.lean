/- A map of whole numbers of 64 bits to bytes, as a function; what a promise's file is, as data. -/
import Derived.Test.YthjpjekaiflibaaDoorOpen2
import Derived.Test.YthjpjekaiflibaaDoorLives20
import Derived.Maps.OwnOps
import Derived.Maps.Views
import Derived.Maps.Ext
namespace Go.Proofs.YthjpjekaiflibaaDoor
open Go.RowKit Go.ChangeShapes Go.WideShapes Go.Maps
theorem keyed64 : Keyed Tryd.prog 22 := int_keyed Tryd.underlying22
theorem zero8 (w : World) : (zeroValue 5).run Tryd.prog w = .ok (.int .u8 0) w := by kernel_rfl
theorem wf64 {k : Nat} (hk : k < 18446744073709551616) : (Lit.int .u64 (k : Int)).wf = true := by
  have : IntKind.u64.min ≤ (k : Int) ∧ (k : Int) ≤ IntKind.u64.max := by
    have h1 : IntKind.u64.min = 0 := rfl
    have h2 : IntKind.u64.max = 18446744073709551615 := rfl
    omega
  simpa [Lit.wf] using this
theorem wf8 {k : Nat} (hk : k < 256) : (Lit.int .u8 (k : Int)).wf = true := by
  have : IntKind.u8.min ≤ (k : Int) ∧ (k : Int) ≤ IntKind.u8.max := by
    have h1 : IntKind.u8.min = 0 := rfl
    have h2 : IntKind.u8.max = 255 := rfl
    omega
  simpa [Lit.wf] using this
/-- The map at block mb has f's bytes. -/
def VotedAt (w : World) (mb n : Nat) (f : Nat → Nat) : Prop :=
  ∃ D : DataW Unit, w.ownsMap Tryd.prog 22 (plainElem Tryd.prog 5) mb n D ∧ Maps.IsMap D ∧ ∀ k : Nat, k < 18446744073709551616 → D.atKey (.int .u64 (k : Int)) (.lit (.int .u8 0)) = .lit (.int .u8 (f k : Int))
theorem VotedAt.fr {S : Nat → Prop} {w w' : World} {mb n : Nat} {f : Nat → Nat} (h : VotedAt w mb n f) (hF : Fr S w w') (hs : ¬ S mb) : VotedAt w' mb n f := by
  obtain ⟨D, ⟨es, clock, hb, h1, h2, h3⟩, hm, hf⟩ := h
  exact ⟨D, ⟨es, clock, hF.at hb hs, h1, h2, h3⟩, hm, hf⟩
theorem VotedAt.lt {w : World} {mb n : Nat} {f : Nat → Nat} (h : VotedAt w mb n f) : mb < w.heap.size := by
  obtain ⟨D, h, _⟩ := h
  exact h.lt
theorem VotedAt.made (w : World) : VotedAt (w.alloc (.map #[] 0)) w.heap.size 0 fun _ => 0 :=
  ⟨_, World.ownsMap_made _ _ _ _, ⟨_, rfl⟩, fun _ _ => WideAt.atKey_none (entries := []) _ fun p hp => by cases hp⟩
theorem VotedAt.look {w : World} {mb n : Nat} {f : Nat → Nat} (h : VotedAt w mb n f) (k : Nat) (hk : k < 18446744073709551616) : (Instr.lookup 87 (.map (some mb)) (.int .u64 (k : Int)) false).run Tryd.prog w = .ok (.int .u8 (f k : Int)) w := by
  obtain ⟨D, h, hm, hf⟩ := h
  obtain ⟨c, hrun, hat, _⟩ := h.lookup_int keyed64 Tryd.underlying87 Tryd.underlying5 (zero8 _) (keyOf_int_mk Tryd.underlying22 (wf64 hk))
  rw [hf k hk] at hat
  have : c = (f k : Int) := by
    simp only [DataW.lit.injEq, Lit.int.injEq, true_and] at hat
    exact hat.symm
  rw [hrun, this]
theorem VotedAt.store {w : World} {mb n : Nat} {f : Nat → Nat} (h : VotedAt w mb n f) (k v : Nat) (hk : k < 18446744073709551616) (hv : v < 256) (hn : n < maxLen) :
    ∃ w', (Instr.mapUpdate 87 (.map (some mb)) (.int .u64 (k : Int)) (.int .u8 (v : Int))).run Tryd.prog w = .ok () w' ∧ VotedAt w' mb (n + 1) (fun j => if j = k then v else f j) ∧ Fr (Is (some mb)) w w' := by
  obtain ⟨D, h, hm, hf⟩ := h
  obtain ⟨w', hrun, h1, h2⟩ := h.update keyed64 Tryd.underlying87 hn (keyOf_int_mk Tryd.underlying22 (wf64 hk)) (plainElem_int Tryd.underlying5 (wf8 hv))
  refine ⟨w', hrun, ⟨_, h1, ?_, fun j hj => ?_⟩, Fr.grownBy h2⟩
  · exact hm.put _ _
  · show _ = DataW.lit (.int .u8 ((if j = k then v else f j : Nat) : Int))
    by_cases e : j = k
    · subst e
      rw [if_pos rfl]
      exact Maps.atKey_put_same hm (show WideAt.IsKeyLit (.int .u64 (j : Int)) from trivial) _ _
    · rw [if_neg e, Maps.atKey_put_other (fun e2 => e (by simp only [Lit.int.injEq, true_and] at e2; omega))]
      exact hf j hj
/-- The disk has a promise's file, or none. -/
def FileIs (M : DM) (t v : Nat) : Prop := (M.files = [] ∧ t = 0 ∧ v = 0) ∨ M.files = [⟨nState, vowB t v, (vowB t v).length⟩]
theorem file_files {M M' : DM} {t v : Nat} (h : FileIs M t v) (e : M'.files = M.files) : FileIs M' t v := by
  unfold FileIs at h ⊢
  rw [e]
  exact h
theorem readD_vow (t v : Nat) (ht : t < 18446744073709551616) (hv : v < 256) : readD (vowB t v) = (t, v, true) := by
  have l1 := num_ten ht
  have l2 := num_ten (n := v) (by omega)
  have p1 := num_pos t
  have p2 := num_pos v
  have hg : getD (vowB t v) = (num t ++ num v, (vowB t v).length, 0) := by
    have := getD_frame (num t ++ num v) [] (by rw [List.length_append]; omega)
    rwa [List.append_nil] at this
  have t1 := take_num t ht (num v)
  have t2 : takeD (num v) = (v, (num v).length, 0) := by
    have := take_num v (by omega) []
    rwa [List.append_nil] at this
  unfold readD
  rw [hg]
  dsimp only
  rw [t1]
  dsimp only
  rw [if_neg (by simp), List.drop_left, t2]
  dsimp only
  rw [show v % 256 = v by omega, List.length_append]
  simp
  omega
/-- What Set makes of it. -/
theorem set_file {M M2 : DM} {t v t' v' : Nat} {e : Int} {t2 v2 : Nat} {l2 : Bool} (h : FileIs M t v) (ht' : t' < 18446744073709551616) (hv' : v' < 256) (hs : setD t v false M t' v' = (e, t2, v2, l2, M2)) :
    (e = 0 ∧ t2 = t' ∧ v2 = v' ∧ l2 = false ∧ mayD t v t' v' = true ∧ FileIs M2 t' v' ∧ M2.dead = M.dead) ∨ (e = 1 ∧ t2 = t ∧ v2 = v ∧ l2 = false ∧ M2 = M) ∨ (e = 17 ∧ t2 = t ∧ v2 = v ∧ l2 = true ∧ M2.files = M.files) := by
  unfold setD at hs
  rw [if_neg (by decide)] at hs
  split at hs
  · cases hs; exact .inr (.inl ⟨rfl, rfl, rfl, rfl, rfl⟩)
  · rename_i hm
    split at hs
    · rename_i h9
      obtain ⟨rfl, rfl⟩ := h9
      cases hs; exact .inl ⟨rfl, rfl, rfl, rfl, by simpa using hm, h, rfl⟩
    · have hput : ((M.put nState (vowB t' v')).1 = 0 ∧ FileIs (M.put nState (vowB t' v')).2 t' v' ∧ (M.put nState (vowB t' v')).2.dead = M.dead) ∨ ((M.put nState (vowB t' v')).1 ≠ 0 ∧ (M.put nState (vowB t' v')).2.files = M.files) := by
        obtain ⟨L, fu, dead⟩ := M
        have hl := vowB_length t' v' ht' (by omega)
        have hn : ¬ (1048576 : Int) < ((vowB t' v').length : Int) := by omega
        cases dead
        · rcases h with ⟨h1, rfl, rfl⟩ | h1
          · dsimp only at h1
            subst h1
            simp only [DM.put, DM.does, asked_state, if_true, DM.find, List.find?_nil]
            rw [if_neg (by decide), if_neg (by simp; omega)]
            split
            · exact .inr ⟨show (17 : Int) ≠ 0 by decide, rfl⟩
            · exact .inl ⟨rfl, .inr rfl, rfl⟩
          · dsimp only at h1
            subst h1
            simp only [DM.put, DM.does, asked_state, if_true, DM.find, List.find?_cons, decide_true]
            rw [if_neg hn]
            split
            · exact .inr ⟨show (17 : Int) ≠ 0 by decide, rfl⟩
            · exact .inl ⟨rfl, .inr (by simp [fput]), rfl⟩
        · simp only [DM.put, DM.does]
          rw [if_neg (by decide)]
          exact .inr ⟨show askedE true nState ≠ 0 by decide, rfl⟩
      split at hs
      · rename_i h0
        cases hs
        rcases hput with ⟨_, h1, h2⟩ | ⟨h1, _⟩
        · exact .inl ⟨rfl, rfl, rfl, rfl, by simpa using hm, h1, h2⟩
        · exact absurd h0 h1
      · rename_i h0
        cases hs
        rcases hput with ⟨h1, _⟩ | ⟨_, h1⟩
        · exact absurd h1 h0
        · exact .inr (.inr ⟨rfl, rfl, rfl, rfl, h1⟩)
theorem lift_file {M : DM} {t v : Nat} (h : FileIs M t v) (loss : List Int) : FileIs (M.lift loss) t v ∧ (M.lift loss).dead = false := by
  obtain ⟨L, fu, dead⟩ := M
  refine ⟨?_, rfl⟩
  rcases h with ⟨h1, rfl, rfl⟩ | h1
  · dsimp only at h1
    subst h1
    exact .inl ⟨by simp [DM.lift, sortL, liftAll], rfl, rfl⟩
  · dsimp only at h1
    subst h1
    refine .inr ?_
    have hk : liftN (more loss 0) ⟨nState, vowB t v, (vowB t v).length⟩ = (vowB t v).length := by simp only [liftN]; omega
    simp only [DM.lift, List.map_cons, List.map_nil, sortL, List.mergeSort_singleton, liftAll, if_true, liftF]
    rw [hk, List.take_length]
theorem read_file {M : DM} {t v : Nat} (h : FileIs M t v) (hd : M.dead = false) : (M.read nState = ([], 7) ∧ t = 0 ∧ v = 0) ∨ M.read nState = (vowB t v, 0) := by
  obtain ⟨L, fu, dead⟩ := M
  dsimp only at hd
  subst hd
  rcases h with ⟨h1, rfl, rfl⟩ | h1
  · dsimp only at h1
    subst h1
    exact .inl ⟨by simp [DM.read, asked_state, DM.find], rfl, rfl⟩
  · dsimp only at h1
    subst h1
    exact .inr (by simp [DM.read, asked_state, DM.find])
end Go.Proofs.YthjpjekaiflibaaDoor
