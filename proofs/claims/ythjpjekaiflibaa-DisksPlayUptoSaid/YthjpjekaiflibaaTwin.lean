/- The two disks as data answer alike. No program in sight. -/
import Derived.Test.YthjpjekaiflibaaRef10
namespace Go.Proofs.Ythjpjekaiflibaa
structure Twin (M : DM) (R : RM) : Prop where
  perm : R.files.Perm M.files
  sorted : Sorted R.files
  dead : R.dead = M.dead
  fuse : M.fuse = if R.burns = true then R.fuse else -1
  fz : 0 ≤ R.fuse
  most : ∀ f ∈ R.files, f.bytes.length ≤ 1048576 ∧ f.sure ≤ f.bytes.length
theorem Twin.find {M : DM} {R : RM} (h : Twin M R) (s : ByteArray) : M.find s = R.find s := by
  unfold DM.find RM.find
  cases e : R.files.find? (fun f => decide (f.name = s)) with
  | none =>
    rw [find_none] at e ⊢
    exact fun f hf => e f (h.perm.mem_iff.2 hf)
  | some f =>
    have h1 := List.mem_of_find?_eq_some e
    have h2 := List.find?_some e
    cases e2 : M.files.find? (fun f => decide (f.name = s)) with
    | none => exact absurd (by simpa using h2) (find_none.1 e2 f (h.perm.mem_iff.1 h1))
    | some g =>
      have k1 := h.perm.mem_iff.2 (List.mem_of_find?_eq_some e2)
      have k2 := List.find?_some e2
      have a : f.name = s := by simpa using h2
      have b : g.name = s := by simpa using k2
      rw [h.sorted.unique k1 h1 (by rw [a, b])]
theorem Twin.burn {M : DM} {R : RM} (h : Twin M R) : (M.fuse = 0 ↔ burnOk R.burns R.fuse = false) ∧ (burnOk R.burns R.fuse = true → burnt M.fuse = if R.burns = true then rfuse R.burns R.fuse else -1) ∧ 0 ≤ rfuse R.burns R.fuse := by
  have h1 := h.fuse
  have h2 := h.fz
  cases hb : R.burns
  · rw [hb] at h1
    simp [burnOk, rfuse, h1, burnt, h2]
  · rw [hb] at h1
    simp only [if_true] at h1
    refine ⟨by simp [burnOk, h1], fun h3 => ?_, ?_⟩
    · have h4 : R.fuse ≠ 0 := by simpa [burnOk] using h3
      simp [rfuse, h1, burnt, h4]
      omega
    · unfold rfuse
      split <;> omega
theorem ins_map {L : List File} {f : File} (h : ∃ q ∈ L, q.name = f.name) : insL L f = L.map fun q => if q.name = f.name then f else q := by
  obtain ⟨q, hq, e⟩ := h
  unfold insL
  rw [if_pos (List.any_eq_true.2 ⟨q, hq, by simpa using e⟩)]
theorem ins_perm {L : List File} {f : File} (h : ∀ q ∈ L, q.name ≠ f.name) : (insL L f).Perm (f :: L) := by
  unfold insL
  rw [if_neg (fun ha => by obtain ⟨q, hq, e⟩ := List.any_eq_true.1 ha; exact h q hq (by simpa using e))]
  refine List.perm_middle.trans ?_
  rw [List.takeWhile_append_dropWhile]
theorem ins_most {L : List File} {f : File} {P : File → Prop} (h : ∀ q ∈ L, P q) (hf : P f) : ∀ q ∈ insL L f, P q := by
  intro q hq
  by_cases hex : ∃ q ∈ L, q.name = f.name
  · rw [ins_map hex] at hq
    obtain ⟨p, hp, rfl⟩ := List.mem_map.1 hq
    split
    · exact hf
    · exact h p hp
  · have hq := (ins_perm fun q hq e => hex ⟨q, hq, e⟩).mem_iff.1 hq
    rcases List.mem_cons.1 hq with rfl | hq
    · exact hf
    · exact h q hq
/-- A doing and set. -/
theorem twin_does {M : DM} {R : RM} (h : Twin M R) (s : ByteArray) (hs : askedE M.dead s = 0) (size : Int) (made : Bool) (how : File → File) (bs : List UInt8) (sure : Nat) (hsure : sure ≤ bs.length)
    (hnone : M.find s = none → made = true) (hhow : how ((M.find s).getD ⟨s, [], 0⟩) = ⟨s, bs, sure⟩) (hsize : 1048576 < size ↔ 1048576 < bs.length) :
    (M.does s size made how).1 = (R.set s bs sure).1 ∧ Twin (M.does s size made how).2 (R.set s bs sure).2 := by
  obtain ⟨hb1, hb2, hb3⟩ := h.burn
  have hlen : R.files.length = M.files.length := h.perm.length_eq
  have hlast : bs.length ≤ 1048576 → burnOk R.burns R.fuse = true → ∀ L, (insL R.files ⟨s, bs, sure⟩).Perm L → Twin ⟨L, burnt M.fuse, M.dead⟩ { R with files := insL R.files ⟨s, bs, sure⟩, fuse := rfuse R.burns R.fuse } := fun h1 h2 L hp =>
    ⟨hp, sorted_ins h.sorted _, h.dead, hb2 h2, hb3, ins_most h.most ⟨h1, hsure⟩⟩
  unfold DM.does RM.set
  rw [if_pos hs, ← h.find]
  cases e : M.find s with
  | none =>
    have hno : ∀ q ∈ M.files, q.name ≠ s := find_none.1 e
    have hno2 : ∀ q ∈ R.files, q.name ≠ s := fun q hq => hno q (h.perm.mem_iff.1 hq)
    rw [e] at hhow
    simp only [Option.getD_none] at hhow
    dsimp only
    rw [if_neg (by rw [hnone e]; simp), hhow]
    by_cases hlim : 1048576 < size ∨ 16 ≤ M.files.length
    · have hR : 1048576 < bs.length ∨ (none : Option File) = none ∧ 16 ≤ R.files.length := by
        rw [hlen]
        rcases hlim with h1 | h1
        · exact .inl (hsize.1 h1)
        · exact .inr ⟨rfl, h1⟩
      rw [if_pos hlim, if_pos hR]
      exact ⟨rfl, h⟩
    · have hR : ¬ (1048576 < bs.length ∨ (none : Option File) = none ∧ 16 ≤ R.files.length) := by
        rw [hlen]
        rintro (h1 | ⟨_, h1⟩)
        · exact hlim (.inl (hsize.2 h1))
        · exact hlim (.inr h1)
      rw [if_neg hlim, if_neg hR]
      by_cases hfu : M.fuse = 0
      · rw [if_pos hfu, if_pos (hb1.1 hfu)]
        exact ⟨rfl, h.perm, h.sorted, rfl, h.fuse, h.fz, h.most⟩
      · have hbu : burnOk R.burns R.fuse = true := by
          cases hh : burnOk R.burns R.fuse
          · exact absurd (hb1.2 hh) hfu
          · rfl
        rw [if_neg hfu, if_neg (show ¬ burnOk R.burns R.fuse = false by rw [hbu]; simp)]
        refine ⟨rfl, hlast (Nat.le_of_not_lt fun h1 => hlim (.inl (hsize.2 h1))) hbu _ ?_⟩
        refine (ins_perm hno2).trans ?_
        exact ((h.perm.cons _).trans (List.perm_append_singleton _ _).symm)
  | some f =>
    have hmem := List.mem_of_find?_eq_some e
    have hnm : f.name = s := by simpa using List.find?_some e
    rw [e] at hhow
    simp only [Option.getD_some] at hhow
    dsimp only
    rw [hhow]
    by_cases hlim : 1048576 < size
    · have hR : 1048576 < bs.length ∨ some f = none ∧ 16 ≤ R.files.length := .inl (hsize.1 hlim)
      rw [if_pos hlim, if_pos hR]
      exact ⟨rfl, h⟩
    · have hR : ¬ (1048576 < bs.length ∨ some f = none ∧ 16 ≤ R.files.length) := by
        rintro (h1 | ⟨h1, _⟩)
        · exact hlim (hsize.2 h1)
        · cases h1
      rw [if_neg hlim, if_neg hR]
      by_cases hfu : M.fuse = 0
      · rw [if_pos hfu, if_pos (hb1.1 hfu)]
        exact ⟨rfl, h.perm, h.sorted, rfl, h.fuse, h.fz, h.most⟩
      · have hbu : burnOk R.burns R.fuse = true := by
          cases hh : burnOk R.burns R.fuse
          · exact absurd (hb1.2 hh) hfu
          · rfl
        rw [if_neg hfu, if_neg (show ¬ burnOk R.burns R.fuse = false by rw [hbu]; simp)]
        refine ⟨rfl, hlast (Nat.le_of_not_lt fun h1 => hlim (hsize.2 h1)) hbu _ ?_⟩
        rw [ins_map ⟨f, h.perm.mem_iff.2 hmem, hnm⟩]
        exact h.perm.map _
theorem twin_asked {M : DM} {R : RM} (h : Twin M R) (s : ByteArray) : askedE R.dead s = askedE M.dead s := by rw [h.dead]
theorem file_eta (f : File) : f = ⟨f.name, f.bytes, f.sure⟩ := rfl
theorem found_name {M : DM} {s : ByteArray} {f : File} (e : M.find s = some f) : f.name = s := by simpa using List.find?_some e
theorem twin_add {M : DM} {R : RM} (h : Twin M R) (s : ByteArray) (bs : List UInt8) : (M.add s bs).1 = (R.add s bs).1 ∧ Twin (M.add s bs).2 (R.add s bs).2 := by
  unfold DM.add RM.add
  rw [twin_asked h]
  by_cases ha : askedE M.dead s = 0
  · rw [if_pos ha, ← h.find]
    cases e : M.find s with
    | none =>
      refine twin_does h s ha _ _ _ bs 0 (Nat.zero_le _) (fun _ => rfl) (by rw [e]; rfl) ?_
      simp only [DM.size, e, Option.map_none, Option.getD_none]
      omega
    | some f =>
      have hm := h.most f (h.perm.mem_iff.2 (List.mem_of_find?_eq_some e))
      have hn := found_name e
      refine twin_does h s ha _ _ _ (f.bytes ++ bs) f.sure (by rw [List.length_append]; omega) (fun _ => rfl) (by rw [e]; simp [hn]) ?_
      simp only [DM.size, e, Option.map_some, Option.getD_some, List.length_append]
      omega
  · rw [if_neg ha]
    unfold DM.does
    rw [if_neg ha]
    exact ⟨rfl, h⟩
theorem twin_put {M : DM} {R : RM} (h : Twin M R) (s : ByteArray) (bs : List UInt8) : (M.put s bs).1 = (R.put s bs).1 ∧ Twin (M.put s bs).2 (R.put s bs).2 := by
  unfold DM.put RM.put
  rw [twin_asked h]
  by_cases ha : askedE M.dead s = 0
  · rw [if_pos ha]
    refine twin_does h s ha _ _ _ bs bs.length (Nat.le_refl _) (fun _ => rfl) ?_ (by omega)
    cases e : M.find s with
    | none => rfl
    | some f => have hn := found_name e; simp [hn]
  · rw [if_neg ha]
    unfold DM.does
    rw [if_neg ha]
    exact ⟨rfl, h⟩
theorem twin_sure {M : DM} {R : RM} (h : Twin M R) (s : ByteArray) : (M.sure s).1 = (R.sure s).1 ∧ Twin (M.sure s).2 (R.sure s).2 := by
  unfold DM.sure RM.sure
  rw [twin_asked h]
  by_cases ha : askedE M.dead s = 0
  · rw [if_pos ha, ← h.find]
    cases e : M.find s with
    | none =>
      dsimp only
      unfold DM.does
      rw [if_pos ha, e]
      exact ⟨rfl, h⟩
    | some f =>
      have hm := h.most f (h.perm.mem_iff.2 (List.mem_of_find?_eq_some e))
      have hn := found_name e
      refine twin_does h s ha _ _ _ f.bytes f.bytes.length (Nat.le_refl _) (fun h9 => by rw [e] at h9; cases h9) (by rw [e]; simp [hn]) ?_
      omega
  · rw [if_neg ha]
    unfold DM.does
    rw [if_neg ha]
    exact ⟨rfl, h⟩
theorem twin_drop {M : DM} {R : RM} (h : Twin M R) (s : ByteArray) : (M.drop s).1 = (R.drop s).1 ∧ Twin (M.drop s).2 (R.drop s).2 := by
  obtain ⟨hb1, hb2, hb3⟩ := h.burn
  unfold DM.drop RM.drop
  rw [twin_asked h]
  by_cases ha : askedE M.dead s = 0
  · rw [if_pos ha, if_pos ha, ← h.find]
    cases e : M.find s with
    | none => exact ⟨rfl, h⟩
    | some f =>
      dsimp only
      by_cases hfu : M.fuse = 0
      · rw [if_pos hfu, if_pos (hb1.1 hfu)]
        exact ⟨rfl, h.perm, h.sorted, rfl, h.fuse, h.fz, h.most⟩
      · have hbu : burnOk R.burns R.fuse = true := by
          cases hh : burnOk R.burns R.fuse
          · exact absurd (hb1.2 hh) hfu
          · rfl
        rw [if_neg hfu, if_neg (show ¬ burnOk R.burns R.fuse = false by rw [hbu]; simp)]
        exact ⟨rfl, h.perm.filter _, h.sorted.filter _, h.dead, hb2 hbu, hb3, fun q hq => h.most q ((List.mem_filter.1 hq).1)⟩
  · rw [if_neg ha, if_neg ha]
    exact ⟨rfl, h⟩
theorem twin_read {M : DM} {R : RM} (h : Twin M R) (s : ByteArray) : M.read s = R.read s := by
  unfold DM.read RM.read
  rw [twin_asked h, h.find]
  cases R.find s <;> rfl
theorem twin_fuse {M : DM} {R : RM} (h : Twin M R) (n : Int) : Twin (M.setFuse n) (R.setFuse n) :=
  ⟨h.perm, h.sorted, h.dead, by simp [DM.setFuse, RM.setFuse], by simp only [RM.setFuse]; omega, h.most⟩
theorem liftAll_perm (loss : List Int) : ∀ (RL : List File) (i : Nat) (P L : List File), L.Perm (P ++ RL) → (∀ q ∈ P, ∀ r ∈ RL, q.name ≠ r.name) → RL.Pairwise (fun a b => a.name ≠ b.name) → (liftAll loss i (RL.map fun f => f.name.data.toList) L).Perm (P ++ liftR loss i RL)
  | [], _, P, L, h, _, _ => by simpa [liftAll, liftR] using h
  | f :: r, i, P, L, h, hP, hd => by
    obtain ⟨h1, h2⟩ := List.pairwise_cons.1 hd
    have key : (L.map fun q => if q.name.data.toList = f.name.data.toList then liftF (more loss i) q else q).Perm ((P ++ [liftF (more loss i) f]) ++ r) := by
      refine (h.map _).trans ?_
      have hne : ∀ q : File, q.name ≠ f.name → (if q.name.data.toList = f.name.data.toList then liftF (more loss i) q else q) = q := fun q hq => if_neg fun e => hq (ByteArray.ext (Array.ext' e))
      have e1 : P.map (fun q => if q.name.data.toList = f.name.data.toList then liftF (more loss i) q else q) = P := by
        conv => rhs; rw [← List.map_id P]
        exact List.map_congr_left fun q hq => hne q (hP q hq f (by simp))
      have e2 : r.map (fun q => if q.name.data.toList = f.name.data.toList then liftF (more loss i) q else q) = r := by
        conv => rhs; rw [← List.map_id r]
        exact List.map_congr_left fun q hq => hne q fun e => h1 q hq e.symm
      rw [List.map_append, List.map_cons, e1, e2, if_pos rfl, List.append_assoc]
      exact List.Perm.refl _
    have := liftAll_perm loss r (i + 1) (P ++ [liftF (more loss i) f]) _ key (fun q hq x hx => by
      rcases List.mem_append.1 hq with hq | hq
      · exact hP q hq x (by simp [hx])
      · rw [List.mem_singleton] at hq
        subst hq
        exact h1 x hx) h2
    rw [List.map_cons, liftAll, liftR]
    simpa using this
theorem less_lt : ∀ {a b : List UInt8}, Op.bytesLess a b = true → a < b
  | [], [], h => by simp [Op.bytesLess] at h
  | [], _ :: _, _ => List.nil_lt_cons _ _
  | _ :: _, [], h => by simp [Op.bytesLess] at h
  | a :: x, b :: y, h => by
    simp only [Op.bytesLess, Bool.or_eq_true, Bool.and_eq_true, decide_eq_true_eq, beq_iff_eq] at h
    rw [List.cons_lt_cons_iff]
    rcases h with h | ⟨e, h⟩
    · exact .inl h
    · exact .inr ⟨e, less_lt h⟩
theorem twin_lift {M : DM} {R : RM} (h : Twin M R) (loss : List Int) : Twin (M.lift loss) (R.lift loss) := by
  have hd : R.files.Pairwise (fun a b => a.name ≠ b.name) := h.sorted.imp fun {a b} hab e => by
    unfold nless at hab
    rw [e, bytesLess_irrefl] at hab
    cases hab
  have hs : sortL (M.files.map fun f => f.name.data.toList) = R.files.map fun f => f.name.data.toList := by
    unfold sortL
    have hp : (M.files.map fun f => f.name.data.toList).Perm (R.files.map fun f => f.name.data.toList) := h.perm.symm.map _
    have hr : (R.files.map fun f => f.name.data.toList).Pairwise fun x y => x ≤ y := by
      rw [List.pairwise_map]
      refine h.sorted.imp fun {a b} hab => ?_
      unfold nless at hab
      rw [Go.ByteArray.toList_eq, Go.ByteArray.toList_eq] at hab
      exact Std.le_of_lt (less_lt hab)
    have h1 := mergeSort_of_perm hp
    have h2 : (R.files.map fun f => f.name.data.toList).mergeSort (fun x y => decide (x ≤ y)) = R.files.map fun f => f.name.data.toList := List.mergeSort_of_pairwise (hr.imp fun h => by simpa using h)
    exact (show _ = (R.files.map fun f => f.name.data.toList).mergeSort (fun x y => decide (x ≤ y)) from h1).trans h2
  refine ⟨?_, ?_, rfl, by simp [DM.lift, RM.lift], by simp [RM.lift], ?_⟩
  · simp only [DM.lift, RM.lift]
    rw [hs]
    have := liftAll_perm loss R.files 0 [] M.files (by simpa using h.perm.symm) (fun q hq => by cases hq) hd
    exact (by simpa using this : (liftAll loss 0 (R.files.map fun f => f.name.data.toList) M.files).Perm (liftR loss 0 R.files)).symm
  · show Sorted (liftR loss 0 R.files)
    rw [sorted_names, liftR_names, ← sorted_names]
    exact h.sorted
  · intro q hq
    obtain ⟨j, hj, e⟩ := List.mem_iff_getElem.1 (show q ∈ liftR loss 0 R.files from hq)
    have hj0 : j < R.files.length := by rw [liftR_length] at hj; exact hj
    have h2 := liftR_at loss R.files 0 j hj0
    rw [List.getElem?_eq_getElem hj, e] at h2
    rw [Option.some.inj h2]
    have hm := h.most _ (List.getElem_mem hj0)
    simp only [liftF, List.length_take, liftN]
    omega
end Go.Proofs.Ythjpjekaiflibaa
