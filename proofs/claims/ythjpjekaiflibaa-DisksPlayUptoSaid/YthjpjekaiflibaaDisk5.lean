/- What becomes of a disk when one file is turned, or goes; size; Add, Sure, Put, Drop over the files as a list. -/
import Derived.Test.YthjpjekaiflibaaDisk4
namespace Go.Proofs.Ythjpjekaiflibaa
open Go.RowKit

def turned (rs : List Rep) (s : ByteArray) (r' : Rep) : List Rep := rs.map fun q => if q.f.name = s then r' else q

theorem DiskRep.names {w : World} {bd mb : Nat} {fuse : Int} {dead : Bool} {rs : List Rep} (h : DiskRep w bd mb fuse dead rs) : (rs.map (·.f.name)).Nodup := by
  have := h.map.nodup
  simpa [List.map_map, Function.comp_def] using this
/-- The list parts at the file of that name. -/
theorem split_at : ∀ {rs : List Rep} {s : ByteArray} {r : Rep} (_ : (rs.map (·.f.name)).Nodup) (_ : repOf rs s = some r), ∃ A B, rs = A ++ r :: B ∧ r.f.name = s ∧ (∀ q ∈ A, q.f.name ≠ s) ∧ (∀ q ∈ B, q.f.name ≠ s)
  | [], _, _, _, h => by simp [repOf] at h
  | q :: rs, s, r, hn, h => by
    simp only [List.map_cons, List.nodup_cons] at hn
    by_cases hq : q.f.name = s
    · simp [repOf, hq] at h
      subst h
      refine ⟨[], rs, rfl, hq, by simp, fun x hx e => hn.1 ?_⟩
      rw [hq, ← e]
      exact List.mem_map.2 ⟨x, hx, rfl⟩
    · have h' : repOf rs s = some r := by simpa [repOf, hq] using h
      obtain ⟨A, B, rfl, h1, h2, h3⟩ := split_at hn.2 h'
      refine ⟨q :: A, B, rfl, h1, ?_, h3⟩
      intro x hx
      rcases List.mem_cons.1 hx with rfl | hx
      · exact hq
      · exact h2 x hx
theorem turned_split {A B : List Rep} {s : ByteArray} {r r' : Rep} (hr : r.f.name = s) (hA : ∀ q ∈ A, q.f.name ≠ s) (hB : ∀ q ∈ B, q.f.name ≠ s) : turned (A ++ r :: B) s r' = A ++ r' :: B := by
  have e1 : A.map (fun q => if q.f.name = s then r' else q) = A := by
    conv => rhs; rw [← List.map_id A]
    exact List.map_congr_left fun q hq => by rw [if_neg (hA q hq)]; rfl
  have e2 : B.map (fun q => if q.f.name = s then r' else q) = B := by
    conv => rhs; rw [← List.map_id B]
    exact List.map_congr_left fun q hq => by rw [if_neg (hB q hq)]; rfl
  simp [turned, e1, e2, hr]
theorem own_perm (bd mb : Nat) (A B : List Rep) (r : Rep) : (own bd mb (A ++ r :: B)).Perm (r.g.toList ++ bd :: mb :: (A.flatMap Rep.blocks ++ r.fb :: B.flatMap Rep.blocks)) := by
  rw [List.perm_iff_count]
  intro a
  simp only [own, List.flatMap_append, List.flatMap_cons, Rep.blocks, List.count_append, List.count_cons, List.cons_append]
  omega
theorem DiskRep.update {w w' : World} {bd mb : Nat} {fuse : Int} {dead : Bool} {rs : List Rep} (h : DiskRep w bd mb fuse dead rs) {s : ByteArray} {r r' : Rep} (hr : repOf rs s = some r) (hf : FileAt w' r') (hn : r'.f.name = r.f.name) (hb : r'.fb = r.fb)
    (hF : Fr (fun k => k = r.fb ∨ r.g = some k) w w') (hg : r'.g = r.g ∨ New w r'.g) : DiskRep w' bd mb fuse dead (turned rs s r') := by
  obtain ⟨A, B, rfl, hs, hA, hB⟩ := split_at h.names hr
  rw [turned_split hs hA hB]
  have hp := own_perm bd mb A B r
  have hnd := hp.nodup_iff.1 h.nodup
  rw [List.nodup_append] at hnd
  obtain ⟨hn1, hn2, hn3⟩ := hnd
  have hrest : ∀ k, k ∈ bd :: mb :: (A.flatMap Rep.blocks ++ r.fb :: B.flatMap Rep.blocks) → k < w.heap.size := fun k hk => h.lt k (hp.symm.subset (List.mem_append_right _ hk))
  have hout : ∀ k, k ∈ bd :: mb :: (A.flatMap Rep.blocks ++ B.flatMap Rep.blocks) → ¬ (k = r.fb ∨ r.g = some k) := by
    intro k hk hc
    have hk' : k ∈ bd :: mb :: (A.flatMap Rep.blocks ++ r.fb :: B.flatMap Rep.blocks) := by
      simp only [List.mem_cons, List.mem_append] at hk ⊢
      rcases hk with h | h | h | h
      · exact .inl h
      · exact .inr (.inl h)
      · exact .inr (.inr (.inl h))
      · exact .inr (.inr (.inr (.inr h)))
    rcases hc with rfl | hc
    · have hp2 : (bd :: mb :: (A.flatMap Rep.blocks ++ r.fb :: B.flatMap Rep.blocks)).Perm (r.fb :: bd :: mb :: (A.flatMap Rep.blocks ++ B.flatMap Rep.blocks)) := by
        rw [List.perm_iff_count]; intro a; simp only [List.count_append, List.count_cons]; omega
      exact (List.nodup_cons.1 (hp2.nodup_iff.1 hn2)).1 hk
    · exact hn3 k (by simp [hc]) k hk' rfl
  refine ⟨hF.at h.box (hout _ (by simp)), ?_, ?_, ?_, h.low, h.high, by have := h.few; simpa using this⟩
  · have := h.map.fr hF (hout _ (by simp))
    simpa [hn, hb] using this
  · intro q hq
    have hcase : q = r' ∨ (q ∈ A ∨ q ∈ B) := by
      simp only [List.mem_append, List.mem_cons] at hq
      rcases hq with h | h | h
      · exact .inr (.inl h)
      · exact .inl h
      · exact .inr (.inr h)
    rcases hcase with rfl | hq'
    · exact hf
    · have hq2 : q ∈ A ++ r :: B := by
        simp only [List.mem_append, List.mem_cons]
        rcases hq' with h | h
        · exact .inl h
        · exact .inr (.inr h)
      refine (h.files q hq2).fr hF fun k hk => hout k ?_
      simp only [List.mem_cons, List.mem_append, List.mem_flatMap]
      rcases hq' with h | h
      · exact .inr (.inr (.inl ⟨q, h, hk⟩))
      · exact .inr (.inr (.inr ⟨q, h, hk⟩))
  · rw [(own_perm bd mb A B r').nodup_iff, hb, List.nodup_append]
    refine ⟨by cases r'.g <;> simp, hn2, fun a ha b hb e => ?_⟩
    subst e
    simp only [Option.mem_toList] at ha
    rcases hg with hg | hg
    · exact hn3 a (by rw [← hg]; simp [ha]) a hb rfl
    · have := hg a ha
      have := hrest a hb
      omega
theorem own_turned {w : World} {bd mb : Nat} {rs : List Rep} {s : ByteArray} {r r' : Rep} (hr : repOf rs s = some r) (hb : r'.fb = r.fb) (hg : r'.g = r.g ∨ New w r'.g) : ∀ k, k ∈ own bd mb (turned rs s r') → k ∈ own bd mb rs ∨ w.heap.size ≤ k := by
  intro k hk
  have hm := repOf_mem hr
  simp only [own, turned, List.mem_cons, List.mem_flatMap, List.mem_map] at hk ⊢
  rcases hk with h | h | ⟨q, ⟨q0, hq0, rfl⟩, hk⟩
  · exact .inl (.inl h)
  · exact .inl (.inr (.inl h))
  · split at hk
    · simp only [Rep.blocks, List.mem_cons, Option.mem_toList, hb] at hk
      rcases hk with hk | hk
      · exact .inl (.inr (.inr ⟨r, hm.1, by simp [Rep.blocks, hk]⟩))
      · rcases hg with hg | hg
        · exact .inl (.inr (.inr ⟨r, hm.1, by simp [Rep.blocks, ← hg, hk]⟩))
        · exact .inr (hg k hk)
    · exact .inl (.inr (.inr ⟨q0, hq0, hk⟩))
theorem filter_flatMap_sub {α β : Type} (p : α → Bool) (f : α → List β) : ∀ l : List α, ((l.filter p).flatMap f).Sublist (l.flatMap f)
  | [] => by simp
  | a :: l => by
    have := filter_flatMap_sub p f l
    by_cases h : p a = true
    · rw [List.filter_cons_of_pos h, List.flatMap_cons, List.flatMap_cons]
      exact (List.Sublist.refl _).append this
    · rw [List.filter_cons_of_neg h, List.flatMap_cons]
      exact this.trans (List.sublist_append_right _ _)
/-- A file goes. -/
theorem DiskRep.remove {w w' : World} {bd mb : Nat} {fuse : Int} {dead : Bool} {rs : List Rep} (h : DiskRep w bd mb fuse dead rs) (s : ByteArray) (hm : MapOf w' mb ((rs.map fun r => (r.f.name, r.fb)).filter fun q => decide (q.1 ≠ s)))
    (hF : Fr (Is (some mb)) w w') : DiskRep w' bd mb fuse dead (rs.filter fun q => decide (q.f.name ≠ s)) := by
  have hsub : (rs.filter fun q => decide (q.f.name ≠ s)).Sublist rs := List.filter_sublist
  have hnd := h.nodup
  have hn := h.nodup
  simp only [own, List.nodup_cons, List.mem_cons, not_or] at hn
  refine ⟨hF.at h.box (fun e => hn.1.1 (by cases e; rfl)), ?_, ?_, ?_, h.low, h.high, Nat.le_trans hsub.length_le h.few⟩
  · rw [List.filter_map] at hm
    exact hm
  · intro q hq
    have hq' := hsub.subset hq
    exact (h.files q hq').fr hF fun k hk e => hn.2.1 (by cases e; exact List.mem_flatMap.2 ⟨q, hq', hk⟩)
  · exact (((filter_flatMap_sub (fun q : Rep => decide (q.f.name ≠ s)) Rep.blocks rs).cons_cons mb).cons_cons bd).nodup hnd
theorem own_filter {bd mb : Nat} {rs : List Rep} (p : Rep → Bool) : ∀ k, k ∈ own bd mb (rs.filter p) → k ∈ own bd mb rs := by
  intro k hk
  simp only [own, List.mem_cons, List.mem_flatMap, List.mem_filter] at hk ⊢
  rcases hk with h | h | ⟨q, ⟨hq, _⟩, hk⟩
  · exact .inl h
  · exact .inr (.inl h)
  · exact .inr (.inr ⟨q, hq, hk⟩)

set_option maxRecDepth 100000 in
set_option maxHeartbeats 400000 in
theorem size_any {bd mb : Nat} {fuse : Int} {dead : Bool} {rs : List Rep} (s : ByteArray) (w : World) (h : DiskRep w bd mb fuse dead rs) :
    Calls Try.prog 23 #[.pointer (some ⟨bd, 0, none⟩), .string s] w fun e w' => e = .returned (.int .i64 (((repOf rs s).map fun r => (r.f.bytes.length : Int)).getD 0)) ∧ w = w' := by
  have c0 := h.c0
  have hl := h.map.look uMap uStr (zPf w) s
  rw [look_rep] at hl
  cases hr : repOf rs s with
  | none =>
    rw [hr] at hl
    clear hr h
    go_enter Try.func23, Try.ntmps23
    go_wp2_with (go_at_call 21; refine (there_at _ _ _ c0).mono ?_; rintro e w' ⟨rfl, rfl⟩)
    go_ret
    exact ⟨rfl, rfl⟩
  | some r =>
    rw [hr] at hl
    simp only [ptr] at hl
    have hf := h.files r (repOf_mem hr).1
    have c3 := hf.c0
    obtain ⟨p, c, hv, _⟩ := Sl.form hf.by_
    rw [hv] at c3
    clear hr h hf hv
    go_enter Try.func23, Try.ntmps23
    go_wp2_with (go_at_call 21; refine (there_at _ _ _ c0).mono ?_; rintro e w' ⟨rfl, rfl⟩)
    go_ret
    exact ⟨rfl, rfl⟩
theorem eg_add1 : ∀ args w, (callFunc 24 args).run Try.prog w = .ok (.enter 24 args) w := by
  intro args w
  kernel_rfl
end Go.Proofs.Ythjpjekaiflibaa
