/- The document's disk as data; set, said of it. -/
import Derived.Test.YthjpjekaiflibaaRef5
namespace Go.Proofs.Ythjpjekaiflibaa
open Go.RowKit
structure RM where
  files : List File
  burns : Bool
  fuse : Int
  dead : Bool
def nless (f g : File) : Prop := Op.bytesLess f.name.toList g.name.toList = true
def RM.find (R : RM) (s : ByteArray) : Option File := R.files.find? fun f => decide (f.name = s)
/-- A file in its place. -/
def insL (L : List File) (f : File) : List File :=
  if L.any (fun q => decide (q.name = f.name)) then L.map fun q => if q.name = f.name then f else q
  else L.takeWhile (fun q => Op.bytesLess q.name.toList f.name.toList) ++ f :: L.dropWhile (fun q => Op.bytesLess q.name.toList f.name.toList)
def RM.set (R : RM) (s : ByteArray) (bs : List UInt8) (sure : Nat) : Int × RM :=
  if 1048576 < bs.length ∨ (R.find s = none ∧ 16 ≤ R.files.length) then (3, R)
  else if burnOk R.burns R.fuse = false then (17, { R with dead := true })
  else (0, { R with files := insL R.files ⟨s, bs, sure⟩, fuse := rfuse R.burns R.fuse })
theorem bytesLess_irrefl : ∀ a : List UInt8, Op.bytesLess a a = false
  | [] => rfl
  | a :: x => by simp [Op.bytesLess, bytesLess_irrefl x]
theorem bytesLess_trans : ∀ {a b c : List UInt8}, Op.bytesLess a b = true → Op.bytesLess b c = true → Op.bytesLess a c = true
  | [], _, [], _, h => by cases ‹List UInt8› <;> simp [Op.bytesLess] at h
  | [], _, _ :: _, _, _ => rfl
  | _ :: _, [], _, h, _ => by simp [Op.bytesLess] at h
  | _ :: _, _ :: _, [], _, h => by simp [Op.bytesLess] at h
  | a :: x, b :: y, c :: z, h, k => by
    simp only [Op.bytesLess, Bool.or_eq_true, Bool.and_eq_true, decide_eq_true_eq, beq_iff_eq] at h k ⊢
    rcases h with h | ⟨rfl, h⟩
    · rcases k with k | ⟨rfl, k⟩
      · exact .inl (UInt8.lt_trans h k)
      · exact .inl h
    · rcases k with k | ⟨rfl, k⟩
      · exact .inl k
      · exact .inr ⟨rfl, bytesLess_trans h k⟩
theorem bytesLess_tri : ∀ {a b : List UInt8}, Op.bytesLess a b = false → a ≠ b → Op.bytesLess b a = true
  | [], [], _, h => absurd rfl h
  | [], _ :: _, h, _ => by simp [Op.bytesLess] at h
  | _ :: _, [], _, _ => rfl
  | a :: x, b :: y, h, k => by
    simp only [Op.bytesLess, Bool.or_eq_false_iff, Bool.and_eq_false_iff, decide_eq_false_iff_not, beq_eq_false_iff_ne, Bool.or_eq_true, Bool.and_eq_true, decide_eq_true_eq, beq_iff_eq] at h ⊢
    by_cases e : a = b
    · subst e
      refine .inr ⟨rfl, bytesLess_tri (h.2.resolve_left (fun n => n rfl)) fun e => k (by rw [e])⟩
    · refine .inl ?_
      have := h.1
      rw [UInt8.lt_iff_toNat_lt] at this ⊢
      have h2 : a.toNat ≠ b.toNat := fun e2 => e (UInt8.toNat_inj.1 e2)
      omega
def Sorted (L : List File) : Prop := L.Pairwise nless
theorem Sorted.unique {L : List File} (h : Sorted L) {f g : File} (hf : f ∈ L) (hg : g ∈ L) (e : f.name = g.name) : f = g := by
  induction L with
  | nil => cases hf
  | cons x xs ih =>
    obtain ⟨h1, h2⟩ := List.pairwise_cons.1 h
    rcases List.mem_cons.1 hf with rfl | hf' <;> rcases List.mem_cons.1 hg with rfl | hg'
    · rfl
    · have := h1 g hg'
      unfold nless at this
      rw [e, bytesLess_irrefl] at this
      cases this
    · have := h1 f hf'
      unfold nless at this
      rw [← e, bytesLess_irrefl] at this
      cases this
    · exact ih h2 hf' hg'
/-- What lies in memory is that. -/
def RefAt (w : World) (br : Nat) (R : RM) (O : List Nat) : Prop := ∃ vl gl fs, RefRep w br vl gl fs R.burns R.fuse R.dead ∧ fs.map (·.f) = R.files ∧ O = rown br gl fs ∧ Sorted R.files
theorem set_map {fs : List RRep} {k : Nat} (hk : k < fs.length) (hs : Sorted (fs.map (·.f))) (f : File) (hn : fs[k].f.name = f.name) (v : Value) (g : Option Nat) : (fs.set k ⟨f, v, g⟩).map (·.f) = insL (fs.map (·.f)) f := by
  have hany : (fs.map (·.f)).any (fun q => decide (q.name = f.name)) = true := List.any_eq_true.2 ⟨fs[k].f, List.mem_map.2 ⟨_, List.getElem_mem hk, rfl⟩, by simpa using hn⟩
  unfold insL
  rw [if_pos hany, List.map_set]
  apply List.ext_getElem
  · simp
  · intro i h1 h2
    simp only [List.length_set, List.length_map] at h1
    simp only [List.getElem_set, List.getElem_map]
    by_cases e : k = i
    · subst e
      rw [if_pos rfl, if_pos hn]
    · rw [if_neg e, if_neg]
      intro e2
      have hi : i < fs.length := h1
      have hp := List.pairwise_iff_getElem.1 hs
      rcases Nat.lt_or_gt_of_ne e with hlt | hlt
      · have := hp k i (by simpa using hk) (by simpa using hi) hlt
        unfold nless at this
        rw [List.getElem_map, List.getElem_map, hn, e2, bytesLess_irrefl] at this
        cases this
      · have := hp i k (by simpa using hi) (by simpa using hk) hlt
        unfold nless at this
        rw [List.getElem_map, List.getElem_map, hn, e2, bytesLess_irrefl] at this
        cases this
theorem rsplit_at {fs : List RRep} {s : List UInt8} {k : Nat} (hk : k ≤ fs.length) (h1 : ∀ (j : Nat) (hj : j < fs.length), j < k → Op.bytesLess fs[j].f.name.toList s = true) (h2 : ∀ hk : k < fs.length, Op.bytesLess fs[k].f.name.toList s = false) :
    (fs.map (·.f)).takeWhile (fun q => Op.bytesLess q.name.toList s) = (fs.take k).map (·.f) ∧ (fs.map (·.f)).dropWhile (fun q => Op.bytesLess q.name.toList s) = (fs.drop k).map (·.f) := by
  induction fs generalizing k with
  | nil => simp
  | cons x xs ih =>
    cases k with
    | zero =>
      have := h2 (by simp)
      simp only [List.getElem_cons_zero] at this
      simp [List.takeWhile_cons, List.dropWhile_cons, this]
    | succ k =>
      have h0 := h1 0 (by simp) (by omega)
      simp only [List.getElem_cons_zero] at h0
      obtain ⟨i1, i2⟩ := ih (k := k) (by simpa using hk) (fun j hj hjk => by have := h1 (j + 1) (by simpa using hj) (by omega); simpa using this) (fun hk => by have := h2 (by simpa using hk); simpa using this)
      simp [List.takeWhile_cons, List.dropWhile_cons, h0, i1, i2]
theorem find_none {L : List File} {s : ByteArray} : (L.find? fun f => decide (f.name = s)) = none ↔ ∀ f ∈ L, f.name ≠ s := by simp
theorem sorted_ins {L : List File} (h : Sorted L) (f : File) : Sorted (insL L f) := by
  unfold insL
  split
  · unfold Sorted
    rw [List.pairwise_map]
    refine h.imp fun {a b} hab => ?_
    unfold nless at hab ⊢
    by_cases ea : a.name = f.name <;> by_cases eb : b.name = f.name
    · rw [ea, eb, bytesLess_irrefl] at hab; cases hab
    · rw [if_pos ea, if_neg eb, ← ea]; exact hab
    · rw [if_neg ea, if_pos eb, ← eb]; exact hab
    · rw [if_neg ea, if_neg eb]; exact hab
  · rename_i hany
    have hno : ∀ q ∈ L, q.name ≠ f.name := fun q hq e => hany (List.any_eq_true.2 ⟨q, hq, by simpa using e⟩)
    clear hany
    induction L with
    | nil => exact List.pairwise_singleton _ _
    | cons x xs ih =>
      obtain ⟨h1, h2⟩ := List.pairwise_cons.1 h
      have hx := hno x (by simp)
      by_cases hl : Op.bytesLess x.name.toList f.name.toList = true
      · rw [List.takeWhile_cons, if_pos hl, List.dropWhile_cons, if_pos hl, List.cons_append]
        refine List.pairwise_cons.2 ⟨fun q hq => ?_, ih h2 fun q hq => hno q (by simp [hq])⟩
        rcases List.mem_append.1 hq with hq | hq
        · exact h1 q (List.takeWhile_subset _ hq)
        · rcases List.mem_cons.1 hq with rfl | hq
          · exact hl
          · exact h1 q ((List.dropWhile_sublist _).subset hq)
      · rw [List.takeWhile_cons, if_neg hl, List.dropWhile_cons, if_neg hl, List.nil_append]
        have hfx : nless f x := bytesLess_tri (by simpa using hl) fun e => hx (toList_inj e)
        refine List.pairwise_cons.2 ⟨fun q hq => ?_, h⟩
        rcases List.mem_cons.1 hq with rfl | hq
        · exact hfx
        · exact bytesLess_trans hfx (h1 q hq)
theorem ref_set {Q : Ending → World → Prop} {w : World} {br : Nat} {R : RM} {O : List Nat} (h : RefAt w br R O) (s : ByteArray) (v : Value) (gv : Option Nat) (bs : List UInt8) (hb : Bs w v gv bs) (hgv : gv ≠ some br) (sure : Nat) (hsure : sure ≤ bs.length)
    (hQ : ∀ c w' R' O', R.set s bs sure = (c, R') → RefAt w' br R' O' → Mv w w' O O' → Q (.returned (.int .i64 c)) w') :
    Calls Try.prog 49 #[.pointer (some ⟨br, 0, none⟩), .string s, v, .int .i64 sure] w Q := by
  obtain ⟨vl, gl, fs, hrep, hfs, rfl, hst⟩ := h
  have hlen : fs.length = R.files.length := by rw [← hfs]; simp
  by_cases hlim : 1048576 < bs.length ∨ (R.find s = none ∧ 16 ≤ R.files.length)
  · refine rset_limit hrep s v gv bs hb sure ?_ (hQ 3 w R _ (by rw [RM.set, if_pos hlim]) ⟨vl, gl, fs, hrep, hfs, rfl, hst⟩ (Mv.refl _ _))
    rcases hlim with h | ⟨h1, h2⟩
    · exact .inl h
    · refine .inr ⟨fun r hr e => ?_, by omega⟩
      exact find_none.1 h1 r.f (by rw [← hfs]; exact List.mem_map.2 ⟨r, hr, rfl⟩) e
  · have hfit : bs.length ≤ 1048576 := by omega
    cases hbu : burnOk R.burns R.fuse
    · refine rset_out hrep s v gv bs hb sure hfit ?_ hbu fun w' h1 h2 => hQ 17 w' { R with dead := true } _ (by rw [RM.set, if_neg hlim, if_pos hbu]) ⟨vl, gl, fs, h1, hfs, rfl, hst⟩ ⟨h2.mono fun i _ hi => mem_rown.2 (.inl (Option.some.inj hi).symm), fun _ h => .inl h⟩
      by_cases hn : R.find s = none
      · exact .inr (by rw [hlen]; exact Nat.lt_of_not_le fun h => hlim (.inr ⟨hn, h⟩))
      · left
        obtain ⟨f, hf⟩ := Option.ne_none_iff_exists'.1 hn
        have hm := List.mem_of_find?_eq_some hf
        have hp := List.find?_some hf
        rw [← hfs] at hm
        obtain ⟨r, hr, rfl⟩ := List.mem_map.1 hm
        exact ⟨r, hr, by simpa using hp⟩
    · by_cases hn : R.find s = none
      · have hl : fs.length < 16 := by rw [hlen]; exact Nat.lt_of_not_le fun h => hlim (.inr ⟨hn, h⟩)
        have hno : ∀ r ∈ fs, r.f.name ≠ s := fun r hr => find_none.1 hn r.f (by rw [← hfs]; exact List.mem_map.2 ⟨r, hr, rfl⟩)
        refine rset_new hrep s v gv bs hb hgv sure hfit hsure hno hl hbu fun k w' vl' gl' v' g' hk h1 h2 hset => ?_
        have hins : insL R.files ⟨s, bs, sure⟩ = (fs.take k ++ ⟨⟨s, bs, sure⟩, v', g'⟩ :: fs.drop k).map (·.f) := by
          obtain ⟨e1, e2⟩ := rsplit_at hk h1 h2
          unfold insL
          rw [if_neg, ← hfs, e1, e2]
          · simp
          · intro ha
            obtain ⟨q, hq, e⟩ := List.any_eq_true.1 ha
            exact find_none.1 hn q hq (by simpa using e)
        exact hQ 0 w' _ _ (by rw [RM.set, if_neg hlim, if_neg (by rw [hbu]; simp)]) ⟨vl', gl', _, hset.rep, hins.symm, rfl, sorted_ins hst _⟩ ⟨hset.f, hset.n⟩
      · have hex : ∃ r ∈ fs, r.f.name = s := by
          obtain ⟨f, hf⟩ := Option.ne_none_iff_exists'.1 hn
          have hm := List.mem_of_find?_eq_some hf
          have hp := List.find?_some hf
          rw [← hfs] at hm
          obtain ⟨r, hr, rfl⟩ := List.mem_map.1 hm
          exact ⟨r, hr, by simpa using hp⟩
        refine rset_old hrep s v gv bs hb hgv sure hfit hsure hex hbu fun k hk w' v' g' hnm hset => ?_
        have hins := set_map hk (by rw [hfs]; exact hst) ⟨s, bs, sure⟩ hnm v' g'
        rw [hfs] at hins
        exact hQ 0 w' _ _ (by rw [RM.set, if_neg hlim, if_neg (by rw [hbu]; simp)]) ⟨vl, gl, _, hset.rep, hins, rfl, sorted_ins hst _⟩ ⟨hset.f, hset.n⟩
end Go.Proofs.Ythjpjekaiflibaa
